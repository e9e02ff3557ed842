/- Proved here: contracts of functions that the law FnExactVerdictOf reaches, and lemmas on what they compute; texts of this session and the printed words of the kit that they lean on, cut down and put together by its program link.py. Conditions: as each states. -/
import Derived.BigQuiet
import Derived.Deep.DeepMust
import Derived.Deep.QuietTactic
import Derived.Laws.CopyOwn
import Derived.Laws.EntriesVeiled
import Derived.Laws.MathBits
import Derived.Lib.Buffer
import Derived.Test.YtnaafcleafbejaaGreatZFnExactVerdictOf1
section
namespace Go.Proofs.YtnaafcleafbejaaGreat.Q
open Go.RowKit Go.Proofs.YtnaafcleafbejaaGreatW.PrintWords Go.Proofs.YtnaafcleafbejaaGreatW.PrintLast Go.Proofs.YtnaafcleafbejaaGreatW.PrintMore
set_option maxHeartbeats 8000000
set_option maxRecDepth 100000
attribute [local go_sem] zf1 zf2 zhf zhg zeu zev zf3 zf6
set_option linter.unusedVariables false
set_option linter.unusedSimpArgs false
mutual
def zd9 : Nat → List (S62) → List Bool → Int → Option ((List (S62)))
 | 0, _, _, _ => none
 | k + 1, x0, x5, x6 => if x6 ≥ 0 then (if 0 ≤ x6 then (if x6 < (x0.length : Int) then ((zc1 k ((zac x0 x6).f0) ((zac x0 x6).f1) ((zac x0 x6).f2) ((zac x0 x6).f3)).bind fun t106 => (zdc k x0 x5 x6 t106 (t106.length : Int) 0)) else (none)) else (none)) else (if 0 ≤ (x0.length : Int) then (if ((x0.length : Int) : Int).toNat ≤ 35184372088832 then (zc8 k x5 (([] : List (S62))) (List.replicate ((x0.length : Int) : Int).toNat 0) x0 (x0.length : Int) 0) else (none)) else (none))
def zdc : Nat → List (S62) → List Bool → Int → List Int → Int → Int → Option ((List (S62)))
 | 0, _, _, _, _, _, _ => none
 | k + 1, x0, x5, x6, x28, x29, x30 => if x30 < x29 then (if 0 ≤ x30 then (if x30 < (x28.length : Int) then (if 0 ≤ (rd x28 x30) then (if (rd x28 x30) < (x5.length : Int) then (if rdOf false x5 (rd x28 x30) = true then (zdc k x0 (x5.set ((rd x28 x30) : Int).toNat true) x6 x28 x29 (wrap64 (x30 + 1))) else (if 0 ≤ x6 then (if x6 < (x5.length : Int) then (zdc k x0 (x5.set ((rd x28 x30) : Int).toNat (rdOf false x5 x6)) x6 x28 x29 (wrap64 (x30 + 1))) else (none)) else (none))) else (none)) else (none)) else (none)) else (none)) else (zd9 k x0 x5 (wrap64 (x6 - 1)))
def zc8 : Nat → List Bool → List (S62) → List Int → List (S62) → Int → Int → Option ((List (S62)))
 | 0, _, _, _, _, _, _ => none
 | k + 1, x5, x9, x10, x52, x53, x54 => if x54 < x53 then (if 0 ≤ x54 then (if x54 < (x52.length : Int) then (if x54 < (x5.length : Int) then (if rdOf false x5 x54 = true then (if x54 < (x10.length : Int) then ((some (x10.set (x54 : Int).toNat (x9.length : Int) : List Int)).bind fun y123 => ((zb1 k ((zac x52 x54).f0) ((zac x52 x54).f1) ((zac x52 x54).f2) ((zac x52 x54).f3) y123).bind fun bt124 => (if x9.length < 3518437208883 then (zc8 k x5 (x9 ++ [(⟨bt124.1, bt124.2.1, bt124.2.2.1, bt124.2.2.2⟩ : S62)]) y123 x52 x53 (wrap64 (x54 + 1))) else (none)))) else (none)) else (zc8 k x5 x9 x10 x52 x53 (wrap64 (x54 + 1)))) else (none)) else (none)) else (none)) else (some x9)
end
def zg7 (k : Nat) (l0 : List (S62)) (a1 : Int) : Option ((List (S62))) := if 0 ≤ (l0.length : Int) then (if ((l0.length : Int) : Int).toNat ≤ 281474976710656 then ((some (List.replicate ((l0.length : Int) : Int).toNat false : List Bool)).bind fun y101 => (if 0 ≤ a1 then (if a1 < (y101.length : Int) then (zd9 k l0 (y101.set (a1 : Int).toNat true) a1) else (none)) else (none))) else (none)) else (none)
theorem zmo : ∀ k, (∀ y0 y1 y2, LeO (zd9 k y0 y1 y2) (zd9 (k + 1) y0 y1 y2)) ∧ (∀ y0 y1 y2 y3 y4 y5, LeO (zdc k y0 y1 y2 y3 y4 y5) (zdc (k + 1) y0 y1 y2 y3 y4 y5)) ∧ (∀ y0 y1 y2 y3 y4 y5, LeO (zc8 k y0 y1 y2 y3 y4 y5) (zc8 (k + 1) y0 y1 y2 y3 y4 y5))
 | 0 => ⟨fun _ _ _ r h => by simp [zd9] at h, fun _ _ _ _ _ _ r h => by simp [zdc] at h, fun _ _ _ _ _ _ r h => by simp [zc8] at h⟩
 | k + 1 => by
   obtain ⟨ih0, ih1, ih2⟩ := zmo k
   refine ⟨?_, ?_, ?_⟩
   · intro y0 y1 y2
     unfold zd9
     exact zm5 ih0 ih1 ih2 zco zet
   · intro y0 y1 y2 y3 y4 y5
     unfold zdc
     exact zm5 ih0 ih1 ih2 zco zet
   · intro y0 y1 y2 y3 y4 y5
     unfold zc8
     exact zm5 ih0 ih1 ih2 zco zet
theorem zoc : ∀ a0 a1 k, LeO (zg7 k a0 a1) (zg7 (k + 1) a0 a1) := by
 intro a0 a1 k
 obtain ⟨ih0, ih1, ih2⟩ := zmo k
 unfold zg7
 exact zm5 ih0 ih1 ih2 zco zet
theorem znh (k : Nat) (A0 : Option Addr) (c0 : Nat) (l0 : List (S62)) (a1 : Int) (r : List (S62)) (w : World) (hr0 : Kd.C k62 w A0 l0.length l0) (hc0 : l0.length ≤ c0) (h : zg7 k l0 a1 = some r) :
   Calls Tryz.prog 180 #[.slice A0 l0.length c0, .int .i64 a1] w fun e w' => ∃ v0_ : Value, e = .returned (v0_) ∧ Kd.R k62 62 w' w.heap.size (fun _ => True) v0_ r ∧ Below w.heap.size w w' := by
 have hu62 := Tryz.underlying62
 have HR0 := zA hr0
 have HC0 := zA hc0
 clear hr0 hc0
 have HB := zA (Below.refl w.heap.size w)
 have H := h
 unfold zg7 at H
 clear h
 by_cases c3 : 0 ≤ (l0.length : Int)
 rotate_left
 · rw [if_neg c3] at H
   exact absurd H (by simp)
 rw [if_pos c3] at H
 have c3b0 := eq_true c3
 have c3b1 := zdt c3
 clear c3
 by_cases c4 : ((l0.length : Int) : Int).toNat ≤ 281474976710656
 rotate_left
 · rw [if_neg c4] at H
   exact absurd H (by simp)
 rw [if_pos c4] at H
 have c4b0 := eq_true c4
 have c4b1 := zdt c4
 clear c4
 obtain ⟨y101, hy101⟩ : ∃ y_ : List Bool, y_ = (List.replicate ((l0.length : Int) : Int).toNat false) := ⟨_, rfl⟩
 rw [← hy101] at H; try with_reducible replace H := zbs H
 have Ny101 := zA hy101
 clear hy101
 revert H
 refine zin fun c5 H => ?_
 revert H
 refine zin fun c6 H => ?_
 obtain ⟨y104, hy104⟩ : ∃ y_ : List Bool, y_ = (y101.set (a1 : Int).toNat true) := ⟨_, rfl⟩
 rw [← hy104] at H; try with_reducible replace H := zbs H
 have Ny104 := zA hy104
 clear hy104
 have H' := zA H
 clear H
 go_enter Tryz.func180, Tryz.ntmps180
 go_wp2_with (first | ((with_reducible refine zgd 15 ?_); refine Kd.R_make Kd.bool _ 4 rfl (N := 15) rfl 166 _ _ rfl (l0.length : Int) rfl rfl Tryz.underlying166 (.bool false) 1 ycq rfl (by decide) (by omega) false (ok := fun _ => True) (okp := fun _ => True) rfl (fun _ hk => hk) trivial (zde zq21) (Nat.le_trans (Nat.mul_le_mul_right _ (zde zq21 : (l0.length : Int).toNat ≤ 281474976710656)) (by omega)) (Below.refl _ _) (zlr _) ?_; intro v102 w8 ho9 hb hg_ hnew_; clear hg_ hnew_; (first | rw [← Ny101.out] at ho9 | (simp only [Int.reduceToNat] at ho9; rw [← Ny101.out] at ho9)); have HO103 := zA (Kd.R_lower ho9 (zag zq1)); replace HB := zA (zab zq1 hb); clear hb ho9; have p7 : 0 ≤ (a1 : Int) := zde zq21; have q7 : (a1 : Int) < ((y101.length : Int) : Int) := zde zq21; obtain ⟨go7, co7, eo7, gb7, gl7, cl7, HG7⟩ := Kd.R_form HO103.out (by omega); (first | cases eo7 | (injection eo7 with ea_ en_ ec_; (first | subst ea_ | (injection ea_ with ea_; subst ea_)); subst ec_; clear en_)); have GB7 := zA gb7; have GG7 := zA HG7; clear gb7 gl7 HG7; obtain ⟨hx7_0, hf7_0⟩ := Kd.R_celln false HO103.out (a1 : Int) p7 q7; replace p7 := eq_true p7; replace q7 := eq_true q7; obtain ⟨hy10_, hz10_⟩ := Kd.R_celln false HO103.out (a1 : Int) (zde zq21) (zde zq21); have HP10 := Kd.R_putg HO103.out (a1 : Int) true) | ((with_reducible refine zgs 4 18 ?_); refine zse (w8.setCell ⟨go7, (a1 : Int).toNat, none⟩ (.bool true)) ?_; intro w11 hw; have hg : w8.grownBy w11 (some go7) := (by rw [hw]; exact HP10.2); have hp_ : Kd.R Kd.bool 4 w11 w.heap.size (fun _ => True) (.slice (some ⟨go7, 0, none⟩) y101.length co7) y104 := (by rw [hw, Ny104.out]; exact HP10.1); clear HP10; replace HO103 := zA (hp_); replace HB := zA ((zq39 GB7 : Below w.heap.size w w11)); clear hg hw hp_))
 go_loopg [6] k (fun kq v6 w' => ∃ (x5_1 : List Bool) (x6_1 : Int), v6 = .int .i64 x6_1 ∧ Aside0 (zd9 kq l0 x5_1 x6_1 = some r) ∧ Aside0 (kq ≤ k) ∧ Aside0 (Kd.R Kd.bool 4 w' w.heap.size (fun _ => True) (.slice (some ⟨go7, 0, none⟩) y101.length co7) x5_1) ∧ Aside0 (Below w.heap.size w w'))
 case atStart => exact ⟨(y104), (a1), zq5, H', ⟨zlr _⟩, ⟨zq2 HO103⟩, ⟨zq1⟩⟩
 clear H'
 obtain ⟨x5_1, x6_1, rfl, HA, HK1, HO_5, HB⟩ := hrel
 have hl5_1 := (zRr HO_5.out).1
 rw [hl5_1] at HO_5
 (try simp only [hl5_1])
 cases gk with
 | zero => exact absurd HA.out (by simp [zd9])
 | succ k1 =>
 have H := HA.out
 clear HA
 simp only [zd9] at H
 revert H
 refine zit (fun c12b0 H => ?_) fun c12b0 H => ?_
 · revert H
   refine zin fun c13 H => ?_
   revert H
   refine zin fun c14 H => ?_
   replace H := zob H
   obtain ⟨t106, A150, H⟩ := H
   have A15 := zA A150
   clear A150
   have H' := zA H
   clear H
   obtain ⟨p105, q105⟩ := zpq x6_1 l0.length
   obtain ⟨ad105, e105, hx105_0, hx105_1, hx105_2, hx105_3⟩ := zdu HR0.out x6_1 (zoe p105) (zoe q105)
   cases e105
   replace hx105_0 := zkep HB.out hx105_0
   replace hx105_1 := zkep HB.out hx105_1
   replace hx105_2 := zkep HB.out hx105_2
   replace hx105_3 := zkep HB.out hx105_3
   go_wp2_with (first | ((with_reducible refine zgc 160 ?_); refine zcl 28 Tryz.func160 (zej k1 ((zac l0 x6_1).f0) ((zac l0 x6_1).f1) ((zac l0 x6_1).f2) ((zac l0 x6_1).f3) t106 _ A15.out) ?_; rintro e w16 ⟨v107, rfl, ho0, hb⟩; refine ⟨_, rfl, ?_⟩; replace HO_5 := zA (zRb (zq2 HO_5) hb); have HO108 := zA (Kd.R_lower ho0 (zag zq1)); replace HB := zA (zab zq1 hb); (try clear hb); (try clear ho0); obtain ⟨Ao17, co17, eo17⟩ := Kd.R_slice HO108.out; subst eo17))
   go_loopg [30] k1 (fun kq v30 w' => ∃ (x5_2 : List Bool) (x30_2 : Int), v30 = .int .i64 x30_2 ∧ Aside0 (zdc kq l0 x5_2 x6_1 t106 (t106.length : Int) x30_2 = some r) ∧ Aside0 (kq ≤ k1) ∧ Aside0 (Kd.R Kd.bool 4 w' w.heap.size (fun _ => True) (.slice (some ⟨go7, 0, none⟩) x5_1.length co7) x5_2) ∧ Aside0 (Kd.R (Kd.int .i64) 3 w' w.heap.size (fun _ => True) (.slice Ao17 t106.length co17) t106) ∧ Aside0 (Below w.heap.size w w'))
   case atStart => exact ⟨(x5_1), (0), zq5, H', ⟨zlr _⟩, ⟨zq22 HO_5⟩, ⟨zq22 HO108⟩, ⟨zq1⟩⟩
   clear H'
   obtain ⟨x5_2, x30_2, rfl, HA, HK2, HO_5, HO_28, HB⟩ := hrel
   have hl5_2 := (zRr HO_5.out).1
   rw [hl5_2] at HO_5
   (try simp only [hl5_2])
   (try simp only [hl5_2] at HO_28)
   cases gk with
   | zero => exact absurd HA.out (by simp [zdc])
   | succ k2 =>
   have H := HA.out
   clear HA
   simp only [zdc] at H
   revert H
   refine zit (fun c18 H => ?_) fun c18 H => ?_
   rotate_left
   · have H' := zA H
     clear H
     go_wp2
     (try simp only [← hl5_1, ← hl5_2])
     go_roundg k2
     case measure => have := HK1.out; have := HK2.out; omega
     case rel => exact ⟨(x5_2), (wrap64 (x6_1 - 1)), zq5, H', ⟨zq42 HK1 HK2⟩, ⟨zq27 HO_5⟩, ⟨zq1⟩⟩
   revert H
   refine zin fun c19 H => ?_
   revert H
   refine zin fun c20 H => ?_
   revert H
   refine zin fun c21 H => ?_
   revert H
   refine zin fun c22 H => ?_
   obtain ⟨bq23, hbq23⟩ : ∃ b_ : Bool, b_ = (rdOf false x5_2 (rd t106 x30_2)) := ⟨_, rfl⟩
   replace H : (if bq23 = true then (zdc k2 l0 (x5_2.set ((rd t106 x30_2) : Int).toNat true) x6_1 t106 (t106.length : Int) (wrap64 (x30_2 + 1))) else (if 0 ≤ x6_1 then (if x6_1 < (x5_2.length : Int) then (zdc k2 l0 (x5_2.set ((rd t106 x30_2) : Int).toNat (rdOf false x5_2 x6_1)) x6_1 t106 (t106.length : Int) (wrap64 (x30_2 + 1))) else (none)) else (none))) = some r := by rw [← hbq23] at H; exact H
   have Nbq23 := zA hbq23
   clear hbq23
   by_cases c24 : bq23 = true
   · subst c24
     replace H := zih H
     obtain ⟨y111, hy111⟩ : ∃ y_ : List Bool, y_ = (x5_2.set ((rd t106 x30_2) : Int).toNat true) := ⟨_, rfl⟩
     rw [← hy111] at H; try with_reducible replace H := zbs H
     have Ny111 := zA hy111
     clear hy111
     have H' := zA H
     clear H
     obtain ⟨p109, q109⟩ := zpq x30_2 t106.length
     obtain ⟨ad109, e109, hx109_0⟩ := Kd.at_int (zRr HO_28.out).2.2 x30_2 (zoe p109) (zoe q109)
     cases e109
     have p110 : 0 ≤ ((rd t106 x30_2) : Int) := zde zq21
     have q110 : (rd t106 x30_2) < (x5_2.length : Int) := zde zq21
     obtain ⟨ad110, e110, hx110_0⟩ := Kd.at_bool (zRr HO_5.out).2.2 (rd t106 x30_2) p110 q110
     (try rw [← Nbq23.out] at hx110_0)
     obtain rfl : (⟨go7, 0, none⟩ : Addr) = ad110 := (by injection e110)
     (first | simp only [zcg] at hx110_0 | simp only [zok] at hx110_0 | simp only [Addr.add, Nat.zero_add] at hx110_0 | skip)
     replace p110 := eq_true p110
     replace q110 := eq_true q110
     have p25 : 0 ≤ ((rd t106 x30_2) : Int) := zde zq21
     have q25 : ((rd t106 x30_2) : Int) < ((x5_2.length : Int) : Int) := zde zq21
     obtain ⟨hx25_0, hf25_0⟩ := Kd.R_celln false HO_5.out ((rd t106 x30_2) : Int) p25 q25
     replace p25 := eq_true p25
     replace q25 := eq_true q25
     have HP26 := Kd.R_putg HO_5.out ((rd t106 x30_2) : Int) true
     go_wp2_with (first | ((with_reducible refine zgs 4 46 ?_); refine zse (wr.setCell ⟨go7, ((rd t106 x30_2) : Int).toNat, none⟩ (.bool true)) ?_; intro w27 hw; have hg : wr.grownBy w27 (some go7) := (by rw [hw]; exact HP26.2); have hp_ : Kd.R Kd.bool 4 w27 w.heap.size (fun _ => True) (.slice (some ⟨go7, 0, none⟩) x5_2.length co7) y111 := (by rw [hw, Ny111.out]; exact HP26.1); clear HP26; replace HO_28 := zA (Kd.R_over' (v := (.slice (some ⟨go7, 0, none⟩) x5_2.length co7)) (zq2 HO_28) (Kd.R_typed HO_5.out) (by decide) hg); replace HO_5 := zA (hp_); replace HB := zA ((zq39 GB7 : Below w.heap.size w w27)); clear hg hw hp_))
     (try simp only [← hl5_2])
     go_roundg k2
     case measure => have := HK1.out; have := HK2.out; omega
     case rel => exact ⟨(y111), (wrap64 (x30_2 + 1)), zq5, H', ⟨zq42 HK1 HK2⟩, ⟨zq27 HO_5⟩, ⟨zq27 HO_28⟩, ⟨zq1⟩⟩
   replace c24 := zbf c24
   subst c24
   replace H := zif H
   revert H
   refine zin fun c28 H => ?_
   revert H
   refine zin fun c29 H => ?_
   obtain ⟨y113, hy113⟩ : ∃ y_ : List Bool, y_ = (x5_2.set ((rd t106 x30_2) : Int).toNat (rdOf false x5_2 x6_1)) := ⟨_, rfl⟩
   rw [← hy113] at H; try with_reducible replace H := zbs H
   have Ny113 := zA hy113
   clear hy113
   have H' := zA H
   clear H
   obtain ⟨p109, q109⟩ := zpq x30_2 t106.length
   obtain ⟨ad109, e109, hx109_0⟩ := Kd.at_int (zRr HO_28.out).2.2 x30_2 (zoe p109) (zoe q109)
   cases e109
   have p110 : 0 ≤ ((rd t106 x30_2) : Int) := zde zq21
   have q110 : (rd t106 x30_2) < (x5_2.length : Int) := zde zq21
   obtain ⟨ad110, e110, hx110_0⟩ := Kd.at_bool (zRr HO_5.out).2.2 (rd t106 x30_2) p110 q110
   (try rw [← Nbq23.out] at hx110_0)
   obtain rfl : (⟨go7, 0, none⟩ : Addr) = ad110 := (by injection e110)
   (first | simp only [zcg] at hx110_0 | simp only [zok] at hx110_0 | simp only [Addr.add, Nat.zero_add] at hx110_0 | skip)
   replace p110 := eq_true p110
   replace q110 := eq_true q110
   obtain ⟨p112, q112⟩ := zpq x6_1 x5_2.length
   obtain ⟨ad112, e112, hx112_0⟩ := Kd.at_bool (zRr HO_5.out).2.2 x6_1 (zoe p112) (zoe q112)
   (try rw [← Nbq23.out] at hx112_0)
   obtain rfl : (⟨go7, 0, none⟩ : Addr) = ad112 := (by injection e112)
   (first | simp only [zcg] at hx112_0 | simp only [zok] at hx112_0 | simp only [Addr.add, Nat.zero_add] at hx112_0 | skip)
   have p30 : 0 ≤ ((rd t106 x30_2) : Int) := zde zq21
   have q30 : ((rd t106 x30_2) : Int) < ((x5_2.length : Int) : Int) := zde zq21
   obtain ⟨hx30_0, hf30_0⟩ := Kd.R_celln false HO_5.out ((rd t106 x30_2) : Int) p30 q30
   replace p30 := eq_true p30
   replace q30 := eq_true q30
   have HP31 := Kd.R_putg HO_5.out ((rd t106 x30_2) : Int) (rdOf false x5_2 x6_1)
   go_wp2_with (first | ((with_reducible refine zgs 4 46 ?_); refine zse (wr.setCell ⟨go7, ((rd t106 x30_2) : Int).toNat, none⟩ (.bool (rdOf false x5_2 x6_1))) ?_; intro w32 hw; have hg : wr.grownBy w32 (some go7) := (by rw [hw]; exact HP31.2); have hp_ : Kd.R Kd.bool 4 w32 w.heap.size (fun _ => True) (.slice (some ⟨go7, 0, none⟩) x5_2.length co7) y113 := (by rw [hw, Ny113.out]; exact HP31.1); clear HP31; replace HO_28 := zA (Kd.R_over' (v := (.slice (some ⟨go7, 0, none⟩) x5_2.length co7)) (zq2 HO_28) (Kd.R_typed HO_5.out) (by decide) hg); replace HO_5 := zA (hp_); replace HB := zA ((zq39 GB7 : Below w.heap.size w w32)); clear hg hw hp_))
   (try simp only [← hl5_2])
   go_roundg k2
   case measure => have := HK1.out; have := HK2.out; omega
   case rel => exact ⟨(y113), (wrap64 (x30_2 + 1)), zq5, H', ⟨zq42 HK1 HK2⟩, ⟨zq27 HO_5⟩, ⟨zq27 HO_28⟩, ⟨zq1⟩⟩
 obtain ⟨y114, hy114⟩ : ∃ y_ : List (S62), y_ = (([] : List (S62))) := ⟨_, rfl⟩
 rw [← hy114] at H; try with_reducible replace H := zbs H
 have Ny114 := zA hy114
 clear hy114
 by_cases c33 : 0 ≤ (l0.length : Int)
 rotate_left
 · rw [if_neg c33] at H
   exact absurd H (by simp)
 rw [if_pos c33] at H
 have c33b0 := eq_true c33
 have c33b1 := zdt c33
 clear c33
 by_cases c34 : ((l0.length : Int) : Int).toNat ≤ 35184372088832
 rotate_left
 · rw [if_neg c34] at H
   exact absurd H (by simp)
 rw [if_pos c34] at H
 have c34b0 := eq_true c34
 have c34b1 := zdt c34
 clear c34
 obtain ⟨y117, hy117⟩ : ∃ y_ : List Int, y_ = (List.replicate ((l0.length : Int) : Int).toNat 0) := ⟨_, rfl⟩
 rw [← hy117] at H; try with_reducible replace H := zbs H
 have Ny117 := zA hy117
 clear hy117
 have H' := zA H
 clear H
 try go_wp2
 replace HO_5 := zA (zRd HO_5.out)
 replace HB := zA (zbd HB.out)
 refine zra (n := 6) (S := fun w' => True) (ds := []) #[false, false, false, false, false, false] zq28 rfl rfl trivial (fun hHeld => ?_)
 generalize wr.drew = w35 at HO_5 HB hHeld ⊢
 refine zpk 1 49 ?_
 refine zpk 2 50 ?_
 refine yea (σ := Value × Value) 1 #[true, true, true, true, true, false] (fun s_ => [(48, s_.1), (51, s_.2), (9, s_.1)]) (fun s_ w' => (Kd.R k62 62 w' w.heap.size (fun _ => True) s_.1 y114) ∧ (Kd.R (Kd.int .i64) 3 w' w.heap.size (fun _ => True) s_.2 y117) ∧ (Kd.R Kd.bool 4 w' w.heap.size (fun _ => True) (.slice (some ⟨go7, 0, none⟩) x5_1.length co7) x5_1) ∧ (Below w.heap.size w w')) ?_ ?_
 rotate_left
 · intro hCont
   refine two_ (i := 0) (j := 3) (Ni := some 48) (Nj := some 51) #[true, true, true, false, false, false] #[false, true, true, true, false, false] rfl rfl rfl rfl zq28 (by decide) (by decide) (fun K hK => ?_) (fun K hK => ?_)
   · skip
     refine Kd.R_lit_step k62 _ 62 ?hg (N := 48) ?hd (xs := ([] : List (S62))) (inner := []) (ok := fun _ => True) (okp := fun _ => True) ?hr ?hp (fun _ hk => hk) trivial (Below.refl _ _) (zlr _) (by simp) ?_; (case hd => rfl); (case hg => rfl); (case hr => go_simp <;> rfl); (case hp => exact (Reps.none _ _))
     intro v115 w36 ho37 hb hg_ hnew_
     clear hg_ hnew_
     (first | rw [← Ny114.out] at ho37 | (simp only [Int.reduceToNat] at ho37; rw [← Ny114.out] at ho37))
     replace HO_5 := zA (zRb (zq2 HO_5) hb)
     have HO116 := zA (Kd.R_lower ho37 (zag zq1))
     replace HB := zA (zab zq1 hb)
     clear hb ho37
     refine hK.out _ _ trivial (fun hHeld => ?_)
     clear hK K
     refine znm 48 ?_
     refine yal (i := 4) (N := some 9) (v := ?_) (a' := ?_) #[true, true, true, false, true, false] rfl rfl zq28 (fun _ _ _ h => h) (Or.inl ⟨by rfl, ?_⟩) ?_ ?_
     rotate_left
     · intro w'
       go_simp
       with_reducible rfl
     rotate_left
     · simp only [Act.put, List.setIfInBounds_toArray, List.set_cons_zero, List.set_cons_succ, zgy, zjw]
       rfl
     refine one_ (i := 3) (N := some 51) #[true, true, true, true, true, false] rfl rfl zq28 (by decide) (fun K hK => ?_)
     refine Kd.R_make_step (Kd.int .i64) _ 3 (by rfl) (N := 51) rfl 24 _ _ rfl (l0.length : Int) rfl rfl Tryz.underlying24 (.int .i64 0) 8 zn1 rfl (by decide) (by omega) 0 (ok := fun _ => True) (okp := fun _ => True) rfl (fun _ hk => hk) trivial (zde zq21) (Nat.le_trans (Nat.mul_le_mul_right _ (zde zq21 : (l0.length : Int).toNat ≤ 35184372088832)) (by omega)) (Below.refl _ _) (zlr _) ?_
     intro v118 w38 ho39 hb hg_ hnew_
     clear hg_ hnew_
     (first | rw [← Ny117.out] at ho39 | (simp only [Int.reduceToNat] at ho39; rw [← Ny117.out] at ho39))
     replace HO_5 := zA (zRb (zq2 HO_5) hb)
     replace HO116 := zA (zRb (zq2 HO116) hb)
     have HO119 := zA (Kd.R_lower ho39 (zag zq1))
     replace HB := zA (zab zq1 hb)
     clear hb ho39
     refine hK.out _ _ trivial (fun hHeld => ?_)
     clear hK K
     refine znm 51 ?_
     exact zwb zq52 (hCont (v115, v118) _ ⟨(zq2 HO116), (zq2 HO119), (zq2 HO_5), zq1⟩)
   skip
   refine Kd.R_make_step (Kd.int .i64) _ 3 (by rfl) (N := 51) rfl 24 _ _ rfl (l0.length : Int) rfl rfl Tryz.underlying24 (.int .i64 0) 8 zn1 rfl (by decide) (by omega) 0 (ok := fun _ => True) (okp := fun _ => True) rfl (fun _ hk => hk) trivial (zde zq21) (Nat.le_trans (Nat.mul_le_mul_right _ (zde zq21 : (l0.length : Int).toNat ≤ 35184372088832)) (by omega)) (Below.refl _ _) (zlr _) ?_
   intro v118 w36 ho37 hb hg_ hnew_
   clear hg_ hnew_
   (first | rw [← Ny117.out] at ho37 | (simp only [Int.reduceToNat] at ho37; rw [← Ny117.out] at ho37))
   replace HO_5 := zA (zRb (zq2 HO_5) hb)
   have HO119 := zA (Kd.R_lower ho37 (zag zq1))
   replace HB := zA (zab zq1 hb)
   clear hb ho37
   refine hK.out _ _ trivial (fun hHeld => ?_)
   clear hK K
   refine znm 51 ?_
   refine one_ (i := 0) (N := some 48) #[true, true, true, true, false, false] rfl rfl zq28 (by decide) (fun K hK => ?_)
   refine Kd.R_lit_step k62 _ 62 ?hg (N := 48) ?hd (xs := ([] : List (S62))) (inner := []) (ok := fun _ => True) (okp := fun _ => True) ?hr ?hp (fun _ hk => hk) trivial (Below.refl _ _) (zlr _) (by simp) ?_; (case hd => rfl); (case hg => rfl); (case hr => go_simp <;> rfl); (case hp => exact (Reps.none _ _))
   intro v115 w38 ho39 hb hg_ hnew_
   clear hg_ hnew_
   (first | rw [← Ny114.out] at ho39 | (simp only [Int.reduceToNat] at ho39; rw [← Ny114.out] at ho39))
   replace HO_5 := zA (zRb (zq2 HO_5) hb)
   replace HO119 := zA (zRb (zq2 HO119) hb)
   have HO116 := zA (Kd.R_lower ho39 (zag zq1))
   replace HB := zA (zab zq1 hb)
   clear hb ho39
   refine hK.out _ _ trivial (fun hHeld => ?_)
   clear hK K
   refine znm 48 ?_
   refine zpk 4 9 ?_
   exact zwb zq52 (hCont (v115, v118) _ ⟨(zq2 HO116), (zq2 HO119), (zq2 HO_5), zq1⟩)
 rintro ⟨v115, v118⟩ w40 ⟨h0_, h1_, h2_, h3_⟩
 have n0_ : Aside0 (Kd.R k62 62 w40 w.heap.size (fun _ => True) v115 y114) := ⟨h0_⟩
 have n1_ : Aside0 (Kd.R (Kd.int .i64) 3 w40 w.heap.size (fun _ => True) v118 y117) := ⟨h1_⟩
 have n2_ : Aside0 (Kd.R Kd.bool 4 w40 w.heap.size (fun _ => True) (.slice (some ⟨go7, 0, none⟩) x5_1.length co7) x5_1) := ⟨h2_⟩
 have n3_ : Aside0 (Below w.heap.size w w40) := ⟨h3_⟩
 clear HO_5
 clear HB
 clear h0_ h1_ h2_ h3_
 have HO116 := n0_
 have HO119 := n1_
 have HO_5 := n2_
 have HB := n3_
 clear n0_ n1_ n2_ n3_
 have hHeld := trivial
 refine zwb (a' := ?_) ?_ ?_
 rotate_left
 · simp only [zto, Act.put, List.setIfInBounds_toArray, List.set_cons_zero, List.set_cons_succ]
   rfl
 refine zpk 5 10 ?_
 refine zvd zq28 ?_
 try go_wp2
 go_loopg [9, 54] k1 (fun kq v9 v54 w' => ∃ (x9_2 : List (S62)) (x10_2 : List Int) (x54_2 : Int), v54 = .int .i64 x54_2 ∧ Aside0 (zc8 kq x5_1 x9_2 x10_2 l0 (l0.length : Int) x54_2 = some r) ∧ Aside0 (kq ≤ k1) ∧ Aside0 (Kd.R Kd.bool 4 w' w.heap.size (fun _ => True) (.slice (some ⟨go7, 0, none⟩) x5_1.length co7) x5_1) ∧ Aside0 (Kd.R k62 62 w' w.heap.size (fun _ => True) v9 x9_2) ∧ Aside0 (Kd.R (Kd.int .i64) 3 w' w.heap.size (fun _ => True) v118 x10_2) ∧ Aside0 (Below w.heap.size w w'))
 case atStart => exact ⟨(y114), (y117), (0), zq5, H', ⟨zlr _⟩, ⟨zq22 HO_5⟩, ⟨zq22 HO116⟩, ⟨zq22 HO119⟩, ⟨zq1⟩⟩
 clear H'
 obtain ⟨x9_2, x10_2, x54_2, rfl, HA, HK2, HO_5, HO_9, HO_10, HB⟩ := hrel
 cases gk with
 | zero => exact absurd HA.out (by simp [zc8])
 | succ k2 =>
 have H := HA.out
 clear HA
 simp only [zc8] at H
 revert H
 refine zit (fun c41 H => ?_) fun c41 H => ?_
 rotate_left
 · obtain rfl := zsi H
   go_wp2
   go_ret
   exact ⟨_, zq4, zq2 HO_9, zq1⟩
 revert H
 refine zin fun c42 H => ?_
 revert H
 refine zin fun c43 H => ?_
 revert H
 refine zin fun c44 H => ?_
 obtain ⟨bq45, hbq45⟩ : ∃ b_ : Bool, b_ = (rdOf false x5_1 x54_2) := ⟨_, rfl⟩
 replace H : (if bq45 = true then (if x54_2 < (x10_2.length : Int) then ((some (x10_2.set (x54_2 : Int).toNat (x9_2.length : Int) : List Int)).bind fun y123 => ((zb1 k2 ((zac l0 x54_2).f0) ((zac l0 x54_2).f1) ((zac l0 x54_2).f2) ((zac l0 x54_2).f3) y123).bind fun bt124 => (if x9_2.length < 3518437208883 then (zc8 k2 x5_1 (x9_2 ++ [(⟨bt124.1, bt124.2.1, bt124.2.2.1, bt124.2.2.2⟩ : S62)]) y123 l0 (l0.length : Int) (wrap64 (x54_2 + 1))) else (none)))) else (none)) else (zc8 k2 x5_1 x9_2 x10_2 l0 (l0.length : Int) (wrap64 (x54_2 + 1)))) = some r := by rw [← hbq45] at H; exact H
 have Nbq45 := zA hbq45
 clear hbq45
 by_cases c46 : bq45 = true
 rotate_left
 · replace c46 := zbf c46
   subst c46
   replace H := zif H
   have H' := zA H
   clear H
   obtain ⟨p120, q120⟩ := zpq x54_2 l0.length
   obtain ⟨ad120, e120, hx120_0, hx120_1, hx120_2, hx120_3⟩ := zdu HR0.out x54_2 (zoe p120) (zoe q120)
   cases e120
   replace hx120_0 := zkep HB.out hx120_0
   replace hx120_1 := zkep HB.out hx120_1
   replace hx120_2 := zkep HB.out hx120_2
   replace hx120_3 := zkep HB.out hx120_3
   go_wp2_with (first | ((with_reducible refine zgd 12 ?_); refine zbx #[.string (⟨#[]⟩ : ByteArray), .int .i64 0, .int .i64 0, .int .i64 0] 62 ?_; intro gb121 hg w60 hbox hb; have zs := zpair zq1 hb; replace HO_5 := zA (zRb (zq2 HO_5) hb); replace HO_9 := zA (zRb (Kd.R_elderB (zq2 HO_9) gb121 (Nat.le_of_eq hg.symm)) hb); replace HO_10 := zA (zRb (zq2 HO_10) hb); replace HB := zA (zs.1); have BK121 := zA (hbox); have GW121 := zA (zge hg zs.2); have GE121 := GW121; clear zs hb hbox hg; obtain ⟨hcz61_0, hcz61_1, hcz61_2, hcz61_3, hfz61_0, hfz61_1, hfz61_2, hfz61_3⟩ := zd4 BK121; have p122 : 0 ≤ (x54_2 : Int) := zde zq21; have q122 : x54_2 < (x5_1.length : Int) := zde zq21; obtain ⟨ad122, e122, hx122_0⟩ := Kd.at_bool (zRr HO_5.out).2.2 x54_2 p122 q122; (try rw [← Nbq45.out] at hx122_0); obtain rfl : (⟨go7, 0, none⟩ : Addr) = ad122 := (by injection e122); (first | simp only [zcg] at hx122_0 | simp only [zok] at hx122_0 | simp only [Addr.add, Nat.zero_add] at hx122_0 | skip); have hn122_0 : (⟨go7, 0, none⟩ : Addr).block ≠ gb121 := Kd.own_blk (Kd.R_ne HO_5.out BK121.out (by decide)); have hn122_1 : (⟨go7, 0, none⟩ : Addr).block ≠ gb121 := Kd.own_blk (Kd.R_ne HO_5.out BK121.out (by decide)); have hn122_2 : (⟨go7, 0, none⟩ : Addr).block ≠ gb121 := Kd.own_blk (Kd.R_ne HO_5.out BK121.out (by decide)); have hn122_3 : (⟨go7, 0, none⟩ : Addr).block ≠ gb121 := Kd.own_blk (Kd.R_ne HO_5.out BK121.out (by decide)); replace hx122_0 := (zb3 (p := ⟨gb121, 0, none⟩) (by first | (rw [zb4]; exact hn122_0) | (show (Addr.add _ _).block ≠ _; rw [zb4]; exact hn122_0) | exact hn122_0) (.string ((zac l0 x54_2).f0))).trans hx122_0; replace hx122_0 := (zb3 (p := ⟨gb121, 1, none⟩) (by first | (rw [zb4]; exact hn122_1) | (show (Addr.add _ _).block ≠ _; rw [zb4]; exact hn122_1) | exact hn122_1) (.int .i64 ((zac l0 x54_2).f1))).trans hx122_0; replace hx122_0 := (zb3 (p := ⟨gb121, 2, none⟩) (by first | (rw [zb4]; exact hn122_2) | (show (Addr.add _ _).block ≠ _; rw [zb4]; exact hn122_2) | exact hn122_2) (.int .i64 ((zac l0 x54_2).f2))).trans hx122_0; replace hx122_0 := (zb3 (p := ⟨gb121, 3, none⟩) (by first | (rw [zb4]; exact hn122_3) | (show (Addr.add _ _).block ≠ _; rw [zb4]; exact hn122_3) | exact hn122_3) (.int .i64 ((zac l0 x54_2).f3))).trans hx122_0; clear hn122_0; clear hn122_1; clear hn122_2; clear hn122_3; replace p122 := eq_true p122; replace q122 := eq_true q122))
   go_roundg k2
   case measure => have := HK1.out; have := HK2.out; omega
   case rel => exact ⟨(x9_2), (x10_2), (wrap64 (x54_2 + 1)), zq5, H', ⟨zq42 HK1 HK2⟩, ⟨zq43 HO_5 BK121⟩, ⟨by (try simp only [hl5_1]); (with_reducible repeat (first | apply zRa | apply zRn | apply zRd)); exact Kd.R_mono (Kd.R_far (p := ⟨gb121, 3, none⟩) (Kd.R_far (p := ⟨gb121, 2, none⟩) (Kd.R_far (p := ⟨gb121, 1, none⟩) (Kd.R_far (p := ⟨gb121, 0, none⟩) (Kd.R_mono HO_9.out (fun k_ hk => (⟨hk, hk.2⟩ : _ ∧ k_ ≠ gb121))) (fun _ hk => hk.2) (.string ((zac l0 x54_2).f0))) (fun _ hk => hk.2) (.int .i64 ((zac l0 x54_2).f1))) (fun _ hk => hk.2) (.int .i64 ((zac l0 x54_2).f2))) (fun _ hk => hk.2) (.int .i64 ((zac l0 x54_2).f3))) (fun _ hk => trivial)⟩, ⟨zq43 HO_10 BK121⟩, ⟨zq3 GE121⟩⟩
 subst c46
 replace H := zih H
 revert H
 refine zin fun c47 H => ?_
 obtain ⟨y123, hy123⟩ : ∃ y_ : List Int, y_ = (x10_2.set (x54_2 : Int).toNat (x9_2.length : Int)) := ⟨_, rfl⟩
 rw [← hy123] at H; try with_reducible replace H := zbs H
 have Ny123 := zA hy123
 clear hy123
 replace H := zob H
 obtain ⟨⟨t124, t125, t126, t127⟩, A490, H⟩ := H
 have A49 := zA A490
 clear A490
 by_cases c50 : x9_2.length < 3518437208883
 rotate_left
 · rw [if_neg c50] at H
   exact absurd H (by simp)
 rw [if_pos c50] at H
 have LMc50 := zA c50
 clear c50
 obtain ⟨y128, hy128⟩ : ∃ y_ : List (S62), y_ = (x9_2 ++ [(⟨t124, t125, t126, t127⟩ : S62)]) := ⟨_, rfl⟩
 rw [← hy128] at H; try with_reducible replace H := zbs H
 have Ny128 := zA hy128
 clear hy128
 have H' := zA H
 clear H
 obtain ⟨p120, q120⟩ := zpq x54_2 l0.length
 obtain ⟨ad120, e120, hx120_0, hx120_1, hx120_2, hx120_3⟩ := zdu HR0.out x54_2 (zoe p120) (zoe q120)
 cases e120
 replace hx120_0 := zkep HB.out hx120_0
 replace hx120_1 := zkep HB.out hx120_1
 replace hx120_2 := zkep HB.out hx120_2
 replace hx120_3 := zkep HB.out hx120_3
 go_wp2_with (first | ((with_reducible refine zgd 12 ?_); refine zbx #[.string (⟨#[]⟩ : ByteArray), .int .i64 0, .int .i64 0, .int .i64 0] 62 ?_; intro gb121 hg w51 hbox hb; have zs := zpair zq1 hb; replace HO_5 := zA (zRb (zq2 HO_5) hb); replace HO_9 := zA (zRb (Kd.R_elderB (zq2 HO_9) gb121 (Nat.le_of_eq hg.symm)) hb); replace HO_10 := zA (zRb (zq2 HO_10) hb); replace HB := zA (zs.1); have BK121 := zA (hbox); have GW121 := zA (zge hg zs.2); have GE121 := GW121; clear zs hb hbox hg; obtain ⟨hcz52_0, hcz52_1, hcz52_2, hcz52_3, hfz52_0, hfz52_1, hfz52_2, hfz52_3⟩ := zd4 BK121) | ((with_reducible refine zgs 62 12 ?_); refine zse ((((w51.setCell ⟨gb121, 0, none⟩ (.string ((zac l0 x54_2).f0))).setCell ⟨gb121, 1, none⟩ (.int .i64 ((zac l0 x54_2).f1))).setCell ⟨gb121, 2, none⟩ (.int .i64 ((zac l0 x54_2).f2))).setCell ⟨gb121, 3, none⟩ (.int .i64 ((zac l0 x54_2).f3))) ?_; intro w53 hw; have n0_ : Aside0 (Kd.R Kd.bool 4 w53 w.heap.size (fun _ => True) (.slice (some ⟨go7, 0, none⟩) x5_1.length co7) x5_1) := ⟨(zq44 HO_5 BK121)⟩; have n1_ : Aside0 (Kd.R k62 62 w53 w.heap.size (fun k_ => k_ ≠ gb121) u9 x9_2) := ⟨(by rw [hw]; exact (by (with_reducible repeat (first | apply zRa | apply zRn | apply zRd)); exact Kd.R_mono (Kd.R_far (p := ⟨gb121, 3, none⟩) (Kd.R_far (p := ⟨gb121, 2, none⟩) (Kd.R_far (p := ⟨gb121, 1, none⟩) (Kd.R_far (p := ⟨gb121, 0, none⟩) (Kd.R_mono HO_9.out (fun k_ hk => (⟨hk, hk.2⟩ : _ ∧ k_ ≠ gb121))) (fun _ hk => hk.2) (.string ((zac l0 x54_2).f0))) (fun _ hk => hk.2) (.int .i64 ((zac l0 x54_2).f1))) (fun _ hk => hk.2) (.int .i64 ((zac l0 x54_2).f2))) (fun _ hk => hk.2) (.int .i64 ((zac l0 x54_2).f3))) (fun _ hk => hk.1.2)))⟩; have n2_ : Aside0 (Kd.R (Kd.int .i64) 3 w53 w.heap.size (fun _ => True) v118 x10_2) := ⟨(zq44 HO_10 BK121)⟩; have n3_ : Aside0 (w53.heap[gb121]? = some (.cells #[.string ((zac l0 x54_2).f0), .int .i64 ((zac l0 x54_2).f1), .int .i64 ((zac l0 x54_2).f2), .int .i64 ((zac l0 x54_2).f3)] 62 (0, 0))) := ⟨(by rw [hw]; exact (by (with_reducible repeat (first | refine zkn ?_ _ | refine zkd ?_ | refine zka ?_ _)); refine za7 (cs := #[.string ((zac l0 x54_2).f0), .int .i64 ((zac l0 x54_2).f1), .int .i64 ((zac l0 x54_2).f2), .int .i64 0]) ?_ 3 _ rfl; (with_reducible repeat (first | refine zkn ?_ _ | refine zkd ?_ | refine zka ?_ _)); refine za7 (cs := #[.string ((zac l0 x54_2).f0), .int .i64 ((zac l0 x54_2).f1), .int .i64 0, .int .i64 0]) ?_ 2 _ rfl; (with_reducible repeat (first | refine zkn ?_ _ | refine zkd ?_ | refine zka ?_ _)); refine za7 (cs := #[.string ((zac l0 x54_2).f0), .int .i64 0, .int .i64 0, .int .i64 0]) ?_ 1 _ rfl; (with_reducible repeat (first | refine zkn ?_ _ | refine zkd ?_ | refine zka ?_ _)); refine za7 (cs := #[.string (⟨#[]⟩ : ByteArray), .int .i64 0, .int .i64 0, .int .i64 0]) ?_ 0 _ rfl; (with_reducible repeat (first | refine zkn ?_ _ | refine zkd ?_ | refine zka ?_ _)); exact BK121.out))⟩; have n4_ : Aside0 (Below w.heap.size w w53) := ⟨(by rw [hw]; exact (zq3 GE121))⟩; clear hw; clear HO_5 HO_9; clear HO_10 BK121 HB; have HO_5 := n0_; have HO_9 := n1_; have HO_10 := n2_; have BK121 := n3_; have HB := n4_; clear n0_ n1_ n2_ n3_ n4_; have p122 : 0 ≤ (x54_2 : Int) := zde zq21; have q122 : x54_2 < (x5_1.length : Int) := zde zq21; obtain ⟨ad122, e122, hx122_0⟩ := Kd.at_bool (zRr HO_5.out).2.2 x54_2 p122 q122; (try rw [← Nbq45.out] at hx122_0); obtain rfl : (⟨go7, 0, none⟩ : Addr) = ad122 := (by injection e122); (first | simp only [zcg] at hx122_0 | simp only [zok] at hx122_0 | simp only [Addr.add, Nat.zero_add] at hx122_0 | skip); replace p122 := eq_true p122; replace q122 := eq_true q122; obtain ⟨Ao54, co54, eo54⟩ := Kd.R_slice HO_9.out; subst eo54; have p48 : 0 ≤ (x54_2 : Int) := zde zq21; have q48 : (x54_2 : Int) < ((x10_2.length : Int) : Int) := zde zq21; obtain ⟨go48, co48, eo48, gb48, gl48, cl48, HG48⟩ := Kd.R_form HO_10.out (by omega); (first | cases eo48 | (injection eo48 with ea_ en_ ec_; (first | subst ea_ | (injection ea_ with ea_; subst ea_)); subst ec_; clear en_)); have GB48 := zA gb48; have GG48 := zA HG48; clear gb48 gl48 HG48; obtain ⟨hx48_0, hf48_0⟩ := Kd.R_celln 0 HO_10.out (x54_2 : Int) p48 q48; replace p48 := eq_true p48; replace q48 := eq_true q48; obtain ⟨hy55_, hz55_⟩ := Kd.R_celln 0 HO_10.out (x54_2 : Int) (zde zq21) (zde zq21); have HP55 := Kd.R_putg HO_10.out (x54_2 : Int) (x9_2.length : Int)) | ((with_reducible refine zgs 3 67 ?_); refine zse (w53.setCell ⟨go48, (x54_2 : Int).toNat, none⟩ (.int .i64 (x9_2.length : Int))) ?_; intro w56 hw; have hg : w53.grownBy w56 (some go48) := (by rw [hw]; exact HP55.2); have hp_ : Kd.R (Kd.int .i64) 3 w56 w.heap.size (fun _ => True) (.slice (some ⟨go48, 0, none⟩) x10_2.length co48) y123 := (by rw [hw, Ny123.out]; exact HP55.1); clear HP55; replace HO_5 := zA (Kd.R_over' (v := (.slice (some ⟨go48, 0, none⟩) x10_2.length co48)) (zq2 HO_5) (Kd.R_typed HO_10.out) (by decide) hg); replace HO_9 := zA (Kd.R_over' (v := (.slice (some ⟨go48, 0, none⟩) x10_2.length co48)) (zq2 HO_9) (Kd.R_typed HO_10.out) (by decide) hg); replace BK121 := zA (zew (g := gb121) (o := .cells #[.string ((zac l0 x54_2).f0), .int .i64 ((zac l0 x54_2).f1), .int .i64 ((zac l0 x54_2).f2), .int .i64 ((zac l0 x54_2).f3)] 62 (0, 0)) (zq8 BK121) hg (Kd.R_ne HO_10.out BK121.out (by decide))); replace HO_10 := zA (hp_); replace HB := zA ((zq39 GB48 : Below w.heap.size w w56)); clear hg hw hp_; obtain ⟨hcz57_0, hcz57_1, hcz57_2, hcz57_3⟩ := zc4 w56 (.string ((zac l0 x54_2).f0)) (.int .i64 ((zac l0 x54_2).f1)) (.int .i64 ((zac l0 x54_2).f2)) (.int .i64 ((zac l0 x54_2).f3)) BK121.out; obtain ⟨hfz57_0, hfz57_1, hfz57_2, hfz57_3⟩ := zf4 BK121.out) | ((with_reducible refine zsk (f := 196) rfl ?_); refine zxc (some 71) rfl rfl Tryz.func196 zq28 rfl #[.agg #[.string ((zac l0 x54_2).f0), .int .i64 ((zac l0 x54_2).f1), .int .i64 ((zac l0 x54_2).f2), .int .i64 ((zac l0 x54_2).f3)], .slice (some ⟨go48, 0, none⟩) y123.length co48] rfl (by (try simp only [List.map_toArray, List.map_cons, List.map_nil]); first | done | (rw [show y123.length = x10_2.length from (zRr HO_10.out).1.symm] <;> rfl) | rfl | (simp only [List.length_drop, List.length_take]; rfl)) ?_; (with_reducible refine (ziv k2 ((zac l0 x54_2).f0) ((zac l0 x54_2).f1) ((zac l0 x54_2).f2) ((zac l0 x54_2).f3) _ _ y123 t124 t125 t126 t127 _ ?side1 ?side2 A49.out).mono ?_); (case side1 => repeat (first | exact (zRr HO_10.out).2.2 | (with_reducible first | refine zCa ?_ _ | refine zCn ?_ _ | refine zCd ?_))); (case side2 => rw [show y123.length = x10_2.length from (zRr HO_10.out).1.symm]; exact (zRr HO_10.out).2.1); rintro e w58 ⟨rfl, hb⟩; refine ⟨_, rfl, ?_⟩; replace HO_5 := zA (zRb (zq2 HO_5) hb); replace HO_9 := zA (zRb (zq2 HO_9) hb); replace HO_10 := zA (zRb (zq2 HO_10) hb); replace BK121 := zbb BK121 hb; replace HB := zA (zab (zq3 GE121) hb); (try clear hb)) | ((with_reducible refine zfe (b := .append) (xs := #[.tmp 68, .tmp 72]) rfl ?_); at_builtin; refine Kd.R_append k62 (w0 := w) w.heap.size rfl (.tmp 68) (.tmp 72) 32 62 (.agg #[(.string ⟨#[]⟩), (.int .i64 0), (.int .i64 0), (.int .i64 0)]) 40 rfl Tryz.underlying32 zq0 rfl (by decide) (by omega) (.slice Ao54 x9_2.length co54) x9_2 (⟨t124, t125, t126, t127⟩ : S62) [.string t124, .int .i64 t125, .int .i64 t126, .int .i64 t127] (fun k_ => k_ ≠ gb121) (fun _ => False) rfl rfl ?aP (fun _ hk => hk.elim) ?aF ?aO ?aB ?aS ?aL ?_; (case aP => exact zhd _ _ _ (⟨t124, t125, t126, t127⟩ : S62)); (case aB => exact (zq3 GE121)); (case aF => exact (fun k_ hk => Kd.freshB (g := gb121) (o := .cells #[.string ((zac l0 x54_2).f0), .int .i64 ((zac l0 x54_2).f1), .int .i64 ((zac l0 x54_2).f2), .int .i64 ((zac l0 x54_2).f3)] 62 (0, 0)) (zq8 BK121) k_ hk)); (case aO => exact (zq2 HO_9)); (case aS => exact (zag (zq3 GE121))); (case aL => have := LMc50.out; omega); intro v129 w59 ho hb hg hat; rw [← Ny128.out] at ho; replace HO_5 := zA (Kd.R_over' (zq2 HO_5) (Kd.R_typed (zq2 HO_9)) (by decide) hg); replace HO_10 := zA (Kd.R_over' (zq2 HO_10) (Kd.R_typed (zq2 HO_9)) (by decide) hg); replace BK121 := zA (zew (g := gb121) (o := .cells #[.string ((zac l0 x54_2).f0), .int .i64 ((zac l0 x54_2).f1), .int .i64 ((zac l0 x54_2).f2), .int .i64 ((zac l0 x54_2).f3)] 62 (0, 0)) (zq8 BK121) hg (Kd.R_away HO_9.out (fun _ hk => hk))); replace HB := zA (hb); have HO130 := zA (ho); clear HO_9; clear ho hb hg hat))
 go_roundg k2
 case measure => have := HK1.out; have := HK2.out; omega
 case rel => exact ⟨(y128), (y123), (wrap64 (x54_2 + 1)), zq5, H', ⟨zq42 HK1 HK2⟩, ⟨zq22 HO_5⟩, ⟨by (try simp only [hl5_1]); (with_reducible repeat (first | apply zRa | apply zRn | apply zRd)); exact Kd.R_mono HO130.out (fun _ hk => trivial)⟩, ⟨zq22 HO_10⟩, ⟨zq3 GE121⟩⟩
structure FdX (wr : World) (go co gx : Nat) (x : S62) (Ap : Option Addr) (cp : Nat) (ps own : List Int) (W : World) : Prop where
 below : Below wr.heap.size wr W
 bx : W.heap[gx]? = some (.cells #[.string x.f0, .int .i64 x.f1, .int .i64 x.f2, .int .i64 x.f3] 62 (0, 0))
 own : Kd.R (Kd.int .i64) 3 W wr.heap.size (fun k => k = go) (.slice (some ⟨go, 0, none⟩) 2 co) own
 ps : Kd.R (Kd.int .i64) 3 W wr.heap.size (fun k => k ≠ go) (.slice Ap ps.length cp) ps
 ne : gx ≠ go
section
variable {wr W W1 : World} {go co gx : Nat} {x : S62} {Ap : Option Addr} {cp : Nat} {ps own : List Int}
theorem FdX.step (h : FdX wr go co gx x Ap cp ps own W) (hb : Below W.heap.size W W1) : FdX wr go co gx x Ap cp ps own W1 := ⟨zab h.below hb, zah h.bx hb, zRb h.own hb, zRb h.ps hb, h.ne⟩
theorem FdX.setn (h : FdX wr go co gx x Ap cp ps own W) (j : Nat) (y : Int) : FdX wr go co gx x Ap cp ps (own.set j y) (W.setCell ⟨go, j, none⟩ (.int .i64 y)) :=
 ⟨h.below.setCell (p := ⟨go, j, none⟩) (Kd.R_base h.own go rfl) _, zaz h.bx (fun e => h.ne zq64) _, by have := Kd.R_putn h.own (j : Int) y; rw [Int.toNat_natCast] at this; exact this, Kd.R_far h.ps (p := ⟨go, j, none⟩) (fun k hk => hk) _, h.ne⟩
end
def fdIn (out : List S62) : List Int → Nat → List Int → Bool → Option (List Int × Bool)
 | [], _, s, b => some (s, b)
 | p :: ps, j, s, b => if 0 ≤ p ∧ p < (out.length : Int) ∧ j < 2 then fdIn out ps (j + 1) (s.set j (zac out p).f3) (if b = true then ((zac out p).f0.toList == ([99, 111, 110, 115, 116] : List UInt8)) else false) else none
def fdSt (k : Nat) (out : List S62) (u : Nat) : Option (List S62) := (zda k (zac out (u : Int)).f0).bind fun t => (zc1 k (zac out (u : Int)).f0 (zac out (u : Int)).f1 (zac out (u : Int)).f2 (zac out (u : Int)).f3).bind fun ps =>
 (fdIn out ps 0 [0, 0] (decide (0 < t))).bind fun s => if s.2 = true then (zgh (zac out (u : Int)).f0 (rdOf 0 s.1 0) (rdOf 0 s.1 1)).bind fun v => some (out.set u (fdC v)) else some out
def fdL (k : Nat) : Nat → Nat → List S62 → Option (List S62)
 | 0, _, out => some out
 | d + 1, u, out => (fdSt k out u).bind fun o => fdL k d (u + 1) o
theorem zzy (k : Nat) (out o : List S62) (u : Nat) (h : fdSt k out u = some o) : o.length = out.length := by
 unfold fdSt at h
 obtain ⟨t, _, h⟩ := Option.bind_eq_some_iff.1 h
 obtain ⟨ps, _, h⟩ := Option.bind_eq_some_iff.1 h
 obtain ⟨s, _, h⟩ := Option.bind_eq_some_iff.1 h
 split at h
 · obtain ⟨v, _, h⟩ := Option.bind_eq_some_iff.1 h
   obtain rfl := zsi h
   simp
 · obtain rfl := zsi h
   rfl
def zfy (k : Nat) (l0 : List S62) : Option (List S62) := (zfx l0).bind fun o => if o.length < 1048576 then (fdL k o.length 0 o).bind fun o2 => if o2.length = o.length then zg7 k o2 ((o.length : Int) - 1) else none else none
theorem zr1 (k : Nat) (A0 : Option Addr) (c0 : Nat) (l0 : List S62) (r : List S62) (w : World) (hr0 : Kd.C k62 w A0 l0.length l0) (hc0 : l0.length ≤ c0) (h : zfy k l0 = some r) :
   Calls Tryz.prog 149 #[.slice A0 l0.length c0] w fun e w' => ∃ v0_ : Value, e = .returned (v0_) ∧ Kd.R k62 62 w' w.heap.size (fun _ => True) v0_ r ∧ Below w.heap.size w w' := by
 unfold zfy at h
 obtain ⟨o, ho, h⟩ := Option.bind_eq_some_iff.1 h
 by_cases hol : o.length < 1048576
 rotate_left
 · rw [if_neg hol] at h
   cases h
 rw [if_pos hol] at h
 obtain ⟨o2, ho2, h⟩ := Option.bind_eq_some_iff.1 h
 by_cases hl2 : o2.length = o.length
 rotate_left
 · rw [if_neg hl2] at h
   cases h
 rw [if_pos hl2] at h
 have HO1 := zA ho
 have HO2 := zA ho2
 have HH := zA h
 have HR := zA hr0
 have HC := zA hc0
 have HL2 := zA hl2
 clear h ho ho2 hr0 hc0 hl2
 go_enter Tryz.func149, Tryz.ntmps149
 go_wp2_with (go_at_call 182; refine (zoo A0 c0 l0 o _ HR.out HC.out HO1.out).mono ?_; rintro e w3 ⟨v3, rfl, hv3, hb3⟩; obtain ⟨A3, c3, rfl⟩ := Kd.R_slice hv3; have HV := zA hv3; have HB := zA hb3; clear hv3 hb3)
 go_loopw [14] (fun v14 wr => ∃ (u : Nat) (out : List S62), v14 = .int .i64 (u : Int) ∧ u ≤ o.length ∧ Aside0 (out.length = o.length) ∧ Aside0 (fdL k (o.length - u) u out = some o2) ∧ Aside0 (Below w.heap.size w wr) ∧ Aside0 (Kd.R k62 62 wr w.heap.size (fun _ => True) (.slice A3 o.length c3) out)) (fun v14 _ => o.length - (intOf v14).toNat)
 case atStart => exact ⟨0, o, rfl, Nat.zero_le _, ⟨rfl⟩, HO2, HB, HV⟩
 clear HV HB HO2
 obtain ⟨u, out, rfl, hu, HLO, HL, HB, HV⟩ := hrel
 obtain ⟨wo, hwo⟩ : ∃ q, q = wr := ⟨_, rfl⟩
 subst hwo
 by_cases hlt : u < o.length
 rotate_left
 · obtain rfl : u = o.length := by omega
   have d1 : decide ((o.length : Int) < o.length) = false := zdf (by omega)
   have h := HL.out
   rw [Nat.sub_self] at h
   obtain rfl := zsi h
   clear h HL
   have hv := HV.out
   have hlen := HLO.out
   rw [← hlen] at hv
   have HRD := zA (zRr hv)
   clear hv hlen
   go_wp2_with (go_at_call 180; go_must (rw [← HLO.out]; refine (znh k A3 c3 out ((out.length : Int) - 1) r _ HRD.out.2.2 HRD.out.2.1 (by rw [HLO.out]; exact HH.out)).mono ?_; rintro e w6 ⟨v6, rfl, hv6, hb6⟩; have HV6 := zA hv6; have HB6 := zA hb6; clear hv6 hb6))
   exact zr_5
 have d1 : decide ((u : Int) < o.length) = true := zdt (by omega)
 have d2 : (0 : Int) ≤ (u : Int) := by omega
 have d3 : (u : Int) < o.length := by omega
 obtain ⟨g, cp, e, hgb, hgl, _⟩ := Kd.R_form HV.out (by rw [HLO.out]; omega)
 injection e with e1 e2 e3
 subst e1
 clear e2 e3
 obtain ⟨x0, x1, x2, x3⟩ := zlu (Below.refl _ _) HV.out (u : Int) d2 d3
 rw [Int.toNat_natCast] at x0 x1 x2 x3
 have h := HL.out
 rw [show o.length - u = (o.length - (u + 1)) + 1 by omega] at h
 simp only [fdL] at h
 obtain ⟨o', ho', h⟩ := Option.bind_eq_some_iff.1 h
 have HL' := zA h
 have HLO' := zA ((zzy _ _ _ _ ho').trans HLO.out)
 unfold fdSt at ho'
 obtain ⟨x, hx⟩ : ∃ n, n = zac out (u : Int) := ⟨_, rfl⟩
 rw [← hx] at x0 x1 x2 x3 ho'
 obtain ⟨t, ht, ho'⟩ := Option.bind_eq_some_iff.1 ho'
 obtain ⟨ps, hps, ho'⟩ := Option.bind_eq_some_iff.1 ho'
 obtain ⟨sE, hsE, ho'⟩ := Option.bind_eq_some_iff.1 ho'
 have HT := zA ht
 have HPS := zA hps
 have HSE := zA hsE
 have HO' := zA ho'
 have HGL := zA hgl
 clear hx ht hps hsE ho' h HL hgl hgb
 go_upto_if 27 with (first
   | ((with_reducible refine zee (N := 5) rfl ?_); go_must (refine zg4 ?hg (N := 5) ?hd (cs := #[.string ⟨#[]⟩, .int .i64 0, .int .i64 0, .int .i64 0]) (t := 62) ?hr ?_; (case hd => rfl); (case hg => rfl); (case hr => go_simp <;> rfl); intro gx hg w5 hbox hb; have GX := zA hg; have BX := zA hbox; have HBR := zA hb; clear hg hbox hb))
   | ((with_reducible refine zjc (t := 62) (p := 5) rfl ?_); go_must (refine zi5 rfl (t := 62) (p := 5) rfl rfl (g := gx) (u := .agg #[.string x.f0, .int .i64 x.f1, .int .i64 x.f2, .int .i64 x.f3]) (seg := [.string x.f0, .int .i64 x.f1, .int .i64 x.f2, .int .i64 x.f3]) rfl rfl BX.out rfl rfl rfl zq49 ?_; intro w6 hbb hbw hfar; have n1 := zA (HBR.out.trans (hbw _ (Nat.le_of_eq GX.out.symm))); clear HBR BX x0 x1 x2 x3; have HBR := n1; have BX := zA hbb; have y0 := zad BX.out 0; clear n1 hbb hbw hfar))
   | ((with_reducible refine zee (N := 19) rfl ?_); go_must (refine Kd.R_lit (Kd.int .i64) wo.heap.size 3 ?hg (N := 19) ?hd (w0 := wo) (xs := [0, 0]) (inner := [.int .i64 0, .int .i64 0]) (ok := fun k => w6.heap.size ≤ k) (okp := fun _ => False) ?hr ?hp (fun _ hk => hk.elim) (zlr _) HBR.out HBR.out.size (by simp) ?_; (case hd => rfl); (case hg => rfl); (case hr => go_simp <;> rfl); (case hp => exact (zan (show Kd.M (Kd.int .i64) _ _ _ (0 : Int) [.int .i64 0] from rfl) (zan (show Kd.M (Kd.int .i64) _ _ _ (0 : Int) [.int .i64 0] from rfl) (Reps.none _ _)))); intro va w7 ha hb hg_ hnew; obtain ⟨go, co, ea, ha0, ha1, _⟩ := Kd.R_form ha (by decide); subst ea; have NE := zA (show gx ≠ go from by have h1 := ha.1 go rfl; have h2 := zb2 BX.out; simp at h1; omega); have HOW := zA (show Kd.R (Kd.int .i64) 3 w7 wo.heap.size (fun k => k = go) (.slice (some ⟨go, 0, none⟩) 2 co) [0, 0] from Kd.R_of_own (Kd.own_of_R ha) (fun k hk => by simpa [Value.ownBlock] using hk.symm)); have n1 := zA (zew BX.out hg_ (by simp)); clear HBR BX y0; have HBR := zA hb; have BX := n1; have y0 := zad BX.out 0; clear n1 ha hb hg_ hnew ha0 ha1))
   | (go_at_call 158; go_must (refine (zdb k x.f0 t _ HT.out).mono ?_; rintro e w8 ⟨rfl, hb⟩; have n1 := zA (zah BX.out hb); have n2 := zA (zab HBR.out hb); have n3 := zA (zRb HOW.out hb); clear HBR BX HOW y0; have HBR := n2; have BX := n1; have HOW := n3; have y0 := zad BX.out 0; have y1 := zad BX.out 1; have y2 := zad BX.out 2; have y3 := zad BX.out 3; clear n1 n2 n3 hb))
   | (go_at_call 160; go_must (refine (zej k x.f0 x.f1 x.f2 x.f3 ps _ HPS.out).mono ?_; rintro e w9 ⟨v, rfl, hk, hb⟩; obtain ⟨Ap, cq, rfl⟩ := Kd.R_slice hk; have HX := zA (show FdX wo go co gx x Ap cq ps [0, 0] w9 from ⟨zab HBR.out hb, zah BX.out hb, zRb HOW.out hb, Kd.R_mono (Kd.R_lower (Kd.R_bound hk) HBR.out.size) (fun k hk => by have h1 := hk.2.1; have h2 := Kd.R_lt HOW.out go rfl; omega), NE.out⟩); clear HBR BX HOW y0 y1 y2 y3 hk hb)))
 go_loopw [7, 27] (fun v7 v27 wq => ∃ (j : Nat) (s : List Int) (b : Bool), v27 = .int .i64 (j : Int) ∧ v7 = .bool b ∧ j ≤ ps.length ∧ Aside0 (fdIn out (ps.drop j) j s b = some sE) ∧ Aside0 (FdX wo go co gx x Ap cq ps s wq)) (fun _ v27 _ => ps.length - (intOf v27).toNat)
 case atStart => exact ⟨0, [0, 0], decide (0 < t), rfl, rfl, Nat.zero_le _, HSE, HX⟩
 clear HX HSE
 obtain ⟨j, s1, b, rfl, rfl, hj, HSE, HX⟩ := hrel
 by_cases hjl : j < ps.length
 rotate_left
 · obtain rfl : j = ps.length := by omega
   have e1 : decide ((ps.length : Int) < ps.length) = false := zdf (by omega)
   have hs := HSE.out
   rw [List.drop_length] at hs
   obtain rfl := zsi hs
   have ho' := HO'.out
   clear hs HSE HO'
   cases b with
   | true =>
     rw [if_pos rfl] at ho'
     obtain ⟨v, hap, ho'⟩ := Option.bind_eq_some_iff.1 ho'
     have HOO := zA (zsi ho')
     have HAP := zA hap
     clear ho' hap
     go_wp2_with fail
     refine zmg [[], [], [], [2], [], [4], [4, 5], [], [7], [7, 8], [2, 3, 4, 5, 6, 7, 8, 9], [2, 3, 4, 5, 6, 7, 8, 9, 10], [0, 1, 2, 3, 4, 5, 6, 7, 8, 9, 10, 11], [0, 1, 2, 3, 4, 5, 6, 7, 8, 9, 10, 11, 12]] [[12, 13], [12, 13], [3, 10, 11, 12, 13], [10, 11, 12, 13], [5, 6, 10, 11, 12, 13], [6, 10, 11, 12, 13], [10, 11, 12, 13], [8, 9, 10, 11, 12, 13], [9, 10, 11, 12, 13], [10, 11, 12, 13], [11, 12, 13], [12, 13], [13], []] (zls [.slice (some ⟨g, 0, none⟩) o.length c3, .int .i64 (u : Int), .pointer (some ⟨gx, 0, none⟩), .string x.f0, .slice (some ⟨go, 0, none⟩) 2 co, .pointer (some ⟨go, 0, none⟩), .int .i64 (rdOf 0 s1 0), .slice (some ⟨go, 0, none⟩) 2 co, .pointer (some ⟨go, 1, none⟩), .int .i64 (rdOf 0 s1 1), .int .i64 v, .agg #[.string ⟨#[99, 111, 110, 115, 116]⟩, .int .i64 0, .int .i64 0, .int .i64 v], .pointer (some ⟨g, u * 4, none⟩), undef]) (fun L W => (L 13 = false → FdX wo go co gx x Ap cq ps s1 W) ∧ (L 13 = true → Kd.R k62 62 W w.heap.size (fun _ => True) (.slice (some ⟨g, 0, none⟩) o.length c3) (out.set u (fdC v)) ∧ Below w.heap.size w W))
       rfl (fun _ _ _ _ _ h => h) zq28 ?_ ⟨?_, ?_, ?_, ?_, ?_, ?_, ?_, ?_, ?_, ?_, ?_, ?_, ?_, ?_, trivial⟩ ?_
     · exact ⟨fun _ => HX.out.step (zcs (Below.refl _ _)), fun h => Bool.noConfusion h⟩
     · refine fun L W hu hd hn hJ => zas (by rfl) hJ ?_
       clear hJ
       generalize hev : Act.eval (zaj _ _ _ _) = ev
       have t3 : ev (.tmp 3) = .slice (some ⟨g, 0, none⟩) o.length c3 := by rw [← hev]; rfl
       clear hev
       exact zg0
     · refine fun L W hu hd hn hJ => zas (by rfl) hJ ?_
       clear hJ
       generalize hev : Act.eval (zaj _ _ _ _) = ev
       have t4 : ev (.tmp 4) = .int .i64 (u : Int) := by rw [← hev]; rfl
       clear hev
       exact zg0
     · refine fun L W hu hd hn hJ => zas (by rfl) hJ ?_
       clear hJ
       generalize hev : Act.eval (zaj _ _ _ _) = ev
       have t5 : ev (.tmp 5) = .pointer (some ⟨gx, 0, none⟩) := by rw [← hev]; rfl
       clear hev
       exact zg0
     · refine fun L W hu hd hn hJ => zas (by rfl) hJ ?_
       have hF := hJ.1 (zaw _ hn 13 (by decide))
       have yb := zad hF.bx 0
       clear hJ
       generalize hev : Act.eval (zaj _ _ _ _) = ev
       have t53 : ev (.tmp 53) = .pointer (some ⟨gx, 0, none⟩) := by rw [← hev]; rfl
       clear hev
       exact zg0
     · refine fun L W hu hd hn hJ => zas (by rfl) hJ ?_
       clear hJ
       generalize hev : Act.eval (zaj _ _ _ _) = ev
       have t6 : ev (.tmp 6) = .slice (some ⟨go, 0, none⟩) 2 co := by rw [← hev]; rfl
       clear hev
       exact zg0
     · refine fun L W hu hd hn hJ => zas (by rfl) hJ ?_
       clear hJ
       generalize hev : Act.eval (zaj _ _ _ _) = ev
       have t55 : ev (.tmp 55) = .slice (some ⟨go, 0, none⟩) 2 co := by rw [← hev]; rfl
       have tc : ∀ v, ev (.const v) = v := fun v => by rw [← hev]; rfl
       clear hev
       exact zg0
     · refine fun L W hu hd hn hJ => zas (by rfl) hJ ?_
       have hF := hJ.1 (zaw _ hn 13 (by decide))
       obtain ⟨y, y'⟩ := Kd.R_celln 0 hF.own 0 (by omega) (by omega)
       rw [Int.toNat_zero] at y y'
       clear hJ
       generalize hev : Act.eval (zaj _ _ _ _) = ev
       have t56 : ev (.tmp 56) = .pointer (some ⟨go, 0, none⟩) := by rw [← hev]; rfl
       clear hev
       exact zg0
     · refine fun L W hu hd hn hJ => zas (by rfl) hJ ?_
       clear hJ
       generalize hev : Act.eval (zaj _ _ _ _) = ev
       have t6 : ev (.tmp 6) = .slice (some ⟨go, 0, none⟩) 2 co := by rw [← hev]; rfl
       clear hev
       exact zg0
     · refine fun L W hu hd hn hJ => zas (by rfl) hJ ?_
       clear hJ
       generalize hev : Act.eval (zaj _ _ _ _) = ev
       have t58 : ev (.tmp 58) = .slice (some ⟨go, 0, none⟩) 2 co := by rw [← hev]; rfl
       have tc : ∀ v, ev (.const v) = v := fun v => by rw [← hev]; rfl
       clear hev
       exact zg0
     · refine fun L W hu hd hn hJ => zas (by rfl) hJ ?_
       have hF := hJ.1 (zaw _ hn 13 (by decide))
       obtain ⟨y, y'⟩ := Kd.R_celln 0 hF.own 1 (by omega) (by omega)
       rw [show (1 : Int).toNat = 1 from rfl] at y y'
       clear hJ
       generalize hev : Act.eval (zaj _ _ _ _) = ev
       have t59 : ev (.tmp 59) = .pointer (some ⟨go, 1, none⟩) := by rw [← hev]; rfl
       clear hev
       exact zg0
     · intro L W hu hd hn hJ
       have hF := hJ.1 (zaw _ hn 13 (by decide))
       refine zxz Tryz.func163 zq28 rfl #[.string x.f0, .int .i64 (rdOf 0 s1 0), .int .i64 (rdOf 0 s1 1)] (by rfl) rfl zq46 ((zd0 x.f0 (rdOf 0 s1 0) (rdOf 0 s1 1) v W HAP.out).mono ?_)
       rintro e W' ⟨he, n, rfl⟩
       exact ⟨he, fun _ => hF.step (zbn (Below.refl _ _) n), fun h => absurd (h.symm.trans (zaw _ hn 13 (by decide))) (by simp)⟩
     · refine fun L W hu hd hn hJ => zas (by rfl) hJ ?_
       clear hJ
       generalize hev : Act.eval (zaj _ _ _ _) = ev
       have t61 : ev (.tmp 61) = .int .i64 v := by rw [← hev]; rfl
       have tc : ∀ v, ev (.const v) = v := fun v => by rw [← hev]; rfl
       clear hev
       exact zg0
     · refine fun L W hu hd hn hJ => zas (by rfl) hJ ?_
       clear hJ
       generalize hev : Act.eval (zaj _ _ _ _) = ev
       have t51 : ev (.tmp 51) = .slice (some ⟨g, 0, none⟩) o.length c3 := by rw [← hev]; rfl
       have t52 : ev (.tmp 52) = .int .i64 (u : Int) := by rw [← hev]; rfl
       clear hev
       exact zg0
     · intro L W hu hd hn hJ
       have hF := hJ.1 hu
       have hR := zRb HV.out hF.below
       obtain ⟨y0, y1, y2, y3⟩ := zlu hF.below HV.out (u : Int) (by omega) (by omega)
       rw [Int.toNat_natCast] at y0 y1 y2 y3
       refine yaz k62 (w0 := w) (x' := fdC v) w.heap.size (by rfl) rfl rfl rfl u _ [.string ⟨#[99, 111, 110, 115, 116]⟩, .int .i64 0, .int .i64 0, .int .i64 v] (by rfl) rfl (by rfl) rfl rfl zq49 hR hlt zx1 (zwk y0 y1 y2 y3) rfl (zhd _ _ _ (fdC v)) (zab HB.out hF.below) ?_
       exact fun w1 h1 h2 => ⟨fun h => by simp [riUp] at h, fun _ => ⟨h1, h2⟩⟩
     · intro L W hL hJ
       have hG := hJ.2 (hL 13 rfl)
       have HG := zA hG
       clear hG hJ hL
       refine zsr ?_
       go_wp2_with fail
       go_roundw
       case rel => exact ⟨u + 1, o', by go_num, by omega, HLO', HL', ⟨HG.out.2⟩, ⟨by rw [← HOO.out]; exact HG.out.1⟩⟩
       case measure => simp [intOf]; omega
   | false =>
     rw [if_neg Bool.false_ne_true] at ho'
     obtain rfl := zsi ho'
     clear ho'
     go_wp2_with fail
     go_roundw
     case rel => exact ⟨u + 1, out, by go_num, by omega, HLO', HL', ⟨zab HB.out HX.out.below⟩, ⟨zRb HV.out HX.out.below⟩⟩
     case measure => simp [intOf]; omega
 have e1 : decide ((j : Int) < ps.length) = true := zdt (by omega)
 have e2 : (0 : Int) ≤ (j : Int) := by omega
 have e3 : (j : Int) < ps.length := by omega
 obtain ⟨adk, ek, hck⟩ := Kd.at_int (zRr HX.out.ps).2.2 (j : Int) (by omega) (by omega)
 rw [Int.toNat_natCast] at hck
 subst ek
 have hs := HSE.out
 rw [List.drop_eq_getElem_cons hjl] at hs
 have hv : rd ps (j : Int) = ps[j] := by
   unfold rd
   rw [Int.toNat_natCast, List.getD_eq_getElem?_getD, List.getElem?_eq_getElem hjl]
   rfl
 rw [← hv] at hs
 obtain ⟨p, hp⟩ : ∃ p, p = rd ps (j : Int) := ⟨_, rfl⟩
 rw [← hp] at hs hck
 clear hv hp
 unfold fdIn at hs
 by_cases hq : 0 ≤ p ∧ p < (out.length : Int) ∧ j < 2
 rotate_left
 · rw [if_neg hq] at hs
   cases hs
 rw [if_pos hq] at hs
 obtain ⟨P0, P1, P2⟩ := hq
 rw [HLO.out] at P1
 have D2 : (j : Int) < 2 := by omega
 obtain ⟨cb, b1⟩ : ∃ cb, ((zac out p).f0.toList == ([99, 111, 110, 115, 116] : List UInt8)) = cb := ⟨_, rfl⟩
 rw [b1] at hs
 have HS1 := zA hs
 clear hs HSE
 cases b with
 | true =>
   go_wp2_with fail
   clear hck
   refine zmg [[], [], [], [], [2, 3], [2, 3, 4], [2, 3, 4, 5], [], [7], [7, 8], [7, 8], [7, 8, 9, 10], [7, 8, 9, 10, 11], [7, 8, 9, 10, 11, 12], [7, 8, 9, 10, 11, 12, 13], [7, 8, 9, 10, 11, 12, 13, 14], [0, 1, 2, 3, 4, 5, 6, 7, 8, 9, 10, 11, 12, 13], [0, 1, 2, 3, 4, 5, 6, 7, 8, 9, 10, 11, 12, 13, 16], [0, 1, 2, 3, 4, 5, 6, 7, 8, 9, 10, 11, 12, 13, 14, 15, 16, 17]] [[16, 17, 18], [16, 17, 18], [4, 5, 6, 16, 17, 18], [4, 5, 6, 16, 17, 18], [5, 6, 16, 17, 18], [6, 16, 17, 18], [16, 17, 18], [8, 9, 10, 11, 12, 13, 14, 15, 16, 17, 18], [9, 10, 11, 12, 13, 14, 15, 16, 17, 18], [11, 12, 13, 14, 15, 16, 17, 18], [11, 12, 13, 14, 15, 16, 17, 18], [12, 13, 14, 15, 16, 17, 18], [13, 14, 15, 16, 17, 18], [14, 15, 16, 17, 18], [15, 18], [18], [17, 18], [18], []] (zls [.slice (some ⟨go, 0, none⟩) 2 co, .int .i64 (j : Int), .slice (some ⟨g, 0, none⟩) o.length c3, .int .i64 p, .pointer (some ⟨g, p.toNat * 4, none⟩), .pointer (some ⟨g, p.toNat * 4 + 3, none⟩), .int .i64 (zac out p).f3, .bool true, .bool true, .slice (some ⟨g, 0, none⟩) o.length c3, .int .i64 p, .pointer (some ⟨g, p.toNat * 4, none⟩), .pointer (some ⟨g, p.toNat * 4, none⟩), .string (zac out p).f0, .bool cb, .bool cb, .pointer (some ⟨go, j, none⟩), undef, .bool cb]) (fun L W => (L 17 = false → FdX wo go co gx x (some adk) cq ps s1 W) ∧ (L 17 = true → FdX wo go co gx x (some adk) cq ps (s1.set j (zac out p).f3) W))
     rfl (fun _ _ _ _ _ h => h) zq28 ?_ ⟨?_, ?_, ?_, ?_, ?_, ?_, ?_, ?_, ?_, ?_, ?_, ?_, ?_, ?_, ?_, ?_, ?_, ?_, ?_, trivial⟩ ?_
   · exact ⟨fun _ => HX.out.step (zcs (Below.refl _ _)), fun h => Bool.noConfusion h⟩
   · refine fun L W hu hd hn hJ => zas (by rfl) hJ ?_
     clear hJ
     generalize hev : Act.eval (zaj _ _ _ _) = ev
     have t6 : ev (.tmp 6) = .slice (some ⟨go, 0, none⟩) 2 co := by rw [← hev]; rfl
     clear hev
     exact zg0
   · refine fun L W hu hd hn hJ => zas (by rfl) hJ ?_
     clear hJ
     generalize hev : Act.eval (zaj _ _ _ _) = ev
     have t8 : ev (.tmp 8) = .int .i64 (j : Int) := by rw [← hev]; rfl
     clear hev
     exact zg0
   · refine fun L W hu hd hn hJ => zas (by rfl) hJ ?_
     clear hJ
     generalize hev : Act.eval (zaj _ _ _ _) = ev
     have t3 : ev (.tmp 3) = .slice (some ⟨g, 0, none⟩) o.length c3 := by rw [← hev]; rfl
     clear hev
     exact zg0
   · refine fun L W hu hd hn hJ => zas (by rfl) hJ ?_
     clear hJ
     generalize hev : Act.eval (zaj _ _ _ _) = ev
     have t9 : ev (.tmp 9) = .int .i64 p := by rw [← hev]; rfl
     clear hev
     exact zg0
   · refine fun L W hu hd hn hJ => zas (by rfl) hJ ?_
     clear hJ
     generalize hev : Act.eval (zaj _ _ _ _) = ev
     have t34 : ev (.tmp 34) = .slice (some ⟨g, 0, none⟩) o.length c3 := by rw [← hev]; rfl
     have t35 : ev (.tmp 35) = .int .i64 p := by rw [← hev]; rfl
     clear hev
     exact zg0
   · refine fun L W hu hd hn hJ => zas (by rfl) hJ ?_
     clear hJ
     generalize hev : Act.eval (zaj _ _ _ _) = ev
     have t36 : ev (.tmp 36) = .pointer (some ⟨g, p.toNat * 4, none⟩) := by rw [← hev]; rfl
     clear hev
     exact zg0
   · refine fun L W hu hd hn hJ => zas (by rfl) hJ ?_
     have hF := hJ.1 (zaw _ hn 17 (by decide))
     obtain ⟨y0, y1, y2, y3⟩ := zlu hF.below HV.out p P0 P1
     clear hJ
     generalize hev : Act.eval (zaj _ _ _ _) = ev
     have t37 : ev (.tmp 37) = .pointer (some ⟨g, p.toNat * 4 + 3, none⟩) := by rw [← hev]; rfl
     clear hev
     exact zg0
   · refine fun L W hu hd hn hJ => zas (by rfl) hJ ?_
     clear hJ
     generalize hev : Act.eval (zaj _ _ _ _) = ev
     have t7 : ev (.tmp 7) = .bool true := by rw [← hev]; rfl
     clear hev
     exact zg0
   · refine fun L W hu hd hn hJ => zas (by rfl) hJ ?_
     clear hJ
     generalize hev : Act.eval (zaj _ _ _ _) = ev
     have t39 : ev (.tmp 39) = .bool true := by rw [← hev]; rfl
     clear hev
     exact zg0
   · refine fun L W hu hd hn hJ => zas (by rfl) hJ ?_
     clear hJ
     generalize hev : Act.eval (zaj _ _ _ _) = ev
     have t3 : ev (.tmp 3) = .slice (some ⟨g, 0, none⟩) o.length c3 := by rw [← hev]; rfl
     clear hev
     exact zg0
   · refine fun L W hu hd hn hJ => zas (by rfl) hJ ?_
     clear hJ
     generalize hev : Act.eval (zaj _ _ _ _) = ev
     have t9 : ev (.tmp 9) = .int .i64 p := by rw [← hev]; rfl
     clear hev
     exact zg0
   · refine fun L W hu hd hn hJ => zas (by rfl) hJ ?_
     clear hJ
     generalize hev : Act.eval (zaj _ _ _ _) = ev
     have t41 : ev (.tmp 41) = .slice (some ⟨g, 0, none⟩) o.length c3 := by rw [← hev]; rfl
     have t42 : ev (.tmp 42) = .int .i64 p := by rw [← hev]; rfl
     clear hev
     exact zg0
   · refine fun L W hu hd hn hJ => zas (by rfl) hJ ?_
     clear hJ
     generalize hev : Act.eval (zaj _ _ _ _) = ev
     have t43 : ev (.tmp 43) = .pointer (some ⟨g, p.toNat * 4, none⟩) := by rw [← hev]; rfl
     clear hev
     exact zg0
   · refine fun L W hu hd hn hJ => zas (by rfl) hJ ?_
     have hF := hJ.1 (zaw _ hn 17 (by decide))
     obtain ⟨y0, y1, y2, y3⟩ := zlu hF.below HV.out p P0 P1
     clear hJ
     generalize hev : Act.eval (zaj _ _ _ _) = ev
     have t44 : ev (.tmp 44) = .pointer (some ⟨g, p.toNat * 4, none⟩) := by rw [← hev]; rfl
     clear hev
     exact zg0
   · refine fun L W hu hd hn hJ => zas (by rfl) hJ ?_
     clear hJ
     generalize hev : Act.eval (zaj _ _ _ _) = ev
     have t45 : ev (.tmp 45) = .string (zac out p).f0 := by rw [← hev]; rfl
     have tc : ∀ v, ev (.const v) = v := fun v => by rw [← hev]; rfl
     clear hev
     exact zg0
   · refine fun L W hu hd hn hJ => zas (by rfl) hJ ?_
     clear hJ
     generalize hev : Act.eval (zaj _ _ _ _) = ev
     have t40 : ev (.tmp 40) = .bool true := by rw [← hev]; rfl
     have t46 : ev (.tmp 46) = .bool cb := by rw [← hev]; rfl
     have tc : ∀ v, ev (.const v) = v := fun v => by rw [← hev]; rfl
     clear hev
     exact zg0
   · refine fun L W hu hd hn hJ => zas (by rfl) hJ ?_
     clear hJ
     generalize hev : Act.eval (zaj _ _ _ _) = ev
     have t32 : ev (.tmp 32) = .slice (some ⟨go, 0, none⟩) 2 co := by rw [← hev]; rfl
     have t33 : ev (.tmp 33) = .int .i64 (j : Int) := by rw [← hev]; rfl
     clear hev
     exact zg0
   · intro L W hu hd hn hJ
     have hF := hJ.1 hu
     have hX := hF.setn j (zac out p).f3
     refine zng (by rfl) rfl rfl ⟨fun h => by simp [riUp] at h, fun _ => hX⟩ ?_
     obtain ⟨y, y'⟩ := Kd.R_celln 0 hF.own (j : Int) (by omega) (by omega)
     rw [Int.toNat_natCast] at y y'
     clear hJ hX
     generalize hev : Act.eval (zaj _ _ _ _) = ev
     have t38 : ev (.tmp 38) = .int .i64 (zac out p).f3 := by rw [← hev]; rfl
     have t48 : ev (.tmp 48) = .pointer (some ⟨go, j, none⟩) := by rw [← hev]; rfl
     clear hev
     exact zg0
   · refine fun L W hu hd hn hJ => zas (by rfl) hJ ?_
     clear hJ
     generalize hev : Act.eval (zaj _ _ _ _) = ev
     have t47 : ev (.tmp 47) = .bool cb := by rw [← hev]; rfl
     clear hev
     exact zg0
   · intro L W hL hJ
     have hG := hJ.2 (hL 17 rfl)
     have HG := zA hG
     clear hG hJ hL
     refine zsr ?_
     go_wp2_with fail
     go_roundw
     case rel => exact ⟨j + 1, _, cb, by go_num, rfl, by omega, HS1, HG⟩
     case measure => simp [intOf]; omega
 | false =>
   go_wp2_with fail
   clear hck
   refine zmg [[], [], [], [], [2, 3], [2, 3, 4], [2, 3, 4, 5], [], [7], [7, 8], [7, 8], [7, 8, 9, 10], [7, 8, 9, 10, 11], [7, 8, 9, 10, 11, 12], [7, 8, 9, 10, 11, 12, 13], [7, 8, 9, 10, 11, 12, 13, 14], [0, 1, 2, 3, 4, 5, 6, 7, 8, 9, 10, 11, 12, 13], [0, 1, 2, 3, 4, 5, 6, 7, 8, 9, 10, 11, 12, 13, 16], [0, 1, 2, 3, 4, 5, 6, 7, 8, 9, 10, 11, 12, 13, 14, 15, 16, 17]] [[16, 17, 18], [16, 17, 18], [4, 5, 6, 16, 17, 18], [4, 5, 6, 16, 17, 18], [5, 6, 16, 17, 18], [6, 16, 17, 18], [16, 17, 18], [8, 9, 10, 11, 12, 13, 14, 15, 16, 17, 18], [9, 10, 11, 12, 13, 14, 15, 16, 17, 18], [11, 12, 13, 14, 15, 16, 17, 18], [11, 12, 13, 14, 15, 16, 17, 18], [12, 13, 14, 15, 16, 17, 18], [13, 14, 15, 16, 17, 18], [14, 15, 16, 17, 18], [15, 18], [18], [17, 18], [18], []] (zls [.slice (some ⟨go, 0, none⟩) 2 co, .int .i64 (j : Int), .slice (some ⟨g, 0, none⟩) o.length c3, .int .i64 p, .pointer (some ⟨g, p.toNat * 4, none⟩), .pointer (some ⟨g, p.toNat * 4 + 3, none⟩), .int .i64 (zac out p).f3, .bool false, .bool false, undef, undef, undef, undef, undef, undef, .bool false, .pointer (some ⟨go, j, none⟩), undef, .bool false]) (fun L W => (L 17 = false → FdX wo go co gx x (some adk) cq ps s1 W) ∧ (L 17 = true → FdX wo go co gx x (some adk) cq ps (s1.set j (zac out p).f3) W))
     rfl (fun _ _ _ _ _ h => h) zq28 ?_ ⟨?_, ?_, ?_, ?_, ?_, ?_, ?_, ?_, ?_, ?_, ?_, ?_, ?_, ?_, ?_, ?_, ?_, ?_, ?_, trivial⟩ ?_
   · exact ⟨fun _ => HX.out.step (zcs (Below.refl _ _)), fun h => Bool.noConfusion h⟩
   · refine fun L W hu hd hn hJ => zas (by rfl) hJ ?_
     clear hJ
     generalize hev : Act.eval (zaj _ _ _ _) = ev
     have t6 : ev (.tmp 6) = .slice (some ⟨go, 0, none⟩) 2 co := by rw [← hev]; rfl
     clear hev
     exact zg0
   · refine fun L W hu hd hn hJ => zas (by rfl) hJ ?_
     clear hJ
     generalize hev : Act.eval (zaj _ _ _ _) = ev
     have t8 : ev (.tmp 8) = .int .i64 (j : Int) := by rw [← hev]; rfl
     clear hev
     exact zg0
   · refine fun L W hu hd hn hJ => zas (by rfl) hJ ?_
     clear hJ
     generalize hev : Act.eval (zaj _ _ _ _) = ev
     have t3 : ev (.tmp 3) = .slice (some ⟨g, 0, none⟩) o.length c3 := by rw [← hev]; rfl
     clear hev
     exact zg0
   · refine fun L W hu hd hn hJ => zas (by rfl) hJ ?_
     clear hJ
     generalize hev : Act.eval (zaj _ _ _ _) = ev
     have t9 : ev (.tmp 9) = .int .i64 p := by rw [← hev]; rfl
     clear hev
     exact zg0
   · refine fun L W hu hd hn hJ => zas (by rfl) hJ ?_
     clear hJ
     generalize hev : Act.eval (zaj _ _ _ _) = ev
     have t34 : ev (.tmp 34) = .slice (some ⟨g, 0, none⟩) o.length c3 := by rw [← hev]; rfl
     have t35 : ev (.tmp 35) = .int .i64 p := by rw [← hev]; rfl
     clear hev
     exact zg0
   · refine fun L W hu hd hn hJ => zas (by rfl) hJ ?_
     clear hJ
     generalize hev : Act.eval (zaj _ _ _ _) = ev
     have t36 : ev (.tmp 36) = .pointer (some ⟨g, p.toNat * 4, none⟩) := by rw [← hev]; rfl
     clear hev
     exact zg0
   · refine fun L W hu hd hn hJ => zas (by rfl) hJ ?_
     have hF := hJ.1 (zaw _ hn 17 (by decide))
     obtain ⟨y0, y1, y2, y3⟩ := zlu hF.below HV.out p P0 P1
     clear hJ
     generalize hev : Act.eval (zaj _ _ _ _) = ev
     have t37 : ev (.tmp 37) = .pointer (some ⟨g, p.toNat * 4 + 3, none⟩) := by rw [← hev]; rfl
     clear hev
     exact zg0
   · refine fun L W hu hd hn hJ => zas (by rfl) hJ ?_
     clear hJ
     generalize hev : Act.eval (zaj _ _ _ _) = ev
     have t7 : ev (.tmp 7) = .bool false := by rw [← hev]; rfl
     clear hev
     exact zg0
   · refine fun L W hu hd hn hJ => zas (by rfl) hJ ?_
     clear hJ
     generalize hev : Act.eval (zaj _ _ _ _) = ev
     have t39 : ev (.tmp 39) = .bool false := by rw [← hev]; rfl
     clear hev
     exact zg0
   · exact fun L W hu hd hn hJ => zs9 (by rfl) rfl hJ
   · exact fun L W hu hd hn hJ => zs9 (by rfl) rfl hJ
   · exact fun L W hu hd hn hJ => zs9 (by rfl) rfl hJ
   · exact fun L W hu hd hn hJ => zs9 (by rfl) rfl hJ
   · exact fun L W hu hd hn hJ => zs9 (by rfl) rfl hJ
   · exact fun L W hu hd hn hJ => zs9 (by rfl) rfl hJ
   · refine fun L W hu hd hn hJ => zas (by rfl) hJ ?_
     clear hJ
     generalize hev : Act.eval (zaj _ _ _ _) = ev
     have t40 : ev (.tmp 40) = .bool false := by rw [← hev]; rfl
     have t46 : ev (.tmp 46) = undef := by rw [← hev]; rfl
     have tc : ∀ v, ev (.const v) = v := fun v => by rw [← hev]; rfl
     clear hev
     exact zg0
   · refine fun L W hu hd hn hJ => zas (by rfl) hJ ?_
     clear hJ
     generalize hev : Act.eval (zaj _ _ _ _) = ev
     have t32 : ev (.tmp 32) = .slice (some ⟨go, 0, none⟩) 2 co := by rw [← hev]; rfl
     have t33 : ev (.tmp 33) = .int .i64 (j : Int) := by rw [← hev]; rfl
     clear hev
     exact zg0
   · intro L W hu hd hn hJ
     have hF := hJ.1 hu
     have hX := hF.setn j (zac out p).f3
     refine zng (by rfl) rfl rfl ⟨fun h => by simp [riUp] at h, fun _ => hX⟩ ?_
     obtain ⟨y, y'⟩ := Kd.R_celln 0 hF.own (j : Int) (by omega) (by omega)
     rw [Int.toNat_natCast] at y y'
     clear hJ hX
     generalize hev : Act.eval (zaj _ _ _ _) = ev
     have t38 : ev (.tmp 38) = .int .i64 (zac out p).f3 := by rw [← hev]; rfl
     have t48 : ev (.tmp 48) = .pointer (some ⟨go, j, none⟩) := by rw [← hev]; rfl
     clear hev
     exact zg0
   · refine fun L W hu hd hn hJ => zas (by rfl) hJ ?_
     clear hJ
     generalize hev : Act.eval (zaj _ _ _ _) = ev
     have t47 : ev (.tmp 47) = .bool false := by rw [← hev]; rfl
     clear hev
     exact zg0
   · intro L W hL hJ
     have hG := hJ.2 (hL 17 rfl)
     have HG := zA hG
     clear hG hJ hL
     refine zsr ?_
     go_wp2_with fail
     go_roundw
     case rel => exact ⟨j + 1, _, false, by go_num, rfl, by omega, HS1, HG⟩
     case measure => simp [intOf]; omega
theorem zx2 (k : Nat) (out : List S62) (u : Nat) : LeO (fdSt k out u) (fdSt (k + 1) out u) := by
 unfold fdSt
 exact LeO.bind (zgg _ _) (fun _ => LeO.bind (zco _ _ _ _ _) (fun _ => LeO.refl _))
theorem zwl (k : Nat) : ∀ (d u : Nat) (out : List S62), LeO (fdL k d u out) (fdL (k + 1) d u out)
 | 0, _, _ => LeO.refl _
 | d + 1, u, out => LeO.bind (zx2 k out u) (fun _ => zwl k d (u + 1) _)
theorem zsy : ∀ a0 k, LeO (zfy k a0) (zfy (k + 1) a0) := by
 intro a0 k
 unfold zfy
 exact LeO.bind (LeO.refl _) (fun _ => zbi (LeO.bind (zwl _ _ _ _) (fun _ => zbi (zoc _ _ _) (LeO.refl _))) (LeO.refl _))
def zhq (a0 : Int) : Option (Bool) := some (a0 != a0)
theorem zbu (a0 : Int) (r : Bool) (w : World) (h : zhq a0 = some r) :
   Calls Tryz.prog 203 #[.int .i64 a0] w fun e w' => e = .returned (.bool r) ∧ Drawn0 w w' := by
 have H := h
 unfold zhq at H
 clear h
 obtain rfl := zsi H
 go_enter Tryz.func203, Tryz.ntmps203
 exact zr_6
def zfv (a0 : Int) (a1 : Int) : Option (Int) := (zhq a0).bind fun t101 => ((zhq a1).bind fun t102 => (if t101 = true then (if t102 = true then (some 0) else (some (-1))) else (if t102 = true then (some 1) else (if a0 < a1 then (some (-1)) else (if a0 > a1 then (some 1) else (some 0))))))
theorem zjj (a0 : Int) (a1 : Int) (r : Int) (w : World) (h : zfv a0 a1 = some r) :
   Calls Tryz.prog 199 #[.int .i64 a0, .int .i64 a1] w fun e w' => e = .returned (.int .i64 r) ∧ Drawn0 w w' := by
 have H := h
 unfold zfv at H
 clear h
 replace H := zob H
 obtain ⟨t101, A30, H⟩ := H
 have A3 := zA A30
 clear A30
 replace H := zob H
 obtain ⟨t102, A40, H⟩ := H
 have A4 := zA A40
 clear A40
 by_cases c5 : t101 = true
 · subst c5
   replace H := zih H
   by_cases c6 : t102 = true
   · subst c6
     replace H := zih H
     obtain rfl := zsi H
     go_enter Tryz.func199, Tryz.ntmps199
     go_wp2_with (first | ((with_reducible refine zgc 203 ?_); refine zcl 8 Tryz.func203 (zbu a0 true _ A3.out) ?_; rintro e w' ⟨rfl, ⟨nd, rfl⟩⟩; refine ⟨_, rfl, ?_⟩) | ((with_reducible refine zgc 203 ?_); refine zcl 10 Tryz.func203 (zbu a1 true _ A4.out) ?_; rintro e w' ⟨rfl, ⟨nd, rfl⟩⟩; refine ⟨_, rfl, ?_⟩))
     exact zr_1
   replace c6 := zbf c6
   subst c6
   replace H := zif H
   obtain rfl := zsi H
   go_enter Tryz.func199, Tryz.ntmps199
   go_wp2_with (first | ((with_reducible refine zgc 203 ?_); refine zcl 8 Tryz.func203 (zbu a0 true _ A3.out) ?_; rintro e w' ⟨rfl, ⟨nd, rfl⟩⟩; refine ⟨_, rfl, ?_⟩) | ((with_reducible refine zgc 203 ?_); refine zcl 10 Tryz.func203 (zbu a1 false _ A4.out) ?_; rintro e w' ⟨rfl, ⟨nd, rfl⟩⟩; refine ⟨_, rfl, ?_⟩))
   exact zr_1
 replace c5 := zbf c5
 subst c5
 replace H := zif H
 by_cases c7 : t102 = true
 · subst c7
   replace H := zih H
   obtain rfl := zsi H
   go_enter Tryz.func199, Tryz.ntmps199
   go_wp2_with (first | ((with_reducible refine zgc 203 ?_); refine zcl 8 Tryz.func203 (zbu a0 false _ A3.out) ?_; rintro e w' ⟨rfl, ⟨nd, rfl⟩⟩; refine ⟨_, rfl, ?_⟩) | ((with_reducible refine zgc 203 ?_); refine zcl 10 Tryz.func203 (zbu a1 true _ A4.out) ?_; rintro e w' ⟨rfl, ⟨nd, rfl⟩⟩; refine ⟨_, rfl, ?_⟩))
   exact zr_1
 replace c7 := zbf c7
 subst c7
 replace H := zif H
 revert H
 refine zit (fun c8b0 H => ?_) fun c8b0 H => ?_
 · obtain rfl := zsi H
   go_enter Tryz.func199, Tryz.ntmps199
   go_wp2_with (first | ((with_reducible refine zgc 203 ?_); refine zcl 8 Tryz.func203 (zbu a0 false _ A3.out) ?_; rintro e w' ⟨rfl, ⟨nd, rfl⟩⟩; refine ⟨_, rfl, ?_⟩) | ((with_reducible refine zgc 203 ?_); refine zcl 10 Tryz.func203 (zbu a1 false _ A4.out) ?_; rintro e w' ⟨rfl, ⟨nd, rfl⟩⟩; refine ⟨_, rfl, ?_⟩))
   exact zr_1
 revert H
 refine zit (fun c9b0 H => ?_) fun c9b0 H => ?_
 · obtain rfl := zsi H
   go_enter Tryz.func199, Tryz.ntmps199
   go_wp2_with (first | ((with_reducible refine zgc 203 ?_); refine zcl 8 Tryz.func203 (zbu a0 false _ A3.out) ?_; rintro e w' ⟨rfl, ⟨nd, rfl⟩⟩; refine ⟨_, rfl, ?_⟩) | ((with_reducible refine zgc 203 ?_); refine zcl 10 Tryz.func203 (zbu a1 false _ A4.out) ?_; rintro e w' ⟨rfl, ⟨nd, rfl⟩⟩; refine ⟨_, rfl, ?_⟩))
   exact zr_1
 obtain rfl := zsi H
 go_enter Tryz.func199, Tryz.ntmps199
 go_wp2_with (first | ((with_reducible refine zgc 203 ?_); refine zcl 8 Tryz.func203 (zbu a0 false _ A3.out) ?_; rintro e w' ⟨rfl, ⟨nd, rfl⟩⟩; refine ⟨_, rfl, ?_⟩) | ((with_reducible refine zgc 203 ?_); refine zcl 10 Tryz.func203 (zbu a1 false _ A4.out) ?_; rintro e w' ⟨rfl, ⟨nd, rfl⟩⟩; refine ⟨_, rfl, ?_⟩))
 exact zr_1
def zd1 : Nat → Int → List Int → Int → Int → Option (Int)
 | 0, _, _, _, _ => none
 | k + 1, x3, x6, x7, x8 => if x8 < x7 then (if 0 ≤ x8 then (if x8 < (x6.length : Int) then (if (rd x6 x8) = x3 then (zd1 k x3 x6 x7 (wrap64 (x8 + 1))) else (some (rd x6 x8))) else (none)) else (none)) else (some x3)
def zg5 (k : Nat) (l0 : List Int) : Option (Int) := zd1 k 0 l0 (l0.length : Int) 0
theorem zl2 : ∀ k, (∀ y0 y1 y2 y3, LeO (zd1 k y0 y1 y2 y3) (zd1 (k + 1) y0 y1 y2 y3))
 | 0 => fun _ _ _ _ r h => by simp [zd1] at h
 | k + 1 => by
   have ih0 := zl2 k
   · intro y0 y1 y2 y3
     unfold zd1
     exact zm1 ih0
theorem zr2 : ∀ a0 k, LeO (zg5 k a0) (zg5 (k + 1) a0) := by
 intro a0 k
 have ih0 := zl2 k
 unfold zg5
 exact zm1 ih0
theorem zrc (k : Nat) (A0 : Option Addr) (c0 : Nat) (l0 : List Int) (r : Int) (w : World) (hr0 : Kd.C (Kd.int .i64) w A0 l0.length l0) (hc0 : l0.length ≤ c0) (h : zg5 k l0 = some r) :
   Calls Tryz.prog 198 #[.slice A0 l0.length c0] w fun e w' => e = .returned (.int .i64 r) ∧ Drawn0 w w' := by
 have HR0 := zA hr0
 have HC0 := zA hc0
 clear hr0 hc0
 have H := h
 unfold zg5 at H
 clear h
 have H' := zA H
 clear H
 go_enter Tryz.func198, Tryz.ntmps198
 go_wp2
 go_loopg [8] k (fun kq v8 w' => ∃ (x8_1 : Int), v8 = .int .i64 x8_1 ∧ Aside0 (zd1 kq 0 l0 (l0.length : Int) x8_1 = some r) ∧ Aside0 (kq ≤ k) ∧ Drawn0 w w')
 case atStart => exact ⟨(0), zq5, H', ⟨zlr _⟩, zq6⟩
 clear H'
 obtain ⟨x8_1, rfl, HA, HK1, ⟨m1, rfl⟩⟩ := hrel
 cases gk with
 | zero => exact absurd HA.out (by simp [zd1])
 | succ k1 =>
 have H := HA.out
 clear HA
 simp only [zd1] at H
 revert H
 refine zit (fun c2 H => ?_) fun c2 H => ?_
 rotate_left
 · obtain rfl := zsi H
   exact zr_6
 revert H
 refine zin fun c3 H => ?_
 revert H
 refine zin fun c4 H => ?_
 by_cases c5 : (rd l0 x8_1) = 0
 rotate_left
 · rw [if_neg c5] at H
   obtain ⟨c5b0, c5b1⟩ := zbq c5
   obtain rfl := zsi H
   obtain ⟨p101, q101⟩ := zpq x8_1 l0.length
   obtain ⟨ad101, e101, hx101_0⟩ := Kd.at_int HR0.out x8_1 (zoe p101) (zoe q101)
   cases e101
   exact zr_6
 rw [if_pos c5] at H
 obtain ⟨c5b0, c5b1⟩ := zbe c5
 clear c5
 have H' := zA H
 clear H
 obtain ⟨p101, q101⟩ := zpq x8_1 l0.length
 obtain ⟨ad101, e101, hx101_0⟩ := Kd.at_int HR0.out x8_1 (zoe p101) (zoe q101)
 cases e101
 go_wp2
 go_roundg k1
 case measure => have := HK1.out; omega
 case rel => exact ⟨(wrap64 (x8_1 + 1)), zq5, H', ⟨zq41 HK1⟩, zq6⟩
def zg8 (k : Nat) (a0 : ByteArray) : Option (Int) := (some (([(⟨#[105, 110]⟩ : ByteArray), (⟨#[99, 111, 110, 115, 116]⟩ : ByteArray), (⟨#[110, 111, 116]⟩ : ByteArray), (⟨#[110, 101, 103]⟩ : ByteArray)] : List ByteArray) : List ByteArray)).bind fun y101 => ((ziq).bind fun t104 => (if y101.length + t104.length < 8796093022208 then ((zax k (y101 ++ t104) a0).bind fun t110 => (some t110)) else (none)))
theorem zod : ∀ a0 k, LeO (zg8 k a0) (zg8 (k + 1) a0) := by
 intro a0 k
 unfold zg8
 exact zm1 zg2
theorem zni (k : Nat) (a0 : ByteArray) (r : Int) (w : World) (h : zg8 k a0 = some r) :
   Calls Tryz.prog 200 #[.string a0] w fun e w' => e = .returned (.int .i64 r) ∧ Below w.heap.size w w' := by
 have HB := zA (Below.refl w.heap.size w)
 have H := h
 unfold zg8 at H
 clear h
 obtain ⟨y101, hy101⟩ : ∃ y_ : List ByteArray, y_ = (([(⟨#[105, 110]⟩ : ByteArray), (⟨#[99, 111, 110, 115, 116]⟩ : ByteArray), (⟨#[110, 111, 116]⟩ : ByteArray), (⟨#[110, 101, 103]⟩ : ByteArray)] : List ByteArray)) := ⟨_, rfl⟩
 rw [← hy101] at H; try with_reducible replace H := zbs H
 have Ny101 := zA hy101
 clear hy101
 replace H := zob H
 obtain ⟨t104, A20, H⟩ := H
 have A2 := zA A20
 clear A20
 by_cases c3 : y101.length + t104.length < 8796093022208
 rotate_left
 · rw [if_neg c3] at H
   exact absurd H (by simp)
 rw [if_pos c3] at H
 have LMc3 := zA c3
 clear c3
 obtain ⟨y107, hy107⟩ : ∃ y_ : List ByteArray, y_ = (y101 ++ t104) := ⟨_, rfl⟩
 rw [← hy107] at H; try with_reducible replace H := zbs H
 have Ny107 := zA hy107
 clear hy107
 replace H := zob H
 obtain ⟨t110, A40, H⟩ := H
 have A4 := zA A40
 clear A40
 obtain rfl := zsi H
 go_enter Tryz.func200, Tryz.ntmps200
 go_wp2_with (first | ((with_reducible refine zgd 3 ?_); refine Kd.R_lit Kd.string _ 9 ?hg (N := 3) ?hd (xs := ([(⟨#[105, 110]⟩ : ByteArray), (⟨#[99, 111, 110, 115, 116]⟩ : ByteArray), (⟨#[110, 111, 116]⟩ : ByteArray), (⟨#[110, 101, 103]⟩ : ByteArray)] : List ByteArray)) (inner := [.string (⟨#[105, 110]⟩ : ByteArray), .string (⟨#[99, 111, 110, 115, 116]⟩ : ByteArray), .string (⟨#[110, 111, 116]⟩ : ByteArray), .string (⟨#[110, 101, 103]⟩ : ByteArray)]) (ok := fun _ => True) (okp := fun _ => True) ?hr ?hp (fun _ hk => hk) trivial (Below.refl _ _) (zlr _) (by simp) ?_; (case hd => rfl); (case hg => rfl); (case hr => go_simp <;> rfl); (case hp => exact (zan (show Kd.M Kd.string _ _ _ (⟨#[105, 110]⟩ : ByteArray) [.string (⟨#[105, 110]⟩ : ByteArray)] from rfl) (zan (show Kd.M Kd.string _ _ _ (⟨#[99, 111, 110, 115, 116]⟩ : ByteArray) [.string (⟨#[99, 111, 110, 115, 116]⟩ : ByteArray)] from rfl) (zan (show Kd.M Kd.string _ _ _ (⟨#[110, 111, 116]⟩ : ByteArray) [.string (⟨#[110, 111, 116]⟩ : ByteArray)] from rfl) (zan (show Kd.M Kd.string _ _ _ (⟨#[110, 101, 103]⟩ : ByteArray) [.string (⟨#[110, 101, 103]⟩ : ByteArray)] from rfl) (Reps.none _ _)))))); intro v102 w5 ho6 hb hg_ hnew_; clear hg_ hnew_; (first | rw [← Ny101.out] at ho6 | (simp only [Int.reduceToNat] at ho6; rw [← Ny101.out] at ho6)); have HO103 := zA (Kd.R_lower ho6 (zag zq1)); replace HB := zA (zab zq1 hb); clear hb ho6) | ((with_reducible refine zgc 162 ?_); refine zcl 4 Tryz.func162 (za0  t104 _ A2.out) ?_; rintro e w7 ⟨v105, rfl, ho0, hb⟩; refine ⟨_, rfl, ?_⟩; have HO106 := zA (Kd.R_lower (Kd.R_new' ho0 (Kd.R_lt (zq2 HO103))) (zag zq1)); replace HO103 := zA (Kd.R_elder' (zq2 HO103) (Kd.R_base ho0) hb); replace HB := zA (zab zq1 hb); (try clear hb); (try clear ho0); obtain ⟨Ao9, co9, eo9⟩ := Kd.R_slice HO106.out; subst eo9) | ((with_reducible refine zfe (b := .append) (xs := #[.tmp 3, .tmp 4]) rfl ?_); at_builtin; refine Kd.R_append_rows Kd.string (w0 := w) w.heap.size rfl (.tmp 3) (.tmp 4) 23 9 (.string ⟨#[]⟩) 16 rfl Tryz.underlying23 info9 rfl (by decide) (by omega) v102 y101 t104 _ _ _ (fun k_ => some k_ ≠ (.slice Ao9 t104.length co9 : Value).ownBlock) (fun _ => False) rfl rfl ?aO ?aR (fun _ _ h => h) (fun _ h => h.elim) ?aF ?aB ?aS ?aL ?_; (case aR => repeat (first | exact (zRr HO106.out).2.2 | (with_reducible first | refine zCa ?_ _ | refine zCn ?_ _ | refine zCd ?_))); (case aB => exact zq1); (case aF => exact (fun k_ hk => Kd.fresh' (Kd.R_lt (zq2 HO106)) k_ hk)); (case aO => exact (zq29 HO103)); (case aS => exact (zag zq1)); (case aL => have := LMc3.out; omega); intro v108 w8 ho hb hg hat; rw [← Ny107.out] at ho; replace HO106 := zA (Kd.R_after (ok := (fun _ => True)) (zq2 HO106) hg hat); replace HB := zA (hb); have HO109 := zA (ho); clear HO103; clear ho hb hg hat; obtain ⟨Ao10, co10, eo10⟩ := Kd.R_slice HO109.out; subst eo10) | ((with_reducible refine zgc 185 ?_); refine zca 7 Tryz.func185 #[.slice Ao10 y107.length co10, .string a0] (zgw k _ _ y107 a0 t110 _ (zq19 HO109) (zq47 HO109) A4.out) ?_; rintro e w' ⟨rfl, ⟨nd, rfl⟩⟩; refine ⟨_, rfl, ?_⟩))
 exact zr_3
def icL (g : Int → Int → Option Int) : List Int → List Int → Option Int
 | [], _ => some 0
 | _ :: _, [] => none
 | x :: xs, y :: ys => (g x y).bind fun c => if c = 0 then icL g xs ys else some c
def icW (k : Nat) (e : List S62) : Nat → Int → Int → Option Int
 | 0, _, _ => none
 | d + 1, i, j => if i = j then some 0 else if (0 ≤ i ∧ i < (e.length : Int)) ∧ 0 ≤ j ∧ j < (e.length : Int) then (zg8 k (zac e i).f0).bind fun ra => (zg8 k (zac e j).f0).bind fun rb => (zfv ra rb).bind fun c1 => (zfv (zac e i).f3 (zac e j).f3).bind fun c2 => (zg5 k [c1, c2]).bind fun c => if c = 0 then (zc1 k (zac e i).f0 (zac e i).f1 (zac e i).f2 (zac e i).f3).bind fun ka => (zc1 k (zac e j).f0 (zac e j).f1 (zac e j).f2 (zac e j).f3).bind fun kb => if ka.length < 1048576 then icL (icW k e d) ka kb else none else some c else none
def zfz (k : Nat) (l0 : List S62) (a1 : Int) (a2 : Int) : Option Int := icW k l0 k a1 a2
theorem zvp (g g' : Int → Int → Option Int) (h : ∀ x y, LeO (g x y) (g' x y)) : ∀ xs ys, LeO (icL g xs ys) (icL g' xs ys)
 | [], _ => LeO.refl _
 | _ :: _, [] => LeO.none _
 | x :: xs, y :: ys => LeO.bind (h x y) (fun _ => zbi (zvp g g' h xs ys) (LeO.refl _))
theorem zwm (k : Nat) (e : List S62) : ∀ (d : Nat) (i j : Int), LeO (icW k e d i j) (icW (k + 1) e (d + 1) i j)
 | 0, _, _ => LeO.none _
 | d + 1, i, j => by
   unfold icW
   exact zbi (LeO.refl _) (zbi (LeO.bind (zod _ _) (fun _ => LeO.bind (zod _ _) (fun _ => LeO.bind (LeO.refl _) (fun _ => LeO.bind (LeO.refl _) (fun _ => LeO.bind (zr2 _ _) (fun _ => zbi (LeO.bind (zco _ _ _ _ _) (fun _ => LeO.bind (zco _ _ _ _ _) (fun _ => zbi (zvp _ _ (zwm k e d) _ _) (LeO.refl _)))) (LeO.refl _))))))) (LeO.refl _))
theorem zwn (k : Nat) (e : List S62) : ∀ (d : Nat) (i j : Int), LeO (icW k e d i j) (icW k e (d + 1) i j)
 | 0, _, _ => LeO.none _
 | d + 1, i, j => by
   unfold icW
   exact zbi (LeO.refl _) (zbi (LeO.bind (LeO.refl _) (fun _ => LeO.bind (LeO.refl _) (fun _ => LeO.bind (LeO.refl _) (fun _ => LeO.bind (LeO.refl _) (fun _ => LeO.bind (LeO.refl _) (fun _ => zbi (LeO.bind (LeO.refl _) (fun _ => LeO.bind (LeO.refl _) (fun _ => zbi (zvp _ _ (zwn k e d) _ _) (LeO.refl _)))) (LeO.refl _))))))) (LeO.refl _))
theorem zm7 : ∀ a0 a1 a2 k, LeO (zfz k a0 a1 a2) (zfz (k + 1) a0 a1 a2) := fun a0 a1 a2 k => zwm k a0 k a1 a2
theorem litC2 (V : World) (a b : Int) : Kd.C (Kd.int .i64) (V.alloc (.cells #[.int .i64 a, .int .i64 b] 3)) (some ⟨V.heap.size, 0, none⟩) [a, b].length [a, b] := by
 have h2 := World.ownsRow_lit (base := V.heap.size) (e := 3) (size := 1) V #[.int .i64 a, .int .i64 b] 2 (zlr _) (by simp [maxLen]) (by simp)
 have hR : Kd.R (Kd.int .i64) 3 (V.alloc (.cells #[.int .i64 a, .int .i64 b] 3)) V.heap.size (fun _ => True) (.slice (some ⟨V.heap.size, 0, none⟩) [a, b].length 2) [a, b] := Kd.R_of_own (by exact h2) (fun _ _ => trivial)
 exact (zRr hR).2.2
theorem yda (k : Nat) {A0 : Option Addr} {c0 : Nat} {e : List S62} {w : World} (hC : Kd.C k62 w A0 e.length e) (hc0 : e.length ≤ c0) : ∀ (d : Nat) (i j r : Int) (W : World), Below w.heap.size w W → icW k e d i j = some r →
   Calls Tryz.prog 181 #[.slice A0 e.length c0, .int .i64 i, .int .i64 j] W fun y W' => y = .returned (.int .i64 r) ∧ Below W.heap.size W W' := by
 have HC := zA hC
 clear hC
 intro d
 induction d with
 | zero => intro i j r W hB h; cases h
 | succ d ih =>
 intro i j r W hB h
 have HIH := zA ih
 have HB := zA hB
 clear ih hB
 unfold icW at h
 by_cases hij : i = j
 · rw [if_pos hij] at h
   obtain rfl := zsi h
   subst hij
   clear h
   go_enter Tryz.func181, Tryz.ntmps181
   go_wp2_with fail
   go_ret
   exact ⟨rfl, Below.refl _ _⟩
 rw [if_neg hij] at h
 by_cases hin : (0 ≤ i ∧ i < (e.length : Int)) ∧ 0 ≤ j ∧ j < (e.length : Int)
 rotate_left
 · rw [if_neg hin] at h
   cases h
 rw [if_pos hin] at h
 obtain ⟨⟨i0, i1⟩, j0, j1⟩ := hin
 have dij : decide (i = j) = false := zdf hij
 have dij' : (i == j) = false := by simpa using hij
 obtain ⟨ad, eA, x0, x1, x2, x3⟩ := zdu (zCb HC.out HB.out) i i0 i1
 subst eA
 obtain ⟨x, hx⟩ : ∃ x, x = zac e i := ⟨_, rfl⟩
 obtain ⟨y, hy⟩ : ∃ y, y = zac e j := ⟨_, rfl⟩
 have HX := zA hx
 have HY := zA hy
 rw [← hx, ← hy] at h
 have HH := zA h
 clear hx hy h x0 x1 x2 x3
 go_enter Tryz.func181, Tryz.ntmps181
 go_wp2_with fail
 clear hij dij dij'
 refine zwj [[], [], [0, 1], [0, 1, 2], [], [], [4, 5], [4, 5, 6], [], [], [0, 1, 2, 3, 8, 9], [0, 1, 2, 3, 4, 5, 6, 7, 8, 9, 10]] [[2, 3, 10, 11], [2, 3, 10, 11], [3, 10, 11], [10, 11], [6, 7, 11], [6, 7, 11], [7, 11], [11], [10, 11], [10, 11], [11], []] (zib [8, 9])
   (zls [.slice (some ad) e.length c0, .int .i64 i, .pointer (some (ad.add (i.toNat * 4))), .agg #[.string x.f0, .int .i64 x.f1, .int .i64 x.f2, .int .i64 x.f3], .slice (some ad) e.length c0, .int .i64 j, .pointer (some (ad.add (j.toNat * 4))), .agg #[.string y.f0, .int .i64 y.f1, .int .i64 y.f2, .int .i64 y.f3], undef, undef, undef, undef])
   (fun L s V => Below W.heap.size W V ∧ (L 8 = true → ∃ g cs, s 8 = .pointer (some ⟨g, 0, none⟩) ∧ W.heap.size ≤ g ∧ V.heap[g]? = some (.cells cs 62 (0, 0)) ∧ cs.size = 4 ∧ (L 10 = true → cs = #[.string x.f0, .int .i64 x.f1, .int .i64 x.f2, .int .i64 x.f3]) ∧ (L 9 = true → s 9 ≠ s 8)) ∧ (L 9 = true → ∃ g cs, s 9 = .pointer (some ⟨g, 0, none⟩) ∧ W.heap.size ≤ g ∧ V.heap[g]? = some (.cells cs 62 (0, 0)) ∧ cs.size = 4 ∧ (L 11 = true → cs = #[.string y.f0, .int .i64 y.f1, .int .i64 y.f2, .int .i64 y.f3])))
   rfl (fun _ _ _ _ _ h => h) zq28 ⟨zcs (Below.refl _ _), fun h => Bool.noConfusion h, fun h => Bool.noConfusion h⟩ ⟨?_, ?_, ?_, ?_, ?_, ?_, ?_, ?_, ?_, ?_, ?_, ?_, trivial⟩ ?_
 iterate 3
   · refine fun L s V hu hd hn hJ => zgx (by rfl) ⟨fun _ => rfl, hJ⟩ ?_
     refine zsm ?_
     exact zg0
 · refine fun L s V hu hd hn hJ => zgx (by rfl) ⟨fun _ => rfl, hJ⟩ ?_
   obtain ⟨ad', ea, z0, z1, z2, z3⟩ := zdu (zCb HC.out (zab HB.out hJ.1)) i i0 i1
   cases ea
   rw [← HX.out] at z0 z1 z2 z3
   clear hJ
   refine zsm ?_
   exact zg0
 iterate 3
   · refine fun L s V hu hd hn hJ => zgx (by rfl) ⟨fun _ => rfl, hJ⟩ ?_
     refine zsm ?_
     exact zg0
 · refine fun L s V hu hd hn hJ => zgx (by rfl) ⟨fun _ => rfl, hJ⟩ ?_
   obtain ⟨ad', ea, z0, z1, z2, z3⟩ := zdu (zCb HC.out (zab HB.out hJ.1)) j j0 j1
   cases ea
   rw [← HY.out] at z0 z1 z2 z3
   clear hJ
   refine zsm ?_
   exact zg0
 · rintro L s V hu hd hn ⟨hb, g8, g9⟩
   refine zgx (v := .pointer (some ⟨V.heap.size, 0, none⟩)) (w1 := V.alloc (.cells #[.string ⟨#[]⟩, .int .i64 0, .int .i64 0, .int .i64 0] 62)) (by rfl) ⟨fun h => absurd h (by decide), zba hb _, fun _ => ⟨_, _, rfl, hb.size, zhh V _, rfl, fun h => absurd (h.symm.trans hn.1) (by simp), fun h e => ?_⟩, fun h => ?_⟩ ?_
   · obtain ⟨g, cs, a1, a2, a3, _⟩ := g9 h
     have := zb2 a3
     rw [show riUp s 8 (.pointer (some ⟨V.heap.size, 0, none⟩)) 9 = s 9 from rfl, a1] at e
     have e2 : g = V.heap.size := by first | (simp [riUp] at e; done) | (simp [riUp] at e; exact e)
     omega
   · obtain ⟨g, cs, a1, a2, a3, a4, a5⟩ := g9 h
     exact ⟨g, cs, a1, a2, zka a3 _, a4, a5⟩
   · simp only [zaj, riGo, zjh, zis, zib, zls, mixV, Nat.reduceBEq, Nat.reduceAdd, List.headD, List.tail, List.getD, List.getElem?_cons_zero, List.getElem?_cons_succ, Option.getD_some, cond_true, cond_false]
     exact zg0
 · rintro L s V hu hd hn ⟨hb, g8, g9⟩
   refine zgx (v := .pointer (some ⟨V.heap.size, 0, none⟩)) (w1 := V.alloc (.cells #[.string ⟨#[]⟩, .int .i64 0, .int .i64 0, .int .i64 0] 62)) (by rfl) ⟨fun h => absurd h (by decide), zba hb _, fun h => ?_, fun _ => ⟨_, _, rfl, hb.size, zhh V _, rfl, fun h => absurd (h.symm.trans hn.2) (by simp)⟩⟩ ?_
   · obtain ⟨g, cs, a1, a2, a3, a4, a5, _⟩ := g8 h
     refine ⟨g, cs, a1, a2, zka a3 _, a4, a5, fun _ e => ?_⟩
     have := zb2 a3
     rw [show riUp s 9 (.pointer (some ⟨V.heap.size, 0, none⟩)) 8 = s 8 from rfl, a1] at e
     have e2 : V.heap.size = g := by first | (simp [riUp] at e; done) | (simp [riUp] at e; exact e)
     omega
   refine zsm ?_
   exact zg0
 · rintro L s V hu hd hn ⟨hb, g8, g9⟩
   obtain ⟨g, cs, a1, a2, a3, a4, a5, a6⟩ := g8 (zaw _ hd 8 (by decide))
   obtain ⟨g', cs', b1, b2, b3, b4, b5⟩ := g9 (zaw _ hd 9 (by decide))
   have hne : g' ≠ g := fun e => a6 (zaw _ hd 9 (by decide)) (by rw [a1, b1, e])
   refine ztx (by rfl) rfl rfl (g := g) (u := .agg #[.string x.f0, .int .i64 x.f1, .int .i64 x.f2, .int .i64 x.f3]) (seg := [.string x.f0, .int .i64 x.f1, .int .i64 x.f2, .int .i64 x.f3]) (by exact a1) (by rfl) a3 rfl rfl a4 zq49 (fun V1 c1 c2 c3 => ⟨fun _ => rfl, hb.trans (c2 _ a2), fun _ => ⟨g, _, a1, a2, c1, rfl, fun _ => rfl, a6⟩, fun _ => ⟨g', cs', b1, b2, (c3 g' hne).trans b3, b4, b5⟩⟩)
 · rintro L s V hu hd hn ⟨hb, g8, g9⟩
   obtain ⟨g, cs, a1, a2, a3, a4, a5, a6⟩ := g8 (zaw _ hd 8 (by decide))
   obtain ⟨g', cs', b1, b2, b3, b4, b5⟩ := g9 (zaw _ hd 9 (by decide))
   have hne : g ≠ g' := fun e => a6 (zaw _ hd 9 (by decide)) (by rw [a1, b1, e])
   refine ztx (by rfl) rfl rfl (g := g') (u := .agg #[.string y.f0, .int .i64 y.f1, .int .i64 y.f2, .int .i64 y.f3]) (seg := [.string y.f0, .int .i64 y.f1, .int .i64 y.f2, .int .i64 y.f3]) (by exact b1) (by rfl) b3 rfl rfl b4 zq49 (fun V1 c1 c2 c3 => ⟨fun _ => rfl, hb.trans (c2 _ b2), fun _ => ⟨g, cs, a1, a2, (c3 g hne).trans a3, a4, a5, a6⟩, fun _ => ⟨g', _, b1, b2, c1, rfl, fun _ => rfl⟩⟩)
 · rintro L s V hL ⟨hb, g8, g9⟩
   obtain ⟨g, cs, a1, a2, a3, a4, a5, a6⟩ := g8 (hL 8 rfl)
   obtain ⟨g', cs', b1, b2, b3, b4, b5⟩ := g9 (hL 9 rfl)
   obtain rfl := a5 (hL 10 rfl)
   obtain rfl := b5 (hL 11 rfl)
   have HB3 := zA (zab HB.out hb)
   have HW3 := zA hb
   have BX := zA a3
   have BY := zA b3
   clear a2 a3 a4 a5 a6 b2 b3 b4 b5 g8 g9 hb hL
   refine zsm ?_
   rw [a1, b1]
   clear a1 b1
   obtain ⟨ra, hra, h⟩ := Option.bind_eq_some_iff.1 HH.out
   obtain ⟨rb, hrb, h⟩ := Option.bind_eq_some_iff.1 h
   obtain ⟨c1, hc1, h⟩ := Option.bind_eq_some_iff.1 h
   obtain ⟨c2, hc2, h⟩ := Option.bind_eq_some_iff.1 h
   obtain ⟨c, hc, h⟩ := Option.bind_eq_some_iff.1 h
   have HRA := zA hra
   have HRB := zA hrb
   have HC1 := zA hc1
   have HC2 := zA hc2
   have HCO := zA hc
   have HR2 := zA h
   clear hra hrb hc1 hc2 hc h HH
   go_wp2_with fail
   refine zwj [[], [0], [0, 1], [], [3], [0, 1, 2, 3, 4], [0, 1, 2, 3, 4, 5], [], [7], [], [9], [0, 1, 2, 3, 4, 5, 6, 7, 8, 9, 10], [0, 1, 2, 3, 4, 5, 6, 7, 8, 9, 10, 11], [0, 1, 2, 3, 4, 5, 6, 7, 8, 9, 10, 11, 12], [0, 1, 2, 3, 4, 5, 6, 7, 8, 9, 10, 11, 12, 13]] [[1, 2, 5, 6, 11, 12, 13, 14], [2, 5, 6, 11, 12, 13, 14], [5, 6, 11, 12, 13, 14], [4, 5, 6, 11, 12, 13, 14], [5, 6, 11, 12, 13, 14], [6, 11, 12, 13, 14], [11, 12, 13, 14], [8, 11, 12, 13, 14], [11, 12, 13, 14], [10, 11, 12, 13, 14], [11, 12, 13, 14], [12, 13, 14], [13, 14], [14], []] (zib [12])
     (zls [.pointer (some ⟨g, 0, none⟩), .string x.f0, .int .i64 ra, .pointer (some ⟨g', 0, none⟩), .string y.f0, .int .i64 rb, .int .i64 c1, .pointer (some ⟨g, 3, none⟩), .int .i64 x.f3, .pointer (some ⟨g', 3, none⟩), .int .i64 y.f3, .int .i64 c2, undef, .int .i64 c, .int .i64 c])
     (fun L s U => Below V.heap.size V U ∧ (L 12 = true → L 13 = false → ∃ A, s 12 = .slice A [c1, c2].length 2 ∧ Kd.C (Kd.int .i64) U A [c1, c2].length [c1, c2]))
     rfl (fun _ _ _ _ _ h => h) zq28 ⟨zcs (Below.refl _ _), fun h => Bool.noConfusion h⟩ ⟨?_, ?_, ?_, ?_, ?_, ?_, ?_, ?_, ?_, ?_, ?_, ?_, ?_, ?_, ?_, trivial⟩ ?_
   · refine fun L s U hu hd hn hJ => zgx (by rfl) ⟨fun _ => rfl, hJ⟩ ?_
     refine zsm ?_
     exact zg0
   · refine fun L s U hu hd hn hJ => zgx (by rfl) ⟨fun _ => rfl, hJ⟩ ?_
     have q := zad (zah BX.out hJ.1) 0
     refine zsm ?_
     exact zg0
   · intro L s U hu hd hn hJ
     exact zon Tryz.func200 zq28 rfl #[.string x.f0] (by rfl) rfl zq46 ((zni k x.f0 ra U HRA.out).mono zq62)
   · refine fun L s U hu hd hn hJ => zgx (by rfl) ⟨fun _ => rfl, hJ⟩ ?_
     refine zsm ?_
     exact zg0
   · refine fun L s U hu hd hn hJ => zgx (by rfl) ⟨fun _ => rfl, hJ⟩ ?_
     have q := zad (zah BY.out hJ.1) 0
     refine zsm ?_
     exact zg0
   · intro L s U hu hd hn hJ
     exact zon Tryz.func200 zq28 rfl #[.string y.f0] (by rfl) rfl zq46 ((zni k y.f0 rb U HRB.out).mono zq62)
   · intro L s U hu hd hn hJ
     exact zon Tryz.func199 zq28 rfl #[.int .i64 ra, .int .i64 rb] (by rfl) rfl zq46 ((zjj ra rb c1 U HC1.out).mono zq60)
   · refine fun L s U hu hd hn hJ => zgx (by rfl) ⟨fun _ => rfl, hJ⟩ ?_
     refine zsm ?_
     exact zg0
   · refine fun L s U hu hd hn hJ => zgx (by rfl) ⟨fun _ => rfl, hJ⟩ ?_
     have q := zad (zah BX.out hJ.1) 3
     refine zsm ?_
     exact zg0
   · refine fun L s U hu hd hn hJ => zgx (by rfl) ⟨fun _ => rfl, hJ⟩ ?_
     refine zsm ?_
     exact zg0
   · refine fun L s U hu hd hn hJ => zgx (by rfl) ⟨fun _ => rfl, hJ⟩ ?_
     have q := zad (zah BY.out hJ.1) 3
     refine zsm ?_
     exact zg0
   · intro L s U hu hd hn hJ
     exact zon Tryz.func199 zq28 rfl #[.int .i64 x.f3, .int .i64 y.f3] (by rfl) rfl zq46 ((zjj x.f3 y.f3 c2 U HC2.out).mono zq60)
   · intro L s U hu hd hn hJ
     refine zgx (v := .slice (some ⟨U.heap.size, 0, none⟩) [c1, c2].length 2) (w1 := U.alloc (.cells #[.int .i64 c1, .int .i64 c2] 3)) (by rfl) ⟨fun h => absurd h (by decide), zba hJ.1 _, fun _ _ => ⟨_, rfl, litC2 U c1 c2⟩⟩ ?_
     refine zsm ?_
     exact zg0
   · intro L s U hu hd hn hJ
     obtain ⟨A, e12, hC12⟩ := hJ.2 (zaw _ hd 12 (by decide)) hu
     exact zon Tryz.func198 zq28 rfl #[.slice A [c1, c2].length 2] (by rfl) rfl (by simp only [List.map_toArray, List.map_cons, List.map_nil]; exact congrArg (fun v => #[v]) e12) ((zrc k A 2 [c1, c2] c U hC12 (zlr _) HCO.out).mono (by rintro e U' ⟨rfl, ⟨n, rfl⟩⟩; exact ⟨_, rfl, fun _ => rfl, zbn hJ.1 n, fun _ h => absurd h (by simp [riUp])⟩))
   · refine fun L s U hu hd hn hJ => zgx (by rfl) ⟨fun _ => rfl, hJ⟩ ?_
     refine zsm ?_
     exact zg0
   · intro L s U hL hJ
     have HB4 := zA (zab HB3.out hJ.1)
     have HW4 := zA (zab HW3.out hJ.1)
     have BX4 := zA (zah BX.out hJ.1)
     have BY4 := zA (zah BY.out hJ.1)
     clear hL hJ HB3 HW3 BX BY
     refine zsm ?_
     generalize mixV (zib [12]) (zls _) s 12 = u36
     by_cases hc : c = 0
     rotate_left
     · have h := HR2.out
       rw [if_neg hc] at h
       obtain rfl := zsi h
       clear h HR2
       go_wp2_with fail
       go_ret
       exact ⟨rfl, HW4.out⟩
     subst hc
     have h := HR2.out
     rw [if_pos rfl] at h
     obtain ⟨ka, hka, h⟩ := Option.bind_eq_some_iff.1 h
     obtain ⟨kb, hkb, h⟩ := Option.bind_eq_some_iff.1 h
     by_cases hkl : ka.length < 1048576
     rotate_left
     · rw [if_neg hkl] at h
       cases h
     rw [if_pos hkl] at h
     have HKA := zA hka
     have HKB := zA hkb
     have HLP := zA h
     clear hka hkb h HR2
     have x0 := zad BX4.out 0
     have x1 := zad BX4.out 1
     have x2 := zad BX4.out 2
     have x3 := zad BX4.out 3
     go_wp2_with (go_at_call 160; go_must (refine (zej k x.f0 x.f1 x.f2 x.f3 ka _ HKA.out).mono ?_; rintro e U1 ⟨v, rfl, ho, hb⟩; obtain ⟨Ak, ck, rfl⟩ := Kd.R_slice ho; have HK := zA (zRr ho).2.2; have HB5 := zA (zab HB4.out hb); have HW5 := zA (zab HW4.out hb); have BY5 := zA (zah BY4.out hb); clear hb ho x0 x1 x2 x3))
     go_loopw [44] (fun v44 wr => ∃ u : Nat, v44 = .int .i64 (u : Int) ∧ u ≤ ka.length ∧ Aside0 (Below U1.heap.size U1 wr) ∧ Aside0 (icL (icW k e d) (ka.drop u) (kb.drop u) = some r)) (fun v44 _ => ka.length - (intOf v44).toNat)
     case atStart => exact ⟨0, rfl, Nat.zero_le _, ⟨Below.refl _ _⟩, ⟨by rw [List.drop_zero, List.drop_zero]; exact HLP.out⟩⟩
     clear HLP
     obtain ⟨u, rfl, hu, HBr, HS⟩ := hrel
     by_cases hlt : u < ka.length
     rotate_left
     · obtain rfl : u = ka.length := by omega
       have d1 : decide ((ka.length : Int) < ka.length) = false := zdf (by omega)
       have hs := HS.out
       rw [List.drop_length] at hs
       obtain rfl := zsi hs
       clear hs HS
       go_wp2_with fail
       go_ret
       exact ⟨rfl, HW5.out.trans (HBr.out.mono HW5.out.size)⟩
     have d1 : decide ((u : Int) < ka.length) = true := zdt (by omega)
     have d2 : (0 : Int) ≤ (u : Int) := by omega
     have d3 : (u : Int) < ka.length := by omega
     have hs := HS.out
     rw [List.drop_eq_getElem_cons hlt] at hs
     by_cases hltb : u < kb.length
     rotate_left
     · rw [List.drop_of_length_le (by omega : kb.length ≤ u)] at hs
       cases hs
     rw [List.drop_eq_getElem_cons hltb] at hs
     have d4 : (u : Int) < kb.length := by omega
     unfold icL at hs
     obtain ⟨c', hc', hs⟩ := Option.bind_eq_some_iff.1 hs
     have hva : rd ka (u : Int) = ka[u] := by
       unfold rd
       rw [Int.toNat_natCast, List.getD_eq_getElem?_getD, List.getElem?_eq_getElem hlt]
       rfl
     have hvb : rd kb (u : Int) = kb[u] := by
       unfold rd
       rw [Int.toNat_natCast, List.getD_eq_getElem?_getD, List.getElem?_eq_getElem hltb]
       rfl
     rw [← hva, ← hvb] at hc'
     have HREC := zA hc'
     have HLT := zA hlt
     have HS2 := zA hs
     obtain ⟨adk, ek, hck⟩ := Kd.at_int (zCb HK.out HBr.out) (u : Int) d2 d3
     rw [Int.toNat_natCast] at hck
     subst ek
     have y0 := zad (zah BY5.out HBr.out) 0
     have y1 := zad (zah BY5.out HBr.out) 1
     have y2 := zad (zah BY5.out HBr.out) 2
     have y3 := zad (zah BY5.out HBr.out) 3
     clear hs hc' hva hvb HS
     by_cases hcz : c' = 0
     rotate_left
     · have hs := HS2.out
       rw [if_neg hcz] at hs
       obtain rfl := zsi hs
       clear hs HS2
       go_wp2_with (first
         | (go_at_call 160; go_must (refine (zej k y.f0 y.f1 y.f2 y.f3 kb _ HKB.out).mono ?_; rintro e U2 ⟨v, rfl, ho, hb⟩; obtain ⟨Ab, cb, rfl⟩ := Kd.R_slice ho; have HB6 := zA (zab HBr.out hb); obtain ⟨adb, eb, hcb⟩ := Kd.at_int (zRr ho).2.2 (u : Int) d2 d4; rw [Int.toNat_natCast] at hcb; subst eb; clear hb ho y0 y1 y2 y3 hck))
         | (go_at_call 181; go_must (refine (HIH.out (rd ka (u : Int)) (rd kb (u : Int)) c' U2 (HB5.out.trans (HB6.out.mono HB5.out.size)) HREC.out).mono ?_; rintro e U3 ⟨rfl, hb⟩; have HB7 := zA (zab HB6.out hb); clear hb hcb)))
       go_ret
       exact ⟨rfl, HW5.out.trans (HB7.out.mono HW5.out.size)⟩
     subst hcz
     have hs := HS2.out
     rw [if_pos rfl] at hs
     have HS3 := zA hs
     clear hs HS2
     go_wp2_with (first
       | (go_at_call 160; go_must (refine (zej k y.f0 y.f1 y.f2 y.f3 kb _ HKB.out).mono ?_; rintro e U2 ⟨v, rfl, ho, hb⟩; obtain ⟨Ab, cb, rfl⟩ := Kd.R_slice ho; have HB6 := zA (zab HBr.out hb); obtain ⟨adb, eb, hcb⟩ := Kd.at_int (zRr ho).2.2 (u : Int) d2 d4; rw [Int.toNat_natCast] at hcb; subst eb; clear hb ho y0 y1 y2 y3 hck))
       | (go_at_call 181; go_must (refine (HIH.out (rd ka (u : Int)) (rd kb (u : Int)) 0 U2 (HB5.out.trans (HB6.out.mono HB5.out.size)) HREC.out).mono ?_; rintro e U3 ⟨rfl, hb⟩; have HB7 := zA (zab HB6.out hb); clear hb hcb)))
     go_roundw
     case rel => exact ⟨u + 1, by go_num, HLT.out, HB7, HS3⟩
     have := HLT.out
     simp [intOf]
     omega
theorem zmh (k : Nat) (A0 : Option Addr) (c0 : Nat) (l0 : List S62) (a1 : Int) (a2 : Int) (r : Int) (w : World) (hr0 : Kd.C k62 w A0 l0.length l0) (hc0 : l0.length ≤ c0) (h : zfz k l0 a1 a2 = some r) :
   Calls Tryz.prog 181 #[.slice A0 l0.length c0, .int .i64 a1, .int .i64 a2] w fun e w' => e = .returned (.int .i64 r) ∧ Below w.heap.size w w' := yda k hr0 hc0 k a1 a2 r w (Below.refl _ _) h
end Go.Proofs.YtnaafcleafbejaaGreat.Q
end
section
namespace Go.Proofs.YtnaafcleafbejaaGreat.Q
open Go.RowKit Go.Proofs.YtnaafcleafbejaaGreatW.PrintWords Go.Proofs.YtnaafcleafbejaaGreatW.PrintLast Go.Proofs.YtnaafcleafbejaaGreatW.PrintMore
set_option linter.unusedVariables false
set_option linter.unusedSimpArgs false
structure ShFr (go r : Nat) (vo : Value) (W : World) (vo' : Value) (W' : World) : Prop where
  size : W.heap.size ≤ W'.heap.size
  keep : ∀ k, k < W.heap.size → k ≠ r → k ≠ go → some k ≠ vo.ownBlock → W'.heap[k]? = W.heap[k]?
  own : ∀ k, vo'.ownBlock = some k → vo.ownBlock = some k ∨ W.heap.size ≤ k
theorem ShFr.refl (go r : Nat) (vo : Value) (W : World) : ShFr go r vo W vo W := ⟨Nat.le_refl _, fun _ _ _ _ _ => rfl, fun _ h => .inl h⟩
theorem ShFr.trans {go r : Nat} {v1 v2 v3 : Value} {W1 W2 W3 : World} (h : ShFr go r v1 W1 v2 W2) (h' : ShFr go r v2 W2 v3 W3) : ShFr go r v1 W1 v3 W3 := by
  refine ⟨Nat.le_trans h.size h'.size, fun k hk h1 h2 h3 => ?_, fun k hk => ?_⟩
  · rw [h'.keep k (Nat.lt_of_lt_of_le hk h.size) h1 h2 (fun e => ?_), h.keep k hk h1 h2 h3]
    rcases h.own k e.symm with e' | e'
    · exact h3 e'.symm
    · omega
  · rcases h'.own k hk with e | e
    · exact h.own k e
    · have := h.size
      exact .inr (by omega)
theorem ShFr.step {go r : Nat} {vo v1 : Value} {W W1 W2 : World} (h : ShFr go r vo W v1 W1) (hb : Below W1.heap.size W1 W2) : ShFr go r vo W v1 W2 :=
  h.trans ⟨hb.size, fun k hk _ _ _ => hb.block k hk, fun _ e => .inl e⟩
section
variable {go r : Nat} {vo v : Value} {W W1 : World}
theorem ShFr.setn (h : ShFr go r vo W v W1) (i : Nat) (u : Value) : ShFr go r vo W v (W1.setCell ⟨r, i, none⟩ u) :=
  h.trans ⟨((Below.refl 0 W1).setCell (p := ⟨r, i, none⟩) (Nat.zero_le _) u).size, fun k _ hk _ _ => Below.heap_setCell W1 ⟨r, i, none⟩ u k hk, fun _ e => .inl e⟩
theorem ShFr.append (h : ShFr go r vo W v W1) {W2 : World} {v' : Value} (hg : W1.grownBy W2 v.ownBlock) (hat : v'.ownBlock = v.ownBlock ∨ ∃ b, v'.ownBlock = some b ∧ W1.heap.size ≤ b) : ShFr go r vo W v' (W2.setCell ⟨go, 0, none⟩ v') := by
  refine h.trans ⟨Nat.le_trans hg.size ((Below.refl 0 W2).setCell (p := ⟨go, 0, none⟩) (Nat.zero_le _) v').size, fun k hk _ h2 h3 => (Below.heap_setCell W2 ⟨go, 0, none⟩ v' k h2).trans (hg.block k hk h3), fun k hk => ?_⟩
  rcases hat with e | ⟨b, e, hb⟩
  · exact .inl (e ▸ hk)
  · rw [e] at hk
    obtain rfl := Option.some.inj hk
    exact .inr hb
end
end Go.Proofs.YtnaafcleafbejaaGreat.Q
end
section
namespace Go.Proofs.YtnaafcleafbejaaGreat.Q
open Go.RowKit Go.Proofs.YtnaafcleafbejaaGreatW.PrintWords Go.Proofs.YtnaafcleafbejaaGreatW.PrintLast Go.Proofs.YtnaafcleafbejaaGreatW.PrintMore
set_option maxHeartbeats 8000000
set_option maxRecDepth 100000
attribute [local go_sem] zf1 zf2 zhf zhg zeu zev zf3 zf6
set_option linter.unusedVariables false
set_option linter.unusedSimpArgs false
attribute [local go_sem high] zzv
def zb6 : Nat → List (S62) → Int → Int → ByteArray → Int → Int → Int → Option (Int)
 | 0, _, _, _, _, _, _, _ => none
 | k + 1, x0, x7, x8, x102000, x102001, x102002, x102003 => if x8 < x7 then (if 0 ≤ x8 then (if x8 < (x0.length : Int) then (if (x102000.toList == (((zac x0 x8).f0).toList) && (x102001 == ((zac x0 x8).f1) && (x102002 == ((zac x0 x8).f2) && (x102003 == ((zac x0 x8).f3))))) = true then (some x8) else (zb6 k x0 x7 (wrap64 (x8 + 1)) x102000 x102001 x102002 x102003)) else (none)) else (none)) else (some (-1))
def ze8 (k : Nat) (l0 : List (S62)) (a1_0 : ByteArray) (a1_1 : Int) (a1_2 : Int) (a1_3 : Int) : Option (Int) := zb6 k l0 (l0.length : Int) 0 a1_0 a1_1 a1_2 a1_3
theorem zj1 : ∀ k, (∀ y0 y1 y2 y3 y4 y5 y6, LeO (zb6 k y0 y1 y2 y3 y4 y5 y6) (zb6 (k + 1) y0 y1 y2 y3 y4 y5 y6))
 | 0 => fun _ _ _ _ _ _ _ r h => by simp [zb6] at h
 | k + 1 => by
   have ih0 := zj1 k
   · intro y0 y1 y2 y3 y4 y5 y6
     unfold zb6
     exact zm1 ih0
theorem zo9 : ∀ a0 a1 a2 a3 a4 k, LeO (ze8 k a0 a1 a2 a3 a4) (ze8 (k + 1) a0 a1 a2 a3 a4) := by
 intro a0 a1 a2 a3 a4 k
 have ih0 := zj1 k
 unfold ze8
 exact zm1 ih0
theorem zop (k : Nat) (A0 : Option Addr) (c0 : Nat) (l0 : List (S62)) (a1_0 : ByteArray) (a1_1 : Int) (a1_2 : Int) (a1_3 : Int) (r : Int) (w : World) (hr0 : Kd.C k62 w A0 l0.length l0) (hc0 : l0.length ≤ c0) (h : ze8 k l0 a1_0 a1_1 a1_2 a1_3 = some r) :
   Calls Tryz.prog 197 #[.slice A0 l0.length c0, .agg #[.string a1_0, .int .i64 a1_1, .int .i64 a1_2, .int .i64 a1_3]] w fun e w' => e = .returned (.int .i64 r) ∧ Below w.heap.size w w' := by
 have hu62 := Tryz.underlying62
 have HR0 := zA hr0
 have HC0 := zA hc0
 clear hr0 hc0
 have HB := zA (Below.refl w.heap.size w)
 have H := h
 unfold ze8 at H
 clear h
 have H' := zA H
 clear H
 go_enter Tryz.func197, Tryz.ntmps197
 go_wp2_with (first | ((with_reducible refine zgd 3 ?_); refine zbx #[.string a1_0, .int .i64 a1_1, .int .i64 a1_2, .int .i64 a1_3] 62 ?_; intro gb101 hg w3 hbox hb; have zs := zpair zq1 hb; replace HB := zA (zs.1); have BK101 := zA (hbox); have GW101 := zA (zge hg zs.2); have GE101 := GW101; clear zs hb hbox hg))
 repeat (go_quiet (first | ((with_reducible refine zee (N := 3) rfl ?_); refine zg4 ?hg (N := 3) ?hd (cs := #[.string a1_0, .int .i64 a1_1, .int .i64 a1_2, .int .i64 a1_3]) (t := 62) ?hr ?_; (case hd => rfl); (case hg => rfl); (case hr => go_simp <;> rfl); intro gb101 hg w3 hbox hb; have zs := zpair zq1 hb; have n0_ := zA (zs.1); have n1_ := zA (hbox); have n2_ := zA (zge hg zs.2); have n3_ := n2_; clear HB; have HB := n0_; have BK101 := n1_; have GW101 := n2_; have GE101 := n3_; clear n0_ n1_ n2_ n3_; clear zs hb hbox hg)); try go_wp2_with (first | ((with_reducible refine zee (N := 3) rfl ?_); refine zg4 ?hg (N := 3) ?hd (cs := #[.string a1_0, .int .i64 a1_1, .int .i64 a1_2, .int .i64 a1_3]) (t := 62) ?hr ?_; (case hd => rfl); (case hg => rfl); (case hr => go_simp <;> rfl); intro gb101 hg w3 hbox hb; have zs := zpair zq1 hb; have n0_ := zA (zs.1); have n1_ := zA (hbox); have n2_ := zA (zge hg zs.2); have n3_ := n2_; clear HB; have HB := n0_; have BK101 := n1_; have GW101 := n2_; have GE101 := n3_; clear n0_ n1_ n2_ n3_; clear zs hb hbox hg)))
 go_loopg [8] k (fun kq v8 w' => ∃ (x8_1 : Int), v8 = .int .i64 x8_1 ∧ Aside0 (zb6 kq l0 (l0.length : Int) x8_1 a1_0 a1_1 a1_2 a1_3 = some r) ∧ Aside0 (kq ≤ k) ∧ Aside0 (w'.heap[gb101]? = some (.cells #[.string a1_0, .int .i64 a1_1, .int .i64 a1_2, .int .i64 a1_3] 62 (0, 0))) ∧ Aside0 (Below w.heap.size w w'))
 case atStart => exact ⟨(0), zq5, H', ⟨zlr _⟩, ⟨zq8 BK101⟩, ⟨zq3 GE101⟩⟩
 clear H'
 obtain ⟨x8_1, rfl, HA, HK1, BK101, HB⟩ := hrel
 cases gk with
 | zero => exact absurd HA.out (by simp [zb6])
 | succ k1 =>
 have H := HA.out
 clear HA
 simp only [zb6] at H
 revert H
 refine zit (fun c4 H => ?_) fun c4 H => ?_
 rotate_left
 · obtain rfl := zsi H
   go_wp2
   repeat (go_quiet (fail); try go_wp2)
   go_ret
   exact ⟨zq4, zq3 GE101⟩
 revert H
 refine zin fun c5 H => ?_
 revert H
 refine zin fun c6 H => ?_
 by_cases c7 : (a1_0.toList == (((zac l0 x8_1).f0).toList) && (a1_1 == ((zac l0 x8_1).f1) && (a1_2 == ((zac l0 x8_1).f2) && (a1_3 == ((zac l0 x8_1).f3))))) = true
 · rw [if_pos c7] at H
   have c7b0 : (a1_0.toList == (((zac l0 x8_1).f0).toList) && (a1_1 == ((zac l0 x8_1).f1) && (a1_2 == ((zac l0 x8_1).f2) && (a1_3 == ((zac l0 x8_1).f3))))) = true := c7
   (try (have c7b1 : decide (a1_0.toList = (((zac l0 x8_1).f0).toList) && (a1_1 == ((zac l0 x8_1).f1) && (a1_2 == ((zac l0 x8_1).f2) && (a1_3 == ((zac l0 x8_1).f3))))) = true := by simpa using c7))
   (try (have c7b2 : (a1_0.toList == (((zac l0 x8_1).f0).toList) && (a1_1 == ((zac l0 x8_1).f1) && (a1_2 == ((zac l0 x8_1).f2) && (a1_3 == ((zac l0 x8_1).f3))))) = true := by simpa using c7))
   clear c7
   obtain rfl := zsi H
   obtain ⟨hcz8_0, hcz8_1, hcz8_2, hcz8_3⟩ := zc4 wr (.string a1_0) (.int .i64 a1_1) (.int .i64 a1_2) (.int .i64 a1_3) BK101.out
   obtain ⟨hfz8_0, hfz8_1, hfz8_2, hfz8_3⟩ := zf4 BK101.out
   obtain ⟨p102, q102⟩ := zpq x8_1 l0.length
   obtain ⟨ad102, e102, hx102_0, hx102_1, hx102_2, hx102_3⟩ := zdu HR0.out x8_1 (zoe p102) (zoe q102)
   cases e102
   replace hx102_0 := zkep HB.out hx102_0
   replace hx102_1 := zkep HB.out hx102_1
   replace hx102_2 := zkep HB.out hx102_2
   replace hx102_3 := zkep HB.out hx102_3
   go_wp2
   repeat (go_quiet (fail); try go_wp2)
   go_ret
   exact ⟨zq4, zq3 GE101⟩
 rw [if_neg c7] at H
 have c7b0 : (a1_0.toList == (((zac l0 x8_1).f0).toList) && (a1_1 == ((zac l0 x8_1).f1) && (a1_2 == ((zac l0 x8_1).f2) && (a1_3 == ((zac l0 x8_1).f3))))) = false := by simpa using c7
 (try (have c7b1 : decide (a1_0.toList = (((zac l0 x8_1).f0).toList) && (a1_1 == ((zac l0 x8_1).f1) && (a1_2 == ((zac l0 x8_1).f2) && (a1_3 == ((zac l0 x8_1).f3))))) = false := by simpa using c7))
 (try (have c7b2 : (a1_0.toList == (((zac l0 x8_1).f0).toList) && (a1_1 == ((zac l0 x8_1).f1) && (a1_2 == ((zac l0 x8_1).f2) && (a1_3 == ((zac l0 x8_1).f3))))) = false := by simpa using c7))
 (try (have c7b3 : ¬ (a1_0.toList = (((zac l0 x8_1).f0).toList) && (a1_1 == ((zac l0 x8_1).f1) && (a1_2 == ((zac l0 x8_1).f2) && (a1_3 == ((zac l0 x8_1).f3))))) := by simpa using c7))
 clear c7
 have H' := zA H
 clear H
 obtain ⟨hcz9_0, hcz9_1, hcz9_2, hcz9_3⟩ := zc4 wr (.string a1_0) (.int .i64 a1_1) (.int .i64 a1_2) (.int .i64 a1_3) BK101.out
 obtain ⟨hfz9_0, hfz9_1, hfz9_2, hfz9_3⟩ := zf4 BK101.out
 obtain ⟨p102, q102⟩ := zpq x8_1 l0.length
 obtain ⟨ad102, e102, hx102_0, hx102_1, hx102_2, hx102_3⟩ := zdu HR0.out x8_1 (zoe p102) (zoe q102)
 cases e102
 replace hx102_0 := zkep HB.out hx102_0
 replace hx102_1 := zkep HB.out hx102_1
 replace hx102_2 := zkep HB.out hx102_2
 replace hx102_3 := zkep HB.out hx102_3
 go_wp2
 repeat (go_quiet (fail); try go_wp2)
 go_roundg k1
 case measure => have := HK1.out; omega
 case rel => exact ⟨(wrap64 (x8_1 + 1)), zq5, H', ⟨zq41 HK1⟩, ⟨zq8 BK101⟩, ⟨zq3 GE101⟩⟩
end Go.Proofs.YtnaafcleafbejaaGreat.Q
end
section
namespace Go.Proofs.YtnaafcleafbejaaGreat.Q
open Go.RowKit Go.Proofs.YtnaafcleafbejaaGreatW.PrintWords Go.Proofs.YtnaafcleafbejaaGreatW.PrintLast Go.Proofs.YtnaafcleafbejaaGreatW.PrintMore
set_option maxHeartbeats 8000000
set_option maxRecDepth 100000
attribute [local go_sem] zf1 zf2 zhf zhg zeu zev zf3 zf6
set_option linter.unusedVariables false
set_option linter.unusedSimpArgs false
def zk4 (a0 : Int) (a1 : Int) : Option (Int × Int) := some (IntKind.u64.wrap ((IntKind.u64.wrap ((IntKind.u64.wrap ((a0 / 4294967296) * (a1 / 4294967296))) + ((IntKind.u64.wrap ((IntKind.u64.wrap ((a0 / 4294967296) * (Go.bits .and .u64 a1 4294967295))) + ((IntKind.u64.wrap ((Go.bits .and .u64 a0 4294967295) * (Go.bits .and .u64 a1 4294967295))) / 4294967296))) / 4294967296))) + ((IntKind.u64.wrap ((Go.bits .and .u64 (IntKind.u64.wrap ((IntKind.u64.wrap ((a0 / 4294967296) * (Go.bits .and .u64 a1 4294967295))) + ((IntKind.u64.wrap ((Go.bits .and .u64 a0 4294967295) * (Go.bits .and .u64 a1 4294967295))) / 4294967296))) 4294967295) + (IntKind.u64.wrap ((Go.bits .and .u64 a0 4294967295) * (a1 / 4294967296))))) / 4294967296)), IntKind.u64.wrap (a0 * a1))
theorem zrd (a0 : Int) (a1 : Int) (r1 : Int) (r2 : Int) (w : World) (h : zk4 a0 a1 = some (r1, r2)) :
   Calls Tryz.prog 205 #[.int .u64 a0, .int .u64 a1] w fun e w' => e = .returned (.tuple #[.int .u64 r1, .int .u64 r2]) ∧ Drawn0 w w' := by
 have H := h
 unfold zk4 at H
 clear h
 simp only [Option.some.injEq, Prod.mk.injEq] at H
 obtain ⟨rfl, rfl⟩ := H
 go_enter Tryz.func205, Tryz.ntmps205
 go_wp2
 go_ret2
 exact ⟨zq5, zq6⟩
def zny (a0 : Int) (a1 : Int) : Option (Int × Int) := (zk4 a0 a1).bind fun bt101 => (some (bt101.1, bt101.2))
theorem zof (a0 : Int) (a1 : Int) (r1 : Int) (r2 : Int) (w : World) (h : zny a0 a1 = some (r1, r2)) :
   Calls Tryz.prog 202 #[.int .u64 a0, .int .u64 a1] w fun e w' => e = .returned (.tuple #[.int .u64 r1, .int .u64 r2]) ∧ Drawn0 w w' := by
 have H := h
 unfold zny at H
 clear h
 replace H := zob H
 obtain ⟨⟨t101, t102⟩, A30, H⟩ := H
 have A3 := zA A30
 clear A30
 simp only [Option.some.injEq, Prod.mk.injEq] at H
 obtain ⟨rfl, rfl⟩ := H
 go_enter Tryz.func202, Tryz.ntmps202
 go_wp2_with (first | ((with_reducible refine zgc 205 ?_); refine zcl 25 Tryz.func205 (zrd a0 a1 t101 t102 _ A3.out) ?_; rintro e w' ⟨rfl, ⟨nd, rfl⟩⟩; refine ⟨_, rfl, ?_⟩))
 go_ret2
 exact ⟨zq5, zq6⟩
def zfi (l0 : List Int) (a1 : Int) : Option (List Int) :=
 if l0.length = 1 ∧ 0 ≤ a1 ∧ a1 ≤ 1048576 then some (List.replicate a1.toNat (rd l0 0)) else none
theorem zzz (n : Nat) (h : n ≤ 1048576) : zny 1 n = some (0, (n : Int)) := by
 have e1 : (Go.bits .and .u64 1 4294967295) = 1 := by rw [Go.and_low32 _ (by decide) (by decide)]; rfl
 have e2 : (Go.bits .and .u64 (n : Int) 4294967295) = n := by rw [Go.and_low32 _ (by omega) (by omega)]; omega
 have e3 : (Go.bits .and .u64 0 4294967295) = 0 := by rw [Go.and_low32 _ (by decide) (by decide)]; rfl
 have d1 : (1 : Int) / 4294967296 = 0 := by decide
 have d2 : (n : Int) / 4294967296 = 0 := by omega
 have w0 : IntKind.u64.wrap 0 = 0 := by decide
 have dz : (0 : Int) / 4294967296 = 0 := by decide
 have wn : IntKind.u64.wrap (n : Int) = n := by rw [IntKind.wrap_u64]; omega
 unfold zny zk4
 simp only [e1, e2, d1, d2, Int.zero_mul, Int.one_mul, Int.mul_zero, w0, wn, Int.zero_add, Int.add_zero, e3, dz, Option.bind_some]
theorem zus (g o dl dc sl sc k : Nat) (ad : Addr) (cur : Array Value) (x : Value) (W : World) (hk : k = Nat.min sl dl) (hg : W.heap[g]? = some (.cells cur 3 (0, 0))) (hs : ∀ j, j < k → W.cell? (ad.add j) = some x) (hfit : o + k ≤ cur.size) (hx : x.oneCell' = true) :
   ∃ cur', (Builtin.copy_ #[24, 24] 3 #[.slice (some ⟨g, o, none⟩) dl dc, .slice (some ad) sl sc]).run Tryz.prog W = .ok (.int .i64 (k : Int)) (W.setRow g cur') ∧ cur'.size = cur.size ∧ (∀ j, j < o → cur'[j]? = cur[j]?) ∧ (∀ j, o ≤ j → j < o + k → cur'[j]? = some x) := by
 subst hk
 refine ⟨(cur.toList.take o ++ List.replicate (Nat.min sl dl) x ++ cur.toList.drop (o + Nat.min sl dl)).toArray, ?_, ?_, ?_, ?_⟩
 · have h := run_copy_row (P := Tryz.prog) W 24 24 3 3 g o dl dc ad sl sc cur 3 (List.replicate (Nat.min sl dl) x) Tryz.underlying24 zq28 hg (by simp) (fun j v hj => by
     rw [List.getElem?_replicate] at hj
     split at hj
     · rename_i hlt
       injection hj with hj
       rw [← hj]
       exact hs j hlt
     · cases hj) (by simpa using hfit) (fun v hv => by rw [List.eq_of_mem_replicate hv]; exact hx)
   simpa [goInt] using h
 · simp; omega
 · intro j hj
   simp only [List.getElem?_toArray]
   rw [List.append_assoc, List.getElem?_append_left zq55, List.getElem?_take, if_pos hj]
   simp
 · intro j h1 h2
   have hl : (cur.toList.take o).length = o := by simp; omega
   simp only [List.getElem?_toArray]
   rw [List.append_assoc, List.getElem?_append_right (by omega), hl, List.getElem?_append_left zq55, List.getElem?_replicate, if_pos (by omega)]
theorem zx3 {opsq : Array Oper} {o : Oper} {a : Act} {w : World} {K : Act → World → Prop} {Q : Exit → Act → World → Prop} {E : Prop} (hgd : o.guard = none) (d s : Operand)
   (ho : o.op = .call { callee := .builtin .copy, args := #[d, s], argTypes := #[24, 24] }) (hty : o.type = 3) {x y : Value} (hd : a.eval d = x) (hs : a.eval s = y) {k : Int} (w' : World)
   (hrun : (Builtin.copy_ #[24, 24] 3 #[x, y]).run Tryz.prog w = .ok (.int .i64 k) w') (h : K (a.put o.dst (.int .i64 k)) w') :
   if Region.wanted o (yielded opsq a.tmps) = true then Oper.wp Tryz.prog o a w K Q else E := by
 have hw : Region.wanted o (yielded opsq a.tmps) = true := by simp [Region.wanted, hgd]
 rw [if_pos hw]
 unfold Oper.wp
 simp [execOp, ho, hty, resolve, invoke, builtin, hd, hs, hrun, Result.andThen]
 exact h
theorem ybu {w : World} {base g n cap : Nat} {ok : Nat → Prop} {xs : List Int} (h : Kd.R (Kd.int .i64) 3 w base ok (.slice (some ⟨g, 0, none⟩) n cap) xs) : n ≤ cap ∧ cap ≤ maxLen ∧ base ≤ g ∧ ∃ cur, w.heap[g]? = some (.cells cur 3 (0, 0)) ∧ cur.size = cap := by
 obtain ⟨_, inner, ho, _⟩ := h
 rcases ho.2 with ⟨he, _⟩ | ⟨g', cap', cur, he, hb, hh, h1, h2, h3, _⟩
 · cases he
 · injection he with ha hn hc
   injection ha with ha
   injection ha with ha
   subst ha; subst hc; subst hn
   exact ⟨h1, h2, hb, cur, hh, by rw [h3]; exact Nat.mul_one _⟩
theorem ybv {w : World} {base g n cap : Nat} {x : Int} {cur : Array Value} (hb : base ≤ g) (hg : w.heap[g]? = some (.cells cur 3 (0, 0))) (hc : cur.size = cap) (h1 : n ≤ cap) (h2 : cap ≤ maxLen) (hx : ∀ j, j < n → cur[j]? = some (.int .i64 x)) :
   Kd.R (Kd.int .i64) 3 w base (fun _ => True) (.slice (some ⟨g, 0, none⟩) n cap) (List.replicate n x) := by
 refine Kd.R_of_own ?_ (fun _ _ => trivial)
 refine ⟨by simp [encs], .inr ⟨g, cap, cur, by simp, hb, hg, by simpa using h1, h2, by simpa using hc, ?_⟩⟩
 apply List.ext_getElem?
 intro j
 by_cases hj : j < n
 · rw [List.getElem?_take, if_pos (by simpa using hj)]
   have := hx j hj
   rw [Array.getElem?_toList, this]
   simp [encs, hj]
 · rw [List.getElem?_eq_none zq55, List.getElem?_eq_none (by simp [encs]; omega)]
theorem zki (A0 : Option Addr) (c0 : Nat) (l0 : List Int) (a1 : Int) (r : List Int) (w : World) (hr0 : Kd.C (Kd.int .i64) w A0 l0.length l0) (hc0 : l0.length ≤ c0) (h : zfi l0 a1 = some r) :
   Calls Tryz.prog 194 #[.slice A0 l0.length c0, .int .i64 a1] w fun e w' => ∃ v0_ : Value, e = .returned (v0_) ∧ Kd.R (Kd.int .i64) 3 w' w.heap.size (fun _ => True) v0_ r ∧ Below w.heap.size w w' := by
 unfold zfi at h
 by_cases hp : l0.length = 1 ∧ 0 ≤ a1 ∧ a1 ≤ 1048576
 rotate_left
 · rw [if_neg hp] at h
   cases h
 rw [if_pos hp] at h
 obtain ⟨hl, h0, h1⟩ := hp
 obtain rfl := zsi h
 clear h
 obtain ⟨n, rfl⟩ := Int.eq_ofNat_of_zero_le h0
 obtain ⟨ad, rfl, hx⟩ := Kd.at_int hr0 0 (by decide) (by omega)
 obtain ⟨x, hxx⟩ : ∃ x, x = rd l0 0 := ⟨_, rfl⟩
 rw [← hxx] at hx ⊢
 have hn : n ≤ 1048576 := by omega
 have hx' : w.cell? ad = some (.int .i64 x) := by simpa [Addr.add] using hx
 rw [hl]
 have HX := zA hx'
 have HMU := zA (zzz n hn)
 have d1 : decide ((n : Int) < 0) = false := zdf (by omega)
 have d2 : decide ((9223372036854775807 : Int) < n) = false := zdf (by omega)
 have hlt := World.block_lt_of_cell? w _ hx'
 have HL := zA hlt
 have b0 : (0 : Int) ≤ n := by omega
 have b1 : (n : Int).toNat * 8 ≤ 281474976710656 := by simp; omega
 clear hr0 hx hx' hxx h0 h1 hlt
 rcases Nat.eq_zero_or_pos n with hz | hpos
 · subst hz
   go_enter Tryz.func194, Tryz.ntmps194
   go_wp2_with (first
     | (go_at_call 202; refine (zof 1 0 0 0 _ HMU.out).mono ?_; rintro e w' ⟨rfl, ⟨nd, rfl⟩⟩)
     | ((with_reducible refine zee (N := 30) rfl ?_); refine Kd.R_make (Kd.int .i64) w.heap.size 3 rfl (N := 30) rfl 24 _ _ rfl (0 : Int) rfl rfl Tryz.underlying24 (.int .i64 0) 8 zn1 rfl (by decide) (by omega) 0 (ok := fun _ => True) (okp := fun _ => True) rfl (fun _ hk => hk) trivial (by omega) (by decide) (zbn (Below.refl _ _) _) (zlr _) ?_; intro v102 w4 ho hb hg_ hnew_; clear hg_ hnew_; obtain ⟨A, c, e, hl_, hr_⟩ := Kd.R_reads ho; cases e; have HO := zA ho; have HB := zA hb; clear hl_ hr_ ho hb; have hcopy := run_copy_none (P := Tryz.prog) w4 24 24 3 3 A (some ad) 0 c 1 c0 Tryz.underlying24 zq28 rfl))
   clear hcopy
   go_loopw [8] (fun i wr => i = .int .i64 0 ∧ wr = w4) (fun _ _ => 0)
   case atStart => exact ⟨rfl, rfl⟩
   obtain ⟨rfl, rfl⟩ := hrel
   go_wp2
   go_ret
   exact ⟨_, rfl, HO.out, HB.out⟩
 have hnp : 0 < (List.replicate (n : Int).toNat (0 : Int)).length := by simp; omega
 go_enter Tryz.func194, Tryz.ntmps194
 go_wp2_with (first
   | (go_at_call 202; refine (zof 1 n 0 n _ HMU.out).mono ?_; rintro e w' ⟨rfl, ⟨nd, rfl⟩⟩)
   | ((with_reducible refine zee (N := 30) rfl ?_); refine Kd.R_make (Kd.int .i64) w.heap.size 3 rfl (N := 30) rfl 24 _ _ rfl (n : Int) rfl rfl Tryz.underlying24 (.int .i64 0) 8 zn1 rfl (by decide) (by omega) 0 (ok := fun _ => True) (okp := fun _ => True) rfl (fun _ hk => hk) trivial b0 b1 (zbn (Below.refl _ _) _) (zlr _) ?_; intro v102 w4 ho hb hg_ hnew_; clear hg_ hnew_; obtain ⟨g, cap, rfl, hgb, hgl, cells_, hcells_⟩ := Kd.R_form ho hnp; obtain ⟨hc1, hc2, _, cur, hcur, hcs⟩ := ybu ho; rw [show (List.replicate (n : Int).toNat (0 : Int)).length = n by simp] at hc1 ⊢; clear hcells_ ho; obtain ⟨cur', hcopy, hs', _, hhi⟩ := zus g 0 n cap 1 c0 1 ad cur (.int .i64 x) w4 (Nat.min_eq_left hpos).symm hcur (fun j hj => by rw [show j = 0 by omega]; exact (hb.cell HL.out).trans HX.out) (by omega) rfl; have HB := zA hb; have HG := zA hgb; have HH := zA (setRow_heap _ _ _ cur' _ _ hcur); have HI := zA hhi; have HS := zA (hs'.trans hcs); clear hb hgb hcur hhi hs' hcs))
 clear hcopy hnp b0 b1 hgl
 have HI1 := zA (show ∀ j, j < 1 → cur'[j]? = some (.int .i64 x) from fun j hj => HI.out j (by omega) (by omega))
 have HB1 := zA (below_setRow HB.out HG.out cur')
 clear HI HB
 go_loopw [8] (fun i wr => ∃ (m : Nat) (cu : Array Value), i = .int .i64 (m : Int) ∧ 1 ≤ m ∧ m ≤ n ∧ Aside0 (wr.heap[g]? = some (.cells cu 3 (0, 0))) ∧ Aside0 (cu.size = cap) ∧ Aside0 (∀ j, j < m → cu[j]? = some (.int .i64 x)) ∧ Aside0 (Below w.heap.size w wr)) (fun i _ => n - (intOf i).toNat)
 case atStart => exact ⟨1, cur', rfl, by omega, by omega, HH, HS, HI1, HB1⟩
 clear HH HS HI1 HB1
 obtain ⟨m, cu, rfl, m1, mn, HH, HS, HI, HB⟩ := hrel
 by_cases hm : m < n
 rotate_left
 · have e1 : decide ((m : Int) < n) = false := zdf (by omega)
   obtain rfl : m = n := by omega
   go_wp2
   go_ret
   exact ⟨_, rfl, ybv HG.out HH.out HS.out hc1 hc2 HI.out, HB.out⟩
 have e1 : decide ((m : Int) < n) = true := zdt (by omega)
 have e2 : decide ((0 : Int) ≤ m) = true := zdt (by omega)
 have e3 : decide ((m : Int) ≤ n) = true := zdt (by omega)
 have e4 : decide ((m : Int) ≤ cap) = true := zdt (by omega)
 obtain ⟨k, hk⟩ : ∃ k, k = Nat.min m (n - m) := ⟨_, rfl⟩
 have hk' : k = min m (n - m) := hk
 have k1 : 1 ≤ k ∧ m + k ≤ n ∧ k ≤ m := by omega
 have hf : ∀ W : World, W.heap = wr.heap → ∃ cu', (Builtin.copy_ #[24, 24] 3 #[.slice (some ⟨g, m, none⟩) (n - m) (cap - m), .slice (some ⟨g, 0, none⟩) m cap]).run Tryz.prog W = .ok (.int .i64 (k : Int)) (W.setRow g cu') ∧ cu'.size = cu.size ∧ (∀ j, j < m → cu'[j]? = cu[j]?) ∧ (∀ j, m ≤ j → j < m + k → cu'[j]? = some (.int .i64 x)) := fun W hW =>
   zus g m (n - m) (cap - m) m cap k ⟨g, 0, none⟩ cu (.int .i64 x) W hk (by rw [hW]; exact HH.out) (fun j hj => by
     have hjm : j < m := by omega
     have := Go.Lib.cells_of_row (w := W) (by rw [hW]; exact HH.out) m j (.int .i64 x) (by rw [List.getElem?_take, if_pos hjm, Array.getElem?_toList]; exact HI.out j hjm)
     exact this) (by rw [HS.out]; omega) rfl
 have HC := zA hf
 clear hf hk hk'
 have e5 : m ≤ cap := by omega
 have e6 : ¬ cap = m := by omega
 go_wp2
 go_region_law (obtain ⟨cu', hrun, q1, q2, q3⟩ := HC.out wr.drew rfl; refine zx3 rfl (.tmp 41) (.tmp 44) rfl rfl (x := .slice (some ⟨g, m, none⟩) (n - m) (cap - m)) (y := .slice (some ⟨g, 0, none⟩) m cap) (by simp [Act.eval, Act.put, e6]) (by simp [Act.eval, Act.put]) _ hrun ?_)
 go_simp
 rw [show IntKind.i64.wrap ((m : Int) + (k : Int)) = ((m + k : Nat) : Int) from by rw [IntKind.wrap_i64]; omega]
 go_roundw
 case rel =>
   refine ⟨_, _, _, _, _, _, _, _, _, _, _, _, _, _, ⟨m + k, cu', rfl, by omega, by omega, ⟨setRow_heap _ _ _ cu' _ _ (by exact HH.out)⟩, ⟨q1.trans HS.out⟩, ⟨fun j hj => ?_⟩, ⟨below_setRow (zcs HB.out) HG.out cu'⟩⟩, rfl⟩
   · by_cases hjm : j < m
     · rw [q2 j hjm]; exact HI.out j hjm
     · exact q3 j (by omega) hj
 case measure => simp [intOf]; omega
end Go.Proofs.YtnaafcleafbejaaGreat.Q
end
section
namespace Go.Proofs.YtnaafcleafbejaaGreat.Q
open Go.RowKit Go.Proofs.YtnaafcleafbejaaGreatW.PrintWords Go.Proofs.YtnaafcleafbejaaGreatW.PrintLast Go.Proofs.YtnaafcleafbejaaGreatW.PrintMore
set_option maxHeartbeats 8000000
set_option maxRecDepth 100000
attribute [local go_sem] zf1 zf2 zhf zhg zeu zev zf3 zf6
set_option linter.unusedVariables false
set_option linter.unusedSimpArgs false
set_option linter.unusedVariables false
set_option linter.unusedSimpArgs false
def shL (g : Int → List S62 × List Int → Option (List S62 × List Int)) : List Int → List S62 × List Int → Option (List S62 × List Int)
 | [], s => some s
 | x :: xs, s => (g x s).bind fun s1 => shL g xs s1
def zut (k : Nat) (i : Int) (n : S62) (s : List S62 × List Int) : Option (List S62 × List Int) := if s.1.length < 3518437208883 then (ze8 k s.1 n.f0 n.f1 n.f2 n.f3).bind fun m => some (if m < 0 then (s.1 ++ [n], s.2.set i.toNat s.1.length) else (s.1, s.2.set i.toNat m)) else none
def shW (k : Nat) (e : List S62) : Nat → Int → List S62 × List Int → Option (List S62 × List Int)
 | 0, _, _ => none
 | d + 1, i, s => if 0 ≤ i ∧ i < e.length then (if rd s.2 i ≥ 0 then some s else (zc1 k (zac e i).f0 (zac e i).f1 (zac e i).f2 (zac e i).f3).bind fun ks => if ks.length < 1048576 then (shL (shW k e d) ks s).bind fun s1 => (zb1 k (zac e i).f0 (zac e i).f1 (zac e i).f2 (zac e i).f3 s1.2).bind fun n => zut k i ⟨n.1, n.2.1, n.2.2.1, n.2.2.2⟩ s1 else none) else none
structure ShX (w0 : World) (A0 : Option Addr) (c0 : Nat) (e : List S62) (gn ge gw go r cr : Nat) (s : List S62 × List Int) (vo : Value) (W : World) : Prop where
 below : Below w0.heap.size w0 W
 bn : W.heap[gn]? = some (.cells #[.slice (some ⟨r, 0, none⟩) e.length cr] 24 (0, 0))
 be : W.heap[ge]? = some (.cells #[.slice A0 e.length c0] 32 (0, 0))
 bw : W.heap[gw]? = some (.cells #[.func (.func 195) #[] #[.pointer (some ⟨gn, 0, none⟩), .pointer (some ⟨ge, 0, none⟩), .pointer (some ⟨gw, 0, none⟩), .pointer (some ⟨go, 0, none⟩)]] 171 (0, 0))
 bo : W.heap[go]? = some (.cells #[vo] 32 (0, 0))
 out : Kd.R k62 62 W w0.heap.size (fun k => k ≠ gn ∧ k ≠ ge ∧ k ≠ gw ∧ k ≠ go ∧ k ≠ r) vo s.1
 rne : r ≠ gn ∧ r ≠ ge ∧ r ≠ gw ∧ r ≠ go
 nam : Kd.R (Kd.int .i64) 3 W w0.heap.size (fun k => k = r) (.slice (some ⟨r, 0, none⟩) e.length cr) s.2
structure ShF (w0 : World) (gn ge gw go : Nat) : Prop where
 lo : w0.heap.size ≤ go
 n : gn ≠ go
 e : ge ≠ go
 w : gw ≠ go
section
variable {w0 : World} {A0 : Option Addr} {c0 : Nat} {e : List S62} {gn ge gw go r cr : Nat} {s : List S62 × List Int} {vo v : Value} {W W1 : World}
theorem ShX.step (h : ShX w0 A0 c0 e gn ge gw go r cr s vo W) (hb : Below W.heap.size W W1) : ShX w0 A0 c0 e gn ge gw go r cr s vo W1 :=
 ⟨zab h.below hb, zah h.bn hb, zah h.be hb, zah h.bw hb, zah h.bo hb, zRb h.out hb, h.rne, zRb h.nam hb⟩
theorem ShX.setn (h : ShX w0 A0 c0 e gn ge gw go r cr s vo W) (i x : Int) : ShX w0 A0 c0 e gn ge gw go r cr (s.1, s.2.set i.toNat x) vo (W.setCell ⟨r, i.toNat, none⟩ (.int .i64 x)) := by
 have hr := h.rne
 have hb := Kd.R_base h.nam r rfl
 exact ⟨h.below.setCell (p := ⟨r, i.toNat, none⟩) hb _, zaz h.bn (fun e => hr.1 zq59) _, zaz h.be (fun e => hr.2.1 zq59) _, zaz h.bw (fun e => hr.2.2.1 zq59) _, zaz h.bo (fun e => hr.2.2.2 zq59) _,
   Kd.R_far h.out (p := ⟨r, i.toNat, none⟩) (fun k hk => hk.2.2.2.2) _, h.rne, Kd.R_putn h.nam i x⟩
theorem ShX.append (F : ShF w0 gn ge gw go) (h : ShX w0 A0 c0 e gn ge gw go r cr s vo W) {W1 : World} {vo' : Value} {ys : List S62} (hR : Kd.R k62 62 W1 w0.heap.size (fun k => k ≠ gn ∧ k ≠ ge ∧ k ≠ gw ∧ k ≠ go ∧ k ≠ r) vo' ys) (hb : Below w0.heap.size w0 W1) (hg : W.grownBy W1 vo.ownBlock) : ShX w0 A0 c0 e gn ge gw go r cr (ys, s.2) vo' (W1.setCell ⟨go, 0, none⟩ vo') := by
 have bn : W1.heap[gn]? = _ := (hg.block gn (zb2 h.bn) (fun e => (h.out.1 gn e.symm).1 rfl)).trans h.bn
 have be : W1.heap[ge]? = _ := (hg.block ge (zb2 h.be) (fun e => (h.out.1 ge e.symm).2.1 rfl)).trans h.be
 have bw : W1.heap[gw]? = _ := (hg.block gw (zb2 h.bw) (fun e => (h.out.1 gw e.symm).2.2.1 rfl)).trans h.bw
 have bo : W1.heap[go]? = _ := (hg.block go (zb2 h.bo) (fun e => (h.out.1 go e.symm).2.2.2.1 rfl)).trans h.bo
 exact ⟨hb.setCell (p := ⟨go, 0, none⟩) F.lo _, zaz bn (fun e => F.n zq64) _, zaz be (fun e => F.e zq64) _, zaz bw (fun e => F.w zq64) _, by simpa using zam bo 0 vo',
   Kd.R_far hR (p := ⟨go, 0, none⟩) (fun k hk => hk.2.2.2.1) _, h.rne, Kd.R_far (Kd.R_grown h.nam hg (fun k hk e => (h.out.1 k e.symm).2.2.2.2 hk)) (p := ⟨go, 0, none⟩) (fun k hk => by rw [hk]; exact h.rne.2.2.2) _⟩
end
theorem ydb (k : Nat) {w0 : World} {A0 : Option Addr} {c0 : Nat} {e : List S62} {gn ge gw go r cr : Nat} (F : ShF w0 gn ge gw go) (hC : Kd.C k62 w0 A0 e.length e) (hc0 : e.length ≤ c0) : ∀ (d : Nat) (i : Int) (s s' : List S62 × List Int) (vo : Value) (W : World), ShX w0 A0 c0 e gn ge gw go r cr s vo W → shW k e d i s = some s' →
   Calls Tryz.prog 195 #[.int .i64 i, .pointer (some ⟨gn, 0, none⟩), .pointer (some ⟨ge, 0, none⟩), .pointer (some ⟨gw, 0, none⟩), .pointer (some ⟨go, 0, none⟩)] W fun x W' => x = .returned (.tuple #[]) ∧ ∃ vo', ShX w0 A0 c0 e gn ge gw go r cr s' vo' W' ∧ ShFr go r vo W vo' W' := by
 have HF := zA F
 have HC := zA hC
 have HC0 := zA hc0
 clear F hC hc0
 intro d
 induction d with
 | zero => intro i s s' vo W hX h; cases h
 | succ d ih =>
 intro i s s' vo W hX h
 have HIH := zA ih
 clear ih
 unfold shW at h
 by_cases c1 : 0 ≤ i ∧ i < e.length
 rotate_left
 · rw [if_neg c1] at h
   cases h
 rw [if_pos c1] at h
 obtain ⟨c2, c3⟩ := c1
 have q1 := zad hX.bn 0
 have q2 := zad hX.be 0
 obtain ⟨p0, p1⟩ := Kd.R_celln 0 hX.nam i c2 c3
 have HX := zA hX
 clear hX
 by_cases hn : rd s.2 i ≥ 0
 · rw [if_pos hn] at h
   obtain rfl := zsi h
   clear h
   have d1 : decide (0 ≤ rdOf 0 s.2 i) = true := zdt hn
   clear hn
   go_enter Tryz.func195, Tryz.ntmps195
   go_wp2_with fail
   first | go_end0 | ((try simp only [Exit.inBlock, Exit.then]); refine bodyPost_ret (results_none rfl _ _ _) rfl ?_)
   exact ⟨rfl, vo, HX.out, ShFr.refl _ _ _ _⟩
 rw [if_neg hn] at h
 have d1 : decide (0 ≤ rdOf 0 s.2 i) = false := zdf hn
 clear hn
 obtain ⟨ks, hks, h⟩ := Option.bind_eq_some_iff.1 h
 by_cases hkl : ks.length < 1048576
 rotate_left
 · rw [if_neg hkl] at h
   cases h
 rw [if_pos hkl] at h
 obtain ⟨s1, hs1, h⟩ := Option.bind_eq_some_iff.1 h
 obtain ⟨nn, hnn, h⟩ := Option.bind_eq_some_iff.1 h
 have HKS := zA hks
 have HS1 := zA hs1
 have HNN := zA hnn
 have HH := zA h
 clear hks hs1 hnn h
 obtain ⟨ad, eA, x0, x1, x2, x3⟩ := zdu (zCb HC.out HX.out.below) i c2 c3
 subst eA
 go_enter Tryz.func195, Tryz.ntmps195
 go_wp2_with (go_at_call 160; (with_reducible refine (zej k _ _ _ _ ks _ HKS.out).mono ?_); rintro x w1 ⟨vk, rfl, hk, hb⟩; obtain ⟨Ak, ck, rfl⟩ := Kd.R_slice hk; have HK1 := zA hk; have HB1 := zA hb; clear hk hb)
 have hks := HK1.out
 have hrr := Kd.R_lt HX.out.nam r rfl
 have hgo := zb2 HX.out.bo
 go_loopw [7, 20] (fun v7 v20 wr => ∃ (u : Nat) (su : List S62 × List Int) (vu : Value), v20 = .int .i64 (u : Int) ∧ u ≤ ks.length ∧ Aside0 (ShX w0 (some ad) c0 e gn ge gw go r cr su vu wr) ∧ Aside0 (shL (shW k e d) (ks.drop u) su = some s1) ∧ Aside0 (ShFr go r vo W vu wr) ∧
   Aside0 (Kd.R (Kd.int .i64) 3 wr W.heap.size (fun k => k ≠ r ∧ k ≠ go ∧ some k ≠ vu.ownBlock) (.slice Ak ks.length ck) ks)) (fun _ v20 _ => ks.length - (intOf v20).toNat)
 case atStart =>
   refine ⟨0, s, vo, rfl, Nat.zero_le _, ⟨HX.out.step HB1.out⟩, ⟨by rw [List.drop_zero]; exact HS1.out⟩, ⟨(ShFr.refl go r vo W).step HB1.out⟩, ⟨Kd.R_mono (Kd.R_bound hks) (fun k hk => ⟨by have := hk.2.1; omega, by have := hk.2.1; omega, fun he => ?_⟩)⟩⟩
   have h1 := Kd.R_lt HX.out.out k he.symm
   have h2 := hk.2.1
   omega
 clear hks HK1 HB1 HS1 HX
 obtain ⟨u, su, vu, rfl, hu, HXu, HSu, HFu, HKu⟩ := hrel
 by_cases hlt : u < ks.length
 · obtain ⟨adk, ek, hck⟩ := Kd.at_int (zRr HKu.out).2.2 (u : Int) (by omega) (by omega)
   rw [Int.toNat_natCast] at hck
   subst ek
   have d2 : decide ((u : Int) < ks.length) = true := zdt (by omega)
   have d3 : (0 : Int) ≤ (u : Int) := by omega
   have d4 : (u : Int) < ks.length := by omega
   have qw := zad HXu.out.bw 0
   have hs := HSu.out
   rw [List.drop_eq_getElem_cons hlt] at hs
   unfold shL at hs
   obtain ⟨s2, hs2, hs3⟩ := Option.bind_eq_some_iff.1 hs
   have hv : rd ks (u : Int) = ks[u] := by
     unfold rd
     rw [Int.toNat_natCast, List.getD_eq_getElem?_getD, List.getElem?_eq_getElem hlt]
     rfl
   rw [← hv] at hs2
   have HS2 := zA hs2
   have HS3 := zA hs3
   clear hs hs2 hs3 hv HSu
   go_wp2_with fail
   refine (HIH.out (rd ks (u : Int)) su s2 vu wr HXu.out HS2.out).mono ?_
   rintro x w3 ⟨rfl, v3, hX3, hF3⟩
   have HX3 := zA hX3
   have HF3 := zA hF3
   clear hX3 hF3
   go_wp2_with fail
   go_roundw
   case rel =>
     refine ⟨u + 1, s2, v3, by go_num, by omega, HX3, HS3, ⟨HFu.out.trans HF3.out⟩, ⟨Kd.R_mono (Kd.R_step (Kd.R_bound HKu.out) (fun k hk hl => HF3.out.keep k hl hk.1.1 hk.1.2.1 hk.1.2.2)) (fun k hk => ⟨hk.1.1, hk.1.2.1, fun he => ?_⟩)⟩⟩
     rcases HF3.out.own k he.symm with e' | e'
     · exact hk.1.2.2 e'.symm
     · have := hk.2.2.1
       omega
   case measure => simp [intOf]; omega
 obtain rfl : u = ks.length := by omega
 have d2 : decide ((ks.length : Int) < ks.length) = false := zdf (by omega)
 have hs := HSu.out
 rw [List.drop_length] at hs
 obtain rfl := zsi hs
 clear hs HSu HKu
 go_wp2_with fail
 obtain ⟨n0, n1, n2, n3⟩ := nn
 have hcr := (zRr HXu.out.nam).2.1
 have HLEN := zA (zRr HXu.out.nam).1
 have hrw := Kd.R_lt HXu.out.nam r rfl
 refine zji [[], [], [0, 1], [0, 1, 2], [], [0, 1, 2, 3, 4], [], [0, 1, 2, 3, 4, 5, 6]] [[2, 3, 5, 7], [2, 3, 5, 7], [3, 5, 7], [5, 7], [5, 7], [7], [7], []]
   (fun L s V => Below wr.heap.size wr V ∧ (L 0 = true → s 0 = .slice (some ad) e.length c0) ∧ (L 1 = true → s 1 = .int .i64 i) ∧ (L 2 = true → s 2 = .pointer (some (ad.add (i.toNat * 4)))) ∧ (L 3 = true → s 3 = .agg #[.string (zac e i).f0, .int .i64 (zac e i).f1, .int .i64 (zac e i).f2, .int .i64 (zac e i).f3]) ∧
     (L 4 = true → s 4 = .slice (some ⟨r, 0, none⟩) e.length cr) ∧ (L 5 = true → s 5 = .agg #[.string n0, .int .i64 n1, .int .i64 n2, .int .i64 n3]) ∧ (L 6 = true → ∃ g cs, s 6 = .pointer (some ⟨g, 0, none⟩) ∧ V.heap[g]? = some (.cells cs 62 (0, 0)) ∧ cs.size = 4 ∧ wr.heap.size ≤ g ∧ (L 7 = true → cs = #[.string n0, .int .i64 n1, .int .i64 n2, .int .i64 n3])))
   rfl (fun _ _ _ _ _ h => h) zq28 ?_ ⟨?_, ?_, ?_, ?_, ?_, ?_, ?_, ?_, trivial⟩ ?_
 · exact ⟨zcs (Below.refl _ _), (fun h => Bool.noConfusion h), (fun h => Bool.noConfusion h), (fun h => Bool.noConfusion h), (fun h => Bool.noConfusion h), (fun h => Bool.noConfusion h), (fun h => Bool.noConfusion h), (fun h => Bool.noConfusion h)⟩
 · rintro L s V hu hd hn ⟨hB, g0, g1, g2, g3, g4, g5, g6⟩ K hK
   have hc := zad (HXu.out.step hB).be 0
   refine zcw (N := some 28) (v := .slice (some ad) e.length c0) (w1 := V) (by rfl) rfl ?_ (hK _ _ ⟨hB, fun _ => rfl, g1, g2, g3, g4, g5, g6⟩)
   refine zsr ?_
   go_simp
 · rintro L s V hu hd hn ⟨hB, g0, g1, g2, g3, g4, g5, g6⟩ K hK
   refine zcw (N := some 29) (v := .int .i64 i) (w1 := V) (by rfl) rfl ?_ (hK _ _ ⟨hB, g0, fun _ => rfl, g2, g3, g4, g5, g6⟩)
   refine zsr ?_
   go_simp
 · rintro L s V hu hd hn ⟨hB, g0, g1, g2, g3, g4, g5, g6⟩ K hK
   have e0 := g0 hd.1
   have e1 := g1 hd.2
   refine zcw (N := some 30) (v := .pointer (some (ad.add (i.toNat * 4)))) (w1 := V) (by rfl) rfl ?_ (hK _ _ ⟨hB, g0, g1, fun _ => rfl, g3, g4, g5, g6⟩)
   refine zsr ?_
   rw [e0, e1]
   go_simp
 · rintro L s V hu hd hn ⟨hB, g0, g1, g2, g3, g4, g5, g6⟩ K hK
   have e2 := g2 hd.2.2
   obtain ⟨ad', ea, y0, y1, y2, y3⟩ := zdu (zCb HC.out (HXu.out.step hB).below) i c2 c3
   cases ea
   refine zcw (N := some 31) (v := .agg #[.string (zac e i).f0, .int .i64 (zac e i).f1, .int .i64 (zac e i).f2, .int .i64 (zac e i).f3]) (w1 := V) (by rfl) rfl ?_ (hK _ _ ⟨hB, g0, g1, g2, fun _ => rfl, g4, g5, g6⟩)
   refine zsr ?_
   rw [e2]
   clear x0 x1 x2 x3
   go_simp
 · rintro L s V hu hd hn ⟨hB, g0, g1, g2, g3, g4, g5, g6⟩ K hK
   have hc := zad (HXu.out.step hB).bn 0
   refine zcw (N := some 32) (v := .slice (some ⟨r, 0, none⟩) e.length cr) (w1 := V) (by rfl) rfl ?_ (hK _ _ ⟨hB, g0, g1, g2, g3, fun _ => rfl, g5, g6⟩)
   refine zsr ?_
   go_simp
 · rintro L s V hu hd hn ⟨hB, g0, g1, g2, g3, g4, g5, g6⟩ K hK
   have e3 := g3 hd.2.2.2.1
   have e4 := g4 hd.2.2.2.2
   have hCn := (zRr (HXu.out.step hB).nam).2.2
   have e34 : (#[s 3, s 4] : Array Value) = #[.agg #[.string (zac e i).f0, .int .i64 (zac e i).f1, .int .i64 (zac e i).f2, .int .i64 (zac e i).f3], .slice (some ⟨r, 0, none⟩) e.length cr] := by rw [e3, e4]
   have hcall := ziv k _ _ _ _ (some ⟨r, 0, none⟩) cr su.2 n0 n1 n2 n3 V hCn (HLEN.out ▸ hcr) HNN.out
   rw [← HLEN.out] at hcall
   refine zsj Tryz.func196 zq28 rfl #[.agg #[.string (zac e i).f0, .int .i64 (zac e i).f1, .int .i64 (zac e i).f2, .int .i64 (zac e i).f3], .slice (some ⟨r, 0, none⟩) e.length cr] (by rfl) rfl rfl (by simp only [List.map_toArray, List.map_cons, List.map_nil]; exact e34) ?_
   refine hcall.mono ?_
   rintro x w4 ⟨rfl, hb⟩
   exact ⟨_, rfl, hK _ _ ⟨zab hB hb, g0, g1, g2, g3, g4, fun _ => rfl, fun h => by obtain ⟨g, cs, a1, a2, a3, a4, a5⟩ := g6 h; exact ⟨g, cs, a1, zah a2 hb, a3, a4, a5⟩⟩⟩
 · rintro L s V hu hd hn ⟨hB, g0, g1, g2, g3, g4, g5, g6⟩ K hK
   refine zcw (N := some 8) (v := .pointer (some ⟨V.heap.size, 0, none⟩)) (w1 := V.alloc (.cells #[.string ⟨#[]⟩, .int .i64 0, .int .i64 0, .int .i64 0] 62)) (by rfl) rfl ?_ (hK _ _ ⟨zba hB _, g0, g1, g2, g3, g4, g5, fun _ => ⟨V.heap.size, _, rfl, zhh V _, rfl, hB.size, fun h => absurd (h.symm.trans hn) (by simp)⟩⟩)
   refine zsr ?_
   go_simp
 · rintro L s V hu hd hn ⟨hB, g0, g1, g2, g3, g4, g5, g6⟩ K hK
   obtain ⟨g, cs, a1, a2, a3, a4, _⟩ := g6 hd.2.2.2.2.2.2
   have e5 := g5 hd.2.2.2.2.2.1
   have hst := zh3 (P := Tryz.prog) (w := V) (o := 0) 62 (.agg #[.string n0, .int .i64 n1, .int .i64 n2, .int .i64 n3]) [.string n0, .int .i64 n1, .int .i64 n2, .int .i64 n3] a2 rfl rfl (by simp [a3]) zq49
   refine zs5 (w1 := V.setCells g 0 [.string n0, .int .i64 n1, .int .i64 n2, .int .i64 n3]) (by rfl) rfl ?_ (hK undef _ ⟨?_, g0, g1, g2, g3, g4, g5, fun _ => ?_⟩)
   · simp only [zaj, riGo, zjh, zis, zib, zls, Nat.reduceBEq, Nat.reduceAdd, List.headD, List.tail, List.getD, List.getElem?_cons_zero, List.getElem?_cons_succ, Option.getD_some, cond_true, cond_false]
     rw [a1, e5]
     unfold execOp
     simp only [Sem.run_bind, Sem.run_pure]
     exact (congrArg (fun r => Result.andThen r _) hst).trans rfl
   · have hs := zh2 g [.string n0, .int .i64 n1, .int .i64 n2, .int .i64 n3] 0 V
     exact hB.trans ⟨hs.1, hs.2.1, hs.2.2.1, Nat.le_of_eq hs.2.2.2.symm, fun k hk => zfu _ _ k (by omega)⟩
   · obtain ⟨cur', b1, b2, b3⟩ := zip (e := 62) [.string n0, .int .i64 n1, .int .i64 n2, .int .i64 n3] 0 V cs a2 (by simp [a3])
     refine ⟨g, cur', a1, b1, b2.trans a3, a4, fun _ => ?_⟩
     apply Array.ext'
     have hd4 : cs.toList.drop (0 + 4) = [] := List.drop_of_length_le (by simp [a3])
     rw [b3]
     show cs.toList.take 0 ++ [.string n0, .int .i64 n1, .int .i64 n2, .int .i64 n3] ++ cs.toList.drop (0 + 4) = _
     rw [hd4]
     rfl
 · rintro L s V hL ⟨hB, g0, g1, g2, g3, g4, g5, g6⟩
   obtain ⟨g, cs, a1, a2, a3, a4, a5⟩ := g6 (hL 6 rfl)
   obtain rfl := a5 (hL 7 rfl)
   have e5 := g5 (hL 5 rfl)
   have HX6 := zA (HXu.out.step hB)
   have HF6 := zA (HFu.out.step hB)
   have HG := zA a2
   have HGE := zA a4
   clear a2 a3 a4 a5 g0 g1 g2 g3 g4 g5 g6 hB
   refine zsr ?_
   rw [a1, e5]
   clear a1 e5
   clear x0 x1 x2 x3 q1 q2 p0 p1
   go_wp2_with fail
   have h := HH.out
   unfold zut at h
   by_cases hsl : su.1.length < 3518437208883
   rotate_left
   · rw [if_neg hsl] at h
     cases h
   rw [if_pos hsl] at h
   obtain ⟨m, hm, h⟩ := Option.bind_eq_some_iff.1 h
   have HM := zA hm
   have HS' := zA (zsi h)
   clear hm h HH HNN
   obtain ⟨Ao, co, eo⟩ := Kd.R_slice HX6.out.out
   have EO := zA eo
   clear eo
   refine zji [[], [], [], [], [2, 3], [0, 1, 2, 3, 4], [0, 1, 2, 3, 4, 5]] [[5, 6], [5, 6], [4, 5, 6], [4, 5, 6], [5, 6], [6], []]
     (fun L s X => (L 6 = false → Below V.heap.size V X) ∧ (L 6 = true → ∃ X', Below V.heap.size V X' ∧ X = X'.setCell ⟨r, i.toNat, none⟩ (.int .i64 m)) ∧ (L 0 = true → s 0 = .slice (some ⟨r, 0, none⟩) e.length cr) ∧ (L 1 = true → s 1 = .int .i64 i) ∧ (L 2 = true → s 2 = .slice Ao su.1.length co) ∧ (L 3 = true → s 3 = .agg #[.string n0, .int .i64 n1, .int .i64 n2, .int .i64 n3]) ∧
       (L 4 = true → s 4 = .int .i64 m) ∧ (L 5 = true → s 5 = .pointer (some ⟨r, i.toNat, none⟩)))
     rfl (fun _ _ _ _ _ h => h) zq28 ?_ ⟨?_, ?_, ?_, ?_, ?_, ?_, ?_, trivial⟩ ?_
   · exact ⟨fun _ => zcs (Below.refl _ _), (fun h => Bool.noConfusion h), (fun h => Bool.noConfusion h), (fun h => Bool.noConfusion h), (fun h => Bool.noConfusion h), (fun h => Bool.noConfusion h), (fun h => Bool.noConfusion h), (fun h => Bool.noConfusion h)⟩
   · rintro L s X hu hd hn ⟨hB, hS, g0, g1, g2, g3, g4, g5⟩ K hK
     have hb := hB hn.2
     have hc := zad (HX6.out.step hb).bn 0
     refine zcw (N := some 34) (v := .slice (some ⟨r, 0, none⟩) e.length cr) (w1 := X) (by rfl) rfl ?_ (hK _ _ ⟨hB, hS, fun _ => rfl, g1, g2, g3, g4, g5⟩)
     refine zsr ?_
     go_simp
   · rintro L s X hu hd hn ⟨hB, hS, g0, g1, g2, g3, g4, g5⟩ K hK
     refine zcw (N := some 35) (v := .int .i64 i) (w1 := X) (by rfl) rfl ?_ (hK _ _ ⟨hB, hS, g0, fun _ => rfl, g2, g3, g4, g5⟩)
     refine zsr ?_
     go_simp
   · rintro L s X hu hd hn ⟨hB, hS, g0, g1, g2, g3, g4, g5⟩ K hK
     have hb := hB hn.2.2
     have hc := zad (HX6.out.step hb).bo 0
     rw [EO.out] at hc
     refine zcw (N := some 36) (v := .slice Ao su.1.length co) (w1 := X) (by rfl) rfl ?_ (hK _ _ ⟨hB, hS, g0, g1, fun _ => rfl, g3, g4, g5⟩)
     refine zsr ?_
     go_simp
   · rintro L s X hu hd hn ⟨hB, hS, g0, g1, g2, g3, g4, g5⟩ K hK
     have hb := hB hn.2.2
     have hg' := zah HG.out hb
     have y0 : X.cell? ⟨g, 0, none⟩ = some (.string n0) := zad hg' 0
     have y1 : X.cell? ⟨g, 1, none⟩ = some (.int .i64 n1) := zad hg' 1
     have y2 : X.cell? ⟨g, 2, none⟩ = some (.int .i64 n2) := zad hg' 2
     have y3 : X.cell? ⟨g, 3, none⟩ = some (.int .i64 n3) := zad hg' 3
     clear hg'
     refine zcw (N := some 37) (v := .agg #[.string n0, .int .i64 n1, .int .i64 n2, .int .i64 n3]) (w1 := X) (by rfl) rfl ?_ (hK _ _ ⟨hB, hS, g0, g1, g2, fun _ => rfl, g4, g5⟩)
     refine zsr ?_
     go_simp
   · rintro L s X hu hd hn ⟨hB, hS, g0, g1, g2, g3, g4, g5⟩ K hK
     have hb := hB hn.2
     have e2 := g2 hd.1
     have e3 := g3 hd.2
     have hR6 := (HX6.out.step hb).out
     rw [EO.out] at hR6
     have hCo := zRr hR6
     have e23 : (#[s 2, s 3] : Array Value) = #[.slice Ao su.1.length co, .agg #[.string n0, .int .i64 n1, .int .i64 n2, .int .i64 n3]] := by rw [e2, e3]
     refine zsj Tryz.func197 zq28 rfl #[.slice Ao su.1.length co, .agg #[.string n0, .int .i64 n1, .int .i64 n2, .int .i64 n3]] (by rfl) rfl rfl (by simp only [List.map_toArray, List.map_cons, List.map_nil]; exact e23) ?_
     refine (zop k Ao co su.1 n0 n1 n2 n3 m X hCo.2.2 hCo.2.1 HM.out).mono ?_
     rintro x w4 ⟨rfl, hb4⟩
     exact ⟨_, rfl, hK _ _ ⟨fun _ => zab hb hb4, fun h => absurd (h.symm.trans hn.2) (by simp), g0, g1, g2, g3, fun _ => rfl, g5⟩⟩
   · rintro L s X hu hd hn ⟨hB, hS, g0, g1, g2, g3, g4, g5⟩ K hK
     have e0 := g0 hd.1
     have e1 := g1 hd.2.1
     refine zcw (N := some 39) (v := .pointer (some ⟨r, i.toNat, none⟩)) (w1 := X) (by rfl) rfl ?_ (hK _ _ ⟨hB, hS, g0, g1, g2, g3, g4, fun _ => rfl⟩)
     refine zsr ?_
     rw [e0, e1]
     go_simp
   · rintro L s X hu hd hn ⟨hB, hS, g0, g1, g2, g3, g4, g5⟩ K hK
     have hb := hB hu
     have e4 := g4 hd.2.2.2.2.1
     have e5 := g5 hd.2.2.2.2.2
     obtain ⟨p2, p3⟩ := Kd.R_celln 0 (HX6.out.step hb).nam i c2 c3
     refine zs5 (w1 := X.setCell ⟨r, i.toNat, none⟩ (.int .i64 m)) (by rfl) rfl ?_ (hK undef _ ⟨fun h => absurd h (by simp [riUp]), fun _ => ⟨X, hb, rfl⟩, g0, g1, g2, g3, g4, g5⟩)
     refine zsr ?_
     rw [e4, e5]
     go_simp
   · rintro L s X hL ⟨hB, hS, g0, g1, g2, g3, g4, g5⟩
     obtain ⟨X', hb, rfl⟩ := hS (hL 6 rfl)
     have HX7 := zA ((HX6.out.step hb).setn i m)
     have HF7 := zA ((HF6.out.step hb).setn i.toNat (.int .i64 m))
     have hgr : g ≠ r := by have := HGE.out; omega
     have HG7 := zA (zaz (zah HG.out hb) (fun e => hgr zq64) (p := ⟨r, i.toNat, none⟩) (.int .i64 m))
     have e4 := g4 (hL 4 rfl)
     have e5 := g5 (hL 5 rfl)
     clear hB hS g0 g1 g2 g3 g4 g5 hb
     refine zsr ?_
     rw [e4, e5]
     clear e4 e5
     generalize X'.setCell ⟨r, i.toNat, none⟩ (.int .i64 m) = X at HX7 HF7 HG7 ⊢
     have q1 := zad HX7.out.bn 0
     obtain ⟨p2, p3⟩ := Kd.R_celln 0 HX7.out.nam i c2 c3
     have hv : rdOf 0 (su.2.set i.toNat m) i = m := by
       have := HLEN.out
       unfold rdOf
       rw [List.getD_eq_getElem?_getD, List.getElem?_set_self (by omega), Option.getD_some]
     rw [show ((su.1, su.2.set i.toNat m) : List S62 × List Int).2 = su.2.set i.toNat m from rfl, hv] at p2
     clear hv
     by_cases hm : m < 0
     rotate_left
     · have d3 : decide (m < 0) = false := zdf hm
       have hs' := HS'.out
       rw [if_neg hm] at hs'
       subst hs'
       clear hm HS'
       go_wp2_with fail
       first | go_end0 | ((try simp only [Exit.inBlock, Exit.then]); refine bodyPost_ret (results_none rfl _ _ _) rfl ?_)
       exact ⟨rfl, vu, HX7.out, HF7.out⟩
     have d3 : decide (m < 0) = true := zdt hm
     have hs' := HS'.out
     rw [if_pos hm] at hs'
     have HS2 := zA hs'
     clear hm HS' hs'
     have HSZ := zA (show (X.setCell ⟨r, i.toNat, none⟩ (.int .i64 su.1.length)).heap.size = X.heap.size by simp)
     have q2 := zad HX7.out.bo 0
     rw [EO.out] at q2
     have hX8 := HX7.out.setn i su.1.length
     rw [show (((su.1, su.2.set i.toNat m) : List S62 × List Int).1, (((su.1, su.2.set i.toNat m) : List S62 × List Int).2).set i.toNat (su.1.length : Int)) = (su.1, su.2.set i.toNat su.1.length) from by simp only [List.set_set]] at hX8
     have t0 := zad hX8.bo 0
     rw [EO.out] at t0
     have hg8 := zaz HG7.out (fun e => hgr zq64) (p := ⟨r, i.toNat, none⟩) (.int .i64 su.1.length)
     have y0 : (X.setCell ⟨r, i.toNat, none⟩ (.int .i64 su.1.length)).cell? ⟨g, 0, none⟩ = some (.string n0) := zad hg8 0
     have y1 : (X.setCell ⟨r, i.toNat, none⟩ (.int .i64 su.1.length)).cell? ⟨g, 1, none⟩ = some (.int .i64 n1) := zad hg8 1
     have y2 : (X.setCell ⟨r, i.toNat, none⟩ (.int .i64 su.1.length)).cell? ⟨g, 2, none⟩ = some (.int .i64 n2) := zad hg8 2
     have y3 : (X.setCell ⟨r, i.toNat, none⟩ (.int .i64 su.1.length)).cell? ⟨g, 3, none⟩ = some (.int .i64 n3) := zad hg8 3
     have HX8 := zA hX8
     have HF8 := zA (HF7.out.setn i.toNat (.int .i64 su.1.length))
     clear hX8 hg8
     go_wp2_with ((with_reducible refine zfe (b := .append) (xs := #[.tmp 50, .tmp 52]) rfl ?_); at_builtin; refine Kd.R_append k62 (w0 := w0) w0.heap.size rfl (.tmp 50) (.tmp 52) 32 62 (.agg #[(.string ⟨#[]⟩), (.int .i64 0), (.int .i64 0), (.int .i64 0)]) 40 rfl Tryz.underlying32 zq0 rfl (by decide) (by omega) (.slice Ao su.1.length co) su.1 (⟨n0, n1, n2, n3⟩ : S62) [.string n0, .int .i64 n1, .int .i64 n2, .int .i64 n3] (fun k => k ≠ gn ∧ k ≠ ge ∧ k ≠ gw ∧ k ≠ go ∧ k ≠ r) (fun _ => False) rfl ?aX (zhd _ _ _ (⟨n0, n1, n2, n3⟩ : S62)) (fun _ hk => hk.elim) ?aF ?aO ?aB ?aS ?aL ?_; (case aX => exact congrArg (fun n => Value.slice (some ⟨n, 0, none⟩) 1 1) HSZ.out.symm); (case aO => have := HX8.out.out; rw [EO.out] at this; exact this); (case aB => exact HX8.out.below); (case aS => exact HX8.out.below.size); (case aF => (have a1 := zb2 HX8.out.bn; have a2 := zb2 HX8.out.be; have a3 := zb2 HX8.out.bw; have a4 := zb2 HX8.out.bo; have a5 := Kd.R_lt HX8.out.nam r rfl; exact fun k hk => ⟨by omega, by omega, by omega, by omega, by omega⟩)); (case aL => omega); intro v1 w10 ho hb hg hat; obtain ⟨A1, c1', e1⟩ := Kd.R_slice ho; rw [List.length_append, List.length_singleton] at e1; subst e1; have t1 : w10.heap[go]? = _ := (hg.block go (zb2 HX8.out.bo) (fun e => (HX8.out.out.1 go (by rw [EO.out]; exact e.symm)).2.2.2.1 rfl)).trans HX8.out.bo; have HX9 := zA (HX8.out.append HF.out ho hb (by rw [EO.out]; exact hg)); have HF9 := zA (HF8.out.append (by rw [EO.out]; exact hg) (by rw [EO.out]; exact hat)); have t2 := zad t1 0; have t3 := za1 t1 0; clear t1 ho hb hg hat)
     first | go_end0 | ((try simp only [Exit.inBlock, Exit.then]); refine bodyPost_ret (results_none rfl _ _ _) rfl ?_)
     rw [← HS2.out]
     exact ⟨rfl, _, HX9.out, HF9.out⟩
theorem shNil (w : World) (base : Nat) (h : base ≤ w.heap.size) : Kd.R k62 62 (w.alloc (.cells #[] 62)) base (fun k => k = w.heap.size) (.slice (some ⟨w.heap.size, 0, none⟩) 0 0) [] :=
 ⟨fun k hk => by simpa [Value.ownBlock] using hk.symm, [], by have := World.ownsRow_lit (base := base) (e := 62) (size := k62.sz) w #[] 0 h (by simp [maxLen]) (by simp); simpa using this, Reps.none _ _⟩
def zfr (k : Nat) (l0 : List S62) : Option (List S62) := if 0 < l0.length ∧ l0.length ≤ 1048576 then (zfi [-1] l0.length).bind fun names => if names.length = l0.length then (shW k l0 k ((l0.length : Int) - 1) ([], names)).bind fun s => some s.1 else none else none
theorem zjq (k : Nat) (A0 : Option Addr) (c0 : Nat) (l0 : List S62) (r : List S62) (w : World) (hr0 : Kd.C k62 w A0 l0.length l0) (hc0 : l0.length ≤ c0) (h : zfr k l0 = some r) :
   Calls Tryz.prog 179 #[.slice A0 l0.length c0] w fun e w' => ∃ v0_ : Value, e = .returned (v0_) ∧ Kd.R k62 62 w' w.heap.size (fun _ => True) v0_ r ∧ Below w.heap.size w w' := by
 unfold zfr at h
 by_cases hl : 0 < l0.length ∧ l0.length ≤ 1048576
 rotate_left
 · rw [if_neg hl] at h
   cases h
 rw [if_pos hl] at h
 obtain ⟨names, hn, h⟩ := Option.bind_eq_some_iff.1 h
 by_cases hnl : names.length = l0.length
 rotate_left
 · rw [if_neg hnl] at h
   cases h
 rw [if_pos hnl] at h
 obtain ⟨s, hs, h⟩ := Option.bind_eq_some_iff.1 h
 obtain rfl := zsi h
 have HN := zA hn
 have HNL := zA hnl
 have HS := zA hs
 have HR := zA hr0
 have HC := zA hc0
 clear h hn hnl hs hr0 hc0
 go_enter Tryz.func179, Tryz.ntmps179
 have hc1 : ∀ V : World, V.heap[w.heap.size + 1 + 1]? = some (.cells #[.int .i64 (-1)] 3 (0, 0)) → (Kd.int .i64).C V (some ⟨w.heap.size + 1 + 1, 0, none⟩) [(-1 : Int)].length [-1] := fun V hV => yc8 (d := Kd.int .i64) hV (cs := [.int .i64 (-1)]) rfl rfl
 have HC1 := zA hc1
 clear hc1
 go_wp2_with (go_at_call 194; refine (zki (some ⟨w.heap.size + 1 + 1, 0, none⟩) 1 [-1] l0.length names _ (HC1.out _ ?s1) (zlr _) HN.out).mono ?_; (case s1 => simpa using zhh ((w.alloc (Obj.cells #[Value.slice A0 l0.length c0] 32)).alloc (Obj.cells #[] 62)) (Obj.cells #[Value.int IntKind.i64 (-1)] 3)); rintro e w4 ⟨v4, rfl, hv4, hb4⟩; obtain ⟨r, cr, e4, hrb, _⟩ := Kd.R_form hv4 (by rw [HNL.out]; exact hl.1); rw [HNL.out] at e4; subst e4; have HRB := zA hrb; clear hrb; have be := zah (zka (zka (zhh w (.cells #[.slice A0 l0.length c0] 32)) (.cells #[] 62)) (.cells #[.int .i64 (-1)] 3)) hb4; have BE := zA be; have qf : (((w4.alloc (.cells #[.slice (some ⟨w.heap.size + 1, 0, none⟩) 0 0] 32)).alloc (.cells #[.slice (some ⟨r, 0, none⟩) l0.length cr] 24)).alloc (.cells #[Value.func (.func 195) #[] #[.pointer (some ⟨w4.heap.size + 1, 0, none⟩), .pointer (some ⟨w.heap.size, 0, none⟩), .pointer (some ⟨w4.heap.size + 1 + 1, 0, none⟩), .pointer (some ⟨w4.heap.size, 0, none⟩)]] 171)).cell? ⟨w.heap.size, 0, none⟩ = some (.slice A0 l0.length c0) := zad (zka (zka (zka be _) _) _) 0; clear be; have HV4 := zA hv4; have HB4 := zA hb4; clear hv4 hb4)
 have hle4 := HB4.out.size
 have hX : ShX w A0 c0 l0 (w4.heap.size + 1) w.heap.size (w4.heap.size + 1 + 1) w4.heap.size r cr ([], names) (.slice (some ⟨w.heap.size + 1, 0, none⟩) 0 0) (((w4.alloc (.cells #[.slice (some ⟨w.heap.size + 1, 0, none⟩) 0 0] 32)).alloc (.cells #[.slice (some ⟨r, 0, none⟩) l0.length cr] 24)).alloc (.cells #[Value.func (.func 195) #[] #[.pointer (some ⟨w4.heap.size + 1, 0, none⟩), .pointer (some ⟨w.heap.size, 0, none⟩), .pointer (some ⟨w4.heap.size + 1 + 1, 0, none⟩), .pointer (some ⟨w4.heap.size, 0, none⟩)]] 171)) := by
   have hrb := HRB.out
   have hs3 : ((((w.alloc (.cells #[.slice A0 l0.length c0] 32)).alloc (.cells #[] 62)).alloc (.cells #[.int .i64 (-1)] 3))).heap.size = w.heap.size + 1 + 1 + 1 := by simp
   rw [hs3] at hrb hle4
   have hlt := Kd.R_lt HV4.out r rfl
   have b2 := zhh (w4.alloc (.cells #[.slice (some ⟨w.heap.size + 1, 0, none⟩) 0 0] 32)) (.cells #[.slice (some ⟨r, 0, none⟩) l0.length cr] 24)
   have b3 := zhh ((w4.alloc (.cells #[.slice (some ⟨w.heap.size + 1, 0, none⟩) 0 0] 32)).alloc (.cells #[.slice (some ⟨r, 0, none⟩) l0.length cr] 24)) (.cells #[Value.func (.func 195) #[] #[.pointer (some ⟨w4.heap.size + 1, 0, none⟩), .pointer (some ⟨w.heap.size, 0, none⟩), .pointer (some ⟨w4.heap.size + 1 + 1, 0, none⟩), .pointer (some ⟨w4.heap.size, 0, none⟩)]] 171)
   have h2 : (w4.alloc (.cells #[.slice (some ⟨w.heap.size + 1, 0, none⟩) 0 0] 32)).heap.size = w4.heap.size + 1 := by simp
   have h3 : ((w4.alloc (.cells #[.slice (some ⟨w.heap.size + 1, 0, none⟩) 0 0] 32)).alloc (.cells #[.slice (some ⟨r, 0, none⟩) l0.length cr] 24)).heap.size = w4.heap.size + 1 + 1 := by simp
   rw [h2] at b2
   rw [h3] at b3
   have hN := shNil (w.alloc (.cells #[.slice A0 l0.length c0] 32)) w.heap.size (by simp)
   have h1 : (w.alloc (.cells #[.slice A0 l0.length c0] 32)).heap.size = w.heap.size + 1 := by simp
   rw [h1] at hN
   refine ⟨zba (zba (zba (zab (zba (zba (zba (Below.refl _ _) _) _) _) HB4.out) _) _) _, zka b2 _, zka (zka (zka BE.out _) _) _, b3, zka (zka (zhh w4 _) _) _, ?_, ⟨by omega, by omega, by omega, by omega⟩, ?_⟩
   · exact zRa (zRa (zRa (zRb (zRa (Kd.R_mono hN (fun k hk => ⟨by omega, by omega, by omega, by omega, by omega⟩)) _) HB4.out) _) _) _
   · have hv := HV4.out
     have hnl := HNL.out
     rw [← hnl] at hv
     exact zRa (zRa (zRa (Kd.R_lower (by rw [← hnl]; exact Kd.R_of_own (Kd.own_of_R hv) (fun k hk => by simpa [Value.ownBlock] using hk.symm)) (by simp only [World.size_alloc]; omega)) _) _) _
 have HX := zA hX
 clear hX hle4
 refine (ydb k (go := w4.heap.size) (gn := w4.heap.size + 1) (ge := w.heap.size) (gw := w4.heap.size + 1 + 1) ⟨by have := HB4.out.size; simp at this; omega, by omega, by have := HB4.out.size; simp at this; omega, by omega⟩ HR.out HC.out k _ _ s _ _ HX.out HS.out).mono ?_
 rintro x w7 ⟨rfl, vo, hX7, hF7⟩
 have q7 := zad hX7.bo 0
 obtain ⟨A7, c7, e7⟩ := Kd.R_slice hX7.out
 rw [e7] at q7
 have E7 := zA e7
 have HX7 := zA hX7
 clear hX7 hF7 e7
 go_wp2_with fail
 go_ret
 exact ⟨_, rfl, by have := HX7.out.out; rw [E7.out] at this; exact Kd.R_mono this (fun _ _ => trivial), HX7.out.below⟩
theorem zwo (g g' : Int → List S62 × List Int → Option (List S62 × List Int)) (h : ∀ x s, LeO (g x s) (g' x s)) : ∀ ks s, LeO (shL g ks s) (shL g' ks s)
 | [], _ => LeO.refl _
 | x :: xs, s => LeO.bind (h x s) (fun s1 => zwo g g' h xs s1)
theorem zxf (k : Nat) (i : Int) (n : S62) (s : List S62 × List Int) : LeO (zut k i n s) (zut (k + 1) i n s) := by
 unfold zut
 exact zbi (LeO.bind (zo9 _ _ _ _ _ _) (fun _ => LeO.refl _)) (LeO.refl _)
theorem zwp (k : Nat) (e : List S62) : ∀ (d : Nat) (i : Int) (s : List S62 × List Int), LeO (shW k e d i s) (shW (k + 1) e (d + 1) i s)
 | 0, _, _ => LeO.none _
 | d + 1, i, s => by
   unfold shW
   exact zbi (zbi (LeO.refl _) (LeO.bind (zco _ _ _ _ _) (fun ks => zbi (LeO.bind (zwo _ _ (zwp k e d) _ _) (fun s1 => LeO.bind (zet _ _ _ _ _ _) (fun n => zxf _ _ _ _))) (LeO.refl _)))) (LeO.refl _)
theorem zkj : ∀ a0 k, LeO (zfr k a0) (zfr (k + 1) a0) := by
 intro a0 k
 unfold zfr
 exact zbi (LeO.bind (LeO.refl _) (fun _ => zbi (LeO.bind (zwp _ _ _ _ _) (fun _ => LeO.refl _)) (LeO.refl _))) (LeO.refl _)
end Go.Proofs.YtnaafcleafbejaaGreat.Q
end
section
namespace Go.Proofs.YtnaafcleafbejaaGreat.Q
open Go.RowKit Go.Proofs.YtnaafcleafbejaaGreatW.PrintWords Go.Proofs.YtnaafcleafbejaaGreatW.PrintLast Go.Proofs.YtnaafcleafbejaaGreatW.PrintMore
set_option maxHeartbeats 8000000
set_option maxRecDepth 100000
attribute [local go_sem] zf1 zf2 zhf zhg zeu zev zf3 zf6
set_option linter.unusedVariables false
set_option linter.unusedSimpArgs false
def ioOps : List ByteArray := ([(⟨#[97, 100, 100]⟩ : ByteArray), (⟨#[109, 117, 108]⟩ : ByteArray), (⟨#[97, 110, 100]⟩ : ByteArray), (⟨#[111, 114]⟩ : ByteArray), (⟨#[120, 111, 114]⟩ : ByteArray), (⟨#[101, 113]⟩ : ByteArray)] : List ByteArray)
theorem ioLit (V : World) : Kd.C Kd.string (V.alloc (.cells #[.string ⟨#[97, 100, 100]⟩, .string ⟨#[109, 117, 108]⟩, .string ⟨#[97, 110, 100]⟩, .string ⟨#[111, 114]⟩, .string ⟨#[120, 111, 114]⟩, .string ⟨#[101, 113]⟩] 9)) (some ⟨V.heap.size, 0, none⟩) ioOps.length ioOps := by
 have hR : Kd.R Kd.string 9 (V.alloc (.cells #[.string ⟨#[97, 100, 100]⟩, .string ⟨#[109, 117, 108]⟩, .string ⟨#[97, 110, 100]⟩, .string ⟨#[111, 114]⟩, .string ⟨#[120, 111, 114]⟩, .string ⟨#[101, 113]⟩] 9)) V.heap.size (fun _ => True) (.slice (some ⟨V.heap.size, 0, none⟩) ioOps.length ioOps.length) ioOps :=
   ⟨fun _ _ => trivial, [.string ⟨#[97, 100, 100]⟩, .string ⟨#[109, 117, 108]⟩, .string ⟨#[97, 110, 100]⟩, .string ⟨#[111, 114]⟩, .string ⟨#[120, 111, 114]⟩, .string ⟨#[101, 113]⟩], by have h2 := World.ownsRow_lit (base := V.heap.size) (e := 9) (size := 1) V #[.string ⟨#[97, 100, 100]⟩, .string ⟨#[109, 117, 108]⟩, .string ⟨#[97, 110, 100]⟩, .string ⟨#[111, 114]⟩, .string ⟨#[120, 111, 114]⟩, .string ⟨#[101, 113]⟩] 6 (zlr _) (by simp [maxLen]) (by simp); exact h2, (zan (show Kd.M Kd.string _ _ _ (⟨#[97, 100, 100]⟩ : ByteArray) [.string ⟨#[97, 100, 100]⟩] from rfl) (zan (show Kd.M Kd.string _ _ _ (⟨#[109, 117, 108]⟩ : ByteArray) [.string ⟨#[109, 117, 108]⟩] from rfl) (zan (show Kd.M Kd.string _ _ _ (⟨#[97, 110, 100]⟩ : ByteArray) [.string ⟨#[97, 110, 100]⟩] from rfl) (zan (show Kd.M Kd.string _ _ _ (⟨#[111, 114]⟩ : ByteArray) [.string ⟨#[111, 114]⟩] from rfl) (zan (show Kd.M Kd.string _ _ _ (⟨#[120, 111, 114]⟩ : ByteArray) [.string ⟨#[120, 111, 114]⟩] from rfl) (zan (show Kd.M Kd.string _ _ _ (⟨#[101, 113]⟩ : ByteArray) [.string ⟨#[101, 113]⟩] from rfl) (Reps.none _ _)))))))⟩
 exact (zRr hR).2.2
def ioSt (k : Nat) (out : List S62) (i : Int) : Option (List S62) := (zat k ioOps (zac out i).f0).bind fun t => if t = true then (zfz k out (zac out i).f2 (zac out i).f1).bind fun c => some (if c < 0 then out.set i.toNat ⟨(zac out i).f0, (zac out i).f2, (zac out i).f1, (zac out i).f3⟩ else out) else some out
def ioL (k : Nat) : Nat → Nat → List S62 → Option (List S62)
 | 0, _, out => some out
 | d + 1, u, out => (ioSt k out (u : Int)).bind fun o => ioL k d (u + 1) o
theorem zz0 (k : Nat) (out o : List S62) (i : Int) (h : ioSt k out i = some o) : o.length = out.length := by
 unfold ioSt at h
 obtain ⟨t, _, h⟩ := Option.bind_eq_some_iff.1 h
 split at h
 · obtain ⟨c, _, h⟩ := Option.bind_eq_some_iff.1 h
   obtain rfl := zsi h
   split <;> simp
 · obtain rfl := zsi h
   rfl
def zbo (k : Nat) (l0 : List S62) : Option (List S62) := (zfr k l0).bind fun o => if o.length < 1048576 then (ioL k o.length 0 o).bind fun o2 => zfr k o2 else none
def IoC (base : Nat) (g n c3 u : Nat) : Prop := ∀ (V : World) (xs : List S62) (y : S62), Kd.R k62 62 V base (fun _ => True) (.slice (some ⟨g, 0, none⟩) n c3) xs → y = zac xs (u : Int) → ∀ (j : Nat) (v : Value), ([.string y.f0, .int .i64 y.f1, .int .i64 y.f2, .int .i64 y.f3] : List Value)[j]? = some v → V.cell? ⟨g, (u : Int).toNat * k62.sz + j, none⟩ = some v
theorem ioFz {V : World} {base g n c3 : Nat} {xs : List S62} (h : Kd.R k62 62 V base (fun _ => True) (.slice (some ⟨g, 0, none⟩) n c3) xs) (j : Nat) : V.frozen? ⟨g, j, none⟩ = false := by
 obtain ⟨inner, ho⟩ := Kd.R_own h
 obtain ⟨cells, hc⟩ := znx ho g rfl
 exact za1 hc j
theorem ydc {base g n c3 u : Nat} (HCC : IoC base g n c3 u) {V : World} {out : List S62} {y : S62} (hv : Kd.R k62 62 V base (fun _ => True) (.slice (some ⟨g, 0, none⟩) n c3) out) (hy : y = zac out (u : Int)) (d2 : (0 : Int) ≤ (u : Int)) (d3 : (u : Int) < n) :
   Kd.R k62 62 (V.setCell ⟨g, u * 4 + 1, none⟩ (.int .i64 y.f2)) base (fun _ => True) (.slice (some ⟨g, 0, none⟩) n c3) (out.set ((u : Nat) : Int).toNat (⟨y.f0, y.f2, y.f2, y.f3⟩ : S62)) ∧ V.grownBy (V.setCell ⟨g, u * 4 + 1, none⟩ (.int .i64 y.f2)) (some g) :=
 Kd.R_seg (d := k62) hv (u : Int) d2 d3 (c := [.string y.f0, .int .i64 y.f1, .int .i64 y.f2, .int .i64 y.f3]) (seg := [.int .i64 y.f2]) (j := 1) (okp := fun _ => False) rfl (HCC V out y hv hy) (show 1 + 1 ≤ 4 by omega) (zhd _ _ _ (⟨y.f0, y.f2, y.f2, y.f3⟩ : S62)) (fun _ h => h.elim)
theorem ydd {base g n c3 u : Nat} (HCC : IoC base g n c3 u) {V : World} {out : List S62} {y : S62} {a : Int} (hv : Kd.R k62 62 V base (fun _ => True) (.slice (some ⟨g, 0, none⟩) n c3) out) (hy : y = zac out (u : Int)) (d2 : (0 : Int) ≤ (u : Int)) (d3 : (u : Int) < n) :
   Kd.R k62 62 (V.setCell ⟨g, u * 4 + 2, none⟩ (.int .i64 a)) base (fun _ => True) (.slice (some ⟨g, 0, none⟩) n c3) (out.set ((u : Nat) : Int).toNat (⟨y.f0, y.f1, a, y.f3⟩ : S62)) ∧ V.grownBy (V.setCell ⟨g, u * 4 + 2, none⟩ (.int .i64 a)) (some g) :=
 Kd.R_seg (d := k62) hv (u : Int) d2 d3 (c := [.string y.f0, .int .i64 y.f1, .int .i64 y.f2, .int .i64 y.f3]) (seg := [.int .i64 a]) (j := 2) (okp := fun _ => False) rfl (HCC V out y hv hy) (show 2 + 1 ≤ 4 by omega) (zhd _ _ _ (⟨y.f0, y.f1, a, y.f3⟩ : S62)) (fun _ h => h.elim)
theorem zpa (k : Nat) (A0 : Option Addr) (c0 : Nat) (l0 : List S62) (r : List S62) (w : World) (hr0 : Kd.C k62 w A0 l0.length l0) (hc0 : l0.length ≤ c0) (h : zbo k l0 = some r) :
   Calls Tryz.prog 148 #[.slice A0 l0.length c0] w fun e w' => ∃ v0_ : Value, e = .returned (v0_) ∧ Kd.R k62 62 w' w.heap.size (fun _ => True) v0_ r ∧ Below w.heap.size w w' := by
 unfold zbo at h
 obtain ⟨o, ho, h⟩ := Option.bind_eq_some_iff.1 h
 by_cases hol : o.length < 1048576
 rotate_left
 · rw [if_neg hol] at h
   cases h
 rw [if_pos hol] at h
 obtain ⟨o2, ho2, h⟩ := Option.bind_eq_some_iff.1 h
 have HO1 := zA ho
 have HO2 := zA ho2
 have HH := zA h
 have HR := zA hr0
 have HC := zA hc0
 clear h ho ho2 hr0 hc0
 go_enter Tryz.func148, Tryz.ntmps148
 go_wp2_with (go_at_call 179; refine (zjq k A0 c0 l0 o _ HR.out HC.out HO1.out).mono ?_; rintro e w3 ⟨v3, rfl, hv3, hb3⟩; obtain ⟨A3, c3, rfl⟩ := Kd.R_slice hv3; have HV := zA hv3; have HB := zA hb3; clear hv3 hb3)
 go_loopw [4, 5, 10] (fun v4 v5 v10 wr => ∃ (u : Nat) (out : List S62), v10 = .int .i64 (u : Int) ∧ u ≤ o.length ∧ Aside0 (out.length = o.length) ∧ Aside0 (ioL k (o.length - u) u out = some o2) ∧ Aside0 (Below w.heap.size w wr) ∧ Aside0 (Kd.R k62 62 wr w.heap.size (fun _ => True) (.slice A3 o.length c3) out)) (fun _ _ v10 _ => o.length - (intOf v10).toNat)
 case atStart => exact ⟨0, o, rfl, Nat.zero_le _, ⟨rfl⟩, HO2, HB, HV⟩
 clear HV HB HO2
 obtain ⟨u, out, rfl, hu, HLO, HL, HB, HV⟩ := hrel
 by_cases hlt : u < o.length
 rotate_left
 · obtain rfl : u = o.length := by omega
   have d1 : decide ((o.length : Int) < o.length) = false := zdf (by omega)
   have h := HL.out
   rw [Nat.sub_self] at h
   obtain rfl := zsi h
   clear h HL
   have hv := HV.out
   have hlen := HLO.out
   rw [← hlen] at hv
   have hrd := zRr hv
   have HRD := zA hrd
   clear hv hrd hlen
   go_wp2_with (go_at_call 179; rw [← HLO.out]; refine (zjq k A3 c3 out r _ HRD.out.2.2 HRD.out.2.1 HH.out).mono ?_; rintro e w6 ⟨v6, rfl, hv6, hb6⟩; have HV6 := zA hv6; have HB6 := zA hb6; clear hv6 hb6)
   exact zr_5
 have d1 : decide ((u : Int) < o.length) = true := zdt (by omega)
 have d2 : (0 : Int) ≤ (u : Int) := by omega
 have d3 : (u : Int) < o.length := by omega
 obtain ⟨g, cp, e, hgb, hgl, _⟩ := Kd.R_form HV.out (by rw [HLO.out]; omega)
 injection e with e1 e2 e3
 subst e1
 clear e2 e3
 obtain ⟨ad, eA, x0, x1, x2, x3⟩ := zdu (zRr HV.out).2.2 (u : Int) d2 (by rw [HLO.out]; omega)
 cases eA
 have h := HL.out
 rw [show o.length - u = (o.length - (u + 1)) + 1 by omega] at h
 simp only [ioL] at h
 obtain ⟨o', ho', h⟩ := Option.bind_eq_some_iff.1 h
 have HL' := zA h
 have hlo := zz0 _ _ _ _ ho'
 have HLO' := zA (hlo.trans HLO.out)
 unfold ioSt at ho'
 obtain ⟨t, ht, ho'⟩ := Option.bind_eq_some_iff.1 ho'
 have HT := zA ht
 clear ht h hlo HL
 rw [Int.toNat_natCast] at x0 x1 x2 x3
 simp only [zcg, Nat.zero_add] at x0 x1 x2 x3
 obtain ⟨n, hn⟩ : ∃ n, n = zac out (u : Int) := ⟨_, rfl⟩
 rw [← hn] at x0 x1 x2 x3 HT ho'
 have HNN := zA hn
 clear hn
 cases hto : t with
 | false =>
   rw [hto] at ho' HT
   rw [if_neg (by decide)] at ho'
   obtain rfl := zsi ho'
   clear ho' hto
   go_wp2_with (go_at_call 161; refine (zai k (some ⟨wr.heap.size + 1, 0, none⟩) 6 ioOps n.f0 false _ zq53 (zlr _) HT.out).mono ?_; rintro e w5 ⟨rfl, hd⟩; obtain ⟨nd, rfl⟩ := hd.out; have hb5 := zbn (zba (Below.refl (wr.alloc (.cells #[.string n.f0, .int .i64 n.f1, .int .i64 n.f2, .int .i64 n.f3] 62)).heap.size (wr.alloc (.cells #[.string n.f0, .int .i64 n.f1, .int .i64 n.f2, .int .i64 n.f3] 62))) (.cells #[.string ⟨#[97, 100, 100]⟩, .string ⟨#[109, 117, 108]⟩, .string ⟨#[97, 110, 100]⟩, .string ⟨#[111, 114]⟩, .string ⟨#[120, 111, 114]⟩, .string ⟨#[101, 113]⟩] 9)) nd; have HB5 := zA hb5; clear hb5)
   go_roundw
   case rel => exact ⟨u + 1, out, by go_num, by omega, HLO, HL', ⟨zab (zba HB.out _) HB5.out⟩, ⟨zRb (zRa HV.out _) HB5.out⟩⟩
   case measure => simp [intOf]; omega
 | true =>
   rw [hto] at ho' HT
   rw [if_pos rfl] at ho'
   obtain ⟨c, hc, ho'⟩ := Option.bind_eq_some_iff.1 ho'
   have HO' := zA (zsi ho')
   have HKC := zA (show ∀ V, Kd.R k62 62 V w.heap.size (fun _ => True) (.slice (some ⟨g, 0, none⟩) o.length c3) out → Calls Tryz.prog 181 #[.slice (some ⟨g, 0, none⟩) o.length c3, .int .i64 n.f2, .int .i64 n.f1] V (fun e w' => e = .returned (.int .i64 c) ∧ Below V.heap.size V w') from fun V hV => by
     have hlen := HLO.out
     rw [← hlen] at hV ⊢
     have hr := zRr hV
     exact zmh k (some ⟨g, 0, none⟩) c3 out n.f2 n.f1 c V hr.2.2 hr.2.1 hc)
   have HGN := zA (show g ≠ wr.heap.size by omega)
   have HCC := zA (show IoC w.heap.size g o.length c3 u from fun V xs y hV hy j v hj => by
     have hr := zRr hV
     obtain ⟨ad, cc, ea, _, hK, hc0⟩ := Kd.C_get hr.2.2 z62 (u : Int) d2 (by have := hr.1; omega)
     cases ea
     have := hc0 j v (by rw [zrr hK]; rw [hy] at hj; exact hj)
     rw [zcg] at this
     exact this)
   clear ho' hc hto
   by_cases hc0 : c < 0
   rotate_left
   · have d4 : decide (c < 0) = false := zdf hc0
     have hoo := HO'.out
     rw [if_neg hc0] at hoo
     have HOO := zA hoo
     clear hoo hc0
     go_wp2_with (first | (go_at_call 161; refine (zai k (some ⟨wr.heap.size + 1, 0, none⟩) 6 ioOps n.f0 true _ zq53 (zlr _) HT.out).mono ?_; rintro e w5 ⟨rfl, hd⟩; obtain ⟨nd, rfl⟩ := hd.out; have hb5 := zbn (zba (Below.refl (wr.alloc (.cells #[.string n.f0, .int .i64 n.f1, .int .i64 n.f2, .int .i64 n.f3] 62)).heap.size (wr.alloc (.cells #[.string n.f0, .int .i64 n.f1, .int .i64 n.f2, .int .i64 n.f3] 62))) (.cells #[.string ⟨#[97, 100, 100]⟩, .string ⟨#[109, 117, 108]⟩, .string ⟨#[97, 110, 100]⟩, .string ⟨#[111, 114]⟩, .string ⟨#[120, 111, 114]⟩, .string ⟨#[101, 113]⟩] 9)) nd; have hbx := zah (zhh wr (.cells #[.string n.f0, .int .i64 n.f1, .int .i64 n.f2, .int .i64 n.f3] 62)) hb5; have HBX := zA hbx; have z0 := zad hbx 0; have z1 := zad hbx 1; have z2 := zad hbx 2; have z3 := zad hbx 3; have HB5 := zA (zab (zba HB.out _) hb5); have HV5 := zA (zRb (zRa HV.out _) hb5); clear hb5 hbx) | (go_at_call 181; refine (HKC.out _ HV5.out).mono ?_; rintro e w6 ⟨rfl, hb6⟩; have hbx := zah HBX.out hb6; have HBX6 := zA hbx; clear z0 z1 z2 z3; have z0 := zad hbx 0; have z1 := zad hbx 1; have z2 := zad hbx 2; have z3 := zad hbx 3; have HB6 := zA (zab HB5.out hb6); have HV6 := zA (zRb HV5.out hb6); clear hb6 hbx))
     go_roundw
     case rel => exact ⟨u + 1, o', by go_num, by omega, HLO', HL', HB6, ⟨by rw [← HOO.out]; exact HV6.out⟩⟩
     case measure => simp [intOf]; omega
   have d4 : decide (c < 0) = true := zdt hc0
   have hoo := HO'.out
   rw [if_pos hc0] at hoo
   have HOO := zA hoo
   have HN2 := zA (show (⟨n.f0, n.f2, n.f2, n.f3⟩ : S62) = zac (out.set ((u : Nat) : Int).toNat (⟨n.f0, n.f2, n.f2, n.f3⟩ : S62)) (u : Int) by
     have := HLO.out
     unfold zac
     rw [List.getD_eq_getElem?_getD, List.getElem?_set_self (by rw [Int.toNat_natCast]; omega)]
     rfl)
   clear hoo hc0
   go_wp2_with (first | (go_at_call 161; refine (zai k (some ⟨wr.heap.size + 1, 0, none⟩) 6 ioOps n.f0 true _ zq53 (zlr _) HT.out).mono ?_; rintro e w5 ⟨rfl, hd⟩; obtain ⟨nd, rfl⟩ := hd.out; have hb5 := zbn (zba (Below.refl (wr.alloc (.cells #[.string n.f0, .int .i64 n.f1, .int .i64 n.f2, .int .i64 n.f3] 62)).heap.size (wr.alloc (.cells #[.string n.f0, .int .i64 n.f1, .int .i64 n.f2, .int .i64 n.f3] 62))) (.cells #[.string ⟨#[97, 100, 100]⟩, .string ⟨#[109, 117, 108]⟩, .string ⟨#[97, 110, 100]⟩, .string ⟨#[111, 114]⟩, .string ⟨#[120, 111, 114]⟩, .string ⟨#[101, 113]⟩] 9)) nd; have hbx := zah (zhh wr (.cells #[.string n.f0, .int .i64 n.f1, .int .i64 n.f2, .int .i64 n.f3] 62)) hb5; have HBX := zA hbx; have z0 := zad hbx 0; have z1 := zad hbx 1; have z2 := zad hbx 2; have z3 := zad hbx 3; have HB5 := zA (zab (zba HB.out _) hb5); have HV5 := zA (zRb (zRa HV.out _) hb5); clear hb5 hbx) | (go_at_call 181; refine (HKC.out _ HV5.out).mono ?_; rintro e w6 ⟨rfl, hb6⟩; have hbx := zah HBX.out hb6; have HBX6 := zA hbx; clear z0 z1 z2 z3; have z0 := zad hbx 0; have z1 := zad hbx 1; have z2 := zad hbx 2; have z3 := zad hbx 3; have HB6 := zA (zab HB5.out hb6); have HV6 := zA (zRb HV5.out hb6); clear hb6 hbx))
   refine zji [[], [], [], [], [], [4], [], [6], [0, 1, 4, 5], [0, 1, 4, 5, 8], [0, 1, 4, 5, 8, 9], [0, 1, 2, 3, 4, 5, 6, 7, 8, 9, 10], [0, 1, 2, 3, 4, 5, 6, 7, 8, 9, 10, 11], [0, 1, 2, 3, 4, 5, 6, 7, 8, 9, 10, 11, 12]] [[8, 9, 10, 11, 12, 13], [8, 9, 10, 11, 12, 13], [11, 12, 13], [11, 12, 13], [5, 8, 9, 10, 11, 12, 13], [8, 9, 10, 11, 12, 13], [7, 11, 12, 13], [11, 12, 13], [9, 10, 11, 12, 13], [10, 11, 12, 13], [11, 12, 13], [12, 13], [13], []]
     (fun L s_ V => (L 10 = false → Below w6.heap.size w6 V) ∧ (L 10 = true → L 13 = false → ∃ V0, Below w6.heap.size w6 V0 ∧ V = V0.setCell ⟨g, u * 4 + 1, none⟩ (.int .i64 n.f2)) ∧ (L 13 = true → ∃ V0, Below w6.heap.size w6 V0 ∧ V = (V0.setCell ⟨g, u * 4 + 1, none⟩ (.int .i64 n.f2)).setCell ⟨g, u * 4 + 2, none⟩ (.int .i64 n.f1)) ∧ (L 0 = true → s_ 0 = .slice (some ⟨g, 0, none⟩) o.length c3) ∧ (L 1 = true → s_ 1 = .int .i64 u) ∧ (L 2 = true → s_ 2 = .slice (some ⟨g, 0, none⟩) o.length c3) ∧ (L 3 = true → s_ 3 = .int .i64 u) ∧ (L 4 = true → s_ 4 = .pointer (some ⟨wr.heap.size, 2, none⟩)) ∧ (L 5 = true → s_ 5 = .int .i64 n.f2) ∧ (L 6 = true → s_ 6 = .pointer (some ⟨wr.heap.size, 1, none⟩)) ∧ (L 7 = true → s_ 7 = .int .i64 n.f1) ∧ (L 8 = true → s_ 8 = .pointer (some ⟨g, u * 4, none⟩)) ∧ (L 9 = true → s_ 9 = .pointer (some ⟨g, u * 4 + 1, none⟩)) ∧ (L 11 = true → s_ 11 = .pointer (some ⟨g, u * 4, none⟩)) ∧ (L 12 = true → s_ 12 = .pointer (some ⟨g, u * 4 + 2, none⟩)))
     rfl (fun _ _ _ _ _ h => h) zq28 ?_ ⟨?_, ?_, ?_, ?_, ?_, ?_, ?_, ?_, ?_, ?_, ?_, ?_, ?_, ?_, trivial⟩ ?_
   · exact ⟨fun _ => zcs (Below.refl _ _), (fun h => Bool.noConfusion h), (fun h => Bool.noConfusion h), (fun h => Bool.noConfusion h), (fun h => Bool.noConfusion h), (fun h => Bool.noConfusion h), (fun h => Bool.noConfusion h), (fun h => Bool.noConfusion h), (fun h => Bool.noConfusion h), (fun h => Bool.noConfusion h), (fun h => Bool.noConfusion h), (fun h => Bool.noConfusion h), (fun h => Bool.noConfusion h), (fun h => Bool.noConfusion h), (fun h => Bool.noConfusion h)⟩
   · rintro L s_ V hu hd hn ⟨hB, hA, hS, g0, g1, g2, g3, g4, g5, g6, g7, g8, g9, g11, g12⟩ K hK
     refine zcw (N := some 28) (v := .slice (some ⟨g, 0, none⟩) o.length c3) (w1 := V) (by rfl) rfl ?_ (hK _ _ ⟨hB, hA, hS, fun _ => rfl, g1, g2, g3, g4, g5, g6, g7, g8, g9, g11, g12⟩)
     refine zsr ?_
     go_simp
   · rintro L s_ V hu hd hn ⟨hB, hA, hS, g0, g1, g2, g3, g4, g5, g6, g7, g8, g9, g11, g12⟩ K hK
     refine zcw (N := some 29) (v := .int .i64 u) (w1 := V) (by rfl) rfl ?_ (hK _ _ ⟨hB, hA, hS, g0, fun _ => rfl, g2, g3, g4, g5, g6, g7, g8, g9, g11, g12⟩)
     refine zsr ?_
     go_simp
   · rintro L s_ V hu hd hn ⟨hB, hA, hS, g0, g1, g2, g3, g4, g5, g6, g7, g8, g9, g11, g12⟩ K hK
     refine zcw (N := some 30) (v := .slice (some ⟨g, 0, none⟩) o.length c3) (w1 := V) (by rfl) rfl ?_ (hK _ _ ⟨hB, hA, hS, g0, g1, fun _ => rfl, g3, g4, g5, g6, g7, g8, g9, g11, g12⟩)
     refine zsr ?_
     go_simp
   · rintro L s_ V hu hd hn ⟨hB, hA, hS, g0, g1, g2, g3, g4, g5, g6, g7, g8, g9, g11, g12⟩ K hK
     refine zcw (N := some 31) (v := .int .i64 u) (w1 := V) (by rfl) rfl ?_ (hK _ _ ⟨hB, hA, hS, g0, g1, g2, fun _ => rfl, g4, g5, g6, g7, g8, g9, g11, g12⟩)
     refine zsr ?_
     go_simp
   · rintro L s_ V hu hd hn ⟨hB, hA, hS, g0, g1, g2, g3, g4, g5, g6, g7, g8, g9, g11, g12⟩ K hK
     refine zcw (N := some 32) (v := .pointer (some ⟨wr.heap.size, 2, none⟩)) (w1 := V) (by rfl) rfl ?_ (hK _ _ ⟨hB, hA, hS, g0, g1, g2, g3, fun _ => rfl, g5, g6, g7, g8, g9, g11, g12⟩)
     refine zsr ?_
     go_simp
   · rintro L s_ V hu hd hn ⟨hB, hA, hS, g0, g1, g2, g3, g4, g5, g6, g7, g8, g9, g11, g12⟩ K hK
     have e4 := g4 hd
     have z := zad (zah HBX6.out (hB hn.2.2.1)) 2
     refine zcw (N := some 33) (v := .int .i64 n.f2) (w1 := V) (by rfl) rfl ?_ (hK _ _ ⟨hB, hA, hS, g0, g1, g2, g3, g4, fun _ => rfl, g6, g7, g8, g9, g11, g12⟩)
     refine zsr ?_
     rw [e4]
     go_simp
   · rintro L s_ V hu hd hn ⟨hB, hA, hS, g0, g1, g2, g3, g4, g5, g6, g7, g8, g9, g11, g12⟩ K hK
     refine zcw (N := some 34) (v := .pointer (some ⟨wr.heap.size, 1, none⟩)) (w1 := V) (by rfl) rfl ?_ (hK _ _ ⟨hB, hA, hS, g0, g1, g2, g3, g4, g5, fun _ => rfl, g7, g8, g9, g11, g12⟩)
     refine zsr ?_
     go_simp
   · rintro L s_ V hu hd hn ⟨hB, hA, hS, g0, g1, g2, g3, g4, g5, g6, g7, g8, g9, g11, g12⟩ K hK
     have e6 := g6 hd
     have z : V.cell? ⟨wr.heap.size, 1, none⟩ = some (.int .i64 n.f1) := by
       cases h10 : L 10 with
       | false => exact zad (zah HBX6.out (hB h10)) 1
       | true =>
         obtain ⟨V0, h1, rfl⟩ := hA h10 hn.2.2
         exact zad (zaz (zah HBX6.out h1) (fun e => HGN.out zq59) (p := ⟨g, u * 4 + 1, none⟩) (.int .i64 n.f2)) 1
     refine zcw (N := some 35) (v := .int .i64 n.f1) (w1 := V) (by rfl) rfl ?_ (hK _ _ ⟨hB, hA, hS, g0, g1, g2, g3, g4, g5, g6, fun _ => rfl, g8, g9, g11, g12⟩)
     refine zsr ?_
     rw [e6]
     go_simp
   · rintro L s_ V hu hd hn ⟨hB, hA, hS, g0, g1, g2, g3, g4, g5, g6, g7, g8, g9, g11, g12⟩ K hK
     have e0 := g0 hd.1
     have e1 := g1 hd.2.1
     refine zcw (N := some 36) (v := .pointer (some ⟨g, u * 4, none⟩)) (w1 := V) (by rfl) rfl ?_ (hK _ _ ⟨hB, hA, hS, g0, g1, g2, g3, g4, g5, g6, g7, fun _ => rfl, g9, g11, g12⟩)
     refine zsr ?_
     rw [e0, e1]
     go_simp
   · rintro L s_ V hu hd hn ⟨hB, hA, hS, g0, g1, g2, g3, g4, g5, g6, g7, g8, g9, g11, g12⟩ K hK
     have e8 := g8 hd.2.2.2.2
     refine zcw (N := some 37) (v := .pointer (some ⟨g, u * 4 + 1, none⟩)) (w1 := V) (by rfl) rfl ?_ (hK _ _ ⟨hB, hA, hS, g0, g1, g2, g3, g4, g5, g6, g7, g8, fun _ => rfl, g11, g12⟩)
     refine zsr ?_
     rw [e8]
     go_simp
   · rintro L s_ V hu hd hn ⟨hB, hA, hS, g0, g1, g2, g3, g4, g5, g6, g7, g8, g9, g11, g12⟩ K hK
     have hb := hB hu
     have e9 := g9 hd.2.2.2.2.2
     have e5 := g5 hd.2.2.2.1
     have hv := zRb HV6.out hb
     have z : V.cell? ⟨g, u * 4 + 1, none⟩ = some (.int .i64 n.f1) := HCC.out V out n hv HNN.out 1 _ rfl
     have zf := ioFz hv (u * 4 + 1)
     refine zs5 (w1 := V.setCell ⟨g, u * 4 + 1, none⟩ (.int .i64 n.f2)) (by rfl) rfl ?_ (hK undef _ ⟨fun h => Bool.noConfusion h, fun _ _ => ⟨V, hb, rfl⟩, fun h => absurd (h.symm.trans hn.2.2) (by simp), g0, g1, g2, g3, g4, g5, g6, g7, g8, g9, g11, g12⟩)
     refine zsr ?_
     rw [e9, e5]
     go_simp
   · rintro L s_ V hu hd hn ⟨hB, hA, hS, g0, g1, g2, g3, g4, g5, g6, g7, g8, g9, g11, g12⟩ K hK
     have e2 := g2 hd.2.2.1
     have e3 := g3 hd.2.2.2.1
     refine zcw (N := some 38) (v := .pointer (some ⟨g, u * 4, none⟩)) (w1 := V) (by rfl) rfl ?_ (hK _ _ ⟨hB, hA, hS, g0, g1, g2, g3, g4, g5, g6, g7, g8, g9, fun _ => rfl, g12⟩)
     refine zsr ?_
     rw [e2, e3]
     go_simp
   · rintro L s_ V hu hd hn ⟨hB, hA, hS, g0, g1, g2, g3, g4, g5, g6, g7, g8, g9, g11, g12⟩ K hK
     have e11 := g11 hd.2.2.2.2.2.2.2.2.2.2.2
     refine zcw (N := some 39) (v := .pointer (some ⟨g, u * 4 + 2, none⟩)) (w1 := V) (by rfl) rfl ?_ (hK _ _ ⟨hB, hA, hS, g0, g1, g2, g3, g4, g5, g6, g7, g8, g9, g11, fun _ => rfl⟩)
     refine zsr ?_
     rw [e11]
     go_simp
   · rintro L s_ V hu hd hn ⟨hB, hA, hS, g0, g1, g2, g3, g4, g5, g6, g7, g8, g9, g11, g12⟩ K hK
     have h10 := hd.2.2.2.2.2.2.2.2.2.2.1
     obtain ⟨V0, hb, rfl⟩ := hA h10 hu
     have e12 := g12 hd.2.2.2.2.2.2.2.2.2.2.2.2
     have e7 := g7 hd.2.2.2.2.2.2.2.1
     have hv := (ydc HCC.out (zRb HV6.out hb) HNN.out d2 d3).1
     have z : (V0.setCell ⟨g, u * 4 + 1, none⟩ (.int .i64 n.f2)).cell? ⟨g, u * 4 + 2, none⟩ = some (.int .i64 n.f2) := HCC.out _ _ _ hv HN2.out 2 _ rfl
     have zf := ioFz hv (u * 4 + 2)
     refine zs5 (w1 := (V0.setCell ⟨g, u * 4 + 1, none⟩ (.int .i64 n.f2)).setCell ⟨g, u * 4 + 2, none⟩ (.int .i64 n.f1)) (by rfl) rfl ?_ (hK undef _ ⟨fun h => absurd (h.symm.trans h10) (by simp), fun _ h => Bool.noConfusion h, fun _ => ⟨V0, hb, rfl⟩, g0, g1, g2, g3, g4, g5, g6, g7, g8, g9, g11, g12⟩)
     refine zsr ?_
     rw [e12, e7]
     go_simp
   · rintro L s_ V hL ⟨hB, hA, hS, g0, g1, g2, g3, g4, g5, g6, g7, g8, g9, g11, g12⟩
     obtain ⟨V0, hb, rfl⟩ := hS (hL 13 rfl)
     have h1 := ydc HCC.out (zRb HV6.out hb) HNN.out d2 d3
     have h2 := ydd (a := n.f1) HCC.out h1.1 HN2.out d2 d3
     have HV8 := zA h2.1
     have HB8 := zA (((zab HB6.out hb).setCell (p := ⟨g, u * 4 + 1, none⟩) hgb (.int .i64 n.f2)).setCell (p := ⟨g, u * 4 + 2, none⟩) hgb (.int .i64 n.f1))
     clear hb h1 h2 hB hA hS g0 g1 g2 g3 g4 g5 g6 g7 g8 g9 g11 g12
     refine zsr ?_
     go_wp2_with fail
     go_roundw
     case rel => exact ⟨u + 1, o', by go_num, by omega, HLO', HL', HB8, ⟨by rw [← HOO.out]; have := HV8.out; rw [List.set_set] at this; exact this⟩⟩
     case measure => simp [intOf]; omega
theorem zx4 (k : Nat) (out : List S62) (i : Int) : LeO (ioSt k out i) (ioSt (k + 1) out i) := by
 unfold ioSt
 exact LeO.bind (zcz _ _ _) (fun _ => zbi (LeO.bind (zm7 _ _ _ _) (fun _ => LeO.refl _)) (LeO.refl _))
theorem zwq (k : Nat) : ∀ (d u : Nat) (out : List S62), LeO (ioL k d u out) (ioL (k + 1) d u out)
 | 0, _, _ => LeO.refl _
 | d + 1, u, out => LeO.bind (zx4 k out u) (fun _ => zwq k d (u + 1) _)
theorem zqg : ∀ a0 k, LeO (zbo k a0) (zbo (k + 1) a0) := by
 intro a0 k
 unfold zbo
 exact LeO.bind (zkj _ _) (fun _ => zbi (LeO.bind (zwq _ _ _ _) (fun _ => zkj _ _)) (LeO.refl _))
def zkb (a0 : Int) : Option (Bool) := (zei a0 0 63).bind fun t101 => (some t101)
theorem zqh (a0 : Int) (r : Bool) (w : World) (h : zkb a0 = some r) :
   Calls Tryz.prog 128 #[.int .i64 a0] w fun e w' => e = .returned (.bool r) ∧ Drawn0 w w' := by
 have H := h
 unfold zkb at H
 clear h
 replace H := zob H
 obtain ⟨t101, A20, H⟩ := H
 have A2 := zA A20
 clear A20
 obtain rfl := zsi H
 go_enter Tryz.func128, Tryz.ntmps128
 go_wp2_with (first | ((with_reducible refine zgc 90 ?_); refine zcl 4 Tryz.func90 (zc0 a0 0 63 t101 _ A2.out) ?_; rintro e w' ⟨rfl, ⟨nd, rfl⟩⟩; refine ⟨_, rfl, ?_⟩))
 exact zr_1
def zau : Nat → Int → Int → List Int → Int → Int → ByteArray → Int → Int → Int → Option (Bool)
 | 0, _, _, _, _, _, _, _, _, _ => none
 | k + 1, x1, x5, x15, x16, x17, x102000, x102001, x102002, x102003 => if x17 < x16 then (if 0 ≤ x17 then (if x17 < (x15.length : Int) then (if x17 < x5 then ((zei (rd x15 x17) 0 (wrap64 (x1 - 1))).bind fun t107 => (if t107 = true then (if x17 ≥ x5 then (if (rd x15 x17) = 0 then (zau k x1 x5 x15 x16 (wrap64 (x17 + 1)) x102000 x102001 x102002 x102003) else (some false)) else (zau k x1 x5 x15 x16 (wrap64 (x17 + 1)) x102000 x102001 x102002 x102003)) else (some false))) else (if x17 ≥ x5 then (if (rd x15 x17) = 0 then (zau k x1 x5 x15 x16 (wrap64 (x17 + 1)) x102000 x102001 x102002 x102003) else (some false)) else (zau k x1 x5 x15 x16 (wrap64 (x17 + 1)) x102000 x102001 x102002 x102003))) else (none)) else (none)) else (if x102000.toList = ([105, 110] : List UInt8) then ((zei x102003 0 1).bind fun t108 => (some t108)) else (if x102000.toList = ([99, 111, 110, 115, 116] : List UInt8) then ((zkb x102003).bind fun t109 => (some t109)) else (if x5 > 0 then (some (x102003 == 0)) else (some false))))
def zdr (k : Nat) (a0_0 : ByteArray) (a0_1 : Int) (a0_2 : Int) (a0_3 : Int) (a1 : Int) : Option (Bool) := (zda k a0_0).bind fun t102 => ((some (([a0_1, a0_2] : List Int) : List Int)).bind fun y103 => (zau k a1 t102 y103 (y103.length : Int) 0 a0_0 a0_1 a0_2 a0_3))
theorem ziw : ∀ k, (∀ y0 y1 y2 y3 y4 y5 y6 y7 y8, LeO (zau k y0 y1 y2 y3 y4 y5 y6 y7 y8) (zau (k + 1) y0 y1 y2 y3 y4 y5 y6 y7 y8))
 | 0 => fun _ _ _ _ _ _ _ _ _ r h => by simp [zau] at h
 | k + 1 => by
   have ih0 := ziw k
   · intro y0 y1 y2 y3 y4 y5 y6 y7 y8
     unfold zau
     exact zm2 ih0 zgg
theorem zjk : ∀ a0 a1 a2 a3 a4 k, LeO (zdr k a0 a1 a2 a3 a4) (zdr (k + 1) a0 a1 a2 a3 a4) := by
 intro a0 a1 a2 a3 a4 k
 have ih0 := ziw k
 unfold zdr
 exact zm2 ih0 zgg
theorem zi2 (k : Nat) (a0_0 : ByteArray) (a0_1 : Int) (a0_2 : Int) (a0_3 : Int) (a1 : Int) (r : Bool) (w : World) (h : zdr k a0_0 a0_1 a0_2 a0_3 a1 = some r) :
   Calls Tryz.prog 122 #[.agg #[.string a0_0, .int .i64 a0_1, .int .i64 a0_2, .int .i64 a0_3], .int .i64 a1] w fun e w' => e = .returned (.bool r) ∧ Below w.heap.size w w' := by
 have hu62 := Tryz.underlying62
 have HB := zA (Below.refl w.heap.size w)
 have H := h
 unfold zdr at H
 clear h
 replace H := zob H
 obtain ⟨t102, A30, H⟩ := H
 have A3 := zA A30
 clear A30
 obtain ⟨y103, hy103⟩ : ∃ y_ : List Int, y_ = (([a0_1, a0_2] : List Int)) := ⟨_, rfl⟩
 rw [← hy103] at H; try with_reducible replace H := zbs H
 have Ny103 := zA hy103
 clear hy103
 have H' := zA H
 clear H
 go_enter Tryz.func122, Tryz.ntmps122
 go_wp2_with (first | ((with_reducible refine zgd 2 ?_); refine zbh zq1 #[.string a0_0, .int .i64 a0_1, .int .i64 a0_2, .int .i64 a0_3] 62 ?_; clear HB; intro gb101 w4 HB BK101 GW101; have GE101 := GW101; obtain ⟨hcz5_0, hcz5_1, hcz5_2, hcz5_3, hfz5_0, hfz5_1, hfz5_2, hfz5_3⟩ := zd4 BK101) | ((with_reducible refine zgc 158 ?_); refine zcl 10 Tryz.func158 (zdb k a0_0 t102 _ A3.out) ?_; rintro e w6 ⟨rfl, hb⟩; refine ⟨_, rfl, ?_⟩; replace BK101 := zbb BK101 hb; replace HB := zA (zab (zq3 GE101) hb); (try clear hb); obtain ⟨hcz7_0, hcz7_1, hcz7_2, hcz7_3⟩ := zc4 w6 (.string a0_0) (.int .i64 a0_1) (.int .i64 a0_2) (.int .i64 a0_3) BK101.out; obtain ⟨hfz7_0, hfz7_1, hfz7_2, hfz7_3⟩ := zf4 BK101.out) | ((with_reducible refine zgd 15 ?_); refine Kd.R_lit (Kd.int .i64) _ 3 ?hg (N := 15) ?hd (xs := ([a0_1, a0_2] : List Int)) (inner := [.int .i64 a0_1, .int .i64 a0_2]) (ok := fun _ => True) (okp := fun _ => True) ?hr ?hp (fun _ hk => hk) trivial (Below.refl _ _) (zlr _) (by simp) ?_; (case hd => rfl); (case hg => rfl); (case hr => go_simp <;> rfl); (case hp => exact (zan (show Kd.M (Kd.int .i64) _ _ _ a0_1 [.int .i64 a0_1] from rfl) (zan (show Kd.M (Kd.int .i64) _ _ _ a0_2 [.int .i64 a0_2] from rfl) (Reps.none _ _)))); intro v104 w8 ho9 hb hg_ hnew_; clear hg_ hnew_; (first | rw [← Ny103.out] at ho9 | (simp only [Int.reduceToNat] at ho9; rw [← Ny103.out] at ho9)); have HO105 := zA (Kd.R_lower ho9 (zag (zq3 GE101))); replace BK101 := zbb BK101 hb; replace HB := zA (zab (zq3 GE101) hb); clear hb ho9; obtain ⟨Ao10, co10, eo10⟩ := Kd.R_slice HO105.out; subst eo10))
 go_loopg [17] k (fun kq v17 w' => ∃ (x17_1 : Int), v17 = .int .i64 x17_1 ∧ Aside0 (zau kq a1 t102 y103 (y103.length : Int) x17_1 a0_0 a0_1 a0_2 a0_3 = some r) ∧ Aside0 (kq ≤ k) ∧ Aside0 (Kd.R (Kd.int .i64) 3 w' w.heap.size (fun _ => True) (.slice Ao10 y103.length co10) y103) ∧ Aside0 (w'.heap[gb101]? = some (.cells #[.string a0_0, .int .i64 a0_1, .int .i64 a0_2, .int .i64 a0_3] 62 (0, 0))) ∧ Aside0 (Below w.heap.size w w'))
 case atStart => exact ⟨(0), zq5, H', ⟨zlr _⟩, ⟨zq2 HO105⟩, ⟨zq8 BK101⟩, ⟨zq3 GE101⟩⟩
 clear H'
 obtain ⟨x17_1, rfl, HA, HK1, HO_15, BK101, HB⟩ := hrel
 cases gk with
 | zero => exact absurd HA.out (by simp [zau])
 | succ k1 =>
 have H := HA.out
 clear HA
 simp only [zau] at H
 revert H
 refine zit (fun c11 H => ?_) fun c11 H => ?_
 rotate_left
 · by_cases c21 : a0_0.toList = ([105, 110] : List UInt8)
   · rw [if_pos c21] at H
     obtain ⟨c21b0, c21b1⟩ := zbe c21
     clear c21
     replace H := zob H
     obtain ⟨t108, A220, H⟩ := H
     have A22 := zA A220
     clear A220
     obtain rfl := zsi H
     obtain ⟨hcz23_0, hcz23_1, hcz23_2, hcz23_3⟩ := zc4 wr (.string a0_0) (.int .i64 a0_1) (.int .i64 a0_2) (.int .i64 a0_3) BK101.out
     obtain ⟨hfz23_0, hfz23_1, hfz23_2, hfz23_3⟩ := zf4 BK101.out
     go_wp2_with (first | ((with_reducible refine zgc 90 ?_); refine zcl 48 Tryz.func90 (zc0 a0_3 0 1 t108 _ A22.out) ?_; rintro e w' ⟨rfl, ⟨nd, rfl⟩⟩; refine ⟨_, rfl, ?_⟩))
     go_ret
     exact ⟨zq4, zq3 GE101⟩
   rw [if_neg c21] at H
   obtain ⟨c21b0, c21b1⟩ := zbq c21
   by_cases c24 : a0_0.toList = ([99, 111, 110, 115, 116] : List UInt8)
   · rw [if_pos c24] at H
     obtain ⟨c24b0, c24b1⟩ := zbe c24
     clear c24
     replace H := zob H
     obtain ⟨t109, A250, H⟩ := H
     have A25 := zA A250
     clear A250
     obtain rfl := zsi H
     obtain ⟨hcz26_0, hcz26_1, hcz26_2, hcz26_3⟩ := zc4 wr (.string a0_0) (.int .i64 a0_1) (.int .i64 a0_2) (.int .i64 a0_3) BK101.out
     obtain ⟨hfz26_0, hfz26_1, hfz26_2, hfz26_3⟩ := zf4 BK101.out
     go_wp2_with (first | ((with_reducible refine zgc 128 ?_); refine zcl 53 Tryz.func128 (zqh a0_3 t109 _ A25.out) ?_; rintro e w' ⟨rfl, ⟨nd, rfl⟩⟩; refine ⟨_, rfl, ?_⟩))
     go_ret
     exact ⟨zq4, zq3 GE101⟩
   rw [if_neg c24] at H
   obtain ⟨c24b0, c24b1⟩ := zbq c24
   revert H
   refine zit (fun c27b0 H => ?_) fun c27b0 H => ?_
   · obtain rfl := zsi H
     obtain ⟨hcz28_0, hcz28_1, hcz28_2, hcz28_3⟩ := zc4 wr (.string a0_0) (.int .i64 a0_1) (.int .i64 a0_2) (.int .i64 a0_3) BK101.out
     obtain ⟨hfz28_0, hfz28_1, hfz28_2, hfz28_3⟩ := zf4 BK101.out
     go_wp2
     go_ret
     exact ⟨zq4, zq3 GE101⟩
   obtain rfl := zsi H
   obtain ⟨hcz29_0, hcz29_1, hcz29_2, hcz29_3⟩ := zc4 wr (.string a0_0) (.int .i64 a0_1) (.int .i64 a0_2) (.int .i64 a0_3) BK101.out
   obtain ⟨hfz29_0, hfz29_1, hfz29_2, hfz29_3⟩ := zf4 BK101.out
   go_wp2
   go_ret
   exact ⟨zq4, zq3 GE101⟩
 revert H
 refine zin fun c12 H => ?_
 revert H
 refine zin fun c13 H => ?_
 revert H
 refine zit (fun c14 H => ?_) fun c14 H => ?_
 rotate_left
 · by_cases c19 : x17_1 ≥ t102
   rotate_left
   · rw [if_neg c19] at H
     have c19b0 := zdf c19
     clear c19
     have H' := zA H
     clear H
     obtain ⟨p106, q106⟩ := zpq x17_1 y103.length
     obtain ⟨ad106, e106, hx106_0⟩ := Kd.at_int (zRr HO_15.out).2.2 x17_1 (zoe p106) (zoe q106)
     cases e106
     go_wp2
     go_roundg k1
     case measure => have := HK1.out; omega
     case rel => exact ⟨(wrap64 (x17_1 + 1)), zq5, H', ⟨zq41 HK1⟩, ⟨zq2 HO_15⟩, ⟨zq8 BK101⟩, ⟨zq3 GE101⟩⟩
   rw [if_pos c19] at H
   have c19b0 := zdt c19
   clear c19
   by_cases c20 : (rd y103 x17_1) = 0
   rotate_left
   · rw [if_neg c20] at H
     obtain ⟨c20b0, c20b1⟩ := zbq c20
     obtain rfl := zsi H
     obtain ⟨p106, q106⟩ := zpq x17_1 y103.length
     obtain ⟨ad106, e106, hx106_0⟩ := Kd.at_int (zRr HO_15.out).2.2 x17_1 (zoe p106) (zoe q106)
     cases e106
     go_wp2
     go_ret
     exact ⟨zq4, zq3 GE101⟩
   rw [if_pos c20] at H
   obtain ⟨c20b0, c20b1⟩ := zbe c20
   clear c20
   have H' := zA H
   clear H
   obtain ⟨p106, q106⟩ := zpq x17_1 y103.length
   obtain ⟨ad106, e106, hx106_0⟩ := Kd.at_int (zRr HO_15.out).2.2 x17_1 (zoe p106) (zoe q106)
   cases e106
   go_wp2
   go_roundg k1
   case measure => have := HK1.out; omega
   case rel => exact ⟨(wrap64 (x17_1 + 1)), zq5, H', ⟨zq41 HK1⟩, ⟨zq2 HO_15⟩, ⟨zq8 BK101⟩, ⟨zq3 GE101⟩⟩
 replace H := zob H
 obtain ⟨t107, A150, H⟩ := H
 have A15 := zA A150
 clear A150
 by_cases c16 : t107 = true
 rotate_left
 · replace c16 := zbf c16
   subst c16
   replace H := zif H
   obtain rfl := zsi H
   obtain ⟨p106, q106⟩ := zpq x17_1 y103.length
   obtain ⟨ad106, e106, hx106_0⟩ := Kd.at_int (zRr HO_15.out).2.2 x17_1 (zoe p106) (zoe q106)
   cases e106
   go_wp2_with (first | (go_at_call 90; (with_reducible refine (zc0 (rd y103 x17_1) 0 (wrap64 (a1 - 1)) false _ A15.out).mono ?_); rintro e w' ⟨rfl, ⟨nd, rfl⟩⟩))
   go_ret
   exact ⟨zq4, zq3 GE101⟩
 subst c16
 replace H := zih H
 by_cases c17 : x17_1 ≥ t102
 rotate_left
 · rw [if_neg c17] at H
   have c17b0 := zdf c17
   clear c17
   have H' := zA H
   clear H
   obtain ⟨p106, q106⟩ := zpq x17_1 y103.length
   obtain ⟨ad106, e106, hx106_0⟩ := Kd.at_int (zRr HO_15.out).2.2 x17_1 (zoe p106) (zoe q106)
   cases e106
   go_wp2_with (first | (go_at_call 90; (with_reducible refine (zc0 (rd y103 x17_1) 0 (wrap64 (a1 - 1)) true _ A15.out).mono ?_); rintro e w' ⟨rfl, ⟨nd, rfl⟩⟩))
   go_roundg k1
   case measure => have := HK1.out; omega
   case rel => exact ⟨(wrap64 (x17_1 + 1)), zq5, H', ⟨zq41 HK1⟩, ⟨zq2 HO_15⟩, ⟨zq8 BK101⟩, ⟨zq3 GE101⟩⟩
 rw [if_pos c17] at H
 have c17b0 := zdt c17
 clear c17
 by_cases c18 : (rd y103 x17_1) = 0
 rotate_left
 · rw [if_neg c18] at H
   obtain ⟨c18b0, c18b1⟩ := zbq c18
   obtain rfl := zsi H
   obtain ⟨p106, q106⟩ := zpq x17_1 y103.length
   obtain ⟨ad106, e106, hx106_0⟩ := Kd.at_int (zRr HO_15.out).2.2 x17_1 (zoe p106) (zoe q106)
   cases e106
   go_wp2_with (first | (go_at_call 90; (with_reducible refine (zc0 (rd y103 x17_1) 0 (wrap64 (a1 - 1)) true _ A15.out).mono ?_); rintro e w' ⟨rfl, ⟨nd, rfl⟩⟩))
   go_ret
   exact ⟨zq4, zq3 GE101⟩
 rw [if_pos c18] at H
 obtain ⟨c18b0, c18b1⟩ := zbe c18
 clear c18
 have H' := zA H
 clear H
 obtain ⟨p106, q106⟩ := zpq x17_1 y103.length
 obtain ⟨ad106, e106, hx106_0⟩ := Kd.at_int (zRr HO_15.out).2.2 x17_1 (zoe p106) (zoe q106)
 cases e106
 go_wp2_with (first | (go_at_call 90; (with_reducible refine (zc0 (rd y103 x17_1) 0 (wrap64 (a1 - 1)) true _ A15.out).mono ?_); rintro e w' ⟨rfl, ⟨nd, rfl⟩⟩))
 go_roundg k1
 case measure => have := HK1.out; omega
 case rel => exact ⟨(wrap64 (x17_1 + 1)), zq5, H', ⟨zq41 HK1⟩, ⟨zq2 HO_15⟩, ⟨zq8 BK101⟩, ⟨zq3 GE101⟩⟩
mutual
def zea : Nat → List Int → List (S62) → Int → Int → Option (List Int)
 | 0, _, _, _, _ => none
 | k + 1, x3, x11, x12, x13 => if x13 < x12 then (if 0 ≤ x13 then (if x13 < (x11.length : Int) then ((zc1 k ((zac x11 x13).f0) ((zac x11 x13).f1) ((zac x11 x13).f2) ((zac x11 x13).f3)).bind fun t106 => (ze9 k x3 x11 x12 x13 t106 (t106.length : Int) 0)) else (none)) else (none)) else (some x3)
def ze9 : Nat → List Int → List (S62) → Int → Int → List Int → Int → Int → Option (List Int)
 | 0, _, _, _, _, _, _, _ => none
 | k + 1, x3, x11, x12, x13, x18, x19, x20 => if x20 < x19 then (if 0 ≤ x20 then (if x20 < (x18.length : Int) then (if 0 ≤ (rd x18 x20) then (if (rd x18 x20) < (x3.length : Int) then (ze9 k (x3.set ((rd x18 x20) : Int).toNat (wrap64 ((rd x3 (rd x18 x20)) + 1))) x11 x12 x13 x18 x19 (wrap64 (x20 + 1))) else (none)) else (none)) else (none)) else (none)) else (zea k x3 x11 x12 (wrap64 (x13 + 1)))
end
def zhr (k : Nat) (l0 : List (S62)) : Option (List Int) := if 0 ≤ (l0.length : Int) then (if ((l0.length : Int) : Int).toNat ≤ 35184372088832 then (zea k (List.replicate ((l0.length : Int) : Int).toNat 0) l0 (l0.length : Int) 0) else (none)) else (none)
theorem zmp : ∀ k, (∀ y0 y1 y2 y3, LeO (zea k y0 y1 y2 y3) (zea (k + 1) y0 y1 y2 y3)) ∧ (∀ y0 y1 y2 y3 y4 y5 y6, LeO (ze9 k y0 y1 y2 y3 y4 y5 y6) (ze9 (k + 1) y0 y1 y2 y3 y4 y5 y6))
 | 0 => ⟨fun _ _ _ _ r h => by simp [zea] at h, fun _ _ _ _ _ _ _ r h => by simp [ze9] at h⟩
 | k + 1 => by
   obtain ⟨ih0, ih1⟩ := zmp k
   refine ⟨?_, ?_⟩
   · intro y0 y1 y2 y3
     unfold zea
     exact zm3 ih0 ih1 zco
   · intro y0 y1 y2 y3 y4 y5 y6
     unfold ze9
     exact zm3 ih0 ih1 zco
theorem zog : ∀ a0 k, LeO (zhr k a0) (zhr (k + 1) a0) := by
 intro a0 k
 obtain ⟨ih0, ih1⟩ := zmp k
 unfold zhr
 exact zm3 ih0 ih1 zco
theorem zr3 (k : Nat) (A0 : Option Addr) (c0 : Nat) (l0 : List (S62)) (r : List Int) (w : World) (hr0 : Kd.C k62 w A0 l0.length l0) (hc0 : l0.length ≤ c0) (h : zhr k l0 = some r) :
   Calls Tryz.prog 124 #[.slice A0 l0.length c0] w fun e w' => ∃ v0_ : Value, e = .returned (v0_) ∧ Kd.R (Kd.int .i64) 3 w' w.heap.size (fun _ => True) v0_ r ∧ Below w.heap.size w w' := by
 have hu62 := Tryz.underlying62
 have HR0 := zA hr0
 have HC0 := zA hc0
 clear hr0 hc0
 have HB := zA (Below.refl w.heap.size w)
 have H := h
 unfold zhr at H
 clear h
 by_cases c2 : 0 ≤ (l0.length : Int)
 rotate_left
 · rw [if_neg c2] at H
   exact absurd H (by simp)
 rw [if_pos c2] at H
 have c2b0 := eq_true c2
 have c2b1 := zdt c2
 clear c2
 by_cases c3 : ((l0.length : Int) : Int).toNat ≤ 35184372088832
 rotate_left
 · rw [if_neg c3] at H
   exact absurd H (by simp)
 rw [if_pos c3] at H
 have c3b0 := eq_true c3
 have c3b1 := zdt c3
 clear c3
 obtain ⟨y101, hy101⟩ : ∃ y_ : List Int, y_ = (List.replicate ((l0.length : Int) : Int).toNat 0) := ⟨_, rfl⟩
 rw [← hy101] at H; try with_reducible replace H := zbs H
 have Ny101 := zA hy101
 clear hy101
 have H' := zA H
 clear H
 go_enter Tryz.func124, Tryz.ntmps124
 go_wp2_with (first | ((with_reducible refine zgd 10 ?_); refine Kd.R_make (Kd.int .i64) _ 3 rfl (N := 10) rfl 24 _ _ rfl (l0.length : Int) rfl rfl Tryz.underlying24 (.int .i64 0) 8 zn1 rfl (by decide) (by omega) 0 (ok := fun _ => True) (okp := fun _ => True) rfl (fun _ hk => hk) trivial (zde zq21) (Nat.le_trans (Nat.mul_le_mul_right _ (zde zq21 : (l0.length : Int).toNat ≤ 35184372088832)) (by omega)) (Below.refl _ _) (zlr _) ?_; intro v102 w4 ho5 hb hg_ hnew_; clear hg_ hnew_; (first | rw [← Ny101.out] at ho5 | (simp only [Int.reduceToNat] at ho5; rw [← Ny101.out] at ho5)); have HO103 := zA (Kd.R_lower ho5 (zag zq1)); replace HB := zA (zab zq1 hb); clear hb ho5))
 go_loopg [13] k (fun kq v13 w' => ∃ (x3_1 : List Int) (x13_1 : Int), v13 = .int .i64 x13_1 ∧ Aside0 (zea kq x3_1 l0 (l0.length : Int) x13_1 = some r) ∧ Aside0 (kq ≤ k) ∧ Aside0 (Kd.R (Kd.int .i64) 3 w' w.heap.size (fun _ => True) v102 x3_1) ∧ Aside0 (Below w.heap.size w w'))
 case atStart => exact ⟨(y101), (0), zq5, H', ⟨zlr _⟩, ⟨zq2 HO103⟩, ⟨zq1⟩⟩
 clear H'
 obtain ⟨x3_1, x13_1, rfl, HA, HK1, HO_3, HB⟩ := hrel
 cases gk with
 | zero => exact absurd HA.out (by simp [zea])
 | succ k1 =>
 have H := HA.out
 clear HA
 simp only [zea] at H
 revert H
 refine zit (fun c6 H => ?_) fun c6 H => ?_
 rotate_left
 · obtain rfl := zsi H
   go_wp2
   go_ret
   exact ⟨_, zq4, zq2 HO_3, zq1⟩
 revert H
 refine zin fun c7 H => ?_
 revert H
 refine zin fun c8 H => ?_
 replace H := zob H
 obtain ⟨t106, A90, H⟩ := H
 have A9 := zA A90
 clear A90
 have H' := zA H
 clear H
 obtain ⟨p104, q104⟩ := zpq x13_1 l0.length
 obtain ⟨ad104, e104, hx104_0, hx104_1, hx104_2, hx104_3⟩ := zdu HR0.out x13_1 (zoe p104) (zoe q104)
 cases e104
 replace hx104_0 := zkep HB.out hx104_0
 replace hx104_1 := zkep HB.out hx104_1
 replace hx104_2 := zkep HB.out hx104_2
 replace hx104_3 := zkep HB.out hx104_3
 go_wp2_with (first | ((with_reducible refine zgd 5 ?_); refine zbx #[.string (⟨#[]⟩ : ByteArray), .int .i64 0, .int .i64 0, .int .i64 0] 62 ?_; intro gb105 hg w10 hbox hb; have zs := zpair zq1 hb; replace HO_3 := zA (zRb (zq2 HO_3) hb); replace HB := zA (zs.1); have BK105 := zA (hbox); have GW105 := zA (zge hg zs.2); have GE105 := GW105; clear zs hb hbox hg; obtain ⟨hcz11_0, hcz11_1, hcz11_2, hcz11_3, hfz11_0, hfz11_1, hfz11_2, hfz11_3⟩ := zd4 BK105) | ((with_reducible refine zgc 160 ?_); refine zcl 18 Tryz.func160 (zej k1 ((zac l0 x13_1).f0) ((zac l0 x13_1).f1) ((zac l0 x13_1).f2) ((zac l0 x13_1).f3) t106 _ A9.out) ?_; rintro e w12 ⟨v107, rfl, ho0, hb⟩; refine ⟨_, rfl, ?_⟩; have HO108 := zA (Kd.R_lower (Kd.R_new' ho0 (Kd.R_lt (zq23 HO_3 BK105))) (zag (zq3 GE105))); replace HO_3 := zA (Kd.R_elder' (zq23 HO_3 BK105) (Kd.R_base ho0) hb); replace BK105 := zA (zah (g := gb105) (o := .cells #[.string ((zac l0 x13_1).f0), .int .i64 ((zac l0 x13_1).f1), .int .i64 ((zac l0 x13_1).f2), .int .i64 ((zac l0 x13_1).f3)] 62 (0, 0)) (zq32 BK105) hb); replace HB := zA (zab (zq3 GE105) hb); (try clear hb); (try clear hk); (try clear ho0); obtain ⟨Ao13, co13, eo13⟩ := Kd.R_slice HO108.out; subst eo13))
 go_loopg [20] k1 (fun kq v20 w' => ∃ (x3_2 : List Int) (x20_2 : Int), v20 = .int .i64 x20_2 ∧ Aside0 (ze9 kq x3_2 l0 (l0.length : Int) x13_1 t106 (t106.length : Int) x20_2 = some r) ∧ Aside0 (kq ≤ k1) ∧ Aside0 (Kd.R (Kd.int .i64) 3 w' w.heap.size (fun k_ => some k_ ≠ ((.slice Ao13 t106.length co13) : Value).ownBlock) v102 x3_2) ∧ Aside0 (Kd.R (Kd.int .i64) 3 w' w.heap.size (fun k_ => some k_ ≠ (v102 : Value).ownBlock) (.slice Ao13 t106.length co13) t106) ∧ Aside0 (w'.heap[gb105]? = some (.cells #[.string ((zac l0 x13_1).f0), .int .i64 ((zac l0 x13_1).f1), .int .i64 ((zac l0 x13_1).f2), .int .i64 ((zac l0 x13_1).f3)] 62 (0, 0))) ∧ Aside0 (Below w.heap.size w w'))
 case atStart => exact ⟨(x3_1), (0), zq5, H', ⟨zlr _⟩, ⟨zq29 HO_3⟩, ⟨zq29 HO108⟩, ⟨zq8 BK105⟩, ⟨zq3 GE105⟩⟩
 clear H'
 obtain ⟨x3_2, x20_2, rfl, HA, HK2, HO_3, HO_18, BK105, HB⟩ := hrel
 cases gk with
 | zero => exact absurd HA.out (by simp [ze9])
 | succ k2 =>
 have H := HA.out
 clear HA
 simp only [ze9] at H
 revert H
 refine zit (fun c14 H => ?_) fun c14 H => ?_
 rotate_left
 · have H' := zA H
   clear H
   go_wp2
   go_roundg k2
   case measure => have := HK1.out; have := HK2.out; omega
   case rel => exact ⟨(x3_2), (wrap64 (x13_1 + 1)), zq5, H', ⟨zq42 HK1 HK2⟩, ⟨zq24 HO_3⟩, ⟨zq3 GE105⟩⟩
 revert H
 refine zin fun c15 H => ?_
 revert H
 refine zin fun c16 H => ?_
 revert H
 refine zin fun c17 H => ?_
 revert H
 refine zin fun c18 H => ?_
 obtain ⟨y111, hy111⟩ : ∃ y_ : List Int, y_ = (x3_2.set ((rd t106 x20_2) : Int).toNat (wrap64 ((rd x3_2 (rd t106 x20_2)) + 1))) := ⟨_, rfl⟩
 rw [← hy111] at H; try with_reducible replace H := zbs H
 have Ny111 := zA hy111
 clear hy111
 have H' := zA H
 clear H
 obtain ⟨p109, q109⟩ := zpq x20_2 t106.length
 obtain ⟨ad109, e109, hx109_0⟩ := Kd.at_int (zRr HO_18.out).2.2 x20_2 (zoe p109) (zoe q109)
 cases e109
 obtain ⟨Ao20, co20, eo20⟩ := Kd.R_slice HO_3.out
 subst eo20
 have p110 : 0 ≤ ((rd t106 x20_2) : Int) := zde zq21
 have q110 : (rd t106 x20_2) < (x3_2.length : Int) := zde zq21
 obtain ⟨ad110, e110, hx110_0⟩ := Kd.at_int (zRr HO_3.out).2.2 (rd t106 x20_2) p110 q110
 cases e110
 replace p110 := eq_true p110
 replace q110 := eq_true q110
 have p19 : 0 ≤ ((rd t106 x20_2) : Int) := zde zq21
 have q19 : ((rd t106 x20_2) : Int) < ((x3_2.length : Int) : Int) := zde zq21
 obtain ⟨go19, co19, eo19, gb19, gl19, cl19, HG19⟩ := Kd.R_form HO_3.out (by omega)
 (first | cases eo19 | (injection eo19 with ea_ en_ ec_; (first | subst ea_ | (injection ea_ with ea_; subst ea_)); subst ec_; clear en_))
 have GB19 := zA gb19
 have GG19 := zA HG19
 clear gb19 gl19 HG19
 (first | simp only [zcg] at hx110_0 | skip)
 obtain ⟨hx19_0, hf19_0⟩ := Kd.R_celln 0 HO_3.out ((rd t106 x20_2) : Int) p19 q19
 replace p19 := eq_true p19
 replace q19 := eq_true q19
 have HP21 := Kd.R_putg HO_3.out ((rd t106 x20_2) : Int) (wrap64 ((rd x3_2 (rd t106 x20_2)) + 1))
 go_wp2_with (first | ((with_reducible refine zgs 3 29 ?_); refine zse (wr.setCell ⟨go19, ((rd t106 x20_2) : Int).toNat, none⟩ (.int .i64 (wrap64 ((rd x3_2 (rd t106 x20_2)) + 1)))) ?_; intro w22 hw; have hg : wr.grownBy w22 (some go19) := (by rw [hw]; exact HP21.2); have hp_ : Kd.R (Kd.int .i64) 3 w22 w.heap.size (fun k_ => some k_ ≠ (.slice (some ad109) t106.length co13 : Value).ownBlock) (.slice (some ⟨go19, 0, none⟩) x3_2.length co20) y111 := (by rw [hw, Ny111.out]; exact HP21.1); clear HP21; replace HO_18 := zA (Kd.R_after (v := (.slice (some ⟨go19, 0, none⟩) x3_2.length co20)) (v1 := (.slice (some ⟨go19, 0, none⟩) x3_2.length co20)) (ok := (fun _ => True)) (by (with_reducible repeat (first | apply zRa | apply zRn | apply zRd)); exact Kd.R_mono HO_18.out (fun _ hk => ⟨trivial, hk⟩)) hg (.inl rfl)); replace BK105 := zA (zew (g := gb105) (o := .cells #[.string ((zac l0 x13_1).f0), .int .i64 ((zac l0 x13_1).f1), .int .i64 ((zac l0 x13_1).f2), .int .i64 ((zac l0 x13_1).f3)] 62 (0, 0)) (zq8 BK105) hg (Kd.R_ne HO_3.out BK105.out (by decide))); replace HO_3 := zA (hp_); replace HB := zA ((zq39 GB19 : Below w.heap.size w w22)); clear hg hw hp_))
 go_roundg k2
 case measure => have := HK1.out; have := HK2.out; omega
 case rel => exact ⟨(y111), (wrap64 (x20_2 + 1)), zq5, H', ⟨zq42 HK1 HK2⟩, ⟨zq2 HO_3⟩, ⟨zq29 HO_18⟩, ⟨zq8 BK105⟩, ⟨zq3 GE105⟩⟩
def za5 : Nat → List Int → Int → Int → Int → Option (Int)
 | 0, _, _, _, _ => none
 | k + 1, x0, x1, x7, x8 => if x8 < x7 then (if 0 ≤ x8 then (if x8 < (x0.length : Int) then (if x1 = (rd x0 x8) then (some x8) else (za5 k x0 x1 x7 (wrap64 (x8 + 1)))) else (none)) else (none)) else (some (-1))
def zch (k : Nat) (l0 : List Int) (a1 : Int) : Option (Int) := za5 k l0 a1 (l0.length : Int) 0
theorem zhs : ∀ k, (∀ y0 y1 y2 y3, LeO (za5 k y0 y1 y2 y3) (za5 (k + 1) y0 y1 y2 y3))
 | 0 => fun _ _ _ _ r h => by simp [za5] at h
 | k + 1 => by
   have ih0 := zhs k
   · intro y0 y1 y2 y3
     unfold za5
     exact zm1 ih0
theorem zlv : ∀ a0 a1 k, LeO (zch k a0 a1) (zch (k + 1) a0 a1) := by
 intro a0 a1 k
 have ih0 := zhs k
 unfold zch
 exact zm1 ih0
theorem zk1 (k : Nat) (A0 : Option Addr) (c0 : Nat) (l0 : List Int) (a1 : Int) (r : Int) (w : World) (hr0 : Kd.C (Kd.int .i64) w A0 l0.length l0) (hc0 : l0.length ≤ c0) (h : zch k l0 a1 = some r) :
   Calls Tryz.prog 159 #[.slice A0 l0.length c0, .int .i64 a1] w fun e w' => e = .returned (.int .i64 r) ∧ Drawn0 w w' := by
 have HR0 := zA hr0
 have HC0 := zA hc0
 clear hr0 hc0
 have H := h
 unfold zch at H
 clear h
 have H' := zA H
 clear H
 go_enter Tryz.func159, Tryz.ntmps159
 go_wp2
 go_loopg [8] k (fun kq v8 w' => ∃ (x8_1 : Int), v8 = .int .i64 x8_1 ∧ Aside0 (za5 kq l0 a1 (l0.length : Int) x8_1 = some r) ∧ Aside0 (kq ≤ k) ∧ Drawn0 w w')
 case atStart => exact ⟨(0), zq5, H', ⟨zlr _⟩, zq6⟩
 clear H'
 obtain ⟨x8_1, rfl, HA, HK1, ⟨m1, rfl⟩⟩ := hrel
 cases gk with
 | zero => exact absurd HA.out (by simp [za5])
 | succ k1 =>
 have H := HA.out
 clear HA
 simp only [za5] at H
 revert H
 refine zit (fun c3 H => ?_) fun c3 H => ?_
 rotate_left
 · obtain rfl := zsi H
   exact zr_6
 revert H
 refine zin fun c4 H => ?_
 revert H
 refine zin fun c5 H => ?_
 by_cases c6 : a1 = (rd l0 x8_1)
 · rw [if_pos c6] at H
   obtain ⟨c6b0, c6b1⟩ := zbe c6
   clear c6
   obtain rfl := zsi H
   obtain ⟨p101, q101⟩ := zpq x8_1 l0.length
   obtain ⟨ad101, e101, hx101_0⟩ := Kd.at_int HR0.out x8_1 (zoe p101) (zoe q101)
   cases e101
   exact zr_6
 rw [if_neg c6] at H
 obtain ⟨c6b0, c6b1⟩ := zbq c6
 have H' := zA H
 clear H
 obtain ⟨p101, q101⟩ := zpq x8_1 l0.length
 obtain ⟨ad101, e101, hx101_0⟩ := Kd.at_int HR0.out x8_1 (zoe p101) (zoe q101)
 cases e101
 go_wp2
 go_roundg k1
 case measure => have := HK1.out; omega
 case rel => exact ⟨(wrap64 (x8_1 + 1)), zq5, H', ⟨zq41 HK1⟩, zq6⟩
def zbp (k : Nat) (l0 : List Int) (a1 : Int) : Option (Bool) := (zch k l0 a1).bind fun t101 => (some (decide (t101 ≥ 0)))
theorem zhi : ∀ a0 a1 k, LeO (zbp k a0 a1) (zbp (k + 1) a0 a1) := by
 intro a0 a1 k
 unfold zbp
 exact zm1 zlv
theorem zjr (k : Nat) (A0 : Option Addr) (c0 : Nat) (l0 : List Int) (a1 : Int) (r : Bool) (w : World) (hr0 : Kd.C (Kd.int .i64) w A0 l0.length l0) (hc0 : l0.length ≤ c0) (h : zbp k l0 a1 = some r) :
   Calls Tryz.prog 123 #[.slice A0 l0.length c0, .int .i64 a1] w fun e w' => e = .returned (.bool r) ∧ Drawn0 w w' := by
 have HR0 := zA hr0
 have HC0 := zA hc0
 clear hr0 hc0
 have H := h
 unfold zbp at H
 clear h
 replace H := zob H
 obtain ⟨t101, A30, H⟩ := H
 have A3 := zA A30
 clear A30
 obtain rfl := zsi H
 go_enter Tryz.func123, Tryz.ntmps123
 go_wp2_with (first | ((with_reducible refine zgc 159 ?_); refine zca 7 Tryz.func159 #[.slice A0 l0.length c0, .int .i64 a1] (zk1 k _ _ l0 a1 t101 _ (zq10 HR0) HC0.out A3.out) ?_; rintro e w' ⟨rfl, ⟨nd, rfl⟩⟩; refine ⟨_, rfl, ?_⟩))
 exact zr_1
def zdi : Nat → List (S62) → List (S62) → Int → Int → Option (Bool)
 | 0, _, _, _, _ => none
 | k + 1, x0, x9, x10, x11 => if x11 < x10 then (if 0 ≤ x11 then (if x11 < (x9.length : Int) then ((zdr k ((zac x9 x11).f0) ((zac x9 x11).f1) ((zac x9 x11).f2) ((zac x9 x11).f3) x11).bind fun t104 => (if t104 = true then (zdi k x0 x9 x10 (wrap64 (x11 + 1))) else (some false))) else (none)) else (none)) else ((zhr k x0).bind fun t105 => (if 0 ≤ (wrap64 ((x0.length : Int) - 1)) then (if (wrap64 ((x0.length : Int) - 1)) ≤ (t105.length : Int) then ((zbp k (t105.take ((wrap64 ((x0.length : Int) - 1)) : Int).toNat) 0).bind fun t112 => (some (!t112))) else (none)) else (none)))
def zgi (k : Nat) (l0 : List (S62)) : Option (Bool) := (zei (l0.length : Int) 1 24).bind fun t101 => (if t101 = true then (zdi k l0 l0 (l0.length : Int) 0) else (some false))
theorem zk5 : ∀ k, (∀ y0 y1 y2 y3, LeO (zdi k y0 y1 y2 y3) (zdi (k + 1) y0 y1 y2 y3))
 | 0 => fun _ _ _ _ r h => by simp [zdi] at h
 | k + 1 => by
   have ih0 := zk5 k
   · intro y0 y1 y2 y3
     unfold zdi
     exact zm4 ih0 zjk zog zhi
theorem zre : ∀ a0 k, LeO (zgi k a0) (zgi (k + 1) a0) := by
 intro a0 k
 have ih0 := zk5 k
 unfold zgi
 exact zm4 ih0 zjk zog zhi
theorem zqi (k : Nat) (A0 : Option Addr) (c0 : Nat) (l0 : List (S62)) (r : Bool) (w : World) (hr0 : Kd.C k62 w A0 l0.length l0) (hc0 : l0.length ≤ c0) (h : zgi k l0 = some r) :
   Calls Tryz.prog 88 #[.slice A0 l0.length c0] w fun e w' => e = .returned (.bool r) ∧ Below w.heap.size w w' := by
 have hu62 := Tryz.underlying62
 have HR0 := zA hr0
 have HC0 := zA hc0
 clear hr0 hc0
 have HB := zA (Below.refl w.heap.size w)
 have H := h
 unfold zgi at H
 clear h
 replace H := zob H
 obtain ⟨t101, A20, H⟩ := H
 have A2 := zA A20
 clear A20
 by_cases c3 : t101 = true
 rotate_left
 · replace c3 := zbf c3
   subst c3
   replace H := zif H
   obtain rfl := zsi H
   go_enter Tryz.func88, Tryz.ntmps88
   go_wp2_with (first | ((with_reducible refine zgc 90 ?_); refine zcl 7 Tryz.func90 (zc0 (l0.length : Int) 1 24 false _ A2.out) ?_; rintro e w' ⟨rfl, ⟨nd, rfl⟩⟩; refine ⟨_, rfl, ?_⟩))
   exact zr_3
 subst c3
 replace H := zih H
 have H' := zA H
 clear H
 go_enter Tryz.func88, Tryz.ntmps88
 go_wp2_with (first | ((with_reducible refine zgc 90 ?_); refine zcl 7 Tryz.func90 (zc0 (l0.length : Int) 1 24 true _ A2.out) ?_; rintro e w' ⟨rfl, ⟨nd, rfl⟩⟩; refine ⟨_, rfl, ?_⟩))
 go_loopg [11] k (fun kq v11 w' => ∃ (x11_1 : Int), v11 = .int .i64 x11_1 ∧ Aside0 (zdi kq l0 l0 (l0.length : Int) x11_1 = some r) ∧ Aside0 (kq ≤ k) ∧ Aside0 (Below w.heap.size w w'))
 case atStart => exact ⟨(0), zq5, H', ⟨zlr _⟩, ⟨zq1⟩⟩
 clear H'
 obtain ⟨x11_1, rfl, HA, HK1, HB⟩ := hrel
 cases gk with
 | zero => exact absurd HA.out (by simp [zdi])
 | succ k1 =>
 have H := HA.out
 clear HA
 simp only [zdi] at H
 revert H
 refine zit (fun c4 H => ?_) fun c4 H => ?_
 rotate_left
 · replace H := zob H
   obtain ⟨t105, A150, H⟩ := H
   have A15 := zA A150
   clear A150
   obtain ⟨ji16, hji16⟩ : ∃ j_ : Int, (wrap64 ((l0.length : Int) - 1)) = j_ := ⟨_, rfl⟩
   replace H : (if 0 ≤ (ji16) then (if (ji16) ≤ (t105.length : Int) then ((zbp k1 (t105.take ((ji16) : Int).toNat) 0).bind fun t112 => (some (!t112))) else (none)) else (none)) = some r := by first | (rw [hji16] at H; exact H) | (simp only [hji16] at H ⊢; exact H)
   (try rw [hji16] at A15)
   have hji16w : (IntKind.i64.wrap ((l0.length : Int) - 1)) = ji16 := (zgy _).trans hji16
   by_cases c17 : 0 ≤ (ji16)
   rotate_left
   · rw [if_neg c17] at H
     exact absurd H (by simp)
   rw [if_pos c17] at H
   have c17b0 := eq_true c17
   have c17b1 := zdt c17
   clear c17
   by_cases c18 : (ji16) ≤ (t105.length : Int)
   rotate_left
   · rw [if_neg c18] at H
     exact absurd H (by simp)
   rw [if_pos c18] at H
   have c18b0 := eq_true c18
   have c18b1 := zdt c18
   clear c18
   obtain ⟨y108, hy108⟩ : ∃ y_ : List Int, y_ = (t105.take ((ji16) : Int).toNat) := ⟨_, rfl⟩
   rw [← hy108] at H; try with_reducible replace H := zbs H
   have Ny108 := zA hy108
   clear hy108
   replace H := zob H
   obtain ⟨t112, A190, H⟩ := H
   have A19 := zA A190
   clear A190
   obtain rfl := zsi H
   go_wp2_with (first | ((with_reducible refine zgc 124 ?_); refine zca 22 Tryz.func124 #[.slice A0 l0.length c0] (zr3 k1 _ _ l0 t105 _ (zq7 HR0) HC0.out A15.out) ?_; rintro e w20 ⟨v106, rfl, ho0, hb⟩; refine ⟨_, rfl, ?_⟩; have HO107 := zA (Kd.R_lower ho0 (zag zq1)); replace HB := zA (zab zq1 hb); (try clear hb); (try clear ho0); obtain ⟨Ao22, co22, eo22⟩ := Kd.R_slice HO107.out; subst eo22; have q21 : ((ji16) : Int) ≤ ((t105.length : Int) : Int) := zde zq21; obtain ⟨i021, hi021, _, hsz21, _⟩ := info_parts zn1; have hroom21 : t105.length ≤ co22 := (zRr HO107.out).2.1; have hC21 : Kd.C (Kd.int .i64) _ Ao22 t105.length t105 := (zRr HO107.out).2.2; have hcut21 := zzp (P := Tryz.prog) 24 3 .i64 Tryz.underlying24 hi021 Ao22 t105.length co22 (ji16) (zde zq21) q21 hroom21; have hr21 := Kd.C_take (m := ((ji16) : Int).toNat) hC21 (by omega); have hy21 : y108.length = ((ji16) : Int).toNat := (by rw [Ny108.out, List.length_take]; omega); rw [← Ny108.out] at hr21; rw [← hy21] at hcut21; have HR111 := zA hr21; have HC111 := zA (show y108.length ≤ co22 from by omega); clear hr21 hC21 hroom21 hi021 hsz21; have KY21 := zA hy21; clear hy21; have KL21 := zA (show ((ji16) : Int).toNat ≤ t105.length from by omega); replace q21 := eq_true q21) | ((with_reducible refine zgc 123 ?_); refine zca 27 Tryz.func123 #[.slice Ao22 y108.length co22, .int .i64 0] (zjr k1 _ _ y108 0 t112 _ (zq57 HR111) HC111.out A19.out) ?_; rintro e w' ⟨rfl, ⟨nd, rfl⟩⟩; refine ⟨_, rfl, ?_⟩))
   go_ret
   exact ⟨zq58, zq1⟩
 revert H
 refine zin fun c5 H => ?_
 revert H
 refine zin fun c6 H => ?_
 replace H := zob H
 obtain ⟨t104, A70, H⟩ := H
 have A7 := zA A70
 clear A70
 by_cases c8 : t104 = true
 rotate_left
 · replace c8 := zbf c8
   subst c8
   replace H := zif H
   obtain rfl := zsi H
   obtain ⟨p102, q102⟩ := zpq x11_1 l0.length
   obtain ⟨ad102, e102, hx102_0, hx102_1, hx102_2, hx102_3⟩ := zdu HR0.out x11_1 (zoe p102) (zoe q102)
   cases e102
   replace hx102_0 := zkep HB.out hx102_0
   replace hx102_1 := zkep HB.out hx102_1
   replace hx102_2 := zkep HB.out hx102_2
   replace hx102_3 := zkep HB.out hx102_3
   go_wp2_with (first | ((with_reducible refine zgd 4 ?_); refine zbh zq1 #[.string (⟨#[]⟩ : ByteArray), .int .i64 0, .int .i64 0, .int .i64 0] 62 ?_; clear HB; intro gb103 w12 HB BK103 GW103; have GE103 := GW103; obtain ⟨hcz13_0, hcz13_1, hcz13_2, hcz13_3, hfz13_0, hfz13_1, hfz13_2, hfz13_3⟩ := zd4 BK103) | ((with_reducible refine zgc 122 ?_); refine zcl 18 Tryz.func122 (zi2 k1 ((zac l0 x11_1).f0) ((zac l0 x11_1).f1) ((zac l0 x11_1).f2) ((zac l0 x11_1).f3) x11_1 false _ A7.out) ?_; rintro e w14 ⟨rfl, hb⟩; refine ⟨_, rfl, ?_⟩; replace BK103 := zA (zah (g := gb103) (o := .cells #[.string ((zac l0 x11_1).f0), .int .i64 ((zac l0 x11_1).f1), .int .i64 ((zac l0 x11_1).f2), .int .i64 ((zac l0 x11_1).f3)] 62 (0, 0)) (zq18 BK103) hb); replace HB := zA (zab (zq3 GE103) hb); (try clear hb)))
   go_ret
   exact ⟨zq4, zq3 GE103⟩
 subst c8
 replace H := zih H
 have H' := zA H
 clear H
 obtain ⟨p102, q102⟩ := zpq x11_1 l0.length
 obtain ⟨ad102, e102, hx102_0, hx102_1, hx102_2, hx102_3⟩ := zdu HR0.out x11_1 (zoe p102) (zoe q102)
 cases e102
 replace hx102_0 := zkep HB.out hx102_0
 replace hx102_1 := zkep HB.out hx102_1
 replace hx102_2 := zkep HB.out hx102_2
 replace hx102_3 := zkep HB.out hx102_3
 go_wp2_with (first | ((with_reducible refine zgd 4 ?_); refine zbh zq1 #[.string (⟨#[]⟩ : ByteArray), .int .i64 0, .int .i64 0, .int .i64 0] 62 ?_; clear HB; intro gb103 w9 HB BK103 GW103; have GE103 := GW103; obtain ⟨hcz10_0, hcz10_1, hcz10_2, hcz10_3, hfz10_0, hfz10_1, hfz10_2, hfz10_3⟩ := zd4 BK103) | ((with_reducible refine zgc 122 ?_); refine zcl 18 Tryz.func122 (zi2 k1 ((zac l0 x11_1).f0) ((zac l0 x11_1).f1) ((zac l0 x11_1).f2) ((zac l0 x11_1).f3) x11_1 true _ A7.out) ?_; rintro e w11 ⟨rfl, hb⟩; refine ⟨_, rfl, ?_⟩; replace BK103 := zA (zah (g := gb103) (o := .cells #[.string ((zac l0 x11_1).f0), .int .i64 ((zac l0 x11_1).f1), .int .i64 ((zac l0 x11_1).f2), .int .i64 ((zac l0 x11_1).f3)] 62 (0, 0)) (zq18 BK103) hb); replace HB := zA (zab (zq3 GE103) hb); (try clear hb)))
 go_roundg k1
 case measure => have := HK1.out; omega
 case rel => exact ⟨(wrap64 (x11_1 + 1)), zq5, H', ⟨zq41 HK1⟩, ⟨zq3 GE103⟩⟩
end Go.Proofs.YtnaafcleafbejaaGreat.Q
end
