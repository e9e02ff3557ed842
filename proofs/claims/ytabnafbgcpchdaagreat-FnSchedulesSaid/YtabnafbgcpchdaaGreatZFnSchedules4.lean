/- Proved here: contracts of functions that the law FnSchedules reaches, and lemmas on what they compute; texts of this session and the printed words of the kit that they lean on, cut down and put together by its program link.py. Conditions: as each states. -/
import Derived.Test.YtabnafbgcpchdaaGreatZFnSchedules1
import Derived.Test.YtabnafbgcpchdaaGreatZFnSchedules2
import Derived.Test.YtabnafbgcpchdaaGreatZFnSchedules3
section
namespace Go.Proofs.YtabnafbgcpchdaaGreat.Q
open Go.RowKit Go.Proofs.YtabnafbgcpchdaaGreatW.PrintWords Go.Proofs.YtabnafbgcpchdaaGreatW.PrintLast Go.Proofs.YtabnafbgcpchdaaGreatW.PrintMore
set_option maxHeartbeats 8000000
set_option maxRecDepth 100000
attribute [local go_sem] zk3 zk4 zmp zmq zjg zjh zk5 zk6
set_option linter.unusedVariables false
set_option linter.unusedSimpArgs false
mutual
def zdv : Nat → Int → List (List Int) → List Int → List Int → Int → Option (List Int)
 | 0, _, _, _, _, _ => none
 | k + 1, x1, x5, x6, x7, x8 => (zhz k x7 (-1)).bind fun t110 => (if t110 = true then (zep k x1 x5 x6 x7 x8 x1) else (some x7))
def zep : Nat → Int → List (List Int) → List Int → List Int → Int → Int → Option (List Int)
 | 0, _, _, _, _, _, _ => none
 | k + 1, x1, x5, x6, x7, x8, x9 => if x9 > 0 then (zdw k x1 x5 x6 x7 x8 x9 (-1) x6 (x6.length : Int) 0) else (zdv k x1 x5 x6 x7 (wrap64 (x8 + 1)))
def zdw : Nat → Int → List (List Int) → List Int → List Int → Int → Int → Int → List Int → Int → Int → Option (List Int)
 | 0, _, _, _, _, _, _, _, _, _, _ => none
 | k + 1, x1, x5, x6, x7, x8, x9, x10, x29, x30, x31 => if x31 < x30 then (if 0 ≤ x31 then (if x31 < (x29.length : Int) then ((zh1 k x5 x7 x31 x8).bind fun t112 => (if t112 = true then (if x10 < 0 then (zdw k x1 x5 x6 x7 x8 x9 x31 x29 x30 (wrap64 (x31 + 1))) else (if 0 ≤ x10 then (if x10 < (x6.length : Int) then (if (rd x29 x31) > (rd x6 x10) then (zdw k x1 x5 x6 x7 x8 x9 x31 x29 x30 (wrap64 (x31 + 1))) else (zdw k x1 x5 x6 x7 x8 x9 x10 x29 x30 (wrap64 (x31 + 1)))) else (none)) else (none))) else (zdw k x1 x5 x6 x7 x8 x9 x10 x29 x30 (wrap64 (x31 + 1))))) else (none)) else (none)) else (if x10 < 0 then (zdv k x1 x5 x6 x7 (wrap64 (x8 + 1))) else (if 0 ≤ x10 then (if x10 < (x7.length : Int) then (zep k x1 x5 x6 (x7.set (x10 : Int).toNat x8) x8 (wrap64 (x9 - 1))) else (none)) else (none)))
end
def zir (k : Nat) (l0 : List (S55)) (a1 : Int) : Option (List Int) := (zfq k l0).bind fun t101 => ((zgl k l0).bind fun t104 => ((ziq k (l0.length : Int)).bind fun t107 => (zdv k a1 t101 t104 t107 0)))
theorem zn6 : ∀ k, (∀ y0 y1 y2 y3 y4, LeO (zdv k y0 y1 y2 y3 y4) (zdv (k + 1) y0 y1 y2 y3 y4)) ∧ (∀ y0 y1 y2 y3 y4 y5, LeO (zep k y0 y1 y2 y3 y4 y5) (zep (k + 1) y0 y1 y2 y3 y4 y5)) ∧ (∀ y0 y1 y2 y3 y4 y5 y6 y7 y8 y9, LeO (zdw k y0 y1 y2 y3 y4 y5 y6 y7 y8 y9) (zdw (k + 1) y0 y1 y2 y3 y4 y5 y6 y7 y8 y9))
 | 0 => ⟨fun _ _ _ _ _ r h => by simp [zdv] at h, fun _ _ _ _ _ _ r h => by simp [zep] at h, fun _ _ _ _ _ _ _ _ _ _ r h => by simp [zdw] at h⟩
 | k + 1 => by
   obtain ⟨ih0, ih1, ih2⟩ := zn6 k
   refine ⟨?_, ?_, ?_⟩
   · intro y0 y1 y2 y3 y4
     unfold zdv
     exact zm8 ih0 ih1 ih2 zhd zcn zjb zk0 zke
   · intro y0 y1 y2 y3 y4 y5
     unfold zep
     exact zm8 ih0 ih1 ih2 zhd zcn zjb zk0 zke
   · intro y0 y1 y2 y3 y4 y5 y6 y7 y8 y9
     unfold zdw
     exact zm8 ih0 ih1 ih2 zhd zcn zjb zk0 zke
theorem zta : ∀ a0 a1 k, LeO (zir k a0 a1) (zir (k + 1) a0 a1) := by
 intro a0 a1 k
 obtain ⟨ih0, ih1, ih2⟩ := zn6 k
 unfold zir
 exact zm8 ih0 ih1 ih2 zhd zcn zjb zk0 zke
theorem zso (k : Nat) (A0 : Option Addr) (c0 : Nat) (l0 : List (S55)) (a1 : Int) (r : List Int) (w : World) (hr0 : Kd.C k55 w A0 l0.length l0) (hc0 : l0.length ≤ c0) (h : zir k l0 a1 = some r) :
   Calls Tryz.prog 86 #[.slice A0 l0.length c0, .int .i64 a1] w fun e w' => ∃ v0_ : Value, e = .returned (v0_) ∧ Kd.R (Kd.int .i64) 3 w' w.heap.size (fun _ => True) v0_ r ∧ Below w.heap.size w w' := by
 have HR0 := zA hr0
 have HC0 := zA hc0
 clear hr0 hc0
 have HB := zA (Below.refl w.heap.size w)
 have H := h
 unfold zir at H
 clear h
 replace H := zob H
 obtain ⟨t101, A30, H⟩ := H
 have A3 := zA A30
 clear A30
 replace H := zob H
 obtain ⟨t104, A40, H⟩ := H
 have A4 := zA A40
 clear A40
 replace H := zob H
 obtain ⟨t107, A50, H⟩ := H
 have A5 := zA A50
 clear A50
 have H' := zA H
 clear H
 go_enter Tryz.func86, Tryz.ntmps86
 go_wp2_with (first | ((with_reducible refine zgc 62 ?_); refine zca 14 Tryz.func62 #[.slice A0 l0.length c0] (zgz k _ _ l0 t101 _ (zq15 HR0) HC0.out A3.out) ?_; rintro e w6 ⟨v102, rfl, ho0, hb⟩; refine ⟨_, rfl, ?_⟩; have HO103 := zA (Kd.S_lower ho0 (zaj zq1)); replace HB := zA (zab zq1 hb); (try clear hb); (try clear ho0)) | ((with_reducible refine zgc 125 ?_); refine zca 16 Tryz.func125 #[.slice A0 l0.length c0] (zqf k _ _ l0 t104 _ (zq21 HR0) HC0.out A4.out) ?_; rintro e w7 ⟨v105, rfl, ho0, hb⟩; refine ⟨_, rfl, ?_⟩; replace HO103 := zA (Kd.S_elder' (zq17 HO103) (Kd.R_base ho0) hb); have HO106 := zA (Kd.R_lower ho0 (zaj zq1)); replace HB := zA (zab zq1 hb); (try clear hb); (try clear ho0)) | ((with_reducible refine zgc 126 ?_); refine zcl 19 Tryz.func126 (zsn k (l0.length : Int) t107 _ A5.out) ?_; rintro e w8 ⟨v108, rfl, ho0, hb⟩; refine ⟨_, rfl, ?_⟩; replace HO103 := zA (Kd.S_elder' (zq17 HO103) (Kd.R_base ho0) hb); have HO109 := zA (Kd.R_lower (Kd.R_new' ho0 (Kd.R_lt (zq2 HO106))) (zaj zq1)); replace HO106 := zA (Kd.R_elder' (zq2 HO106) (Kd.R_base ho0) hb); replace HB := zA (zab zq1 hb); (try clear hb); (try clear ho0)))
 go_loopg [8] k (fun kq v8 w' => ∃ (x7_1 : List Int) (x8_1 : Int), v8 = .int .i64 x8_1 ∧ Aside0 (zdv kq a1 t101 t104 x7_1 x8_1 = some r) ∧ Aside0 (kq ≤ k) ∧ Aside0 (Kd.S (Kd.slice 3 (Kd.int .i64)) 25 w' w.heap.size (fun k_ => some k_ ≠ (v105 : Value).ownBlock ∧ some k_ ≠ (v108 : Value).ownBlock) v102 t101) ∧ Aside0 (Kd.R (Kd.int .i64) 3 w' w.heap.size (fun k_ => some k_ ≠ (v108 : Value).ownBlock) v105 t104) ∧ Aside0 (Kd.R (Kd.int .i64) 3 w' w.heap.size (fun k_ => some k_ ≠ (v105 : Value).ownBlock) v108 x7_1) ∧ Aside0 (Below w.heap.size w w'))
 case atStart => exact ⟨(t107), (0), zq7, H', ⟨zlr _⟩, ⟨by (with_reducible repeat (first | apply zSa | apply zSn | apply zSd)); exact Kd.S_mono HO103.out (fun _ hk => ⟨hk.1.2, hk.2⟩)⟩, ⟨zq50 HO106⟩, ⟨zq50 HO109⟩, ⟨zq1⟩⟩
 clear H'
 obtain ⟨x7_1, x8_1, rfl, HA, HK1, HO_5, HO_6, HO_7, HB⟩ := hrel
 cases gk with
 | zero => exact absurd HA.out (by simp [zdv])
 | succ k1 =>
 have H := HA.out
 clear HA
 simp only [zdv] at H
 replace H := zob H
 obtain ⟨t110, A90, H⟩ := H
 have A9 := zA A90
 clear A90
 by_cases c10 : t110 = true
 rotate_left
 · replace c10 := zbf c10
   subst c10
   replace H := zif H
   obtain rfl := zsi H
   obtain ⟨Ao33, co33, eo33⟩ := Kd.R_slice HO_7.out
   subst eo33
   go_wp2_with (first | ((with_reducible refine zgc 65 ?_); refine zca 21 Tryz.func65 #[.slice Ao33 x7_1.length co33, .int .i64 (-1)] (zky k1 _ _ x7_1 (-1) false _ (zq19 HO_7) (zq48 HO_7) A9.out) ?_; rintro e w' ⟨rfl, ⟨nd, rfl⟩⟩; refine ⟨_, rfl, ?_⟩))
   go_ret
   exact ⟨_, zq5, zq38 HO_7, zq1⟩
 subst c10
 replace H := zih H
 have H' := zA H
 clear H
 obtain ⟨Ao11, co11, eo11⟩ := Kd.R_slice HO_7.out
 subst eo11
 go_wp2_with (first | ((with_reducible refine zgc 65 ?_); refine zca 21 Tryz.func65 #[.slice Ao11 x7_1.length co11, .int .i64 (-1)] (zky k1 _ _ x7_1 (-1) true _ (zq19 HO_7) (zq48 HO_7) A9.out) ?_; rintro e w' ⟨rfl, ⟨nd, rfl⟩⟩; refine ⟨_, rfl, ?_⟩))
 go_loopg [9] k1 (fun kq v9 w' => ∃ (x7_2 : List Int) (x9_2 : Int), v9 = .int .i64 x9_2 ∧ Aside0 (zep kq a1 t101 t104 x7_2 x8_1 x9_2 = some r) ∧ Aside0 (kq ≤ k1) ∧ Aside0 (Kd.S (Kd.slice 3 (Kd.int .i64)) 25 w' w.heap.size (fun k_ => some k_ ≠ (v105 : Value).ownBlock ∧ some k_ ≠ ((.slice Ao11 x7_1.length co11) : Value).ownBlock) v102 t101) ∧ Aside0 (Kd.R (Kd.int .i64) 3 w' w.heap.size (fun k_ => some k_ ≠ ((.slice Ao11 x7_1.length co11) : Value).ownBlock) v105 t104) ∧ Aside0 (Kd.R (Kd.int .i64) 3 w' w.heap.size (fun k_ => some k_ ≠ (v105 : Value).ownBlock) (.slice Ao11 x7_1.length co11) x7_2) ∧ Aside0 (Below w.heap.size w w'))
 case atStart => exact ⟨(x7_1), (a1), zq7, H', ⟨zlr _⟩, ⟨zq17 HO_5⟩, ⟨zq2 HO_6⟩, ⟨zq2 HO_7⟩, ⟨zq1⟩⟩
 clear H'
 obtain ⟨x7_2, x9_2, rfl, HA, HK2, HO_5, HO_6, HO_7, HB⟩ := hrel
 have hl7_2 := (zRr HO_7.out).1
 rw [hl7_2] at HO_7
 (try simp only [hl7_2])
 (try simp only [hl7_2] at HO_5)
 (try simp only [hl7_2] at HO_6)
 cases gk with
 | zero => exact absurd HA.out (by simp [zep])
 | succ k2 =>
 have H := HA.out
 clear HA
 simp only [zep] at H
 by_cases c12 : x9_2 > 0
 rotate_left
 · rw [if_neg c12] at H
   have c12b0 := zdf c12
   clear c12
   have H' := zA H
   clear H
   go_wp2
   (try simp only [← hl7_2])
   go_roundg k2
   case measure => have := HK1.out; have := HK2.out; omega
   case rel => exact ⟨(x7_2), (wrap64 (x8_1 + 1)), zq7, H', ⟨zq41 HK1 HK2⟩, ⟨zq52 HO_5⟩, ⟨zq28 HO_6⟩, ⟨zq28 HO_7⟩, ⟨zq1⟩⟩
 rw [if_pos c12] at H
 have c12b0 := zdt c12
 clear c12
 have H' := zA H
 clear H
 obtain ⟨Ao13, co13, eo13⟩ := Kd.R_slice HO_6.out
 subst eo13
 go_wp2
 go_loopg [10, 31] k2 (fun kq v10 v31 w' => ∃ (x10_3 : Int) (x31_3 : Int), v10 = .int .i64 x10_3 ∧ v31 = .int .i64 x31_3 ∧ Aside0 (zdw kq a1 t101 t104 x7_2 x8_1 x9_2 x10_3 t104 (t104.length : Int) x31_3 = some r) ∧ Aside0 (kq ≤ k2) ∧ Aside0 (Kd.S (Kd.slice 3 (Kd.int .i64)) 25 w' w.heap.size (fun k_ => some k_ ≠ ((.slice Ao13 t104.length co13) : Value).ownBlock ∧ some k_ ≠ ((.slice Ao11 x7_2.length co11) : Value).ownBlock ∧ some k_ ≠ ((.slice Ao13 t104.length co13) : Value).ownBlock) v102 t101) ∧ Aside0 (Kd.R (Kd.int .i64) 3 w' w.heap.size (fun k_ => some k_ ≠ ((.slice Ao11 x7_2.length co11) : Value).ownBlock) (.slice Ao13 t104.length co13) t104) ∧ Aside0 (Kd.R (Kd.int .i64) 3 w' w.heap.size (fun k_ => some k_ ≠ ((.slice Ao13 t104.length co13) : Value).ownBlock ∧ some k_ ≠ ((.slice Ao13 t104.length co13) : Value).ownBlock) (.slice Ao11 x7_2.length co11) x7_2) ∧ Aside0 (Kd.R (Kd.int .i64) 3 w' w.heap.size (fun k_ => some k_ ≠ ((.slice Ao11 x7_2.length co11) : Value).ownBlock) (.slice Ao13 t104.length co13) t104) ∧ Aside0 (Below w.heap.size w w'))
 case atStart => exact ⟨((-1)), (0), zq7, zq7, H', ⟨zlr _⟩, ⟨by (try simp only [hl7_2]); (with_reducible repeat (first | apply zSa | apply zSn | apply zSd)); exact Kd.S_mono HO_5.out (fun _ hk => ⟨hk.1, ⟨hk.2, hk.1⟩⟩)⟩, ⟨zq28 HO_6⟩, ⟨by (try simp only [hl7_2]); (with_reducible repeat (first | apply zRa | apply zRn | apply zRd)); exact Kd.R_mono HO_7.out (fun _ hk => ⟨hk, hk⟩)⟩, ⟨zq28 HO_6⟩, ⟨zq1⟩⟩
 clear H'
 obtain ⟨x10_3, x31_3, rfl, rfl, HA, HK3, HO_5, HO_6, HO_7, HO_29, HB⟩ := hrel
 cases gk with
 | zero => exact absurd HA.out (by simp [zdw])
 | succ k3 =>
 have H := HA.out
 clear HA
 simp only [zdw] at H
 revert H
 refine zit (fun c14 H => ?_) fun c14 H => ?_
 rotate_left
 · by_cases c27 : x10_3 < 0
   · rw [if_pos c27] at H
     have c27b0 := zdt c27
     clear c27
     have H' := zA H
     clear H
     go_wp2
     (try simp only [← hl7_2])
     go_roundg k3
     case measure => have := HK1.out; have := HK2.out; have := HK3.out; omega
     case rel => exact ⟨(x7_2), (wrap64 (x8_1 + 1)), zq7, H', ⟨zq40 HK1 HK2 HK3⟩, ⟨by (try simp only [hl7_2]); (with_reducible repeat (first | apply zSa | apply zSn | apply zSd)); exact Kd.S_mono HO_5.out (fun _ hk => ⟨hk.1, hk.2.1⟩)⟩, ⟨zq28 HO_6⟩, ⟨by (try simp only [hl7_2]); (with_reducible repeat (first | apply zRa | apply zRn | apply zRd)); exact Kd.R_mono HO_7.out (fun _ hk => hk.1)⟩, ⟨zq1⟩⟩
   rw [if_neg c27] at H
   have c27b0 := zdf c27
   clear c27
   revert H
   refine zin fun c28 H => ?_
   revert H
   refine zin fun c29 H => ?_
   obtain ⟨y114, hy114⟩ : ∃ y_ : List Int, y_ = (x7_2.set (x10_3 : Int).toNat x8_1) := ⟨_, rfl⟩
   rw [← hy114] at H; try with_reducible replace H := zbs H
   have Ny114 := zA hy114
   clear hy114
   have H' := zA H
   clear H
   have p30 : 0 ≤ (x10_3 : Int) := zde zq20
   have q30 : (x10_3 : Int) < ((x7_2.length : Int) : Int) := zde zq20
   obtain ⟨go30, co30, eo30, gb30, gl30, cl30, HG30⟩ := Kd.R_form HO_7.out (by omega)
   (first | cases eo30 | (injection eo30 with ea_ en_ ec_; (first | subst ea_ | (injection ea_ with ea_; subst ea_)); subst ec_; clear en_))
   have GB30 := zA gb30
   have GG30 := zA HG30
   clear gb30 gl30 HG30
   obtain ⟨hx30_0, hf30_0⟩ := Kd.R_celln 0 HO_7.out (x10_3 : Int) p30 q30
   replace p30 := eq_true p30
   replace q30 := eq_true q30
   have HP31 := Kd.R_putg HO_7.out (x10_3 : Int) x8_1
   go_wp2_with (first | ((with_reducible refine zgs 3 60 ?_); refine zse (wr.setCell ⟨go30, (x10_3 : Int).toNat, none⟩ (.int .i64 x8_1)) ?_; intro w32 hw; have hg : wr.grownBy w32 (some go30) := (by rw [hw]; exact HP31.2); have hp_ : Kd.R (Kd.int .i64) 3 w32 w.heap.size (fun k_ => some k_ ≠ (.slice Ao13 t104.length co13 : Value).ownBlock ∧ some k_ ≠ (.slice Ao13 t104.length co13 : Value).ownBlock) (.slice (some ⟨go30, 0, none⟩) x7_2.length co11) y114 := (by rw [hw, Ny114.out]; exact HP31.1); clear HP31; replace HO_5 := zA (Kd.S_after (v := (.slice (some ⟨go30, 0, none⟩) x7_2.length co11)) (v1 := (.slice (some ⟨go30, 0, none⟩) x7_2.length co11)) (ok := (fun k_ => some k_ ≠ (.slice Ao13 t104.length co13 : Value).ownBlock ∧ some k_ ≠ (.slice Ao13 t104.length co13 : Value).ownBlock)) (zq53 HO_5) hg (.inl rfl)); replace HO_6 := zA (Kd.R_after (v := (.slice (some ⟨go30, 0, none⟩) x7_2.length co11)) (v1 := (.slice (some ⟨go30, 0, none⟩) x7_2.length co11)) (ok := (fun _ => True)) (zq46 HO_6) hg (.inl rfl)); replace HO_7 := zA (hp_); replace HO_29 := zA (Kd.R_after (v := (.slice (some ⟨go30, 0, none⟩) x7_2.length co11)) (v1 := (.slice (some ⟨go30, 0, none⟩) x7_2.length co11)) (ok := (fun _ => True)) (zq46 HO_29) hg (.inl rfl)); replace HB := zA ((zq63 GB30 : Below w.heap.size w w32)); clear hg hw hp_))
   (try simp only [← hl7_2])
   go_roundg k3
   case measure => have := HK1.out; have := HK2.out; have := HK3.out; omega
   case rel => exact ⟨(y114), (wrap64 (x9_2 - 1)), zq7, H', ⟨zq40 HK1 HK2 HK3⟩, ⟨by (try simp only [hl7_2]); (with_reducible repeat (first | apply zSa | apply zSn | apply zSd)); exact Kd.S_mono HO_5.out (fun _ hk => ⟨hk.1.1, hk.2⟩)⟩, ⟨by (try simp only [hl7_2]); (with_reducible repeat (first | apply zRa | apply zRn | apply zRd)); exact Kd.R_mono HO_6.out (fun _ hk => hk.2)⟩, ⟨by (try simp only [hl7_2]); (with_reducible repeat (first | apply zRa | apply zRn | apply zRd)); exact Kd.R_mono HO_7.out (fun _ hk => hk.1)⟩, ⟨zq1⟩⟩
 revert H
 refine zin fun c15 H => ?_
 revert H
 refine zin fun c16 H => ?_
 replace H := zob H
 obtain ⟨t112, A170, H⟩ := H
 have A17 := zA A170
 clear A170
 by_cases c18 : t112 = true
 rotate_left
 · replace c18 := zbf c18
   subst c18
   replace H := zif H
   have H' := zA H
   clear H
   obtain ⟨p111, q111⟩ := zpq x31_3 t104.length
   obtain ⟨ad111, e111, hx111_0⟩ := Kd.at_int (zRr HO_29.out).2.2 x31_3 (zoe p111) (zoe q111)
   cases e111
   obtain ⟨Ao26, co26, eo26⟩ := Kd.S_slice HO_5.out
   subst eo26
   go_wp2_with (first | ((with_reducible refine zgc 127 ?_); refine zca 40 Tryz.func127 #[.slice Ao26 t101.length co26, .slice Ao11 x7_2.length co11, .int .i64 x31_3, .int .i64 x8_1] (zjq k3 _ _ t101 _ _ x7_2 x31_3 x8_1 false _ (zq37 HO_5) (by exact (zSr HO_5.out).2.1) (zq19 HO_7) (zq48 HO_7) A17.out) ?_; rintro e w' ⟨rfl, ⟨nd, rfl⟩⟩; refine ⟨_, rfl, ?_⟩))
   go_roundg k3
   case measure => have := HK1.out; have := HK2.out; have := HK3.out; omega
   case rel => exact ⟨(x10_3), (wrap64 (x31_3 + 1)), zq7, zq7, H', ⟨zq40 HK1 HK2 HK3⟩, ⟨zq52 HO_5⟩, ⟨zq28 HO_6⟩, ⟨zq28 HO_7⟩, ⟨zq28 HO_29⟩, ⟨zq1⟩⟩
 subst c18
 replace H := zih H
 revert H
 refine zit (fun c19b0 H => ?_) fun c19b0 H => ?_
 · have H' := zA H
   clear H
   obtain ⟨p111, q111⟩ := zpq x31_3 t104.length
   obtain ⟨ad111, e111, hx111_0⟩ := Kd.at_int (zRr HO_29.out).2.2 x31_3 (zoe p111) (zoe q111)
   cases e111
   obtain ⟨Ao20, co20, eo20⟩ := Kd.S_slice HO_5.out
   subst eo20
   go_wp2_with (first | ((with_reducible refine zgc 127 ?_); refine zca 40 Tryz.func127 #[.slice Ao20 t101.length co20, .slice Ao11 x7_2.length co11, .int .i64 x31_3, .int .i64 x8_1] (zjq k3 _ _ t101 _ _ x7_2 x31_3 x8_1 true _ (zq37 HO_5) (by exact (zSr HO_5.out).2.1) (zq19 HO_7) (zq48 HO_7) A17.out) ?_; rintro e w' ⟨rfl, ⟨nd, rfl⟩⟩; refine ⟨_, rfl, ?_⟩))
   go_roundg k3
   case measure => have := HK1.out; have := HK2.out; have := HK3.out; omega
   case rel => exact ⟨(x31_3), (wrap64 (x31_3 + 1)), zq7, zq7, H', ⟨zq40 HK1 HK2 HK3⟩, ⟨zq52 HO_5⟩, ⟨zq28 HO_6⟩, ⟨zq28 HO_7⟩, ⟨zq28 HO_29⟩, ⟨zq1⟩⟩
 revert H
 refine zin fun c21 H => ?_
 revert H
 refine zin fun c22 H => ?_
 revert H
 refine zit (fun c23b0 H => ?_) fun c23b0 H => ?_
 · have H' := zA H
   clear H
   obtain ⟨p111, q111⟩ := zpq x31_3 t104.length
   obtain ⟨ad111, e111, hx111_0⟩ := Kd.at_int (zRr HO_29.out).2.2 x31_3 (zoe p111) (zoe q111)
   cases e111
   obtain ⟨Ao24, co24, eo24⟩ := Kd.S_slice HO_5.out
   subst eo24
   go_wp2_with (first | ((with_reducible refine zgc 127 ?_); refine zca 40 Tryz.func127 #[.slice Ao24 t101.length co24, .slice Ao11 x7_2.length co11, .int .i64 x31_3, .int .i64 x8_1] (zjq k3 _ _ t101 _ _ x7_2 x31_3 x8_1 true _ (zq37 HO_5) (by exact (zSr HO_5.out).2.1) (zq19 HO_7) (zq48 HO_7) A17.out) ?_; rintro e w' ⟨rfl, ⟨nd, rfl⟩⟩; refine ⟨_, rfl, ?_⟩; have p113 : 0 ≤ (x10_3 : Int) := zde zq20; have q113 : x10_3 < (t104.length : Int) := zde zq20; obtain ⟨ad113, e113, hx113_0⟩ := Kd.at_int (zRr HO_6.out).2.2 x10_3 p113 q113; obtain rfl : ad111 = ad113 := (by injection e113); replace p113 := eq_true p113; replace q113 := eq_true q113))
   go_roundg k3
   case measure => have := HK1.out; have := HK2.out; have := HK3.out; omega
   case rel => exact ⟨(x31_3), (wrap64 (x31_3 + 1)), zq7, zq7, H', ⟨zq40 HK1 HK2 HK3⟩, ⟨zq52 HO_5⟩, ⟨zq28 HO_6⟩, ⟨zq28 HO_7⟩, ⟨zq28 HO_29⟩, ⟨zq1⟩⟩
 have H' := zA H
 clear H
 obtain ⟨p111, q111⟩ := zpq x31_3 t104.length
 obtain ⟨ad111, e111, hx111_0⟩ := Kd.at_int (zRr HO_29.out).2.2 x31_3 (zoe p111) (zoe q111)
 cases e111
 obtain ⟨Ao25, co25, eo25⟩ := Kd.S_slice HO_5.out
 subst eo25
 go_wp2_with (first | ((with_reducible refine zgc 127 ?_); refine zca 40 Tryz.func127 #[.slice Ao25 t101.length co25, .slice Ao11 x7_2.length co11, .int .i64 x31_3, .int .i64 x8_1] (zjq k3 _ _ t101 _ _ x7_2 x31_3 x8_1 true _ (zq37 HO_5) (by exact (zSr HO_5.out).2.1) (zq19 HO_7) (zq48 HO_7) A17.out) ?_; rintro e w' ⟨rfl, ⟨nd, rfl⟩⟩; refine ⟨_, rfl, ?_⟩; have p113 : 0 ≤ (x10_3 : Int) := zde zq20; have q113 : x10_3 < (t104.length : Int) := zde zq20; obtain ⟨ad113, e113, hx113_0⟩ := Kd.at_int (zRr HO_6.out).2.2 x10_3 p113 q113; obtain rfl : ad111 = ad113 := (by injection e113); replace p113 := eq_true p113; replace q113 := eq_true q113))
 go_roundg k3
 case measure => have := HK1.out; have := HK2.out; have := HK3.out; omega
 case rel => exact ⟨(x10_3), (wrap64 (x31_3 + 1)), zq7, zq7, H', ⟨zq40 HK1 HK2 HK3⟩, ⟨zq52 HO_5⟩, ⟨zq28 HO_6⟩, ⟨zq28 HO_7⟩, ⟨zq28 HO_29⟩, ⟨zq1⟩⟩
def zgf (a0 : Int) : Option (Bool) := (zj1 a0 1 3).bind fun t101 => (some t101)
theorem zg0 (a0 : Int) (r : Bool) (w : World) (h : zgf a0 = some r) :
   Calls Tryz.prog 69 #[.int .i64 a0] w fun e w' => e = .returned (.bool r) ∧ Drawn0 w w' := by
 have H := h
 unfold zgf at H
 clear h
 replace H := zob H
 obtain ⟨t101, A20, H⟩ := H
 have A2 := zA A20
 clear A20
 obtain rfl := zsi H
 go_enter Tryz.func69, Tryz.ntmps69
 go_wp2_with (first | ((with_reducible refine zgc 99 ?_); refine zcl 4 Tryz.func99 (zfo a0 1 3 t101 _ A2.out) ?_; rintro e w' ⟨rfl, ⟨nd, rfl⟩⟩; refine ⟨_, rfl, ?_⟩))
 exact zr_1
def zeh (k : Nat) (l0 : List (S55)) (a1 : Int) : Option (List Int × Bool) := (zgb k l0).bind fun t101 => (if t101 = true then ((zgf a1).bind fun t102 => (if t102 = true then ((zir k l0 a1).bind fun t103 => (some (t103, true))) else (some (([] : List Int), false)))) else (some (([] : List Int), false)))
theorem zgt : ∀ a0 a1 k, LeO (zeh k a0 a1) (zeh (k + 1) a0 a1) := by
 intro a0 a1 k
 unfold zeh
 exact zm2 zkx zta
theorem zlp (k : Nat) (A0 : Option Addr) (c0 : Nat) (l0 : List (S55)) (a1 : Int) (r1 : List Int) (r2 : Bool) (w : World) (hr0 : Kd.C k55 w A0 l0.length l0) (hc0 : l0.length ≤ c0) (h : zeh k l0 a1 = some (r1, r2)) :
   Calls Tryz.prog 37 #[.slice A0 l0.length c0, .int .i64 a1] w fun e w' => ∃ v0_ : Value, e = .returned (.tuple #[v0_, .bool r2]) ∧ Kd.R (Kd.int .i64) 3 w' w.heap.size (fun _ => True) v0_ r1 ∧ Below w.heap.size w w' := by
 have HR0 := zA hr0
 have HC0 := zA hc0
 clear hr0 hc0
 have HB := zA (Below.refl w.heap.size w)
 have H := h
 unfold zeh at H
 clear h
 replace H := zob H
 obtain ⟨t101, A30, H⟩ := H
 have A3 := zA A30
 clear A30
 by_cases c4 : t101 = true
 rotate_left
 · replace c4 := zbf c4
   subst c4
   replace H := zif H
   simp only [Option.some.injEq, Prod.mk.injEq] at H
   obtain ⟨rfl, rfl⟩ := H
   go_enter Tryz.func37, Tryz.ntmps37
   go_wp2_with (first | ((with_reducible refine zgc 53 ?_); refine zca 7 Tryz.func53 #[.slice A0 l0.length c0] (zdb k _ _ l0 false _ (zq15 HR0) HC0.out A3.out) ?_; rintro e w11 ⟨rfl, hb⟩; refine ⟨_, rfl, ?_⟩; replace HB := zA (zab zq1 hb); (try clear hb)))
   go_ret2
   exact ⟨_, zq5, zq25, zq1⟩
 subst c4
 replace H := zih H
 replace H := zob H
 obtain ⟨t102, A50, H⟩ := H
 have A5 := zA A50
 clear A50
 by_cases c6 : t102 = true
 rotate_left
 · replace c6 := zbf c6
   subst c6
   replace H := zif H
   simp only [Option.some.injEq, Prod.mk.injEq] at H
   obtain ⟨rfl, rfl⟩ := H
   go_enter Tryz.func37, Tryz.ntmps37
   go_wp2_with (first | ((with_reducible refine zgc 53 ?_); refine zca 7 Tryz.func53 #[.slice A0 l0.length c0] (zdb k _ _ l0 true _ (zq15 HR0) HC0.out A3.out) ?_; rintro e w10 ⟨rfl, hb⟩; refine ⟨_, rfl, ?_⟩; replace HB := zA (zab zq1 hb); (try clear hb)) | (go_at_call 69; (with_reducible refine (zg0 a1 false _ A5.out).mono ?_); rintro e w' ⟨rfl, ⟨nd, rfl⟩⟩))
   go_ret2
   exact ⟨_, zq5, zq25, zq1⟩
 subst c6
 replace H := zih H
 replace H := zob H
 obtain ⟨t103, A70, H⟩ := H
 have A7 := zA A70
 clear A70
 simp only [Option.some.injEq, Prod.mk.injEq] at H
 obtain ⟨rfl, rfl⟩ := H
 go_enter Tryz.func37, Tryz.ntmps37
 go_wp2_with (first | ((with_reducible refine zgc 53 ?_); refine zca 7 Tryz.func53 #[.slice A0 l0.length c0] (zdb k _ _ l0 true _ (zq15 HR0) HC0.out A3.out) ?_; rintro e w8 ⟨rfl, hb⟩; refine ⟨_, rfl, ?_⟩; replace HB := zA (zab zq1 hb); (try clear hb)) | (go_at_call 69; (with_reducible refine (zg0 a1 true _ A5.out).mono ?_); rintro e w' ⟨rfl, ⟨nd, rfl⟩⟩) | ((with_reducible refine zgc 86 ?_); refine zca 16 Tryz.func86 #[.slice A0 l0.length c0, .int .i64 a1] (zso k _ _ l0 a1 t103 _ (zq58 HR0) HC0.out A7.out) ?_; rintro e w9 ⟨v104, rfl, ho0, hb⟩; refine ⟨_, rfl, ?_⟩; have HO105 := zA (Kd.R_lower ho0 (zaj zq1)); replace HB := zA (zab zq1 hb); (try clear hb); (try clear ho0)))
 go_ret2
 exact ⟨_, zq5, zq2 HO105, zq1⟩
def zbu (s0_0 : List Int) (s0_1 : Int) (s0_2 : Int) (a1 : Int) : Option (Int × Int × Int) := if a1 ≤ 1 then (some (0, s0_1, s0_2)) else ((zh6 s0_0 s0_1 s0_2).bind fun bt101 => (if a1 > 200 then ((zh6 s0_0 bt101.2.1 bt101.2.2).bind fun bt104 => (if a1 = 0 then (none) else (some (Int.tmod (wrap64 ((wrap64 (bt101.1 * 256)) + bt104.1)) a1, bt104.2.1, bt104.2.2)))) else (if a1 = 0 then (none) else (some (Int.tmod bt101.1 a1, bt101.2.1, bt101.2.2)))))
theorem za8 (g : Nat) (s0_0 : List Int) (s0_1 : Int) (s0_2 : Int) (a1 : Int) (r1 : Int) (r2 : Int) (r3 : Int) (w0 w : World) (hI : IsS63 w0 w g s0_0 s0_1 s0_2) (hB : Below w0.heap.size w0 w) (h : zbu s0_0 s0_1 s0_2 a1 = some (r1, r2, r3)) :
   Calls Tryz.prog 98 #[.pointer (some ⟨g, 0, none⟩), .int .i64 a1] w fun e w' => e = .returned (.int .i64 r1) ∧ IsS63 w0 w' g s0_0 r2 r3 ∧ Below w0.heap.size w0 w' ∧ KeepBut w w' g none := by
 have HI0 := zA hI
 have HK := zA (KeepBut.refl w g none)
 have HL := zA hB.size
 clear hI
 have HW0 := zA hB.size
 have HB := zA hB
 clear hB
 have H := h
 unfold zbu at H
 clear h
 revert H
 refine zit (fun c3b0 H => ?_) fun c3b0 H => ?_
 · simp only [Option.some.injEq, Prod.mk.injEq] at H
   obtain ⟨rfl, rfl, rfl⟩ := H
   go_enter Tryz.func98, Tryz.ntmps98
   go_wp2
   exact zr_3
 replace H := zob H
 obtain ⟨⟨t101, t102, t103⟩, A40, H⟩ := H
 have A4 := zA A40
 clear A40
 by_cases c5 : a1 > 200
 rotate_left
 · rw [if_neg c5] at H
   have c5b0 := zdf c5
   clear c5
   by_cases c10 : a1 = 0
   · rw [if_pos c10] at H
     exact absurd H (by simp)
   rw [if_neg c10] at H
   obtain ⟨c10b0, c10b1⟩ := zbq c10
   simp only [Option.some.injEq, Prod.mk.injEq] at H
   obtain ⟨rfl, rfl, rfl⟩ := H
   go_enter Tryz.func98, Tryz.ntmps98
   go_wp2_with (first | ((with_reducible refine zgc 129 ?_); refine zca 9 Tryz.func129 #[.pointer (some ⟨g, 0, none⟩)] (zj0 g s0_0 s0_1 s0_2 t101 t102 t103 w0 _ (zq4 HI0) (zq6 HI0) A4.out) ?_; rintro e w11 ⟨rfl, hi, hb, hk⟩; refine ⟨_, rfl, ?_⟩; replace HK := zA (KeepBut.trans zq3 hk (.inl rfl)); replace HB := zA (hb); replace HI0 := zA (hi); (try clear hb); (try clear hk); (try clear hi)))
   exact zr_3
 rw [if_pos c5] at H
 have c5b0 := zdt c5
 clear c5
 replace H := zob H
 obtain ⟨⟨t104, t105, t106⟩, A60, H⟩ := H
 have A6 := zA A60
 clear A60
 by_cases c7 : a1 = 0
 · rw [if_pos c7] at H
   exact absurd H (by simp)
 rw [if_neg c7] at H
 obtain ⟨c7b0, c7b1⟩ := zbq c7
 simp only [Option.some.injEq, Prod.mk.injEq] at H
 obtain ⟨rfl, rfl, rfl⟩ := H
 go_enter Tryz.func98, Tryz.ntmps98
 go_wp2_with (first | ((with_reducible refine zgc 129 ?_); refine zca 9 Tryz.func129 #[.pointer (some ⟨g, 0, none⟩)] (zj0 g s0_0 s0_1 s0_2 t101 t102 t103 w0 _ (zq4 HI0) (zq6 HI0) A4.out) ?_; rintro e w8 ⟨rfl, hi, hb, hk⟩; refine ⟨_, rfl, ?_⟩; replace HK := zA (KeepBut.trans zq3 hk (.inl rfl)); replace HB := zA (hb); replace HI0 := zA (hi); (try clear hb); (try clear hk); (try clear hi)) | ((with_reducible refine zgc 129 ?_); refine zca 15 Tryz.func129 #[.pointer (some ⟨g, 0, none⟩)] (zj0 g s0_0 t102 t103 t104 t105 t106 w0 _ (zq4 HI0) (zq6 HI0) A6.out) ?_; rintro e w9 ⟨rfl, hi, hb, hk⟩; refine ⟨_, rfl, ?_⟩; replace HK := zA (KeepBut.trans zq3 hk (.inl rfl)); replace HB := zA (hb); replace HI0 := zA (hi); (try clear hb); (try clear hk); (try clear hi)))
 exact zr_3
def zco (s0_0 : List Int) (s0_1 : Int) (s0_2 : Int) (l1 : List Int) : Option (Int × Int × Int) := (zbu s0_0 s0_1 s0_2 (l1.length : Int)).bind fun bt101 => (if 0 ≤ bt101.1 then (if bt101.1 < (l1.length : Int) then (some (rd l1 bt101.1, bt101.2.1, bt101.2.2)) else (none)) else (none))
theorem zc0 (g : Nat) (s0_0 : List Int) (s0_1 : Int) (s0_2 : Int) (A1 : Option Addr) (c1 : Nat) (l1 : List Int) (r1 : Int) (r2 : Int) (r3 : Int) (w0 w : World) (hI : IsS63 w0 w g s0_0 s0_1 s0_2) (hB : Below w0.heap.size w0 w) (hr1 : Kd.C (Kd.int .i64) w A1 l1.length l1) (hc1 : l1.length ≤ c1) (hf1 : ∀ ad, A1 = some ad → 0 < l1.length → ad.block ≠ g) (h : zco s0_0 s0_1 s0_2 l1 = some (r1, r2, r3)) :
   Calls Tryz.prog 61 #[.pointer (some ⟨g, 0, none⟩), .slice A1 l1.length c1] w fun e w' => e = .returned (.int .i64 r1) ∧ IsS63 w0 w' g s0_0 r2 r3 ∧ Below w0.heap.size w0 w' ∧ KeepBut w w' g none := by
 have HR1 := zA hr1
 have HC1 := zA hc1
 clear hr1 hc1
 have HI0 := zA hI
 have HK := zA (KeepBut.refl w g none)
 have HL := zA hB.size
 clear hI
 have HW0 := zA hB.size
 have HB := zA hB
 clear hB
 have H := h
 unfold zco at H
 clear h
 replace H := zob H
 obtain ⟨⟨t101, t102, t103⟩, A30, H⟩ := H
 have A3 := zA A30
 clear A30
 revert H
 refine zin fun c4 H => ?_
 revert H
 refine zin fun c5 H => ?_
 simp only [Option.some.injEq, Prod.mk.injEq] at H
 obtain ⟨rfl, rfl, rfl⟩ := H
 go_enter Tryz.func61, Tryz.ntmps61
 go_wp2_with (first | ((with_reducible refine zgc 98 ?_); refine zca 9 Tryz.func98 #[.pointer (some ⟨g, 0, none⟩), .int .i64 (l1.length : Int)] (za8 g s0_0 s0_1 s0_2 (l1.length : Int) t101 t102 t103 w0 _ (zq4 HI0) (zq6 HI0) A3.out) ?_; rintro e w6 ⟨rfl, hi, hb, hk⟩; refine ⟨_, rfl, ?_⟩; replace HK := zA (KeepBut.trans zq3 hk (.inl rfl)); replace HB := zA (hb); replace HI0 := zA (hi); (try clear hb); (try clear hk); (try clear hi); have p104 : 0 ≤ (t101 : Int) := zde zq20; have q104 : t101 < (l1.length : Int) := zde zq20; obtain ⟨ad104, e104, hx104_0⟩ := Kd.at_int HR1.out t101 p104 q104; cases e104; replace hx104_0 := zxe HK.out hx104_0 (by first | (rw [zbl]; exact hf1 _ rfl (by omega)) | exact hf1 _ rfl (by omega) | exact hf1 ad104 rfl (by omega)); replace p104 := eq_true p104; replace q104 := eq_true q104))
 exact zr_3
def ze8 : Nat → ByteArray → List ByteArray → Int → Int → Option (Bool)
 | 0, _, _, _, _ => none
 | k + 1, x1, x7, x8, x9 => if x9 < x8 then (if 0 ≤ x9 then (if x9 < (x7.length : Int) then (if (rdOf ByteArray.empty x7 x9).toList = x1.toList then (some true) else (ze8 k x1 x7 x8 (wrap64 (x9 + 1)))) else (none)) else (none)) else (some false)
def zis (k : Nat) (l0 : List ByteArray) (a1 : ByteArray) : Option (Bool) := ze8 k a1 l0 (l0.length : Int) 0
theorem zn7 : ∀ k, (∀ y0 y1 y2 y3, LeO (ze8 k y0 y1 y2 y3) (ze8 (k + 1) y0 y1 y2 y3))
 | 0 => fun _ _ _ _ r h => by simp [ze8] at h
 | k + 1 => by
   have ih0 := zn7 k
   · intro y0 y1 y2 y3
     unfold ze8
     exact zm1 ih0
theorem ztb : ∀ a0 a1 k, LeO (zis k a0 a1) (zis (k + 1) a0 a1) := by
 intro a0 a1 k
 have ih0 := zn7 k
 unfold zis
 exact zm1 ih0
theorem zsp (k : Nat) (A0 : Option Addr) (c0 : Nat) (l0 : List ByteArray) (a1 : ByteArray) (r : Bool) (w : World) (hr0 : Kd.C Kd.string w A0 l0.length l0) (hc0 : l0.length ≤ c0) (h : zis k l0 a1 = some r) :
   Calls Tryz.prog 170 #[.slice A0 l0.length c0, .string a1] w fun e w' => e = .returned (.bool r) ∧ Drawn0 w w' := by
 have HR0 := zA hr0
 have HC0 := zA hc0
 clear hr0 hc0
 have H := h
 unfold zis at H
 clear h
 have H' := zA H
 clear H
 go_enter Tryz.func170, Tryz.ntmps170
 go_wp2
 go_loopg [9] k (fun kq v9 w' => ∃ (x9_1 : Int), v9 = .int .i64 x9_1 ∧ Aside0 (ze8 kq a1 l0 (l0.length : Int) x9_1 = some r) ∧ Aside0 (kq ≤ k) ∧ Drawn0 w w')
 case atStart => exact ⟨(0), zq7, H', ⟨zlr _⟩, zq13⟩
 clear H'
 obtain ⟨x9_1, rfl, HA, HK1, ⟨m1, rfl⟩⟩ := hrel
 cases gk with
 | zero => exact absurd HA.out (by simp [ze8])
 | succ k1 =>
 have H := HA.out
 clear HA
 simp only [ze8] at H
 revert H
 refine zit (fun c3 H => ?_) fun c3 H => ?_
 rotate_left
 · obtain rfl := zsi H
   exact zr_5
 revert H
 refine zin fun c4 H => ?_
 revert H
 refine zin fun c5 H => ?_
 by_cases c6 : (rdOf ByteArray.empty l0 x9_1).toList = a1.toList
 · rw [if_pos c6] at H
   obtain ⟨c6b0, c6b1⟩ := zbe c6
   clear c6
   obtain rfl := zsi H
   obtain ⟨p101, q101⟩ := zpq x9_1 l0.length
   obtain ⟨ad101, e101, hx101_0⟩ := Kd.at_string HR0.out x9_1 (zoe p101) (zoe q101)
   cases e101
   exact zr_5
 rw [if_neg c6] at H
 obtain ⟨c6b0, c6b1⟩ := zbq c6
 have H' := zA H
 clear H
 obtain ⟨p101, q101⟩ := zpq x9_1 l0.length
 obtain ⟨ad101, e101, hx101_0⟩ := Kd.at_string HR0.out x9_1 (zoe p101) (zoe q101)
 cases e101
 go_wp2
 go_roundg k1
 case measure => have := HK1.out; omega
 case rel => exact ⟨(wrap64 (x9_1 + 1)), zq7, H', ⟨zq51 HK1⟩, zq13⟩
def zi9 (k : Nat) (a0 : ByteArray) : Option (Bool) := (zis k (([(⟨#[115, 101, 116]⟩ : ByteArray), (⟨#[97, 100, 100, 105]⟩ : ByteArray), (⟨#[97, 110, 100, 105]⟩ : ByteArray), (⟨#[120, 111, 114, 105]⟩ : ByteArray), (⟨#[115, 104, 108, 105]⟩ : ByteArray), (⟨#[115, 104, 114, 105]⟩ : ByteArray), (⟨#[108, 101, 97]⟩ : ByteArray)] : List ByteArray)) a0).bind fun t104 => (some t104)
theorem znl : ∀ a0 k, LeO (zi9 k a0) (zi9 (k + 1) a0) := by
 intro a0 k
 unfold zi9
 exact zm1 ztb
theorem zmo (k : Nat) (a0 : ByteArray) (r : Bool) (w : World) (h : zi9 k a0 = some r) :
   Calls Tryz.prog 154 #[.string a0] w fun e w' => e = .returned (.bool r) ∧ Below w.heap.size w w' := by
 have HB := zA (Below.refl w.heap.size w)
 have H := h
 unfold zi9 at H
 clear h
 obtain ⟨y101, hy101⟩ : ∃ y_ : List ByteArray, y_ = (([(⟨#[115, 101, 116]⟩ : ByteArray), (⟨#[97, 100, 100, 105]⟩ : ByteArray), (⟨#[97, 110, 100, 105]⟩ : ByteArray), (⟨#[120, 111, 114, 105]⟩ : ByteArray), (⟨#[115, 104, 108, 105]⟩ : ByteArray), (⟨#[115, 104, 114, 105]⟩ : ByteArray), (⟨#[108, 101, 97]⟩ : ByteArray)] : List ByteArray)) := ⟨_, rfl⟩
 rw [← hy101] at H; try with_reducible replace H := zbs H
 have Ny101 := zA hy101
 clear hy101
 replace H := zob H
 obtain ⟨t104, A20, H⟩ := H
 have A2 := zA A20
 clear A20
 obtain rfl := zsi H
 go_enter Tryz.func154, Tryz.ntmps154
 go_wp2_with (first | ((with_reducible refine zgd 3 ?_); refine Kd.R_lit Kd.string _ 9 ?hg (N := 3) ?hd (xs := ([(⟨#[115, 101, 116]⟩ : ByteArray), (⟨#[97, 100, 100, 105]⟩ : ByteArray), (⟨#[97, 110, 100, 105]⟩ : ByteArray), (⟨#[120, 111, 114, 105]⟩ : ByteArray), (⟨#[115, 104, 108, 105]⟩ : ByteArray), (⟨#[115, 104, 114, 105]⟩ : ByteArray), (⟨#[108, 101, 97]⟩ : ByteArray)] : List ByteArray)) (inner := [.string (⟨#[115, 101, 116]⟩ : ByteArray), .string (⟨#[97, 100, 100, 105]⟩ : ByteArray), .string (⟨#[97, 110, 100, 105]⟩ : ByteArray), .string (⟨#[120, 111, 114, 105]⟩ : ByteArray), .string (⟨#[115, 104, 108, 105]⟩ : ByteArray), .string (⟨#[115, 104, 114, 105]⟩ : ByteArray), .string (⟨#[108, 101, 97]⟩ : ByteArray)]) (ok := fun _ => True) (okp := fun _ => True) ?hr ?hp (fun _ hk => hk) trivial (Below.refl _ _) (zlr _) (by simp) ?_; (case hd => rfl); (case hg => rfl); (case hr => go_simp <;> rfl); (case hp => exact (zam (show Kd.M Kd.string _ _ _ (⟨#[115, 101, 116]⟩ : ByteArray) [.string (⟨#[115, 101, 116]⟩ : ByteArray)] from rfl) (zam (show Kd.M Kd.string _ _ _ (⟨#[97, 100, 100, 105]⟩ : ByteArray) [.string (⟨#[97, 100, 100, 105]⟩ : ByteArray)] from rfl) (zam (show Kd.M Kd.string _ _ _ (⟨#[97, 110, 100, 105]⟩ : ByteArray) [.string (⟨#[97, 110, 100, 105]⟩ : ByteArray)] from rfl) (zam (show Kd.M Kd.string _ _ _ (⟨#[120, 111, 114, 105]⟩ : ByteArray) [.string (⟨#[120, 111, 114, 105]⟩ : ByteArray)] from rfl) (zam (show Kd.M Kd.string _ _ _ (⟨#[115, 104, 108, 105]⟩ : ByteArray) [.string (⟨#[115, 104, 108, 105]⟩ : ByteArray)] from rfl) (zam (show Kd.M Kd.string _ _ _ (⟨#[115, 104, 114, 105]⟩ : ByteArray) [.string (⟨#[115, 104, 114, 105]⟩ : ByteArray)] from rfl) (zam (show Kd.M Kd.string _ _ _ (⟨#[108, 101, 97]⟩ : ByteArray) [.string (⟨#[108, 101, 97]⟩ : ByteArray)] from rfl) (Reps.none _ _))))))))); intro v102 w3 ho4 hb hg_ hnew_; clear hg_ hnew_; (first | rw [← Ny101.out] at ho4 | (simp only [Int.reduceToNat] at ho4; rw [← Ny101.out] at ho4)); have HO103 := zA (Kd.R_lower ho4 (zaj zq1)); replace HB := zA (zab zq1 hb); clear hb ho4; obtain ⟨Ao5, co5, eo5⟩ := Kd.R_slice HO103.out; subst eo5) | ((with_reducible refine zgc 170 ?_); refine zca 5 Tryz.func170 #[.slice Ao5 y101.length co5, .string a0] (zsp k _ _ y101 a0 t104 _ (zq19 HO103) (zq48 HO103) A2.out) ?_; rintro e w' ⟨rfl, ⟨nd, rfl⟩⟩; refine ⟨_, rfl, ?_⟩))
 exact zr_2
def zi4 (s0_0 : List Int) (s0_1 : Int) (s0_2 : Int) (l1 : List ByteArray) : Option (ByteArray × Int × Int) := (zbu s0_0 s0_1 s0_2 (l1.length : Int)).bind fun bt101 => (if 0 ≤ bt101.1 then (if bt101.1 < (l1.length : Int) then (some (rdOf ByteArray.empty l1 bt101.1, bt101.2.1, bt101.2.2)) else (none)) else (none))
theorem znn (g : Nat) (s0_0 : List Int) (s0_1 : Int) (s0_2 : Int) (A1 : Option Addr) (c1 : Nat) (l1 : List ByteArray) (r1 : ByteArray) (r2 : Int) (r3 : Int) (w0 w : World) (hI : IsS63 w0 w g s0_0 s0_1 s0_2) (hB : Below w0.heap.size w0 w) (hr1 : Kd.C Kd.string w A1 l1.length l1) (hc1 : l1.length ≤ c1) (hf1 : ∀ ad, A1 = some ad → 0 < l1.length → ad.block ≠ g) (h : zi4 s0_0 s0_1 s0_2 l1 = some (r1, r2, r3)) :
   Calls Tryz.prog 153 #[.pointer (some ⟨g, 0, none⟩), .slice A1 l1.length c1] w fun e w' => e = .returned (.string r1) ∧ IsS63 w0 w' g s0_0 r2 r3 ∧ Below w0.heap.size w0 w' ∧ KeepBut w w' g none := by
 have HR1 := zA hr1
 have HC1 := zA hc1
 clear hr1 hc1
 have HI0 := zA hI
 have HK := zA (KeepBut.refl w g none)
 have HL := zA hB.size
 clear hI
 have HW0 := zA hB.size
 have HB := zA hB
 clear hB
 have H := h
 unfold zi4 at H
 clear h
 replace H := zob H
 obtain ⟨⟨t101, t102, t103⟩, A30, H⟩ := H
 have A3 := zA A30
 clear A30
 revert H
 refine zin fun c4 H => ?_
 revert H
 refine zin fun c5 H => ?_
 simp only [Option.some.injEq, Prod.mk.injEq] at H
 obtain ⟨rfl, rfl, rfl⟩ := H
 go_enter Tryz.func153, Tryz.ntmps153
 go_wp2_with (first | ((with_reducible refine zgc 98 ?_); refine zca 9 Tryz.func98 #[.pointer (some ⟨g, 0, none⟩), .int .i64 (l1.length : Int)] (za8 g s0_0 s0_1 s0_2 (l1.length : Int) t101 t102 t103 w0 _ (zq4 HI0) (zq6 HI0) A3.out) ?_; rintro e w6 ⟨rfl, hi, hb, hk⟩; refine ⟨_, rfl, ?_⟩; replace HK := zA (KeepBut.trans zq3 hk (.inl rfl)); replace HB := zA (hb); replace HI0 := zA (hi); (try clear hb); (try clear hk); (try clear hi); have p104 : 0 ≤ (t101 : Int) := zde zq20; have q104 : t101 < (l1.length : Int) := zde zq20; obtain ⟨ad104, e104, hx104_0⟩ := Kd.at_string HR1.out t101 p104 q104; cases e104; replace hx104_0 := zxe HK.out hx104_0 (by first | (rw [zbl]; exact hf1 _ rfl (by omega)) | exact hf1 _ rfl (by omega) | exact hf1 ad104 rfl (by omega)); replace p104 := eq_true p104; replace q104 := eq_true q104))
 exact zr_3
def ze9 (s0_0 : List Int) (s0_1 : Int) (s0_2 : Int) (a1 : Int) : Option (Bool × Int × Int) := (zbu s0_0 s0_1 s0_2 a1).bind fun bt101 => (some ((bt101.1 == 0), bt101.2.1, bt101.2.2))
theorem zes (g : Nat) (s0_0 : List Int) (s0_1 : Int) (s0_2 : Int) (a1 : Int) (r1 : Bool) (r2 : Int) (r3 : Int) (w0 w : World) (hI : IsS63 w0 w g s0_0 s0_1 s0_2) (hB : Below w0.heap.size w0 w) (h : ze9 s0_0 s0_1 s0_2 a1 = some (r1, r2, r3)) :
   Calls Tryz.prog 96 #[.pointer (some ⟨g, 0, none⟩), .int .i64 a1] w fun e w' => e = .returned (.bool r1) ∧ IsS63 w0 w' g s0_0 r2 r3 ∧ Below w0.heap.size w0 w' ∧ KeepBut w w' g none := by
 have HI0 := zA hI
 have HK := zA (KeepBut.refl w g none)
 have HL := zA hB.size
 clear hI
 have HW0 := zA hB.size
 have HB := zA hB
 clear hB
 have H := h
 unfold ze9 at H
 clear h
 replace H := zob H
 obtain ⟨⟨t101, t102, t103⟩, A30, H⟩ := H
 have A3 := zA A30
 clear A30
 simp only [Option.some.injEq, Prod.mk.injEq] at H
 obtain ⟨rfl, rfl, rfl⟩ := H
 go_enter Tryz.func96, Tryz.ntmps96
 go_wp2_with (first | ((with_reducible refine zgc 98 ?_); refine zca 7 Tryz.func98 #[.pointer (some ⟨g, 0, none⟩), .int .i64 a1] (za8 g s0_0 s0_1 s0_2 a1 t101 t102 t103 w0 _ (zq4 HI0) (zq6 HI0) A3.out) ?_; rintro e w4 ⟨rfl, hi, hb, hk⟩; refine ⟨_, rfl, ?_⟩; replace HK := zA (KeepBut.trans zq3 hk (.inl rfl)); replace HB := zA (hb); replace HI0 := zA (hi); (try clear hb); (try clear hk); (try clear hi)))
 exact zr_3
def zi5 (s0_0 : List Int) (s0_1 : Int) (s0_2 : Int) : Option (Int × Int × Int) := (ze9 s0_0 s0_1 s0_2 2).bind fun bt101 => (if bt101.1 = true then ((zco s0_0 bt101.2.1 bt101.2.2 (([0, 1, 2, 3, 4, 5, 6, 7, 8, 16, 31, 32, 33, 62, 63] : List Int))).bind fun bt107 => (some (bt107.1, bt107.2.1, bt107.2.2))) else ((zbu s0_0 bt101.2.1 bt101.2.2 64).bind fun bt110 => (some (bt110.1, bt110.2.1, bt110.2.2))))
theorem zpp (g : Nat) (s0_0 : List Int) (s0_1 : Int) (s0_2 : Int) (r1 : Int) (r2 : Int) (r3 : Int) (w0 w : World) (hI : IsS63 w0 w g s0_0 s0_1 s0_2) (hB : Below w0.heap.size w0 w) (h : zi5 s0_0 s0_1 s0_2 = some (r1, r2, r3)) :
   Calls Tryz.prog 155 #[.pointer (some ⟨g, 0, none⟩)] w fun e w' => e = .returned (.int .i64 r1) ∧ IsS63 w0 w' g s0_0 r2 r3 ∧ Below w0.heap.size w0 w' ∧ KeepBut w w' g none := by
 have HI0 := zA hI
 have HK := zA (KeepBut.refl w g none)
 have HL := zA hB.size
 clear hI
 have HW0 := zA hB.size
 have HB := zA hB
 clear hB
 have H := h
 unfold zi5 at H
 clear h
 replace H := zob H
 obtain ⟨⟨t101, t102, t103⟩, A20, H⟩ := H
 have A2 := zA A20
 clear A20
 by_cases c3 : t101 = true
 rotate_left
 · replace c3 := zbf c3
   subst c3
   replace H := zif H
   replace H := zob H
   obtain ⟨⟨t110, t111, t112⟩, A100, H⟩ := H
   have A10 := zA A100
   clear A100
   simp only [Option.some.injEq, Prod.mk.injEq] at H
   obtain ⟨rfl, rfl, rfl⟩ := H
   go_enter Tryz.func155, Tryz.ntmps155
   go_wp2_with (first | ((with_reducible refine zgc 96 ?_); refine zca 4 Tryz.func96 #[.pointer (some ⟨g, 0, none⟩), .int .i64 2] (zes g s0_0 s0_1 s0_2 2 false t102 t103 w0 _ (zq4 HI0) (zq6 HI0) A2.out) ?_; rintro e w11 ⟨rfl, hi, hb, hk⟩; refine ⟨_, rfl, ?_⟩; replace HK := zA (KeepBut.trans zq3 hk (.inl rfl)); replace HB := zA (hb); replace HI0 := zA (hi); (try clear hb); (try clear hk); (try clear hi)) | ((with_reducible refine zgc 98 ?_); refine zca 9 Tryz.func98 #[.pointer (some ⟨g, 0, none⟩), .int .i64 64] (za8 g s0_0 t102 t103 64 t110 t111 t112 w0 _ (zq4 HI0) (zq6 HI0) A10.out) ?_; rintro e w12 ⟨rfl, hi, hb, hk⟩; refine ⟨_, rfl, ?_⟩; replace HK := zA (KeepBut.trans zq3 hk (.inl rfl)); replace HB := zA (hb); replace HI0 := zA (hi); (try clear hb); (try clear hk); (try clear hi)))
   exact zr_3
 subst c3
 replace H := zih H
 obtain ⟨y104, hy104⟩ : ∃ y_ : List Int, y_ = (([0, 1, 2, 3, 4, 5, 6, 7, 8, 16, 31, 32, 33, 62, 63] : List Int)) := ⟨_, rfl⟩
 rw [← hy104] at H; try with_reducible replace H := zbs H
 have Ny104 := zA hy104
 clear hy104
 replace H := zob H
 obtain ⟨⟨t107, t108, t109⟩, A40, H⟩ := H
 have A4 := zA A40
 clear A40
 simp only [Option.some.injEq, Prod.mk.injEq] at H
 obtain ⟨rfl, rfl, rfl⟩ := H
 go_enter Tryz.func155, Tryz.ntmps155
 go_wp2_with (first | ((with_reducible refine zgc 96 ?_); refine zca 4 Tryz.func96 #[.pointer (some ⟨g, 0, none⟩), .int .i64 2] (zes g s0_0 s0_1 s0_2 2 true t102 t103 w0 _ (zq4 HI0) (zq6 HI0) A2.out) ?_; rintro e w5 ⟨rfl, hi, hb, hk⟩; refine ⟨_, rfl, ?_⟩; replace HK := zA (KeepBut.trans zq3 hk (.inl rfl)); replace HB := zA (hb); replace HI0 := zA (hi); (try clear hb); (try clear hk); (try clear hi)) | ((with_reducible refine zgd 6 ?_); refine Kd.R_lit (Kd.int .i64) _ 3 ?hg (N := 6) ?hd (xs := ([0, 1, 2, 3, 4, 5, 6, 7, 8, 16, 31, 32, 33, 62, 63] : List Int)) (inner := [.int .i64 0, .int .i64 1, .int .i64 2, .int .i64 3, .int .i64 4, .int .i64 5, .int .i64 6, .int .i64 7, .int .i64 8, .int .i64 16, .int .i64 31, .int .i64 32, .int .i64 33, .int .i64 62, .int .i64 63]) (ok := fun _ => True) (okp := fun _ => True) ?hr ?hp (fun _ hk => hk) trivial (Below.refl _ _) (zlr _) (by simp) ?_; (case hd => rfl); (case hg => rfl); (case hr => go_simp <;> rfl); (case hp => exact (zam (show Kd.M (Kd.int .i64) _ _ _ 0 [.int .i64 0] from rfl) (zam (show Kd.M (Kd.int .i64) _ _ _ 1 [.int .i64 1] from rfl) (zam (show Kd.M (Kd.int .i64) _ _ _ 2 [.int .i64 2] from rfl) (zam (show Kd.M (Kd.int .i64) _ _ _ 3 [.int .i64 3] from rfl) (zam (show Kd.M (Kd.int .i64) _ _ _ 4 [.int .i64 4] from rfl) (zam (show Kd.M (Kd.int .i64) _ _ _ 5 [.int .i64 5] from rfl) (zam (show Kd.M (Kd.int .i64) _ _ _ 6 [.int .i64 6] from rfl) (zam (show Kd.M (Kd.int .i64) _ _ _ 7 [.int .i64 7] from rfl) (zam (show Kd.M (Kd.int .i64) _ _ _ 8 [.int .i64 8] from rfl) (zam (show Kd.M (Kd.int .i64) _ _ _ 16 [.int .i64 16] from rfl) (zam (show Kd.M (Kd.int .i64) _ _ _ 31 [.int .i64 31] from rfl) (zam (show Kd.M (Kd.int .i64) _ _ _ 32 [.int .i64 32] from rfl) (zam (show Kd.M (Kd.int .i64) _ _ _ 33 [.int .i64 33] from rfl) (zam (show Kd.M (Kd.int .i64) _ _ _ 62 [.int .i64 62] from rfl) (zam (show Kd.M (Kd.int .i64) _ _ _ 63 [.int .i64 63] from rfl) (Reps.none _ _))))))))))))))))); intro v105 w6 ho7 hb hg_ hnew_; clear hg_ hnew_; (first | rw [← Ny104.out] at ho7 | (simp only [Int.reduceToNat] at ho7; rw [← Ny104.out] at ho7)); have HO106 := zA (Kd.R_lower ho7 (ze4 (w := w) (g := g) (row := none) zq3)); replace HK := zA (KeepBut.trans zq3 (zcd hb g none) (.inl rfl)); replace HB := zA (zab (zq6 HI0) hb); replace HI0 := zA (IsS63.below (zq4 HI0) hb); clear hb ho7; obtain ⟨Ao8, co8, eo8⟩ := Kd.R_slice HO106.out; subst eo8) | ((with_reducible refine zgc 61 ?_); refine zca 7 Tryz.func61 #[.pointer (some ⟨g, 0, none⟩), .slice Ao8 y104.length co8] (zc0 g s0_0 t102 t103 _ _ y104 t107 t108 t109 w0 _ (zq4 HI0) (zq6 HI0) (zq19 HO106) (zq48 HO106) (zq47 HI0 HO106) A4.out) ?_; rintro e w9 ⟨rfl, hi, hb, hk⟩; refine ⟨_, rfl, ?_⟩; replace HO106 := zA (Kd.R_mono (Kd.R_keep (IsS63.apart (show IsS63 w0 _ g s0_0 t102 t103 from by repeat (first | (with_reducible first | exact HI0.out | apply IsS63.alloc | apply IsS63.drewN | apply IsS63.drew | apply zav | apply zaw) | exact HI0.out)) (zq2 HO106) (by decide)) hk (fun _ h => h.2)) (fun _ h => h.1)); replace HK := zA (KeepBut.trans zq3 hk (.inl rfl)); replace HB := zA (hb); replace HI0 := zA (hi); (try clear hb); (try clear hk); (try clear hi)))
 exact zr_3
mutual
def zc2 : Nat → Int → ByteArray → Bool → Int → Int → List Int → Int → Int → ByteArray → Int → Int → Int → Int → Option (ByteArray × Int × Int × Int × Int × Int × Int)
 | 0, _, _, _, _, _, _, _, _, _, _, _, _, _ => none
 | k + 1, x1, x5, x8, x9, x10, x1000, x1001, x1002, x117000, x117001, x117002, x117003, x117004 => if x8 = true then ((zbu x1000 x1001 x1002 x1).bind fun bt120 => (zcq k x5 x9 x10 x1000 bt120.2.1 bt120.2.2 x117000 x117001 x117002 bt120.1 x117004)) else (zcq k x5 x9 x10 x1000 x1001 x1002 x117000 x117001 x117002 x117003 x117004)
def zcq : Nat → ByteArray → Int → Int → List Int → Int → Int → ByteArray → Int → Int → Int → Int → Option (ByteArray × Int × Int × Int × Int × Int × Int)
 | 0, _, _, _, _, _, _, _, _, _, _, _ => none
 | k + 1, x5, x9, x10, x1000, x1001, x1002, x117000, x117001, x117002, x117003, x117004 => (zi9 k x5).bind fun t123 => (if t123 = true then ((zbu x1000 x1001 x1002 (wrap64 ((wrap64 (x10 - x9)) + 1))).bind fun bt124 => (if x10 = 63 then ((zi5 x1000 bt124.2.1 bt124.2.2).bind fun bt127 => (some (x117000, x117001, x117002, x117003, bt127.1, bt127.2.1, bt127.2.2))) else (some (x117000, x117001, x117002, x117003, wrap64 (x9 + bt124.1), bt124.2.1, bt124.2.2)))) else (some (x117000, x117001, x117002, x117003, x117004, x1001, x1002)))
end
def zeb (k : Nat) (s0_0 : List Int) (s0_1 : Int) (s0_2 : Int) (a1 : Int) : Option (ByteArray × Int × Int × Int × Int × Int × Int) := (zi4 s0_0 s0_1 s0_2 (([(⟨#[115, 101, 116]⟩ : ByteArray), (⟨#[109, 111, 118]⟩ : ByteArray), (⟨#[110, 111, 116]⟩ : ByteArray), (⟨#[110, 101, 103]⟩ : ByteArray), (⟨#[97, 100, 100]⟩ : ByteArray), (⟨#[97, 100, 100]⟩ : ByteArray), (⟨#[115, 117, 98]⟩ : ByteArray), (⟨#[97, 110, 100]⟩ : ByteArray), (⟨#[111, 114]⟩ : ByteArray), (⟨#[120, 111, 114]⟩ : ByteArray), (⟨#[115, 104, 108]⟩ : ByteArray), (⟨#[115, 104, 114]⟩ : ByteArray), (⟨#[108, 101, 115, 115]⟩ : ByteArray), (⟨#[101, 113]⟩ : ByteArray), (⟨#[109, 117, 108]⟩ : ByteArray), (⟨#[97, 100, 100, 105]⟩ : ByteArray), (⟨#[97, 110, 100, 105]⟩ : ByteArray), (⟨#[120, 111, 114, 105]⟩ : ByteArray), (⟨#[115, 104, 108, 105]⟩ : ByteArray), (⟨#[115, 104, 114, 105]⟩ : ByteArray), (⟨#[108, 101, 97]⟩ : ByteArray)] : List ByteArray))).bind fun bt105 => ((ze6 k bt105.1).bind fun bt108 => ((zbu s0_0 bt105.2.1 bt105.2.2 a1).bind fun bt113 => (if bt108.2.1 = true then ((zbu s0_0 bt113.2.1 bt113.2.2 a1).bind fun bt117 => (zc2 k a1 bt105.1 bt108.2.2.1 bt108.2.2.2.1 bt108.2.2.2.2 s0_0 bt117.2.1 bt117.2.2 bt105.1 bt113.1 bt117.1 0 0)) else (zc2 k a1 bt105.1 bt108.2.2.1 bt108.2.2.2.1 bt108.2.2.2.2 s0_0 bt113.2.1 bt113.2.2 bt105.1 bt113.1 0 0 0))))
theorem zlq : ∀ k, (∀ y0 y1 y2 y3 y4 y5 y6 y7 y8 y9 y10 y11 y12, LeO (zc2 k y0 y1 y2 y3 y4 y5 y6 y7 y8 y9 y10 y11 y12) (zc2 (k + 1) y0 y1 y2 y3 y4 y5 y6 y7 y8 y9 y10 y11 y12)) ∧ (∀ y0 y1 y2 y3 y4 y5 y6 y7 y8 y9 y10, LeO (zcq k y0 y1 y2 y3 y4 y5 y6 y7 y8 y9 y10) (zcq (k + 1) y0 y1 y2 y3 y4 y5 y6 y7 y8 y9 y10))
 | 0 => ⟨fun _ _ _ _ _ _ _ _ _ _ _ _ _ r h => by simp [zc2] at h, fun _ _ _ _ _ _ _ _ _ _ _ r h => by simp [zcq] at h⟩
 | k + 1 => by
   obtain ⟨ih0, ih1⟩ := zlq k
   refine ⟨?_, ?_⟩
   · intro y0 y1 y2 y3 y4 y5 y6 y7 y8 y9 y10 y11 y12
     unfold zc2
     exact zm4 ih0 ih1 znl zgx
   · intro y0 y1 y2 y3 y4 y5 y6 y7 y8 y9 y10
     unfold zcq
     exact zm4 ih0 ih1 znl zgx
theorem zhe : ∀ a0 a1 a2 a3 k, LeO (zeb k a0 a1 a2 a3) (zeb (k + 1) a0 a1 a2 a3) := by
 intro a0 a1 a2 a3 k
 obtain ⟨ih0, ih1⟩ := zlq k
 unfold zeb
 exact zm4 ih0 ih1 znl zgx
theorem zjm (k : Nat) (g : Nat) (s0_0 : List Int) (s0_1 : Int) (s0_2 : Int) (a1 : Int) (r1 : ByteArray) (r2 : Int) (r3 : Int) (r4 : Int) (r5 : Int) (r6 : Int) (r7 : Int) (w0 w : World) (hI : IsS63 w0 w g s0_0 s0_1 s0_2) (hB : Below w0.heap.size w0 w) (h : zeb k s0_0 s0_1 s0_2 a1 = some (r1, r2, r3, r4, r5, r6, r7)) :
   Calls Tryz.prog 139 #[.pointer (some ⟨g, 0, none⟩), .int .i64 a1] w fun e w' => e = .returned (.agg #[.string r1, .int .i64 r2, .int .i64 r3, .int .i64 r4, .int .i64 r5]) ∧ IsS63 w0 w' g s0_0 r6 r7 ∧ Below w0.heap.size w0 w' ∧ KeepBut w w' g none := by
 have hu55 := Tryz.underlying55
 have HI0 := zA hI
 have HK := zA (KeepBut.refl w g none)
 have HL := zA hB.size
 clear hI
 have HW0 := zA hB.size
 have HB := zA hB
 clear hB
 have H := h
 unfold zeb at H
 clear h
 obtain ⟨y102, hy102⟩ : ∃ y_ : List ByteArray, y_ = (([(⟨#[115, 101, 116]⟩ : ByteArray), (⟨#[109, 111, 118]⟩ : ByteArray), (⟨#[110, 111, 116]⟩ : ByteArray), (⟨#[110, 101, 103]⟩ : ByteArray), (⟨#[97, 100, 100]⟩ : ByteArray), (⟨#[97, 100, 100]⟩ : ByteArray), (⟨#[115, 117, 98]⟩ : ByteArray), (⟨#[97, 110, 100]⟩ : ByteArray), (⟨#[111, 114]⟩ : ByteArray), (⟨#[120, 111, 114]⟩ : ByteArray), (⟨#[115, 104, 108]⟩ : ByteArray), (⟨#[115, 104, 114]⟩ : ByteArray), (⟨#[108, 101, 115, 115]⟩ : ByteArray), (⟨#[101, 113]⟩ : ByteArray), (⟨#[109, 117, 108]⟩ : ByteArray), (⟨#[97, 100, 100, 105]⟩ : ByteArray), (⟨#[97, 110, 100, 105]⟩ : ByteArray), (⟨#[120, 111, 114, 105]⟩ : ByteArray), (⟨#[115, 104, 108, 105]⟩ : ByteArray), (⟨#[115, 104, 114, 105]⟩ : ByteArray), (⟨#[108, 101, 97]⟩ : ByteArray)] : List ByteArray)) := ⟨_, rfl⟩
 rw [← hy102] at H; try with_reducible replace H := zbs H
 have Ny102 := zA hy102
 clear hy102
 replace H := zob H
 obtain ⟨⟨t105, t106, t107⟩, A30, H⟩ := H
 have A3 := zA A30
 clear A30
 replace H := zob H
 obtain ⟨⟨t108, t109, t110, t111, t112⟩, A40, H⟩ := H
 have A4 := zA A40
 clear A40
 replace H := zob H
 obtain ⟨⟨t113, t114, t115⟩, A50, H⟩ := H
 have A5 := zA A50
 clear A50
 have HC6 := zA H
 clear H
 go_enter Tryz.func139, Tryz.ntmps139
 go_upto_if 28 with (first | ((with_reducible refine zgd 4 ?_); refine zbx #[.string (⟨#[]⟩ : ByteArray), .int .i64 0, .int .i64 0, .int .i64 0, .int .i64 0] 55 ?_; intro gb101 hg w7 hbox hb; replace HB := zA (zab (zq6 HI0) hb); have BK101 := zA (hbox); have GW101 := zA ((zq76 : w.heap.size ≤ gb101)); have GE101 := zA ((Nat.le_trans HW0.out (zq76 : w.heap.size ≤ gb101) : w0.heap.size ≤ gb101)); replace HK := zA (KeepBut.trans zq3 (zcd hb g none) (.inl rfl)); have NB0_101 := zA ((zq71 HI0 : g ≠ gb101)); have NB101_0 := zA ((zq72 HI0 : gb101 ≠ g)); replace HI0 := zA (IsS63.below (zq4 HI0) hb); clear hb hbox hg) | ((with_reducible refine zgd 13 ?_); refine Kd.R_lit Kd.string _ 9 ?hg (N := 13) ?hd (xs := ([(⟨#[115, 101, 116]⟩ : ByteArray), (⟨#[109, 111, 118]⟩ : ByteArray), (⟨#[110, 111, 116]⟩ : ByteArray), (⟨#[110, 101, 103]⟩ : ByteArray), (⟨#[97, 100, 100]⟩ : ByteArray), (⟨#[97, 100, 100]⟩ : ByteArray), (⟨#[115, 117, 98]⟩ : ByteArray), (⟨#[97, 110, 100]⟩ : ByteArray), (⟨#[111, 114]⟩ : ByteArray), (⟨#[120, 111, 114]⟩ : ByteArray), (⟨#[115, 104, 108]⟩ : ByteArray), (⟨#[115, 104, 114]⟩ : ByteArray), (⟨#[108, 101, 115, 115]⟩ : ByteArray), (⟨#[101, 113]⟩ : ByteArray), (⟨#[109, 117, 108]⟩ : ByteArray), (⟨#[97, 100, 100, 105]⟩ : ByteArray), (⟨#[97, 110, 100, 105]⟩ : ByteArray), (⟨#[120, 111, 114, 105]⟩ : ByteArray), (⟨#[115, 104, 108, 105]⟩ : ByteArray), (⟨#[115, 104, 114, 105]⟩ : ByteArray), (⟨#[108, 101, 97]⟩ : ByteArray)] : List ByteArray)) (inner := [.string (⟨#[115, 101, 116]⟩ : ByteArray), .string (⟨#[109, 111, 118]⟩ : ByteArray), .string (⟨#[110, 111, 116]⟩ : ByteArray), .string (⟨#[110, 101, 103]⟩ : ByteArray), .string (⟨#[97, 100, 100]⟩ : ByteArray), .string (⟨#[97, 100, 100]⟩ : ByteArray), .string (⟨#[115, 117, 98]⟩ : ByteArray), .string (⟨#[97, 110, 100]⟩ : ByteArray), .string (⟨#[111, 114]⟩ : ByteArray), .string (⟨#[120, 111, 114]⟩ : ByteArray), .string (⟨#[115, 104, 108]⟩ : ByteArray), .string (⟨#[115, 104, 114]⟩ : ByteArray), .string (⟨#[108, 101, 115, 115]⟩ : ByteArray), .string (⟨#[101, 113]⟩ : ByteArray), .string (⟨#[109, 117, 108]⟩ : ByteArray), .string (⟨#[97, 100, 100, 105]⟩ : ByteArray), .string (⟨#[97, 110, 100, 105]⟩ : ByteArray), .string (⟨#[120, 111, 114, 105]⟩ : ByteArray), .string (⟨#[115, 104, 108, 105]⟩ : ByteArray), .string (⟨#[115, 104, 114, 105]⟩ : ByteArray), .string (⟨#[108, 101, 97]⟩ : ByteArray)]) (ok := fun _ => True) (okp := fun _ => True) ?hr ?hp (fun _ hk => hk) trivial (Below.refl _ _) (zlr _) (by simp) ?_; (case hd => rfl); (case hg => rfl); (case hr => go_simp <;> rfl); (case hp => exact (zam (show Kd.M Kd.string _ _ _ (⟨#[115, 101, 116]⟩ : ByteArray) [.string (⟨#[115, 101, 116]⟩ : ByteArray)] from rfl) (zam (show Kd.M Kd.string _ _ _ (⟨#[109, 111, 118]⟩ : ByteArray) [.string (⟨#[109, 111, 118]⟩ : ByteArray)] from rfl) (zam (show Kd.M Kd.string _ _ _ (⟨#[110, 111, 116]⟩ : ByteArray) [.string (⟨#[110, 111, 116]⟩ : ByteArray)] from rfl) (zam (show Kd.M Kd.string _ _ _ (⟨#[110, 101, 103]⟩ : ByteArray) [.string (⟨#[110, 101, 103]⟩ : ByteArray)] from rfl) (zam (show Kd.M Kd.string _ _ _ (⟨#[97, 100, 100]⟩ : ByteArray) [.string (⟨#[97, 100, 100]⟩ : ByteArray)] from rfl) (zam (show Kd.M Kd.string _ _ _ (⟨#[97, 100, 100]⟩ : ByteArray) [.string (⟨#[97, 100, 100]⟩ : ByteArray)] from rfl) (zam (show Kd.M Kd.string _ _ _ (⟨#[115, 117, 98]⟩ : ByteArray) [.string (⟨#[115, 117, 98]⟩ : ByteArray)] from rfl) (zam (show Kd.M Kd.string _ _ _ (⟨#[97, 110, 100]⟩ : ByteArray) [.string (⟨#[97, 110, 100]⟩ : ByteArray)] from rfl) (zam (show Kd.M Kd.string _ _ _ (⟨#[111, 114]⟩ : ByteArray) [.string (⟨#[111, 114]⟩ : ByteArray)] from rfl) (zam (show Kd.M Kd.string _ _ _ (⟨#[120, 111, 114]⟩ : ByteArray) [.string (⟨#[120, 111, 114]⟩ : ByteArray)] from rfl) (zam (show Kd.M Kd.string _ _ _ (⟨#[115, 104, 108]⟩ : ByteArray) [.string (⟨#[115, 104, 108]⟩ : ByteArray)] from rfl) (zam (show Kd.M Kd.string _ _ _ (⟨#[115, 104, 114]⟩ : ByteArray) [.string (⟨#[115, 104, 114]⟩ : ByteArray)] from rfl) (zam (show Kd.M Kd.string _ _ _ (⟨#[108, 101, 115, 115]⟩ : ByteArray) [.string (⟨#[108, 101, 115, 115]⟩ : ByteArray)] from rfl) (zam (show Kd.M Kd.string _ _ _ (⟨#[101, 113]⟩ : ByteArray) [.string (⟨#[101, 113]⟩ : ByteArray)] from rfl) (zam (show Kd.M Kd.string _ _ _ (⟨#[109, 117, 108]⟩ : ByteArray) [.string (⟨#[109, 117, 108]⟩ : ByteArray)] from rfl) (zam (show Kd.M Kd.string _ _ _ (⟨#[97, 100, 100, 105]⟩ : ByteArray) [.string (⟨#[97, 100, 100, 105]⟩ : ByteArray)] from rfl) (zam (show Kd.M Kd.string _ _ _ (⟨#[97, 110, 100, 105]⟩ : ByteArray) [.string (⟨#[97, 110, 100, 105]⟩ : ByteArray)] from rfl) (zam (show Kd.M Kd.string _ _ _ (⟨#[120, 111, 114, 105]⟩ : ByteArray) [.string (⟨#[120, 111, 114, 105]⟩ : ByteArray)] from rfl) (zam (show Kd.M Kd.string _ _ _ (⟨#[115, 104, 108, 105]⟩ : ByteArray) [.string (⟨#[115, 104, 108, 105]⟩ : ByteArray)] from rfl) (zam (show Kd.M Kd.string _ _ _ (⟨#[115, 104, 114, 105]⟩ : ByteArray) [.string (⟨#[115, 104, 114, 105]⟩ : ByteArray)] from rfl) (zam (show Kd.M Kd.string _ _ _ (⟨#[108, 101, 97]⟩ : ByteArray) [.string (⟨#[108, 101, 97]⟩ : ByteArray)] from rfl) (Reps.none _ _))))))))))))))))))))))); intro v103 w8 ho9 hb hg_ hnew_; clear hg_ hnew_; (first | rw [← Ny102.out] at ho9 | (simp only [Int.reduceToNat] at ho9; rw [← Ny102.out] at ho9)); have HO104 := zA (Kd.R_lower ho9 (ze4 (w := w) (g := g) (row := none) (zq24 GW101))); replace BK101 := zbb BK101 hb; replace HK := zA (KeepBut.trans (zq24 GW101) (zcd hb g none) (.inl rfl)); replace HB := zA (zab (zq36 HI0 GE101) hb); replace HI0 := zA (IsS63.below (zq32 HI0 NB0_101) hb); clear hb ho9; obtain ⟨Ao10, co10, eo10⟩ := Kd.R_slice HO104.out; subst eo10) | ((with_reducible refine zgc 153 ?_); refine zca 14 Tryz.func153 #[.pointer (some ⟨g, 0, none⟩), .slice Ao10 y102.length co10] (znn g s0_0 s0_1 s0_2 _ _ y102 t105 t106 t107 w0 _ (zq32 HI0 NB0_101) (zq36 HI0 GE101) (zq19 HO104) (zq48 HO104) (zq47 HI0 HO104) A3.out) ?_; rintro e w11 ⟨rfl, hi, hb, hk⟩; refine ⟨_, rfl, ?_⟩; replace BK101 := zA (KeepBut.blk hk (g' := gb101) (o := .cells #[.string (⟨#[]⟩ : ByteArray), .int .i64 0, .int .i64 0, .int .i64 0, .int .i64 0] 55 (0, 0)) (zq8 BK101) NB101_0.out (by simp)); replace HO104 := zA (Kd.R_mono (Kd.R_keep (IsS63.apart (show IsS63 w0 _ g s0_0 s0_1 s0_2 from by repeat (first | (with_reducible first | exact HI0.out | apply IsS63.alloc | apply IsS63.drewN | apply IsS63.drew | apply zav | apply zaw | refine zfn ?_ NB0_101.out _) | exact HI0.out)) (zq2 HO104) (by decide)) hk (fun _ h => h.2)) (fun _ h => h.1)); replace HK := zA (KeepBut.trans (zq24 GW101) hk (.inl rfl)); replace HB := zA (hb); replace HI0 := zA (hi); (try clear hb); (try clear hk); (try clear hi)) | ((with_reducible refine zgc 148 ?_); refine zcl 17 Tryz.func148 (zce k t105 t108 t109 t110 t111 t112 _ A4.out) ?_; rintro e w' ⟨rfl, ⟨nd, rfl⟩⟩; refine ⟨_, rfl, ?_⟩; (try (rw [zg2 w11]; generalize hq_ : World.drewN w11 _ = w11; have n0_ : Aside0 (Kd.R Kd.string 9 w11 w.heap.size (fun _ => True) (.slice Ao10 y102.length co10) y102) := ⟨by rw [← hq_]; exact (zq2 HO104)⟩; have n1_ : Aside0 (w11.heap[gb101]? = some (.cells #[.string (⟨#[]⟩ : ByteArray), .int .i64 0, .int .i64 0, .int .i64 0, .int .i64 0] 55 (0, 0))) := ⟨by rw [← hq_]; exact (zq8 BK101)⟩; have n2_ : Aside0 (IsS63 w0 w11 g s0_0 t106 t107) := ⟨by rw [← hq_]; exact (zq32 HI0 NB0_101)⟩; have n3_ : Aside0 (KeepBut w w11 g none) := ⟨by rw [← hq_]; exact (zq24 GW101)⟩; have n4_ : Aside0 (Below w0.heap.size w0 w11) := ⟨by rw [← hq_]; exact (zq36 HI0 GE101)⟩; clear HO104 BK101 HI0 HK HB hq_; have HO104 := n0_; have BK101 := n1_; have HI0 := n2_; have HK := n3_; have HB := n4_; clear n0_ n1_ n2_ n3_ n4_))) | ((with_reducible refine zgc 98 ?_); refine zca 26 Tryz.func98 #[.pointer (some ⟨g, 0, none⟩), .int .i64 a1] (za8 g s0_0 t106 t107 a1 t113 t114 t115 w0 _ (zq32 HI0 NB0_101) (zq36 HI0 GE101) A5.out) ?_; rintro e w12 ⟨rfl, hi, hb, hk⟩; refine ⟨_, rfl, ?_⟩; replace BK101 := zA (KeepBut.blk hk (g' := gb101) (o := .cells #[.string (⟨#[]⟩ : ByteArray), .int .i64 0, .int .i64 0, .int .i64 0, .int .i64 0] 55 (0, 0)) (zq8 BK101) NB101_0.out (by simp)); replace HO104 := zA (Kd.R_mono (Kd.R_keep (IsS63.apart (show IsS63 w0 _ g s0_0 t106 t107 from by repeat (first | (with_reducible first | exact HI0.out | apply IsS63.alloc | apply IsS63.drewN | apply IsS63.drew | apply zav | apply zaw | refine zfn ?_ NB0_101.out _) | exact HI0.out)) (zq2 HO104) (by decide)) hk (fun _ h => h.2)) (fun _ h => h.1)); replace HK := zA (KeepBut.trans (zq24 GW101) hk (.inl rfl)); replace HB := zA (hb); replace HI0 := zA (hi); (try clear hb); (try clear hk); (try clear hi)) | ((with_reducible refine zgd 11 ?_); refine zbx #[.string (⟨#[]⟩ : ByteArray), .int .i64 0, .int .i64 0, .int .i64 0, .int .i64 0] 55 ?_; intro gb116 hg w13 hbox hb; replace HO104 := zA (zRb (zq2 HO104) hb); replace HB := zA (zab (zq36 HI0 GE101) hb); have BK116 := zA (hbox); have GW116 := zA ((zq69 : w.heap.size ≤ gb116)); have GE116 := zA ((Nat.le_trans HW0.out (zq69 : w.heap.size ≤ gb116) : w0.heap.size ≤ gb116)); replace HK := zA (KeepBut.trans (zq24 GW101) (zcd hb g none) (.inl rfl)); have NB101_116 := zA ((zq35 BK101 : gb101 ≠ gb116)); replace BK101 := zbb BK101 hb; have NB116_101 := zA (Ne.symm NB101_116.out); have NB0_116 := zA ((by rw [hg]; exact Nat.ne_of_lt (zp7 (show IsS63 w0 _ g s0_0 t114 t115 from by repeat (first | (with_reducible first | exact HI0.out | apply IsS63.alloc | apply IsS63.drewN | apply IsS63.drew | apply zav | apply zaw | refine zfn ?_ NB0_101.out _) | exact HI0.out))) : g ≠ gb116)); have NB116_0 := zA ((by rw [hg]; exact Nat.ne_of_gt (zp7 (show IsS63 w0 _ g s0_0 t114 t115 from by repeat (first | (with_reducible first | exact HI0.out | apply IsS63.alloc | apply IsS63.drewN | apply IsS63.drew | apply zav | apply zaw | refine zfn ?_ NB0_101.out _) | exact HI0.out))) : gb116 ≠ g)); replace HI0 := zA (IsS63.below (zq32 HI0 NB0_101) hb); clear hb hbox hg; have hnb14 := NB116_101.out; have hnc14 := NB101_116.out; have hnb15 := NB116_0.out; have hnc15 := NB0_116.out; obtain ⟨hcz16_0, hcz16_1, hcz16_2, hcz16_3, hcz16_4, hfz16_0, hfz16_1, hfz16_2, hfz16_3, hfz16_4⟩ := zd5 BK116))
 (try simp only [Act.put, List.setIfInBounds_toArray, List.set_cons_zero, List.set_cons_succ])
 go_cut [] (fun wc => ∃ (kq : Nat) (x1001_5 : Int) (x1002_5 : Int) (x117002_5 : Int), Aside0 (zc2 kq a1 t105 t110 t111 t112 s0_0 x1001_5 x1002_5 t105 t113 x117002_5 0 0 = some (r1, r2, r3, r4, r5, r6, r7)) ∧ Aside0 (kq ≤ k) ∧ Aside0 (wc.heap[gb101]? = some (.cells #[.string (⟨#[]⟩ : ByteArray), .int .i64 0, .int .i64 0, .int .i64 0, .int .i64 0] 55 (0, 0))) ∧ Aside0 (wc.heap[gb116]? = some (.cells #[.string t105, .int .i64 t113, .int .i64 x117002_5, .int .i64 0, .int .i64 0] 55 (0, 0))) ∧ Aside0 (IsS63 w0 wc g s0_0 x1001_5 x1002_5) ∧ Aside0 (KeepBut w wc g none) ∧ Aside0 (Below w0.heap.size w0 wc))
 case first =>
   have H := HC6.out
   clear HC6
   by_cases c17 : t109 = true
   rotate_left
   · replace c17 := zbf c17
     subst c17
     replace H := zif H
     have H' := zA H
     clear H
     go_wp2
     go_meet
     case rel => exact ⟨_, (t114), (t115), (0), H', ⟨zq42⟩, ⟨zq23 NB101_116 BK101⟩, ⟨zq34 BK116⟩, ⟨zq12 HI0 NB0_101 NB0_116⟩, ⟨zq11 GW101 GW116⟩, ⟨zq14 HI0 GE101 GE116⟩⟩
   subst c17
   replace H := zih H
   replace H := zob H
   obtain ⟨⟨t117, t118, t119⟩, A180, H⟩ := H
   have A18 := zA A180
   clear A180
   have H' := zA H
   clear H
   go_wp2_with (first | ((with_reducible refine zgc 98 ?_); refine zca 31 Tryz.func98 #[.pointer (some ⟨g, 0, none⟩), .int .i64 a1] (za8 g s0_0 t114 t115 a1 t117 t118 t119 w0 _ (zq12 HI0 NB0_101 NB0_116) (zq14 HI0 GE101 GE116) A18.out) ?_; rintro e w19 ⟨rfl, hi, hb, hk⟩; refine ⟨_, rfl, ?_⟩; replace BK101 := zA (KeepBut.blk hk (g' := gb101) (o := .cells #[.string (⟨#[]⟩ : ByteArray), .int .i64 0, .int .i64 0, .int .i64 0, .int .i64 0] 55 (0, 0)) (zq23 NB101_116 BK101) NB101_0.out (by simp)); replace HO104 := zA (Kd.R_mono (Kd.R_keep (IsS63.apart (show IsS63 w0 _ g s0_0 t114 t115 from by repeat (first | (with_reducible first | exact HI0.out | apply IsS63.alloc | apply IsS63.drewN | apply IsS63.drew | apply zav | apply zaw | refine zfn ?_ NB0_101.out _ | refine zfn ?_ NB0_116.out _) | exact HI0.out)) (by (with_reducible repeat (first | apply zRa | apply zRn | apply zRd)); exact (Kd.R_mono (Kd.R_far (p := ⟨gb116, 4, none⟩) (Kd.R_far (p := ⟨gb116, 3, none⟩) (Kd.R_far (p := ⟨gb116, 2, none⟩) (Kd.R_far (p := ⟨gb116, 1, none⟩) (Kd.R_far (p := ⟨gb116, 0, none⟩) (Kd.R_types HO104.out BK116.out (by decide)) (fun _ hk => hk.2) (.string t105)) (fun _ hk => hk.2) (.int .i64 t113)) (fun _ hk => hk.2) (.int .i64 0)) (fun _ hk => hk.2) (.int .i64 0)) (fun _ hk => hk.2) (.int .i64 0)) (fun _ h_ => h_.1))) (by decide)) hk (fun _ h => h.2)) (fun _ h => h.1)); replace BK116 := zA (KeepBut.blk hk (g' := gb116) (o := .cells #[.string t105, .int .i64 t113, .int .i64 0, .int .i64 0, .int .i64 0] 55 (0, 0)) (zq34 BK116) NB116_0.out (by simp)); replace HK := zA (KeepBut.trans (zq11 GW101 GW116) hk (.inl rfl)); replace HB := zA (hb); replace HI0 := zA (hi); (try clear hb); (try clear hk); (try clear hi); have hnb20 := NB116_101.out; have hnc20 := NB101_116.out; have hnb21 := NB116_0.out; have hnc21 := NB0_116.out; obtain ⟨hcz22_0, hcz22_1, hcz22_2, hcz22_3, hcz22_4⟩ := zc5 w19 (.string t105) (.int .i64 t113) (.int .i64 0) (.int .i64 0) (.int .i64 0) BK116.out; obtain ⟨hfz22_0, hfz22_1, hfz22_2, hfz22_3, hfz22_4⟩ := zf5 BK116.out))
   go_meet
   case rel => exact ⟨_, (t118), (t119), (t117), H', ⟨zq42⟩, ⟨zq55 NB101_116 BK101⟩, ⟨by (with_reducible repeat (first | refine zkn ?_ _ | refine zkd ?_ | refine zka ?_ _)); refine za3 (cs := #[.string t105, .int .i64 t113, .int .i64 0, .int .i64 0, .int .i64 0]) ?_ 2 _ rfl; (with_reducible repeat (first | refine zkn ?_ _ | refine zkd ?_ | refine zka ?_ _)); exact BK116.out⟩, ⟨zq12 HI0 NB0_101 NB0_116⟩, ⟨zq11 GW101 GW116⟩, ⟨zq14 HI0 GE101 GE116⟩⟩
 clear HC6
 obtain ⟨kq, x1001_5, x1002_5, x117002_5, HA, HJ5, BK101, BK116, HI0, HK, HB⟩ := hcut
 cases kq with
 | zero => exact absurd HA.out (by simp [zc2])
 | succ kj5 =>
 have H := HA.out
 clear HA
 simp only [zc2] at H
 have HC23 := zA H
 clear H
 go_upto_if 33 with (fail)
 go_cut [] (fun wc => ∃ (kq : Nat) (x1001_22 : Int) (x1002_22 : Int) (x117003_22 : Int), Aside0 (zcq kq t105 t111 t112 s0_0 x1001_22 x1002_22 t105 t113 x117002_5 x117003_22 0 = some (r1, r2, r3, r4, r5, r6, r7)) ∧ Aside0 (kq ≤ kj5) ∧ Aside0 (wc.heap[gb101]? = some (.cells #[.string (⟨#[]⟩ : ByteArray), .int .i64 0, .int .i64 0, .int .i64 0, .int .i64 0] 55 (0, 0))) ∧ Aside0 (wc.heap[gb116]? = some (.cells #[.string t105, .int .i64 t113, .int .i64 x117002_5, .int .i64 x117003_22, .int .i64 0] 55 (0, 0))) ∧ Aside0 (IsS63 w0 wc g s0_0 x1001_22 x1002_22) ∧ Aside0 (KeepBut w wc g none) ∧ Aside0 (Below w0.heap.size w0 wc))
 case first =>
   have H := HC23.out
   clear HC23
   by_cases c24 : t110 = true
   rotate_left
   · replace c24 := zbf c24
     subst c24
     replace H := zif H
     have H' := zA H
     clear H
     go_wp2
     go_meet
     case rel => exact ⟨_, (x1001_5), (x1002_5), (0), H', ⟨zq45 HJ5⟩, ⟨zq8 BK101⟩, ⟨zq8 BK116⟩, ⟨zq12 HI0 NB0_101 NB0_116⟩, ⟨zq11 GW101 GW116⟩, ⟨zq14 HI0 GE101 GE116⟩⟩
   subst c24
   replace H := zih H
   replace H := zob H
   obtain ⟨⟨t120, t121, t122⟩, A250, H⟩ := H
   have A25 := zA A250
   clear A250
   have H' := zA H
   clear H
   go_wp2_with (first | ((with_reducible refine zgc 98 ?_); refine zca 36 Tryz.func98 #[.pointer (some ⟨g, 0, none⟩), .int .i64 a1] (za8 g s0_0 x1001_5 x1002_5 a1 t120 t121 t122 w0 _ (zq12 HI0 NB0_101 NB0_116) (zq14 HI0 GE101 GE116) A25.out) ?_; rintro e w26 ⟨rfl, hi, hb, hk⟩; refine ⟨_, rfl, ?_⟩; replace BK101 := zA (KeepBut.blk hk (g' := gb101) (o := .cells #[.string (⟨#[]⟩ : ByteArray), .int .i64 0, .int .i64 0, .int .i64 0, .int .i64 0] 55 (0, 0)) (zq8 BK101) NB101_0.out (by simp)); replace BK116 := zA (KeepBut.blk hk (g' := gb116) (o := .cells #[.string t105, .int .i64 t113, .int .i64 x117002_5, .int .i64 0, .int .i64 0] 55 (0, 0)) (zq8 BK116) NB116_0.out (by simp)); replace HK := zA (KeepBut.trans (zq11 GW101 GW116) hk (.inl rfl)); replace HB := zA (hb); replace HI0 := zA (hi); (try clear hb); (try clear hk); (try clear hi); have hnb27 := NB116_101.out; have hnc27 := NB101_116.out; have hnb28 := NB116_0.out; have hnc28 := NB0_116.out; obtain ⟨hcz29_0, hcz29_1, hcz29_2, hcz29_3, hcz29_4⟩ := zc5 w26 (.string t105) (.int .i64 t113) (.int .i64 x117002_5) (.int .i64 0) (.int .i64 0) BK116.out; obtain ⟨hfz29_0, hfz29_1, hfz29_2, hfz29_3, hfz29_4⟩ := zf5 BK116.out))
   go_meet
   case rel => exact ⟨_, (t121), (t122), (t120), H', ⟨zq45 HJ5⟩, ⟨zq55 NB101_116 BK101⟩, ⟨by (with_reducible repeat (first | refine zkn ?_ _ | refine zkd ?_ | refine zka ?_ _)); refine za3 (cs := #[.string t105, .int .i64 t113, .int .i64 x117002_5, .int .i64 0, .int .i64 0]) ?_ 3 _ rfl; (with_reducible repeat (first | refine zkn ?_ _ | refine zkd ?_ | refine zka ?_ _)); exact BK116.out⟩, ⟨zq12 HI0 NB0_101 NB0_116⟩, ⟨zq11 GW101 GW116⟩, ⟨zq14 HI0 GE101 GE116⟩⟩
 clear HC23
 obtain ⟨kq, x1001_22, x1002_22, x117003_22, HA, HJ22, BK101, BK116, HI0, HK, HB⟩ := hcut
 cases kq with
 | zero => exact absurd HA.out (by simp [zcq])
 | succ kj22 =>
 have H := HA.out
 clear HA
 simp only [zcq] at H
 replace H := zob H
 obtain ⟨t123, A300, H⟩ := H
 have A30 := zA A300
 clear A300
 by_cases c31 : t123 = true
 rotate_left
 · replace c31 := zbf c31
   subst c31
   replace H := zif H
   simp only [Option.some.injEq, Prod.mk.injEq] at H
   obtain ⟨rfl, rfl, rfl, rfl, rfl, rfl, rfl⟩ := H
   go_wp2_with (first | ((with_reducible refine zgc 154 ?_); refine zcl 39 Tryz.func154 (zmo kj22 t105 false _ A30.out) ?_; rintro e w51 ⟨rfl, hb⟩; refine ⟨_, rfl, ?_⟩; replace BK101 := zbb BK101 hb; replace BK116 := zbb BK116 hb; replace HK := zA (KeepBut.trans (zq11 GW101 GW116) (zcd hb g none) (.inl rfl)); replace HB := zA (zab (zq14 HI0 GE101 GE116) hb); replace HI0 := zA (IsS63.below (zq12 HI0 NB0_101 NB0_116) hb); (try clear hb); have hnb52 := NB116_101.out; have hnc52 := NB101_116.out; have hnb53 := NB116_0.out; have hnc53 := NB0_116.out; obtain ⟨hcz54_0, hcz54_1, hcz54_2, hcz54_3, hcz54_4⟩ := zc5 w51 (.string t105) (.int .i64 t113) (.int .i64 x117002_5) (.int .i64 x117003_22) (.int .i64 0) BK116.out; obtain ⟨hfz54_0, hfz54_1, hfz54_2, hfz54_3, hfz54_4⟩ := zf5 BK116.out; have hnb55 := NB101_0.out; have hnc55 := NB0_101.out; obtain ⟨hcz56_0, hcz56_1, hcz56_2, hcz56_3, hcz56_4⟩ := zc5 w51 (.string (⟨#[]⟩ : ByteArray)) (.int .i64 0) (.int .i64 0) (.int .i64 0) (.int .i64 0) BK101.out; obtain ⟨hfz56_0, hfz56_1, hfz56_2, hfz56_3, hfz56_4⟩ := zf5 BK101.out))
   refine bodyPost_ret (results_cell_row rfl _ _ gb101 55 #[.string t105, .int .i64 t113, .int .i64 x117002_5, .int .i64 x117003_22, .int .i64 0] (0, 0) _ rfl (by (with_reducible repeat (first | refine zkn ?_ _ | refine zkd ?_ | refine zka ?_ _)); refine za3 (cs := #[.string t105, .int .i64 t113, .int .i64 x117002_5, .int .i64 x117003_22, .int .i64 0]) ?_ 4 _ rfl; (with_reducible repeat (first | refine zkn ?_ _ | refine zkd ?_ | refine zka ?_ _)); refine za3 (cs := #[.string t105, .int .i64 t113, .int .i64 x117002_5, .int .i64 0, .int .i64 0]) ?_ 3 _ rfl; (with_reducible repeat (first | refine zkn ?_ _ | refine zkd ?_ | refine zka ?_ _)); refine za3 (cs := #[.string t105, .int .i64 t113, .int .i64 0, .int .i64 0, .int .i64 0]) ?_ 2 _ rfl; (with_reducible repeat (first | refine zkn ?_ _ | refine zkd ?_ | refine zka ?_ _)); refine za3 (cs := #[.string t105, .int .i64 0, .int .i64 0, .int .i64 0, .int .i64 0]) ?_ 1 _ rfl; (with_reducible repeat (first | refine zkn ?_ _ | refine zkd ?_ | refine zka ?_ _)); refine za3 (cs := #[.string (⟨#[]⟩ : ByteArray), .int .i64 0, .int .i64 0, .int .i64 0, .int .i64 0]) ?_ 0 _ rfl; (with_reducible repeat (first | refine zkn ?_ _ | refine zkd ?_ | refine zka ?_ _)); exact BK101.out) Tryz.underlying55 rfl zq27) rfl ?_
   exact ⟨zq5, zq12 HI0 NB0_101 NB0_116, zq14 HI0 GE101 GE116, zq11 GW101 GW116⟩
 subst c31
 replace H := zih H
 replace H := zob H
 obtain ⟨⟨t124, t125, t126⟩, A320, H⟩ := H
 have A32 := zA A320
 clear A320
 by_cases c33 : t112 = 63
 rotate_left
 · rw [if_neg c33] at H
   obtain ⟨c33b0, c33b1⟩ := zbq c33
   simp only [Option.some.injEq, Prod.mk.injEq] at H
   obtain ⟨rfl, rfl, rfl, rfl, rfl, rfl, rfl⟩ := H
   go_wp2_with (first | ((with_reducible refine zgc 154 ?_); refine zcl 39 Tryz.func154 (zmo kj22 t105 true _ A30.out) ?_; rintro e w44 ⟨rfl, hb⟩; refine ⟨_, rfl, ?_⟩; replace BK101 := zbb BK101 hb; replace BK116 := zbb BK116 hb; replace HK := zA (KeepBut.trans (zq11 GW101 GW116) (zcd hb g none) (.inl rfl)); replace HB := zA (zab (zq14 HI0 GE101 GE116) hb); replace HI0 := zA (IsS63.below (zq12 HI0 NB0_101 NB0_116) hb); (try clear hb)) | ((with_reducible refine zgc 98 ?_); refine zca 46 Tryz.func98 #[.pointer (some ⟨g, 0, none⟩), .int .i64 (wrap64 ((wrap64 (t112 - t111)) + 1))] (za8 g s0_0 x1001_22 x1002_22 (wrap64 ((wrap64 (t112 - t111)) + 1)) t124 t125 t126 w0 _ (zq12 HI0 NB0_101 NB0_116) (zq14 HI0 GE101 GE116) A32.out) ?_; rintro e w45 ⟨rfl, hi, hb, hk⟩; refine ⟨_, rfl, ?_⟩; replace BK101 := zA (KeepBut.blk hk (g' := gb101) (o := .cells #[.string (⟨#[]⟩ : ByteArray), .int .i64 0, .int .i64 0, .int .i64 0, .int .i64 0] 55 (0, 0)) (zq8 BK101) NB101_0.out (by simp)); replace BK116 := zA (KeepBut.blk hk (g' := gb116) (o := .cells #[.string t105, .int .i64 t113, .int .i64 x117002_5, .int .i64 x117003_22, .int .i64 0] 55 (0, 0)) (zq8 BK116) NB116_0.out (by simp)); replace HK := zA (KeepBut.trans (zq11 GW101 GW116) hk (.inl rfl)); replace HB := zA (hb); replace HI0 := zA (hi); (try clear hb); (try clear hk); (try clear hi); have hnb46 := NB116_101.out; have hnc46 := NB101_116.out; have hnb47 := NB116_0.out; have hnc47 := NB0_116.out; obtain ⟨hcz48_0, hcz48_1, hcz48_2, hcz48_3, hcz48_4⟩ := zc5 w45 (.string t105) (.int .i64 t113) (.int .i64 x117002_5) (.int .i64 x117003_22) (.int .i64 0) BK116.out; obtain ⟨hfz48_0, hfz48_1, hfz48_2, hfz48_3, hfz48_4⟩ := zf5 BK116.out; have hnb49 := NB101_0.out; have hnc49 := NB0_101.out; obtain ⟨hcz50_0, hcz50_1, hcz50_2, hcz50_3, hcz50_4⟩ := zc5 w45 (.string (⟨#[]⟩ : ByteArray)) (.int .i64 0) (.int .i64 0) (.int .i64 0) (.int .i64 0) BK101.out; obtain ⟨hfz50_0, hfz50_1, hfz50_2, hfz50_3, hfz50_4⟩ := zf5 BK101.out))
   refine bodyPost_ret (results_cell_row rfl _ _ gb101 55 #[.string t105, .int .i64 t113, .int .i64 x117002_5, .int .i64 x117003_22, .int .i64 (wrap64 (t111 + t124))] (0, 0) _ rfl (zq30 NB101_116 BK101) Tryz.underlying55 rfl zq27) rfl ?_
   exact ⟨zq5, zq12 HI0 NB0_101 NB0_116, zq14 HI0 GE101 GE116, zq11 GW101 GW116⟩
 rw [if_pos c33] at H
 obtain ⟨c33b0, c33b1⟩ := zbe c33
 clear c33
 replace H := zob H
 obtain ⟨⟨t127, t128, t129⟩, A340, H⟩ := H
 have A34 := zA A340
 clear A340
 simp only [Option.some.injEq, Prod.mk.injEq] at H
 obtain ⟨rfl, rfl, rfl, rfl, rfl, rfl, rfl⟩ := H
 go_wp2_with (first | ((with_reducible refine zgc 154 ?_); refine zcl 39 Tryz.func154 (zmo kj22 t105 true _ A30.out) ?_; rintro e w35 ⟨rfl, hb⟩; refine ⟨_, rfl, ?_⟩; replace BK101 := zbb BK101 hb; replace BK116 := zbb BK116 hb; replace HK := zA (KeepBut.trans (zq11 GW101 GW116) (zcd hb g none) (.inl rfl)); replace HB := zA (zab (zq14 HI0 GE101 GE116) hb); replace HI0 := zA (IsS63.below (zq12 HI0 NB0_101 NB0_116) hb); (try clear hb)) | ((with_reducible refine zgc 98 ?_); refine zca 46 Tryz.func98 #[.pointer (some ⟨g, 0, none⟩), .int .i64 (wrap64 ((wrap64 (t112 - t111)) + 1))] (za8 g s0_0 x1001_22 x1002_22 (wrap64 ((wrap64 (t112 - t111)) + 1)) t124 t125 t126 w0 _ (zq12 HI0 NB0_101 NB0_116) (zq14 HI0 GE101 GE116) A32.out) ?_; rintro e w36 ⟨rfl, hi, hb, hk⟩; refine ⟨_, rfl, ?_⟩; replace BK101 := zA (KeepBut.blk hk (g' := gb101) (o := .cells #[.string (⟨#[]⟩ : ByteArray), .int .i64 0, .int .i64 0, .int .i64 0, .int .i64 0] 55 (0, 0)) (zq8 BK101) NB101_0.out (by simp)); replace BK116 := zA (KeepBut.blk hk (g' := gb116) (o := .cells #[.string t105, .int .i64 t113, .int .i64 x117002_5, .int .i64 x117003_22, .int .i64 0] 55 (0, 0)) (zq8 BK116) NB116_0.out (by simp)); replace HK := zA (KeepBut.trans (zq11 GW101 GW116) hk (.inl rfl)); replace HB := zA (hb); replace HI0 := zA (hi); (try clear hb); (try clear hk); (try clear hi); have hnb37 := NB116_101.out; have hnc37 := NB101_116.out; have hnb38 := NB116_0.out; have hnc38 := NB0_116.out; obtain ⟨hcz39_0, hcz39_1, hcz39_2, hcz39_3, hcz39_4⟩ := zc5 w36 (.string t105) (.int .i64 t113) (.int .i64 x117002_5) (.int .i64 x117003_22) (.int .i64 0) BK116.out; obtain ⟨hfz39_0, hfz39_1, hfz39_2, hfz39_3, hfz39_4⟩ := zf5 BK116.out) | ((with_reducible refine zgc 155 ?_); refine zca 52 Tryz.func155 #[.pointer (some ⟨g, 0, none⟩)] (zpp g s0_0 t125 t126 t127 t128 t129 w0 _ (zq12 HI0 NB0_101 NB0_116) (zq14 HI0 GE101 GE116) A34.out) ?_; rintro e w40 ⟨rfl, hi, hb, hk⟩; refine ⟨_, rfl, ?_⟩; replace BK101 := zA (KeepBut.blk hk (g' := gb101) (o := .cells #[.string (⟨#[]⟩ : ByteArray), .int .i64 0, .int .i64 0, .int .i64 0, .int .i64 0] 55 (0, 0)) (zq55 NB101_116 BK101) NB101_0.out (by simp)); replace BK116 := zA (KeepBut.blk hk (g' := gb116) (o := .cells #[.string t105, .int .i64 t113, .int .i64 x117002_5, .int .i64 x117003_22, .int .i64 (wrap64 (t111 + t124))] 55 (0, 0)) (by (with_reducible repeat (first | refine zkn ?_ _ | refine zkd ?_ | refine zka ?_ _)); refine za3 (cs := #[.string t105, .int .i64 t113, .int .i64 x117002_5, .int .i64 x117003_22, .int .i64 0]) ?_ 4 _ rfl; (with_reducible repeat (first | refine zkn ?_ _ | refine zkd ?_ | refine zka ?_ _)); exact BK116.out) NB116_0.out (by simp)); replace HK := zA (KeepBut.trans (zq11 GW101 GW116) hk (.inl rfl)); replace HB := zA (hb); replace HI0 := zA (hi); (try clear hb); (try clear hk); (try clear hi); obtain ⟨hcz41_0, hcz41_1, hcz41_2, hcz41_3, hcz41_4⟩ := zc5 w40 (.string t105) (.int .i64 t113) (.int .i64 x117002_5) (.int .i64 x117003_22) (.int .i64 (wrap64 (t111 + t124))) BK116.out; obtain ⟨hfz41_0, hfz41_1, hfz41_2, hfz41_3, hfz41_4⟩ := zf5 BK116.out; have hnb42 := NB101_0.out; have hnc42 := NB0_101.out; obtain ⟨hcz43_0, hcz43_1, hcz43_2, hcz43_3, hcz43_4⟩ := zc5 w40 (.string (⟨#[]⟩ : ByteArray)) (.int .i64 0) (.int .i64 0) (.int .i64 0) (.int .i64 0) BK101.out; obtain ⟨hfz43_0, hfz43_1, hfz43_2, hfz43_3, hfz43_4⟩ := zf5 BK101.out))
 refine bodyPost_ret (results_cell_row rfl _ _ gb101 55 #[.string t105, .int .i64 t113, .int .i64 x117002_5, .int .i64 x117003_22, .int .i64 t127] (0, 0) _ rfl (zq30 NB101_116 BK101) Tryz.underlying55 rfl zq27) rfl ?_
 exact ⟨zq5, zq12 HI0 NB0_101 NB0_116, zq14 HI0 GE101 GE116, zq11 GW101 GW116⟩
def zef (k : Nat) (s0_0 : List Int) (s0_1 : Int) (s0_2 : Int) : Option (ByteArray × Int × Int × Int × Int × Int × Int) := (zeb k s0_0 s0_1 s0_2 6).bind fun bt102 => ((zbu s0_0 bt102.2.2.2.2.2.1 bt102.2.2.2.2.2.2 14).bind fun bt110 => (if bt110.1 = 0 then ((zco s0_0 bt110.2.1 bt110.2.2 (([(-1), 6] : List Int))).bind fun bt116 => (some (bt102.1, bt116.1, bt102.2.2.1, bt102.2.2.2.1, bt102.2.2.2.2.1, bt116.2.1, bt116.2.2))) else (if bt110.1 = 1 then ((zco s0_0 bt110.2.1 bt110.2.2 (([(-1), 0, 6, 4611686018427387904] : List Int))).bind fun bt122 => (some (bt102.1, bt102.2.1, bt122.1, bt102.2.2.2.1, bt102.2.2.2.2.1, bt122.2.1, bt122.2.2))) else (if bt110.1 = 2 then ((zco s0_0 bt110.2.1 bt110.2.2 (([(-1), 0, 1, 6] : List Int))).bind fun bt128 => (some (bt102.1, bt102.2.1, bt102.2.2.1, bt128.1, bt102.2.2.2.2.1, bt128.2.1, bt128.2.2))) else (if bt110.1 = 3 then ((zco s0_0 bt110.2.1 bt110.2.2 (([(-1), 0, 1, 3, 4, 5, 6, 63, 64] : List Int))).bind fun bt134 => (some (bt102.1, bt102.2.1, bt102.2.2.1, bt102.2.2.2.1, bt134.1, bt134.2.1, bt134.2.2))) else (if bt110.1 = 4 then ((zi4 s0_0 bt110.2.1 bt110.2.2 (([(⟨#[]⟩ : ByteArray), (⟨#[99, 111, 110, 115, 116]⟩ : ByteArray), (⟨#[110, 111, 112]⟩ : ByteArray), (⟨#[115, 101, 116]⟩ : ByteArray), (⟨#[108, 101, 97]⟩ : ByteArray)] : List ByteArray))).bind fun bt140 => (some (bt140.1, bt102.2.1, bt102.2.2.1, bt102.2.2.2.1, bt102.2.2.2.2.1, bt140.2.1, bt140.2.2))) else (some (bt102.1, bt102.2.1, bt102.2.2.1, bt102.2.2.2.1, bt102.2.2.2.2.1, bt110.2.1, bt110.2.2))))))))
theorem zlh : ∀ a0 a1 a2 k, LeO (zef k a0 a1 a2) (zef (k + 1) a0 a1 a2) := by
 intro a0 a1 a2 k
 unfold zef
 exact zm1 zhe
theorem zog (k : Nat) (g : Nat) (s0_0 : List Int) (s0_1 : Int) (s0_2 : Int) (r1 : ByteArray) (r2 : Int) (r3 : Int) (r4 : Int) (r5 : Int) (r6 : Int) (r7 : Int) (w0 w : World) (hI : IsS63 w0 w g s0_0 s0_1 s0_2) (hB : Below w0.heap.size w0 w) (h : zef k s0_0 s0_1 s0_2 = some (r1, r2, r3, r4, r5, r6, r7)) :
   Calls Tryz.prog 138 #[.pointer (some ⟨g, 0, none⟩)] w fun e w' => e = .returned (.agg #[.string r1, .int .i64 r2, .int .i64 r3, .int .i64 r4, .int .i64 r5]) ∧ IsS63 w0 w' g s0_0 r6 r7 ∧ Below w0.heap.size w0 w' ∧ KeepBut w w' g none := by
 have hu55 := Tryz.underlying55
 have HI0 := zA hI
 have HK := zA (KeepBut.refl w g none)
 have HL := zA hB.size
 clear hI
 have HW0 := zA hB.size
 have HB := zA hB
 clear hB
 have H := h
 unfold zef at H
 clear h
 replace H := zob H
 obtain ⟨⟨t102, t103, t104, t105, t106, t107, t108⟩, A20, H⟩ := H
 have A2 := zA A20
 clear A20
 replace H := zob H
 obtain ⟨⟨t110, t111, t112⟩, A30, H⟩ := H
 have A3 := zA A30
 clear A30
 have HCC := zA H
 clear H
 go_enter Tryz.func138, Tryz.ntmps138
 go_upto_if 8 with (first | ((with_reducible refine zgd 2 ?_); refine zbx #[.string (⟨#[]⟩ : ByteArray), .int .i64 0, .int .i64 0, .int .i64 0, .int .i64 0] 55 ?_; intro gb101 hg w84 hbox hb; replace HB := zA (zab (zq6 HI0) hb); have BK101 := zA (hbox); have GW101 := zA ((zq76 : w.heap.size ≤ gb101)); have GE101 := zA ((Nat.le_trans HW0.out (zq76 : w.heap.size ≤ gb101) : w0.heap.size ≤ gb101)); replace HK := zA (KeepBut.trans zq3 (zcd hb g none) (.inl rfl)); have NB0_101 := zA ((zq71 HI0 : g ≠ gb101)); have NB101_0 := zA ((zq72 HI0 : gb101 ≠ g)); replace HI0 := zA (IsS63.below (zq4 HI0) hb); clear hb hbox hg) | ((with_reducible refine zgc 139 ?_); refine zca 5 Tryz.func139 #[.pointer (some ⟨g, 0, none⟩), .int .i64 6] (zjm k g s0_0 s0_1 s0_2 6 t102 t103 t104 t105 t106 t107 t108 w0 _ (zq32 HI0 NB0_101) (zq36 HI0 GE101) A2.out) ?_; rintro e w85 ⟨rfl, hi, hb, hk⟩; refine ⟨_, rfl, ?_⟩; replace BK101 := zA (KeepBut.blk hk (g' := gb101) (o := .cells #[.string (⟨#[]⟩ : ByteArray), .int .i64 0, .int .i64 0, .int .i64 0, .int .i64 0] 55 (0, 0)) (zq8 BK101) NB101_0.out (by simp)); replace HK := zA (KeepBut.trans (zq24 GW101) hk (.inl rfl)); replace HB := zA (hb); replace HI0 := zA (hi); (try clear hb); (try clear hk); (try clear hi)) | ((with_reducible refine zgd 3 ?_); refine zbx #[.string (⟨#[]⟩ : ByteArray), .int .i64 0, .int .i64 0, .int .i64 0, .int .i64 0] 55 ?_; intro gb109 hg w86 hbox hb; replace HB := zA (zab (zq36 HI0 GE101) hb); have BK109 := zA (hbox); have GW109 := zA ((zq69 : w.heap.size ≤ gb109)); have GE109 := zA ((Nat.le_trans HW0.out (zq69 : w.heap.size ≤ gb109) : w0.heap.size ≤ gb109)); replace HK := zA (KeepBut.trans (zq24 GW101) (zcd hb g none) (.inl rfl)); have NB101_109 := zA ((zq35 BK101 : gb101 ≠ gb109)); replace BK101 := zbb BK101 hb; have NB109_101 := zA (Ne.symm NB101_109.out); have NB0_109 := zA ((by rw [hg]; exact Nat.ne_of_lt (zp7 (show IsS63 w0 _ g s0_0 t107 t108 from by repeat (first | (with_reducible first | exact HI0.out | apply IsS63.alloc | apply IsS63.drewN | apply IsS63.drew | apply zav | apply zaw | refine zfn ?_ NB0_101.out _) | exact HI0.out))) : g ≠ gb109)); have NB109_0 := zA ((by rw [hg]; exact Nat.ne_of_gt (zp7 (show IsS63 w0 _ g s0_0 t107 t108 from by repeat (first | (with_reducible first | exact HI0.out | apply IsS63.alloc | apply IsS63.drewN | apply IsS63.drew | apply zav | apply zaw | refine zfn ?_ NB0_101.out _) | exact HI0.out))) : gb109 ≠ g)); replace HI0 := zA (IsS63.below (zq32 HI0 NB0_101) hb); clear hb hbox hg; have hnb87 := NB109_101.out; have hnc87 := NB101_109.out; have hnb88 := NB109_0.out; have hnc88 := NB0_109.out; obtain ⟨hcz89_0, hcz89_1, hcz89_2, hcz89_3, hcz89_4, hfz89_0, hfz89_1, hfz89_2, hfz89_3, hfz89_4⟩ := zd5 BK109) | ((with_reducible refine zgc 98 ?_); refine zca 7 Tryz.func98 #[.pointer (some ⟨g, 0, none⟩), .int .i64 14] (za8 g s0_0 t107 t108 14 t110 t111 t112 w0 _ (zq12 HI0 NB0_101 NB0_109) (zq14 HI0 GE101 GE109) A3.out) ?_; rintro e w90 ⟨rfl, hi, hb, hk⟩; refine ⟨_, rfl, ?_⟩; replace BK101 := zA (KeepBut.blk hk (g' := gb101) (o := .cells #[.string (⟨#[]⟩ : ByteArray), .int .i64 0, .int .i64 0, .int .i64 0, .int .i64 0] 55 (0, 0)) (zq23 NB101_109 BK101) NB101_0.out (by simp)); replace BK109 := zA (KeepBut.blk hk (g' := gb109) (o := .cells #[.string t102, .int .i64 t103, .int .i64 t104, .int .i64 t105, .int .i64 t106] 55 (0, 0)) (zq33 BK109) NB109_0.out (by simp)); replace HK := zA (KeepBut.trans (zq11 GW101 GW109) hk (.inl rfl)); replace HB := zA (hb); replace HI0 := zA (hi); (try clear hb); (try clear hk); (try clear hi); obtain ⟨hcz91_0, hcz91_1, hcz91_2, hcz91_3, hcz91_4⟩ := zc5 w90 (.string t102) (.int .i64 t103) (.int .i64 t104) (.int .i64 t105) (.int .i64 t106) BK109.out; obtain ⟨hfz91_0, hfz91_1, hfz91_2, hfz91_3, hfz91_4⟩ := zf5 BK109.out; have hnb92 := NB101_0.out; have hnc92 := NB0_101.out; obtain ⟨hcz93_0, hcz93_1, hcz93_2, hcz93_3, hcz93_4⟩ := zc5 w90 (.string (⟨#[]⟩ : ByteArray)) (.int .i64 0) (.int .i64 0) (.int .i64 0) (.int .i64 0) BK101.out; obtain ⟨hfz93_0, hfz93_1, hfz93_2, hfz93_3, hfz93_4⟩ := zf5 BK101.out))
 have H := HCC.out
 clear HCC
 by_cases c4 : t110 = 0
 · rw [if_pos c4] at H
   obtain ⟨c4b0, c4b1⟩ := zbe c4
   clear c4
   obtain ⟨y113, hy113⟩ : ∃ y_ : List Int, y_ = (([(-1), 6] : List Int)) := ⟨_, rfl⟩
   rw [← hy113] at H; try with_reducible replace H := zbs H
   have Ny113 := zA hy113
   clear hy113
   replace H := zob H
   obtain ⟨⟨t116, t117, t118⟩, A50, H⟩ := H
   have A5 := zA A50
   clear A50
   simp only [Option.some.injEq, Prod.mk.injEq] at H
   obtain ⟨rfl, rfl, rfl, rfl, rfl, rfl, rfl⟩ := H
   go_wp2_with (first | ((with_reducible refine zgd 11 ?_); refine Kd.R_lit (Kd.int .i64) _ 3 ?hg (N := 11) ?hd (xs := ([(-1), 6] : List Int)) (inner := [.int .i64 (-1), .int .i64 6]) (ok := fun _ => True) (okp := fun _ => True) ?hr ?hp (fun _ hk => hk) trivial (Below.refl _ _) (zlr _) (by simp) ?_; (case hd => rfl); (case hg => rfl); (case hr => go_simp <;> rfl); (case hp => exact (zam (show Kd.M (Kd.int .i64) _ _ _ (-1) [.int .i64 (-1)] from rfl) (zam (show Kd.M (Kd.int .i64) _ _ _ 6 [.int .i64 6] from rfl) (Reps.none _ _)))); intro v114 w13 ho14 hb hg_ hnew_; clear hg_ hnew_; (first | rw [← Ny113.out] at ho14 | (simp only [Int.reduceToNat] at ho14; rw [← Ny113.out] at ho14)); have HO115 := zA (Kd.R_lower ho14 (ze4 (w := w) (g := g) (row := none) (zq11 GW101 GW109))); replace BK101 := zbb BK101 hb; replace BK109 := zbb BK109 hb; replace HK := zA (KeepBut.trans (zq11 GW101 GW109) (zcd hb g none) (.inl rfl)); replace HB := zA (zab (zq14 HI0 GE101 GE109) hb); replace HI0 := zA (IsS63.below (zq12 HI0 NB0_101 NB0_109) hb); clear hb ho14; obtain ⟨Ao15, co15, eo15⟩ := Kd.R_slice HO115.out; subst eo15) | ((with_reducible refine zgc 61 ?_); refine zca 12 Tryz.func61 #[.pointer (some ⟨g, 0, none⟩), .slice Ao15 y113.length co15] (zc0 g s0_0 t111 t112 _ _ y113 t116 t117 t118 w0 _ (zq12 HI0 NB0_101 NB0_109) (zq14 HI0 GE101 GE109) (zq19 HO115) (zq48 HO115) (zq47 HI0 HO115) A5.out) ?_; rintro e w16 ⟨rfl, hi, hb, hk⟩; refine ⟨_, rfl, ?_⟩; replace BK101 := zA (KeepBut.blk hk (g' := gb101) (o := .cells #[.string (⟨#[]⟩ : ByteArray), .int .i64 0, .int .i64 0, .int .i64 0, .int .i64 0] 55 (0, 0)) (zq8 BK101) NB101_0.out (by simp)); replace BK109 := zA (KeepBut.blk hk (g' := gb109) (o := .cells #[.string t102, .int .i64 t103, .int .i64 t104, .int .i64 t105, .int .i64 t106] 55 (0, 0)) (zq8 BK109) NB109_0.out (by simp)); replace HO115 := zA (Kd.R_mono (Kd.R_keep (IsS63.apart (show IsS63 w0 _ g s0_0 t111 t112 from by repeat (first | (with_reducible first | exact HI0.out | apply IsS63.alloc | apply IsS63.drewN | apply IsS63.drew | apply zav | apply zaw | refine zfn ?_ NB0_101.out _ | refine zfn ?_ NB0_109.out _) | exact HI0.out)) (zq2 HO115) (by decide)) hk (fun _ h => h.2)) (fun _ h => h.1)); replace HK := zA (KeepBut.trans (zq11 GW101 GW109) hk (.inl rfl)); replace HB := zA (hb); replace HI0 := zA (hi); (try clear hb); (try clear hk); (try clear hi); obtain ⟨hcz17_0, hcz17_1, hcz17_2, hcz17_3, hcz17_4⟩ := zc5 w16 (.string t102) (.int .i64 t103) (.int .i64 t104) (.int .i64 t105) (.int .i64 t106) BK109.out; obtain ⟨hfz17_0, hfz17_1, hfz17_2, hfz17_3, hfz17_4⟩ := zf5 BK109.out; have hnb18 := NB101_0.out; have hnc18 := NB0_101.out; obtain ⟨hcz19_0, hcz19_1, hcz19_2, hcz19_3, hcz19_4⟩ := zc5 w16 (.string (⟨#[]⟩ : ByteArray)) (.int .i64 0) (.int .i64 0) (.int .i64 0) (.int .i64 0) BK101.out; obtain ⟨hfz19_0, hfz19_1, hfz19_2, hfz19_3, hfz19_4⟩ := zf5 BK101.out))
   refine bodyPost_ret (results_cell_row rfl _ _ gb101 55 #[.string t102, .int .i64 t116, .int .i64 t104, .int .i64 t105, .int .i64 t106] (0, 0) _ rfl (by (with_reducible repeat (first | refine zkn ?_ _ | refine zkd ?_ | refine zka ?_ _)); refine za3 (cs := #[.string t102, .int .i64 t116, .int .i64 t104, .int .i64 t105, .int .i64 0]) ?_ 4 _ rfl; (with_reducible repeat (first | refine zkn ?_ _ | refine zkd ?_ | refine zka ?_ _)); refine za3 (cs := #[.string t102, .int .i64 t116, .int .i64 t104, .int .i64 0, .int .i64 0]) ?_ 3 _ rfl; (with_reducible repeat (first | refine zkn ?_ _ | refine zkd ?_ | refine zka ?_ _)); refine za3 (cs := #[.string t102, .int .i64 t116, .int .i64 0, .int .i64 0, .int .i64 0]) ?_ 2 _ rfl; (with_reducible repeat (first | refine zkn ?_ _ | refine zkd ?_ | refine zka ?_ _)); refine za3 (cs := #[.string t102, .int .i64 0, .int .i64 0, .int .i64 0, .int .i64 0]) ?_ 1 _ rfl; (with_reducible repeat (first | refine zkn ?_ _ | refine zkd ?_ | refine zka ?_ _)); refine za3 (cs := #[.string (⟨#[]⟩ : ByteArray), .int .i64 0, .int .i64 0, .int .i64 0, .int .i64 0]) ?_ 0 _ rfl; (with_reducible repeat (first | refine zkn ?_ _ | refine zkd ?_ | refine zka ?_ _)); refine za2 ?_ NB101_109.out _; (with_reducible repeat (first | refine zkn ?_ _ | refine zkd ?_ | refine zka ?_ _)); exact BK101.out) Tryz.underlying55 rfl zq27) rfl ?_
   exact ⟨zq5, zq12 HI0 NB0_101 NB0_109, zq14 HI0 GE101 GE109, zq11 GW101 GW109⟩
 rw [if_neg c4] at H
 obtain ⟨c4b0, c4b1⟩ := zbq c4
 by_cases c20 : t110 = 1
 · rw [if_pos c20] at H
   obtain ⟨c20b0, c20b1⟩ := zbe c20
   clear c20
   obtain ⟨y119, hy119⟩ : ∃ y_ : List Int, y_ = (([(-1), 0, 6, 4611686018427387904] : List Int)) := ⟨_, rfl⟩
   rw [← hy119] at H; try with_reducible replace H := zbs H
   have Ny119 := zA hy119
   clear hy119
   replace H := zob H
   obtain ⟨⟨t122, t123, t124⟩, A210, H⟩ := H
   have A21 := zA A210
   clear A210
   simp only [Option.some.injEq, Prod.mk.injEq] at H
   obtain ⟨rfl, rfl, rfl, rfl, rfl, rfl, rfl⟩ := H
   go_wp2_with (first | ((with_reducible refine zgd 17 ?_); refine Kd.R_lit (Kd.int .i64) _ 3 ?hg (N := 17) ?hd (xs := ([(-1), 0, 6, 4611686018427387904] : List Int)) (inner := [.int .i64 (-1), .int .i64 0, .int .i64 6, .int .i64 4611686018427387904]) (ok := fun _ => True) (okp := fun _ => True) ?hr ?hp (fun _ hk => hk) trivial (Below.refl _ _) (zlr _) (by simp) ?_; (case hd => rfl); (case hg => rfl); (case hr => go_simp <;> rfl); (case hp => exact (zam (show Kd.M (Kd.int .i64) _ _ _ (-1) [.int .i64 (-1)] from rfl) (zam (show Kd.M (Kd.int .i64) _ _ _ 0 [.int .i64 0] from rfl) (zam (show Kd.M (Kd.int .i64) _ _ _ 6 [.int .i64 6] from rfl) (zam (show Kd.M (Kd.int .i64) _ _ _ 4611686018427387904 [.int .i64 4611686018427387904] from rfl) (Reps.none _ _)))))); intro v120 w29 ho30 hb hg_ hnew_; clear hg_ hnew_; (first | rw [← Ny119.out] at ho30 | (simp only [Int.reduceToNat] at ho30; rw [← Ny119.out] at ho30)); have HO121 := zA (Kd.R_lower ho30 (ze4 (w := w) (g := g) (row := none) (zq11 GW101 GW109))); replace BK101 := zbb BK101 hb; replace BK109 := zbb BK109 hb; replace HK := zA (KeepBut.trans (zq11 GW101 GW109) (zcd hb g none) (.inl rfl)); replace HB := zA (zab (zq14 HI0 GE101 GE109) hb); replace HI0 := zA (IsS63.below (zq12 HI0 NB0_101 NB0_109) hb); clear hb ho30; obtain ⟨Ao31, co31, eo31⟩ := Kd.R_slice HO121.out; subst eo31) | ((with_reducible refine zgc 61 ?_); refine zca 18 Tryz.func61 #[.pointer (some ⟨g, 0, none⟩), .slice Ao31 y119.length co31] (zc0 g s0_0 t111 t112 _ _ y119 t122 t123 t124 w0 _ (zq12 HI0 NB0_101 NB0_109) (zq14 HI0 GE101 GE109) (zq19 HO121) (zq48 HO121) (zq47 HI0 HO121) A21.out) ?_; rintro e w32 ⟨rfl, hi, hb, hk⟩; refine ⟨_, rfl, ?_⟩; replace BK101 := zA (KeepBut.blk hk (g' := gb101) (o := .cells #[.string (⟨#[]⟩ : ByteArray), .int .i64 0, .int .i64 0, .int .i64 0, .int .i64 0] 55 (0, 0)) (zq8 BK101) NB101_0.out (by simp)); replace BK109 := zA (KeepBut.blk hk (g' := gb109) (o := .cells #[.string t102, .int .i64 t103, .int .i64 t104, .int .i64 t105, .int .i64 t106] 55 (0, 0)) (zq8 BK109) NB109_0.out (by simp)); replace HO121 := zA (Kd.R_mono (Kd.R_keep (IsS63.apart (show IsS63 w0 _ g s0_0 t111 t112 from by repeat (first | (with_reducible first | exact HI0.out | apply IsS63.alloc | apply IsS63.drewN | apply IsS63.drew | apply zav | apply zaw | refine zfn ?_ NB0_101.out _ | refine zfn ?_ NB0_109.out _) | exact HI0.out)) (zq2 HO121) (by decide)) hk (fun _ h => h.2)) (fun _ h => h.1)); replace HK := zA (KeepBut.trans (zq11 GW101 GW109) hk (.inl rfl)); replace HB := zA (hb); replace HI0 := zA (hi); (try clear hb); (try clear hk); (try clear hi); obtain ⟨hcz33_0, hcz33_1, hcz33_2, hcz33_3, hcz33_4⟩ := zc5 w32 (.string t102) (.int .i64 t103) (.int .i64 t104) (.int .i64 t105) (.int .i64 t106) BK109.out; obtain ⟨hfz33_0, hfz33_1, hfz33_2, hfz33_3, hfz33_4⟩ := zf5 BK109.out; have hnb34 := NB101_0.out; have hnc34 := NB0_101.out; obtain ⟨hcz35_0, hcz35_1, hcz35_2, hcz35_3, hcz35_4⟩ := zc5 w32 (.string (⟨#[]⟩ : ByteArray)) (.int .i64 0) (.int .i64 0) (.int .i64 0) (.int .i64 0) BK101.out; obtain ⟨hfz35_0, hfz35_1, hfz35_2, hfz35_3, hfz35_4⟩ := zf5 BK101.out))
   refine bodyPost_ret (results_cell_row rfl _ _ gb101 55 #[.string t102, .int .i64 t103, .int .i64 t122, .int .i64 t105, .int .i64 t106] (0, 0) _ rfl (by (with_reducible repeat (first | refine zkn ?_ _ | refine zkd ?_ | refine zka ?_ _)); refine za3 (cs := #[.string t102, .int .i64 t103, .int .i64 t122, .int .i64 t105, .int .i64 0]) ?_ 4 _ rfl; (with_reducible repeat (first | refine zkn ?_ _ | refine zkd ?_ | refine zka ?_ _)); refine za3 (cs := #[.string t102, .int .i64 t103, .int .i64 t122, .int .i64 0, .int .i64 0]) ?_ 3 _ rfl; (with_reducible repeat (first | refine zkn ?_ _ | refine zkd ?_ | refine zka ?_ _)); refine za3 (cs := #[.string t102, .int .i64 t103, .int .i64 0, .int .i64 0, .int .i64 0]) ?_ 2 _ rfl; (with_reducible repeat (first | refine zkn ?_ _ | refine zkd ?_ | refine zka ?_ _)); refine za3 (cs := #[.string t102, .int .i64 0, .int .i64 0, .int .i64 0, .int .i64 0]) ?_ 1 _ rfl; (with_reducible repeat (first | refine zkn ?_ _ | refine zkd ?_ | refine zka ?_ _)); refine za3 (cs := #[.string (⟨#[]⟩ : ByteArray), .int .i64 0, .int .i64 0, .int .i64 0, .int .i64 0]) ?_ 0 _ rfl; (with_reducible repeat (first | refine zkn ?_ _ | refine zkd ?_ | refine zka ?_ _)); refine za2 ?_ NB101_109.out _; (with_reducible repeat (first | refine zkn ?_ _ | refine zkd ?_ | refine zka ?_ _)); exact BK101.out) Tryz.underlying55 rfl zq27) rfl ?_
   exact ⟨zq5, zq12 HI0 NB0_101 NB0_109, zq14 HI0 GE101 GE109, zq11 GW101 GW109⟩
 rw [if_neg c20] at H
 obtain ⟨c20b0, c20b1⟩ := zbq c20
 by_cases c36 : t110 = 2
 · rw [if_pos c36] at H
   obtain ⟨c36b0, c36b1⟩ := zbe c36
   clear c36
   obtain ⟨y125, hy125⟩ : ∃ y_ : List Int, y_ = (([(-1), 0, 1, 6] : List Int)) := ⟨_, rfl⟩
   rw [← hy125] at H; try with_reducible replace H := zbs H
   have Ny125 := zA hy125
   clear hy125
   replace H := zob H
   obtain ⟨⟨t128, t129, t130⟩, A370, H⟩ := H
   have A37 := zA A370
   clear A370
   simp only [Option.some.injEq, Prod.mk.injEq] at H
   obtain ⟨rfl, rfl, rfl, rfl, rfl, rfl, rfl⟩ := H
   go_wp2_with (first | ((with_reducible refine zgd 23 ?_); refine Kd.R_lit (Kd.int .i64) _ 3 ?hg (N := 23) ?hd (xs := ([(-1), 0, 1, 6] : List Int)) (inner := [.int .i64 (-1), .int .i64 0, .int .i64 1, .int .i64 6]) (ok := fun _ => True) (okp := fun _ => True) ?hr ?hp (fun _ hk => hk) trivial (Below.refl _ _) (zlr _) (by simp) ?_; (case hd => rfl); (case hg => rfl); (case hr => go_simp <;> rfl); (case hp => exact (zam (show Kd.M (Kd.int .i64) _ _ _ (-1) [.int .i64 (-1)] from rfl) (zam (show Kd.M (Kd.int .i64) _ _ _ 0 [.int .i64 0] from rfl) (zam (show Kd.M (Kd.int .i64) _ _ _ 1 [.int .i64 1] from rfl) (zam (show Kd.M (Kd.int .i64) _ _ _ 6 [.int .i64 6] from rfl) (Reps.none _ _)))))); intro v126 w45 ho46 hb hg_ hnew_; clear hg_ hnew_; (first | rw [← Ny125.out] at ho46 | (simp only [Int.reduceToNat] at ho46; rw [← Ny125.out] at ho46)); have HO127 := zA (Kd.R_lower ho46 (ze4 (w := w) (g := g) (row := none) (zq11 GW101 GW109))); replace BK101 := zbb BK101 hb; replace BK109 := zbb BK109 hb; replace HK := zA (KeepBut.trans (zq11 GW101 GW109) (zcd hb g none) (.inl rfl)); replace HB := zA (zab (zq14 HI0 GE101 GE109) hb); replace HI0 := zA (IsS63.below (zq12 HI0 NB0_101 NB0_109) hb); clear hb ho46; obtain ⟨Ao47, co47, eo47⟩ := Kd.R_slice HO127.out; subst eo47) | ((with_reducible refine zgc 61 ?_); refine zca 24 Tryz.func61 #[.pointer (some ⟨g, 0, none⟩), .slice Ao47 y125.length co47] (zc0 g s0_0 t111 t112 _ _ y125 t128 t129 t130 w0 _ (zq12 HI0 NB0_101 NB0_109) (zq14 HI0 GE101 GE109) (zq19 HO127) (zq48 HO127) (zq47 HI0 HO127) A37.out) ?_; rintro e w48 ⟨rfl, hi, hb, hk⟩; refine ⟨_, rfl, ?_⟩; replace BK101 := zA (KeepBut.blk hk (g' := gb101) (o := .cells #[.string (⟨#[]⟩ : ByteArray), .int .i64 0, .int .i64 0, .int .i64 0, .int .i64 0] 55 (0, 0)) (zq8 BK101) NB101_0.out (by simp)); replace BK109 := zA (KeepBut.blk hk (g' := gb109) (o := .cells #[.string t102, .int .i64 t103, .int .i64 t104, .int .i64 t105, .int .i64 t106] 55 (0, 0)) (zq8 BK109) NB109_0.out (by simp)); replace HO127 := zA (Kd.R_mono (Kd.R_keep (IsS63.apart (show IsS63 w0 _ g s0_0 t111 t112 from by repeat (first | (with_reducible first | exact HI0.out | apply IsS63.alloc | apply IsS63.drewN | apply IsS63.drew | apply zav | apply zaw | refine zfn ?_ NB0_101.out _ | refine zfn ?_ NB0_109.out _) | exact HI0.out)) (zq2 HO127) (by decide)) hk (fun _ h => h.2)) (fun _ h => h.1)); replace HK := zA (KeepBut.trans (zq11 GW101 GW109) hk (.inl rfl)); replace HB := zA (hb); replace HI0 := zA (hi); (try clear hb); (try clear hk); (try clear hi); obtain ⟨hcz49_0, hcz49_1, hcz49_2, hcz49_3, hcz49_4⟩ := zc5 w48 (.string t102) (.int .i64 t103) (.int .i64 t104) (.int .i64 t105) (.int .i64 t106) BK109.out; obtain ⟨hfz49_0, hfz49_1, hfz49_2, hfz49_3, hfz49_4⟩ := zf5 BK109.out; have hnb50 := NB101_0.out; have hnc50 := NB0_101.out; obtain ⟨hcz51_0, hcz51_1, hcz51_2, hcz51_3, hcz51_4⟩ := zc5 w48 (.string (⟨#[]⟩ : ByteArray)) (.int .i64 0) (.int .i64 0) (.int .i64 0) (.int .i64 0) BK101.out; obtain ⟨hfz51_0, hfz51_1, hfz51_2, hfz51_3, hfz51_4⟩ := zf5 BK101.out))
   refine bodyPost_ret (results_cell_row rfl _ _ gb101 55 #[.string t102, .int .i64 t103, .int .i64 t104, .int .i64 t128, .int .i64 t106] (0, 0) _ rfl (by (with_reducible repeat (first | refine zkn ?_ _ | refine zkd ?_ | refine zka ?_ _)); refine za3 (cs := #[.string t102, .int .i64 t103, .int .i64 t104, .int .i64 t128, .int .i64 0]) ?_ 4 _ rfl; (with_reducible repeat (first | refine zkn ?_ _ | refine zkd ?_ | refine zka ?_ _)); refine za3 (cs := #[.string t102, .int .i64 t103, .int .i64 t104, .int .i64 0, .int .i64 0]) ?_ 3 _ rfl; (with_reducible repeat (first | refine zkn ?_ _ | refine zkd ?_ | refine zka ?_ _)); refine za3 (cs := #[.string t102, .int .i64 t103, .int .i64 0, .int .i64 0, .int .i64 0]) ?_ 2 _ rfl; (with_reducible repeat (first | refine zkn ?_ _ | refine zkd ?_ | refine zka ?_ _)); refine za3 (cs := #[.string t102, .int .i64 0, .int .i64 0, .int .i64 0, .int .i64 0]) ?_ 1 _ rfl; (with_reducible repeat (first | refine zkn ?_ _ | refine zkd ?_ | refine zka ?_ _)); refine za3 (cs := #[.string (⟨#[]⟩ : ByteArray), .int .i64 0, .int .i64 0, .int .i64 0, .int .i64 0]) ?_ 0 _ rfl; (with_reducible repeat (first | refine zkn ?_ _ | refine zkd ?_ | refine zka ?_ _)); refine za2 ?_ NB101_109.out _; (with_reducible repeat (first | refine zkn ?_ _ | refine zkd ?_ | refine zka ?_ _)); exact BK101.out) Tryz.underlying55 rfl zq27) rfl ?_
   exact ⟨zq5, zq12 HI0 NB0_101 NB0_109, zq14 HI0 GE101 GE109, zq11 GW101 GW109⟩
 rw [if_neg c36] at H
 obtain ⟨c36b0, c36b1⟩ := zbq c36
 by_cases c52 : t110 = 3
 · rw [if_pos c52] at H
   obtain ⟨c52b0, c52b1⟩ := zbe c52
   clear c52
   obtain ⟨y131, hy131⟩ : ∃ y_ : List Int, y_ = (([(-1), 0, 1, 3, 4, 5, 6, 63, 64] : List Int)) := ⟨_, rfl⟩
   rw [← hy131] at H; try with_reducible replace H := zbs H
   have Ny131 := zA hy131
   clear hy131
   replace H := zob H
   obtain ⟨⟨t134, t135, t136⟩, A530, H⟩ := H
   have A53 := zA A530
   clear A530
   simp only [Option.some.injEq, Prod.mk.injEq] at H
   obtain ⟨rfl, rfl, rfl, rfl, rfl, rfl, rfl⟩ := H
   go_wp2_with (first | ((with_reducible refine zgd 29 ?_); refine Kd.R_lit (Kd.int .i64) _ 3 ?hg (N := 29) ?hd (xs := ([(-1), 0, 1, 3, 4, 5, 6, 63, 64] : List Int)) (inner := [.int .i64 (-1), .int .i64 0, .int .i64 1, .int .i64 3, .int .i64 4, .int .i64 5, .int .i64 6, .int .i64 63, .int .i64 64]) (ok := fun _ => True) (okp := fun _ => True) ?hr ?hp (fun _ hk => hk) trivial (Below.refl _ _) (zlr _) (by simp) ?_; (case hd => rfl); (case hg => rfl); (case hr => go_simp <;> rfl); (case hp => exact (zam (show Kd.M (Kd.int .i64) _ _ _ (-1) [.int .i64 (-1)] from rfl) (zam (show Kd.M (Kd.int .i64) _ _ _ 0 [.int .i64 0] from rfl) (zam (show Kd.M (Kd.int .i64) _ _ _ 1 [.int .i64 1] from rfl) (zam (show Kd.M (Kd.int .i64) _ _ _ 3 [.int .i64 3] from rfl) (zam (show Kd.M (Kd.int .i64) _ _ _ 4 [.int .i64 4] from rfl) (zam (show Kd.M (Kd.int .i64) _ _ _ 5 [.int .i64 5] from rfl) (zam (show Kd.M (Kd.int .i64) _ _ _ 6 [.int .i64 6] from rfl) (zam (show Kd.M (Kd.int .i64) _ _ _ 63 [.int .i64 63] from rfl) (zam (show Kd.M (Kd.int .i64) _ _ _ 64 [.int .i64 64] from rfl) (Reps.none _ _))))))))))); intro v132 w61 ho62 hb hg_ hnew_; clear hg_ hnew_; (first | rw [← Ny131.out] at ho62 | (simp only [Int.reduceToNat] at ho62; rw [← Ny131.out] at ho62)); have HO133 := zA (Kd.R_lower ho62 (ze4 (w := w) (g := g) (row := none) (zq11 GW101 GW109))); replace BK101 := zbb BK101 hb; replace BK109 := zbb BK109 hb; replace HK := zA (KeepBut.trans (zq11 GW101 GW109) (zcd hb g none) (.inl rfl)); replace HB := zA (zab (zq14 HI0 GE101 GE109) hb); replace HI0 := zA (IsS63.below (zq12 HI0 NB0_101 NB0_109) hb); clear hb ho62; obtain ⟨Ao63, co63, eo63⟩ := Kd.R_slice HO133.out; subst eo63) | ((with_reducible refine zgc 61 ?_); refine zca 30 Tryz.func61 #[.pointer (some ⟨g, 0, none⟩), .slice Ao63 y131.length co63] (zc0 g s0_0 t111 t112 _ _ y131 t134 t135 t136 w0 _ (zq12 HI0 NB0_101 NB0_109) (zq14 HI0 GE101 GE109) (zq19 HO133) (zq48 HO133) (zq47 HI0 HO133) A53.out) ?_; rintro e w64 ⟨rfl, hi, hb, hk⟩; refine ⟨_, rfl, ?_⟩; replace BK101 := zA (KeepBut.blk hk (g' := gb101) (o := .cells #[.string (⟨#[]⟩ : ByteArray), .int .i64 0, .int .i64 0, .int .i64 0, .int .i64 0] 55 (0, 0)) (zq8 BK101) NB101_0.out (by simp)); replace BK109 := zA (KeepBut.blk hk (g' := gb109) (o := .cells #[.string t102, .int .i64 t103, .int .i64 t104, .int .i64 t105, .int .i64 t106] 55 (0, 0)) (zq8 BK109) NB109_0.out (by simp)); replace HO133 := zA (Kd.R_mono (Kd.R_keep (IsS63.apart (show IsS63 w0 _ g s0_0 t111 t112 from by repeat (first | (with_reducible first | exact HI0.out | apply IsS63.alloc | apply IsS63.drewN | apply IsS63.drew | apply zav | apply zaw | refine zfn ?_ NB0_101.out _ | refine zfn ?_ NB0_109.out _) | exact HI0.out)) (zq2 HO133) (by decide)) hk (fun _ h => h.2)) (fun _ h => h.1)); replace HK := zA (KeepBut.trans (zq11 GW101 GW109) hk (.inl rfl)); replace HB := zA (hb); replace HI0 := zA (hi); (try clear hb); (try clear hk); (try clear hi); obtain ⟨hcz65_0, hcz65_1, hcz65_2, hcz65_3, hcz65_4⟩ := zc5 w64 (.string t102) (.int .i64 t103) (.int .i64 t104) (.int .i64 t105) (.int .i64 t106) BK109.out; obtain ⟨hfz65_0, hfz65_1, hfz65_2, hfz65_3, hfz65_4⟩ := zf5 BK109.out; have hnb66 := NB101_0.out; have hnc66 := NB0_101.out; obtain ⟨hcz67_0, hcz67_1, hcz67_2, hcz67_3, hcz67_4⟩ := zc5 w64 (.string (⟨#[]⟩ : ByteArray)) (.int .i64 0) (.int .i64 0) (.int .i64 0) (.int .i64 0) BK101.out; obtain ⟨hfz67_0, hfz67_1, hfz67_2, hfz67_3, hfz67_4⟩ := zf5 BK101.out))
   refine bodyPost_ret (results_cell_row rfl _ _ gb101 55 #[.string t102, .int .i64 t103, .int .i64 t104, .int .i64 t105, .int .i64 t134] (0, 0) _ rfl (by (with_reducible repeat (first | refine zkn ?_ _ | refine zkd ?_ | refine zka ?_ _)); refine za3 (cs := #[.string t102, .int .i64 t103, .int .i64 t104, .int .i64 t105, .int .i64 0]) ?_ 4 _ rfl; (with_reducible repeat (first | refine zkn ?_ _ | refine zkd ?_ | refine zka ?_ _)); refine za3 (cs := #[.string t102, .int .i64 t103, .int .i64 t104, .int .i64 0, .int .i64 0]) ?_ 3 _ rfl; (with_reducible repeat (first | refine zkn ?_ _ | refine zkd ?_ | refine zka ?_ _)); refine za3 (cs := #[.string t102, .int .i64 t103, .int .i64 0, .int .i64 0, .int .i64 0]) ?_ 2 _ rfl; (with_reducible repeat (first | refine zkn ?_ _ | refine zkd ?_ | refine zka ?_ _)); refine za3 (cs := #[.string t102, .int .i64 0, .int .i64 0, .int .i64 0, .int .i64 0]) ?_ 1 _ rfl; (with_reducible repeat (first | refine zkn ?_ _ | refine zkd ?_ | refine zka ?_ _)); refine za3 (cs := #[.string (⟨#[]⟩ : ByteArray), .int .i64 0, .int .i64 0, .int .i64 0, .int .i64 0]) ?_ 0 _ rfl; (with_reducible repeat (first | refine zkn ?_ _ | refine zkd ?_ | refine zka ?_ _)); refine za2 ?_ NB101_109.out _; (with_reducible repeat (first | refine zkn ?_ _ | refine zkd ?_ | refine zka ?_ _)); exact BK101.out) Tryz.underlying55 rfl zq27) rfl ?_
   exact ⟨zq5, zq12 HI0 NB0_101 NB0_109, zq14 HI0 GE101 GE109, zq11 GW101 GW109⟩
 rw [if_neg c52] at H
 obtain ⟨c52b0, c52b1⟩ := zbq c52
 by_cases c68 : t110 = 4
 rotate_left
 · rw [if_neg c68] at H
   obtain ⟨c68b0, c68b1⟩ := zbq c68
   simp only [Option.some.injEq, Prod.mk.injEq] at H
   obtain ⟨rfl, rfl, rfl, rfl, rfl, rfl, rfl⟩ := H
   go_wp2_with fail
   refine bodyPost_ret (results_cell_row rfl _ _ gb101 55 #[.string t102, .int .i64 t103, .int .i64 t104, .int .i64 t105, .int .i64 t106] (0, 0) _ rfl (zq33 BK101) Tryz.underlying55 rfl zq27) rfl ?_
   exact ⟨zq5, zq12 HI0 NB0_101 NB0_109, zq14 HI0 GE101 GE109, zq11 GW101 GW109⟩
 rw [if_pos c68] at H
 obtain ⟨c68b0, c68b1⟩ := zbe c68
 clear c68
 obtain ⟨y137, hy137⟩ : ∃ y_ : List ByteArray, y_ = (([(⟨#[]⟩ : ByteArray), (⟨#[99, 111, 110, 115, 116]⟩ : ByteArray), (⟨#[110, 111, 112]⟩ : ByteArray), (⟨#[115, 101, 116]⟩ : ByteArray), (⟨#[108, 101, 97]⟩ : ByteArray)] : List ByteArray)) := ⟨_, rfl⟩
 rw [← hy137] at H; try with_reducible replace H := zbs H
 have Ny137 := zA hy137
 clear hy137
 replace H := zob H
 obtain ⟨⟨t140, t141, t142⟩, A690, H⟩ := H
 have A69 := zA A690
 clear A690
 simp only [Option.some.injEq, Prod.mk.injEq] at H
 obtain ⟨rfl, rfl, rfl, rfl, rfl, rfl, rfl⟩ := H
 go_wp2_with (first | ((with_reducible refine zgd 35 ?_); refine Kd.R_lit Kd.string _ 9 ?hg (N := 35) ?hd (xs := ([(⟨#[]⟩ : ByteArray), (⟨#[99, 111, 110, 115, 116]⟩ : ByteArray), (⟨#[110, 111, 112]⟩ : ByteArray), (⟨#[115, 101, 116]⟩ : ByteArray), (⟨#[108, 101, 97]⟩ : ByteArray)] : List ByteArray)) (inner := [.string (⟨#[]⟩ : ByteArray), .string (⟨#[99, 111, 110, 115, 116]⟩ : ByteArray), .string (⟨#[110, 111, 112]⟩ : ByteArray), .string (⟨#[115, 101, 116]⟩ : ByteArray), .string (⟨#[108, 101, 97]⟩ : ByteArray)]) (ok := fun _ => True) (okp := fun _ => True) ?hr ?hp (fun _ hk => hk) trivial (Below.refl _ _) (zlr _) (by simp) ?_; (case hd => rfl); (case hg => rfl); (case hr => go_simp <;> rfl); (case hp => exact (zam (show Kd.M Kd.string _ _ _ (⟨#[]⟩ : ByteArray) [.string (⟨#[]⟩ : ByteArray)] from rfl) (zam (show Kd.M Kd.string _ _ _ (⟨#[99, 111, 110, 115, 116]⟩ : ByteArray) [.string (⟨#[99, 111, 110, 115, 116]⟩ : ByteArray)] from rfl) (zam (show Kd.M Kd.string _ _ _ (⟨#[110, 111, 112]⟩ : ByteArray) [.string (⟨#[110, 111, 112]⟩ : ByteArray)] from rfl) (zam (show Kd.M Kd.string _ _ _ (⟨#[115, 101, 116]⟩ : ByteArray) [.string (⟨#[115, 101, 116]⟩ : ByteArray)] from rfl) (zam (show Kd.M Kd.string _ _ _ (⟨#[108, 101, 97]⟩ : ByteArray) [.string (⟨#[108, 101, 97]⟩ : ByteArray)] from rfl) (Reps.none _ _))))))); intro v138 w77 ho78 hb hg_ hnew_; clear hg_ hnew_; (first | rw [← Ny137.out] at ho78 | (simp only [Int.reduceToNat] at ho78; rw [← Ny137.out] at ho78)); have HO139 := zA (Kd.R_lower ho78 (ze4 (w := w) (g := g) (row := none) (zq11 GW101 GW109))); replace BK101 := zbb BK101 hb; replace BK109 := zbb BK109 hb; replace HK := zA (KeepBut.trans (zq11 GW101 GW109) (zcd hb g none) (.inl rfl)); replace HB := zA (zab (zq14 HI0 GE101 GE109) hb); replace HI0 := zA (IsS63.below (zq12 HI0 NB0_101 NB0_109) hb); clear hb ho78; obtain ⟨Ao79, co79, eo79⟩ := Kd.R_slice HO139.out; subst eo79) | ((with_reducible refine zgc 153 ?_); refine zca 36 Tryz.func153 #[.pointer (some ⟨g, 0, none⟩), .slice Ao79 y137.length co79] (znn g s0_0 t111 t112 _ _ y137 t140 t141 t142 w0 _ (zq12 HI0 NB0_101 NB0_109) (zq14 HI0 GE101 GE109) (zq19 HO139) (zq48 HO139) (zq47 HI0 HO139) A69.out) ?_; rintro e w80 ⟨rfl, hi, hb, hk⟩; refine ⟨_, rfl, ?_⟩; replace BK101 := zA (KeepBut.blk hk (g' := gb101) (o := .cells #[.string (⟨#[]⟩ : ByteArray), .int .i64 0, .int .i64 0, .int .i64 0, .int .i64 0] 55 (0, 0)) (zq8 BK101) NB101_0.out (by simp)); replace BK109 := zA (KeepBut.blk hk (g' := gb109) (o := .cells #[.string t102, .int .i64 t103, .int .i64 t104, .int .i64 t105, .int .i64 t106] 55 (0, 0)) (zq8 BK109) NB109_0.out (by simp)); replace HO139 := zA (Kd.R_mono (Kd.R_keep (IsS63.apart (show IsS63 w0 _ g s0_0 t111 t112 from by repeat (first | (with_reducible first | exact HI0.out | apply IsS63.alloc | apply IsS63.drewN | apply IsS63.drew | apply zav | apply zaw | refine zfn ?_ NB0_101.out _ | refine zfn ?_ NB0_109.out _) | exact HI0.out)) (zq2 HO139) (by decide)) hk (fun _ h => h.2)) (fun _ h => h.1)); replace HK := zA (KeepBut.trans (zq11 GW101 GW109) hk (.inl rfl)); replace HB := zA (hb); replace HI0 := zA (hi); (try clear hb); (try clear hk); (try clear hi); obtain ⟨hcz81_0, hcz81_1, hcz81_2, hcz81_3, hcz81_4⟩ := zc5 w80 (.string t102) (.int .i64 t103) (.int .i64 t104) (.int .i64 t105) (.int .i64 t106) BK109.out; obtain ⟨hfz81_0, hfz81_1, hfz81_2, hfz81_3, hfz81_4⟩ := zf5 BK109.out; have hnb82 := NB101_0.out; have hnc82 := NB0_101.out; obtain ⟨hcz83_0, hcz83_1, hcz83_2, hcz83_3, hcz83_4⟩ := zc5 w80 (.string (⟨#[]⟩ : ByteArray)) (.int .i64 0) (.int .i64 0) (.int .i64 0) (.int .i64 0) BK101.out; obtain ⟨hfz83_0, hfz83_1, hfz83_2, hfz83_3, hfz83_4⟩ := zf5 BK101.out))
 refine bodyPost_ret (results_cell_row rfl _ _ gb101 55 #[.string t140, .int .i64 t103, .int .i64 t104, .int .i64 t105, .int .i64 t106] (0, 0) _ rfl (by (with_reducible repeat (first | refine zkn ?_ _ | refine zkd ?_ | refine zka ?_ _)); refine za3 (cs := #[.string t140, .int .i64 t103, .int .i64 t104, .int .i64 t105, .int .i64 0]) ?_ 4 _ rfl; (with_reducible repeat (first | refine zkn ?_ _ | refine zkd ?_ | refine zka ?_ _)); refine za3 (cs := #[.string t140, .int .i64 t103, .int .i64 t104, .int .i64 0, .int .i64 0]) ?_ 3 _ rfl; (with_reducible repeat (first | refine zkn ?_ _ | refine zkd ?_ | refine zka ?_ _)); refine za3 (cs := #[.string t140, .int .i64 t103, .int .i64 0, .int .i64 0, .int .i64 0]) ?_ 2 _ rfl; (with_reducible repeat (first | refine zkn ?_ _ | refine zkd ?_ | refine zka ?_ _)); refine za3 (cs := #[.string t140, .int .i64 0, .int .i64 0, .int .i64 0, .int .i64 0]) ?_ 1 _ rfl; (with_reducible repeat (first | refine zkn ?_ _ | refine zkd ?_ | refine zka ?_ _)); refine za3 (cs := #[.string (⟨#[]⟩ : ByteArray), .int .i64 0, .int .i64 0, .int .i64 0, .int .i64 0]) ?_ 0 _ rfl; (with_reducible repeat (first | refine zkn ?_ _ | refine zkd ?_ | refine zka ?_ _)); refine za2 ?_ NB101_109.out _; (with_reducible repeat (first | refine zkn ?_ _ | refine zkd ?_ | refine zka ?_ _)); exact BK101.out) Tryz.underlying55 rfl zq27) rfl ?_
 exact ⟨zq5, zq12 HI0 NB0_101 NB0_109, zq14 HI0 GE101 GE109, zq11 GW101 GW109⟩
def zc3 : Nat → Int → List (S55) → Int → List Int → Int → Int → Option ((List (S55)) × Int × Int)
 | 0, _, _, _, _, _, _ => none
 | k + 1, x2, x7, x8, x1000, x1001, x1002 => if x8 > 0 then ((zeb k x1000 x1001 x1002 x2).bind fun bt104 => (if x7.length < 2932031007402 then (zc3 k x2 (x7 ++ [(⟨bt104.1, bt104.2.1, bt104.2.2.1, bt104.2.2.2.1, bt104.2.2.2.2.1⟩ : S55)]) (wrap64 (x8 - 1)) x1000 bt104.2.2.2.2.2.1 bt104.2.2.2.2.2.2) else (none))) else (some (x7, x1001, x1002))
def zeu (k : Nat) (s0_0 : List Int) (s0_1 : Int) (s0_2 : Int) (a1 : Int) (a2 : Int) : Option ((List (S55)) × Int × Int) := (zbu s0_0 s0_1 s0_2 (wrap64 (a1 + 1))).bind fun bt101 => (zc3 k a2 ([] : List (S55)) bt101.1 s0_0 bt101.2.1 bt101.2.2)
theorem zls : ∀ k, (∀ y0 y1 y2 y3 y4 y5, LeO (zc3 k y0 y1 y2 y3 y4 y5) (zc3 (k + 1) y0 y1 y2 y3 y4 y5))
 | 0 => fun _ _ _ _ _ _ r h => by simp [zc3] at h
 | k + 1 => by
   have ih0 := zls k
   · intro y0 y1 y2 y3 y4 y5
     unfold zc3
     exact zm2 ih0 zhe
theorem zj3 : ∀ a0 a1 a2 a3 a4 k, LeO (zeu k a0 a1 a2 a3 a4) (zeu (k + 1) a0 a1 a2 a3 a4) := by
 intro a0 a1 a2 a3 a4 k
 have ih0 := zls k
 unfold zeu
 exact zm2 ih0 zhe
theorem zl2 (k : Nat) (g : Nat) (s0_0 : List Int) (s0_1 : Int) (s0_2 : Int) (a1 : Int) (a2 : Int) (r1 : List (S55)) (r2 : Int) (r3 : Int) (w0 w : World) (hI : IsS63 w0 w g s0_0 s0_1 s0_2) (hB : Below w0.heap.size w0 w) (h : zeu k s0_0 s0_1 s0_2 a1 a2 = some (r1, r2, r3)) :
   Calls Tryz.prog 116 #[.pointer (some ⟨g, 0, none⟩), .int .i64 a1, .int .i64 a2] w fun e w' => ∃ v0_ : Value, e = .returned (v0_) ∧ Kd.R k55 55 w' w.heap.size (fun _ => True) v0_ r1 ∧ IsS63 w0 w' g s0_0 r2 r3 ∧ Below w0.heap.size w0 w' ∧ KeepBut w w' g none := by
 have HI0 := zA hI
 have HK := zA (KeepBut.refl w g none)
 have HL := zA hB.size
 clear hI
 have HW0 := zA hB.size
 have HB := zA hB
 clear hB
 have H := h
 unfold zeu at H
 clear h
 replace H := zob H
 obtain ⟨⟨t101, t102, t103⟩, A40, H⟩ := H
 have A4 := zA A40
 clear A40
 have H' := zA H
 clear H
 go_enter Tryz.func116, Tryz.ntmps116
 go_wp2_with (first | ((with_reducible refine zgc 98 ?_); refine zca 12 Tryz.func98 #[.pointer (some ⟨g, 0, none⟩), .int .i64 (wrap64 (a1 + 1))] (za8 g s0_0 s0_1 s0_2 (wrap64 (a1 + 1)) t101 t102 t103 w0 _ (zq4 HI0) (zq6 HI0) A4.out) ?_; rintro e w5 ⟨rfl, hi, hb, hk⟩; refine ⟨_, rfl, ?_⟩; replace HK := zA (KeepBut.trans zq3 hk (.inl rfl)); replace HB := zA (hb); replace HI0 := zA (hi); (try clear hb); (try clear hk); (try clear hi)))
 try go_simp
 go_loopg [7, 8] k (fun kq v7 v8 w' => ∃ (x7_1 : List (S55)) (x8_1 : Int) (x1001_1 : Int) (x1002_1 : Int), v8 = .int .i64 x8_1 ∧ Aside0 (zc3 kq a2 x7_1 x8_1 s0_0 x1001_1 x1002_1 = some (r1, r2, r3)) ∧ Aside0 (kq ≤ k) ∧ Aside0 (Kd.R k55 55 w' w.heap.size (fun _ => True) v7 x7_1) ∧ Aside0 (IsS63 w0 w' g s0_0 x1001_1 x1002_1) ∧ Aside0 (KeepBut w w' g none) ∧ Aside0 (Below w0.heap.size w0 w'))
 case atStart => exact ⟨(([] : List (S55))), (t101), (t102), (t103), zq7, H', ⟨zlr _⟩, ⟨zq25⟩, ⟨zq4 HI0⟩, ⟨zq3⟩, ⟨zq6 HI0⟩⟩
 clear H'
 obtain ⟨x7_1, x8_1, x1001_1, x1002_1, rfl, HA, HK1, HO_7, HI0, HK, HB⟩ := hrel
 cases gk with
 | zero => exact absurd HA.out (by simp [zc3])
 | succ k1 =>
 have H := HA.out
 clear HA
 simp only [zc3] at H
 by_cases c6 : x8_1 > 0
 rotate_left
 · rw [if_neg c6] at H
   have c6b0 := zdf c6
   clear c6
   simp only [Option.some.injEq, Prod.mk.injEq] at H
   obtain ⟨rfl, rfl, rfl⟩ := H
   go_wp2
   go_ret
   exact ⟨_, zq5, zq2 HO_7, zq4 HI0, zq6 HI0, zq3⟩
 rw [if_pos c6] at H
 have c6b0 := zdt c6
 clear c6
 replace H := zob H
 obtain ⟨⟨t104, t105, t106, t107, t108, t109, t110⟩, A70, H⟩ := H
 have A7 := zA A70
 clear A70
 by_cases c8 : x7_1.length < 2932031007402
 rotate_left
 · rw [if_neg c8] at H
   exact absurd H (by simp)
 rw [if_pos c8] at H
 have LMc8 := zA c8
 clear c8
 obtain ⟨y111, hy111⟩ : ∃ y_ : List (S55), y_ = (x7_1 ++ [(⟨t104, t105, t106, t107, t108⟩ : S55)]) := ⟨_, rfl⟩
 rw [← hy111] at H; try with_reducible replace H := zbs H
 have Ny111 := zA hy111
 clear hy111
 have H' := zA H
 clear H
 go_wp2_with (first | ((with_reducible refine zgc 139 ?_); refine zca 20 Tryz.func139 #[.pointer (some ⟨g, 0, none⟩), .int .i64 a2] (zjm k1 g s0_0 x1001_1 x1002_1 a2 t104 t105 t106 t107 t108 t109 t110 w0 _ (zq4 HI0) (zq6 HI0) A7.out) ?_; rintro e w9 ⟨rfl, hi, hb, hk⟩; refine ⟨_, rfl, ?_⟩; replace HO_7 := zA (Kd.R_mono (Kd.R_keep (IsS63.apart (show IsS63 w0 _ g s0_0 x1001_1 x1002_1 from by repeat (first | (with_reducible first | exact HI0.out | apply IsS63.alloc | apply IsS63.drewN | apply IsS63.drew | apply zav | apply zaw) | exact HI0.out)) (zq2 HO_7) (by decide)) hk (fun _ h => h.2)) (fun _ h => h.1)); replace HK := zA (KeepBut.trans zq3 hk (.inl rfl)); replace HB := zA (hb); replace HI0 := zA (hi); (try clear hb); (try clear hk); (try clear hi)) | ((with_reducible refine zci (b := .append) (xs := #[.tmp 17, .tmp 21]) rfl ?_); at_builtin; refine Kd.R_append k55 w.heap.size rfl (.tmp 17) (.tmp 21) 24 55 (.agg #[(.string ⟨#[]⟩), (.int .i64 0), (.int .i64 0), (.int .i64 0), (.int .i64 0)]) 48 rfl Tryz.underlying24 zv6 rfl (by decide) (by omega) u7 x7_1 (⟨t104, t105, t106, t107, t108⟩ : S55) [.string t104, .int .i64 t105, .int .i64 t106, .int .i64 t107, .int .i64 t108] (fun _ => True) (fun _ => False) rfl rfl ?aP (fun _ hk => hk.elim) ?aF ?aO (Below.refl _ _) ?aS ?aL ?_; (case aP => exact zu9 _ _ _ (⟨t104, t105, t106, t107, t108⟩ : S55)); (case aF => exact (fun _ _ => trivial)); (case aO => exact (zq2 HO_7)); (case aS => exact (ze4 (w := w) (g := g) (row := none) zq3)); (case aL => have := LMc8.out; omega); intro v112 w10 ho hb hg hat; rw [← Ny111.out] at ho; replace HB := zA (zhi (zq6 HI0) HL.out hb); replace HI0 := zA (IsS63.grown (zq4 HI0) hg (zi8 HI0.out HO_7.out (by decide))); replace HK := zA (KeepBut.trans zq3 (zgn hg g) (Kd.R_base2 HO_7.out)); have HO113 := zA (ho); clear HO_7; clear ho hb hg hat))
 go_roundg k1
 case measure => have := HK1.out; omega
 case rel => exact ⟨(y111), (wrap64 (x8_1 - 1)), (t109), (t110), zq7, H', ⟨zq51 HK1⟩, ⟨zq2 HO113⟩, ⟨zq4 HI0⟩, ⟨zq3⟩, ⟨zq6 HI0⟩⟩
def zcc : Nat → List (S55) → List Int → Int → Int → Option ((List (S55)) × Int × Int)
 | 0, _, _, _, _ => none
 | k + 1, x5, x1000, x1001, x1002 => (zbu x1000 x1001 x1002 2).bind fun bt122 => (if (x5.length : Int) < (wrap64 (40 + bt122.1)) then ((zeb k x1000 bt122.2.1 bt122.2.2 3).bind fun bt125 => (if x5.length < 2932031007402 then (zcc k (x5 ++ [(⟨bt125.1, bt125.2.1, bt125.2.2.1, bt125.2.2.2.1, bt125.2.2.2.2.1⟩ : S55)]) x1000 bt125.2.2.2.2.2.1 bt125.2.2.2.2.2.2) else (none))) else (some (x5, bt122.2.1, bt122.2.2)))
def zet (k : Nat) (s0_0 : List Int) (s0_1 : Int) (s0_2 : Int) (a1 : Int) : Option ((List (S55)) × Int × Int) := (zbu s0_0 s0_1 s0_2 5).bind fun bt101 => ((zeu k s0_0 bt101.2.1 bt101.2.2 a1 (wrap64 (2 + bt101.1))).bind fun bt104 => ((zbu s0_0 bt104.2.1 bt104.2.2 14).bind fun bt109 => (if bt109.1 = 0 then ((zef k s0_0 bt109.2.1 bt109.2.2).bind fun bt112 => (if bt104.1.length < 2932031007402 then (some ((bt104.1 ++ [(⟨bt112.1, bt112.2.1, bt112.2.2.1, bt112.2.2.2.1, bt112.2.2.2.2.1⟩ : S55)]), bt112.2.2.2.2.2.1, bt112.2.2.2.2.2.2)) else (none))) else (if bt109.1 = 1 then (zcc k bt104.1 s0_0 bt109.2.1 bt109.2.2) else (some (bt104.1, bt109.2.1, bt109.2.2))))))
theorem zkt : ∀ k, (∀ y0 y1 y2 y3, LeO (zcc k y0 y1 y2 y3) (zcc (k + 1) y0 y1 y2 y3))
 | 0 => fun _ _ _ _ r h => by simp [zcc] at h
 | k + 1 => by
   have ih0 := zkt k
   · intro y0 y1 y2 y3
     unfold zcc
     exact zm4 ih0 zlh zj3 zhe
theorem zoz : ∀ a0 a1 a2 a3 k, LeO (zet k a0 a1 a2 a3) (zet (k + 1) a0 a1 a2 a3) := by
 intro a0 a1 a2 a3 k
 have ih0 := zkt k
 unfold zet
 exact zm4 ih0 zlh zj3 zhe
theorem zos (k : Nat) (g : Nat) (s0_0 : List Int) (s0_1 : Int) (s0_2 : Int) (a1 : Int) (r1 : List (S55)) (r2 : Int) (r3 : Int) (w0 w : World) (hI : IsS63 w0 w g s0_0 s0_1 s0_2) (hB : Below w0.heap.size w0 w) (h : zet k s0_0 s0_1 s0_2 a1 = some (r1, r2, r3)) :
   Calls Tryz.prog 115 #[.pointer (some ⟨g, 0, none⟩), .int .i64 a1] w fun e w' => ∃ v0_ : Value, e = .returned (v0_) ∧ Kd.R k55 55 w' w.heap.size (fun _ => True) v0_ r1 ∧ IsS63 w0 w' g s0_0 r2 r3 ∧ Below w0.heap.size w0 w' ∧ KeepBut w w' g none := by
 have HI0 := zA hI
 have HK := zA (KeepBut.refl w g none)
 have HL := zA hB.size
 clear hI
 have HW0 := zA hB.size
 have HB := zA hB
 clear hB
 have H := h
 unfold zet at H
 clear h
 replace H := zob H
 obtain ⟨⟨t101, t102, t103⟩, A30, H⟩ := H
 have A3 := zA A30
 clear A30
 replace H := zob H
 obtain ⟨⟨t104, t107, t108⟩, A40, H⟩ := H
 have A4 := zA A40
 clear A40
 replace H := zob H
 obtain ⟨⟨t109, t110, t111⟩, A50, H⟩ := H
 have A5 := zA A50
 clear A50
 have HCC := zA H
 clear H
 go_enter Tryz.func115, Tryz.ntmps115
 go_upto_if 14 with (first | ((with_reducible refine zgc 98 ?_); refine zca 9 Tryz.func98 #[.pointer (some ⟨g, 0, none⟩), .int .i64 5] (za8 g s0_0 s0_1 s0_2 5 t101 t102 t103 w0 _ (zq4 HI0) (zq6 HI0) A3.out) ?_; rintro e w28 ⟨rfl, hi, hb, hk⟩; refine ⟨_, rfl, ?_⟩; replace HK := zA (KeepBut.trans zq3 hk (.inl rfl)); replace HB := zA (hb); replace HI0 := zA (hi); (try clear hb); (try clear hk); (try clear hi)) | ((with_reducible refine zgc 116 ?_); refine zca 11 Tryz.func116 #[.pointer (some ⟨g, 0, none⟩), .int .i64 a1, .int .i64 (wrap64 (2 + t101))] (zl2 k g s0_0 t102 t103 a1 (wrap64 (2 + t101)) t104 t107 t108 w0 _ (zq4 HI0) (zq6 HI0) A4.out) ?_; rintro e w29 ⟨v105, rfl, ho0, hi, hb, hk⟩; refine ⟨_, rfl, ?_⟩; have HO106 := zA (Kd.R_lower ho0 (ze4 (w := w) (g := g) (row := none) zq3)); replace HK := zA (KeepBut.trans zq3 hk (.inl rfl)); replace HB := zA (hb); replace HI0 := zA (hi); (try clear hb); (try clear hk); (try clear hi); (try clear ho0)) | ((with_reducible refine zgc 98 ?_); refine zca 13 Tryz.func98 #[.pointer (some ⟨g, 0, none⟩), .int .i64 14] (za8 g s0_0 t107 t108 14 t109 t110 t111 w0 _ (zq4 HI0) (zq6 HI0) A5.out) ?_; rintro e w30 ⟨rfl, hi, hb, hk⟩; refine ⟨_, rfl, ?_⟩; replace HO106 := zA (Kd.R_mono (Kd.R_keep (IsS63.apart (show IsS63 w0 _ g s0_0 t107 t108 from by repeat (first | (with_reducible first | exact HI0.out | apply IsS63.alloc | apply IsS63.drewN | apply IsS63.drew | apply zav | apply zaw) | exact HI0.out)) (zq2 HO106) (by decide)) hk (fun _ h => h.2)) (fun _ h => h.1)); replace HK := zA (KeepBut.trans zq3 hk (.inl rfl)); replace HB := zA (hb); replace HI0 := zA (hi); (try clear hb); (try clear hk); (try clear hi)))
 have H := HCC.out
 clear HCC
 by_cases c6 : t109 = 0
 · rw [if_pos c6] at H
   obtain ⟨c6b0, c6b1⟩ := zbe c6
   clear c6
   replace H := zob H
   obtain ⟨⟨t112, t113, t114, t115, t116, t117, t118⟩, A70, H⟩ := H
   have A7 := zA A70
   clear A70
   by_cases c8 : t104.length < 2932031007402
   rotate_left
   · rw [if_neg c8] at H
     exact absurd H (by simp)
   rw [if_pos c8] at H
   have LMc8 := zA c8
   clear c8
   obtain ⟨y119, hy119⟩ : ∃ y_ : List (S55), y_ = (t104 ++ [(⟨t112, t113, t114, t115, t116⟩ : S55)]) := ⟨_, rfl⟩
   rw [← hy119] at H; try with_reducible replace H := zbs H
   have Ny119 := zA hy119
   clear hy119
   simp only [Option.some.injEq, Prod.mk.injEq] at H
   obtain ⟨rfl, rfl, rfl⟩ := H
   go_wp2_with (first | ((with_reducible refine zgc 138 ?_); refine zca 18 Tryz.func138 #[.pointer (some ⟨g, 0, none⟩)] (zog k g s0_0 t110 t111 t112 t113 t114 t115 t116 t117 t118 w0 _ (zq4 HI0) (zq6 HI0) A7.out) ?_; rintro e w12 ⟨rfl, hi, hb, hk⟩; refine ⟨_, rfl, ?_⟩; replace HO106 := zA (Kd.R_mono (Kd.R_keep (IsS63.apart (show IsS63 w0 _ g s0_0 t110 t111 from by repeat (first | (with_reducible first | exact HI0.out | apply IsS63.alloc | apply IsS63.drewN | apply IsS63.drew | apply zav | apply zaw) | exact HI0.out)) (zq2 HO106) (by decide)) hk (fun _ h => h.2)) (fun _ h => h.1)); replace HK := zA (KeepBut.trans zq3 hk (.inl rfl)); replace HB := zA (hb); replace HI0 := zA (hi); (try clear hb); (try clear hk); (try clear hi)) | ((with_reducible refine zci (b := .append) (xs := #[.tmp 16, .tmp 19]) rfl ?_); at_builtin; refine Kd.R_append k55 w.heap.size rfl (.tmp 16) (.tmp 19) 24 55 (.agg #[(.string ⟨#[]⟩), (.int .i64 0), (.int .i64 0), (.int .i64 0), (.int .i64 0)]) 48 rfl Tryz.underlying24 zv6 rfl (by decide) (by omega) v105 t104 (⟨t112, t113, t114, t115, t116⟩ : S55) [.string t112, .int .i64 t113, .int .i64 t114, .int .i64 t115, .int .i64 t116] (fun _ => True) (fun _ => False) rfl rfl ?aP (fun _ hk => hk.elim) ?aF ?aO (Below.refl _ _) ?aS ?aL ?_; (case aP => exact zu9 _ _ _ (⟨t112, t113, t114, t115, t116⟩ : S55)); (case aF => exact (fun _ _ => trivial)); (case aO => exact (zq2 HO106)); (case aS => exact (ze4 (w := w) (g := g) (row := none) zq3)); (case aL => have := LMc8.out; omega); intro v120 w13 ho hb hg hat; rw [← Ny119.out] at ho; replace HB := zA (zhi (zq6 HI0) HL.out hb); replace HI0 := zA (IsS63.grown (zq4 HI0) hg (zi8 HI0.out HO106.out (by decide))); replace HK := zA (KeepBut.trans zq3 (zgn hg g) (Kd.R_base2 HO106.out)); have HO121 := zA (ho); clear HO106; clear ho hb hg hat))
   go_ret
   exact ⟨_, zq5, zq2 HO121, zq4 HI0, zq6 HI0, zq3⟩
 rw [if_neg c6] at H
 obtain ⟨c6b0, c6b1⟩ := zbq c6
 by_cases c14 : t109 = 1
 rotate_left
 · rw [if_neg c14] at H
   obtain ⟨c14b0, c14b1⟩ := zbq c14
   simp only [Option.some.injEq, Prod.mk.injEq] at H
   obtain ⟨rfl, rfl, rfl⟩ := H
   go_wp2_with fail
   go_ret
   exact ⟨_, zq5, zq2 HO106, zq4 HI0, zq6 HI0, zq3⟩
 rw [if_pos c14] at H
 obtain ⟨c14b0, c14b1⟩ := zbe c14
 clear c14
 have H' := zA H
 clear H
 go_wp2_with fail
 try go_simp
 go_loopg [5] k (fun kq v5 w' => ∃ (x5_1 : List (S55)) (x1001_1 : Int) (x1002_1 : Int), Aside0 (zcc kq x5_1 s0_0 x1001_1 x1002_1 = some (r1, r2, r3)) ∧ Aside0 (kq ≤ k) ∧ Aside0 (Kd.R k55 55 w' w.heap.size (fun _ => True) v5 x5_1) ∧ Aside0 (IsS63 w0 w' g s0_0 x1001_1 x1002_1) ∧ Aside0 (KeepBut w w' g none) ∧ Aside0 (Below w0.heap.size w0 w'))
 case atStart => exact ⟨(t104), (t110), (t111), H', ⟨zlr _⟩, ⟨zq2 HO106⟩, ⟨zq4 HI0⟩, ⟨zq3⟩, ⟨zq6 HI0⟩⟩
 clear H'
 obtain ⟨x5_1, x1001_1, x1002_1, HA, HK1, HO_5, HI0, HK, HB⟩ := hrel
 cases gk with
 | zero => exact absurd HA.out (by simp [zcc])
 | succ k1 =>
 have H := HA.out
 clear HA
 simp only [zcc] at H
 replace H := zob H
 obtain ⟨⟨t122, t123, t124⟩, A180, H⟩ := H
 have A18 := zA A180
 clear A180
 revert H
 refine zit (fun c19 H => ?_) fun c19 H => ?_
 rotate_left
 · simp only [Option.some.injEq, Prod.mk.injEq] at H
   obtain ⟨rfl, rfl, rfl⟩ := H
   obtain ⟨Ao26, co26, eo26⟩ := Kd.R_slice HO_5.out
   subst eo26
   go_wp2_with (first | ((with_reducible refine zgc 98 ?_); refine zca 26 Tryz.func98 #[.pointer (some ⟨g, 0, none⟩), .int .i64 2] (za8 g s0_0 x1001_1 x1002_1 2 t122 t123 t124 w0 _ (zq4 HI0) (zq6 HI0) A18.out) ?_; rintro e w27 ⟨rfl, hi, hb, hk⟩; refine ⟨_, rfl, ?_⟩; replace HO_5 := zA (Kd.R_mono (Kd.R_keep (IsS63.apart (show IsS63 w0 _ g s0_0 x1001_1 x1002_1 from by repeat (first | (with_reducible first | exact HI0.out | apply IsS63.alloc | apply IsS63.drewN | apply IsS63.drew | apply zav | apply zaw) | exact HI0.out)) (zq2 HO_5) (by decide)) hk (fun _ h => h.2)) (fun _ h => h.1)); replace HK := zA (KeepBut.trans zq3 hk (.inl rfl)); replace HB := zA (hb); replace HI0 := zA (hi); (try clear hb); (try clear hk); (try clear hi)))
   go_ret
   exact ⟨_, zq5, zq2 HO_5, zq4 HI0, zq6 HI0, zq3⟩
 replace H := zob H
 obtain ⟨⟨t125, t126, t127, t128, t129, t130, t131⟩, A200, H⟩ := H
 have A20 := zA A200
 clear A200
 by_cases c21 : x5_1.length < 2932031007402
 rotate_left
 · rw [if_neg c21] at H
   exact absurd H (by simp)
 rw [if_pos c21] at H
 have LMc21 := zA c21
 clear c21
 obtain ⟨y132, hy132⟩ : ∃ y_ : List (S55), y_ = (x5_1 ++ [(⟨t125, t126, t127, t128, t129⟩ : S55)]) := ⟨_, rfl⟩
 rw [← hy132] at H; try with_reducible replace H := zbs H
 have Ny132 := zA hy132
 clear hy132
 have H' := zA H
 clear H
 obtain ⟨Ao22, co22, eo22⟩ := Kd.R_slice HO_5.out
 subst eo22
 go_wp2_with (first | ((with_reducible refine zgc 98 ?_); refine zca 26 Tryz.func98 #[.pointer (some ⟨g, 0, none⟩), .int .i64 2] (za8 g s0_0 x1001_1 x1002_1 2 t122 t123 t124 w0 _ (zq4 HI0) (zq6 HI0) A18.out) ?_; rintro e w23 ⟨rfl, hi, hb, hk⟩; refine ⟨_, rfl, ?_⟩; replace HO_5 := zA (Kd.R_mono (Kd.R_keep (IsS63.apart (show IsS63 w0 _ g s0_0 x1001_1 x1002_1 from by repeat (first | (with_reducible first | exact HI0.out | apply IsS63.alloc | apply IsS63.drewN | apply IsS63.drew | apply zav | apply zaw) | exact HI0.out)) (zq2 HO_5) (by decide)) hk (fun _ h => h.2)) (fun _ h => h.1)); replace HK := zA (KeepBut.trans zq3 hk (.inl rfl)); replace HB := zA (hb); replace HI0 := zA (hi); (try clear hb); (try clear hk); (try clear hi)) | ((with_reducible refine zgc 139 ?_); refine zca 31 Tryz.func139 #[.pointer (some ⟨g, 0, none⟩), .int .i64 3] (zjm k1 g s0_0 t123 t124 3 t125 t126 t127 t128 t129 t130 t131 w0 _ (zq4 HI0) (zq6 HI0) A20.out) ?_; rintro e w24 ⟨rfl, hi, hb, hk⟩; refine ⟨_, rfl, ?_⟩; replace HO_5 := zA (Kd.R_mono (Kd.R_keep (IsS63.apart (show IsS63 w0 _ g s0_0 t123 t124 from by repeat (first | (with_reducible first | exact HI0.out | apply IsS63.alloc | apply IsS63.drewN | apply IsS63.drew | apply zav | apply zaw) | exact HI0.out)) (zq2 HO_5) (by decide)) hk (fun _ h => h.2)) (fun _ h => h.1)); replace HK := zA (KeepBut.trans zq3 hk (.inl rfl)); replace HB := zA (hb); replace HI0 := zA (hi); (try clear hb); (try clear hk); (try clear hi)) | ((with_reducible refine zci (b := .append) (xs := #[.tmp 29, .tmp 32]) rfl ?_); at_builtin; refine Kd.R_append k55 w.heap.size rfl (.tmp 29) (.tmp 32) 24 55 (.agg #[(.string ⟨#[]⟩), (.int .i64 0), (.int .i64 0), (.int .i64 0), (.int .i64 0)]) 48 rfl Tryz.underlying24 zv6 rfl (by decide) (by omega) (.slice Ao22 x5_1.length co22) x5_1 (⟨t125, t126, t127, t128, t129⟩ : S55) [.string t125, .int .i64 t126, .int .i64 t127, .int .i64 t128, .int .i64 t129] (fun _ => True) (fun _ => False) rfl rfl ?aP (fun _ hk => hk.elim) ?aF ?aO (Below.refl _ _) ?aS ?aL ?_; (case aP => exact zu9 _ _ _ (⟨t125, t126, t127, t128, t129⟩ : S55)); (case aF => exact (fun _ _ => trivial)); (case aO => exact (zq2 HO_5)); (case aS => exact (ze4 (w := w) (g := g) (row := none) zq3)); (case aL => have := LMc21.out; omega); intro v133 w25 ho hb hg hat; rw [← Ny132.out] at ho; replace HB := zA (zhi (zq6 HI0) HL.out hb); replace HI0 := zA (IsS63.grown (zq4 HI0) hg (zi8 HI0.out HO_5.out (by decide))); replace HK := zA (KeepBut.trans zq3 (zgn hg g) (Kd.R_base2 HO_5.out)); have HO134 := zA (ho); clear HO_5; clear ho hb hg hat))
 go_roundg k1
 case measure => have := HK1.out; omega
 case rel => exact ⟨(y132), (t130), (t131), H', ⟨zq51 HK1⟩, ⟨zq2 HO134⟩, ⟨zq4 HI0⟩, ⟨zq3⟩, ⟨zq6 HI0⟩⟩
def zd0 (k : Nat) (s0_0 : List Int) (s0_1 : Int) (s0_2 : Int) (a1 : Int) : Option ((List (S55)) × Int × Int) := (ze9 s0_0 s0_1 s0_2 15).bind fun bt101 => (if bt101.1 = true then ((zet k s0_0 bt101.2.1 bt101.2.2 a1).bind fun bt104 => (some (bt104.1, bt104.2.1, bt104.2.2))) else ((zco s0_0 bt101.2.1 bt101.2.2 (([3, 4, 6] : List Int))).bind fun bt112 => ((zeu k s0_0 bt112.2.1 bt112.2.2 a1 bt112.1).bind fun bt115 => (some (bt115.1, bt115.2.1, bt115.2.2)))))
theorem zfh : ∀ a0 a1 a2 a3 k, LeO (zd0 k a0 a1 a2 a3) (zd0 (k + 1) a0 a1 a2 a3) := by
 intro a0 a1 a2 a3 k
 unfold zd0
 exact zm2 zoz zj3
theorem zli (k : Nat) (g : Nat) (s0_0 : List Int) (s0_1 : Int) (s0_2 : Int) (a1 : Int) (r1 : List (S55)) (r2 : Int) (r3 : Int) (w0 w : World) (hI : IsS63 w0 w g s0_0 s0_1 s0_2) (hB : Below w0.heap.size w0 w) (h : zd0 k s0_0 s0_1 s0_2 a1 = some (r1, r2, r3)) :
   Calls Tryz.prog 60 #[.pointer (some ⟨g, 0, none⟩), .int .i64 a1] w fun e w' => ∃ v0_ : Value, e = .returned (v0_) ∧ Kd.R k55 55 w' w.heap.size (fun _ => True) v0_ r1 ∧ IsS63 w0 w' g s0_0 r2 r3 ∧ Below w0.heap.size w0 w' ∧ KeepBut w w' g none := by
 have HI0 := zA hI
 have HK := zA (KeepBut.refl w g none)
 have HL := zA hB.size
 clear hI
 have HW0 := zA hB.size
 have HB := zA hB
 clear hB
 have H := h
 unfold zd0 at H
 clear h
 replace H := zob H
 obtain ⟨⟨t101, t102, t103⟩, A30, H⟩ := H
 have A3 := zA A30
 clear A30
 by_cases c4 : t101 = true
 · subst c4
   replace H := zih H
   replace H := zob H
   obtain ⟨⟨t104, t107, t108⟩, A50, H⟩ := H
   have A5 := zA A50
   clear A50
   simp only [Option.some.injEq, Prod.mk.injEq] at H
   obtain ⟨rfl, rfl, rfl⟩ := H
   go_enter Tryz.func60, Tryz.ntmps60
   go_wp2_with (first | ((with_reducible refine zgc 96 ?_); refine zca 6 Tryz.func96 #[.pointer (some ⟨g, 0, none⟩), .int .i64 15] (zes g s0_0 s0_1 s0_2 15 true t102 t103 w0 _ (zq4 HI0) (zq6 HI0) A3.out) ?_; rintro e w6 ⟨rfl, hi, hb, hk⟩; refine ⟨_, rfl, ?_⟩; replace HK := zA (KeepBut.trans zq3 hk (.inl rfl)); replace HB := zA (hb); replace HI0 := zA (hi); (try clear hb); (try clear hk); (try clear hi)) | ((with_reducible refine zgc 115 ?_); refine zca 9 Tryz.func115 #[.pointer (some ⟨g, 0, none⟩), .int .i64 a1] (zos k g s0_0 t102 t103 a1 t104 t107 t108 w0 _ (zq4 HI0) (zq6 HI0) A5.out) ?_; rintro e w7 ⟨v105, rfl, ho0, hi, hb, hk⟩; refine ⟨_, rfl, ?_⟩; have HO106 := zA (Kd.R_lower ho0 (ze4 (w := w) (g := g) (row := none) zq3)); replace HK := zA (KeepBut.trans zq3 hk (.inl rfl)); replace HB := zA (hb); replace HI0 := zA (hi); (try clear hb); (try clear hk); (try clear hi); (try clear ho0)))
   go_ret
   exact ⟨_, zq5, zq2 HO106, zq4 HI0, zq6 HI0, zq3⟩
 replace c4 := zbf c4
 subst c4
 replace H := zif H
 obtain ⟨y109, hy109⟩ : ∃ y_ : List Int, y_ = (([3, 4, 6] : List Int)) := ⟨_, rfl⟩
 rw [← hy109] at H; try with_reducible replace H := zbs H
 have Ny109 := zA hy109
 clear hy109
 replace H := zob H
 obtain ⟨⟨t112, t113, t114⟩, A80, H⟩ := H
 have A8 := zA A80
 clear A80
 replace H := zob H
 obtain ⟨⟨t115, t118, t119⟩, A90, H⟩ := H
 have A9 := zA A90
 clear A90
 simp only [Option.some.injEq, Prod.mk.injEq] at H
 obtain ⟨rfl, rfl, rfl⟩ := H
 go_enter Tryz.func60, Tryz.ntmps60
 go_wp2_with (first | ((with_reducible refine zgc 96 ?_); refine zca 6 Tryz.func96 #[.pointer (some ⟨g, 0, none⟩), .int .i64 15] (zes g s0_0 s0_1 s0_2 15 false t102 t103 w0 _ (zq4 HI0) (zq6 HI0) A3.out) ?_; rintro e w10 ⟨rfl, hi, hb, hk⟩; refine ⟨_, rfl, ?_⟩; replace HK := zA (KeepBut.trans zq3 hk (.inl rfl)); replace HB := zA (hb); replace HI0 := zA (hi); (try clear hb); (try clear hk); (try clear hi)) | ((with_reducible refine zgd 13 ?_); refine Kd.R_lit (Kd.int .i64) _ 3 ?hg (N := 13) ?hd (xs := ([3, 4, 6] : List Int)) (inner := [.int .i64 3, .int .i64 4, .int .i64 6]) (ok := fun _ => True) (okp := fun _ => True) ?hr ?hp (fun _ hk => hk) trivial (Below.refl _ _) (zlr _) (by simp) ?_; (case hd => rfl); (case hg => rfl); (case hr => go_simp <;> rfl); (case hp => exact (zam (show Kd.M (Kd.int .i64) _ _ _ 3 [.int .i64 3] from rfl) (zam (show Kd.M (Kd.int .i64) _ _ _ 4 [.int .i64 4] from rfl) (zam (show Kd.M (Kd.int .i64) _ _ _ 6 [.int .i64 6] from rfl) (Reps.none _ _))))); intro v110 w11 ho12 hb hg_ hnew_; clear hg_ hnew_; (first | rw [← Ny109.out] at ho12 | (simp only [Int.reduceToNat] at ho12; rw [← Ny109.out] at ho12)); have HO111 := zA (Kd.R_lower ho12 (ze4 (w := w) (g := g) (row := none) zq3)); replace HK := zA (KeepBut.trans zq3 (zcd hb g none) (.inl rfl)); replace HB := zA (zab (zq6 HI0) hb); replace HI0 := zA (IsS63.below (zq4 HI0) hb); clear hb ho12; obtain ⟨Ao13, co13, eo13⟩ := Kd.R_slice HO111.out; subst eo13) | ((with_reducible refine zgc 61 ?_); refine zca 14 Tryz.func61 #[.pointer (some ⟨g, 0, none⟩), .slice Ao13 y109.length co13] (zc0 g s0_0 t102 t103 _ _ y109 t112 t113 t114 w0 _ (zq4 HI0) (zq6 HI0) (zq19 HO111) (zq48 HO111) (zq47 HI0 HO111) A8.out) ?_; rintro e w14 ⟨rfl, hi, hb, hk⟩; refine ⟨_, rfl, ?_⟩; replace HO111 := zA (Kd.R_mono (Kd.R_keep (IsS63.apart (show IsS63 w0 _ g s0_0 t102 t103 from by repeat (first | (with_reducible first | exact HI0.out | apply IsS63.alloc | apply IsS63.drewN | apply IsS63.drew | apply zav | apply zaw) | exact HI0.out)) (zq2 HO111) (by decide)) hk (fun _ h => h.2)) (fun _ h => h.1)); replace HK := zA (KeepBut.trans zq3 hk (.inl rfl)); replace HB := zA (hb); replace HI0 := zA (hi); (try clear hb); (try clear hk); (try clear hi)) | ((with_reducible refine zgc 116 ?_); refine zca 15 Tryz.func116 #[.pointer (some ⟨g, 0, none⟩), .int .i64 a1, .int .i64 t112] (zl2 k g s0_0 t113 t114 a1 t112 t115 t118 t119 w0 _ (zq4 HI0) (zq6 HI0) A9.out) ?_; rintro e w15 ⟨v116, rfl, ho0, hi, hb, hk⟩; refine ⟨_, rfl, ?_⟩; replace HO111 := zA (Kd.R_mono (Kd.R_keep (IsS63.apart (show IsS63 w0 _ g s0_0 t113 t114 from by repeat (first | (with_reducible first | exact HI0.out | apply IsS63.alloc | apply IsS63.drewN | apply IsS63.drew | apply zav | apply zaw) | exact HI0.out)) (zq2 HO111) (by decide)) hk (fun _ h => h.2)) (fun _ h => h.1)); have HO117 := zA (Kd.R_lower ho0 (ze4 (w := w) (g := g) (row := none) zq3)); replace HK := zA (KeepBut.trans zq3 hk (.inl rfl)); replace HB := zA (hb); replace HI0 := zA (hi); (try clear hb); (try clear hk); (try clear hi); (try clear ho0)))
 go_ret
 exact ⟨_, zq5, zq2 HO117, zq4 HI0, zq6 HI0, zq3⟩
mutual
def zc4 : Nat → List (S55) → Int → List Int → Bool → List Int → Int → Int → Option ((List (S55)) × Int × List Int × Int × Int)
 | 0, _, _, _, _, _, _, _ => none
 | k + 1, x5, x6, x7, x25, x1000, x1001, x1002 => if x25 = true then (zc8 k x5 x6 ([] : List Int) (x5.length : Int) 0 x1000 x1001 x1002) else (zc7 k x5 x6 x7 x1000 x1001 x1002)
def zc7 : Nat → List (S55) → Int → List Int → List Int → Int → Int → Option ((List (S55)) × Int × List Int × Int × Int)
 | 0, _, _, _, _, _, _ => none
 | k + 1, x5, x6, x7, x1000, x1001, x1002 => if (x7.length : Int) > 0 then ((ze9 x1000 x1001 x1002 5).bind fun bt125 => (zcf k x5 x6 x7 bt125.1 x1000 bt125.2.1 bt125.2.2)) else (zcf k x5 x6 x7 false x1000 x1001 x1002)
def zcf : Nat → List (S55) → Int → List Int → Bool → List Int → Int → Int → Option ((List (S55)) × Int × List Int × Int × Int)
 | 0, _, _, _, _, _, _, _ => none
 | k + 1, x5, x6, x7, x42, x1000, x1001, x1002 => if x42 = true then ((zbu x1000 x1001 x1002 (x7.length : Int)).bind fun bt128 => ((zco x1000 bt128.2.1 bt128.2.2 (([0, 1, 2, 5, 100, 101, (-1)] : List Int))).bind fun bt134 => (if 0 ≤ bt128.1 then (if bt128.1 < (x7.length : Int) then ((some (x7.set (bt128.1 : Int).toNat bt134.1 : List Int)).bind fun y137 => ((ze9 x1000 bt134.2.1 bt134.2.2 20).bind fun bt138 => (if bt138.1 = true then (if y137.length < 17592186044416 then (some (x5, x6, (y137 ++ [0]), bt138.2.1, bt138.2.2)) else (none)) else (some (x5, x6, y137, bt138.2.1, bt138.2.2))))) else (none)) else (none)))) else ((ze9 x1000 x1001 x1002 20).bind fun bt144 => (if bt144.1 = true then (if x7.length < 17592186044416 then (some (x5, x6, (x7 ++ [0]), bt144.2.1, bt144.2.2)) else (none)) else (some (x5, x6, x7, bt144.2.1, bt144.2.2))))
def zc8 : Nat → List (S55) → Int → List Int → Int → Int → List Int → Int → Int → Option ((List (S55)) × Int × List Int × Int × Int)
 | 0, _, _, _, _, _, _, _, _ => none
 | k + 1, x5, x6, x7, x27, x28, x1000, x1001, x1002 => if x28 < x27 then ((zbu x1000 x1001 x1002 9).bind fun bt119 => (if x7.length < 17592186044416 then (zc8 k x5 x6 (x7 ++ [bt119.1]) x27 (wrap64 (x28 + 1)) x1000 bt119.2.1 bt119.2.2) else (none))) else (zc7 k x5 x6 x7 x1000 x1001 x1002)
end
def zev (k : Nat) (s0_0 : List Int) (s0_1 : Int) (s0_2 : Int) : Option ((List (S55)) × Int × List Int × Int × Int) := (zd0 k s0_0 s0_1 s0_2 7).bind fun bt101 => ((zco s0_0 bt101.2.1 bt101.2.2 (([1, 1, 2, 3, 4, 0] : List Int))).bind fun bt109 => ((zeh k bt101.1 bt109.1).bind fun bt112 => (if bt112.2 = true then ((ze9 s0_0 bt109.2.1 bt109.2.2 4).bind fun bt116 => (zc4 k bt101.1 bt109.1 bt112.1 bt116.1 s0_0 bt116.2.1 bt116.2.2)) else (zc4 k bt101.1 bt109.1 bt112.1 true s0_0 bt109.2.1 bt109.2.2))))
theorem zlu : ∀ k, (∀ y0 y1 y2 y3 y4 y5 y6, LeO (zc4 k y0 y1 y2 y3 y4 y5 y6) (zc4 (k + 1) y0 y1 y2 y3 y4 y5 y6)) ∧ (∀ y0 y1 y2 y3 y4 y5, LeO (zc7 k y0 y1 y2 y3 y4 y5) (zc7 (k + 1) y0 y1 y2 y3 y4 y5)) ∧ (∀ y0 y1 y2 y3 y4 y5 y6, LeO (zcf k y0 y1 y2 y3 y4 y5 y6) (zcf (k + 1) y0 y1 y2 y3 y4 y5 y6)) ∧ (∀ y0 y1 y2 y3 y4 y5 y6 y7, LeO (zc8 k y0 y1 y2 y3 y4 y5 y6 y7) (zc8 (k + 1) y0 y1 y2 y3 y4 y5 y6 y7))
 | 0 => ⟨fun _ _ _ _ _ _ _ r h => by simp [zc4] at h, fun _ _ _ _ _ _ r h => by simp [zc7] at h, fun _ _ _ _ _ _ _ r h => by simp [zcf] at h, fun _ _ _ _ _ _ _ _ r h => by simp [zc8] at h⟩
 | k + 1 => by
   obtain ⟨ih0, ih1, ih2, ih3⟩ := zlu k
   refine ⟨?_, ?_, ?_, ?_⟩
   · intro y0 y1 y2 y3 y4 y5 y6
     unfold zc4
     exact zm6 ih0 ih1 ih2 ih3 zgt zfh
   · intro y0 y1 y2 y3 y4 y5
     unfold zc7
     exact zm6 ih0 ih1 ih2 ih3 zgt zfh
   · intro y0 y1 y2 y3 y4 y5 y6
     unfold zcf
     exact zm6 ih0 ih1 ih2 ih3 zgt zfh
   · intro y0 y1 y2 y3 y4 y5 y6 y7
     unfold zc8
     exact zm6 ih0 ih1 ih2 ih3 zgt zfh
theorem zmj : ∀ a0 a1 a2 k, LeO (zev k a0 a1 a2) (zev (k + 1) a0 a1 a2) := by
 intro a0 a1 a2 k
 obtain ⟨ih0, ih1, ih2, ih3⟩ := zlu k
 unfold zev
 exact zm6 ih0 ih1 ih2 ih3 zgt zfh
theorem zl3 (k : Nat) (g : Nat) (s0_0 : List Int) (s0_1 : Int) (s0_2 : Int) (r1 : List (S55)) (r2 : Int) (r3 : List Int) (r4 : Int) (r5 : Int) (w0 w : World) (hI : IsS63 w0 w g s0_0 s0_1 s0_2) (hB : Below w0.heap.size w0 w) (h : zev k s0_0 s0_1 s0_2 = some (r1, r2, r3, r4, r5)) :
   Calls Tryz.prog 66 #[.pointer (some ⟨g, 0, none⟩)] w fun e w' => ∃ v0_ v2_ : Value, e = .returned (.tuple #[v0_, .int .i64 r2, v2_]) ∧ Kd.R k55 55 w' w.heap.size (fun _ => True) v0_ r1 ∧ Kd.R (Kd.int .i64) 3 w' w.heap.size (fun _ => True) v2_ r3 ∧ IsS63 w0 w' g s0_0 r4 r5 ∧ Below w0.heap.size w0 w' ∧ KeepBut w w' g none := by
 have HI0 := zA hI
 have HK := zA (KeepBut.refl w g none)
 have HL := zA hB.size
 clear hI
 have HW0 := zA hB.size
 have HB := zA hB
 clear hB
 have H := h
 unfold zev at H
 clear h
 replace H := zob H
 obtain ⟨⟨t101, t104, t105⟩, A20, H⟩ := H
 have A2 := zA A20
 clear A20
 obtain ⟨y106, hy106⟩ : ∃ y_ : List Int, y_ = (([1, 1, 2, 3, 4, 0] : List Int)) := ⟨_, rfl⟩
 rw [← hy106] at H; try with_reducible replace H := zbs H
 have Ny106 := zA hy106
 clear hy106
 replace H := zob H
 obtain ⟨⟨t109, t110, t111⟩, A30, H⟩ := H
 have A3 := zA A30
 clear A30
 replace H := zob H
 obtain ⟨⟨t112, t113⟩, A40, H⟩ := H
 have A4 := zA A40
 clear A40
 have HC5 := zA H
 clear H
 go_enter Tryz.func66, Tryz.ntmps66
 go_upto_region 4 with (first | ((with_reducible refine zgc 60 ?_); refine zca 10 Tryz.func60 #[.pointer (some ⟨g, 0, none⟩), .int .i64 7] (zli k g s0_0 s0_1 s0_2 7 t101 t104 t105 w0 _ (zq4 HI0) (zq6 HI0) A2.out) ?_; rintro e w6 ⟨v102, rfl, ho0, hi, hb, hk⟩; refine ⟨_, rfl, ?_⟩; have HO103 := zA (Kd.R_lower ho0 (ze4 (w := w) (g := g) (row := none) zq3)); replace HK := zA (KeepBut.trans zq3 hk (.inl rfl)); replace HB := zA (hb); replace HI0 := zA (hi); (try clear hb); (try clear hk); (try clear hi); (try clear ho0)) | ((with_reducible refine zgd 12 ?_); refine Kd.R_lit (Kd.int .i64) _ 3 ?hg (N := 12) ?hd (xs := ([1, 1, 2, 3, 4, 0] : List Int)) (inner := [.int .i64 1, .int .i64 1, .int .i64 2, .int .i64 3, .int .i64 4, .int .i64 0]) (ok := fun _ => True) (okp := fun _ => True) ?hr ?hp (fun _ hk => hk) trivial (Below.refl _ _) (zlr _) (by simp) ?_; (case hd => rfl); (case hg => rfl); (case hr => go_simp <;> rfl); (case hp => exact (zam (show Kd.M (Kd.int .i64) _ _ _ 1 [.int .i64 1] from rfl) (zam (show Kd.M (Kd.int .i64) _ _ _ 1 [.int .i64 1] from rfl) (zam (show Kd.M (Kd.int .i64) _ _ _ 2 [.int .i64 2] from rfl) (zam (show Kd.M (Kd.int .i64) _ _ _ 3 [.int .i64 3] from rfl) (zam (show Kd.M (Kd.int .i64) _ _ _ 4 [.int .i64 4] from rfl) (zam (show Kd.M (Kd.int .i64) _ _ _ 0 [.int .i64 0] from rfl) (Reps.none _ _)))))))); intro v107 w7 ho8 hb hg_ hnew_; clear hg_ hnew_; (first | rw [← Ny106.out] at ho8 | (simp only [Int.reduceToNat] at ho8; rw [← Ny106.out] at ho8)); replace HO103 := zA (zRb (zq2 HO103) hb); have HO108 := zA (Kd.R_lower ho8 (ze4 (w := w) (g := g) (row := none) zq3)); replace HK := zA (KeepBut.trans zq3 (zcd hb g none) (.inl rfl)); replace HB := zA (zab (zq6 HI0) hb); replace HI0 := zA (IsS63.below (zq4 HI0) hb); clear hb ho8; obtain ⟨Ao9, co9, eo9⟩ := Kd.R_slice HO108.out; subst eo9) | ((with_reducible refine zgc 61 ?_); refine zca 13 Tryz.func61 #[.pointer (some ⟨g, 0, none⟩), .slice Ao9 y106.length co9] (zc0 g s0_0 t104 t105 _ _ y106 t109 t110 t111 w0 _ (zq4 HI0) (zq6 HI0) (zq19 HO108) (zq48 HO108) (zq47 HI0 HO108) A3.out) ?_; rintro e w10 ⟨rfl, hi, hb, hk⟩; refine ⟨_, rfl, ?_⟩; replace HO103 := zA (Kd.R_mono (Kd.R_keep (IsS63.apart (show IsS63 w0 _ g s0_0 t104 t105 from by repeat (first | (with_reducible first | exact HI0.out | apply IsS63.alloc | apply IsS63.drewN | apply IsS63.drew | apply zav | apply zaw) | exact HI0.out)) (zq2 HO103) (by decide)) hk (fun _ h => h.2)) (fun _ h => h.1)); replace HO108 := zA (Kd.R_mono (Kd.R_keep (IsS63.apart (show IsS63 w0 _ g s0_0 t104 t105 from by repeat (first | (with_reducible first | exact HI0.out | apply IsS63.alloc | apply IsS63.drewN | apply IsS63.drew | apply zav | apply zaw) | exact HI0.out)) (zq2 HO108) (by decide)) hk (fun _ h => h.2)) (fun _ h => h.1)); replace HK := zA (KeepBut.trans zq3 hk (.inl rfl)); replace HB := zA (hb); replace HI0 := zA (hi); (try clear hb); (try clear hk); (try clear hi); obtain ⟨Ao11, co11, eo11⟩ := Kd.R_slice HO103.out; subst eo11) | ((with_reducible refine zgc 37 ?_); refine zca 17 Tryz.func37 #[.slice Ao11 t101.length co11, .int .i64 t109] (zlp k _ _ t101 t109 t112 t113 _ (zq19 HO103) (zq48 HO103) A4.out) ?_; rintro e w12 ⟨v114, rfl, ho0, hb⟩; refine ⟨_, rfl, ?_⟩; replace HO103 := zA (zRb (zq2 HO103) hb); have HO115 := zA (Kd.R_lower (Kd.R_new' ho0 (Kd.R_lt (zq2 HO108))) (ze4 (w := w) (g := g) (row := none) zq3)); replace HO108 := zA (Kd.R_elder' (zq2 HO108) (Kd.R_base ho0) hb); replace HK := zA (KeepBut.trans zq3 (zcd hb g none) (.inl rfl)); replace HB := zA (zab (zq6 HI0) hb); replace HI0 := zA (IsS63.below (zq4 HI0) hb); (try clear hb); (try clear ho0)))
 (try simp only [Act.put, List.setIfInBounds_toArray, List.set_cons_zero, List.set_cons_succ])
 go_cut [25] (fun v25 wc => ∃ (kq : Nat) (x25_4 : Bool) (x1001_4 : Int) (x1002_4 : Int), v25 = .bool x25_4 ∧ Aside0 (zc4 kq t101 t109 t112 x25_4 s0_0 x1001_4 x1002_4 = some (r1, r2, r3, r4, r5)) ∧ Aside0 (kq ≤ k) ∧ Aside0 (Kd.R k55 55 wc w.heap.size (fun _ => True) (.slice Ao11 t101.length co11) t101) ∧ Aside0 (Kd.R (Kd.int .i64) 3 wc w.heap.size (fun _ => True) v114 t112) ∧ Aside0 (IsS63 w0 wc g s0_0 x1001_4 x1002_4) ∧ Aside0 (KeepBut w wc g none) ∧ Aside0 (Below w0.heap.size w0 wc))
 case first =>
   have H := HC5.out
   clear HC5
   by_cases c13 : t113 = true
   rotate_left
   · replace c13 := zbf c13
     subst c13
     replace H := zif H
     have H' := zA H
     clear H
     go_wp2
     go_meet
     case rel => exact ⟨_, (true), (t110), (t111), zq7, H', ⟨zq42⟩, ⟨zq2 HO103⟩, ⟨zq38 HO115⟩, ⟨zq4 HI0⟩, ⟨zq3⟩, ⟨zq6 HI0⟩⟩
   subst c13
   replace H := zih H
   replace H := zob H
   obtain ⟨⟨t116, t117, t118⟩, A140, H⟩ := H
   have A14 := zA A140
   clear A140
   have H' := zA H
   clear H
   go_wp2_with (first | (go_at_call 96; (with_reducible refine (zes g s0_0 t110 t111 4 t116 t117 t118 w0 _ ?side1 ?side2 A14.out).mono ?_); (case side1 => repeat (first | (with_reducible first | exact HI0.out | apply IsS63.alloc | apply IsS63.drewN | apply IsS63.drew | apply zav | apply zaw) | exact HI0.out)); (case side2 => repeat (first | (with_reducible first | exact HB.out | apply zba | apply zbn | apply zbd | refine zae ?_ (zrl HI0.out)) | exact HB.out)); rintro e w15 ⟨rfl, hi, hb, hk⟩; replace HO103 := zA (Kd.R_mono (Kd.R_keep (IsS63.apart (show IsS63 w0 _ g s0_0 t110 t111 from by repeat (first | (with_reducible first | exact HI0.out | apply IsS63.alloc | apply IsS63.drewN | apply IsS63.drew | apply zav | apply zaw) | exact HI0.out)) (zq2 HO103) (by decide)) hk (fun _ h => h.2)) (fun _ h => h.1)); replace HO108 := zA (Kd.R_mono (Kd.R_keep (IsS63.apart (show IsS63 w0 _ g s0_0 t110 t111 from by repeat (first | (with_reducible first | exact HI0.out | apply IsS63.alloc | apply IsS63.drewN | apply IsS63.drew | apply zav | apply zaw) | exact HI0.out)) (zq2 HO108) (by decide)) hk (fun _ h => h.2)) (fun _ h => h.1)); replace HO115 := zA (Kd.R_mono (Kd.R_keep (IsS63.apart (show IsS63 w0 _ g s0_0 t110 t111 from by repeat (first | (with_reducible first | exact HI0.out | apply IsS63.alloc | apply IsS63.drewN | apply IsS63.drew | apply zav | apply zaw) | exact HI0.out)) (zq2 HO115) (by decide)) hk (fun _ h => h.2)) (fun _ h => h.1)); replace HK := zA (KeepBut.trans zq3 hk (.inl rfl)); replace HB := zA (hb); replace HI0 := zA (hi); (try clear hb); (try clear hk); (try clear hi)))
   go_meet
   case rel => exact ⟨_, (t116), (t117), (t118), zq7, H', ⟨zq42⟩, ⟨zq2 HO103⟩, ⟨zq38 HO115⟩, ⟨zq4 HI0⟩, ⟨zq3⟩, ⟨zq6 HI0⟩⟩
 clear HC5
 obtain ⟨kq, x25_4, x1001_4, x1002_4, rfl, HA, HJ4, HO_5, HO_7, HI0, HK, HB⟩ := hcut
 cases kq with
 | zero => exact absurd HA.out (by simp [zc4])
 | succ kj4 =>
 have H := HA.out
 clear HA
 simp only [zc4] at H
 have HC16 := zA H
 clear H
 go_upto_if 25 with (fail)
 go_cut [7] (fun v7 wc => ∃ (kq : Nat) (x7_15 : List Int) (x1001_15 : Int) (x1002_15 : Int), Aside0 (zc7 kq t101 t109 x7_15 s0_0 x1001_15 x1002_15 = some (r1, r2, r3, r4, r5)) ∧ Aside0 (kq ≤ kj4) ∧ Aside0 (Kd.R k55 55 wc w.heap.size (fun _ => True) (.slice Ao11 t101.length co11) t101) ∧ Aside0 (Kd.R (Kd.int .i64) 3 wc w.heap.size (fun _ => True) v7 x7_15) ∧ Aside0 (IsS63 w0 wc g s0_0 x1001_15 x1002_15) ∧ Aside0 (KeepBut w wc g none) ∧ Aside0 (Below w0.heap.size w0 wc))
 case first =>
   have H := HC16.out
   clear HC16
   by_cases c17 : x25_4 = true
   rotate_left
   · replace c17 := zbf c17
     subst c17
     replace H := zif H
     have H' := zA H
     clear H
     go_wp2
     go_meet
     case rel => exact ⟨_, (t112), (x1001_4), (x1002_4), H', ⟨zq45 HJ4⟩, ⟨zq2 HO_5⟩, ⟨zq2 HO_7⟩, ⟨zq4 HI0⟩, ⟨zq3⟩, ⟨zq6 HI0⟩⟩
   subst c17
   replace H := zih H
   have H' := zA H
   clear H
   go_wp2
   try go_simp
   go_loopg [7, 28] kj4 (fun kq v7 v28 w' => ∃ (x7_2 : List Int) (x28_2 : Int) (x1001_2 : Int) (x1002_2 : Int), v28 = .int .i64 x28_2 ∧ Aside0 (zc8 kq t101 t109 x7_2 (t101.length : Int) x28_2 s0_0 x1001_2 x1002_2 = some (r1, r2, r3, r4, r5)) ∧ Aside0 (kq ≤ kj4) ∧ Aside0 (Kd.R k55 55 w' w.heap.size (fun _ => True) (.slice Ao11 t101.length co11) t101) ∧ Aside0 (Kd.R (Kd.int .i64) 3 w' w.heap.size (fun _ => True) v7 x7_2) ∧ Aside0 (IsS63 w0 w' g s0_0 x1001_2 x1002_2) ∧ Aside0 (KeepBut w w' g none) ∧ Aside0 (Below w0.heap.size w0 w'))
   case atStart => exact ⟨(([] : List Int)), (0), (x1001_4), (x1002_4), zq7, H', ⟨zlr _⟩, ⟨zq2 HO_5⟩, ⟨zq25⟩, ⟨zq4 HI0⟩, ⟨zq3⟩, ⟨zq6 HI0⟩⟩
   clear H'
   obtain ⟨x7_2, x28_2, x1001_2, x1002_2, rfl, HA, HK2, HO_5, HO_7, HI0, HK, HB⟩ := hrel
   cases gk with
   | zero => exact absurd HA.out (by simp [zc8])
   | succ k2 =>
   have H := HA.out
   clear HA
   simp only [zc8] at H
   revert H
   refine zit (fun c18 H => ?_) fun c18 H => ?_
   rotate_left
   · (first | rw [c18b0] | (simp only [zia, ziz]; rw [c18b0]) | skip)
     have H' := zA H
     clear H
     go_wp2
     go_meet
     case rel => exact ⟨_, (x7_2), (x1001_2), (x1002_2), H', ⟨zq61 HJ4 HK2⟩, ⟨zq2 HO_5⟩, ⟨zq2 HO_7⟩, ⟨zq4 HI0⟩, ⟨zq3⟩, ⟨zq6 HI0⟩⟩
   (first | rw [c18b0] | (simp only [zia, ziz]; rw [c18b0]) | skip)
   replace H := zob H
   obtain ⟨⟨t119, t120, t121⟩, A190, H⟩ := H
   have A19 := zA A190
   clear A190
   by_cases c20 : x7_2.length < 17592186044416
   rotate_left
   · rw [if_neg c20] at H
     exact absurd H (by simp)
   rw [if_pos c20] at H
   have LMc20 := zA c20
   clear c20
   obtain ⟨y122, hy122⟩ : ∃ y_ : List Int, y_ = (x7_2 ++ [t119]) := ⟨_, rfl⟩
   rw [← hy122] at H; try with_reducible replace H := zbs H
   have Ny122 := zA hy122
   clear hy122
   have H' := zA H
   clear H
   go_wp2_with (first | ((with_reducible refine zgc 98 ?_); refine zca 32 Tryz.func98 #[.pointer (some ⟨g, 0, none⟩), .int .i64 9] (za8 g s0_0 x1001_2 x1002_2 9 t119 t120 t121 w0 _ (zq4 HI0) (zq6 HI0) A19.out) ?_; rintro e w21 ⟨rfl, hi, hb, hk⟩; refine ⟨_, rfl, ?_⟩; replace HO_5 := zA (Kd.R_mono (Kd.R_keep (IsS63.apart (show IsS63 w0 _ g s0_0 x1001_2 x1002_2 from by repeat (first | (with_reducible first | exact HI0.out | apply IsS63.alloc | apply IsS63.drewN | apply IsS63.drew | apply zav | apply zaw) | exact HI0.out)) (zq2 HO_5) (by decide)) hk (fun _ h => h.2)) (fun _ h => h.1)); replace HO_7 := zA (Kd.R_mono (Kd.R_keep (IsS63.apart (show IsS63 w0 _ g s0_0 x1001_2 x1002_2 from by repeat (first | (with_reducible first | exact HI0.out | apply IsS63.alloc | apply IsS63.drewN | apply IsS63.drew | apply zav | apply zaw) | exact HI0.out)) (zq2 HO_7) (by decide)) hk (fun _ h => h.2)) (fun _ h => h.1)); replace HK := zA (KeepBut.trans zq3 hk (.inl rfl)); replace HB := zA (hb); replace HI0 := zA (hi); (try clear hb); (try clear hk); (try clear hi)) | ((with_reducible refine zci (b := .append) (xs := #[.tmp 30, .tmp 33]) rfl ?_); at_builtin; refine Kd.R_append (Kd.int .i64) w.heap.size rfl (.tmp 30) (.tmp 33) 25 3 (.int .i64 0) 8 rfl Tryz.underlying25 zja rfl (by decide) (by omega) u7 x7_2 t119 [.int .i64 t119] (fun _ => True) (fun _ => False) rfl rfl ?aP (fun _ hk => hk.elim) ?aF ?aO (Below.refl _ _) ?aS ?aL ?_; (case aP => exact rfl); (case aF => exact (fun _ _ => trivial)); (case aO => exact (zq2 HO_7)); (case aS => exact (ze4 (w := w) (g := g) (row := none) zq3)); (case aL => have := LMc20.out; omega); intro v123 w22 ho hb hg hat; rw [← Ny122.out] at ho; replace HO_5 := zA (Kd.R_over' (zq2 HO_5) (Kd.R_typed (zq2 HO_7)) (by decide) hg); replace HB := zA (zhi (zq6 HI0) HL.out hb); replace HI0 := zA (IsS63.grown (zq4 HI0) hg (zi8 HI0.out HO_7.out (by decide))); replace HK := zA (KeepBut.trans zq3 (zgn hg g) (Kd.R_base2 HO_7.out)); have HO124 := zA (ho); clear HO_7; clear ho hb hg hat))
   go_roundg k2
   case measure => have := HJ4.out; have := HK2.out; omega
   case rel => exact ⟨(y122), (wrap64 (x28_2 + 1)), (t120), (t121), zq7, H', ⟨zq41 HJ4 HK2⟩, ⟨zq2 HO_5⟩, ⟨zq2 HO124⟩, ⟨zq4 HI0⟩, ⟨zq3⟩, ⟨zq6 HI0⟩⟩
 clear HC16
 obtain ⟨kq, x7_15, x1001_15, x1002_15, HA, HJ15, HO_5, HO_7, HI0, HK, HB⟩ := hcut
 cases kq with
 | zero => exact absurd HA.out (by simp [zc7])
 | succ kj15 =>
 have H := HA.out
 clear HA
 simp only [zc7] at H
 have HC23 := zA H
 clear H
 go_upto_region 10 with (fail)
 go_cut [42] (fun v42 wc => ∃ (kq : Nat) (x42_22 : Bool) (x1001_22 : Int) (x1002_22 : Int), v42 = .bool x42_22 ∧ Aside0 (zcf kq t101 t109 x7_15 x42_22 s0_0 x1001_22 x1002_22 = some (r1, r2, r3, r4, r5)) ∧ Aside0 (kq ≤ kj15) ∧ Aside0 (Kd.R k55 55 wc w.heap.size (fun _ => True) (.slice Ao11 t101.length co11) t101) ∧ Aside0 (Kd.R (Kd.int .i64) 3 wc w.heap.size (fun _ => True) u7 x7_15) ∧ Aside0 (IsS63 w0 wc g s0_0 x1001_22 x1002_22) ∧ Aside0 (KeepBut w wc g none) ∧ Aside0 (Below w0.heap.size w0 wc))
 case first =>
   have H := HC23.out
   clear HC23
   by_cases c24 : (x7_15.length : Int) > 0
   rotate_left
   · rw [if_neg c24] at H
     have c24b0 := zdf c24
     have c24b1 : decide (0 < x7_15.length) = false := zdf (by omega)
     clear c24
     (first | rw [c24b0] | (simp only [zia, ziz]; rw [c24b0]) | skip)
     have H' := zA H
     clear H
     obtain ⟨Ao28, co28, eo28⟩ := Kd.R_slice HO_7.out
     subst eo28
     go_wp2
     go_meet
     case rel => exact ⟨_, (false), (x1001_15), (x1002_15), zq7, H', ⟨zq61 HJ4 HJ15⟩, ⟨zq2 HO_5⟩, ⟨zq2 HO_7⟩, ⟨zq4 HI0⟩, ⟨zq3⟩, ⟨zq6 HI0⟩⟩
   rw [if_pos c24] at H
   have c24b0 := zdt c24
   have c24b1 : decide (0 < x7_15.length) = true := zdt (by omega)
   clear c24
   (first | rw [c24b0] | (simp only [zia, ziz]; rw [c24b0]) | skip)
   replace H := zob H
   obtain ⟨⟨t125, t126, t127⟩, A250, H⟩ := H
   have A25 := zA A250
   clear A250
   have H' := zA H
   clear H
   obtain ⟨Ao26, co26, eo26⟩ := Kd.R_slice HO_7.out
   subst eo26
   go_wp2_with (first | (go_at_call 96; (with_reducible refine (zes g s0_0 x1001_15 x1002_15 5 t125 t126 t127 w0 _ ?side1 ?side2 A25.out).mono ?_); (case side1 => repeat (first | (with_reducible first | exact HI0.out | apply IsS63.alloc | apply IsS63.drewN | apply IsS63.drew | apply zav | apply zaw) | exact HI0.out)); (case side2 => repeat (first | (with_reducible first | exact HB.out | apply zba | apply zbn | apply zbd | refine zae ?_ (zrl HI0.out)) | exact HB.out)); rintro e w27 ⟨rfl, hi, hb, hk⟩; replace HO_5 := zA (Kd.R_mono (Kd.R_keep (IsS63.apart (show IsS63 w0 _ g s0_0 x1001_15 x1002_15 from by repeat (first | (with_reducible first | exact HI0.out | apply IsS63.alloc | apply IsS63.drewN | apply IsS63.drew | apply zav | apply zaw) | exact HI0.out)) (zq2 HO_5) (by decide)) hk (fun _ h => h.2)) (fun _ h => h.1)); replace HO_7 := zA (Kd.R_mono (Kd.R_keep (IsS63.apart (show IsS63 w0 _ g s0_0 x1001_15 x1002_15 from by repeat (first | (with_reducible first | exact HI0.out | apply IsS63.alloc | apply IsS63.drewN | apply IsS63.drew | apply zav | apply zaw) | exact HI0.out)) (zq2 HO_7) (by decide)) hk (fun _ h => h.2)) (fun _ h => h.1)); replace HK := zA (KeepBut.trans zq3 hk (.inl rfl)); replace HB := zA (hb); replace HI0 := zA (hi); (try clear hb); (try clear hk); (try clear hi)))
   go_meet
   case rel => exact ⟨_, (t125), (t126), (t127), zq7, H', ⟨zq61 HJ4 HJ15⟩, ⟨zq2 HO_5⟩, ⟨zq2 HO_7⟩, ⟨zq4 HI0⟩, ⟨zq3⟩, ⟨zq6 HI0⟩⟩
 clear HC23
 obtain ⟨kq, x42_22, x1001_22, x1002_22, rfl, HA, HJ22, HO_5, HO_7, HI0, HK, HB⟩ := hcut
 cases kq with
 | zero => exact absurd HA.out (by simp [zcf])
 | succ kj22 =>
 have H := HA.out
 clear HA
 simp only [zcf] at H
 by_cases c29 : x42_22 = true
 rotate_left
 · replace c29 := zbf c29
   subst c29
   replace H := zif H
   replace H := zob H
   obtain ⟨⟨t144, t145, t146⟩, A570, H⟩ := H
   have A57 := zA A570
   clear A570
   have HCC := zA H
   clear H
   go_upto_if 53 with (first | ((with_reducible refine zgc 96 ?_); refine zca 53 Tryz.func96 #[.pointer (some ⟨g, 0, none⟩), .int .i64 20] (zes g s0_0 x1001_22 x1002_22 20 t144 t145 t146 w0 _ (zq4 HI0) (zq6 HI0) A57.out) ?_; rintro e w60 ⟨rfl, hi, hb, hk⟩; refine ⟨_, rfl, ?_⟩; replace HO_5 := zA (Kd.R_mono (Kd.R_keep (IsS63.apart (show IsS63 w0 _ g s0_0 x1001_22 x1002_22 from by repeat (first | (with_reducible first | exact HI0.out | apply IsS63.alloc | apply IsS63.drewN | apply IsS63.drew | apply zav | apply zaw) | exact HI0.out)) (zq2 HO_5) (by decide)) hk (fun _ h => h.2)) (fun _ h => h.1)); replace HO_7 := zA (Kd.R_mono (Kd.R_keep (IsS63.apart (show IsS63 w0 _ g s0_0 x1001_22 x1002_22 from by repeat (first | (with_reducible first | exact HI0.out | apply IsS63.alloc | apply IsS63.drewN | apply IsS63.drew | apply zav | apply zaw) | exact HI0.out)) (zq2 HO_7) (by decide)) hk (fun _ h => h.2)) (fun _ h => h.1)); replace HK := zA (KeepBut.trans zq3 hk (.inl rfl)); replace HB := zA (hb); replace HI0 := zA (hi); (try clear hb); (try clear hk); (try clear hi)))
   have H := HCC.out
   clear HCC
   by_cases c58 : t144 = true
   rotate_left
   · replace c58 := zbf c58
     subst c58
     replace H := zif H
     simp only [Option.some.injEq, Prod.mk.injEq] at H
     obtain ⟨rfl, rfl, rfl, rfl, rfl⟩ := H
     go_wp2_with fail
     go_ret3
     exact ⟨_, _, zq5, zq2 HO_5, zq2 HO_7, zq4 HI0, zq6 HI0, zq3⟩
   subst c58
   replace H := zih H
   by_cases c59 : x7_15.length < 17592186044416
   rotate_left
   · rw [if_neg c59] at H
     exact absurd H (by simp)
   rw [if_pos c59] at H
   have LMc59 := zA c59
   clear c59
   obtain ⟨y147, hy147⟩ : ∃ y_ : List Int, y_ = (x7_15 ++ [0]) := ⟨_, rfl⟩
   rw [← hy147] at H; try with_reducible replace H := zbs H
   have Ny147 := zA hy147
   clear hy147
   simp only [Option.some.injEq, Prod.mk.injEq] at H
   obtain ⟨rfl, rfl, rfl, rfl, rfl⟩ := H
   go_wp2_with ((with_reducible refine zci (b := .append) (xs := #[.tmp 54, .tmp 55]) rfl ?_); at_builtin; refine Kd.R_append (Kd.int .i64) w.heap.size rfl (.tmp 54) (.tmp 55) 25 3 (.int .i64 0) 8 rfl Tryz.underlying25 zja rfl (by decide) (by omega) u7 x7_15 0 [.int .i64 0] (fun _ => True) (fun _ => False) rfl rfl ?aP (fun _ hk => hk.elim) ?aF ?aO (Below.refl _ _) ?aS ?aL ?_; (case aP => exact rfl); (case aF => exact (fun _ _ => trivial)); (case aO => exact (zq2 HO_7)); (case aS => exact (ze4 (w := w) (g := g) (row := none) zq3)); (case aL => have := LMc59.out; omega); intro v148 w61 ho hb hg hat; rw [← Ny147.out] at ho; have n0_ := zA (Kd.R_over' (zq2 HO_5) (Kd.R_typed (zq2 HO_7)) (by decide) hg); have n1_ := zA (IsS63.grown (zq4 HI0) hg (zi8 HI0.out HO_7.out (by decide))); have n2_ := zA (zhi (zq6 HI0) HL.out hb); have n3_ := zA (KeepBut.trans zq3 (zgn hg g) (Kd.R_base2 HO_7.out)); have n4_ := zA (ho); clear HO_5; clear HI0; clear HB; clear HK; clear HO_7; have HO_5 := n0_; have HI0 := n1_; have HB := n2_; have HK := n3_; have HO149 := n4_; clear n0_ n1_ n2_ n3_ n4_; clear ho hb hg hat)
   go_ret3
   exact ⟨_, _, zq5, zq2 HO_5, zq2 HO149, zq4 HI0, zq6 HI0, zq3⟩
 subst c29
 replace H := zih H
 replace H := zob H
 obtain ⟨⟨t128, t129, t130⟩, A300, H⟩ := H
 have A30 := zA A300
 clear A300
 obtain ⟨y131, hy131⟩ : ∃ y_ : List Int, y_ = (([0, 1, 2, 5, 100, 101, (-1)] : List Int)) := ⟨_, rfl⟩
 rw [← hy131] at H; try with_reducible replace H := zbs H
 have Ny131 := zA hy131
 clear hy131
 replace H := zob H
 obtain ⟨⟨t134, t135, t136⟩, A310, H⟩ := H
 have A31 := zA A310
 clear A310
 revert H
 refine zin fun c32 H => ?_
 revert H
 refine zin fun c33 H => ?_
 obtain ⟨y137, hy137⟩ : ∃ y_ : List Int, y_ = (x7_15.set (t128 : Int).toNat t134) := ⟨_, rfl⟩
 rw [← hy137] at H; try with_reducible replace H := zbs H
 have Ny137 := zA hy137
 clear hy137
 replace H := zob H
 obtain ⟨⟨t138, t139, t140⟩, A350, H⟩ := H
 have A35 := zA A350
 clear A350
 have HCC := zA H
 clear H
 obtain ⟨Ao48, co48, eo48⟩ := Kd.R_slice HO_7.out
 subst eo48
 go_upto_if 53 with (first | ((with_reducible refine zgc 98 ?_); refine zca 47 Tryz.func98 #[.pointer (some ⟨g, 0, none⟩), .int .i64 (x7_15.length : Int)] (za8 g s0_0 x1001_22 x1002_22 (x7_15.length : Int) t128 t129 t130 w0 _ (zq4 HI0) (zq6 HI0) A30.out) ?_; rintro e w39 ⟨rfl, hi, hb, hk⟩; refine ⟨_, rfl, ?_⟩; replace HO_5 := zA (Kd.R_mono (Kd.R_keep (IsS63.apart (show IsS63 w0 _ g s0_0 x1001_22 x1002_22 from by repeat (first | (with_reducible first | exact HI0.out | apply IsS63.alloc | apply IsS63.drewN | apply IsS63.drew | apply zav | apply zaw) | exact HI0.out)) (zq2 HO_5) (by decide)) hk (fun _ h => h.2)) (fun _ h => h.1)); replace HO_7 := zA (Kd.R_mono (Kd.R_keep (IsS63.apart (show IsS63 w0 _ g s0_0 x1001_22 x1002_22 from by repeat (first | (with_reducible first | exact HI0.out | apply IsS63.alloc | apply IsS63.drewN | apply IsS63.drew | apply zav | apply zaw) | exact HI0.out)) (zq2 HO_7) (by decide)) hk (fun _ h => h.2)) (fun _ h => h.1)); replace HK := zA (KeepBut.trans zq3 hk (.inl rfl)); replace HB := zA (hb); replace HI0 := zA (hi); (try clear hb); (try clear hk); (try clear hi)) | ((with_reducible refine zgd 49 ?_); refine Kd.R_lit (Kd.int .i64) _ 3 ?hg (N := 49) ?hd (xs := ([0, 1, 2, 5, 100, 101, (-1)] : List Int)) (inner := [.int .i64 0, .int .i64 1, .int .i64 2, .int .i64 5, .int .i64 100, .int .i64 101, .int .i64 (-1)]) (ok := fun _ => True) (okp := fun _ => True) ?hr ?hp (fun _ hk => hk) trivial (Below.refl _ _) (zlr _) (by simp) ?_; (case hd => rfl); (case hg => rfl); (case hr => go_simp <;> rfl); (case hp => exact (zam (show Kd.M (Kd.int .i64) _ _ _ 0 [.int .i64 0] from rfl) (zam (show Kd.M (Kd.int .i64) _ _ _ 1 [.int .i64 1] from rfl) (zam (show Kd.M (Kd.int .i64) _ _ _ 2 [.int .i64 2] from rfl) (zam (show Kd.M (Kd.int .i64) _ _ _ 5 [.int .i64 5] from rfl) (zam (show Kd.M (Kd.int .i64) _ _ _ 100 [.int .i64 100] from rfl) (zam (show Kd.M (Kd.int .i64) _ _ _ 101 [.int .i64 101] from rfl) (zam (show Kd.M (Kd.int .i64) _ _ _ (-1) [.int .i64 (-1)] from rfl) (Reps.none _ _))))))))); intro v132 w40 ho41 hb hg_ hnew_; clear hg_ hnew_; (first | rw [← Ny131.out] at ho41 | (simp only [Int.reduceToNat] at ho41; rw [← Ny131.out] at ho41)); replace HO_5 := zA (zRb (zq2 HO_5) hb); have HO133 := zA (Kd.R_lower (Kd.R_new' ho41 (Kd.R_lt (zq2 HO_7))) (ze4 (w := w) (g := g) (row := none) zq3)); replace HO_7 := zA (Kd.R_elder' (zq2 HO_7) (Kd.R_base ho41) hb); replace HK := zA (KeepBut.trans zq3 (zcd hb g none) (.inl rfl)); replace HB := zA (zab (zq6 HI0) hb); replace HI0 := zA (IsS63.below (zq4 HI0) hb); clear hb ho41; obtain ⟨Ao42, co42, eo42⟩ := Kd.R_slice HO133.out; subst eo42) | ((with_reducible refine zgc 61 ?_); refine zca 50 Tryz.func61 #[.pointer (some ⟨g, 0, none⟩), .slice Ao42 y131.length co42] (zc0 g s0_0 t129 t130 _ _ y131 t134 t135 t136 w0 _ (zq4 HI0) (zq6 HI0) (zq19 HO133) (zq48 HO133) (zq47 HI0 HO133) A31.out) ?_; rintro e w43 ⟨rfl, hi, hb, hk⟩; refine ⟨_, rfl, ?_⟩; replace HO_5 := zA (Kd.R_mono (Kd.R_keep (IsS63.apart (show IsS63 w0 _ g s0_0 t129 t130 from by repeat (first | (with_reducible first | exact HI0.out | apply IsS63.alloc | apply IsS63.drewN | apply IsS63.drew | apply zav | apply zaw) | exact HI0.out)) (zq2 HO_5) (by decide)) hk (fun _ h => h.2)) (fun _ h => h.1)); replace HO_7 := zA (Kd.R_mono (Kd.R_keep (IsS63.apart (show IsS63 w0 _ g s0_0 t129 t130 from by repeat (first | (with_reducible first | exact HI0.out | apply IsS63.alloc | apply IsS63.drewN | apply IsS63.drew | apply zav | apply zaw) | exact HI0.out)) (zq2 HO_7) (by decide)) hk (fun _ h => h.2)) (fun _ h => h.1)); replace HO133 := zA (Kd.R_mono (Kd.R_keep (IsS63.apart (show IsS63 w0 _ g s0_0 t129 t130 from by repeat (first | (with_reducible first | exact HI0.out | apply IsS63.alloc | apply IsS63.drewN | apply IsS63.drew | apply zav | apply zaw) | exact HI0.out)) (zq2 HO133) (by decide)) hk (fun _ h => h.2)) (fun _ h => h.1)); replace HK := zA (KeepBut.trans zq3 hk (.inl rfl)); replace HB := zA (hb); replace HI0 := zA (hi); (try clear hb); (try clear hk); (try clear hi); have p34 : 0 ≤ (t128 : Int) := zde zq20; have q34 : (t128 : Int) < ((x7_15.length : Int) : Int) := zde zq20; obtain ⟨go34, co34, eo34, gb34, gl34, cl34, HG34⟩ := Kd.R_form HO_7.out (by omega); (first | cases eo34 | (injection eo34 with ea_ en_ ec_; (first | subst ea_ | (injection ea_ with ea_; subst ea_)); subst ec_; clear en_)); have GB34 := zA gb34; have GG34 := zA HG34; clear gb34 gl34 HG34; obtain ⟨hx34_0, hf34_0⟩ := Kd.R_celln 0 HO_7.out (t128 : Int) p34 q34; replace p34 := eq_true p34; replace q34 := eq_true q34; have n_ := zA (Kd.R_mono (ok' := (fun k_ => some k_ ≠ (.slice Ao42 y131.length co42 : Value).ownBlock)) HO_7.out (fun k_ hk => hk.2)); clear HO_7; have HO_7 := n_; clear n_; obtain ⟨hy44_, hz44_⟩ := Kd.R_celln 0 HO_7.out (t128 : Int) (zde zq20) (zde zq20); have HP44 := Kd.R_putg HO_7.out (t128 : Int) t134) | ((with_reducible refine zgs 3 51 ?_); refine zse (w43.setCell ⟨go34, (t128 : Int).toNat, none⟩ (.int .i64 t134)) ?_; intro w45 hw; have hg : w43.grownBy w45 (some go34) := (by rw [hw]; exact HP44.2); have hp_ : Kd.R (Kd.int .i64) 3 w45 w.heap.size (fun k_ => some k_ ≠ (.slice Ao42 y131.length co42 : Value).ownBlock) (.slice (some ⟨go34, 0, none⟩) x7_15.length co48) y137 := (by rw [hw, Ny137.out]; exact HP44.1); clear HP44; replace HO_5 := zA (Kd.R_over' (v := (.slice (some ⟨go34, 0, none⟩) x7_15.length co48)) (zq2 HO_5) (Kd.R_typed HO_7.out) (by decide) hg); replace HI0 := zA (IsS63.grown (zq4 HI0) hg (zi8 HI0.out HO_7.out (by decide))); replace HO133 := zA (Kd.R_after (v := (.slice (some ⟨go34, 0, none⟩) x7_15.length co48)) (v1 := (.slice (some ⟨go34, 0, none⟩) x7_15.length co48)) (ok := (fun _ => True)) (zq2 HO133) hg (.inl rfl)); replace HB := zA ((by rw [hw]; exact zae (HB.out) (Nat.le_trans HL.out GB34.out) : Below w0.heap.size w0 w45)); replace HK := zA (KeepBut.trans zq3 (zgn hg g) (Kd.R_base2 HO_7.out)); replace HO_7 := zA (hp_); clear hg hw hp_) | ((with_reducible refine zgc 96 ?_); refine zca 53 Tryz.func96 #[.pointer (some ⟨g, 0, none⟩), .int .i64 20] (zes g s0_0 t135 t136 20 t138 t139 t140 w0 _ (zq4 HI0) (zq6 HI0) A35.out) ?_; rintro e w46 ⟨rfl, hi, hb, hk⟩; refine ⟨_, rfl, ?_⟩; replace HO_5 := zA (Kd.R_mono (Kd.R_keep (IsS63.apart (show IsS63 w0 _ g s0_0 t135 t136 from by repeat (first | (with_reducible first | exact HI0.out | apply IsS63.alloc | apply IsS63.drewN | apply IsS63.drew | apply zav | apply zaw) | exact HI0.out)) (zq2 HO_5) (by decide)) hk (fun _ h => h.2)) (fun _ h => h.1)); replace HO_7 := zA (Kd.R_mono (Kd.R_keep (IsS63.apart (show IsS63 w0 _ g s0_0 t135 t136 from by repeat (first | (with_reducible first | exact HI0.out | apply IsS63.alloc | apply IsS63.drewN | apply IsS63.drew | apply zav | apply zaw) | exact HI0.out)) (zq2 HO_7) (by decide)) hk (fun _ h => h.2)) (fun _ h => h.1)); replace HO133 := zA (Kd.R_mono (Kd.R_keep (IsS63.apart (show IsS63 w0 _ g s0_0 t135 t136 from by repeat (first | (with_reducible first | exact HI0.out | apply IsS63.alloc | apply IsS63.drewN | apply IsS63.drew | apply zav | apply zaw) | exact HI0.out)) (zq2 HO133) (by decide)) hk (fun _ h => h.2)) (fun _ h => h.1)); replace HK := zA (KeepBut.trans zq3 hk (.inl rfl)); replace HB := zA (hb); replace HI0 := zA (hi); (try clear hb); (try clear hk); (try clear hi)))
 have H := HCC.out
 clear HCC
 by_cases c36 : t138 = true
 rotate_left
 · replace c36 := zbf c36
   subst c36
   replace H := zif H
   simp only [Option.some.injEq, Prod.mk.injEq] at H
   obtain ⟨rfl, rfl, rfl, rfl, rfl⟩ := H
   go_wp2_with fail
   go_ret3
   exact ⟨_, _, zq5, zq2 HO_5, zq38 HO_7, zq4 HI0, zq6 HI0, zq3⟩
 subst c36
 replace H := zih H
 by_cases c37 : y137.length < 17592186044416
 rotate_left
 · rw [if_neg c37] at H
   exact absurd H (by simp)
 rw [if_pos c37] at H
 have LMc37 := zA c37
 clear c37
 obtain ⟨y141, hy141⟩ : ∃ y_ : List Int, y_ = (y137 ++ [0]) := ⟨_, rfl⟩
 rw [← hy141] at H; try with_reducible replace H := zbs H
 have Ny141 := zA hy141
 clear hy141
 simp only [Option.some.injEq, Prod.mk.injEq] at H
 obtain ⟨rfl, rfl, rfl, rfl, rfl⟩ := H
 go_wp2_with ((with_reducible refine zci (b := .append) (xs := #[.tmp 54, .tmp 55]) rfl ?_); at_builtin; refine Kd.R_append (Kd.int .i64) w.heap.size rfl (.tmp 54) (.tmp 55) 25 3 (.int .i64 0) 8 rfl Tryz.underlying25 zja rfl (by decide) (by omega) (.slice (some ⟨go34, 0, none⟩) x7_15.length co48) y137 0 [.int .i64 0] (fun k_ => some k_ ≠ (.slice Ao42 y131.length co42 : Value).ownBlock) (fun _ => False) rfl rfl ?aP (fun _ hk => hk.elim) ?aF ?aO (Below.refl _ _) ?aS ?aL ?_; (case aP => exact rfl); (case aF => exact (fun k_ hk => Kd.fresh' (Kd.R_lt (zq2 HO133)) k_ hk)); (case aO => exact (zq2 HO_7)); (case aS => exact (ze4 (w := w) (g := g) (row := none) zq3)); (case aL => have := LMc37.out; omega); intro v142 w47 ho hb hg hat; rw [← Ny141.out] at ho; have n0_ := zA (Kd.R_over' (zq2 HO_5) (Kd.R_typed (zq2 HO_7)) (by decide) hg); have n1_ := zA (IsS63.grown (zq4 HI0) hg (zi8 HI0.out HO_7.out (by decide))); have n2_ := zA (Kd.R_after (ok := (fun _ => True)) (zq2 HO133) hg hat); have n3_ := zA (zhi (zq6 HI0) HL.out hb); have n4_ := zA (KeepBut.trans zq3 (zgn hg g) (Kd.R_base2 HO_7.out)); have n5_ := zA (ho); clear HO_5; clear HI0; clear HO133 HB; clear HK; clear HO_7; have HO_5 := n0_; have HI0 := n1_; have HO133 := n2_; have HB := n3_; have HK := n4_; have HO143 := n5_; clear n0_ n1_ n2_ n3_ n4_ n5_; clear ho hb hg hat)
 go_ret3
 exact ⟨_, _, zq5, zq2 HO_5, zq38 HO143, zq4 HI0, zq6 HI0, zq3⟩
def zeg (k : Nat) (l0 : List Int) : Option ((List (S55)) × Int × List Int) := (zev k l0 0 0).bind fun bt102 => (some (bt102.1, bt102.2.1, bt102.2.2.1))
theorem zur : ∀ a0 k, LeO (zeg k a0) (zeg (k + 1) a0) := by
 intro a0 k
 unfold zeg
 exact zm1 zmj
theorem zoh (k : Nat) (A0 : Option Addr) (c0 : Nat) (l0 : List Int) (r1 : List (S55)) (r2 : Int) (r3 : List Int) (w : World) (hr0 : Kd.C (Kd.int .u8) w A0 l0.length l0) (hc0 : l0.length ≤ c0) (h : zeg k l0 = some (r1, r2, r3)) :
   Calls Tryz.prog 26 #[.slice A0 l0.length c0] w fun e w' => ∃ v0_ v2_ : Value, e = .returned (.tuple #[v0_, .int .i64 r2, v2_]) ∧ Kd.R k55 55 w' w.heap.size (fun _ => True) v0_ r1 ∧ Kd.R (Kd.int .i64) 3 w' w.heap.size (fun _ => True) v2_ r3 ∧ Below w.heap.size w w' := by
 have hu63 := Tryz.underlying63
 have HR0 := zA hr0
 have HC0 := zA hc0
 clear hr0 hc0
 have HB := zA (Below.refl w.heap.size w)
 have H := h
 unfold zeg at H
 clear h
 replace H := zob H
 obtain ⟨⟨t102, t105, t106, t109, t110⟩, A20, H⟩ := H
 have A2 := zA A20
 clear A20
 simp only [Option.some.injEq, Prod.mk.injEq] at H
 obtain ⟨rfl, rfl, rfl⟩ := H
 go_enter Tryz.func26, Tryz.ntmps26
 go_wp2_with (first | ((with_reducible refine zgd 8 ?_); refine zbh zq1 #[.slice A0 l0.length c0, .int .i64 0, .int .u64 0] 63 ?_; clear HB; intro gb101 w3 HB BK101 GW101; have GE101 := GW101; have HI101 := zA (show IsS63 w _ gb101 l0 0 0 from ⟨_, _, zq8 BK101, GE101.out, HR0.out⟩)) | ((with_reducible refine zgc 66 ?_); refine zca 10 Tryz.func66 #[.pointer (some ⟨gb101, 0, none⟩)] (zl3 k gb101 l0 0 0 t102 t105 t106 t109 t110 w _ (zq4 HI101) (zq6 HI101) A2.out) ?_; rintro e w4 ⟨v103, v107, rfl, ho0, ho1, hi, hb, hk⟩; refine ⟨_, rfl, ?_⟩; have HO104 := zA (Kd.R_lower ho0 (zaj (zq6 HI101))); have HO108 := zA (Kd.R_lower ho1 (zaj (zq6 HI101))); replace HB := zA (hb); replace HI101 := zA (hi); (try clear hb); (try clear hk); (try clear hi); (try clear ho0); (try clear ho1)))
 go_ret3
 exact ⟨_, _, zq5, zq2 HO104, zq2 HO108, zq6 HI101⟩
def zfj (k : Nat) (l0 : List Int) : Option ((List (S55)) × Int) := (zco l0 0 0 (([4, 8, 20] : List Int))).bind fun bt105 => ((zd0 k l0 bt105.2.1 bt105.2.2 bt105.1).bind fun bt108 => ((zco l0 bt108.2.1 bt108.2.2 (([1, 1, 2, 3, 4, 0] : List Int))).bind fun bt116 => (some (bt108.1, bt116.1))))
theorem zo0 : ∀ a0 k, LeO (zfj k a0) (zfj (k + 1) a0) := by
 intro a0 k
 unfold zfj
 exact zm1 zfh
theorem zot (k : Nat) (A0 : Option Addr) (c0 : Nat) (l0 : List Int) (r1 : List (S55)) (r2 : Int) (w : World) (hr0 : Kd.C (Kd.int .u8) w A0 l0.length l0) (hc0 : l0.length ≤ c0) (h : zfj k l0 = some (r1, r2)) :
   Calls Tryz.prog 82 #[.slice A0 l0.length c0] w fun e w' => ∃ v0_ : Value, e = .returned (.tuple #[v0_, .int .i64 r2]) ∧ Kd.R k55 55 w' w.heap.size (fun _ => True) v0_ r1 ∧ Below w.heap.size w w' := by
 have hu63 := Tryz.underlying63
 have HR0 := zA hr0
 have HC0 := zA hc0
 clear hr0 hc0
 have HB := zA (Below.refl w.heap.size w)
 have H := h
 unfold zfj at H
 clear h
 obtain ⟨y102, hy102⟩ : ∃ y_ : List Int, y_ = (([4, 8, 20] : List Int)) := ⟨_, rfl⟩
 rw [← hy102] at H; try with_reducible replace H := zbs H
 have Ny102 := zA hy102
 clear hy102
 replace H := zob H
 obtain ⟨⟨t105, t106, t107⟩, A20, H⟩ := H
 have A2 := zA A20
 clear A20
 replace H := zob H
 obtain ⟨⟨t108, t111, t112⟩, A30, H⟩ := H
 have A3 := zA A30
 clear A30
 obtain ⟨y113, hy113⟩ : ∃ y_ : List Int, y_ = (([1, 1, 2, 3, 4, 0] : List Int)) := ⟨_, rfl⟩
 rw [← hy113] at H; try with_reducible replace H := zbs H
 have Ny113 := zA hy113
 clear hy113
 replace H := zob H
 obtain ⟨⟨t116, t117, t118⟩, A40, H⟩ := H
 have A4 := zA A40
 clear A40
 simp only [Option.some.injEq, Prod.mk.injEq] at H
 obtain ⟨rfl, rfl⟩ := H
 go_enter Tryz.func82, Tryz.ntmps82
 go_wp2_with (first | ((with_reducible refine zgd 7 ?_); refine zbx #[.slice A0 l0.length c0, .int .i64 0, .int .u64 0] 63 ?_; intro gb101 hg w5 hbox hb; have zs := zpair zq1 hb; replace HB := zA (zs.1); have BK101 := zA (hbox); have GW101 := zA (zge hg zs.2); have GE101 := GW101; clear zs hb hbox hg) | ((with_reducible refine zgd 10 ?_); refine Kd.R_lit (Kd.int .i64) _ 3 ?hg (N := 10) ?hd (xs := ([4, 8, 20] : List Int)) (inner := [.int .i64 4, .int .i64 8, .int .i64 20]) (ok := fun _ => True) (okp := fun _ => True) ?hr ?hp (fun _ hk => hk) trivial (Below.refl _ _) (zlr _) (by simp) ?_; (case hd => rfl); (case hg => rfl); (case hr => go_simp <;> rfl); (case hp => exact (zam (show Kd.M (Kd.int .i64) _ _ _ 4 [.int .i64 4] from rfl) (zam (show Kd.M (Kd.int .i64) _ _ _ 8 [.int .i64 8] from rfl) (zam (show Kd.M (Kd.int .i64) _ _ _ 20 [.int .i64 20] from rfl) (Reps.none _ _))))); intro v103 w6 ho7 hb hg_ hnew_; clear hg_ hnew_; (first | rw [← Ny102.out] at ho7 | (simp only [Int.reduceToNat] at ho7; rw [← Ny102.out] at ho7)); have HO104 := zA (Kd.R_lower ho7 (zaj (zq10 GE101))); replace BK101 := zbb BK101 hb; replace HB := zA (zab (zq10 GE101) hb); clear hb ho7; have HI101 := zA (show IsS63 w _ gb101 l0 0 0 from ⟨_, _, zq8 BK101, GE101.out, HR0.out⟩); obtain ⟨Ao8, co8, eo8⟩ := Kd.R_slice HO104.out; subst eo8) | ((with_reducible refine zgc 61 ?_); refine zca 11 Tryz.func61 #[.pointer (some ⟨gb101, 0, none⟩), .slice Ao8 y102.length co8] (zc0 gb101 l0 0 0 _ _ y102 t105 t106 t107 w _ (zq4 HI101) (zq6 HI101) (zq19 HO104) (zq48 HO104) (zq47 HI101 HO104) A2.out) ?_; rintro e w9 ⟨rfl, hi, hb, hk⟩; refine ⟨_, rfl, ?_⟩; replace HO104 := zA (Kd.R_mono (Kd.R_keep (IsS63.apart (show IsS63 w _ gb101 l0 0 0 from by repeat (first | (with_reducible first | exact HI101.out | apply IsS63.alloc | apply IsS63.drewN | apply IsS63.drew | apply zav | apply zaw) | exact HI101.out)) (zq2 HO104) (by decide)) hk (fun _ h => h.2)) (fun _ h => h.1)); replace HB := zA (hb); replace HI101 := zA (hi); (try clear hb); (try clear hk); (try clear hi)) | ((with_reducible refine zgc 60 ?_); refine zca 12 Tryz.func60 #[.pointer (some ⟨gb101, 0, none⟩), .int .i64 t105] (zli k gb101 l0 t106 t107 t105 t108 t111 t112 w _ (zq4 HI101) (zq6 HI101) A3.out) ?_; rintro e w10 ⟨v109, rfl, ho0, hi, hb, hk⟩; refine ⟨_, rfl, ?_⟩; replace HO104 := zA (Kd.R_mono (Kd.R_keep (IsS63.apart (show IsS63 w _ gb101 l0 t106 t107 from by repeat (first | (with_reducible first | exact HI101.out | apply IsS63.alloc | apply IsS63.drewN | apply IsS63.drew | apply zav | apply zaw) | exact HI101.out)) (zq2 HO104) (by decide)) hk (fun _ h => h.2)) (fun _ h => h.1)); have HO110 := zA (Kd.R_lower ho0 (zaj (zq6 HI101))); replace HB := zA (hb); replace HI101 := zA (hi); (try clear hb); (try clear hk); (try clear hi); (try clear ho0)) | ((with_reducible refine zgd 14 ?_); refine Kd.R_lit (Kd.int .i64) _ 3 ?hg (N := 14) ?hd (xs := ([1, 1, 2, 3, 4, 0] : List Int)) (inner := [.int .i64 1, .int .i64 1, .int .i64 2, .int .i64 3, .int .i64 4, .int .i64 0]) (ok := fun _ => True) (okp := fun _ => True) ?hr ?hp (fun _ hk => hk) trivial (Below.refl _ _) (zlr _) (by simp) ?_; (case hd => rfl); (case hg => rfl); (case hr => go_simp <;> rfl); (case hp => exact (zam (show Kd.M (Kd.int .i64) _ _ _ 1 [.int .i64 1] from rfl) (zam (show Kd.M (Kd.int .i64) _ _ _ 1 [.int .i64 1] from rfl) (zam (show Kd.M (Kd.int .i64) _ _ _ 2 [.int .i64 2] from rfl) (zam (show Kd.M (Kd.int .i64) _ _ _ 3 [.int .i64 3] from rfl) (zam (show Kd.M (Kd.int .i64) _ _ _ 4 [.int .i64 4] from rfl) (zam (show Kd.M (Kd.int .i64) _ _ _ 0 [.int .i64 0] from rfl) (Reps.none _ _)))))))); intro v114 w11 ho12 hb hg_ hnew_; clear hg_ hnew_; (first | rw [← Ny113.out] at ho12 | (simp only [Int.reduceToNat] at ho12; rw [← Ny113.out] at ho12)); replace HO110 := zA (zRb (zq2 HO110) hb); have HO115 := zA (Kd.R_lower (Kd.R_new' ho12 (Kd.R_lt (zq2 HO104))) (zaj (zq6 HI101))); replace HO104 := zA (Kd.R_elder' (zq2 HO104) (Kd.R_base ho12) hb); replace HB := zA (zab (zq6 HI101) hb); replace HI101 := zA (IsS63.below (zq4 HI101) hb); clear hb ho12; obtain ⟨Ao13, co13, eo13⟩ := Kd.R_slice HO115.out; subst eo13) | ((with_reducible refine zgc 61 ?_); refine zca 15 Tryz.func61 #[.pointer (some ⟨gb101, 0, none⟩), .slice Ao13 y113.length co13] (zc0 gb101 l0 t111 t112 _ _ y113 t116 t117 t118 w _ (zq4 HI101) (zq6 HI101) (zq19 HO115) (zq48 HO115) (zq47 HI101 HO115) A4.out) ?_; rintro e w14 ⟨rfl, hi, hb, hk⟩; refine ⟨_, rfl, ?_⟩; replace HO104 := zA (Kd.R_mono (Kd.R_keep (IsS63.apart (show IsS63 w _ gb101 l0 t111 t112 from by repeat (first | (with_reducible first | exact HI101.out | apply IsS63.alloc | apply IsS63.drewN | apply IsS63.drew | apply zav | apply zaw) | exact HI101.out)) (zq2 HO104) (by decide)) hk (fun _ h => h.2)) (fun _ h => h.1)); replace HO110 := zA (Kd.R_mono (Kd.R_keep (IsS63.apart (show IsS63 w _ gb101 l0 t111 t112 from by repeat (first | (with_reducible first | exact HI101.out | apply IsS63.alloc | apply IsS63.drewN | apply IsS63.drew | apply zav | apply zaw) | exact HI101.out)) (zq2 HO110) (by decide)) hk (fun _ h => h.2)) (fun _ h => h.1)); replace HO115 := zA (Kd.R_mono (Kd.R_keep (IsS63.apart (show IsS63 w _ gb101 l0 t111 t112 from by repeat (first | (with_reducible first | exact HI101.out | apply IsS63.alloc | apply IsS63.drewN | apply IsS63.drew | apply zav | apply zaw) | exact HI101.out)) (zq2 HO115) (by decide)) hk (fun _ h => h.2)) (fun _ h => h.1)); replace HB := zA (hb); replace HI101 := zA (hi); (try clear hb); (try clear hk); (try clear hi)))
 go_ret2
 exact ⟨_, zq5, zq2 HO110, zq6 HI101⟩
def zds (k : Nat) (l0 : List Int) : Option ((List (S55)) × Int) := (zfj k l0).bind fun bt101 => (some (bt101.1, bt101.2))
theorem zud : ∀ a0 k, LeO (zds k a0) (zds (k + 1) a0) := by
 intro a0 k
 unfold zds
 exact zm1 zo0
theorem zno (k : Nat) (A0 : Option Addr) (c0 : Nat) (l0 : List Int) (r1 : List (S55)) (r2 : Int) (w : World) (hr0 : Kd.C (Kd.int .u8) w A0 l0.length l0) (hc0 : l0.length ≤ c0) (h : zds k l0 = some (r1, r2)) :
   Calls Tryz.prog 35 #[.slice A0 l0.length c0] w fun e w' => ∃ v0_ : Value, e = .returned (.tuple #[v0_, .int .i64 r2]) ∧ Kd.R k55 55 w' w.heap.size (fun _ => True) v0_ r1 ∧ Below w.heap.size w w' := by
 have HR0 := zA hr0
 have HC0 := zA hc0
 clear hr0 hc0
 have HB := zA (Below.refl w.heap.size w)
 have H := h
 unfold zds at H
 clear h
 replace H := zob H
 obtain ⟨⟨t101, t102⟩, A20, H⟩ := H
 have A2 := zA A20
 clear A20
 simp only [Option.some.injEq, Prod.mk.injEq] at H
 obtain ⟨rfl, rfl⟩ := H
 go_enter Tryz.func35, Tryz.ntmps35
 go_wp2_with (first | ((with_reducible refine zgc 82 ?_); refine zca 5 Tryz.func82 #[.slice A0 l0.length c0] (zot k _ _ l0 t101 t102 _ (zq15 HR0) HC0.out A2.out) ?_; rintro e w3 ⟨v103, rfl, ho0, hb⟩; refine ⟨_, rfl, ?_⟩; have HO104 := zA (Kd.R_lower ho0 (zaj zq1)); replace HB := zA (zab zq1 hb); (try clear hb); (try clear ho0)))
 go_ret2
 exact ⟨_, zq5, zq2 HO104, zq1⟩
def zfw (k : Nat) (l0 : List Int) : Option ((List (S55)) × List Int) := (zev k l0 0 0).bind fun bt102 => (some (bt102.1, bt102.2.2.1))
theorem zpf : ∀ a0 k, LeO (zfw k a0) (zfw (k + 1) a0) := by
 intro a0 k
 unfold zfw
 exact zm1 zmj
theorem zo1 (k : Nat) (A0 : Option Addr) (c0 : Nat) (l0 : List Int) (r1 : List (S55)) (r2 : List Int) (w : World) (hr0 : Kd.C (Kd.int .u8) w A0 l0.length l0) (hc0 : l0.length ≤ c0) (h : zfw k l0 = some (r1, r2)) :
   Calls Tryz.prog 88 #[.slice A0 l0.length c0] w fun e w' => ∃ v0_ v1_ : Value, e = .returned (.tuple #[v0_, v1_]) ∧ Kd.R k55 55 w' w.heap.size (fun _ => True) v0_ r1 ∧ Kd.R (Kd.int .i64) 3 w' w.heap.size (fun _ => True) v1_ r2 ∧ Below w.heap.size w w' := by
 have hu63 := Tryz.underlying63
 have HR0 := zA hr0
 have HC0 := zA hc0
 clear hr0 hc0
 have HB := zA (Below.refl w.heap.size w)
 have H := h
 unfold zfw at H
 clear h
 replace H := zob H
 obtain ⟨⟨t102, t105, t106, t109, t110⟩, A20, H⟩ := H
 have A2 := zA A20
 clear A20
 simp only [Option.some.injEq, Prod.mk.injEq] at H
 obtain ⟨rfl, rfl⟩ := H
 go_enter Tryz.func88, Tryz.ntmps88
 go_wp2_with (first | ((with_reducible refine zgd 10 ?_); refine zbh zq1 #[.slice A0 l0.length c0, .int .i64 0, .int .u64 0] 63 ?_; clear HB; intro gb101 w3 HB BK101 GW101; have GE101 := GW101; have HI101 := zA (show IsS63 w _ gb101 l0 0 0 from ⟨_, _, zq8 BK101, GE101.out, HR0.out⟩)) | ((with_reducible refine zgc 66 ?_); refine zca 13 Tryz.func66 #[.pointer (some ⟨gb101, 0, none⟩)] (zl3 k gb101 l0 0 0 t102 t105 t106 t109 t110 w _ (zq4 HI101) (zq6 HI101) A2.out) ?_; rintro e w4 ⟨v103, v107, rfl, ho0, ho1, hi, hb, hk⟩; refine ⟨_, rfl, ?_⟩; have HO104 := zA (Kd.R_lower ho0 (zaj (zq6 HI101))); have HO108 := zA (Kd.R_lower ho1 (zaj (zq6 HI101))); replace HB := zA (hb); replace HI101 := zA (hi); (try clear hb); (try clear hk); (try clear hi); (try clear ho0); (try clear ho1)))
 go_ret2
 exact ⟨_, _, zq5, zq2 HO104, zq2 HO108, zq6 HI101⟩
def zc9 (k : Nat) (l0 : List Int) : Option ((List (S55)) × List Int) := (zfw k l0).bind fun bt101 => (some (bt101.1, bt101.2))
theorem ztc : ∀ a0 k, LeO (zc9 k a0) (zc9 (k + 1) a0) := by
 intro a0 k
 unfold zc9
 exact zm1 zpf
theorem zmk (k : Nat) (A0 : Option Addr) (c0 : Nat) (l0 : List Int) (r1 : List (S55)) (r2 : List Int) (w : World) (hr0 : Kd.C (Kd.int .u8) w A0 l0.length l0) (hc0 : l0.length ≤ c0) (h : zc9 k l0 = some (r1, r2)) :
   Calls Tryz.prog 39 #[.slice A0 l0.length c0] w fun e w' => ∃ v0_ v1_ : Value, e = .returned (.tuple #[v0_, v1_]) ∧ Kd.R k55 55 w' w.heap.size (fun _ => True) v0_ r1 ∧ Kd.R (Kd.int .i64) 3 w' w.heap.size (fun _ => True) v1_ r2 ∧ Below w.heap.size w w' := by
 have HR0 := zA hr0
 have HC0 := zA hc0
 clear hr0 hc0
 have HB := zA (Below.refl w.heap.size w)
 have H := h
 unfold zc9 at H
 clear h
 replace H := zob H
 obtain ⟨⟨t101, t102⟩, A20, H⟩ := H
 have A2 := zA A20
 clear A20
 simp only [Option.some.injEq, Prod.mk.injEq] at H
 obtain ⟨rfl, rfl⟩ := H
 go_enter Tryz.func39, Tryz.ntmps39
 go_wp2_with (first | ((with_reducible refine zgc 88 ?_); refine zca 5 Tryz.func88 #[.slice A0 l0.length c0] (zo1 k _ _ l0 t101 t102 _ (zq15 HR0) HC0.out A2.out) ?_; rintro e w3 ⟨v103, v105, rfl, ho0, ho1, hb⟩; refine ⟨_, rfl, ?_⟩; have HO104 := zA (Kd.R_lower ho0 (zaj zq1)); have HO106 := zA (Kd.R_lower ho1 (zaj zq1)); replace HB := zA (zab zq1 hb); (try clear hb); (try clear ho0); (try clear ho1)))
 go_ret2
 exact ⟨_, _, zq5, zq2 HO104, zq2 HO106, zq1⟩
def zfi : Nat → Int → Int → List Int → Int → Int → Option (Bool)
 | 0, _, _, _, _, _ => none
 | k + 1, x1, x2, x9, x10, x11 => if x11 < x10 then (if 0 ≤ x11 then (if x11 < (x9.length : Int) then ((zj1 (rd x9 x11) x1 x2).bind fun t102 => (if t102 = true then (zfi k x1 x2 x9 x10 (wrap64 (x11 + 1))) else (some false))) else (none)) else (none)) else (some true)
def ziu (k : Nat) (l0 : List Int) (a1 : Int) (a2 : Int) : Option (Bool) := zfi k a1 a2 l0 (l0.length : Int) 0
theorem zou : ∀ k, (∀ y0 y1 y2 y3 y4, LeO (zfi k y0 y1 y2 y3 y4) (zfi (k + 1) y0 y1 y2 y3 y4))
 | 0 => fun _ _ _ _ _ r h => by simp [zfi] at h
 | k + 1 => by
   have ih0 := zou k
   · intro y0 y1 y2 y3 y4
     unfold zfi
     exact zm1 ih0
theorem zj4 : ∀ a0 a1 a2 k, LeO (ziu k a0 a1 a2) (ziu (k + 1) a0 a1 a2) := by
 intro a0 a1 a2 k
 have ih0 := zou k
 unfold ziu
 exact zm1 ih0
theorem zk1 (k : Nat) (A0 : Option Addr) (c0 : Nat) (l0 : List Int) (a1 : Int) (a2 : Int) (r : Bool) (w : World) (hr0 : Kd.C (Kd.int .i64) w A0 l0.length l0) (hc0 : l0.length ≤ c0) (h : ziu k l0 a1 a2 = some r) :
   Calls Tryz.prog 106 #[.slice A0 l0.length c0, .int .i64 a1, .int .i64 a2] w fun e w' => e = .returned (.bool r) ∧ Drawn0 w w' := by
 have HR0 := zA hr0
 have HC0 := zA hc0
 clear hr0 hc0
 have H := h
 unfold ziu at H
 clear h
 have H' := zA H
 clear H
 go_enter Tryz.func106, Tryz.ntmps106
 go_wp2
 go_loopg [11] k (fun kq v11 w' => ∃ (x11_1 : Int), v11 = .int .i64 x11_1 ∧ Aside0 (zfi kq a1 a2 l0 (l0.length : Int) x11_1 = some r) ∧ Aside0 (kq ≤ k) ∧ Drawn0 w w')
 case atStart => exact ⟨(0), zq7, H', ⟨zlr _⟩, zq13⟩
 clear H'
 obtain ⟨x11_1, rfl, HA, HK1, ⟨m1, rfl⟩⟩ := hrel
 cases gk with
 | zero => exact absurd HA.out (by simp [zfi])
 | succ k1 =>
 have H := HA.out
 clear HA
 simp only [zfi] at H
 revert H
 refine zit (fun c4 H => ?_) fun c4 H => ?_
 rotate_left
 · obtain rfl := zsi H
   exact zr_5
 revert H
 refine zin fun c5 H => ?_
 revert H
 refine zin fun c6 H => ?_
 replace H := zob H
 obtain ⟨t102, A70, H⟩ := H
 have A7 := zA A70
 clear A70
 by_cases c8 : t102 = true
 rotate_left
 · replace c8 := zbf c8
   subst c8
   replace H := zif H
   obtain rfl := zsi H
   obtain ⟨p101, q101⟩ := zpq x11_1 l0.length
   obtain ⟨ad101, e101, hx101_0⟩ := Kd.at_int HR0.out x11_1 (zoe p101) (zoe q101)
   cases e101
   go_wp2_with (first | ((with_reducible refine zgc 99 ?_); refine zcl 18 Tryz.func99 (zfo (rd l0 x11_1) a1 a2 false _ A7.out) ?_; rintro e w' ⟨rfl, ⟨nd, rfl⟩⟩; refine ⟨_, rfl, ?_⟩))
   exact zr_1
 subst c8
 replace H := zih H
 have H' := zA H
 clear H
 obtain ⟨p101, q101⟩ := zpq x11_1 l0.length
 obtain ⟨ad101, e101, hx101_0⟩ := Kd.at_int HR0.out x11_1 (zoe p101) (zoe q101)
 cases e101
 go_wp2_with (first | ((with_reducible refine zgc 99 ?_); refine zcl 18 Tryz.func99 (zfo (rd l0 x11_1) a1 a2 true _ A7.out) ?_; rintro e w' ⟨rfl, ⟨nd, rfl⟩⟩; refine ⟨_, rfl, ?_⟩))
 go_roundg k1
 case measure => have := HK1.out; omega
 case rel => exact ⟨(wrap64 (x11_1 + 1)), zq7, H', ⟨zq51 HK1⟩, zq13⟩
mutual
def zec : Nat → List (S55) → Int → List Int → Bool → Option (Bool)
 | 0, _, _, _, _ => none
 | k + 1, x0, x1, x2, x21 => if x21 = true then (some false) else ((zfq k x0).bind fun t102 => (zcx k x1 x2 t102 (t102.length : Int) 0))
def zcx : Nat → Int → List Int → List (List Int) → Int → Int → Option (Bool)
 | 0, _, _, _, _, _ => none
 | k + 1, x1, x2, x23, x24, x25 => if x25 < x24 then (if 0 ≤ x25 then (if x25 < (x23.length : Int) then (zbp k x1 x2 x25 0 x23 x24 x25 (za5 x23 x25) ((za5 x23 x25).length : Int) 0) else (none)) else (none)) else (some true)
def zbp : Nat → Int → List Int → Int → Int → List (List Int) → Int → Int → List Int → Int → Int → Option (Bool)
 | 0, _, _, _, _, _, _, _, _, _, _ => none
 | k + 1, x1, x2, x7, x9, x23, x24, x25, x30, x31, x32 => if x32 < x31 then (if 0 ≤ x32 then (if x32 < (x30.length : Int) then (if x32 < (x2.length : Int) then (if 0 ≤ x7 then (if x7 < (x2.length : Int) then (if (rd x2 x32) = (rd x2 x7) then (if (rd x30 x32) ≥ 0 then (if (rd x2 x32) < (wrap64 ((rd x2 x7) + (rd x30 x32))) then (some false) else (zbp k x1 x2 x7 (wrap64 (x9 + 1)) x23 x24 x25 x30 x31 (wrap64 (x32 + 1)))) else (zbp k x1 x2 x7 (wrap64 (x9 + 1)) x23 x24 x25 x30 x31 (wrap64 (x32 + 1)))) else (if (rd x30 x32) ≥ 0 then (if (rd x2 x32) < (wrap64 ((rd x2 x7) + (rd x30 x32))) then (some false) else (zbp k x1 x2 x7 x9 x23 x24 x25 x30 x31 (wrap64 (x32 + 1)))) else (zbp k x1 x2 x7 x9 x23 x24 x25 x30 x31 (wrap64 (x32 + 1))))) else (none)) else (none)) else (none)) else (none)) else (none)) else (if x9 > x1 then (some false) else (zcx k x1 x2 x23 x24 (wrap64 (x25 + 1))))
end
def zg1 (k : Nat) (l0 : List (S55)) (a1 : Int) (l2 : List Int) : Option (Bool) := if (l2.length : Int) = (l0.length : Int) then ((ziu k l2 0 100).bind fun t101 => (zec k l0 a1 l2 (!t101))) else (zec k l0 a1 l2 true)
theorem zl4 : ∀ k, (∀ y0 y1 y2 y3, LeO (zec k y0 y1 y2 y3) (zec (k + 1) y0 y1 y2 y3)) ∧ (∀ y0 y1 y2 y3 y4, LeO (zcx k y0 y1 y2 y3 y4) (zcx (k + 1) y0 y1 y2 y3 y4)) ∧ (∀ y0 y1 y2 y3 y4 y5 y6 y7 y8 y9, LeO (zbp k y0 y1 y2 y3 y4 y5 y6 y7 y8 y9) (zbp (k + 1) y0 y1 y2 y3 y4 y5 y6 y7 y8 y9))
 | 0 => ⟨fun _ _ _ _ r h => by simp [zec] at h, fun _ _ _ _ _ r h => by simp [zcx] at h, fun _ _ _ _ _ _ _ _ _ _ r h => by simp [zbp] at h⟩
 | k + 1 => by
   obtain ⟨ih0, ih1, ih2⟩ := zl4 k
   refine ⟨?_, ?_, ?_⟩
   · intro y0 y1 y2 y3
     unfold zec
     exact zm5 ih0 ih1 ih2 zj4 zcn
   · intro y0 y1 y2 y3 y4
     unfold zcx
     exact zm5 ih0 ih1 ih2 zj4 zcn
   · intro y0 y1 y2 y3 y4 y5 y6 y7 y8 y9
     unfold zbp
     exact zm5 ih0 ih1 ih2 zj4 zcn
theorem zqg : ∀ a0 a1 a2 k, LeO (zg1 k a0 a1 a2) (zg1 (k + 1) a0 a1 a2) := by
 intro a0 a1 a2 k
 obtain ⟨ih0, ih1, ih2⟩ := zl4 k
 unfold zg1
 exact zm5 ih0 ih1 ih2 zj4 zcn
theorem zpr (k : Nat) (A0 : Option Addr) (c0 : Nat) (l0 : List (S55)) (a1 : Int) (A2 : Option Addr) (c2 : Nat) (l2 : List Int) (r : Bool) (w : World) (hr0 : Kd.C k55 w A0 l0.length l0) (hc0 : l0.length ≤ c0) (hr2 : Kd.C (Kd.int .i64) w A2 l2.length l2) (hc2 : l2.length ≤ c2) (h : zg1 k l0 a1 l2 = some r) :
   Calls Tryz.prog 70 #[.slice A0 l0.length c0, .int .i64 a1, .slice A2 l2.length c2] w fun e w' => e = .returned (.bool r) ∧ Below w.heap.size w w' := by
 have HR0 := zA hr0
 have HC0 := zA hc0
 clear hr0 hc0
 have HR2 := zA hr2
 have HC2 := zA hc2
 clear hr2 hc2
 have HB := zA (Below.refl w.heap.size w)
 have H := h
 unfold zg1 at H
 clear h
 have HC4 := zA H
 clear H
 go_enter Tryz.func70, Tryz.ntmps70
 go_upto_region 1 with (fail)
 repeat (go_quiet (fail); go_upto_region 1 with (fail))
 go_cut [21] (fun v21 wc => ∃ (kq : Nat) (x21_3 : Bool), v21 = .bool x21_3 ∧ Aside0 (zec kq l0 a1 l2 x21_3 = some r) ∧ Aside0 (kq ≤ k) ∧ Aside0 (Below w.heap.size w wc))
 case first =>
   have H := HC4.out
   clear HC4
   by_cases c5 : (l2.length : Int) = (l0.length : Int)
   rotate_left
   · rw [if_neg c5] at H
     obtain ⟨c5b0, c5b1⟩ := zbq c5
     have c5b2 : (l2.length == l0.length) = false := by first | simpa using c5 | (simp at c5 ⊢; omega)
     (first | rw [c5b0] | (simp only [zia, ziz]; rw [c5b0]) | skip)
     have H' := zA H
     clear H
     go_wp2
     repeat (go_quiet (fail); try go_wp2)
     go_meet
     case rel => exact ⟨_, (true), zq7, H', ⟨zq42⟩, ⟨zq1⟩⟩
   rw [if_pos c5] at H
   obtain ⟨c5b0, c5b1⟩ := zbe c5
   have c5b2 : (l2.length == l0.length) = true := by first | simpa using c5 | (simp at c5 ⊢; omega)
   clear c5
   (first | rw [c5b0] | (simp only [zia, ziz]; rw [c5b0]) | skip)
   replace H := zob H
   obtain ⟨t101, A60, H⟩ := H
   have A6 := zA A60
   clear A60
   have H' := zA H
   clear H
   go_wp2_with (first | (go_at_call 106; (with_reducible refine (zk1 k _ _ l2 0 100 t101 _ ?side1 ?side2 A6.out).mono ?_); (case side1 => repeat (first | exact (zCb HR2.out HB.out) | (with_reducible first | refine zCa ?_ _ | refine zCn ?_ _ | refine zCd ?_))); (case side2 => exact HC2.out); rintro e w' ⟨rfl, ⟨nd, rfl⟩⟩; (try first | exact ⟨rfl, _, World.drewN_drewN _ _ _⟩ | exact ⟨rfl, _, Eq.trans (World.drewN_drewN _ _ _) (congrArg (World.drewN _) (Nat.add_assoc _ _ _))⟩)))
   repeat (go_quiet (first | (go_at_call 106; (with_reducible refine (zk1 k _ _ l2 0 100 t101 _ ?side1 ?side2 A6.out).mono ?_); (case side1 => repeat (first | exact (zCb HR2.out HB.out) | (with_reducible first | refine zCa ?_ _ | refine zCn ?_ _ | refine zCd ?_))); (case side2 => exact HC2.out); rintro e w' ⟨rfl, ⟨nd, rfl⟩⟩; (try first | exact ⟨rfl, _, World.drewN_drewN _ _ _⟩ | exact ⟨rfl, _, Eq.trans (World.drewN_drewN _ _ _) (congrArg (World.drewN _) (Nat.add_assoc _ _ _))⟩))); try go_wp2_with (first | (go_at_call 106; (with_reducible refine (zk1 k _ _ l2 0 100 t101 _ ?side1 ?side2 A6.out).mono ?_); (case side1 => repeat (first | exact (zCb HR2.out HB.out) | (with_reducible first | refine zCa ?_ _ | refine zCn ?_ _ | refine zCd ?_))); (case side2 => exact HC2.out); rintro e w' ⟨rfl, ⟨nd, rfl⟩⟩; (try first | exact ⟨rfl, _, World.drewN_drewN _ _ _⟩ | exact ⟨rfl, _, Eq.trans (World.drewN_drewN _ _ _) (congrArg (World.drewN _) (Nat.add_assoc _ _ _))⟩))))
   go_meet
   case rel => exact ⟨_, (!t101), zq7, H', ⟨zq42⟩, ⟨zq1⟩⟩
 clear HC4
 obtain ⟨kq, x21_3, rfl, HA, HJ3, HB⟩ := hcut
 cases kq with
 | zero => exact absurd HA.out (by simp [zec])
 | succ kj3 =>
 have H := HA.out
 clear HA
 simp only [zec] at H
 by_cases c7 : x21_3 = true
 · subst c7
   replace H := zih H
   obtain rfl := zsi H
   go_wp2
   repeat (go_quiet (fail); try go_wp2)
   exact zr_2
 replace c7 := zbf c7
 subst c7
 replace H := zif H
 replace H := zob H
 obtain ⟨t102, A80, H⟩ := H
 have A8 := zA A80
 clear A80
 have H' := zA H
 clear H
 go_wp2_with (first | (go_at_call 62; (with_reducible refine (zgz kj3 _ _ l0 t102 _ ?side1 ?side2 A8.out).mono ?_); (case side1 => repeat (first | exact (zCb HR0.out HB.out) | (with_reducible first | refine zCa ?_ _ | refine zCn ?_ _ | refine zCd ?_))); (case side2 => exact HC0.out); rintro e w9 ⟨v103, rfl, ho0, hb⟩; have HO104 := zA (Kd.S_lower ho0 (zaj zq1)); replace HB := zA (zab zq1 hb); (try clear hb); (try clear ho0); obtain ⟨Ao10, co10, eo10⟩ := Kd.S_slice HO104.out; subst eo10))
 repeat (go_quiet (first | (go_at_call 62; (with_reducible refine (zgz kj3 _ _ l0 t102 _ ?side1 ?side2 A8.out).mono ?_); (case side1 => repeat (first | exact (zCb HR0.out HB.out) | (with_reducible first | refine zCa ?_ _ | refine zCn ?_ _ | refine zCd ?_))); (case side2 => exact HC0.out); rintro e w9 ⟨v103, rfl, ho0, hb⟩; have n0_ := zA (Kd.S_lower ho0 (zaj zq1)); have n1_ := zA (zab zq1 hb); clear HB; have HO104 := n0_; have HB := n1_; clear n0_ n1_; (try clear hb); (try clear ho0); obtain ⟨Ao10, co10, eo10⟩ := Kd.S_slice HO104.out; subst eo10)); try go_wp2_with (first | (go_at_call 62; (with_reducible refine (zgz kj3 _ _ l0 t102 _ ?side1 ?side2 A8.out).mono ?_); (case side1 => repeat (first | exact (zCb HR0.out HB.out) | (with_reducible first | refine zCa ?_ _ | refine zCn ?_ _ | refine zCd ?_))); (case side2 => exact HC0.out); rintro e w9 ⟨v103, rfl, ho0, hb⟩; have n0_ := zA (Kd.S_lower ho0 (zaj zq1)); have n1_ := zA (zab zq1 hb); clear HB; have HO104 := n0_; have HB := n1_; clear n0_ n1_; (try clear hb); (try clear ho0); obtain ⟨Ao10, co10, eo10⟩ := Kd.S_slice HO104.out; subst eo10)))
 go_loopg [25] kj3 (fun kq v25 w' => ∃ (x25_2 : Int), v25 = .int .i64 x25_2 ∧ Aside0 (zcx kq a1 l2 t102 (t102.length : Int) x25_2 = some r) ∧ Aside0 (kq ≤ kj3) ∧ Aside0 (Kd.S (Kd.slice 3 (Kd.int .i64)) 25 w' w.heap.size (fun _ => True) (.slice Ao10 t102.length co10) t102) ∧ Aside0 (Below w.heap.size w w'))
 case atStart => exact ⟨(0), zq7, H', ⟨zlr _⟩, ⟨zq17 HO104⟩, ⟨zq1⟩⟩
 clear H'
 obtain ⟨x25_2, rfl, HA, HK2, HO_23, HB⟩ := hrel
 cases gk with
 | zero => exact absurd HA.out (by simp [zcx])
 | succ k2 =>
 have H := HA.out
 clear HA
 simp only [zcx] at H
 revert H
 refine zit (fun c11 H => ?_) fun c11 H => ?_
 rotate_left
 · obtain rfl := zsi H
   go_wp2
   repeat (go_quiet (fail); try go_wp2)
   exact zr_2
 revert H
 refine zin fun c12 H => ?_
 revert H
 refine zin fun c13 H => ?_
 have H' := zA H
 clear H
 have p105 : 0 ≤ (x25_2 : Int) := zde zq20
 have q105 : x25_2 < (t102.length : Int) := zde zq20
 obtain ⟨ad105, A105_0, c105_0, e105, hx105_0, hl105_0, hi105_0⟩ := zln (zSr HO_23.out).2.2 x25_2 p105 q105
 cases e105
 obtain ⟨ce105, hce105, hMe105, hcc105⟩ := Kd.S_get HO_23.out [] x25_2 p105 (by first | exact q105 | exact zde zq20 | (have e_ := (zSr HO_23.out).1; omega))
 obtain ⟨ve105_0, rfl, ge105_0⟩ := hMe105
 have hv105_0 := hcc105 0 _ rfl
 rw [Nat.add_zero, show ((Kd.slice 3 (Kd.int .i64))).sz = 1 from rfl, Nat.mul_one] at hv105_0
 replace hv105_0 := zsi (hv105_0.symm.trans hx105_0)
 rw [hv105_0] at ge105_0
 have HL105_0 := zA (show Kd.R (Kd.int .i64) 3 _ _ _ _ (za5 t102 x25_2) from ge105_0)
 clear hv105_0 ge105_0
 clear hcc105 hce105
 have HR105_0 := zA hi105_0
 have HC105_0 := zA hl105_0
 clear hi105_0 hl105_0
 replace p105 := eq_true p105
 replace q105 := eq_true q105
 go_wp2
 repeat (go_quiet (fail); try go_wp2)
 go_loopg [9, 32] k2 (fun kq v9 v32 w' => ∃ (x9_3 : Int) (x32_3 : Int), v9 = .int .i64 x9_3 ∧ v32 = .int .i64 x32_3 ∧ Aside0 (zbp kq a1 l2 x25_2 x9_3 t102 (t102.length : Int) x25_2 (za5 t102 x25_2) ((za5 t102 x25_2).length : Int) x32_3 = some r) ∧ Aside0 (kq ≤ k2) ∧ Aside0 (Kd.S (Kd.slice 3 (Kd.int .i64)) 25 w' w.heap.size (fun _ => True) (.slice (some ad105) t102.length co10) t102) ∧ Aside0 (Kd.C (Kd.int .i64) w' A105_0 (za5 t102 x25_2).length (za5 t102 x25_2)) ∧ Aside0 (Below w.heap.size w w'))
 case atStart => exact ⟨(0), (0), zq7, zq7, H', ⟨zlr _⟩, ⟨zq17 HO_23⟩, ⟨zq18 HR105_0⟩, ⟨zq1⟩⟩
 clear H'
 obtain ⟨x9_3, x32_3, rfl, rfl, HA, HK3, HO_23, HR105_0, HB⟩ := hrel
 cases gk with
 | zero => exact absurd HA.out (by simp [zbp])
 | succ k3 =>
 have H := HA.out
 clear HA
 simp only [zbp] at H
 revert H
 refine zit (fun c14 H => ?_) fun c14 H => ?_
 rotate_left
 · by_cases c25 : x9_3 > a1
   · rw [if_pos c25] at H
     have c25b0 := zdt c25
     clear c25
     obtain rfl := zsi H
     go_wp2
     repeat (go_quiet (fail); try go_wp2)
     exact zr_2
   rw [if_neg c25] at H
   have c25b0 := zdf c25
   clear c25
   have H' := zA H
   clear H
   go_wp2
   repeat (go_quiet (fail); try go_wp2)
   go_roundg k3
   case measure => have := HJ3.out; have := HK2.out; have := HK3.out; omega
   case rel => exact ⟨(wrap64 (x25_2 + 1)), zq7, H', ⟨zq40 HJ3 HK2 HK3⟩, ⟨zq17 HO_23⟩, ⟨zq1⟩⟩
 revert H
 refine zin fun c15 H => ?_
 revert H
 refine zin fun c16 H => ?_
 revert H
 refine zin fun c17 H => ?_
 revert H
 refine zin fun c18 H => ?_
 revert H
 refine zin fun c19 H => ?_
 by_cases c20 : (rd l2 x32_3) = (rd l2 x25_2)
 rotate_left
 · rw [if_neg c20] at H
   obtain ⟨c20b0, c20b1⟩ := zbq c20
   by_cases c23 : (rd (za5 t102 x25_2) x32_3) ≥ 0
   rotate_left
   · rw [if_neg c23] at H
     have c23b0 := zdf c23
     clear c23
     have H' := zA H
     clear H
     have p106 : 0 ≤ (x32_3 : Int) := zde zq20
     have q106 : x32_3 < ((za5 t102 x25_2).length : Int) := zde zq20
     obtain ⟨ad106, e106, hx106_0⟩ := Kd.at_int HR105_0.out x32_3 p106 q106
     cases e106
     replace p106 := eq_true p106
     replace q106 := eq_true q106
     obtain ⟨p107, q107⟩ := zpq x32_3 l2.length
     obtain ⟨ad107, e107, hx107_0⟩ := Kd.at_int HR2.out x32_3 (zoe p107) (zoe q107)
     cases e107
     replace hx107_0 := zkep HB.out hx107_0
     obtain ⟨p108, q108⟩ := zpq x25_2 l2.length
     obtain ⟨ad108, e108, hx108_0⟩ := Kd.at_int HR2.out x25_2 (zoe p108) (zoe q108)
     obtain rfl : ad107 = ad108 := (by injection e108)
     replace hx108_0 := zkep HB.out hx108_0
     go_wp2
     repeat (go_quiet (fail); try go_wp2)
     go_roundg k3
     case measure => have := HJ3.out; have := HK2.out; have := HK3.out; omega
     case rel => exact ⟨(x9_3), (wrap64 (x32_3 + 1)), zq7, zq7, H', ⟨zq40 HJ3 HK2 HK3⟩, ⟨zq17 HO_23⟩, ⟨zq18 HR105_0⟩, ⟨zq1⟩⟩
   rw [if_pos c23] at H
   have c23b0 := zdt c23
   clear c23
   revert H
   refine zit (fun c24b0 H => ?_) fun c24b0 H => ?_
   · obtain rfl := zsi H
     have p106 : 0 ≤ (x32_3 : Int) := zde zq20
     have q106 : x32_3 < ((za5 t102 x25_2).length : Int) := zde zq20
     obtain ⟨ad106, e106, hx106_0⟩ := Kd.at_int HR105_0.out x32_3 p106 q106
     cases e106
     replace p106 := eq_true p106
     replace q106 := eq_true q106
     obtain ⟨p107, q107⟩ := zpq x32_3 l2.length
     obtain ⟨ad107, e107, hx107_0⟩ := Kd.at_int HR2.out x32_3 (zoe p107) (zoe q107)
     cases e107
     replace hx107_0 := zkep HB.out hx107_0
     obtain ⟨p108, q108⟩ := zpq x25_2 l2.length
     obtain ⟨ad108, e108, hx108_0⟩ := Kd.at_int HR2.out x25_2 (zoe p108) (zoe q108)
     obtain rfl : ad107 = ad108 := (by injection e108)
     replace hx108_0 := zkep HB.out hx108_0
     obtain ⟨p111, q111⟩ := zpq x32_3 l2.length
     obtain ⟨ad111, e111, hx111_0⟩ := Kd.at_int HR2.out x32_3 (zoe p111) (zoe q111)
     obtain rfl : ad107 = ad111 := (by injection e111)
     replace hx111_0 := zkep HB.out hx111_0
     obtain ⟨p112, q112⟩ := zpq x25_2 l2.length
     obtain ⟨ad112, e112, hx112_0⟩ := Kd.at_int HR2.out x25_2 (zoe p112) (zoe q112)
     obtain rfl : ad107 = ad112 := (by injection e112)
     replace hx112_0 := zkep HB.out hx112_0
     go_wp2
     repeat (go_quiet (fail); try go_wp2)
     exact zr_2
   have H' := zA H
   clear H
   have p106 : 0 ≤ (x32_3 : Int) := zde zq20
   have q106 : x32_3 < ((za5 t102 x25_2).length : Int) := zde zq20
   obtain ⟨ad106, e106, hx106_0⟩ := Kd.at_int HR105_0.out x32_3 p106 q106
   cases e106
   replace p106 := eq_true p106
   replace q106 := eq_true q106
   obtain ⟨p107, q107⟩ := zpq x32_3 l2.length
   obtain ⟨ad107, e107, hx107_0⟩ := Kd.at_int HR2.out x32_3 (zoe p107) (zoe q107)
   cases e107
   replace hx107_0 := zkep HB.out hx107_0
   obtain ⟨p108, q108⟩ := zpq x25_2 l2.length
   obtain ⟨ad108, e108, hx108_0⟩ := Kd.at_int HR2.out x25_2 (zoe p108) (zoe q108)
   obtain rfl : ad107 = ad108 := (by injection e108)
   replace hx108_0 := zkep HB.out hx108_0
   obtain ⟨p111, q111⟩ := zpq x32_3 l2.length
   obtain ⟨ad111, e111, hx111_0⟩ := Kd.at_int HR2.out x32_3 (zoe p111) (zoe q111)
   obtain rfl : ad107 = ad111 := (by injection e111)
   replace hx111_0 := zkep HB.out hx111_0
   obtain ⟨p112, q112⟩ := zpq x25_2 l2.length
   obtain ⟨ad112, e112, hx112_0⟩ := Kd.at_int HR2.out x25_2 (zoe p112) (zoe q112)
   obtain rfl : ad107 = ad112 := (by injection e112)
   replace hx112_0 := zkep HB.out hx112_0
   go_wp2
   repeat (go_quiet (fail); try go_wp2)
   go_roundg k3
   case measure => have := HJ3.out; have := HK2.out; have := HK3.out; omega
   case rel => exact ⟨(x9_3), (wrap64 (x32_3 + 1)), zq7, zq7, H', ⟨zq40 HJ3 HK2 HK3⟩, ⟨zq17 HO_23⟩, ⟨zq18 HR105_0⟩, ⟨zq1⟩⟩
 rw [if_pos c20] at H
 obtain ⟨c20b0, c20b1⟩ := zbe c20
 clear c20
 by_cases c21 : (rd (za5 t102 x25_2) x32_3) ≥ 0
 rotate_left
 · rw [if_neg c21] at H
   have c21b0 := zdf c21
   clear c21
   have H' := zA H
   clear H
   have p106 : 0 ≤ (x32_3 : Int) := zde zq20
   have q106 : x32_3 < ((za5 t102 x25_2).length : Int) := zde zq20
   obtain ⟨ad106, e106, hx106_0⟩ := Kd.at_int HR105_0.out x32_3 p106 q106
   cases e106
   replace p106 := eq_true p106
   replace q106 := eq_true q106
   obtain ⟨p107, q107⟩ := zpq x32_3 l2.length
   obtain ⟨ad107, e107, hx107_0⟩ := Kd.at_int HR2.out x32_3 (zoe p107) (zoe q107)
   cases e107
   replace hx107_0 := zkep HB.out hx107_0
   obtain ⟨p108, q108⟩ := zpq x25_2 l2.length
   obtain ⟨ad108, e108, hx108_0⟩ := Kd.at_int HR2.out x25_2 (zoe p108) (zoe q108)
   obtain rfl : ad107 = ad108 := (by injection e108)
   replace hx108_0 := zkep HB.out hx108_0
   go_wp2
   repeat (go_quiet (fail); try go_wp2)
   go_roundg k3
   case measure => have := HJ3.out; have := HK2.out; have := HK3.out; omega
   case rel => exact ⟨(wrap64 (x9_3 + 1)), (wrap64 (x32_3 + 1)), zq7, zq7, H', ⟨zq40 HJ3 HK2 HK3⟩, ⟨zq17 HO_23⟩, ⟨zq18 HR105_0⟩, ⟨zq1⟩⟩
 rw [if_pos c21] at H
 have c21b0 := zdt c21
 clear c21
 revert H
 refine zit (fun c22b0 H => ?_) fun c22b0 H => ?_
 · obtain rfl := zsi H
   have p106 : 0 ≤ (x32_3 : Int) := zde zq20
   have q106 : x32_3 < ((za5 t102 x25_2).length : Int) := zde zq20
   obtain ⟨ad106, e106, hx106_0⟩ := Kd.at_int HR105_0.out x32_3 p106 q106
   cases e106
   replace p106 := eq_true p106
   replace q106 := eq_true q106
   obtain ⟨p107, q107⟩ := zpq x32_3 l2.length
   obtain ⟨ad107, e107, hx107_0⟩ := Kd.at_int HR2.out x32_3 (zoe p107) (zoe q107)
   cases e107
   replace hx107_0 := zkep HB.out hx107_0
   obtain ⟨p108, q108⟩ := zpq x25_2 l2.length
   obtain ⟨ad108, e108, hx108_0⟩ := Kd.at_int HR2.out x25_2 (zoe p108) (zoe q108)
   obtain rfl : ad107 = ad108 := (by injection e108)
   replace hx108_0 := zkep HB.out hx108_0
   obtain ⟨p109, q109⟩ := zpq x32_3 l2.length
   obtain ⟨ad109, e109, hx109_0⟩ := Kd.at_int HR2.out x32_3 (zoe p109) (zoe q109)
   obtain rfl : ad107 = ad109 := (by injection e109)
   replace hx109_0 := zkep HB.out hx109_0
   obtain ⟨p110, q110⟩ := zpq x25_2 l2.length
   obtain ⟨ad110, e110, hx110_0⟩ := Kd.at_int HR2.out x25_2 (zoe p110) (zoe q110)
   obtain rfl : ad107 = ad110 := (by injection e110)
   replace hx110_0 := zkep HB.out hx110_0
   go_wp2
   repeat (go_quiet (fail); try go_wp2)
   exact zr_2
 have H' := zA H
 clear H
 have p106 : 0 ≤ (x32_3 : Int) := zde zq20
 have q106 : x32_3 < ((za5 t102 x25_2).length : Int) := zde zq20
 obtain ⟨ad106, e106, hx106_0⟩ := Kd.at_int HR105_0.out x32_3 p106 q106
 cases e106
 replace p106 := eq_true p106
 replace q106 := eq_true q106
 obtain ⟨p107, q107⟩ := zpq x32_3 l2.length
 obtain ⟨ad107, e107, hx107_0⟩ := Kd.at_int HR2.out x32_3 (zoe p107) (zoe q107)
 cases e107
 replace hx107_0 := zkep HB.out hx107_0
 obtain ⟨p108, q108⟩ := zpq x25_2 l2.length
 obtain ⟨ad108, e108, hx108_0⟩ := Kd.at_int HR2.out x25_2 (zoe p108) (zoe q108)
 obtain rfl : ad107 = ad108 := (by injection e108)
 replace hx108_0 := zkep HB.out hx108_0
 obtain ⟨p109, q109⟩ := zpq x32_3 l2.length
 obtain ⟨ad109, e109, hx109_0⟩ := Kd.at_int HR2.out x32_3 (zoe p109) (zoe q109)
 obtain rfl : ad107 = ad109 := (by injection e109)
 replace hx109_0 := zkep HB.out hx109_0
 obtain ⟨p110, q110⟩ := zpq x25_2 l2.length
 obtain ⟨ad110, e110, hx110_0⟩ := Kd.at_int HR2.out x25_2 (zoe p110) (zoe q110)
 obtain rfl : ad107 = ad110 := (by injection e110)
 replace hx110_0 := zkep HB.out hx110_0
 go_wp2
 repeat (go_quiet (fail); try go_wp2)
 go_roundg k3
 case measure => have := HJ3.out; have := HK2.out; have := HK3.out; omega
 case rel => exact ⟨(wrap64 (x9_3 + 1)), (wrap64 (x32_3 + 1)), zq7, zq7, H', ⟨zq40 HJ3 HK2 HK3⟩, ⟨zq17 HO_23⟩, ⟨zq18 HR105_0⟩, ⟨zq1⟩⟩
def zf0 (k : Nat) (l0 : List (S55)) (a1 : Int) (l2 : List Int) : Option (Bool × Bool) := (zgb k l0).bind fun t101 => (if t101 = true then ((zgf a1).bind fun t102 => (if t102 = true then (if (l2.length : Int) = (l0.length : Int) then ((zg1 k l0 a1 l2).bind fun t103 => (some (t103, true))) else (some (false, false))) else (some (false, false)))) else (some (false, false)))
theorem zxi : ∀ a0 a1 a2 k, LeO (zf0 k a0 a1 a2) (zf0 (k + 1) a0 a1 a2) := by
 intro a0 a1 a2 k
 unfold zf0
 exact zm2 zkx zqg
theorem zps (k : Nat) (A0 : Option Addr) (c0 : Nat) (l0 : List (S55)) (a1 : Int) (A2 : Option Addr) (c2 : Nat) (l2 : List Int) (r1 : Bool) (r2 : Bool) (w : World) (hr0 : Kd.C k55 w A0 l0.length l0) (hc0 : l0.length ≤ c0) (hr2 : Kd.C (Kd.int .i64) w A2 l2.length l2) (hc2 : l2.length ≤ c2) (h : zf0 k l0 a1 l2 = some (r1, r2)) :
   Calls Tryz.prog 28 #[.slice A0 l0.length c0, .int .i64 a1, .slice A2 l2.length c2] w fun e w' => e = .returned (.tuple #[.bool r1, .bool r2]) ∧ Below w.heap.size w w' := by
 have HR0 := zA hr0
 have HC0 := zA hc0
 clear hr0 hc0
 have HR2 := zA hr2
 have HC2 := zA hc2
 clear hr2 hc2
 have HB := zA (Below.refl w.heap.size w)
 have H := h
 unfold zf0 at H
 clear h
 replace H := zob H
 obtain ⟨t101, A40, H⟩ := H
 have A4 := zA A40
 clear A40
 by_cases c5 : t101 = true
 rotate_left
 · replace c5 := zbf c5
   subst c5
   replace H := zif H
   simp only [Option.some.injEq, Prod.mk.injEq] at H
   obtain ⟨rfl, rfl⟩ := H
   go_enter Tryz.func28, Tryz.ntmps28
   go_wp2_with (first | ((with_reducible refine zgc 53 ?_); refine zca 9 Tryz.func53 #[.slice A0 l0.length c0] (zdb k _ _ l0 false _ (zq15 HR0) HC0.out A4.out) ?_; rintro e w14 ⟨rfl, hb⟩; refine ⟨_, rfl, ?_⟩; replace HB := zA (zab zq1 hb); (try clear hb)))
   go_ret2
   exact ⟨zq5, zq1⟩
 subst c5
 replace H := zih H
 replace H := zob H
 obtain ⟨t102, A60, H⟩ := H
 have A6 := zA A60
 clear A60
 by_cases c7 : t102 = true
 rotate_left
 · replace c7 := zbf c7
   subst c7
   replace H := zif H
   simp only [Option.some.injEq, Prod.mk.injEq] at H
   obtain ⟨rfl, rfl⟩ := H
   go_enter Tryz.func28, Tryz.ntmps28
   go_wp2_with (first | ((with_reducible refine zgc 53 ?_); refine zca 9 Tryz.func53 #[.slice A0 l0.length c0] (zdb k _ _ l0 true _ (zq15 HR0) HC0.out A4.out) ?_; rintro e w13 ⟨rfl, hb⟩; refine ⟨_, rfl, ?_⟩; replace HB := zA (zab zq1 hb); (try clear hb)) | (go_at_call 69; (with_reducible refine (zg0 a1 false _ A6.out).mono ?_); rintro e w' ⟨rfl, ⟨nd, rfl⟩⟩))
   go_ret2
   exact ⟨zq5, zq1⟩
 subst c7
 replace H := zih H
 by_cases c8 : (l2.length : Int) = (l0.length : Int)
 rotate_left
 · rw [if_neg c8] at H
   obtain ⟨c8b0, c8b1⟩ := zbq c8
   have c8b2 : (l2.length == l0.length) = false := by first | simpa using c8 | (simp at c8 ⊢; omega)
   simp only [Option.some.injEq, Prod.mk.injEq] at H
   obtain ⟨rfl, rfl⟩ := H
   go_enter Tryz.func28, Tryz.ntmps28
   go_wp2_with (first | ((with_reducible refine zgc 53 ?_); refine zca 9 Tryz.func53 #[.slice A0 l0.length c0] (zdb k _ _ l0 true _ (zq15 HR0) HC0.out A4.out) ?_; rintro e w12 ⟨rfl, hb⟩; refine ⟨_, rfl, ?_⟩; replace HB := zA (zab zq1 hb); (try clear hb)) | (go_at_call 69; (with_reducible refine (zg0 a1 true _ A6.out).mono ?_); rintro e w' ⟨rfl, ⟨nd, rfl⟩⟩))
   go_ret2
   exact ⟨zq5, zq1⟩
 rw [if_pos c8] at H
 obtain ⟨c8b0, c8b1⟩ := zbe c8
 have c8b2 : (l2.length == l0.length) = true := by first | simpa using c8 | (simp at c8 ⊢; omega)
 clear c8
 replace H := zob H
 obtain ⟨t103, A90, H⟩ := H
 have A9 := zA A90
 clear A90
 simp only [Option.some.injEq, Prod.mk.injEq] at H
 obtain ⟨rfl, rfl⟩ := H
 go_enter Tryz.func28, Tryz.ntmps28
 go_wp2_with (first | ((with_reducible refine zgc 53 ?_); refine zca 9 Tryz.func53 #[.slice A0 l0.length c0] (zdb k _ _ l0 true _ (zq15 HR0) HC0.out A4.out) ?_; rintro e w10 ⟨rfl, hb⟩; refine ⟨_, rfl, ?_⟩; replace HB := zA (zab zq1 hb); (try clear hb)) | (go_at_call 69; (with_reducible refine (zg0 a1 true _ A6.out).mono ?_); rintro e w' ⟨rfl, ⟨nd, rfl⟩⟩) | ((with_reducible refine zgc 70 ?_); refine zca 26 Tryz.func70 #[.slice A0 l0.length c0, .int .i64 a1, .slice A2 l2.length c2] (zpr k _ _ l0 a1 _ _ l2 t103 _ (zq58 HR0) HC0.out (zq58 HR2) HC2.out A9.out) ?_; rintro e w11 ⟨rfl, hb⟩; refine ⟨_, rfl, ?_⟩; replace HB := zA (zab zq1 hb); (try clear hb)))
 go_ret2
 exact ⟨zq5, zq1⟩
def zgg (k : Nat) (l0 : List (S55)) (l1 : List Int) : Option (Bool) := (zgb k l0).bind fun t101 => (if t101 = true then (if (l1.length : Int) = (l0.length : Int) then ((ziu k l1 0 100).bind fun t102 => (some t102)) else (some false)) else (some false))
theorem zjr : ∀ a0 a1 k, LeO (zgg k a0 a1) (zgg (k + 1) a0 a1) := by
 intro a0 a1 k
 unfold zgg
 exact zm2 zj4 zkx
theorem zjc (k : Nat) (A0 : Option Addr) (c0 : Nat) (l0 : List (S55)) (A1 : Option Addr) (c1 : Nat) (l1 : List Int) (r : Bool) (w : World) (hr0 : Kd.C k55 w A0 l0.length l0) (hc0 : l0.length ≤ c0) (hr1 : Kd.C (Kd.int .i64) w A1 l1.length l1) (hc1 : l1.length ≤ c1) (h : zgg k l0 l1 = some r) :
   Calls Tryz.prog 89 #[.slice A0 l0.length c0, .slice A1 l1.length c1] w fun e w' => e = .returned (.bool r) ∧ Below w.heap.size w w' := by
 have HR0 := zA hr0
 have HC0 := zA hc0
 clear hr0 hc0
 have HR1 := zA hr1
 have HC1 := zA hc1
 clear hr1 hc1
 have HB := zA (Below.refl w.heap.size w)
 have H := h
 unfold zgg at H
 clear h
 replace H := zob H
 obtain ⟨t101, A30, H⟩ := H
 have A3 := zA A30
 clear A30
 by_cases c4 : t101 = true
 rotate_left
 · replace c4 := zbf c4
   subst c4
   replace H := zif H
   obtain rfl := zsi H
   go_enter Tryz.func89, Tryz.ntmps89
   go_wp2_with (first | ((with_reducible refine zgc 53 ?_); refine zca 6 Tryz.func53 #[.slice A0 l0.length c0] (zdb k _ _ l0 false _ (zq15 HR0) HC0.out A3.out) ?_; rintro e w9 ⟨rfl, hb⟩; refine ⟨_, rfl, ?_⟩; replace HB := zA (zab zq1 hb); (try clear hb)))
   exact zr_2
 subst c4
 replace H := zih H
 by_cases c5 : (l1.length : Int) = (l0.length : Int)
 rotate_left
 · rw [if_neg c5] at H
   obtain ⟨c5b0, c5b1⟩ := zbq c5
   have c5b2 : (l1.length == l0.length) = false := by first | simpa using c5 | (simp at c5 ⊢; omega)
   obtain rfl := zsi H
   go_enter Tryz.func89, Tryz.ntmps89
   go_wp2_with (first | ((with_reducible refine zgc 53 ?_); refine zca 6 Tryz.func53 #[.slice A0 l0.length c0] (zdb k _ _ l0 true _ (zq15 HR0) HC0.out A3.out) ?_; rintro e w8 ⟨rfl, hb⟩; refine ⟨_, rfl, ?_⟩; replace HB := zA (zab zq1 hb); (try clear hb)))
   exact zr_2
 rw [if_pos c5] at H
 obtain ⟨c5b0, c5b1⟩ := zbe c5
 have c5b2 : (l1.length == l0.length) = true := by first | simpa using c5 | (simp at c5 ⊢; omega)
 clear c5
 replace H := zob H
 obtain ⟨t102, A60, H⟩ := H
 have A6 := zA A60
 clear A60
 obtain rfl := zsi H
 go_enter Tryz.func89, Tryz.ntmps89
 go_wp2_with (first | ((with_reducible refine zgc 53 ?_); refine zca 6 Tryz.func53 #[.slice A0 l0.length c0] (zdb k _ _ l0 true _ (zq15 HR0) HC0.out A3.out) ?_; rintro e w7 ⟨rfl, hb⟩; refine ⟨_, rfl, ?_⟩; replace HB := zA (zab zq1 hb); (try clear hb)) | (go_at_call 106; (with_reducible refine (zk1 k _ _ l1 0 100 t102 _ ?side1 ?side2 A6.out).mono ?_); (case side1 => repeat (first | exact (zCb HR1.out HB.out) | (with_reducible first | refine zCa ?_ _ | refine zCn ?_ _ | refine zCd ?_))); (case side2 => exact HC1.out); rintro e w' ⟨rfl, ⟨nd, rfl⟩⟩))
 exact zr_2
def zd2 : Nat → List Int → Int → List (S55) → Int → Int → Option (Int)
 | 0, _, _, _, _, _ => none
 | k + 1, x1, x5, x8, x9, x10 => if x10 < x9 then (if 0 ≤ x10 then (if x10 < (x8.length : Int) then (if x10 < (x1.length : Int) then ((zhu ((zaa x8 x10).f0)).bind fun t104 => ((zfg x5 (wrap64 ((rd x1 x10) + t104))).bind fun t105 => (zd2 k x1 t105 x8 x9 (wrap64 (x10 + 1))))) else (none)) else (none)) else (none)) else (some x5)
def zhf (k : Nat) (l0 : List (S55)) (l1 : List Int) : Option (Int) := zd2 k l1 0 l0 (l0.length : Int) 0
theorem zmw : ∀ k, (∀ y0 y1 y2 y3 y4, LeO (zd2 k y0 y1 y2 y3 y4) (zd2 (k + 1) y0 y1 y2 y3 y4))
 | 0 => fun _ _ _ _ _ r h => by simp [zd2] at h
 | k + 1 => by
   have ih0 := zmw k
   · intro y0 y1 y2 y3 y4
     unfold zd2
     exact zm1 ih0
theorem zrt : ∀ a0 a1 k, LeO (zhf k a0 a1) (zhf (k + 1) a0 a1) := by
 intro a0 a1 k
 have ih0 := zmw k
 unfold zhf
 exact zm1 ih0
theorem zqr (k : Nat) (A0 : Option Addr) (c0 : Nat) (l0 : List (S55)) (A1 : Option Addr) (c1 : Nat) (l1 : List Int) (r : Int) (w : World) (hr0 : Kd.C k55 w A0 l0.length l0) (hc0 : l0.length ≤ c0) (hr1 : Kd.C (Kd.int .i64) w A1 l1.length l1) (hc1 : l1.length ≤ c1) (h : zhf k l0 l1 = some r) :
   Calls Tryz.prog 91 #[.slice A0 l0.length c0, .slice A1 l1.length c1] w fun e w' => e = .returned (.int .i64 r) ∧ Below w.heap.size w w' := by
 have hu55 := Tryz.underlying55
 have HR0 := zA hr0
 have HC0 := zA hc0
 clear hr0 hc0
 have HR1 := zA hr1
 have HC1 := zA hc1
 clear hr1 hc1
 have HB := zA (Below.refl w.heap.size w)
 have H := h
 unfold zhf at H
 clear h
 have H' := zA H
 clear H
 go_enter Tryz.func91, Tryz.ntmps91
 go_wp2
 repeat (go_quiet (fail); try go_wp2)
 go_loopg [5, 10] k (fun kq v5 v10 w' => ∃ (x5_1 : Int) (x10_1 : Int), v5 = .int .i64 x5_1 ∧ v10 = .int .i64 x10_1 ∧ Aside0 (zd2 kq l1 x5_1 l0 (l0.length : Int) x10_1 = some r) ∧ Aside0 (kq ≤ k) ∧ Aside0 (Below w.heap.size w w'))
 case atStart => exact ⟨(0), (0), zq7, zq7, H', ⟨zlr _⟩, ⟨zq1⟩⟩
 clear H'
 obtain ⟨x5_1, x10_1, rfl, rfl, HA, HK1, HB⟩ := hrel
 cases gk with
 | zero => exact absurd HA.out (by simp [zd2])
 | succ k1 =>
 have H := HA.out
 clear HA
 simp only [zd2] at H
 revert H
 refine zit (fun c3 H => ?_) fun c3 H => ?_
 rotate_left
 · obtain rfl := zsi H
   go_wp2
   repeat (go_quiet (fail); try go_wp2)
   exact zr_2
 revert H
 refine zin fun c4 H => ?_
 revert H
 refine zin fun c5 H => ?_
 revert H
 refine zin fun c6 H => ?_
 replace H := zob H
 obtain ⟨t104, A70, H⟩ := H
 have A7 := zA A70
 clear A70
 replace H := zob H
 obtain ⟨t105, A80, H⟩ := H
 have A8 := zA A80
 clear A80
 have H' := zA H
 clear H
 obtain ⟨p101, q101⟩ := zpq x10_1 l0.length
 obtain ⟨ad101, e101, hx101_0, hx101_1, hx101_2, hx101_3, hx101_4⟩ := zld HR0.out x10_1 (zoe p101) (zoe q101)
 cases e101
 replace hx101_0 := zkep HB.out hx101_0
 replace hx101_1 := zkep HB.out hx101_1
 replace hx101_2 := zkep HB.out hx101_2
 replace hx101_3 := zkep HB.out hx101_3
 replace hx101_4 := zkep HB.out hx101_4
 go_wp2_with (first | ((with_reducible refine zgd 7 ?_); refine zbh zq1 #[.string (⟨#[]⟩ : ByteArray), .int .i64 0, .int .i64 0, .int .i64 0, .int .i64 0] 55 ?_; clear HB; intro gb102 w9 HB BK102 GW102; have GE102 := GW102; obtain ⟨hcz10_0, hcz10_1, hcz10_2, hcz10_3, hcz10_4, hfz10_0, hfz10_1, hfz10_2, hfz10_3, hfz10_4⟩ := zd5 BK102; have p103 : 0 ≤ (x10_1 : Int) := zde zq20; have q103 : x10_1 < (l1.length : Int) := zde zq20; obtain ⟨ad103, e103, hx103_0⟩ := Kd.at_int HR1.out x10_1 p103 q103; cases e103; have hn103_0 : ad103.block ≠ gb102 := Nat.ne_of_lt (Nat.lt_of_lt_of_le (by have := World.block_lt_of_cell? _ _ hx103_0; first | rwa [zbl] at this | exact this) GW102.out); have hn103_1 : ad103.block ≠ gb102 := Nat.ne_of_lt (Nat.lt_of_lt_of_le (by have := World.block_lt_of_cell? _ _ hx103_0; first | rwa [zbl] at this | exact this) GW102.out); have hn103_2 : ad103.block ≠ gb102 := Nat.ne_of_lt (Nat.lt_of_lt_of_le (by have := World.block_lt_of_cell? _ _ hx103_0; first | rwa [zbl] at this | exact this) GW102.out); have hn103_3 : ad103.block ≠ gb102 := Nat.ne_of_lt (Nat.lt_of_lt_of_le (by have := World.block_lt_of_cell? _ _ hx103_0; first | rwa [zbl] at this | exact this) GW102.out); have hn103_4 : ad103.block ≠ gb102 := Nat.ne_of_lt (Nat.lt_of_lt_of_le (by have := World.block_lt_of_cell? _ _ hx103_0; first | rwa [zbl] at this | exact this) GW102.out); replace hx103_0 := zkep HB.out hx103_0; replace hx103_0 := (zah (p := ⟨gb102, 0, none⟩) zq64 (.string ((zaa l0 x10_1).f0))).trans hx103_0; replace hx103_0 := (zah (p := ⟨gb102, 1, none⟩) zq65 (.int .i64 ((zaa l0 x10_1).f1))).trans hx103_0; replace hx103_0 := (zah (p := ⟨gb102, 2, none⟩) zq66 (.int .i64 ((zaa l0 x10_1).f2))).trans hx103_0; replace hx103_0 := (zah (p := ⟨gb102, 3, none⟩) zq67 (.int .i64 ((zaa l0 x10_1).f3))).trans hx103_0; replace hx103_0 := (zah (p := ⟨gb102, 4, none⟩) zq68 (.int .i64 ((zaa l0 x10_1).f4))).trans hx103_0; (try have hy103_0 := fun (n_ : Nat) => (show (((((((w9.drewN n_).setCell ⟨gb102, 0, none⟩ (.string ((zaa l0 x10_1).f0))).setCell ⟨gb102, 1, none⟩ (.int .i64 ((zaa l0 x10_1).f1))).setCell ⟨gb102, 2, none⟩ (.int .i64 ((zaa l0 x10_1).f2))).setCell ⟨gb102, 3, none⟩ (.int .i64 ((zaa l0 x10_1).f3))).setCell ⟨gb102, 4, none⟩ (.int .i64 ((zaa l0 x10_1).f4)))).cell? _ = some _ from hx103_0)); clear hn103_0; clear hn103_1; clear hn103_2; clear hn103_3; clear hn103_4; replace p103 := eq_true p103; replace q103 := eq_true q103) | (go_at_call 100; (with_reducible refine (zh7 ((zaa l0 x10_1).f0) t104 _ A7.out).mono ?_); rintro e w' ⟨rfl, ⟨nd, rfl⟩⟩; (try first | exact ⟨rfl, _, World.drewN_drewN _ _ _⟩ | exact ⟨rfl, _, Eq.trans (World.drewN_drewN _ _ _) (congrArg (World.drewN _) (Nat.add_assoc _ _ _))⟩)) | (go_at_call 103; (with_reducible refine (zgy x5_1 (wrap64 ((rd l1 x10_1) + t104)) t105 _ A8.out).mono ?_); rintro e w' ⟨rfl, ⟨nd, rfl⟩⟩; (try first | exact ⟨rfl, _, World.drewN_drewN _ _ _⟩ | exact ⟨rfl, _, Eq.trans (World.drewN_drewN _ _ _) (congrArg (World.drewN _) (Nat.add_assoc _ _ _))⟩)))
 repeat (go_quiet (first | ((with_reducible refine ztm (N := 7) rfl ?_); refine zxf ?hg (N := 7) ?hd (cs := #[.string (⟨#[]⟩ : ByteArray), .int .i64 0, .int .i64 0, .int .i64 0, .int .i64 0]) (t := 55) ?hr ?_; (case hd => rfl); (case hg => rfl); (case hr => go_simp <;> rfl); intro gb102 hg w9 hbox hb; have zs := zpair zq1 hb; have n0_ := zA (zs.1); have n1_ := zA (hbox); have n2_ := zA (zge hg zs.2); have n3_ := n2_; clear HB; have HB := n0_; have BK102 := n1_; have GW102 := n2_; have GE102 := n3_; clear n0_ n1_ n2_ n3_; clear zs hb hbox hg; obtain ⟨hcz10_0, hcz10_1, hcz10_2, hcz10_3, hcz10_4⟩ := zc5 w9 (.string (⟨#[]⟩ : ByteArray)) (.int .i64 0) (.int .i64 0) (.int .i64 0) (.int .i64 0) BK102.out; obtain ⟨hfz10_0, hfz10_1, hfz10_2, hfz10_3, hfz10_4⟩ := zf5 BK102.out; have p103 : 0 ≤ (x10_1 : Int) := zde zq20; have q103 : x10_1 < (l1.length : Int) := zde zq20; obtain ⟨ad103, e103, hx103_0⟩ := Kd.at_int HR1.out x10_1 p103 q103; cases e103; have hn103_0 : ad103.block ≠ gb102 := Nat.ne_of_lt (Nat.lt_of_lt_of_le (by have := World.block_lt_of_cell? _ _ hx103_0; first | rwa [zbl] at this | exact this) GW102.out); have hn103_1 : ad103.block ≠ gb102 := Nat.ne_of_lt (Nat.lt_of_lt_of_le (by have := World.block_lt_of_cell? _ _ hx103_0; first | rwa [zbl] at this | exact this) GW102.out); have hn103_2 : ad103.block ≠ gb102 := Nat.ne_of_lt (Nat.lt_of_lt_of_le (by have := World.block_lt_of_cell? _ _ hx103_0; first | rwa [zbl] at this | exact this) GW102.out); have hn103_3 : ad103.block ≠ gb102 := Nat.ne_of_lt (Nat.lt_of_lt_of_le (by have := World.block_lt_of_cell? _ _ hx103_0; first | rwa [zbl] at this | exact this) GW102.out); have hn103_4 : ad103.block ≠ gb102 := Nat.ne_of_lt (Nat.lt_of_lt_of_le (by have := World.block_lt_of_cell? _ _ hx103_0; first | rwa [zbl] at this | exact this) GW102.out); replace hx103_0 := zkep HB.out hx103_0; replace hx103_0 := (zah (p := ⟨gb102, 0, none⟩) zq64 (.string ((zaa l0 x10_1).f0))).trans hx103_0; replace hx103_0 := (zah (p := ⟨gb102, 1, none⟩) zq65 (.int .i64 ((zaa l0 x10_1).f1))).trans hx103_0; replace hx103_0 := (zah (p := ⟨gb102, 2, none⟩) zq66 (.int .i64 ((zaa l0 x10_1).f2))).trans hx103_0; replace hx103_0 := (zah (p := ⟨gb102, 3, none⟩) zq67 (.int .i64 ((zaa l0 x10_1).f3))).trans hx103_0; replace hx103_0 := (zah (p := ⟨gb102, 4, none⟩) zq68 (.int .i64 ((zaa l0 x10_1).f4))).trans hx103_0; (try have hy103_0 := fun (n_ : Nat) => (show (((((((w9.drewN n_).setCell ⟨gb102, 0, none⟩ (.string ((zaa l0 x10_1).f0))).setCell ⟨gb102, 1, none⟩ (.int .i64 ((zaa l0 x10_1).f1))).setCell ⟨gb102, 2, none⟩ (.int .i64 ((zaa l0 x10_1).f2))).setCell ⟨gb102, 3, none⟩ (.int .i64 ((zaa l0 x10_1).f3))).setCell ⟨gb102, 4, none⟩ (.int .i64 ((zaa l0 x10_1).f4)))).cell? _ = some _ from hx103_0)); clear hn103_0; clear hn103_1; clear hn103_2; clear hn103_3; clear hn103_4; replace p103 := eq_true p103; replace q103 := eq_true q103) | (go_at_call 100; (with_reducible refine (zh7 ((zaa l0 x10_1).f0) t104 _ A7.out).mono ?_); rintro e w' ⟨rfl, ⟨nd, rfl⟩⟩; (try first | exact ⟨rfl, _, World.drewN_drewN _ _ _⟩ | exact ⟨rfl, _, Eq.trans (World.drewN_drewN _ _ _) (congrArg (World.drewN _) (Nat.add_assoc _ _ _))⟩)) | (go_at_call 103; (with_reducible refine (zgy x5_1 (wrap64 ((rd l1 x10_1) + t104)) t105 _ A8.out).mono ?_); rintro e w' ⟨rfl, ⟨nd, rfl⟩⟩; (try first | exact ⟨rfl, _, World.drewN_drewN _ _ _⟩ | exact ⟨rfl, _, Eq.trans (World.drewN_drewN _ _ _) (congrArg (World.drewN _) (Nat.add_assoc _ _ _))⟩))); try go_wp2_with (first | ((with_reducible refine ztm (N := 7) rfl ?_); refine zxf ?hg (N := 7) ?hd (cs := #[.string (⟨#[]⟩ : ByteArray), .int .i64 0, .int .i64 0, .int .i64 0, .int .i64 0]) (t := 55) ?hr ?_; (case hd => rfl); (case hg => rfl); (case hr => go_simp <;> rfl); intro gb102 hg w9 hbox hb; have zs := zpair zq1 hb; have n0_ := zA (zs.1); have n1_ := zA (hbox); have n2_ := zA (zge hg zs.2); have n3_ := n2_; clear HB; have HB := n0_; have BK102 := n1_; have GW102 := n2_; have GE102 := n3_; clear n0_ n1_ n2_ n3_; clear zs hb hbox hg; obtain ⟨hcz10_0, hcz10_1, hcz10_2, hcz10_3, hcz10_4⟩ := zc5 w9 (.string (⟨#[]⟩ : ByteArray)) (.int .i64 0) (.int .i64 0) (.int .i64 0) (.int .i64 0) BK102.out; obtain ⟨hfz10_0, hfz10_1, hfz10_2, hfz10_3, hfz10_4⟩ := zf5 BK102.out; have p103 : 0 ≤ (x10_1 : Int) := zde zq20; have q103 : x10_1 < (l1.length : Int) := zde zq20; obtain ⟨ad103, e103, hx103_0⟩ := Kd.at_int HR1.out x10_1 p103 q103; cases e103; have hn103_0 : ad103.block ≠ gb102 := Nat.ne_of_lt (Nat.lt_of_lt_of_le (by have := World.block_lt_of_cell? _ _ hx103_0; first | rwa [zbl] at this | exact this) GW102.out); have hn103_1 : ad103.block ≠ gb102 := Nat.ne_of_lt (Nat.lt_of_lt_of_le (by have := World.block_lt_of_cell? _ _ hx103_0; first | rwa [zbl] at this | exact this) GW102.out); have hn103_2 : ad103.block ≠ gb102 := Nat.ne_of_lt (Nat.lt_of_lt_of_le (by have := World.block_lt_of_cell? _ _ hx103_0; first | rwa [zbl] at this | exact this) GW102.out); have hn103_3 : ad103.block ≠ gb102 := Nat.ne_of_lt (Nat.lt_of_lt_of_le (by have := World.block_lt_of_cell? _ _ hx103_0; first | rwa [zbl] at this | exact this) GW102.out); have hn103_4 : ad103.block ≠ gb102 := Nat.ne_of_lt (Nat.lt_of_lt_of_le (by have := World.block_lt_of_cell? _ _ hx103_0; first | rwa [zbl] at this | exact this) GW102.out); replace hx103_0 := zkep HB.out hx103_0; replace hx103_0 := (zah (p := ⟨gb102, 0, none⟩) zq64 (.string ((zaa l0 x10_1).f0))).trans hx103_0; replace hx103_0 := (zah (p := ⟨gb102, 1, none⟩) zq65 (.int .i64 ((zaa l0 x10_1).f1))).trans hx103_0; replace hx103_0 := (zah (p := ⟨gb102, 2, none⟩) zq66 (.int .i64 ((zaa l0 x10_1).f2))).trans hx103_0; replace hx103_0 := (zah (p := ⟨gb102, 3, none⟩) zq67 (.int .i64 ((zaa l0 x10_1).f3))).trans hx103_0; replace hx103_0 := (zah (p := ⟨gb102, 4, none⟩) zq68 (.int .i64 ((zaa l0 x10_1).f4))).trans hx103_0; (try have hy103_0 := fun (n_ : Nat) => (show (((((((w9.drewN n_).setCell ⟨gb102, 0, none⟩ (.string ((zaa l0 x10_1).f0))).setCell ⟨gb102, 1, none⟩ (.int .i64 ((zaa l0 x10_1).f1))).setCell ⟨gb102, 2, none⟩ (.int .i64 ((zaa l0 x10_1).f2))).setCell ⟨gb102, 3, none⟩ (.int .i64 ((zaa l0 x10_1).f3))).setCell ⟨gb102, 4, none⟩ (.int .i64 ((zaa l0 x10_1).f4)))).cell? _ = some _ from hx103_0)); clear hn103_0; clear hn103_1; clear hn103_2; clear hn103_3; clear hn103_4; replace p103 := eq_true p103; replace q103 := eq_true q103) | (go_at_call 100; (with_reducible refine (zh7 ((zaa l0 x10_1).f0) t104 _ A7.out).mono ?_); rintro e w' ⟨rfl, ⟨nd, rfl⟩⟩; (try first | exact ⟨rfl, _, World.drewN_drewN _ _ _⟩ | exact ⟨rfl, _, Eq.trans (World.drewN_drewN _ _ _) (congrArg (World.drewN _) (Nat.add_assoc _ _ _))⟩)) | (go_at_call 103; (with_reducible refine (zgy x5_1 (wrap64 ((rd l1 x10_1) + t104)) t105 _ A8.out).mono ?_); rintro e w' ⟨rfl, ⟨nd, rfl⟩⟩; (try first | exact ⟨rfl, _, World.drewN_drewN _ _ _⟩ | exact ⟨rfl, _, Eq.trans (World.drewN_drewN _ _ _) (congrArg (World.drewN _) (Nat.add_assoc _ _ _))⟩))))
 go_roundg k1
 case measure => have := HK1.out; omega
 case rel => exact ⟨(t105), (wrap64 (x10_1 + 1)), zq7, zq7, H', ⟨zq51 HK1⟩, ⟨zq10 GE102⟩⟩
def zhg (k : Nat) (l0 : List (S55)) (l1 : List Int) : Option (Int × Bool) := (zgg k l0 l1).bind fun t101 => (if t101 = true then ((zhf k l0 l1).bind fun t102 => (some (t102, true))) else (some (0, false)))
theorem zyj : ∀ a0 a1 k, LeO (zhg k a0 a1) (zhg (k + 1) a0 a1) := by
 intro a0 a1 k
 unfold zhg
 exact zm2 zjr zrt
theorem zqs (k : Nat) (A0 : Option Addr) (c0 : Nat) (l0 : List (S55)) (A1 : Option Addr) (c1 : Nat) (l1 : List Int) (r1 : Int) (r2 : Bool) (w : World) (hr0 : Kd.C k55 w A0 l0.length l0) (hc0 : l0.length ≤ c0) (hr1 : Kd.C (Kd.int .i64) w A1 l1.length l1) (hc1 : l1.length ≤ c1) (h : zhg k l0 l1 = some (r1, r2)) :
   Calls Tryz.prog 41 #[.slice A0 l0.length c0, .slice A1 l1.length c1] w fun e w' => e = .returned (.tuple #[.int .i64 r1, .bool r2]) ∧ Below w.heap.size w w' := by
 have HR0 := zA hr0
 have HC0 := zA hc0
 clear hr0 hc0
 have HR1 := zA hr1
 have HC1 := zA hc1
 clear hr1 hc1
 have HB := zA (Below.refl w.heap.size w)
 have H := h
 unfold zhg at H
 clear h
 replace H := zob H
 obtain ⟨t101, A30, H⟩ := H
 have A3 := zA A30
 clear A30
 by_cases c4 : t101 = true
 rotate_left
 · replace c4 := zbf c4
   subst c4
   replace H := zif H
   simp only [Option.some.injEq, Prod.mk.injEq] at H
   obtain ⟨rfl, rfl⟩ := H
   go_enter Tryz.func41, Tryz.ntmps41
   go_wp2_with (first | ((with_reducible refine zgc 89 ?_); refine zca 8 Tryz.func89 #[.slice A0 l0.length c0, .slice A1 l1.length c1] (zjc k _ _ l0 _ _ l1 false _ (zq15 HR0) HC0.out (zq15 HR1) HC1.out A3.out) ?_; rintro e w8 ⟨rfl, hb⟩; refine ⟨_, rfl, ?_⟩; replace HB := zA (zab zq1 hb); (try clear hb)))
   go_ret2
   exact ⟨zq5, zq1⟩
 subst c4
 replace H := zih H
 replace H := zob H
 obtain ⟨t102, A50, H⟩ := H
 have A5 := zA A50
 clear A50
 simp only [Option.some.injEq, Prod.mk.injEq] at H
 obtain ⟨rfl, rfl⟩ := H
 go_enter Tryz.func41, Tryz.ntmps41
 go_wp2_with (first | ((with_reducible refine zgc 89 ?_); refine zca 8 Tryz.func89 #[.slice A0 l0.length c0, .slice A1 l1.length c1] (zjc k _ _ l0 _ _ l1 true _ (zq15 HR0) HC0.out (zq15 HR1) HC1.out A3.out) ?_; rintro e w6 ⟨rfl, hb⟩; refine ⟨_, rfl, ?_⟩; replace HB := zA (zab zq1 hb); (try clear hb)) | ((with_reducible refine zgc 91 ?_); refine zca 12 Tryz.func91 #[.slice A0 l0.length c0, .slice A1 l1.length c1] (zqr k _ _ l0 _ _ l1 t102 _ (zq21 HR0) HC0.out (zq21 HR1) HC1.out A5.out) ?_; rintro e w7 ⟨rfl, hb⟩; refine ⟨_, rfl, ?_⟩; replace HB := zA (zab zq1 hb); (try clear hb)))
 go_ret2
 exact ⟨zq5, zq1⟩
def zlj (l0 : List Int) : Option (List Int) := (some (([] : List Int) : List Int)).bind fun y101 => (if y101.length + l0.length < 17592186044416 then (some (y101 ++ l0)) else (none))
theorem zpd (A0 : Option Addr) (c0 : Nat) (l0 : List Int) (r : List Int) (w : World) (hr0 : Kd.C (Kd.int .i64) w A0 l0.length l0) (hc0 : l0.length ≤ c0) (h : zlj l0 = some r) :
   Calls Tryz.prog 90 #[.slice A0 l0.length c0] w fun e w' => ∃ v0_ : Value, e = .returned (v0_) ∧ Kd.R (Kd.int .i64) 3 w' w.heap.size (fun _ => True) v0_ r ∧ Below w.heap.size w w' := by
 have HR0 := zA hr0
 have HC0 := zA hc0
 clear hr0 hc0
 have HB := zA (Below.refl w.heap.size w)
 have H := h
 unfold zlj at H
 clear h
 obtain ⟨y101, hy101⟩ : ∃ y_ : List Int, y_ = (([] : List Int)) := ⟨_, rfl⟩
 replace H : (if y101.length + l0.length < 17592186044416 then (some (y101 ++ l0)) else (none)) = some r := by first | (rw [hy101]; with_reducible exact H) | (have H2_ := (Option.bind_some _ _).symm.trans H; rw [hy101]; with_reducible exact H2_) | (have H2_ := (Option.bind_some _ _).symm.trans H; with_reducible exact H2_) | with_reducible exact H | (rw [hy101]; exact H) | exact H
 have Ny101 := zA hy101
 clear hy101
 by_cases c2 : y101.length + l0.length < 17592186044416
 · rw [if_pos c2] at H
   have LMc2 := zA c2
   clear c2
   obtain ⟨y104, hy104⟩ : ∃ y_ : List Int, y_ = (y101 ++ l0) := ⟨_, rfl⟩
   rw [← hy104] at H; try with_reducible replace H := zbs H
   have Ny104 := zA hy104
   clear hy104
   obtain rfl := zsi H
   go_enter Tryz.func90, Tryz.ntmps90
   go_wp2_with (first | ((with_reducible refine zgd 3 ?_); refine Kd.R_lit (Kd.int .i64) _ 3 ?hg (N := 3) ?hd (xs := ([] : List Int)) (inner := []) (ok := fun _ => True) (okp := fun _ => True) ?hr ?hp (fun _ hk => hk) trivial (Below.refl _ _) (zlr _) (by simp) ?_; (case hd => rfl); (case hg => rfl); (case hr => go_simp <;> rfl); (case hp => exact (Reps.none _ _)); intro v102 w3 ho4 hb hg_ hnew_; clear hg_ hnew_; (first | rw [← Ny101.out] at ho4 | (simp only [Int.reduceToNat] at ho4; rw [← Ny101.out] at ho4)); have HO103 := zA (Kd.R_lower ho4 (zaj zq1)); replace HB := zA (zab zq1 hb); clear hb ho4) | ((with_reducible refine zci (b := .append) (xs := #[.tmp 3, .tmp 4]) rfl ?_); at_builtin; refine Kd.R_append_rows (Kd.int .i64) (w0 := w) w.heap.size rfl (.tmp 3) (.tmp 4) 25 3 (.int .i64 0) 8 rfl Tryz.underlying25 zja rfl (by decide) (by omega) v102 y101 l0 _ _ _ (fun _ => True) (fun _ => False) rfl rfl ?aO ?aR (fun _ _ h => h) (fun _ h => h.elim) ?aF ?aB ?aS ?aL ?_; (case aR => repeat (first | exact (zCb HR0.out HB.out) | (with_reducible first | refine zCa ?_ _ | refine zCn ?_ _ | refine zCd ?_))); (case aB => exact zq1); (case aF => exact (fun _ _ => trivial)); (case aO => exact (zq2 HO103)); (case aS => exact (zaj zq1)); (case aL => have := LMc2.out; omega); intro v105 w5 ho hb hg hat; rw [← Ny104.out] at ho; replace HB := zA (hb); have HO106 := zA (ho); clear HO103; clear ho hb hg hat))
   go_ret
   exact ⟨_, zq5, zq2 HO106, zq1⟩
 · rw [if_neg c2] at H
   exact absurd H (by simp)
end Go.Proofs.YtabnafbgcpchdaaGreat.Q
end
