/- Proved here: contracts of functions that the law FnExactProgramReaches reaches, and lemmas on what they compute; texts of this session and the printed words of the kit that they lean on, cut down and put together by its program link.py. Conditions: as each states. -/
import Derived.Test.YtnaafcleafbejaaZFnExactProgramReachesXLast
import Derived.Test.YtnaafcleafbejaaZFnExactProgramReachesXWords
import Derived.Test.YtnaafcleafbejaaZFnExactProgramReaches1
section
namespace Go.Proofs.Ytnaafcleafbejaa.Q
open Go.RowKit Go.Proofs.YtnaafcleafbejaaW.PrintWords Go.Proofs.YtnaafcleafbejaaW.PrintLast Go.Proofs.YtnaafcleafbejaaW.PrintMore
set_option maxHeartbeats 8000000
set_option maxRecDepth 100000
attribute [local go_sem] max2_int min2_int max_two min_two max_three min_three max_four min_four
set_option linter.unusedVariables false
set_option linter.unusedSimpArgs false
mutual
def impl_steps.l0 : Nat → Int → List (S64) → List ByteArray → Int → Int → List ByteArray → List Int → Option ((List (S64)))
 | 0, _, _, _, _, _, _, _ => none
 | k + 1, x1, x5, x19, x20, x21, x102000, x102001 => if x21 < x20 then (if 0 ≤ x21 then (if x21 < (x19.length : Int) then ((impl_formOf.f (rdOf ByteArray.empty x19 x21)).bind fun bt106 => ((impl_form_imm.f bt106.1 bt106.2.1 bt106.2.2.1 bt106.2.2.2.1 bt106.2.2.2.2.1 bt106.2.2.2.2.2.1).bind fun t117 => (if t117 = true then (impl_steps.j1 k x1 x5 (rdOf ByteArray.empty x19 x21) x102001 x19 x20 x21 x102000 x102001 bt106.1 bt106.2.1 bt106.2.2.1 bt106.2.2.2.1 bt106.2.2.2.2.1 bt106.2.2.2.2.2.1) else (impl_steps.j1 k x1 x5 (rdOf ByteArray.empty x19 x21) (([0] : List Int)) x19 x20 x21 x102000 x102001 bt106.1 bt106.2.1 bt106.2.2.1 bt106.2.2.2.1 bt106.2.2.2.2.1 bt106.2.2.2.2.2.1)))) else (none)) else (none)) else (some x5)
def impl_steps.j1 : Nat → Int → List (S64) → ByteArray → List Int → List ByteArray → Int → Int → List ByteArray → List Int → Bool → Bool → Int → Int → Int → ByteArray → Option ((List (S64)))
 | 0, _, _, _, _, _, _, _, _, _, _, _, _, _, _, _ => none
 | k + 1, x1, x5, x7, x10, x19, x20, x21, x102000, x102001, x114000, x114001, x114002, x114003, x114004, x114005 => (impl_upTo.f k x114000 (wrap64 (2 + x1))).bind fun t118 => (impl_steps.l1 k x1 x5 x7 x10 x19 x20 x21 t118 (t118.length : Int) 0 x102000 x102001 x114000 x114001 x114002 x114003 x114004 x114005)
def impl_steps.l1 : Nat → Int → List (S64) → ByteArray → List Int → List ByteArray → Int → Int → List Int → Int → Int → List ByteArray → List Int → Bool → Bool → Int → Int → Int → ByteArray → Option ((List (S64)))
 | 0, _, _, _, _, _, _, _, _, _, _, _, _, _, _, _, _, _, _ => none
 | k + 1, x1, x5, x7, x10, x19, x20, x21, x39, x40, x41, x102000, x102001, x114000, x114001, x114002, x114003, x114004, x114005 => if x41 < x40 then (if 0 ≤ x41 then (if x41 < (x39.length : Int) then ((impl_upTo.f k x114001 (wrap64 (2 + x1))).bind fun t122 => (impl_steps.l2 k x1 x5 x7 x10 (rd x39 x41) x19 x20 x21 x39 x40 x41 t122 (t122.length : Int) 0 x102000 x102001 x114000 x114001 x114002 x114003 x114004 x114005)) else (none)) else (none)) else (impl_steps.l0 k x1 x5 x19 x20 (wrap64 (x21 + 1)) x102000 x102001)
def impl_steps.l2 : Nat → Int → List (S64) → ByteArray → List Int → Int → List ByteArray → Int → Int → List Int → Int → Int → List Int → Int → Int → List ByteArray → List Int → Bool → Bool → Int → Int → Int → ByteArray → Option ((List (S64)))
 | 0, _, _, _, _, _, _, _, _, _, _, _, _, _, _, _, _, _, _, _, _, _, _ => none
 | k + 1, x1, x5, x7, x10, x12, x19, x20, x21, x39, x40, x41, x49, x50, x51, x102000, x102001, x114000, x114001, x114002, x114003, x114004, x114005 => if x51 < x50 then (if 0 ≤ x51 then (if x51 < (x49.length : Int) then (impl_steps.l3 k x1 x5 x7 x10 x12 (rd x49 x51) x19 x20 x21 x39 x40 x41 x49 x50 x51 x10 (x10.length : Int) 0 x102000 x102001 x114000 x114001 x114002 x114003 x114004 x114005) else (none)) else (none)) else (impl_steps.l1 k x1 x5 x7 x10 x19 x20 x21 x39 x40 (wrap64 (x41 + 1)) x102000 x102001 x114000 x114001 x114002 x114003 x114004 x114005)
def impl_steps.l3 : Nat → Int → List (S64) → ByteArray → List Int → Int → Int → List ByteArray → Int → Int → List Int → Int → Int → List Int → Int → Int → List Int → Int → Int → List ByteArray → List Int → Bool → Bool → Int → Int → Int → ByteArray → Option ((List (S64)))
 | 0, _, _, _, _, _, _, _, _, _, _, _, _, _, _, _, _, _, _, _, _, _, _, _, _, _, _ => none
 | k + 1, x1, x5, x7, x10, x12, x14, x19, x20, x21, x39, x40, x41, x49, x50, x51, x55, x56, x57, x102000, x102001, x114000, x114001, x114002, x114003, x114004, x114005 => if x57 < x56 then (if 0 ≤ x57 then (if x57 < (x55.length : Int) then (if x5.length < 2932031007402 then (impl_steps.l3 k x1 (x5 ++ [(⟨x7, wrap64 (2 + x1), x12, x14, rd x55 x57⟩ : S64)]) x7 x10 x12 x14 x19 x20 x21 x39 x40 x41 x49 x50 x51 x55 x56 (wrap64 (x57 + 1)) x102000 x102001 x114000 x114001 x114002 x114003 x114004 x114005) else (none)) else (none)) else (none)) else (impl_steps.l2 k x1 x5 x7 x10 x12 x19 x20 x21 x39 x40 x41 x49 x50 (wrap64 (x51 + 1)) x102000 x102001 x114000 x114001 x114002 x114003 x114004 x114005)
end
def impl_steps.f (k : Nat) (l0_0 : List ByteArray) (l0_1 : List Int) (a1 : Int) : Option ((List (S64))) := impl_steps.l0 k a1 (([] : List (S64))) l0_0 (l0_0.length : Int) 0 l0_0 l0_1
theorem impl_steps.mono_l : ∀ k, (∀ y0 y1 y2 y3 y4 y5 y6, LeO (impl_steps.l0 k y0 y1 y2 y3 y4 y5 y6) (impl_steps.l0 (k + 1) y0 y1 y2 y3 y4 y5 y6)) ∧ (∀ y0 y1 y2 y3 y4 y5 y6 y7 y8 y9 y10 y11 y12 y13 y14, LeO (impl_steps.j1 k y0 y1 y2 y3 y4 y5 y6 y7 y8 y9 y10 y11 y12 y13 y14) (impl_steps.j1 (k + 1) y0 y1 y2 y3 y4 y5 y6 y7 y8 y9 y10 y11 y12 y13 y14)) ∧ (∀ y0 y1 y2 y3 y4 y5 y6 y7 y8 y9 y10 y11 y12 y13 y14 y15 y16 y17, LeO (impl_steps.l1 k y0 y1 y2 y3 y4 y5 y6 y7 y8 y9 y10 y11 y12 y13 y14 y15 y16 y17) (impl_steps.l1 (k + 1) y0 y1 y2 y3 y4 y5 y6 y7 y8 y9 y10 y11 y12 y13 y14 y15 y16 y17)) ∧ (∀ y0 y1 y2 y3 y4 y5 y6 y7 y8 y9 y10 y11 y12 y13 y14 y15 y16 y17 y18 y19 y20 y21, LeO (impl_steps.l2 k y0 y1 y2 y3 y4 y5 y6 y7 y8 y9 y10 y11 y12 y13 y14 y15 y16 y17 y18 y19 y20 y21) (impl_steps.l2 (k + 1) y0 y1 y2 y3 y4 y5 y6 y7 y8 y9 y10 y11 y12 y13 y14 y15 y16 y17 y18 y19 y20 y21)) ∧ (∀ y0 y1 y2 y3 y4 y5 y6 y7 y8 y9 y10 y11 y12 y13 y14 y15 y16 y17 y18 y19 y20 y21 y22 y23 y24 y25, LeO (impl_steps.l3 k y0 y1 y2 y3 y4 y5 y6 y7 y8 y9 y10 y11 y12 y13 y14 y15 y16 y17 y18 y19 y20 y21 y22 y23 y24 y25) (impl_steps.l3 (k + 1) y0 y1 y2 y3 y4 y5 y6 y7 y8 y9 y10 y11 y12 y13 y14 y15 y16 y17 y18 y19 y20 y21 y22 y23 y24 y25))
 | 0 => ⟨fun _ _ _ _ _ _ _ r h => by simp [impl_steps.l0] at h, fun _ _ _ _ _ _ _ _ _ _ _ _ _ _ _ r h => by simp [impl_steps.j1] at h, fun _ _ _ _ _ _ _ _ _ _ _ _ _ _ _ _ _ _ r h => by simp [impl_steps.l1] at h, fun _ _ _ _ _ _ _ _ _ _ _ _ _ _ _ _ _ _ _ _ _ _ r h => by simp [impl_steps.l2] at h, fun _ _ _ _ _ _ _ _ _ _ _ _ _ _ _ _ _ _ _ _ _ _ _ _ _ _ r h => by simp [impl_steps.l3] at h⟩
 | k + 1 => by
   obtain ⟨ih0, ih1, ih2, ih3, ih4⟩ := impl_steps.mono_l k
   refine ⟨?_, ?_, ?_, ?_, ?_⟩
   · intro y0 y1 y2 y3 y4 y5 y6
     unfold impl_steps.l0
     exact zm6 ih0 ih1 ih2 ih3 ih4 impl_upTo.mono
   · intro y0 y1 y2 y3 y4 y5 y6 y7 y8 y9 y10 y11 y12 y13 y14
     unfold impl_steps.j1
     exact zm6 ih0 ih1 ih2 ih3 ih4 impl_upTo.mono
   · intro y0 y1 y2 y3 y4 y5 y6 y7 y8 y9 y10 y11 y12 y13 y14 y15 y16 y17
     unfold impl_steps.l1
     exact zm6 ih0 ih1 ih2 ih3 ih4 impl_upTo.mono
   · intro y0 y1 y2 y3 y4 y5 y6 y7 y8 y9 y10 y11 y12 y13 y14 y15 y16 y17 y18 y19 y20 y21
     unfold impl_steps.l2
     exact zm6 ih0 ih1 ih2 ih3 ih4 impl_upTo.mono
   · intro y0 y1 y2 y3 y4 y5 y6 y7 y8 y9 y10 y11 y12 y13 y14 y15 y16 y17 y18 y19 y20 y21 y22 y23 y24 y25
     unfold impl_steps.l3
     exact zm6 ih0 ih1 ih2 ih3 ih4 impl_upTo.mono
theorem impl_steps.mono : ∀ a0 a1 a2 k, LeO (impl_steps.f k a0 a1 a2) (impl_steps.f (k + 1) a0 a1 a2) := by
 intro a0 a1 a2 k
 obtain ⟨ih0, ih1, ih2, ih3, ih4⟩ := impl_steps.mono_l k
 unfold impl_steps.f
 exact zm6 ih0 ih1 ih2 ih3 ih4 impl_upTo.mono
theorem impl_steps.calls (k : Nat) (A0_0 : Option Addr) (c0_0 : Nat) (l0_0 : List ByteArray) (P0_1_ : Nat → Prop) (A0_1 : Option Addr) (c0_1 : Nat) (l0_1 : List Int) (a1 : Int) (r : List (S64)) (w : World) (hr0_0 : Kd.C Kd.string w A0_0 l0_0.length l0_0) (hc0_0 : l0_0.length ≤ c0_0) (hs0_1 : Kd.V (Kd.int .i64) 3 w w.heap.size (fun k_ => P0_1_ k_) (.slice A0_1 l0_1.length c0_1) l0_1) (h : impl_steps.f k l0_0 l0_1 a1 = some r) :
   Calls Try.prog 53 #[.agg #[.slice A0_0 l0_0.length c0_0, .slice A0_1 l0_1.length c0_1], .int .i64 a1] w fun e w' => ∃ v0_ : Value, e = .returned (v0_) ∧ Kd.R k64 64 w' w.heap.size (fun k_ => (w.heap.size ≤ k_)) v0_ r ∧ Below w.heap.size w w' := by
 have hu35 := Try.underlying35
 have hu116 := Try.underlying116
 have hu64 := Try.underlying64
 have HR0_0 := zA hr0_0
 have HC0_0 := zA hc0_0
 clear hr0_0 hc0_0
 have HO0_1 := zA (show Kd.V (Kd.int .i64) 3 w w.heap.size (fun k_ => (P0_1_ k_ ∨ w.heap.size ≤ k_)) (.slice A0_1 l0_1.length c0_1) l0_1 from Kd.V_mono hs0_1 (fun k_ hk => .inl hk))
 have HB := zA (Below.refl w.heap.size w)
 have H : (impl_steps.l0 k a1 (([] : List (S64))) l0_0 (l0_0.length : Int) 0 l0_0 l0_1) = some r := h
 clear h
 obtain ⟨y102, hy102⟩ : ∃ y_ : List (S64), y_ = (([] : List (S64))) := ⟨_, rfl⟩
 replace H : (impl_steps.l0 k a1 y102 l0_0 (l0_0.length : Int) 0 l0_0 l0_1) = some r := by first | (rw [hy102]; with_reducible exact H) | (have H2_ := (Option.bind_some _ _).symm.trans H; rw [hy102]; with_reducible exact H2_) | (have H2_ := (Option.bind_some _ _).symm.trans H; with_reducible exact H2_) | with_reducible exact H | (rw [hy102]; exact H) | exact H
 have Ny102 := zA hy102
 clear hy102
 have H' := zA H
 clear H
 go_enter Try.func53, Try.ntmps53
 go_wp2_with (first | ((with_reducible refine zgd 2 ?_); refine zbx #[.slice A0_0 l0_0.length c0_0, .slice A0_1 l0_1.length c0_1] 35 ?_; intro gb101 hg w3 hbox hb; have zs := zpair zq2 hb; replace HO0_1 := zA (Kd.V_below (Kd.V_elderB (zq14 HO0_1) gb101 (Nat.le_of_eq hg.symm)) hb); replace HB := zA (zs.1); have BK101 := zA (hbox); have GW101 := zA (zge hg zs.2); have GE101 := GW101; clear zs hb hbox hg) | ((with_reducible refine zgd 17 ?_); refine Kd.R_lit k64 _ 64 ?hg (N := 17) ?hd (xs := ([] : List (S64))) (inner := []) (ok := fun _ => True) (okp := fun _ => True) ?hr ?hp (fun _ hk => hk) trivial (Below.refl _ _) (zlr _) (by simp) ?_; (case hd => rfl); (case hg => rfl); (case hr => go_simp <;> rfl); (case hp => exact (Reps.none _ _)); intro v103 w4 ho5 hb hg_ hnew_; clear hg_ hnew_; (first | rw [← Ny102.out] at ho5 | (simp only [Int.reduceToNat] at ho5; rw [← Ny102.out] at ho5)); replace HO0_1 := zA (Kd.V_elder' (zq14 HO0_1) (Kd.R_base ho5) hb); have HO104 := zA (Kd.R_lower (Kd.R_newM (M := fun k_ => (w.heap.size ≤ k_)) ho5 (below_size (zq1 GE101)) (fun k_ h_ => h_)) (below_size (zq1 GE101))); replace BK101 := zbb BK101 hb; replace HB := zA (below_step (zq1 GE101) hb); clear hb ho5; obtain ⟨hcz6_0, hcz6_1⟩ := zc2 w4 (.slice A0_0 l0_0.length c0_0) (.slice A0_1 l0_1.length c0_1) BK101.out; obtain ⟨hfz6_0, hfz6_1⟩ := zf2 BK101.out))
 go_loopg [5, 21] k (fun kq v5 v21 w' => ∃ (x5_1 : List (S64)) (x21_1 : Int), v21 = .int .i64 x21_1 ∧ Aside0 (impl_steps.l0 kq a1 x5_1 l0_0 (l0_0.length : Int) x21_1 l0_0 l0_1 = some r) ∧ Aside0 (kq ≤ k) ∧ Aside0 (Kd.R k64 64 w' w.heap.size (fun k_ => (w.heap.size ≤ k_)) v5 x5_1) ∧ Aside0 (Kd.V (Kd.int .i64) 3 w' w.heap.size (fun k_ => (P0_1_ k_ ∨ w.heap.size ≤ k_) ∧ some k_ ≠ (v5 : Value).ownBlock ∧ k_ ≠ gb101) (.slice A0_1 l0_1.length c0_1) l0_1) ∧ Aside0 (w'.heap[gb101]? = some (.cells #[(.slice A0_0 l0_0.length c0_0), (.slice A0_1 l0_1.length c0_1)] 35 (0, 0))) ∧ Aside0 (Below w.heap.size w w'))
 case atStart => exact ⟨(y102), (0), zq7, H', ⟨zlr _⟩, ⟨zq55 HO104⟩, ⟨by (with_reducible repeat (first | apply Kd.V_alloc | apply Kd.V_drewN | apply Kd.V_drew)); exact Kd.V_mono HO0_1.out (fun _ hk => ⟨hk.1.1, ⟨hk.2, hk.1.2⟩⟩)⟩, ⟨zq6 BK101⟩, ⟨zq1 GE101⟩⟩
 clear H'
 try clear hcz6_0
 try clear hcz6_1
 try clear hfz6_0
 try clear hfz6_1
 obtain ⟨x5_1, x21_1, rfl, HA, HK1, HO_5, HO_102001, BK101, HB⟩ := hrel
 cases gk with
 | zero => exact absurd HA.out (by simp [impl_steps.l0])
 | succ k1 =>
 have H := HA.out
 clear HA
 simp only [impl_steps.l0] at H
 revert H
 refine zit (fun c7 H => ?_) fun c7 H => ?_
 rotate_left
 · obtain rfl := zsi H
   go_wp2
   go_ret
   exact ⟨_, zq5, zq3 HO_5, zq1 GE101⟩
 revert H
 refine zin fun c8 H => ?_
 revert H
 refine zin fun c9 H => ?_
 replace H := zob H
 obtain ⟨⟨t106, t107, t108, t109, t110, t111, t112⟩, A100, H⟩ := H
 replace H : ((impl_form_imm.f t106 t107 t108 t109 t110 t111).bind fun t117 => (if t117 = true then (impl_steps.j1 k1 a1 x5_1 (rdOf ByteArray.empty l0_0 x21_1) l0_1 l0_0 (l0_0.length : Int) x21_1 l0_0 l0_1 t106 t107 t108 t109 t110 t111) else (impl_steps.j1 k1 a1 x5_1 (rdOf ByteArray.empty l0_0 x21_1) (([0] : List Int)) l0_0 (l0_0.length : Int) x21_1 l0_0 l0_1 t106 t107 t108 t109 t110 t111))) = some r := H
 have A10 := zA A100
 clear A100
 obtain ⟨y114, hy114⟩ : ∃ y_ : List Int, y_ = (([0] : List Int)) := ⟨_, rfl⟩
 replace H : ((impl_form_imm.f t106 t107 t108 t109 t110 t111).bind fun t117 => (if t117 = true then (impl_steps.j1 k1 a1 x5_1 (rdOf ByteArray.empty l0_0 x21_1) l0_1 l0_0 (l0_0.length : Int) x21_1 l0_0 l0_1 t106 t107 t108 t109 t110 t111) else (impl_steps.j1 k1 a1 x5_1 (rdOf ByteArray.empty l0_0 x21_1) y114 l0_0 (l0_0.length : Int) x21_1 l0_0 l0_1 t106 t107 t108 t109 t110 t111))) = some r := by first | (rw [hy114]; with_reducible exact H) | (have H2_ := (Option.bind_some _ _).symm.trans H; rw [hy114]; with_reducible exact H2_) | (have H2_ := (Option.bind_some _ _).symm.trans H; with_reducible exact H2_) | with_reducible exact H | (rw [hy114]; exact H) | exact H
 have Ny114 := zA hy114
 clear hy114
 replace H := zob H
 obtain ⟨t117, A110, H⟩ := H
 replace H : (if t117 = true then (impl_steps.j1 k1 a1 x5_1 (rdOf ByteArray.empty l0_0 x21_1) l0_1 l0_0 (l0_0.length : Int) x21_1 l0_0 l0_1 t106 t107 t108 t109 t110 t111) else (impl_steps.j1 k1 a1 x5_1 (rdOf ByteArray.empty l0_0 x21_1) y114 l0_0 (l0_0.length : Int) x21_1 l0_0 l0_1 t106 t107 t108 t109 t110 t111)) = some r := H
 have A11 := zA A110
 clear A110
 have HC12 := zA H
 clear H
 obtain ⟨p105, q105⟩ := zpq x21_1 l0_0.length
 obtain ⟨ad105, e105, hx105_0⟩ := Kd.at_string HR0_0.out x21_1 (zoe p105) (zoe q105)
 cases e105
 replace hx105_0 := zkep HB.out hx105_0
 go_upto_if 32 with (first | ((with_reducible refine zgc 85 ?_); refine zcl 27 Try.func85 (impl_formOf.calls (rdOf ByteArray.empty l0_0 x21_1) t106 t107 t108 t109 t110 t111 t112 _ A10.out) ?_; rintro e w13 ⟨rfl, hb⟩; refine ⟨_, rfl, ?_⟩; replace HO_5 := zA (zRb (zq3 HO_5) hb); replace HO_102001 := zA (Kd.V_below (zq14 HO_102001) hb); replace BK101 := zbb BK101 hb; replace HB := zA (below_step (zq1 GE101) hb); (try clear hb)) | ((with_reducible refine zgd 8 ?_); refine zbx #[.bool false, .bool false, .int .i64 0, .int .i64 0, .int .i64 0, .string (⟨#[]⟩ : ByteArray)] 116 ?_; intro gb113 hg w14 hbox hb; have zs := zpair (zq1 GE101) hb; replace HO_5 := zA (zRb (zq3 HO_5) hb); replace HO_102001 := zA (Kd.V_below (Kd.V_elderB (zq14 HO_102001) gb113 (Nat.le_of_eq hg.symm)) hb); replace HB := zA (zs.1); have BK113 := zA (hbox); have GW113 := zA (zge hg zs.2); have GE113 := GW113; have NB101_113 := zA ((zq12 BK101 : gb101 ≠ gb113)); replace BK101 := zbb BK101 hb; have NB113_101 := zA (Ne.symm NB101_113.out); clear zs hb hbox hg; have hnb15 := NB113_101.out; have hnc15 := NB101_113.out; obtain ⟨hcz16_0, hcz16_1, hcz16_2, hcz16_3, hcz16_4, hcz16_5, hfz16_0, hfz16_1, hfz16_2, hfz16_3, hfz16_4, hfz16_5⟩ := zd6 BK113) | ((with_reducible refine zgd 30 ?_); refine Kd.R_lit (Kd.int .i64) _ 3 ?hg (N := 30) ?hd (xs := ([0] : List Int)) (inner := [.int .i64 0]) (ok := fun _ => True) (okp := fun _ => True) ?hr ?hp (fun _ hk => hk) trivial (Below.refl _ _) (zlr _) (by simp) ?_; (case hd => rfl); (case hg => rfl); (case hr => go_simp <;> rfl); (case hp => exact (Reps.one (show Kd.M (Kd.int .i64) _ _ _ 0 [.int .i64 0] from rfl) (Reps.none _ _))); intro v115 w17 ho18 hb hg_ hnew_; clear hg_ hnew_; (first | rw [← Ny114.out] at ho18 | (simp only [Int.reduceToNat] at ho18; rw [← Ny114.out] at ho18)); replace HO_5 := zA (zRb (by (with_reducible repeat (first | apply zRa | apply zRn | apply zRd)); exact (Kd.R_mono (Kd.R_far (p := ⟨gb113, 5, none⟩) (Kd.R_far (p := ⟨gb113, 4, none⟩) (Kd.R_far (p := ⟨gb113, 3, none⟩) (Kd.R_far (p := ⟨gb113, 2, none⟩) (Kd.R_far (p := ⟨gb113, 1, none⟩) (Kd.R_far (p := ⟨gb113, 0, none⟩) (Kd.R_types HO_5.out BK113.out (by decide)) (fun _ hk => hk.2) (.bool t106)) (fun _ hk => hk.2) (.bool t107)) (fun _ hk => hk.2) (.int .i64 t108)) (fun _ hk => hk.2) (.int .i64 t109)) (fun _ hk => hk.2) (.int .i64 t110)) (fun _ hk => hk.2) (.string t111)) (fun _ h_ => h_.1))) hb); replace HO_102001 := zA (Kd.V_elder' (by (with_reducible repeat (first | apply Kd.V_alloc | apply Kd.V_drewN | apply Kd.V_drew)); exact (Kd.V_mono (Kd.V_far (p := ⟨gb113, 5, none⟩) (Kd.V_far (p := ⟨gb113, 4, none⟩) (Kd.V_far (p := ⟨gb113, 3, none⟩) (Kd.V_far (p := ⟨gb113, 2, none⟩) (Kd.V_far (p := ⟨gb113, 1, none⟩) (Kd.V_far (p := ⟨gb113, 0, none⟩) (Kd.V_mono HO_102001.out (fun k_ hk => (⟨hk, hk.2⟩ : _ ∧ k_ ≠ gb113))) (fun _ hk => hk.2) (.bool t106)) (fun _ hk => hk.2) (.bool t107)) (fun _ hk => hk.2) (.int .i64 t108)) (fun _ hk => hk.2) (.int .i64 t109)) (fun _ hk => hk.2) (.int .i64 t110)) (fun _ hk => hk.2) (.string t111)) (fun _ h_ => h_.1))) (Kd.R_base ho18) hb); have HO116 := zA (Kd.R_lower (Kd.R_newM (M := fun k_ => (w.heap.size ≤ k_)) ho18 (below_size (zq4 GE101 GE113)) (fun k_ h_ => h_)) (below_size (zq4 GE101 GE113))); replace BK101 := zA (blk_below (g := gb101) (o := .cells #[.slice (some ad105) l0_0.length c0_0, .slice A0_1 l0_1.length c0_1] 35 (0, 0)) (zq34 NB101_113 BK101) hb); replace BK113 := zA (blk_below (g := gb113) (o := .cells #[.bool t106, .bool t107, .int .i64 t108, .int .i64 t109, .int .i64 t110, .string t111] 116 (0, 0)) (zq24 BK113) hb); replace HB := zA (below_step (zq4 GE101 GE113) hb); clear hb ho18; obtain ⟨hcz19_0, hcz19_1, hcz19_2, hcz19_3, hcz19_4, hcz19_5⟩ := zc6 w17 (.bool t106) (.bool t107) (.int .i64 t108) (.int .i64 t109) (.int .i64 t110) (.string t111) BK113.out; obtain ⟨hfz19_0, hfz19_1, hfz19_2, hfz19_3, hfz19_4, hfz19_5⟩ := zf6 BK113.out) | ((with_reducible refine zgc 87 ?_); refine zcl 32 Try.func87 (impl_form_imm.calls t106 t107 t108 t109 t110 t111 t117 _ A11.out) ?_; rintro e w20 ⟨rfl, hb⟩; refine ⟨_, rfl, ?_⟩; replace HO_5 := zA (zRb (zq3 HO_5) hb); replace HO_102001 := zA (Kd.V_below (zq14 HO_102001) hb); replace HO116 := zA (zRb (zq3 HO116) hb); replace BK101 := zbb BK101 hb; replace BK113 := zbb BK113 hb; replace HB := zA (below_step (zq4 GE101 GE113) hb); (try clear hb)))
 (try simp only [Act.put, List.setIfInBounds_toArray, List.set_cons_zero, List.set_cons_succ])
 go_cut [10] (fun v10 wc => ∃ (kq : Nat) (x10_11 : List Int), Aside0 (impl_steps.j1 kq a1 x5_1 (rdOf ByteArray.empty l0_0 x21_1) x10_11 l0_0 (l0_0.length : Int) x21_1 l0_0 l0_1 t106 t107 t108 t109 t110 t111 = some r) ∧ Aside0 (kq ≤ k1) ∧ Aside0 (Kd.R k64 64 wc w.heap.size (fun k_ => (w.heap.size ≤ k_)) u5 x5_1) ∧ Aside0 (Kd.V (Kd.int .i64) 3 wc w.heap.size (fun k_ => (P0_1_ k_ ∨ w.heap.size ≤ k_) ∧ some k_ ≠ (u5 : Value).ownBlock ∧ k_ ≠ gb101 ∧ k_ ≠ gb113) v10 x10_11) ∧ Aside0 (Kd.V (Kd.int .i64) 3 wc w.heap.size (fun k_ => (P0_1_ k_ ∨ w.heap.size ≤ k_) ∧ some k_ ≠ (u5 : Value).ownBlock ∧ k_ ≠ gb101 ∧ k_ ≠ gb113) (.slice A0_1 l0_1.length c0_1) l0_1) ∧ Aside0 (wc.heap[gb101]? = some (.cells #[(.slice (some ad105) l0_0.length c0_0), (.slice A0_1 l0_1.length c0_1)] 35 (0, 0))) ∧ Aside0 (wc.heap[gb113]? = some (.cells #[.bool t106, .bool t107, .int .i64 t108, .int .i64 t109, .int .i64 t110, .string t111] 116 (0, 0))) ∧ Aside0 (Below w.heap.size w wc))
 case first =>
   have H := HC12.out
   clear HC12
   by_cases c21 : t117 = true
   rotate_left
   · replace c21 := zbf c21
     subst c21
     replace H := zif H
     have H' := zA H
     clear H
     go_wp2
     go_meet
     case rel => exact ⟨_, (y114), H', ⟨zq40 HK1⟩, ⟨zq3 HO_5⟩, ⟨Kd.V_mono (ok := fun k_ => (w.heap.size ≤ k_) ∧ some k_ ≠ (u5 : Value).ownBlock ∧ k_ ≠ gb101 ∧ k_ ≠ gb113) (Kd.R_V (by (with_reducible repeat (first | apply zRa | apply zRn | apply zRd)); exact Kd.R_mono (Kd.R_types (Kd.R_types (Kd.R_apart' HO116.out (Kd.R_typed HO_5.out) (by decide)) BK101.out (by decide)) BK113.out (by decide)) (fun _ hk => ⟨hk.1.1.1.1, ⟨hk.1.1.2, ⟨hk.1.2, hk.2⟩⟩⟩))) (fun k_ hk => by first | exact ⟨(.inr (hk.1)), hk.2⟩ | exact (.inr (hk)))⟩, ⟨zq51 HO_102001⟩, ⟨zq6 BK101⟩, ⟨zq6 BK113⟩, ⟨zq4 GE101 GE113⟩⟩
   subst c21
   replace H := zih H
   have H' := zA H
   clear H
   have hnb22 := NB101_113.out
   have hnc22 := NB113_101.out
   obtain ⟨hcz23_0, hcz23_1⟩ := zc2 w20 (.slice (some ad105) l0_0.length c0_0) (.slice A0_1 l0_1.length c0_1) BK101.out
   obtain ⟨hfz23_0, hfz23_1⟩ := zf2 BK101.out
   go_wp2
   go_meet
   case rel => exact ⟨_, (l0_1), H', ⟨zq40 HK1⟩, ⟨zq3 HO_5⟩, ⟨zq51 HO_102001⟩, ⟨zq51 HO_102001⟩, ⟨zq6 BK101⟩, ⟨zq6 BK113⟩, ⟨zq4 GE101 GE113⟩⟩
 clear HC12
 try clear c7
 try clear c8
 try clear c9
 try clear c21
 try clear hcz16_0
 try clear hcz16_1
 try clear hcz16_2
 try clear hcz16_3
 try clear hcz16_4
 try clear hcz16_5
 try clear hcz19_0
 try clear hcz19_1
 try clear hcz19_2
 try clear hcz19_3
 try clear hcz19_4
 try clear hcz19_5
 try clear hcz23_0
 try clear hcz23_1
 try clear hcz6_0
 try clear hcz6_1
 try clear hfz16_0
 try clear hfz16_1
 try clear hfz16_2
 try clear hfz16_3
 try clear hfz16_4
 try clear hfz16_5
 try clear hfz19_0
 try clear hfz19_1
 try clear hfz19_2
 try clear hfz19_3
 try clear hfz19_4
 try clear hfz19_5
 try clear hfz23_0
 try clear hfz23_1
 try clear hfz6_0
 try clear hfz6_1
 try clear hx105_0
 try clear p105
 try clear q105
 obtain ⟨kq, x10_11, HA, HJ11, HO_5, HO_10, HO_102001, BK101, BK113, HB⟩ := hcut
 cases kq with
 | zero => exact absurd HA.out (by simp [impl_steps.j1])
 | succ kj11 =>
 have H := HA.out
 clear HA
 simp only [impl_steps.j1] at H
 replace H := zob H
 obtain ⟨t118, A240, H⟩ := H
 replace H : (impl_steps.l1 kj11 a1 x5_1 (rdOf ByteArray.empty l0_0 x21_1) x10_11 l0_0 (l0_0.length : Int) x21_1 t118 (t118.length : Int) 0 l0_0 l0_1 t106 t107 t108 t109 t110 t111) = some r := H
 have A24 := zA A240
 clear A240
 have H' := zA H
 clear H
 have hnb25 := NB113_101.out
 have hnc25 := NB101_113.out
 obtain ⟨hcz26_0, hcz26_1, hcz26_2, hcz26_3, hcz26_4, hcz26_5⟩ := zc6 wc (.bool t106) (.bool t107) (.int .i64 t108) (.int .i64 t109) (.int .i64 t110) (.string t111) BK113.out
 obtain ⟨hfz26_0, hfz26_1, hfz26_2, hfz26_3, hfz26_4, hfz26_5⟩ := zf6 BK113.out
 go_wp2_with (first | ((with_reducible refine zgc 88 ?_); refine zcl 39 Try.func88 (impl_upTo.calls kj11 t106 (wrap64 (2 + a1)) t118 _ A24.out) ?_; rintro e w27 ⟨v119, rfl, ho0, hb⟩; refine ⟨_, rfl, ?_⟩; replace HO_5 := zA (zRb (zq3 HO_5) hb); replace HO_10 := zA (Kd.V_elder' (zq14 HO_10) (Kd.R_base ho0) hb); replace HO_102001 := zA (Kd.V_elder' (zq14 HO_102001) (Kd.R_base ho0) hb); have HO120 := zA (Kd.R_lower (Kd.R_newM (M := fun k_ => (w.heap.size ≤ k_)) ho0 (below_size (zq4 GE101 GE113)) (fun k_ h_ => h_)) (below_size (zq4 GE101 GE113))); replace BK101 := zbb BK101 hb; replace BK113 := zbb BK113 hb; replace HB := zA (below_step (zq4 GE101 GE113) hb); (try clear hb); (try clear ho0); obtain ⟨Ao28, co28, eo28⟩ := Kd.R_slice HO120.out; subst eo28))
 go_loopg [5, 41] kj11 (fun kq v5 v41 w' => ∃ (x5_3 : List (S64)) (x41_3 : Int), v41 = .int .i64 x41_3 ∧ Aside0 (impl_steps.l1 kq a1 x5_3 (rdOf ByteArray.empty l0_0 x21_1) x10_11 l0_0 (l0_0.length : Int) x21_1 t118 (t118.length : Int) x41_3 l0_0 l0_1 t106 t107 t108 t109 t110 t111 = some r) ∧ Aside0 (kq ≤ kj11) ∧ Aside0 (Kd.R k64 64 w' w.heap.size (fun k_ => (w.heap.size ≤ k_)) v5 x5_3) ∧ Aside0 (Kd.V (Kd.int .i64) 3 w' w.heap.size (fun k_ => (P0_1_ k_ ∨ w.heap.size ≤ k_) ∧ some k_ ≠ (v5 : Value).ownBlock ∧ some k_ ≠ ((.slice Ao28 t118.length co28) : Value).ownBlock ∧ k_ ≠ gb101 ∧ k_ ≠ gb113) u10 x10_11) ∧ Aside0 (Kd.R (Kd.int .i64) 3 w' w.heap.size (fun k_ => (w.heap.size ≤ k_)) (.slice Ao28 t118.length co28) t118) ∧ Aside0 (Kd.V (Kd.int .i64) 3 w' w.heap.size (fun k_ => (P0_1_ k_ ∨ w.heap.size ≤ k_) ∧ some k_ ≠ (v5 : Value).ownBlock ∧ some k_ ≠ ((.slice Ao28 t118.length co28) : Value).ownBlock ∧ k_ ≠ gb101 ∧ k_ ≠ gb113) (.slice A0_1 l0_1.length c0_1) l0_1) ∧ Aside0 (w'.heap[gb101]? = some (.cells #[(.slice (some ad105) l0_0.length c0_0), (.slice A0_1 l0_1.length c0_1)] 35 (0, 0))) ∧ Aside0 (w'.heap[gb113]? = some (.cells #[.bool t106, .bool t107, .int .i64 t108, .int .i64 t109, .int .i64 t110, .string t111] 116 (0, 0))) ∧ Aside0 (Below w.heap.size w w'))
 case atStart => exact ⟨(x5_1), (0), zq7, H', ⟨zlr _⟩, ⟨zq3 HO_5⟩, ⟨zq63 HO_10⟩, ⟨zq55 HO120⟩, ⟨zq63 HO_102001⟩, ⟨zq6 BK101⟩, ⟨zq6 BK113⟩, ⟨zq4 GE101 GE113⟩⟩
 clear H'
 try clear c7
 try clear c8
 try clear c9
 try clear c21
 try clear hcz16_0
 try clear hcz16_1
 try clear hcz16_2
 try clear hcz16_3
 try clear hcz16_4
 try clear hcz16_5
 try clear hcz19_0
 try clear hcz19_1
 try clear hcz19_2
 try clear hcz19_3
 try clear hcz19_4
 try clear hcz19_5
 try clear hcz23_0
 try clear hcz23_1
 try clear hcz26_0
 try clear hcz26_1
 try clear hcz26_2
 try clear hcz26_3
 try clear hcz26_4
 try clear hcz26_5
 try clear hcz6_0
 try clear hcz6_1
 try clear hfz16_0
 try clear hfz16_1
 try clear hfz16_2
 try clear hfz16_3
 try clear hfz16_4
 try clear hfz16_5
 try clear hfz19_0
 try clear hfz19_1
 try clear hfz19_2
 try clear hfz19_3
 try clear hfz19_4
 try clear hfz19_5
 try clear hfz23_0
 try clear hfz23_1
 try clear hfz26_0
 try clear hfz26_1
 try clear hfz26_2
 try clear hfz26_3
 try clear hfz26_4
 try clear hfz26_5
 try clear hfz6_0
 try clear hfz6_1
 try clear hx105_0
 try clear p105
 try clear q105
 obtain ⟨x5_3, x41_3, rfl, HA, HK3, HO_5, HO_10, HO_39, HO_102001, BK101, BK113, HB⟩ := hrel
 cases gk with
 | zero => exact absurd HA.out (by simp [impl_steps.l1])
 | succ k3 =>
 have H := HA.out
 clear HA
 simp only [impl_steps.l1] at H
 revert H
 refine zit (fun c29 H => ?_) fun c29 H => ?_
 rotate_left
 · have H' := zA H
   clear H
   go_wp2
   go_roundg k3
   case measure => have := HK1.out; have := HJ11.out; have := HK3.out; omega
   case rel => exact ⟨(x5_3), (wrap64 (x21_1 + 1)), zq7, H', ⟨by have := HK1.out; have := HJ11.out; have := HK3.out; omega⟩, ⟨zq3 HO_5⟩, ⟨by (with_reducible repeat (first | apply Kd.V_alloc | apply Kd.V_drewN | apply Kd.V_drew)); exact Kd.V_mono HO_102001.out (fun _ hk => ⟨hk.1, ⟨hk.2.1, hk.2.2.2.1⟩⟩)⟩, ⟨zq6 BK101⟩, ⟨zq4 GE101 GE113⟩⟩
 revert H
 refine zin fun c30 H => ?_
 revert H
 refine zin fun c31 H => ?_
 replace H := zob H
 obtain ⟨t122, A320, H⟩ := H
 replace H : (impl_steps.l2 k3 a1 x5_3 (rdOf ByteArray.empty l0_0 x21_1) x10_11 (rd t118 x41_3) l0_0 (l0_0.length : Int) x21_1 t118 (t118.length : Int) x41_3 t122 (t122.length : Int) 0 l0_0 l0_1 t106 t107 t108 t109 t110 t111) = some r := H
 have A32 := zA A320
 clear A320
 have H' := zA H
 clear H
 obtain ⟨p121, q121⟩ := zpq x41_3 t118.length
 obtain ⟨ad121, e121, hx121_0⟩ := Kd.at_int (zRr HO_39.out).2.2 x41_3 (zoe p121) (zoe q121)
 cases e121
 have hnb33 := NB113_101.out
 have hnc33 := NB101_113.out
 obtain ⟨hcz34_0, hcz34_1, hcz34_2, hcz34_3, hcz34_4, hcz34_5⟩ := zc6 wr (.bool t106) (.bool t107) (.int .i64 t108) (.int .i64 t109) (.int .i64 t110) (.string t111) BK113.out
 obtain ⟨hfz34_0, hfz34_1, hfz34_2, hfz34_3, hfz34_4, hfz34_5⟩ := zf6 BK113.out
 go_wp2_with (first | ((with_reducible refine zgc 88 ?_); refine zcl 49 Try.func88 (impl_upTo.calls k3 t107 (wrap64 (2 + a1)) t122 _ A32.out) ?_; rintro e w35 ⟨v123, rfl, ho0, hb⟩; refine ⟨_, rfl, ?_⟩; replace HO_5 := zA (zRb (zq3 HO_5) hb); replace HO_10 := zA (Kd.V_elder' (zq14 HO_10) (Kd.R_base ho0) hb); replace HO_102001 := zA (Kd.V_elder' (zq14 HO_102001) (Kd.R_base ho0) hb); have HO124 := zA (Kd.R_lower (Kd.R_new' (Kd.R_newM (M := fun k_ => (w.heap.size ≤ k_)) ho0 (below_size (zq4 GE101 GE113)) (fun k_ h_ => h_)) (Kd.R_lt (zq3 HO_39))) (below_size (zq4 GE101 GE113))); replace HO_39 := zA (Kd.R_elder' (zq3 HO_39) (Kd.R_base ho0) hb); replace BK101 := zbb BK101 hb; replace BK113 := zbb BK113 hb; replace HB := zA (below_step (zq4 GE101 GE113) hb); (try clear hb); (try clear ho0); obtain ⟨Ao36, co36, eo36⟩ := Kd.R_slice HO124.out; subst eo36))
 go_loopg [5, 51] k3 (fun kq v5 v51 w' => ∃ (x5_4 : List (S64)) (x51_4 : Int), v51 = .int .i64 x51_4 ∧ Aside0 (impl_steps.l2 kq a1 x5_4 (rdOf ByteArray.empty l0_0 x21_1) x10_11 (rd t118 x41_3) l0_0 (l0_0.length : Int) x21_1 t118 (t118.length : Int) x41_3 t122 (t122.length : Int) x51_4 l0_0 l0_1 t106 t107 t108 t109 t110 t111 = some r) ∧ Aside0 (kq ≤ k3) ∧ Aside0 (Kd.R k64 64 w' w.heap.size (fun k_ => (w.heap.size ≤ k_)) v5 x5_4) ∧ Aside0 (Kd.V (Kd.int .i64) 3 w' w.heap.size (fun k_ => (P0_1_ k_ ∨ w.heap.size ≤ k_) ∧ some k_ ≠ (v5 : Value).ownBlock ∧ some k_ ≠ ((.slice (some ad121) t118.length co28) : Value).ownBlock ∧ some k_ ≠ ((.slice Ao36 t122.length co36) : Value).ownBlock ∧ k_ ≠ gb101 ∧ k_ ≠ gb113) u10 x10_11) ∧ Aside0 (Kd.R (Kd.int .i64) 3 w' w.heap.size (fun k_ => (w.heap.size ≤ k_) ∧ some k_ ≠ ((.slice Ao36 t122.length co36) : Value).ownBlock) (.slice (some ad121) t118.length co28) t118) ∧ Aside0 (Kd.R (Kd.int .i64) 3 w' w.heap.size (fun k_ => (w.heap.size ≤ k_) ∧ some k_ ≠ ((.slice (some ad121) t118.length co28) : Value).ownBlock) (.slice Ao36 t122.length co36) t122) ∧ Aside0 (Kd.V (Kd.int .i64) 3 w' w.heap.size (fun k_ => (P0_1_ k_ ∨ w.heap.size ≤ k_) ∧ some k_ ≠ (v5 : Value).ownBlock ∧ some k_ ≠ ((.slice (some ad121) t118.length co28) : Value).ownBlock ∧ some k_ ≠ ((.slice Ao36 t122.length co36) : Value).ownBlock ∧ k_ ≠ gb101 ∧ k_ ≠ gb113) (.slice A0_1 l0_1.length c0_1) l0_1) ∧ Aside0 (w'.heap[gb101]? = some (.cells #[(.slice (some ad105) l0_0.length c0_0), (.slice A0_1 l0_1.length c0_1)] 35 (0, 0))) ∧ Aside0 (w'.heap[gb113]? = some (.cells #[.bool t106, .bool t107, .int .i64 t108, .int .i64 t109, .int .i64 t110, .string t111] 116 (0, 0))) ∧ Aside0 (Below w.heap.size w w'))
 case atStart => exact ⟨(x5_3), (0), zq7, H', ⟨zlr _⟩, ⟨zq3 HO_5⟩, ⟨zq58 HO_10⟩, ⟨zq3 HO_39⟩, ⟨by (with_reducible repeat (first | apply zRa | apply zRn | apply zRd)); exact Kd.R_mono HO124.out (fun _ hk => ⟨hk.1.1, hk.2⟩)⟩, ⟨zq58 HO_102001⟩, ⟨zq6 BK101⟩, ⟨zq6 BK113⟩, ⟨zq4 GE101 GE113⟩⟩
 clear H'
 try clear c7
 try clear c8
 try clear c9
 try clear c21
 try clear c29
 try clear c30
 try clear c31
 try clear hcz16_0
 try clear hcz16_1
 try clear hcz16_2
 try clear hcz16_3
 try clear hcz16_4
 try clear hcz16_5
 try clear hcz19_0
 try clear hcz19_1
 try clear hcz19_2
 try clear hcz19_3
 try clear hcz19_4
 try clear hcz19_5
 try clear hcz23_0
 try clear hcz23_1
 try clear hcz26_0
 try clear hcz26_1
 try clear hcz26_2
 try clear hcz26_3
 try clear hcz26_4
 try clear hcz26_5
 try clear hcz34_0
 try clear hcz34_1
 try clear hcz34_2
 try clear hcz34_3
 try clear hcz34_4
 try clear hcz34_5
 try clear hcz6_0
 try clear hcz6_1
 try clear hfz16_0
 try clear hfz16_1
 try clear hfz16_2
 try clear hfz16_3
 try clear hfz16_4
 try clear hfz16_5
 try clear hfz19_0
 try clear hfz19_1
 try clear hfz19_2
 try clear hfz19_3
 try clear hfz19_4
 try clear hfz19_5
 try clear hfz23_0
 try clear hfz23_1
 try clear hfz26_0
 try clear hfz26_1
 try clear hfz26_2
 try clear hfz26_3
 try clear hfz26_4
 try clear hfz26_5
 try clear hfz34_0
 try clear hfz34_1
 try clear hfz34_2
 try clear hfz34_3
 try clear hfz34_4
 try clear hfz34_5
 try clear hfz6_0
 try clear hfz6_1
 try clear hx105_0
 try clear hx121_0
 try clear p105
 try clear p121
 try clear q105
 try clear q121
 obtain ⟨x5_4, x51_4, rfl, HA, HK4, HO_5, HO_10, HO_39, HO_49, HO_102001, BK101, BK113, HB⟩ := hrel
 cases gk with
 | zero => exact absurd HA.out (by simp [impl_steps.l2])
 | succ k4 =>
 have H := HA.out
 clear HA
 simp only [impl_steps.l2] at H
 revert H
 refine zit (fun c37 H => ?_) fun c37 H => ?_
 rotate_left
 · have H' := zA H
   clear H
   go_wp2
   go_roundg k4
   case measure => have := HK1.out; have := HJ11.out; have := HK3.out; have := HK4.out; omega
   case rel => exact ⟨(x5_4), (wrap64 (x41_3 + 1)), zq7, H', ⟨by have := HK1.out; have := HJ11.out; have := HK3.out; have := HK4.out; omega⟩, ⟨zq3 HO_5⟩, ⟨zq62 HO_10⟩, ⟨zq55 HO_39⟩, ⟨zq62 HO_102001⟩, ⟨zq6 BK101⟩, ⟨zq6 BK113⟩, ⟨zq4 GE101 GE113⟩⟩
 revert H
 refine zin fun c38 H => ?_
 revert H
 refine zin fun c39 H => ?_
 have H' := zA H
 clear H
 obtain ⟨p125, q125⟩ := zpq x51_4 t122.length
 obtain ⟨ad125, e125, hx125_0⟩ := Kd.at_int (zRr HO_49.out).2.2 x51_4 (zoe p125) (zoe q125)
 cases e125
 obtain ⟨Ao40, co40, eo40⟩ := Kd.V_slice HO_10.out
 subst eo40
 go_wp2
 go_loopg [5, 57] k4 (fun kq v5 v57 w' => ∃ (x5_5 : List (S64)) (x57_5 : Int), v57 = .int .i64 x57_5 ∧ Aside0 (impl_steps.l3 kq a1 x5_5 (rdOf ByteArray.empty l0_0 x21_1) x10_11 (rd t118 x41_3) (rd t122 x51_4) l0_0 (l0_0.length : Int) x21_1 t118 (t118.length : Int) x41_3 t122 (t122.length : Int) x51_4 x10_11 (x10_11.length : Int) x57_5 l0_0 l0_1 t106 t107 t108 t109 t110 t111 = some r) ∧ Aside0 (kq ≤ k4) ∧ Aside0 (Kd.R k64 64 w' w.heap.size (fun k_ => (w.heap.size ≤ k_)) v5 x5_5) ∧ Aside0 (Kd.V (Kd.int .i64) 3 w' w.heap.size (fun k_ => (P0_1_ k_ ∨ w.heap.size ≤ k_) ∧ some k_ ≠ (v5 : Value).ownBlock ∧ some k_ ≠ ((.slice (some ad121) t118.length co28) : Value).ownBlock ∧ some k_ ≠ ((.slice (some ad125) t122.length co36) : Value).ownBlock ∧ k_ ≠ gb101 ∧ k_ ≠ gb113) (.slice Ao40 x10_11.length co40) x10_11) ∧ Aside0 (Kd.R (Kd.int .i64) 3 w' w.heap.size (fun k_ => (w.heap.size ≤ k_) ∧ some k_ ≠ ((.slice (some ad125) t122.length co36) : Value).ownBlock) (.slice (some ad121) t118.length co28) t118) ∧ Aside0 (Kd.R (Kd.int .i64) 3 w' w.heap.size (fun k_ => (w.heap.size ≤ k_) ∧ some k_ ≠ ((.slice (some ad121) t118.length co28) : Value).ownBlock) (.slice (some ad125) t122.length co36) t122) ∧ Aside0 (Kd.V (Kd.int .i64) 3 w' w.heap.size (fun k_ => (P0_1_ k_ ∨ w.heap.size ≤ k_) ∧ some k_ ≠ (v5 : Value).ownBlock ∧ some k_ ≠ ((.slice (some ad121) t118.length co28) : Value).ownBlock ∧ some k_ ≠ ((.slice (some ad125) t122.length co36) : Value).ownBlock ∧ k_ ≠ gb101 ∧ k_ ≠ gb113) (.slice Ao40 x10_11.length co40) x10_11) ∧ Aside0 (Kd.V (Kd.int .i64) 3 w' w.heap.size (fun k_ => (P0_1_ k_ ∨ w.heap.size ≤ k_) ∧ some k_ ≠ (v5 : Value).ownBlock ∧ some k_ ≠ ((.slice (some ad121) t118.length co28) : Value).ownBlock ∧ some k_ ≠ ((.slice (some ad125) t122.length co36) : Value).ownBlock ∧ k_ ≠ gb101 ∧ k_ ≠ gb113) (.slice A0_1 l0_1.length c0_1) l0_1) ∧ Aside0 (w'.heap[gb101]? = some (.cells #[(.slice (some ad105) l0_0.length c0_0), (.slice A0_1 l0_1.length c0_1)] 35 (0, 0))) ∧ Aside0 (w'.heap[gb113]? = some (.cells #[.bool t106, .bool t107, .int .i64 t108, .int .i64 t109, .int .i64 t110, .string t111] 116 (0, 0))) ∧ Aside0 (Below w.heap.size w w'))
 case atStart => exact ⟨(x5_4), (0), zq7, H', ⟨zlr _⟩, ⟨zq3 HO_5⟩, ⟨zq14 HO_10⟩, ⟨zq3 HO_39⟩, ⟨zq3 HO_49⟩, ⟨zq14 HO_10⟩, ⟨zq14 HO_102001⟩, ⟨zq6 BK101⟩, ⟨zq6 BK113⟩, ⟨zq4 GE101 GE113⟩⟩
 clear H'
 try clear c7
 try clear c8
 try clear c9
 try clear c21
 try clear c29
 try clear c30
 try clear c31
 try clear c37
 try clear c38
 try clear c39
 try clear hcz16_0
 try clear hcz16_1
 try clear hcz16_2
 try clear hcz16_3
 try clear hcz16_4
 try clear hcz16_5
 try clear hcz19_0
 try clear hcz19_1
 try clear hcz19_2
 try clear hcz19_3
 try clear hcz19_4
 try clear hcz19_5
 try clear hcz23_0
 try clear hcz23_1
 try clear hcz26_0
 try clear hcz26_1
 try clear hcz26_2
 try clear hcz26_3
 try clear hcz26_4
 try clear hcz26_5
 try clear hcz34_0
 try clear hcz34_1
 try clear hcz34_2
 try clear hcz34_3
 try clear hcz34_4
 try clear hcz34_5
 try clear hcz6_0
 try clear hcz6_1
 try clear hfz16_0
 try clear hfz16_1
 try clear hfz16_2
 try clear hfz16_3
 try clear hfz16_4
 try clear hfz16_5
 try clear hfz19_0
 try clear hfz19_1
 try clear hfz19_2
 try clear hfz19_3
 try clear hfz19_4
 try clear hfz19_5
 try clear hfz23_0
 try clear hfz23_1
 try clear hfz26_0
 try clear hfz26_1
 try clear hfz26_2
 try clear hfz26_3
 try clear hfz26_4
 try clear hfz26_5
 try clear hfz34_0
 try clear hfz34_1
 try clear hfz34_2
 try clear hfz34_3
 try clear hfz34_4
 try clear hfz34_5
 try clear hfz6_0
 try clear hfz6_1
 try clear hx105_0
 try clear hx121_0
 try clear hx125_0
 try clear p105
 try clear p121
 try clear p125
 try clear q105
 try clear q121
 try clear q125
 obtain ⟨x5_5, x57_5, rfl, HA, HK5, HO_5, HO_10, HO_39, HO_49, HO_55, HO_102001, BK101, BK113, HB⟩ := hrel
 cases gk with
 | zero => exact absurd HA.out (by simp [impl_steps.l3])
 | succ k5 =>
 have H := HA.out
 clear HA
 simp only [impl_steps.l3] at H
 revert H
 refine zit (fun c41 H => ?_) fun c41 H => ?_
 rotate_left
 · have H' := zA H
   clear H
   go_wp2
   go_roundg k5
   case measure => have := HK1.out; have := HJ11.out; have := HK3.out; have := HK4.out; have := HK5.out; omega
   case rel => exact ⟨(x5_5), (wrap64 (x51_4 + 1)), zq7, H', ⟨by have := HK1.out; have := HJ11.out; have := HK3.out; have := HK4.out; have := HK5.out; omega⟩, ⟨zq3 HO_5⟩, ⟨zq14 HO_10⟩, ⟨zq3 HO_39⟩, ⟨zq3 HO_49⟩, ⟨zq14 HO_102001⟩, ⟨zq6 BK101⟩, ⟨zq6 BK113⟩, ⟨zq4 GE101 GE113⟩⟩
 revert H
 refine zin fun c42 H => ?_
 revert H
 refine zin fun c43 H => ?_
 by_cases c44 : x5_5.length < 2932031007402
 rotate_left
 · rw [if_neg c44] at H
   exact absurd H (by simp)
 rw [if_pos c44] at H
 have LMc44 := zA c44
 clear c44
 obtain ⟨y127, hy127⟩ : ∃ y_ : List (S64), y_ = (x5_5 ++ [(⟨(rdOf ByteArray.empty l0_0 x21_1), wrap64 (2 + a1), (rd t118 x41_3), (rd t122 x51_4), rd x10_11 x57_5⟩ : S64)]) := ⟨_, rfl⟩
 replace H : (impl_steps.l3 k5 a1 y127 (rdOf ByteArray.empty l0_0 x21_1) x10_11 (rd t118 x41_3) (rd t122 x51_4) l0_0 (l0_0.length : Int) x21_1 t118 (t118.length : Int) x41_3 t122 (t122.length : Int) x51_4 x10_11 (x10_11.length : Int) (wrap64 (x57_5 + 1)) l0_0 l0_1 t106 t107 t108 t109 t110 t111) = some r := by first | (rw [hy127]; with_reducible exact H) | (have H2_ := (Option.bind_some _ _).symm.trans H; rw [hy127]; with_reducible exact H2_) | (have H2_ := (Option.bind_some _ _).symm.trans H; with_reducible exact H2_) | with_reducible exact H | (rw [hy127]; exact H) | exact H
 have Ny127 := zA hy127
 clear hy127
 have H' := zA H
 clear H
 obtain ⟨p126, q126⟩ := zpq x57_5 x10_11.length
 obtain ⟨ad126, e126, hx126_0⟩ := Kd.at_int (Kd.V_reads' HO_55.out).2.2 x57_5 (zoe p126) (zoe q126)
 cases e126
 go_wp2_with (first | ((with_reducible refine gate_builtin (b := .append) (xs := #[.tmp 61, .tmp 69]) rfl ?_); at_builtin; refine Kd.R_append k64 (w0 := w) w.heap.size rfl (.tmp 61) (.tmp 69) 37 64 (.agg #[(.string ⟨#[]⟩), (.int .i64 0), (.int .i64 0), (.int .i64 0), (.int .i64 0)]) 48 rfl Try.underlying37 info64 rfl (by decide) (by omega) u5 x5_5 (⟨(rdOf ByteArray.empty l0_0 x21_1), wrap64 (2 + a1), (rd t118 x41_3), (rd t122 x51_4), rd x10_11 x57_5⟩ : S64) [.string (rdOf ByteArray.empty l0_0 x21_1), .int .i64 (wrap64 (2 + a1)), .int .i64 (rd t118 x41_3), .int .i64 (rd t122 x51_4), .int .i64 (rd x10_11 x57_5)] (fun k_ => (w.heap.size ≤ k_)) (fun _ => False) rfl rfl ?aP (fun _ hk => hk.elim) ?aF ?aO ?aB ?aS ?aL ?_; (case aP => exact k64_mkM _ _ _ (⟨(rdOf ByteArray.empty l0_0 x21_1), wrap64 (2 + a1), (rd t118 x41_3), (rd t122 x51_4), rd x10_11 x57_5⟩ : S64)); (case aB => exact (zq4 GE101 GE113)); (case aF => exact (fun k_ hk => (Nat.le_trans (below_size (zq4 GE101 GE113)) hk))); (case aO => exact (zq3 HO_5)); (case aS => exact (below_size (zq4 GE101 GE113))); (case aL => have := LMc44.out; omega); intro v128 w45 ho hb hg hat; rw [← Ny127.out] at ho; replace HO_10 := zA (Kd.V_afterv (ok := (fun k_ => (P0_1_ k_ ∨ w.heap.size ≤ k_) ∧ some k_ ≠ (.slice (some ad121) t118.length co28 : Value).ownBlock ∧ some k_ ≠ (.slice (some ad125) t122.length co36 : Value).ownBlock ∧ k_ ≠ gb101 ∧ k_ ≠ gb113)) (zq44 HO_10) hg hat); replace HO_39 := zA (Kd.R_over' (zq3 HO_39) (Kd.R_typed (zq3 HO_5)) (by decide) hg); replace HO_49 := zA (Kd.R_over' (zq3 HO_49) (Kd.R_typed (zq3 HO_5)) (by decide) hg); replace HO_55 := zA (Kd.V_afterv (ok := (fun k_ => (P0_1_ k_ ∨ w.heap.size ≤ k_) ∧ some k_ ≠ (.slice (some ad121) t118.length co28 : Value).ownBlock ∧ some k_ ≠ (.slice (some ad125) t122.length co36 : Value).ownBlock ∧ k_ ≠ gb101 ∧ k_ ≠ gb113)) (zq44 HO_55) hg hat); replace HO_102001 := zA (Kd.V_afterv (ok := (fun k_ => (P0_1_ k_ ∨ w.heap.size ≤ k_) ∧ some k_ ≠ (.slice (some ad121) t118.length co28 : Value).ownBlock ∧ some k_ ≠ (.slice (some ad125) t122.length co36 : Value).ownBlock ∧ k_ ≠ gb101 ∧ k_ ≠ gb113)) (zq44 HO_102001) hg hat); replace BK101 := zA (blk_grown (g := gb101) (o := .cells #[.slice (some ad105) l0_0.length c0_0, .slice A0_1 l0_1.length c0_1] 35 (0, 0)) (zq6 BK101) hg (Kd.R_ne HO_5.out BK101.out (by decide))); replace BK113 := zA (blk_grown (g := gb113) (o := .cells #[.bool t106, .bool t107, .int .i64 t108, .int .i64 t109, .int .i64 t110, .string t111] 116 (0, 0)) (zq6 BK113) hg (Kd.R_ne HO_5.out BK113.out (by decide))); replace HB := zA (hb); have HO129 := zA (ho); clear HO_5; clear ho hb hg hat))
 go_roundg k5
 case measure => have := HK1.out; have := HJ11.out; have := HK3.out; have := HK4.out; have := HK5.out; omega
 case rel => exact ⟨(y127), (wrap64 (x57_5 + 1)), zq7, H', ⟨by have := HK1.out; have := HJ11.out; have := HK3.out; have := HK4.out; have := HK5.out; omega⟩, ⟨zq3 HO129⟩, ⟨zq45 HO_10⟩, ⟨zq3 HO_39⟩, ⟨zq3 HO_49⟩, ⟨zq45 HO_55⟩, ⟨zq45 HO_102001⟩, ⟨zq6 BK101⟩, ⟨zq6 BK113⟩, ⟨zq4 GE101 GE113⟩⟩
end Go.Proofs.Ytnaafcleafbejaa.Q
end
section
namespace Go.Proofs.Ytnaafcleafbejaa.Q
open Go.RowKit Go.Proofs.YtnaafcleafbejaaW.PrintWords Go.Proofs.YtnaafcleafbejaaW.PrintLast Go.Proofs.YtnaafcleafbejaaW.PrintMore
set_option maxHeartbeats 8000000
set_option maxRecDepth 100000
attribute [local go_sem] max2_int min2_int max_two min_two max_three min_three max_four min_four
set_option linter.unusedVariables false
set_option linter.unusedSimpArgs false
def impl_isProgram.l0 : Nat → List (S64) → Int → Int → List ByteArray → List Int → Option (Bool)
 | 0, _, _, _, _, _ => none
 | k + 1, x7, x8, x9, x102000, x102001 => if x9 < x8 then (if 0 ≤ x9 then (if x9 < (x7.length : Int) then (if x9 ≥ 3 then (some false) else ((impl_steps.f k x102000 x102001 x9).bind fun t104 => ((impl_Instr_106.f k t104 ((rd_T64 x7 x9).f0) ((rd_T64 x7 x9).f1) ((rd_T64 x7 x9).f2) ((rd_T64 x7 x9).f3) ((rd_T64 x7 x9).f4)).bind fun t107 => (if t107 = true then (impl_isProgram.l0 k x7 x8 (wrap64 (x9 + 1)) x102000 x102001) else (some false))))) else (none)) else (none)) else (some true)
def impl_isProgram.f (k : Nat) (l0_0 : List ByteArray) (l0_1 : List Int) (l1 : List (S64)) : Option (Bool) := impl_isProgram.l0 k l1 (l1.length : Int) 0 l0_0 l0_1
theorem impl_isProgram.mono_l : ∀ k, (∀ y0 y1 y2 y3 y4, LeO (impl_isProgram.l0 k y0 y1 y2 y3 y4) (impl_isProgram.l0 (k + 1) y0 y1 y2 y3 y4))
 | 0 => fun _ _ _ _ _ r h => by simp [impl_isProgram.l0] at h
 | k + 1 => by
   have ih0 := impl_isProgram.mono_l k
   · intro y0 y1 y2 y3 y4
     unfold impl_isProgram.l0
     exact zm3 ih0 impl_Instr_106.mono impl_steps.mono
theorem impl_isProgram.mono : ∀ a0 a1 a2 k, LeO (impl_isProgram.f k a0 a1 a2) (impl_isProgram.f (k + 1) a0 a1 a2) := by
 intro a0 a1 a2 k
 have ih0 := impl_isProgram.mono_l k
 unfold impl_isProgram.f
 exact zm3 ih0 impl_Instr_106.mono impl_steps.mono
def impl_isProgram.T4 : Bool × List (List Nat × List Nat) := (true, [([], []), ([0], [0]), ([1], [1]), ([2], [2]), ([2], [2]), ([3, 4, 2, 2], [2, 3, 4]), ([2], [2]), ([5, 6, 5, 2], [2, 5, 6]), ([7, 2], [2, 7]), ([2, 8], [2, 8])])
def impl_isProgram.B4 : List Nat := [0, 1, 3, 7, 7, 31, 7, 127, 255, 511]
theorem impl_isProgram.tab4 : rtab .any (opsOf Try.f74 4) = impl_isProgram.T4 := by kernel_rfl
theorem impl_isProgram.bits4 : waitsOk impl_isProgram.T4.2 impl_isProgram.B4 = true := by kernel_rfl
theorem impl_isProgram.calls (k : Nat) (A0_0 : Option Addr) (c0_0 : Nat) (l0_0 : List ByteArray) (A0_1 : Option Addr) (c0_1 : Nat) (l0_1 : List Int) (A1 : Option Addr) (c1 : Nat) (l1 : List (S64)) (r : Bool) (w : World) (hr0_0 : Kd.C Kd.string w A0_0 l0_0.length l0_0) (hc0_0 : l0_0.length ≤ c0_0) (hr0_1 : Kd.C (Kd.int .i64) w A0_1 l0_1.length l0_1) (hc0_1 : l0_1.length ≤ c0_1) (hr1 : Kd.C k64 w A1 l1.length l1) (hc1 : l1.length ≤ c1) (h : impl_isProgram.f k l0_0 l0_1 l1 = some r) :
   Calls Try.prog 74 #[.agg #[.slice A0_0 l0_0.length c0_0, .slice A0_1 l0_1.length c0_1], .slice A1 l1.length c1] w fun e w' => e = .returned (.bool r) ∧ Below w.heap.size w w' := by
 have hu35 := Try.underlying35
 have hu64 := Try.underlying64
 have HR0_0 := zA hr0_0
 have HC0_0 := zA hc0_0
 clear hr0_0 hc0_0
 have HR0_1 := zA hr0_1
 have HC0_1 := zA hc0_1
 clear hr0_1 hc0_1
 have HR1 := zA hr1
 have HC1 := zA hc1
 clear hr1 hc1
 have HB := zA (Below.refl w.heap.size w)
 have H : (impl_isProgram.l0 k l1 (l1.length : Int) 0 l0_0 l0_1) = some r := h
 clear h
 have H' := zA H
 clear H
 go_enter Try.func74, Try.ntmps74
 go_wp2_with (first | ((with_reducible refine zgd 2 ?_); refine zbx #[.slice A0_0 l0_0.length c0_0, .slice A0_1 l0_1.length c0_1] 35 ?_; intro gb101 hg w3 hbox hb; have zs := zpair zq2 hb; replace HB := zA (zs.1); have BK101 := zA (hbox); have GW101 := zA (zge hg zs.2); have GE101 := GW101; clear zs hb hbox hg))
 go_loopg [9] k (fun kq v9 w' => ∃ (x9_1 : Int), v9 = .int .i64 x9_1 ∧ Aside0 (impl_isProgram.l0 kq l1 (l1.length : Int) x9_1 l0_0 l0_1 = some r) ∧ Aside0 (kq ≤ k) ∧ Aside0 (w'.heap[gb101]? = some (.cells #[(.slice A0_0 l0_0.length c0_0), (.slice A0_1 l0_1.length c0_1)] 35 (0, 0))) ∧ Aside0 (Below w.heap.size w w'))
 case atStart => exact ⟨(0), zq7, H', ⟨zlr _⟩, ⟨zq6 BK101⟩, ⟨zq1 GE101⟩⟩
 clear H'
 try clear c1
 obtain ⟨x9_1, rfl, HA, HK1, BK101, HB⟩ := hrel
 cases gk with
 | zero => exact absurd HA.out (by simp [impl_isProgram.l0])
 | succ k1 =>
 have H := HA.out
 clear HA
 simp only [impl_isProgram.l0] at H
 revert H
 refine zit (fun c4 H => ?_) fun c4 H => ?_
 rotate_left
 · obtain rfl := zsi H
   go_wp2
   go_ret
   exact ⟨zq5, zq1 GE101⟩
 revert H
 refine zin fun c5 H => ?_
 revert H
 refine zin fun c6 H => ?_
 by_cases c7 : x9_1 ≥ 3
 · rw [if_pos c7] at H
   have c7b0 := zdt c7
   clear c7
   obtain rfl := zsi H
   obtain ⟨p102, q102⟩ := zpq x9_1 l1.length
   obtain ⟨ad102, e102, hx102_0, hx102_1, hx102_2, hx102_3, hx102_4⟩ := at_T64 HR1.out x9_1 (zoe p102) (zoe q102)
   cases e102
   replace hx102_0 := zkep HB.out hx102_0
   replace hx102_1 := zkep HB.out hx102_1
   replace hx102_2 := zkep HB.out hx102_2
   replace hx102_3 := zkep HB.out hx102_3
   replace hx102_4 := zkep HB.out hx102_4
   try go_wp2_with (first | ((with_reducible refine zgd 6 ?_); refine zbx #[.string (⟨#[]⟩ : ByteArray), .int .i64 0, .int .i64 0, .int .i64 0, .int .i64 0] 64 ?_; intro gb103 hg w8 hbox hb; have zs := zpair (zq1 GE101) hb; replace HB := zA (zs.1); have BK103 := zA (hbox); have GW103 := zA (zge hg zs.2); have GE103 := GW103; have NB101_103 := zA ((zq12 BK101 : gb101 ≠ gb103)); replace BK101 := zbb BK101 hb; have NB103_101 := zA (Ne.symm NB101_103.out); clear zs hb hbox hg; have hnb9 := NB103_101.out; have hnc9 := NB101_103.out; obtain ⟨hcz10_0, hcz10_1, hcz10_2, hcz10_3, hcz10_4, hfz10_0, hfz10_1, hfz10_2, hfz10_3, hfz10_4⟩ := zd5 BK103))
   have n0_ : Aside0 ((((((w8.setCell ⟨gb103, 0, none⟩ (.string ((rd_T64 l1 x9_1).f0))).setCell ⟨gb103, 1, none⟩ (.int .i64 ((rd_T64 l1 x9_1).f1))).setCell ⟨gb103, 2, none⟩ (.int .i64 ((rd_T64 l1 x9_1).f2))).setCell ⟨gb103, 3, none⟩ (.int .i64 ((rd_T64 l1 x9_1).f3))).setCell ⟨gb103, 4, none⟩ (.int .i64 ((rd_T64 l1 x9_1).f4))).heap[gb101]? = some (.cells #[.slice A0_0 l0_0.length c0_0, .slice A0_1 l0_1.length c0_1] 35 (0, 0))) := ⟨zq11 NB101_103 BK101⟩
   have n1_ : Aside0 ((((((w8.setCell ⟨gb103, 0, none⟩ (.string ((rd_T64 l1 x9_1).f0))).setCell ⟨gb103, 1, none⟩ (.int .i64 ((rd_T64 l1 x9_1).f1))).setCell ⟨gb103, 2, none⟩ (.int .i64 ((rd_T64 l1 x9_1).f2))).setCell ⟨gb103, 3, none⟩ (.int .i64 ((rd_T64 l1 x9_1).f3))).setCell ⟨gb103, 4, none⟩ (.int .i64 ((rd_T64 l1 x9_1).f4))).heap[gb103]? = some (.cells #[.string ((rd_T64 l1 x9_1).f0), .int .i64 ((rd_T64 l1 x9_1).f1), .int .i64 ((rd_T64 l1 x9_1).f2), .int .i64 ((rd_T64 l1 x9_1).f3), .int .i64 ((rd_T64 l1 x9_1).f4)] 64 (0, 0))) := ⟨zq17 BK103⟩
   have n2_ : Aside0 (Below w.heap.size w (((((w8.setCell ⟨gb103, 0, none⟩ (.string ((rd_T64 l1 x9_1).f0))).setCell ⟨gb103, 1, none⟩ (.int .i64 ((rd_T64 l1 x9_1).f1))).setCell ⟨gb103, 2, none⟩ (.int .i64 ((rd_T64 l1 x9_1).f2))).setCell ⟨gb103, 3, none⟩ (.int .i64 ((rd_T64 l1 x9_1).f3))).setCell ⟨gb103, 4, none⟩ (.int .i64 ((rd_T64 l1 x9_1).f4)))) := ⟨zq4 GE101 GE103⟩
   (try clear BK101)
   (try clear BK103)
   (try clear HB)
   generalize (((((w8.setCell ⟨gb103, 0, none⟩ (.string ((rd_T64 l1 x9_1).f0))).setCell ⟨gb103, 1, none⟩ (.int .i64 ((rd_T64 l1 x9_1).f1))).setCell ⟨gb103, 2, none⟩ (.int .i64 ((rd_T64 l1 x9_1).f2))).setCell ⟨gb103, 3, none⟩ (.int .i64 ((rd_T64 l1 x9_1).f3))).setCell ⟨gb103, 4, none⟩ (.int .i64 ((rd_T64 l1 x9_1).f4))) = w11 at n0_ n1_ n2_ ⊢
   have BK101 := n0_
   have BK103 := n1_
   have HB := n2_
   clear n0_ n1_ n2_
   replace BK101 := zA (zkd BK101.out)
   replace BK103 := zA (zkd BK103.out)
   replace HB := zA (zbd HB.out)
   refine start_ (n := 10) (S := fun w' => True) (ds := []) #[false, false, false, false, false, false, false, false, false, false] zq22 rfl rfl trivial (fun hHeld => ?_); refine with_tabW impl_isProgram.tab4 impl_isProgram.bits4 (fun HT_ HW_ => ?_)
   generalize w11.drew = w12 at BK101 BK103 HB hHeld ⊢
   refine zpu 0 14 HT_ ?_
   refine zpu 1 15 HT_ ?_
   refine zpu 2 16 HT_ ?_
   refine pure_ (i := 3) (N := some 17) (v := undef) (a' := ?_) #[true, true, true, true, false, false, false, false, false, false] rfl rfl (any_of HT_.out zq22) (fun _ _ _ h => h) (Or.inr ⟨by rfl, rfl⟩) ?_ ?_
   rotate_left
   · simp only [Act.put, List.setIfInBounds_toArray, List.set_cons_zero, List.set_cons_succ, i64_w, i32_w]
     rfl
   refine pure_ (i := 4) (N := some 18) (v := undef) (a' := ?_) #[true, true, true, true, true, false, false, false, false, false] rfl rfl (any_of HT_.out zq22) (fun _ _ _ h => h) (Or.inr ⟨by rfl, rfl⟩) ?_ ?_
   rotate_left
   · simp only [Act.put, List.setIfInBounds_toArray, List.set_cons_zero, List.set_cons_succ, i64_w, i32_w]
     rfl
   refine pure_ (i := 5) (N := some 19) (v := undef) (a' := ?_) #[true, true, true, true, true, true, false, false, false, false] rfl rfl (any_of HT_.out zq22) (fun _ _ _ h => h) (Or.inr ⟨by rfl, rfl⟩) ?_ ?_
   rotate_left
   · simp only [Act.put, List.setIfInBounds_toArray, List.set_cons_zero, List.set_cons_succ, i64_w, i32_w]
     rfl
   refine pure_ (i := 6) (N := some 20) (v := undef) (a' := ?_) #[true, true, true, true, true, true, true, false, false, false] rfl rfl (any_of HT_.out zq22) (fun _ _ _ h => h) (Or.inr ⟨by rfl, rfl⟩) ?_ ?_
   rotate_left
   · simp only [Act.put, List.setIfInBounds_toArray, List.set_cons_zero, List.set_cons_succ, i64_w, i32_w]
     rfl
   refine pure_ (i := 7) (N := some 21) (v := undef) (a' := ?_) #[true, true, true, true, true, true, true, true, false, false] rfl rfl (any_of HT_.out zq22) (fun _ _ _ h => h) (Or.inr ⟨by rfl, rfl⟩) ?_ ?_
   rotate_left
   · simp only [Act.put, List.setIfInBounds_toArray, List.set_cons_zero, List.set_cons_succ, i64_w, i32_w]
     rfl
   refine pure_ (i := 8) (N := some 22) (v := undef) (a' := ?_) #[true, true, true, true, true, true, true, true, true, false] rfl rfl (any_of HT_.out zq22) (fun _ _ _ h => h) (Or.inr ⟨by rfl, rfl⟩) ?_ ?_
   rotate_left
   · simp only [Act.put, List.setIfInBounds_toArray, List.set_cons_zero, List.set_cons_succ, i64_w, i32_w]
     rfl
   refine zpu 9 23 HT_ ?_
   refine done_ (done_of HT_.out zq22) ?_
   try go_wp2
   go_ret
   exact ⟨zq5, zq4 GE101 GE103⟩
 rw [if_neg c7] at H
 have c7b0 := zdf c7
 clear c7
 replace H := zob H
 obtain ⟨t104, A130, H⟩ := H
 replace H : ((impl_Instr_106.f k1 t104 ((rd_T64 l1 x9_1).f0) ((rd_T64 l1 x9_1).f1) ((rd_T64 l1 x9_1).f2) ((rd_T64 l1 x9_1).f3) ((rd_T64 l1 x9_1).f4)).bind fun t107 => (if t107 = true then (impl_isProgram.l0 k1 l1 (l1.length : Int) (wrap64 (x9_1 + 1)) l0_0 l0_1) else (some false))) = some r := H
 have A13 := zA A130
 clear A130
 replace H := zob H
 obtain ⟨t107, A140, H⟩ := H
 replace H : (if t107 = true then (impl_isProgram.l0 k1 l1 (l1.length : Int) (wrap64 (x9_1 + 1)) l0_0 l0_1) else (some false)) = some r := H
 have A14 := zA A140
 clear A140
 by_cases c15 : t107 = true
 rotate_left
 · replace c15 := zbf c15
   subst c15
   replace H := zif H
   obtain rfl := zsi H
   obtain ⟨p102, q102⟩ := zpq x9_1 l1.length
   obtain ⟨ad102, e102, hx102_0, hx102_1, hx102_2, hx102_3, hx102_4⟩ := at_T64 HR1.out x9_1 (zoe p102) (zoe q102)
   cases e102
   replace hx102_0 := zkep HB.out hx102_0
   replace hx102_1 := zkep HB.out hx102_1
   replace hx102_2 := zkep HB.out hx102_2
   replace hx102_3 := zkep HB.out hx102_3
   replace hx102_4 := zkep HB.out hx102_4
   try go_wp2_with (first | ((with_reducible refine zgd 6 ?_); refine zbx #[.string (⟨#[]⟩ : ByteArray), .int .i64 0, .int .i64 0, .int .i64 0, .int .i64 0] 64 ?_; intro gb103 hg w24 hbox hb; have zs := zpair (zq1 GE101) hb; replace HB := zA (zs.1); have BK103 := zA (hbox); have GW103 := zA (zge hg zs.2); have GE103 := GW103; have NB101_103 := zA ((zq12 BK101 : gb101 ≠ gb103)); replace BK101 := zbb BK101 hb; have NB103_101 := zA (Ne.symm NB101_103.out); clear zs hb hbox hg; have hnb25 := NB103_101.out; have hnc25 := NB101_103.out; obtain ⟨hcz26_0, hcz26_1, hcz26_2, hcz26_3, hcz26_4, hfz26_0, hfz26_1, hfz26_2, hfz26_3, hfz26_4⟩ := zd5 BK103))
   have n0_ : Aside0 ((((((w24.setCell ⟨gb103, 0, none⟩ (.string ((rd_T64 l1 x9_1).f0))).setCell ⟨gb103, 1, none⟩ (.int .i64 ((rd_T64 l1 x9_1).f1))).setCell ⟨gb103, 2, none⟩ (.int .i64 ((rd_T64 l1 x9_1).f2))).setCell ⟨gb103, 3, none⟩ (.int .i64 ((rd_T64 l1 x9_1).f3))).setCell ⟨gb103, 4, none⟩ (.int .i64 ((rd_T64 l1 x9_1).f4))).heap[gb101]? = some (.cells #[.slice A0_0 l0_0.length c0_0, .slice A0_1 l0_1.length c0_1] 35 (0, 0))) := ⟨zq11 NB101_103 BK101⟩
   have n1_ : Aside0 ((((((w24.setCell ⟨gb103, 0, none⟩ (.string ((rd_T64 l1 x9_1).f0))).setCell ⟨gb103, 1, none⟩ (.int .i64 ((rd_T64 l1 x9_1).f1))).setCell ⟨gb103, 2, none⟩ (.int .i64 ((rd_T64 l1 x9_1).f2))).setCell ⟨gb103, 3, none⟩ (.int .i64 ((rd_T64 l1 x9_1).f3))).setCell ⟨gb103, 4, none⟩ (.int .i64 ((rd_T64 l1 x9_1).f4))).heap[gb103]? = some (.cells #[.string ((rd_T64 l1 x9_1).f0), .int .i64 ((rd_T64 l1 x9_1).f1), .int .i64 ((rd_T64 l1 x9_1).f2), .int .i64 ((rd_T64 l1 x9_1).f3), .int .i64 ((rd_T64 l1 x9_1).f4)] 64 (0, 0))) := ⟨zq17 BK103⟩
   have n2_ : Aside0 (Below w.heap.size w (((((w24.setCell ⟨gb103, 0, none⟩ (.string ((rd_T64 l1 x9_1).f0))).setCell ⟨gb103, 1, none⟩ (.int .i64 ((rd_T64 l1 x9_1).f1))).setCell ⟨gb103, 2, none⟩ (.int .i64 ((rd_T64 l1 x9_1).f2))).setCell ⟨gb103, 3, none⟩ (.int .i64 ((rd_T64 l1 x9_1).f3))).setCell ⟨gb103, 4, none⟩ (.int .i64 ((rd_T64 l1 x9_1).f4)))) := ⟨zq4 GE101 GE103⟩
   (try clear BK101)
   (try clear BK103)
   (try clear HB)
   generalize (((((w24.setCell ⟨gb103, 0, none⟩ (.string ((rd_T64 l1 x9_1).f0))).setCell ⟨gb103, 1, none⟩ (.int .i64 ((rd_T64 l1 x9_1).f1))).setCell ⟨gb103, 2, none⟩ (.int .i64 ((rd_T64 l1 x9_1).f2))).setCell ⟨gb103, 3, none⟩ (.int .i64 ((rd_T64 l1 x9_1).f3))).setCell ⟨gb103, 4, none⟩ (.int .i64 ((rd_T64 l1 x9_1).f4))) = w27 at n0_ n1_ n2_ ⊢
   have BK101 := n0_
   have BK103 := n1_
   have HB := n2_
   clear n0_ n1_ n2_
   replace BK101 := zA (zkd BK101.out)
   replace BK103 := zA (zkd BK103.out)
   replace HB := zA (zbd HB.out)
   refine start_ (n := 10) (S := fun w' => w'.cell? ⟨gb101, 0, none⟩ = some (.slice A0_0 l0_0.length c0_0) ∧ w'.cell? ⟨gb101, 1, none⟩ = some (.slice A0_1 l0_1.length c0_1) ∧ w'.cell? ⟨gb103, 0, none⟩ = some (.string ((rd_T64 l1 x9_1).f0)) ∧ w'.cell? ⟨gb103, 1, none⟩ = some (.int .i64 ((rd_T64 l1 x9_1).f1)) ∧ w'.cell? ⟨gb103, 2, none⟩ = some (.int .i64 ((rd_T64 l1 x9_1).f2)) ∧ w'.cell? ⟨gb103, 3, none⟩ = some (.int .i64 ((rd_T64 l1 x9_1).f3)) ∧ w'.cell? ⟨gb103, 4, none⟩ = some (.int .i64 ((rd_T64 l1 x9_1).f4))) (ds := []) #[false, false, false, false, false, false, false, false, false, false] zq22 rfl rfl ⟨(blk_cell BK101.out 0).trans rfl, (blk_cell BK101.out 1).trans rfl, (blk_cell BK103.out 0).trans rfl, (blk_cell BK103.out 1).trans rfl, (blk_cell BK103.out 2).trans rfl, (blk_cell BK103.out 3).trans rfl, (blk_cell BK103.out 4).trans rfl⟩ (fun hHeld => ?_); refine with_tabW impl_isProgram.tab4 impl_isProgram.bits4 (fun HT_ HW_ => ?_)
   generalize w27.drew = w28 at BK101 BK103 HB hHeld ⊢
   refine zpu 0 14 HT_ ?_
   refine zpu 1 15 HT_ ?_
   refine zpu 2 16 HT_ ?_
   refine zpu 4 18 HT_ ?_
   refine ztu 3 17 HT_ HW_ hHeld ?_
   refine ztu 6 20 HT_ HW_ hHeld ?_
   refine one_ (i := 5) (N := some 19) #[true, true, true, true, true, true, true, false, false, false] rfl rfl (one_of HT_.out zq22) (by decide) (fun K hK => ?_)
   refine goes_ Try.func53 zq22 rfl #[.agg #[.slice A0_0 l0_0.length c0_0, .slice A0_1 l0_1.length c0_1], .int .i64 x9_1] (by rfl) rfl rfl zq10 ?_
   with_reducible refine (impl_steps.calls k1 _ _ l0_0 (fun k_ => k_ < w.heap.size) _ _ l0_1 x9_1 t104 _ ?side1 ?side2 ?side3 A13.out).mono ?_
   (case side1 => repeat (first | exact (zCb HR0_0.out HB.out) | (with_reducible first | refine zCa ?_ _ | refine zCn ?_ _ | refine zCd ?_)))
   (case side2 => exact HC0_0.out)
   (case side3 => exact Kd.V_mk HC0_1.out (Kd.F_below (Kd.C_F (Kd.heap_int .i64) HR0_1.out) (zq4 GE101 GE103)))
   rintro e w29 ⟨v105, rfl, ho0, hb⟩
   refine ⟨_, rfl, ?_⟩
   have HO106 := zA (Kd.R_lower (Kd.R_newB (Kd.R_mono (ok' := fun k_ => True) ho0 (fun _ hk_ => trivial)) (g := gb103) (o := .cells #[.string ((rd_T64 l1 x9_1).f0), .int .i64 ((rd_T64 l1 x9_1).f1), .int .i64 ((rd_T64 l1 x9_1).f2), .int .i64 ((rd_T64 l1 x9_1).f3), .int .i64 ((rd_T64 l1 x9_1).f4)] 64 (0, 0)) (zq6 BK103)) (below_size (zq4 GE101 GE103)))
   replace BK101 := zA (blk_below (g := gb101) (o := .cells #[.slice A0_0 l0_0.length c0_0, .slice A0_1 l0_1.length c0_1] 35 (0, 0)) (zq6 BK101) hb)
   replace BK103 := zA (blk_below (g := gb103) (o := .cells #[.string ((rd_T64 l1 x9_1).f0), .int .i64 ((rd_T64 l1 x9_1).f1), .int .i64 ((rd_T64 l1 x9_1).f2), .int .i64 ((rd_T64 l1 x9_1).f3), .int .i64 ((rd_T64 l1 x9_1).f4)] 64 (0, 0)) (zq6 BK103) hb)
   replace HB := zA (below_step (zq4 GE101 GE103) hb)
   (try clear hb)
   (try clear hb2)
   (try clear hk)
   (try clear hi)
   (try clear ho0)
   obtain ⟨Ao30, co30, eo30⟩ := Kd.R_slice HO106.out
   (first | subst eo30 | (injection eo30 with f1_ f2_ f3_; have f4_ := f1_.symm; have f5_ := f3_.symm; clear f1_ f2_ f3_; subst f4_; subst f5_))
   refine hK.out _ _ ⟨(blk_cell BK101.out 0).trans rfl, (blk_cell BK101.out 1).trans rfl, (blk_cell BK103.out 0).trans rfl, (blk_cell BK103.out 1).trans rfl, (blk_cell BK103.out 2).trans rfl, (blk_cell BK103.out 3).trans rfl, (blk_cell BK103.out 4).trans rfl⟩ (fun hHeld => ?_)
   clear hK K
   refine znm 19 ?_
   refine one_ (i := 7) (N := some 21) #[true, true, true, true, true, true, true, true, false, false] rfl rfl (one_of HT_.out zq22) (by decide) (fun K hK => ?_)
   refine goes_ Try.func106 zq22 rfl #[.slice Ao30 t104.length co30, .agg #[.string ((rd_T64 l1 x9_1).f0), .int .i64 ((rd_T64 l1 x9_1).f1), .int .i64 ((rd_T64 l1 x9_1).f2), .int .i64 ((rd_T64 l1 x9_1).f3), .int .i64 ((rd_T64 l1 x9_1).f4)]] (by rfl) rfl rfl zq10 ?_
   with_reducible refine (impl_Instr_106.calls k1 _ _ t104 ((rd_T64 l1 x9_1).f0) ((rd_T64 l1 x9_1).f1) ((rd_T64 l1 x9_1).f2) ((rd_T64 l1 x9_1).f3) ((rd_T64 l1 x9_1).f4) false _ ?side1 ?side2 A14.out).mono ?_
   (case side1 => repeat (first | exact (zRr HO106.out).2.2 | (with_reducible first | refine zCa ?_ _ | refine zCn ?_ _ | refine zCd ?_)))
   (case side2 => exact (zRr HO106.out).2.1)
   rintro e w31 ⟨rfl, hb⟩
   refine ⟨_, rfl, ?_⟩
   replace HO106 := zA (zRb (zq3 HO106) hb)
   replace BK101 := zA (blk_below (g := gb101) (o := .cells #[.slice A0_0 l0_0.length c0_0, .slice A0_1 l0_1.length c0_1] 35 (0, 0)) (zq6 BK101) hb)
   replace BK103 := zA (blk_below (g := gb103) (o := .cells #[.string ((rd_T64 l1 x9_1).f0), .int .i64 ((rd_T64 l1 x9_1).f1), .int .i64 ((rd_T64 l1 x9_1).f2), .int .i64 ((rd_T64 l1 x9_1).f3), .int .i64 ((rd_T64 l1 x9_1).f4)] 64 (0, 0)) (zq6 BK103) hb)
   replace HB := zA (below_step (zq4 GE101 GE103) hb)
   (try clear hb)
   (try clear hb2)
   (try clear hk)
   (try clear hi)
   refine hK.out _ _ ⟨(blk_cell BK101.out 0).trans rfl, (blk_cell BK101.out 1).trans rfl, (blk_cell BK103.out 0).trans rfl, (blk_cell BK103.out 1).trans rfl, (blk_cell BK103.out 2).trans rfl, (blk_cell BK103.out 3).trans rfl, (blk_cell BK103.out 4).trans rfl⟩ (fun hHeld => ?_)
   clear hK K
   refine znm 21 ?_
   refine zpu 8 22 HT_ ?_
   refine zpu 9 23 HT_ ?_
   refine done_ (done_of HT_.out zq22) ?_
   try go_wp2
   go_ret
   exact ⟨zq5, zq4 GE101 GE103⟩
 subst c15
 replace H := zih H
 have H' := zA H
 clear H
 obtain ⟨p102, q102⟩ := zpq x9_1 l1.length
 obtain ⟨ad102, e102, hx102_0, hx102_1, hx102_2, hx102_3, hx102_4⟩ := at_T64 HR1.out x9_1 (zoe p102) (zoe q102)
 cases e102
 replace hx102_0 := zkep HB.out hx102_0
 replace hx102_1 := zkep HB.out hx102_1
 replace hx102_2 := zkep HB.out hx102_2
 replace hx102_3 := zkep HB.out hx102_3
 replace hx102_4 := zkep HB.out hx102_4
 try go_wp2_with (first | ((with_reducible refine zgd 6 ?_); refine zbx #[.string (⟨#[]⟩ : ByteArray), .int .i64 0, .int .i64 0, .int .i64 0, .int .i64 0] 64 ?_; intro gb103 hg w16 hbox hb; have zs := zpair (zq1 GE101) hb; replace HB := zA (zs.1); have BK103 := zA (hbox); have GW103 := zA (zge hg zs.2); have GE103 := GW103; have NB101_103 := zA ((zq12 BK101 : gb101 ≠ gb103)); replace BK101 := zbb BK101 hb; have NB103_101 := zA (Ne.symm NB101_103.out); clear zs hb hbox hg; have hnb17 := NB103_101.out; have hnc17 := NB101_103.out; obtain ⟨hcz18_0, hcz18_1, hcz18_2, hcz18_3, hcz18_4, hfz18_0, hfz18_1, hfz18_2, hfz18_3, hfz18_4⟩ := zd5 BK103))
 have n0_ : Aside0 ((((((w16.setCell ⟨gb103, 0, none⟩ (.string ((rd_T64 l1 x9_1).f0))).setCell ⟨gb103, 1, none⟩ (.int .i64 ((rd_T64 l1 x9_1).f1))).setCell ⟨gb103, 2, none⟩ (.int .i64 ((rd_T64 l1 x9_1).f2))).setCell ⟨gb103, 3, none⟩ (.int .i64 ((rd_T64 l1 x9_1).f3))).setCell ⟨gb103, 4, none⟩ (.int .i64 ((rd_T64 l1 x9_1).f4))).heap[gb101]? = some (.cells #[.slice A0_0 l0_0.length c0_0, .slice A0_1 l0_1.length c0_1] 35 (0, 0))) := ⟨zq11 NB101_103 BK101⟩
 have n1_ : Aside0 ((((((w16.setCell ⟨gb103, 0, none⟩ (.string ((rd_T64 l1 x9_1).f0))).setCell ⟨gb103, 1, none⟩ (.int .i64 ((rd_T64 l1 x9_1).f1))).setCell ⟨gb103, 2, none⟩ (.int .i64 ((rd_T64 l1 x9_1).f2))).setCell ⟨gb103, 3, none⟩ (.int .i64 ((rd_T64 l1 x9_1).f3))).setCell ⟨gb103, 4, none⟩ (.int .i64 ((rd_T64 l1 x9_1).f4))).heap[gb103]? = some (.cells #[.string ((rd_T64 l1 x9_1).f0), .int .i64 ((rd_T64 l1 x9_1).f1), .int .i64 ((rd_T64 l1 x9_1).f2), .int .i64 ((rd_T64 l1 x9_1).f3), .int .i64 ((rd_T64 l1 x9_1).f4)] 64 (0, 0))) := ⟨zq17 BK103⟩
 have n2_ : Aside0 (Below w.heap.size w (((((w16.setCell ⟨gb103, 0, none⟩ (.string ((rd_T64 l1 x9_1).f0))).setCell ⟨gb103, 1, none⟩ (.int .i64 ((rd_T64 l1 x9_1).f1))).setCell ⟨gb103, 2, none⟩ (.int .i64 ((rd_T64 l1 x9_1).f2))).setCell ⟨gb103, 3, none⟩ (.int .i64 ((rd_T64 l1 x9_1).f3))).setCell ⟨gb103, 4, none⟩ (.int .i64 ((rd_T64 l1 x9_1).f4)))) := ⟨zq4 GE101 GE103⟩
 (try clear BK101)
 (try clear BK103)
 (try clear HB)
 generalize (((((w16.setCell ⟨gb103, 0, none⟩ (.string ((rd_T64 l1 x9_1).f0))).setCell ⟨gb103, 1, none⟩ (.int .i64 ((rd_T64 l1 x9_1).f1))).setCell ⟨gb103, 2, none⟩ (.int .i64 ((rd_T64 l1 x9_1).f2))).setCell ⟨gb103, 3, none⟩ (.int .i64 ((rd_T64 l1 x9_1).f3))).setCell ⟨gb103, 4, none⟩ (.int .i64 ((rd_T64 l1 x9_1).f4))) = w19 at n0_ n1_ n2_ ⊢
 have BK101 := n0_
 have BK103 := n1_
 have HB := n2_
 clear n0_ n1_ n2_
 replace BK101 := zA (zkd BK101.out)
 replace BK103 := zA (zkd BK103.out)
 replace HB := zA (zbd HB.out)
 refine start_ (n := 10) (S := fun w' => w'.cell? ⟨gb101, 0, none⟩ = some (.slice A0_0 l0_0.length c0_0) ∧ w'.cell? ⟨gb101, 1, none⟩ = some (.slice A0_1 l0_1.length c0_1) ∧ w'.cell? ⟨gb103, 0, none⟩ = some (.string ((rd_T64 l1 x9_1).f0)) ∧ w'.cell? ⟨gb103, 1, none⟩ = some (.int .i64 ((rd_T64 l1 x9_1).f1)) ∧ w'.cell? ⟨gb103, 2, none⟩ = some (.int .i64 ((rd_T64 l1 x9_1).f2)) ∧ w'.cell? ⟨gb103, 3, none⟩ = some (.int .i64 ((rd_T64 l1 x9_1).f3)) ∧ w'.cell? ⟨gb103, 4, none⟩ = some (.int .i64 ((rd_T64 l1 x9_1).f4))) (ds := []) #[false, false, false, false, false, false, false, false, false, false] zq22 rfl rfl ⟨(blk_cell BK101.out 0).trans rfl, (blk_cell BK101.out 1).trans rfl, (blk_cell BK103.out 0).trans rfl, (blk_cell BK103.out 1).trans rfl, (blk_cell BK103.out 2).trans rfl, (blk_cell BK103.out 3).trans rfl, (blk_cell BK103.out 4).trans rfl⟩ (fun hHeld => ?_); refine with_tabW impl_isProgram.tab4 impl_isProgram.bits4 (fun HT_ HW_ => ?_)
 generalize w19.drew = w20 at BK101 BK103 HB hHeld ⊢
 refine zpu 0 14 HT_ ?_
 refine zpu 1 15 HT_ ?_
 refine zpu 2 16 HT_ ?_
 refine zpu 4 18 HT_ ?_
 refine ztu 3 17 HT_ HW_ hHeld ?_
 refine ztu 6 20 HT_ HW_ hHeld ?_
 refine one_ (i := 5) (N := some 19) #[true, true, true, true, true, true, true, false, false, false] rfl rfl (one_of HT_.out zq22) (by decide) (fun K hK => ?_)
 refine goes_ Try.func53 zq22 rfl #[.agg #[.slice A0_0 l0_0.length c0_0, .slice A0_1 l0_1.length c0_1], .int .i64 x9_1] (by rfl) rfl rfl zq10 ?_
 with_reducible refine (impl_steps.calls k1 _ _ l0_0 (fun k_ => k_ < w.heap.size) _ _ l0_1 x9_1 t104 _ ?side1 ?side2 ?side3 A13.out).mono ?_
 (case side1 => repeat (first | exact (zCb HR0_0.out HB.out) | (with_reducible first | refine zCa ?_ _ | refine zCn ?_ _ | refine zCd ?_)))
 (case side2 => exact HC0_0.out)
 (case side3 => exact Kd.V_mk HC0_1.out (Kd.F_below (Kd.C_F (Kd.heap_int .i64) HR0_1.out) (zq4 GE101 GE103)))
 rintro e w21 ⟨v105, rfl, ho0, hb⟩
 refine ⟨_, rfl, ?_⟩
 have HO106 := zA (Kd.R_lower (Kd.R_newB (Kd.R_mono (ok' := fun k_ => True) ho0 (fun _ hk_ => trivial)) (g := gb103) (o := .cells #[.string ((rd_T64 l1 x9_1).f0), .int .i64 ((rd_T64 l1 x9_1).f1), .int .i64 ((rd_T64 l1 x9_1).f2), .int .i64 ((rd_T64 l1 x9_1).f3), .int .i64 ((rd_T64 l1 x9_1).f4)] 64 (0, 0)) (zq6 BK103)) (below_size (zq4 GE101 GE103)))
 replace BK101 := zA (blk_below (g := gb101) (o := .cells #[.slice A0_0 l0_0.length c0_0, .slice A0_1 l0_1.length c0_1] 35 (0, 0)) (zq6 BK101) hb)
 replace BK103 := zA (blk_below (g := gb103) (o := .cells #[.string ((rd_T64 l1 x9_1).f0), .int .i64 ((rd_T64 l1 x9_1).f1), .int .i64 ((rd_T64 l1 x9_1).f2), .int .i64 ((rd_T64 l1 x9_1).f3), .int .i64 ((rd_T64 l1 x9_1).f4)] 64 (0, 0)) (zq6 BK103) hb)
 replace HB := zA (below_step (zq4 GE101 GE103) hb)
 (try clear hb)
 (try clear hb2)
 (try clear hk)
 (try clear hi)
 (try clear ho0)
 obtain ⟨Ao22, co22, eo22⟩ := Kd.R_slice HO106.out
 (first | subst eo22 | (injection eo22 with f1_ f2_ f3_; have f4_ := f1_.symm; have f5_ := f3_.symm; clear f1_ f2_ f3_; subst f4_; subst f5_))
 refine hK.out _ _ ⟨(blk_cell BK101.out 0).trans rfl, (blk_cell BK101.out 1).trans rfl, (blk_cell BK103.out 0).trans rfl, (blk_cell BK103.out 1).trans rfl, (blk_cell BK103.out 2).trans rfl, (blk_cell BK103.out 3).trans rfl, (blk_cell BK103.out 4).trans rfl⟩ (fun hHeld => ?_)
 clear hK K
 refine znm 19 ?_
 refine one_ (i := 7) (N := some 21) #[true, true, true, true, true, true, true, true, false, false] rfl rfl (one_of HT_.out zq22) (by decide) (fun K hK => ?_)
 refine goes_ Try.func106 zq22 rfl #[.slice Ao22 t104.length co22, .agg #[.string ((rd_T64 l1 x9_1).f0), .int .i64 ((rd_T64 l1 x9_1).f1), .int .i64 ((rd_T64 l1 x9_1).f2), .int .i64 ((rd_T64 l1 x9_1).f3), .int .i64 ((rd_T64 l1 x9_1).f4)]] (by rfl) rfl rfl zq10 ?_
 with_reducible refine (impl_Instr_106.calls k1 _ _ t104 ((rd_T64 l1 x9_1).f0) ((rd_T64 l1 x9_1).f1) ((rd_T64 l1 x9_1).f2) ((rd_T64 l1 x9_1).f3) ((rd_T64 l1 x9_1).f4) true _ ?side1 ?side2 A14.out).mono ?_
 (case side1 => repeat (first | exact (zRr HO106.out).2.2 | (with_reducible first | refine zCa ?_ _ | refine zCn ?_ _ | refine zCd ?_)))
 (case side2 => exact (zRr HO106.out).2.1)
 rintro e w23 ⟨rfl, hb⟩
 refine ⟨_, rfl, ?_⟩
 replace HO106 := zA (zRb (zq3 HO106) hb)
 replace BK101 := zA (blk_below (g := gb101) (o := .cells #[.slice A0_0 l0_0.length c0_0, .slice A0_1 l0_1.length c0_1] 35 (0, 0)) (zq6 BK101) hb)
 replace BK103 := zA (blk_below (g := gb103) (o := .cells #[.string ((rd_T64 l1 x9_1).f0), .int .i64 ((rd_T64 l1 x9_1).f1), .int .i64 ((rd_T64 l1 x9_1).f2), .int .i64 ((rd_T64 l1 x9_1).f3), .int .i64 ((rd_T64 l1 x9_1).f4)] 64 (0, 0)) (zq6 BK103) hb)
 replace HB := zA (below_step (zq4 GE101 GE103) hb)
 (try clear hb)
 (try clear hb2)
 (try clear hk)
 (try clear hi)
 refine hK.out _ _ ⟨(blk_cell BK101.out 0).trans rfl, (blk_cell BK101.out 1).trans rfl, (blk_cell BK103.out 0).trans rfl, (blk_cell BK103.out 1).trans rfl, (blk_cell BK103.out 2).trans rfl, (blk_cell BK103.out 3).trans rfl, (blk_cell BK103.out 4).trans rfl⟩ (fun hHeld => ?_)
 clear hK K
 refine znm 21 ?_
 refine zpu 8 22 HT_ ?_
 refine zpu 9 23 HT_ ?_
 refine done_ (done_of HT_.out zq22) ?_
 try go_wp2
 go_roundg k1
 case measure => have := HK1.out; omega
 case rel => exact ⟨(wrap64 (x9_1 + 1)), zq7, H', ⟨zq37 HK1⟩, ⟨zq6 BK101⟩, ⟨zq4 GE101 GE103⟩⟩
def impl_areProgram.f (k : Nat) (l0_0 : List ByteArray) (l0_1 : List Int) (l1 : List (S64)) : Option (Bool) := (impl_IsChoice.f k l0_0 l0_1).bind fun t102 => (if t102 = true then ((impl_isProgram.f k l0_0 l0_1 l1).bind fun t103 => (some t103)) else (some false))
theorem impl_areProgram.mono : ∀ a0 a1 a2 k, LeO (impl_areProgram.f k a0 a1 a2) (impl_areProgram.f (k + 1) a0 a1 a2) := by
 intro a0 a1 a2 k
 unfold impl_areProgram.f
 exact zm2 impl_IsChoice.mono impl_isProgram.mono
theorem impl_areProgram.calls (k : Nat) (A0_0 : Option Addr) (c0_0 : Nat) (l0_0 : List ByteArray) (A0_1 : Option Addr) (c0_1 : Nat) (l0_1 : List Int) (A1 : Option Addr) (c1 : Nat) (l1 : List (S64)) (r : Bool) (w : World) (hr0_0 : Kd.C Kd.string w A0_0 l0_0.length l0_0) (hc0_0 : l0_0.length ≤ c0_0) (hr0_1 : Kd.C (Kd.int .i64) w A0_1 l0_1.length l0_1) (hc0_1 : l0_1.length ≤ c0_1) (hr1 : Kd.C k64 w A1 l1.length l1) (hc1 : l1.length ≤ c1) (h : impl_areProgram.f k l0_0 l0_1 l1 = some r) :
   Calls Try.prog 34 #[.agg #[.slice A0_0 l0_0.length c0_0, .slice A0_1 l0_1.length c0_1], .slice A1 l1.length c1] w fun e w' => e = .returned (.bool r) ∧ Below w.heap.size w w' := by
 have hu35 := Try.underlying35
 have HR0_0 := zA hr0_0
 have HC0_0 := zA hc0_0
 clear hr0_0 hc0_0
 have HR0_1 := zA hr0_1
 have HC0_1 := zA hc0_1
 clear hr0_1 hc0_1
 have HR1 := zA hr1
 have HC1 := zA hc1
 clear hr1 hc1
 have HB := zA (Below.refl w.heap.size w)
 have H : ((impl_IsChoice.f k l0_0 l0_1).bind fun t102 => (if t102 = true then ((impl_isProgram.f k l0_0 l0_1 l1).bind fun t103 => (some t103)) else (some false))) = some r := h
 clear h
 replace H := zob H
 obtain ⟨t102, A30, H⟩ := H
 replace H : (if t102 = true then ((impl_isProgram.f k l0_0 l0_1 l1).bind fun t103 => (some t103)) else (some false)) = some r := H
 have A3 := zA A30
 clear A30
 by_cases c4 : t102 = true
 rotate_left
 · replace c4 := zbf c4
   subst c4
   replace H := zif H
   obtain rfl := zsi H
   go_enter Try.func34, Try.ntmps34
   go_wp2_with (first | ((with_reducible refine zgd 2 ?_); refine zbh zq2 #[.slice A0_0 l0_0.length c0_0, .slice A0_1 l0_1.length c0_1] 35 ?_; clear HB; intro gb101 w11 HB BK101 GW101; have GE101 := GW101; obtain ⟨hcz12_0, hcz12_1, hfz12_0, hfz12_1⟩ := zd2 BK101) | ((with_reducible refine zgc 50 ?_); refine zca 6 Try.func50 #[.agg #[.slice A0_0 l0_0.length c0_0, .slice A0_1 l0_1.length c0_1]] (impl_IsChoice.calls k _ _ l0_0 _ _ l0_1 false _ (zq9 HR0_0) HC0_0.out (zq9 HR0_1) HC0_1.out A3.out) ?_; rintro e w13 ⟨rfl, hb⟩; refine ⟨_, rfl, ?_⟩; replace BK101 := zbb BK101 hb; replace HB := zA (below_step (zq1 GE101) hb); (try clear hb)))
   go_ret
   exact ⟨zq5, zq1 GE101⟩
 subst c4
 replace H := zih H
 replace H := zob H
 obtain ⟨t103, A50, H⟩ := H
 replace H : (some t103) = some r := H
 have A5 := zA A50
 clear A50
 obtain rfl := zsi H
 go_enter Try.func34, Try.ntmps34
 go_wp2_with (first | ((with_reducible refine zgd 2 ?_); refine zbh zq2 #[.slice A0_0 l0_0.length c0_0, .slice A0_1 l0_1.length c0_1] 35 ?_; clear HB; intro gb101 w6 HB BK101 GW101; have GE101 := GW101; obtain ⟨hcz7_0, hcz7_1, hfz7_0, hfz7_1⟩ := zd2 BK101) | ((with_reducible refine zgc 50 ?_); refine zca 6 Try.func50 #[.agg #[.slice A0_0 l0_0.length c0_0, .slice A0_1 l0_1.length c0_1]] (impl_IsChoice.calls k _ _ l0_0 _ _ l0_1 true _ (zq9 HR0_0) HC0_0.out (zq9 HR0_1) HC0_1.out A3.out) ?_; rintro e w8 ⟨rfl, hb⟩; refine ⟨_, rfl, ?_⟩; replace BK101 := zbb BK101 hb; replace HB := zA (below_step (zq1 GE101) hb); (try clear hb); obtain ⟨hcz9_0, hcz9_1⟩ := zc2 w8 (.slice A0_0 l0_0.length c0_0) (.slice A0_1 l0_1.length c0_1) BK101.out; obtain ⟨hfz9_0, hfz9_1⟩ := zf2 BK101.out) | (go_at_call 74; (with_reducible refine (impl_isProgram.calls k _ _ l0_0 _ _ l0_1 _ _ l1 t103 _ ?side1 ?side2 ?side3 ?side4 ?side5 ?side6 A5.out).mono ?_); (case side1 => repeat (first | exact (zCb HR0_0.out HB.out) | (with_reducible first | refine zCa ?_ _ | refine zCn ?_ _ | refine zCd ?_))); (case side2 => exact HC0_0.out); (case side3 => repeat (first | exact (zCb HR0_1.out HB.out) | (with_reducible first | refine zCa ?_ _ | refine zCn ?_ _ | refine zCd ?_))); (case side4 => exact HC0_1.out); (case side5 => repeat (first | exact (zCb HR1.out HB.out) | (with_reducible first | refine zCa ?_ _ | refine zCn ?_ _ | refine zCd ?_))); (case side6 => exact HC1.out); rintro e w10 ⟨rfl, hb⟩; replace BK101 := zbb BK101 hb; replace HB := zA (below_step (zq1 GE101) hb); (try clear hb)))
 go_ret
 exact ⟨zq5, zq1 GE101⟩
def impl_columnOf.l0 : Nat → List Int → List Int → Int → Int → Option (List Int)
 | 0, _, _, _, _ => none
 | k + 1, x3, x9, x10, x11 => if x11 < x10 then (if 0 ≤ x11 then (if x11 < (x9.length : Int) then (if x11 < (x3.length : Int) then (impl_columnOf.l0 k (x3.set (x11 : Int).toNat ((rd x9 x11) % 256)) x9 x10 (wrap64 (x11 + 1))) else (none)) else (none)) else (none)) else (some x3)
def impl_columnOf.f (k : Nat) (l0 : List Int) : Option (List Int) := if 0 ≤ (l0.length : Int) then (if ((l0.length : Int) : Int).toNat ≤ 281474976710656 then (impl_columnOf.l0 k (List.replicate ((l0.length : Int) : Int).toNat 0) l0 (l0.length : Int) 0) else (none)) else (none)
theorem impl_columnOf.mono_l : ∀ k, (∀ y0 y1 y2 y3, LeO (impl_columnOf.l0 k y0 y1 y2 y3) (impl_columnOf.l0 (k + 1) y0 y1 y2 y3))
 | 0 => fun _ _ _ _ r h => by simp [impl_columnOf.l0] at h
 | k + 1 => by
   have ih0 := impl_columnOf.mono_l k
   · intro y0 y1 y2 y3
     unfold impl_columnOf.l0
     exact zm1 ih0
theorem impl_columnOf.mono : ∀ a0 k, LeO (impl_columnOf.f k a0) (impl_columnOf.f (k + 1) a0) := by
 intro a0 k
 have ih0 := impl_columnOf.mono_l k
 unfold impl_columnOf.f
 exact zm1 ih0
theorem impl_columnOf.calls (k : Nat) (A0 : Option Addr) (c0 : Nat) (l0 : List Int) (r : List Int) (w : World) (hr0 : Kd.C (Kd.int .i64) w A0 l0.length l0) (hc0 : l0.length ≤ c0) (h : impl_columnOf.f k l0 = some r) :
   Calls Try.prog 37 #[.slice A0 l0.length c0] w fun e w' => ∃ v0_ : Value, e = .returned (v0_) ∧ Kd.R (Kd.int .u8) 5 w' w.heap.size (fun _ => True) v0_ r ∧ Below w.heap.size w w' := by
 have HR0 := zA hr0
 have HC0 := zA hc0
 clear hr0 hc0
 have HB := zA (Below.refl w.heap.size w)
 have H : (if 0 ≤ (l0.length : Int) then (if ((l0.length : Int) : Int).toNat ≤ 281474976710656 then (impl_columnOf.l0 k (List.replicate ((l0.length : Int) : Int).toNat 0) l0 (l0.length : Int) 0) else (none)) else (none)) = some r := h
 clear h
 by_cases c2 : 0 ≤ (l0.length : Int)
 rotate_left
 · rw [if_neg c2] at H
   exact absurd H (by simp)
 rw [if_pos c2] at H
 have c2b0 := eq_true c2
 have c2b1 := zdt c2
 clear c2
 by_cases c3 : ((l0.length : Int) : Int).toNat ≤ 281474976710656
 rotate_left
 · rw [if_neg c3] at H
   exact absurd H (by simp)
 rw [if_pos c3] at H
 have c3b0 := eq_true c3
 have c3b1 := zdt c3
 clear c3
 obtain ⟨y101, hy101⟩ : ∃ y_ : List Int, y_ = (List.replicate ((l0.length : Int) : Int).toNat 0) := ⟨_, rfl⟩
 replace H : (impl_columnOf.l0 k y101 l0 (l0.length : Int) 0) = some r := by first | (rw [hy101]; with_reducible exact H) | (have H2_ := (Option.bind_some _ _).symm.trans H; rw [hy101]; with_reducible exact H2_) | (have H2_ := (Option.bind_some _ _).symm.trans H; with_reducible exact H2_) | with_reducible exact H | (rw [hy101]; exact H) | exact H
 have Ny101 := zA hy101
 clear hy101
 have H' := zA H
 clear H
 go_enter Try.func37, Try.ntmps37
 go_wp2_with (first | ((with_reducible refine zgd 8 ?_); refine Kd.R_make (Kd.int .u8) _ 5 rfl (N := 8) rfl 68 _ _ rfl (l0.length : Int) rfl rfl Try.underlying68 (.int .u8 0) 1 info5 rfl (by decide) (by omega) 0 (ok := fun _ => True) (okp := fun _ => True) rfl (fun _ hk => hk) trivial (zde zq16) (Nat.le_trans (Nat.mul_le_mul_right _ (zde zq16 : (l0.length : Int).toNat ≤ 281474976710656)) (by omega)) (Below.refl _ _) (zlr _) ?_; intro v102 w4 ho5 hb hg_ hnew_; clear hg_ hnew_; (first | rw [← Ny101.out] at ho5 | (simp only [Int.reduceToNat] at ho5; rw [← Ny101.out] at ho5)); have HO103 := zA (Kd.R_lower ho5 (below_size zq2)); replace HB := zA (below_step zq2 hb); clear hb ho5))
 go_loopg [11] k (fun kq v11 w' => ∃ (x3_1 : List Int) (x11_1 : Int), v11 = .int .i64 x11_1 ∧ Aside0 (impl_columnOf.l0 kq x3_1 l0 (l0.length : Int) x11_1 = some r) ∧ Aside0 (kq ≤ k) ∧ Aside0 (Kd.R (Kd.int .u8) 5 w' w.heap.size (fun _ => True) v102 x3_1) ∧ Aside0 (Below w.heap.size w w'))
 case atStart => exact ⟨(y101), (0), zq7, H', ⟨zlr _⟩, ⟨zq3 HO103⟩, ⟨zq2⟩⟩
 clear H'
 try clear c2
 try clear c2b0
 try clear c2b1
 try clear c3
 try clear c3b0
 try clear c3b1
 obtain ⟨x3_1, x11_1, rfl, HA, HK1, HO_3, HB⟩ := hrel
 cases gk with
 | zero => exact absurd HA.out (by simp [impl_columnOf.l0])
 | succ k1 =>
 have H := HA.out
 clear HA
 simp only [impl_columnOf.l0] at H
 revert H
 refine zit (fun c6 H => ?_) fun c6 H => ?_
 rotate_left
 · obtain rfl := zsi H
   go_wp2
   go_ret
   exact ⟨_, zq5, zq3 HO_3, zq2⟩
 revert H
 refine zin fun c7 H => ?_
 revert H
 refine zin fun c8 H => ?_
 revert H
 refine zin fun c9 H => ?_
 obtain ⟨y105, hy105⟩ : ∃ y_ : List Int, y_ = (x3_1.set (x11_1 : Int).toNat ((rd l0 x11_1) % 256)) := ⟨_, rfl⟩
 replace H : (impl_columnOf.l0 k1 y105 l0 (l0.length : Int) (wrap64 (x11_1 + 1))) = some r := by first | (rw [hy105]; with_reducible exact H) | (have H2_ := (Option.bind_some _ _).symm.trans H; rw [hy105]; with_reducible exact H2_) | (have H2_ := (Option.bind_some _ _).symm.trans H; with_reducible exact H2_) | with_reducible exact H | (rw [hy105]; exact H) | exact H
 have Ny105 := zA hy105
 clear hy105
 have H' := zA H
 clear H
 obtain ⟨p104, q104⟩ := zpq x11_1 l0.length
 obtain ⟨ad104, e104, hx104_0⟩ := Kd.at_int HR0.out x11_1 (zoe p104) (zoe q104)
 cases e104
 replace hx104_0 := zkep HB.out hx104_0
 have p10 : 0 ≤ (x11_1 : Int) := zde zq16
 have q10 : (x11_1 : Int) < ((x3_1.length : Int) : Int) := zde zq16
 obtain ⟨go10, co10, eo10, gb10, gl10, cl10, HG10⟩ := Kd.R_form HO_3.out (by omega)
 (first | cases eo10 | (injection eo10 with ea_ en_ ec_; (first | subst ea_ | (injection ea_ with ea_; subst ea_)); subst ec_; clear en_))
 have GB10 := zA gb10
 have GG10 := zA HG10
 clear gb10 gl10 HG10
 obtain ⟨hx10_0, hf10_0⟩ := Kd.R_celln 0 HO_3.out (x11_1 : Int) p10 q10
 replace p10 := eq_true p10
 replace q10 := eq_true q10
 have HP11 := Kd.R_putg HO_3.out (x11_1 : Int) ((rd l0 x11_1) % 256)
 go_wp2_with (first | ((with_reducible refine zgs 5 20 ?_); refine zse (wr.setCell ⟨go10, (x11_1 : Int).toNat, none⟩ (.int .u8 ((rd l0 x11_1) % 256))) ?_; intro w12 hw; have hg : wr.grownBy w12 (some go10) := (by rw [hw]; exact HP11.2); have hp_ : Kd.R (Kd.int .u8) 5 w12 w.heap.size (fun _ => True) (.slice (some ⟨go10, 0, none⟩) x3_1.length co10) y105 := (by rw [hw, Ny105.out]; exact HP11.1); clear HP11; replace HO_3 := zA (hp_); replace HB := zA ((zq54 GB10 : Below w.heap.size w w12)); clear hg hw hp_))
 go_roundg k1
 case measure => have := HK1.out; omega
 case rel => exact ⟨(y105), (wrap64 (x11_1 + 1)), zq7, H', ⟨zq37 HK1⟩, ⟨zq3 HO_3⟩, ⟨zq2⟩⟩
def impl_column_uint8.l0 : Nat → List Int → List Int → Int → Int → Option (Bool)
 | 0, _, _, _, _ => none
 | k + 1, x0, x1, x12, x13 => if x13 < x12 then (if 0 ≤ x13 then (if x13 < (x0.length : Int) then (if x13 < (x1.length : Int) then (if (rd x0 x13) = (rd x1 x13) then (impl_column_uint8.l0 k x0 x1 x12 (wrap64 (x13 + 1))) else (some false)) else (none)) else (none)) else (none)) else (some true)
def impl_column_uint8.f (k : Nat) (l0 : List Int) (l1 : List Int) : Option (Bool) := if (l0.length : Int) = (l1.length : Int) then (impl_column_uint8.l0 k l0 l1 (l0.length : Int) 0) else (some false)
theorem impl_column_uint8.mono_l : ∀ k, (∀ y0 y1 y2 y3, LeO (impl_column_uint8.l0 k y0 y1 y2 y3) (impl_column_uint8.l0 (k + 1) y0 y1 y2 y3))
 | 0 => fun _ _ _ _ r h => by simp [impl_column_uint8.l0] at h
 | k + 1 => by
   have ih0 := impl_column_uint8.mono_l k
   · intro y0 y1 y2 y3
     unfold impl_column_uint8.l0
     exact zm1 ih0
theorem impl_column_uint8.mono : ∀ a0 a1 k, LeO (impl_column_uint8.f k a0 a1) (impl_column_uint8.f (k + 1) a0 a1) := by
 intro a0 a1 k
 have ih0 := impl_column_uint8.mono_l k
 unfold impl_column_uint8.f
 exact zm1 ih0
theorem impl_column_uint8.calls (k : Nat) (A0 : Option Addr) (c0 : Nat) (l0 : List Int) (A1 : Option Addr) (c1 : Nat) (l1 : List Int) (r : Bool) (w : World) (hr0 : Kd.C (Kd.int .u8) w A0 l0.length l0) (hc0 : l0.length ≤ c0) (hr1 : Kd.C (Kd.int .u8) w A1 l1.length l1) (hc1 : l1.length ≤ c1) (h : impl_column_uint8.f k l0 l1 = some r) :
   Calls Try.prog 35 #[.slice A0 l0.length c0, .slice A1 l1.length c1] w fun e w' => e = .returned (.bool r) ∧ Drawn0 w w' := by
 have HR0 := zA hr0
 have HC0 := zA hc0
 clear hr0 hc0
 have HR1 := zA hr1
 have HC1 := zA hc1
 clear hr1 hc1
 have H : (if (l0.length : Int) = (l1.length : Int) then (impl_column_uint8.l0 k l0 l1 (l0.length : Int) 0) else (some false)) = some r := h
 clear h
 by_cases c3 : (l0.length : Int) = (l1.length : Int)
 rotate_left
 · rw [if_neg c3] at H
   obtain ⟨c3b0, c3b1⟩ := zbq c3
   have c3b2 : (l0.length == l1.length) = false := by first | simpa using c3 | (simp at c3 ⊢; omega)
   obtain rfl := zsi H
   go_enter Try.func35, Try.ntmps35
   go_wp2
   repeat (go_quiet (fail); try go_wp2)
   exact zr_5
 rw [if_pos c3] at H
 obtain ⟨c3b0, c3b1⟩ := zbe c3
 have c3b2 : (l0.length == l1.length) = true := by first | simpa using c3 | (simp at c3 ⊢; omega)
 clear c3
 have H' := zA H
 clear H
 go_enter Try.func35, Try.ntmps35
 go_wp2
 repeat (go_quiet (fail); try go_wp2)
 go_loopg [13] k (fun kq v13 w' => ∃ (x13_1 : Int), v13 = .int .i64 x13_1 ∧ Aside0 (impl_column_uint8.l0 kq l0 l1 (l0.length : Int) x13_1 = some r) ∧ Aside0 (kq ≤ k) ∧ Drawn0 w w')
 case atStart => exact ⟨(0), zq7, H', ⟨zlr _⟩, zq8⟩
 clear H'
 try clear c1
 try clear c3
 try clear c3b0
 try clear c3b1
 try clear c3b2
 obtain ⟨x13_1, rfl, HA, HK1, ⟨m1, rfl⟩⟩ := hrel
 cases gk with
 | zero => exact absurd HA.out (by simp [impl_column_uint8.l0])
 | succ k1 =>
 have H := HA.out
 clear HA
 simp only [impl_column_uint8.l0] at H
 revert H
 refine zit (fun c4 H => ?_) fun c4 H => ?_
 rotate_left
 · obtain rfl := zsi H
   go_wp2
   repeat (go_quiet (fail); try go_wp2)
   exact zr_5
 revert H
 refine zin fun c5 H => ?_
 revert H
 refine zin fun c6 H => ?_
 revert H
 refine zin fun c7 H => ?_
 by_cases c8 : (rd l0 x13_1) = (rd l1 x13_1)
 rotate_left
 · rw [if_neg c8] at H
   obtain ⟨c8b0, c8b1⟩ := zbq c8
   obtain rfl := zsi H
   obtain ⟨p101, q101⟩ := zpq x13_1 l0.length
   obtain ⟨ad101, e101, hx101_0⟩ := Kd.at_int HR0.out x13_1 (zoe p101) (zoe q101)
   cases e101
   obtain ⟨p102, q102⟩ := zpq x13_1 l1.length
   obtain ⟨ad102, e102, hx102_0⟩ := Kd.at_int HR1.out x13_1 (zoe p102) (zoe q102)
   cases e102
   go_wp2
   repeat (go_quiet (fail); try go_wp2)
   exact zr_5
 rw [if_pos c8] at H
 obtain ⟨c8b0, c8b1⟩ := zbe c8
 clear c8
 have H' := zA H
 clear H
 obtain ⟨p101, q101⟩ := zpq x13_1 l0.length
 obtain ⟨ad101, e101, hx101_0⟩ := Kd.at_int HR0.out x13_1 (zoe p101) (zoe q101)
 cases e101
 obtain ⟨p102, q102⟩ := zpq x13_1 l1.length
 obtain ⟨ad102, e102, hx102_0⟩ := Kd.at_int HR1.out x13_1 (zoe p102) (zoe q102)
 cases e102
 go_wp2
 repeat (go_quiet (fail); try go_wp2)
 go_roundg k1
 case measure => have := HK1.out; omega
 case rel => exact ⟨(wrap64 (x13_1 + 1)), zq7, H', ⟨zq37 HK1⟩, zq8⟩
def impl_begun_1.f (a0 : Int) (a1 : Int) : Option (Int) := some a0
theorem impl_begun_1.calls (a0 : Int) (a1 : Int) (r : Int) (w : World) (h : impl_begun_1.f a0 a1 = some r) :
   Calls Try.prog 92 #[.int .i64 a0, .int .i64 a1] w fun e w' => e = .returned (.int .i64 r) ∧ Drawn0 w w' := by
 have H : (some a0) = some r := h
 clear h
 obtain rfl := zsi H
 go_enter Try.func92, Try.ntmps92
 exact zr_1
end Go.Proofs.Ytnaafcleafbejaa.Q
end
section
namespace Go.Proofs.Ytnaafcleafbejaa.Q
open Go.RowKit Go.Proofs.YtnaafcleafbejaaW.PrintWords Go.Proofs.YtnaafcleafbejaaW.PrintLast Go.Proofs.YtnaafcleafbejaaW.PrintMore
set_option maxHeartbeats 8000000
set_option maxRecDepth 100000
attribute [local go_sem] max2_int min2_int max_two min_two max_three min_three max_four min_four
set_option linter.unusedVariables false
set_option linter.unusedSimpArgs false
mutual
def impl_table_impl_begun_1.l0 : Nat → List Int → Int → Option (List Int)
 | 0, _, _ => none
 | k + 1, x3, x7 => if x7 < 64 then (impl_table_impl_begun_1.l1 k x3 x7 x7 0) else (some x3)
def impl_table_impl_begun_1.l1 : Nat → List Int → Int → Int → Int → Option (List Int)
 | 0, _, _, _, _ => none
 | k + 1, x3, x4, x7, x10 => if x10 < 64 then ((impl_begun_1.f x4 x10).bind fun t104 => (if x3.length < 17592186044416 then (impl_table_impl_begun_1.l1 k (x3 ++ [t104]) x4 x7 (wrap64 (x10 + 1))) else (none))) else (impl_table_impl_begun_1.l0 k x3 (wrap64 (x7 + 1)))
end
def impl_table_impl_begun_1.f (k : Nat)  : Option (List Int) := impl_table_impl_begun_1.l0 k (([] : List Int)) 0
theorem impl_table_impl_begun_1.mono_l : ∀ k, (∀ y0 y1, LeO (impl_table_impl_begun_1.l0 k y0 y1) (impl_table_impl_begun_1.l0 (k + 1) y0 y1)) ∧ (∀ y0 y1 y2 y3, LeO (impl_table_impl_begun_1.l1 k y0 y1 y2 y3) (impl_table_impl_begun_1.l1 (k + 1) y0 y1 y2 y3))
 | 0 => ⟨fun _ _ r h => by simp [impl_table_impl_begun_1.l0] at h, fun _ _ _ _ r h => by simp [impl_table_impl_begun_1.l1] at h⟩
 | k + 1 => by
   obtain ⟨ih0, ih1⟩ := impl_table_impl_begun_1.mono_l k
   refine ⟨?_, ?_⟩
   · intro y0 y1
     unfold impl_table_impl_begun_1.l0
     exact zm2 ih0 ih1
   · intro y0 y1 y2 y3
     unfold impl_table_impl_begun_1.l1
     exact zm2 ih0 ih1
theorem impl_table_impl_begun_1.mono : ∀ k, LeO (impl_table_impl_begun_1.f k ) (impl_table_impl_begun_1.f (k + 1) ) := by
 intro  k
 obtain ⟨ih0, ih1⟩ := impl_table_impl_begun_1.mono_l k
 unfold impl_table_impl_begun_1.f
 exact zm2 ih0 ih1
theorem impl_table_impl_begun_1.calls (k : Nat)  (r : List Int) (w : World) (h : impl_table_impl_begun_1.f k  = some r) :
   Calls Try.prog 76 #[.func (Fn.func 92) #[] #[]] w fun e w' => ∃ v0_ : Value, e = .returned (v0_) ∧ Kd.R (Kd.int .i64) 3 w' w.heap.size (fun _ => True) v0_ r ∧ Below w.heap.size w w' := by
 have HB := zA (Below.refl w.heap.size w)
 have H : (impl_table_impl_begun_1.l0 k (([] : List Int)) 0) = some r := h
 clear h
 obtain ⟨y101, hy101⟩ : ∃ y_ : List Int, y_ = (([] : List Int)) := ⟨_, rfl⟩
 replace H : (impl_table_impl_begun_1.l0 k y101 0) = some r := by first | (rw [hy101]; with_reducible exact H) | (have H2_ := (Option.bind_some _ _).symm.trans H; rw [hy101]; with_reducible exact H2_) | (have H2_ := (Option.bind_some _ _).symm.trans H; with_reducible exact H2_) | with_reducible exact H | (rw [hy101]; exact H) | exact H
 have Ny101 := zA hy101
 clear hy101
 have H' := zA H
 clear H
 go_enter Try.func76, Try.ntmps76
 go_wp2_with (first | ((with_reducible refine zgd 6 ?_); refine Kd.R_lit (Kd.int .i64) _ 3 ?hg (N := 6) ?hd (xs := ([] : List Int)) (inner := []) (ok := fun _ => True) (okp := fun _ => True) ?hr ?hp (fun _ hk => hk) trivial (Below.refl _ _) (zlr _) (by simp) ?_; (case hd => rfl); (case hg => rfl); (case hr => go_simp <;> rfl); (case hp => exact (Reps.none _ _)); intro v102 w1 ho2 hb hg_ hnew_; clear hg_ hnew_; (first | rw [← Ny101.out] at ho2 | (simp only [Int.reduceToNat] at ho2; rw [← Ny101.out] at ho2)); have HO103 := zA (Kd.R_lower ho2 (below_size zq2)); replace HB := zA (below_step zq2 hb); clear hb ho2))
 go_loopg [3, 7] k (fun kq v3 v7 w' => ∃ (x3_1 : List Int) (x7_1 : Int), v7 = .int .i64 x7_1 ∧ Aside0 (impl_table_impl_begun_1.l0 kq x3_1 x7_1 = some r) ∧ Aside0 (kq ≤ k) ∧ Aside0 (Kd.R (Kd.int .i64) 3 w' w.heap.size (fun _ => True) v3 x3_1) ∧ Aside0 (Below w.heap.size w w'))
 case atStart => exact ⟨(y101), (0), zq7, H', ⟨zlr _⟩, ⟨zq3 HO103⟩, ⟨zq2⟩⟩
 clear H'
 obtain ⟨x3_1, x7_1, rfl, HA, HK1, HO_3, HB⟩ := hrel
 cases gk with
 | zero => exact absurd HA.out (by simp [impl_table_impl_begun_1.l0])
 | succ k1 =>
 have H := HA.out
 clear HA
 simp only [impl_table_impl_begun_1.l0] at H
 revert H
 refine zit (fun c3 H => ?_) fun c3 H => ?_
 rotate_left
 · obtain rfl := zsi H
   go_wp2
   go_ret
   exact ⟨_, zq5, zq3 HO_3, zq2⟩
 have H' := zA H
 clear H
 go_wp2
 go_loopg [3, 10] k1 (fun kq v3 v10 w' => ∃ (x3_2 : List Int) (x10_2 : Int), v10 = .int .i64 x10_2 ∧ Aside0 (impl_table_impl_begun_1.l1 kq x3_2 x7_1 x7_1 x10_2 = some r) ∧ Aside0 (kq ≤ k1) ∧ Aside0 (Kd.R (Kd.int .i64) 3 w' w.heap.size (fun _ => True) v3 x3_2) ∧ Aside0 (Below w.heap.size w w'))
 case atStart => exact ⟨(x3_1), (0), zq7, H', ⟨zlr _⟩, ⟨zq3 HO_3⟩, ⟨zq2⟩⟩
 clear H'
 try clear c3
 obtain ⟨x3_2, x10_2, rfl, HA, HK2, HO_3, HB⟩ := hrel
 cases gk with
 | zero => exact absurd HA.out (by simp [impl_table_impl_begun_1.l1])
 | succ k2 =>
 have H := HA.out
 clear HA
 simp only [impl_table_impl_begun_1.l1] at H
 revert H
 refine zit (fun c4 H => ?_) fun c4 H => ?_
 rotate_left
 · have H' := zA H
   clear H
   go_wp2
   go_roundg k2
   case measure => have := HK1.out; have := HK2.out; omega
   case rel => exact ⟨(x3_2), (wrap64 (x7_1 + 1)), zq7, H', ⟨zq43 HK1 HK2⟩, ⟨zq3 HO_3⟩, ⟨zq2⟩⟩
 replace H := zob H
 obtain ⟨t104, A50, H⟩ := H
 replace H : (if x3_2.length < 17592186044416 then (impl_table_impl_begun_1.l1 k2 (x3_2 ++ [t104]) x7_1 x7_1 (wrap64 (x10_2 + 1))) else (none)) = some r := H
 have A5 := zA A50
 clear A50
 by_cases c6 : x3_2.length < 17592186044416
 rotate_left
 · rw [if_neg c6] at H
   exact absurd H (by simp)
 rw [if_pos c6] at H
 have LMc6 := zA c6
 clear c6
 obtain ⟨y105, hy105⟩ : ∃ y_ : List Int, y_ = (x3_2 ++ [t104]) := ⟨_, rfl⟩
 replace H : (impl_table_impl_begun_1.l1 k2 y105 x7_1 x7_1 (wrap64 (x10_2 + 1))) = some r := by first | (rw [hy105]; with_reducible exact H) | (have H2_ := (Option.bind_some _ _).symm.trans H; rw [hy105]; with_reducible exact H2_) | (have H2_ := (Option.bind_some _ _).symm.trans H; with_reducible exact H2_) | with_reducible exact H | (rw [hy105]; exact H) | exact H
 have Ny105 := zA hy105
 clear hy105
 have H' := zA H
 clear H
 go_wp2_with (first | (go_at_call 92; (with_reducible refine (impl_begun_1.calls x7_1 x10_2 t104 _ A5.out).mono ?_); rintro e w' ⟨rfl, ⟨nd, rfl⟩⟩) | ((with_reducible refine gate_builtin (b := .append) (xs := #[.tmp 13, .tmp 18]) rfl ?_); at_builtin; refine Kd.R_append (Kd.int .i64) (w0 := w) w.heap.size rfl (.tmp 13) (.tmp 18) 24 3 (.int .i64 0) 8 rfl Try.underlying24 info3 rfl (by decide) (by omega) u3 x3_2 t104 [.int .i64 t104] (fun _ => True) (fun _ => False) rfl rfl ?aP (fun _ hk => hk.elim) ?aF ?aO ?aB ?aS ?aL ?_; (case aP => exact rfl); (case aB => exact zq2); (case aF => exact (fun _ _ => trivial)); (case aO => exact (zq3 HO_3)); (case aS => exact (below_size zq2)); (case aL => have := LMc6.out; omega); intro v106 w7 ho hb hg hat; rw [← Ny105.out] at ho; replace HB := zA (hb); have HO107 := zA (ho); clear HO_3; clear ho hb hg hat))
 go_roundg k2
 case measure => have := HK1.out; have := HK2.out; omega
 case rel => exact ⟨(y105), (wrap64 (x10_2 + 1)), zq7, H', ⟨zq43 HK1 HK2⟩, ⟨zq3 HO107⟩, ⟨zq2⟩⟩
end Go.Proofs.Ytnaafcleafbejaa.Q
end
section
namespace Go.Proofs.Ytnaafcleafbejaa.Q
open Go.RowKit Go.Proofs.YtnaafcleafbejaaW.PrintWords Go.Proofs.YtnaafcleafbejaaW.PrintLast Go.Proofs.YtnaafcleafbejaaW.PrintMore
set_option maxHeartbeats 8000000
set_option maxRecDepth 100000
attribute [local go_sem] max2_int min2_int max_two min_two max_three min_three max_four min_four
set_option linter.unusedVariables false
set_option linter.unusedSimpArgs false
def impl_begun_2.f (a0 : Int) (a1 : Int) : Option (Int) := some a1
theorem impl_begun_2.calls (a0 : Int) (a1 : Int) (r : Int) (w : World) (h : impl_begun_2.f a0 a1 = some r) :
   Calls Try.prog 93 #[.int .i64 a0, .int .i64 a1] w fun e w' => e = .returned (.int .i64 r) ∧ Drawn0 w w' := by
 have H : (some a1) = some r := h
 clear h
 obtain rfl := zsi H
 go_enter Try.func93, Try.ntmps93
 exact zr_1
end Go.Proofs.Ytnaafcleafbejaa.Q
end
section
namespace Go.Proofs.Ytnaafcleafbejaa.Q
open Go.RowKit Go.Proofs.YtnaafcleafbejaaW.PrintWords Go.Proofs.YtnaafcleafbejaaW.PrintLast Go.Proofs.YtnaafcleafbejaaW.PrintMore
set_option maxHeartbeats 8000000
set_option maxRecDepth 100000
attribute [local go_sem] max2_int min2_int max_two min_two max_three min_three max_four min_four
set_option linter.unusedVariables false
set_option linter.unusedSimpArgs false
mutual
def impl_table_impl_begun_2.l0 : Nat → List Int → Int → Option (List Int)
 | 0, _, _ => none
 | k + 1, x3, x7 => if x7 < 64 then (impl_table_impl_begun_2.l1 k x3 x7 x7 0) else (some x3)
def impl_table_impl_begun_2.l1 : Nat → List Int → Int → Int → Int → Option (List Int)
 | 0, _, _, _, _ => none
 | k + 1, x3, x4, x7, x10 => if x10 < 64 then ((impl_begun_2.f x4 x10).bind fun t104 => (if x3.length < 17592186044416 then (impl_table_impl_begun_2.l1 k (x3 ++ [t104]) x4 x7 (wrap64 (x10 + 1))) else (none))) else (impl_table_impl_begun_2.l0 k x3 (wrap64 (x7 + 1)))
end
def impl_table_impl_begun_2.f (k : Nat)  : Option (List Int) := impl_table_impl_begun_2.l0 k (([] : List Int)) 0
theorem impl_table_impl_begun_2.mono_l : ∀ k, (∀ y0 y1, LeO (impl_table_impl_begun_2.l0 k y0 y1) (impl_table_impl_begun_2.l0 (k + 1) y0 y1)) ∧ (∀ y0 y1 y2 y3, LeO (impl_table_impl_begun_2.l1 k y0 y1 y2 y3) (impl_table_impl_begun_2.l1 (k + 1) y0 y1 y2 y3))
 | 0 => ⟨fun _ _ r h => by simp [impl_table_impl_begun_2.l0] at h, fun _ _ _ _ r h => by simp [impl_table_impl_begun_2.l1] at h⟩
 | k + 1 => by
   obtain ⟨ih0, ih1⟩ := impl_table_impl_begun_2.mono_l k
   refine ⟨?_, ?_⟩
   · intro y0 y1
     unfold impl_table_impl_begun_2.l0
     exact zm2 ih0 ih1
   · intro y0 y1 y2 y3
     unfold impl_table_impl_begun_2.l1
     exact zm2 ih0 ih1
theorem impl_table_impl_begun_2.mono : ∀ k, LeO (impl_table_impl_begun_2.f k ) (impl_table_impl_begun_2.f (k + 1) ) := by
 intro  k
 obtain ⟨ih0, ih1⟩ := impl_table_impl_begun_2.mono_l k
 unfold impl_table_impl_begun_2.f
 exact zm2 ih0 ih1
theorem impl_table_impl_begun_2.calls (k : Nat)  (r : List Int) (w : World) (h : impl_table_impl_begun_2.f k  = some r) :
   Calls Try.prog 76 #[.func (Fn.func 93) #[] #[]] w fun e w' => ∃ v0_ : Value, e = .returned (v0_) ∧ Kd.R (Kd.int .i64) 3 w' w.heap.size (fun _ => True) v0_ r ∧ Below w.heap.size w w' := by
 have HB := zA (Below.refl w.heap.size w)
 have H : (impl_table_impl_begun_2.l0 k (([] : List Int)) 0) = some r := h
 clear h
 obtain ⟨y101, hy101⟩ : ∃ y_ : List Int, y_ = (([] : List Int)) := ⟨_, rfl⟩
 replace H : (impl_table_impl_begun_2.l0 k y101 0) = some r := by first | (rw [hy101]; with_reducible exact H) | (have H2_ := (Option.bind_some _ _).symm.trans H; rw [hy101]; with_reducible exact H2_) | (have H2_ := (Option.bind_some _ _).symm.trans H; with_reducible exact H2_) | with_reducible exact H | (rw [hy101]; exact H) | exact H
 have Ny101 := zA hy101
 clear hy101
 have H' := zA H
 clear H
 go_enter Try.func76, Try.ntmps76
 go_wp2_with (first | ((with_reducible refine zgd 6 ?_); refine Kd.R_lit (Kd.int .i64) _ 3 ?hg (N := 6) ?hd (xs := ([] : List Int)) (inner := []) (ok := fun _ => True) (okp := fun _ => True) ?hr ?hp (fun _ hk => hk) trivial (Below.refl _ _) (zlr _) (by simp) ?_; (case hd => rfl); (case hg => rfl); (case hr => go_simp <;> rfl); (case hp => exact (Reps.none _ _)); intro v102 w1 ho2 hb hg_ hnew_; clear hg_ hnew_; (first | rw [← Ny101.out] at ho2 | (simp only [Int.reduceToNat] at ho2; rw [← Ny101.out] at ho2)); have HO103 := zA (Kd.R_lower ho2 (below_size zq2)); replace HB := zA (below_step zq2 hb); clear hb ho2))
 go_loopg [3, 7] k (fun kq v3 v7 w' => ∃ (x3_1 : List Int) (x7_1 : Int), v7 = .int .i64 x7_1 ∧ Aside0 (impl_table_impl_begun_2.l0 kq x3_1 x7_1 = some r) ∧ Aside0 (kq ≤ k) ∧ Aside0 (Kd.R (Kd.int .i64) 3 w' w.heap.size (fun _ => True) v3 x3_1) ∧ Aside0 (Below w.heap.size w w'))
 case atStart => exact ⟨(y101), (0), zq7, H', ⟨zlr _⟩, ⟨zq3 HO103⟩, ⟨zq2⟩⟩
 clear H'
 obtain ⟨x3_1, x7_1, rfl, HA, HK1, HO_3, HB⟩ := hrel
 cases gk with
 | zero => exact absurd HA.out (by simp [impl_table_impl_begun_2.l0])
 | succ k1 =>
 have H := HA.out
 clear HA
 simp only [impl_table_impl_begun_2.l0] at H
 revert H
 refine zit (fun c3 H => ?_) fun c3 H => ?_
 rotate_left
 · obtain rfl := zsi H
   go_wp2
   go_ret
   exact ⟨_, zq5, zq3 HO_3, zq2⟩
 have H' := zA H
 clear H
 go_wp2
 go_loopg [3, 10] k1 (fun kq v3 v10 w' => ∃ (x3_2 : List Int) (x10_2 : Int), v10 = .int .i64 x10_2 ∧ Aside0 (impl_table_impl_begun_2.l1 kq x3_2 x7_1 x7_1 x10_2 = some r) ∧ Aside0 (kq ≤ k1) ∧ Aside0 (Kd.R (Kd.int .i64) 3 w' w.heap.size (fun _ => True) v3 x3_2) ∧ Aside0 (Below w.heap.size w w'))
 case atStart => exact ⟨(x3_1), (0), zq7, H', ⟨zlr _⟩, ⟨zq3 HO_3⟩, ⟨zq2⟩⟩
 clear H'
 try clear c3
 obtain ⟨x3_2, x10_2, rfl, HA, HK2, HO_3, HB⟩ := hrel
 cases gk with
 | zero => exact absurd HA.out (by simp [impl_table_impl_begun_2.l1])
 | succ k2 =>
 have H := HA.out
 clear HA
 simp only [impl_table_impl_begun_2.l1] at H
 revert H
 refine zit (fun c4 H => ?_) fun c4 H => ?_
 rotate_left
 · have H' := zA H
   clear H
   go_wp2
   go_roundg k2
   case measure => have := HK1.out; have := HK2.out; omega
   case rel => exact ⟨(x3_2), (wrap64 (x7_1 + 1)), zq7, H', ⟨zq43 HK1 HK2⟩, ⟨zq3 HO_3⟩, ⟨zq2⟩⟩
 replace H := zob H
 obtain ⟨t104, A50, H⟩ := H
 replace H : (if x3_2.length < 17592186044416 then (impl_table_impl_begun_2.l1 k2 (x3_2 ++ [t104]) x7_1 x7_1 (wrap64 (x10_2 + 1))) else (none)) = some r := H
 have A5 := zA A50
 clear A50
 by_cases c6 : x3_2.length < 17592186044416
 rotate_left
 · rw [if_neg c6] at H
   exact absurd H (by simp)
 rw [if_pos c6] at H
 have LMc6 := zA c6
 clear c6
 obtain ⟨y105, hy105⟩ : ∃ y_ : List Int, y_ = (x3_2 ++ [t104]) := ⟨_, rfl⟩
 replace H : (impl_table_impl_begun_2.l1 k2 y105 x7_1 x7_1 (wrap64 (x10_2 + 1))) = some r := by first | (rw [hy105]; with_reducible exact H) | (have H2_ := (Option.bind_some _ _).symm.trans H; rw [hy105]; with_reducible exact H2_) | (have H2_ := (Option.bind_some _ _).symm.trans H; with_reducible exact H2_) | with_reducible exact H | (rw [hy105]; exact H) | exact H
 have Ny105 := zA hy105
 clear hy105
 have H' := zA H
 clear H
 go_wp2_with (first | (go_at_call 93; (with_reducible refine (impl_begun_2.calls x7_1 x10_2 t104 _ A5.out).mono ?_); rintro e w' ⟨rfl, ⟨nd, rfl⟩⟩) | ((with_reducible refine gate_builtin (b := .append) (xs := #[.tmp 13, .tmp 18]) rfl ?_); at_builtin; refine Kd.R_append (Kd.int .i64) (w0 := w) w.heap.size rfl (.tmp 13) (.tmp 18) 24 3 (.int .i64 0) 8 rfl Try.underlying24 info3 rfl (by decide) (by omega) u3 x3_2 t104 [.int .i64 t104] (fun _ => True) (fun _ => False) rfl rfl ?aP (fun _ hk => hk.elim) ?aF ?aO ?aB ?aS ?aL ?_; (case aP => exact rfl); (case aB => exact zq2); (case aF => exact (fun _ _ => trivial)); (case aO => exact (zq3 HO_3)); (case aS => exact (below_size zq2)); (case aL => have := LMc6.out; omega); intro v106 w7 ho hb hg hat; rw [← Ny105.out] at ho; replace HB := zA (hb); have HO107 := zA (ho); clear HO_3; clear ho hb hg hat))
 go_roundg k2
 case measure => have := HK1.out; have := HK2.out; omega
 case rel => exact ⟨(y105), (wrap64 (x10_2 + 1)), zq7, H', ⟨zq43 HK1 HK2⟩, ⟨zq3 HO107⟩, ⟨zq2⟩⟩
end Go.Proofs.Ytnaafcleafbejaa.Q
end
section
namespace Go.Proofs.Ytnaafcleafbejaa.Q
open Go.RowKit Go.Proofs.YtnaafcleafbejaaW.PrintWords Go.Proofs.YtnaafcleafbejaaW.PrintLast Go.Proofs.YtnaafcleafbejaaW.PrintMore
set_option maxHeartbeats 8000000
set_option maxRecDepth 100000
attribute [local go_sem] max2_int min2_int max_two min_two max_three min_three max_four min_four
set_option linter.unusedVariables false
set_option linter.unusedSimpArgs false
def impl_begun.f (k : Nat)  : Option ((List (List Int))) := (impl_table_impl_begun_1.f k).bind fun t101 => ((impl_columnOf.f k t101).bind fun t104 => ((impl_table_impl_begun_2.f k).bind fun t107 => ((impl_columnOf.f k t107).bind fun t110 => (some (([t104, t110] : List (List Int)))))))
theorem impl_begun.mono : ∀ k, LeO (impl_begun.f k ) (impl_begun.f (k + 1) ) := by
 intro  k
 unfold impl_begun.f
 exact zm3 impl_columnOf.mono impl_table_impl_begun_1.mono impl_table_impl_begun_2.mono
theorem impl_begun.calls (k : Nat)  (r : List (List Int)) (w : World) (h : impl_begun.f k  = some r) :
   Calls Try.prog 56 #[] w fun e w' => ∃ v0_ : Value, e = .returned (v0_) ∧ Kd.N (Kd.slice 5 (Kd.int .u8)) 68 w' w.heap.size (fun k_ => (w.heap.size ≤ k_)) v0_ r ∧ Below w.heap.size w w' := by
 have HB := zA (Below.refl w.heap.size w)
 have H : ((impl_table_impl_begun_1.f k).bind fun t101 => ((impl_columnOf.f k t101).bind fun t104 => ((impl_table_impl_begun_2.f k).bind fun t107 => ((impl_columnOf.f k t107).bind fun t110 => (some (([t104, t110] : List (List Int)))))))) = some r := h
 clear h
 replace H := zob H
 obtain ⟨t101, A10, H⟩ := H
 replace H : ((impl_columnOf.f k t101).bind fun t104 => ((impl_table_impl_begun_2.f k).bind fun t107 => ((impl_columnOf.f k t107).bind fun t110 => (some (([t104, t110] : List (List Int))))))) = some r := H
 have A1 := zA A10
 clear A10
 replace H := zob H
 obtain ⟨t104, A20, H⟩ := H
 replace H : ((impl_table_impl_begun_2.f k).bind fun t107 => ((impl_columnOf.f k t107).bind fun t110 => (some (([t104, t110] : List (List Int)))))) = some r := H
 have A2 := zA A20
 clear A20
 replace H := zob H
 obtain ⟨t107, A30, H⟩ := H
 replace H : ((impl_columnOf.f k t107).bind fun t110 => (some (([t104, t110] : List (List Int))))) = some r := H
 have A3 := zA A30
 clear A30
 replace H := zob H
 obtain ⟨t110, A40, H⟩ := H
 replace H : (some (([t104, t110] : List (List Int)))) = some r := H
 have A4 := zA A40
 clear A40
 obtain ⟨y113, hy113⟩ : ∃ y_ : List (List Int), y_ = (([t104, t110] : List (List Int))) := ⟨_, rfl⟩
 replace H : (some y113) = some r := by first | (rw [hy113]; with_reducible exact H) | (have H2_ := (Option.bind_some _ _).symm.trans H; rw [hy113]; with_reducible exact H2_) | (have H2_ := (Option.bind_some _ _).symm.trans H; with_reducible exact H2_) | with_reducible exact H | (rw [hy113]; exact H) | exact H
 have Ny113 := zA hy113
 clear hy113
 obtain rfl := zsi H
 go_enter Try.func56, Try.ntmps56
 go_wp2_with (first | ((with_reducible refine zgc 76 ?_); refine zcl 1 Try.func76 (impl_table_impl_begun_1.calls k  t101 _ A1.out) ?_; rintro e w5 ⟨v102, rfl, ho0, hb⟩; refine ⟨_, rfl, ?_⟩; have HO103 := zA (Kd.R_lower (Kd.R_newM (M := fun k_ => (w.heap.size ≤ k_)) ho0 (below_size zq2) (fun k_ h_ => h_)) (below_size zq2)); replace HB := zA (below_step zq2 hb); (try clear hb); (try clear ho0); obtain ⟨Ao6, co6, eo6⟩ := Kd.R_slice HO103.out; subst eo6) | ((with_reducible refine zgc 37 ?_); refine zca 2 Try.func37 #[.slice Ao6 t101.length co6] (impl_columnOf.calls k _ _ t101 t104 _ (zq15 HO103) (zq46 HO103) A2.out) ?_; rintro e w7 ⟨v105, rfl, ho0, hb⟩; refine ⟨_, rfl, ?_⟩; replace HO103 := zA (zRb (zq3 HO103) hb); have HO106 := zA (Kd.R_lower (Kd.R_newM (M := fun k_ => (w.heap.size ≤ k_)) ho0 (below_size zq2) (fun k_ h_ => h_)) (below_size zq2)); replace HB := zA (below_step zq2 hb); (try clear hb); (try clear ho0)) | ((with_reducible refine zgc 76 ?_); refine zcl 3 Try.func76 (impl_table_impl_begun_2.calls k  t107 _ A3.out) ?_; rintro e w8 ⟨v108, rfl, ho0, hb⟩; refine ⟨_, rfl, ?_⟩; replace HO106 := zA (zRb (zq3 HO106) hb); have HO109 := zA (Kd.R_lower (Kd.R_new' (Kd.R_newM (M := fun k_ => (w.heap.size ≤ k_)) ho0 (below_size zq2) (fun k_ h_ => h_)) (Kd.R_lt (zq3 HO103))) (below_size zq2)); replace HO103 := zA (Kd.R_elder' (zq3 HO103) (Kd.R_base ho0) hb); replace HB := zA (below_step zq2 hb); (try clear hb); (try clear ho0); obtain ⟨Ao9, co9, eo9⟩ := Kd.R_slice HO109.out; subst eo9) | ((with_reducible refine zgc 37 ?_); refine zca 4 Try.func37 #[.slice Ao9 t107.length co9] (impl_columnOf.calls k _ _ t107 t110 _ (zq15 HO109) (zq46 HO109) A4.out) ?_; rintro e w10 ⟨v111, rfl, ho0, hb⟩; refine ⟨_, rfl, ?_⟩; replace HO103 := zA (zRb (zq3 HO103) hb); replace HO109 := zA (zRb (zq3 HO109) hb); have HO112 := zA (Kd.R_lower (Kd.R_new' (Kd.R_newM (M := fun k_ => (w.heap.size ≤ k_)) ho0 (below_size zq2) (fun k_ h_ => h_)) (Kd.R_lt (zq3 HO106))) (below_size zq2)); replace HO106 := zA (Kd.R_elder' (zq3 HO106) (Kd.R_base ho0) hb); replace HB := zA (below_step zq2 hb); (try clear hb); (try clear ho0); obtain ⟨Ao11, co11, eo11⟩ := Kd.R_slice HO106.out; subst eo11; obtain ⟨Ao12, co12, eo12⟩ := Kd.R_slice HO112.out; subst eo12) | ((with_reducible refine zgd 5 ?_); refine Kd.N_lit (Kd.slice 5 (Kd.int .u8)) _ 68 ?hg (N' := 5) ?hd (xs := ([t104, t110] : List (List Int))) (inner := [.slice Ao11 t104.length co11, .slice Ao12 t110.length co12]) (ok := (fun k_ => (w.heap.size ≤ k_) ∧ some k_ ≠ (.slice Ao6 t101.length co6 : Value).ownBlock ∧ some k_ ≠ (.slice Ao9 t107.length co9 : Value).ownBlock)) (okp := (fun k_ => (w.heap.size ≤ k_) ∧ some k_ ≠ (.slice Ao6 t101.length co6 : Value).ownBlock ∧ some k_ ≠ (.slice Ao9 t107.length co9 : Value).ownBlock)) ?hr ?hp (fun _ hk => hk) ((show ∀ k_, w10.heap.size ≤ k_ → (fun k_ => (w.heap.size ≤ k_) ∧ some k_ ≠ (.slice Ao6 t101.length co6 : Value).ownBlock ∧ some k_ ≠ (.slice Ao9 t107.length co9 : Value).ownBlock) k_ from fun k_ hk => ⟨(Nat.le_trans (below_size zq2) hk), Kd.fresh' (Kd.R_lt (zq3 HO103)) k_ hk, Kd.fresh' (Kd.R_lt (zq3 HO109)) k_ hk⟩) _ (zlr _)) (Below.refl _ _) (zlr _) (by simp) ?_; (case hd => rfl); (case hg => rfl); (case hr => go_simp <;> rfl); (case hp => exact (Reps.one (show Kd.FK (Kd.slice 5 (Kd.int .u8)) _ _ t104 [.slice Ao11 t104.length co11] from (Kd.FK_slice_mk (zRr (Kd.R_mono (ok' := (fun k_ => (w.heap.size ≤ k_) ∧ some k_ ≠ (.slice Ao6 t101.length co6 : Value).ownBlock ∧ some k_ ≠ (.slice Ao9 t107.length co9 : Value).ownBlock)) (Kd.R_apart' (Kd.R_apart' (HO106.out) (Kd.R_typed HO103.out) (by decide)) (Kd.R_typed HO109.out) (by decide)) (fun k_ hk => ⟨hk.1.1.1.1, ⟨hk.1.2, hk.2⟩⟩))).2.1 (Kd.R_F (Kd.R_mono (ok' := (fun k_ => (w.heap.size ≤ k_) ∧ some k_ ≠ (.slice Ao6 t101.length co6 : Value).ownBlock ∧ some k_ ≠ (.slice Ao9 t107.length co9 : Value).ownBlock)) (Kd.R_apart' (Kd.R_apart' (HO106.out) (Kd.R_typed HO103.out) (by decide)) (Kd.R_typed HO109.out) (by decide)) (fun k_ hk => ⟨hk.1.1.1.1, ⟨hk.1.2, hk.2⟩⟩))))) (Reps.one (show Kd.FK (Kd.slice 5 (Kd.int .u8)) _ _ t110 [.slice Ao12 t110.length co12] from (Kd.FK_slice_mk (zRr (Kd.R_mono (ok' := (fun k_ => (w.heap.size ≤ k_) ∧ some k_ ≠ (.slice Ao6 t101.length co6 : Value).ownBlock ∧ some k_ ≠ (.slice Ao9 t107.length co9 : Value).ownBlock)) (Kd.R_apart' (Kd.R_apart' (HO112.out) (Kd.R_typed HO103.out) (by decide)) (Kd.R_typed HO109.out) (by decide)) (fun k_ hk => ⟨hk.1.1.1.1, ⟨hk.1.2, hk.2⟩⟩))).2.1 (Kd.R_F (Kd.R_mono (ok' := (fun k_ => (w.heap.size ≤ k_) ∧ some k_ ≠ (.slice Ao6 t101.length co6 : Value).ownBlock ∧ some k_ ≠ (.slice Ao9 t107.length co9 : Value).ownBlock)) (Kd.R_apart' (Kd.R_apart' (HO112.out) (Kd.R_typed HO103.out) (by decide)) (Kd.R_typed HO109.out) (by decide)) (fun k_ hk => ⟨hk.1.1.1.1, ⟨hk.1.2, hk.2⟩⟩))))) (Reps.none _ _)))); intro v114 w13 ho14 hb hg_ hnew_; clear hg_ hnew_; (first | rw [← Ny113.out] at ho14 | (simp only [Int.reduceToNat] at ho14; rw [← Ny113.out] at ho14)); replace HO103 := zA (zRb (zq3 HO103) hb); replace HO109 := zA (zRb (zq3 HO109) hb); have HO115 := zA (Kd.N_lower ho14 (below_size zq2)); replace HB := zA (below_step zq2 hb); clear HO106 HO112; clear hb ho14))
 go_ret
 exact ⟨_, zq5, by (with_reducible repeat (first | apply Kd.N_alloc | apply Kd.N_drewN | apply Kd.N_drew)); exact Kd.N_mono HO115.out (fun _ hk => hk.1), zq2⟩
def impl_bit.f (a0 : Bool) : Option (Int) := if a0 = true then (some 1) else (some 0)
theorem impl_bit.calls (a0 : Bool) (r : Int) (w : World) (h : impl_bit.f a0 = some r) :
   Calls Try.prog 123 #[.bool a0] w fun e w' => e = .returned (.int .i64 r) ∧ Drawn0 w w' := by
 have H : (if a0 = true then (some 1) else (some 0)) = some r := h
 clear h
 by_cases c2 : a0 = true
 · subst c2
   replace H := zih H
   obtain rfl := zsi H
   go_enter Try.func123, Try.ntmps123
   exact zr_1
 · replace c2 := zbf c2
   subst c2
   replace H := zif H
   obtain rfl := zsi H
   go_enter Try.func123, Try.ntmps123
   exact zr_1
def impl_apply.f (a0 : ByteArray) (a1 : Int) (a2 : Int) : Option (Int) := if a0.toList = ([110, 111, 116] : List UInt8) then (some (Go.bits .and .i64 (wrap64 (63 - a1)) 63)) else (if a0.toList = ([110, 101, 103] : List UInt8) then (some (Go.bits .and .i64 (wrap64 (-a1)) 63)) else (if a0.toList = ([97, 100, 100] : List UInt8) then (some (Go.bits .and .i64 (wrap64 (a1 + a2)) 63)) else (if a0.toList = ([115, 117, 98] : List UInt8) then (some (Go.bits .and .i64 (wrap64 (a1 - a2)) 63)) else (if a0.toList = ([109, 117, 108] : List UInt8) then (some (Go.bits .and .i64 (wrap64 (a1 * a2)) 63)) else (if a0.toList = ([97, 110, 100] : List UInt8) then (some (Go.bits .and .i64 (Go.bits .and .i64 a1 a2) 63)) else (if a0.toList = ([111, 114] : List UInt8) then (some (Go.bits .and .i64 (Go.bits .or .i64 a1 a2) 63)) else (if a0.toList = ([120, 111, 114] : List UInt8) then (some (Go.bits .and .i64 (Go.bits .xor .i64 a1 a2) 63)) else (if a0.toList = ([115, 104, 108] : List UInt8) then (if a2 < 6 then (if 0 ≤ a2 then (some (Go.bits .and .i64 (shl .i64 a1 a2) 63)) else (none)) else (some (Go.bits .and .i64 0 63))) else (if a0.toList = ([115, 104, 114] : List UInt8) then (if a2 < 6 then (if 0 ≤ a2 then (some (Go.bits .and .i64 (shr .i64 a1 a2) 63)) else (none)) else (some (Go.bits .and .i64 0 63))) else (if a0.toList = ([108, 101, 115, 115] : List UInt8) then ((impl_bit.f (decide (a1 < a2))).bind fun t101 => (some (Go.bits .and .i64 t101 63))) else (if a0.toList = ([101, 113] : List UInt8) then ((impl_bit.f (a1 == a2)).bind fun t102 => (some (Go.bits .and .i64 t102 63))) else (some (Go.bits .and .i64 0 63)))))))))))))
theorem impl_apply.calls (a0 : ByteArray) (a1 : Int) (a2 : Int) (r : Int) (w : World) (h : impl_apply.f a0 a1 a2 = some r) :
   Calls Try.prog 119 #[.string a0, .int .i64 a1, .int .i64 a2] w fun e w' => e = .returned (.int .i64 r) ∧ Drawn0 w w' := by
 have H : (if a0.toList = ([110, 111, 116] : List UInt8) then (some (Go.bits .and .i64 (wrap64 (63 - a1)) 63)) else (if a0.toList = ([110, 101, 103] : List UInt8) then (some (Go.bits .and .i64 (wrap64 (-a1)) 63)) else (if a0.toList = ([97, 100, 100] : List UInt8) then (some (Go.bits .and .i64 (wrap64 (a1 + a2)) 63)) else (if a0.toList = ([115, 117, 98] : List UInt8) then (some (Go.bits .and .i64 (wrap64 (a1 - a2)) 63)) else (if a0.toList = ([109, 117, 108] : List UInt8) then (some (Go.bits .and .i64 (wrap64 (a1 * a2)) 63)) else (if a0.toList = ([97, 110, 100] : List UInt8) then (some (Go.bits .and .i64 (Go.bits .and .i64 a1 a2) 63)) else (if a0.toList = ([111, 114] : List UInt8) then (some (Go.bits .and .i64 (Go.bits .or .i64 a1 a2) 63)) else (if a0.toList = ([120, 111, 114] : List UInt8) then (some (Go.bits .and .i64 (Go.bits .xor .i64 a1 a2) 63)) else (if a0.toList = ([115, 104, 108] : List UInt8) then (if a2 < 6 then (if 0 ≤ a2 then (some (Go.bits .and .i64 (shl .i64 a1 a2) 63)) else (none)) else (some (Go.bits .and .i64 0 63))) else (if a0.toList = ([115, 104, 114] : List UInt8) then (if a2 < 6 then (if 0 ≤ a2 then (some (Go.bits .and .i64 (shr .i64 a1 a2) 63)) else (none)) else (some (Go.bits .and .i64 0 63))) else (if a0.toList = ([108, 101, 115, 115] : List UInt8) then ((impl_bit.f (decide (a1 < a2))).bind fun t101 => (some (Go.bits .and .i64 t101 63))) else (if a0.toList = ([101, 113] : List UInt8) then ((impl_bit.f (a1 == a2)).bind fun t102 => (some (Go.bits .and .i64 t102 63))) else (some (Go.bits .and .i64 0 63)))))))))))))) = some r := h
 clear h
 by_cases c4 : a0.toList = ([110, 111, 116] : List UInt8)
 · rw [if_pos c4] at H
   obtain ⟨c4b0, c4b1⟩ := zbe c4
   clear c4
   exact zr_3
 rw [if_neg c4] at H
 obtain ⟨c4b0, c4b1⟩ := zbq c4
 by_cases c5 : a0.toList = ([110, 101, 103] : List UInt8)
 · rw [if_pos c5] at H
   obtain ⟨c5b0, c5b1⟩ := zbe c5
   clear c5
   exact zr_3
 rw [if_neg c5] at H
 obtain ⟨c5b0, c5b1⟩ := zbq c5
 by_cases c6 : a0.toList = ([97, 100, 100] : List UInt8)
 · rw [if_pos c6] at H
   obtain ⟨c6b0, c6b1⟩ := zbe c6
   clear c6
   exact zr_3
 rw [if_neg c6] at H
 obtain ⟨c6b0, c6b1⟩ := zbq c6
 by_cases c7 : a0.toList = ([115, 117, 98] : List UInt8)
 · rw [if_pos c7] at H
   obtain ⟨c7b0, c7b1⟩ := zbe c7
   clear c7
   exact zr_3
 rw [if_neg c7] at H
 obtain ⟨c7b0, c7b1⟩ := zbq c7
 by_cases c8 : a0.toList = ([109, 117, 108] : List UInt8)
 · rw [if_pos c8] at H
   obtain ⟨c8b0, c8b1⟩ := zbe c8
   clear c8
   exact zr_3
 rw [if_neg c8] at H
 obtain ⟨c8b0, c8b1⟩ := zbq c8
 by_cases c9 : a0.toList = ([97, 110, 100] : List UInt8)
 · rw [if_pos c9] at H
   obtain ⟨c9b0, c9b1⟩ := zbe c9
   clear c9
   exact zr_3
 rw [if_neg c9] at H
 obtain ⟨c9b0, c9b1⟩ := zbq c9
 by_cases c10 : a0.toList = ([111, 114] : List UInt8)
 · rw [if_pos c10] at H
   obtain ⟨c10b0, c10b1⟩ := zbe c10
   clear c10
   exact zr_3
 rw [if_neg c10] at H
 obtain ⟨c10b0, c10b1⟩ := zbq c10
 by_cases c11 : a0.toList = ([120, 111, 114] : List UInt8)
 · rw [if_pos c11] at H
   obtain ⟨c11b0, c11b1⟩ := zbe c11
   clear c11
   exact zr_3
 rw [if_neg c11] at H
 obtain ⟨c11b0, c11b1⟩ := zbq c11
 by_cases c12 : a0.toList = ([115, 104, 108] : List UInt8)
 · rw [if_pos c12] at H
   obtain ⟨c12b0, c12b1⟩ := zbe c12
   clear c12
   revert H
   refine zit (fun c13 H => ?_) fun c13 H => ?_
   rotate_left
   · obtain rfl := zsi H
     go_enter Try.func119, Try.ntmps119
     exact zr_1
   by_cases c14 : 0 ≤ a2
   rotate_left
   · rw [if_neg c14] at H
     exact absurd H (by simp)
   rw [if_pos c14] at H
   have c14b0 := eq_true c14
   have c14b1 := zdt c14
   clear c14
   obtain ⟨ji15, hji15⟩ : ∃ j_ : Int, (shl .i64 a1 a2) = j_ := ⟨_, rfl⟩
   replace H : (some (Go.bits .and .i64 (ji15) 63)) = some r := by first | (rw [hji15] at H; exact H) | (simp only [hji15] at H ⊢; exact H)
   have hji15_ : (IntKind.i64.wrap (a1 * 2 ^ min a2.toNat 64)) = ji15 := hji15
   have hji15z : a2 ≤ 64 → (IntKind.i64.wrap (a1 * 2 ^ a2.toNat)) = ji15 := shl_small hji15
   have hji15y : (wrap64 (a1 * 2 ^ min a2.toNat 64)) = ji15 := (i64_w _).symm.trans hji15_
   have hji15x : a2 ≤ 64 → (wrap64 (a1 * 2 ^ a2.toNat)) = ji15 := fun h_ => (i64_w _).symm.trans (hji15z h_)
   obtain rfl := zsi H
   go_enter Try.func119, Try.ntmps119
   go_wp2
   go_ret
   exact ⟨by first | rfl | (simp; done) | (simp only [← hji15] <;> (first | rfl | simp)) | (simp [*]; done), zq8⟩
 rw [if_neg c12] at H
 obtain ⟨c12b0, c12b1⟩ := zbq c12
 by_cases c16 : a0.toList = ([115, 104, 114] : List UInt8)
 · rw [if_pos c16] at H
   obtain ⟨c16b0, c16b1⟩ := zbe c16
   clear c16
   revert H
   refine zit (fun c17 H => ?_) fun c17 H => ?_
   rotate_left
   · obtain rfl := zsi H
     go_enter Try.func119, Try.ntmps119
     exact zr_1
   by_cases c18 : 0 ≤ a2
   rotate_left
   · rw [if_neg c18] at H
     exact absurd H (by simp)
   rw [if_pos c18] at H
   have c18b0 := eq_true c18
   have c18b1 := zdt c18
   clear c18
   obtain ⟨ji19, hji19⟩ : ∃ j_ : Int, (shr .i64 a1 a2) = j_ := ⟨_, rfl⟩
   replace H : (some (Go.bits .and .i64 (ji19) 63)) = some r := by first | (rw [hji19] at H; exact H) | (simp only [hji19] at H ⊢; exact H)
   have hji19_ : (a1 / 2 ^ min a2.toNat 64) = ji19 := hji19
   have hji19z : a2 ≤ 64 → (a1 / 2 ^ a2.toNat) = ji19 := shr_small hji19
   obtain rfl := zsi H
   go_enter Try.func119, Try.ntmps119
   go_wp2
   go_ret
   exact ⟨by first | rfl | (simp; done) | (simp only [← hji19] <;> (first | rfl | simp)) | (simp [*]; done), zq8⟩
 rw [if_neg c16] at H
 obtain ⟨c16b0, c16b1⟩ := zbq c16
 by_cases c20 : a0.toList = ([108, 101, 115, 115] : List UInt8)
 · rw [if_pos c20] at H
   obtain ⟨c20b0, c20b1⟩ := zbe c20
   clear c20
   replace H := zob H
   obtain ⟨t101, A210, H⟩ := H
   replace H : (some (Go.bits .and .i64 t101 63)) = some r := H
   have A21 := zA A210
   clear A210
   obtain rfl := zsi H
   go_enter Try.func119, Try.ntmps119
   go_wp2_with (first | ((with_reducible refine zgc 123 ?_); refine zcl 66 Try.func123 (impl_bit.calls (decide (a1 < a2)) t101 _ A21.out) ?_; rintro e w' ⟨rfl, ⟨nd, rfl⟩⟩; refine ⟨_, rfl, ?_⟩))
   exact zr_5
 rw [if_neg c20] at H
 obtain ⟨c20b0, c20b1⟩ := zbq c20
 by_cases c22 : a0.toList = ([101, 113] : List UInt8)
 rotate_left
 · rw [if_neg c22] at H
   obtain ⟨c22b0, c22b1⟩ := zbq c22
   exact zr_3
 rw [if_pos c22] at H
 obtain ⟨c22b0, c22b1⟩ := zbe c22
 clear c22
 replace H := zob H
 obtain ⟨t102, A230, H⟩ := H
 replace H : (some (Go.bits .and .i64 t102 63)) = some r := H
 have A23 := zA A230
 clear A230
 obtain rfl := zsi H
 go_enter Try.func119, Try.ntmps119
 go_wp2_with (first | ((with_reducible refine zgc 123 ?_); refine zcl 72 Try.func123 (impl_bit.calls (a1 == a2) t102 _ A23.out) ?_; rintro e w' ⟨rfl, ⟨nd, rfl⟩⟩; refine ⟨_, rfl, ?_⟩))
 exact zr_5
def impl_Instr_word.j0 : Nat → Int → Int → Bool → ByteArray → Int → Int → Int → Int → Option (Int)
 | 0, _, _, _, _, _, _, _, _ => none
 | k + 1, x1, x2, x24, x102000, x102001, x102002, x102003, x102004 => if x24 = true then (if 0 ≤ 3 then (if 3 ≤ (x102000.size : Int) then ((impl_apply.f (x102000.extract 0 3) x1 x102004).bind fun t104 => (some t104)) else (none)) else (none)) else ((impl_apply.f x102000 x1 x2).bind fun t105 => (some t105))
def impl_Instr_word.f (k : Nat) (a0_0 : ByteArray) (a0_1 : Int) (a0_2 : Int) (a0_3 : Int) (a0_4 : Int) (a1 : Int) (a2 : Int) : Option (Int) := if a0_0.toList = ([115, 101, 116] : List UInt8) then (some a0_4) else (if a0_0.toList = ([109, 111, 118] : List UInt8) then (some a1) else (if a0_0.toList = ([108, 101, 97] : List UInt8) then ((impl_apply.f (⟨#[115, 104, 108]⟩ : ByteArray) a2 a0_4).bind fun t102 => ((impl_apply.f (⟨#[97, 100, 100]⟩ : ByteArray) a1 t102).bind fun t103 => (some t103))) else (if a0_0.toList = ([97, 100, 100, 105] : List UInt8) then (impl_Instr_word.j0 k a1 a2 (a0_0.toList == ([97, 100, 100, 105] : List UInt8)) a0_0 a0_1 a0_2 a0_3 a0_4) else (if a0_0.toList = ([97, 110, 100, 105] : List UInt8) then (impl_Instr_word.j0 k a1 a2 (a0_0.toList == ([97, 110, 100, 105] : List UInt8)) a0_0 a0_1 a0_2 a0_3 a0_4) else (if a0_0.toList = ([120, 111, 114, 105] : List UInt8) then (impl_Instr_word.j0 k a1 a2 (a0_0.toList == ([120, 111, 114, 105] : List UInt8)) a0_0 a0_1 a0_2 a0_3 a0_4) else (if a0_0.toList = ([115, 104, 108, 105] : List UInt8) then (impl_Instr_word.j0 k a1 a2 (a0_0.toList == ([115, 104, 108, 105] : List UInt8)) a0_0 a0_1 a0_2 a0_3 a0_4) else (impl_Instr_word.j0 k a1 a2 (a0_0.toList == ([115, 104, 114, 105] : List UInt8)) a0_0 a0_1 a0_2 a0_3 a0_4)))))))
theorem impl_Instr_word.mono_l : ∀ k, (∀ y0 y1 y2 y3 y4 y5 y6 y7, LeO (impl_Instr_word.j0 k y0 y1 y2 y3 y4 y5 y6 y7) (impl_Instr_word.j0 (k + 1) y0 y1 y2 y3 y4 y5 y6 y7))
 | 0 => fun _ _ _ _ _ _ _ _ r h => by simp [impl_Instr_word.j0] at h
 | k + 1 => by
   have ih0 := impl_Instr_word.mono_l k
   · intro y0 y1 y2 y3 y4 y5 y6 y7
     unfold impl_Instr_word.j0
     exact zm1 ih0
theorem impl_Instr_word.mono : ∀ a0 a1 a2 a3 a4 a5 a6 k, LeO (impl_Instr_word.f k a0 a1 a2 a3 a4 a5 a6) (impl_Instr_word.f (k + 1) a0 a1 a2 a3 a4 a5 a6) := by
 intro a0 a1 a2 a3 a4 a5 a6 k
 have ih0 := impl_Instr_word.mono_l k
 unfold impl_Instr_word.f
 exact zm1 ih0
theorem impl_Instr_word.calls (k : Nat) (a0_0 : ByteArray) (a0_1 : Int) (a0_2 : Int) (a0_3 : Int) (a0_4 : Int) (a1 : Int) (a2 : Int) (r : Int) (w : World) (h : impl_Instr_word.f k a0_0 a0_1 a0_2 a0_3 a0_4 a1 a2 = some r) :
   Calls Try.prog 114 #[.agg #[.string a0_0, .int .i64 a0_1, .int .i64 a0_2, .int .i64 a0_3, .int .i64 a0_4], .int .i64 a1, .int .i64 a2] w fun e w' => e = .returned (.int .i64 r) ∧ Below w.heap.size w w' := by
 have hu64 := Try.underlying64
 have HB := zA (Below.refl w.heap.size w)
 have H : (if a0_0.toList = ([115, 101, 116] : List UInt8) then (some a0_4) else (if a0_0.toList = ([109, 111, 118] : List UInt8) then (some a1) else (if a0_0.toList = ([108, 101, 97] : List UInt8) then ((impl_apply.f (⟨#[115, 104, 108]⟩ : ByteArray) a2 a0_4).bind fun t102 => ((impl_apply.f (⟨#[97, 100, 100]⟩ : ByteArray) a1 t102).bind fun t103 => (some t103))) else (if a0_0.toList = ([97, 100, 100, 105] : List UInt8) then (impl_Instr_word.j0 k a1 a2 (a0_0.toList == ([97, 100, 100, 105] : List UInt8)) a0_0 a0_1 a0_2 a0_3 a0_4) else (if a0_0.toList = ([97, 110, 100, 105] : List UInt8) then (impl_Instr_word.j0 k a1 a2 (a0_0.toList == ([97, 110, 100, 105] : List UInt8)) a0_0 a0_1 a0_2 a0_3 a0_4) else (if a0_0.toList = ([120, 111, 114, 105] : List UInt8) then (impl_Instr_word.j0 k a1 a2 (a0_0.toList == ([120, 111, 114, 105] : List UInt8)) a0_0 a0_1 a0_2 a0_3 a0_4) else (if a0_0.toList = ([115, 104, 108, 105] : List UInt8) then (impl_Instr_word.j0 k a1 a2 (a0_0.toList == ([115, 104, 108, 105] : List UInt8)) a0_0 a0_1 a0_2 a0_3 a0_4) else (impl_Instr_word.j0 k a1 a2 (a0_0.toList == ([115, 104, 114, 105] : List UInt8)) a0_0 a0_1 a0_2 a0_3 a0_4)))))))) = some r := h
 clear h
 by_cases c4 : a0_0.toList = ([115, 101, 116] : List UInt8)
 · rw [if_pos c4] at H
   obtain ⟨c4b0, c4b1⟩ := zbe c4
   clear c4
   obtain rfl := zsi H
   go_enter Try.func114, Try.ntmps114
   go_wp2_with (first | ((with_reducible refine zgd 3 ?_); refine zbh zq2 #[.string a0_0, .int .i64 a0_1, .int .i64 a0_2, .int .i64 a0_3, .int .i64 a0_4] 64 ?_; clear HB; intro gb101 w5 HB BK101 GW101; have GE101 := GW101; obtain ⟨hcz6_0, hcz6_1, hcz6_2, hcz6_3, hcz6_4, hfz6_0, hfz6_1, hfz6_2, hfz6_3, hfz6_4⟩ := zd5 BK101))
   repeat (go_quiet (first | ((with_reducible refine gate_dst (N := 3) rfl ?_); refine box_event ?hg (N := 3) ?hd (cs := #[.string a0_0, .int .i64 a0_1, .int .i64 a0_2, .int .i64 a0_3, .int .i64 a0_4]) (t := 64) ?hr ?_; (case hd => rfl); (case hg => rfl); (case hr => go_simp <;> rfl); intro gb101 hg w5 hbox hb; have zs := zpair zq2 hb; have n0_ := zA (zs.1); have n1_ := zA (hbox); have n2_ := zA (zge hg zs.2); have n3_ := n2_; clear HB; have HB := n0_; have BK101 := n1_; have GW101 := n2_; have GE101 := n3_; clear n0_ n1_ n2_ n3_; clear zs hb hbox hg; obtain ⟨hcz6_0, hcz6_1, hcz6_2, hcz6_3, hcz6_4⟩ := zc5 w5 (.string a0_0) (.int .i64 a0_1) (.int .i64 a0_2) (.int .i64 a0_3) (.int .i64 a0_4) BK101.out; obtain ⟨hfz6_0, hfz6_1, hfz6_2, hfz6_3, hfz6_4⟩ := zf5 BK101.out)); try go_wp2_with (first | ((with_reducible refine gate_dst (N := 3) rfl ?_); refine box_event ?hg (N := 3) ?hd (cs := #[.string a0_0, .int .i64 a0_1, .int .i64 a0_2, .int .i64 a0_3, .int .i64 a0_4]) (t := 64) ?hr ?_; (case hd => rfl); (case hg => rfl); (case hr => go_simp <;> rfl); intro gb101 hg w5 hbox hb; have zs := zpair zq2 hb; have n0_ := zA (zs.1); have n1_ := zA (hbox); have n2_ := zA (zge hg zs.2); have n3_ := n2_; clear HB; have HB := n0_; have BK101 := n1_; have GW101 := n2_; have GE101 := n3_; clear n0_ n1_ n2_ n3_; clear zs hb hbox hg; obtain ⟨hcz6_0, hcz6_1, hcz6_2, hcz6_3, hcz6_4⟩ := zc5 w5 (.string a0_0) (.int .i64 a0_1) (.int .i64 a0_2) (.int .i64 a0_3) (.int .i64 a0_4) BK101.out; obtain ⟨hfz6_0, hfz6_1, hfz6_2, hfz6_3, hfz6_4⟩ := zf5 BK101.out)))
   go_ret
   exact ⟨zq5, zq1 GE101⟩
 rw [if_neg c4] at H
 obtain ⟨c4b0, c4b1⟩ := zbq c4
 by_cases c7 : a0_0.toList = ([109, 111, 118] : List UInt8)
 · rw [if_pos c7] at H
   obtain ⟨c7b0, c7b1⟩ := zbe c7
   clear c7
   obtain rfl := zsi H
   go_enter Try.func114, Try.ntmps114
   go_wp2_with (first | ((with_reducible refine zgd 3 ?_); refine zbh zq2 #[.string a0_0, .int .i64 a0_1, .int .i64 a0_2, .int .i64 a0_3, .int .i64 a0_4] 64 ?_; clear HB; intro gb101 w8 HB BK101 GW101; have GE101 := GW101; obtain ⟨hcz9_0, hcz9_1, hcz9_2, hcz9_3, hcz9_4, hfz9_0, hfz9_1, hfz9_2, hfz9_3, hfz9_4⟩ := zd5 BK101))
   repeat (go_quiet (first | ((with_reducible refine gate_dst (N := 3) rfl ?_); refine box_event ?hg (N := 3) ?hd (cs := #[.string a0_0, .int .i64 a0_1, .int .i64 a0_2, .int .i64 a0_3, .int .i64 a0_4]) (t := 64) ?hr ?_; (case hd => rfl); (case hg => rfl); (case hr => go_simp <;> rfl); intro gb101 hg w8 hbox hb; have zs := zpair zq2 hb; have n0_ := zA (zs.1); have n1_ := zA (hbox); have n2_ := zA (zge hg zs.2); have n3_ := n2_; clear HB; have HB := n0_; have BK101 := n1_; have GW101 := n2_; have GE101 := n3_; clear n0_ n1_ n2_ n3_; clear zs hb hbox hg; obtain ⟨hcz9_0, hcz9_1, hcz9_2, hcz9_3, hcz9_4⟩ := zc5 w8 (.string a0_0) (.int .i64 a0_1) (.int .i64 a0_2) (.int .i64 a0_3) (.int .i64 a0_4) BK101.out; obtain ⟨hfz9_0, hfz9_1, hfz9_2, hfz9_3, hfz9_4⟩ := zf5 BK101.out)); try go_wp2_with (first | ((with_reducible refine gate_dst (N := 3) rfl ?_); refine box_event ?hg (N := 3) ?hd (cs := #[.string a0_0, .int .i64 a0_1, .int .i64 a0_2, .int .i64 a0_3, .int .i64 a0_4]) (t := 64) ?hr ?_; (case hd => rfl); (case hg => rfl); (case hr => go_simp <;> rfl); intro gb101 hg w8 hbox hb; have zs := zpair zq2 hb; have n0_ := zA (zs.1); have n1_ := zA (hbox); have n2_ := zA (zge hg zs.2); have n3_ := n2_; clear HB; have HB := n0_; have BK101 := n1_; have GW101 := n2_; have GE101 := n3_; clear n0_ n1_ n2_ n3_; clear zs hb hbox hg; obtain ⟨hcz9_0, hcz9_1, hcz9_2, hcz9_3, hcz9_4⟩ := zc5 w8 (.string a0_0) (.int .i64 a0_1) (.int .i64 a0_2) (.int .i64 a0_3) (.int .i64 a0_4) BK101.out; obtain ⟨hfz9_0, hfz9_1, hfz9_2, hfz9_3, hfz9_4⟩ := zf5 BK101.out)))
   go_ret
   exact ⟨zq5, zq1 GE101⟩
 rw [if_neg c7] at H
 obtain ⟨c7b0, c7b1⟩ := zbq c7
 by_cases c10 : a0_0.toList = ([108, 101, 97] : List UInt8)
 · rw [if_pos c10] at H
   obtain ⟨c10b0, c10b1⟩ := zbe c10
   clear c10
   replace H := zob H
   obtain ⟨t102, A110, H⟩ := H
   replace H : ((impl_apply.f (⟨#[97, 100, 100]⟩ : ByteArray) a1 t102).bind fun t103 => (some t103)) = some r := H
   have A11 := zA A110
   clear A110
   replace H := zob H
   obtain ⟨t103, A120, H⟩ := H
   replace H : (some t103) = some r := H
   have A12 := zA A120
   clear A120
   obtain rfl := zsi H
   go_enter Try.func114, Try.ntmps114
   go_wp2_with (first | ((with_reducible refine zgd 3 ?_); refine zbh zq2 #[.string a0_0, .int .i64 a0_1, .int .i64 a0_2, .int .i64 a0_3, .int .i64 a0_4] 64 ?_; clear HB; intro gb101 w13 HB BK101 GW101; have GE101 := GW101; obtain ⟨hcz14_0, hcz14_1, hcz14_2, hcz14_3, hcz14_4, hfz14_0, hfz14_1, hfz14_2, hfz14_3, hfz14_4⟩ := zd5 BK101) | (go_at_call 119; (with_reducible refine (impl_apply.calls (⟨#[115, 104, 108]⟩ : ByteArray) a2 a0_4 t102 _ A11.out).mono ?_); rintro e w' ⟨rfl, ⟨nd, rfl⟩⟩; (try first | exact ⟨rfl, _, World.drewN_drewN _ _ _⟩ | exact ⟨rfl, _, Eq.trans (World.drewN_drewN _ _ _) (congrArg (World.drewN _) (Nat.add_assoc _ _ _))⟩)) | (go_at_call 119; (with_reducible refine (impl_apply.calls (⟨#[97, 100, 100]⟩ : ByteArray) a1 t102 t103 _ A12.out).mono ?_); rintro e w' ⟨rfl, ⟨nd, rfl⟩⟩; (try first | exact ⟨rfl, _, World.drewN_drewN _ _ _⟩ | exact ⟨rfl, _, Eq.trans (World.drewN_drewN _ _ _) (congrArg (World.drewN _) (Nat.add_assoc _ _ _))⟩)))
   repeat (go_quiet (first | ((with_reducible refine gate_dst (N := 3) rfl ?_); refine box_event ?hg (N := 3) ?hd (cs := #[.string a0_0, .int .i64 a0_1, .int .i64 a0_2, .int .i64 a0_3, .int .i64 a0_4]) (t := 64) ?hr ?_; (case hd => rfl); (case hg => rfl); (case hr => go_simp <;> rfl); intro gb101 hg w13 hbox hb; have zs := zpair zq2 hb; have n0_ := zA (zs.1); have n1_ := zA (hbox); have n2_ := zA (zge hg zs.2); have n3_ := n2_; clear HB; have HB := n0_; have BK101 := n1_; have GW101 := n2_; have GE101 := n3_; clear n0_ n1_ n2_ n3_; clear zs hb hbox hg; obtain ⟨hcz14_0, hcz14_1, hcz14_2, hcz14_3, hcz14_4⟩ := zc5 w13 (.string a0_0) (.int .i64 a0_1) (.int .i64 a0_2) (.int .i64 a0_3) (.int .i64 a0_4) BK101.out; obtain ⟨hfz14_0, hfz14_1, hfz14_2, hfz14_3, hfz14_4⟩ := zf5 BK101.out) | (go_at_call 119; (with_reducible refine (impl_apply.calls (⟨#[115, 104, 108]⟩ : ByteArray) a2 a0_4 t102 _ A11.out).mono ?_); rintro e w' ⟨rfl, ⟨nd, rfl⟩⟩; (try first | exact ⟨rfl, _, World.drewN_drewN _ _ _⟩ | exact ⟨rfl, _, Eq.trans (World.drewN_drewN _ _ _) (congrArg (World.drewN _) (Nat.add_assoc _ _ _))⟩)) | (go_at_call 119; (with_reducible refine (impl_apply.calls (⟨#[97, 100, 100]⟩ : ByteArray) a1 t102 t103 _ A12.out).mono ?_); rintro e w' ⟨rfl, ⟨nd, rfl⟩⟩; (try first | exact ⟨rfl, _, World.drewN_drewN _ _ _⟩ | exact ⟨rfl, _, Eq.trans (World.drewN_drewN _ _ _) (congrArg (World.drewN _) (Nat.add_assoc _ _ _))⟩))); try go_wp2_with (first | ((with_reducible refine gate_dst (N := 3) rfl ?_); refine box_event ?hg (N := 3) ?hd (cs := #[.string a0_0, .int .i64 a0_1, .int .i64 a0_2, .int .i64 a0_3, .int .i64 a0_4]) (t := 64) ?hr ?_; (case hd => rfl); (case hg => rfl); (case hr => go_simp <;> rfl); intro gb101 hg w13 hbox hb; have zs := zpair zq2 hb; have n0_ := zA (zs.1); have n1_ := zA (hbox); have n2_ := zA (zge hg zs.2); have n3_ := n2_; clear HB; have HB := n0_; have BK101 := n1_; have GW101 := n2_; have GE101 := n3_; clear n0_ n1_ n2_ n3_; clear zs hb hbox hg; obtain ⟨hcz14_0, hcz14_1, hcz14_2, hcz14_3, hcz14_4⟩ := zc5 w13 (.string a0_0) (.int .i64 a0_1) (.int .i64 a0_2) (.int .i64 a0_3) (.int .i64 a0_4) BK101.out; obtain ⟨hfz14_0, hfz14_1, hfz14_2, hfz14_3, hfz14_4⟩ := zf5 BK101.out) | (go_at_call 119; (with_reducible refine (impl_apply.calls (⟨#[115, 104, 108]⟩ : ByteArray) a2 a0_4 t102 _ A11.out).mono ?_); rintro e w' ⟨rfl, ⟨nd, rfl⟩⟩; (try first | exact ⟨rfl, _, World.drewN_drewN _ _ _⟩ | exact ⟨rfl, _, Eq.trans (World.drewN_drewN _ _ _) (congrArg (World.drewN _) (Nat.add_assoc _ _ _))⟩)) | (go_at_call 119; (with_reducible refine (impl_apply.calls (⟨#[97, 100, 100]⟩ : ByteArray) a1 t102 t103 _ A12.out).mono ?_); rintro e w' ⟨rfl, ⟨nd, rfl⟩⟩; (try first | exact ⟨rfl, _, World.drewN_drewN _ _ _⟩ | exact ⟨rfl, _, Eq.trans (World.drewN_drewN _ _ _) (congrArg (World.drewN _) (Nat.add_assoc _ _ _))⟩))))
   go_ret
   exact ⟨zq5, zq1 GE101⟩
 rw [if_neg c10] at H
 obtain ⟨c10b0, c10b1⟩ := zbq c10
 have HC15 := zA H
 clear H
 go_enter Try.func114, Try.ntmps114
 go_upto_if 24 with (first | ((with_reducible refine zgd 3 ?_); refine zbh zq2 #[.string a0_0, .int .i64 a0_1, .int .i64 a0_2, .int .i64 a0_3, .int .i64 a0_4] 64 ?_; clear HB; intro gb101 w16 HB BK101 GW101; have GE101 := GW101; obtain ⟨hcz17_0, hcz17_1, hcz17_2, hcz17_3, hcz17_4, hfz17_0, hfz17_1, hfz17_2, hfz17_3, hfz17_4⟩ := zd5 BK101))
 repeat (go_quiet (first | ((with_reducible refine gate_dst (N := 3) rfl ?_); refine box_event ?hg (N := 3) ?hd (cs := #[.string a0_0, .int .i64 a0_1, .int .i64 a0_2, .int .i64 a0_3, .int .i64 a0_4]) (t := 64) ?hr ?_; (case hd => rfl); (case hg => rfl); (case hr => go_simp <;> rfl); intro gb101 hg w16 hbox hb; have zs := zpair zq2 hb; have n0_ := zA (zs.1); have n1_ := zA (hbox); have n2_ := zA (zge hg zs.2); have n3_ := n2_; clear HB; have HB := n0_; have BK101 := n1_; have GW101 := n2_; have GE101 := n3_; clear n0_ n1_ n2_ n3_; clear zs hb hbox hg; obtain ⟨hcz17_0, hcz17_1, hcz17_2, hcz17_3, hcz17_4⟩ := zc5 w16 (.string a0_0) (.int .i64 a0_1) (.int .i64 a0_2) (.int .i64 a0_3) (.int .i64 a0_4) BK101.out; obtain ⟨hfz17_0, hfz17_1, hfz17_2, hfz17_3, hfz17_4⟩ := zf5 BK101.out)); go_upto_if 24 with (first | ((with_reducible refine gate_dst (N := 3) rfl ?_); refine box_event ?hg (N := 3) ?hd (cs := #[.string a0_0, .int .i64 a0_1, .int .i64 a0_2, .int .i64 a0_3, .int .i64 a0_4]) (t := 64) ?hr ?_; (case hd => rfl); (case hg => rfl); (case hr => go_simp <;> rfl); intro gb101 hg w16 hbox hb; have zs := zpair zq2 hb; have n0_ := zA (zs.1); have n1_ := zA (hbox); have n2_ := zA (zge hg zs.2); have n3_ := n2_; clear HB; have HB := n0_; have BK101 := n1_; have GW101 := n2_; have GE101 := n3_; clear n0_ n1_ n2_ n3_; clear zs hb hbox hg; obtain ⟨hcz17_0, hcz17_1, hcz17_2, hcz17_3, hcz17_4⟩ := zc5 w16 (.string a0_0) (.int .i64 a0_1) (.int .i64 a0_2) (.int .i64 a0_3) (.int .i64 a0_4) BK101.out; obtain ⟨hfz17_0, hfz17_1, hfz17_2, hfz17_3, hfz17_4⟩ := zf5 BK101.out)))
 (try simp only [Act.put, List.setIfInBounds_toArray, List.set_cons_zero, List.set_cons_succ])
 go_cut [24] (fun v24 wc => ∃ (kq : Nat) (x24_14 : Bool), v24 = .bool x24_14 ∧ Aside0 (impl_Instr_word.j0 kq a1 a2 x24_14 a0_0 a0_1 a0_2 a0_3 a0_4 = some r) ∧ Aside0 (kq ≤ k) ∧ Aside0 (wc.heap[gb101]? = some (.cells #[.string a0_0, .int .i64 a0_1, .int .i64 a0_2, .int .i64 a0_3, .int .i64 a0_4] 64 (0, 0))) ∧ Aside0 (Below w.heap.size w wc))
 case first =>
   have H := HC15.out
   clear HC15
   by_cases c18 : a0_0.toList = ([97, 100, 100, 105] : List UInt8)
   · rw [if_pos c18] at H
     obtain ⟨c18b0, c18b1⟩ := zbe c18
     clear c18
     (first | rw [c18b0] | (simp only [i64_w, i32_w]; rw [c18b0]) | skip)
     have H' := zA H
     clear H
     go_wp2
     repeat (go_quiet (fail); try go_wp2)
     go_meet
     case rel => exact ⟨_, ((a0_0.toList == ([97, 100, 100, 105] : List UInt8))), zq7, H', ⟨zq39⟩, ⟨zq6 BK101⟩, ⟨zq1 GE101⟩⟩
   rw [if_neg c18] at H
   obtain ⟨c18b0, c18b1⟩ := zbq c18
   (first | rw [c18b0] | (simp only [i64_w, i32_w]; rw [c18b0]) | skip)
   by_cases c19 : a0_0.toList = ([97, 110, 100, 105] : List UInt8)
   · rw [if_pos c19] at H
     obtain ⟨c19b0, c19b1⟩ := zbe c19
     clear c19
     have H' := zA H
     clear H
     go_wp2
     repeat (go_quiet (fail); try go_wp2)
     go_meet
     case rel => exact ⟨_, ((a0_0.toList == ([97, 110, 100, 105] : List UInt8))), zq7, H', ⟨zq39⟩, ⟨zq6 BK101⟩, ⟨zq1 GE101⟩⟩
   rw [if_neg c19] at H
   obtain ⟨c19b0, c19b1⟩ := zbq c19
   by_cases c20 : a0_0.toList = ([120, 111, 114, 105] : List UInt8)
   · rw [if_pos c20] at H
     obtain ⟨c20b0, c20b1⟩ := zbe c20
     clear c20
     have H' := zA H
     clear H
     go_wp2
     repeat (go_quiet (fail); try go_wp2)
     go_meet
     case rel => exact ⟨_, ((a0_0.toList == ([120, 111, 114, 105] : List UInt8))), zq7, H', ⟨zq39⟩, ⟨zq6 BK101⟩, ⟨zq1 GE101⟩⟩
   rw [if_neg c20] at H
   obtain ⟨c20b0, c20b1⟩ := zbq c20
   by_cases c21 : a0_0.toList = ([115, 104, 108, 105] : List UInt8)
   rotate_left
   · rw [if_neg c21] at H
     obtain ⟨c21b0, c21b1⟩ := zbq c21
     have H' := zA H
     clear H
     go_wp2
     repeat (go_quiet (fail); try go_wp2)
     go_meet
     case rel => exact ⟨_, ((a0_0.toList == ([115, 104, 114, 105] : List UInt8))), zq7, H', ⟨zq39⟩, ⟨zq6 BK101⟩, ⟨zq1 GE101⟩⟩
   rw [if_pos c21] at H
   obtain ⟨c21b0, c21b1⟩ := zbe c21
   clear c21
   have H' := zA H
   clear H
   go_wp2
   repeat (go_quiet (fail); try go_wp2)
   go_meet
   case rel => exact ⟨_, ((a0_0.toList == ([115, 104, 108, 105] : List UInt8))), zq7, H', ⟨zq39⟩, ⟨zq6 BK101⟩, ⟨zq1 GE101⟩⟩
 clear HC15
 try clear c4
 try clear c4b0
 try clear c4b1
 try clear c7
 try clear c7b0
 try clear c7b1
 try clear c10
 try clear c10b0
 try clear c10b1
 try clear c18
 try clear c18b0
 try clear c18b1
 try clear c19
 try clear c19b0
 try clear c19b1
 try clear c20
 try clear c20b0
 try clear c20b1
 try clear c21
 try clear c21b0
 try clear c21b1
 try clear hcz14_0
 try clear hcz14_1
 try clear hcz14_2
 try clear hcz14_3
 try clear hcz14_4
 try clear hcz17_0
 try clear hcz17_1
 try clear hcz17_2
 try clear hcz17_3
 try clear hcz17_4
 try clear hcz6_0
 try clear hcz6_1
 try clear hcz6_2
 try clear hcz6_3
 try clear hcz6_4
 try clear hcz9_0
 try clear hcz9_1
 try clear hcz9_2
 try clear hcz9_3
 try clear hcz9_4
 try clear hfz14_0
 try clear hfz14_1
 try clear hfz14_2
 try clear hfz14_3
 try clear hfz14_4
 try clear hfz17_0
 try clear hfz17_1
 try clear hfz17_2
 try clear hfz17_3
 try clear hfz17_4
 try clear hfz6_0
 try clear hfz6_1
 try clear hfz6_2
 try clear hfz6_3
 try clear hfz6_4
 try clear hfz9_0
 try clear hfz9_1
 try clear hfz9_2
 try clear hfz9_3
 try clear hfz9_4
 obtain ⟨kq, x24_14, rfl, HA, HJ14, BK101, HB⟩ := hcut
 cases kq with
 | zero => exact absurd HA.out (by simp [impl_Instr_word.j0])
 | succ kj14 =>
 have H := HA.out
 clear HA
 simp only [impl_Instr_word.j0] at H
 by_cases c22 : x24_14 = true
 rotate_left
 · replace c22 := zbf c22
   subst c22
   replace H := zif H
   replace H := zob H
   obtain ⟨t105, A270, H⟩ := H
   replace H : (some t105) = some r := H
   have A27 := zA A270
   clear A270
   obtain rfl := zsi H
   obtain ⟨hcz28_0, hcz28_1, hcz28_2, hcz28_3, hcz28_4⟩ := zc5 wc (.string a0_0) (.int .i64 a0_1) (.int .i64 a0_2) (.int .i64 a0_3) (.int .i64 a0_4) BK101.out
   obtain ⟨hfz28_0, hfz28_1, hfz28_2, hfz28_3, hfz28_4⟩ := zf5 BK101.out
   go_wp2_with (first | (go_at_call 119; (with_reducible refine (impl_apply.calls a0_0 a1 a2 t105 _ A27.out).mono ?_); rintro e w' ⟨rfl, ⟨nd, rfl⟩⟩; (try first | exact ⟨rfl, _, World.drewN_drewN _ _ _⟩ | exact ⟨rfl, _, Eq.trans (World.drewN_drewN _ _ _) (congrArg (World.drewN _) (Nat.add_assoc _ _ _))⟩)))
   repeat (go_quiet (first | (go_at_call 119; (with_reducible refine (impl_apply.calls a0_0 a1 a2 t105 _ A27.out).mono ?_); rintro e w' ⟨rfl, ⟨nd, rfl⟩⟩; (try first | exact ⟨rfl, _, World.drewN_drewN _ _ _⟩ | exact ⟨rfl, _, Eq.trans (World.drewN_drewN _ _ _) (congrArg (World.drewN _) (Nat.add_assoc _ _ _))⟩))); try go_wp2_with (first | (go_at_call 119; (with_reducible refine (impl_apply.calls a0_0 a1 a2 t105 _ A27.out).mono ?_); rintro e w' ⟨rfl, ⟨nd, rfl⟩⟩; (try first | exact ⟨rfl, _, World.drewN_drewN _ _ _⟩ | exact ⟨rfl, _, Eq.trans (World.drewN_drewN _ _ _) (congrArg (World.drewN _) (Nat.add_assoc _ _ _))⟩))))
   go_ret
   exact ⟨zq5, zq1 GE101⟩
 subst c22
 replace H := zih H
 by_cases c23 : 0 ≤ 3
 rotate_left
 · rw [if_neg c23] at H
   exact absurd H (by simp)
 rw [if_pos c23] at H
 have c23b0 := eq_true c23
 have c23b1 := zdt c23
 clear c23
 by_cases c24 : 3 ≤ (a0_0.size : Int)
 rotate_left
 · rw [if_neg c24] at H
   exact absurd H (by simp)
 rw [if_pos c24] at H
 have c24b0 := eq_true c24
 have c24b1 := zdt c24
 clear c24
 replace H := zob H
 obtain ⟨t104, A250, H⟩ := H
 replace H : (some t104) = some r := H
 have A25 := zA A250
 clear A250
 obtain rfl := zsi H
 obtain ⟨hcz26_0, hcz26_1, hcz26_2, hcz26_3, hcz26_4⟩ := zc5 wc (.string a0_0) (.int .i64 a0_1) (.int .i64 a0_2) (.int .i64 a0_3) (.int .i64 a0_4) BK101.out
 obtain ⟨hfz26_0, hfz26_1, hfz26_2, hfz26_3, hfz26_4⟩ := zf5 BK101.out
 go_wp2_with (first | (go_at_call 119; (with_reducible refine (impl_apply.calls (a0_0.extract 0 3) a1 a0_4 t104 _ A25.out).mono ?_); rintro e w' ⟨rfl, ⟨nd, rfl⟩⟩; (try first | exact ⟨rfl, _, World.drewN_drewN _ _ _⟩ | exact ⟨rfl, _, Eq.trans (World.drewN_drewN _ _ _) (congrArg (World.drewN _) (Nat.add_assoc _ _ _))⟩)))
 repeat (go_quiet (first | (go_at_call 119; (with_reducible refine (impl_apply.calls (a0_0.extract 0 3) a1 a0_4 t104 _ A25.out).mono ?_); rintro e w' ⟨rfl, ⟨nd, rfl⟩⟩; (try first | exact ⟨rfl, _, World.drewN_drewN _ _ _⟩ | exact ⟨rfl, _, Eq.trans (World.drewN_drewN _ _ _) (congrArg (World.drewN _) (Nat.add_assoc _ _ _))⟩))); try go_wp2_with (first | (go_at_call 119; (with_reducible refine (impl_apply.calls (a0_0.extract 0 3) a1 a0_4 t104 _ A25.out).mono ?_); rintro e w' ⟨rfl, ⟨nd, rfl⟩⟩; (try first | exact ⟨rfl, _, World.drewN_drewN _ _ _⟩ | exact ⟨rfl, _, Eq.trans (World.drewN_drewN _ _ _) (congrArg (World.drewN _) (Nat.add_assoc _ _ _))⟩))))
 go_ret
 exact ⟨zq5, zq1 GE101⟩
def impl_wordAt.f (k : Nat) (a0_0 : ByteArray) (a0_1 : Int) (a0_2 : Int) (a0_3 : Int) (a0_4 : Int) (l1 : List (List Int)) (a2 : Int) : Option (Int) := if 0 ≤ a0_2 then (if a0_2 < (l1.length : Int) then (if 0 ≤ a2 then (if a2 < ((rd_L10 l1 a0_2).length : Int) then (if 0 ≤ a0_3 then (if a0_3 < (l1.length : Int) then (if a2 < ((rd_L10 l1 a0_3).length : Int) then ((impl_Instr_word.f k a0_0 a0_1 a0_2 a0_3 a0_4 (wrap64 (rd (rd_L10 l1 a0_2) a2)) (wrap64 (rd (rd_L10 l1 a0_3) a2))).bind fun t106 => (some ((t106) % 256))) else (none)) else (none)) else (none)) else (none)) else (none)) else (none)) else (none)
theorem impl_wordAt.mono : ∀ a0 a1 a2 a3 a4 a5 a6 k, LeO (impl_wordAt.f k a0 a1 a2 a3 a4 a5 a6) (impl_wordAt.f (k + 1) a0 a1 a2 a3 a4 a5 a6) := by
 intro a0 a1 a2 a3 a4 a5 a6 k
 unfold impl_wordAt.f
 exact zm1 impl_Instr_word.mono
def impl_wordAt.T1 : Bool × List (List Nat × List Nat) := (true, [([], []), ([], []), ([], []), ([2], [2]), ([1, 3], [1, 3]), ([4], [4]), ([], []), ([5, 6], [5, 6]), ([7], [7]), ([8], [8]), ([], []), ([], []), ([11], [11]), ([10, 12], [10, 12]), ([13], [13]), ([], []), ([14, 15], [14, 15]), ([16], [16]), ([17], [17]), ([0, 9, 18], [0, 9, 18]), ([19], [19]), ([20, 19, 0, 1, 2, 3, 4, 5, 6, 7, 8, 9, 10, 11, 12, 13, 14, 15, 16, 17, 18, 19, 20], [20])])
def impl_wordAt.B1 : List Nat := [0, 0, 0, 4, 14, 30, 0, 126, 254, 510, 0, 0, 2048, 7168, 15360, 0, 64512, 130048, 261120, 524287, 1048575, 2097151]
theorem impl_wordAt.tab1 : rtab .any (opsOf Try.f91 1) = impl_wordAt.T1 := by kernel_rfl
theorem impl_wordAt.bits1 : waitsOk impl_wordAt.T1.2 impl_wordAt.B1 = true := by kernel_rfl
theorem impl_wordAt.calls (k : Nat) (a0_0 : ByteArray) (a0_1 : Int) (a0_2 : Int) (a0_3 : Int) (a0_4 : Int) (A1 : Option Addr) (c1 : Nat) (l1 : List (List Int)) (a2 : Int) (r : Int) (w : World) (hr1 : Kd.C (Kd.slice 5 (Kd.int .u8)) w A1 l1.length l1) (hc1 : l1.length ≤ c1) (h : impl_wordAt.f k a0_0 a0_1 a0_2 a0_3 a0_4 l1 a2 = some r) :
   Calls Try.prog 91 #[.agg #[.string a0_0, .int .i64 a0_1, .int .i64 a0_2, .int .i64 a0_3, .int .i64 a0_4], .slice A1 l1.length c1, .int .i64 a2] w fun e w' => e = .returned (.int .u8 r) ∧ Below w.heap.size w w' := by
 have hu64 := Try.underlying64
 have HR1 := zA hr1
 have HC1 := zA hc1
 clear hr1 hc1
 have HB := zA (Below.refl w.heap.size w)
 have H : (if 0 ≤ a0_2 then (if a0_2 < (l1.length : Int) then (if 0 ≤ a2 then (if a2 < ((rd_L10 l1 a0_2).length : Int) then (if 0 ≤ a0_3 then (if a0_3 < (l1.length : Int) then (if a2 < ((rd_L10 l1 a0_3).length : Int) then ((impl_Instr_word.f k a0_0 a0_1 a0_2 a0_3 a0_4 (wrap64 (rd (rd_L10 l1 a0_2) a2)) (wrap64 (rd (rd_L10 l1 a0_3) a2))).bind fun t106 => (some ((t106) % 256))) else (none)) else (none)) else (none)) else (none)) else (none)) else (none)) else (none)) = some r := h
 clear h
 revert H
 refine zin fun c4 H => ?_
 revert H
 refine zin fun c5 H => ?_
 revert H
 refine zin fun c6 H => ?_
 revert H
 refine zin fun c7 H => ?_
 revert H
 refine zin fun c8 H => ?_
 revert H
 refine zin fun c9 H => ?_
 revert H
 refine zin fun c10 H => ?_
 replace H := zob H
 obtain ⟨t106, A110, H⟩ := H
 replace H : (some ((t106) % 256)) = some r := H
 have A11 := zA A110
 clear A110
 obtain rfl := zsi H
 go_enter Try.func91, Try.ntmps91
 try go_wp2_with (first | ((with_reducible refine zgd 3 ?_); refine zbx #[.string a0_0, .int .i64 a0_1, .int .i64 a0_2, .int .i64 a0_3, .int .i64 a0_4] 64 ?_; intro gb101 hg w12 hbox hb; have zs := zpair zq2 hb; replace HB := zA (zs.1); have BK101 := zA (hbox); have GW101 := zA (zge hg zs.2); have GE101 := GW101; clear zs hb hbox hg))
 replace BK101 := zA (zkd BK101.out)
 replace HB := zA (zbd HB.out)
 obtain ⟨p102, q102⟩ := zpq a0_2 l1.length
 obtain ⟨ad102, A102_0, c102_0, e102, hx102_0, hl102_0, hi102_0⟩ := at_L10 HR1.out a0_2 (zoe p102) (zoe q102)
 have hw102_0 := hx102_0
 cases e102
 replace hx102_0 := zkep HB.out hx102_0
 have HR102_0 := zA hi102_0
 have HC102_0 := zA hl102_0
 clear hi102_0 hl102_0
 have p103 : 0 ≤ (a2 : Int) := zde zq16
 have q103 : a2 < ((rd_L10 l1 a0_2).length : Int) := zde zq16
 obtain ⟨ad103, e103, hx103_0⟩ := Kd.at_int HR102_0.out a2 p103 q103
 have hw103_0 := hx103_0
 cases e103
 replace hx103_0 := zkep HB.out hx103_0
 replace p103 := eq_true p103
 replace q103 := eq_true q103
 obtain ⟨p104, q104⟩ := zpq a0_3 l1.length
 obtain ⟨ad104, A104_0, c104_0, e104, hx104_0, hl104_0, hi104_0⟩ := at_L10 HR1.out a0_3 (zoe p104) (zoe q104)
 have hw104_0 := hx104_0
 obtain rfl : ad102 = ad104 := (by injection e104)
 replace hx104_0 := zkep HB.out hx104_0
 have HR104_0 := zA hi104_0
 have HC104_0 := zA hl104_0
 clear hi104_0 hl104_0
 have p105 : 0 ≤ (a2 : Int) := zde zq16
 have q105 : a2 < ((rd_L10 l1 a0_3).length : Int) := zde zq16
 obtain ⟨ad105, e105, hx105_0⟩ := Kd.at_int HR104_0.out a2 p105 q105
 have hw105_0 := hx105_0
 cases e105
 replace hx105_0 := zkep HB.out hx105_0
 replace p105 := eq_true p105
 replace q105 := eq_true q105
 refine start_ (n := 22) (S := fun w' => w'.cell? ⟨gb101, 0, none⟩ = some (.string a0_0) ∧ w'.cell? ⟨gb101, 1, none⟩ = some (.int .i64 a0_1) ∧ w'.cell? ⟨gb101, 2, none⟩ = some (.int .i64 a0_2) ∧ w'.cell? ⟨gb101, 3, none⟩ = some (.int .i64 a0_3) ∧ w'.cell? ⟨gb101, 4, none⟩ = some (.int .i64 a0_4) ∧ w'.cell? (ad102.add (a0_2).toNat) = some (.slice (some ad103) (rd_L10 l1 a0_2).length c102_0) ∧ w'.cell? (ad103.add (a2).toNat) = some (.int .u8 (rd (rd_L10 l1 a0_2) a2)) ∧ w'.cell? (ad102.add (a0_3).toNat) = some (.slice (some ad105) (rd_L10 l1 a0_3).length c104_0) ∧ w'.cell? (ad105.add (a2).toNat) = some (.int .u8 (rd (rd_L10 l1 a0_3) a2))) (ds := []) #[false, false, false, false, false, false, false, false, false, false, false, false, false, false, false, false, false, false, false, false, false, false] zq22 rfl rfl ⟨(blk_cell BK101.out 0).trans rfl, (blk_cell BK101.out 1).trans rfl, (blk_cell BK101.out 2).trans rfl, (blk_cell BK101.out 3).trans rfl, (blk_cell BK101.out 4).trans rfl, (zkep HB.out hw102_0), (zkep HB.out hw103_0), (zkep HB.out hw104_0), (zkep HB.out hw105_0)⟩ (fun hHeld => ?_); refine with_tabW impl_wordAt.tab1 impl_wordAt.bits1 (fun HT_ HW_ => ?_)
 generalize w12.drew = w13 at BK101 HB HR102_0 HR104_0 hx102_0 hx103_0 hx104_0 hx105_0 hHeld ⊢
 refine zpu 1 8 HT_ ?_
 refine zpu 2 9 HT_ ?_
 refine zpu 6 13 HT_ ?_
 refine zpu 10 17 HT_ ?_
 refine zpu 11 18 HT_ ?_
 refine zpu 15 22 HT_ ?_
 refine ztu 0 7 HT_ HW_ hHeld ?_
 refine ztu 3 10 HT_ HW_ hHeld ?_
 refine zpu 4 11 HT_ ?_
 refine ztu 5 12 HT_ HW_ hHeld ?_
 refine zpu 7 14 HT_ ?_
 refine ztu 8 15 HT_ HW_ hHeld ?_
 refine zpu 9 16 HT_ ?_
 refine ztu 12 19 HT_ HW_ hHeld ?_
 refine zpu 13 20 HT_ ?_
 refine ztu 14 21 HT_ HW_ hHeld ?_
 refine zpu 16 23 HT_ ?_
 refine ztu 17 24 HT_ HW_ hHeld ?_
 refine zpu 18 25 HT_ ?_
 refine one_ (i := 19) (N := some 26) #[true, true, true, true, true, true, true, true, true, true, true, true, true, true, true, true, true, true, true, true, false, false] rfl rfl (one_of HT_.out zq22) (by decide) (fun K hK => ?_)
 refine zgo Try.func114 (impl_Instr_word.calls k a0_0 a0_1 a0_2 a0_3 a0_4 (wrap64 (rd (rd_L10 l1 a0_2) a2)) (wrap64 (rd (rd_L10 l1 a0_3) a2)) t106 _ A11.out) ?_
 rintro e w14 ⟨rfl, hb⟩
 refine ⟨_, rfl, ?_⟩
 replace BK101 := zA (blk_below (g := gb101) (o := .cells #[.string a0_0, .int .i64 a0_1, .int .i64 a0_2, .int .i64 a0_3, .int .i64 a0_4] 64 (0, 0)) (zq6 BK101) hb)
 replace HB := zA (below_step (zq1 GE101) hb)
 (try clear hb)
 (try clear hb2)
 (try clear hk)
 (try clear hi)
 refine hK.out _ _ ⟨(blk_cell BK101.out 0).trans rfl, (blk_cell BK101.out 1).trans rfl, (blk_cell BK101.out 2).trans rfl, (blk_cell BK101.out 3).trans rfl, (blk_cell BK101.out 4).trans rfl, (zkep HB.out hw102_0), (zkep HB.out hw103_0), (zkep HB.out hw104_0), (zkep HB.out hw105_0)⟩ (fun hHeld => ?_)
 clear hK K
 refine znm 26 ?_
 refine zpu 20 27 HT_ ?_
 refine zpu 21 6 HT_ ?_
 refine done_ (done_of HT_.out zq22) ?_
 try go_wp2
 go_ret
 exact ⟨zq5, zq1 GE101⟩
def impl_writes.l0 : Nat → List (List Int) → List Int → Int → Int → ByteArray → Int → Int → Int → Int → Option (List Int)
 | 0, _, _, _, _, _, _, _, _, _ => none
 | k + 1, x1, x5, x9, x10, x102000, x102001, x102002, x102003, x102004 => if x10 < x9 then ((impl_wordAt.f k x102000 x102001 x102002 x102003 x102004 x1 x10).bind fun t105 => (if 0 ≤ x10 then (if x10 < (x5.length : Int) then (impl_writes.l0 k x1 (x5.set (x10 : Int).toNat t105) x9 (wrap64 (x10 + 1)) x102000 x102001 x102002 x102003 x102004) else (none)) else (none))) else (some x5)
def impl_writes.f (k : Nat) (a0_0 : ByteArray) (a0_1 : Int) (a0_2 : Int) (a0_3 : Int) (a0_4 : Int) (l1 : List (List Int)) : Option (List Int) := if 4096 ≤ 281474976710656 then ((some (List.replicate 4096 0 : List Int)).bind fun y102 => (impl_writes.l0 k l1 y102 (y102.length : Int) 0 a0_0 a0_1 a0_2 a0_3 a0_4)) else (none)
theorem impl_writes.mono_l : ∀ k, (∀ y0 y1 y2 y3 y4 y5 y6 y7 y8, LeO (impl_writes.l0 k y0 y1 y2 y3 y4 y5 y6 y7 y8) (impl_writes.l0 (k + 1) y0 y1 y2 y3 y4 y5 y6 y7 y8))
 | 0 => fun _ _ _ _ _ _ _ _ _ r h => by simp [impl_writes.l0] at h
 | k + 1 => by
   have ih0 := impl_writes.mono_l k
   · intro y0 y1 y2 y3 y4 y5 y6 y7 y8
     unfold impl_writes.l0
     exact zm2 ih0 impl_wordAt.mono
theorem impl_writes.mono : ∀ a0 a1 a2 a3 a4 a5 k, LeO (impl_writes.f k a0 a1 a2 a3 a4 a5) (impl_writes.f (k + 1) a0 a1 a2 a3 a4 a5) := by
 intro a0 a1 a2 a3 a4 a5 k
 have ih0 := impl_writes.mono_l k
 unfold impl_writes.f
 exact zm2 ih0 impl_wordAt.mono
theorem impl_writes.calls (k : Nat) (a0_0 : ByteArray) (a0_1 : Int) (a0_2 : Int) (a0_3 : Int) (a0_4 : Int) (A1 : Option Addr) (c1 : Nat) (l1 : List (List Int)) (r : List Int) (w : World) (hr1 : Kd.C (Kd.slice 5 (Kd.int .u8)) w A1 l1.length l1) (hc1 : l1.length ≤ c1) (h : impl_writes.f k a0_0 a0_1 a0_2 a0_3 a0_4 l1 = some r) :
   Calls Try.prog 55 #[.agg #[.string a0_0, .int .i64 a0_1, .int .i64 a0_2, .int .i64 a0_3, .int .i64 a0_4], .slice A1 l1.length c1] w fun e w' => ∃ v0_ : Value, e = .returned (v0_) ∧ Kd.R (Kd.int .u8) 5 w' w.heap.size (fun _ => True) v0_ r ∧ Below w.heap.size w w' := by
 have hu64 := Try.underlying64
 have HR1 := zA hr1
 have HC1 := zA hc1
 clear hr1 hc1
 have HB := zA (Below.refl w.heap.size w)
 have H : (if 4096 ≤ 281474976710656 then ((some (List.replicate 4096 0 : List Int)).bind fun y102 => (impl_writes.l0 k l1 y102 (y102.length : Int) 0 a0_0 a0_1 a0_2 a0_3 a0_4)) else (none)) = some r := h
 clear h
 by_cases c3 : 4096 ≤ 281474976710656
 rotate_left
 · rw [if_neg c3] at H
   exact absurd H (by simp)
 rw [if_pos c3] at H
 have c3b0 := eq_true c3
 have c3b1 := zdt c3
 clear c3
 obtain ⟨y102, hy102⟩ : ∃ y_ : List Int, y_ = (List.replicate 4096 0) := ⟨_, rfl⟩
 replace H : (impl_writes.l0 k l1 y102 (y102.length : Int) 0 a0_0 a0_1 a0_2 a0_3 a0_4) = some r := by first | (rw [hy102]; with_reducible exact H) | (have H2_ := (Option.bind_some _ _).symm.trans H; rw [hy102]; with_reducible exact H2_) | (have H2_ := (Option.bind_some _ _).symm.trans H; with_reducible exact H2_) | with_reducible exact H | (rw [hy102]; exact H) | exact H
 have Ny102 := zA hy102
 clear hy102
 have H' := zA H
 clear H
 go_enter Try.func55, Try.ntmps55
 go_wp2_with (first | ((with_reducible refine zgd 2 ?_); refine zbx #[.string a0_0, .int .i64 a0_1, .int .i64 a0_2, .int .i64 a0_3, .int .i64 a0_4] 64 ?_; intro gb101 hg w4 hbox hb; have zs := zpair zq2 hb; replace HB := zA (zs.1); have BK101 := zA (hbox); have GW101 := zA (zge hg zs.2); have GE101 := GW101; clear zs hb hbox hg) | ((with_reducible refine zgd 7 ?_); refine Kd.R_make (Kd.int .u8) _ 5 rfl (N := 7) rfl 68 _ _ rfl 4096 rfl rfl Try.underlying68 (.int .u8 0) 1 info5 rfl (by decide) (by omega) 0 (ok := fun _ => True) (okp := fun _ => True) rfl (fun _ hk => hk) trivial (by omega) (by omega) (Below.refl _ _) (zlr _) ?_; intro v103 w5 ho6 hb hg_ hnew_; clear hg_ hnew_; (first | rw [← Ny102.out] at ho6 | (simp only [Int.reduceToNat] at ho6; rw [← Ny102.out] at ho6)); have HO104 := zA (Kd.R_lower ho6 (below_size (zq1 GE101))); replace BK101 := zbb BK101 hb; replace HB := zA (below_step (zq1 GE101) hb); clear hb ho6; obtain ⟨Ao7, co7, eo7⟩ := Kd.R_slice HO104.out; subst eo7))
 go_loopg [10] k (fun kq v10 w' => ∃ (x5_1 : List Int) (x10_1 : Int), v10 = .int .i64 x10_1 ∧ Aside0 (impl_writes.l0 kq l1 x5_1 (y102.length : Int) x10_1 a0_0 a0_1 a0_2 a0_3 a0_4 = some r) ∧ Aside0 (kq ≤ k) ∧ Aside0 (Kd.R (Kd.int .u8) 5 w' w.heap.size (fun _ => True) (.slice Ao7 y102.length co7) x5_1) ∧ Aside0 (w'.heap[gb101]? = some (.cells #[.string a0_0, .int .i64 a0_1, .int .i64 a0_2, .int .i64 a0_3, .int .i64 a0_4] 64 (0, 0))) ∧ Aside0 (Below w.heap.size w w'))
 case atStart => exact ⟨(y102), (0), zq7, H', ⟨zlr _⟩, ⟨zq3 HO104⟩, ⟨zq6 BK101⟩, ⟨zq1 GE101⟩⟩
 clear H'
 try clear c1
 try clear c3
 try clear c3b0
 try clear c3b1
 obtain ⟨x5_1, x10_1, rfl, HA, HK1, HO_5, BK101, HB⟩ := hrel
 have hl5_1 := (zRr HO_5.out).1
 rw [hl5_1] at HO_5
 (try simp only [hl5_1])
 (try simp only [hl5_1] at BK101)
 cases gk with
 | zero => exact absurd HA.out (by simp [impl_writes.l0])
 | succ k1 =>
 have H := HA.out
 clear HA
 simp only [impl_writes.l0] at H
 by_cases c8 : x10_1 < (y102.length : Int)
 rotate_left
 · rw [if_neg c8] at H
   have c8b0 := zdf c8
   have c8b0h := c8b0
   try simp only [hl5_1] at c8b0h
   clear c8
   obtain rfl := zsi H
   go_wp2
   go_ret
   exact ⟨_, zq5, zq3 HO_5, zq1 GE101⟩
 rw [if_pos c8] at H
 have c8b0 := zdt c8
 have c8b0h := c8b0
 try simp only [hl5_1] at c8b0h
 clear c8
 replace H := zob H
 obtain ⟨t105, A90, H⟩ := H
 replace H : (if 0 ≤ x10_1 then (if x10_1 < (x5_1.length : Int) then (impl_writes.l0 k1 l1 (x5_1.set (x10_1 : Int).toNat t105) (y102.length : Int) (wrap64 (x10_1 + 1)) a0_0 a0_1 a0_2 a0_3 a0_4) else (none)) else (none)) = some r := H
 have A9 := zA A90
 clear A90
 revert H
 refine zin fun c10 H => ?_
 revert H
 refine zin fun c11 H => ?_
 obtain ⟨y106, hy106⟩ : ∃ y_ : List Int, y_ = (x5_1.set (x10_1 : Int).toNat t105) := ⟨_, rfl⟩
 replace H : (impl_writes.l0 k1 l1 y106 (y102.length : Int) (wrap64 (x10_1 + 1)) a0_0 a0_1 a0_2 a0_3 a0_4) = some r := by first | (rw [hy106]; with_reducible exact H) | (have H2_ := (Option.bind_some _ _).symm.trans H; rw [hy106]; with_reducible exact H2_) | (have H2_ := (Option.bind_some _ _).symm.trans H; with_reducible exact H2_) | with_reducible exact H | (rw [hy106]; exact H) | exact H
 have Ny106 := zA hy106
 clear hy106
 have H' := zA H
 clear H
 obtain ⟨hcz13_0, hcz13_1, hcz13_2, hcz13_3, hcz13_4⟩ := zc5 wr (.string a0_0) (.int .i64 a0_1) (.int .i64 a0_2) (.int .i64 a0_3) (.int .i64 a0_4) BK101.out
 obtain ⟨hfz13_0, hfz13_1, hfz13_2, hfz13_3, hfz13_4⟩ := zf5 BK101.out
 go_wp2_with (first | ((with_reducible refine zgc 91 ?_); refine zca 18 Try.func91 #[.agg #[.string a0_0, .int .i64 a0_1, .int .i64 a0_2, .int .i64 a0_3, .int .i64 a0_4], .slice A1 l1.length c1, .int .i64 x10_1] (impl_wordAt.calls k1 a0_0 a0_1 a0_2 a0_3 a0_4 _ _ l1 x10_1 t105 _ (zq9 HR1) HC1.out A9.out) ?_; rintro e w14 ⟨rfl, hb⟩; refine ⟨_, rfl, ?_⟩; replace HO_5 := zA (zRb (zq3 HO_5) hb); replace BK101 := zbb BK101 hb; replace HB := zA (below_step (zq1 GE101) hb); (try clear hb); have p12 : 0 ≤ (x10_1 : Int) := zde zq16; have q12 : (x10_1 : Int) < ((x5_1.length : Int) : Int) := zde zq16; obtain ⟨go12, co12, eo12, gb12, gl12, cl12, HG12⟩ := Kd.R_form HO_5.out (by omega); (first | cases eo12 | (injection eo12 with ea_ en_ ec_; (first | subst ea_ | (injection ea_ with ea_; subst ea_)); subst ec_; clear en_)); have GB12 := zA gb12; have GG12 := zA HG12; clear gb12 gl12 HG12; obtain ⟨hx12_0, hf12_0⟩ := Kd.R_celln 0 HO_5.out (x10_1 : Int) p12 q12; replace p12 := eq_true p12; replace q12 := eq_true q12; obtain ⟨hy15_, hz15_⟩ := Kd.R_celln 0 HO_5.out (x10_1 : Int) (zde zq16) (zde zq16); have HP15 := Kd.R_putg HO_5.out (x10_1 : Int) t105) | ((with_reducible refine zgs 5 19 ?_); refine zse (w14.setCell ⟨go12, (x10_1 : Int).toNat, none⟩ (.int .u8 t105)) ?_; intro w16 hw; have hg : w14.grownBy w16 (some go12) := (by rw [hw]; exact HP15.2); have hp_ : Kd.R (Kd.int .u8) 5 w16 w.heap.size (fun _ => True) (.slice (some ⟨go12, 0, none⟩) x5_1.length co7) y106 := (by rw [hw, Ny106.out]; exact HP15.1); clear HP15; replace BK101 := zA (blk_grown (g := gb101) (o := .cells #[.string a0_0, .int .i64 a0_1, .int .i64 a0_2, .int .i64 a0_3, .int .i64 a0_4] 64 (0, 0)) (zq6 BK101) hg (Kd.R_ne HO_5.out BK101.out (by decide))); replace HO_5 := zA (hp_); replace HB := zA ((zq54 GB12 : Below w.heap.size w w16)); clear hg hw hp_))
 (try simp only [← hl5_1])
 go_roundg k1
 case measure => have := HK1.out; omega
 case rel => exact ⟨(y106), (wrap64 (x10_1 + 1)), zq7, H', ⟨zq37 HK1⟩, ⟨by (try simp only [hl5_1]); (with_reducible repeat (first | apply zRa | apply zRn | apply zRd)); exact HO_5.out⟩, ⟨by (try simp only [hl5_1]); (with_reducible repeat (first | refine zkn ?_ _ | refine zkd ?_ | refine zka ?_ _)); exact BK101.out⟩, ⟨zq1 GE101⟩⟩
def impl_columnsOf.l0 : Nat → List (List Int) → List (S64) → Int → Int → Option ((List (List Int)))
 | 0, _, _, _, _ => none
 | k + 1, x3, x7, x8, x9 => if x9 < x8 then (if 0 ≤ x9 then (if x9 < (x7.length : Int) then ((impl_writes.f k ((rd_T64 x7 x9).f0) ((rd_T64 x7 x9).f1) ((rd_T64 x7 x9).f2) ((rd_T64 x7 x9).f3) ((rd_T64 x7 x9).f4) x3).bind fun t106 => (if x3.length < 5864062014805 then (impl_columnsOf.l0 k (x3 ++ [t106]) x7 x8 (wrap64 (x9 + 1))) else (none))) else (none)) else (none)) else (some x3)
def impl_columnsOf.f (k : Nat) (l0 : List (S64)) : Option ((List (List Int))) := (impl_begun.f k).bind fun t101 => (impl_columnsOf.l0 k t101 l0 (l0.length : Int) 0)
theorem impl_columnsOf.mono_l : ∀ k, (∀ y0 y1 y2 y3, LeO (impl_columnsOf.l0 k y0 y1 y2 y3) (impl_columnsOf.l0 (k + 1) y0 y1 y2 y3))
 | 0 => fun _ _ _ _ r h => by simp [impl_columnsOf.l0] at h
 | k + 1 => by
   have ih0 := impl_columnsOf.mono_l k
   · intro y0 y1 y2 y3
     unfold impl_columnsOf.l0
     exact zm3 ih0 impl_begun.mono impl_writes.mono
theorem impl_columnsOf.mono : ∀ a0 k, LeO (impl_columnsOf.f k a0) (impl_columnsOf.f (k + 1) a0) := by
 intro a0 k
 have ih0 := impl_columnsOf.mono_l k
 unfold impl_columnsOf.f
 exact zm3 ih0 impl_begun.mono impl_writes.mono
theorem impl_columnsOf.calls (k : Nat) (A0 : Option Addr) (c0 : Nat) (l0 : List (S64)) (r : List (List Int)) (w : World) (hr0 : Kd.C k64 w A0 l0.length l0) (hc0 : l0.length ≤ c0) (h : impl_columnsOf.f k l0 = some r) :
   Calls Try.prog 75 #[.slice A0 l0.length c0] w fun e w' => ∃ v0_ : Value, e = .returned (v0_) ∧ Kd.N (Kd.slice 5 (Kd.int .u8)) 68 w' w.heap.size (fun k_ => (w.heap.size ≤ k_)) v0_ r ∧ Below w.heap.size w w' := by
 have hu64 := Try.underlying64
 have HR0 := zA hr0
 have HC0 := zA hc0
 clear hr0 hc0
 have HB := zA (Below.refl w.heap.size w)
 have H : ((impl_begun.f k).bind fun t101 => (impl_columnsOf.l0 k t101 l0 (l0.length : Int) 0)) = some r := h
 clear h
 replace H := zob H
 obtain ⟨t101, A20, H⟩ := H
 replace H : (impl_columnsOf.l0 k t101 l0 (l0.length : Int) 0) = some r := H
 have A2 := zA A20
 clear A20
 have H' := zA H
 clear H
 go_enter Try.func75, Try.ntmps75
 go_wp2_with (first | ((with_reducible refine zgc 56 ?_); refine zcl 6 Try.func56 (impl_begun.calls k  t101 _ A2.out) ?_; rintro e w3 ⟨v102, rfl, ho0, hb⟩; refine ⟨_, rfl, ?_⟩; have HO103 := zA (Kd.N_lower (Kd.N_mono (ok' := fun k_ => (w.heap.size ≤ k_)) ho0 (fun k_ hk_ => (Nat.le_trans (below_size zq2) hk_))) (below_size zq2)); replace HB := zA (below_step zq2 hb); (try clear hb); (try clear ho0)))
 go_loopg [3, 9] k (fun kq v3 v9 w' => ∃ (x3_1 : List (List Int)) (x9_1 : Int), v9 = .int .i64 x9_1 ∧ Aside0 (impl_columnsOf.l0 kq x3_1 l0 (l0.length : Int) x9_1 = some r) ∧ Aside0 (kq ≤ k) ∧ Aside0 (Kd.N (Kd.slice 5 (Kd.int .u8)) 68 w' w.heap.size (fun k_ => (w.heap.size ≤ k_)) v3 x3_1) ∧ Aside0 (Below w.heap.size w w'))
 case atStart => exact ⟨(t101), (0), zq7, H', ⟨zlr _⟩, ⟨zq30 HO103⟩, ⟨zq2⟩⟩
 clear H'
 obtain ⟨x3_1, x9_1, rfl, HA, HK1, HO_3, HB⟩ := hrel
 cases gk with
 | zero => exact absurd HA.out (by simp [impl_columnsOf.l0])
 | succ k1 =>
 have H := HA.out
 clear HA
 simp only [impl_columnsOf.l0] at H
 revert H
 refine zit (fun c4 H => ?_) fun c4 H => ?_
 rotate_left
 · obtain rfl := zsi H
   go_wp2
   go_ret
   exact ⟨_, zq5, zq30 HO_3, zq2⟩
 revert H
 refine zin fun c5 H => ?_
 revert H
 refine zin fun c6 H => ?_
 replace H := zob H
 obtain ⟨t106, A70, H⟩ := H
 replace H : (if x3_1.length < 5864062014805 then (impl_columnsOf.l0 k1 (x3_1 ++ [t106]) l0 (l0.length : Int) (wrap64 (x9_1 + 1))) else (none)) = some r := H
 have A7 := zA A70
 clear A70
 by_cases c8 : x3_1.length < 5864062014805
 rotate_left
 · rw [if_neg c8] at H
   exact absurd H (by simp)
 rw [if_pos c8] at H
 have LMc8 := zA c8
 clear c8
 obtain ⟨y109, hy109⟩ : ∃ y_ : List (List Int), y_ = (x3_1 ++ [t106]) := ⟨_, rfl⟩
 replace H : (impl_columnsOf.l0 k1 y109 l0 (l0.length : Int) (wrap64 (x9_1 + 1))) = some r := by first | (rw [hy109]; with_reducible exact H) | (have H2_ := (Option.bind_some _ _).symm.trans H; rw [hy109]; with_reducible exact H2_) | (have H2_ := (Option.bind_some _ _).symm.trans H; with_reducible exact H2_) | with_reducible exact H | (rw [hy109]; exact H) | exact H
 have Ny109 := zA hy109
 clear hy109
 have H' := zA H
 clear H
 obtain ⟨p104, q104⟩ := zpq x9_1 l0.length
 obtain ⟨ad104, e104, hx104_0, hx104_1, hx104_2, hx104_3, hx104_4⟩ := at_T64 HR0.out x9_1 (zoe p104) (zoe q104)
 cases e104
 replace hx104_0 := zkep HB.out hx104_0
 replace hx104_1 := zkep HB.out hx104_1
 replace hx104_2 := zkep HB.out hx104_2
 replace hx104_3 := zkep HB.out hx104_3
 replace hx104_4 := zkep HB.out hx104_4
 go_wp2_with (first | ((with_reducible refine zgd 5 ?_); refine zbx #[.string (⟨#[]⟩ : ByteArray), .int .i64 0, .int .i64 0, .int .i64 0, .int .i64 0] 64 ?_; intro gb105 hg w9 hbox hb; have zs := zpair zq2 hb; replace HO_3 := zA (Kd.N_below (Kd.N_elderB (zq30 HO_3) gb105 (Nat.le_of_eq hg.symm)) hb); replace HB := zA (zs.1); have BK105 := zA (hbox); have GW105 := zA (zge hg zs.2); have GE105 := GW105; clear zs hb hbox hg; obtain ⟨hcz10_0, hcz10_1, hcz10_2, hcz10_3, hcz10_4, hfz10_0, hfz10_1, hfz10_2, hfz10_3, hfz10_4⟩ := zd5 BK105; obtain ⟨Ao11, co11, eo11⟩ := Kd.N_slice HO_3.out; subst eo11) | ((with_reducible refine zgc 55 ?_); refine zca 16 Try.func55 #[.agg #[.string ((rd_T64 l0 x9_1).f0), .int .i64 ((rd_T64 l0 x9_1).f1), .int .i64 ((rd_T64 l0 x9_1).f2), .int .i64 ((rd_T64 l0 x9_1).f3), .int .i64 ((rd_T64 l0 x9_1).f4)], .slice Ao11 x3_1.length co11] (impl_writes.calls k1 ((rd_T64 l0 x9_1).f0) ((rd_T64 l0 x9_1).f1) ((rd_T64 l0 x9_1).f2) ((rd_T64 l0 x9_1).f3) ((rd_T64 l0 x9_1).f4) _ _ x3_1 t106 _ (by refine (Kd.N_reads' (e := 68) (base := w.heap.size) (ok := fun k_ => ((w.heap.size ≤ k_) ∧ k_ ≠ gb105)) (n := x3_1.length) (c := co11) ?_).2.2; exact (zq36 HO_3)) (by exact (Kd.N_reads' HO_3.out).2.1) A7.out) ?_; rintro e w12 ⟨v107, rfl, ho0, hb⟩; refine ⟨_, rfl, ?_⟩; replace HO_3 := zA (Kd.N_elder' (zq36 HO_3) (Kd.R_base ho0) hb); have HO108 := zA (Kd.R_lower (Kd.R_newM (M := fun k_ => (w.heap.size ≤ k_)) ho0 (below_size (zq1 GE105)) (fun k_ h_ => h_)) (below_size (zq1 GE105))); replace BK105 := zA (blk_below (g := gb105) (o := .cells #[.string ((rd_T64 l0 x9_1).f0), .int .i64 ((rd_T64 l0 x9_1).f1), .int .i64 ((rd_T64 l0 x9_1).f2), .int .i64 ((rd_T64 l0 x9_1).f3), .int .i64 ((rd_T64 l0 x9_1).f4)] 64 (0, 0)) (by (with_reducible repeat (first | refine zkn ?_ _ | refine zkd ?_ | refine zka ?_ _)); refine blk_put (cs := #[.string ((rd_T64 l0 x9_1).f0), .int .i64 ((rd_T64 l0 x9_1).f1), .int .i64 ((rd_T64 l0 x9_1).f2), .int .i64 ((rd_T64 l0 x9_1).f3), .int .i64 0]) ?_ 4 _ rfl; (with_reducible repeat (first | refine zkn ?_ _ | refine zkd ?_ | refine zka ?_ _)); refine blk_put (cs := #[.string ((rd_T64 l0 x9_1).f0), .int .i64 ((rd_T64 l0 x9_1).f1), .int .i64 ((rd_T64 l0 x9_1).f2), .int .i64 0, .int .i64 0]) ?_ 3 _ rfl; (with_reducible repeat (first | refine zkn ?_ _ | refine zkd ?_ | refine zka ?_ _)); refine blk_put (cs := #[.string ((rd_T64 l0 x9_1).f0), .int .i64 ((rd_T64 l0 x9_1).f1), .int .i64 0, .int .i64 0, .int .i64 0]) ?_ 2 _ rfl; (with_reducible repeat (first | refine zkn ?_ _ | refine zkd ?_ | refine zka ?_ _)); refine blk_put (cs := #[.string ((rd_T64 l0 x9_1).f0), .int .i64 0, .int .i64 0, .int .i64 0, .int .i64 0]) ?_ 1 _ rfl; (with_reducible repeat (first | refine zkn ?_ _ | refine zkd ?_ | refine zka ?_ _)); refine blk_put (cs := #[.string (⟨#[]⟩ : ByteArray), .int .i64 0, .int .i64 0, .int .i64 0, .int .i64 0]) ?_ 0 _ rfl; (with_reducible repeat (first | refine zkn ?_ _ | refine zkd ?_ | refine zka ?_ _)); exact BK105.out) hb); replace HB := zA (below_step (zq1 GE105) hb); (try clear hb); (try clear hk); (try clear ho0); obtain ⟨Ao14, co14, eo14⟩ := Kd.R_slice HO108.out; subst eo14) | ((with_reducible refine gate_builtin (b := .append) (xs := #[.tmp 13, .tmp 17]) rfl ?_); at_builtin; refine Kd.N_append (Kd.slice 5 (Kd.int .u8)) (w0 := w) w.heap.size rfl (.tmp 13) (.tmp 17) 84 68 (.slice none 0 0) 24 rfl Try.underlying84 info68 rfl (by decide) (by omega) (.slice Ao11 x3_1.length co11) x3_1 t106 [.slice Ao14 t106.length co14] (fun k_ => (w.heap.size ≤ k_) ∧ k_ ≠ gb105) (fun k_ => ((fun k_ => (w.heap.size ≤ k_) ∧ k_ ≠ gb105)) k_ ∧ some k_ ≠ (.slice Ao11 x3_1.length co11 : Value).ownBlock) rfl rfl ?aP (fun _ hk => hk) ?aF ?aO ?aB ?aS ?aL ?_; (case aP => exact (Kd.FK_slice_mk (zRr (Kd.R_mono (ok' := (fun k_ => ((fun k_ => (w.heap.size ≤ k_) ∧ k_ ≠ gb105)) k_ ∧ some k_ ≠ (.slice Ao11 x3_1.length co11 : Value).ownBlock)) (Kd.R_types (Kd.R_apart' (HO108.out) (Kd.N_typed HO_3.out) (by decide)) BK105.out (by decide)) (fun k_ hk => ⟨⟨hk.1.1.1, hk.2⟩, hk.1.2⟩))).2.1 (Kd.R_F (Kd.R_mono (ok' := (fun k_ => ((fun k_ => (w.heap.size ≤ k_) ∧ k_ ≠ gb105)) k_ ∧ some k_ ≠ (.slice Ao11 x3_1.length co11 : Value).ownBlock)) (Kd.R_types (Kd.R_apart' (HO108.out) (Kd.N_typed HO_3.out) (by decide)) BK105.out (by decide)) (fun k_ hk => ⟨⟨hk.1.1.1, hk.2⟩, hk.1.2⟩))))); (case aB => exact (zq1 GE105)); (case aF => exact (fun k_ hk => ⟨(Nat.le_trans (below_size (zq1 GE105)) hk), Kd.freshB (g := gb105) (o := .cells #[.string ((rd_T64 l0 x9_1).f0), .int .i64 ((rd_T64 l0 x9_1).f1), .int .i64 ((rd_T64 l0 x9_1).f2), .int .i64 ((rd_T64 l0 x9_1).f3), .int .i64 ((rd_T64 l0 x9_1).f4)] 64 (0, 0)) (zq6 BK105) k_ hk⟩)); (case aO => exact (by (with_reducible repeat (first | apply Kd.N_alloc | apply Kd.N_drewN | apply Kd.N_drew)); exact Kd.N_mono HO_3.out (fun _ hk => ⟨hk.1.1, hk.1.2⟩))); (case aS => exact (below_size (zq1 GE105))); (case aL => have := LMc8.out; omega); intro v110 w13 ho hb hg hat; rw [← Ny109.out] at ho; replace BK105 := zA (blk_grown (g := gb105) (o := .cells #[.string ((rd_T64 l0 x9_1).f0), .int .i64 ((rd_T64 l0 x9_1).f1), .int .i64 ((rd_T64 l0 x9_1).f2), .int .i64 ((rd_T64 l0 x9_1).f3), .int .i64 ((rd_T64 l0 x9_1).f4)] 64 (0, 0)) (zq6 BK105) hg (Kd.N_ne HO_3.out BK105.out (by decide))); replace HB := zA (hb); have HO111 := zA (ho); clear HO_3 HO108; clear ho hb hg hat))
 go_roundg k1
 case measure => have := HK1.out; omega
 case rel => exact ⟨(y109), (wrap64 (x9_1 + 1)), zq7, H', ⟨zq37 HK1⟩, ⟨by (with_reducible repeat (first | apply Kd.N_alloc | apply Kd.N_drewN | apply Kd.N_drew)); exact Kd.N_mono HO111.out (fun _ hk => hk.1)⟩, ⟨zq1 GE105⟩⟩
def impl_lastOf.f (k : Nat) (l0 : List (S64)) : Option (List Int) := if (l0.length : Int) = 0 then ((impl_begun.f k).bind fun t101 => (if 0 < (t101.length : Int) then (some (rd_L10 t101 0)) else (none))) else ((impl_columnsOf.f k l0).bind fun t105 => (if 0 ≤ (wrap64 ((t105.length : Int) - 1)) then (if (wrap64 ((t105.length : Int) - 1)) < (t105.length : Int) then (some (rd_L10 t105 (wrap64 ((t105.length : Int) - 1)))) else (none)) else (none)))
theorem impl_lastOf.mono : ∀ a0 k, LeO (impl_lastOf.f k a0) (impl_lastOf.f (k + 1) a0) := by
 intro a0 k
 unfold impl_lastOf.f
 exact zm2 impl_begun.mono impl_columnsOf.mono
theorem impl_lastOf.calls (k : Nat) (A0 : Option Addr) (c0 : Nat) (l0 : List (S64)) (r : List Int) (w : World) (hr0 : Kd.C k64 w A0 l0.length l0) (hc0 : l0.length ≤ c0) (h : impl_lastOf.f k l0 = some r) :
   Calls Try.prog 36 #[.slice A0 l0.length c0] w fun e w' => ∃ v0_ : Value, e = .returned (v0_) ∧ Kd.V (Kd.int .u8) 5 w' w.heap.size (fun k_ => (w.heap.size ≤ k_)) v0_ r ∧ Below w.heap.size w w' := by
 have HR0 := zA hr0
 have HC0 := zA hc0
 clear hr0 hc0
 have HB := zA (Below.refl w.heap.size w)
 have H : (if (l0.length : Int) = 0 then ((impl_begun.f k).bind fun t101 => (if 0 < (t101.length : Int) then (some (rd_L10 t101 0)) else (none))) else ((impl_columnsOf.f k l0).bind fun t105 => (if 0 ≤ (wrap64 ((t105.length : Int) - 1)) then (if (wrap64 ((t105.length : Int) - 1)) < (t105.length : Int) then (some (rd_L10 t105 (wrap64 ((t105.length : Int) - 1)))) else (none)) else (none)))) = some r := h
 clear h
 by_cases c2 : (l0.length : Int) = 0
 · rw [if_pos c2] at H
   obtain ⟨c2b0, c2b1⟩ := zbe c2
   clear c2
   replace H := zob H
   obtain ⟨t101, A30, H⟩ := H
   replace H : (if 0 < (t101.length : Int) then (some (rd_L10 t101 0)) else (none)) = some r := H
   have A3 := zA A30
   clear A30
   by_cases c4 : 0 < (t101.length : Int)
   rotate_left
   · rw [if_neg c4] at H
     exact absurd H (by simp)
   rw [if_pos c4] at H
   have c4b0 := zdt c4
   have c4b1 : decide (0 < t101.length) = true := zdt (by omega)
   clear c4
   obtain rfl := zsi H
   go_enter Try.func36, Try.ntmps36
   go_wp2_with (first | ((with_reducible refine zgc 56 ?_); refine zcl 7 Try.func56 (impl_begun.calls k  t101 _ A3.out) ?_; rintro e w5 ⟨v102, rfl, ho0, hb⟩; refine ⟨_, rfl, ?_⟩; have HO103 := zA (Kd.N_lower (Kd.N_mono (ok' := fun k_ => (w.heap.size ≤ k_)) ho0 (fun k_ hk_ => (Nat.le_trans (below_size zq2) hk_))) (below_size zq2)); replace HB := zA (below_step zq2 hb); (try clear hb); (try clear ho0); obtain ⟨Ao6, co6, eo6⟩ := Kd.N_slice HO103.out; subst eo6; have p104 : 0 ≤ (0 : Int) := (by omega); have q104 : 0 < (t101.length : Int) := zde zq16; obtain ⟨ad104, A104_0, c104_0, e104, hx104_0, hl104_0, hi104_0⟩ := at_L10 (Kd.N_reads' HO103.out).2.2 0 p104 q104; cases e104; obtain ⟨ce104, hce104, hMe104, hcc104⟩ := Kd.N_get HO103.out [] 0 p104 (by first | exact q104 | exact zde zq16 | (have e_ := (Kd.N_reads' HO103.out).1; omega)); obtain ⟨ua104_0, uc104_0, rfl, ul104_0, ge104_0⟩ := Kd.FK_slice_open hMe104; have hv104_0 := hcc104 0 _ rfl; rw [Nat.add_zero, show ((Kd.slice 5 (Kd.int .u8))).sz = 1 from rfl, Nat.mul_one] at hv104_0; replace hv104_0 := zsi (hv104_0.symm.trans hx104_0); injection hv104_0 with hva_ hvn_ hvc_; rw [hva_] at ge104_0; rw [hvc_] at ul104_0; have HL104_0 := zA (show Kd.V (Kd.int .u8) 5 _ w.heap.size _ _ (rd_L10 t101 0) from Kd.V_mk ul104_0 ge104_0); clear hva_ hvn_ hvc_ ge104_0 ul104_0; clear hcc104 hce104; have qi104 : (0 < t101.length) = True := eq_true (by omega); (try rw [show ((0 : Int)).toNat = 0 from rfl] at hx104_0); (try rw [Addr.add_zero'] at hx104_0); have HR104_0 := zA hi104_0; have HC104_0 := zA hl104_0; clear hi104_0 hl104_0; replace p104 := eq_true p104; replace q104 := eq_true q104))
   go_ret
   exact ⟨_, zq5, zq56 HL104_0, zq2⟩
 rw [if_neg c2] at H
 obtain ⟨c2b0, c2b1⟩ := zbq c2
 have c2b2 : ¬ (l0 = []) := fun h_ => c2 (by rw [h_]; rfl)
 replace H := zob H
 obtain ⟨t105, A70, H⟩ := H
 replace H : (if 0 ≤ (wrap64 ((t105.length : Int) - 1)) then (if (wrap64 ((t105.length : Int) - 1)) < (t105.length : Int) then (some (rd_L10 t105 (wrap64 ((t105.length : Int) - 1)))) else (none)) else (none)) = some r := H
 have A7 := zA A70
 clear A70
 obtain ⟨ji8, hji8⟩ : ∃ j_ : Int, (wrap64 ((t105.length : Int) - 1)) = j_ := ⟨_, rfl⟩
 replace H : (if 0 ≤ (ji8) then (if (ji8) < (t105.length : Int) then (some (rd_L10 t105 (ji8))) else (none)) else (none)) = some r := by first | (rw [hji8] at H; exact H) | (simp only [hji8] at H ⊢; exact H)
 (try rw [hji8] at A7)
 have hji8w : (IntKind.i64.wrap ((t105.length : Int) - 1)) = ji8 := (i64_w _).trans hji8
 revert H
 refine zin fun c9 H => ?_
 revert H
 refine zin fun c10 H => ?_
 obtain rfl := zsi H
 go_enter Try.func36, Try.ntmps36
 go_wp2_with (first | ((with_reducible refine zgc 75 ?_); refine zca 11 Try.func75 #[.slice A0 l0.length c0] (impl_columnsOf.calls k _ _ l0 t105 _ (zq35 HR0) HC0.out A7.out) ?_; rintro e w11 ⟨v106, rfl, ho0, hb⟩; refine ⟨_, rfl, ?_⟩; have HO107 := zA (Kd.N_lower (Kd.N_mono (ok' := fun k_ => (w.heap.size ≤ k_)) ho0 (fun k_ hk_ => (Nat.le_trans (below_size zq2) hk_))) (below_size zq2)); replace HB := zA (below_step zq2 hb); (try clear hb); (try clear ho0); obtain ⟨Ao12, co12, eo12⟩ := Kd.N_slice HO107.out; subst eo12; have p108 : 0 ≤ ((ji8) : Int) := zde zq16; have q108 : (ji8) < (t105.length : Int) := zde zq16; obtain ⟨ad108, A108_0, c108_0, e108, hx108_0, hl108_0, hi108_0⟩ := at_L10 (Kd.N_reads' HO107.out).2.2 (ji8) p108 q108; cases e108; obtain ⟨ce108, hce108, hMe108, hcc108⟩ := Kd.N_get HO107.out [] (ji8) p108 (by first | exact q108 | exact zde zq16 | (have e_ := (Kd.N_reads' HO107.out).1; omega)); obtain ⟨ua108_0, uc108_0, rfl, ul108_0, ge108_0⟩ := Kd.FK_slice_open hMe108; have hv108_0 := hcc108 0 _ rfl; rw [Nat.add_zero, show ((Kd.slice 5 (Kd.int .u8))).sz = 1 from rfl, Nat.mul_one] at hv108_0; replace hv108_0 := zsi (hv108_0.symm.trans hx108_0); injection hv108_0 with hva_ hvn_ hvc_; rw [hva_] at ge108_0; rw [hvc_] at ul108_0; have HL108_0 := zA (show Kd.V (Kd.int .u8) 5 _ w.heap.size _ _ (rd_L10 t105 (ji8)) from Kd.V_mk ul108_0 ge108_0); clear hva_ hvn_ hvc_ ge108_0 ul108_0; clear hcc108 hce108; have HR108_0 := zA hi108_0; have HC108_0 := zA hl108_0; clear hi108_0 hl108_0; replace p108 := eq_true p108; replace q108 := eq_true q108))
 go_ret
 exact ⟨_, by first | rfl | (simp [errW_none, errW_some] <;> rfl) | (simp only [← hji8]; first | rfl | (simp [errW_none, errW_some] <;> rfl)) | (simp [*, errW_none, errW_some] <;> rfl), zq56 HL108_0, zq2⟩
end Go.Proofs.Ytnaafcleafbejaa.Q
end
section
namespace Go.Proofs.Ytnaafcleafbejaa.Q
open Go Go.RowKit Go.Proofs Go.Proofs.YtnaafcleafbejaaW.PrintLast Go.Proofs.YtnaafcleafbejaaW.PrintWords
theorem box_C {α : Type} {d : Kd α} {W : World} {g : Nat} {o : Obj} (hb : W.heap[g]? = some o) {cs : List Value} {t : TypeId} (ho : o = .cells cs.toArray t (0, 0)) {x : α} (hk : d.K W x cs) : d.C W (some ⟨g, 0, none⟩) 1 [x] := by
  subst ho
  refine ⟨rfl, by decide, fun _ => ⟨_, rfl, fun j p hj => ?_⟩⟩
  have hj0 : j = 0 := by
    have := (List.getElem?_eq_some_iff.1 hj).1
    simp at this
    omega
  subst hj0
  have hp : x = p := by simpa using hj
  subst hp
  refine ⟨cs, d.K_len hk, hk, fun i u hu => ?_⟩
  rw [Nat.zero_mul, Nat.zero_add, show (Addr.add ⟨g, 0, none⟩ i : Addr) = ⟨g, i, none⟩ by unfold Addr.add; by_cases h : i = 0 <;> simp [h]]
  rw [blk_cell hb i]
  simpa using hu
theorem more_ {P : Program} {ops : Array Oper} {Q : Exit → Act → World → Prop} {md : Region.Mode} {S S' : World → Prop} (hi : ∀ w', S' w' → S w') {fuel : Nat} {l : Array Bool} {a : Act} {w : World} (hs : S' w) (h : S' w → wpAnyLast P md ops Q S' [] fuel l a w) : wpAnyLast P md ops Q S [] fuel l a w := by
  have key : ∀ (fuel : Nat) (l : Array Bool) (a : Act) (w : World), S' w → wpAnyLast P md ops Q S' [] fuel l a w → wpAnyLast P md ops Q S [] fuel l a w := by
    intro fuel
    induction fuel with
    | zero => exact fun _ _ _ _ h => h
    | succ fuel ih =>
      intro l a w hs h
      refine ⟨h.1, fun i hr => wpOp_mono (fun a' w' hh => ?_) (h.2 i hr)⟩
      have hs' := hh.1 (by simp) hs
      exact ⟨fun _ _ => hi _ hs', ih _ _ _ hs' hh.2⟩
  exact key fuel l a w hs (h hs)
end Go.Proofs.Ytnaafcleafbejaa.Q
end
section
namespace Go.Proofs.Ytnaafcleafbejaa.Q
open Go.RowKit Go.Proofs.YtnaafcleafbejaaW.PrintWords Go.Proofs.YtnaafcleafbejaaW.PrintLast Go.Proofs.YtnaafcleafbejaaW.PrintMore
set_option maxHeartbeats 8000000
set_option maxRecDepth 100000
attribute [local go_sem] max2_int min2_int max_two min_two max_three min_three max_four min_four
set_option linter.unusedVariables false
set_option linter.unusedSimpArgs false
def impl_values.l0 : Nat → Int → Int → List Int → List (S60) → Int → Int → Option (List Int)
 | 0, _, _, _, _, _, _ => none
 | k + 1, x1, x2, x7, x13, x14, x15 => if x15 < x14 then (if 0 ≤ x15 then (if x15 < (x13.length : Int) then (if ((rd_T60 x13 x15).f0).toList = ([105, 110] : List UInt8) then ((some (([x1, x2] : List Int) : List Int)).bind fun y106 => (if 0 ≤ ((rd_T60 x13 x15).f3) then (if ((rd_T60 x13 x15).f3) < (y106.length : Int) then (if x15 < (x7.length : Int) then (impl_values.l0 k x1 x2 (x7.set (x15 : Int).toNat (rd y106 ((rd_T60 x13 x15).f3))) x13 x14 (wrap64 (x15 + 1))) else (none)) else (none)) else (none))) else (if ((rd_T60 x13 x15).f0).toList = ([99, 111, 110, 115, 116] : List UInt8) then (if x15 < (x7.length : Int) then (impl_values.l0 k x1 x2 (x7.set (x15 : Int).toNat ((rd_T60 x13 x15).f3)) x13 x14 (wrap64 (x15 + 1))) else (none)) else (if 0 ≤ ((rd_T60 x13 x15).f1) then (if ((rd_T60 x13 x15).f1) < (x7.length : Int) then (if 0 ≤ ((rd_T60 x13 x15).f2) then (if ((rd_T60 x13 x15).f2) < (x7.length : Int) then ((impl_apply.f ((rd_T60 x13 x15).f0) (rd x7 ((rd_T60 x13 x15).f1)) (rd x7 ((rd_T60 x13 x15).f2))).bind fun t114 => (if x15 < (x7.length : Int) then (impl_values.l0 k x1 x2 (x7.set (x15 : Int).toNat t114) x13 x14 (wrap64 (x15 + 1))) else (none))) else (none)) else (none)) else (none)) else (none)))) else (none)) else (none)) else (some x7)
def impl_values.f (k : Nat) (l0 : List (S60)) (a1 : Int) (a2 : Int) : Option (List Int) := if 0 ≤ (l0.length : Int) then (if ((l0.length : Int) : Int).toNat ≤ 35184372088832 then (impl_values.l0 k a1 a2 (List.replicate ((l0.length : Int) : Int).toNat 0) l0 (l0.length : Int) 0) else (none)) else (none)
theorem impl_values.mono_l : ∀ k, (∀ y0 y1 y2 y3 y4 y5, LeO (impl_values.l0 k y0 y1 y2 y3 y4 y5) (impl_values.l0 (k + 1) y0 y1 y2 y3 y4 y5))
 | 0 => fun _ _ _ _ _ _ r h => by simp [impl_values.l0] at h
 | k + 1 => by
   have ih0 := impl_values.mono_l k
   · intro y0 y1 y2 y3 y4 y5
     unfold impl_values.l0
     exact zm1 ih0
theorem impl_values.mono : ∀ a0 a1 a2 k, LeO (impl_values.f k a0 a1 a2) (impl_values.f (k + 1) a0 a1 a2) := by
 intro a0 a1 a2 k
 have ih0 := impl_values.mono_l k
 unfold impl_values.f
 exact zm1 ih0
def impl_values.T6 : Bool × List (List Nat × List Nat) := (true, [([], []), ([], []), ([], []), ([2], [2]), ([], []), ([], []), ([5], [5]), ([4, 6], [4, 6]), ([7], [7]), ([], []), ([], []), ([10], [10]), ([9, 11], [9, 11]), ([12], [12]), ([3, 8, 13], [3, 8, 13]), ([0, 1, 0, 1, 2, 3, 4, 5, 6, 7, 8, 9, 10, 11, 12, 13, 14], [0, 1]), ([15, 14, 14, 0, 1, 2, 3, 4, 5, 6, 7, 8, 9, 10, 11, 12, 13, 14], [14, 15])])
def impl_values.B6 : List Nat := [0, 0, 0, 4, 0, 0, 32, 112, 240, 0, 0, 1024, 3584, 7680, 16380, 32767, 65535]
theorem impl_values.tab6 : rtab .any (opsOf Try.f107 6) = impl_values.T6 := by kernel_rfl
theorem impl_values.bits6 : waitsOk impl_values.T6.2 impl_values.B6 = true := by kernel_rfl
theorem impl_values.calls (k : Nat) (A0 : Option Addr) (c0 : Nat) (l0 : List (S60)) (a1 : Int) (a2 : Int) (r : List Int) (w : World) (hr0 : Kd.C k60 w A0 l0.length l0) (hc0 : l0.length ≤ c0) (h : impl_values.f k l0 a1 a2 = some r) :
   Calls Try.prog 107 #[.slice A0 l0.length c0, .int .i64 a1, .int .i64 a2] w fun e w' => ∃ v0_ : Value, e = .returned (v0_) ∧ Kd.R (Kd.int .i64) 3 w' w.heap.size (fun _ => True) v0_ r ∧ Below w.heap.size w w' := by
 have hu60 := Try.underlying60
 have HR0 := zA hr0
 have HC0 := zA hc0
 clear hr0 hc0
 have HB := zA (Below.refl w.heap.size w)
 have H : (if 0 ≤ (l0.length : Int) then (if ((l0.length : Int) : Int).toNat ≤ 35184372088832 then (impl_values.l0 k a1 a2 (List.replicate ((l0.length : Int) : Int).toNat 0) l0 (l0.length : Int) 0) else (none)) else (none)) = some r := h
 clear h
 by_cases c4 : 0 ≤ (l0.length : Int)
 rotate_left
 · rw [if_neg c4] at H
   exact absurd H (by simp)
 rw [if_pos c4] at H
 have c4b0 := eq_true c4
 have c4b1 := zdt c4
 clear c4
 by_cases c5 : ((l0.length : Int) : Int).toNat ≤ 35184372088832
 rotate_left
 · rw [if_neg c5] at H
   exact absurd H (by simp)
 rw [if_pos c5] at H
 have c5b0 := eq_true c5
 have c5b1 := zdt c5
 clear c5
 obtain ⟨y101, hy101⟩ : ∃ y_ : List Int, y_ = (List.replicate ((l0.length : Int) : Int).toNat 0) := ⟨_, rfl⟩
 replace H : (impl_values.l0 k a1 a2 y101 l0 (l0.length : Int) 0) = some r := by first | (rw [hy101]; with_reducible exact H) | (have H2_ := (Option.bind_some _ _).symm.trans H; rw [hy101]; with_reducible exact H2_) | (have H2_ := (Option.bind_some _ _).symm.trans H; with_reducible exact H2_) | with_reducible exact H | (rw [hy101]; exact H) | exact H
 have Ny101 := zA hy101
 clear hy101
 have H' := zA H
 clear H
 go_enter Try.func107, Try.ntmps107
 go_wp2_with (first | ((with_reducible refine zgd 12 ?_); refine Kd.R_make (Kd.int .i64) _ 3 rfl (N := 12) rfl 24 _ _ rfl (l0.length : Int) rfl rfl Try.underlying24 (.int .i64 0) 8 info3 rfl (by decide) (by omega) 0 (ok := fun _ => True) (okp := fun _ => True) rfl (fun _ hk => hk) trivial (zde zq16) (Nat.le_trans (Nat.mul_le_mul_right _ (zde zq16 : (l0.length : Int).toNat ≤ 35184372088832)) (by omega)) (Below.refl _ _) (zlr _) ?_; intro v102 w6 ho7 hb hg_ hnew_; clear hg_ hnew_; (first | rw [← Ny101.out] at ho7 | (simp only [Int.reduceToNat] at ho7; rw [← Ny101.out] at ho7)); have HO103 := zA (Kd.R_lower ho7 (below_size zq2)); replace HB := zA (below_step zq2 hb); clear hb ho7))
 go_loopg [15] k (fun kq v15 w' => ∃ (x7_1 : List Int) (x15_1 : Int), v15 = .int .i64 x15_1 ∧ Aside0 (impl_values.l0 kq a1 a2 x7_1 l0 (l0.length : Int) x15_1 = some r) ∧ Aside0 (kq ≤ k) ∧ Aside0 (Kd.R (Kd.int .i64) 3 w' w.heap.size (fun _ => True) v102 x7_1) ∧ Aside0 (Below w.heap.size w w'))
 case atStart => exact ⟨(y101), (0), zq7, H', ⟨zlr _⟩, ⟨zq3 HO103⟩, ⟨zq2⟩⟩
 clear H'
 try clear c4
 try clear c4b0
 try clear c4b1
 try clear c5
 try clear c5b0
 try clear c5b1
 obtain ⟨x7_1, x15_1, rfl, HA, HK1, HO_7, HB⟩ := hrel
 cases gk with
 | zero => exact absurd HA.out (by simp [impl_values.l0])
 | succ k1 =>
 have H := HA.out
 clear HA
 simp only [impl_values.l0] at H
 revert H
 refine zit (fun c8 H => ?_) fun c8 H => ?_
 rotate_left
 · obtain rfl := zsi H
   go_wp2
   go_ret
   exact ⟨_, zq5, zq3 HO_7, zq2⟩
 revert H
 refine zin fun c9 H => ?_
 revert H
 refine zin fun c10 H => ?_
 by_cases c11 : ((rd_T60 l0 x15_1).f0).toList = ([105, 110] : List UInt8)
 · rw [if_pos c11] at H
   obtain ⟨c11b0, c11b1⟩ := zbe c11
   clear c11
   obtain ⟨y106, hy106⟩ : ∃ y_ : List Int, y_ = (([a1, a2] : List Int)) := ⟨_, rfl⟩
   replace H : (if 0 ≤ ((rd_T60 l0 x15_1).f3) then (if ((rd_T60 l0 x15_1).f3) < (y106.length : Int) then (if x15_1 < (x7_1.length : Int) then (impl_values.l0 k1 a1 a2 (x7_1.set (x15_1 : Int).toNat (rd y106 ((rd_T60 l0 x15_1).f3))) l0 (l0.length : Int) (wrap64 (x15_1 + 1))) else (none)) else (none)) else (none)) = some r := by first | (rw [hy106]; with_reducible exact H) | (have H2_ := (Option.bind_some _ _).symm.trans H; rw [hy106]; with_reducible exact H2_) | (have H2_ := (Option.bind_some _ _).symm.trans H; with_reducible exact H2_) | with_reducible exact H | (rw [hy106]; exact H) | exact H
   have Ny106 := zA hy106
   clear hy106
   revert H
   refine zin fun c12 H => ?_
   revert H
   refine zin fun c13 H => ?_
   revert H
   refine zin fun c14 H => ?_
   obtain ⟨y110, hy110⟩ : ∃ y_ : List Int, y_ = (x7_1.set (x15_1 : Int).toNat (rd y106 ((rd_T60 l0 x15_1).f3))) := ⟨_, rfl⟩
   replace H : (impl_values.l0 k1 a1 a2 y110 l0 (l0.length : Int) (wrap64 (x15_1 + 1))) = some r := by first | (rw [hy110]; with_reducible exact H) | (have H2_ := (Option.bind_some _ _).symm.trans H; rw [hy110]; with_reducible exact H2_) | (have H2_ := (Option.bind_some _ _).symm.trans H; with_reducible exact H2_) | with_reducible exact H | (rw [hy110]; exact H) | exact H
   have Ny110 := zA hy110
   clear hy110
   have H' := zA H
   clear H
   obtain ⟨p104, q104⟩ := zpq x15_1 l0.length
   obtain ⟨ad104, e104, hx104_0, hx104_1, hx104_2, hx104_3⟩ := at_T60 HR0.out x15_1 (zoe p104) (zoe q104)
   cases e104
   replace hx104_0 := zkep HB.out hx104_0
   replace hx104_1 := zkep HB.out hx104_1
   replace hx104_2 := zkep HB.out hx104_2
   replace hx104_3 := zkep HB.out hx104_3
   go_wp2_with (first | ((with_reducible refine zgd 9 ?_); refine zbx #[.string (⟨#[]⟩ : ByteArray), .int .i64 0, .int .i64 0, .int .i64 0] 60 ?_; intro gb105 hg w16 hbox hb; have zs := zpair zq2 hb; replace HO_7 := zA (zRb (zq3 HO_7) hb); replace HB := zA (zs.1); have BK105 := zA (hbox); have GW105 := zA (zge hg zs.2); have GE105 := GW105; clear zs hb hbox hg; obtain ⟨hcz17_0, hcz17_1, hcz17_2, hcz17_3, hfz17_0, hfz17_1, hfz17_2, hfz17_3⟩ := zd4 BK105) | ((with_reducible refine zgd 44 ?_); refine Kd.R_lit (Kd.int .i64) _ 3 ?hg (N := 44) ?hd (xs := ([a1, a2] : List Int)) (inner := [.int .i64 a1, .int .i64 a2]) (ok := fun _ => True) (okp := fun _ => True) ?hr ?hp (fun _ hk => hk) trivial (Below.refl _ _) (zlr _) (by simp) ?_; (case hd => rfl); (case hg => rfl); (case hr => go_simp <;> rfl); (case hp => exact (Reps.one (show Kd.M (Kd.int .i64) _ _ _ a1 [.int .i64 a1] from rfl) (Reps.one (show Kd.M (Kd.int .i64) _ _ _ a2 [.int .i64 a2] from rfl) (Reps.none _ _)))); intro v107 w18 ho19 hb hg_ hnew_; clear hg_ hnew_; (first | rw [← Ny106.out] at ho19 | (simp only [Int.reduceToNat] at ho19; rw [← Ny106.out] at ho19)); have HO108 := zA (Kd.R_lower (Kd.R_new' ho19 (Kd.R_lt (zq42 HO_7 BK105))) (below_size (zq1 GE105))); replace HO_7 := zA (Kd.R_elder' (zq42 HO_7 BK105) (Kd.R_base ho19) hb); replace BK105 := zA (blk_below (g := gb105) (o := .cells #[.string ((rd_T60 l0 x15_1).f0), .int .i64 ((rd_T60 l0 x15_1).f1), .int .i64 ((rd_T60 l0 x15_1).f2), .int .i64 ((rd_T60 l0 x15_1).f3)] 60 (0, 0)) (zq20 BK105) hb); replace HB := zA (below_step (zq1 GE105) hb); clear hb ho19; obtain ⟨hcz20_0, hcz20_1, hcz20_2, hcz20_3⟩ := zc4 w18 (.string ((rd_T60 l0 x15_1).f0)) (.int .i64 ((rd_T60 l0 x15_1).f1)) (.int .i64 ((rd_T60 l0 x15_1).f2)) (.int .i64 ((rd_T60 l0 x15_1).f3)) BK105.out; obtain ⟨hfz20_0, hfz20_1, hfz20_2, hfz20_3⟩ := zf4 BK105.out; obtain ⟨Ao21, co21, eo21⟩ := Kd.R_slice HO108.out; subst eo21; have p109 : 0 ≤ (((rd_T60 l0 x15_1).f3) : Int) := zde zq16; have q109 : ((rd_T60 l0 x15_1).f3) < (y106.length : Int) := zde zq16; obtain ⟨ad109, e109, hx109_0⟩ := Kd.at_int (zRr HO108.out).2.2 ((rd_T60 l0 x15_1).f3) p109 q109; cases e109; replace p109 := eq_true p109; replace q109 := eq_true q109; have p15 : 0 ≤ (x15_1 : Int) := zde zq16; have q15 : (x15_1 : Int) < ((x7_1.length : Int) : Int) := zde zq16; obtain ⟨go15, co15, eo15, gb15, gl15, cl15, HG15⟩ := Kd.R_form HO_7.out (by omega); (first | cases eo15 | (injection eo15 with ea_ en_ ec_; (first | subst ea_ | (injection ea_ with ea_; subst ea_)); subst ec_; clear en_)); have GB15 := zA gb15; have GG15 := zA HG15; clear gb15 gl15 HG15; obtain ⟨hx15_0, hf15_0⟩ := Kd.R_celln 0 HO_7.out (x15_1 : Int) p15 q15; replace p15 := eq_true p15; replace q15 := eq_true q15; have n_ := zA (Kd.R_mono (ok' := (fun k_ => some k_ ≠ (.slice (some ad109) y106.length co21 : Value).ownBlock)) HO_7.out (fun k_ hk => hk.2)); clear HO_7; have HO_7 := n_; clear n_; obtain ⟨hy22_, hz22_⟩ := Kd.R_celln 0 HO_7.out (x15_1 : Int) (zde zq16) (zde zq16); have HP22 := Kd.R_putg HO_7.out (x15_1 : Int) (rd y106 ((rd_T60 l0 x15_1).f3))) | ((with_reducible refine zgs 3 49 ?_); refine zse (w18.setCell ⟨go15, (x15_1 : Int).toNat, none⟩ (.int .i64 (rd y106 ((rd_T60 l0 x15_1).f3)))) ?_; intro w23 hw; have hg : w18.grownBy w23 (some go15) := (by rw [hw]; exact HP22.2); have hp_ : Kd.R (Kd.int .i64) 3 w23 w.heap.size (fun k_ => some k_ ≠ (.slice (some ad109) y106.length co21 : Value).ownBlock) (.slice (some ⟨go15, 0, none⟩) x7_1.length co15) y110 := (by rw [hw, Ny110.out]; exact HP22.1); clear HP22; replace BK105 := zA (blk_grown (g := gb105) (o := .cells #[.string ((rd_T60 l0 x15_1).f0), .int .i64 ((rd_T60 l0 x15_1).f1), .int .i64 ((rd_T60 l0 x15_1).f2), .int .i64 ((rd_T60 l0 x15_1).f3)] 60 (0, 0)) (zq6 BK105) hg (Kd.R_ne HO_7.out BK105.out (by decide))); replace HO_7 := zA (hp_); replace HO108 := zA (Kd.R_after (v := (.slice (some ⟨go15, 0, none⟩) x7_1.length co15)) (v1 := (.slice (some ⟨go15, 0, none⟩) x7_1.length co15)) (ok := (fun _ => True)) (zq3 HO108) hg (.inl rfl)); replace HB := zA ((zq54 GB15 : Below w.heap.size w w23)); clear hg hw hp_))
   go_roundg k1
   case measure => have := HK1.out; omega
   case rel => exact ⟨(y110), (wrap64 (x15_1 + 1)), zq7, H', ⟨zq37 HK1⟩, ⟨zq25 HO_7⟩, ⟨zq1 GE105⟩⟩
 rw [if_neg c11] at H
 obtain ⟨c11b0, c11b1⟩ := zbq c11
 by_cases c24 : ((rd_T60 l0 x15_1).f0).toList = ([99, 111, 110, 115, 116] : List UInt8)
 · rw [if_pos c24] at H
   obtain ⟨c24b0, c24b1⟩ := zbe c24
   clear c24
   revert H
   refine zin fun c25 H => ?_
   obtain ⟨y111, hy111⟩ : ∃ y_ : List Int, y_ = (x7_1.set (x15_1 : Int).toNat ((rd_T60 l0 x15_1).f3)) := ⟨_, rfl⟩
   replace H : (impl_values.l0 k1 a1 a2 y111 l0 (l0.length : Int) (wrap64 (x15_1 + 1))) = some r := by first | (rw [hy111]; with_reducible exact H) | (have H2_ := (Option.bind_some _ _).symm.trans H; rw [hy111]; with_reducible exact H2_) | (have H2_ := (Option.bind_some _ _).symm.trans H; with_reducible exact H2_) | with_reducible exact H | (rw [hy111]; exact H) | exact H
   have Ny111 := zA hy111
   clear hy111
   have H' := zA H
   clear H
   obtain ⟨p104, q104⟩ := zpq x15_1 l0.length
   obtain ⟨ad104, e104, hx104_0, hx104_1, hx104_2, hx104_3⟩ := at_T60 HR0.out x15_1 (zoe p104) (zoe q104)
   cases e104
   replace hx104_0 := zkep HB.out hx104_0
   replace hx104_1 := zkep HB.out hx104_1
   replace hx104_2 := zkep HB.out hx104_2
   replace hx104_3 := zkep HB.out hx104_3
   go_wp2_with (first | ((with_reducible refine zgd 9 ?_); refine zbx #[.string (⟨#[]⟩ : ByteArray), .int .i64 0, .int .i64 0, .int .i64 0] 60 ?_; intro gb105 hg w27 hbox hb; have zs := zpair zq2 hb; replace HO_7 := zA (zRb (zq3 HO_7) hb); replace HB := zA (zs.1); have BK105 := zA (hbox); have GW105 := zA (zge hg zs.2); have GE105 := GW105; clear zs hb hbox hg; obtain ⟨hcz28_0, hcz28_1, hcz28_2, hcz28_3, hfz28_0, hfz28_1, hfz28_2, hfz28_3⟩ := zd4 BK105) | ((with_reducible refine zgs 60 9 ?_); refine zse ((((w27.setCell ⟨gb105, 0, none⟩ (.string ((rd_T60 l0 x15_1).f0))).setCell ⟨gb105, 1, none⟩ (.int .i64 ((rd_T60 l0 x15_1).f1))).setCell ⟨gb105, 2, none⟩ (.int .i64 ((rd_T60 l0 x15_1).f2))).setCell ⟨gb105, 3, none⟩ (.int .i64 ((rd_T60 l0 x15_1).f3))) ?_; intro w29 hw; have n0_ : Aside0 (Kd.R (Kd.int .i64) 3 w29 w.heap.size (fun _ => True) v102 x7_1) := ⟨(by rw [hw]; exact (zq41 HO_7 BK105))⟩; have n1_ : Aside0 (w29.heap[gb105]? = some (.cells #[.string ((rd_T60 l0 x15_1).f0), .int .i64 ((rd_T60 l0 x15_1).f1), .int .i64 ((rd_T60 l0 x15_1).f2), .int .i64 ((rd_T60 l0 x15_1).f3)] 60 (0, 0))) := ⟨(by rw [hw]; exact (zq20 BK105))⟩; have n2_ : Aside0 (Below w.heap.size w w29) := ⟨(by rw [hw]; exact (zq1 GE105))⟩; clear hw; clear HO_7 BK105 HB; have HO_7 := n0_; have BK105 := n1_; have HB := n2_; clear n0_ n1_ n2_; obtain ⟨hcz30_0, hcz30_1, hcz30_2, hcz30_3⟩ := zc4 w29 (.string ((rd_T60 l0 x15_1).f0)) (.int .i64 ((rd_T60 l0 x15_1).f1)) (.int .i64 ((rd_T60 l0 x15_1).f2)) (.int .i64 ((rd_T60 l0 x15_1).f3)) BK105.out; obtain ⟨hfz30_0, hfz30_1, hfz30_2, hfz30_3⟩ := zf4 BK105.out; have p26 : 0 ≤ (x15_1 : Int) := zde zq16; have q26 : (x15_1 : Int) < ((x7_1.length : Int) : Int) := zde zq16; obtain ⟨go26, co26, eo26, gb26, gl26, cl26, HG26⟩ := Kd.R_form HO_7.out (by omega); (first | cases eo26 | (injection eo26 with ea_ en_ ec_; (first | subst ea_ | (injection ea_ with ea_; subst ea_)); subst ec_; clear en_)); have GB26 := zA gb26; have GG26 := zA HG26; clear gb26 gl26 HG26; obtain ⟨hx26_0, hf26_0⟩ := Kd.R_celln 0 HO_7.out (x15_1 : Int) p26 q26; replace p26 := eq_true p26; replace q26 := eq_true q26; obtain ⟨hy31_, hz31_⟩ := Kd.R_celln 0 HO_7.out (x15_1 : Int) (zde zq16) (zde zq16); have HP31 := Kd.R_putg HO_7.out (x15_1 : Int) ((rd_T60 l0 x15_1).f3)) | ((with_reducible refine zgs 3 56 ?_); refine zse (w29.setCell ⟨go26, (x15_1 : Int).toNat, none⟩ (.int .i64 ((rd_T60 l0 x15_1).f3))) ?_; intro w32 hw; have hg : w29.grownBy w32 (some go26) := (by rw [hw]; exact HP31.2); have hp_ : Kd.R (Kd.int .i64) 3 w32 w.heap.size (fun _ => True) (.slice (some ⟨go26, 0, none⟩) x7_1.length co26) y111 := (by rw [hw, Ny111.out]; exact HP31.1); clear HP31; replace BK105 := zA (blk_grown (g := gb105) (o := .cells #[.string ((rd_T60 l0 x15_1).f0), .int .i64 ((rd_T60 l0 x15_1).f1), .int .i64 ((rd_T60 l0 x15_1).f2), .int .i64 ((rd_T60 l0 x15_1).f3)] 60 (0, 0)) (zq6 BK105) hg (Kd.R_ne HO_7.out BK105.out (by decide))); replace HO_7 := zA (hp_); replace HB := zA ((zq54 GB26 : Below w.heap.size w w32)); clear hg hw hp_))
   go_roundg k1
   case measure => have := HK1.out; omega
   case rel => exact ⟨(y111), (wrap64 (x15_1 + 1)), zq7, H', ⟨zq37 HK1⟩, ⟨zq3 HO_7⟩, ⟨zq1 GE105⟩⟩
 rw [if_neg c24] at H
 obtain ⟨c24b0, c24b1⟩ := zbq c24
 revert H
 refine zin fun c33 H => ?_
 revert H
 refine zin fun c34 H => ?_
 revert H
 refine zin fun c35 H => ?_
 revert H
 refine zin fun c36 H => ?_
 replace H := zob H
 obtain ⟨t114, A370, H⟩ := H
 replace H : (if x15_1 < (x7_1.length : Int) then (impl_values.l0 k1 a1 a2 (x7_1.set (x15_1 : Int).toNat t114) l0 (l0.length : Int) (wrap64 (x15_1 + 1))) else (none)) = some r := H
 have A37 := zA A370
 clear A370
 revert H
 refine zin fun c38 H => ?_
 obtain ⟨y115, hy115⟩ : ∃ y_ : List Int, y_ = (x7_1.set (x15_1 : Int).toNat t114) := ⟨_, rfl⟩
 replace H : (impl_values.l0 k1 a1 a2 y115 l0 (l0.length : Int) (wrap64 (x15_1 + 1))) = some r := by first | (rw [hy115]; with_reducible exact H) | (have H2_ := (Option.bind_some _ _).symm.trans H; rw [hy115]; with_reducible exact H2_) | (have H2_ := (Option.bind_some _ _).symm.trans H; with_reducible exact H2_) | with_reducible exact H | (rw [hy115]; exact H) | exact H
 have Ny115 := zA hy115
 clear hy115
 have H' := zA H
 clear H
 obtain ⟨p104, q104⟩ := zpq x15_1 l0.length
 obtain ⟨ad104, e104, hx104_0, hx104_1, hx104_2, hx104_3⟩ := at_T60 HR0.out x15_1 (zoe p104) (zoe q104)
 cases e104
 replace hx104_0 := zkep HB.out hx104_0
 replace hx104_1 := zkep HB.out hx104_1
 replace hx104_2 := zkep HB.out hx104_2
 replace hx104_3 := zkep HB.out hx104_3
 try go_wp2_with (first | ((with_reducible refine zgd 9 ?_); refine zbx #[.string (⟨#[]⟩ : ByteArray), .int .i64 0, .int .i64 0, .int .i64 0] 60 ?_; intro gb105 hg w40 hbox hb; have zs := zpair zq2 hb; replace HO_7 := zA (zRb (zq3 HO_7) hb); replace HB := zA (zs.1); have BK105 := zA (hbox); have GW105 := zA (zge hg zs.2); have GE105 := GW105; clear zs hb hbox hg; obtain ⟨hcz41_0, hcz41_1, hcz41_2, hcz41_3, hfz41_0, hfz41_1, hfz41_2, hfz41_3⟩ := zd4 BK105))
 have n0_ : Aside0 (Kd.R (Kd.int .i64) 3 ((((w40.setCell ⟨gb105, 0, none⟩ (.string ((rd_T60 l0 x15_1).f0))).setCell ⟨gb105, 1, none⟩ (.int .i64 ((rd_T60 l0 x15_1).f1))).setCell ⟨gb105, 2, none⟩ (.int .i64 ((rd_T60 l0 x15_1).f2))).setCell ⟨gb105, 3, none⟩ (.int .i64 ((rd_T60 l0 x15_1).f3))) w.heap.size (fun _ => True) v102 x7_1) := ⟨zq41 HO_7 BK105⟩
 have n1_ : Aside0 (((((w40.setCell ⟨gb105, 0, none⟩ (.string ((rd_T60 l0 x15_1).f0))).setCell ⟨gb105, 1, none⟩ (.int .i64 ((rd_T60 l0 x15_1).f1))).setCell ⟨gb105, 2, none⟩ (.int .i64 ((rd_T60 l0 x15_1).f2))).setCell ⟨gb105, 3, none⟩ (.int .i64 ((rd_T60 l0 x15_1).f3))).heap[gb105]? = some (.cells #[.string ((rd_T60 l0 x15_1).f0), .int .i64 ((rd_T60 l0 x15_1).f1), .int .i64 ((rd_T60 l0 x15_1).f2), .int .i64 ((rd_T60 l0 x15_1).f3)] 60 (0, 0))) := ⟨zq20 BK105⟩
 have n2_ : Aside0 (Below w.heap.size w ((((w40.setCell ⟨gb105, 0, none⟩ (.string ((rd_T60 l0 x15_1).f0))).setCell ⟨gb105, 1, none⟩ (.int .i64 ((rd_T60 l0 x15_1).f1))).setCell ⟨gb105, 2, none⟩ (.int .i64 ((rd_T60 l0 x15_1).f2))).setCell ⟨gb105, 3, none⟩ (.int .i64 ((rd_T60 l0 x15_1).f3)))) := ⟨zq1 GE105⟩
 (try clear HO_7)
 (try clear BK105)
 (try clear HB)
 generalize ((((w40.setCell ⟨gb105, 0, none⟩ (.string ((rd_T60 l0 x15_1).f0))).setCell ⟨gb105, 1, none⟩ (.int .i64 ((rd_T60 l0 x15_1).f1))).setCell ⟨gb105, 2, none⟩ (.int .i64 ((rd_T60 l0 x15_1).f2))).setCell ⟨gb105, 3, none⟩ (.int .i64 ((rd_T60 l0 x15_1).f3))) = w42 at n0_ n1_ n2_ ⊢
 have HO_7 := n0_
 have BK105 := n1_
 have HB := n2_
 clear n0_ n1_ n2_
 replace HO_7 := zA (zRd HO_7.out)
 replace BK105 := zA (zkd BK105.out)
 replace HB := zA (zbd HB.out)
 obtain ⟨Ao44, co44, eo44⟩ := Kd.R_slice HO_7.out
 (first | subst eo44 | (injection eo44 with f1_ f2_ f3_; have f4_ := f1_.symm; have f5_ := f3_.symm; clear f1_ f2_ f3_; subst f4_; subst f5_))
 have p112 : 0 ≤ (((rd_T60 l0 x15_1).f1) : Int) := zde zq16
 have q112 : ((rd_T60 l0 x15_1).f1) < (x7_1.length : Int) := zde zq16
 obtain ⟨ad112, e112, hx112_0⟩ := Kd.at_int (zRr HO_7.out).2.2 ((rd_T60 l0 x15_1).f1) p112 q112
 cases e112
 replace p112 := eq_true p112
 replace q112 := eq_true q112
 have p113 : 0 ≤ (((rd_T60 l0 x15_1).f2) : Int) := zde zq16
 have q113 : ((rd_T60 l0 x15_1).f2) < (x7_1.length : Int) := zde zq16
 obtain ⟨ad113, e113, hx113_0⟩ := Kd.at_int (zRr HO_7.out).2.2 ((rd_T60 l0 x15_1).f2) p113 q113
 obtain rfl : ad112 = ad113 := (by injection e113)
 replace p113 := eq_true p113
 replace q113 := eq_true q113
 refine start_ (n := 17) (S := fun w' => w'.cell? ⟨gb105, 0, none⟩ = some (.string ((rd_T60 l0 x15_1).f0)) ∧ w'.cell? ⟨gb105, 1, none⟩ = some (.int .i64 ((rd_T60 l0 x15_1).f1)) ∧ w'.cell? ⟨gb105, 2, none⟩ = some (.int .i64 ((rd_T60 l0 x15_1).f2)) ∧ w'.cell? ⟨gb105, 3, none⟩ = some (.int .i64 ((rd_T60 l0 x15_1).f3)) ∧ w'.cell? (ad112.add (((rd_T60 l0 x15_1).f1)).toNat) = some (.int .i64 (rd x7_1 ((rd_T60 l0 x15_1).f1))) ∧ w'.cell? (ad112.add (((rd_T60 l0 x15_1).f2)).toNat) = some (.int .i64 (rd x7_1 ((rd_T60 l0 x15_1).f2)))) (ds := [16]) #[false, false, false, false, false, false, false, false, false, false, false, false, false, false, false, false, false] zq22 rfl rfl ⟨(blk_cell BK105.out 0).trans rfl, (blk_cell BK105.out 1).trans rfl, (blk_cell BK105.out 2).trans rfl, (blk_cell BK105.out 3).trans rfl, hx112_0, hx113_0⟩ (fun hHeld => ?_); refine with_tabW impl_values.tab6 impl_values.bits6 (fun HT_ HW_ => ?_)
 generalize w42.drew = w43 at HO_7 BK105 HB hx112_0 hx113_0 hHeld ⊢
 refine zpu 0 22 HT_ ?_
 refine zpu 1 23 HT_ ?_
 refine zpu 2 24 HT_ ?_
 refine zpu 4 26 HT_ ?_
 refine zpu 5 27 HT_ ?_
 refine zpu 9 31 HT_ ?_
 refine zpu 10 32 HT_ ?_
 refine ztu 3 25 HT_ HW_ hHeld ?_
 refine ztu 6 28 HT_ HW_ hHeld ?_
 refine zpu 7 29 HT_ ?_
 refine ztu 8 30 HT_ HW_ hHeld ?_
 refine ztu 11 33 HT_ HW_ hHeld ?_
 refine zpu 12 34 HT_ ?_
 refine ztu 13 35 HT_ HW_ hHeld ?_
 refine one_ (i := 14) (N := some 36) #[true, true, true, true, true, true, true, true, true, true, true, true, true, true, true, false, false] rfl rfl (one_of HT_.out zq22) (by decide) (fun K hK => ?_)
 refine zgo Try.func119 (impl_apply.calls ((rd_T60 l0 x15_1).f0) (rd x7_1 ((rd_T60 l0 x15_1).f1)) (rd x7_1 ((rd_T60 l0 x15_1).f2)) t114 _ A37.out) ?_
 rintro e w' ⟨rfl, ⟨nd, rfl⟩⟩
 refine ⟨_, rfl, ?_⟩
 have p39 : 0 ≤ (x15_1 : Int) := zde zq16
 have q39 : (x15_1 : Int) < ((x7_1.length : Int) : Int) := zde zq16
 obtain ⟨go39, co39, eo39, gb39, gl39, cl39, HG39⟩ := Kd.R_form HO_7.out (by omega)
 (first | cases eo39 | (injection eo39 with ea_ en_ ec_; (first | subst ea_ | (injection ea_ with ea_; subst ea_)); subst ec_; clear en_))
 have GB39 := zA gb39
 have GG39 := zA HG39
 clear gb39 gl39 HG39
 (first | simp only [add_plain] at hx112_0 | skip)
 (first | simp only [add_plain] at hx113_0 | skip)
 obtain ⟨hx39_0, hf39_0⟩ := Kd.R_celln 0 HO_7.out (x15_1 : Int) p39 q39
 replace p39 := eq_true p39
 replace q39 := eq_true q39
 have HP45 := Kd.R_putn HO_7.out (x15_1 : Int) t114
 rw [← Ny115.out] at HP45
 have HQ45 := zA HP45
 clear HP45
 refine hK.out _ _ ⟨(blk_cell BK105.out 0).trans rfl, (blk_cell BK105.out 1).trans rfl, (blk_cell BK105.out 2).trans rfl, (blk_cell BK105.out 3).trans rfl, hHeld.2.2.2.2.1, hHeld.2.2.2.2.2⟩ (fun hHeld => ?_)
 clear hK K
 refine znm 36 ?_
 refine zpu 15 37 HT_ ?_
 refine last_ (i := 16) (N := none) #[true, true, true, true, true, true, true, true, true, true, true, true, true, true, true, true, true] rfl rfl (one_of HT_.out zq22) (by decide) (fun K hK => ?_)
 refine skip_ (w1 := ?_) (by rfl) rfl ?_ ?_
 rotate_left
 · go_simp
   rfl
 refine hK.out _ _ ?_
 clear hK K
 refine done_ (done_of HT_.out zq22) ?_
 try go_wp2
 go_roundg k1
 case measure => have := HK1.out; omega
 case rel => exact ⟨(y115), (wrap64 (x15_1 + 1)), zq7, H', ⟨zq37 HK1⟩, ⟨zq3 HQ45⟩, ⟨zq4 GB39 GE105⟩⟩
def impl_eval.f (k : Nat) (l0 : List (S60)) (a1 : Int) (a2 : Int) : Option (Int) := (impl_values.f k l0 a1 a2).bind fun t101 => (if 0 ≤ (wrap64 ((l0.length : Int) - 1)) then (if (wrap64 ((l0.length : Int) - 1)) < (t101.length : Int) then (some (rd t101 (wrap64 ((l0.length : Int) - 1)))) else (none)) else (none))
theorem impl_eval.mono : ∀ a0 a1 a2 k, LeO (impl_eval.f k a0 a1 a2) (impl_eval.f (k + 1) a0 a1 a2) := by
 intro a0 a1 a2 k
 unfold impl_eval.f
 exact zm1 impl_values.mono
theorem impl_eval.calls (k : Nat) (A0 : Option Addr) (c0 : Nat) (l0 : List (S60)) (a1 : Int) (a2 : Int) (r : Int) (w : World) (hr0 : Kd.C k60 w A0 l0.length l0) (hc0 : l0.length ≤ c0) (h : impl_eval.f k l0 a1 a2 = some r) :
   Calls Try.prog 78 #[.slice A0 l0.length c0, .int .i64 a1, .int .i64 a2] w fun e w' => e = .returned (.int .i64 r) ∧ Below w.heap.size w w' := by
 have HR0 := zA hr0
 have HC0 := zA hc0
 clear hr0 hc0
 have HB := zA (Below.refl w.heap.size w)
 have H : ((impl_values.f k l0 a1 a2).bind fun t101 => (if 0 ≤ (wrap64 ((l0.length : Int) - 1)) then (if (wrap64 ((l0.length : Int) - 1)) < (t101.length : Int) then (some (rd t101 (wrap64 ((l0.length : Int) - 1)))) else (none)) else (none))) = some r := h
 clear h
 replace H := zob H
 obtain ⟨t101, A40, H⟩ := H
 replace H : (if 0 ≤ (wrap64 ((l0.length : Int) - 1)) then (if (wrap64 ((l0.length : Int) - 1)) < (t101.length : Int) then (some (rd t101 (wrap64 ((l0.length : Int) - 1)))) else (none)) else (none)) = some r := H
 have A4 := zA A40
 clear A40
 obtain ⟨ji5, hji5⟩ : ∃ j_ : Int, (wrap64 ((l0.length : Int) - 1)) = j_ := ⟨_, rfl⟩
 replace H : (if 0 ≤ (ji5) then (if (ji5) < (t101.length : Int) then (some (rd t101 (ji5))) else (none)) else (none)) = some r := by first | (rw [hji5] at H; exact H) | (simp only [hji5] at H ⊢; exact H)
 (try rw [hji5] at A4)
 have hji5w : (IntKind.i64.wrap ((l0.length : Int) - 1)) = ji5 := (i64_w _).trans hji5
 revert H
 refine zin fun c6 H => ?_
 revert H
 refine zin fun c7 H => ?_
 obtain rfl := zsi H
 go_enter Try.func78, Try.ntmps78
 go_wp2_with (first | ((with_reducible refine zgc 107 ?_); refine zca 10 Try.func107 #[.slice A0 l0.length c0, .int .i64 a1, .int .i64 a2] (impl_values.calls k _ _ l0 a1 a2 t101 _ (zq35 HR0) HC0.out A4.out) ?_; rintro e w8 ⟨v102, rfl, ho0, hb⟩; refine ⟨_, rfl, ?_⟩; have HO103 := zA (Kd.R_lower ho0 (below_size zq2)); replace HB := zA (below_step zq2 hb); (try clear hb); (try clear ho0); obtain ⟨Ao9, co9, eo9⟩ := Kd.R_slice HO103.out; subst eo9; have p104 : 0 ≤ ((ji5) : Int) := zde zq16; have q104 : (ji5) < (t101.length : Int) := zde zq16; obtain ⟨ad104, e104, hx104_0⟩ := Kd.at_int (zRr HO103.out).2.2 (ji5) p104 q104; cases e104; replace p104 := eq_true p104; replace q104 := eq_true q104))
 go_ret
 exact ⟨zq61, zq2⟩
def impl_tableOf_1.f (k : Nat) (a0 : Int) (a1 : Int) (l2 : List (List (S60))) : Option (Int) := if 0 < (l2.length : Int) then ((impl_eval.f k (rd_L11 l2 0) a0 a1).bind fun t102 => (some t102)) else (none)
theorem impl_tableOf_1.mono : ∀ a0 a1 a2 k, LeO (impl_tableOf_1.f k a0 a1 a2) (impl_tableOf_1.f (k + 1) a0 a1 a2) := by
 intro a0 a1 a2 k
 unfold impl_tableOf_1.f
 exact zm1 impl_eval.mono
theorem impl_tableOf_1.calls (k : Nat) (a0 : Int) (a1 : Int) (A2 : Option Addr) (c2 : Nat) (l2 : List (List (S60))) (r : Int) (w : World) (hr2 : Kd.C (Kd.slice 60 k60) w A2 l2.length l2) (hc2 : l2.length ≤ c2) (h : impl_tableOf_1.f k a0 a1 l2 = some r) :
   Calls Try.prog 77 #[.int .i64 a0, .int .i64 a1, .pointer A2] w fun e w' => e = .returned (.int .i64 r) ∧ Below w.heap.size w w' := by
 have HR2 := zA hr2
 have HC2 := zA hc2
 clear hr2 hc2
 have HB := zA (Below.refl w.heap.size w)
 have H : (if 0 < (l2.length : Int) then ((impl_eval.f k (rd_L11 l2 0) a0 a1).bind fun t102 => (some t102)) else (none)) = some r := h
 clear h
 by_cases c4 : 0 < (l2.length : Int)
 rotate_left
 · rw [if_neg c4] at H
   exact absurd H (by simp)
 rw [if_pos c4] at H
 have c4b0 := zdt c4
 have c4b1 : decide (0 < l2.length) = true := zdt (by omega)
 clear c4
 replace H := zob H
 obtain ⟨t102, A50, H⟩ := H
 replace H : (some t102) = some r := H
 have A5 := zA A50
 clear A50
 obtain rfl := zsi H
 have p101 : 0 ≤ (0 : Int) := (by omega)
 have q101 : 0 < (l2.length : Int) := zde zq16
 obtain ⟨ad101, A101_0, c101_0, e101, hx101_0, hl101_0, hi101_0⟩ := at_L11 HR2.out 0 p101 q101
 cases e101
 have qi101 : (0 < l2.length) = True := eq_true (by omega)
 (try rw [show ((0 : Int)).toNat = 0 from rfl] at hx101_0)
 (try rw [Addr.add_zero'] at hx101_0)
 have HR101_0 := zA hi101_0
 have HC101_0 := zA hl101_0
 clear hi101_0 hl101_0
 replace p101 := eq_true p101
 replace q101 := eq_true q101
 go_enter Try.func77, Try.ntmps77
 go_wp2_with (first | ((with_reducible refine zgc 78 ?_); refine zca 9 Try.func78 #[.slice A101_0 (rd_L11 l2 0).length c101_0, .int .i64 a0, .int .i64 a1] (impl_eval.calls k _ _ (rd_L11 l2 0) a0 a1 t102 _ (zq35 HR101_0) HC101_0.out A5.out) ?_; rintro e w6 ⟨rfl, hb⟩; refine ⟨_, rfl, ?_⟩; replace HB := zA (below_step zq2 hb); (try clear hb)))
 exact zr_4
end Go.Proofs.Ytnaafcleafbejaa.Q
end
section
namespace Go.Proofs.Ytnaafcleafbejaa.Q
open Go.RowKit Go.Proofs.YtnaafcleafbejaaW.PrintWords Go.Proofs.YtnaafcleafbejaaW.PrintLast Go.Proofs.YtnaafcleafbejaaW.PrintMore
set_option maxHeartbeats 8000000
set_option maxRecDepth 100000
attribute [local go_sem] max2_int min2_int max_two min_two max_three min_three max_four min_four
set_option linter.unusedVariables false
set_option linter.unusedSimpArgs false
mutual
def impl_table_impl_tableOf_1.l0 : Nat → List Int → Int → List (List (S60)) → Option (List Int)
 | 0, _, _, _ => none
 | k + 1, x3, x7, x800 => if x7 < 64 then (impl_table_impl_tableOf_1.l1 k x3 x7 x7 0 x800) else (some x3)
def impl_table_impl_tableOf_1.l1 : Nat → List Int → Int → Int → Int → List (List (S60)) → Option (List Int)
 | 0, _, _, _, _, _ => none
 | k + 1, x3, x4, x7, x10, x800 => if x10 < 64 then ((impl_tableOf_1.f k x4 x10 x800).bind fun t104 => (if x3.length < 17592186044416 then (impl_table_impl_tableOf_1.l1 k (x3 ++ [t104]) x4 x7 (wrap64 (x10 + 1)) x800) else (none))) else (impl_table_impl_tableOf_1.l0 k x3 (wrap64 (x7 + 1)) x800)
end
def impl_table_impl_tableOf_1.f (k : Nat) (l0_0 : List (List (S60))) : Option (List Int) := impl_table_impl_tableOf_1.l0 k (([] : List Int)) 0 l0_0
theorem impl_table_impl_tableOf_1.mono_l : ∀ k, (∀ y0 y1 y2, LeO (impl_table_impl_tableOf_1.l0 k y0 y1 y2) (impl_table_impl_tableOf_1.l0 (k + 1) y0 y1 y2)) ∧ (∀ y0 y1 y2 y3 y4, LeO (impl_table_impl_tableOf_1.l1 k y0 y1 y2 y3 y4) (impl_table_impl_tableOf_1.l1 (k + 1) y0 y1 y2 y3 y4))
 | 0 => ⟨fun _ _ _ r h => by simp [impl_table_impl_tableOf_1.l0] at h, fun _ _ _ _ _ r h => by simp [impl_table_impl_tableOf_1.l1] at h⟩
 | k + 1 => by
   obtain ⟨ih0, ih1⟩ := impl_table_impl_tableOf_1.mono_l k
   refine ⟨?_, ?_⟩
   · intro y0 y1 y2
     unfold impl_table_impl_tableOf_1.l0
     exact zm3 ih0 ih1 impl_tableOf_1.mono
   · intro y0 y1 y2 y3 y4
     unfold impl_table_impl_tableOf_1.l1
     exact zm3 ih0 ih1 impl_tableOf_1.mono
theorem impl_table_impl_tableOf_1.mono : ∀ a0 k, LeO (impl_table_impl_tableOf_1.f k a0) (impl_table_impl_tableOf_1.f (k + 1) a0) := by
 intro a0 k
 obtain ⟨ih0, ih1⟩ := impl_table_impl_tableOf_1.mono_l k
 unfold impl_table_impl_tableOf_1.f
 exact zm3 ih0 ih1 impl_tableOf_1.mono
theorem impl_table_impl_tableOf_1.calls (k : Nat) (A0_0 : Option Addr) (c0_0 : Nat) (l0_0 : List (List (S60))) (r : List Int) (w : World) (hr0_0 : Kd.C (Kd.slice 60 k60) w A0_0 l0_0.length l0_0) (hc0_0 : l0_0.length ≤ c0_0) (h : impl_table_impl_tableOf_1.f k l0_0 = some r) :
   Calls Try.prog 76 #[.func (Fn.func 77) #[] #[.pointer A0_0]] w fun e w' => ∃ v0_ : Value, e = .returned (v0_) ∧ Kd.R (Kd.int .i64) 3 w' w.heap.size (fun _ => True) v0_ r ∧ Below w.heap.size w w' := by
 have HR0_0 := zA hr0_0
 have HC0_0 := zA hc0_0
 clear hr0_0 hc0_0
 have HB := zA (Below.refl w.heap.size w)
 have H : (impl_table_impl_tableOf_1.l0 k (([] : List Int)) 0 l0_0) = some r := h
 clear h
 obtain ⟨y101, hy101⟩ : ∃ y_ : List Int, y_ = (([] : List Int)) := ⟨_, rfl⟩
 replace H : (impl_table_impl_tableOf_1.l0 k y101 0 l0_0) = some r := by first | (rw [hy101]; with_reducible exact H) | (have H2_ := (Option.bind_some _ _).symm.trans H; rw [hy101]; with_reducible exact H2_) | (have H2_ := (Option.bind_some _ _).symm.trans H; with_reducible exact H2_) | with_reducible exact H | (rw [hy101]; exact H) | exact H
 have Ny101 := zA hy101
 clear hy101
 have H' := zA H
 clear H
 go_enter Try.func76, Try.ntmps76
 go_wp2_with (first | ((with_reducible refine zgd 6 ?_); refine Kd.R_lit (Kd.int .i64) _ 3 ?hg (N := 6) ?hd (xs := ([] : List Int)) (inner := []) (ok := fun _ => True) (okp := fun _ => True) ?hr ?hp (fun _ hk => hk) trivial (Below.refl _ _) (zlr _) (by simp) ?_; (case hd => rfl); (case hg => rfl); (case hr => go_simp <;> rfl); (case hp => exact (Reps.none _ _)); intro v102 w2 ho3 hb hg_ hnew_; clear hg_ hnew_; (first | rw [← Ny101.out] at ho3 | (simp only [Int.reduceToNat] at ho3; rw [← Ny101.out] at ho3)); have HO103 := zA (Kd.R_lower ho3 (below_size zq2)); replace HB := zA (below_step zq2 hb); clear hb ho3))
 go_loopg [3, 7] k (fun kq v3 v7 w' => ∃ (x3_1 : List Int) (x7_1 : Int), v7 = .int .i64 x7_1 ∧ Aside0 (impl_table_impl_tableOf_1.l0 kq x3_1 x7_1 l0_0 = some r) ∧ Aside0 (kq ≤ k) ∧ Aside0 (Kd.R (Kd.int .i64) 3 w' w.heap.size (fun _ => True) v3 x3_1) ∧ Aside0 (Below w.heap.size w w'))
 case atStart => exact ⟨(y101), (0), zq7, H', ⟨zlr _⟩, ⟨zq3 HO103⟩, ⟨zq2⟩⟩
 clear H'
 obtain ⟨x3_1, x7_1, rfl, HA, HK1, HO_3, HB⟩ := hrel
 cases gk with
 | zero => exact absurd HA.out (by simp [impl_table_impl_tableOf_1.l0])
 | succ k1 =>
 have H := HA.out
 clear HA
 simp only [impl_table_impl_tableOf_1.l0] at H
 revert H
 refine zit (fun c4 H => ?_) fun c4 H => ?_
 rotate_left
 · obtain rfl := zsi H
   go_wp2
   go_ret
   exact ⟨_, zq5, zq3 HO_3, zq2⟩
 have H' := zA H
 clear H
 go_wp2
 go_loopg [3, 10] k1 (fun kq v3 v10 w' => ∃ (x3_2 : List Int) (x10_2 : Int), v10 = .int .i64 x10_2 ∧ Aside0 (impl_table_impl_tableOf_1.l1 kq x3_2 x7_1 x7_1 x10_2 l0_0 = some r) ∧ Aside0 (kq ≤ k1) ∧ Aside0 (Kd.R (Kd.int .i64) 3 w' w.heap.size (fun _ => True) v3 x3_2) ∧ Aside0 (Below w.heap.size w w'))
 case atStart => exact ⟨(x3_1), (0), zq7, H', ⟨zlr _⟩, ⟨zq3 HO_3⟩, ⟨zq2⟩⟩
 clear H'
 try clear c4
 obtain ⟨x3_2, x10_2, rfl, HA, HK2, HO_3, HB⟩ := hrel
 cases gk with
 | zero => exact absurd HA.out (by simp [impl_table_impl_tableOf_1.l1])
 | succ k2 =>
 have H := HA.out
 clear HA
 simp only [impl_table_impl_tableOf_1.l1] at H
 revert H
 refine zit (fun c5 H => ?_) fun c5 H => ?_
 rotate_left
 · have H' := zA H
   clear H
   go_wp2
   go_roundg k2
   case measure => have := HK1.out; have := HK2.out; omega
   case rel => exact ⟨(x3_2), (wrap64 (x7_1 + 1)), zq7, H', ⟨zq43 HK1 HK2⟩, ⟨zq3 HO_3⟩, ⟨zq2⟩⟩
 replace H := zob H
 obtain ⟨t104, A60, H⟩ := H
 replace H : (if x3_2.length < 17592186044416 then (impl_table_impl_tableOf_1.l1 k2 (x3_2 ++ [t104]) x7_1 x7_1 (wrap64 (x10_2 + 1)) l0_0) else (none)) = some r := H
 have A6 := zA A60
 clear A60
 by_cases c7 : x3_2.length < 17592186044416
 rotate_left
 · rw [if_neg c7] at H
   exact absurd H (by simp)
 rw [if_pos c7] at H
 have LMc7 := zA c7
 clear c7
 obtain ⟨y105, hy105⟩ : ∃ y_ : List Int, y_ = (x3_2 ++ [t104]) := ⟨_, rfl⟩
 replace H : (impl_table_impl_tableOf_1.l1 k2 y105 x7_1 x7_1 (wrap64 (x10_2 + 1)) l0_0) = some r := by first | (rw [hy105]; with_reducible exact H) | (have H2_ := (Option.bind_some _ _).symm.trans H; rw [hy105]; with_reducible exact H2_) | (have H2_ := (Option.bind_some _ _).symm.trans H; with_reducible exact H2_) | with_reducible exact H | (rw [hy105]; exact H) | exact H
 have Ny105 := zA hy105
 clear hy105
 have H' := zA H
 clear H
 go_wp2_with (first | (go_at_call 77; (with_reducible refine (impl_tableOf_1.calls k2 x7_1 x10_2 _ c0_0 l0_0 t104 _ ?side1 ?side2 A6.out).mono ?_); (case side1 => repeat (first | exact (zCb HR0_0.out HB.out) | (with_reducible first | refine zCa ?_ _ | refine zCn ?_ _ | refine zCd ?_))); (case side2 => exact HC0_0.out); rintro e w8 ⟨rfl, hb⟩; replace HO_3 := zA (zRb (zq3 HO_3) hb); replace HB := zA (below_step zq2 hb); (try clear hb)) | ((with_reducible refine gate_builtin (b := .append) (xs := #[.tmp 13, .tmp 18]) rfl ?_); at_builtin; refine Kd.R_append (Kd.int .i64) (w0 := w) w.heap.size rfl (.tmp 13) (.tmp 18) 24 3 (.int .i64 0) 8 rfl Try.underlying24 info3 rfl (by decide) (by omega) u3 x3_2 t104 [.int .i64 t104] (fun _ => True) (fun _ => False) rfl rfl ?aP (fun _ hk => hk.elim) ?aF ?aO ?aB ?aS ?aL ?_; (case aP => exact rfl); (case aB => exact zq2); (case aF => exact (fun _ _ => trivial)); (case aO => exact (zq3 HO_3)); (case aS => exact (below_size zq2)); (case aL => have := LMc7.out; omega); intro v106 w9 ho hb hg hat; rw [← Ny105.out] at ho; replace HB := zA (hb); have HO107 := zA (ho); clear HO_3; clear ho hb hg hat))
 go_roundg k2
 case measure => have := HK1.out; have := HK2.out; omega
 case rel => exact ⟨(y105), (wrap64 (x10_2 + 1)), zq7, H', ⟨zq43 HK1 HK2⟩, ⟨zq3 HO107⟩, ⟨zq2⟩⟩
end Go.Proofs.Ytnaafcleafbejaa.Q
end
section
namespace Go.Proofs.Ytnaafcleafbejaa.Q
open Go.RowKit Go.Proofs.YtnaafcleafbejaaW.PrintWords Go.Proofs.YtnaafcleafbejaaW.PrintLast Go.Proofs.YtnaafcleafbejaaW.PrintMore
set_option maxHeartbeats 8000000
set_option maxRecDepth 100000
attribute [local go_sem] max2_int min2_int max_two min_two max_three min_three max_four min_four
set_option linter.unusedVariables false
set_option linter.unusedSimpArgs false
def impl_tableOf.f (k : Nat) (l0 : List (S60)) : Option (List Int) := (impl_table_impl_tableOf_1.f k [l0]).bind fun t102 => (some t102)
theorem impl_tableOf.mono : ∀ a0 k, LeO (impl_tableOf.f k a0) (impl_tableOf.f (k + 1) a0) := by
 intro a0 k
 unfold impl_tableOf.f
 exact zm1 impl_table_impl_tableOf_1.mono
theorem impl_tableOf.calls (k : Nat) (A0 : Option Addr) (c0 : Nat) (l0 : List (S60)) (r : List Int) (w : World) (hr0 : Kd.C k60 w A0 l0.length l0) (hc0 : l0.length ≤ c0) (h : impl_tableOf.f k l0 = some r) :
   Calls Try.prog 38 #[.slice A0 l0.length c0] w fun e w' => ∃ v0_ : Value, e = .returned (v0_) ∧ Kd.R (Kd.int .i64) 3 w' w.heap.size (fun _ => True) v0_ r ∧ Below w.heap.size w w' := by
 have HR0 := zA hr0
 have HC0 := zA hc0
 clear hr0 hc0
 have HB := zA (Below.refl w.heap.size w)
 have H : ((impl_table_impl_tableOf_1.f k [l0]).bind fun t102 => (some t102)) = some r := h
 clear h
 replace H := zob H
 obtain ⟨t102, A20, H⟩ := H
 replace H : (some t102) = some r := H
 have A2 := zA A20
 clear A20
 obtain rfl := zsi H
 go_enter Try.func38, Try.ntmps38
 go_wp2_with (first | ((with_reducible refine zgd 1 ?_); refine zbx #[.slice A0 l0.length c0] 33 ?_; intro gb101 hg w3 hbox hb; have zs := zpair zq2 hb; replace HB := zA (zs.1); have BK101 := zA (hbox); have GW101 := zA (zge hg zs.2); have GE101 := GW101; clear zs hb hbox hg) | ((with_reducible refine zgc 76 ?_); refine zca 4 Try.func76 #[.func (Fn.func 77) #[] #[.pointer (some ⟨gb101, 0, none⟩)]] (impl_table_impl_tableOf_1.calls k _ 1 [l0] t102 _ (by exact box_C (g := gb101) (o := .cells #[.slice A0 l0.length c0] 33 (0, 0)) (zq6 BK101) rfl ⟨_, _, rfl, (by exact HC0.out), (zq9 HR0)⟩) (by exact zlr _) A2.out) ?_; rintro e w4 ⟨v103, rfl, ho0, hb⟩; refine ⟨_, rfl, ?_⟩; have HO104 := zA (Kd.R_lower ho0 (below_size (zq1 GE101))); replace BK101 := zbb BK101 hb; replace HB := zA (below_step (zq1 GE101) hb); (try clear hb); (try clear ho0)))
 go_ret
 exact ⟨_, zq5, zq3 HO104, zq1 GE101⟩
def impl_ProgramReaches.j0 : Nat → List (S60) → List (S64) → Bool → Option (Bool × Bool)
 | 0, _, _, _ => none
 | k + 1, x0, x2, x16 => if x16 = true then (some (false, false)) else ((impl_lastOf.f k x2).bind fun t104 => ((impl_tableOf.f k x0).bind fun t107 => ((impl_columnOf.f k t107).bind fun t110 => ((impl_column_uint8.f k t104 t110).bind fun t113 => (some (t113, true))))))
def impl_ProgramReaches.f (k : Nat) (l0 : List (S60)) (l1_0 : List ByteArray) (l1_1 : List Int) (l2 : List (S64)) : Option (Bool × Bool) := (impl_IsExpr.f k l0).bind fun t102 => (if t102 = true then ((impl_areProgram.f k l1_0 l1_1 l2).bind fun t103 => (impl_ProgramReaches.j0 k l0 l2 (!t103))) else (impl_ProgramReaches.j0 k l0 l2 true))
theorem impl_ProgramReaches.mono_l : ∀ k, (∀ y0 y1 y2, LeO (impl_ProgramReaches.j0 k y0 y1 y2) (impl_ProgramReaches.j0 (k + 1) y0 y1 y2))
 | 0 => fun _ _ _ r h => by simp [impl_ProgramReaches.j0] at h
 | k + 1 => by
   have ih0 := impl_ProgramReaches.mono_l k
   · intro y0 y1 y2
     unfold impl_ProgramReaches.j0
     exact zm7 ih0 impl_IsExpr.mono impl_areProgram.mono impl_columnOf.mono impl_column_uint8.mono impl_lastOf.mono impl_tableOf.mono
theorem impl_ProgramReaches.mono : ∀ a0 a1 a2 a3 k, LeO (impl_ProgramReaches.f k a0 a1 a2 a3) (impl_ProgramReaches.f (k + 1) a0 a1 a2 a3) := by
 intro a0 a1 a2 a3 k
 have ih0 := impl_ProgramReaches.mono_l k
 unfold impl_ProgramReaches.f
 exact zm7 ih0 impl_IsExpr.mono impl_areProgram.mono impl_columnOf.mono impl_column_uint8.mono impl_lastOf.mono impl_tableOf.mono
theorem impl_ProgramReaches.calls (k : Nat) (A0 : Option Addr) (c0 : Nat) (l0 : List (S60)) (A1_0 : Option Addr) (c1_0 : Nat) (l1_0 : List ByteArray) (A1_1 : Option Addr) (c1_1 : Nat) (l1_1 : List Int) (A2 : Option Addr) (c2 : Nat) (l2 : List (S64)) (r1 : Bool) (r2 : Bool) (w : World) (hr0 : Kd.C k60 w A0 l0.length l0) (hc0 : l0.length ≤ c0) (hr1_0 : Kd.C Kd.string w A1_0 l1_0.length l1_0) (hc1_0 : l1_0.length ≤ c1_0) (hr1_1 : Kd.C (Kd.int .i64) w A1_1 l1_1.length l1_1) (hc1_1 : l1_1.length ≤ c1_1) (hr2 : Kd.C k64 w A2 l2.length l2) (hc2 : l2.length ≤ c2) (h : impl_ProgramReaches.f k l0 l1_0 l1_1 l2 = some (r1, r2)) :
   Calls Try.prog 13 #[.slice A0 l0.length c0, .agg #[.slice A1_0 l1_0.length c1_0, .slice A1_1 l1_1.length c1_1], .slice A2 l2.length c2] w fun e w' => e = .returned (.tuple #[.bool r1, .bool r2]) ∧ Below w.heap.size w w' := by
 have hu35 := Try.underlying35
 have HR0 := zA hr0
 have HC0 := zA hc0
 clear hr0 hc0
 have HR1_0 := zA hr1_0
 have HC1_0 := zA hc1_0
 clear hr1_0 hc1_0
 have HR1_1 := zA hr1_1
 have HC1_1 := zA hc1_1
 clear hr1_1 hc1_1
 have HR2 := zA hr2
 have HC2 := zA hc2
 clear hr2 hc2
 have HB := zA (Below.refl w.heap.size w)
 have H : ((impl_IsExpr.f k l0).bind fun t102 => (if t102 = true then ((impl_areProgram.f k l1_0 l1_1 l2).bind fun t103 => (impl_ProgramReaches.j0 k l0 l2 (!t103))) else (impl_ProgramReaches.j0 k l0 l2 true))) = some (r1, r2) := h
 clear h
 have HC4 := zA H
 clear H
 go_enter Try.func13, Try.ntmps13
 go_upto_region 1 with (first | ((with_reducible refine zgd 4 ?_); refine zbx #[.slice A1_0 l1_0.length c1_0, .slice A1_1 l1_1.length c1_1] 35 ?_; intro gb101 hg w5 hbox hb; have zs := zpair zq2 hb; replace HB := zA (zs.1); have BK101 := zA (hbox); have GW101 := zA (zge hg zs.2); have GE101 := GW101; clear zs hb hbox hg))
 (try simp only [Act.put, List.setIfInBounds_toArray, List.set_cons_zero, List.set_cons_succ])
 go_cut [16] (fun v16 wc => ∃ (kq : Nat) (x16_3 : Bool), v16 = .bool x16_3 ∧ Aside0 (impl_ProgramReaches.j0 kq l0 l2 x16_3 = some (r1, r2)) ∧ Aside0 (kq ≤ k) ∧ Aside0 (wc.heap[gb101]? = some (.cells #[(.slice A1_0 l1_0.length c1_0), (.slice A1_1 l1_1.length c1_1)] 35 (0, 0))) ∧ Aside0 (Below w.heap.size w wc))
 case first =>
   have H := HC4.out
   clear HC4
   replace H := zob H
   obtain ⟨t102, A60, H⟩ := H
   replace H : (if t102 = true then ((impl_areProgram.f k l1_0 l1_1 l2).bind fun t103 => (impl_ProgramReaches.j0 k l0 l2 (!t103))) else (impl_ProgramReaches.j0 k l0 l2 true)) = some (r1, r2) := H
   have A6 := zA A60
   clear A60
   by_cases c7 : t102 = true
   rotate_left
   · replace c7 := zbf c7
     subst c7
     replace H := zif H
     have H' := zA H
     clear H
     go_wp2_with (first | ((with_reducible refine zgc 33 ?_); refine zca 9 Try.func33 #[.slice A0 l0.length c0] (impl_IsExpr.calls k _ _ l0 false _ (zq9 HR0) HC0.out A6.out) ?_; rintro e w12 ⟨rfl, hb⟩; refine ⟨_, rfl, ?_⟩; replace BK101 := zbb BK101 hb; replace HB := zA (below_step (zq1 GE101) hb); (try clear hb)))
     go_meet
     case rel => exact ⟨_, (true), zq7, H', ⟨zq39⟩, ⟨zq6 BK101⟩, ⟨zq1 GE101⟩⟩
   subst c7
   replace H := zih H
   replace H := zob H
   obtain ⟨t103, A80, H⟩ := H
   replace H : (impl_ProgramReaches.j0 k l0 l2 (!t103)) = some (r1, r2) := H
   have A8 := zA A80
   clear A80
   have H' := zA H
   clear H
   go_wp2_with (first | ((with_reducible refine zgc 33 ?_); refine zca 9 Try.func33 #[.slice A0 l0.length c0] (impl_IsExpr.calls k _ _ l0 true _ (zq9 HR0) HC0.out A6.out) ?_; rintro e w9 ⟨rfl, hb⟩; refine ⟨_, rfl, ?_⟩; replace BK101 := zbb BK101 hb; replace HB := zA (below_step (zq1 GE101) hb); (try clear hb); obtain ⟨hcz10_0, hcz10_1⟩ := zc2 w9 (.slice A1_0 l1_0.length c1_0) (.slice A1_1 l1_1.length c1_1) BK101.out; obtain ⟨hfz10_0, hfz10_1⟩ := zf2 BK101.out) | (go_at_call 34; (with_reducible refine (impl_areProgram.calls k _ _ l1_0 _ _ l1_1 _ _ l2 t103 _ ?side1 ?side2 ?side3 ?side4 ?side5 ?side6 A8.out).mono ?_); (case side1 => repeat (first | exact (zCb HR1_0.out HB.out) | (with_reducible first | refine zCa ?_ _ | refine zCn ?_ _ | refine zCd ?_))); (case side2 => exact HC1_0.out); (case side3 => repeat (first | exact (zCb HR1_1.out HB.out) | (with_reducible first | refine zCa ?_ _ | refine zCn ?_ _ | refine zCd ?_))); (case side4 => exact HC1_1.out); (case side5 => repeat (first | exact (zCb HR2.out HB.out) | (with_reducible first | refine zCa ?_ _ | refine zCn ?_ _ | refine zCd ?_))); (case side6 => exact HC2.out); rintro e w11 ⟨rfl, hb⟩; replace BK101 := zbb BK101 hb; replace HB := zA (below_step (zq1 GE101) hb); (try clear hb)))
   go_meet
   case rel => exact ⟨_, (!t103), zq7, H', ⟨zq39⟩, ⟨zq6 BK101⟩, ⟨zq1 GE101⟩⟩
 clear HC4
 try clear c2
 try clear c7
 try clear hcz10_0
 try clear hcz10_1
 try clear hfz10_0
 try clear hfz10_1
 obtain ⟨kq, x16_3, rfl, HA, HJ3, BK101, HB⟩ := hcut
 cases kq with
 | zero => exact absurd HA.out (by simp [impl_ProgramReaches.j0])
 | succ kj3 =>
 have H := HA.out
 clear HA
 simp only [impl_ProgramReaches.j0] at H
 by_cases c13 : x16_3 = true
 · subst c13
   replace H := zih H
   simp only [Option.some.injEq, Prod.mk.injEq] at H
   obtain ⟨rfl, rfl⟩ := H
   go_wp2
   go_ret2
   exact ⟨zq5, zq1 GE101⟩
 replace c13 := zbf c13
 subst c13
 replace H := zif H
 replace H := zob H
 obtain ⟨t104, A140, H⟩ := H
 replace H : ((impl_tableOf.f kj3 l0).bind fun t107 => ((impl_columnOf.f kj3 t107).bind fun t110 => ((impl_column_uint8.f kj3 t104 t110).bind fun t113 => (some (t113, true))))) = some (r1, r2) := H
 have A14 := zA A140
 clear A140
 replace H := zob H
 obtain ⟨t107, A150, H⟩ := H
 replace H : ((impl_columnOf.f kj3 t107).bind fun t110 => ((impl_column_uint8.f kj3 t104 t110).bind fun t113 => (some (t113, true)))) = some (r1, r2) := H
 have A15 := zA A150
 clear A150
 replace H := zob H
 obtain ⟨t110, A160, H⟩ := H
 replace H : ((impl_column_uint8.f kj3 t104 t110).bind fun t113 => (some (t113, true))) = some (r1, r2) := H
 have A16 := zA A160
 clear A160
 replace H := zob H
 obtain ⟨t113, A170, H⟩ := H
 replace H : (some (t113, true)) = some (r1, r2) := H
 have A17 := zA A170
 clear A170
 simp only [Option.some.injEq, Prod.mk.injEq] at H
 obtain ⟨rfl, rfl⟩ := H
 go_wp2_with (first | ((with_reducible refine zgc 36 ?_); refine zca 18 Try.func36 #[.slice A2 l2.length c2] (impl_lastOf.calls kj3 _ _ l2 t104 _ (zq9 HR2) HC2.out A14.out) ?_; rintro e w18 ⟨v105, rfl, ho0, hb⟩; refine ⟨_, rfl, ?_⟩; have HO106 := zA (Kd.V_lower (Kd.V_mono (ok' := fun k_ => k_ ≠ gb101) ho0 (fun k_ hk_ => (Kd.freshB (g := gb101) (o := .cells #[.slice A1_0 l1_0.length c1_0, .slice A1_1 l1_1.length c1_1] 35 (0, 0)) (zq6 BK101) k_ hk_))) (below_size (zq1 GE101))); replace BK101 := zbb BK101 hb; replace HB := zA (below_step (zq1 GE101) hb); (try clear hb); (try clear ho0)) | ((with_reducible refine zgc 38 ?_); refine zca 20 Try.func38 #[.slice A0 l0.length c0] (impl_tableOf.calls kj3 _ _ l0 t107 _ (zq9 HR0) HC0.out A15.out) ?_; rintro e w19 ⟨v108, rfl, ho0, hb⟩; refine ⟨_, rfl, ?_⟩; replace HO106 := zA (Kd.V_elder' (zq14 HO106) (Kd.R_base ho0) hb); have HO109 := zA (Kd.R_lower ho0 (below_size (zq1 GE101))); replace BK101 := zbb BK101 hb; replace HB := zA (below_step (zq1 GE101) hb); (try clear hb); (try clear ho0); obtain ⟨Ao20, co20, eo20⟩ := Kd.R_slice HO109.out; subst eo20) | ((with_reducible refine zgc 37 ?_); refine zca 21 Try.func37 #[.slice Ao20 t107.length co20] (impl_columnOf.calls kj3 _ _ t107 t110 _ (zq15 HO109) (zq46 HO109) A16.out) ?_; rintro e w21 ⟨v111, rfl, ho0, hb⟩; refine ⟨_, rfl, ?_⟩; replace HO106 := zA (Kd.V_elder' (zq14 HO106) (Kd.R_base ho0) hb); replace HO109 := zA (zRb (zq3 HO109) hb); have HO112 := zA (Kd.R_lower ho0 (below_size (zq1 GE101))); replace BK101 := zbb BK101 hb; replace HB := zA (below_step (zq1 GE101) hb); (try clear hb); (try clear ho0); obtain ⟨Ao22, co22, eo22⟩ := Kd.V_slice HO106.out; subst eo22; obtain ⟨Ao23, co23, eo23⟩ := Kd.R_slice HO112.out; subst eo23) | ((with_reducible refine zgc 35 ?_); refine zca 22 Try.func35 #[.slice Ao22 t104.length co22, .slice Ao23 t110.length co23] (impl_column_uint8.calls kj3 _ _ t104 _ _ t110 t113 _ (by repeat (first | exact (Kd.V_reads' HO106.out).2.2 | (with_reducible first | refine zCa ?_ _ | refine zCn ?_ _ | refine zCd ?_))) (by exact (Kd.V_reads' HO106.out).2.1) (zq15 HO112) (zq46 HO112) A17.out) ?_; rintro e w' ⟨rfl, ⟨nd, rfl⟩⟩; refine ⟨_, rfl, ?_⟩))
 go_ret2
 exact ⟨zq5, zq1 GE101⟩
def laws_eqIntS.l0 : Nat → List Int → List Int → Int → Option (Bool)
 | 0, _, _, _ => none
 | k + 1, x0, x1, x5 => if x5 < (x0.length : Int) then (if 0 ≤ x5 then (if x5 < (x1.length : Int) then (if (rd x0 x5) = (rd x1 x5) then (laws_eqIntS.l0 k x0 x1 (wrap64 (x5 + 1))) else (some false)) else (none)) else (none)) else (some true)
def laws_eqIntS.f (k : Nat) (l0 : List Int) (l1 : List Int) : Option (Bool) := if (l0.length : Int) = (l1.length : Int) then (laws_eqIntS.l0 k l0 l1 0) else (some false)
theorem laws_eqIntS.mono_l : ∀ k, (∀ y0 y1 y2, LeO (laws_eqIntS.l0 k y0 y1 y2) (laws_eqIntS.l0 (k + 1) y0 y1 y2))
 | 0 => fun _ _ _ r h => by simp [laws_eqIntS.l0] at h
 | k + 1 => by
   have ih0 := laws_eqIntS.mono_l k
   · intro y0 y1 y2
     unfold laws_eqIntS.l0
     exact zm1 ih0
theorem laws_eqIntS.mono : ∀ a0 a1 k, LeO (laws_eqIntS.f k a0 a1) (laws_eqIntS.f (k + 1) a0 a1) := by
 intro a0 a1 k
 have ih0 := laws_eqIntS.mono_l k
 unfold laws_eqIntS.f
 exact zm1 ih0
theorem laws_eqIntS.calls (k : Nat) (A0 : Option Addr) (c0 : Nat) (l0 : List Int) (A1 : Option Addr) (c1 : Nat) (l1 : List Int) (r : Bool) (w : World) (hr0 : Kd.C (Kd.int .i64) w A0 l0.length l0) (hc0 : l0.length ≤ c0) (hr1 : Kd.C (Kd.int .i64) w A1 l1.length l1) (hc1 : l1.length ≤ c1) (h : laws_eqIntS.f k l0 l1 = some r) :
   Calls Try.prog 41 #[.slice A0 l0.length c0, .slice A1 l1.length c1] w fun e w' => e = .returned (.bool r) ∧ Drawn0 w w' := by
 have HR0 := zA hr0
 have HC0 := zA hc0
 clear hr0 hc0
 have HR1 := zA hr1
 have HC1 := zA hc1
 clear hr1 hc1
 have H : (if (l0.length : Int) = (l1.length : Int) then (laws_eqIntS.l0 k l0 l1 0) else (some false)) = some r := h
 clear h
 by_cases c3 : (l0.length : Int) = (l1.length : Int)
 rotate_left
 · rw [if_neg c3] at H
   obtain ⟨c3b0, c3b1⟩ := zbq c3
   have c3b2 : (l0.length == l1.length) = false := by first | simpa using c3 | (simp at c3 ⊢; omega)
   obtain rfl := zsi H
   go_enter Try.func41, Try.ntmps41
   go_wp2
   repeat (go_quiet (fail); try go_wp2)
   exact zr_5
 rw [if_pos c3] at H
 obtain ⟨c3b0, c3b1⟩ := zbe c3
 have c3b2 : (l0.length == l1.length) = true := by first | simpa using c3 | (simp at c3 ⊢; omega)
 clear c3
 have H' := zA H
 clear H
 go_enter Try.func41, Try.ntmps41
 go_wp2
 repeat (go_quiet (fail); try go_wp2)
 go_loopg [5] k (fun kq v5 w' => ∃ (x5_1 : Int), v5 = .int .i64 x5_1 ∧ Aside0 (laws_eqIntS.l0 kq l0 l1 x5_1 = some r) ∧ Aside0 (kq ≤ k) ∧ Drawn0 w w')
 case atStart => exact ⟨(0), zq7, H', ⟨zlr _⟩, zq8⟩
 clear H'
 try clear c1
 try clear c3
 try clear c3b0
 try clear c3b1
 try clear c3b2
 obtain ⟨x5_1, rfl, HA, HK1, ⟨m1, rfl⟩⟩ := hrel
 cases gk with
 | zero => exact absurd HA.out (by simp [laws_eqIntS.l0])
 | succ k1 =>
 have H := HA.out
 clear HA
 simp only [laws_eqIntS.l0] at H
 revert H
 refine zit (fun c4 H => ?_) fun c4 H => ?_
 rotate_left
 · obtain rfl := zsi H
   go_wp2
   repeat (go_quiet (fail); try go_wp2)
   exact zr_5
 revert H
 refine zin fun c5 H => ?_
 revert H
 refine zin fun c6 H => ?_
 by_cases c7 : (rd l0 x5_1) = (rd l1 x5_1)
 rotate_left
 · rw [if_neg c7] at H
   obtain ⟨c7b0, c7b1⟩ := zbq c7
   obtain rfl := zsi H
   obtain ⟨p101, q101⟩ := zpq x5_1 l0.length
   obtain ⟨ad101, e101, hx101_0⟩ := Kd.at_int HR0.out x5_1 (zoe p101) (zoe q101)
   cases e101
   obtain ⟨p102, q102⟩ := zpq x5_1 l1.length
   obtain ⟨ad102, e102, hx102_0⟩ := Kd.at_int HR1.out x5_1 (zoe p102) (zoe q102)
   cases e102
   go_wp2
   repeat (go_quiet (fail); try go_wp2)
   exact zr_5
 rw [if_pos c7] at H
 obtain ⟨c7b0, c7b1⟩ := zbe c7
 clear c7
 have H' := zA H
 clear H
 obtain ⟨p101, q101⟩ := zpq x5_1 l0.length
 obtain ⟨ad101, e101, hx101_0⟩ := Kd.at_int HR0.out x5_1 (zoe p101) (zoe q101)
 cases e101
 obtain ⟨p102, q102⟩ := zpq x5_1 l1.length
 obtain ⟨ad102, e102, hx102_0⟩ := Kd.at_int HR1.out x5_1 (zoe p102) (zoe q102)
 cases e102
 go_wp2
 repeat (go_quiet (fail); try go_wp2)
 go_roundg k1
 case measure => have := HK1.out; omega
 case rel => exact ⟨(wrap64 (x5_1 + 1)), zq7, H', ⟨zq37 HK1⟩, zq8⟩
def laws_eqStringS.l0 : Nat → List ByteArray → List ByteArray → Int → Option (Bool)
 | 0, _, _, _ => none
 | k + 1, x0, x1, x5 => if x5 < (x0.length : Int) then (if 0 ≤ x5 then (if x5 < (x1.length : Int) then (if (rdOf ByteArray.empty x0 x5).toList = (rdOf ByteArray.empty x1 x5).toList then (laws_eqStringS.l0 k x0 x1 (wrap64 (x5 + 1))) else (some false)) else (none)) else (none)) else (some true)
def laws_eqStringS.f (k : Nat) (l0 : List ByteArray) (l1 : List ByteArray) : Option (Bool) := if (l0.length : Int) = (l1.length : Int) then (laws_eqStringS.l0 k l0 l1 0) else (some false)
theorem laws_eqStringS.mono_l : ∀ k, (∀ y0 y1 y2, LeO (laws_eqStringS.l0 k y0 y1 y2) (laws_eqStringS.l0 (k + 1) y0 y1 y2))
 | 0 => fun _ _ _ r h => by simp [laws_eqStringS.l0] at h
 | k + 1 => by
   have ih0 := laws_eqStringS.mono_l k
   · intro y0 y1 y2
     unfold laws_eqStringS.l0
     exact zm1 ih0
theorem laws_eqStringS.mono : ∀ a0 a1 k, LeO (laws_eqStringS.f k a0 a1) (laws_eqStringS.f (k + 1) a0 a1) := by
 intro a0 a1 k
 have ih0 := laws_eqStringS.mono_l k
 unfold laws_eqStringS.f
 exact zm1 ih0
theorem laws_eqStringS.calls (k : Nat) (A0 : Option Addr) (c0 : Nat) (l0 : List ByteArray) (A1 : Option Addr) (c1 : Nat) (l1 : List ByteArray) (r : Bool) (w : World) (hr0 : Kd.C Kd.string w A0 l0.length l0) (hc0 : l0.length ≤ c0) (hr1 : Kd.C Kd.string w A1 l1.length l1) (hc1 : l1.length ≤ c1) (h : laws_eqStringS.f k l0 l1 = some r) :
   Calls Try.prog 40 #[.slice A0 l0.length c0, .slice A1 l1.length c1] w fun e w' => e = .returned (.bool r) ∧ Drawn0 w w' := by
 have HR0 := zA hr0
 have HC0 := zA hc0
 clear hr0 hc0
 have HR1 := zA hr1
 have HC1 := zA hc1
 clear hr1 hc1
 have H : (if (l0.length : Int) = (l1.length : Int) then (laws_eqStringS.l0 k l0 l1 0) else (some false)) = some r := h
 clear h
 by_cases c3 : (l0.length : Int) = (l1.length : Int)
 rotate_left
 · rw [if_neg c3] at H
   obtain ⟨c3b0, c3b1⟩ := zbq c3
   have c3b2 : (l0.length == l1.length) = false := by first | simpa using c3 | (simp at c3 ⊢; omega)
   obtain rfl := zsi H
   go_enter Try.func40, Try.ntmps40
   go_wp2
   repeat (go_quiet (fail); try go_wp2)
   exact zr_5
 rw [if_pos c3] at H
 obtain ⟨c3b0, c3b1⟩ := zbe c3
 have c3b2 : (l0.length == l1.length) = true := by first | simpa using c3 | (simp at c3 ⊢; omega)
 clear c3
 have H' := zA H
 clear H
 go_enter Try.func40, Try.ntmps40
 go_wp2
 repeat (go_quiet (fail); try go_wp2)
 go_loopg [5] k (fun kq v5 w' => ∃ (x5_1 : Int), v5 = .int .i64 x5_1 ∧ Aside0 (laws_eqStringS.l0 kq l0 l1 x5_1 = some r) ∧ Aside0 (kq ≤ k) ∧ Drawn0 w w')
 case atStart => exact ⟨(0), zq7, H', ⟨zlr _⟩, zq8⟩
 clear H'
 try clear c1
 try clear c3
 try clear c3b0
 try clear c3b1
 try clear c3b2
 obtain ⟨x5_1, rfl, HA, HK1, ⟨m1, rfl⟩⟩ := hrel
 cases gk with
 | zero => exact absurd HA.out (by simp [laws_eqStringS.l0])
 | succ k1 =>
 have H := HA.out
 clear HA
 simp only [laws_eqStringS.l0] at H
 revert H
 refine zit (fun c4 H => ?_) fun c4 H => ?_
 rotate_left
 · obtain rfl := zsi H
   go_wp2
   repeat (go_quiet (fail); try go_wp2)
   exact zr_5
 revert H
 refine zin fun c5 H => ?_
 revert H
 refine zin fun c6 H => ?_
 by_cases c7 : (rdOf ByteArray.empty l0 x5_1).toList = (rdOf ByteArray.empty l1 x5_1).toList
 rotate_left
 · rw [if_neg c7] at H
   obtain ⟨c7b0, c7b1⟩ := zbq c7
   obtain rfl := zsi H
   obtain ⟨p101, q101⟩ := zpq x5_1 l0.length
   obtain ⟨ad101, e101, hx101_0⟩ := Kd.at_string HR0.out x5_1 (zoe p101) (zoe q101)
   cases e101
   obtain ⟨p102, q102⟩ := zpq x5_1 l1.length
   obtain ⟨ad102, e102, hx102_0⟩ := Kd.at_string HR1.out x5_1 (zoe p102) (zoe q102)
   cases e102
   go_wp2
   repeat (go_quiet (fail); try go_wp2)
   exact zr_5
 rw [if_pos c7] at H
 obtain ⟨c7b0, c7b1⟩ := zbe c7
 clear c7
 have H' := zA H
 clear H
 obtain ⟨p101, q101⟩ := zpq x5_1 l0.length
 obtain ⟨ad101, e101, hx101_0⟩ := Kd.at_string HR0.out x5_1 (zoe p101) (zoe q101)
 cases e101
 obtain ⟨p102, q102⟩ := zpq x5_1 l1.length
 obtain ⟨ad102, e102, hx102_0⟩ := Kd.at_string HR1.out x5_1 (zoe p102) (zoe q102)
 cases e102
 go_wp2
 repeat (go_quiet (fail); try go_wp2)
 go_roundg k1
 case measure => have := HK1.out; omega
 case rel => exact ⟨(wrap64 (x5_1 + 1)), zq7, H', ⟨zq37 HK1⟩, zq8⟩
def laws_eqChoice.f (k : Nat) (l0_0 : List ByteArray) (l0_1 : List Int) (l1_0 : List ByteArray) (l1_1 : List Int) : Option (Bool) := (laws_eqStringS.f k l0_0 l1_0).bind fun t103 => (if t103 = true then ((laws_eqIntS.f k l0_1 l1_1).bind fun t104 => (if t104 = true then (some true) else (some false))) else (some false))
theorem laws_eqChoice.mono : ∀ a0 a1 a2 a3 k, LeO (laws_eqChoice.f k a0 a1 a2 a3) (laws_eqChoice.f (k + 1) a0 a1 a2 a3) := by
 intro a0 a1 a2 a3 k
 unfold laws_eqChoice.f
 exact zm2 laws_eqIntS.mono laws_eqStringS.mono
theorem laws_eqChoice.calls (k : Nat) (A0_0 : Option Addr) (c0_0 : Nat) (l0_0 : List ByteArray) (A0_1 : Option Addr) (c0_1 : Nat) (l0_1 : List Int) (A1_0 : Option Addr) (c1_0 : Nat) (l1_0 : List ByteArray) (A1_1 : Option Addr) (c1_1 : Nat) (l1_1 : List Int) (r : Bool) (w : World) (hr0_0 : Kd.C Kd.string w A0_0 l0_0.length l0_0) (hc0_0 : l0_0.length ≤ c0_0) (hr0_1 : Kd.C (Kd.int .i64) w A0_1 l0_1.length l0_1) (hc0_1 : l0_1.length ≤ c0_1) (hr1_0 : Kd.C Kd.string w A1_0 l1_0.length l1_0) (hc1_0 : l1_0.length ≤ c1_0) (hr1_1 : Kd.C (Kd.int .i64) w A1_1 l1_1.length l1_1) (hc1_1 : l1_1.length ≤ c1_1) (h : laws_eqChoice.f k l0_0 l0_1 l1_0 l1_1 = some r) :
   Calls Try.prog 15 #[.agg #[.slice A0_0 l0_0.length c0_0, .slice A0_1 l0_1.length c0_1], .agg #[.slice A1_0 l1_0.length c1_0, .slice A1_1 l1_1.length c1_1]] w fun e w' => e = .returned (.bool r) ∧ Below w.heap.size w w' := by
 have hu35 := Try.underlying35
 have HR0_0 := zA hr0_0
 have HC0_0 := zA hc0_0
 clear hr0_0 hc0_0
 have HR0_1 := zA hr0_1
 have HC0_1 := zA hc0_1
 clear hr0_1 hc0_1
 have HR1_0 := zA hr1_0
 have HC1_0 := zA hc1_0
 clear hr1_0 hc1_0
 have HR1_1 := zA hr1_1
 have HC1_1 := zA hc1_1
 clear hr1_1 hc1_1
 have HB := zA (Below.refl w.heap.size w)
 have H : ((laws_eqStringS.f k l0_0 l1_0).bind fun t103 => (if t103 = true then ((laws_eqIntS.f k l0_1 l1_1).bind fun t104 => (if t104 = true then (some true) else (some false))) else (some false))) = some r := h
 clear h
 replace H := zob H
 obtain ⟨t103, A30, H⟩ := H
 replace H : (if t103 = true then ((laws_eqIntS.f k l0_1 l1_1).bind fun t104 => (if t104 = true then (some true) else (some false))) else (some false)) = some r := H
 have A3 := zA A30
 clear A30
 by_cases c4 : t103 = true
 rotate_left
 · replace c4 := zbf c4
   subst c4
   replace H := zif H
   obtain rfl := zsi H
   go_enter Try.func15, Try.ntmps15
   go_wp2_with (first | ((with_reducible refine zgd 2 ?_); refine zbx #[.slice A0_0 l0_0.length c0_0, .slice A0_1 l0_1.length c0_1] 35 ?_; intro gb101 hg w17 hbox hb; have zs := zpair zq2 hb; replace HB := zA (zs.1); have BK101 := zA (hbox); have GW101 := zA (zge hg zs.2); have GE101 := GW101; clear zs hb hbox hg) | ((with_reducible refine zgd 3 ?_); refine zbx #[.slice A1_0 l1_0.length c1_0, .slice A1_1 l1_1.length c1_1] 35 ?_; intro gb102 hg w18 hbox hb; have zs := zpair (zq1 GE101) hb; replace HB := zA (zs.1); have BK102 := zA (hbox); have GW102 := zA (zge hg zs.2); have GE102 := GW102; have NB101_102 := zA ((zq12 BK101 : gb101 ≠ gb102)); replace BK101 := zbb BK101 hb; have NB102_101 := zA (Ne.symm NB101_102.out); clear zs hb hbox hg; have hnb19 := NB101_102.out; have hnc19 := NB102_101.out; obtain ⟨hcz20_0, hcz20_1, hfz20_0, hfz20_1⟩ := zd2 BK101; obtain ⟨hcz21_0, hcz21_1, hfz21_0, hfz21_1⟩ := zd2 BK102) | ((with_reducible refine zgc 40 ?_); refine zca 9 Try.func40 #[.slice A0_0 l0_0.length c0_0, .slice A1_0 l1_0.length c1_0] (laws_eqStringS.calls k _ _ l0_0 _ _ l1_0 false _ (zq9 HR0_0) HC0_0.out (zq9 HR1_0) HC1_0.out A3.out) ?_; rintro e w' ⟨rfl, ⟨nd, rfl⟩⟩; refine ⟨_, rfl, ?_⟩))
   go_ret
   exact ⟨zq5, zq4 GE101 GE102⟩
 subst c4
 replace H := zih H
 replace H := zob H
 obtain ⟨t104, A50, H⟩ := H
 replace H : (if t104 = true then (some true) else (some false)) = some r := H
 have A5 := zA A50
 clear A50
 by_cases c6 : t104 = true
 · subst c6
   replace H := zih H
   obtain rfl := zsi H
   go_enter Try.func15, Try.ntmps15
   go_wp2_with (first | ((with_reducible refine zgd 2 ?_); refine zbx #[.slice A0_0 l0_0.length c0_0, .slice A0_1 l0_1.length c0_1] 35 ?_; intro gb101 hg w7 hbox hb; have zs := zpair zq2 hb; replace HB := zA (zs.1); have BK101 := zA (hbox); have GW101 := zA (zge hg zs.2); have GE101 := GW101; clear zs hb hbox hg) | ((with_reducible refine zgd 3 ?_); refine zbx #[.slice A1_0 l1_0.length c1_0, .slice A1_1 l1_1.length c1_1] 35 ?_; intro gb102 hg w8 hbox hb; have zs := zpair (zq1 GE101) hb; replace HB := zA (zs.1); have BK102 := zA (hbox); have GW102 := zA (zge hg zs.2); have GE102 := GW102; have NB101_102 := zA ((zq12 BK101 : gb101 ≠ gb102)); replace BK101 := zbb BK101 hb; have NB102_101 := zA (Ne.symm NB101_102.out); clear zs hb hbox hg; have hnb9 := NB101_102.out; have hnc9 := NB102_101.out; obtain ⟨hcz10_0, hcz10_1, hfz10_0, hfz10_1⟩ := zd2 BK101; obtain ⟨hcz11_0, hcz11_1, hfz11_0, hfz11_1⟩ := zd2 BK102) | ((with_reducible refine zgc 40 ?_); refine zca 9 Try.func40 #[.slice A0_0 l0_0.length c0_0, .slice A1_0 l1_0.length c1_0] (laws_eqStringS.calls k _ _ l0_0 _ _ l1_0 true _ (zq9 HR0_0) HC0_0.out (zq9 HR1_0) HC1_0.out A3.out) ?_; rintro e w' ⟨rfl, ⟨nd, rfl⟩⟩; refine ⟨_, rfl, ?_⟩) | ((with_reducible refine zgc 41 ?_); refine zca 15 Try.func41 #[.slice A0_1 l0_1.length c0_1, .slice A1_1 l1_1.length c1_1] (laws_eqIntS.calls k _ _ l0_1 _ _ l1_1 true _ (zq49 HR0_1) HC0_1.out (zq49 HR1_1) HC1_1.out A5.out) ?_; rintro e w' ⟨rfl, ⟨nd, rfl⟩⟩; refine ⟨_, rfl, ?_⟩))
   go_ret
   exact ⟨zq5, zq4 GE101 GE102⟩
 replace c6 := zbf c6
 subst c6
 replace H := zif H
 obtain rfl := zsi H
 go_enter Try.func15, Try.ntmps15
 go_wp2_with (first | ((with_reducible refine zgd 2 ?_); refine zbx #[.slice A0_0 l0_0.length c0_0, .slice A0_1 l0_1.length c0_1] 35 ?_; intro gb101 hg w12 hbox hb; have zs := zpair zq2 hb; replace HB := zA (zs.1); have BK101 := zA (hbox); have GW101 := zA (zge hg zs.2); have GE101 := GW101; clear zs hb hbox hg) | ((with_reducible refine zgd 3 ?_); refine zbx #[.slice A1_0 l1_0.length c1_0, .slice A1_1 l1_1.length c1_1] 35 ?_; intro gb102 hg w13 hbox hb; have zs := zpair (zq1 GE101) hb; replace HB := zA (zs.1); have BK102 := zA (hbox); have GW102 := zA (zge hg zs.2); have GE102 := GW102; have NB101_102 := zA ((zq12 BK101 : gb101 ≠ gb102)); replace BK101 := zbb BK101 hb; have NB102_101 := zA (Ne.symm NB101_102.out); clear zs hb hbox hg; have hnb14 := NB101_102.out; have hnc14 := NB102_101.out; obtain ⟨hcz15_0, hcz15_1, hfz15_0, hfz15_1⟩ := zd2 BK101; obtain ⟨hcz16_0, hcz16_1, hfz16_0, hfz16_1⟩ := zd2 BK102) | ((with_reducible refine zgc 40 ?_); refine zca 9 Try.func40 #[.slice A0_0 l0_0.length c0_0, .slice A1_0 l1_0.length c1_0] (laws_eqStringS.calls k _ _ l0_0 _ _ l1_0 true _ (zq9 HR0_0) HC0_0.out (zq9 HR1_0) HC1_0.out A3.out) ?_; rintro e w' ⟨rfl, ⟨nd, rfl⟩⟩; refine ⟨_, rfl, ?_⟩) | ((with_reducible refine zgc 41 ?_); refine zca 15 Try.func41 #[.slice A0_1 l0_1.length c0_1, .slice A1_1 l1_1.length c1_1] (laws_eqIntS.calls k _ _ l0_1 _ _ l1_1 false _ (zq49 HR0_1) HC0_1.out (zq49 HR1_1) HC1_1.out A5.out) ?_; rintro e w' ⟨rfl, ⟨nd, rfl⟩⟩; refine ⟨_, rfl, ?_⟩))
 go_ret
 exact ⟨zq5, zq4 GE101 GE102⟩
def laws_eqInstr.f (a0_0 : ByteArray) (a0_1 : Int) (a0_2 : Int) (a0_3 : Int) (a0_4 : Int) (a1_0 : ByteArray) (a1_1 : Int) (a1_2 : Int) (a1_3 : Int) (a1_4 : Int) : Option (Bool) := if a0_0.toList = a1_0.toList then (if a0_1 = a1_1 then (if a0_2 = a1_2 then (if a0_3 = a1_3 then (if a0_4 = a1_4 then (some true) else (some false)) else (some false)) else (some false)) else (some false)) else (some false)
theorem laws_eqInstr.calls (a0_0 : ByteArray) (a0_1 : Int) (a0_2 : Int) (a0_3 : Int) (a0_4 : Int) (a1_0 : ByteArray) (a1_1 : Int) (a1_2 : Int) (a1_3 : Int) (a1_4 : Int) (r : Bool) (w : World) (h : laws_eqInstr.f a0_0 a0_1 a0_2 a0_3 a0_4 a1_0 a1_1 a1_2 a1_3 a1_4 = some r) :
   Calls Try.prog 42 #[.agg #[.string a0_0, .int .i64 a0_1, .int .i64 a0_2, .int .i64 a0_3, .int .i64 a0_4], .agg #[.string a1_0, .int .i64 a1_1, .int .i64 a1_2, .int .i64 a1_3, .int .i64 a1_4]] w fun e w' => e = .returned (.bool r) ∧ Below w.heap.size w w' := by
 have hu57 := Try.underlying57
 have key : r = (!(a0_0.toList != a1_0.toList) && !(a0_1 != a1_1) && !(a0_2 != a1_2) && !(a0_3 != a1_3) && !(a0_4 != a1_4)) := by
   unfold laws_eqInstr.f at h
   (repeat' split at h) <;> simp_all
 have HK := zA key
 clear h key
 go_enter Try.func42, Try.ntmps42
 go_wp2
 all_goals
   go_ret
   exact ⟨by rw [HK.out]; simp_all, zba (zba (Below.refl _ _) _) _⟩
def laws_eqInstrS.l0 : Nat → List (S64) → List (S64) → Int → Option (Bool)
 | 0, _, _, _ => none
 | k + 1, x0, x1, x5 => if x5 < (x0.length : Int) then (if 0 ≤ x5 then (if x5 < (x1.length : Int) then ((laws_eqInstr.f ((rd_T64 x0 x5).f0) ((rd_T64 x0 x5).f1) ((rd_T64 x0 x5).f2) ((rd_T64 x0 x5).f3) ((rd_T64 x0 x5).f4) ((rd_T64 x1 x5).f0) ((rd_T64 x1 x5).f1) ((rd_T64 x1 x5).f2) ((rd_T64 x1 x5).f3) ((rd_T64 x1 x5).f4)).bind fun t103 => (if t103 = true then (laws_eqInstrS.l0 k x0 x1 (wrap64 (x5 + 1))) else (some false))) else (none)) else (none)) else (some true)
def laws_eqInstrS.f (k : Nat) (l0 : List (S64)) (l1 : List (S64)) : Option (Bool) := if (l0.length : Int) = (l1.length : Int) then (laws_eqInstrS.l0 k l0 l1 0) else (some false)
theorem laws_eqInstrS.mono_l : ∀ k, (∀ y0 y1 y2, LeO (laws_eqInstrS.l0 k y0 y1 y2) (laws_eqInstrS.l0 (k + 1) y0 y1 y2))
 | 0 => fun _ _ _ r h => by simp [laws_eqInstrS.l0] at h
 | k + 1 => by
   have ih0 := laws_eqInstrS.mono_l k
   · intro y0 y1 y2
     unfold laws_eqInstrS.l0
     exact zm1 ih0
theorem laws_eqInstrS.mono : ∀ a0 a1 k, LeO (laws_eqInstrS.f k a0 a1) (laws_eqInstrS.f (k + 1) a0 a1) := by
 intro a0 a1 k
 have ih0 := laws_eqInstrS.mono_l k
 unfold laws_eqInstrS.f
 exact zm1 ih0
def laws_eqInstrS.T6 : Bool × List (List Nat × List Nat) := (true, [([], []), ([], []), ([0, 1], [0, 1]), ([2], [2]), ([], []), ([], []), ([4, 5], [4, 5]), ([6], [6]), ([3, 7], [3, 7]), ([8], [8])])
def laws_eqInstrS.B6 : List Nat := [0, 0, 3, 7, 0, 0, 48, 112, 255, 511]
theorem laws_eqInstrS.tab6 : rtab .any (opsOf Try.f16 6) = laws_eqInstrS.T6 := by kernel_rfl
theorem laws_eqInstrS.bits6 : waitsOk laws_eqInstrS.T6.2 laws_eqInstrS.B6 = true := by kernel_rfl
theorem laws_eqInstrS.calls (k : Nat) (A0 : Option Addr) (c0 : Nat) (l0 : List (S64)) (A1 : Option Addr) (c1 : Nat) (l1 : List (S64)) (r : Bool) (w : World) (hr0 : Kd.C k64 w A0 l0.length l0) (hc0 : l0.length ≤ c0) (hr1 : Kd.C k64 w A1 l1.length l1) (hc1 : l1.length ≤ c1) (h : laws_eqInstrS.f k l0 l1 = some r) :
   Calls Try.prog 16 #[.slice A0 l0.length c0, .slice A1 l1.length c1] w fun e w' => e = .returned (.bool r) ∧ Below w.heap.size w w' := by
 have hu64 := Try.underlying64
 have HR0 := zA hr0
 have HC0 := zA hc0
 clear hr0 hc0
 have HR1 := zA hr1
 have HC1 := zA hc1
 clear hr1 hc1
 have HB := zA (Below.refl w.heap.size w)
 have H : (if (l0.length : Int) = (l1.length : Int) then (laws_eqInstrS.l0 k l0 l1 0) else (some false)) = some r := h
 clear h
 by_cases c3 : (l0.length : Int) = (l1.length : Int)
 rotate_left
 · rw [if_neg c3] at H
   obtain ⟨c3b0, c3b1⟩ := zbq c3
   have c3b2 : (l0.length == l1.length) = false := by first | simpa using c3 | (simp at c3 ⊢; omega)
   obtain rfl := zsi H
   go_enter Try.func16, Try.ntmps16
   go_wp2
   exact zr_4
 rw [if_pos c3] at H
 obtain ⟨c3b0, c3b1⟩ := zbe c3
 have c3b2 : (l0.length == l1.length) = true := by first | simpa using c3 | (simp at c3 ⊢; omega)
 clear c3
 have H' := zA H
 clear H
 go_enter Try.func16, Try.ntmps16
 go_wp2
 go_loopg [5] k (fun kq v5 w' => ∃ (x5_1 : Int), v5 = .int .i64 x5_1 ∧ Aside0 (laws_eqInstrS.l0 kq l0 l1 x5_1 = some r) ∧ Aside0 (kq ≤ k) ∧ Aside0 (Below w.heap.size w w'))
 case atStart => exact ⟨(0), zq7, H', ⟨zlr _⟩, ⟨zq2⟩⟩
 clear H'
 try clear c1
 try clear c3
 try clear c3b0
 try clear c3b1
 try clear c3b2
 obtain ⟨x5_1, rfl, HA, HK1, HB⟩ := hrel
 cases gk with
 | zero => exact absurd HA.out (by simp [laws_eqInstrS.l0])
 | succ k1 =>
 have H := HA.out
 clear HA
 simp only [laws_eqInstrS.l0] at H
 revert H
 refine zit (fun c4 H => ?_) fun c4 H => ?_
 rotate_left
 · obtain rfl := zsi H
   go_wp2
   exact zr_4
 revert H
 refine zin fun c5 H => ?_
 revert H
 refine zin fun c6 H => ?_
 replace H := zob H
 obtain ⟨t103, A70, H⟩ := H
 replace H : (if t103 = true then (laws_eqInstrS.l0 k1 l0 l1 (wrap64 (x5_1 + 1))) else (some false)) = some r := H
 have A7 := zA A70
 clear A70
 by_cases c8 : t103 = true
 rotate_left
 · replace c8 := zbf c8
   subst c8
   replace H := zif H
   obtain rfl := zsi H
   try go_wp2
   replace HB := zA (zbd HB.out)
   obtain ⟨p101, q101⟩ := zpq x5_1 l0.length
   obtain ⟨ad101, e101, hx101_0, hx101_1, hx101_2, hx101_3, hx101_4⟩ := at_T64 HR0.out x5_1 (zoe p101) (zoe q101)
   have hw101_4 := hx101_4
   have hw101_3 := hx101_3
   have hw101_2 := hx101_2
   have hw101_1 := hx101_1
   have hw101_0 := hx101_0
   cases e101
   replace hx101_0 := zkep HB.out hx101_0
   replace hx101_1 := zkep HB.out hx101_1
   replace hx101_2 := zkep HB.out hx101_2
   replace hx101_3 := zkep HB.out hx101_3
   replace hx101_4 := zkep HB.out hx101_4
   obtain ⟨p102, q102⟩ := zpq x5_1 l1.length
   obtain ⟨ad102, e102, hx102_0, hx102_1, hx102_2, hx102_3, hx102_4⟩ := at_T64 HR1.out x5_1 (zoe p102) (zoe q102)
   have hw102_4 := hx102_4
   have hw102_3 := hx102_3
   have hw102_2 := hx102_2
   have hw102_1 := hx102_1
   have hw102_0 := hx102_0
   cases e102
   replace hx102_0 := zkep HB.out hx102_0
   replace hx102_1 := zkep HB.out hx102_1
   replace hx102_2 := zkep HB.out hx102_2
   replace hx102_3 := zkep HB.out hx102_3
   replace hx102_4 := zkep HB.out hx102_4
   refine start_ (n := 10) (S := fun w' => w'.cell? (ad101.add ((x5_1).toNat * 5)) = some (.string ((rd_T64 l0 x5_1).f0)) ∧ w'.cell? ⟨(ad101.add ((x5_1).toNat * 5)).block, (ad101.add ((x5_1).toNat * 5)).off + 1, none⟩ = some (.int .i64 ((rd_T64 l0 x5_1).f1)) ∧ w'.cell? ⟨(ad101.add ((x5_1).toNat * 5)).block, (ad101.add ((x5_1).toNat * 5)).off + 2, none⟩ = some (.int .i64 ((rd_T64 l0 x5_1).f2)) ∧ w'.cell? ⟨(ad101.add ((x5_1).toNat * 5)).block, (ad101.add ((x5_1).toNat * 5)).off + 3, none⟩ = some (.int .i64 ((rd_T64 l0 x5_1).f3)) ∧ w'.cell? ⟨(ad101.add ((x5_1).toNat * 5)).block, (ad101.add ((x5_1).toNat * 5)).off + 4, none⟩ = some (.int .i64 ((rd_T64 l0 x5_1).f4)) ∧ w'.cell? (ad102.add ((x5_1).toNat * 5)) = some (.string ((rd_T64 l1 x5_1).f0)) ∧ w'.cell? ⟨(ad102.add ((x5_1).toNat * 5)).block, (ad102.add ((x5_1).toNat * 5)).off + 1, none⟩ = some (.int .i64 ((rd_T64 l1 x5_1).f1)) ∧ w'.cell? ⟨(ad102.add ((x5_1).toNat * 5)).block, (ad102.add ((x5_1).toNat * 5)).off + 2, none⟩ = some (.int .i64 ((rd_T64 l1 x5_1).f2)) ∧ w'.cell? ⟨(ad102.add ((x5_1).toNat * 5)).block, (ad102.add ((x5_1).toNat * 5)).off + 3, none⟩ = some (.int .i64 ((rd_T64 l1 x5_1).f3)) ∧ w'.cell? ⟨(ad102.add ((x5_1).toNat * 5)).block, (ad102.add ((x5_1).toNat * 5)).off + 4, none⟩ = some (.int .i64 ((rd_T64 l1 x5_1).f4))) (ds := []) #[false, false, false, false, false, false, false, false, false, false] zq22 rfl rfl ⟨(zkep HB.out hw101_0), (zkep HB.out hw101_1), (zkep HB.out hw101_2), (zkep HB.out hw101_3), (zkep HB.out hw101_4), (zkep HB.out hw102_0), (zkep HB.out hw102_1), (zkep HB.out hw102_2), (zkep HB.out hw102_3), (zkep HB.out hw102_4)⟩ (fun hHeld => ?_); refine with_tabW laws_eqInstrS.tab6 laws_eqInstrS.bits6 (fun HT_ HW_ => ?_)
   generalize wr.drew = w11 at HB hx101_0 hx101_1 hx101_2 hx101_3 hx101_4 hx102_0 hx102_1 hx102_2 hx102_3 hx102_4 hHeld ⊢
   refine zpu 0 17 HT_ ?_
   refine zpu 1 18 HT_ ?_
   refine zpu 2 19 HT_ ?_
   refine zpu 4 21 HT_ ?_
   refine zpu 5 22 HT_ ?_
   refine zpu 6 23 HT_ ?_
   refine ztu 3 20 HT_ HW_ hHeld ?_
   refine ztu 7 24 HT_ HW_ hHeld ?_
   refine one_ (i := 8) (N := some 25) #[true, true, true, true, true, true, true, true, true, false] rfl rfl (one_of HT_.out zq22) (by decide) (fun K hK => ?_)
   refine zgo Try.func42 (laws_eqInstr.calls ((rd_T64 l0 x5_1).f0) ((rd_T64 l0 x5_1).f1) ((rd_T64 l0 x5_1).f2) ((rd_T64 l0 x5_1).f3) ((rd_T64 l0 x5_1).f4) ((rd_T64 l1 x5_1).f0) ((rd_T64 l1 x5_1).f1) ((rd_T64 l1 x5_1).f2) ((rd_T64 l1 x5_1).f3) ((rd_T64 l1 x5_1).f4) false _ A7.out) ?_
   rintro e w12 ⟨rfl, hb⟩
   refine ⟨_, rfl, ?_⟩
   replace HB := zA (below_step zq2 hb)
   (try clear hb)
   (try clear hb2)
   (try clear hk)
   (try clear hi)
   refine hK.out _ _ ⟨(zkep HB.out hw101_0), (zkep HB.out hw101_1), (zkep HB.out hw101_2), (zkep HB.out hw101_3), (zkep HB.out hw101_4), (zkep HB.out hw102_0), (zkep HB.out hw102_1), (zkep HB.out hw102_2), (zkep HB.out hw102_3), (zkep HB.out hw102_4)⟩ (fun hHeld => ?_)
   clear hK K
   refine znm 25 ?_
   refine zpu 9 26 HT_ ?_
   refine done_ (done_of HT_.out zq22) ?_
   try go_wp2
   exact zr_4
 subst c8
 replace H := zih H
 have H' := zA H
 clear H
 try go_wp2
 replace HB := zA (zbd HB.out)
 obtain ⟨p101, q101⟩ := zpq x5_1 l0.length
 obtain ⟨ad101, e101, hx101_0, hx101_1, hx101_2, hx101_3, hx101_4⟩ := at_T64 HR0.out x5_1 (zoe p101) (zoe q101)
 have hw101_4 := hx101_4
 have hw101_3 := hx101_3
 have hw101_2 := hx101_2
 have hw101_1 := hx101_1
 have hw101_0 := hx101_0
 cases e101
 replace hx101_0 := zkep HB.out hx101_0
 replace hx101_1 := zkep HB.out hx101_1
 replace hx101_2 := zkep HB.out hx101_2
 replace hx101_3 := zkep HB.out hx101_3
 replace hx101_4 := zkep HB.out hx101_4
 obtain ⟨p102, q102⟩ := zpq x5_1 l1.length
 obtain ⟨ad102, e102, hx102_0, hx102_1, hx102_2, hx102_3, hx102_4⟩ := at_T64 HR1.out x5_1 (zoe p102) (zoe q102)
 have hw102_4 := hx102_4
 have hw102_3 := hx102_3
 have hw102_2 := hx102_2
 have hw102_1 := hx102_1
 have hw102_0 := hx102_0
 cases e102
 replace hx102_0 := zkep HB.out hx102_0
 replace hx102_1 := zkep HB.out hx102_1
 replace hx102_2 := zkep HB.out hx102_2
 replace hx102_3 := zkep HB.out hx102_3
 replace hx102_4 := zkep HB.out hx102_4
 refine start_ (n := 10) (S := fun w' => w'.cell? (ad101.add ((x5_1).toNat * 5)) = some (.string ((rd_T64 l0 x5_1).f0)) ∧ w'.cell? ⟨(ad101.add ((x5_1).toNat * 5)).block, (ad101.add ((x5_1).toNat * 5)).off + 1, none⟩ = some (.int .i64 ((rd_T64 l0 x5_1).f1)) ∧ w'.cell? ⟨(ad101.add ((x5_1).toNat * 5)).block, (ad101.add ((x5_1).toNat * 5)).off + 2, none⟩ = some (.int .i64 ((rd_T64 l0 x5_1).f2)) ∧ w'.cell? ⟨(ad101.add ((x5_1).toNat * 5)).block, (ad101.add ((x5_1).toNat * 5)).off + 3, none⟩ = some (.int .i64 ((rd_T64 l0 x5_1).f3)) ∧ w'.cell? ⟨(ad101.add ((x5_1).toNat * 5)).block, (ad101.add ((x5_1).toNat * 5)).off + 4, none⟩ = some (.int .i64 ((rd_T64 l0 x5_1).f4)) ∧ w'.cell? (ad102.add ((x5_1).toNat * 5)) = some (.string ((rd_T64 l1 x5_1).f0)) ∧ w'.cell? ⟨(ad102.add ((x5_1).toNat * 5)).block, (ad102.add ((x5_1).toNat * 5)).off + 1, none⟩ = some (.int .i64 ((rd_T64 l1 x5_1).f1)) ∧ w'.cell? ⟨(ad102.add ((x5_1).toNat * 5)).block, (ad102.add ((x5_1).toNat * 5)).off + 2, none⟩ = some (.int .i64 ((rd_T64 l1 x5_1).f2)) ∧ w'.cell? ⟨(ad102.add ((x5_1).toNat * 5)).block, (ad102.add ((x5_1).toNat * 5)).off + 3, none⟩ = some (.int .i64 ((rd_T64 l1 x5_1).f3)) ∧ w'.cell? ⟨(ad102.add ((x5_1).toNat * 5)).block, (ad102.add ((x5_1).toNat * 5)).off + 4, none⟩ = some (.int .i64 ((rd_T64 l1 x5_1).f4))) (ds := []) #[false, false, false, false, false, false, false, false, false, false] zq22 rfl rfl ⟨(zkep HB.out hw101_0), (zkep HB.out hw101_1), (zkep HB.out hw101_2), (zkep HB.out hw101_3), (zkep HB.out hw101_4), (zkep HB.out hw102_0), (zkep HB.out hw102_1), (zkep HB.out hw102_2), (zkep HB.out hw102_3), (zkep HB.out hw102_4)⟩ (fun hHeld => ?_); refine with_tabW laws_eqInstrS.tab6 laws_eqInstrS.bits6 (fun HT_ HW_ => ?_)
 generalize wr.drew = w9 at HB hx101_0 hx101_1 hx101_2 hx101_3 hx101_4 hx102_0 hx102_1 hx102_2 hx102_3 hx102_4 hHeld ⊢
 refine zpu 0 17 HT_ ?_
 refine zpu 1 18 HT_ ?_
 refine zpu 2 19 HT_ ?_
 refine zpu 4 21 HT_ ?_
 refine zpu 5 22 HT_ ?_
 refine zpu 6 23 HT_ ?_
 refine ztu 3 20 HT_ HW_ hHeld ?_
 refine ztu 7 24 HT_ HW_ hHeld ?_
 refine one_ (i := 8) (N := some 25) #[true, true, true, true, true, true, true, true, true, false] rfl rfl (one_of HT_.out zq22) (by decide) (fun K hK => ?_)
 refine zgo Try.func42 (laws_eqInstr.calls ((rd_T64 l0 x5_1).f0) ((rd_T64 l0 x5_1).f1) ((rd_T64 l0 x5_1).f2) ((rd_T64 l0 x5_1).f3) ((rd_T64 l0 x5_1).f4) ((rd_T64 l1 x5_1).f0) ((rd_T64 l1 x5_1).f1) ((rd_T64 l1 x5_1).f2) ((rd_T64 l1 x5_1).f3) ((rd_T64 l1 x5_1).f4) true _ A7.out) ?_
 rintro e w10 ⟨rfl, hb⟩
 refine ⟨_, rfl, ?_⟩
 replace HB := zA (below_step zq2 hb)
 (try clear hb)
 (try clear hb2)
 (try clear hk)
 (try clear hi)
 refine hK.out _ _ ⟨(zkep HB.out hw101_0), (zkep HB.out hw101_1), (zkep HB.out hw101_2), (zkep HB.out hw101_3), (zkep HB.out hw101_4), (zkep HB.out hw102_0), (zkep HB.out hw102_1), (zkep HB.out hw102_2), (zkep HB.out hw102_3), (zkep HB.out hw102_4)⟩ (fun hHeld => ?_)
 clear hK K
 refine znm 25 ?_
 refine zpu 9 26 HT_ ?_
 refine done_ (done_of HT_.out zq22) ?_
 try go_wp2
 go_roundg k1
 case measure => have := HK1.out; omega
 case rel => exact ⟨(wrap64 (x5_1 + 1)), zq7, H', ⟨zq37 HK1⟩, ⟨zq2⟩⟩
def laws_eqNode.f (a0_0 : ByteArray) (a0_1 : Int) (a0_2 : Int) (a0_3 : Int) (a1_0 : ByteArray) (a1_1 : Int) (a1_2 : Int) (a1_3 : Int) : Option (Bool) := if a0_0.toList = a1_0.toList then (if a0_1 = a1_1 then (if a0_2 = a1_2 then (if a0_3 = a1_3 then (some true) else (some false)) else (some false)) else (some false)) else (some false)
theorem laws_eqNode.calls (a0_0 : ByteArray) (a0_1 : Int) (a0_2 : Int) (a0_3 : Int) (a1_0 : ByteArray) (a1_1 : Int) (a1_2 : Int) (a1_3 : Int) (r : Bool) (w : World) (h : laws_eqNode.f a0_0 a0_1 a0_2 a0_3 a1_0 a1_1 a1_2 a1_3 = some r) :
   Calls Try.prog 39 #[.agg #[.string a0_0, .int .i64 a0_1, .int .i64 a0_2, .int .i64 a0_3], .agg #[.string a1_0, .int .i64 a1_1, .int .i64 a1_2, .int .i64 a1_3]] w fun e w' => e = .returned (.bool r) ∧ Below w.heap.size w w' := by
 have key : r = (!(a0_0.toList != a1_0.toList) && !(a0_1 != a1_1) && !(a0_2 != a1_2) && !(a0_3 != a1_3)) := by
   unfold laws_eqNode.f at h
   (repeat' split at h) <;> simp_all
 have HK := zA key
 clear h key
 go_enter Try.func39, Try.ntmps39
 go_wp2
 all_goals
   go_ret
   exact ⟨by rw [HK.out]; simp_all, zba (zba (Below.refl _ _) _) _⟩
def laws_eqNodeS.l0 : Nat → List (S60) → List (S60) → Int → Option (Bool)
 | 0, _, _, _ => none
 | k + 1, x0, x1, x5 => if x5 < (x0.length : Int) then (if 0 ≤ x5 then (if x5 < (x1.length : Int) then ((laws_eqNode.f ((rd_T60 x0 x5).f0) ((rd_T60 x0 x5).f1) ((rd_T60 x0 x5).f2) ((rd_T60 x0 x5).f3) ((rd_T60 x1 x5).f0) ((rd_T60 x1 x5).f1) ((rd_T60 x1 x5).f2) ((rd_T60 x1 x5).f3)).bind fun t103 => (if t103 = true then (laws_eqNodeS.l0 k x0 x1 (wrap64 (x5 + 1))) else (some false))) else (none)) else (none)) else (some true)
def laws_eqNodeS.f (k : Nat) (l0 : List (S60)) (l1 : List (S60)) : Option (Bool) := if (l0.length : Int) = (l1.length : Int) then (laws_eqNodeS.l0 k l0 l1 0) else (some false)
theorem laws_eqNodeS.mono_l : ∀ k, (∀ y0 y1 y2, LeO (laws_eqNodeS.l0 k y0 y1 y2) (laws_eqNodeS.l0 (k + 1) y0 y1 y2))
 | 0 => fun _ _ _ r h => by simp [laws_eqNodeS.l0] at h
 | k + 1 => by
   have ih0 := laws_eqNodeS.mono_l k
   · intro y0 y1 y2
     unfold laws_eqNodeS.l0
     exact zm1 ih0
theorem laws_eqNodeS.mono : ∀ a0 a1 k, LeO (laws_eqNodeS.f k a0 a1) (laws_eqNodeS.f (k + 1) a0 a1) := by
 intro a0 a1 k
 have ih0 := laws_eqNodeS.mono_l k
 unfold laws_eqNodeS.f
 exact zm1 ih0
def laws_eqNodeS.T6 : Bool × List (List Nat × List Nat) := (true, [([], []), ([], []), ([0, 1], [0, 1]), ([2], [2]), ([], []), ([], []), ([4, 5], [4, 5]), ([6], [6]), ([3, 7], [3, 7]), ([8], [8])])
def laws_eqNodeS.B6 : List Nat := [0, 0, 3, 7, 0, 0, 48, 112, 255, 511]
theorem laws_eqNodeS.tab6 : rtab .any (opsOf Try.f14 6) = laws_eqNodeS.T6 := by kernel_rfl
theorem laws_eqNodeS.bits6 : waitsOk laws_eqNodeS.T6.2 laws_eqNodeS.B6 = true := by kernel_rfl
theorem laws_eqNodeS.calls (k : Nat) (A0 : Option Addr) (c0 : Nat) (l0 : List (S60)) (A1 : Option Addr) (c1 : Nat) (l1 : List (S60)) (r : Bool) (w : World) (hr0 : Kd.C k60 w A0 l0.length l0) (hc0 : l0.length ≤ c0) (hr1 : Kd.C k60 w A1 l1.length l1) (hc1 : l1.length ≤ c1) (h : laws_eqNodeS.f k l0 l1 = some r) :
   Calls Try.prog 14 #[.slice A0 l0.length c0, .slice A1 l1.length c1] w fun e w' => e = .returned (.bool r) ∧ Below w.heap.size w w' := by
 have hu60 := Try.underlying60
 have HR0 := zA hr0
 have HC0 := zA hc0
 clear hr0 hc0
 have HR1 := zA hr1
 have HC1 := zA hc1
 clear hr1 hc1
 have HB := zA (Below.refl w.heap.size w)
 have H : (if (l0.length : Int) = (l1.length : Int) then (laws_eqNodeS.l0 k l0 l1 0) else (some false)) = some r := h
 clear h
 by_cases c3 : (l0.length : Int) = (l1.length : Int)
 rotate_left
 · rw [if_neg c3] at H
   obtain ⟨c3b0, c3b1⟩ := zbq c3
   have c3b2 : (l0.length == l1.length) = false := by first | simpa using c3 | (simp at c3 ⊢; omega)
   obtain rfl := zsi H
   go_enter Try.func14, Try.ntmps14
   go_wp2
   exact zr_4
 rw [if_pos c3] at H
 obtain ⟨c3b0, c3b1⟩ := zbe c3
 have c3b2 : (l0.length == l1.length) = true := by first | simpa using c3 | (simp at c3 ⊢; omega)
 clear c3
 have H' := zA H
 clear H
 go_enter Try.func14, Try.ntmps14
 go_wp2
 go_loopg [5] k (fun kq v5 w' => ∃ (x5_1 : Int), v5 = .int .i64 x5_1 ∧ Aside0 (laws_eqNodeS.l0 kq l0 l1 x5_1 = some r) ∧ Aside0 (kq ≤ k) ∧ Aside0 (Below w.heap.size w w'))
 case atStart => exact ⟨(0), zq7, H', ⟨zlr _⟩, ⟨zq2⟩⟩
 clear H'
 try clear c1
 try clear c3
 try clear c3b0
 try clear c3b1
 try clear c3b2
 obtain ⟨x5_1, rfl, HA, HK1, HB⟩ := hrel
 cases gk with
 | zero => exact absurd HA.out (by simp [laws_eqNodeS.l0])
 | succ k1 =>
 have H := HA.out
 clear HA
 simp only [laws_eqNodeS.l0] at H
 revert H
 refine zit (fun c4 H => ?_) fun c4 H => ?_
 rotate_left
 · obtain rfl := zsi H
   go_wp2
   exact zr_4
 revert H
 refine zin fun c5 H => ?_
 revert H
 refine zin fun c6 H => ?_
 replace H := zob H
 obtain ⟨t103, A70, H⟩ := H
 replace H : (if t103 = true then (laws_eqNodeS.l0 k1 l0 l1 (wrap64 (x5_1 + 1))) else (some false)) = some r := H
 have A7 := zA A70
 clear A70
 by_cases c8 : t103 = true
 rotate_left
 · replace c8 := zbf c8
   subst c8
   replace H := zif H
   obtain rfl := zsi H
   try go_wp2
   replace HB := zA (zbd HB.out)
   obtain ⟨p101, q101⟩ := zpq x5_1 l0.length
   obtain ⟨ad101, e101, hx101_0, hx101_1, hx101_2, hx101_3⟩ := at_T60 HR0.out x5_1 (zoe p101) (zoe q101)
   have hw101_3 := hx101_3
   have hw101_2 := hx101_2
   have hw101_1 := hx101_1
   have hw101_0 := hx101_0
   cases e101
   replace hx101_0 := zkep HB.out hx101_0
   replace hx101_1 := zkep HB.out hx101_1
   replace hx101_2 := zkep HB.out hx101_2
   replace hx101_3 := zkep HB.out hx101_3
   obtain ⟨p102, q102⟩ := zpq x5_1 l1.length
   obtain ⟨ad102, e102, hx102_0, hx102_1, hx102_2, hx102_3⟩ := at_T60 HR1.out x5_1 (zoe p102) (zoe q102)
   have hw102_3 := hx102_3
   have hw102_2 := hx102_2
   have hw102_1 := hx102_1
   have hw102_0 := hx102_0
   cases e102
   replace hx102_0 := zkep HB.out hx102_0
   replace hx102_1 := zkep HB.out hx102_1
   replace hx102_2 := zkep HB.out hx102_2
   replace hx102_3 := zkep HB.out hx102_3
   refine start_ (n := 10) (S := fun w' => w'.cell? (ad101.add ((x5_1).toNat * 4)) = some (.string ((rd_T60 l0 x5_1).f0)) ∧ w'.cell? ⟨(ad101.add ((x5_1).toNat * 4)).block, (ad101.add ((x5_1).toNat * 4)).off + 1, none⟩ = some (.int .i64 ((rd_T60 l0 x5_1).f1)) ∧ w'.cell? ⟨(ad101.add ((x5_1).toNat * 4)).block, (ad101.add ((x5_1).toNat * 4)).off + 2, none⟩ = some (.int .i64 ((rd_T60 l0 x5_1).f2)) ∧ w'.cell? ⟨(ad101.add ((x5_1).toNat * 4)).block, (ad101.add ((x5_1).toNat * 4)).off + 3, none⟩ = some (.int .i64 ((rd_T60 l0 x5_1).f3)) ∧ w'.cell? (ad102.add ((x5_1).toNat * 4)) = some (.string ((rd_T60 l1 x5_1).f0)) ∧ w'.cell? ⟨(ad102.add ((x5_1).toNat * 4)).block, (ad102.add ((x5_1).toNat * 4)).off + 1, none⟩ = some (.int .i64 ((rd_T60 l1 x5_1).f1)) ∧ w'.cell? ⟨(ad102.add ((x5_1).toNat * 4)).block, (ad102.add ((x5_1).toNat * 4)).off + 2, none⟩ = some (.int .i64 ((rd_T60 l1 x5_1).f2)) ∧ w'.cell? ⟨(ad102.add ((x5_1).toNat * 4)).block, (ad102.add ((x5_1).toNat * 4)).off + 3, none⟩ = some (.int .i64 ((rd_T60 l1 x5_1).f3))) (ds := []) #[false, false, false, false, false, false, false, false, false, false] zq22 rfl rfl ⟨(zkep HB.out hw101_0), (zkep HB.out hw101_1), (zkep HB.out hw101_2), (zkep HB.out hw101_3), (zkep HB.out hw102_0), (zkep HB.out hw102_1), (zkep HB.out hw102_2), (zkep HB.out hw102_3)⟩ (fun hHeld => ?_); refine with_tabW laws_eqNodeS.tab6 laws_eqNodeS.bits6 (fun HT_ HW_ => ?_)
   generalize wr.drew = w11 at HB hx101_0 hx101_1 hx101_2 hx101_3 hx102_0 hx102_1 hx102_2 hx102_3 hHeld ⊢
   refine zpu 0 17 HT_ ?_
   refine zpu 1 18 HT_ ?_
   refine zpu 2 19 HT_ ?_
   refine zpu 4 21 HT_ ?_
   refine zpu 5 22 HT_ ?_
   refine zpu 6 23 HT_ ?_
   refine ztu 3 20 HT_ HW_ hHeld ?_
   refine ztu 7 24 HT_ HW_ hHeld ?_
   refine one_ (i := 8) (N := some 25) #[true, true, true, true, true, true, true, true, true, false] rfl rfl (one_of HT_.out zq22) (by decide) (fun K hK => ?_)
   refine zgo Try.func39 (laws_eqNode.calls ((rd_T60 l0 x5_1).f0) ((rd_T60 l0 x5_1).f1) ((rd_T60 l0 x5_1).f2) ((rd_T60 l0 x5_1).f3) ((rd_T60 l1 x5_1).f0) ((rd_T60 l1 x5_1).f1) ((rd_T60 l1 x5_1).f2) ((rd_T60 l1 x5_1).f3) false _ A7.out) ?_
   rintro e w12 ⟨rfl, hb⟩
   refine ⟨_, rfl, ?_⟩
   replace HB := zA (below_step zq2 hb)
   (try clear hb)
   (try clear hb2)
   (try clear hk)
   (try clear hi)
   refine hK.out _ _ ⟨(zkep HB.out hw101_0), (zkep HB.out hw101_1), (zkep HB.out hw101_2), (zkep HB.out hw101_3), (zkep HB.out hw102_0), (zkep HB.out hw102_1), (zkep HB.out hw102_2), (zkep HB.out hw102_3)⟩ (fun hHeld => ?_)
   clear hK K
   refine znm 25 ?_
   refine zpu 9 26 HT_ ?_
   refine done_ (done_of HT_.out zq22) ?_
   try go_wp2
   exact zr_4
 subst c8
 replace H := zih H
 have H' := zA H
 clear H
 try go_wp2
 replace HB := zA (zbd HB.out)
 obtain ⟨p101, q101⟩ := zpq x5_1 l0.length
 obtain ⟨ad101, e101, hx101_0, hx101_1, hx101_2, hx101_3⟩ := at_T60 HR0.out x5_1 (zoe p101) (zoe q101)
 have hw101_3 := hx101_3
 have hw101_2 := hx101_2
 have hw101_1 := hx101_1
 have hw101_0 := hx101_0
 cases e101
 replace hx101_0 := zkep HB.out hx101_0
 replace hx101_1 := zkep HB.out hx101_1
 replace hx101_2 := zkep HB.out hx101_2
 replace hx101_3 := zkep HB.out hx101_3
 obtain ⟨p102, q102⟩ := zpq x5_1 l1.length
 obtain ⟨ad102, e102, hx102_0, hx102_1, hx102_2, hx102_3⟩ := at_T60 HR1.out x5_1 (zoe p102) (zoe q102)
 have hw102_3 := hx102_3
 have hw102_2 := hx102_2
 have hw102_1 := hx102_1
 have hw102_0 := hx102_0
 cases e102
 replace hx102_0 := zkep HB.out hx102_0
 replace hx102_1 := zkep HB.out hx102_1
 replace hx102_2 := zkep HB.out hx102_2
 replace hx102_3 := zkep HB.out hx102_3
 refine start_ (n := 10) (S := fun w' => w'.cell? (ad101.add ((x5_1).toNat * 4)) = some (.string ((rd_T60 l0 x5_1).f0)) ∧ w'.cell? ⟨(ad101.add ((x5_1).toNat * 4)).block, (ad101.add ((x5_1).toNat * 4)).off + 1, none⟩ = some (.int .i64 ((rd_T60 l0 x5_1).f1)) ∧ w'.cell? ⟨(ad101.add ((x5_1).toNat * 4)).block, (ad101.add ((x5_1).toNat * 4)).off + 2, none⟩ = some (.int .i64 ((rd_T60 l0 x5_1).f2)) ∧ w'.cell? ⟨(ad101.add ((x5_1).toNat * 4)).block, (ad101.add ((x5_1).toNat * 4)).off + 3, none⟩ = some (.int .i64 ((rd_T60 l0 x5_1).f3)) ∧ w'.cell? (ad102.add ((x5_1).toNat * 4)) = some (.string ((rd_T60 l1 x5_1).f0)) ∧ w'.cell? ⟨(ad102.add ((x5_1).toNat * 4)).block, (ad102.add ((x5_1).toNat * 4)).off + 1, none⟩ = some (.int .i64 ((rd_T60 l1 x5_1).f1)) ∧ w'.cell? ⟨(ad102.add ((x5_1).toNat * 4)).block, (ad102.add ((x5_1).toNat * 4)).off + 2, none⟩ = some (.int .i64 ((rd_T60 l1 x5_1).f2)) ∧ w'.cell? ⟨(ad102.add ((x5_1).toNat * 4)).block, (ad102.add ((x5_1).toNat * 4)).off + 3, none⟩ = some (.int .i64 ((rd_T60 l1 x5_1).f3))) (ds := []) #[false, false, false, false, false, false, false, false, false, false] zq22 rfl rfl ⟨(zkep HB.out hw101_0), (zkep HB.out hw101_1), (zkep HB.out hw101_2), (zkep HB.out hw101_3), (zkep HB.out hw102_0), (zkep HB.out hw102_1), (zkep HB.out hw102_2), (zkep HB.out hw102_3)⟩ (fun hHeld => ?_); refine with_tabW laws_eqNodeS.tab6 laws_eqNodeS.bits6 (fun HT_ HW_ => ?_)
 generalize wr.drew = w9 at HB hx101_0 hx101_1 hx101_2 hx101_3 hx102_0 hx102_1 hx102_2 hx102_3 hHeld ⊢
 refine zpu 0 17 HT_ ?_
 refine zpu 1 18 HT_ ?_
 refine zpu 2 19 HT_ ?_
 refine zpu 4 21 HT_ ?_
 refine zpu 5 22 HT_ ?_
 refine zpu 6 23 HT_ ?_
 refine ztu 3 20 HT_ HW_ hHeld ?_
 refine ztu 7 24 HT_ HW_ hHeld ?_
 refine one_ (i := 8) (N := some 25) #[true, true, true, true, true, true, true, true, true, false] rfl rfl (one_of HT_.out zq22) (by decide) (fun K hK => ?_)
 refine zgo Try.func39 (laws_eqNode.calls ((rd_T60 l0 x5_1).f0) ((rd_T60 l0 x5_1).f1) ((rd_T60 l0 x5_1).f2) ((rd_T60 l0 x5_1).f3) ((rd_T60 l1 x5_1).f0) ((rd_T60 l1 x5_1).f1) ((rd_T60 l1 x5_1).f2) ((rd_T60 l1 x5_1).f3) true _ A7.out) ?_
 rintro e w10 ⟨rfl, hb⟩
 refine ⟨_, rfl, ?_⟩
 replace HB := zA (below_step zq2 hb)
 (try clear hb)
 (try clear hb2)
 (try clear hk)
 (try clear hi)
 refine hK.out _ _ ⟨(zkep HB.out hw101_0), (zkep HB.out hw101_1), (zkep HB.out hw101_2), (zkep HB.out hw101_3), (zkep HB.out hw102_0), (zkep HB.out hw102_1), (zkep HB.out hw102_2), (zkep HB.out hw102_3)⟩ (fun hHeld => ?_)
 clear hK K
 refine znm 25 ?_
 refine zpu 9 26 HT_ ?_
 refine done_ (done_of HT_.out zq22) ?_
 try go_wp2
 go_roundg k1
 case measure => have := HK1.out; omega
 case rel => exact ⟨(wrap64 (x5_1 + 1)), zq7, H', ⟨zq37 HK1⟩, ⟨zq2⟩⟩
def laws_szIntS.f (l0 : List Int) (a1 : Int) : Option (Int) := if (wrap64 (a1 - (l0.length : Int))) < 0 then (some (-1)) else (some (wrap64 (a1 - (l0.length : Int))))
theorem laws_szIntS.calls (A0 : Option Addr) (c0 : Nat) (l0 : List Int) (a1 : Int) (r : Int) (w : World) (hr0 : Kd.C (Kd.int .i64) w A0 l0.length l0) (hc0 : l0.length ≤ c0) (h : laws_szIntS.f l0 a1 = some r) :
   Calls Try.prog 23 #[.slice A0 l0.length c0, .int .i64 a1] w fun e w' => e = .returned (.int .i64 r) ∧ Drawn0 w w' := by
 have HR0 := zA hr0
 have HC0 := zA hc0
 clear hr0 hc0
 have H : (if (wrap64 (a1 - (l0.length : Int))) < 0 then (some (-1)) else (some (wrap64 (a1 - (l0.length : Int))))) = some r := h
 clear h
 by_cases c3 : (wrap64 (a1 - (l0.length : Int))) < 0
 · rw [if_pos c3] at H
   have c3b0 := zdt c3
   clear c3
   obtain rfl := zsi H
   go_enter Try.func23, Try.ntmps23
   exact zr_1
 · rw [if_neg c3] at H
   have c3b0 := zdf c3
   clear c3
   obtain rfl := zsi H
   go_enter Try.func23, Try.ntmps23
   exact zr_1
end Go.Proofs.Ytnaafcleafbejaa.Q
end
