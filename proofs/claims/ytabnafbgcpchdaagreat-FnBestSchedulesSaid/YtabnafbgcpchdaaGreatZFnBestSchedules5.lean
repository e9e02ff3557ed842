/- Proved here: contracts of functions that the law FnBestSchedules reaches, and lemmas on what they compute; texts of this session and the printed words of the kit that they lean on, cut down and put together by its program link.py. Conditions: as each states. -/
import Derived.Carry
import Derived.Deep.Slices
import Derived.Laws.BitsLemmas
import Derived.ProofKit
import Derived.Test.YtabnafbgcpchdaaGreatZFnBestSchedules1
import Derived.Test.YtabnafbgcpchdaaGreatZFnBestSchedules2
import Derived.Test.YtabnafbgcpchdaaGreatZFnBestSchedules3
import Derived.Test.YtabnafbgcpchdaaGreatZFnBestSchedules4
section
namespace Go.Proofs.YtabnafbgcpchdaaGreat.Q
open Go.RowKit Go.Proofs.YtabnafbgcpchdaaGreatW.PrintWords Go.Proofs.YtabnafbgcpchdaaGreatW.PrintLast Go.Proofs.YtabnafbgcpchdaaGreatW.PrintMore
set_option maxHeartbeats 8000000
set_option maxRecDepth 100000
attribute [local go_sem] zjj zjk zla zlb zh8 zh9 zjl zjm
set_option linter.unusedVariables false
set_option linter.unusedSimpArgs false
def zdh : Nat → List Int → Int → List (S55) → Int → Int → Option (Int)
 | 0, _, _, _, _, _ => none
 | k + 1, x1, x5, x8, x9, x10 => if x10 < x9 then (if 0 ≤ x10 then (if x10 < (x8.length : Int) then (if x10 < (x1.length : Int) then ((zf9 ((zaa x8 x10).f0)).bind fun t104 => ((zdb x5 (wrap64 ((rd x1 x10) + t104))).bind fun t105 => (zdh k x1 t105 x8 x9 (wrap64 (x10 + 1))))) else (none)) else (none)) else (none)) else (some x5)
def zgk (k : Nat) (l0 : List (S55)) (l1 : List Int) : Option (Int) := zdh k l1 0 l0 (l0.length : Int) 0
theorem zlk : ∀ k, (∀ y0 y1 y2 y3 y4, LeO (zdh k y0 y1 y2 y3 y4) (zdh (k + 1) y0 y1 y2 y3 y4))
 | 0 => fun _ _ _ _ _ r h => by simp [zdh] at h
 | k + 1 => by
   have ih0 := zlk k
   · intro y0 y1 y2 y3 y4
     unfold zdh
     exact zm1 ih0
theorem zmt : ∀ a0 a1 k, LeO (zgk k a0 a1) (zgk (k + 1) a0 a1) := by
 intro a0 a1 k
 have ih0 := zlk k
 unfold zgk
 exact zm1 ih0
theorem zpp (k : Nat) (A0 : Option Addr) (c0 : Nat) (l0 : List (S55)) (A1 : Option Addr) (c1 : Nat) (l1 : List Int) (r : Int) (w : World) (hr0 : Kd.C k55 w A0 l0.length l0) (hc0 : l0.length ≤ c0) (hr1 : Kd.C (Kd.int .i64) w A1 l1.length l1) (hc1 : l1.length ≤ c1) (h : zgk k l0 l1 = some r) :
   Calls Tryz.prog 91 #[.slice A0 l0.length c0, .slice A1 l1.length c1] w fun e w' => e = .returned (.int .i64 r) ∧ Below w.heap.size w w' := by
 have hu55 := Tryz.underlying55
 have HR0 := zA hr0
 have HC0 := zA hc0
 clear hr0 hc0
 have HR1 := zA hr1
 have HC1 := zA hc1
 clear hr1 hc1
 have HB := zA (Below.refl w.heap.size w)
 have H := h
 unfold zgk at H
 clear h
 have H' := zA H
 clear H
 go_enter Tryz.func91, Tryz.ntmps91
 go_wp2
 repeat (go_quiet (fail); try go_wp2)
 go_loopg [5, 10] k (fun kq v5 v10 w' => ∃ (x5_1 : Int) (x10_1 : Int), v5 = .int .i64 x5_1 ∧ v10 = .int .i64 x10_1 ∧ Aside0 (zdh kq l1 x5_1 l0 (l0.length : Int) x10_1 = some r) ∧ Aside0 (kq ≤ k) ∧ Aside0 (Below w.heap.size w w'))
 case atStart => exact ⟨(0), (0), zq8, zq8, H', ⟨zlr _⟩, ⟨zq1⟩⟩
 clear H'
 obtain ⟨x5_1, x10_1, rfl, rfl, HA, HK1, HB⟩ := hrel
 cases gk with
 | zero => exact absurd HA.out (by simp [zdh])
 | succ k1 =>
 have H := HA.out
 clear HA
 simp only [zdh] at H
 revert H
 refine zit (fun c3 H => ?_) fun c3 H => ?_
 rotate_left
 · obtain rfl := zsi H
   go_wp2
   repeat (go_quiet (fail); try go_wp2)
   exact zr_3
 revert H
 refine zin fun c4 H => ?_
 revert H
 refine zin fun c5 H => ?_
 revert H
 refine zin fun c6 H => ?_
 replace H := zob H
 obtain ⟨t104, A70, H⟩ := H
 have A7 := zA A70
 clear A70
 replace H := zob H
 obtain ⟨t105, A80, H⟩ := H
 have A8 := zA A80
 clear A80
 have H' := zA H
 clear H
 obtain ⟨p101, q101⟩ := zpq x10_1 l0.length
 obtain ⟨ad101, e101, hx101_0, hx101_1, hx101_2, hx101_3, hx101_4⟩ := zi7 HR0.out x10_1 (zoe p101) (zoe q101)
 cases e101
 replace hx101_0 := zkep HB.out hx101_0
 replace hx101_1 := zkep HB.out hx101_1
 replace hx101_2 := zkep HB.out hx101_2
 replace hx101_3 := zkep HB.out hx101_3
 replace hx101_4 := zkep HB.out hx101_4
 go_wp2_with (first | ((with_reducible refine zgd 7 ?_); refine zbh zq1 #[.string (⟨#[]⟩ : ByteArray), .int .i64 0, .int .i64 0, .int .i64 0, .int .i64 0] 55 ?_; clear HB; intro gb102 w9 HB BK102 GW102; have GE102 := GW102; obtain ⟨hcz10_0, hcz10_1, hcz10_2, hcz10_3, hcz10_4, hfz10_0, hfz10_1, hfz10_2, hfz10_3, hfz10_4⟩ := zd5 BK102; have p103 : 0 ≤ (x10_1 : Int) := zde zq21; have q103 : x10_1 < (l1.length : Int) := zde zq21; obtain ⟨ad103, e103, hx103_0⟩ := Kd.at_int HR1.out x10_1 p103 q103; cases e103; have hn103_0 : ad103.block ≠ gb102 := Nat.ne_of_lt (Nat.lt_of_lt_of_le (by have := World.block_lt_of_cell? _ _ hx103_0; first | rwa [za5] at this | exact this) GW102.out); have hn103_1 : ad103.block ≠ gb102 := Nat.ne_of_lt (Nat.lt_of_lt_of_le (by have := World.block_lt_of_cell? _ _ hx103_0; first | rwa [za5] at this | exact this) GW102.out); have hn103_2 : ad103.block ≠ gb102 := Nat.ne_of_lt (Nat.lt_of_lt_of_le (by have := World.block_lt_of_cell? _ _ hx103_0; first | rwa [za5] at this | exact this) GW102.out); have hn103_3 : ad103.block ≠ gb102 := Nat.ne_of_lt (Nat.lt_of_lt_of_le (by have := World.block_lt_of_cell? _ _ hx103_0; first | rwa [za5] at this | exact this) GW102.out); have hn103_4 : ad103.block ≠ gb102 := Nat.ne_of_lt (Nat.lt_of_lt_of_le (by have := World.block_lt_of_cell? _ _ hx103_0; first | rwa [za5] at this | exact this) GW102.out); replace hx103_0 := zkep HB.out hx103_0; replace hx103_0 := (zaf (p := ⟨gb102, 0, none⟩) zq58 (.string ((zaa l0 x10_1).f0))).trans hx103_0; replace hx103_0 := (zaf (p := ⟨gb102, 1, none⟩) zq59 (.int .i64 ((zaa l0 x10_1).f1))).trans hx103_0; replace hx103_0 := (zaf (p := ⟨gb102, 2, none⟩) zq60 (.int .i64 ((zaa l0 x10_1).f2))).trans hx103_0; replace hx103_0 := (zaf (p := ⟨gb102, 3, none⟩) zq61 (.int .i64 ((zaa l0 x10_1).f3))).trans hx103_0; replace hx103_0 := (zaf (p := ⟨gb102, 4, none⟩) zq62 (.int .i64 ((zaa l0 x10_1).f4))).trans hx103_0; (try have hy103_0 := fun (n_ : Nat) => (show (((((((w9.drewN n_).setCell ⟨gb102, 0, none⟩ (.string ((zaa l0 x10_1).f0))).setCell ⟨gb102, 1, none⟩ (.int .i64 ((zaa l0 x10_1).f1))).setCell ⟨gb102, 2, none⟩ (.int .i64 ((zaa l0 x10_1).f2))).setCell ⟨gb102, 3, none⟩ (.int .i64 ((zaa l0 x10_1).f3))).setCell ⟨gb102, 4, none⟩ (.int .i64 ((zaa l0 x10_1).f4)))).cell? _ = some _ from hx103_0)); clear hn103_0; clear hn103_1; clear hn103_2; clear hn103_3; clear hn103_4; replace p103 := eq_true p103; replace q103 := eq_true q103) | (go_at_call 100; (with_reducible refine (zfz ((zaa l0 x10_1).f0) t104 _ A7.out).mono ?_); rintro e w' ⟨rfl, ⟨nd, rfl⟩⟩; (try first | exact ⟨rfl, _, World.drewN_drewN _ _ _⟩ | exact ⟨rfl, _, Eq.trans (World.drewN_drewN _ _ _) (congrArg (World.drewN _) (Nat.add_assoc _ _ _))⟩)) | (go_at_call 103; (with_reducible refine (zdz x5_1 (wrap64 ((rd l1 x10_1) + t104)) t105 _ A8.out).mono ?_); rintro e w' ⟨rfl, ⟨nd, rfl⟩⟩; (try first | exact ⟨rfl, _, World.drewN_drewN _ _ _⟩ | exact ⟨rfl, _, Eq.trans (World.drewN_drewN _ _ _) (congrArg (World.drewN _) (Nat.add_assoc _ _ _))⟩)))
 repeat (go_quiet (first | ((with_reducible refine zrv (N := 7) rfl ?_); refine zv3 ?hg (N := 7) ?hd (cs := #[.string (⟨#[]⟩ : ByteArray), .int .i64 0, .int .i64 0, .int .i64 0, .int .i64 0]) (t := 55) ?hr ?_; (case hd => rfl); (case hg => rfl); (case hr => go_simp <;> rfl); intro gb102 hg w9 hbox hb; have zs := zpair zq1 hb; have n0_ := zA (zs.1); have n1_ := zA (hbox); have n2_ := zA (zge hg zs.2); have n3_ := n2_; clear HB; have HB := n0_; have BK102 := n1_; have GW102 := n2_; have GE102 := n3_; clear n0_ n1_ n2_ n3_; clear zs hb hbox hg; obtain ⟨hcz10_0, hcz10_1, hcz10_2, hcz10_3, hcz10_4⟩ := zc5 w9 (.string (⟨#[]⟩ : ByteArray)) (.int .i64 0) (.int .i64 0) (.int .i64 0) (.int .i64 0) BK102.out; obtain ⟨hfz10_0, hfz10_1, hfz10_2, hfz10_3, hfz10_4⟩ := zf5 BK102.out; have p103 : 0 ≤ (x10_1 : Int) := zde zq21; have q103 : x10_1 < (l1.length : Int) := zde zq21; obtain ⟨ad103, e103, hx103_0⟩ := Kd.at_int HR1.out x10_1 p103 q103; cases e103; have hn103_0 : ad103.block ≠ gb102 := Nat.ne_of_lt (Nat.lt_of_lt_of_le (by have := World.block_lt_of_cell? _ _ hx103_0; first | rwa [za5] at this | exact this) GW102.out); have hn103_1 : ad103.block ≠ gb102 := Nat.ne_of_lt (Nat.lt_of_lt_of_le (by have := World.block_lt_of_cell? _ _ hx103_0; first | rwa [za5] at this | exact this) GW102.out); have hn103_2 : ad103.block ≠ gb102 := Nat.ne_of_lt (Nat.lt_of_lt_of_le (by have := World.block_lt_of_cell? _ _ hx103_0; first | rwa [za5] at this | exact this) GW102.out); have hn103_3 : ad103.block ≠ gb102 := Nat.ne_of_lt (Nat.lt_of_lt_of_le (by have := World.block_lt_of_cell? _ _ hx103_0; first | rwa [za5] at this | exact this) GW102.out); have hn103_4 : ad103.block ≠ gb102 := Nat.ne_of_lt (Nat.lt_of_lt_of_le (by have := World.block_lt_of_cell? _ _ hx103_0; first | rwa [za5] at this | exact this) GW102.out); replace hx103_0 := zkep HB.out hx103_0; replace hx103_0 := (zaf (p := ⟨gb102, 0, none⟩) zq58 (.string ((zaa l0 x10_1).f0))).trans hx103_0; replace hx103_0 := (zaf (p := ⟨gb102, 1, none⟩) zq59 (.int .i64 ((zaa l0 x10_1).f1))).trans hx103_0; replace hx103_0 := (zaf (p := ⟨gb102, 2, none⟩) zq60 (.int .i64 ((zaa l0 x10_1).f2))).trans hx103_0; replace hx103_0 := (zaf (p := ⟨gb102, 3, none⟩) zq61 (.int .i64 ((zaa l0 x10_1).f3))).trans hx103_0; replace hx103_0 := (zaf (p := ⟨gb102, 4, none⟩) zq62 (.int .i64 ((zaa l0 x10_1).f4))).trans hx103_0; (try have hy103_0 := fun (n_ : Nat) => (show (((((((w9.drewN n_).setCell ⟨gb102, 0, none⟩ (.string ((zaa l0 x10_1).f0))).setCell ⟨gb102, 1, none⟩ (.int .i64 ((zaa l0 x10_1).f1))).setCell ⟨gb102, 2, none⟩ (.int .i64 ((zaa l0 x10_1).f2))).setCell ⟨gb102, 3, none⟩ (.int .i64 ((zaa l0 x10_1).f3))).setCell ⟨gb102, 4, none⟩ (.int .i64 ((zaa l0 x10_1).f4)))).cell? _ = some _ from hx103_0)); clear hn103_0; clear hn103_1; clear hn103_2; clear hn103_3; clear hn103_4; replace p103 := eq_true p103; replace q103 := eq_true q103) | (go_at_call 100; (with_reducible refine (zfz ((zaa l0 x10_1).f0) t104 _ A7.out).mono ?_); rintro e w' ⟨rfl, ⟨nd, rfl⟩⟩; (try first | exact ⟨rfl, _, World.drewN_drewN _ _ _⟩ | exact ⟨rfl, _, Eq.trans (World.drewN_drewN _ _ _) (congrArg (World.drewN _) (Nat.add_assoc _ _ _))⟩)) | (go_at_call 103; (with_reducible refine (zdz x5_1 (wrap64 ((rd l1 x10_1) + t104)) t105 _ A8.out).mono ?_); rintro e w' ⟨rfl, ⟨nd, rfl⟩⟩; (try first | exact ⟨rfl, _, World.drewN_drewN _ _ _⟩ | exact ⟨rfl, _, Eq.trans (World.drewN_drewN _ _ _) (congrArg (World.drewN _) (Nat.add_assoc _ _ _))⟩))); try go_wp2_with (first | ((with_reducible refine zrv (N := 7) rfl ?_); refine zv3 ?hg (N := 7) ?hd (cs := #[.string (⟨#[]⟩ : ByteArray), .int .i64 0, .int .i64 0, .int .i64 0, .int .i64 0]) (t := 55) ?hr ?_; (case hd => rfl); (case hg => rfl); (case hr => go_simp <;> rfl); intro gb102 hg w9 hbox hb; have zs := zpair zq1 hb; have n0_ := zA (zs.1); have n1_ := zA (hbox); have n2_ := zA (zge hg zs.2); have n3_ := n2_; clear HB; have HB := n0_; have BK102 := n1_; have GW102 := n2_; have GE102 := n3_; clear n0_ n1_ n2_ n3_; clear zs hb hbox hg; obtain ⟨hcz10_0, hcz10_1, hcz10_2, hcz10_3, hcz10_4⟩ := zc5 w9 (.string (⟨#[]⟩ : ByteArray)) (.int .i64 0) (.int .i64 0) (.int .i64 0) (.int .i64 0) BK102.out; obtain ⟨hfz10_0, hfz10_1, hfz10_2, hfz10_3, hfz10_4⟩ := zf5 BK102.out; have p103 : 0 ≤ (x10_1 : Int) := zde zq21; have q103 : x10_1 < (l1.length : Int) := zde zq21; obtain ⟨ad103, e103, hx103_0⟩ := Kd.at_int HR1.out x10_1 p103 q103; cases e103; have hn103_0 : ad103.block ≠ gb102 := Nat.ne_of_lt (Nat.lt_of_lt_of_le (by have := World.block_lt_of_cell? _ _ hx103_0; first | rwa [za5] at this | exact this) GW102.out); have hn103_1 : ad103.block ≠ gb102 := Nat.ne_of_lt (Nat.lt_of_lt_of_le (by have := World.block_lt_of_cell? _ _ hx103_0; first | rwa [za5] at this | exact this) GW102.out); have hn103_2 : ad103.block ≠ gb102 := Nat.ne_of_lt (Nat.lt_of_lt_of_le (by have := World.block_lt_of_cell? _ _ hx103_0; first | rwa [za5] at this | exact this) GW102.out); have hn103_3 : ad103.block ≠ gb102 := Nat.ne_of_lt (Nat.lt_of_lt_of_le (by have := World.block_lt_of_cell? _ _ hx103_0; first | rwa [za5] at this | exact this) GW102.out); have hn103_4 : ad103.block ≠ gb102 := Nat.ne_of_lt (Nat.lt_of_lt_of_le (by have := World.block_lt_of_cell? _ _ hx103_0; first | rwa [za5] at this | exact this) GW102.out); replace hx103_0 := zkep HB.out hx103_0; replace hx103_0 := (zaf (p := ⟨gb102, 0, none⟩) zq58 (.string ((zaa l0 x10_1).f0))).trans hx103_0; replace hx103_0 := (zaf (p := ⟨gb102, 1, none⟩) zq59 (.int .i64 ((zaa l0 x10_1).f1))).trans hx103_0; replace hx103_0 := (zaf (p := ⟨gb102, 2, none⟩) zq60 (.int .i64 ((zaa l0 x10_1).f2))).trans hx103_0; replace hx103_0 := (zaf (p := ⟨gb102, 3, none⟩) zq61 (.int .i64 ((zaa l0 x10_1).f3))).trans hx103_0; replace hx103_0 := (zaf (p := ⟨gb102, 4, none⟩) zq62 (.int .i64 ((zaa l0 x10_1).f4))).trans hx103_0; (try have hy103_0 := fun (n_ : Nat) => (show (((((((w9.drewN n_).setCell ⟨gb102, 0, none⟩ (.string ((zaa l0 x10_1).f0))).setCell ⟨gb102, 1, none⟩ (.int .i64 ((zaa l0 x10_1).f1))).setCell ⟨gb102, 2, none⟩ (.int .i64 ((zaa l0 x10_1).f2))).setCell ⟨gb102, 3, none⟩ (.int .i64 ((zaa l0 x10_1).f3))).setCell ⟨gb102, 4, none⟩ (.int .i64 ((zaa l0 x10_1).f4)))).cell? _ = some _ from hx103_0)); clear hn103_0; clear hn103_1; clear hn103_2; clear hn103_3; clear hn103_4; replace p103 := eq_true p103; replace q103 := eq_true q103) | (go_at_call 100; (with_reducible refine (zfz ((zaa l0 x10_1).f0) t104 _ A7.out).mono ?_); rintro e w' ⟨rfl, ⟨nd, rfl⟩⟩; (try first | exact ⟨rfl, _, World.drewN_drewN _ _ _⟩ | exact ⟨rfl, _, Eq.trans (World.drewN_drewN _ _ _) (congrArg (World.drewN _) (Nat.add_assoc _ _ _))⟩)) | (go_at_call 103; (with_reducible refine (zdz x5_1 (wrap64 ((rd l1 x10_1) + t104)) t105 _ A8.out).mono ?_); rintro e w' ⟨rfl, ⟨nd, rfl⟩⟩; (try first | exact ⟨rfl, _, World.drewN_drewN _ _ _⟩ | exact ⟨rfl, _, Eq.trans (World.drewN_drewN _ _ _) (congrArg (World.drewN _) (Nat.add_assoc _ _ _))⟩))))
 go_roundg k1
 case measure => have := HK1.out; omega
 case rel => exact ⟨(t105), (wrap64 (x10_1 + 1)), zq8, zq8, H', ⟨zq46 HK1⟩, ⟨zq10 GE102⟩⟩
def zb9 : Nat → List (S55) → Int → Bool → Option (Int × Bool)
 | 0, _, _, _ => none
 | k + 1, x0, x1, x18 => if x18 = true then (some (0, false)) else ((zgz k x0 x1).bind fun t103 => ((zgk k x0 t103).bind fun t106 => (some (t106, true))))
def zew (k : Nat) (l0 : List (S55)) (a1 : Int) : Option (Int × Bool) := (zfb k l0).bind fun t101 => (if t101 = true then ((zhj a1).bind fun t102 => (if t102 = true then (zb9 k l0 a1 (decide ((l0.length : Int) > 7))) else (zb9 k l0 a1 true))) else (zb9 k l0 a1 true))
theorem zj9 : ∀ k, (∀ y0 y1 y2, LeO (zb9 k y0 y1 y2) (zb9 (k + 1) y0 y1 y2))
 | 0 => fun _ _ _ r h => by simp [zb9] at h
 | k + 1 => by
   have ih0 := zj9 k
   · intro y0 y1 y2
     unfold zb9
     exact zm4 ih0 zk8 zeo zmt
theorem zu3 : ∀ a0 a1 k, LeO (zew k a0 a1) (zew (k + 1) a0 a1) := by
 intro a0 a1 k
 have ih0 := zj9 k
 unfold zew
 exact zm4 ih0 zk8 zeo zmt
theorem zog (k : Nat) (A0 : Option Addr) (c0 : Nat) (l0 : List (S55)) (a1 : Int) (r1 : Int) (r2 : Bool) (w : World) (hr0 : Kd.C k55 w A0 l0.length l0) (hc0 : l0.length ≤ c0) (h : zew k l0 a1 = some (r1, r2)) :
   Calls Tryz.prog 46 #[.slice A0 l0.length c0, .int .i64 a1] w fun e w' => e = .returned (.tuple #[.int .i64 r1, .bool r2]) ∧ Below w.heap.size w w' := by
 have HR0 := zA hr0
 have HC0 := zA hc0
 clear hr0 hc0
 have HB := zA (Below.refl w.heap.size w)
 have H := h
 unfold zew at H
 clear h
 have HC3 := zA H
 clear H
 go_enter Tryz.func46, Tryz.ntmps46
 go_upto_region 1 with (fail)
 go_cut [18] (fun v18 wc => ∃ (kq : Nat) (x18_2 : Bool), v18 = .bool x18_2 ∧ Aside0 (zb9 kq l0 a1 x18_2 = some (r1, r2)) ∧ Aside0 (kq ≤ k) ∧ Aside0 (Below w.heap.size w wc))
 case first =>
   have H := HC3.out
   clear HC3
   replace H := zob H
   obtain ⟨t101, A40, H⟩ := H
   have A4 := zA A40
   clear A40
   by_cases c5 : t101 = true
   rotate_left
   · replace c5 := zbf c5
     subst c5
     replace H := zif H
     have H' := zA H
     clear H
     go_wp2_with (first | ((with_reducible refine zgc 53 ?_); refine zca 7 Tryz.func53 #[.slice A0 l0.length c0] (zcr k _ _ l0 false _ (zq15 HR0) HC0.out A4.out) ?_; rintro e w10 ⟨rfl, hb⟩; refine ⟨_, rfl, ?_⟩; replace HB := zA (zac zq1 hb); (try clear hb)))
     go_meet
     case rel => exact ⟨_, (true), zq8, H', ⟨zq38⟩, ⟨zq1⟩⟩
   subst c5
   replace H := zih H
   replace H := zob H
   obtain ⟨t102, A60, H⟩ := H
   have A6 := zA A60
   clear A60
   by_cases c7 : t102 = true
   · subst c7
     replace H := zih H
     have H' := zA H
     clear H
     go_wp2_with (first | ((with_reducible refine zgc 53 ?_); refine zca 7 Tryz.func53 #[.slice A0 l0.length c0] (zcr k _ _ l0 true _ (zq15 HR0) HC0.out A4.out) ?_; rintro e w8 ⟨rfl, hb⟩; refine ⟨_, rfl, ?_⟩; replace HB := zA (zac zq1 hb); (try clear hb)) | (go_at_call 69; (with_reducible refine (zht a1 true _ A6.out).mono ?_); rintro e w' ⟨rfl, ⟨nd, rfl⟩⟩))
     go_meet
     case rel => exact ⟨_, (decide ((l0.length : Int) > 7)), zq8, H', ⟨zq38⟩, ⟨zq1⟩⟩
   replace c7 := zbf c7
   subst c7
   replace H := zif H
   have H' := zA H
   clear H
   go_wp2_with (first | ((with_reducible refine zgc 53 ?_); refine zca 7 Tryz.func53 #[.slice A0 l0.length c0] (zcr k _ _ l0 true _ (zq15 HR0) HC0.out A4.out) ?_; rintro e w9 ⟨rfl, hb⟩; refine ⟨_, rfl, ?_⟩; replace HB := zA (zac zq1 hb); (try clear hb)) | (go_at_call 69; (with_reducible refine (zht a1 false _ A6.out).mono ?_); rintro e w' ⟨rfl, ⟨nd, rfl⟩⟩))
   go_meet
   case rel => exact ⟨_, (true), zq8, H', ⟨zq38⟩, ⟨zq1⟩⟩
 clear HC3
 obtain ⟨kq, x18_2, rfl, HA, HJ2, HB⟩ := hcut
 cases kq with
 | zero => exact absurd HA.out (by simp [zb9])
 | succ kj2 =>
 have H := HA.out
 clear HA
 simp only [zb9] at H
 by_cases c11 : x18_2 = true
 · subst c11
   replace H := zih H
   simp only [Option.some.injEq, Prod.mk.injEq] at H
   obtain ⟨rfl, rfl⟩ := H
   go_wp2
   go_ret2
   exact ⟨zq5, zq1⟩
 replace c11 := zbf c11
 subst c11
 replace H := zif H
 replace H := zob H
 obtain ⟨t103, A120, H⟩ := H
 have A12 := zA A120
 clear A120
 replace H := zob H
 obtain ⟨t106, A130, H⟩ := H
 have A13 := zA A130
 clear A130
 simp only [Option.some.injEq, Prod.mk.injEq] at H
 obtain ⟨rfl, rfl⟩ := H
 go_wp2_with (first | ((with_reducible refine zgc 95 ?_); refine zca 22 Tryz.func95 #[.slice A0 l0.length c0, .int .i64 a1] (znl kj2 _ _ l0 a1 t103 _ (zq15 HR0) HC0.out A12.out) ?_; rintro e w14 ⟨v104, rfl, ho0, hb⟩; refine ⟨_, rfl, ?_⟩; have HO105 := zA (Kd.R_lower ho0 (zah zq1)); replace HB := zA (zac zq1 hb); (try clear hb); (try clear ho0); obtain ⟨Ao15, co15, eo15⟩ := Kd.R_slice HO105.out; subst eo15) | ((with_reducible refine zgc 91 ?_); refine zca 23 Tryz.func91 #[.slice A0 l0.length c0, .slice Ao15 t103.length co15] (zpp kj2 _ _ l0 _ _ t103 t106 _ (zq15 HR0) HC0.out (zq18 HO105) (zq43 HO105) A13.out) ?_; rintro e w16 ⟨rfl, hb⟩; refine ⟨_, rfl, ?_⟩; replace HO105 := zA (zRb (zq2 HO105) hb); replace HB := zA (zac zq1 hb); (try clear hb)))
 go_ret2
 exact ⟨zq5, zq1⟩
theorem zeu {w w' : World} (h : Drawn0 w w') : Below w.heap.size w w' := by
 obtain ⟨nd, rfl⟩ := h
 exact zbn (Below.refl _ _) nd
def zc9 : Nat → List Int → List Int → Int → Option Bool
 | 0, _, _, _ => none
 | k + 1, E, L, i => if i < (L.length : Int) then (if 0 ≤ i then (if i < (E.length : Int) then (if (rd L i) < (rd E i) then none else zc9 k E L (wrap64 (i + 1))) else none) else none) else some true
def zd8 (k : Nat) (l1 : List Int) : Option Bool :=
 (zek k l1).bind fun d => (zgg k d.1 d.2).bind fun a => (zgj k d.1 d.2).bind fun b => (zff k d.1).bind fun c => (zfi k d.1).bind fun e => (ze6 k d.1).bind fun p =>
 (zgh k a.1 b.1).bind fun s => (zgh k c.1 e.1).bind fun t =>
 if a.2 = b.2 ∧ s = true ∧ c.2 = e.2 ∧ t = true ∧ p.2 = c.2 ∧ (c.2 = true → 0 ≤ d.2 → d.2 ≤ 100 → a.2 = decide (p.1 ≤ d.2)) then (if a.2 = true then zc9 k c.1 a.1 0 else some true) else none
def zfv (k : Nat) (l0 : List Int) (l1 : List Int) : Option Bool :=
 (zlq l0 l1).bind fun z => if z = true then some true else
 (zc4 k l0).bind fun d => (zds k d.1 d.2).bind fun a => (zej k d.1 d.2).bind fun b => (zeb k d.1 d.2).bind fun c => (zew k d.1 d.2).bind fun e => (zgh k a.1 b.1).bind fun s =>
 if a.2 = b.2 ∧ s = true ∧ c.2 = e.2 ∧ c.1 = e.1 ∧ c.2 = a.2 then
   (if a.2 = true then
     (zfg k d.1 d.2 a.1).bind fun i => (zfp k d.1 a.1).bind fun n => (zee k d.1 d.2).bind fun q => (zfp k d.1 q.1).bind fun m => (ze6 k d.1).bind fun p => (zfr k d.1 d.2).bind fun y =>
     if i = (true, true) ∧ n = (c.1, true) ∧ q.2 = true ∧ m.2 = true ∧ c.1 ≤ m.1 ∧ p.2 = true ∧ y.2 = true ∧ p.1 ≤ c.1 ∧ y.1 ≤ c.1 then
       (if d.2 < 3 then (zeb k d.1 (wrap64 (d.2 + 1))).bind fun u => if u.2 = true ∧ u.1 ≤ c.1 then zd8 k l1 else none else zd8 k l1)
     else none
   else zd8 k l1)
 else none
theorem zmf (k : Nat) (A0 : Option Addr) (c0 : Nat) (l0 : List Int) (A1 : Option Addr) (c1 : Nat) (l1 : List Int) (r : Bool) (w : World) (hr0 : Kd.C (Kd.int .u8) w A0 l0.length l0) (hc0 : l0.length ≤ c0) (hr1 : Kd.C (Kd.int .u8) w A1 l1.length l1) (hc1 : l1.length ≤ c1) (h : zfv k l0 l1 = some r) :
   Calls Tryz.prog 5 #[.slice A0 l0.length c0, .slice A1 l1.length c1] w fun e w' => e = .returned (.bool r) ∧ Below w.heap.size w w' := by
 have HR0 := zA hr0
 have HC0 := zA hc0
 have HR1 := zA hr1
 have HC1 := zA hc1
 have HB := zA (Below.refl w.heap.size w)
 clear hr0 hc0 hr1 hc1
 unfold zfv at h
 replace h := Option.bind_eq_some_iff.1 h
 obtain ⟨z, hz, h⟩ := h
 have Hz := zA hz
 clear hz
 cases z with
 | true =>
   rw [if_pos rfl] at h
   obtain rfl := zsi h
   clear h
   go_enter Tryz.func5, Tryz.ntmps5
   go_wp2_with fail
   (with_reducible refine (zpd _ _ l0 _ _ l1 true _ (zCb HR0.out HB.out) HC0.out (zCb HR1.out HB.out) HC1.out Hz.out).mono ?_)
   rintro e w1_ ⟨rfl, hb⟩
   replace hb := zeu hb
   replace HB := zA (zac HB.out hb)
   clear hb
   go_wp2_with fail
   go_ret
   exact ⟨rfl, HB.out⟩
 | false =>
   rw [if_neg (by decide)] at h
   replace h := Option.bind_eq_some_iff.1 h
   obtain ⟨⟨l, wd⟩, hd, h⟩ := h
   replace h := Option.bind_eq_some_iff.1 h
   obtain ⟨⟨a1, a2⟩, ha, h⟩ := h
   replace h := Option.bind_eq_some_iff.1 h
   obtain ⟨⟨b1, b2⟩, hb_, h⟩ := h
   replace h := Option.bind_eq_some_iff.1 h
   obtain ⟨⟨n1, n2⟩, hc, h⟩ := h
   replace h := Option.bind_eq_some_iff.1 h
   obtain ⟨⟨e1, e2⟩, he, h⟩ := h
   replace h := Option.bind_eq_some_iff.1 h
   obtain ⟨s, hs, h⟩ := h
   dsimp only at h
   by_cases hall : a2 = b2 ∧ s = true ∧ n2 = e2 ∧ n1 = e1 ∧ n2 = a2
   rotate_left
   · rw [if_neg hall] at h
     cases h
   rw [if_pos hall] at h
   obtain ⟨rfl, rfl, rfl, rfl, rfl⟩ := hall
   have Hd := zA hd
   have Ha := zA ha
   have Hb := zA hb_
   have Hc := zA hc
   have He := zA he
   have Hs := zA hs
   have HH := zA h
   clear hd ha hb_ hc he hs h
   go_enter Tryz.func5, Tryz.ntmps5
   go_wp2_with fail
   (with_reducible refine (zpd _ _ l0 _ _ l1 false _ (zCb HR0.out HB.out) HC0.out (zCb HR1.out HB.out) HC1.out Hz.out).mono ?_)
   rintro e w1_ ⟨rfl, hb⟩
   replace hb := zeu hb
   replace HB := zA (zac HB.out hb)
   clear hb
   go_wp2_with fail
   (with_reducible refine (zl8 k _ _ l0 l wd _ (zCb HR0.out HB.out) HC0.out Hd.out).mono ?_)
   rintro e w2_ ⟨v, rfl, ho, hb⟩
   obtain ⟨A1_, c1_, rfl⟩ := Kd.R_slice ho
   have R_l := zA (zRr ho).2.2
   have Q_l := zA (zRr ho).2.1
   clear ho
   replace HB := zA (zac HB.out hb)
   clear hb
   go_wp2_with fail
   (with_reducible refine (zh0 k _ _ l wd a1 n2 _ R_l.out Q_l.out Ha.out).mono ?_)
   rintro e w3_ ⟨v, rfl, ho, hb⟩
   obtain ⟨A2_, c2_, rfl⟩ := Kd.R_slice ho
   have R_a1 := zA (zRr ho).2.2
   have Q_a1 := zA (zRr ho).2.1
   clear ho
   have n0_ := zA (zac HB.out hb)
   have n_l := zA (zCb R_l.out hb)
   clear HB hb R_l
   have HB := n0_
   have R_l := n_l
   clear n0_ n_l
   go_wp2_with fail
   (with_reducible refine (znx k _ _ l wd b1 n2 _ R_l.out Q_l.out Hb.out).mono ?_)
   rintro e w4_ ⟨v, rfl, ho, hb⟩
   obtain ⟨A3_, c3_, rfl⟩ := Kd.R_slice ho
   have R_b1 := zA (zRr ho).2.2
   have Q_b1 := zA (zRr ho).2.1
   clear ho
   have n0_ := zA (zac HB.out hb)
   have n_l := zA (zCb R_l.out hb)
   have n_a1 := zA (zCb R_a1.out hb)
   clear HB hb R_l R_a1
   have HB := n0_
   have R_l := n_l
   have R_a1 := n_a1
   clear n0_ n_l n_a1
   go_wp2_with fail
   (with_reducible refine (zkj k _ _ l wd n1 n2 _ R_l.out Q_l.out Hc.out).mono ?_)
   rintro e w5_ ⟨rfl, hb⟩
   have n0_ := zA (zac HB.out hb)
   have n_l := zA (zCb R_l.out hb)
   have n_a1 := zA (zCb R_a1.out hb)
   have n_b1 := zA (zCb R_b1.out hb)
   clear HB hb R_l R_a1 R_b1
   have HB := n0_
   have R_l := n_l
   have R_a1 := n_a1
   have R_b1 := n_b1
   clear n0_ n_l n_a1 n_b1
   go_wp2_with fail
   (with_reducible refine (zog k _ _ l wd n1 n2 _ R_l.out Q_l.out He.out).mono ?_)
   rintro e w6_ ⟨rfl, hb⟩
   have n0_ := zA (zac HB.out hb)
   have n_l := zA (zCb R_l.out hb)
   have n_a1 := zA (zCb R_a1.out hb)
   have n_b1 := zA (zCb R_b1.out hb)
   clear HB hb R_l R_a1 R_b1
   have HB := n0_
   have R_l := n_l
   have R_a1 := n_a1
   have R_b1 := n_b1
   clear n0_ n_l n_a1 n_b1
   go_wp2_with fail
   (with_reducible refine (zk5 k _ _ a1 _ _ b1 true _ R_a1.out Q_a1.out R_b1.out Q_b1.out Hs.out).mono ?_)
   rintro e w7_ ⟨rfl, hb⟩
   replace hb := zeu hb
   clear R_b1 Q_b1
   have n0_ := zA (zac HB.out hb)
   have n_l := zA (zCb R_l.out hb)
   have n_a1 := zA (zCb R_a1.out hb)
   clear HB hb R_l R_a1
   have HB := n0_
   have R_l := n_l
   have R_a1 := n_a1
   clear n0_ n_l n_a1
   go_upto_if 99 with (fail)
   go_cut [] (fun wc => Aside0 (zd8 k l1 = some r) ∧ Aside0 (Below w.heap.size w wc))
   case first =>
     have h := HH.out
     clear HH
     cases n2 with
     | true =>
       rw [if_pos rfl] at h
       replace h := Option.bind_eq_some_iff.1 h
       obtain ⟨i, hi, h⟩ := h
       replace h := Option.bind_eq_some_iff.1 h
       obtain ⟨n, hn, h⟩ := h
       replace h := Option.bind_eq_some_iff.1 h
       obtain ⟨⟨q1, q2⟩, hq, h⟩ := h
       replace h := Option.bind_eq_some_iff.1 h
       obtain ⟨⟨m1, m2⟩, hm, h⟩ := h
       replace h := Option.bind_eq_some_iff.1 h
       obtain ⟨⟨p1, p2⟩, hp, h⟩ := h
       replace h := Option.bind_eq_some_iff.1 h
       obtain ⟨⟨y1, y2⟩, hy, h⟩ := h
       dsimp only at h
       by_cases hall : i = (true, true) ∧ n = (n1, true) ∧ q2 = true ∧ m2 = true ∧ n1 ≤ m1 ∧ p2 = true ∧ y2 = true ∧ p1 ≤ n1 ∧ y1 ≤ n1
       rotate_left
       · rw [if_neg hall] at h
         cases h
       rw [if_pos hall] at h
       obtain ⟨rfl, rfl, rfl, rfl, t1, rfl, rfl, t2, t3⟩ := hall
       have t1 : decide (m1 < n1) = false := zdf (by omega)
       have t2 : decide (n1 < p1) = false := zdf (by omega)
       have t3 : decide (n1 < y1) = false := zdf (by omega)
       have Hi := zA hi
       have Hn := zA hn
       have Hq := zA hq
       have Hm := zA hm
       have Hp := zA hp
       have Hy := zA hy
       have HH := zA h
       clear hi hn hq hm hp hy h
       go_wp2_with fail
       (with_reducible refine (zol k _ _ l wd _ _ a1 true true _ R_l.out Q_l.out R_a1.out Q_a1.out Hi.out).mono ?_)
       rintro e w8_ ⟨rfl, hb⟩
       have n0_ := zA (zac HB.out hb)
       have n_l := zA (zCb R_l.out hb)
       have n_a1 := zA (zCb R_a1.out hb)
       clear HB hb R_l R_a1
       have HB := n0_
       have R_l := n_l
       have R_a1 := n_a1
       clear n0_ n_l n_a1
       go_wp2_with fail
       (with_reducible refine (zl0 k _ _ l _ _ a1 n1 true _ R_l.out Q_l.out R_a1.out Q_a1.out Hn.out).mono ?_)
       rintro e w9_ ⟨rfl, hb⟩
       clear R_a1 Q_a1
       have n0_ := zA (zac HB.out hb)
       have n_l := zA (zCb R_l.out hb)
       clear HB hb R_l
       have HB := n0_
       have R_l := n_l
       clear n0_ n_l
       go_wp2_with fail
       (with_reducible refine (znv k _ _ l wd q1 true _ R_l.out Q_l.out Hq.out).mono ?_)
       rintro e w10_ ⟨v, rfl, ho, hb⟩
       obtain ⟨A4_, c4_, rfl⟩ := Kd.R_slice ho
       have R_q1 := zA (zRr ho).2.2
       have Q_q1 := zA (zRr ho).2.1
       clear ho
       have n0_ := zA (zac HB.out hb)
       have n_l := zA (zCb R_l.out hb)
       clear HB hb R_l
       have HB := n0_
       have R_l := n_l
       clear n0_ n_l
       go_wp2_with fail
       (with_reducible refine (zl0 k _ _ l _ _ q1 m1 true _ R_l.out Q_l.out R_q1.out Q_q1.out Hm.out).mono ?_)
       rintro e w11_ ⟨rfl, hb⟩
       clear R_q1 Q_q1
       have n0_ := zA (zac HB.out hb)
       have n_l := zA (zCb R_l.out hb)
       clear HB hb R_l
       have HB := n0_
       have R_l := n_l
       clear n0_ n_l
       go_wp2_with fail
       (with_reducible refine (zlg k _ _ l p1 true _ R_l.out Q_l.out Hp.out).mono ?_)
       rintro e w12_ ⟨rfl, hb⟩
       have n0_ := zA (zac HB.out hb)
       have n_l := zA (zCb R_l.out hb)
       clear HB hb R_l
       have HB := n0_
       have R_l := n_l
       clear n0_ n_l
       go_wp2_with fail
       (with_reducible refine (zo8 k _ _ l wd y1 true _ R_l.out Q_l.out Hy.out).mono ?_)
       rintro e w13_ ⟨rfl, hb⟩
       have n0_ := zA (zac HB.out hb)
       have n_l := zA (zCb R_l.out hb)
       clear HB hb R_l
       have HB := n0_
       have R_l := n_l
       clear n0_ n_l
       by_cases h3 : wd < 3
       rotate_left
       · have h := HH.out
         clear HH
         rw [if_neg h3] at h
         have HH := zA h
         have h3 : decide (wd < 3) = false := zdf h3
         clear h
         go_wp2_with fail
         go_meet
         case rel => exact ⟨HH, HB⟩
       have h := HH.out
       clear HH
       rw [if_pos h3] at h
       replace h := Option.bind_eq_some_iff.1 h
       obtain ⟨⟨u1, u2⟩, hu, h⟩ := h
       dsimp only at h
       by_cases hv : u2 = true ∧ u1 ≤ n1
       rotate_left
       · rw [if_neg hv] at h
         cases h
       rw [if_pos hv] at h
       obtain ⟨rfl, t4⟩ := hv
       have t4 : decide (n1 < u1) = false := zdf (by omega)
       have Hu := zA hu
       have HH := zA h
       have h3 : decide (wd < 3) = true := zdt h3
       clear hu h
       go_wp2_with fail
       (with_reducible refine (zkj k _ _ l (wrap64 (wd + 1)) u1 true _ R_l.out Q_l.out Hu.out).mono ?_)
       rintro e w14_ ⟨rfl, hb⟩
       have n0_ := zA (zac HB.out hb)
       have n_l := zA (zCb R_l.out hb)
       clear HB hb R_l
       have HB := n0_
       have R_l := n_l
       clear n0_ n_l
       go_wp2_with fail
       go_meet
       case rel => exact ⟨HH, HB⟩
     | false =>
       rw [if_neg (by decide)] at h
       have HH := zA h
       clear h
       go_wp2_with fail
       go_meet
       case rel => exact ⟨HH, HB⟩
   clear HH HB Hz Hd Ha Hb Hc He Hs R_l Q_l R_a1 Q_a1
   obtain ⟨HH, HB⟩ := hcut
   have h := HH.out
   clear HH
   unfold zd8 at h
   replace h := Option.bind_eq_some_iff.1 h
   obtain ⟨⟨x, n⟩, hd, h⟩ := h
   replace h := Option.bind_eq_some_iff.1 h
   obtain ⟨⟨L, o⟩, ha, h⟩ := h
   replace h := Option.bind_eq_some_iff.1 h
   obtain ⟨⟨M, o2⟩, hb_, h⟩ := h
   replace h := Option.bind_eq_some_iff.1 h
   obtain ⟨⟨E, v⟩, hc, h⟩ := h
   replace h := Option.bind_eq_some_iff.1 h
   obtain ⟨⟨F, v2⟩, he, h⟩ := h
   replace h := Option.bind_eq_some_iff.1 h
   obtain ⟨⟨p1, p2⟩, hp, h⟩ := h
   replace h := Option.bind_eq_some_iff.1 h
   obtain ⟨s, hs, h⟩ := h
   replace h := Option.bind_eq_some_iff.1 h
   obtain ⟨t, ht, h⟩ := h
   dsimp only at h
   by_cases hall : o = o2 ∧ s = true ∧ v = v2 ∧ t = true ∧ p2 = v ∧ (v = true → 0 ≤ n → n ≤ 100 → o = decide (p1 ≤ n))
   rotate_left
   · rw [if_neg hall] at h
     cases h
   rw [if_pos hall] at h
   obtain ⟨rfl, rfl, rfl, rfl, rfl, hx⟩ := hall
   have Hd := zA hd
   have Ha := zA ha
   have Hb := zA hb_
   have Hc := zA hc
   have He := zA he
   have Hp := zA hp
   have Hs := zA hs
   have Ht := zA ht
   have Hx := zA hx
   have HH := zA h
   clear hd ha hb_ hc he hp hs ht hx h
   go_wp2_with fail
   (with_reducible refine (znz k _ _ l1 x n _ (zCb HR1.out HB.out) HC1.out Hd.out).mono ?_)
   rintro e w15_ ⟨v, rfl, ho, hb⟩
   obtain ⟨A5_, c5_, rfl⟩ := Kd.R_slice ho
   have R_x := zA (zRr ho).2.2
   have Q_x := zA (zRr ho).2.1
   clear ho
   replace HB := zA (zac HB.out hb)
   clear hb
   go_wp2_with fail
   (with_reducible refine (zpj k _ _ x n L o _ R_x.out Q_x.out Ha.out).mono ?_)
   rintro e w16_ ⟨v, rfl, ho, hb⟩
   obtain ⟨A6_, c6_, rfl⟩ := Kd.R_slice ho
   have R_L := zA (zRr ho).2.2
   have Q_L := zA (zRr ho).2.1
   clear ho
   have n0_ := zA (zac HB.out hb)
   have n_x := zA (zCb R_x.out hb)
   clear HB hb R_x
   have HB := n0_
   have R_x := n_x
   clear n0_ n_x
   go_wp2_with fail
   (with_reducible refine (zpo k _ _ x n M o _ R_x.out Q_x.out Hb.out).mono ?_)
   rintro e w17_ ⟨v, rfl, ho, hb⟩
   obtain ⟨A7_, c7_, rfl⟩ := Kd.R_slice ho
   have R_M := zA (zRr ho).2.2
   have Q_M := zA (zRr ho).2.1
   clear ho
   have n0_ := zA (zac HB.out hb)
   have n_x := zA (zCb R_x.out hb)
   have n_L := zA (zCb R_L.out hb)
   clear HB hb R_x R_L
   have HB := n0_
   have R_x := n_x
   have R_L := n_L
   clear n0_ n_x n_L
   go_wp2_with fail
   (with_reducible refine (zok k _ _ x E p2 _ R_x.out Q_x.out Hc.out).mono ?_)
   rintro e w18_ ⟨v, rfl, ho, hb⟩
   obtain ⟨A8_, c8_, rfl⟩ := Kd.R_slice ho
   have R_E := zA (zRr ho).2.2
   have Q_E := zA (zRr ho).2.1
   clear ho
   have n0_ := zA (zac HB.out hb)
   have n_x := zA (zCb R_x.out hb)
   have n_L := zA (zCb R_L.out hb)
   have n_M := zA (zCb R_M.out hb)
   clear HB hb R_x R_L R_M
   have HB := n0_
   have R_x := n_x
   have R_L := n_L
   have R_M := n_M
   clear n0_ n_x n_L n_M
   go_wp2_with fail
   (with_reducible refine (zop k _ _ x F p2 _ R_x.out Q_x.out He.out).mono ?_)
   rintro e w19_ ⟨v, rfl, ho, hb⟩
   obtain ⟨A9_, c9_, rfl⟩ := Kd.R_slice ho
   have R_F := zA (zRr ho).2.2
   have Q_F := zA (zRr ho).2.1
   clear ho
   have n0_ := zA (zac HB.out hb)
   have n_x := zA (zCb R_x.out hb)
   have n_L := zA (zCb R_L.out hb)
   have n_M := zA (zCb R_M.out hb)
   have n_E := zA (zCb R_E.out hb)
   clear HB hb R_x R_L R_M R_E
   have HB := n0_
   have R_x := n_x
   have R_L := n_L
   have R_M := n_M
   have R_E := n_E
   clear n0_ n_x n_L n_M n_E
   go_wp2_with fail
   (with_reducible refine (zlg k _ _ x p1 p2 _ R_x.out Q_x.out Hp.out).mono ?_)
   rintro e w20_ ⟨rfl, hb⟩
   clear R_x Q_x
   have n0_ := zA (zac HB.out hb)
   have n_L := zA (zCb R_L.out hb)
   have n_M := zA (zCb R_M.out hb)
   have n_E := zA (zCb R_E.out hb)
   have n_F := zA (zCb R_F.out hb)
   clear HB hb R_L R_M R_E R_F
   have HB := n0_
   have R_L := n_L
   have R_M := n_M
   have R_E := n_E
   have R_F := n_F
   clear n0_ n_L n_M n_E n_F
   go_wp2_with fail
   (with_reducible refine (zk5 k _ _ L _ _ M true _ R_L.out Q_L.out R_M.out Q_M.out Hs.out).mono ?_)
   rintro e w21_ ⟨rfl, hb⟩
   replace hb := zeu hb
   clear R_M Q_M
   have n0_ := zA (zac HB.out hb)
   have n_L := zA (zCb R_L.out hb)
   have n_E := zA (zCb R_E.out hb)
   have n_F := zA (zCb R_F.out hb)
   clear HB hb R_L R_E R_F
   have HB := n0_
   have R_L := n_L
   have R_E := n_E
   have R_F := n_F
   clear n0_ n_L n_E n_F
   go_wp2_with fail
   (with_reducible refine (zk5 k _ _ E _ _ F true _ R_E.out Q_E.out R_F.out Q_F.out Ht.out).mono ?_)
   rintro e w22_ ⟨rfl, hb⟩
   replace hb := zeu hb
   clear R_F Q_F
   have n0_ := zA (zac HB.out hb)
   have n_L := zA (zCb R_L.out hb)
   have n_E := zA (zCb R_E.out hb)
   clear HB hb R_L R_E
   have HB := n0_
   have R_L := n_L
   have R_E := n_E
   clear n0_ n_L n_E
   go_upto_region 31 with (fail)
   go_cut [270] (fun v270 wc => v270 = .bool false ∧ Aside0 (Kd.C (Kd.int .i64) wc A6_ L.length L) ∧ Aside0 (Kd.C (Kd.int .i64) wc A8_ E.length E) ∧ Aside0 (Below w.heap.size w wc))
   case first =>
     cases p2 with
     | false =>
       as_aux_lemma =>
         go_wp2_with fail
         go_meet
         case rel => exact ⟨rfl, R_L, R_E, HB⟩
     | true =>
       by_cases g0 : 0 ≤ n
       rotate_left
       · have d0 : decide (0 ≤ n) = false := zdf g0
         clear g0
         as_aux_lemma =>
           go_wp2_with fail
           go_meet
           case rel => exact ⟨rfl, R_L, R_E, HB⟩
       have d0 : decide (0 ≤ n) = true := zdt g0
       by_cases g1 : n ≤ 100
       rotate_left
       · have d1 : decide (n ≤ 100) = false := zdf g1
         clear g0 g1
         as_aux_lemma =>
           go_wp2_with fail
           go_meet
           case rel => exact ⟨rfl, R_L, R_E, HB⟩
       have d1 : decide (n ≤ 100) = true := zdt g1
       have hy : (o == decide (p1 ≤ n)) = true := by rw [Hx.out rfl g0 g1]; simp
       clear g0 g1
       as_aux_lemma =>
         go_wp2_with fail
         go_meet
         case rel => exact ⟨rfl, R_L, R_E, HB⟩
   clear HB R_L R_E Hd Ha Hb Hc He Hp Hs Ht Hx
   obtain ⟨rfl, R_L, R_E, HB⟩ := hcut
   have h := HH.out
   clear HH
   cases o with
   | false =>
     rw [if_neg (by decide)] at h
     obtain rfl := zsi h
     clear h
     go_wp2_with fail
     go_ret
     exact ⟨rfl, HB.out⟩
   | true =>
     rw [if_pos rfl] at h
     have HA := zA h
     clear h
     go_wp2_with fail
     go_loopg [274] k (fun kq v274 w' => ∃ i : Int, v274 = .int .i64 i ∧ Aside0 (zc9 kq E L i = some r) ∧ Aside0 (Kd.C (Kd.int .i64) w' A6_ L.length L) ∧ Aside0 (Kd.C (Kd.int .i64) w' A8_ E.length E) ∧ Aside0 (Below w.heap.size w w'))
     case atStart => exact ⟨0, rfl, HA, R_L, R_E, HB⟩
     clear HA
     obtain ⟨i, rfl, HA, R_L, R_E, HB⟩ := hrel
     cases gk with
     | zero => exact absurd HA.out (by simp [zc9])
     | succ q =>
     have h := HA.out
     clear HA
     simp only [zc9] at h
     by_cases c1 : i < (L.length : Int)
     rotate_left
     · rw [if_neg c1] at h
       obtain rfl := zsi h
       have d1 : decide (i < (L.length : Int)) = false := zdf c1
       clear h c1
       go_wp2_with fail
       go_ret
       exact ⟨rfl, HB.out⟩
     rw [if_pos c1] at h
     by_cases c2 : 0 ≤ i
     rotate_left
     · rw [if_neg c2] at h
       cases h
     rw [if_pos c2] at h
     by_cases c3 : i < (E.length : Int)
     rotate_left
     · rw [if_neg c3] at h
       cases h
     rw [if_pos c3] at h
     by_cases c4 : rd L i < rd E i
     · rw [if_pos c4] at h
       cases h
     rw [if_neg c4] at h
     have HA := zA h
     have d1 : decide (i < (L.length : Int)) = true := zdt c1
     have d2 : decide (0 ≤ i) = true := zdt c2
     have d3 : decide (i < (E.length : Int)) = true := zdt c3
     have d4 : decide (rd L i < rd E i) = false := zdf c4
     obtain ⟨ad1, e1, hx1⟩ := Kd.at_int R_L.out i c2 c1
     obtain ⟨ad2, e2, hx2⟩ := Kd.at_int R_E.out i c2 c3
     cases e1
     cases e2
     clear h c4
     replace c1 := eq_true c1
     replace c2 := eq_true c2
     replace c3 := eq_true c3
     go_wp2
     go_roundg q
     case measure => omega
     case rel => exact ⟨wrap64 (i + 1), rfl, HA, R_L, R_E, HB⟩
end Go.Proofs.YtabnafbgcpchdaaGreat.Q
end
section
namespace Go.Proofs.YtabnafbgcpchdaaGreat.Rd
open Go Go.RowKit Go.Proofs.YtabnafbgcpchdaaGreatW.PrintWords Go.Proofs.YtabnafbgcpchdaaGreatW.PrintLast Go.ChangeShapes Go.WideShapes Go.Deep
set_option linter.unusedSimpArgs false
set_option linter.unusedVariables false
structure RdK {α : Type} (d : Kd α) (P : Program) (t : TypeId) (Good : α → Prop) : Prop where
  size : P.cellsOf t = d.sz
  get : ∀ {H : Type} {enc : TypeId × Value → H} {w : World} {n : Nat} {cs : List Value} {x : DataW H × List MemPlace}, DataW.trod enc P w 0 (fun _ => true) true n t cs = some x → ∃ a, d.K w a cs ∧ Good a
def okInt (k : IntKind) (n : Int) : Prop := (Lit.int k n).wf = true
def okSl {α : Type} (G : α → Prop) (xs : List α) : Prop := xs.length ≤ maxLen ∧ ∀ x ∈ xs, G x
theorem rk_int {P : Program} {t : TypeId} {k : IntKind} (ht : P.underlying t = some (.int k)) (hs : P.cellsOf t = 1) : RdK (Kd.int k) P t (okInt k) :=
  ⟨hs, fun h => by obtain ⟨n, rfl, _, hw⟩ := DataW.trod_int ht h; exact ⟨n, rfl, hw⟩⟩
theorem rk_slice {α : Type} {d : Kd α} {P : Program} {t e : TypeId} {G : α → Prop} (hd : RdK d P e G) (ht : P.underlying t = some (.slice e)) (hs : P.cellsOf t = 1) : RdK (Kd.slice e d) P t (okSl G) := by
  refine ⟨hs, fun {H enc w n cs x} h => ?_⟩
  rcases open_slice ht h with ⟨rfl, _⟩ | ⟨a, len, cap, m, n', D, Pl, rfl, _, hl, hm, hmm, _, hx⟩
  · exact ⟨[], ⟨none, 0, rfl, Nat.le_refl _, rfl, Nat.zero_le _, fun h => absurd h (Nat.lt_irrefl 0)⟩, Nat.zero_le _, fun _ h => by cases h⟩
  · have hc : m = cap := by simpa using hmm
    subst hc
    have key : ∀ i : Fin len, ∃ a' : α, ∃ cs', d.K w a' cs' ∧ G a' ∧ w.cells? 0 (a.add (i * P.cellsOf e)) (P.cellsOf e) = some cs' := fun i => by
      obtain ⟨cs', h1, h2⟩ := hx i (by omega)
      obtain ⟨a', h3, h4⟩ := hd.get h2
      exact ⟨a', cs', h3, h4, h1⟩
    have hlen : (List.ofFn fun i => Classical.choose (key i)).length = len := List.length_ofFn
    refine ⟨List.ofFn fun i => Classical.choose (key i), ⟨some a, m, by rw [hlen], by omega, hlen.trans hlen.symm, ?_, fun _ => ⟨a, rfl, fun j p hj => ?_⟩⟩, by rw [hlen]; omega, fun y hy => ?_⟩
    · rw [hlen]; unfold maxLen at hm; omega
    · have hjl : j < len := by
        have := (List.getElem?_eq_some_iff.1 hj).1
        rwa [hlen] at this
      rw [List.getElem?_ofFn, dif_pos hjl, Option.some.injEq] at hj
      obtain ⟨cs', h1, h2, h3⟩ := Classical.choose_spec (key ⟨j, hjl⟩)
      rw [hj] at h1 h2
      obtain ⟨_, h5, h6⟩ := World.cells?_some h3
      refine ⟨cs', d.K_len h1, h1, fun i u hi => ?_⟩
      have hil : i < P.cellsOf e := by
        have := (List.getElem?_eq_some_iff.1 hi).1
        omega
      have := h6 i hil
      rw [Go.Deep.add_add] at this
      rw [← hd.size]
      exact this.trans hi
    · obtain ⟨i, rfl⟩ := List.mem_ofFn.1 hy
      obtain ⟨cs', h1, h2, h3⟩ := Classical.choose_spec (key i)
      exact h2
structure RdF {α : Type} (d : Kd α) (P : Program) (fs : List Field) (off : Nat) (Good : α → Prop) : Prop where
  get : ∀ {H : Type} {enc : TypeId × Value → H} {w : World} {n : Nat} {cs : List Value}, cs.length = off + d.sz →
    (∀ f ∈ fs, ∃ y, DataW.trod enc P w 0 (fun _ => true) true n f.type ((cs.drop f.offset).take (P.cellsOf f.type)) = some y) → ∃ a, d.K w a (cs.drop off) ∧ Good a
theorem arg_slice {α : Type} {d : Kd α} {P : Program} {t e : TypeId} {G : α → Prop} (hd : RdK (Kd.slice e d) P t (okSl G)) {H : Type} {enc : TypeId × Value → H} {w : World} {a : Option Addr} {len cap : Nat} {x : DataW H} {ps : List MemPlace}
    (h : DataW.Trod enc P w 0 (fun _ => true) true t (.slice a len cap) x ps) : ∃ xs : List α, len = xs.length ∧ xs.length ≤ cap ∧ Kd.C d w a xs.length xs ∧ okSl G xs := by
  obtain ⟨n, hn⟩ := h
  obtain ⟨xs, ⟨A, c, he, hl, hc⟩, hg⟩ := hd.get hn
  simp [Value.cells] at he
  obtain ⟨rfl, rfl, rfl⟩ := he
  exact ⟨xs, rfl, hl, hc, hg⟩
end Go.Proofs.YtabnafbgcpchdaaGreat.Rd
end
section
namespace Go.Proofs.YtabnafbgcpchdaaGreat.Q
open Go.RowKit Go.Proofs.YtabnafbgcpchdaaGreatW.PrintWords Go.Proofs.YtabnafbgcpchdaaGreatW.PrintLast Go.Proofs.YtabnafbgcpchdaaGreatW.PrintMore
attribute [local go_sem] zjj zjk zla zlb zh8 zh9 zjl zjm
set_option linter.unusedVariables false
set_option linter.unusedSimpArgs false
def laws_FnBestSchedules.Pure : Prop := ∀ (a0 : List Int) (a1 : List Int), (Rd.okSl (Rd.okInt .u8)) a0 → (Rd.okSl (Rd.okInt .u8)) a1 → ∃ k, zfv k a0 a1 = some true
end Go.Proofs.YtabnafbgcpchdaaGreat.Q
end
section
namespace Go.Proofs.YtabnafbgcpchdaaGreat.PL
open Go Go.RowKit Go.Proofs.YtabnafbgcpchdaaGreatW.PrintWords Go.Proofs.YtabnafbgcpchdaaGreatW.PrintLast Go.Proofs.YtabnafbgcpchdaaGreatW.PrintMore Go.Proofs.YtabnafbgcpchdaaGreat.Q
set_option linter.unusedSimpArgs false
set_option linter.unusedVariables false
theorem w64 {x : Int} (h1 : -9223372036854775808 ≤ x) (h2 : x < 9223372036854775808) : wrap64 x = x := by unfold wrap64; omega
theorem w64n (i : Nat) (h : i < 4611686018427387904) : wrap64 ((i : Int) + 1) = ((i + 1 : Nat) : Int) := by unfold wrap64; omega
theorem Ev.some {α : Type} {a r : α} (h : a = r) : Ev (fun _ => some a) r := h ▸ Ev.now a
theorem zw8 {α : Type} {g : Option α} {r : α} (h : g = Option.some r) : Ev (fun _ => g) r := by rw [h]; exact Ev.now r
theorem zr5 {α : Type} {g : Nat → Option α} {r s : α} (h : Ev g r) (e : r = s) : Ev g s := e ▸ h
theorem zae {α : Type} {c : Prop} [Decidable c] {g g' : Nat → Option α} {r : α} (h : c) (H : Ev g r) : Ev (fun k => if c then g k else g' k) r := zxv (fun _ => if_pos h) H
theorem zas {α : Type} {c : Prop} [Decidable c] {g g' : Nat → Option α} {r : α} (h : ¬ c) (H : Ev g' r) : Ev (fun k => if c then g k else g' k) r := zxv (fun _ => if_neg h) H
theorem Ev.call {α β : Type} {g : Option α} {f : Nat → α → Option β} {a : α} {r : β} (h : g = Option.some a) (k : Ev (fun n => f n a) r) : Ev (fun n => g.bind (f n)) r := by
  rw [h]; exact k
theorem zys {σ ρ : Type} (n : Nat) (L : Nat → σ → Int → Option ρ) (M : Nat → σ → ρ) (hend : ∀ s, Ev (fun k => L k s n) (M n s))
    (hstep : ∀ (i : Nat) s, i < n → (∀ s', Ev (fun k => L k s' ((i + 1 : Nat) : Int)) (M (i + 1) s')) → Ev (fun k => L k s i) (M i s)) :
    ∀ (d i : Nat) s, i + d = n → Ev (fun k => L k s i) (M i s)
  | 0, i, s, h => by
    have e : i = n := by omega
    rw [e]
    exact hend s
  | d + 1, i, s, h => hstep i s (by omega) (fun s' => zys n L M hend hstep d (i + 1) s' (by omega))
theorem zr6 {α σ ρ : Type} (xs : List α) (L : Nat → σ → Int → Option ρ) (m : List α → σ → ρ) (hend : ∀ s, Ev (fun k => L k s (xs.length : Nat)) (m [] s))
    (hstep : ∀ (i : Nat) s x rest, i < xs.length → (∀ d, xs.getD i d = x) → (∀ s', Ev (fun k => L k s' ((i + 1 : Nat) : Int)) (m rest s')) → Ev (fun k => L k s i) (m (x :: rest) s)) (s : σ) :
    Ev (fun k => L k s 0) (m xs s) := by
  have := zys xs.length L (fun i s => m (xs.drop i) s) (fun s => by simpa using hend s) (fun i s hi ih => by
    have e : xs.drop i = xs[i] :: xs.drop (i + 1) := List.drop_eq_getElem_cons hi
    show Ev (fun k => L k s i) (m (xs.drop i) s)
    rw [e]
    exact hstep i s xs[i] _ hi (fun d => by simp [List.getD, List.getElem?_eq_getElem hi]) ih) xs.length 0 s (by omega)
  simpa using this
def idx {α : Type} (p : α → Bool) : List α → Int
  | [] => -1
  | x :: xs => if p x = true then 0 else if idx p xs < 0 then -1 else idx p xs + 1
theorem znp {α : Type} (p : α → Bool) (xs : List α) : 0 ≤ idx p xs ↔ ∃ x ∈ xs, p x = true := by
  induction xs with
  | nil => simp [idx]
  | cons x xs ih =>
    unfold idx
    by_cases h : p x = true
    · simp [h]
    · by_cases h2 : idx p xs < 0
      · rw [if_neg h, if_pos h2]
        have : ¬ ∃ x ∈ xs, p x = true := fun e => by have := ih.2 e; omega
        simp [h]
        simpa using this
      · rw [if_neg h, if_neg h2]
        have := ih.1 (by omega)
        simp [h]
        exact ⟨fun _ => this, fun _ => by omega⟩
theorem ydn {α : Type} (p : α → Bool) (xs : List α) : -1 ≤ idx p xs := by
  induction xs with
  | nil => unfold idx; simp
  | cons x xs ih => unfold idx; split; · decide
                    · split <;> omega
theorem zoq {α : Type} (xs : List α) (p : α → Bool) (L : Nat → Int → Option Int) (hend : Ev (fun k => L k (xs.length : Nat)) (-1))
    (hyes : ∀ (i : Nat) x, i < xs.length → (∀ d, xs.getD i d = x) → p x = true → Ev (fun k => L k i) (i : Int))
    (hno : ∀ (i : Nat) x r, i < xs.length → (∀ d, xs.getD i d = x) → p x = false → Ev (fun k => L k ((i + 1 : Nat) : Int)) r → Ev (fun k => L k i) r) : Ev (fun k => L k 0) (idx p xs) := by
  have key : ∀ (d i : Nat), i + d = xs.length → Ev (fun k => L k i) (if idx p (xs.drop i) < 0 then -1 else idx p (xs.drop i) + i) := by
    intro d
    induction d with
    | zero =>
      intro i hi
      rw [List.drop_of_length_le (by omega), if_pos (show idx p [] < 0 by unfold idx; decide)]
      have e : i = xs.length := by omega
      rw [e]; exact hend
    | succ d ih =>
      intro i hi
      have hlt : i < xs.length := by omega
      have e : xs.drop i = xs[i] :: xs.drop (i + 1) := List.drop_eq_getElem_cons hlt
      have hg : ∀ d, xs.getD i d = xs[i] := fun d => by simp [List.getD, List.getElem?_eq_getElem hlt]
      rw [e]
      unfold idx
      by_cases h : p xs[i] = true
      · rw [if_pos h, if_neg (by decide)]
        simpa using hyes i _ hlt hg h
      · refine hno i _ _ hlt hg (by simpa using h) (zr5 (ih (i + 1) (by omega)) ?_)
        rw [if_neg h]
        by_cases h2 : idx p (xs.drop (i + 1)) < 0
        · rw [if_pos h2, if_pos h2, if_pos (by decide)]
        · rw [if_neg h2, if_neg h2, if_neg (by omega)]
          omega
  have := key xs.length 0 (by omega)
  simp only [List.drop_zero, Int.natCast_zero, Int.add_zero] at this
  refine zr5 this ?_
  have := ydn p xs
  split <;> omega
theorem ydo {α : Type} (xs : List α) (p : α → Bool) (L : Nat → Int → Option Bool) (hend : Ev (fun k => L k (xs.length : Nat)) true)
    (hno : ∀ (i : Nat) x, i < xs.length → (∀ d, xs.getD i d = x) → p x = false → Ev (fun k => L k i) false)
    (hyes : ∀ (i : Nat) x r, i < xs.length → (∀ d, xs.getD i d = x) → p x = true → Ev (fun k => L k ((i + 1 : Nat) : Int)) r → Ev (fun k => L k i) r) : Ev (fun k => L k 0) (xs.all p) := by
  refine zr6 (σ := Unit) xs (fun k _ i => L k i) (fun l _ => l.all p) (fun _ => hend) (fun i _ x rest hi hx ih => ?_) ()
  by_cases h : p x = true
  · exact hyes i x _ hi hx h (zr5 (ih ()) (by simp [h]))
  · have h' : p x = false := by simpa using h
    exact zr5 (hno i x hi hx h') (by simp [h'])
theorem zn0 {xs : List Int} {i : Nat} {x : Int} (h : ∀ d, xs.getD i d = x) : rd xs i = x := by unfold rd; rw [Int.toNat_natCast]; exact h 0
theorem ycg {α : Type} {d0 : α} {xs : List α} {i : Nat} {x : α} (h : ∀ d, xs.getD i d = x) : rdOf d0 xs i = x := by unfold rdOf; rw [Int.toNat_natCast]; exact h d0
theorem zpe {xs : List S55} {i : Nat} {x : S55} (h : ∀ d, xs.getD i d = x) : zaa xs i = x := by unfold zaa; rw [Int.toNat_natCast]; exact h _
theorem zgl {α : Type} (xs : List α) (i : Nat) (h : i < xs.length) : ∀ d, xs.getD i d = xs[i] := fun d => by simp [List.getD, List.getElem?_eq_getElem h]
abbrev Instr := S55
abbrev zI : Instr := z55
theorem zr7 (l : List Instr) (i : Nat) : zaa l (i : Int) = l.getD i zI := by unfold zaa; rw [Int.toNat_natCast]
theorem yap (l : List Instr) (i j : Nat) (h : j < i) : zaa (l.take i) (j : Int) = l.getD j zI := by
  rw [zr7]
  simp only [List.getD, List.getElem?_take, if_pos h]
theorem zor (A B : List Int) (x : Int) (i : Nat) (h : A.length = i) : rd (A ++ x :: B) (i : Int) = x := by
  subst h
  refine zn0 (fun d => ?_)
  simp [List.getD]
theorem zij {α : Type} (A B : List α) (x y : α) (i : Nat) (h : A.length = i) : (A ++ x :: B).set ((i : Int)).toNat y = A ++ y :: B := by
  subst h
  rw [Int.toNat_natCast, List.set_append_right _ _ (Nat.le_refl _), Nat.sub_self]
  rfl
theorem zyt {α : Type} (A B : List α) (x y : α) (i : Nat) (h : A.length = i) : (A ++ x :: B).set i y = A ++ y :: B := by
  subst h
  rw [List.set_append_right _ _ (Nat.le_refl _), Nat.sub_self]
  rfl
theorem zwg (A B : List (List Int)) (x : List Int) (i : Nat) (h : A.length = i) : za1 (A ++ x :: B) (i : Int) = x := by
  subst h
  unfold za1
  rw [Int.toNat_natCast]
  simp [List.getD]
theorem okAt {P : Instr → Prop} (l : List Instr) (i : Nat) (h : i < l.length) (ok : ∀ x ∈ l, P x) : P (l.getD i zI) := by
  rw [zgl l i h]
  exact ok _ (List.getElem_mem h)
def zhw (c : Nat) : Bool × Bool × Bool × Int × Int :=
  match c with
  | 0 => (true, false, false, 0, 63)
  | 1 => (true, true, false, 0, 0)
  | 2 => (true, true, true, 0, 0)
  | 3 => (true, true, true, 0, 0)
  | 4 => (true, true, true, 0, 0)
  | 5 => (true, true, false, 0, 63)
  | 6 => (true, true, false, 1, 5)
  | 7 => (true, true, true, 1, 3)
  | _ => (false, false, false, 0, 0)
theorem zu4 : ∀ p ∈ ops, zem 20 p.1 = some (zhw p.2) := by decide +kernel
theorem zu5 (s : ByteArray) : zix s = some (zmd (cls s) s) := rfl
theorem zrt (s : ByteArray) : Ev (fun k => zem k s) (zhw (cls s)) := by
  refine zrp (P := fun s => Ev (fun k => zem k s) (zhw (cls s))) s (fun p hp => ?_) (fun h => ?_)
  · rw [zyk p hp]
    exact yec (zf0 _) (zu4 p hp)
  · rw [zrq h]
    obtain ⟨h0, h1, h2, h3, h4, h5, h6, h7, h8, h9, h10, h11, h12, h13, h14, h15, h16, h17, h18, h19⟩ := zv9 h
    refine yec (zf0 _) (k := 5) ?_
    simp only [zem, zef, zb5, zeg, ze0, h0, h1, h2, h3, h4, h5, h6, h7, h8, h9, h10, h11, h12, h13, h14, h15, h16, h17, h18, h19, if_false, beq_iff_eq]
    rfl
theorem zl9 (a b c : Int) : zf4 a b c = some (decide (b ≤ a ∧ a ≤ c)) := by
  unfold zf4
  by_cases h : b ≤ a <;> simp [h]
theorem zr8 (a b c : Int) : zir a b c = some (decide (b ≤ a ∧ a ≤ c)) := by
  unfold zir
  by_cases h : a ≥ b
  · rw [if_pos h]; congr 1; rw [decide_eq_decide]; omega
  · rw [if_neg h]; congr 1; symm; rw [decide_eq_false_iff_not]; omega
theorem yaq (a : Int) : zis a = some (decide (0 ≤ a ∧ a ≤ 5)) := by
  unfold zis
  rw [zr8]; rfl
def okI (x : Instr) : Prop := cls x.f0 ≠ 8 ∧ (0 ≤ x.f1 ∧ x.f1 ≤ 5) ∧ ((zhw (cls x.f0)).2.1 = true ∧ 0 ≤ x.f2 ∧ x.f2 ≤ 5 ∨ x.f2 = 0) ∧ ((zhw (cls x.f0)).2.2.1 = true ∧ 0 ≤ x.f3 ∧ x.f3 ≤ 5 ∨ x.f3 = 0) ∧ (zhw (cls x.f0)).2.2.2.1 ≤ x.f4 ∧ x.f4 ≤ (zhw (cls x.f0)).2.2.2.2
instance (x : Instr) : Decidable (okI x) := by unfold okI; infer_instance
theorem zyu (s : ByteArray) : cls s ≤ 8 := by
  refine zrp (P := fun s => cls s ≤ 8) s (by decide +kernel) (fun h => by rw [zrq h]; exact Nat.le_refl _)
theorem zu6 (s : ByteArray) : cls s = 0 ∨ cls s = 1 ∨ cls s = 2 ∨ cls s = 3 ∨ cls s = 4 ∨ cls s = 5 ∨ cls s = 6 ∨ cls s = 7 ∨ cls s = 8 := by have := zyu s; omega
theorem zs6 (x : Instr) : zja x.f0 x.f1 x.f2 x.f3 x.f4 = some (decide (okI x)) := by
  unfold zja
  congr 1
  obtain ⟨s, d, a, b, m⟩ := x
  simp only [okI]
  rw [Bool.eq_iff_iff]
  simp only [okF, Bool.and_eq_true, Bool.or_eq_true, decide_eq_true_eq, Bool.not_eq_true', decide_eq_false_iff_not]
  rcases zu6 s with h | h | h | h | h | h | h | h | h <;> simp only [h, zmd, zhw] <;> simp <;> omega
theorem zu7 (x : Instr) : Ev (fun k => zhh k x.f0 x.f1 x.f2 x.f3 x.f4) (decide (okI x)) := by
  unfold zhh
  refine Ev.bind (zrt x.f0) (zw8 ?_)
  obtain ⟨s, d, a, b, m⟩ := x
  simp only [zr8, yaq, Option.bind_some, okI]
  rcases zu6 s with h | h | h | h | h | h | h | h | h <;> simp only [h, zhw] <;> by_cases h1 : 0 ≤ d ∧ d ≤ 5 <;> by_cases h2 : 0 ≤ a ∧ a ≤ 5 <;> by_cases h3 : 0 ≤ b ∧ b ≤ 5 <;> (try simp [h1, h2, h3]) <;> (repeat' split) <;> (try (rw [Bool.eq_iff_iff]; simp only [Bool.and_eq_true, decide_eq_true_eq, beq_iff_eq, true_iff, false_iff, Bool.false_eq_true, iff_false, iff_true])) <;> (try simp only [Option.some.injEq]) <;> (try (rw [Bool.eq_iff_iff]; simp only [Bool.and_eq_true, decide_eq_true_eq, beq_iff_eq, true_iff, false_iff, Bool.false_eq_true, iff_false, iff_true])) <;> (try omega)
def zhx (c : Nat) : Int := match c with | 3 => 2 | 4 => 4 | 8 => 0 | _ => 1
theorem ztv : ∀ p ∈ ops, zf9 p.1 = some (zhx p.2) := by decide +kernel
theorem zx2 (c : Nat) (s : ByteArray) (hc : c ≤ 8) : (zmd c s).2.2.2.2.1 = zhx c := by
  rcases (show c = 0 ∨ c = 1 ∨ c = 2 ∨ c = 3 ∨ c = 4 ∨ c = 5 ∨ c = 6 ∨ c = 7 ∨ c = 8 by omega) with h | h | h | h | h | h | h | h | h <;> subst h <;> rfl
theorem ztw (x : Instr) : zdx x.f0 x.f1 x.f2 x.f3 x.f4 = some (zhx (cls x.f0)) := by
  unfold zdx
  rw [zu5, Option.bind_some, zx2 _ _ (zyu _)]
theorem zos (s : ByteArray) (h : cls s ≠ 8) : zf9 s = some (zhx (cls s)) := by
  refine zrp (P := fun s => cls s ≠ 8 → zf9 s = some (zhx (cls s))) s (fun p hp _ => ?_) (fun hn h => absurd (zrq hn) h) h
  rw [ztv p hp, zyk p hp]
theorem zn1 (c : Nat) : 0 ≤ zhx c ∧ zhx c ≤ 4 := by unfold zhx; split <;> omega
theorem ydp (c : Nat) (s : ByteArray) (h : c ≤ 8) : (zmd c s).1 = (zhw c).2.1 := by
  rcases (show c = 0 ∨ c = 1 ∨ c = 2 ∨ c = 3 ∨ c = 4 ∨ c = 5 ∨ c = 6 ∨ c = 7 ∨ c = 8 by omega) with h | h | h | h | h | h | h | h | h <;> subst h <;> rfl
theorem ydq (c : Nat) (s : ByteArray) (h : c ≤ 8) : (zmd c s).2.1 = (zhw c).2.2.1 := by
  rcases (show c = 0 ∨ c = 1 ∨ c = 2 ∨ c = 3 ∨ c = 4 ∨ c = 5 ∨ c = 6 ∨ c = 7 ∨ c = 8 by omega) with h | h | h | h | h | h | h | h | h <;> subst h <;> rfl
def two (a b : Int) : List Int := if a < b then [a, b] else if a = b then [a] else [b, a]
def zk2 (x : Instr) : List Int :=
  if (zhw (cls x.f0)).2.1 = true then (if (zhw (cls x.f0)).2.2.1 = true then two x.f2 x.f3 else [x.f2]) else (if (zhw (cls x.f0)).2.2.1 = true then [x.f3] else [])
theorem zo2 (x : Instr) : (zk2 x).length ≤ 2 := by
  unfold zk2 two
  repeat' split
  all_goals simp
theorem ydr : ([] : List Int).mergeSort (fun x y => decide (x ≤ y)) = [] := by simp
theorem yds (a : Int) : [a].mergeSort (fun x y => decide (x ≤ y)) = [a] := by simp
theorem ydt (a b : Int) : [a, b].mergeSort (fun x y => decide (x ≤ y)) = if a ≤ b then [a, b] else [b, a] := by
  by_cases h : a ≤ b
  · rw [if_pos h]
    exact List.mergeSort_of_pairwise (by simp [h])
  · rw [if_neg h]
    have p : [a, b].mergeSort (fun x y => decide (x ≤ y)) |>.Perm [b, a] := (List.mergeSort_perm _ _).trans (List.Perm.swap _ _ _)
    have s := List.pairwise_mergeSort (le := fun x y : Int => decide (x ≤ y)) (fun a b c h1 h2 => by simp at *; omega) (fun a b => by simp; omega) [a, b]
    refine List.Perm.eq_of_pairwise (le := fun x y : Int => decide (x ≤ y) = true) (fun a b _ _ h1 h2 => by simp at *; omega) s ?_ p
    simp; omega
theorem ydu : Go.Lib.compact ([] : List Int) = [] := rfl
theorem ydv (a : Int) : Go.Lib.compact [a] = [a] := rfl
theorem ybf (a b : Int) : Go.Lib.compact [a, b] = if b = a then [a] else [a, b] := by
  show (([0, 1] : List Nat).filter (Go.Lib.keeps #[a, b])).map (#[a, b][·]!) = _
  by_cases h : b = a
  · simp [Go.Lib.keeps, h]
  · simp [Go.Lib.keeps, h]
def twoL : List Int → List Int
  | [a, b] => two a b
  | l => l
theorem zwh (l : List Int) (h : l.length ≤ 2) : ∃ m, zc3 l = some m ∧ zb3 m = some (twoL l) := by
  match l, h with
  | [], _ => exact ⟨[], by unfold zc3; rw [if_pos (by decide), ydr], by unfold zb3; rw [if_pos (by decide), ydu]; rfl⟩
  | [a], _ => exact ⟨[a], by unfold zc3; rw [if_pos (by simp), yds], by unfold zb3; rw [if_pos (by simp), ydv]; rfl⟩
  | [a, b], _ =>
    refine ⟨_, by unfold zc3; rw [if_pos (by simp)], ?_⟩
    show zb3 _ = some (two a b)
    rw [ydt]
    unfold zb3 two
    by_cases h : a ≤ b
    · rw [if_pos h, if_pos (by simp), ybf]
      by_cases e : a = b
      · rw [if_pos e.symm, if_neg (by omega), if_pos e]
      · rw [if_neg (fun q => e q.symm), if_pos (by omega)]
    · rw [if_neg h, if_pos (by simp), ybf, if_neg (by omega), if_neg (by omega), if_neg (by omega)]
theorem zw9 (x : Instr) : Ev (fun k => zdm k x.f0 x.f1 x.f2 x.f3 x.f4) (zk2 x) := by
  unfold zdm
  refine Ev.call (zu5 x.f0) (Ev.call rfl ?_)
  have c8 := zyu x.f0
  rw [ydp _ _ c8, ydq _ _ c8]
  unfold zk2
  have fin : ∀ (l : List Int), l.length ≤ 2 → Ev (fun _ => (zc3 l).bind fun t => (zb3 t).bind fun t' => some t') (twoL l) := fun l hl => by
    obtain ⟨m, h1, h2⟩ := zwh l hl
    exact Ev.call h1 (Ev.call h2 (Ev.now _))
  by_cases ha : (zhw (cls x.f0)).2.1 = true
  · refine zae ha (zae (by simp) (zam (fun k => by simp only [zb6]; rfl) ?_))
    by_cases hb : (zhw (cls x.f0)).2.2.1 = true
    · refine zae hb (zae (by simp) ?_)
      rw [if_pos ha, if_pos hb]
      exact fin [x.f2, x.f3] (by simp)
    · refine zas hb ?_
      rw [if_pos ha, if_neg hb]
      exact fin [x.f2] (by simp)
  · refine zas ha (zam (fun k => by simp only [zb6]; rfl) ?_)
    by_cases hb : (zhw (cls x.f0)).2.2.1 = true
    · refine zae hb (zae (by simp) ?_)
      rw [if_neg ha, if_pos hb]
      exact fin [x.f3] (by simp)
    · refine zas hb ?_
      rw [if_neg ha, if_neg hb]
      exact fin [] (by simp)
theorem zyv (n : Int) : Ev (fun k => zfs k [] n) [n] := by
  unfold zfs
  refine zam (f := fun _ => some [n]) (fun k => ?_) (Ev.now _)
  simp only [ze8]
  rw [if_neg (by simp)]
  rfl
theorem ych (a n : Int) : Ev (fun k => zfs k [a] n) (two a n) := by
  unfold zfs two
  refine zam (fun k => by simp only [ze8, show rd [a] 0 = a from rfl]; rfl) (zae (by simp) (zae (by decide) ?_))
  by_cases h : a < n
  · rw [if_pos h]
    refine zae h (zam (f := fun _ => some [a, n]) (fun k => ?_) (Ev.now _))
    rw [show wrap64 (0 + 1) = 1 from by unfold wrap64; omega]
    simp only [ze8]
    rw [if_neg (by simp)]
    rfl
  · refine zas h ?_
    rw [if_neg h]
    by_cases e : a = n
    · refine zae e ?_
      rw [if_pos e]
      exact Ev.now _
    · refine zas e ?_
      rw [if_neg e]
      exact zw8 rfl
theorem zs7 (x : Instr) : Ev (fun k => zga k x.f0 x.f1 x.f2 x.f3 x.f4) (zk2 x) := by
  unfold zga zk2
  refine Ev.bind (zrt x.f0) ?_
  by_cases ha : (zhw (cls x.f0)).2.1 = true
  · refine zae ha (Ev.bind (zyv x.f2) ?_)
    by_cases hb : (zhw (cls x.f0)).2.2.1 = true
    · refine zae hb (Ev.bind (ych x.f2 x.f3) ?_)
      rw [if_pos ha, if_pos hb]
      exact Ev.now _
    · refine zas hb ?_
      rw [if_pos ha, if_neg hb]
      exact Ev.now _
  · refine zas ha ?_
    by_cases hb : (zhw (cls x.f0)).2.2.1 = true
    · refine zae hb (Ev.bind (zyv x.f3) ?_)
      rw [if_neg ha, if_pos hb]
      exact Ev.now _
    · refine zas hb ?_
      rw [if_neg ha, if_neg hb]
      exact Ev.now _
theorem zn2 (l : List Int) (n : Int) (hl : l.length ≤ 1048576) : Ev (fun k => zbm k l n) (decide (n ∈ l)) := by
  have hs : Ev (fun k => zc8 k l n) (idx (fun x => decide (n = x)) l) := by
    unfold zc8
    refine zoq l _ (fun k i => za8 k l n l.length i) ?_ (fun i x hi hx hp => ?_) (fun i x r hi hx hp hr => ?_)
    · refine zam (f := fun _ => some (-1)) (fun k => ?_) (Ev.now _)
      simp only [za8]
      rw [if_neg (by omega)]
    · exact zam (fun k => by simp only [za8, zn0 hx]; rfl) (zae (by omega) (zae (by omega) (zae (by omega) (zae (of_decide_eq_true hp) (Ev.now _)))))
    · refine zam (fun k => by simp only [za8, zn0 hx]; rfl) (zae (by omega) (zae (by omega) (zae (by omega) (zas (of_decide_eq_false hp) ?_))))
      rw [w64n i (by omega)]
      exact hr
  unfold zbm
  refine Ev.bind hs (Ev.some ?_)
  have e := znp (fun x => decide (n = x)) l
  rw [decide_eq_decide]
  constructor
  · intro h
    obtain ⟨x, hx, hx'⟩ := e.1 h
    rw [of_decide_eq_true hx']
    exact hx
  · exact fun h => e.2 ⟨n, h, decide_eq_true rfl⟩
theorem ybg (l : List Int) (n : Int) (hl : l.length ≤ 1048576) : Ev (fun k => zhg k l n) (decide (n ∈ l)) := by
  unfold zhg
  refine zr6 (σ := Unit) l (fun k _ i => ze9 k n l l.length i) (fun rest _ => decide (n ∈ rest)) (fun _ => ?_) (fun i _ x rest hi hx ih => ?_) ()
  · refine zam (f := fun _ => some false) (fun k => ?_) (Ev.some (by simp))
    simp only [ze9]
    rw [if_neg (by omega)]
  · refine zam (fun k => by simp only [ze9, zn0 hx]; rfl) (zae (by omega) (zae (by omega) (zae (by omega) ?_)))
    by_cases h : x = n
    · exact zae h (Ev.some (by simp [h]))
    · refine zas h ?_
      rw [w64n i (by omega)]
      refine zr5 (ih ()) ?_
      rw [decide_eq_decide, List.mem_cons]
      exact ⟨.inr, fun q => q.elim (fun e => absurd e.symm h) id⟩
def zwi (l : List Instr) (j i : Nat) : Bool := ((l.take i).drop (j + 1)).any fun z => decide (z.f1 = (l.getD j zI).f1)
def dlyB (x y : Instr) (over : Bool) : Int :=
  if x.f1 ∈ zk2 y ∧ over = false then max (if x.f1 = y.f1 then 1 else if y.f1 ∈ zk2 x then 0 else -1) (zhx (cls x.f0)) else if x.f1 = y.f1 then 1 else if y.f1 ∈ zk2 x then 0 else -1
def dly (l : List Instr) (j i : Nat) : Int := dlyB (l.getD j zI) (l.getD i zI) (zwi l j i)
theorem znq (l : List Instr) (j i : Nat) : -1 ≤ dly l j i ∧ dly l j i ≤ 4 := by
  have := zn1 (cls (l.getD j zI).f0)
  unfold dly dlyB
  repeat' split
  all_goals omega
def rowI (l : List Instr) (i m : Nat) : List Int := (List.range m).map fun j => dly l j i
theorem zyw (l : List Instr) (i m : Nat) : rowI l i (m + 1) = rowI l i m ++ [dly l m i] := by simp [rowI, List.range_succ]
theorem zmu (l : List Instr) (i m : Nat) : (rowI l i m).length = m := by simp [rowI]
def tabI (l : List Instr) (m : Nat) : List (List Int) := (List.range m).map fun i => rowI l i i
theorem zyx (l : List Instr) (m : Nat) : tabI l (m + 1) = tabI l m ++ [rowI l m m] := by simp [tabI, List.range_succ]
theorem zmv (l : List Instr) (m : Nat) : (tabI l m).length = m := by simp [tabI]
theorem zyy (a b : Int) : mx a b = max a b := by unfold mx; omega
theorem yci (l : List Instr) (hl : l.length ≤ 1048576) (x : Instr) : Ev (fun k => zay k l [x]) (l.any fun z => decide (z.f1 = x.f1)) := by
  have hs : Ev (fun k => zbp k l [x]) (idx (fun z => decide (z.f1 = x.f1)) l) := by
    unfold zbp
    refine zoq l _ (fun k i => zar k l l.length i [x]) ?_ (fun i z hi hx hp => ?_) (fun i z r hi hx hp hr => ?_)
    · refine zam (f := fun _ => some (-1)) (fun k => ?_) (Ev.now _)
      simp only [zar]
      rw [if_neg (by omega)]
    · have hc : zg7 z.f0 z.f1 z.f2 z.f3 z.f4 [x] = some (z.f1 == x.f1) := by unfold zg7; rw [if_pos (by simp)]; rfl
      exact zam (fun k => by simp only [zar, zpe hx, hc, Option.bind_some]; rfl) (zae (by omega) (zae (by omega) (zae (by omega) (zae (by simpa using hp) (Ev.now _)))))
    · have hc : zg7 z.f0 z.f1 z.f2 z.f3 z.f4 [x] = some (z.f1 == x.f1) := by unfold zg7; rw [if_pos (by simp)]; rfl
      refine zam (fun k => by simp only [zar, zpe hx, hc, Option.bind_some]; rfl) (zae (by omega) (zae (by omega) (zae (by omega) (zas (by simpa using hp) ?_))))
      rw [w64n i (by omega)]
      exact hr
  unfold zay
  refine Ev.bind hs (Ev.some ?_)
  have e := znp (fun z => decide (z.f1 = x.f1)) l
  cases h : l.any fun z => decide (z.f1 = x.f1) with
  | true =>
    obtain ⟨z, hz, hz'⟩ := List.any_eq_true.1 h
    exact decide_eq_true (e.2 ⟨z, hz, hz'⟩)
  | false =>
    refine decide_eq_false (fun q => ?_)
    obtain ⟨z, hz, hz'⟩ := e.1 q
    have := List.any_eq_false.1 h z hz
    exact this hz'
theorem zu8 (i : Nat) (h : i ≤ 1048576) : zer [(-1)] (i : Int) = some (List.replicate i (-1)) := by
  unfold zer
  rw [if_pos ⟨by simp, by omega, by omega⟩, Int.toNat_natCast]
  rfl
section
variable (l : List Instr) (hl : l.length ≤ 1048576) (A B : List (List Int)) (i j : Nat) (hA : A.length = i) (hj : j < i) (hi : i < l.length)
include hl hA hj hi
theorem zu9 (P Q : List Int) (t : Int) (hP : P.length = j) (T : List (List Int))
    (hc : Ev (fun k => zbv k l (A ++ (P ++ (if (l.getD j zI).f1 ∈ zk2 (l.getD i zI) ∧ zwi l j i = false then max t (zhx (cls (l.getD j zI).f0)) else t) :: Q) :: B) i l l.length i (l.take i) i ((j + 1 : Nat) : Int) (l.getD i zI).f0 (l.getD i zI).f1 (l.getD i zI).f2 (l.getD i zI).f3 (l.getD i zI).f4) T) :
    Ev (fun k => zez k l (A ++ (P ++ t :: Q) :: B) i j l l.length i (l.take i) i j (l.getD i zI).f0 (l.getD i zI).f1 (l.getD i zI).f2 (l.getD i zI).f3 (l.getD i zI).f4 (l.getD j zI).f0 (l.getD j zI).f1 (l.getD j zI).f2 (l.getD j zI).f3 (l.getD j zI).f4) T := by
  refine zam (fun k => by simp only [zez]; rfl) ?_
  rw [w64n j (by omega)]
  refine zae (by omega) (zae (by omega) (zae (by omega) ?_))
  rw [Int.toNat_natCast, Int.toNat_natCast]
  have ho := yci ((l.take i).drop (j + 1)) (by simp only [List.length_drop, List.length_take]; omega) (l.getD j zI)
  refine Ev.bind ho (Ev.bind (zw9 (l.getD i zI)) (Ev.bind (zn2 _ _ (Nat.le_trans (zo2 _) (by decide))) ?_))
  by_cases hr : (l.getD j zI).f1 ∈ zk2 (l.getD i zI)
  · refine zae (decide_eq_true hr) ?_
    cases ho' : zwi l j i with
    | true =>
      rw [if_neg (fun q => by rw [ho'] at q; exact absurd q.2 (by decide))] at hc
      exact zae ho' hc
    | false =>
      rw [if_pos ⟨hr, ho'⟩] at hc
      refine zas (fun q => by rw [show zwi l j i = true from q] at ho'; cases ho') ?_
      rw [zwg A B _ i hA]
      refine zae (by omega) (zae (by rw [List.length_append, List.length_cons]; omega) (zae (by omega) (zae (by rw [List.length_append, List.length_cons]; omega) ?_)))
      refine Ev.call (ztw (l.getD j zI)) ?_
      rw [zor P Q t j hP, zij P Q t _ j hP, zyt A B _ _ i hA, zyy]
      exact hc
  · rw [if_neg (fun q => hr q.1)] at hc
    exact zas (fun q => hr (of_decide_eq_true q)) hc
theorem zva (P Q : List Int) (t : Int) (hP : P.length = j) (T : List (List Int)) (ht : t = if (l.getD i zI).f1 ∈ zk2 (l.getD j zI) then 0 else -1)
    (hc : Ev (fun k => zbv k l (A ++ (P ++ dly l j i :: Q) :: B) i l l.length i (l.take i) i ((j + 1 : Nat) : Int) (l.getD i zI).f0 (l.getD i zI).f1 (l.getD i zI).f2 (l.getD i zI).f3 (l.getD i zI).f4) T) :
    Ev (fun k => zey k l (A ++ (P ++ t :: Q) :: B) i j l l.length i (l.take i) i j (l.getD i zI).f0 (l.getD i zI).f1 (l.getD i zI).f2 (l.getD i zI).f3 (l.getD i zI).f4 (l.getD j zI).f0 (l.getD j zI).f1 (l.getD j zI).f2 (l.getD j zI).f3 (l.getD j zI).f4) T := by
  refine zam (fun k => by simp only [zey]; rfl) ?_
  unfold dly dlyB at hc
  by_cases h : (l.getD j zI).f1 = (l.getD i zI).f1
  · rw [if_pos h] at hc
    refine zae h ?_
    rw [zwg A B _ i hA]
    refine zae (by omega) (zae (by rw [List.length_append, List.length_cons]; omega) (zae (by omega) (zae (by rw [List.length_append, List.length_cons]; omega) ?_)))
    rw [zij P Q t _ j hP, zij A B _ _ i hA]
    exact zu9 l hl A B i j hA hj hi P Q 1 hP T hc
  · rw [if_neg h, ← ht] at hc
    exact zas h (zu9 l hl A B i j hA hj hi P Q t hP T hc)
theorem zx3 (P Q : List Int) (hP : P.length = j) (T : List (List Int))
    (hc : Ev (fun k => zbv k l (A ++ (P ++ dly l j i :: Q) :: B) i l l.length i (l.take i) i ((j + 1 : Nat) : Int) (l.getD i zI).f0 (l.getD i zI).f1 (l.getD i zI).f2 (l.getD i zI).f3 (l.getD i zI).f4) T) :
    Ev (fun k => zbv k l (A ++ (P ++ (-1) :: Q) :: B) i l l.length i (l.take i) i j (l.getD i zI).f0 (l.getD i zI).f1 (l.getD i zI).f2 (l.getD i zI).f3 (l.getD i zI).f4) T := by
  have hti : (l.take i).length = i := by rw [List.length_take]; omega
  refine zam (fun k => by simp only [zbv]; rfl) (zae (by omega) (zae (by omega) (zae (by omega) ?_)))
  rw [yap l i j hj]
  refine Ev.bind (zw9 (l.getD j zI)) (Ev.bind (zn2 _ _ (Nat.le_trans (zo2 _) (by decide))) ?_)
  by_cases hr : (l.getD i zI).f1 ∈ zk2 (l.getD j zI)
  · refine zae (decide_eq_true hr) ?_
    rw [zwg A B _ i hA]
    refine zae (by omega) (zae (by rw [List.length_append, List.length_cons]; omega) (zae (by rw [List.length_append, List.length_cons]; omega) ?_))
    rw [zij P Q _ _ j hP, zij A B _ _ i hA]
    exact zva l hl A B i j hA hj hi P Q 0 hP T (by rw [if_pos hr]) hc
  · exact zas (fun q => hr (of_decide_eq_true q)) (zva l hl A B i j hA hj hi P Q (-1) hP T (by rw [if_neg hr]) hc)
end
theorem zx4 (l : List Instr) (hl : l.length ≤ 1048576) (A B : List (List Int)) (i : Nat) (hA : A.length = i) (hi : i < l.length) (T : List (List Int))
    (hc : Ev (fun k => zdy k l (A ++ rowI l i i :: B) l l.length (wrap64 ((i : Int) + 1))) T) :
    ∀ (d j : Nat), j + d = i → Ev (fun k => zbv k l (A ++ (rowI l i j ++ List.replicate d (-1)) :: B) i l l.length i (l.take i) i j (l.getD i zI).f0 (l.getD i zI).f1 (l.getD i zI).f2 (l.getD i zI).f3 (l.getD i zI).f4) T := by
  intro d
  induction d with
  | zero =>
    intro j hj
    obtain rfl : j = i := by omega
    rw [List.replicate_zero, List.append_nil]
    exact zam (fun k => by simp only [zbv]; rfl) (zas (by omega) hc)
  | succ d ih =>
    intro j hj
    rw [List.replicate_succ]
    refine zx3 l hl A B i j hA (by omega) hi (rowI l i j) (List.replicate d (-1)) (zmu l i j) T ?_
    have := ih (j + 1) (by omega)
    rw [zyw, List.append_assoc, List.singleton_append] at this
    exact this
theorem zot (l : List Instr) (hl : l.length ≤ 1048576) : Ev (fun k => zes k l) (tabI l l.length) := by
  have key : ∀ (d i : Nat), i + d = l.length → Ev (fun k => zdy k l (tabI l i ++ List.replicate d []) l l.length i) (tabI l l.length) := by
    intro d
    induction d with
    | zero =>
      intro i hi
      obtain rfl : i = l.length := by omega
      rw [List.replicate_zero, List.append_nil]
      refine zam (f := fun _ => some (tabI l l.length)) (fun k => ?_) (Ev.now _)
      simp only [zdy]
      rw [if_neg (by omega)]
    | succ d ih =>
      intro i hi
      have hti : (l.take i).length = i := by rw [List.length_take]; omega
      rw [List.replicate_succ]
      refine zam (fun k => by simp only [zdy]; rfl) (zae (by omega) (zae (by omega) (zae (by omega) (Ev.call (zu8 i (by omega)) ?_))))
      refine zae (by rw [List.length_append, List.length_cons, zmv]; omega) (zae (by omega) (Ev.call rfl ?_))
      rw [zij (tabI l i) _ _ _ i (zmv l i), Int.toNat_natCast, hti, zr7]
      refine zx4 l hl (tabI l i) (List.replicate d []) i (zmv l i) (by omega) _ ?_ i 0 (by omega)
      rw [w64n i (by omega)]
      have := ih (i + 1) (by omega)
      rw [zyx, List.append_assoc, List.singleton_append] at this
      exact this
  unfold zes
  refine zae (by omega) (zae (by rw [Int.toNat_natCast]; omega) ?_)
  rw [Int.toNat_natCast]
  have := key l.length 0 (by omega)
  simpa [tabI] using this
theorem zx5 (l : List Instr) (hl : l.length ≤ 1048576) (ok : ∀ x ∈ l, okI x) (i j : Nat) (hij : i < j) (hj : j < l.length) : Ev (fun k => zg2 k l (i : Int) (j : Int)) (dly l i j) := by
  have hx := okAt (P := okI) l i (by omega) ok
  have last : ∀ (t : Int) (d p : Nat) (v : Int), p + d = j → i < p → (v = i ∨ (i : Int) < v) →
      Ev (fun k => zdj k l i j t v p (l.getD i zI).f0 (l.getD i zI).f1 (l.getD i zI).f2 (l.getD i zI).f3 (l.getD i zI).f4) (if v = i ∧ (((l.take j).drop p).any fun z => decide (z.f1 = (l.getD i zI).f1)) = false then max t (zhx (cls (l.getD i zI).f0)) else t) := by
    intro t d
    induction d with
    | zero =>
      intro p v hp hip hv
      rw [List.drop_of_length_le (by rw [List.length_take]; omega)]
      refine zam (fun k => by simp only [zdj]; rfl) (zas (by omega) ?_)
      have hm : zdb t (zhx (cls (l.getD i zI).f0)) = some (max t (zhx (cls (l.getD i zI).f0))) := by
        unfold zdb
        by_cases q : t > zhx (cls (l.getD i zI).f0)
        · rw [if_pos q]; congr 1; omega
        · rw [if_neg q]; congr 1; omega
      by_cases h : v = i
      · refine zae h (Ev.call (zos _ hx.1) (Ev.call hm (Ev.some ?_)))
        rw [if_pos ⟨h, rfl⟩]
      · refine zas h (Ev.some ?_)
        rw [if_neg (fun q => h q.1)]
    | succ d ih =>
      intro p v hp hip hv
      have hlt : p < (l.take j).length := by rw [List.length_take]; omega
      have e : (l.take j).drop p = (l.take j)[p] :: (l.take j).drop (p + 1) := List.drop_eq_getElem_cons hlt
      have e2 : (l.take j)[p] = l.getD p zI := by
        rw [List.getElem_take, zgl l p (by omega)]
      rw [e, e2, List.any_cons]
      refine zam (fun k => by simp only [zdj]; rfl) (zae (by omega) (zae (by omega) (zae (by omega) ?_)))
      rw [zr7, w64n p (by omega)]
      by_cases h : (l.getD p zI).f1 = (l.getD i zI).f1
      · refine zae h (zr5 (ih (p + 1) p (by omega) (by omega) (.inr (by omega))) ?_)
        rw [if_neg (fun q => by have := q.1; omega), if_neg (fun q => by have := q.2; rw [decide_eq_true h] at this; cases this)]
      · refine zas h (zr5 (ih (p + 1) v (by omega) (by omega) hv) ?_)
        rw [decide_eq_false h, Bool.false_or]
  have j1 : ∀ t : Int, Ev (fun k => zei k l i j t (l.getD i zI).f0 (l.getD i zI).f1 (l.getD i zI).f2 (l.getD i zI).f3 (l.getD i zI).f4 (l.getD j zI).f0 (l.getD j zI).f1 (l.getD j zI).f2 (l.getD j zI).f3 (l.getD j zI).f4)
      (if (l.getD i zI).f1 ∈ zk2 (l.getD j zI) ∧ zwi l i j = false then max t (zhx (cls (l.getD i zI).f0)) else t) := by
    intro t
    refine zam (fun k => by simp only [zei]; rfl) (Ev.bind (zs7 (l.getD j zI)) (Ev.bind (ybg _ _ (Nat.le_trans (zo2 _) (by decide))) ?_))
    by_cases hr : (l.getD i zI).f1 ∈ zk2 (l.getD j zI)
    · refine zae (decide_eq_true hr) ?_
      rw [w64n i (by omega)]
      refine zr5 (last t (j - (i + 1)) (i + 1) i (by omega) (by omega) (.inl rfl)) ?_
      unfold zwi
      by_cases q : (((l.take j).drop (i + 1)).any fun z => decide (z.f1 = (l.getD i zI).f1)) = false
      · rw [if_pos ⟨rfl, q⟩, if_pos ⟨hr, q⟩]
      · rw [if_neg (fun z => q z.2), if_neg (fun z => q z.2)]
    · rw [if_neg (fun q => hr q.1)]
      exact zas (fun q => hr (of_decide_eq_true q)) (Ev.now _)
  have j0 : ∀ t : Int, Ev (fun k => zeh k l i j t (l.getD i zI).f0 (l.getD i zI).f1 (l.getD i zI).f2 (l.getD i zI).f3 (l.getD i zI).f4 (l.getD j zI).f0 (l.getD j zI).f1 (l.getD j zI).f2 (l.getD j zI).f3 (l.getD j zI).f4)
      (if (l.getD i zI).f1 ∈ zk2 (l.getD j zI) ∧ zwi l i j = false then max (if (l.getD i zI).f1 = (l.getD j zI).f1 then 1 else t) (zhx (cls (l.getD i zI).f0)) else if (l.getD i zI).f1 = (l.getD j zI).f1 then 1 else t) := by
    intro t
    refine zam (fun k => by simp only [zeh]; rfl) ?_
    by_cases h : (l.getD i zI).f1 = (l.getD j zI).f1
    · rw [if_pos h]
      exact zae h (j1 1)
    · rw [if_neg h]
      exact zas h (j1 t)
  unfold zg2
  refine zae (by omega) (zae (by omega) (zae (by omega) (zae (by omega) ?_)))
  rw [zr7, zr7]
  refine Ev.bind (zs7 (l.getD i zI)) (Ev.bind (ybg _ _ (Nat.le_trans (zo2 _) (by decide))) ?_)
  unfold dly dlyB
  by_cases h : (l.getD j zI).f1 ∈ zk2 (l.getD i zI)
  · rw [if_pos h]
    exact zae (decide_eq_true h) (j0 0)
  · rw [if_neg h]
    exact zas (fun q => h (of_decide_eq_true q)) (j0 (-1))
def dlyS (l : List Instr) (i j : Nat) : Int := if i < j then dly l i j else -1
def rowS (l : List Instr) (i m : Nat) : List Int := (List.range m).map fun j => dlyS l i j
theorem zyz (l : List Instr) (i m : Nat) : rowS l i (m + 1) = rowS l i m ++ [dlyS l i m] := by simp [rowS, List.range_succ]
theorem zo3 (l : List Instr) (i m : Nat) : (rowS l i m).length = m := by simp [rowS]
def tabS (l : List Instr) (m : Nat) : List (List Int) := (List.range m).map fun i => rowS l i l.length
theorem zy0 (l : List Instr) (m : Nat) : tabS l (m + 1) = tabS l m ++ [rowS l m l.length] := by simp [tabS, List.range_succ]
theorem zqb (l : List Instr) (m : Nat) : (tabS l m).length = m := by simp [tabS]
theorem zn3 (l : List Instr) (hl : l.length ≤ 1048576) (ok : ∀ x ∈ l, okI x) : Ev (fun k => ze1 k l) (tabS l l.length) := by
  have row : ∀ (rows : List (List Int)) (i : Nat) (T : List (List Int)), i < l.length → rows.length ≤ 1048576 → Ev (fun k => zcz k l (rows ++ [rowS l i l.length]) l.length (wrap64 ((i : Int) + 1))) T →
      ∀ (d j : Nat), j + d = l.length → Ev (fun k => zc0 k l rows i (rowS l i j) l.length i l.length j) T := by
    intro rows i T hi hr hc d
    induction d with
    | zero =>
      intro j hj
      obtain rfl : j = l.length := by omega
      exact zam (fun k => by simp only [zc0]; rfl) (zas (by omega) (zae (by omega) hc))
    | succ d ih =>
      intro j hj
      have := ih (j + 1) (by omega)
      rw [zyz] at this
      unfold dlyS at this
      refine zam (fun k => by simp only [zc0]; rfl) (zae (by omega) ?_)
      rw [w64n j (by omega)]
      by_cases h : i < j
      · rw [if_pos h] at this
        exact zae (by omega) (Ev.bind (zx5 l hl ok i j h (by omega)) (zae (by rw [zo3]; omega) this))
      · rw [if_neg h] at this
        exact zas (by omega) (zae (by rw [zo3]; omega) this)
  have key : ∀ (d i : Nat), i + d = l.length → Ev (fun k => zcz k l (tabS l i) l.length i) (tabS l l.length) := by
    intro d
    induction d with
    | zero =>
      intro i hi
      obtain rfl : i = l.length := by omega
      refine zam (f := fun _ => some (tabS l l.length)) (fun k => ?_) (Ev.now _)
      simp only [zcz]
      rw [if_neg (by omega)]
    | succ d ih =>
      intro i hi
      refine zam (fun k => by simp only [zcz]; rfl) (zae (by omega) ?_)
      refine row (tabS l i) i _ (by omega) (by rw [zqb]; omega) ?_ l.length 0 (by omega)
      rw [w64n i (by omega), ← zy0]
      exact ih (i + 1) (by omega)
  exact key l.length 0 (by omega)
def zpf (l : List Instr) : Bool := decide (l.length ≤ 40) && l.all (fun x => decide (okI x))
def zel (l : List Instr) : Bool := decide (l.length ≤ 20) && l.all (fun x => decide (okI x))
theorem zvb (l : List Instr) : Ev (fun k => zgw k l) (zpf l) := by
  unfold zgw
  by_cases hl : l.length ≤ 40
  · refine zae (by omega) ?_
    have h : Ev (fun k => zbo k l) (idx (fun x => !decide (okI x)) l) := by
      unfold zbo
      refine zoq l _ (fun k i => zaq k l l.length i) ?_ (fun i x hi hx hp => ?_) (fun i x r hi hx hp hr => ?_)
      · refine zam (f := fun _ => some (-1)) (fun k => ?_) (Ev.now _)
        simp only [zaq]
        rw [if_neg (by omega)]
      · refine zam (f := fun _ => some (i : Int)) (fun k => ?_) (Ev.now _)
        simp only [zaq, zil, zpe hx, zs6, Option.bind_some, hp]
        rw [if_pos (by omega), if_pos (by omega), if_pos (by omega), if_pos trivial]
      · refine zam (fun k => ?_) hr
        simp only [zaq, zil, zpe hx, zs6, Option.bind_some, hp]
        rw [if_pos (by omega), if_pos (by omega), if_pos (by omega), if_neg (by simp), w64n i (by omega)]
    unfold zbt
    refine Ev.bind (Ev.bind h (Ev.now _)) (Ev.some ?_)
    have e := znp (fun x => !decide (okI x)) l
    unfold zpf
    rw [show decide (l.length ≤ 40) = true by simpa using hl, Bool.true_and]
    by_cases hc : 0 ≤ idx (fun x => !decide (okI x)) l
    · obtain ⟨x, hx, hx'⟩ := e.1 hc
      rw [decide_eq_true (show idx (fun x => !decide (okI x)) l ≥ 0 from hc)]
      symm
      simpa using ⟨x, hx, by simpa using hx'⟩
    · rw [decide_eq_false (show ¬ idx (fun x => !decide (okI x)) l ≥ 0 from hc)]
      symm
      have := fun h => hc (e.2 h)
      simpa using this
  · refine zas (by omega) (Ev.some ?_)
    unfold zpf
    rw [show decide (l.length ≤ 40) = false by simpa using hl]
    rfl
theorem zy1 (l : List Instr) : Ev (fun k => zhi k l) (zpf l) := by
  unfold zhi
  by_cases hl : l.length ≤ 40
  · refine zas (by omega) ?_
    unfold zpf
    rw [show decide (l.length ≤ 40) = true by simpa using hl, Bool.true_and]
    refine ydo l _ (fun k i => zd2 k l l.length i) ?_ (fun i x hi hx hp => ?_) (fun i x r hi hx hp hr => ?_)
    · refine zam (f := fun _ => some true) (fun k => ?_) (Ev.now _)
      simp only [zd2]
      rw [if_neg (by omega)]
    · refine zam (fun k => by simp only [zd2, zpe hx]; rfl) ?_
      refine zae (by omega) (zae (by omega) (zae (by omega) ?_))
      exact Ev.bind (zu7 x) (zas (by simpa using hp) (Ev.now _))
    · refine zam (fun k => by simp only [zd2, zpe hx, w64n i (show i < 4611686018427387904 by omega)]; rfl) ?_
      refine zae (by omega) (zae (by omega) (zae (by omega) ?_))
      exact Ev.bind (zu7 x) (zae (by simpa using hp) hr)
  · refine zae (by omega) (Ev.some ?_)
    unfold zpf
    rw [show decide (l.length ≤ 40) = false by simpa using hl]
    rfl
theorem zqv (l : List Instr) : zel l = (zpf l && decide (l.length ≤ 20)) := by
  unfold zel zpf
  by_cases h : l.length ≤ 20
  · simp [h, show l.length ≤ 40 by omega]
  · simp [h]
theorem zgm {l : List Instr} (h : zel l = true) : l.length ≤ 20 ∧ ∀ x ∈ l, okI x := by
  unfold zel at h
  simp only [Bool.and_eq_true, decide_eq_true_eq, List.all_eq_true] at h
  exact h
theorem zks (l : List Instr) : Ev (fun k => zdn k l) (zel l) := by
  unfold zdn
  refine Ev.bind (zvb l) ?_
  rw [zqv]
  cases h : zpf l
  · exact zas (by simp) (Ev.some rfl)
  · refine zae rfl (Ev.some ?_)
    rw [Bool.true_and, decide_eq_decide]
    omega
theorem zma (l : List Instr) : Ev (fun k => zfb k l) (zel l) := by
  unfold zfb
  rw [zqv]
  by_cases h : l.length ≤ 20
  · refine zae (by omega) (Ev.bind (zy1 l) (Ev.some ?_))
    simp [h]
  · refine zas (by omega) (Ev.some ?_)
    simp [h]
theorem zm8 (l : List Instr) (m i : Nat) (h : i < m) : za1 (tabI l m) (i : Int) = rowI l i i := by
  unfold za1
  rw [Int.toNat_natCast]
  simp [tabI, List.getD, h]
theorem zpr (l : List Instr) (i m j : Nat) (h : j < m) : rd (rowI l i m) (j : Int) = dly l j i := zn0 (fun d => by simp [rowI, List.getD, h])
theorem ztx (l : List Instr) (m i : Nat) (h : i < m) : za1 (tabS l m) (i : Int) = rowS l i l.length := by
  unfold za1
  rw [Int.toNat_natCast]
  simp [tabS, List.getD, h]
theorem zty (l : List Instr) (i m j : Nat) (h : j < m) : rd (rowS l i m) (j : Int) = dlyS l i j := zn0 (fun d => by simp [rowS, List.getD, h])
def eaC (l : List Instr) (P : List Int) (j : Nat) : Nat → Int
  | 0 => 0
  | u + 1 => if dly l u j ≥ 0 then max (eaC l P j u) (P.getD u 0 + dly l u j) else eaC l P j u
def eaL (l : List Instr) : Nat → List Int
  | 0 => []
  | j + 1 => eaL l j ++ [eaC l (eaL l j) j j]
theorem zg0 (l : List Instr) : ∀ j, (eaL l j).length = j
  | 0 => rfl
  | j + 1 => by rw [eaL, List.length_append, zg0 l j]; rfl
theorem zxa (l : List Instr) (P : List Int) (B : Int) (h0 : 0 ≤ B) (hP : ∀ u, 0 ≤ P.getD u 0 ∧ P.getD u 0 ≤ B) (j : Nat) : ∀ u, 0 ≤ eaC l P j u ∧ eaC l P j u ≤ B + 4
  | 0 => by unfold eaC; omega
  | u + 1 => by
    have ih := zxa l P B h0 hP j u
    have hd := znq l u j
    have hp := hP u
    unfold eaC
    split <;> omega
theorem zln (A B : List Int) (u : Nat) : (A ++ B).getD u 0 = if u < A.length then A.getD u 0 else B.getD (u - A.length) 0 := by
  simp only [List.getD_eq_getElem?_getD, List.getElem?_append]
  split <;> rfl
theorem zxb (l : List Instr) : ∀ j u, 0 ≤ (eaL l j).getD u 0 ∧ (eaL l j).getD u 0 ≤ 4 * (j : Int)
  | 0, u => by unfold eaL; simp
  | j + 1, u => by
    have ih := zxb l j
    have hc := zxa l (eaL l j) (4 * (j : Int)) (by omega) ih j j
    rw [eaL, zln, zg0]
    split
    · have := ih u; omega
    · match h : u - j with
      | 0 => show 0 ≤ eaC l (eaL l j) j j ∧ _; constructor; exact hc.1; show eaC l (eaL l j) j j ≤ _; omega
      | m + 1 => simp; omega
theorem zy2 (A B : List Int) (u : Nat) (h : u < A.length) : rd (A ++ B) (u : Int) = A.getD u 0 := by
  unfold rd
  rw [Int.toNat_natCast, zln, if_pos h]
theorem zqw (a b : Int) : zdb a b = some (max a b) := by
  unfold zdb
  by_cases q : a > b
  · rw [if_pos q]; congr 1; omega
  · rw [if_neg q]; congr 1; omega
section
variable (l : List Instr) (hl : l.length ≤ 20)
include hl
theorem zx6 (j : Nat) (hj : j < l.length) (Z T : List Int) (hc : Ev (fun k => zcx k (tabI l l.length) (eaL l j ++ eaC l (eaL l j) j j :: Z) l.length ((j + 1 : Nat) : Int)) T) :
    ∀ (d u : Nat), u + d = j → Ev (fun k => zcs k (tabI l l.length) (eaL l j ++ eaC l (eaL l j) j u :: Z) j l.length j (rowI l j j) j u) T := by
  intro d
  induction d with
  | zero =>
    intro u hu
    obtain rfl : u = j := by omega
    refine zam (fun k => by simp only [zcs]; rfl) (zas (by omega) ?_)
    rw [w64n u (by omega)]
    exact hc
  | succ d ih =>
    intro u hu
    have next := ih (u + 1) (by omega)
    have hlen : (eaL l j ++ eaC l (eaL l j) j u :: Z).length = j + 1 + Z.length := by rw [List.length_append, zg0, List.length_cons]; omega
    refine zam (fun k => by simp only [zcs]; rfl) (zae (by omega) (zae (by omega) (zae (by rw [zmu]; omega) ?_)))
    rw [zpr l j j u (by omega), w64n u (by omega)]
    unfold eaC at next
    by_cases hd : dly l u j ≥ 0
    · rw [if_pos hd] at next
      refine zae hd (zae (by omega) (zae (by rw [hlen]; omega) (zae (by rw [hlen]; omega) ?_)))
      have b1 := zxb l j u
      have b2 := znq l u j
      rw [zor _ _ _ j (zg0 l j), zy2 _ _ u (by rw [zg0]; omega), w64 (by omega) (by omega), zyy, zij _ _ _ _ j (zg0 l j)]
      exact next
    · rw [if_neg hd] at next
      exact zas hd next
theorem zr9 : Ev (fun k => zfn k l) (eaL l l.length) := by
  have key : ∀ (d j : Nat), j + d = l.length → Ev (fun k => zcx k (tabI l l.length) (eaL l j ++ List.replicate d 0) l.length j) (eaL l l.length) := by
    intro d
    induction d with
    | zero =>
      intro j hj
      obtain rfl : j = l.length := by omega
      rw [List.replicate_zero, List.append_nil]
      refine zam (f := fun _ => some (eaL l l.length)) (fun k => ?_) (Ev.now _)
      simp only [zcx]
      rw [if_neg (by omega)]
    | succ d ih =>
      intro j hj
      have next := ih (j + 1) (by omega)
      rw [eaL, List.append_assoc, List.singleton_append] at next
      refine zam (fun k => by simp only [zcx]; rfl) (zae (by omega) (zae (by omega) (zae (by rw [zmv]; omega) ?_)))
      rw [zm8 l l.length j (by omega), List.replicate_succ, zmu]
      exact zx6 l hl j (by omega) _ _ next j 0 (by omega)
  unfold zfn
  refine Ev.bind (zot l (by omega)) (zae (by omega) (zae (by rw [Int.toNat_natCast]; omega) ?_))
  rw [Int.toNat_natCast]
  have := key l.length 0 (by omega)
  rw [eaL, List.nil_append] at this
  exact this
theorem zx7 (j : Nat) (hj : j < l.length) (Z T : List Int) (hc : Ev (fun k => zch k (tabS l l.length) (eaL l j ++ eaC l (eaL l j) j j :: Z) l.length ((j + 1 : Nat) : Int)) T) :
    ∀ (d u : Nat), u + d = j → Ev (fun k => zci k (tabS l l.length) (eaL l j ++ eaC l (eaL l j) j u :: Z) j u l.length j) T := by
  intro d
  induction d with
  | zero =>
    intro u hu
    obtain rfl : u = j := by omega
    refine zam (fun k => by simp only [zci]; rfl) (zas (by omega) ?_)
    rw [w64n u (by omega)]
    exact hc
  | succ d ih =>
    intro u hu
    have next := ih (u + 1) (by omega)
    have hlen : (eaL l j ++ eaC l (eaL l j) j u :: Z).length = j + 1 + Z.length := by rw [List.length_append, zg0, List.length_cons]; omega
    refine zam (fun k => by simp only [zci]; rfl) (zae (by omega) (zae (by omega) (zae (by rw [zqb]; omega) ?_)))
    rw [ztx l l.length u (by omega)]
    refine zae (by omega) (zae (by rw [zo3]; omega) ?_)
    rw [zty l u l.length j (by omega), w64n u (by omega), show dlyS l u j = dly l u j from by unfold dlyS; rw [if_pos (by omega)]]
    unfold eaC at next
    by_cases hd : dly l u j ≥ 0
    · rw [if_pos hd] at next
      refine zae hd (zae (by rw [hlen]; omega) (zae (by rw [hlen]; omega) ?_))
      have b1 := zxb l j u
      have b2 := znq l u j
      rw [zor _ _ _ j (zg0 l j), zy2 _ _ u (by rw [zg0]; omega), w64 (by omega) (by omega)]
      refine Ev.call (zqw _ _) ?_
      rw [zij _ _ _ _ j (zg0 l j)]
      exact next
    · rw [if_neg hd] at next
      exact zas hd next
theorem zqc (ok : ∀ x ∈ l, okI x) : Ev (fun k => zet k l) (eaL l l.length) := by
  have key : ∀ (d j : Nat), j + d = l.length → Ev (fun k => zch k (tabS l l.length) (eaL l j ++ List.replicate d 0) l.length j) (eaL l l.length) := by
    intro d
    induction d with
    | zero =>
      intro j hj
      obtain rfl : j = l.length := by omega
      rw [List.replicate_zero, List.append_nil]
      refine zam (f := fun _ => some (eaL l l.length)) (fun k => ?_) (Ev.now _)
      simp only [zch]
      rw [if_neg (by omega)]
    | succ d ih =>
      intro j hj
      have next := ih (j + 1) (by omega)
      rw [eaL, List.append_assoc, List.singleton_append] at next
      refine zam (fun k => by simp only [zch]; rfl) (zae (by omega) ?_)
      rw [List.replicate_succ]
      exact zx7 l hl j (by omega) _ _ next j 0 (by omega)
  unfold zet
  refine Ev.bind (zn3 l (by omega) ok) (zae (by omega) (zae (by rw [Int.toNat_natCast]; omega) ?_))
  rw [Int.toNat_natCast]
  have := key l.length 0 (by omega)
  rw [eaL, List.nil_append] at this
  exact this
end
def laC (l : List Instr) (a : Int) (i : Nat) (S : List Int) : Nat → Int
  | 0 => a - zhx (cls (l.getD i zI).f0)
  | u + 1 => if dly l i (i + 1 + u) ≥ 0 then min (laC l a i S u) (S.getD u 0 - dly l i (i + 1 + u)) else laC l a i S u
def laL (l : List Instr) (a : Int) (n : Nat) : Nat → List Int
  | 0 => []
  | d + 1 => laC l a (n - 1 - d) (laL l a n d) d :: laL l a n d
theorem zhm (l : List Instr) (a : Int) (n : Nat) : ∀ d, (laL l a n d).length = d
  | 0 => rfl
  | d + 1 => by rw [laL, List.length_cons, zhm l a n d]
theorem ybh (l : List Instr) (a : Int) (i : Nat) (S : List Int) (B : Int) (hB : 4 ≤ B) (n : Nat) (hS : ∀ u, u < n → a - B ≤ S.getD u 0 ∧ S.getD u 0 ≤ a) : ∀ u, u ≤ n → a - (B + 4) ≤ laC l a i S u ∧ laC l a i S u ≤ a
  | 0, _ => by have := zn1 (cls (l.getD i zI).f0); unfold laC; omega
  | u + 1, h => by
    have ih := ybh l a i S B hB n hS u (by omega)
    have hd := znq l i (i + 1 + u)
    have hp := hS u (by omega)
    unfold laC
    split <;> omega
theorem zsa (l : List Instr) (a : Int) (n : Nat) : ∀ d u : Nat, u < d → a - 4 * ((d : Int) + 1) ≤ (laL l a n d).getD u 0 ∧ (laL l a n d).getD u 0 ≤ a
  | 0, u, h => absurd h (by omega)
  | d + 1, u, h => by
    have ih := zsa l a n d
    have hc := ybh l a (n - 1 - d) (laL l a n d) (4 * ((d : Int) + 1)) (by omega) d ih d (Nat.le_refl _)
    unfold laL
    cases u with
    | zero => show a - _ ≤ laC l a (n - 1 - d) (laL l a n d) d ∧ laC l a (n - 1 - d) (laL l a n d) d ≤ a; omega
    | succ u => show a - _ ≤ (laL l a n d).getD u 0 ∧ (laL l a n d).getD u 0 ≤ a; have := ih u (by omega); omega
theorem zsb (Z S : List Int) (v : Int) (i u : Nat) (hZ : Z.length = i) : rd (Z ++ v :: S) ((i + 1 + u : Nat) : Int) = S.getD u 0 := by
  unfold rd
  rw [Int.toNat_natCast, zln, if_neg (by omega), show i + 1 + u - Z.length = u + 1 by omega]
  rfl
theorem zxc {α : Type} (A B : List α) (x y : α) (i : Nat) (h : A.length = i) : (A ++ x :: B).set i y = A ++ y :: B := by
  have := zij A B x y i h
  rwa [Int.toNat_natCast] at this
theorem yar (l : List Instr) (hl : l.length ≤ 20) (a : Int) (ha : -100 ≤ a ∧ a ≤ 100) (i : Nat) (Z : List Int) (hZ : Z.length = i) (e : Nat) (he : i + 1 + e = l.length) :
    ∀ (d u : Nat), u + d = e → zfl (tabI l l.length) i d (i + 1 + u) (Z ++ laC l a i (laL l a l.length e) u :: laL l a l.length e) = Z ++ laC l a i (laL l a l.length e) e :: laL l a l.length e := by
  intro d
  induction d with
  | zero =>
    intro u hu
    obtain rfl : u = e := by omega
    rfl
  | succ d ih =>
    intro u hu
    have next := ih (u + 1) (by omega)
    unfold zfl
    rw [zm8 l l.length (i + 1 + u) (by omega), zpr l (i + 1 + u) (i + 1 + u) i (by omega), zor _ _ _ i hZ, zsb _ _ _ i u hZ, show i + 1 + u + 1 = i + 1 + (u + 1) by omega]
    rw [← next]
    congr 1
    by_cases h : dly l i (i + 1 + u) ≥ 0
    · rw [if_pos h]
      have b1 := zsa l a l.length e u (by omega)
      have b2 := znq l i (i + 1 + u)
      rw [w64 (by omega) (by omega), show ∀ x y : Int, mn x y = min x y from fun x y => by unfold mn; omega, zxc _ _ _ _ i hZ]
      rw [show laC l a i (laL l a l.length e) (u + 1) = min (laC l a i (laL l a l.length e) u) ((laL l a l.length e).getD u 0 - dly l i (i + 1 + u)) from if_pos h]
    · rw [if_neg h]
      rw [show laC l a i (laL l a l.length e) (u + 1) = laC l a i (laL l a l.length e) u from if_neg h]
theorem zy3 (l : List Instr) (hl : l.length ≤ 20) (a : Int) (ha : -100 ≤ a ∧ a ≤ 100) (cs : List Int) (hcs : ∀ i, i < l.length → rd cs (i : Nat) = zhx (cls (l.getD i zI).f0)) :
    ∀ d, d ≤ l.length → ((List.range d).map fun j => l.length - 1 - j).foldl (zcb (tabI l l.length) cs a l.length) (List.replicate l.length 0) = List.replicate (l.length - d) 0 ++ laL l a l.length d := by
  intro d
  induction d with
  | zero =>
    intro _
    rw [laL, List.append_nil]
    rfl
  | succ d ih =>
    intro hd
    rw [List.range_succ, List.map_append, List.foldl_append, ih (by omega), List.map_singleton]
    show zcb _ _ _ _ _ (l.length - 1 - d) = _
    generalize hi : l.length - 1 - d = i
    have hc := zn1 (cls (l.getD i zI).f0)
    have key := yar l hl a ha i (List.replicate i 0) (List.length_replicate) d (by omega) d 0 (by omega)
    unfold zcb
    rw [show l.length - 1 - i = d by omega, show l.length - d = i + 1 by omega, List.replicate_succ', List.append_assoc, List.singleton_append, zxc _ _ _ _ i List.length_replicate, hcs i (by omega), w64 (by omega) (by omega), show l.length - (d + 1) = i by omega]
    rw [laL, hi]
    exact key
theorem zxd : ∀ l : List Instr, zfx l = some (l.map fun x => zhx (cls x.f0))
  | [] => rfl
  | x :: xs => by
    unfold zfx
    rw [ztw, zxd xs]
    rfl
theorem ycj (l : List Instr) (hl : l.length ≤ 20) : zhr (tabI l l.length) l.length = true := by
  unfold zhr
  rw [Bool.and_eq_true, decide_eq_true_eq, List.all_eq_true]
  refine ⟨⟨zmv l l.length, by omega⟩, fun j hj => ?_⟩
  rw [decide_eq_true_eq, zm8 l l.length j (List.mem_range.1 hj), zmu]
  exact Nat.le_refl _
theorem zsc (l : List Instr) (hl : l.length ≤ 20) (a : Int) (ha : -100 ≤ a ∧ a ≤ 100) : Ev (fun k => zfm k l a) (laL l a l.length l.length) := by
  unfold zfm
  refine Ev.bind (zot l (by omega)) (Ev.call (zxd l) (zae (ycj l hl) (Ev.some ?_)))
  have := zy3 l hl a ha (l.map fun x => zhx (cls x.f0)) (fun i hi => zn0 (fun d => by simp [List.getD, hi])) l.length (Nat.le_refl _)
  rw [Nat.sub_self] at this
  exact this
theorem yas (a b : Int) : zg1 a b = some (min a b) := by
  unfold zg1
  by_cases q : a < b
  · rw [if_pos q]; congr 1; omega
  · rw [if_neg q]; congr 1; omega
section
variable (l : List Instr) (hl : l.length ≤ 20) (ok : ∀ x ∈ l, okI x) (a : Int) (ha : -100 ≤ a ∧ a ≤ 100)
include hl ha
theorem zx8 (i : Nat) (Z : List Int) (hZ : Z.length = i) (e : Nat) (he : i + 1 + e = l.length) (T : List Int × Bool)
    (hc : Ev (fun k => if 0 ≤ (i : Int) then (if (i : Int) < ((Z ++ laC l a i (laL l a l.length e) e :: laL l a l.length e).length : Int) then (if rd (Z ++ laC l a i (laL l a l.length e) e :: laL l a l.length e) (i : Int) < 0 then (some (([] : List Int), false)) else (zc1 k l a (tabS l l.length) (Z ++ laC l a i (laL l a l.length e) e :: laL l a l.length e) (wrap64 ((i : Int) - 1)))) else none) else none) T) :
    ∀ (d u : Nat), u + d = e → Ev (fun k => zc2 k l a (tabS l l.length) (Z ++ laC l a i (laL l a l.length e) u :: laL l a l.length e) i ((i + 1 + u : Nat) : Int)) T := by
  intro d
  induction d with
  | zero =>
    intro u hu
    obtain rfl : u = e := by omega
    exact zam (fun k => by simp only [zc2]; rfl) (zas (by omega) hc)
  | succ d ih =>
    intro u hu
    have next := ih (u + 1) (by omega)
    have hlen : (Z ++ laC l a i (laL l a l.length e) u :: laL l a l.length e).length = l.length := by rw [List.length_append, List.length_cons, zhm]; omega
    refine zam (fun k => by simp only [zc2]; rfl) (zae (by omega) (zae (by omega) (zae (by rw [zqb]; omega) (zae (by omega) ?_))))
    rw [ztx l l.length i (by omega)]
    refine zae (by rw [zo3]; omega) ?_
    rw [zty l i l.length (i + 1 + u) (by omega), show dlyS l i (i + 1 + u) = dly l i (i + 1 + u) from if_pos (by omega), w64n (i + 1 + u) (by omega), show i + 1 + u + 1 = i + 1 + (u + 1) by omega]
    by_cases h : dly l i (i + 1 + u) ≥ 0
    · rw [show laC l a i (laL l a l.length e) (u + 1) = min (laC l a i (laL l a l.length e) u) ((laL l a l.length e).getD u 0 - dly l i (i + 1 + u)) from if_pos h] at next
      have b1 := zsa l a l.length e u (by omega)
      have b2 := znq l i (i + 1 + u)
      refine zae h (zae (by omega) (zae (by omega) ?_))
      rw [zor _ _ _ i hZ, zsb _ _ _ i u hZ, w64 (by omega) (by omega)]
      refine Ev.call (yas _ _) ?_
      rw [zij _ _ _ _ i hZ]
      exact next
    · rw [show laC l a i (laL l a l.length e) (u + 1) = laC l a i (laL l a l.length e) u from if_neg h] at next
      exact zas h next
end
def ngL (xs : List Int) : List Int := xs.map fun x => -x
theorem zn4 (xs : List Int) : (ngL xs).length = xs.length := by simp [ngL]
theorem zxe (xs : List Int) (u : Nat) : (ngL xs).getD u 0 = -(xs.getD u 0) := by
  unfold ngL
  rw [List.getD_eq_getElem?_getD, List.getD_eq_getElem?_getD, List.getElem?_map]
  cases xs[u]? <;> rfl
def hts (l : List Instr) (d : Nat) : List Int := ngL (laL l 0 l.length d)
theorem zxf (l : List Instr) (hl : l.length ≤ 20) : Ev (fun k => zf8 k l) (hts l l.length) := by
  have hb := zsa l 0 l.length l.length
  have hn := zhm l 0 l.length l.length
  unfold zf8
  refine Ev.bind (zsc l hl 0 (by omega)) ?_
  unfold hts
  generalize laL l 0 l.length l.length = X at hb hn ⊢
  have key : ∀ (d i : Nat), i + d = X.length → Ev (fun k => zdw k (ngL (X.take i) ++ X.drop i) X.length i) (ngL X) := by
    intro d
    induction d with
    | zero =>
      intro i hi
      obtain rfl : i = X.length := by omega
      rw [List.take_length, List.drop_length, List.append_nil]
      refine zam (f := fun _ => some (ngL X)) (fun k => ?_) (Ev.now _)
      simp only [zdw]
      rw [if_neg (by omega)]
    | succ d ih =>
      intro i hi
      have next := ih (i + 1) (by omega)
      have hlt : i < X.length := by omega
      have hbi := hb i (by omega)
      rw [zgl X i hlt] at hbi
      have ht : (ngL (X.take i)).length = i := by rw [zn4, List.length_take]; omega
      rw [List.take_succ_eq_append_getElem hlt, show ngL (X.take i ++ [X[i]]) = ngL (X.take i) ++ [-X[i]] from List.map_append, List.append_assoc, List.singleton_append] at next
      rw [List.drop_eq_getElem_cons hlt]
      refine zam (fun k => by simp only [zdw]; rfl) (zae (by omega) (zae (by omega) ?_))
      refine zae (by rw [List.length_append, List.length_cons, List.length_drop, ht]; omega) ?_
      rw [zor _ _ _ i ht, w64 (by omega) (by omega), zij _ _ _ _ i ht, w64n i (by omega)]
      exact next
  have := key X.length 0 (by omega)
  simpa [ngL] using this
theorem zy4 (l : List Instr) (hl : l.length ≤ 20) (i : Nat) (Z : List Int) (hZ : Z.length = i) (e : Nat) (he : i + 1 + e = l.length) (T : List Int)
    (hc : Ev (fun k => zcp k l (tabS l l.length) (Z ++ -(laC l 0 i (laL l 0 l.length e) e) :: hts l e) (wrap64 ((i : Int) - 1))) T) :
    ∀ (d u : Nat), u + d = e → Ev (fun k => zcq k l (tabS l l.length) (Z ++ -(laC l 0 i (laL l 0 l.length e) u) :: hts l e) i ((i + 1 + u : Nat) : Int)) T := by
  intro d
  induction d with
  | zero =>
    intro u hu
    obtain rfl : u = e := by omega
    exact zam (fun k => by simp only [zcq]; rfl) (zas (by omega) hc)
  | succ d ih =>
    intro u hu
    have next := ih (u + 1) (by omega)
    have hh : (hts l e).length = e := by unfold hts; rw [zn4, zhm]
    have hlen : (Z ++ -(laC l 0 i (laL l 0 l.length e) u) :: hts l e).length = l.length := by rw [List.length_append, List.length_cons, hh]; omega
    refine zam (fun k => by simp only [zcq]; rfl) (zae (by omega) (zae (by omega) (zae (by rw [zqb]; omega) (zae (by omega) ?_))))
    rw [ztx l l.length i (by omega)]
    refine zae (by rw [zo3]; omega) ?_
    rw [zty l i l.length (i + 1 + u) (by omega), show dlyS l i (i + 1 + u) = dly l i (i + 1 + u) from if_pos (by omega), w64n (i + 1 + u) (by omega), show i + 1 + u + 1 = i + 1 + (u + 1) by omega]
    by_cases h : dly l i (i + 1 + u) ≥ 0
    · rw [show laC l 0 i (laL l 0 l.length e) (u + 1) = min (laC l 0 i (laL l 0 l.length e) u) ((laL l 0 l.length e).getD u 0 - dly l i (i + 1 + u)) from if_pos h] at next
      have b1 := zsa l 0 l.length e u (by omega)
      have b2 := znq l i (i + 1 + u)
      refine zae h (zae (by omega) (zae (by omega) ?_))
      rw [zor _ _ _ i hZ, zsb _ _ _ i u hZ, show (hts l e).getD u 0 = -((laL l 0 l.length e).getD u 0) from zxe _ _, w64 (by omega) (by omega)]
      refine Ev.call (zqw _ _) ?_
      rw [zij _ _ _ _ i hZ, show max (-(laC l 0 i (laL l 0 l.length e) u)) (dly l i (i + 1 + u) + -((laL l 0 l.length e).getD u 0)) = -(min (laC l 0 i (laL l 0 l.length e) u) ((laL l 0 l.length e).getD u 0 - dly l i (i + 1 + u))) by omega]
      exact next
    · rw [show laC l 0 i (laL l 0 l.length e) (u + 1) = laC l 0 i (laL l 0 l.length e) u from if_neg h] at next
      exact zas h next
theorem zxg (l : List Instr) (hl : l.length ≤ 20) (ok : ∀ x ∈ l, okI x) : Ev (fun k => zfa k l) (hts l l.length) := by
  unfold zfa
  refine Ev.bind (zn3 l (by omega) ok) ?_
  refine zae (by omega) (zae (by omega) ?_)
  rw [Int.toNat_natCast, w64 (by omega) (by omega)]
  have key : ∀ (m d : Nat), d + m = l.length → Ev (fun k => zcp k l (tabS l l.length) (List.replicate m 0 ++ hts l d) ((m : Int) - 1)) (hts l l.length) := by
    intro m
    induction m with
    | zero =>
      intro d hd
      obtain rfl : d = l.length := by omega
      exact zam (fun k => by simp only [zcp]; rfl) (zas (by omega) (Ev.some rfl))
    | succ m ih =>
      intro d hd
      have hok := ok (l.getD m zI) (by rw [zgl l m (by omega)]; exact List.getElem_mem _)
      have hlenR : (List.replicate m (0 : Int)).length = m := List.length_replicate
      have hh : (hts l d).length = d := by unfold hts; rw [zn4, zhm]
      refine zam (fun k => by simp only [zcp]; rfl) (zae (by omega) ?_)
      rw [show ((m + 1 : Nat) : Int) - 1 = (m : Int) by omega]
      refine zae (by omega) (zae (by omega) ?_)
      rw [zpe (x := l.getD m zI) (fun d' => by rw [zgl l m (by omega) d', zgl l m (by omega) zI])]
      refine Ev.call (zos _ hok.1) (zae (by rw [List.length_append, List.length_replicate, hh]; omega) ?_)
      rw [List.replicate_succ', List.append_assoc, List.singleton_append, zij _ _ _ _ m hlenR, w64n m (by omega)]
      have hlast : hts l (d + 1) = -(laC l 0 m (laL l 0 l.length d) d) :: hts l d := by
        have : hts l (d + 1) = -(laC l 0 (l.length - 1 - d) (laL l 0 l.length d) d) :: hts l d := rfl
        rw [this, show l.length - 1 - d = m by omega]
      have row := zy4 l hl m (List.replicate m 0) hlenR d (by omega) (hts l l.length) (by rw [← hlast, w64 (by omega) (by omega)]; exact ih (d + 1) (by omega)) d 0 (by omega)
      rw [show -(laC l 0 m (laL l 0 l.length d) 0) = zhx (cls (l.getD m zI).f0) by show -((0 : Int) - _) = _; omega] at row
      exact row
  have := key l.length 0 (by omega)
  rw [show hts l 0 = [] from rfl, List.append_nil] at this
  exact this
end Go.Proofs.YtabnafbgcpchdaaGreat.PL
end
section
namespace Go.Proofs.YtabnafbgcpchdaaGreat.PL
open Go Go.RowKit Go.Proofs.YtabnafbgcpchdaaGreatW.PrintWords Go.Proofs.YtabnafbgcpchdaaGreatW.PrintLast Go.Proofs.YtabnafbgcpchdaaGreatW.PrintMore Go.Proofs.YtabnafbgcpchdaaGreat.Q
set_option linter.unusedSimpArgs false
set_option linter.unusedVariables false
set_option linter.unusedSectionVars false
theorem rdN (O : List Int) (i : Nat) : rd O (i : Int) = O.getD i 0 := by unfold rd; rw [Int.toNat_natCast]
def dOk (l : List Instr) (O : List Int) (j : Nat) (c : Int) (i : Nat) : Bool := decide (dly l i j ≥ 0 → 0 ≤ O.getD i 0 ∧ O.getD i 0 + dly l i j ≤ c)
def rdy (l : List Instr) (O : List Int) (j : Nat) (c : Int) : Bool := decide (O.getD j 0 < 0) && (List.range j).all (dOk l O j c)
def bst (l : List Instr) (H O : List Int) (c : Int) : Nat → Int
  | 0 => -1
  | m + 1 => if rdy l O m c = true ∧ (bst l H O c m < 0 ∨ H.getD m 0 > rd H (bst l H O c m)) then (m : Int) else bst l H O c m
theorem zsd (l : List Instr) (H O : List Int) (c : Int) : ∀ m, -1 ≤ bst l H O c m ∧ bst l H O c m < m
  | 0 => by unfold bst; omega
  | m + 1 => by have := zsd l H O c m; unfold bst; split <;> omega
def one (l : List Instr) (H : List Int) (c : Int) (O : List Int) : List Int := if bst l H O c l.length < 0 then O else O.set (bst l H O c l.length).toNat c
def many (l : List Instr) (H : List Int) (c : Int) : Nat → List Int → List Int
  | 0, O => O
  | r + 1, O => many l H c r (one l H c O)
theorem ztz (l : List Instr) (H : List Int) (c : Int) (O : List Int) : (one l H c O).length = O.length := by unfold one; split <;> simp
theorem zt0 (l : List Instr) (H : List Int) (c : Int) : ∀ r O, (many l H c r O).length = O.length
  | 0, _ => rfl
  | r + 1, O => by rw [many, zt0, ztz]
theorem zvc (l : List Instr) (H : List Int) (c : Int) (O : List Int) (h : bst l H O c l.length < 0) : ∀ r, many l H c r O = O
  | 0 => rfl
  | r + 1 => by rw [many, show one l H c O = O from if_pos h, zvc l H c O h r]
def lsGo (l : List Instr) (H : List Int) (a : Nat) : Nat → Int → List Int → List Int
  | 0, _, O => O
  | f + 1, c, O => if (-1 : Int) ∈ O then lsGo l H a f (c + 1) (many l H c a O) else O
structure LsI (l : List Instr) (c : Int) (O : List Int) (m s : Nat) : Prop where
  len : O.length = l.length
  lo : ∀ i, i < l.length → -1 ≤ O.getD i 0
  hi : ∀ i, i < l.length → O.getD i 0 + 4 ≤ c + s
  s3 : s ≤ 3
  cnt : O.countP (fun x => decide (x = -1)) ≤ m
theorem zk3 (O : List Int) (j i : Nat) (c : Int) (h : j < O.length) : (O.set j c).getD i 0 = if i = j then c else O.getD i 0 := by
  rw [List.getD_eq_getElem?_getD, List.getD_eq_getElem?_getD, List.getElem?_set]
  by_cases e : j = i
  · rw [if_pos e, if_pos e.symm, if_pos h]
    rfl
  · rw [if_neg e, if_neg (Ne.symm e)]
theorem zy5 (O : List Int) (j : Nat) (c : Int) (h : j < O.length) (hj : O.getD j 0 = -1) (hc : c ≠ -1) : (O.set j c).countP (fun x => decide (x = -1)) + 1 = O.countP (fun x => decide (x = -1)) := by
  have e : O = O.take j ++ O[j] :: O.drop (j + 1) := by simp
  have hx : O[j] = -1 := by
    rw [List.getD_eq_getElem?_getD, List.getElem?_eq_getElem h] at hj
    exact hj
  have e2 : O.set j c = O.take j ++ c :: O.drop (j + 1) := by
    rw [List.set_eq_take_append_cons_drop, if_pos h]
  rw [e2]
  conv => rhs; rw [e]
  rw [List.countP_append, List.countP_append, List.countP_cons, List.countP_cons, hx]
  simp [hc]
  omega
theorem zt1 (l : List Instr) (H O : List Int) (c : Int) : ∀ m, 0 ≤ bst l H O c m → rdy l O (bst l H O c m).toNat c = true
  | 0, h => by unfold bst at h; omega
  | m + 1, h => by
    unfold bst at h ⊢
    by_cases q : rdy l O m c = true ∧ (bst l H O c m < 0 ∨ H.getD m 0 > rd H (bst l H O c m))
    · rw [if_pos q, Int.toNat_natCast]
      exact q.1
    · rw [if_neg q] at h ⊢
      exact zt1 l H O c m h
theorem zxh (l : List Instr) (H O : List Int) (c : Int) (j : Nat) (hj : rdy l O j c = true) : ∀ m, j < m → 0 ≤ bst l H O c m
  | m + 1, h => by
    by_cases e : j = m
    · subst e
      unfold bst
      by_cases q : bst l H O c j < 0
      · rw [if_pos ⟨hj, .inl q⟩]
        omega
      · split <;> omega
    · have := zxh l H O c j hj m (by omega)
      unfold bst
      split <;> omega
theorem LsI.one_ {l : List Instr} {c : Int} {O : List Int} {m s : Nat} (H : List Int) (hc : 0 ≤ c) (h : LsI l c O m s) (hb : 0 ≤ bst l H O c l.length) : ∃ m', m' + 1 = m ∧ (∀ i, i < l.length → -1 ≤ (one l H c O).getD i 0) ∧ (∀ i, i < l.length → (one l H c O).getD i 0 ≤ c) ∧ (one l H c O).countP (fun x => decide (x = -1)) ≤ m' := by
  have hbd := zsd l H O c l.length
  have hr := zt1 l H O c l.length hb
  generalize hj : (bst l H O c l.length).toNat = j at hr
  have hjn : j < l.length := by omega
  have e : one l H c O = O.set j c := by rw [← hj]; exact if_neg (by omega)
  unfold rdy at hr
  rw [Bool.and_eq_true, decide_eq_true_eq] at hr
  have h1 : O.getD j 0 = -1 := by have := h.lo j hjn; omega
  have hcs := zy5 O j c (by rw [h.len]; exact hjn) h1 (by omega)
  have hcm := h.cnt
  refine ⟨m - 1, by omega, fun i hi => ?_, fun i hi => ?_, by rw [e]; omega⟩
  · rw [e, zk3 _ _ _ _ (by rw [h.len]; exact hjn)]
    have := h.lo i hi
    split <;> omega
  · rw [e, zk3 _ _ _ _ (by rw [h.len]; exact hjn)]
    have := h.hi i hi
    have := h.s3
    split <;> omega
theorem zwj (l : List Instr) (H : List Int) (c : Int) (hc : 0 ≤ c) (m : Nat) : ∀ (r : Nat) (O : List Int), O.length = l.length → (∀ i, i < l.length → -1 ≤ O.getD i 0) → (∀ i, i < l.length → O.getD i 0 ≤ c) → O.countP (fun x => decide (x = -1)) ≤ m →
    (∀ i, i < l.length → -1 ≤ (many l H c r O).getD i 0) ∧ (∀ i, i < l.length → (many l H c r O).getD i 0 ≤ c) ∧ (many l H c r O).countP (fun x => decide (x = -1)) ≤ m
  | 0, O, _, h1, h2, h3 => ⟨h1, h2, h3⟩
  | r + 1, O, h0, h1, h2, h3 => by
    rw [many]
    by_cases hb : bst l H O c l.length < 0
    · rw [show one l H c O = O from if_pos hb]
      exact zwj l H c hc m r O h0 h1 h2 h3
    · have hbd := zsd l H O c l.length
      have hr := zt1 l H O c l.length (by omega)
      generalize hj : (bst l H O c l.length).toNat = j at hr
      have hjn : j < O.length := by omega
      have e : one l H c O = O.set j c := by rw [← hj]; exact if_neg hb
      unfold rdy at hr
      rw [Bool.and_eq_true, decide_eq_true_eq] at hr
      have h4 := h1 j (by omega)
      have hcs := zy5 O j c hjn (by omega) (by omega)
      refine zwj l H c hc m r _ (by rw [ztz]; exact h0) (fun i hi => ?_) (fun i hi => ?_) (by rw [e]; omega)
      · rw [e, zk3 _ _ _ _ hjn]
        have := h1 i hi
        split <;> omega
      · rw [e, zk3 _ _ _ _ hjn]
        have := h2 i hi
        split <;> omega
theorem zs8 (l : List Instr) (c : Int) (O : List Int) (hl : O.length = l.length) (lo : ∀ i, i < l.length → -1 ≤ O.getD i 0) (hi : ∀ i, i < l.length → O.getD i 0 + 4 ≤ c) : ∀ (d j : Nat), j + d = l.length → (∀ i, i < j → 0 ≤ O.getD i 0) → (-1 : Int) ∈ O → ∃ i, i < l.length ∧ rdy l O i c = true
  | 0, j, hj, hb, hm => by
    obtain ⟨i, hi', e⟩ := List.getElem_of_mem hm
    have := hb i (by omega)
    rw [List.getD_eq_getElem?_getD, List.getElem?_eq_getElem hi', Option.getD_some, e] at this
    omega
  | d + 1, j, hj, hb, hm => by
    by_cases q : 0 ≤ O.getD j 0
    · exact zs8 l c O hl lo hi d (j + 1) (by omega) (fun i h => by
        by_cases e : i = j
        · rw [e]; exact q
        · exact hb i (by omega)) hm
    · refine ⟨j, by omega, ?_⟩
      unfold rdy
      rw [Bool.and_eq_true, decide_eq_true_eq]
      refine ⟨by omega, List.all_eq_true.2 fun i hi' => decide_eq_true fun _ => ?_⟩
      have h1 := List.mem_range.1 hi'
      have := hb i h1
      have := hi i (by omega)
      have := znq l i j
      omega
theorem LsI.next {l : List Instr} {c : Int} {O : List Int} {m s : Nat} (H : List Int) (a : Nat) (ha : 1 ≤ a) (hc : 0 ≤ c) (h : LsI l c O m s) (hm : (-1 : Int) ∈ O) : ∃ m' s', LsI l (c + 1) (many l H c a O) m' s' ∧ 4 * m' + s' + 1 ≤ 4 * m + s := by
  by_cases hb : bst l H O c l.length < 0
  · rw [zvc l H c O hb]
    have hs : s ≠ 0 := fun e => by
      obtain ⟨i, hi, hr⟩ := zs8 l c O h.len h.lo (fun i hi => by have := h.hi i hi; omega) l.length 0 (by omega) (fun i hi => absurd hi (Nat.not_lt_zero _)) hm
      have := zxh l H O c i hr l.length hi
      omega
    exact ⟨m, s - 1, ⟨h.len, h.lo, fun i hi => by have := h.hi i hi; omega, by have := h.s3; omega, h.cnt⟩, by omega⟩
  · obtain ⟨m', hm', h1, h2, h3⟩ := h.one_ H hc (by omega)
    obtain ⟨b, rfl⟩ : ∃ b, a = b + 1 := ⟨a - 1, by omega⟩
    have hl := h.len
    obtain ⟨k1, k2, k3⟩ := zwj l H c hc m' b (one l H c O) (by rw [ztz, h.len]) h1 h2 h3
    exact ⟨m', 3, ⟨by rw [zt0, h.len], k1, fun i hi => by have := k2 i hi; show (many l H c b (one l H c O)).getD i 0 + 4 ≤ c + 1 + 3; omega, by omega, k3⟩, by have := h.s3; omega⟩
section
variable (l : List Instr) (hl : l.length ≤ 20) (H : List Int) (hH : H.length = l.length) (O : List Int) (hO : O.length = l.length) (lo : ∀ i, i < l.length → -1 ≤ O.getD i 0) (hi : ∀ i, i < l.length → O.getD i 0 ≤ 1000) (c : Int) (hc : 0 ≤ c ∧ c ≤ 1000)
include hl hO lo hi hc
theorem ydw (j : Nat) (hj : j < l.length) : Ev (fun k => zdq k (j : Int) c [tabI l l.length] [O]) (rdy l O j c) := by
  unfold zdq
  refine zae (by simp) (zae (by omega) ?_)
  rw [show zo7 [tabI l l.length] 0 = tabI l l.length from rfl]
  refine zae (by rw [zmv]; omega) ?_
  rw [zm8 l l.length j hj, zmu]
  have key : ∀ (d i : Nat), i + d = j → Ev (fun k => zbj k (j : Int) c [O] (rowI l j j) (j : Int) (i : Int)) (decide (O.getD j 0 < 0) && ((List.range j).drop i).all (dOk l O j c)) := by
    intro d
    induction d with
    | zero =>
      intro i hi
      obtain rfl : i = j := by omega
      rw [List.drop_of_length_le (by rw [List.length_range]; omega), List.all_nil, Bool.and_true]
      refine zam (fun k => by simp only [zbj]; rfl) (zas (by omega) (zae (by simp) (zae (by omega) ?_)))
      rw [show za1 [O] 0 = O from rfl]
      exact zae (by omega) (Ev.some (by rw [rdN]))
    | succ d ih =>
      intro i hid
      have hij : i < j := by omega
      have hdr : (List.range j).drop i = i :: (List.range j).drop (i + 1) := by
        rw [List.drop_eq_getElem_cons (by rw [List.length_range]; exact hij), List.getElem_range]
      have next := ih (i + 1) (by omega)
      have b1 := lo i (by omega)
      have b2 := hi i (by omega)
      have b3 := znq l i j
      rw [hdr, List.all_cons]
      refine zam (fun k => by simp only [zbj]; rfl) (zae (by omega) (zae (by omega) (zae (by rw [zmu]; omega) ?_)))
      rw [zpr l j j i hij, show za1 [O] 0 = O from rfl, rdN, w64n i (by omega)]
      by_cases q : dly l i j ≥ 0
      · refine zae q (zae (by simp) (zae (by omega) ?_))
        by_cases q1 : O.getD i 0 < 0
        · rw [show dOk l O j c i = false from decide_eq_false (fun h => by have := h q; omega), Bool.false_and, Bool.and_false]
          exact zae q1 (Ev.now _)
        · refine zas q1 ?_
          rw [w64 (by omega) (by omega)]
          by_cases q2 : O.getD i 0 + dly l i j > c
          · rw [show dOk l O j c i = false from decide_eq_false (fun h => by have := h q; omega), Bool.false_and, Bool.and_false]
            exact zae q2 (Ev.now _)
          · rw [show dOk l O j c i = true from decide_eq_true (fun _ => by omega), Bool.true_and]
            exact zas q2 next
      · rw [show dOk l O j c i = true from decide_eq_true (fun h => absurd h q), Bool.true_and]
        exact zas q next
  have := key j 0 (by omega)
  rw [List.drop_zero] at this
  exact this
include hH
theorem ydx (a r : Int) (X : List Int × Bool) (hX : Ev (fun k => zbu k l a H c a (wrap64 (r + 1)) (tabI l l.length) (one l H c O)) X) : ∀ (d j : Nat), j + d = l.length → Ev (fun k => zbi k l a H c (bst l H O c j) a r (l.length : Int) (j : Int) (tabI l l.length) O) X := by
  intro d
  induction d with
  | zero =>
    intro j hj
    obtain rfl : j = l.length := by omega
    have hb := zsd l H O c l.length
    refine zam (fun k => by simp only [zbi]; rfl) (zas (by omega) ?_)
    unfold one at hX
    by_cases q : bst l H O c l.length < 0
    · rw [if_pos q] at hX
      exact zas (by omega) hX
    · rw [if_neg q] at hX
      exact zae (by omega) (zae (by omega) (zae (by omega) hX))
  | succ d ih =>
    intro j hj
    have next := ih (j + 1) (by omega)
    have hb := zsd l H O c j
    unfold bst at next
    refine zam (fun k => by simp only [zbi]; rfl) (zae (by omega) (Ev.bind (ydw l hl O hO lo hi c hc j (by omega)) ?_))
    rw [w64n j (by omega), rdN]
    by_cases q : rdy l O j c = true
    · refine zae q ?_
      by_cases q1 : bst l H O c j < 0
      · rw [if_pos ⟨q, .inl q1⟩] at next
        exact zae q1 next
      · refine zas q1 (zae (by omega) (zae (by omega) (zae (by omega) (zae (by omega) ?_))))
        by_cases q2 : H.getD j 0 > rd H (bst l H O c j)
        · rw [if_pos ⟨q, .inr q2⟩] at next
          exact zae q2 next
        · rw [if_neg (fun h => h.2.elim q1 q2)] at next
          exact zas q2 next
    · rw [if_neg (fun h => q h.1)] at next
      exact zas q next
end
theorem ydy (l : List Instr) (H : List Int) (c : Int) (hc : 0 ≤ c ∧ c ≤ 1000) (O : List Int) (hO : O.length = l.length) (lo : ∀ i, i < l.length → -1 ≤ O.getD i 0) (hi : ∀ i, i < l.length → O.getD i 0 ≤ 1000) :
    (∀ i, i < l.length → -1 ≤ (one l H c O).getD i 0) ∧ ∀ i, i < l.length → (one l H c O).getD i 0 ≤ 1000 := by
  have hb := zsd l H O c l.length
  unfold one
  by_cases q : bst l H O c l.length < 0
  · rw [if_pos q]
    exact ⟨lo, hi⟩
  · rw [if_neg q]
    refine ⟨fun i h => ?_, fun i h => ?_⟩
    · rw [zk3 _ _ _ _ (by omega)]
      have := lo i h
      split <;> omega
    · rw [zk3 _ _ _ _ (by omega)]
      have := hi i h
      split <;> omega
theorem LsI.none {l : List Instr} {c : Int} {O : List Int} (h : LsI l c O 0 0) : ¬ (-1 : Int) ∈ O := fun hm => by
  have h1 := h.cnt
  have h2 : 0 < O.countP (fun x => decide (x = -1)) := List.countP_pos_iff.2 ⟨-1, hm, by simp⟩
  omega
section
variable (l : List Instr) (hl : l.length ≤ 20) (H : List Int) (hH : H.length = l.length) (a : Nat) (ha : 1 ≤ a ∧ a ≤ 3)
include hl hH ha
theorem ydz (c : Int) (hc : 0 ≤ c ∧ c ≤ 1000) (X : List Int × Bool) : ∀ (m r : Nat) (O : List Int), r + m = a → O.length = l.length → (∀ i, i < l.length → -1 ≤ O.getD i 0) → (∀ i, i < l.length → O.getD i 0 ≤ 1000) →
    Ev (fun k => zb2 k l a H (c + 1) (tabI l l.length) (many l H c m O)) X → Ev (fun k => zbu k l a H c a (r : Int) (tabI l l.length) O) X := by
  intro m
  induction m with
  | zero =>
    intro r O hr hO lo hi hX
    refine zam (fun k => by simp only [zbu]; rfl) (zas (by omega) ?_)
    rw [w64 (by omega) (by omega)]
    exact hX
  | succ m ih =>
    intro r O hr hO lo hi hX
    obtain ⟨k1, k2⟩ := ydy l H c hc O hO lo hi
    refine zam (fun k => by simp only [zbu]; rfl) (zae (by omega) ?_)
    have := ydx l hl H hH O hO lo hi c hc a r X (by rw [w64n r (by omega)]; exact ih (r + 1) _ (by omega) (by rw [ztz, hO]) k1 k2 hX) l.length 0 (by omega)
    exact this
theorem yd0 : ∀ (f : Nat) (c : Int) (O : List Int) (m s : Nat), LsI l c O m s → 4 * m + s ≤ f → 0 ≤ c → c + f ≤ 900 → Ev (fun k => zb2 k l a H c (tabI l l.length) O) (lsGo l H a f c O, true) := by
  intro f
  induction f with
  | zero =>
    intro c O m s h hf h0 hcf
    obtain rfl : m = 0 := by omega
    obtain rfl : s = 0 := by omega
    have hl' := h.len
    refine zam (fun k => by simp only [zb2]; rfl) (Ev.bind (zn2 O (-1) (by omega)) ?_)
    rw [decide_eq_false h.none]
    exact zas (by decide) (Ev.now _)
  | succ f ih =>
    intro c O m s h hf h0 hcf
    have hl' := h.len
    refine zam (fun k => by simp only [zb2]; rfl) (Ev.bind (zn2 O (-1) (by omega)) ?_)
    unfold lsGo
    by_cases hm : (-1 : Int) ∈ O
    · rw [decide_eq_true hm, if_pos hm]
      obtain ⟨m', s', hn, hlt⟩ := h.next H a ha.1 h0 hm
      refine zae rfl (ydz l hl H hH a ha c (by omega) _ a 0 O (by omega) h.len h.lo (fun i hi => by have := h.hi i hi; have := h.s3; omega) ?_)
      exact ih (c + 1) _ m' s' hn (by omega) (by omega) (by omega)
    · rw [decide_eq_false hm, if_neg hm]
      exact zas (by decide) (Ev.now _)
end
theorem zvd (l : List Instr) : LsI l 0 (List.replicate l.length (-1)) l.length 3 := by
  have e : ∀ i, i < l.length → (List.replicate l.length (-1 : Int)).getD i 0 = -1 := fun i hi => by
    rw [List.getD_eq_getElem?_getD, List.getElem?_replicate, if_pos hi]
    rfl
  refine ⟨List.length_replicate, fun i hi => by rw [e i hi]; omega, fun i hi => by rw [e i hi]; omega, Nat.le_refl _, ?_⟩
  have := List.countP_le_length (p := fun x => decide (x = (-1 : Int))) (l := List.replicate l.length (-1 : Int))
  rw [List.length_replicate] at this
  exact this
def lsL (l : List Instr) (a : Nat) : List Int := lsGo l (hts l l.length) a 83 0 (List.replicate l.length (-1))
theorem zxi (l : List Instr) (H : List Int) (a : Nat) : ∀ f c O, (lsGo l H a f c O).length = O.length
  | 0, _, _ => rfl
  | f + 1, c, O => by
    unfold lsGo
    split
    · rw [zxi, zt0]
    · rfl
theorem zwk (l : List Instr) (a : Nat) : (lsL l a).length = l.length := by
  unfold lsL
  rw [zxi, List.length_replicate]
theorem yck (l : List Instr) : (hts l l.length).length = l.length := by unfold hts; rw [zn4, zhm]
def wbC (l : List Instr) (E : List Int) (c : Int) : Nat → Int × Int
  | 0 => (0, 100)
  | i + 1 => if rd E i ≥ c then (wrap64 ((wbC l E c i).1 + 1), min (wbC l E c i).2 (zhx (cls (l.getD i zI).f0))) else wbC l E c i
def wbQ (w c : Int) (p : Int × Int) : Int := wrap64 ((wrap64 ((wrap64 (c + (wrap64 (Int.tdiv (wrap64 ((wrap64 (p.1 + w)) - 1)) w)))) + p.2)) - 1)
def wbM (l : List Instr) (E : List Int) (w : Int) : Nat → Int
  | 0 => 0
  | i + 1 => max (wbM l E w i) (wbQ w (rd E i) (wbC l E (rd E i) l.length))
theorem rdB (O : List Int) (i : Nat) : rd O (i : Int) = O.getD i 0 := by unfold rd; rw [Int.toNat_natCast]
def cnt (o : List Int) (c : Int) : Nat := o.countP fun x => decide (x = c)
def rng (o : List Int) (c : Int) (k : Nat) : Nat := o.countP fun x => decide (c ≤ x ∧ x < c + k)
theorem zt2 (c : Int) (k : Nat) : ∀ o : List Int, rng o c (k + 1) = rng o c k + cnt o (c + k)
  | [] => rfl
  | x :: o => by
    have ih := zt2 c k o
    unfold rng cnt at ih ⊢
    rw [List.countP_cons, List.countP_cons, List.countP_cons, ih]
    by_cases h1 : c ≤ x ∧ x < c + k
    · rw [show decide (c ≤ x ∧ x < c + ((k + 1 : Nat) : Int)) = true from decide_eq_true (by omega), show decide (c ≤ x ∧ x < c + (k : Int)) = true from decide_eq_true h1, show decide (x = c + (k : Int)) = false from decide_eq_false (by omega)]
      simp
      omega
    · by_cases h2 : x = c + k
      · rw [show decide (c ≤ x ∧ x < c + ((k + 1 : Nat) : Int)) = true from decide_eq_true (by omega), show decide (c ≤ x ∧ x < c + (k : Int)) = false from decide_eq_false h1, show decide (x = c + (k : Int)) = true from decide_eq_true h2]
        simp
        omega
      · rw [show decide (c ≤ x ∧ x < c + ((k + 1 : Nat) : Int)) = false from decide_eq_false (by omega), show decide (c ≤ x ∧ x < c + (k : Int)) = false from decide_eq_false h1, show decide (x = c + (k : Int)) = false from decide_eq_false h2]
        simp
theorem yat (c : Int) (o : List Int) : rng o c 0 = 0 := by
  unfold rng
  rw [List.countP_eq_zero]
  intro x _
  simp
theorem ybi (o : List Int) (c : Int) (w : Nat) (h : ∀ d, cnt o d ≤ w) : ∀ k, rng o c k ≤ w * k
  | 0 => by rw [yat]; omega
  | k + 1 => by have := ybi o c w h k; have := h (c + k); rw [zt2, Nat.mul_succ]; omega
theorem ybj (o : List Int) (c : Int) : ∀ k : Nat, (∀ t, t < k → 1 ≤ cnt o (c + (t : Nat))) → k ≤ rng o c k
  | 0, _ => Nat.zero_le _
  | k + 1, h => by have := ybj o c k (fun t ht => h t (by omega)); have := h k (by omega); rw [zt2]; omega
def srch {α : Type} (p : Int → Option α) : Nat → Int → Option α
  | 0, _ => none
  | m + 1, c => match p c with
    | some r => some r
    | none => srch p m (c + 1)
theorem zve {α : Type} (p : Int → Option α) (r : α) : ∀ (m : Nat) (c : Int), srch p m c = some r → ∃ t : Nat, t < m ∧ p (c + t) = some r
  | 0, c, h => by cases h
  | m + 1, c, h => by
    unfold srch at h
    cases hp : p c with
    | some r' =>
      rw [hp] at h
      exact ⟨0, by omega, by rw [show c + ((0 : Nat) : Int) = c by omega, hp]; exact h⟩
    | none =>
      rw [hp] at h
      obtain ⟨t, ht, e⟩ := zve p r m (c + 1) h
      exact ⟨t + 1, by omega, by rw [show c + ((t + 1 : Nat) : Int) = c + 1 + t by omega]; exact e⟩
theorem zqx {α : Type} (p : Int → Option α) : ∀ (m : Nat) (c : Int) (t : Nat), t < m → (p (c + t)).isSome = true → (srch p m c).isSome = true
  | m + 1, c, t, ht, h => by
    unfold srch
    cases hp : p c with
    | some r => rfl
    | none =>
      cases t with
      | zero =>
        rw [show c + ((0 : Nat) : Int) = c by omega, hp] at h
        cases h
      | succ t => exact zqx p m (c + 1) t (by omega) (by rw [show c + 1 + (t : Int) = c + ((t + 1 : Nat) : Int) by omega]; exact h)
def htAt (l : List Instr) (j : Nat) : Int := (hts l l.length).getD j 0
def fnd (l : List Instr) (w : Nat) (len : Int) : Nat → List Int → Option (List Int)
  | 0, o => some o
  | d + 1, o => srch (fun c => if cnt o c = w then none else fnd l w len d (o ++ [c])) (len - htAt l o.length + 1 - eaC l o o.length o.length).toNat (eaC l o o.length o.length)
theorem zqd (l : List Instr) (P Q : List Int) (j : Nat) : ∀ u, (∀ i, i < u → P.getD i 0 = Q.getD i 0) → eaC l P j u = eaC l Q j u
  | 0, _ => rfl
  | u + 1, h => by
    unfold eaC
    rw [zqd l P Q j u (fun i hi => h i (by omega)), h u (by omega)]
theorem zxj (l : List Instr) (P Q : List Int) (j : Nat) : ∀ u, (∀ i, i < u → P.getD i 0 ≤ Q.getD i 0) → eaC l P j u ≤ eaC l Q j u
  | 0, _ => Int.le_refl _
  | u + 1, h => by
    have h1 := zxj l P Q j u (fun i hi => h i (by omega))
    have h2 := h u (by omega)
    unfold eaC
    split <;> omega
theorem zxk (l : List Instr) (P : List Int) (j : Nat) : ∀ u, 0 ≤ eaC l P j u
  | 0 => Int.le_refl _
  | u + 1 => by
    have := zxk l P j u
    unfold eaC
    split <;> omega
structure Okp (l : List Instr) (w : Nat) (len : Int) (o : List Int) : Prop where
  at_ : ∀ j, j < o.length → eaC l o j j ≤ o.getD j 0 ∧ o.getD j 0 + htAt l j ≤ len
  wide : ∀ c, cnt o c ≤ w
theorem zqe (o : List Int) (c : Int) (i : Nat) (h : i < o.length) : (o ++ [c]).getD i 0 = o.getD i 0 := by rw [zln, if_pos h]
theorem zs9 (l : List Instr) (w : Nat) (len : Int) : ∀ (d : Nat) (o r : List Int), Okp l w len o → fnd l w len d o = some r → Okp l w len r ∧ r.length = o.length + d
  | 0, o, r, h, e => by
    unfold fnd at e
    cases e
    exact ⟨h, rfl⟩
  | d + 1, o, r, h, e => by
    unfold fnd at e
    obtain ⟨t, ht, e⟩ := zve _ _ _ _ e
    generalize hc : eaC l o o.length o.length + (t : Int) = c at e
    by_cases q : cnt o c = w
    · rw [if_pos q] at e
      cases e
    · rw [if_neg q] at e
      have ho : Okp l w len (o ++ [c]) := by
        refine ⟨fun j hj => ?_, fun c' => ?_⟩
        · rw [List.length_append, List.length_singleton] at hj
          have e1 : eaC l (o ++ [c]) j j = eaC l o j j := zqd l _ _ j j (fun i hi => zqe o c i (by omega))
          rw [e1]
          by_cases hj' : j < o.length
          · rw [zqe o c j hj']
            exact h.at_ j hj'
          · obtain rfl : j = o.length := by omega
            have : (o ++ [c]).getD o.length 0 = c := by rw [zln, if_neg (by omega), Nat.sub_self]; rfl
            rw [this]
            omega
        · unfold cnt at q ⊢
          have hw := h.wide c'
          unfold cnt at hw
          rw [List.countP_append, List.countP_cons, List.countP_nil]
          by_cases e2 : c = c'
          · subst e2
            rw [if_pos (decide_eq_true rfl)]
            omega
          · rw [if_neg (by simpa using e2)]
            omega
      obtain ⟨h1, h2⟩ := zs9 l w len d _ r ho e
      exact ⟨h1, by rw [h2, List.length_append, List.length_singleton]; omega⟩
theorem zsf (l : List Instr) (w : Nat) (len : Int) : Okp l w len [] := ⟨fun j h => absurd h (Nat.not_lt_zero _), fun c => Nat.zero_le _⟩
theorem zvf (l : List Instr) (a : Int) (i : Nat) (S : List Int) : ∀ u, u ≤ S.length → laC l a i (S.map fun x => a + x) u = a + laC l 0 i S u
  | 0, _ => by unfold laC; omega
  | u + 1, h => by
    have ih := zvf l a i S u (by omega)
    unfold laC
    have e : (S.map fun x => a + x).getD u 0 = a + S.getD u 0 := by
      rw [List.getD_eq_getElem?_getD, List.getD_eq_getElem?_getD, List.getElem?_map, List.getElem?_eq_getElem (by omega)]
      rfl
    rw [ih, e]
    split <;> omega
theorem zvg (l : List Instr) (a : Int) (n : Nat) : ∀ d, laL l a n d = (laL l 0 n d).map fun x => a + x
  | 0 => rfl
  | d + 1 => by
    unfold laL
    rw [zvg l a n d, zvf l a _ _ d (by rw [zhm]; exact Nat.le_refl _)]
    rfl
theorem zt3 (l : List Instr) (a : Int) (n : Nat) : ∀ d u : Nat, u < d → (laL l a n d).getD u 0 = laC l a (n - d + u) (laL l a n (d - 1 - u)) (d - 1 - u) ∨ n < d
  | 0, u, h => absurd h (Nat.not_lt_zero _)
  | d + 1, u, h => by
    by_cases hn : n < d + 1
    · exact .inr hn
    · refine .inl ?_
      rw [show laL l a n (d + 1) = laC l a (n - 1 - d) (laL l a n d) d :: laL l a n d from rfl]
      cases u with
      | zero =>
        show laC l a (n - 1 - d) (laL l a n d) d = _
        rw [show n - (d + 1) + 0 = n - 1 - d by omega, show d + 1 - 1 - 0 = d by omega]
      | succ u =>
        show (laL l a n d).getD u 0 = _
        rcases zt3 l a n d u (by omega) with e | e
        · rw [e, show n - (d + 1) + (u + 1) = n - d + u by omega, show d + 1 - 1 - (u + 1) = d - 1 - u by omega]
        · omega
theorem zxl (l : List Instr) (a : Int) (i : Nat) (S : List Int) : ∀ u, laC l a i S u ≤ a - zhx (cls (l.getD i zI).f0)
  | 0 => by unfold laC; omega
  | u + 1 => by
    have := zxl l a i S u
    unfold laC
    split <;> omega
theorem zsg (l : List Instr) (j : Nat) : htAt l j = -((laL l 0 l.length l.length).getD j 0) := by unfold htAt hts; rw [zxe]
theorem znr (l : List Instr) (a : Int) (j : Nat) (h : j < l.length) : (laL l a l.length l.length).getD j 0 = a - htAt l j := by
  rw [zsg, zvg, List.getD_eq_getElem?_getD, List.getD_eq_getElem?_getD, List.getElem?_map, List.getElem?_eq_getElem (by rw [zhm]; exact h)]
  show a + _ = a - -_
  simp only [Option.getD_some]
  omega
theorem zvh (l : List Instr) (j : Nat) (h : j < l.length) : zhx (cls (l.getD j zI).f0) ≤ htAt l j := by
  rw [zsg]
  rcases zt3 l 0 l.length l.length j h with e | e
  · rw [e]
    have := zxl l 0 (l.length - l.length + j) (laL l 0 l.length (l.length - 1 - j)) (l.length - 1 - j)
    rw [show l.length - l.length + j = j by omega] at this ⊢
    omega
  · omega
theorem zsh (l : List Instr) (j : Nat) (h : j < l.length) : 0 ≤ htAt l j ∧ htAt l j ≤ 4 * ((l.length : Int) + 1) := by
  have := zsa l 0 l.length l.length j h
  rw [zsg]
  omega
section
variable {l : List Instr} {w : Nat} {len : Int} {r : List Int} (hr : Okp l w len r) (hn : r.length = l.length)
include hr hn
theorem ybk (j : Nat) (h : j < l.length) : 0 ≤ r.getD j 0 := by have := hr.at_ j (by omega); have := zxk l r j j; omega
theorem zxm (h0 : 0 ≤ len) : (hts l l.length).foldl max 0 ≤ len := by
  have key : ∀ (xs : List Int) (m : Int), m ≤ len → (∀ x ∈ xs, x ≤ len) → xs.foldl max m ≤ len := by
    intro xs
    induction xs with
    | nil => intro m hm _; exact hm
    | cons x xs ih => intro m hm hx; exact ih _ (by have := hx x (by simp); omega) (fun y hy => hx y (by simp [hy]))
  refine key _ 0 h0 (fun x hx => ?_)
  obtain ⟨j, hj, e⟩ := List.getElem_of_mem hx
  have hl : (hts l l.length).length = l.length := by unfold hts; rw [zn4, zhm]
  have h1 := ybk hr hn j (by omega)
  have h2 := hr.at_ j (by omega)
  have e2 : htAt l j = x := by
    unfold htAt
    rw [List.getD_eq_getElem?_getD, List.getElem?_eq_getElem hj, e]
    rfl
  omega
theorem zy6 (u : Nat) : ∀ d j : Nat, u < j → (eaL l (j + d)).getD u 0 = (eaL l j).getD u 0
  | 0, _, _ => rfl
  | d + 1, j, h => by
    show (eaL l (j + d) ++ [_]).getD u 0 = _
    rw [zqe _ _ _ (by rw [zg0]; omega), zy6 u d j h]
theorem zy7 : ∀ j, j < l.length → (eaL l l.length).getD j 0 ≤ r.getD j 0 := by
  intro j
  induction j using Nat.strongRecOn with
  | _ j ih =>
    intro hj
    have e := zy6 hr hn j (l.length - (j + 1)) (j + 1) (by omega)
    rw [show j + 1 + (l.length - (j + 1)) = l.length by omega] at e
    have e1 : (eaL l (j + 1)).getD j 0 = eaC l (eaL l j) j j := by
      show (eaL l j ++ [_]).getD j 0 = _
      rw [zln, if_neg (by rw [zg0]; omega), zg0, Nat.sub_self]
      rfl
    rw [e, e1]
    refine Int.le_trans (zxj l _ r j j (fun i hi => ?_)) (hr.at_ j (by omega)).1
    have e2 := zy6 hr hn i (l.length - j) j hi
    rw [show j + (l.length - j) = l.length by omega] at e2
    rw [← e2]
    exact ih i hi (by omega)
theorem ybl (c : Int) (k : Nat) (hk : ∀ i, i < l.length → rd (eaL l l.length) (i : Int) ≥ c → r.getD i 0 < c + k) : ∀ m : Nat, m ≤ l.length → l.length ≤ 20 → (wbC l (eaL l l.length) c m).1 ≤ (rng (r.take m) c k : Int) ∧ (wbC l (eaL l l.length) c m).1 ≤ m ∧ 0 ≤ (wbC l (eaL l l.length) c m).1
  | 0, _, _ => by unfold wbC; omega
  | m + 1, hm, hl => by
    obtain ⟨ih1, ih2, ih3⟩ := ybl c k hk m (by omega) hl
    have hlt : m < r.length := by omega
    rw [List.take_succ_eq_append_getElem hlt]
    have e0 : r.getD m 0 = r[m] := by rw [List.getD_eq_getElem?_getD, List.getElem?_eq_getElem hlt]; rfl
    have es : rng (r.take m ++ [r[m]]) c k = rng (r.take m) c k + if decide (c ≤ r[m] ∧ r[m] < c + k) = true then 1 else 0 := by
      unfold rng
      rw [List.countP_append, List.countP_cons, List.countP_nil, Nat.zero_add]
    rw [es]
    unfold wbC
    by_cases q : rd (eaL l l.length) (m : Int) ≥ c
    · rw [if_pos q]
      have h1 := hk m (by omega) q
      have h2 := zy7 hr hn m (by omega)
      rw [rdB] at q
      rw [if_pos (decide_eq_true (by rw [← e0]; omega))]
      simp only
      rw [w64 (by omega) (by omega)]
      omega
    · rw [if_neg q]
      omega
theorem zy8 (c : Int) (hl : l.length ≤ 20) : ∀ m i : Nat, m ≤ l.length → i < m → rd (eaL l l.length) (i : Int) ≥ c → 1 ≤ (wbC l (eaL l l.length) c m).1 ∧ (wbC l (eaL l l.length) c m).1 ≤ 20
  | m + 1, i, hm, hi, h => by
    have hb : ∀ m : Nat, m ≤ 20 → 0 ≤ (wbC l (eaL l l.length) c m).1 ∧ (wbC l (eaL l l.length) c m).1 ≤ m := by
      intro m
      induction m with
      | zero => intro _; unfold wbC; omega
      | succ m ih =>
        intro hm
        have := ih (by omega)
        unfold wbC
        split
        · simp only
          rw [w64 (by omega) (by omega)]
          omega
        · omega
    have hbm := hb m (by omega)
    unfold wbC
    by_cases e : i = m
    · subst e
      rw [if_pos h]
      simp only
      rw [w64 (by omega) (by omega)]
      omega
    · have ih := zy8 c hl m i (by omega) (by omega) h
      split
      · simp only
        rw [w64 (by omega) (by omega)]
        omega
      · exact ih
theorem zvi (c : Int) : ∀ m i : Nat, i < m → rd (eaL l l.length) (i : Int) ≥ c → (wbC l (eaL l l.length) c m).2 ≤ zhx (cls (l.getD i zI).f0)
  | m + 1, i, hi, h => by
    unfold wbC
    by_cases e : i = m
    · subst e
      rw [if_pos h]
      simp only
      omega
    · have ih := zvi c m i (by omega) h
      split
      · simp only
        omega
      · exact ih
theorem ybm (c : Int) : ∀ m : Nat, 0 ≤ (wbC l (eaL l l.length) c m).2 ∧ (wbC l (eaL l l.length) c m).2 ≤ 100
  | 0 => by unfold wbC; omega
  | m + 1 => by
    have ih := ybm c m
    have := zn1 (cls (l.getD m zI).f0)
    unfold wbC
    split
    · simp only
      omega
    · exact ih
theorem zt4 (hw : 1 ≤ w ∧ w ≤ 3) (hl : l.length ≤ 20) (h0 : 0 ≤ len) : ∀ m, m ≤ l.length → wbM l (eaL l l.length) w m ≤ len
  | 0, _ => by unfold wbM; exact h0
  | m + 1, hm => by
    have ih := zt4 hw hl h0 m (by omega)
    unfold wbM
    generalize hc : rd (eaL l l.length) (m : Int) = c
    have hcb := zxb l l.length m
    rw [← rdB, hc] at hcb
    have hL := ybm hr hn c l.length
    have h1 := zy8 hr hn c hl l.length m (Nat.le_refl _) (by omega) (by omega)
    generalize hp : wbC l (eaL l l.length) c l.length = p at hL h1
    obtain ⟨N, L⟩ := p
    simp only at hL h1
    have late : ∃ i, i < l.length ∧ rd (eaL l l.length) (i : Int) ≥ c ∧ c + ((N + w - 1) / w - 1) ≤ r.getD i 0 := by
      refine Classical.byContradiction fun hno => ?_
      have hk : ∀ i, i < l.length → rd (eaL l l.length) (i : Int) ≥ c → r.getD i 0 < c + (((N + w - 1) / w - 1).toNat : Nat) := fun i hi he => by
        rcases Int.lt_or_le (r.getD i 0) (c + ((N + w - 1) / w - 1)) with h | h
        · have : (N + w - 1) / w - 1 ≤ (((N + w - 1) / w - 1).toNat : Nat) := Int.self_le_toNat _
          omega
        · exact absurd ⟨i, hi, he, h⟩ hno
      have hN := (ybl hr hn c _ hk l.length (Nat.le_refl _) hl).1
      have hR := ybi r c w hr.wide ((N + w - 1) / w - 1).toNat
      rw [hp, show r.take l.length = r from List.take_of_length_le (by omega)] at hN
      simp only at hN
      rcases (by omega : w = 1 ∨ w = 2 ∨ w = 3) with rfl | rfl | rfl <;> omega
    obtain ⟨i, hi, he, hb⟩ := late
    have hcost := zvi hr hn c l.length i hi he
    rw [hp] at hcost
    simp only at hcost
    have h2 := (hr.at_ i (by omega)).2
    have h3 := zvh l i hi
    have hq : wbQ w c (N, L) = c + (N + w - 1) / w + L - 1 := by
      unfold wbQ
      simp only
      rw [w64 (x := N + w) (by omega) (by omega), w64 (x := N + w - 1) (by omega) (by omega), Int.tdiv_eq_ediv_of_nonneg (by omega)]
      have hd : 0 ≤ (N + w - 1) / w ∧ (N + w - 1) / w ≤ N + w := by rcases (by omega : w = 1 ∨ w = 2 ∨ w = 3) with rfl | rfl | rfl <;> omega
      rw [w64 (x := (N + w - 1) / w) (by omega) (by omega), w64 (x := c + (N + w - 1) / w) (by omega) (by omega), w64 (x := c + (N + w - 1) / w + L) (by omega) (by omega), w64 (by omega) (by omega)]
    rw [hq]
    omega
end
def bb : Nat → Nat
  | 0 => 0
  | j + 1 => bb j + 4 + j
theorem zy9 : ∀ d j, bb j ≤ bb (j + d)
  | 0, _ => Nat.le_refl _
  | d + 1, j => by have := zy9 d j; show bb j ≤ bb (j + d) + 4 + (j + d); omega
theorem zxn (l : List Instr) (hl : l.length ≤ 7) (w : Nat) (hw : 1 ≤ w) (len : Int) (hlen : (bb l.length : Int) + 32 ≤ len) : ∀ (d : Nat) (o : List Int), o.length + d = l.length → (∀ i, 0 ≤ o.getD i 0 ∧ o.getD i 0 ≤ bb o.length) → (fnd l w len d o).isSome = true
  | 0, _, _, _ => rfl
  | d + 1, o, hd, ho => by
    unfold fnd
    have hf := zxa l o (bb o.length) (by omega) ho o.length o.length
    generalize eaC l o o.length o.length = first at hf
    have hh := zsh l o.length (by omega)
    have free : ∃ t : Nat, t ≤ o.length ∧ cnt o (first + t) ≠ w := by
      refine Classical.byContradiction fun hno => ?_
      have h1 : ∀ t : Nat, t < o.length + 1 → 1 ≤ cnt o (first + t) := fun t ht => by
        by_cases e : cnt o (first + t) = w
        · omega
        · exact absurd ⟨t, by omega, e⟩ hno
      have h2 := ybj o first (o.length + 1) h1
      have h3 : rng o first (o.length + 1) ≤ o.length := List.countP_le_length
      omega
    obtain ⟨t, ht, hne⟩ := free
    have hbm := zy9 (l.length - (o.length + 1)) (o.length + 1)
    rw [show o.length + 1 + (l.length - (o.length + 1)) = l.length by omega] at hbm
    have hb1 : bb (o.length + 1) = bb o.length + 4 + o.length := rfl
    refine zqx _ _ _ t (by omega) ?_
    show (if cnt o (first + (t : Int)) = w then none else fnd l w len d (o ++ [first + (t : Int)])).isSome = true
    rw [if_neg hne]
    refine zxn l hl w hw len hlen d _ (by rw [List.length_append, List.length_singleton]; omega) (fun i => ?_)
    rw [List.length_append, List.length_singleton, zln]
    split
    · have := ho i; omega
    · match h : i - o.length with
      | 0 => show 0 ≤ first + (t : Int) ∧ first + (t : Int) ≤ (bb (o.length + 1) : Nat); omega
      | m + 1 => simp
def bsGo (l : List Instr) (w : Nat) : Nat → Int → List Int
  | 0, _ => []
  | f + 1, len => match fnd l w len l.length [] with
    | some r => r
    | none => bsGo l w f (len + 1)
def bsL (l : List Instr) (w : Nat) : List Int := bsGo l w 101 0
theorem bb7 : ∀ n, n ≤ 7 → bb n ≤ 49 := by decide
theorem zvj (l : List Instr) (w : Nat) (s : Nat) (h : ∀ n : Nat, n < s → fnd l w n l.length [] = none) : ∀ (m n f : Nat), n + m = s → bsGo l w (f + m) n = bsGo l w f s
  | 0, n, f, e => by
    obtain rfl : n = s := by omega
    rfl
  | m + 1, n, f, e => by
    show (match fnd l w n l.length [] with
      | some r => r
      | none => bsGo l w (f + m) ((n : Int) + 1)) = _
    rw [h n (by omega)]
    exact zvj l w s h m (n + 1) f (by omega)
theorem ycl (l : List Instr) (hl : l.length ≤ 20) (w : Nat) (hw : 1 ≤ w ∧ w ≤ 3) (n : Nat) (h : (n : Int) < max ((hts l l.length).foldl max 0) (wbM l (eaL l l.length) w l.length)) : fnd l w n l.length [] = none := by
  cases e : fnd l w n l.length [] with
  | none => rfl
  | some r =>
    obtain ⟨h1, h2⟩ := zs9 l w n l.length [] r (zsf l w n) e
    have h3 := zxm h1 (by simpa using h2) (by omega)
    have h4 := zt4 h1 (by simpa using h2) hw hl (by omega) l.length (Nat.le_refl _)
    omega
theorem zt5 (l : List Instr) (hl : l.length ≤ 7) (w : Nat) (hw : 1 ≤ w) : (fnd l w 100 l.length []).isSome = true :=
  zxn l hl w hw 100 (by have := bb7 l.length hl; omega) l.length [] (by simp) (fun i => by simp)
structure Sch (l : List Instr) (w : Nat) (C : List Int) : Prop where
  len : C.length = l.length
  nn : ∀ j, j < l.length → 0 ≤ C.getD j 0
  dl : ∀ i j, i < j → j < l.length → 0 ≤ dly l i j → C.getD i 0 + dly l i j ≤ C.getD j 0
  wide : ∀ c, cnt C c ≤ w
def cstA (l : List Instr) (j : Nat) : Int := zhx (cls (l.getD j zI).f0)
theorem zza (l : List Instr) (P : List Int) (j : Nat) (x : Int) (h0 : 0 ≤ x) : ∀ u, (∀ i, i < u → 0 ≤ dly l i j → P.getD i 0 + dly l i j ≤ x) → eaC l P j u ≤ x
  | 0, _ => h0
  | u + 1, h => by
    have ih := zza l P j x h0 u (fun i hi => h i (by omega))
    have h1 := h u (by omega)
    unfold eaC
    split
    · have := h1 (by omega)
      omega
    · exact ih
theorem ybn (l : List Instr) (P : List Int) (j i : Nat) (hd : 0 ≤ dly l i j) : ∀ u, i < u → P.getD i 0 + dly l i j ≤ eaC l P j u
  | u + 1, h => by
    unfold eaC
    by_cases e : i = u
    · subst e
      rw [if_pos hd]
      omega
    · have := ybn l P j i hd u (by omega)
      split <;> omega
theorem ybo (l : List Instr) (a : Int) (i : Nat) (S : List Int) (x : Int) (h0 : x ≤ a - cstA l i) : ∀ u, (∀ v, v < u → 0 ≤ dly l i (i + 1 + v) → x ≤ S.getD v 0 - dly l i (i + 1 + v)) → x ≤ laC l a i S u
  | 0, _ => h0
  | u + 1, h => by
    have ih := ybo l a i S x h0 u (fun v hv => h v (by omega))
    have h1 := h u (by omega)
    unfold laC
    split
    · have := h1 (by omega)
      omega
    · exact ih
theorem ybp (l : List Instr) (a : Int) (i : Nat) (S : List Int) (v : Nat) (hd : 0 ≤ dly l i (i + 1 + v)) : ∀ u, v < u → laC l a i S u ≤ S.getD v 0 - dly l i (i + 1 + v)
  | u + 1, h => by
    unfold laC
    by_cases e : v = u
    · subst e
      rw [if_pos hd]
      omega
    · have := ybp l a i S v hd u (by omega)
      split <;> omega
theorem zwl (l : List Instr) (a : Int) (j : Nat) (h : j < l.length) : (laL l a l.length l.length).getD j 0 = laC l a j (laL l a l.length (l.length - 1 - j)) (l.length - 1 - j) := by
  rcases zt3 l a l.length l.length j h with e | e
  · rw [e, Nat.sub_self, Nat.zero_add]
  · omega
theorem zzb (l : List Instr) (a : Int) (j v : Nat) (h : v < l.length - 1 - j) : (laL l a l.length (l.length - 1 - j)).getD v 0 = (laL l a l.length l.length).getD (j + 1 + v) 0 := by
  rw [zwl l a (j + 1 + v) (by omega)]
  rcases zt3 l a l.length (l.length - 1 - j) v h with e | e
  · rw [e, show l.length - (l.length - 1 - j) + v = j + 1 + v by omega, show l.length - 1 - j - 1 - v = l.length - 1 - (j + 1 + v) by omega]
  · omega
theorem yau (l : List Instr) (i j : Nat) (hij : i < j) (hj : j < l.length) (hd : 0 ≤ dly l i j) : dly l i j + htAt l j ≤ htAt l i := by
  have h1 := ybp l 0 i (laL l 0 l.length (l.length - 1 - i)) (j - i - 1) (by rw [show i + 1 + (j - i - 1) = j by omega]; exact hd) (l.length - 1 - i) (by omega)
  rw [zzb l 0 i (j - i - 1) (by omega), ← zwl l 0 i (by omega), show i + 1 + (j - i - 1) = j by omega] at h1
  rw [zsg, zsg]
  omega
section
variable {l : List Instr} {w : Nat} {C : List Int}
theorem Sch.late (h : Sch l w C) (len : Int) (hc : ∀ j, j < l.length → C.getD j 0 + cstA l j ≤ len) : ∀ m j, j < l.length → l.length - j ≤ m → C.getD j 0 + htAt l j ≤ len := by
  intro m
  induction m with
  | zero => intro j hj hm; omega
  | succ m ih =>
    intro j hj hm
    have h1 : C.getD j 0 ≤ (laL l len l.length l.length).getD j 0 := by
      rw [zwl l len j hj]
      have hcj := hc j hj
      refine ybo l len j _ _ (by omega) _ (fun v hv hd => ?_)
      rw [zzb l len j v hv, znr l len (j + 1 + v) (by omega)]
      have h2 := ih (j + 1 + v) (by omega) (by omega)
      have h3 := h.dl j (j + 1 + v) (by omega) (by omega) hd
      omega
    rw [znr l len j hj] at h1
    omega
theorem Sch.okp (h : Sch l w C) (len : Int) (hc : ∀ j, j < l.length → C.getD j 0 + cstA l j ≤ len) : Okp l w len C :=
  ⟨fun j hj => by
    have hl := h.len
    exact ⟨zza l C j _ (h.nn j (by omega)) j (fun i hi hd => h.dl i j hi (by omega) hd), h.late len hc _ j (by omega) (Nat.le_refl _)⟩, h.wide⟩
theorem Okp.sch {len : Int} (h : Okp l w len C) (hn : C.length = l.length) : Sch l w C :=
  ⟨hn, ybk h hn, fun i j hi hj hd => by
    have h1 := (h.at_ j (by omega)).1
    have h2 := ybn l C j i hd j hi
    omega, h.wide⟩
end
def lenM : List Instr → List Int → Int → Int
  | x :: l, n :: c, m => lenM l c (if m < n + zhx (cls x.f0) then n + zhx (cls x.f0) else m)
  | _, _, m => m
theorem zt6 : ∀ (l : List Instr) (C : List Int) (m : Int), C.length = l.length → m ≤ lenM l C m ∧ ∀ j, j < l.length → C.getD j 0 + cstA l j ≤ lenM l C m
  | [], [], m, _ => ⟨Int.le_refl _, fun j h => absurd h (Nat.not_lt_zero _)⟩
  | [], _ :: _, m, h => by cases h
  | _ :: _, [], m, h => by cases h
  | x :: l, n :: C, m, h => by
    obtain ⟨h1, h2⟩ := zt6 l C (if m < n + zhx (cls x.f0) then n + zhx (cls x.f0) else m) (by simpa using h)
    show m ≤ lenM l C _ ∧ ∀ j, j < l.length + 1 → _ ≤ lenM l C _
    generalize lenM l C (if m < n + zhx (cls x.f0) then n + zhx (cls x.f0) else m) = X at h1 h2
    refine ⟨by split at h1 <;> omega, fun j hj => ?_⟩
    cases j with
    | zero =>
      show n + zhx (cls x.f0) ≤ X
      split at h1 <;> omega
    | succ j => exact h2 j (by omega)
theorem zzc : ∀ (l : List Instr) (C : List Int) (m x : Int), C.length = l.length → m ≤ x → (∀ j, j < l.length → C.getD j 0 + cstA l j ≤ x) → lenM l C m ≤ x
  | [], [], m, x, _, h, _ => h
  | [], _ :: _, m, x, h, _, _ => by cases h
  | _ :: _, [], m, x, h, _, _ => by cases h
  | y :: l, n :: C, m, x, h, hm, hj => by
    have h0 : n + zhx (cls y.f0) ≤ x := hj 0 (Nat.succ_pos _)
    exact zzc l C _ x (by simpa using h) (by split <;> omega) (fun j h => hj (j + 1) (Nat.succ_lt_succ h))
theorem zzd (o : List Int) (x c : Int) : cnt (o ++ [x]) c = cnt o c + if x = c then 1 else 0 := by
  unfold cnt
  rw [List.countP_append, List.countP_cons, List.countP_nil, Nat.zero_add]
  by_cases q : x = c <;> simp [q]
theorem zze {l : List Instr} {w : Nat} {len : Int} {C : List Int} (h : Okp l w len C) (hn : C.length = l.length) : ∀ d j, j + d = l.length → (fnd l w len d (C.take j)).isSome = true
  | 0, _, _ => rfl
  | d + 1, j, hj => by
    have hlt : j < C.length := by omega
    have hl : (C.take j).length = j := by rw [List.length_take]; omega
    have e0 : C.getD j 0 = C[j] := by rw [List.getD_eq_getElem?_getD, List.getElem?_eq_getElem hlt]; rfl
    have et := List.take_succ_eq_append_getElem hlt
    have ec : eaC l (C.take j) j j = eaC l C j j := zqd l _ _ j j (fun i hi => by rw [List.getD_eq_getElem?_getD, List.getD_eq_getElem?_getD, List.getElem?_take_of_lt hi])
    have h1 := h.at_ j hlt
    unfold fnd
    rw [hl, ec]
    refine zqx _ _ _ (C.getD j 0 - eaC l C j j).toNat (by omega) ?_
    rw [show eaC l C j j + ((C.getD j 0 - eaC l C j j).toNat : Int) = C[j] by omega]
    have hw : cnt (C.take (j + 1)) C[j] ≤ cnt C C[j] := by
      unfold cnt
      exact List.Sublist.countP_le (List.take_sublist _ _)
    have hw2 := h.wide C[j]
    rw [et, zzd, if_pos rfl] at hw
    rw [if_neg (by omega), ← et]
    exact zze h hn d (j + 1) (by omega)
theorem zwm (l : List Instr) (hl : l.length ≤ 7) (w : Nat) (hw : 1 ≤ w) : ∀ f n : Nat, n + f = 101 → 0 < f → (∀ m : Nat, m < n → fnd l w m l.length [] = none) → ∃ t : Nat, t ≤ 100 ∧ fnd l w t l.length [] = some (bsGo l w f n) ∧ ∀ m : Nat, m < t → fnd l w m l.length [] = none
  | 0, _, _, h, _ => absurd h (Nat.lt_irrefl 0)
  | f + 1, n, hn, _, hno => by
    unfold bsGo
    cases e : fnd l w n l.length [] with
    | some r => exact ⟨n, by omega, e, hno⟩
    | none =>
      by_cases h0 : f = 0
      · have := zt5 l hl w hw
        obtain rfl : n = 100 := by omega
        have e' : fnd l w 100 l.length [] = none := e
        rw [e'] at this
        cases this
      · exact zwm l hl w hw f (n + 1) (by omega) (by omega) (fun m hm => by
          by_cases e2 : m = n
          · rw [e2]; exact e
          · exact hno m (by omega))
section
variable {l : List Instr} (hl : l.length ≤ 7) {w : Nat} (hw : 1 ≤ w)
include hl hw
theorem yav : Sch l w (bsL l w) ∧ ∀ j, j < l.length → (bsL l w).getD j 0 ≤ 100 := by
  obtain ⟨t, ht, e, _⟩ := zwm l hl w hw 101 0 rfl (by omega) (fun m h => absurd h (Nat.not_lt_zero _))
  replace e : fnd l w t l.length [] = some (bsL l w) := e
  obtain ⟨h1, h2⟩ := zs9 l w t l.length [] _ (zsf l w t) e
  have h3 : (bsL l w).length = l.length := by simpa using h2
  refine ⟨h1.sch h3, fun j hj => ?_⟩
  have h4 := (h1.at_ j (by omega)).2
  have h5 := zsh l j hj
  omega
theorem zta {C : List Int} (h : Sch l w C) : lenM l (bsL l w) 0 ≤ lenM l C 0 := by
  obtain ⟨t, ht, e, hno⟩ := zwm l hl w hw 101 0 rfl (by omega) (fun m h => absurd h (Nat.not_lt_zero _))
  replace e : fnd l w t l.length [] = some (bsL l w) := e
  obtain ⟨h1, h2⟩ := zs9 l w t l.length [] _ (zsf l w t) e
  have h3 : (bsL l w).length = l.length := by simpa using h2
  have hb : lenM l (bsL l w) 0 ≤ t := zzc l _ 0 t h3 (by omega) (fun j hj => by
    have h4 := (h1.at_ j (by omega)).2
    have h5 := zvh l j hj
    show (bsL l w).getD j 0 + zhx (cls (l.getD j zI).f0) ≤ t
    omega)
  obtain ⟨g1, g2⟩ := zt6 l C 0 h.len
  refine Int.not_lt.1 fun hlt => ?_
  obtain ⟨s, hs⟩ := Int.eq_ofNat_of_zero_le g1
  have h6 := zze (h.okp s (fun j hj => by have := g2 j hj; omega)) h.len l.length 0 (by omega)
  have h7 := hno s (by omega)
  rw [List.take_zero] at h6
  rw [h7] at h6
  cases h6
end
theorem Sch.path {l : List Instr} {w : Nat} {C : List Int} (h : Sch l w C) : (hts l l.length).foldl max 0 ≤ lenM l C 0 := by
  obtain ⟨g1, g2⟩ := zt6 l C 0 h.len
  exact zxm (h.okp _ g2) h.len g1
theorem Sch.bound {l : List Instr} {w : Nat} {C : List Int} (h : Sch l w C) (hw : 1 ≤ w ∧ w ≤ 3) (hl : l.length ≤ 20) : wbM l (eaL l l.length) w l.length ≤ lenM l C 0 := by
  obtain ⟨g1, g2⟩ := zt6 l C 0 h.len
  exact zt4 (h.okp _ g2) h.len hw hl g1 l.length (Nat.le_refl _)
theorem Sch.wider {l : List Instr} {w v : Nat} {C : List Int} (h : Sch l w C) (hv : w ≤ v) : Sch l v C := ⟨h.len, h.nn, h.dl, fun c => Nat.le_trans (h.wide c) hv⟩
theorem zzf (l : List Instr) (j : Nat) (hj : j < l.length) : htAt l j ≤ (hts l l.length).foldl max 0 := by
  have key : ∀ (xs : List Int) (m : Int), (m ≤ xs.foldl max m) ∧ ∀ x ∈ xs, x ≤ xs.foldl max m := by
    intro xs
    induction xs with
    | nil => intro m; exact ⟨Int.le_refl _, fun x h => by cases h⟩
    | cons y xs ih =>
      intro m
      obtain ⟨i1, i2⟩ := ih (max m y)
      refine ⟨by show m ≤ xs.foldl max (max m y); omega, fun x hx => ?_⟩
      show x ≤ xs.foldl max (max m y)
      rcases List.mem_cons.1 hx with rfl | hx
      · omega
      · exact i2 x hx
  have hl : (hts l l.length).length = l.length := by unfold hts; rw [zn4, zhm]
  refine (key (hts l l.length) 0).2 _ ?_
  unfold htAt
  rw [List.getD_eq_getElem?_getD, List.getElem?_eq_getElem (by omega), Option.getD_some]
  exact List.getElem_mem _
theorem ycm (l : List Instr) (x : Int) (h0 : 0 ≤ x) (h : ∀ j, j < l.length → htAt l j ≤ x) : (hts l l.length).foldl max 0 ≤ x := by
  have key : ∀ (xs : List Int) (m : Int), m ≤ x → (∀ y ∈ xs, y ≤ x) → xs.foldl max m ≤ x := by
    intro xs
    induction xs with
    | nil => intro m hm _; exact hm
    | cons y xs ih => intro m hm hx; exact ih _ (by have := hx y (by simp); omega) (fun y hy => hx y (by simp [hy]))
  refine key _ 0 h0 (fun y hy => ?_)
  obtain ⟨j, hj, e⟩ := List.getElem_of_mem hy
  have hl : (hts l l.length).length = l.length := by unfold hts; rw [zn4, zhm]
  have e2 : htAt l j = y := by
    unfold htAt
    rw [List.getD_eq_getElem?_getD, List.getElem?_eq_getElem hj, e]
    rfl
  have := h j (by omega)
  omega
theorem ycn (l : List Instr) (j : Nat) (hj : j < l.length) : (eaL l l.length).getD j 0 = eaC l (eaL l l.length) j j := by
  have sub : ∀ (d j u : Nat), u < j → (eaL l (j + d)).getD u 0 = (eaL l j).getD u 0 := by
    intro d
    induction d with
    | zero => intro j u _; rfl
    | succ d ih =>
      intro j u h
      show (eaL l (j + d) ++ [_]).getD u 0 = _
      rw [zqe _ _ _ (by rw [zg0]; omega), ih j u h]
  have e := sub (l.length - (j + 1)) (j + 1) j (by omega)
  rw [show j + 1 + (l.length - (j + 1)) = l.length by omega] at e
  have e1 : (eaL l (j + 1)).getD j 0 = eaC l (eaL l j) j j := by
    show (eaL l j ++ [_]).getD j 0 = _
    rw [zln, if_neg (by rw [zg0]; omega), zg0, Nat.sub_self]
    rfl
  rw [e, e1]
  refine zqd l _ _ j j (fun i hi => ?_)
  have e2 := sub (l.length - j) j i hi
  rw [show j + (l.length - j) = l.length by omega] at e2
  exact e2.symm
theorem ztb (l : List Instr) : ∀ m j, j < m → j < l.length → (eaL l l.length).getD j 0 + htAt l j ≤ (hts l l.length).foldl max 0
  | 0, _, h, _ => absurd h (Nat.not_lt_zero _)
  | m + 1, j, hm, hj => by
    have hp := zzf l j hj
    rw [ycn l j hj]
    have h1 := zza l (eaL l l.length) j ((hts l l.length).foldl max 0 - htAt l j) (by omega) j (fun i hi hd => by
      have h2 := ztb l m i (by omega) (by omega)
      have h3 := yau l i j hi hj hd
      omega)
    omega
theorem zwn (O : List Int) (j : Nat) (c x : Int) (h : j < O.length) (hj : O.getD j 0 ≠ x) : cnt (O.set j c) x = cnt O x + if c = x then 1 else 0 := by
  have e : O = O.take j ++ O[j] :: O.drop (j + 1) := by simp
  have hx : O[j] ≠ x := by
    rw [List.getD_eq_getElem?_getD, List.getElem?_eq_getElem h] at hj
    exact hj
  have e2 : O.set j c = O.take j ++ c :: O.drop (j + 1) := by
    rw [List.set_eq_take_append_cons_drop, if_pos h]
  rw [e2]
  conv => rhs; rw [e]
  unfold cnt
  rw [List.countP_append, List.countP_append, List.countP_cons, List.countP_cons]
  by_cases q : c = x <;> simp [q, hx] <;> omega
structure LsV (l : List Instr) (a : Nat) (c : Int) (k : Nat) (O : List Int) : Prop where
  len : O.length = l.length
  dl : ∀ i j, i < j → j < l.length → 0 ≤ O.getD j 0 → 0 ≤ dly l i j → 0 ≤ O.getD i 0 ∧ O.getD i 0 + dly l i j ≤ O.getD j 0
  wide : ∀ x, 0 ≤ x → cnt O x ≤ a
  now : cnt O c ≤ k
  late : ∀ x, c < x → cnt O x = 0
theorem LsV.one_ {l : List Instr} {a : Nat} {c : Int} {k : Nat} {O : List Int} (H : List Int) (hc : 0 ≤ c) (hk : k + 1 ≤ a) (h : LsV l a c k O) : LsV l a c (k + 1) (one l H c O) := by
  by_cases hb : bst l H O c l.length < 0
  · rw [show one l H c O = O from if_pos hb]
    exact ⟨h.len, h.dl, h.wide, Nat.le_succ_of_le h.now, h.late⟩
  · have hbd := zsd l H O c l.length
    have hr := zt1 l H O c l.length (by omega)
    generalize hj : (bst l H O c l.length).toNat = j at hr
    have hjn : j < O.length := by rw [h.len]; omega
    have e : one l H c O = O.set j c := by rw [← hj]; exact if_neg hb
    unfold rdy at hr
    rw [Bool.and_eq_true, decide_eq_true_eq, List.all_eq_true] at hr
    have hn := h.now
    rw [e]
    refine ⟨by rw [List.length_set]; exact h.len, fun i k' hik hkn h0 hd => ?_, fun x hx => ?_, ?_, fun x hx => ?_⟩
    · rw [zk3 _ _ _ _ hjn] at h0 ⊢
      rw [zk3 _ _ _ _ hjn]
      by_cases e1 : k' = j
      · subst e1
        have h2 := hr.2 i (List.mem_range.2 hik)
        unfold dOk at h2
        have h3 := of_decide_eq_true h2 hd
        rw [if_neg (by omega), if_pos rfl]
        exact h3
      · rw [if_neg e1] at h0 ⊢
        have h2 := h.dl i k' hik hkn h0 hd
        by_cases e2 : i = j
        · subst e2
          omega
        · rw [if_neg e2]
          exact h2
    · rw [zwn O j c x hjn (by omega)]
      by_cases e1 : c = x
      · subst e1
        rw [if_pos rfl]
        omega
      · rw [if_neg e1]
        exact h.wide x hx
    · rw [zwn O j c c hjn (by omega), if_pos rfl]
      omega
    · rw [zwn O j c x hjn (by omega), if_neg (by omega)]
      exact h.late x hx
theorem ybq {l : List Instr} {a : Nat} {c : Int} (H : List Int) (hc : 0 ≤ c) : ∀ (r k : Nat) (O : List Int), r + k ≤ a → LsV l a c k O → LsV l a c (k + r) (many l H c r O)
  | 0, _, _, _, h => h
  | r + 1, k, O, hk, h => by
    have := ybq H hc r (k + 1) _ (by omega) (h.one_ H hc (by omega))
    rw [many, show k + (r + 1) = k + 1 + r by omega]
    exact this
theorem ybr (l : List Instr) (H : List Int) (a : Nat) (ha : 1 ≤ a) : ∀ (f : Nat) (c : Int) (O : List Int) (m s : Nat), LsI l c O m s → LsV l a c 0 O → 4 * m + s ≤ f → 0 ≤ c →
    ¬ (-1 : Int) ∈ lsGo l H a f c O ∧ (∃ c', LsV l a c' 0 (lsGo l H a f c O)) ∧ ∀ i, i < l.length → -1 ≤ (lsGo l H a f c O).getD i 0 ∧ (lsGo l H a f c O).getD i 0 ≤ c + f
  | 0, c, O, m, s, h, hv, hf, hc => by
    obtain rfl : m = 0 := by omega
    obtain rfl : s = 0 := by omega
    exact ⟨h.none, ⟨c, hv⟩, fun i hi => by
      have h1 := h.lo i hi
      have h2 := h.hi i hi
      show -1 ≤ O.getD i 0 ∧ O.getD i 0 ≤ c + ((0 : Nat) : Int)
      omega⟩
  | f + 1, c, O, m, s, h, hv, hf, hc => by
    unfold lsGo
    by_cases hm : (-1 : Int) ∈ O
    · rw [if_pos hm]
      obtain ⟨m', s', hn, hlt⟩ := h.next H a ha hc hm
      have h1 := ybq H hc a 0 O (by omega) hv
      have h2 : LsV l a (c + 1) 0 (many l H c a O) := ⟨h1.len, h1.dl, h1.wide, by rw [h1.late (c + 1) (by omega)]; exact Nat.le_refl _, fun x hx => h1.late x (by omega)⟩
      obtain ⟨k1, k2, k3⟩ := ybr l H a ha f (c + 1) _ m' s' hn h2 (by omega) (by omega)
      exact ⟨k1, k2, fun i hi => by have := k3 i hi; omega⟩
    · rw [if_neg hm]
      exact ⟨hm, ⟨c, hv⟩, fun i hi => by
        have h1 := h.lo i hi
        have h2 := h.hi i hi
        have h3 := h.s3
        omega⟩
theorem zzg (l : List Instr) (a : Nat) : LsV l a 0 0 (List.replicate l.length (-1)) := by
  have e : ∀ i, i < l.length → (List.replicate l.length (-1 : Int)).getD i 0 = -1 := fun i hi => by
    rw [List.getD_eq_getElem?_getD, List.getElem?_replicate, if_pos hi]
    rfl
  have z : ∀ x : Int, 0 ≤ x → cnt (List.replicate l.length (-1)) x = 0 := fun x hx => by
    unfold cnt
    rw [List.countP_eq_zero]
    intro y hy
    rw [List.eq_of_mem_replicate hy, decide_eq_true_eq]
    omega
  exact ⟨List.length_replicate, fun i j _ hj h0 _ => by rw [e j hj] at h0; omega, fun x hx => by rw [z x hx]; exact Nat.zero_le _, by rw [z 0 (Int.le_refl _)]; exact Nat.le_refl _, fun x hx => z x (by omega)⟩
theorem yaw (l : List Instr) (hl : l.length ≤ 20) (a : Nat) (ha : 1 ≤ a) : Sch l a (lsL l a) ∧ ∀ j, j < l.length → (lsL l a).getD j 0 ≤ 100 := by
  obtain ⟨h1, ⟨c, h2⟩, h3⟩ := ybr l (hts l l.length) a ha 83 0 _ _ _ (zvd l) (zzg l a) (by omega) (Int.le_refl _)
  have nn : ∀ j, j < l.length → 0 ≤ (lsL l a).getD j 0 := fun j hj => by
    have h4 := (h3 j hj).1
    have hlt : j < (lsL l a).length := by rw [zwk]; exact hj
    have h5 : (lsL l a).getD j 0 ≠ -1 := fun e => by
      refine (show ¬ (-1 : Int) ∈ lsL l a from h1) ?_
      rw [List.getD_eq_getElem?_getD, List.getElem?_eq_getElem hlt, Option.getD_some] at e
      have hm := List.getElem_mem hlt
      rw [e] at hm
      exact hm
    show 0 ≤ (lsL l a).getD j 0
    have h6 : -1 ≤ (lsL l a).getD j 0 := h4
    omega
  refine ⟨⟨zwk l a, nn, fun i j hi hj hd => (h2.dl i j hi hj (nn j hj) hd).2, fun x => ?_⟩, fun j hj => ?_⟩
  · rcases Int.lt_or_le x 0 with hx | hx
    · have : cnt (lsL l a) x = 0 := by
        unfold cnt
        rw [List.countP_eq_zero]
        intro y hy
        obtain ⟨j, hj, rfl⟩ := List.getElem_of_mem hy
        have := nn j (by rw [zwk] at hj; exact hj)
        rw [List.getD_eq_getElem?_getD, List.getElem?_eq_getElem hj, Option.getD_some] at this
        rw [decide_eq_true_eq]
        omega
      rw [this]
      exact Nat.zero_le _
    · exact h2.wide x hx
  · have := (h3 j hj).2
    show (lsL l a).getD j 0 ≤ 100
    have h6 : (lsL l a).getD j 0 ≤ 0 + ((83 : Nat) : Int) := this
    omega
end Go.Proofs.YtabnafbgcpchdaaGreat.PL
end
section
namespace Go.Proofs.YtabnafbgcpchdaaGreat.PL
open Go Go.RowKit Go.Proofs.YtabnafbgcpchdaaGreatW.PrintWords Go.Proofs.YtabnafbgcpchdaaGreatW.PrintLast Go.Proofs.YtabnafbgcpchdaaGreatW.PrintMore Go.Proofs.YtabnafbgcpchdaaGreat.Q
set_option linter.unusedSimpArgs false
set_option linter.unusedVariables false
def zku (l : List Instr) (c : List Int) : Bool := zel l && decide (c.length = l.length) && c.all (fun n => decide (0 ≤ n ∧ n ≤ 100))
theorem zrc (l : List Instr) (c : List Int) (hc : c.length ≤ 1048576) : Ev (fun k => ze5 k l c) (zku l c) := by
  unfold ze5
  refine Ev.bind (zks l) ?_
  unfold zku
  cases h : zel l
  · exact zas (by simp) (Ev.some rfl)
  · refine zae rfl ?_
    by_cases hl : c.length = l.length
    · refine zae (by omega) ?_
      have h : Ev (fun k => za3 k c) (idx (fun n => !decide (0 ≤ n ∧ n ≤ 100)) c) := by
        unfold za3
        refine zoq c _ (fun k i => zan k c c.length i) ?_ (fun i x hi hx hp => ?_) (fun i x r hi hx hp hr => ?_)
        · refine zam (f := fun _ => some (-1)) (fun k => ?_) (Ev.now _)
          simp only [zan]
          rw [if_neg (by omega)]
        · refine zam (f := fun _ => some (i : Int)) (fun k => ?_) (Ev.now _)
          simp only [zan, zhf, zn0 hx, zl9, Option.bind_some, hp]
          rw [if_pos (by omega), if_pos (by omega), if_pos (by omega), if_pos trivial]
        · refine zam (fun k => ?_) hr
          simp only [zan, zhf, zn0 hx, zl9, Option.bind_some, hp]
          rw [if_pos (by omega), if_pos (by omega), if_pos (by omega), if_neg (by simp), w64n i (by omega)]
      unfold za9
      refine Ev.bind (Ev.bind h (Ev.now _)) (Ev.some ?_)
      have e := znp (fun n : Int => !decide (0 ≤ n ∧ n ≤ 100)) c
      rw [show decide (c.length = l.length) = true by simpa using hl, Bool.true_and, Bool.true_and]
      by_cases hc : 0 ≤ idx (fun n : Int => !decide (0 ≤ n ∧ n ≤ 100)) c
      · obtain ⟨x, hx, hx'⟩ := e.1 hc
        rw [decide_eq_true (show idx (fun n : Int => !decide (0 ≤ n ∧ n ≤ 100)) c ≥ 0 from hc)]
        symm
        show _ = false
        rw [List.all_eq_false]
        exact ⟨x, hx, fun hd => by rw [hd] at hx'; cases hx'⟩
      · rw [decide_eq_false (show ¬ idx (fun n : Int => !decide (0 ≤ n ∧ n ≤ 100)) c ≥ 0 from hc)]
        symm
        show _ = true
        rw [List.all_eq_true]
        intro x hx
        have : ¬ ((!decide (0 ≤ x ∧ x ≤ 100)) = true) := fun h => hc (e.2 ⟨x, hx, h⟩)
        simpa using this
    · refine zas (by omega) (Ev.some ?_)
      simp [hl]
abbrev cntC := impl_IsSchedule.cnt
theorem zqf (C : List Int) (x : Int) (j : Nat) : cntC C x (j + 1) = cntC C x j + (if rd C j = x then 1 else 0) := rfl
theorem zvk (C : List Int) (x : Int) (i : Nat) : ∀ d, cntC C x i ≤ cntC C x (i + d)
  | 0 => Nat.le_refl _
  | d + 1 => by
    have := zvk C x i d
    rw [← Nat.add_assoc, zqf]
    split <;> omega
theorem zvl (C : List Int) (x w : Int) : ∀ n, (∀ j : Nat, j < n → rd C j = x → (cntC C x j : Int) + 1 ≤ w) → (cntC C x n : Int) ≤ w ∨ cntC C x n = 0
  | 0, _ => .inr rfl
  | n + 1, h => by
    rw [zqf]
    by_cases e : rd C n = x
    · rw [if_pos e]
      have := h n (by omega) e
      exact .inl (by omega)
    · rw [if_neg e]
      exact zvl C x w n (fun j hj he => h j (by omega) he)
def zx9 (l : List Instr) (C : List Int) (w : Int) (n i : Nat) : Bool :=
  ((List.range n).all fun j => !(decide (dlyS l i j ≥ 0) && decide (rd C j < rd C i + dlyS l i j))) && decide ((cntC C (rd C i) n : Int) ≤ w)
theorem zzh (l : List Instr) (C : List Int) (w : Int) (h1 : 1 ≤ w) : (List.range l.length).all (zda (tabI l l.length) C w) = (List.range l.length).all (zx9 l C w l.length) := by
  have hp : ∀ j : Nat, j < l.length → (zda (tabI l l.length) C w j = true ↔ ((cntC C (rd C j) j : Int) + 1 ≤ w ∧ ∀ i : Nat, i < j → 0 ≤ dly l i j → ¬ rd C j < rd C i + dly l i j)) := by
    intro j hj
    unfold zda
    rw [Bool.and_eq_true, decide_eq_true_eq, List.all_eq_true]
    refine and_congr Iff.rfl ⟨fun h i hi hd hlt => ?_, fun h i hi => ?_⟩
    · have := h i (List.mem_range.2 hi)
      unfold zfc at this
      rw [zm8 l l.length j hj, zpr l j j i hi, decide_eq_true hd, decide_eq_true hlt] at this
      exact absurd this (by decide)
    · have hi' := List.mem_range.1 hi
      unfold zfc
      rw [zm8 l l.length j hj, zpr l j j i hi']
      by_cases hd : 0 ≤ dly l i j
      · rw [decide_eq_false (h i hi' hd), Bool.and_false]
        rfl
      · rw [decide_eq_false hd, Bool.false_and]
        rfl
  have hs : ∀ i : Nat, zx9 l C w l.length i = true ↔ ((∀ j : Nat, j < l.length → dlyS l i j ≥ 0 → ¬ rd C j < rd C i + dlyS l i j) ∧ (cntC C (rd C i) l.length : Int) ≤ w) := by
    intro i
    unfold zx9
    rw [Bool.and_eq_true, decide_eq_true_eq, List.all_eq_true]
    refine and_congr ⟨fun h j hj hd hlt => ?_, fun h j hj => ?_⟩ Iff.rfl
    · have := h j (List.mem_range.2 hj)
      rw [decide_eq_true hd, decide_eq_true hlt] at this
      exact absurd this (by decide)
    · by_cases hd : dlyS l i j ≥ 0
      · rw [decide_eq_false (h j (List.mem_range.1 hj) hd), Bool.and_false]
        rfl
      · rw [decide_eq_false hd, Bool.false_and]
        rfl
  rw [Bool.eq_iff_iff, List.all_eq_true, List.all_eq_true]
  constructor
  · intro h i hi
    have hi' := List.mem_range.1 hi
    refine (hs i).2 ⟨fun j hj hd => ?_, ?_⟩
    · unfold dlyS at hd ⊢
      by_cases hij : i < j
      · rw [if_pos hij] at hd ⊢
        exact ((hp j hj).1 (h j (List.mem_range.2 hj))).2 i hij hd
      · rw [if_neg hij] at hd
        omega
    · rcases zvl C (rd C i) w l.length (fun j hj e => by have := ((hp j hj).1 (h j (List.mem_range.2 hj))).1; rw [e] at this; exact this) with h2 | h2
      · exact h2
      · omega
  · intro h j hj
    have hj' := List.mem_range.1 hj
    refine (hp j hj').2 ⟨?_, fun i hi hd => ?_⟩
    · have h2 := ((hs j).1 (h j hj)).2
      have h3 := zvk C (rd C j) (j + 1) (l.length - (j + 1))
      rw [show j + 1 + (l.length - (j + 1)) = l.length by omega, zqf, if_pos rfl] at h3
      omega
    · have h2 := ((hs i).1 (h i (List.mem_range.2 (by omega)))).1 j hj'
      unfold dlyS at h2
      rw [if_pos hi] at h2
      exact h2 hd
def isR (l : List Instr) (w : Int) (C : List Int) : Bool × Bool :=
  if zel l = true ∧ (1 ≤ w ∧ w ≤ 3) ∧ C.length = l.length then ((C.all fun n => decide (0 ≤ n ∧ n ≤ 100)) && (List.range l.length).all (zx9 l C w l.length), true) else (false, false)
theorem yax (C : List Int) (h : (C.all fun n => decide (0 ≤ n ∧ n ≤ 100)) = true) (j : Nat) (hj : j < C.length) : 0 ≤ rd C j ∧ rd C j ≤ 100 := by
  have := List.all_eq_true.1 h C[j] (List.getElem_mem hj)
  rw [zn0 (zgl C j hj)]
  simpa using this
theorem zzi (l : List Instr) (w : Int) (C : List Int) (hl : l.length ≤ 1048576) (hC : C.length ≤ 1048576) : Ev (fun k => zfg k l w C) (isR l w C) := by
  unfold zfg isR
  refine Ev.bind (zks l) ?_
  by_cases h : zel l = true
  · obtain ⟨h1, h2⟩ := zgm h
    have hw : zea w = some (decide (1 ≤ w ∧ w ≤ 3)) := by
      unfold zea
      rw [zl9]
      rfl
    refine zas (by rw [h]; decide) (Ev.call hw ?_)
    by_cases hq : 1 ≤ w ∧ w ≤ 3
    · refine zas (by simp [hq]) ?_
      by_cases hlen : C.length = l.length
      · rw [if_pos ⟨h, hq, hlen⟩]
        refine zae hlen (Ev.bind (zrc l C hC) ?_)
        have hoc : zku l C = C.all fun n => decide (0 ≤ n ∧ n ≤ 100) := by
          unfold zku
          rw [h, decide_eq_true hlen]
          rfl
        by_cases hc : (C.all fun n => decide (0 ≤ n ∧ n ≤ 100)) = true
        · refine zas (by rw [hoc, hc]; decide) (Ev.bind (zot l hl) (zae ?_ (Ev.some ?_)))
          · unfold zg8
            simp only [Bool.and_eq_true, decide_eq_true_eq, List.all_eq_true, List.mem_range]
            refine ⟨⟨⟨zmv _ _, hl⟩, fun j hj => ⟨by rw [zm8 l l.length j hj, zmu], fun i hi => ?_⟩⟩, fun j hj => ?_⟩
            · rw [zm8 l l.length j hj, zpr l j j i hi]
              have := znq l i j
              omega
            · have := yax C hc j (by omega)
              omega
          · rw [hc, zzh l C w hq.1, Bool.true_and]
        · refine zae (by rw [hoc]; exact Bool.eq_false_iff.2 hc) (Ev.some ?_)
          rw [Bool.eq_false_iff.2 hc]
          rfl
      · rw [if_neg (fun q => hlen q.2.2)]
        exact zas hlen (Ev.now _)
    · rw [if_neg (fun q => hq q.2.1)]
      exact zae (by simp [hq]) (Ev.now _)
  · rw [if_neg (fun q => h q.1)]
    exact zae (Bool.eq_false_iff.2 h) (Ev.now _)
end Go.Proofs.YtabnafbgcpchdaaGreat.PL
end
section
namespace Go.Proofs.YtabnafbgcpchdaaGreat.PL
open Go Go.RowKit Go.Proofs.YtabnafbgcpchdaaGreatW.PrintWords Go.Proofs.YtabnafbgcpchdaaGreatW.PrintLast Go.Proofs.YtabnafbgcpchdaaGreatW.PrintMore Go.Proofs.YtabnafbgcpchdaaGreat.Q
set_option linter.unusedSimpArgs false
set_option linter.unusedVariables false
set_option linter.unusedSectionVars false
theorem zxo (C : List Int) (x : Int) : ∀ n, n ≤ C.length → cntC C x n = cnt (C.take n) x
  | 0, _ => rfl
  | n + 1, h => by
    rw [zqf, zxo C x n (by omega), List.take_succ_eq_append_getElem (by omega), zzd, zn0 (zgl C n (by omega))]
theorem zvm (l : List Instr) (C : List Int) (w : Int) (hC : C.length = l.length) (i : Nat) : zx9 l C w l.length i = true ↔ (∀ j, j < l.length → i < j → 0 ≤ dly l i j → C.getD i 0 + dly l i j ≤ C.getD j 0) ∧ (cnt C (C.getD i 0) : Int) ≤ w := by
  unfold zx9
  rw [Bool.and_eq_true, decide_eq_true_eq, List.all_eq_true, zxo C _ _ (by omega), ← hC, List.take_length, rdB]
  refine and_congr ⟨fun h j hj hij hd => ?_, fun h j hj => ?_⟩ Iff.rfl
  · have h1 := h j (List.mem_range.2 hj)
    rw [rdB, show dlyS l i j = dly l i j from if_pos hij, decide_eq_true hd, Bool.true_and, Bool.not_eq_true', decide_eq_false_iff_not] at h1
    omega
  · have hj' := List.mem_range.1 hj
    rw [rdB]
    by_cases hij : i < j
    · rw [show dlyS l i j = dly l i j from if_pos hij]
      by_cases hd : 0 ≤ dly l i j
      · have h1 := h j hj' hij hd
        rw [decide_eq_false (p := C.getD j 0 < C.getD i 0 + dly l i j) (by omega), Bool.and_false]
        rfl
      · rw [decide_eq_false hd, Bool.false_and]
        rfl
    · rw [show dlyS l i j = -1 from if_neg hij, decide_eq_false (by omega), Bool.false_and]
      rfl
theorem yco (l : List Instr) (w : Int) (C : List Int) : isR l w C = (true, true) ↔ zel l = true ∧ (1 ≤ w ∧ w ≤ 3) ∧ Sch l w.toNat C ∧ ∀ j, j < l.length → C.getD j 0 ≤ 100 := by
  unfold isR
  by_cases h : zel l = true ∧ (1 ≤ w ∧ w ≤ 3) ∧ C.length = l.length
  · obtain ⟨h1, h2, h3⟩ := h
    rw [if_pos ⟨h1, h2, h3⟩, Prod.mk.injEq, Bool.and_eq_true, List.all_eq_true, List.all_eq_true]
    have gt : ∀ j, j < l.length → ∃ h : j < C.length, C.getD j 0 = C[j] := fun j hj => ⟨by omega, zgl C j (by omega) 0⟩
    constructor
    · rintro ⟨⟨h4, h5⟩, _⟩
      have bd : ∀ j, j < l.length → 0 ≤ C.getD j 0 ∧ C.getD j 0 ≤ 100 := fun j hj => by
        obtain ⟨hj', e⟩ := gt j hj
        rw [e]
        exact of_decide_eq_true (h4 _ (List.getElem_mem hj'))
      have ps := fun i hi => (zvm l C w h3 i).1 (h5 i (List.mem_range.2 hi))
      refine ⟨h1, h2, ⟨h3, fun j hj => (bd j hj).1, fun i j hij hj hd => (ps i (by omega)).1 j hj hij hd, fun c => ?_⟩, fun j hj => (bd j hj).2⟩
      by_cases hc : c ∈ C
      · obtain ⟨i, hi, rfl⟩ := List.getElem_of_mem hc
        have := (ps i (by omega)).2
        rw [zgl C i hi 0] at this
        omega
      · have : cnt C c = 0 := by
          unfold cnt
          rw [List.countP_eq_zero]
          intro y hy
          rw [decide_eq_true_eq]
          intro e
          exact hc (e ▸ hy)
        rw [this]
        exact Nat.zero_le _
    · rintro ⟨_, _, h6, h7⟩
      refine ⟨⟨fun x hx => ?_, fun i hi => (zvm l C w h3 i).2 ⟨fun j hj hij hd => h6.dl i j hij hj hd, ?_⟩⟩, rfl⟩
      · obtain ⟨j, hj, rfl⟩ := List.getElem_of_mem hx
        have h8 := h6.nn j (by omega)
        have h9 := h7 j (by omega)
        rw [zgl C j hj 0] at h8 h9
        exact decide_eq_true ⟨h8, h9⟩
      · have := h6.wide (C.getD i 0)
        omega
  · rw [if_neg h]
    refine ⟨fun e => (by cases e), fun q => absurd ⟨q.1, q.2.1, q.2.2.1.len⟩ h⟩
end Go.Proofs.YtabnafbgcpchdaaGreat.PL
end
section
namespace Go.Proofs.YtabnafbgcpchdaaGreat.PL
open Go Go.RowKit Go.Proofs.YtabnafbgcpchdaaGreatW.PrintWords Go.Proofs.YtabnafbgcpchdaaGreatW.PrintLast Go.Proofs.YtabnafbgcpchdaaGreatW.PrintMore Go.Proofs.YtabnafbgcpchdaaGreat.Q
set_option linter.unusedSimpArgs false
set_option linter.unusedVariables false
def negB (xs : List Int) : Bool := xs.any fun z => decide (z < 0)
def loR (l : List Instr) (a : Int) : List Int × Bool := if zel l = true ∧ (0 ≤ a ∧ a ≤ 100) ∧ negB (laL l a l.length l.length) = false then (laL l a l.length l.length, true) else ([], false)
theorem ycp (l : List Instr) (a : Int) : (loR l a).1.length ≤ 20 := by
  unfold loR
  split
  · rename_i h
    have := (zgm h.1).1
    show (laL l a l.length l.length).length ≤ 20
    rw [zhm]
    exact this
  · exact Nat.zero_le _
theorem yd1 (xs : List Int) (hl : xs.length ≤ 1048576) : Ev (fun k => za2 k xs) (negB xs) := by
  have hs : Ev (fun k => zbc k xs) (idx (fun z => decide (z < 0)) xs) := by
    unfold zbc
    refine zoq xs _ (fun k i => zao k xs xs.length i) ?_ (fun i z hi hx hp => ?_) (fun i z r hi hx hp hr => ?_)
    · refine zam (f := fun _ => some (-1)) (fun k => ?_) (Ev.now _)
      simp only [zao]
      rw [if_neg (by omega)]
    · exact zam (fun k => by simp only [zao, zn0 hx, zhs, Option.bind_some]; rfl) (zae (by omega) (zae (by omega) (zae (by omega) (zae hp (Ev.now _)))))
    · refine zam (fun k => by simp only [zao, zn0 hx, zhs, Option.bind_some]; rfl) (zae (by omega) (zae (by omega) (zae (by omega) (zas (by simpa using hp) ?_))))
      rw [w64n i (by omega)]
      exact hr
  unfold za2 negB
  refine Ev.bind hs (Ev.some ?_)
  have e := znp (fun z => decide (z < 0)) xs
  cases h : xs.any fun z => decide (z < 0) with
  | true =>
    obtain ⟨z, hz, hz'⟩ := List.any_eq_true.1 h
    exact decide_eq_true (e.2 ⟨z, hz, hz'⟩)
  | false =>
    refine decide_eq_false (fun q => ?_)
    obtain ⟨z, hz, hz'⟩ := e.1 q
    have := List.any_eq_false.1 h z hz
    exact this hz'
theorem zzj (l : List Instr) (a : Int) (hl : l.length ≤ 1048576) : Ev (fun k => zgg k l a) (loR l a) := by
  have no : ∀ R, loR l a = R → R = ([], false) → Ev (fun k => zdd k l a true) R := fun R _ h => by
    subst h
    exact zam (fun k => by simp only [zdd]; rfl) (zae trivial (Ev.now _))
  unfold zgg
  refine Ev.bind (zks l) ?_
  by_cases h : zel l = true
  · obtain ⟨h1, h2⟩ := zgm h
    refine zae h (Ev.call (zl9 _ _ _) ?_)
    by_cases ha : 0 ≤ a ∧ a ≤ 100
    · rw [decide_eq_true ha]
      refine zam (fun k => by simp only [zdd]; rfl) (zas (by decide) (Ev.bind (zsc l h1 a (by omega)) (Ev.bind (yd1 (laL l a l.length l.length) (by rw [zhm]; omega)) ?_)))
      by_cases hn : negB (laL l a l.length l.length) = false
      · rw [show loR l a = (laL l a l.length l.length, true) from if_pos ⟨h, ha, hn⟩]
        exact zas (by rw [hn]; decide) (Ev.now _)
      · rw [show loR l a = ([], false) from if_neg (fun q => hn q.2.2)]
        exact zae (by simpa using hn) (Ev.now _)
    · rw [decide_eq_false ha]
      exact no _ rfl (if_neg (fun q => ha q.2.1))
  · exact zas h (no _ rfl (if_neg (fun q => h q.1)))
theorem zt7 (x : Int) (xs : List Int) : negB (x :: xs) = (decide (x < 0) || negB xs) := rfl
theorem ybs (l : List Instr) (a : Int) (n d : Nat) (h : negB (laL l a n d) = true) : ∀ e, negB (laL l a n (d + e)) = true
  | 0 => h
  | e + 1 => by
    show negB (laC l a (n - 1 - (d + e)) (laL l a n (d + e)) (d + e) :: laL l a n (d + e)) = true
    rw [zt7, ybs l a n d h e, Bool.or_true]
theorem zzk (l : List Instr) (a : Int) (hl : l.length ≤ 1048576) : Ev (fun k => zgj k l a) (loR l a) := by
  have no : ∀ R, loR l a = R → R = ([], false) → Ev (fun k => zdg k l a true) R := fun R _ h => by
    subst h
    exact zam (fun k => by simp only [zdg]; rfl) (zae trivial (Ev.now _))
  unfold zgj
  refine Ev.bind (zma l) ?_
  by_cases h : zel l = true
  · obtain ⟨h1, h2⟩ := zgm h
    refine zae h (Ev.call (zr8 _ _ _) ?_)
    by_cases ha : 0 ≤ a ∧ a ≤ 100
    · rw [decide_eq_true ha]
      refine zam (fun k => by simp only [zdg]; rfl) (zas (by decide) (Ev.bind (zn3 l (by omega) h2) ?_))
      refine zae (by omega) (zae (by omega) ?_)
      rw [Int.toNat_natCast, w64 (by omega) (by omega)]
      have key : ∀ (m d : Nat), d + m = l.length → negB (laL l a l.length d) = false → Ev (fun k => zc1 k l a (tabS l l.length) (List.replicate m 0 ++ laL l a l.length d) ((m : Int) - 1)) (loR l a) := by
        intro m
        induction m with
        | zero =>
          intro d hd hn
          obtain rfl : d = l.length := by omega
          refine zam (fun k => by simp only [zc1]; rfl) (zas (by omega) (Ev.some ?_))
          unfold loR
          rw [if_pos ⟨h, ha, hn⟩]
          rfl
        | succ m ih =>
          intro d hd hn
          have hmem : l.getD m zI ∈ l := by rw [zgl l m (by omega)]; exact List.getElem_mem _
          have hok := h2 _ hmem
          have hc := zn1 (cls (l.getD m zI).f0)
          have hlenR : (List.replicate m (0 : Int)).length = m := List.length_replicate
          refine zam (fun k => by simp only [zc1]; rfl) (zae (by omega) ?_)
          rw [show ((m + 1 : Nat) : Int) - 1 = (m : Int) by omega]
          refine zae (by omega) (zae (by omega) ?_)
          rw [zpe (x := l.getD m zI) (fun d' => by rw [zgl l m (by omega) d', zgl l m (by omega) zI])]
          refine Ev.call (zos _ hok.1) (zae (by rw [List.length_append, List.length_replicate, zhm]; omega) ?_)
          rw [w64 (x := a - _) (by omega) (by omega), List.replicate_succ', List.append_assoc, List.singleton_append, zij _ _ _ _ m hlenR, w64n m (by omega)]
          have hlast : laL l a l.length (d + 1) = laC l a m (laL l a l.length d) d :: laL l a l.length d := by
            have : laL l a l.length (d + 1) = laC l a (l.length - 1 - d) (laL l a l.length d) d :: laL l a l.length d := rfl
            rw [this, show l.length - 1 - d = m by omega]
          refine zx8 l h1 a (by omega) m (List.replicate m 0) hlenR d (by omega) (loR l a) ?_ d 0 (by omega)
          refine zae (by omega) (zae (by rw [List.length_append, List.length_cons, List.length_replicate]; omega) ?_)
          rw [zor _ _ _ m hlenR, ← hlast, w64 (by omega) (by omega)]
          by_cases hx : laC l a m (laL l a l.length d) d < 0
          · refine zae hx (Ev.some ?_)
            have hneg : negB (laL l a l.length (d + 1)) = true := by rw [hlast, zt7, decide_eq_true hx, Bool.true_or]
            have := ybs l a l.length (d + 1) hneg m
            rw [show d + 1 + m = l.length by omega] at this
            unfold loR
            rw [if_neg (fun q => by rw [q.2.2] at this; cases this)]
          · refine zas hx (ih (d + 1) (by omega) ?_)
            rw [hlast, zt7, decide_eq_false hx, Bool.false_or]
            exact hn
      have := key l.length 0 (by omega) rfl
      rw [laL, List.append_nil] at this
      exact this
    · rw [decide_eq_false ha]
      exact no _ rfl (if_neg (fun q => ha q.2.1))
  · exact zas h (no _ rfl (if_neg (fun q => h q.1)))
def eoR (l : List Instr) : List Int × Bool := if zel l = true then (eaL l l.length, true) else ([], false)
theorem ycq (l : List Instr) : (eoR l).1.length ≤ 20 := by
  unfold eoR
  split
  · rename_i h
    have := (zgm h).1
    show (eaL l l.length).length ≤ 20
    rw [zg0]
    exact this
  · exact Nat.zero_le _
theorem zzl (l : List Instr) (hl : l.length ≤ 1048576) : Ev (fun k => zff k l) (eoR l) := by
  unfold zff
  refine Ev.bind (zks l) ?_
  unfold eoR
  by_cases h : zel l = true
  · obtain ⟨h1, h2⟩ := zgm h
    rw [if_pos h]
    exact zae h (Ev.bind (zr9 l h1) (Ev.now _))
  · rw [if_neg h]
    exact zas h (Ev.now _)
theorem zzm (l : List Instr) (hl : l.length ≤ 1048576) : Ev (fun k => zfi k l) (eoR l) := by
  unfold zfi
  refine Ev.bind (zma l) ?_
  unfold eoR
  by_cases h : zel l = true
  · obtain ⟨h1, h2⟩ := zgm h
    rw [if_pos h]
    exact zae h (Ev.bind (zqc l h1 h2) (Ev.now _))
  · rw [if_neg h]
    exact zas h (Ev.now _)
def pbR (l : List Instr) : Int × Bool := if zel l = true then ((hts l l.length).foldl max 0, true) else (0, false)
theorem zvn (a : Int) : ∀ (xs : List Int) (b : Int), xs.foldl max (max a b) = max a (xs.foldl max b)
  | [], _ => rfl
  | x :: xs, b => by
    show xs.foldl max (max (max a b) x) = max a (xs.foldl max (max b x))
    rw [Int.max_assoc, zvn a xs (max b x)]
theorem yd2 (X : List Int) (h0 : 0 < X.length) (hX : X.length ≤ 1048576) : Ev (fun k => zd4 k X) ((X.drop 1).foldl max (rd X 0)) := by
  have key : ∀ (d i : Nat) (m : Int), i + d = X.length → Ev (fun k => zbz k X m i) ((X.drop i).foldl max m) := by
    intro d
    induction d with
    | zero =>
      intro i m hi
      refine zam (f := fun _ => some m) (fun k => ?_) (Ev.some ?_)
      · simp only [zbz]
        rw [if_neg (by omega)]
      · rw [List.drop_of_length_le (by omega)]
        rfl
    | succ d ih =>
      intro i m hi
      have hlt : i < X.length := by omega
      have next := ih (i + 1) (max m X[i]) (by omega)
      rw [List.drop_eq_getElem_cons hlt]
      refine zam (fun k => by simp only [zbz]; rfl) (zae (by omega) (zae (by omega) ?_))
      rw [zn0 (zgl X i hlt), zyy, w64n i (by omega)]
      exact next
  unfold zd4
  exact zas (by omega) (zae (by omega) (key (X.length - 1) 1 _ (by omega)))
theorem zvo (l : List Instr) (hl : l.length ≤ 1048576) : Ev (fun k => ze6 k l) (pbR l) := by
  unfold ze6
  refine Ev.bind (zks l) ?_
  by_cases h : zel l = true
  · obtain ⟨h1, h2⟩ := zgm h
    rw [show pbR l = ((hts l l.length).foldl max 0, true) from if_pos h]
    have hh : (hts l l.length).length = l.length := by unfold hts; rw [zn4, zhm]
    refine zae h (Ev.bind (zxf l h1) (zae (by omega) ?_))
    have hlen : (hts l l.length ++ [0]).length = l.length + 1 := by rw [List.length_append, hh]; rfl
    refine Ev.bind (yd2 (hts l l.length ++ [0]) (by omega) (by omega)) (Ev.some ?_)
    congr 1
    cases hts l l.length with
    | nil => rfl
    | cons x t =>
      show (t ++ [0]).foldl max x = t.foldl max (max 0 x)
      rw [List.foldl_append, zvn]
      show max (t.foldl max x) 0 = max 0 (t.foldl max x)
      exact Int.max_comm _ _
  · rw [show pbR l = (0, false) from if_neg h]
    exact zas h (Ev.now _)
def wbR (l : List Instr) (w : Int) : Int × Bool := if zel l = true ∧ 1 ≤ w ∧ w ≤ 3 then (wbM l (eaL l l.length) w l.length, true) else (0, false)
theorem mn_eq (a b : Int) : mn a b = min a b := by unfold mn; omega
theorem zzn (l : List Instr) (w : Int) (hl : l.length ≤ 1048576) : Ev (fun k => zfr k l w) (wbR l w) := by
  unfold zfr
  refine Ev.bind (zks l) ?_
  unfold wbR
  by_cases h : zel l = true
  · obtain ⟨h1, h2⟩ := zgm h
    have hw : zea w = some (decide (1 ≤ w ∧ w ≤ 3)) := by
      unfold zea
      rw [zl9]
      rfl
    refine zae h (Ev.call hw (zam (fun k => by simp only [zdi]; rfl) ?_))
    by_cases hq : 1 ≤ w ∧ w ≤ 3
    · rw [if_pos ⟨h, hq⟩]
      refine zas (by simp [hq]) (Ev.bind (zr9 l h1) ?_)
      rw [zg0]
      have inner : ∀ (m : Int) (i : Nat) (c : Int) (T : Int × Bool), Ev (fun k => zcf k l w (max m (wbQ w c (wbC l (eaL l l.length) c l.length))) (eaL l l.length) (eaL l l.length) l.length (wrap64 ((i : Int) + 1))) T →
          ∀ (d u : Nat), u + d = l.length → Ev (fun k => zcg k l w m (eaL l l.length) c (wbC l (eaL l l.length) c u).1 (wbC l (eaL l l.length) c u).2 (eaL l l.length) l.length i l l.length u) T := by
        intro m i c T hc d
        induction d with
        | zero =>
          intro u hu
          obtain rfl : u = l.length := by omega
          refine zam (fun k => by simp only [zcg]; rfl) (zas (by omega) (zas (by omega) ?_))
          rw [zyy]
          exact hc
        | succ d ih =>
          intro u hu
          have next := ih (u + 1) (by omega)
          unfold wbC at next
          refine zam (fun k => by simp only [zcg]; rfl) (zae (by omega) (zae (by omega) (zae (by omega) (zae (by rw [zg0]; omega) ?_))))
          rw [zr7, w64n u (by omega)]
          by_cases hd : rd (eaL l l.length) u ≥ c
          · rw [if_pos hd] at next
            refine zae hd (Ev.call (ztw (l.getD u zI)) ?_)
            rw [mn_eq]
            exact next
          · rw [if_neg hd] at next
            exact zas hd next
      have key : ∀ (d i : Nat), i + d = l.length → Ev (fun k => zcf k l w (wbM l (eaL l l.length) w i) (eaL l l.length) (eaL l l.length) l.length i) (wbM l (eaL l l.length) w l.length, true) := by
        intro d
        induction d with
        | zero =>
          intro i hi
          obtain rfl : i = l.length := by omega
          refine zam (f := fun _ => some (wbM l (eaL l l.length) w l.length, true)) (fun k => ?_) (Ev.now _)
          simp only [zcf]
          rw [if_neg (by omega)]
        | succ d ih =>
          intro i hi
          have next := ih (i + 1) (by omega)
          refine zam (fun k => by simp only [zcf]; rfl) (zae (by omega) (zae (by omega) (zae (by rw [zg0]; omega) ?_)))
          refine inner (wbM l (eaL l l.length) w i) i (rd (eaL l l.length) i) _ ?_ l.length 0 (by omega)
          rw [w64n i (by omega)]
          exact next
      exact key l.length 0 (by omega)
    · rw [if_neg (fun q => hq q.2)]
      exact zae (by simp [hq]) (Ev.now _)
  · rw [if_neg (fun q => h q.1)]
    refine zas h (zam (fun k => by simp only [zdi]; rfl) ?_)
    exact zae trivial (Ev.now _)
end Go.Proofs.YtabnafbgcpchdaaGreat.PL
end
section
namespace Go.Proofs.YtabnafbgcpchdaaGreat.PL
open Go Go.RowKit Go.Proofs.YtabnafbgcpchdaaGreatW.PrintWords Go.Proofs.YtabnafbgcpchdaaGreatW.PrintLast Go.Proofs.YtabnafbgcpchdaaGreatW.PrintMore Go.Proofs.YtabnafbgcpchdaaGreat.Q
set_option linter.unusedSimpArgs false
set_option linter.unusedVariables false
set_option linter.unusedSectionVars false
theorem zxp (l : List Instr) (o : List Int) (j : Nat) (ho : ∀ i, 0 ≤ o.getD i 0 ∧ o.getD i 0 ≤ 1000) : ∀ u, u ≤ j → bsFi (rowI l j j) o u = eaC l o j u
  | 0, _ => rfl
  | u + 1, h => by
    have ih := zxp l o j ho u (by omega)
    have h1 := ho u
    have h2 := znq l u j
    unfold bsFi eaC
    rw [ih, zpr l j j u (by omega), rdB, w64 (by omega) (by omega), zyy]
theorem zvp (p q : Int → Option (List Int)) : ∀ (m : Nat) (c : Int), (∀ t : Nat, t < m → p (c + t) = q (c + t)) → bsSr p m c = srch q m c
  | 0, _, _ => rfl
  | m + 1, c, h => by
    have h0 := h 0 (by omega)
    rw [show c + ((0 : Nat) : Int) = c by omega] at h0
    unfold bsSr srch
    rw [h0]
    cases q c with
    | some r => rfl
    | none => exact zvp p q m (c + 1) (fun t ht => by have := h (t + 1) (by omega); rwa [show c + ((t + 1 : Nat) : Int) = c + 1 + t by omega] at this)
theorem ybt (o : List Int) (c B : Int) (hB : 0 ≤ B) (ho : ∀ i, 0 ≤ o.getD i 0 ∧ o.getD i 0 ≤ B) (hc : 0 ≤ c ∧ c ≤ B) (i : Nat) : 0 ≤ (o ++ [c]).getD i 0 ∧ (o ++ [c]).getD i 0 ≤ B := by
  rw [zln]
  split
  · exact ho i
  · match h : i - o.length with
    | 0 => exact hc
    | m + 1 => show 0 ≤ (0 : Int) ∧ (0 : Int) ≤ B; omega
theorem ybu (l : List Instr) (hl : l.length ≤ 7) (w : Nat) (len : Int) (hlen : 0 ≤ len ∧ len ≤ 1000) : ∀ (d : Nat) (o : List Int), o.length + d = l.length → (∀ i, 0 ≤ o.getD i 0 ∧ o.getD i 0 ≤ 1000) → bsF (tabI l l.length) (laL l len l.length l.length) w d o = fnd l w len d o
  | 0, _, _, _ => rfl
  | d + 1, o, hd, ho => by
    have hj : o.length < l.length := by omega
    have hh := zsh l o.length hj
    have hf := zxk l o o.length o.length
    simp only [bsF, fnd]
    rw [zm8 l l.length o.length hj, zxp l o o.length ho o.length (Nat.le_refl _), rdB, znr l len o.length hj, show len - htAt l o.length - eaC l o o.length o.length + 1 = len - htAt l o.length + 1 - eaC l o o.length o.length by omega]
    refine zvp _ _ _ _ (fun t ht => ?_)
    have ih := ybu l hl w len hlen d (o ++ [eaC l o o.length o.length + (t : Int)]) (by rw [List.length_append, List.length_singleton]; omega) (ybt o _ 1000 (by omega) ho (by omega))
    show (if cnt o (eaC l o o.length o.length + (t : Int)) = w then none else bsF (tabI l l.length) (laL l len l.length l.length) w d (o ++ [eaC l o o.length o.length + (t : Int)])) = _
    rw [ih]
theorem ycr (l : List Instr) (hl : l.length ≤ 7) (len : Int) (hlen : 0 ≤ len ∧ len ≤ 100) : bsOk (tabI l l.length) (laL l len l.length l.length) l.length = true := by
  unfold bsOk
  rw [Bool.and_eq_true, decide_eq_true_eq, List.all_eq_true]
  refine ⟨⟨hl, zmv l l.length, zhm l len l.length l.length⟩, fun j hj => ?_⟩
  have hj := List.mem_range.1 hj
  have hb := zsa l len l.length l.length j hj
  rw [Bool.and_eq_true, decide_eq_true_eq, List.all_eq_true, zm8 l l.length j hj, rdB]
  refine ⟨⟨zmu l j j, by omega, by omega⟩, fun x hx => ?_⟩
  obtain ⟨u, _, rfl⟩ := List.mem_map.1 hx
  have := znq l u j
  exact decide_eq_true (by omega)
theorem zxq (l : List Instr) (hl : l.length ≤ 7) (w : Nat) (hw : 1 ≤ w) : ∀ (m len : Nat), len + m = 101 → 0 < m → ∃ K f0, ∀ k f, K ≤ k → f0 ≤ f → zrj k l (tabI l l.length) w f len = some (bsGo l w m len, true)
  | 0, _, _, h => absurd h (Nat.lt_irrefl 0)
  | m + 1, len, hm, _ => by
    obtain ⟨K, hK⟩ := zsc l (by omega) len (by omega)
    have hF := ybu l hl w len (by omega) l.length [] (by simp) (fun i => by simp)
    have hO := ycr l hl len (by omega)
    have base : ∀ k f, K ≤ k → zrj k l (tabI l l.length) w (f + 1) len = match fnd l w len l.length [] with
      | some r => some (r, true)
      | none => zrj k l (tabI l l.length) w f ((len : Int) + 1) := fun k f hk => by
        have hk' : zfm k l len = some (laL l len l.length l.length) := hK k hk
        simp only [zrj]
        rw [hk', Option.bind_some, if_pos ⟨hO, by omega⟩, hF]
        cases fnd l w len l.length [] <;> rfl
    unfold bsGo
    cases e : fnd l w len l.length [] with
    | some r => exact ⟨K, 1, fun k f hk hf => by obtain ⟨f, rfl⟩ : ∃ f', f = f' + 1 := ⟨f - 1, by omega⟩; rw [base k f hk, e]⟩
    | none =>
      by_cases h0 : m = 0
      · have := zt5 l hl w hw
        obtain rfl : len = 100 := by omega
        have e' : fnd l w 100 l.length [] = none := e
        rw [e'] at this
        cases this
      · obtain ⟨K', f0, h⟩ := zxq l hl w hw m (len + 1) (by omega) (by omega)
        exact ⟨max K K', f0 + 1, fun k f hk hf => by
          obtain ⟨f, rfl⟩ : ∃ f', f = f' + 1 := ⟨f - 1, by omega⟩
          rw [base k f (by omega), e]
          exact h k f (by omega) (by omega)⟩
def bsR (l : List Instr) (a : Int) : List Int × Bool := if zel l = true ∧ (1 ≤ a ∧ a ≤ 3) ∧ l.length ≤ 7 then (bsL l a.toNat, true) else ([], false)
theorem zvq (l : List Instr) (a : Int) : Ev (fun k => zds k l a) (bsR l a) := by
  unfold zds
  refine Ev.bind (zvb l) ?_
  have he := zqv l
  by_cases hc : zpf l = true
  · refine zae hc ?_
    by_cases h7 : (l.length : Int) > 7
    · rw [show bsR l a = ([], false) from if_neg (fun q => by omega)]
      exact zae h7 (Ev.now _)
    · have h : zel l = true := by rw [he, hc, Bool.true_and]; exact decide_eq_true (by omega)
      refine zas h7 (Ev.call (show zea a = some (decide (1 ≤ a ∧ a ≤ 3)) from by unfold zea; rw [zl9]; rfl) ?_)
      by_cases ha : 1 ≤ a ∧ a ≤ 3
      · obtain ⟨n, rfl⟩ := Int.eq_ofNat_of_zero_le (show 0 ≤ a by omega)
        rw [show bsR l n = (bsL l n, true) from if_pos ⟨h, ha, by omega⟩]
        refine zae (decide_eq_true ha) (zae (by omega) (Ev.bind (zot l (by omega)) ?_))
        obtain ⟨K, f0, hh⟩ := zxq l (by omega) n (by omega) 101 0 rfl (by omega)
        exact ⟨max K f0, fun k hk => hh k k (by omega) (by omega)⟩
      · rw [show bsR l a = ([], false) from if_neg (fun q => ha q.2.1)]
        exact zas (by rw [decide_eq_false ha]; decide) (Ev.now _)
  · rw [show bsR l a = ([], false) from if_neg (fun q => by rw [he] at q; simp [hc] at q)]
    exact zas hc (Ev.now _)
def outB : Option (List Int) → List Int × Bool
  | some r => (r, true)
  | none => ([], false)
theorem zzo (l : List Int) (h : l.length ≤ 1048576) : zjx l = some l := by
  unfold zjx
  rw [Option.bind_some, if_pos (by simp; omega)]
  rfl
theorem zt8 (l : List Instr) : (hts l l.length).length = l.length := by unfold hts; rw [zn4, zhm]
theorem yay (o : List Int) (u : Nat) (c : Int) (h : u < o.length) : cnt (o.take (u + 1)) c = cnt (o.take u) c + if o.getD u 0 = c then 1 else 0 := by
  have e : o.getD u 0 = o[u] := by rw [List.getD_eq_getElem?_getD, List.getElem?_eq_getElem h]; rfl
  unfold cnt
  rw [List.take_succ_eq_append_getElem h, List.countP_append, List.countP_cons, List.countP_nil, Nat.zero_add, e]
  by_cases q : o[u] = c <;> simp [q]
section
variable (l : List Instr) (hl : l.length ≤ 7) (w : Nat) (len : Int) (hlen : 0 ≤ len ∧ len ≤ 1000)
include hl hlen
theorem zya (o : List Int) (ho : ∀ i, 0 ≤ o.getD i 0 ∧ o.getD i 0 ≤ 1000) (hj : o.length < l.length) (T : List Int × Bool) (hc : Ev (fun k => zdo k l (tabS l l.length) (hts l l.length) o w len o.length (eaC l o o.length o.length)) T) :
    ∀ (m u : Nat), u + m = o.length → Ev (fun k => zd0 k l (tabS l l.length) (hts l l.length) o w len o.length (eaC l o o.length u) o o.length u) T := by
  intro m
  induction m with
  | zero =>
    intro u hu
    obtain rfl : u = o.length := by omega
    exact zam (fun k => by simp only [zd0]; rfl) (zas (by omega) hc)
  | succ m ih =>
    intro u hu
    have next := ih (u + 1) (by omega)
    refine zam (fun k => by simp only [zd0]; rfl) (zae (by omega) (zae (by omega) (zae (by omega) (zae (by rw [zqb]; omega) (zae (by omega) ?_)))))
    rw [ztx l l.length u (by omega)]
    refine zae (by rw [zo3]; omega) ?_
    rw [zty l u l.length o.length (by omega), w64n u (by omega), show dlyS l u o.length = dly l u o.length from by unfold dlyS; rw [if_pos (by omega)]]
    unfold eaC at next
    by_cases hd : dly l u o.length ≥ 0
    · rw [if_pos hd] at next
      have b1 := ho u
      have b2 := znq l u o.length
      refine zae hd ?_
      rw [rdB, w64 (by omega) (by omega)]
      exact Ev.call (zqw _ _) next
    · rw [if_neg hd] at next
      exact zas hd next
theorem zzp : ∀ (d : Nat) (o : List Int), o.length + d = l.length → (∀ i, 0 ≤ o.getD i 0 ∧ o.getD i 0 ≤ 1000) → Ev (fun k => zdu k l (tabS l l.length) (hts l l.length) o w len) (outB (fnd l w len d o)) := by
  intro d
  induction d with
  | zero =>
    intro o hd ho
    exact zam (fun k => by simp only [zdu]; rfl) (zae (by omega) (Ev.call (zzo o (by omega)) (Ev.some rfl)))
  | succ d ihd =>
    intro o hd ho
    have hj : o.length < l.length := by omega
    have hh := zsh l o.length hj
    have hf := zxa l o 1000 (by omega) ho o.length o.length
    refine zam (fun k => by simp only [zdu]; rfl) (zas (by omega) ?_)
    refine zya l hl w len hlen o ho hj _ ?_ o.length 0 (by omega)
    show Ev _ (outB (srch (fun c => if cnt o c = w then none else fnd l w len d (o ++ [c])) (len - htAt l o.length + 1 - eaC l o o.length o.length).toNat (eaC l o o.length o.length)))
    generalize eaC l o o.length o.length = c0 at hf
    have search : ∀ (m : Nat) (c : Int), 0 ≤ c → c ≤ 1100 → (len - htAt l o.length + 1 - c).toNat = m → Ev (fun k => zdo k l (tabS l l.length) (hts l l.length) o w len o.length c) (outB (srch (fun c => if cnt o c = w then none else fnd l w len d (o ++ [c])) m c)) := by
      intro m
      induction m with
      | zero =>
        intro c h0 h1 hm
        refine zam (fun k => by simp only [zdo]; rfl) (zae (by omega) (zae (by rw [zt8]; omega) ?_))
        rw [rdB, show (hts l l.length).getD o.length 0 = htAt l o.length from rfl, w64 (by omega) (by omega)]
        exact zas (by omega) (Ev.some rfl)
      | succ m ih =>
        intro c h0 h1 hm
        have next := ih (c + 1) (by omega) (by omega) (by omega)
        refine zam (fun k => by simp only [zdo]; rfl) (zae (by omega) (zae (by rw [zt8]; omega) ?_))
        rw [rdB, show (hts l l.length).getD o.length 0 = htAt l o.length from rfl, w64 (by omega) (by omega)]
        refine zae (by omega) ?_
        have inner : ∀ (e u : Nat), u + e = o.length → Ev (fun k => zd1 k l (tabS l l.length) (hts l l.length) o w len o.length c (cnt (o.take u) c : Nat) o o.length u) (outB (srch (fun c => if cnt o c = w then none else fnd l w len d (o ++ [c])) (m + 1) c)) := by
          intro e
          induction e with
          | zero =>
            intro u hu
            obtain rfl : u = o.length := by omega
            refine zam (fun k => by simp only [zd1]; rfl) (zas (by omega) ?_)
            rw [List.take_length, w64 (x := c + 1) (by omega) (by omega)]
            by_cases q : cnt o c = w
            · rw [show srch (fun c => if cnt o c = w then none else fnd l w len d (o ++ [c])) (m + 1) c = srch (fun c => if cnt o c = w then none else fnd l w len d (o ++ [c])) m (c + 1) from by rw [srch]; simp only [if_pos q]]
              exact zae (by omega) next
            · refine zas (by omega) (Ev.call (zzo o (by omega)) (zae (by omega) (Ev.bind (ihd (o ++ [c]) (by rw [List.length_append, List.length_singleton]; omega) (ybt o c 1000 (by omega) ho (by omega))) ?_)))
              cases hfn : fnd l w len d (o ++ [c]) with
              | some r =>
                rw [show srch (fun c => if cnt o c = w then none else fnd l w len d (o ++ [c])) (m + 1) c = some r from by rw [srch]; simp only [if_neg q, hfn]]
                exact zae rfl (Ev.some rfl)
              | none =>
                rw [show srch (fun c => if cnt o c = w then none else fnd l w len d (o ++ [c])) (m + 1) c = srch (fun c => if cnt o c = w then none else fnd l w len d (o ++ [c])) m (c + 1) from by rw [srch]; simp only [if_neg q, hfn]]
                exact zas (by simp [outB]) next
          | succ e ihe =>
            intro u hu
            have nextu := ihe (u + 1) (by omega)
            have hcn : cnt (o.take u) c ≤ u := Nat.le_trans List.countP_le_length (by rw [List.length_take]; omega)
            rw [yay o u c (by omega)] at nextu
            refine zam (fun k => by simp only [zd1]; rfl) (zae (by omega) (zae (by omega) (zae (by omega) ?_)))
            rw [rdB, w64n u (by omega), w64n (cnt (o.take u) c) (by omega)]
            by_cases q : o.getD u 0 = c
            · rw [if_pos q] at nextu
              exact zae q nextu
            · rw [if_neg q] at nextu
              exact zas q nextu
        have := inner o.length 0 (by omega)
        exact this
    exact search _ c0 (by omega) (by omega) rfl
end
theorem zzq (a b : Int) : zg1 a b = some (min a b) := by
  unfold zg1
  by_cases q : a < b
  · rw [if_pos q]; congr 1; omega
  · rw [if_neg q]; congr 1; omega
theorem zvr (l : List Instr) (h1 : l.length ≤ 20) (h2 : ∀ x ∈ l, okI x) : Ev (fun k => zgy k l) ((hts l l.length).foldl max 0) := by
  have hh := zt8 l
  unfold zgy
  refine Ev.bind (zxg l h1 h2) ?_
  generalize hts l l.length = X at hh ⊢
  have key : ∀ (d i : Nat) (m : Int), i + d = X.length → Ev (fun k => zen k m X X.length i) ((X.drop i).foldl max m) := by
    intro d
    induction d with
    | zero =>
      intro i m hi
      refine zam (f := fun _ => some m) (fun k => ?_) (Ev.some ?_)
      · simp only [zen]
        rw [if_neg (by omega)]
      · rw [List.drop_of_length_le (by omega)]
        rfl
    | succ d ih =>
      intro i m hi
      have hlt : i < X.length := by omega
      have next := ih (i + 1) (max m X[i]) (by omega)
      rw [List.drop_eq_getElem_cons hlt]
      refine zam (fun k => by simp only [zen]; rfl) (zae (by omega) (zae (by omega) (zae (by omega) ?_)))
      rw [zn0 (zgl X i hlt)]
      refine Ev.call (zqw _ _) ?_
      rw [w64n i (by omega)]
      exact next
  exact key X.length 0 0 (by omega)
theorem zyb (l : List Instr) (h1 : l.length ≤ 20) (h2 : ∀ x ∈ l, okI x) (w : Int) (hq : 1 ≤ w ∧ w ≤ 3) : Ev (fun k => zg3 k l w) (wbM l (eaL l l.length) w l.length) := by
  unfold zg3
  refine Ev.bind (zqc l h1 h2) ?_
  rw [zg0]
  have inner : ∀ (m : Int) (i : Nat) (c : Int) (T : Int), Ev (fun k => zdk k l w (eaL l l.length) (max m (wbQ w c (wbC l (eaL l l.length) c l.length))) (eaL l l.length) l.length (wrap64 ((i : Int) + 1))) T →
      ∀ (d u : Nat), u + d = l.length → Ev (fun k => zdl k l w (eaL l l.length) m c (wbC l (eaL l l.length) c u).1 (wbC l (eaL l l.length) c u).2 (eaL l l.length) l.length i l l.length u) T := by
    intro m i c T hc d
    induction d with
    | zero =>
      intro u hu
      obtain rfl : u = l.length := by omega
      exact zam (fun k => by simp only [zdl]; rfl) (zas (by omega) (zas (by omega) (Ev.call (zqw _ _) hc)))
    | succ d ih =>
      intro u hu
      have next := ih (u + 1) (by omega)
      unfold wbC at next
      refine zam (fun k => by simp only [zdl]; rfl) (zae (by omega) (zae (by omega) (zae (by omega) (zae (by rw [zg0]; omega) ?_))))
      rw [zr7, w64n u (by omega)]
      by_cases hd : rd (eaL l l.length) u ≥ c
      · rw [if_pos hd] at next
        have ho := okAt (P := okI) l u (by omega) h2
        exact zae hd (Ev.call (zos _ ho.1) (Ev.call (zzq _ _) next))
      · rw [if_neg hd] at next
        exact zas hd next
  have key : ∀ (d i : Nat), i + d = l.length → Ev (fun k => zdk k l w (eaL l l.length) (wbM l (eaL l l.length) w i) (eaL l l.length) l.length i) (wbM l (eaL l l.length) w l.length) := by
    intro d
    induction d with
    | zero =>
      intro i hi
      obtain rfl : i = l.length := by omega
      refine zam (f := fun _ => some (wbM l (eaL l l.length) w l.length)) (fun k => ?_) (Ev.now _)
      simp only [zdk]
      rw [if_neg (by omega)]
    | succ d ih =>
      intro i hi
      have next := ih (i + 1) (by omega)
      refine zam (fun k => by simp only [zdk]; rfl) (zae (by omega) (zae (by omega) (zae (by rw [zg0]; omega) ?_)))
      refine inner (wbM l (eaL l l.length) w i) i (rd (eaL l l.length) i) _ ?_ l.length 0 (by omega)
      rw [w64n i (by omega)]
      exact next
  exact key l.length 0 (by omega)
theorem zrd : ∀ (xs : List Int) (m : Int), m ≤ xs.foldl max m
  | [], m => Int.le_refl _
  | x :: xs, m => by have := zrd xs (max m x); show m ≤ xs.foldl max (max m x); omega
theorem zvs (l : List Instr) (hl : l.length ≤ 7) (ok : ∀ x ∈ l, okI x) (w : Nat) (hw : 1 ≤ w ∧ w ≤ 3) : Ev (fun k => zgz k l w) (bsL l w) := by
  have hP := zvr l (by omega) ok
  have hB := zyb l (by omega) ok w (by omega)
  have hp0 := zrd (hts l l.length) 0
  unfold zgz
  refine Ev.bind (zn3 l (by omega) ok) (Ev.bind (zxg l (by omega) ok) (Ev.bind hP (Ev.bind hB (Ev.call (zqw _ _) ?_))))
  obtain ⟨s, hs⟩ := Int.eq_ofNat_of_zero_le (show 0 ≤ max ((hts l l.length).foldl max 0) (wbM l (eaL l l.length) w l.length) by omega)
  have hnone : ∀ n : Nat, n < s → fnd l w n l.length [] = none := fun n hn => ycl l (by omega) w hw n (by omega)
  rw [hs]
  have hsome := zt5 l hl w hw.1
  have h100 : s ≤ 100 := by
    refine Nat.le_of_not_lt fun hlt => ?_
    have e : fnd l w 100 l.length [] = none := hnone 100 hlt
    rw [e] at hsome
    cases hsome
  have key : ∀ (m n : Nat), n + m = 101 → 0 < m → Ev (fun k => ze2 k l w (tabS l l.length) (hts l l.length) n) (bsGo l w m n) := by
    intro m
    induction m with
    | zero => intro n _ h; exact absurd h (Nat.lt_irrefl 0)
    | succ m ih =>
      intro n hn _
      refine zam (fun k => by simp only [ze2]; rfl) (Ev.bind (zzp l hl w n (by omega) l.length [] (by simp) (fun i => by simp)) ?_)
      unfold bsGo
      cases e : fnd l w n l.length [] with
      | some r => exact zae rfl (Ev.some rfl)
      | none =>
        refine zas (by simp [outB]) ?_
        by_cases h0 : m = 0
        · obtain rfl : n = 100 := by omega
          have e' : fnd l w 100 l.length [] = none := e
          rw [e'] at hsome
          cases hsome
        · rw [w64n n (by omega)]
          exact ih (n + 1) (by omega) (by omega)
  have := key (101 - s) s (by omega) (by omega)
  rw [← zvj l w s hnone s 0 (101 - s) (by omega), show 101 - s + s = 101 by omega] at this
  exact this
theorem zzr (l : List Instr) (a : Int) : Ev (fun k => zej k l a) (bsR l a) := by
  unfold zej
  refine Ev.bind (zma l) ?_
  by_cases h : zel l = true
  · obtain ⟨h1, h2⟩ := zgm h
    refine zae h (Ev.call (show zhj a = some (decide (1 ≤ a ∧ a ≤ 3)) from by unfold zhj; rw [zr8]; rfl) ?_)
    by_cases ha : 1 ≤ a ∧ a ≤ 3
    · refine zae (decide_eq_true ha) ?_
      by_cases h7 : (l.length : Int) > 7
      · rw [show bsR l a = ([], false) from if_neg (fun q => by omega)]
        exact zae h7 (Ev.now _)
      · obtain ⟨n, rfl⟩ := Int.eq_ofNat_of_zero_le (show 0 ≤ a by omega)
        rw [show bsR l n = (bsL l n, true) from if_pos ⟨h, ha, by omega⟩]
        exact zas h7 (Ev.bind (zvs l (by omega) h2 n (by omega)) (Ev.now _))
    · rw [show bsR l a = ([], false) from if_neg (fun q => ha q.2.1)]
      exact zas (by rw [decide_eq_false ha]; decide) (Ev.now _)
  · rw [show bsR l a = ([], false) from if_neg (fun q => h q.1)]
    exact zas h (Ev.now _)
theorem zxr (l : List Instr) (w : Nat) : ∀ (f : Nat) (len : Int), (bsGo l w f len).length ≤ l.length
  | 0, _ => Nat.zero_le _
  | f + 1, len => by
    unfold bsGo
    cases e : fnd l w len l.length [] with
    | some r =>
      obtain ⟨_, h⟩ := zs9 l w len l.length [] r (zsf l w len) e
      simp only
      rw [h]
      simp
    | none => exact zxr l w f (len + 1)
theorem ycs (l : List Instr) (a : Int) : (bsR l a).1.length ≤ 20 := by
  unfold bsR
  split
  · rename_i h
    have := zxr l a.toNat 101 0
    have := h.2.2
    show (bsGo l a.toNat 101 0).length ≤ 20
    omega
  · exact Nat.zero_le _
end Go.Proofs.YtabnafbgcpchdaaGreat.PL
end
section
namespace Go.Proofs.YtabnafbgcpchdaaGreat.PL
open Go Go.RowKit Go.Proofs.YtabnafbgcpchdaaGreatW.PrintWords Go.Proofs.YtabnafbgcpchdaaGreatW.PrintLast Go.Proofs.YtabnafbgcpchdaaGreatW.PrintMore Go.Proofs.YtabnafbgcpchdaaGreat.Q
set_option linter.unusedSimpArgs false
set_option linter.unusedVariables false
theorem zsj (l : List Instr) (c : List Int) (h1 : l.length ≤ 20) (h2 : ∀ x ∈ l, okI x) (h3 : c.length = l.length) (h4 : ∀ n ∈ c, 0 ≤ n ∧ n ≤ 100) : Ev (fun k => zfo k l c) (lenM l c 0) := by
  have key : ∀ (d i : Nat) (m : Int), i + d = l.length → Ev (fun k => zcy k c m l l.length i) (lenM (l.drop i) (c.drop i) m) := by
    intro d
    induction d with
    | zero =>
      intro i m hi
      refine zam (f := fun _ => some m) (fun k => ?_) (Ev.some ?_)
      · simp only [zcy]
        rw [if_neg (by omega)]
      · rw [List.drop_of_length_le (by omega)]
        rfl
    | succ d ih =>
      intro i m hi
      have hlt : i < l.length := by omega
      have hltc : i < c.length := by omega
      have e : l.drop i = l[i] :: l.drop (i + 1) := List.drop_eq_getElem_cons hlt
      have ec : c.drop i = c[i] :: c.drop (i + 1) := List.drop_eq_getElem_cons hltc
      have hx := zpe (zgl l i hlt)
      have hn := zn0 (zgl c i hltc)
      have hb := h4 c[i] (List.getElem_mem hltc)
      have hk := zn1 (cls l[i].f0)
      rw [e, ec]
      refine zam (fun k => ?_) (ih (i + 1) _ (by omega))
      simp only [zcy]
      rw [if_pos (by omega), if_pos (by omega), if_pos (by omega), if_pos (by omega), hx, hn, ztw, Option.bind_some, w64n i (by omega), w64 (by omega) (by omega)]
      rfl
  unfold zfo
  simpa using key l.length 0 0 (by omega)
theorem zwo (l : List Instr) (c : List Int) (h1 : l.length ≤ 20) (h2 : ∀ x ∈ l, okI x) (h3 : c.length = l.length) (h4 : ∀ n ∈ c, 0 ≤ n ∧ n ≤ 100) : Ev (fun k => zgk k l c) (lenM l c 0) := by
  have key : ∀ (d i : Nat) (m : Int), i + d = l.length → Ev (fun k => zdh k c m l l.length i) (lenM (l.drop i) (c.drop i) m) := by
    intro d
    induction d with
    | zero =>
      intro i m hi
      refine zam (f := fun _ => some m) (fun k => ?_) (Ev.some ?_)
      · simp only [zdh]
        rw [if_neg (by omega)]
      · rw [List.drop_of_length_le (by omega)]
        rfl
    | succ d ih =>
      intro i m hi
      have hlt : i < l.length := by omega
      have hltc : i < c.length := by omega
      have e : l.drop i = l[i] :: l.drop (i + 1) := List.drop_eq_getElem_cons hlt
      have ec : c.drop i = c[i] :: c.drop (i + 1) := List.drop_eq_getElem_cons hltc
      have hx := zpe (zgl l i hlt)
      have hn := zn0 (zgl c i hltc)
      have hb := h4 c[i] (List.getElem_mem hltc)
      have hk := zn1 (cls l[i].f0)
      rw [e, ec]
      refine zam (fun k => ?_) (ih (i + 1) _ (by omega))
      simp only [zdh]
      rw [if_pos (by omega), if_pos (by omega), if_pos (by omega), if_pos (by omega), hx, hn, zos _ (h2 l[i] (List.getElem_mem hlt)).1, Option.bind_some, w64n i (by omega), w64 (by omega) (by omega)]
      have hm : zdb m (c[i] + zhx (cls l[i].f0)) = some (if m < c[i] + zhx (cls l[i].f0) then c[i] + zhx (cls l[i].f0) else m) := by
        unfold zdb
        by_cases hq : m < c[i] + zhx (cls l[i].f0)
        · rw [if_pos hq, if_neg (by omega)]
        · rw [if_neg hq]
          by_cases hq' : m > c[i] + zhx (cls l[i].f0)
          · rw [if_pos hq']
          · rw [if_neg hq']
            congr 1
            omega
      rw [hm, Option.bind_some]
  unfold zgk
  simpa using key l.length 0 0 (by omega)
theorem zt9 (l : List Instr) (hl : l.length ≤ 7) (w : Nat) (hw : 1 ≤ w) : ∀ (f n : Nat), n + f = 101 → 0 < f → (bsGo l w f n).length = l.length ∧ ∀ x ∈ bsGo l w f n, 0 ≤ x ∧ x ≤ 100
  | 0, _, _, h => absurd h (Nat.lt_irrefl 0)
  | f + 1, n, hn, _ => by
    unfold bsGo
    cases e : fnd l w n l.length [] with
    | some r =>
      obtain ⟨h1, h2⟩ := zs9 l w n l.length [] r (zsf l w n) e
      have h3 : r.length = l.length := by simpa using h2
      refine ⟨h3, fun x hx => ?_⟩
      replace hx : x ∈ r := hx
      obtain ⟨j, hj, rfl⟩ := List.getElem_of_mem hx
      have a1 := h1.at_ j hj
      have a2 := zxk l r j j
      have a3 := zsh l j (by omega)
      have a4 : r.getD j 0 = r[j] := by rw [List.getD_eq_getElem?_getD, List.getElem?_eq_getElem hj]; rfl
      omega
    | none =>
      by_cases h0 : f = 0
      · have := zt5 l hl w hw
        obtain rfl : n = 100 := by omega
        have e' : fnd l w 100 l.length [] = none := e
        rw [e'] at this
        cases this
      · exact zt9 l hl w hw f (n + 1) (by omega) (by omega)
def llR (l : List Instr) (a : Int) : Int × Bool := if zel l = true ∧ (1 ≤ a ∧ a ≤ 3) ∧ l.length ≤ 7 then (lenM l (bsL l a.toNat) 0, true) else (0, false)
theorem zvt (l : List Instr) (a : Int) : Ev (fun k => zeb k l a) (llR l a) := by
  unfold zeb
  refine Ev.bind (zvq l a) ?_
  by_cases h : zel l = true ∧ (1 ≤ a ∧ a ≤ 3) ∧ l.length ≤ 7
  · rw [show bsR l a = (bsL l a.toNat, true) from if_pos h, show llR l a = (lenM l (bsL l a.toNat) 0, true) from if_pos h]
    obtain ⟨h1, h2⟩ := zgm h.1
    obtain ⟨h3, h4⟩ := zt9 l h.2.2 a.toNat (by omega) 101 0 rfl (by omega)
    exact zae rfl (Ev.bind (zsj l (bsL l a.toNat) h1 h2 h3 h4) (Ev.now _))
  · rw [show bsR l a = ([], false) from if_neg h, show llR l a = (0, false) from if_neg h]
    exact zas (by decide) (Ev.now _)
theorem zzs (l : List Instr) (a : Int) : Ev (fun k => zew k l a) (llR l a) := by
  unfold zew
  have no : llR l a = (0, false) → Ev (fun k => zb9 k l a true) (llR l a) := fun e => by
    rw [e]
    exact zam (fun k => by simp only [zb9]; rfl) (zae trivial (Ev.now _))
  refine Ev.bind (zma l) ?_
  by_cases h : zel l = true
  · obtain ⟨h1, h2⟩ := zgm h
    refine zae h (Ev.call (show zhj a = some (decide (1 ≤ a ∧ a ≤ 3)) from by unfold zhj; rw [zr8]; rfl) ?_)
    by_cases ha : 1 ≤ a ∧ a ≤ 3
    · refine zae (decide_eq_true ha) ?_
      by_cases h7 : (l.length : Int) > 7
      · rw [decide_eq_true h7]
        exact no (if_neg (fun q => by omega))
      · rw [decide_eq_false h7]
        obtain ⟨n, rfl⟩ := Int.eq_ofNat_of_zero_le (show 0 ≤ a by omega)
        rw [show llR l n = (lenM l (bsL l n) 0, true) from if_pos ⟨h, ha, by omega⟩]
        obtain ⟨h3, h4⟩ := zt9 l (by omega) n (by omega) 101 0 rfl (by omega)
        exact zam (fun k => by simp only [zb9]; rfl) (zas (by decide) (Ev.bind (zvs l (by omega) h2 n (by omega)) (Ev.bind (zwo l (bsL l n) h1 h2 h3 h4) (Ev.some (a := (lenM l (bsL l n) 0, true)) rfl))))
    · exact zas (by rw [decide_eq_false ha]; decide) (no (if_neg (fun q => ha q.2.1)))
  · exact zas h (no (if_neg (fun q => h q.1)))
theorem zkv {l : List Instr} {c : List Int} (h : zku l c = true) : l.length ≤ 20 ∧ (∀ x ∈ l, okI x) ∧ c.length = l.length ∧ ∀ n ∈ c, 0 ≤ n ∧ n ≤ 100 := by
  unfold zku zel at h
  simp only [Bool.and_eq_true, decide_eq_true_eq, List.all_eq_true] at h
  exact ⟨h.1.1.1, h.1.1.2, h.1.2, h.2⟩
def lenR (l : List Instr) (c : List Int) : Int × Bool := if zku l c = true then (lenM l c 0, true) else (0, false)
theorem zqg (l : List Instr) (c : List Int) (hc : c.length ≤ 1048576) : Ev (fun k => zfp k l c) (lenR l c) := by
  unfold zfp lenR
  refine Ev.bind (zrc l c hc) ?_
  by_cases h : zku l c = true
  · rw [if_pos h]
    exact zae h (Ev.bind (zsj l c (zkv h).1 (zkv h).2.1 (zkv h).2.2.1 (zkv h).2.2.2) (Ev.now _))
  · rw [if_neg h]
    exact zas h (Ev.now _)
def lsR (l : List Instr) (a : Int) : List Int × Bool := if zel l = true ∧ (1 ≤ a ∧ a ≤ 3) then (lsL l a.toNat, true) else ([], false)
theorem zzt (l : List Instr) (a : Int) (hl : l.length ≤ 1048576) : Ev (fun k => zee k l a) (lsR l a) := by
  have no : ∀ R, lsR l a = R → R = ([], false) → Ev (fun k => zcc k l a true) R := fun R _ h => by
    subst h
    exact zam (fun k => by simp only [zcc]; rfl) (zae trivial (Ev.now _))
  unfold zee
  refine Ev.bind (zks l) ?_
  by_cases h : zel l = true
  · obtain ⟨h1, h2⟩ := zgm h
    refine zae h (Ev.call (show zea a = some (decide (1 ≤ a ∧ a ≤ 3)) from by unfold zea; rw [zl9]; rfl) ?_)
    by_cases ha : 1 ≤ a ∧ a ≤ 3
    · rw [decide_eq_true ha]
      refine zam (fun k => by simp only [zcc]; rfl) (zas (by decide) (Ev.bind (zot l (by omega)) (Ev.bind (zxf l h1) (Ev.call (zu8 l.length (by omega)) ?_))))
      obtain ⟨n, rfl⟩ := Int.eq_ofNat_of_zero_le (show 0 ≤ a by omega)
      rw [show lsR l n = (lsL l n, true) from if_pos ⟨h, ha⟩]
      exact yd0 l h1 _ (yck l) n (by omega) 83 0 _ _ _ (zvd l) (by omega) (by omega) (by omega)
    · rw [decide_eq_false ha]
      exact no _ rfl (if_neg (fun q => ha q.2))
  · exact zas h (no _ rfl (if_neg (fun q => h q.1)))
end Go.Proofs.YtabnafbgcpchdaaGreat.PL
end
section
namespace Go.Proofs.YtabnafbgcpchdaaGreat.PL
open Go Go.RowKit Go.Proofs.YtabnafbgcpchdaaGreatW.PrintWords Go.Proofs.YtabnafbgcpchdaaGreatW.PrintLast Go.Proofs.YtabnafbgcpchdaaGreatW.PrintMore Go.Proofs.YtabnafbgcpchdaaGreat.Q
set_option linter.unusedSimpArgs false
set_option linter.unusedVariables false
set_option linter.unusedSectionVars false
theorem zzu (n : Int) : bits .and .u64 n 255 = n % 256 := by
  have h255 : (BitVec.ofInt 64 255).toNat = 2 ^ 8 - 1 := by decide
  have key : (BitVec.ofInt 64 n &&& BitVec.ofInt 64 255).toNat = (n % ((2 ^ 64 : Nat) : Int)).toNat % 2 ^ 8 := by
    rw [BitVec.toNat_and, BitVec.toNat_ofInt, h255, Nat.and_two_pow_sub_one_eq_mod]
  show IntKind.u64.wrap ((BitVec.ofInt 64 n &&& BitVec.ofInt 64 255).toNat : Nat) = n % 256
  rw [key, IntKind.wrap_u64]
  omega
def okB (C : List Int) : Prop := ∀ x ∈ C, 0 ≤ x ∧ x ≤ 255
theorem ybv {C : List Int} (h : Rd.okSl (Rd.okInt .u8) C) : okB C := fun x hx => by
  have h1 : (Lit.int .u8 x).wf = true := h.2 x hx
  unfold Lit.wf at h1
  rw [Bool.and_eq_true, decide_eq_true_eq, decide_eq_true_eq] at h1
  exact h1
theorem yd3 {C : List Int} (h : okB C) (i : Int) : 0 ≤ rd C i ∧ rd C i ≤ 255 := by
  unfold rd
  rw [List.getD_eq_getElem?_getD]
  cases e : C[i.toNat]? with
  | none => exact ⟨Int.le_refl _, by decide⟩
  | some x => exact h x (List.mem_of_getElem? e)
section
variable {C : List Int} (hC : okB C)
include hC
theorem zzv (a s : Int) (h0 : 0 ≤ a) (h1 : a ≤ 1152921504606846976) : ∃ v s', zg6 C a s = some (v, a + 1, s') ∧ 0 ≤ v ∧ v ≤ 255 := by
  have hb := yd3 hC a
  unfold zg6
  rw [w64 (x := a + 1) (by omega) (by omega), w64 (x := rd C a) (by omega) (by omega)]
  simp only [zzu]
  by_cases q : a < (C.length : Int)
  · rw [if_pos q, if_pos h0]
    by_cases q2 : a + 1 ≤ (C.length : Int)
    · rw [if_pos q2]
      exact ⟨_, _, rfl, hb.1, hb.2⟩
    · omega
  · rw [if_neg q, if_neg (by omega)]
    refine ⟨_, _, rfl, ?_⟩
    generalize IntKind.u64.wrap _ / 1099511627776 = y
    rw [w64 (by omega) (by omega)]
    omega
theorem zjs (a s n : Int) (h0 : 0 ≤ a) (h1 : a ≤ 1152921504606846970) : ∃ v a' s', zbk C a s n = some (v, a', s') ∧ (0 ≤ v ∧ (v < n ∨ v = 0)) ∧ a ≤ a' ∧ a' ≤ a + 2 := by
  unfold zbk
  by_cases q : n ≤ 1
  · rw [if_pos q]
    exact ⟨0, a, s, rfl, ⟨Int.le_refl _, .inr rfl⟩, Int.le_refl _, by omega⟩
  · rw [if_neg q]
    obtain ⟨v, s1, e, v0, v1⟩ := zzv hC a s h0 (by omega)
    rw [e, Option.bind_some]
    by_cases q2 : n > 200
    · obtain ⟨u, s2, e2, u0, u1⟩ := zzv hC (a + 1) s1 (by omega) (by omega)
      rw [if_pos q2]
      simp only [e2, Option.bind_some]
      rw [if_neg (by omega), w64 (x := v * 256) (by omega) (by omega), w64 (x := v * 256 + u) (by omega) (by omega)]
      exact ⟨Int.tmod (v * 256 + u) n, a + 1 + 1, s2, rfl, ⟨Int.tmod_nonneg _ (by omega), .inl (Int.tmod_lt_of_pos _ (by omega))⟩, by omega, by omega⟩
    · rw [if_neg q2, if_neg (by omega)]
      exact ⟨Int.tmod v n, a + 1, s1, rfl, ⟨Int.tmod_nonneg _ v0, .inl (Int.tmod_lt_of_pos _ (by omega))⟩, by omega, by omega⟩
theorem zwp (a s n : Int) (h0 : 0 ≤ a) (h1 : a ≤ 1152921504606846970) : ∃ (v : Bool) (a' s' : Int), zgp C a s n = some (v, a', s') ∧ a ≤ a' ∧ a' ≤ a + 2 := by
  obtain ⟨v, a', s', e, _, h2, h3⟩ := zjs hC a s n h0 h1
  unfold zgp
  rw [e]
  exact ⟨_, _, _, rfl, h2, h3⟩
theorem zo4 (a s : Int) (l : List Int) (hl : 0 < l.length) (h0 : 0 ≤ a) (h1 : a ≤ 1152921504606846970) : ∃ v a' s', zcj C a s l = some (v, a', s') ∧ v ∈ l ∧ a ≤ a' ∧ a' ≤ a + 2 := by
  obtain ⟨v, a', s', e, ⟨v0, v1⟩, h2, h3⟩ := zjs hC a s l.length h0 h1
  unfold zcj
  rw [e, Option.bind_some, if_pos v0, if_pos (by omega)]
  have hv : v.toNat < l.length := by omega
  refine ⟨_, _, _, rfl, ?_, h2, h3⟩
  show rd l v ∈ l
  unfold rd
  rw [zgl l _ hv]
  exact List.getElem_mem hv
theorem yd4 (a s : Int) (l : List ByteArray) (hl : 0 < l.length) (h0 : 0 ≤ a) (h1 : a ≤ 1152921504606846970) : ∃ v a' s', zhu C a s l = some (v, a', s') ∧ a ≤ a' ∧ a' ≤ a + 2 := by
  obtain ⟨v, a', s', e, ⟨v0, v1⟩, h2, h3⟩ := zjs hC a s l.length h0 h1
  unfold zhu
  rw [e, Option.bind_some, if_pos v0, if_pos (by omega)]
  exact ⟨_, _, _, rfl, h2, h3⟩
theorem yct (a s : Int) (h0 : 0 ≤ a) (h1 : a ≤ 1152921504606846960) : ∃ v a' s', zhv C a s = some (v, a', s') ∧ a ≤ a' ∧ a' ≤ a + 4 := by
  obtain ⟨b, a1, s1, e1, h2, h3⟩ := zwp hC a s 2 h0 (by omega)
  unfold zhv
  rw [e1, Option.bind_some]
  cases b with
  | true =>
    obtain ⟨v, a2, s2, e2, _, h4, h5⟩ := zo4 hC a1 s1 [0, 1, 2, 3, 4, 5, 6, 7, 8, 16, 31, 32, 33, 62, 63] (by decide) (by omega) (by omega)
    refine ⟨v, a2, s2, ?_, by omega, by omega⟩
    show (if true = true then _ else _) = _
    rw [if_pos rfl, e2]
    rfl
  | false =>
    obtain ⟨v, a2, s2, e2, _, h4, h5⟩ := zjs hC a1 s1 64 (by omega) (by omega)
    refine ⟨v, a2, s2, ?_, by omega, by omega⟩
    show (if false = true then _ else _) = _
    rw [if_neg (by decide), e2]
    rfl
theorem zyc (s : ByteArray) : ∃ b, Ev (fun k => zhy k s) b := by
  have h : ∀ l : List ByteArray, l.length ≤ 1048576 → Ev (fun k => zhk k l s) (l.any fun y => decide (y = s)) := fun l hl => by
    unfold zhk
    refine zr6 (σ := Unit) l (fun k _ i => zep k s l l.length i) (fun r _ => r.any fun y => decide (y = s)) (fun _ => ?_) (fun i _ x rest hi hx ih => ?_) ()
    · refine zam (f := fun _ => some false) (fun k => ?_) (Ev.now _)
      simp only [zep]
      rw [if_neg (by omega)]
    · refine zam (fun k => by simp only [zep, ycg hx, ybc]; rfl) (zae (by omega) (zae (by omega) (zae (by omega) ?_)))
      by_cases q : x = s
      · exact zae q (Ev.some (by simp [q]))
      · refine zas q ?_
        rw [w64n i (by omega)]
        refine zr5 (ih ()) ?_
        simp [q]
  unfold zhy
  exact ⟨_, Ev.bind (h _ (by decide)) (Ev.now _)⟩
theorem zua (a s r : Int) (h0 : 0 ≤ a) (h1 : a ≤ 1152921504606846900) : ∃ (o : ByteArray) (d x y m a' s' : Int), Ev (fun k => zdp k C a s r) (o, d, x, y, m, a', s') ∧ a ≤ a' ∧ a' ≤ a + 16 := by
  have last : ∀ (o u : ByteArray) (lo hi d x y m a s : Int), 0 ≤ a → a ≤ 1152921504606846950 → ∃ (o' : ByteArray) (d' x' y' m' a' s' : Int), Ev (fun k => zb8 k o lo hi C a s u d x y m) (o', d', x', y', m', a', s') ∧ a ≤ a' ∧ a' ≤ a + 6 := by
    intro o u lo hi d x y m a s h0 h1
    obtain ⟨b, hb⟩ := zyc hC o
    cases b with
    | false => exact ⟨u, d, x, y, m, a, s, zam (fun k => by simp only [zb8]; rfl) (Ev.bind hb (zas Bool.false_ne_true (Ev.now _))), Int.le_refl _, by omega⟩
    | true =>
      obtain ⟨v, a1, s1, e1, _, h2, h3⟩ := zjs hC a s (wrap64 ((wrap64 (hi - lo)) + 1)) h0 (by omega)
      by_cases q : hi = 63
      · obtain ⟨v2, a2, s2, e2, h4, h5⟩ := yct hC a1 s1 (by omega) (by omega)
        refine ⟨u, d, x, y, v2, a2, s2, zam (fun k => by simp only [zb8]; rfl) (Ev.bind hb (zae rfl (Ev.call e1 (zae q ?_)))), by omega, by omega⟩
        exact Ev.call e2 (Ev.some rfl)
      · exact ⟨u, d, x, y, wrap64 (lo + v), a1, s1, zam (fun k => by simp only [zb8]; rfl) (Ev.bind hb (zae rfl (Ev.call e1 (zas q (Ev.some rfl))))), by omega, by omega⟩
  have mid : ∀ (r : Int) (o u : ByteArray) (b : Bool) (lo hi d x y m a s : Int), 0 ≤ a → a ≤ 1152921504606846940 → ∃ (o' : ByteArray) (d' x' y' m' a' s' : Int), Ev (fun k => zck k r o b lo hi C a s u d x y m) (o', d', x', y', m', a', s') ∧ a ≤ a' ∧ a' ≤ a + 8 := by
    intro r o u b lo hi d x y m a s h0 h1
    cases b with
    | false =>
      obtain ⟨o', d', x', y', m', a', s', h, h2, h3⟩ := last o u lo hi d x y m a s h0 (by omega)
      exact ⟨o', d', x', y', m', a', s', zam (fun k => by simp only [zck]; rfl) (zas Bool.false_ne_true h), h2, by omega⟩
    | true =>
      obtain ⟨v, a1, s1, e1, _, h4, h5⟩ := zjs hC a s r h0 (by omega)
      obtain ⟨o', d', x', y', m', a', s', h, h2, h3⟩ := last o u lo hi d x v m a1 s1 (by omega) (by omega)
      refine ⟨o', d', x', y', m', a', s', zam (fun k => by simp only [zck]; rfl) ?_, by omega, by omega⟩
      exact zae trivial (Ev.call e1 h)
  unfold zdp
  have q21 : 0 < ([(⟨#[115, 101, 116]⟩ : ByteArray), (⟨#[109, 111, 118]⟩ : ByteArray), (⟨#[110, 111, 116]⟩ : ByteArray), (⟨#[110, 101, 103]⟩ : ByteArray), (⟨#[97, 100, 100]⟩ : ByteArray), (⟨#[97, 100, 100]⟩ : ByteArray), (⟨#[115, 117, 98]⟩ : ByteArray), (⟨#[97, 110, 100]⟩ : ByteArray), (⟨#[111, 114]⟩ : ByteArray), (⟨#[120, 111, 114]⟩ : ByteArray), (⟨#[115, 104, 108]⟩ : ByteArray), (⟨#[115, 104, 114]⟩ : ByteArray), (⟨#[108, 101, 115, 115]⟩ : ByteArray), (⟨#[101, 113]⟩ : ByteArray), (⟨#[109, 117, 108]⟩ : ByteArray), (⟨#[97, 100, 100, 105]⟩ : ByteArray), (⟨#[97, 110, 100, 105]⟩ : ByteArray), (⟨#[120, 111, 114, 105]⟩ : ByteArray), (⟨#[115, 104, 108, 105]⟩ : ByteArray), (⟨#[115, 104, 114, 105]⟩ : ByteArray), (⟨#[108, 101, 97]⟩ : ByteArray)] : List ByteArray).length := by decide
  obtain ⟨o, a1, s1, e1, h2, h3⟩ := yd4 hC a s _ q21 h0 (by omega)
  obtain ⟨v, a2, s2, e2, _, h4, h5⟩ := zjs hC a1 s1 r (by omega) (by omega)
  by_cases q : (zhw (cls o)).2.1 = true
  · obtain ⟨v3, a3, s3, e3, _, h6, h7⟩ := zjs hC a2 s2 r (by omega) (by omega)
    obtain ⟨o', d', x', y', m', a', s', h, h8, h9⟩ := mid r o o (zhw (cls o)).2.2.1 (zhw (cls o)).2.2.2.1 (zhw (cls o)).2.2.2.2 v v3 0 0 a3 s3 (by omega) (by omega)
    refine ⟨o', d', x', y', m', a', s', Ev.call e1 (Ev.bind (zrt o) (Ev.call e2 ?_)), by omega, by omega⟩
    exact zae q (Ev.call e3 h)
  · obtain ⟨o', d', x', y', m', a', s', h, h8, h9⟩ := mid r o o (zhw (cls o)).2.2.1 (zhw (cls o)).2.2.2.1 (zhw (cls o)).2.2.2.2 v 0 0 0 a2 s2 (by omega) (by omega)
    refine ⟨o', d', x', y', m', a', s', Ev.call e1 (Ev.bind (zrt o) (Ev.call e2 ?_)), by omega, by omega⟩
    exact zas q h
theorem zwq (a s : Int) (h0 : 0 ≤ a) (h1 : a ≤ 1152921504606846800) : ∃ (o : ByteArray) (d x y m a' s' : Int), Ev (fun k => zdr k C a s) (o, d, x, y, m, a', s') ∧ a ≤ a' ∧ a' ≤ a + 20 := by
  unfold zdr
  obtain ⟨o, d, x, y, m, a1, s1, e1, h2, h3⟩ := zua hC a s 6 h0 (by omega)
  obtain ⟨v, a2, s2, e2, _, h4, h5⟩ := zjs hC a1 s1 14 (by omega) (by omega)
  have am := fun (l : List Int) (hl : 0 < l.length) => zo4 hC a2 s2 l hl (by omega) (by omega)
  by_cases q0 : v = 0
  · obtain ⟨u, a3, s3, e3, _, h6, h7⟩ := am [(-1), 6] (by decide)
    exact ⟨o, u, x, y, m, a3, s3, Ev.bind e1 (Ev.call e2 (zae q0 (Ev.call e3 (Ev.some rfl)))), by omega, by omega⟩
  by_cases q1 : v = 1
  · obtain ⟨u, a3, s3, e3, _, h6, h7⟩ := am [(-1), 0, 6, 4611686018427387904] (by decide)
    exact ⟨o, d, u, y, m, a3, s3, Ev.bind e1 (Ev.call e2 (zas q0 (zae q1 (Ev.call e3 (Ev.some rfl))))), by omega, by omega⟩
  by_cases q2 : v = 2
  · obtain ⟨u, a3, s3, e3, _, h6, h7⟩ := am [(-1), 0, 1, 6] (by decide)
    exact ⟨o, d, x, u, m, a3, s3, Ev.bind e1 (Ev.call e2 (zas q0 (zas q1 (zae q2 (Ev.call e3 (Ev.some rfl)))))), by omega, by omega⟩
  by_cases q3 : v = 3
  · obtain ⟨u, a3, s3, e3, _, h6, h7⟩ := am [(-1), 0, 1, 3, 4, 5, 6, 63, 64] (by decide)
    exact ⟨o, d, x, y, u, a3, s3, Ev.bind e1 (Ev.call e2 (zas q0 (zas q1 (zas q2 (zae q3 (Ev.call e3 (Ev.some rfl))))))), by omega, by omega⟩
  by_cases q4 : v = 4
  · obtain ⟨u, a3, s3, e3, h6, h7⟩ := yd4 hC a2 s2 [(⟨#[]⟩ : ByteArray), (⟨#[99, 111, 110, 115, 116]⟩ : ByteArray), (⟨#[110, 111, 112]⟩ : ByteArray), (⟨#[115, 101, 116]⟩ : ByteArray), (⟨#[108, 101, 97]⟩ : ByteArray)] (by decide) (by omega) (by omega)
    exact ⟨u, d, x, y, m, a3, s3, Ev.bind e1 (Ev.call e2 (zas q0 (zas q1 (zas q2 (zas q3 (zae q4 (Ev.call e3 (Ev.some rfl)))))))), by omega, by omega⟩
  exact ⟨o, d, x, y, m, a2, s2, Ev.bind e1 (Ev.call e2 (zas q0 (zas q1 (zas q2 (zas q3 (zas q4 (Ev.some rfl))))))), by omega, by omega⟩
theorem zxs (a s : Int) (most : Nat) (hm : most ≤ 1000) (r : Int) (h0 : 0 ≤ a) (h1 : a ≤ 1152921504606800000) : ∃ l a' s', Ev (fun k => zec k C a s most r) (l, a', s') ∧ l.length ≤ most ∧ a ≤ a' ∧ a' ≤ a + 2 + 16 * most := by
  unfold zec
  obtain ⟨v, a1, s1, e1, ⟨v0, v1⟩, h2, h3⟩ := zjs hC a s (wrap64 ((most : Int) + 1)) h0 (by omega)
  rw [w64 (by omega) (by omega)] at v1
  have key : ∀ (d : Nat) (o : List Instr) (a s : Int), 0 ≤ a → a ≤ 1152921504606846000 - 16 * (d : Int) → o.length + d ≤ 2000 → ∃ l a' s', Ev (fun k => zcm k r o (d : Int) C a s) (l, a', s') ∧ l.length = o.length + d ∧ a ≤ a' ∧ a' ≤ a + 16 * d := by
    intro d
    induction d with
    | zero =>
      intro o a s h0 h1 _
      exact ⟨o, a, s, zam (fun k => by simp only [zcm]; rfl) (zas (by decide) (Ev.now _)), rfl, Int.le_refl _, by omega⟩
    | succ d ih =>
      intro o a s h0 h1 ho
      obtain ⟨o', d', x', y', m', a1, s1, e1, h2, h3⟩ := zua hC a s r h0 (by omega)
      obtain ⟨l, a2, s2, e2, hl, h4, h5⟩ := ih (o ++ [⟨o', d', x', y', m'⟩]) a1 s1 (by omega) (by omega) (by rw [List.length_append, List.length_singleton]; omega)
      refine ⟨l, a2, s2, zam (fun k => by simp only [zcm]; rfl) (zae (by omega) (Ev.bind e1 (zae (show o.length < 2932031007402 by omega) ?_))), by rw [hl, List.length_append, List.length_singleton]; omega, by omega, by omega⟩
      rw [show wrap64 (((d + 1 : Nat) : Int) - 1) = (d : Int) by rw [w64 (by omega) (by omega)]; omega]
      exact e2
  obtain ⟨n, rfl⟩ := Int.eq_ofNat_of_zero_le v0
  obtain ⟨l, a2, s2, e2, hl, h4, h5⟩ := key n [] a1 s1 (by omega) (by omega) (by simp; omega)
  simp only [List.length_nil, Nat.zero_add] at hl
  exact ⟨l, a2, s2, Ev.call e1 e2, by omega, by omega, by omega⟩
theorem zyd (a s : Int) (most : Nat) (hm : most ≤ 40) (h0 : 0 ≤ a) (h1 : a ≤ 1152921504606700000) : ∃ l a' s', Ev (fun k => zd7 k C a s most) (l, a', s') ∧ l.length ≤ 41 ∧ a ≤ a' ∧ a' ≤ a + 2000 := by
  unfold zd7
  obtain ⟨v, a1, s1, e1, ⟨v0, v1⟩, h2, h3⟩ := zjs hC a s 5 h0 (by omega)
  obtain ⟨l, a2, s2, e2, hl, h4, h5⟩ := zxs hC a1 s1 most (by omega) (wrap64 (2 + v)) (by omega) (by omega)
  obtain ⟨u, a3, s3, e3, _, h6, h7⟩ := zjs hC a2 s2 14 (by omega) (by omega)
  have key : ∀ (d : Nat) (o : List Instr) (a s : Int), o.length + d = 41 → 0 ≤ a → a ≤ 1152921504606800000 - 18 * (d : Int) → ∃ l a' s', Ev (fun k => zb0 k o C a s) (l, a', s') ∧ l.length ≤ 41 ∧ a ≤ a' ∧ a' ≤ a + 18 * d + 2 := by
    intro d
    induction d with
    | zero =>
      intro o a s ho h0 h1
      obtain ⟨v, a1, s1, e1, ⟨v0, v1⟩, h2, h3⟩ := zjs hC a s 2 h0 (by omega)
      refine ⟨o, a1, s1, zam (fun k => by simp only [zb0]; rfl) (Ev.call e1 (zas ?_ (Ev.now _))), by omega, h2, by omega⟩
      rw [w64 (by omega) (by omega)]
      omega
    | succ d ih =>
      intro o a s ho h0 h1
      obtain ⟨v, a1, s1, e1, ⟨v0, v1⟩, h2, h3⟩ := zjs hC a s 2 h0 (by omega)
      by_cases q : (o.length : Int) < wrap64 (40 + v)
      · obtain ⟨o', d', x', y', m', a2, s2, e2, h4, h5⟩ := zua hC a1 s1 3 (by omega) (by omega)
        obtain ⟨l, a3, s3, e3, hl, h6, h7⟩ := ih (o ++ [⟨o', d', x', y', m'⟩]) a2 s2 (by rw [List.length_append, List.length_singleton]; omega) (by omega) (by omega)
        exact ⟨l, a3, s3, zam (fun k => by simp only [zb0]; rfl) (Ev.call e1 (zae q (Ev.bind e2 (zae (show o.length < 2932031007402 by omega) e3)))), hl, by omega, by omega⟩
      · exact ⟨o, a1, s1, zam (fun k => by simp only [zb0]; rfl) (Ev.call e1 (zas q (Ev.now _))), by omega, by omega, by omega⟩
  by_cases q0 : u = 0
  · obtain ⟨o', d', x', y', m', a4, s4, e4, h8, h9⟩ := zwq hC a3 s3 (by omega) (by omega)
    exact ⟨l ++ [⟨o', d', x', y', m'⟩], a4, s4, Ev.call e1 (Ev.bind e2 (Ev.call e3 (zae q0 (Ev.bind e4 (zae (show l.length < 2932031007402 by omega) (Ev.some rfl)))))), by rw [List.length_append, List.length_singleton]; omega, by omega, by omega⟩
  by_cases q1 : u = 1
  · obtain ⟨l', a4, s4, e4, hl', h8, h9⟩ := key (41 - l.length) l a3 s3 (by omega) (by omega) (by omega)
    exact ⟨l', a4, s4, Ev.call e1 (Ev.bind e2 (Ev.call e3 (zas q0 (zae q1 e4)))), hl', by omega, by omega⟩
  exact ⟨l, a3, s3, Ev.call e1 (Ev.bind e2 (Ev.call e3 (zas q0 (zas q1 (Ev.some rfl))))), by omega, by omega, by omega⟩
theorem ztc (a s : Int) (most : Nat) (hm : most ≤ 40) (h0 : 0 ≤ a) (h1 : a ≤ 1152921504606600000) : ∃ l a' s', Ev (fun k => zdc k C a s most) (l, a', s') ∧ l.length ≤ 41 ∧ a ≤ a' ∧ a' ≤ a + 3000 := by
  unfold zdc
  obtain ⟨b, a1, s1, e1, h2, h3⟩ := zwp hC a s 15 h0 (by omega)
  cases b with
  | true =>
    obtain ⟨l, a2, s2, e2, hl, h4, h5⟩ := zyd hC a1 s1 most hm (by omega) (by omega)
    exact ⟨l, a2, s2, Ev.call e1 (zae rfl (Ev.bind e2 (Ev.some rfl))), hl, by omega, by omega⟩
  | false =>
    obtain ⟨r, a2, s2, e2, _, h4, h5⟩ := zo4 hC a1 s1 [3, 4, 6] (by decide) (by omega) (by omega)
    obtain ⟨l, a3, s3, e3, hl, h6, h7⟩ := zxs hC a2 s2 most (by omega) r (by omega) (by omega)
    exact ⟨l, a3, s3, Ev.call e1 (zas Bool.false_ne_true (Ev.call e2 (Ev.bind e3 (Ev.some rfl)))), by omega, by omega, by omega⟩
end
end Go.Proofs.YtabnafbgcpchdaaGreat.PL
end
section
namespace Go.Proofs.YtabnafbgcpchdaaGreat.PL
open Go Go.RowKit Go.Proofs.YtabnafbgcpchdaaGreatW.PrintWords Go.Proofs.YtabnafbgcpchdaaGreatW.PrintLast Go.Proofs.YtabnafbgcpchdaaGreatW.PrintMore Go.Proofs.YtabnafbgcpchdaaGreat.Q
set_option linter.unusedSimpArgs false
set_option linter.unusedVariables false
theorem yaz (l m : List Int) (hl : l.length ≤ 1048576) : Ev (fun k => zgh k l m) (decide (l = m)) := by
  unfold zgh
  by_cases h : l.length = m.length
  · refine zae (by omega) ?_
    have key : ∀ (d i : Nat), i + d = l.length → Ev (fun k => ze7 k l m l.length i) (decide (l.drop i = m.drop i)) := by
      intro d
      induction d with
      | zero =>
        intro i hi
        rw [List.drop_of_length_le (by omega), List.drop_of_length_le (by omega)]
        exact zam (fun k => by simp only [ze7]; rfl) (zas (by omega) (Ev.some (by simp)))
      | succ d ih =>
        intro i hi
        have next := ih (i + 1) (by omega)
        have h1 : i < l.length := by omega
        have h2 : i < m.length := by omega
        rw [List.drop_eq_getElem_cons h1, List.drop_eq_getElem_cons h2]
        refine zam (fun k => by simp only [ze7]; rfl) (zae (by omega) (zae (by omega) (zae (by omega) (zae (by omega) ?_))))
        rw [zn0 (zgl l i h1), zn0 (zgl m i h2), w64n i (by omega)]
        by_cases e : l[i] = m[i]
        · exact zae e (zr5 next (by simp only [List.cons.injEq, e, true_and]))
        · exact zas e (Ev.some (by simp only [List.cons.injEq, e, false_and, decide_false]))
    have := key l.length 0 (by omega)
    simpa using this
  · exact zas (by omega) (Ev.some (by simp; intro e; exact h (by rw [e])))
theorem zqy (l : List Int) (hl : l.length ≤ 1048576) : Ev (fun k => zgh k l l) true := zr5 (yaz l l hl) (by simp)
theorem zzw (l m : List Int) (hl : l.length ≤ maxLen) (hm : m.length ≤ maxLen) : zlq l m = some true ∨ zlq l m = some false ∧ l.length ≤ 1048576 ∧ m.length ≤ 1048576 := by
  unfold maxLen at hl hm
  unfold zlq
  by_cases h : (l.length : Int) > 1048576
  · rw [if_pos h]
    exact .inl rfl
  · rw [if_neg h, w64 (by omega) (by omega)]
    by_cases h2 : (m.length : Int) > 1048576 - l.length
    · rw [decide_eq_true h2]
      exact .inl rfl
    · rw [decide_eq_false h2]
      exact .inr ⟨rfl, by omega, by omega⟩
end Go.Proofs.YtabnafbgcpchdaaGreat.PL
end
section
namespace Go.Proofs.YtabnafbgcpchdaaGreat.PL
open Go Go.RowKit Go.Proofs.YtabnafbgcpchdaaGreatW.PrintWords Go.Proofs.YtabnafbgcpchdaaGreatW.PrintLast Go.Proofs.YtabnafbgcpchdaaGreatW.PrintMore Go.Proofs.YtabnafbgcpchdaaGreat.Q
set_option linter.unusedSimpArgs false
set_option linter.unusedVariables false
theorem zre {l : List Instr} {w : Nat} {C : List Int} (hb : zel l = true) (h : Sch l w C) (h1 : ∀ j, j < l.length → C.getD j 0 ≤ 100) : zku l C = true := by
  unfold zku
  rw [hb, decide_eq_true h.len, Bool.true_and, Bool.true_and, List.all_eq_true]
  intro x hx
  obtain ⟨j, hj, rfl⟩ := List.getElem_of_mem hx
  have hl := h.len
  have h2 := h.nn j (by omega)
  have h3 := h1 j (by omega)
  rw [zgl C j hj 0] at h2 h3
  exact decide_eq_true ⟨h2, h3⟩
theorem zzx (C : List Int) (hC : okB C) : ∃ l w, Ev (fun k => zc4 k C) (l, w) ∧ l.length ≤ 41 := by
  unfold zc4
  obtain ⟨v, a1, s1, e1, hv, h2, h3⟩ := zo4 hC 0 0 [3, 5, 6, 7, 8] (by decide) (by decide) (by decide)
  obtain ⟨n, rfl, hn⟩ : ∃ n : Nat, v = (n : Int) ∧ n ≤ 40 := by
    simp only [List.mem_cons, List.not_mem_nil, or_false] at hv
    exact ⟨v.toNat, by omega, by omega⟩
  obtain ⟨l, a2, s2, e2, hl, h4, h5⟩ := ztc hC a1 s1 n hn (by omega) (by omega)
  obtain ⟨w, a3, s3, e3, _, h6, h7⟩ := zo4 hC a2 s2 [1, 1, 2, 2, 3, 4, 0] (by decide) (by omega) (by omega)
  exact ⟨l, w, Ev.call e1 (Ev.bind e2 (Ev.call e3 (Ev.now _))), hl⟩
theorem zzy (C : List Int) (hC : okB C) : ∃ l n, Ev (fun k => zek k C) (l, n) ∧ l.length ≤ 41 := by
  unfold zek
  obtain ⟨l, a1, s1, e1, hl, h2, h3⟩ := ztc hC 0 0 8 (by decide) (by decide) (by decide)
  obtain ⟨v, a2, s2, e2, _, h4, h5⟩ := zo4 hC a1 s1 [0, 1, 5, 12, 40, 100, 101, (-1)] (by decide) (by omega) (by omega)
  have no : ∀ (p q : Int), Ev (fun k => zcd k l v false C p q) (l, v) := fun p q => zam (fun k => by simp only [zcd]; rfl) (zas (by decide) (Ev.now _))
  by_cases h : zel l = true
  · obtain ⟨g1, g2⟩ := zgm h
    obtain ⟨b, a3, s3, e3, h6, h7⟩ := zwp hC a2 s2 2 (by omega) (by omega)
    cases b with
    | false => exact ⟨l, v, Ev.bind e1 (Ev.call e2 (Ev.bind (zma l) (zae h (Ev.call e3 (no _ _))))), hl⟩
    | true =>
      obtain ⟨u, a4, s4, e4, _, h8, h9⟩ := zjs hC a3 s3 3 (by omega) (by omega)
      refine ⟨l, wrap64 (wrap64 ((hts l l.length).foldl max 0 + u) - 1), Ev.bind e1 (Ev.call e2 (Ev.bind (zma l) (zae h (Ev.call e3 (zam (fun k => by simp only [zcd]; rfl) ?_))))), hl⟩
      exact zae trivial (Ev.bind (zvr l g1 g2) (Ev.call e4 (Ev.some rfl)))
  · exact ⟨l, v, Ev.bind e1 (Ev.call e2 (Ev.bind (zma l) (zas h (no _ _)))), hl⟩
theorem zxt (l : List Instr) (n : Int) (h0 : 0 ≤ n) : negB (laL l n l.length l.length) = false ↔ (hts l l.length).foldl max 0 ≤ n := by
  unfold negB
  rw [List.any_eq_false]
  constructor
  · intro h
    refine ycm l n h0 (fun j hj => ?_)
    have hlt : j < (laL l n l.length l.length).length := by rw [zhm]; exact hj
    have h1 := h _ (List.getElem_mem hlt)
    rw [← zgl (laL l n l.length l.length) j hlt 0, znr l n j hj, decide_eq_true_eq] at h1
    omega
  · intro h x hx
    obtain ⟨j, hj, rfl⟩ := List.getElem_of_mem hx
    rw [zhm] at hj
    have h1 := zzf l j hj
    rw [← zgl (laL l n l.length l.length) j _ 0, znr l n j hj, decide_eq_true_eq]
    omega
theorem bsJ2 (C : List Int) (hC : okB C) : Ev (fun k => zd8 k C) true := by
  obtain ⟨l, n, hd, hl⟩ := zzy C hC
  have h1 := ycp l n
  have h2 := ycq l
  unfold zd8
  refine Ev.bind hd (Ev.bind (zzj l n (by omega)) (Ev.bind (zzk l n (by omega)) (Ev.bind (zzl l (by omega)) (Ev.bind (zzm l (by omega)) (Ev.bind (zvo l (by omega)) ?_)))))
  refine Ev.bind (zqy _ (by omega)) (Ev.bind (zqy _ (by omega)) ?_)
  by_cases h : zel l = true
  · rw [show pbR l = ((hts l l.length).foldl max 0, true) from if_pos h, show eoR l = (eaL l l.length, true) from if_pos h]
    by_cases hp : (0 ≤ n ∧ n ≤ 100) ∧ (hts l l.length).foldl max 0 ≤ n
    · obtain ⟨hn, hp⟩ := hp
      rw [show loR l n = (laL l n l.length l.length, true) from if_pos ⟨h, hn, (zxt l n hn.1).2 hp⟩]
      refine zae ⟨rfl, rfl, rfl, rfl, rfl, fun _ _ _ => (decide_eq_true hp).symm⟩ (zae rfl ?_)
      have key : ∀ (d i : Nat), i + d = l.length → Ev (fun k => zc9 k (eaL l l.length) (laL l n l.length l.length) i) true := by
        intro d
        induction d with
        | zero => intro i hi; exact zam (fun k => by simp only [zc9]; rfl) (zas (by rw [zhm]; omega) (Ev.now _))
        | succ d ih =>
          intro i hi
          have next := ih (i + 1) (by omega)
          have h3 := ztb l (i + 1) i (by omega) (by omega)
          refine zam (fun k => by simp only [zc9]; rfl) (zae (by rw [zhm]; omega) (zae (by omega) (zae (by rw [zg0]; omega) ?_)))
          rw [rdB, rdB, znr l n i (by omega), w64n i (by omega)]
          exact zas (by omega) next
      exact key l.length 0 (by omega)
    · rw [show loR l n = ([], false) from if_neg (fun q => hp ⟨q.2.1, (zxt l n q.2.1.1).1 q.2.2⟩)]
      refine zae ⟨rfl, rfl, rfl, rfl, rfl, fun _ h0 h1 => (decide_eq_false (fun q => hp ⟨⟨h0, h1⟩, q⟩)).symm⟩ (zas Bool.false_ne_true (Ev.now _))
  · rw [show pbR l = (0, false) from if_neg h, show eoR l = ([], false) from if_neg h, show loR l n = ([], false) from if_neg (fun q => h q.1)]
    exact zae ⟨rfl, rfl, rfl, rfl, rfl, fun h _ _ => Bool.noConfusion h⟩ (zas Bool.false_ne_true (Ev.now _))
end Go.Proofs.YtabnafbgcpchdaaGreat.PL
namespace Go.Proofs.YtabnafbgcpchdaaGreat.Pure
open Go Go.RowKit Go.Proofs.YtabnafbgcpchdaaGreatW.PrintWords Go.Proofs.YtabnafbgcpchdaaGreatW.PrintLast Go.Proofs.YtabnafbgcpchdaaGreatW.PrintMore Go.Proofs.YtabnafbgcpchdaaGreat.Q Go.Proofs.YtabnafbgcpchdaaGreat.PL
set_option linter.unusedSimpArgs false
set_option linter.unusedVariables false
theorem FnBestSchedules : laws_FnBestSchedules.Pure := by
  intro a0 a1 h0 h1
  refine yab (g := fun k => zfv k a0 a1) ?_
  unfold zfv
  rcases zzw a0 a1 h0.1 h1.1 with hb | ⟨hb, _, _⟩
  · exact Ev.call hb (zae rfl (Ev.now _))
  obtain ⟨l, w, hd, hl⟩ := zzx a0 (ybv h0)
  have h2 := ycs l w
  have j2 := bsJ2 a1 (ybv h1)
  refine Ev.call hb (zas Bool.false_ne_true (Ev.bind hd (Ev.bind (zvq l w) (Ev.bind (zzr l w) (Ev.bind (zvt l w) (Ev.bind (zzs l w) (Ev.bind (zqy _ (by omega)) ?_)))))))
  by_cases h : zel l = true ∧ (1 ≤ w ∧ w ≤ 3) ∧ l.length ≤ 7
  · obtain ⟨hb, hw, h7⟩ := h
    obtain ⟨n, rfl⟩ := Int.eq_ofNat_of_zero_le (show 0 ≤ w by omega)
    have hbs : bsR l n = (bsL l n, true) := if_pos ⟨hb, hw, h7⟩
    have hll : llR l n = (lenM l (bsL l n) 0, true) := if_pos ⟨hb, hw, h7⟩
    obtain ⟨s1, s2⟩ := yav h7 (w := n) (by omega)
    obtain ⟨t1, t2⟩ := yaw l (by omega) n (by omega)
    have hls : lsR l n = (lsL l n, true) := if_pos ⟨hb, hw⟩
    have his : isR l n (bsL l n) = (true, true) := (yco l n _).2 ⟨hb, hw, s1, s2⟩
    have hln : lenR l (bsL l n) = (lenM l (bsL l n) 0, true) := if_pos (zre hb s1 s2)
    have hlo : lenR l (lsL l n) = (lenM l (lsL l n) 0, true) := if_pos (zre hb t1 t2)
    have hpb : pbR l = ((hts l l.length).foldl max 0, true) := if_pos hb
    have hwb : wbR l n = (wbM l (eaL l l.length) n l.length, true) := if_pos ⟨hb, hw⟩
    have b1 := zta h7 (by omega) t1
    have b2 := s1.path
    have b3 := s1.bound (by omega) (by omega)
    have e1 := zzi l n (bsL l n) (by omega) (by have := s1.len; omega)
    have e2 := zqg l (bsL l n) (by have := s1.len; omega)
    have e3 := zzt l n (by omega)
    have e4 := zqg l (lsL l n) (by have := t1.len; omega)
    have e5 := zvo l (by omega)
    have e6 := zzn l n (by omega)
    rw [his] at e1
    rw [hln] at e2
    rw [hls] at e3
    rw [hlo] at e4
    rw [hpb] at e5
    rw [hwb] at e6
    rw [hbs, hll]
    refine zae ⟨rfl, rfl, rfl, rfl, rfl⟩ (zae rfl (Ev.bind e1 (Ev.bind e2 (Ev.bind e3 (Ev.bind e4 (Ev.bind e5 (Ev.bind e6 ?_)))))))
    refine zae ⟨rfl, rfl, rfl, rfl, b1, rfl, rfl, b2, b3⟩ ?_
    by_cases h3 : (n : Int) < 3
    · have hll2 : llR l ((n + 1 : Nat) : Int) = (lenM l (bsL l (n + 1)) 0, true) := if_pos ⟨hb, by omega, h7⟩
      have b4 := zta h7 (w := n + 1) (by omega) (s1.wider (v := n + 1) (by omega))
      have e7 := zvt l ((n + 1 : Nat) : Int)
      rw [hll2] at e7
      refine zae h3 ?_
      rw [w64n n (by omega)]
      exact Ev.bind e7 (zae ⟨rfl, b4⟩ j2)
    · exact zas h3 j2
  · rw [show bsR l w = ([], false) from if_neg h, show llR l w = (0, false) from if_neg h]
    exact zae ⟨rfl, rfl, rfl, rfl, rfl⟩ (zas Bool.false_ne_true j2)
end Go.Proofs.YtabnafbgcpchdaaGreat.Pure
end
