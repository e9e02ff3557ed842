/- Proved here: contracts of functions that the law FnExactPrunedFor reaches, and lemmas on what they compute; texts of this session and the printed words of the kit that they lean on, cut down and put together by its program link.py. Conditions: as each states. -/
import Derived.Carry
import Derived.Deep.DeepMust
import Derived.Deep.Slices
import Derived.Laws.BitsLemmas
import Derived.Laws.EntriesVeiled
import Derived.ProofKit
import Derived.Test.YtnaafcleafbejaaGreatZFnExactPrunedFor1
import Derived.Test.YtnaafcleafbejaaGreatZFnExactPrunedFor2
import Derived.Test.YtnaafcleafbejaaGreatZFnExactPrunedFor3
import Derived.Test.YtnaafcleafbejaaGreatZFnExactPrunedFor4
section
namespace Go.Proofs.YtnaafcleafbejaaGreat.Q
open Go.RowKit Go.Proofs.YtnaafcleafbejaaGreatW.PrintWords Go.Proofs.YtnaafcleafbejaaGreatW.PrintLast Go.Proofs.YtnaafcleafbejaaGreatW.PrintMore
set_option maxHeartbeats 8000000
set_option maxRecDepth 100000
attribute [local go_sem] za7 za8 zb6 zb7 zav zaw za9 zbc
set_option linter.unusedVariables false
set_option linter.unusedSimpArgs false
mutual
def zbm : Nat → List (S58) → Int → List (S69) → Bool → List (S62) → List (S69) → Bool → Bool → List ByteArray → List Int → List ByteArray → List Int → Option (Bool)
 | 0, _, _, _, _, _, _, _, _, _, _, _, _ => none
 | k + 1, x0, x2, x8, x9, x10, x12, x13, x57, x102000, x102001, x127000, x127001 => if x57 = true then (none) else ((zes k x0).bind fun t132 => ((zgr k x10 t132).bind fun t135 => (if t135 = true then ((zd3 k x102000 x102001).bind fun bt136 => ((zf8 k x127000 x127001 bt136.1 bt136.2).bind fun t142 => (if t142 = true then ((zfm k x10 1).bind fun bt143 => ((zfa k x127000 x127001 bt143.1).bind fun bt145 => (if bt145.1 < 0 then (none) else ((zer k x12 x8).bind fun t148 => (if t148 = true then (zbo k x0 x2 x8 x9 x12 (x13 != x9) x102000 x102001) else (none)))))) else (none)))) else (none))))
def zbo : Nat → List (S58) → Int → List (S69) → Bool → List (S69) → Bool → List ByteArray → List Int → Option (Bool)
 | 0, _, _, _, _, _, _, _, _ => none
 | k + 1, x0, x2, x8, x9, x12, x86, x102000, x102001 => if x86 = true then (none) else ((zfb k x12 1).bind fun bt149 => ((zej k bt149.2 1).bind fun t151 => (if t151 < 0 then (none) else (if t151 = bt149.1 then ((zes k x0).bind fun t152 => ((zd3 k x102000 x102001).bind fun bt155 => ((zgl k t152 bt155.1 bt155.2 x2).bind fun bt161 => ((zer k bt161.1 x8).bind fun t165 => (if t165 = true then (zbp k bt149.2 bt149.1 (bt161.2 != x9)) else (none)))))) else (none)))))
def zbp : Nat → List (S69) → Int → Bool → Option (Bool)
 | 0, _, _, _ => none
 | k + 1, x12, x15, x115 => if x115 = true then (none) else ((zej k x12 1).bind fun t166 => (if t166 < 0 then (none) else (if t166 = x15 then (some true) else (none))))
end
def zb5 (k : Nat) (l0 : List (S58)) (l1_0 : List ByteArray) (l1_1 : List Int) (a2 : Int) : Option (Bool) := (zfw k l0 1048576).bind fun t102 => (if t102 < 0 then (some true) else ((zga k l1_0 l1_1 t102).bind fun t103 => (if t103 < 0 then (some true) else ((zes k l0).bind fun t104 => ((zd3 k l1_0 l1_1).bind fun bt107 => ((zfq k t104 bt107.1 bt107.2 a2).bind fun bt113 => ((zes k l0).bind fun t117 => ((zd3 k l1_0 l1_1).bind fun bt120 => ((zgl k t117 bt120.1 bt120.2 a2).bind fun bt127 => ((zer k bt127.1 bt113.1).bind fun t131 => (if t131 = true then (zbm k l0 a2 bt113.1 bt113.2 t117 bt127.1 bt127.2 (bt127.2 != bt113.2) l1_0 l1_1 bt120.1 bt120.2) else (none))))))))))))
theorem zi4 : ∀ k, (∀ y0 y1 y2 y3 y4 y5 y6 y7 y8 y9 y10 y11, LeO (zbm k y0 y1 y2 y3 y4 y5 y6 y7 y8 y9 y10 y11) (zbm (k + 1) y0 y1 y2 y3 y4 y5 y6 y7 y8 y9 y10 y11)) ∧ (∀ y0 y1 y2 y3 y4 y5 y6 y7, LeO (zbo k y0 y1 y2 y3 y4 y5 y6 y7) (zbo (k + 1) y0 y1 y2 y3 y4 y5 y6 y7)) ∧ (∀ y0 y1 y2, LeO (zbp k y0 y1 y2) (zbp (k + 1) y0 y1 y2))
 | 0 => ⟨fun _ _ _ _ _ _ _ _ _ _ _ _ r h => by simp [zbm] at h, fun _ _ _ _ _ _ _ _ r h => by simp [zbo] at h, fun _ _ _ r h => by simp [zbp] at h⟩
 | k + 1 => by
   obtain ⟨ih0, ih1, ih2⟩ := zi4 k
   refine ⟨?_, ?_, ?_⟩
   · intro y0 y1 y2 y3 y4 y5 y6 y7 y8 y9 y10 y11
     unfold zbm
     repeat' first
     | (with_reducible first | exact ih0 _ _ _ _ _ _ _ _ _ _ _ _ | exact ih1 _ _ _ _ _ _ _ _ | exact ih2 _ _ _ | exact zib _ _ _ _ _ | exact zix _ _ _ _ _ | exact ziy _ _ _ | exact zjb _ _ _ | exact zhv _ _ _ | exact zhw _ _ _ _ | exact zhx _ _ _ | exact zid _ _ _ | exact ziz _ _ _ _ | exact zjc _ _ _ | exact zi0 _ _ _ | exact zjd _ _ | exact zig _ _ _ _ _ | exact LeO.refl _ | exact LeO.none _ | refine zdk ?_ ?_ | refine LeO.bind ?_ (fun _ => ?_))
     | exact LeO.none _
     | refine zdk ?_ ?_
     | refine LeO.bind ?_ (fun _ => ?_)
   · intro y0 y1 y2 y3 y4 y5 y6 y7
     unfold zbo
     repeat' first
     | (with_reducible first | exact ih0 _ _ _ _ _ _ _ _ _ _ _ _ | exact ih1 _ _ _ _ _ _ _ _ | exact ih2 _ _ _ | exact zib _ _ _ _ _ | exact zix _ _ _ _ _ | exact ziy _ _ _ | exact zjb _ _ _ | exact zhv _ _ _ | exact zhw _ _ _ _ | exact zhx _ _ _ | exact zid _ _ _ | exact ziz _ _ _ _ | exact zjc _ _ _ | exact zi0 _ _ _ | exact zjd _ _ | exact zig _ _ _ _ _ | exact LeO.refl _ | exact LeO.none _ | refine zdk ?_ ?_ | refine LeO.bind ?_ (fun _ => ?_))
     | exact LeO.none _
     | refine zdk ?_ ?_
     | refine LeO.bind ?_ (fun _ => ?_)
   · intro y0 y1 y2
     unfold zbp
     repeat' first
     | (with_reducible first | exact ih0 _ _ _ _ _ _ _ _ _ _ _ _ | exact ih1 _ _ _ _ _ _ _ _ | exact ih2 _ _ _ | exact zib _ _ _ _ _ | exact zix _ _ _ _ _ | exact ziy _ _ _ | exact zjb _ _ _ | exact zhv _ _ _ | exact zhw _ _ _ _ | exact zhx _ _ _ | exact zid _ _ _ | exact ziz _ _ _ _ | exact zjc _ _ _ | exact zi0 _ _ _ | exact zjd _ _ | exact zig _ _ _ _ _ | exact LeO.refl _ | exact LeO.none _ | refine zdk ?_ ?_ | refine LeO.bind ?_ (fun _ => ?_))
     | exact LeO.none _
     | refine zdk ?_ ?_
     | refine LeO.bind ?_ (fun _ => ?_)
theorem zuq : ∀ a0 a1 a2 a3 k, LeO (zb5 k a0 a1 a2 a3) (zb5 (k + 1) a0 a1 a2 a3) := by
 intro a0 a1 a2 a3 k
 obtain ⟨ih0, ih1, ih2⟩ := zi4 k
 unfold zb5
 repeat' first
     | (with_reducible first | exact ih0 _ _ _ _ _ _ _ _ _ _ _ _ | exact ih1 _ _ _ _ _ _ _ _ | exact ih2 _ _ _ | exact zib _ _ _ _ _ | exact zix _ _ _ _ _ | exact ziy _ _ _ | exact zjb _ _ _ | exact zhv _ _ _ | exact zhw _ _ _ _ | exact zhx _ _ _ | exact zid _ _ _ | exact ziz _ _ _ _ | exact zjc _ _ _ | exact zi0 _ _ _ | exact zjd _ _ | exact zig _ _ _ _ _ | exact LeO.refl _ | exact LeO.none _ | refine zdk ?_ ?_ | refine LeO.bind ?_ (fun _ => ?_))
     | exact LeO.none _
     | refine zdk ?_ ?_
     | refine LeO.bind ?_ (fun _ => ?_)
def laws_FnExactPrunedFor.T8 : Bool × List (List Nat × List Nat) := (true, [([], []), ([0], [0]), ([], []), ([2, 1], [2]), ([], []), ([1, 3, 4, 3], [1, 3, 4]), ([5], [5]), ([6], [6]), ([6], [6]), ([7, 5, 0, 1, 2, 3, 4, 5, 6, 7], [7]), ([8, 9, 0, 1, 2, 3, 4, 5, 6, 7, 8, 9], [8])])
def zov : List Nat := [0, 1, 0, 7, 0, 31, 63, 127, 127, 255, 1023]
theorem znj : rtab .any (zrx Tryz.f5 8) = laws_FnExactPrunedFor.T8 := by kernel_rfl
theorem znc : zij laws_FnExactPrunedFor.T8.2 zov = true := by kernel_rfl
def laws_FnExactPrunedFor.T31 : Bool × List (List Nat × List Nat) := (true, [([], []), ([0], [0]), ([], []), ([2, 1], [2]), ([], []), ([1, 3, 4, 3], [1, 3, 4]), ([5], [5]), ([6], [6]), ([6], [6]), ([7, 5, 0, 1, 2, 3, 4, 5, 6, 7], [7]), ([8, 9, 0, 1, 2, 3, 4, 5, 6, 7, 8, 9], [8])])
def zod : List Nat := [0, 1, 0, 7, 0, 31, 63, 127, 127, 255, 1023]
theorem znd : rtab .any (zrx Tryz.f5 31) = laws_FnExactPrunedFor.T31 := by kernel_rfl
theorem zmg : zij laws_FnExactPrunedFor.T31.2 zod = true := by kernel_rfl
theorem zne (k : Nat) (A0 : Option Addr) (c0 : Nat) (l0 : List (S58)) (A1_0 : Option Addr) (c1_0 : Nat) (l1_0 : List ByteArray) (A1_1 : Option Addr) (c1_1 : Nat) (l1_1 : List Int) (a2 : Int) (r : Bool) (w : World) (hr0 : Kd.C k58 w A0 l0.length l0) (hc0 : l0.length ≤ c0) (hr1_0 : Kd.C Kd.string w A1_0 l1_0.length l1_0) (hc1_0 : l1_0.length ≤ c1_0) (hr1_1 : Kd.C (Kd.int .i64) w A1_1 l1_1.length l1_1) (hc1_1 : l1_1.length ≤ c1_1) (h : zb5 k l0 l1_0 l1_1 a2 = some r) :
   Calls Tryz.prog 5 #[.slice A0 l0.length c0, .agg #[.slice A1_0 l1_0.length c1_0, .slice A1_1 l1_1.length c1_1], .int .i64 a2] w fun e w' => e = .returned (.bool r) ∧ Below w.heap.size w w' := by
 have hu26 := Tryz.underlying26
 have hu34 := Tryz.underlying34
 have HR0 := zA hr0
 have HC0 := zA hc0
 clear hr0 hc0
 have HR1_0 := zA hr1_0
 have HC1_0 := zA hc1_0
 clear hr1_0 hc1_0
 have HR1_1 := zA hr1_1
 have HC1_1 := zA hc1_1
 clear hr1_1 hc1_1
 have HB := zA (Below.refl w.heap.size w)
 have H := h
 unfold zb5 at H
 clear h
 replace H := zob H
 obtain ⟨t102, A40, H⟩ := H
 have A4 := zA A40
 clear A40
 revert H
 refine zit (fun c5b0 H => ?_) fun c5b0 H => ?_
 · obtain rfl := zsi H
   go_enter Tryz.func5, Tryz.ntmps5
   go_wp2_with (first | ((with_reducible refine zgd 4 ?_); refine zbx #[.slice A1_0 l1_0.length c1_0, .slice A1_1 l1_1.length c1_1] 26 ?_; intro gb101 hg w6 hbox hb; have zs := zpair zq2 hb; replace HB := zA (zs.1); have BK101 := zA (hbox); have GW101 := zA (zge hg zs.2); have GE101 := GW101; clear zs hb hbox hg) | ((with_reducible refine zgc 8 ?_); refine zca 21 Tryz.func8 #[.slice A0 l0.length c0, .int .i64 1048576] (zke k _ _ l0 1048576 t102 _ (zq8 HR0) HC0.out A4.out) ?_; rintro e w7 ⟨rfl, hb⟩; refine ⟨_, rfl, ?_⟩; replace BK101 := zbb BK101 hb; replace HB := zA (zaa (zq1 GE101) hb); (try clear hb)))
   go_ret
   exact ⟨zq4, zq1 GE101⟩
 replace H := zob H
 obtain ⟨t103, A80, H⟩ := H
 have A8 := zA A80
 clear A80
 revert H
 refine zit (fun c9b0 H => ?_) fun c9b0 H => ?_
 · obtain rfl := zsi H
   go_enter Tryz.func5, Tryz.ntmps5
   go_wp2_with (first | ((with_reducible refine zgd 4 ?_); refine zbx #[.slice A1_0 l1_0.length c1_0, .slice A1_1 l1_1.length c1_1] 26 ?_; intro gb101 hg w10 hbox hb; have zs := zpair zq2 hb; replace HB := zA (zs.1); have BK101 := zA (hbox); have GW101 := zA (zge hg zs.2); have GE101 := GW101; clear zs hb hbox hg) | ((with_reducible refine zgc 8 ?_); refine zca 21 Tryz.func8 #[.slice A0 l0.length c0, .int .i64 1048576] (zke k _ _ l0 1048576 t102 _ (zq8 HR0) HC0.out A4.out) ?_; rintro e w11 ⟨rfl, hb⟩; refine ⟨_, rfl, ?_⟩; replace BK101 := zbb BK101 hb; replace HB := zA (zaa (zq1 GE101) hb); (try clear hb); obtain ⟨hcz12_0, hcz12_1⟩ := zc2 w11 (.slice A1_0 l1_0.length c1_0) (.slice A1_1 l1_1.length c1_1) BK101.out; obtain ⟨hfz12_0, hfz12_1⟩ := zf2 BK101.out) | ((with_reducible refine zgc 9 ?_); refine zca 26 Tryz.func9 #[.agg #[.slice A1_0 l1_0.length c1_0, .slice A1_1 l1_1.length c1_1], .int .i64 t102] (zmv k _ _ l1_0 _ _ l1_1 t102 t103 _ (zq8 HR1_0) HC1_0.out (zq8 HR1_1) HC1_1.out A8.out) ?_; rintro e w13 ⟨rfl, hb⟩; refine ⟨_, rfl, ?_⟩; replace BK101 := zbb BK101 hb; replace HB := zA (zaa (zq1 GE101) hb); (try clear hb)))
   go_ret
   exact ⟨zq4, zq1 GE101⟩
 replace H := zob H
 obtain ⟨t104, A140, H⟩ := H
 have A14 := zA A140
 clear A140
 replace H := zob H
 obtain ⟨⟨t107, t110⟩, A150, H⟩ := H
 have A15 := zA A150
 clear A150
 replace H := zob H
 obtain ⟨⟨t113, t116⟩, A160, H⟩ := H
 have A16 := zA A160
 clear A160
 replace H := zob H
 obtain ⟨t117, A170, H⟩ := H
 have A17 := zA A170
 clear A170
 replace H := zob H
 obtain ⟨⟨t120, t123⟩, A180, H⟩ := H
 have A18 := zA A180
 clear A180
 replace H := zob H
 obtain ⟨⟨t127, t130⟩, A190, H⟩ := H
 have A19 := zA A190
 clear A190
 have HC20 := zA H
 clear H
 go_enter Tryz.func5, Tryz.ntmps5
 try go_wp2_with (first | ((with_reducible refine zgd 4 ?_); refine zbx #[.slice A1_0 l1_0.length c1_0, .slice A1_1 l1_1.length c1_1] 26 ?_; intro gb101 hg w21 hbox hb; have zs := zpair zq2 hb; replace HB := zA (zs.1); have BK101 := zA (hbox); have GW101 := zA (zge hg zs.2); have GE101 := GW101; clear zs hb hbox hg) | ((with_reducible refine zgc 8 ?_); refine zca 21 Tryz.func8 #[.slice A0 l0.length c0, .int .i64 1048576] (zke k _ _ l0 1048576 t102 _ (zq8 HR0) HC0.out A4.out) ?_; rintro e w22 ⟨rfl, hb⟩; refine ⟨_, rfl, ?_⟩; replace BK101 := zbb BK101 hb; replace HB := zA (zaa (zq1 GE101) hb); (try clear hb); obtain ⟨hcz23_0, hcz23_1⟩ := zc2 w22 (.slice A1_0 l1_0.length c1_0) (.slice A1_1 l1_1.length c1_1) BK101.out; obtain ⟨hfz23_0, hfz23_1⟩ := zf2 BK101.out) | ((with_reducible refine zgc 9 ?_); refine zca 26 Tryz.func9 #[.agg #[.slice A1_0 l1_0.length c1_0, .slice A1_1 l1_1.length c1_1], .int .i64 t102] (zmv k _ _ l1_0 _ _ l1_1 t102 t103 _ (zq8 HR1_0) HC1_0.out (zq8 HR1_1) HC1_1.out A8.out) ?_; rintro e w24 ⟨rfl, hb⟩; refine ⟨_, rfl, ?_⟩; replace BK101 := zbb BK101 hb; replace HB := zA (zaa (zq1 GE101) hb); (try clear hb)))
 replace BK101 := zA (zkd BK101.out)
 replace HB := zA (zbd HB.out)
 refine zkw (n := 11) (S := fun w' => w'.cell? ⟨gb101, 0, none⟩ = some (.slice A1_0 l1_0.length c1_0) ∧ w'.cell? ⟨gb101, 1, none⟩ = some (.slice A1_1 l1_1.length c1_1)) (ds := []) #[false, false, false, false, false, false, false, false, false, false, false] zq24 rfl rfl ⟨(zaf BK101.out 0).trans rfl, (zaf BK101.out 1).trans rfl⟩ (fun hHeld => ?_); refine zgh znj znc (fun HT_ HW_ => ?_)
 generalize w24.drew = w25 at BK101 HB hHeld ⊢
 refine zpu 0 30 HT_ ?_
 refine zpu 4 34 HT_ ?_
 refine ztu 2 32 HT_ HW_ hHeld ?_
 refine one_ (i := 1) (N := some 31) #[true, true, true, false, true, false, false, false, false, false, false] rfl rfl (zfu HT_.out zq24) (by decide) (fun K hK => ?_)
 refine zoh Tryz.func11 zq24 rfl #[.slice A0 l0.length c0] (by rfl) rfl rfl zq14 ?_
 with_reducible refine (zi1 k _ _ l0 t104 _ ?side1 ?side2 A14.out).mono ?_
 (case side1 => repeat (first | exact (zCb HR0.out HB.out) | (with_reducible first | refine zCa ?_ _ | refine zCn ?_ _ | refine zCd ?_)))
 (case side2 => exact HC0.out)
 rintro e w26 ⟨v105, rfl, ho0, hb⟩
 refine ⟨_, rfl, ?_⟩
 have HO106 := zA (Kd.R_lower ho0 (zag (zq1 GE101)))
 replace BK101 := zA (zai (g := gb101) (o := .cells #[.slice A1_0 l1_0.length c1_0, .slice A1_1 l1_1.length c1_1] 26 (0, 0)) (zq6 BK101) hb)
 replace HB := zA (zaa (zq1 GE101) hb)
 (try clear hb)
 (try clear hb2)
 (try clear hk)
 (try clear hi)
 (try clear ho0)
 refine hK.out _ _ ⟨(zaf BK101.out 0).trans rfl, (zaf BK101.out 1).trans rfl⟩ (fun hHeld => ?_)
 clear hK K
 refine znm 31 ?_
 refine one_ (i := 3) (N := some 33) #[true, true, true, true, true, false, false, false, false, false, false] rfl rfl (zfu HT_.out zq24) (by decide) (fun K hK => ?_)
 refine zoh Tryz.func12 zq24 rfl #[.agg #[.slice A1_0 l1_0.length c1_0, .slice A1_1 l1_1.length c1_1]] (by rfl) rfl rfl zq14 ?_
 with_reducible refine (zie k _ _ l1_0 _ _ l1_1 t107 t110 _ ?side1 ?side2 ?side3 ?side4 A15.out).mono ?_
 (case side1 => repeat (first | exact (zCb HR1_0.out HB.out) | (with_reducible first | refine zCa ?_ _ | refine zCn ?_ _ | refine zCd ?_)))
 (case side2 => exact HC1_0.out)
 (case side3 => repeat (first | exact (zCb HR1_1.out HB.out) | (with_reducible first | refine zCa ?_ _ | refine zCn ?_ _ | refine zCd ?_)))
 (case side4 => exact HC1_1.out)
 rintro e w27 ⟨v108, v111, rfl, ho0, ho1, hb⟩
 refine ⟨_, rfl, ?_⟩
 replace HO106 := zA (zRb (zq3 HO106) hb)
 have HO109 := zA (Kd.R_lower ho0 (zag (zq1 GE101)))
 have HO112 := zA (Kd.R_lower ho1 (zag (zq1 GE101)))
 replace BK101 := zA (zai (g := gb101) (o := .cells #[.slice A1_0 l1_0.length c1_0, .slice A1_1 l1_1.length c1_1] 26 (0, 0)) (zq6 BK101) hb)
 replace HB := zA (zaa (zq1 GE101) hb)
 (try clear hb)
 (try clear hb2)
 (try clear hk)
 (try clear hi)
 (try clear ho0)
 (try clear ho1)
 obtain ⟨Ao28, co28, eo28⟩ := Kd.R_slice HO106.out
 (first | subst eo28 | (injection eo28 with f1_ f2_ f3_; have f4_ := f1_.symm; have f5_ := f3_.symm; clear f1_ f2_ f3_; subst f4_; subst f5_))
 obtain ⟨Ao29, co29, eo29⟩ := Kd.R_slice HO109.out
 (first | subst eo29 | (injection eo29 with f1_ f2_ f3_; have f4_ := f1_.symm; have f5_ := f3_.symm; clear f1_ f2_ f3_; subst f4_; subst f5_))
 obtain ⟨Ao30, co30, eo30⟩ := Kd.R_slice HO112.out
 (first | subst eo30 | (injection eo30 with f1_ f2_ f3_; have f4_ := f1_.symm; have f5_ := f3_.symm; clear f1_ f2_ f3_; subst f4_; subst f5_))
 refine hK.out _ _ ⟨(zaf BK101.out 0).trans rfl, (zaf BK101.out 1).trans rfl⟩ (fun hHeld => ?_)
 clear hK K
 refine znm 33 ?_
 refine one_ (i := 5) (N := some 35) #[true, true, true, true, true, true, false, false, false, false, false] rfl rfl (zfu HT_.out zq24) (by decide) (fun K hK => ?_)
 refine zoh Tryz.func23 zq24 rfl #[.slice Ao28 t104.length co28, .agg #[.slice Ao29 t107.length co29, .slice Ao30 t110.length co30], .int .i64 a2] (by rfl) rfl rfl zq14 ?_
 with_reducible refine (zp7 k _ _ t104 _ _ t107 _ _ t110 a2 t113 t116 _ ?side1 ?side2 ?side3 ?side4 ?side5 ?side6 A16.out).mono ?_
 (case side1 => repeat (first | exact (zRr HO106.out).2.2 | (with_reducible first | refine zCa ?_ _ | refine zCn ?_ _ | refine zCd ?_)))
 (case side2 => exact (zRr HO106.out).2.1)
 (case side3 => repeat (first | exact (zRr HO109.out).2.2 | (with_reducible first | refine zCa ?_ _ | refine zCn ?_ _ | refine zCd ?_)))
 (case side4 => exact (zRr HO109.out).2.1)
 (case side5 => repeat (first | exact (zRr HO112.out).2.2 | (with_reducible first | refine zCa ?_ _ | refine zCn ?_ _ | refine zCd ?_)))
 (case side6 => exact (zRr HO112.out).2.1)
 rintro e w31 ⟨v114, rfl, ho0, hb⟩
 refine ⟨_, rfl, ?_⟩
 replace HO106 := zA (zRb (zq3 HO106) hb)
 replace HO109 := zA (zRb (zq3 HO109) hb)
 replace HO112 := zA (zRb (zq3 HO112) hb)
 have HO115 := zA (Kd.R_lower ho0 (zag (zq1 GE101)))
 replace BK101 := zA (zai (g := gb101) (o := .cells #[.slice A1_0 l1_0.length c1_0, .slice A1_1 l1_1.length c1_1] 26 (0, 0)) (zq6 BK101) hb)
 replace HB := zA (zaa (zq1 GE101) hb)
 (try clear hb)
 (try clear hb2)
 (try clear hk)
 (try clear hi)
 (try clear ho0)
 refine hK.out _ _ ⟨(zaf BK101.out 0).trans rfl, (zaf BK101.out 1).trans rfl⟩ (fun hHeld => ?_)
 clear hK K
 refine znm 35 ?_
 refine zpu 6 29 HT_ ?_
 refine zpu 7 36 HT_ ?_
 refine zpu 8 37 HT_ ?_
 refine zpu 9 8 HT_ ?_
 refine zpu 10 9 HT_ ?_
 refine zpg (zi9 HT_.out zq24) ?_
 go_upto_region 12 with (first | ((with_reducible refine zgc 11 ?_); refine zca 39 Tryz.func11 #[.slice A0 l0.length c0] (zi1 k _ _ l0 t117 _ (zq8 HR0) HC0.out A17.out) ?_; rintro e w32 ⟨v118, rfl, ho0, hb⟩; refine ⟨_, rfl, ?_⟩; replace HO109 := zA (zRb (zq3 HO109) hb); replace HO112 := zA (zRb (zq3 HO112) hb); replace HO115 := zA (zRb (zq3 HO115) hb); have HO119 := zA (Kd.R_lower (Kd.R_new' ho0 (Kd.R_lt (zq3 HO106))) (zag (zq1 GE101))); replace HO106 := zA (Kd.R_elder' (zq3 HO106) (Kd.R_base ho0) hb); replace BK101 := zbb BK101 hb; replace HB := zA (zaa (zq1 GE101) hb); (try clear hb); (try clear ho0); obtain ⟨hcz33_0, hcz33_1⟩ := zc2 w32 (.slice A1_0 l1_0.length c1_0) (.slice A1_1 l1_1.length c1_1) BK101.out; obtain ⟨hfz33_0, hfz33_1⟩ := zf2 BK101.out) | ((with_reducible refine zgc 12 ?_); refine zca 41 Tryz.func12 #[.agg #[.slice A1_0 l1_0.length c1_0, .slice A1_1 l1_1.length c1_1]] (zie k _ _ l1_0 _ _ l1_1 t120 t123 _ (zq8 HR1_0) HC1_0.out (zq8 HR1_1) HC1_1.out A18.out) ?_; rintro e w34 ⟨v121, v124, rfl, ho0, ho1, hb⟩; refine ⟨_, rfl, ?_⟩; replace HO106 := zA (zRb (zq3 HO106) hb); replace HO115 := zA (zRb (zq3 HO115) hb); replace HO119 := zA (zRb (zq3 HO119) hb); have HO122 := zA (Kd.R_lower (Kd.R_new' ho0 (Kd.R_lt (zq3 HO109))) (zag (zq1 GE101))); replace HO109 := zA (Kd.R_elder' (zq3 HO109) (Kd.R_base ho0) hb); have HO125 := zA (Kd.R_lower (Kd.R_new' ho1 (Kd.R_lt (zq3 HO112))) (zag (zq1 GE101))); replace HO112 := zA (Kd.R_elder' (zq3 HO112) (Kd.R_base ho1) hb); replace BK101 := zbb BK101 hb; replace HB := zA (zaa (zq1 GE101) hb); (try clear hb); (try clear ho0); (try clear ho1)) | ((with_reducible refine zgd 11 ?_); refine zbx #[.slice none 0 0, .slice none 0 0] 34 ?_; intro gb126 hg w35 hbox hb; have zs := zpair (zq1 GE101) hb; replace HO106 := zA (zRb (zq3 HO106) hb); replace HO109 := zA (zRb (zq3 HO109) hb); replace HO112 := zA (zRb (zq3 HO112) hb); replace HO115 := zA (zRb (zq3 HO115) hb); replace HO119 := zA (zRb (zq3 HO119) hb); replace HO122 := zA (zRb (zq3 HO122) hb); replace HO125 := zA (zRb (zq3 HO125) hb); replace HB := zA (zs.1); have BK126 := zA (hbox); have GW126 := zA (zge hg zs.2); have GE126 := GW126; have NB101_126 := zA ((zq23 BK101 : gb101 ≠ gb126)); replace BK101 := zbb BK101 hb; have NB126_101 := zA (Ne.symm NB101_126.out); clear zs hb hbox hg; obtain ⟨Ao36, co36, eo36⟩ := Kd.R_slice HO122.out; subst eo36; have hnb37 := NB126_101.out; have hnc37 := NB101_126.out; obtain ⟨hcz38_0, hcz38_1, hfz38_0, hfz38_1⟩ := zd2 BK126; obtain ⟨Ao39, co39, eo39⟩ := Kd.R_slice HO125.out; subst eo39; obtain ⟨Ao40, co40, eo40⟩ := Kd.R_slice HO119.out; subst eo40) | ((with_reducible refine zgc 24 ?_); refine zca 46 Tryz.func24 #[.slice Ao40 t117.length co40, .agg #[.slice Ao36 t120.length co36, .slice Ao39 t123.length co39], .int .i64 a2] (zl3 k _ _ t117 _ _ t120 _ _ t123 a2 t127 t130 _ (by refine (zRr (e := 62) (base := w.heap.size) (ok := fun k_ => (True ∧ some k_ ≠ (.slice Ao28 t104.length co28 : Value).ownBlock)) (n := t117.length) (c := co40) ?_).2.2; exact (zq11 HO119 BK126)) (zq50 HO119) (by refine (zRr (e := 9) (base := w.heap.size) (ok := fun k_ => (True ∧ some k_ ≠ (.slice Ao29 t107.length co29 : Value).ownBlock)) (n := t120.length) (c := co36) ?_).2.2; exact (zq11 HO122 BK126)) (zq50 HO122) (by refine (zRr (e := 3) (base := w.heap.size) (ok := fun k_ => (True ∧ some k_ ≠ (.slice Ao30 t110.length co30 : Value).ownBlock)) (n := t123.length) (c := co39) ?_).2.2; exact (zq11 HO125 BK126)) (zq50 HO125) A19.out) ?_; rintro e w41 ⟨v128, rfl, ho0, hb⟩; refine ⟨_, rfl, ?_⟩; replace HO106 := zA (zRb (zq11 HO106 BK126) hb); replace HO109 := zA (zRb (zq11 HO109 BK126) hb); replace HO112 := zA (zRb (zq11 HO112 BK126) hb); replace HO119 := zA (zRb (zq11 HO119 BK126) hb); replace HO122 := zA (zRb (zq11 HO122 BK126) hb); replace HO125 := zA (zRb (zq11 HO125 BK126) hb); have HO129 := zA (Kd.R_lower (Kd.R_new' ho0 (Kd.R_lt (zq11 HO115 BK126))) (zag (zq7 GE101 GE126))); replace HO115 := zA (Kd.R_elder' (zq11 HO115 BK126) (Kd.R_base ho0) hb); replace BK101 := zA (zai (g := gb101) (o := .cells #[.slice A1_0 l1_0.length c1_0, .slice A1_1 l1_1.length c1_1] 26 (0, 0)) (by (with_reducible repeat (first | refine zkn ?_ _ | refine zkd ?_ | refine zka ?_ _)); refine zbg ?_ NB101_126.out _; (with_reducible repeat (first | refine zkn ?_ _ | refine zkd ?_ | refine zka ?_ _)); refine zbg ?_ NB101_126.out _; (with_reducible repeat (first | refine zkn ?_ _ | refine zkd ?_ | refine zka ?_ _)); exact BK101.out) hb); replace BK126 := zA (zai (g := gb126) (o := .cells #[.slice Ao36 t120.length co36, .slice Ao39 t123.length co39] 34 (0, 0)) (by (with_reducible repeat (first | refine zkn ?_ _ | refine zkd ?_ | refine zka ?_ _)); refine zcj (cs := #[.slice Ao36 t120.length co36, .slice none 0 0]) ?_ 1 _ rfl; (with_reducible repeat (first | refine zkn ?_ _ | refine zkd ?_ | refine zka ?_ _)); refine zcj (cs := #[.slice none 0 0, .slice none 0 0]) ?_ 0 _ rfl; (with_reducible repeat (first | refine zkn ?_ _ | refine zkd ?_ | refine zka ?_ _)); exact BK126.out) hb); replace HB := zA (zaa (zq7 GE101 GE126) hb); (try clear hb); (try clear hk); (try clear ho0)))
 (try simp only [Act.put, List.setIfInBounds_toArray, List.set_cons_zero, List.set_cons_succ])
 go_cut [57] (fun v57 wc => ∃ (kq : Nat) (x57_19 : Bool), v57 = .bool x57_19 ∧ Aside0 (zbm kq l0 a2 t113 t116 t117 t127 t130 x57_19 l1_0 l1_1 t120 t123 = some r) ∧ Aside0 (kq ≤ k) ∧ Aside0 (Kd.R k69 69 wc w.heap.size (fun k_ => some k_ ≠ (v128 : Value).ownBlock) v114 t113) ∧ Aside0 (Kd.R k62 62 wc w.heap.size (fun _ => True) (.slice Ao40 t117.length co40) t117) ∧ Aside0 (Kd.R k69 69 wc w.heap.size (fun k_ => some k_ ≠ (v114 : Value).ownBlock) v128 t127) ∧ Aside0 (Kd.R Kd.string 9 wc w.heap.size (fun _ => True) (.slice Ao36 t120.length co36) t120) ∧ Aside0 (Kd.R (Kd.int .i64) 3 wc w.heap.size (fun _ => True) (.slice Ao39 t123.length co39) t123) ∧ Aside0 (wc.heap[gb101]? = some (.cells #[(.slice A1_0 l1_0.length c1_0), (.slice A1_1 l1_1.length c1_1)] 26 (0, 0))) ∧ Aside0 (wc.heap[gb126]? = some (.cells #[(.slice Ao36 t120.length co36), (.slice Ao39 t123.length co39)] 34 (0, 0))) ∧ Aside0 (Below w.heap.size w wc))
 case first =>
   have H := HC20.out
   clear HC20
   replace H := zob H
   obtain ⟨t131, A420, H⟩ := H
   have A42 := zA A420
   clear A420
   by_cases c43 : t131 = true
   rotate_left
   · replace c43 := zbf c43
     subst c43
     have H1 : (none : Option Bool) = some r := by rw [if_neg (show ¬ (false = true) by decide)] at H; exact H
     cases H1
   subst c43
   replace H := zih H
   have H' := zA H
   clear H
   obtain ⟨Ao44, co44, eo44⟩ := Kd.R_slice HO129.out
   subst eo44
   obtain ⟨Ao45, co45, eo45⟩ := Kd.R_slice HO115.out
   subst eo45
   go_wp2_with (first | ((with_reducible refine zgc 14 ?_); refine zca 51 Tryz.func14 #[.slice Ao44 t127.length co44, .slice Ao45 t113.length co45] (zju k _ _ t127 _ _ t113 true _ (zq18 HO129) (zq50 HO129) (zq18 HO115) (zq50 HO115) A42.out) ?_; rintro e w46 ⟨rfl, hb⟩; refine ⟨_, rfl, ?_⟩; replace HO106 := zA (zRb (zq3 HO106) hb); replace HO109 := zA (zRb (zq3 HO109) hb); replace HO112 := zA (zRb (zq3 HO112) hb); replace HO115 := zA (zRb (zq3 HO115) hb); replace HO119 := zA (zRb (zq3 HO119) hb); replace HO122 := zA (zRb (zq3 HO122) hb); replace HO125 := zA (zRb (zq3 HO125) hb); replace HO129 := zA (zRb (zq3 HO129) hb); replace BK101 := zbb BK101 hb; replace BK126 := zbb BK126 hb; replace HB := zA (zaa (zq7 GE101 GE126) hb); (try clear hb)))
   go_meet
   case rel => exact ⟨_, ((t130 != t116)), zq5, H', ⟨zq43⟩, ⟨zq32 HO115⟩, ⟨zq28 HO119⟩, ⟨zq32 HO129⟩, ⟨zq28 HO122⟩, ⟨zq28 HO125⟩, ⟨zq6 BK101⟩, ⟨zq6 BK126⟩, ⟨zq7 GE101 GE126⟩⟩
 clear HC20
 try clear c5b0
 try clear c9b0
 try clear c43
 try clear hcz12_0
 try clear hcz12_1
 try clear hcz23_0
 try clear hcz23_1
 try clear hcz33_0
 try clear hcz33_1
 try clear hcz38_0
 try clear hcz38_1
 try clear hfz12_0
 try clear hfz12_1
 try clear hfz23_0
 try clear hfz23_1
 try clear hfz33_0
 try clear hfz33_1
 try clear hfz38_0
 try clear hfz38_1
 obtain ⟨kq, x57_19, rfl, HA, HJ19, HO_8, HO_10, HO_12, HO_127000, HO_127001, BK101, BK126, HB⟩ := hcut
 cases kq with
 | zero => exact absurd HA.out (by simp [zbm])
 | succ kj19 =>
 have H := HA.out
 clear HA
 simp only [zbm] at H
 by_cases c50 : x57_19 = true
 · subst c50
   have H1 : (none : Option Bool) = some r := by rw [if_pos rfl] at H; exact H
   cases H1
 replace c50 := zbf c50
 subst c50
 replace H := zif H
 replace H := zob H
 obtain ⟨t132, A510, H⟩ := H
 have A51 := zA A510
 clear A510
 replace H := zob H
 obtain ⟨t135, A520, H⟩ := H
 have A52 := zA A520
 clear A520
 by_cases c53 : t135 = true
 rotate_left
 · replace c53 := zbf c53
   subst c53
   have H1 : (none : Option Bool) = some r := by rw [if_neg (show ¬ (false = true) by decide)] at H; exact H
   cases H1
 subst c53
 replace H := zih H
 replace H := zob H
 obtain ⟨⟨t136, t139⟩, A540, H⟩ := H
 have A54 := zA A540
 clear A540
 replace H := zob H
 obtain ⟨t142, A550, H⟩ := H
 have A55 := zA A550
 clear A550
 by_cases c56 : t142 = true
 rotate_left
 · replace c56 := zbf c56
   subst c56
   have H1 : (none : Option Bool) = some r := by rw [if_neg (show ¬ (false = true) by decide)] at H; exact H
   cases H1
 subst c56
 replace H := zih H
 replace H := zob H
 obtain ⟨⟨t143, t144⟩, A570, H⟩ := H
 have A57 := zA A570
 clear A570
 replace H := zob H
 obtain ⟨⟨t145, t146, t147⟩, A580, H⟩ := H
 have A58 := zA A580
 clear A580
 have HC59 := zA H
 clear H
 try go_wp2_with (first | ((with_reducible refine zgc 11 ?_); refine zca 60 Tryz.func11 #[.slice A0 l0.length c0] (zi1 kj19 _ _ l0 t132 _ (zq8 HR0) HC0.out A51.out) ?_; rintro e w60 ⟨v133, rfl, ho0, hb⟩; refine ⟨_, rfl, ?_⟩; replace HO_8 := zA (zRb (zq3 HO_8) hb); replace HO_12 := zA (zRb (zq3 HO_12) hb); replace HO_127000 := zA (zRb (zq3 HO_127000) hb); replace HO_127001 := zA (zRb (zq3 HO_127001) hb); have HO134 := zA (Kd.R_lower (Kd.R_new' ho0 (Kd.R_lt (zq3 HO_10))) (zag (zq7 GE101 GE126))); replace HO_10 := zA (Kd.R_elder' (zq3 HO_10) (Kd.R_base ho0) hb); replace BK101 := zbb BK101 hb; replace BK126 := zbb BK126 hb; replace HB := zA (zaa (zq7 GE101 GE126) hb); (try clear hb); (try clear ho0); obtain ⟨Ao61, co61, eo61⟩ := Kd.R_slice HO134.out; subst eo61) | ((with_reducible refine zgc 15 ?_); refine zca 61 Tryz.func15 #[.slice Ao40 t117.length co40, .slice Ao61 t132.length co61] (zri kj19 _ _ t117 _ _ t132 true _ (zq18 HO_10) (zq50 HO_10) (zq18 HO134) (zq50 HO134) A52.out) ?_; rintro e w62 ⟨rfl, hb⟩; refine ⟨_, rfl, ?_⟩; replace HO_8 := zA (zRb (zq3 HO_8) hb); replace HO_10 := zA (zRb (zq3 HO_10) hb); replace HO_12 := zA (zRb (zq3 HO_12) hb); replace HO_127000 := zA (zRb (zq3 HO_127000) hb); replace HO_127001 := zA (zRb (zq3 HO_127001) hb); replace HO134 := zA (zRb (zq3 HO134) hb); replace BK101 := zbb BK101 hb; replace BK126 := zbb BK126 hb; replace HB := zA (zaa (zq7 GE101 GE126) hb); (try clear hb)))
 replace HO_8 := zA (zRd HO_8.out)
 replace HO_10 := zA (zRd HO_10.out)
 replace HO_12 := zA (zRd HO_12.out)
 replace HO_127000 := zA (zRd HO_127000.out)
 replace HO_127001 := zA (zRd HO_127001.out)
 replace HO134 := zA (zRd HO134.out)
 replace BK101 := zA (zkd BK101.out)
 replace BK126 := zA (zkd BK126.out)
 replace HB := zA (zbd HB.out)
 refine zkw (n := 5) (S := fun w' => w'.cell? ⟨gb126, 0, none⟩ = some (.slice Ao36 t120.length co36) ∧ w'.cell? ⟨gb126, 1, none⟩ = some (.slice Ao39 t123.length co39) ∧ w'.cell? ⟨gb101, 0, none⟩ = some (.slice A1_0 l1_0.length c1_0) ∧ w'.cell? ⟨gb101, 1, none⟩ = some (.slice A1_1 l1_1.length c1_1)) (ds := []) #[false, false, false, false, false] zq24 rfl rfl ⟨(zaf BK126.out 0).trans rfl, (zaf BK126.out 1).trans rfl, (zaf BK101.out 0).trans rfl, (zaf BK101.out 1).trans rfl⟩ (fun hHeld => ?_)
 generalize w62.drew = w63 at HO_8 HO_10 HO_12 HO_127000 HO_127001 HO134 BK101 BK126 HB hHeld ⊢
 refine ztk 0 63 hHeld ?_
 refine ztk 1 64 hHeld ?_
 refine one_ (i := 2) (N := some 65) #[true, true, true, false, false] rfl rfl zq24 (by decide) (fun K hK => ?_)
 refine zoh Tryz.func12 zq24 rfl #[.agg #[.slice A1_0 l1_0.length c1_0, .slice A1_1 l1_1.length c1_1]] (by rfl) rfl rfl zq14 ?_
 with_reducible refine (zie kj19 _ _ l1_0 _ _ l1_1 t136 t139 _ ?side1 ?side2 ?side3 ?side4 A54.out).mono ?_
 (case side1 => repeat (first | exact (zCb HR1_0.out HB.out) | (with_reducible first | refine zCa ?_ _ | refine zCn ?_ _ | refine zCd ?_)))
 (case side2 => exact HC1_0.out)
 (case side3 => repeat (first | exact (zCb HR1_1.out HB.out) | (with_reducible first | refine zCa ?_ _ | refine zCn ?_ _ | refine zCd ?_)))
 (case side4 => exact HC1_1.out)
 rintro e w64 ⟨v137, v140, rfl, ho0, ho1, hb⟩
 refine ⟨_, rfl, ?_⟩
 replace HO_8 := zA (zRb (zq3 HO_8) hb)
 replace HO_10 := zA (zRb (zq3 HO_10) hb)
 replace HO_12 := zA (zRb (zq3 HO_12) hb)
 replace HO134 := zA (zRb (zq3 HO134) hb)
 have HO138 := zA (Kd.R_lower (Kd.R_new' ho0 (Kd.R_lt (zq3 HO_127000))) (zag (zq7 GE101 GE126)))
 replace HO_127000 := zA (Kd.R_elder' (zq3 HO_127000) (Kd.R_base ho0) hb)
 have HO141 := zA (Kd.R_lower (Kd.R_new' ho1 (Kd.R_lt (zq3 HO_127001))) (zag (zq7 GE101 GE126)))
 replace HO_127001 := zA (Kd.R_elder' (zq3 HO_127001) (Kd.R_base ho1) hb)
 replace BK101 := zA (zai (g := gb101) (o := .cells #[.slice A1_0 l1_0.length c1_0, .slice A1_1 l1_1.length c1_1] 26 (0, 0)) (zq6 BK101) hb)
 replace BK126 := zA (zai (g := gb126) (o := .cells #[.slice Ao36 t120.length co36, .slice Ao39 t123.length co39] 34 (0, 0)) (zq6 BK126) hb)
 replace HB := zA (zaa (zq7 GE101 GE126) hb)
 (try clear hb)
 (try clear hb2)
 (try clear hk)
 (try clear hi)
 (try clear ho0)
 (try clear ho1)
 obtain ⟨Ao65, co65, eo65⟩ := Kd.R_slice HO138.out
 (first | subst eo65 | (injection eo65 with f1_ f2_ f3_; have f4_ := f1_.symm; have f5_ := f3_.symm; clear f1_ f2_ f3_; subst f4_; subst f5_))
 obtain ⟨Ao66, co66, eo66⟩ := Kd.R_slice HO141.out
 (first | subst eo66 | (injection eo66 with f1_ f2_ f3_; have f4_ := f1_.symm; have f5_ := f3_.symm; clear f1_ f2_ f3_; subst f4_; subst f5_))
 refine hK.out _ _ ⟨(zaf BK126.out 0).trans rfl, (zaf BK126.out 1).trans rfl, (zaf BK101.out 0).trans rfl, (zaf BK101.out 1).trans rfl⟩ (fun hHeld => ?_)
 clear hK K
 refine znm 65 ?_
 refine one_ (i := 3) (N := some 66) #[true, true, true, true, false] rfl rfl zq24 (by decide) (fun K hK => ?_)
 refine zoh Tryz.func16 zq24 rfl #[.agg #[.slice Ao36 t120.length co36, .slice Ao39 t123.length co39], .agg #[.slice Ao65 t136.length co65, .slice Ao66 t139.length co66]] (by rfl) rfl rfl zq14 ?_
 with_reducible refine (zqg kj19 _ _ t120 _ _ t123 _ _ t136 _ _ t139 true _ ?side1 ?side2 ?side3 ?side4 ?side5 ?side6 ?side7 ?side8 A55.out).mono ?_
 (case side1 => repeat (first | exact (zRr HO_127000.out).2.2 | (with_reducible first | refine zCa ?_ _ | refine zCn ?_ _ | refine zCd ?_)))
 (case side2 => exact (zRr HO_127000.out).2.1)
 (case side3 => repeat (first | exact (zRr HO_127001.out).2.2 | (with_reducible first | refine zCa ?_ _ | refine zCn ?_ _ | refine zCd ?_)))
 (case side4 => exact (zRr HO_127001.out).2.1)
 (case side5 => repeat (first | exact (zRr HO138.out).2.2 | (with_reducible first | refine zCa ?_ _ | refine zCn ?_ _ | refine zCd ?_)))
 (case side6 => exact (zRr HO138.out).2.1)
 (case side7 => repeat (first | exact (zRr HO141.out).2.2 | (with_reducible first | refine zCa ?_ _ | refine zCn ?_ _ | refine zCd ?_)))
 (case side8 => exact (zRr HO141.out).2.1)
 rintro e w67 ⟨rfl, hb⟩
 refine ⟨_, rfl, ?_⟩
 replace HO_8 := zA (zRb (zq3 HO_8) hb)
 replace HO_10 := zA (zRb (zq3 HO_10) hb)
 replace HO_12 := zA (zRb (zq3 HO_12) hb)
 replace HO_127000 := zA (zRb (zq3 HO_127000) hb)
 replace HO_127001 := zA (zRb (zq3 HO_127001) hb)
 replace HO134 := zA (zRb (zq3 HO134) hb)
 replace HO138 := zA (zRb (zq3 HO138) hb)
 replace HO141 := zA (zRb (zq3 HO141) hb)
 replace BK101 := zA (zai (g := gb101) (o := .cells #[.slice A1_0 l1_0.length c1_0, .slice A1_1 l1_1.length c1_1] 26 (0, 0)) (zq6 BK101) hb)
 replace BK126 := zA (zai (g := gb126) (o := .cells #[.slice Ao36 t120.length co36, .slice Ao39 t123.length co39] 34 (0, 0)) (zq6 BK126) hb)
 replace HB := zA (zaa (zq7 GE101 GE126) hb)
 (try clear hb)
 (try clear hb2)
 (try clear hk)
 (try clear hi)
 refine hK.out _ _ ⟨(zaf BK126.out 0).trans rfl, (zaf BK126.out 1).trans rfl, (zaf BK101.out 0).trans rfl, (zaf BK101.out 1).trans rfl⟩ (fun hHeld => ?_)
 clear hK K
 refine znm 66 ?_
 refine zpk 4 67 ?_
 refine zpg zq24 ?_
 go_upto_region 21 with (first | ((with_reducible refine zgc 17 ?_); refine zca 70 Tryz.func17 #[.slice Ao40 t117.length co40, .int .i64 1] (zp3 kj19 (fun k_ => some k_ = (.slice Ao40 t117.length co40 : Value).ownBlock) (.slice Ao40 t117.length co40) t117 1 t143 t144 w _ (zq7 GE101 GE126) (by exact Kd.R_tight rfl HO_10.out) A57.out) ?_; rintro e w68 ⟨rfl, hy0, hb, hkp⟩; refine ⟨_, rfl, ?_⟩; replace HO_8 := zA (Kd.R_mono (ok' := fun k_ => some k_ ≠ (v128 : Value).ownBlock) (Kd.R_keptB ((Kd.R_apart' HO_8.out (Kd.R_typed HO_10.out) (by decide))) hkp (fun k_ hk_ hs_ => (hk_.2) hs_)) (fun k_ hk_ => hk_.1.1)); replace HO_12 := zA (Kd.R_mono (ok' := fun k_ => some k_ ≠ (v114 : Value).ownBlock) (Kd.R_keptB ((Kd.R_apart' HO_12.out (Kd.R_typed HO_10.out) (by decide))) hkp (fun k_ hk_ hs_ => (hk_.2) hs_)) (fun k_ hk_ => hk_.1.1)); replace HO_127000 := zA (Kd.R_mono (ok' := fun k_ => some k_ ≠ (.slice Ao65 t136.length co65 : Value).ownBlock) (Kd.R_keptB ((Kd.R_apart' HO_127000.out (Kd.R_typed HO_10.out) (by decide))) hkp (fun k_ hk_ hs_ => (hk_.2) hs_)) (fun k_ hk_ => hk_.1.1.2)); replace HO_127001 := zA (Kd.R_mono (ok' := fun k_ => some k_ ≠ (.slice Ao66 t139.length co66 : Value).ownBlock) (Kd.R_keptB ((Kd.R_apart' HO_127001.out (Kd.R_typed HO_10.out) (by decide))) hkp (fun k_ hk_ hs_ => (hk_.2) hs_)) (fun k_ hk_ => hk_.1.1.2)); replace BK101 := zA (zmh (zq6 BK101) hkp (fun hs_ => (fun e_ => (Kd.R_ne HO_10.out BK101.out (by decide)) e_) hs_)); replace BK126 := zA (zmh (zq6 BK126) hkp (fun hs_ => (fun e_ => (Kd.R_ne HO_10.out BK126.out (by decide)) e_) hs_)); replace HO134 := zA (Kd.R_mono (ok' := fun k_ => some k_ ≠ (.slice Ao40 t117.length co40 : Value).ownBlock) (Kd.R_keptB (HO134.out) hkp (fun k_ hk_ hs_ => (hk_.2) hs_)) (fun k_ hk_ => hk_.1.2)); replace HO138 := zA (Kd.R_mono (ok' := fun k_ => some k_ ≠ (.slice Ao36 t120.length co36 : Value).ownBlock) (Kd.R_keptB ((Kd.R_apart' HO138.out (Kd.R_typed HO_10.out) (by decide))) hkp (fun k_ hk_ hs_ => (hk_.2) hs_)) (fun k_ hk_ => hk_.1.1.2)); replace HO141 := zA (Kd.R_mono (ok' := fun k_ => some k_ ≠ (.slice Ao39 t123.length co39 : Value).ownBlock) (Kd.R_keptB ((Kd.R_apart' HO141.out (Kd.R_typed HO_10.out) (by decide))) hkp (fun k_ hk_ hs_ => (hk_.2) hs_)) (fun k_ hk_ => hk_.1.1.2)); replace HO_10 := zA (Kd.R_reok rfl hy0 (fun k_ e_ => HO_10.out.1 k_ e_)); replace HB := zA (hb); (try clear hb); (try clear hkp); (try clear hy0); have hnb69 := NB126_101.out; have hnc69 := NB101_126.out; obtain ⟨hcz70_0, hcz70_1⟩ := zc2 w68 (.slice Ao36 t120.length co36) (.slice Ao39 t123.length co39) BK126.out; obtain ⟨hfz70_0, hfz70_1⟩ := zf2 BK126.out) | ((with_reducible refine zgc 18 ?_); refine zca 73 Tryz.func18 #[.agg #[.slice Ao36 t120.length co36, .slice Ao39 t123.length co39], .int .i64 t143] (zpm kj19 (fun k_ => some k_ = (.slice Ao36 t120.length co36 : Value).ownBlock) (.slice Ao36 t120.length co36) t120 (fun k_ => some k_ = (.slice Ao39 t123.length co39 : Value).ownBlock) (.slice Ao39 t123.length co39) t123 t143 t145 t146 t147 w _ (zq7 GE101 GE126) (by exact Kd.R_tight rfl HO_127000.out) (by exact Kd.R_tight rfl HO_127001.out) A58.out) ?_; rintro e w71 ⟨rfl, hy0, hy1, hb, hkp⟩; refine ⟨_, rfl, ?_⟩; replace HO_8 := zA (Kd.R_mono (ok' := fun k_ => some k_ ≠ (v128 : Value).ownBlock) (Kd.R_keptB ((Kd.R_apart' (Kd.R_apart' HO_8.out (Kd.R_typed HO_127000.out) (by decide)) (Kd.R_typed HO_127001.out) (by decide))) hkp (fun k_ hk_ hs_ => Or.elim hs_ (fun e_ => (hk_.1.2) e_) (fun e_ => (hk_.2) e_))) (fun k_ hk_ => hk_.1.1.1)); replace HO_10 := zA (Kd.R_mono (ok' := fun k_ => some k_ ≠ (.slice Ao61 t132.length co61 : Value).ownBlock) (Kd.R_keptB ((Kd.R_apart' (Kd.R_apart' HO_10.out (Kd.R_typed HO_127000.out) (by decide)) (Kd.R_typed HO_127001.out) (by decide))) hkp (fun k_ hk_ hs_ => Or.elim hs_ (fun e_ => (hk_.1.2) e_) (fun e_ => (hk_.2) e_))) (fun k_ hk_ => hk_.1.1.1.2)); replace HO_12 := zA (Kd.R_mono (ok' := fun k_ => some k_ ≠ (v114 : Value).ownBlock) (Kd.R_keptB ((Kd.R_apart' (Kd.R_apart' HO_12.out (Kd.R_typed HO_127000.out) (by decide)) (Kd.R_typed HO_127001.out) (by decide))) hkp (fun k_ hk_ hs_ => Or.elim hs_ (fun e_ => (hk_.1.2) e_) (fun e_ => (hk_.2) e_))) (fun k_ hk_ => hk_.1.1.1)); replace BK101 := zA (zmh (zq6 BK101) hkp (fun hs_ => Or.elim hs_ (fun e_ => (fun e_ => (Kd.R_ne HO_127000.out BK101.out (by decide)) e_) e_) (fun e_ => (fun e_ => (Kd.R_ne HO_127001.out BK101.out (by decide)) e_) e_))); replace BK126 := zA (zmh (zq6 BK126) hkp (fun hs_ => Or.elim hs_ (fun e_ => (fun e_ => (Kd.R_ne HO_127000.out BK126.out (by decide)) e_) e_) (fun e_ => (fun e_ => (Kd.R_ne HO_127001.out BK126.out (by decide)) e_) e_))); replace HO134 := zA (Kd.R_mono (ok' := fun k_ => some k_ ≠ (.slice Ao40 t117.length co40 : Value).ownBlock) (Kd.R_keptB ((Kd.R_apart' (Kd.R_apart' HO134.out (Kd.R_typed HO_127000.out) (by decide)) (Kd.R_typed HO_127001.out) (by decide))) hkp (fun k_ hk_ hs_ => Or.elim hs_ (fun e_ => (hk_.1.2) e_) (fun e_ => (hk_.2) e_))) (fun k_ hk_ => hk_.1.1.1)); replace HO138 := zA (Kd.R_mono (ok' := fun k_ => some k_ ≠ (.slice Ao36 t120.length co36 : Value).ownBlock) (Kd.R_keptB ((Kd.R_apart' HO138.out (Kd.R_typed HO_127001.out) (by decide))) hkp (fun k_ hk_ hs_ => Or.elim hs_ (fun e_ => (hk_.1) e_) (fun e_ => (hk_.2) e_))) (fun k_ hk_ => hk_.1.1)); replace HO_127001 := zA (Kd.R_reok rfl hy1 (fun k_ e_ => HO_127001.out.1 k_ e_)); replace HO141 := zA (Kd.R_mono (ok' := fun k_ => some k_ ≠ (.slice Ao39 t123.length co39 : Value).ownBlock) (Kd.R_keptB ((Kd.R_apart' HO141.out (Kd.R_typed HO_127000.out) (by decide))) hkp (fun k_ hk_ hs_ => Or.elim hs_ (fun e_ => (hk_.2) e_) (fun e_ => (hk_.1) e_))) (fun k_ hk_ => hk_.1.1)); replace HO_127000 := zA (Kd.R_reok rfl hy0 (fun k_ e_ => HO_127000.out.1 k_ e_)); replace HB := zA (hb); (try clear hb); (try clear hkp); (try clear hy0); (try clear hy1)))
 (try simp only [Act.put, List.setIfInBounds_toArray, List.set_cons_zero, List.set_cons_succ])
 go_cut [86] (fun v86 wc => ∃ (kq : Nat) (x86_58 : Bool), v86 = .bool x86_58 ∧ Aside0 (zbo kq l0 a2 t113 t116 t127 x86_58 l1_0 l1_1 = some r) ∧ Aside0 (kq ≤ kj19) ∧ Aside0 (Kd.R k69 69 wc w.heap.size (fun k_ => some k_ ≠ (v128 : Value).ownBlock) v114 t113) ∧ Aside0 (Kd.R k69 69 wc w.heap.size (fun k_ => some k_ ≠ (v114 : Value).ownBlock) v128 t127) ∧ Aside0 (Kd.R Kd.string 9 wc w.heap.size (fun _ => True) (.slice Ao36 t120.length co36) t146) ∧ Aside0 (Kd.R (Kd.int .i64) 3 wc w.heap.size (fun _ => True) (.slice Ao39 t123.length co39) t147) ∧ Aside0 (wc.heap[gb101]? = some (.cells #[(.slice A1_0 l1_0.length c1_0), (.slice A1_1 l1_1.length c1_1)] 26 (0, 0))) ∧ Aside0 (wc.heap[gb126]? = some (.cells #[(.slice Ao36 t120.length co36), (.slice Ao39 t123.length co39)] 34 (0, 0))) ∧ Aside0 (Below w.heap.size w wc))
 case first =>
   have H := HC59.out
   clear HC59
   by_cases c72 : t145 < 0
   · rw [if_pos c72] at H
     cases H
   rw [if_neg c72] at H
   have c72b0 := zdf c72
   clear c72
   (first | rw [c72b0] | (simp only [zhr, zjw]; rw [c72b0]) | skip)
   replace H := zob H
   obtain ⟨t148, A730, H⟩ := H
   have A73 := zA A730
   clear A730
   by_cases c74 : t148 = true
   rotate_left
   · replace c74 := zbf c74
     subst c74
     have H1 : (none : Option Bool) = some r := by rw [if_neg (show ¬ (false = true) by decide)] at H; exact H
     cases H1
   subst c74
   replace H := zih H
   have H' := zA H
   clear H
   obtain ⟨Ao75, co75, eo75⟩ := Kd.R_slice HO_12.out
   subst eo75
   obtain ⟨Ao76, co76, eo76⟩ := Kd.R_slice HO_8.out
   subst eo76
   go_wp2_with (first | (go_at_call 14; (with_reducible refine (zju kj19 _ _ t127 _ _ t113 true _ ?side1 ?side2 ?side3 ?side4 A73.out).mono ?_); (case side1 => repeat (first | exact (zRr HO_12.out).2.2 | (with_reducible first | refine zCa ?_ _ | refine zCn ?_ _ | refine zCd ?_))); (case side2 => exact (zRr HO_12.out).2.1); (case side3 => repeat (first | exact (zRr HO_8.out).2.2 | (with_reducible first | refine zCa ?_ _ | refine zCn ?_ _ | refine zCd ?_))); (case side4 => exact (zRr HO_8.out).2.1); rintro e w77 ⟨rfl, hb⟩; replace HO_8 := zA (zRb (zq3 HO_8) hb); replace HO_10 := zA (zRb (zq3 HO_10) hb); replace HO_12 := zA (zRb (zq3 HO_12) hb); replace HO_127000 := zA (zRb (zq3 HO_127000) hb); replace HO_127001 := zA (zRb (zq3 HO_127001) hb); replace HO134 := zA (zRb (zq3 HO134) hb); replace HO138 := zA (zRb (zq3 HO138) hb); replace HO141 := zA (zRb (zq3 HO141) hb); replace BK101 := zbb BK101 hb; replace BK126 := zbb BK126 hb; replace HB := zA (zaa (zq7 GE101 GE126) hb); (try clear hb)))
   go_meet
   case rel => exact ⟨_, ((t130 != t116)), zq5, H', ⟨zq37 HJ19⟩, ⟨zq3 HO_8⟩, ⟨zq3 HO_12⟩, ⟨zq28 HO_127000⟩, ⟨zq28 HO_127001⟩, ⟨zq6 BK101⟩, ⟨zq6 BK126⟩, ⟨zq7 GE101 GE126⟩⟩
 clear HC59
 try clear c5b0
 try clear c9b0
 try clear c43
 try clear c50
 try clear c53
 try clear c56
 try clear c72
 try clear c72b0
 try clear c74
 try clear hcz12_0
 try clear hcz12_1
 try clear hcz23_0
 try clear hcz23_1
 try clear hcz33_0
 try clear hcz33_1
 try clear hcz38_0
 try clear hcz38_1
 try clear hcz70_0
 try clear hcz70_1
 try clear hfz12_0
 try clear hfz12_1
 try clear hfz23_0
 try clear hfz23_1
 try clear hfz33_0
 try clear hfz33_1
 try clear hfz38_0
 try clear hfz38_1
 try clear hfz70_0
 try clear hfz70_1
 obtain ⟨kq, x86_58, rfl, HA, HJ58, HO_8, HO_12, HO_127000, HO_127001, BK101, BK126, HB⟩ := hcut
 have hl127000_58 := (zRr HO_127000.out).1
 rw [hl127000_58] at HO_127000
 (try simp only [hl127000_58])
 (try simp only [hl127000_58] at BK101)
 (try simp only [hl127000_58] at BK126)
 (try simp only [hl127000_58] at HO_8)
 (try simp only [hl127000_58] at HO_12)
 (try simp only [hl127000_58] at HO_127001)
 have hl127001_58 := (zRr HO_127001.out).1
 rw [hl127001_58] at HO_127001
 (try simp only [hl127001_58])
 (try simp only [hl127001_58] at BK101)
 (try simp only [hl127001_58] at BK126)
 (try simp only [hl127001_58] at HO_8)
 (try simp only [hl127001_58] at HO_12)
 (try simp only [hl127001_58] at HO_127000)
 cases kq with
 | zero => exact absurd HA.out (by simp [zbo])
 | succ kj58 =>
 have H := HA.out
 clear HA
 simp only [zbo] at H
 by_cases c81 : x86_58 = true
 · subst c81
   have H1 : (none : Option Bool) = some r := by rw [if_pos rfl] at H; exact H
   cases H1
 replace c81 := zbf c81
 subst c81
 replace H := zif H
 replace H := zob H
 obtain ⟨⟨t149, t150⟩, A820, H⟩ := H
 have A82 := zA A820
 clear A820
 replace H := zob H
 obtain ⟨t151, A830, H⟩ := H
 have A83 := zA A830
 clear A830
 by_cases c84 : t151 < 0
 · rw [if_pos c84] at H
   cases H
 rw [if_neg c84] at H
 have c84b0 := zdf c84
 clear c84
 by_cases c88 : t151 = t149
 rotate_left
 · rw [if_neg c88] at H
   cases H
 rw [if_pos c88] at H
 obtain ⟨c88b0, c88b1⟩ := zbe c88
 clear c88
 replace H := zob H
 obtain ⟨t152, A890, H⟩ := H
 have A89 := zA A890
 clear A890
 replace H := zob H
 obtain ⟨⟨t155, t158⟩, A900, H⟩ := H
 have A90 := zA A900
 clear A900
 replace H := zob H
 obtain ⟨⟨t161, t164⟩, A910, H⟩ := H
 have A91 := zA A910
 clear A910
 have HC92 := zA H
 clear H
 obtain ⟨Ao93, co93, eo93⟩ := Kd.R_slice HO_12.out
 subst eo93
 try go_wp2_with (first | ((with_reducible refine zgc 19 ?_); refine zca 89 Tryz.func19 #[.slice Ao93 t127.length co93, .int .i64 1] (zpn kj58 (fun k_ => some k_ = (.slice Ao93 t127.length co93 : Value).ownBlock) (.slice Ao93 t127.length co93) t127 1 t149 t150 w _ (zq7 GE101 GE126) (by exact Kd.R_tight rfl HO_12.out) A82.out) ?_; rintro e w94 ⟨rfl, hy0, hb, hkp⟩; refine ⟨_, rfl, ?_⟩; replace HO_8 := zA (Kd.R_mono (ok' := fun k_ => some k_ ≠ (.slice Ao93 t127.length co93 : Value).ownBlock) (Kd.R_keptB (HO_8.out) hkp (fun k_ hk_ hs_ => (hk_) hs_)) (fun k_ hk_ => hk_.1)); replace HO_127000 := zA (Kd.R_mono (ok' := fun k_ => True) (Kd.R_keptB ((Kd.R_apart' HO_127000.out (Kd.R_typed HO_12.out) (by decide))) hkp (fun k_ hk_ hs_ => (hk_.2) hs_)) (fun k_ hk_ => trivial)); replace HO_127001 := zA (Kd.R_mono (ok' := fun k_ => True) (Kd.R_keptB ((Kd.R_apart' HO_127001.out (Kd.R_typed HO_12.out) (by decide))) hkp (fun k_ hk_ hs_ => (hk_.2) hs_)) (fun k_ hk_ => trivial)); replace BK101 := zA (zmh (zq6 BK101) hkp (fun hs_ => (fun e_ => (Kd.R_ne HO_12.out BK101.out (by decide)) e_) hs_)); replace BK126 := zA (zmh (zq6 BK126) hkp (fun hs_ => (fun e_ => (Kd.R_ne HO_12.out BK126.out (by decide)) e_) hs_)); replace HO_12 := zA (Kd.R_reok rfl hy0 (fun k_ e_ => HO_12.out.1 k_ e_)); replace HB := zA (hb); (try clear hb); (try clear hkp); (try clear hy0)) | ((with_reducible refine zjx (f := 20) rfl ?_); refine zru (some 92) rfl rfl Tryz.func20 zq24 rfl #[.slice Ao93 t150.length co93, .int .i64 1] rfl (by (try simp only [List.map_toArray, List.map_cons, List.map_nil]); first | done | (rw [show t150.length = t127.length from (zRr HO_12.out).1.symm] <;> rfl) | rfl | (simp only [List.length_drop, List.length_take]; rfl)) ?_; (with_reducible refine (zlf kj58 _ _ t150 1 t151 _ ?side1 ?side2 A83.out).mono ?_); (case side1 => repeat (first | exact (zRr HO_12.out).2.2 | (with_reducible first | refine zCa ?_ _ | refine zCn ?_ _ | refine zCd ?_))); (case side2 => rw [show t150.length = t127.length from (zRr HO_12.out).1.symm]; exact (zRr HO_12.out).2.1); rintro e w95 ⟨rfl, hb⟩; refine ⟨_, rfl, ?_⟩; replace HO_8 := zA (zRb (zq3 HO_8) hb); replace HO_12 := zA (zRb (zq3 HO_12) hb); replace HO_127000 := zA (zRb (zq3 HO_127000) hb); replace HO_127001 := zA (zRb (zq3 HO_127001) hb); replace BK101 := zbb BK101 hb; replace BK126 := zbb BK126 hb; replace HB := zA (zaa (zq7 GE101 GE126) hb); (try clear hb)))
 replace HO_8 := zA (zRd HO_8.out)
 replace HO_12 := zA (zRd HO_12.out)
 replace HO_127000 := zA (zRd HO_127000.out)
 replace HO_127001 := zA (zRd HO_127001.out)
 replace BK101 := zA (zkd BK101.out)
 replace BK126 := zA (zkd BK126.out)
 replace HB := zA (zbd HB.out)
 refine zkw (n := 11) (S := fun w' => w'.cell? ⟨gb101, 0, none⟩ = some (.slice A1_0 l1_0.length c1_0) ∧ w'.cell? ⟨gb101, 1, none⟩ = some (.slice A1_1 l1_1.length c1_1)) (ds := []) #[false, false, false, false, false, false, false, false, false, false, false] zq24 rfl rfl ⟨(zaf BK101.out 0).trans rfl, (zaf BK101.out 1).trans rfl⟩ (fun hHeld => ?_); refine zgh znd zmg (fun HT_ HW_ => ?_)
 generalize w95.drew = w96 at HO_8 HO_12 HO_127000 HO_127001 BK101 BK126 HB hHeld ⊢
 refine zpu 0 99 HT_ ?_
 refine zpu 4 103 HT_ ?_
 refine ztu 2 101 HT_ HW_ hHeld ?_
 refine one_ (i := 1) (N := some 100) #[true, true, true, false, true, false, false, false, false, false, false] rfl rfl (zfu HT_.out zq24) (by decide) (fun K hK => ?_)
 refine zoh Tryz.func11 zq24 rfl #[.slice A0 l0.length c0] (by rfl) rfl rfl zq14 ?_
 with_reducible refine (zi1 kj58 _ _ l0 t152 _ ?side1 ?side2 A89.out).mono ?_
 (case side1 => repeat (first | exact (zCb HR0.out HB.out) | (with_reducible first | refine zCa ?_ _ | refine zCn ?_ _ | refine zCd ?_)))
 (case side2 => exact HC0.out)
 rintro e w97 ⟨v153, rfl, ho0, hb⟩
 refine ⟨_, rfl, ?_⟩
 replace HO_8 := zA (zRb (zq3 HO_8) hb)
 replace HO_12 := zA (zRb (zq3 HO_12) hb)
 replace HO_127000 := zA (zRb (zq3 HO_127000) hb)
 replace HO_127001 := zA (zRb (zq3 HO_127001) hb)
 have HO154 := zA (Kd.R_lower ho0 (zag (zq7 GE101 GE126)))
 replace BK101 := zA (zai (g := gb101) (o := .cells #[.slice A1_0 l1_0.length c1_0, .slice A1_1 l1_1.length c1_1] 26 (0, 0)) (zq6 BK101) hb)
 replace BK126 := zA (zai (g := gb126) (o := .cells #[.slice Ao36 t146.length co36, .slice Ao39 t147.length co39] 34 (0, 0)) (zq6 BK126) hb)
 replace HB := zA (zaa (zq7 GE101 GE126) hb)
 (try clear hb)
 (try clear hb2)
 (try clear hk)
 (try clear hi)
 (try clear ho0)
 refine hK.out _ _ ⟨(zaf BK101.out 0).trans rfl, (zaf BK101.out 1).trans rfl⟩ (fun hHeld => ?_)
 clear hK K
 refine znm 100 ?_
 refine one_ (i := 3) (N := some 102) #[true, true, true, true, true, false, false, false, false, false, false] rfl rfl (zfu HT_.out zq24) (by decide) (fun K hK => ?_)
 refine zoh Tryz.func12 zq24 rfl #[.agg #[.slice A1_0 l1_0.length c1_0, .slice A1_1 l1_1.length c1_1]] (by rfl) rfl rfl zq14 ?_
 with_reducible refine (zie kj58 _ _ l1_0 _ _ l1_1 t155 t158 _ ?side1 ?side2 ?side3 ?side4 A90.out).mono ?_
 (case side1 => repeat (first | exact (zCb HR1_0.out HB.out) | (with_reducible first | refine zCa ?_ _ | refine zCn ?_ _ | refine zCd ?_)))
 (case side2 => exact HC1_0.out)
 (case side3 => repeat (first | exact (zCb HR1_1.out HB.out) | (with_reducible first | refine zCa ?_ _ | refine zCn ?_ _ | refine zCd ?_)))
 (case side4 => exact HC1_1.out)
 rintro e w98 ⟨v156, v159, rfl, ho0, ho1, hb⟩
 refine ⟨_, rfl, ?_⟩
 replace HO_8 := zA (zRb (zq3 HO_8) hb)
 replace HO_12 := zA (zRb (zq3 HO_12) hb)
 replace HO154 := zA (zRb (zq3 HO154) hb)
 have HO157 := zA (Kd.R_lower (Kd.R_new' ho0 (Kd.R_lt (zq3 HO_127000))) (zag (zq7 GE101 GE126)))
 replace HO_127000 := zA (Kd.R_elder' (zq3 HO_127000) (Kd.R_base ho0) hb)
 have HO160 := zA (Kd.R_lower (Kd.R_new' ho1 (Kd.R_lt (zq3 HO_127001))) (zag (zq7 GE101 GE126)))
 replace HO_127001 := zA (Kd.R_elder' (zq3 HO_127001) (Kd.R_base ho1) hb)
 replace BK101 := zA (zai (g := gb101) (o := .cells #[.slice A1_0 l1_0.length c1_0, .slice A1_1 l1_1.length c1_1] 26 (0, 0)) (zq6 BK101) hb)
 replace BK126 := zA (zai (g := gb126) (o := .cells #[.slice Ao36 t146.length co36, .slice Ao39 t147.length co39] 34 (0, 0)) (zq6 BK126) hb)
 replace HB := zA (zaa (zq7 GE101 GE126) hb)
 (try clear hb)
 (try clear hb2)
 (try clear hk)
 (try clear hi)
 (try clear ho0)
 (try clear ho1)
 obtain ⟨Ao99, co99, eo99⟩ := Kd.R_slice HO154.out
 (first | subst eo99 | (injection eo99 with f1_ f2_ f3_; have f4_ := f1_.symm; have f5_ := f3_.symm; clear f1_ f2_ f3_; subst f4_; subst f5_))
 obtain ⟨Ao100, co100, eo100⟩ := Kd.R_slice HO157.out
 (first | subst eo100 | (injection eo100 with f1_ f2_ f3_; have f4_ := f1_.symm; have f5_ := f3_.symm; clear f1_ f2_ f3_; subst f4_; subst f5_))
 obtain ⟨Ao101, co101, eo101⟩ := Kd.R_slice HO160.out
 (first | subst eo101 | (injection eo101 with f1_ f2_ f3_; have f4_ := f1_.symm; have f5_ := f3_.symm; clear f1_ f2_ f3_; subst f4_; subst f5_))
 refine hK.out _ _ ⟨(zaf BK101.out 0).trans rfl, (zaf BK101.out 1).trans rfl⟩ (fun hHeld => ?_)
 clear hK K
 refine znm 102 ?_
 refine one_ (i := 5) (N := some 104) #[true, true, true, true, true, true, false, false, false, false, false] rfl rfl (zfu HT_.out zq24) (by decide) (fun K hK => ?_)
 refine zoh Tryz.func24 zq24 rfl #[.slice Ao99 t152.length co99, .agg #[.slice Ao100 t155.length co100, .slice Ao101 t158.length co101], .int .i64 a2] (by rfl) rfl rfl zq14 ?_
 with_reducible refine (zl3 kj58 _ _ t152 _ _ t155 _ _ t158 a2 t161 t164 _ ?side1 ?side2 ?side3 ?side4 ?side5 ?side6 A91.out).mono ?_
 (case side1 => repeat (first | exact (zRr HO154.out).2.2 | (with_reducible first | refine zCa ?_ _ | refine zCn ?_ _ | refine zCd ?_)))
 (case side2 => exact (zRr HO154.out).2.1)
 (case side3 => repeat (first | exact (zRr HO157.out).2.2 | (with_reducible first | refine zCa ?_ _ | refine zCn ?_ _ | refine zCd ?_)))
 (case side4 => exact (zRr HO157.out).2.1)
 (case side5 => repeat (first | exact (zRr HO160.out).2.2 | (with_reducible first | refine zCa ?_ _ | refine zCn ?_ _ | refine zCd ?_)))
 (case side6 => exact (zRr HO160.out).2.1)
 rintro e w102 ⟨v162, rfl, ho0, hb⟩
 refine ⟨_, rfl, ?_⟩
 replace HO_127000 := zA (zRb (zq3 HO_127000) hb)
 replace HO_127001 := zA (zRb (zq3 HO_127001) hb)
 replace HO154 := zA (zRb (zq3 HO154) hb)
 replace HO157 := zA (zRb (zq3 HO157) hb)
 replace HO160 := zA (zRb (zq3 HO160) hb)
 have HO163 := zA (Kd.R_lower (Kd.R_new' (Kd.R_new' ho0 (Kd.R_lt (zq3 HO_8))) (Kd.R_lt (zq3 HO_12))) (zag (zq7 GE101 GE126)))
 replace HO_8 := zA (Kd.R_elder' (zq3 HO_8) (Kd.R_base ho0) hb)
 replace HO_12 := zA (Kd.R_elder' (zq3 HO_12) (Kd.R_base ho0) hb)
 replace BK101 := zA (zai (g := gb101) (o := .cells #[.slice A1_0 l1_0.length c1_0, .slice A1_1 l1_1.length c1_1] 26 (0, 0)) (zq6 BK101) hb)
 replace BK126 := zA (zai (g := gb126) (o := .cells #[.slice Ao36 t146.length co36, .slice Ao39 t147.length co39] 34 (0, 0)) (zq6 BK126) hb)
 replace HB := zA (zaa (zq7 GE101 GE126) hb)
 (try clear hb)
 (try clear hb2)
 (try clear hk)
 (try clear hi)
 (try clear ho0)
 refine hK.out _ _ ⟨(zaf BK101.out 0).trans rfl, (zaf BK101.out 1).trans rfl⟩ (fun hHeld => ?_)
 clear hK K
 refine znm 104 ?_
 refine zpu 6 98 HT_ ?_
 refine zpu 7 105 HT_ ?_
 refine zpu 8 106 HT_ ?_
 refine zpu 9 17 HT_ ?_
 refine zpu 10 18 HT_ ?_
 refine zpg (zi9 HT_.out zq24) ?_
 go_upto_region 32 with (fail)
 go_cut [115] (fun v115 wc => ∃ (kq : Nat) (x115_91 : Bool), v115 = .bool x115_91 ∧ Aside0 (zbp kq t150 t149 x115_91 = some r) ∧ Aside0 (kq ≤ kj58) ∧ Aside0 (Kd.R k69 69 wc w.heap.size (fun _ => True) (.slice Ao93 t127.length co93) t150) ∧ Aside0 (Kd.R Kd.string 9 wc w.heap.size (fun _ => True) (.slice Ao36 t146.length co36) t146) ∧ Aside0 (Kd.R (Kd.int .i64) 3 wc w.heap.size (fun _ => True) (.slice Ao39 t147.length co39) t147) ∧ Aside0 (wc.heap[gb101]? = some (.cells #[(.slice A1_0 l1_0.length c1_0), (.slice A1_1 l1_1.length c1_1)] 26 (0, 0))) ∧ Aside0 (wc.heap[gb126]? = some (.cells #[(.slice Ao36 t146.length co36), (.slice Ao39 t147.length co39)] 34 (0, 0))) ∧ Aside0 (Below w.heap.size w wc))
 case first =>
   have H := HC92.out
   clear HC92
   replace H := zob H
   obtain ⟨t165, A1030, H⟩ := H
   have A103 := zA A1030
   clear A1030
   by_cases c104 : t165 = true
   rotate_left
   · replace c104 := zbf c104
     subst c104
     have H1 : (none : Option Bool) = some r := by rw [if_neg (show ¬ (false = true) by decide)] at H; exact H
     cases H1
   subst c104
   replace H := zih H
   have H' := zA H
   clear H
   obtain ⟨Ao105, co105, eo105⟩ := Kd.R_slice HO163.out
   subst eo105
   obtain ⟨Ao106, co106, eo106⟩ := Kd.R_slice HO_8.out
   subst eo106
   go_wp2_with (first | ((with_reducible refine zgc 14 ?_); refine zca 109 Tryz.func14 #[.slice Ao105 t161.length co105, .slice Ao106 t113.length co106] (zju kj58 _ _ t161 _ _ t113 true _ (zq18 HO163) (zq50 HO163) (zq18 HO_8) (zq50 HO_8) A103.out) ?_; rintro e w107 ⟨rfl, hb⟩; refine ⟨_, rfl, ?_⟩; replace HO_8 := zA (zRb (zq3 HO_8) hb); replace HO_12 := zA (zRb (zq3 HO_12) hb); replace HO_127000 := zA (zRb (zq3 HO_127000) hb); replace HO_127001 := zA (zRb (zq3 HO_127001) hb); replace HO154 := zA (zRb (zq3 HO154) hb); replace HO157 := zA (zRb (zq3 HO157) hb); replace HO160 := zA (zRb (zq3 HO160) hb); replace HO163 := zA (zRb (zq3 HO163) hb); replace BK101 := zbb BK101 hb; replace BK126 := zbb BK126 hb; replace HB := zA (zaa (zq7 GE101 GE126) hb); (try clear hb)))
   go_meet
   case rel => exact ⟨_, ((t164 != t116)), zq5, H', ⟨by have := HJ19.out; have := HJ58.out; first | omega | exact zlr _⟩, ⟨zq52 HO_12⟩, ⟨zq52 HO_127000⟩, ⟨zq52 HO_127001⟩, ⟨by (try simp only [hl127000_58]); (try simp only [hl127001_58]); (with_reducible repeat (first | refine zkn ?_ _ | refine zkd ?_ | refine zka ?_ _)); exact BK101.out⟩, ⟨by (try simp only [hl127000_58]); (try simp only [hl127001_58]); (with_reducible repeat (first | refine zkn ?_ _ | refine zkd ?_ | refine zka ?_ _)); exact BK126.out⟩, ⟨zq7 GE101 GE126⟩⟩
 clear HC92
 try clear c5b0
 try clear c9b0
 try clear c43
 try clear c50
 try clear c53
 try clear c56
 try clear c72
 try clear c72b0
 try clear c74
 try clear c81
 try clear c84
 try clear c84b0
 try clear c88
 try clear c88b0
 try clear c88b1
 try clear c104
 try clear hcz12_0
 try clear hcz12_1
 try clear hcz23_0
 try clear hcz23_1
 try clear hcz33_0
 try clear hcz33_1
 try clear hcz38_0
 try clear hcz38_1
 try clear hcz70_0
 try clear hcz70_1
 try clear hfz12_0
 try clear hfz12_1
 try clear hfz23_0
 try clear hfz23_1
 try clear hfz33_0
 try clear hfz33_1
 try clear hfz38_0
 try clear hfz38_1
 try clear hfz70_0
 try clear hfz70_1
 obtain ⟨kq, x115_91, rfl, HA, HJ91, HO_12, HO_127000, HO_127001, BK101, BK126, HB⟩ := hcut
 have hl12_91 := (zRr HO_12.out).1
 rw [hl12_91] at HO_12
 (try simp only [hl12_91])
 (try simp only [hl12_91] at BK101)
 (try simp only [hl12_91] at BK126)
 (try simp only [hl12_91] at HO_127000)
 (try simp only [hl12_91] at HO_127001)
 cases kq with
 | zero => exact absurd HA.out (by simp [zbp])
 | succ kj91 =>
 have H := HA.out
 clear HA
 simp only [zbp] at H
 by_cases c111 : x115_91 = true
 · subst c111
   have H1 : (none : Option Bool) = some r := by rw [if_pos rfl] at H; exact H
   cases H1
 replace c111 := zbf c111
 subst c111
 replace H := zif H
 replace H := zob H
 obtain ⟨t166, A1120, H⟩ := H
 have A112 := zA A1120
 clear A1120
 by_cases c113 : t166 < 0
 · rw [if_pos c113] at H
   cases H
 rw [if_neg c113] at H
 have c113b0 := zdf c113
 clear c113
 by_cases c115 : t166 = t149
 rotate_left
 · rw [if_neg c115] at H
   cases H
 rw [if_pos c115] at H
 obtain ⟨c115b0, c115b1⟩ := zbe c115
 clear c115
 obtain rfl := zsi H
 go_wp2_with (first | ((with_reducible refine zgc 20 ?_); refine zca 118 Tryz.func20 #[.slice Ao93 t150.length co93, .int .i64 1] (zlf kj91 _ _ t150 1 t166 _ (zq18 HO_12) (zq50 HO_12) A112.out) ?_; rintro e w116 ⟨rfl, hb⟩; refine ⟨_, rfl, ?_⟩; replace HO_12 := zA (zRb (zq3 HO_12) hb); replace HO_127000 := zA (zRb (zq3 HO_127000) hb); replace HO_127001 := zA (zRb (zq3 HO_127001) hb); replace BK101 := zbb BK101 hb; replace BK126 := zbb BK126 hb; replace HB := zA (zaa (zq7 GE101 GE126) hb); (try clear hb)))
 go_ret
 exact ⟨zq4, zq7 GE101 GE126⟩
end Go.Proofs.YtnaafcleafbejaaGreat.Q
end
section
namespace Go.Proofs.YtnaafcleafbejaaGreat.Rd
open Go Go.RowKit Go.Proofs.YtnaafcleafbejaaGreatW.PrintWords Go.Proofs.YtnaafcleafbejaaGreatW.PrintLast Go.ChangeShapes Go.WideShapes Go.Deep
set_option linter.unusedSimpArgs false
set_option linter.unusedVariables false
structure RdK {α : Type} (d : Kd α) (P : Program) (t : TypeId) (Good : α → Prop) : Prop where
  size : P.cellsOf t = d.sz
  get : ∀ {H : Type} {enc : TypeId × Value → H} {w : World} {n : Nat} {cs : List Value} {x : DataW H × List MemPlace}, DataW.trod enc P w 0 (fun _ => true) true n t cs = some x → ∃ a, d.K w a cs ∧ Good a
def okInt (k : IntKind) (n : Int) : Prop := (Lit.int k n).wf = true
def okStr (s : ByteArray) : Prop := s.size ≤ maxLen
def okSl {α : Type} (G : α → Prop) (xs : List α) : Prop := xs.length ≤ maxLen ∧ ∀ x ∈ xs, G x
theorem rk_int {P : Program} {t : TypeId} {k : IntKind} (ht : P.underlying t = some (.int k)) (hs : P.cellsOf t = 1) : RdK (Kd.int k) P t (okInt k) :=
  ⟨hs, fun h => by obtain ⟨n, rfl, _, hw⟩ := DataW.trod_int ht h; exact ⟨n, rfl, hw⟩⟩
theorem rk_string {P : Program} {t : TypeId} (ht : P.underlying t = some .string) (hs : P.cellsOf t = 1) : RdK Kd.string P t okStr :=
  ⟨hs, fun h => by obtain ⟨n, rfl, _, hw⟩ := DataW.trod_string ht h; exact ⟨n, rfl, hw⟩⟩
theorem rk_slice {α : Type} {d : Kd α} {P : Program} {t e : TypeId} {G : α → Prop} (hd : RdK d P e G) (ht : P.underlying t = some (.slice e)) (hs : P.cellsOf t = 1) : RdK (Kd.slice e d) P t (okSl G) := by
  refine ⟨hs, fun {H enc w n cs x} h => ?_⟩
  rcases open_slice ht h with ⟨rfl, _⟩ | ⟨a, len, cap, m, n', D, Pl, rfl, _, hl, hm, hmm, _, hx⟩
  · exact ⟨[], ⟨none, 0, rfl, Nat.le_refl _, rfl, Nat.zero_le _, fun h => absurd h (Nat.lt_irrefl 0)⟩, Nat.zero_le _, fun _ h => by cases h⟩
  · have hc : m = cap := by simpa using hmm
    subst hc
    have key : ∀ i : Fin len, ∃ a' : α, ∃ cs', d.K w a' cs' ∧ G a' ∧ w.cells? 0 (a.add (i * P.cellsOf e)) (P.cellsOf e) = some cs' := fun i => by
      obtain ⟨cs', h1, h2⟩ := hx i (by omega)
      obtain ⟨a', h3, h4⟩ := hd.get h2
      exact ⟨a', cs', h3, h4, h1⟩
    have hlen : (List.ofFn fun i => Classical.choose (key i)).length = len := List.length_ofFn
    refine ⟨List.ofFn fun i => Classical.choose (key i), ⟨some a, m, by rw [hlen], by omega, hlen.trans hlen.symm, ?_, fun _ => ⟨a, rfl, fun j p hj => ?_⟩⟩, by rw [hlen]; omega, fun y hy => ?_⟩
    · rw [hlen]; unfold maxLen at hm; omega
    · have hjl : j < len := by
        have := (List.getElem?_eq_some_iff.1 hj).1
        rwa [hlen] at this
      rw [List.getElem?_ofFn, dif_pos hjl, Option.some.injEq] at hj
      obtain ⟨cs', h1, h2, h3⟩ := Classical.choose_spec (key ⟨j, hjl⟩)
      rw [hj] at h1 h2
      obtain ⟨_, h5, h6⟩ := World.cells?_some h3
      refine ⟨cs', d.K_len h1, h1, fun i u hi => ?_⟩
      have hil : i < P.cellsOf e := by
        have := (List.getElem?_eq_some_iff.1 hi).1
        omega
      have := h6 i hil
      rw [Go.Deep.add_add] at this
      rw [← hd.size]
      exact this.trans hi
    · obtain ⟨i, rfl⟩ := List.mem_ofFn.1 hy
      obtain ⟨cs', h1, h2, h3⟩ := Classical.choose_spec (key i)
      exact h2
structure RdF {α : Type} (d : Kd α) (P : Program) (fs : List Field) (off : Nat) (Good : α → Prop) : Prop where
  get : ∀ {H : Type} {enc : TypeId × Value → H} {w : World} {n : Nat} {cs : List Value}, cs.length = off + d.sz →
    (∀ f ∈ fs, ∃ y, DataW.trod enc P w 0 (fun _ => true) true n f.type ((cs.drop f.offset).take (P.cellsOf f.type)) = some y) → ∃ a, d.K w a (cs.drop off) ∧ Good a
theorem rf_one {α : Type} {d : Kd α} {P : Program} {f : Field} {G : α → Prop} (hd : RdK d P f.type G) : RdF d P [f] f.offset G := by
  refine ⟨fun {H enc w n cs} hl h => ?_⟩
  obtain ⟨y, hy⟩ := h f (List.mem_singleton.2 rfl)
  rw [hd.size, List.take_of_length_le (by rw [List.length_drop]; omega)] at hy
  exact hd.get hy
theorem rf_cons {α β : Type} {d : Kd α} {d' : Kd β} {P : Program} {f : Field} {fs : List Field} {G : α → Prop} {G' : β → Prop} {off' : Nat} (hd : RdK d P f.type G) (ho : off' = f.offset + d.sz) (hf : RdF d' P fs off' G') :
    RdF (Kd.pair d d') P (f :: fs) f.offset (fun x => G x.1 ∧ G' x.2) := by
  refine ⟨fun {H enc w n cs} hl h => ?_⟩
  have hl' : cs.length = f.offset + (d.sz + d'.sz) := hl
  obtain ⟨y, hy⟩ := h f List.mem_cons_self
  rw [hd.size] at hy
  obtain ⟨a, h1, h2⟩ := hd.get hy
  obtain ⟨b, h3, h4⟩ := hf.get (cs := cs) (by omega) (fun g hg => h g (List.mem_cons_of_mem _ hg))
  refine ⟨(a, b), ⟨_, _, ?_, h1, h3⟩, h2, h4⟩
  rw [ho, ← List.drop_drop, List.take_append_drop]
theorem rk_struct {α : Type} {d : Kd α} {P : Program} {t : TypeId} {fs : Array Field} {G : α → Prop} (ht : P.underlying t = some (.struct fs)) (hs : P.cellsOf t = d.sz) (hf : RdF d P fs.toList 0 G) : RdK d P t G := by
  refine ⟨hs, fun {H enc w n cs x} h => ?_⟩
  obtain ⟨xs, n', _, _, hl, hlen, hg⟩ := DataW.trod_struct ht h
  have := hf.get (cs := cs) (enc := enc) (w := w) (n := n') (by omega) (fun f hf' => by
    obtain ⟨i, hi, he⟩ := List.getElem_of_mem hf'
    have h1 : fs[i]? = some f := by rw [← Array.getElem?_toList, List.getElem?_eq_getElem hi, he]
    have h2 := hg i f h1
    rw [List.getElem?_eq_getElem (by rw [hlen]; simpa using hi)] at h2
    exact ⟨_, h2⟩)
  simpa using this
theorem rk_iso {α β : Type} {d : Kd α} {P : Program} {t : TypeId} {G : α → Prop} (hd : RdK d P t G) (f : β → α) (g : α → β) (hfg : ∀ a, f (g a) = a) : RdK (Kd.iso d f) P t (fun b => G (f b)) := by
  refine ⟨hd.size, fun {H enc w n cs x} h => ?_⟩
  obtain ⟨a, h1, h2⟩ := hd.get h
  exact ⟨g a, by show d.K w (f (g a)) cs; rw [hfg]; exact h1, by rw [hfg]; exact h2⟩
theorem arg_slice {α : Type} {d : Kd α} {P : Program} {t e : TypeId} {G : α → Prop} (hd : RdK (Kd.slice e d) P t (okSl G)) {H : Type} {enc : TypeId × Value → H} {w : World} {a : Option Addr} {len cap : Nat} {x : DataW H} {ps : List MemPlace}
    (h : DataW.Trod enc P w 0 (fun _ => true) true t (.slice a len cap) x ps) : ∃ xs : List α, len = xs.length ∧ xs.length ≤ cap ∧ Kd.C d w a xs.length xs ∧ okSl G xs := by
  obtain ⟨n, hn⟩ := h
  obtain ⟨xs, ⟨A, c, he, hl, hc⟩, hg⟩ := hd.get hn
  simp [Value.cells] at he
  obtain ⟨rfl, rfl, rfl⟩ := he
  exact ⟨xs, rfl, hl, hc, hg⟩
theorem arg_struct {α : Type} {d : Kd α} {P : Program} {t : TypeId} {G : α → Prop} (hd : RdK d P t G) {H : Type} {enc : TypeId × Value → H} {w : World} {cs : Array Value} {x : DataW H} {ps : List MemPlace}
    (h : DataW.Trod enc P w 0 (fun _ => true) true t (.agg cs) x ps) : ∃ a : α, d.K w a cs.toList ∧ G a := by
  obtain ⟨n, hn⟩ := h
  exact hd.get hn
end Go.Proofs.YtnaafcleafbejaaGreat.Rd
end
section
namespace Go.Proofs.YtnaafcleafbejaaGreat.Q
open Go.RowKit Go.Proofs.YtnaafcleafbejaaGreatW.PrintWords Go.Proofs.YtnaafcleafbejaaGreatW.PrintLast Go.Proofs.YtnaafcleafbejaaGreatW.PrintMore
attribute [local go_sem] za7 za8 zb6 zb7 zav zaw za9 zbc
set_option linter.unusedVariables false
set_option linter.unusedSimpArgs false
def yaf (x : S58) : Prop := Rd.okStr x.f0 ∧ (Rd.okInt .i64) x.f1 ∧ (Rd.okInt .i64) x.f2 ∧ (Rd.okInt .i64) x.f3
theorem rd58 : Rd.RdK k58 Tryz.prog 58 yaf :=
  Rd.rk_iso (Rd.rk_struct Tryz.underlying58 (by kernel_rfl) (Rd.rf_cons (Rd.rk_string Tryz.underlying9 (by kernel_rfl)) rfl (Rd.rf_cons (Rd.rk_int Tryz.underlying3 (by kernel_rfl)) rfl (Rd.rf_cons (Rd.rk_int Tryz.underlying3 (by kernel_rfl)) rfl (Rd.rf_one (Rd.rk_int Tryz.underlying3 (by kernel_rfl))))))) (fun x : S58 => (x.f0, x.f1, x.f2, x.f3)) (fun p => ⟨p.1, p.2.1, p.2.2.1, p.2.2.2⟩) (fun _ => rfl)
def ycx (x : S26) : Prop := (Rd.okSl Rd.okStr) x.f0 ∧ (Rd.okSl (Rd.okInt .i64)) x.f1
theorem rd26 : Rd.RdK k26 Tryz.prog 26 ycx :=
  Rd.rk_iso (Rd.rk_struct Tryz.underlying26 (by kernel_rfl) (Rd.rf_cons (Rd.rk_slice (Rd.rk_string Tryz.underlying9 (by kernel_rfl)) Tryz.underlying23 (by kernel_rfl)) rfl (Rd.rf_one (Rd.rk_slice (Rd.rk_int Tryz.underlying3 (by kernel_rfl)) Tryz.underlying24 (by kernel_rfl))))) (fun x : S26 => (x.f0, x.f1)) (fun p => ⟨p.1, p.2⟩) (fun _ => rfl)
def laws_FnExactPrunedFor.Pure : Prop := ∀ (a0 : List (S58)) (a1 : S26) (a2 : Int), (Rd.okSl yaf) a0 → ycx a1 → (Rd.okInt .i64) a2 → ∃ k, zb5 k a0 a1.f0 a1.f1 a2 = some true
end Go.Proofs.YtnaafcleafbejaaGreat.Q
end
section
namespace Go.Proofs.YtnaafcleafbejaaGreat.Q
open Go.RowKit Go.Proofs.YtnaafcleafbejaaGreatW.PrintWords Go.Proofs.YtnaafcleafbejaaGreatW.PrintLast Go.Proofs.YtnaafcleafbejaaGreatW.PrintMore
attribute [local go_sem] za7 za8 zb6 zb7 zav zaw za9 zbc
set_option linter.unusedVariables false
set_option linter.unusedSimpArgs false
set_option linter.unusedVariables false
end Go.Proofs.YtnaafcleafbejaaGreat.Q
end
section
namespace Go.Proofs.YtnaafcleafbejaaGreat.PL
open Go Go.RowKit Go.Proofs.YtnaafcleafbejaaGreatW.PrintWords Go.Proofs.YtnaafcleafbejaaGreatW.PrintLast Go.Proofs.YtnaafcleafbejaaGreatW.PrintMore Go.Proofs.YtnaafcleafbejaaGreat.Q
set_option linter.unusedSimpArgs false
set_option linter.unusedVariables false
theorem w64 {x : Int} (h1 : -9223372036854775808 ≤ x) (h2 : x < 9223372036854775808) : wrap64 x = x := by unfold wrap64; omega
theorem w64n (i : Nat) (h : i < 4611686018427387904) : wrap64 ((i : Int) + 1) = ((i + 1 : Nat) : Int) := by unfold wrap64; omega
theorem Ev.some {α : Type} {a r : α} (h : a = r) : Ev (fun _ => some a) r := h ▸ Ev.now a
theorem zjg {α : Type} {g : Option α} {r : α} (h : g = Option.some r) : Ev (fun _ => g) r := by rw [h]; exact Ev.now r
theorem zjh {α : Type} {g : Nat → Option α} {r s : α} (h : Ev g r) (e : r = s) : Ev g s := e ▸ h
theorem zad {α : Type} {c : Prop} [Decidable c] {g g' : Nat → Option α} {r : α} (h : c) (H : Ev g r) : Ev (fun k => if c then g k else g' k) r := zr2 (fun _ => if_pos h) H
theorem zal {α : Type} {c : Prop} [Decidable c] {g g' : Nat → Option α} {r : α} (h : ¬ c) (H : Ev g' r) : Ev (fun k => if c then g k else g' k) r := zr2 (fun _ => if_neg h) H
theorem Ev.call {α β : Type} {g : Option α} {f : Nat → α → Option β} {a : α} {r : β} (h : g = Option.some a) (k : Ev (fun n => f n a) r) : Ev (fun n => g.bind (f n)) r := by
  rw [h]; exact k
theorem yag {σ ρ : Type} (n : Nat) (L : Nat → σ → Int → Option ρ) (M : Nat → σ → ρ) (hend : ∀ s, Ev (fun k => L k s n) (M n s))
    (hstep : ∀ (i : Nat) s, i < n → (∀ s', Ev (fun k => L k s' ((i + 1 : Nat) : Int)) (M (i + 1) s')) → Ev (fun k => L k s i) (M i s)) :
    ∀ (d i : Nat) s, i + d = n → Ev (fun k => L k s i) (M i s)
  | 0, i, s, h => by
    have e : i = n := by omega
    rw [e]
    exact hend s
  | d + 1, i, s, h => hstep i s (by omega) (fun s' => yag n L M hend hstep d (i + 1) s' (by omega))
theorem zll {α σ ρ : Type} (xs : List α) (L : Nat → σ → Int → Option ρ) (m : List α → σ → ρ) (hend : ∀ s, Ev (fun k => L k s (xs.length : Nat)) (m [] s))
    (hstep : ∀ (i : Nat) s x rest, i < xs.length → (∀ d, xs.getD i d = x) → (∀ s', Ev (fun k => L k s' ((i + 1 : Nat) : Int)) (m rest s')) → Ev (fun k => L k s i) (m (x :: rest) s)) (s : σ) :
    Ev (fun k => L k s 0) (m xs s) := by
  have := yag xs.length L (fun i s => m (xs.drop i) s) (fun s => by simpa using hend s) (fun i s hi ih => by
    have e : xs.drop i = xs[i] :: xs.drop (i + 1) := List.drop_eq_getElem_cons hi
    show Ev (fun k => L k s i) (m (xs.drop i) s)
    rw [e]
    exact hstep i s xs[i] _ hi (fun d => by simp [List.getD, List.getElem?_eq_getElem hi]) ih) xs.length 0 s (by omega)
  simpa using this
def idx {α : Type} (p : α → Bool) : List α → Int
  | [] => -1
  | x :: xs => if p x = true then 0 else if idx p xs < 0 then -1 else idx p xs + 1
theorem zu9 {α : Type} (p : α → Bool) (xs : List α) : 0 ≤ idx p xs ↔ ∃ x ∈ xs, p x = true := by
  induction xs with
  | nil => simp [idx]
  | cons x xs ih =>
    unfold idx
    by_cases h : p x = true
    · simp [h]
    · by_cases h2 : idx p xs < 0
      · rw [if_neg h, if_pos h2]
        have : ¬ ∃ x ∈ xs, p x = true := fun e => by have := ih.2 e; omega
        simp [h]
        simpa using this
      · rw [if_neg h, if_neg h2]
        have := ih.1 (by omega)
        simp [h]
        exact ⟨fun _ => this, fun _ => by omega⟩
theorem yff {α : Type} (p : α → Bool) (xs : List α) : -1 ≤ idx p xs := by
  induction xs with
  | nil => unfold idx; simp
  | cons x xs ih => unfold idx; split; · decide
                    · split <;> omega
theorem zwo {α : Type} (xs : List α) (p : α → Bool) (L : Nat → Int → Option Int) (hend : Ev (fun k => L k (xs.length : Nat)) (-1))
    (hyes : ∀ (i : Nat) x, i < xs.length → (∀ d, xs.getD i d = x) → p x = true → Ev (fun k => L k i) (i : Int))
    (hno : ∀ (i : Nat) x r, i < xs.length → (∀ d, xs.getD i d = x) → p x = false → Ev (fun k => L k ((i + 1 : Nat) : Int)) r → Ev (fun k => L k i) r) : Ev (fun k => L k 0) (idx p xs) := by
  have key : ∀ (d i : Nat), i + d = xs.length → Ev (fun k => L k i) (if idx p (xs.drop i) < 0 then -1 else idx p (xs.drop i) + i) := by
    intro d
    induction d with
    | zero =>
      intro i hi
      rw [List.drop_of_length_le (by omega), if_pos (show idx p [] < 0 by unfold idx; decide)]
      have e : i = xs.length := by omega
      rw [e]; exact hend
    | succ d ih =>
      intro i hi
      have hlt : i < xs.length := by omega
      have e : xs.drop i = xs[i] :: xs.drop (i + 1) := List.drop_eq_getElem_cons hlt
      have hg : ∀ d, xs.getD i d = xs[i] := fun d => by simp [List.getD, List.getElem?_eq_getElem hlt]
      rw [e]
      unfold idx
      by_cases h : p xs[i] = true
      · rw [if_pos h, if_neg (by decide)]
        simpa using hyes i _ hlt hg h
      · refine hno i _ _ hlt hg (by simpa using h) (zjh (ih (i + 1) (by omega)) ?_)
        rw [if_neg h]
        by_cases h2 : idx p (xs.drop (i + 1)) < 0
        · rw [if_pos h2, if_pos h2, if_pos (by decide)]
        · rw [if_neg h2, if_neg h2, if_neg (by omega)]
          omega
  have := key xs.length 0 (by omega)
  simp only [List.drop_zero, Int.natCast_zero, Int.add_zero] at this
  refine zjh this ?_
  have := yff p xs
  split <;> omega
theorem yfg {α : Type} (xs : List α) (p : α → Bool) (L : Nat → Int → Option Bool) (hend : Ev (fun k => L k (xs.length : Nat)) true)
    (hno : ∀ (i : Nat) x, i < xs.length → (∀ d, xs.getD i d = x) → p x = false → Ev (fun k => L k i) false)
    (hyes : ∀ (i : Nat) x r, i < xs.length → (∀ d, xs.getD i d = x) → p x = true → Ev (fun k => L k ((i + 1 : Nat) : Int)) r → Ev (fun k => L k i) r) : Ev (fun k => L k 0) (xs.all p) := by
  refine zll (σ := Unit) xs (fun k _ i => L k i) (fun l _ => l.all p) (fun _ => hend) (fun i _ x rest hi hx ih => ?_) ()
  by_cases h : p x = true
  · exact hyes i x _ hi hx h (zjh (ih ()) (by simp [h]))
  · have h' : p x = false := by simpa using h
    exact zjh (hno i x hi hx h') (by simp [h'])
theorem zlm {xs : List Int} {i : Nat} {x : Int} (h : ∀ d, xs.getD i d = x) : rd xs i = x := by unfold rd; rw [Int.toNat_natCast]; exact h 0
theorem zlw {α : Type} {d0 : α} {xs : List α} {i : Nat} {x : α} (h : ∀ d, xs.getD i d = x) : rdOf d0 xs i = x := by unfold rdOf; rw [Int.toNat_natCast]; exact h d0
theorem ycy {xs : List S69} {i : Nat} {x : S69} (h : ∀ d, xs.getD i d = x) : zac xs i = x := by unfold zac; rw [Int.toNat_natCast]; exact h _
theorem zcu {α : Type} (xs : List α) (i : Nat) (h : i < xs.length) : ∀ d, xs.getD i d = xs[i] := fun d => by simp [List.getD, List.getElem?_eq_getElem h]
theorem zpx {α : Type} (xs ys : List α) (z : α) (v : α) : (xs ++ List.replicate (ys.length + 1) z).set xs.length v = (xs ++ [v]) ++ List.replicate ys.length z := by
  rw [List.set_append_right _ _ (Nat.le_refl _)]
  simp [List.replicate_succ]
abbrev Instr := S69
theorem yah (l : List Int) (hl : l.length ≤ 1048576) : Ev (fun k => zhc k l) l := by
  have key : ∀ (d i : Nat), i + d = l.length → Ev (fun k => zed k l (l.take i ++ List.replicate d 0) i) l := by
    intro d
    induction d with
    | zero =>
      intro i hi
      refine Ev.step (f := fun _ => some _) (fun k => ?_) (Ev.now _)
      simp only [zed]
      rw [if_neg (by omega), List.take_of_length_le (by omega)]
      simp
    | succ d ih =>
      intro i hi
      have hlt : i < l.length := by omega
      have hx := zlm (zcu l i hlt)
      refine Ev.step (fun k => ?_) (ih (i + 1) (by omega))
      simp only [zed]
      rw [if_pos (by omega), if_pos (by omega), if_pos (by simp; omega), hx, w64n i (by omega)]
      congr 1
      have e : ((i : Int)).toNat = (l.take i).length := by simp; omega
      rw [e]
      have := zpx (l.take i) (List.replicate d (0 : Int)) 0 l[i]
      simp only [List.length_replicate] at this
      rw [this]
      congr 1
      rw [List.take_succ_eq_append_getElem hlt]
  unfold zhc
  refine zad (by omega) (zad (by simp; omega) ?_)
  simpa using key l.length 0 (by omega)
theorem zo2 (l : List Instr) (hl : l.length ≤ 1048576) : Ev (fun k => zer k l l) true := by
  unfold zer
  simp only [if_true]
  refine zll (σ := Unit) l (fun k _ i => zc1 k l l i) (fun _ _ => true) (fun _ => ?_) (fun i _ x rest hi hx ih => ?_) ()
  · refine Ev.step (f := fun _ => some true) (fun k => ?_) (Ev.now _)
    simp only [zc1]
    rw [if_neg (by omega)]
  · refine Ev.step (fun k => ?_) (ih ())
    simp only [zc1, zla, reduceIte, Option.bind_some]
    rw [if_pos (by omega), if_pos (by omega), w64n i (by omega), if_pos (by omega)]
theorem zxu (l : List Int) (hl : l.length ≤ 1048576) : Ev (fun k => zhb k l l) true := by
  unfold zhb
  simp only [if_true]
  refine zll (σ := Unit) l (fun k _ i => zec k l l i) (fun _ _ => true) (fun _ => ?_) (fun i _ x rest hi hx ih => ?_) ()
  · refine Ev.step (f := fun _ => some true) (fun k => ?_) (Ev.now _)
    simp only [zec]
    rw [if_neg (by omega)]
  · refine Ev.step (fun k => ?_) (ih ())
    simp only [zec, if_true]
    rw [if_pos (by omega), if_pos (by omega), w64n i (by omega), if_pos (by omega)]
theorem zwp (l : List ByteArray) (a : Int) (hl : Rd.okSl Rd.okStr l) (h0 : 0 ≤ a) (h1 : a ≤ 1048576) :
    ∃ r, Ev (fun k => ze2 k l a) r ∧ (0 ≤ r → (l.length : Int) ≤ a ∧ r ≤ a) := by
  obtain ⟨hl1, hl2⟩ := hl
  unfold maxLen at hl1
  by_cases h : a < l.length
  · refine ⟨-1, ?_, fun h => absurd h (by decide)⟩
    unfold ze2
    rw [w64 (by omega) (by omega)]
    simp only [show a - (l.length : Int) < 0 by omega, if_true]
    exact Ev.now _
  · have key : ∀ (d i : Nat) (r : Int), i + d = l.length → 0 ≤ r → r ≤ a → ∃ q, Ev (fun k => zcb k l r i) q ∧ q ≤ a := by
      intro d
      induction d with
      | zero =>
        intro i r hi hr hra
        refine ⟨r, Ev.step (f := fun _ => some r) (fun k => ?_) (Ev.now _), hra⟩
        simp only [zcb]
        rw [if_neg (by omega)]
      | succ d ih =>
        intro i r hi hr hra
        have hlt : i < l.length := by omega
        have hx : rdOf ByteArray.empty l i = l[i] := zlw (zcu l i hlt)
        have hsz : l[i].size ≤ maxLen := hl2 l[i] (List.getElem_mem hlt)
        unfold maxLen at hsz
        by_cases hb : r < l[i].size
        · refine ⟨-1, Ev.step (f := fun _ => some (-1)) (fun k => ?_) (Ev.now _), by omega⟩
          simp only [zcb, hx]
          rw [if_pos (by omega), if_pos (by omega), w64 (by omega) (by omega), if_pos (by omega)]
        · obtain ⟨q, hq, hqa⟩ := ih (i + 1) (r - l[i].size) (by omega) (by omega) (by omega)
          refine ⟨q, Ev.step (fun k => ?_) hq, hqa⟩
          simp only [zcb, hx]
          rw [if_pos (by omega), if_pos (by omega), w64 (by omega) (by omega), if_neg (by omega), w64n i (by omega)]
    obtain ⟨q, hq, hqa⟩ := key l.length 0 (a - l.length) (by omega) (by omega) (by omega)
    refine ⟨q, ?_, fun h' => ⟨by omega, hqa⟩⟩
    unfold ze2
    rw [w64 (by omega) (by omega)]
    simp only [show ¬ (a - (l.length : Int) < 0) by omega, if_false]
    simpa using hq
theorem yai (l : List Int) (a : Int) (hl : l.length ≤ maxLen) (h0 : 0 ≤ a) (h1 : a ≤ 1048576) : zkb l a = some (if a < l.length then -1 else a - l.length) := by
  unfold maxLen at hl
  unfold zkb
  rw [w64 (by omega) (by omega)]
  by_cases h : a < l.length
  · rw [if_pos (by omega), if_pos h]
  · rw [if_neg (by omega), if_neg h]
theorem zwq (l : List ByteArray) (hl : l.length ≤ 1048576) : Ev (fun k => zfn k l) l := by
  have key : ∀ (d i : Nat), i + d = l.length → Ev (fun k => zcp k l (l.take i ++ List.replicate d ⟨#[]⟩) i) l := by
    intro d
    induction d with
    | zero =>
      intro i hi
      refine Ev.step (f := fun _ => some l) (fun k => ?_) (Ev.now _)
      simp only [zcp]
      rw [if_neg (by omega), List.take_of_length_le (by omega)]
      simp
    | succ d ih =>
      intro i hi
      have hlt : i < l.length := by omega
      have hx : rdOf ByteArray.empty l i = l[i] := zlw (zcu l i hlt)
      refine Ev.step (fun k => ?_) (ih (i + 1) (by omega))
      simp only [zcp]
      rw [if_pos (by omega), if_pos (by omega), if_pos (by simp; omega), hx, w64n i (by omega)]
      congr 1
      have e : ((i : Int)).toNat = (l.take i).length := by simp; omega
      rw [e]
      have := zpx (l.take i) (List.replicate d (⟨#[]⟩ : ByteArray)) ⟨#[]⟩ l[i]
      simp only [List.length_replicate] at this
      rw [this]
      congr 1
      rw [List.take_succ_eq_append_getElem hlt]
  unfold zfn
  refine zad (by omega) (zad (by simp; omega) ?_)
  simpa using key l.length 0 (by omega)
theorem zuw (l : List ByteArray) (hl : l.length ≤ 1048576) : Ev (fun k => zfl k l l) true := by
  unfold zfl
  simp only [if_true]
  refine zll (σ := Unit) l (fun k _ i => zcn k l l i) (fun _ _ => true) (fun _ => ?_) (fun i _ x rest hi hx ih => ?_) ()
  · refine Ev.step (f := fun _ => some true) (fun k => ?_) (Ev.now _)
    simp only [zcn]
    rw [if_neg (by omega)]
  · refine Ev.step (fun k => ?_) (ih ())
    simp only [zcn, if_true]
    rw [if_pos (by omega), if_pos (by omega), w64n i (by omega), if_pos (by omega)]
theorem zxv (l : List ByteArray) (m : List Int) (a : Int) (hl : Rd.okSl Rd.okStr l) (hm : m.length ≤ maxLen) (h0 : 0 ≤ a) (h1 : a ≤ 1048576) :
    ∃ r, Ev (fun k => zga k l m a) r ∧ (0 ≤ r → (l.length : Int) ≤ a ∧ (m.length : Int) ≤ a ∧ r ≤ a) := by
  unfold zga
  obtain ⟨r, hr, hr'⟩ := zwp l a hl h0 h1
  by_cases hn : r < 0
  · exact ⟨-1, Ev.bind hr (zad hn (Ev.now _)), fun h => absurd h (by decide)⟩
  obtain ⟨q1, q2⟩ := hr' (by omega)
  have e := yai m r hm (by omega) (by omega)
  by_cases hn2 : r < m.length
  · rw [if_pos hn2] at e
    exact ⟨-1, Ev.bind hr (zal hn (Ev.call e (zad (by decide) (Ev.now _)))), fun h => absurd h (by decide)⟩
  · rw [if_neg hn2] at e
    exact ⟨r - m.length, Ev.bind hr (zal hn (Ev.call e (zal (by omega) (Ev.now _)))), fun h => ⟨by omega, by omega, by omega⟩⟩
theorem zqo (l : List ByteArray) (m : List Int) (hl : l.length ≤ 1048576) (hm : m.length ≤ 1048576) : Ev (fun k => zd3 k l m) (l, m) := by
  unfold zd3
  exact Ev.bind (zwq l hl) (Ev.bind (yah m hm) (Ev.now _))
theorem zvu (l : List ByteArray) (m : List Int) (hl : l.length ≤ 1048576) (hm : m.length ≤ 1048576) : Ev (fun k => zf8 k l m l m) true := by
  unfold zf8
  exact Ev.bind (zuw l hl) (zad rfl (Ev.bind (zxu m hm) (zad rfl (Ev.now _))))
theorem zo3 : ∀ (m : Nat) (n : Nat) (s : ByteArray), n ≤ m → s.size + n ≤ 4611686018427387904 → ∃ t, Ev (fun k => zc3 k n s) t
  | 0, n, s, h, hs => by
    have e : n = 0 := by omega
    subst e
    refine ⟨(⟨#[109]⟩ : ByteArray) ++ s, Ev.step (f := fun _ => some ((⟨#[109]⟩ : ByteArray) ++ s)) (fun k => ?_) (Ev.now _)⟩
    have hz : (⟨#[109]⟩ : ByteArray).size = 1 := rfl
    simp only [zc3]
    rw [if_neg (by decide), if_pos (by omega)]
  | m + 1, n, s, h, hs => by
    by_cases hn : n = 0
    · exact zo3 m n s (by omega) hs
    · have hsz : (strOfNums [(wrap64 (48 + Int.tmod (n : Int) 10)) % 256]).size = 1 := by
        unfold strOfNums
        rfl
      obtain ⟨t, ht⟩ := zo3 m (n / 10) (strOfNums [(wrap64 (48 + Int.tmod (n : Int) 10)) % 256] ++ s) (by omega) (by rw [ByteArray.size_append, hsz]; omega)
      refine ⟨t, Ev.step (fun k => ?_) ht⟩
      simp only [zc3, Option.bind_some]
      rw [if_pos (by omega), if_pos (by rw [hsz]; omega)]
      congr 1
      have e : Int.tdiv (n : Int) 10 = ((n / 10 : Nat) : Int) := by
        rw [Int.tdiv_eq_ediv_of_nonneg (by omega)]
        omega
      rw [e, w64 (by omega) (by omega)]
theorem zt5 (n : Nat) (h : n ≤ 4611686018427387903) : ∃ t, Ev (fun k => zda k n) t := by
  unfold zda
  by_cases hn : (n : Int) ≤ 0
  · exact ⟨_, zad hn (Ev.now _)⟩
  · obtain ⟨t, ht⟩ := zo3 n n ⟨#[]⟩ (Nat.le_refl _) (by show 0 + n ≤ _; omega)
    exact ⟨t, zal hn ht⟩
open Classical in
noncomputable def mtx (n : Nat) : ByteArray := if h : ∃ t, Ev (fun k => zda k n) t then Classical.choose h else ⟨#[]⟩
theorem zys (n : Nat) (h : n ≤ 4611686018427387903) : Ev (fun k => zda k n) (mtx n) := by
  unfold mtx
  rw [dif_pos (zt5 n h)]
  exact Classical.choose_spec (zt5 n h)
def zkv : Nat → Nat → List Int
  | 0, _ => []
  | n + 1, a => (a : Int) :: zkv n (a + 1)
theorem zva : ∀ n a, (zkv n a).length = n
  | 0, _ => rfl
  | n + 1, a => by simp [zkv, zva n]
theorem zxw {α : Type} (xs : List α) (y : α) (ys : List α) (v : α) : (xs ++ y :: ys).set xs.length v = (xs ++ [v]) ++ ys := by
  rw [List.set_append_right _ _ (Nat.le_refl _)]
  simp
theorem zyt {α : Type} (xs : List α) (y : α) (ys : List α) (d : α) : (xs ++ y :: ys).getD xs.length d = y := by simp [List.getD]
theorem zxx (l : List Int) (a : Nat) (hl : l.length ≤ 1048576) (ha : a ≤ 33554432) : Ev (fun k => zf9 k l a) ((a : Int) + l.length, zkv l.length a) := by
  have key : ∀ (ys xs : List Int) (b : Nat), xs.length + ys.length ≤ 1048576 → b ≤ 67108864 - ys.length → Ev (fun k => zc7 k (xs ++ ys) b xs.length) ((b : Int) + ys.length, xs ++ zkv ys.length b) := by
    intro ys
    induction ys with
    | nil =>
      intro xs b h h'
      refine Ev.step (f := fun _ => some (((b : Int), xs ++ []))) (fun k => ?_) (Ev.some ?_)
      · simp only [zc7]
        rw [if_neg (by simp)]
      · simp [zkv]
    | cons y ys ih =>
      intro xs b h h'
      simp only [List.length_cons] at h h'
      have := ih (xs ++ [(b : Int)]) (b + 1) (by simp; omega) (by omega)
      rw [List.append_assoc] at this
      refine Ev.step (fun k => ?_) (zjh this ?_)
      · simp only [zc7]
        rw [if_pos (by simp; omega), if_pos (by omega), Int.toNat_natCast, zxw, w64n _ (by omega), w64n _ (by omega), List.append_assoc]
        congr 1
        simp
      · simp only [List.length_cons, zkv, Prod.mk.injEq]
        exact ⟨by omega, by simp⟩
  have := key l [] a (by simpa using hl) (by omega)
  unfold zf9
  simpa using this
noncomputable def zpc : Nat → Nat → List Instr
  | 0, _ => []
  | n + 1, a => ⟨mtx a, (a + 1 : Nat), (a + 2 : Nat), (a + 3 : Nat), (a + 4 : Nat)⟩ :: zpc n (a + 5)
theorem zvb : ∀ n a, (zpc n a).length = n
  | 0, _ => rfl
  | n + 1, a => by simp [zpc, zvb n]
theorem yaj (xs : List Instr) (y : Instr) (ys : List Instr) : zac (xs ++ y :: ys) (xs.length : Nat) = y := by
  unfold zac
  rw [Int.toNat_natCast, zyt]
theorem zvv (l : List Instr) (a : Nat) (hl : l.length ≤ 1048576) (ha : a ≤ 11534336) : Ev (fun k => zfb k l a) ((a : Int) + 5 * l.length, zpc l.length a) := by
  have key : ∀ (ys xs : List Instr) (b : Nat), xs.length + ys.length ≤ 1048576 → b ≤ 16777216 - 5 * ys.length → Ev (fun k => zch k (xs ++ ys) b xs.length) ((b : Int) + 5 * ys.length, xs ++ zpc ys.length b) := by
    intro ys
    induction ys with
    | nil =>
      intro xs b h h'
      refine Ev.step (f := fun _ => some (((b : Int), xs ++ []))) (fun k => ?_) (Ev.some ?_)
      · simp only [zch]
        rw [if_neg (by simp)]
      · simp [zpc]
    | cons y ys ih =>
      intro xs b h h'
      simp only [List.length_cons] at h h'
      have := ih (xs ++ [⟨mtx b, (b + 1 : Nat), (b + 2 : Nat), (b + 3 : Nat), (b + 4 : Nat)⟩]) (b + 5) (by simp; omega) (by omega)
      rw [List.append_assoc] at this
      refine Ev.step (fun k => by simp only [zch]; rfl) ?_
      refine zad (by simp; omega) ?_
      refine Ev.bind (zys b (by omega)) ?_
      refine zad (by omega) ?_
      refine zr2 (fun k => ?_) (zjh this ?_)
      · simp only [Option.bind_some, Int.toNat_natCast, zxw, yaj, List.append_assoc, List.singleton_append]
        rw [w64n b (by omega), w64n (b + 1) (by omega), w64n (b + 2) (by omega), w64n (b + 3) (by omega), w64n (b + 4) (by omega), w64n _ (by omega)]
        congr 1
        simp
      · simp only [List.length_cons, zpc, Prod.mk.injEq]
        exact ⟨by omega, by simp⟩
  have := key l [] a (by simpa using hl) (by omega)
  unfold zfb
  simpa using this
theorem zrp (n a : Nat) (hn : n ≤ 1048576) (ha : a ≤ 11534336) : Ev (fun k => zej k (zpc n a) a) ((a : Int) + 5 * n) := by
  have key : ∀ (d : Nat) (xs : List Instr) (b : Nat), xs.length + d ≤ 1048576 → b ≤ 16777216 - 5 * d → Ev (fun k => zcg k (xs ++ zpc d b) b xs.length) ((b : Int) + 5 * d) := by
    intro d
    induction d with
    | zero =>
      intro xs b h h'
      refine Ev.step (f := fun _ => some (b : Int)) (fun k => ?_) (Ev.some (by simp))
      simp only [zcg]
      rw [if_neg (by simp [zpc])]
    | succ d ih =>
      intro xs b h h'
      have := ih (xs ++ [⟨mtx b, (b + 1 : Nat), (b + 2 : Nat), (b + 3 : Nat), (b + 4 : Nat)⟩]) (b + 5) (by simp; omega) (by omega)
      rw [List.append_assoc] at this
      have e : zac (xs ++ zpc (d + 1) b) (xs.length : Nat) = ⟨mtx b, (b + 1 : Nat), (b + 2 : Nat), (b + 3 : Nat), (b + 4 : Nat)⟩ := yaj _ _ _
      refine Ev.step (fun k => by simp only [zcg, e]; rfl) ?_
      refine zad (by simp [zvb]; omega) ?_
      refine zad (by omega) ?_
      refine Ev.bind (zys b (by omega)) ?_
      refine zad rfl ?_
      refine zr2 (fun k => ?_) (zjh this (by omega))
      rw [w64n b (by omega), w64n (b + 1) (by omega), w64n (b + 2) (by omega), w64n (b + 3) (by omega), w64n (b + 4) (by omega), w64n _ (by omega)]
      rw [if_pos rfl, if_pos rfl, if_pos rfl, if_pos rfl]
      congr 1
      simp
  have := key n [] a (by simpa using hn) (by omega)
  unfold zej
  simpa using this
def zgy (c : Nat) : Bool × Bool × Bool × Int × Int :=
  match c with
  | 0 => (true, false, false, 0, 63)
  | 1 => (true, true, false, 0, 0)
  | 2 => (true, true, true, 0, 0)
  | 3 => (true, true, true, 0, 0)
  | 4 => (true, true, true, 0, 0)
  | 5 => (true, true, false, 0, 63)
  | 6 => (true, true, false, 1, 5)
  | 7 => (true, true, true, 1, 3)
  | _ => (false, false, false, 0, 0)
theorem zwr : ∀ p ∈ ops, zeu 20 p.1 = some (zgy p.2) := by decide +kernel
theorem zws (s : ByteArray) : zj5 s = some (zgz (cls s) s) := rfl
theorem zvw (s : ByteArray) : Ev (fun k => zeu k s) (zgy (cls s)) := by
  refine ztm (P := fun s => Ev (fun k => zeu k s) (zgy (cls s))) s (fun p hp => ?_) (fun h => ?_)
  · rw [zz9 p hp]
    exact yfz (zdb _) (zwr p hp)
  · rw [ztn h]
    obtain ⟨h0, h1, h2, h3, h4, h5, h6, h7, h8, h9, h10, h11, h12, h13, h14, h15, h16, h17, h18, h19⟩ := zxs h
    refine yfz (zdb _) (k := 5) ?_
    simp only [zeu, zd7, zbr, zd8, zet, h0, h1, h2, h3, h4, h5, h6, h7, h8, h9, h10, h11, h12, h13, h14, h15, h16, h17, h18, h19, if_false, beq_iff_eq]
    rfl
theorem zln (a b c : Int) : zei a b c = some (decide (b ≤ a ∧ a ≤ c)) := by
  unfold zei
  by_cases h : b ≤ a <;> simp [h]
theorem zpp (a b c : Int) : ze5 a b c = some (decide (b ≤ a ∧ a ≤ c)) := by
  unfold ze5
  by_cases h : a ≥ b
  · rw [if_pos h]; congr 1; rw [decide_eq_decide]; omega
  · rw [if_neg h]; congr 1; symm; rw [decide_eq_false_iff_not]; omega
def okI (x : Instr) : Prop := cls x.f0 ≠ 8 ∧ (0 ≤ x.f1 ∧ x.f1 ≤ 5) ∧ ((zgy (cls x.f0)).2.1 = true ∧ 0 ≤ x.f2 ∧ x.f2 ≤ 5 ∨ x.f2 = 0) ∧ ((zgy (cls x.f0)).2.2.1 = true ∧ 0 ≤ x.f3 ∧ x.f3 ≤ 5 ∨ x.f3 = 0) ∧ (zgy (cls x.f0)).2.2.2.1 ≤ x.f4 ∧ x.f4 ≤ (zgy (cls x.f0)).2.2.2.2
instance (x : Instr) : Decidable (okI x) := by unfold okI; infer_instance
theorem zvc (s : ByteArray) : cls s ≤ 8 := by
  refine ztm (P := fun s => cls s ≤ 8) s (by decide +kernel) (fun h => by rw [ztn h]; exact Nat.le_refl _)
theorem yak (s : ByteArray) : cls s = 0 ∨ cls s = 1 ∨ cls s = 2 ∨ cls s = 3 ∨ cls s = 4 ∨ cls s = 5 ∨ cls s = 6 ∨ cls s = 7 ∨ cls s = 8 := by have := zvc s; omega
theorem zvd {xs : List S62} {i : Nat} {x : S62} (h : ∀ d, xs.getD i d = x) : zab xs i = x := by unfold zab; rw [Int.toNat_natCast]; exact h _
theorem ycz {xs : List S58} {i : Nat} {x : S58} (h : ∀ d, xs.getD i d = x) : zh1 xs i = x := by unfold zh1; rw [Int.toNat_natCast]; exact h _
abbrev Node := S62
abbrev yal := S58
def cvN (x : yal) : Node := ⟨x.f0, x.f1, x.f2, x.f3⟩
theorem zwt (s : ByteArray) (a b c r : Int) (hs : s.size ≤ maxLen) (h0 : 0 ≤ r) (h1 : r ≤ 1048576) : zkc s a b c r = some (if r < s.size then -1 else r - s.size) := by
  unfold maxLen at hs
  unfold zkc
  rw [w64 (by omega) (by omega)]
  by_cases h : r < s.size
  · rw [if_pos (by omega), if_pos h]
  · rw [if_neg (by omega), if_neg h]
theorem zzm (l : List yal) (a : Int) (hl : Rd.okSl yaf l) (h0 : 0 ≤ a) (h1 : a ≤ 1048576) :
    ∃ r, Ev (fun k => zfw k l a) r ∧ (0 ≤ r → (l.length : Int) ≤ a ∧ (∀ x ∈ l, (x.f0.size : Int) ≤ a) ∧ r ≤ a) := by
  obtain ⟨hl1, hl2⟩ := hl
  unfold maxLen at hl1
  by_cases h : a < l.length
  · refine ⟨-1, ?_, fun h => absurd h (by decide)⟩
    unfold zfw
    rw [w64 (by omega) (by omega)]
    simp only [show a - (l.length : Int) < 0 by omega, if_true]
    exact Ev.now _
  · have key : ∀ (d i : Nat) (r : Int), i + d = l.length → 0 ≤ r → r ≤ a → ∃ q, Ev (fun k => zcs k l r i) q ∧ q ≤ a ∧ (0 ≤ q → ∀ x ∈ l.drop i, (x.f0.size : Int) ≤ a) := by
      intro d
      induction d with
      | zero =>
        intro i r hi hr _
        refine ⟨r, Ev.step (f := fun _ => some r) (fun k => ?_) (Ev.now _), by omega, fun _ x hx => ?_⟩
        · simp only [zcs]
          rw [if_neg (by omega)]
        · rw [List.drop_of_length_le (by omega)] at hx
          cases hx
      | succ d ih =>
        intro i r hi hr hra
        have hlt : i < l.length := by omega
        have e : l.drop i = l[i] :: l.drop (i + 1) := List.drop_eq_getElem_cons hlt
        have hx := ycz (zcu l i hlt)
        have hsz := (hl2 l[i] (List.getElem_mem hlt)).1
        by_cases hb : r < l[i].f0.size
        · refine ⟨-1, Ev.step (f := fun _ => some (-1)) (fun k => ?_) (Ev.now _), by omega, fun h => absurd h (by decide)⟩
          simp only [zcs]
          rw [if_pos (by omega), if_pos (by omega), hx, zwt _ _ _ _ _ hsz hr (by omega), if_pos hb]
          rfl
        · obtain ⟨q, hq, hqa, hq'⟩ := ih (i + 1) (r - l[i].f0.size) (by omega) (by omega) (by omega)
          refine ⟨q, Ev.step (f := fun k => zcs k l (r - l[i].f0.size) ((i + 1 : Nat) : Int)) (fun k => ?_) hq, hqa, fun h x hx' => ?_⟩
          · simp only [zcs]
            rw [if_pos (by omega), if_pos (by omega), hx, zwt _ _ _ _ _ hsz hr (by omega), if_neg hb, Option.bind_some, if_neg (by omega), w64n i (by omega)]
          · rw [e] at hx'
            rcases List.mem_cons.1 hx' with rfl | hx'
            · omega
            · exact hq' h x hx'
    obtain ⟨q, hq, hqa, hq'⟩ := key l.length 0 (a - l.length) (by omega) (by omega) (by omega)
    refine ⟨q, ?_, fun h' => ⟨by omega, by simpa using hq' h', hqa⟩⟩
    unfold zfw
    rw [w64 (by omega) (by omega)]
    simp only [show ¬ (a - (l.length : Int) < 0) by omega, if_false]
    simpa using hq
theorem zsu (l : List yal) (hl : l.length ≤ 1048576) : Ev (fun k => zes k l) (l.map cvN) := by
  have key : ∀ (d i : Nat), i + d = l.length → Ev (fun k => zdn k l ((l.take i).map cvN ++ List.replicate d z62) i) (l.map cvN) := by
    intro d
    induction d with
    | zero =>
      intro i hi
      refine Ev.step (f := fun _ => some _) (fun k => ?_) (Ev.now _)
      simp only [zdn]
      rw [if_neg (by omega), List.take_of_length_le (by omega)]
      simp
    | succ d ih =>
      intro i hi
      have hlt : i < l.length := by omega
      have hx := ycz (zcu l i hlt)
      refine Ev.step (fun k => ?_) (ih (i + 1) (by omega))
      simp only [zdn, zme, Option.bind_some]
      rw [if_pos (by omega), if_pos (by omega), if_pos (by simp; omega), hx, w64n i (by omega)]
      congr 1
      have e : ((i : Int)).toNat = ((l.take i).map cvN).length := by simp; omega
      rw [e]
      have := zpx ((l.take i).map cvN) (List.replicate d z62) z62 (cvN l[i])
      simp only [List.length_replicate] at this
      rw [show (⟨l[i].f0, l[i].f1, l[i].f2, l[i].f3⟩ : Node) = cvN l[i] from rfl, this]
      congr 1
      rw [List.take_succ_eq_append_getElem hlt, List.map_append]
      rfl
  unfold zes
  refine zad (by omega) (zad (by simp; omega) ?_)
  simpa using key l.length 0 (by omega)
theorem zwu (l : List Node) (hl : l.length ≤ 1048576) : Ev (fun k => zgr k l l) true := by
  unfold zgr
  simp only [if_true]
  refine zll (σ := Unit) l (fun k _ i => zdm k l l i) (fun _ _ => true) (fun _ => ?_) (fun i _ x rest hi hx ih => ?_) ()
  · refine Ev.step (f := fun _ => some true) (fun k => ?_) (Ev.now _)
    simp only [zdm]
    rw [if_neg (by omega)]
  · refine Ev.step (fun k => ?_) (ih ())
    simp only [zdm, zmd, reduceIte, Option.bind_some]
    rw [if_pos (by omega), if_pos (by omega), w64n i (by omega), if_pos (by omega)]
theorem zxy {α : Type} {xs : List α} {i : Nat} {x : α} (hi : i < xs.length) (hx : ∀ d, xs.getD i d = x) : x ∈ xs := by
  have := hx x
  rw [zcu xs i hi] at this
  rw [← this]
  exact List.getElem_mem hi
theorem ydo {α : Type} (p : α → Bool) (xs : List α) (q : Prop) [Decidable q] (h : q ↔ ∃ x ∈ xs, p x = true) : decide (idx p xs ≥ 0) = decide q := by
  rw [decide_eq_decide]
  exact (zu9 p xs).trans h.symm
def hasS (l : List ByteArray) (s : ByteArray) : Bool := l.any fun y => decide (y = s)
theorem zyu (l : List ByteArray) (s : ByteArray) : hasS l s = true ↔ s ∈ l := by
  unfold hasS
  rw [List.any_eq_true]
  exact ⟨fun ⟨x, hx, h⟩ => of_decide_eq_true h ▸ hx, fun h => ⟨s, h, decide_eq_true rfl⟩⟩
theorem zn3 (l : List ByteArray) (s : ByteArray) (hl : l.length ≤ 1048576) : Ev (fun k => zam k l s) (hasS l s) := by
  have h : Ev (fun k => za6 k l s) (idx (fun y => decide (s = y)) l) := by
    unfold za6
    refine zwo l _ (fun k i => zan k l s l.length i) ?_ (fun i x hi hx hp => ?_) (fun i x r hi hx hp hr => ?_)
    · refine Ev.step (f := fun _ => some (-1)) (fun k => ?_) (Ev.now _)
      simp only [zan]
      rw [if_neg (by omega)]
    · refine Ev.step (f := fun _ => some (i : Int)) (fun k => ?_) (Ev.now _)
      simp only [zan, zlw hx, zyp]
      rw [if_pos (by omega), if_pos (by omega), if_pos (by omega), if_pos (of_decide_eq_true hp)]
    · refine Ev.step (fun k => ?_) hr
      simp only [zan, zlw hx, zyp]
      rw [if_pos (by omega), if_pos (by omega), if_pos (by omega), if_neg (of_decide_eq_false hp), w64n i (by omega)]
  unfold zam
  refine Ev.bind h (Ev.some ?_)
  rw [Bool.eq_iff_iff, decide_eq_true_eq, zyu]
  refine (zu9 _ l).trans ⟨?_, fun h => ⟨s, h, decide_eq_true rfl⟩⟩
  rintro ⟨x, hx, h⟩
  rw [of_decide_eq_true h]
  exact hx
theorem zpr (l : List ByteArray) (s : ByteArray) (hl : l.length ≤ 1048576) : Ev (fun k => zfh k l s) (hasS l s) := by
  unfold zfh
  refine zll (σ := Unit) l (fun k _ i => zee k s l l.length i) (fun r _ => hasS r s) (fun _ => ?_) (fun i _ x rest hi hx ih => ?_) ()
  · refine Ev.step (f := fun _ => some false) (fun k => ?_) (Ev.now _)
    simp only [zee]
    rw [if_neg (by omega)]
  · refine Ev.step (fun k => by simp only [zee, zlw hx, zyp]; rfl) (zad (by omega) (zad (by omega) (zad (by omega) ?_)))
    by_cases q : x = s
    · exact zad q (Ev.some (by simp [hasS, q]))
    · refine zal q ?_
      rw [w64n i (by omega)]
      refine zjh (ih ()) ?_
      simp [hasS, q]
theorem zps (l : List Int) (s : Int) (hl : l.length ≤ 1048576) : Ev (fun k => zbi k l s) (decide (s ∈ l)) := by
  have h : Ev (fun k => zcw k l s) (idx (fun y => decide (s = y)) l) := by
    unfold zcw
    refine zwo l _ (fun k i => za3 k l s l.length i) ?_ (fun i x hi hx hp => ?_) (fun i x r hi hx hp hr => ?_)
    · refine Ev.step (f := fun _ => some (-1)) (fun k => ?_) (Ev.now _)
      simp only [za3]
      rw [if_neg (by omega)]
    · refine Ev.step (f := fun _ => some (i : Int)) (fun k => ?_) (Ev.now _)
      simp only [za3, zlm hx]
      rw [if_pos (by omega), if_pos (by omega), if_pos (by omega), if_pos (of_decide_eq_true hp)]
    · refine Ev.step (fun k => ?_) hr
      simp only [za3, zlm hx]
      rw [if_pos (by omega), if_pos (by omega), if_pos (by omega), if_neg (of_decide_eq_false hp), w64n i (by omega)]
  unfold zbi
  refine Ev.bind h (Ev.some (ydo _ _ _ ?_))
  constructor
  · exact fun h => ⟨s, h, decide_eq_true rfl⟩
  · rintro ⟨x, hx, h⟩
    rw [of_decide_eq_true h]
    exact hx
theorem zvx (l : List Int) (s : Int) (hl : l.length ≤ 1048576) : Ev (fun k => zgx k l s) (decide (s ∈ l)) := by
  unfold zgx
  refine zll (σ := Unit) l (fun k _ i => ze4 k s l l.length i) (fun r _ => decide (s ∈ r)) (fun _ => ?_) (fun i _ x rest hi hx ih => ?_) ()
  · refine Ev.step (f := fun _ => some false) (fun k => ?_) (Ev.some (by simp))
    simp only [ze4]
    rw [if_neg (by omega)]
  · refine Ev.step (fun k => by simp only [ze4, zlm hx]; rfl) (zad (by omega) (zad (by omega) (zad (by omega) ?_)))
    by_cases q : x = s
    · exact zad q (Ev.some (by simp [q]))
    · refine zal q ?_
      rw [w64n i (by omega)]
      refine zjh (ih ()) ?_
      rw [decide_eq_decide, List.mem_cons]
      exact ⟨Or.inr, fun h => h.resolve_left fun e => q e.symm⟩
def bops : List ByteArray := [⟨#[97, 100, 100]⟩, ⟨#[115, 117, 98]⟩, ⟨#[109, 117, 108]⟩, ⟨#[97, 110, 100]⟩, ⟨#[111, 114]⟩, ⟨#[120, 111, 114]⟩, ⟨#[115, 104, 108]⟩, ⟨#[115, 104, 114]⟩, ⟨#[108, 101, 115, 115]⟩, ⟨#[101, 113]⟩]
theorem yam : zma = some bops := rfl
theorem yb6 : zny = some bops := rfl
def isIn (s : ByteArray) : Prop := s.toList = ([105, 110] : List UInt8)
def zg3 (s : ByteArray) : Prop := s.toList = ([99, 111, 110, 115, 116] : List UInt8)
def zpt (s : ByteArray) : Prop := s.toList = ([110, 111, 116] : List UInt8)
def zp8 (s : ByteArray) : Prop := s.toList = ([110, 101, 103] : List UInt8)
instance (s : ByteArray) : Decidable (isIn s) := by unfold isIn; infer_instance
instance (s : ByteArray) : Decidable (zg3 s) := by unfold zg3; infer_instance
instance (s : ByteArray) : Decidable (zpt s) := by unfold zpt; infer_instance
instance (s : ByteArray) : Decidable (zp8 s) := by unfold zp8; infer_instance
def kN (s : ByteArray) : Nat := if isIn s then 0 else if zg3 s then 1 else if zpt s ∨ zp8 s then 2 else if hasS bops s = true then 3 else 4
def znf (c : Nat) : Int := match c with | 0 => 0 | 1 => 0 | 2 => 1 | 3 => 2 | _ => -1
theorem yan (s : ByteArray) : kN s = 0 ∨ kN s = 1 ∨ kN s = 2 ∨ kN s = 3 ∨ kN s = 4 := by
  unfold kN
  split
  · simp
  split
  · simp
  split
  · simp
  split <;> simp
theorem zt6 (s : ByteArray) : Ev (fun k => zff k s) (znf (kN s)) := by
  unfold zff kN
  by_cases h1 : isIn s
  · rw [if_pos h1]
    refine zad h1 (Ev.step (fun k => by simp only [zcz]; rfl) (zad (show true = true from rfl) (Ev.now _)))
  rw [if_neg h1]
  refine zal h1 ?_
  by_cases h2 : zg3 s
  · rw [if_pos h2]
    exact Ev.step (fun k => by simp only [zcz]; rfl) (zad (beq_iff_eq.2 h2) (Ev.now _))
  rw [if_neg h2]
  refine Ev.step (fun k => by simp only [zcz]; rfl) (zal (fun e => h2 (beq_iff_eq.1 e)) ?_)
  by_cases h3 : zpt s
  · rw [if_pos (Or.inl h3)]
    exact zad h3 (Ev.step (fun k => by simp only [zc0]; rfl) (zad (show true = true from rfl) (Ev.now _)))
  refine zal h3 ?_
  by_cases h4 : zp8 s
  · rw [if_pos (Or.inr h4)]
    exact Ev.step (fun k => by simp only [zc0]; rfl) (zad (beq_iff_eq.2 h4) (Ev.now _))
  rw [if_neg (fun e => e.elim h3 h4)]
  refine Ev.step (fun k => by simp only [zc0]; rfl) (zal (fun e => h4 (beq_iff_eq.1 e)) ?_)
  refine Ev.call yam (Ev.bind (zn3 bops s (by decide)) ?_)
  by_cases h5 : hasS bops s = true
  · simp only [if_pos h5]
    exact Ev.now _
  · simp only [if_neg h5]
    exact Ev.now _
theorem zvy (s : ByteArray) : zi8 s = some (decide (zpt s ∨ zp8 s)) := by
  unfold zi8
  by_cases h3 : zpt s
  · rw [if_pos (show s.toList = _ from h3), decide_eq_true (Or.inl h3)]
  · rw [if_neg (show ¬ s.toList = _ from h3)]
    congr 1
    rw [Bool.eq_iff_iff, beq_iff_eq, decide_eq_true_eq]
    exact ⟨Or.inr, fun h => h.resolve_left h3⟩
theorem zto (s : ByteArray) : Ev (fun k => zhf k s) (hasS bops s) := by
  unfold zhf
  exact Ev.call yb6 (Ev.bind (zpr bops s (by decide)) (Ev.now _))
def zve (c : Nat) (a b : Int) : List Int := match c with | 2 => [a] | 3 => [a, b] | _ => []
theorem of_ev (x : Node) : Ev (fun k => zgp k x.f0 x.f1 x.f2 x.f3) (zve (kN x.f0) x.f1 x.f2) := by
  unfold zgp
  refine Ev.call rfl (Ev.bind (zt6 x.f0) (zjg ?_))
  rcases yan x.f0 with h | h | h | h | h <;> rw [h] <;> rfl
theorem zzn (x : Node) : Ev (fun k => zgw k x.f0 x.f1 x.f2 x.f3) (zve (kN x.f0) x.f1 x.f2) := by
  unfold zgw
  refine Ev.call (zvy _) ?_
  have d1 : ∀ s, isIn s → ¬ (zpt s ∨ zp8 s) := fun s h e => by unfold isIn at h; unfold zpt zp8 at e; rw [h] at e; revert e; decide
  have d2 : ∀ s, zg3 s → ¬ (zpt s ∨ zp8 s) := fun s h e => by unfold zg3 at h; unfold zpt zp8 at e; rw [h] at e; revert e; decide
  have d3 : ∀ s, isIn s → ¬ hasS bops s = true := fun s h => by rw [str_lit.1 h]; decide +kernel
  have d4 : ∀ s, zg3 s → ¬ hasS bops s = true := fun s h => by rw [str_lit.1 h]; decide +kernel
  unfold kN
  by_cases h1 : isIn x.f0
  · rw [if_pos h1]
    exact zal (by simpa using d1 _ h1) (Ev.bind (zto _) (zal (d3 _ h1) (Ev.now _)))
  rw [if_neg h1]
  by_cases h2 : zg3 x.f0
  · rw [if_pos h2]
    exact zal (by simpa using d2 _ h2) (Ev.bind (zto _) (zal (d4 _ h2) (Ev.now _)))
  rw [if_neg h2]
  by_cases h3 : zpt x.f0 ∨ zp8 x.f0
  · rw [if_pos h3]
    exact zad (by simpa using h3) (Ev.now _)
  rw [if_neg h3]
  refine zal (by simpa using h3) (Ev.bind (zto _) ?_)
  by_cases h5 : hasS bops x.f0 = true
  · simp only [if_pos h5]
    exact Ev.now _
  · simp only [if_neg h5]
    exact Ev.now _
def okNd (c : Nat) (a b m i : Int) : Bool := match c with
  | 0 => decide (a = 0 ∧ b = 0 ∧ 0 ≤ m ∧ m ≤ 1)
  | 1 => decide (a = 0 ∧ b = 0 ∧ 0 ≤ m ∧ m ≤ 63)
  | 2 => decide ((0 ≤ a ∧ a ≤ i - 1) ∧ b = 0 ∧ m = 0)
  | 3 => decide ((0 ≤ a ∧ a ≤ i - 1) ∧ (0 ≤ b ∧ b ≤ i - 1) ∧ m = 0)
  | _ => false
def okNx (x : Node) (i : Int) : Bool := okNd (kN x.f0) x.f1 x.f2 x.f3 i
theorem yao (x : Node) (i : Nat) (hi : i ≤ 1048576) : Ev (fun k => zhg k x.f0 x.f1 x.f2 x.f3 i) (okNx x i) := by
  obtain ⟨s, a, b, m⟩ := x
  simp only [okNx]
  unfold zhg kN
  have e1 : wrap64 ((i : Int) - 1) = (i : Int) - 1 := w64 (by omega) (by omega)
  by_cases h1 : isIn s
  · rw [if_pos h1]
    refine zad h1 (zjg ?_)
    simp only [zpp, Option.bind_some, okNd]
    by_cases q1 : a = 0 <;> by_cases q2 : b = 0 <;> simp [q1, q2]
  rw [if_neg h1]
  refine zal h1 ?_
  by_cases h2 : zg3 s
  · rw [if_pos h2]
    refine zad h2 (zjg ?_)
    simp only [zmf, zpp, Option.bind_some, okNd]
    by_cases q1 : a = 0 <;> by_cases q2 : b = 0 <;> simp [q1, q2]
  rw [if_neg h2]
  refine zal h2 (Ev.call (zvy _) ?_)
  rw [e1]
  by_cases h3 : zpt s ∨ zp8 s
  · rw [if_pos h3]
    refine zad (by simpa using h3) (zjg ?_)
    simp only [zpp, Option.bind_some, okNd]
    by_cases q1 : 0 ≤ a ∧ a ≤ (i : Int) - 1 <;> by_cases q2 : b = 0 <;> by_cases q3 : m = 0 <;> simp [q1, q2, q3]
  rw [if_neg h3]
  refine zal (by simpa using h3) (Ev.bind (zto _) ?_)
  by_cases h5 : hasS bops s = true
  · simp only [if_pos h5]
    refine zjg ?_
    simp only [zpp, Option.bind_some, okNd]
    by_cases q1 : 0 ≤ a ∧ a ≤ (i : Int) - 1 <;> by_cases q2 : 0 ≤ b ∧ b ≤ (i : Int) - 1 <;> by_cases q3 : m = 0 <;> simp [q1, q2, q3]
  · simp only [if_neg h5]
    exact Ev.now _
theorem yap (x : Node) (i : Nat) (hi : i ≤ 1048576) : Ev (fun k => zel k x.f0 x.f1 x.f2 x.f3 i) (okNx x i) := by
  obtain ⟨s, a, b, m⟩ := x
  simp only [okNx]
  unfold zel
  refine Ev.bind (zt6 s) (Ev.call rfl ?_)
  have e1 : wrap64 ((i : Int) - 1) = (i : Int) - 1 := w64 (by omega) (by omega)
  have r0 : rd [a, b] 0 = a := rfl
  have r1 : rd [a, b] 1 = b := rfl
  have fin : ∀ r : Bool, (isIn s → decide (0 ≤ m ∧ m ≤ 1) = r) → (zg3 s → decide (0 ≤ m ∧ m ≤ 63) = r) → (¬ isIn s → ¬ zg3 s → (if znf (kN s) > 0 then (m == 0) else false) = r) → Ev (fun k => zap k i (znf (kN s)) [a, b] 2 2 s a b m) r := by
    intro r f1 f2 f3
    refine Ev.step (fun k => by simp only [zap]; rfl) (zal (by decide) ?_)
    by_cases h1 : isIn s
    · refine zad h1 (zjg ?_)
      rw [zln, f1 h1]
      rfl
    refine zal h1 ?_
    by_cases h2 : zg3 s
    · refine zad h2 (zjg ?_)
      simp only [zh9, zln, Option.bind_some]
      rw [f2 h2]
    refine zal h2 (zjg ?_)
    rw [← f3 h1 h2]
    split <;> rfl
  have one : ∀ r : Bool, ((if 1 < znf (kN s) then decide (0 ≤ b ∧ b ≤ (i : Int) - 1) else decide (b = 0)) = false → r = false) → ((if 1 < znf (kN s) then decide (0 ≤ b ∧ b ≤ (i : Int) - 1) else decide (b = 0)) = true → Ev (fun k => zap k i (znf (kN s)) [a, b] 2 2 s a b m) r) → Ev (fun k => zap k i (znf (kN s)) [a, b] 2 1 s a b m) r := by
    intro r f1 f2
    refine Ev.step (fun k => by simp only [zap, r1, e1, zln, Option.bind_some, show wrap64 (1 + 1) = 2 from w64 (by decide) (by decide)]; rfl) (zad (by decide) (zad (by decide) (zad (by simp) ?_)))
    by_cases h : 1 < znf (kN s)
    · rw [if_pos h] at f1 f2
      refine zad h ?_
      by_cases q : 0 ≤ b ∧ b ≤ (i : Int) - 1
      · exact zad (by simpa using q) (zal (by omega) (f2 (by simpa using q)))
      · exact zal (by simpa using q) (Ev.some (f1 (by simpa using q)).symm)
    · rw [if_neg h] at f1 f2
      refine zal h (zad (by omega) ?_)
      by_cases q : b = 0
      · exact zad q (f2 (by simpa using q))
      · exact zal q (Ev.some (f1 (by simpa using q)).symm)
  have zero : ∀ r : Bool, ((if 0 < znf (kN s) then decide (0 ≤ a ∧ a ≤ (i : Int) - 1) else decide (a = 0)) = false → r = false) → ((if 0 < znf (kN s) then decide (0 ≤ a ∧ a ≤ (i : Int) - 1) else decide (a = 0)) = true → Ev (fun k => zap k i (znf (kN s)) [a, b] 2 1 s a b m) r) → Ev (fun k => zap k i (znf (kN s)) [a, b] 2 0 s a b m) r := by
    intro r f1 f2
    refine Ev.step (fun k => by simp only [zap, r0, e1, zln, Option.bind_some, show wrap64 (0 + 1) = 1 from w64 (by decide) (by decide)]; rfl) (zad (by decide) (zad (by decide) (zad (by simp) ?_)))
    by_cases h : 0 < znf (kN s)
    · rw [if_pos h] at f1 f2
      refine zad h ?_
      by_cases q : 0 ≤ a ∧ a ≤ (i : Int) - 1
      · exact zad (by simpa using q) (zal (by omega) (f2 (by simpa using q)))
      · exact zal (by simpa using q) (Ev.some (f1 (by simpa using q)).symm)
    · rw [if_neg h] at f1 f2
      refine zal h (zad (by omega) ?_)
      by_cases q : a = 0
      · exact zad q (f2 (by simpa using q))
      · exact zal q (Ev.some (f1 (by simpa using q)).symm)
  show Ev (fun k => zap k i (znf (kN s)) [a, b] 2 0 s a b m) _
  have hin : isIn s ↔ kN s = 0 := by
    unfold kN
    by_cases h : isIn s
    · simp [h]
    · simp only [h, if_false, false_iff]
      repeat' split
      all_goals decide
  have hco : ¬ isIn s → (zg3 s ↔ kN s = 1) := fun h0 => by
    unfold kN
    by_cases h : zg3 s
    · simp [h, h0]
    · simp only [h, h0, if_false, false_iff]
      repeat' split
      all_goals decide
  have hdis : zg3 s → ¬ isIn s := fun h e => by unfold zg3 at h; unfold isIn at e; rw [h] at e; revert e; decide
  refine zero _ (fun q => ?_) (fun q0 => one _ (fun q => ?_) (fun q1 => fin _ (fun h => ?_) (fun h => ?_) (fun h h' => ?_)))
  · rcases yan s with c | c | c | c | c <;> rw [c] at q ⊢ <;> simp [znf, okNd] at q ⊢ <;> omega
  · rcases yan s with c | c | c | c | c <;> rw [c] at q ⊢ <;> simp [znf, okNd] at q ⊢ <;> omega
  · have c := hin.1 h
    rw [c] at q0 q1 ⊢
    simp [znf] at q0 q1
    simp [okNd, q0, q1]
  · have c := (hco (hdis h)).1 h
    rw [c] at q0 q1 ⊢
    simp [znf] at q0 q1
    simp [okNd, q0, q1]
  · rcases yan s with c | c | c | c | c
    · exact absurd (hin.2 c) h
    · exact absurd ((hco h).2 c) h'
    · rw [c] at q0 q1 ⊢
      simp [znf] at q0 q1
      simp [okNd, znf, q0, q1]
      rw [Bool.eq_iff_iff]
      simp
    · rw [c] at q0 q1 ⊢
      simp [znf] at q0 q1
      simp [okNd, znf, q0, q1]
      rw [Bool.eq_iff_iff]
      simp
    · rw [c]
      simp [okNd, znf]
def okNs : Nat → List Node → Bool
  | _, [] => true
  | i, x :: xs => okNx x i && okNs (i + 1) xs
theorem zpy : ∀ (xs : List Node) (i j : Nat) (h : j < xs.length), okNs i xs = true → okNx xs[j] ((i + j : Nat) : Int) = true
  | [], _, _, h, _ => absurd h (by simp)
  | x :: xs, i, 0, _, ho => by
    simp only [okNs, Bool.and_eq_true] at ho
    exact ho.1
  | x :: xs, i, j + 1, h, ho => by
    simp only [okNs, Bool.and_eq_true] at ho
    have := zpy xs (i + 1) j (by simpa using h) ho.2
    rw [show i + 1 + j = i + (j + 1) by omega] at this
    exact this
def incr (u : List Int) (p : Int) : List Int := u.set p.toNat (wrap64 (rd u p + 1))
def yaq (u : List Int) (x : Node) : List Int := (zve (kN x.f0) x.f1 x.f2).foldl incr u
def zvz (l : List Node) : List Int := l.foldl yaq (List.replicate l.length 0)
theorem zyv (u : List Int) (p : Int) : (incr u p).length = u.length := List.length_set
theorem zof (ps : List Int) : ∀ u, (ps.foldl incr u).length = u.length := by
  induction ps with
  | nil => exact fun u => rfl
  | cons p ps ih => exact fun u => (ih _).trans (zyv u p)
theorem yar (u : List Int) (x : Node) : (yaq u x).length = u.length := zof _ u
theorem zt7 (l : List Node) : ∀ u, (l.foldl yaq u).length = u.length := by
  induction l with
  | nil => exact fun u => rfl
  | cons x l ih => exact fun u => (ih _).trans (yar u x)
theorem zrq (l : List Node) : (zvz l).length = l.length := by
  unfold zvz
  rw [zt7, List.length_replicate]
theorem zyw {x : Node} {i : Int} (h : okNx x i = true) : (zve (kN x.f0) x.f1 x.f2).length ≤ 2 ∧ ∀ p ∈ zve (kN x.f0) x.f1 x.f2, 0 ≤ p ∧ p ≤ i - 1 := by
  unfold okNx at h
  rcases yan x.f0 with c | c | c | c | c <;> rw [c] at h ⊢ <;> simp [okNd] at h <;> simp [zve] <;> omega
theorem zwv (L0 : Nat → List Int → Int → Option (List Int)) (L1 : Nat → List Int → Int → List Int → Int → Int → Option (List Int)) (i : Nat) (n : Nat) (r : List Int)
    (h0 : ∀ k u ps j, L1 (k + 1) u i ps (ps.length : Nat) (j : Nat) = if (j : Int) < (ps.length : Nat) then (if (0 : Int) ≤ (j : Nat) then (if ((j : Nat) : Int) < (ps.length : Nat) then (if 0 ≤ rd ps (j : Nat) then (if rd ps (j : Nat) < (u.length : Int) then L1 k (u.set (rd ps (j : Nat) : Int).toNat (wrap64 (rd u (rd ps (j : Nat)) + 1))) i ps (ps.length : Nat) (wrap64 ((j : Nat) + 1)) else none) else none) else none) else none) else L0 k u (wrap64 ((i : Nat) + 1)))
    (ps : List Int) (hps : ps.length ≤ 2) (hp : ∀ p ∈ ps, 0 ≤ p ∧ p < n) (u : List Int) (hu : u.length = n) (hi : i ≤ 1048576) (H : Ev (fun k => L0 k (ps.foldl incr u) ((i + 1 : Nat) : Int)) r) : Ev (fun k => L1 k u i ps ps.length 0) r := by
  have key : ∀ (d j : Nat) (u : List Int), u.length = n → j + d = ps.length → Ev (fun k => L0 k ((ps.drop j).foldl incr u) ((i + 1 : Nat) : Int)) r → Ev (fun k => L1 k u i ps ps.length (j : Nat)) r := by
    intro d
    induction d with
    | zero =>
      intro j u hu hj H
      refine Ev.step (fun k => h0 k u ps j) (zal (by omega) ?_)
      rw [w64n i (by omega)]
      rw [List.drop_of_length_le (by omega)] at H
      exact H
    | succ d ih =>
      intro j u hu hj H
      have hlt : j < ps.length := by omega
      have e : ps.drop j = ps[j] :: ps.drop (j + 1) := List.drop_eq_getElem_cons hlt
      have hx := zlm (zcu ps j hlt)
      have hb := hp ps[j] (List.getElem_mem hlt)
      refine Ev.step (fun k => h0 k u ps j) (zad (by omega) (zad (by omega) (zad (by omega) (zad (by rw [hx]; exact hb.1) (zad (by rw [hx]; omega) ?_)))))
      rw [hx, w64n j (by omega)]
      rw [e] at H
      exact ih (j + 1) (incr u ps[j]) (by rw [zyv]; exact hu) (by omega) H
  exact key ps.length 0 u hu (by omega) H
theorem ydp (l : List Node) (h : okNs 0 l = true) (hl : l.length ≤ 1000) : Ev (fun k => zi6 k l) (zvz l) := by
  unfold zi6
  refine zad (by omega) (zad (by simp; omega) ?_)
  have key : ∀ (d i : Nat) (u : List Int), u.length = l.length → i + d = l.length → Ev (fun k => ze9 k u l l.length i) ((l.drop i).foldl yaq u) := by
    intro d
    induction d with
    | zero =>
      intro i u hu hi
      refine Ev.step (f := fun _ => some u) (fun k => ?_) (Ev.some ?_)
      · simp only [ze9]
        rw [if_neg (by omega)]
      · rw [List.drop_of_length_le (by omega)]
        rfl
    | succ d ih =>
      intro i u hu hi
      have hlt : i < l.length := by omega
      have e : l.drop i = l[i] :: l.drop (i + 1) := List.drop_eq_getElem_cons hlt
      have hx := zvd (zcu l i hlt)
      have ok := zpy l 0 i hlt h
      rw [Nat.zero_add] at ok
      obtain ⟨p1, p2⟩ := zyw ok
      rw [e]
      refine Ev.step (fun k => by simp only [ze9, hx]; rfl) (zad (by omega) (zad (by omega) (zad (by omega) (Ev.bind (of_ev l[i]) ?_))))
      exact zwv (fun k u j => ze9 k u l l.length j) (fun k u i ps n j => zf0 k u l l.length i ps n j) i l.length _ (fun k u ps j => by simp only [zf0]) _ p1 (fun p hp => by have := p2 p hp; omega) u hu (by omega) (ih (i + 1) _ (by rw [zof]; exact hu) (by omega))
  simpa [zvz] using key l.length 0 (List.replicate l.length 0) (by simp) (by omega)
theorem yas (l : List Node) (h : okNs 0 l = true) (hl : l.length ≤ 1000) : Ev (fun k => zhh k l) (zvz l) := by
  unfold zhh
  refine zad (by omega) (zad (by simp; omega) ?_)
  have key : ∀ (d i : Nat) (u : List Int), u.length = l.length → i + d = l.length → Ev (fun k => zdx k u l l.length i) ((l.drop i).foldl yaq u) := by
    intro d
    induction d with
    | zero =>
      intro i u hu hi
      refine Ev.step (f := fun _ => some u) (fun k => ?_) (Ev.some ?_)
      · simp only [zdx]
        rw [if_neg (by omega)]
      · rw [List.drop_of_length_le (by omega)]
        rfl
    | succ d ih =>
      intro i u hu hi
      have hlt : i < l.length := by omega
      have e : l.drop i = l[i] :: l.drop (i + 1) := List.drop_eq_getElem_cons hlt
      have hx := zvd (zcu l i hlt)
      have ok := zpy l 0 i hlt h
      rw [Nat.zero_add] at ok
      obtain ⟨p1, p2⟩ := zyw ok
      rw [e]
      refine Ev.step (fun k => by simp only [zdx, hx]; rfl) (zad (by omega) (zad (by omega) (zad (by omega) (Ev.bind (zzn l[i]) ?_))))
      exact zwv (fun k u j => zdx k u l l.length j) (fun k u i ps n j => zev k u l l.length i ps n j) i l.length _ (fun k u ps j => by simp only [zev]) _ p1 (fun p hp => by have := p2 p hp; omega) u hu (by omega) (ih (i + 1) _ (by rw [zof]; exact hu) (by omega))
  simpa [zvz] using key l.length 0 (List.replicate l.length 0) (by simp) (by omega)
def zqb (l : List Node) : Bool := decide (1 ≤ l.length ∧ l.length ≤ 24) && (okNs 0 l && !decide ((0 : Int) ∈ (zvz l).take (l.length - 1)))
theorem yat (l : List Node) : Ev (fun k => zg9 k l) (zqb l) := by
  unfold zg9 zqb
  refine Ev.call (zln _ _ _) ?_
  by_cases hl : 1 ≤ l.length ∧ l.length ≤ 24
  · rw [decide_eq_true hl, Bool.true_and]
    refine zad (by simp; omega) ?_
    have key : ∀ (d i : Nat), i + d = l.length → (okNs 0 l = true → okNs i (l.drop i) = true) → (okNs 0 l = false → okNs i (l.drop i) = false) → Ev (fun k => zeb k l l l.length i) (okNs 0 l && !decide ((0 : Int) ∈ (zvz l).take (l.length - 1))) := by
      intro d
      induction d with
      | zero =>
        intro i hi _ hf
        have ok : okNs 0 l = true := by
          cases h : okNs 0 l
          · have := hf h
            rw [List.drop_of_length_le (by omega)] at this
            cases this
          · rfl
        rw [ok, Bool.true_and]
        refine Ev.step (fun k => by simp only [zeb]; rfl) (zal (by omega) (Ev.bind (ydp l ok (by omega)) ?_))
        have e1 : wrap64 ((l.length : Int) - 1) = ((l.length - 1 : Nat) : Int) := by rw [w64 (by omega) (by omega)]; omega
        rw [e1]
        refine zad (by omega) (zad (by rw [zrq]; omega) ?_)
        rw [Int.toNat_natCast]
        exact Ev.bind (zps _ 0 (by rw [List.length_take, zrq]; omega)) (Ev.now _)
      | succ d ih =>
        intro i hi ht hf
        have hlt : i < l.length := by omega
        have e : l.drop i = l[i] :: l.drop (i + 1) := List.drop_eq_getElem_cons hlt
        have hx := zvd (zcu l i hlt)
        rw [e] at ht hf
        simp only [okNs] at ht hf
        refine Ev.step (fun k => by simp only [zeb, hx]; rfl) (zad (by omega) (zad (by omega) (zad (by omega) (Ev.bind (yap l[i] i (by omega)) ?_))))
        cases h : okNx l[i] i
        · refine zal (by decide) (Ev.some ?_)
          rw [h] at ht
          cases h0 : okNs 0 l
          · rfl
          · exact absurd (ht h0) (by simp)
        · rw [h] at ht hf
          refine zad rfl ?_
          rw [w64n i (by omega)]
          exact ih (i + 1) (by omega) (by simpa using ht) (by simpa using hf)
    simpa using key l.length 0 (by omega) (fun h => h) (fun h => h)
  · rw [decide_eq_false hl, Bool.false_and]
    exact zal (by simp; omega) (Ev.now _)
theorem yau (l : List Node) : Ev (fun k => zhi k l) (zqb l) := by
  unfold zhi zqb
  refine Ev.call (zpp _ _ _) ?_
  by_cases hl : 1 ≤ l.length ∧ l.length ≤ 24
  · rw [decide_eq_true hl, Bool.true_and]
    refine zad (by simp; omega) ?_
    have key : ∀ (d i : Nat), i + d = l.length → (okNs 0 l = true → okNs i (l.drop i) = true) → (okNs 0 l = false → okNs i (l.drop i) = false) → Ev (fun k => zeh k l l l.length i) (okNs 0 l && !decide ((0 : Int) ∈ (zvz l).take (l.length - 1))) := by
      intro d
      induction d with
      | zero =>
        intro i hi _ hf
        have ok : okNs 0 l = true := by
          cases h : okNs 0 l
          · have := hf h
            rw [List.drop_of_length_le (by omega)] at this
            cases this
          · rfl
        rw [ok, Bool.true_and]
        refine Ev.step (fun k => by simp only [zeh]; rfl) (zal (by omega) (Ev.bind (yas l ok (by omega)) ?_))
        have e1 : wrap64 ((l.length : Int) - 1) = ((l.length - 1 : Nat) : Int) := by rw [w64 (by omega) (by omega)]; omega
        rw [e1]
        refine zad (by omega) (zad (by rw [zrq]; omega) ?_)
        rw [Int.toNat_natCast]
        exact Ev.bind (zvx _ 0 (by rw [List.length_take, zrq]; omega)) (Ev.now _)
      | succ d ih =>
        intro i hi ht hf
        have hlt : i < l.length := by omega
        have e : l.drop i = l[i] :: l.drop (i + 1) := List.drop_eq_getElem_cons hlt
        have hx := zvd (zcu l i hlt)
        rw [e] at ht hf
        simp only [okNs] at ht hf
        refine Ev.step (fun k => by simp only [zeh, hx]; rfl) (zad (by omega) (zad (by omega) (zad (by omega) (Ev.bind (yao l[i] i (by omega)) ?_))))
        cases h : okNx l[i] i
        · refine zal (by decide) (Ev.some ?_)
          rw [h] at ht
          cases h0 : okNs 0 l
          · rfl
          · exact absurd (ht h0) (by simp)
        · rw [h] at ht hf
          refine zad rfl ?_
          rw [w64n i (by omega)]
          exact ih (i + 1) (by omega) (by simpa using ht) (by simpa using hf)
    simpa using key l.length 0 (by omega) (fun h => h) (fun h => h)
  · rw [decide_eq_false hl, Bool.false_and]
    exact zal (by simp; omega) (Ev.now _)
theorem zww {l : List Node} (h : zqb l = true) : (1 ≤ l.length ∧ l.length ≤ 24) ∧ okNs 0 l = true := by
  unfold zqb at h
  simp only [Bool.and_eq_true, decide_eq_true_eq] at h
  exact ⟨h.1, h.2.1⟩
theorem zv0 (c : List Int) (a b : Int) (hc : c.length ≤ 1048576) : Ev (fun k => zhj k c a b) (c.all (fun n => decide (a ≤ n ∧ n ≤ b))) := by
  unfold zhj
  refine yfg c _ (fun k i => zek k a b c c.length i) ?_ (fun i x hi hx hp => ?_) (fun i x r hi hx hp hr => ?_)
  · refine Ev.step (f := fun _ => some true) (fun k => ?_) (Ev.now _)
    simp only [zek]
    rw [if_neg (by omega)]
  · refine Ev.step (f := fun _ => some false) (fun k => ?_) (Ev.now _)
    simp only [zek, zlm hx, zpp, Option.bind_some, hp]
    rw [if_pos (by omega), if_pos (by omega), if_pos (by omega), if_neg (by simp)]
  · refine Ev.step (fun k => ?_) hr
    simp only [zek, zlm hx, zpp, Option.bind_some, hp]
    rw [if_pos (by omega), if_pos (by omega), if_pos (by omega), if_pos trivial, w64n i (by omega)]
theorem zrr (n : Nat) (Q : Nat → Bool) (fin : Bool) (L : Nat → Int → Option Bool) (hend : Ev (fun k => L k (n : Nat)) fin)
    (hno : ∀ i : Nat, i < n → Q i = false → Ev (fun k => L k (i : Nat)) false) (hyes : ∀ (i : Nat) r, i < n → Q i = true → Ev (fun k => L k ((i + 1 : Nat) : Int)) r → Ev (fun k => L k (i : Nat)) r) : Ev (fun k => L k 0) ((List.range n).all Q && fin) := by
  have key : ∀ (d i : Nat), i + d = n → Ev (fun k => L k (i : Nat)) ((List.range' i d).all Q && fin) := by
    intro d
    induction d with
    | zero =>
      intro i hi
      have e : i = n := by omega
      subst e
      simpa using hend
    | succ d ih =>
      intro i hi
      rw [List.range'_succ, List.all_cons]
      cases h : Q i
      · simpa using hno i (by omega) h
      · simpa using hyes i _ (by omega) h (ih (i + 1) (by omega))
  rw [List.range_eq_range']
  exact key n 0 (by omega)
theorem yb7 {α : Type} (xs : List α) (p : α → Bool) (fin : Bool) (L : Nat → Int → Option Bool) (hend : Ev (fun k => L k (xs.length : Nat)) fin)
    (hno : ∀ (i : Nat) x, i < xs.length → (∀ d, xs.getD i d = x) → p x = false → Ev (fun k => L k i) false)
    (hyes : ∀ (i : Nat) x r, i < xs.length → (∀ d, xs.getD i d = x) → p x = true → Ev (fun k => L k ((i + 1 : Nat) : Int)) r → Ev (fun k => L k i) r) : Ev (fun k => L k 0) (xs.all p && fin) := by
  refine zll (σ := Unit) xs (fun k _ i => L k i) (fun l _ => l.all p && fin) (fun _ => by simpa using hend) (fun i _ x rest hi hx ih => ?_) ()
  cases h : p x
  · exact zjh (hno i x hi hx h) (by simp [h])
  · exact hyes i x _ hi hx h (zjh (ih ()) (by simp [h]))
theorem zn4 {α β : Type} (xs : List α) (g : α → List β) (N : Nat) (L : Nat → List β → Int → Option (List β)) (T : List β)
    (hend : ∀ s, (s ++ T).length ≤ N → Ev (fun k => L k s (xs.length : Nat)) (s ++ T))
    (hstep : ∀ (i : Nat) s x U, i < xs.length → (∀ d, xs.getD i d = x) → (s ++ (g x ++ U)).length ≤ N → (∀ s', (s' ++ U).length ≤ N → Ev (fun k => L k s' ((i + 1 : Nat) : Int)) (s' ++ U)) → Ev (fun k => L k s (i : Nat)) (s ++ (g x ++ U)))
    (s : List β) (hs : (s ++ (xs.flatMap g ++ T)).length ≤ N) : Ev (fun k => L k s 0) (s ++ (xs.flatMap g ++ T)) := by
  have key : ∀ (d i : Nat), i + d = xs.length → ∀ s, (s ++ ((xs.drop i).flatMap g ++ T)).length ≤ N → Ev (fun k => L k s (i : Nat)) (s ++ ((xs.drop i).flatMap g ++ T)) := by
    intro d
    induction d with
    | zero =>
      intro i hi s hs
      have e : i = xs.length := by omega
      subst e
      rw [List.drop_of_length_le (Nat.le_refl _), List.flatMap_nil, List.nil_append] at hs ⊢
      exact hend s hs
    | succ d ih =>
      intro i hi s hs
      have hlt : i < xs.length := by omega
      have e : xs.drop i = xs[i] :: xs.drop (i + 1) := List.drop_eq_getElem_cons hlt
      rw [e, List.flatMap_cons, List.append_assoc] at hs ⊢
      exact hstep i s xs[i] _ hlt (zcu xs i hlt) hs (ih (i + 1) (by omega))
  have := key xs.length 0 (by omega) s (by simpa using hs)
  simpa using this
def immC (c : Nat) : Bool := match c with | 0 => true | 5 => true | 6 => true | 7 => true | _ => false
def imm7 : List ByteArray := [⟨#[115, 101, 116]⟩, ⟨#[97, 100, 100, 105]⟩, ⟨#[97, 110, 100, 105]⟩, ⟨#[120, 111, 114, 105]⟩, ⟨#[115, 104, 108, 105]⟩, ⟨#[115, 104, 114, 105]⟩, ⟨#[108, 101, 97]⟩]
theorem zzo : ∀ p ∈ ops, hasS imm7 p.1 = immC p.2 := by decide +kernel
theorem yb8 : ∀ t ∈ imm7, (ops.any fun p => decide (t = p.1)) = true := by decide +kernel
theorem yfh (s : ByteArray) : hasS imm7 s = immC (cls s) := by
  refine ztm (P := fun s => hasS imm7 s = immC (cls s)) s (fun p hp => by rw [zzo p hp, zz9 p hp]) (fun h => ?_)
  rw [ztn h, Bool.eq_iff_iff, zyu]
  constructor
  · intro hm
    have := yb8 s hm
    rw [List.any_eq_true] at this
    obtain ⟨p, hp, he⟩ := this
    exact absurd (of_decide_eq_true he) (h p hp)
  · intro h
    cases h
theorem zv1 (s : ByteArray) : Ev (fun k => zhd k s) (immC (cls s)) := by
  unfold zhd
  rw [← yfh]
  exact Ev.bind (zpr imm7 s (by decide)) (Ev.now _)
def inB (c : Nat) (m : Int) : Bool := decide ((zgy c).2.2.2.1 ≤ m ∧ m ≤ (zgy c).2.2.2.2)
def inW (m : Int) : Bool := decide (0 ≤ m ∧ m ≤ 63)
theorem ydq (c : Nat) (s : ByteArray) (h : c ≤ 8) : (zgz c s).1 = (zgy c).2.1 := by
  rcases (show c = 0 ∨ c = 1 ∨ c = 2 ∨ c = 3 ∨ c = 4 ∨ c = 5 ∨ c = 6 ∨ c = 7 ∨ c = 8 by omega) with h | h | h | h | h | h | h | h | h <;> subst h <;> rfl
theorem ydr (c : Nat) (s : ByteArray) (h : c ≤ 8) : (zgz c s).2.1 = (zgy c).2.2.1 := by
  rcases (show c = 0 ∨ c = 1 ∨ c = 2 ∨ c = 3 ∨ c = 4 ∨ c = 5 ∨ c = 6 ∨ c = 7 ∨ c = 8 by omega) with h | h | h | h | h | h | h | h | h <;> subst h <;> rfl
theorem yds (c : Nat) (s : ByteArray) (h : c ≤ 8) : (zgz c s).2.2.2.2.2.2 = decide (c ≠ 8) := by
  rcases (show c = 0 ∨ c = 1 ∨ c = 2 ∨ c = 3 ∨ c = 4 ∨ c = 5 ∨ c = 6 ∨ c = 7 ∨ c = 8 by omega) with h | h | h | h | h | h | h | h | h <;> subst h <;> rfl
theorem zyx (c : Nat) (h : c ≤ 8) : (zgy c).1 = decide (c ≠ 8) := by
  rcases (show c = 0 ∨ c = 1 ∨ c = 2 ∨ c = 3 ∨ c = 4 ∨ c = 5 ∨ c = 6 ∨ c = 7 ∨ c = 8 by omega) with h | h | h | h | h | h | h | h | h <;> subst h <;> rfl
theorem zv2 (c : Nat) (s : ByteArray) (h : c ≤ 8) (h8 : c ≠ 8) : decide ((zgz c s).2.2.1 ≤ (zgz c s).2.2.2.1) = immC c := by
  rcases (show c = 0 ∨ c = 1 ∨ c = 2 ∨ c = 3 ∨ c = 4 ∨ c = 5 ∨ c = 6 ∨ c = 7 ∨ c = 8 by omega) with h | h | h | h | h | h | h | h | h <;> subst h <;> first | rfl | exact absurd rfl h8
theorem yav (c : Nat) (s : ByteArray) (h : c ≤ 8) (h8 : immC c = true) (m : Int) : decide ((zgz c s).2.2.1 ≤ m ∧ m ≤ (zgz c s).2.2.2.1) = inB c m := by
  rcases (show c = 0 ∨ c = 1 ∨ c = 2 ∨ c = 3 ∨ c = 4 ∨ c = 5 ∨ c = 6 ∨ c = 7 ∨ c = 8 by omega) with h | h | h | h | h | h | h | h | h <;> subst h <;> first | rfl | cases h8
def okOp (ims : List Int) (s : ByteArray) : Bool := decide (cls s ≠ 8) && (!immC (cls s) || ims.all (inB (cls s)))
def difS (l : List ByteArray) : Bool := (List.range l.length).all fun i => !hasS (l.take i) (l.getD i ByteArray.empty)
def difI (l : List Int) : Bool := (List.range l.length).all fun i => !decide (l.getD i 0 ∈ l.take i)
def zg2 (os : List ByteArray) (ims : List Int) : Bool := decide (1 ≤ os.length ∧ os.length ≤ 4) && (decide (ims.length ≤ 2) && (ims.all inW && (difS os && (difI ims && (List.range os.length).all fun i => okOp ims (os.getD i ByteArray.empty)))))
theorem ydt (l : List ByteArray) (hl : l.length ≤ 1048576) : Ev (fun k => zb4 k l) (difS l) := by
  unfold zb4 difS
  refine zjh (zrr l.length _ true (fun k i => zaq k l l l.length i) ?_ (fun i hi hq => ?_) (fun i r hi hq hr => ?_)) (Bool.and_true _)
  · refine Ev.step (f := fun _ => some true) (fun k => ?_) (Ev.now _)
    simp only [zaq]
    rw [if_neg (by omega)]
  · refine Ev.step (fun k => by simp only [zaq, zlw (d0 := ByteArray.empty) (fun d => (zcu l i hi d).trans (zcu l i hi ByteArray.empty).symm), Int.toNat_natCast]; rfl) (zad (by omega) (zad (by omega) (zad (by omega) (zad (by omega) ?_))))
    exact Ev.bind (zn3 _ _ (by rw [List.length_take]; omega)) (zad (by simpa using hq) (Ev.now _))
  · refine Ev.step (fun k => by simp only [zaq, zlw (d0 := ByteArray.empty) (fun d => (zcu l i hi d).trans (zcu l i hi ByteArray.empty).symm), Int.toNat_natCast]; rfl) (zad (by omega) (zad (by omega) (zad (by omega) (zad (by omega) ?_))))
    refine Ev.bind (zn3 _ _ (by rw [List.length_take]; omega)) (zal (by simpa using hq) ?_)
    rw [w64n i (by omega)]
    exact hr
theorem ydu (l : List Int) (hl : l.length ≤ 1048576) : Ev (fun k => zcr k l) (difI l) := by
  unfold zcr difI
  refine zjh (zrr l.length _ true (fun k i => za1 k l l l.length i) ?_ (fun i hi hq => ?_) (fun i r hi hq hr => ?_)) (Bool.and_true _)
  · refine Ev.step (f := fun _ => some true) (fun k => ?_) (Ev.now _)
    simp only [za1]
    rw [if_neg (by omega)]
  · refine Ev.step (fun k => by simp only [za1, zlm (fun d => (zcu l i hi d).trans (zcu l i hi 0).symm), Int.toNat_natCast]; rfl) (zad (by omega) (zad (by omega) (zad (by omega) (zad (by omega) ?_))))
    exact Ev.bind (zps _ _ (by rw [List.length_take]; omega)) (zad (by simpa using hq) (Ev.now _))
  · refine Ev.step (fun k => by simp only [za1, zlm (fun d => (zcu l i hi d).trans (zcu l i hi 0).symm), Int.toNat_natCast]; rfl) (zad (by omega) (zad (by omega) (zad (by omega) (zad (by omega) ?_))))
    refine Ev.bind (zps _ _ (by rw [List.length_take]; omega)) (zal (by simpa using hq) ?_)
    rw [w64n i (by omega)]
    exact hr
def opI (ims : List Int) (s : ByteArray) : Bool := decide (cls s ≠ 8) && ims.all fun m => inW m && (!immC (cls s) || inB (cls s) m)
theorem zxz (os : List ByteArray) (ims : List Int) (ho : os.length ≤ 4) (hi : ims.length ≤ 1048576) : Ev (fun k => zcf k os os.length 0 os ims) ((List.range os.length).all fun i => opI ims (os.getD i ByteArray.empty)) := by
  have inner : ∀ (i : Nat) (s : ByteArray) r, i < os.length → cls s ≠ 8 → Ev (fun k => zcf k os os.length ((i + 1 : Nat) : Int) os ims) r → Ev (fun k => zb1 k os os.length i ims ims.length 0 os ims (zgz (cls s) s).1 (zgz (cls s) s).2.1 (zgz (cls s) s).2.2.1 (zgz (cls s) s).2.2.2.1 (zgz (cls s) s).2.2.2.2.1 (zgz (cls s) s).2.2.2.2.2.1) ((ims.all fun m => inW m && (!immC (cls s) || inB (cls s) m)) && r) := by
    intro i s r hlt h8 hr
    have hc := zvc s
    refine yb7 ims _ r (fun k j => zb1 k os os.length i ims ims.length j os ims (zgz (cls s) s).1 (zgz (cls s) s).2.1 (zgz (cls s) s).2.2.1 (zgz (cls s) s).2.2.2.1 (zgz (cls s) s).2.2.2.2.1 (zgz (cls s) s).2.2.2.2.2.1) ?_ (fun j x hj hx hp => ?_) (fun j x r' hj hx hp hr' => ?_)
    · refine Ev.step (fun k => ?_) hr
      simp only [zb1]
      rw [if_neg (by omega), w64n i (by omega)]
    · refine Ev.step (fun k => by simp only [zb1, zlm hx, zh9, zln, zg0, Option.bind_some, zv2 _ s hc h8]; rfl) (zad (by omega) (zad (by omega) (zad (by omega) ?_)))
      by_cases q : 0 ≤ x ∧ x ≤ 63
      · refine zad (by simpa using q) ?_
        cases hm : immC (cls s)
        · simp [inW, hm, q] at hp
        · refine zad rfl (zal ?_ (Ev.now _))
          rw [yav _ s hc hm]
          simpa [inW, hm, q] using hp
      · exact zal (by simpa using q) (Ev.now _)
    · refine Ev.step (fun k => by simp only [zb1, zlm hx, zh9, zln, zg0, Option.bind_some, zv2 _ s hc h8]; rfl) (zad (by omega) (zad (by omega) (zad (by omega) ?_)))
      simp only [Bool.and_eq_true] at hp
      refine zad hp.1 ?_
      rw [w64n j (by omega)]
      cases hm : immC (cls s)
      · exact zal (by simp) hr'
      · refine zad rfl (zad ?_ hr')
        rw [yav _ s hc hm]
        simpa [hm] using hp.2
  have main : ∀ (d i : Nat), i + d = os.length → Ev (fun k => zcf k os os.length (i : Nat) os ims) ((List.range' i d).all fun i => opI ims (os.getD i ByteArray.empty)) := by
    intro d
    induction d with
    | zero =>
      intro i hi
      refine Ev.step (f := fun _ => some true) (fun k => ?_) (Ev.some rfl)
      simp only [zcf]
      rw [if_neg (by omega)]
    | succ d ih =>
      intro i hi
      have hlt : i < os.length := by omega
      have hx : rdOf ByteArray.empty os i = os.getD i ByteArray.empty := zlw (fun d => (zcu os i hlt d).trans (zcu os i hlt ByteArray.empty).symm)
      rw [List.range'_succ, List.all_cons]
      obtain ⟨s, es⟩ : ∃ s, s = os.getD i ByteArray.empty := ⟨_, rfl⟩
      rw [← es] at hx ⊢
      refine Ev.step (fun k => by simp only [zcf, hx, zws, Option.bind_some, yds _ _ (zvc _)]; rfl) (zad (by omega) (zad (by omega) (zad (by omega) ?_)))
      by_cases h8 : cls s = 8
      · refine zal (by simpa using h8) (Ev.some ?_)
        rw [show opI ims s = false by simp [opI, h8]]
        rfl
      · refine zad (by simpa using h8) (zjh (inner i _ _ hlt h8 (ih (i + 1) (by omega))) ?_)
        rw [show opI ims s = ims.all fun m => inW m && (!immC (cls s) || inB (cls s) m) by simp [opI, h8]]
  rw [List.range_eq_range']
  exact main os.length 0 (by omega)
theorem yaw (os : List ByteArray) (ims : List Int) (ho : 1 ≤ os.length) : ((List.range os.length).all fun i => opI ims (os.getD i ByteArray.empty)) = (ims.all inW && (List.range os.length).all fun i => okOp ims (os.getD i ByteArray.empty)) := by
  rw [Bool.eq_iff_iff]
  simp only [Bool.and_eq_true, List.all_eq_true, List.mem_range, opI, okOp, Bool.or_eq_true, Bool.not_eq_true']
  constructor
  · exact fun h => ⟨fun m hm => ((h 0 ho).2 m hm).1, fun i hi => ⟨(h i hi).1, by
      cases hc : immC (cls (os.getD i ByteArray.empty))
      · exact Or.inl rfl
      · refine Or.inr fun m hm => ?_
        have := ((h i hi).2 m hm).2
        rw [hc] at this
        exact this.resolve_left (by simp)⟩⟩
  · exact fun h i hi => ⟨(h.2 i hi).1, fun m hm => ⟨h.1 m hm, (h.2 i hi).2.imp id (fun g => g m hm)⟩⟩
theorem zx0 (os : List ByteArray) (ims : List Int) (ho : os.length ≤ 1048576) (hi : ims.length ≤ 1048576) : Ev (fun k => zfz k os ims) (zg2 os ims) := by
  unfold zfz zg2
  refine Ev.call (zln _ _ _) ?_
  by_cases h1 : 1 ≤ os.length ∧ os.length ≤ 4
  · rw [decide_eq_true h1, Bool.true_and]
    refine zad (by simp; omega) ?_
    by_cases h2 : ims.length ≤ 2
    · rw [decide_eq_true h2, Bool.true_and]
      refine zal (by omega) (Ev.bind (ydt os ho) ?_)
      cases hd : difS os
      · refine zal (by decide) (Ev.step (fun k => by simp only [zbw]; rfl) (zad (show true = true from rfl) (Ev.some ?_)))
        simp
      · refine zad rfl (Ev.bind (ydu ims hi) ?_)
        cases hd2 : difI ims
        · refine Ev.step (fun k => by simp only [zbw]; rfl) (zad (by decide) (Ev.some ?_))
          simp
        · refine Ev.step (fun k => by simp only [zbw]; rfl) (zal (by decide) ?_)
          refine zjh (zxz os ims h1.2 hi) ?_
          rw [yaw os ims h1.1, Bool.true_and, Bool.true_and]
    · rw [decide_eq_false h2, Bool.false_and]
      refine zad (by omega) (Ev.step (fun k => by simp only [zbw]; rfl) (zad (show true = true from rfl) (Ev.now _)))
  · rw [decide_eq_false h1, Bool.false_and]
    exact zal (by simp; omega) (Ev.step (fun k => by simp only [zbw]; rfl) (zad (show true = true from rfl) (Ev.now _)))
theorem yax (os : List ByteArray) (ims : List Int) (ho : os.length ≤ 1048576) (hi : ims.length ≤ 1048576) : Ev (fun k => zhk k os ims) (zg2 os ims) := by
  unfold zhk zg2
  refine Ev.call (zpp _ _ _) ?_
  by_cases h1 : 1 ≤ os.length ∧ os.length ≤ 4
  · rw [decide_eq_true h1, Bool.true_and]
    refine zad (by simp; omega) ?_
    by_cases h2 : ims.length ≤ 2
    · rw [decide_eq_true h2, Bool.true_and]
      refine zal (by omega) (Ev.bind (zv0 ims 0 63 hi) ?_)
      cases hw : ims.all (fun n => decide (0 ≤ n ∧ n ≤ 63))
      · rw [show ims.all inW = false from hw]
        exact Ev.step (fun k => by simp only [zdh]; rfl) (zad (by decide) (Ev.now _))
      · rw [show ims.all inW = true from hw, Bool.true_and]
        refine Ev.step (fun k => by simp only [zdh]; rfl) (zal (by decide) ?_)
        have last : Ev (fun k => zdj k ims ims.length 0 os ims) (difI ims) := by
          unfold difI
          refine zjh (zrr ims.length _ true (fun k i => zdj k ims ims.length i os ims) ?_ (fun i hi hq => ?_) (fun i r hi hq hr => ?_)) (Bool.and_true _)
          · refine Ev.step (f := fun _ => some true) (fun k => ?_) (Ev.now _)
            simp only [zdj]
            rw [if_neg (by omega)]
          · refine Ev.step (fun k => by simp only [zdj, zlm (fun d => (zcu ims i hi d).trans (zcu ims i hi 0).symm), Int.toNat_natCast]; rfl) (zad (by omega) (zad (by omega) (zad (by omega) (zad (by omega) ?_))))
            exact Ev.bind (zvx _ _ (by rw [List.length_take]; omega)) (zad (by simpa using hq) (Ev.now _))
          · refine Ev.step (fun k => by simp only [zdj, zlm (fun d => (zcu ims i hi d).trans (zcu ims i hi 0).symm), Int.toNat_natCast]; rfl) (zad (by omega) (zad (by omega) (zad (by omega) (zad (by omega) ?_))))
            refine Ev.bind (zvx _ _ (by rw [List.length_take]; omega)) (zal (by simpa using hq) ?_)
            rw [w64n i (by omega)]
            exact hr
        have first := zrr os.length (fun i => okOp ims (os.getD i ByteArray.empty) && !hasS (os.take i) (os.getD i ByteArray.empty)) (difI ims) (fun k i => zdi k os os.length i os ims) (by
          refine Ev.step (fun k => ?_) last
          simp only [zdi]
          rw [if_neg (by omega)]) (fun i hlt hq => by
          have hx : rdOf ByteArray.empty os i = os.getD i ByteArray.empty := zlw (fun d => (zcu os i hlt d).trans (zcu os i hlt ByteArray.empty).symm)
          obtain ⟨s, es⟩ : ∃ s, s = os.getD i ByteArray.empty := ⟨_, rfl⟩
          rw [← es] at hx hq
          refine Ev.step (fun k => by simp only [zdi, hx, Int.toNat_natCast]; rfl) (zad (by omega) (zad (by omega) (zad (by omega) (Ev.bind (zvw _) ?_))))
          rw [zyx _ (zvc _)]
          by_cases h8 : cls s = 8
          · exact zal (by simpa using h8) (Ev.now _)
          refine zad (by simpa using h8) (zad (by omega) (Ev.bind (zpr _ _ (by rw [List.length_take]; omega)) ?_))
          cases hh : hasS (os.take i) s
          · refine zal (by decide) (Ev.bind (zv1 _) ?_)
            rw [hh] at hq
            cases hm : immC (cls s)
            · simp [okOp, h8, hm] at hq
            · refine zad rfl (Ev.bind (zv0 ims _ _ hi) (zal ?_ (Ev.now _)))
              simpa [okOp, h8, hm, inB] using hq
          · exact zad rfl (Ev.now _)) (fun i r hlt hq hr => by
          have hx : rdOf ByteArray.empty os i = os.getD i ByteArray.empty := zlw (fun d => (zcu os i hlt d).trans (zcu os i hlt ByteArray.empty).symm)
          obtain ⟨s, es⟩ : ∃ s, s = os.getD i ByteArray.empty := ⟨_, rfl⟩
          rw [← es] at hx hq
          simp only [okOp, Bool.and_eq_true, decide_eq_true_eq, Bool.not_eq_true', Bool.or_eq_true] at hq
          refine Ev.step (fun k => by simp only [zdi, hx, Int.toNat_natCast]; rfl) (zad (by omega) (zad (by omega) (zad (by omega) (Ev.bind (zvw _) ?_))))
          rw [zyx _ (zvc _)]
          refine zad (by simpa using hq.1.1) (zad (by omega) (Ev.bind (zpr _ _ (by rw [List.length_take]; omega)) ?_))
          refine zal (by simp [hq.2]) (Ev.bind (zv1 _) ?_)
          rw [w64n i (by omega)]
          cases hm : immC (cls s)
          · exact zal (by decide) hr
          · have := hq.1.2.resolve_left (by simp [hm])
            exact zad rfl (Ev.bind (zv0 ims _ _ hi) (zad this hr)))
        refine zjh first ?_
        rw [Bool.eq_iff_iff]
        simp only [difS, Bool.and_eq_true, List.all_eq_true, List.mem_range]
        exact ⟨fun h => ⟨fun i hi => (h.1 i hi).2, h.2, fun i hi => (h.1 i hi).1⟩, fun h => ⟨fun i hi => ⟨h.2.2 i hi, h.1 i hi⟩, h.2.1⟩⟩
    · rw [decide_eq_false h2, Bool.false_and]
      refine zad (by omega) (Ev.step (fun k => by simp only [zdh]; rfl) (zad (show true = true from rfl) (Ev.now _)))
  · rw [decide_eq_false h1, Bool.false_and]
    exact zal (by simp; omega) (Ev.step (fun k => by simp only [zdh]; rfl) (zad (show true = true from rfl) (Ev.now _)))
theorem zo4 {α β : Type} (xs : List α) (g : α → List β) (c : Nat) (h : ∀ x ∈ xs, (g x).length ≤ c) : (xs.flatMap g).length ≤ xs.length * c := by
  induction xs with
  | nil => simp
  | cons x xs ih =>
    rw [List.flatMap_cons, List.length_append, List.length_cons]
    have a := h x (by simp)
    have b := ih (fun y hy => h y (List.mem_cons_of_mem _ hy))
    rw [Nat.succ_mul]
    omega
def zpv (u : Bool) (n : Nat) : List Int := if u = true then zkv n 0 else [0]
def imsM (c : Nat) (ims : List Int) : List Int := if immC c = true then ims else [0]
def zog (ims : List Int) (t : Nat) (s : ByteArray) : List Instr := (zpv (zgy (cls s)).2.1 (2 + t)).flatMap fun a => (zpv (zgy (cls s)).2.2.1 (2 + t)).flatMap fun b => (imsM (cls s) ims).flatMap fun m => [⟨s, ((2 + t : Nat) : Int), a, b, m⟩]
def zdd (os : List ByteArray) (ims : List Int) (t : Nat) : List Instr := os.flatMap (zog ims t)
theorem zow (u : Bool) (n : Nat) (h : 1 ≤ n) : (zpv u n).length ≤ n := by
  unfold zpv
  split
  · rw [zva]; exact Nat.le_refl _
  · simpa using h
theorem zx1 (ims : List Int) (t : Nat) (s : ByteArray) (h : ims.length ≤ 2) (ht : t ≤ 3) : (zog ims t s).length ≤ 50 := by
  have hi : (imsM (cls s) ims).length ≤ 2 := by
    unfold imsM
    split
    · exact h
    · simp
  have a := zow (zgy (cls s)).2.1 (2 + t) (by omega)
  have b := zow (zgy (cls s)).2.2.1 (2 + t) (by omega)
  have e1 : ∀ x y : Int, ((imsM (cls s) ims).flatMap fun m => [(⟨s, ((2 + t : Nat) : Int), x, y, m⟩ : Instr)]).length ≤ 2 := fun x y => by
    have := zo4 (imsM (cls s) ims) (fun m => [(⟨s, ((2 + t : Nat) : Int), x, y, m⟩ : Instr)]) 1 (by simp)
    omega
  have e2 : ∀ x : Int, ((zpv (zgy (cls s)).2.2.1 (2 + t)).flatMap fun y => (imsM (cls s) ims).flatMap fun m => [(⟨s, ((2 + t : Nat) : Int), x, y, m⟩ : Instr)]).length ≤ 10 := fun x => by
    have := zo4 (zpv (zgy (cls s)).2.2.1 (2 + t)) (fun y => (imsM (cls s) ims).flatMap fun m => [(⟨s, ((2 + t : Nat) : Int), x, y, m⟩ : Instr)]) 2 (fun y _ => e1 x y)
    omega
  have := zo4 (zpv (zgy (cls s)).2.1 (2 + t)) _ 10 (fun x _ => e2 x)
  unfold zog
  omega
theorem zsv (os : List ByteArray) (ims : List Int) (t : Nat) (ho : os.length ≤ 4) (h : ims.length ≤ 2) (ht : t ≤ 3) : (zdd os ims t).length ≤ 200 := by
  have := zo4 os (zog ims t) 50 (fun s _ => zx1 ims t s h ht)
  unfold zdd
  omega
theorem yay (u : Bool) (n : Nat) (hn : n ≤ 1048576) : Ev (fun k => zh8 k u (n : Int)) (zpv u n) := by
  have key : ∀ (d : Nat) (xs : List Int) (b : Nat), xs.length + d ≤ 1048576 → b + d = n → Ev (fun k => zfj k xs n b) (xs ++ zkv d b) := by
    intro d
    induction d with
    | zero =>
      intro xs b h h'
      refine Ev.step (f := fun _ => some xs) (fun k => ?_) (Ev.some (by simp [zkv]))
      simp only [zfj]
      rw [if_neg (by omega)]
    | succ d ih =>
      intro xs b h h'
      refine Ev.step (fun k => ?_) (zjh (ih (xs ++ [(b : Int)]) (b + 1) (by simp; omega) (by omega)) (by simp [zkv]))
      simp only [zfj]
      rw [if_pos (by omega), if_pos (by omega), w64n _ (by omega)]
  unfold zh8 zpv
  cases u
  · exact zal (by decide) (Ev.now _)
  · exact zad rfl (by simpa using key n [] 0 (by simpa using hn) (by omega))
theorem zwx (u : Bool) (t : Nat) (ht : t ≤ 1000) : Ev (fun k => zgn k u (t : Int)) (zpv u (2 + t)) := by
  have e2 : wrap64 (2 + (t : Int)) = ((2 + t : Nat) : Int) := by rw [w64 (by omega) (by omega)]; omega
  unfold zgn zpv
  cases u
  · refine Ev.step (f := fun _ => some [0]) (fun k => ?_) (Ev.now _)
    simp only [zdw]
    rw [if_neg (by decide)]
  have key : ∀ (d : Nat) (xs : List Int) (b : Nat), xs.length + d ≤ 1048576 → b + d = 2 + t → Ev (fun k => zdw k true (t : Int) xs b) (xs ++ zkv d b) := by
    intro d
    induction d with
    | zero =>
      intro xs b h h'
      refine Ev.step (f := fun _ => some xs) (fun k => ?_) (Ev.some (by simp [zkv]))
      simp only [zdw, e2]
      rw [if_pos trivial, if_neg (by omega)]
    | succ d ih =>
      intro xs b h h'
      refine Ev.step (fun k => ?_) (zjh (ih (xs ++ [(b : Int)]) (b + 1) (by simp; omega) (by omega)) (by simp [zkv]))
      simp only [zdw, e2]
      rw [if_pos trivial, if_pos (by omega), if_pos (by omega), w64n _ (by omega)]
  have := key (1 + t) [0] 1 (by simp; omega) (by omega)
  refine zjh this ?_
  rw [if_pos rfl, show 2 + t = (1 + t) + 1 by omega]
  rfl
theorem yaz (os : List ByteArray) (ims : List Int) (s : ByteArray) : Ev (fun k => zhe k os ims s) (imsM (cls s) ims) := by
  unfold zhe imsM
  refine Ev.bind (zv1 s) ?_
  cases immC (cls s)
  · exact zal (by decide) (Ev.now _)
  · exact zad rfl (Ev.now _)
theorem yb9 (os : List ByteArray) (ims : List Int) (t : Nat) (ho : os.length ≤ 4) (hi : ims.length ≤ 2) (ht : t ≤ 3) (hc : ∀ s ∈ os, cls s ≠ 8) : Ev (fun k => zg6 k os ims t) (zdd os ims t) := by
  have e2 : wrap64 (2 + (t : Int)) = ((2 + t : Nat) : Int) := by rw [w64 (by omega) (by omega)]; omega
  unfold zg6 zdd
  have hb := zsv os ims t ho hi ht
  unfold zdd at hb
  refine zjh (zn4 os (zog ims t) 200 (fun k x i => zew k t x os os.length i os ims) [] (fun s hs => ?_) (fun i x5 s U hio hx hN H => ?_) [] (by simpa using hb)) (by simp)
  · refine Ev.step (f := fun _ => some s) (fun k => ?_) (Ev.some (by simp))
    simp only [zew]
    rw [if_neg (by omega)]
  have hcl := zvc s
  have h8 := hc s (zxy hio hx)
  refine Ev.step (fun k => by simp only [zew, zlw (d0 := ByteArray.empty) hx, zws, zg0, Option.bind_some, zv2 _ s hcl h8]; rfl) (zad (by omega) (zad (by omega) (zad (by omega) ?_)))
  have body : Ev (fun k => zfe k t x5 s (imsM (cls s) ims) os os.length i os ims (zgz (cls s) s).1 (zgz (cls s) s).2.1 (zgz (cls s) s).2.2.1 (zgz (cls s) s).2.2.2.1 (zgz (cls s) s).2.2.2.2.1 (zgz (cls s) s).2.2.2.2.2.1) (x5 ++ (zog ims t s ++ U)) := by
    have r1 := yay (zgz (cls s) s).1 (2 + t) (by omega)
    have r2 := yay (zgz (cls s) s).2.1 (2 + t) (by omega)
    have l1 := zow (zgz (cls s) s).1 (2 + t) (by omega)
    have l2 := zow (zgz (cls s) s).2.1 (2 + t) (by omega)
    have l3 : (imsM (cls s) ims).length ≤ 2 := by
      unfold imsM
      split
      · exact hi
      · simp
    unfold zog at hN ⊢
    rw [← ydq _ s hcl, ← ydr _ s hcl] at hN ⊢
    refine Ev.step (fun k => by simp only [zfe, e2]; rfl) (Ev.bind r1 ?_)
    generalize imsM (cls s) ims = M at *
    generalize zpv (zgz (cls s) s).1 (2 + t) = A at *
    generalize zpv (zgz (cls s) s).2.1 (2 + t) = B at *
    generalize (zgz (cls s) s) = F at *
    refine zn4 A _ 200 (fun k x j => zex k t x s M os os.length i A A.length j os ims F.1 F.2.1 F.2.2.1 F.2.2.2.1 F.2.2.2.2.1 F.2.2.2.2.2.1) U (fun x hs => ?_) (fun j x5 a U' hj hxa hN' H' => ?_) x5 hN
    · refine Ev.step (fun k => ?_) (H x hs)
      simp only [zex]
      rw [if_neg (by omega), w64n i (by omega)]
    refine Ev.step (fun k => by simp only [zex, zlm hxa, e2]; rfl) (zad (by omega) (zad (by omega) (zad (by omega) (Ev.bind r2 ?_))))
    refine zn4 B _ 200 (fun k x q => zey k t x s M a os os.length i A A.length j B B.length q os ims F.1 F.2.1 F.2.2.1 F.2.2.2.1 F.2.2.2.2.1 F.2.2.2.2.2.1) U' (fun x hs => ?_) (fun q x5 b U2 hq hxb hN2 H2 => ?_) x5 hN'
    · refine Ev.step (fun k => ?_) (H' x hs)
      simp only [zey]
      rw [if_neg (by omega), w64n j (by omega)]
    refine Ev.step (fun k => by simp only [zey, zlm hxb]; rfl) (zad (by omega) (zad (by omega) (zad (by omega) ?_)))
    refine zn4 M _ 200 (fun k x p => zez k t x s M a b os os.length i A A.length j B B.length q M M.length p os ims F.1 F.2.1 F.2.2.1 F.2.2.2.1 F.2.2.2.2.1 F.2.2.2.2.2.1) U2 (fun x hs => ?_) (fun p x5 m U3 hp hxm hN3 H3 => ?_) x5 hN2
    · refine Ev.step (fun k => ?_) (H2 x hs)
      simp only [zez]
      rw [if_neg (by omega), w64n q (by omega)]
    have hlen : x5.length < 2932031007402 := by
      rw [List.length_append] at hN3
      omega
    have := H3 (x5 ++ [⟨s, ((2 + t : Nat) : Int), a, b, m⟩]) (by rw [List.append_assoc]; exact hN3)
    rw [List.append_assoc] at this
    refine Ev.step (fun k => ?_) this
    simp only [zez, zlm hxm, e2]
    rw [if_pos (by omega), if_pos (by omega), if_pos (by omega), if_pos hlen, w64n p (by omega)]
  unfold imsM at body
  cases h : immC (cls s)
  · rw [h] at body
    exact zal (by decide) (by simpa using body)
  · rw [h] at body
    exact zad rfl (by simpa using body)
theorem zvf (os : List ByteArray) (ims : List Int) (t : Nat) (ho : os.length ≤ 4) (hi : ims.length ≤ 2) (ht : t ≤ 3) : Ev (fun k => zfx k os ims t) (zdd os ims t) := by
  have e2 : wrap64 (2 + (t : Int)) = ((2 + t : Nat) : Int) := by rw [w64 (by omega) (by omega)]; omega
  unfold zfx zdd
  have hb := zsv os ims t ho hi ht
  unfold zdd at hb
  refine zjh (zn4 os (zog ims t) 200 (fun k x i => zdo k t x os os.length i os ims) [] (fun s hs => ?_) (fun i x5 s U hio hx hN H => ?_) [] (by simpa using hb)) (by simp)
  · refine Ev.step (f := fun _ => some s) (fun k => ?_) (Ev.some (by simp))
    simp only [zdo]
    rw [if_neg (by omega)]
  refine Ev.step (fun k => by simp only [zdo, zlw (d0 := ByteArray.empty) hx]; rfl) (zad (by omega) (zad (by omega) (zad (by omega) (Ev.bind (zvw s) ?_))))
  have r1 := zwx (zgy (cls s)).2.1 t (by omega)
  have r2 := zwx (zgy (cls s)).2.2.1 t (by omega)
  have r3 := yaz os ims s
  have l1 := zow (zgy (cls s)).2.1 (2 + t) (by omega)
  have l2 := zow (zgy (cls s)).2.2.1 (2 + t) (by omega)
  have l3 : (imsM (cls s) ims).length ≤ 2 := by
    unfold imsM
    split
    · exact hi
    · simp
  unfold zog at hN ⊢
  refine Ev.bind r1 ?_
  generalize imsM (cls s) ims = M at *
  generalize zpv (zgy (cls s)).2.1 (2 + t) = A at *
  generalize zpv (zgy (cls s)).2.2.1 (2 + t) = B at *
  generalize (zgy (cls s)).2.2.1 = F at *
  refine zn4 A _ 200 (fun k x j => zdp k t x s F os os.length i A A.length j os ims) U (fun x hs => ?_) (fun j x5 a U' hj hxa hN' H' => ?_) x5 hN
  · refine Ev.step (fun k => ?_) (H x hs)
    simp only [zdp]
    rw [if_neg (by omega), w64n i (by omega)]
  refine Ev.step (fun k => by simp only [zdp, zlm hxa]; rfl) (zad (by omega) (zad (by omega) (zad (by omega) (Ev.bind r2 ?_))))
  refine zn4 B _ 200 (fun k x q => zdq k t x s F a os os.length i A A.length j B B.length q os ims) U' (fun x hs => ?_) (fun q x5 b U2 hq hxb hN2 H2 => ?_) x5 hN'
  · refine Ev.step (fun k => ?_) (H' x hs)
    simp only [zdq]
    rw [if_neg (by omega), w64n j (by omega)]
  refine Ev.step (fun k => by simp only [zdq, zlm hxb]; rfl) (zad (by omega) (zad (by omega) (zad (by omega) (Ev.bind r3 ?_))))
  refine zn4 M _ 200 (fun k x p => zdr k t x s F a b os os.length i A A.length j B B.length q M M.length p os ims) U2 (fun x hs => ?_) (fun p x5 m U3 hp hxm hN3 H3 => ?_) x5 hN2
  · refine Ev.step (fun k => ?_) (H2 x hs)
    simp only [zdr]
    rw [if_neg (by omega), w64n q (by omega)]
  have hlen : x5.length < 2932031007402 := by
    rw [List.length_append] at hN3
    omega
  have := H3 (x5 ++ [⟨s, ((2 + t : Nat) : Int), a, b, m⟩]) (by rw [List.append_assoc]; exact hN3)
  rw [List.append_assoc] at this
  refine Ev.step (fun k => ?_) this
  simp only [zdr, zlm hxm, e2]
  rw [if_pos (by omega), if_pos (by omega), if_pos (by omega), if_pos hlen, w64n p (by omega)]
theorem zo5 {os : List ByteArray} {ims : List Int} (h : zg2 os ims = true) : os.length ≤ 4 ∧ ims.length ≤ 2 ∧ ∀ s ∈ os, cls s ≠ 8 := by
  unfold zg2 at h
  simp only [Bool.and_eq_true, decide_eq_true_eq, List.all_eq_true (l := List.range os.length), List.mem_range, okOp] at h
  refine ⟨h.1.2, h.2.1, fun s hs => ?_⟩
  obtain ⟨i, hi, rfl⟩ := List.getElem_of_mem hs
  have := (h.2.2.2.2.2 i hi).1
  rw [zcu os i hi] at this
  exact this
theorem zv3 (l : List Instr) (i : Nat) (h : i < l.length) : zac l i = l.getD i z69 := ycy (fun d => (zcu l i h d).trans (zcu l i h _).symm)
theorem yca (n : Int) : bits .and .i64 n 63 = n % 64 := by
  have h63 : (BitVec.ofInt 64 63).toNat = 2 ^ 6 - 1 := by decide
  have key : (BitVec.ofInt 64 n &&& BitVec.ofInt 64 63).toNat = (n % ((2 ^ 64 : Nat) : Int)).toNat % 2 ^ 6 := by
    rw [BitVec.toNat_and, BitVec.toNat_ofInt, h63, Nat.and_two_pow_sub_one_eq_mod]
  show IntKind.i64.wrap ((BitVec.ofInt 64 n &&& BitVec.ofInt 64 63).toNat : Nat) = n % 64
  rw [key, IntKind.wrap_i64]
  omega
def okV (v : Int) : Prop := 0 ≤ v ∧ v ≤ 63
theorem ydv (n : Int) : okV (bits .and .i64 n 63) := by
  rw [yca]
  unfold okV
  omega
theorem yfi (b : Bool) : zol b = some (if b = true then 1 else 0) := by
  cases b <;> rfl
theorem zrs (s : ByteArray) (a b : Int) : zg7 s a b = za4 s a b := by
  unfold zg7 za4
  simp only [yfi, Option.bind_some]
  repeat refine ite_congr rfl (fun _ => rfl) (fun _ => ?_)
  refine ite_congr rfl (fun _ => ?_) (fun _ => ite_congr rfl (fun _ => ?_) (fun _ => rfl))
  · by_cases h : a < b
    · rw [if_pos h, if_pos (by simpa using h)]
    · rw [if_neg h, if_neg (by simpa using h)]
  · by_cases h : a = b
    · rw [if_pos h, if_pos (by simpa using h)]
    · rw [if_neg h, if_neg (by simpa using h)]
theorem yfj {c : Prop} [Decidable c] {x y : Option Int} {P : Int → Prop} (hx : ∃ v, x = some v ∧ P v) (hy : ∃ v, y = some v ∧ P v) : ∃ v, (if c then x else y) = some v ∧ P v := by
  by_cases h : c
  · rw [if_pos h]; exact hx
  · rw [if_neg h]; exact hy
theorem zox (s : ByteArray) (a b : Int) (hb : 0 ≤ b) : ∃ v, za4 s a b = some v ∧ okV v := by
  unfold za4
  rw [if_pos hb, if_pos hb]
  repeat' refine yfj ?_ ?_
  all_goals exact ⟨_, rfl, ydv _⟩
def okS (s : List Int) : Prop := s.length = 6 ∧ ∀ v ∈ s, okV v
theorem zyy {s : List Int} (h : okS s) {i : Int} (h0 : 0 ≤ i) (h1 : i ≤ 5) : okV (rd s i) := by
  have hi : i.toNat < s.length := by rw [h.1]; omega
  unfold rd
  rw [zcu s _ hi]
  exact h.2 _ (List.getElem_mem hi)
theorem ydw {s : List Int} (h : okS s) (i : Nat) {v : Int} (hv : okV v) : okS (s.set i v) := by
  refine ⟨by rw [List.length_set]; exact h.1, fun u hu => ?_⟩
  rcases List.mem_or_eq_of_mem_set hu with hu | rfl
  · exact h.2 u hu
  · exact hv
theorem zv4 {x : Instr} (h : okI x) : 0 ≤ x.f1 ∧ x.f1 ≤ 5 ∧ 0 ≤ x.f2 ∧ x.f2 ≤ 5 ∧ 0 ≤ x.f3 ∧ x.f3 ≤ 5 ∧ 0 ≤ x.f4 ∧ x.f4 ≤ 63 := by
  obtain ⟨hc, h1, h2, h3, h4⟩ := h
  rcases yak x.f0 with e | e | e | e | e | e | e | e | e <;> simp only [e, zgy] at h2 h3 h4 <;> simp at h2 h3 h4 <;> first | omega | exact absurd e hc
theorem ycb (x : Instr) (s : List Int) (h : okI x) (hs : okS s) : ∃ v, zgu x.f0 x.f1 x.f2 x.f3 x.f4 s = some v ∧ okV v := by
  obtain ⟨h1, h1', h2, h2', h3, h3', h4, h4'⟩ := zv4 h
  have hl := hs.1
  have ha := zyy hs h2 h2'
  have hb := zyy hs h3 h3'
  unfold zgu
  rw [if_pos h2, if_pos (by omega), if_pos h3, if_pos (by omega)]
  have one : ∀ t a b, 0 ≤ b → ∃ v, ((za4 t a b).bind fun v => some v) = some v ∧ okV v := fun t a b hb => by
    obtain ⟨v, e, hv⟩ := zox t a b hb
    exact ⟨v, by rw [e]; rfl, hv⟩
  by_cases qset : x.f0.toList = ([115, 101, 116] : List UInt8)
  · rw [if_pos qset]
    exact ⟨_, rfl, h4, h4'⟩
  rw [if_neg qset]
  by_cases qmov : x.f0.toList = ([109, 111, 118] : List UInt8)
  · rw [if_pos qmov]
    exact ⟨_, rfl, ha⟩
  rw [if_neg qmov]
  by_cases qaddi : x.f0.toList = ([97, 100, 100, 105] : List UInt8)
  · rw [if_pos qaddi]
    exact one _ _ _ h4
  rw [if_neg qaddi]
  by_cases qandi : x.f0.toList = ([97, 110, 100, 105] : List UInt8)
  · rw [if_pos qandi]
    exact one _ _ _ h4
  rw [if_neg qandi]
  by_cases qxori : x.f0.toList = ([120, 111, 114, 105] : List UInt8)
  · rw [if_pos qxori]
    exact one _ _ _ h4
  rw [if_neg qxori]
  by_cases qshli : x.f0.toList = ([115, 104, 108, 105] : List UInt8)
  · rw [if_pos qshli]
    exact one _ _ _ h4
  rw [if_neg qshli]
  by_cases qshri : x.f0.toList = ([115, 104, 114, 105] : List UInt8)
  · rw [if_pos qshri]
    exact one _ _ _ h4
  rw [if_neg qshri]
  by_cases qlea : x.f0.toList = ([108, 101, 97] : List UInt8)
  · rw [if_pos qlea]
    obtain ⟨v, e, hv⟩ := zox (⟨#[115, 104, 108]⟩ : ByteArray) (rd s x.f3) x.f4 h4
    obtain ⟨v', e', hv'⟩ := zox (⟨#[97, 100, 100]⟩ : ByteArray) (rd s x.f2) v hv.1
    exact ⟨v', by rw [e, Option.bind_some, e']; rfl, hv'⟩
  rw [if_neg qlea]
  exact one _ _ _ hb.1
def valM (x : Instr) (s : List Int) : Int := (zgu x.f0 x.f1 x.f2 x.f3 x.f4 s).getD 0
def zzp (s : List Int) (x : Instr) : List Int := s.set x.f1.toNat (valM x s)
theorem zv5 (x : Instr) (s : List Int) (h : okI x) (hs : okS s) : zgu x.f0 x.f1 x.f2 x.f3 x.f4 s = some (valM x s) ∧ okV (valM x s) := by
  obtain ⟨v, e, hv⟩ := ycb x s h hs
  unfold valM
  rw [e]
  exact ⟨rfl, hv⟩
theorem zyz (x : Instr) (s : List Int) (h : okI x) (hs : okS s) : okS (zzp s x) := ydw hs _ (zv5 x s h hs).2
theorem cut3 {s : ByteArray} {a b c d : UInt8} (h : s.toList = [a, b, c, d]) : (3 : Int) ≤ (s.size : Int) ∧ s.extract 0 3 = ⟨#[a, b, c]⟩ := by
  have e : s = ⟨#[a, b, c, d]⟩ := str_lit.1 h
  rw [e]
  exact ⟨by show (3 : Int) ≤ ((4 : Nat) : Int); decide, rfl⟩
theorem ydx (x : Instr) (s : List Int) (h : okI x) (hs : okS s) : Ev (fun k => ze8 k x.f0 x.f1 x.f2 x.f3 x.f4 (rd s x.f2) (rd s x.f3)) (valM x s) := by
  obtain ⟨h1, h1', h2, h2', h3, h3', h4, h4'⟩ := zv4 h
  have hl := hs.1
  have e := (zv5 x s h hs).1
  generalize valM x s = v at e
  unfold zgu at e
  rw [if_pos h2, if_pos (by omega), if_pos h3, if_pos (by omega)] at e
  have bs : ∀ (o : Option Int) r, (o.bind fun v => some v) = some r → o = some r := fun o r h => by
    cases o with
    | none => cases h
    | some y => exact h
  unfold ze8
  by_cases q1 : x.f0.toList = [115, 101, 116]
  · rw [if_pos q1] at e
    exact zad q1 (zjg e)
  refine zal q1 ?_
  rw [if_neg q1] at e
  by_cases q2 : x.f0.toList = [109, 111, 118]
  · rw [if_pos q2] at e
    exact zad q2 (zjg e)
  refine zal q2 ?_
  rw [if_neg q2] at e
  by_cases q3 : x.f0.toList = [108, 101, 97]
  · refine zad q3 (zjg ?_)
    rw [if_neg (by rw [q3]; decide), if_neg (by rw [q3]; decide), if_neg (by rw [q3]; decide), if_neg (by rw [q3]; decide), if_neg (by rw [q3]; decide), if_pos q3] at e
    simp only [zrs]
    exact e
  refine zal q3 ?_
  have imm : ∀ a b c d : UInt8, x.f0.toList = [a, b, c, d] → za4 ⟨#[a, b, c]⟩ (rd s x.f2) x.f4 = some v → Ev (fun k => zbk k (rd s x.f2) (rd s x.f3) (x.f0.toList == ([a, b, c, d] : List UInt8)) x.f0 x.f1 x.f2 x.f3 x.f4) v := fun a b c d q hv => by
    obtain ⟨hc, hc'⟩ := cut3 q
    refine Ev.step (fun k => by simp only [zbk]; rfl) (zad (by rw [q]; simp) (zad (by decide) (zad hc (zjg ?_))))
    rw [zrs, hc', hv]
    rfl
  by_cases q4 : x.f0.toList = [97, 100, 100, 105]
  · rw [if_pos q4] at e
    exact zad q4 (imm _ _ _ _ q4 (bs _ _ e))
  refine zal q4 ?_
  rw [if_neg q4] at e
  by_cases q5 : x.f0.toList = [97, 110, 100, 105]
  · rw [if_pos q5] at e
    exact zad q5 (imm _ _ _ _ q5 (bs _ _ e))
  refine zal q5 ?_
  rw [if_neg q5] at e
  by_cases q6 : x.f0.toList = [120, 111, 114, 105]
  · rw [if_pos q6] at e
    exact zad q6 (imm _ _ _ _ q6 (bs _ _ e))
  refine zal q6 ?_
  rw [if_neg q6] at e
  by_cases q7 : x.f0.toList = [115, 104, 108, 105]
  · rw [if_pos q7] at e
    exact zad q7 (imm _ _ _ _ q7 (bs _ _ e))
  refine zal q7 ?_
  rw [if_neg q7] at e
  by_cases q8 : x.f0.toList = [115, 104, 114, 105]
  · rw [if_pos q8] at e
    exact imm _ _ _ _ q8 (bs _ _ e)
  rw [if_neg q8, if_neg q3] at e
  refine Ev.step (fun k => by simp only [zbk]; rfl) (zal (by simpa using q8) (zjg ?_))
  rw [zrs, bs _ _ e]
  rfl
def runM (l : List Instr) (s : List Int) : List Int := l.foldl zzp s
theorem zv6 (l : List Instr) (h : ∀ x ∈ l, okI x) : ∀ s, okS s → okS (runM l s) := by
  induction l with
  | nil => exact fun s hs => hs
  | cons x l ih => exact fun s hs => ih (fun y hy => h y (List.mem_cons_of_mem _ hy)) _ (zyz x s (h x (List.mem_cons_self)) hs)
theorem yc0 (l : List Int) (h : l.length ≤ 1048576) : zj1 l = some l := by
  unfold zj1
  rw [Option.bind_some, if_pos (by simp; omega)]
  rfl
theorem ya0 (x : Instr) (s : List Int) (h : okI x) (hs : okS s) : zkf x.f0 x.f1 x.f2 x.f3 x.f4 s = some (zzp s x) := by
  obtain ⟨h1, h1', h2, h2', h3, h3', h4, h4'⟩ := zv4 h
  have hq := hs.1
  unfold zkf
  rw [yc0 s (by omega), Option.bind_some, (zv5 x s h hs).1, Option.bind_some, if_pos h1, if_pos (by omega)]
  rfl
theorem zv7 (l : List Instr) (hl : l.length ≤ 40) (h : ∀ x ∈ l, okI x) (s : List Int) (hs : okS s) : Ev (fun k => zgv k l s) (runM l s) := by
  unfold zgv
  refine Ev.call (yc0 s (by rw [hs.1]; decide)) ?_
  have key : ∀ (d i : Nat) (s : List Int), okS s → i + d = l.length → Ev (fun k => ze3 k s l l.length i) (runM (l.drop i) s) := by
    intro d
    induction d with
    | zero =>
      intro i s hs hi
      refine Ev.step (f := fun _ => some s) (fun k => ?_) (Ev.some ?_)
      · simp only [ze3]
        rw [if_neg (by omega)]
      · rw [List.drop_of_length_le (by omega)]
        rfl
    | succ d ih =>
      intro i s hs hi
      have hlt : i < l.length := by omega
      have e : l.drop i = l[i] :: l.drop (i + 1) := List.drop_eq_getElem_cons hlt
      have hx := ycy (zcu l i hlt)
      have ok := h l[i] (List.getElem_mem hlt)
      rw [e]
      refine Ev.step (fun k => ?_) (ih (i + 1) _ (zyz _ s ok hs) (by omega))
      simp only [ze3, hx]
      rw [if_pos (by omega), if_pos (by omega), if_pos (by omega), ya0 _ s ok hs, Option.bind_some, w64n i (by omega)]
  simpa using key l.length 0 s hs (by omega)
def st0 (a b : Int) : List Int := [a, b, 0, 0, 0, 0]
theorem zy0 {a b : Int} (ha : okV a) (hb : okV b) : okS (st0 a b) := by
  refine ⟨rfl, fun v hv => ?_⟩
  have hz : okV 0 := by unfold okV; decide
  simp only [st0, List.mem_cons, List.not_mem_nil, or_false] at hv
  rcases hv with rfl | rfl | rfl | rfl | rfl | rfl <;> assumption
def endM (l : List Instr) (a b : Int) : List Int := runM l (st0 a b)
theorem zsw (a b : Int) : zir a b = some (st0 a b) := rfl
abbrev zN : Instr := z69
theorem zwy : ∀ (n a : Nat) (x : Int), x ∈ zkv n a → (a : Int) ≤ x ∧ x < (a : Int) + n
  | 0, _, x, h => by simp [zkv] at h
  | n + 1, a, x, h => by
    unfold zkv at h
    rcases List.mem_cons.1 h with h | h
    · omega
    · have := zwy n (a + 1) x h
      omega
theorem zy1 {u : Bool} {n : Nat} {x : Int} (h : x ∈ zpv u n) (hn : 1 ≤ n) : (0 ≤ x ∧ x < (n : Int)) ∧ (u = true ∨ x = 0) := by
  unfold zpv at h
  split at h
  · rename_i hu
    have := zwy n 0 x h
    exact ⟨by omega, .inl hu⟩
  · rw [List.mem_singleton.1 h]
    exact ⟨by omega, .inr rfl⟩
theorem yfk (c : Nat) (h : immC c = false) : (zgy c).2.2.2.1 ≤ 0 ∧ 0 ≤ (zgy c).2.2.2.2 := by
  unfold immC at h
  split at h
  · cases h
  · cases h
  · cases h
  · cases h
  · rename_i h0 h5 h6 h7
    unfold zgy
    split
    all_goals first | exact ⟨by decide, by decide⟩ | exact absurd rfl h0 | exact absurd rfl h5 | exact absurd rfl h6 | exact absurd rfl h7
def okPI (x : Instr) (t : Nat) : Prop := okI x ∧ x.f1 = ((2 + t : Nat) : Int) ∧ (0 ≤ x.f2 ∧ x.f2 < ((2 + t : Nat) : Int)) ∧ 0 ≤ x.f3 ∧ x.f3 < ((2 + t : Nat) : Int)
theorem ydy {os : List ByteArray} {ims : List Int} {t : Nat} (ho : zg2 os ims = true) (ht : t ≤ 2) {x : Instr} (h : x ∈ zdd os ims t) : okPI x t := by
  unfold zdd at h
  obtain ⟨s, hs, h⟩ := List.mem_flatMap.1 h
  unfold zog at h
  obtain ⟨a, ha, h⟩ := List.mem_flatMap.1 h
  obtain ⟨b, hb, h⟩ := List.mem_flatMap.1 h
  obtain ⟨m, hm, h⟩ := List.mem_flatMap.1 h
  obtain rfl := List.mem_singleton.1 h
  obtain ⟨a1, a2⟩ := zy1 ha (by omega)
  obtain ⟨b1, b2⟩ := zy1 hb (by omega)
  have hop : okOp ims s = true := by
    unfold zg2 at ho
    simp only [Bool.and_eq_true, List.all_eq_true (l := List.range os.length), List.mem_range] at ho
    obtain ⟨i, hi, rfl⟩ := List.getElem_of_mem hs
    have := ho.2.2.2.2.2 i hi
    rw [zcu os i hi] at this
    exact this
  unfold okOp at hop
  rw [Bool.and_eq_true, decide_eq_true_eq] at hop
  refine ⟨⟨hop.1, ⟨by show (0 : Int) ≤ ((2 + t : Nat) : Int); omega, by show ((2 + t : Nat) : Int) ≤ 5; omega⟩, ?_, ?_, ?_⟩, rfl, a1, b1⟩
  · exact a2.elim (fun u => .inl ⟨u, a1.1, by show a ≤ 5; omega⟩) (fun z => .inr z)
  · exact b2.elim (fun u => .inl ⟨u, b1.1, by show b ≤ 5; omega⟩) (fun z => .inr z)
  · show (zgy (cls s)).2.2.2.1 ≤ m ∧ m ≤ (zgy (cls s)).2.2.2.2
    unfold imsM at hm
    by_cases hi : immC (cls s) = true
    · rw [if_pos hi] at hm
      have h2 := hop.2
      rw [hi, Bool.not_true, Bool.false_or, List.all_eq_true] at h2
      have := h2 m hm
      unfold inB at this
      exact of_decide_eq_true this
    · rw [if_neg hi] at hm
      rw [List.mem_singleton.1 hm]
      exact yfk _ (Bool.eq_false_iff.2 hi)
def okP (l : List Instr) : Prop := l.length ≤ 3 ∧ ∀ i, i < l.length → okPI (l.getD i zN) i
theorem zt8 {l : List Instr} (h : okP l) (x : Instr) (hx : x ∈ l) : okI x := by
  obtain ⟨i, hi, rfl⟩ := List.getElem_of_mem hx
  have := (h.2 i hi).1
  rwa [zcu l i hi] at this
theorem zv8 {l : List Instr} (h : okP l) (k : Nat) (x : Instr) (hx : x ∈ l.take k) : okI x := zt8 h x (List.mem_of_mem_take hx)
theorem zwz (l : List Instr) (k : Nat) (h : k < l.length) : l.take (k + 1) = l.take k ++ [l.getD k zN] := by
  rw [List.take_succ_eq_append_getElem h, zcu l k h]
def atI (l : List Instr) (i : Nat) : List Int := endM l ((i / 64 : Nat) : Int) ((i % 64 : Nat) : Int)
theorem yc1 (l : List Instr) (h : ∀ x ∈ l, okI x) (i : Nat) (hi : i < 4096) : okS (atI l i) := zv6 l h _ (zy0 (by unfold okV; omega) (by unfold okV; omega))
theorem zy2 (l : List Instr) (x : Instr) (i : Nat) : atI (l ++ [x]) i = zzp (atI l i) x := by
  unfold atI endM runM
  rw [List.foldl_append]
  rfl
def colN (l : List Instr) (r : Int) (n : Nat) : List Int := (List.range n).map fun i => rd (atI l i) r
theorem ztp (l : List Instr) (r : Int) (n : Nat) : (colN l r n).length = n := by simp [colN]
theorem zqp (l : List Instr) (r : Int) (n i : Nat) (h : i < n) : rd (colN l r n) (i : Int) = rd (atI l i) r := zlm (fun d => by simp [colN, List.getD, h])
theorem ya1 (s : List Int) (j : Nat) (v : Int) (r : Nat) (h : r ≠ j) : rd (s.set j v) (r : Int) = rd s (r : Int) := by
  unfold rd
  rw [Int.toNat_natCast, List.getD_eq_getElem?_getD, List.getD_eq_getElem?_getD, List.getElem?_set_ne (Ne.symm h)]
theorem ya2 (s : List Int) (j : Nat) (v : Int) (h : j < s.length) : rd (s.set j v) (j : Int) = v := by
  unfold rd
  rw [Int.toNat_natCast, List.getD_eq_getElem?_getD, List.getElem?_set_self h]
  rfl
theorem zy3 {l : List Instr} (h : okP l) (k : Nat) (hk : k < l.length) (r n : Nat) (hr : r < 2 + k) : colN (l.take (k + 1)) r n = colN (l.take k) r n := by
  unfold colN
  refine List.map_congr_left fun i _ => ?_
  rw [zwz l k hk, zy2]
  unfold zzp
  rw [(h.2 k hk).2.1, Int.toNat_natCast, ya1 _ _ _ _ (by omega)]
theorem zx2 {l : List Instr} (h : okP l) (k : Nat) (hk : k < l.length) (n : Nat) (hn : n ≤ 4096) : colN (l.take (k + 1)) ((2 + k : Nat) : Int) n = (List.range n).map fun i => valM (l.getD k zN) (atI (l.take k) i) := by
  unfold colN
  refine List.map_congr_left fun i hi => ?_
  have hi' := List.mem_range.1 hi
  rw [zwz l k hk, zy2]
  unfold zzp
  have hs := (yc1 (l.take k) (zv8 h k) i (by omega)).1
  have := h.1
  rw [(h.2 k hk).2.1, Int.toNat_natCast, ya2 _ _ _ (by omega)]
def cols (l : List Instr) (k : Nat) : List (List Int) := (List.range (2 + k)).map fun r : Nat => colN (l.take k) r 4096
theorem zkl (l : List Instr) (k : Nat) : (cols l k).length = 2 + k := by simp [cols]
theorem zv9 (l : List Instr) (k r : Nat) (h : r < 2 + k) : zhs (cols l k) (r : Int) = colN (l.take k) r 4096 := by
  unfold zhs cols
  rw [Int.toNat_natCast]
  simp [List.getD, h]
theorem zw0 {l : List Instr} (h : okP l) (k : Nat) (hk : k < l.length) : cols l (k + 1) = cols l k ++ [(List.range 4096).map fun i => valM (l.getD k zN) (atI (l.take k) i)] := by
  unfold cols
  rw [show 2 + (k + 1) = (2 + k) + 1 by omega, List.range_succ, List.map_append, List.map_singleton, zx2 h k hk 4096 (Nat.le_refl _)]
  rw [List.map_congr_left (l := List.range (2 + k)) fun r hr => zy3 h k hk r 4096 (List.mem_range.1 hr)]
theorem zt9 {l : List Instr} (h : okP l) (k : Nat) : ∀ d, k + d = l.length → (cols l l.length).take (2 + k) = cols l k
  | 0, hd => by rw [show l.length = k by omega, List.take_of_length_le (by rw [zkl]; exact Nat.le_refl _)]
  | d + 1, hd => by
    have ih := zt9 h (k + 1) d (by omega)
    have := congrArg (List.take (2 + k)) ih
    rw [List.take_take, Nat.min_eq_left (by omega), zw0 h k (by omega), List.take_append_of_le_length (by rw [zkl]; exact Nat.le_refl _), List.take_of_length_le (l := cols l k) (by rw [zkl]; exact Nat.le_refl _)] at this
    exact this
theorem zw1 {l : List Instr} (h : okP l) (k : Nat) (x : Instr) (hx : okPI x k) (hk : k ≤ l.length) (i : Nat) (hi : i < 4096) : Ev (fun q => zgm q x.f0 x.f1 x.f2 x.f3 x.f4 (cols l k) (i : Int)) (valM x (atI (l.take k) i)) := by
  obtain ⟨ho, h1, ⟨h2, h2'⟩, h3, h3'⟩ := hx
  have hs := yc1 (l.take k) (zv8 h k) i hi
  have hl := h.1
  obtain ⟨a, ha⟩ := Int.eq_ofNat_of_zero_le h2
  obtain ⟨b, hb⟩ := Int.eq_ofNat_of_zero_le h3
  have ca : zhs (cols l k) x.f2 = colN (l.take k) x.f2 4096 := by rw [ha]; exact zv9 l k a (by omega)
  have cb : zhs (cols l k) x.f3 = colN (l.take k) x.f3 4096 := by rw [hb]; exact zv9 l k b (by omega)
  have va := zyy hs h2 (by omega)
  have vb := zyy hs h3 (by omega)
  have hv := (zv5 x _ ho hs).2
  unfold okV at va vb hv
  unfold zgm
  refine zad h2 (zad (by rw [zkl]; omega) (zad (by omega) (zad (by rw [ca, ztp]; omega) (zad h3 (zad (by rw [zkl]; omega) (zad (by rw [cb, ztp]; omega) ?_))))))
  rw [ca, cb, zqp _ _ _ _ hi, zqp _ _ _ _ hi, w64 (by omega) (by omega), w64 (by omega) (by omega)]
  refine Ev.bind (ydx x _ ho hs) (Ev.some ?_)
  omega
theorem ya3 {l : List Instr} (h : okP l) (k : Nat) (x : Instr) (hx : okPI x k) (hk : k ≤ l.length) : Ev (fun q => zg8 q x.f0 x.f1 x.f2 x.f3 x.f4 (cols l k)) ((List.range 4096).map fun i => valM x (atI (l.take k) i)) := by
  have key : ∀ (d i : Nat), i + d = 4096 → Ev (fun q => zea q (cols l k) (((List.range i).map fun i => valM x (atI (l.take k) i)) ++ List.replicate d 0) 4096 i x.f0 x.f1 x.f2 x.f3 x.f4) ((List.range 4096).map fun i => valM x (atI (l.take k) i)) := by
    intro d
    induction d with
    | zero =>
      intro i hi
      obtain rfl : i = 4096 := by omega
      rw [List.replicate_zero, List.append_nil]
      refine Ev.step (f := fun _ => some ((List.range 4096).map fun i => valM x (atI (l.take k) i))) (fun q => ?_) (Ev.now _)
      simp only [zea]
      rw [if_neg (by omega)]
    | succ d ih =>
      intro i hi
      have next := ih (i + 1) (by omega)
      rw [List.range_succ, List.map_append, List.map_singleton] at next
      have hlen : (i : Int) < ((((List.range i).map fun i => valM x (atI (l.take k) i)) ++ List.replicate (d + 1) 0).length : Int) := by
        rw [List.length_append, List.length_replicate, List.length_map, List.length_range]
        omega
      refine Ev.step (fun q => by simp only [zea]; rfl) (zad (by omega) (Ev.bind (zw1 h k x hx hk i (by omega)) ?_))
      refine zad (Int.natCast_nonneg i) (zad hlen ?_)
      have e := zpx ((List.range i).map fun i => valM x (atI (l.take k) i)) (List.replicate d (0 : Int)) 0 (valM x (atI (l.take k) i))
      rw [List.length_replicate, List.length_map, List.length_range] at e
      rw [Int.toNat_natCast, e, w64n i (by omega)]
      exact next
  unfold zg8
  refine zad (by decide) (Ev.call rfl ?_)
  rw [List.length_replicate]
  exact key 4096 0 (by omega)
theorem zua {l : List Instr} (h : okP l) (k : Nat) (x : Instr) (hx : okPI x k) (hk : k ≤ l.length) (g : List Int) (hg : g.length = 4096) : Ev (fun q => zdl q x.f0 x.f1 x.f2 x.f3 x.f4 (cols l k) g) ((List.range 4096).all fun i => decide (valM x (atI (l.take k) i) = rd g i)) := by
  have key : ∀ (d i : Nat), i + d = 4096 → Ev (fun q => zcy q (cols l k) g 4096 i x.f0 x.f1 x.f2 x.f3 x.f4) ((List.range' i d).all fun i => decide (valM x (atI (l.take k) i) = rd g i)) := by
    intro d
    induction d with
    | zero =>
      intro i hi
      refine Ev.step (f := fun _ => some true) (fun q => ?_) (Ev.now _)
      simp only [zcy]
      rw [if_neg (by omega)]
    | succ d ih =>
      intro i hi
      rw [List.range'_succ, List.all_cons]
      refine Ev.step (fun q => by simp only [zcy]; rfl) (zad (by omega) (zad (by omega) (zad (by omega) (Ev.bind (zw1 h k x hx hk i (by omega)) ?_))))
      by_cases e : valM x (atI (l.take k) i) = rd g i
      · rw [decide_eq_true e, Bool.true_and]
        refine zad e ?_
        rw [w64n i (by omega)]
        exact ih (i + 1) (by omega)
      · rw [decide_eq_false e, Bool.false_and]
        exact zal e (Ev.now _)
  unfold zdl
  rw [hg]
  have := key 4096 0 (by omega)
  rw [← List.range_eq_range'] at this
  exact this
theorem zqq (xs : List Int) (hl : xs.length ≤ 1048576) (hv : ∀ v ∈ xs, 0 ≤ v ∧ v ≤ 63) : Ev (fun q => zd0 q xs) xs := by
  have key : ∀ (d i : Nat), i + d = xs.length → Ev (fun q => zcx q (xs.take i ++ List.replicate d 0) xs xs.length i) xs := by
    intro d
    induction d with
    | zero =>
      intro i hi
      obtain rfl : i = xs.length := by omega
      rw [List.replicate_zero, List.append_nil, List.take_length]
      refine Ev.step (f := fun _ => some xs) (fun q => ?_) (Ev.now _)
      simp only [zcx]
      rw [if_neg (by omega)]
    | succ d ih =>
      intro i hi
      have hlt : i < xs.length := by omega
      have next := ih (i + 1) (by omega)
      rw [List.take_succ_eq_append_getElem hlt] at next
      have hb := hv _ (List.getElem_mem hlt)
      refine Ev.step (fun q => by simp only [zcx]; rfl) (zad (by omega) (zad (by omega) (zad (by omega) (zad (by rw [List.length_append, List.length_replicate, List.length_take]; omega) ?_))))
      have e := zpx (xs.take i) (List.replicate d (0 : Int)) 0 xs[i]
      rw [List.length_replicate, List.length_take, Nat.min_eq_left (by omega)] at e
      rw [zlm (zcu xs i hlt), show xs[i] % 256 = xs[i] by omega, Int.toNat_natCast, e, w64n i (by omega)]
      exact next
  unfold zd0
  refine zad (by omega) (zad (by rw [Int.toNat_natCast]; omega) ?_)
  rw [Int.toNat_natCast]
  have := key xs.length 0 (by omega)
  simpa using this
def tbN (g : Nat → Nat → Int) (n : Nat) : List Int := (List.range n).map fun i => g (i / 64) (i % 64)
theorem zwa (g : Nat → Nat → Int) (n : Nat) : (tbN g n).length = n := by simp [tbN]
theorem ycc (g : Nat → Nat → Int) (a b : Nat) (h : b < 64) : tbN g (64 * a + (b + 1)) = tbN g (64 * a + b) ++ [g a b] := by
  unfold tbN
  rw [← Nat.add_assoc, List.range_succ, List.map_append, List.map_singleton, show (64 * a + b) / 64 = a by omega, show (64 * a + b) % 64 = b by omega]
theorem zwb (g : Nat → Nat → Int) (L0 : Nat → List Int → Int → Option (List Int)) (L1 : Nat → List Int → Int → Int → Int → Option (List Int))
    (h0 : ∀ (a : Nat) xs T, a < 64 → Ev (fun k => L1 k xs a a 0) T → Ev (fun k => L0 k xs a) T) (he : ∀ xs, Ev (fun k => L0 k xs 64) xs)
    (h1 : ∀ (a b : Nat) xs T, a < 64 → b < 64 → xs.length ≤ 4096 → Ev (fun k => L1 k (xs ++ [g a b]) a a ((b + 1 : Nat) : Int)) T → Ev (fun k => L1 k xs a a b) T)
    (h2 : ∀ (a : Nat) xs T, a < 64 → Ev (fun k => L0 k xs ((a + 1 : Nat) : Int)) T → Ev (fun k => L1 k xs a a 64) T) : Ev (fun k => L0 k [] 0) (tbN g 4096) := by
  have row : ∀ (a : Nat), a < 64 → ∀ T, Ev (fun k => L0 k (tbN g (64 * (a + 1))) ((a + 1 : Nat) : Int)) T → ∀ (d b : Nat), b + d = 64 → Ev (fun k => L1 k (tbN g (64 * a + b)) a a b) T := by
    intro a ha T hT d
    induction d with
    | zero =>
      intro b hb
      obtain rfl : b = 64 := by omega
      refine h2 a _ T ha ?_
      rw [show 64 * a + 64 = 64 * (a + 1) by omega]
      exact hT
    | succ d ih =>
      intro b hb
      refine h1 a b _ T ha (by omega) (by rw [zwa]; omega) ?_
      rw [← ycc g a b (by omega)]
      exact ih (b + 1) (by omega)
  have key : ∀ (d a : Nat), a + d = 64 → Ev (fun k => L0 k (tbN g (64 * a)) a) (tbN g 4096) := by
    intro d
    induction d with
    | zero =>
      intro a ha
      obtain rfl : a = 64 := by omega
      exact he _
    | succ d ih =>
      intro a ha
      have := row a (by omega) _ (ih (a + 1) (by omega)) 64 0 (by omega)
      exact h0 a _ _ (by omega) this
  exact key 64 0 (by omega)
theorem ya4 : Ev (fun k => zb8 k) (tbN (fun a _ => (a : Int)) 4096) := by
  unfold zb8
  refine zwb (fun a _ => (a : Int)) zax zay (fun a xs T ha h => ?_) (fun xs => ?_) (fun a b xs T ha hb hx h => ?_) (fun a xs T ha h => ?_)
  · exact Ev.step (fun k => by simp only [zax]; rfl) (zad (by omega) h)
  · refine Ev.step (f := fun _ => some xs) (fun k => ?_) (Ev.now _)
    simp only [zax]
    rw [if_neg (by omega)]
  · refine Ev.step (fun k => by simp only [zay]; rfl) (zad (by omega) (Ev.call rfl (zad (by omega) ?_)))
    rw [w64n b (by omega)]
    exact h
  · refine Ev.step (fun k => by simp only [zay]; rfl) (zal (by omega) ?_)
    rw [w64n a (by omega)]
    exact h
theorem ya5 : Ev (fun k => zb9 k) (tbN (fun _ b => (b : Int)) 4096) := by
  unfold zb9
  refine zwb (fun _ b => (b : Int)) zaz za0 (fun a xs T ha h => ?_) (fun xs => ?_) (fun a b xs T ha hb hx h => ?_) (fun a xs T ha h => ?_)
  · exact Ev.step (fun k => by simp only [zaz]; rfl) (zad (by omega) h)
  · refine Ev.step (f := fun _ => some xs) (fun k => ?_) (Ev.now _)
    simp only [zaz]
    rw [if_neg (by omega)]
  · refine Ev.step (fun k => by simp only [za0]; rfl) (zad (by omega) (Ev.call rfl (zad (by omega) ?_)))
    rw [w64n b (by omega)]
    exact h
  · refine Ev.step (fun k => by simp only [za0]; rfl) (zal (by omega) ?_)
    rw [w64n a (by omega)]
    exact h
theorem ycd (l : List Instr) : Ev (fun k => zh5 k) (cols l 0) := by
  have bd : ∀ (g : Nat → Nat → Int), (∀ a b, a < 64 → b < 64 → 0 ≤ g a b ∧ g a b ≤ 63) → ∀ v ∈ tbN g 4096, 0 ≤ v ∧ v ≤ 63 := fun g hg v hv => by
    obtain ⟨i, hi, rfl⟩ := List.mem_map.1 hv
    have := List.mem_range.1 hi
    exact hg _ _ (by omega) (by omega)
  unfold zh5
  refine Ev.bind ya4 (Ev.bind (zqq _ (by rw [zwa]; decide) (bd _ (fun a b ha hb => by omega))) (Ev.bind ya5 (Ev.bind (zqq _ (by rw [zwa]; decide) (bd _ (fun a b ha hb => by omega))) (Ev.some ?_))))
  rfl
end Go.Proofs.YtnaafcleafbejaaGreat.PL
end
section
namespace Go.Proofs.YtnaafcleafbejaaGreat.PL
open Go Go.RowKit Go.Proofs.YtnaafcleafbejaaGreatW.PrintWords Go.Proofs.YtnaafcleafbejaaGreatW.PrintLast Go.Proofs.YtnaafcleafbejaaGreatW.PrintMore Go.Proofs.YtnaafcleafbejaaGreat.Q
set_option linter.unusedSimpArgs false
set_option linter.unusedVariables false
def cntM (os : List ByteArray) (ims : List Int) : Nat → Nat
  | 0 => 1
  | n + 1 => cntM os ims n * (zdd os ims n).length
theorem ya6 (os : List ByteArray) (ims : List Int) (ho : os.length ≤ 4) (hi : ims.length ≤ 2) : ∀ n, n ≤ 3 → cntM os ims n ≤ 200 ^ n
  | 0, _ => Nat.le_refl _
  | n + 1, h => by
    have a := ya6 os ims ho hi n (by omega)
    have b := zsv os ims n ho hi (by omega)
    unfold cntM
    rw [Nat.pow_succ]
    exact Nat.mul_le_mul a b
theorem zwc (os : List ByteArray) (ims : List Int) (ho : os.length ≤ 4) (hi : ims.length ≤ 2) (n : Nat) (h : n ≤ 3) : cntM os ims n ≤ 8000000 := by
  have := ya6 os ims ho hi n h
  have : 200 ^ n ≤ 200 ^ 3 := Nat.pow_le_pow_right (by decide) h
  omega
theorem yce (os : List ByteArray) (ims : List Int) (ho : os.length ≤ 4) (hi : ims.length ≤ 2) (i : Nat) (h : i < 3) : wrap64 ((cntM os ims i : Int) * ((zdd os ims i).length : Int)) = (cntM os ims (i + 1) : Nat) := by
  have := zwc os ims ho hi (i + 1) (by omega)
  have e : (cntM os ims i : Int) * ((zdd os ims i).length : Int) = (cntM os ims (i + 1) : Nat) := by rw [show cntM os ims (i + 1) = cntM os ims i * (zdd os ims i).length from rfl, Int.natCast_mul]
  rw [e, w64 (by omega) (by omega)]
theorem zvg (os : List ByteArray) (ims : List Int) (h : zg2 os ims = true) (n : Nat) (hn : n ≤ 3) : Ev (fun k => zgt k os ims n) (cntM os ims n : Nat) := by
  obtain ⟨ho, hi, hc⟩ := zo5 h
  unfold zgt
  have key : ∀ (d i : Nat), i + d = n → Ev (fun k => zds k n (cntM os ims i : Nat) i os ims) (cntM os ims n : Nat) := by
    intro d
    induction d with
    | zero =>
      intro i hi'
      have e : i = n := by omega
      subst e
      refine Ev.step (f := fun _ => some _) (fun k => ?_) (Ev.now _)
      simp only [zds]
      rw [if_neg (by omega)]
    | succ d ih =>
      intro i hi'
      refine Ev.step (fun k => by simp only [zds]; rfl) (zad (by omega) (Ev.bind (zvf os ims i ho hi (by omega)) ?_))
      rw [yce os ims ho hi i (by omega), w64n i (by omega)]
      exact ih (i + 1) (by omega)
  exact key n 0 (by omega)
def zzq (os : List ByteArray) (ims : List Int) : Nat → Int → List Instr → List Instr
  | 0, _, acc => acc
  | d + 1, a, acc => zzq os ims d (Int.tdiv a ((zdd os ims d).length : Int)) (acc.set d (zac (zdd os ims d) (Int.tmod a ((zdd os ims d).length : Int))))
theorem zy4 {os : List ByteArray} {ims : List Int} : ∀ {n i : Nat}, 0 < cntM os ims n → i < n → 0 < (zdd os ims i).length
  | 0, i, _, hi => by omega
  | n + 1, i, h, hi => by
    unfold cntM at h
    have h1 : 0 < cntM os ims n := Nat.pos_of_ne_zero fun e => by rw [e, Nat.zero_mul] at h; omega
    have h2 : 0 < (zdd os ims n).length := Nat.pos_of_ne_zero fun e => by rw [e, Nat.mul_zero] at h; omega
    by_cases e : i = n
    · rw [e]; exact h2
    · exact zy4 h1 (by omega)
theorem ycf (a : Int) (n : Nat) (h0 : 0 ≤ a) (h1 : a ≤ 8000000) (hn : 0 < n) : 0 ≤ Int.tmod a (n : Int) ∧ Int.tmod a (n : Int) < (n : Int) ∧ 0 ≤ Int.tdiv a (n : Int) ∧ Int.tdiv a (n : Int) ≤ 8000000 := by
  rw [Int.tmod_eq_emod_of_nonneg h0, Int.tdiv_eq_ediv_of_nonneg h0]
  have := Int.emod_nonneg a (show (n : Int) ≠ 0 by omega)
  have := Int.emod_lt_of_pos a (show (0 : Int) < n by omega)
  have := Int.ediv_nonneg h0 (show (0 : Int) ≤ n by omega)
  have := Int.ediv_le_self (n : Int) h0
  omega
theorem ya7 (os : List ByteArray) (ims : List Int) (h : zg2 os ims = true) (n : Nat) (hn : n ≤ 3) (a : Int) (h0 : 0 ≤ a) (h1 : a < (cntM os ims n : Nat)) : Ev (fun k => zhm k os ims n a) (zzq os ims n a (List.replicate n zN)) := by
  obtain ⟨ho', hi', hc⟩ := zo5 h
  have hle := zwc os ims ho' hi' n hn
  have hpos : 0 < cntM os ims n := by omega
  unfold zhm
  refine zad (by omega) (zad (by omega) ?_)
  have key : ∀ (d : Nat) (b : Int) (acc : List Instr), d ≤ n → acc.length = n → 0 ≤ b → b ≤ 8000000 → Ev (fun k => zdy k b acc ((d : Int) - 1) os ims) (zzq os ims d b acc) := by
    intro d
    induction d with
    | zero =>
      intro b acc hd hacc hb0 hb1
      refine Ev.step (f := fun _ => some acc) (fun k => ?_) (Ev.now _)
      simp only [zdy]
      rw [if_neg (by omega)]
    | succ d ih =>
      intro b acc hd hacc hb0 hb1
      have hp := zy4 hpos (show d < n by omega)
      obtain ⟨f1, f2, f3, f4⟩ := ycf b _ hb0 hb1 hp
      rw [show ((d + 1 : Nat) : Int) - 1 = (d : Int) by omega]
      refine Ev.step (fun k => by simp only [zdy]; rfl) (zad (by omega) (Ev.bind (zvf os ims d ho' hi' (by omega)) ?_))
      refine zal (by omega) (zad f1 (zad f2 (zad (by omega) (zad (by omega) ?_))))
      rw [w64 (by omega) (by omega), w64 (by omega) (by omega), Int.toNat_natCast]
      exact ih _ _ (by omega) (by rw [List.length_set]; exact hacc) f3 f4
  have := key n a (List.replicate n zN) (Nat.le_refl _) List.length_replicate h0 (by omega)
  rw [w64 (by omega) (by omega), Int.toNat_natCast]
  exact this
section
variable (os : List ByteArray) (ims : List Int)
def wthN : Nat → Nat → List Instr
  | 0, _ => []
  | n + 1, a => wthN n (a / (zdd os ims n).length) ++ [(zdd os ims n).getD (a % (zdd os ims n).length) zN]
theorem zy5 : ∀ n a, (wthN os ims n a).length = n
  | 0, _ => rfl
  | n + 1, a => by unfold wthN; rw [List.length_append, zy5 n]; rfl
theorem zw2 : ∀ (d : Nat) (a : Nat) (acc : List Instr), d ≤ acc.length → zzq os ims d (a : Int) acc = wthN os ims d a ++ acc.drop d
  | 0, _, _, _ => rfl
  | d + 1, a, acc, h => by
    have e1 : Int.tdiv (a : Int) ((zdd os ims d).length : Int) = ((a / (zdd os ims d).length : Nat) : Int) := by
      rw [Int.tdiv_eq_ediv_of_nonneg (by omega)]
      exact (Int.natCast_ediv _ _).symm
    have e2 : Int.tmod (a : Int) ((zdd os ims d).length : Int) = ((a % (zdd os ims d).length : Nat) : Int) := by
      rw [Int.tmod_eq_emod_of_nonneg (by omega)]
      exact (Int.natCast_emod _ _).symm
    unfold zzq wthN
    rw [e1, e2, zw2 d _ _ (by rw [List.length_set]; omega), List.append_assoc]
    congr 1
    rw [List.drop_eq_getElem_cons (by rw [List.length_set]; omega), List.getElem_set_self, List.drop_set_of_lt (by omega)]
    unfold zac
    rw [Int.toNat_natCast]
    rfl
theorem ya8 (n a : Nat) : zzq os ims n (a : Int) (List.replicate n zN) = wthN os ims n a := by
  rw [zw2 os ims n a _ (by simp)]
  simp
def zkm : Nat → List Instr → List (List Instr)
  | 0, p => [p]
  | d + 1, p => (zdd os ims p.length).flatMap fun x => zkm d (p ++ [x])
theorem zy6 : ∀ (d : Nat) (p l : List Instr), l ∈ zkm os ims d p → l.length = p.length + d ∧ l.take p.length = p
  | 0, p, l, h => by
    obtain rfl := List.mem_singleton.1 h
    exact ⟨rfl, List.take_length⟩
  | d + 1, p, l, h => by
    unfold zkm at h
    obtain ⟨x, _, hl⟩ := List.mem_flatMap.1 h
    obtain ⟨h1, h2⟩ := zy6 d (p ++ [x]) l hl
    rw [List.length_append, List.length_singleton] at h1 h2
    refine ⟨by omega, ?_⟩
    have := congrArg (List.take p.length) h2
    rwa [List.take_take, Nat.min_eq_left (by omega), List.take_left] at this
theorem zvh : ∀ (d : Nat) (p : List Instr), zkm os ims (d + 1) p = (zkm os ims d p).flatMap fun q => (zdd os ims q.length).map fun x => q ++ [x]
  | 0, p => by
    have e : zkm os ims 1 p = (zdd os ims p.length).flatMap fun x => [p ++ [x]] := rfl
    rw [e]
    show _ = List.flatMap _ [p]
    rw [List.flatMap_cons, List.flatMap_nil, List.append_nil]
    induction zdd os ims p.length with
    | nil => rfl
    | cons x xs ih => rw [List.flatMap_cons, List.map_cons, ih]; rfl
  | d + 1, p => by
    have e : zkm os ims (d + 1 + 1) p = (zdd os ims p.length).flatMap fun x => zkm os ims (d + 1) (p ++ [x]) := rfl
    have e' : zkm os ims (d + 1) p = (zdd os ims p.length).flatMap fun x => zkm os ims d (p ++ [x]) := rfl
    rw [e, e', List.flatMap_assoc]
    congr 1
    funext x
    exact zvh d (p ++ [x])
theorem zw3 {α : Type} (f : Nat → α) (L : Nat) : ∀ m, (List.range (m * L)).map f = (List.range m).flatMap fun q => (List.range L).map fun r => f (q * L + r)
  | 0 => by simp
  | m + 1 => by
    rw [Nat.succ_mul, List.range_add, List.map_append, zw3 f L m, List.range_succ, List.flatMap_append, List.flatMap_singleton, List.map_map]
    rfl
theorem zux {α β : Type} (S : List α) (z : α) (f : α → β) : (List.range S.length).map (fun r => f (S.getD r z)) = S.map f := by
  apply List.ext_getElem
  · simp
  · intro i h1 h2
    simp only [List.length_map, List.length_range] at h1 h2
    simp [List.getD, h2]
theorem zx3 : ∀ n, (List.range (cntM os ims n)).map (wthN os ims n) = zkm os ims n []
  | 0 => rfl
  | n + 1 => by
    rw [zvh, ← zx3 n, List.flatMap_map]
    show (List.range (cntM os ims n * (zdd os ims n).length)).map _ = _
    rw [zw3]
    congr 1
    funext q
    rw [zy5, ← zux (zdd os ims n) zN]
    refine List.map_congr_left fun r hr => ?_
    have hr' := List.mem_range.1 hr
    have hpos : 0 < (zdd os ims n).length := by omega
    show wthN os ims n ((q * (zdd os ims n).length + r) / (zdd os ims n).length) ++ [(zdd os ims n).getD ((q * (zdd os ims n).length + r) % (zdd os ims n).length) zN] = _
    rw [Nat.mul_comm q, Nat.mul_add_div hpos, Nat.div_eq_of_lt hr', Nat.add_zero, Nat.mul_add_mod, Nat.mod_eq_of_lt hr']
theorem zx4 (n : Nat) : (zkm os ims n []).length = cntM os ims n := by rw [← zx3]; simp
theorem ycg (n a : Nat) (h : a < cntM os ims n) : (zkm os ims n [])[a]? = some (wthN os ims n a) := by rw [← zx3]; simp [h]
theorem zy7 (ho : zg2 os ims = true) {p : List Instr} (h : okP p) (hp : p.length ≤ 2) {x : Instr} (hx : x ∈ zdd os ims p.length) : okP (p ++ [x]) := by
  refine ⟨by rw [List.length_append, List.length_singleton]; omega, fun i hi => ?_⟩
  rw [List.length_append, List.length_singleton] at hi
  by_cases q : i < p.length
  · have := h.2 i q
    rwa [show (p ++ [x]).getD i zN = p.getD i zN by simp [List.getD, List.getElem?_append_left q]]
  · obtain rfl : i = p.length := by omega
    rw [show (p ++ [x]).getD p.length zN = x by simp [List.getD]]
    exact ydy ho hp hx
theorem ya9 : okP [] := ⟨by simp, fun i hi => by simp at hi⟩
theorem zy8 (ho : zg2 os ims = true) : ∀ (d : Nat) (p l : List Instr), p.length + d ≤ 3 → okP p → l ∈ zkm os ims d p → okP l
  | 0, p, l, _, h, hl => by
    obtain rfl := List.mem_singleton.1 hl
    exact h
  | d + 1, p, l, hd, h, hl => by
    unfold zkm at hl
    obtain ⟨x, hx, hl⟩ := List.mem_flatMap.1 hl
    exact zy8 ho d (p ++ [x]) l (by rw [List.length_append, List.length_singleton]; omega) (zy7 os ims ho h (by omega) hx) hl
end
end Go.Proofs.YtnaafcleafbejaaGreat.PL
end
section
namespace Go.Proofs.YtnaafcleafbejaaGreat.PL
open Go Go.RowKit Go.Proofs.YtnaafcleafbejaaGreatW.PrintWords Go.Proofs.YtnaafcleafbejaaGreatW.PrintLast Go.Proofs.YtnaafcleafbejaaGreatW.PrintMore Go.Proofs.YtnaafcleafbejaaGreat.Q
set_option linter.unusedSimpArgs false
set_option linter.unusedVariables false
def znk (l : List Instr) : Int := if l.length = 0 then 0 else ((1 + l.length : Nat) : Int)
theorem yc2 {l : List Instr} (h : okP l) : l.length ≤ 40 := by have := h.1; omega
theorem zy9 {l : List Instr} (h : okP l) : 0 ≤ znk l ∧ znk l ≤ 5 := by
  have := h.1
  unfold znk
  split <;> omega
theorem yba {l : List Instr} (h : okP l) : zkj l = some (znk l) := by
  have := h.1
  unfold zkj znk
  by_cases h0 : l.length = 0
  · rw [if_pos (by omega), if_pos h0]
  · rw [if_neg (by omega), if_neg h0, w64 (by omega) (by omega)]
    rfl
end Go.Proofs.YtnaafcleafbejaaGreat.PL
end
section
namespace Go.Proofs.YtnaafcleafbejaaGreat.PL
open Go Go.RowKit Go.Proofs.YtnaafcleafbejaaGreatW.PrintWords Go.Proofs.YtnaafcleafbejaaGreatW.PrintLast Go.Proofs.YtnaafcleafbejaaGreatW.PrintMore Go.Proofs.YtnaafcleafbejaaGreat.Q
set_option linter.unusedSimpArgs false
set_option linter.unusedVariables false
theorem zx5 {s : ByteArray} (h : zpt s ∨ zp8 s) (a b : Int) : za4 s a b = za4 s a 0 := by
  unfold zpt zp8 at h
  unfold za4
  by_cases q : s.toList = ([110, 111, 116] : List UInt8)
  · rw [if_pos q, if_pos q]
  · have q2 := h.resolve_left q
    rw [if_neg q, if_neg q, if_pos q2, if_pos q2]
def apV (s : ByteArray) (a b : Int) : Int := (za4 s a b).getD 0
theorem zza (s : ByteArray) (a b : Int) (hb : 0 ≤ b) : za4 s a b = some (apV s a b) := by
  obtain ⟨v, e, _⟩ := zox s a b hb
  unfold apV
  rw [e]
  rfl
theorem yc3 (s : ByteArray) (a b : Int) (hb : 0 ≤ b) : okV (apV s a b) := by
  obtain ⟨v, e, h⟩ := zox s a b hb
  unfold apV
  rw [e]
  exact h
def ndV (x : Node) (a b : Int) (out : List Int) : Int := match kN x.f0 with
  | 0 => if x.f3 = 0 then a else b
  | 1 => x.f3
  | 2 => apV x.f0 (rd out x.f1) 0
  | _ => apV x.f0 (rd out x.f1) (rd out x.f2)
section
variable {x : Node} {a b : Int} {o : List Int}
theorem ydz (e : kN x.f0 = 0) : ndV x a b o = if x.f3 = 0 then a else b := by unfold ndV; rw [e]; rfl
theorem yd0 (e : kN x.f0 = 1) : ndV x a b o = x.f3 := by unfold ndV; rw [e]; rfl
theorem yd1 (e : kN x.f0 = 2) : ndV x a b o = apV x.f0 (rd o x.f1) 0 := by unfold ndV; rw [e]; rfl
theorem yd2 (e : kN x.f0 = 3) : ndV x a b o = apV x.f0 (rd o x.f1) (rd o x.f2) := by unfold ndV; rw [e]; rfl
end
def vlL (a b : Int) (l : List Node) : List Int := l.foldl (fun out x => out ++ [ndV x a b out]) []
theorem zwd (a b : Int) (l : List Node) (i : Nat) (h : i < l.length) : vlL a b (l.take (i + 1)) = vlL a b (l.take i) ++ [ndV l[i] a b (vlL a b (l.take i))] := by
  unfold vlL
  rw [List.take_succ_eq_append_getElem h, List.foldl_append]
  rfl
theorem zub (a b : Int) (l : List Node) : (vlL a b l).length = l.length := by
  have key : ∀ (l : List Node) (o : List Int), (l.foldl (fun out x => out ++ [ndV x a b out]) o).length = o.length + l.length := by
    intro l
    induction l with
    | nil => intro o; rfl
    | cons x l ih =>
      intro o
      rw [List.foldl_cons, ih]
      simp only [List.length_append, List.length_cons, List.length_nil]
      omega
  unfold vlL
  rw [key]
  simp
theorem yd3 (xs ys : List Int) (p : Int) (h0 : 0 ≤ p) (h1 : p < xs.length) : rd (xs ++ ys) p = rd xs p := by
  unfold rd
  rw [List.getD_eq_getElem?_getD, List.getD_eq_getElem?_getD, List.getElem?_append_left (by omega)]
theorem zx6 {x : Node} {i : Int} (h : okNx x i = true) : (kN x.f0 = 0 ∧ isIn x.f0 ∧ x.f1 = 0 ∧ x.f2 = 0 ∧ 0 ≤ x.f3 ∧ x.f3 ≤ 1) ∨ (kN x.f0 = 1 ∧ ¬ isIn x.f0 ∧ zg3 x.f0 ∧ 0 ≤ x.f3 ∧ x.f3 ≤ 63) ∨
    (kN x.f0 = 2 ∧ ¬ isIn x.f0 ∧ ¬ zg3 x.f0 ∧ (zpt x.f0 ∨ zp8 x.f0) ∧ 0 ≤ x.f1 ∧ x.f1 ≤ i - 1 ∧ x.f2 = 0) ∨ (kN x.f0 = 3 ∧ ¬ isIn x.f0 ∧ ¬ zg3 x.f0 ∧ ¬ (zpt x.f0 ∨ zp8 x.f0) ∧ 0 ≤ x.f1 ∧ x.f1 ≤ i - 1 ∧ 0 ≤ x.f2 ∧ x.f2 ≤ i - 1) := by
  unfold okNx kN at h
  unfold kN
  by_cases h0 : isIn x.f0
  · rw [if_pos h0] at h
    have := of_decide_eq_true h
    exact .inl ⟨if_pos h0, h0, this.1, this.2.1, this.2.2.1, this.2.2.2⟩
  · rw [if_neg h0] at h
    by_cases h1 : zg3 x.f0
    · rw [if_pos h1] at h
      have := of_decide_eq_true h
      exact .inr (.inl ⟨by rw [if_neg h0, if_pos h1], h0, h1, this.2.2.1, this.2.2.2⟩)
    · rw [if_neg h1] at h
      by_cases h2 : zpt x.f0 ∨ zp8 x.f0
      · rw [if_pos h2] at h
        have := of_decide_eq_true h
        exact .inr (.inr (.inl ⟨by rw [if_neg h0, if_neg h1, if_pos h2], h0, h1, h2, this.1.1, this.1.2, this.2.1⟩))
      · rw [if_neg h2] at h
        by_cases h3 : hasS bops x.f0 = true
        · rw [if_pos h3] at h
          have := of_decide_eq_true h
          exact .inr (.inr (.inr ⟨by rw [if_neg h0, if_neg h1, if_neg h2, if_pos h3], h0, h1, h2, this.1.1, this.1.2, this.2.1.1, this.2.1.2⟩))
        · rw [if_neg h3] at h
          cases h
theorem yfl {x : Node} {i : Nat} (h : okNx x i = true) {a b : Int} (ha : okV a) (hb : okV b) {o : List Int} (ho : ∀ v ∈ o, okV v) : okV (ndV x a b o) := by
  have hrd : ∀ p : Int, okV (rd o p) := fun p => by
    unfold rd
    rw [List.getD_eq_getElem?_getD]
    cases e : o[p.toNat]? with
    | none => simp; unfold okV; omega
    | some v => exact ho v (List.mem_of_getElem? e)
  rcases zx6 h with ⟨e, _, _, _, h3⟩ | ⟨e, _, _, h3⟩ | ⟨e, _⟩ | ⟨e, _⟩
  · rw [ydz e]
    split
    · exact ha
    · exact hb
  · rw [yd0 e]
    exact h3
  · rw [yd1 e]
    exact yc3 _ _ _ (Int.le_refl 0)
  · rw [yd2 e]
    exact yc3 _ _ _ (hrd _).1
theorem zw4 {l : List Node} (ok : okNs 0 l = true) {a b : Int} (ha : okV a) (hb : okV b) : ∀ i, i ≤ l.length → ∀ v ∈ vlL a b (l.take i), okV v
  | 0, _, v, h => by simp [vlL] at h
  | i + 1, hi, v, h => by
    rw [zwd a b l i (by omega)] at h
    rcases List.mem_append.1 h with h | h
    · exact zw4 ok ha hb i (by omega) v h
    · rw [List.mem_singleton.1 h]
      have hx := zpy l 0 i (by omega) ok
      rw [Nat.zero_add] at hx
      exact yfl hx ha hb (zw4 ok ha hb i (by omega))
section
variable (l : List Node) (ok : okNs 0 l = true) (hl : l.length ≤ 1000) (a b : Int) (ha : okV a) (hb : okV b)
include ok hl ha hb
theorem ybb : Ev (fun k => zha k l a b) (vlL a b l) := by
  have key : ∀ (d i : Nat), i + d = l.length → Ev (fun k => zdg k a b (vlL a b (l.take i) ++ List.replicate d 0) l l.length i) (vlL a b l) := by
    intro d
    induction d with
    | zero =>
      intro i hi
      refine Ev.step (f := fun _ => some (vlL a b l)) (fun k => ?_) (Ev.now _)
      simp only [zdg]
      rw [if_neg (by omega), List.take_of_length_le (by omega), List.replicate_zero, List.append_nil]
    | succ d ih =>
      intro i hi
      have hlt : i < l.length := by omega
      have next := ih (i + 1) (by omega)
      have hx := zvd (zcu l i hlt)
      have hok := zpy l 0 i hlt ok
      rw [Nat.zero_add] at hok
      have hv := zw4 ok ha hb i (by omega)
      have hlen : (vlL a b (l.take i)).length = i := by rw [zub, List.length_take]; omega
      rw [zwd a b l i hlt] at next
      obtain ⟨xs, hxs⟩ : ∃ xs, xs = vlL a b (l.take i) := ⟨_, rfl⟩
      rw [← hxs] at next hlen hv ⊢
      have hi7 : (i : Int) < ((xs ++ List.replicate (d + 1) (0 : Int)).length : Int) := by rw [List.length_append, List.length_replicate]; omega
      have e := fun v => zpx xs (List.replicate d (0 : Int)) 0 v
      rw [List.length_replicate, hlen] at e
      have rdx : ∀ p : Int, 0 ≤ p → p ≤ (i : Int) - 1 → rd (xs ++ List.replicate (d + 1) 0) p = rd xs p := fun p h0 h1 => yd3 _ _ p h0 (by omega)
      have hrd : ∀ p : Int, 0 ≤ rd xs p := fun p => by
        unfold rd
        rw [List.getD_eq_getElem?_getD]
        cases q : xs[p.toNat]? with
        | none => simp
        | some v => exact (hv v (List.mem_of_getElem? q)).1
      have hle : ((xs ++ List.replicate (d + 1) (0 : Int)).length : Int) = (i : Int) + (d + 1) := by rw [List.length_append, List.length_replicate]; omega
      refine Ev.step (fun k => by simp only [zdg]; rfl) (zad (by omega) (zad (by omega) (zad (by omega) ?_)))
      rw [hx]
      obtain ⟨x, hxx⟩ : ∃ x, x = l[i] := ⟨_, rfl⟩
      rw [← hxx] at next hok ⊢
      rcases zx6 hok with ⟨c, h0, _, _, h3, h3'⟩ | ⟨c, h0, h1, _⟩ | ⟨c, h0, h1, h2, g1, g1', g2⟩ | ⟨c, h0, h1, h2, g1, g1', g2, g2'⟩
      · rw [ydz c] at next
        refine zad h0 (Ev.call rfl (zad h3 (zad (by show x.f3 < ((2 : Nat) : Int); omega) (zad hi7 ?_))))
        rw [Int.toNat_natCast, e, w64n i (by omega)]
        have : rd [a, b] x.f3 = if x.f3 = 0 then a else b := by
          rcases (show x.f3 = 0 ∨ x.f3 = 1 by omega) with q | q <;> rw [q] <;> rfl
        rw [this]
        exact next
      · rw [yd0 c] at next
        refine zal h0 (zad h1 (zad hi7 ?_))
        rw [Int.toNat_natCast, e, w64n i (by omega)]
        exact next
      · rw [yd1 c] at next
        refine zal h0 (zal h1 (zad g1 (zad (by omega) (zad (by omega) (zad (by omega) ?_)))))
        rw [rdx _ g1 g1', zrs, zx5 h2]
        refine Ev.call (zza _ _ _ (Int.le_refl 0)) (zad hi7 ?_)
        rw [Int.toNat_natCast, e, w64n i (by omega)]
        exact next
      · rw [yd2 c] at next
        refine zal h0 (zal h1 (zad g1 (zad (by omega) (zad g2 (zad (by omega) ?_)))))
        rw [rdx _ g1 g1', rdx _ g2 g2', zrs]
        refine Ev.call (zza _ _ _ (hrd _)) (zad hi7 ?_)
        rw [Int.toNat_natCast, e, w64n i (by omega)]
        exact next
  unfold zha
  refine zad (by omega) (zad (by omega) ?_)
  rw [Int.toNat_natCast]
  exact key l.length 0 (by omega)
theorem zx7 : Ev (fun k => zgg k l a b) (vlL a b l) := by
  have key : ∀ (d i : Nat), i + d = l.length → Ev (fun k => zby k a b (vlL a b (l.take i)) l l.length i) (vlL a b l) := by
    intro d
    induction d with
    | zero =>
      intro i hi
      refine Ev.step (f := fun _ => some (vlL a b l)) (fun k => ?_) (Ev.now _)
      simp only [zby]
      rw [if_neg (by omega), List.take_of_length_le (by omega)]
    | succ d ih =>
      intro i hi
      have hlt : i < l.length := by omega
      have next := ih (i + 1) (by omega)
      have hx := zvd (zcu l i hlt)
      have hok := zpy l 0 i hlt ok
      rw [Nat.zero_add] at hok
      have hv := zw4 ok ha hb i (by omega)
      have hlen : (vlL a b (l.take i)).length = i := by rw [zub, List.length_take]; omega
      rw [zwd a b l i hlt] at next
      obtain ⟨xs, hxs⟩ : ∃ xs, xs = vlL a b (l.take i) := ⟨_, rfl⟩
      rw [← hxs] at next hlen hv ⊢
      have hrd : ∀ p : Int, 0 ≤ rd xs p := fun p => by
        unfold rd
        rw [List.getD_eq_getElem?_getD]
        cases q : xs[p.toNat]? with
        | none => simp
        | some v => exact (hv v (List.mem_of_getElem? q)).1
      have hcap : xs.length < 17592186044416 := by omega
      refine Ev.step (fun k => by simp only [zby]; rfl) (zad (by omega) (zad (by omega) (zad (by omega) ?_)))
      rw [hx, w64n i (by omega)]
      obtain ⟨x, hxx⟩ : ∃ x, x = l[i] := ⟨_, rfl⟩
      rw [← hxx] at next hok ⊢
      have one := zvy x.f0
      rcases zx6 hok with ⟨c, h0, _, _, h3, h3'⟩ | ⟨c, h0, h1, _⟩ | ⟨c, h0, h1, h2, g1, g1', g2⟩ | ⟨c, h0, h1, h2, g1, g1', g2, g2'⟩
      · rw [ydz c] at next
        have h1 : ¬ zg3 x.f0 := fun q => by
          unfold zg3 at q
          unfold isIn at h0
          rw [h0] at q
          cases q
        refine zal h1 (zad h0 (Ev.step (fun k => by simp only [zc9]; rfl) ?_))
        by_cases q : x.f3 = 0
        · rw [if_pos q] at next
          exact zad (by rw [q]; rfl) (zad hcap (by rw [w64n i (by omega)]; exact next))
        · rw [if_neg q] at next
          exact zal (by rw [beq_iff_eq]; exact q) (zad h0 (zad hcap (by rw [w64n i (by omega)]; exact next)))
      · rw [yd0 c] at next
        exact zad h1 (zad hcap next)
      · rw [yd1 c] at next
        refine zal h1 (zal h0 (Ev.step (fun k => by simp only [zc9]; rfl) (zal (by decide) (zal h0 (Ev.call one ?_)))))
        refine zad (decide_eq_true h2) (zad g1 (zad (by omega) ?_))
        refine Ev.call (zza _ _ _ (Int.le_refl 0)) (zad hcap ?_)
        rw [w64n i (by omega)]
        exact next
      · rw [yd2 c] at next
        refine zal h1 (zal h0 (Ev.step (fun k => by simp only [zc9]; rfl) (zal (by decide) (zal h0 (Ev.call one ?_)))))
        refine zal (by rw [decide_eq_false h2]; decide) (zad g1 (zad (by omega) (zad g2 (zad (by omega) ?_))))
        refine Ev.call (zza _ _ _ (hrd _)) (zad hcap ?_)
        rw [w64n i (by omega)]
        exact next
  unfold zgg
  exact key l.length 0 (by omega)
end
def evE (l : List Node) (a b : Int) : Int := rd (vlL a b l) ((l.length - 1 : Nat) : Int)
section
variable (l : List Node) (ok : okNs 0 l = true) (h0 : 0 < l.length) (hl : l.length ≤ 1000) (a b : Int) (ha : okV a) (hb : okV b)
include ok h0 hl ha hb
theorem yd4 : Ev (fun k => zia k l a b) (evE l a b) := by
  unfold zia evE
  have e : wrap64 ((l.length : Int) - 1) = ((l.length - 1 : Nat) : Int) := by rw [w64 (by omega) (by omega)]; omega
  rw [e]
  exact Ev.bind (ybb l ok hl a b ha hb) (zad (by omega) (zad (by rw [zub]; omega) (Ev.now _)))
theorem yd5 : Ev (fun k => zhq k l a b) (evE l a b) := by
  unfold zhq evE
  have e : wrap64 ((l.length : Int) - 1) = ((l.length - 1 : Nat) : Int) := by rw [w64 (by omega) (by omega)]; omega
  rw [e]
  exact Ev.bind (zx7 l ok hl a b ha hb) (zad (by omega) (zad (by rw [zub]; omega) (Ev.now _)))
theorem yfm : okV (evE l a b) := by
  unfold evE
  have h := zw4 ok ha hb l.length (Nat.le_refl _)
  rw [List.take_length] at h
  unfold rd
  rw [List.getD_eq_getElem?_getD, Int.toNat_natCast, List.getElem?_eq_getElem (by rw [zub]; omega)]
  exact h _ (List.getElem_mem _)
end
end Go.Proofs.YtnaafcleafbejaaGreat.PL
end
section
namespace Go.Proofs.YtnaafcleafbejaaGreat.PL
open Go Go.RowKit Go.Proofs.YtnaafcleafbejaaGreatW.PrintWords Go.Proofs.YtnaafcleafbejaaGreatW.PrintLast Go.Proofs.YtnaafcleafbejaaGreatW.PrintMore Go.Proofs.YtnaafcleafbejaaGreat.Q
set_option linter.unusedSimpArgs false
set_option linter.unusedVariables false
def allF (ok : Nat → Bool) (n i : Nat) : Bool := (List.range' i (n - i)).all ok
theorem ych (ok : Nat → Bool) (n : Nat) : allF ok n n = true := by unfold allF; rw [Nat.sub_self]; rfl
theorem ybc (ok : Nat → Bool) (n i : Nat) (h : i < n) : allF ok n i = (ok i && allF ok n (i + 1)) := by
  unfold allF
  rw [show n - i = (n - (i + 1)) + 1 by omega, List.range'_succ, List.all_cons]
theorem zzb (ok : Nat → Bool) (n : Nat) : allF ok n 0 = true ↔ ∀ i, i < n → ok i = true := by
  unfold allF
  rw [List.all_eq_true, Nat.sub_zero]
  constructor
  · intro h i hi
    exact h i (List.mem_range'_1.2 ⟨Nat.zero_le _, by omega⟩)
  · intro h i hi
    have := List.mem_range'_1.1 hi
    exact h i (by omega)
def okAt (e : List Node) (l : List Instr) (i : Nat) : Bool := decide (rd (atI l i) (znk l) = evE e ((i / 64 : Nat) : Int) ((i % 64 : Nat) : Int))
def reachB (e : List Node) (l : List Instr) : Bool := allF (okAt e l) 4096 0
def tabE (e : List Node) (n : Nat) : List Int := tbN (fun a b => evE e (a : Int) (b : Int)) n
theorem zvi (e : List Node) (l : List Instr) : colN l (znk l) 4096 = tabE e 4096 ↔ reachB e l = true := by
  have key : ∀ n, colN l (znk l) n = tabE e n ↔ ∀ i, i < n → okAt e l i = true := fun n => by
    unfold colN tabE tbN okAt
    rw [List.map_inj_left]
    constructor
    · intro h i hi
      exact decide_eq_true (h i (List.mem_range.2 hi))
    · intro h i hi
      exact of_decide_eq_true (h i (List.mem_range.1 hi))
  unfold reachB
  rw [key, zzb]
theorem ybd (xs ys : List Int) (hx : xs.length ≤ 1048576) : Ev (fun k => zd1 k xs ys) (decide (xs = ys)) := by
  unfold zd1
  by_cases hl : xs.length = ys.length
  · refine zad (by omega) ?_
    have key : ∀ (d i : Nat), i + d = xs.length → Ev (fun k => zbv k xs ys xs.length i) (decide (xs.drop i = ys.drop i)) := by
      intro d
      induction d with
      | zero =>
        intro i hi
        refine Ev.step (f := fun _ => some (decide (xs.drop i = ys.drop i))) (fun k => ?_) (Ev.now _)
        simp only [zbv]
        rw [if_neg (by omega), List.drop_of_length_le (by omega), List.drop_of_length_le (by omega)]
        simp
      | succ d ih =>
        intro i hi
        have h1 : i < xs.length := by omega
        have h2 : i < ys.length := by omega
        refine Ev.step (fun k => by simp only [zbv]; rfl) (zad (by omega) (zad (by omega) (zad (by omega) (zad (by omega) ?_))))
        rw [zlm (zcu xs i h1), zlm (zcu ys i h2), w64n i (by omega)]
        have e1 := List.drop_eq_getElem_cons h1
        have e2 := List.drop_eq_getElem_cons h2
        by_cases q : xs[i] = ys[i]
        · refine zad q (zjh (ih (i + 1) (by omega)) ?_)
          rw [e1, e2, q]
          simp only [List.cons.injEq, true_and]
        · refine zal q (Ev.some ?_)
          rw [e1, e2]
          exact (decide_eq_false (fun e => q (List.cons.inj e).1)).symm
    have := key xs.length 0 (by omega)
    simpa using this
  · refine zal (by omega) (Ev.some ?_)
    rw [decide_eq_false (fun e => hl (by rw [e]))]
section
variable (e : List Node) (ok : okNs 0 e = true) (h0 : 0 < e.length) (hl : e.length ≤ 1000)
include ok h0 hl
theorem zzc (a b : Nat) (ha : a < 64) (hb : b < 64) : Ev (fun k => zia k e a b) (evE e (a : Int) (b : Int)) ∧ Ev (fun k => zhq k e a b) (evE e (a : Int) (b : Int)) ∧ okV (evE e (a : Int) (b : Int)) :=
  have oa : okV (a : Int) := by unfold okV; omega
  have ob : okV (b : Int) := by unfold okV; omega
  ⟨yd4 e ok h0 hl _ _ oa ob, yd5 e ok h0 hl _ _ oa ob, yfm e ok h0 hl _ _ oa ob⟩
theorem zzr : Ev (fun k => zgq k e) (tabE e 4096) := by
  have one : ∀ a b : Nat, a < 64 → b < 64 → Ev (fun k => zfk k a b [e]) (evE e (a : Int) (b : Int)) := fun a b ha hb => by
    unfold zfk
    refine zad (by simp) ?_
    exact Ev.bind (zzc e ok h0 hl a b ha hb).1 (Ev.now _)
  unfold zgq
  refine Ev.bind ?_ (Ev.now _)
  unfold zci tabE
  refine zwb (fun a b => evE e (a : Int) (b : Int)) (fun k xs i => zar k xs i [e]) (fun k xs a c b => zas k xs a c b [e]) (fun a xs T ha h => ?_) (fun xs => ?_) (fun a b xs T ha hb hx h => ?_) (fun a xs T ha h => ?_)
  · exact Ev.step (fun k => by simp only [zar]; rfl) (zad (by omega) h)
  · refine Ev.step (f := fun _ => some xs) (fun k => ?_) (Ev.now _)
    simp only [zar]
    rw [if_neg (by omega)]
  · refine Ev.step (fun k => by simp only [zas]; rfl) (zad (by omega) (Ev.bind (one a b ha hb) ?_))
    refine zad (by omega) ?_
    rw [w64n b (by omega)]
    exact h
  · refine Ev.step (fun k => by simp only [zas]; rfl) (zal (by omega) ?_)
    rw [w64n a (by omega)]
    exact h
omit ok h0 hl in
theorem zzd (n : Nat) : (tabE e n).length = n := zwa _ n
theorem yd6 : ∀ v ∈ tabE e 4096, 0 ≤ v ∧ v ≤ 63 := by
  have key : ∀ n, n ≤ 4096 → ∀ v ∈ tabE e n, 0 ≤ v ∧ v ≤ 63 := fun n hn v hv => by
    unfold tabE tbN at hv
    obtain ⟨i, hi, rfl⟩ := List.mem_map.1 hv
    have := List.mem_range.1 hi
    exact (zzc e ok h0 hl (i / 64) (i % 64) (by omega) (by omega)).2.2
  exact key 4096 (Nat.le_refl _)
theorem yd7 : Ev (fun k => zd0 k (tabE e 4096)) (tabE e 4096) := zqq _ (by rw [zzd e]; decide) (yd6 e ok h0 hl)
variable {l : List Instr} (h : okP l)
include h
omit ok h0 hl h in
theorem at_ab (a b : Nat) (hb : b < 64) : atI l (64 * a + b) = runM l (st0 a b) := by
  unfold atI endM
  rw [show (64 * a + b) / 64 = a by omega, show (64 * a + b) % 64 = b by omega]
omit ok h0 hl h in
theorem ybe (a b : Nat) (hb : b < 64) : okAt e l (64 * a + b) = decide (rd (runM l (st0 a b)) (znk l) = evE e (a : Int) (b : Int)) := by
  unfold okAt
  rw [at_ab (l := l) a b hb, show (64 * a + b) / 64 = a by omega, show (64 * a + b) % 64 = b by omega]
theorem zuc : ∃ t, Ev (fun k => zd9 k e l (znk l)) t ∧ t.2.2 = !reachB e l := by
  have hr := zy9 h
  have key : ∀ (d a : Nat), a + d = 64 → ∃ t, Ev (fun k => zbz k e l (znk l) a) t ∧ t.2.2 = !allF (okAt e l) 4096 (64 * a) := by
    intro d
    induction d with
    | zero =>
      intro a ha
      obtain rfl : a = 64 := by omega
      refine ⟨(0, 0, false), Ev.step (f := fun _ => some (0, 0, false)) (fun k => ?_) (Ev.now _), ?_⟩
      · simp only [zbz]
        rw [if_neg (by omega)]
      · rw [show 64 * 64 = 4096 by decide, ych]
        rfl
    | succ d ih =>
      intro a ha
      have next := ih (a + 1) (by omega)
      have row : ∀ (q b : Nat), b + q = 64 → ∃ t, Ev (fun k => za5 k e l (znk l) a b) t ∧ t.2.2 = !allF (okAt e l) 4096 (64 * a + b) := by
        intro q
        induction q with
        | zero =>
          intro b hb
          obtain rfl : b = 64 := by omega
          obtain ⟨t, ht, ht'⟩ := next
          refine ⟨t, Ev.step (fun k => by simp only [za5]; rfl) (zal (by omega) ?_), ?_⟩
          · rw [w64n a (by omega)]
            exact ht
          · rw [ht', show 64 * (a + 1) = 64 * a + 64 by omega]
        | succ q ih2 =>
          intro b hb
          have hs := zy0 (a := (a : Int)) (b := (b : Int)) (by unfold okV; omega) (by unfold okV; omega)
          have hk := (zv6 l (zt8 h) _ hs).1
          have ho := ybe e (l := l) a b (by omega)
          rw [ybc _ _ _ (by omega), ho]
          have pre : ∀ t, Ev (fun k => if rd (runM l (st0 a b)) (znk l) = evE e (a : Int) (b : Int) then za5 k e l (znk l) a (wrap64 ((b : Int) + 1)) else some ((a : Int), (b : Int), true)) t → Ev (fun k => za5 k e l (znk l) a b) t := fun t ht => by
            refine Ev.step (fun k => by simp only [za5]; rfl) (zad (by omega) (Ev.call (zsw _ _) (Ev.bind (zv7 l (yc2 h) (zt8 h) _ hs) ?_)))
            refine zad hr.1 ?_
            refine zad (by omega) ?_
            exact Ev.bind (zzc e ok h0 hl a b (by omega) (by omega)).2.1 ht
          by_cases q2 : rd (runM l (st0 a b)) (znk l) = evE e (a : Int) (b : Int)
          · obtain ⟨t, ht, ht'⟩ := ih2 (b + 1) (by omega)
            refine ⟨t, pre t (zad q2 ?_), ?_⟩
            · rw [w64n b (by omega)]
              exact ht
            · rw [ht', decide_eq_true q2, Bool.true_and, Nat.add_assoc]
          · refine ⟨_, pre _ (zal q2 (Ev.now _)), ?_⟩
            rw [decide_eq_false q2, Bool.false_and]
            rfl
      obtain ⟨t, ht, ht'⟩ := row 64 0 (by omega)
      refine ⟨t, Ev.step (fun k => by simp only [zbz]; rfl) (zad (by omega) ht), ?_⟩
      rw [ht', Nat.add_zero]
  unfold zd9
  exact key 64 0 (by omega)
theorem zw5 : Ev (fun k => zfp k e l) (reachB e l) := by
  have hr := zy9 h
  obtain ⟨t, ht, ht'⟩ := zuc e ok h0 hl h
  have step : ∀ (Y : List (List Int)) (i a b : Nat), Y.length = 4 → i < 4 → a < 64 → b < 64 → zfd Y (i : Int) = [(a : Int), (b : Int)] → Ev (fun k => zcc k e l (znk l) Y 4 ((i + 1 : Nat) : Int)) (reachB e l) → Ev (fun k => zcc k e l (znk l) Y 4 (i : Int)) (reachB e l) := by
    intro Y i a b hY hi ha hb hrow next
    have hs := zy0 (a := (a : Int)) (b := (b : Int)) (by unfold okV; omega) (by unfold okV; omega)
    have hk := (zv6 l (zt8 h) _ hs).1
    refine Ev.step (fun k => by simp only [zcc]; rfl) (zad (by omega) (zad (by omega) (zad (by omega) ?_)))
    rw [hrow]
    refine zad (by simp) (zad (by simp) ?_)
    rw [show rd [(a : Int), (b : Int)] 0 = (a : Int) from rfl, show rd [(a : Int), (b : Int)] 1 = (b : Int) from rfl]
    refine Ev.call (zsw _ _) (Ev.bind (zv7 l (yc2 h) (zt8 h) _ hs) ?_)
    refine zad hr.1 ?_
    refine zad (by omega) ?_
    refine Ev.bind (zzc e ok h0 hl a b ha hb).2.1 ?_
    by_cases q2 : rd (runM l (st0 a b)) (znk l) = evE e (a : Int) (b : Int)
    · refine zad q2 ?_
      rw [w64n i (by omega)]
      exact next
    · refine zal q2 (Ev.some ?_)
      cases hB : reachB e l
      · rfl
      · unfold reachB at hB
        have := (zzb _ _).1 hB (64 * a + b) (by omega)
        rw [ybe e (l := l) a b hb, decide_eq_false q2] at this
        cases this
  unfold zfp
  refine Ev.call (yba h) (Ev.call rfl ?_)
  refine step _ 0 37 22 rfl (by decide) (by decide) (by decide) rfl ?_
  refine step _ 1 5 63 rfl (by decide) (by decide) (by decide) rfl ?_
  refine step _ 2 62 3 rfl (by decide) (by decide) (by decide) rfl ?_
  refine step _ 3 1 1 rfl (by decide) (by decide) (by decide) rfl ?_
  refine Ev.step (fun k => by simp only [zcc]; rfl) (zal (by decide) (Ev.bind ht (Ev.some ?_)))
  rw [ht', Bool.not_not]
end
end Go.Proofs.YtnaafcleafbejaaGreat.PL
end
section
namespace Go.Proofs.YtnaafcleafbejaaGreat.PL
open Go Go.RowKit Go.Proofs.YtnaafcleafbejaaGreatW.PrintWords Go.Proofs.YtnaafcleafbejaaGreatW.PrintLast Go.Proofs.YtnaafcleafbejaaGreatW.PrintMore Go.Proofs.YtnaafcleafbejaaGreat.Q
set_option linter.unusedSimpArgs false
set_option linter.unusedVariables false
section
variable {σ α β : Type}
def fuL (h : α → σ → Bool × σ) : List α → σ → Bool × σ
  | [], s => (true, s)
  | x :: xs, s => if (h x s).1 = true then fuL h xs (h x s).2 else (false, (h x s).2)
theorem yd8 (h : α → σ → Bool × σ) (x : α) (s : σ) : fuL h [x] s = h x s := by
  simp only [fuL]
  obtain ⟨b, t⟩ := h x s
  cases b <;> rfl
theorem zvj (h : α → σ → Bool × σ) : ∀ (xs ys : List α) (s : σ), fuL h (xs ++ ys) s = if (fuL h xs s).1 = true then fuL h ys (fuL h xs s).2 else (false, (fuL h xs s).2)
  | [], ys, s => by simp [fuL]
  | x :: xs, ys, s => by
    rw [List.cons_append]
    by_cases q : (h x s).1 = true
    · have e1 : ∀ zs, fuL h (x :: zs) s = fuL h zs (h x s).2 := fun zs => by simp only [fuL]; exact if_pos q
      rw [e1, e1]
      exact zvj h xs ys _
    · have e1 : ∀ zs, fuL h (x :: zs) s = (false, (h x s).2) := fun zs => by simp only [fuL]; exact if_neg q
      rw [e1, e1]
      rfl
theorem zze (h : β → σ → Bool × σ) (f : α → List β) : ∀ (xs : List α) (s : σ), fuL h (xs.flatMap f) s = fuL (fun x s => fuL h (f x) s) xs s
  | [], s => rfl
  | x :: xs, s => by
    rw [List.flatMap_cons, zvj]
    simp only [fuL]
    by_cases q : (fuL h (f x) s).1 = true
    · rw [if_pos q, if_pos q, zze h f xs]
    · rw [if_neg q, if_neg q]
theorem yc4 (g : Nat → Instr → σ → Option (Bool × σ)) (h : Instr → σ → Bool × σ) (I : σ → Prop) : ∀ (xs : List Instr), (∀ x ∈ xs, ∀ s, I s → Ev (fun k => g k x s) (h x s) ∧ I (h x s).2) → ∀ s, I s → Ev (fun k => pgL (g k) xs s) (fuL h xs s) ∧ I (fuL h xs s).2
  | [], _, s, hs => ⟨Ev.now _, hs⟩
  | x :: xs, hx, s, hs => by
    obtain ⟨h1, h2⟩ := hx x (List.mem_cons_self ..) s hs
    obtain ⟨h3, h4⟩ := yc4 g h I xs (fun y hy => hx y (List.mem_cons_of_mem _ hy)) _ h2
    show Ev (fun k => (g k x s).bind fun r => if r.1 = true then pgL (g k) xs r.2 else some (false, r.2)) _ ∧ _
    simp only [fuL]
    by_cases q : (h x s).1 = true
    · rw [if_pos q]
      exact ⟨Ev.bind h1 (zad q h3), h4⟩
    · rw [if_neg q]
      exact ⟨Ev.bind h1 (zal q (Ev.now _)), h2⟩
theorem yc5 (k : Nat) (lists : List (List Instr)) (n : Int) (st : List Instr → List (List Int) → σ → Option (Bool × σ)) : ∀ d code cs s, LeO (pgM k lists n st d code cs s) (pgM k lists n st (d + 1) code cs s)
  | 0, _, _, _ => LeO.none _
  | d + 1, code, cs, s => zdk (LeO.refl _) (zdk (zvt _ _ (fun x s => LeO.bind (LeO.refl _) (fun nx => yc5 k lists n st d _ nx s)) _ s) (LeO.refl _))
theorem yc6 (k : Nat) (lists : List (List Instr)) (n : Int) (st : List Instr → List (List Int) → σ → Option (Bool × σ)) (d : Nat) (code : List Instr) (cs : List (List Int)) (s : σ) (r : Bool × σ) (h : pgM k lists n st d code cs s = some r) : ∀ e, pgM k lists n st (d + e) code cs s = some r
  | 0 => h
  | e + 1 => yc5 k lists n st (d + e) code cs s r (yc6 k lists n st d code cs s r h e)
theorem yci {lists : List (List Instr)} {n : Int} {st : Nat → List Instr → List (List Int) → σ → Option (Bool × σ)} {D : Nat} {code : List Instr} {cs : List (List Int)} {s : σ} {r : Bool × σ} (h : Ev (fun k => pgM k lists n (st k) D code cs s) r) : Ev (fun k => pgM k lists n (st k) k code cs s) r := by
  obtain ⟨K, hK⟩ := h
  refine ⟨max K D, fun k hk => ?_⟩
  have := yc6 k lists n (st k) D code cs s r (hK k (by omega)) (k - D)
  rwa [show D + (k - D) = k by omega] at this
end
section
variable {σ : Type} (os : List ByteArray) (ims : List Int) (ho : zg2 os ims = true) (n : Nat) (hn : n ≤ 3) (st : Nat → List Instr → List (List Int) → σ → Option (Bool × σ)) (step : List Instr → σ → Bool × σ) (I : σ → Prop)
  (hst : ∀ l, okP l → l.length = n → ∀ s, I s → Ev (fun k => st k l (cols l (n - 1)) s) (step l s) ∧ I (step l s).2)
include ho hn hst
theorem yfn : ∀ (d : Nat) (p : List Instr), okP p → p.length + d = n → ∀ s, I s → Ev (fun k => pgM k ((List.range n).map (zdd os ims)) (n : Int) (st k) (d + 1) p (cols p (min p.length (n - 1))) s) (fuL step (zkm os ims d p) s) ∧ I (fuL step (zkm os ims d p) s).2 := by
  intro d
  induction d with
  | zero =>
    intro p hp hl s hs
    obtain ⟨h1, h2⟩ := hst p hp (by omega) s hs
    rw [show zkm os ims 0 p = [p] from rfl, yd8, Nat.min_eq_right (by omega)]
    refine ⟨?_, h2⟩
    show Ev (fun k => if (p.length : Int) = (n : Int) then st k p (cols p (n - 1)) s else _) _
    exact zad (by omega) h1
  | succ d ih =>
    intro p hp hl s hs
    have eL : ((List.range n).map (zdd os ims)).getD p.length [] = zdd os ims p.length := by
      simp [List.getD, List.getElem?_range (show p.length < n by omega)]
    rw [Nat.min_eq_left (show p.length ≤ n - 1 by omega), show zkm os ims (d + 1) p = (zdd os ims p.length).flatMap fun x => zkm os ims d (p ++ [x]) from rfl, zze]
    have key := yc4 (fun k x s => (zqz k (n : Int) p.length (cols p p.length) x).bind fun nx => pgM k ((List.range n).map (zdd os ims)) (n : Int) (st k) (d + 1) (p ++ [x]) nx s) (fun x s => fuL step (zkm os ims d (p ++ [x])) s) I (zdd os ims p.length) (fun x hx s hs => ?_) s hs
    · refine ⟨?_, key.2⟩
      show Ev (fun k => if (p.length : Int) = (n : Int) then st k p (cols p p.length) s else if p.length < ((List.range n).map (zdd os ims)).length ∧ (cols p p.length).length < 1048576 ∧ p.length < 1048576 then pgL (fun x s => (zqz k (n : Int) p.length (cols p p.length) x).bind fun nx => pgM k ((List.range n).map (zdd os ims)) (n : Int) (st k) (d + 1) (p ++ [x]) nx s) (((List.range n).map (zdd os ims)).getD p.length []) s else none) _
      rw [eL]
      exact zal (by omega) (zad ⟨by rw [List.length_map, List.length_range]; omega, by rw [zkl]; omega, by omega⟩ key.1)
    · have hq := zy7 os ims ho hp (by omega) hx
      have hql : (p ++ [x]).length = p.length + 1 := by rw [List.length_append, List.length_singleton]
      have hk : p.length < (p ++ [x]).length := by omega
      have ex : (p ++ [x]).getD p.length zN = x := by simp [List.getD]
      have ecols : cols (p ++ [x]) p.length = cols p p.length := by
        unfold cols
        rw [List.take_left, List.take_length]
      have next := ih (p ++ [x]) hq (by omega) s hs
      refine ⟨?_, next.2⟩
      unfold zqz
      by_cases q : p.length + 1 < n
      · have hw := ya3 hq p.length x (by have := hq.2 p.length hk; rwa [ex] at this) (by omega)
        have hcs := zw0 hq p.length hk
        rw [ex, ecols] at hcs
        rw [ecols] at hw
        refine Ev.bind (zad (by rw [w64 (by omega) (by omega)]; omega) (Ev.bind hw (Ev.now _))) ?_
        rw [hql, Nat.min_eq_left (by omega), hcs] at next
        exact next.1
      · refine Ev.bind (zal (by rw [w64 (by omega) (by omega)]; omega) (Ev.now _)) ?_
        rw [hql, Nat.min_eq_right (by omega), show n - 1 = p.length by omega, ecols] at next
        exact next.1
omit hst in
theorem yd9 : ∀ (m i : Nat), i + m = n → Ev (fun k => pgGo k os ims m ((List.range i).map (zdd os ims))) ((List.range n).map (zdd os ims)) := by
  obtain ⟨ho', hi', hc⟩ := zo5 ho
  intro m
  induction m with
  | zero =>
    intro i hi
    obtain rfl : i = n := by omega
    exact Ev.now _
  | succ m ih =>
    intro i hi
    have next := ih (i + 1) (by omega)
    rw [List.range_succ, List.map_append, List.map_singleton] at next
    show Ev (fun k => if ((List.range i).map (zdd os ims)).length < 1048576 then (zg6 k os ims (((List.range i).map (zdd os ims)).length : Int)).bind fun xs => pgGo k os ims m ((List.range i).map (zdd os ims) ++ [xs]) else none) _
    rw [List.length_map, List.length_range]
    exact zad (by omega) (Ev.bind (yb9 os ims i ho' hi' (by omega) hc) next)
theorem yfo (s : σ) (hs : I s) : Ev (fun k => pgP k os ims (n : Int) (st k) s) (fuL step (zkm os ims n []) s) ∧ I (fuL step (zkm os ims n []) s).2 := by
  have h := yfn os ims ho n hn st step I hst n [] ya9 (by simp) s hs
  refine ⟨?_, h.2⟩
  have h1 := h.1
  rw [List.length_nil, Nat.min_eq_left (Nat.zero_le _)] at h1
  unfold pgP
  have hg := yd9 os ims ho n hn n 0 (by omega)
  rw [Int.toNat_natCast]
  exact Ev.bind hg (Ev.bind (ycd []) (zad (by rw [zkl]; omega) (yci h1)))
end
theorem yea (e : List Node) {l : List Instr} (h : okP l) (n : Nat) (hn : l.length = n) : Ev (fun k => rcIs k (n : Int) (tabE e 4096) l (cols l (n - 1))) (reachB e l) := by
  have h3 := h.1
  unfold rcIs
  by_cases q : n = 0
  · subst q
    obtain rfl := List.eq_nil_of_length_eq_zero hn
    refine zad rfl (zad (by rw [zkl]; omega) ?_)
    have e1 : (cols [] (0 - 1)).getD 0 [] = colN [] (znk []) 4096 := by
      have := zv9 [] 0 0 (by omega)
      exact this
    rw [e1]
    refine zjh (ybd _ _ (by rw [ztp]; decide)) ?_
    have := zvi e ([] : List Instr)
    cases hB : reachB e []
    · exact decide_eq_false (fun q => by have := this.1 q; rw [hB] at this; cases this)
    · exact decide_eq_true (this.2 hB)
  · obtain ⟨m, rfl⟩ : ∃ m, n = m + 1 := ⟨n - 1, by omega⟩
    have hk : m < l.length := by omega
    have ew : wrap64 (((m + 1 : Nat) : Int) - 1) = (m : Int) := by rw [w64 (by omega) (by omega)]; omega
    rw [ew, zv3 l m hk, show m + 1 - 1 = m by omega]
    refine zal (by omega) (zad (by omega) (zjh (zua h m _ (h.2 m hk) (by omega) (tabE e 4096) (zzd e 4096)) ?_))
    have ec := zx2 h m hk 4096 (Nat.le_refl _)
    rw [List.take_of_length_le (by omega)] at ec
    have er : znk l = ((2 + m : Nat) : Int) := by
      unfold znk
      rw [if_neg (by omega), hn]
      omega
    have hi := zvi e l
    rw [er, ec] at hi
    have ha : ((List.range 4096).all fun i => decide (valM (l.getD m zN) (atI (l.take m) i) = rd (tabE e 4096) (i : Int))) = true ↔ (List.range 4096).map (fun i => valM (l.getD m zN) (atI (l.take m) i)) = tabE e 4096 := by
      rw [List.all_eq_true]
      constructor
      · intro q
        unfold tabE tbN
        refine List.map_congr_left fun i hi => ?_
        have := of_decide_eq_true (q i hi)
        rw [this]
        exact zlm (fun d => by simp [tabE, tbN, List.getD, List.mem_range.1 hi])
      · intro q i hi
        refine decide_eq_true ?_
        rw [← q]
        exact (zlm (fun d => by simp [List.getD, List.mem_range.1 hi])).symm
    rw [Bool.eq_iff_iff, ha, hi]
def zzf {σ : Type} (e : List Node) (step : List Instr → σ → Bool × σ) (l : List Instr) (s : σ) : Bool × σ := if reachB e l = true then step l s else (true, s)
def zzg (acB : List Instr → Bool) (l : List Instr) (s : List Instr × Bool) : Bool × (List Instr × Bool) := if acB l = true then (false, (l, true)) else (!s.2, s)
theorem ybf (e : List Node) (acB : List Instr → Bool) : ∀ ls : List (List Instr), fuL (zzf e (zzg acB)) ls ([], false) = match ls.find? (fun l => reachB e l && acB l) with
    | some l => (false, (l, true))
    | none => (true, ([], false))
  | [] => rfl
  | l :: ls => by
    have ih := ybf e acB ls
    simp only [fuL, zzf, zzg]
    cases h1 : reachB e l with
    | false =>
      rw [List.find?_cons_of_neg (by rw [h1, Bool.false_and]; decide)]
      exact ih
    | true =>
      cases h2 : acB l with
      | false =>
        rw [List.find?_cons_of_neg (by rw [h1, h2]; decide)]
        exact ih
      | true =>
        rw [List.find?_cons_of_pos (by rw [h1, h2]; rfl)]
        rfl
def zud (os : List ByteArray) (ims : List Int) (p : List Instr → Bool) : Nat → Nat → List Instr × Bool
  | 0, _ => ([], false)
  | m + 1, i => match (zkm os ims i []).find? p with
    | some l => (l, true)
    | none => zud os ims p m (i + 1)
section
variable (e : List Node) (ok : okNs 0 e = true) (h0 : 0 < e.length) (hl : e.length ≤ 24) (os : List ByteArray) (ims : List Int) (ho : zg2 os ims = true)
include ok h0 hl ho
omit ok h0 hl in
theorem yfp (ac : Nat → List Instr → List (List Int) → Option Bool) (acB : List Instr → Bool) (hac : ∀ l, okP l → Ev (fun k => ac k l (cols l (l.length - 1))) (acB l)) : ∀ (m i : Nat), i + m ≤ 4 → Ev (fun k => shL k os ims (tabE e 4096) (ac k) m i) (zud os ims (fun l => reachB e l && acB l) m i) := by
  intro m
  induction m with
  | zero => exact fun i _ => Ev.now _
  | succ m ih =>
    intro i hi
    show Ev (fun k => (pgP k os ims (i : Int) (rcSt k (i : Int) (tabE e 4096) (shSt (ac k))) (([] : List Instr), false)).bind fun r => if r.2.2 = true then some (r.2.1, true) else shL k os ims (tabE e 4096) (ac k) m (i + 1)) _
    have hp := (yfo os ims ho i (by omega) (fun k => rcSt k (i : Int) (tabE e 4096) (shSt (ac k))) (zzf e (zzg acB)) (fun _ => True) (fun l hlp hln s _ => ⟨?_, trivial⟩) (([] : List Instr), false) trivial).1
    · rw [ybf] at hp
      refine Ev.bind hp ?_
      simp only [zud]
      cases hf : (zkm os ims i []).find? (fun l => reachB e l && acB l) with
      | some l => exact zad rfl (Ev.now _)
      | none => exact zal (by decide) (ih (i + 1) (by omega))
    · unfold rcSt zzf
      refine Ev.bind (yea e hlp i hln) ?_
      by_cases q : reachB e l = true
      · rw [if_pos q]
        refine zad q ?_
        unfold shSt zzg
        have ha := hac l hlp
        rw [hln] at ha
        refine Ev.bind ha ?_
        by_cases q2 : acB l = true
        · refine zad q2 (zad (by have := hlp.1; omega) (Ev.some ?_))
          rw [if_pos q2]
        · refine zal q2 (Ev.some ?_)
          rw [if_neg q2]
      · rw [if_neg q]
        exact zal q (Ev.now _)
end
end Go.Proofs.YtnaafcleafbejaaGreat.PL
end
section
namespace Go.Proofs.YtnaafcleafbejaaGreat.PL
open Go Go.RowKit Go.Proofs.YtnaafcleafbejaaGreatW.PrintWords Go.Proofs.YtnaafcleafbejaaGreatW.PrintLast Go.Proofs.YtnaafcleafbejaaGreatW.PrintMore Go.Proofs.YtnaafcleafbejaaGreat.Q
set_option linter.unusedSimpArgs false
set_option linter.unusedVariables false
def zuy (e : List Node) (os : List ByteArray) (ims : List Int) (most : Int) : Bool := zqb e && (zg2 os ims && decide (0 ≤ most ∧ most ≤ 3))
theorem zzs (a b c : Int) : zei a b c = some (decide (b ≤ a ∧ a ≤ c)) := by
  unfold zei
  by_cases h : b ≤ a
  · rw [if_pos h]
    simp [h]
  · rw [if_neg h]
    simp [h]
theorem ycj (a b c : Int) : ze5 a b c = some (decide (b ≤ a ∧ a ≤ c)) := by
  unfold ze5
  by_cases h : b ≤ a
  · rw [if_pos h]
    simp [h]
  · rw [if_neg h]
    simp [h]
theorem zx8 (e : List Node) (os : List ByteArray) (ims : List Int) (most : Int) (ho : os.length ≤ 1048576) (hi : ims.length ≤ 1048576) : Ev (fun k => zf1 k e os ims most) (zuy e os ims most) := by
  unfold zf1 zuy
  refine Ev.bind (yat e) ?_
  cases h1 : zqb e with
  | false => exact zal (by decide) (Ev.now _)
  | true =>
    refine zad rfl (Ev.bind (zx0 os ims ho hi) ?_)
    cases h2 : zg2 os ims with
    | false => exact zal (by decide) (Ev.now _)
    | true => exact zad rfl (Ev.call (zzs _ _ _) (Ev.now _))
theorem ybg (e : List Node) (os : List ByteArray) (ims : List Int) (most : Int) (ho : os.length ≤ 1048576) (hi : ims.length ≤ 1048576) : Ev (fun k => zhl k e os ims most) (zuy e os ims most) := by
  unfold zhl zuy
  refine Ev.bind (yau e) ?_
  cases h1 : zqb e with
  | false => exact zal (by decide) (Ev.now _)
  | true =>
    refine zad rfl (Ev.bind (yax os ims ho hi) ?_)
    cases h2 : zg2 os ims with
    | false => exact zal (by decide) (Ev.now _)
    | true => exact zad rfl (Ev.call (ycj _ _ _) (Ev.now _))
theorem zwe {e : List Node} {os : List ByteArray} {ims : List Int} {most : Int} (h : zuy e os ims most = true) : zqb e = true ∧ zg2 os ims = true ∧ 0 ≤ most ∧ most ≤ 3 := by
  unfold zuy at h
  simp only [Bool.and_eq_true, decide_eq_true_eq] at h
  exact ⟨h.1, h.2.1, h.2.2.1, h.2.2.2⟩
def ops6 : List ByteArray := [⟨#[97, 100, 100]⟩, ⟨#[97, 110, 100]⟩, ⟨#[111, 114]⟩, ⟨#[120, 111, 114]⟩, ⟨#[109, 117, 108]⟩, ⟨#[101, 113]⟩]
def zuz (x : Instr) : Bool := hasS ops6 x.f0 && decide (x.f2 > x.f3)
def zqr (l : List Instr) (k r : Nat) : Bool := (List.range 4096).all fun i => decide (valM (l.getD k zN) (atI (l.take k) i) = rd (atI (l.take k) i) (r : Int))
def zx9 (l : List Instr) (k : Nat) (b : Bool) : Bool := ((List.range (2 + k)).any fun r => (!decide (r = 1) || !b) && zqr l k r) || zuz (l.getD k zN)
def zqs (l : List Instr) (k : Nat) : Bool := zx9 l k (decide (k + 1 = l.length))
def zue (l : List Instr) : Bool := (List.range l.length).any (zqs l)
theorem zya (x : Instr) : Ev (fun q => zf3 q x.f0 x.f1 x.f2 x.f3 x.f4) (zuz x) := by
  unfold zf3 zuz
  refine Ev.bind (zn3 ops6 x.f0 (by decide)) ?_
  by_cases h : hasS ops6 x.f0 = true
  · rw [h, Bool.true_and]
    exact zad rfl (Ev.now _)
  · rw [Bool.eq_false_iff.2 h, Bool.false_and]
    exact zal (by decide) (Ev.now _)
theorem zw6 {l : List Instr} (h : okP l) (k : Nat) (hk : k < l.length) (b : Bool) : Ev (fun q => zeq q (l.getD k zN).f0 (l.getD k zN).f1 (l.getD k zN).f2 (l.getD k zN).f3 (l.getD k zN).f4 (cols l k) b) (zx9 l k b) := by
  have hl := h.1
  have col : ∀ r : Nat, r < 2 + k → Ev (fun q => zdl q (l.getD k zN).f0 (l.getD k zN).f1 (l.getD k zN).f2 (l.getD k zN).f3 (l.getD k zN).f4 (cols l k) (zhs (cols l k) (r : Int))) (zqr l k r) := by
    intro r hr
    rw [zv9 l k r hr]
    refine zjh (zua h k _ (h.2 k hk) (by omega) _ (ztp _ _ _)) ?_
    unfold zqr
    rw [Bool.eq_iff_iff, List.all_eq_true, List.all_eq_true]
    constructor
    · intro q i hi
      have := q i hi
      rwa [zqp _ _ _ _ (List.mem_range.1 hi)] at this
    · intro q i hi
      rw [zqp _ _ _ _ (List.mem_range.1 hi)]
      exact q i hi
  have key : ∀ (d r : Nat), r + d = 2 + k → Ev (fun q => zb2 q (cols l k) b (cols l k) ((2 + k : Nat) : Int) r (l.getD k zN).f0 (l.getD k zN).f1 (l.getD k zN).f2 (l.getD k zN).f3 (l.getD k zN).f4)
      (((List.range' r d).any fun r => (!decide (r = 1) || !b) && zqr l k r) || zuz (l.getD k zN)) := by
    intro d
    induction d with
    | zero =>
      intro r hr
      refine Ev.step (fun q => by simp only [zb2]; rfl) (zal (by omega) (Ev.bind (zya _) (Ev.now _)))
    | succ d ih =>
      intro r hr
      have next := ih (r + 1) (by omega)
      rw [List.range'_succ, List.any_cons]
      have body : Ev (fun q => (zdl q (l.getD k zN).f0 (l.getD k zN).f1 (l.getD k zN).f2 (l.getD k zN).f3 (l.getD k zN).f4 (cols l k) (zhs (cols l k) (r : Int))).bind fun t => if t = true then some true else zb2 q (cols l k) b (cols l k) ((2 + k : Nat) : Int) ((r + 1 : Nat) : Int) (l.getD k zN).f0 (l.getD k zN).f1 (l.getD k zN).f2 (l.getD k zN).f3 (l.getD k zN).f4)
          (zqr l k r || (((List.range' (r + 1) d).any fun r => (!decide (r = 1) || !b) && zqr l k r) || zuz (l.getD k zN))) := by
        refine Ev.bind (col r (by omega)) ?_
        by_cases hs : zqr l k r = true
        · rw [hs, Bool.true_or]
          exact zad rfl (Ev.now _)
        · rw [Bool.eq_false_iff.2 hs, Bool.false_or]
          exact zal (by decide) next
      refine Ev.step (fun q => by simp only [zb2]; rfl) (zad (by omega) (zad (by omega) (zad (by rw [zkl]; omega) ?_)))
      rw [w64n r (by omega)]
      by_cases h1 : r = 1
      · refine zad (by omega) ?_
        rw [decide_eq_true h1, Bool.not_true, Bool.false_or]
        cases b with
        | true =>
          refine zad rfl ?_
          rw [Bool.not_true, Bool.false_and, Bool.false_or]
          exact next
        | false =>
          refine zal (by decide) (zjh body ?_)
          rw [Bool.not_false, Bool.true_and, Bool.or_assoc]
      · refine zal (by omega) (zjh body ?_)
        rw [decide_eq_false h1, Bool.not_false, Bool.true_or, Bool.true_and, Bool.or_assoc]
  unfold zeq zx9
  rw [zkl]
  have := key (2 + k) 0 (by omega)
  rw [← List.range_eq_range'] at this
  exact this
theorem zyb {l : List Instr} (h : okP l) (k : Nat) (hk : k < l.length) : Ev (fun q => zeq q (l.getD k zN).f0 (l.getD k zN).f1 (l.getD k zN).f2 (l.getD k zN).f3 (l.getD k zN).f4 (cols l k) (decide (k + 1 = l.length))) (zqs l k) := zw6 h k hk _
theorem zzt (m : List Instr) (hm : m.length ≤ 40) (ok : ∀ x ∈ m, okI x) (r s : Nat) (hr : r ≤ 5) (hs : s ≤ 5) : Ev (fun k => zeg k m (r : Int) (s : Int)) ((List.range 4096).all fun i => decide (rd (atI m i) (r : Int) = rd (atI m i) (s : Int))) := by
  have hb : ∀ a b : Nat, a < 64 → b < 64 → okS (st0 a b) := fun a b ha hb => zy0 (by unfold okV; omega) (by unfold okV; omega)
  let p := fun a b : Nat => decide (rd (runM m (st0 (((a + 37) % 64 : Nat) : Int) (((b + 22) % 64 : Nat) : Int))) (r : Int) = rd (runM m (st0 (((a + 37) % 64 : Nat) : Int) (((b + 22) % 64 : Nat) : Int))) (s : Int))
  have row : ∀ (a : Nat), a < 64 → ∀ (rest : Bool), Ev (fun k => zdc k m (r : Int) (s : Int) ((a + 1 : Nat) : Int)) rest → ∀ (e b : Nat), b + e = 64 → Ev (fun k => zdu k m (r : Int) (s : Int) a b) (((List.range' b e).all (p a)) && rest) := by
    intro a ha rest hrest e
    induction e with
    | zero =>
      intro b hb
      refine Ev.step (fun k => by simp only [zdu]; rfl) (zal (by omega) ?_)
      rw [w64n a (by omega)]
      exact hrest
    | succ e ih =>
      intro b hbe
      rw [List.range'_succ, List.all_cons, Bool.and_assoc]
      have next := ih (b + 1) (by omega)
      have h0 := hb ((a + 37) % 64) ((b + 22) % 64) (by omega) (by omega)
      have hk := (zv6 m ok _ h0).1
      refine Ev.step (fun k => by simp only [zdu]; rfl) (zad (by omega) ?_)
      rw [w64 (x := (a : Int) + 37) (by omega) (by omega), w64 (x := (b : Int) + 22) (by omega) (by omega), w64n b (by omega),
        show Int.tmod ((a : Int) + 37) 64 = (((a + 37) % 64 : Nat) : Int) by rw [Int.tmod_eq_emod_of_nonneg (by omega)]; omega,
        show Int.tmod ((b : Int) + 22) 64 = (((b + 22) % 64 : Nat) : Int) by rw [Int.tmod_eq_emod_of_nonneg (by omega)]; omega]
      refine Ev.call (zsw _ _) (Ev.bind (zv7 m hm ok _ h0) (zad (by omega) (zad (by omega) (zad (by omega) (zad (by omega) ?_)))))
      by_cases he : rd (runM m (st0 (((a + 37) % 64 : Nat) : Int) (((b + 22) % 64 : Nat) : Int))) (r : Int) = rd (runM m (st0 (((a + 37) % 64 : Nat) : Int) (((b + 22) % 64 : Nat) : Int))) (s : Int)
      · rw [show p a b = true from decide_eq_true he, Bool.true_and]
        exact zad he next
      · rw [show p a b = false from decide_eq_false he, Bool.false_and]
        exact zal he (Ev.now _)
  have key : ∀ (d a : Nat), a + d = 64 → Ev (fun k => zdc k m (r : Int) (s : Int) a) ((List.range' a d).all fun a => (List.range 64).all (p a)) := by
    intro d
    induction d with
    | zero =>
      intro a ha
      refine Ev.step (f := fun _ => some true) (fun k => ?_) (Ev.now _)
      simp only [zdc]
      rw [if_neg (by omega)]
    | succ d ih =>
      intro a ha
      rw [List.range'_succ, List.all_cons]
      refine Ev.step (fun k => by simp only [zdc]; rfl) (zad (by omega) ?_)
      have := row a (by omega) _ (ih (a + 1) (by omega)) 64 0 (by omega)
      rw [← List.range_eq_range'] at this
      exact this
  unfold zeg
  have := key 64 0 (by omega)
  rw [← List.range_eq_range'] at this
  refine zjh this ?_
  rw [Bool.eq_iff_iff]
  simp only [List.all_eq_true, List.mem_range, decide_eq_true_eq, p]
  constructor
  · intro q i hi
    have := q ((i / 64 + 27) % 64) (by omega) ((i % 64 + 42) % 64) (by omega)
    rw [show ((i / 64 + 27) % 64 + 37) % 64 = i / 64 by omega, show ((i % 64 + 42) % 64 + 22) % 64 = i % 64 by omega] at this
    exact this
  · intro q a ha b hb
    have := q (64 * ((a + 37) % 64) + (b + 22) % 64) (by omega)
    unfold atI endM at this
    rw [show (64 * ((a + 37) % 64) + (b + 22) % 64) / 64 = (a + 37) % 64 by omega, show (64 * ((a + 37) % 64) + (b + 22) % 64) % 64 = (b + 22) % 64 by omega] at this
    exact this
theorem zzu {l : List Instr} (h : okP l) (k r : Nat) (hk : k < l.length) (hr : r < 2 + k) : ((List.range 4096).all fun i => decide (rd (atI (l.take (k + 1)) i) ((2 + k : Nat) : Int) = rd (atI (l.take (k + 1)) i) (r : Int))) = zqr l k r := by
  have hl := h.1
  unfold zqr
  have e1 := zx2 h k hk 4096 (Nat.le_refl _)
  have e2 := zy3 h k hk r 4096 hr
  rw [Bool.eq_iff_iff, List.all_eq_true, List.all_eq_true]
  have f1 : ∀ i, i < 4096 → rd (atI (l.take (k + 1)) i) ((2 + k : Nat) : Int) = valM (l.getD k zN) (atI (l.take k) i) := fun i hi => by
    rw [← zqp _ _ 4096 i hi, e1]
    exact zlm (fun d => by simp [List.getD, hi])
  have f2 : ∀ i, i < 4096 → rd (atI (l.take (k + 1)) i) (r : Int) = rd (atI (l.take k) i) (r : Int) := fun i hi => by
    rw [← zqp _ _ 4096 i hi, e2, zqp _ _ 4096 i hi]
  constructor
  · intro q i hi
    have := q i hi
    rwa [f1 i (List.mem_range.1 hi), f2 i (List.mem_range.1 hi)] at this
  · intro q i hi
    rw [f1 i (List.mem_range.1 hi), f2 i (List.mem_range.1 hi)]
    exact q i hi
theorem zyc {l : List Instr} (h : okP l) : Ev (fun q => zgf q l) (zue l) := by
  have hl := h.1
  have inner : ∀ (k : Nat), k < l.length → ∀ (rest : Bool), Ev (fun q => zcq q l l l.length ((k + 1 : Nat) : Int)) rest → ∀ (d r : Nat), r + d = 2 + k →
      Ev (fun q => zbl q l k r l l.length k) (((List.range' r d).any fun r => (!decide (r = 1) || !decide (k + 1 = l.length)) && zqr l k r) || rest) := by
    intro k hk rest hrest d
    induction d with
    | zero =>
      intro r hr
      refine Ev.step (fun q => by simp only [zbl]; rfl) ?_
      rw [w64 (x := 2 + (k : Int)) (by omega) (by omega), w64n k (by omega)]
      refine zal (by omega) ?_
      exact hrest
    | succ d ih =>
      intro r hr
      have next := ih (r + 1) (by omega)
      rw [List.range'_succ, List.any_cons, Bool.or_assoc]
      have hal := zzt (l.take (k + 1)) (by rw [List.length_take]; omega) (zv8 h (k + 1)) (2 + k) r (by omega) (by omega)
      rw [zzu h k r hk (by omega)] at hal
      have body : Ev (fun q => (zeg q (l.take (k + 1)) ((2 + k : Nat) : Int) (r : Int)).bind fun t => if t = true then some true else zbl q l k ((r + 1 : Nat) : Int) l l.length k)
          (zqr l k r || (((List.range' (r + 1) d).any fun r => (!decide (r = 1) || !decide (k + 1 = l.length)) && zqr l k r) || rest)) := by
        refine Ev.bind hal ?_
        by_cases hs : zqr l k r = true
        · rw [hs, Bool.true_or]
          exact zad rfl (Ev.now _)
        · rw [Bool.eq_false_iff.2 hs, Bool.false_or]
          exact zal (by decide) next
      refine Ev.step (fun q => by simp only [zbl]; rfl) ?_
      rw [w64 (x := 2 + (k : Int)) (by omega) (by omega), w64n k (by omega), w64n r (by omega), Int.toNat_natCast, show 2 + (k : Int) = ((2 + k : Nat) : Int) by omega]
      refine zad (by omega) ?_
      by_cases h1 : r = 1
      · refine zad (by omega) ?_
        rw [decide_eq_true h1, Bool.not_true, Bool.false_or]
        by_cases h2 : k + 1 = l.length
        · refine zal (by omega) ?_
          rw [decide_eq_true h2, Bool.not_true, Bool.false_and, Bool.false_or]
          rw [decide_eq_true h2] at next
          exact next
        · refine zad (by omega) (zad (by omega) (zad (by omega) (zjh body ?_)))
          rw [decide_eq_false h2, Bool.not_false, Bool.true_and]
      · refine zal (by omega) (zad (by omega) (zad (by omega) (zjh body ?_)))
        rw [decide_eq_false h1, Bool.not_false, Bool.true_or, Bool.true_and]
  have key : ∀ (d k : Nat), k + d = l.length → Ev (fun q => zcq q l l l.length k) ((List.range' k d).any (zqs l)) := by
    intro d
    induction d with
    | zero =>
      intro k hk
      refine Ev.step (f := fun _ => some false) (fun q => ?_) (Ev.now _)
      simp only [zcq]
      rw [if_neg (by omega)]
    | succ d ih =>
      intro k hk
      rw [List.range'_succ, List.any_cons]
      have next := inner k (by omega) _ (ih (k + 1) (by omega)) (2 + k) 0 (by omega)
      rw [← List.range_eq_range'] at next
      have j1 : ∀ b : Bool, Ev (fun q => zdv q l k l l.length k b) (b || (((List.range (2 + k)).any fun r => (!decide (r = 1) || !decide (k + 1 = l.length)) && zqr l k r) || (List.range' (k + 1) d).any (zqs l))) := by
        intro b
        refine Ev.step (fun q => by simp only [zdv]; rfl) ?_
        cases b with
        | true => exact zad rfl (Ev.now _)
        | false => exact zal (by decide) next
      refine Ev.step (fun q => by simp only [zcq]; rfl) (zad (by omega) (zad (by omega) (zad (by omega) ?_)))
      rw [zv3 l k (by omega)]
      have fin : zqs l k = (((List.range (2 + k)).any fun r => (!decide (r = 1) || !decide (k + 1 = l.length)) && zqr l k r) || zuz (l.getD k zN)) := rfl
      by_cases ht : (l.getD k zN).f2 > (l.getD k zN).f3
      · refine zad ht (Ev.bind (zpr ops6 (l.getD k zN).f0 (by decide)) (zjh (j1 _) ?_))
        rw [fin, show zuz (l.getD k zN) = hasS ops6 (l.getD k zN).f0 by unfold zuz; rw [decide_eq_true ht, Bool.and_true]]
        cases hasS ops6 (l.getD k zN).f0 <;> simp
      · refine zal ht (zjh (j1 _) ?_)
        rw [fin, show zuz (l.getD k zN) = false by unfold zuz; rw [decide_eq_false ht, Bool.and_false], Bool.or_false, Bool.false_or]
  unfold zgf zue
  have := key l.length 0 (by omega)
  rw [← List.range_eq_range'] at this
  exact this
theorem zzv {l : List Instr} (h : okP l) {m : Nat} (hm : m ≤ l.length) {k : Nat} (hk : k ≤ m) : (cols l m).take (2 + k) = cols l k := by
  rw [← zt9 h m (l.length - m) (by omega), List.take_take, Nat.min_eq_left (by omega), zt9 h k (l.length - k) (by omega)]
theorem zw7 {l : List Instr} (h : okP l) (m : Nat) (hm : m ≤ l.length) (hm2 : l.length ≤ m + 1) : Ev (fun q => zf7 q l (cols l m)) (zue l) := by
  have hl := h.1
  have key : ∀ (d k : Nat), k + d = l.length → Ev (fun q => zcm q l (cols l m) l l.length k) ((List.range' k d).any (zqs l)) := by
    intro d
    induction d with
    | zero =>
      intro k hk
      refine Ev.step (f := fun _ => some false) (fun q => ?_) (Ev.now _)
      simp only [zcm]
      rw [if_neg (by omega)]
    | succ d ih =>
      intro k hk
      rw [List.range'_succ, List.any_cons]
      refine Ev.step (fun q => by simp only [zcm]; rfl) (zad (by omega) (zad (by omega) (zad (by omega) ?_)))
      rw [w64 (x := 2 + (k : Int)) (by omega) (by omega), w64 (x := (l.length : Int) - 1) (by omega) (by omega), w64n k (by omega), zv3 l k (by omega), show (2 + (k : Int)).toNat = 2 + k by omega, zzv h hm (show k ≤ m by omega)]
      refine zad (by omega) (zad (by rw [zkl]; omega) ?_)
      rw [show ((k : Int) == (l.length : Int) - 1) = decide (k + 1 = l.length) by
        rw [Bool.eq_iff_iff, beq_iff_eq, decide_eq_true_eq]
        omega]
      refine Ev.bind (zyb h k (by omega)) ?_
      by_cases hr : zqs l k = true
      · rw [hr, Bool.true_or]
        exact zad rfl (Ev.now _)
      · rw [Bool.eq_false_iff.2 hr, Bool.false_or]
        exact zal (by decide) (ih (k + 1) (by omega))
  unfold zf7 zue
  have := key l.length 0 (by omega)
  rw [← List.range_eq_range'] at this
  exact this
def zzw (e : List Node) (l : List Instr) : Bool := reachB e l && !zue l
def zwf (e : List Node) (os : List ByteArray) (ims : List Int) (most : Int) : List Instr × Bool := if zuy e os ims most = true then zud os ims (zzw e) (most.toNat + 1) 0 else ([], false)
theorem zuf (os : List ByteArray) (ims : List Int) (p : List Instr → Bool) : ∀ m i, i + m ≤ 4 → (zud os ims p m i).1.length ≤ 3
  | 0, _, _ => Nat.zero_le _
  | m + 1, i, h => by
    simp only [zud]
    cases hf : (zkm os ims i []).find? p with
    | none => exact zuf os ims p m (i + 1) (by omega)
    | some l =>
      have := (zy6 os ims i [] l (List.mem_of_find?_eq_some hf)).1
      show l.length ≤ 3
      rw [this, List.length_nil]
      omega
theorem ybh (e : List Node) (os : List ByteArray) (ims : List Int) (most : Int) : (zwf e os ims most).1.length ≤ 3 := by
  unfold zwf
  by_cases h : zuy e os ims most = true
  · obtain ⟨h1, h2, h3, h4⟩ := zwe h
    rw [if_pos h]
    exact zuf os ims _ _ 0 (by omega)
  · rw [if_neg h]
    exact Nat.zero_le _
theorem zug (e : List Node) (os : List ByteArray) (ims : List Int) (most : Int) (ho : os.length ≤ 1048576) (hi : ims.length ≤ 1048576) : Ev (fun k => zgl k e os ims most) (zwf e os ims most) := by
  unfold zgl shF zwf
  refine Ev.bind (zx8 e os ims most ho hi) ?_
  by_cases h : zuy e os ims most = true
  · obtain ⟨h1, h2, h3, h4⟩ := zwe h
    obtain ⟨⟨e1, e2⟩, e3⟩ := zww h1
    have hs := yfp e os ims h2 prAc (fun l => !zue l) (fun l hl => by unfold prAc; exact Ev.bind (zw7 hl (l.length - 1) (by omega) (by omega)) (Ev.now _)) (most.toNat + 1) 0 (by omega)
    refine zad h (zad ⟨h3, by omega⟩ (Ev.bind (zzr e e3 (by omega) (by omega)) (Ev.bind (yd7 e e3 (by omega) (by omega)) ?_)))
    rw [if_pos h, show (most + 1).toNat = most.toNat + 1 by omega]
    exact hs
  · rw [if_neg h]
    exact zal h (Ev.now _)
theorem zyd (e : List Node) (os : List ByteArray) (ims : List Int) (most : Int) (ho : os.length ≤ 1048576) (hi : ims.length ≤ 1048576) : Ev (fun k => zfq k e os ims most) (zwf e os ims most) := by
  unfold zfq zwf
  refine Ev.bind (ybg e os ims most ho hi) ?_
  by_cases h : zuy e os ims most = true
  · obtain ⟨h1, h2, h3, h4⟩ := zwe h
    obtain ⟨⟨e1, e2⟩, e3⟩ := zww h1
    obtain ⟨N, rfl⟩ : ∃ N : Nat, most = (N : Int) := ⟨most.toNat, by omega⟩
    rw [if_pos h, Int.toNat_natCast]
    refine zad h ?_
    have row : ∀ (n : Nat) (rest : List Instr × Bool), n ≤ 3 → Ev (fun k => zcd k e (N : Int) ((n + 1 : Nat) : Int) os ims) rest → ∀ (d a : Nat), a + d = cntM os ims n → Ev (fun k => zce k e (N : Int) (n : Int) (a : Int) os ims) (match ((zkm os ims n []).drop a).find? (zzw e) with | some l => (l, true) | none => rest) := by
      intro n rest hn hrest d
      obtain ⟨ho', hi', hc⟩ := zo5 h2
      have hle := zwc os ims ho' hi' n hn
      have hct := zx4 os ims n
      induction d with
      | zero =>
        intro a ha
        refine Ev.step (fun k => by simp only [zce]; rfl) (Ev.bind (zvg os ims h2 n hn) ?_)
        refine zal (by omega) ?_
        rw [List.drop_of_length_le (by omega), w64n n (by omega)]
        exact hrest
      | succ d ih =>
        intro a ha
        have hin := ycg os ims n a (by omega)
        have hd : (zkm os ims n []).drop a = wthN os ims n a :: (zkm os ims n []).drop (a + 1) := by
          obtain ⟨g1, g2⟩ := List.getElem?_eq_some_iff.1 hin
          rw [List.drop_eq_getElem_cons g1, g2]
        have hw := ya7 os ims h2 n hn (a : Int) (by omega) (by omega)
        rw [ya8] at hw
        have hok : okP (wthN os ims n a) := zy8 os ims h2 n [] _ (by simpa using hn) ya9 (List.mem_of_getElem? hin)
        have next := ih (a + 1) (by omega)
        rw [hd]
        refine Ev.step (fun k => by simp only [zce]; rfl) (Ev.bind (zvg os ims h2 n hn) ?_)
        refine zad (by omega) ?_
        refine Ev.bind hw (Ev.bind (zw5 e e3 (by omega) (by omega) hok) ?_)
        rw [w64n a (by omega)]
        cases hr : reachB e (wthN os ims n a) with
        | false =>
          rw [List.find?_cons_of_neg (by unfold zzw; rw [hr, Bool.false_and]; decide)]
          exact zal (by decide) next
        | true =>
          refine zad rfl (Ev.bind (zyc hok) ?_)
          cases hp : zue (wthN os ims n a) with
          | true =>
            rw [List.find?_cons_of_neg (by unfold zzw; rw [hr, hp]; decide)]
            exact zad rfl next
          | false =>
            rw [List.find?_cons_of_pos (by unfold zzw; rw [hr, hp]; rfl)]
            exact zal (by decide) (Ev.now _)
    have key : ∀ (m i : Nat), i + m = N + 1 → Ev (fun k => zcd k e (N : Int) (i : Int) os ims) (zud os ims (zzw e) m i) := by
      intro m
      induction m with
      | zero =>
        intro i hi
        refine Ev.step (fun k => by simp only [zcd]; rfl) ?_
        exact zal (by omega) (Ev.now _)
      | succ m ih =>
        intro i hi
        refine Ev.step (fun k => by simp only [zcd]; rfl) ?_
        refine zad (by omega) ?_
        have := row i _ (by omega) (ih (i + 1) (by omega)) (cntM os ims i) 0 (by omega)
        rw [List.drop_zero] at this
        exact this
    exact key (N + 1) 0 (by omega)
  · rw [if_neg h]
    exact zal h (Ev.now _)
end Go.Proofs.YtnaafcleafbejaaGreat.PL
end
