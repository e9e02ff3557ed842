/- Proved here: contracts of functions that the law FnExactCheapestFor reaches, and lemmas on what they compute; texts of this session and the printed words of the kit that they lean on, cut down and put together by its program link.py. Conditions: as each states. -/
import Derived.Carry
import Derived.Deep.DeepMust
import Derived.Deep.Slices
import Derived.Laws.BitsLemmas
import Derived.Laws.EntriesVeiled
import Derived.ProofKit
import Derived.Test.YtnaafcleafbejaaGreatZFnExactCheapestFor1
import Derived.Test.YtnaafcleafbejaaGreatZFnExactCheapestFor2
import Derived.Test.YtnaafcleafbejaaGreatZFnExactCheapestFor3
import Derived.Test.YtnaafcleafbejaaGreatZFnExactCheapestFor4
section
namespace Go.Proofs.YtnaafcleafbejaaGreat.Q
open Go.RowKit Go.Proofs.YtnaafcleafbejaaGreatW.PrintWords Go.Proofs.YtnaafcleafbejaaGreatW.PrintLast Go.Proofs.YtnaafcleafbejaaGreatW.PrintMore
set_option maxHeartbeats 8000000
set_option maxRecDepth 100000
attribute [local go_sem] zb8 zb9 zda zdb zbm zbo zcb zcc
set_option linter.unusedVariables false
set_option linter.unusedSimpArgs false
mutual
def zak : Nat → List (S58) → Int → List (S69) → Bool → List (S62) → List (S69) → Bool → Bool → List ByteArray → List Int → List ByteArray → List Int → Option (Bool)
 | 0, _, _, _, _, _, _, _, _, _, _, _, _ => none
 | k + 1, x0, x2, x8, x9, x10, x12, x13, x57, x102000, x102001, x127000, x127001 => if x57 = true then (none) else ((zb1 k x0).bind fun t132 => ((zgg k x10 t132).bind fun t135 => (if t135 = true then ((za6 k x102000 x102001).bind fun bt136 => ((zey k x127000 x127001 bt136.1 bt136.2).bind fun t142 => (if t142 = true then ((zed k x10 1).bind fun bt143 => ((zdh k x127000 x127001 bt143.1).bind fun bt145 => (if bt145.1 < 0 then (none) else ((zay k x12 x8).bind fun t148 => (if t148 = true then (zao k x0 x2 x8 x9 x12 (x13 != x9) x102000 x102001) else (none)))))) else (none)))) else (none))))
def zao : Nat → List (S58) → Int → List (S69) → Bool → List (S69) → Bool → List ByteArray → List Int → Option (Bool)
 | 0, _, _, _, _, _, _, _, _ => none
 | k + 1, x0, x2, x8, x9, x12, x86, x102000, x102001 => if x86 = true then (none) else ((zfn k x12 1).bind fun bt149 => ((zet k bt149.2 1).bind fun t151 => (if t151 < 0 then (none) else (if t151 = bt149.1 then ((zb1 k x0).bind fun t152 => ((za6 k x102000 x102001).bind fun bt155 => ((zbi k t152 bt155.1 bt155.2 x2).bind fun bt161 => ((zay k bt161.1 x8).bind fun t165 => (if t165 = true then (zaq k bt149.2 bt149.1 (bt161.2 != x9)) else (none)))))) else (none)))))
def zaq : Nat → List (S69) → Int → Bool → Option (Bool)
 | 0, _, _, _ => none
 | k + 1, x12, x15, x115 => if x115 = true then (none) else ((zet k x12 1).bind fun t166 => (if t166 < 0 then (none) else (if t166 = x15 then (some true) else (none))))
end
def zcu (k : Nat) (l0 : List (S58)) (l1_0 : List ByteArray) (l1_1 : List Int) (a2 : Int) : Option (Bool) := (zfq k l0 1048576).bind fun t102 => (if t102 < 0 then (some true) else ((zff k l1_0 l1_1 t102).bind fun t103 => (if t103 < 0 then (some true) else ((zb1 k l0).bind fun t104 => ((za6 k l1_0 l1_1).bind fun bt107 => ((zc8 k t104 bt107.1 bt107.2 a2).bind fun bt113 => ((zb1 k l0).bind fun t117 => ((za6 k l1_0 l1_1).bind fun bt120 => ((zbi k t117 bt120.1 bt120.2 a2).bind fun bt127 => ((zay k bt127.1 bt113.1).bind fun t131 => (if t131 = true then (zak k l0 a2 bt113.1 bt113.2 t117 bt127.1 bt127.2 (bt127.2 != bt113.2) l1_0 l1_1 bt120.1 bt120.2) else (none))))))))))))
theorem zhs : ∀ k, (∀ y0 y1 y2 y3 y4 y5 y6 y7 y8 y9 y10 y11, LeO (zak k y0 y1 y2 y3 y4 y5 y6 y7 y8 y9 y10 y11) (zak (k + 1) y0 y1 y2 y3 y4 y5 y6 y7 y8 y9 y10 y11)) ∧ (∀ y0 y1 y2 y3 y4 y5 y6 y7, LeO (zao k y0 y1 y2 y3 y4 y5 y6 y7) (zao (k + 1) y0 y1 y2 y3 y4 y5 y6 y7)) ∧ (∀ y0 y1 y2, LeO (zaq k y0 y1 y2) (zaq (k + 1) y0 y1 y2))
 | 0 => ⟨fun _ _ _ _ _ _ _ _ _ _ _ _ r h => by simp [zak] at h, fun _ _ _ _ _ _ _ _ r h => by simp [zao] at h, fun _ _ _ r h => by simp [zaq] at h⟩
 | k + 1 => by
   obtain ⟨ih0, ih1, ih2⟩ := zhs k
   refine ⟨?_, ?_, ?_⟩
   · intro y0 y1 y2 y3 y4 y5 y6 y7 y8 y9 y10 y11
     unfold zak
     repeat' first
     | (with_reducible first | exact ih0 _ _ _ _ _ _ _ _ _ _ _ _ | exact ih1 _ _ _ _ _ _ _ _ | exact ih2 _ _ _ | exact zgz _ _ _ _ _ | exact zii _ _ _ _ _ | exact zij _ _ _ | exact zi4 _ _ _ | exact zhb _ _ _ | exact zhc _ _ _ _ | exact zhd _ _ _ | exact zhz _ _ _ | exact zik _ _ _ _ | exact zi6 _ _ _ | exact zil _ _ _ | exact zi7 _ _ | exact zg3 _ _ _ _ _ | exact LeO.refl _ | exact LeO.none _ | refine zee ?_ ?_ | refine LeO.bind ?_ (fun _ => ?_))
     | exact LeO.none _
     | refine zee ?_ ?_
     | refine LeO.bind ?_ (fun _ => ?_)
   · intro y0 y1 y2 y3 y4 y5 y6 y7
     unfold zao
     repeat' first
     | (with_reducible first | exact ih0 _ _ _ _ _ _ _ _ _ _ _ _ | exact ih1 _ _ _ _ _ _ _ _ | exact ih2 _ _ _ | exact zgz _ _ _ _ _ | exact zii _ _ _ _ _ | exact zij _ _ _ | exact zi4 _ _ _ | exact zhb _ _ _ | exact zhc _ _ _ _ | exact zhd _ _ _ | exact zhz _ _ _ | exact zik _ _ _ _ | exact zi6 _ _ _ | exact zil _ _ _ | exact zi7 _ _ | exact zg3 _ _ _ _ _ | exact LeO.refl _ | exact LeO.none _ | refine zee ?_ ?_ | refine LeO.bind ?_ (fun _ => ?_))
     | exact LeO.none _
     | refine zee ?_ ?_
     | refine LeO.bind ?_ (fun _ => ?_)
   · intro y0 y1 y2
     unfold zaq
     repeat' first
     | (with_reducible first | exact ih0 _ _ _ _ _ _ _ _ _ _ _ _ | exact ih1 _ _ _ _ _ _ _ _ | exact ih2 _ _ _ | exact zgz _ _ _ _ _ | exact zii _ _ _ _ _ | exact zij _ _ _ | exact zi4 _ _ _ | exact zhb _ _ _ | exact zhc _ _ _ _ | exact zhd _ _ _ | exact zhz _ _ _ | exact zik _ _ _ _ | exact zi6 _ _ _ | exact zil _ _ _ | exact zi7 _ _ | exact zg3 _ _ _ _ _ | exact LeO.refl _ | exact LeO.none _ | refine zee ?_ ?_ | refine LeO.bind ?_ (fun _ => ?_))
     | exact LeO.none _
     | refine zee ?_ ?_
     | refine LeO.bind ?_ (fun _ => ?_)
theorem zs2 : ∀ a0 a1 a2 a3 k, LeO (zcu k a0 a1 a2 a3) (zcu (k + 1) a0 a1 a2 a3) := by
 intro a0 a1 a2 a3 k
 obtain ⟨ih0, ih1, ih2⟩ := zhs k
 unfold zcu
 repeat' first
     | (with_reducible first | exact ih0 _ _ _ _ _ _ _ _ _ _ _ _ | exact ih1 _ _ _ _ _ _ _ _ | exact ih2 _ _ _ | exact zgz _ _ _ _ _ | exact zii _ _ _ _ _ | exact zij _ _ _ | exact zi4 _ _ _ | exact zhb _ _ _ | exact zhc _ _ _ _ | exact zhd _ _ _ | exact zhz _ _ _ | exact zik _ _ _ _ | exact zi6 _ _ _ | exact zil _ _ _ | exact zi7 _ _ | exact zg3 _ _ _ _ _ | exact LeO.refl _ | exact LeO.none _ | refine zee ?_ ?_ | refine LeO.bind ?_ (fun _ => ?_))
     | exact LeO.none _
     | refine zee ?_ ?_
     | refine LeO.bind ?_ (fun _ => ?_)
def laws_FnExactCheapestFor.T8 : Bool × List (List Nat × List Nat) := (true, [([], []), ([0], [0]), ([], []), ([2, 1], [2]), ([], []), ([1, 3, 4, 3], [1, 3, 4]), ([5], [5]), ([6], [6]), ([6], [6]), ([7, 5, 0, 1, 2, 3, 4, 5, 6, 7], [7]), ([8, 9, 0, 1, 2, 3, 4, 5, 6, 7, 8, 9], [8])])
def zms : List Nat := [0, 1, 0, 7, 0, 31, 63, 127, 127, 255, 1023]
theorem zl6 : rtab .any (zsg Tryz.f4 8) = laws_FnExactCheapestFor.T8 := by kernel_rfl
theorem zlf : zid laws_FnExactCheapestFor.T8.2 zms = true := by kernel_rfl
def laws_FnExactCheapestFor.T31 : Bool × List (List Nat × List Nat) := (true, [([], []), ([0], [0]), ([], []), ([2, 1], [2]), ([], []), ([1, 3, 4, 3], [1, 3, 4]), ([5], [5]), ([6], [6]), ([6], [6]), ([7, 5, 0, 1, 2, 3, 4, 5, 6, 7], [7]), ([8, 9, 0, 1, 2, 3, 4, 5, 6, 7, 8, 9], [8])])
def zmo : List Nat := [0, 1, 0, 7, 0, 31, 63, 127, 127, 255, 1023]
theorem zlg : rtab .any (zsg Tryz.f4 31) = laws_FnExactCheapestFor.T31 := by kernel_rfl
theorem zk5 : zid laws_FnExactCheapestFor.T31.2 zmo = true := by kernel_rfl
theorem zlh (k : Nat) (A0 : Option Addr) (c0 : Nat) (l0 : List (S58)) (A1_0 : Option Addr) (c1_0 : Nat) (l1_0 : List ByteArray) (A1_1 : Option Addr) (c1_1 : Nat) (l1_1 : List Int) (a2 : Int) (r : Bool) (w : World) (hr0 : Kd.C k58 w A0 l0.length l0) (hc0 : l0.length ≤ c0) (hr1_0 : Kd.C Kd.string w A1_0 l1_0.length l1_0) (hc1_0 : l1_0.length ≤ c1_0) (hr1_1 : Kd.C (Kd.int .i64) w A1_1 l1_1.length l1_1) (hc1_1 : l1_1.length ≤ c1_1) (h : zcu k l0 l1_0 l1_1 a2 = some r) :
   Calls Tryz.prog 4 #[.slice A0 l0.length c0, .agg #[.slice A1_0 l1_0.length c1_0, .slice A1_1 l1_1.length c1_1], .int .i64 a2] w fun e w' => e = .returned (.bool r) ∧ Below w.heap.size w w' := by
 have hu26 := Tryz.underlying26
 have hu34 := Tryz.underlying34
 have HR0 := zA hr0
 have HC0 := zA hc0
 clear hr0 hc0
 have HR1_0 := zA hr1_0
 have HC1_0 := zA hc1_0
 clear hr1_0 hc1_0
 have HR1_1 := zA hr1_1
 have HC1_1 := zA hc1_1
 clear hr1_1 hc1_1
 have HB := zA (Below.refl w.heap.size w)
 have H : ((zfq k l0 1048576).bind fun t102 => (if t102 < 0 then (some true) else ((zff k l1_0 l1_1 t102).bind fun t103 => (if t103 < 0 then (some true) else ((zb1 k l0).bind fun t104 => ((za6 k l1_0 l1_1).bind fun bt107 => ((zc8 k t104 bt107.1 bt107.2 a2).bind fun bt113 => ((zb1 k l0).bind fun t117 => ((za6 k l1_0 l1_1).bind fun bt120 => ((zbi k t117 bt120.1 bt120.2 a2).bind fun bt127 => ((zay k bt127.1 bt113.1).bind fun t131 => (if t131 = true then (zak k l0 a2 bt113.1 bt113.2 t117 bt127.1 bt127.2 (bt127.2 != bt113.2) l1_0 l1_1 bt120.1 bt120.2) else (none))))))))))))) = some r := h
 clear h
 replace H := zob H
 obtain ⟨t102, A40, H⟩ := H
 replace H : (if t102 < 0 then (some true) else ((zff k l1_0 l1_1 t102).bind fun t103 => (if t103 < 0 then (some true) else ((zb1 k l0).bind fun t104 => ((za6 k l1_0 l1_1).bind fun bt107 => ((zc8 k t104 bt107.1 bt107.2 a2).bind fun bt113 => ((zb1 k l0).bind fun t117 => ((za6 k l1_0 l1_1).bind fun bt120 => ((zbi k t117 bt120.1 bt120.2 a2).bind fun bt127 => ((zay k bt127.1 bt113.1).bind fun t131 => (if t131 = true then (zak k l0 a2 bt113.1 bt113.2 t117 bt127.1 bt127.2 (bt127.2 != bt113.2) l1_0 l1_1 bt120.1 bt120.2) else (none)))))))))))) = some r := H
 have A4 := zA A40
 clear A40
 by_cases c5 : t102 < 0
 · rw [if_pos c5] at H
   have c5b0 := zdt c5
   clear c5
   obtain rfl := zsi H
   go_enter Tryz.func4, Tryz.ntmps4
   go_wp2_with (first | ((with_reducible refine zgd 4 ?_); refine zbx #[.slice A1_0 l1_0.length c1_0, .slice A1_1 l1_1.length c1_1] 26 ?_; intro gb101 hg w6 hbox hb; have zs := zpair zq2 hb; replace HB := zA (zs.1); have BK101 := zA (hbox); have GW101 := zA (zge hg zs.2); have GE101 := GW101; clear zs hb hbox hg) | ((with_reducible refine zgc 8 ?_); refine zca 21 Tryz.func8 #[.slice A0 l0.length c0, .int .i64 1048576] (zj0 k _ _ l0 1048576 t102 _ (zq8 HR0) HC0.out A4.out) ?_; rintro e w7 ⟨rfl, hb⟩; refine ⟨_, rfl, ?_⟩; replace BK101 := zbb BK101 hb; replace HB := zA (zaa (zq1 GE101) hb); (try clear hb)))
   go_ret
   exact ⟨zq5, zq1 GE101⟩
 rw [if_neg c5] at H
 have c5b0 := zdf c5
 clear c5
 replace H := zob H
 obtain ⟨t103, A80, H⟩ := H
 replace H : (if t103 < 0 then (some true) else ((zb1 k l0).bind fun t104 => ((za6 k l1_0 l1_1).bind fun bt107 => ((zc8 k t104 bt107.1 bt107.2 a2).bind fun bt113 => ((zb1 k l0).bind fun t117 => ((za6 k l1_0 l1_1).bind fun bt120 => ((zbi k t117 bt120.1 bt120.2 a2).bind fun bt127 => ((zay k bt127.1 bt113.1).bind fun t131 => (if t131 = true then (zak k l0 a2 bt113.1 bt113.2 t117 bt127.1 bt127.2 (bt127.2 != bt113.2) l1_0 l1_1 bt120.1 bt120.2) else (none)))))))))) = some r := H
 have A8 := zA A80
 clear A80
 by_cases c9 : t103 < 0
 · rw [if_pos c9] at H
   have c9b0 := zdt c9
   clear c9
   obtain rfl := zsi H
   go_enter Tryz.func4, Tryz.ntmps4
   go_wp2_with (first | ((with_reducible refine zgd 4 ?_); refine zbx #[.slice A1_0 l1_0.length c1_0, .slice A1_1 l1_1.length c1_1] 26 ?_; intro gb101 hg w10 hbox hb; have zs := zpair zq2 hb; replace HB := zA (zs.1); have BK101 := zA (hbox); have GW101 := zA (zge hg zs.2); have GE101 := GW101; clear zs hb hbox hg) | ((with_reducible refine zgc 8 ?_); refine zca 21 Tryz.func8 #[.slice A0 l0.length c0, .int .i64 1048576] (zj0 k _ _ l0 1048576 t102 _ (zq8 HR0) HC0.out A4.out) ?_; rintro e w11 ⟨rfl, hb⟩; refine ⟨_, rfl, ?_⟩; replace BK101 := zbb BK101 hb; replace HB := zA (zaa (zq1 GE101) hb); (try clear hb); obtain ⟨hcz12_0, hcz12_1⟩ := zc2 w11 (.slice A1_0 l1_0.length c1_0) (.slice A1_1 l1_1.length c1_1) BK101.out; obtain ⟨hfz12_0, hfz12_1⟩ := zf2 BK101.out) | ((with_reducible refine zgc 9 ?_); refine zca 26 Tryz.func9 #[.agg #[.slice A1_0 l1_0.length c1_0, .slice A1_1 l1_1.length c1_1], .int .i64 t102] (zmg k _ _ l1_0 _ _ l1_1 t102 t103 _ (zq8 HR1_0) HC1_0.out (zq8 HR1_1) HC1_1.out A8.out) ?_; rintro e w13 ⟨rfl, hb⟩; refine ⟨_, rfl, ?_⟩; replace BK101 := zbb BK101 hb; replace HB := zA (zaa (zq1 GE101) hb); (try clear hb)))
   go_ret
   exact ⟨zq5, zq1 GE101⟩
 rw [if_neg c9] at H
 have c9b0 := zdf c9
 clear c9
 replace H := zob H
 obtain ⟨t104, A140, H⟩ := H
 replace H : ((za6 k l1_0 l1_1).bind fun bt107 => ((zc8 k t104 bt107.1 bt107.2 a2).bind fun bt113 => ((zb1 k l0).bind fun t117 => ((za6 k l1_0 l1_1).bind fun bt120 => ((zbi k t117 bt120.1 bt120.2 a2).bind fun bt127 => ((zay k bt127.1 bt113.1).bind fun t131 => (if t131 = true then (zak k l0 a2 bt113.1 bt113.2 t117 bt127.1 bt127.2 (bt127.2 != bt113.2) l1_0 l1_1 bt120.1 bt120.2) else (none)))))))) = some r := H
 have A14 := zA A140
 clear A140
 replace H := zob H
 obtain ⟨⟨t107, t110⟩, A150, H⟩ := H
 replace H : ((zc8 k t104 t107 t110 a2).bind fun bt113 => ((zb1 k l0).bind fun t117 => ((za6 k l1_0 l1_1).bind fun bt120 => ((zbi k t117 bt120.1 bt120.2 a2).bind fun bt127 => ((zay k bt127.1 bt113.1).bind fun t131 => (if t131 = true then (zak k l0 a2 bt113.1 bt113.2 t117 bt127.1 bt127.2 (bt127.2 != bt113.2) l1_0 l1_1 bt120.1 bt120.2) else (none))))))) = some r := H
 have A15 := zA A150
 clear A150
 replace H := zob H
 obtain ⟨⟨t113, t116⟩, A160, H⟩ := H
 replace H : ((zb1 k l0).bind fun t117 => ((za6 k l1_0 l1_1).bind fun bt120 => ((zbi k t117 bt120.1 bt120.2 a2).bind fun bt127 => ((zay k bt127.1 t113).bind fun t131 => (if t131 = true then (zak k l0 a2 t113 t116 t117 bt127.1 bt127.2 (bt127.2 != t116) l1_0 l1_1 bt120.1 bt120.2) else (none)))))) = some r := H
 have A16 := zA A160
 clear A160
 replace H := zob H
 obtain ⟨t117, A170, H⟩ := H
 replace H : ((za6 k l1_0 l1_1).bind fun bt120 => ((zbi k t117 bt120.1 bt120.2 a2).bind fun bt127 => ((zay k bt127.1 t113).bind fun t131 => (if t131 = true then (zak k l0 a2 t113 t116 t117 bt127.1 bt127.2 (bt127.2 != t116) l1_0 l1_1 bt120.1 bt120.2) else (none))))) = some r := H
 have A17 := zA A170
 clear A170
 replace H := zob H
 obtain ⟨⟨t120, t123⟩, A180, H⟩ := H
 replace H : ((zbi k t117 t120 t123 a2).bind fun bt127 => ((zay k bt127.1 t113).bind fun t131 => (if t131 = true then (zak k l0 a2 t113 t116 t117 bt127.1 bt127.2 (bt127.2 != t116) l1_0 l1_1 t120 t123) else (none)))) = some r := H
 have A18 := zA A180
 clear A180
 replace H := zob H
 obtain ⟨⟨t127, t130⟩, A190, H⟩ := H
 replace H : ((zay k t127 t113).bind fun t131 => (if t131 = true then (zak k l0 a2 t113 t116 t117 t127 t130 (t130 != t116) l1_0 l1_1 t120 t123) else (none))) = some r := H
 have A19 := zA A190
 clear A190
 have HC20 := zA H
 clear H
 go_enter Tryz.func4, Tryz.ntmps4
 try go_wp2_with (first | ((with_reducible refine zgd 4 ?_); refine zbx #[.slice A1_0 l1_0.length c1_0, .slice A1_1 l1_1.length c1_1] 26 ?_; intro gb101 hg w21 hbox hb; have zs := zpair zq2 hb; replace HB := zA (zs.1); have BK101 := zA (hbox); have GW101 := zA (zge hg zs.2); have GE101 := GW101; clear zs hb hbox hg) | ((with_reducible refine zgc 8 ?_); refine zca 21 Tryz.func8 #[.slice A0 l0.length c0, .int .i64 1048576] (zj0 k _ _ l0 1048576 t102 _ (zq8 HR0) HC0.out A4.out) ?_; rintro e w22 ⟨rfl, hb⟩; refine ⟨_, rfl, ?_⟩; replace BK101 := zbb BK101 hb; replace HB := zA (zaa (zq1 GE101) hb); (try clear hb); obtain ⟨hcz23_0, hcz23_1⟩ := zc2 w22 (.slice A1_0 l1_0.length c1_0) (.slice A1_1 l1_1.length c1_1) BK101.out; obtain ⟨hfz23_0, hfz23_1⟩ := zf2 BK101.out) | ((with_reducible refine zgc 9 ?_); refine zca 26 Tryz.func9 #[.agg #[.slice A1_0 l1_0.length c1_0, .slice A1_1 l1_1.length c1_1], .int .i64 t102] (zmg k _ _ l1_0 _ _ l1_1 t102 t103 _ (zq8 HR1_0) HC1_0.out (zq8 HR1_1) HC1_1.out A8.out) ?_; rintro e w24 ⟨rfl, hb⟩; refine ⟨_, rfl, ?_⟩; replace BK101 := zbb BK101 hb; replace HB := zA (zaa (zq1 GE101) hb); (try clear hb)))
 replace BK101 := zA (zkd BK101.out)
 replace HB := zA (zbd HB.out)
 refine zly (n := 11) (S := fun w' => w'.cell? ⟨gb101, 0, none⟩ = some (.slice A1_0 l1_0.length c1_0) ∧ w'.cell? ⟨gb101, 1, none⟩ = some (.slice A1_1 l1_1.length c1_1)) (ds := []) #[false, false, false, false, false, false, false, false, false, false, false] zq25 rfl rfl ⟨(zaf BK101.out 0).trans rfl, (zaf BK101.out 1).trans rfl⟩ (fun hHeld => ?_); refine zgn zl6 zlf (fun HT_ HW_ => ?_)
 generalize w24.drew = w25 at BK101 HB hHeld ⊢
 refine zpu 0 30 HT_ ?_
 refine zpu 4 34 HT_ ?_
 refine ztu 2 32 HT_ HW_ hHeld ?_
 refine one_ (i := 1) (N := some 31) #[true, true, true, false, true, false, false, false, false, false, false] rfl rfl (zf1 HT_.out zq25) (by decide) (fun K hK => ?_)
 refine zog Tryz.func11 zq25 rfl #[.slice A0 l0.length c0] (by rfl) rfl rfl zq15 ?_
 with_reducible refine (zim k _ _ l0 t104 _ ?side1 ?side2 A14.out).mono ?_
 (case side1 => repeat (first | exact (zCb HR0.out HB.out) | (with_reducible first | refine zCa ?_ _ | refine zCn ?_ _ | refine zCd ?_)))
 (case side2 => exact HC0.out)
 rintro e w26 ⟨v105, rfl, ho0, hb⟩
 refine ⟨_, rfl, ?_⟩
 have HO106 := zA (Kd.R_lower ho0 (zag (zq1 GE101)))
 replace BK101 := zA (zai (g := gb101) (o := .cells #[.slice A1_0 l1_0.length c1_0, .slice A1_1 l1_1.length c1_1] 26 (0, 0)) (zq6 BK101) hb)
 replace HB := zA (zaa (zq1 GE101) hb)
 (try clear hb)
 (try clear hb2)
 (try clear hk)
 (try clear hi)
 (try clear ho0)
 refine hK.out _ _ ⟨(zaf BK101.out 0).trans rfl, (zaf BK101.out 1).trans rfl⟩ (fun hHeld => ?_)
 clear hK K
 refine znm 31 ?_
 refine one_ (i := 3) (N := some 33) #[true, true, true, true, true, false, false, false, false, false, false] rfl rfl (zf1 HT_.out zq25) (by decide) (fun K hK => ?_)
 refine zog Tryz.func12 zq25 rfl #[.agg #[.slice A1_0 l1_0.length c1_0, .slice A1_1 l1_1.length c1_1]] (by rfl) rfl rfl zq15 ?_
 with_reducible refine (zh0 k _ _ l1_0 _ _ l1_1 t107 t110 _ ?side1 ?side2 ?side3 ?side4 A15.out).mono ?_
 (case side1 => repeat (first | exact (zCb HR1_0.out HB.out) | (with_reducible first | refine zCa ?_ _ | refine zCn ?_ _ | refine zCd ?_)))
 (case side2 => exact HC1_0.out)
 (case side3 => repeat (first | exact (zCb HR1_1.out HB.out) | (with_reducible first | refine zCa ?_ _ | refine zCn ?_ _ | refine zCd ?_)))
 (case side4 => exact HC1_1.out)
 rintro e w27 ⟨v108, v111, rfl, ho0, ho1, hb⟩
 refine ⟨_, rfl, ?_⟩
 replace HO106 := zA (zRb (zq3 HO106) hb)
 have HO109 := zA (Kd.R_lower ho0 (zag (zq1 GE101)))
 have HO112 := zA (Kd.R_lower ho1 (zag (zq1 GE101)))
 replace BK101 := zA (zai (g := gb101) (o := .cells #[.slice A1_0 l1_0.length c1_0, .slice A1_1 l1_1.length c1_1] 26 (0, 0)) (zq6 BK101) hb)
 replace HB := zA (zaa (zq1 GE101) hb)
 (try clear hb)
 (try clear hb2)
 (try clear hk)
 (try clear hi)
 (try clear ho0)
 (try clear ho1)
 obtain ⟨Ao28, co28, eo28⟩ := Kd.R_slice HO106.out
 (first | subst eo28 | (injection eo28 with f1_ f2_ f3_; have f4_ := f1_.symm; have f5_ := f3_.symm; clear f1_ f2_ f3_; subst f4_; subst f5_))
 obtain ⟨Ao29, co29, eo29⟩ := Kd.R_slice HO109.out
 (first | subst eo29 | (injection eo29 with f1_ f2_ f3_; have f4_ := f1_.symm; have f5_ := f3_.symm; clear f1_ f2_ f3_; subst f4_; subst f5_))
 obtain ⟨Ao30, co30, eo30⟩ := Kd.R_slice HO112.out
 (first | subst eo30 | (injection eo30 with f1_ f2_ f3_; have f4_ := f1_.symm; have f5_ := f3_.symm; clear f1_ f2_ f3_; subst f4_; subst f5_))
 refine hK.out _ _ ⟨(zaf BK101.out 0).trans rfl, (zaf BK101.out 1).trans rfl⟩ (fun hHeld => ?_)
 clear hK K
 refine znm 33 ?_
 refine one_ (i := 5) (N := some 35) #[true, true, true, true, true, true, false, false, false, false, false] rfl rfl (zf1 HT_.out zq25) (by decide) (fun K hK => ?_)
 refine zog Tryz.func21 zq25 rfl #[.slice Ao28 t104.length co28, .agg #[.slice Ao29 t107.length co29, .slice Ao30 t110.length co30], .int .i64 a2] (by rfl) rfl rfl zq15 ?_
 with_reducible refine (zor k _ _ t104 _ _ t107 _ _ t110 a2 t113 t116 _ ?side1 ?side2 ?side3 ?side4 ?side5 ?side6 A16.out).mono ?_
 (case side1 => repeat (first | exact (zRr HO106.out).2.2 | (with_reducible first | refine zCa ?_ _ | refine zCn ?_ _ | refine zCd ?_)))
 (case side2 => exact (zRr HO106.out).2.1)
 (case side3 => repeat (first | exact (zRr HO109.out).2.2 | (with_reducible first | refine zCa ?_ _ | refine zCn ?_ _ | refine zCd ?_)))
 (case side4 => exact (zRr HO109.out).2.1)
 (case side5 => repeat (first | exact (zRr HO112.out).2.2 | (with_reducible first | refine zCa ?_ _ | refine zCn ?_ _ | refine zCd ?_)))
 (case side6 => exact (zRr HO112.out).2.1)
 rintro e w31 ⟨v114, rfl, ho0, hb⟩
 refine ⟨_, rfl, ?_⟩
 replace HO106 := zA (zRb (zq3 HO106) hb)
 replace HO109 := zA (zRb (zq3 HO109) hb)
 replace HO112 := zA (zRb (zq3 HO112) hb)
 have HO115 := zA (Kd.R_lower ho0 (zag (zq1 GE101)))
 replace BK101 := zA (zai (g := gb101) (o := .cells #[.slice A1_0 l1_0.length c1_0, .slice A1_1 l1_1.length c1_1] 26 (0, 0)) (zq6 BK101) hb)
 replace HB := zA (zaa (zq1 GE101) hb)
 (try clear hb)
 (try clear hb2)
 (try clear hk)
 (try clear hi)
 (try clear ho0)
 refine hK.out _ _ ⟨(zaf BK101.out 0).trans rfl, (zaf BK101.out 1).trans rfl⟩ (fun hHeld => ?_)
 clear hK K
 refine znm 35 ?_
 refine zpu 6 29 HT_ ?_
 refine zpu 7 36 HT_ ?_
 refine zpu 8 37 HT_ ?_
 refine zpu 9 8 HT_ ?_
 refine zpu 10 9 HT_ ?_
 refine zpl (zjr HT_.out zq25) ?_
 go_upto_region 12 with (first | ((with_reducible refine zgc 11 ?_); refine zca 39 Tryz.func11 #[.slice A0 l0.length c0] (zim k _ _ l0 t117 _ (zq8 HR0) HC0.out A17.out) ?_; rintro e w32 ⟨v118, rfl, ho0, hb⟩; refine ⟨_, rfl, ?_⟩; replace HO109 := zA (zRb (zq3 HO109) hb); replace HO112 := zA (zRb (zq3 HO112) hb); replace HO115 := zA (zRb (zq3 HO115) hb); have HO119 := zA (Kd.R_lower (Kd.R_new' ho0 (Kd.R_lt (zq3 HO106))) (zag (zq1 GE101))); replace HO106 := zA (Kd.R_elder' (zq3 HO106) (Kd.R_base ho0) hb); replace BK101 := zbb BK101 hb; replace HB := zA (zaa (zq1 GE101) hb); (try clear hb); (try clear ho0); obtain ⟨hcz33_0, hcz33_1⟩ := zc2 w32 (.slice A1_0 l1_0.length c1_0) (.slice A1_1 l1_1.length c1_1) BK101.out; obtain ⟨hfz33_0, hfz33_1⟩ := zf2 BK101.out) | ((with_reducible refine zgc 12 ?_); refine zca 41 Tryz.func12 #[.agg #[.slice A1_0 l1_0.length c1_0, .slice A1_1 l1_1.length c1_1]] (zh0 k _ _ l1_0 _ _ l1_1 t120 t123 _ (zq8 HR1_0) HC1_0.out (zq8 HR1_1) HC1_1.out A18.out) ?_; rintro e w34 ⟨v121, v124, rfl, ho0, ho1, hb⟩; refine ⟨_, rfl, ?_⟩; replace HO106 := zA (zRb (zq3 HO106) hb); replace HO115 := zA (zRb (zq3 HO115) hb); replace HO119 := zA (zRb (zq3 HO119) hb); have HO122 := zA (Kd.R_lower (Kd.R_new' ho0 (Kd.R_lt (zq3 HO109))) (zag (zq1 GE101))); replace HO109 := zA (Kd.R_elder' (zq3 HO109) (Kd.R_base ho0) hb); have HO125 := zA (Kd.R_lower (Kd.R_new' ho1 (Kd.R_lt (zq3 HO112))) (zag (zq1 GE101))); replace HO112 := zA (Kd.R_elder' (zq3 HO112) (Kd.R_base ho1) hb); replace BK101 := zbb BK101 hb; replace HB := zA (zaa (zq1 GE101) hb); (try clear hb); (try clear ho0); (try clear ho1)) | ((with_reducible refine zgd 11 ?_); refine zbx #[.slice none 0 0, .slice none 0 0] 34 ?_; intro gb126 hg w35 hbox hb; have zs := zpair (zq1 GE101) hb; replace HO106 := zA (zRb (zq3 HO106) hb); replace HO109 := zA (zRb (zq3 HO109) hb); replace HO112 := zA (zRb (zq3 HO112) hb); replace HO115 := zA (zRb (zq3 HO115) hb); replace HO119 := zA (zRb (zq3 HO119) hb); replace HO122 := zA (zRb (zq3 HO122) hb); replace HO125 := zA (zRb (zq3 HO125) hb); replace HB := zA (zs.1); have BK126 := zA (hbox); have GW126 := zA (zge hg zs.2); have GE126 := GW126; have NB101_126 := zA ((zq21 BK101 : gb101 ≠ gb126)); replace BK101 := zbb BK101 hb; have NB126_101 := zA (Ne.symm NB101_126.out); clear zs hb hbox hg; obtain ⟨Ao36, co36, eo36⟩ := Kd.R_slice HO122.out; subst eo36; have hnb37 := NB126_101.out; have hnc37 := NB101_126.out; obtain ⟨hcz38_0, hcz38_1, hfz38_0, hfz38_1⟩ := zd2 BK126; obtain ⟨Ao39, co39, eo39⟩ := Kd.R_slice HO125.out; subst eo39; obtain ⟨Ao40, co40, eo40⟩ := Kd.R_slice HO119.out; subst eo40) | ((with_reducible refine zgc 22 ?_); refine zca 46 Tryz.func22 #[.slice Ao40 t117.length co40, .agg #[.slice Ao36 t120.length co36, .slice Ao39 t123.length co39], .int .i64 a2] (zke k _ _ t117 _ _ t120 _ _ t123 a2 t127 t130 _ (by refine (zRr (e := 62) (base := w.heap.size) (ok := fun k_ => (True ∧ some k_ ≠ (.slice Ao28 t104.length co28 : Value).ownBlock)) (n := t117.length) (c := co40) ?_).2.2; exact (zq11 HO119 BK126)) (zq52 HO119) (by refine (zRr (e := 9) (base := w.heap.size) (ok := fun k_ => (True ∧ some k_ ≠ (.slice Ao29 t107.length co29 : Value).ownBlock)) (n := t120.length) (c := co36) ?_).2.2; exact (zq11 HO122 BK126)) (zq52 HO122) (by refine (zRr (e := 3) (base := w.heap.size) (ok := fun k_ => (True ∧ some k_ ≠ (.slice Ao30 t110.length co30 : Value).ownBlock)) (n := t123.length) (c := co39) ?_).2.2; exact (zq11 HO125 BK126)) (zq52 HO125) A19.out) ?_; rintro e w41 ⟨v128, rfl, ho0, hb⟩; refine ⟨_, rfl, ?_⟩; replace HO106 := zA (zRb (zq11 HO106 BK126) hb); replace HO109 := zA (zRb (zq11 HO109 BK126) hb); replace HO112 := zA (zRb (zq11 HO112 BK126) hb); replace HO119 := zA (zRb (zq11 HO119 BK126) hb); replace HO122 := zA (zRb (zq11 HO122 BK126) hb); replace HO125 := zA (zRb (zq11 HO125 BK126) hb); have HO129 := zA (Kd.R_lower (Kd.R_new' ho0 (Kd.R_lt (zq11 HO115 BK126))) (zag (zq7 GE101 GE126))); replace HO115 := zA (Kd.R_elder' (zq11 HO115 BK126) (Kd.R_base ho0) hb); replace BK101 := zA (zai (g := gb101) (o := .cells #[.slice A1_0 l1_0.length c1_0, .slice A1_1 l1_1.length c1_1] 26 (0, 0)) (by (with_reducible repeat (first | refine zkn ?_ _ | refine zkd ?_ | refine zka ?_ _)); refine zby ?_ NB101_126.out _; (with_reducible repeat (first | refine zkn ?_ _ | refine zkd ?_ | refine zka ?_ _)); refine zby ?_ NB101_126.out _; (with_reducible repeat (first | refine zkn ?_ _ | refine zkd ?_ | refine zka ?_ _)); exact BK101.out) hb); replace BK126 := zA (zai (g := gb126) (o := .cells #[.slice Ao36 t120.length co36, .slice Ao39 t123.length co39] 34 (0, 0)) (by (with_reducible repeat (first | refine zkn ?_ _ | refine zkd ?_ | refine zka ?_ _)); refine zd9 (cs := #[.slice Ao36 t120.length co36, .slice none 0 0]) ?_ 1 _ rfl; (with_reducible repeat (first | refine zkn ?_ _ | refine zkd ?_ | refine zka ?_ _)); refine zd9 (cs := #[.slice none 0 0, .slice none 0 0]) ?_ 0 _ rfl; (with_reducible repeat (first | refine zkn ?_ _ | refine zkd ?_ | refine zka ?_ _)); exact BK126.out) hb); replace HB := zA (zaa (zq7 GE101 GE126) hb); (try clear hb); (try clear hk); (try clear ho0)))
 (try simp only [Act.put, List.setIfInBounds_toArray, List.set_cons_zero, List.set_cons_succ])
 go_cut [57] (fun v57 wc => ∃ (kq : Nat) (x57_19 : Bool), v57 = .bool x57_19 ∧ Aside0 (zak kq l0 a2 t113 t116 t117 t127 t130 x57_19 l1_0 l1_1 t120 t123 = some r) ∧ Aside0 (kq ≤ k) ∧ Aside0 (Kd.R k69 69 wc w.heap.size (fun k_ => some k_ ≠ (v128 : Value).ownBlock) v114 t113) ∧ Aside0 (Kd.R k62 62 wc w.heap.size (fun _ => True) (.slice Ao40 t117.length co40) t117) ∧ Aside0 (Kd.R k69 69 wc w.heap.size (fun k_ => some k_ ≠ (v114 : Value).ownBlock) v128 t127) ∧ Aside0 (Kd.R Kd.string 9 wc w.heap.size (fun _ => True) (.slice Ao36 t120.length co36) t120) ∧ Aside0 (Kd.R (Kd.int .i64) 3 wc w.heap.size (fun _ => True) (.slice Ao39 t123.length co39) t123) ∧ Aside0 (wc.heap[gb101]? = some (.cells #[(.slice A1_0 l1_0.length c1_0), (.slice A1_1 l1_1.length c1_1)] 26 (0, 0))) ∧ Aside0 (wc.heap[gb126]? = some (.cells #[(.slice Ao36 t120.length co36), (.slice Ao39 t123.length co39)] 34 (0, 0))) ∧ Aside0 (Below w.heap.size w wc))
 case first =>
   have H := HC20.out
   clear HC20
   replace H := zob H
   obtain ⟨t131, A420, H⟩ := H
   replace H : (if t131 = true then (zak k l0 a2 t113 t116 t117 t127 t130 (t130 != t116) l1_0 l1_1 t120 t123) else (none)) = some r := H
   have A42 := zA A420
   clear A420
   by_cases c43 : t131 = true
   rotate_left
   · replace c43 := zbf c43
     subst c43
     have H1 : (none : Option Bool) = some r := by rw [if_neg (show ¬ (false = true) by decide)] at H; exact H
     cases H1
   subst c43
   replace H := zih H
   have H' := zA H
   clear H
   obtain ⟨Ao44, co44, eo44⟩ := Kd.R_slice HO129.out
   subst eo44
   obtain ⟨Ao45, co45, eo45⟩ := Kd.R_slice HO115.out
   subst eo45
   go_wp2_with (first | ((with_reducible refine zgc 14 ?_); refine zca 51 Tryz.func14 #[.slice Ao44 t127.length co44, .slice Ao45 t113.length co45] (zjo k _ _ t127 _ _ t113 true _ (zq24 HO129) (zq52 HO129) (zq24 HO115) (zq52 HO115) A42.out) ?_; rintro e w46 ⟨rfl, hb⟩; refine ⟨_, rfl, ?_⟩; replace HO106 := zA (zRb (zq3 HO106) hb); replace HO109 := zA (zRb (zq3 HO109) hb); replace HO112 := zA (zRb (zq3 HO112) hb); replace HO115 := zA (zRb (zq3 HO115) hb); replace HO119 := zA (zRb (zq3 HO119) hb); replace HO122 := zA (zRb (zq3 HO122) hb); replace HO125 := zA (zRb (zq3 HO125) hb); replace HO129 := zA (zRb (zq3 HO129) hb); replace BK101 := zbb BK101 hb; replace BK126 := zbb BK126 hb; replace HB := zA (zaa (zq7 GE101 GE126) hb); (try clear hb)))
   go_meet
   case rel => exact ⟨_, ((t130 != t116)), zq4, H', ⟨zq41⟩, ⟨zq30 HO115⟩, ⟨zq20 HO119⟩, ⟨zq30 HO129⟩, ⟨zq20 HO122⟩, ⟨zq20 HO125⟩, ⟨zq6 BK101⟩, ⟨zq6 BK126⟩, ⟨zq7 GE101 GE126⟩⟩
 clear HC20
 try clear c5
 try clear c5b0
 try clear c9
 try clear c9b0
 try clear c43
 try clear hcz12_0
 try clear hcz12_1
 try clear hcz23_0
 try clear hcz23_1
 try clear hcz33_0
 try clear hcz33_1
 try clear hcz38_0
 try clear hcz38_1
 try clear hfz12_0
 try clear hfz12_1
 try clear hfz23_0
 try clear hfz23_1
 try clear hfz33_0
 try clear hfz33_1
 try clear hfz38_0
 try clear hfz38_1
 obtain ⟨kq, x57_19, rfl, HA, HJ19, HO_8, HO_10, HO_12, HO_127000, HO_127001, BK101, BK126, HB⟩ := hcut
 cases kq with
 | zero => exact absurd HA.out (by simp [zak])
 | succ kj19 =>
 have H := HA.out
 clear HA
 simp only [zak] at H
 by_cases c50 : x57_19 = true
 · subst c50
   have H1 : (none : Option Bool) = some r := by rw [if_pos rfl] at H; exact H
   cases H1
 replace c50 := zbf c50
 subst c50
 replace H := zif H
 replace H := zob H
 obtain ⟨t132, A510, H⟩ := H
 replace H : ((zgg kj19 t117 t132).bind fun t135 => (if t135 = true then ((za6 kj19 l1_0 l1_1).bind fun bt136 => ((zey kj19 t120 t123 bt136.1 bt136.2).bind fun t142 => (if t142 = true then ((zed kj19 t117 1).bind fun bt143 => ((zdh kj19 t120 t123 bt143.1).bind fun bt145 => (if bt145.1 < 0 then (none) else ((zay kj19 t127 t113).bind fun t148 => (if t148 = true then (zao kj19 l0 a2 t113 t116 t127 (t130 != t116) l1_0 l1_1) else (none)))))) else (none)))) else (none))) = some r := H
 have A51 := zA A510
 clear A510
 replace H := zob H
 obtain ⟨t135, A520, H⟩ := H
 replace H : (if t135 = true then ((za6 kj19 l1_0 l1_1).bind fun bt136 => ((zey kj19 t120 t123 bt136.1 bt136.2).bind fun t142 => (if t142 = true then ((zed kj19 t117 1).bind fun bt143 => ((zdh kj19 t120 t123 bt143.1).bind fun bt145 => (if bt145.1 < 0 then (none) else ((zay kj19 t127 t113).bind fun t148 => (if t148 = true then (zao kj19 l0 a2 t113 t116 t127 (t130 != t116) l1_0 l1_1) else (none)))))) else (none)))) else (none)) = some r := H
 have A52 := zA A520
 clear A520
 by_cases c53 : t135 = true
 rotate_left
 · replace c53 := zbf c53
   subst c53
   have H1 : (none : Option Bool) = some r := by rw [if_neg (show ¬ (false = true) by decide)] at H; exact H
   cases H1
 subst c53
 replace H := zih H
 replace H := zob H
 obtain ⟨⟨t136, t139⟩, A540, H⟩ := H
 replace H : ((zey kj19 t120 t123 t136 t139).bind fun t142 => (if t142 = true then ((zed kj19 t117 1).bind fun bt143 => ((zdh kj19 t120 t123 bt143.1).bind fun bt145 => (if bt145.1 < 0 then (none) else ((zay kj19 t127 t113).bind fun t148 => (if t148 = true then (zao kj19 l0 a2 t113 t116 t127 (t130 != t116) l1_0 l1_1) else (none)))))) else (none))) = some r := H
 have A54 := zA A540
 clear A540
 replace H := zob H
 obtain ⟨t142, A550, H⟩ := H
 replace H : (if t142 = true then ((zed kj19 t117 1).bind fun bt143 => ((zdh kj19 t120 t123 bt143.1).bind fun bt145 => (if bt145.1 < 0 then (none) else ((zay kj19 t127 t113).bind fun t148 => (if t148 = true then (zao kj19 l0 a2 t113 t116 t127 (t130 != t116) l1_0 l1_1) else (none)))))) else (none)) = some r := H
 have A55 := zA A550
 clear A550
 by_cases c56 : t142 = true
 rotate_left
 · replace c56 := zbf c56
   subst c56
   have H1 : (none : Option Bool) = some r := by rw [if_neg (show ¬ (false = true) by decide)] at H; exact H
   cases H1
 subst c56
 replace H := zih H
 replace H := zob H
 obtain ⟨⟨t143, t144⟩, A570, H⟩ := H
 replace H : ((zdh kj19 t120 t123 t143).bind fun bt145 => (if bt145.1 < 0 then (none) else ((zay kj19 t127 t113).bind fun t148 => (if t148 = true then (zao kj19 l0 a2 t113 t116 t127 (t130 != t116) l1_0 l1_1) else (none))))) = some r := H
 have A57 := zA A570
 clear A570
 replace H := zob H
 obtain ⟨⟨t145, t146, t147⟩, A580, H⟩ := H
 replace H : (if t145 < 0 then (none) else ((zay kj19 t127 t113).bind fun t148 => (if t148 = true then (zao kj19 l0 a2 t113 t116 t127 (t130 != t116) l1_0 l1_1) else (none)))) = some r := H
 have A58 := zA A580
 clear A580
 have HC59 := zA H
 clear H
 try go_wp2_with (first | ((with_reducible refine zgc 11 ?_); refine zca 60 Tryz.func11 #[.slice A0 l0.length c0] (zim kj19 _ _ l0 t132 _ (zq8 HR0) HC0.out A51.out) ?_; rintro e w60 ⟨v133, rfl, ho0, hb⟩; refine ⟨_, rfl, ?_⟩; replace HO_8 := zA (zRb (zq3 HO_8) hb); replace HO_12 := zA (zRb (zq3 HO_12) hb); replace HO_127000 := zA (zRb (zq3 HO_127000) hb); replace HO_127001 := zA (zRb (zq3 HO_127001) hb); have HO134 := zA (Kd.R_lower (Kd.R_new' ho0 (Kd.R_lt (zq3 HO_10))) (zag (zq7 GE101 GE126))); replace HO_10 := zA (Kd.R_elder' (zq3 HO_10) (Kd.R_base ho0) hb); replace BK101 := zbb BK101 hb; replace BK126 := zbb BK126 hb; replace HB := zA (zaa (zq7 GE101 GE126) hb); (try clear hb); (try clear ho0); obtain ⟨Ao61, co61, eo61⟩ := Kd.R_slice HO134.out; subst eo61) | ((with_reducible refine zgc 15 ?_); refine zca 61 Tryz.func15 #[.slice Ao40 t117.length co40, .slice Ao61 t132.length co61] (zqo kj19 _ _ t117 _ _ t132 true _ (zq24 HO_10) (zq52 HO_10) (zq24 HO134) (zq52 HO134) A52.out) ?_; rintro e w62 ⟨rfl, hb⟩; refine ⟨_, rfl, ?_⟩; replace HO_8 := zA (zRb (zq3 HO_8) hb); replace HO_10 := zA (zRb (zq3 HO_10) hb); replace HO_12 := zA (zRb (zq3 HO_12) hb); replace HO_127000 := zA (zRb (zq3 HO_127000) hb); replace HO_127001 := zA (zRb (zq3 HO_127001) hb); replace HO134 := zA (zRb (zq3 HO134) hb); replace BK101 := zbb BK101 hb; replace BK126 := zbb BK126 hb; replace HB := zA (zaa (zq7 GE101 GE126) hb); (try clear hb)))
 replace HO_8 := zA (zRd HO_8.out)
 replace HO_10 := zA (zRd HO_10.out)
 replace HO_12 := zA (zRd HO_12.out)
 replace HO_127000 := zA (zRd HO_127000.out)
 replace HO_127001 := zA (zRd HO_127001.out)
 replace HO134 := zA (zRd HO134.out)
 replace BK101 := zA (zkd BK101.out)
 replace BK126 := zA (zkd BK126.out)
 replace HB := zA (zbd HB.out)
 refine zly (n := 5) (S := fun w' => w'.cell? ⟨gb126, 0, none⟩ = some (.slice Ao36 t120.length co36) ∧ w'.cell? ⟨gb126, 1, none⟩ = some (.slice Ao39 t123.length co39) ∧ w'.cell? ⟨gb101, 0, none⟩ = some (.slice A1_0 l1_0.length c1_0) ∧ w'.cell? ⟨gb101, 1, none⟩ = some (.slice A1_1 l1_1.length c1_1)) (ds := []) #[false, false, false, false, false] zq25 rfl rfl ⟨(zaf BK126.out 0).trans rfl, (zaf BK126.out 1).trans rfl, (zaf BK101.out 0).trans rfl, (zaf BK101.out 1).trans rfl⟩ (fun hHeld => ?_)
 generalize w62.drew = w63 at HO_8 HO_10 HO_12 HO_127000 HO_127001 HO134 BK101 BK126 HB hHeld ⊢
 refine ztk 0 63 hHeld ?_
 refine ztk 1 64 hHeld ?_
 refine one_ (i := 2) (N := some 65) #[true, true, true, false, false] rfl rfl zq25 (by decide) (fun K hK => ?_)
 refine zog Tryz.func12 zq25 rfl #[.agg #[.slice A1_0 l1_0.length c1_0, .slice A1_1 l1_1.length c1_1]] (by rfl) rfl rfl zq15 ?_
 with_reducible refine (zh0 kj19 _ _ l1_0 _ _ l1_1 t136 t139 _ ?side1 ?side2 ?side3 ?side4 A54.out).mono ?_
 (case side1 => repeat (first | exact (zCb HR1_0.out HB.out) | (with_reducible first | refine zCa ?_ _ | refine zCn ?_ _ | refine zCd ?_)))
 (case side2 => exact HC1_0.out)
 (case side3 => repeat (first | exact (zCb HR1_1.out HB.out) | (with_reducible first | refine zCa ?_ _ | refine zCn ?_ _ | refine zCd ?_)))
 (case side4 => exact HC1_1.out)
 rintro e w64 ⟨v137, v140, rfl, ho0, ho1, hb⟩
 refine ⟨_, rfl, ?_⟩
 replace HO_8 := zA (zRb (zq3 HO_8) hb)
 replace HO_10 := zA (zRb (zq3 HO_10) hb)
 replace HO_12 := zA (zRb (zq3 HO_12) hb)
 replace HO134 := zA (zRb (zq3 HO134) hb)
 have HO138 := zA (Kd.R_lower (Kd.R_new' ho0 (Kd.R_lt (zq3 HO_127000))) (zag (zq7 GE101 GE126)))
 replace HO_127000 := zA (Kd.R_elder' (zq3 HO_127000) (Kd.R_base ho0) hb)
 have HO141 := zA (Kd.R_lower (Kd.R_new' ho1 (Kd.R_lt (zq3 HO_127001))) (zag (zq7 GE101 GE126)))
 replace HO_127001 := zA (Kd.R_elder' (zq3 HO_127001) (Kd.R_base ho1) hb)
 replace BK101 := zA (zai (g := gb101) (o := .cells #[.slice A1_0 l1_0.length c1_0, .slice A1_1 l1_1.length c1_1] 26 (0, 0)) (zq6 BK101) hb)
 replace BK126 := zA (zai (g := gb126) (o := .cells #[.slice Ao36 t120.length co36, .slice Ao39 t123.length co39] 34 (0, 0)) (zq6 BK126) hb)
 replace HB := zA (zaa (zq7 GE101 GE126) hb)
 (try clear hb)
 (try clear hb2)
 (try clear hk)
 (try clear hi)
 (try clear ho0)
 (try clear ho1)
 obtain ⟨Ao65, co65, eo65⟩ := Kd.R_slice HO138.out
 (first | subst eo65 | (injection eo65 with f1_ f2_ f3_; have f4_ := f1_.symm; have f5_ := f3_.symm; clear f1_ f2_ f3_; subst f4_; subst f5_))
 obtain ⟨Ao66, co66, eo66⟩ := Kd.R_slice HO141.out
 (first | subst eo66 | (injection eo66 with f1_ f2_ f3_; have f4_ := f1_.symm; have f5_ := f3_.symm; clear f1_ f2_ f3_; subst f4_; subst f5_))
 refine hK.out _ _ ⟨(zaf BK126.out 0).trans rfl, (zaf BK126.out 1).trans rfl, (zaf BK101.out 0).trans rfl, (zaf BK101.out 1).trans rfl⟩ (fun hHeld => ?_)
 clear hK K
 refine znm 65 ?_
 refine one_ (i := 3) (N := some 66) #[true, true, true, true, false] rfl rfl zq25 (by decide) (fun K hK => ?_)
 refine zog Tryz.func16 zq25 rfl #[.agg #[.slice Ao36 t120.length co36, .slice Ao39 t123.length co39], .agg #[.slice Ao65 t136.length co65, .slice Ao66 t139.length co66]] (by rfl) rfl rfl zq15 ?_
 with_reducible refine (zpv kj19 _ _ t120 _ _ t123 _ _ t136 _ _ t139 true _ ?side1 ?side2 ?side3 ?side4 ?side5 ?side6 ?side7 ?side8 A55.out).mono ?_
 (case side1 => repeat (first | exact (zRr HO_127000.out).2.2 | (with_reducible first | refine zCa ?_ _ | refine zCn ?_ _ | refine zCd ?_)))
 (case side2 => exact (zRr HO_127000.out).2.1)
 (case side3 => repeat (first | exact (zRr HO_127001.out).2.2 | (with_reducible first | refine zCa ?_ _ | refine zCn ?_ _ | refine zCd ?_)))
 (case side4 => exact (zRr HO_127001.out).2.1)
 (case side5 => repeat (first | exact (zRr HO138.out).2.2 | (with_reducible first | refine zCa ?_ _ | refine zCn ?_ _ | refine zCd ?_)))
 (case side6 => exact (zRr HO138.out).2.1)
 (case side7 => repeat (first | exact (zRr HO141.out).2.2 | (with_reducible first | refine zCa ?_ _ | refine zCn ?_ _ | refine zCd ?_)))
 (case side8 => exact (zRr HO141.out).2.1)
 rintro e w67 ⟨rfl, hb⟩
 refine ⟨_, rfl, ?_⟩
 replace HO_8 := zA (zRb (zq3 HO_8) hb)
 replace HO_10 := zA (zRb (zq3 HO_10) hb)
 replace HO_12 := zA (zRb (zq3 HO_12) hb)
 replace HO_127000 := zA (zRb (zq3 HO_127000) hb)
 replace HO_127001 := zA (zRb (zq3 HO_127001) hb)
 replace HO134 := zA (zRb (zq3 HO134) hb)
 replace HO138 := zA (zRb (zq3 HO138) hb)
 replace HO141 := zA (zRb (zq3 HO141) hb)
 replace BK101 := zA (zai (g := gb101) (o := .cells #[.slice A1_0 l1_0.length c1_0, .slice A1_1 l1_1.length c1_1] 26 (0, 0)) (zq6 BK101) hb)
 replace BK126 := zA (zai (g := gb126) (o := .cells #[.slice Ao36 t120.length co36, .slice Ao39 t123.length co39] 34 (0, 0)) (zq6 BK126) hb)
 replace HB := zA (zaa (zq7 GE101 GE126) hb)
 (try clear hb)
 (try clear hb2)
 (try clear hk)
 (try clear hi)
 refine hK.out _ _ ⟨(zaf BK126.out 0).trans rfl, (zaf BK126.out 1).trans rfl, (zaf BK101.out 0).trans rfl, (zaf BK101.out 1).trans rfl⟩ (fun hHeld => ?_)
 clear hK K
 refine znm 66 ?_
 refine zpk 4 67 ?_
 refine zpl zq25 ?_
 go_upto_region 21 with (first | ((with_reducible refine zgc 17 ?_); refine zca 70 Tryz.func17 #[.slice Ao40 t117.length co40, .int .i64 1] (zpf kj19 (fun k_ => some k_ = (.slice Ao40 t117.length co40 : Value).ownBlock) (.slice Ao40 t117.length co40) t117 1 t143 t144 w _ (zq7 GE101 GE126) (by exact Kd.R_tight rfl HO_10.out) A57.out) ?_; rintro e w68 ⟨rfl, hy0, hb, hkp⟩; refine ⟨_, rfl, ?_⟩; replace HO_8 := zA (Kd.R_mono (ok' := fun k_ => some k_ ≠ (v128 : Value).ownBlock) (Kd.R_keptB ((Kd.R_apart' HO_8.out (Kd.R_typed HO_10.out) (by decide))) hkp (fun k_ hk_ hs_ => (hk_.2) hs_)) (fun k_ hk_ => hk_.1.1)); replace HO_12 := zA (Kd.R_mono (ok' := fun k_ => some k_ ≠ (v114 : Value).ownBlock) (Kd.R_keptB ((Kd.R_apart' HO_12.out (Kd.R_typed HO_10.out) (by decide))) hkp (fun k_ hk_ hs_ => (hk_.2) hs_)) (fun k_ hk_ => hk_.1.1)); replace HO_127000 := zA (Kd.R_mono (ok' := fun k_ => some k_ ≠ (.slice Ao65 t136.length co65 : Value).ownBlock) (Kd.R_keptB ((Kd.R_apart' HO_127000.out (Kd.R_typed HO_10.out) (by decide))) hkp (fun k_ hk_ hs_ => (hk_.2) hs_)) (fun k_ hk_ => hk_.1.1.2)); replace HO_127001 := zA (Kd.R_mono (ok' := fun k_ => some k_ ≠ (.slice Ao66 t139.length co66 : Value).ownBlock) (Kd.R_keptB ((Kd.R_apart' HO_127001.out (Kd.R_typed HO_10.out) (by decide))) hkp (fun k_ hk_ hs_ => (hk_.2) hs_)) (fun k_ hk_ => hk_.1.1.2)); replace BK101 := zA (zh4 (zq6 BK101) hkp (fun hs_ => (fun e_ => (Kd.R_ne HO_10.out BK101.out (by decide)) e_) hs_)); replace BK126 := zA (zh4 (zq6 BK126) hkp (fun hs_ => (fun e_ => (Kd.R_ne HO_10.out BK126.out (by decide)) e_) hs_)); replace HO134 := zA (Kd.R_mono (ok' := fun k_ => some k_ ≠ (.slice Ao40 t117.length co40 : Value).ownBlock) (Kd.R_keptB (HO134.out) hkp (fun k_ hk_ hs_ => (hk_.2) hs_)) (fun k_ hk_ => hk_.1.2)); replace HO138 := zA (Kd.R_mono (ok' := fun k_ => some k_ ≠ (.slice Ao36 t120.length co36 : Value).ownBlock) (Kd.R_keptB ((Kd.R_apart' HO138.out (Kd.R_typed HO_10.out) (by decide))) hkp (fun k_ hk_ hs_ => (hk_.2) hs_)) (fun k_ hk_ => hk_.1.1.2)); replace HO141 := zA (Kd.R_mono (ok' := fun k_ => some k_ ≠ (.slice Ao39 t123.length co39 : Value).ownBlock) (Kd.R_keptB ((Kd.R_apart' HO141.out (Kd.R_typed HO_10.out) (by decide))) hkp (fun k_ hk_ hs_ => (hk_.2) hs_)) (fun k_ hk_ => hk_.1.1.2)); replace HO_10 := zA (Kd.R_reok rfl hy0 (fun k_ e_ => HO_10.out.1 k_ e_)); replace HB := zA (hb); (try clear hb); (try clear hkp); (try clear hy0); have hnb69 := NB126_101.out; have hnc69 := NB101_126.out; obtain ⟨hcz70_0, hcz70_1⟩ := zc2 w68 (.slice Ao36 t120.length co36) (.slice Ao39 t123.length co39) BK126.out; obtain ⟨hfz70_0, hfz70_1⟩ := zf2 BK126.out) | ((with_reducible refine zgc 18 ?_); refine zca 73 Tryz.func18 #[.agg #[.slice Ao36 t120.length co36, .slice Ao39 t123.length co39], .int .i64 t143] (zoy kj19 (fun k_ => some k_ = (.slice Ao36 t120.length co36 : Value).ownBlock) (.slice Ao36 t120.length co36) t120 (fun k_ => some k_ = (.slice Ao39 t123.length co39 : Value).ownBlock) (.slice Ao39 t123.length co39) t123 t143 t145 t146 t147 w _ (zq7 GE101 GE126) (by exact Kd.R_tight rfl HO_127000.out) (by exact Kd.R_tight rfl HO_127001.out) A58.out) ?_; rintro e w71 ⟨rfl, hy0, hy1, hb, hkp⟩; refine ⟨_, rfl, ?_⟩; replace HO_8 := zA (Kd.R_mono (ok' := fun k_ => some k_ ≠ (v128 : Value).ownBlock) (Kd.R_keptB ((Kd.R_apart' (Kd.R_apart' HO_8.out (Kd.R_typed HO_127000.out) (by decide)) (Kd.R_typed HO_127001.out) (by decide))) hkp (fun k_ hk_ hs_ => Or.elim hs_ (fun e_ => (hk_.1.2) e_) (fun e_ => (hk_.2) e_))) (fun k_ hk_ => hk_.1.1.1)); replace HO_10 := zA (Kd.R_mono (ok' := fun k_ => some k_ ≠ (.slice Ao61 t132.length co61 : Value).ownBlock) (Kd.R_keptB ((Kd.R_apart' (Kd.R_apart' HO_10.out (Kd.R_typed HO_127000.out) (by decide)) (Kd.R_typed HO_127001.out) (by decide))) hkp (fun k_ hk_ hs_ => Or.elim hs_ (fun e_ => (hk_.1.2) e_) (fun e_ => (hk_.2) e_))) (fun k_ hk_ => hk_.1.1.1.2)); replace HO_12 := zA (Kd.R_mono (ok' := fun k_ => some k_ ≠ (v114 : Value).ownBlock) (Kd.R_keptB ((Kd.R_apart' (Kd.R_apart' HO_12.out (Kd.R_typed HO_127000.out) (by decide)) (Kd.R_typed HO_127001.out) (by decide))) hkp (fun k_ hk_ hs_ => Or.elim hs_ (fun e_ => (hk_.1.2) e_) (fun e_ => (hk_.2) e_))) (fun k_ hk_ => hk_.1.1.1)); replace BK101 := zA (zh4 (zq6 BK101) hkp (fun hs_ => Or.elim hs_ (fun e_ => (fun e_ => (Kd.R_ne HO_127000.out BK101.out (by decide)) e_) e_) (fun e_ => (fun e_ => (Kd.R_ne HO_127001.out BK101.out (by decide)) e_) e_))); replace BK126 := zA (zh4 (zq6 BK126) hkp (fun hs_ => Or.elim hs_ (fun e_ => (fun e_ => (Kd.R_ne HO_127000.out BK126.out (by decide)) e_) e_) (fun e_ => (fun e_ => (Kd.R_ne HO_127001.out BK126.out (by decide)) e_) e_))); replace HO134 := zA (Kd.R_mono (ok' := fun k_ => some k_ ≠ (.slice Ao40 t117.length co40 : Value).ownBlock) (Kd.R_keptB ((Kd.R_apart' (Kd.R_apart' HO134.out (Kd.R_typed HO_127000.out) (by decide)) (Kd.R_typed HO_127001.out) (by decide))) hkp (fun k_ hk_ hs_ => Or.elim hs_ (fun e_ => (hk_.1.2) e_) (fun e_ => (hk_.2) e_))) (fun k_ hk_ => hk_.1.1.1)); replace HO138 := zA (Kd.R_mono (ok' := fun k_ => some k_ ≠ (.slice Ao36 t120.length co36 : Value).ownBlock) (Kd.R_keptB ((Kd.R_apart' HO138.out (Kd.R_typed HO_127001.out) (by decide))) hkp (fun k_ hk_ hs_ => Or.elim hs_ (fun e_ => (hk_.1) e_) (fun e_ => (hk_.2) e_))) (fun k_ hk_ => hk_.1.1)); replace HO_127001 := zA (Kd.R_reok rfl hy1 (fun k_ e_ => HO_127001.out.1 k_ e_)); replace HO141 := zA (Kd.R_mono (ok' := fun k_ => some k_ ≠ (.slice Ao39 t123.length co39 : Value).ownBlock) (Kd.R_keptB ((Kd.R_apart' HO141.out (Kd.R_typed HO_127000.out) (by decide))) hkp (fun k_ hk_ hs_ => Or.elim hs_ (fun e_ => (hk_.2) e_) (fun e_ => (hk_.1) e_))) (fun k_ hk_ => hk_.1.1)); replace HO_127000 := zA (Kd.R_reok rfl hy0 (fun k_ e_ => HO_127000.out.1 k_ e_)); replace HB := zA (hb); (try clear hb); (try clear hkp); (try clear hy0); (try clear hy1)))
 (try simp only [Act.put, List.setIfInBounds_toArray, List.set_cons_zero, List.set_cons_succ])
 go_cut [86] (fun v86 wc => ∃ (kq : Nat) (x86_58 : Bool), v86 = .bool x86_58 ∧ Aside0 (zao kq l0 a2 t113 t116 t127 x86_58 l1_0 l1_1 = some r) ∧ Aside0 (kq ≤ kj19) ∧ Aside0 (Kd.R k69 69 wc w.heap.size (fun k_ => some k_ ≠ (v128 : Value).ownBlock) v114 t113) ∧ Aside0 (Kd.R k69 69 wc w.heap.size (fun k_ => some k_ ≠ (v114 : Value).ownBlock) v128 t127) ∧ Aside0 (Kd.R Kd.string 9 wc w.heap.size (fun _ => True) (.slice Ao36 t120.length co36) t146) ∧ Aside0 (Kd.R (Kd.int .i64) 3 wc w.heap.size (fun _ => True) (.slice Ao39 t123.length co39) t147) ∧ Aside0 (wc.heap[gb101]? = some (.cells #[(.slice A1_0 l1_0.length c1_0), (.slice A1_1 l1_1.length c1_1)] 26 (0, 0))) ∧ Aside0 (wc.heap[gb126]? = some (.cells #[(.slice Ao36 t120.length co36), (.slice Ao39 t123.length co39)] 34 (0, 0))) ∧ Aside0 (Below w.heap.size w wc))
 case first =>
   have H := HC59.out
   clear HC59
   by_cases c72 : t145 < 0
   · rw [if_pos c72] at H
     cases H
   rw [if_neg c72] at H
   have c72b0 := zdf c72
   clear c72
   (first | rw [c72b0] | (simp only [zia, zj7]; rw [c72b0]) | skip)
   replace H := zob H
   obtain ⟨t148, A730, H⟩ := H
   replace H : (if t148 = true then (zao kj19 l0 a2 t113 t116 t127 (t130 != t116) l1_0 l1_1) else (none)) = some r := H
   have A73 := zA A730
   clear A730
   by_cases c74 : t148 = true
   rotate_left
   · replace c74 := zbf c74
     subst c74
     have H1 : (none : Option Bool) = some r := by rw [if_neg (show ¬ (false = true) by decide)] at H; exact H
     cases H1
   subst c74
   replace H := zih H
   have H' := zA H
   clear H
   obtain ⟨Ao75, co75, eo75⟩ := Kd.R_slice HO_12.out
   subst eo75
   obtain ⟨Ao76, co76, eo76⟩ := Kd.R_slice HO_8.out
   subst eo76
   go_wp2_with (first | (go_at_call 14; (with_reducible refine (zjo kj19 _ _ t127 _ _ t113 true _ ?side1 ?side2 ?side3 ?side4 A73.out).mono ?_); (case side1 => repeat (first | exact (zRr HO_12.out).2.2 | (with_reducible first | refine zCa ?_ _ | refine zCn ?_ _ | refine zCd ?_))); (case side2 => exact (zRr HO_12.out).2.1); (case side3 => repeat (first | exact (zRr HO_8.out).2.2 | (with_reducible first | refine zCa ?_ _ | refine zCn ?_ _ | refine zCd ?_))); (case side4 => exact (zRr HO_8.out).2.1); rintro e w77 ⟨rfl, hb⟩; replace HO_8 := zA (zRb (zq3 HO_8) hb); replace HO_10 := zA (zRb (zq3 HO_10) hb); replace HO_12 := zA (zRb (zq3 HO_12) hb); replace HO_127000 := zA (zRb (zq3 HO_127000) hb); replace HO_127001 := zA (zRb (zq3 HO_127001) hb); replace HO134 := zA (zRb (zq3 HO134) hb); replace HO138 := zA (zRb (zq3 HO138) hb); replace HO141 := zA (zRb (zq3 HO141) hb); replace BK101 := zbb BK101 hb; replace BK126 := zbb BK126 hb; replace HB := zA (zaa (zq7 GE101 GE126) hb); (try clear hb)))
   go_meet
   case rel => exact ⟨_, ((t130 != t116)), zq4, H', ⟨zq37 HJ19⟩, ⟨zq3 HO_8⟩, ⟨zq3 HO_12⟩, ⟨zq20 HO_127000⟩, ⟨zq20 HO_127001⟩, ⟨zq6 BK101⟩, ⟨zq6 BK126⟩, ⟨zq7 GE101 GE126⟩⟩
 clear HC59
 try clear c5
 try clear c5b0
 try clear c9
 try clear c9b0
 try clear c43
 try clear c50
 try clear c53
 try clear c56
 try clear c72
 try clear c72b0
 try clear c74
 try clear hcz12_0
 try clear hcz12_1
 try clear hcz23_0
 try clear hcz23_1
 try clear hcz33_0
 try clear hcz33_1
 try clear hcz38_0
 try clear hcz38_1
 try clear hcz70_0
 try clear hcz70_1
 try clear hfz12_0
 try clear hfz12_1
 try clear hfz23_0
 try clear hfz23_1
 try clear hfz33_0
 try clear hfz33_1
 try clear hfz38_0
 try clear hfz38_1
 try clear hfz70_0
 try clear hfz70_1
 obtain ⟨kq, x86_58, rfl, HA, HJ58, HO_8, HO_12, HO_127000, HO_127001, BK101, BK126, HB⟩ := hcut
 have hl127000_58 := (zRr HO_127000.out).1
 rw [hl127000_58] at HO_127000
 (try simp only [hl127000_58])
 (try simp only [hl127000_58] at BK101)
 (try simp only [hl127000_58] at BK126)
 (try simp only [hl127000_58] at HO_8)
 (try simp only [hl127000_58] at HO_12)
 (try simp only [hl127000_58] at HO_127001)
 have hl127001_58 := (zRr HO_127001.out).1
 rw [hl127001_58] at HO_127001
 (try simp only [hl127001_58])
 (try simp only [hl127001_58] at BK101)
 (try simp only [hl127001_58] at BK126)
 (try simp only [hl127001_58] at HO_8)
 (try simp only [hl127001_58] at HO_12)
 (try simp only [hl127001_58] at HO_127000)
 cases kq with
 | zero => exact absurd HA.out (by simp [zao])
 | succ kj58 =>
 have H := HA.out
 clear HA
 simp only [zao] at H
 by_cases c81 : x86_58 = true
 · subst c81
   have H1 : (none : Option Bool) = some r := by rw [if_pos rfl] at H; exact H
   cases H1
 replace c81 := zbf c81
 subst c81
 replace H := zif H
 replace H := zob H
 obtain ⟨⟨t149, t150⟩, A820, H⟩ := H
 replace H : ((zet kj58 t150 1).bind fun t151 => (if t151 < 0 then (none) else (if t151 = t149 then ((zb1 kj58 l0).bind fun t152 => ((za6 kj58 l1_0 l1_1).bind fun bt155 => ((zbi kj58 t152 bt155.1 bt155.2 a2).bind fun bt161 => ((zay kj58 bt161.1 t113).bind fun t165 => (if t165 = true then (zaq kj58 t150 t149 (bt161.2 != t116)) else (none)))))) else (none)))) = some r := H
 have A82 := zA A820
 clear A820
 replace H := zob H
 obtain ⟨t151, A830, H⟩ := H
 replace H : (if t151 < 0 then (none) else (if t151 = t149 then ((zb1 kj58 l0).bind fun t152 => ((za6 kj58 l1_0 l1_1).bind fun bt155 => ((zbi kj58 t152 bt155.1 bt155.2 a2).bind fun bt161 => ((zay kj58 bt161.1 t113).bind fun t165 => (if t165 = true then (zaq kj58 t150 t149 (bt161.2 != t116)) else (none)))))) else (none))) = some r := H
 have A83 := zA A830
 clear A830
 by_cases c84 : t151 < 0
 · rw [if_pos c84] at H
   cases H
 rw [if_neg c84] at H
 have c84b0 := zdf c84
 clear c84
 by_cases c88 : t151 = t149
 rotate_left
 · rw [if_neg c88] at H
   cases H
 rw [if_pos c88] at H
 obtain ⟨c88b0, c88b1⟩ := zbe c88
 clear c88
 replace H := zob H
 obtain ⟨t152, A890, H⟩ := H
 replace H : ((za6 kj58 l1_0 l1_1).bind fun bt155 => ((zbi kj58 t152 bt155.1 bt155.2 a2).bind fun bt161 => ((zay kj58 bt161.1 t113).bind fun t165 => (if t165 = true then (zaq kj58 t150 t149 (bt161.2 != t116)) else (none))))) = some r := H
 have A89 := zA A890
 clear A890
 replace H := zob H
 obtain ⟨⟨t155, t158⟩, A900, H⟩ := H
 replace H : ((zbi kj58 t152 t155 t158 a2).bind fun bt161 => ((zay kj58 bt161.1 t113).bind fun t165 => (if t165 = true then (zaq kj58 t150 t149 (bt161.2 != t116)) else (none)))) = some r := H
 have A90 := zA A900
 clear A900
 replace H := zob H
 obtain ⟨⟨t161, t164⟩, A910, H⟩ := H
 replace H : ((zay kj58 t161 t113).bind fun t165 => (if t165 = true then (zaq kj58 t150 t149 (t164 != t116)) else (none))) = some r := H
 have A91 := zA A910
 clear A910
 have HC92 := zA H
 clear H
 obtain ⟨Ao93, co93, eo93⟩ := Kd.R_slice HO_12.out
 subst eo93
 try go_wp2_with (first | ((with_reducible refine zgc 19 ?_); refine zca 89 Tryz.func19 #[.slice Ao93 t127.length co93, .int .i64 1] (zoz kj58 (fun k_ => some k_ = (.slice Ao93 t127.length co93 : Value).ownBlock) (.slice Ao93 t127.length co93) t127 1 t149 t150 w _ (zq7 GE101 GE126) (by exact Kd.R_tight rfl HO_12.out) A82.out) ?_; rintro e w94 ⟨rfl, hy0, hb, hkp⟩; refine ⟨_, rfl, ?_⟩; replace HO_8 := zA (Kd.R_mono (ok' := fun k_ => some k_ ≠ (.slice Ao93 t127.length co93 : Value).ownBlock) (Kd.R_keptB (HO_8.out) hkp (fun k_ hk_ hs_ => (hk_) hs_)) (fun k_ hk_ => hk_.1)); replace HO_127000 := zA (Kd.R_mono (ok' := fun k_ => True) (Kd.R_keptB ((Kd.R_apart' HO_127000.out (Kd.R_typed HO_12.out) (by decide))) hkp (fun k_ hk_ hs_ => (hk_.2) hs_)) (fun k_ hk_ => trivial)); replace HO_127001 := zA (Kd.R_mono (ok' := fun k_ => True) (Kd.R_keptB ((Kd.R_apart' HO_127001.out (Kd.R_typed HO_12.out) (by decide))) hkp (fun k_ hk_ hs_ => (hk_.2) hs_)) (fun k_ hk_ => trivial)); replace BK101 := zA (zh4 (zq6 BK101) hkp (fun hs_ => (fun e_ => (Kd.R_ne HO_12.out BK101.out (by decide)) e_) hs_)); replace BK126 := zA (zh4 (zq6 BK126) hkp (fun hs_ => (fun e_ => (Kd.R_ne HO_12.out BK126.out (by decide)) e_) hs_)); replace HO_12 := zA (Kd.R_reok rfl hy0 (fun k_ e_ => HO_12.out.1 k_ e_)); replace HB := zA (hb); (try clear hb); (try clear hkp); (try clear hy0)) | ((with_reducible refine zjq (f := 20) rfl ?_); refine zrd (some 92) rfl rfl Tryz.func20 zq25 rfl #[.slice Ao93 t150.length co93, .int .i64 1] rfl (by (try simp only [List.map_toArray, List.map_cons, List.map_nil]); first | done | (rw [show t150.length = t127.length from (zRr HO_12.out).1.symm] <;> rfl) | rfl | (simp only [List.length_drop, List.length_take]; rfl)) ?_; (with_reducible refine (zk0 kj58 _ _ t150 1 t151 _ ?side1 ?side2 A83.out).mono ?_); (case side1 => repeat (first | exact (zRr HO_12.out).2.2 | (with_reducible first | refine zCa ?_ _ | refine zCn ?_ _ | refine zCd ?_))); (case side2 => rw [show t150.length = t127.length from (zRr HO_12.out).1.symm]; exact (zRr HO_12.out).2.1); rintro e w95 ⟨rfl, hb⟩; refine ⟨_, rfl, ?_⟩; replace HO_8 := zA (zRb (zq3 HO_8) hb); replace HO_12 := zA (zRb (zq3 HO_12) hb); replace HO_127000 := zA (zRb (zq3 HO_127000) hb); replace HO_127001 := zA (zRb (zq3 HO_127001) hb); replace BK101 := zbb BK101 hb; replace BK126 := zbb BK126 hb; replace HB := zA (zaa (zq7 GE101 GE126) hb); (try clear hb)))
 replace HO_8 := zA (zRd HO_8.out)
 replace HO_12 := zA (zRd HO_12.out)
 replace HO_127000 := zA (zRd HO_127000.out)
 replace HO_127001 := zA (zRd HO_127001.out)
 replace BK101 := zA (zkd BK101.out)
 replace BK126 := zA (zkd BK126.out)
 replace HB := zA (zbd HB.out)
 refine zly (n := 11) (S := fun w' => w'.cell? ⟨gb101, 0, none⟩ = some (.slice A1_0 l1_0.length c1_0) ∧ w'.cell? ⟨gb101, 1, none⟩ = some (.slice A1_1 l1_1.length c1_1)) (ds := []) #[false, false, false, false, false, false, false, false, false, false, false] zq25 rfl rfl ⟨(zaf BK101.out 0).trans rfl, (zaf BK101.out 1).trans rfl⟩ (fun hHeld => ?_); refine zgn zlg zk5 (fun HT_ HW_ => ?_)
 generalize w95.drew = w96 at HO_8 HO_12 HO_127000 HO_127001 BK101 BK126 HB hHeld ⊢
 refine zpu 0 99 HT_ ?_
 refine zpu 4 103 HT_ ?_
 refine ztu 2 101 HT_ HW_ hHeld ?_
 refine one_ (i := 1) (N := some 100) #[true, true, true, false, true, false, false, false, false, false, false] rfl rfl (zf1 HT_.out zq25) (by decide) (fun K hK => ?_)
 refine zog Tryz.func11 zq25 rfl #[.slice A0 l0.length c0] (by rfl) rfl rfl zq15 ?_
 with_reducible refine (zim kj58 _ _ l0 t152 _ ?side1 ?side2 A89.out).mono ?_
 (case side1 => repeat (first | exact (zCb HR0.out HB.out) | (with_reducible first | refine zCa ?_ _ | refine zCn ?_ _ | refine zCd ?_)))
 (case side2 => exact HC0.out)
 rintro e w97 ⟨v153, rfl, ho0, hb⟩
 refine ⟨_, rfl, ?_⟩
 replace HO_8 := zA (zRb (zq3 HO_8) hb)
 replace HO_12 := zA (zRb (zq3 HO_12) hb)
 replace HO_127000 := zA (zRb (zq3 HO_127000) hb)
 replace HO_127001 := zA (zRb (zq3 HO_127001) hb)
 have HO154 := zA (Kd.R_lower ho0 (zag (zq7 GE101 GE126)))
 replace BK101 := zA (zai (g := gb101) (o := .cells #[.slice A1_0 l1_0.length c1_0, .slice A1_1 l1_1.length c1_1] 26 (0, 0)) (zq6 BK101) hb)
 replace BK126 := zA (zai (g := gb126) (o := .cells #[.slice Ao36 t146.length co36, .slice Ao39 t147.length co39] 34 (0, 0)) (zq6 BK126) hb)
 replace HB := zA (zaa (zq7 GE101 GE126) hb)
 (try clear hb)
 (try clear hb2)
 (try clear hk)
 (try clear hi)
 (try clear ho0)
 refine hK.out _ _ ⟨(zaf BK101.out 0).trans rfl, (zaf BK101.out 1).trans rfl⟩ (fun hHeld => ?_)
 clear hK K
 refine znm 100 ?_
 refine one_ (i := 3) (N := some 102) #[true, true, true, true, true, false, false, false, false, false, false] rfl rfl (zf1 HT_.out zq25) (by decide) (fun K hK => ?_)
 refine zog Tryz.func12 zq25 rfl #[.agg #[.slice A1_0 l1_0.length c1_0, .slice A1_1 l1_1.length c1_1]] (by rfl) rfl rfl zq15 ?_
 with_reducible refine (zh0 kj58 _ _ l1_0 _ _ l1_1 t155 t158 _ ?side1 ?side2 ?side3 ?side4 A90.out).mono ?_
 (case side1 => repeat (first | exact (zCb HR1_0.out HB.out) | (with_reducible first | refine zCa ?_ _ | refine zCn ?_ _ | refine zCd ?_)))
 (case side2 => exact HC1_0.out)
 (case side3 => repeat (first | exact (zCb HR1_1.out HB.out) | (with_reducible first | refine zCa ?_ _ | refine zCn ?_ _ | refine zCd ?_)))
 (case side4 => exact HC1_1.out)
 rintro e w98 ⟨v156, v159, rfl, ho0, ho1, hb⟩
 refine ⟨_, rfl, ?_⟩
 replace HO_8 := zA (zRb (zq3 HO_8) hb)
 replace HO_12 := zA (zRb (zq3 HO_12) hb)
 replace HO154 := zA (zRb (zq3 HO154) hb)
 have HO157 := zA (Kd.R_lower (Kd.R_new' ho0 (Kd.R_lt (zq3 HO_127000))) (zag (zq7 GE101 GE126)))
 replace HO_127000 := zA (Kd.R_elder' (zq3 HO_127000) (Kd.R_base ho0) hb)
 have HO160 := zA (Kd.R_lower (Kd.R_new' ho1 (Kd.R_lt (zq3 HO_127001))) (zag (zq7 GE101 GE126)))
 replace HO_127001 := zA (Kd.R_elder' (zq3 HO_127001) (Kd.R_base ho1) hb)
 replace BK101 := zA (zai (g := gb101) (o := .cells #[.slice A1_0 l1_0.length c1_0, .slice A1_1 l1_1.length c1_1] 26 (0, 0)) (zq6 BK101) hb)
 replace BK126 := zA (zai (g := gb126) (o := .cells #[.slice Ao36 t146.length co36, .slice Ao39 t147.length co39] 34 (0, 0)) (zq6 BK126) hb)
 replace HB := zA (zaa (zq7 GE101 GE126) hb)
 (try clear hb)
 (try clear hb2)
 (try clear hk)
 (try clear hi)
 (try clear ho0)
 (try clear ho1)
 obtain ⟨Ao99, co99, eo99⟩ := Kd.R_slice HO154.out
 (first | subst eo99 | (injection eo99 with f1_ f2_ f3_; have f4_ := f1_.symm; have f5_ := f3_.symm; clear f1_ f2_ f3_; subst f4_; subst f5_))
 obtain ⟨Ao100, co100, eo100⟩ := Kd.R_slice HO157.out
 (first | subst eo100 | (injection eo100 with f1_ f2_ f3_; have f4_ := f1_.symm; have f5_ := f3_.symm; clear f1_ f2_ f3_; subst f4_; subst f5_))
 obtain ⟨Ao101, co101, eo101⟩ := Kd.R_slice HO160.out
 (first | subst eo101 | (injection eo101 with f1_ f2_ f3_; have f4_ := f1_.symm; have f5_ := f3_.symm; clear f1_ f2_ f3_; subst f4_; subst f5_))
 refine hK.out _ _ ⟨(zaf BK101.out 0).trans rfl, (zaf BK101.out 1).trans rfl⟩ (fun hHeld => ?_)
 clear hK K
 refine znm 102 ?_
 refine one_ (i := 5) (N := some 104) #[true, true, true, true, true, true, false, false, false, false, false] rfl rfl (zf1 HT_.out zq25) (by decide) (fun K hK => ?_)
 refine zog Tryz.func22 zq25 rfl #[.slice Ao99 t152.length co99, .agg #[.slice Ao100 t155.length co100, .slice Ao101 t158.length co101], .int .i64 a2] (by rfl) rfl rfl zq15 ?_
 with_reducible refine (zke kj58 _ _ t152 _ _ t155 _ _ t158 a2 t161 t164 _ ?side1 ?side2 ?side3 ?side4 ?side5 ?side6 A91.out).mono ?_
 (case side1 => repeat (first | exact (zRr HO154.out).2.2 | (with_reducible first | refine zCa ?_ _ | refine zCn ?_ _ | refine zCd ?_)))
 (case side2 => exact (zRr HO154.out).2.1)
 (case side3 => repeat (first | exact (zRr HO157.out).2.2 | (with_reducible first | refine zCa ?_ _ | refine zCn ?_ _ | refine zCd ?_)))
 (case side4 => exact (zRr HO157.out).2.1)
 (case side5 => repeat (first | exact (zRr HO160.out).2.2 | (with_reducible first | refine zCa ?_ _ | refine zCn ?_ _ | refine zCd ?_)))
 (case side6 => exact (zRr HO160.out).2.1)
 rintro e w102 ⟨v162, rfl, ho0, hb⟩
 refine ⟨_, rfl, ?_⟩
 replace HO_127000 := zA (zRb (zq3 HO_127000) hb)
 replace HO_127001 := zA (zRb (zq3 HO_127001) hb)
 replace HO154 := zA (zRb (zq3 HO154) hb)
 replace HO157 := zA (zRb (zq3 HO157) hb)
 replace HO160 := zA (zRb (zq3 HO160) hb)
 have HO163 := zA (Kd.R_lower (Kd.R_new' (Kd.R_new' ho0 (Kd.R_lt (zq3 HO_8))) (Kd.R_lt (zq3 HO_12))) (zag (zq7 GE101 GE126)))
 replace HO_8 := zA (Kd.R_elder' (zq3 HO_8) (Kd.R_base ho0) hb)
 replace HO_12 := zA (Kd.R_elder' (zq3 HO_12) (Kd.R_base ho0) hb)
 replace BK101 := zA (zai (g := gb101) (o := .cells #[.slice A1_0 l1_0.length c1_0, .slice A1_1 l1_1.length c1_1] 26 (0, 0)) (zq6 BK101) hb)
 replace BK126 := zA (zai (g := gb126) (o := .cells #[.slice Ao36 t146.length co36, .slice Ao39 t147.length co39] 34 (0, 0)) (zq6 BK126) hb)
 replace HB := zA (zaa (zq7 GE101 GE126) hb)
 (try clear hb)
 (try clear hb2)
 (try clear hk)
 (try clear hi)
 (try clear ho0)
 refine hK.out _ _ ⟨(zaf BK101.out 0).trans rfl, (zaf BK101.out 1).trans rfl⟩ (fun hHeld => ?_)
 clear hK K
 refine znm 104 ?_
 refine zpu 6 98 HT_ ?_
 refine zpu 7 105 HT_ ?_
 refine zpu 8 106 HT_ ?_
 refine zpu 9 17 HT_ ?_
 refine zpu 10 18 HT_ ?_
 refine zpl (zjr HT_.out zq25) ?_
 go_upto_region 32 with (fail)
 go_cut [115] (fun v115 wc => ∃ (kq : Nat) (x115_91 : Bool), v115 = .bool x115_91 ∧ Aside0 (zaq kq t150 t149 x115_91 = some r) ∧ Aside0 (kq ≤ kj58) ∧ Aside0 (Kd.R k69 69 wc w.heap.size (fun _ => True) (.slice Ao93 t127.length co93) t150) ∧ Aside0 (Kd.R Kd.string 9 wc w.heap.size (fun _ => True) (.slice Ao36 t146.length co36) t146) ∧ Aside0 (Kd.R (Kd.int .i64) 3 wc w.heap.size (fun _ => True) (.slice Ao39 t147.length co39) t147) ∧ Aside0 (wc.heap[gb101]? = some (.cells #[(.slice A1_0 l1_0.length c1_0), (.slice A1_1 l1_1.length c1_1)] 26 (0, 0))) ∧ Aside0 (wc.heap[gb126]? = some (.cells #[(.slice Ao36 t146.length co36), (.slice Ao39 t147.length co39)] 34 (0, 0))) ∧ Aside0 (Below w.heap.size w wc))
 case first =>
   have H := HC92.out
   clear HC92
   replace H := zob H
   obtain ⟨t165, A1030, H⟩ := H
   replace H : (if t165 = true then (zaq kj58 t150 t149 (t164 != t116)) else (none)) = some r := H
   have A103 := zA A1030
   clear A1030
   by_cases c104 : t165 = true
   rotate_left
   · replace c104 := zbf c104
     subst c104
     have H1 : (none : Option Bool) = some r := by rw [if_neg (show ¬ (false = true) by decide)] at H; exact H
     cases H1
   subst c104
   replace H := zih H
   have H' := zA H
   clear H
   obtain ⟨Ao105, co105, eo105⟩ := Kd.R_slice HO163.out
   subst eo105
   obtain ⟨Ao106, co106, eo106⟩ := Kd.R_slice HO_8.out
   subst eo106
   go_wp2_with (first | ((with_reducible refine zgc 14 ?_); refine zca 109 Tryz.func14 #[.slice Ao105 t161.length co105, .slice Ao106 t113.length co106] (zjo kj58 _ _ t161 _ _ t113 true _ (zq24 HO163) (zq52 HO163) (zq24 HO_8) (zq52 HO_8) A103.out) ?_; rintro e w107 ⟨rfl, hb⟩; refine ⟨_, rfl, ?_⟩; replace HO_8 := zA (zRb (zq3 HO_8) hb); replace HO_12 := zA (zRb (zq3 HO_12) hb); replace HO_127000 := zA (zRb (zq3 HO_127000) hb); replace HO_127001 := zA (zRb (zq3 HO_127001) hb); replace HO154 := zA (zRb (zq3 HO154) hb); replace HO157 := zA (zRb (zq3 HO157) hb); replace HO160 := zA (zRb (zq3 HO160) hb); replace HO163 := zA (zRb (zq3 HO163) hb); replace BK101 := zbb BK101 hb; replace BK126 := zbb BK126 hb; replace HB := zA (zaa (zq7 GE101 GE126) hb); (try clear hb)))
   go_meet
   case rel => exact ⟨_, ((t164 != t116)), zq4, H', ⟨by have := HJ19.out; have := HJ58.out; first | omega | exact zlr _⟩, ⟨zq49 HO_12⟩, ⟨zq49 HO_127000⟩, ⟨zq49 HO_127001⟩, ⟨by (try simp only [hl127000_58]); (try simp only [hl127001_58]); (with_reducible repeat (first | refine zkn ?_ _ | refine zkd ?_ | refine zka ?_ _)); exact BK101.out⟩, ⟨by (try simp only [hl127000_58]); (try simp only [hl127001_58]); (with_reducible repeat (first | refine zkn ?_ _ | refine zkd ?_ | refine zka ?_ _)); exact BK126.out⟩, ⟨zq7 GE101 GE126⟩⟩
 clear HC92
 try clear c5
 try clear c5b0
 try clear c9
 try clear c9b0
 try clear c43
 try clear c50
 try clear c53
 try clear c56
 try clear c72
 try clear c72b0
 try clear c74
 try clear c81
 try clear c84
 try clear c84b0
 try clear c88
 try clear c88b0
 try clear c88b1
 try clear c104
 try clear hcz12_0
 try clear hcz12_1
 try clear hcz23_0
 try clear hcz23_1
 try clear hcz33_0
 try clear hcz33_1
 try clear hcz38_0
 try clear hcz38_1
 try clear hcz70_0
 try clear hcz70_1
 try clear hfz12_0
 try clear hfz12_1
 try clear hfz23_0
 try clear hfz23_1
 try clear hfz33_0
 try clear hfz33_1
 try clear hfz38_0
 try clear hfz38_1
 try clear hfz70_0
 try clear hfz70_1
 obtain ⟨kq, x115_91, rfl, HA, HJ91, HO_12, HO_127000, HO_127001, BK101, BK126, HB⟩ := hcut
 have hl12_91 := (zRr HO_12.out).1
 rw [hl12_91] at HO_12
 (try simp only [hl12_91])
 (try simp only [hl12_91] at BK101)
 (try simp only [hl12_91] at BK126)
 (try simp only [hl12_91] at HO_127000)
 (try simp only [hl12_91] at HO_127001)
 cases kq with
 | zero => exact absurd HA.out (by simp [zaq])
 | succ kj91 =>
 have H := HA.out
 clear HA
 simp only [zaq] at H
 by_cases c111 : x115_91 = true
 · subst c111
   have H1 : (none : Option Bool) = some r := by rw [if_pos rfl] at H; exact H
   cases H1
 replace c111 := zbf c111
 subst c111
 replace H := zif H
 replace H := zob H
 obtain ⟨t166, A1120, H⟩ := H
 replace H : (if t166 < 0 then (none) else (if t166 = t149 then (some true) else (none))) = some r := H
 have A112 := zA A1120
 clear A1120
 by_cases c113 : t166 < 0
 · rw [if_pos c113] at H
   cases H
 rw [if_neg c113] at H
 have c113b0 := zdf c113
 clear c113
 by_cases c115 : t166 = t149
 rotate_left
 · rw [if_neg c115] at H
   cases H
 rw [if_pos c115] at H
 obtain ⟨c115b0, c115b1⟩ := zbe c115
 clear c115
 obtain rfl := zsi H
 go_wp2_with (first | ((with_reducible refine zgc 20 ?_); refine zca 118 Tryz.func20 #[.slice Ao93 t150.length co93, .int .i64 1] (zk0 kj91 _ _ t150 1 t166 _ (zq24 HO_12) (zq52 HO_12) A112.out) ?_; rintro e w116 ⟨rfl, hb⟩; refine ⟨_, rfl, ?_⟩; replace HO_12 := zA (zRb (zq3 HO_12) hb); replace HO_127000 := zA (zRb (zq3 HO_127000) hb); replace HO_127001 := zA (zRb (zq3 HO_127001) hb); replace BK101 := zbb BK101 hb; replace BK126 := zbb BK126 hb; replace HB := zA (zaa (zq7 GE101 GE126) hb); (try clear hb)))
 go_ret
 exact ⟨zq5, zq7 GE101 GE126⟩
end Go.Proofs.YtnaafcleafbejaaGreat.Q
end
section
namespace Go.Proofs.YtnaafcleafbejaaGreat.Rd
open Go Go.RowKit Go.Proofs.YtnaafcleafbejaaGreatW.PrintWords Go.Proofs.YtnaafcleafbejaaGreatW.PrintLast Go.ChangeShapes Go.WideShapes Go.Deep
set_option linter.unusedSimpArgs false
set_option linter.unusedVariables false
structure RdK {α : Type} (d : Kd α) (P : Program) (t : TypeId) (Good : α → Prop) : Prop where
  size : P.cellsOf t = d.sz
  get : ∀ {H : Type} {enc : TypeId × Value → H} {w : World} {n : Nat} {cs : List Value} {x : DataW H × List MemPlace}, DataW.trod enc P w 0 (fun _ => true) true n t cs = some x → ∃ a, d.K w a cs ∧ Good a
def okInt (k : IntKind) (n : Int) : Prop := (Lit.int k n).wf = true
def okStr (s : ByteArray) : Prop := s.size ≤ maxLen
def okSl {α : Type} (G : α → Prop) (xs : List α) : Prop := xs.length ≤ maxLen ∧ ∀ x ∈ xs, G x
theorem rk_int {P : Program} {t : TypeId} {k : IntKind} (ht : P.underlying t = some (.int k)) (hs : P.cellsOf t = 1) : RdK (Kd.int k) P t (okInt k) :=
  ⟨hs, fun h => by obtain ⟨n, rfl, _, hw⟩ := DataW.trod_int ht h; exact ⟨n, rfl, hw⟩⟩
theorem rk_string {P : Program} {t : TypeId} (ht : P.underlying t = some .string) (hs : P.cellsOf t = 1) : RdK Kd.string P t okStr :=
  ⟨hs, fun h => by obtain ⟨n, rfl, _, hw⟩ := DataW.trod_string ht h; exact ⟨n, rfl, hw⟩⟩
theorem rk_slice {α : Type} {d : Kd α} {P : Program} {t e : TypeId} {G : α → Prop} (hd : RdK d P e G) (ht : P.underlying t = some (.slice e)) (hs : P.cellsOf t = 1) : RdK (Kd.slice e d) P t (okSl G) := by
  refine ⟨hs, fun {H enc w n cs x} h => ?_⟩
  rcases open_slice ht h with ⟨rfl, _⟩ | ⟨a, len, cap, m, n', D, Pl, rfl, _, hl, hm, hmm, _, hx⟩
  · exact ⟨[], ⟨none, 0, rfl, Nat.le_refl _, rfl, Nat.zero_le _, fun h => absurd h (Nat.lt_irrefl 0)⟩, Nat.zero_le _, fun _ h => by cases h⟩
  · have hc : m = cap := by simpa using hmm
    subst hc
    have key : ∀ i : Fin len, ∃ a' : α, ∃ cs', d.K w a' cs' ∧ G a' ∧ w.cells? 0 (a.add (i * P.cellsOf e)) (P.cellsOf e) = some cs' := fun i => by
      obtain ⟨cs', h1, h2⟩ := hx i (by omega)
      obtain ⟨a', h3, h4⟩ := hd.get h2
      exact ⟨a', cs', h3, h4, h1⟩
    have hlen : (List.ofFn fun i => Classical.choose (key i)).length = len := List.length_ofFn
    refine ⟨List.ofFn fun i => Classical.choose (key i), ⟨some a, m, by rw [hlen], by omega, hlen.trans hlen.symm, ?_, fun _ => ⟨a, rfl, fun j p hj => ?_⟩⟩, by rw [hlen]; omega, fun y hy => ?_⟩
    · rw [hlen]; unfold maxLen at hm; omega
    · have hjl : j < len := by
        have := (List.getElem?_eq_some_iff.1 hj).1
        rwa [hlen] at this
      rw [List.getElem?_ofFn, dif_pos hjl, Option.some.injEq] at hj
      obtain ⟨cs', h1, h2, h3⟩ := Classical.choose_spec (key ⟨j, hjl⟩)
      rw [hj] at h1 h2
      obtain ⟨_, h5, h6⟩ := World.cells?_some h3
      refine ⟨cs', d.K_len h1, h1, fun i u hi => ?_⟩
      have hil : i < P.cellsOf e := by
        have := (List.getElem?_eq_some_iff.1 hi).1
        omega
      have := h6 i hil
      rw [Go.Deep.add_add] at this
      rw [← hd.size]
      exact this.trans hi
    · obtain ⟨i, rfl⟩ := List.mem_ofFn.1 hy
      obtain ⟨cs', h1, h2, h3⟩ := Classical.choose_spec (key i)
      exact h2
structure RdF {α : Type} (d : Kd α) (P : Program) (fs : List Field) (off : Nat) (Good : α → Prop) : Prop where
  get : ∀ {H : Type} {enc : TypeId × Value → H} {w : World} {n : Nat} {cs : List Value}, cs.length = off + d.sz →
    (∀ f ∈ fs, ∃ y, DataW.trod enc P w 0 (fun _ => true) true n f.type ((cs.drop f.offset).take (P.cellsOf f.type)) = some y) → ∃ a, d.K w a (cs.drop off) ∧ Good a
theorem rf_one {α : Type} {d : Kd α} {P : Program} {f : Field} {G : α → Prop} (hd : RdK d P f.type G) : RdF d P [f] f.offset G := by
  refine ⟨fun {H enc w n cs} hl h => ?_⟩
  obtain ⟨y, hy⟩ := h f (List.mem_singleton.2 rfl)
  rw [hd.size, List.take_of_length_le (by rw [List.length_drop]; omega)] at hy
  exact hd.get hy
theorem rf_cons {α β : Type} {d : Kd α} {d' : Kd β} {P : Program} {f : Field} {fs : List Field} {G : α → Prop} {G' : β → Prop} {off' : Nat} (hd : RdK d P f.type G) (ho : off' = f.offset + d.sz) (hf : RdF d' P fs off' G') :
    RdF (Kd.pair d d') P (f :: fs) f.offset (fun x => G x.1 ∧ G' x.2) := by
  refine ⟨fun {H enc w n cs} hl h => ?_⟩
  have hl' : cs.length = f.offset + (d.sz + d'.sz) := hl
  obtain ⟨y, hy⟩ := h f List.mem_cons_self
  rw [hd.size] at hy
  obtain ⟨a, h1, h2⟩ := hd.get hy
  obtain ⟨b, h3, h4⟩ := hf.get (cs := cs) (by omega) (fun g hg => h g (List.mem_cons_of_mem _ hg))
  refine ⟨(a, b), ⟨_, _, ?_, h1, h3⟩, h2, h4⟩
  rw [ho, ← List.drop_drop, List.take_append_drop]
theorem rk_struct {α : Type} {d : Kd α} {P : Program} {t : TypeId} {fs : Array Field} {G : α → Prop} (ht : P.underlying t = some (.struct fs)) (hs : P.cellsOf t = d.sz) (hf : RdF d P fs.toList 0 G) : RdK d P t G := by
  refine ⟨hs, fun {H enc w n cs x} h => ?_⟩
  obtain ⟨xs, n', _, _, hl, hlen, hg⟩ := DataW.trod_struct ht h
  have := hf.get (cs := cs) (enc := enc) (w := w) (n := n') (by omega) (fun f hf' => by
    obtain ⟨i, hi, he⟩ := List.getElem_of_mem hf'
    have h1 : fs[i]? = some f := by rw [← Array.getElem?_toList, List.getElem?_eq_getElem hi, he]
    have h2 := hg i f h1
    rw [List.getElem?_eq_getElem (by rw [hlen]; simpa using hi)] at h2
    exact ⟨_, h2⟩)
  simpa using this
theorem rk_iso {α β : Type} {d : Kd α} {P : Program} {t : TypeId} {G : α → Prop} (hd : RdK d P t G) (f : β → α) (g : α → β) (hfg : ∀ a, f (g a) = a) : RdK (Kd.iso d f) P t (fun b => G (f b)) := by
  refine ⟨hd.size, fun {H enc w n cs x} h => ?_⟩
  obtain ⟨a, h1, h2⟩ := hd.get h
  exact ⟨g a, by show d.K w (f (g a)) cs; rw [hfg]; exact h1, by rw [hfg]; exact h2⟩
theorem arg_slice {α : Type} {d : Kd α} {P : Program} {t e : TypeId} {G : α → Prop} (hd : RdK (Kd.slice e d) P t (okSl G)) {H : Type} {enc : TypeId × Value → H} {w : World} {a : Option Addr} {len cap : Nat} {x : DataW H} {ps : List MemPlace}
    (h : DataW.Trod enc P w 0 (fun _ => true) true t (.slice a len cap) x ps) : ∃ xs : List α, len = xs.length ∧ xs.length ≤ cap ∧ Kd.C d w a xs.length xs ∧ okSl G xs := by
  obtain ⟨n, hn⟩ := h
  obtain ⟨xs, ⟨A, c, he, hl, hc⟩, hg⟩ := hd.get hn
  simp [Value.cells] at he
  obtain ⟨rfl, rfl, rfl⟩ := he
  exact ⟨xs, rfl, hl, hc, hg⟩
theorem arg_struct {α : Type} {d : Kd α} {P : Program} {t : TypeId} {G : α → Prop} (hd : RdK d P t G) {H : Type} {enc : TypeId × Value → H} {w : World} {cs : Array Value} {x : DataW H} {ps : List MemPlace}
    (h : DataW.Trod enc P w 0 (fun _ => true) true t (.agg cs) x ps) : ∃ a : α, d.K w a cs.toList ∧ G a := by
  obtain ⟨n, hn⟩ := h
  exact hd.get hn
end Go.Proofs.YtnaafcleafbejaaGreat.Rd
end
section
namespace Go.Proofs.YtnaafcleafbejaaGreat.Q
open Go.RowKit Go.Proofs.YtnaafcleafbejaaGreatW.PrintWords Go.Proofs.YtnaafcleafbejaaGreatW.PrintLast Go.Proofs.YtnaafcleafbejaaGreatW.PrintMore
attribute [local go_sem] zb8 zb9 zda zdb zbm zbo zcb zcc
set_option linter.unusedVariables false
set_option linter.unusedSimpArgs false
def zzk (x : S58) : Prop := Rd.okStr x.f0 ∧ (Rd.okInt .i64) x.f1 ∧ (Rd.okInt .i64) x.f2 ∧ (Rd.okInt .i64) x.f3
theorem rd58 : Rd.RdK k58 Tryz.prog 58 zzk :=
  Rd.rk_iso (Rd.rk_struct Tryz.underlying58 (by kernel_rfl) (Rd.rf_cons (Rd.rk_string Tryz.underlying9 (by kernel_rfl)) rfl (Rd.rf_cons (Rd.rk_int Tryz.underlying3 (by kernel_rfl)) rfl (Rd.rf_cons (Rd.rk_int Tryz.underlying3 (by kernel_rfl)) rfl (Rd.rf_one (Rd.rk_int Tryz.underlying3 (by kernel_rfl))))))) (fun x : S58 => (x.f0, x.f1, x.f2, x.f3)) (fun p => ⟨p.1, p.2.1, p.2.2.1, p.2.2.2⟩) (fun _ => rfl)
def yb6 (x : S26) : Prop := (Rd.okSl Rd.okStr) x.f0 ∧ (Rd.okSl (Rd.okInt .i64)) x.f1
theorem rd26 : Rd.RdK k26 Tryz.prog 26 yb6 :=
  Rd.rk_iso (Rd.rk_struct Tryz.underlying26 (by kernel_rfl) (Rd.rf_cons (Rd.rk_slice (Rd.rk_string Tryz.underlying9 (by kernel_rfl)) Tryz.underlying23 (by kernel_rfl)) rfl (Rd.rf_one (Rd.rk_slice (Rd.rk_int Tryz.underlying3 (by kernel_rfl)) Tryz.underlying24 (by kernel_rfl))))) (fun x : S26 => (x.f0, x.f1)) (fun p => ⟨p.1, p.2⟩) (fun _ => rfl)
def laws_FnExactCheapestFor.Pure : Prop := ∀ (a0 : List (S58)) (a1 : S26) (a2 : Int), (Rd.okSl zzk) a0 → yb6 a1 → (Rd.okInt .i64) a2 → ∃ k, zcu k a0 a1.f0 a1.f1 a2 = some true
end Go.Proofs.YtnaafcleafbejaaGreat.Q
end
section
namespace Go.Proofs.YtnaafcleafbejaaGreat.Q
open Go.RowKit Go.Proofs.YtnaafcleafbejaaGreatW.PrintWords Go.Proofs.YtnaafcleafbejaaGreatW.PrintLast Go.Proofs.YtnaafcleafbejaaGreatW.PrintMore
attribute [local go_sem] zb8 zb9 zda zdb zbm zbo zcb zcc
set_option linter.unusedVariables false
set_option linter.unusedSimpArgs false
set_option linter.unusedVariables false
end Go.Proofs.YtnaafcleafbejaaGreat.Q
end
section
namespace Go.Proofs.YtnaafcleafbejaaGreat.PL
open Go Go.RowKit Go.Proofs.YtnaafcleafbejaaGreatW.PrintWords Go.Proofs.YtnaafcleafbejaaGreatW.PrintLast Go.Proofs.YtnaafcleafbejaaGreatW.PrintMore Go.Proofs.YtnaafcleafbejaaGreat.Q
set_option linter.unusedSimpArgs false
set_option linter.unusedVariables false
theorem w64 {x : Int} (h1 : -9223372036854775808 ≤ x) (h2 : x < 9223372036854775808) : wrap64 x = x := by unfold wrap64; omega
theorem w64n (i : Nat) (h : i < 4611686018427387904) : wrap64 ((i : Int) + 1) = ((i + 1 : Nat) : Int) := by unfold wrap64; omega
theorem Ev.some {α : Type} {a r : α} (h : a = r) : Ev (fun _ => some a) r := h ▸ Ev.now a
theorem zi9 {α : Type} {g : Option α} {r : α} (h : g = Option.some r) : Ev (fun _ => g) r := by rw [h]; exact Ev.now r
theorem zk6 {α : Type} {g : Nat → Option α} {r s : α} (h : Ev g r) (e : r = s) : Ev g s := e ▸ h
theorem zae {α : Type} {c : Prop} [Decidable c] {g g' : Nat → Option α} {r : α} (h : c) (H : Ev g r) : Ev (fun k => if c then g k else g' k) r := zrk (fun _ => if_pos h) H
theorem zav {α : Type} {c : Prop} [Decidable c] {g g' : Nat → Option α} {r : α} (h : ¬ c) (H : Ev g' r) : Ev (fun k => if c then g k else g' k) r := zrk (fun _ => if_neg h) H
theorem Ev.call {α β : Type} {g : Option α} {f : Nat → α → Option β} {a : α} {r : β} (h : g = Option.some a) (k : Ev (fun n => f n a) r) : Ev (fun n => g.bind (f n)) r := by
  rw [h]; exact k
theorem zzl {σ ρ : Type} (n : Nat) (L : Nat → σ → Int → Option ρ) (M : Nat → σ → ρ) (hend : ∀ s, Ev (fun k => L k s n) (M n s))
    (hstep : ∀ (i : Nat) s, i < n → (∀ s', Ev (fun k => L k s' ((i + 1 : Nat) : Int)) (M (i + 1) s')) → Ev (fun k => L k s i) (M i s)) :
    ∀ (d i : Nat) s, i + d = n → Ev (fun k => L k s i) (M i s)
  | 0, i, s, h => by
    have e : i = n := by omega
    rw [e]
    exact hend s
  | d + 1, i, s, h => hstep i s (by omega) (fun s' => zzl n L M hend hstep d (i + 1) s' (by omega))
theorem zk7 {α σ ρ : Type} (xs : List α) (L : Nat → σ → Int → Option ρ) (m : List α → σ → ρ) (hend : ∀ s, Ev (fun k => L k s (xs.length : Nat)) (m [] s))
    (hstep : ∀ (i : Nat) s x rest, i < xs.length → (∀ d, xs.getD i d = x) → (∀ s', Ev (fun k => L k s' ((i + 1 : Nat) : Int)) (m rest s')) → Ev (fun k => L k s i) (m (x :: rest) s)) (s : σ) :
    Ev (fun k => L k s 0) (m xs s) := by
  have := zzl xs.length L (fun i s => m (xs.drop i) s) (fun s => by simpa using hend s) (fun i s hi ih => by
    have e : xs.drop i = xs[i] :: xs.drop (i + 1) := List.drop_eq_getElem_cons hi
    show Ev (fun k => L k s i) (m (xs.drop i) s)
    rw [e]
    exact hstep i s xs[i] _ hi (fun d => by simp [List.getD, List.getElem?_eq_getElem hi]) ih) xs.length 0 s (by omega)
  simpa using this
def idx {α : Type} (p : α → Bool) : List α → Int
  | [] => -1
  | x :: xs => if p x = true then 0 else if idx p xs < 0 then -1 else idx p xs + 1
theorem zul {α : Type} (p : α → Bool) (xs : List α) : 0 ≤ idx p xs ↔ ∃ x ∈ xs, p x = true := by
  induction xs with
  | nil => simp [idx]
  | cons x xs ih =>
    unfold idx
    by_cases h : p x = true
    · simp [h]
    · by_cases h2 : idx p xs < 0
      · rw [if_neg h, if_pos h2]
        have : ¬ ∃ x ∈ xs, p x = true := fun e => by have := ih.2 e; omega
        simp [h]
        simpa using this
      · rw [if_neg h, if_neg h2]
        have := ih.1 (by omega)
        simp [h]
        exact ⟨fun _ => this, fun _ => by omega⟩
theorem yes {α : Type} (p : α → Bool) (xs : List α) : -1 ≤ idx p xs := by
  induction xs with
  | nil => unfold idx; simp
  | cons x xs ih => unfold idx; split; · decide
                    · split <;> omega
theorem zv0 {α : Type} (xs : List α) (p : α → Bool) (L : Nat → Int → Option Int) (hend : Ev (fun k => L k (xs.length : Nat)) (-1))
    (hyes : ∀ (i : Nat) x, i < xs.length → (∀ d, xs.getD i d = x) → p x = true → Ev (fun k => L k i) (i : Int))
    (hno : ∀ (i : Nat) x r, i < xs.length → (∀ d, xs.getD i d = x) → p x = false → Ev (fun k => L k ((i + 1 : Nat) : Int)) r → Ev (fun k => L k i) r) : Ev (fun k => L k 0) (idx p xs) := by
  have key : ∀ (d i : Nat), i + d = xs.length → Ev (fun k => L k i) (if idx p (xs.drop i) < 0 then -1 else idx p (xs.drop i) + i) := by
    intro d
    induction d with
    | zero =>
      intro i hi
      rw [List.drop_of_length_le (by omega), if_pos (show idx p [] < 0 by unfold idx; decide)]
      have e : i = xs.length := by omega
      rw [e]; exact hend
    | succ d ih =>
      intro i hi
      have hlt : i < xs.length := by omega
      have e : xs.drop i = xs[i] :: xs.drop (i + 1) := List.drop_eq_getElem_cons hlt
      have hg : ∀ d, xs.getD i d = xs[i] := fun d => by simp [List.getD, List.getElem?_eq_getElem hlt]
      rw [e]
      unfold idx
      by_cases h : p xs[i] = true
      · rw [if_pos h, if_neg (by decide)]
        simpa using hyes i _ hlt hg h
      · refine hno i _ _ hlt hg (by simpa using h) (zk6 (ih (i + 1) (by omega)) ?_)
        rw [if_neg h]
        by_cases h2 : idx p (xs.drop (i + 1)) < 0
        · rw [if_pos h2, if_pos h2, if_pos (by decide)]
        · rw [if_neg h2, if_neg h2, if_neg (by omega)]
          omega
  have := key xs.length 0 (by omega)
  simp only [List.drop_zero, Int.natCast_zero, Int.add_zero] at this
  refine zk6 this ?_
  have := yes p xs
  split <;> omega
theorem yet {α : Type} (xs : List α) (p : α → Bool) (L : Nat → Int → Option Bool) (hend : Ev (fun k => L k (xs.length : Nat)) true)
    (hno : ∀ (i : Nat) x, i < xs.length → (∀ d, xs.getD i d = x) → p x = false → Ev (fun k => L k i) false)
    (hyes : ∀ (i : Nat) x r, i < xs.length → (∀ d, xs.getD i d = x) → p x = true → Ev (fun k => L k ((i + 1 : Nat) : Int)) r → Ev (fun k => L k i) r) : Ev (fun k => L k 0) (xs.all p) := by
  refine zk7 (σ := Unit) xs (fun k _ i => L k i) (fun l _ => l.all p) (fun _ => hend) (fun i _ x rest hi hx ih => ?_) ()
  by_cases h : p x = true
  · exact hyes i x _ hi hx h (zk6 (ih ()) (by simp [h]))
  · have h' : p x = false := by simpa using h
    exact zk6 (hno i x hi hx h') (by simp [h'])
theorem zli {xs : List Int} {i : Nat} {x : Int} (h : ∀ d, xs.getD i d = x) : rd xs i = x := by unfold rd; rw [Int.toNat_natCast]; exact h 0
theorem zlj {α : Type} {d0 : α} {xs : List α} {i : Nat} {x : α} (h : ∀ d, xs.getD i d = x) : rdOf d0 xs i = x := by unfold rdOf; rw [Int.toNat_natCast]; exact h d0
theorem yb7 {xs : List S69} {i : Nat} {x : S69} (h : ∀ d, xs.getD i d = x) : zac xs i = x := by unfold zac; rw [Int.toNat_natCast]; exact h _
theorem zdv {α : Type} (xs : List α) (i : Nat) (h : i < xs.length) : ∀ d, xs.getD i d = xs[i] := fun d => by simp [List.getD, List.getElem?_eq_getElem h]
theorem zo7 {α : Type} (xs ys : List α) (z : α) (v : α) : (xs ++ List.replicate (ys.length + 1) z).set xs.length v = (xs ++ [v]) ++ List.replicate ys.length z := by
  rw [List.set_append_right _ _ (Nat.le_refl _)]
  simp [List.replicate_succ]
abbrev Instr := S69
theorem zzm (l : List Int) (hl : l.length ≤ 1048576) : Ev (fun k => zga k l) l := by
  have key : ∀ (d i : Nat), i + d = l.length → Ev (fun k => zdq k l (l.take i ++ List.replicate d 0) i) l := by
    intro d
    induction d with
    | zero =>
      intro i hi
      refine Ev.step (f := fun _ => some _) (fun k => ?_) (Ev.now _)
      simp only [zdq]
      rw [if_neg (by omega), List.take_of_length_le (by omega)]
      simp
    | succ d ih =>
      intro i hi
      have hlt : i < l.length := by omega
      have hx := zli (zdv l i hlt)
      refine Ev.step (fun k => ?_) (ih (i + 1) (by omega))
      simp only [zdq]
      rw [if_pos (by omega), if_pos (by omega), if_pos (by simp; omega), hx, w64n i (by omega)]
      congr 1
      have e : ((i : Int)).toNat = (l.take i).length := by simp; omega
      rw [e]
      have := zo7 (l.take i) (List.replicate d (0 : Int)) 0 l[i]
      simp only [List.length_replicate] at this
      rw [this]
      congr 1
      rw [List.take_succ_eq_append_getElem hlt]
  unfold zga
  refine zae (by omega) (zae (by simp; omega) ?_)
  simpa using key l.length 0 (by omega)
theorem zoa (l : List Instr) (hl : l.length ≤ 1048576) : Ev (fun k => zay k l l) true := by
  unfold zay
  simp only [if_true]
  refine zk7 (σ := Unit) l (fun k _ i => zc0 k l l i) (fun _ _ => true) (fun _ => ?_) (fun i _ x rest hi hx ih => ?_) ()
  · refine Ev.step (f := fun _ => some true) (fun k => ?_) (Ev.now _)
    simp only [zc0]
    rw [if_neg (by omega)]
  · refine Ev.step (fun k => ?_) (ih ())
    simp only [zc0, zkt, reduceIte, Option.bind_some]
    rw [if_pos (by omega), if_pos (by omega), w64n i (by omega), if_pos (by omega)]
theorem zw1 (l : List Int) (hl : l.length ≤ 1048576) : Ev (fun k => zf9 k l l) true := by
  unfold zf9
  simp only [if_true]
  refine zk7 (σ := Unit) l (fun k _ i => zef k l l i) (fun _ _ => true) (fun _ => ?_) (fun i _ x rest hi hx ih => ?_) ()
  · refine Ev.step (f := fun _ => some true) (fun k => ?_) (Ev.now _)
    simp only [zef]
    rw [if_neg (by omega)]
  · refine Ev.step (fun k => ?_) (ih ())
    simp only [zef, if_true]
    rw [if_pos (by omega), if_pos (by omega), w64n i (by omega), if_pos (by omega)]
theorem zv1 (l : List ByteArray) (a : Int) (hl : Rd.okSl Rd.okStr l) (h0 : 0 ≤ a) (h1 : a ≤ 1048576) :
    ∃ r, Ev (fun k => ze2 k l a) r ∧ (0 ≤ r → (l.length : Int) ≤ a ∧ r ≤ a) := by
  obtain ⟨hl1, hl2⟩ := hl
  unfold maxLen at hl1
  by_cases h : a < l.length
  · refine ⟨-1, ?_, fun h => absurd h (by decide)⟩
    unfold ze2
    rw [w64 (by omega) (by omega)]
    simp only [show a - (l.length : Int) < 0 by omega, if_true]
    exact Ev.now _
  · have key : ∀ (d i : Nat) (r : Int), i + d = l.length → 0 ≤ r → r ≤ a → ∃ q, Ev (fun k => zcn k l r i) q ∧ q ≤ a := by
      intro d
      induction d with
      | zero =>
        intro i r hi hr hra
        refine ⟨r, Ev.step (f := fun _ => some r) (fun k => ?_) (Ev.now _), hra⟩
        simp only [zcn]
        rw [if_neg (by omega)]
      | succ d ih =>
        intro i r hi hr hra
        have hlt : i < l.length := by omega
        have hx : rdOf ByteArray.empty l i = l[i] := zlj (zdv l i hlt)
        have hsz : l[i].size ≤ maxLen := hl2 l[i] (List.getElem_mem hlt)
        unfold maxLen at hsz
        by_cases hb : r < l[i].size
        · refine ⟨-1, Ev.step (f := fun _ => some (-1)) (fun k => ?_) (Ev.now _), by omega⟩
          simp only [zcn, hx]
          rw [if_pos (by omega), if_pos (by omega), w64 (by omega) (by omega), if_pos (by omega)]
        · obtain ⟨q, hq, hqa⟩ := ih (i + 1) (r - l[i].size) (by omega) (by omega) (by omega)
          refine ⟨q, Ev.step (fun k => ?_) hq, hqa⟩
          simp only [zcn, hx]
          rw [if_pos (by omega), if_pos (by omega), w64 (by omega) (by omega), if_neg (by omega), w64n i (by omega)]
    obtain ⟨q, hq, hqa⟩ := key l.length 0 (a - l.length) (by omega) (by omega) (by omega)
    refine ⟨q, ?_, fun h' => ⟨by omega, hqa⟩⟩
    unfold ze2
    rw [w64 (by omega) (by omega)]
    simp only [show ¬ (a - (l.length : Int) < 0) by omega, if_false]
    simpa using hq
theorem zzn (l : List Int) (a : Int) (hl : l.length ≤ maxLen) (h0 : 0 ≤ a) (h1 : a ≤ 1048576) : zi5 l a = some (if a < l.length then -1 else a - l.length) := by
  unfold maxLen at hl
  unfold zi5
  rw [w64 (by omega) (by omega)]
  by_cases h : a < l.length
  · rw [if_pos (by omega), if_pos h]
  · rw [if_neg (by omega), if_neg h]
theorem zv2 (l : List ByteArray) (hl : l.length ≤ 1048576) : Ev (fun k => zfi k l) l := by
  have key : ∀ (d i : Nat), i + d = l.length → Ev (fun k => zcj k l (l.take i ++ List.replicate d ⟨#[]⟩) i) l := by
    intro d
    induction d with
    | zero =>
      intro i hi
      refine Ev.step (f := fun _ => some l) (fun k => ?_) (Ev.now _)
      simp only [zcj]
      rw [if_neg (by omega), List.take_of_length_le (by omega)]
      simp
    | succ d ih =>
      intro i hi
      have hlt : i < l.length := by omega
      have hx : rdOf ByteArray.empty l i = l[i] := zlj (zdv l i hlt)
      refine Ev.step (fun k => ?_) (ih (i + 1) (by omega))
      simp only [zcj]
      rw [if_pos (by omega), if_pos (by omega), if_pos (by simp; omega), hx, w64n i (by omega)]
      congr 1
      have e : ((i : Int)).toNat = (l.take i).length := by simp; omega
      rw [e]
      have := zo7 (l.take i) (List.replicate d (⟨#[]⟩ : ByteArray)) ⟨#[]⟩ l[i]
      simp only [List.length_replicate] at this
      rw [this]
      congr 1
      rw [List.take_succ_eq_append_getElem hlt]
  unfold zfi
  refine zae (by omega) (zae (by simp; omega) ?_)
  simpa using key l.length 0 (by omega)
theorem zt7 (l : List ByteArray) (hl : l.length ≤ 1048576) : Ev (fun k => zfh k l l) true := by
  unfold zfh
  simp only [if_true]
  refine zk7 (σ := Unit) l (fun k _ i => zcv k l l i) (fun _ _ => true) (fun _ => ?_) (fun i _ x rest hi hx ih => ?_) ()
  · refine Ev.step (f := fun _ => some true) (fun k => ?_) (Ev.now _)
    simp only [zcv]
    rw [if_neg (by omega)]
  · refine Ev.step (fun k => ?_) (ih ())
    simp only [zcv, if_true]
    rw [if_pos (by omega), if_pos (by omega), w64n i (by omega), if_pos (by omega)]
theorem zw2 (l : List ByteArray) (m : List Int) (a : Int) (hl : Rd.okSl Rd.okStr l) (hm : m.length ≤ maxLen) (h0 : 0 ≤ a) (h1 : a ≤ 1048576) :
    ∃ r, Ev (fun k => zff k l m a) r ∧ (0 ≤ r → (l.length : Int) ≤ a ∧ (m.length : Int) ≤ a ∧ r ≤ a) := by
  unfold zff
  obtain ⟨r, hr, hr'⟩ := zv1 l a hl h0 h1
  by_cases hn : r < 0
  · exact ⟨-1, Ev.bind hr (zae hn (Ev.now _)), fun h => absurd h (by decide)⟩
  obtain ⟨q1, q2⟩ := hr' (by omega)
  have e := zzn m r hm (by omega) (by omega)
  by_cases hn2 : r < m.length
  · rw [if_pos hn2] at e
    exact ⟨-1, Ev.bind hr (zav hn (Ev.call e (zae (by decide) (Ev.now _)))), fun h => absurd h (by decide)⟩
  · rw [if_neg hn2] at e
    exact ⟨r - m.length, Ev.bind hr (zav hn (Ev.call e (zav (by omega) (Ev.now _)))), fun h => ⟨by omega, by omega, by omega⟩⟩
theorem zp3 (l : List ByteArray) (m : List Int) (hl : l.length ≤ 1048576) (hm : m.length ≤ 1048576) : Ev (fun k => za6 k l m) (l, m) := by
  unfold za6
  exact Ev.bind (zv2 l hl) (Ev.bind (zzm m hm) (Ev.now _))
theorem zu6 (l : List ByteArray) (m : List Int) (hl : l.length ≤ 1048576) (hm : m.length ≤ 1048576) : Ev (fun k => zey k l m l m) true := by
  unfold zey
  exact Ev.bind (zt7 l hl) (zae rfl (Ev.bind (zw1 m hm) (zae rfl (Ev.now _))))
theorem zoc : ∀ (m : Nat) (n : Nat) (s : ByteArray), n ≤ m → s.size + n ≤ 4611686018427387904 → ∃ t, Ev (fun k => zc1 k n s) t
  | 0, n, s, h, hs => by
    have e : n = 0 := by omega
    subst e
    refine ⟨(⟨#[109]⟩ : ByteArray) ++ s, Ev.step (f := fun _ => some ((⟨#[109]⟩ : ByteArray) ++ s)) (fun k => ?_) (Ev.now _)⟩
    have hz : (⟨#[109]⟩ : ByteArray).size = 1 := rfl
    simp only [zc1]
    rw [if_neg (by decide), if_pos (by omega)]
  | m + 1, n, s, h, hs => by
    by_cases hn : n = 0
    · exact zoc m n s (by omega) hs
    · have hsz : (strOfNums [(wrap64 (48 + Int.tmod (n : Int) 10)) % 256]).size = 1 := by
        unfold strOfNums
        rfl
      obtain ⟨t, ht⟩ := zoc m (n / 10) (strOfNums [(wrap64 (48 + Int.tmod (n : Int) 10)) % 256] ++ s) (by omega) (by rw [ByteArray.size_append, hsz]; omega)
      refine ⟨t, Ev.step (fun k => ?_) ht⟩
      simp only [zc1, Option.bind_some]
      rw [if_pos (by omega), if_pos (by rw [hsz]; omega)]
      congr 1
      have e : Int.tdiv (n : Int) 10 = ((n / 10 : Nat) : Int) := by
        rw [Int.tdiv_eq_ediv_of_nonneg (by omega)]
        omega
      rw [e, w64 (by omega) (by omega)]
theorem zth (n : Nat) (h : n ≤ 4611686018427387903) : ∃ t, Ev (fun k => zec k n) t := by
  unfold zec
  by_cases hn : (n : Int) ≤ 0
  · exact ⟨_, zae hn (Ev.now _)⟩
  · obtain ⟨t, ht⟩ := zoc n n ⟨#[]⟩ (Nat.le_refl _) (by show 0 + n ≤ _; omega)
    exact ⟨t, zav hn ht⟩
open Classical in
noncomputable def mtx (n : Nat) : ByteArray := if h : ∃ t, Ev (fun k => zec k n) t then Classical.choose h else ⟨#[]⟩
theorem zx0 (n : Nat) (h : n ≤ 4611686018427387903) : Ev (fun k => zec k n) (mtx n) := by
  unfold mtx
  rw [dif_pos (zth n h)]
  exact Classical.choose_spec (zth n h)
def zkj : Nat → Nat → List Int
  | 0, _ => []
  | n + 1, a => (a : Int) :: zkj n (a + 1)
theorem zum : ∀ n a, (zkj n a).length = n
  | 0, _ => rfl
  | n + 1, a => by simp [zkj, zum n]
theorem zw3 {α : Type} (xs : List α) (y : α) (ys : List α) (v : α) : (xs ++ y :: ys).set xs.length v = (xs ++ [v]) ++ ys := by
  rw [List.set_append_right _ _ (Nat.le_refl _)]
  simp
theorem zx1 {α : Type} (xs : List α) (y : α) (ys : List α) (d : α) : (xs ++ y :: ys).getD xs.length d = y := by simp [List.getD]
theorem zw4 (l : List Int) (a : Nat) (hl : l.length ≤ 1048576) (ha : a ≤ 33554432) : Ev (fun k => zfd k l a) ((a : Int) + l.length, zkj l.length a) := by
  have key : ∀ (ys xs : List Int) (b : Nat), xs.length + ys.length ≤ 1048576 → b ≤ 67108864 - ys.length → Ev (fun k => zc3 k (xs ++ ys) b xs.length) ((b : Int) + ys.length, xs ++ zkj ys.length b) := by
    intro ys
    induction ys with
    | nil =>
      intro xs b h h'
      refine Ev.step (f := fun _ => some (((b : Int), xs ++ []))) (fun k => ?_) (Ev.some ?_)
      · simp only [zc3]
        rw [if_neg (by simp)]
      · simp [zkj]
    | cons y ys ih =>
      intro xs b h h'
      simp only [List.length_cons] at h h'
      have := ih (xs ++ [(b : Int)]) (b + 1) (by simp; omega) (by omega)
      rw [List.append_assoc] at this
      refine Ev.step (fun k => ?_) (zk6 this ?_)
      · simp only [zc3]
        rw [if_pos (by simp; omega), if_pos (by omega), Int.toNat_natCast, zw3, w64n _ (by omega), w64n _ (by omega), List.append_assoc]
        congr 1
        simp
      · simp only [List.length_cons, zkj, Prod.mk.injEq]
        exact ⟨by omega, by simp⟩
  have := key l [] a (by simpa using hl) (by omega)
  unfold zfd
  simpa using this
noncomputable def zoo : Nat → Nat → List Instr
  | 0, _ => []
  | n + 1, a => ⟨mtx a, (a + 1 : Nat), (a + 2 : Nat), (a + 3 : Nat), (a + 4 : Nat)⟩ :: zoo n (a + 5)
theorem zun : ∀ n a, (zoo n a).length = n
  | 0, _ => rfl
  | n + 1, a => by simp [zoo, zun n]
theorem zzo (xs : List Instr) (y : Instr) (ys : List Instr) : zac (xs ++ y :: ys) (xs.length : Nat) = y := by
  unfold zac
  rw [Int.toNat_natCast, zx1]
theorem zu7 (l : List Instr) (a : Nat) (hl : l.length ≤ 1048576) (ha : a ≤ 11534336) : Ev (fun k => zfn k l a) ((a : Int) + 5 * l.length, zoo l.length a) := by
  have key : ∀ (ys xs : List Instr) (b : Nat), xs.length + ys.length ≤ 1048576 → b ≤ 16777216 - 5 * ys.length → Ev (fun k => zbj k (xs ++ ys) b xs.length) ((b : Int) + 5 * ys.length, xs ++ zoo ys.length b) := by
    intro ys
    induction ys with
    | nil =>
      intro xs b h h'
      refine Ev.step (f := fun _ => some (((b : Int), xs ++ []))) (fun k => ?_) (Ev.some ?_)
      · simp only [zbj]
        rw [if_neg (by simp)]
      · simp [zoo]
    | cons y ys ih =>
      intro xs b h h'
      simp only [List.length_cons] at h h'
      have := ih (xs ++ [⟨mtx b, (b + 1 : Nat), (b + 2 : Nat), (b + 3 : Nat), (b + 4 : Nat)⟩]) (b + 5) (by simp; omega) (by omega)
      rw [List.append_assoc] at this
      refine Ev.step (fun k => by simp only [zbj]; rfl) ?_
      refine zae (by simp; omega) ?_
      refine Ev.bind (zx0 b (by omega)) ?_
      refine zae (by omega) ?_
      refine zrk (fun k => ?_) (zk6 this ?_)
      · simp only [Option.bind_some, Int.toNat_natCast, zw3, zzo, List.append_assoc, List.singleton_append]
        rw [w64n b (by omega), w64n (b + 1) (by omega), w64n (b + 2) (by omega), w64n (b + 3) (by omega), w64n (b + 4) (by omega), w64n _ (by omega)]
        congr 1
        simp
      · simp only [List.length_cons, zoo, Prod.mk.injEq]
        exact ⟨by omega, by simp⟩
  have := key l [] a (by simpa using hl) (by omega)
  unfold zfn
  simpa using this
theorem zqv (n a : Nat) (hn : n ≤ 1048576) (ha : a ≤ 11534336) : Ev (fun k => zet k (zoo n a) a) ((a : Int) + 5 * n) := by
  have key : ∀ (d : Nat) (xs : List Instr) (b : Nat), xs.length + d ≤ 1048576 → b ≤ 16777216 - 5 * d → Ev (fun k => zch k (xs ++ zoo d b) b xs.length) ((b : Int) + 5 * d) := by
    intro d
    induction d with
    | zero =>
      intro xs b h h'
      refine Ev.step (f := fun _ => some (b : Int)) (fun k => ?_) (Ev.some (by simp))
      simp only [zch]
      rw [if_neg (by simp [zoo])]
    | succ d ih =>
      intro xs b h h'
      have := ih (xs ++ [⟨mtx b, (b + 1 : Nat), (b + 2 : Nat), (b + 3 : Nat), (b + 4 : Nat)⟩]) (b + 5) (by simp; omega) (by omega)
      rw [List.append_assoc] at this
      have e : zac (xs ++ zoo (d + 1) b) (xs.length : Nat) = ⟨mtx b, (b + 1 : Nat), (b + 2 : Nat), (b + 3 : Nat), (b + 4 : Nat)⟩ := zzo _ _ _
      refine Ev.step (fun k => by simp only [zch, e]; rfl) ?_
      refine zae (by simp [zun]; omega) ?_
      refine zae (by omega) ?_
      refine Ev.bind (zx0 b (by omega)) ?_
      refine zae rfl ?_
      refine zrk (fun k => ?_) (zk6 this (by omega))
      rw [w64n b (by omega), w64n (b + 1) (by omega), w64n (b + 2) (by omega), w64n (b + 3) (by omega), w64n (b + 4) (by omega), w64n _ (by omega)]
      rw [if_pos rfl, if_pos rfl, if_pos rfl, if_pos rfl]
      congr 1
      simp
  have := key n [] a (by simpa using hn) (by omega)
  unfold zet
  simpa using this
def zgj (c : Nat) : Bool × Bool × Bool × Int × Int :=
  match c with
  | 0 => (true, false, false, 0, 63)
  | 1 => (true, true, false, 0, 0)
  | 2 => (true, true, true, 0, 0)
  | 3 => (true, true, true, 0, 0)
  | 4 => (true, true, true, 0, 0)
  | 5 => (true, true, false, 0, 63)
  | 6 => (true, true, false, 1, 5)
  | 7 => (true, true, true, 1, 3)
  | _ => (false, false, false, 0, 0)
theorem zv3 : ∀ p ∈ ops, ze9 20 p.1 = some (zgj p.2) := by decide +kernel
theorem zti (s : ByteArray) : zhu s = some (zf8 (cls s) s) := rfl
theorem zu8 (s : ByteArray) : Ev (fun k => ze9 k s) (zgj (cls s)) := by
  refine zp9 (P := fun s => Ev (fun k => ze9 k s) (zgj (cls s))) s (fun p hp => ?_) (fun h => ?_)
  · rw [zxw p hp]
    exact yfc (zd1 _) (zv3 p hp)
  · rw [zqa h]
    obtain ⟨h0, h1, h2, h3, h4, h5, h6, h7, h8, h9, h10, h11, h12, h13, h14, h15, h16, h17, h18, h19⟩ := zwz h
    refine yfc (zd1 _) (k := 5) ?_
    simp only [ze9, zdk, zce, zep, zez, h0, h1, h2, h3, h4, h5, h6, h7, h8, h9, h10, h11, h12, h13, h14, h15, h16, h17, h18, h19, if_false, beq_iff_eq]
    rfl
theorem zk8 (a b c : Int) : zcm a b c = some (decide (b ≤ a ∧ a ≤ c)) := by
  unfold zcm
  by_cases h : b ≤ a <;> simp [h]
theorem zo1 (a b c : Int) : zbw a b c = some (decide (b ≤ a ∧ a ≤ c)) := by
  unfold zbw
  by_cases h : a ≥ b
  · rw [if_pos h]; congr 1; rw [decide_eq_decide]; omega
  · rw [if_neg h]; congr 1; symm; rw [decide_eq_false_iff_not]; omega
def okI (x : Instr) : Prop := cls x.f0 ≠ 8 ∧ (0 ≤ x.f1 ∧ x.f1 ≤ 5) ∧ ((zgj (cls x.f0)).2.1 = true ∧ 0 ≤ x.f2 ∧ x.f2 ≤ 5 ∨ x.f2 = 0) ∧ ((zgj (cls x.f0)).2.2.1 = true ∧ 0 ≤ x.f3 ∧ x.f3 ≤ 5 ∨ x.f3 = 0) ∧ (zgj (cls x.f0)).2.2.2.1 ≤ x.f4 ∧ x.f4 ≤ (zgj (cls x.f0)).2.2.2.2
instance (x : Instr) : Decidable (okI x) := by unfold okI; infer_instance
theorem ztj (s : ByteArray) : cls s ≤ 8 := by
  refine zp9 (P := fun s => cls s ≤ 8) s (by decide +kernel) (fun h => by rw [zqa h]; exact Nat.le_refl _)
theorem zzp (s : ByteArray) : cls s = 0 ∨ cls s = 1 ∨ cls s = 2 ∨ cls s = 3 ∨ cls s = 4 ∨ cls s = 5 ∨ cls s = 6 ∨ cls s = 7 ∨ cls s = 8 := by have := ztj s; omega
theorem zuo {xs : List S62} {i : Nat} {x : S62} (h : ∀ d, xs.getD i d = x) : zab xs i = x := by unfold zab; rw [Int.toNat_natCast]; exact h _
theorem yb8 {xs : List S58} {i : Nat} {x : S58} (h : ∀ d, xs.getD i d = x) : zhm xs i = x := by unfold zhm; rw [Int.toNat_natCast]; exact h _
abbrev Node := S62
abbrev zzq := S58
def cvN (x : zzq) : Node := ⟨x.f0, x.f1, x.f2, x.f3⟩
theorem zv4 (s : ByteArray) (a b c r : Int) (hs : s.size ≤ maxLen) (h0 : 0 ≤ r) (h1 : r ≤ 1048576) : zl3 s a b c r = some (if r < s.size then -1 else r - s.size) := by
  unfold maxLen at hs
  unfold zl3
  rw [w64 (by omega) (by omega)]
  by_cases h : r < s.size
  · rw [if_pos (by omega), if_pos h]
  · rw [if_neg (by omega), if_neg h]
theorem zyu (l : List zzq) (a : Int) (hl : Rd.okSl zzk l) (h0 : 0 ≤ a) (h1 : a ≤ 1048576) :
    ∃ r, Ev (fun k => zfq k l a) r ∧ (0 ≤ r → (l.length : Int) ≤ a ∧ (∀ x ∈ l, (x.f0.size : Int) ≤ a) ∧ r ≤ a) := by
  obtain ⟨hl1, hl2⟩ := hl
  unfold maxLen at hl1
  by_cases h : a < l.length
  · refine ⟨-1, ?_, fun h => absurd h (by decide)⟩
    unfold zfq
    rw [w64 (by omega) (by omega)]
    simp only [show a - (l.length : Int) < 0 by omega, if_true]
    exact Ev.now _
  · have key : ∀ (d i : Nat) (r : Int), i + d = l.length → 0 ≤ r → r ≤ a → ∃ q, Ev (fun k => zcq k l r i) q ∧ q ≤ a ∧ (0 ≤ q → ∀ x ∈ l.drop i, (x.f0.size : Int) ≤ a) := by
      intro d
      induction d with
      | zero =>
        intro i r hi hr _
        refine ⟨r, Ev.step (f := fun _ => some r) (fun k => ?_) (Ev.now _), by omega, fun _ x hx => ?_⟩
        · simp only [zcq]
          rw [if_neg (by omega)]
        · rw [List.drop_of_length_le (by omega)] at hx
          cases hx
      | succ d ih =>
        intro i r hi hr hra
        have hlt : i < l.length := by omega
        have e : l.drop i = l[i] :: l.drop (i + 1) := List.drop_eq_getElem_cons hlt
        have hx := yb8 (zdv l i hlt)
        have hsz := (hl2 l[i] (List.getElem_mem hlt)).1
        by_cases hb : r < l[i].f0.size
        · refine ⟨-1, Ev.step (f := fun _ => some (-1)) (fun k => ?_) (Ev.now _), by omega, fun h => absurd h (by decide)⟩
          simp only [zcq]
          rw [if_pos (by omega), if_pos (by omega), hx, zv4 _ _ _ _ _ hsz hr (by omega), if_pos hb]
          rfl
        · obtain ⟨q, hq, hqa, hq'⟩ := ih (i + 1) (r - l[i].f0.size) (by omega) (by omega) (by omega)
          refine ⟨q, Ev.step (f := fun k => zcq k l (r - l[i].f0.size) ((i + 1 : Nat) : Int)) (fun k => ?_) hq, hqa, fun h x hx' => ?_⟩
          · simp only [zcq]
            rw [if_pos (by omega), if_pos (by omega), hx, zv4 _ _ _ _ _ hsz hr (by omega), if_neg hb, Option.bind_some, if_neg (by omega), w64n i (by omega)]
          · rw [e] at hx'
            rcases List.mem_cons.1 hx' with rfl | hx'
            · omega
            · exact hq' h x hx'
    obtain ⟨q, hq, hqa, hq'⟩ := key l.length 0 (a - l.length) (by omega) (by omega) (by omega)
    refine ⟨q, ?_, fun h' => ⟨by omega, by simpa using hq' h', hqa⟩⟩
    unfold zfq
    rw [w64 (by omega) (by omega)]
    simp only [show ¬ (a - (l.length : Int) < 0) by omega, if_false]
    simpa using hq
theorem zsa (l : List zzq) (hl : l.length ≤ 1048576) : Ev (fun k => zb1 k l) (l.map cvN) := by
  have key : ∀ (d i : Nat), i + d = l.length → Ev (fun k => zcr k l ((l.take i).map cvN ++ List.replicate d z62) i) (l.map cvN) := by
    intro d
    induction d with
    | zero =>
      intro i hi
      refine Ev.step (f := fun _ => some _) (fun k => ?_) (Ev.now _)
      simp only [zcr]
      rw [if_neg (by omega), List.take_of_length_le (by omega)]
      simp
    | succ d ih =>
      intro i hi
      have hlt : i < l.length := by omega
      have hx := yb8 (zdv l i hlt)
      refine Ev.step (fun k => ?_) (ih (i + 1) (by omega))
      simp only [zcr, zn8, Option.bind_some]
      rw [if_pos (by omega), if_pos (by omega), if_pos (by simp; omega), hx, w64n i (by omega)]
      congr 1
      have e : ((i : Int)).toNat = ((l.take i).map cvN).length := by simp; omega
      rw [e]
      have := zo7 ((l.take i).map cvN) (List.replicate d z62) z62 (cvN l[i])
      simp only [List.length_replicate] at this
      rw [show (⟨l[i].f0, l[i].f1, l[i].f2, l[i].f3⟩ : Node) = cvN l[i] from rfl, this]
      congr 1
      rw [List.take_succ_eq_append_getElem hlt, List.map_append]
      rfl
  unfold zb1
  refine zae (by omega) (zae (by simp; omega) ?_)
  simpa using key l.length 0 (by omega)
theorem zv5 (l : List Node) (hl : l.length ≤ 1048576) : Ev (fun k => zgg k l l) true := by
  unfold zgg
  simp only [if_true]
  refine zk7 (σ := Unit) l (fun k _ i => zdj k l l i) (fun _ _ => true) (fun _ => ?_) (fun i _ x rest hi hx ih => ?_) ()
  · refine Ev.step (f := fun _ => some true) (fun k => ?_) (Ev.now _)
    simp only [zdj]
    rw [if_neg (by omega)]
  · refine Ev.step (fun k => ?_) (ih ())
    simp only [zdj, zl2, reduceIte, Option.bind_some]
    rw [if_pos (by omega), if_pos (by omega), w64n i (by omega), if_pos (by omega)]
theorem zw5 {α : Type} {xs : List α} {i : Nat} {x : α} (hi : i < xs.length) (hx : ∀ d, xs.getD i d = x) : x ∈ xs := by
  have := hx x
  rw [zdv xs i hi] at this
  rw [← this]
  exact List.getElem_mem hi
theorem yc0 {α : Type} (p : α → Bool) (xs : List α) (q : Prop) [Decidable q] (h : q ↔ ∃ x ∈ xs, p x = true) : decide (idx p xs ≥ 0) = decide q := by
  rw [decide_eq_decide]
  exact (zul p xs).trans h.symm
def hasS (l : List ByteArray) (s : ByteArray) : Bool := l.any fun y => decide (y = s)
theorem zx2 (l : List ByteArray) (s : ByteArray) : hasS l s = true ↔ s ∈ l := by
  unfold hasS
  rw [List.any_eq_true]
  exact ⟨fun ⟨x, hx, h⟩ => of_decide_eq_true h ▸ hx, fun h => ⟨s, h, decide_eq_true rfl⟩⟩
theorem zo2 (l : List ByteArray) (s : ByteArray) (hl : l.length ≤ 1048576) : Ev (fun k => zaw k l s) (hasS l s) := by
  have h : Ev (fun k => zbv k l s) (idx (fun y => decide (s = y)) l) := by
    unfold zbv
    refine zv0 l _ (fun k i => zan k l s l.length i) ?_ (fun i x hi hx hp => ?_) (fun i x r hi hx hp hr => ?_)
    · refine Ev.step (f := fun _ => some (-1)) (fun k => ?_) (Ev.now _)
      simp only [zan]
      rw [if_neg (by omega)]
    · refine Ev.step (f := fun _ => some (i : Int)) (fun k => ?_) (Ev.now _)
      simp only [zan, zlj hx, zxx]
      rw [if_pos (by omega), if_pos (by omega), if_pos (by omega), if_pos (of_decide_eq_true hp)]
    · refine Ev.step (fun k => ?_) hr
      simp only [zan, zlj hx, zxx]
      rw [if_pos (by omega), if_pos (by omega), if_pos (by omega), if_neg (of_decide_eq_false hp), w64n i (by omega)]
  unfold zaw
  refine Ev.bind h (Ev.some ?_)
  rw [Bool.eq_iff_iff, decide_eq_true_eq, zx2]
  refine (zul _ l).trans ⟨?_, fun h => ⟨s, h, decide_eq_true rfl⟩⟩
  rintro ⟨x, hx, h⟩
  rw [of_decide_eq_true h]
  exact hx
theorem zqw (l : List ByteArray) (s : ByteArray) (hl : l.length ≤ 1048576) : Ev (fun k => zel k l s) (hasS l s) := by
  unfold zel
  refine zk7 (σ := Unit) l (fun k _ i => zeg k s l l.length i) (fun r _ => hasS r s) (fun _ => ?_) (fun i _ x rest hi hx ih => ?_) ()
  · refine Ev.step (f := fun _ => some false) (fun k => ?_) (Ev.now _)
    simp only [zeg]
    rw [if_neg (by omega)]
  · refine Ev.step (fun k => by simp only [zeg, zlj hx, zxx]; rfl) (zae (by omega) (zae (by omega) (zae (by omega) ?_)))
    by_cases q : x = s
    · exact zae q (Ev.some (by simp [hasS, q]))
    · refine zav q ?_
      rw [w64n i (by omega)]
      refine zk6 (ih ()) ?_
      simp [hasS, q]
theorem zo3 (l : List Int) (s : Int) (hl : l.length ≤ 1048576) : Ev (fun k => zbt k l s) (decide (s ∈ l)) := by
  have h : Ev (fun k => zdx k l s) (idx (fun y => decide (s = y)) l) := by
    unfold zdx
    refine zv0 l _ (fun k i => zbg k l s l.length i) ?_ (fun i x hi hx hp => ?_) (fun i x r hi hx hp hr => ?_)
    · refine Ev.step (f := fun _ => some (-1)) (fun k => ?_) (Ev.now _)
      simp only [zbg]
      rw [if_neg (by omega)]
    · refine Ev.step (f := fun _ => some (i : Int)) (fun k => ?_) (Ev.now _)
      simp only [zbg, zli hx]
      rw [if_pos (by omega), if_pos (by omega), if_pos (by omega), if_pos (of_decide_eq_true hp)]
    · refine Ev.step (fun k => ?_) hr
      simp only [zbg, zli hx]
      rw [if_pos (by omega), if_pos (by omega), if_pos (by omega), if_neg (of_decide_eq_false hp), w64n i (by omega)]
  unfold zbt
  refine Ev.bind h (Ev.some (yc0 _ _ _ ?_))
  constructor
  · exact fun h => ⟨s, h, decide_eq_true rfl⟩
  · rintro ⟨x, hx, h⟩
    rw [of_decide_eq_true h]
    exact hx
theorem zu9 (l : List Int) (s : Int) (hl : l.length ≤ 1048576) : Ev (fun k => zfw k l s) (decide (s ∈ l)) := by
  unfold zfw
  refine zk7 (σ := Unit) l (fun k _ i => zeu k s l l.length i) (fun r _ => decide (s ∈ r)) (fun _ => ?_) (fun i _ x rest hi hx ih => ?_) ()
  · refine Ev.step (f := fun _ => some false) (fun k => ?_) (Ev.some (by simp))
    simp only [zeu]
    rw [if_neg (by omega)]
  · refine Ev.step (fun k => by simp only [zeu, zli hx]; rfl) (zae (by omega) (zae (by omega) (zae (by omega) ?_)))
    by_cases q : x = s
    · exact zae q (Ev.some (by simp [q]))
    · refine zav q ?_
      rw [w64n i (by omega)]
      refine zk6 (ih ()) ?_
      rw [decide_eq_decide, List.mem_cons]
      exact ⟨Or.inr, fun h => h.resolve_left fun e => q e.symm⟩
def bops : List ByteArray := [⟨#[97, 100, 100]⟩, ⟨#[115, 117, 98]⟩, ⟨#[109, 117, 108]⟩, ⟨#[97, 110, 100]⟩, ⟨#[111, 114]⟩, ⟨#[120, 111, 114]⟩, ⟨#[115, 104, 108]⟩, ⟨#[115, 104, 114]⟩, ⟨#[108, 101, 115, 115]⟩, ⟨#[101, 113]⟩]
theorem zzr : zn6 = some bops := rfl
theorem ybe : znc = some bops := rfl
def isIn (s : ByteArray) : Prop := s.toList = ([105, 110] : List UInt8)
def zgp (s : ByteArray) : Prop := s.toList = ([99, 111, 110, 115, 116] : List UInt8)
def zo4 (s : ByteArray) : Prop := s.toList = ([110, 111, 116] : List UInt8)
def zpj (s : ByteArray) : Prop := s.toList = ([110, 101, 103] : List UInt8)
instance (s : ByteArray) : Decidable (isIn s) := by unfold isIn; infer_instance
instance (s : ByteArray) : Decidable (zgp s) := by unfold zgp; infer_instance
instance (s : ByteArray) : Decidable (zo4 s) := by unfold zo4; infer_instance
instance (s : ByteArray) : Decidable (zpj s) := by unfold zpj; infer_instance
def kN (s : ByteArray) : Nat := if isIn s then 0 else if zgp s then 1 else if zo4 s ∨ zpj s then 2 else if hasS bops s = true then 3 else 4
def zmp (c : Nat) : Int := match c with | 0 => 0 | 1 => 0 | 2 => 1 | 3 => 2 | _ => -1
theorem zzs (s : ByteArray) : kN s = 0 ∨ kN s = 1 ∨ kN s = 2 ∨ kN s = 3 ∨ kN s = 4 := by
  unfold kN
  split
  · simp
  split
  · simp
  split
  · simp
  split <;> simp
theorem ztl (s : ByteArray) : Ev (fun k => zen k s) (zmp (kN s)) := by
  unfold zen kN
  by_cases h1 : isIn s
  · rw [if_pos h1]
    refine zae h1 (Ev.step (fun k => by simp only [zcy]; rfl) (zae (show true = true from rfl) (Ev.now _)))
  rw [if_neg h1]
  refine zav h1 ?_
  by_cases h2 : zgp s
  · rw [if_pos h2]
    exact Ev.step (fun k => by simp only [zcy]; rfl) (zae (beq_iff_eq.2 h2) (Ev.now _))
  rw [if_neg h2]
  refine Ev.step (fun k => by simp only [zcy]; rfl) (zav (fun e => h2 (beq_iff_eq.1 e)) ?_)
  by_cases h3 : zo4 s
  · rw [if_pos (Or.inl h3)]
    exact zae h3 (Ev.step (fun k => by simp only [zdy]; rfl) (zae (show true = true from rfl) (Ev.now _)))
  refine zav h3 ?_
  by_cases h4 : zpj s
  · rw [if_pos (Or.inr h4)]
    exact Ev.step (fun k => by simp only [zdy]; rfl) (zae (beq_iff_eq.2 h4) (Ev.now _))
  rw [if_neg (fun e => e.elim h3 h4)]
  refine Ev.step (fun k => by simp only [zdy]; rfl) (zav (fun e => h4 (beq_iff_eq.1 e)) ?_)
  refine Ev.call zzr (Ev.bind (zo2 bops s (by decide)) ?_)
  by_cases h5 : hasS bops s = true
  · simp only [if_pos h5]
    exact Ev.now _
  · simp only [if_neg h5]
    exact Ev.now _
theorem zva (s : ByteArray) : zhr s = some (decide (zo4 s ∨ zpj s)) := by
  unfold zhr
  by_cases h3 : zo4 s
  · rw [if_pos (show s.toList = _ from h3), decide_eq_true (Or.inl h3)]
  · rw [if_neg (show ¬ s.toList = _ from h3)]
    congr 1
    rw [Bool.eq_iff_iff, beq_iff_eq, decide_eq_true_eq]
    exact ⟨Or.inr, fun h => h.resolve_left h3⟩
theorem zs3 (s : ByteArray) : Ev (fun k => zfk k s) (hasS bops s) := by
  unfold zfk
  exact Ev.call ybe (Ev.bind (zqw bops s (by decide)) (Ev.now _))
def zup (c : Nat) (a b : Int) : List Int := match c with | 2 => [a] | 3 => [a, b] | _ => []
theorem of_ev (x : Node) : Ev (fun k => zg6 k x.f0 x.f1 x.f2 x.f3) (zup (kN x.f0) x.f1 x.f2) := by
  unfold zg6
  refine Ev.call rfl (Ev.bind (ztl x.f0) (zi9 ?_))
  rcases zzs x.f0 with h | h | h | h | h <;> rw [h] <;> rfl
theorem zyv (x : Node) : Ev (fun k => zg9 k x.f0 x.f1 x.f2 x.f3) (zup (kN x.f0) x.f1 x.f2) := by
  unfold zg9
  refine Ev.call (zva _) ?_
  have d1 : ∀ s, isIn s → ¬ (zo4 s ∨ zpj s) := fun s h e => by unfold isIn at h; unfold zo4 zpj at e; rw [h] at e; revert e; decide
  have d2 : ∀ s, zgp s → ¬ (zo4 s ∨ zpj s) := fun s h e => by unfold zgp at h; unfold zo4 zpj at e; rw [h] at e; revert e; decide
  have d3 : ∀ s, isIn s → ¬ hasS bops s = true := fun s h => by rw [str_lit.1 h]; decide +kernel
  have d4 : ∀ s, zgp s → ¬ hasS bops s = true := fun s h => by rw [str_lit.1 h]; decide +kernel
  unfold kN
  by_cases h1 : isIn x.f0
  · rw [if_pos h1]
    exact zav (by simpa using d1 _ h1) (Ev.bind (zs3 _) (zav (d3 _ h1) (Ev.now _)))
  rw [if_neg h1]
  by_cases h2 : zgp x.f0
  · rw [if_pos h2]
    exact zav (by simpa using d2 _ h2) (Ev.bind (zs3 _) (zav (d4 _ h2) (Ev.now _)))
  rw [if_neg h2]
  by_cases h3 : zo4 x.f0 ∨ zpj x.f0
  · rw [if_pos h3]
    exact zae (by simpa using h3) (Ev.now _)
  rw [if_neg h3]
  refine zav (by simpa using h3) (Ev.bind (zs3 _) ?_)
  by_cases h5 : hasS bops x.f0 = true
  · simp only [if_pos h5]
    exact Ev.now _
  · simp only [if_neg h5]
    exact Ev.now _
def okNd (c : Nat) (a b m i : Int) : Bool := match c with
  | 0 => decide (a = 0 ∧ b = 0 ∧ 0 ≤ m ∧ m ≤ 1)
  | 1 => decide (a = 0 ∧ b = 0 ∧ 0 ≤ m ∧ m ≤ 63)
  | 2 => decide ((0 ≤ a ∧ a ≤ i - 1) ∧ b = 0 ∧ m = 0)
  | 3 => decide ((0 ≤ a ∧ a ≤ i - 1) ∧ (0 ≤ b ∧ b ≤ i - 1) ∧ m = 0)
  | _ => false
def okNx (x : Node) (i : Int) : Bool := okNd (kN x.f0) x.f1 x.f2 x.f3 i
theorem zzt (x : Node) (i : Nat) (hi : i ≤ 1048576) : Ev (fun k => zh2 k x.f0 x.f1 x.f2 x.f3 i) (okNx x i) := by
  obtain ⟨s, a, b, m⟩ := x
  simp only [okNx]
  unfold zh2 kN
  have e1 : wrap64 ((i : Int) - 1) = (i : Int) - 1 := w64 (by omega) (by omega)
  by_cases h1 : isIn s
  · rw [if_pos h1]
    refine zae h1 (zi9 ?_)
    simp only [zo1, Option.bind_some, okNd]
    by_cases q1 : a = 0 <;> by_cases q2 : b = 0 <;> simp [q1, q2]
  rw [if_neg h1]
  refine zav h1 ?_
  by_cases h2 : zgp s
  · rw [if_pos h2]
    refine zae h2 (zi9 ?_)
    simp only [zl5, zo1, Option.bind_some, okNd]
    by_cases q1 : a = 0 <;> by_cases q2 : b = 0 <;> simp [q1, q2]
  rw [if_neg h2]
  refine zav h2 (Ev.call (zva _) ?_)
  rw [e1]
  by_cases h3 : zo4 s ∨ zpj s
  · rw [if_pos h3]
    refine zae (by simpa using h3) (zi9 ?_)
    simp only [zo1, Option.bind_some, okNd]
    by_cases q1 : 0 ≤ a ∧ a ≤ (i : Int) - 1 <;> by_cases q2 : b = 0 <;> by_cases q3 : m = 0 <;> simp [q1, q2, q3]
  rw [if_neg h3]
  refine zav (by simpa using h3) (Ev.bind (zs3 _) ?_)
  by_cases h5 : hasS bops s = true
  · simp only [if_pos h5]
    refine zi9 ?_
    simp only [zo1, Option.bind_some, okNd]
    by_cases q1 : 0 ≤ a ∧ a ≤ (i : Int) - 1 <;> by_cases q2 : 0 ≤ b ∧ b ≤ (i : Int) - 1 <;> by_cases q3 : m = 0 <;> simp [q1, q2, q3]
  · simp only [if_neg h5]
    exact Ev.now _
theorem zzu (x : Node) (i : Nat) (hi : i ≤ 1048576) : Ev (fun k => zfc k x.f0 x.f1 x.f2 x.f3 i) (okNx x i) := by
  obtain ⟨s, a, b, m⟩ := x
  simp only [okNx]
  unfold zfc
  refine Ev.bind (ztl s) (Ev.call rfl ?_)
  have e1 : wrap64 ((i : Int) - 1) = (i : Int) - 1 := w64 (by omega) (by omega)
  have r0 : rd [a, b] 0 = a := rfl
  have r1 : rd [a, b] 1 = b := rfl
  have fin : ∀ r : Bool, (isIn s → decide (0 ≤ m ∧ m ≤ 1) = r) → (zgp s → decide (0 ≤ m ∧ m ≤ 63) = r) → (¬ isIn s → ¬ zgp s → (if zmp (kN s) > 0 then (m == 0) else false) = r) → Ev (fun k => zal k i (zmp (kN s)) [a, b] 2 2 s a b m) r := by
    intro r f1 f2 f3
    refine Ev.step (fun k => by simp only [zal]; rfl) (zav (by decide) ?_)
    by_cases h1 : isIn s
    · refine zae h1 (zi9 ?_)
      rw [zk8, f1 h1]
      rfl
    refine zav h1 ?_
    by_cases h2 : zgp s
    · refine zae h2 (zi9 ?_)
      simp only [zi2, zk8, Option.bind_some]
      rw [f2 h2]
    refine zav h2 (zi9 ?_)
    rw [← f3 h1 h2]
    split <;> rfl
  have one : ∀ r : Bool, ((if 1 < zmp (kN s) then decide (0 ≤ b ∧ b ≤ (i : Int) - 1) else decide (b = 0)) = false → r = false) → ((if 1 < zmp (kN s) then decide (0 ≤ b ∧ b ≤ (i : Int) - 1) else decide (b = 0)) = true → Ev (fun k => zal k i (zmp (kN s)) [a, b] 2 2 s a b m) r) → Ev (fun k => zal k i (zmp (kN s)) [a, b] 2 1 s a b m) r := by
    intro r f1 f2
    refine Ev.step (fun k => by simp only [zal, r1, e1, zk8, Option.bind_some, show wrap64 (1 + 1) = 2 from w64 (by decide) (by decide)]; rfl) (zae (by decide) (zae (by decide) (zae (by simp) ?_)))
    by_cases h : 1 < zmp (kN s)
    · rw [if_pos h] at f1 f2
      refine zae h ?_
      by_cases q : 0 ≤ b ∧ b ≤ (i : Int) - 1
      · exact zae (by simpa using q) (zav (by omega) (f2 (by simpa using q)))
      · exact zav (by simpa using q) (Ev.some (f1 (by simpa using q)).symm)
    · rw [if_neg h] at f1 f2
      refine zav h (zae (by omega) ?_)
      by_cases q : b = 0
      · exact zae q (f2 (by simpa using q))
      · exact zav q (Ev.some (f1 (by simpa using q)).symm)
  have zero : ∀ r : Bool, ((if 0 < zmp (kN s) then decide (0 ≤ a ∧ a ≤ (i : Int) - 1) else decide (a = 0)) = false → r = false) → ((if 0 < zmp (kN s) then decide (0 ≤ a ∧ a ≤ (i : Int) - 1) else decide (a = 0)) = true → Ev (fun k => zal k i (zmp (kN s)) [a, b] 2 1 s a b m) r) → Ev (fun k => zal k i (zmp (kN s)) [a, b] 2 0 s a b m) r := by
    intro r f1 f2
    refine Ev.step (fun k => by simp only [zal, r0, e1, zk8, Option.bind_some, show wrap64 (0 + 1) = 1 from w64 (by decide) (by decide)]; rfl) (zae (by decide) (zae (by decide) (zae (by simp) ?_)))
    by_cases h : 0 < zmp (kN s)
    · rw [if_pos h] at f1 f2
      refine zae h ?_
      by_cases q : 0 ≤ a ∧ a ≤ (i : Int) - 1
      · exact zae (by simpa using q) (zav (by omega) (f2 (by simpa using q)))
      · exact zav (by simpa using q) (Ev.some (f1 (by simpa using q)).symm)
    · rw [if_neg h] at f1 f2
      refine zav h (zae (by omega) ?_)
      by_cases q : a = 0
      · exact zae q (f2 (by simpa using q))
      · exact zav q (Ev.some (f1 (by simpa using q)).symm)
  show Ev (fun k => zal k i (zmp (kN s)) [a, b] 2 0 s a b m) _
  have hin : isIn s ↔ kN s = 0 := by
    unfold kN
    by_cases h : isIn s
    · simp [h]
    · simp only [h, if_false, false_iff]
      repeat' split
      all_goals decide
  have hco : ¬ isIn s → (zgp s ↔ kN s = 1) := fun h0 => by
    unfold kN
    by_cases h : zgp s
    · simp [h, h0]
    · simp only [h, h0, if_false, false_iff]
      repeat' split
      all_goals decide
  have hdis : zgp s → ¬ isIn s := fun h e => by unfold zgp at h; unfold isIn at e; rw [h] at e; revert e; decide
  refine zero _ (fun q => ?_) (fun q0 => one _ (fun q => ?_) (fun q1 => fin _ (fun h => ?_) (fun h => ?_) (fun h h' => ?_)))
  · rcases zzs s with c | c | c | c | c <;> rw [c] at q ⊢ <;> simp [zmp, okNd] at q ⊢ <;> omega
  · rcases zzs s with c | c | c | c | c <;> rw [c] at q ⊢ <;> simp [zmp, okNd] at q ⊢ <;> omega
  · have c := hin.1 h
    rw [c] at q0 q1 ⊢
    simp [zmp] at q0 q1
    simp [okNd, q0, q1]
  · have c := (hco (hdis h)).1 h
    rw [c] at q0 q1 ⊢
    simp [zmp] at q0 q1
    simp [okNd, q0, q1]
  · rcases zzs s with c | c | c | c | c
    · exact absurd (hin.2 c) h
    · exact absurd ((hco h).2 c) h'
    · rw [c] at q0 q1 ⊢
      simp [zmp] at q0 q1
      simp [okNd, zmp, q0, q1]
      rw [Bool.eq_iff_iff]
      simp
    · rw [c] at q0 q1 ⊢
      simp [zmp] at q0 q1
      simp [okNd, zmp, q0, q1]
      rw [Bool.eq_iff_iff]
      simp
    · rw [c]
      simp [okNd, zmp]
def okNs : Nat → List Node → Bool
  | _, [] => true
  | i, x :: xs => okNx x i && okNs (i + 1) xs
theorem zo8 : ∀ (xs : List Node) (i j : Nat) (h : j < xs.length), okNs i xs = true → okNx xs[j] ((i + j : Nat) : Int) = true
  | [], _, _, h, _ => absurd h (by simp)
  | x :: xs, i, 0, _, ho => by
    simp only [okNs, Bool.and_eq_true] at ho
    exact ho.1
  | x :: xs, i, j + 1, h, ho => by
    simp only [okNs, Bool.and_eq_true] at ho
    have := zo8 xs (i + 1) j (by simpa using h) ho.2
    rw [show i + 1 + j = i + (j + 1) by omega] at this
    exact this
def incr (u : List Int) (p : Int) : List Int := u.set p.toNat (wrap64 (rd u p + 1))
def zzv (u : List Int) (x : Node) : List Int := (zup (kN x.f0) x.f1 x.f2).foldl incr u
def zvb (l : List Node) : List Int := l.foldl zzv (List.replicate l.length 0)
theorem zx3 (u : List Int) (p : Int) : (incr u p).length = u.length := List.length_set
theorem znn (ps : List Int) : ∀ u, (ps.foldl incr u).length = u.length := by
  induction ps with
  | nil => exact fun u => rfl
  | cons p ps ih => exact fun u => (ih _).trans (zx3 u p)
theorem zzw (u : List Int) (x : Node) : (zzv u x).length = u.length := znn _ u
theorem ztm (l : List Node) : ∀ u, (l.foldl zzv u).length = u.length := by
  induction l with
  | nil => exact fun u => rfl
  | cons x l ih => exact fun u => (ih _).trans (zzw u x)
theorem zqx (l : List Node) : (zvb l).length = l.length := by
  unfold zvb
  rw [ztm, List.length_replicate]
theorem zx4 {x : Node} {i : Int} (h : okNx x i = true) : (zup (kN x.f0) x.f1 x.f2).length ≤ 2 ∧ ∀ p ∈ zup (kN x.f0) x.f1 x.f2, 0 ≤ p ∧ p ≤ i - 1 := by
  unfold okNx at h
  rcases zzs x.f0 with c | c | c | c | c <;> rw [c] at h ⊢ <;> simp [okNd] at h <;> simp [zup] <;> omega
theorem zv6 (L0 : Nat → List Int → Int → Option (List Int)) (L1 : Nat → List Int → Int → List Int → Int → Int → Option (List Int)) (i : Nat) (n : Nat) (r : List Int)
    (h0 : ∀ k u ps j, L1 (k + 1) u i ps (ps.length : Nat) (j : Nat) = if (j : Int) < (ps.length : Nat) then (if (0 : Int) ≤ (j : Nat) then (if ((j : Nat) : Int) < (ps.length : Nat) then (if 0 ≤ rd ps (j : Nat) then (if rd ps (j : Nat) < (u.length : Int) then L1 k (u.set (rd ps (j : Nat) : Int).toNat (wrap64 (rd u (rd ps (j : Nat)) + 1))) i ps (ps.length : Nat) (wrap64 ((j : Nat) + 1)) else none) else none) else none) else none) else L0 k u (wrap64 ((i : Nat) + 1)))
    (ps : List Int) (hps : ps.length ≤ 2) (hp : ∀ p ∈ ps, 0 ≤ p ∧ p < n) (u : List Int) (hu : u.length = n) (hi : i ≤ 1048576) (H : Ev (fun k => L0 k (ps.foldl incr u) ((i + 1 : Nat) : Int)) r) : Ev (fun k => L1 k u i ps ps.length 0) r := by
  have key : ∀ (d j : Nat) (u : List Int), u.length = n → j + d = ps.length → Ev (fun k => L0 k ((ps.drop j).foldl incr u) ((i + 1 : Nat) : Int)) r → Ev (fun k => L1 k u i ps ps.length (j : Nat)) r := by
    intro d
    induction d with
    | zero =>
      intro j u hu hj H
      refine Ev.step (fun k => h0 k u ps j) (zav (by omega) ?_)
      rw [w64n i (by omega)]
      rw [List.drop_of_length_le (by omega)] at H
      exact H
    | succ d ih =>
      intro j u hu hj H
      have hlt : j < ps.length := by omega
      have e : ps.drop j = ps[j] :: ps.drop (j + 1) := List.drop_eq_getElem_cons hlt
      have hx := zli (zdv ps j hlt)
      have hb := hp ps[j] (List.getElem_mem hlt)
      refine Ev.step (fun k => h0 k u ps j) (zae (by omega) (zae (by omega) (zae (by omega) (zae (by rw [hx]; exact hb.1) (zae (by rw [hx]; omega) ?_)))))
      rw [hx, w64n j (by omega)]
      rw [e] at H
      exact ih (j + 1) (incr u ps[j]) (by rw [zx3]; exact hu) (by omega) H
  exact key ps.length 0 u hu (by omega) H
theorem yc1 (l : List Node) (h : okNs 0 l = true) (hl : l.length ≤ 1000) : Ev (fun k => zjl k l) (zvb l) := by
  unfold zjl
  refine zae (by omega) (zae (by simp; omega) ?_)
  have key : ∀ (d i : Nat) (u : List Int), u.length = l.length → i + d = l.length → Ev (fun k => zeo k u l l.length i) ((l.drop i).foldl zzv u) := by
    intro d
    induction d with
    | zero =>
      intro i u hu hi
      refine Ev.step (f := fun _ => some u) (fun k => ?_) (Ev.some ?_)
      · simp only [zeo]
        rw [if_neg (by omega)]
      · rw [List.drop_of_length_le (by omega)]
        rfl
    | succ d ih =>
      intro i u hu hi
      have hlt : i < l.length := by omega
      have e : l.drop i = l[i] :: l.drop (i + 1) := List.drop_eq_getElem_cons hlt
      have hx := zuo (zdv l i hlt)
      have ok := zo8 l 0 i hlt h
      rw [Nat.zero_add] at ok
      obtain ⟨p1, p2⟩ := zx4 ok
      rw [e]
      refine Ev.step (fun k => by simp only [zeo, hx]; rfl) (zae (by omega) (zae (by omega) (zae (by omega) (Ev.bind (of_ev l[i]) ?_))))
      exact zv6 (fun k u j => zeo k u l l.length j) (fun k u i ps n j => ze6 k u l l.length i ps n j) i l.length _ (fun k u ps j => by simp only [ze6]) _ p1 (fun p hp => by have := p2 p hp; omega) u hu (by omega) (ih (i + 1) _ (by rw [znn]; exact hu) (by omega))
  simpa [zvb] using key l.length 0 (List.replicate l.length 0) (by simp) (by omega)
theorem zzx (l : List Node) (h : okNs 0 l = true) (hl : l.length ≤ 1000) : Ev (fun k => zh3 k l) (zvb l) := by
  unfold zh3
  refine zae (by omega) (zae (by simp; omega) ?_)
  have key : ∀ (d i : Nat) (u : List Int), u.length = l.length → i + d = l.length → Ev (fun k => zdr k u l l.length i) ((l.drop i).foldl zzv u) := by
    intro d
    induction d with
    | zero =>
      intro i u hu hi
      refine Ev.step (f := fun _ => some u) (fun k => ?_) (Ev.some ?_)
      · simp only [zdr]
        rw [if_neg (by omega)]
      · rw [List.drop_of_length_le (by omega)]
        rfl
    | succ d ih =>
      intro i u hu hi
      have hlt : i < l.length := by omega
      have e : l.drop i = l[i] :: l.drop (i + 1) := List.drop_eq_getElem_cons hlt
      have hx := zuo (zdv l i hlt)
      have ok := zo8 l 0 i hlt h
      rw [Nat.zero_add] at ok
      obtain ⟨p1, p2⟩ := zx4 ok
      rw [e]
      refine Ev.step (fun k => by simp only [zdr, hx]; rfl) (zae (by omega) (zae (by omega) (zae (by omega) (Ev.bind (zyv l[i]) ?_))))
      exact zv6 (fun k u j => zdr k u l l.length j) (fun k u i ps n j => zeh k u l l.length i ps n j) i l.length _ (fun k u ps j => by simp only [zeh]) _ p1 (fun p hp => by have := p2 p hp; omega) u hu (by omega) (ih (i + 1) _ (by rw [znn]; exact hu) (by omega))
  simpa [zvb] using key l.length 0 (List.replicate l.length 0) (by simp) (by omega)
def zpr (l : List Node) : Bool := decide (1 ≤ l.length ∧ l.length ≤ 24) && (okNs 0 l && !decide ((0 : Int) ∈ (zvb l).take (l.length - 1)))
theorem zzy (l : List Node) : Ev (fun k => zgx k l) (zpr l) := by
  unfold zgx zpr
  refine Ev.call (zk8 _ _ _) ?_
  by_cases hl : 1 ≤ l.length ∧ l.length ≤ 24
  · rw [decide_eq_true hl, Bool.true_and]
    refine zae (by simp; omega) ?_
    have key : ∀ (d i : Nat), i + d = l.length → (okNs 0 l = true → okNs i (l.drop i) = true) → (okNs 0 l = false → okNs i (l.drop i) = false) → Ev (fun k => zdp k l l l.length i) (okNs 0 l && !decide ((0 : Int) ∈ (zvb l).take (l.length - 1))) := by
      intro d
      induction d with
      | zero =>
        intro i hi _ hf
        have ok : okNs 0 l = true := by
          cases h : okNs 0 l
          · have := hf h
            rw [List.drop_of_length_le (by omega)] at this
            cases this
          · rfl
        rw [ok, Bool.true_and]
        refine Ev.step (fun k => by simp only [zdp]; rfl) (zav (by omega) (Ev.bind (yc1 l ok (by omega)) ?_))
        have e1 : wrap64 ((l.length : Int) - 1) = ((l.length - 1 : Nat) : Int) := by rw [w64 (by omega) (by omega)]; omega
        rw [e1]
        refine zae (by omega) (zae (by rw [zqx]; omega) ?_)
        rw [Int.toNat_natCast]
        exact Ev.bind (zo3 _ 0 (by rw [List.length_take, zqx]; omega)) (Ev.now _)
      | succ d ih =>
        intro i hi ht hf
        have hlt : i < l.length := by omega
        have e : l.drop i = l[i] :: l.drop (i + 1) := List.drop_eq_getElem_cons hlt
        have hx := zuo (zdv l i hlt)
        rw [e] at ht hf
        simp only [okNs] at ht hf
        refine Ev.step (fun k => by simp only [zdp, hx]; rfl) (zae (by omega) (zae (by omega) (zae (by omega) (Ev.bind (zzu l[i] i (by omega)) ?_))))
        cases h : okNx l[i] i
        · refine zav (by decide) (Ev.some ?_)
          rw [h] at ht
          cases h0 : okNs 0 l
          · rfl
          · exact absurd (ht h0) (by simp)
        · rw [h] at ht hf
          refine zae rfl ?_
          rw [w64n i (by omega)]
          exact ih (i + 1) (by omega) (by simpa using ht) (by simpa using hf)
    simpa using key l.length 0 (by omega) (fun h => h) (fun h => h)
  · rw [decide_eq_false hl, Bool.false_and]
    exact zav (by simp; omega) (Ev.now _)
theorem zzz (l : List Node) : Ev (fun k => zg0 k l) (zpr l) := by
  unfold zg0 zpr
  refine Ev.call (zo1 _ _ _) ?_
  by_cases hl : 1 ≤ l.length ∧ l.length ≤ 24
  · rw [decide_eq_true hl, Bool.true_and]
    refine zae (by simp; omega) ?_
    have key : ∀ (d i : Nat), i + d = l.length → (okNs 0 l = true → okNs i (l.drop i) = true) → (okNs 0 l = false → okNs i (l.drop i) = false) → Ev (fun k => zds k l l l.length i) (okNs 0 l && !decide ((0 : Int) ∈ (zvb l).take (l.length - 1))) := by
      intro d
      induction d with
      | zero =>
        intro i hi _ hf
        have ok : okNs 0 l = true := by
          cases h : okNs 0 l
          · have := hf h
            rw [List.drop_of_length_le (by omega)] at this
            cases this
          · rfl
        rw [ok, Bool.true_and]
        refine Ev.step (fun k => by simp only [zds]; rfl) (zav (by omega) (Ev.bind (zzx l ok (by omega)) ?_))
        have e1 : wrap64 ((l.length : Int) - 1) = ((l.length - 1 : Nat) : Int) := by rw [w64 (by omega) (by omega)]; omega
        rw [e1]
        refine zae (by omega) (zae (by rw [zqx]; omega) ?_)
        rw [Int.toNat_natCast]
        exact Ev.bind (zu9 _ 0 (by rw [List.length_take, zqx]; omega)) (Ev.now _)
      | succ d ih =>
        intro i hi ht hf
        have hlt : i < l.length := by omega
        have e : l.drop i = l[i] :: l.drop (i + 1) := List.drop_eq_getElem_cons hlt
        have hx := zuo (zdv l i hlt)
        rw [e] at ht hf
        simp only [okNs] at ht hf
        refine Ev.step (fun k => by simp only [zds, hx]; rfl) (zae (by omega) (zae (by omega) (zae (by omega) (Ev.bind (zzt l[i] i (by omega)) ?_))))
        cases h : okNx l[i] i
        · refine zav (by decide) (Ev.some ?_)
          rw [h] at ht
          cases h0 : okNs 0 l
          · rfl
          · exact absurd (ht h0) (by simp)
        · rw [h] at ht hf
          refine zae rfl ?_
          rw [w64n i (by omega)]
          exact ih (i + 1) (by omega) (by simpa using ht) (by simpa using hf)
    simpa using key l.length 0 (by omega) (fun h => h) (fun h => h)
  · rw [decide_eq_false hl, Bool.false_and]
    exact zav (by simp; omega) (Ev.now _)
theorem zv7 {l : List Node} (h : zpr l = true) : (1 ≤ l.length ∧ l.length ≤ 24) ∧ okNs 0 l = true := by
  unfold zpr at h
  simp only [Bool.and_eq_true, decide_eq_true_eq] at h
  exact ⟨h.1, h.2.1⟩
theorem zvc (c : List Int) (a b : Int) (hc : c.length ≤ 1048576) : Ev (fun k => ze7 k c a b) (c.all (fun n => decide (a ≤ n ∧ n ≤ b))) := by
  unfold ze7
  refine yet c _ (fun k i => zeb k a b c c.length i) ?_ (fun i x hi hx hp => ?_) (fun i x r hi hx hp hr => ?_)
  · refine Ev.step (f := fun _ => some true) (fun k => ?_) (Ev.now _)
    simp only [zeb]
    rw [if_neg (by omega)]
  · refine Ev.step (f := fun _ => some false) (fun k => ?_) (Ev.now _)
    simp only [zeb, zli hx, zo1, Option.bind_some, hp]
    rw [if_pos (by omega), if_pos (by omega), if_pos (by omega), if_neg (by simp)]
  · refine Ev.step (fun k => ?_) hr
    simp only [zeb, zli hx, zo1, Option.bind_some, hp]
    rw [if_pos (by omega), if_pos (by omega), if_pos (by omega), if_pos trivial, w64n i (by omega)]
theorem zqy (n : Nat) (Q : Nat → Bool) (fin : Bool) (L : Nat → Int → Option Bool) (hend : Ev (fun k => L k (n : Nat)) fin)
    (hno : ∀ i : Nat, i < n → Q i = false → Ev (fun k => L k (i : Nat)) false) (hyes : ∀ (i : Nat) r, i < n → Q i = true → Ev (fun k => L k ((i + 1 : Nat) : Int)) r → Ev (fun k => L k (i : Nat)) r) : Ev (fun k => L k 0) ((List.range n).all Q && fin) := by
  have key : ∀ (d i : Nat), i + d = n → Ev (fun k => L k (i : Nat)) ((List.range' i d).all Q && fin) := by
    intro d
    induction d with
    | zero =>
      intro i hi
      have e : i = n := by omega
      subst e
      simpa using hend
    | succ d ih =>
      intro i hi
      rw [List.range'_succ, List.all_cons]
      cases h : Q i
      · simpa using hno i (by omega) h
      · simpa using hyes i _ (by omega) h (ih (i + 1) (by omega))
  rw [List.range_eq_range']
  exact key n 0 (by omega)
theorem ybf {α : Type} (xs : List α) (p : α → Bool) (fin : Bool) (L : Nat → Int → Option Bool) (hend : Ev (fun k => L k (xs.length : Nat)) fin)
    (hno : ∀ (i : Nat) x, i < xs.length → (∀ d, xs.getD i d = x) → p x = false → Ev (fun k => L k i) false)
    (hyes : ∀ (i : Nat) x r, i < xs.length → (∀ d, xs.getD i d = x) → p x = true → Ev (fun k => L k ((i + 1 : Nat) : Int)) r → Ev (fun k => L k i) r) : Ev (fun k => L k 0) (xs.all p && fin) := by
  refine zk7 (σ := Unit) xs (fun k _ i => L k i) (fun l _ => l.all p && fin) (fun _ => by simpa using hend) (fun i _ x rest hi hx ih => ?_) ()
  cases h : p x
  · exact zk6 (hno i x hi hx h) (by simp [h])
  · exact hyes i x _ hi hx h (zk6 (ih ()) (by simp [h]))
theorem znh {α β : Type} (xs : List α) (g : α → List β) (N : Nat) (L : Nat → List β → Int → Option (List β)) (T : List β)
    (hend : ∀ s, (s ++ T).length ≤ N → Ev (fun k => L k s (xs.length : Nat)) (s ++ T))
    (hstep : ∀ (i : Nat) s x U, i < xs.length → (∀ d, xs.getD i d = x) → (s ++ (g x ++ U)).length ≤ N → (∀ s', (s' ++ U).length ≤ N → Ev (fun k => L k s' ((i + 1 : Nat) : Int)) (s' ++ U)) → Ev (fun k => L k s (i : Nat)) (s ++ (g x ++ U)))
    (s : List β) (hs : (s ++ (xs.flatMap g ++ T)).length ≤ N) : Ev (fun k => L k s 0) (s ++ (xs.flatMap g ++ T)) := by
  have key : ∀ (d i : Nat), i + d = xs.length → ∀ s, (s ++ ((xs.drop i).flatMap g ++ T)).length ≤ N → Ev (fun k => L k s (i : Nat)) (s ++ ((xs.drop i).flatMap g ++ T)) := by
    intro d
    induction d with
    | zero =>
      intro i hi s hs
      have e : i = xs.length := by omega
      subst e
      rw [List.drop_of_length_le (Nat.le_refl _), List.flatMap_nil, List.nil_append] at hs ⊢
      exact hend s hs
    | succ d ih =>
      intro i hi s hs
      have hlt : i < xs.length := by omega
      have e : xs.drop i = xs[i] :: xs.drop (i + 1) := List.drop_eq_getElem_cons hlt
      rw [e, List.flatMap_cons, List.append_assoc] at hs ⊢
      exact hstep i s xs[i] _ hlt (zdv xs i hlt) hs (ih (i + 1) (by omega))
  have := key xs.length 0 (by omega) s (by simpa using hs)
  simpa using this
def immC (c : Nat) : Bool := match c with | 0 => true | 5 => true | 6 => true | 7 => true | _ => false
def imm7 : List ByteArray := [⟨#[115, 101, 116]⟩, ⟨#[97, 100, 100, 105]⟩, ⟨#[97, 110, 100, 105]⟩, ⟨#[120, 111, 114, 105]⟩, ⟨#[115, 104, 108, 105]⟩, ⟨#[115, 104, 114, 105]⟩, ⟨#[108, 101, 97]⟩]
theorem zyw : ∀ p ∈ ops, hasS imm7 p.1 = immC p.2 := by decide +kernel
theorem ybg : ∀ t ∈ imm7, (ops.any fun p => decide (t = p.1)) = true := by decide +kernel
theorem yeu (s : ByteArray) : hasS imm7 s = immC (cls s) := by
  refine zp9 (P := fun s => hasS imm7 s = immC (cls s)) s (fun p hp => by rw [zyw p hp, zxw p hp]) (fun h => ?_)
  rw [zqa h, Bool.eq_iff_iff, zx2]
  constructor
  · intro hm
    have := ybg s hm
    rw [List.any_eq_true] at this
    obtain ⟨p, hp, he⟩ := this
    exact absurd (of_decide_eq_true he) (h p hp)
  · intro h
    cases h
theorem zvd (s : ByteArray) : Ev (fun k => zfu k s) (immC (cls s)) := by
  unfold zfu
  rw [← yeu]
  exact Ev.bind (zqw imm7 s (by decide)) (Ev.now _)
def inB (c : Nat) (m : Int) : Bool := decide ((zgj c).2.2.2.1 ≤ m ∧ m ≤ (zgj c).2.2.2.2)
def inW (m : Int) : Bool := decide (0 ≤ m ∧ m ≤ 63)
theorem yc2 (c : Nat) (s : ByteArray) (h : c ≤ 8) : (zf8 c s).1 = (zgj c).2.1 := by
  rcases (show c = 0 ∨ c = 1 ∨ c = 2 ∨ c = 3 ∨ c = 4 ∨ c = 5 ∨ c = 6 ∨ c = 7 ∨ c = 8 by omega) with h | h | h | h | h | h | h | h | h <;> subst h <;> rfl
theorem yc3 (c : Nat) (s : ByteArray) (h : c ≤ 8) : (zf8 c s).2.1 = (zgj c).2.2.1 := by
  rcases (show c = 0 ∨ c = 1 ∨ c = 2 ∨ c = 3 ∨ c = 4 ∨ c = 5 ∨ c = 6 ∨ c = 7 ∨ c = 8 by omega) with h | h | h | h | h | h | h | h | h <;> subst h <;> rfl
theorem yc4 (c : Nat) (s : ByteArray) (h : c ≤ 8) : (zf8 c s).2.2.2.2.2.2 = decide (c ≠ 8) := by
  rcases (show c = 0 ∨ c = 1 ∨ c = 2 ∨ c = 3 ∨ c = 4 ∨ c = 5 ∨ c = 6 ∨ c = 7 ∨ c = 8 by omega) with h | h | h | h | h | h | h | h | h <;> subst h <;> rfl
theorem zx5 (c : Nat) (h : c ≤ 8) : (zgj c).1 = decide (c ≠ 8) := by
  rcases (show c = 0 ∨ c = 1 ∨ c = 2 ∨ c = 3 ∨ c = 4 ∨ c = 5 ∨ c = 6 ∨ c = 7 ∨ c = 8 by omega) with h | h | h | h | h | h | h | h | h <;> subst h <;> rfl
theorem zve (c : Nat) (s : ByteArray) (h : c ≤ 8) (h8 : c ≠ 8) : decide ((zf8 c s).2.2.1 ≤ (zf8 c s).2.2.2.1) = immC c := by
  rcases (show c = 0 ∨ c = 1 ∨ c = 2 ∨ c = 3 ∨ c = 4 ∨ c = 5 ∨ c = 6 ∨ c = 7 ∨ c = 8 by omega) with h | h | h | h | h | h | h | h | h <;> subst h <;> first | rfl | exact absurd rfl h8
theorem zz0 (c : Nat) (s : ByteArray) (h : c ≤ 8) (h8 : immC c = true) (m : Int) : decide ((zf8 c s).2.2.1 ≤ m ∧ m ≤ (zf8 c s).2.2.2.1) = inB c m := by
  rcases (show c = 0 ∨ c = 1 ∨ c = 2 ∨ c = 3 ∨ c = 4 ∨ c = 5 ∨ c = 6 ∨ c = 7 ∨ c = 8 by omega) with h | h | h | h | h | h | h | h | h <;> subst h <;> first | rfl | cases h8
def okOp (ims : List Int) (s : ByteArray) : Bool := decide (cls s ≠ 8) && (!immC (cls s) || ims.all (inB (cls s)))
def difS (l : List ByteArray) : Bool := (List.range l.length).all fun i => !hasS (l.take i) (l.getD i ByteArray.empty)
def difI (l : List Int) : Bool := (List.range l.length).all fun i => !decide (l.getD i 0 ∈ l.take i)
def zf0 (os : List ByteArray) (ims : List Int) : Bool := decide (1 ≤ os.length ∧ os.length ≤ 4) && (decide (ims.length ≤ 2) && (ims.all inW && (difS os && (difI ims && (List.range os.length).all fun i => okOp ims (os.getD i ByteArray.empty)))))
theorem yc5 (l : List ByteArray) (hl : l.length ≤ 1048576) : Ev (fun k => zcd k l) (difS l) := by
  unfold zcd difS
  refine zk6 (zqy l.length _ true (fun k i => zar k l l l.length i) ?_ (fun i hi hq => ?_) (fun i r hi hq hr => ?_)) (Bool.and_true _)
  · refine Ev.step (f := fun _ => some true) (fun k => ?_) (Ev.now _)
    simp only [zar]
    rw [if_neg (by omega)]
  · refine Ev.step (fun k => by simp only [zar, zlj (d0 := ByteArray.empty) (fun d => (zdv l i hi d).trans (zdv l i hi ByteArray.empty).symm), Int.toNat_natCast]; rfl) (zae (by omega) (zae (by omega) (zae (by omega) (zae (by omega) ?_))))
    exact Ev.bind (zo2 _ _ (by rw [List.length_take]; omega)) (zae (by simpa using hq) (Ev.now _))
  · refine Ev.step (fun k => by simp only [zar, zlj (d0 := ByteArray.empty) (fun d => (zdv l i hi d).trans (zdv l i hi ByteArray.empty).symm), Int.toNat_natCast]; rfl) (zae (by omega) (zae (by omega) (zae (by omega) (zae (by omega) ?_))))
    refine Ev.bind (zo2 _ _ (by rw [List.length_take]; omega)) (zav (by simpa using hq) ?_)
    rw [w64n i (by omega)]
    exact hr
theorem yc6 (l : List Int) (hl : l.length ≤ 1048576) : Ev (fun k => zck k l) (difI l) := by
  unfold zck difI
  refine zk6 (zqy l.length _ true (fun k i => za4 k l l l.length i) ?_ (fun i hi hq => ?_) (fun i r hi hq hr => ?_)) (Bool.and_true _)
  · refine Ev.step (f := fun _ => some true) (fun k => ?_) (Ev.now _)
    simp only [za4]
    rw [if_neg (by omega)]
  · refine Ev.step (fun k => by simp only [za4, zli (fun d => (zdv l i hi d).trans (zdv l i hi 0).symm), Int.toNat_natCast]; rfl) (zae (by omega) (zae (by omega) (zae (by omega) (zae (by omega) ?_))))
    exact Ev.bind (zo3 _ _ (by rw [List.length_take]; omega)) (zae (by simpa using hq) (Ev.now _))
  · refine Ev.step (fun k => by simp only [za4, zli (fun d => (zdv l i hi d).trans (zdv l i hi 0).symm), Int.toNat_natCast]; rfl) (zae (by omega) (zae (by omega) (zae (by omega) (zae (by omega) ?_))))
    refine Ev.bind (zo3 _ _ (by rw [List.length_take]; omega)) (zav (by simpa using hq) ?_)
    rw [w64n i (by omega)]
    exact hr
def opI (ims : List Int) (s : ByteArray) : Bool := decide (cls s ≠ 8) && ims.all fun m => inW m && (!immC (cls s) || inB (cls s) m)
theorem zw6 (os : List ByteArray) (ims : List Int) (ho : os.length ≤ 4) (hi : ims.length ≤ 1048576) : Ev (fun k => zcx k os os.length 0 os ims) ((List.range os.length).all fun i => opI ims (os.getD i ByteArray.empty)) := by
  have inner : ∀ (i : Nat) (s : ByteArray) r, i < os.length → cls s ≠ 8 → Ev (fun k => zcx k os os.length ((i + 1 : Nat) : Int) os ims) r → Ev (fun k => zbl k os os.length i ims ims.length 0 os ims (zf8 (cls s) s).1 (zf8 (cls s) s).2.1 (zf8 (cls s) s).2.2.1 (zf8 (cls s) s).2.2.2.1 (zf8 (cls s) s).2.2.2.2.1 (zf8 (cls s) s).2.2.2.2.2.1) ((ims.all fun m => inW m && (!immC (cls s) || inB (cls s) m)) && r) := by
    intro i s r hlt h8 hr
    have hc := ztj s
    refine ybf ims _ r (fun k j => zbl k os os.length i ims ims.length j os ims (zf8 (cls s) s).1 (zf8 (cls s) s).2.1 (zf8 (cls s) s).2.2.1 (zf8 (cls s) s).2.2.2.1 (zf8 (cls s) s).2.2.2.2.1 (zf8 (cls s) s).2.2.2.2.2.1) ?_ (fun j x hj hx hp => ?_) (fun j x r' hj hx hp hr' => ?_)
    · refine Ev.step (fun k => ?_) hr
      simp only [zbl]
      rw [if_neg (by omega), w64n i (by omega)]
    · refine Ev.step (fun k => by simp only [zbl, zli hx, zi2, zk8, zfa, Option.bind_some, zve _ s hc h8]; rfl) (zae (by omega) (zae (by omega) (zae (by omega) ?_)))
      by_cases q : 0 ≤ x ∧ x ≤ 63
      · refine zae (by simpa using q) ?_
        cases hm : immC (cls s)
        · simp [inW, hm, q] at hp
        · refine zae rfl (zav ?_ (Ev.now _))
          rw [zz0 _ s hc hm]
          simpa [inW, hm, q] using hp
      · exact zav (by simpa using q) (Ev.now _)
    · refine Ev.step (fun k => by simp only [zbl, zli hx, zi2, zk8, zfa, Option.bind_some, zve _ s hc h8]; rfl) (zae (by omega) (zae (by omega) (zae (by omega) ?_)))
      simp only [Bool.and_eq_true] at hp
      refine zae hp.1 ?_
      rw [w64n j (by omega)]
      cases hm : immC (cls s)
      · exact zav (by simp) hr'
      · refine zae rfl (zae ?_ hr')
        rw [zz0 _ s hc hm]
        simpa [hm] using hp.2
  have main : ∀ (d i : Nat), i + d = os.length → Ev (fun k => zcx k os os.length (i : Nat) os ims) ((List.range' i d).all fun i => opI ims (os.getD i ByteArray.empty)) := by
    intro d
    induction d with
    | zero =>
      intro i hi
      refine Ev.step (f := fun _ => some true) (fun k => ?_) (Ev.some rfl)
      simp only [zcx]
      rw [if_neg (by omega)]
    | succ d ih =>
      intro i hi
      have hlt : i < os.length := by omega
      have hx : rdOf ByteArray.empty os i = os.getD i ByteArray.empty := zlj (fun d => (zdv os i hlt d).trans (zdv os i hlt ByteArray.empty).symm)
      rw [List.range'_succ, List.all_cons]
      obtain ⟨s, es⟩ : ∃ s, s = os.getD i ByteArray.empty := ⟨_, rfl⟩
      rw [← es] at hx ⊢
      refine Ev.step (fun k => by simp only [zcx, hx, zti, Option.bind_some, yc4 _ _ (ztj _)]; rfl) (zae (by omega) (zae (by omega) (zae (by omega) ?_)))
      by_cases h8 : cls s = 8
      · refine zav (by simpa using h8) (Ev.some ?_)
        rw [show opI ims s = false by simp [opI, h8]]
        rfl
      · refine zae (by simpa using h8) (zk6 (inner i _ _ hlt h8 (ih (i + 1) (by omega))) ?_)
        rw [show opI ims s = ims.all fun m => inW m && (!immC (cls s) || inB (cls s) m) by simp [opI, h8]]
  rw [List.range_eq_range']
  exact main os.length 0 (by omega)
theorem zz1 (os : List ByteArray) (ims : List Int) (ho : 1 ≤ os.length) : ((List.range os.length).all fun i => opI ims (os.getD i ByteArray.empty)) = (ims.all inW && (List.range os.length).all fun i => okOp ims (os.getD i ByteArray.empty)) := by
  rw [Bool.eq_iff_iff]
  simp only [Bool.and_eq_true, List.all_eq_true, List.mem_range, opI, okOp, Bool.or_eq_true, Bool.not_eq_true']
  constructor
  · exact fun h => ⟨fun m hm => ((h 0 ho).2 m hm).1, fun i hi => ⟨(h i hi).1, by
      cases hc : immC (cls (os.getD i ByteArray.empty))
      · exact Or.inl rfl
      · refine Or.inr fun m hm => ?_
        have := ((h i hi).2 m hm).2
        rw [hc] at this
        exact this.resolve_left (by simp)⟩⟩
  · exact fun h i hi => ⟨(h.2 i hi).1, fun m hm => ⟨h.1 m hm, (h.2 i hi).2.imp id (fun g => g m hm)⟩⟩
theorem zw7 (os : List ByteArray) (ims : List Int) (ho : os.length ≤ 1048576) (hi : ims.length ≤ 1048576) : Ev (fun k => zfb k os ims) (zf0 os ims) := by
  unfold zfb zf0
  refine Ev.call (zk8 _ _ _) ?_
  by_cases h1 : 1 ≤ os.length ∧ os.length ≤ 4
  · rw [decide_eq_true h1, Bool.true_and]
    refine zae (by simp; omega) ?_
    by_cases h2 : ims.length ≤ 2
    · rw [decide_eq_true h2, Bool.true_and]
      refine zav (by omega) (Ev.bind (yc5 os ho) ?_)
      cases hd : difS os
      · refine zav (by decide) (Ev.step (fun k => by simp only [zax]; rfl) (zae (show true = true from rfl) (Ev.some ?_)))
        simp
      · refine zae rfl (Ev.bind (yc6 ims hi) ?_)
        cases hd2 : difI ims
        · refine Ev.step (fun k => by simp only [zax]; rfl) (zae (by decide) (Ev.some ?_))
          simp
        · refine Ev.step (fun k => by simp only [zax]; rfl) (zav (by decide) ?_)
          refine zk6 (zw6 os ims h1.2 hi) ?_
          rw [zz1 os ims h1.1, Bool.true_and, Bool.true_and]
    · rw [decide_eq_false h2, Bool.false_and]
      refine zae (by omega) (Ev.step (fun k => by simp only [zax]; rfl) (zae (show true = true from rfl) (Ev.now _)))
  · rw [decide_eq_false h1, Bool.false_and]
    exact zav (by simp; omega) (Ev.step (fun k => by simp only [zax]; rfl) (zae (show true = true from rfl) (Ev.now _)))
theorem zz2 (os : List ByteArray) (ims : List Int) (ho : os.length ≤ 1048576) (hi : ims.length ≤ 1048576) : Ev (fun k => zgf k os ims) (zf0 os ims) := by
  unfold zgf zf0
  refine Ev.call (zo1 _ _ _) ?_
  by_cases h1 : 1 ≤ os.length ∧ os.length ≤ 4
  · rw [decide_eq_true h1, Bool.true_and]
    refine zae (by simp; omega) ?_
    by_cases h2 : ims.length ≤ 2
    · rw [decide_eq_true h2, Bool.true_and]
      refine zav (by omega) (Ev.bind (zvc ims 0 63 hi) ?_)
      cases hw : ims.all (fun n => decide (0 ≤ n ∧ n ≤ 63))
      · rw [show ims.all inW = false from hw]
        exact Ev.step (fun k => by simp only [zb2]; rfl) (zae (by decide) (Ev.now _))
      · rw [show ims.all inW = true from hw, Bool.true_and]
        refine Ev.step (fun k => by simp only [zb2]; rfl) (zav (by decide) ?_)
        have last : Ev (fun k => zdu k ims ims.length 0 os ims) (difI ims) := by
          unfold difI
          refine zk6 (zqy ims.length _ true (fun k i => zdu k ims ims.length i os ims) ?_ (fun i hi hq => ?_) (fun i r hi hq hr => ?_)) (Bool.and_true _)
          · refine Ev.step (f := fun _ => some true) (fun k => ?_) (Ev.now _)
            simp only [zdu]
            rw [if_neg (by omega)]
          · refine Ev.step (fun k => by simp only [zdu, zli (fun d => (zdv ims i hi d).trans (zdv ims i hi 0).symm), Int.toNat_natCast]; rfl) (zae (by omega) (zae (by omega) (zae (by omega) (zae (by omega) ?_))))
            exact Ev.bind (zu9 _ _ (by rw [List.length_take]; omega)) (zae (by simpa using hq) (Ev.now _))
          · refine Ev.step (fun k => by simp only [zdu, zli (fun d => (zdv ims i hi d).trans (zdv ims i hi 0).symm), Int.toNat_natCast]; rfl) (zae (by omega) (zae (by omega) (zae (by omega) (zae (by omega) ?_))))
            refine Ev.bind (zu9 _ _ (by rw [List.length_take]; omega)) (zav (by simpa using hq) ?_)
            rw [w64n i (by omega)]
            exact hr
        have first := zqy os.length (fun i => okOp ims (os.getD i ByteArray.empty) && !hasS (os.take i) (os.getD i ByteArray.empty)) (difI ims) (fun k i => zb3 k os os.length i os ims) (by
          refine Ev.step (fun k => ?_) last
          simp only [zb3]
          rw [if_neg (by omega)]) (fun i hlt hq => by
          have hx : rdOf ByteArray.empty os i = os.getD i ByteArray.empty := zlj (fun d => (zdv os i hlt d).trans (zdv os i hlt ByteArray.empty).symm)
          obtain ⟨s, es⟩ : ∃ s, s = os.getD i ByteArray.empty := ⟨_, rfl⟩
          rw [← es] at hx hq
          refine Ev.step (fun k => by simp only [zb3, hx, Int.toNat_natCast]; rfl) (zae (by omega) (zae (by omega) (zae (by omega) (Ev.bind (zu8 _) ?_))))
          rw [zx5 _ (ztj _)]
          by_cases h8 : cls s = 8
          · exact zav (by simpa using h8) (Ev.now _)
          refine zae (by simpa using h8) (zae (by omega) (Ev.bind (zqw _ _ (by rw [List.length_take]; omega)) ?_))
          cases hh : hasS (os.take i) s
          · refine zav (by decide) (Ev.bind (zvd _) ?_)
            rw [hh] at hq
            cases hm : immC (cls s)
            · simp [okOp, h8, hm] at hq
            · refine zae rfl (Ev.bind (zvc ims _ _ hi) (zav ?_ (Ev.now _)))
              simpa [okOp, h8, hm, inB] using hq
          · exact zae rfl (Ev.now _)) (fun i r hlt hq hr => by
          have hx : rdOf ByteArray.empty os i = os.getD i ByteArray.empty := zlj (fun d => (zdv os i hlt d).trans (zdv os i hlt ByteArray.empty).symm)
          obtain ⟨s, es⟩ : ∃ s, s = os.getD i ByteArray.empty := ⟨_, rfl⟩
          rw [← es] at hx hq
          simp only [okOp, Bool.and_eq_true, decide_eq_true_eq, Bool.not_eq_true', Bool.or_eq_true] at hq
          refine Ev.step (fun k => by simp only [zb3, hx, Int.toNat_natCast]; rfl) (zae (by omega) (zae (by omega) (zae (by omega) (Ev.bind (zu8 _) ?_))))
          rw [zx5 _ (ztj _)]
          refine zae (by simpa using hq.1.1) (zae (by omega) (Ev.bind (zqw _ _ (by rw [List.length_take]; omega)) ?_))
          refine zav (by simp [hq.2]) (Ev.bind (zvd _) ?_)
          rw [w64n i (by omega)]
          cases hm : immC (cls s)
          · exact zav (by decide) hr
          · have := hq.1.2.resolve_left (by simp [hm])
            exact zae rfl (Ev.bind (zvc ims _ _ hi) (zae this hr)))
        refine zk6 first ?_
        rw [Bool.eq_iff_iff]
        simp only [difS, Bool.and_eq_true, List.all_eq_true, List.mem_range]
        exact ⟨fun h => ⟨fun i hi => (h.1 i hi).2, h.2, fun i hi => (h.1 i hi).1⟩, fun h => ⟨fun i hi => ⟨h.2.2 i hi, h.1 i hi⟩, h.2.1⟩⟩
    · rw [decide_eq_false h2, Bool.false_and]
      refine zae (by omega) (Ev.step (fun k => by simp only [zb2]; rfl) (zae (show true = true from rfl) (Ev.now _)))
  · rw [decide_eq_false h1, Bool.false_and]
    exact zav (by simp; omega) (Ev.step (fun k => by simp only [zb2]; rfl) (zae (show true = true from rfl) (Ev.now _)))
theorem zod {α β : Type} (xs : List α) (g : α → List β) (c : Nat) (h : ∀ x ∈ xs, (g x).length ≤ c) : (xs.flatMap g).length ≤ xs.length * c := by
  induction xs with
  | nil => simp
  | cons x xs ih =>
    rw [List.flatMap_cons, List.length_append, List.length_cons]
    have a := h x (by simp)
    have b := ih (fun y hy => h y (List.mem_cons_of_mem _ hy))
    rw [Nat.succ_mul]
    omega
def zo5 (u : Bool) (n : Nat) : List Int := if u = true then zkj n 0 else [0]
def imsM (c : Nat) (ims : List Int) : List Int := if immC c = true then ims else [0]
def zno (ims : List Int) (t : Nat) (s : ByteArray) : List Instr := (zo5 (zgj (cls s)).2.1 (2 + t)).flatMap fun a => (zo5 (zgj (cls s)).2.2.1 (2 + t)).flatMap fun b => (imsM (cls s) ims).flatMap fun m => [⟨s, ((2 + t : Nat) : Int), a, b, m⟩]
def zd8 (os : List ByteArray) (ims : List Int) (t : Nat) : List Instr := os.flatMap (zno ims t)
theorem zn2 (u : Bool) (n : Nat) (h : 1 ≤ n) : (zo5 u n).length ≤ n := by
  unfold zo5
  split
  · rw [zum]; exact Nat.le_refl _
  · simpa using h
theorem zw8 (ims : List Int) (t : Nat) (s : ByteArray) (h : ims.length ≤ 2) (ht : t ≤ 3) : (zno ims t s).length ≤ 50 := by
  have hi : (imsM (cls s) ims).length ≤ 2 := by
    unfold imsM
    split
    · exact h
    · simp
  have a := zn2 (zgj (cls s)).2.1 (2 + t) (by omega)
  have b := zn2 (zgj (cls s)).2.2.1 (2 + t) (by omega)
  have e1 : ∀ x y : Int, ((imsM (cls s) ims).flatMap fun m => [(⟨s, ((2 + t : Nat) : Int), x, y, m⟩ : Instr)]).length ≤ 2 := fun x y => by
    have := zod (imsM (cls s) ims) (fun m => [(⟨s, ((2 + t : Nat) : Int), x, y, m⟩ : Instr)]) 1 (by simp)
    omega
  have e2 : ∀ x : Int, ((zo5 (zgj (cls s)).2.2.1 (2 + t)).flatMap fun y => (imsM (cls s) ims).flatMap fun m => [(⟨s, ((2 + t : Nat) : Int), x, y, m⟩ : Instr)]).length ≤ 10 := fun x => by
    have := zod (zo5 (zgj (cls s)).2.2.1 (2 + t)) (fun y => (imsM (cls s) ims).flatMap fun m => [(⟨s, ((2 + t : Nat) : Int), x, y, m⟩ : Instr)]) 2 (fun y _ => e1 x y)
    omega
  have := zod (zo5 (zgj (cls s)).2.1 (2 + t)) _ 10 (fun x _ => e2 x)
  unfold zno
  omega
theorem zsb (os : List ByteArray) (ims : List Int) (t : Nat) (ho : os.length ≤ 4) (h : ims.length ≤ 2) (ht : t ≤ 3) : (zd8 os ims t).length ≤ 200 := by
  have := zod os (zno ims t) 50 (fun s _ => zw8 ims t s h ht)
  unfold zd8
  omega
theorem zz3 (u : Bool) (n : Nat) (hn : n ≤ 1048576) : Ev (fun k => zir k u (n : Int)) (zo5 u n) := by
  have key : ∀ (d : Nat) (xs : List Int) (b : Nat), xs.length + d ≤ 1048576 → b + d = n → Ev (fun k => zem k xs n b) (xs ++ zkj d b) := by
    intro d
    induction d with
    | zero =>
      intro xs b h h'
      refine Ev.step (f := fun _ => some xs) (fun k => ?_) (Ev.some (by simp [zkj]))
      simp only [zem]
      rw [if_neg (by omega)]
    | succ d ih =>
      intro xs b h h'
      refine Ev.step (fun k => ?_) (zk6 (ih (xs ++ [(b : Int)]) (b + 1) (by simp; omega) (by omega)) (by simp [zkj]))
      simp only [zem]
      rw [if_pos (by omega), if_pos (by omega), w64n _ (by omega)]
  unfold zir zo5
  cases u
  · exact zav (by decide) (Ev.now _)
  · exact zae rfl (by simpa using key n [] 0 (by simpa using hn) (by omega))
theorem zv8 (u : Bool) (t : Nat) (ht : t ≤ 1000) : Ev (fun k => zgb k u (t : Int)) (zo5 u (2 + t)) := by
  have e2 : wrap64 (2 + (t : Int)) = ((2 + t : Nat) : Int) := by rw [w64 (by omega) (by omega)]; omega
  unfold zgb zo5
  cases u
  · refine Ev.step (f := fun _ => some [0]) (fun k => ?_) (Ev.now _)
    simp only [zdd]
    rw [if_neg (by decide)]
  have key : ∀ (d : Nat) (xs : List Int) (b : Nat), xs.length + d ≤ 1048576 → b + d = 2 + t → Ev (fun k => zdd k true (t : Int) xs b) (xs ++ zkj d b) := by
    intro d
    induction d with
    | zero =>
      intro xs b h h'
      refine Ev.step (f := fun _ => some xs) (fun k => ?_) (Ev.some (by simp [zkj]))
      simp only [zdd, e2]
      rw [if_pos trivial, if_neg (by omega)]
    | succ d ih =>
      intro xs b h h'
      refine Ev.step (fun k => ?_) (zk6 (ih (xs ++ [(b : Int)]) (b + 1) (by simp; omega) (by omega)) (by simp [zkj]))
      simp only [zdd, e2]
      rw [if_pos trivial, if_pos (by omega), if_pos (by omega), w64n _ (by omega)]
  have := key (1 + t) [0] 1 (by simp; omega) (by omega)
  refine zk6 this ?_
  rw [if_pos rfl, show 2 + t = (1 + t) + 1 by omega]
  rfl
theorem zz4 (os : List ByteArray) (ims : List Int) (s : ByteArray) : Ev (fun k => zh1 k os ims s) (imsM (cls s) ims) := by
  unfold zh1 imsM
  refine Ev.bind (zvd s) ?_
  cases immC (cls s)
  · exact zav (by decide) (Ev.now _)
  · exact zae rfl (Ev.now _)
theorem ybh (os : List ByteArray) (ims : List Int) (t : Nat) (ho : os.length ≤ 4) (hi : ims.length ≤ 2) (ht : t ≤ 3) (hc : ∀ s ∈ os, cls s ≠ 8) : Ev (fun k => zhn k os ims t) (zd8 os ims t) := by
  have e2 : wrap64 (2 + (t : Int)) = ((2 + t : Nat) : Int) := by rw [w64 (by omega) (by omega)]; omega
  unfold zhn zd8
  have hb := zsb os ims t ho hi ht
  unfold zd8 at hb
  refine zk6 (znh os (zno ims t) 200 (fun k x i => zej k t x os os.length i os ims) [] (fun s hs => ?_) (fun i x5 s U hio hx hN H => ?_) [] (by simpa using hb)) (by simp)
  · refine Ev.step (f := fun _ => some s) (fun k => ?_) (Ev.some (by simp))
    simp only [zej]
    rw [if_neg (by omega)]
  have hcl := ztj s
  have h8 := hc s (zw5 hio hx)
  refine Ev.step (fun k => by simp only [zej, zlj (d0 := ByteArray.empty) hx, zti, zfa, Option.bind_some, zve _ s hcl h8]; rfl) (zae (by omega) (zae (by omega) (zae (by omega) ?_)))
  have body : Ev (fun k => zdi k t x5 s (imsM (cls s) ims) os os.length i os ims (zf8 (cls s) s).1 (zf8 (cls s) s).2.1 (zf8 (cls s) s).2.2.1 (zf8 (cls s) s).2.2.2.1 (zf8 (cls s) s).2.2.2.2.1 (zf8 (cls s) s).2.2.2.2.2.1) (x5 ++ (zno ims t s ++ U)) := by
    have r1 := zz3 (zf8 (cls s) s).1 (2 + t) (by omega)
    have r2 := zz3 (zf8 (cls s) s).2.1 (2 + t) (by omega)
    have l1 := zn2 (zf8 (cls s) s).1 (2 + t) (by omega)
    have l2 := zn2 (zf8 (cls s) s).2.1 (2 + t) (by omega)
    have l3 : (imsM (cls s) ims).length ≤ 2 := by
      unfold imsM
      split
      · exact hi
      · simp
    unfold zno at hN ⊢
    rw [← yc2 _ s hcl, ← yc3 _ s hcl] at hN ⊢
    refine Ev.step (fun k => by simp only [zdi, e2]; rfl) (Ev.bind r1 ?_)
    generalize imsM (cls s) ims = M at *
    generalize zo5 (zf8 (cls s) s).1 (2 + t) = A at *
    generalize zo5 (zf8 (cls s) s).2.1 (2 + t) = B at *
    generalize (zf8 (cls s) s) = F at *
    refine znh A _ 200 (fun k x j => zeq k t x s M os os.length i A A.length j os ims F.1 F.2.1 F.2.2.1 F.2.2.2.1 F.2.2.2.2.1 F.2.2.2.2.2.1) U (fun x hs => ?_) (fun j x5 a U' hj hxa hN' H' => ?_) x5 hN
    · refine Ev.step (fun k => ?_) (H x hs)
      simp only [zeq]
      rw [if_neg (by omega), w64n i (by omega)]
    refine Ev.step (fun k => by simp only [zeq, zli hxa, e2]; rfl) (zae (by omega) (zae (by omega) (zae (by omega) (Ev.bind r2 ?_))))
    refine znh B _ 200 (fun k x q => zer k t x s M a os os.length i A A.length j B B.length q os ims F.1 F.2.1 F.2.2.1 F.2.2.2.1 F.2.2.2.2.1 F.2.2.2.2.2.1) U' (fun x hs => ?_) (fun q x5 b U2 hq hxb hN2 H2 => ?_) x5 hN'
    · refine Ev.step (fun k => ?_) (H' x hs)
      simp only [zer]
      rw [if_neg (by omega), w64n j (by omega)]
    refine Ev.step (fun k => by simp only [zer, zli hxb]; rfl) (zae (by omega) (zae (by omega) (zae (by omega) ?_)))
    refine znh M _ 200 (fun k x p => zes k t x s M a b os os.length i A A.length j B B.length q M M.length p os ims F.1 F.2.1 F.2.2.1 F.2.2.2.1 F.2.2.2.2.1 F.2.2.2.2.2.1) U2 (fun x hs => ?_) (fun p x5 m U3 hp hxm hN3 H3 => ?_) x5 hN2
    · refine Ev.step (fun k => ?_) (H2 x hs)
      simp only [zes]
      rw [if_neg (by omega), w64n q (by omega)]
    have hlen : x5.length < 2932031007402 := by
      rw [List.length_append] at hN3
      omega
    have := H3 (x5 ++ [⟨s, ((2 + t : Nat) : Int), a, b, m⟩]) (by rw [List.append_assoc]; exact hN3)
    rw [List.append_assoc] at this
    refine Ev.step (fun k => ?_) this
    simp only [zes, zli hxm, e2]
    rw [if_pos (by omega), if_pos (by omega), if_pos (by omega), if_pos hlen, w64n p (by omega)]
  unfold imsM at body
  cases h : immC (cls s)
  · rw [h] at body
    exact zav (by decide) (by simpa using body)
  · rw [h] at body
    exact zae rfl (by simpa using body)
theorem zuq (os : List ByteArray) (ims : List Int) (t : Nat) (ho : os.length ≤ 4) (hi : ims.length ≤ 2) (ht : t ≤ 3) : Ev (fun k => zgh k os ims t) (zd8 os ims t) := by
  have e2 : wrap64 (2 + (t : Int)) = ((2 + t : Nat) : Int) := by rw [w64 (by omega) (by omega)]; omega
  unfold zgh zd8
  have hb := zsb os ims t ho hi ht
  unfold zd8 at hb
  refine zk6 (znh os (zno ims t) 200 (fun k x i => zd3 k t x os os.length i os ims) [] (fun s hs => ?_) (fun i x5 s U hio hx hN H => ?_) [] (by simpa using hb)) (by simp)
  · refine Ev.step (f := fun _ => some s) (fun k => ?_) (Ev.some (by simp))
    simp only [zd3]
    rw [if_neg (by omega)]
  refine Ev.step (fun k => by simp only [zd3, zlj (d0 := ByteArray.empty) hx]; rfl) (zae (by omega) (zae (by omega) (zae (by omega) (Ev.bind (zu8 s) ?_))))
  have r1 := zv8 (zgj (cls s)).2.1 t (by omega)
  have r2 := zv8 (zgj (cls s)).2.2.1 t (by omega)
  have r3 := zz4 os ims s
  have l1 := zn2 (zgj (cls s)).2.1 (2 + t) (by omega)
  have l2 := zn2 (zgj (cls s)).2.2.1 (2 + t) (by omega)
  have l3 : (imsM (cls s) ims).length ≤ 2 := by
    unfold imsM
    split
    · exact hi
    · simp
  unfold zno at hN ⊢
  refine Ev.bind r1 ?_
  generalize imsM (cls s) ims = M at *
  generalize zo5 (zgj (cls s)).2.1 (2 + t) = A at *
  generalize zo5 (zgj (cls s)).2.2.1 (2 + t) = B at *
  generalize (zgj (cls s)).2.2.1 = F at *
  refine znh A _ 200 (fun k x j => zdl k t x s F os os.length i A A.length j os ims) U (fun x hs => ?_) (fun j x5 a U' hj hxa hN' H' => ?_) x5 hN
  · refine Ev.step (fun k => ?_) (H x hs)
    simp only [zdl]
    rw [if_neg (by omega), w64n i (by omega)]
  refine Ev.step (fun k => by simp only [zdl, zli hxa]; rfl) (zae (by omega) (zae (by omega) (zae (by omega) (Ev.bind r2 ?_))))
  refine znh B _ 200 (fun k x q => zd7 k t x s F a os os.length i A A.length j B B.length q os ims) U' (fun x hs => ?_) (fun q x5 b U2 hq hxb hN2 H2 => ?_) x5 hN'
  · refine Ev.step (fun k => ?_) (H' x hs)
    simp only [zd7]
    rw [if_neg (by omega), w64n j (by omega)]
  refine Ev.step (fun k => by simp only [zd7, zli hxb]; rfl) (zae (by omega) (zae (by omega) (zae (by omega) (Ev.bind r3 ?_))))
  refine znh M _ 200 (fun k x p => zdm k t x s F a b os os.length i A A.length j B B.length q M M.length p os ims) U2 (fun x hs => ?_) (fun p x5 m U3 hp hxm hN3 H3 => ?_) x5 hN2
  · refine Ev.step (fun k => ?_) (H2 x hs)
    simp only [zdm]
    rw [if_neg (by omega), w64n q (by omega)]
  have hlen : x5.length < 2932031007402 := by
    rw [List.length_append] at hN3
    omega
  have := H3 (x5 ++ [⟨s, ((2 + t : Nat) : Int), a, b, m⟩]) (by rw [List.append_assoc]; exact hN3)
  rw [List.append_assoc] at this
  refine Ev.step (fun k => ?_) this
  simp only [zdm, zli hxm, e2]
  rw [if_pos (by omega), if_pos (by omega), if_pos (by omega), if_pos hlen, w64n p (by omega)]
theorem zof {os : List ByteArray} {ims : List Int} (h : zf0 os ims = true) : os.length ≤ 4 ∧ ims.length ≤ 2 ∧ ∀ s ∈ os, cls s ≠ 8 := by
  unfold zf0 at h
  simp only [Bool.and_eq_true, decide_eq_true_eq, List.all_eq_true (l := List.range os.length), List.mem_range, okOp] at h
  refine ⟨h.1.2, h.2.1, fun s hs => ?_⟩
  obtain ⟨i, hi, rfl⟩ := List.getElem_of_mem hs
  have := (h.2.2.2.2.2 i hi).1
  rw [zdv os i hi] at this
  exact this
theorem zvf (l : List Instr) (i : Nat) (h : i < l.length) : zac l i = l.getD i z69 := yb7 (fun d => (zdv l i h d).trans (zdv l i h _).symm)
theorem ybi (n : Int) : bits .and .i64 n 63 = n % 64 := by
  have h63 : (BitVec.ofInt 64 63).toNat = 2 ^ 6 - 1 := by decide
  have key : (BitVec.ofInt 64 n &&& BitVec.ofInt 64 63).toNat = (n % ((2 ^ 64 : Nat) : Int)).toNat % 2 ^ 6 := by
    rw [BitVec.toNat_and, BitVec.toNat_ofInt, h63, Nat.and_two_pow_sub_one_eq_mod]
  show IntKind.i64.wrap ((BitVec.ofInt 64 n &&& BitVec.ofInt 64 63).toNat : Nat) = n % 64
  rw [key, IntKind.wrap_i64]
  omega
def okV (v : Int) : Prop := 0 ≤ v ∧ v ≤ 63
theorem yc7 (n : Int) : okV (bits .and .i64 n 63) := by
  rw [ybi]
  unfold okV
  omega
theorem yev (b : Bool) : zl9 b = some (if b = true then 1 else 0) := by
  cases b <;> rfl
theorem zqz (s : ByteArray) (a b : Int) : zft s a b = zau s a b := by
  unfold zft zau
  simp only [yev, Option.bind_some]
  repeat refine ite_congr rfl (fun _ => rfl) (fun _ => ?_)
  refine ite_congr rfl (fun _ => ?_) (fun _ => ite_congr rfl (fun _ => ?_) (fun _ => rfl))
  · by_cases h : a < b
    · rw [if_pos h, if_pos (by simpa using h)]
    · rw [if_neg h, if_neg (by simpa using h)]
  · by_cases h : a = b
    · rw [if_pos h, if_pos (by simpa using h)]
    · rw [if_neg h, if_neg (by simpa using h)]
theorem yew {c : Prop} [Decidable c] {x y : Option Int} {P : Int → Prop} (hx : ∃ v, x = some v ∧ P v) (hy : ∃ v, y = some v ∧ P v) : ∃ v, (if c then x else y) = some v ∧ P v := by
  by_cases h : c
  · rw [if_pos h]; exact hx
  · rw [if_neg h]; exact hy
theorem zn3 (s : ByteArray) (a b : Int) (hb : 0 ≤ b) : ∃ v, zau s a b = some v ∧ okV v := by
  unfold zau
  rw [if_pos hb, if_pos hb]
  repeat' refine yew ?_ ?_
  all_goals exact ⟨_, rfl, yc7 _⟩
def okS (s : List Int) : Prop := s.length = 6 ∧ ∀ v ∈ s, okV v
theorem zx6 {s : List Int} (h : okS s) {i : Int} (h0 : 0 ≤ i) (h1 : i ≤ 5) : okV (rd s i) := by
  have hi : i.toNat < s.length := by rw [h.1]; omega
  unfold rd
  rw [zdv s _ hi]
  exact h.2 _ (List.getElem_mem hi)
theorem yc8 {s : List Int} (h : okS s) (i : Nat) {v : Int} (hv : okV v) : okS (s.set i v) := by
  refine ⟨by rw [List.length_set]; exact h.1, fun u hu => ?_⟩
  rcases List.mem_or_eq_of_mem_set hu with hu | rfl
  · exact h.2 u hu
  · exact hv
theorem zvg {x : Instr} (h : okI x) : 0 ≤ x.f1 ∧ x.f1 ≤ 5 ∧ 0 ≤ x.f2 ∧ x.f2 ≤ 5 ∧ 0 ≤ x.f3 ∧ x.f3 ≤ 5 ∧ 0 ≤ x.f4 ∧ x.f4 ≤ 63 := by
  obtain ⟨hc, h1, h2, h3, h4⟩ := h
  rcases zzp x.f0 with e | e | e | e | e | e | e | e | e <;> simp only [e, zgj] at h2 h3 h4 <;> simp at h2 h3 h4 <;> first | omega | exact absurd e hc
theorem ybj (x : Instr) (s : List Int) (h : okI x) (hs : okS s) : ∃ v, zfr x.f0 x.f1 x.f2 x.f3 x.f4 s = some v ∧ okV v := by
  obtain ⟨h1, h1', h2, h2', h3, h3', h4, h4'⟩ := zvg h
  have hl := hs.1
  have ha := zx6 hs h2 h2'
  have hb := zx6 hs h3 h3'
  unfold zfr
  rw [if_pos h2, if_pos (by omega), if_pos h3, if_pos (by omega)]
  have one : ∀ t a b, 0 ≤ b → ∃ v, ((zau t a b).bind fun v => some v) = some v ∧ okV v := fun t a b hb => by
    obtain ⟨v, e, hv⟩ := zn3 t a b hb
    exact ⟨v, by rw [e]; rfl, hv⟩
  by_cases qset : x.f0.toList = ([115, 101, 116] : List UInt8)
  · rw [if_pos qset]
    exact ⟨_, rfl, h4, h4'⟩
  rw [if_neg qset]
  by_cases qmov : x.f0.toList = ([109, 111, 118] : List UInt8)
  · rw [if_pos qmov]
    exact ⟨_, rfl, ha⟩
  rw [if_neg qmov]
  by_cases qaddi : x.f0.toList = ([97, 100, 100, 105] : List UInt8)
  · rw [if_pos qaddi]
    exact one _ _ _ h4
  rw [if_neg qaddi]
  by_cases qandi : x.f0.toList = ([97, 110, 100, 105] : List UInt8)
  · rw [if_pos qandi]
    exact one _ _ _ h4
  rw [if_neg qandi]
  by_cases qxori : x.f0.toList = ([120, 111, 114, 105] : List UInt8)
  · rw [if_pos qxori]
    exact one _ _ _ h4
  rw [if_neg qxori]
  by_cases qshli : x.f0.toList = ([115, 104, 108, 105] : List UInt8)
  · rw [if_pos qshli]
    exact one _ _ _ h4
  rw [if_neg qshli]
  by_cases qshri : x.f0.toList = ([115, 104, 114, 105] : List UInt8)
  · rw [if_pos qshri]
    exact one _ _ _ h4
  rw [if_neg qshri]
  by_cases qlea : x.f0.toList = ([108, 101, 97] : List UInt8)
  · rw [if_pos qlea]
    obtain ⟨v, e, hv⟩ := zn3 (⟨#[115, 104, 108]⟩ : ByteArray) (rd s x.f3) x.f4 h4
    obtain ⟨v', e', hv'⟩ := zn3 (⟨#[97, 100, 100]⟩ : ByteArray) (rd s x.f2) v hv.1
    exact ⟨v', by rw [e, Option.bind_some, e']; rfl, hv'⟩
  rw [if_neg qlea]
  exact one _ _ _ hb.1
def valM (x : Instr) (s : List Int) : Int := (zfr x.f0 x.f1 x.f2 x.f3 x.f4 s).getD 0
def zyx (s : List Int) (x : Instr) : List Int := s.set x.f1.toNat (valM x s)
theorem zvh (x : Instr) (s : List Int) (h : okI x) (hs : okS s) : zfr x.f0 x.f1 x.f2 x.f3 x.f4 s = some (valM x s) ∧ okV (valM x s) := by
  obtain ⟨v, e, hv⟩ := ybj x s h hs
  unfold valM
  rw [e]
  exact ⟨rfl, hv⟩
theorem zx7 (x : Instr) (s : List Int) (h : okI x) (hs : okS s) : okS (zyx s x) := yc8 hs _ (zvh x s h hs).2
theorem cut3 {s : ByteArray} {a b c d : UInt8} (h : s.toList = [a, b, c, d]) : (3 : Int) ≤ (s.size : Int) ∧ s.extract 0 3 = ⟨#[a, b, c]⟩ := by
  have e : s = ⟨#[a, b, c, d]⟩ := str_lit.1 h
  rw [e]
  exact ⟨by show (3 : Int) ≤ ((4 : Nat) : Int); decide, rfl⟩
theorem yc9 (x : Instr) (s : List Int) (h : okI x) (hs : okS s) : Ev (fun k => ze5 k x.f0 x.f1 x.f2 x.f3 x.f4 (rd s x.f2) (rd s x.f3)) (valM x s) := by
  obtain ⟨h1, h1', h2, h2', h3, h3', h4, h4'⟩ := zvg h
  have hl := hs.1
  have e := (zvh x s h hs).1
  generalize valM x s = v at e
  unfold zfr at e
  rw [if_pos h2, if_pos (by omega), if_pos h3, if_pos (by omega)] at e
  have bs : ∀ (o : Option Int) r, (o.bind fun v => some v) = some r → o = some r := fun o r h => by
    cases o with
    | none => cases h
    | some y => exact h
  unfold ze5
  by_cases q1 : x.f0.toList = [115, 101, 116]
  · rw [if_pos q1] at e
    exact zae q1 (zi9 e)
  refine zav q1 ?_
  rw [if_neg q1] at e
  by_cases q2 : x.f0.toList = [109, 111, 118]
  · rw [if_pos q2] at e
    exact zae q2 (zi9 e)
  refine zav q2 ?_
  rw [if_neg q2] at e
  by_cases q3 : x.f0.toList = [108, 101, 97]
  · refine zae q3 (zi9 ?_)
    rw [if_neg (by rw [q3]; decide), if_neg (by rw [q3]; decide), if_neg (by rw [q3]; decide), if_neg (by rw [q3]; decide), if_neg (by rw [q3]; decide), if_pos q3] at e
    simp only [zqz]
    exact e
  refine zav q3 ?_
  have imm : ∀ a b c d : UInt8, x.f0.toList = [a, b, c, d] → zau ⟨#[a, b, c]⟩ (rd s x.f2) x.f4 = some v → Ev (fun k => za7 k (rd s x.f2) (rd s x.f3) (x.f0.toList == ([a, b, c, d] : List UInt8)) x.f0 x.f1 x.f2 x.f3 x.f4) v := fun a b c d q hv => by
    obtain ⟨hc, hc'⟩ := cut3 q
    refine Ev.step (fun k => by simp only [za7]; rfl) (zae (by rw [q]; simp) (zae (by decide) (zae hc (zi9 ?_))))
    rw [zqz, hc', hv]
    rfl
  by_cases q4 : x.f0.toList = [97, 100, 100, 105]
  · rw [if_pos q4] at e
    exact zae q4 (imm _ _ _ _ q4 (bs _ _ e))
  refine zav q4 ?_
  rw [if_neg q4] at e
  by_cases q5 : x.f0.toList = [97, 110, 100, 105]
  · rw [if_pos q5] at e
    exact zae q5 (imm _ _ _ _ q5 (bs _ _ e))
  refine zav q5 ?_
  rw [if_neg q5] at e
  by_cases q6 : x.f0.toList = [120, 111, 114, 105]
  · rw [if_pos q6] at e
    exact zae q6 (imm _ _ _ _ q6 (bs _ _ e))
  refine zav q6 ?_
  rw [if_neg q6] at e
  by_cases q7 : x.f0.toList = [115, 104, 108, 105]
  · rw [if_pos q7] at e
    exact zae q7 (imm _ _ _ _ q7 (bs _ _ e))
  refine zav q7 ?_
  rw [if_neg q7] at e
  by_cases q8 : x.f0.toList = [115, 104, 114, 105]
  · rw [if_pos q8] at e
    exact imm _ _ _ _ q8 (bs _ _ e)
  rw [if_neg q8, if_neg q3] at e
  refine Ev.step (fun k => by simp only [za7]; rfl) (zav (by simpa using q8) (zi9 ?_))
  rw [zqz, bs _ _ e]
  rfl
def runM (l : List Instr) (s : List Int) : List Int := l.foldl zyx s
theorem zw9 (l : List Instr) (h : ∀ x ∈ l, okI x) : ∀ s, okS s → okS (runM l s) := by
  induction l with
  | nil => exact fun s hs => hs
  | cons x l ih => exact fun s hs => ih (fun y hy => h y (List.mem_cons_of_mem _ hy)) _ (zx7 x s (h x (List.mem_cons_self)) hs)
theorem yb9 (l : List Int) (h : l.length ≤ 1048576) : ziw l = some l := by
  unfold ziw
  rw [Option.bind_some, if_pos (by simp; omega)]
  rfl
theorem zz5 (x : Instr) (s : List Int) (h : okI x) (hs : okS s) : zl4 x.f0 x.f1 x.f2 x.f3 x.f4 s = some (zyx s x) := by
  obtain ⟨h1, h1', h2, h2', h3, h3', h4, h4'⟩ := zvg h
  have hq := hs.1
  unfold zl4
  rw [yb9 s (by omega), Option.bind_some, (zvh x s h hs).1, Option.bind_some, if_pos h1, if_pos (by omega)]
  rfl
theorem zx8 (l : List Instr) (hl : l.length ≤ 40) (h : ∀ x ∈ l, okI x) (s : List Int) (hs : okS s) : Ev (fun k => zgi k l s) (runM l s) := by
  unfold zgi
  refine Ev.call (yb9 s (by rw [hs.1]; decide)) ?_
  have key : ∀ (d i : Nat) (s : List Int), okS s → i + d = l.length → Ev (fun k => zea k s l l.length i) (runM (l.drop i) s) := by
    intro d
    induction d with
    | zero =>
      intro i s hs hi
      refine Ev.step (f := fun _ => some s) (fun k => ?_) (Ev.some ?_)
      · simp only [zea]
        rw [if_neg (by omega)]
      · rw [List.drop_of_length_le (by omega)]
        rfl
    | succ d ih =>
      intro i s hs hi
      have hlt : i < l.length := by omega
      have e : l.drop i = l[i] :: l.drop (i + 1) := List.drop_eq_getElem_cons hlt
      have hx := yb7 (zdv l i hlt)
      have ok := h l[i] (List.getElem_mem hlt)
      rw [e]
      refine Ev.step (fun k => ?_) (ih (i + 1) _ (zx7 _ s ok hs) (by omega))
      simp only [zea, hx]
      rw [if_pos (by omega), if_pos (by omega), if_pos (by omega), zz5 _ s ok hs, Option.bind_some, w64n i (by omega)]
  simpa using key l.length 0 s hs (by omega)
def st0 (a b : Int) : List Int := [a, b, 0, 0, 0, 0]
theorem zz6 {a b : Int} (ha : okV a) (hb : okV b) : okS (st0 a b) := by
  refine ⟨rfl, fun v hv => ?_⟩
  have hz : okV 0 := by unfold okV; decide
  simp only [st0, List.mem_cons, List.not_mem_nil, or_false] at hv
  rcases hv with rfl | rfl | rfl | rfl | rfl | rfl <;> assumption
def endM (l : List Instr) (a b : Int) : List Int := runM l (st0 a b)
theorem zur (a b : Int) : zku a b = some (st0 a b) := rfl
abbrev zN : Instr := z69
theorem zv9 : ∀ (n a : Nat) (x : Int), x ∈ zkj n a → (a : Int) ≤ x ∧ x < (a : Int) + n
  | 0, _, x, h => by simp [zkj] at h
  | n + 1, a, x, h => by
    unfold zkj at h
    rcases List.mem_cons.1 h with h | h
    · omega
    · have := zv9 n (a + 1) x h
      omega
theorem zx9 {u : Bool} {n : Nat} {x : Int} (h : x ∈ zo5 u n) (hn : 1 ≤ n) : (0 ≤ x ∧ x < (n : Int)) ∧ (u = true ∨ x = 0) := by
  unfold zo5 at h
  split at h
  · rename_i hu
    have := zv9 n 0 x h
    exact ⟨by omega, .inl hu⟩
  · rw [List.mem_singleton.1 h]
    exact ⟨by omega, .inr rfl⟩
theorem yex (c : Nat) (h : immC c = false) : (zgj c).2.2.2.1 ≤ 0 ∧ 0 ≤ (zgj c).2.2.2.2 := by
  unfold immC at h
  split at h
  · cases h
  · cases h
  · cases h
  · cases h
  · rename_i h0 h5 h6 h7
    unfold zgj
    split
    all_goals first | exact ⟨by decide, by decide⟩ | exact absurd rfl h0 | exact absurd rfl h5 | exact absurd rfl h6 | exact absurd rfl h7
def okPI (x : Instr) (t : Nat) : Prop := okI x ∧ x.f1 = ((2 + t : Nat) : Int) ∧ (0 ≤ x.f2 ∧ x.f2 < ((2 + t : Nat) : Int)) ∧ 0 ≤ x.f3 ∧ x.f3 < ((2 + t : Nat) : Int)
theorem yda {os : List ByteArray} {ims : List Int} {t : Nat} (ho : zf0 os ims = true) (ht : t ≤ 2) {x : Instr} (h : x ∈ zd8 os ims t) : okPI x t := by
  unfold zd8 at h
  obtain ⟨s, hs, h⟩ := List.mem_flatMap.1 h
  unfold zno at h
  obtain ⟨a, ha, h⟩ := List.mem_flatMap.1 h
  obtain ⟨b, hb, h⟩ := List.mem_flatMap.1 h
  obtain ⟨m, hm, h⟩ := List.mem_flatMap.1 h
  obtain rfl := List.mem_singleton.1 h
  obtain ⟨a1, a2⟩ := zx9 ha (by omega)
  obtain ⟨b1, b2⟩ := zx9 hb (by omega)
  have hop : okOp ims s = true := by
    unfold zf0 at ho
    simp only [Bool.and_eq_true, List.all_eq_true (l := List.range os.length), List.mem_range] at ho
    obtain ⟨i, hi, rfl⟩ := List.getElem_of_mem hs
    have := ho.2.2.2.2.2 i hi
    rw [zdv os i hi] at this
    exact this
  unfold okOp at hop
  rw [Bool.and_eq_true, decide_eq_true_eq] at hop
  refine ⟨⟨hop.1, ⟨by show (0 : Int) ≤ ((2 + t : Nat) : Int); omega, by show ((2 + t : Nat) : Int) ≤ 5; omega⟩, ?_, ?_, ?_⟩, rfl, a1, b1⟩
  · exact a2.elim (fun u => .inl ⟨u, a1.1, by show a ≤ 5; omega⟩) (fun z => .inr z)
  · exact b2.elim (fun u => .inl ⟨u, b1.1, by show b ≤ 5; omega⟩) (fun z => .inr z)
  · show (zgj (cls s)).2.2.2.1 ≤ m ∧ m ≤ (zgj (cls s)).2.2.2.2
    unfold imsM at hm
    by_cases hi : immC (cls s) = true
    · rw [if_pos hi] at hm
      have h2 := hop.2
      rw [hi, Bool.not_true, Bool.false_or, List.all_eq_true] at h2
      have := h2 m hm
      unfold inB at this
      exact of_decide_eq_true this
    · rw [if_neg hi] at hm
      rw [List.mem_singleton.1 hm]
      exact yex _ (Bool.eq_false_iff.2 hi)
def okP (l : List Instr) : Prop := l.length ≤ 3 ∧ ∀ i, i < l.length → okPI (l.getD i zN) i
theorem ztn {l : List Instr} (h : okP l) (x : Instr) (hx : x ∈ l) : okI x := by
  obtain ⟨i, hi, rfl⟩ := List.getElem_of_mem hx
  have := (h.2 i hi).1
  rwa [zdv l i hi] at this
theorem zya {l : List Instr} (h : okP l) (k : Nat) (x : Instr) (hx : x ∈ l.take k) : okI x := ztn h x (List.mem_of_mem_take hx)
theorem zwa (l : List Instr) (k : Nat) (h : k < l.length) : l.take (k + 1) = l.take k ++ [l.getD k zN] := by
  rw [List.take_succ_eq_append_getElem h, zdv l k h]
def atI (l : List Instr) (i : Nat) : List Int := endM l ((i / 64 : Nat) : Int) ((i % 64 : Nat) : Int)
theorem yca (l : List Instr) (h : ∀ x ∈ l, okI x) (i : Nat) (hi : i < 4096) : okS (atI l i) := zw9 l h _ (zz6 (by unfold okV; omega) (by unfold okV; omega))
theorem zyb (l : List Instr) (x : Instr) (i : Nat) : atI (l ++ [x]) i = zyx (atI l i) x := by
  unfold atI endM runM
  rw [List.foldl_append]
  rfl
def colN (l : List Instr) (r : Int) (n : Nat) : List Int := (List.range n).map fun i => rd (atI l i) r
theorem zvi (l : List Instr) (r : Int) (n : Nat) : (colN l r n).length = n := by simp [colN]
theorem zz7 (l : List Instr) (r : Int) (n i : Nat) (h : i < n) : rd (colN l r n) (i : Int) = rd (atI l i) r := zli (fun d => by simp [colN, List.getD, h])
theorem zz8 (s : List Int) (j : Nat) (v : Int) (r : Nat) (h : r ≠ j) : rd (s.set j v) (r : Int) = rd s (r : Int) := by
  unfold rd
  rw [Int.toNat_natCast, List.getD_eq_getElem?_getD, List.getD_eq_getElem?_getD, List.getElem?_set_ne (Ne.symm h)]
theorem zz9 (s : List Int) (j : Nat) (v : Int) (h : j < s.length) : rd (s.set j v) (j : Int) = v := by
  unfold rd
  rw [Int.toNat_natCast, List.getD_eq_getElem?_getD, List.getElem?_set_self h]
  rfl
theorem ybk {l : List Instr} (h : okP l) (k : Nat) (hk : k < l.length) (r n : Nat) (hr : r < 2 + k) : colN (l.take (k + 1)) r n = colN (l.take k) r n := by
  unfold colN
  refine List.map_congr_left fun i _ => ?_
  rw [zwa l k hk, zyb]
  unfold zyx
  rw [(h.2 k hk).2.1, Int.toNat_natCast, zz8 _ _ _ _ (by omega)]
theorem yaa {l : List Instr} (h : okP l) (k : Nat) (hk : k < l.length) (n : Nat) (hn : n ≤ 4096) : colN (l.take (k + 1)) ((2 + k : Nat) : Int) n = (List.range n).map fun i => valM (l.getD k zN) (atI (l.take k) i) := by
  unfold colN
  refine List.map_congr_left fun i hi => ?_
  have hi' := List.mem_range.1 hi
  rw [zwa l k hk, zyb]
  unfold zyx
  have hs := (yca (l.take k) (zya h k) i (by omega)).1
  have := h.1
  rw [(h.2 k hk).2.1, Int.toNat_natCast, zz9 _ _ _ (by omega)]
def cols (l : List Instr) (k : Nat) : List (List Int) := (List.range (2 + k)).map fun r : Nat => colN (l.take k) r 4096
theorem zq0 (l : List Instr) (k : Nat) : (cols l k).length = 2 + k := by simp [cols]
theorem zxa (l : List Instr) (k r : Nat) (h : r < 2 + k) : zie (cols l k) (r : Int) = colN (l.take k) r 4096 := by
  unfold zie cols
  rw [Int.toNat_natCast]
  simp [List.getD, h]
theorem yab {l : List Instr} (h : okP l) (k : Nat) (hk : k < l.length) : cols l (k + 1) = cols l k ++ [(List.range 4096).map fun i => valM (l.getD k zN) (atI (l.take k) i)] := by
  unfold cols
  rw [show 2 + (k + 1) = (2 + k) + 1 by omega, List.range_succ, List.map_append, List.map_singleton, yaa h k hk 4096 (Nat.le_refl _)]
  rw [List.map_congr_left (l := List.range (2 + k)) fun r hr => ybk h k hk r 4096 (List.mem_range.1 hr)]
theorem zwb {l : List Instr} (h : okP l) (k : Nat) (x : Instr) (hx : okPI x k) (hk : k ≤ l.length) (i : Nat) (hi : i < 4096) : Ev (fun q => zgw q x.f0 x.f1 x.f2 x.f3 x.f4 (cols l k) (i : Int)) (valM x (atI (l.take k) i)) := by
  obtain ⟨ho, h1, ⟨h2, h2'⟩, h3, h3'⟩ := hx
  have hs := yca (l.take k) (zya h k) i hi
  have hl := h.1
  obtain ⟨a, ha⟩ := Int.eq_ofNat_of_zero_le h2
  obtain ⟨b, hb⟩ := Int.eq_ofNat_of_zero_le h3
  have ca : zie (cols l k) x.f2 = colN (l.take k) x.f2 4096 := by rw [ha]; exact zxa l k a (by omega)
  have cb : zie (cols l k) x.f3 = colN (l.take k) x.f3 4096 := by rw [hb]; exact zxa l k b (by omega)
  have va := zx6 hs h2 (by omega)
  have vb := zx6 hs h3 (by omega)
  have hv := (zvh x _ ho hs).2
  unfold okV at va vb hv
  unfold zgw
  refine zae h2 (zae (by rw [zq0]; omega) (zae (by omega) (zae (by rw [ca, zvi]; omega) (zae h3 (zae (by rw [zq0]; omega) (zae (by rw [cb, zvi]; omega) ?_))))))
  rw [ca, cb, zz7 _ _ _ _ hi, zz7 _ _ _ _ hi, w64 (by omega) (by omega), w64 (by omega) (by omega)]
  refine Ev.bind (yc9 x _ ho hs) (Ev.some ?_)
  omega
theorem yac {l : List Instr} (h : okP l) (k : Nat) (x : Instr) (hx : okPI x k) (hk : k ≤ l.length) : Ev (fun q => zhw q x.f0 x.f1 x.f2 x.f3 x.f4 (cols l k)) ((List.range 4096).map fun i => valM x (atI (l.take k) i)) := by
  have key : ∀ (d i : Nat), i + d = 4096 → Ev (fun q => zdc q (cols l k) (((List.range i).map fun i => valM x (atI (l.take k) i)) ++ List.replicate d 0) 4096 i x.f0 x.f1 x.f2 x.f3 x.f4) ((List.range 4096).map fun i => valM x (atI (l.take k) i)) := by
    intro d
    induction d with
    | zero =>
      intro i hi
      obtain rfl : i = 4096 := by omega
      rw [List.replicate_zero, List.append_nil]
      refine Ev.step (f := fun _ => some ((List.range 4096).map fun i => valM x (atI (l.take k) i))) (fun q => ?_) (Ev.now _)
      simp only [zdc]
      rw [if_neg (by omega)]
    | succ d ih =>
      intro i hi
      have next := ih (i + 1) (by omega)
      rw [List.range_succ, List.map_append, List.map_singleton] at next
      have hlen : (i : Int) < ((((List.range i).map fun i => valM x (atI (l.take k) i)) ++ List.replicate (d + 1) 0).length : Int) := by
        rw [List.length_append, List.length_replicate, List.length_map, List.length_range]
        omega
      refine Ev.step (fun q => by simp only [zdc]; rfl) (zae (by omega) (Ev.bind (zwb h k x hx hk i (by omega)) ?_))
      refine zae (Int.natCast_nonneg i) (zae hlen ?_)
      have e := zo7 ((List.range i).map fun i => valM x (atI (l.take k) i)) (List.replicate d (0 : Int)) 0 (valM x (atI (l.take k) i))
      rw [List.length_replicate, List.length_map, List.length_range] at e
      rw [Int.toNat_natCast, e, w64n i (by omega)]
      exact next
  unfold zhw
  refine zae (by decide) (Ev.call rfl ?_)
  rw [List.length_replicate]
  exact key 4096 0 (by omega)
theorem zxb {l : List Instr} (h : okP l) (k : Nat) (x : Instr) (hx : okPI x k) (hk : k ≤ l.length) (g : List Int) (hg : g.length = 4096) : Ev (fun q => zgl q x.f0 x.f1 x.f2 x.f3 x.f4 (cols l k) g) ((List.range 4096).all fun i => decide (valM x (atI (l.take k) i) = rd g i)) := by
  have key : ∀ (d i : Nat), i + d = 4096 → Ev (fun q => zcw q (cols l k) g 4096 i x.f0 x.f1 x.f2 x.f3 x.f4) ((List.range' i d).all fun i => decide (valM x (atI (l.take k) i) = rd g i)) := by
    intro d
    induction d with
    | zero =>
      intro i hi
      refine Ev.step (f := fun _ => some true) (fun q => ?_) (Ev.now _)
      simp only [zcw]
      rw [if_neg (by omega)]
    | succ d ih =>
      intro i hi
      rw [List.range'_succ, List.all_cons]
      refine Ev.step (fun q => by simp only [zcw]; rfl) (zae (by omega) (zae (by omega) (zae (by omega) (Ev.bind (zwb h k x hx hk i (by omega)) ?_))))
      by_cases e : valM x (atI (l.take k) i) = rd g i
      · rw [decide_eq_true e, Bool.true_and]
        refine zae e ?_
        rw [w64n i (by omega)]
        exact ih (i + 1) (by omega)
      · rw [decide_eq_false e, Bool.false_and]
        exact zav e (Ev.now _)
  unfold zgl
  rw [hg]
  have := key 4096 0 (by omega)
  rw [← List.range_eq_range'] at this
  exact this
theorem zp4 (xs : List Int) (hl : xs.length ≤ 1048576) (hv : ∀ v ∈ xs, 0 ≤ v ∧ v ≤ 63) : Ev (fun q => zcp q xs) xs := by
  have key : ∀ (d i : Nat), i + d = xs.length → Ev (fun q => zco q (xs.take i ++ List.replicate d 0) xs xs.length i) xs := by
    intro d
    induction d with
    | zero =>
      intro i hi
      obtain rfl : i = xs.length := by omega
      rw [List.replicate_zero, List.append_nil, List.take_length]
      refine Ev.step (f := fun _ => some xs) (fun q => ?_) (Ev.now _)
      simp only [zco]
      rw [if_neg (by omega)]
    | succ d ih =>
      intro i hi
      have hlt : i < xs.length := by omega
      have next := ih (i + 1) (by omega)
      rw [List.take_succ_eq_append_getElem hlt] at next
      have hb := hv _ (List.getElem_mem hlt)
      refine Ev.step (fun q => by simp only [zco]; rfl) (zae (by omega) (zae (by omega) (zae (by omega) (zae (by rw [List.length_append, List.length_replicate, List.length_take]; omega) ?_))))
      have e := zo7 (xs.take i) (List.replicate d (0 : Int)) 0 xs[i]
      rw [List.length_replicate, List.length_take, Nat.min_eq_left (by omega)] at e
      rw [zli (zdv xs i hlt), show xs[i] % 256 = xs[i] by omega, Int.toNat_natCast, e, w64n i (by omega)]
      exact next
  unfold zcp
  refine zae (by omega) (zae (by rw [Int.toNat_natCast]; omega) ?_)
  rw [Int.toNat_natCast]
  have := key xs.length 0 (by omega)
  simpa using this
def tbN (g : Nat → Nat → Int) (n : Nat) : List Int := (List.range n).map fun i => g (i / 64) (i % 64)
theorem zvj (g : Nat → Nat → Int) (n : Nat) : (tbN g n).length = n := by simp [tbN]
theorem ybl (g : Nat → Nat → Int) (a b : Nat) (h : b < 64) : tbN g (64 * a + (b + 1)) = tbN g (64 * a + b) ++ [g a b] := by
  unfold tbN
  rw [← Nat.add_assoc, List.range_succ, List.map_append, List.map_singleton, show (64 * a + b) / 64 = a by omega, show (64 * a + b) % 64 = b by omega]
theorem zvk (g : Nat → Nat → Int) (L0 : Nat → List Int → Int → Option (List Int)) (L1 : Nat → List Int → Int → Int → Int → Option (List Int))
    (h0 : ∀ (a : Nat) xs T, a < 64 → Ev (fun k => L1 k xs a a 0) T → Ev (fun k => L0 k xs a) T) (he : ∀ xs, Ev (fun k => L0 k xs 64) xs)
    (h1 : ∀ (a b : Nat) xs T, a < 64 → b < 64 → xs.length ≤ 4096 → Ev (fun k => L1 k (xs ++ [g a b]) a a ((b + 1 : Nat) : Int)) T → Ev (fun k => L1 k xs a a b) T)
    (h2 : ∀ (a : Nat) xs T, a < 64 → Ev (fun k => L0 k xs ((a + 1 : Nat) : Int)) T → Ev (fun k => L1 k xs a a 64) T) : Ev (fun k => L0 k [] 0) (tbN g 4096) := by
  have row : ∀ (a : Nat), a < 64 → ∀ T, Ev (fun k => L0 k (tbN g (64 * (a + 1))) ((a + 1 : Nat) : Int)) T → ∀ (d b : Nat), b + d = 64 → Ev (fun k => L1 k (tbN g (64 * a + b)) a a b) T := by
    intro a ha T hT d
    induction d with
    | zero =>
      intro b hb
      obtain rfl : b = 64 := by omega
      refine h2 a _ T ha ?_
      rw [show 64 * a + 64 = 64 * (a + 1) by omega]
      exact hT
    | succ d ih =>
      intro b hb
      refine h1 a b _ T ha (by omega) (by rw [zvj]; omega) ?_
      rw [← ybl g a b (by omega)]
      exact ih (b + 1) (by omega)
  have key : ∀ (d a : Nat), a + d = 64 → Ev (fun k => L0 k (tbN g (64 * a)) a) (tbN g 4096) := by
    intro d
    induction d with
    | zero =>
      intro a ha
      obtain rfl : a = 64 := by omega
      exact he _
    | succ d ih =>
      intro a ha
      have := row a (by omega) _ (ih (a + 1) (by omega)) 64 0 (by omega)
      exact h0 a _ _ (by omega) this
  exact key 64 0 (by omega)
theorem yad : Ev (fun k => zcs k) (tbN (fun a _ => (a : Int)) 4096) := by
  unfold zcs
  refine zvk (fun a _ => (a : Int)) za0 za1 (fun a xs T ha h => ?_) (fun xs => ?_) (fun a b xs T ha hb hx h => ?_) (fun a xs T ha h => ?_)
  · exact Ev.step (fun k => by simp only [za0]; rfl) (zae (by omega) h)
  · refine Ev.step (f := fun _ => some xs) (fun k => ?_) (Ev.now _)
    simp only [za0]
    rw [if_neg (by omega)]
  · refine Ev.step (fun k => by simp only [za1]; rfl) (zae (by omega) (Ev.call rfl (zae (by omega) ?_)))
    rw [w64n b (by omega)]
    exact h
  · refine Ev.step (fun k => by simp only [za1]; rfl) (zav (by omega) ?_)
    rw [w64n a (by omega)]
    exact h
theorem yae : Ev (fun k => zbz k) (tbN (fun _ b => (b : Int)) 4096) := by
  unfold zbz
  refine zvk (fun _ b => (b : Int)) za2 za3 (fun a xs T ha h => ?_) (fun xs => ?_) (fun a b xs T ha hb hx h => ?_) (fun a xs T ha h => ?_)
  · exact Ev.step (fun k => by simp only [za2]; rfl) (zae (by omega) h)
  · refine Ev.step (f := fun _ => some xs) (fun k => ?_) (Ev.now _)
    simp only [za2]
    rw [if_neg (by omega)]
  · refine Ev.step (fun k => by simp only [za3]; rfl) (zae (by omega) (Ev.call rfl (zae (by omega) ?_)))
    rw [w64n b (by omega)]
    exact h
  · refine Ev.step (fun k => by simp only [za3]; rfl) (zav (by omega) ?_)
    rw [w64n a (by omega)]
    exact h
theorem ybm (l : List Instr) : Ev (fun k => zis k) (cols l 0) := by
  have bd : ∀ (g : Nat → Nat → Int), (∀ a b, a < 64 → b < 64 → 0 ≤ g a b ∧ g a b ≤ 63) → ∀ v ∈ tbN g 4096, 0 ≤ v ∧ v ≤ 63 := fun g hg v hv => by
    obtain ⟨i, hi, rfl⟩ := List.mem_map.1 hv
    have := List.mem_range.1 hi
    exact hg _ _ (by omega) (by omega)
  unfold zis
  refine Ev.bind yad (Ev.bind (zp4 _ (by rw [zvj]; decide) (bd _ (fun a b ha hb => by omega))) (Ev.bind yae (Ev.bind (zp4 _ (by rw [zvj]; decide) (bd _ (fun a b ha hb => by omega))) (Ev.some ?_))))
  rfl
end Go.Proofs.YtnaafcleafbejaaGreat.PL
end
section
namespace Go.Proofs.YtnaafcleafbejaaGreat.PL
open Go Go.RowKit Go.Proofs.YtnaafcleafbejaaGreatW.PrintWords Go.Proofs.YtnaafcleafbejaaGreatW.PrintLast Go.Proofs.YtnaafcleafbejaaGreatW.PrintMore Go.Proofs.YtnaafcleafbejaaGreat.Q
set_option linter.unusedSimpArgs false
set_option linter.unusedVariables false
def cntM (os : List ByteArray) (ims : List Int) : Nat → Nat
  | 0 => 1
  | n + 1 => cntM os ims n * (zd8 os ims n).length
theorem yaf (os : List ByteArray) (ims : List Int) (ho : os.length ≤ 4) (hi : ims.length ≤ 2) : ∀ n, n ≤ 3 → cntM os ims n ≤ 200 ^ n
  | 0, _ => Nat.le_refl _
  | n + 1, h => by
    have a := yaf os ims ho hi n (by omega)
    have b := zsb os ims n ho hi (by omega)
    unfold cntM
    rw [Nat.pow_succ]
    exact Nat.mul_le_mul a b
theorem zvl (os : List ByteArray) (ims : List Int) (ho : os.length ≤ 4) (hi : ims.length ≤ 2) (n : Nat) (h : n ≤ 3) : cntM os ims n ≤ 8000000 := by
  have := yaf os ims ho hi n h
  have : 200 ^ n ≤ 200 ^ 3 := Nat.pow_le_pow_right (by decide) h
  omega
theorem ybn (os : List ByteArray) (ims : List Int) (ho : os.length ≤ 4) (hi : ims.length ≤ 2) (i : Nat) (h : i < 3) : wrap64 ((cntM os ims i : Int) * ((zd8 os ims i).length : Int)) = (cntM os ims (i + 1) : Nat) := by
  have := zvl os ims ho hi (i + 1) (by omega)
  have e : (cntM os ims i : Int) * ((zd8 os ims i).length : Int) = (cntM os ims (i + 1) : Nat) := by rw [show cntM os ims (i + 1) = cntM os ims i * (zd8 os ims i).length from rfl, Int.natCast_mul]
  rw [e, w64 (by omega) (by omega)]
theorem zus (os : List ByteArray) (ims : List Int) (h : zf0 os ims = true) (n : Nat) (hn : n ≤ 3) : Ev (fun k => zg8 k os ims n) (cntM os ims n : Nat) := by
  obtain ⟨ho, hi, hc⟩ := zof h
  unfold zg8
  have key : ∀ (d i : Nat), i + d = n → Ev (fun k => zdn k n (cntM os ims i : Nat) i os ims) (cntM os ims n : Nat) := by
    intro d
    induction d with
    | zero =>
      intro i hi'
      have e : i = n := by omega
      subst e
      refine Ev.step (f := fun _ => some _) (fun k => ?_) (Ev.now _)
      simp only [zdn]
      rw [if_neg (by omega)]
    | succ d ih =>
      intro i hi'
      refine Ev.step (fun k => by simp only [zdn]; rfl) (zae (by omega) (Ev.bind (zuq os ims i ho hi (by omega)) ?_))
      rw [ybn os ims ho hi i (by omega), w64n i (by omega)]
      exact ih (i + 1) (by omega)
  exact key n 0 (by omega)
def zyy (os : List ByteArray) (ims : List Int) : Nat → Int → List Instr → List Instr
  | 0, _, acc => acc
  | d + 1, a, acc => zyy os ims d (Int.tdiv a ((zd8 os ims d).length : Int)) (acc.set d (zac (zd8 os ims d) (Int.tmod a ((zd8 os ims d).length : Int))))
theorem zyc {os : List ByteArray} {ims : List Int} : ∀ {n i : Nat}, 0 < cntM os ims n → i < n → 0 < (zd8 os ims i).length
  | 0, i, _, hi => by omega
  | n + 1, i, h, hi => by
    unfold cntM at h
    have h1 : 0 < cntM os ims n := Nat.pos_of_ne_zero fun e => by rw [e, Nat.zero_mul] at h; omega
    have h2 : 0 < (zd8 os ims n).length := Nat.pos_of_ne_zero fun e => by rw [e, Nat.mul_zero] at h; omega
    by_cases e : i = n
    · rw [e]; exact h2
    · exact zyc h1 (by omega)
theorem ybo (a : Int) (n : Nat) (h0 : 0 ≤ a) (h1 : a ≤ 8000000) (hn : 0 < n) : 0 ≤ Int.tmod a (n : Int) ∧ Int.tmod a (n : Int) < (n : Int) ∧ 0 ≤ Int.tdiv a (n : Int) ∧ Int.tdiv a (n : Int) ≤ 8000000 := by
  rw [Int.tmod_eq_emod_of_nonneg h0, Int.tdiv_eq_ediv_of_nonneg h0]
  have := Int.emod_nonneg a (show (n : Int) ≠ 0 by omega)
  have := Int.emod_lt_of_pos a (show (0 : Int) < n by omega)
  have := Int.ediv_nonneg h0 (show (0 : Int) ≤ n by omega)
  have := Int.ediv_le_self (n : Int) h0
  omega
theorem yag (os : List ByteArray) (ims : List Int) (h : zf0 os ims = true) (n : Nat) (hn : n ≤ 3) (a : Int) (h0 : 0 ≤ a) (h1 : a < (cntM os ims n : Nat)) : Ev (fun k => zg2 k os ims n a) (zyy os ims n a (List.replicate n zN)) := by
  obtain ⟨ho', hi', hc⟩ := zof h
  have hle := zvl os ims ho' hi' n hn
  have hpos : 0 < cntM os ims n := by omega
  unfold zg2
  refine zae (by omega) (zae (by omega) ?_)
  have key : ∀ (d : Nat) (b : Int) (acc : List Instr), d ≤ n → acc.length = n → 0 ≤ b → b ≤ 8000000 → Ev (fun k => zct k b acc ((d : Int) - 1) os ims) (zyy os ims d b acc) := by
    intro d
    induction d with
    | zero =>
      intro b acc hd hacc hb0 hb1
      refine Ev.step (f := fun _ => some acc) (fun k => ?_) (Ev.now _)
      simp only [zct]
      rw [if_neg (by omega)]
    | succ d ih =>
      intro b acc hd hacc hb0 hb1
      have hp := zyc hpos (show d < n by omega)
      obtain ⟨f1, f2, f3, f4⟩ := ybo b _ hb0 hb1 hp
      rw [show ((d + 1 : Nat) : Int) - 1 = (d : Int) by omega]
      refine Ev.step (fun k => by simp only [zct]; rfl) (zae (by omega) (Ev.bind (zuq os ims d ho' hi' (by omega)) ?_))
      refine zav (by omega) (zae f1 (zae f2 (zae (by omega) (zae (by omega) ?_))))
      rw [w64 (by omega) (by omega), w64 (by omega) (by omega), Int.toNat_natCast]
      exact ih _ _ (by omega) (by rw [List.length_set]; exact hacc) f3 f4
  have := key n a (List.replicate n zN) (Nat.le_refl _) List.length_replicate h0 (by omega)
  rw [w64 (by omega) (by omega), Int.toNat_natCast]
  exact this
section
variable (os : List ByteArray) (ims : List Int)
def wthN : Nat → Nat → List Instr
  | 0, _ => []
  | n + 1, a => wthN n (a / (zd8 os ims n).length) ++ [(zd8 os ims n).getD (a % (zd8 os ims n).length) zN]
theorem zyd : ∀ n a, (wthN os ims n a).length = n
  | 0, _ => rfl
  | n + 1, a => by unfold wthN; rw [List.length_append, zyd n]; rfl
theorem zwc : ∀ (d : Nat) (a : Nat) (acc : List Instr), d ≤ acc.length → zyy os ims d (a : Int) acc = wthN os ims d a ++ acc.drop d
  | 0, _, _, _ => rfl
  | d + 1, a, acc, h => by
    have e1 : Int.tdiv (a : Int) ((zd8 os ims d).length : Int) = ((a / (zd8 os ims d).length : Nat) : Int) := by
      rw [Int.tdiv_eq_ediv_of_nonneg (by omega)]
      exact (Int.natCast_ediv _ _).symm
    have e2 : Int.tmod (a : Int) ((zd8 os ims d).length : Int) = ((a % (zd8 os ims d).length : Nat) : Int) := by
      rw [Int.tmod_eq_emod_of_nonneg (by omega)]
      exact (Int.natCast_emod _ _).symm
    unfold zyy wthN
    rw [e1, e2, zwc d _ _ (by rw [List.length_set]; omega), List.append_assoc]
    congr 1
    rw [List.drop_eq_getElem_cons (by rw [List.length_set]; omega), List.getElem_set_self, List.drop_set_of_lt (by omega)]
    unfold zac
    rw [Int.toNat_natCast]
    rfl
theorem yah (n a : Nat) : zyy os ims n (a : Int) (List.replicate n zN) = wthN os ims n a := by
  rw [zwc os ims n a _ (by simp)]
  simp
def zlk : Nat → List Instr → List (List Instr)
  | 0, p => [p]
  | d + 1, p => (zd8 os ims p.length).flatMap fun x => zlk d (p ++ [x])
theorem zut : ∀ (d : Nat) (p : List Instr), zlk os ims (d + 1) p = (zlk os ims d p).flatMap fun q => (zd8 os ims q.length).map fun x => q ++ [x]
  | 0, p => by
    have e : zlk os ims 1 p = (zd8 os ims p.length).flatMap fun x => [p ++ [x]] := rfl
    rw [e]
    show _ = List.flatMap _ [p]
    rw [List.flatMap_cons, List.flatMap_nil, List.append_nil]
    induction zd8 os ims p.length with
    | nil => rfl
    | cons x xs ih => rw [List.flatMap_cons, List.map_cons, ih]; rfl
  | d + 1, p => by
    have e : zlk os ims (d + 1 + 1) p = (zd8 os ims p.length).flatMap fun x => zlk os ims (d + 1) (p ++ [x]) := rfl
    have e' : zlk os ims (d + 1) p = (zd8 os ims p.length).flatMap fun x => zlk os ims d (p ++ [x]) := rfl
    rw [e, e', List.flatMap_assoc]
    congr 1
    funext x
    exact zut d (p ++ [x])
theorem zwd {α : Type} (f : Nat → α) (L : Nat) : ∀ m, (List.range (m * L)).map f = (List.range m).flatMap fun q => (List.range L).map fun r => f (q * L + r)
  | 0 => by simp
  | m + 1 => by
    rw [Nat.succ_mul, List.range_add, List.map_append, zwd f L m, List.range_succ, List.flatMap_append, List.flatMap_singleton, List.map_map]
    rfl
theorem zt8 {α β : Type} (S : List α) (z : α) (f : α → β) : (List.range S.length).map (fun r => f (S.getD r z)) = S.map f := by
  apply List.ext_getElem
  · simp
  · intro i h1 h2
    simp only [List.length_map, List.length_range] at h1 h2
    simp [List.getD, h2]
theorem zxc : ∀ n, (List.range (cntM os ims n)).map (wthN os ims n) = zlk os ims n []
  | 0 => rfl
  | n + 1 => by
    rw [zut, ← zxc n, List.flatMap_map]
    show (List.range (cntM os ims n * (zd8 os ims n).length)).map _ = _
    rw [zwd]
    congr 1
    funext q
    rw [zyd, ← zt8 (zd8 os ims n) zN]
    refine List.map_congr_left fun r hr => ?_
    have hr' := List.mem_range.1 hr
    have hpos : 0 < (zd8 os ims n).length := by omega
    show wthN os ims n ((q * (zd8 os ims n).length + r) / (zd8 os ims n).length) ++ [(zd8 os ims n).getD ((q * (zd8 os ims n).length + r) % (zd8 os ims n).length) zN] = _
    rw [Nat.mul_comm q, Nat.mul_add_div hpos, Nat.div_eq_of_lt hr', Nat.add_zero, Nat.mul_add_mod, Nat.mod_eq_of_lt hr']
theorem zxd (n : Nat) : (zlk os ims n []).length = cntM os ims n := by rw [← zxc]; simp
theorem ybp (n a : Nat) (h : a < cntM os ims n) : (zlk os ims n [])[a]? = some (wthN os ims n a) := by rw [← zxc]; simp [h]
theorem zye (ho : zf0 os ims = true) {p : List Instr} (h : okP p) (hp : p.length ≤ 2) {x : Instr} (hx : x ∈ zd8 os ims p.length) : okP (p ++ [x]) := by
  refine ⟨by rw [List.length_append, List.length_singleton]; omega, fun i hi => ?_⟩
  rw [List.length_append, List.length_singleton] at hi
  by_cases q : i < p.length
  · have := h.2 i q
    rwa [show (p ++ [x]).getD i zN = p.getD i zN by simp [List.getD, List.getElem?_append_left q]]
  · obtain rfl : i = p.length := by omega
    rw [show (p ++ [x]).getD p.length zN = x by simp [List.getD]]
    exact yda ho hp hx
theorem zxe : okP [] := ⟨by simp, fun i hi => by simp at hi⟩
theorem zvm (ho : zf0 os ims = true) : ∀ (d : Nat) (p l : List Instr), p.length + d ≤ 3 → okP p → l ∈ zlk os ims d p → okP l
  | 0, p, l, _, h, hl => by
    obtain rfl := List.mem_singleton.1 hl
    exact h
  | d + 1, p, l, hd, h, hl => by
    unfold zlk at hl
    obtain ⟨x, hx, hl⟩ := List.mem_flatMap.1 hl
    exact zvm ho d (p ++ [x]) l (by rw [List.length_append, List.length_singleton]; omega) (zye os ims ho h (by omega) hx) hl
end
end Go.Proofs.YtnaafcleafbejaaGreat.PL
end
section
namespace Go.Proofs.YtnaafcleafbejaaGreat.PL
open Go Go.RowKit Go.Proofs.YtnaafcleafbejaaGreatW.PrintWords Go.Proofs.YtnaafcleafbejaaGreatW.PrintLast Go.Proofs.YtnaafcleafbejaaGreatW.PrintMore Go.Proofs.YtnaafcleafbejaaGreat.Q
set_option linter.unusedSimpArgs false
set_option linter.unusedVariables false
def zmt (l : List Instr) : Int := if l.length = 0 then 0 else ((1 + l.length : Nat) : Int)
theorem ycb {l : List Instr} (h : okP l) : l.length ≤ 40 := by have := h.1; omega
theorem zyf {l : List Instr} (h : okP l) : 0 ≤ zmt l ∧ zmt l ≤ 5 := by
  have := h.1
  unfold zmt
  split <;> omega
theorem yai {l : List Instr} (h : okP l) : zj4 l = some (zmt l) := by
  have := h.1
  unfold zj4 zmt
  by_cases h0 : l.length = 0
  · rw [if_pos (by omega), if_pos h0]
  · rw [if_neg (by omega), if_neg h0, w64 (by omega) (by omega)]
    rfl
end Go.Proofs.YtnaafcleafbejaaGreat.PL
end
section
namespace Go.Proofs.YtnaafcleafbejaaGreat.PL
open Go Go.RowKit Go.Proofs.YtnaafcleafbejaaGreatW.PrintWords Go.Proofs.YtnaafcleafbejaaGreatW.PrintLast Go.Proofs.YtnaafcleafbejaaGreatW.PrintMore Go.Proofs.YtnaafcleafbejaaGreat.Q
set_option linter.unusedSimpArgs false
set_option linter.unusedVariables false
theorem zxf {s : ByteArray} (h : zo4 s ∨ zpj s) (a b : Int) : zau s a b = zau s a 0 := by
  unfold zo4 zpj at h
  unfold zau
  by_cases q : s.toList = ([110, 111, 116] : List UInt8)
  · rw [if_pos q, if_pos q]
  · have q2 := h.resolve_left q
    rw [if_neg q, if_neg q, if_pos q2, if_pos q2]
def apV (s : ByteArray) (a b : Int) : Int := (zau s a b).getD 0
theorem zyg (s : ByteArray) (a b : Int) (hb : 0 ≤ b) : zau s a b = some (apV s a b) := by
  obtain ⟨v, e, _⟩ := zn3 s a b hb
  unfold apV
  rw [e]
  rfl
theorem ycc (s : ByteArray) (a b : Int) (hb : 0 ≤ b) : okV (apV s a b) := by
  obtain ⟨v, e, h⟩ := zn3 s a b hb
  unfold apV
  rw [e]
  exact h
def ndV (x : Node) (a b : Int) (out : List Int) : Int := match kN x.f0 with
  | 0 => if x.f3 = 0 then a else b
  | 1 => x.f3
  | 2 => apV x.f0 (rd out x.f1) 0
  | _ => apV x.f0 (rd out x.f1) (rd out x.f2)
section
variable {x : Node} {a b : Int} {o : List Int}
theorem ydb (e : kN x.f0 = 0) : ndV x a b o = if x.f3 = 0 then a else b := by unfold ndV; rw [e]; rfl
theorem ydc (e : kN x.f0 = 1) : ndV x a b o = x.f3 := by unfold ndV; rw [e]; rfl
theorem ydd (e : kN x.f0 = 2) : ndV x a b o = apV x.f0 (rd o x.f1) 0 := by unfold ndV; rw [e]; rfl
theorem yde (e : kN x.f0 = 3) : ndV x a b o = apV x.f0 (rd o x.f1) (rd o x.f2) := by unfold ndV; rw [e]; rfl
end
def vlL (a b : Int) (l : List Node) : List Int := l.foldl (fun out x => out ++ [ndV x a b out]) []
theorem zvn (a b : Int) (l : List Node) (i : Nat) (h : i < l.length) : vlL a b (l.take (i + 1)) = vlL a b (l.take i) ++ [ndV l[i] a b (vlL a b (l.take i))] := by
  unfold vlL
  rw [List.take_succ_eq_append_getElem h, List.foldl_append]
  rfl
theorem zto (a b : Int) (l : List Node) : (vlL a b l).length = l.length := by
  have key : ∀ (l : List Node) (o : List Int), (l.foldl (fun out x => out ++ [ndV x a b out]) o).length = o.length + l.length := by
    intro l
    induction l with
    | nil => intro o; rfl
    | cons x l ih =>
      intro o
      rw [List.foldl_cons, ih]
      simp only [List.length_append, List.length_cons, List.length_nil]
      omega
  unfold vlL
  rw [key]
  simp
theorem ydf (xs ys : List Int) (p : Int) (h0 : 0 ≤ p) (h1 : p < xs.length) : rd (xs ++ ys) p = rd xs p := by
  unfold rd
  rw [List.getD_eq_getElem?_getD, List.getD_eq_getElem?_getD, List.getElem?_append_left (by omega)]
theorem zxg {x : Node} {i : Int} (h : okNx x i = true) : (kN x.f0 = 0 ∧ isIn x.f0 ∧ x.f1 = 0 ∧ x.f2 = 0 ∧ 0 ≤ x.f3 ∧ x.f3 ≤ 1) ∨ (kN x.f0 = 1 ∧ ¬ isIn x.f0 ∧ zgp x.f0 ∧ 0 ≤ x.f3 ∧ x.f3 ≤ 63) ∨
    (kN x.f0 = 2 ∧ ¬ isIn x.f0 ∧ ¬ zgp x.f0 ∧ (zo4 x.f0 ∨ zpj x.f0) ∧ 0 ≤ x.f1 ∧ x.f1 ≤ i - 1 ∧ x.f2 = 0) ∨ (kN x.f0 = 3 ∧ ¬ isIn x.f0 ∧ ¬ zgp x.f0 ∧ ¬ (zo4 x.f0 ∨ zpj x.f0) ∧ 0 ≤ x.f1 ∧ x.f1 ≤ i - 1 ∧ 0 ≤ x.f2 ∧ x.f2 ≤ i - 1) := by
  unfold okNx kN at h
  unfold kN
  by_cases h0 : isIn x.f0
  · rw [if_pos h0] at h
    have := of_decide_eq_true h
    exact .inl ⟨if_pos h0, h0, this.1, this.2.1, this.2.2.1, this.2.2.2⟩
  · rw [if_neg h0] at h
    by_cases h1 : zgp x.f0
    · rw [if_pos h1] at h
      have := of_decide_eq_true h
      exact .inr (.inl ⟨by rw [if_neg h0, if_pos h1], h0, h1, this.2.2.1, this.2.2.2⟩)
    · rw [if_neg h1] at h
      by_cases h2 : zo4 x.f0 ∨ zpj x.f0
      · rw [if_pos h2] at h
        have := of_decide_eq_true h
        exact .inr (.inr (.inl ⟨by rw [if_neg h0, if_neg h1, if_pos h2], h0, h1, h2, this.1.1, this.1.2, this.2.1⟩))
      · rw [if_neg h2] at h
        by_cases h3 : hasS bops x.f0 = true
        · rw [if_pos h3] at h
          have := of_decide_eq_true h
          exact .inr (.inr (.inr ⟨by rw [if_neg h0, if_neg h1, if_neg h2, if_pos h3], h0, h1, h2, this.1.1, this.1.2, this.2.1.1, this.2.1.2⟩))
        · rw [if_neg h3] at h
          cases h
theorem yey {x : Node} {i : Nat} (h : okNx x i = true) {a b : Int} (ha : okV a) (hb : okV b) {o : List Int} (ho : ∀ v ∈ o, okV v) : okV (ndV x a b o) := by
  have hrd : ∀ p : Int, okV (rd o p) := fun p => by
    unfold rd
    rw [List.getD_eq_getElem?_getD]
    cases e : o[p.toNat]? with
    | none => simp; unfold okV; omega
    | some v => exact ho v (List.mem_of_getElem? e)
  rcases zxg h with ⟨e, _, _, _, h3⟩ | ⟨e, _, _, h3⟩ | ⟨e, _⟩ | ⟨e, _⟩
  · rw [ydb e]
    split
    · exact ha
    · exact hb
  · rw [ydc e]
    exact h3
  · rw [ydd e]
    exact ycc _ _ _ (Int.le_refl 0)
  · rw [yde e]
    exact ycc _ _ _ (hrd _).1
theorem zwe {l : List Node} (ok : okNs 0 l = true) {a b : Int} (ha : okV a) (hb : okV b) : ∀ i, i ≤ l.length → ∀ v ∈ vlL a b (l.take i), okV v
  | 0, _, v, h => by simp [vlL] at h
  | i + 1, hi, v, h => by
    rw [zvn a b l i (by omega)] at h
    rcases List.mem_append.1 h with h | h
    · exact zwe ok ha hb i (by omega) v h
    · rw [List.mem_singleton.1 h]
      have hx := zo8 l 0 i (by omega) ok
      rw [Nat.zero_add] at hx
      exact yey hx ha hb (zwe ok ha hb i (by omega))
section
variable (l : List Node) (ok : okNs 0 l = true) (hl : l.length ≤ 1000) (a b : Int) (ha : okV a) (hb : okV b)
include ok hl ha hb
theorem yaj : Ev (fun k => zgy k l a b) (vlL a b l) := by
  have key : ∀ (d i : Nat), i + d = l.length → Ev (fun k => zb0 k a b (vlL a b (l.take i) ++ List.replicate d 0) l l.length i) (vlL a b l) := by
    intro d
    induction d with
    | zero =>
      intro i hi
      refine Ev.step (f := fun _ => some (vlL a b l)) (fun k => ?_) (Ev.now _)
      simp only [zb0]
      rw [if_neg (by omega), List.take_of_length_le (by omega), List.replicate_zero, List.append_nil]
    | succ d ih =>
      intro i hi
      have hlt : i < l.length := by omega
      have next := ih (i + 1) (by omega)
      have hx := zuo (zdv l i hlt)
      have hok := zo8 l 0 i hlt ok
      rw [Nat.zero_add] at hok
      have hv := zwe ok ha hb i (by omega)
      have hlen : (vlL a b (l.take i)).length = i := by rw [zto, List.length_take]; omega
      rw [zvn a b l i hlt] at next
      obtain ⟨xs, hxs⟩ : ∃ xs, xs = vlL a b (l.take i) := ⟨_, rfl⟩
      rw [← hxs] at next hlen hv ⊢
      have hi7 : (i : Int) < ((xs ++ List.replicate (d + 1) (0 : Int)).length : Int) := by rw [List.length_append, List.length_replicate]; omega
      have e := fun v => zo7 xs (List.replicate d (0 : Int)) 0 v
      rw [List.length_replicate, hlen] at e
      have rdx : ∀ p : Int, 0 ≤ p → p ≤ (i : Int) - 1 → rd (xs ++ List.replicate (d + 1) 0) p = rd xs p := fun p h0 h1 => ydf _ _ p h0 (by omega)
      have hrd : ∀ p : Int, 0 ≤ rd xs p := fun p => by
        unfold rd
        rw [List.getD_eq_getElem?_getD]
        cases q : xs[p.toNat]? with
        | none => simp
        | some v => exact (hv v (List.mem_of_getElem? q)).1
      have hle : ((xs ++ List.replicate (d + 1) (0 : Int)).length : Int) = (i : Int) + (d + 1) := by rw [List.length_append, List.length_replicate]; omega
      refine Ev.step (fun k => by simp only [zb0]; rfl) (zae (by omega) (zae (by omega) (zae (by omega) ?_)))
      rw [hx]
      obtain ⟨x, hxx⟩ : ∃ x, x = l[i] := ⟨_, rfl⟩
      rw [← hxx] at next hok ⊢
      rcases zxg hok with ⟨c, h0, _, _, h3, h3'⟩ | ⟨c, h0, h1, _⟩ | ⟨c, h0, h1, h2, g1, g1', g2⟩ | ⟨c, h0, h1, h2, g1, g1', g2, g2'⟩
      · rw [ydb c] at next
        refine zae h0 (Ev.call rfl (zae h3 (zae (by show x.f3 < ((2 : Nat) : Int); omega) (zae hi7 ?_))))
        rw [Int.toNat_natCast, e, w64n i (by omega)]
        have : rd [a, b] x.f3 = if x.f3 = 0 then a else b := by
          rcases (show x.f3 = 0 ∨ x.f3 = 1 by omega) with q | q <;> rw [q] <;> rfl
        rw [this]
        exact next
      · rw [ydc c] at next
        refine zav h0 (zae h1 (zae hi7 ?_))
        rw [Int.toNat_natCast, e, w64n i (by omega)]
        exact next
      · rw [ydd c] at next
        refine zav h0 (zav h1 (zae g1 (zae (by omega) (zae (by omega) (zae (by omega) ?_)))))
        rw [rdx _ g1 g1', zqz, zxf h2]
        refine Ev.call (zyg _ _ _ (Int.le_refl 0)) (zae hi7 ?_)
        rw [Int.toNat_natCast, e, w64n i (by omega)]
        exact next
      · rw [yde c] at next
        refine zav h0 (zav h1 (zae g1 (zae (by omega) (zae g2 (zae (by omega) ?_)))))
        rw [rdx _ g1 g1', rdx _ g2 g2', zqz]
        refine Ev.call (zyg _ _ _ (hrd _)) (zae hi7 ?_)
        rw [Int.toNat_natCast, e, w64n i (by omega)]
        exact next
  unfold zgy
  refine zae (by omega) (zae (by omega) ?_)
  rw [Int.toNat_natCast]
  exact key l.length 0 (by omega)
theorem zxh : Ev (fun k => zfv k l a b) (vlL a b l) := by
  have key : ∀ (d i : Nat), i + d = l.length → Ev (fun k => zaz k a b (vlL a b (l.take i)) l l.length i) (vlL a b l) := by
    intro d
    induction d with
    | zero =>
      intro i hi
      refine Ev.step (f := fun _ => some (vlL a b l)) (fun k => ?_) (Ev.now _)
      simp only [zaz]
      rw [if_neg (by omega), List.take_of_length_le (by omega)]
    | succ d ih =>
      intro i hi
      have hlt : i < l.length := by omega
      have next := ih (i + 1) (by omega)
      have hx := zuo (zdv l i hlt)
      have hok := zo8 l 0 i hlt ok
      rw [Nat.zero_add] at hok
      have hv := zwe ok ha hb i (by omega)
      have hlen : (vlL a b (l.take i)).length = i := by rw [zto, List.length_take]; omega
      rw [zvn a b l i hlt] at next
      obtain ⟨xs, hxs⟩ : ∃ xs, xs = vlL a b (l.take i) := ⟨_, rfl⟩
      rw [← hxs] at next hlen hv ⊢
      have hrd : ∀ p : Int, 0 ≤ rd xs p := fun p => by
        unfold rd
        rw [List.getD_eq_getElem?_getD]
        cases q : xs[p.toNat]? with
        | none => simp
        | some v => exact (hv v (List.mem_of_getElem? q)).1
      have hcap : xs.length < 17592186044416 := by omega
      refine Ev.step (fun k => by simp only [zaz]; rfl) (zae (by omega) (zae (by omega) (zae (by omega) ?_)))
      rw [hx, w64n i (by omega)]
      obtain ⟨x, hxx⟩ : ∃ x, x = l[i] := ⟨_, rfl⟩
      rw [← hxx] at next hok ⊢
      have one := zva x.f0
      rcases zxg hok with ⟨c, h0, _, _, h3, h3'⟩ | ⟨c, h0, h1, _⟩ | ⟨c, h0, h1, h2, g1, g1', g2⟩ | ⟨c, h0, h1, h2, g1, g1', g2, g2'⟩
      · rw [ydb c] at next
        have h1 : ¬ zgp x.f0 := fun q => by
          unfold zgp at q
          unfold isIn at h0
          rw [h0] at q
          cases q
        refine zav h1 (zae h0 (Ev.step (fun k => by simp only [zd0]; rfl) ?_))
        by_cases q : x.f3 = 0
        · rw [if_pos q] at next
          exact zae (by rw [q]; rfl) (zae hcap (by rw [w64n i (by omega)]; exact next))
        · rw [if_neg q] at next
          exact zav (by rw [beq_iff_eq]; exact q) (zae h0 (zae hcap (by rw [w64n i (by omega)]; exact next)))
      · rw [ydc c] at next
        exact zae h1 (zae hcap next)
      · rw [ydd c] at next
        refine zav h1 (zav h0 (Ev.step (fun k => by simp only [zd0]; rfl) (zav (by decide) (zav h0 (Ev.call one ?_)))))
        refine zae (decide_eq_true h2) (zae g1 (zae (by omega) ?_))
        refine Ev.call (zyg _ _ _ (Int.le_refl 0)) (zae hcap ?_)
        rw [w64n i (by omega)]
        exact next
      · rw [yde c] at next
        refine zav h1 (zav h0 (Ev.step (fun k => by simp only [zd0]; rfl) (zav (by decide) (zav h0 (Ev.call one ?_)))))
        refine zav (by rw [decide_eq_false h2]; decide) (zae g1 (zae (by omega) (zae g2 (zae (by omega) ?_))))
        refine Ev.call (zyg _ _ _ (hrd _)) (zae hcap ?_)
        rw [w64n i (by omega)]
        exact next
  unfold zfv
  exact key l.length 0 (by omega)
end
def evE (l : List Node) (a b : Int) : Int := rd (vlL a b l) ((l.length - 1 : Nat) : Int)
section
variable (l : List Node) (ok : okNs 0 l = true) (h0 : 0 < l.length) (hl : l.length ≤ 1000) (a b : Int) (ha : okV a) (hb : okV b)
include ok h0 hl ha hb
theorem ydg : Ev (fun k => zhx k l a b) (evE l a b) := by
  unfold zhx evE
  have e : wrap64 ((l.length : Int) - 1) = ((l.length - 1 : Nat) : Int) := by rw [w64 (by omega) (by omega)]; omega
  rw [e]
  exact Ev.bind (yaj l ok hl a b ha hb) (zae (by omega) (zae (by rw [zto]; omega) (Ev.now _)))
theorem ydh : Ev (fun k => zfo k l a b) (evE l a b) := by
  unfold zfo evE
  have e : wrap64 ((l.length : Int) - 1) = ((l.length - 1 : Nat) : Int) := by rw [w64 (by omega) (by omega)]; omega
  rw [e]
  exact Ev.bind (zxh l ok hl a b ha hb) (zae (by omega) (zae (by rw [zto]; omega) (Ev.now _)))
theorem yez : okV (evE l a b) := by
  unfold evE
  have h := zwe ok ha hb l.length (Nat.le_refl _)
  rw [List.take_length] at h
  unfold rd
  rw [List.getD_eq_getElem?_getD, Int.toNat_natCast, List.getElem?_eq_getElem (by rw [zto]; omega)]
  exact h _ (List.getElem_mem _)
end
end Go.Proofs.YtnaafcleafbejaaGreat.PL
end
section
namespace Go.Proofs.YtnaafcleafbejaaGreat.PL
open Go Go.RowKit Go.Proofs.YtnaafcleafbejaaGreatW.PrintWords Go.Proofs.YtnaafcleafbejaaGreatW.PrintLast Go.Proofs.YtnaafcleafbejaaGreatW.PrintMore Go.Proofs.YtnaafcleafbejaaGreat.Q
set_option linter.unusedSimpArgs false
set_option linter.unusedVariables false
def allF (ok : Nat → Bool) (n i : Nat) : Bool := (List.range' i (n - i)).all ok
theorem ybq (ok : Nat → Bool) (n : Nat) : allF ok n n = true := by unfold allF; rw [Nat.sub_self]; rfl
theorem yak (ok : Nat → Bool) (n i : Nat) (h : i < n) : allF ok n i = (ok i && allF ok n (i + 1)) := by
  unfold allF
  rw [show n - i = (n - (i + 1)) + 1 by omega, List.range'_succ, List.all_cons]
theorem zyh (ok : Nat → Bool) (n : Nat) : allF ok n 0 = true ↔ ∀ i, i < n → ok i = true := by
  unfold allF
  rw [List.all_eq_true, Nat.sub_zero]
  constructor
  · intro h i hi
    exact h i (List.mem_range'_1.2 ⟨Nat.zero_le _, by omega⟩)
  · intro h i hi
    have := List.mem_range'_1.1 hi
    exact h i (by omega)
def okAt (e : List Node) (l : List Instr) (i : Nat) : Bool := decide (rd (atI l i) (zmt l) = evE e ((i / 64 : Nat) : Int) ((i % 64 : Nat) : Int))
def reachB (e : List Node) (l : List Instr) : Bool := allF (okAt e l) 4096 0
def tabE (e : List Node) (n : Nat) : List Int := tbN (fun a b => evE e (a : Int) (b : Int)) n
theorem zuu (e : List Node) (l : List Instr) : colN l (zmt l) 4096 = tabE e 4096 ↔ reachB e l = true := by
  have key : ∀ n, colN l (zmt l) n = tabE e n ↔ ∀ i, i < n → okAt e l i = true := fun n => by
    unfold colN tabE tbN okAt
    rw [List.map_inj_left]
    constructor
    · intro h i hi
      exact decide_eq_true (h i (List.mem_range.2 hi))
    · intro h i hi
      exact of_decide_eq_true (h i (List.mem_range.1 hi))
  unfold reachB
  rw [key, zyh]
theorem yal (xs ys : List Int) (hx : xs.length ≤ 1048576) : Ev (fun k => ze3 k xs ys) (decide (xs = ys)) := by
  unfold ze3
  by_cases hl : xs.length = ys.length
  · refine zae (by omega) ?_
    have key : ∀ (d i : Nat), i + d = xs.length → Ev (fun k => zb6 k xs ys xs.length i) (decide (xs.drop i = ys.drop i)) := by
      intro d
      induction d with
      | zero =>
        intro i hi
        refine Ev.step (f := fun _ => some (decide (xs.drop i = ys.drop i))) (fun k => ?_) (Ev.now _)
        simp only [zb6]
        rw [if_neg (by omega), List.drop_of_length_le (by omega), List.drop_of_length_le (by omega)]
        simp
      | succ d ih =>
        intro i hi
        have h1 : i < xs.length := by omega
        have h2 : i < ys.length := by omega
        refine Ev.step (fun k => by simp only [zb6]; rfl) (zae (by omega) (zae (by omega) (zae (by omega) (zae (by omega) ?_))))
        rw [zli (zdv xs i h1), zli (zdv ys i h2), w64n i (by omega)]
        have e1 := List.drop_eq_getElem_cons h1
        have e2 := List.drop_eq_getElem_cons h2
        by_cases q : xs[i] = ys[i]
        · refine zae q (zk6 (ih (i + 1) (by omega)) ?_)
          rw [e1, e2, q]
          simp only [List.cons.injEq, true_and]
        · refine zav q (Ev.some ?_)
          rw [e1, e2]
          exact (decide_eq_false (fun e => q (List.cons.inj e).1)).symm
    have := key xs.length 0 (by omega)
    simpa using this
  · refine zav (by omega) (Ev.some ?_)
    rw [decide_eq_false (fun e => hl (by rw [e]))]
section
variable (e : List Node) (ok : okNs 0 e = true) (h0 : 0 < e.length) (hl : e.length ≤ 1000)
include ok h0 hl
theorem zyi (a b : Nat) (ha : a < 64) (hb : b < 64) : Ev (fun k => zhx k e a b) (evE e (a : Int) (b : Int)) ∧ Ev (fun k => zfo k e a b) (evE e (a : Int) (b : Int)) ∧ okV (evE e (a : Int) (b : Int)) :=
  have oa : okV (a : Int) := by unfold okV; omega
  have ob : okV (b : Int) := by unfold okV; omega
  ⟨ydg e ok h0 hl _ _ oa ob, ydh e ok h0 hl _ _ oa ob, yez e ok h0 hl _ _ oa ob⟩
theorem zyz : Ev (fun k => zg7 k e) (tabE e 4096) := by
  have one : ∀ a b : Nat, a < 64 → b < 64 → Ev (fun k => zf7 k a b [e]) (evE e (a : Int) (b : Int)) := fun a b ha hb => by
    unfold zf7
    refine zae (by simp) ?_
    exact Ev.bind (zyi e ok h0 hl a b ha hb).1 (Ev.now _)
  unfold zg7
  refine Ev.bind ?_ (Ev.now _)
  unfold zc9 tabE
  refine zvk (fun a b => evE e (a : Int) (b : Int)) (fun k xs i => zas k xs i [e]) (fun k xs a c b => zat k xs a c b [e]) (fun a xs T ha h => ?_) (fun xs => ?_) (fun a b xs T ha hb hx h => ?_) (fun a xs T ha h => ?_)
  · exact Ev.step (fun k => by simp only [zas]; rfl) (zae (by omega) h)
  · refine Ev.step (f := fun _ => some xs) (fun k => ?_) (Ev.now _)
    simp only [zas]
    rw [if_neg (by omega)]
  · refine Ev.step (fun k => by simp only [zat]; rfl) (zae (by omega) (Ev.bind (one a b ha hb) ?_))
    refine zae (by omega) ?_
    rw [w64n b (by omega)]
    exact h
  · refine Ev.step (fun k => by simp only [zat]; rfl) (zav (by omega) ?_)
    rw [w64n a (by omega)]
    exact h
omit ok h0 hl in
theorem zyj (n : Nat) : (tabE e n).length = n := zvj _ n
theorem ydi : ∀ v ∈ tabE e 4096, 0 ≤ v ∧ v ≤ 63 := by
  have key : ∀ n, n ≤ 4096 → ∀ v ∈ tabE e n, 0 ≤ v ∧ v ≤ 63 := fun n hn v hv => by
    unfold tabE tbN at hv
    obtain ⟨i, hi, rfl⟩ := List.mem_map.1 hv
    have := List.mem_range.1 hi
    exact (zyi e ok h0 hl (i / 64) (i % 64) (by omega) (by omega)).2.2
  exact key 4096 (Nat.le_refl _)
theorem ydj : Ev (fun k => zcp k (tabE e 4096)) (tabE e 4096) := zp4 _ (by rw [zyj e]; decide) (ydi e ok h0 hl)
variable {l : List Instr} (h : okP l)
include h
omit ok h0 hl h in
theorem at_ab (a b : Nat) (hb : b < 64) : atI l (64 * a + b) = runM l (st0 a b) := by
  unfold atI endM
  rw [show (64 * a + b) / 64 = a by omega, show (64 * a + b) % 64 = b by omega]
omit ok h0 hl h in
theorem yam (a b : Nat) (hb : b < 64) : okAt e l (64 * a + b) = decide (rd (runM l (st0 a b)) (zmt l) = evE e (a : Int) (b : Int)) := by
  unfold okAt
  rw [at_ab (l := l) a b hb, show (64 * a + b) / 64 = a by omega, show (64 * a + b) % 64 = b by omega]
theorem ztp : ∃ t, Ev (fun k => ze4 k e l (zmt l)) t ∧ t.2.2 = !reachB e l := by
  have hr := zyf h
  have key : ∀ (d a : Nat), a + d = 64 → ∃ t, Ev (fun k => zb7 k e l (zmt l) a) t ∧ t.2.2 = !allF (okAt e l) 4096 (64 * a) := by
    intro d
    induction d with
    | zero =>
      intro a ha
      obtain rfl : a = 64 := by omega
      refine ⟨(0, 0, false), Ev.step (f := fun _ => some (0, 0, false)) (fun k => ?_) (Ev.now _), ?_⟩
      · simp only [zb7]
        rw [if_neg (by omega)]
      · rw [show 64 * 64 = 4096 by decide, ybq]
        rfl
    | succ d ih =>
      intro a ha
      have next := ih (a + 1) (by omega)
      have row : ∀ (q b : Nat), b + q = 64 → ∃ t, Ev (fun k => za9 k e l (zmt l) a b) t ∧ t.2.2 = !allF (okAt e l) 4096 (64 * a + b) := by
        intro q
        induction q with
        | zero =>
          intro b hb
          obtain rfl : b = 64 := by omega
          obtain ⟨t, ht, ht'⟩ := next
          refine ⟨t, Ev.step (fun k => by simp only [za9]; rfl) (zav (by omega) ?_), ?_⟩
          · rw [w64n a (by omega)]
            exact ht
          · rw [ht', show 64 * (a + 1) = 64 * a + 64 by omega]
        | succ q ih2 =>
          intro b hb
          have hs := zz6 (a := (a : Int)) (b := (b : Int)) (by unfold okV; omega) (by unfold okV; omega)
          have hk := (zw9 l (ztn h) _ hs).1
          have ho := yam e (l := l) a b (by omega)
          rw [yak _ _ _ (by omega), ho]
          have pre : ∀ t, Ev (fun k => if rd (runM l (st0 a b)) (zmt l) = evE e (a : Int) (b : Int) then za9 k e l (zmt l) a (wrap64 ((b : Int) + 1)) else some ((a : Int), (b : Int), true)) t → Ev (fun k => za9 k e l (zmt l) a b) t := fun t ht => by
            refine Ev.step (fun k => by simp only [za9]; rfl) (zae (by omega) (Ev.call (zur _ _) (Ev.bind (zx8 l (ycb h) (ztn h) _ hs) ?_)))
            refine zae hr.1 ?_
            refine zae (by omega) ?_
            exact Ev.bind (zyi e ok h0 hl a b (by omega) (by omega)).2.1 ht
          by_cases q2 : rd (runM l (st0 a b)) (zmt l) = evE e (a : Int) (b : Int)
          · obtain ⟨t, ht, ht'⟩ := ih2 (b + 1) (by omega)
            refine ⟨t, pre t (zae q2 ?_), ?_⟩
            · rw [w64n b (by omega)]
              exact ht
            · rw [ht', decide_eq_true q2, Bool.true_and, Nat.add_assoc]
          · refine ⟨_, pre _ (zav q2 (Ev.now _)), ?_⟩
            rw [decide_eq_false q2, Bool.false_and]
            rfl
      obtain ⟨t, ht, ht'⟩ := row 64 0 (by omega)
      refine ⟨t, Ev.step (fun k => by simp only [zb7]; rfl) (zae (by omega) ht), ?_⟩
      rw [ht', Nat.add_zero]
  unfold ze4
  exact key 64 0 (by omega)
theorem zwf : Ev (fun k => zc7 k e l) (reachB e l) := by
  have hr := zyf h
  obtain ⟨t, ht, ht'⟩ := ztp e ok h0 hl h
  have step : ∀ (Y : List (List Int)) (i a b : Nat), Y.length = 4 → i < 4 → a < 64 → b < 64 → zex Y (i : Int) = [(a : Int), (b : Int)] → Ev (fun k => za5 k e l (zmt l) Y 4 ((i + 1 : Nat) : Int)) (reachB e l) → Ev (fun k => za5 k e l (zmt l) Y 4 (i : Int)) (reachB e l) := by
    intro Y i a b hY hi ha hb hrow next
    have hs := zz6 (a := (a : Int)) (b := (b : Int)) (by unfold okV; omega) (by unfold okV; omega)
    have hk := (zw9 l (ztn h) _ hs).1
    refine Ev.step (fun k => by simp only [za5]; rfl) (zae (by omega) (zae (by omega) (zae (by omega) ?_)))
    rw [hrow]
    refine zae (by simp) (zae (by simp) ?_)
    rw [show rd [(a : Int), (b : Int)] 0 = (a : Int) from rfl, show rd [(a : Int), (b : Int)] 1 = (b : Int) from rfl]
    refine Ev.call (zur _ _) (Ev.bind (zx8 l (ycb h) (ztn h) _ hs) ?_)
    refine zae hr.1 ?_
    refine zae (by omega) ?_
    refine Ev.bind (zyi e ok h0 hl a b ha hb).2.1 ?_
    by_cases q2 : rd (runM l (st0 a b)) (zmt l) = evE e (a : Int) (b : Int)
    · refine zae q2 ?_
      rw [w64n i (by omega)]
      exact next
    · refine zav q2 (Ev.some ?_)
      cases hB : reachB e l
      · rfl
      · unfold reachB at hB
        have := (zyh _ _).1 hB (64 * a + b) (by omega)
        rw [yam e (l := l) a b hb, decide_eq_false q2] at this
        cases this
  unfold zc7
  refine Ev.call (yai h) (Ev.call rfl ?_)
  refine step _ 0 37 22 rfl (by decide) (by decide) (by decide) rfl ?_
  refine step _ 1 5 63 rfl (by decide) (by decide) (by decide) rfl ?_
  refine step _ 2 62 3 rfl (by decide) (by decide) (by decide) rfl ?_
  refine step _ 3 1 1 rfl (by decide) (by decide) (by decide) rfl ?_
  refine Ev.step (fun k => by simp only [za5]; rfl) (zav (by decide) (Ev.bind ht (Ev.some ?_)))
  rw [ht', Bool.not_not]
end
end Go.Proofs.YtnaafcleafbejaaGreat.PL
end
section
namespace Go.Proofs.YtnaafcleafbejaaGreat.PL
open Go Go.RowKit Go.Proofs.YtnaafcleafbejaaGreatW.PrintWords Go.Proofs.YtnaafcleafbejaaGreatW.PrintLast Go.Proofs.YtnaafcleafbejaaGreatW.PrintMore Go.Proofs.YtnaafcleafbejaaGreat.Q
set_option linter.unusedSimpArgs false
set_option linter.unusedVariables false
section
variable {σ α β : Type}
def fuL (h : α → σ → Bool × σ) : List α → σ → Bool × σ
  | [], s => (true, s)
  | x :: xs, s => if (h x s).1 = true then fuL h xs (h x s).2 else (false, (h x s).2)
theorem ydk (h : α → σ → Bool × σ) (x : α) (s : σ) : fuL h [x] s = h x s := by
  simp only [fuL]
  obtain ⟨b, t⟩ := h x s
  cases b <;> rfl
theorem zuv (h : α → σ → Bool × σ) : ∀ (xs ys : List α) (s : σ), fuL h (xs ++ ys) s = if (fuL h xs s).1 = true then fuL h ys (fuL h xs s).2 else (false, (fuL h xs s).2)
  | [], ys, s => by simp [fuL]
  | x :: xs, ys, s => by
    rw [List.cons_append]
    by_cases q : (h x s).1 = true
    · have e1 : ∀ zs, fuL h (x :: zs) s = fuL h zs (h x s).2 := fun zs => by simp only [fuL]; exact if_pos q
      rw [e1, e1]
      exact zuv h xs ys _
    · have e1 : ∀ zs, fuL h (x :: zs) s = (false, (h x s).2) := fun zs => by simp only [fuL]; exact if_neg q
      rw [e1, e1]
      rfl
theorem zyk (h : β → σ → Bool × σ) (f : α → List β) : ∀ (xs : List α) (s : σ), fuL h (xs.flatMap f) s = fuL (fun x s => fuL h (f x) s) xs s
  | [], s => rfl
  | x :: xs, s => by
    rw [List.flatMap_cons, zuv]
    simp only [fuL]
    by_cases q : (fuL h (f x) s).1 = true
    · rw [if_pos q, if_pos q, zyk h f xs]
    · rw [if_neg q, if_neg q]
theorem ycd (g : Nat → Instr → σ → Option (Bool × σ)) (h : Instr → σ → Bool × σ) (I : σ → Prop) : ∀ (xs : List Instr), (∀ x ∈ xs, ∀ s, I s → Ev (fun k => g k x s) (h x s) ∧ I (h x s).2) → ∀ s, I s → Ev (fun k => pgL (g k) xs s) (fuL h xs s) ∧ I (fuL h xs s).2
  | [], _, s, hs => ⟨Ev.now _, hs⟩
  | x :: xs, hx, s, hs => by
    obtain ⟨h1, h2⟩ := hx x (List.mem_cons_self ..) s hs
    obtain ⟨h3, h4⟩ := ycd g h I xs (fun y hy => hx y (List.mem_cons_of_mem _ hy)) _ h2
    show Ev (fun k => (g k x s).bind fun r => if r.1 = true then pgL (g k) xs r.2 else some (false, r.2)) _ ∧ _
    simp only [fuL]
    by_cases q : (h x s).1 = true
    · rw [if_pos q]
      exact ⟨Ev.bind h1 (zae q h3), h4⟩
    · rw [if_neg q]
      exact ⟨Ev.bind h1 (zav q (Ev.now _)), h2⟩
theorem yce (k : Nat) (lists : List (List Instr)) (n : Int) (st : List Instr → List (List Int) → σ → Option (Bool × σ)) : ∀ d code cs s, LeO (pgM k lists n st d code cs s) (pgM k lists n st (d + 1) code cs s)
  | 0, _, _, _ => LeO.none _
  | d + 1, code, cs, s => zee (LeO.refl _) (zee (zu5 _ _ (fun x s => LeO.bind (LeO.refl _) (fun nx => yce k lists n st d _ nx s)) _ s) (LeO.refl _))
theorem ycf (k : Nat) (lists : List (List Instr)) (n : Int) (st : List Instr → List (List Int) → σ → Option (Bool × σ)) (d : Nat) (code : List Instr) (cs : List (List Int)) (s : σ) (r : Bool × σ) (h : pgM k lists n st d code cs s = some r) : ∀ e, pgM k lists n st (d + e) code cs s = some r
  | 0 => h
  | e + 1 => yce k lists n st (d + e) code cs s r (ycf k lists n st d code cs s r h e)
theorem ybr {lists : List (List Instr)} {n : Int} {st : Nat → List Instr → List (List Int) → σ → Option (Bool × σ)} {D : Nat} {code : List Instr} {cs : List (List Int)} {s : σ} {r : Bool × σ} (h : Ev (fun k => pgM k lists n (st k) D code cs s) r) : Ev (fun k => pgM k lists n (st k) k code cs s) r := by
  obtain ⟨K, hK⟩ := h
  refine ⟨max K D, fun k hk => ?_⟩
  have := ycf k lists n (st k) D code cs s r (hK k (by omega)) (k - D)
  rwa [show D + (k - D) = k by omega] at this
end
section
variable {σ : Type} (os : List ByteArray) (ims : List Int) (ho : zf0 os ims = true) (n : Nat) (hn : n ≤ 3) (st : Nat → List Instr → List (List Int) → σ → Option (Bool × σ)) (step : List Instr → σ → Bool × σ) (I : σ → Prop)
  (hst : ∀ l, okP l → l.length = n → ∀ s, I s → Ev (fun k => st k l (cols l (n - 1)) s) (step l s) ∧ I (step l s).2)
include ho hn hst
theorem ye0 : ∀ (d : Nat) (p : List Instr), okP p → p.length + d = n → ∀ s, I s → Ev (fun k => pgM k ((List.range n).map (zd8 os ims)) (n : Int) (st k) (d + 1) p (cols p (min p.length (n - 1))) s) (fuL step (zlk os ims d p) s) ∧ I (fuL step (zlk os ims d p) s).2 := by
  intro d
  induction d with
  | zero =>
    intro p hp hl s hs
    obtain ⟨h1, h2⟩ := hst p hp (by omega) s hs
    rw [show zlk os ims 0 p = [p] from rfl, ydk, Nat.min_eq_right (by omega)]
    refine ⟨?_, h2⟩
    show Ev (fun k => if (p.length : Int) = (n : Int) then st k p (cols p (n - 1)) s else _) _
    exact zae (by omega) h1
  | succ d ih =>
    intro p hp hl s hs
    have eL : ((List.range n).map (zd8 os ims)).getD p.length [] = zd8 os ims p.length := by
      simp [List.getD, List.getElem?_range (show p.length < n by omega)]
    rw [Nat.min_eq_left (show p.length ≤ n - 1 by omega), show zlk os ims (d + 1) p = (zd8 os ims p.length).flatMap fun x => zlk os ims d (p ++ [x]) from rfl, zyk]
    have key := ycd (fun k x s => (zqd k (n : Int) p.length (cols p p.length) x).bind fun nx => pgM k ((List.range n).map (zd8 os ims)) (n : Int) (st k) (d + 1) (p ++ [x]) nx s) (fun x s => fuL step (zlk os ims d (p ++ [x])) s) I (zd8 os ims p.length) (fun x hx s hs => ?_) s hs
    · refine ⟨?_, key.2⟩
      show Ev (fun k => if (p.length : Int) = (n : Int) then st k p (cols p p.length) s else if p.length < ((List.range n).map (zd8 os ims)).length ∧ (cols p p.length).length < 1048576 ∧ p.length < 1048576 then pgL (fun x s => (zqd k (n : Int) p.length (cols p p.length) x).bind fun nx => pgM k ((List.range n).map (zd8 os ims)) (n : Int) (st k) (d + 1) (p ++ [x]) nx s) (((List.range n).map (zd8 os ims)).getD p.length []) s else none) _
      rw [eL]
      exact zav (by omega) (zae ⟨by rw [List.length_map, List.length_range]; omega, by rw [zq0]; omega, by omega⟩ key.1)
    · have hq := zye os ims ho hp (by omega) hx
      have hql : (p ++ [x]).length = p.length + 1 := by rw [List.length_append, List.length_singleton]
      have hk : p.length < (p ++ [x]).length := by omega
      have ex : (p ++ [x]).getD p.length zN = x := by simp [List.getD]
      have ecols : cols (p ++ [x]) p.length = cols p p.length := by
        unfold cols
        rw [List.take_left, List.take_length]
      have next := ih (p ++ [x]) hq (by omega) s hs
      refine ⟨?_, next.2⟩
      unfold zqd
      by_cases q : p.length + 1 < n
      · have hw := yac hq p.length x (by have := hq.2 p.length hk; rwa [ex] at this) (by omega)
        have hcs := yab hq p.length hk
        rw [ex, ecols] at hcs
        rw [ecols] at hw
        refine Ev.bind (zae (by rw [w64 (by omega) (by omega)]; omega) (Ev.bind hw (Ev.now _))) ?_
        rw [hql, Nat.min_eq_left (by omega), hcs] at next
        exact next.1
      · refine Ev.bind (zav (by rw [w64 (by omega) (by omega)]; omega) (Ev.now _)) ?_
        rw [hql, Nat.min_eq_right (by omega), show n - 1 = p.length by omega, ecols] at next
        exact next.1
omit hst in
theorem ydl : ∀ (m i : Nat), i + m = n → Ev (fun k => pgGo k os ims m ((List.range i).map (zd8 os ims))) ((List.range n).map (zd8 os ims)) := by
  obtain ⟨ho', hi', hc⟩ := zof ho
  intro m
  induction m with
  | zero =>
    intro i hi
    obtain rfl : i = n := by omega
    exact Ev.now _
  | succ m ih =>
    intro i hi
    have next := ih (i + 1) (by omega)
    rw [List.range_succ, List.map_append, List.map_singleton] at next
    show Ev (fun k => if ((List.range i).map (zd8 os ims)).length < 1048576 then (zhn k os ims (((List.range i).map (zd8 os ims)).length : Int)).bind fun xs => pgGo k os ims m ((List.range i).map (zd8 os ims) ++ [xs]) else none) _
    rw [List.length_map, List.length_range]
    exact zae (by omega) (Ev.bind (ybh os ims i ho' hi' (by omega) hc) next)
theorem ye1 (s : σ) (hs : I s) : Ev (fun k => pgP k os ims (n : Int) (st k) s) (fuL step (zlk os ims n []) s) ∧ I (fuL step (zlk os ims n []) s).2 := by
  have h := ye0 os ims ho n hn st step I hst n [] zxe (by simp) s hs
  refine ⟨?_, h.2⟩
  have h1 := h.1
  rw [List.length_nil, Nat.min_eq_left (Nat.zero_le _)] at h1
  unfold pgP
  have hg := ydl os ims ho n hn n 0 (by omega)
  rw [Int.toNat_natCast]
  exact Ev.bind hg (Ev.bind (ybm []) (zae (by rw [zq0]; omega) (ybr h1)))
end
theorem ydm (e : List Node) {l : List Instr} (h : okP l) (n : Nat) (hn : l.length = n) : Ev (fun k => rcIs k (n : Int) (tabE e 4096) l (cols l (n - 1))) (reachB e l) := by
  have h3 := h.1
  unfold rcIs
  by_cases q : n = 0
  · subst q
    obtain rfl := List.eq_nil_of_length_eq_zero hn
    refine zae rfl (zae (by rw [zq0]; omega) ?_)
    have e1 : (cols [] (0 - 1)).getD 0 [] = colN [] (zmt []) 4096 := by
      have := zxa [] 0 0 (by omega)
      exact this
    rw [e1]
    refine zk6 (yal _ _ (by rw [zvi]; decide)) ?_
    have := zuu e ([] : List Instr)
    cases hB : reachB e []
    · exact decide_eq_false (fun q => by have := this.1 q; rw [hB] at this; cases this)
    · exact decide_eq_true (this.2 hB)
  · obtain ⟨m, rfl⟩ : ∃ m, n = m + 1 := ⟨n - 1, by omega⟩
    have hk : m < l.length := by omega
    have ew : wrap64 (((m + 1 : Nat) : Int) - 1) = (m : Int) := by rw [w64 (by omega) (by omega)]; omega
    rw [ew, zvf l m hk, show m + 1 - 1 = m by omega]
    refine zav (by omega) (zae (by omega) (zk6 (zxb h m _ (h.2 m hk) (by omega) (tabE e 4096) (zyj e 4096)) ?_))
    have ec := yaa h m hk 4096 (Nat.le_refl _)
    rw [List.take_of_length_le (by omega)] at ec
    have er : zmt l = ((2 + m : Nat) : Int) := by
      unfold zmt
      rw [if_neg (by omega), hn]
      omega
    have hi := zuu e l
    rw [er, ec] at hi
    have ha : ((List.range 4096).all fun i => decide (valM (l.getD m zN) (atI (l.take m) i) = rd (tabE e 4096) (i : Int))) = true ↔ (List.range 4096).map (fun i => valM (l.getD m zN) (atI (l.take m) i)) = tabE e 4096 := by
      rw [List.all_eq_true]
      constructor
      · intro q
        unfold tabE tbN
        refine List.map_congr_left fun i hi => ?_
        have := of_decide_eq_true (q i hi)
        rw [this]
        exact zli (fun d => by simp [tabE, tbN, List.getD, List.mem_range.1 hi])
      · intro q i hi
        refine decide_eq_true ?_
        rw [← q]
        exact (zli (fun d => by simp [List.getD, List.mem_range.1 hi])).symm
    rw [Bool.eq_iff_iff, ha, hi]
def zwg {σ : Type} (e : List Node) (step : List Instr → σ → Bool × σ) (l : List Instr) (s : σ) : Bool × σ := if reachB e l = true then step l s else (true, s)
section
variable (e : List Node) (ok : okNs 0 e = true) (h0 : 0 < e.length) (hl : e.length ≤ 24) (os : List ByteArray) (ims : List Int) (ho : zf0 os ims = true)
include ok h0 hl ho
omit ok h0 hl in
end
end Go.Proofs.YtnaafcleafbejaaGreat.PL
end
section
namespace Go.Proofs.YtnaafcleafbejaaGreat.PL
open Go Go.RowKit Go.Proofs.YtnaafcleafbejaaGreatW.PrintWords Go.Proofs.YtnaafcleafbejaaGreatW.PrintLast Go.Proofs.YtnaafcleafbejaaGreatW.PrintMore Go.Proofs.YtnaafcleafbejaaGreat.Q
set_option linter.unusedSimpArgs false
set_option linter.unusedVariables false
def zt9 (e : List Node) (os : List ByteArray) (ims : List Int) (most : Int) : Bool := zpr e && (zf0 os ims && decide (0 ≤ most ∧ most ≤ 3))
theorem zy0 (a b c : Int) : zcm a b c = some (decide (b ≤ a ∧ a ≤ c)) := by
  unfold zcm
  by_cases h : b ≤ a
  · rw [if_pos h]
    simp [h]
  · rw [if_neg h]
    simp [h]
theorem ybs (a b c : Int) : zbw a b c = some (decide (b ≤ a ∧ a ≤ c)) := by
  unfold zbw
  by_cases h : b ≤ a
  · rw [if_pos h]
    simp [h]
  · rw [if_neg h]
    simp [h]
theorem zxi (e : List Node) (os : List ByteArray) (ims : List Int) (most : Int) (ho : os.length ≤ 1048576) (hi : ims.length ≤ 1048576) : Ev (fun k => zgm k e os ims most) (zt9 e os ims most) := by
  unfold zgm zt9
  refine Ev.bind (zzy e) ?_
  cases h1 : zpr e with
  | false => exact zav (by decide) (Ev.now _)
  | true =>
    refine zae rfl (Ev.bind (zw7 os ims ho hi) ?_)
    cases h2 : zf0 os ims with
    | false => exact zav (by decide) (Ev.now _)
    | true => exact zae rfl (Ev.call (zy0 _ _ _) (Ev.now _))
theorem yan (e : List Node) (os : List ByteArray) (ims : List Int) (most : Int) (ho : os.length ≤ 1048576) (hi : ims.length ≤ 1048576) : Ev (fun k => zg1 k e os ims most) (zt9 e os ims most) := by
  unfold zg1 zt9
  refine Ev.bind (zzz e) ?_
  cases h1 : zpr e with
  | false => exact zav (by decide) (Ev.now _)
  | true =>
    refine zae rfl (Ev.bind (zz2 os ims ho hi) ?_)
    cases h2 : zf0 os ims with
    | false => exact zav (by decide) (Ev.now _)
    | true => exact zae rfl (Ev.call (ybs _ _ _) (Ev.now _))
theorem zvo {e : List Node} {os : List ByteArray} {ims : List Int} {most : Int} (h : zt9 e os ims most = true) : zpr e = true ∧ zf0 os ims = true ∧ 0 ≤ most ∧ most ≤ 3 := by
  unfold zt9 at h
  simp only [Bool.and_eq_true, decide_eq_true_eq] at h
  exact ⟨h.1, h.2.1, h.2.2.1, h.2.2.2⟩
def ztq (c : Nat) : Int := match c with | 3 => 2 | 4 => 4 | 8 => 0 | _ => 1
theorem zvp : ∀ p ∈ ops, zj1 p.1 = some (ztq p.2) := by decide +kernel
theorem zy1 (c : Nat) (s : ByteArray) (hc : c ≤ 8) : (zf8 c s).2.2.2.2.1 = ztq c := by
  rcases (show c = 0 ∨ c = 1 ∨ c = 2 ∨ c = 3 ∨ c = 4 ∨ c = 5 ∨ c = 6 ∨ c = 7 ∨ c = 8 by omega) with h | h | h | h | h | h | h | h | h <;> subst h <;> rfl
theorem ydn (x : Instr) : zi3 x.f0 x.f1 x.f2 x.f3 x.f4 = some (ztq (cls x.f0)) := by
  unfold zi3
  rw [zti, Option.bind_some, zy1 _ _ (ztj _)]
theorem yao (s : ByteArray) (h : cls s ≠ 8) : zj1 s = some (ztq (cls s)) := by
  refine zp9 (P := fun s => cls s ≠ 8 → zj1 s = some (ztq (cls s))) s (fun p hp _ => ?_) (fun hn h => absurd (zqa hn) h) h
  rw [zvp p hp, zxw p hp]
theorem zvq (c : Nat) : 0 ≤ ztq c ∧ ztq c ≤ 4 := by unfold ztq; split <;> omega
end Go.Proofs.YtnaafcleafbejaaGreat.PL
end
section
namespace Go.Proofs.YtnaafcleafbejaaGreat.PL
open Go Go.RowKit Go.Proofs.YtnaafcleafbejaaGreatW.PrintWords Go.Proofs.YtnaafcleafbejaaGreatW.PrintLast Go.Proofs.YtnaafcleafbejaaGreatW.PrintMore Go.Proofs.YtnaafcleafbejaaGreat.Q
set_option linter.unusedSimpArgs false
set_option linter.unusedVariables false
def ziy : List Instr → Int
  | [] => 0
  | x :: l => ztq (cls x.f0) + ziy l
theorem zvr : ∀ l : List Instr, 0 ≤ ziy l ∧ ziy l ≤ 4 * (l.length : Int)
  | [] => by simp [ziy]
  | x :: l => by
    have h1 := zvq (cls x.f0)
    have h2 := zvr l
    simp only [ziy, List.length_cons]
    omega
theorem zxj (l : List Instr) (hl : l.length ≤ 3) : Ev (fun k => zhi k l) (ziy l) := by
  have key : ∀ (d i : Nat) (acc : Int), i + d = l.length → 0 ≤ acc → acc ≤ 1000 - 4 * (d : Int) → Ev (fun k => zcz k acc l l.length i) (acc + ziy (l.drop i)) := by
    intro d
    induction d with
    | zero =>
      intro i acc hi h0 h1
      refine Ev.step (fun k => by simp only [zcz]; rfl) (zav (by omega) (Ev.some ?_))
      rw [List.drop_of_length_le (by omega)]
      simp [ziy]
    | succ d ih =>
      intro i acc hi h0 h1
      have hlt : i < l.length := by omega
      have hc := zvq (cls (l.getD i zN).f0)
      refine Ev.step (fun k => by simp only [zcz]; rfl) (zae (by omega) (zae (by omega) (zae (by omega) ?_)))
      rw [zvf l i hlt]
      refine Ev.call (ydn _) ?_
      rw [w64 (x := acc + ztq (cls (l.getD i zN).f0)) (by omega) (by omega), w64n i (by omega), List.drop_eq_getElem_cons hlt]
      have e : l[i] = l.getD i zN := by simp [List.getD, hlt]
      rw [e]
      simp only [ziy]
      rw [← Int.add_assoc]
      exact ih (i + 1) _ (by omega) (by omega) (by omega)
  have := key l.length 0 0 (by omega) (by omega) (by omega)
  rw [Int.zero_add, List.drop_zero] at this
  exact this
theorem zyl {l : List Instr} (h : okP l) : Ev (fun k => zfj k l) (ziy l) := by
  have hl := h.1
  have key : ∀ (d i : Nat) (acc : Int), i + d = l.length → 0 ≤ acc → acc ≤ 1000 - 4 * (d : Int) → Ev (fun k => zek k acc l l.length i) (acc + ziy (l.drop i)) := by
    intro d
    induction d with
    | zero =>
      intro i acc hi h0 h1
      refine Ev.step (fun k => by simp only [zek]; rfl) (zav (by omega) (Ev.some ?_))
      rw [List.drop_of_length_le (by omega)]
      simp [ziy]
    | succ d ih =>
      intro i acc hi h0 h1
      have hlt : i < l.length := by omega
      have hc := zvq (cls (l.getD i zN).f0)
      refine Ev.step (fun k => by simp only [zek]; rfl) (zae (by omega) (zae (by omega) (zae (by omega) ?_)))
      rw [zvf l i hlt]
      refine Ev.call (yao _ (h.2 i hlt).1.1) ?_
      rw [w64 (x := acc + ztq (cls (l.getD i zN).f0)) (by omega) (by omega), w64n i (by omega), List.drop_eq_getElem_cons hlt]
      have e : l[i] = l.getD i zN := by simp [List.getD, hlt]
      rw [e]
      simp only [ziy]
      rw [← Int.add_assoc]
      exact ih (i + 1) _ (by omega) (by omega) (by omega)
  have := key l.length 0 0 (by omega) (by omega) (by omega)
  rw [Int.zero_add, List.drop_zero] at this
  exact this
def ztr (e : List Node) (o : Option (List Instr)) (l : List Instr) : Option (List Instr) := if reachB e l = true then (match o with
  | none => some l
  | some b => if ziy l < ziy b then some l else some b) else o
def encI : Option (List Instr) → List Instr × Int
  | none => ([], -1)
  | some l => (l, ziy l)
def encS : Option (List Instr) → List Instr × Bool
  | none => ([], false)
  | some l => (l, true)
def zwh (l : List Instr) (s : List Instr × Int) : Bool × (List Instr × Int) := if s.2 < 0 ∨ ziy l < s.2 then (true, (l, ziy l)) else (true, s)
theorem zy2 (e : List Node) (l : List Instr) (o : Option (List Instr)) : zwg e zwh l (encI o) = (true, encI (ztr e o l)) := by
  unfold zwg ztr
  by_cases q : reachB e l = true
  · rw [if_pos q, if_pos q]
    unfold zwh
    cases o with
    | none => exact if_pos (.inl (by decide))
    | some b =>
      have hb := (zvr b).1
      by_cases q2 : ziy l < ziy b
      · rw [if_pos (show (encI (some b)).2 < 0 ∨ ziy l < (encI (some b)).2 from .inr q2)]
        show _ = (true, encI (if ziy l < ziy b then some l else some b))
        rw [if_pos q2]
        rfl
      · rw [if_neg (show ¬ ((encI (some b)).2 < 0 ∨ ziy l < (encI (some b)).2) from fun h => h.elim (fun h => by have : ziy b < 0 := h; omega) q2)]
        show _ = (true, encI (if ziy l < ziy b then some l else some b))
        rw [if_neg q2]
  · rw [if_neg q, if_neg q]
theorem ycg (e : List Node) : ∀ (ls : List (List Instr)) (o : Option (List Instr)), fuL (zwg e zwh) ls (encI o) = (true, encI (ls.foldl (ztr e) o))
  | [], _ => rfl
  | l :: ls, o => by
    simp only [fuL, List.foldl_cons]
    rw [zy2, if_pos rfl]
    exact ycg e ls _
section
variable (e : List Node) (os : List ByteArray) (ims : List Int)
def zwi : Nat → Nat → Option (List Instr) → Option (List Instr)
  | 0, _, o => o
  | m + 1, i, o => zwi m (i + 1) ((zlk os ims i []).foldl (ztr e) o)
def okO (o : Option (List Instr)) : Prop := ∀ b, o = some b → okP b
omit os ims in
theorem zym {o : Option (List Instr)} (h : okO o) {l : List Instr} (hl : okP l) : okO (ztr e o l) := by
  unfold ztr
  by_cases q : reachB e l = true
  · rw [if_pos q]
    cases o with
    | none => intro b hb; cases hb; exact hl
    | some c =>
      show okO (if ziy l < ziy c then some l else some c)
      by_cases q2 : ziy l < ziy c
      · rw [if_pos q2]; intro b hb; cases hb; exact hl
      · rw [if_neg q2]; exact h
  · rw [if_neg q]; exact h
omit os ims in
theorem zyn : ∀ (ls : List (List Instr)) (o : Option (List Instr)), okO o → (∀ l ∈ ls, okP l) → okO (ls.foldl (ztr e) o)
  | [], _, h, _ => h
  | l :: ls, o, h, hl => zyn ls _ (zym e h (hl l (List.mem_cons_self ..))) (fun x hx => hl x (List.mem_cons_of_mem _ hx))
theorem zyo (ho : zf0 os ims = true) : ∀ (m i : Nat) (o : Option (List Instr)), i + m ≤ 4 → okO o → okO (zwi e os ims m i o)
  | 0, _, _, _, h => h
  | m + 1, i, o, hi, h => zyo ho m (i + 1) _ (by omega) (zyn e _ _ h (fun l hl => zvm os ims ho i [] l (by simp; omega) zxe hl))
theorem ye2 (ho : zf0 os ims = true) : ∀ (m i : Nat) (o : Option (List Instr)), i + m ≤ 4 → Ev (fun k => chL k os ims (tabE e 4096) m i (encI o)) (encI (zwi e os ims m i o)) := by
  intro m
  induction m with
  | zero => exact fun i o _ => Ev.now _
  | succ m ih =>
    intro i o hi
    show Ev (fun k => (pgP k os ims (i : Int) (rcSt k (i : Int) (tabE e 4096) (chSt k)) (encI o)).bind fun r => chL k os ims (tabE e 4096) m (i + 1) r.2) _
    have hp := (ye1 os ims ho i (by omega) (fun k => rcSt k (i : Int) (tabE e 4096) (chSt k)) (zwg e zwh) (fun _ => True) (fun l hlp hln s _ => ⟨?_, trivial⟩) (encI o) trivial).1
    · rw [ycg] at hp
      exact Ev.bind hp (ih (i + 1) _ (by omega))
    · unfold rcSt zwg
      refine Ev.bind (ydm e hlp i hln) ?_
      by_cases q : reachB e l = true
      · rw [if_pos q]
        refine zae q ?_
        unfold chSt zwh
        refine Ev.bind (zxj l hlp.1) ?_
        by_cases q2 : s.2 < 0 ∨ ziy l < s.2
        · refine zae q2 (zae (by have := hlp.1; omega) (Ev.some ?_))
          rw [if_pos q2]
        · refine zav q2 (Ev.some ?_)
          rw [if_neg q2]
      · rw [if_neg q]
        exact zav q (Ev.now _)
def zra (most : Int) : List Instr × Bool := if zt9 e os ims most = true then encS (zwi e os ims (most.toNat + 1) 0 none) else ([], false)
theorem zy3 (most : Int) : (zra e os ims most).1.length ≤ 3 := by
  unfold zra
  by_cases h : zt9 e os ims most = true
  · obtain ⟨h1, h2, h3, h4⟩ := zvo h
    rw [if_pos h]
    have := zyo e os ims h2 (most.toNat + 1) 0 none (by omega) (fun b hb => by cases hb)
    cases hf : zwi e os ims (most.toNat + 1) 0 none with
    | none => exact Nat.zero_le _
    | some b => exact (this b hf).1
  · rw [if_neg h]
    exact Nat.zero_le _
theorem zsl (most : Int) (ho : os.length ≤ 1048576) (hi : ims.length ≤ 1048576) : Ev (fun k => zbi k e os ims most) (zra e os ims most) := by
  unfold zbi chF zra
  refine Ev.bind (zxi e os ims most ho hi) ?_
  by_cases h : zt9 e os ims most = true
  · obtain ⟨h1, h2, h3, h4⟩ := zvo h
    obtain ⟨⟨e1, e2⟩, e3⟩ := zv7 h1
    have hs := ye2 e os ims h2 (most.toNat + 1) 0 none (by omega)
    refine zae h (zae ⟨h3, by omega⟩ (Ev.bind (zyz e e3 (by omega) (by omega)) (Ev.bind (ydj e e3 (by omega) (by omega)) ?_)))
    rw [if_pos h, show (most + 1).toNat = most.toNat + 1 by omega]
    refine Ev.bind hs (Ev.some ?_)
    cases hf : zwi e os ims (most.toNat + 1) 0 none with
    | none => rfl
    | some b =>
      show (b, decide (ziy b ≥ 0)) = (b, true)
      rw [decide_eq_true (zvr b).1]
  · rw [if_neg h]
    exact zav h (Ev.now _)
theorem zwj (most : Int) (ho : os.length ≤ 1048576) (hi : ims.length ≤ 1048576) : Ev (fun k => zc8 k e os ims most) (zra e os ims most) := by
  unfold zc8 zra
  refine Ev.bind (yan e os ims most ho hi) ?_
  by_cases h : zt9 e os ims most = true
  · obtain ⟨h1, h2, h3, h4⟩ := zvo h
    obtain ⟨⟨e1, e2⟩, e3⟩ := zv7 h1
    obtain ⟨N, rfl⟩ : ∃ N : Nat, most = (N : Int) := ⟨most.toNat, by omega⟩
    rw [if_pos h, Int.toNat_natCast]
    refine zae h ?_
    have row : ∀ (n : Nat) (F : Option (List Instr) → List Instr × Bool), n ≤ 3 → (∀ o, okO o → Ev (fun k => zbr k e (N : Int) (encS o).1 (encS o).2 ((n + 1 : Nat) : Int) os ims) (F o)) → ∀ (d a : Nat) (o : Option (List Instr)), okO o → a + d = cntM os ims n → Ev (fun k => zaj k e (N : Int) (encS o).1 (encS o).2 (n : Int) (a : Int) os ims) (F (((zlk os ims n []).drop a).foldl (ztr e) o)) := by
      intro n F hn hF d
      obtain ⟨ho', hi', hc⟩ := zof h2
      have hle := zvl os ims ho' hi' n hn
      have hct := zxd os ims n
      induction d with
      | zero =>
        intro a o hok ha
        refine Ev.step (fun k => by simp only [zaj]; rfl) (Ev.bind (zus os ims h2 n hn) ?_)
        refine zav (by omega) ?_
        rw [List.drop_of_length_le (by omega), w64n n (by omega)]
        exact hF o hok
      | succ d ih =>
        intro a o hok ha
        have hin := ybp os ims n a (by omega)
        have hd : (zlk os ims n []).drop a = wthN os ims n a :: (zlk os ims n []).drop (a + 1) := by
          obtain ⟨g1, g2⟩ := List.getElem?_eq_some_iff.1 hin
          rw [List.drop_eq_getElem_cons g1, g2]
        have hw := yag os ims h2 n hn (a : Int) (by omega) (by omega)
        rw [yah] at hw
        have hl : okP (wthN os ims n a) := zvm os ims h2 n [] _ (by simpa using hn) zxe (List.mem_of_getElem? hin)
        have next := ih (a + 1) (ztr e o (wthN os ims n a)) (zym e hok hl) (by omega)
        have hr := zwf e e3 (by omega) (by omega) hl
        rw [hd, List.foldl_cons]
        refine Ev.step (fun k => by simp only [zaj]; rfl) (Ev.bind (zus os ims h2 n hn) ?_)
        refine zae (by omega) (Ev.bind hw ?_)
        rw [w64n a (by omega)]
        cases o with
        | none =>
          refine zav (by decide) (Ev.bind hr ?_)
          unfold ztr at next ⊢
          by_cases q : reachB e (wthN os ims n a) = true
          · rw [if_pos q] at next ⊢
            exact zae q next
          · rw [if_neg q] at next ⊢
            exact zav q next
        | some b =>
          refine zae rfl (Ev.bind (zyl hl) (Ev.bind (zyl (hok b rfl)) ?_))
          unfold ztr at next ⊢
          by_cases q2 : ziy (wthN os ims n a) < ziy b
          · refine zae q2 (Ev.bind hr ?_)
            simp only [if_pos q2] at next ⊢
            by_cases q : reachB e (wthN os ims n a) = true
            · rw [if_pos q] at next ⊢
              exact zae q next
            · rw [if_neg q] at next ⊢
              exact zav q next
          · refine zav q2 ?_
            simp only [if_neg q2, ite_self] at next ⊢
            exact next
    have key : ∀ (m i : Nat) (o : Option (List Instr)), okO o → i + m = N + 1 → Ev (fun k => zbr k e (N : Int) (encS o).1 (encS o).2 (i : Int) os ims) (encS (zwi e os ims m i o)) := by
      intro m
      induction m with
      | zero =>
        intro i o hok hi
        refine Ev.step (fun k => by simp only [zbr]; rfl) ?_
        exact zav (by omega) (Ev.now _)
      | succ m ih =>
        intro i o hok hi
        refine Ev.step (fun k => by simp only [zbr]; rfl) ?_
        refine zae (by omega) ?_
        have := row i (fun o => encS (zwi e os ims m (i + 1) o)) (by omega) (fun o ho => ih (i + 1) o ho (by omega)) (cntM os ims i) 0 o hok (by omega)
        rw [List.drop_zero] at this
        exact this
    exact key (N + 1) 0 none (fun b hb => by cases hb) (by omega)
  · rw [if_neg h]
    exact zav h (Ev.now _)
end
end Go.Proofs.YtnaafcleafbejaaGreat.PL
end
