/- Proved here: contracts of functions that the law FnExactAllShortest reaches, and lemmas on what they compute; texts of this session and the printed words of the kit that they lean on, cut down and put together by its program link.py. Conditions: as each states. -/
import Derived.Test.YtnaafcleafbejaaGreatZFnExactAllShortest1
import Derived.Test.YtnaafcleafbejaaGreatZFnExactAllShortest2
section
namespace Go.Proofs.YtnaafcleafbejaaGreat.Q
open Go.RowKit Go.Proofs.YtnaafcleafbejaaGreatW.PrintWords Go.Proofs.YtnaafcleafbejaaGreatW.PrintLast Go.Proofs.YtnaafcleafbejaaGreatW.PrintMore
set_option maxHeartbeats 8000000
set_option maxRecDepth 100000
attribute [local go_sem] zbc zbg zb8 zb9 za1 za2 zbi zbj
set_option linter.unusedVariables false
set_option linter.unusedSimpArgs false
def zdx : Nat → List Int → List Int → Int → Option (Bool)
 | 0, _, _, _ => none
 | k + 1, x0, x1, x5 => if x5 < (x0.length : Int) then (if 0 ≤ x5 then (if x5 < (x1.length : Int) then (if (rd x0 x5) = (rd x1 x5) then (zdx k x0 x1 (wrap64 (x5 + 1))) else (none)) else (none)) else (none)) else (some true)
def zg4 (k : Nat) (l0 : List Int) (l1 : List Int) : Option (Bool) := if (l0.length : Int) = (l1.length : Int) then (zdx k l0 l1 0) else (none)
theorem zms : ∀ k, (∀ y0 y1 y2, LeO (zdx k y0 y1 y2) (zdx (k + 1) y0 y1 y2))
 | 0 => fun _ _ _ r h => by simp [zdx] at h
 | k + 1 => by
   have ih0 := zms k
   · intro y0 y1 y2
     unfold zdx
     exact zm1 ih0
theorem zss : ∀ a0 a1 k, LeO (zg4 k a0 a1) (zg4 (k + 1) a0 a1) := by
 intro a0 a1 k
 have ih0 := zms k
 unfold zg4
 exact zm1 ih0
theorem zrt (k : Nat) (A0 : Option Addr) (c0 : Nat) (l0 : List Int) (A1 : Option Addr) (c1 : Nat) (l1 : List Int) (r : Bool) (w : World) (hr0 : Kd.C (Kd.int .i64) w A0 l0.length l0) (hc0 : l0.length ≤ c0) (hr1 : Kd.C (Kd.int .i64) w A1 l1.length l1) (hc1 : l1.length ≤ c1) (h : zg4 k l0 l1 = some r) :
   Calls Tryz.prog 35 #[.slice A0 l0.length c0, .slice A1 l1.length c1] w fun e w' => e = .returned (.bool r) ∧ Drawn0 w w' := by
 have HR0 := zA hr0
 have HC0 := zA hc0
 clear hr0 hc0
 have HR1 := zA hr1
 have HC1 := zA hc1
 clear hr1 hc1
 have H := h
 unfold zg4 at H
 clear h
 by_cases c3 : (l0.length : Int) = (l1.length : Int)
 rotate_left
 · rw [if_neg c3] at H
   cases H
 rw [if_pos c3] at H
 obtain ⟨c3b0, c3b1⟩ := zbe c3
 have c3b2 : (l0.length == l1.length) = true := by first | simpa using c3 | (simp at c3 ⊢; omega)
 clear c3
 have H' := zA H
 clear H
 go_enter Tryz.func35, Tryz.ntmps35
 go_wp2
 repeat (go_quiet (fail); try go_wp2)
 go_loopg [5] k (fun kq v5 w' => ∃ (x5_1 : Int), v5 = .int .i64 x5_1 ∧ Aside0 (zdx kq l0 l1 x5_1 = some r) ∧ Aside0 (kq ≤ k) ∧ Drawn0 w w')
 case atStart => exact ⟨(0), zq5, H', ⟨zlr _⟩, zq8⟩
 clear H'
 try clear c1
 try clear c3
 try clear c3b0
 try clear c3b1
 try clear c3b2
 obtain ⟨x5_1, rfl, HA, HK1, ⟨m1, rfl⟩⟩ := hrel
 cases gk with
 | zero => exact absurd HA.out (by simp [zdx])
 | succ k1 =>
 have H := HA.out
 clear HA
 simp only [zdx] at H
 revert H
 refine zit (fun c4 H => ?_) fun c4 H => ?_
 rotate_left
 · obtain rfl := zsi H
   go_wp2
   repeat (go_quiet (fail); try go_wp2)
   exact zr_5
 revert H
 refine zin fun c5 H => ?_
 revert H
 refine zin fun c6 H => ?_
 by_cases c7 : (rd l0 x5_1) = (rd l1 x5_1)
 rotate_left
 · rw [if_neg c7] at H
   cases H
 rw [if_pos c7] at H
 obtain ⟨c7b0, c7b1⟩ := zbe c7
 clear c7
 have H' := zA H
 clear H
 obtain ⟨p101, q101⟩ := zpq x5_1 l0.length
 obtain ⟨ad101, e101, hx101_0⟩ := Kd.at_int HR0.out x5_1 (zoe p101) (zoe q101)
 cases e101
 obtain ⟨p102, q102⟩ := zpq x5_1 l1.length
 obtain ⟨ad102, e102, hx102_0⟩ := Kd.at_int HR1.out x5_1 (zoe p102) (zoe q102)
 cases e102
 go_wp2
 repeat (go_quiet (fail); try go_wp2)
 go_roundg k1
 case measure => have := HK1.out; omega
 case rel => exact ⟨(wrap64 (x5_1 + 1)), zq5, H', ⟨zq31 HK1⟩, zq8⟩
def zcd : Nat → List ByteArray → List ByteArray → Int → Option (Bool)
 | 0, _, _, _ => none
 | k + 1, x0, x1, x5 => if x5 < (x0.length : Int) then (if 0 ≤ x5 then (if x5 < (x1.length : Int) then (if (rdOf ByteArray.empty x0 x5).toList = (rdOf ByteArray.empty x1 x5).toList then (zcd k x0 x1 (wrap64 (x5 + 1))) else (none)) else (none)) else (none)) else (some true)
def zfb (k : Nat) (l0 : List ByteArray) (l1 : List ByteArray) : Option (Bool) := if (l0.length : Int) = (l1.length : Int) then (zcd k l0 l1 0) else (none)
theorem zk1 : ∀ k, (∀ y0 y1 y2, LeO (zcd k y0 y1 y2) (zcd (k + 1) y0 y1 y2))
 | 0 => fun _ _ _ r h => by simp [zcd] at h
 | k + 1 => by
   have ih0 := zk1 k
   · intro y0 y1 y2
     unfold zcd
     exact zm1 ih0
theorem zpx : ∀ a0 a1 k, LeO (zfb k a0 a1) (zfb (k + 1) a0 a1) := by
 intro a0 a1 k
 have ih0 := zk1 k
 unfold zfb
 exact zm1 ih0
theorem zpf (k : Nat) (A0 : Option Addr) (c0 : Nat) (l0 : List ByteArray) (A1 : Option Addr) (c1 : Nat) (l1 : List ByteArray) (r : Bool) (w : World) (hr0 : Kd.C Kd.string w A0 l0.length l0) (hc0 : l0.length ≤ c0) (hr1 : Kd.C Kd.string w A1 l1.length l1) (hc1 : l1.length ≤ c1) (h : zfb k l0 l1 = some r) :
   Calls Tryz.prog 47 #[.slice A0 l0.length c0, .slice A1 l1.length c1] w fun e w' => e = .returned (.bool r) ∧ Drawn0 w w' := by
 have HR0 := zA hr0
 have HC0 := zA hc0
 clear hr0 hc0
 have HR1 := zA hr1
 have HC1 := zA hc1
 clear hr1 hc1
 have H := h
 unfold zfb at H
 clear h
 by_cases c3 : (l0.length : Int) = (l1.length : Int)
 rotate_left
 · rw [if_neg c3] at H
   cases H
 rw [if_pos c3] at H
 obtain ⟨c3b0, c3b1⟩ := zbe c3
 have c3b2 : (l0.length == l1.length) = true := by first | simpa using c3 | (simp at c3 ⊢; omega)
 clear c3
 have H' := zA H
 clear H
 go_enter Tryz.func47, Tryz.ntmps47
 go_wp2
 repeat (go_quiet (fail); try go_wp2)
 go_loopg [5] k (fun kq v5 w' => ∃ (x5_1 : Int), v5 = .int .i64 x5_1 ∧ Aside0 (zcd kq l0 l1 x5_1 = some r) ∧ Aside0 (kq ≤ k) ∧ Drawn0 w w')
 case atStart => exact ⟨(0), zq5, H', ⟨zlr _⟩, zq8⟩
 clear H'
 try clear c1
 try clear c3
 try clear c3b0
 try clear c3b1
 try clear c3b2
 obtain ⟨x5_1, rfl, HA, HK1, ⟨m1, rfl⟩⟩ := hrel
 cases gk with
 | zero => exact absurd HA.out (by simp [zcd])
 | succ k1 =>
 have H := HA.out
 clear HA
 simp only [zcd] at H
 revert H
 refine zit (fun c4 H => ?_) fun c4 H => ?_
 rotate_left
 · obtain rfl := zsi H
   go_wp2
   repeat (go_quiet (fail); try go_wp2)
   exact zr_5
 revert H
 refine zin fun c5 H => ?_
 revert H
 refine zin fun c6 H => ?_
 by_cases c7 : (rdOf ByteArray.empty l0 x5_1).toList = (rdOf ByteArray.empty l1 x5_1).toList
 rotate_left
 · rw [if_neg c7] at H
   cases H
 rw [if_pos c7] at H
 obtain ⟨c7b0, c7b1⟩ := zbe c7
 clear c7
 have H' := zA H
 clear H
 obtain ⟨p101, q101⟩ := zpq x5_1 l0.length
 obtain ⟨ad101, e101, hx101_0⟩ := Kd.at_string HR0.out x5_1 (zoe p101) (zoe q101)
 cases e101
 obtain ⟨p102, q102⟩ := zpq x5_1 l1.length
 obtain ⟨ad102, e102, hx102_0⟩ := Kd.at_string HR1.out x5_1 (zoe p102) (zoe q102)
 cases e102
 go_wp2
 repeat (go_quiet (fail); try go_wp2)
 go_roundg k1
 case measure => have := HK1.out; omega
 case rel => exact ⟨(wrap64 (x5_1 + 1)), zq5, H', ⟨zq31 HK1⟩, zq8⟩
def zfr (k : Nat) (l0_0 : List ByteArray) (l0_1 : List Int) (l1_0 : List ByteArray) (l1_1 : List Int) : Option (Bool) := (zfb k l0_0 l1_0).bind fun t103 => (if t103 = true then ((zg4 k l0_1 l1_1).bind fun t104 => (if t104 = true then (some true) else (none))) else (none))
theorem zx6 : ∀ a0 a1 a2 a3 k, LeO (zfr k a0 a1 a2 a3) (zfr (k + 1) a0 a1 a2 a3) := by
 intro a0 a1 a2 a3 k
 unfold zfr
 exact zm2 zss zpx
theorem zpy (k : Nat) (A0_0 : Option Addr) (c0_0 : Nat) (l0_0 : List ByteArray) (A0_1 : Option Addr) (c0_1 : Nat) (l0_1 : List Int) (A1_0 : Option Addr) (c1_0 : Nat) (l1_0 : List ByteArray) (A1_1 : Option Addr) (c1_1 : Nat) (l1_1 : List Int) (r : Bool) (w : World) (hr0_0 : Kd.C Kd.string w A0_0 l0_0.length l0_0) (hc0_0 : l0_0.length ≤ c0_0) (hr0_1 : Kd.C (Kd.int .i64) w A0_1 l0_1.length l0_1) (hc0_1 : l0_1.length ≤ c0_1) (hr1_0 : Kd.C Kd.string w A1_0 l1_0.length l1_0) (hc1_0 : l1_0.length ≤ c1_0) (hr1_1 : Kd.C (Kd.int .i64) w A1_1 l1_1.length l1_1) (hc1_1 : l1_1.length ≤ c1_1) (h : zfr k l0_0 l0_1 l1_0 l1_1 = some r) :
   Calls Tryz.prog 16 #[.agg #[.slice A0_0 l0_0.length c0_0, .slice A0_1 l0_1.length c0_1], .agg #[.slice A1_0 l1_0.length c1_0, .slice A1_1 l1_1.length c1_1]] w fun e w' => e = .returned (.bool r) ∧ Below w.heap.size w w' := by
 have hu34 := Tryz.underlying34
 have HR0_0 := zA hr0_0
 have HC0_0 := zA hc0_0
 clear hr0_0 hc0_0
 have HR0_1 := zA hr0_1
 have HC0_1 := zA hc0_1
 clear hr0_1 hc0_1
 have HR1_0 := zA hr1_0
 have HC1_0 := zA hc1_0
 clear hr1_0 hc1_0
 have HR1_1 := zA hr1_1
 have HC1_1 := zA hc1_1
 clear hr1_1 hc1_1
 have HB := zA (Below.refl w.heap.size w)
 have H := h
 unfold zfr at H
 clear h
 replace H := zob H
 obtain ⟨t103, A30, H⟩ := H
 have A3 := zA A30
 clear A30
 by_cases c4 : t103 = true
 rotate_left
 · replace c4 := zbf c4
   subst c4
   have H1 : (none : Option Bool) = some r := by rw [if_neg (show ¬ (false = true) by decide)] at H; exact H
   cases H1
 subst c4
 replace H := zih H
 replace H := zob H
 obtain ⟨t104, A50, H⟩ := H
 have A5 := zA A50
 clear A50
 by_cases c6 : t104 = true
 rotate_left
 · replace c6 := zbf c6
   subst c6
   have H1 : (none : Option Bool) = some r := by rw [if_neg (show ¬ (false = true) by decide)] at H; exact H
   cases H1
 subst c6
 replace H := zih H
 obtain rfl := zsi H
 go_enter Tryz.func16, Tryz.ntmps16
 go_wp2_with (first | ((with_reducible refine zgd 2 ?_); refine zbx #[.slice A0_0 l0_0.length c0_0, .slice A0_1 l0_1.length c0_1] 34 ?_; intro gb101 hg w7 hbox hb; have zs := zpair zq2 hb; replace HB := zA (zs.1); have BK101 := zA (hbox); have GW101 := zA (zge hg zs.2); have GE101 := GW101; clear zs hb hbox hg) | ((with_reducible refine zgd 3 ?_); refine zbx #[.slice A1_0 l1_0.length c1_0, .slice A1_1 l1_1.length c1_1] 34 ?_; intro gb102 hg w8 hbox hb; have zs := zpair (zq1 GE101) hb; replace HB := zA (zs.1); have BK102 := zA (hbox); have GW102 := zA (zge hg zs.2); have GE102 := GW102; have NB101_102 := zA ((zq21 BK101 : gb101 ≠ gb102)); replace BK101 := zbb BK101 hb; have NB102_101 := zA (Ne.symm NB101_102.out); clear zs hb hbox hg; have hnb9 := NB101_102.out; have hnc9 := NB102_101.out; obtain ⟨hcz10_0, hcz10_1, hfz10_0, hfz10_1⟩ := zd2 BK101; obtain ⟨hcz11_0, hcz11_1, hfz11_0, hfz11_1⟩ := zd2 BK102) | ((with_reducible refine zgc 47 ?_); refine zca 9 Tryz.func47 #[.slice A0_0 l0_0.length c0_0, .slice A1_0 l1_0.length c1_0] (zpf k _ _ l0_0 _ _ l1_0 true _ (zq7 HR0_0) HC0_0.out (zq7 HR1_0) HC1_0.out A3.out) ?_; rintro e w' ⟨rfl, ⟨nd, rfl⟩⟩; refine ⟨_, rfl, ?_⟩) | ((with_reducible refine zgc 35 ?_); refine zca 15 Tryz.func35 #[.slice A0_1 l0_1.length c0_1, .slice A1_1 l1_1.length c1_1] (zrt k _ _ l0_1 _ _ l1_1 true _ (by repeat (first | exact (zCb HR0_1.out (zq9 GE101 GE102)) | (with_reducible first | refine zCa ?_ _ | refine zCn ?_ _ | refine zCd ?_))) HC0_1.out (by repeat (first | exact (zCb HR1_1.out (zq9 GE101 GE102)) | (with_reducible first | refine zCa ?_ _ | refine zCn ?_ _ | refine zCd ?_))) HC1_1.out A5.out) ?_; rintro e w' ⟨rfl, ⟨nd, rfl⟩⟩; refine ⟨_, rfl, ?_⟩))
 go_ret
 exact ⟨zq4, zq9 GE101 GE102⟩
def zkw (a0_0 : ByteArray) (a0_1 : Int) (a0_2 : Int) (a0_3 : Int) (a0_4 : Int) (a1_0 : ByteArray) (a1_1 : Int) (a1_2 : Int) (a1_3 : Int) (a1_4 : Int) : Option (Bool) := if a0_0.toList = a1_0.toList then (if a0_1 = a1_1 then (if a0_2 = a1_2 then (if a0_3 = a1_3 then (if a0_4 = a1_4 then (some true) else (some false)) else (some false)) else (some false)) else (some false)) else (some false)
theorem zql (a0_0 : ByteArray) (a0_1 : Int) (a0_2 : Int) (a0_3 : Int) (a0_4 : Int) (a1_0 : ByteArray) (a1_1 : Int) (a1_2 : Int) (a1_3 : Int) (a1_4 : Int) (r : Bool) (w : World) (h : zkw a0_0 a0_1 a0_2 a0_3 a0_4 a1_0 a1_1 a1_2 a1_3 a1_4 = some r) :
   Calls Tryz.prog 45 #[.agg #[.string a0_0, .int .i64 a0_1, .int .i64 a0_2, .int .i64 a0_3, .int .i64 a0_4], .agg #[.string a1_0, .int .i64 a1_1, .int .i64 a1_2, .int .i64 a1_3, .int .i64 a1_4]] w fun e w' => e = .returned (.bool r) ∧ Below w.heap.size w w' := by
 have hu57 := Tryz.underlying57
 have key : r = (!(a0_0.toList != a1_0.toList) && !(a0_1 != a1_1) && !(a0_2 != a1_2) && !(a0_3 != a1_3) && !(a0_4 != a1_4)) := by
   unfold zkw at h
   (repeat' split at h) <;> simp_all
 have HK := zA key
 clear h key
 go_enter Tryz.func45, Tryz.ntmps45
 go_wp2
 all_goals
   go_ret
   exact ⟨by rw [HK.out]; simp_all, zba (zba (Below.refl _ _) _) _⟩
def zcs : Nat → List (S69) → List (S69) → Int → Option (Bool)
 | 0, _, _, _ => none
 | k + 1, x0, x1, x5 => if x5 < (x0.length : Int) then (if 0 ≤ x5 then (if x5 < (x1.length : Int) then ((zkw ((zag x0 x5).f0) ((zag x0 x5).f1) ((zag x0 x5).f2) ((zag x0 x5).f3) ((zag x0 x5).f4) ((zag x1 x5).f0) ((zag x1 x5).f1) ((zag x1 x5).f2) ((zag x1 x5).f3) ((zag x1 x5).f4)).bind fun t103 => (if t103 = true then (zcs k x0 x1 (wrap64 (x5 + 1))) else (none))) else (none)) else (none)) else (some true)
def zfs (k : Nat) (l0 : List (S69)) (l1 : List (S69)) : Option (Bool) := if (l0.length : Int) = (l1.length : Int) then (zcs k l0 l1 0) else (none)
theorem zln : ∀ k, (∀ y0 y1 y2, LeO (zcs k y0 y1 y2) (zcs (k + 1) y0 y1 y2))
 | 0 => fun _ _ _ r h => by simp [zcs] at h
 | k + 1 => by
   have ih0 := zln k
   · intro y0 y1 y2
     unfold zcs
     exact zm1 ih0
theorem zmt : ∀ a0 a1 k, LeO (zfs k a0 a1) (zfs (k + 1) a0 a1) := by
 intro a0 a1 k
 have ih0 := zln k
 unfold zfs
 exact zm1 ih0
def laws_eqInstrS.T6 : Bool × List (List Nat × List Nat) := (true, [([], []), ([], []), ([0, 1], [0, 1]), ([2], [2]), ([], []), ([], []), ([4, 5], [4, 5]), ([6], [6]), ([3, 7], [3, 7]), ([8], [8])])
def zst : List Nat := [0, 0, 3, 7, 0, 0, 48, 112, 255, 511]
theorem zqm : rtab .any (zs3 Tryz.f14 6) = laws_eqInstrS.T6 := by kernel_rfl
theorem zpz : zis laws_eqInstrS.T6.2 zst = true := by kernel_rfl
theorem zp0 (k : Nat) (A0 : Option Addr) (c0 : Nat) (l0 : List (S69)) (A1 : Option Addr) (c1 : Nat) (l1 : List (S69)) (r : Bool) (w : World) (hr0 : Kd.C k69 w A0 l0.length l0) (hc0 : l0.length ≤ c0) (hr1 : Kd.C k69 w A1 l1.length l1) (hc1 : l1.length ≤ c1) (h : zfs k l0 l1 = some r) :
   Calls Tryz.prog 14 #[.slice A0 l0.length c0, .slice A1 l1.length c1] w fun e w' => e = .returned (.bool r) ∧ Below w.heap.size w w' := by
 have hu69 := Tryz.underlying69
 have HR0 := zA hr0
 have HC0 := zA hc0
 clear hr0 hc0
 have HR1 := zA hr1
 have HC1 := zA hc1
 clear hr1 hc1
 have HB := zA (Below.refl w.heap.size w)
 have H := h
 unfold zfs at H
 clear h
 by_cases c3 : (l0.length : Int) = (l1.length : Int)
 rotate_left
 · rw [if_neg c3] at H
   cases H
 rw [if_pos c3] at H
 obtain ⟨c3b0, c3b1⟩ := zbe c3
 have c3b2 : (l0.length == l1.length) = true := by first | simpa using c3 | (simp at c3 ⊢; omega)
 clear c3
 have H' := zA H
 clear H
 go_enter Tryz.func14, Tryz.ntmps14
 go_wp2
 go_loopg [5] k (fun kq v5 w' => ∃ (x5_1 : Int), v5 = .int .i64 x5_1 ∧ Aside0 (zcs kq l0 l1 x5_1 = some r) ∧ Aside0 (kq ≤ k) ∧ Aside0 (Below w.heap.size w w'))
 case atStart => exact ⟨(0), zq5, H', ⟨zlr _⟩, ⟨zq2⟩⟩
 clear H'
 try clear c1
 try clear c3
 try clear c3b0
 try clear c3b1
 try clear c3b2
 obtain ⟨x5_1, rfl, HA, HK1, HB⟩ := hrel
 cases gk with
 | zero => exact absurd HA.out (by simp [zcs])
 | succ k1 =>
 have H := HA.out
 clear HA
 simp only [zcs] at H
 revert H
 refine zit (fun c4 H => ?_) fun c4 H => ?_
 rotate_left
 · obtain rfl := zsi H
   go_wp2
   exact zr_4
 revert H
 refine zin fun c5 H => ?_
 revert H
 refine zin fun c6 H => ?_
 replace H := zob H
 obtain ⟨t103, A70, H⟩ := H
 have A7 := zA A70
 clear A70
 by_cases c8 : t103 = true
 rotate_left
 · replace c8 := zbf c8
   subst c8
   have H1 : (none : Option Bool) = some r := by rw [if_neg (show ¬ (false = true) by decide)] at H; exact H
   cases H1
 subst c8
 replace H := zih H
 have H' := zA H
 clear H
 try go_wp2
 replace HB := zA (zbd HB.out)
 obtain ⟨p101, q101⟩ := zpq x5_1 l0.length
 obtain ⟨ad101, e101, hx101_0, hx101_1, hx101_2, hx101_3, hx101_4⟩ := zog HR0.out x5_1 (zoe p101) (zoe q101)
 have hw101_4 := hx101_4
 have hw101_3 := hx101_3
 have hw101_2 := hx101_2
 have hw101_1 := hx101_1
 have hw101_0 := hx101_0
 cases e101
 replace hx101_0 := zkep HB.out hx101_0
 replace hx101_1 := zkep HB.out hx101_1
 replace hx101_2 := zkep HB.out hx101_2
 replace hx101_3 := zkep HB.out hx101_3
 replace hx101_4 := zkep HB.out hx101_4
 obtain ⟨p102, q102⟩ := zpq x5_1 l1.length
 obtain ⟨ad102, e102, hx102_0, hx102_1, hx102_2, hx102_3, hx102_4⟩ := zog HR1.out x5_1 (zoe p102) (zoe q102)
 have hw102_4 := hx102_4
 have hw102_3 := hx102_3
 have hw102_2 := hx102_2
 have hw102_1 := hx102_1
 have hw102_0 := hx102_0
 cases e102
 replace hx102_0 := zkep HB.out hx102_0
 replace hx102_1 := zkep HB.out hx102_1
 replace hx102_2 := zkep HB.out hx102_2
 replace hx102_3 := zkep HB.out hx102_3
 replace hx102_4 := zkep HB.out hx102_4
 refine zne (n := 10) (S := fun w' => w'.cell? (ad101.add ((x5_1).toNat * 5)) = some (.string ((zag l0 x5_1).f0)) ∧ w'.cell? ⟨(ad101.add ((x5_1).toNat * 5)).block, (ad101.add ((x5_1).toNat * 5)).off + 1, none⟩ = some (.int .i64 ((zag l0 x5_1).f1)) ∧ w'.cell? ⟨(ad101.add ((x5_1).toNat * 5)).block, (ad101.add ((x5_1).toNat * 5)).off + 2, none⟩ = some (.int .i64 ((zag l0 x5_1).f2)) ∧ w'.cell? ⟨(ad101.add ((x5_1).toNat * 5)).block, (ad101.add ((x5_1).toNat * 5)).off + 3, none⟩ = some (.int .i64 ((zag l0 x5_1).f3)) ∧ w'.cell? ⟨(ad101.add ((x5_1).toNat * 5)).block, (ad101.add ((x5_1).toNat * 5)).off + 4, none⟩ = some (.int .i64 ((zag l0 x5_1).f4)) ∧ w'.cell? (ad102.add ((x5_1).toNat * 5)) = some (.string ((zag l1 x5_1).f0)) ∧ w'.cell? ⟨(ad102.add ((x5_1).toNat * 5)).block, (ad102.add ((x5_1).toNat * 5)).off + 1, none⟩ = some (.int .i64 ((zag l1 x5_1).f1)) ∧ w'.cell? ⟨(ad102.add ((x5_1).toNat * 5)).block, (ad102.add ((x5_1).toNat * 5)).off + 2, none⟩ = some (.int .i64 ((zag l1 x5_1).f2)) ∧ w'.cell? ⟨(ad102.add ((x5_1).toNat * 5)).block, (ad102.add ((x5_1).toNat * 5)).off + 3, none⟩ = some (.int .i64 ((zag l1 x5_1).f3)) ∧ w'.cell? ⟨(ad102.add ((x5_1).toNat * 5)).block, (ad102.add ((x5_1).toNat * 5)).off + 4, none⟩ = some (.int .i64 ((zag l1 x5_1).f4))) (ds := []) #[false, false, false, false, false, false, false, false, false, false] zq23 rfl rfl ⟨(zkep HB.out hw101_0), (zkep HB.out hw101_1), (zkep HB.out hw101_2), (zkep HB.out hw101_3), (zkep HB.out hw101_4), (zkep HB.out hw102_0), (zkep HB.out hw102_1), (zkep HB.out hw102_2), (zkep HB.out hw102_3), (zkep HB.out hw102_4)⟩ (fun hHeld => ?_); refine zhk zqm zpz (fun HT_ HW_ => ?_)
 generalize wr.drew = w9 at HB hx101_0 hx101_1 hx101_2 hx101_3 hx101_4 hx102_0 hx102_1 hx102_2 hx102_3 hx102_4 hHeld ⊢
 refine zpu 0 17 HT_ ?_
 refine zpu 1 18 HT_ ?_
 refine zpu 2 19 HT_ ?_
 refine zpu 4 21 HT_ ?_
 refine zpu 5 22 HT_ ?_
 refine zpu 6 23 HT_ ?_
 refine ztu 3 20 HT_ HW_ hHeld ?_
 refine ztu 7 24 HT_ HW_ hHeld ?_
 refine one_ (i := 8) (N := some 25) #[true, true, true, true, true, true, true, true, true, false] rfl rfl (zhj HT_.out zq23) (by decide) (fun K hK => ?_)
 refine zgo Tryz.func45 (zql ((zag l0 x5_1).f0) ((zag l0 x5_1).f1) ((zag l0 x5_1).f2) ((zag l0 x5_1).f3) ((zag l0 x5_1).f4) ((zag l1 x5_1).f0) ((zag l1 x5_1).f1) ((zag l1 x5_1).f2) ((zag l1 x5_1).f3) ((zag l1 x5_1).f4) true _ A7.out) ?_
 rintro e w10 ⟨rfl, hb⟩
 refine ⟨_, rfl, ?_⟩
 replace HB := zA (zaa zq2 hb)
 (try clear hb)
 (try clear hb2)
 (try clear hk)
 (try clear hi)
 refine hK.out _ _ ⟨(zkep HB.out hw101_0), (zkep HB.out hw101_1), (zkep HB.out hw101_2), (zkep HB.out hw101_3), (zkep HB.out hw101_4), (zkep HB.out hw102_0), (zkep HB.out hw102_1), (zkep HB.out hw102_2), (zkep HB.out hw102_3), (zkep HB.out hw102_4)⟩ (fun hHeld => ?_)
 clear hK K
 refine znm 25 ?_
 refine zpu 9 26 HT_ ?_
 refine zrb (zj4 HT_.out zq23) ?_
 try go_wp2
 go_roundg k1
 case measure => have := HK1.out; omega
 case rel => exact ⟨(wrap64 (x5_1 + 1)), zq5, H', ⟨zq31 HK1⟩, ⟨zq2⟩⟩
def zce : Nat → List (List (S69)) → List (List (S69)) → Int → Option (Bool)
 | 0, _, _, _ => none
 | k + 1, x0, x1, x5 => if x5 < (x0.length : Int) then (if 0 ≤ x5 then (if x5 < (x1.length : Int) then ((zfs k (zji x0 x5) (zji x1 x5)).bind fun t103 => (if t103 = true then (zce k x0 x1 (wrap64 (x5 + 1))) else (none))) else (none)) else (none)) else (some true)
def zfc (k : Nat) (l0 : List (List (S69))) (l1 : List (List (S69))) : Option (Bool) := if (l0.length : Int) = (l1.length : Int) then (zce k l0 l1 0) else (none)
theorem zk2 : ∀ k, (∀ y0 y1 y2, LeO (zce k y0 y1 y2) (zce (k + 1) y0 y1 y2))
 | 0 => fun _ _ _ r h => by simp [zce] at h
 | k + 1 => by
   have ih0 := zk2 k
   · intro y0 y1 y2
     unfold zce
     exact zm2 ih0 zmt
theorem zw5 : ∀ a0 a1 k, LeO (zfc k a0 a1) (zfc (k + 1) a0 a1) := by
 intro a0 a1 k
 have ih0 := zk2 k
 unfold zfc
 exact zm2 ih0 zmt
def laws_eqInstrSS.T6 : Bool × List (List Nat × List Nat) := (true, [([], []), ([], []), ([0, 1], [0, 1]), ([2], [2]), ([], []), ([], []), ([4, 5], [4, 5]), ([6], [6]), ([3, 7], [3, 7]), ([8], [8])])
def zru : List Nat := [0, 0, 3, 7, 0, 0, 48, 112, 255, 511]
theorem zp1 : rtab .any (zs3 Tryz.f27 6) = laws_eqInstrSS.T6 := by kernel_rfl
theorem zpg : zis laws_eqInstrSS.T6.2 zru = true := by kernel_rfl
theorem zi2 (k : Nat) (A0 : Option Addr) (c0 : Nat) (l0 : List (List (S69))) (A1 : Option Addr) (c1 : Nat) (l1 : List (List (S69))) (r : Bool) (w : World) (hr0 : Kd.C (Kd.slice 69 k69) w A0 l0.length l0) (hc0 : l0.length ≤ c0) (hr1 : Kd.C (Kd.slice 69 k69) w A1 l1.length l1) (hc1 : l1.length ≤ c1) (h : zfc k l0 l1 = some r) :
   Calls Tryz.prog 27 #[.slice A0 l0.length c0, .slice A1 l1.length c1] w fun e w' => e = .returned (.bool r) ∧ Below w.heap.size w w' := by
 have HR0 := zA hr0
 have HC0 := zA hc0
 clear hr0 hc0
 have HR1 := zA hr1
 have HC1 := zA hc1
 clear hr1 hc1
 have HB := zA (Below.refl w.heap.size w)
 have H := h
 unfold zfc at H
 clear h
 by_cases c3 : (l0.length : Int) = (l1.length : Int)
 rotate_left
 · rw [if_neg c3] at H
   cases H
 rw [if_pos c3] at H
 obtain ⟨c3b0, c3b1⟩ := zbe c3
 have c3b2 : (l0.length == l1.length) = true := by first | simpa using c3 | (simp at c3 ⊢; omega)
 clear c3
 have H' := zA H
 clear H
 go_enter Tryz.func27, Tryz.ntmps27
 go_wp2
 go_loopg [5] k (fun kq v5 w' => ∃ (x5_1 : Int), v5 = .int .i64 x5_1 ∧ Aside0 (zce kq l0 l1 x5_1 = some r) ∧ Aside0 (kq ≤ k) ∧ Aside0 (Below w.heap.size w w'))
 case atStart => exact ⟨(0), zq5, H', ⟨zlr _⟩, ⟨zq2⟩⟩
 clear H'
 try clear c1
 try clear c3
 try clear c3b0
 try clear c3b1
 try clear c3b2
 obtain ⟨x5_1, rfl, HA, HK1, HB⟩ := hrel
 cases gk with
 | zero => exact absurd HA.out (by simp [zce])
 | succ k1 =>
 have H := HA.out
 clear HA
 simp only [zce] at H
 revert H
 refine zit (fun c4 H => ?_) fun c4 H => ?_
 rotate_left
 · obtain rfl := zsi H
   go_wp2
   exact zr_4
 revert H
 refine zin fun c5 H => ?_
 revert H
 refine zin fun c6 H => ?_
 replace H := zob H
 obtain ⟨t103, A70, H⟩ := H
 have A7 := zA A70
 clear A70
 by_cases c8 : t103 = true
 rotate_left
 · replace c8 := zbf c8
   subst c8
   have H1 : (none : Option Bool) = some r := by rw [if_neg (show ¬ (false = true) by decide)] at H; exact H
   cases H1
 subst c8
 replace H := zih H
 have H' := zA H
 clear H
 try go_wp2
 replace HB := zA (zbd HB.out)
 obtain ⟨p101, q101⟩ := zpq x5_1 l0.length
 obtain ⟨ad101, A101_0, c101_0, e101, hx101_0, hl101_0, hi101_0⟩ := zxv HR0.out x5_1 (zoe p101) (zoe q101)
 have hw101_0 := hx101_0
 cases e101
 replace hx101_0 := zkep HB.out hx101_0
 have HR101_0 := zA hi101_0
 have HC101_0 := zA hl101_0
 clear hi101_0 hl101_0
 obtain ⟨p102, q102⟩ := zpq x5_1 l1.length
 obtain ⟨ad102, A102_0, c102_0, e102, hx102_0, hl102_0, hi102_0⟩ := zxv HR1.out x5_1 (zoe p102) (zoe q102)
 have hw102_0 := hx102_0
 cases e102
 replace hx102_0 := zkep HB.out hx102_0
 have HR102_0 := zA hi102_0
 have HC102_0 := zA hl102_0
 clear hi102_0 hl102_0
 refine zne (n := 10) (S := fun w' => w'.cell? (ad101.add (x5_1).toNat) = some (.slice A101_0 (zji l0 x5_1).length c101_0) ∧ w'.cell? (ad102.add (x5_1).toNat) = some (.slice A102_0 (zji l1 x5_1).length c102_0)) (ds := []) #[false, false, false, false, false, false, false, false, false, false] zq23 rfl rfl ⟨(zkep HB.out hw101_0), (zkep HB.out hw102_0)⟩ (fun hHeld => ?_); refine zhk zp1 zpg (fun HT_ HW_ => ?_)
 generalize wr.drew = w9 at HB HR101_0 HR102_0 hx101_0 hx102_0 hHeld ⊢
 refine zpu 0 17 HT_ ?_
 refine zpu 1 18 HT_ ?_
 refine zpu 2 19 HT_ ?_
 refine zpu 4 21 HT_ ?_
 refine zpu 5 22 HT_ ?_
 refine zpu 6 23 HT_ ?_
 refine ztu 3 20 HT_ HW_ hHeld ?_
 refine ztu 7 24 HT_ HW_ hHeld ?_
 refine one_ (i := 8) (N := some 25) #[true, true, true, true, true, true, true, true, true, false] rfl rfl (zhj HT_.out zq23) (by decide) (fun K hK => ?_)
 refine zs2 Tryz.func14 zq23 rfl #[.slice A101_0 (zji l0 x5_1).length c101_0, .slice A102_0 (zji l1 x5_1).length c102_0] (by rfl) rfl rfl zq20 ?_
 with_reducible refine (zp0 k1 _ _ (zji l0 x5_1) _ _ (zji l1 x5_1) true _ ?side1 ?side2 ?side3 ?side4 A7.out).mono ?_
 (case side1 => repeat (first | exact (zCb HR101_0.out HB.out) | (with_reducible first | refine zCa ?_ _ | refine zCn ?_ _ | refine zCd ?_)))
 (case side2 => exact HC101_0.out)
 (case side3 => repeat (first | exact (zCb HR102_0.out HB.out) | (with_reducible first | refine zCa ?_ _ | refine zCn ?_ _ | refine zCd ?_)))
 (case side4 => exact HC102_0.out)
 rintro e w10 ⟨rfl, hb⟩
 refine ⟨_, rfl, ?_⟩
 replace HB := zA (zaa zq2 hb)
 (try clear hb)
 (try clear hb2)
 (try clear hk)
 (try clear hi)
 refine hK.out _ _ ⟨(zkep HB.out hw101_0), (zkep HB.out hw102_0)⟩ (fun hHeld => ?_)
 clear hK K
 refine znm 25 ?_
 refine zpu 9 26 HT_ ?_
 refine zrb (zj4 HT_.out zq23) ?_
 try go_wp2
 go_roundg k1
 case measure => have := HK1.out; omega
 case rel => exact ⟨(wrap64 (x5_1 + 1)), zq5, H', ⟨zq31 HK1⟩, ⟨zq2⟩⟩
def zl0 (a0_0 : ByteArray) (a0_1 : Int) (a0_2 : Int) (a0_3 : Int) (a1_0 : ByteArray) (a1_1 : Int) (a1_2 : Int) (a1_3 : Int) : Option (Bool) := if a0_0.toList = a1_0.toList then (if a0_1 = a1_1 then (if a0_2 = a1_2 then (if a0_3 = a1_3 then (some true) else (some false)) else (some false)) else (some false)) else (some false)
theorem zrv (a0_0 : ByteArray) (a0_1 : Int) (a0_2 : Int) (a0_3 : Int) (a1_0 : ByteArray) (a1_1 : Int) (a1_2 : Int) (a1_3 : Int) (r : Bool) (w : World) (h : zl0 a0_0 a0_1 a0_2 a0_3 a1_0 a1_1 a1_2 a1_3 = some r) :
   Calls Tryz.prog 46 #[.agg #[.string a0_0, .int .i64 a0_1, .int .i64 a0_2, .int .i64 a0_3], .agg #[.string a1_0, .int .i64 a1_1, .int .i64 a1_2, .int .i64 a1_3]] w fun e w' => e = .returned (.bool r) ∧ Below w.heap.size w w' := by
 have key : r = (!(a0_0.toList != a1_0.toList) && !(a0_1 != a1_1) && !(a0_2 != a1_2) && !(a0_3 != a1_3)) := by
   unfold zl0 at h
   (repeat' split at h) <;> simp_all
 have HK := zA key
 clear h key
 go_enter Tryz.func46, Tryz.ntmps46
 go_wp2
 all_goals
   go_ret
   exact ⟨by rw [HK.out]; simp_all, zba (zba (Below.refl _ _) _) _⟩
def zda : Nat → List (S62) → List (S62) → Int → Option (Bool)
 | 0, _, _, _ => none
 | k + 1, x0, x1, x5 => if x5 < (x0.length : Int) then (if 0 ≤ x5 then (if x5 < (x1.length : Int) then ((zl0 ((zab x0 x5).f0) ((zab x0 x5).f1) ((zab x0 x5).f2) ((zab x0 x5).f3) ((zab x1 x5).f0) ((zab x1 x5).f1) ((zab x1 x5).f2) ((zab x1 x5).f3)).bind fun t103 => (if t103 = true then (zda k x0 x1 (wrap64 (x5 + 1))) else (none))) else (none)) else (none)) else (some true)
def zgb (k : Nat) (l0 : List (S62)) (l1 : List (S62)) : Option (Bool) := if (l0.length : Int) = (l1.length : Int) then (zda k l0 l1 0) else (none)
theorem zma : ∀ k, (∀ y0 y1 y2, LeO (zda k y0 y1 y2) (zda (k + 1) y0 y1 y2))
 | 0 => fun _ _ _ r h => by simp [zda] at h
 | k + 1 => by
   have ih0 := zma k
   · intro y0 y1 y2
     unfold zda
     exact zm1 ih0
theorem zy3 : ∀ a0 a1 k, LeO (zgb k a0 a1) (zgb (k + 1) a0 a1) := by
 intro a0 a1 k
 have ih0 := zma k
 unfold zgb
 exact zm1 ih0
def laws_eqNodeS.T6 : Bool × List (List Nat × List Nat) := (true, [([], []), ([], []), ([0, 1], [0, 1]), ([2], [2]), ([], []), ([], []), ([4, 5], [4, 5]), ([6], [6]), ([3, 7], [3, 7]), ([8], [8])])
def ztk : List Nat := [0, 0, 3, 7, 0, 0, 48, 112, 255, 511]
theorem zrw : rtab .any (zs3 Tryz.f15 6) = laws_eqNodeS.T6 := by kernel_rfl
theorem zqn : zis laws_eqNodeS.T6.2 ztk = true := by kernel_rfl
theorem zqo (k : Nat) (A0 : Option Addr) (c0 : Nat) (l0 : List (S62)) (A1 : Option Addr) (c1 : Nat) (l1 : List (S62)) (r : Bool) (w : World) (hr0 : Kd.C k62 w A0 l0.length l0) (hc0 : l0.length ≤ c0) (hr1 : Kd.C k62 w A1 l1.length l1) (hc1 : l1.length ≤ c1) (h : zgb k l0 l1 = some r) :
   Calls Tryz.prog 15 #[.slice A0 l0.length c0, .slice A1 l1.length c1] w fun e w' => e = .returned (.bool r) ∧ Below w.heap.size w w' := by
 have hu62 := Tryz.underlying62
 have HR0 := zA hr0
 have HC0 := zA hc0
 clear hr0 hc0
 have HR1 := zA hr1
 have HC1 := zA hc1
 clear hr1 hc1
 have HB := zA (Below.refl w.heap.size w)
 have H := h
 unfold zgb at H
 clear h
 by_cases c3 : (l0.length : Int) = (l1.length : Int)
 rotate_left
 · rw [if_neg c3] at H
   cases H
 rw [if_pos c3] at H
 obtain ⟨c3b0, c3b1⟩ := zbe c3
 have c3b2 : (l0.length == l1.length) = true := by first | simpa using c3 | (simp at c3 ⊢; omega)
 clear c3
 have H' := zA H
 clear H
 go_enter Tryz.func15, Tryz.ntmps15
 go_wp2
 go_loopg [5] k (fun kq v5 w' => ∃ (x5_1 : Int), v5 = .int .i64 x5_1 ∧ Aside0 (zda kq l0 l1 x5_1 = some r) ∧ Aside0 (kq ≤ k) ∧ Aside0 (Below w.heap.size w w'))
 case atStart => exact ⟨(0), zq5, H', ⟨zlr _⟩, ⟨zq2⟩⟩
 clear H'
 try clear c1
 try clear c3
 try clear c3b0
 try clear c3b1
 try clear c3b2
 obtain ⟨x5_1, rfl, HA, HK1, HB⟩ := hrel
 cases gk with
 | zero => exact absurd HA.out (by simp [zda])
 | succ k1 =>
 have H := HA.out
 clear HA
 simp only [zda] at H
 revert H
 refine zit (fun c4 H => ?_) fun c4 H => ?_
 rotate_left
 · obtain rfl := zsi H
   go_wp2
   exact zr_4
 revert H
 refine zin fun c5 H => ?_
 revert H
 refine zin fun c6 H => ?_
 replace H := zob H
 obtain ⟨t103, A70, H⟩ := H
 have A7 := zA A70
 clear A70
 by_cases c8 : t103 = true
 rotate_left
 · replace c8 := zbf c8
   subst c8
   have H1 : (none : Option Bool) = some r := by rw [if_neg (show ¬ (false = true) by decide)] at H; exact H
   cases H1
 subst c8
 replace H := zih H
 have H' := zA H
 clear H
 try go_wp2
 replace HB := zA (zbd HB.out)
 obtain ⟨p101, q101⟩ := zpq x5_1 l0.length
 obtain ⟨ad101, e101, hx101_0, hx101_1, hx101_2, hx101_3⟩ := znn HR0.out x5_1 (zoe p101) (zoe q101)
 have hw101_3 := hx101_3
 have hw101_2 := hx101_2
 have hw101_1 := hx101_1
 have hw101_0 := hx101_0
 cases e101
 replace hx101_0 := zkep HB.out hx101_0
 replace hx101_1 := zkep HB.out hx101_1
 replace hx101_2 := zkep HB.out hx101_2
 replace hx101_3 := zkep HB.out hx101_3
 obtain ⟨p102, q102⟩ := zpq x5_1 l1.length
 obtain ⟨ad102, e102, hx102_0, hx102_1, hx102_2, hx102_3⟩ := znn HR1.out x5_1 (zoe p102) (zoe q102)
 have hw102_3 := hx102_3
 have hw102_2 := hx102_2
 have hw102_1 := hx102_1
 have hw102_0 := hx102_0
 cases e102
 replace hx102_0 := zkep HB.out hx102_0
 replace hx102_1 := zkep HB.out hx102_1
 replace hx102_2 := zkep HB.out hx102_2
 replace hx102_3 := zkep HB.out hx102_3
 refine zne (n := 10) (S := fun w' => w'.cell? (ad101.add ((x5_1).toNat * 4)) = some (.string ((zab l0 x5_1).f0)) ∧ w'.cell? ⟨(ad101.add ((x5_1).toNat * 4)).block, (ad101.add ((x5_1).toNat * 4)).off + 1, none⟩ = some (.int .i64 ((zab l0 x5_1).f1)) ∧ w'.cell? ⟨(ad101.add ((x5_1).toNat * 4)).block, (ad101.add ((x5_1).toNat * 4)).off + 2, none⟩ = some (.int .i64 ((zab l0 x5_1).f2)) ∧ w'.cell? ⟨(ad101.add ((x5_1).toNat * 4)).block, (ad101.add ((x5_1).toNat * 4)).off + 3, none⟩ = some (.int .i64 ((zab l0 x5_1).f3)) ∧ w'.cell? (ad102.add ((x5_1).toNat * 4)) = some (.string ((zab l1 x5_1).f0)) ∧ w'.cell? ⟨(ad102.add ((x5_1).toNat * 4)).block, (ad102.add ((x5_1).toNat * 4)).off + 1, none⟩ = some (.int .i64 ((zab l1 x5_1).f1)) ∧ w'.cell? ⟨(ad102.add ((x5_1).toNat * 4)).block, (ad102.add ((x5_1).toNat * 4)).off + 2, none⟩ = some (.int .i64 ((zab l1 x5_1).f2)) ∧ w'.cell? ⟨(ad102.add ((x5_1).toNat * 4)).block, (ad102.add ((x5_1).toNat * 4)).off + 3, none⟩ = some (.int .i64 ((zab l1 x5_1).f3))) (ds := []) #[false, false, false, false, false, false, false, false, false, false] zq23 rfl rfl ⟨(zkep HB.out hw101_0), (zkep HB.out hw101_1), (zkep HB.out hw101_2), (zkep HB.out hw101_3), (zkep HB.out hw102_0), (zkep HB.out hw102_1), (zkep HB.out hw102_2), (zkep HB.out hw102_3)⟩ (fun hHeld => ?_); refine zhk zrw zqn (fun HT_ HW_ => ?_)
 generalize wr.drew = w9 at HB hx101_0 hx101_1 hx101_2 hx101_3 hx102_0 hx102_1 hx102_2 hx102_3 hHeld ⊢
 refine zpu 0 17 HT_ ?_
 refine zpu 1 18 HT_ ?_
 refine zpu 2 19 HT_ ?_
 refine zpu 4 21 HT_ ?_
 refine zpu 5 22 HT_ ?_
 refine zpu 6 23 HT_ ?_
 refine ztu 3 20 HT_ HW_ hHeld ?_
 refine ztu 7 24 HT_ HW_ hHeld ?_
 refine one_ (i := 8) (N := some 25) #[true, true, true, true, true, true, true, true, true, false] rfl rfl (zhj HT_.out zq23) (by decide) (fun K hK => ?_)
 refine zgo Tryz.func46 (zrv ((zab l0 x5_1).f0) ((zab l0 x5_1).f1) ((zab l0 x5_1).f2) ((zab l0 x5_1).f3) ((zab l1 x5_1).f0) ((zab l1 x5_1).f1) ((zab l1 x5_1).f2) ((zab l1 x5_1).f3) true _ A7.out) ?_
 rintro e w10 ⟨rfl, hb⟩
 refine ⟨_, rfl, ?_⟩
 replace HB := zA (zaa zq2 hb)
 (try clear hb)
 (try clear hb2)
 (try clear hk)
 (try clear hi)
 refine hK.out _ _ ⟨(zkep HB.out hw101_0), (zkep HB.out hw101_1), (zkep HB.out hw101_2), (zkep HB.out hw101_3), (zkep HB.out hw102_0), (zkep HB.out hw102_1), (zkep HB.out hw102_2), (zkep HB.out hw102_3)⟩ (fun hHeld => ?_)
 clear hK K
 refine znm 25 ?_
 refine zpu 9 26 HT_ ?_
 refine zrb (zj4 HT_.out zq23) ?_
 try go_wp2
 go_roundg k1
 case measure => have := HK1.out; omega
 case rel => exact ⟨(wrap64 (x5_1 + 1)), zq5, H', ⟨zq31 HK1⟩, ⟨zq2⟩⟩
def zct : Nat → Int → ByteArray → Option (ByteArray)
 | 0, _, _ => none
 | k + 1, x0, x3 => if x0 > 0 then ((some (([(wrap64 (48 + (Int.tmod x0 10))) % 256] : List Int) : List Int)).bind fun y101 => (if (strOfNums y101).size + x3.size ≤ 9223372036854775807 then (zct k (wrap64 (Int.tdiv x0 10)) ((strOfNums y101) ++ x3)) else (none))) else (if 1 + x3.size ≤ 9223372036854775807 then (some ((⟨#[109]⟩ : ByteArray) ++ x3)) else (none))
def zcx (k : Nat) (a0 : Int) : Option (ByteArray) := if a0 ≤ 0 then (some (⟨#[109, 48]⟩ : ByteArray)) else (zct k a0 (⟨#[]⟩ : ByteArray))
theorem zlo : ∀ k, (∀ y0 y1, LeO (zct k y0 y1) (zct (k + 1) y0 y1))
 | 0 => fun _ _ r h => by simp [zct] at h
 | k + 1 => by
   have ih0 := zlo k
   · intro y0 y1
     unfold zct
     exact zm1 ih0
theorem zed : ∀ a0 k, LeO (zcx k a0) (zcx (k + 1) a0) := by
 intro a0 k
 have ih0 := zlo k
 unfold zcx
 exact zm1 ih0
theorem zh1 (k : Nat) (a0 : Int) (r : ByteArray) (w : World) (h : zcx k a0 = some r) :
   Calls Tryz.prog 48 #[.int .i64 a0] w fun e w' => e = .returned (.string r) ∧ Below w.heap.size w w' := by
 have HB := zA (Below.refl w.heap.size w)
 have H := h
 unfold zcx at H
 clear h
 revert H
 refine zit (fun c2b0 H => ?_) fun c2b0 H => ?_
 · obtain rfl := zsi H
   go_enter Tryz.func48, Tryz.ntmps48
   go_wp2
   exact zr_4
 have H' := zA H
 clear H
 go_enter Tryz.func48, Tryz.ntmps48
 go_wp2
 go_loopg [0, 3] k (fun kq v0 v3 w' => ∃ (x0_1 : Int) (x3_1 : ByteArray), v0 = .int .i64 x0_1 ∧ v3 = .string x3_1 ∧ Aside0 (zct kq x0_1 x3_1 = some r) ∧ Aside0 (kq ≤ k) ∧ Aside0 (Below w.heap.size w w'))
 case atStart => exact ⟨(a0), ((⟨#[]⟩ : ByteArray)), zq5, zq5, H', ⟨zlr _⟩, ⟨zq2⟩⟩
 clear H'
 try clear c2b0
 obtain ⟨x0_1, x3_1, rfl, rfl, HA, HK1, HB⟩ := hrel
 cases gk with
 | zero => exact absurd HA.out (by simp [zct])
 | succ k1 =>
 have H := HA.out
 clear HA
 simp only [zct] at H
 by_cases c3 : x0_1 > 0
 rotate_left
 · rw [if_neg c3] at H
   have c3b0 := zdf c3
   clear c3
   by_cases c8 : 1 + x3_1.size ≤ 9223372036854775807
   rotate_left
   · rw [if_neg c8] at H
     exact absurd H (by simp)
   rw [if_pos c8] at H
   have c8b0 := eq_true c8
   have c8b1 := zdt c8
   try have c8b2 : (9223372036854775807 < 1 + x3_1.size) = False := eq_false (Nat.not_lt.2 c8)
   obtain rfl := zsi H
   go_wp2
   exact zr_4
 rw [if_pos c3] at H
 have c3b0 := zdt c3
 clear c3
 obtain ⟨y101, hy101⟩ : ∃ y_ : List Int, y_ = (([(wrap64 (48 + (Int.tmod x0_1 10))) % 256] : List Int)) := ⟨_, rfl⟩
 rw [← hy101] at H; try with_reducible replace H := zbs H
 have Ny101 := zA hy101
 clear hy101
 by_cases c4 : (strOfNums y101).size + x3_1.size ≤ 9223372036854775807
 rotate_left
 · rw [if_neg c4] at H
   exact absurd H (by simp)
 rw [if_pos c4] at H
 have c4b0 := eq_true c4
 have c4b1 := zdt c4
 try have c4b2 : (9223372036854775807 < (strOfNums y101).size + x3_1.size) = False := eq_false (Nat.not_lt.2 c4)
 have H' := zA H
 clear H
 go_wp2_with (first | ((with_reducible refine zgd 12 ?_); refine Kd.R_lit (Kd.int .u8) _ 5 ?hg (N := 12) ?hd (xs := ([(wrap64 (48 + (Int.tmod x0_1 10))) % 256] : List Int)) (inner := [.int .u8 ((wrap64 (48 + (Int.tmod x0_1 10))) % 256)]) (ok := fun _ => True) (okp := fun _ => True) ?hr ?hp (fun _ hk => hk) trivial (Below.refl _ _) (zlr _) (by simp) ?_; (case hd => rfl); (case hg => rfl); (case hr => go_simp <;> rfl); (case hp => exact (zaz (show Kd.M (Kd.int .u8) _ _ _ ((wrap64 (48 + (Int.tmod x0_1 10))) % 256) [.int .u8 ((wrap64 (48 + (Int.tmod x0_1 10))) % 256)] from rfl) (Reps.none _ _))); intro v102 w5 ho6 hb hg_ hnew_; clear hg_ hnew_; (first | rw [← Ny101.out] at ho6 | (simp only [Int.reduceToNat] at ho6; rw [← Ny101.out] at ho6)); have HO103 := zA (Kd.R_lower ho6 (zaf zq2)); replace HB := zA (zaa zq2 hb); clear hb ho6; have hcv7 := zzl (P := Tryz.prog) Tryz.underlying76 Tryz.underlying5 Tryz.underlying9 (Kd.own_of_R HO103.out)))
 go_roundg k1
 case measure => have := HK1.out; omega
 case rel => exact ⟨(wrap64 (Int.tdiv x0_1 10)), ((strOfNums y101) ++ x3_1), zq5, zq5, H', ⟨zq31 HK1⟩, ⟨zq2⟩⟩
def zb5 : Nat → List (S69) → Int → Int → Option (Int)
 | 0, _, _, _ => none
 | k + 1, x0, x1, x5 => if x5 < (x0.length : Int) then (if 0 ≤ x5 then ((zcx k x1).bind fun t102 => (if ((zag x0 x5).f0).toList = t102.toList then (if ((zag x0 x5).f1) = (wrap64 (x1 + 1)) then (if ((zag x0 x5).f2) = (wrap64 ((wrap64 (x1 + 1)) + 1)) then (if ((zag x0 x5).f3) = (wrap64 ((wrap64 ((wrap64 (x1 + 1)) + 1)) + 1)) then (if ((zag x0 x5).f4) = (wrap64 ((wrap64 ((wrap64 ((wrap64 (x1 + 1)) + 1)) + 1)) + 1)) then (zb5 k x0 (wrap64 ((wrap64 ((wrap64 ((wrap64 ((wrap64 (x1 + 1)) + 1)) + 1)) + 1)) + 1)) (wrap64 (x5 + 1))) else (none)) else (none)) else (none)) else (none)) else (none))) else (none)) else (some x1)
def zew (k : Nat) (l0 : List (S69)) (a1 : Int) : Option (Int) := zb5 k l0 a1 0
theorem zke : ∀ k, (∀ y0 y1 y2, LeO (zb5 k y0 y1 y2) (zb5 (k + 1) y0 y1 y2))
 | 0 => fun _ _ _ r h => by simp [zb5] at h
 | k + 1 => by
   have ih0 := zke k
   · intro y0 y1 y2
     unfold zb5
     exact zm2 ih0 zed
theorem zlp : ∀ a0 a1 k, LeO (zew k a0 a1) (zew (k + 1) a0 a1) := by
 intro a0 a1 k
 have ih0 := zke k
 unfold zew
 exact zm2 ih0 zed
def laws_heldInstrS.T4 : Bool × List (List Nat × List Nat) := (true, [([], []), ([], []), ([0, 1], [0, 1]), ([2], [2]), ([3], [3]), ([], []), ([5], [5]), ([4, 6], [4, 6])])
def zqp : List Nat := [0, 0, 3, 7, 15, 0, 32, 127]
theorem zph : rtab .any (zs3 Tryz.f20 4) = laws_heldInstrS.T4 := by kernel_rfl
theorem zoy : zis laws_heldInstrS.T4.2 zqp = true := by kernel_rfl
theorem zoz (k : Nat) (A0 : Option Addr) (c0 : Nat) (l0 : List (S69)) (a1 : Int) (r : Int) (w : World) (hr0 : Kd.C k69 w A0 l0.length l0) (hc0 : l0.length ≤ c0) (h : zew k l0 a1 = some r) :
   Calls Tryz.prog 20 #[.slice A0 l0.length c0, .int .i64 a1] w fun e w' => e = .returned (.int .i64 r) ∧ Below w.heap.size w w' := by
 have HR0 := zA hr0
 have HC0 := zA hc0
 clear hr0 hc0
 have HB := zA (Below.refl w.heap.size w)
 have H := h
 unfold zew at H
 clear h
 have H' := zA H
 clear H
 go_enter Tryz.func20, Tryz.ntmps20
 go_wp2
 go_loopg [1, 5] k (fun kq v1 v5 w' => ∃ (x1_1 : Int) (x5_1 : Int), v1 = .int .i64 x1_1 ∧ v5 = .int .i64 x5_1 ∧ Aside0 (zb5 kq l0 x1_1 x5_1 = some r) ∧ Aside0 (kq ≤ k) ∧ Aside0 (Below w.heap.size w w'))
 case atStart => exact ⟨(a1), (0), zq5, zq5, H', ⟨zlr _⟩, ⟨zq2⟩⟩
 clear H'
 obtain ⟨x1_1, x5_1, rfl, rfl, HA, HK1, HB⟩ := hrel
 cases gk with
 | zero => exact absurd HA.out (by simp [zb5])
 | succ k1 =>
 have H := HA.out
 clear HA
 simp only [zb5] at H
 revert H
 refine zit (fun c3 H => ?_) fun c3 H => ?_
 rotate_left
 · obtain rfl := zsi H
   go_wp2
   exact zr_4
 revert H
 refine zin fun c4 H => ?_
 replace H := zob H
 obtain ⟨t102, A50, H⟩ := H
 have A5 := zA A50
 clear A50
 by_cases c6 : ((zag l0 x5_1).f0).toList = t102.toList
 rotate_left
 · rw [if_neg c6] at H
   cases H
 rw [if_pos c6] at H
 obtain ⟨c6b0, c6b1⟩ := zbe c6
 clear c6
 by_cases c7 : ((zag l0 x5_1).f1) = (wrap64 (x1_1 + 1))
 rotate_left
 · rw [if_neg c7] at H
   cases H
 rw [if_pos c7] at H
 obtain ⟨c7b0, c7b1⟩ := zbe c7
 clear c7
 by_cases c8 : ((zag l0 x5_1).f2) = (wrap64 ((wrap64 (x1_1 + 1)) + 1))
 rotate_left
 · rw [if_neg c8] at H
   cases H
 rw [if_pos c8] at H
 obtain ⟨c8b0, c8b1⟩ := zbe c8
 clear c8
 by_cases c9 : ((zag l0 x5_1).f3) = (wrap64 ((wrap64 ((wrap64 (x1_1 + 1)) + 1)) + 1))
 rotate_left
 · rw [if_neg c9] at H
   cases H
 rw [if_pos c9] at H
 obtain ⟨c9b0, c9b1⟩ := zbe c9
 clear c9
 by_cases c10 : ((zag l0 x5_1).f4) = (wrap64 ((wrap64 ((wrap64 ((wrap64 (x1_1 + 1)) + 1)) + 1)) + 1))
 rotate_left
 · rw [if_neg c10] at H
   cases H
 rw [if_pos c10] at H
 obtain ⟨c10b0, c10b1⟩ := zbe c10
 clear c10
 have H' := zA H
 clear H
 try go_wp2
 replace HB := zA (zbd HB.out)
 obtain ⟨p101, q101⟩ := zpq x5_1 l0.length
 obtain ⟨ad101, e101, hx101_0, hx101_1, hx101_2, hx101_3, hx101_4⟩ := zog HR0.out x5_1 (zoe p101) (zoe q101)
 have hw101_4 := hx101_4
 have hw101_3 := hx101_3
 have hw101_2 := hx101_2
 have hw101_1 := hx101_1
 have hw101_0 := hx101_0
 cases e101
 replace hx101_0 := zkep HB.out hx101_0
 replace hx101_1 := zkep HB.out hx101_1
 replace hx101_2 := zkep HB.out hx101_2
 replace hx101_3 := zkep HB.out hx101_3
 replace hx101_4 := zkep HB.out hx101_4
 refine zne (n := 8) (S := fun w' => w'.cell? (ad101.add ((x5_1).toNat * 5)) = some (.string ((zag l0 x5_1).f0)) ∧ w'.cell? ⟨(ad101.add ((x5_1).toNat * 5)).block, (ad101.add ((x5_1).toNat * 5)).off + 1, none⟩ = some (.int .i64 ((zag l0 x5_1).f1)) ∧ w'.cell? ⟨(ad101.add ((x5_1).toNat * 5)).block, (ad101.add ((x5_1).toNat * 5)).off + 2, none⟩ = some (.int .i64 ((zag l0 x5_1).f2)) ∧ w'.cell? ⟨(ad101.add ((x5_1).toNat * 5)).block, (ad101.add ((x5_1).toNat * 5)).off + 3, none⟩ = some (.int .i64 ((zag l0 x5_1).f3)) ∧ w'.cell? ⟨(ad101.add ((x5_1).toNat * 5)).block, (ad101.add ((x5_1).toNat * 5)).off + 4, none⟩ = some (.int .i64 ((zag l0 x5_1).f4))) (ds := []) #[false, false, false, false, false, false, false, false] zq23 rfl rfl ⟨(zkep HB.out hw101_0), (zkep HB.out hw101_1), (zkep HB.out hw101_2), (zkep HB.out hw101_3), (zkep HB.out hw101_4)⟩ (fun hHeld => ?_); refine zhk zph zoy (fun HT_ HW_ => ?_)
 generalize wr.drew = w11 at HB hx101_0 hx101_1 hx101_2 hx101_3 hx101_4 hHeld ⊢
 refine zpu 0 12 HT_ ?_
 refine zpu 1 13 HT_ ?_
 refine zpu 2 14 HT_ ?_
 refine zpu 3 15 HT_ ?_
 refine zpu 5 17 HT_ ?_
 refine ztu 4 16 HT_ HW_ hHeld ?_
 refine one_ (i := 6) (N := some 18) #[true, true, true, true, true, true, true, false] rfl rfl (zhj HT_.out zq23) (by decide) (fun K hK => ?_)
 refine zgo Tryz.func48 (zh1 k1 x1_1 t102 _ A5.out) ?_
 rintro e w12 ⟨rfl, hb⟩
 refine ⟨_, rfl, ?_⟩
 replace HB := zA (zaa zq2 hb)
 (try clear hb)
 (try clear hb2)
 (try clear hk)
 (try clear hi)
 refine hK.out _ _ ⟨(zkep HB.out hw101_0), (zkep HB.out hw101_1), (zkep HB.out hw101_2), (zkep HB.out hw101_3), (zkep HB.out hw101_4)⟩ (fun hHeld => ?_)
 clear hK K
 refine znm 18 ?_
 refine zpu 7 19 HT_ ?_
 refine zrb (zj4 HT_.out zq23) ?_
 obtain ⟨p103, q103⟩ := zpq x5_1 l0.length
 obtain ⟨ad103, e103, hx103_0, hx103_1, hx103_2, hx103_3, hx103_4⟩ := zog HR0.out x5_1 (zoe p103) (zoe q103)
 obtain rfl : ad101 = ad103 := zq61
 replace hx103_0 := zkep HB.out hx103_0
 replace hx103_1 := zkep HB.out hx103_1
 replace hx103_2 := zkep HB.out hx103_2
 replace hx103_3 := zkep HB.out hx103_3
 replace hx103_4 := zkep HB.out hx103_4
 obtain ⟨p104, q104⟩ := zpq x5_1 l0.length
 obtain ⟨ad104, e104, hx104_0, hx104_1, hx104_2, hx104_3, hx104_4⟩ := zog HR0.out x5_1 (zoe p104) (zoe q104)
 obtain rfl : ad101 = ad104 := (by injection e104)
 replace hx104_0 := zkep HB.out hx104_0
 replace hx104_1 := zkep HB.out hx104_1
 replace hx104_2 := zkep HB.out hx104_2
 replace hx104_3 := zkep HB.out hx104_3
 replace hx104_4 := zkep HB.out hx104_4
 obtain ⟨p105, q105⟩ := zpq x5_1 l0.length
 obtain ⟨ad105, e105, hx105_0, hx105_1, hx105_2, hx105_3, hx105_4⟩ := zog HR0.out x5_1 (zoe p105) (zoe q105)
 obtain rfl : ad101 = ad105 := (by injection e105)
 replace hx105_0 := zkep HB.out hx105_0
 replace hx105_1 := zkep HB.out hx105_1
 replace hx105_2 := zkep HB.out hx105_2
 replace hx105_3 := zkep HB.out hx105_3
 replace hx105_4 := zkep HB.out hx105_4
 obtain ⟨p106, q106⟩ := zpq x5_1 l0.length
 obtain ⟨ad106, e106, hx106_0, hx106_1, hx106_2, hx106_3, hx106_4⟩ := zog HR0.out x5_1 (zoe p106) (zoe q106)
 obtain rfl : ad101 = ad106 := (by injection e106)
 replace hx106_0 := zkep HB.out hx106_0
 replace hx106_1 := zkep HB.out hx106_1
 replace hx106_2 := zkep HB.out hx106_2
 replace hx106_3 := zkep HB.out hx106_3
 replace hx106_4 := zkep HB.out hx106_4
 try go_wp2
 go_roundg k1
 case measure => have := HK1.out; omega
 case rel => exact ⟨(wrap64 ((wrap64 ((wrap64 ((wrap64 ((wrap64 (x1_1 + 1)) + 1)) + 1)) + 1)) + 1)), (wrap64 (x5_1 + 1)), zq5, zq5, H', ⟨zq31 HK1⟩, ⟨zq2⟩⟩
def zbw : Nat → List (List (S69)) → Int → Int → Option (Int)
 | 0, _, _, _ => none
 | k + 1, x0, x1, x5 => if x5 < (x0.length : Int) then (if 0 ≤ x5 then ((zew k (zji x0 x5) x1).bind fun t102 => (if t102 < 0 then (none) else (zbw k x0 t102 (wrap64 (x5 + 1))))) else (none)) else (some x1)
def zee (k : Nat) (l0 : List (List (S69))) (a1 : Int) : Option (Int) := zbw k l0 a1 0
theorem zjt : ∀ k, (∀ y0 y1 y2, LeO (zbw k y0 y1 y2) (zbw (k + 1) y0 y1 y2))
 | 0 => fun _ _ _ r h => by simp [zbw] at h
 | k + 1 => by
   have ih0 := zjt k
   · intro y0 y1 y2
     unfold zbw
     exact zm2 ih0 zlp
theorem zv1 : ∀ a0 a1 k, LeO (zee k a0 a1) (zee (k + 1) a0 a1) := by
 intro a0 a1 k
 have ih0 := zjt k
 unfold zee
 exact zm2 ih0 zlp
theorem zkf (k : Nat) (A0 : Option Addr) (c0 : Nat) (l0 : List (List (S69))) (a1 : Int) (r : Int) (w : World) (hr0 : Kd.C (Kd.slice 69 k69) w A0 l0.length l0) (hc0 : l0.length ≤ c0) (h : zee k l0 a1 = some r) :
   Calls Tryz.prog 29 #[.slice A0 l0.length c0, .int .i64 a1] w fun e w' => e = .returned (.int .i64 r) ∧ Below w.heap.size w w' := by
 have HR0 := zA hr0
 have HC0 := zA hc0
 clear hr0 hc0
 have HB := zA (Below.refl w.heap.size w)
 have H := h
 unfold zee at H
 clear h
 have H' := zA H
 clear H
 go_enter Tryz.func29, Tryz.ntmps29
 go_wp2
 go_loopg [1, 5] k (fun kq v1 v5 w' => ∃ (x1_1 : Int) (x5_1 : Int), v1 = .int .i64 x1_1 ∧ v5 = .int .i64 x5_1 ∧ Aside0 (zbw kq l0 x1_1 x5_1 = some r) ∧ Aside0 (kq ≤ k) ∧ Aside0 (Below w.heap.size w w'))
 case atStart => exact ⟨(a1), (0), zq5, zq5, H', ⟨zlr _⟩, ⟨zq2⟩⟩
 clear H'
 obtain ⟨x1_1, x5_1, rfl, rfl, HA, HK1, HB⟩ := hrel
 cases gk with
 | zero => exact absurd HA.out (by simp [zbw])
 | succ k1 =>
 have H := HA.out
 clear HA
 simp only [zbw] at H
 revert H
 refine zit (fun c3 H => ?_) fun c3 H => ?_
 rotate_left
 · obtain rfl := zsi H
   go_wp2
   exact zr_4
 revert H
 refine zin fun c4 H => ?_
 replace H := zob H
 obtain ⟨t102, A50, H⟩ := H
 have A5 := zA A50
 clear A50
 by_cases c6 : t102 < 0
 · rw [if_pos c6] at H
   cases H
 rw [if_neg c6] at H
 have c6b0 := zdf c6
 clear c6
 have H' := zA H
 clear H
 obtain ⟨p101, q101⟩ := zpq x5_1 l0.length
 obtain ⟨ad101, A101_0, c101_0, e101, hx101_0, hl101_0, hi101_0⟩ := zxv HR0.out x5_1 (zoe p101) (zoe q101)
 cases e101
 replace hx101_0 := zkep HB.out hx101_0
 have HR101_0 := zA hi101_0
 have HC101_0 := zA hl101_0
 clear hi101_0 hl101_0
 go_wp2_with (first | ((with_reducible refine zgc 20 ?_); refine zca 17 Tryz.func20 #[.slice A101_0 (zji l0 x5_1).length c101_0, .int .i64 x1_1] (zoz k1 _ _ (zji l0 x5_1) x1_1 t102 _ (zq7 HR101_0) HC101_0.out A5.out) ?_; rintro e w8 ⟨rfl, hb⟩; refine ⟨_, rfl, ?_⟩; replace HB := zA (zaa zq2 hb); (try clear hb)))
 go_roundg k1
 case measure => have := HK1.out; omega
 case rel => exact ⟨(t102), (wrap64 (x5_1 + 1)), zq5, zq5, H', ⟨zq31 HK1⟩, ⟨zq2⟩⟩
def zcu : Nat → List Int → Int → Int → Option (Int × List Int)
 | 0, _, _, _ => none
 | k + 1, x0, x1, x5 => if x5 < (x0.length : Int) then (if 0 ≤ x5 then (zcu k (x0.set (x5 : Int).toNat x1) (wrap64 (x1 + 1)) (wrap64 (x5 + 1))) else (none)) else (some (x1, x0))
def zft (k : Nat) (l0 : List Int) (a1 : Int) : Option (Int × List Int) := zcu k l0 a1 0
theorem zlq : ∀ k, (∀ y0 y1 y2, LeO (zcu k y0 y1 y2) (zcu (k + 1) y0 y1 y2))
 | 0 => fun _ _ _ r h => by simp [zcu] at h
 | k + 1 => by
   have ih0 := zlq k
   · intro y0 y1 y2
     unfold zcu
     exact zm1 ih0
theorem zqq : ∀ a0 a1 k, LeO (zft k a0 a1) (zft (k + 1) a0 a1) := by
 intro a0 a1 k
 have ih0 := zlq k
 unfold zft
 exact zm1 ih0
theorem zp2 (k : Nat) (P0_ : Nat → Prop) (u9000_ : Value) (l0 : List Int) (a1 : Int) (r1 : Int) (r2 : List Int) (w0 w : World) (hB : Below w0.heap.size w0 w) (ho0 : Kd.R (Kd.int .i64) 3 w w0.heap.size P0_ u9000_ l0) (h : zft k l0 a1 = some (r1, r2)) :
   Calls Tryz.prog 50 #[u9000_, .int .i64 a1] w fun e w' => e = .returned (.int .i64 r1) ∧ Kd.R (Kd.int .i64) 3 w' w0.heap.size (fun k_ => (P0_ k_ ∨ w.heap.size ≤ k_)) u9000_ r2 ∧ Below w0.heap.size w0 w' ∧ Kept w w' (fun k_ => P0_ k_) := by
 have HO0 := zA (show Kd.R (Kd.int .i64) 3 w w0.heap.size (fun k_ => (P0_ k_ ∨ w.heap.size ≤ k_)) u9000_ l0 from Kd.R_mono ho0 (fun k_ hk => (.inl hk)))
 have HK := zA (Kept.refl w (fun k_ => P0_ k_))
 have HW0 := zA hB.size
 have HB := zA hB
 clear hB
 have H := h
 unfold zft at H
 clear h
 have H' := zA H
 clear H
 go_enter Tryz.func50, Tryz.ntmps50
 go_wp2
 go_loopg [1, 5] k (fun kq v1 v5 w' => ∃ (x0_1 : List Int) (x1_1 : Int) (x5_1 : Int), v1 = .int .i64 x1_1 ∧ v5 = .int .i64 x5_1 ∧ Aside0 (zcu kq x0_1 x1_1 x5_1 = some (r1, r2)) ∧ Aside0 (kq ≤ k) ∧ Aside0 (Kd.R (Kd.int .i64) 3 w' w0.heap.size (fun k_ => (P0_ k_ ∨ w.heap.size ≤ k_)) u9000_ x0_1) ∧ Aside0 (Kept w w' (fun k_ => P0_ k_)) ∧ Aside0 (Below w0.heap.size w0 w'))
 case atStart => exact ⟨(l0), (a1), (0), zq5, zq5, H', ⟨zlr _⟩, ⟨zq3 HO0⟩, ⟨zq10⟩, ⟨zq2⟩⟩
 clear H'
 obtain ⟨x0_1, x1_1, x5_1, rfl, rfl, HA, HK1, HO_0, HK, HB⟩ := hrel
 cases gk with
 | zero => exact absurd HA.out (by simp [zcu])
 | succ k1 =>
 have H := HA.out
 clear HA
 simp only [zcu] at H
 revert H
 refine zit (fun c3 H => ?_) fun c3 H => ?_
 rotate_left
 · simp only [Option.some.injEq, Prod.mk.injEq] at H
   obtain ⟨rfl, rfl⟩ := H
   obtain ⟨Ao9, co9, eo9⟩ := Kd.R_slice HO_0.out
   subst eo9
   go_wp2
   go_ret
   exact ⟨zq4, zq3 HO_0, zq2, zq10⟩
 revert H
 refine zin fun c4 H => ?_
 obtain ⟨y101, hy101⟩ : ∃ y_ : List Int, y_ = (x0_1.set (x5_1 : Int).toNat x1_1) := ⟨_, rfl⟩
 rw [← hy101] at H; try with_reducible replace H := zbs H
 have Ny101 := zA hy101
 clear hy101
 have H' := zA H
 clear H
 obtain ⟨Ao6, co6, eo6⟩ := Kd.R_slice HO_0.out
 subst eo6
 have p5 : 0 ≤ (x5_1 : Int) := zde zq14
 have q5 : (x5_1 : Int) < ((x0_1.length : Int) : Int) := zde zq14
 obtain ⟨go5, co5, eo5, gb5, gl5, cl5, HG5⟩ := Kd.R_form HO_0.out (by omega)
 (first | cases eo5 | (injection eo5 with ea_ en_ ec_; (first | subst ea_ | (injection ea_ with ea_; subst ea_)); subst ec_; clear en_))
 have GB5 := zA gb5
 have GG5 := zA HG5
 clear gb5 gl5 HG5
 have HMgo5 := zA (show (P0_ go5 ∨ w.heap.size ≤ go5) from (HO_0.out.1 _ rfl))
 obtain ⟨hx5_0, hf5_0⟩ := Kd.R_celln 0 HO_0.out (x5_1 : Int) p5 q5
 replace p5 := eq_true p5
 replace q5 := eq_true q5
 have HP7 := Kd.R_putg HO_0.out (x5_1 : Int) x1_1
 go_wp2_with (first | ((with_reducible refine zgs 3 15 ?_); refine zse (wr.setCell ⟨go5, (x5_1 : Int).toNat, none⟩ (.int .i64 x1_1)) ?_; intro w8 hw; have hg : wr.grownBy w8 (some go5) := (by rw [hw]; exact HP7.2); have hp_ : Kd.R (Kd.int .i64) 3 w8 w0.heap.size (fun k_ => (P0_ k_ ∨ w.heap.size ≤ k_)) (.slice (some ⟨go5, 0, none⟩) x0_1.length co6) y101 := (by rw [hw, Ny101.out]; exact HP7.1); clear HP7; replace HB := zA ((zq32 GB5 : Below w0.heap.size w0 w8)); replace HK := zA (ze6 (S := (fun k_ => P0_ k_)) hg zq10 (fun k_ e_ => (HO_0.out.1 k_ e_))); replace HO_0 := zA (hp_); clear hg hw hp_))
 go_roundg k1
 case measure => have := HK1.out; omega
 case rel => exact ⟨(y101), (wrap64 (x1_1 + 1)), (wrap64 (x5_1 + 1)), zq5, zq5, H', ⟨zq31 HK1⟩, ⟨zq3 HO_0⟩, ⟨zq10⟩, ⟨zq2⟩⟩
def zby : Nat → List ByteArray → Int → Int → Option (Int × List ByteArray)
 | 0, _, _, _ => none
 | k + 1, x0, x1, x5 => if x5 < (x0.length : Int) then ((zcx k x1).bind fun t101 => (if 0 ≤ x5 then (zby k (x0.set (x5 : Int).toNat t101) (wrap64 (x1 + 1)) (wrap64 (x5 + 1))) else (none))) else (some (x1, x0))
def ze4 (k : Nat) (l0 : List ByteArray) (a1 : Int) : Option (Int × List ByteArray) := zby k l0 a1 0
theorem zju : ∀ k, (∀ y0 y1 y2, LeO (zby k y0 y1 y2) (zby (k + 1) y0 y1 y2))
 | 0 => fun _ _ _ r h => by simp [zby] at h
 | k + 1 => by
   have ih0 := zju k
   · intro y0 y1 y2
     unfold zby
     exact zm2 ih0 zed
theorem zo0 : ∀ a0 a1 k, LeO (ze4 k a0 a1) (ze4 (k + 1) a0 a1) := by
 intro a0 a1 k
 have ih0 := zju k
 unfold ze4
 exact zm2 ih0 zed
theorem zop (k : Nat) (P0_ : Nat → Prop) (u9000_ : Value) (l0 : List ByteArray) (a1 : Int) (r1 : Int) (r2 : List ByteArray) (w0 w : World) (hB : Below w0.heap.size w0 w) (ho0 : Kd.R Kd.string 9 w w0.heap.size P0_ u9000_ l0) (h : ze4 k l0 a1 = some (r1, r2)) :
   Calls Tryz.prog 49 #[u9000_, .int .i64 a1] w fun e w' => e = .returned (.int .i64 r1) ∧ Kd.R Kd.string 9 w' w0.heap.size (fun k_ => (P0_ k_ ∨ w.heap.size ≤ k_)) u9000_ r2 ∧ Below w0.heap.size w0 w' ∧ Kept w w' (fun k_ => P0_ k_) := by
 have HO0 := zA (show Kd.R Kd.string 9 w w0.heap.size (fun k_ => (P0_ k_ ∨ w.heap.size ≤ k_)) u9000_ l0 from Kd.R_mono ho0 (fun k_ hk => (.inl hk)))
 have HK := zA (Kept.refl w (fun k_ => P0_ k_))
 have HW0 := zA hB.size
 have HB := zA hB
 clear hB
 have H := h
 unfold ze4 at H
 clear h
 have H' := zA H
 clear H
 go_enter Tryz.func49, Tryz.ntmps49
 go_wp2
 go_loopg [1, 5] k (fun kq v1 v5 w' => ∃ (x0_1 : List ByteArray) (x1_1 : Int) (x5_1 : Int), v1 = .int .i64 x1_1 ∧ v5 = .int .i64 x5_1 ∧ Aside0 (zby kq x0_1 x1_1 x5_1 = some (r1, r2)) ∧ Aside0 (kq ≤ k) ∧ Aside0 (Kd.R Kd.string 9 w' w0.heap.size (fun k_ => (P0_ k_ ∨ w.heap.size ≤ k_)) u9000_ x0_1) ∧ Aside0 (Kept w w' (fun k_ => P0_ k_)) ∧ Aside0 (Below w0.heap.size w0 w'))
 case atStart => exact ⟨(l0), (a1), (0), zq5, zq5, H', ⟨zlr _⟩, ⟨zq3 HO0⟩, ⟨zq10⟩, ⟨zq2⟩⟩
 clear H'
 obtain ⟨x0_1, x1_1, x5_1, rfl, rfl, HA, HK1, HO_0, HK, HB⟩ := hrel
 cases gk with
 | zero => exact absurd HA.out (by simp [zby])
 | succ k1 =>
 have H := HA.out
 clear HA
 simp only [zby] at H
 revert H
 refine zit (fun c3 H => ?_) fun c3 H => ?_
 rotate_left
 · simp only [Option.some.injEq, Prod.mk.injEq] at H
   obtain ⟨rfl, rfl⟩ := H
   obtain ⟨Ao11, co11, eo11⟩ := Kd.R_slice HO_0.out
   subst eo11
   go_wp2
   go_ret
   exact ⟨zq4, zq3 HO_0, zq2, zq10⟩
 replace H := zob H
 obtain ⟨t101, A40, H⟩ := H
 have A4 := zA A40
 clear A40
 revert H
 refine zin fun c5 H => ?_
 obtain ⟨y102, hy102⟩ : ∃ y_ : List ByteArray, y_ = (x0_1.set (x5_1 : Int).toNat t101) := ⟨_, rfl⟩
 rw [← hy102] at H; try with_reducible replace H := zbs H
 have Ny102 := zA hy102
 clear hy102
 have H' := zA H
 clear H
 obtain ⟨Ao7, co7, eo7⟩ := Kd.R_slice HO_0.out
 subst eo7
 go_wp2_with (first | ((with_reducible refine zgc 48 ?_); refine zcl 15 Tryz.func48 (zh1 k1 x1_1 t101 _ A4.out) ?_; rintro e w8 ⟨rfl, hb⟩; refine ⟨_, rfl, ?_⟩; replace HO_0 := zA (zRb (zq3 HO_0) hb); replace HK := zA (Kept.below (S := (fun k_ => P0_ k_)) zq10 hb); replace HB := zA (zaa zq2 hb); (try clear hb); have p6 : 0 ≤ (x5_1 : Int) := zde zq14; have q6 : (x5_1 : Int) < ((x0_1.length : Int) : Int) := zde zq14; obtain ⟨go6, co6, eo6, gb6, gl6, cl6, HG6⟩ := Kd.R_form HO_0.out (by omega); (first | cases eo6 | (injection eo6 with ea_ en_ ec_; (first | subst ea_ | (injection ea_ with ea_; subst ea_)); subst ec_; clear en_)); have GB6 := zA gb6; have GG6 := zA HG6; clear gb6 gl6 HG6; have HMgo6 := zA (show (P0_ go6 ∨ w.heap.size ≤ go6) from (HO_0.out.1 _ rfl)); obtain ⟨hx6_0, hf6_0⟩ := Kd.R_celln (⟨#[]⟩ : ByteArray) HO_0.out (x5_1 : Int) p6 q6; replace p6 := eq_true p6; replace q6 := eq_true q6; obtain ⟨hy9_, hz9_⟩ := Kd.R_celln (⟨#[]⟩ : ByteArray) HO_0.out (x5_1 : Int) (zde zq14) (zde zq14); have HP9 := Kd.R_putg HO_0.out (x5_1 : Int) t101) | ((with_reducible refine zgs 9 16 ?_); refine zse (w8.setCell ⟨go6, (x5_1 : Int).toNat, none⟩ (.string t101)) ?_; intro w10 hw; have hg : w8.grownBy w10 (some go6) := (by rw [hw]; exact HP9.2); have hp_ : Kd.R Kd.string 9 w10 w0.heap.size (fun k_ => (P0_ k_ ∨ w.heap.size ≤ k_)) (.slice (some ⟨go6, 0, none⟩) x0_1.length co7) y102 := (by rw [hw, Ny102.out]; exact HP9.1); clear HP9; replace HB := zA ((zq32 GB6 : Below w0.heap.size w0 w10)); replace HK := zA (ze6 (S := (fun k_ => P0_ k_)) hg zq10 (fun k_ e_ => (HO_0.out.1 k_ e_))); replace HO_0 := zA (hp_); clear hg hw hp_))
 go_roundg k1
 case measure => have := HK1.out; omega
 case rel => exact ⟨(y102), (wrap64 (x1_1 + 1)), (wrap64 (x5_1 + 1)), zq5, zq5, H', ⟨zq31 HK1⟩, ⟨zq3 HO_0⟩, ⟨zq10⟩, ⟨zq2⟩⟩
def zex (k : Nat) (l0_0 : List ByteArray) (l0_1 : List Int) (a1 : Int) : Option (Int × List ByteArray × List Int) := (ze4 k l0_0 a1).bind fun bt102 => ((zft k l0_1 bt102.1).bind fun bt104 => (some (bt104.1, bt102.2, bt104.2)))
theorem zwz : ∀ a0 a1 a2 k, LeO (zex k a0 a1 a2) (zex (k + 1) a0 a1 a2) := by
 intro a0 a1 a2 k
 unfold zex
 exact zm2 zqq zo0
theorem zo1 (k : Nat) (P0_0_ : Nat → Prop) (u9000_ : Value) (l0_0 : List ByteArray) (P0_1_ : Nat → Prop) (u9001_ : Value) (l0_1 : List Int) (a1 : Int) (r1 : Int) (r2 : List ByteArray) (r3 : List Int) (w0 w : World) (hB : Below w0.heap.size w0 w) (ho0_0 : Kd.R Kd.string 9 w w0.heap.size P0_0_ u9000_ l0_0) (ho0_1 : Kd.R (Kd.int .i64) 3 w w0.heap.size P0_1_ u9001_ l0_1) (h : zex k l0_0 l0_1 a1 = some (r1, r2, r3)) :
   Calls Tryz.prog 18 #[.agg #[u9000_, u9001_], .int .i64 a1] w fun e w' => e = .returned (.int .i64 r1) ∧ Kd.R Kd.string 9 w' w0.heap.size (fun k_ => ((P0_0_ k_ ∨ P0_1_ k_) ∨ w.heap.size ≤ k_)) u9000_ r2 ∧ Kd.R (Kd.int .i64) 3 w' w0.heap.size (fun k_ => ((P0_0_ k_ ∨ P0_1_ k_) ∨ w.heap.size ≤ k_)) u9001_ r3 ∧ Below w0.heap.size w0 w' ∧ Kept w w' (fun k_ => P0_0_ k_ ∨ P0_1_ k_) := by
 have hu34 := Tryz.underlying34
 have HO0_0 := zA (show Kd.R Kd.string 9 w w0.heap.size (fun k_ => ((P0_0_ k_ ∨ P0_1_ k_) ∨ w.heap.size ≤ k_)) u9000_ l0_0 from Kd.R_mono ho0_0 (fun k_ hk => (.inl (.inl hk))))
 have HO0_1 := zA (show Kd.R (Kd.int .i64) 3 w w0.heap.size (fun k_ => ((P0_0_ k_ ∨ P0_1_ k_) ∨ w.heap.size ≤ k_)) u9001_ l0_1 from Kd.R_mono ho0_1 (fun k_ hk => (.inl (.inr hk))))
 have HK := zA (Kept.refl w (fun k_ => P0_0_ k_ ∨ P0_1_ k_))
 have HW0 := zA hB.size
 have HB := zA hB
 clear hB
 have H := h
 unfold zex at H
 clear h
 replace H := zob H
 obtain ⟨⟨t102, t103⟩, A30, H⟩ := H
 have A3 := zA A30
 clear A30
 replace H := zob H
 obtain ⟨⟨t104, t105⟩, A40, H⟩ := H
 have A4 := zA A40
 clear A40
 simp only [Option.some.injEq, Prod.mk.injEq] at H
 obtain ⟨rfl, rfl, rfl⟩ := H
 obtain ⟨Ao5, co5, eo5⟩ := Kd.R_slice HO0_0.out
 subst eo5
 obtain ⟨Ao6, co6, eo6⟩ := Kd.R_slice HO0_1.out
 subst eo6
 go_enter Tryz.func18, Tryz.ntmps18
 go_wp2_with (first | ((with_reducible refine zgd 2 ?_); refine zbx #[.slice Ao5 l0_0.length co5, .slice Ao6 l0_1.length co6] 34 ?_; intro gb101 hg w7 hbox hb; replace HO0_0 := zA (zRb (zq3 HO0_0) hb); replace HO0_1 := zA (zRb (zq3 HO0_1) hb); have BK101 := zA (hbox); have GW101 := zA ((by rw [hg]; exact (by first | exact HK.out.1 | exact (show Kept w _ (fun k_ => P0_0_ k_ ∨ P0_1_ k_) from by repeat (first | (with_reducible first | exact HK.out | apply Kept.alloc | apply Kept.drewN | apply Kept.drew) | exact HK.out)).1) : w.heap.size ≤ gb101)); replace HK := zA (Kept.below (S := (fun k_ => P0_0_ k_ ∨ P0_1_ k_)) zq10 hb); have GE101 := zA ((by rw [hg]; exact (zaf zq2) : w0.heap.size ≤ gb101)); replace HB := zA (zaa zq2 hb); clear hb hbox hg; obtain ⟨hcz8_0, hcz8_1, hfz8_0, hfz8_1⟩ := zd2 BK101) | ((with_reducible refine zgc 49 ?_); refine zca 8 Tryz.func49 #[.slice Ao5 l0_0.length co5, .int .i64 a1] (zop k (fun k_ => some k_ = (.slice Ao5 l0_0.length co5 : Value).ownBlock) (.slice Ao5 l0_0.length co5) l0_0 a1 t102 t103 w0 _ (zq1 GE101) (by exact Kd.R_tight rfl HO0_0.out) A3.out) ?_; rintro e w9 ⟨rfl, hy0, hb, hkp⟩; refine ⟨_, rfl, ?_⟩; replace HO0_1 := zA (Kd.R_mono (ok' := fun k_ => ((P0_0_ k_ ∨ P0_1_ k_) ∨ w.heap.size ≤ k_)) (Kd.R_keptB ((Kd.R_apart' HO0_1.out (Kd.R_typed HO0_0.out) (by decide))) hkp (fun k_ hk_ hs_ => (hk_.2) hs_)) (fun k_ hk_ => hk_.1.1)); replace BK101 := zA (zs8 (zq6 BK101) hkp (fun hs_ => (fun e_ => (Kd.R_ne HO0_0.out BK101.out (by decide)) e_) hs_)); replace HK := zA (Kept.then_ (S := (fun k_ => P0_0_ k_ ∨ P0_1_ k_)) (zq50 GW101) hkp (fun k_ hs_ => (fun e_ => (HO0_0.out.1 k_ e_.symm)) hs_)); replace HO0_0 := zA (Kd.R_reok rfl hy0 (fun k_ e_ => HO0_0.out.1 k_ e_)); replace HB := zA (hb); (try clear hb); (try clear hkp); (try clear hy0); obtain ⟨hcz10_0, hcz10_1⟩ := zc2 w9 (.slice Ao5 l0_0.length co5) (.slice Ao6 l0_1.length co6) BK101.out; obtain ⟨hfz10_0, hfz10_1⟩ := zf2 BK101.out) | ((with_reducible refine zgc 50 ?_); refine zca 12 Tryz.func50 #[.slice Ao6 l0_1.length co6, .int .i64 t102] (zp2 k (fun k_ => some k_ = (.slice Ao6 l0_1.length co6 : Value).ownBlock) (.slice Ao6 l0_1.length co6) l0_1 t102 t104 t105 w0 _ (zq1 GE101) (by exact Kd.R_tight rfl HO0_1.out) A4.out) ?_; rintro e w11 ⟨rfl, hy0, hb, hkp⟩; refine ⟨_, rfl, ?_⟩; replace HO0_0 := zA (Kd.R_mono (ok' := fun k_ => ((P0_0_ k_ ∨ P0_1_ k_) ∨ w.heap.size ≤ k_)) (Kd.R_keptB ((Kd.R_apart' HO0_0.out (Kd.R_typed HO0_1.out) (by decide))) hkp (fun k_ hk_ hs_ => (hk_.2) hs_)) (fun k_ hk_ => hk_.1.1)); replace BK101 := zA (zs8 (zq6 BK101) hkp (fun hs_ => (fun e_ => (Kd.R_ne HO0_1.out BK101.out (by decide)) e_) hs_)); replace HK := zA (Kept.then_ (S := (fun k_ => P0_0_ k_ ∨ P0_1_ k_)) (zq50 GW101) hkp (fun k_ hs_ => (fun e_ => (HO0_1.out.1 k_ e_.symm)) hs_)); replace HO0_1 := zA (Kd.R_reok rfl hy0 (fun k_ e_ => HO0_1.out.1 k_ e_)); replace HB := zA (hb); (try clear hb); (try clear hkp); (try clear hy0)))
 go_ret
 exact ⟨zq4, zq3 HO0_0, zq3 HO0_1, zq1 GE101, zq50 GW101⟩
def zb6 : Nat → List (S69) → Int → Int → Option (Int × (List (S69)))
 | 0, _, _, _ => none
 | k + 1, x0, x1, x5 => if x5 < (x0.length : Int) then ((zcx k x1).bind fun t101 => (if 0 ≤ x5 then ((some (x0.set (x5 : Int).toNat (⟨t101, (zag x0 x5).f1, (zag x0 x5).f2, (zag x0 x5).f3, (zag x0 x5).f4⟩ : S69) : List (S69))).bind fun y102 => ((some (y102.set (x5 : Int).toNat (⟨(zag y102 x5).f0, wrap64 (x1 + 1), (zag y102 x5).f2, (zag y102 x5).f3, (zag y102 x5).f4⟩ : S69) : List (S69))).bind fun y103 => ((some (y103.set (x5 : Int).toNat (⟨(zag y103 x5).f0, (zag y103 x5).f1, wrap64 ((wrap64 (x1 + 1)) + 1), (zag y103 x5).f3, (zag y103 x5).f4⟩ : S69) : List (S69))).bind fun y104 => ((some (y104.set (x5 : Int).toNat (⟨(zag y104 x5).f0, (zag y104 x5).f1, (zag y104 x5).f2, wrap64 ((wrap64 ((wrap64 (x1 + 1)) + 1)) + 1), (zag y104 x5).f4⟩ : S69) : List (S69))).bind fun y105 => (zb6 k (y105.set (x5 : Int).toNat (⟨(zag y105 x5).f0, (zag y105 x5).f1, (zag y105 x5).f2, (zag y105 x5).f3, wrap64 ((wrap64 ((wrap64 ((wrap64 (x1 + 1)) + 1)) + 1)) + 1)⟩ : S69)) (wrap64 ((wrap64 ((wrap64 ((wrap64 ((wrap64 (x1 + 1)) + 1)) + 1)) + 1)) + 1)) (wrap64 (x5 + 1))))))) else (none))) else (some (x1, x0))
def zey (k : Nat) (l0 : List (S69)) (a1 : Int) : Option (Int × (List (S69))) := zb6 k l0 a1 0
theorem zkg : ∀ k, (∀ y0 y1 y2, LeO (zb6 k y0 y1 y2) (zb6 (k + 1) y0 y1 y2))
 | 0 => fun _ _ _ r h => by simp [zb6] at h
 | k + 1 => by
   have ih0 := zkg k
   · intro y0 y1 y2
     unfold zb6
     exact zm2 ih0 zed
theorem zpi : ∀ a0 a1 k, LeO (zey k a0 a1) (zey (k + 1) a0 a1) := by
 intro a0 a1 k
 have ih0 := zkg k
 unfold zey
 exact zm2 ih0 zed
theorem zo2 (k : Nat) (P0_ : Nat → Prop) (u9000_ : Value) (l0 : List (S69)) (a1 : Int) (r1 : Int) (r2 : List (S69)) (w0 w : World) (hB : Below w0.heap.size w0 w) (ho0 : Kd.R k69 69 w w0.heap.size P0_ u9000_ l0) (h : zey k l0 a1 = some (r1, r2)) :
   Calls Tryz.prog 19 #[u9000_, .int .i64 a1] w fun e w' => e = .returned (.int .i64 r1) ∧ Kd.R k69 69 w' w0.heap.size (fun k_ => (P0_ k_ ∨ w.heap.size ≤ k_)) u9000_ r2 ∧ Below w0.heap.size w0 w' ∧ Kept w w' (fun k_ => P0_ k_) := by
 have HO0 := zA (show Kd.R k69 69 w w0.heap.size (fun k_ => (P0_ k_ ∨ w.heap.size ≤ k_)) u9000_ l0 from Kd.R_mono ho0 (fun k_ hk => (.inl hk)))
 have HK := zA (Kept.refl w (fun k_ => P0_ k_))
 have HW0 := zA hB.size
 have HB := zA hB
 clear hB
 have H := h
 unfold zey at H
 clear h
 have H' := zA H
 clear H
 go_enter Tryz.func19, Tryz.ntmps19
 go_wp2
 go_loopg [1, 5] k (fun kq v1 v5 w' => ∃ (x0_1 : List (S69)) (x1_1 : Int) (x5_1 : Int), v1 = .int .i64 x1_1 ∧ v5 = .int .i64 x5_1 ∧ Aside0 (zb6 kq x0_1 x1_1 x5_1 = some (r1, r2)) ∧ Aside0 (kq ≤ k) ∧ Aside0 (Kd.R k69 69 w' w0.heap.size (fun k_ => (P0_ k_ ∨ w.heap.size ≤ k_)) u9000_ x0_1) ∧ Aside0 (Kept w w' (fun k_ => P0_ k_)) ∧ Aside0 (Below w0.heap.size w0 w'))
 case atStart => exact ⟨(l0), (a1), (0), zq5, zq5, H', ⟨zlr _⟩, ⟨zq3 HO0⟩, ⟨zq10⟩, ⟨zq2⟩⟩
 clear H'
 obtain ⟨x0_1, x1_1, x5_1, rfl, rfl, HA, HK1, HO_0, HK, HB⟩ := hrel
 cases gk with
 | zero => exact absurd HA.out (by simp [zb6])
 | succ k1 =>
 have H := HA.out
 clear HA
 simp only [zb6] at H
 revert H
 refine zit (fun c3 H => ?_) fun c3 H => ?_
 rotate_left
 · simp only [Option.some.injEq, Prod.mk.injEq] at H
   obtain ⟨rfl, rfl⟩ := H
   obtain ⟨Ao23, co23, eo23⟩ := Kd.R_slice HO_0.out
   subst eo23
   go_wp2
   go_ret
   exact ⟨zq4, zq3 HO_0, zq2, zq10⟩
 replace H := zob H
 obtain ⟨t101, A40, H⟩ := H
 have A4 := zA A40
 clear A40
 revert H
 refine zin fun c5 H => ?_
 obtain ⟨y102, hy102⟩ : ∃ y_ : List (S69), y_ = (x0_1.set (x5_1 : Int).toNat (⟨t101, (zag x0_1 x5_1).f1, (zag x0_1 x5_1).f2, (zag x0_1 x5_1).f3, (zag x0_1 x5_1).f4⟩ : S69)) := ⟨_, rfl⟩
 rw [← hy102] at H; try with_reducible replace H := zbs H
 have Ny102 := zA hy102
 clear hy102
 obtain ⟨y103, hy103⟩ : ∃ y_ : List (S69), y_ = (y102.set (x5_1 : Int).toNat (⟨(zag y102 x5_1).f0, wrap64 (x1_1 + 1), (zag y102 x5_1).f2, (zag y102 x5_1).f3, (zag y102 x5_1).f4⟩ : S69)) := ⟨_, rfl⟩
 rw [← hy103] at H; try with_reducible replace H := zbs H
 have Ny103 := zA hy103
 clear hy103
 obtain ⟨y104, hy104⟩ : ∃ y_ : List (S69), y_ = (y103.set (x5_1 : Int).toNat (⟨(zag y103 x5_1).f0, (zag y103 x5_1).f1, wrap64 ((wrap64 (x1_1 + 1)) + 1), (zag y103 x5_1).f3, (zag y103 x5_1).f4⟩ : S69)) := ⟨_, rfl⟩
 rw [← hy104] at H; try with_reducible replace H := zbs H
 have Ny104 := zA hy104
 clear hy104
 obtain ⟨y105, hy105⟩ : ∃ y_ : List (S69), y_ = (y104.set (x5_1 : Int).toNat (⟨(zag y104 x5_1).f0, (zag y104 x5_1).f1, (zag y104 x5_1).f2, wrap64 ((wrap64 ((wrap64 (x1_1 + 1)) + 1)) + 1), (zag y104 x5_1).f4⟩ : S69)) := ⟨_, rfl⟩
 rw [← hy105] at H; try with_reducible replace H := zbs H
 have Ny105 := zA hy105
 clear hy105
 obtain ⟨y106, hy106⟩ : ∃ y_ : List (S69), y_ = (y105.set (x5_1 : Int).toNat (⟨(zag y105 x5_1).f0, (zag y105 x5_1).f1, (zag y105 x5_1).f2, (zag y105 x5_1).f3, wrap64 ((wrap64 ((wrap64 ((wrap64 (x1_1 + 1)) + 1)) + 1)) + 1)⟩ : S69)) := ⟨_, rfl⟩
 rw [← hy106] at H; try with_reducible replace H := zbs H
 have Ny106 := zA hy106
 clear hy106
 have H' := zA H
 clear H
 obtain ⟨Ao11, co11, eo11⟩ := Kd.R_slice HO_0.out
 subst eo11
 go_wp2_with (first | ((with_reducible refine zgc 48 ?_); refine zcl 15 Tryz.func48 (zh1 k1 x1_1 t101 _ A4.out) ?_; rintro e w12 ⟨rfl, hb⟩; refine ⟨_, rfl, ?_⟩; replace HO_0 := zA (zRb (zq3 HO_0) hb); replace HK := zA (Kept.below (S := (fun k_ => P0_ k_)) zq10 hb); replace HB := zA (zaa zq2 hb); (try clear hb); have p6 : 0 ≤ (x5_1 : Int) := zde zq14; have q6 : (x5_1 : Int) < ((x0_1.length : Int) : Int) := zde zq14; obtain ⟨go6, co6, eo6, gb6, gl6, cl6, HG6⟩ := Kd.R_form HO_0.out (by omega); (first | cases eo6 | (injection eo6 with ea_ en_ ec_; (first | subst ea_ | (injection ea_ with ea_; subst ea_)); subst ec_; clear en_)); have GB6 := zA gb6; have GG6 := zA HG6; clear gb6 gl6 HG6; have HMgo6 := zA (show (P0_ go6 ∨ w.heap.size ≤ go6) from (HO_0.out.1 _ rfl)); obtain ⟨ce6, hcl6, hM6, hcc6, hfr6⟩ := Kd.R_elem HO_0.out z69 (x5_1 : Int) p6 q6; obtain rfl := zh4 hM6; have hx6_0 : w12.cell? ⟨go6, (x5_1 : Int).toNat * 5, none⟩ = some (.string ((zag x0_1 x5_1).f0)) := hcc6 0 _ rfl; have hx6_1 : w12.cell? ⟨go6, (x5_1 : Int).toNat * 5 + 1, none⟩ = some (.int .i64 ((zag x0_1 x5_1).f1)) := hcc6 1 _ rfl; have hx6_2 : w12.cell? ⟨go6, (x5_1 : Int).toNat * 5 + 2, none⟩ = some (.int .i64 ((zag x0_1 x5_1).f2)) := hcc6 2 _ rfl; have hx6_3 : w12.cell? ⟨go6, (x5_1 : Int).toNat * 5 + 3, none⟩ = some (.int .i64 ((zag x0_1 x5_1).f3)) := hcc6 3 _ rfl; have hx6_4 : w12.cell? ⟨go6, (x5_1 : Int).toNat * 5 + 4, none⟩ = some (.int .i64 ((zag x0_1 x5_1).f4)) := hcc6 4 _ rfl; have hf6_0 : w12.frozen? ⟨go6, (x5_1 : Int).toNat * 5, none⟩ = false := hfr6 0; have hf6_1 : w12.frozen? ⟨go6, (x5_1 : Int).toNat * 5 + 1, none⟩ = false := hfr6 1; have hf6_2 : w12.frozen? ⟨go6, (x5_1 : Int).toNat * 5 + 2, none⟩ = false := hfr6 2; have hf6_3 : w12.frozen? ⟨go6, (x5_1 : Int).toNat * 5 + 3, none⟩ = false := hfr6 3; have hf6_4 : w12.frozen? ⟨go6, (x5_1 : Int).toNat * 5 + 4, none⟩ = false := hfr6 4; clear hcl6 hcc6 hfr6 hM6; replace p6 := eq_true p6; replace q6 := eq_true q6; have HX13 := zA (show Kd.R k69 69 w12 w0.heap.size (fun k_ => (P0_ k_ ∨ w.heap.size ≤ k_)) (.slice (some ⟨go6, 0, none⟩) x0_1.length co11) x0_1 from (zq3 HO_0)); obtain ⟨ce13, hcl13, hM13, hcc13, hfr13⟩ := Kd.R_elem HX13.out z69 (x5_1 : Int) (zde zq14) (zq12 HO_0); obtain rfl := zh4 hM13; have HP13 := Kd.R_seg HX13.out (x5_1 : Int) (zde zq14) (zq12 HO_0) (seg := [.string t101]) (j := 0) hcl13 hcc13 (show 1 ≤ 5 from by decide) (x' := (⟨t101, (zag x0_1 x5_1).f1, (zag x0_1 x5_1).f2, (zag x0_1 x5_1).f3, (zag x0_1 x5_1).f4⟩ : S69)) (zn4 _ _ _ (⟨t101, (zag x0_1 x5_1).f1, (zag x0_1 x5_1).f2, (zag x0_1 x5_1).f3, (zag x0_1 x5_1).f4⟩ : S69) ) (fun _ hk => hk); have hx13_0 := hcc13 0 _ rfl; (try simp only [show (k69).sz = 5 from rfl, Nat.mul_one, Nat.add_zero] at hx13_0); have hf13_0 := hfr13 0; (try simp only [show (k69).sz = 5 from rfl, Nat.mul_one, Nat.add_zero] at hf13_0); clear hcl13 hcc13 hfr13 hM13) | ((with_reducible refine zgs 9 17 ?_); refine zse (w12.setCell ⟨go6, (x5_1 : Int).toNat * 5, none⟩ (.string t101)) ?_; intro w14 hw; have hg : w12.grownBy w14 (some go6) := (by rw [hw]; exact HP13.2); have hp_ : Kd.R k69 69 w14 w0.heap.size (fun k_ => (P0_ k_ ∨ w.heap.size ≤ k_)) (.slice (some ⟨go6, 0, none⟩) x0_1.length co11) y102 := (by rw [hw, Ny102.out]; exact HP13.1); clear HP13; replace HB := zA ((zq32 GB6 : Below w0.heap.size w0 w14)); replace HK := zA (ze6 (S := (fun k_ => P0_ k_)) hg zq10 (fun k_ e_ => (HO_0.out.1 k_ e_))); replace HO_0 := zA (hp_); clear hg hw hp_; have p7 : 0 ≤ (x5_1 : Int) := zde zq14; have q7 : (x5_1 : Int) < ((x0_1.length : Int) : Int) := zde zq14; obtain ⟨ce7, hcl7, hM7, hcc7, hfr7⟩ := Kd.R_elem HO_0.out z69 (x5_1 : Int) p7 q7; obtain rfl := zh4 hM7; have hx7_0 : w14.cell? ⟨go6, (x5_1 : Int).toNat * 5, none⟩ = some (.string ((zag y102 x5_1).f0)) := hcc7 0 _ rfl; have hx7_1 : w14.cell? ⟨go6, (x5_1 : Int).toNat * 5 + 1, none⟩ = some (.int .i64 ((zag y102 x5_1).f1)) := hcc7 1 _ rfl; have hx7_2 : w14.cell? ⟨go6, (x5_1 : Int).toNat * 5 + 2, none⟩ = some (.int .i64 ((zag y102 x5_1).f2)) := hcc7 2 _ rfl; have hx7_3 : w14.cell? ⟨go6, (x5_1 : Int).toNat * 5 + 3, none⟩ = some (.int .i64 ((zag y102 x5_1).f3)) := hcc7 3 _ rfl; have hx7_4 : w14.cell? ⟨go6, (x5_1 : Int).toNat * 5 + 4, none⟩ = some (.int .i64 ((zag y102 x5_1).f4)) := hcc7 4 _ rfl; have hf7_0 : w14.frozen? ⟨go6, (x5_1 : Int).toNat * 5, none⟩ = false := hfr7 0; have hf7_1 : w14.frozen? ⟨go6, (x5_1 : Int).toNat * 5 + 1, none⟩ = false := hfr7 1; have hf7_2 : w14.frozen? ⟨go6, (x5_1 : Int).toNat * 5 + 2, none⟩ = false := hfr7 2; have hf7_3 : w14.frozen? ⟨go6, (x5_1 : Int).toNat * 5 + 3, none⟩ = false := hfr7 3; have hf7_4 : w14.frozen? ⟨go6, (x5_1 : Int).toNat * 5 + 4, none⟩ = false := hfr7 4; clear hcl7 hcc7 hfr7 hM7; replace p7 := eq_true p7; replace q7 := eq_true q7; have HX15 := zA (show Kd.R k69 69 w14 w0.heap.size (fun k_ => (P0_ k_ ∨ w.heap.size ≤ k_)) (.slice (some ⟨go6, 0, none⟩) x0_1.length co11) y102 from (zq3 HO_0)); obtain ⟨ce15, hcl15, hM15, hcc15, hfr15⟩ := Kd.R_elem HX15.out z69 (x5_1 : Int) (zde zq14) (zq12 HO_0); obtain rfl := zh4 hM15; have HP15 := Kd.R_seg HX15.out (x5_1 : Int) (zde zq14) (zq12 HO_0) (seg := [.int .i64 (wrap64 (x1_1 + 1))]) (j := 1) hcl15 hcc15 (show 2 ≤ 5 from by decide) (x' := (⟨(zag y102 x5_1).f0, wrap64 (x1_1 + 1), (zag y102 x5_1).f2, (zag y102 x5_1).f3, (zag y102 x5_1).f4⟩ : S69)) (zn4 _ _ _ (⟨(zag y102 x5_1).f0, wrap64 (x1_1 + 1), (zag y102 x5_1).f2, (zag y102 x5_1).f3, (zag y102 x5_1).f4⟩ : S69) ) (fun _ hk => hk); have hx15_1 := hcc15 1 _ rfl; (try simp only [show (k69).sz = 5 from rfl, Nat.mul_one, Nat.add_zero] at hx15_1); have hf15_1 := hfr15 1; (try simp only [show (k69).sz = 5 from rfl, Nat.mul_one, Nat.add_zero] at hf15_1); clear hcl15 hcc15 hfr15 hM15) | ((with_reducible refine zgs 3 24 ?_); refine zse (w14.setCell ⟨go6, (x5_1 : Int).toNat * 5 + 1, none⟩ (.int .i64 (wrap64 (x1_1 + 1)))) ?_; intro w16 hw; have hg : w14.grownBy w16 (some go6) := (by rw [hw]; exact HP15.2); have hp_ : Kd.R k69 69 w16 w0.heap.size (fun k_ => (P0_ k_ ∨ w.heap.size ≤ k_)) (.slice (some ⟨go6, 0, none⟩) x0_1.length co11) y103 := (by rw [hw, Ny103.out]; exact HP15.1); clear HP15; replace HB := zA ((zq32 GB6 : Below w0.heap.size w0 w16)); replace HK := zA (ze6 (S := (fun k_ => P0_ k_)) hg zq10 (fun k_ e_ => (HO_0.out.1 k_ e_))); replace HO_0 := zA (hp_); clear hg hw hp_; have p8 : 0 ≤ (x5_1 : Int) := zde zq14; have q8 : (x5_1 : Int) < ((x0_1.length : Int) : Int) := zde zq14; obtain ⟨ce8, hcl8, hM8, hcc8, hfr8⟩ := Kd.R_elem HO_0.out z69 (x5_1 : Int) p8 q8; obtain rfl := zh4 hM8; have hx8_0 : w16.cell? ⟨go6, (x5_1 : Int).toNat * 5, none⟩ = some (.string ((zag y103 x5_1).f0)) := hcc8 0 _ rfl; have hx8_1 : w16.cell? ⟨go6, (x5_1 : Int).toNat * 5 + 1, none⟩ = some (.int .i64 ((zag y103 x5_1).f1)) := hcc8 1 _ rfl; have hx8_2 : w16.cell? ⟨go6, (x5_1 : Int).toNat * 5 + 2, none⟩ = some (.int .i64 ((zag y103 x5_1).f2)) := hcc8 2 _ rfl; have hx8_3 : w16.cell? ⟨go6, (x5_1 : Int).toNat * 5 + 3, none⟩ = some (.int .i64 ((zag y103 x5_1).f3)) := hcc8 3 _ rfl; have hx8_4 : w16.cell? ⟨go6, (x5_1 : Int).toNat * 5 + 4, none⟩ = some (.int .i64 ((zag y103 x5_1).f4)) := hcc8 4 _ rfl; have hf8_0 : w16.frozen? ⟨go6, (x5_1 : Int).toNat * 5, none⟩ = false := hfr8 0; have hf8_1 : w16.frozen? ⟨go6, (x5_1 : Int).toNat * 5 + 1, none⟩ = false := hfr8 1; have hf8_2 : w16.frozen? ⟨go6, (x5_1 : Int).toNat * 5 + 2, none⟩ = false := hfr8 2; have hf8_3 : w16.frozen? ⟨go6, (x5_1 : Int).toNat * 5 + 3, none⟩ = false := hfr8 3; have hf8_4 : w16.frozen? ⟨go6, (x5_1 : Int).toNat * 5 + 4, none⟩ = false := hfr8 4; clear hcl8 hcc8 hfr8 hM8; replace p8 := eq_true p8; replace q8 := eq_true q8; have HX17 := zA (show Kd.R k69 69 w16 w0.heap.size (fun k_ => (P0_ k_ ∨ w.heap.size ≤ k_)) (.slice (some ⟨go6, 0, none⟩) x0_1.length co11) y103 from (zq3 HO_0)); obtain ⟨ce17, hcl17, hM17, hcc17, hfr17⟩ := Kd.R_elem HX17.out z69 (x5_1 : Int) (zde zq14) (zq12 HO_0); obtain rfl := zh4 hM17; have HP17 := Kd.R_seg HX17.out (x5_1 : Int) (zde zq14) (zq12 HO_0) (seg := [.int .i64 (wrap64 ((wrap64 (x1_1 + 1)) + 1))]) (j := 2) hcl17 hcc17 (show 3 ≤ 5 from by decide) (x' := (⟨(zag y103 x5_1).f0, (zag y103 x5_1).f1, wrap64 ((wrap64 (x1_1 + 1)) + 1), (zag y103 x5_1).f3, (zag y103 x5_1).f4⟩ : S69)) (zn4 _ _ _ (⟨(zag y103 x5_1).f0, (zag y103 x5_1).f1, wrap64 ((wrap64 (x1_1 + 1)) + 1), (zag y103 x5_1).f3, (zag y103 x5_1).f4⟩ : S69) ) (fun _ hk => hk); have hx17_2 := hcc17 2 _ rfl; (try simp only [show (k69).sz = 5 from rfl, Nat.mul_one, Nat.add_zero] at hx17_2); have hf17_2 := hfr17 2; (try simp only [show (k69).sz = 5 from rfl, Nat.mul_one, Nat.add_zero] at hf17_2); clear hcl17 hcc17 hfr17 hM17) | ((with_reducible refine zgs 3 31 ?_); refine zse (w16.setCell ⟨go6, (x5_1 : Int).toNat * 5 + 2, none⟩ (.int .i64 (wrap64 ((wrap64 (x1_1 + 1)) + 1)))) ?_; intro w18 hw; have hg : w16.grownBy w18 (some go6) := (by rw [hw]; exact HP17.2); have hp_ : Kd.R k69 69 w18 w0.heap.size (fun k_ => (P0_ k_ ∨ w.heap.size ≤ k_)) (.slice (some ⟨go6, 0, none⟩) x0_1.length co11) y104 := (by rw [hw, Ny104.out]; exact HP17.1); clear HP17; replace HB := zA ((zq32 GB6 : Below w0.heap.size w0 w18)); replace HK := zA (ze6 (S := (fun k_ => P0_ k_)) hg zq10 (fun k_ e_ => (HO_0.out.1 k_ e_))); replace HO_0 := zA (hp_); clear hg hw hp_; have p9 : 0 ≤ (x5_1 : Int) := zde zq14; have q9 : (x5_1 : Int) < ((x0_1.length : Int) : Int) := zde zq14; obtain ⟨ce9, hcl9, hM9, hcc9, hfr9⟩ := Kd.R_elem HO_0.out z69 (x5_1 : Int) p9 q9; obtain rfl := zh4 hM9; have hx9_0 : w18.cell? ⟨go6, (x5_1 : Int).toNat * 5, none⟩ = some (.string ((zag y104 x5_1).f0)) := hcc9 0 _ rfl; have hx9_1 : w18.cell? ⟨go6, (x5_1 : Int).toNat * 5 + 1, none⟩ = some (.int .i64 ((zag y104 x5_1).f1)) := hcc9 1 _ rfl; have hx9_2 : w18.cell? ⟨go6, (x5_1 : Int).toNat * 5 + 2, none⟩ = some (.int .i64 ((zag y104 x5_1).f2)) := hcc9 2 _ rfl; have hx9_3 : w18.cell? ⟨go6, (x5_1 : Int).toNat * 5 + 3, none⟩ = some (.int .i64 ((zag y104 x5_1).f3)) := hcc9 3 _ rfl; have hx9_4 : w18.cell? ⟨go6, (x5_1 : Int).toNat * 5 + 4, none⟩ = some (.int .i64 ((zag y104 x5_1).f4)) := hcc9 4 _ rfl; have hf9_0 : w18.frozen? ⟨go6, (x5_1 : Int).toNat * 5, none⟩ = false := hfr9 0; have hf9_1 : w18.frozen? ⟨go6, (x5_1 : Int).toNat * 5 + 1, none⟩ = false := hfr9 1; have hf9_2 : w18.frozen? ⟨go6, (x5_1 : Int).toNat * 5 + 2, none⟩ = false := hfr9 2; have hf9_3 : w18.frozen? ⟨go6, (x5_1 : Int).toNat * 5 + 3, none⟩ = false := hfr9 3; have hf9_4 : w18.frozen? ⟨go6, (x5_1 : Int).toNat * 5 + 4, none⟩ = false := hfr9 4; clear hcl9 hcc9 hfr9 hM9; replace p9 := eq_true p9; replace q9 := eq_true q9; have HX19 := zA (show Kd.R k69 69 w18 w0.heap.size (fun k_ => (P0_ k_ ∨ w.heap.size ≤ k_)) (.slice (some ⟨go6, 0, none⟩) x0_1.length co11) y104 from (zq3 HO_0)); obtain ⟨ce19, hcl19, hM19, hcc19, hfr19⟩ := Kd.R_elem HX19.out z69 (x5_1 : Int) (zde zq14) (zq12 HO_0); obtain rfl := zh4 hM19; have HP19 := Kd.R_seg HX19.out (x5_1 : Int) (zde zq14) (zq12 HO_0) (seg := [.int .i64 (wrap64 ((wrap64 ((wrap64 (x1_1 + 1)) + 1)) + 1))]) (j := 3) hcl19 hcc19 (show 4 ≤ 5 from by decide) (x' := (⟨(zag y104 x5_1).f0, (zag y104 x5_1).f1, (zag y104 x5_1).f2, wrap64 ((wrap64 ((wrap64 (x1_1 + 1)) + 1)) + 1), (zag y104 x5_1).f4⟩ : S69)) (zn4 _ _ _ (⟨(zag y104 x5_1).f0, (zag y104 x5_1).f1, (zag y104 x5_1).f2, wrap64 ((wrap64 ((wrap64 (x1_1 + 1)) + 1)) + 1), (zag y104 x5_1).f4⟩ : S69) ) (fun _ hk => hk); have hx19_3 := hcc19 3 _ rfl; (try simp only [show (k69).sz = 5 from rfl, Nat.mul_one, Nat.add_zero] at hx19_3); have hf19_3 := hfr19 3; (try simp only [show (k69).sz = 5 from rfl, Nat.mul_one, Nat.add_zero] at hf19_3); clear hcl19 hcc19 hfr19 hM19) | ((with_reducible refine zgs 3 38 ?_); refine zse (w18.setCell ⟨go6, (x5_1 : Int).toNat * 5 + 3, none⟩ (.int .i64 (wrap64 ((wrap64 ((wrap64 (x1_1 + 1)) + 1)) + 1)))) ?_; intro w20 hw; have hg : w18.grownBy w20 (some go6) := (by rw [hw]; exact HP19.2); have hp_ : Kd.R k69 69 w20 w0.heap.size (fun k_ => (P0_ k_ ∨ w.heap.size ≤ k_)) (.slice (some ⟨go6, 0, none⟩) x0_1.length co11) y105 := (by rw [hw, Ny105.out]; exact HP19.1); clear HP19; replace HB := zA ((zq32 GB6 : Below w0.heap.size w0 w20)); replace HK := zA (ze6 (S := (fun k_ => P0_ k_)) hg zq10 (fun k_ e_ => (HO_0.out.1 k_ e_))); replace HO_0 := zA (hp_); clear hg hw hp_; have p10 : 0 ≤ (x5_1 : Int) := zde zq14; have q10 : (x5_1 : Int) < ((x0_1.length : Int) : Int) := zde zq14; obtain ⟨ce10, hcl10, hM10, hcc10, hfr10⟩ := Kd.R_elem HO_0.out z69 (x5_1 : Int) p10 q10; obtain rfl := zh4 hM10; have hx10_0 : w20.cell? ⟨go6, (x5_1 : Int).toNat * 5, none⟩ = some (.string ((zag y105 x5_1).f0)) := hcc10 0 _ rfl; have hx10_1 : w20.cell? ⟨go6, (x5_1 : Int).toNat * 5 + 1, none⟩ = some (.int .i64 ((zag y105 x5_1).f1)) := hcc10 1 _ rfl; have hx10_2 : w20.cell? ⟨go6, (x5_1 : Int).toNat * 5 + 2, none⟩ = some (.int .i64 ((zag y105 x5_1).f2)) := hcc10 2 _ rfl; have hx10_3 : w20.cell? ⟨go6, (x5_1 : Int).toNat * 5 + 3, none⟩ = some (.int .i64 ((zag y105 x5_1).f3)) := hcc10 3 _ rfl; have hx10_4 : w20.cell? ⟨go6, (x5_1 : Int).toNat * 5 + 4, none⟩ = some (.int .i64 ((zag y105 x5_1).f4)) := hcc10 4 _ rfl; have hf10_0 : w20.frozen? ⟨go6, (x5_1 : Int).toNat * 5, none⟩ = false := hfr10 0; have hf10_1 : w20.frozen? ⟨go6, (x5_1 : Int).toNat * 5 + 1, none⟩ = false := hfr10 1; have hf10_2 : w20.frozen? ⟨go6, (x5_1 : Int).toNat * 5 + 2, none⟩ = false := hfr10 2; have hf10_3 : w20.frozen? ⟨go6, (x5_1 : Int).toNat * 5 + 3, none⟩ = false := hfr10 3; have hf10_4 : w20.frozen? ⟨go6, (x5_1 : Int).toNat * 5 + 4, none⟩ = false := hfr10 4; clear hcl10 hcc10 hfr10 hM10; replace p10 := eq_true p10; replace q10 := eq_true q10; have HX21 := zA (show Kd.R k69 69 w20 w0.heap.size (fun k_ => (P0_ k_ ∨ w.heap.size ≤ k_)) (.slice (some ⟨go6, 0, none⟩) x0_1.length co11) y105 from (zq3 HO_0)); obtain ⟨ce21, hcl21, hM21, hcc21, hfr21⟩ := Kd.R_elem HX21.out z69 (x5_1 : Int) (zde zq14) (zq12 HO_0); obtain rfl := zh4 hM21; have HP21 := Kd.R_seg HX21.out (x5_1 : Int) (zde zq14) (zq12 HO_0) (seg := [.int .i64 (wrap64 ((wrap64 ((wrap64 ((wrap64 (x1_1 + 1)) + 1)) + 1)) + 1))]) (j := 4) hcl21 hcc21 (show 5 ≤ 5 from by decide) (x' := (⟨(zag y105 x5_1).f0, (zag y105 x5_1).f1, (zag y105 x5_1).f2, (zag y105 x5_1).f3, wrap64 ((wrap64 ((wrap64 ((wrap64 (x1_1 + 1)) + 1)) + 1)) + 1)⟩ : S69)) (zn4 _ _ _ (⟨(zag y105 x5_1).f0, (zag y105 x5_1).f1, (zag y105 x5_1).f2, (zag y105 x5_1).f3, wrap64 ((wrap64 ((wrap64 ((wrap64 (x1_1 + 1)) + 1)) + 1)) + 1)⟩ : S69) ) (fun _ hk => hk); have hx21_4 := hcc21 4 _ rfl; (try simp only [show (k69).sz = 5 from rfl, Nat.mul_one, Nat.add_zero] at hx21_4); have hf21_4 := hfr21 4; (try simp only [show (k69).sz = 5 from rfl, Nat.mul_one, Nat.add_zero] at hf21_4); clear hcl21 hcc21 hfr21 hM21) | ((with_reducible refine zgs 3 45 ?_); refine zse (w20.setCell ⟨go6, (x5_1 : Int).toNat * 5 + 4, none⟩ (.int .i64 (wrap64 ((wrap64 ((wrap64 ((wrap64 (x1_1 + 1)) + 1)) + 1)) + 1)))) ?_; intro w22 hw; have hg : w20.grownBy w22 (some go6) := (by rw [hw]; exact HP21.2); have hp_ : Kd.R k69 69 w22 w0.heap.size (fun k_ => (P0_ k_ ∨ w.heap.size ≤ k_)) (.slice (some ⟨go6, 0, none⟩) x0_1.length co11) y106 := (by rw [hw, Ny106.out]; exact HP21.1); clear HP21; replace HB := zA ((zq32 GB6 : Below w0.heap.size w0 w22)); replace HK := zA (ze6 (S := (fun k_ => P0_ k_)) hg zq10 (fun k_ e_ => (HO_0.out.1 k_ e_))); replace HO_0 := zA (hp_); clear hg hw hp_))
 go_roundg k1
 case measure => have := HK1.out; omega
 case rel => exact ⟨(y106), (wrap64 ((wrap64 ((wrap64 ((wrap64 ((wrap64 (x1_1 + 1)) + 1)) + 1)) + 1)) + 1)), (wrap64 (x5_1 + 1)), zq5, zq5, H', ⟨zq31 HK1⟩, ⟨zq3 HO_0⟩, ⟨zq10⟩, ⟨zq2⟩⟩
def zc1 (k : Nat) : List (List S69) → Int → Option (Int × List (List S69))
 | [], a => some (a, [])
 | x :: xs, a => (zey k x a).bind fun t => (zc1 k xs t.1).bind fun u => some (u.1, t.2 :: u.2)
def zef (k : Nat) (l0 : List (List S69)) (a1 : Int) : Option (Int × List (List S69)) := if l0.length ≤ 1048576 then zc1 k l0 a1 else none
theorem zn6 (k : Nat) : ∀ l a, LeO (zc1 k l a) (zc1 (k + 1) l a) := by
 intro l
 induction l with
 | nil => intro a; exact LeO.refl _
 | cons x xs ih =>
   intro a
   unfold zc1
   exact LeO.bind (zpi _ _ _) (fun t => LeO.bind (ih _) (fun _ => LeO.refl _))
theorem zv2 : ∀ a0 a1 k, LeO (zef k a0 a1) (zef (k + 1) a0 a1) := by
 intro a0 a1 k
 unfold zef
 exact zea (zn6 k _ _) (LeO.refl _)
theorem zn7 (A B : List (List S69)) (x y : List S69) : (A ++ x :: B).set A.length y = (A ++ [y]) ++ B := by
 rw [List.set_append_right _ _ (zlr _), Nat.sub_self]
 simp
theorem zoq (k : Nat) (P0_ : Nat → Prop) (u9000_ : Value) (l0 : List (List S69)) (a1 : Int) (r1 : Int) (r2 : List (List S69)) (w0 w : World) (hB : Below w0.heap.size w0 w) (ho0 : Kd.S (Kd.slice 69 k69) 29 w w0.heap.size P0_ u9000_ l0) (h : zef k l0 a1 = some (r1, r2)) :
   Calls Tryz.prog 28 #[u9000_, .int .i64 a1] w fun e w' => e = .returned (.int .i64 r1) ∧ Kd.S (Kd.slice 69 k69) 29 w' w0.heap.size (fun k_ => (P0_ k_ ∨ w.heap.size ≤ k_)) u9000_ r2 ∧ Below w0.heap.size w0 w' ∧ Kept w w' (fun k_ => P0_ k_) := by
 unfold zef at h
 by_cases hn : l0.length ≤ 1048576
 rotate_left
 · rw [if_neg hn] at h
   cases h
 rw [if_pos hn] at h
 have HS := zA (Kd.S_mono ho0 (ok' := fun k_ => (P0_ k_ ∨ w.heap.size ≤ k_)) (fun _ hk => .inl hk))
 have HB := zA hB
 have HK := zA (Kept.refl w (fun k_ => P0_ k_))
 have H := zA h
 clear h hB
 rcases Nat.eq_zero_or_pos l0.length with hz | hpos
 · obtain rfl := List.eq_nil_of_length_eq_zero hz
   obtain ⟨A, c, rfl⟩ := Kd.S_slice ho0
   obtain ⟨rfl, rfl⟩ : a1 = r1 ∧ [] = r2 := by
     have := H.out
     unfold zc1 at this
     exact Prod.mk.inj (zsi this)
   clear ho0 H hz
   go_enter Tryz.func28, Tryz.ntmps28
   go_wp2_with fail
   go_loopw [1, 5] (fun v1 v5 wr => v1 = .int .i64 a1 ∧ v5 = .int .i64 0 ∧ wr = w) (fun _ _ _ => 0)
   case atStart => exact ⟨rfl, rfl, rfl⟩
   obtain ⟨rfl, rfl, rfl⟩ := hrel
   go_wp2_with fail
   go_ret
   exact ⟨rfl, HS.out, HB.out, HK.out⟩
 obtain ⟨g, cap, rfl, _, _, _⟩ := Kd.S_form ho0 hpos
 clear ho0
 go_enter Tryz.func28, Tryz.ntmps28
 go_wp2_with fail
 go_loopw [1, 5] (fun v1 v5 wr => ∃ (i : Nat) (a : Int) (D T : List (List S69)), v1 = .int .i64 a ∧ v5 = .int .i64 (i : Int) ∧ i ≤ l0.length ∧ Aside0 (D.length = i) ∧ Aside0 (zc1 k (l0.drop i) a = some (r1, T)) ∧ Aside0 (r2 = D ++ T) ∧
     Aside0 (Kd.S (Kd.slice 69 k69) 29 wr w0.heap.size (fun k_ => (P0_ k_ ∨ w.heap.size ≤ k_)) (.slice (some ⟨g, 0, none⟩) l0.length cap) (D ++ l0.drop i)) ∧ Aside0 (Below w0.heap.size w0 wr) ∧ Aside0 (Kept w wr (fun k_ => P0_ k_))) (fun _ v5 _ => l0.length - (intOf v5).toNat)
 case atStart => exact ⟨0, a1, [], r2, rfl, rfl, Nat.zero_le _, ⟨rfl⟩, H, ⟨rfl⟩, HS, HB, HK⟩
 clear H HS HB HK
 obtain ⟨i, a, D, T, rfl, rfl, hi, HD, H, HT, HS, HB, HK⟩ := hrel
 by_cases hlt : i < l0.length
 rotate_left
 · obtain rfl : i = l0.length := by omega
   have hc1 : decide ((l0.length : Int) < l0.length) = false := zdf (by omega)
   have hend := H.out
   have hs := HS.out
   rw [List.drop_length] at hend hs
   unfold zc1 at hend
   obtain ⟨e1, e2⟩ := Prod.mk.inj (zsi hend)
   obtain rfl := e1
   rw [List.append_nil] at hs
   have HS2 := zA hs
   have HE := zA (show D = r2 by rw [HT.out, ← e2, List.append_nil])
   clear hend hs e2 hpos hn H HS
   go_wp2_with fail
   go_ret
   exact ⟨rfl, by rw [← HE.out]; exact HS2.out, HB.out, HK.out⟩
 have hc1 : decide ((i : Int) < l0.length) = true := zdt (by omega)
 have hc1' : decide (i < l0.length) = true := zdt hlt
 have hc2 : decide (0 ≤ (i : Int)) = true := zdt (by omega)
 obtain ⟨x, X, hX⟩ : ∃ x X, l0.drop i = x :: X := ⟨_, _, List.drop_eq_getElem_cons hlt⟩
 have hX1 : X = l0.drop (i + 1) := by
   have := List.drop_eq_getElem_cons hlt
   rw [hX] at this
   exact (List.cons.inj this).2
 have hm := H.out
 rw [hX] at hm
 unfold zc1 at hm
 obtain ⟨⟨t1, t2⟩, ht, hm⟩ := Option.bind_eq_some_iff.1 hm
 obtain ⟨⟨u1, u2⟩, hu, hm⟩ := Option.bind_eq_some_iff.1 hm
 obtain ⟨e1, e2⟩ := Prod.mk.inj (zsi hm)
 have hs := HS.out
 rw [hX] at hs
 obtain ⟨oki, cc, hcl, hM, hcc, hoki, hH⟩ := Kd.S_lend hs [] (i : Int) (by omega) (by omega)
 have hgx : (D ++ x :: X).getD ((i : Int)).toNat [] = x := by
   rw [Int.toNat_natCast, ← HD.out]
   simp
 rw [hgx] at hM
 obtain ⟨ve, rfl, ge⟩ := hM
 obtain ⟨A1, c1, rfl⟩ := Kd.R_slice ge
 have hcell := hcc 0 _ rfl
 have hcell' : wr.cell? ⟨g, i, none⟩ = some (.slice A1 x.length c1) := by
   rw [Int.toNat_natCast] at hcell
   have e : i * (Kd.slice 69 k69).sz + 0 = i := by show i * 1 + 0 = i; omega
   rw [e] at hcell
   exact hcell
 have HH := zA hH
 have HG := zA ge
 have HO := zA hoki
 have Ht := zA ht
 have Hu := zA hu
 have He1 := zA e1
 have He2 := zA e2
 have HX1 := zA hX1
 clear hX hX1 hm ht hu e1 e2 hs hcl hcc hoki hH hgx ge hcell hpos H HS
 go_wp2_with (go_at_call 19; (with_reducible refine (zo2 k oki _ x a t1 t2 w0 _ ?side1 ?side2 Ht.out).mono ?_); (case side1 => exact HB.out); (case side2 => exact HG.out); rintro e w2 ⟨rfl, hR2, hB2, hK2⟩; have HR2 := zA hR2; have HB2 := zA hB2; have HK2 := zA hK2; clear hR2 hB2 hK2)
 go_roundw
 case rel =>
   refine ⟨i + 1, t1, D ++ [t2], u2, rfl, by go_num, by omega, ⟨by rw [List.length_append, HD.out]; rfl⟩, ⟨by rw [← HX1.out, ← He1.out]; exact Hu.out⟩, ⟨by rw [HT.out, ← He2.out, List.append_assoc]; rfl⟩, ⟨?_⟩, HB2, ⟨HK.out.then_ HK2.out (fun k_ hk => (HO.out k_ hk).1)⟩⟩
   have h1 := Kd.H_kept (Kd.H_widen HH.out) HK2.out (fun k_ _ hn => fun hk => hn (.inl hk))
   have h2 := Kd.H_back (d := Kd.slice 69 k69) h1 (x' := t2) (okp := fun k_ => oki k_ ∨ wr.heap.size ≤ k_) ⟨_, rfl, HR2.out⟩ (fun k_ hk => hk.elim .inl (fun h3 => .inr ⟨.inr (Nat.le_trans HK.out.1 h3), h3⟩))
   rw [Int.toNat_natCast, ← HD.out, zn7, HX1.out, ← HD.out] at h2
   rw [← HD.out]
   exact h2
 case measure => simp [intOf]; omega
def zcf : Nat → List (S62) → Int → Int → Option (Int × (List (S62)))
 | 0, _, _, _ => none
 | k + 1, x0, x1, x5 => if x5 < (x0.length : Int) then ((zcx k x1).bind fun t101 => (if 0 ≤ x5 then ((some (x0.set (x5 : Int).toNat (⟨t101, (zab x0 x5).f1, (zab x0 x5).f2, (zab x0 x5).f3⟩ : S62) : List (S62))).bind fun y102 => ((some (y102.set (x5 : Int).toNat (⟨(zab y102 x5).f0, wrap64 (x1 + 1), (zab y102 x5).f2, (zab y102 x5).f3⟩ : S62) : List (S62))).bind fun y103 => ((some (y103.set (x5 : Int).toNat (⟨(zab y103 x5).f0, (zab y103 x5).f1, wrap64 ((wrap64 (x1 + 1)) + 1), (zab y103 x5).f3⟩ : S62) : List (S62))).bind fun y104 => (zcf k (y104.set (x5 : Int).toNat (⟨(zab y104 x5).f0, (zab y104 x5).f1, (zab y104 x5).f2, wrap64 ((wrap64 ((wrap64 (x1 + 1)) + 1)) + 1)⟩ : S62)) (wrap64 ((wrap64 ((wrap64 ((wrap64 (x1 + 1)) + 1)) + 1)) + 1)) (wrap64 (x5 + 1)))))) else (none))) else (some (x1, x0))
def zfd (k : Nat) (l0 : List (S62)) (a1 : Int) : Option (Int × (List (S62))) := zcf k l0 a1 0
theorem zk3 : ∀ k, (∀ y0 y1 y2, LeO (zcf k y0 y1 y2) (zcf (k + 1) y0 y1 y2))
 | 0 => fun _ _ _ r h => by simp [zcf] at h
 | k + 1 => by
   have ih0 := zk3 k
   · intro y0 y1 y2
     unfold zcf
     exact zm2 ih0 zed
theorem zw6 : ∀ a0 a1 k, LeO (zfd k a0 a1) (zfd (k + 1) a0 a1) := by
 intro a0 a1 k
 have ih0 := zk3 k
 unfold zfd
 exact zm2 ih0 zed
theorem zpj (k : Nat) (P0_ : Nat → Prop) (u9000_ : Value) (l0 : List (S62)) (a1 : Int) (r1 : Int) (r2 : List (S62)) (w0 w : World) (hB : Below w0.heap.size w0 w) (ho0 : Kd.R k62 62 w w0.heap.size P0_ u9000_ l0) (h : zfd k l0 a1 = some (r1, r2)) :
   Calls Tryz.prog 17 #[u9000_, .int .i64 a1] w fun e w' => e = .returned (.int .i64 r1) ∧ Kd.R k62 62 w' w0.heap.size (fun k_ => (P0_ k_ ∨ w.heap.size ≤ k_)) u9000_ r2 ∧ Below w0.heap.size w0 w' ∧ Kept w w' (fun k_ => P0_ k_) := by
 have HO0 := zA (show Kd.R k62 62 w w0.heap.size (fun k_ => (P0_ k_ ∨ w.heap.size ≤ k_)) u9000_ l0 from Kd.R_mono ho0 (fun k_ hk => (.inl hk)))
 have HK := zA (Kept.refl w (fun k_ => P0_ k_))
 have HW0 := zA hB.size
 have HB := zA hB
 clear hB
 have H := h
 unfold zfd at H
 clear h
 have H' := zA H
 clear H
 go_enter Tryz.func17, Tryz.ntmps17
 go_wp2
 go_loopg [1, 5] k (fun kq v1 v5 w' => ∃ (x0_1 : List (S62)) (x1_1 : Int) (x5_1 : Int), v1 = .int .i64 x1_1 ∧ v5 = .int .i64 x5_1 ∧ Aside0 (zcf kq x0_1 x1_1 x5_1 = some (r1, r2)) ∧ Aside0 (kq ≤ k) ∧ Aside0 (Kd.R k62 62 w' w0.heap.size (fun k_ => (P0_ k_ ∨ w.heap.size ≤ k_)) u9000_ x0_1) ∧ Aside0 (Kept w w' (fun k_ => P0_ k_)) ∧ Aside0 (Below w0.heap.size w0 w'))
 case atStart => exact ⟨(l0), (a1), (0), zq5, zq5, H', ⟨zlr _⟩, ⟨zq3 HO0⟩, ⟨zq10⟩, ⟨zq2⟩⟩
 clear H'
 obtain ⟨x0_1, x1_1, x5_1, rfl, rfl, HA, HK1, HO_0, HK, HB⟩ := hrel
 cases gk with
 | zero => exact absurd HA.out (by simp [zcf])
 | succ k1 =>
 have H := HA.out
 clear HA
 simp only [zcf] at H
 revert H
 refine zit (fun c3 H => ?_) fun c3 H => ?_
 rotate_left
 · simp only [Option.some.injEq, Prod.mk.injEq] at H
   obtain ⟨rfl, rfl⟩ := H
   obtain ⟨Ao20, co20, eo20⟩ := Kd.R_slice HO_0.out
   subst eo20
   go_wp2
   go_ret
   exact ⟨zq4, zq3 HO_0, zq2, zq10⟩
 replace H := zob H
 obtain ⟨t101, A40, H⟩ := H
 have A4 := zA A40
 clear A40
 revert H
 refine zin fun c5 H => ?_
 obtain ⟨y102, hy102⟩ : ∃ y_ : List (S62), y_ = (x0_1.set (x5_1 : Int).toNat (⟨t101, (zab x0_1 x5_1).f1, (zab x0_1 x5_1).f2, (zab x0_1 x5_1).f3⟩ : S62)) := ⟨_, rfl⟩
 rw [← hy102] at H; try with_reducible replace H := zbs H
 have Ny102 := zA hy102
 clear hy102
 obtain ⟨y103, hy103⟩ : ∃ y_ : List (S62), y_ = (y102.set (x5_1 : Int).toNat (⟨(zab y102 x5_1).f0, wrap64 (x1_1 + 1), (zab y102 x5_1).f2, (zab y102 x5_1).f3⟩ : S62)) := ⟨_, rfl⟩
 rw [← hy103] at H; try with_reducible replace H := zbs H
 have Ny103 := zA hy103
 clear hy103
 obtain ⟨y104, hy104⟩ : ∃ y_ : List (S62), y_ = (y103.set (x5_1 : Int).toNat (⟨(zab y103 x5_1).f0, (zab y103 x5_1).f1, wrap64 ((wrap64 (x1_1 + 1)) + 1), (zab y103 x5_1).f3⟩ : S62)) := ⟨_, rfl⟩
 rw [← hy104] at H; try with_reducible replace H := zbs H
 have Ny104 := zA hy104
 clear hy104
 obtain ⟨y105, hy105⟩ : ∃ y_ : List (S62), y_ = (y104.set (x5_1 : Int).toNat (⟨(zab y104 x5_1).f0, (zab y104 x5_1).f1, (zab y104 x5_1).f2, wrap64 ((wrap64 ((wrap64 (x1_1 + 1)) + 1)) + 1)⟩ : S62)) := ⟨_, rfl⟩
 rw [← hy105] at H; try with_reducible replace H := zbs H
 have Ny105 := zA hy105
 clear hy105
 have H' := zA H
 clear H
 obtain ⟨Ao10, co10, eo10⟩ := Kd.R_slice HO_0.out
 subst eo10
 go_wp2_with (first | ((with_reducible refine zgc 48 ?_); refine zcl 15 Tryz.func48 (zh1 k1 x1_1 t101 _ A4.out) ?_; rintro e w11 ⟨rfl, hb⟩; refine ⟨_, rfl, ?_⟩; replace HO_0 := zA (zRb (zq3 HO_0) hb); replace HK := zA (Kept.below (S := (fun k_ => P0_ k_)) zq10 hb); replace HB := zA (zaa zq2 hb); (try clear hb); have p6 : 0 ≤ (x5_1 : Int) := zde zq14; have q6 : (x5_1 : Int) < ((x0_1.length : Int) : Int) := zde zq14; obtain ⟨go6, co6, eo6, gb6, gl6, cl6, HG6⟩ := Kd.R_form HO_0.out (by omega); (first | cases eo6 | (injection eo6 with ea_ en_ ec_; (first | subst ea_ | (injection ea_ with ea_; subst ea_)); subst ec_; clear en_)); have GB6 := zA gb6; have GG6 := zA HG6; clear gb6 gl6 HG6; have HMgo6 := zA (show (P0_ go6 ∨ w.heap.size ≤ go6) from (HO_0.out.1 _ rfl)); obtain ⟨ce6, hcl6, hM6, hcc6, hfr6⟩ := Kd.R_elem HO_0.out z62 (x5_1 : Int) p6 q6; obtain rfl := zi5 hM6; have hx6_0 : w11.cell? ⟨go6, (x5_1 : Int).toNat * 4, none⟩ = some (.string ((zab x0_1 x5_1).f0)) := hcc6 0 _ rfl; have hx6_1 : w11.cell? ⟨go6, (x5_1 : Int).toNat * 4 + 1, none⟩ = some (.int .i64 ((zab x0_1 x5_1).f1)) := hcc6 1 _ rfl; have hx6_2 : w11.cell? ⟨go6, (x5_1 : Int).toNat * 4 + 2, none⟩ = some (.int .i64 ((zab x0_1 x5_1).f2)) := hcc6 2 _ rfl; have hx6_3 : w11.cell? ⟨go6, (x5_1 : Int).toNat * 4 + 3, none⟩ = some (.int .i64 ((zab x0_1 x5_1).f3)) := hcc6 3 _ rfl; have hf6_0 : w11.frozen? ⟨go6, (x5_1 : Int).toNat * 4, none⟩ = false := hfr6 0; have hf6_1 : w11.frozen? ⟨go6, (x5_1 : Int).toNat * 4 + 1, none⟩ = false := hfr6 1; have hf6_2 : w11.frozen? ⟨go6, (x5_1 : Int).toNat * 4 + 2, none⟩ = false := hfr6 2; have hf6_3 : w11.frozen? ⟨go6, (x5_1 : Int).toNat * 4 + 3, none⟩ = false := hfr6 3; clear hcl6 hcc6 hfr6 hM6; replace p6 := eq_true p6; replace q6 := eq_true q6; have HX12 := zA (show Kd.R k62 62 w11 w0.heap.size (fun k_ => (P0_ k_ ∨ w.heap.size ≤ k_)) (.slice (some ⟨go6, 0, none⟩) x0_1.length co10) x0_1 from (zq3 HO_0)); obtain ⟨ce12, hcl12, hM12, hcc12, hfr12⟩ := Kd.R_elem HX12.out z62 (x5_1 : Int) (zde zq14) (zq12 HO_0); obtain rfl := zi5 hM12; have HP12 := Kd.R_seg HX12.out (x5_1 : Int) (zde zq14) (zq12 HO_0) (seg := [.string t101]) (j := 0) hcl12 hcc12 (show 1 ≤ 4 from by decide) (x' := (⟨t101, (zab x0_1 x5_1).f1, (zab x0_1 x5_1).f2, (zab x0_1 x5_1).f3⟩ : S62)) (zrl _ _ _ (⟨t101, (zab x0_1 x5_1).f1, (zab x0_1 x5_1).f2, (zab x0_1 x5_1).f3⟩ : S62) ) (fun _ hk => hk); have hx12_0 := hcc12 0 _ rfl; (try simp only [show (k62).sz = 4 from rfl, Nat.mul_one, Nat.add_zero] at hx12_0); have hf12_0 := hfr12 0; (try simp only [show (k62).sz = 4 from rfl, Nat.mul_one, Nat.add_zero] at hf12_0); clear hcl12 hcc12 hfr12 hM12) | ((with_reducible refine zgs 9 17 ?_); refine zse (w11.setCell ⟨go6, (x5_1 : Int).toNat * 4, none⟩ (.string t101)) ?_; intro w13 hw; have hg : w11.grownBy w13 (some go6) := (by rw [hw]; exact HP12.2); have hp_ : Kd.R k62 62 w13 w0.heap.size (fun k_ => (P0_ k_ ∨ w.heap.size ≤ k_)) (.slice (some ⟨go6, 0, none⟩) x0_1.length co10) y102 := (by rw [hw, Ny102.out]; exact HP12.1); clear HP12; replace HB := zA ((zq32 GB6 : Below w0.heap.size w0 w13)); replace HK := zA (ze6 (S := (fun k_ => P0_ k_)) hg zq10 (fun k_ e_ => (HO_0.out.1 k_ e_))); replace HO_0 := zA (hp_); clear hg hw hp_; have p7 : 0 ≤ (x5_1 : Int) := zde zq14; have q7 : (x5_1 : Int) < ((x0_1.length : Int) : Int) := zde zq14; obtain ⟨ce7, hcl7, hM7, hcc7, hfr7⟩ := Kd.R_elem HO_0.out z62 (x5_1 : Int) p7 q7; obtain rfl := zi5 hM7; have hx7_0 : w13.cell? ⟨go6, (x5_1 : Int).toNat * 4, none⟩ = some (.string ((zab y102 x5_1).f0)) := hcc7 0 _ rfl; have hx7_1 : w13.cell? ⟨go6, (x5_1 : Int).toNat * 4 + 1, none⟩ = some (.int .i64 ((zab y102 x5_1).f1)) := hcc7 1 _ rfl; have hx7_2 : w13.cell? ⟨go6, (x5_1 : Int).toNat * 4 + 2, none⟩ = some (.int .i64 ((zab y102 x5_1).f2)) := hcc7 2 _ rfl; have hx7_3 : w13.cell? ⟨go6, (x5_1 : Int).toNat * 4 + 3, none⟩ = some (.int .i64 ((zab y102 x5_1).f3)) := hcc7 3 _ rfl; have hf7_0 : w13.frozen? ⟨go6, (x5_1 : Int).toNat * 4, none⟩ = false := hfr7 0; have hf7_1 : w13.frozen? ⟨go6, (x5_1 : Int).toNat * 4 + 1, none⟩ = false := hfr7 1; have hf7_2 : w13.frozen? ⟨go6, (x5_1 : Int).toNat * 4 + 2, none⟩ = false := hfr7 2; have hf7_3 : w13.frozen? ⟨go6, (x5_1 : Int).toNat * 4 + 3, none⟩ = false := hfr7 3; clear hcl7 hcc7 hfr7 hM7; replace p7 := eq_true p7; replace q7 := eq_true q7; have HX14 := zA (show Kd.R k62 62 w13 w0.heap.size (fun k_ => (P0_ k_ ∨ w.heap.size ≤ k_)) (.slice (some ⟨go6, 0, none⟩) x0_1.length co10) y102 from (zq3 HO_0)); obtain ⟨ce14, hcl14, hM14, hcc14, hfr14⟩ := Kd.R_elem HX14.out z62 (x5_1 : Int) (zde zq14) (zq12 HO_0); obtain rfl := zi5 hM14; have HP14 := Kd.R_seg HX14.out (x5_1 : Int) (zde zq14) (zq12 HO_0) (seg := [.int .i64 (wrap64 (x1_1 + 1))]) (j := 1) hcl14 hcc14 (show 2 ≤ 4 from by decide) (x' := (⟨(zab y102 x5_1).f0, wrap64 (x1_1 + 1), (zab y102 x5_1).f2, (zab y102 x5_1).f3⟩ : S62)) (zrl _ _ _ (⟨(zab y102 x5_1).f0, wrap64 (x1_1 + 1), (zab y102 x5_1).f2, (zab y102 x5_1).f3⟩ : S62) ) (fun _ hk => hk); have hx14_1 := hcc14 1 _ rfl; (try simp only [show (k62).sz = 4 from rfl, Nat.mul_one, Nat.add_zero] at hx14_1); have hf14_1 := hfr14 1; (try simp only [show (k62).sz = 4 from rfl, Nat.mul_one, Nat.add_zero] at hf14_1); clear hcl14 hcc14 hfr14 hM14) | ((with_reducible refine zgs 3 24 ?_); refine zse (w13.setCell ⟨go6, (x5_1 : Int).toNat * 4 + 1, none⟩ (.int .i64 (wrap64 (x1_1 + 1)))) ?_; intro w15 hw; have hg : w13.grownBy w15 (some go6) := (by rw [hw]; exact HP14.2); have hp_ : Kd.R k62 62 w15 w0.heap.size (fun k_ => (P0_ k_ ∨ w.heap.size ≤ k_)) (.slice (some ⟨go6, 0, none⟩) x0_1.length co10) y103 := (by rw [hw, Ny103.out]; exact HP14.1); clear HP14; replace HB := zA ((zq32 GB6 : Below w0.heap.size w0 w15)); replace HK := zA (ze6 (S := (fun k_ => P0_ k_)) hg zq10 (fun k_ e_ => (HO_0.out.1 k_ e_))); replace HO_0 := zA (hp_); clear hg hw hp_; have p8 : 0 ≤ (x5_1 : Int) := zde zq14; have q8 : (x5_1 : Int) < ((x0_1.length : Int) : Int) := zde zq14; obtain ⟨ce8, hcl8, hM8, hcc8, hfr8⟩ := Kd.R_elem HO_0.out z62 (x5_1 : Int) p8 q8; obtain rfl := zi5 hM8; have hx8_0 : w15.cell? ⟨go6, (x5_1 : Int).toNat * 4, none⟩ = some (.string ((zab y103 x5_1).f0)) := hcc8 0 _ rfl; have hx8_1 : w15.cell? ⟨go6, (x5_1 : Int).toNat * 4 + 1, none⟩ = some (.int .i64 ((zab y103 x5_1).f1)) := hcc8 1 _ rfl; have hx8_2 : w15.cell? ⟨go6, (x5_1 : Int).toNat * 4 + 2, none⟩ = some (.int .i64 ((zab y103 x5_1).f2)) := hcc8 2 _ rfl; have hx8_3 : w15.cell? ⟨go6, (x5_1 : Int).toNat * 4 + 3, none⟩ = some (.int .i64 ((zab y103 x5_1).f3)) := hcc8 3 _ rfl; have hf8_0 : w15.frozen? ⟨go6, (x5_1 : Int).toNat * 4, none⟩ = false := hfr8 0; have hf8_1 : w15.frozen? ⟨go6, (x5_1 : Int).toNat * 4 + 1, none⟩ = false := hfr8 1; have hf8_2 : w15.frozen? ⟨go6, (x5_1 : Int).toNat * 4 + 2, none⟩ = false := hfr8 2; have hf8_3 : w15.frozen? ⟨go6, (x5_1 : Int).toNat * 4 + 3, none⟩ = false := hfr8 3; clear hcl8 hcc8 hfr8 hM8; replace p8 := eq_true p8; replace q8 := eq_true q8; have HX16 := zA (show Kd.R k62 62 w15 w0.heap.size (fun k_ => (P0_ k_ ∨ w.heap.size ≤ k_)) (.slice (some ⟨go6, 0, none⟩) x0_1.length co10) y103 from (zq3 HO_0)); obtain ⟨ce16, hcl16, hM16, hcc16, hfr16⟩ := Kd.R_elem HX16.out z62 (x5_1 : Int) (zde zq14) (zq12 HO_0); obtain rfl := zi5 hM16; have HP16 := Kd.R_seg HX16.out (x5_1 : Int) (zde zq14) (zq12 HO_0) (seg := [.int .i64 (wrap64 ((wrap64 (x1_1 + 1)) + 1))]) (j := 2) hcl16 hcc16 (show 3 ≤ 4 from by decide) (x' := (⟨(zab y103 x5_1).f0, (zab y103 x5_1).f1, wrap64 ((wrap64 (x1_1 + 1)) + 1), (zab y103 x5_1).f3⟩ : S62)) (zrl _ _ _ (⟨(zab y103 x5_1).f0, (zab y103 x5_1).f1, wrap64 ((wrap64 (x1_1 + 1)) + 1), (zab y103 x5_1).f3⟩ : S62) ) (fun _ hk => hk); have hx16_2 := hcc16 2 _ rfl; (try simp only [show (k62).sz = 4 from rfl, Nat.mul_one, Nat.add_zero] at hx16_2); have hf16_2 := hfr16 2; (try simp only [show (k62).sz = 4 from rfl, Nat.mul_one, Nat.add_zero] at hf16_2); clear hcl16 hcc16 hfr16 hM16) | ((with_reducible refine zgs 3 31 ?_); refine zse (w15.setCell ⟨go6, (x5_1 : Int).toNat * 4 + 2, none⟩ (.int .i64 (wrap64 ((wrap64 (x1_1 + 1)) + 1)))) ?_; intro w17 hw; have hg : w15.grownBy w17 (some go6) := (by rw [hw]; exact HP16.2); have hp_ : Kd.R k62 62 w17 w0.heap.size (fun k_ => (P0_ k_ ∨ w.heap.size ≤ k_)) (.slice (some ⟨go6, 0, none⟩) x0_1.length co10) y104 := (by rw [hw, Ny104.out]; exact HP16.1); clear HP16; replace HB := zA ((zq32 GB6 : Below w0.heap.size w0 w17)); replace HK := zA (ze6 (S := (fun k_ => P0_ k_)) hg zq10 (fun k_ e_ => (HO_0.out.1 k_ e_))); replace HO_0 := zA (hp_); clear hg hw hp_; have p9 : 0 ≤ (x5_1 : Int) := zde zq14; have q9 : (x5_1 : Int) < ((x0_1.length : Int) : Int) := zde zq14; obtain ⟨ce9, hcl9, hM9, hcc9, hfr9⟩ := Kd.R_elem HO_0.out z62 (x5_1 : Int) p9 q9; obtain rfl := zi5 hM9; have hx9_0 : w17.cell? ⟨go6, (x5_1 : Int).toNat * 4, none⟩ = some (.string ((zab y104 x5_1).f0)) := hcc9 0 _ rfl; have hx9_1 : w17.cell? ⟨go6, (x5_1 : Int).toNat * 4 + 1, none⟩ = some (.int .i64 ((zab y104 x5_1).f1)) := hcc9 1 _ rfl; have hx9_2 : w17.cell? ⟨go6, (x5_1 : Int).toNat * 4 + 2, none⟩ = some (.int .i64 ((zab y104 x5_1).f2)) := hcc9 2 _ rfl; have hx9_3 : w17.cell? ⟨go6, (x5_1 : Int).toNat * 4 + 3, none⟩ = some (.int .i64 ((zab y104 x5_1).f3)) := hcc9 3 _ rfl; have hf9_0 : w17.frozen? ⟨go6, (x5_1 : Int).toNat * 4, none⟩ = false := hfr9 0; have hf9_1 : w17.frozen? ⟨go6, (x5_1 : Int).toNat * 4 + 1, none⟩ = false := hfr9 1; have hf9_2 : w17.frozen? ⟨go6, (x5_1 : Int).toNat * 4 + 2, none⟩ = false := hfr9 2; have hf9_3 : w17.frozen? ⟨go6, (x5_1 : Int).toNat * 4 + 3, none⟩ = false := hfr9 3; clear hcl9 hcc9 hfr9 hM9; replace p9 := eq_true p9; replace q9 := eq_true q9; have HX18 := zA (show Kd.R k62 62 w17 w0.heap.size (fun k_ => (P0_ k_ ∨ w.heap.size ≤ k_)) (.slice (some ⟨go6, 0, none⟩) x0_1.length co10) y104 from (zq3 HO_0)); obtain ⟨ce18, hcl18, hM18, hcc18, hfr18⟩ := Kd.R_elem HX18.out z62 (x5_1 : Int) (zde zq14) (zq12 HO_0); obtain rfl := zi5 hM18; have HP18 := Kd.R_seg HX18.out (x5_1 : Int) (zde zq14) (zq12 HO_0) (seg := [.int .i64 (wrap64 ((wrap64 ((wrap64 (x1_1 + 1)) + 1)) + 1))]) (j := 3) hcl18 hcc18 (show 4 ≤ 4 from by decide) (x' := (⟨(zab y104 x5_1).f0, (zab y104 x5_1).f1, (zab y104 x5_1).f2, wrap64 ((wrap64 ((wrap64 (x1_1 + 1)) + 1)) + 1)⟩ : S62)) (zrl _ _ _ (⟨(zab y104 x5_1).f0, (zab y104 x5_1).f1, (zab y104 x5_1).f2, wrap64 ((wrap64 ((wrap64 (x1_1 + 1)) + 1)) + 1)⟩ : S62) ) (fun _ hk => hk); have hx18_3 := hcc18 3 _ rfl; (try simp only [show (k62).sz = 4 from rfl, Nat.mul_one, Nat.add_zero] at hx18_3); have hf18_3 := hfr18 3; (try simp only [show (k62).sz = 4 from rfl, Nat.mul_one, Nat.add_zero] at hf18_3); clear hcl18 hcc18 hfr18 hM18) | ((with_reducible refine zgs 3 38 ?_); refine zse (w17.setCell ⟨go6, (x5_1 : Int).toNat * 4 + 3, none⟩ (.int .i64 (wrap64 ((wrap64 ((wrap64 (x1_1 + 1)) + 1)) + 1)))) ?_; intro w19 hw; have hg : w17.grownBy w19 (some go6) := (by rw [hw]; exact HP18.2); have hp_ : Kd.R k62 62 w19 w0.heap.size (fun k_ => (P0_ k_ ∨ w.heap.size ≤ k_)) (.slice (some ⟨go6, 0, none⟩) x0_1.length co10) y105 := (by rw [hw, Ny105.out]; exact HP18.1); clear HP18; replace HB := zA ((zq32 GB6 : Below w0.heap.size w0 w19)); replace HK := zA (ze6 (S := (fun k_ => P0_ k_)) hg zq10 (fun k_ e_ => (HO_0.out.1 k_ e_))); replace HO_0 := zA (hp_); clear hg hw hp_))
 go_roundg k1
 case measure => have := HK1.out; omega
 case rel => exact ⟨(y105), (wrap64 ((wrap64 ((wrap64 ((wrap64 (x1_1 + 1)) + 1)) + 1)) + 1)), (wrap64 (x5_1 + 1)), zq5, zq5, H', ⟨zq31 HK1⟩, ⟨zq3 HO_0⟩, ⟨zq10⟩, ⟨zq2⟩⟩
def zjv (l0 : List Int) (a1 : Int) : Option (Int) := if (wrap64 (a1 - (l0.length : Int))) < 0 then (some (-1)) else (some (wrap64 (a1 - (l0.length : Int))))
theorem zns (A0 : Option Addr) (c0 : Nat) (l0 : List Int) (a1 : Int) (r : Int) (w : World) (hr0 : Kd.C (Kd.int .i64) w A0 l0.length l0) (hc0 : l0.length ≤ c0) (h : zjv l0 a1 = some r) :
   Calls Tryz.prog 38 #[.slice A0 l0.length c0, .int .i64 a1] w fun e w' => e = .returned (.int .i64 r) ∧ Drawn0 w w' := by
 have HR0 := zA hr0
 have HC0 := zA hc0
 clear hr0 hc0
 have H := h
 unfold zjv at H
 clear h
 revert H
 refine zit (fun c3b0 H => ?_) fun c3b0 H => ?_
 · obtain rfl := zsi H
   go_enter Tryz.func38, Tryz.ntmps38
   exact zr_1
 · obtain rfl := zsi H
   go_enter Tryz.func38, Tryz.ntmps38
   exact zr_1
def zb2 : Nat → List ByteArray → Int → Int → Option (Int)
 | 0, _, _, _ => none
 | k + 1, x0, x1, x5 => if x5 < (x0.length : Int) then (if 0 ≤ x5 then (if (wrap64 (x1 - ((rdOf ByteArray.empty x0 x5).size : Int))) < 0 then (some (-1)) else (zb2 k x0 (wrap64 (x1 - ((rdOf ByteArray.empty x0 x5).size : Int))) (wrap64 (x5 + 1)))) else (none)) else (some x1)
def zeq (k : Nat) (l0 : List ByteArray) (a1 : Int) : Option (Int) := if (wrap64 (a1 - (l0.length : Int))) < 0 then (some (-1)) else (zb2 k l0 (wrap64 (a1 - (l0.length : Int))) 0)
theorem zk4 : ∀ k, (∀ y0 y1 y2, LeO (zb2 k y0 y1 y2) (zb2 (k + 1) y0 y1 y2))
 | 0 => fun _ _ _ r h => by simp [zb2] at h
 | k + 1 => by
   have ih0 := zk4 k
   · intro y0 y1 y2
     unfold zb2
     exact zm1 ih0
theorem zp3 : ∀ a0 a1 k, LeO (zeq k a0 a1) (zeq (k + 1) a0 a1) := by
 intro a0 a1 k
 have ih0 := zk4 k
 unfold zeq
 exact zm1 ih0
theorem zi3 (k : Nat) (A0 : Option Addr) (c0 : Nat) (l0 : List ByteArray) (a1 : Int) (r : Int) (w : World) (hr0 : Kd.C Kd.string w A0 l0.length l0) (hc0 : l0.length ≤ c0) (h : zeq k l0 a1 = some r) :
   Calls Tryz.prog 37 #[.slice A0 l0.length c0, .int .i64 a1] w fun e w' => e = .returned (.int .i64 r) ∧ Drawn0 w w' := by
 have HR0 := zA hr0
 have HC0 := zA hc0
 clear hr0 hc0
 have H := h
 unfold zeq at H
 clear h
 revert H
 refine zit (fun c3b0 H => ?_) fun c3b0 H => ?_
 · obtain rfl := zsi H
   go_enter Tryz.func37, Tryz.ntmps37
   exact zr_1
 have H' := zA H
 clear H
 go_enter Tryz.func37, Tryz.ntmps37
 go_wp2
 go_loopg [1, 5] k (fun kq v1 v5 w' => ∃ (x1_1 : Int) (x5_1 : Int), v1 = .int .i64 x1_1 ∧ v5 = .int .i64 x5_1 ∧ Aside0 (zb2 kq l0 x1_1 x5_1 = some r) ∧ Aside0 (kq ≤ k) ∧ Drawn0 w w')
 case atStart => exact ⟨(wrap64 (a1 - (l0.length : Int))), (0), zq5, zq5, H', ⟨zlr _⟩, zq8⟩
 clear H'
 try clear c3b0
 obtain ⟨x1_1, x5_1, rfl, rfl, HA, HK1, ⟨m1, rfl⟩⟩ := hrel
 cases gk with
 | zero => exact absurd HA.out (by simp [zb2])
 | succ k1 =>
 have H := HA.out
 clear HA
 simp only [zb2] at H
 revert H
 refine zit (fun c4 H => ?_) fun c4 H => ?_
 rotate_left
 · obtain rfl := zsi H
   exact zr_1
 revert H
 refine zin fun c5 H => ?_
 revert H
 refine zit (fun c6b0 H => ?_) fun c6b0 H => ?_
 · obtain rfl := zsi H
   obtain ⟨p101, q101⟩ := zpq x5_1 l0.length
   obtain ⟨ad101, e101, hx101_0⟩ := Kd.at_string HR0.out x5_1 (zoe p101) (zoe q101)
   cases e101
   exact zr_1
 have H' := zA H
 clear H
 obtain ⟨p101, q101⟩ := zpq x5_1 l0.length
 obtain ⟨ad101, e101, hx101_0⟩ := Kd.at_string HR0.out x5_1 (zoe p101) (zoe q101)
 cases e101
 go_wp2
 go_roundg k1
 case measure => have := HK1.out; omega
 case rel => exact ⟨(wrap64 (x1_1 - ((rdOf ByteArray.empty l0 x5_1).size : Int))), (wrap64 (x5_1 + 1)), zq5, zq5, H', ⟨zq31 HK1⟩, zq8⟩
def zfu (k : Nat) (l0_0 : List ByteArray) (l0_1 : List Int) (a1 : Int) : Option (Int) := (zeq k l0_0 a1).bind fun t102 => (if t102 < 0 then (some (-1)) else ((zjv l0_1 t102).bind fun t103 => (if t103 < 0 then (some (-1)) else (some t103))))
theorem zx7 : ∀ a0 a1 a2 k, LeO (zfu k a0 a1 a2) (zfu (k + 1) a0 a1 a2) := by
 intro a0 a1 a2 k
 unfold zfu
 exact zm1 zp3
theorem zp4 (k : Nat) (A0_0 : Option Addr) (c0_0 : Nat) (l0_0 : List ByteArray) (A0_1 : Option Addr) (c0_1 : Nat) (l0_1 : List Int) (a1 : Int) (r : Int) (w : World) (hr0_0 : Kd.C Kd.string w A0_0 l0_0.length l0_0) (hc0_0 : l0_0.length ≤ c0_0) (hr0_1 : Kd.C (Kd.int .i64) w A0_1 l0_1.length l0_1) (hc0_1 : l0_1.length ≤ c0_1) (h : zfu k l0_0 l0_1 a1 = some r) :
   Calls Tryz.prog 9 #[.agg #[.slice A0_0 l0_0.length c0_0, .slice A0_1 l0_1.length c0_1], .int .i64 a1] w fun e w' => e = .returned (.int .i64 r) ∧ Below w.heap.size w w' := by
 have hu26 := Tryz.underlying26
 have HR0_0 := zA hr0_0
 have HC0_0 := zA hc0_0
 clear hr0_0 hc0_0
 have HR0_1 := zA hr0_1
 have HC0_1 := zA hc0_1
 clear hr0_1 hc0_1
 have HB := zA (Below.refl w.heap.size w)
 have H := h
 unfold zfu at H
 clear h
 replace H := zob H
 obtain ⟨t102, A30, H⟩ := H
 have A3 := zA A30
 clear A30
 revert H
 refine zit (fun c4b0 H => ?_) fun c4b0 H => ?_
 · obtain rfl := zsi H
   go_enter Tryz.func9, Tryz.ntmps9
   go_wp2_with (first | ((with_reducible refine zgd 2 ?_); refine zbh zq2 #[.slice A0_0 l0_0.length c0_0, .slice A0_1 l0_1.length c0_1] 26 ?_; clear HB; intro gb101 w5 HB BK101 GW101; have GE101 := GW101; obtain ⟨hcz6_0, hcz6_1, hfz6_0, hfz6_1⟩ := zd2 BK101) | ((with_reducible refine zgc 37 ?_); refine zca 8 Tryz.func37 #[.slice A0_0 l0_0.length c0_0, .int .i64 a1] (zi3 k _ _ l0_0 a1 t102 _ (zq7 HR0_0) HC0_0.out A3.out) ?_; rintro e w' ⟨rfl, ⟨nd, rfl⟩⟩; refine ⟨_, rfl, ?_⟩))
   go_ret
   exact ⟨zq4, zq1 GE101⟩
 replace H := zob H
 obtain ⟨t103, A70, H⟩ := H
 have A7 := zA A70
 clear A70
 revert H
 refine zit (fun c8b0 H => ?_) fun c8b0 H => ?_
 · obtain rfl := zsi H
   go_enter Tryz.func9, Tryz.ntmps9
   go_wp2_with (first | ((with_reducible refine zgd 2 ?_); refine zbh zq2 #[.slice A0_0 l0_0.length c0_0, .slice A0_1 l0_1.length c0_1] 26 ?_; clear HB; intro gb101 w9 HB BK101 GW101; have GE101 := GW101; obtain ⟨hcz10_0, hcz10_1, hfz10_0, hfz10_1⟩ := zd2 BK101) | ((with_reducible refine zgc 37 ?_); refine zca 8 Tryz.func37 #[.slice A0_0 l0_0.length c0_0, .int .i64 a1] (zi3 k _ _ l0_0 a1 t102 _ (zq7 HR0_0) HC0_0.out A3.out) ?_; rintro e w' ⟨rfl, ⟨nd, rfl⟩⟩; refine ⟨_, rfl, ?_⟩) | ((with_reducible refine zgc 38 ?_); refine zca 14 Tryz.func38 #[.slice A0_1 l0_1.length c0_1, .int .i64 t102] (zns _ _ l0_1 t102 t103 _ (by repeat (first | exact (zCb HR0_1.out (zq1 GE101)) | (with_reducible first | refine zCa ?_ _ | refine zCn ?_ _ | refine zCd ?_))) HC0_1.out A7.out) ?_; rintro e w' ⟨rfl, ⟨nd, rfl⟩⟩; refine ⟨_, rfl, ?_⟩))
   go_ret
   exact ⟨zq4, zq1 GE101⟩
 obtain rfl := zsi H
 go_enter Tryz.func9, Tryz.ntmps9
 go_wp2_with (first | ((with_reducible refine zgd 2 ?_); refine zbh zq2 #[.slice A0_0 l0_0.length c0_0, .slice A0_1 l0_1.length c0_1] 26 ?_; clear HB; intro gb101 w11 HB BK101 GW101; have GE101 := GW101; obtain ⟨hcz12_0, hcz12_1, hfz12_0, hfz12_1⟩ := zd2 BK101) | ((with_reducible refine zgc 37 ?_); refine zca 8 Tryz.func37 #[.slice A0_0 l0_0.length c0_0, .int .i64 a1] (zi3 k _ _ l0_0 a1 t102 _ (zq7 HR0_0) HC0_0.out A3.out) ?_; rintro e w' ⟨rfl, ⟨nd, rfl⟩⟩; refine ⟨_, rfl, ?_⟩) | ((with_reducible refine zgc 38 ?_); refine zca 14 Tryz.func38 #[.slice A0_1 l0_1.length c0_1, .int .i64 t102] (zns _ _ l0_1 t102 t103 _ (by repeat (first | exact (zCb HR0_1.out (zq1 GE101)) | (with_reducible first | refine zCa ?_ _ | refine zCn ?_ _ | refine zCd ?_))) HC0_1.out A7.out) ?_; rintro e w' ⟨rfl, ⟨nd, rfl⟩⟩; refine ⟨_, rfl, ?_⟩))
 go_ret
 exact ⟨zq4, zq1 GE101⟩
def zjw (a0_0 : ByteArray) (a0_1 : Int) (a0_2 : Int) (a0_3 : Int) (a1 : Int) : Option (Int) := if (wrap64 (a1 - (a0_0.size : Int))) < 0 then (some (-1)) else (some (wrap64 (a1 - (a0_0.size : Int))))
theorem znt (a0_0 : ByteArray) (a0_1 : Int) (a0_2 : Int) (a0_3 : Int) (a1 : Int) (r : Int) (w : World) (h : zjw a0_0 a0_1 a0_2 a0_3 a1 = some r) :
   Calls Tryz.prog 36 #[.agg #[.string a0_0, .int .i64 a0_1, .int .i64 a0_2, .int .i64 a0_3], .int .i64 a1] w fun e w' => e = .returned (.int .i64 r) ∧ Below w.heap.size w w' := by
 have hu58 := Tryz.underlying58
 have HB := zA (Below.refl w.heap.size w)
 have H := h
 unfold zjw at H
 clear h
 revert H
 refine zit (fun c3b0 H => ?_) fun c3b0 H => ?_
 · obtain rfl := zsi H
   go_enter Tryz.func36, Tryz.ntmps36
   go_wp2_with (first | ((with_reducible refine zgd 2 ?_); refine zbh zq2 #[.string a0_0, .int .i64 a0_1, .int .i64 a0_2, .int .i64 a0_3] 58 ?_; clear HB; intro gb101 w4 HB BK101 GW101; have GE101 := GW101; obtain ⟨hcz5_0, hcz5_1, hcz5_2, hcz5_3, hfz5_0, hfz5_1, hfz5_2, hfz5_3⟩ := zd4 BK101))
   go_ret
   exact ⟨zq4, zq1 GE101⟩
 · obtain rfl := zsi H
   go_enter Tryz.func36, Tryz.ntmps36
   go_wp2_with (first | ((with_reducible refine zgd 2 ?_); refine zbh zq2 #[.string a0_0, .int .i64 a0_1, .int .i64 a0_2, .int .i64 a0_3] 58 ?_; clear HB; intro gb101 w6 HB BK101 GW101; have GE101 := GW101; obtain ⟨hcz7_0, hcz7_1, hcz7_2, hcz7_3, hfz7_0, hfz7_1, hfz7_2, hfz7_3⟩ := zd4 BK101))
   go_ret
   exact ⟨zq4, zq1 GE101⟩
def zci : Nat → List (S58) → Int → Int → Option (Int)
 | 0, _, _, _ => none
 | k + 1, x0, x1, x5 => if x5 < (x0.length : Int) then (if 0 ≤ x5 then ((zjw ((zhq x0 x5).f0) ((zhq x0 x5).f1) ((zhq x0 x5).f2) ((zhq x0 x5).f3) x1).bind fun t102 => (if t102 < 0 then (some (-1)) else (zci k x0 t102 (wrap64 (x5 + 1))))) else (none)) else (some x1)
def zfj (k : Nat) (l0 : List (S58)) (a1 : Int) : Option (Int) := if (wrap64 (a1 - (l0.length : Int))) < 0 then (some (-1)) else (zci k l0 (wrap64 (a1 - (l0.length : Int))) 0)
theorem zmb : ∀ k, (∀ y0 y1 y2, LeO (zci k y0 y1 y2) (zci (k + 1) y0 y1 y2))
 | 0 => fun _ _ _ r h => by simp [zci] at h
 | k + 1 => by
   have ih0 := zmb k
   · intro y0 y1 y2
     unfold zci
     exact zm1 ih0
theorem zy4 : ∀ a0 a1 k, LeO (zfj k a0 a1) (zfj (k + 1) a0 a1) := by
 intro a0 a1 k
 have ih0 := zmb k
 unfold zfj
 exact zm1 ih0
theorem zqr (k : Nat) (A0 : Option Addr) (c0 : Nat) (l0 : List (S58)) (a1 : Int) (r : Int) (w : World) (hr0 : Kd.C k58 w A0 l0.length l0) (hc0 : l0.length ≤ c0) (h : zfj k l0 a1 = some r) :
   Calls Tryz.prog 8 #[.slice A0 l0.length c0, .int .i64 a1] w fun e w' => e = .returned (.int .i64 r) ∧ Below w.heap.size w w' := by
 have hu58 := Tryz.underlying58
 have HR0 := zA hr0
 have HC0 := zA hc0
 clear hr0 hc0
 have HB := zA (Below.refl w.heap.size w)
 have H := h
 unfold zfj at H
 clear h
 revert H
 refine zit (fun c3b0 H => ?_) fun c3b0 H => ?_
 · obtain rfl := zsi H
   go_enter Tryz.func8, Tryz.ntmps8
   go_wp2
   exact zr_4
 have H' := zA H
 clear H
 go_enter Tryz.func8, Tryz.ntmps8
 go_wp2
 go_loopg [1, 5] k (fun kq v1 v5 w' => ∃ (x1_1 : Int) (x5_1 : Int), v1 = .int .i64 x1_1 ∧ v5 = .int .i64 x5_1 ∧ Aside0 (zci kq l0 x1_1 x5_1 = some r) ∧ Aside0 (kq ≤ k) ∧ Aside0 (Below w.heap.size w w'))
 case atStart => exact ⟨(wrap64 (a1 - (l0.length : Int))), (0), zq5, zq5, H', ⟨zlr _⟩, ⟨zq2⟩⟩
 clear H'
 try clear c3b0
 obtain ⟨x1_1, x5_1, rfl, rfl, HA, HK1, HB⟩ := hrel
 cases gk with
 | zero => exact absurd HA.out (by simp [zci])
 | succ k1 =>
 have H := HA.out
 clear HA
 simp only [zci] at H
 revert H
 refine zit (fun c4 H => ?_) fun c4 H => ?_
 rotate_left
 · obtain rfl := zsi H
   go_wp2
   exact zr_4
 revert H
 refine zin fun c5 H => ?_
 replace H := zob H
 obtain ⟨t102, A60, H⟩ := H
 have A6 := zA A60
 clear A60
 revert H
 refine zit (fun c7b0 H => ?_) fun c7b0 H => ?_
 · obtain rfl := zsi H
   obtain ⟨p101, q101⟩ := zpq x5_1 l0.length
   obtain ⟨ad101, e101, hx101_0, hx101_1, hx101_2, hx101_3⟩ := zzo HR0.out x5_1 (zoe p101) (zoe q101)
   cases e101
   replace hx101_0 := zkep HB.out hx101_0
   replace hx101_1 := zkep HB.out hx101_1
   replace hx101_2 := zkep HB.out hx101_2
   replace hx101_3 := zkep HB.out hx101_3
   go_wp2_with (first | ((with_reducible refine zgc 36 ?_); refine zcl 23 Tryz.func36 (znt ((zhq l0 x5_1).f0) ((zhq l0 x5_1).f1) ((zhq l0 x5_1).f2) ((zhq l0 x5_1).f3) x1_1 t102 _ A6.out) ?_; rintro e w8 ⟨rfl, hb⟩; refine ⟨_, rfl, ?_⟩; replace HB := zA (zaa zq2 hb); (try clear hb)))
   exact zr_4
 have H' := zA H
 clear H
 obtain ⟨p101, q101⟩ := zpq x5_1 l0.length
 obtain ⟨ad101, e101, hx101_0, hx101_1, hx101_2, hx101_3⟩ := zzo HR0.out x5_1 (zoe p101) (zoe q101)
 cases e101
 replace hx101_0 := zkep HB.out hx101_0
 replace hx101_1 := zkep HB.out hx101_1
 replace hx101_2 := zkep HB.out hx101_2
 replace hx101_3 := zkep HB.out hx101_3
 go_wp2_with (first | ((with_reducible refine zgc 36 ?_); refine zcl 23 Tryz.func36 (znt ((zhq l0 x5_1).f0) ((zhq l0 x5_1).f1) ((zhq l0 x5_1).f2) ((zhq l0 x5_1).f3) x1_1 t102 _ A6.out) ?_; rintro e w9 ⟨rfl, hb⟩; refine ⟨_, rfl, ?_⟩; replace HB := zA (zaa zq2 hb); (try clear hb)))
 go_roundg k1
 case measure => have := HK1.out; omega
 case rel => exact ⟨(t102), (wrap64 (x5_1 + 1)), zq5, zq5, H', ⟨zq31 HK1⟩, ⟨zq2⟩⟩
def zdy : Nat → List Int → List Int → Int → Option (List Int)
 | 0, _, _, _ => none
 | k + 1, x0, x3, x4 => if x4 < (x0.length : Int) then (if 0 ≤ x4 then (if x4 < (x3.length : Int) then (zdy k x0 (x3.set (x4 : Int).toNat (rd x0 x4)) (wrap64 (x4 + 1))) else (none)) else (none)) else (some x3)
def zg5 (k : Nat) (l0 : List Int) : Option (List Int) := if 0 ≤ (l0.length : Int) then (if ((l0.length : Int) : Int).toNat ≤ 35184372088832 then (zdy k l0 (List.replicate ((l0.length : Int) : Int).toNat 0) 0) else (none)) else (none)
theorem zmu : ∀ k, (∀ y0 y1 y2, LeO (zdy k y0 y1 y2) (zdy (k + 1) y0 y1 y2))
 | 0 => fun _ _ _ r h => by simp [zdy] at h
 | k + 1 => by
   have ih0 := zmu k
   · intro y0 y1 y2
     unfold zdy
     exact zm1 ih0
theorem zsu : ∀ a0 k, LeO (zg5 k a0) (zg5 (k + 1) a0) := by
 intro a0 k
 have ih0 := zmu k
 unfold zg5
 exact zm1 ih0
theorem zrx (k : Nat) (A0 : Option Addr) (c0 : Nat) (l0 : List Int) (r : List Int) (w : World) (hr0 : Kd.C (Kd.int .i64) w A0 l0.length l0) (hc0 : l0.length ≤ c0) (h : zg5 k l0 = some r) :
   Calls Tryz.prog 33 #[.slice A0 l0.length c0] w fun e w' => ∃ v0_ : Value, e = .returned (v0_) ∧ Kd.R (Kd.int .i64) 3 w' w.heap.size (fun _ => True) v0_ r ∧ Below w.heap.size w w' := by
 have HR0 := zA hr0
 have HC0 := zA hc0
 clear hr0 hc0
 have HB := zA (Below.refl w.heap.size w)
 have H := h
 unfold zg5 at H
 clear h
 by_cases c2 : 0 ≤ (l0.length : Int)
 rotate_left
 · rw [if_neg c2] at H
   exact absurd H (by simp)
 rw [if_pos c2] at H
 have c2b0 := eq_true c2
 have c2b1 := zdt c2
 clear c2
 by_cases c3 : ((l0.length : Int) : Int).toNat ≤ 35184372088832
 rotate_left
 · rw [if_neg c3] at H
   exact absurd H (by simp)
 rw [if_pos c3] at H
 have c3b0 := eq_true c3
 have c3b1 := zdt c3
 clear c3
 obtain ⟨y101, hy101⟩ : ∃ y_ : List Int, y_ = (List.replicate ((l0.length : Int) : Int).toNat 0) := ⟨_, rfl⟩
 rw [← hy101] at H; try with_reducible replace H := zbs H
 have Ny101 := zA hy101
 clear hy101
 have H' := zA H
 clear H
 go_enter Tryz.func33, Tryz.ntmps33
 go_wp2_with (first | ((with_reducible refine zgd 7 ?_); refine Kd.R_make (Kd.int .i64) _ 3 rfl (N := 7) rfl 24 _ _ rfl (l0.length : Int) rfl rfl Tryz.underlying24 (.int .i64 0) 8 zl5 rfl (by decide) (by omega) 0 (ok := fun _ => True) (okp := fun _ => True) rfl (fun _ hk => hk) trivial (zde zq14) (Nat.le_trans (Nat.mul_le_mul_right _ (zde zq14 : (l0.length : Int).toNat ≤ 35184372088832)) (by omega)) (Below.refl _ _) (zlr _) ?_; intro v102 w4 ho5 hb hg_ hnew_; clear hg_ hnew_; (first | rw [← Ny101.out] at ho5 | (simp only [Int.reduceToNat] at ho5; rw [← Ny101.out] at ho5)); have HO103 := zA (Kd.R_lower ho5 (zaf zq2)); replace HB := zA (zaa zq2 hb); clear hb ho5))
 go_loopg [4] k (fun kq v4 w' => ∃ (x3_1 : List Int) (x4_1 : Int), v4 = .int .i64 x4_1 ∧ Aside0 (zdy kq l0 x3_1 x4_1 = some r) ∧ Aside0 (kq ≤ k) ∧ Aside0 (Kd.R (Kd.int .i64) 3 w' w.heap.size (fun _ => True) v102 x3_1) ∧ Aside0 (Below w.heap.size w w'))
 case atStart => exact ⟨(y101), (0), zq5, H', ⟨zlr _⟩, ⟨zq3 HO103⟩, ⟨zq2⟩⟩
 clear H'
 try clear c2
 try clear c2b0
 try clear c2b1
 try clear c3
 try clear c3b0
 try clear c3b1
 obtain ⟨x3_1, x4_1, rfl, HA, HK1, HO_3, HB⟩ := hrel
 cases gk with
 | zero => exact absurd HA.out (by simp [zdy])
 | succ k1 =>
 have H := HA.out
 clear HA
 simp only [zdy] at H
 revert H
 refine zit (fun c6 H => ?_) fun c6 H => ?_
 rotate_left
 · obtain rfl := zsi H
   go_wp2
   go_ret
   exact ⟨_, zq4, zq3 HO_3, zq2⟩
 revert H
 refine zin fun c7 H => ?_
 revert H
 refine zin fun c8 H => ?_
 obtain ⟨y105, hy105⟩ : ∃ y_ : List Int, y_ = (x3_1.set (x4_1 : Int).toNat (rd l0 x4_1)) := ⟨_, rfl⟩
 rw [← hy105] at H; try with_reducible replace H := zbs H
 have Ny105 := zA hy105
 clear hy105
 have H' := zA H
 clear H
 obtain ⟨p104, q104⟩ := zpq x4_1 l0.length
 obtain ⟨ad104, e104, hx104_0⟩ := Kd.at_int HR0.out x4_1 (zoe p104) (zoe q104)
 cases e104
 replace hx104_0 := zkep HB.out hx104_0
 have p9 : 0 ≤ (x4_1 : Int) := zde zq14
 have q9 : (x4_1 : Int) < ((x3_1.length : Int) : Int) := zde zq14
 obtain ⟨go9, co9, eo9, gb9, gl9, cl9, HG9⟩ := Kd.R_form HO_3.out (by omega)
 (first | cases eo9 | (injection eo9 with ea_ en_ ec_; (first | subst ea_ | (injection ea_ with ea_; subst ea_)); subst ec_; clear en_))
 have GB9 := zA gb9
 have GG9 := zA HG9
 clear gb9 gl9 HG9
 obtain ⟨hx9_0, hf9_0⟩ := Kd.R_celln 0 HO_3.out (x4_1 : Int) p9 q9
 replace p9 := eq_true p9
 replace q9 := eq_true q9
 have HP10 := Kd.R_putg HO_3.out (x4_1 : Int) (rd l0 x4_1)
 go_wp2_with (first | ((with_reducible refine zgs 3 20 ?_); refine zse (wr.setCell ⟨go9, (x4_1 : Int).toNat, none⟩ (.int .i64 (rd l0 x4_1))) ?_; intro w11 hw; have hg : wr.grownBy w11 (some go9) := (by rw [hw]; exact HP10.2); have hp_ : Kd.R (Kd.int .i64) 3 w11 w.heap.size (fun _ => True) (.slice (some ⟨go9, 0, none⟩) x3_1.length co9) y105 := (by rw [hw, Ny105.out]; exact HP10.1); clear HP10; replace HO_3 := zA (hp_); replace HB := zA ((zq32 GB9 : Below w.heap.size w w11)); clear hg hw hp_))
 go_roundg k1
 case measure => have := HK1.out; omega
 case rel => exact ⟨(y105), (wrap64 (x4_1 + 1)), zq5, H', ⟨zq31 HK1⟩, ⟨zq3 HO_3⟩, ⟨zq2⟩⟩
def zcg : Nat → List ByteArray → List ByteArray → Int → Option (List ByteArray)
 | 0, _, _, _ => none
 | k + 1, x0, x3, x4 => if x4 < (x0.length : Int) then (if 0 ≤ x4 then (if x4 < (x3.length : Int) then (zcg k x0 (x3.set (x4 : Int).toNat (rdOf ByteArray.empty x0 x4)) (wrap64 (x4 + 1))) else (none)) else (none)) else (some x3)
def zfe (k : Nat) (l0 : List ByteArray) : Option (List ByteArray) := if 0 ≤ (l0.length : Int) then (if ((l0.length : Int) : Int).toNat ≤ 17592186044416 then (zcg k l0 (List.replicate ((l0.length : Int) : Int).toNat (⟨#[]⟩ : ByteArray)) 0) else (none)) else (none)
theorem zk5 : ∀ k, (∀ y0 y1 y2, LeO (zcg k y0 y1 y2) (zcg (k + 1) y0 y1 y2))
 | 0 => fun _ _ _ r h => by simp [zcg] at h
 | k + 1 => by
   have ih0 := zk5 k
   · intro y0 y1 y2
     unfold zcg
     exact zm1 ih0
theorem zp5 : ∀ a0 k, LeO (zfe k a0) (zfe (k + 1) a0) := by
 intro a0 k
 have ih0 := zk5 k
 unfold zfe
 exact zm1 ih0
theorem zpk (k : Nat) (A0 : Option Addr) (c0 : Nat) (l0 : List ByteArray) (r : List ByteArray) (w : World) (hr0 : Kd.C Kd.string w A0 l0.length l0) (hc0 : l0.length ≤ c0) (h : zfe k l0 = some r) :
   Calls Tryz.prog 42 #[.slice A0 l0.length c0] w fun e w' => ∃ v0_ : Value, e = .returned (v0_) ∧ Kd.R Kd.string 9 w' w.heap.size (fun _ => True) v0_ r ∧ Below w.heap.size w w' := by
 have HR0 := zA hr0
 have HC0 := zA hc0
 clear hr0 hc0
 have HB := zA (Below.refl w.heap.size w)
 have H := h
 unfold zfe at H
 clear h
 by_cases c2 : 0 ≤ (l0.length : Int)
 rotate_left
 · rw [if_neg c2] at H
   exact absurd H (by simp)
 rw [if_pos c2] at H
 have c2b0 := eq_true c2
 have c2b1 := zdt c2
 clear c2
 by_cases c3 : ((l0.length : Int) : Int).toNat ≤ 17592186044416
 rotate_left
 · rw [if_neg c3] at H
   exact absurd H (by simp)
 rw [if_pos c3] at H
 have c3b0 := eq_true c3
 have c3b1 := zdt c3
 clear c3
 obtain ⟨y101, hy101⟩ : ∃ y_ : List ByteArray, y_ = (List.replicate ((l0.length : Int) : Int).toNat (⟨#[]⟩ : ByteArray)) := ⟨_, rfl⟩
 rw [← hy101] at H; try with_reducible replace H := zbs H
 have Ny101 := zA hy101
 clear hy101
 have H' := zA H
 clear H
 go_enter Tryz.func42, Tryz.ntmps42
 go_wp2_with (first | ((with_reducible refine zgd 7 ?_); refine Kd.R_make Kd.string _ 9 rfl (N := 7) rfl 23 _ _ rfl (l0.length : Int) rfl rfl Tryz.underlying23 (.string ⟨#[]⟩) 16 zw0 rfl (by decide) (by omega) (⟨#[]⟩ : ByteArray) (ok := fun _ => True) (okp := fun _ => True) rfl (fun _ hk => hk) trivial (zde zq14) (Nat.le_trans (Nat.mul_le_mul_right _ (zde zq14 : (l0.length : Int).toNat ≤ 17592186044416)) (by omega)) (Below.refl _ _) (zlr _) ?_; intro v102 w4 ho5 hb hg_ hnew_; clear hg_ hnew_; (first | rw [← Ny101.out] at ho5 | (simp only [Int.reduceToNat] at ho5; rw [← Ny101.out] at ho5)); have HO103 := zA (Kd.R_lower ho5 (zaf zq2)); replace HB := zA (zaa zq2 hb); clear hb ho5))
 go_loopg [4] k (fun kq v4 w' => ∃ (x3_1 : List ByteArray) (x4_1 : Int), v4 = .int .i64 x4_1 ∧ Aside0 (zcg kq l0 x3_1 x4_1 = some r) ∧ Aside0 (kq ≤ k) ∧ Aside0 (Kd.R Kd.string 9 w' w.heap.size (fun _ => True) v102 x3_1) ∧ Aside0 (Below w.heap.size w w'))
 case atStart => exact ⟨(y101), (0), zq5, H', ⟨zlr _⟩, ⟨zq3 HO103⟩, ⟨zq2⟩⟩
 clear H'
 try clear c2
 try clear c2b0
 try clear c2b1
 try clear c3
 try clear c3b0
 try clear c3b1
 obtain ⟨x3_1, x4_1, rfl, HA, HK1, HO_3, HB⟩ := hrel
 cases gk with
 | zero => exact absurd HA.out (by simp [zcg])
 | succ k1 =>
 have H := HA.out
 clear HA
 simp only [zcg] at H
 revert H
 refine zit (fun c6 H => ?_) fun c6 H => ?_
 rotate_left
 · obtain rfl := zsi H
   go_wp2
   go_ret
   exact ⟨_, zq4, zq3 HO_3, zq2⟩
 revert H
 refine zin fun c7 H => ?_
 revert H
 refine zin fun c8 H => ?_
 obtain ⟨y105, hy105⟩ : ∃ y_ : List ByteArray, y_ = (x3_1.set (x4_1 : Int).toNat (rdOf ByteArray.empty l0 x4_1)) := ⟨_, rfl⟩
 rw [← hy105] at H; try with_reducible replace H := zbs H
 have Ny105 := zA hy105
 clear hy105
 have H' := zA H
 clear H
 obtain ⟨p104, q104⟩ := zpq x4_1 l0.length
 obtain ⟨ad104, e104, hx104_0⟩ := Kd.at_string HR0.out x4_1 (zoe p104) (zoe q104)
 cases e104
 replace hx104_0 := zkep HB.out hx104_0
 have p9 : 0 ≤ (x4_1 : Int) := zde zq14
 have q9 : (x4_1 : Int) < ((x3_1.length : Int) : Int) := zde zq14
 obtain ⟨go9, co9, eo9, gb9, gl9, cl9, HG9⟩ := Kd.R_form HO_3.out (by omega)
 (first | cases eo9 | (injection eo9 with ea_ en_ ec_; (first | subst ea_ | (injection ea_ with ea_; subst ea_)); subst ec_; clear en_))
 have GB9 := zA gb9
 have GG9 := zA HG9
 clear gb9 gl9 HG9
 obtain ⟨hx9_0, hf9_0⟩ := Kd.R_celln (⟨#[]⟩ : ByteArray) HO_3.out (x4_1 : Int) p9 q9
 replace p9 := eq_true p9
 replace q9 := eq_true q9
 have HP10 := Kd.R_putg HO_3.out (x4_1 : Int) (rdOf ByteArray.empty l0 x4_1)
 go_wp2_with (first | ((with_reducible refine zgs 9 20 ?_); refine zse (wr.setCell ⟨go9, (x4_1 : Int).toNat, none⟩ (.string (rdOf ByteArray.empty l0 x4_1))) ?_; intro w11 hw; have hg : wr.grownBy w11 (some go9) := (by rw [hw]; exact HP10.2); have hp_ : Kd.R Kd.string 9 w11 w.heap.size (fun _ => True) (.slice (some ⟨go9, 0, none⟩) x3_1.length co9) y105 := (by rw [hw, Ny105.out]; exact HP10.1); clear HP10; replace HO_3 := zA (hp_); replace HB := zA ((zq32 GB9 : Below w.heap.size w w11)); clear hg hw hp_))
 go_roundg k1
 case measure => have := HK1.out; omega
 case rel => exact ⟨(y105), (wrap64 (x4_1 + 1)), zq5, H', ⟨zq31 HK1⟩, ⟨zq3 HO_3⟩, ⟨zq2⟩⟩
def zfv (k : Nat) (l0_0 : List ByteArray) (l0_1 : List Int) : Option (List ByteArray × List Int) := (zfe k l0_0).bind fun t104 => ((zg5 k l0_1).bind fun t107 => (some (t104, t107)))
theorem zx8 : ∀ a0 a1 k, LeO (zfv k a0 a1) (zfv (k + 1) a0 a1) := by
 intro a0 a1 k
 unfold zfv
 exact zm2 zsu zp5
theorem zh2 (k : Nat) (A0_0 : Option Addr) (c0_0 : Nat) (l0_0 : List ByteArray) (A0_1 : Option Addr) (c0_1 : Nat) (l0_1 : List Int) (r1 : List ByteArray) (r2 : List Int) (w : World) (hr0_0 : Kd.C Kd.string w A0_0 l0_0.length l0_0) (hc0_0 : l0_0.length ≤ c0_0) (hr0_1 : Kd.C (Kd.int .i64) w A0_1 l0_1.length l0_1) (hc0_1 : l0_1.length ≤ c0_1) (h : zfv k l0_0 l0_1 = some (r1, r2)) :
   Calls Tryz.prog 12 #[.agg #[.slice A0_0 l0_0.length c0_0, .slice A0_1 l0_1.length c0_1]] w fun e w' => ∃ v0_ v1_ : Value, e = .returned (.agg #[v0_, v1_]) ∧ Kd.R Kd.string 9 w' w.heap.size (fun _ => True) v0_ r1 ∧ Kd.R (Kd.int .i64) 3 w' w.heap.size (fun _ => True) v1_ r2 ∧ Below w.heap.size w w' := by
 have hu26 := Tryz.underlying26
 have hu34 := Tryz.underlying34
 have HR0_0 := zA hr0_0
 have HC0_0 := zA hc0_0
 clear hr0_0 hc0_0
 have HR0_1 := zA hr0_1
 have HC0_1 := zA hc0_1
 clear hr0_1 hc0_1
 have HB := zA (Below.refl w.heap.size w)
 have H := h
 unfold zfv at H
 clear h
 replace H := zob H
 obtain ⟨t104, A20, H⟩ := H
 have A2 := zA A20
 clear A20
 replace H := zob H
 obtain ⟨t107, A30, H⟩ := H
 have A3 := zA A30
 clear A30
 simp only [Option.some.injEq, Prod.mk.injEq] at H
 obtain ⟨rfl, rfl⟩ := H
 go_enter Tryz.func12, Tryz.ntmps12
 go_wp2_with (first | ((with_reducible refine zgd 1 ?_); refine zbx #[.slice A0_0 l0_0.length c0_0, .slice A0_1 l0_1.length c0_1] 26 ?_; intro gb101 hg w4 hbox hb; have zs := zpair zq2 hb; replace HB := zA (zs.1); have BK101 := zA (hbox); have GW101 := zA (zge hg zs.2); have GE101 := GW101; clear zs hb hbox hg) | ((with_reducible refine zgd 2 ?_); refine zbx #[.slice none 0 0, .slice none 0 0] 34 ?_; intro gb102 hg w5 hbox hb; have zs := zpair (zq1 GE101) hb; replace HB := zA (zs.1); have BK102 := zA (hbox); have GW102 := zA (zge hg zs.2); have GE102 := GW102; have NB101_102 := zA ((zq21 BK101 : gb101 ≠ gb102)); replace BK101 := zbb BK101 hb; have NB102_101 := zA (Ne.symm NB101_102.out); clear zs hb hbox hg) | ((with_reducible refine zgd 3 ?_); refine zbx #[.slice none 0 0, .slice none 0 0] 34 ?_; intro gb103 hg w6 hbox hb; have zs := zpair (zq9 GE101 GE102) hb; replace HB := zA (zs.1); have BK103 := zA (hbox); have GW103 := zA (zge hg zs.2); have GE103 := GW103; have NB101_103 := zA ((zq21 BK101 : gb101 ≠ gb103)); replace BK101 := zbb BK101 hb; have NB103_101 := zA (Ne.symm NB101_103.out); have NB102_103 := zA ((zq21 BK102 : gb102 ≠ gb103)); replace BK102 := zbb BK102 hb; have NB103_102 := zA (Ne.symm NB102_103.out); clear zs hb hbox hg; have hnb7 := NB101_102.out; have hnc7 := NB102_101.out; have hnb8 := NB101_103.out; have hnc8 := NB103_101.out; obtain ⟨hcz9_0, hcz9_1, hfz9_0, hfz9_1⟩ := zd2 BK101) | ((with_reducible refine zgc 42 ?_); refine zca 6 Tryz.func42 #[.slice A0_0 l0_0.length c0_0] (zpk k _ _ l0_0 t104 _ (zq7 HR0_0) HC0_0.out A2.out) ?_; rintro e w10 ⟨v105, rfl, ho0, hb⟩; refine ⟨_, rfl, ?_⟩; have HO106 := zA (Kd.R_lower ho0 (zaf (zq24 GE101 GE102 GE103))); replace BK101 := zbb BK101 hb; replace BK102 := zbb BK102 hb; replace BK103 := zbb BK103 hb; replace HB := zA (zaa (zq24 GE101 GE102 GE103) hb); (try clear hb); (try clear ho0); obtain ⟨Ao11, co11, eo11⟩ := Kd.R_slice HO106.out; subst eo11; have hnb12 := NB103_102.out; have hnc12 := NB102_103.out; obtain ⟨hcz13_0, hcz13_1⟩ := zc2 w10 (.slice none 0 0) (.slice none 0 0) BK103.out; obtain ⟨hfz13_0, hfz13_1⟩ := zf2 BK103.out; obtain ⟨hcz14_0, hcz14_1⟩ := zc2 w10 (.slice A0_0 l0_0.length c0_0) (.slice A0_1 l0_1.length c0_1) BK101.out; obtain ⟨hfz14_0, hfz14_1⟩ := zf2 BK101.out) | ((with_reducible refine zgc 33 ?_); refine zca 10 Tryz.func33 #[.slice A0_1 l0_1.length c0_1] (zrx k _ _ l0_1 t107 _ (by exact zCb HR0_1.out (zq24 GE101 GE102 GE103)) HC0_1.out A3.out) ?_; rintro e w15 ⟨v108, rfl, ho0, hb⟩; refine ⟨_, rfl, ?_⟩; replace HO106 := zA (zRb (by (with_reducible repeat (first | apply zRa | apply zRn | apply zRd)); exact (Kd.R_mono (Kd.R_far (p := ⟨gb103, 0, none⟩) (Kd.R_types HO106.out BK103.out (by decide)) (fun _ hk => hk.2) (.slice Ao11 t104.length co11)) (fun _ h_ => h_.1))) hb); have HO109 := zA (Kd.R_lower ho0 (zaf (zq24 GE101 GE102 GE103))); replace BK101 := zA (zai (g := gb101) (o := .cells #[.slice A0_0 l0_0.length c0_0, .slice A0_1 l0_1.length c0_1] 26 (0, 0)) (zq60 NB101_103 BK101) hb); replace BK102 := zA (zai (g := gb102) (o := .cells #[.slice none 0 0, .slice none 0 0] 34 (0, 0)) (zq60 NB102_103 BK102) hb); replace BK103 := zA (zai (g := gb103) (o := .cells #[.slice Ao11 t104.length co11, .slice none 0 0] 34 (0, 0)) (by (with_reducible repeat (first | refine zkn ?_ _ | refine zkd ?_ | refine zka ?_ _)); refine zd9 (cs := #[.slice none 0 0, .slice none 0 0]) ?_ 0 _ rfl; (with_reducible repeat (first | refine zkn ?_ _ | refine zkd ?_ | refine zka ?_ _)); exact BK103.out) hb); replace HB := zA (zaa (zq24 GE101 GE102 GE103) hb); (try clear hb); (try clear hk); (try clear ho0); obtain ⟨Ao16, co16, eo16⟩ := Kd.R_slice HO109.out; subst eo16; obtain ⟨hcz17_0, hcz17_1⟩ := zc2 w15 (.slice Ao11 t104.length co11) (.slice none 0 0) BK103.out; obtain ⟨hfz17_0, hfz17_1⟩ := zf2 BK103.out; obtain ⟨hcz18_0, hcz18_1⟩ := zc2 w15 (.slice none 0 0) (.slice none 0 0) BK102.out; obtain ⟨hfz18_0, hfz18_1⟩ := zf2 BK102.out))
 refine bodyPost_ret (results_cell_row rfl _ _ gb102 34 #[.slice Ao11 t104.length co11, .slice Ao16 t107.length co16] (0, 0) _ rfl (by (with_reducible repeat (first | refine zkn ?_ _ | refine zkd ?_ | refine zka ?_ _)); refine zd9 (cs := #[.slice Ao11 t104.length co11, .slice none 0 0]) ?_ 1 _ rfl; (with_reducible repeat (first | refine zkn ?_ _ | refine zkd ?_ | refine zka ?_ _)); refine zd9 (cs := #[.slice none 0 0, .slice none 0 0]) ?_ 0 _ rfl; (with_reducible repeat (first | refine zkn ?_ _ | refine zkd ?_ | refine zka ?_ _)); refine zbk ?_ NB102_103.out _; (with_reducible repeat (first | refine zkn ?_ _ | refine zkd ?_ | refine zka ?_ _)); exact BK102.out) Tryz.underlying34 rfl zq23) rfl ?_
 exact ⟨_, _, zq4, zq47 HO106 BK103 BK102, zq47 HO109 BK103 BK102, zq24 GE101 GE102 GE103⟩
def zl1 (a0_0 : ByteArray) (a0_1 : Int) (a0_2 : Int) (a0_3 : Int) : Option (ByteArray × Int × Int × Int) := some (a0_0, a0_1, a0_2, a0_3)
theorem zry (a0_0 : ByteArray) (a0_1 : Int) (a0_2 : Int) (a0_3 : Int) (r1 : ByteArray) (r2 : Int) (r3 : Int) (r4 : Int) (w : World) (h : zl1 a0_0 a0_1 a0_2 a0_3 = some (r1, r2, r3, r4)) :
   Calls Tryz.prog 41 #[.agg #[.string a0_0, .int .i64 a0_1, .int .i64 a0_2, .int .i64 a0_3]] w fun e w' => e = .returned (.agg #[.string r1, .int .i64 r2, .int .i64 r3, .int .i64 r4]) ∧ Below w.heap.size w w' := by
 have hu58 := Tryz.underlying58
 have hu62 := Tryz.underlying62
 have HB := zA (Below.refl w.heap.size w)
 have H := h
 unfold zl1 at H
 clear h
 simp only [Option.some.injEq, Prod.mk.injEq] at H
 obtain ⟨rfl, rfl, rfl, rfl⟩ := H
 go_enter Tryz.func41, Tryz.ntmps41
 go_wp2_with (first | ((with_reducible refine zgd 1 ?_); refine zbx #[.string a0_0, .int .i64 a0_1, .int .i64 a0_2, .int .i64 a0_3] 58 ?_; intro gb101 hg w2 hbox hb; have zs := zpair zq2 hb; replace HB := zA (zs.1); have BK101 := zA (hbox); have GW101 := zA (zge hg zs.2); have GE101 := GW101; clear zs hb hbox hg) | ((with_reducible refine zgd 2 ?_); refine zbx #[.string (⟨#[]⟩ : ByteArray), .int .i64 0, .int .i64 0, .int .i64 0] 62 ?_; intro gb102 hg w3 hbox hb; have zs := zpair (zq1 GE101) hb; replace HB := zA (zs.1); have BK102 := zA (hbox); have GW102 := zA (zge hg zs.2); have GE102 := GW102; have NB101_102 := zA ((zq21 BK101 : gb101 ≠ gb102)); replace BK101 := zbb BK101 hb; have NB102_101 := zA (Ne.symm NB101_102.out); clear zs hb hbox hg) | ((with_reducible refine zgd 3 ?_); refine zbx #[.string (⟨#[]⟩ : ByteArray), .int .i64 0, .int .i64 0, .int .i64 0] 62 ?_; intro gb103 hg w4 hbox hb; have zs := zpair (zq9 GE101 GE102) hb; replace HB := zA (zs.1); have BK103 := zA (hbox); have GW103 := zA (zge hg zs.2); have GE103 := GW103; have NB101_103 := zA ((zq21 BK101 : gb101 ≠ gb103)); replace BK101 := zbb BK101 hb; have NB103_101 := zA (Ne.symm NB101_103.out); have NB102_103 := zA ((zq21 BK102 : gb102 ≠ gb103)); replace BK102 := zbb BK102 hb; have NB103_102 := zA (Ne.symm NB102_103.out); clear zs hb hbox hg; have hnb5 := NB101_102.out; have hnc5 := NB102_101.out; have hnb6 := NB101_103.out; have hnc6 := NB103_101.out; obtain ⟨hcz7_0, hcz7_1, hcz7_2, hcz7_3, hfz7_0, hfz7_1, hfz7_2, hfz7_3⟩ := zd4 BK101; have hnb8 := NB103_102.out; have hnc8 := NB102_103.out; obtain ⟨hcz9_0, hcz9_1, hcz9_2, hcz9_3, hfz9_0, hfz9_1, hfz9_2, hfz9_3⟩ := zd4 BK103; obtain ⟨hcz10_0, hcz10_1, hcz10_2, hcz10_3, hfz10_0, hfz10_1, hfz10_2, hfz10_3⟩ := zd4 BK102))
 refine bodyPost_ret (results_cell_row rfl _ _ gb102 62 #[.string a0_0, .int .i64 a0_1, .int .i64 a0_2, .int .i64 a0_3] (0, 0) _ rfl (by (with_reducible repeat (first | refine zkn ?_ _ | refine zkd ?_ | refine zka ?_ _)); refine zd9 (cs := #[.string a0_0, .int .i64 a0_1, .int .i64 a0_2, .int .i64 0]) ?_ 3 _ rfl; (with_reducible repeat (first | refine zkn ?_ _ | refine zkd ?_ | refine zka ?_ _)); refine zd9 (cs := #[.string a0_0, .int .i64 a0_1, .int .i64 0, .int .i64 0]) ?_ 2 _ rfl; (with_reducible repeat (first | refine zkn ?_ _ | refine zkd ?_ | refine zka ?_ _)); refine zd9 (cs := #[.string a0_0, .int .i64 0, .int .i64 0, .int .i64 0]) ?_ 1 _ rfl; (with_reducible repeat (first | refine zkn ?_ _ | refine zkd ?_ | refine zka ?_ _)); refine zd9 (cs := #[.string (⟨#[]⟩ : ByteArray), .int .i64 0, .int .i64 0, .int .i64 0]) ?_ 0 _ rfl; (with_reducible repeat (first | refine zkn ?_ _ | refine zkd ?_ | refine zka ?_ _)); refine zbk ?_ NB102_103.out _; (with_reducible repeat (first | refine zkn ?_ _ | refine zkd ?_ | refine zka ?_ _)); refine zbk ?_ NB102_103.out _; (with_reducible repeat (first | refine zkn ?_ _ | refine zkd ?_ | refine zka ?_ _)); refine zbk ?_ NB102_103.out _; (with_reducible repeat (first | refine zkn ?_ _ | refine zkd ?_ | refine zka ?_ _)); refine zbk ?_ NB102_103.out _; (with_reducible repeat (first | refine zkn ?_ _ | refine zkd ?_ | refine zka ?_ _)); exact BK102.out) Tryz.underlying62 rfl zq23) rfl ?_
 exact ⟨zq4, zq24 GE101 GE102 GE103⟩
def zdb : Nat → List (S58) → List (S62) → Int → Option ((List (S62)))
 | 0, _, _, _ => none
 | k + 1, x0, x3, x4 => if x4 < (x0.length : Int) then (if 0 ≤ x4 then ((zl1 ((zhq x0 x4).f0) ((zhq x0 x4).f1) ((zhq x0 x4).f2) ((zhq x0 x4).f3)).bind fun bt105 => (if x4 < (x3.length : Int) then (zdb k x0 (x3.set (x4 : Int).toNat (⟨bt105.1, bt105.2.1, bt105.2.2.1, bt105.2.2.2⟩ : S62)) (wrap64 (x4 + 1))) else (none))) else (none)) else (some x3)
def zgf (k : Nat) (l0 : List (S58)) : Option ((List (S62))) := if 0 ≤ (l0.length : Int) then (if ((l0.length : Int) : Int).toNat ≤ 7036874417766 then (zdb k l0 (List.replicate ((l0.length : Int) : Int).toNat z62) 0) else (none)) else (none)
theorem zmc : ∀ k, (∀ y0 y1 y2, LeO (zdb k y0 y1 y2) (zdb (k + 1) y0 y1 y2))
 | 0 => fun _ _ _ r h => by simp [zdb] at h
 | k + 1 => by
   have ih0 := zmc k
   · intro y0 y1 y2
     unfold zdb
     exact zm1 ih0
theorem zy5 : ∀ a0 k, LeO (zgf k a0) (zgf (k + 1) a0) := by
 intro a0 k
 have ih0 := zmc k
 unfold zgf
 exact zm1 ih0
theorem zig (k : Nat) (A0 : Option Addr) (c0 : Nat) (l0 : List (S58)) (r : List (S62)) (w : World) (hr0 : Kd.C k58 w A0 l0.length l0) (hc0 : l0.length ≤ c0) (h : zgf k l0 = some r) :
   Calls Tryz.prog 11 #[.slice A0 l0.length c0] w fun e w' => ∃ v0_ : Value, e = .returned (v0_) ∧ Kd.R k62 62 w' w.heap.size (fun _ => True) v0_ r ∧ Below w.heap.size w w' := by
 have hu58 := Tryz.underlying58
 have hu62 := Tryz.underlying62
 have HR0 := zA hr0
 have HC0 := zA hc0
 clear hr0 hc0
 have HB := zA (Below.refl w.heap.size w)
 have H := h
 unfold zgf at H
 clear h
 by_cases c2 : 0 ≤ (l0.length : Int)
 rotate_left
 · rw [if_neg c2] at H
   exact absurd H (by simp)
 rw [if_pos c2] at H
 have c2b0 := eq_true c2
 have c2b1 := zdt c2
 clear c2
 by_cases c3 : ((l0.length : Int) : Int).toNat ≤ 7036874417766
 rotate_left
 · rw [if_neg c3] at H
   exact absurd H (by simp)
 rw [if_pos c3] at H
 have c3b0 := eq_true c3
 have c3b1 := zdt c3
 clear c3
 obtain ⟨y101, hy101⟩ : ∃ y_ : List (S62), y_ = (List.replicate ((l0.length : Int) : Int).toNat z62) := ⟨_, rfl⟩
 rw [← hy101] at H; try with_reducible replace H := zbs H
 have Ny101 := zA hy101
 clear hy101
 have H' := zA H
 clear H
 go_enter Tryz.func11, Tryz.ntmps11
 go_wp2_with (first | ((with_reducible refine zgd 7 ?_); refine Kd.R_make k62 _ 62 rfl (N := 7) rfl 32 _ _ rfl (l0.length : Int) rfl rfl Tryz.underlying32 (.agg #[(.string ⟨#[]⟩), (.int .i64 0), (.int .i64 0), (.int .i64 0)]) 40 yer rfl (by decide) (by omega) z62 (ok := fun _ => True) (okp := fun _ => True) (zrl _ _ _ z62 ) (fun _ hk => hk) trivial (zde zq14) (Nat.le_trans (Nat.mul_le_mul_right _ (zde zq14 : (l0.length : Int).toNat ≤ 7036874417766)) (by omega)) (Below.refl _ _) (zlr _) ?_; intro v102 w4 ho5 hb hg_ hnew_; clear hg_ hnew_; (first | rw [← Ny101.out] at ho5 | (simp only [Int.reduceToNat] at ho5; rw [← Ny101.out] at ho5)); have HO103 := zA (Kd.R_lower ho5 (zaf zq2)); replace HB := zA (zaa zq2 hb); clear hb ho5))
 go_loopg [4] k (fun kq v4 w' => ∃ (x3_1 : List (S62)) (x4_1 : Int), v4 = .int .i64 x4_1 ∧ Aside0 (zdb kq l0 x3_1 x4_1 = some r) ∧ Aside0 (kq ≤ k) ∧ Aside0 (Kd.R k62 62 w' w.heap.size (fun _ => True) v102 x3_1) ∧ Aside0 (Below w.heap.size w w'))
 case atStart => exact ⟨(y101), (0), zq5, H', ⟨zlr _⟩, ⟨zq3 HO103⟩, ⟨zq2⟩⟩
 clear H'
 try clear c2
 try clear c2b0
 try clear c2b1
 try clear c3
 try clear c3b0
 try clear c3b1
 obtain ⟨x3_1, x4_1, rfl, HA, HK1, HO_3, HB⟩ := hrel
 cases gk with
 | zero => exact absurd HA.out (by simp [zdb])
 | succ k1 =>
 have H := HA.out
 clear HA
 simp only [zdb] at H
 revert H
 refine zit (fun c6 H => ?_) fun c6 H => ?_
 rotate_left
 · obtain rfl := zsi H
   go_wp2
   go_ret
   exact ⟨_, zq4, zq3 HO_3, zq2⟩
 revert H
 refine zin fun c7 H => ?_
 replace H := zob H
 obtain ⟨⟨t105, t106, t107, t108⟩, A80, H⟩ := H
 have A8 := zA A80
 clear A80
 revert H
 refine zin fun c9 H => ?_
 obtain ⟨y109, hy109⟩ : ∃ y_ : List (S62), y_ = (x3_1.set (x4_1 : Int).toNat (⟨t105, t106, t107, t108⟩ : S62)) := ⟨_, rfl⟩
 rw [← hy109] at H; try with_reducible replace H := zbs H
 have Ny109 := zA hy109
 clear hy109
 have H' := zA H
 clear H
 obtain ⟨p104, q104⟩ := zpq x4_1 l0.length
 obtain ⟨ad104, e104, hx104_0, hx104_1, hx104_2, hx104_3⟩ := zzo HR0.out x4_1 (zoe p104) (zoe q104)
 cases e104
 replace hx104_0 := zkep HB.out hx104_0
 replace hx104_1 := zkep HB.out hx104_1
 replace hx104_2 := zkep HB.out hx104_2
 replace hx104_3 := zkep HB.out hx104_3
 go_wp2_with (first | ((with_reducible refine zgc 41 ?_); refine zcl 20 Tryz.func41 (zry ((zhq l0 x4_1).f0) ((zhq l0 x4_1).f1) ((zhq l0 x4_1).f2) ((zhq l0 x4_1).f3) t105 t106 t107 t108 _ A8.out) ?_; rintro e w11 ⟨rfl, hb⟩; refine ⟨_, rfl, ?_⟩; replace HO_3 := zA (zRb (zq3 HO_3) hb); replace HB := zA (zaa zq2 hb); (try clear hb); have p10 : 0 ≤ (x4_1 : Int) := zde zq14; have q10 : (x4_1 : Int) < ((x3_1.length : Int) : Int) := zde zq14; obtain ⟨go10, co10, eo10, gb10, gl10, cl10, HG10⟩ := Kd.R_form HO_3.out (by omega); (first | cases eo10 | (injection eo10 with ea_ en_ ec_; (first | subst ea_ | (injection ea_ with ea_; subst ea_)); subst ec_; clear en_)); have GB10 := zA gb10; have GG10 := zA HG10; clear gb10 gl10 HG10; obtain ⟨ce10, hcl10, hM10, hcc10, hfr10⟩ := Kd.R_elem HO_3.out z62 (x4_1 : Int) p10 q10; obtain rfl := zi5 hM10; have hx10_0 : w11.cell? ⟨go10, (x4_1 : Int).toNat * 4, none⟩ = some (.string ((zab x3_1 x4_1).f0)) := hcc10 0 _ rfl; have hx10_1 : w11.cell? ⟨go10, (x4_1 : Int).toNat * 4 + 1, none⟩ = some (.int .i64 ((zab x3_1 x4_1).f1)) := hcc10 1 _ rfl; have hx10_2 : w11.cell? ⟨go10, (x4_1 : Int).toNat * 4 + 2, none⟩ = some (.int .i64 ((zab x3_1 x4_1).f2)) := hcc10 2 _ rfl; have hx10_3 : w11.cell? ⟨go10, (x4_1 : Int).toNat * 4 + 3, none⟩ = some (.int .i64 ((zab x3_1 x4_1).f3)) := hcc10 3 _ rfl; have hf10_0 : w11.frozen? ⟨go10, (x4_1 : Int).toNat * 4, none⟩ = false := hfr10 0; have hf10_1 : w11.frozen? ⟨go10, (x4_1 : Int).toNat * 4 + 1, none⟩ = false := hfr10 1; have hf10_2 : w11.frozen? ⟨go10, (x4_1 : Int).toNat * 4 + 2, none⟩ = false := hfr10 2; have hf10_3 : w11.frozen? ⟨go10, (x4_1 : Int).toNat * 4 + 3, none⟩ = false := hfr10 3; clear hcl10 hcc10 hfr10 hM10; replace p10 := eq_true p10; replace q10 := eq_true q10; have HX12 := zA (show Kd.R k62 62 w11 w.heap.size (fun _ => True) (.slice (some ⟨go10, 0, none⟩) x3_1.length co10) x3_1 from (zq3 HO_3)); obtain ⟨ce12, hcl12, hM12, hcc12, hfr12⟩ := Kd.R_elem HX12.out z62 (x4_1 : Int) (zde zq14) (by have h_ : (x4_1 : Int) < ((x3_1.length : Int) : Int) := zde zq14; first | exact h_ | (have e_ := (zRr HO_3.out).1; omega) | simpa using h_); obtain rfl := zi5 hM12; have HP12 := Kd.R_seg HX12.out (x4_1 : Int) (zde zq14) (by have h_ : (x4_1 : Int) < ((x3_1.length : Int) : Int) := zde zq14; first | exact h_ | (have e_ := (zRr HO_3.out).1; omega) | simpa using h_) (seg := [.string t105, .int .i64 t106, .int .i64 t107, .int .i64 t108]) (j := 0) hcl12 hcc12 (show 4 ≤ 4 from by decide) (x' := (⟨t105, t106, t107, t108⟩ : S62)) (zrl _ _ _ (⟨t105, t106, t107, t108⟩ : S62) ) (fun _ hk => hk); have hx12_0 := hcc12 0 _ rfl; (try simp only [show (k62).sz = 4 from rfl, Nat.mul_one, Nat.add_zero] at hx12_0); have hf12_0 := hfr12 0; (try simp only [show (k62).sz = 4 from rfl, Nat.mul_one, Nat.add_zero] at hf12_0); have hx12_1 := hcc12 1 _ rfl; (try simp only [show (k62).sz = 4 from rfl, Nat.mul_one, Nat.add_zero] at hx12_1); have hf12_1 := hfr12 1; (try simp only [show (k62).sz = 4 from rfl, Nat.mul_one, Nat.add_zero] at hf12_1); have hx12_2 := hcc12 2 _ rfl; (try simp only [show (k62).sz = 4 from rfl, Nat.mul_one, Nat.add_zero] at hx12_2); have hf12_2 := hfr12 2; (try simp only [show (k62).sz = 4 from rfl, Nat.mul_one, Nat.add_zero] at hf12_2); have hx12_3 := hcc12 3 _ rfl; (try simp only [show (k62).sz = 4 from rfl, Nat.mul_one, Nat.add_zero] at hx12_3); have hf12_3 := hfr12 3; (try simp only [show (k62).sz = 4 from rfl, Nat.mul_one, Nat.add_zero] at hf12_3); clear hcl12 hcc12 hfr12 hM12) | ((with_reducible refine zgs 62 21 ?_); refine zse ((((w11.setCell ⟨go10, (x4_1 : Int).toNat * 4, none⟩ (.string t105)).setCell ⟨go10, (x4_1 : Int).toNat * 4 + 1, none⟩ (.int .i64 t106)).setCell ⟨go10, (x4_1 : Int).toNat * 4 + 2, none⟩ (.int .i64 t107)).setCell ⟨go10, (x4_1 : Int).toNat * 4 + 3, none⟩ (.int .i64 t108)) ?_; intro w13 hw; have hg : w11.grownBy w13 (some go10) := (by rw [hw]; exact HP12.2); have hp_ : Kd.R k62 62 w13 w.heap.size (fun _ => True) (.slice (some ⟨go10, 0, none⟩) x3_1.length co10) y109 := (by rw [hw, Ny109.out]; exact HP12.1); clear HP12; replace HO_3 := zA (hp_); replace HB := zA ((by rw [hw]; exact zac (zac (zac (zac (HB.out) GB10.out) GB10.out) GB10.out) GB10.out : Below w.heap.size w w13)); clear hg hw hp_))
 go_roundg k1
 case measure => have := HK1.out; omega
 case rel => exact ⟨(y109), (wrap64 (x4_1 + 1)), zq5, H', ⟨zq31 HK1⟩, ⟨zq3 HO_3⟩, ⟨zq2⟩⟩
end Go.Proofs.YtnaafcleafbejaaGreat.Q
end
section
namespace Go.Proofs.YtnaafcleafbejaaGreat.Q
open Go.RowKit Go.Proofs.YtnaafcleafbejaaGreatW.PrintWords Go.Proofs.YtnaafcleafbejaaGreatW.PrintLast Go.Proofs.YtnaafcleafbejaaGreatW.PrintMore
set_option maxHeartbeats 8000000
set_option maxRecDepth 100000
attribute [local go_sem] zbc zbg zb8 zb9 za1 za2 zbi zbj
set_option linter.unusedVariables false
set_option linter.unusedSimpArgs false
mutual
def zdr : Nat → ByteArray → Bool → Option (Bool × Bool × Bool × Int × Int)
 | 0, _, _ => none
 | k + 1, x7, x10 => if x10 = true then (some (true, true, false, 0, 0)) else (if x7.toList = ([97, 100, 100] : List UInt8) then (zbl k x7 (x7.toList == ([97, 100, 100] : List UInt8))) else (if x7.toList = ([115, 117, 98] : List UInt8) then (zbl k x7 (x7.toList == ([115, 117, 98] : List UInt8))) else (if x7.toList = ([97, 110, 100] : List UInt8) then (zbl k x7 (x7.toList == ([97, 110, 100] : List UInt8))) else (if x7.toList = ([111, 114] : List UInt8) then (zbl k x7 (x7.toList == ([111, 114] : List UInt8))) else (if x7.toList = ([120, 111, 114] : List UInt8) then (zbl k x7 (x7.toList == ([120, 111, 114] : List UInt8))) else (if x7.toList = ([115, 104, 108] : List UInt8) then (zbl k x7 (x7.toList == ([115, 104, 108] : List UInt8))) else (if x7.toList = ([115, 104, 114] : List UInt8) then (zbl k x7 (x7.toList == ([115, 104, 114] : List UInt8))) else (if x7.toList = ([108, 101, 115, 115] : List UInt8) then (zbl k x7 (x7.toList == ([108, 101, 115, 115] : List UInt8))) else (if x7.toList = ([101, 113] : List UInt8) then (zbl k x7 (x7.toList == ([101, 113] : List UInt8))) else (zbl k x7 (x7.toList == ([109, 117, 108] : List UInt8))))))))))))
def zbl : Nat → ByteArray → Bool → Option (Bool × Bool × Bool × Int × Int)
 | 0, _, _ => none
 | k + 1, x7, x14 => if x14 = true then (some (true, true, true, 0, 0)) else (if x7.toList = ([97, 100, 100, 105] : List UInt8) then (zds k x7 (x7.toList == ([97, 100, 100, 105] : List UInt8))) else (if x7.toList = ([97, 110, 100, 105] : List UInt8) then (zds k x7 (x7.toList == ([97, 110, 100, 105] : List UInt8))) else (zds k x7 (x7.toList == ([120, 111, 114, 105] : List UInt8)))))
def zds : Nat → ByteArray → Bool → Option (Bool × Bool × Bool × Int × Int)
 | 0, _, _ => none
 | k + 1, x7, x25 => if x25 = true then (some (true, true, false, 0, 63)) else (if x7.toList = ([115, 104, 108, 105] : List UInt8) then (zeh k x7 (x7.toList == ([115, 104, 108, 105] : List UInt8))) else (zeh k x7 (x7.toList == ([115, 104, 114, 105] : List UInt8))))
def zeh : Nat → ByteArray → Bool → Option (Bool × Bool × Bool × Int × Int)
 | 0, _, _ => none
 | k + 1, x7, x29 => if x29 = true then (some (true, true, false, 1, 5)) else (if x7.toList = ([108, 101, 97] : List UInt8) then (some (true, true, true, 1, 3)) else (some (false, false, false, 0, 0)))
end
def zei (k : Nat) (a0 : ByteArray) : Option (Bool × Bool × Bool × Int × Int) := if a0.toList = ([115, 101, 116] : List UInt8) then (some (true, false, false, 0, 63)) else (if a0.toList = ([109, 111, 118] : List UInt8) then (zdr k a0 (a0.toList == ([109, 111, 118] : List UInt8))) else (if a0.toList = ([110, 111, 116] : List UInt8) then (zdr k a0 (a0.toList == ([110, 111, 116] : List UInt8))) else (zdr k a0 (a0.toList == ([110, 101, 103] : List UInt8)))))
theorem zmd : ∀ k, (∀ y0 y1, LeO (zdr k y0 y1) (zdr (k + 1) y0 y1)) ∧ (∀ y0 y1, LeO (zbl k y0 y1) (zbl (k + 1) y0 y1)) ∧ (∀ y0 y1, LeO (zds k y0 y1) (zds (k + 1) y0 y1)) ∧ (∀ y0 y1, LeO (zeh k y0 y1) (zeh (k + 1) y0 y1))
 | 0 => ⟨fun _ _ r h => by simp [zdr] at h, fun _ _ r h => by simp [zbl] at h, fun _ _ r h => by simp [zds] at h, fun _ _ r h => by simp [zeh] at h⟩
 | k + 1 => by
   obtain ⟨ih0, ih1, ih2, ih3⟩ := zmd k
   refine ⟨?_, ?_, ?_, ?_⟩
   · intro y0 y1
     unfold zdr
     exact zm4 ih0 ih1 ih2 ih3
   · intro y0 y1
     unfold zbl
     exact zm4 ih0 ih1 ih2 ih3
   · intro y0 y1
     unfold zds
     exact zm4 ih0 ih1 ih2 ih3
   · intro y0 y1
     unfold zeh
     exact zm4 ih0 ih1 ih2 ih3
theorem zcy : ∀ a0 k, LeO (zei k a0) (zei (k + 1) a0) := by
 intro a0 k
 obtain ⟨ih0, ih1, ih2, ih3⟩ := zmd k
 unfold zei
 exact zm4 ih0 ih1 ih2 ih3
theorem zfz (k : Nat) (a0 : ByteArray) (r1 : Bool) (r2 : Bool) (r3 : Bool) (r4 : Int) (r5 : Int) (w : World) (h : zei k a0 = some (r1, r2, r3, r4, r5)) :
   Calls Tryz.prog 115 #[.string a0] w fun e w' => e = .returned (.tuple #[.bool r1, .bool r2, .bool r3, .int .i64 r4, .int .i64 r5]) ∧ Drawn0 w w' := by
 have H := h
 unfold zei at H
 clear h
 by_cases c2 : a0.toList = ([115, 101, 116] : List UInt8)
 · rw [if_pos c2] at H
   obtain ⟨c2b0, c2b1⟩ := zbe c2
   clear c2
   simp only [Option.some.injEq, Prod.mk.injEq] at H
   obtain ⟨rfl, rfl, rfl, rfl, rfl⟩ := H
   go_enter Tryz.func115, Tryz.ntmps115
   go_wp2
   refine bodyPost_ret (ziu (rs := [.tmp 2, .tmp 3, .tmp 4, .tmp 5, .tmp 6]) rfl (by simp) (.tmp (.tmp (.tmp (.tmp (.tmp .nil)))))) rfl ?_
   exact ⟨zq5, zq8⟩
 rw [if_neg c2] at H
 obtain ⟨c2b0, c2b1⟩ := zbq c2
 have HC3 := zA H
 clear H
 go_enter Tryz.func115, Tryz.ntmps115
 go_upto_if 10 with (fail)
 go_cut [10] (fun v10 wc => ∃ (kq : Nat) (x10_2 : Bool), v10 = .bool x10_2 ∧ Aside0 (zdr kq a0 x10_2 = some (r1, r2, r3, r4, r5)) ∧ Aside0 (kq ≤ k) ∧ Drawn0 w wc)
 case first =>
   have H := HC3.out
   clear HC3
   by_cases c4 : a0.toList = ([109, 111, 118] : List UInt8)
   · rw [if_pos c4] at H
     obtain ⟨c4b0, c4b1⟩ := zbe c4
     clear c4
     (first | rw [c4b0] | (simp only [zic, zj6]; rw [c4b0]) | skip)
     have H' := zA H
     clear H
     go_wp2
     go_meet
     case rel => exact ⟨_, ((a0.toList == ([109, 111, 118] : List UInt8))), zq5, H', ⟨zq41⟩, zq8⟩
   rw [if_neg c4] at H
   obtain ⟨c4b0, c4b1⟩ := zbq c4
   (first | rw [c4b0] | (simp only [zic, zj6]; rw [c4b0]) | skip)
   by_cases c5 : a0.toList = ([110, 111, 116] : List UInt8)
   rotate_left
   · rw [if_neg c5] at H
     obtain ⟨c5b0, c5b1⟩ := zbq c5
     have H' := zA H
     clear H
     go_wp2
     go_meet
     case rel => exact ⟨_, ((a0.toList == ([110, 101, 103] : List UInt8))), zq5, H', ⟨zq41⟩, zq8⟩
   rw [if_pos c5] at H
   obtain ⟨c5b0, c5b1⟩ := zbe c5
   clear c5
   have H' := zA H
   clear H
   go_wp2
   go_meet
   case rel => exact ⟨_, ((a0.toList == ([110, 111, 116] : List UInt8))), zq5, H', ⟨zq41⟩, zq8⟩
 clear HC3
 try clear c2
 try clear c2b0
 try clear c2b1
 try clear c4
 try clear c4b0
 try clear c4b1
 try clear c5
 try clear c5b0
 try clear c5b1
 obtain ⟨kq, x10_2, rfl, HA, HJ2, ⟨mc2, rfl⟩⟩ := hcut
 cases kq with
 | zero => exact absurd HA.out (by simp [zdr])
 | succ kj2 =>
 have H := HA.out
 clear HA
 simp only [zdr] at H
 by_cases c6 : x10_2 = true
 · subst c6
   replace H := zih H
   simp only [Option.some.injEq, Prod.mk.injEq] at H
   obtain ⟨rfl, rfl, rfl, rfl, rfl⟩ := H
   go_wp2
   refine bodyPost_ret (ziu (rs := [.tmp 2, .tmp 3, .tmp 4, .tmp 5, .tmp 6]) rfl (by simp) (.tmp (.tmp (.tmp (.tmp (.tmp .nil)))))) rfl ?_
   exact ⟨zq5, zq8⟩
 replace c6 := zbf c6
 subst c6
 replace H := zif H
 have HC7 := zA H
 clear H
 go_upto_if 14 with (fail)
 go_cut [14] (fun v14 wc => ∃ (kq : Nat) (x14_6 : Bool), v14 = .bool x14_6 ∧ Aside0 (zbl kq a0 x14_6 = some (r1, r2, r3, r4, r5)) ∧ Aside0 (kq ≤ kj2) ∧ Drawn0 w wc)
 case first =>
   have H := HC7.out
   clear HC7
   by_cases c8 : a0.toList = ([97, 100, 100] : List UInt8)
   · rw [if_pos c8] at H
     obtain ⟨c8b0, c8b1⟩ := zbe c8
     clear c8
     (first | rw [c8b0] | (simp only [zic, zj6]; rw [c8b0]) | skip)
     have H' := zA H
     clear H
     go_wp2
     go_meet
     case rel => exact ⟨_, ((a0.toList == ([97, 100, 100] : List UInt8))), zq5, H', ⟨zq36 HJ2⟩, zq8⟩
   rw [if_neg c8] at H
   obtain ⟨c8b0, c8b1⟩ := zbq c8
   (first | rw [c8b0] | (simp only [zic, zj6]; rw [c8b0]) | skip)
   by_cases c9 : a0.toList = ([115, 117, 98] : List UInt8)
   · rw [if_pos c9] at H
     obtain ⟨c9b0, c9b1⟩ := zbe c9
     clear c9
     have H' := zA H
     clear H
     go_wp2
     go_meet
     case rel => exact ⟨_, ((a0.toList == ([115, 117, 98] : List UInt8))), zq5, H', ⟨zq36 HJ2⟩, zq8⟩
   rw [if_neg c9] at H
   obtain ⟨c9b0, c9b1⟩ := zbq c9
   by_cases c10 : a0.toList = ([97, 110, 100] : List UInt8)
   · rw [if_pos c10] at H
     obtain ⟨c10b0, c10b1⟩ := zbe c10
     clear c10
     have H' := zA H
     clear H
     go_wp2
     go_meet
     case rel => exact ⟨_, ((a0.toList == ([97, 110, 100] : List UInt8))), zq5, H', ⟨zq36 HJ2⟩, zq8⟩
   rw [if_neg c10] at H
   obtain ⟨c10b0, c10b1⟩ := zbq c10
   by_cases c11 : a0.toList = ([111, 114] : List UInt8)
   · rw [if_pos c11] at H
     obtain ⟨c11b0, c11b1⟩ := zbe c11
     clear c11
     have H' := zA H
     clear H
     go_wp2
     go_meet
     case rel => exact ⟨_, ((a0.toList == ([111, 114] : List UInt8))), zq5, H', ⟨zq36 HJ2⟩, zq8⟩
   rw [if_neg c11] at H
   obtain ⟨c11b0, c11b1⟩ := zbq c11
   by_cases c12 : a0.toList = ([120, 111, 114] : List UInt8)
   · rw [if_pos c12] at H
     obtain ⟨c12b0, c12b1⟩ := zbe c12
     clear c12
     have H' := zA H
     clear H
     go_wp2
     go_meet
     case rel => exact ⟨_, ((a0.toList == ([120, 111, 114] : List UInt8))), zq5, H', ⟨zq36 HJ2⟩, zq8⟩
   rw [if_neg c12] at H
   obtain ⟨c12b0, c12b1⟩ := zbq c12
   by_cases c13 : a0.toList = ([115, 104, 108] : List UInt8)
   · rw [if_pos c13] at H
     obtain ⟨c13b0, c13b1⟩ := zbe c13
     clear c13
     have H' := zA H
     clear H
     go_wp2
     go_meet
     case rel => exact ⟨_, ((a0.toList == ([115, 104, 108] : List UInt8))), zq5, H', ⟨zq36 HJ2⟩, zq8⟩
   rw [if_neg c13] at H
   obtain ⟨c13b0, c13b1⟩ := zbq c13
   by_cases c14 : a0.toList = ([115, 104, 114] : List UInt8)
   · rw [if_pos c14] at H
     obtain ⟨c14b0, c14b1⟩ := zbe c14
     clear c14
     have H' := zA H
     clear H
     go_wp2
     go_meet
     case rel => exact ⟨_, ((a0.toList == ([115, 104, 114] : List UInt8))), zq5, H', ⟨zq36 HJ2⟩, zq8⟩
   rw [if_neg c14] at H
   obtain ⟨c14b0, c14b1⟩ := zbq c14
   by_cases c15 : a0.toList = ([108, 101, 115, 115] : List UInt8)
   · rw [if_pos c15] at H
     obtain ⟨c15b0, c15b1⟩ := zbe c15
     clear c15
     have H' := zA H
     clear H
     go_wp2
     go_meet
     case rel => exact ⟨_, ((a0.toList == ([108, 101, 115, 115] : List UInt8))), zq5, H', ⟨zq36 HJ2⟩, zq8⟩
   rw [if_neg c15] at H
   obtain ⟨c15b0, c15b1⟩ := zbq c15
   by_cases c16 : a0.toList = ([101, 113] : List UInt8)
   rotate_left
   · rw [if_neg c16] at H
     obtain ⟨c16b0, c16b1⟩ := zbq c16
     have H' := zA H
     clear H
     go_wp2
     go_meet
     case rel => exact ⟨_, ((a0.toList == ([109, 117, 108] : List UInt8))), zq5, H', ⟨zq36 HJ2⟩, zq8⟩
   rw [if_pos c16] at H
   obtain ⟨c16b0, c16b1⟩ := zbe c16
   clear c16
   have H' := zA H
   clear H
   go_wp2
   go_meet
   case rel => exact ⟨_, ((a0.toList == ([101, 113] : List UInt8))), zq5, H', ⟨zq36 HJ2⟩, zq8⟩
 clear HC7
 try clear c2
 try clear c2b0
 try clear c2b1
 try clear c4
 try clear c4b0
 try clear c4b1
 try clear c5
 try clear c5b0
 try clear c5b1
 try clear c6
 try clear c8
 try clear c8b0
 try clear c8b1
 try clear c9
 try clear c9b0
 try clear c9b1
 try clear c10
 try clear c10b0
 try clear c10b1
 try clear c11
 try clear c11b0
 try clear c11b1
 try clear c12
 try clear c12b0
 try clear c12b1
 try clear c13
 try clear c13b0
 try clear c13b1
 try clear c14
 try clear c14b0
 try clear c14b1
 try clear c15
 try clear c15b0
 try clear c15b1
 try clear c16
 try clear c16b0
 try clear c16b1
 obtain ⟨kq, x14_6, rfl, HA, HJ6, ⟨mc6, rfl⟩⟩ := hcut
 cases kq with
 | zero => exact absurd HA.out (by simp [zbl])
 | succ kj6 =>
 have H := HA.out
 clear HA
 simp only [zbl] at H
 by_cases c17 : x14_6 = true
 · subst c17
   replace H := zih H
   simp only [Option.some.injEq, Prod.mk.injEq] at H
   obtain ⟨rfl, rfl, rfl, rfl, rfl⟩ := H
   go_wp2
   refine bodyPost_ret (ziu (rs := [.tmp 2, .tmp 3, .tmp 4, .tmp 5, .tmp 6]) rfl (by simp) (.tmp (.tmp (.tmp (.tmp (.tmp .nil)))))) rfl ?_
   exact ⟨zq5, zq8⟩
 replace c17 := zbf c17
 subst c17
 replace H := zif H
 have HC18 := zA H
 clear H
 go_upto_if 25 with (fail)
 go_cut [25] (fun v25 wc => ∃ (kq : Nat) (x25_17 : Bool), v25 = .bool x25_17 ∧ Aside0 (zds kq a0 x25_17 = some (r1, r2, r3, r4, r5)) ∧ Aside0 (kq ≤ kj6) ∧ Drawn0 w wc)
 case first =>
   have H := HC18.out
   clear HC18
   by_cases c19 : a0.toList = ([97, 100, 100, 105] : List UInt8)
   · rw [if_pos c19] at H
     obtain ⟨c19b0, c19b1⟩ := zbe c19
     clear c19
     (first | rw [c19b0] | (simp only [zic, zj6]; rw [c19b0]) | skip)
     have H' := zA H
     clear H
     go_wp2
     go_meet
     case rel => exact ⟨_, ((a0.toList == ([97, 100, 100, 105] : List UInt8))), zq5, H', ⟨by have := HJ2.out; have := HJ6.out; first | omega | exact zlr _⟩, zq8⟩
   rw [if_neg c19] at H
   obtain ⟨c19b0, c19b1⟩ := zbq c19
   (first | rw [c19b0] | (simp only [zic, zj6]; rw [c19b0]) | skip)
   by_cases c20 : a0.toList = ([97, 110, 100, 105] : List UInt8)
   rotate_left
   · rw [if_neg c20] at H
     obtain ⟨c20b0, c20b1⟩ := zbq c20
     have H' := zA H
     clear H
     go_wp2
     go_meet
     case rel => exact ⟨_, ((a0.toList == ([120, 111, 114, 105] : List UInt8))), zq5, H', ⟨by have := HJ2.out; have := HJ6.out; first | omega | exact zlr _⟩, zq8⟩
   rw [if_pos c20] at H
   obtain ⟨c20b0, c20b1⟩ := zbe c20
   clear c20
   have H' := zA H
   clear H
   go_wp2
   go_meet
   case rel => exact ⟨_, ((a0.toList == ([97, 110, 100, 105] : List UInt8))), zq5, H', ⟨by have := HJ2.out; have := HJ6.out; first | omega | exact zlr _⟩, zq8⟩
 clear HC18
 try clear c2
 try clear c2b0
 try clear c2b1
 try clear c4
 try clear c4b0
 try clear c4b1
 try clear c5
 try clear c5b0
 try clear c5b1
 try clear c6
 try clear c8
 try clear c8b0
 try clear c8b1
 try clear c9
 try clear c9b0
 try clear c9b1
 try clear c10
 try clear c10b0
 try clear c10b1
 try clear c11
 try clear c11b0
 try clear c11b1
 try clear c12
 try clear c12b0
 try clear c12b1
 try clear c13
 try clear c13b0
 try clear c13b1
 try clear c14
 try clear c14b0
 try clear c14b1
 try clear c15
 try clear c15b0
 try clear c15b1
 try clear c16
 try clear c16b0
 try clear c16b1
 try clear c17
 try clear c19
 try clear c19b0
 try clear c19b1
 try clear c20
 try clear c20b0
 try clear c20b1
 obtain ⟨kq, x25_17, rfl, HA, HJ17, ⟨mc17, rfl⟩⟩ := hcut
 cases kq with
 | zero => exact absurd HA.out (by simp [zds])
 | succ kj17 =>
 have H := HA.out
 clear HA
 simp only [zds] at H
 by_cases c21 : x25_17 = true
 · subst c21
   replace H := zih H
   simp only [Option.some.injEq, Prod.mk.injEq] at H
   obtain ⟨rfl, rfl, rfl, rfl, rfl⟩ := H
   go_wp2
   refine bodyPost_ret (ziu (rs := [.tmp 2, .tmp 3, .tmp 4, .tmp 5, .tmp 6]) rfl (by simp) (.tmp (.tmp (.tmp (.tmp (.tmp .nil)))))) rfl ?_
   exact ⟨zq5, zq8⟩
 replace c21 := zbf c21
 subst c21
 replace H := zif H
 have HC22 := zA H
 clear H
 go_upto_if 29 with (fail)
 go_cut [29] (fun v29 wc => ∃ (kq : Nat) (x29_21 : Bool), v29 = .bool x29_21 ∧ Aside0 (zeh kq a0 x29_21 = some (r1, r2, r3, r4, r5)) ∧ Aside0 (kq ≤ kj17) ∧ Drawn0 w wc)
 case first =>
   have H := HC22.out
   clear HC22
   by_cases c23 : a0.toList = ([115, 104, 108, 105] : List UInt8)
   rotate_left
   · rw [if_neg c23] at H
     obtain ⟨c23b0, c23b1⟩ := zbq c23
     (first | rw [c23b0] | (simp only [zic, zj6]; rw [c23b0]) | skip)
     have H' := zA H
     clear H
     go_wp2
     go_meet
     case rel => exact ⟨_, ((a0.toList == ([115, 104, 114, 105] : List UInt8))), zq5, H', ⟨by have := HJ2.out; have := HJ6.out; have := HJ17.out; first | omega | exact zlr _⟩, zq8⟩
   rw [if_pos c23] at H
   obtain ⟨c23b0, c23b1⟩ := zbe c23
   clear c23
   (first | rw [c23b0] | (simp only [zic, zj6]; rw [c23b0]) | skip)
   have H' := zA H
   clear H
   go_wp2
   go_meet
   case rel => exact ⟨_, ((a0.toList == ([115, 104, 108, 105] : List UInt8))), zq5, H', ⟨by have := HJ2.out; have := HJ6.out; have := HJ17.out; first | omega | exact zlr _⟩, zq8⟩
 clear HC22
 try clear c2
 try clear c2b0
 try clear c2b1
 try clear c4
 try clear c4b0
 try clear c4b1
 try clear c5
 try clear c5b0
 try clear c5b1
 try clear c6
 try clear c8
 try clear c8b0
 try clear c8b1
 try clear c9
 try clear c9b0
 try clear c9b1
 try clear c10
 try clear c10b0
 try clear c10b1
 try clear c11
 try clear c11b0
 try clear c11b1
 try clear c12
 try clear c12b0
 try clear c12b1
 try clear c13
 try clear c13b0
 try clear c13b1
 try clear c14
 try clear c14b0
 try clear c14b1
 try clear c15
 try clear c15b0
 try clear c15b1
 try clear c16
 try clear c16b0
 try clear c16b1
 try clear c17
 try clear c19
 try clear c19b0
 try clear c19b1
 try clear c20
 try clear c20b0
 try clear c20b1
 try clear c21
 try clear c23
 try clear c23b0
 try clear c23b1
 obtain ⟨kq, x29_21, rfl, HA, HJ21, ⟨mc21, rfl⟩⟩ := hcut
 cases kq with
 | zero => exact absurd HA.out (by simp [zeh])
 | succ kj21 =>
 have H := HA.out
 clear HA
 simp only [zeh] at H
 by_cases c24 : x29_21 = true
 · subst c24
   replace H := zih H
   simp only [Option.some.injEq, Prod.mk.injEq] at H
   obtain ⟨rfl, rfl, rfl, rfl, rfl⟩ := H
   go_wp2
   refine bodyPost_ret (ziu (rs := [.tmp 2, .tmp 3, .tmp 4, .tmp 5, .tmp 6]) rfl (by simp) (.tmp (.tmp (.tmp (.tmp (.tmp .nil)))))) rfl ?_
   exact ⟨zq5, zq8⟩
 replace c24 := zbf c24
 subst c24
 replace H := zif H
 by_cases c25 : a0.toList = ([108, 101, 97] : List UInt8)
 rotate_left
 · rw [if_neg c25] at H
   obtain ⟨c25b0, c25b1⟩ := zbq c25
   simp only [Option.some.injEq, Prod.mk.injEq] at H
   obtain ⟨rfl, rfl, rfl, rfl, rfl⟩ := H
   go_wp2
   refine bodyPost_ret (ziu (rs := [.tmp 2, .tmp 3, .tmp 4, .tmp 5, .tmp 6]) rfl (by simp) (.tmp (.tmp (.tmp (.tmp (.tmp .nil)))))) rfl ?_
   exact ⟨zq5, zq8⟩
 rw [if_pos c25] at H
 obtain ⟨c25b0, c25b1⟩ := zbe c25
 clear c25
 simp only [Option.some.injEq, Prod.mk.injEq] at H
 obtain ⟨rfl, rfl, rfl, rfl, rfl⟩ := H
 go_wp2
 refine bodyPost_ret (ziu (rs := [.tmp 2, .tmp 3, .tmp 4, .tmp 5, .tmp 6]) rfl (by simp) (.tmp (.tmp (.tmp (.tmp (.tmp .nil)))))) rfl ?_
 exact ⟨zq5, zq8⟩
end Go.Proofs.YtnaafcleafbejaaGreat.Q
end
section
namespace Go.Proofs.YtnaafcleafbejaaGreat.Q
open Go.RowKit Go.Proofs.YtnaafcleafbejaaGreatW.PrintWords Go.Proofs.YtnaafcleafbejaaGreatW.PrintLast Go.Proofs.YtnaafcleafbejaaGreatW.PrintMore
set_option maxHeartbeats 8000000
set_option maxRecDepth 100000
attribute [local go_sem] zbc zbg zb8 zb9 za1 za2 zbi zbj
set_option linter.unusedVariables false
set_option linter.unusedSimpArgs false
def zdz : Nat → ByteArray → List ByteArray → Int → Int → Option (Bool)
 | 0, _, _, _, _ => none
 | k + 1, x1, x7, x8, x9 => if x9 < x8 then (if 0 ≤ x9 then (if x9 < (x7.length : Int) then (if (rdOf ByteArray.empty x7 x9).toList = x1.toList then (some true) else (zdz k x1 x7 x8 (wrap64 (x9 + 1)))) else (none)) else (none)) else (some false)
def zfk (k : Nat) (l0 : List ByteArray) (a1 : ByteArray) : Option (Bool) := zdz k a1 l0 (l0.length : Int) 0
theorem zmv : ∀ k, (∀ y0 y1 y2 y3, LeO (zdz k y0 y1 y2 y3) (zdz (k + 1) y0 y1 y2 y3))
 | 0 => fun _ _ _ _ r h => by simp [zdz] at h
 | k + 1 => by
   have ih0 := zmv k
   · intro y0 y1 y2 y3
     unfold zdz
     exact zm1 ih0
theorem zgv : ∀ a0 a1 k, LeO (zfk k a0 a1) (zfk (k + 1) a0 a1) := by
 intro a0 a1 k
 have ih0 := zmv k
 unfold zfk
 exact zm1 ih0
theorem zgn (k : Nat) (A0 : Option Addr) (c0 : Nat) (l0 : List ByteArray) (a1 : ByteArray) (r : Bool) (w : World) (hr0 : Kd.C Kd.string w A0 l0.length l0) (hc0 : l0.length ≤ c0) (h : zfk k l0 a1 = some r) :
   Calls Tryz.prog 99 #[.slice A0 l0.length c0, .string a1] w fun e w' => e = .returned (.bool r) ∧ Drawn0 w w' := by
 have HR0 := zA hr0
 have HC0 := zA hc0
 clear hr0 hc0
 have H := h
 unfold zfk at H
 clear h
 have H' := zA H
 clear H
 go_enter Tryz.func99, Tryz.ntmps99
 go_wp2
 go_loopg [9] k (fun kq v9 w' => ∃ (x9_1 : Int), v9 = .int .i64 x9_1 ∧ Aside0 (zdz kq a1 l0 (l0.length : Int) x9_1 = some r) ∧ Aside0 (kq ≤ k) ∧ Drawn0 w w')
 case atStart => exact ⟨(0), zq5, H', ⟨zlr _⟩, zq8⟩
 clear H'
 obtain ⟨x9_1, rfl, HA, HK1, ⟨m1, rfl⟩⟩ := hrel
 cases gk with
 | zero => exact absurd HA.out (by simp [zdz])
 | succ k1 =>
 have H := HA.out
 clear HA
 simp only [zdz] at H
 revert H
 refine zit (fun c3 H => ?_) fun c3 H => ?_
 rotate_left
 · obtain rfl := zsi H
   exact zr_1
 revert H
 refine zin fun c4 H => ?_
 revert H
 refine zin fun c5 H => ?_
 by_cases c6 : (rdOf ByteArray.empty l0 x9_1).toList = a1.toList
 · rw [if_pos c6] at H
   obtain ⟨c6b0, c6b1⟩ := zbe c6
   clear c6
   obtain rfl := zsi H
   obtain ⟨p101, q101⟩ := zpq x9_1 l0.length
   obtain ⟨ad101, e101, hx101_0⟩ := Kd.at_string HR0.out x9_1 (zoe p101) (zoe q101)
   cases e101
   exact zr_1
 rw [if_neg c6] at H
 obtain ⟨c6b0, c6b1⟩ := zbq c6
 have H' := zA H
 clear H
 obtain ⟨p101, q101⟩ := zpq x9_1 l0.length
 obtain ⟨ad101, e101, hx101_0⟩ := Kd.at_string HR0.out x9_1 (zoe p101) (zoe q101)
 cases e101
 go_wp2
 go_roundg k1
 case measure => have := HK1.out; omega
 case rel => exact ⟨(wrap64 (x9_1 + 1)), zq5, H', ⟨zq31 HK1⟩, zq8⟩
def zg6 (k : Nat) (a0 : ByteArray) : Option (Bool) := (zfk k (([(⟨#[115, 101, 116]⟩ : ByteArray), (⟨#[97, 100, 100, 105]⟩ : ByteArray), (⟨#[97, 110, 100, 105]⟩ : ByteArray), (⟨#[120, 111, 114, 105]⟩ : ByteArray), (⟨#[115, 104, 108, 105]⟩ : ByteArray), (⟨#[115, 104, 114, 105]⟩ : ByteArray), (⟨#[108, 101, 97]⟩ : ByteArray)] : List ByteArray)) a0).bind fun t104 => (some t104)
theorem zip : ∀ a0 k, LeO (zg6 k a0) (zg6 (k + 1) a0) := by
 intro a0 k
 unfold zg6
 exact zm1 zgv
theorem zh5 (k : Nat) (a0 : ByteArray) (r : Bool) (w : World) (h : zg6 k a0 = some r) :
   Calls Tryz.prog 116 #[.string a0] w fun e w' => e = .returned (.bool r) ∧ Below w.heap.size w w' := by
 have HB := zA (Below.refl w.heap.size w)
 have H := h
 unfold zg6 at H
 clear h
 obtain ⟨y101, hy101⟩ : ∃ y_ : List ByteArray, y_ = (([(⟨#[115, 101, 116]⟩ : ByteArray), (⟨#[97, 100, 100, 105]⟩ : ByteArray), (⟨#[97, 110, 100, 105]⟩ : ByteArray), (⟨#[120, 111, 114, 105]⟩ : ByteArray), (⟨#[115, 104, 108, 105]⟩ : ByteArray), (⟨#[115, 104, 114, 105]⟩ : ByteArray), (⟨#[108, 101, 97]⟩ : ByteArray)] : List ByteArray)) := ⟨_, rfl⟩
 rw [← hy101] at H; try with_reducible replace H := zbs H
 have Ny101 := zA hy101
 clear hy101
 replace H := zob H
 obtain ⟨t104, A20, H⟩ := H
 have A2 := zA A20
 clear A20
 obtain rfl := zsi H
 go_enter Tryz.func116, Tryz.ntmps116
 go_wp2_with (first | ((with_reducible refine zgd 3 ?_); refine Kd.R_lit Kd.string _ 9 ?hg (N := 3) ?hd (xs := ([(⟨#[115, 101, 116]⟩ : ByteArray), (⟨#[97, 100, 100, 105]⟩ : ByteArray), (⟨#[97, 110, 100, 105]⟩ : ByteArray), (⟨#[120, 111, 114, 105]⟩ : ByteArray), (⟨#[115, 104, 108, 105]⟩ : ByteArray), (⟨#[115, 104, 114, 105]⟩ : ByteArray), (⟨#[108, 101, 97]⟩ : ByteArray)] : List ByteArray)) (inner := [.string (⟨#[115, 101, 116]⟩ : ByteArray), .string (⟨#[97, 100, 100, 105]⟩ : ByteArray), .string (⟨#[97, 110, 100, 105]⟩ : ByteArray), .string (⟨#[120, 111, 114, 105]⟩ : ByteArray), .string (⟨#[115, 104, 108, 105]⟩ : ByteArray), .string (⟨#[115, 104, 114, 105]⟩ : ByteArray), .string (⟨#[108, 101, 97]⟩ : ByteArray)]) (ok := fun _ => True) (okp := fun _ => True) ?hr ?hp (fun _ hk => hk) trivial (Below.refl _ _) (zlr _) (by simp) ?_; (case hd => rfl); (case hg => rfl); (case hr => go_simp <;> rfl); (case hp => exact (zaz (show Kd.M Kd.string _ _ _ (⟨#[115, 101, 116]⟩ : ByteArray) [.string (⟨#[115, 101, 116]⟩ : ByteArray)] from rfl) (zaz (show Kd.M Kd.string _ _ _ (⟨#[97, 100, 100, 105]⟩ : ByteArray) [.string (⟨#[97, 100, 100, 105]⟩ : ByteArray)] from rfl) (zaz (show Kd.M Kd.string _ _ _ (⟨#[97, 110, 100, 105]⟩ : ByteArray) [.string (⟨#[97, 110, 100, 105]⟩ : ByteArray)] from rfl) (zaz (show Kd.M Kd.string _ _ _ (⟨#[120, 111, 114, 105]⟩ : ByteArray) [.string (⟨#[120, 111, 114, 105]⟩ : ByteArray)] from rfl) (zaz (show Kd.M Kd.string _ _ _ (⟨#[115, 104, 108, 105]⟩ : ByteArray) [.string (⟨#[115, 104, 108, 105]⟩ : ByteArray)] from rfl) (zaz (show Kd.M Kd.string _ _ _ (⟨#[115, 104, 114, 105]⟩ : ByteArray) [.string (⟨#[115, 104, 114, 105]⟩ : ByteArray)] from rfl) (zaz (show Kd.M Kd.string _ _ _ (⟨#[108, 101, 97]⟩ : ByteArray) [.string (⟨#[108, 101, 97]⟩ : ByteArray)] from rfl) (Reps.none _ _))))))))); intro v102 w3 ho4 hb hg_ hnew_; clear hg_ hnew_; (first | rw [← Ny101.out] at ho4 | (simp only [Int.reduceToNat] at ho4; rw [← Ny101.out] at ho4)); have HO103 := zA (Kd.R_lower ho4 (zaf zq2)); replace HB := zA (zaa zq2 hb); clear hb ho4; obtain ⟨Ao5, co5, eo5⟩ := Kd.R_slice HO103.out; subst eo5) | ((with_reducible refine zgc 99 ?_); refine zca 5 Tryz.func99 #[.slice Ao5 y101.length co5, .string a0] (zgn k _ _ y101 a0 t104 _ (zq28 HO103) (by exact (zRr HO103.out).2.1) A2.out) ?_; rintro e w' ⟨rfl, ⟨nd, rfl⟩⟩; refine ⟨_, rfl, ?_⟩))
 exact zr_4
def zg7 (k : Nat) (l0_0 : List ByteArray) (l0_1 : List Int) (a1 : ByteArray) : Option (List Int) := (zg6 k a1).bind fun t102 => (if t102 = true then (some l0_1) else (some (([0] : List Int))))
theorem zh6 : ∀ a0 a1 a2 k, LeO (zg7 k a0 a1 a2) (zg7 (k + 1) a0 a1 a2) := by
 intro a0 a1 a2 k
 unfold zg7
 exact zm1 zip
theorem zrz (k : Nat) (A0_0 : Option Addr) (c0_0 : Nat) (l0_0 : List ByteArray) (P0_1_ : Nat → Prop) (A0_1 : Option Addr) (c0_1 : Nat) (l0_1 : List Int) (a1 : ByteArray) (r : List Int) (w : World) (hr0_0 : Kd.C Kd.string w A0_0 l0_0.length l0_0) (hc0_0 : l0_0.length ≤ c0_0) (hs0_1 : Kd.V (Kd.int .i64) 3 w w.heap.size (fun k_ => P0_1_ k_) (.slice A0_1 l0_1.length c0_1) l0_1) (h : zg7 k l0_0 l0_1 a1 = some r) :
   Calls Tryz.prog 118 #[.agg #[.slice A0_0 l0_0.length c0_0, .slice A0_1 l0_1.length c0_1], .string a1] w fun e w' => ∃ v0_ : Value, e = .returned (v0_) ∧ Kd.V (Kd.int .i64) 3 w' w.heap.size (fun k_ => (P0_1_ k_ ∨ w.heap.size ≤ k_)) v0_ r ∧ Below w.heap.size w w' := by
 have hu34 := Tryz.underlying34
 have HR0_0 := zA hr0_0
 have HC0_0 := zA hc0_0
 clear hr0_0 hc0_0
 have HO0_1 := zA (show Kd.V (Kd.int .i64) 3 w w.heap.size (fun k_ => (P0_1_ k_ ∨ w.heap.size ≤ k_)) (.slice A0_1 l0_1.length c0_1) l0_1 from Kd.V_mono hs0_1 (fun k_ hk => .inl hk))
 have HB := zA (Below.refl w.heap.size w)
 have H := h
 unfold zg7 at H
 clear h
 replace H := zob H
 obtain ⟨t102, A30, H⟩ := H
 have A3 := zA A30
 clear A30
 by_cases c4 : t102 = true
 · subst c4
   replace H := zih H
   obtain rfl := zsi H
   go_enter Tryz.func118, Tryz.ntmps118
   go_wp2_with (first | ((with_reducible refine zgd 2 ?_); refine zbx #[.slice A0_0 l0_0.length c0_0, .slice A0_1 l0_1.length c0_1] 34 ?_; intro gb101 hg w5 hbox hb; have zs := zpair zq2 hb; replace HO0_1 := zA (Kd.V_below (Kd.V_elderB (zq13 HO0_1) gb101 (Nat.le_of_eq hg.symm)) hb); replace HB := zA (zs.1); have BK101 := zA (hbox); have GW101 := zA (zge hg zs.2); have GE101 := GW101; clear zs hb hbox hg) | ((with_reducible refine zgc 116 ?_); refine zcl 6 Tryz.func116 (zh5 k a1 true _ A3.out) ?_; rintro e w6 ⟨rfl, hb⟩; refine ⟨_, rfl, ?_⟩; replace HO0_1 := zA (Kd.V_below (zq13 HO0_1) hb); replace BK101 := zbb BK101 hb; replace HB := zA (zaa (zq1 GE101) hb); (try clear hb); obtain ⟨hcz7_0, hcz7_1⟩ := zc2 w6 (.slice A0_0 l0_0.length c0_0) (.slice A0_1 l0_1.length c0_1) BK101.out; obtain ⟨hfz7_0, hfz7_1⟩ := zf2 BK101.out))
   go_ret
   exact ⟨_, zq4, by (with_reducible repeat (first | apply Kd.V_alloc | apply Kd.V_drewN | apply Kd.V_drew)); exact Kd.V_mono HO0_1.out (fun _ hk => hk.1), zq1 GE101⟩
 replace c4 := zbf c4
 subst c4
 replace H := zif H
 obtain ⟨y103, hy103⟩ : ∃ y_ : List Int, y_ = (([0] : List Int)) := ⟨_, rfl⟩
 rw [← hy103] at H; try with_reducible replace H := zbs H
 have Ny103 := zA hy103
 clear hy103
 obtain rfl := zsi H
 go_enter Tryz.func118, Tryz.ntmps118
 go_wp2_with (first | ((with_reducible refine zgd 2 ?_); refine zbx #[.slice A0_0 l0_0.length c0_0, .slice A0_1 l0_1.length c0_1] 34 ?_; intro gb101 hg w8 hbox hb; have zs := zpair zq2 hb; replace HO0_1 := zA (Kd.V_below (Kd.V_elderB (zq13 HO0_1) gb101 (Nat.le_of_eq hg.symm)) hb); replace HB := zA (zs.1); have BK101 := zA (hbox); have GW101 := zA (zge hg zs.2); have GE101 := GW101; clear zs hb hbox hg) | ((with_reducible refine zgc 116 ?_); refine zcl 6 Tryz.func116 (zh5 k a1 false _ A3.out) ?_; rintro e w9 ⟨rfl, hb⟩; refine ⟨_, rfl, ?_⟩; replace HO0_1 := zA (Kd.V_below (zq13 HO0_1) hb); replace BK101 := zbb BK101 hb; replace HB := zA (zaa (zq1 GE101) hb); (try clear hb)) | ((with_reducible refine zgd 9 ?_); refine Kd.R_lit (Kd.int .i64) _ 3 ?hg (N := 9) ?hd (xs := ([0] : List Int)) (inner := [.int .i64 0]) (ok := fun _ => True) (okp := fun _ => True) ?hr ?hp (fun _ hk => hk) trivial (Below.refl _ _) (zlr _) (by simp) ?_; (case hd => rfl); (case hg => rfl); (case hr => go_simp <;> rfl); (case hp => exact (zaz (show Kd.M (Kd.int .i64) _ _ _ 0 [.int .i64 0] from rfl) (Reps.none _ _))); intro v104 w10 ho11 hb hg_ hnew_; clear hg_ hnew_; (first | rw [← Ny103.out] at ho11 | (simp only [Int.reduceToNat] at ho11; rw [← Ny103.out] at ho11)); replace HO0_1 := zA (Kd.V_elder' (zq13 HO0_1) (Kd.R_base ho11) hb); have HO105 := zA (Kd.R_lower (Kd.R_newM (M := fun k_ => (w.heap.size ≤ k_)) ho11 (zaf (zq1 GE101)) (fun k_ h_ => h_)) (zaf (zq1 GE101))); replace BK101 := zbb BK101 hb; replace HB := zA (zaa (zq1 GE101) hb); clear hb ho11))
 go_ret
 exact ⟨_, zq4, Kd.V_mono (Kd.R_V (zq51 HO105)) (fun k_ hk => by first | exact ⟨(.inr (hk.1)), hk.2⟩ | exact (.inr (hk))), zq1 GE101⟩
def zdk : Nat → Bool → Int → List Int → Int → Option (List Int)
 | 0, _, _, _, _ => none
 | k + 1, x0, x1, x5, x6 => if x0 = true then (if x6 < (wrap64 (2 + x1)) then (if x5.length < 17592186044416 then (zdk k x0 x1 (x5 ++ [x6]) (wrap64 (x6 + 1))) else (none)) else (some x5)) else (some x5)
def zf3 (k : Nat) (a0 : Bool) (a1 : Int) : Option (List Int) := zdk k a0 a1 (([0] : List Int)) 1
theorem zmw : ∀ k, (∀ y0 y1 y2 y3, LeO (zdk k y0 y1 y2 y3) (zdk (k + 1) y0 y1 y2 y3))
 | 0 => fun _ _ _ _ r h => by simp [zdk] at h
 | k + 1 => by
   have ih0 := zmw k
   · intro y0 y1 y2 y3
     unfold zdk
     exact zm1 ih0
theorem zh7 : ∀ a0 a1 k, LeO (zf3 k a0 a1) (zf3 (k + 1) a0 a1) := by
 intro a0 a1 k
 have ih0 := zmw k
 unfold zf3
 exact zm1 ih0
theorem znu (k : Nat) (a0 : Bool) (a1 : Int) (r : List Int) (w : World) (h : zf3 k a0 a1 = some r) :
   Calls Tryz.prog 117 #[.bool a0, .int .i64 a1] w fun e w' => ∃ v0_ : Value, e = .returned (v0_) ∧ Kd.R (Kd.int .i64) 3 w' w.heap.size (fun _ => True) v0_ r ∧ Below w.heap.size w w' := by
 have HB := zA (Below.refl w.heap.size w)
 have H := h
 unfold zf3 at H
 clear h
 obtain ⟨y101, hy101⟩ : ∃ y_ : List Int, y_ = (([0] : List Int)) := ⟨_, rfl⟩
 rw [← hy101] at H; try with_reducible replace H := zbs H
 have Ny101 := zA hy101
 clear hy101
 have H' := zA H
 clear H
 go_enter Tryz.func117, Tryz.ntmps117
 go_wp2_with (first | ((with_reducible refine zgd 7 ?_); refine Kd.R_lit (Kd.int .i64) _ 3 ?hg (N := 7) ?hd (xs := ([0] : List Int)) (inner := [.int .i64 0]) (ok := fun _ => True) (okp := fun _ => True) ?hr ?hp (fun _ hk => hk) trivial (Below.refl _ _) (zlr _) (by simp) ?_; (case hd => rfl); (case hg => rfl); (case hr => go_simp <;> rfl); (case hp => exact (zaz (show Kd.M (Kd.int .i64) _ _ _ 0 [.int .i64 0] from rfl) (Reps.none _ _))); intro v102 w3 ho4 hb hg_ hnew_; clear hg_ hnew_; (first | rw [← Ny101.out] at ho4 | (simp only [Int.reduceToNat] at ho4; rw [← Ny101.out] at ho4)); have HO103 := zA (Kd.R_lower ho4 (zaf zq2)); replace HB := zA (zaa zq2 hb); clear hb ho4))
 go_loopg [5, 6] k (fun kq v5 v6 w' => ∃ (x5_1 : List Int) (x6_1 : Int), v6 = .int .i64 x6_1 ∧ Aside0 (zdk kq a0 a1 x5_1 x6_1 = some r) ∧ Aside0 (kq ≤ k) ∧ Aside0 (Kd.R (Kd.int .i64) 3 w' w.heap.size (fun _ => True) v5 x5_1) ∧ Aside0 (Below w.heap.size w w'))
 case atStart => exact ⟨(y101), (1), zq5, H', ⟨zlr _⟩, ⟨zq3 HO103⟩, ⟨zq2⟩⟩
 clear H'
 obtain ⟨x5_1, x6_1, rfl, HA, HK1, HO_5, HB⟩ := hrel
 cases gk with
 | zero => exact absurd HA.out (by simp [zdk])
 | succ k1 =>
 have H := HA.out
 clear HA
 simp only [zdk] at H
 by_cases c5 : a0 = true
 rotate_left
 · replace c5 := zbf c5
   subst c5
   replace H := zif H
   obtain rfl := zsi H
   go_wp2
   go_ret
   exact ⟨_, zq4, zq3 HO_5, zq2⟩
 subst c5
 replace H := zih H
 revert H
 refine zit (fun c6 H => ?_) fun c6 H => ?_
 rotate_left
 · obtain rfl := zsi H
   go_wp2
   go_ret
   exact ⟨_, zq4, zq3 HO_5, zq2⟩
 by_cases c7 : x5_1.length < 17592186044416
 rotate_left
 · rw [if_neg c7] at H
   exact absurd H (by simp)
 rw [if_pos c7] at H
 have LMc7 := zA c7
 clear c7
 obtain ⟨y104, hy104⟩ : ∃ y_ : List Int, y_ = (x5_1 ++ [x6_1]) := ⟨_, rfl⟩
 rw [← hy104] at H; try with_reducible replace H := zbs H
 have Ny104 := zA hy104
 clear hy104
 have H' := zA H
 clear H
 go_wp2_with (first | ((with_reducible refine zez (b := .append) (xs := #[.tmp 17, .tmp 19]) rfl ?_); at_builtin; refine Kd.R_append (Kd.int .i64) (w0 := w) w.heap.size rfl (.tmp 17) (.tmp 19) 24 3 (.int .i64 0) 8 rfl Tryz.underlying24 zl5 rfl (by decide) (by omega) u5 x5_1 x6_1 [.int .i64 x6_1] (fun _ => True) (fun _ => False) rfl rfl ?aP (fun _ hk => hk.elim) ?aF ?aO ?aB ?aS ?aL ?_; (case aP => exact rfl); (case aB => exact zq2); (case aF => exact (fun _ _ => trivial)); (case aO => exact (zq3 HO_5)); (case aS => exact (zaf zq2)); (case aL => have := LMc7.out; omega); intro v105 w8 ho hb hg hat; rw [← Ny104.out] at ho; replace HB := zA (hb); have HO106 := zA (ho); clear HO_5; clear ho hb hg hat))
 go_roundg k1
 case measure => have := HK1.out; omega
 case rel => exact ⟨(y104), (wrap64 (x6_1 + 1)), zq5, H', ⟨zq31 HK1⟩, ⟨zq3 HO106⟩, ⟨zq2⟩⟩
end Go.Proofs.YtnaafcleafbejaaGreat.Q
end
section
namespace Go.Proofs.YtnaafcleafbejaaGreat.Q
open Go.RowKit Go.Proofs.YtnaafcleafbejaaGreatW.PrintWords Go.Proofs.YtnaafcleafbejaaGreatW.PrintLast Go.Proofs.YtnaafcleafbejaaGreatW.PrintMore
set_option maxHeartbeats 8000000
set_option maxRecDepth 100000
attribute [local go_sem] zbc zbg zb8 zb9 za1 za2 zbi zbj
set_option linter.unusedVariables false
set_option linter.unusedSimpArgs false
mutual
def zdc : Nat → Int → List (S69) → List ByteArray → Int → Int → List ByteArray → List Int → Option ((List (S69)))
 | 0, _, _, _, _, _, _, _ => none
 | k + 1, x1, x5, x20, x21, x22, x102000, x102001 => if x22 < x21 then (if 0 ≤ x22 then (if x22 < (x20.length : Int) then ((zei k (rdOf ByteArray.empty x20 x22)).bind fun bt103 => ((zf3 k bt103.2.1 x1).bind fun t108 => (zdd k x1 x5 (rdOf ByteArray.empty x20 x22) bt103.2.2.1 x20 x21 x22 t108 (t108.length : Int) 0 x102000 x102001))) else (none)) else (none)) else (some x5)
def zdd : Nat → Int → List (S69) → ByteArray → Bool → List ByteArray → Int → Int → List Int → Int → Int → List ByteArray → List Int → Option ((List (S69)))
 | 0, _, _, _, _, _, _, _, _, _, _, _, _ => none
 | k + 1, x1, x5, x7, x10, x20, x21, x22, x36, x37, x38, x102000, x102001 => if x38 < x37 then (if 0 ≤ x38 then (if x38 < (x36.length : Int) then ((zf3 k x10 x1).bind fun t112 => (zdg k x1 x5 x7 x10 (rd x36 x38) x20 x21 x22 x36 x37 x38 t112 (t112.length : Int) 0 x102000 x102001)) else (none)) else (none)) else (zdc k x1 x5 x20 x21 (wrap64 (x22 + 1)) x102000 x102001)
def zdg : Nat → Int → List (S69) → ByteArray → Bool → Int → List ByteArray → Int → Int → List Int → Int → Int → List Int → Int → Int → List ByteArray → List Int → Option ((List (S69)))
 | 0, _, _, _, _, _, _, _, _, _, _, _, _, _, _, _, _ => none
 | k + 1, x1, x5, x7, x10, x14, x20, x21, x22, x36, x37, x38, x44, x45, x46, x102000, x102001 => if x46 < x45 then (if 0 ≤ x46 then (if x46 < (x44.length : Int) then ((zg7 k x102000 x102001 x7).bind fun t116 => (zdh k x1 x5 x7 x10 x14 (rd x44 x46) x20 x21 x22 x36 x37 x38 x44 x45 x46 t116 (t116.length : Int) 0 x102000 x102001)) else (none)) else (none)) else (zdd k x1 x5 x7 x10 x20 x21 x22 x36 x37 (wrap64 (x38 + 1)) x102000 x102001)
def zdh : Nat → Int → List (S69) → ByteArray → Bool → Int → Int → List ByteArray → Int → Int → List Int → Int → Int → List Int → Int → Int → List Int → Int → Int → List ByteArray → List Int → Option ((List (S69)))
 | 0, _, _, _, _, _, _, _, _, _, _, _, _, _, _, _, _, _, _, _, _ => none
 | k + 1, x1, x5, x7, x10, x14, x16, x20, x21, x22, x36, x37, x38, x44, x45, x46, x52, x53, x54, x102000, x102001 => if x54 < x53 then (if 0 ≤ x54 then (if x54 < (x52.length : Int) then (if x5.length < 2932031007402 then (zdh k x1 (x5 ++ [(⟨x7, wrap64 (2 + x1), x14, x16, rd x52 x54⟩ : S69)]) x7 x10 x14 x16 x20 x21 x22 x36 x37 x38 x44 x45 x46 x52 x53 (wrap64 (x54 + 1)) x102000 x102001) else (none)) else (none)) else (none)) else (zdg k x1 x5 x7 x10 x14 x20 x21 x22 x36 x37 x38 x44 x45 (wrap64 (x46 + 1)) x102000 x102001)
end
def zfl (k : Nat) (l0_0 : List ByteArray) (l0_1 : List Int) (a1 : Int) : Option ((List (S69))) := zdc k a1 ([] : List (S69)) l0_0 (l0_0.length : Int) 0 l0_0 l0_1
theorem zme : ∀ k, (∀ y0 y1 y2 y3 y4 y5 y6, LeO (zdc k y0 y1 y2 y3 y4 y5 y6) (zdc (k + 1) y0 y1 y2 y3 y4 y5 y6)) ∧ (∀ y0 y1 y2 y3 y4 y5 y6 y7 y8 y9 y10 y11, LeO (zdd k y0 y1 y2 y3 y4 y5 y6 y7 y8 y9 y10 y11) (zdd (k + 1) y0 y1 y2 y3 y4 y5 y6 y7 y8 y9 y10 y11)) ∧ (∀ y0 y1 y2 y3 y4 y5 y6 y7 y8 y9 y10 y11 y12 y13 y14 y15, LeO (zdg k y0 y1 y2 y3 y4 y5 y6 y7 y8 y9 y10 y11 y12 y13 y14 y15) (zdg (k + 1) y0 y1 y2 y3 y4 y5 y6 y7 y8 y9 y10 y11 y12 y13 y14 y15)) ∧ (∀ y0 y1 y2 y3 y4 y5 y6 y7 y8 y9 y10 y11 y12 y13 y14 y15 y16 y17 y18 y19, LeO (zdh k y0 y1 y2 y3 y4 y5 y6 y7 y8 y9 y10 y11 y12 y13 y14 y15 y16 y17 y18 y19) (zdh (k + 1) y0 y1 y2 y3 y4 y5 y6 y7 y8 y9 y10 y11 y12 y13 y14 y15 y16 y17 y18 y19))
 | 0 => ⟨fun _ _ _ _ _ _ _ r h => by simp [zdc] at h, fun _ _ _ _ _ _ _ _ _ _ _ _ r h => by simp [zdd] at h, fun _ _ _ _ _ _ _ _ _ _ _ _ _ _ _ _ r h => by simp [zdg] at h, fun _ _ _ _ _ _ _ _ _ _ _ _ _ _ _ _ _ _ _ _ r h => by simp [zdh] at h⟩
 | k + 1 => by
   obtain ⟨ih0, ih1, ih2, ih3⟩ := zme k
   refine ⟨?_, ?_, ?_, ?_⟩
   · intro y0 y1 y2 y3 y4 y5 y6
     unfold zdc
     exact zm7 ih0 ih1 ih2 ih3 zcy zh6 zh7
   · intro y0 y1 y2 y3 y4 y5 y6 y7 y8 y9 y10 y11
     unfold zdd
     exact zm7 ih0 ih1 ih2 ih3 zcy zh6 zh7
   · intro y0 y1 y2 y3 y4 y5 y6 y7 y8 y9 y10 y11 y12 y13 y14 y15
     unfold zdg
     exact zm7 ih0 ih1 ih2 ih3 zcy zh6 zh7
   · intro y0 y1 y2 y3 y4 y5 y6 y7 y8 y9 y10 y11 y12 y13 y14 y15 y16 y17 y18 y19
     unfold zdh
     exact zm7 ih0 ih1 ih2 ih3 zcy zh6 zh7
theorem ziw : ∀ a0 a1 a2 k, LeO (zfl k a0 a1 a2) (zfl (k + 1) a0 a1 a2) := by
 intro a0 a1 a2 k
 obtain ⟨ih0, ih1, ih2, ih3⟩ := zme k
 unfold zfl
 exact zm7 ih0 ih1 ih2 ih3 zcy zh6 zh7
theorem zmx (k : Nat) (A0_0 : Option Addr) (c0_0 : Nat) (l0_0 : List ByteArray) (A0_1 : Option Addr) (c0_1 : Nat) (l0_1 : List Int) (a1 : Int) (r : List (S69)) (w : World) (hr0_0 : Kd.C Kd.string w A0_0 l0_0.length l0_0) (hc0_0 : l0_0.length ≤ c0_0) (hr0_1 : Kd.C (Kd.int .i64) w A0_1 l0_1.length l0_1) (hc0_1 : l0_1.length ≤ c0_1) (h : zfl k l0_0 l0_1 a1 = some r) :
   Calls Tryz.prog 81 #[.agg #[.slice A0_0 l0_0.length c0_0, .slice A0_1 l0_1.length c0_1], .int .i64 a1] w fun e w' => ∃ v0_ : Value, e = .returned (v0_) ∧ Kd.R k69 69 w' w.heap.size (fun _ => True) v0_ r ∧ Below w.heap.size w w' := by
 have hu34 := Tryz.underlying34
 have hu69 := Tryz.underlying69
 have HR0_0 := zA hr0_0
 have HC0_0 := zA hc0_0
 clear hr0_0 hc0_0
 have HR0_1 := zA hr0_1
 have HC0_1 := zA hc0_1
 clear hr0_1 hc0_1
 have HB := zA (Below.refl w.heap.size w)
 have H := h
 unfold zfl at H
 clear h
 have H' := zA H
 clear H
 go_enter Tryz.func81, Tryz.ntmps81
 go_wp2_with (first | ((with_reducible refine zgd 2 ?_); refine zbh zq2 #[.slice A0_0 l0_0.length c0_0, .slice A0_1 l0_1.length c0_1] 34 ?_; clear HB; intro gb101 w3 HB BK101 GW101; have GE101 := GW101; obtain ⟨hcz4_0, hcz4_1, hfz4_0, hfz4_1⟩ := zd2 BK101))
 go_loopg [5, 22] k (fun kq v5 v22 w' => ∃ (x5_1 : List (S69)) (x22_1 : Int), v22 = .int .i64 x22_1 ∧ Aside0 (zdc kq a1 x5_1 l0_0 (l0_0.length : Int) x22_1 l0_0 l0_1 = some r) ∧ Aside0 (kq ≤ k) ∧ Aside0 (Kd.R k69 69 w' w.heap.size (fun _ => True) v5 x5_1) ∧ Aside0 (w'.heap[gb101]? = some (.cells #[(.slice A0_0 l0_0.length c0_0), (.slice A0_1 l0_1.length c0_1)] 34 (0, 0))) ∧ Aside0 (Below w.heap.size w w'))
 case atStart => exact ⟨(([] : List (S69))), (0), zq5, H', ⟨zlr _⟩, ⟨zq43⟩, ⟨zq6 BK101⟩, ⟨zq1 GE101⟩⟩
 clear H'
 try clear hcz4_0
 try clear hcz4_1
 try clear hfz4_0
 try clear hfz4_1
 obtain ⟨x5_1, x22_1, rfl, HA, HK1, HO_5, BK101, HB⟩ := hrel
 cases gk with
 | zero => exact absurd HA.out (by simp [zdc])
 | succ k1 =>
 have H := HA.out
 clear HA
 simp only [zdc] at H
 revert H
 refine zit (fun c5 H => ?_) fun c5 H => ?_
 rotate_left
 · obtain rfl := zsi H
   go_wp2
   go_ret
   exact ⟨_, zq4, zq3 HO_5, zq1 GE101⟩
 revert H
 refine zin fun c6 H => ?_
 revert H
 refine zin fun c7 H => ?_
 replace H := zob H
 obtain ⟨⟨t103, t104, t105, t106, t107⟩, A80, H⟩ := H
 have A8 := zA A80
 clear A80
 replace H := zob H
 obtain ⟨t108, A90, H⟩ := H
 have A9 := zA A90
 clear A90
 have H' := zA H
 clear H
 obtain ⟨p102, q102⟩ := zpq x22_1 l0_0.length
 obtain ⟨ad102, e102, hx102_0⟩ := Kd.at_string HR0_0.out x22_1 (zoe p102) (zoe q102)
 cases e102
 replace hx102_0 := zkep HB.out hx102_0
 go_wp2_with (first | ((with_reducible refine zgc 115 ?_); refine zcl 28 Tryz.func115 (zfz k1 (rdOf ByteArray.empty l0_0 x22_1) t103 t104 t105 t106 t107 _ A8.out) ?_; rintro e w' ⟨rfl, ⟨nd, rfl⟩⟩; refine ⟨_, rfl, ?_⟩) | ((with_reducible refine zgc 117 ?_); refine zcl 36 Tryz.func117 (znu k1 t104 a1 t108 _ A9.out) ?_; rintro e w10 ⟨v109, rfl, ho0, hb⟩; refine ⟨_, rfl, ?_⟩; replace HO_5 := zA (zRb (zq3 HO_5) hb); have HO110 := zA (Kd.R_lower ho0 (zaf (zq1 GE101))); replace BK101 := zbb BK101 hb; replace HB := zA (zaa (zq1 GE101) hb); (try clear hb); (try clear ho0); obtain ⟨Ao11, co11, eo11⟩ := Kd.R_slice HO110.out; subst eo11))
 go_loopg [5, 38] k1 (fun kq v5 v38 w' => ∃ (x5_2 : List (S69)) (x38_2 : Int), v38 = .int .i64 x38_2 ∧ Aside0 (zdd kq a1 x5_2 (rdOf ByteArray.empty l0_0 x22_1) t105 l0_0 (l0_0.length : Int) x22_1 t108 (t108.length : Int) x38_2 l0_0 l0_1 = some r) ∧ Aside0 (kq ≤ k1) ∧ Aside0 (Kd.R k69 69 w' w.heap.size (fun _ => True) v5 x5_2) ∧ Aside0 (Kd.R (Kd.int .i64) 3 w' w.heap.size (fun _ => True) (.slice Ao11 t108.length co11) t108) ∧ Aside0 (w'.heap[gb101]? = some (.cells #[(.slice (some ad102) l0_0.length c0_0), (.slice A0_1 l0_1.length c0_1)] 34 (0, 0))) ∧ Aside0 (Below w.heap.size w w'))
 case atStart => exact ⟨(x5_1), (0), zq5, H', ⟨zlr _⟩, ⟨zq3 HO_5⟩, ⟨zq3 HO110⟩, ⟨zq6 BK101⟩, ⟨zq1 GE101⟩⟩
 clear H'
 try clear c5
 try clear c6
 try clear c7
 try clear hcz4_0
 try clear hcz4_1
 try clear hfz4_0
 try clear hfz4_1
 try clear hx102_0
 try clear p102
 try clear q102
 obtain ⟨x5_2, x38_2, rfl, HA, HK2, HO_5, HO_36, BK101, HB⟩ := hrel
 cases gk with
 | zero => exact absurd HA.out (by simp [zdd])
 | succ k2 =>
 have H := HA.out
 clear HA
 simp only [zdd] at H
 revert H
 refine zit (fun c12 H => ?_) fun c12 H => ?_
 rotate_left
 · have H' := zA H
   clear H
   go_wp2
   go_roundg k2
   case measure => have := HK1.out; have := HK2.out; omega
   case rel => exact ⟨(x5_2), (wrap64 (x22_1 + 1)), zq5, H', ⟨zq39 HK1 HK2⟩, ⟨zq3 HO_5⟩, ⟨zq6 BK101⟩, ⟨zq1 GE101⟩⟩
 revert H
 refine zin fun c13 H => ?_
 revert H
 refine zin fun c14 H => ?_
 replace H := zob H
 obtain ⟨t112, A150, H⟩ := H
 have A15 := zA A150
 clear A150
 have H' := zA H
 clear H
 obtain ⟨p111, q111⟩ := zpq x38_2 t108.length
 obtain ⟨ad111, e111, hx111_0⟩ := Kd.at_int (zRr HO_36.out).2.2 x38_2 (zoe p111) (zoe q111)
 cases e111
 go_wp2_with (first | ((with_reducible refine zgc 117 ?_); refine zcl 44 Tryz.func117 (znu k2 t105 a1 t112 _ A15.out) ?_; rintro e w16 ⟨v113, rfl, ho0, hb⟩; refine ⟨_, rfl, ?_⟩; replace HO_5 := zA (zRb (zq3 HO_5) hb); have HO114 := zA (Kd.R_lower (Kd.R_new' ho0 (Kd.R_lt (zq3 HO_36))) (zaf (zq1 GE101))); replace HO_36 := zA (Kd.R_elder' (zq3 HO_36) (Kd.R_base ho0) hb); replace BK101 := zbb BK101 hb; replace HB := zA (zaa (zq1 GE101) hb); (try clear hb); (try clear ho0); obtain ⟨Ao17, co17, eo17⟩ := Kd.R_slice HO114.out; subst eo17))
 go_loopg [5, 46] k2 (fun kq v5 v46 w' => ∃ (x5_3 : List (S69)) (x46_3 : Int), v46 = .int .i64 x46_3 ∧ Aside0 (zdg kq a1 x5_3 (rdOf ByteArray.empty l0_0 x22_1) t105 (rd t108 x38_2) l0_0 (l0_0.length : Int) x22_1 t108 (t108.length : Int) x38_2 t112 (t112.length : Int) x46_3 l0_0 l0_1 = some r) ∧ Aside0 (kq ≤ k2) ∧ Aside0 (Kd.R k69 69 w' w.heap.size (fun _ => True) v5 x5_3) ∧ Aside0 (Kd.R (Kd.int .i64) 3 w' w.heap.size (fun k_ => some k_ ≠ ((.slice Ao17 t112.length co17) : Value).ownBlock) (.slice (some ad111) t108.length co11) t108) ∧ Aside0 (Kd.R (Kd.int .i64) 3 w' w.heap.size (fun k_ => some k_ ≠ ((.slice (some ad111) t108.length co11) : Value).ownBlock) (.slice Ao17 t112.length co17) t112) ∧ Aside0 (w'.heap[gb101]? = some (.cells #[(.slice (some ad102) l0_0.length c0_0), (.slice A0_1 l0_1.length c0_1)] 34 (0, 0))) ∧ Aside0 (Below w.heap.size w w'))
 case atStart => exact ⟨(x5_2), (0), zq5, H', ⟨zlr _⟩, ⟨zq3 HO_5⟩, ⟨zq29 HO_36⟩, ⟨zq29 HO114⟩, ⟨zq6 BK101⟩, ⟨zq1 GE101⟩⟩
 clear H'
 try clear c5
 try clear c6
 try clear c7
 try clear c12
 try clear c13
 try clear c14
 try clear hcz4_0
 try clear hcz4_1
 try clear hfz4_0
 try clear hfz4_1
 try clear hx102_0
 try clear hx111_0
 try clear p102
 try clear p111
 try clear q102
 try clear q111
 obtain ⟨x5_3, x46_3, rfl, HA, HK3, HO_5, HO_36, HO_44, BK101, HB⟩ := hrel
 cases gk with
 | zero => exact absurd HA.out (by simp [zdg])
 | succ k3 =>
 have H := HA.out
 clear HA
 simp only [zdg] at H
 revert H
 refine zit (fun c18 H => ?_) fun c18 H => ?_
 rotate_left
 · have H' := zA H
   clear H
   go_wp2
   go_roundg k3
   case measure => have := HK1.out; have := HK2.out; have := HK3.out; omega
   case rel => exact ⟨(x5_3), (wrap64 (x38_2 + 1)), zq5, H', ⟨by have := HK1.out; have := HK2.out; have := HK3.out; omega⟩, ⟨zq3 HO_5⟩, ⟨zq35 HO_36⟩, ⟨zq6 BK101⟩, ⟨zq1 GE101⟩⟩
 revert H
 refine zin fun c19 H => ?_
 revert H
 refine zin fun c20 H => ?_
 replace H := zob H
 obtain ⟨t116, A210, H⟩ := H
 have A21 := zA A210
 clear A210
 have H' := zA H
 clear H
 obtain ⟨p115, q115⟩ := zpq x46_3 t112.length
 obtain ⟨ad115, e115, hx115_0⟩ := Kd.at_int (zRr HO_44.out).2.2 x46_3 (zoe p115) (zoe q115)
 cases e115
 obtain ⟨hcz22_0, hcz22_1⟩ := zc2 wr (.slice (some ad102) l0_0.length c0_0) (.slice A0_1 l0_1.length c0_1) BK101.out
 obtain ⟨hfz22_0, hfz22_1⟩ := zf2 BK101.out
 go_wp2_with (first | ((with_reducible refine zgc 118 ?_); refine zca 52 Tryz.func118 #[.agg #[.slice (some ad102) l0_0.length c0_0, .slice A0_1 l0_1.length c0_1], .string (rdOf ByteArray.empty l0_0 x22_1)] (zrz k3 _ _ l0_0 (fun k_ => k_ < w.heap.size) _ _ l0_1 (rdOf ByteArray.empty l0_0 x22_1) t116 _ (zq7 HR0_0) HC0_0.out (by exact Kd.V_mk HC0_1.out (Kd.F_below (Kd.C_F (Kd.heap_int .i64) HR0_1.out) (zq1 GE101))) A21.out) ?_; rintro e w23 ⟨v117, rfl, ho0, hb⟩; refine ⟨_, rfl, ?_⟩; have HO118 := zA (Kd.V_lower (Kd.V_mono (ok' := fun k_ => some k_ ≠ (u5 : Value).ownBlock ∧ some k_ ≠ (.slice (some ad111) t108.length co11 : Value).ownBlock ∧ some k_ ≠ (.slice (some ad115) t112.length co17 : Value).ownBlock ∧ k_ ≠ gb101) ho0 (fun k_ hk_ => ⟨Or.elim hk_ (fun hs_ => fun e_ => Nat.not_le.2 hs_ (Kd.R_base HO_5.out k_ e_.symm)) (fun hn_ => (Kd.fresh' (Kd.R_lt (zq3 HO_5)) k_ hn_)), Or.elim hk_ (fun hs_ => fun e_ => Nat.not_le.2 hs_ (Kd.R_base HO_36.out k_ e_.symm)) (fun hn_ => (Kd.fresh' (Kd.R_lt (zq3 HO_36)) k_ hn_)), Or.elim hk_ (fun hs_ => fun e_ => Nat.not_le.2 hs_ (Kd.R_base HO_44.out k_ e_.symm)) (fun hn_ => (Kd.fresh' (Kd.R_lt (zq3 HO_44)) k_ hn_)), Or.elim hk_ (fun hs_ => fun e_ => Nat.not_le.2 hs_ (by rw [e_]; exact GW101.out)) (fun hn_ => (Kd.freshB (g := gb101) (o := .cells #[.slice (some ad102) l0_0.length c0_0, .slice A0_1 l0_1.length c0_1] 34 (0, 0)) (zq6 BK101) k_ hn_))⟩)) (zaf (zq1 GE101))); replace HO_5 := zA (zRb (zq3 HO_5) hb); replace HO_36 := zA (zRb (zq3 HO_36) hb); replace HO_44 := zA (zRb (zq3 HO_44) hb); replace BK101 := zbb BK101 hb; replace HB := zA (zaa (zq1 GE101) hb); (try clear hb); (try clear ho0); obtain ⟨Ao24, co24, eo24⟩ := Kd.V_slice HO118.out; subst eo24))
 go_loopg [5, 54] k3 (fun kq v5 v54 w' => ∃ (x5_4 : List (S69)) (x54_4 : Int), v54 = .int .i64 x54_4 ∧ Aside0 (zdh kq a1 x5_4 (rdOf ByteArray.empty l0_0 x22_1) t105 (rd t108 x38_2) (rd t112 x46_3) l0_0 (l0_0.length : Int) x22_1 t108 (t108.length : Int) x38_2 t112 (t112.length : Int) x46_3 t116 (t116.length : Int) x54_4 l0_0 l0_1 = some r) ∧ Aside0 (kq ≤ k3) ∧ Aside0 (Kd.R k69 69 w' w.heap.size (fun _ => True) v5 x5_4) ∧ Aside0 (Kd.R (Kd.int .i64) 3 w' w.heap.size (fun k_ => some k_ ≠ ((.slice (some ad115) t112.length co17) : Value).ownBlock) (.slice (some ad111) t108.length co11) t108) ∧ Aside0 (Kd.R (Kd.int .i64) 3 w' w.heap.size (fun k_ => some k_ ≠ ((.slice (some ad111) t108.length co11) : Value).ownBlock) (.slice (some ad115) t112.length co17) t112) ∧ Aside0 (Kd.V (Kd.int .i64) 3 w' w.heap.size (fun k_ => some k_ ≠ (v5 : Value).ownBlock ∧ some k_ ≠ ((.slice (some ad111) t108.length co11) : Value).ownBlock ∧ some k_ ≠ ((.slice (some ad115) t112.length co17) : Value).ownBlock ∧ k_ ≠ gb101) (.slice Ao24 t116.length co24) t116) ∧ Aside0 (w'.heap[gb101]? = some (.cells #[(.slice (some ad102) l0_0.length c0_0), (.slice A0_1 l0_1.length c0_1)] 34 (0, 0))) ∧ Aside0 (Below w.heap.size w w'))
 case atStart => exact ⟨(x5_3), (0), zq5, H', ⟨zlr _⟩, ⟨zq3 HO_5⟩, ⟨zq3 HO_36⟩, ⟨zq3 HO_44⟩, ⟨zq13 HO118⟩, ⟨zq6 BK101⟩, ⟨zq1 GE101⟩⟩
 clear H'
 try clear c5
 try clear c6
 try clear c7
 try clear c12
 try clear c13
 try clear c14
 try clear c18
 try clear c19
 try clear c20
 try clear hcz22_0
 try clear hcz22_1
 try clear hcz4_0
 try clear hcz4_1
 try clear hfz22_0
 try clear hfz22_1
 try clear hfz4_0
 try clear hfz4_1
 try clear hx102_0
 try clear hx111_0
 try clear hx115_0
 try clear p102
 try clear p111
 try clear p115
 try clear q102
 try clear q111
 try clear q115
 obtain ⟨x5_4, x54_4, rfl, HA, HK4, HO_5, HO_36, HO_44, HO_52, BK101, HB⟩ := hrel
 cases gk with
 | zero => exact absurd HA.out (by simp [zdh])
 | succ k4 =>
 have H := HA.out
 clear HA
 simp only [zdh] at H
 revert H
 refine zit (fun c25 H => ?_) fun c25 H => ?_
 rotate_left
 · have H' := zA H
   clear H
   go_wp2
   go_roundg k4
   case measure => have := HK1.out; have := HK2.out; have := HK3.out; have := HK4.out; omega
   case rel => exact ⟨(x5_4), (wrap64 (x46_3 + 1)), zq5, H', ⟨by have := HK1.out; have := HK2.out; have := HK3.out; have := HK4.out; omega⟩, ⟨zq3 HO_5⟩, ⟨zq3 HO_36⟩, ⟨zq3 HO_44⟩, ⟨zq6 BK101⟩, ⟨zq1 GE101⟩⟩
 revert H
 refine zin fun c26 H => ?_
 revert H
 refine zin fun c27 H => ?_
 by_cases c28 : x5_4.length < 2932031007402
 rotate_left
 · rw [if_neg c28] at H
   exact absurd H (by simp)
 rw [if_pos c28] at H
 have LMc28 := zA c28
 clear c28
 obtain ⟨y120, hy120⟩ : ∃ y_ : List (S69), y_ = (x5_4 ++ [(⟨(rdOf ByteArray.empty l0_0 x22_1), wrap64 (2 + a1), (rd t108 x38_2), (rd t112 x46_3), rd t116 x54_4⟩ : S69)]) := ⟨_, rfl⟩
 rw [← hy120] at H; try with_reducible replace H := zbs H
 have Ny120 := zA hy120
 clear hy120
 have H' := zA H
 clear H
 obtain ⟨p119, q119⟩ := zpq x54_4 t116.length
 obtain ⟨ad119, e119, hx119_0⟩ := Kd.at_int (Kd.V_reads' HO_52.out).2.2 x54_4 (zoe p119) (zoe q119)
 cases e119
 go_wp2_with (first | ((with_reducible refine zez (b := .append) (xs := #[.tmp 58, .tmp 66]) rfl ?_); at_builtin; refine Kd.R_append k69 (w0 := w) w.heap.size rfl (.tmp 58) (.tmp 66) 29 69 (.agg #[(.string ⟨#[]⟩), (.int .i64 0), (.int .i64 0), (.int .i64 0), (.int .i64 0)]) 48 rfl Tryz.underlying29 zxu rfl (by decide) (by omega) u5 x5_4 (⟨(rdOf ByteArray.empty l0_0 x22_1), wrap64 (2 + a1), (rd t108 x38_2), (rd t112 x46_3), rd t116 x54_4⟩ : S69) [.string (rdOf ByteArray.empty l0_0 x22_1), .int .i64 (wrap64 (2 + a1)), .int .i64 (rd t108 x38_2), .int .i64 (rd t112 x46_3), .int .i64 (rd t116 x54_4)] (fun _ => True) (fun _ => False) rfl rfl ?aP (fun _ hk => hk.elim) ?aF ?aO ?aB ?aS ?aL ?_; (case aP => exact zn4 _ _ _ (⟨(rdOf ByteArray.empty l0_0 x22_1), wrap64 (2 + a1), (rd t108 x38_2), (rd t112 x46_3), rd t116 x54_4⟩ : S69)); (case aB => exact (zq1 GE101)); (case aF => exact (fun _ _ => trivial)); (case aO => exact (zq3 HO_5)); (case aS => exact (zaf (zq1 GE101))); (case aL => have := LMc28.out; omega); intro v121 w29 ho hb hg hat; rw [← Ny120.out] at ho; replace HO_36 := zA (Kd.R_over' (zq3 HO_36) (Kd.R_typed (zq3 HO_5)) (by decide) hg); replace HO_44 := zA (Kd.R_over' (zq3 HO_44) (Kd.R_typed (zq3 HO_5)) (by decide) hg); replace HO_52 := zA (Kd.V_afterv (ok := (fun k_ => some k_ ≠ (.slice (some ad111) t108.length co11 : Value).ownBlock ∧ some k_ ≠ (.slice (some ad115) t112.length co17 : Value).ownBlock ∧ k_ ≠ gb101)) (by (with_reducible repeat (first | apply Kd.V_alloc | apply Kd.V_drewN | apply Kd.V_drew)); exact Kd.V_mono HO_52.out (fun _ hk => ⟨⟨hk.2.1, ⟨hk.2.2.1, hk.2.2.2⟩⟩, hk.1⟩)) hg hat); replace BK101 := zA (zgq (g := gb101) (o := .cells #[.slice (some ad102) l0_0.length c0_0, .slice A0_1 l0_1.length c0_1] 34 (0, 0)) (zq6 BK101) hg (Kd.R_ne HO_5.out BK101.out (by decide))); replace HB := zA (hb); have HO122 := zA (ho); clear HO_5; clear ho hb hg hat))
 go_roundg k4
 case measure => have := HK1.out; have := HK2.out; have := HK3.out; have := HK4.out; omega
 case rel => exact ⟨(y120), (wrap64 (x54_4 + 1)), zq5, H', ⟨by have := HK1.out; have := HK2.out; have := HK3.out; have := HK4.out; omega⟩, ⟨zq3 HO122⟩, ⟨zq3 HO_36⟩, ⟨zq3 HO_44⟩, ⟨by (with_reducible repeat (first | apply Kd.V_alloc | apply Kd.V_drewN | apply Kd.V_drew)); exact Kd.V_mono HO_52.out (fun _ hk => ⟨hk.2, ⟨hk.1.1, ⟨hk.1.2.1, hk.1.2.2⟩⟩⟩)⟩, ⟨zq6 BK101⟩, ⟨zq1 GE101⟩⟩
end Go.Proofs.YtnaafcleafbejaaGreat.Q
end
section
namespace Go.Proofs.YtnaafcleafbejaaGreat.Q
open Go.RowKit Go.Proofs.YtnaafcleafbejaaGreatW.PrintWords Go.Proofs.YtnaafcleafbejaaGreatW.PrintLast Go.Proofs.YtnaafcleafbejaaGreatW.PrintMore
set_option maxHeartbeats 8000000
set_option maxRecDepth 100000
attribute [local go_sem] zbc zbg zb8 zb9 za1 za2 zbi zbj
set_option linter.unusedVariables false
set_option linter.unusedSimpArgs false
def zdi : Nat → Int → Int → Int → List ByteArray → List Int → Option (Int)
 | 0, _, _, _, _, _ => none
 | k + 1, x1, x5, x6, x102000, x102001 => if x6 < x1 then ((zfl k x102000 x102001 x6).bind fun t102 => (zdi k x1 (wrap64 (x5 * (t102.length : Int))) (wrap64 (x6 + 1)) x102000 x102001)) else (some x5)
def zgg (k : Nat) (l0_0 : List ByteArray) (l0_1 : List Int) (a1 : Int) : Option (Int) := zdi k a1 1 0 l0_0 l0_1
theorem zmf : ∀ k, (∀ y0 y1 y2 y3 y4, LeO (zdi k y0 y1 y2 y3 y4) (zdi (k + 1) y0 y1 y2 y3 y4))
 | 0 => fun _ _ _ _ _ r h => by simp [zdi] at h
 | k + 1 => by
   have ih0 := zmf k
   · intro y0 y1 y2 y3 y4
     unfold zdi
     exact zm2 ih0 ziw
theorem zkr : ∀ a0 a1 a2 k, LeO (zgg k a0 a1 a2) (zgg (k + 1) a0 a1 a2) := by
 intro a0 a1 a2 k
 have ih0 := zmf k
 unfold zgg
 exact zm2 ih0 ziw
theorem zmy (k : Nat) (A0_0 : Option Addr) (c0_0 : Nat) (l0_0 : List ByteArray) (A0_1 : Option Addr) (c0_1 : Nat) (l0_1 : List Int) (a1 : Int) (r : Int) (w : World) (hr0_0 : Kd.C Kd.string w A0_0 l0_0.length l0_0) (hc0_0 : l0_0.length ≤ c0_0) (hr0_1 : Kd.C (Kd.int .i64) w A0_1 l0_1.length l0_1) (hc0_1 : l0_1.length ≤ c0_1) (h : zgg k l0_0 l0_1 a1 = some r) :
   Calls Tryz.prog 51 #[.agg #[.slice A0_0 l0_0.length c0_0, .slice A0_1 l0_1.length c0_1], .int .i64 a1] w fun e w' => e = .returned (.int .i64 r) ∧ Below w.heap.size w w' := by
 have hu34 := Tryz.underlying34
 have HR0_0 := zA hr0_0
 have HC0_0 := zA hc0_0
 clear hr0_0 hc0_0
 have HR0_1 := zA hr0_1
 have HC0_1 := zA hc0_1
 clear hr0_1 hc0_1
 have HB := zA (Below.refl w.heap.size w)
 have H := h
 unfold zgg at H
 clear h
 have H' := zA H
 clear H
 go_enter Tryz.func51, Tryz.ntmps51
 go_wp2_with (first | ((with_reducible refine zgd 2 ?_); refine zbx #[.slice A0_0 l0_0.length c0_0, .slice A0_1 l0_1.length c0_1] 34 ?_; intro gb101 hg w3 hbox hb; have zs := zpair zq2 hb; replace HB := zA (zs.1); have BK101 := zA (hbox); have GW101 := zA (zge hg zs.2); have GE101 := GW101; clear zs hb hbox hg))
 go_loopg [5, 6] k (fun kq v5 v6 w' => ∃ (x5_1 : Int) (x6_1 : Int), v5 = .int .i64 x5_1 ∧ v6 = .int .i64 x6_1 ∧ Aside0 (zdi kq a1 x5_1 x6_1 l0_0 l0_1 = some r) ∧ Aside0 (kq ≤ k) ∧ Aside0 (w'.heap[gb101]? = some (.cells #[(.slice A0_0 l0_0.length c0_0), (.slice A0_1 l0_1.length c0_1)] 34 (0, 0))) ∧ Aside0 (Below w.heap.size w w'))
 case atStart => exact ⟨(1), (0), zq5, zq5, H', ⟨zlr _⟩, ⟨zq6 BK101⟩, ⟨zq1 GE101⟩⟩
 clear H'
 obtain ⟨x5_1, x6_1, rfl, rfl, HA, HK1, BK101, HB⟩ := hrel
 cases gk with
 | zero => exact absurd HA.out (by simp [zdi])
 | succ k1 =>
 have H := HA.out
 clear HA
 simp only [zdi] at H
 revert H
 refine zit (fun c4 H => ?_) fun c4 H => ?_
 rotate_left
 · obtain rfl := zsi H
   go_wp2
   go_ret
   exact ⟨zq4, zq1 GE101⟩
 replace H := zob H
 obtain ⟨t102, A50, H⟩ := H
 have A5 := zA A50
 clear A50
 have H' := zA H
 clear H
 obtain ⟨hcz6_0, hcz6_1⟩ := zc2 wr (.slice A0_0 l0_0.length c0_0) (.slice A0_1 l0_1.length c0_1) BK101.out
 obtain ⟨hfz6_0, hfz6_1⟩ := zf2 BK101.out
 go_wp2_with (first | ((with_reducible refine zgc 81 ?_); refine zca 15 Tryz.func81 #[.agg #[.slice A0_0 l0_0.length c0_0, .slice A0_1 l0_1.length c0_1], .int .i64 x6_1] (zmx k1 _ _ l0_0 _ _ l0_1 x6_1 t102 _ (zq7 HR0_0) HC0_0.out (zq7 HR0_1) HC0_1.out A5.out) ?_; rintro e w7 ⟨v103, rfl, ho0, hb⟩; refine ⟨_, rfl, ?_⟩; have HO104 := zA (Kd.R_lower ho0 (zaf (zq1 GE101))); replace BK101 := zbb BK101 hb; replace HB := zA (zaa (zq1 GE101) hb); (try clear hb); (try clear ho0); obtain ⟨Ao8, co8, eo8⟩ := Kd.R_slice HO104.out; subst eo8))
 go_roundg k1
 case measure => have := HK1.out; omega
 case rel => exact ⟨(wrap64 (x5_1 * (t102.length : Int))), (wrap64 (x6_1 + 1)), zq5, zq5, H', ⟨zq31 HK1⟩, ⟨zq6 BK101⟩, ⟨zq1 GE101⟩⟩
def za5 (a0 : ByteArray) (a1 : Int) (a2 : Int) : Option (Int) := if a0.toList = ([110, 111, 116] : List UInt8) then (some (Go.bits .and .i64 (wrap64 (63 - a1)) 63)) else (if a0.toList = ([110, 101, 103] : List UInt8) then (some (Go.bits .and .i64 (wrap64 (-a1)) 63)) else (if a0.toList = ([97, 100, 100] : List UInt8) then (some (Go.bits .and .i64 (wrap64 (a1 + a2)) 63)) else (if a0.toList = ([115, 117, 98] : List UInt8) then (some (Go.bits .and .i64 (wrap64 (a1 - a2)) 63)) else (if a0.toList = ([109, 117, 108] : List UInt8) then (some (Go.bits .and .i64 (wrap64 (a1 * a2)) 63)) else (if a0.toList = ([97, 110, 100] : List UInt8) then (some (Go.bits .and .i64 (Go.bits .and .i64 a1 a2) 63)) else (if a0.toList = ([111, 114] : List UInt8) then (some (Go.bits .and .i64 (Go.bits .or .i64 a1 a2) 63)) else (if a0.toList = ([120, 111, 114] : List UInt8) then (some (Go.bits .and .i64 (Go.bits .xor .i64 a1 a2) 63)) else (if a0.toList = ([115, 104, 108] : List UInt8) then (if a2 < 6 then (if 0 ≤ a2 then (some (Go.bits .and .i64 (shl .i64 a1 a2) 63)) else (none)) else (some (Go.bits .and .i64 0 63))) else (if a0.toList = ([115, 104, 114] : List UInt8) then (if a2 < 6 then (if 0 ≤ a2 then (some (Go.bits .and .i64 (shr .i64 a1 a2) 63)) else (none)) else (some (Go.bits .and .i64 0 63))) else (if a0.toList = ([108, 101, 115, 115] : List UInt8) then (if a1 < a2 then (some (Go.bits .and .i64 1 63)) else (some (Go.bits .and .i64 0 63))) else (if a0.toList = ([101, 113] : List UInt8) then (if a1 = a2 then (some (Go.bits .and .i64 1 63)) else (some (Go.bits .and .i64 0 63))) else (some (Go.bits .and .i64 0 63)))))))))))))
theorem zal (a0 : ByteArray) (a1 : Int) (a2 : Int) (r : Int) (w : World) (h : za5 a0 a1 a2 = some r) :
   Calls Tryz.prog 157 #[.string a0, .int .i64 a1, .int .i64 a2] w fun e w' => e = .returned (.int .i64 r) ∧ Drawn0 w w' := by
 have H := h
 unfold za5 at H
 clear h
 by_cases c4 : a0.toList = ([110, 111, 116] : List UInt8)
 · rw [if_pos c4] at H
   obtain ⟨c4b0, c4b1⟩ := zbe c4
   clear c4
   exact zr_2
 rw [if_neg c4] at H
 obtain ⟨c4b0, c4b1⟩ := zbq c4
 by_cases c5 : a0.toList = ([110, 101, 103] : List UInt8)
 · rw [if_pos c5] at H
   obtain ⟨c5b0, c5b1⟩ := zbe c5
   clear c5
   exact zr_2
 rw [if_neg c5] at H
 obtain ⟨c5b0, c5b1⟩ := zbq c5
 by_cases c6 : a0.toList = ([97, 100, 100] : List UInt8)
 · rw [if_pos c6] at H
   obtain ⟨c6b0, c6b1⟩ := zbe c6
   clear c6
   exact zr_2
 rw [if_neg c6] at H
 obtain ⟨c6b0, c6b1⟩ := zbq c6
 by_cases c7 : a0.toList = ([115, 117, 98] : List UInt8)
 · rw [if_pos c7] at H
   obtain ⟨c7b0, c7b1⟩ := zbe c7
   clear c7
   exact zr_2
 rw [if_neg c7] at H
 obtain ⟨c7b0, c7b1⟩ := zbq c7
 by_cases c8 : a0.toList = ([109, 117, 108] : List UInt8)
 · rw [if_pos c8] at H
   obtain ⟨c8b0, c8b1⟩ := zbe c8
   clear c8
   exact zr_2
 rw [if_neg c8] at H
 obtain ⟨c8b0, c8b1⟩ := zbq c8
 by_cases c9 : a0.toList = ([97, 110, 100] : List UInt8)
 · rw [if_pos c9] at H
   obtain ⟨c9b0, c9b1⟩ := zbe c9
   clear c9
   exact zr_2
 rw [if_neg c9] at H
 obtain ⟨c9b0, c9b1⟩ := zbq c9
 by_cases c10 : a0.toList = ([111, 114] : List UInt8)
 · rw [if_pos c10] at H
   obtain ⟨c10b0, c10b1⟩ := zbe c10
   clear c10
   exact zr_2
 rw [if_neg c10] at H
 obtain ⟨c10b0, c10b1⟩ := zbq c10
 by_cases c11 : a0.toList = ([120, 111, 114] : List UInt8)
 · rw [if_pos c11] at H
   obtain ⟨c11b0, c11b1⟩ := zbe c11
   clear c11
   exact zr_2
 rw [if_neg c11] at H
 obtain ⟨c11b0, c11b1⟩ := zbq c11
 by_cases c12 : a0.toList = ([115, 104, 108] : List UInt8)
 · rw [if_pos c12] at H
   obtain ⟨c12b0, c12b1⟩ := zbe c12
   clear c12
   revert H
   refine zit (fun c13 H => ?_) fun c13 H => ?_
   rotate_left
   · obtain rfl := zsi H
     go_enter Tryz.func157, Tryz.ntmps157
     exact zr_1
   by_cases c14 : 0 ≤ a2
   rotate_left
   · rw [if_neg c14] at H
     exact absurd H (by simp)
   rw [if_pos c14] at H
   have c14b0 := eq_true c14
   have c14b1 := zdt c14
   clear c14
   obtain ⟨ji15, hji15⟩ : ∃ j_ : Int, (shl .i64 a1 a2) = j_ := ⟨_, rfl⟩
   replace H : (some (Go.bits .and .i64 (ji15) 63)) = some r := by first | (rw [hji15] at H; exact H) | (simp only [hji15] at H ⊢; exact H)
   have hji15_ : (IntKind.i64.wrap (a1 * 2 ^ min a2.toNat 64)) = ji15 := hji15
   have hji15z : a2 ≤ 64 → (IntKind.i64.wrap (a1 * 2 ^ a2.toNat)) = ji15 := zwo hji15
   have hji15y : (wrap64 (a1 * 2 ^ min a2.toNat 64)) = ji15 := (zic _).symm.trans hji15_
   have hji15x : a2 ≤ 64 → (wrap64 (a1 * 2 ^ a2.toNat)) = ji15 := fun h_ => (zic _).symm.trans (hji15z h_)
   obtain rfl := zsi H
   go_enter Tryz.func157, Tryz.ntmps157
   go_wp2
   go_ret
   exact ⟨by first | rfl | (simp; done) | (simp only [← hji15] <;> (first | rfl | simp)) | (simp [*]; done), zq8⟩
 rw [if_neg c12] at H
 obtain ⟨c12b0, c12b1⟩ := zbq c12
 by_cases c16 : a0.toList = ([115, 104, 114] : List UInt8)
 · rw [if_pos c16] at H
   obtain ⟨c16b0, c16b1⟩ := zbe c16
   clear c16
   revert H
   refine zit (fun c17 H => ?_) fun c17 H => ?_
   rotate_left
   · obtain rfl := zsi H
     go_enter Tryz.func157, Tryz.ntmps157
     exact zr_1
   by_cases c18 : 0 ≤ a2
   rotate_left
   · rw [if_neg c18] at H
     exact absurd H (by simp)
   rw [if_pos c18] at H
   have c18b0 := eq_true c18
   have c18b1 := zdt c18
   clear c18
   obtain ⟨ji19, hji19⟩ : ∃ j_ : Int, (shr .i64 a1 a2) = j_ := ⟨_, rfl⟩
   replace H : (some (Go.bits .and .i64 (ji19) 63)) = some r := by first | (rw [hji19] at H; exact H) | (simp only [hji19] at H ⊢; exact H)
   have hji19_ : (a1 / 2 ^ min a2.toNat 64) = ji19 := hji19
   have hji19z : a2 ≤ 64 → (a1 / 2 ^ a2.toNat) = ji19 := zwp hji19
   obtain rfl := zsi H
   go_enter Tryz.func157, Tryz.ntmps157
   go_wp2
   go_ret
   exact ⟨by first | rfl | (simp; done) | (simp only [← hji19] <;> (first | rfl | simp)) | (simp [*]; done), zq8⟩
 rw [if_neg c16] at H
 obtain ⟨c16b0, c16b1⟩ := zbq c16
 by_cases c20 : a0.toList = ([108, 101, 115, 115] : List UInt8)
 · rw [if_pos c20] at H
   obtain ⟨c20b0, c20b1⟩ := zbe c20
   clear c20
   revert H
   refine zit (fun c21b0 H => ?_) fun c21b0 H => ?_
   · obtain rfl := zsi H
     go_enter Tryz.func157, Tryz.ntmps157
     exact zr_1
   exact zr_2
 rw [if_neg c20] at H
 obtain ⟨c20b0, c20b1⟩ := zbq c20
 by_cases c22 : a0.toList = ([101, 113] : List UInt8)
 rotate_left
 · rw [if_neg c22] at H
   obtain ⟨c22b0, c22b1⟩ := zbq c22
   exact zr_2
 rw [if_pos c22] at H
 obtain ⟨c22b0, c22b1⟩ := zbe c22
 clear c22
 by_cases c23 : a1 = a2
 rotate_left
 · rw [if_neg c23] at H
   obtain ⟨c23b0, c23b1⟩ := zbq c23
   exact zr_2
 rw [if_pos c23] at H
 obtain ⟨c23b0, c23b1⟩ := zbe c23
 clear c23
 exact zr_2
def zgh (a0_0 : ByteArray) (a0_1 : Int) (a0_2 : Int) (a0_3 : Int) (a0_4 : Int) (l1 : List Int) : Option (Int) := if 0 ≤ a0_2 then (if a0_2 < (l1.length : Int) then (if 0 ≤ a0_3 then (if a0_3 < (l1.length : Int) then (if a0_0.toList = ([115, 101, 116] : List UInt8) then (some a0_4) else (if a0_0.toList = ([109, 111, 118] : List UInt8) then (some (rd l1 a0_2)) else (if a0_0.toList = ([97, 100, 100, 105] : List UInt8) then ((za5 (⟨#[97, 100, 100]⟩ : ByteArray) (rd l1 a0_2) a0_4).bind fun t104 => (some t104)) else (if a0_0.toList = ([97, 110, 100, 105] : List UInt8) then ((za5 (⟨#[97, 110, 100]⟩ : ByteArray) (rd l1 a0_2) a0_4).bind fun t105 => (some t105)) else (if a0_0.toList = ([120, 111, 114, 105] : List UInt8) then ((za5 (⟨#[120, 111, 114]⟩ : ByteArray) (rd l1 a0_2) a0_4).bind fun t106 => (some t106)) else (if a0_0.toList = ([115, 104, 108, 105] : List UInt8) then ((za5 (⟨#[115, 104, 108]⟩ : ByteArray) (rd l1 a0_2) a0_4).bind fun t107 => (some t107)) else (if a0_0.toList = ([115, 104, 114, 105] : List UInt8) then ((za5 (⟨#[115, 104, 114]⟩ : ByteArray) (rd l1 a0_2) a0_4).bind fun t108 => (some t108)) else (if a0_0.toList = ([108, 101, 97] : List UInt8) then ((za5 (⟨#[115, 104, 108]⟩ : ByteArray) (rd l1 a0_3) a0_4).bind fun t109 => ((za5 (⟨#[97, 100, 100]⟩ : ByteArray) (rd l1 a0_2) t109).bind fun t110 => (some t110))) else ((za5 a0_0 (rd l1 a0_2) (rd l1 a0_3)).bind fun t111 => (some t111)))))))))) else (none)) else (none)) else (none)) else (none)
theorem zqs (a0_0 : ByteArray) (a0_1 : Int) (a0_2 : Int) (a0_3 : Int) (a0_4 : Int) (A1 : Option Addr) (c1 : Nat) (l1 : List Int) (r : Int) (w : World) (hr1 : Kd.C (Kd.int .i64) w A1 l1.length l1) (hc1 : l1.length ≤ c1) (h : zgh a0_0 a0_1 a0_2 a0_3 a0_4 l1 = some r) :
   Calls Tryz.prog 156 #[.agg #[.string a0_0, .int .i64 a0_1, .int .i64 a0_2, .int .i64 a0_3, .int .i64 a0_4], .slice A1 l1.length c1] w fun e w' => e = .returned (.int .i64 r) ∧ Below w.heap.size w w' := by
 have hu69 := Tryz.underlying69
 have HR1 := zA hr1
 have HC1 := zA hc1
 clear hr1 hc1
 have HB := zA (Below.refl w.heap.size w)
 have H := h
 unfold zgh at H
 clear h
 revert H
 refine zin fun c3 H => ?_
 revert H
 refine zin fun c4 H => ?_
 revert H
 refine zin fun c5 H => ?_
 revert H
 refine zin fun c6 H => ?_
 by_cases c7 : a0_0.toList = ([115, 101, 116] : List UInt8)
 · rw [if_pos c7] at H
   obtain ⟨c7b0, c7b1⟩ := zbe c7
   clear c7
   obtain rfl := zsi H
   go_enter Tryz.func156, Tryz.ntmps156
   go_wp2_with (first | ((with_reducible refine zgd 2 ?_); refine zbh zq2 #[.string a0_0, .int .i64 a0_1, .int .i64 a0_2, .int .i64 a0_3, .int .i64 a0_4] 69 ?_; clear HB; intro gb101 w8 HB BK101 GW101; have GE101 := GW101; obtain ⟨hcz9_0, hcz9_1, hcz9_2, hcz9_3, hcz9_4, hfz9_0, hfz9_1, hfz9_2, hfz9_3, hfz9_4⟩ := zd5 BK101; have p102 : 0 ≤ (a0_2 : Int) := zde zq14; have q102 : a0_2 < (l1.length : Int) := zde zq14; obtain ⟨ad102, e102, hx102_0⟩ := Kd.at_int HR1.out a0_2 p102 q102; cases e102; replace hx102_0 := zkep HB.out hx102_0; replace p102 := eq_true p102; replace q102 := eq_true q102; have p103 : 0 ≤ (a0_3 : Int) := zde zq14; have q103 : a0_3 < (l1.length : Int) := zde zq14; obtain ⟨ad103, e103, hx103_0⟩ := Kd.at_int HR1.out a0_3 p103 q103; obtain rfl : ad102 = ad103 := zq61; replace hx103_0 := zkep HB.out hx103_0; replace p103 := eq_true p103; replace q103 := eq_true q103))
   repeat (go_quiet (fail)); try go_wp2_with fail
   go_ret
   exact ⟨zq4, zq1 GE101⟩
 rw [if_neg c7] at H
 obtain ⟨c7b0, c7b1⟩ := zbq c7
 by_cases c10 : a0_0.toList = ([109, 111, 118] : List UInt8)
 · rw [if_pos c10] at H
   obtain ⟨c10b0, c10b1⟩ := zbe c10
   clear c10
   obtain rfl := zsi H
   go_enter Tryz.func156, Tryz.ntmps156
   go_wp2_with (first | ((with_reducible refine zgd 2 ?_); refine zbh zq2 #[.string a0_0, .int .i64 a0_1, .int .i64 a0_2, .int .i64 a0_3, .int .i64 a0_4] 69 ?_; clear HB; intro gb101 w11 HB BK101 GW101; have GE101 := GW101; obtain ⟨hcz12_0, hcz12_1, hcz12_2, hcz12_3, hcz12_4, hfz12_0, hfz12_1, hfz12_2, hfz12_3, hfz12_4⟩ := zd5 BK101; have p102 : 0 ≤ (a0_2 : Int) := zde zq14; have q102 : a0_2 < (l1.length : Int) := zde zq14; obtain ⟨ad102, e102, hx102_0⟩ := Kd.at_int HR1.out a0_2 p102 q102; cases e102; replace hx102_0 := zkep HB.out hx102_0; replace p102 := eq_true p102; replace q102 := eq_true q102; have p103 : 0 ≤ (a0_3 : Int) := zde zq14; have q103 : a0_3 < (l1.length : Int) := zde zq14; obtain ⟨ad103, e103, hx103_0⟩ := Kd.at_int HR1.out a0_3 p103 q103; obtain rfl : ad102 = ad103 := zq61; replace hx103_0 := zkep HB.out hx103_0; replace p103 := eq_true p103; replace q103 := eq_true q103))
   repeat (go_quiet (fail)); try go_wp2_with fail
   go_ret
   exact ⟨zq4, zq1 GE101⟩
 rw [if_neg c10] at H
 obtain ⟨c10b0, c10b1⟩ := zbq c10
 by_cases c13 : a0_0.toList = ([97, 100, 100, 105] : List UInt8)
 · rw [if_pos c13] at H
   obtain ⟨c13b0, c13b1⟩ := zbe c13
   clear c13
   replace H := zob H
   obtain ⟨t104, A140, H⟩ := H
   have A14 := zA A140
   clear A140
   obtain rfl := zsi H
   go_enter Tryz.func156, Tryz.ntmps156
   go_wp2_with (first | ((with_reducible refine zgd 2 ?_); refine zbh zq2 #[.string a0_0, .int .i64 a0_1, .int .i64 a0_2, .int .i64 a0_3, .int .i64 a0_4] 69 ?_; clear HB; intro gb101 w15 HB BK101 GW101; have GE101 := GW101; obtain ⟨hcz16_0, hcz16_1, hcz16_2, hcz16_3, hcz16_4, hfz16_0, hfz16_1, hfz16_2, hfz16_3, hfz16_4⟩ := zd5 BK101; have p102 : 0 ≤ (a0_2 : Int) := zde zq14; have q102 : a0_2 < (l1.length : Int) := zde zq14; obtain ⟨ad102, e102, hx102_0⟩ := Kd.at_int HR1.out a0_2 p102 q102; cases e102; replace hx102_0 := zkep HB.out hx102_0; replace p102 := eq_true p102; replace q102 := eq_true q102; have p103 : 0 ≤ (a0_3 : Int) := zde zq14; have q103 : a0_3 < (l1.length : Int) := zde zq14; obtain ⟨ad103, e103, hx103_0⟩ := Kd.at_int HR1.out a0_3 p103 q103; obtain rfl : ad102 = ad103 := zq61; replace hx103_0 := zkep HB.out hx103_0; replace p103 := eq_true p103; replace q103 := eq_true q103) | (go_at_call 157; (with_reducible refine (zal (⟨#[97, 100, 100]⟩ : ByteArray) (rd l1 a0_2) a0_4 t104 _ A14.out).mono ?_); rintro e w' ⟨rfl, ⟨nd, rfl⟩⟩; (try first | exact ⟨rfl, _, World.drewN_drewN _ _ _⟩ | exact ⟨rfl, _, Eq.trans (World.drewN_drewN _ _ _) (congrArg (World.drewN _) (Nat.add_assoc _ _ _))⟩)))
   repeat (go_quiet ((go_at_call 157; (with_reducible refine (zal (⟨#[97, 100, 100]⟩ : ByteArray) (rd l1 a0_2) a0_4 t104 _ A14.out).mono ?_); rintro e w' ⟨rfl, ⟨nd, rfl⟩⟩; (try first | exact ⟨rfl, _, World.drewN_drewN _ _ _⟩ | exact ⟨rfl, _, Eq.trans (World.drewN_drewN _ _ _) (congrArg (World.drewN _) (Nat.add_assoc _ _ _))⟩)))); try go_wp2_with ((go_at_call 157; (with_reducible refine (zal (⟨#[97, 100, 100]⟩ : ByteArray) (rd l1 a0_2) a0_4 t104 _ A14.out).mono ?_); rintro e w' ⟨rfl, ⟨nd, rfl⟩⟩; (try first | exact ⟨rfl, _, World.drewN_drewN _ _ _⟩ | exact ⟨rfl, _, Eq.trans (World.drewN_drewN _ _ _) (congrArg (World.drewN _) (Nat.add_assoc _ _ _))⟩)))
   go_ret
   exact ⟨zq4, zq1 GE101⟩
 rw [if_neg c13] at H
 obtain ⟨c13b0, c13b1⟩ := zbq c13
 by_cases c17 : a0_0.toList = ([97, 110, 100, 105] : List UInt8)
 · rw [if_pos c17] at H
   obtain ⟨c17b0, c17b1⟩ := zbe c17
   clear c17
   replace H := zob H
   obtain ⟨t105, A180, H⟩ := H
   have A18 := zA A180
   clear A180
   obtain rfl := zsi H
   go_enter Tryz.func156, Tryz.ntmps156
   go_wp2_with (first | ((with_reducible refine zgd 2 ?_); refine zbh zq2 #[.string a0_0, .int .i64 a0_1, .int .i64 a0_2, .int .i64 a0_3, .int .i64 a0_4] 69 ?_; clear HB; intro gb101 w19 HB BK101 GW101; have GE101 := GW101; obtain ⟨hcz20_0, hcz20_1, hcz20_2, hcz20_3, hcz20_4, hfz20_0, hfz20_1, hfz20_2, hfz20_3, hfz20_4⟩ := zd5 BK101; have p102 : 0 ≤ (a0_2 : Int) := zde zq14; have q102 : a0_2 < (l1.length : Int) := zde zq14; obtain ⟨ad102, e102, hx102_0⟩ := Kd.at_int HR1.out a0_2 p102 q102; cases e102; replace hx102_0 := zkep HB.out hx102_0; replace p102 := eq_true p102; replace q102 := eq_true q102; have p103 : 0 ≤ (a0_3 : Int) := zde zq14; have q103 : a0_3 < (l1.length : Int) := zde zq14; obtain ⟨ad103, e103, hx103_0⟩ := Kd.at_int HR1.out a0_3 p103 q103; obtain rfl : ad102 = ad103 := zq61; replace hx103_0 := zkep HB.out hx103_0; replace p103 := eq_true p103; replace q103 := eq_true q103) | (go_at_call 157; (with_reducible refine (zal (⟨#[97, 110, 100]⟩ : ByteArray) (rd l1 a0_2) a0_4 t105 _ A18.out).mono ?_); rintro e w' ⟨rfl, ⟨nd, rfl⟩⟩; (try first | exact ⟨rfl, _, World.drewN_drewN _ _ _⟩ | exact ⟨rfl, _, Eq.trans (World.drewN_drewN _ _ _) (congrArg (World.drewN _) (Nat.add_assoc _ _ _))⟩)))
   repeat (go_quiet ((go_at_call 157; (with_reducible refine (zal (⟨#[97, 110, 100]⟩ : ByteArray) (rd l1 a0_2) a0_4 t105 _ A18.out).mono ?_); rintro e w' ⟨rfl, ⟨nd, rfl⟩⟩; (try first | exact ⟨rfl, _, World.drewN_drewN _ _ _⟩ | exact ⟨rfl, _, Eq.trans (World.drewN_drewN _ _ _) (congrArg (World.drewN _) (Nat.add_assoc _ _ _))⟩)))); try go_wp2_with ((go_at_call 157; (with_reducible refine (zal (⟨#[97, 110, 100]⟩ : ByteArray) (rd l1 a0_2) a0_4 t105 _ A18.out).mono ?_); rintro e w' ⟨rfl, ⟨nd, rfl⟩⟩; (try first | exact ⟨rfl, _, World.drewN_drewN _ _ _⟩ | exact ⟨rfl, _, Eq.trans (World.drewN_drewN _ _ _) (congrArg (World.drewN _) (Nat.add_assoc _ _ _))⟩)))
   go_ret
   exact ⟨zq4, zq1 GE101⟩
 rw [if_neg c17] at H
 obtain ⟨c17b0, c17b1⟩ := zbq c17
 by_cases c21 : a0_0.toList = ([120, 111, 114, 105] : List UInt8)
 · rw [if_pos c21] at H
   obtain ⟨c21b0, c21b1⟩ := zbe c21
   clear c21
   replace H := zob H
   obtain ⟨t106, A220, H⟩ := H
   have A22 := zA A220
   clear A220
   obtain rfl := zsi H
   go_enter Tryz.func156, Tryz.ntmps156
   go_wp2_with (first | ((with_reducible refine zgd 2 ?_); refine zbh zq2 #[.string a0_0, .int .i64 a0_1, .int .i64 a0_2, .int .i64 a0_3, .int .i64 a0_4] 69 ?_; clear HB; intro gb101 w23 HB BK101 GW101; have GE101 := GW101; obtain ⟨hcz24_0, hcz24_1, hcz24_2, hcz24_3, hcz24_4, hfz24_0, hfz24_1, hfz24_2, hfz24_3, hfz24_4⟩ := zd5 BK101; have p102 : 0 ≤ (a0_2 : Int) := zde zq14; have q102 : a0_2 < (l1.length : Int) := zde zq14; obtain ⟨ad102, e102, hx102_0⟩ := Kd.at_int HR1.out a0_2 p102 q102; cases e102; replace hx102_0 := zkep HB.out hx102_0; replace p102 := eq_true p102; replace q102 := eq_true q102; have p103 : 0 ≤ (a0_3 : Int) := zde zq14; have q103 : a0_3 < (l1.length : Int) := zde zq14; obtain ⟨ad103, e103, hx103_0⟩ := Kd.at_int HR1.out a0_3 p103 q103; obtain rfl : ad102 = ad103 := zq61; replace hx103_0 := zkep HB.out hx103_0; replace p103 := eq_true p103; replace q103 := eq_true q103) | (go_at_call 157; (with_reducible refine (zal (⟨#[120, 111, 114]⟩ : ByteArray) (rd l1 a0_2) a0_4 t106 _ A22.out).mono ?_); rintro e w' ⟨rfl, ⟨nd, rfl⟩⟩; (try first | exact ⟨rfl, _, World.drewN_drewN _ _ _⟩ | exact ⟨rfl, _, Eq.trans (World.drewN_drewN _ _ _) (congrArg (World.drewN _) (Nat.add_assoc _ _ _))⟩)))
   repeat (go_quiet ((go_at_call 157; (with_reducible refine (zal (⟨#[120, 111, 114]⟩ : ByteArray) (rd l1 a0_2) a0_4 t106 _ A22.out).mono ?_); rintro e w' ⟨rfl, ⟨nd, rfl⟩⟩; (try first | exact ⟨rfl, _, World.drewN_drewN _ _ _⟩ | exact ⟨rfl, _, Eq.trans (World.drewN_drewN _ _ _) (congrArg (World.drewN _) (Nat.add_assoc _ _ _))⟩)))); try go_wp2_with ((go_at_call 157; (with_reducible refine (zal (⟨#[120, 111, 114]⟩ : ByteArray) (rd l1 a0_2) a0_4 t106 _ A22.out).mono ?_); rintro e w' ⟨rfl, ⟨nd, rfl⟩⟩; (try first | exact ⟨rfl, _, World.drewN_drewN _ _ _⟩ | exact ⟨rfl, _, Eq.trans (World.drewN_drewN _ _ _) (congrArg (World.drewN _) (Nat.add_assoc _ _ _))⟩)))
   go_ret
   exact ⟨zq4, zq1 GE101⟩
 rw [if_neg c21] at H
 obtain ⟨c21b0, c21b1⟩ := zbq c21
 by_cases c25 : a0_0.toList = ([115, 104, 108, 105] : List UInt8)
 · rw [if_pos c25] at H
   obtain ⟨c25b0, c25b1⟩ := zbe c25
   clear c25
   replace H := zob H
   obtain ⟨t107, A260, H⟩ := H
   have A26 := zA A260
   clear A260
   obtain rfl := zsi H
   go_enter Tryz.func156, Tryz.ntmps156
   go_wp2_with (first | ((with_reducible refine zgd 2 ?_); refine zbh zq2 #[.string a0_0, .int .i64 a0_1, .int .i64 a0_2, .int .i64 a0_3, .int .i64 a0_4] 69 ?_; clear HB; intro gb101 w27 HB BK101 GW101; have GE101 := GW101; obtain ⟨hcz28_0, hcz28_1, hcz28_2, hcz28_3, hcz28_4, hfz28_0, hfz28_1, hfz28_2, hfz28_3, hfz28_4⟩ := zd5 BK101; have p102 : 0 ≤ (a0_2 : Int) := zde zq14; have q102 : a0_2 < (l1.length : Int) := zde zq14; obtain ⟨ad102, e102, hx102_0⟩ := Kd.at_int HR1.out a0_2 p102 q102; cases e102; replace hx102_0 := zkep HB.out hx102_0; replace p102 := eq_true p102; replace q102 := eq_true q102; have p103 : 0 ≤ (a0_3 : Int) := zde zq14; have q103 : a0_3 < (l1.length : Int) := zde zq14; obtain ⟨ad103, e103, hx103_0⟩ := Kd.at_int HR1.out a0_3 p103 q103; obtain rfl : ad102 = ad103 := zq61; replace hx103_0 := zkep HB.out hx103_0; replace p103 := eq_true p103; replace q103 := eq_true q103) | (go_at_call 157; (with_reducible refine (zal (⟨#[115, 104, 108]⟩ : ByteArray) (rd l1 a0_2) a0_4 t107 _ A26.out).mono ?_); rintro e w' ⟨rfl, ⟨nd, rfl⟩⟩; (try first | exact ⟨rfl, _, World.drewN_drewN _ _ _⟩ | exact ⟨rfl, _, Eq.trans (World.drewN_drewN _ _ _) (congrArg (World.drewN _) (Nat.add_assoc _ _ _))⟩)))
   repeat (go_quiet ((go_at_call 157; (with_reducible refine (zal (⟨#[115, 104, 108]⟩ : ByteArray) (rd l1 a0_2) a0_4 t107 _ A26.out).mono ?_); rintro e w' ⟨rfl, ⟨nd, rfl⟩⟩; (try first | exact ⟨rfl, _, World.drewN_drewN _ _ _⟩ | exact ⟨rfl, _, Eq.trans (World.drewN_drewN _ _ _) (congrArg (World.drewN _) (Nat.add_assoc _ _ _))⟩)))); try go_wp2_with ((go_at_call 157; (with_reducible refine (zal (⟨#[115, 104, 108]⟩ : ByteArray) (rd l1 a0_2) a0_4 t107 _ A26.out).mono ?_); rintro e w' ⟨rfl, ⟨nd, rfl⟩⟩; (try first | exact ⟨rfl, _, World.drewN_drewN _ _ _⟩ | exact ⟨rfl, _, Eq.trans (World.drewN_drewN _ _ _) (congrArg (World.drewN _) (Nat.add_assoc _ _ _))⟩)))
   go_ret
   exact ⟨zq4, zq1 GE101⟩
 rw [if_neg c25] at H
 obtain ⟨c25b0, c25b1⟩ := zbq c25
 by_cases c29 : a0_0.toList = ([115, 104, 114, 105] : List UInt8)
 · rw [if_pos c29] at H
   obtain ⟨c29b0, c29b1⟩ := zbe c29
   clear c29
   replace H := zob H
   obtain ⟨t108, A300, H⟩ := H
   have A30 := zA A300
   clear A300
   obtain rfl := zsi H
   go_enter Tryz.func156, Tryz.ntmps156
   go_wp2_with (first | ((with_reducible refine zgd 2 ?_); refine zbh zq2 #[.string a0_0, .int .i64 a0_1, .int .i64 a0_2, .int .i64 a0_3, .int .i64 a0_4] 69 ?_; clear HB; intro gb101 w31 HB BK101 GW101; have GE101 := GW101; obtain ⟨hcz32_0, hcz32_1, hcz32_2, hcz32_3, hcz32_4, hfz32_0, hfz32_1, hfz32_2, hfz32_3, hfz32_4⟩ := zd5 BK101; have p102 : 0 ≤ (a0_2 : Int) := zde zq14; have q102 : a0_2 < (l1.length : Int) := zde zq14; obtain ⟨ad102, e102, hx102_0⟩ := Kd.at_int HR1.out a0_2 p102 q102; cases e102; replace hx102_0 := zkep HB.out hx102_0; replace p102 := eq_true p102; replace q102 := eq_true q102; have p103 : 0 ≤ (a0_3 : Int) := zde zq14; have q103 : a0_3 < (l1.length : Int) := zde zq14; obtain ⟨ad103, e103, hx103_0⟩ := Kd.at_int HR1.out a0_3 p103 q103; obtain rfl : ad102 = ad103 := zq61; replace hx103_0 := zkep HB.out hx103_0; replace p103 := eq_true p103; replace q103 := eq_true q103) | (go_at_call 157; (with_reducible refine (zal (⟨#[115, 104, 114]⟩ : ByteArray) (rd l1 a0_2) a0_4 t108 _ A30.out).mono ?_); rintro e w' ⟨rfl, ⟨nd, rfl⟩⟩; (try first | exact ⟨rfl, _, World.drewN_drewN _ _ _⟩ | exact ⟨rfl, _, Eq.trans (World.drewN_drewN _ _ _) (congrArg (World.drewN _) (Nat.add_assoc _ _ _))⟩)))
   repeat (go_quiet ((go_at_call 157; (with_reducible refine (zal (⟨#[115, 104, 114]⟩ : ByteArray) (rd l1 a0_2) a0_4 t108 _ A30.out).mono ?_); rintro e w' ⟨rfl, ⟨nd, rfl⟩⟩; (try first | exact ⟨rfl, _, World.drewN_drewN _ _ _⟩ | exact ⟨rfl, _, Eq.trans (World.drewN_drewN _ _ _) (congrArg (World.drewN _) (Nat.add_assoc _ _ _))⟩)))); try go_wp2_with ((go_at_call 157; (with_reducible refine (zal (⟨#[115, 104, 114]⟩ : ByteArray) (rd l1 a0_2) a0_4 t108 _ A30.out).mono ?_); rintro e w' ⟨rfl, ⟨nd, rfl⟩⟩; (try first | exact ⟨rfl, _, World.drewN_drewN _ _ _⟩ | exact ⟨rfl, _, Eq.trans (World.drewN_drewN _ _ _) (congrArg (World.drewN _) (Nat.add_assoc _ _ _))⟩)))
   go_ret
   exact ⟨zq4, zq1 GE101⟩
 rw [if_neg c29] at H
 obtain ⟨c29b0, c29b1⟩ := zbq c29
 by_cases c33 : a0_0.toList = ([108, 101, 97] : List UInt8)
 rotate_left
 · rw [if_neg c33] at H
   obtain ⟨c33b0, c33b1⟩ := zbq c33
   replace H := zob H
   obtain ⟨t111, A380, H⟩ := H
   have A38 := zA A380
   clear A380
   obtain rfl := zsi H
   go_enter Tryz.func156, Tryz.ntmps156
   go_wp2_with (first | ((with_reducible refine zgd 2 ?_); refine zbh zq2 #[.string a0_0, .int .i64 a0_1, .int .i64 a0_2, .int .i64 a0_3, .int .i64 a0_4] 69 ?_; clear HB; intro gb101 w39 HB BK101 GW101; have GE101 := GW101; obtain ⟨hcz40_0, hcz40_1, hcz40_2, hcz40_3, hcz40_4, hfz40_0, hfz40_1, hfz40_2, hfz40_3, hfz40_4⟩ := zd5 BK101; have p102 : 0 ≤ (a0_2 : Int) := zde zq14; have q102 : a0_2 < (l1.length : Int) := zde zq14; obtain ⟨ad102, e102, hx102_0⟩ := Kd.at_int HR1.out a0_2 p102 q102; cases e102; replace hx102_0 := zkep HB.out hx102_0; replace p102 := eq_true p102; replace q102 := eq_true q102; have p103 : 0 ≤ (a0_3 : Int) := zde zq14; have q103 : a0_3 < (l1.length : Int) := zde zq14; obtain ⟨ad103, e103, hx103_0⟩ := Kd.at_int HR1.out a0_3 p103 q103; obtain rfl : ad102 = ad103 := zq61; replace hx103_0 := zkep HB.out hx103_0; replace p103 := eq_true p103; replace q103 := eq_true q103) | (go_at_call 157; (with_reducible refine (zal a0_0 (rd l1 a0_2) (rd l1 a0_3) t111 _ A38.out).mono ?_); rintro e w' ⟨rfl, ⟨nd, rfl⟩⟩; (try first | exact ⟨rfl, _, World.drewN_drewN _ _ _⟩ | exact ⟨rfl, _, Eq.trans (World.drewN_drewN _ _ _) (congrArg (World.drewN _) (Nat.add_assoc _ _ _))⟩)))
   repeat (go_quiet ((go_at_call 157; (with_reducible refine (zal a0_0 (rd l1 a0_2) (rd l1 a0_3) t111 _ A38.out).mono ?_); rintro e w' ⟨rfl, ⟨nd, rfl⟩⟩; (try first | exact ⟨rfl, _, World.drewN_drewN _ _ _⟩ | exact ⟨rfl, _, Eq.trans (World.drewN_drewN _ _ _) (congrArg (World.drewN _) (Nat.add_assoc _ _ _))⟩)))); try go_wp2_with ((go_at_call 157; (with_reducible refine (zal a0_0 (rd l1 a0_2) (rd l1 a0_3) t111 _ A38.out).mono ?_); rintro e w' ⟨rfl, ⟨nd, rfl⟩⟩; (try first | exact ⟨rfl, _, World.drewN_drewN _ _ _⟩ | exact ⟨rfl, _, Eq.trans (World.drewN_drewN _ _ _) (congrArg (World.drewN _) (Nat.add_assoc _ _ _))⟩)))
   go_ret
   exact ⟨zq4, zq1 GE101⟩
 rw [if_pos c33] at H
 obtain ⟨c33b0, c33b1⟩ := zbe c33
 clear c33
 replace H := zob H
 obtain ⟨t109, A340, H⟩ := H
 have A34 := zA A340
 clear A340
 replace H := zob H
 obtain ⟨t110, A350, H⟩ := H
 have A35 := zA A350
 clear A350
 obtain rfl := zsi H
 go_enter Tryz.func156, Tryz.ntmps156
 go_wp2_with (first | ((with_reducible refine zgd 2 ?_); refine zbh zq2 #[.string a0_0, .int .i64 a0_1, .int .i64 a0_2, .int .i64 a0_3, .int .i64 a0_4] 69 ?_; clear HB; intro gb101 w36 HB BK101 GW101; have GE101 := GW101; obtain ⟨hcz37_0, hcz37_1, hcz37_2, hcz37_3, hcz37_4, hfz37_0, hfz37_1, hfz37_2, hfz37_3, hfz37_4⟩ := zd5 BK101; have p102 : 0 ≤ (a0_2 : Int) := zde zq14; have q102 : a0_2 < (l1.length : Int) := zde zq14; obtain ⟨ad102, e102, hx102_0⟩ := Kd.at_int HR1.out a0_2 p102 q102; cases e102; replace hx102_0 := zkep HB.out hx102_0; replace p102 := eq_true p102; replace q102 := eq_true q102; have p103 : 0 ≤ (a0_3 : Int) := zde zq14; have q103 : a0_3 < (l1.length : Int) := zde zq14; obtain ⟨ad103, e103, hx103_0⟩ := Kd.at_int HR1.out a0_3 p103 q103; obtain rfl : ad102 = ad103 := zq61; replace hx103_0 := zkep HB.out hx103_0; replace p103 := eq_true p103; replace q103 := eq_true q103) | (go_at_call 157; (with_reducible refine (zal (⟨#[115, 104, 108]⟩ : ByteArray) (rd l1 a0_3) a0_4 t109 _ A34.out).mono ?_); rintro e w' ⟨rfl, ⟨nd, rfl⟩⟩; (try first | exact ⟨rfl, _, World.drewN_drewN _ _ _⟩ | exact ⟨rfl, _, Eq.trans (World.drewN_drewN _ _ _) (congrArg (World.drewN _) (Nat.add_assoc _ _ _))⟩)) | (go_at_call 157; (with_reducible refine (zal (⟨#[97, 100, 100]⟩ : ByteArray) (rd l1 a0_2) t109 t110 _ A35.out).mono ?_); rintro e w' ⟨rfl, ⟨nd, rfl⟩⟩; (try first | exact ⟨rfl, _, World.drewN_drewN _ _ _⟩ | exact ⟨rfl, _, Eq.trans (World.drewN_drewN _ _ _) (congrArg (World.drewN _) (Nat.add_assoc _ _ _))⟩)))
 repeat (go_quiet (first | (go_at_call 157; (with_reducible refine (zal (⟨#[115, 104, 108]⟩ : ByteArray) (rd l1 a0_3) a0_4 t109 _ A34.out).mono ?_); rintro e w' ⟨rfl, ⟨nd, rfl⟩⟩; (try first | exact ⟨rfl, _, World.drewN_drewN _ _ _⟩ | exact ⟨rfl, _, Eq.trans (World.drewN_drewN _ _ _) (congrArg (World.drewN _) (Nat.add_assoc _ _ _))⟩)) | (go_at_call 157; (with_reducible refine (zal (⟨#[97, 100, 100]⟩ : ByteArray) (rd l1 a0_2) t109 t110 _ A35.out).mono ?_); rintro e w' ⟨rfl, ⟨nd, rfl⟩⟩; (try first | exact ⟨rfl, _, World.drewN_drewN _ _ _⟩ | exact ⟨rfl, _, Eq.trans (World.drewN_drewN _ _ _) (congrArg (World.drewN _) (Nat.add_assoc _ _ _))⟩)))); try go_wp2_with (first | (go_at_call 157; (with_reducible refine (zal (⟨#[115, 104, 108]⟩ : ByteArray) (rd l1 a0_3) a0_4 t109 _ A34.out).mono ?_); rintro e w' ⟨rfl, ⟨nd, rfl⟩⟩; (try first | exact ⟨rfl, _, World.drewN_drewN _ _ _⟩ | exact ⟨rfl, _, Eq.trans (World.drewN_drewN _ _ _) (congrArg (World.drewN _) (Nat.add_assoc _ _ _))⟩)) | (go_at_call 157; (with_reducible refine (zal (⟨#[97, 100, 100]⟩ : ByteArray) (rd l1 a0_2) t109 t110 _ A35.out).mono ?_); rintro e w' ⟨rfl, ⟨nd, rfl⟩⟩; (try first | exact ⟨rfl, _, World.drewN_drewN _ _ _⟩ | exact ⟨rfl, _, Eq.trans (World.drewN_drewN _ _ _) (congrArg (World.drewN _) (Nat.add_assoc _ _ _))⟩)))
 go_ret
 exact ⟨zq4, zq1 GE101⟩
def zjl (l0 : List Int) : Option (List Int) := (some (([] : List Int) : List Int)).bind fun y101 => (if y101.length + l0.length < 17592186044416 then (some (y101 ++ l0)) else (none))
theorem zok (A0 : Option Addr) (c0 : Nat) (l0 : List Int) (r : List Int) (w : World) (hr0 : Kd.C (Kd.int .i64) w A0 l0.length l0) (hc0 : l0.length ≤ c0) (h : zjl l0 = some r) :
   Calls Tryz.prog 119 #[.slice A0 l0.length c0] w fun e w' => ∃ v0_ : Value, e = .returned (v0_) ∧ Kd.R (Kd.int .i64) 3 w' w.heap.size (fun _ => True) v0_ r ∧ Below w.heap.size w w' := by
 have HR0 := zA hr0
 have HC0 := zA hc0
 clear hr0 hc0
 have HB := zA (Below.refl w.heap.size w)
 have H := h
 unfold zjl at H
 clear h
 obtain ⟨y101, hy101⟩ : ∃ y_ : List Int, y_ = (([] : List Int)) := ⟨_, rfl⟩
 rw [← hy101] at H; try with_reducible replace H := zbs H
 have Ny101 := zA hy101
 clear hy101
 by_cases c2 : y101.length + l0.length < 17592186044416
 · rw [if_pos c2] at H
   have LMc2 := zA c2
   clear c2
   obtain ⟨y104, hy104⟩ : ∃ y_ : List Int, y_ = (y101 ++ l0) := ⟨_, rfl⟩
   rw [← hy104] at H; try with_reducible replace H := zbs H
   have Ny104 := zA hy104
   clear hy104
   obtain rfl := zsi H
   go_enter Tryz.func119, Tryz.ntmps119
   go_wp2_with (first | ((with_reducible refine zgd 3 ?_); refine Kd.R_lit (Kd.int .i64) _ 3 ?hg (N := 3) ?hd (xs := ([] : List Int)) (inner := []) (ok := fun _ => True) (okp := fun _ => True) ?hr ?hp (fun _ hk => hk) trivial (Below.refl _ _) (zlr _) (by simp) ?_; (case hd => rfl); (case hg => rfl); (case hr => go_simp <;> rfl); (case hp => exact (Reps.none _ _)); intro v102 w3 ho4 hb hg_ hnew_; clear hg_ hnew_; (first | rw [← Ny101.out] at ho4 | (simp only [Int.reduceToNat] at ho4; rw [← Ny101.out] at ho4)); have HO103 := zA (Kd.R_lower ho4 (zaf zq2)); replace HB := zA (zaa zq2 hb); clear hb ho4) | ((with_reducible refine zez (b := .append) (xs := #[.tmp 3, .tmp 4]) rfl ?_); at_builtin; refine Kd.R_append_rows (Kd.int .i64) (w0 := w) w.heap.size rfl (.tmp 3) (.tmp 4) 24 3 (.int .i64 0) 8 rfl Tryz.underlying24 zl5 rfl (by decide) (by omega) v102 y101 l0 _ _ _ (fun _ => True) (fun _ => False) rfl rfl ?aO ?aR (fun _ _ h => h) (fun _ h => h.elim) ?aF ?aB ?aS ?aL ?_; (case aR => repeat (first | exact (zCb HR0.out HB.out) | (with_reducible first | refine zCa ?_ _ | refine zCn ?_ _ | refine zCd ?_))); (case aB => exact zq2); (case aF => exact (fun _ _ => trivial)); (case aO => exact (zq3 HO103)); (case aS => exact (zaf zq2)); (case aL => have := LMc2.out; omega); intro v105 w5 ho hb hg hat; rw [← Ny104.out] at ho; replace HB := zA (hb); have HO106 := zA (ho); clear HO103; clear ho hb hg hat))
   go_ret
   exact ⟨_, zq4, zq3 HO106, zq2⟩
 · rw [if_neg c2] at H
   exact absurd H (by simp)
def zjx (a0_0 : ByteArray) (a0_1 : Int) (a0_2 : Int) (a0_3 : Int) (a0_4 : Int) (l1 : List Int) : Option (List Int) := (zjl l1).bind fun t102 => ((zgh a0_0 a0_1 a0_2 a0_3 a0_4 l1).bind fun t105 => (if 0 ≤ a0_1 then (if a0_1 < (t102.length : Int) then (some (t102.set (a0_1 : Int).toNat t105)) else (none)) else (none)))
def spec_cdStep.T2 : Bool × List (List Nat × List Nat) := (true, [([], []), ([], []), ([1], [1]), ([], []), ([], []), ([3, 4], [3, 4]), ([0, 2, 0, 1, 2, 3, 4, 5], [0, 2]), ([6, 5, 5, 0, 1, 2, 3, 4, 5], [5, 6])])
def zt6 : List Nat := [0, 0, 2, 0, 0, 24, 63, 127]
theorem zsv : rtab .any (zs3 Tryz.f120 2) = spec_cdStep.T2 := by kernel_rfl
theorem zr0 : zis spec_cdStep.T2.2 zt6 = true := by kernel_rfl
theorem zr1 (a0_0 : ByteArray) (a0_1 : Int) (a0_2 : Int) (a0_3 : Int) (a0_4 : Int) (A1 : Option Addr) (c1 : Nat) (l1 : List Int) (r : List Int) (w : World) (hr1 : Kd.C (Kd.int .i64) w A1 l1.length l1) (hc1 : l1.length ≤ c1) (h : zjx a0_0 a0_1 a0_2 a0_3 a0_4 l1 = some r) :
   Calls Tryz.prog 120 #[.agg #[.string a0_0, .int .i64 a0_1, .int .i64 a0_2, .int .i64 a0_3, .int .i64 a0_4], .slice A1 l1.length c1] w fun e w' => ∃ v0_ : Value, e = .returned (v0_) ∧ Kd.R (Kd.int .i64) 3 w' w.heap.size (fun _ => True) v0_ r ∧ Below w.heap.size w w' := by
 have hu69 := Tryz.underlying69
 have HR1 := zA hr1
 have HC1 := zA hc1
 clear hr1 hc1
 have HB := zA (Below.refl w.heap.size w)
 have H := h
 unfold zjx at H
 clear h
 replace H := zob H
 obtain ⟨t102, A30, H⟩ := H
 have A3 := zA A30
 clear A30
 replace H := zob H
 obtain ⟨t105, A40, H⟩ := H
 have A4 := zA A40
 clear A40
 revert H
 refine zin fun c5 H => ?_
 revert H
 refine zin fun c6 H => ?_
 obtain ⟨y106, hy106⟩ : ∃ y_ : List Int, y_ = (t102.set (a0_1 : Int).toNat t105) := ⟨_, rfl⟩
 rw [← hy106] at H; try with_reducible replace H := zbs H
 have Ny106 := zA hy106
 clear hy106
 obtain rfl := zsi H
 go_enter Tryz.func120, Tryz.ntmps120
 try go_wp2_with (first | ((with_reducible refine zgd 2 ?_); refine zbx #[.string a0_0, .int .i64 a0_1, .int .i64 a0_2, .int .i64 a0_3, .int .i64 a0_4] 69 ?_; intro gb101 hg w8 hbox hb; have zs := zpair zq2 hb; replace HB := zA (zs.1); have BK101 := zA (hbox); have GW101 := zA (zge hg zs.2); have GE101 := GW101; clear zs hb hbox hg) | ((with_reducible refine zgc 119 ?_); refine zca 7 Tryz.func119 #[.slice A1 l1.length c1] (zok _ _ l1 t102 _ (zq7 HR1) HC1.out A3.out) ?_; rintro e w9 ⟨v103, rfl, ho0, hb⟩; refine ⟨_, rfl, ?_⟩; have HO104 := zA (Kd.R_lower ho0 (zaf (zq1 GE101))); replace BK101 := zbb BK101 hb; replace HB := zA (zaa (zq1 GE101) hb); (try clear hb); (try clear ho0)))
 replace HO104 := zA (zRd HO104.out)
 replace BK101 := zA (zkd BK101.out)
 replace HB := zA (zbd HB.out)
 refine zne (n := 8) (S := fun w' => w'.cell? ⟨gb101, 0, none⟩ = some (.string a0_0) ∧ w'.cell? ⟨gb101, 1, none⟩ = some (.int .i64 a0_1) ∧ w'.cell? ⟨gb101, 2, none⟩ = some (.int .i64 a0_2) ∧ w'.cell? ⟨gb101, 3, none⟩ = some (.int .i64 a0_3) ∧ w'.cell? ⟨gb101, 4, none⟩ = some (.int .i64 a0_4)) (ds := [7]) #[false, false, false, false, false, false, false, false] zq23 rfl rfl ⟨(zae BK101.out 0).trans rfl, (zae BK101.out 1).trans rfl, (zae BK101.out 2).trans rfl, (zae BK101.out 3).trans rfl, (zae BK101.out 4).trans rfl⟩ (fun hHeld => ?_); refine zhk zsv zr0 (fun HT_ HW_ => ?_)
 generalize w9.drew = w10 at HO104 BK101 HB hHeld ⊢
 refine zpu 0 8 HT_ ?_
 refine zpu 1 9 HT_ ?_
 refine zpu 4 12 HT_ ?_
 refine ztu 2 10 HT_ HW_ hHeld ?_
 refine ztu 3 11 HT_ HW_ hHeld ?_
 refine one_ (i := 5) (N := some 13) #[true, true, true, true, true, true, false, false] rfl rfl (zhj HT_.out zq23) (by decide) (fun K hK => ?_)
 refine zs2 Tryz.func156 zq23 rfl #[.agg #[.string a0_0, .int .i64 a0_1, .int .i64 a0_2, .int .i64 a0_3, .int .i64 a0_4], .slice A1 l1.length c1] (by rfl) rfl rfl zq20 ?_
 with_reducible refine (zqs a0_0 a0_1 a0_2 a0_3 a0_4 _ _ l1 t105 _ ?side1 ?side2 A4.out).mono ?_
 (case side1 => repeat (first | exact (zCb HR1.out HB.out) | (with_reducible first | refine zCa ?_ _ | refine zCn ?_ _ | refine zCd ?_)))
 (case side2 => exact HC1.out)
 rintro e w11 ⟨rfl, hb⟩
 refine ⟨_, rfl, ?_⟩
 replace HO104 := zA (zRb (zq3 HO104) hb)
 replace BK101 := zA (zai (g := gb101) (o := .cells #[.string a0_0, .int .i64 a0_1, .int .i64 a0_2, .int .i64 a0_3, .int .i64 a0_4] 69 (0, 0)) (zq6 BK101) hb)
 replace HB := zA (zaa (zq1 GE101) hb)
 (try clear hb)
 (try clear hb2)
 (try clear hk)
 (try clear hi)
 have p7 : 0 ≤ (a0_1 : Int) := zde zq14
 have q7 : (a0_1 : Int) < ((t102.length : Int) : Int) := zde zq14
 obtain ⟨go7, co7, eo7, gb7, gl7, cl7, HG7⟩ := Kd.R_form HO104.out (by omega)
 (first | cases eo7 | (injection eo7 with ea_ en_ ec_; (first | subst ea_ | (injection ea_ with ea_; subst ea_)); subst ec_; clear en_))
 have GB7 := zA gb7
 have GG7 := zA HG7
 clear gb7 gl7 HG7
 obtain ⟨hx7_0, hf7_0⟩ := Kd.R_celln 0 HO104.out (a0_1 : Int) p7 q7
 replace p7 := eq_true p7
 replace q7 := eq_true q7
 have HP12 := Kd.R_putn HO104.out (a0_1 : Int) t105
 rw [← Ny106.out] at HP12
 have HQ12 := zA HP12
 clear HP12
 refine hK.out _ _ ⟨(zae BK101.out 0).trans rfl, (zae BK101.out 1).trans rfl, (zae BK101.out 2).trans rfl, (zae BK101.out 3).trans rfl, (zae BK101.out 4).trans rfl⟩ (fun hHeld => ?_)
 clear hK K
 refine znm 13 ?_
 refine zpu 6 14 HT_ ?_
 refine zzh (i := 7) (N := none) #[true, true, true, true, true, true, true, true] rfl rfl (zhj HT_.out zq23) (by decide) (fun K hK => ?_)
 refine yeb (w1 := ?_) (by rfl) rfl ?_ ?_
 rotate_left
 · go_simp
   rfl
 refine hK.out _ _ ?_
 clear hK K
 refine zrb (zj4 HT_.out zq23) ?_
 try go_wp2
 go_ret
 exact ⟨_, zq4, zq3 HQ12, zq9 GB7 GE101⟩
def zer : Nat → List Int → List (S69) → Int → Int → Option (List Int)
 | 0, _, _, _, _ => none
 | k + 1, x5, x10, x11, x12 => if x12 < x11 then (if 0 ≤ x12 then (if x12 < (x10.length : Int) then ((zjx ((zag x10 x12).f0) ((zag x10 x12).f1) ((zag x10 x12).f2) ((zag x10 x12).f3) ((zag x10 x12).f4) x5).bind fun t106 => (zer k t106 x10 x11 (wrap64 (x12 + 1)))) else (none)) else (none)) else (some x5)
def zg8 (k : Nat) (l0 : List (S69)) (l1 : List Int) : Option (List Int) := (zjl l1).bind fun t101 => (zer k t101 l0 (l0.length : Int) 0)
theorem znv : ∀ k, (∀ y0 y1 y2 y3, LeO (zer k y0 y1 y2 y3) (zer (k + 1) y0 y1 y2 y3))
 | 0 => fun _ _ _ _ r h => by simp [zer] at h
 | k + 1 => by
   have ih0 := znv k
   · intro y0 y1 y2 y3
     unfold zer
     exact zm1 ih0
theorem ziq : ∀ a0 a1 k, LeO (zg8 k a0 a1) (zg8 (k + 1) a0 a1) := by
 intro a0 a1 k
 have ih0 := znv k
 unfold zg8
 exact zm1 ih0
theorem zjb (k : Nat) (A0 : Option Addr) (c0 : Nat) (l0 : List (S69)) (A1 : Option Addr) (c1 : Nat) (l1 : List Int) (r : List Int) (w : World) (hr0 : Kd.C k69 w A0 l0.length l0) (hc0 : l0.length ≤ c0) (hr1 : Kd.C (Kd.int .i64) w A1 l1.length l1) (hc1 : l1.length ≤ c1) (h : zg8 k l0 l1 = some r) :
   Calls Tryz.prog 84 #[.slice A0 l0.length c0, .slice A1 l1.length c1] w fun e w' => ∃ v0_ : Value, e = .returned (v0_) ∧ Kd.R (Kd.int .i64) 3 w' w.heap.size (fun _ => True) v0_ r ∧ Below w.heap.size w w' := by
 have hu69 := Tryz.underlying69
 have HR0 := zA hr0
 have HC0 := zA hc0
 clear hr0 hc0
 have HR1 := zA hr1
 have HC1 := zA hc1
 clear hr1 hc1
 have HB := zA (Below.refl w.heap.size w)
 have H := h
 unfold zg8 at H
 clear h
 replace H := zob H
 obtain ⟨t101, A30, H⟩ := H
 have A3 := zA A30
 clear A30
 have H' := zA H
 clear H
 go_enter Tryz.func84, Tryz.ntmps84
 go_wp2_with (first | ((with_reducible refine zgc 119 ?_); refine zca 9 Tryz.func119 #[.slice A1 l1.length c1] (zok _ _ l1 t101 _ (zq37 HR1) HC1.out A3.out) ?_; rintro e w4 ⟨v102, rfl, ho0, hb⟩; refine ⟨_, rfl, ?_⟩; have HO103 := zA (Kd.R_lower ho0 (zaf zq2)); replace HB := zA (zaa zq2 hb); (try clear hb); (try clear ho0)))
 go_loopg [5, 12] k (fun kq v5 v12 w' => ∃ (x5_1 : List Int) (x12_1 : Int), v12 = .int .i64 x12_1 ∧ Aside0 (zer kq x5_1 l0 (l0.length : Int) x12_1 = some r) ∧ Aside0 (kq ≤ k) ∧ Aside0 (Kd.R (Kd.int .i64) 3 w' w.heap.size (fun _ => True) v5 x5_1) ∧ Aside0 (Below w.heap.size w w'))
 case atStart => exact ⟨(t101), (0), zq5, H', ⟨zlr _⟩, ⟨zq3 HO103⟩, ⟨zq2⟩⟩
 clear H'
 try clear c1
 obtain ⟨x5_1, x12_1, rfl, HA, HK1, HO_5, HB⟩ := hrel
 cases gk with
 | zero => exact absurd HA.out (by simp [zer])
 | succ k1 =>
 have H := HA.out
 clear HA
 simp only [zer] at H
 revert H
 refine zit (fun c5 H => ?_) fun c5 H => ?_
 rotate_left
 · obtain rfl := zsi H
   go_wp2
   go_ret
   exact ⟨_, zq4, zq3 HO_5, zq2⟩
 revert H
 refine zin fun c6 H => ?_
 revert H
 refine zin fun c7 H => ?_
 replace H := zob H
 obtain ⟨t106, A80, H⟩ := H
 have A8 := zA A80
 clear A80
 have H' := zA H
 clear H
 obtain ⟨p104, q104⟩ := zpq x12_1 l0.length
 obtain ⟨ad104, e104, hx104_0, hx104_1, hx104_2, hx104_3, hx104_4⟩ := zog HR0.out x12_1 (zoe p104) (zoe q104)
 cases e104
 replace hx104_0 := zkep HB.out hx104_0
 replace hx104_1 := zkep HB.out hx104_1
 replace hx104_2 := zkep HB.out hx104_2
 replace hx104_3 := zkep HB.out hx104_3
 replace hx104_4 := zkep HB.out hx104_4
 go_wp2_with (first | ((with_reducible refine zgd 7 ?_); refine zbx #[.string (⟨#[]⟩ : ByteArray), .int .i64 0, .int .i64 0, .int .i64 0, .int .i64 0] 69 ?_; intro gb105 hg w9 hbox hb; have zs := zpair zq2 hb; replace HO_5 := zA (zRb (zq3 HO_5) hb); replace HB := zA (zs.1); have BK105 := zA (hbox); have GW105 := zA (zge hg zs.2); have GE105 := GW105; clear zs hb hbox hg; obtain ⟨hcz10_0, hcz10_1, hcz10_2, hcz10_3, hcz10_4, hfz10_0, hfz10_1, hfz10_2, hfz10_3, hfz10_4⟩ := zd5 BK105; obtain ⟨Ao11, co11, eo11⟩ := Kd.R_slice HO_5.out; subst eo11) | ((with_reducible refine zgc 120 ?_); refine zca 18 Tryz.func120 #[.agg #[.string ((zag l0 x12_1).f0), .int .i64 ((zag l0 x12_1).f1), .int .i64 ((zag l0 x12_1).f2), .int .i64 ((zag l0 x12_1).f3), .int .i64 ((zag l0 x12_1).f4)], .slice Ao11 x5_1.length co11] (zr1 ((zag l0 x12_1).f0) ((zag l0 x12_1).f1) ((zag l0 x12_1).f2) ((zag l0 x12_1).f3) ((zag l0 x12_1).f4) _ _ x5_1 t106 _ (by refine (zRr (e := 3) (base := w.heap.size) (ok := fun k_ => True) (n := x5_1.length) (c := co11) ?_).2.2; exact (zq22 HO_5 BK105)) (by exact (zRr HO_5.out).2.1) A8.out) ?_; rintro e w12 ⟨v107, rfl, ho0, hb⟩; refine ⟨_, rfl, ?_⟩; have HO108 := zA (Kd.R_lower (Kd.R_new' ho0 (Kd.R_lt (zq22 HO_5 BK105))) (zaf (zq1 GE105))); replace HO_5 := zA (Kd.R_elder' (zq22 HO_5 BK105) (Kd.R_base ho0) hb); replace BK105 := zA (zai (g := gb105) (o := .cells #[.string ((zag l0 x12_1).f0), .int .i64 ((zag l0 x12_1).f1), .int .i64 ((zag l0 x12_1).f2), .int .i64 ((zag l0 x12_1).f3), .int .i64 ((zag l0 x12_1).f4)] 69 (0, 0)) (by (with_reducible repeat (first | refine zkn ?_ _ | refine zkd ?_ | refine zka ?_ _)); refine zd9 (cs := #[.string ((zag l0 x12_1).f0), .int .i64 ((zag l0 x12_1).f1), .int .i64 ((zag l0 x12_1).f2), .int .i64 ((zag l0 x12_1).f3), .int .i64 0]) ?_ 4 _ rfl; (with_reducible repeat (first | refine zkn ?_ _ | refine zkd ?_ | refine zka ?_ _)); refine zd9 (cs := #[.string ((zag l0 x12_1).f0), .int .i64 ((zag l0 x12_1).f1), .int .i64 ((zag l0 x12_1).f2), .int .i64 0, .int .i64 0]) ?_ 3 _ rfl; (with_reducible repeat (first | refine zkn ?_ _ | refine zkd ?_ | refine zka ?_ _)); refine zd9 (cs := #[.string ((zag l0 x12_1).f0), .int .i64 ((zag l0 x12_1).f1), .int .i64 0, .int .i64 0, .int .i64 0]) ?_ 2 _ rfl; (with_reducible repeat (first | refine zkn ?_ _ | refine zkd ?_ | refine zka ?_ _)); refine zd9 (cs := #[.string ((zag l0 x12_1).f0), .int .i64 0, .int .i64 0, .int .i64 0, .int .i64 0]) ?_ 1 _ rfl; (with_reducible repeat (first | refine zkn ?_ _ | refine zkd ?_ | refine zka ?_ _)); refine zd9 (cs := #[.string (⟨#[]⟩ : ByteArray), .int .i64 0, .int .i64 0, .int .i64 0, .int .i64 0]) ?_ 0 _ rfl; (with_reducible repeat (first | refine zkn ?_ _ | refine zkd ?_ | refine zka ?_ _)); exact BK105.out) hb); replace HB := zA (zaa (zq1 GE105) hb); (try clear hb); (try clear hk); (try clear ho0)))
 go_roundg k1
 case measure => have := HK1.out; omega
 case rel => exact ⟨(t106), (wrap64 (x12_1 + 1)), zq5, H', ⟨zq31 HK1⟩, ⟨zq35 HO108⟩, ⟨zq1 GE105⟩⟩
end Go.Proofs.YtnaafcleafbejaaGreat.Q
end
