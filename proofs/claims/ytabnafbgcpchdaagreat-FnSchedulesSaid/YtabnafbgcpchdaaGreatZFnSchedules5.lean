/- Proved here: contracts of functions that the law FnSchedules reaches, and lemmas on what they compute; texts of this session and the printed words of the kit that they lean on, cut down and put together by its program link.py. Conditions: as each states. -/
import Derived.Carry
import Derived.Deep.Slices
import Derived.Laws.EntriesVeiled
import Derived.Lib.SliceRun
import Derived.ProofKit
import Derived.WalkSpells
import Derived.Test.YtabnafbgcpchdaaGreatZFnSchedules1
import Derived.Test.YtabnafbgcpchdaaGreatZFnSchedules2
import Derived.Test.YtabnafbgcpchdaaGreatZFnSchedules3
import Derived.Test.YtabnafbgcpchdaaGreatZFnSchedules4
section
namespace Go.Proofs.YtabnafbgcpchdaaGreat.Q
open Go.RowKit Go.Proofs.YtabnafbgcpchdaaGreatW.PrintWords Go.Proofs.YtabnafbgcpchdaaGreatW.PrintLast Go.Proofs.YtabnafbgcpchdaaGreatW.PrintMore
set_option maxHeartbeats 8000000
set_option maxRecDepth 100000
attribute [local go_sem] zk3 zk4 zmp zmq zjg zjh zk5 zk6
set_option linter.unusedVariables false
set_option linter.unusedSimpArgs false
mutual
def zbi : Nat → List Int → List Int → List Int → Int → Int → Option (List Int × Bool)
 | 0, _, _, _, _, _ => none
 | k + 1, x1, x6, x15, x16, x17 => if x17 < x16 then (if 0 ≤ x17 then (if x17 < (x15.length : Int) then (zbv k x1 x6 x17 (rd x15 x17) 0 x15 x16 x17) else (none)) else (none)) else (some (x6, true))
def zbv : Nat → List Int → List Int → Int → Int → Int → List Int → Int → Int → Option (List Int × Bool)
 | 0, _, _, _, _, _, _, _, _ => none
 | k + 1, x1, x6, x7, x8, x9, x15, x16, x17 => if x9 < (x6.length : Int) then (if 0 ≤ x9 then (if 0 ≤ (rd x6 x9) then (if (rd x6 x9) < (x1.length : Int) then (if (rd x1 (rd x6 x9)) ≤ x8 then (zbv k x1 x6 x7 x8 (wrap64 (x9 + 1)) x15 x16 x17) else (if x9 ≤ (x6.length : Int) then ((zlj (x6.take (x9 : Int).toNat)).bind fun t109 => (if t109.length < 17592186044416 then ((some (t109 ++ [x7] : List Int)).bind fun y112 => ((some (x6.drop (x9 : Int).toNat : List Int)).bind fun y115 => (if y112.length + y115.length < 17592186044416 then (zbi k x1 (y112 ++ y115) x15 x16 (wrap64 (x17 + 1))) else (none)))) else (none))) else (none))) else (none)) else (none)) else (none)) else (if 0 ≤ x9 then (if x9 ≤ (x6.length : Int) then ((zlj (x6.take (x9 : Int).toNat)).bind fun t126 => (if t126.length < 17592186044416 then ((some (t126 ++ [x7] : List Int)).bind fun y129 => ((some (x6.drop (x9 : Int).toNat : List Int)).bind fun y132 => (if y129.length + y132.length < 17592186044416 then (zbi k x1 (y129 ++ y132) x15 x16 (wrap64 (x17 + 1))) else (none)))) else (none))) else (none)) else (none))
end
def zdy (k : Nat) (l0 : List (S55)) (l1 : List Int) : Option (List Int × Bool) := (zgg k l0 l1).bind fun t101 => (if t101 = true then (zbi k l1 ([] : List Int) l1 (l1.length : Int) 0) else (some (([] : List Int), false)))
theorem zj5 : ∀ k, (∀ y0 y1 y2 y3 y4, LeO (zbi k y0 y1 y2 y3 y4) (zbi (k + 1) y0 y1 y2 y3 y4)) ∧ (∀ y0 y1 y2 y3 y4 y5 y6 y7, LeO (zbv k y0 y1 y2 y3 y4 y5 y6 y7) (zbv (k + 1) y0 y1 y2 y3 y4 y5 y6 y7))
 | 0 => ⟨fun _ _ _ _ _ r h => by simp [zbi] at h, fun _ _ _ _ _ _ _ _ r h => by simp [zbv] at h⟩
 | k + 1 => by
   obtain ⟨ih0, ih1⟩ := zj5 k
   refine ⟨?_, ?_⟩
   · intro y0 y1 y2 y3 y4
     unfold zbi
     exact zm3 ih0 ih1 zjr
   · intro y0 y1 y2 y3 y4 y5 y6 y7
     unfold zbv
     exact zm3 ih0 ih1 zjr
theorem zui : ∀ a0 a1 k, LeO (zdy k a0 a1) (zdy (k + 1) a0 a1) := by
 intro a0 a1 k
 obtain ⟨ih0, ih1⟩ := zj5 k
 unfold zdy
 exact zm3 ih0 ih1 zjr
theorem zny (k : Nat) (A0 : Option Addr) (c0 : Nat) (l0 : List (S55)) (A1 : Option Addr) (c1 : Nat) (l1 : List Int) (r1 : List Int) (r2 : Bool) (w : World) (hr0 : Kd.C k55 w A0 l0.length l0) (hc0 : l0.length ≤ c0) (hr1 : Kd.C (Kd.int .i64) w A1 l1.length l1) (hc1 : l1.length ≤ c1) (h : zdy k l0 l1 = some (r1, r2)) :
   Calls Tryz.prog 40 #[.slice A0 l0.length c0, .slice A1 l1.length c1] w fun e w' => ∃ v0_ : Value, e = .returned (.tuple #[v0_, .bool r2]) ∧ Kd.R (Kd.int .i64) 3 w' w.heap.size (fun _ => True) v0_ r1 ∧ Below w.heap.size w w' := by
 have HR0 := zA hr0
 have HC0 := zA hc0
 clear hr0 hc0
 have HR1 := zA hr1
 have HC1 := zA hc1
 clear hr1 hc1
 have HB := zA (Below.refl w.heap.size w)
 have H := h
 unfold zdy at H
 clear h
 replace H := zob H
 obtain ⟨t101, A30, H⟩ := H
 have A3 := zA A30
 clear A30
 by_cases c4 : t101 = true
 rotate_left
 · replace c4 := zbf c4
   subst c4
   replace H := zif H
   simp only [Option.some.injEq, Prod.mk.injEq] at H
   obtain ⟨rfl, rfl⟩ := H
   go_enter Tryz.func40, Tryz.ntmps40
   go_wp2_with (first | ((with_reducible refine zgc 89 ?_); refine zca 13 Tryz.func89 #[.slice A0 l0.length c0, .slice A1 l1.length c1] (zjc k _ _ l0 _ _ l1 false _ (zq15 HR0) HC0.out (zq15 HR1) HC1.out A3.out) ?_; rintro e w41 ⟨rfl, hb⟩; refine ⟨_, rfl, ?_⟩; replace HB := zA (zab zq1 hb); (try clear hb)))
   go_ret2
   exact ⟨_, zq5, zq25, zq1⟩
 subst c4
 replace H := zih H
 have H' := zA H
 clear H
 go_enter Tryz.func40, Tryz.ntmps40
 go_wp2_with (first | ((with_reducible refine zgc 89 ?_); refine zca 13 Tryz.func89 #[.slice A0 l0.length c0, .slice A1 l1.length c1] (zjc k _ _ l0 _ _ l1 true _ (zq15 HR0) HC0.out (zq15 HR1) HC1.out A3.out) ?_; rintro e w5 ⟨rfl, hb⟩; refine ⟨_, rfl, ?_⟩; replace HB := zA (zab zq1 hb); (try clear hb)))
 go_loopg [6, 17] k (fun kq v6 v17 w' => ∃ (x6_1 : List Int) (x17_1 : Int), v17 = .int .i64 x17_1 ∧ Aside0 (zbi kq l1 x6_1 l1 (l1.length : Int) x17_1 = some (r1, r2)) ∧ Aside0 (kq ≤ k) ∧ Aside0 (Kd.R (Kd.int .i64) 3 w' w.heap.size (fun _ => True) v6 x6_1) ∧ Aside0 (Below w.heap.size w w'))
 case atStart => exact ⟨(([] : List Int)), (0), zq7, H', ⟨zlr _⟩, ⟨zq25⟩, ⟨zq1⟩⟩
 clear H'
 obtain ⟨x6_1, x17_1, rfl, HA, HK1, HO_6, HB⟩ := hrel
 cases gk with
 | zero => exact absurd HA.out (by simp [zbi])
 | succ k1 =>
 have H := HA.out
 clear HA
 simp only [zbi] at H
 revert H
 refine zit (fun c6 H => ?_) fun c6 H => ?_
 rotate_left
 · simp only [Option.some.injEq, Prod.mk.injEq] at H
   obtain ⟨rfl, rfl⟩ := H
   go_wp2
   go_ret2
   exact ⟨_, zq5, zq2 HO_6, zq1⟩
 revert H
 refine zin fun c7 H => ?_
 revert H
 refine zin fun c8 H => ?_
 have H' := zA H
 clear H
 obtain ⟨p102, q102⟩ := zpq x17_1 l1.length
 obtain ⟨ad102, e102, hx102_0⟩ := Kd.at_int HR1.out x17_1 (zoe p102) (zoe q102)
 cases e102
 replace hx102_0 := zkep HB.out hx102_0
 go_wp2
 go_loopg [9] k1 (fun kq v9 w' => ∃ (x9_2 : Int), v9 = .int .i64 x9_2 ∧ Aside0 (zbv kq l1 x6_1 x17_1 (rd l1 x17_1) x9_2 l1 (l1.length : Int) x17_1 = some (r1, r2)) ∧ Aside0 (kq ≤ k1) ∧ Aside0 (Kd.R (Kd.int .i64) 3 w' w.heap.size (fun _ => True) u6 x6_1) ∧ Aside0 (Below w.heap.size w w'))
 case atStart => exact ⟨(0), zq7, H', ⟨zlr _⟩, ⟨zq2 HO_6⟩, ⟨zq1⟩⟩
 clear H'
 obtain ⟨x9_2, rfl, HA, HK2, HO_6, HB⟩ := hrel
 cases gk with
 | zero => exact absurd HA.out (by simp [zbv])
 | succ k2 =>
 have H := HA.out
 clear HA
 simp only [zbv] at H
 revert H
 refine zit (fun c9 H => ?_) fun c9 H => ?_
 rotate_left
 · by_cases c28 : 0 ≤ x9_2
   rotate_left
   · rw [if_neg c28] at H
     exact absurd H (by simp)
   rw [if_pos c28] at H
   have c28b0 := eq_true c28
   have c28b1 := zdt c28
   clear c28
   by_cases c29 : x9_2 ≤ (x6_1.length : Int)
   rotate_left
   · rw [if_neg c29] at H
     exact absurd H (by simp)
   rw [if_pos c29] at H
   have c29b0 := eq_true c29
   have c29b1 := zdt c29
   clear c29
   obtain ⟨y122, hy122⟩ : ∃ y_ : List Int, y_ = (x6_1.take (x9_2 : Int).toNat) := ⟨_, rfl⟩
   rw [← hy122] at H; try with_reducible replace H := zbs H
   have Ny122 := zA hy122
   clear hy122
   replace H := zob H
   obtain ⟨t126, A300, H⟩ := H
   have A30 := zA A300
   clear A300
   by_cases c31 : t126.length < 17592186044416
   rotate_left
   · rw [if_neg c31] at H
     exact absurd H (by simp)
   rw [if_pos c31] at H
   have LMc31 := zA c31
   clear c31
   obtain ⟨y129, hy129⟩ : ∃ y_ : List Int, y_ = (t126 ++ [x17_1]) := ⟨_, rfl⟩
   rw [← hy129] at H; try with_reducible replace H := zbs H
   have Ny129 := zA hy129
   clear hy129
   have c32b0 := eq_true (zde zq20 : 0 ≤ x9_2)
   have c33b0 := eq_true (zde zq20 : x9_2 ≤ (x6_1.length : Int))
   obtain ⟨y132, hy132⟩ : ∃ y_ : List Int, y_ = (x6_1.drop (x9_2 : Int).toNat) := ⟨_, rfl⟩
   rw [← hy132] at H; try with_reducible replace H := zbs H
   have Ny132 := zA hy132
   clear hy132
   by_cases c34 : y129.length + y132.length < 17592186044416
   rotate_left
   · rw [if_neg c34] at H
     exact absurd H (by simp)
   rw [if_pos c34] at H
   have LMc34 := zA c34
   clear c34
   obtain ⟨y136, hy136⟩ : ∃ y_ : List Int, y_ = (y129 ++ y132) := ⟨_, rfl⟩
   rw [← hy136] at H; try with_reducible replace H := zbs H
   have Ny136 := zA hy136
   clear hy136
   have H' := zA H
   clear H
   obtain ⟨Ao35, co35, eo35⟩ := Kd.R_slice HO_6.out
   subst eo35
   have q36 : (x9_2 : Int) ≤ ((x6_1.length : Int) : Int) := zde zq20
   obtain ⟨i036, hi036, _, hsz36, _⟩ := info_parts zja
   have hroom36 : x6_1.length ≤ co35 := (zRr HO_6.out).2.1
   have hC36 : Kd.C (Kd.int .i64) _ Ao35 x6_1.length x6_1 := (zRr HO_6.out).2.2
   have hcut36 := zxd (P := Tryz.prog) 25 3 .i64 Tryz.underlying25 hi036 Ao35 x6_1.length co35 x9_2 (zde zq20) q36 hroom36
   have hr36 := Kd.C_take (m := (x9_2 : Int).toNat) hC36 (by omega)
   have hy36 : y122.length = (x9_2 : Int).toNat := (by rw [Ny122.out, List.length_take]; omega)
   rw [← Ny122.out] at hr36
   rw [← hy36] at hcut36
   have HR125 := zA hr36
   have HC125 := zA (show y122.length ≤ co35 from by omega)
   clear hr36 hC36 hroom36 hi036 hsz36
   have KY36 := zA hy36
   clear hy36
   have KL36 := zA (show (x9_2 : Int).toNat ≤ x6_1.length from by omega)
   replace q36 := eq_true q36
   go_wp2_with (first | ((with_reducible refine zgc 90 ?_); refine zca 42 Tryz.func90 #[.slice Ao35 y122.length co35] (zpd _ _ y122 t126 _ (by repeat (first | exact (zq18 HR125) | (with_reducible first | refine zCa ?_ _ | refine zCn ?_ _ | refine zCd ?_))) HC125.out A30.out) ?_; rintro e w37 ⟨v127, rfl, ho0, hb⟩; refine ⟨_, rfl, ?_⟩; have HO128 := zA (Kd.R_lower (Kd.R_new' ho0 (Kd.R_lt (zq2 HO_6))) (zaj zq1)); replace HO_6 := zA (Kd.R_elder' (zq2 HO_6) (Kd.R_base ho0) hb); replace HR125 := zA (zCb (zq18 HR125) hb); replace HB := zA (zab zq1 hb); (try clear hb); (try clear ho0)) | ((with_reducible refine zci (b := .append) (xs := #[.tmp 42, .tmp 44]) rfl ?_); at_builtin; refine Kd.R_append (Kd.int .i64) (w0 := w) w.heap.size rfl (.tmp 42) (.tmp 44) 25 3 (.int .i64 0) 8 rfl Tryz.underlying25 zja rfl (by decide) (by omega) v127 t126 x17_1 [.int .i64 x17_1] (fun k_ => some k_ ≠ (.slice Ao35 x6_1.length co35 : Value).ownBlock) (fun _ => False) rfl rfl ?aP (fun _ hk => hk.elim) ?aF ?aO ?aB ?aS ?aL ?_; (case aP => exact rfl); (case aB => exact zq1); (case aF => exact (fun k_ hk => Kd.fresh' (Kd.R_lt (zq2 HO_6)) k_ hk)); (case aO => exact (zq50 HO128)); (case aS => exact (zaj zq1)); (case aL => have := LMc31.out; omega); intro v130 w38 ho hb hg hat; rw [← Ny129.out] at ho; replace HB := zA (hb); replace HR125 := zA ((show Kd.C (Kd.int .i64) w38 Ao35 y122.length y122 from by rw [Ny122.out]; exact Kd.C_take (m := (x9_2 : Int).toNat) ((zRr (Kd.R_after (ok := (fun _ => True)) (zq2 HO_6) hg hat)).2.2) KL36.out)); replace HO_6 := zA (Kd.R_after (ok := (fun _ => True)) (zq2 HO_6) hg hat); have HO131 := zA (ho); clear HO128; clear ho hb hg hat; have q39 : (x9_2 : Int) ≤ ((x6_1.length : Int) : Int) := zde zq20; obtain ⟨i039, hi039, _, hsz39, _⟩ := info_parts zja; have hroom39 : x6_1.length ≤ co35 := (zRr HO_6.out).2.1; have hC39 : Kd.C (Kd.int .i64) _ Ao35 x6_1.length x6_1 := (zRr HO_6.out).2.2; have q039 : (0 : Int) ≤ (x9_2 : Int) := zde zq20; have hcut39 := ztl (P := Tryz.prog) 25 3 .i64 Tryz.underlying25 hi039 1 hsz39 Ao35 x6_1.length co35 x9_2 q039 q39; have hr39 := Kd.C_drop (m := (x9_2 : Int).toNat) (c := co35) hC39 (by omega) hroom39; obtain ⟨A39, hA39⟩ : ∃ A1, A1 = (if co35 = (x9_2 : Int).toNat then Ao35 else (Ao35 : Option Addr).map (·.add ((x9_2 : Int).toNat * 1))) := ⟨_, rfl⟩; obtain ⟨c39, hc39⟩ : ∃ c1, c1 = co35 - (x9_2 : Int).toNat := ⟨_, rfl⟩; have hy39 : y132.length = x6_1.length - (x9_2 : Int).toNat := (by rw [Ny132.out, List.length_drop] <;> omega); rw [show (x6_1).drop (x9_2 : Int).toNat = y132 from Ny132.out.symm] at hr39; replace hr39 : Kd.C (Kd.int .i64) _ A39 y132.length y132 := (by rw [hA39]; exact hr39); rw [← hy39, ← hA39, ← hc39] at hcut39; have HR135 := zA hr39; have HC135 := zA (show y132.length ≤ c39 from by rw [hy39, hc39]; exact Nat.sub_le_sub_right hroom39 _); clear hr39 hC39 hroom39 hi039 hsz39 hc39; have KY39 := zA hy39; have KA39 := zA hA39; clear hy39 hA39; have KL39 := zA (show (x9_2 : Int).toNat ≤ x6_1.length from by omega); replace q39 := eq_true q39) | ((with_reducible refine zci (b := .append) (xs := #[.tmp 46, .tmp 49]) rfl ?_); at_builtin; refine Kd.R_append_rows (Kd.int .i64) (w0 := w) w.heap.size rfl (.tmp 46) (.tmp 49) 25 3 (.int .i64 0) 8 rfl Tryz.underlying25 zja rfl (by decide) (by omega) v130 y129 y132 _ _ _ (fun k_ => some k_ ≠ (.slice Ao35 x6_1.length co35 : Value).ownBlock) (fun _ => False) rfl rfl ?aO ?aR (fun _ _ h => h) (fun _ h => h.elim) ?aF ?aB ?aS ?aL ?_; (case aR => repeat (first | exact (zq18 HR135) | (with_reducible first | refine zCa ?_ _ | refine zCn ?_ _ | refine zCd ?_))); (case aB => exact zq1); (case aF => exact (fun k_ hk => Kd.fresh' (Kd.R_lt (zq2 HO_6)) k_ hk)); (case aO => exact (zq2 HO131)); (case aS => exact (zaj zq1)); (case aL => have := LMc34.out; omega); intro v137 w40 ho hb hg hat; rw [← Ny136.out] at ho; replace HB := zA (hb); replace HR125 := zA ((show Kd.C (Kd.int .i64) w40 Ao35 y122.length y122 from by rw [Ny122.out]; exact Kd.C_take (m := (x9_2 : Int).toNat) ((zRr (Kd.R_after (ok := (fun _ => True)) (zq2 HO_6) hg hat)).2.2) KL36.out)); replace HR135 := zA ((show Kd.C (Kd.int .i64) w40 A39 y132.length y132 from by rw [Ny132.out, KA39.out]; exact Kd.C_drop (m := (x9_2 : Int).toNat) (c := co35) ((zRr (Kd.R_after (ok := (fun _ => True)) (zq2 HO_6) hg hat)).2.2) KL39.out ((zRr (Kd.R_after (ok := (fun _ => True)) (zq2 HO_6) hg hat)).2.1))); replace HO_6 := zA (Kd.R_after (ok := (fun _ => True)) (zq2 HO_6) hg hat); have HO138 := zA (ho); clear HO131; clear ho hb hg hat))
   go_roundg k2
   case measure => have := HK1.out; have := HK2.out; omega
   case rel => exact ⟨(y136), (wrap64 (x17_1 + 1)), zq7, H', ⟨zq41 HK1 HK2⟩, ⟨zq38 HO138⟩, ⟨zq1⟩⟩
 revert H
 refine zin fun c10 H => ?_
 revert H
 refine zin fun c11 H => ?_
 revert H
 refine zin fun c12 H => ?_
 revert H
 refine zit (fun c13b0 H => ?_) fun c13b0 H => ?_
 · have H' := zA H
   clear H
   obtain ⟨Ao14, co14, eo14⟩ := Kd.R_slice HO_6.out
   subst eo14
   obtain ⟨p103, q103⟩ := zpq x9_2 x6_1.length
   obtain ⟨ad103, e103, hx103_0⟩ := Kd.at_int (zRr HO_6.out).2.2 x9_2 (zoe p103) (zoe q103)
   cases e103
   have p104 : 0 ≤ ((rd x6_1 x9_2) : Int) := zde zq20
   have q104 : (rd x6_1 x9_2) < (l1.length : Int) := zde zq20
   obtain ⟨ad104, e104, hx104_0⟩ := Kd.at_int HR1.out (rd x6_1 x9_2) p104 q104
   obtain rfl : ad102 = ad104 := (by injection e104)
   replace hx104_0 := zkep HB.out hx104_0
   replace p104 := eq_true p104
   replace q104 := eq_true q104
   go_wp2
   go_roundg k2
   case measure => have := HK1.out; have := HK2.out; omega
   case rel => exact ⟨(wrap64 (x9_2 + 1)), zq7, H', ⟨zq41 HK1 HK2⟩, ⟨zq2 HO_6⟩, ⟨zq1⟩⟩
 have c15b0 := eq_true (zde zq20 : 0 ≤ x9_2)
 by_cases c16 : x9_2 ≤ (x6_1.length : Int)
 rotate_left
 · rw [if_neg c16] at H
   exact absurd H (by simp)
 rw [if_pos c16] at H
 have c16b0 := eq_true c16
 have c16b1 := zdt c16
 clear c16
 obtain ⟨y105, hy105⟩ : ∃ y_ : List Int, y_ = (x6_1.take (x9_2 : Int).toNat) := ⟨_, rfl⟩
 rw [← hy105] at H; try with_reducible replace H := zbs H
 have Ny105 := zA hy105
 clear hy105
 replace H := zob H
 obtain ⟨t109, A170, H⟩ := H
 have A17 := zA A170
 clear A170
 by_cases c18 : t109.length < 17592186044416
 rotate_left
 · rw [if_neg c18] at H
   exact absurd H (by simp)
 rw [if_pos c18] at H
 have LMc18 := zA c18
 clear c18
 obtain ⟨y112, hy112⟩ : ∃ y_ : List Int, y_ = (t109 ++ [x17_1]) := ⟨_, rfl⟩
 rw [← hy112] at H; try with_reducible replace H := zbs H
 have Ny112 := zA hy112
 clear hy112
 have c19b0 := eq_true (zde zq20 : 0 ≤ x9_2)
 have c20b0 := eq_true (zde zq20 : x9_2 ≤ (x6_1.length : Int))
 obtain ⟨y115, hy115⟩ : ∃ y_ : List Int, y_ = (x6_1.drop (x9_2 : Int).toNat) := ⟨_, rfl⟩
 rw [← hy115] at H; try with_reducible replace H := zbs H
 have Ny115 := zA hy115
 clear hy115
 by_cases c21 : y112.length + y115.length < 17592186044416
 rotate_left
 · rw [if_neg c21] at H
   exact absurd H (by simp)
 rw [if_pos c21] at H
 have LMc21 := zA c21
 clear c21
 obtain ⟨y119, hy119⟩ : ∃ y_ : List Int, y_ = (y112 ++ y115) := ⟨_, rfl⟩
 rw [← hy119] at H; try with_reducible replace H := zbs H
 have Ny119 := zA hy119
 clear hy119
 have H' := zA H
 clear H
 obtain ⟨Ao22, co22, eo22⟩ := Kd.R_slice HO_6.out
 subst eo22
 obtain ⟨p103, q103⟩ := zpq x9_2 x6_1.length
 obtain ⟨ad103, e103, hx103_0⟩ := Kd.at_int (zRr HO_6.out).2.2 x9_2 (zoe p103) (zoe q103)
 cases e103
 have p104 : 0 ≤ ((rd x6_1 x9_2) : Int) := zde zq20
 have q104 : (rd x6_1 x9_2) < (l1.length : Int) := zde zq20
 obtain ⟨ad104, e104, hx104_0⟩ := Kd.at_int HR1.out (rd x6_1 x9_2) p104 q104
 obtain rfl : ad102 = ad104 := (by injection e104)
 replace hx104_0 := zkep HB.out hx104_0
 replace p104 := eq_true p104
 replace q104 := eq_true q104
 have q23 : (x9_2 : Int) ≤ ((x6_1.length : Int) : Int) := zde zq20
 obtain ⟨i023, hi023, _, hsz23, _⟩ := info_parts zja
 have hroom23 : x6_1.length ≤ co22 := (zRr HO_6.out).2.1
 have hC23 : Kd.C (Kd.int .i64) _ (some ad103) x6_1.length x6_1 := (zRr HO_6.out).2.2
 have hcut23 := zxd (P := Tryz.prog) 25 3 .i64 Tryz.underlying25 hi023 (some ad103) x6_1.length co22 x9_2 (zde zq20) q23 hroom23
 have hr23 := Kd.C_take (m := (x9_2 : Int).toNat) hC23 (by omega)
 have hy23 : y105.length = (x9_2 : Int).toNat := (by rw [Ny105.out, List.length_take]; omega)
 rw [← Ny105.out] at hr23
 rw [← hy23] at hcut23
 have HR108 := zA hr23
 have HC108 := zA (show y105.length ≤ co22 from by omega)
 clear hr23 hC23 hroom23 hi023 hsz23
 have KY23 := zA hy23
 clear hy23
 have KL23 := zA (show (x9_2 : Int).toNat ≤ x6_1.length from by omega)
 replace q23 := eq_true q23
 go_wp2_with (first | ((with_reducible refine zgc 90 ?_); refine zca 42 Tryz.func90 #[.slice (some ad103) y105.length co22] (zpd _ _ y105 t109 _ (by repeat (first | exact (zq18 HR108) | (with_reducible first | refine zCa ?_ _ | refine zCn ?_ _ | refine zCd ?_))) HC108.out A17.out) ?_; rintro e w24 ⟨v110, rfl, ho0, hb⟩; refine ⟨_, rfl, ?_⟩; have HO111 := zA (Kd.R_lower (Kd.R_new' ho0 (Kd.R_lt (zq2 HO_6))) (zaj zq1)); replace HO_6 := zA (Kd.R_elder' (zq2 HO_6) (Kd.R_base ho0) hb); replace HR108 := zA (zCb (zq18 HR108) hb); replace HB := zA (zab zq1 hb); (try clear hb); (try clear ho0)) | ((with_reducible refine zci (b := .append) (xs := #[.tmp 42, .tmp 44]) rfl ?_); at_builtin; refine Kd.R_append (Kd.int .i64) (w0 := w) w.heap.size rfl (.tmp 42) (.tmp 44) 25 3 (.int .i64 0) 8 rfl Tryz.underlying25 zja rfl (by decide) (by omega) v110 t109 x17_1 [.int .i64 x17_1] (fun k_ => some k_ ≠ (.slice (some ad103) x6_1.length co22 : Value).ownBlock) (fun _ => False) rfl rfl ?aP (fun _ hk => hk.elim) ?aF ?aO ?aB ?aS ?aL ?_; (case aP => exact rfl); (case aB => exact zq1); (case aF => exact (fun k_ hk => Kd.fresh' (Kd.R_lt (zq2 HO_6)) k_ hk)); (case aO => exact (zq50 HO111)); (case aS => exact (zaj zq1)); (case aL => have := LMc18.out; omega); intro v113 w25 ho hb hg hat; rw [← Ny112.out] at ho; replace HB := zA (hb); replace HR108 := zA ((show Kd.C (Kd.int .i64) w25 (some ad103) y105.length y105 from by rw [Ny105.out]; exact Kd.C_take (m := (x9_2 : Int).toNat) ((zRr (Kd.R_after (ok := (fun _ => True)) (zq2 HO_6) hg hat)).2.2) KL23.out)); replace HO_6 := zA (Kd.R_after (ok := (fun _ => True)) (zq2 HO_6) hg hat); have HO114 := zA (ho); clear HO111; clear ho hb hg hat; have q26 : (x9_2 : Int) ≤ ((x6_1.length : Int) : Int) := zde zq20; obtain ⟨i026, hi026, _, hsz26, _⟩ := info_parts zja; have hroom26 : x6_1.length ≤ co22 := (zRr HO_6.out).2.1; have hC26 : Kd.C (Kd.int .i64) _ (some ad103) x6_1.length x6_1 := (zRr HO_6.out).2.2; have q026 : (0 : Int) ≤ (x9_2 : Int) := zde zq20; have hcut26 := ztl (P := Tryz.prog) 25 3 .i64 Tryz.underlying25 hi026 1 hsz26 (some ad103) x6_1.length co22 x9_2 q026 q26; have hr26 := Kd.C_drop (m := (x9_2 : Int).toNat) (c := co22) hC26 (by omega) hroom26; obtain ⟨A26, hA26⟩ : ∃ A1, A1 = (if co22 = (x9_2 : Int).toNat then (some ad103) else ((some ad103) : Option Addr).map (·.add ((x9_2 : Int).toNat * 1))) := ⟨_, rfl⟩; obtain ⟨c26, hc26⟩ : ∃ c1, c1 = co22 - (x9_2 : Int).toNat := ⟨_, rfl⟩; have hy26 : y115.length = x6_1.length - (x9_2 : Int).toNat := (by rw [Ny115.out, List.length_drop] <;> omega); rw [show (x6_1).drop (x9_2 : Int).toNat = y115 from Ny115.out.symm] at hr26; replace hr26 : Kd.C (Kd.int .i64) _ A26 y115.length y115 := (by rw [hA26]; exact hr26); rw [← hy26, ← hA26, ← hc26] at hcut26; have HR118 := zA hr26; have HC118 := zA (show y115.length ≤ c26 from by rw [hy26, hc26]; exact Nat.sub_le_sub_right hroom26 _); clear hr26 hC26 hroom26 hi026 hsz26 hc26; have KY26 := zA hy26; have KA26 := zA hA26; clear hy26 hA26; have KL26 := zA (show (x9_2 : Int).toNat ≤ x6_1.length from by omega); replace q26 := eq_true q26) | ((with_reducible refine zci (b := .append) (xs := #[.tmp 46, .tmp 49]) rfl ?_); at_builtin; refine Kd.R_append_rows (Kd.int .i64) (w0 := w) w.heap.size rfl (.tmp 46) (.tmp 49) 25 3 (.int .i64 0) 8 rfl Tryz.underlying25 zja rfl (by decide) (by omega) v113 y112 y115 _ _ _ (fun k_ => some k_ ≠ (.slice (some ad103) x6_1.length co22 : Value).ownBlock) (fun _ => False) rfl rfl ?aO ?aR (fun _ _ h => h) (fun _ h => h.elim) ?aF ?aB ?aS ?aL ?_; (case aR => repeat (first | exact (zq18 HR118) | (with_reducible first | refine zCa ?_ _ | refine zCn ?_ _ | refine zCd ?_))); (case aB => exact zq1); (case aF => exact (fun k_ hk => Kd.fresh' (Kd.R_lt (zq2 HO_6)) k_ hk)); (case aO => exact (zq2 HO114)); (case aS => exact (zaj zq1)); (case aL => have := LMc21.out; omega); intro v120 w27 ho hb hg hat; rw [← Ny119.out] at ho; replace HB := zA (hb); replace HR108 := zA ((show Kd.C (Kd.int .i64) w27 (some ad103) y105.length y105 from by rw [Ny105.out]; exact Kd.C_take (m := (x9_2 : Int).toNat) ((zRr (Kd.R_after (ok := (fun _ => True)) (zq2 HO_6) hg hat)).2.2) KL23.out)); replace HR118 := zA ((show Kd.C (Kd.int .i64) w27 A26 y115.length y115 from by rw [Ny115.out, KA26.out]; exact Kd.C_drop (m := (x9_2 : Int).toNat) (c := co22) ((zRr (Kd.R_after (ok := (fun _ => True)) (zq2 HO_6) hg hat)).2.2) KL26.out ((zRr (Kd.R_after (ok := (fun _ => True)) (zq2 HO_6) hg hat)).2.1))); replace HO_6 := zA (Kd.R_after (ok := (fun _ => True)) (zq2 HO_6) hg hat); have HO121 := zA (ho); clear HO114; clear ho hb hg hat))
 go_roundg k2
 case measure => have := HK1.out; have := HK2.out; omega
 case rel => exact ⟨(y119), (wrap64 (x17_1 + 1)), zq7, H', ⟨zq41 HK1 HK2⟩, ⟨zq38 HO121⟩, ⟨zq1⟩⟩
def zku (a0 : Int) (a1 : Int) : Option (Int) := if a0 < a1 then (some a0) else (some a1)
theorem zru (a0 : Int) (a1 : Int) (r : Int) (w : World) (h : zku a0 a1 = some r) :
   Calls Tryz.prog 101 #[.int .i64 a0, .int .i64 a1] w fun e w' => e = .returned (.int .i64 r) ∧ Drawn0 w w' := by
 have H := h
 unfold zku at H
 clear h
 revert H
 refine zit (fun c3b0 H => ?_) fun c3b0 H => ?_
 · obtain rfl := zsi H
   go_enter Tryz.func101, Tryz.ntmps101
   exact zr_5
 · obtain rfl := zsi H
   go_enter Tryz.func101, Tryz.ntmps101
   exact zr_5
mutual
def zcy : Nat → List (List Int) → List Int → Int → Int → Option (List Int)
 | 0, _, _, _, _ => none
 | k + 1, x3, x4, x13, x14 => if x14 < x13 then (zcz k x3 x4 x14 0 x13 x14) else (some x4)
def zcz : Nat → List (List Int) → List Int → Int → Int → Int → Int → Option (List Int)
 | 0, _, _, _, _, _, _ => none
 | k + 1, x3, x4, x5, x6, x13, x14 => if x6 < x5 then (if 0 ≤ x6 then (if x6 < (x3.length : Int) then (if 0 ≤ x5 then (if x5 < ((za5 x3 x6).length : Int) then (if (rd (za5 x3 x6) x5) ≥ 0 then (if x5 < (x4.length : Int) then (if x6 < (x4.length : Int) then ((zfg (rd x4 x5) (wrap64 ((rd x4 x6) + (rd (za5 x3 x6) x5)))).bind fun t113 => (zcz k x3 (x4.set (x5 : Int).toNat t113) x5 (wrap64 (x6 + 1)) x13 x14)) else (none)) else (none)) else (zcz k x3 x4 x5 (wrap64 (x6 + 1)) x13 x14)) else (none)) else (none)) else (none)) else (none)) else (zcy k x3 x4 x13 (wrap64 (x14 + 1)))
end
def zf1 (k : Nat) (l0 : List (S55)) : Option (List Int) := (zfq k l0).bind fun t101 => (if 0 ≤ (l0.length : Int) then (if ((l0.length : Int) : Int).toNat ≤ 35184372088832 then (zcy k t101 (List.replicate ((l0.length : Int) : Int).toNat 0) (l0.length : Int) 0) else (none)) else (none))
theorem zl5 : ∀ k, (∀ y0 y1 y2 y3, LeO (zcy k y0 y1 y2 y3) (zcy (k + 1) y0 y1 y2 y3)) ∧ (∀ y0 y1 y2 y3 y4 y5, LeO (zcz k y0 y1 y2 y3 y4 y5) (zcz (k + 1) y0 y1 y2 y3 y4 y5))
 | 0 => ⟨fun _ _ _ _ r h => by simp [zcy] at h, fun _ _ _ _ _ _ r h => by simp [zcz] at h⟩
 | k + 1 => by
   obtain ⟨ih0, ih1⟩ := zl5 k
   refine ⟨?_, ?_⟩
   · intro y0 y1 y2 y3
     unfold zcy
     exact zm3 ih0 ih1 zcn
   · intro y0 y1 y2 y3 y4 y5
     unfold zcz
     exact zm3 ih0 ih1 zcn
theorem zkk : ∀ a0 k, LeO (zf1 k a0) (zf1 (k + 1) a0) := by
 intro a0 k
 obtain ⟨ih0, ih1⟩ := zl5 k
 unfold zf1
 exact zm3 ih0 ih1 zcn
def spec_orEarliest.T10 : Bool × List (List Nat × List Nat) := (true, [([], []), ([], []), ([], []), ([], []), ([2, 3], [2, 3]), ([4], [4]), ([], []), ([], []), ([6, 7], [6, 7]), ([8], [8]), ([], []), ([], []), ([10, 11], [10, 11]), ([12], [12]), ([], []), ([13, 14], [13, 14]), ([15], [15]), ([9, 16], [9, 16]), ([5, 17], [5, 17]), ([0, 1, 0, 1, 2, 3, 4, 5, 6, 7, 8, 9, 10, 11, 12, 13, 14, 15, 16, 17, 18], [0, 1]), ([19, 18, 18, 0, 1, 2, 3, 4, 5, 6, 7, 8, 9, 10, 11, 12, 13, 14, 15, 16, 17, 18], [18, 19])])
def zqt : List Nat := [0, 0, 0, 0, 12, 28, 0, 0, 192, 448, 0, 0, 3072, 7168, 0, 31744, 64512, 131008, 262140, 524287, 1048575]
theorem zpt : rtab .any (zun Tryz.f102 10) = spec_orEarliest.T10 := by kernel_rfl
theorem zpg : zlc spec_orEarliest.T10.2 zqt = true := by kernel_rfl
theorem zpv (k : Nat) (A0 : Option Addr) (c0 : Nat) (l0 : List (S55)) (r : List Int) (w : World) (hr0 : Kd.C k55 w A0 l0.length l0) (hc0 : l0.length ≤ c0) (h : zf1 k l0 = some r) :
   Calls Tryz.prog 102 #[.slice A0 l0.length c0] w fun e w' => ∃ v0_ : Value, e = .returned (v0_) ∧ Kd.R (Kd.int .i64) 3 w' w.heap.size (fun _ => True) v0_ r ∧ Below w.heap.size w w' := by
 have HR0 := zA hr0
 have HC0 := zA hc0
 clear hr0 hc0
 have HB := zA (Below.refl w.heap.size w)
 have H := h
 unfold zf1 at H
 clear h
 replace H := zob H
 obtain ⟨t101, A20, H⟩ := H
 have A2 := zA A20
 clear A20
 by_cases c3 : 0 ≤ (l0.length : Int)
 rotate_left
 · rw [if_neg c3] at H
   exact absurd H (by simp)
 rw [if_pos c3] at H
 have c3b0 := eq_true c3
 have c3b1 := zdt c3
 clear c3
 by_cases c4 : ((l0.length : Int) : Int).toNat ≤ 35184372088832
 rotate_left
 · rw [if_neg c4] at H
   exact absurd H (by simp)
 rw [if_pos c4] at H
 have c4b0 := eq_true c4
 have c4b1 := zdt c4
 clear c4
 obtain ⟨y104, hy104⟩ : ∃ y_ : List Int, y_ = (List.replicate ((l0.length : Int) : Int).toNat 0) := ⟨_, rfl⟩
 rw [← hy104] at H; try with_reducible replace H := zbs H
 have Ny104 := zA hy104
 clear hy104
 have H' := zA H
 clear H
 go_enter Tryz.func102, Tryz.ntmps102
 go_wp2_with (first | ((with_reducible refine zgc 62 ?_); refine zca 8 Tryz.func62 #[.slice A0 l0.length c0] (zgz k _ _ l0 t101 _ (zq15 HR0) HC0.out A2.out) ?_; rintro e w5 ⟨v102, rfl, ho0, hb⟩; refine ⟨_, rfl, ?_⟩; have HO103 := zA (Kd.S_lower ho0 (zaj zq1)); replace HB := zA (zab zq1 hb); (try clear hb); (try clear ho0)) | ((with_reducible refine zgd 11 ?_); refine Kd.R_make (Kd.int .i64) _ 3 rfl (N := 11) rfl 25 _ _ rfl (l0.length : Int) rfl rfl Tryz.underlying25 (.int .i64 0) 8 zja rfl (by decide) (by omega) 0 (ok := fun _ => True) (okp := fun _ => True) rfl (fun _ hk => hk) trivial (zde zq20) (Nat.le_trans (Nat.mul_le_mul_right _ (zde zq20 : (l0.length : Int).toNat ≤ 35184372088832)) (by omega)) (Below.refl _ _) (zlr _) ?_; intro v105 w6 ho7 hb hg_ hnew_; clear hg_ hnew_; (first | rw [← Ny104.out] at ho7 | (simp only [Int.reduceToNat] at ho7; rw [← Ny104.out] at ho7)); replace HO103 := zA (Kd.S_elder' (zq17 HO103) (Kd.R_base ho7) hb); have HO106 := zA (Kd.R_lower ho7 (zaj zq1)); replace HB := zA (zab zq1 hb); clear hb ho7))
 go_loopg [14] k (fun kq v14 w' => ∃ (x4_1 : List Int) (x14_1 : Int), v14 = .int .i64 x14_1 ∧ Aside0 (zcy kq t101 x4_1 (l0.length : Int) x14_1 = some r) ∧ Aside0 (kq ≤ k) ∧ Aside0 (Kd.S (Kd.slice 3 (Kd.int .i64)) 25 w' w.heap.size (fun k_ => some k_ ≠ (v105 : Value).ownBlock) v102 t101) ∧ Aside0 (Kd.R (Kd.int .i64) 3 w' w.heap.size (fun _ => True) v105 x4_1) ∧ Aside0 (Below w.heap.size w w'))
 case atStart => exact ⟨(y104), (0), zq7, H', ⟨zlr _⟩, ⟨zq39 HO103⟩, ⟨zq2 HO106⟩, ⟨zq1⟩⟩
 clear H'
 obtain ⟨x4_1, x14_1, rfl, HA, HK1, HO_3, HO_4, HB⟩ := hrel
 cases gk with
 | zero => exact absurd HA.out (by simp [zcy])
 | succ k1 =>
 have H := HA.out
 clear HA
 simp only [zcy] at H
 revert H
 refine zit (fun c8 H => ?_) fun c8 H => ?_
 rotate_left
 · obtain rfl := zsi H
   go_wp2
   go_ret
   exact ⟨_, zq5, zq2 HO_4, zq1⟩
 have H' := zA H
 clear H
 go_wp2
 go_loopg [6] k1 (fun kq v6 w' => ∃ (x4_2 : List Int) (x6_2 : Int), v6 = .int .i64 x6_2 ∧ Aside0 (zcz kq t101 x4_2 x14_1 x6_2 (l0.length : Int) x14_1 = some r) ∧ Aside0 (kq ≤ k1) ∧ Aside0 (Kd.S (Kd.slice 3 (Kd.int .i64)) 25 w' w.heap.size (fun k_ => some k_ ≠ (v105 : Value).ownBlock) v102 t101) ∧ Aside0 (Kd.R (Kd.int .i64) 3 w' w.heap.size (fun _ => True) v105 x4_2) ∧ Aside0 (Below w.heap.size w w'))
 case atStart => exact ⟨(x4_1), (0), zq7, H', ⟨zlr _⟩, ⟨zq17 HO_3⟩, ⟨zq2 HO_4⟩, ⟨zq1⟩⟩
 clear H'
 obtain ⟨x4_2, x6_2, rfl, HA, HK2, HO_3, HO_4, HB⟩ := hrel
 cases gk with
 | zero => exact absurd HA.out (by simp [zcz])
 | succ k2 =>
 have H := HA.out
 clear HA
 simp only [zcz] at H
 revert H
 refine zit (fun c9 H => ?_) fun c9 H => ?_
 rotate_left
 · have H' := zA H
   clear H
   go_wp2
   go_roundg k2
   case measure => have := HK1.out; have := HK2.out; omega
   case rel => exact ⟨(x4_2), (wrap64 (x14_1 + 1)), zq7, H', ⟨zq41 HK1 HK2⟩, ⟨zq17 HO_3⟩, ⟨zq2 HO_4⟩, ⟨zq1⟩⟩
 revert H
 refine zin fun c10 H => ?_
 revert H
 refine zin fun c11 H => ?_
 revert H
 refine zin fun c12 H => ?_
 revert H
 refine zin fun c13 H => ?_
 by_cases c14 : (rd (za5 t101 x6_2) x14_1) ≥ 0
 rotate_left
 · rw [if_neg c14] at H
   have c14b0 := zdf c14
   clear c14
   have H' := zA H
   clear H
   obtain ⟨Ao23, co23, eo23⟩ := Kd.S_slice HO_3.out
   subst eo23
   have p107 : 0 ≤ (x6_2 : Int) := zde zq20
   have q107 : x6_2 < (t101.length : Int) := zde zq20
   obtain ⟨ad107, A107_0, c107_0, e107, hx107_0, hl107_0, hi107_0⟩ := zln (zSr HO_3.out).2.2 x6_2 p107 q107
   cases e107
   obtain ⟨ce107, hce107, hMe107, hcc107⟩ := Kd.S_get HO_3.out [] x6_2 p107 (by first | exact q107 | exact zde zq20 | (have e_ := (zSr HO_3.out).1; omega))
   obtain ⟨ve107_0, rfl, ge107_0⟩ := hMe107
   have hv107_0 := hcc107 0 _ rfl
   rw [Nat.add_zero, show ((Kd.slice 3 (Kd.int .i64))).sz = 1 from rfl, Nat.mul_one] at hv107_0
   replace hv107_0 := zsi (hv107_0.symm.trans hx107_0)
   rw [hv107_0] at ge107_0
   have HL107_0 := zA (show Kd.R (Kd.int .i64) 3 _ _ _ _ (za5 t101 x6_2) from ge107_0)
   clear hv107_0 ge107_0
   clear hcc107 hce107
   have HR107_0 := zA hi107_0
   have HC107_0 := zA hl107_0
   clear hi107_0 hl107_0
   replace p107 := eq_true p107
   replace q107 := eq_true q107
   have p108 : 0 ≤ (x14_1 : Int) := zde zq20
   have q108 : x14_1 < ((za5 t101 x6_2).length : Int) := zde zq20
   obtain ⟨ad108, e108, hx108_0⟩ := Kd.at_int (zq18 HR107_0) x14_1 p108 q108
   cases e108
   replace p108 := eq_true p108
   replace q108 := eq_true q108
   go_wp2
   go_roundg k2
   case measure => have := HK1.out; have := HK2.out; omega
   case rel => exact ⟨(x4_2), (wrap64 (x6_2 + 1)), zq7, H', ⟨zq41 HK1 HK2⟩, ⟨zq17 HO_3⟩, ⟨zq2 HO_4⟩, ⟨zq1⟩⟩
 rw [if_pos c14] at H
 have c14b0 := zdt c14
 clear c14
 revert H
 refine zin fun c15 H => ?_
 revert H
 refine zin fun c16 H => ?_
 replace H := zob H
 obtain ⟨t113, A170, H⟩ := H
 have A17 := zA A170
 clear A170
 obtain ⟨y114, hy114⟩ : ∃ y_ : List Int, y_ = (x4_2.set (x14_1 : Int).toNat t113) := ⟨_, rfl⟩
 rw [← hy114] at H; try with_reducible replace H := zbs H
 have Ny114 := zA hy114
 clear hy114
 have H' := zA H
 clear H
 obtain ⟨Ao19, co19, eo19⟩ := Kd.S_slice HO_3.out
 subst eo19
 have p107 : 0 ≤ (x6_2 : Int) := zde zq20
 have q107 : x6_2 < (t101.length : Int) := zde zq20
 obtain ⟨ad107, A107_0, c107_0, e107, hx107_0, hl107_0, hi107_0⟩ := zln (zSr HO_3.out).2.2 x6_2 p107 q107
 cases e107
 obtain ⟨ce107, hce107, hMe107, hcc107⟩ := Kd.S_get HO_3.out [] x6_2 p107 (by first | exact q107 | exact zde zq20 | (have e_ := (zSr HO_3.out).1; omega))
 obtain ⟨ve107_0, rfl, ge107_0⟩ := hMe107
 have hv107_0 := hcc107 0 _ rfl
 rw [Nat.add_zero, show ((Kd.slice 3 (Kd.int .i64))).sz = 1 from rfl, Nat.mul_one] at hv107_0
 replace hv107_0 := zsi (hv107_0.symm.trans hx107_0)
 rw [hv107_0] at ge107_0
 have HL107_0 := zA (show Kd.R (Kd.int .i64) 3 _ _ _ _ (za5 t101 x6_2) from ge107_0)
 clear hv107_0 ge107_0
 clear hcc107 hce107
 have HR107_0 := zA hi107_0
 have HC107_0 := zA hl107_0
 clear hi107_0 hl107_0
 replace p107 := eq_true p107
 replace q107 := eq_true q107
 have p108 : 0 ≤ (x14_1 : Int) := zde zq20
 have q108 : x14_1 < ((za5 t101 x6_2).length : Int) := zde zq20
 obtain ⟨ad108, e108, hx108_0⟩ := Kd.at_int (zq18 HR107_0) x14_1 p108 q108
 cases e108
 replace p108 := eq_true p108
 replace q108 := eq_true q108
 try go_wp2
 replace HO_3 := zA (zSd HO_3.out)
 replace HO_4 := zA (zRd HO_4.out)
 replace HL107_0 := zA (zRd HL107_0.out)
 replace HR107_0 := zA (zCd HR107_0.out)
 replace HB := zA (zbd HB.out)
 obtain ⟨Ao21, co21, eo21⟩ := Kd.R_slice HO_4.out
 (first | subst eo21 | (injection eo21 with f1_ f2_ f3_; have f4_ := f1_.symm; have f5_ := f3_.symm; clear f1_ f2_ f3_; subst f4_; subst f5_))
 obtain ⟨p109, q109⟩ := zpq x14_1 x4_2.length
 obtain ⟨ad109, e109, hx109_0⟩ := Kd.at_int (zRr HO_4.out).2.2 x14_1 (zoe p109) (zoe q109)
 cases e109
 obtain ⟨p110, q110⟩ := zpq x6_2 x4_2.length
 obtain ⟨ad110, e110, hx110_0⟩ := Kd.at_int (zRr HO_4.out).2.2 x6_2 (zoe p110) (zoe q110)
 obtain rfl : ad109 = ad110 := (by injection e110)
 have p111 : 0 ≤ (x6_2 : Int) := zde zq20
 have q111 : x6_2 < (t101.length : Int) := zde zq20
 obtain ⟨ad111, A111_0, c111_0, e111, hx111_0, hl111_0, hi111_0⟩ := zln (zSr HO_3.out).2.2 x6_2 p111 q111
 obtain rfl : ad107 = ad111 := (by injection e111)
 obtain ⟨ce111, hce111, hMe111, hcc111⟩ := Kd.S_get HO_3.out [] x6_2 p111 (by first | exact q111 | exact zde zq20 | (have e_ := (zSr HO_3.out).1; omega))
 obtain ⟨ve111_0, rfl, ge111_0⟩ := hMe111
 have hv111_0 := hcc111 0 _ rfl
 rw [Nat.add_zero, show ((Kd.slice 3 (Kd.int .i64))).sz = 1 from rfl, Nat.mul_one] at hv111_0
 replace hv111_0 := zsi (hv111_0.symm.trans hx111_0)
 rw [hv111_0] at ge111_0
 have HL111_0 := zA (show Kd.R (Kd.int .i64) 3 _ _ _ _ (za5 t101 x6_2) from ge111_0)
 clear hv111_0 ge111_0
 clear hcc111 hce111
 have HR111_0 := zA hi111_0
 have HC111_0 := zA hl111_0
 clear hi111_0 hl111_0
 replace p111 := eq_true p111
 replace q111 := eq_true q111
 have p112 : 0 ≤ (x14_1 : Int) := zde zq20
 have q112 : x14_1 < ((za5 t101 x6_2).length : Int) := zde zq20
 obtain ⟨ad112, e112, hx112_0⟩ := Kd.at_int (zq18 HR111_0) x14_1 p112 q112
 cases e112
 replace p112 := eq_true p112
 replace q112 := eq_true q112
 refine zmx (n := 21) (S := fun w' => w'.cell? (ad109.add (x14_1).toNat) = some (.int .i64 (rd x4_2 x14_1)) ∧ w'.cell? (ad109.add (x6_2).toNat) = some (.int .i64 (rd x4_2 x6_2)) ∧ w'.cell? (ad107.add (x6_2).toNat) = some (.slice (some ad112) (za5 t101 x6_2).length c111_0) ∧ w'.cell? (ad112.add (x14_1).toNat) = some (.int .i64 (rd (za5 t101 x6_2) x14_1))) (ds := [20]) #[false, false, false, false, false, false, false, false, false, false, false, false, false, false, false, false, false, false, false, false, false] zq27 rfl rfl ⟨hx109_0, hx110_0, hx111_0, hx112_0⟩ (fun hHeld => ?_); refine zji zpt zpg (fun HT_ HW_ => ?_)
 generalize wr.drew = w20 at HO_3 HO_4 HL107_0 HR107_0 HB HL111_0 HR111_0 hx109_0 hx110_0 hx111_0 hx112_0 hHeld ⊢
 refine zpu 0 30 HT_ ?_
 refine zpu 1 31 HT_ ?_
 refine zpu 2 32 HT_ ?_
 refine zpu 3 33 HT_ ?_
 refine zpu 4 34 HT_ ?_
 refine zpu 6 36 HT_ ?_
 refine zpu 7 37 HT_ ?_
 refine zpu 8 38 HT_ ?_
 refine zpu 10 40 HT_ ?_
 refine zpu 11 41 HT_ ?_
 refine zpu 12 42 HT_ ?_
 refine zpu 14 44 HT_ ?_
 refine ztu 5 35 HT_ HW_ hHeld ?_
 refine ztu 9 39 HT_ HW_ hHeld ?_
 refine ztu 13 43 HT_ HW_ hHeld ?_
 refine zpu 15 45 HT_ ?_
 refine ztu 16 46 HT_ HW_ hHeld ?_
 refine zpu 17 47 HT_ ?_
 refine one_ (i := 18) (N := some 48) #[true, true, true, true, true, true, true, true, true, true, true, true, true, true, true, true, true, true, true, false, false] rfl rfl (zl7 HT_.out zq27) (by decide) (fun K hK => ?_)
 refine zgo Tryz.func103 (zgy (rd x4_2 x14_1) (wrap64 ((rd x4_2 x6_2) + (rd (za5 t101 x6_2) x14_1))) t113 _ A17.out) ?_
 rintro e w' ⟨rfl, ⟨nd, rfl⟩⟩
 refine ⟨_, rfl, ?_⟩
 have p18 : 0 ≤ (x14_1 : Int) := zde zq20
 have q18 : (x14_1 : Int) < ((x4_2.length : Int) : Int) := zde zq20
 obtain ⟨go18, co18, eo18, gb18, gl18, cl18, HG18⟩ := Kd.R_form HO_4.out (by omega)
 (first | cases eo18 | (injection eo18 with ea_ en_ ec_; (first | subst ea_ | (injection ea_ with ea_; subst ea_)); subst ec_; clear en_))
 have GB18 := zA gb18
 have GG18 := zA HG18
 clear gb18 gl18 HG18
 (first | simp only [zf2] at hx109_0 | skip)
 (first | simp only [zf2] at hx110_0 | skip)
 obtain ⟨hx18_0, hf18_0⟩ := Kd.R_celln 0 HO_4.out (x14_1 : Int) p18 q18
 replace p18 := eq_true p18
 replace q18 := eq_true q18
 have HP22 := Kd.R_putn HO_4.out (x14_1 : Int) t113
 rw [← Ny114.out] at HP22
 have HQ22 := zA HP22
 clear HP22
 refine hK.out _ _ ⟨hHeld.1, hHeld.2.1, hHeld.2.2.1, hHeld.2.2.2⟩ (fun hHeld => ?_)
 clear hK K
 refine znm 48 ?_
 refine zpu 19 49 HT_ ?_
 refine zzr (i := 20) (N := none) #[true, true, true, true, true, true, true, true, true, true, true, true, true, true, true, true, true, true, true, true, true] rfl rfl (zl7 HT_.out zq27) (by decide) (fun K hK => ?_)
 refine ztd (w1 := ?_) (by rfl) rfl ?_ ?_
 rotate_left
 · go_simp
   rfl
 refine hK.out _ _ ?_
 clear hK K
 refine zpl (zlx HT_.out zq27) ?_
 try go_wp2
 go_roundg k2
 case measure => have := HK1.out; have := HK2.out; omega
 case rel => exact ⟨(y114), (wrap64 (x6_2 + 1)), zq7, H', ⟨zq41 HK1 HK2⟩, ⟨by (with_reducible repeat (first | apply zSa | apply zSn | apply zSd)); exact Kd.S_mono (Kd.S_far (p := ⟨go18, (x14_1 : Int).toNat, none⟩) (Kd.S_mono HO_3.out (fun k_ hk => (⟨hk, fun e_ => hk (by rw [e_]; rfl)⟩ : _ ∧ k_ ≠ go18))) (fun _ hk => hk.2) (.int .i64 t113)) (fun _ hk => hk.1)⟩, ⟨zq2 HQ22⟩, ⟨zq10 GB18⟩⟩
mutual
def zd8 : Nat → List (S55) → Int → List Int → Int → List Int → Int → Int → Option (Int)
 | 0, _, _, _, _, _, _, _ => none
 | k + 1, x0, x1, x5, x6, x15, x16, x17 => if x17 < x16 then (if 0 ≤ x17 then (if x17 < (x15.length : Int) then (zd9 k x0 x1 x5 x6 (rd x15 x17) 0 100 x15 x16 x17 x0 (x0.length : Int) 0) else (none)) else (none)) else (some x6)
def zd9 : Nat → List (S55) → Int → List Int → Int → Int → Int → Int → List Int → Int → Int → List (S55) → Int → Int → Option (Int)
 | 0, _, _, _, _, _, _, _, _, _, _, _, _, _ => none
 | k + 1, x0, x1, x5, x6, x8, x9, x10, x15, x16, x17, x21, x22, x23 => if x23 < x22 then (if 0 ≤ x23 then (if x23 < (x21.length : Int) then (if x23 < (x5.length : Int) then (if (rd x5 x23) ≥ x8 then ((zhu ((zaa x21 x23).f0)).bind fun t109 => ((zku x10 t109).bind fun t110 => (zd9 k x0 x1 x5 x6 x8 (wrap64 (x9 + 1)) t110 x15 x16 x17 x21 x22 (wrap64 (x23 + 1))))) else (zd9 k x0 x1 x5 x6 x8 x9 x10 x15 x16 x17 x21 x22 (wrap64 (x23 + 1)))) else (none)) else (none)) else (none)) else (if x1 = 0 then (none) else ((zfg x6 (wrap64 ((wrap64 ((wrap64 (x8 + (wrap64 (Int.tdiv (wrap64 ((wrap64 (x9 + x1)) - 1)) x1)))) + x10)) - 1))).bind fun t105 => (zd8 k x0 x1 x5 t105 x15 x16 (wrap64 (x17 + 1)))))
end
def ziy (k : Nat) (l0 : List (S55)) (a1 : Int) : Option (Int) := (zf1 k l0).bind fun t101 => (zd8 k l0 a1 t101 0 t101 (t101.length : Int) 0)
theorem znp : ∀ k, (∀ y0 y1 y2 y3 y4 y5 y6, LeO (zd8 k y0 y1 y2 y3 y4 y5 y6) (zd8 (k + 1) y0 y1 y2 y3 y4 y5 y6)) ∧ (∀ y0 y1 y2 y3 y4 y5 y6 y7 y8 y9 y10 y11 y12, LeO (zd9 k y0 y1 y2 y3 y4 y5 y6 y7 y8 y9 y10 y11 y12) (zd9 (k + 1) y0 y1 y2 y3 y4 y5 y6 y7 y8 y9 y10 y11 y12))
 | 0 => ⟨fun _ _ _ _ _ _ _ r h => by simp [zd8] at h, fun _ _ _ _ _ _ _ _ _ _ _ _ _ r h => by simp [zd9] at h⟩
 | k + 1 => by
   obtain ⟨ih0, ih1⟩ := znp k
   refine ⟨?_, ?_⟩
   · intro y0 y1 y2 y3 y4 y5 y6
     unfold zd8
     exact zm3 ih0 ih1 zkk
   · intro y0 y1 y2 y3 y4 y5 y6 y7 y8 y9 y10 y11 y12
     unfold zd9
     exact zm3 ih0 ih1 zkk
theorem zsq : ∀ a0 a1 k, LeO (ziy k a0 a1) (ziy (k + 1) a0 a1) := by
 intro a0 a1 k
 obtain ⟨ih0, ih1⟩ := znp k
 unfold ziy
 exact zm3 ih0 ih1 zkk
theorem zrv (k : Nat) (A0 : Option Addr) (c0 : Nat) (l0 : List (S55)) (a1 : Int) (r : Int) (w : World) (hr0 : Kd.C k55 w A0 l0.length l0) (hc0 : l0.length ≤ c0) (h : ziy k l0 a1 = some r) :
   Calls Tryz.prog 87 #[.slice A0 l0.length c0, .int .i64 a1] w fun e w' => e = .returned (.int .i64 r) ∧ Below w.heap.size w w' := by
 have hu55 := Tryz.underlying55
 have HR0 := zA hr0
 have HC0 := zA hc0
 clear hr0 hc0
 have HB := zA (Below.refl w.heap.size w)
 have H := h
 unfold ziy at H
 clear h
 replace H := zob H
 obtain ⟨t101, A30, H⟩ := H
 have A3 := zA A30
 clear A30
 have H' := zA H
 clear H
 go_enter Tryz.func87, Tryz.ntmps87
 go_wp2_with (first | ((with_reducible refine zgc 102 ?_); refine zca 14 Tryz.func102 #[.slice A0 l0.length c0] (zpv k _ _ l0 t101 _ (zq15 HR0) HC0.out A3.out) ?_; rintro e w4 ⟨v102, rfl, ho0, hb⟩; refine ⟨_, rfl, ?_⟩; have HO103 := zA (Kd.R_lower ho0 (zaj zq1)); replace HB := zA (zab zq1 hb); (try clear hb); (try clear ho0); obtain ⟨Ao5, co5, eo5⟩ := Kd.R_slice HO103.out; subst eo5))
 go_loopg [6, 17] k (fun kq v6 v17 w' => ∃ (x6_1 : Int) (x17_1 : Int), v6 = .int .i64 x6_1 ∧ v17 = .int .i64 x17_1 ∧ Aside0 (zd8 kq l0 a1 t101 x6_1 t101 (t101.length : Int) x17_1 = some r) ∧ Aside0 (kq ≤ k) ∧ Aside0 (Kd.R (Kd.int .i64) 3 w' w.heap.size (fun _ => True) (.slice Ao5 t101.length co5) t101) ∧ Aside0 (Kd.R (Kd.int .i64) 3 w' w.heap.size (fun _ => True) (.slice Ao5 t101.length co5) t101) ∧ Aside0 (Below w.heap.size w w'))
 case atStart => exact ⟨(0), (0), zq7, zq7, H', ⟨zlr _⟩, ⟨zq2 HO103⟩, ⟨zq2 HO103⟩, ⟨zq1⟩⟩
 clear H'
 obtain ⟨x6_1, x17_1, rfl, rfl, HA, HK1, HO_5, HO_15, HB⟩ := hrel
 cases gk with
 | zero => exact absurd HA.out (by simp [zd8])
 | succ k1 =>
 have H := HA.out
 clear HA
 simp only [zd8] at H
 revert H
 refine zit (fun c6 H => ?_) fun c6 H => ?_
 rotate_left
 · obtain rfl := zsi H
   go_wp2
   exact zr_2
 revert H
 refine zin fun c7 H => ?_
 revert H
 refine zin fun c8 H => ?_
 have H' := zA H
 clear H
 obtain ⟨p104, q104⟩ := zpq x17_1 t101.length
 obtain ⟨ad104, e104, hx104_0⟩ := Kd.at_int (zRr HO_15.out).2.2 x17_1 (zoe p104) (zoe q104)
 cases e104
 go_wp2
 go_loopg [9, 10, 23] k1 (fun kq v9 v10 v23 w' => ∃ (x9_2 : Int) (x10_2 : Int) (x23_2 : Int), v9 = .int .i64 x9_2 ∧ v10 = .int .i64 x10_2 ∧ v23 = .int .i64 x23_2 ∧ Aside0 (zd9 kq l0 a1 t101 x6_1 (rd t101 x17_1) x9_2 x10_2 t101 (t101.length : Int) x17_1 l0 (l0.length : Int) x23_2 = some r) ∧ Aside0 (kq ≤ k1) ∧ Aside0 (Kd.R (Kd.int .i64) 3 w' w.heap.size (fun _ => True) (.slice (some ad104) t101.length co5) t101) ∧ Aside0 (Kd.R (Kd.int .i64) 3 w' w.heap.size (fun _ => True) (.slice (some ad104) t101.length co5) t101) ∧ Aside0 (Below w.heap.size w w'))
 case atStart => exact ⟨(0), (100), (0), zq7, zq7, zq7, H', ⟨zlr _⟩, ⟨zq2 HO_5⟩, ⟨zq2 HO_15⟩, ⟨zq1⟩⟩
 clear H'
 obtain ⟨x9_2, x10_2, x23_2, rfl, rfl, rfl, HA, HK2, HO_5, HO_15, HB⟩ := hrel
 cases gk with
 | zero => exact absurd HA.out (by simp [zd9])
 | succ k2 =>
 have H := HA.out
 clear HA
 simp only [zd9] at H
 revert H
 refine zit (fun c9 H => ?_) fun c9 H => ?_
 rotate_left
 · by_cases c20 : a1 = 0
   · rw [if_pos c20] at H
     exact absurd H (by simp)
   rw [if_neg c20] at H
   obtain ⟨c20b0, c20b1⟩ := zbq c20
   replace H := zob H
   obtain ⟨t105, A210, H⟩ := H
   have A21 := zA A210
   clear A210
   have H' := zA H
   clear H
   go_wp2_with (first | ((with_reducible refine zgc 103 ?_); refine zcl 54 Tryz.func103 (zgy x6_1 (wrap64 ((wrap64 ((wrap64 ((rd t101 x17_1) + (wrap64 (Int.tdiv (wrap64 ((wrap64 (x9_2 + a1)) - 1)) a1)))) + x10_2)) - 1)) t105 _ A21.out) ?_; rintro e w' ⟨rfl, ⟨nd, rfl⟩⟩; refine ⟨_, rfl, ?_⟩))
   go_roundg k2
   case measure => have := HK1.out; have := HK2.out; omega
   case rel => exact ⟨(t105), (wrap64 (x17_1 + 1)), zq7, zq7, H', ⟨zq41 HK1 HK2⟩, ⟨zq2 HO_5⟩, ⟨zq2 HO_15⟩, ⟨zq1⟩⟩
 revert H
 refine zin fun c10 H => ?_
 revert H
 refine zin fun c11 H => ?_
 revert H
 refine zin fun c12 H => ?_
 by_cases c13 : (rd t101 x23_2) ≥ (rd t101 x17_1)
 rotate_left
 · rw [if_neg c13] at H
   have c13b0 := zdf c13
   clear c13
   have H' := zA H
   clear H
   obtain ⟨p106, q106⟩ := zpq x23_2 l0.length
   obtain ⟨ad106, e106, hx106_0, hx106_1, hx106_2, hx106_3, hx106_4⟩ := zld HR0.out x23_2 (zoe p106) (zoe q106)
   cases e106
   replace hx106_0 := zkep HB.out hx106_0
   replace hx106_1 := zkep HB.out hx106_1
   replace hx106_2 := zkep HB.out hx106_2
   replace hx106_3 := zkep HB.out hx106_3
   replace hx106_4 := zkep HB.out hx106_4
   go_wp2_with (first | ((with_reducible refine zgd 12 ?_); refine zbx #[.string (⟨#[]⟩ : ByteArray), .int .i64 0, .int .i64 0, .int .i64 0, .int .i64 0] 55 ?_; intro gb107 hg w18 hbox hb; have zs := zpair zq1 hb; replace HO_5 := zA (zRb (zq2 HO_5) hb); replace HO_15 := zA (zRb (zq2 HO_15) hb); replace HB := zA (zs.1); have BK107 := zA (hbox); have GW107 := zA (zge hg zs.2); have GE107 := GW107; clear zs hb hbox hg; obtain ⟨hcz19_0, hcz19_1, hcz19_2, hcz19_3, hcz19_4, hfz19_0, hfz19_1, hfz19_2, hfz19_3, hfz19_4⟩ := zd5 BK107; have p108 : 0 ≤ (x23_2 : Int) := zde zq20; have q108 : x23_2 < (t101.length : Int) := zde zq20; obtain ⟨ad108, e108, hx108_0⟩ := Kd.at_int (zRr HO_5.out).2.2 x23_2 p108 q108; obtain rfl : ad104 = ad108 := (by injection e108); have hn108_0 : ad104.block ≠ gb107 := Kd.own_blk (Kd.R_ne HO_5.out BK107.out (by decide)); have hn108_1 : ad104.block ≠ gb107 := Kd.own_blk (Kd.R_ne HO_5.out BK107.out (by decide)); have hn108_2 : ad104.block ≠ gb107 := Kd.own_blk (Kd.R_ne HO_5.out BK107.out (by decide)); have hn108_3 : ad104.block ≠ gb107 := Kd.own_blk (Kd.R_ne HO_5.out BK107.out (by decide)); have hn108_4 : ad104.block ≠ gb107 := Kd.own_blk (Kd.R_ne HO_5.out BK107.out (by decide)); replace hx108_0 := (zah (p := ⟨gb107, 0, none⟩) zq87 (.string ((zaa l0 x23_2).f0))).trans hx108_0; replace hx108_0 := (zah (p := ⟨gb107, 1, none⟩) zq88 (.int .i64 ((zaa l0 x23_2).f1))).trans hx108_0; replace hx108_0 := (zah (p := ⟨gb107, 2, none⟩) zq89 (.int .i64 ((zaa l0 x23_2).f2))).trans hx108_0; replace hx108_0 := (zah (p := ⟨gb107, 3, none⟩) zq90 (.int .i64 ((zaa l0 x23_2).f3))).trans hx108_0; replace hx108_0 := (zah (p := ⟨gb107, 4, none⟩) zq91 (.int .i64 ((zaa l0 x23_2).f4))).trans hx108_0; clear hn108_0; clear hn108_1; clear hn108_2; clear hn108_3; clear hn108_4; replace p108 := eq_true p108; replace q108 := eq_true q108))
   go_roundg k2
   case measure => have := HK1.out; have := HK2.out; omega
   case rel => exact ⟨(x9_2), (x10_2), (wrap64 (x23_2 + 1)), zq7, zq7, zq7, H', ⟨zq41 HK1 HK2⟩, ⟨zq26 HO_5 BK107⟩, ⟨zq26 HO_15 BK107⟩, ⟨zq10 GE107⟩⟩
 rw [if_pos c13] at H
 have c13b0 := zdt c13
 clear c13
 replace H := zob H
 obtain ⟨t109, A140, H⟩ := H
 have A14 := zA A140
 clear A140
 replace H := zob H
 obtain ⟨t110, A150, H⟩ := H
 have A15 := zA A150
 clear A150
 have H' := zA H
 clear H
 obtain ⟨p106, q106⟩ := zpq x23_2 l0.length
 obtain ⟨ad106, e106, hx106_0, hx106_1, hx106_2, hx106_3, hx106_4⟩ := zld HR0.out x23_2 (zoe p106) (zoe q106)
 cases e106
 replace hx106_0 := zkep HB.out hx106_0
 replace hx106_1 := zkep HB.out hx106_1
 replace hx106_2 := zkep HB.out hx106_2
 replace hx106_3 := zkep HB.out hx106_3
 replace hx106_4 := zkep HB.out hx106_4
 go_wp2_with (first | ((with_reducible refine zgd 12 ?_); refine zbx #[.string (⟨#[]⟩ : ByteArray), .int .i64 0, .int .i64 0, .int .i64 0, .int .i64 0] 55 ?_; intro gb107 hg w16 hbox hb; have zs := zpair zq1 hb; replace HO_5 := zA (zRb (zq2 HO_5) hb); replace HO_15 := zA (zRb (zq2 HO_15) hb); replace HB := zA (zs.1); have BK107 := zA (hbox); have GW107 := zA (zge hg zs.2); have GE107 := GW107; clear zs hb hbox hg; obtain ⟨hcz17_0, hcz17_1, hcz17_2, hcz17_3, hcz17_4, hfz17_0, hfz17_1, hfz17_2, hfz17_3, hfz17_4⟩ := zd5 BK107; have p108 : 0 ≤ (x23_2 : Int) := zde zq20; have q108 : x23_2 < (t101.length : Int) := zde zq20; obtain ⟨ad108, e108, hx108_0⟩ := Kd.at_int (zRr HO_5.out).2.2 x23_2 p108 q108; obtain rfl : ad104 = ad108 := (by injection e108); have hn108_0 : ad104.block ≠ gb107 := Kd.own_blk (Kd.R_ne HO_5.out BK107.out (by decide)); have hn108_1 : ad104.block ≠ gb107 := Kd.own_blk (Kd.R_ne HO_5.out BK107.out (by decide)); have hn108_2 : ad104.block ≠ gb107 := Kd.own_blk (Kd.R_ne HO_5.out BK107.out (by decide)); have hn108_3 : ad104.block ≠ gb107 := Kd.own_blk (Kd.R_ne HO_5.out BK107.out (by decide)); have hn108_4 : ad104.block ≠ gb107 := Kd.own_blk (Kd.R_ne HO_5.out BK107.out (by decide)); replace hx108_0 := (zah (p := ⟨gb107, 0, none⟩) zq87 (.string ((zaa l0 x23_2).f0))).trans hx108_0; replace hx108_0 := (zah (p := ⟨gb107, 1, none⟩) zq88 (.int .i64 ((zaa l0 x23_2).f1))).trans hx108_0; replace hx108_0 := (zah (p := ⟨gb107, 2, none⟩) zq89 (.int .i64 ((zaa l0 x23_2).f2))).trans hx108_0; replace hx108_0 := (zah (p := ⟨gb107, 3, none⟩) zq90 (.int .i64 ((zaa l0 x23_2).f3))).trans hx108_0; replace hx108_0 := (zah (p := ⟨gb107, 4, none⟩) zq91 (.int .i64 ((zaa l0 x23_2).f4))).trans hx108_0; clear hn108_0; clear hn108_1; clear hn108_2; clear hn108_3; clear hn108_4; replace p108 := eq_true p108; replace q108 := eq_true q108) | ((with_reducible refine zgc 100 ?_); refine zcl 39 Tryz.func100 (zh7 ((zaa l0 x23_2).f0) t109 _ A14.out) ?_; rintro e w' ⟨rfl, ⟨nd, rfl⟩⟩; refine ⟨_, rfl, ?_⟩) | ((with_reducible refine zgc 101 ?_); refine zcl 40 Tryz.func101 (zru x10_2 t109 t110 _ A15.out) ?_; rintro e w' ⟨rfl, ⟨nd, rfl⟩⟩; refine ⟨_, rfl, ?_⟩))
 go_roundg k2
 case measure => have := HK1.out; have := HK2.out; omega
 case rel => exact ⟨(wrap64 (x9_2 + 1)), (t110), (wrap64 (x23_2 + 1)), zq7, zq7, zq7, H', ⟨zq41 HK1 HK2⟩, ⟨zq26 HO_5 BK107⟩, ⟨zq26 HO_15 BK107⟩, ⟨zq10 GE107⟩⟩
def zgm (k : Nat) (l0 : List (S55)) (a1 : Int) : Option (Int × Bool) := (zgb k l0).bind fun t101 => (if t101 = true then ((zgf a1).bind fun t102 => (if t102 = true then ((ziy k l0 a1).bind fun t103 => (some (t103, true))) else (some (0, false)))) else (some (0, false)))
theorem zxs : ∀ a0 a1 k, LeO (zgm k a0 a1) (zgm (k + 1) a0 a1) := by
 intro a0 a1 k
 unfold zgm
 exact zm2 zsq zkx
theorem zqh (k : Nat) (A0 : Option Addr) (c0 : Nat) (l0 : List (S55)) (a1 : Int) (r1 : Int) (r2 : Bool) (w : World) (hr0 : Kd.C k55 w A0 l0.length l0) (hc0 : l0.length ≤ c0) (h : zgm k l0 a1 = some (r1, r2)) :
   Calls Tryz.prog 38 #[.slice A0 l0.length c0, .int .i64 a1] w fun e w' => e = .returned (.tuple #[.int .i64 r1, .bool r2]) ∧ Below w.heap.size w w' := by
 have HR0 := zA hr0
 have HC0 := zA hc0
 clear hr0 hc0
 have HB := zA (Below.refl w.heap.size w)
 have H := h
 unfold zgm at H
 clear h
 replace H := zob H
 obtain ⟨t101, A30, H⟩ := H
 have A3 := zA A30
 clear A30
 by_cases c4 : t101 = true
 rotate_left
 · replace c4 := zbf c4
   subst c4
   replace H := zif H
   simp only [Option.some.injEq, Prod.mk.injEq] at H
   obtain ⟨rfl, rfl⟩ := H
   go_enter Tryz.func38, Tryz.ntmps38
   go_wp2_with (first | ((with_reducible refine zgc 53 ?_); refine zca 7 Tryz.func53 #[.slice A0 l0.length c0] (zdb k _ _ l0 false _ (zq15 HR0) HC0.out A3.out) ?_; rintro e w11 ⟨rfl, hb⟩; refine ⟨_, rfl, ?_⟩; replace HB := zA (zab zq1 hb); (try clear hb)))
   go_ret2
   exact ⟨zq5, zq1⟩
 subst c4
 replace H := zih H
 replace H := zob H
 obtain ⟨t102, A50, H⟩ := H
 have A5 := zA A50
 clear A50
 by_cases c6 : t102 = true
 rotate_left
 · replace c6 := zbf c6
   subst c6
   replace H := zif H
   simp only [Option.some.injEq, Prod.mk.injEq] at H
   obtain ⟨rfl, rfl⟩ := H
   go_enter Tryz.func38, Tryz.ntmps38
   go_wp2_with (first | ((with_reducible refine zgc 53 ?_); refine zca 7 Tryz.func53 #[.slice A0 l0.length c0] (zdb k _ _ l0 true _ (zq15 HR0) HC0.out A3.out) ?_; rintro e w10 ⟨rfl, hb⟩; refine ⟨_, rfl, ?_⟩; replace HB := zA (zab zq1 hb); (try clear hb)) | (go_at_call 69; (with_reducible refine (zg0 a1 false _ A5.out).mono ?_); rintro e w' ⟨rfl, ⟨nd, rfl⟩⟩))
   go_ret2
   exact ⟨zq5, zq1⟩
 subst c6
 replace H := zih H
 replace H := zob H
 obtain ⟨t103, A70, H⟩ := H
 have A7 := zA A70
 clear A70
 simp only [Option.some.injEq, Prod.mk.injEq] at H
 obtain ⟨rfl, rfl⟩ := H
 go_enter Tryz.func38, Tryz.ntmps38
 go_wp2_with (first | ((with_reducible refine zgc 53 ?_); refine zca 7 Tryz.func53 #[.slice A0 l0.length c0] (zdb k _ _ l0 true _ (zq15 HR0) HC0.out A3.out) ?_; rintro e w8 ⟨rfl, hb⟩; refine ⟨_, rfl, ?_⟩; replace HB := zA (zab zq1 hb); (try clear hb)) | (go_at_call 69; (with_reducible refine (zg0 a1 true _ A5.out).mono ?_); rintro e w' ⟨rfl, ⟨nd, rfl⟩⟩) | ((with_reducible refine zgc 87 ?_); refine zca 16 Tryz.func87 #[.slice A0 l0.length c0, .int .i64 a1] (zrv k _ _ l0 a1 t103 _ (zq58 HR0) HC0.out A7.out) ?_; rintro e w9 ⟨rfl, hb⟩; refine ⟨_, rfl, ?_⟩; replace HB := zA (zab zq1 hb); (try clear hb)))
 go_ret2
 exact ⟨zq5, zq1⟩
theorem zib {w w' : World} (h : Drawn0 w w') : Below w.heap.size w w' := by
 obtain ⟨nd, rfl⟩ := h
 exact zbn (Below.refl _ _) nd
def zew : Nat → List Int → List Int → Int → Option Bool
 | 0, _, _, _ => none
 | k + 1, E, C, i => if i < (C.length : Int) then (if 0 ≤ i then (if i < (E.length : Int) then (if (rd C i) < (rd E i) then none else zew k E C (wrap64 (i + 1))) else none) else none) else some true
def zex : Nat → List Int → List Int → Int → Option Bool
 | 0, _, _, _ => none
 | k + 1, L, C, i => if i < (C.length : Int) then (if 0 ≤ i then (if i < (L.length : Int) then (if (rd L i) < (rd C i) then none else zex k L C (wrap64 (i + 1))) else none) else none) else some true
def zhk (k : Nat) (l1 : List Int) : Option Bool :=
 (zc9 k l1).bind fun d => (zdj k d.1 d.2).bind fun a => (zdy k d.1 d.2).bind fun b => (zga k d.1 d.2).bind fun n => (zhg k d.1 d.2).bind fun m => (zhy k a.1 b.1).bind fun s =>
 if a.2 = b.2 ∧ s = true ∧ n = m then some true else none
def zgh (k : Nat) (l1 : List Int) : Option Bool :=
 (zds k l1).bind fun d => (zez k d.1 d.2).bind fun a => (zeh k d.1 d.2).bind fun b => (zfr k d.1 d.2).bind fun p => (zgm k d.1 d.2).bind fun q => (zhy k a.1 b.1).bind fun s =>
 if a.2 = b.2 ∧ s = true ∧ p = q ∧ a.2 = p.2 then (if a.2 = true then (zff k d.1 d.2 a.1).bind fun i => if i = (true, true) then zhk k l1 else none else zhk k l1) else none
def ziv (k : Nat) (l0 : List Int) (l1 : List Int) : Option Bool :=
 (zm9 l0 l1).bind fun z => if z = true then some true else
 (zeg k l0).bind fun d => (zff k d.1 d.2.1 d.2.2).bind fun i => (zf0 k d.1 d.2.1 d.2.2).bind fun j =>
 if i = j then
   (if i.1 = true then
     (zdj k d.1 d.2.2).bind fun o => (zhx k d.1 o.1).bind fun y => (zga k d.1 d.2.2).bind fun n => (zgj k d.1).bind fun p => (zfr k d.1 d.2.1).bind fun q => (zfx k d.1).bind fun e =>
     if o.2 = true ∧ y = (true, true) ∧ n.2 = true ∧ p.2 = true ∧ q.2 = true ∧ e.2 = true ∧ p.1 ≤ n.1 ∧ q.1 ≤ n.1 then
       (zew k e.1 d.2.2 0).bind fun _ => (if n.1 ≤ 100 then (zhb k d.1 n.1).bind fun a => if a.2 = true then (zex k a.1 d.2.2 0).bind fun _ => zgh k l1 else none else zgh k l1)
     else none
   else zgh k l1)
 else none
theorem zph (k : Nat) (A0 : Option Addr) (c0 : Nat) (l0 : List Int) (A1 : Option Addr) (c1 : Nat) (l1 : List Int) (r : Bool) (w : World) (hr0 : Kd.C (Kd.int .u8) w A0 l0.length l0) (hc0 : l0.length ≤ c0) (hr1 : Kd.C (Kd.int .u8) w A1 l1.length l1) (hc1 : l1.length ≤ c1) (h : ziv k l0 l1 = some r) :
   Calls Tryz.prog 4 #[.slice A0 l0.length c0, .slice A1 l1.length c1] w fun e w' => e = .returned (.bool r) ∧ Below w.heap.size w w' := by
 have HR0 := zA hr0
 have HC0 := zA hc0
 have HR1 := zA hr1
 have HC1 := zA hc1
 have HB := zA (Below.refl w.heap.size w)
 clear hr0 hc0 hr1 hc1
 unfold ziv at h
 replace h := Option.bind_eq_some_iff.1 h
 obtain ⟨z, hz, h⟩ := h
 have Hz := zA hz
 clear hz
 cases z with
 | true =>
   rw [if_pos rfl] at h
   obtain rfl := zsi h
   clear h
   go_enter Tryz.func4, Tryz.ntmps4
   go_wp2_with fail
   (with_reducible refine (zqk _ _ l0 _ _ l1 true _ (zCb HR0.out HB.out) HC0.out (zCb HR1.out HB.out) HC1.out Hz.out).mono ?_)
   rintro e w1_ ⟨rfl, hb⟩
   replace hb := zib hb
   replace HB := zA (zab HB.out hb)
   clear hb
   go_wp2_with fail
   go_ret
   exact ⟨rfl, HB.out⟩
 | false =>
   rw [if_neg (by decide)] at h
   replace h := Option.bind_eq_some_iff.1 h
   obtain ⟨⟨l, wd, c⟩, hd, h⟩ := h
   replace h := Option.bind_eq_some_iff.1 h
   obtain ⟨⟨i1, i2⟩, hi, h⟩ := h
   replace h := Option.bind_eq_some_iff.1 h
   obtain ⟨⟨j1, j2⟩, hj, h⟩ := h
   try dsimp only at h
   by_cases hall : (i1, i2) = (j1, j2)
   rotate_left
   · rw [if_neg hall] at h
     cases h
   rw [if_pos hall] at h
   obtain ⟨rfl, rfl⟩ := Prod.mk.inj hall
   clear hall
   have Hd := zA hd
   have Hi := zA hi
   have Hj := zA hj
   have HH := zA h
   clear hd hi hj h
   go_enter Tryz.func4, Tryz.ntmps4
   go_wp2_with fail
   (with_reducible refine (zqk _ _ l0 _ _ l1 false _ (zCb HR0.out HB.out) HC0.out (zCb HR1.out HB.out) HC1.out Hz.out).mono ?_)
   rintro e w1_ ⟨rfl, hb⟩
   replace hb := zib hb
   replace HB := zA (zab HB.out hb)
   clear hb
   go_wp2_with fail
   (with_reducible refine (zoh k _ _ l0 l wd c _ (zCb HR0.out HB.out) HC0.out Hd.out).mono ?_)
   rintro e w2_ ⟨v, v', rfl, ho, ho', hb⟩
   obtain ⟨A1_, c1_, rfl⟩ := Kd.R_slice ho
   obtain ⟨A2_, c2_, rfl⟩ := Kd.R_slice ho'
   have R_l := zA (zRr ho).2.2
   have Q_l := zA (zRr ho).2.1
   clear ho
   have R_c := zA (zRr ho').2.2
   have Q_c := zA (zRr ho').2.1
   clear ho'
   replace HB := zA (zab HB.out hb)
   clear hb
   go_wp2_with fail
   (with_reducible refine (zme k _ _ l wd _ _ c i1 i2 _ R_l.out Q_l.out R_c.out Q_c.out Hi.out).mono ?_)
   rintro e w3_ ⟨rfl, hb⟩
   have n0_ := zA (zab HB.out hb)
   have n_l := zA (zCb R_l.out hb)
   have n_c := zA (zCb R_c.out hb)
   clear HB hb R_l R_c
   have HB := n0_
   have R_l := n_l
   have R_c := n_c
   clear n0_ n_l n_c
   go_wp2_with fail
   (with_reducible refine (zps k _ _ l wd _ _ c i1 i2 _ R_l.out Q_l.out R_c.out Q_c.out Hj.out).mono ?_)
   rintro e w4_ ⟨rfl, hb⟩
   have n0_ := zA (zab HB.out hb)
   have n_l := zA (zCb R_l.out hb)
   have n_c := zA (zCb R_c.out hb)
   clear HB hb R_l R_c
   have HB := n0_
   have R_l := n_l
   have R_c := n_c
   clear n0_ n_l n_c
   go_upto_if 83 with (fail)
   go_cut [] (fun wc => Aside0 (zgh k l1 = some r) ∧ Aside0 (Below w.heap.size w wc))
   case first =>
     have h := HH.out
     clear HH
     cases i1 with
     | true =>
       rw [if_pos rfl] at h
       replace h := Option.bind_eq_some_iff.1 h
       obtain ⟨⟨o1, o2⟩, ho, h⟩ := h
       replace h := Option.bind_eq_some_iff.1 h
       obtain ⟨y, hy, h⟩ := h
       replace h := Option.bind_eq_some_iff.1 h
       obtain ⟨⟨n1, n2⟩, hn, h⟩ := h
       replace h := Option.bind_eq_some_iff.1 h
       obtain ⟨⟨p1, p2⟩, hp, h⟩ := h
       replace h := Option.bind_eq_some_iff.1 h
       obtain ⟨⟨q1, q2⟩, hq, h⟩ := h
       replace h := Option.bind_eq_some_iff.1 h
       obtain ⟨⟨e1, e2⟩, he, h⟩ := h
       try dsimp only at h
       by_cases hall : o2 = true ∧ y = (true, true) ∧ n2 = true ∧ p2 = true ∧ q2 = true ∧ e2 = true ∧ p1 ≤ n1 ∧ q1 ≤ n1
       rotate_left
       · rw [if_neg hall] at h
         cases h
       rw [if_pos hall] at h
       obtain ⟨rfl, rfl, rfl, rfl, rfl, rfl, t1, t2⟩ := hall
       have t1 : decide (n1 < p1) = false := zdf (by omega)
       have t2 : decide (n1 < q1) = false := zdf (by omega)
       have Ho := zA ho
       have Hy := zA hy
       have Hn := zA hn
       have Hp := zA hp
       have Hq := zA hq
       have He := zA he
       have HH := zA h
       clear ho hy hn hp hq he h
       go_wp2_with fail
       (with_reducible refine (zki k _ _ l _ _ c o1 true _ R_l.out Q_l.out R_c.out Q_c.out Ho.out).mono ?_)
       rintro e w5_ ⟨v, rfl, ho, hb⟩
       obtain ⟨A3_, c3_, rfl⟩ := Kd.R_slice ho
       have R_o1 := zA (zRr ho).2.2
       have Q_o1 := zA (zRr ho).2.1
       clear ho
       have n0_ := zA (zab HB.out hb)
       have n_l := zA (zCb R_l.out hb)
       have n_c := zA (zCb R_c.out hb)
       clear HB hb R_l R_c
       have HB := n0_
       have R_l := n_l
       have R_c := n_c
       clear n0_ n_l n_c
       go_wp2_with fail
       (with_reducible refine (zrg k _ _ l _ _ o1 true true _ R_l.out Q_l.out R_o1.out Q_o1.out Hy.out).mono ?_)
       rintro e w6_ ⟨rfl, hb⟩
       clear R_o1 Q_o1
       have n0_ := zA (zab HB.out hb)
       have n_l := zA (zCb R_l.out hb)
       have n_c := zA (zCb R_c.out hb)
       clear HB hb R_l R_c
       have HB := n0_
       have R_l := n_l
       have R_c := n_c
       clear n0_ n_l n_c
       go_wp2_with fail
       (with_reducible refine (zng k _ _ l _ _ c n1 true _ R_l.out Q_l.out R_c.out Q_c.out Hn.out).mono ?_)
       rintro e w7_ ⟨rfl, hb⟩
       have n0_ := zA (zab HB.out hb)
       have n_l := zA (zCb R_l.out hb)
       have n_c := zA (zCb R_c.out hb)
       clear HB hb R_l R_c
       have HB := n0_
       have R_l := n_l
       have R_c := n_c
       clear n0_ n_l n_c
       go_wp2_with fail
       (with_reducible refine (zqd k _ _ l p1 true _ R_l.out Q_l.out Hp.out).mono ?_)
       rintro e w8_ ⟨rfl, hb⟩
       have n0_ := zA (zab HB.out hb)
       have n_l := zA (zCb R_l.out hb)
       have n_c := zA (zCb R_c.out hb)
       clear HB hb R_l R_c
       have HB := n0_
       have R_l := n_l
       have R_c := n_c
       clear n0_ n_l n_c
       go_wp2_with fail
       (with_reducible refine (zmu k _ _ l wd q1 true _ R_l.out Q_l.out Hq.out).mono ?_)
       rintro e w9_ ⟨rfl, hb⟩
       have n0_ := zA (zab HB.out hb)
       have n_l := zA (zCb R_l.out hb)
       have n_c := zA (zCb R_c.out hb)
       clear HB hb R_l R_c
       have HB := n0_
       have R_l := n_l
       have R_c := n_c
       clear n0_ n_l n_c
       go_wp2_with fail
       (with_reducible refine (zpn k _ _ l e1 true _ R_l.out Q_l.out He.out).mono ?_)
       rintro e w10_ ⟨v, rfl, ho, hb⟩
       obtain ⟨A4_, c4_, rfl⟩ := Kd.R_slice ho
       have R_e1 := zA (zRr ho).2.2
       have Q_e1 := zA (zRr ho).2.1
       clear ho
       have n0_ := zA (zab HB.out hb)
       have n_l := zA (zCb R_l.out hb)
       have n_c := zA (zCb R_c.out hb)
       clear HB hb R_l R_c
       have HB := n0_
       have R_l := n_l
       have R_c := n_c
       clear n0_ n_l n_c
       have HA := HH
       clear HA
       have h := HH.out
       clear HH
       replace h := Option.bind_eq_some_iff.1 h
       obtain ⟨z, hz, h⟩ := h
       try dsimp only at h
       have HA := zA hz
       have HH := zA h
       clear hz h
       go_wp2_with fail
       go_loopg [156] k (fun kq v w' => ∃ i : Int, v = .int .i64 i ∧ Aside0 (zew kq e1 c i = some z) ∧ Aside0 (Kd.C k55 w' A1_ l.length l) ∧ Aside0 (Kd.C (Kd.int .i64) w' A2_ c.length c) ∧ Aside0 (Kd.C (Kd.int .i64) w' A4_ e1.length e1) ∧ Aside0 (Below w.heap.size w w'))
       case atStart => exact ⟨0, rfl, HA, R_l, R_c, R_e1, HB⟩
       clear HA
       obtain ⟨i, rfl, HA, R_l, R_c, R_e1, HB⟩ := hrel
       cases gk with
       | zero => exact absurd HA.out (by simp [zew])
       | succ q =>
       have h := HA.out
       clear HA
       simp only [zew] at h
       by_cases c1 : i < (c.length : Int)
       · rw [if_pos c1] at h
         by_cases c2 : 0 ≤ i
         rotate_left
         · rw [if_neg c2] at h
           cases h
         rw [if_pos c2] at h
         by_cases c3 : i < (e1.length : Int)
         rotate_left
         · rw [if_neg c3] at h
           cases h
         rw [if_pos c3] at h
         by_cases c4 : rd c i < rd e1 i
         · rw [if_pos c4] at h
           cases h
         rw [if_neg c4] at h
         have HA := zA h
         have d1 : decide (i < (c.length : Int)) = true := zdt c1
         have d2 : decide (0 ≤ i) = true := zdt c2
         have d3 : decide (i < (e1.length : Int)) = true := zdt c3
         have d4 : decide (rd c i < rd e1 i) = false := zdf c4
         obtain ⟨ad1, x1, hx1⟩ := Kd.at_int R_c.out i c2 c1
         obtain ⟨ad2, x2, hx2⟩ := Kd.at_int R_e1.out i c2 c3
         cases x1
         cases x2
         clear h c4
         replace c1 := eq_true c1
         replace c2 := eq_true c2
         replace c3 := eq_true c3
         as_aux_lemma =>
           go_wp2
           go_roundg q
           case measure => omega
           case rel => exact ⟨wrap64 (i + 1), rfl, HA, R_l, R_c, R_e1, HB⟩
       rw [if_neg c1] at h
       have d1 : decide (i < (c.length : Int)) = false := zdf c1
       clear h c1
       by_cases h100 : n1 ≤ 100
       rotate_left
       · have h := HH.out
         clear HH
         rw [if_neg h100] at h
         have HH := zA h
         have h1 : decide (n1 ≤ 100) = false := zdf h100
         clear h h100
         as_aux_lemma =>
           go_wp2_with fail
           go_meet
           case rel => exact ⟨HH, HB⟩
       have h := HH.out
       clear HH
       rw [if_pos h100] at h
       replace h := Option.bind_eq_some_iff.1 h
       obtain ⟨⟨a1, a2⟩, ha, h⟩ := h
       try dsimp only at h
       by_cases hv : a2 = true
       rotate_left
       · rw [if_neg hv] at h
         cases h
       rw [if_pos hv] at h
       subst hv
       have h1 : decide (n1 ≤ 100) = true := zdt h100
       have Ha := zA ha
       have HH := zA h
       clear ha h h100
       go_wp2_with fail
       (with_reducible refine (zqn k _ _ l n1 a1 true _ R_l.out Q_l.out Ha.out).mono ?_)
       rintro e w11_ ⟨v, rfl, ho, hb⟩
       obtain ⟨A5_, c5_, rfl⟩ := Kd.R_slice ho
       have R_a1 := zA (zRr ho).2.2
       have Q_a1 := zA (zRr ho).2.1
       clear ho
       clear R_l Q_l
       clear R_e1 Q_e1
       have n0_ := zA (zab HB.out hb)
       have n_c := zA (zCb R_c.out hb)
       clear HB hb R_c
       have HB := n0_
       have R_c := n_c
       clear n0_ n_c
       have h := HH.out
       clear HH
       replace h := Option.bind_eq_some_iff.1 h
       obtain ⟨z, hz, h⟩ := h
       try dsimp only at h
       have HA := zA hz
       have HH := zA h
       clear hz h
       go_wp2_with fail
       go_loopg [180] k (fun kq v w' => ∃ i : Int, v = .int .i64 i ∧ Aside0 (zex kq a1 c i = some z) ∧ Aside0 (Kd.C (Kd.int .i64) w' A2_ c.length c) ∧ Aside0 (Kd.C (Kd.int .i64) w' A5_ a1.length a1) ∧ Aside0 (Below w.heap.size w w'))
       case atStart => exact ⟨0, rfl, HA, R_c, R_a1, HB⟩
       clear HA
       obtain ⟨i, rfl, HA, R_c, R_a1, HB⟩ := hrel
       cases gk with
       | zero => exact absurd HA.out (by simp [zex])
       | succ q =>
       have h := HA.out
       clear HA
       simp only [zex] at h
       by_cases c1 : i < (c.length : Int)
       rotate_left
       · rw [if_neg c1] at h
         have d1 : decide (i < (c.length : Int)) = false := zdf c1
         clear h c1
         as_aux_lemma =>
           go_wp2_with fail
           go_meet
           case rel => exact ⟨HH, HB⟩
       rw [if_pos c1] at h
       by_cases c2 : 0 ≤ i
       rotate_left
       · rw [if_neg c2] at h
         cases h
       rw [if_pos c2] at h
       by_cases c3 : i < (a1.length : Int)
       rotate_left
       · rw [if_neg c3] at h
         cases h
       rw [if_pos c3] at h
       by_cases c4 : rd a1 i < rd c i
       · rw [if_pos c4] at h
         cases h
       rw [if_neg c4] at h
       have HA := zA h
       have d1 : decide (i < (c.length : Int)) = true := zdt c1
       have d2 : decide (0 ≤ i) = true := zdt c2
       have d3 : decide (i < (a1.length : Int)) = true := zdt c3
       have d4 : decide (rd a1 i < rd c i) = false := zdf c4
       obtain ⟨ad1, x1, hx1⟩ := Kd.at_int R_c.out i c2 c1
       obtain ⟨ad2, x2, hx2⟩ := Kd.at_int R_a1.out i c2 c3
       cases x1
       cases x2
       clear h c4
       replace c1 := eq_true c1
       replace c2 := eq_true c2
       replace c3 := eq_true c3
       as_aux_lemma =>
         go_wp2
         go_roundg q
         case measure => omega
         case rel => exact ⟨wrap64 (i + 1), rfl, HA, R_c, R_a1, HB⟩
     | false =>
       rw [if_neg (by decide)] at h
       have HH := zA h
       clear h
       as_aux_lemma =>
         go_wp2_with fail
         go_meet
         case rel => exact ⟨HH, HB⟩
   clear HH HB Hz Hd Hi Hj R_l Q_l R_c Q_c
   obtain ⟨HH, HB⟩ := hcut
   have h := HH.out
   clear HH
   unfold zgh at h
   replace h := Option.bind_eq_some_iff.1 h
   obtain ⟨⟨x, v⟩, hd, h⟩ := h
   replace h := Option.bind_eq_some_iff.1 h
   obtain ⟨⟨a1, a2⟩, ha, h⟩ := h
   replace h := Option.bind_eq_some_iff.1 h
   obtain ⟨⟨b1, b2⟩, hb_, h⟩ := h
   replace h := Option.bind_eq_some_iff.1 h
   obtain ⟨⟨p1, p2⟩, hp, h⟩ := h
   replace h := Option.bind_eq_some_iff.1 h
   obtain ⟨⟨q1, q2⟩, hq, h⟩ := h
   replace h := Option.bind_eq_some_iff.1 h
   obtain ⟨s, hs, h⟩ := h
   try dsimp only at h
   by_cases hall : a2 = b2 ∧ s = true ∧ (p1, p2) = (q1, q2) ∧ a2 = p2
   rotate_left
   · rw [if_neg hall] at h
     cases h
   rw [if_pos hall] at h
   obtain ⟨rfl, rfl, hpq, rfl⟩ := hall
   obtain ⟨rfl, rfl⟩ := Prod.mk.inj hpq
   clear hpq
   have Hd := zA hd
   have Ha := zA ha
   have Hb := zA hb_
   have Hp := zA hp
   have Hq := zA hq
   have Hs := zA hs
   have HH := zA h
   clear hd ha hb_ hp hq hs h
   go_wp2_with fail
   (with_reducible refine (zno k _ _ l1 x v _ (zCb HR1.out HB.out) HC1.out Hd.out).mono ?_)
   rintro e w12_ ⟨v, rfl, ho, hb⟩
   obtain ⟨A6_, c6_, rfl⟩ := Kd.R_slice ho
   have R_x := zA (zRr ho).2.2
   have Q_x := zA (zRr ho).2.1
   clear ho
   replace HB := zA (zab HB.out hb)
   clear hb
   go_wp2_with fail
   (with_reducible refine (zox k _ _ x v a1 a2 _ R_x.out Q_x.out Ha.out).mono ?_)
   rintro e w13_ ⟨v, rfl, ho, hb⟩
   obtain ⟨A7_, c7_, rfl⟩ := Kd.R_slice ho
   have R_a1 := zA (zRr ho).2.2
   have Q_a1 := zA (zRr ho).2.1
   clear ho
   have n0_ := zA (zab HB.out hb)
   have n_x := zA (zCb R_x.out hb)
   clear HB hb R_x
   have HB := n0_
   have R_x := n_x
   clear n0_ n_x
   go_wp2_with fail
   (with_reducible refine (zlp k _ _ x v b1 a2 _ R_x.out Q_x.out Hb.out).mono ?_)
   rintro e w14_ ⟨v, rfl, ho, hb⟩
   obtain ⟨A8_, c8_, rfl⟩ := Kd.R_slice ho
   have R_b1 := zA (zRr ho).2.2
   have Q_b1 := zA (zRr ho).2.1
   clear ho
   have n0_ := zA (zab HB.out hb)
   have n_x := zA (zCb R_x.out hb)
   have n_a1 := zA (zCb R_a1.out hb)
   clear HB hb R_x R_a1
   have HB := n0_
   have R_x := n_x
   have R_a1 := n_a1
   clear n0_ n_x n_a1
   go_wp2_with fail
   (with_reducible refine (zmu k _ _ x v p1 a2 _ R_x.out Q_x.out Hp.out).mono ?_)
   rintro e w15_ ⟨rfl, hb⟩
   have n0_ := zA (zab HB.out hb)
   have n_x := zA (zCb R_x.out hb)
   have n_a1 := zA (zCb R_a1.out hb)
   have n_b1 := zA (zCb R_b1.out hb)
   clear HB hb R_x R_a1 R_b1
   have HB := n0_
   have R_x := n_x
   have R_a1 := n_a1
   have R_b1 := n_b1
   clear n0_ n_x n_a1 n_b1
   go_wp2_with fail
   (with_reducible refine (zqh k _ _ x v p1 a2 _ R_x.out Q_x.out Hq.out).mono ?_)
   rintro e w16_ ⟨rfl, hb⟩
   have n0_ := zA (zab HB.out hb)
   have n_x := zA (zCb R_x.out hb)
   have n_a1 := zA (zCb R_a1.out hb)
   have n_b1 := zA (zCb R_b1.out hb)
   clear HB hb R_x R_a1 R_b1
   have HB := n0_
   have R_x := n_x
   have R_a1 := n_a1
   have R_b1 := n_b1
   clear n0_ n_x n_a1 n_b1
   go_wp2_with fail
   (with_reducible refine (zpb k _ _ a1 _ _ b1 true _ R_a1.out Q_a1.out R_b1.out Q_b1.out Hs.out).mono ?_)
   rintro e w17_ ⟨rfl, hb⟩
   replace hb := zib hb
   clear R_b1 Q_b1
   have n0_ := zA (zab HB.out hb)
   have n_x := zA (zCb R_x.out hb)
   have n_a1 := zA (zCb R_a1.out hb)
   clear HB hb R_x R_a1
   have HB := n0_
   have R_x := n_x
   have R_a1 := n_a1
   clear n0_ n_x n_a1
   go_upto_if 245 with (fail)
   go_cut [] (fun wc => Aside0 (zhk k l1 = some r) ∧ Aside0 (Below w.heap.size w wc))
   case first =>
     have h := HH.out
     clear HH
     cases a2 with
     | true =>
       rw [if_pos rfl] at h
       replace h := Option.bind_eq_some_iff.1 h
       obtain ⟨i, hi, h⟩ := h
       try dsimp only at h
       by_cases hv : i = (true, true)
       rotate_left
       · rw [if_neg hv] at h
         cases h
       rw [if_pos hv] at h
       subst hv
       have Hi := zA hi
       have HH := zA h
       clear hi h
       go_wp2_with fail
       (with_reducible refine (zme k _ _ x v _ _ a1 true true _ R_x.out Q_x.out R_a1.out Q_a1.out Hi.out).mono ?_)
       rintro e w18_ ⟨rfl, hb⟩
       clear R_x Q_x
       clear R_a1 Q_a1
       replace HB := zA (zab HB.out hb)
       clear hb
       as_aux_lemma =>
         go_wp2_with fail
         go_meet
         case rel => exact ⟨HH, HB⟩
     | false =>
       rw [if_neg (by decide)] at h
       have HH := zA h
       clear h
       as_aux_lemma =>
         go_wp2_with fail
         go_meet
         case rel => exact ⟨HH, HB⟩
   clear HH HB Hd Ha Hb Hp Hq Hs R_x Q_x R_a1 Q_a1
   obtain ⟨HH, HB⟩ := hcut
   have h := HH.out
   clear HH
   unfold zhk at h
   replace h := Option.bind_eq_some_iff.1 h
   obtain ⟨⟨y, c'⟩, hd, h⟩ := h
   replace h := Option.bind_eq_some_iff.1 h
   obtain ⟨⟨f1, f2⟩, ha, h⟩ := h
   replace h := Option.bind_eq_some_iff.1 h
   obtain ⟨⟨g1, g2⟩, hb_, h⟩ := h
   replace h := Option.bind_eq_some_iff.1 h
   obtain ⟨⟨n1, n2⟩, hn, h⟩ := h
   replace h := Option.bind_eq_some_iff.1 h
   obtain ⟨⟨m1, m2⟩, hm, h⟩ := h
   replace h := Option.bind_eq_some_iff.1 h
   obtain ⟨s, hs, h⟩ := h
   try dsimp only at h
   by_cases hall : f2 = g2 ∧ s = true ∧ (n1, n2) = (m1, m2)
   rotate_left
   · rw [if_neg hall] at h
     cases h
   rw [if_pos hall] at h
   obtain ⟨rfl, rfl, hnm⟩ := hall
   obtain ⟨rfl, rfl⟩ := Prod.mk.inj hnm
   obtain rfl := zsi h
   clear hnm
   have Hd := zA hd
   have Ha := zA ha
   have Hb := zA hb_
   have Hn := zA hn
   have Hm := zA hm
   have Hs := zA hs
   clear hd ha hb_ hn hm hs
   go_wp2_with fail
   (with_reducible refine (zmk k _ _ l1 y c' _ (zCb HR1.out HB.out) HC1.out Hd.out).mono ?_)
   rintro e w19_ ⟨v, v', rfl, ho, ho', hb⟩
   obtain ⟨A9_, c9_, rfl⟩ := Kd.R_slice ho
   obtain ⟨A10_, c10_, rfl⟩ := Kd.R_slice ho'
   have R_y := zA (zRr ho).2.2
   have Q_y := zA (zRr ho).2.1
   clear ho
   have R_c' := zA (zRr ho').2.2
   have Q_c' := zA (zRr ho').2.1
   clear ho'
   replace HB := zA (zab HB.out hb)
   clear hb
   go_wp2_with fail
   (with_reducible refine (zki k _ _ y _ _ c' f1 f2 _ R_y.out Q_y.out R_c'.out Q_c'.out Ha.out).mono ?_)
   rintro e w20_ ⟨v, rfl, ho, hb⟩
   obtain ⟨A11_, c11_, rfl⟩ := Kd.R_slice ho
   have R_f1 := zA (zRr ho).2.2
   have Q_f1 := zA (zRr ho).2.1
   clear ho
   have n0_ := zA (zab HB.out hb)
   have n_y := zA (zCb R_y.out hb)
   have n_c' := zA (zCb R_c'.out hb)
   clear HB hb R_y R_c'
   have HB := n0_
   have R_y := n_y
   have R_c' := n_c'
   clear n0_ n_y n_c'
   go_wp2_with fail
   (with_reducible refine (zny k _ _ y _ _ c' g1 f2 _ R_y.out Q_y.out R_c'.out Q_c'.out Hb.out).mono ?_)
   rintro e w21_ ⟨v, rfl, ho, hb⟩
   obtain ⟨A12_, c12_, rfl⟩ := Kd.R_slice ho
   have R_g1 := zA (zRr ho).2.2
   have Q_g1 := zA (zRr ho).2.1
   clear ho
   have n0_ := zA (zab HB.out hb)
   have n_y := zA (zCb R_y.out hb)
   have n_c' := zA (zCb R_c'.out hb)
   have n_f1 := zA (zCb R_f1.out hb)
   clear HB hb R_y R_c' R_f1
   have HB := n0_
   have R_y := n_y
   have R_c' := n_c'
   have R_f1 := n_f1
   clear n0_ n_y n_c' n_f1
   go_wp2_with fail
   (with_reducible refine (zng k _ _ y _ _ c' n1 n2 _ R_y.out Q_y.out R_c'.out Q_c'.out Hn.out).mono ?_)
   rintro e w22_ ⟨rfl, hb⟩
   have n0_ := zA (zab HB.out hb)
   have n_y := zA (zCb R_y.out hb)
   have n_c' := zA (zCb R_c'.out hb)
   have n_f1 := zA (zCb R_f1.out hb)
   have n_g1 := zA (zCb R_g1.out hb)
   clear HB hb R_y R_c' R_f1 R_g1
   have HB := n0_
   have R_y := n_y
   have R_c' := n_c'
   have R_f1 := n_f1
   have R_g1 := n_g1
   clear n0_ n_y n_c' n_f1 n_g1
   go_wp2_with fail
   (with_reducible refine (zqs k _ _ y _ _ c' n1 n2 _ R_y.out Q_y.out R_c'.out Q_c'.out Hm.out).mono ?_)
   rintro e w23_ ⟨rfl, hb⟩
   clear R_y Q_y
   clear R_c' Q_c'
   have n0_ := zA (zab HB.out hb)
   have n_f1 := zA (zCb R_f1.out hb)
   have n_g1 := zA (zCb R_g1.out hb)
   clear HB hb R_f1 R_g1
   have HB := n0_
   have R_f1 := n_f1
   have R_g1 := n_g1
   clear n0_ n_f1 n_g1
   go_wp2_with fail
   (with_reducible refine (zpb k _ _ f1 _ _ g1 true _ R_f1.out Q_f1.out R_g1.out Q_g1.out Hs.out).mono ?_)
   rintro e w24_ ⟨rfl, hb⟩
   replace hb := zib hb
   clear R_f1 Q_f1
   clear R_g1 Q_g1
   replace HB := zA (zab HB.out hb)
   clear hb
   go_wp2_with fail
   go_ret
   exact ⟨rfl, HB.out⟩
end Go.Proofs.YtabnafbgcpchdaaGreat.Q
end
section
namespace Go.Proofs.YtabnafbgcpchdaaGreat.Rd
open Go Go.RowKit Go.Proofs.YtabnafbgcpchdaaGreatW.PrintWords Go.Proofs.YtabnafbgcpchdaaGreatW.PrintLast Go.ChangeShapes Go.WideShapes Go.Deep
set_option linter.unusedSimpArgs false
set_option linter.unusedVariables false
structure RdK {α : Type} (d : Kd α) (P : Program) (t : TypeId) (Good : α → Prop) : Prop where
  size : P.cellsOf t = d.sz
  get : ∀ {H : Type} {enc : TypeId × Value → H} {w : World} {n : Nat} {cs : List Value} {x : DataW H × List MemPlace}, DataW.trod enc P w 0 (fun _ => true) true n t cs = some x → ∃ a, d.K w a cs ∧ Good a
def okInt (k : IntKind) (n : Int) : Prop := (Lit.int k n).wf = true
def okSl {α : Type} (G : α → Prop) (xs : List α) : Prop := xs.length ≤ maxLen ∧ ∀ x ∈ xs, G x
theorem rk_int {P : Program} {t : TypeId} {k : IntKind} (ht : P.underlying t = some (.int k)) (hs : P.cellsOf t = 1) : RdK (Kd.int k) P t (okInt k) :=
  ⟨hs, fun h => by obtain ⟨n, rfl, _, hw⟩ := DataW.trod_int ht h; exact ⟨n, rfl, hw⟩⟩
theorem rk_slice {α : Type} {d : Kd α} {P : Program} {t e : TypeId} {G : α → Prop} (hd : RdK d P e G) (ht : P.underlying t = some (.slice e)) (hs : P.cellsOf t = 1) : RdK (Kd.slice e d) P t (okSl G) := by
  refine ⟨hs, fun {H enc w n cs x} h => ?_⟩
  rcases open_slice ht h with ⟨rfl, _⟩ | ⟨a, len, cap, m, n', D, Pl, rfl, _, hl, hm, hmm, _, hx⟩
  · exact ⟨[], ⟨none, 0, rfl, Nat.le_refl _, rfl, Nat.zero_le _, fun h => absurd h (Nat.lt_irrefl 0)⟩, Nat.zero_le _, fun _ h => by cases h⟩
  · have hc : m = cap := by simpa using hmm
    subst hc
    have key : ∀ i : Fin len, ∃ a' : α, ∃ cs', d.K w a' cs' ∧ G a' ∧ w.cells? 0 (a.add (i * P.cellsOf e)) (P.cellsOf e) = some cs' := fun i => by
      obtain ⟨cs', h1, h2⟩ := hx i (by omega)
      obtain ⟨a', h3, h4⟩ := hd.get h2
      exact ⟨a', cs', h3, h4, h1⟩
    have hlen : (List.ofFn fun i => Classical.choose (key i)).length = len := List.length_ofFn
    refine ⟨List.ofFn fun i => Classical.choose (key i), ⟨some a, m, by rw [hlen], by omega, hlen.trans hlen.symm, ?_, fun _ => ⟨a, rfl, fun j p hj => ?_⟩⟩, by rw [hlen]; omega, fun y hy => ?_⟩
    · rw [hlen]; unfold maxLen at hm; omega
    · have hjl : j < len := by
        have := (List.getElem?_eq_some_iff.1 hj).1
        rwa [hlen] at this
      rw [List.getElem?_ofFn, dif_pos hjl, Option.some.injEq] at hj
      obtain ⟨cs', h1, h2, h3⟩ := Classical.choose_spec (key ⟨j, hjl⟩)
      rw [hj] at h1 h2
      obtain ⟨_, h5, h6⟩ := World.cells?_some h3
      refine ⟨cs', d.K_len h1, h1, fun i u hi => ?_⟩
      have hil : i < P.cellsOf e := by
        have := (List.getElem?_eq_some_iff.1 hi).1
        omega
      have := h6 i hil
      rw [Go.Deep.add_add] at this
      rw [← hd.size]
      exact this.trans hi
    · obtain ⟨i, rfl⟩ := List.mem_ofFn.1 hy
      obtain ⟨cs', h1, h2, h3⟩ := Classical.choose_spec (key i)
      exact h2
structure RdF {α : Type} (d : Kd α) (P : Program) (fs : List Field) (off : Nat) (Good : α → Prop) : Prop where
  get : ∀ {H : Type} {enc : TypeId × Value → H} {w : World} {n : Nat} {cs : List Value}, cs.length = off + d.sz →
    (∀ f ∈ fs, ∃ y, DataW.trod enc P w 0 (fun _ => true) true n f.type ((cs.drop f.offset).take (P.cellsOf f.type)) = some y) → ∃ a, d.K w a (cs.drop off) ∧ Good a
theorem arg_slice {α : Type} {d : Kd α} {P : Program} {t e : TypeId} {G : α → Prop} (hd : RdK (Kd.slice e d) P t (okSl G)) {H : Type} {enc : TypeId × Value → H} {w : World} {a : Option Addr} {len cap : Nat} {x : DataW H} {ps : List MemPlace}
    (h : DataW.Trod enc P w 0 (fun _ => true) true t (.slice a len cap) x ps) : ∃ xs : List α, len = xs.length ∧ xs.length ≤ cap ∧ Kd.C d w a xs.length xs ∧ okSl G xs := by
  obtain ⟨n, hn⟩ := h
  obtain ⟨xs, ⟨A, c, he, hl, hc⟩, hg⟩ := hd.get hn
  simp [Value.cells] at he
  obtain ⟨rfl, rfl, rfl⟩ := he
  exact ⟨xs, rfl, hl, hc, hg⟩
end Go.Proofs.YtabnafbgcpchdaaGreat.Rd
end
section
namespace Go.Proofs.YtabnafbgcpchdaaGreat.Q
open Go.RowKit Go.Proofs.YtabnafbgcpchdaaGreatW.PrintWords Go.Proofs.YtabnafbgcpchdaaGreatW.PrintLast Go.Proofs.YtabnafbgcpchdaaGreatW.PrintMore
attribute [local go_sem] zk3 zk4 zmp zmq zjg zjh zk5 zk6
set_option linter.unusedVariables false
set_option linter.unusedSimpArgs false
def laws_FnSchedules.Pure : Prop := ∀ (a0 : List Int) (a1 : List Int), (Rd.okSl (Rd.okInt .u8)) a0 → (Rd.okSl (Rd.okInt .u8)) a1 → ∃ k, ziv k a0 a1 = some true
section
variable (A0 : Option Addr) (c0 n w : Nat) (all : List (List Int)) (last : List Int) (Al : Option Addr) (cl : Nat) (AL : Option Addr) (cL gc ga gl gw gf : Nat)
end
end Go.Proofs.YtabnafbgcpchdaaGreat.Q
end
section
namespace Go.Proofs.YtabnafbgcpchdaaGreat.PL
open Go Go.RowKit Go.Proofs.YtabnafbgcpchdaaGreatW.PrintWords Go.Proofs.YtabnafbgcpchdaaGreatW.PrintLast Go.Proofs.YtabnafbgcpchdaaGreatW.PrintMore Go.Proofs.YtabnafbgcpchdaaGreat.Q
set_option linter.unusedSimpArgs false
set_option linter.unusedVariables false
theorem w64 {x : Int} (h1 : -9223372036854775808 ≤ x) (h2 : x < 9223372036854775808) : wrap64 x = x := by unfold wrap64; omega
theorem w64n (i : Nat) (h : i < 4611686018427387904) : wrap64 ((i : Int) + 1) = ((i + 1 : Nat) : Int) := by unfold wrap64; omega
theorem Ev.some {α : Type} {a r : α} (h : a = r) : Ev (fun _ => some a) r := h ▸ Ev.now a
theorem zyk {α : Type} {g : Option α} {r : α} (h : g = Option.some r) : Ev (fun _ => g) r := by rw [h]; exact Ev.now r
theorem zpi {α : Type} {g : Nat → Option α} {r s : α} (h : Ev g r) (e : r = s) : Ev g s := e ▸ h
theorem zac {α : Type} {c : Prop} [Decidable c] {g g' : Nat → Option α} {r : α} (h : c) (H : Ev g r) : Ev (fun k => if c then g k else g' k) r := zy7 (fun _ => if_pos h) H
theorem zaq {α : Type} {c : Prop} [Decidable c] {g g' : Nat → Option α} {r : α} (h : ¬ c) (H : Ev g' r) : Ev (fun k => if c then g k else g' k) r := zy7 (fun _ => if_neg h) H
theorem Ev.call {α β : Type} {g : Option α} {f : Nat → α → Option β} {a : α} {r : β} (h : g = Option.some a) (k : Ev (fun n => f n a) r) : Ev (fun n => g.bind (f n)) r := by
  rw [h]; exact k
theorem zz5 {σ ρ : Type} (n : Nat) (L : Nat → σ → Int → Option ρ) (M : Nat → σ → ρ) (hend : ∀ s, Ev (fun k => L k s n) (M n s))
    (hstep : ∀ (i : Nat) s, i < n → (∀ s', Ev (fun k => L k s' ((i + 1 : Nat) : Int)) (M (i + 1) s')) → Ev (fun k => L k s i) (M i s)) :
    ∀ (d i : Nat) s, i + d = n → Ev (fun k => L k s i) (M i s)
  | 0, i, s, h => by
    have e : i = n := by omega
    rw [e]
    exact hend s
  | d + 1, i, s, h => hstep i s (by omega) (fun s' => zz5 n L M hend hstep d (i + 1) s' (by omega))
theorem zrw {α σ ρ : Type} (xs : List α) (L : Nat → σ → Int → Option ρ) (m : List α → σ → ρ) (hend : ∀ s, Ev (fun k => L k s (xs.length : Nat)) (m [] s))
    (hstep : ∀ (i : Nat) s x rest, i < xs.length → (∀ d, xs.getD i d = x) → (∀ s', Ev (fun k => L k s' ((i + 1 : Nat) : Int)) (m rest s')) → Ev (fun k => L k s i) (m (x :: rest) s)) (s : σ) :
    Ev (fun k => L k s 0) (m xs s) := by
  have := zz5 xs.length L (fun i s => m (xs.drop i) s) (fun s => by simpa using hend s) (fun i s hi ih => by
    have e : xs.drop i = xs[i] :: xs.drop (i + 1) := List.drop_eq_getElem_cons hi
    show Ev (fun k => L k s i) (m (xs.drop i) s)
    rw [e]
    exact hstep i s xs[i] _ hi (fun d => by simp [List.getD, List.getElem?_eq_getElem hi]) ih) xs.length 0 s (by omega)
  simpa using this
def idx {α : Type} (p : α → Bool) : List α → Int
  | [] => -1
  | x :: xs => if p x = true then 0 else if idx p xs < 0 then -1 else idx p xs + 1
theorem zov {α : Type} (p : α → Bool) (xs : List α) : 0 ≤ idx p xs ↔ ∃ x ∈ xs, p x = true := by
  induction xs with
  | nil => simp [idx]
  | cons x xs ih =>
    unfold idx
    by_cases h : p x = true
    · simp [h]
    · by_cases h2 : idx p xs < 0
      · rw [if_neg h, if_pos h2]
        have : ¬ ∃ x ∈ xs, p x = true := fun e => by have := ih.2 e; omega
        simp [h]
        simpa using this
      · rw [if_neg h, if_neg h2]
        have := ih.1 (by omega)
        simp [h]
        exact ⟨fun _ => this, fun _ => by omega⟩
theorem yey {α : Type} (p : α → Bool) (xs : List α) : -1 ≤ idx p xs := by
  induction xs with
  | nil => unfold idx; simp
  | cons x xs ih => unfold idx; split; · decide
                    · split <;> omega
theorem zpw {α : Type} (xs : List α) (p : α → Bool) (L : Nat → Int → Option Int) (hend : Ev (fun k => L k (xs.length : Nat)) (-1))
    (hyes : ∀ (i : Nat) x, i < xs.length → (∀ d, xs.getD i d = x) → p x = true → Ev (fun k => L k i) (i : Int))
    (hno : ∀ (i : Nat) x r, i < xs.length → (∀ d, xs.getD i d = x) → p x = false → Ev (fun k => L k ((i + 1 : Nat) : Int)) r → Ev (fun k => L k i) r) : Ev (fun k => L k 0) (idx p xs) := by
  have key : ∀ (d i : Nat), i + d = xs.length → Ev (fun k => L k i) (if idx p (xs.drop i) < 0 then -1 else idx p (xs.drop i) + i) := by
    intro d
    induction d with
    | zero =>
      intro i hi
      rw [List.drop_of_length_le (by omega), if_pos (show idx p [] < 0 by unfold idx; decide)]
      have e : i = xs.length := by omega
      rw [e]; exact hend
    | succ d ih =>
      intro i hi
      have hlt : i < xs.length := by omega
      have e : xs.drop i = xs[i] :: xs.drop (i + 1) := List.drop_eq_getElem_cons hlt
      have hg : ∀ d, xs.getD i d = xs[i] := fun d => by simp [List.getD, List.getElem?_eq_getElem hlt]
      rw [e]
      unfold idx
      by_cases h : p xs[i] = true
      · rw [if_pos h, if_neg (by decide)]
        simpa using hyes i _ hlt hg h
      · refine hno i _ _ hlt hg (by simpa using h) (zpi (ih (i + 1) (by omega)) ?_)
        rw [if_neg h]
        by_cases h2 : idx p (xs.drop (i + 1)) < 0
        · rw [if_pos h2, if_pos h2, if_pos (by decide)]
        · rw [if_neg h2, if_neg h2, if_neg (by omega)]
          omega
  have := key xs.length 0 (by omega)
  simp only [List.drop_zero, Int.natCast_zero, Int.add_zero] at this
  refine zpi this ?_
  have := yey p xs
  split <;> omega
theorem ycs {α : Type} (xs : List α) (p : α → Bool) (L : Nat → Int → Option Bool) (hend : Ev (fun k => L k (xs.length : Nat)) true)
    (hno : ∀ (i : Nat) x, i < xs.length → (∀ d, xs.getD i d = x) → p x = false → Ev (fun k => L k i) false)
    (hyes : ∀ (i : Nat) x r, i < xs.length → (∀ d, xs.getD i d = x) → p x = true → Ev (fun k => L k ((i + 1 : Nat) : Int)) r → Ev (fun k => L k i) r) : Ev (fun k => L k 0) (xs.all p) := by
  refine zrw (σ := Unit) xs (fun k _ i => L k i) (fun l _ => l.all p) (fun _ => hend) (fun i _ x rest hi hx ih => ?_) ()
  by_cases h : p x = true
  · exact hyes i x _ hi hx h (zpi (ih ()) (by simp [h]))
  · have h' : p x = false := by simpa using h
    exact zpi (hno i x hi hx h') (by simp [h'])
theorem znq {xs : List Int} {i : Nat} {x : Int} (h : ∀ d, xs.getD i d = x) : rd xs i = x := by unfold rd; rw [Int.toNat_natCast]; exact h 0
theorem ydt {α : Type} {d0 : α} {xs : List α} {i : Nat} {x : α} (h : ∀ d, xs.getD i d = x) : rdOf d0 xs i = x := by unfold rdOf; rw [Int.toNat_natCast]; exact h d0
theorem zrx {xs : List S55} {i : Nat} {x : S55} (h : ∀ d, xs.getD i d = x) : zaa xs i = x := by unfold zaa; rw [Int.toNat_natCast]; exact h _
theorem zhm {α : Type} (xs : List α) (i : Nat) (h : i < xs.length) : ∀ d, xs.getD i d = xs[i] := fun d => by simp [List.getD, List.getElem?_eq_getElem h]
abbrev Instr := S55
abbrev zI : Instr := z55
theorem ztw (l : List Instr) (i : Nat) : zaa l (i : Int) = l.getD i zI := by unfold zaa; rw [Int.toNat_natCast]
theorem yby (l : List Instr) (i j : Nat) (h : j < i) : zaa (l.take i) (j : Int) = l.getD j zI := by
  rw [ztw]
  simp only [List.getD, List.getElem?_take, if_pos h]
theorem zss (A B : List Int) (x : Int) (i : Nat) (h : A.length = i) : rd (A ++ x :: B) (i : Int) = x := by
  subst h
  refine znq (fun d => ?_)
  simp [List.getD]
theorem zk2 {α : Type} (A B : List α) (x y : α) (i : Nat) (h : A.length = i) : (A ++ x :: B).set ((i : Int)).toNat y = A ++ y :: B := by
  subst h
  rw [Int.toNat_natCast, List.set_append_right _ _ (Nat.le_refl _), Nat.sub_self]
  rfl
theorem zz6 {α : Type} (A B : List α) (x y : α) (i : Nat) (h : A.length = i) : (A ++ x :: B).set i y = A ++ y :: B := by
  subst h
  rw [List.set_append_right _ _ (Nat.le_refl _), Nat.sub_self]
  rfl
theorem zxt (A B : List (List Int)) (x : List Int) (i : Nat) (h : A.length = i) : za5 (A ++ x :: B) (i : Int) = x := by
  subst h
  unfold za5
  rw [Int.toNat_natCast]
  simp [List.getD]
theorem okAt {P : Instr → Prop} (l : List Instr) (i : Nat) (h : i < l.length) (ok : ∀ x ∈ l, P x) : P (l.getD i zI) := by
  rw [zhm l i h]
  exact ok _ (List.getElem_mem h)
def zi6 (c : Nat) : Bool × Bool × Bool × Int × Int :=
  match c with
  | 0 => (true, false, false, 0, 63)
  | 1 => (true, true, false, 0, 0)
  | 2 => (true, true, true, 0, 0)
  | 3 => (true, true, true, 0, 0)
  | 4 => (true, true, true, 0, 0)
  | 5 => (true, true, false, 0, 63)
  | 6 => (true, true, false, 1, 5)
  | 7 => (true, true, true, 1, 3)
  | _ => (false, false, false, 0, 0)
theorem zwf : ∀ p ∈ ops, ze6 20 p.1 = some (zi6 p.2) := by decide +kernel
theorem zwg (s : ByteArray) : zj7 s = some (znw (cls s) s) := rfl
theorem zti (s : ByteArray) : Ev (fun k => ze6 k s) (zi6 (cls s)) := by
  refine zte (P := fun s => Ev (fun k => ze6 k s) (zi6 (cls s))) s (fun p hp => ?_) (fun h => ?_)
  · rw [zzy p hp]
    exact yfr (zgx _) (zwf p hp)
  · rw [ztf h]
    obtain ⟨h0, h1, h2, h3, h4, h5, h6, h7, h8, h9, h10, h11, h12, h13, h14, h15, h16, h17, h18, h19⟩ := zxj h
    refine yfr (zgx _) (k := 5) ?_
    simp only [ze6, ze0, zcm, ze1, zfp, h0, h1, h2, h3, h4, h5, h6, h7, h8, h9, h10, h11, h12, h13, h14, h15, h16, h17, h18, h19, if_false, beq_iff_eq]
    rfl
theorem znr (a b c : Int) : zf7 a b c = some (decide (b ≤ a ∧ a ≤ c)) := by
  unfold zf7
  by_cases h : b ≤ a <;> simp [h]
theorem zqu (a b c : Int) : zj1 a b c = some (decide (b ≤ a ∧ a ≤ c)) := by
  unfold zj1
  by_cases h : a ≥ b
  · rw [if_pos h]; congr 1; rw [decide_eq_decide]; omega
  · rw [if_neg h]; congr 1; symm; rw [decide_eq_false_iff_not]; omega
theorem ybz (a : Int) : zj2 a = some (decide (0 ≤ a ∧ a ≤ 5)) := by
  unfold zj2
  rw [zqu]; rfl
def okI (x : Instr) : Prop := cls x.f0 ≠ 8 ∧ (0 ≤ x.f1 ∧ x.f1 ≤ 5) ∧ ((zi6 (cls x.f0)).2.1 = true ∧ 0 ≤ x.f2 ∧ x.f2 ≤ 5 ∨ x.f2 = 0) ∧ ((zi6 (cls x.f0)).2.2.1 = true ∧ 0 ≤ x.f3 ∧ x.f3 ≤ 5 ∨ x.f3 = 0) ∧ (zi6 (cls x.f0)).2.2.2.1 ≤ x.f4 ∧ x.f4 ≤ (zi6 (cls x.f0)).2.2.2.2
instance (x : Instr) : Decidable (okI x) := by unfold okI; infer_instance
theorem zz7 (s : ByteArray) : cls s ≤ 8 := by
  refine zte (P := fun s => cls s ≤ 8) s (by decide +kernel) (fun h => by rw [ztf h]; exact Nat.le_refl _)
theorem zwh (s : ByteArray) : cls s = 0 ∨ cls s = 1 ∨ cls s = 2 ∨ cls s = 3 ∨ cls s = 4 ∨ cls s = 5 ∨ cls s = 6 ∨ cls s = 7 ∨ cls s = 8 := by have := zz7 s; omega
theorem zus (x : Instr) : zkp x.f0 x.f1 x.f2 x.f3 x.f4 = some (decide (okI x)) := by
  unfold zkp
  congr 1
  obtain ⟨s, d, a, b, m⟩ := x
  simp only [okI]
  rw [Bool.eq_iff_iff]
  simp only [okF, Bool.and_eq_true, Bool.or_eq_true, decide_eq_true_eq, Bool.not_eq_true', decide_eq_false_iff_not]
  rcases zwh s with h | h | h | h | h | h | h | h | h <;> simp only [h, znw, zi6] <;> simp <;> omega
theorem zwi (x : Instr) : Ev (fun k => zio k x.f0 x.f1 x.f2 x.f3 x.f4) (decide (okI x)) := by
  unfold zio
  refine Ev.bind (zti x.f0) (zyk ?_)
  obtain ⟨s, d, a, b, m⟩ := x
  simp only [zqu, ybz, Option.bind_some, okI]
  rcases zwh s with h | h | h | h | h | h | h | h | h <;> simp only [h, zi6] <;> by_cases h1 : 0 ≤ d ∧ d ≤ 5 <;> by_cases h2 : 0 ≤ a ∧ a ≤ 5 <;> by_cases h3 : 0 ≤ b ∧ b ≤ 5 <;> (try simp [h1, h2, h3]) <;> (repeat' split) <;> (try (rw [Bool.eq_iff_iff]; simp only [Bool.and_eq_true, decide_eq_true_eq, beq_iff_eq, true_iff, false_iff, Bool.false_eq_true, iff_false, iff_true])) <;> (try simp only [Option.some.injEq]) <;> (try (rw [Bool.eq_iff_iff]; simp only [Bool.and_eq_true, decide_eq_true_eq, beq_iff_eq, true_iff, false_iff, Bool.false_eq_true, iff_false, iff_true])) <;> (try omega)
def zjf (c : Nat) : Int := match c with | 3 => 2 | 4 => 4 | 8 => 0 | _ => 1
theorem zvg : ∀ p ∈ ops, zhu p.1 = some (zjf p.2) := by decide +kernel
theorem zze (c : Nat) (s : ByteArray) (hc : c ≤ 8) : (znw c s).2.2.2.2.1 = zjf c := by
  rcases (show c = 0 ∨ c = 1 ∨ c = 2 ∨ c = 3 ∨ c = 4 ∨ c = 5 ∨ c = 6 ∨ c = 7 ∨ c = 8 by omega) with h | h | h | h | h | h | h | h | h <;> subst h <;> rfl
theorem zvh (x : Instr) : zem x.f0 x.f1 x.f2 x.f3 x.f4 = some (zjf (cls x.f0)) := by
  unfold zem
  rw [zwg, Option.bind_some, zze _ _ (zz7 _)]
theorem zry (s : ByteArray) (h : cls s ≠ 8) : zhu s = some (zjf (cls s)) := by
  refine zte (P := fun s => cls s ≠ 8 → zhu s = some (zjf (cls s))) s (fun p hp _ => ?_) (fun hn h => absurd (ztf hn) h) h
  rw [zvg p hp, zzy p hp]
theorem zp8 (c : Nat) : 0 ≤ zjf c ∧ zjf c ≤ 4 := by unfold zjf; split <;> omega
theorem yez (c : Nat) (s : ByteArray) (h : c ≤ 8) : (znw c s).1 = (zi6 c).2.1 := by
  rcases (show c = 0 ∨ c = 1 ∨ c = 2 ∨ c = 3 ∨ c = 4 ∨ c = 5 ∨ c = 6 ∨ c = 7 ∨ c = 8 by omega) with h | h | h | h | h | h | h | h | h <;> subst h <;> rfl
theorem ye0 (c : Nat) (s : ByteArray) (h : c ≤ 8) : (znw c s).2.1 = (zi6 c).2.2.1 := by
  rcases (show c = 0 ∨ c = 1 ∨ c = 2 ∨ c = 3 ∨ c = 4 ∨ c = 5 ∨ c = 6 ∨ c = 7 ∨ c = 8 by omega) with h | h | h | h | h | h | h | h | h <;> subst h <;> rfl
def two (a b : Int) : List Int := if a < b then [a, b] else if a = b then [a] else [b, a]
def zml (x : Instr) : List Int :=
  if (zi6 (cls x.f0)).2.1 = true then (if (zi6 (cls x.f0)).2.2.1 = true then two x.f2 x.f3 else [x.f2]) else (if (zi6 (cls x.f0)).2.2.1 = true then [x.f3] else [])
theorem zp9 (x : Instr) : (zml x).length ≤ 2 := by
  unfold zml two
  repeat' split
  all_goals simp
theorem ye1 : ([] : List Int).mergeSort (fun x y => decide (x ≤ y)) = [] := by simp
theorem ye2 (a : Int) : [a].mergeSort (fun x y => decide (x ≤ y)) = [a] := by simp
theorem ye3 (a b : Int) : [a, b].mergeSort (fun x y => decide (x ≤ y)) = if a ≤ b then [a, b] else [b, a] := by
  by_cases h : a ≤ b
  · rw [if_pos h]
    exact List.mergeSort_of_pairwise (by simp [h])
  · rw [if_neg h]
    have p : [a, b].mergeSort (fun x y => decide (x ≤ y)) |>.Perm [b, a] := (List.mergeSort_perm _ _).trans (List.Perm.swap _ _ _)
    have s := List.pairwise_mergeSort (le := fun x y : Int => decide (x ≤ y)) (fun a b c h1 h2 => by simp at *; omega) (fun a b => by simp; omega) [a, b]
    refine List.Perm.eq_of_pairwise (le := fun x y : Int => decide (x ≤ y) = true) (fun a b _ _ h1 h2 => by simp at *; omega) s ?_ p
    simp; omega
theorem ye4 : Go.Lib.compact ([] : List Int) = [] := rfl
theorem ye5 (a : Int) : Go.Lib.compact [a] = [a] := rfl
theorem yct (a b : Int) : Go.Lib.compact [a, b] = if b = a then [a] else [a, b] := by
  show (([0, 1] : List Nat).filter (Go.Lib.keeps #[a, b])).map (#[a, b][·]!) = _
  by_cases h : b = a
  · simp [Go.Lib.keeps, h]
  · simp [Go.Lib.keeps, h]
def twoL : List Int → List Int
  | [a, b] => two a b
  | l => l
theorem zxu (l : List Int) (h : l.length ≤ 2) : ∃ m, zdq l = some m ∧ zcj m = some (twoL l) := by
  match l, h with
  | [], _ => exact ⟨[], by unfold zdq; rw [if_pos (by decide), ye1], by unfold zcj; rw [if_pos (by decide), ye4]; rfl⟩
  | [a], _ => exact ⟨[a], by unfold zdq; rw [if_pos (by simp), ye2], by unfold zcj; rw [if_pos (by simp), ye5]; rfl⟩
  | [a, b], _ =>
    refine ⟨_, by unfold zdq; rw [if_pos (by simp)], ?_⟩
    show zcj _ = some (two a b)
    rw [ye3]
    unfold zcj two
    by_cases h : a ≤ b
    · rw [if_pos h, if_pos (by simp), yct]
      by_cases e : a = b
      · rw [if_pos e.symm, if_neg (by omega), if_pos e]
      · rw [if_neg (fun q => e q.symm), if_pos (by omega)]
    · rw [if_neg h, if_pos (by simp), yct, if_neg (by omega), if_neg (by omega), if_neg (by omega)]
theorem zyl (x : Instr) : Ev (fun k => zea k x.f0 x.f1 x.f2 x.f3 x.f4) (zml x) := by
  unfold zea
  refine Ev.call (zwg x.f0) (Ev.call rfl ?_)
  have c8 := zz7 x.f0
  rw [yez _ _ c8, ye0 _ _ c8]
  unfold zml
  have fin : ∀ (l : List Int), l.length ≤ 2 → Ev (fun _ => (zdq l).bind fun t => (zcj t).bind fun t' => some t') (twoL l) := fun l hl => by
    obtain ⟨m, h1, h2⟩ := zxu l hl
    exact Ev.call h1 (Ev.call h2 (Ev.now _))
  by_cases ha : (zi6 (cls x.f0)).2.1 = true
  · refine zac ha (zac (by simp) (zai (fun k => by simp only [zcp]; rfl) ?_))
    by_cases hb : (zi6 (cls x.f0)).2.2.1 = true
    · refine zac hb (zac (by simp) ?_)
      rw [if_pos ha, if_pos hb]
      exact fin [x.f2, x.f3] (by simp)
    · refine zaq hb ?_
      rw [if_pos ha, if_neg hb]
      exact fin [x.f2] (by simp)
  · refine zaq ha (zai (fun k => by simp only [zcp]; rfl) ?_)
    by_cases hb : (zi6 (cls x.f0)).2.2.1 = true
    · refine zac hb (zac (by simp) ?_)
      rw [if_neg ha, if_pos hb]
      exact fin [x.f3] (by simp)
    · refine zaq hb ?_
      rw [if_neg ha, if_neg hb]
      exact fin [] (by simp)
theorem zz8 (n : Int) : Ev (fun k => zgk k [] n) [n] := by
  unfold zgk
  refine zai (f := fun _ => some [n]) (fun k => ?_) (Ev.now _)
  simp only [zfu]
  rw [if_neg (by simp)]
  rfl
theorem ydu (a n : Int) : Ev (fun k => zgk k [a] n) (two a n) := by
  unfold zgk two
  refine zai (fun k => by simp only [zfu, show rd [a] 0 = a from rfl]; rfl) (zac (by simp) (zac (by decide) ?_))
  by_cases h : a < n
  · rw [if_pos h]
    refine zac h (zai (f := fun _ => some [a, n]) (fun k => ?_) (Ev.now _))
    rw [show wrap64 (0 + 1) = 1 from by unfold wrap64; omega]
    simp only [zfu]
    rw [if_neg (by simp)]
    rfl
  · refine zaq h ?_
    rw [if_neg h]
    by_cases e : a = n
    · refine zac e ?_
      rw [if_pos e]
      exact Ev.now _
    · refine zaq e ?_
      rw [if_neg e]
      exact zyk rfl
theorem zut (x : Instr) : Ev (fun k => zg8 k x.f0 x.f1 x.f2 x.f3 x.f4) (zml x) := by
  unfold zg8 zml
  refine Ev.bind (zti x.f0) ?_
  by_cases ha : (zi6 (cls x.f0)).2.1 = true
  · refine zac ha (Ev.bind (zz8 x.f2) ?_)
    by_cases hb : (zi6 (cls x.f0)).2.2.1 = true
    · refine zac hb (Ev.bind (ydu x.f2 x.f3) ?_)
      rw [if_pos ha, if_pos hb]
      exact Ev.now _
    · refine zaq hb ?_
      rw [if_pos ha, if_neg hb]
      exact Ev.now _
  · refine zaq ha ?_
    by_cases hb : (zi6 (cls x.f0)).2.2.1 = true
    · refine zac hb (Ev.bind (zz8 x.f3) ?_)
      rw [if_neg ha, if_pos hb]
      exact Ev.now _
    · refine zaq hb ?_
      rw [if_neg ha, if_neg hb]
      exact Ev.now _
theorem zns (l : List Int) (n : Int) (hl : l.length ≤ 1048576) : Ev (fun k => zbo k l n) (decide (n ∈ l)) := by
  have hs : Ev (fun k => zdx k l n) (idx (fun x => decide (n = x)) l) := by
    unfold zdx
    refine zpw l _ (fun k i => zbr k l n l.length i) ?_ (fun i x hi hx hp => ?_) (fun i x r hi hx hp hr => ?_)
    · refine zai (f := fun _ => some (-1)) (fun k => ?_) (Ev.now _)
      simp only [zbr]
      rw [if_neg (by omega)]
    · exact zai (fun k => by simp only [zbr, znq hx]; rfl) (zac (by omega) (zac (by omega) (zac (by omega) (zac (of_decide_eq_true hp) (Ev.now _)))))
    · refine zai (fun k => by simp only [zbr, znq hx]; rfl) (zac (by omega) (zac (by omega) (zac (by omega) (zaq (of_decide_eq_false hp) ?_))))
      rw [w64n i (by omega)]
      exact hr
  unfold zbo
  refine Ev.bind hs (Ev.some ?_)
  have e := zov (fun x => decide (n = x)) l
  rw [decide_eq_decide]
  constructor
  · intro h
    obtain ⟨x, hx, hx'⟩ := e.1 h
    rw [of_decide_eq_true hx']
    exact hx
  · exact fun h => e.2 ⟨n, h, decide_eq_true rfl⟩
theorem zym (l : List Int) (n : Int) (hl : l.length ≤ 1048576) : Ev (fun k => zhz k l n) (decide (n ∈ l)) := by
  unfold zhz
  refine zrw (σ := Unit) l (fun k _ i => zft k n l l.length i) (fun rest _ => decide (n ∈ rest)) (fun _ => ?_) (fun i _ x rest hi hx ih => ?_) ()
  · refine zai (f := fun _ => some false) (fun k => ?_) (Ev.some (by simp))
    simp only [zft]
    rw [if_neg (by omega)]
  · refine zai (fun k => by simp only [zft, znq hx]; rfl) (zac (by omega) (zac (by omega) (zac (by omega) ?_)))
    by_cases h : x = n
    · exact zac h (Ev.some (by simp [h]))
    · refine zaq h ?_
      rw [w64n i (by omega)]
      refine zpi (ih ()) ?_
      rw [decide_eq_decide, List.mem_cons]
      exact ⟨.inr, fun q => q.elim (fun e => absurd e.symm h) id⟩
def zxv (l : List Instr) (j i : Nat) : Bool := ((l.take i).drop (j + 1)).any fun z => decide (z.f1 = (l.getD j zI).f1)
def dlyB (x y : Instr) (over : Bool) : Int :=
  if x.f1 ∈ zml y ∧ over = false then max (if x.f1 = y.f1 then 1 else if y.f1 ∈ zml x then 0 else -1) (zjf (cls x.f0)) else if x.f1 = y.f1 then 1 else if y.f1 ∈ zml x then 0 else -1
def dly (l : List Instr) (j i : Nat) : Int := dlyB (l.getD j zI) (l.getD i zI) (zxv l j i)
theorem zpx (l : List Instr) (j i : Nat) : -1 ≤ dly l j i ∧ dly l j i ≤ 4 := by
  have := zp8 (cls (l.getD j zI).f0)
  unfold dly dlyB
  repeat' split
  all_goals omega
def rowI (l : List Instr) (i m : Nat) : List Int := (List.range m).map fun j => dly l j i
theorem zz9 (l : List Instr) (i m : Nat) : rowI l i (m + 1) = rowI l i m ++ [dly l m i] := by simp [rowI, List.range_succ]
theorem zn8 (l : List Instr) (i m : Nat) : (rowI l i m).length = m := by simp [rowI]
def tabI (l : List Instr) (m : Nat) : List (List Int) := (List.range m).map fun i => rowI l i i
theorem yaa (l : List Instr) (m : Nat) : tabI l (m + 1) = tabI l m ++ [rowI l m m] := by simp [tabI, List.range_succ]
theorem zn9 (l : List Instr) (m : Nat) : (tabI l m).length = m := by simp [tabI]
theorem yb0 (a b : Int) : mx a b = max a b := by unfold mx; omega
theorem ydv (l : List Instr) (hl : l.length ≤ 1048576) (x : Instr) : Ev (fun k => za9 k l [x]) (l.any fun z => decide (z.f1 = x.f1)) := by
  have hs : Ev (fun k => zb1 k l [x]) (idx (fun z => decide (z.f1 = x.f1)) l) := by
    unfold zb1
    refine zpw l _ (fun k i => zax k l l.length i [x]) ?_ (fun i z hi hx hp => ?_) (fun i z r hi hx hp hr => ?_)
    · refine zai (f := fun _ => some (-1)) (fun k => ?_) (Ev.now _)
      simp only [zax]
      rw [if_neg (by omega)]
    · have hc : zh8 z.f0 z.f1 z.f2 z.f3 z.f4 [x] = some (z.f1 == x.f1) := by unfold zh8; rw [if_pos (by simp)]; rfl
      exact zai (fun k => by simp only [zax, zrx hx, hc, Option.bind_some]; rfl) (zac (by omega) (zac (by omega) (zac (by omega) (zac (by simpa using hp) (Ev.now _)))))
    · have hc : zh8 z.f0 z.f1 z.f2 z.f3 z.f4 [x] = some (z.f1 == x.f1) := by unfold zh8; rw [if_pos (by simp)]; rfl
      refine zai (fun k => by simp only [zax, zrx hx, hc, Option.bind_some]; rfl) (zac (by omega) (zac (by omega) (zac (by omega) (zaq (by simpa using hp) ?_))))
      rw [w64n i (by omega)]
      exact hr
  unfold za9
  refine Ev.bind hs (Ev.some ?_)
  have e := zov (fun z => decide (z.f1 = x.f1)) l
  cases h : l.any fun z => decide (z.f1 = x.f1) with
  | true =>
    obtain ⟨z, hz, hz'⟩ := List.any_eq_true.1 h
    exact decide_eq_true (e.2 ⟨z, hz, hz'⟩)
  | false =>
    refine decide_eq_false (fun q => ?_)
    obtain ⟨z, hz, hz'⟩ := e.1 q
    have := List.any_eq_false.1 h z hz
    exact this hz'
theorem zwj (i : Nat) (h : i ≤ 1048576) : zfd [(-1)] (i : Int) = some (List.replicate i (-1)) := by
  unfold zfd
  rw [if_pos ⟨by simp, by omega, by omega⟩, Int.toNat_natCast]
  rfl
section
variable (l : List Instr) (hl : l.length ≤ 1048576) (A B : List (List Int)) (i j : Nat) (hA : A.length = i) (hj : j < i) (hi : i < l.length)
include hl hA hj hi
theorem zwk (P Q : List Int) (t : Int) (hP : P.length = j) (T : List (List Int))
    (hc : Ev (fun k => zb7 k l (A ++ (P ++ (if (l.getD j zI).f1 ∈ zml (l.getD i zI) ∧ zxv l j i = false then max t (zjf (cls (l.getD j zI).f0)) else t) :: Q) :: B) i l l.length i (l.take i) i ((j + 1 : Nat) : Int) (l.getD i zI).f0 (l.getD i zI).f1 (l.getD i zI).f2 (l.getD i zI).f3 (l.getD i zI).f4) T) :
    Ev (fun k => zfm k l (A ++ (P ++ t :: Q) :: B) i j l l.length i (l.take i) i j (l.getD i zI).f0 (l.getD i zI).f1 (l.getD i zI).f2 (l.getD i zI).f3 (l.getD i zI).f4 (l.getD j zI).f0 (l.getD j zI).f1 (l.getD j zI).f2 (l.getD j zI).f3 (l.getD j zI).f4) T := by
  refine zai (fun k => by simp only [zfm]; rfl) ?_
  rw [w64n j (by omega)]
  refine zac (by omega) (zac (by omega) (zac (by omega) ?_))
  rw [Int.toNat_natCast, Int.toNat_natCast]
  have ho := ydv ((l.take i).drop (j + 1)) (by simp only [List.length_drop, List.length_take]; omega) (l.getD j zI)
  refine Ev.bind ho (Ev.bind (zyl (l.getD i zI)) (Ev.bind (zns _ _ (Nat.le_trans (zp9 _) (by decide))) ?_))
  by_cases hr : (l.getD j zI).f1 ∈ zml (l.getD i zI)
  · refine zac (decide_eq_true hr) ?_
    cases ho' : zxv l j i with
    | true =>
      rw [if_neg (fun q => by rw [ho'] at q; exact absurd q.2 (by decide))] at hc
      exact zac ho' hc
    | false =>
      rw [if_pos ⟨hr, ho'⟩] at hc
      refine zaq (fun q => by rw [show zxv l j i = true from q] at ho'; cases ho') ?_
      rw [zxt A B _ i hA]
      refine zac (by omega) (zac (by rw [List.length_append, List.length_cons]; omega) (zac (by omega) (zac (by rw [List.length_append, List.length_cons]; omega) ?_)))
      refine Ev.call (zvh (l.getD j zI)) ?_
      rw [zss P Q t j hP, zk2 P Q t _ j hP, zz6 A B _ _ i hA, yb0]
      exact hc
  · rw [if_neg (fun q => hr q.1)] at hc
    exact zaq (fun q => hr (of_decide_eq_true q)) hc
theorem zwl (P Q : List Int) (t : Int) (hP : P.length = j) (T : List (List Int)) (ht : t = if (l.getD i zI).f1 ∈ zml (l.getD j zI) then 0 else -1)
    (hc : Ev (fun k => zb7 k l (A ++ (P ++ dly l j i :: Q) :: B) i l l.length i (l.take i) i ((j + 1 : Nat) : Int) (l.getD i zI).f0 (l.getD i zI).f1 (l.getD i zI).f2 (l.getD i zI).f3 (l.getD i zI).f4) T) :
    Ev (fun k => zfl k l (A ++ (P ++ t :: Q) :: B) i j l l.length i (l.take i) i j (l.getD i zI).f0 (l.getD i zI).f1 (l.getD i zI).f2 (l.getD i zI).f3 (l.getD i zI).f4 (l.getD j zI).f0 (l.getD j zI).f1 (l.getD j zI).f2 (l.getD j zI).f3 (l.getD j zI).f4) T := by
  refine zai (fun k => by simp only [zfl]; rfl) ?_
  unfold dly dlyB at hc
  by_cases h : (l.getD j zI).f1 = (l.getD i zI).f1
  · rw [if_pos h] at hc
    refine zac h ?_
    rw [zxt A B _ i hA]
    refine zac (by omega) (zac (by rw [List.length_append, List.length_cons]; omega) (zac (by omega) (zac (by rw [List.length_append, List.length_cons]; omega) ?_)))
    rw [zk2 P Q t _ j hP, zk2 A B _ _ i hA]
    exact zwk l hl A B i j hA hj hi P Q 1 hP T hc
  · rw [if_neg h, ← ht] at hc
    exact zaq h (zwk l hl A B i j hA hj hi P Q t hP T hc)
theorem zzf (P Q : List Int) (hP : P.length = j) (T : List (List Int))
    (hc : Ev (fun k => zb7 k l (A ++ (P ++ dly l j i :: Q) :: B) i l l.length i (l.take i) i ((j + 1 : Nat) : Int) (l.getD i zI).f0 (l.getD i zI).f1 (l.getD i zI).f2 (l.getD i zI).f3 (l.getD i zI).f4) T) :
    Ev (fun k => zb7 k l (A ++ (P ++ (-1) :: Q) :: B) i l l.length i (l.take i) i j (l.getD i zI).f0 (l.getD i zI).f1 (l.getD i zI).f2 (l.getD i zI).f3 (l.getD i zI).f4) T := by
  have hti : (l.take i).length = i := by rw [List.length_take]; omega
  refine zai (fun k => by simp only [zb7]; rfl) (zac (by omega) (zac (by omega) (zac (by omega) ?_)))
  rw [yby l i j hj]
  refine Ev.bind (zyl (l.getD j zI)) (Ev.bind (zns _ _ (Nat.le_trans (zp9 _) (by decide))) ?_)
  by_cases hr : (l.getD i zI).f1 ∈ zml (l.getD j zI)
  · refine zac (decide_eq_true hr) ?_
    rw [zxt A B _ i hA]
    refine zac (by omega) (zac (by rw [List.length_append, List.length_cons]; omega) (zac (by rw [List.length_append, List.length_cons]; omega) ?_))
    rw [zk2 P Q _ _ j hP, zk2 A B _ _ i hA]
    exact zwl l hl A B i j hA hj hi P Q 0 hP T (by rw [if_pos hr]) hc
  · exact zaq (fun q => hr (of_decide_eq_true q)) (zwl l hl A B i j hA hj hi P Q (-1) hP T (by rw [if_neg hr]) hc)
end
theorem zzg (l : List Instr) (hl : l.length ≤ 1048576) (A B : List (List Int)) (i : Nat) (hA : A.length = i) (hi : i < l.length) (T : List (List Int))
    (hc : Ev (fun k => zen k l (A ++ rowI l i i :: B) l l.length (wrap64 ((i : Int) + 1))) T) :
    ∀ (d j : Nat), j + d = i → Ev (fun k => zb7 k l (A ++ (rowI l i j ++ List.replicate d (-1)) :: B) i l l.length i (l.take i) i j (l.getD i zI).f0 (l.getD i zI).f1 (l.getD i zI).f2 (l.getD i zI).f3 (l.getD i zI).f4) T := by
  intro d
  induction d with
  | zero =>
    intro j hj
    obtain rfl : j = i := by omega
    rw [List.replicate_zero, List.append_nil]
    exact zai (fun k => by simp only [zb7]; rfl) (zaq (by omega) hc)
  | succ d ih =>
    intro j hj
    rw [List.replicate_succ]
    refine zzf l hl A B i j hA (by omega) hi (rowI l i j) (List.replicate d (-1)) (zn8 l i j) T ?_
    have := ih (j + 1) (by omega)
    rw [zz9, List.append_assoc, List.singleton_append] at this
    exact this
theorem zpy (l : List Instr) (hl : l.length ≤ 1048576) : Ev (fun k => zfe k l) (tabI l l.length) := by
  have key : ∀ (d i : Nat), i + d = l.length → Ev (fun k => zen k l (tabI l i ++ List.replicate d []) l l.length i) (tabI l l.length) := by
    intro d
    induction d with
    | zero =>
      intro i hi
      obtain rfl : i = l.length := by omega
      rw [List.replicate_zero, List.append_nil]
      refine zai (f := fun _ => some (tabI l l.length)) (fun k => ?_) (Ev.now _)
      simp only [zen]
      rw [if_neg (by omega)]
    | succ d ih =>
      intro i hi
      have hti : (l.take i).length = i := by rw [List.length_take]; omega
      rw [List.replicate_succ]
      refine zai (fun k => by simp only [zen]; rfl) (zac (by omega) (zac (by omega) (zac (by omega) (Ev.call (zwj i (by omega)) ?_))))
      refine zac (by rw [List.length_append, List.length_cons, zn9]; omega) (zac (by omega) (Ev.call rfl ?_))
      rw [zk2 (tabI l i) _ _ _ i (zn9 l i), Int.toNat_natCast, hti, ztw]
      refine zzg l hl (tabI l i) (List.replicate d []) i (zn9 l i) (by omega) _ ?_ i 0 (by omega)
      rw [w64n i (by omega)]
      have := ih (i + 1) (by omega)
      rw [yaa, List.append_assoc, List.singleton_append] at this
      exact this
  unfold zfe
  refine zac (by omega) (zac (by rw [Int.toNat_natCast]; omega) ?_)
  rw [Int.toNat_natCast]
  have := key l.length 0 (by omega)
  simpa [tabI] using this
theorem zzh (l : List Instr) (hl : l.length ≤ 1048576) (ok : ∀ x ∈ l, okI x) (i j : Nat) (hij : i < j) (hj : j < l.length) : Ev (fun k => zh0 k l (i : Int) (j : Int)) (dly l i j) := by
  have hx := okAt (P := okI) l i (by omega) ok
  have last : ∀ (t : Int) (d p : Nat) (v : Int), p + d = j → i < p → (v = i ∨ (i : Int) < v) →
      Ev (fun k => zd4 k l i j t v p (l.getD i zI).f0 (l.getD i zI).f1 (l.getD i zI).f2 (l.getD i zI).f3 (l.getD i zI).f4) (if v = i ∧ (((l.take j).drop p).any fun z => decide (z.f1 = (l.getD i zI).f1)) = false then max t (zjf (cls (l.getD i zI).f0)) else t) := by
    intro t d
    induction d with
    | zero =>
      intro p v hp hip hv
      rw [List.drop_of_length_le (by rw [List.length_take]; omega)]
      refine zai (fun k => by simp only [zd4]; rfl) (zaq (by omega) ?_)
      have hm : zfg t (zjf (cls (l.getD i zI).f0)) = some (max t (zjf (cls (l.getD i zI).f0))) := by
        unfold zfg
        by_cases q : t > zjf (cls (l.getD i zI).f0)
        · rw [if_pos q]; congr 1; omega
        · rw [if_neg q]; congr 1; omega
      by_cases h : v = i
      · refine zac h (Ev.call (zry _ hx.1) (Ev.call hm (Ev.some ?_)))
        rw [if_pos ⟨h, rfl⟩]
      · refine zaq h (Ev.some ?_)
        rw [if_neg (fun q => h q.1)]
    | succ d ih =>
      intro p v hp hip hv
      have hlt : p < (l.take j).length := by rw [List.length_take]; omega
      have e : (l.take j).drop p = (l.take j)[p] :: (l.take j).drop (p + 1) := List.drop_eq_getElem_cons hlt
      have e2 : (l.take j)[p] = l.getD p zI := by
        rw [List.getElem_take, zhm l p (by omega)]
      rw [e, e2, List.any_cons]
      refine zai (fun k => by simp only [zd4]; rfl) (zac (by omega) (zac (by omega) (zac (by omega) ?_)))
      rw [ztw, w64n p (by omega)]
      by_cases h : (l.getD p zI).f1 = (l.getD i zI).f1
      · refine zac h (zpi (ih (p + 1) p (by omega) (by omega) (.inr (by omega))) ?_)
        rw [if_neg (fun q => by have := q.1; omega), if_neg (fun q => by have := q.2; rw [decide_eq_true h] at this; cases this)]
      · refine zaq h (zpi (ih (p + 1) v (by omega) (by omega) hv) ?_)
        rw [decide_eq_false h, Bool.false_or]
  have j1 : ∀ t : Int, Ev (fun k => ze3 k l i j t (l.getD i zI).f0 (l.getD i zI).f1 (l.getD i zI).f2 (l.getD i zI).f3 (l.getD i zI).f4 (l.getD j zI).f0 (l.getD j zI).f1 (l.getD j zI).f2 (l.getD j zI).f3 (l.getD j zI).f4)
      (if (l.getD i zI).f1 ∈ zml (l.getD j zI) ∧ zxv l i j = false then max t (zjf (cls (l.getD i zI).f0)) else t) := by
    intro t
    refine zai (fun k => by simp only [ze3]; rfl) (Ev.bind (zut (l.getD j zI)) (Ev.bind (zym _ _ (Nat.le_trans (zp9 _) (by decide))) ?_))
    by_cases hr : (l.getD i zI).f1 ∈ zml (l.getD j zI)
    · refine zac (decide_eq_true hr) ?_
      rw [w64n i (by omega)]
      refine zpi (last t (j - (i + 1)) (i + 1) i (by omega) (by omega) (.inl rfl)) ?_
      unfold zxv
      by_cases q : (((l.take j).drop (i + 1)).any fun z => decide (z.f1 = (l.getD i zI).f1)) = false
      · rw [if_pos ⟨rfl, q⟩, if_pos ⟨hr, q⟩]
      · rw [if_neg (fun z => q z.2), if_neg (fun z => q z.2)]
    · rw [if_neg (fun q => hr q.1)]
      exact zaq (fun q => hr (of_decide_eq_true q)) (Ev.now _)
  have j0 : ∀ t : Int, Ev (fun k => ze2 k l i j t (l.getD i zI).f0 (l.getD i zI).f1 (l.getD i zI).f2 (l.getD i zI).f3 (l.getD i zI).f4 (l.getD j zI).f0 (l.getD j zI).f1 (l.getD j zI).f2 (l.getD j zI).f3 (l.getD j zI).f4)
      (if (l.getD i zI).f1 ∈ zml (l.getD j zI) ∧ zxv l i j = false then max (if (l.getD i zI).f1 = (l.getD j zI).f1 then 1 else t) (zjf (cls (l.getD i zI).f0)) else if (l.getD i zI).f1 = (l.getD j zI).f1 then 1 else t) := by
    intro t
    refine zai (fun k => by simp only [ze2]; rfl) ?_
    by_cases h : (l.getD i zI).f1 = (l.getD j zI).f1
    · rw [if_pos h]
      exact zac h (j1 1)
    · rw [if_neg h]
      exact zaq h (j1 t)
  unfold zh0
  refine zac (by omega) (zac (by omega) (zac (by omega) (zac (by omega) ?_)))
  rw [ztw, ztw]
  refine Ev.bind (zut (l.getD i zI)) (Ev.bind (zym _ _ (Nat.le_trans (zp9 _) (by decide))) ?_)
  unfold dly dlyB
  by_cases h : (l.getD j zI).f1 ∈ zml (l.getD i zI)
  · rw [if_pos h]
    exact zac (decide_eq_true h) (j0 0)
  · rw [if_neg h]
    exact zaq (fun q => h (of_decide_eq_true q)) (j0 (-1))
def dlyS (l : List Instr) (i j : Nat) : Int := if i < j then dly l i j else -1
def rowS (l : List Instr) (i m : Nat) : List Int := (List.range m).map fun j => dlyS l i j
theorem yab (l : List Instr) (i m : Nat) : rowS l i (m + 1) = rowS l i m ++ [dlyS l i m] := by simp [rowS, List.range_succ]
theorem zo2 (l : List Instr) (i m : Nat) : (rowS l i m).length = m := by simp [rowS]
def tabS (l : List Instr) (m : Nat) : List (List Int) := (List.range m).map fun i => rowS l i l.length
theorem yac (l : List Instr) (m : Nat) : tabS l (m + 1) = tabS l m ++ [rowS l m l.length] := by simp [tabS, List.range_succ]
theorem zo3 (l : List Instr) (m : Nat) : (tabS l m).length = m := by simp [tabS]
theorem zo4 (l : List Instr) (hl : l.length ≤ 1048576) (ok : ∀ x ∈ l, okI x) : Ev (fun k => zfq k l) (tabS l l.length) := by
  have row : ∀ (rows : List (List Int)) (i : Nat) (T : List (List Int)), i < l.length → rows.length ≤ 1048576 → Ev (fun k => zdo k l (rows ++ [rowS l i l.length]) l.length (wrap64 ((i : Int) + 1))) T →
      ∀ (d j : Nat), j + d = l.length → Ev (fun k => zdp k l rows i (rowS l i j) l.length i l.length j) T := by
    intro rows i T hi hr hc d
    induction d with
    | zero =>
      intro j hj
      obtain rfl : j = l.length := by omega
      exact zai (fun k => by simp only [zdp]; rfl) (zaq (by omega) (zac (by omega) hc))
    | succ d ih =>
      intro j hj
      have := ih (j + 1) (by omega)
      rw [yab] at this
      unfold dlyS at this
      refine zai (fun k => by simp only [zdp]; rfl) (zac (by omega) ?_)
      rw [w64n j (by omega)]
      by_cases h : i < j
      · rw [if_pos h] at this
        exact zac (by omega) (Ev.bind (zzh l hl ok i j h (by omega)) (zac (by rw [zo2]; omega) this))
      · rw [if_neg h] at this
        exact zaq (by omega) (zac (by rw [zo2]; omega) this)
  have key : ∀ (d i : Nat), i + d = l.length → Ev (fun k => zdo k l (tabS l i) l.length i) (tabS l l.length) := by
    intro d
    induction d with
    | zero =>
      intro i hi
      obtain rfl : i = l.length := by omega
      refine zai (f := fun _ => some (tabS l l.length)) (fun k => ?_) (Ev.now _)
      simp only [zdo]
      rw [if_neg (by omega)]
    | succ d ih =>
      intro i hi
      refine zai (fun k => by simp only [zdo]; rfl) (zac (by omega) ?_)
      refine row (tabS l i) i _ (by omega) (by rw [zo3]; omega) ?_ l.length 0 (by omega)
      rw [w64n i (by omega), ← yac]
      exact ih (i + 1) (by omega)
  exact key l.length 0 (by omega)
def zrz (l : List Instr) : Bool := decide (l.length ≤ 40) && l.all (fun x => decide (okI x))
def zfk (l : List Instr) : Bool := decide (l.length ≤ 20) && l.all (fun x => decide (okI x))
theorem yad (l : List Instr) : Ev (fun k => zik k l) (zrz l) := by
  unfold zik
  by_cases hl : l.length ≤ 40
  · refine zac (by omega) ?_
    have h : Ev (fun k => zb2 k l) (idx (fun x => !decide (okI x)) l) := by
      unfold zb2
      refine zpw l _ (fun k i => zay k l l.length i) ?_ (fun i x hi hx hp => ?_) (fun i x r hi hx hp hr => ?_)
      · refine zai (f := fun _ => some (-1)) (fun k => ?_) (Ev.now _)
        simp only [zay]
        rw [if_neg (by omega)]
      · refine zai (f := fun _ => some (i : Int)) (fun k => ?_) (Ev.now _)
        simp only [zay, zjw, zrx hx, zus, Option.bind_some, hp]
        rw [if_pos (by omega), if_pos (by omega), if_pos (by omega), if_pos trivial]
      · refine zai (fun k => ?_) hr
        simp only [zay, zjw, zrx hx, zus, Option.bind_some, hp]
        rw [if_pos (by omega), if_pos (by omega), if_pos (by omega), if_neg (by simp), w64n i (by omega)]
    unfold zb4
    refine Ev.bind (Ev.bind h (Ev.now _)) (Ev.some ?_)
    have e := zov (fun x => !decide (okI x)) l
    unfold zrz
    rw [show decide (l.length ≤ 40) = true by simpa using hl, Bool.true_and]
    by_cases hc : 0 ≤ idx (fun x => !decide (okI x)) l
    · obtain ⟨x, hx, hx'⟩ := e.1 hc
      rw [decide_eq_true (show idx (fun x => !decide (okI x)) l ≥ 0 from hc)]
      symm
      simpa using ⟨x, hx, by simpa using hx'⟩
    · rw [decide_eq_false (show ¬ idx (fun x => !decide (okI x)) l ≥ 0 from hc)]
      symm
      have := fun h => hc (e.2 h)
      simpa using this
  · refine zaq (by omega) (Ev.some ?_)
    unfold zrz
    rw [show decide (l.length ≤ 40) = false by simpa using hl]
    rfl
theorem yae (l : List Instr) : Ev (fun k => zip k l) (zrz l) := by
  unfold zip
  by_cases hl : l.length ≤ 40
  · refine zaq (by omega) ?_
    unfold zrz
    rw [show decide (l.length ≤ 40) = true by simpa using hl, Bool.true_and]
    refine ycs l _ (fun k i => zeo k l l.length i) ?_ (fun i x hi hx hp => ?_) (fun i x r hi hx hp hr => ?_)
    · refine zai (f := fun _ => some true) (fun k => ?_) (Ev.now _)
      simp only [zeo]
      rw [if_neg (by omega)]
    · refine zai (fun k => by simp only [zeo, zrx hx]; rfl) ?_
      refine zac (by omega) (zac (by omega) (zac (by omega) ?_))
      exact Ev.bind (zwi x) (zaq (by simpa using hp) (Ev.now _))
    · refine zai (fun k => by simp only [zeo, zrx hx, w64n i (show i < 4611686018427387904 by omega)]; rfl) ?_
      refine zac (by omega) (zac (by omega) (zac (by omega) ?_))
      exact Ev.bind (zwi x) (zac (by simpa using hp) hr)
  · refine zac (by omega) (Ev.some ?_)
    unfold zrz
    rw [show decide (l.length ≤ 40) = false by simpa using hl]
    rfl
theorem zuu (l : List Instr) : zfk l = (zrz l && decide (l.length ≤ 20)) := by
  unfold zfk zrz
  by_cases h : l.length ≤ 20
  · simp [h, show l.length ≤ 40 by omega]
  · simp [h]
theorem zie {l : List Instr} (h : zfk l = true) : l.length ≤ 20 ∧ ∀ x ∈ l, okI x := by
  unfold zfk at h
  simp only [Bool.and_eq_true, decide_eq_true_eq, List.all_eq_true] at h
  exact h
theorem zlk (l : List Instr) : Ev (fun k => zdu k l) (zfk l) := by
  unfold zdu
  refine Ev.bind (yad l) ?_
  rw [zuu]
  cases h : zrz l
  · exact zaq (by simp) (Ev.some rfl)
  · refine zac rfl (Ev.some ?_)
    rw [Bool.true_and, decide_eq_decide]
    omega
theorem zr0 (l : List Instr) : Ev (fun k => zgb k l) (zfk l) := by
  unfold zgb
  rw [zuu]
  by_cases h : l.length ≤ 20
  · refine zac (by omega) (Ev.bind (yae l) (Ev.some ?_))
    simp [h]
  · refine zaq (by omega) (Ev.some ?_)
    simp [h]
theorem zyn (c : List Int) (a b : Int) (hc : c.length ≤ 1048576) : Ev (fun k => ziu k c a b) (c.all (fun n => decide (a ≤ n ∧ n ≤ b))) := by
  unfold ziu
  refine ycs c _ (fun k i => zfi k a b c c.length i) ?_ (fun i x hi hx hp => ?_) (fun i x r hi hx hp hr => ?_)
  · refine zai (f := fun _ => some true) (fun k => ?_) (Ev.now _)
    simp only [zfi]
    rw [if_neg (by omega)]
  · refine zai (f := fun _ => some false) (fun k => ?_) (Ev.now _)
    simp only [zfi, znq hx, zqu, Option.bind_some, hp]
    rw [if_pos (by omega), if_pos (by omega), if_pos (by omega), if_neg (by simp)]
  · refine zai (fun k => ?_) hr
    simp only [zfi, znq hx, zqu, Option.bind_some, hp]
    rw [if_pos (by omega), if_pos (by omega), if_pos (by omega), if_pos trivial, w64n i (by omega)]
theorem zo5 (l : List Instr) (m i : Nat) (h : i < m) : za5 (tabI l m) (i : Int) = rowI l i i := by
  unfold za5
  rw [Int.toNat_natCast]
  simp [tabI, List.getD, h]
theorem zqv (l : List Instr) (i m j : Nat) (h : j < m) : rd (rowI l i m) (j : Int) = dly l j i := znq (fun d => by simp [rowI, List.getD, h])
theorem zvi (l : List Instr) (m i : Nat) (h : i < m) : za5 (tabS l m) (i : Int) = rowS l i l.length := by
  unfold za5
  rw [Int.toNat_natCast]
  simp [tabS, List.getD, h]
theorem zvj (l : List Instr) (i m j : Nat) (h : j < m) : rd (rowS l i m) (j : Int) = dlyS l i j := znq (fun d => by simp [rowS, List.getD, h])
def difB (pre : List Int) : List Int → Bool
  | [] => true
  | x :: xs => !decide (x ∈ pre) && difB (pre ++ [x]) xs
theorem zzi : ∀ xs pre, difB pre xs = true → pre.Nodup → (pre ++ xs).Nodup := by
  intro xs
  induction xs with
  | nil => intro pre _ h; simpa using h
  | cons x xs ih =>
    intro pre h hp
    unfold difB at h
    rw [Bool.and_eq_true] at h
    have hx : x ∉ pre := by simpa using h.1
    have := ih (pre ++ [x]) h.2 (by
      rw [List.nodup_append]
      refine ⟨hp, by simp, ?_⟩
      intro a ha b hb e
      rw [List.mem_singleton.1 hb] at e
      exact hx (e ▸ ha))
    simpa using this
theorem zwm (o : List Int) (ho : o.length ≤ 1048576) : Ev (fun k => zdr k o) (difB [] o) := by
  have key : ∀ (d i : Nat), i + d = o.length → Ev (fun k => zby k o o o.length i) (difB (o.take i) (o.drop i)) := by
    intro d
    induction d with
    | zero =>
      intro i hi
      rw [List.drop_of_length_le (by omega)]
      refine zai (f := fun _ => some true) (fun k => ?_) (Ev.now _)
      simp only [zby]
      rw [if_neg (by omega)]
    | succ d ih =>
      intro i hi
      have hlt : i < o.length := by omega
      have e : o.drop i = o[i] :: o.drop (i + 1) := List.drop_eq_getElem_cons hlt
      have hx := znq (zhm o i hlt)
      have := ih (i + 1) (by omega)
      rw [List.take_succ_eq_append_getElem hlt] at this
      rw [e]
      unfold difB
      refine zai (fun k => by simp only [zby, hx]; rfl) (zac (by omega) (zac (by omega) (zac (by omega) (zac (by omega) ?_))))
      rw [Int.toNat_natCast]
      refine Ev.bind (zns (o.take i) o[i] (by rw [List.length_take]; omega)) ?_
      by_cases h : o[i] ∈ o.take i
      · rw [decide_eq_true h]
        exact zac rfl (Ev.now _)
      · rw [decide_eq_false h]
        refine zaq (by decide) ?_
        rw [w64n i (by omega)]
        exact zpi this (by simp)
  unfold zdr
  have := key o.length 0 (by omega)
  simpa using this
def badP (l : List Instr) (v u : Int) : Bool := decide (0 ≤ u ∧ u < v) && decide (0 ≤ dly l u.toNat v.toNat)
def zvk (l : List Instr) : List Int → Bool
  | [] => true
  | v :: vs => decide (0 ≤ v ∧ v ≤ (l.length : Int) - 1) && ((v :: vs).all (fun u => !badP l v u) && zvk l vs)
theorem zuv (l : List Instr) (v : Int) (vs : List Int) : zvk l (v :: vs) = (decide (0 ≤ v ∧ v ≤ (l.length : Int) - 1) && ((v :: vs).all (fun u => !badP l v u) && zvk l vs)) := rfl
def ordB (l : List Instr) (o : List Int) : Bool := decide (o.length = l.length) && (difB [] o && zvk l o)
theorem yb1 (l : List Instr) (hl : l.length ≤ 1048576) (o : List Int) (ho : o.length ≤ 1048576) : ∀ (d i : Nat), i + d = o.length → Ev (fun k => zek k l o (tabI l l.length) o o.length i) (zvk l (o.drop i)) := by
  intro d
  induction d with
  | zero =>
    intro i hi
    rw [List.drop_of_length_le (by omega)]
    refine zai (f := fun _ => some true) (fun k => ?_) (Ev.now _)
    simp only [zek]
    rw [if_neg (by omega)]
  | succ d ih =>
    intro i hi
    have hlt : i < o.length := by omega
    have e : o.drop i = o[i] :: o.drop (i + 1) := List.drop_eq_getElem_cons hlt
    have hx := znq (zhm o i hlt)
    refine zai (fun k => by simp only [zek, hx]; rfl) (zac (by omega) (zac (by omega) (zac (by omega) ?_)))
    rw [w64 (by omega) (by omega)]
    refine Ev.call (znr _ _ _) ?_
    by_cases hv : 0 ≤ o[i] ∧ o[i] ≤ (l.length : Int) - 1
    · refine zac (decide_eq_true hv) (zac (by omega) ?_)
      rw [Int.toNat_natCast]
      obtain ⟨v, hvn⟩ := Int.eq_ofNat_of_zero_le hv.1
      have inner : Ev (fun k => zdi k l o (tabI l l.length) o[i] o o.length i (o.drop i) (o.drop i).length 0) ((o.drop i).all (fun u => !badP l o[i] u) && zvk l (o.drop (i + 1))) := by
        refine zrw (σ := Unit) (o.drop i) (fun k _ j => zdi k l o (tabI l l.length) o[i] o o.length i (o.drop i) (o.drop i).length j) (fun r _ => r.all (fun u => !badP l o[i] u) && zvk l (o.drop (i + 1))) (fun _ => ?_) (fun j _ u r hj hu ih2 => ?_) ()
        · refine zai (fun k => by simp only [zdi]; rfl) (zaq (by omega) ?_)
          rw [w64n i (by omega)]
          exact ih (i + 1) (by omega)
        · have hdl : (o.drop i).length ≤ 1048576 := by rw [List.length_drop]; omega
          have next := ih2 ()
          refine zai (fun k => by simp only [zdi, znq hu]; rfl) (zac (by omega) (zac (by omega) (zac (by omega) ?_)))
          rw [w64n j (by omega)]
          by_cases h0 : 0 ≤ u
          · refine zac h0 ?_
            by_cases h1 : u < o[i]
            · obtain ⟨w, rfl⟩ := Int.eq_ofNat_of_zero_le h0
              have hwv : w < v := by omega
              have hvl : v < l.length := by omega
              refine zac h1 ?_
              rw [hvn] at next h1 ⊢
              rw [zo5 l l.length v (by omega)]
              refine zac (by omega) (zac (by rw [zn9]; omega) (zac (by omega) (zac (by rw [zn8]; omega) ?_)))
              rw [zqv l v v w (by omega)]
              by_cases hd : 0 ≤ dly l w v
              · refine zac hd (Ev.some ?_)
                rw [List.all_cons, show badP l (v : Int) (w : Int) = true by unfold badP; rw [decide_eq_true ⟨h0, h1⟩, Int.toNat_natCast, Int.toNat_natCast, decide_eq_true hd]; rfl]
                rfl
              · refine zaq hd (zpi next ?_)
                rw [List.all_cons, show badP l (v : Int) (w : Int) = false by unfold badP; rw [Int.toNat_natCast, Int.toNat_natCast, decide_eq_false hd, Bool.and_false], Bool.not_false, Bool.true_and]
            · refine zaq h1 (zpi next ?_)
              rw [List.all_cons, show badP l o[i] u = false by unfold badP; rw [decide_eq_false (fun q => h1 q.2), Bool.false_and], Bool.not_false, Bool.true_and]
          · refine zaq h0 (zpi next ?_)
            rw [List.all_cons, show badP l o[i] u = false by unfold badP; rw [decide_eq_false (fun q => h0 q.1), Bool.false_and], Bool.not_false, Bool.true_and]
      refine zpi inner ?_
      rw [e]
      rw [zuv, decide_eq_true hv, Bool.true_and]
    · refine zaq (by simpa using hv) (Ev.some ?_)
      rw [e]
      unfold zvk
      rw [decide_eq_false hv, Bool.false_and]
theorem zzj (l : List Instr) (hl : l.length ≤ 1048576) (o : List Int) (ho : o.length ≤ 1048576) : Ev (fun k => zhw k l o) (ordB l o) := by
  unfold zhw
  have no : Ev (fun k => zej k l o true) false := zai (fun k => by simp only [zej]; rfl) (zac (by decide) (Ev.now _))
  by_cases h : o.length = l.length
  · refine zac (by omega) (Ev.bind (zwm o ho) ?_)
    unfold ordB
    rw [decide_eq_true h, Bool.true_and]
    cases hd : difB [] o with
    | true =>
      refine zai (fun k => by simp only [zej]; rfl) (zaq (by decide) (Ev.bind (zpy l hl) ?_))
      have := yb1 l hl o ho o.length 0 (by omega)
      simpa using this
    | false => exact no
  · refine zaq (by omega) (zpi no ?_)
    unfold ordB
    rw [decide_eq_false h, Bool.false_and]
def eaC (l : List Instr) (P : List Int) (j : Nat) : Nat → Int
  | 0 => 0
  | u + 1 => if dly l u j ≥ 0 then max (eaC l P j u) (P.getD u 0 + dly l u j) else eaC l P j u
def eaL (l : List Instr) : Nat → List Int
  | 0 => []
  | j + 1 => eaL l j ++ [eaC l (eaL l j) j j]
theorem zi7 (l : List Instr) : ∀ j, (eaL l j).length = j
  | 0 => rfl
  | j + 1 => by rw [eaL, List.length_append, zi7 l j]; rfl
theorem ycu (l : List Instr) (P : List Int) (B : Int) (h0 : 0 ≤ B) (hP : ∀ u, 0 ≤ P.getD u 0 ∧ P.getD u 0 ≤ B) (j : Nat) : ∀ u, 0 ≤ eaC l P j u ∧ eaC l P j u ≤ B + 4
  | 0 => by unfold eaC; omega
  | u + 1 => by
    have ih := ycu l P B h0 hP j u
    have hd := zpx l u j
    have hp := hP u
    unfold eaC
    split <;> omega
theorem zr1 (A B : List Int) (u : Nat) : (A ++ B).getD u 0 = if u < A.length then A.getD u 0 else B.getD (u - A.length) 0 := by
  simp only [List.getD_eq_getElem?_getD, List.getElem?_append]
  split <;> rfl
theorem zyo (l : List Instr) : ∀ j u, 0 ≤ (eaL l j).getD u 0 ∧ (eaL l j).getD u 0 ≤ 4 * (j : Int)
  | 0, u => by unfold eaL; simp
  | j + 1, u => by
    have ih := zyo l j
    have hc := ycu l (eaL l j) (4 * (j : Int)) (by omega) ih j j
    rw [eaL, zr1, zi7]
    split
    · have := ih u; omega
    · match h : u - j with
      | 0 => show 0 ≤ eaC l (eaL l j) j j ∧ _; constructor; exact hc.1; show eaC l (eaL l j) j j ≤ _; omega
      | m + 1 => simp; omega
theorem yaf (A B : List Int) (u : Nat) (h : u < A.length) : rd (A ++ B) (u : Int) = A.getD u 0 := by
  unfold rd
  rw [Int.toNat_natCast, zr1, if_pos h]
theorem zxw (a b : Int) : zfg a b = some (max a b) := by
  unfold zfg
  by_cases q : a > b
  · rw [if_pos q]; congr 1; omega
  · rw [if_neg q]; congr 1; omega
section
variable (l : List Instr) (hl : l.length ≤ 20)
include hl
theorem zzk (j : Nat) (hj : j < l.length) (Z T : List Int) (hc : Ev (fun k => zdm k (tabI l l.length) (eaL l j ++ eaC l (eaL l j) j j :: Z) l.length ((j + 1 : Nat) : Int)) T) :
    ∀ (d u : Nat), u + d = j → Ev (fun k => zdh k (tabI l l.length) (eaL l j ++ eaC l (eaL l j) j u :: Z) j l.length j (rowI l j j) j u) T := by
  intro d
  induction d with
  | zero =>
    intro u hu
    obtain rfl : u = j := by omega
    refine zai (fun k => by simp only [zdh]; rfl) (zaq (by omega) ?_)
    rw [w64n u (by omega)]
    exact hc
  | succ d ih =>
    intro u hu
    have next := ih (u + 1) (by omega)
    have hlen : (eaL l j ++ eaC l (eaL l j) j u :: Z).length = j + 1 + Z.length := by rw [List.length_append, zi7, List.length_cons]; omega
    refine zai (fun k => by simp only [zdh]; rfl) (zac (by omega) (zac (by omega) (zac (by rw [zn8]; omega) ?_)))
    rw [zqv l j j u (by omega), w64n u (by omega)]
    unfold eaC at next
    by_cases hd : dly l u j ≥ 0
    · rw [if_pos hd] at next
      refine zac hd (zac (by omega) (zac (by rw [hlen]; omega) (zac (by rw [hlen]; omega) ?_)))
      have b1 := zyo l j u
      have b2 := zpx l u j
      rw [zss _ _ _ j (zi7 l j), yaf _ _ u (by rw [zi7]; omega), w64 (by omega) (by omega), yb0, zk2 _ _ _ _ j (zi7 l j)]
      exact next
    · rw [if_neg hd] at next
      exact zaq hd next
theorem ztx : Ev (fun k => zf4 k l) (eaL l l.length) := by
  have key : ∀ (d j : Nat), j + d = l.length → Ev (fun k => zdm k (tabI l l.length) (eaL l j ++ List.replicate d 0) l.length j) (eaL l l.length) := by
    intro d
    induction d with
    | zero =>
      intro j hj
      obtain rfl : j = l.length := by omega
      rw [List.replicate_zero, List.append_nil]
      refine zai (f := fun _ => some (eaL l l.length)) (fun k => ?_) (Ev.now _)
      simp only [zdm]
      rw [if_neg (by omega)]
    | succ d ih =>
      intro j hj
      have next := ih (j + 1) (by omega)
      rw [eaL, List.append_assoc, List.singleton_append] at next
      refine zai (fun k => by simp only [zdm]; rfl) (zac (by omega) (zac (by omega) (zac (by rw [zn9]; omega) ?_)))
      rw [zo5 l l.length j (by omega), List.replicate_succ, zn8]
      exact zzk l hl j (by omega) _ _ next j 0 (by omega)
  unfold zf4
  refine Ev.bind (zpy l (by omega)) (zac (by omega) (zac (by rw [Int.toNat_natCast]; omega) ?_))
  rw [Int.toNat_natCast]
  have := key l.length 0 (by omega)
  rw [eaL, List.nil_append] at this
  exact this
theorem zzl (j : Nat) (hj : j < l.length) (Z T : List Int) (hc : Ev (fun k => zcy k (tabS l l.length) (eaL l j ++ eaC l (eaL l j) j j :: Z) l.length ((j + 1 : Nat) : Int)) T) :
    ∀ (d u : Nat), u + d = j → Ev (fun k => zcz k (tabS l l.length) (eaL l j ++ eaC l (eaL l j) j u :: Z) j u l.length j) T := by
  intro d
  induction d with
  | zero =>
    intro u hu
    obtain rfl : u = j := by omega
    refine zai (fun k => by simp only [zcz]; rfl) (zaq (by omega) ?_)
    rw [w64n u (by omega)]
    exact hc
  | succ d ih =>
    intro u hu
    have next := ih (u + 1) (by omega)
    have hlen : (eaL l j ++ eaC l (eaL l j) j u :: Z).length = j + 1 + Z.length := by rw [List.length_append, zi7, List.length_cons]; omega
    refine zai (fun k => by simp only [zcz]; rfl) (zac (by omega) (zac (by omega) (zac (by rw [zo3]; omega) ?_)))
    rw [zvi l l.length u (by omega)]
    refine zac (by omega) (zac (by rw [zo2]; omega) ?_)
    rw [zvj l u l.length j (by omega), w64n u (by omega), show dlyS l u j = dly l u j from by unfold dlyS; rw [if_pos (by omega)]]
    unfold eaC at next
    by_cases hd : dly l u j ≥ 0
    · rw [if_pos hd] at next
      refine zac hd (zac (by rw [hlen]; omega) (zac (by rw [hlen]; omega) ?_))
      have b1 := zyo l j u
      have b2 := zpx l u j
      rw [zss _ _ _ j (zi7 l j), yaf _ _ u (by rw [zi7]; omega), w64 (by omega) (by omega)]
      refine Ev.call (zxw _ _) ?_
      rw [zk2 _ _ _ _ j (zi7 l j)]
      exact next
    · rw [if_neg hd] at next
      exact zaq hd next
theorem zvl (ok : ∀ x ∈ l, okI x) : Ev (fun k => zf1 k l) (eaL l l.length) := by
  have key : ∀ (d j : Nat), j + d = l.length → Ev (fun k => zcy k (tabS l l.length) (eaL l j ++ List.replicate d 0) l.length j) (eaL l l.length) := by
    intro d
    induction d with
    | zero =>
      intro j hj
      obtain rfl : j = l.length := by omega
      rw [List.replicate_zero, List.append_nil]
      refine zai (f := fun _ => some (eaL l l.length)) (fun k => ?_) (Ev.now _)
      simp only [zcy]
      rw [if_neg (by omega)]
    | succ d ih =>
      intro j hj
      have next := ih (j + 1) (by omega)
      rw [eaL, List.append_assoc, List.singleton_append] at next
      refine zai (fun k => by simp only [zcy]; rfl) (zac (by omega) ?_)
      rw [List.replicate_succ]
      exact zzl l hl j (by omega) _ _ next j 0 (by omega)
  unfold zf1
  refine Ev.bind (zo4 l (by omega) ok) (zac (by omega) (zac (by rw [Int.toNat_natCast]; omega) ?_))
  rw [Int.toNat_natCast]
  have := key l.length 0 (by omega)
  rw [eaL, List.nil_append] at this
  exact this
end
def laC (l : List Instr) (a : Int) (i : Nat) (S : List Int) : Nat → Int
  | 0 => a - zjf (cls (l.getD i zI).f0)
  | u + 1 => if dly l i (i + 1 + u) ≥ 0 then min (laC l a i S u) (S.getD u 0 - dly l i (i + 1 + u)) else laC l a i S u
def laL (l : List Instr) (a : Int) (n : Nat) : Nat → List Int
  | 0 => []
  | d + 1 => laC l a (n - 1 - d) (laL l a n d) d :: laL l a n d
theorem zlb (l : List Instr) (a : Int) (n : Nat) : ∀ d, (laL l a n d).length = d
  | 0 => rfl
  | d + 1 => by rw [laL, List.length_cons, zlb l a n d]
theorem ycv (l : List Instr) (a : Int) (i : Nat) (S : List Int) (B : Int) (hB : 4 ≤ B) (n : Nat) (hS : ∀ u, u < n → a - B ≤ S.getD u 0 ∧ S.getD u 0 ≤ a) : ∀ u, u ≤ n → a - (B + 4) ≤ laC l a i S u ∧ laC l a i S u ≤ a
  | 0, _ => by have := zp8 (cls (l.getD i zI).f0); unfold laC; omega
  | u + 1, h => by
    have ih := ycv l a i S B hB n hS u (by omega)
    have hd := zpx l i (i + 1 + u)
    have hp := hS u (by omega)
    unfold laC
    split <;> omega
theorem zyp (l : List Instr) (a : Int) (n : Nat) : ∀ d u : Nat, u < d → a - 4 * ((d : Int) + 1) ≤ (laL l a n d).getD u 0 ∧ (laL l a n d).getD u 0 ≤ a
  | 0, u, h => absurd h (by omega)
  | d + 1, u, h => by
    have ih := zyp l a n d
    have hc := ycv l a (n - 1 - d) (laL l a n d) (4 * ((d : Int) + 1)) (by omega) d ih d (Nat.le_refl _)
    unfold laL
    cases u with
    | zero => show a - _ ≤ laC l a (n - 1 - d) (laL l a n d) d ∧ laC l a (n - 1 - d) (laL l a n d) d ≤ a; omega
    | succ u => show a - _ ≤ (laL l a n d).getD u 0 ∧ (laL l a n d).getD u 0 ≤ a; have := ih u (by omega); omega
theorem zwn (Z S : List Int) (v : Int) (i u : Nat) (hZ : Z.length = i) : rd (Z ++ v :: S) ((i + 1 + u : Nat) : Int) = S.getD u 0 := by
  unfold rd
  rw [Int.toNat_natCast, zr1, if_neg (by omega), show i + 1 + u - Z.length = u + 1 by omega]
  rfl
theorem zyq {α : Type} (A B : List α) (x y : α) (i : Nat) (h : A.length = i) : (A ++ x :: B).set i y = A ++ y :: B := by
  have := zk2 A B x y i h
  rwa [Int.toNat_natCast] at this
theorem yb2 (l : List Instr) (hl : l.length ≤ 20) (a : Int) (ha : -100 ≤ a ∧ a ≤ 100) (i : Nat) (Z : List Int) (hZ : Z.length = i) (e : Nat) (he : i + 1 + e = l.length) :
    ∀ (d u : Nat), u + d = e → zf9 (tabI l l.length) i d (i + 1 + u) (Z ++ laC l a i (laL l a l.length e) u :: laL l a l.length e) = Z ++ laC l a i (laL l a l.length e) e :: laL l a l.length e := by
  intro d
  induction d with
  | zero =>
    intro u hu
    obtain rfl : u = e := by omega
    rfl
  | succ d ih =>
    intro u hu
    have next := ih (u + 1) (by omega)
    unfold zf9
    rw [zo5 l l.length (i + 1 + u) (by omega), zqv l (i + 1 + u) (i + 1 + u) i (by omega), zss _ _ _ i hZ, zwn _ _ _ i u hZ, show i + 1 + u + 1 = i + 1 + (u + 1) by omega]
    rw [← next]
    congr 1
    by_cases h : dly l i (i + 1 + u) ≥ 0
    · rw [if_pos h]
      have b1 := zyp l a l.length e u (by omega)
      have b2 := zpx l i (i + 1 + u)
      rw [w64 (by omega) (by omega), show ∀ x y : Int, mn x y = min x y from fun x y => by unfold mn; omega, zyq _ _ _ _ i hZ]
      rw [show laC l a i (laL l a l.length e) (u + 1) = min (laC l a i (laL l a l.length e) u) ((laL l a l.length e).getD u 0 - dly l i (i + 1 + u)) from if_pos h]
    · rw [if_neg h]
      rw [show laC l a i (laL l a l.length e) (u + 1) = laC l a i (laL l a l.length e) u from if_neg h]
theorem yag (l : List Instr) (hl : l.length ≤ 20) (a : Int) (ha : -100 ≤ a ∧ a ≤ 100) (cs : List Int) (hcs : ∀ i, i < l.length → rd cs (i : Nat) = zjf (cls (l.getD i zI).f0)) :
    ∀ d, d ≤ l.length → ((List.range d).map fun j => l.length - 1 - j).foldl (zcr (tabI l l.length) cs a l.length) (List.replicate l.length 0) = List.replicate (l.length - d) 0 ++ laL l a l.length d := by
  intro d
  induction d with
  | zero =>
    intro _
    rw [laL, List.append_nil]
    rfl
  | succ d ih =>
    intro hd
    rw [List.range_succ, List.map_append, List.foldl_append, ih (by omega), List.map_singleton]
    show zcr _ _ _ _ _ (l.length - 1 - d) = _
    generalize hi : l.length - 1 - d = i
    have hc := zp8 (cls (l.getD i zI).f0)
    have key := yb2 l hl a ha i (List.replicate i 0) (List.length_replicate) d (by omega) d 0 (by omega)
    unfold zcr
    rw [show l.length - 1 - i = d by omega, show l.length - d = i + 1 by omega, List.replicate_succ', List.append_assoc, List.singleton_append, zyq _ _ _ _ i List.length_replicate, hcs i (by omega), w64 (by omega) (by omega), show l.length - (d + 1) = i by omega]
    rw [laL, hi]
    exact key
theorem zyr : ∀ l : List Instr, zgw l = some (l.map fun x => zjf (cls x.f0))
  | [] => rfl
  | x :: xs => by
    unfold zgw
    rw [zvh, zyr xs]
    rfl
theorem ydw (l : List Instr) (hl : l.length ≤ 20) : zi2 (tabI l l.length) l.length = true := by
  unfold zi2
  rw [Bool.and_eq_true, decide_eq_true_eq, List.all_eq_true]
  refine ⟨⟨zn9 l l.length, by omega⟩, fun j hj => ?_⟩
  rw [decide_eq_true_eq, zo5 l l.length j (List.mem_range.1 hj), zn8]
  exact Nat.le_refl _
theorem zwo (l : List Instr) (hl : l.length ≤ 20) (a : Int) (ha : -100 ≤ a ∧ a ≤ 100) : Ev (fun k => zhr k l a) (laL l a l.length l.length) := by
  unfold zhr
  refine Ev.bind (zpy l (by omega)) (Ev.call (zyr l) (zac (ydw l hl) (Ev.some ?_)))
  have := yag l hl a ha (l.map fun x => zjf (cls x.f0)) (fun i hi => znq (fun d => by simp [List.getD, hi])) l.length (Nat.le_refl _)
  rw [Nat.sub_self] at this
  exact this
theorem yb3 (a b : Int) : zku a b = some (min a b) := by
  unfold zku
  by_cases q : a < b
  · rw [if_pos q]; congr 1; omega
  · rw [if_neg q]; congr 1; omega
section
variable (l : List Instr) (hl : l.length ≤ 20) (ok : ∀ x ∈ l, okI x) (a : Int) (ha : -100 ≤ a ∧ a ≤ 100)
include hl ha
end
def ngL (xs : List Int) : List Int := xs.map fun x => -x
theorem zpz (xs : List Int) : (ngL xs).length = xs.length := by simp [ngL]
theorem zys (xs : List Int) (u : Nat) : (ngL xs).getD u 0 = -(xs.getD u 0) := by
  unfold ngL
  rw [List.getD_eq_getElem?_getD, List.getD_eq_getElem?_getD, List.getElem?_map]
  cases xs[u]? <;> rfl
def hts (l : List Instr) (d : Nat) : List Int := ngL (laL l 0 l.length d)
theorem zyt (l : List Instr) (hl : l.length ≤ 20) : Ev (fun k => zg7 k l) (hts l l.length) := by
  have hb := zyp l 0 l.length l.length
  have hn := zlb l 0 l.length l.length
  unfold zg7
  refine Ev.bind (zwo l hl 0 (by omega)) ?_
  unfold hts
  generalize laL l 0 l.length l.length = X at hb hn ⊢
  have key : ∀ (d i : Nat), i + d = X.length → Ev (fun k => zel k (ngL (X.take i) ++ X.drop i) X.length i) (ngL X) := by
    intro d
    induction d with
    | zero =>
      intro i hi
      obtain rfl : i = X.length := by omega
      rw [List.take_length, List.drop_length, List.append_nil]
      refine zai (f := fun _ => some (ngL X)) (fun k => ?_) (Ev.now _)
      simp only [zel]
      rw [if_neg (by omega)]
    | succ d ih =>
      intro i hi
      have next := ih (i + 1) (by omega)
      have hlt : i < X.length := by omega
      have hbi := hb i (by omega)
      rw [zhm X i hlt] at hbi
      have ht : (ngL (X.take i)).length = i := by rw [zpz, List.length_take]; omega
      rw [List.take_succ_eq_append_getElem hlt, show ngL (X.take i ++ [X[i]]) = ngL (X.take i) ++ [-X[i]] from List.map_append, List.append_assoc, List.singleton_append] at next
      rw [List.drop_eq_getElem_cons hlt]
      refine zai (fun k => by simp only [zel]; rfl) (zac (by omega) (zac (by omega) ?_))
      refine zac (by rw [List.length_append, List.length_cons, List.length_drop, ht]; omega) ?_
      rw [zss _ _ _ i ht, w64 (by omega) (by omega), zk2 _ _ _ _ i ht, w64n i (by omega)]
      exact next
  have := key X.length 0 (by omega)
  simpa [ngL] using this
theorem yah (l : List Instr) (hl : l.length ≤ 20) (i : Nat) (Z : List Int) (hZ : Z.length = i) (e : Nat) (he : i + 1 + e = l.length) (T : List Int)
    (hc : Ev (fun k => zdc k l (tabS l l.length) (Z ++ -(laC l 0 i (laL l 0 l.length e) e) :: hts l e) (wrap64 ((i : Int) - 1))) T) :
    ∀ (d u : Nat), u + d = e → Ev (fun k => zdd k l (tabS l l.length) (Z ++ -(laC l 0 i (laL l 0 l.length e) u) :: hts l e) i ((i + 1 + u : Nat) : Int)) T := by
  intro d
  induction d with
  | zero =>
    intro u hu
    obtain rfl : u = e := by omega
    exact zai (fun k => by simp only [zdd]; rfl) (zaq (by omega) hc)
  | succ d ih =>
    intro u hu
    have next := ih (u + 1) (by omega)
    have hh : (hts l e).length = e := by unfold hts; rw [zpz, zlb]
    have hlen : (Z ++ -(laC l 0 i (laL l 0 l.length e) u) :: hts l e).length = l.length := by rw [List.length_append, List.length_cons, hh]; omega
    refine zai (fun k => by simp only [zdd]; rfl) (zac (by omega) (zac (by omega) (zac (by rw [zo3]; omega) (zac (by omega) ?_))))
    rw [zvi l l.length i (by omega)]
    refine zac (by rw [zo2]; omega) ?_
    rw [zvj l i l.length (i + 1 + u) (by omega), show dlyS l i (i + 1 + u) = dly l i (i + 1 + u) from if_pos (by omega), w64n (i + 1 + u) (by omega), show i + 1 + u + 1 = i + 1 + (u + 1) by omega]
    by_cases h : dly l i (i + 1 + u) ≥ 0
    · rw [show laC l 0 i (laL l 0 l.length e) (u + 1) = min (laC l 0 i (laL l 0 l.length e) u) ((laL l 0 l.length e).getD u 0 - dly l i (i + 1 + u)) from if_pos h] at next
      have b1 := zyp l 0 l.length e u (by omega)
      have b2 := zpx l i (i + 1 + u)
      refine zac h (zac (by omega) (zac (by omega) ?_))
      rw [zss _ _ _ i hZ, zwn _ _ _ i u hZ, show (hts l e).getD u 0 = -((laL l 0 l.length e).getD u 0) from zys _ _, w64 (by omega) (by omega)]
      refine Ev.call (zxw _ _) ?_
      rw [zk2 _ _ _ _ i hZ, show max (-(laC l 0 i (laL l 0 l.length e) u)) (dly l i (i + 1 + u) + -((laL l 0 l.length e).getD u 0)) = -(min (laC l 0 i (laL l 0 l.length e) u) ((laL l 0 l.length e).getD u 0 - dly l i (i + 1 + u))) by omega]
      exact next
    · rw [show laC l 0 i (laL l 0 l.length e) (u + 1) = laC l 0 i (laL l 0 l.length e) u from if_neg h] at next
      exact zaq h next
theorem yb4 (l : List Instr) (hl : l.length ≤ 20) (ok : ∀ x ∈ l, okI x) : Ev (fun k => zgl k l) (hts l l.length) := by
  unfold zgl
  refine Ev.bind (zo4 l (by omega) ok) ?_
  refine zac (by omega) (zac (by omega) ?_)
  rw [Int.toNat_natCast, w64 (by omega) (by omega)]
  have key : ∀ (m d : Nat), d + m = l.length → Ev (fun k => zdc k l (tabS l l.length) (List.replicate m 0 ++ hts l d) ((m : Int) - 1)) (hts l l.length) := by
    intro m
    induction m with
    | zero =>
      intro d hd
      obtain rfl : d = l.length := by omega
      exact zai (fun k => by simp only [zdc]; rfl) (zaq (by omega) (Ev.some rfl))
    | succ m ih =>
      intro d hd
      have hok := ok (l.getD m zI) (by rw [zhm l m (by omega)]; exact List.getElem_mem _)
      have hlenR : (List.replicate m (0 : Int)).length = m := List.length_replicate
      have hh : (hts l d).length = d := by unfold hts; rw [zpz, zlb]
      refine zai (fun k => by simp only [zdc]; rfl) (zac (by omega) ?_)
      rw [show ((m + 1 : Nat) : Int) - 1 = (m : Int) by omega]
      refine zac (by omega) (zac (by omega) ?_)
      rw [zrx (x := l.getD m zI) (fun d' => by rw [zhm l m (by omega) d', zhm l m (by omega) zI])]
      refine Ev.call (zry _ hok.1) (zac (by rw [List.length_append, List.length_replicate, hh]; omega) ?_)
      rw [List.replicate_succ', List.append_assoc, List.singleton_append, zk2 _ _ _ _ m hlenR, w64n m (by omega)]
      have hlast : hts l (d + 1) = -(laC l 0 m (laL l 0 l.length d) d) :: hts l d := by
        have : hts l (d + 1) = -(laC l 0 (l.length - 1 - d) (laL l 0 l.length d) d) :: hts l d := rfl
        rw [this, show l.length - 1 - d = m by omega]
      have row := yah l hl m (List.replicate m 0) hlenR d (by omega) (hts l l.length) (by rw [← hlast, w64 (by omega) (by omega)]; exact ih (d + 1) (by omega)) d 0 (by omega)
      rw [show -(laC l 0 m (laL l 0 l.length d) 0) = zjf (cls (l.getD m zI).f0) by show -((0 : Int) - _) = _; omega] at row
      exact row
  have := key l.length 0 (by omega)
  rw [show hts l 0 = [] from rfl, List.append_nil] at this
  exact this
end Go.Proofs.YtabnafbgcpchdaaGreat.PL
end
section
namespace Go.Proofs.YtabnafbgcpchdaaGreat.PL
open Go Go.RowKit Go.Proofs.YtabnafbgcpchdaaGreatW.PrintWords Go.Proofs.YtabnafbgcpchdaaGreatW.PrintLast Go.Proofs.YtabnafbgcpchdaaGreatW.PrintMore Go.Proofs.YtabnafbgcpchdaaGreat.Q
set_option linter.unusedSimpArgs false
set_option linter.unusedVariables false
set_option linter.unusedSectionVars false
theorem rdN (O : List Int) (i : Nat) : rd O (i : Int) = O.getD i 0 := by unfold rd; rw [Int.toNat_natCast]
def dOk (l : List Instr) (O : List Int) (j : Nat) (c : Int) (i : Nat) : Bool := decide (dly l i j ≥ 0 → 0 ≤ O.getD i 0 ∧ O.getD i 0 + dly l i j ≤ c)
def rdy (l : List Instr) (O : List Int) (j : Nat) (c : Int) : Bool := decide (O.getD j 0 < 0) && (List.range j).all (dOk l O j c)
def bst (l : List Instr) (H O : List Int) (c : Int) : Nat → Int
  | 0 => -1
  | m + 1 => if rdy l O m c = true ∧ (bst l H O c m < 0 ∨ H.getD m 0 > rd H (bst l H O c m)) then (m : Int) else bst l H O c m
theorem zr2 (l : List Instr) (H O : List Int) (c : Int) : ∀ m, -1 ≤ bst l H O c m ∧ bst l H O c m < m
  | 0 => by unfold bst; omega
  | m + 1 => by have := zr2 l H O c m; unfold bst; split <;> omega
def one (l : List Instr) (H : List Int) (c : Int) (O : List Int) : List Int := if bst l H O c l.length < 0 then O else O.set (bst l H O c l.length).toNat c
def many (l : List Instr) (H : List Int) (c : Int) : Nat → List Int → List Int
  | 0, O => O
  | r + 1, O => many l H c r (one l H c O)
theorem zty (l : List Instr) (H : List Int) (c : Int) (O : List Int) : (one l H c O).length = O.length := by unfold one; split <;> simp
theorem zvm (l : List Instr) (H : List Int) (c : Int) : ∀ r O, (many l H c r O).length = O.length
  | 0, _ => rfl
  | r + 1, O => by rw [many, zvm, zty]
theorem ztz (l : List Instr) (H : List Int) (c : Int) (O : List Int) (h : bst l H O c l.length < 0) : ∀ r, many l H c r O = O
  | 0 => rfl
  | r + 1 => by rw [many, show one l H c O = O from if_pos h, ztz l H c O h r]
def lsGo (l : List Instr) (H : List Int) (a : Nat) : Nat → Int → List Int → List Int
  | 0, _, O => O
  | f + 1, c, O => if (-1 : Int) ∈ O then lsGo l H a f (c + 1) (many l H c a O) else O
structure LsI (l : List Instr) (c : Int) (O : List Int) (m s : Nat) : Prop where
  len : O.length = l.length
  lo : ∀ i, i < l.length → -1 ≤ O.getD i 0
  hi : ∀ i, i < l.length → O.getD i 0 + 4 ≤ c + s
  s3 : s ≤ 3
  cnt : O.countP (fun x => decide (x = -1)) ≤ m
theorem zmm (O : List Int) (j i : Nat) (c : Int) (h : j < O.length) : (O.set j c).getD i 0 = if i = j then c else O.getD i 0 := by
  rw [List.getD_eq_getElem?_getD, List.getD_eq_getElem?_getD, List.getElem?_set]
  by_cases e : j = i
  · rw [if_pos e, if_pos e.symm, if_pos h]
    rfl
  · rw [if_neg e, if_neg (Ne.symm e)]
theorem yai (O : List Int) (j : Nat) (c : Int) (h : j < O.length) (hj : O.getD j 0 = -1) (hc : c ≠ -1) : (O.set j c).countP (fun x => decide (x = -1)) + 1 = O.countP (fun x => decide (x = -1)) := by
  have e : O = O.take j ++ O[j] :: O.drop (j + 1) := by simp
  have hx : O[j] = -1 := by
    rw [List.getD_eq_getElem?_getD, List.getElem?_eq_getElem h] at hj
    exact hj
  have e2 : O.set j c = O.take j ++ c :: O.drop (j + 1) := by
    rw [List.set_eq_take_append_cons_drop, if_pos h]
  rw [e2]
  conv => rhs; rw [e]
  rw [List.countP_append, List.countP_append, List.countP_cons, List.countP_cons, hx]
  simp [hc]
  omega
theorem zvn (l : List Instr) (H O : List Int) (c : Int) : ∀ m, 0 ≤ bst l H O c m → rdy l O (bst l H O c m).toNat c = true
  | 0, h => by unfold bst at h; omega
  | m + 1, h => by
    unfold bst at h ⊢
    by_cases q : rdy l O m c = true ∧ (bst l H O c m < 0 ∨ H.getD m 0 > rd H (bst l H O c m))
    · rw [if_pos q, Int.toNat_natCast]
      exact q.1
    · rw [if_neg q] at h ⊢
      exact zvn l H O c m h
theorem zyu (l : List Instr) (H O : List Int) (c : Int) (j : Nat) (hj : rdy l O j c = true) : ∀ m, j < m → 0 ≤ bst l H O c m
  | m + 1, h => by
    by_cases e : j = m
    · subst e
      unfold bst
      by_cases q : bst l H O c j < 0
      · rw [if_pos ⟨hj, .inl q⟩]
        omega
      · split <;> omega
    · have := zyu l H O c j hj m (by omega)
      unfold bst
      split <;> omega
theorem LsI.one_ {l : List Instr} {c : Int} {O : List Int} {m s : Nat} (H : List Int) (hc : 0 ≤ c) (h : LsI l c O m s) (hb : 0 ≤ bst l H O c l.length) : ∃ m', m' + 1 = m ∧ (∀ i, i < l.length → -1 ≤ (one l H c O).getD i 0) ∧ (∀ i, i < l.length → (one l H c O).getD i 0 ≤ c) ∧ (one l H c O).countP (fun x => decide (x = -1)) ≤ m' := by
  have hbd := zr2 l H O c l.length
  have hr := zvn l H O c l.length hb
  generalize hj : (bst l H O c l.length).toNat = j at hr
  have hjn : j < l.length := by omega
  have e : one l H c O = O.set j c := by rw [← hj]; exact if_neg (by omega)
  unfold rdy at hr
  rw [Bool.and_eq_true, decide_eq_true_eq] at hr
  have h1 : O.getD j 0 = -1 := by have := h.lo j hjn; omega
  have hcs := yai O j c (by rw [h.len]; exact hjn) h1 (by omega)
  have hcm := h.cnt
  refine ⟨m - 1, by omega, fun i hi => ?_, fun i hi => ?_, by rw [e]; omega⟩
  · rw [e, zmm _ _ _ _ (by rw [h.len]; exact hjn)]
    have := h.lo i hi
    split <;> omega
  · rw [e, zmm _ _ _ _ (by rw [h.len]; exact hjn)]
    have := h.hi i hi
    have := h.s3
    split <;> omega
theorem zxx (l : List Instr) (H : List Int) (c : Int) (hc : 0 ≤ c) (m : Nat) : ∀ (r : Nat) (O : List Int), O.length = l.length → (∀ i, i < l.length → -1 ≤ O.getD i 0) → (∀ i, i < l.length → O.getD i 0 ≤ c) → O.countP (fun x => decide (x = -1)) ≤ m →
    (∀ i, i < l.length → -1 ≤ (many l H c r O).getD i 0) ∧ (∀ i, i < l.length → (many l H c r O).getD i 0 ≤ c) ∧ (many l H c r O).countP (fun x => decide (x = -1)) ≤ m
  | 0, O, _, h1, h2, h3 => ⟨h1, h2, h3⟩
  | r + 1, O, h0, h1, h2, h3 => by
    rw [many]
    by_cases hb : bst l H O c l.length < 0
    · rw [show one l H c O = O from if_pos hb]
      exact zxx l H c hc m r O h0 h1 h2 h3
    · have hbd := zr2 l H O c l.length
      have hr := zvn l H O c l.length (by omega)
      generalize hj : (bst l H O c l.length).toNat = j at hr
      have hjn : j < O.length := by omega
      have e : one l H c O = O.set j c := by rw [← hj]; exact if_neg hb
      unfold rdy at hr
      rw [Bool.and_eq_true, decide_eq_true_eq] at hr
      have h4 := h1 j (by omega)
      have hcs := yai O j c hjn (by omega) (by omega)
      refine zxx l H c hc m r _ (by rw [zty]; exact h0) (fun i hi => ?_) (fun i hi => ?_) (by rw [e]; omega)
      · rw [e, zmm _ _ _ _ hjn]
        have := h1 i hi
        split <;> omega
      · rw [e, zmm _ _ _ _ hjn]
        have := h2 i hi
        split <;> omega
theorem zuw (l : List Instr) (c : Int) (O : List Int) (hl : O.length = l.length) (lo : ∀ i, i < l.length → -1 ≤ O.getD i 0) (hi : ∀ i, i < l.length → O.getD i 0 + 4 ≤ c) : ∀ (d j : Nat), j + d = l.length → (∀ i, i < j → 0 ≤ O.getD i 0) → (-1 : Int) ∈ O → ∃ i, i < l.length ∧ rdy l O i c = true
  | 0, j, hj, hb, hm => by
    obtain ⟨i, hi', e⟩ := List.getElem_of_mem hm
    have := hb i (by omega)
    rw [List.getD_eq_getElem?_getD, List.getElem?_eq_getElem hi', Option.getD_some, e] at this
    omega
  | d + 1, j, hj, hb, hm => by
    by_cases q : 0 ≤ O.getD j 0
    · exact zuw l c O hl lo hi d (j + 1) (by omega) (fun i h => by
        by_cases e : i = j
        · rw [e]; exact q
        · exact hb i (by omega)) hm
    · refine ⟨j, by omega, ?_⟩
      unfold rdy
      rw [Bool.and_eq_true, decide_eq_true_eq]
      refine ⟨by omega, List.all_eq_true.2 fun i hi' => decide_eq_true fun _ => ?_⟩
      have h1 := List.mem_range.1 hi'
      have := hb i h1
      have := hi i (by omega)
      have := zpx l i j
      omega
theorem LsI.next {l : List Instr} {c : Int} {O : List Int} {m s : Nat} (H : List Int) (a : Nat) (ha : 1 ≤ a) (hc : 0 ≤ c) (h : LsI l c O m s) (hm : (-1 : Int) ∈ O) : ∃ m' s', LsI l (c + 1) (many l H c a O) m' s' ∧ 4 * m' + s' + 1 ≤ 4 * m + s := by
  by_cases hb : bst l H O c l.length < 0
  · rw [ztz l H c O hb]
    have hs : s ≠ 0 := fun e => by
      obtain ⟨i, hi, hr⟩ := zuw l c O h.len h.lo (fun i hi => by have := h.hi i hi; omega) l.length 0 (by omega) (fun i hi => absurd hi (Nat.not_lt_zero _)) hm
      have := zyu l H O c i hr l.length hi
      omega
    exact ⟨m, s - 1, ⟨h.len, h.lo, fun i hi => by have := h.hi i hi; omega, by have := h.s3; omega, h.cnt⟩, by omega⟩
  · obtain ⟨m', hm', h1, h2, h3⟩ := h.one_ H hc (by omega)
    obtain ⟨b, rfl⟩ : ∃ b, a = b + 1 := ⟨a - 1, by omega⟩
    have hl := h.len
    obtain ⟨k1, k2, k3⟩ := zxx l H c hc m' b (one l H c O) (by rw [zty, h.len]) h1 h2 h3
    exact ⟨m', 3, ⟨by rw [zvm, h.len], k1, fun i hi => by have := k2 i hi; show (many l H c b (one l H c O)).getD i 0 + 4 ≤ c + 1 + 3; omega, by omega, k3⟩, by have := h.s3; omega⟩
section
variable (l : List Instr) (hl : l.length ≤ 20) (H : List Int) (hH : H.length = l.length) (O : List Int) (hO : O.length = l.length) (lo : ∀ i, i < l.length → -1 ≤ O.getD i 0) (hi : ∀ i, i < l.length → O.getD i 0 ≤ 1000) (c : Int) (hc : 0 ≤ c ∧ c ≤ 1000)
include hl hO lo hi hc
theorem ye6 (j : Nat) (hj : j < l.length) : Ev (fun k => zed k (j : Int) c [tabI l l.length] [O]) (rdy l O j c) := by
  unfold zed
  refine zac (by simp) (zac (by omega) ?_)
  rw [show zqc [tabI l l.length] 0 = tabI l l.length from rfl]
  refine zac (by rw [zn9]; omega) ?_
  rw [zo5 l l.length j hj, zn8]
  have key : ∀ (d i : Nat), i + d = j → Ev (fun k => zb0 k (j : Int) c [O] (rowI l j j) (j : Int) (i : Int)) (decide (O.getD j 0 < 0) && ((List.range j).drop i).all (dOk l O j c)) := by
    intro d
    induction d with
    | zero =>
      intro i hi
      obtain rfl : i = j := by omega
      rw [List.drop_of_length_le (by rw [List.length_range]; omega), List.all_nil, Bool.and_true]
      refine zai (fun k => by simp only [zb0]; rfl) (zaq (by omega) (zac (by simp) (zac (by omega) ?_)))
      rw [show za5 [O] 0 = O from rfl]
      exact zac (by omega) (Ev.some (by rw [rdN]))
    | succ d ih =>
      intro i hid
      have hij : i < j := by omega
      have hdr : (List.range j).drop i = i :: (List.range j).drop (i + 1) := by
        rw [List.drop_eq_getElem_cons (by rw [List.length_range]; exact hij), List.getElem_range]
      have next := ih (i + 1) (by omega)
      have b1 := lo i (by omega)
      have b2 := hi i (by omega)
      have b3 := zpx l i j
      rw [hdr, List.all_cons]
      refine zai (fun k => by simp only [zb0]; rfl) (zac (by omega) (zac (by omega) (zac (by rw [zn8]; omega) ?_)))
      rw [zqv l j j i hij, show za5 [O] 0 = O from rfl, rdN, w64n i (by omega)]
      by_cases q : dly l i j ≥ 0
      · refine zac q (zac (by simp) (zac (by omega) ?_))
        by_cases q1 : O.getD i 0 < 0
        · rw [show dOk l O j c i = false from decide_eq_false (fun h => by have := h q; omega), Bool.false_and, Bool.and_false]
          exact zac q1 (Ev.now _)
        · refine zaq q1 ?_
          rw [w64 (by omega) (by omega)]
          by_cases q2 : O.getD i 0 + dly l i j > c
          · rw [show dOk l O j c i = false from decide_eq_false (fun h => by have := h q; omega), Bool.false_and, Bool.and_false]
            exact zac q2 (Ev.now _)
          · rw [show dOk l O j c i = true from decide_eq_true (fun _ => by omega), Bool.true_and]
            exact zaq q2 next
      · rw [show dOk l O j c i = true from decide_eq_true (fun h => absurd h q), Bool.true_and]
        exact zaq q next
  have := key j 0 (by omega)
  rw [List.drop_zero] at this
  exact this
theorem zzm (j : Nat) (hj : j < l.length) : Ev (fun k => zh1 k (tabS l l.length) O (j : Int) c) (rdy l O j c) := by
  unfold zh1
  refine zac (by omega) (zac (by omega) ?_)
  rw [rdN]
  unfold rdy
  by_cases q0 : O.getD j 0 ≥ 0
  · rw [decide_eq_false (by omega), Bool.false_and]
    exact zac q0 (Ev.now _)
  · rw [decide_eq_true (by omega), Bool.true_and]
    refine zaq q0 ?_
    rw [zo3]
    have key : ∀ (d i : Nat), i + d = l.length → Ev (fun k => zd7 k O (j : Int) c (tabS l l.length) (l.length : Int) (i : Int)) (((List.range j).drop i).all (dOk l O j c)) := by
      intro d
      induction d with
      | zero =>
        intro i hi
        rw [List.drop_of_length_le (by rw [List.length_range]; omega), List.all_nil]
        exact zai (fun k => by simp only [zd7]; rfl) (zaq (by omega) (Ev.now _))
      | succ d ih =>
        intro i hid
        have next := ih (i + 1) (by omega)
        refine zai (fun k => by simp only [zd7]; rfl) (zac (by omega) (zac (by omega) (zac (by rw [zo3]; omega) (zac (by omega) ?_))))
        rw [zvi l l.length i (by omega), zo2]
        refine zac (by omega) ?_
        rw [zvj l i l.length j hj, rdN, w64n i (by omega)]
        by_cases hij : i < j
        · have hdr : (List.range j).drop i = i :: (List.range j).drop (i + 1) := by
            rw [List.drop_eq_getElem_cons (by rw [List.length_range]; exact hij), List.getElem_range]
          have b1 := lo i (by omega)
          have b2 := hi i (by omega)
          have b3 := zpx l i j
          rw [hdr, List.all_cons, show dlyS l i j = dly l i j from if_pos hij]
          by_cases q : dly l i j ≥ 0
          · refine zac q (zac (by omega) ?_)
            by_cases q1 : O.getD i 0 < 0
            · rw [show dOk l O j c i = false from decide_eq_false (fun h => by have := h q; omega), Bool.false_and]
              exact zac q1 (Ev.now _)
            · refine zaq q1 ?_
              rw [w64 (by omega) (by omega)]
              by_cases q2 : O.getD i 0 + dly l i j > c
              · rw [show dOk l O j c i = false from decide_eq_false (fun h => by have := h q; omega), Bool.false_and]
                exact zac q2 (Ev.now _)
              · rw [show dOk l O j c i = true from decide_eq_true (fun _ => by omega), Bool.true_and]
                exact zaq q2 next
          · rw [show dOk l O j c i = true from decide_eq_true (fun h => absurd h q), Bool.true_and]
            exact zaq q next
        · rw [List.drop_of_length_le (by rw [List.length_range]; omega), List.all_nil]
          rw [List.drop_of_length_le (by rw [List.length_range]; omega), List.all_nil] at next
          rw [show dlyS l i j = -1 from if_neg hij]
          exact zaq (by decide) next
    have := key l.length 0 (by omega)
    rw [List.drop_zero] at this
    exact this
include hH
theorem ye7 (a r : Int) (X : List Int × Bool) (hX : Ev (fun k => zb6 k l a H c a (wrap64 (r + 1)) (tabI l l.length) (one l H c O)) X) : ∀ (d j : Nat), j + d = l.length → Ev (fun k => zbz k l a H c (bst l H O c j) a r (l.length : Int) (j : Int) (tabI l l.length) O) X := by
  intro d
  induction d with
  | zero =>
    intro j hj
    obtain rfl : j = l.length := by omega
    have hb := zr2 l H O c l.length
    refine zai (fun k => by simp only [zbz]; rfl) (zaq (by omega) ?_)
    unfold one at hX
    by_cases q : bst l H O c l.length < 0
    · rw [if_pos q] at hX
      exact zaq (by omega) hX
    · rw [if_neg q] at hX
      exact zac (by omega) (zac (by omega) (zac (by omega) hX))
  | succ d ih =>
    intro j hj
    have next := ih (j + 1) (by omega)
    have hb := zr2 l H O c j
    unfold bst at next
    refine zai (fun k => by simp only [zbz]; rfl) (zac (by omega) (Ev.bind (ye6 l hl O hO lo hi c hc j (by omega)) ?_))
    rw [w64n j (by omega), rdN]
    by_cases q : rdy l O j c = true
    · refine zac q ?_
      by_cases q1 : bst l H O c j < 0
      · rw [if_pos ⟨q, .inl q1⟩] at next
        exact zac q1 next
      · refine zaq q1 (zac (by omega) (zac (by omega) (zac (by omega) (zac (by omega) ?_))))
        by_cases q2 : H.getD j 0 > rd H (bst l H O c j)
        · rw [if_pos ⟨q, .inr q2⟩] at next
          exact zac q2 next
        · rw [if_neg (fun h => h.2.elim q1 q2)] at next
          exact zaq q2 next
    · rw [if_neg (fun h => q h.1)] at next
      exact zaq q next
theorem ye8 (a r : Int) (X : List Int) (h1 : bst l H O c l.length < 0 → Ev (fun k => zdv k a (tabS l l.length) H O (wrap64 (c + 1))) X) (h2 : ¬ bst l H O c l.length < 0 → Ev (fun k => zep k a (tabS l l.length) H (one l H c O) c (wrap64 (r - 1))) X) :
    ∀ (d j : Nat), j + d = l.length → Ev (fun k => zdw k a (tabS l l.length) H O c r (bst l H O c j) H (l.length : Int) (j : Int)) X := by
  intro d
  induction d with
  | zero =>
    intro j hj
    obtain rfl : j = l.length := by omega
    have hb := zr2 l H O c l.length
    refine zai (fun k => by simp only [zdw]; rfl) (zaq (by omega) ?_)
    by_cases q : bst l H O c l.length < 0
    · exact zac q (h1 q)
    · have := h2 q
      unfold one at this
      rw [if_neg q] at this
      exact zaq q (zac (by omega) (zac (by omega) this))
  | succ d ih =>
    intro j hj
    have next := ih (j + 1) (by omega)
    have hb := zr2 l H O c j
    unfold bst at next
    refine zai (fun k => by simp only [zdw]; rfl) (zac (by omega) (zac (by omega) (zac (by omega) (Ev.bind (zzm l hl O hO lo hi c hc j (by omega)) ?_))))
    rw [w64n j (by omega), rdN]
    by_cases q : rdy l O j c = true
    · refine zac q ?_
      by_cases q1 : bst l H O c j < 0
      · rw [if_pos ⟨q, .inl q1⟩] at next
        exact zac q1 next
      · refine zaq q1 (zac (by omega) (zac (by omega) ?_))
        by_cases q2 : H.getD j 0 > rd H (bst l H O c j)
        · rw [if_pos ⟨q, .inr q2⟩] at next
          exact zac q2 next
        · rw [if_neg (fun h => h.2.elim q1 q2)] at next
          exact zaq q2 next
    · rw [if_neg (fun h => q h.1)] at next
      exact zaq q next
end
theorem ycw (l : List Instr) (H : List Int) (c : Int) (hc : 0 ≤ c ∧ c ≤ 1000) (O : List Int) (hO : O.length = l.length) (lo : ∀ i, i < l.length → -1 ≤ O.getD i 0) (hi : ∀ i, i < l.length → O.getD i 0 ≤ 1000) :
    (∀ i, i < l.length → -1 ≤ (one l H c O).getD i 0) ∧ ∀ i, i < l.length → (one l H c O).getD i 0 ≤ 1000 := by
  have hb := zr2 l H O c l.length
  unfold one
  by_cases q : bst l H O c l.length < 0
  · rw [if_pos q]
    exact ⟨lo, hi⟩
  · rw [if_neg q]
    refine ⟨fun i h => ?_, fun i h => ?_⟩
    · rw [zmm _ _ _ _ (by omega)]
      have := lo i h
      split <;> omega
    · rw [zmm _ _ _ _ (by omega)]
      have := hi i h
      split <;> omega
theorem LsI.none {l : List Instr} {c : Int} {O : List Int} (h : LsI l c O 0 0) : ¬ (-1 : Int) ∈ O := fun hm => by
  have h1 := h.cnt
  have h2 : 0 < O.countP (fun x => decide (x = -1)) := List.countP_pos_iff.2 ⟨-1, hm, by simp⟩
  omega
section
variable (l : List Instr) (hl : l.length ≤ 20) (H : List Int) (hH : H.length = l.length) (a : Nat) (ha : 1 ≤ a ∧ a ≤ 3)
include hl hH ha
theorem ye9 (c : Int) (hc : 0 ≤ c ∧ c ≤ 1000) (X : List Int × Bool) : ∀ (m r : Nat) (O : List Int), r + m = a → O.length = l.length → (∀ i, i < l.length → -1 ≤ O.getD i 0) → (∀ i, i < l.length → O.getD i 0 ≤ 1000) →
    Ev (fun k => zch k l a H (c + 1) (tabI l l.length) (many l H c m O)) X → Ev (fun k => zb6 k l a H c a (r : Int) (tabI l l.length) O) X := by
  intro m
  induction m with
  | zero =>
    intro r O hr hO lo hi hX
    refine zai (fun k => by simp only [zb6]; rfl) (zaq (by omega) ?_)
    rw [w64 (by omega) (by omega)]
    exact hX
  | succ m ih =>
    intro r O hr hO lo hi hX
    obtain ⟨k1, k2⟩ := ycw l H c hc O hO lo hi
    refine zai (fun k => by simp only [zb6]; rfl) (zac (by omega) ?_)
    have := ye7 l hl H hH O hO lo hi c hc a r X (by rw [w64n r (by omega)]; exact ih (r + 1) _ (by omega) (by rw [zty, hO]) k1 k2 hX) l.length 0 (by omega)
    exact this
theorem yfa (c : Int) (hc : 0 ≤ c ∧ c ≤ 1000) (X : List Int) : ∀ (m : Nat) (O : List Int), m ≤ a → O.length = l.length → (∀ i, i < l.length → -1 ≤ O.getD i 0) → (∀ i, i < l.length → O.getD i 0 ≤ 1000) →
    Ev (fun k => zdv k a (tabS l l.length) H (many l H c m O) (c + 1)) X → Ev (fun k => zep k a (tabS l l.length) H O c (m : Int)) X := by
  intro m
  induction m with
  | zero =>
    intro O hr hO lo hi hX
    refine zai (fun k => by simp only [zep]; rfl) (zaq (by omega) ?_)
    rw [w64 (by omega) (by omega)]
    exact hX
  | succ m ih =>
    intro O hr hO lo hi hX
    obtain ⟨k1, k2⟩ := ycw l H c hc O hO lo hi
    refine zai (fun k => by simp only [zep]; rfl) (zac (by omega) ?_)
    rw [hH]
    refine ye8 l hl H hH O hO lo hi c hc a _ X (fun q => ?_) (fun q => ?_) l.length 0 (by omega)
    · rw [ztz l H c O q] at hX
      rw [w64 (by omega) (by omega)]
      exact hX
    · rw [show wrap64 (((m + 1 : Nat) : Int) - 1) = (m : Int) by rw [w64 (by omega) (by omega)]; omega]
      exact ih _ (by omega) (by rw [zty, hO]) k1 k2 hX
theorem yfb : ∀ (f : Nat) (c : Int) (O : List Int) (m s : Nat), LsI l c O m s → 4 * m + s ≤ f → 0 ≤ c → c + f ≤ 900 → Ev (fun k => zch k l a H c (tabI l l.length) O) (lsGo l H a f c O, true) := by
  intro f
  induction f with
  | zero =>
    intro c O m s h hf h0 hcf
    obtain rfl : m = 0 := by omega
    obtain rfl : s = 0 := by omega
    have hl' := h.len
    refine zai (fun k => by simp only [zch]; rfl) (Ev.bind (zns O (-1) (by omega)) ?_)
    rw [decide_eq_false h.none]
    exact zaq (by decide) (Ev.now _)
  | succ f ih =>
    intro c O m s h hf h0 hcf
    have hl' := h.len
    refine zai (fun k => by simp only [zch]; rfl) (Ev.bind (zns O (-1) (by omega)) ?_)
    unfold lsGo
    by_cases hm : (-1 : Int) ∈ O
    · rw [decide_eq_true hm, if_pos hm]
      obtain ⟨m', s', hn, hlt⟩ := h.next H a ha.1 h0 hm
      refine zac rfl (ye9 l hl H hH a ha c (by omega) _ a 0 O (by omega) h.len h.lo (fun i hi => by have := h.hi i hi; have := h.s3; omega) ?_)
      exact ih (c + 1) _ m' s' hn (by omega) (by omega) (by omega)
    · rw [decide_eq_false hm, if_neg hm]
      exact zaq (by decide) (Ev.now _)
theorem yfc : ∀ (f : Nat) (c : Int) (O : List Int) (m s : Nat), LsI l c O m s → 4 * m + s ≤ f → 0 ≤ c → c + f ≤ 900 → Ev (fun k => zdv k a (tabS l l.length) H O c) (lsGo l H a f c O) := by
  intro f
  induction f with
  | zero =>
    intro c O m s h hf h0 hcf
    obtain rfl : m = 0 := by omega
    obtain rfl : s = 0 := by omega
    have hl' := h.len
    refine zai (fun k => by simp only [zdv]; rfl) (Ev.bind (zym O (-1) (by omega)) ?_)
    rw [decide_eq_false h.none]
    exact zaq (by decide) (Ev.now _)
  | succ f ih =>
    intro c O m s h hf h0 hcf
    have hl' := h.len
    refine zai (fun k => by simp only [zdv]; rfl) (Ev.bind (zym O (-1) (by omega)) ?_)
    unfold lsGo
    by_cases hm : (-1 : Int) ∈ O
    · rw [decide_eq_true hm, if_pos hm]
      obtain ⟨m', s', hn, hlt⟩ := h.next H a ha.1 h0 hm
      refine zac rfl (yfa l hl H hH a ha c (by omega) _ a O (Nat.le_refl _) h.len h.lo (fun i hi => by have := h.hi i hi; have := h.s3; omega) ?_)
      exact ih (c + 1) _ m' s' hn (by omega) (by omega) (by omega)
    · rw [decide_eq_false hm, if_neg hm]
      exact zaq (by decide) (Ev.now _)
end
theorem zt0 (l : List Instr) : LsI l 0 (List.replicate l.length (-1)) l.length 3 := by
  have e : ∀ i, i < l.length → (List.replicate l.length (-1 : Int)).getD i 0 = -1 := fun i hi => by
    rw [List.getD_eq_getElem?_getD, List.getElem?_replicate, if_pos hi]
    rfl
  refine ⟨List.length_replicate, fun i hi => by rw [e i hi]; omega, fun i hi => by rw [e i hi]; omega, Nat.le_refl _, ?_⟩
  have := List.countP_le_length (p := fun x => decide (x = (-1 : Int))) (l := List.replicate l.length (-1 : Int))
  rw [List.length_replicate] at this
  exact this
def lsL (l : List Instr) (a : Nat) : List Int := lsGo l (hts l l.length) a 83 0 (List.replicate l.length (-1))
theorem zyv (l : List Instr) (H : List Int) (a : Nat) : ∀ f c O, (lsGo l H a f c O).length = O.length
  | 0, _, _ => rfl
  | f + 1, c, O => by
    unfold lsGo
    split
    · rw [zyv, zvm]
    · rfl
theorem zvo (l : List Instr) (a : Nat) : (lsL l a).length = l.length := by
  unfold lsL
  rw [zyv, List.length_replicate]
theorem yaj (l : List Instr) : (hts l l.length).length = l.length := by unfold hts; rw [zpz, zlb]
theorem ydx (n : Nat) (hn : n ≤ 1048576) : Ev (fun k => ziq k (n : Int)) (List.replicate n (-1)) := by
  unfold ziq
  have key : ∀ (d i : Nat), i + d = n → Ev (fun k => ze7 k (d : Int) (List.replicate i (-1))) (List.replicate n (-1)) := by
    intro d
    induction d with
    | zero =>
      intro i hi
      obtain rfl : i = n := by omega
      exact zai (fun k => by simp only [ze7]; rfl) (zaq (by omega) (Ev.now _))
    | succ d ih =>
      intro i hi
      have next := ih (i + 1) (by omega)
      refine zai (fun k => by simp only [ze7]; rfl) (zac (by omega) (zac (by rw [List.length_replicate]; omega) ?_))
      rw [show wrap64 (((d + 1 : Nat) : Int) - 1) = (d : Int) by rw [w64 (by omega) (by omega)]; omega, ← List.replicate_succ']
      exact next
  exact key n 0 (by omega)
theorem yak (l : List Instr) (hl : l.length ≤ 20) (ok : ∀ x ∈ l, okI x) (a : Nat) (ha : 1 ≤ a ∧ a ≤ 3) : Ev (fun k => zir k l (a : Int)) (lsL l a) := by
  unfold zir
  refine Ev.bind (zo4 l (by omega) ok) (Ev.bind (yb4 l hl ok) (Ev.bind (ydx l.length (by omega)) ?_))
  exact yfc l hl _ (yaj l) a ha 83 0 _ _ _ (zt0 l) (by omega) (by omega) (by omega)
def wbC (l : List Instr) (E : List Int) (c : Int) : Nat → Int × Int
  | 0 => (0, 100)
  | i + 1 => if rd E i ≥ c then (wrap64 ((wbC l E c i).1 + 1), min (wbC l E c i).2 (zjf (cls (l.getD i zI).f0))) else wbC l E c i
def wbQ (w c : Int) (p : Int × Int) : Int := wrap64 ((wrap64 ((wrap64 (c + (wrap64 (Int.tdiv (wrap64 ((wrap64 (p.1 + w)) - 1)) w)))) + p.2)) - 1)
def wbM (l : List Instr) (E : List Int) (w : Int) : Nat → Int
  | 0 => 0
  | i + 1 => max (wbM l E w i) (wbQ w (rd E i) (wbC l E (rd E i) l.length))
theorem rdB (O : List Int) (i : Nat) : rd O (i : Int) = O.getD i 0 := by unfold rd; rw [Int.toNat_natCast]
def cnt (o : List Int) (c : Int) : Nat := o.countP fun x => decide (x = c)
def rng (o : List Int) (c : Int) (k : Nat) : Nat := o.countP fun x => decide (c ≤ x ∧ x < c + k)
theorem zyw (c : Int) (k : Nat) : ∀ o : List Int, rng o c (k + 1) = rng o c k + cnt o (c + k)
  | [] => rfl
  | x :: o => by
    have ih := zyw c k o
    unfold rng cnt at ih ⊢
    rw [List.countP_cons, List.countP_cons, List.countP_cons, ih]
    by_cases h1 : c ≤ x ∧ x < c + k
    · rw [show decide (c ≤ x ∧ x < c + ((k + 1 : Nat) : Int)) = true from decide_eq_true (by omega), show decide (c ≤ x ∧ x < c + (k : Int)) = true from decide_eq_true h1, show decide (x = c + (k : Int)) = false from decide_eq_false (by omega)]
      simp
      omega
    · by_cases h2 : x = c + k
      · rw [show decide (c ≤ x ∧ x < c + ((k + 1 : Nat) : Int)) = true from decide_eq_true (by omega), show decide (c ≤ x ∧ x < c + (k : Int)) = false from decide_eq_false h1, show decide (x = c + (k : Int)) = true from decide_eq_true h2]
        simp
        omega
      · rw [show decide (c ≤ x ∧ x < c + ((k + 1 : Nat) : Int)) = false from decide_eq_false (by omega), show decide (c ≤ x ∧ x < c + (k : Int)) = false from decide_eq_false h1, show decide (x = c + (k : Int)) = false from decide_eq_false h2]
        simp
theorem yb5 (c : Int) (o : List Int) : rng o c 0 = 0 := by
  unfold rng
  rw [List.countP_eq_zero]
  intro x _
  simp
theorem ycx (o : List Int) (c : Int) (w : Nat) (h : ∀ d, cnt o d ≤ w) : ∀ k, rng o c k ≤ w * k
  | 0 => by rw [yb5]; omega
  | k + 1 => by have := ycx o c w h k; have := h (c + k); rw [zyw, Nat.mul_succ]; omega
def htAt (l : List Instr) (j : Nat) : Int := (hts l l.length).getD j 0
theorem zyx (l : List Instr) (P Q : List Int) (j : Nat) : ∀ u, (∀ i, i < u → P.getD i 0 ≤ Q.getD i 0) → eaC l P j u ≤ eaC l Q j u
  | 0, _ => Int.le_refl _
  | u + 1, h => by
    have h1 := zyx l P Q j u (fun i hi => h i (by omega))
    have h2 := h u (by omega)
    unfold eaC
    split <;> omega
theorem ycy (l : List Instr) (P : List Int) (j : Nat) : ∀ u, 0 ≤ eaC l P j u
  | 0 => Int.le_refl _
  | u + 1 => by
    have := ycy l P j u
    unfold eaC
    split <;> omega
structure Okp (l : List Instr) (w : Nat) (len : Int) (o : List Int) : Prop where
  at_ : ∀ j, j < o.length → eaC l o j j ≤ o.getD j 0 ∧ o.getD j 0 + htAt l j ≤ len
  wide : ∀ c, cnt o c ≤ w
theorem yal (o : List Int) (c : Int) (i : Nat) (h : i < o.length) : (o ++ [c]).getD i 0 = o.getD i 0 := by rw [zr1, if_pos h]
theorem zwp (l : List Instr) (a : Int) (i : Nat) (S : List Int) : ∀ u, u ≤ S.length → laC l a i (S.map fun x => a + x) u = a + laC l 0 i S u
  | 0, _ => by unfold laC; omega
  | u + 1, h => by
    have ih := zwp l a i S u (by omega)
    unfold laC
    have e : (S.map fun x => a + x).getD u 0 = a + S.getD u 0 := by
      rw [List.getD_eq_getElem?_getD, List.getD_eq_getElem?_getD, List.getElem?_map, List.getElem?_eq_getElem (by omega)]
      rfl
    rw [ih, e]
    split <;> omega
theorem zwq (l : List Instr) (a : Int) (n : Nat) : ∀ d, laL l a n d = (laL l 0 n d).map fun x => a + x
  | 0 => rfl
  | d + 1 => by
    unfold laL
    rw [zwq l a n d, zwp l a _ _ d (by rw [zlb]; exact Nat.le_refl _)]
    rfl
theorem zvp (l : List Instr) (a : Int) (n : Nat) : ∀ d u : Nat, u < d → (laL l a n d).getD u 0 = laC l a (n - d + u) (laL l a n (d - 1 - u)) (d - 1 - u) ∨ n < d
  | 0, u, h => absurd h (Nat.not_lt_zero _)
  | d + 1, u, h => by
    by_cases hn : n < d + 1
    · exact .inr hn
    · refine .inl ?_
      rw [show laL l a n (d + 1) = laC l a (n - 1 - d) (laL l a n d) d :: laL l a n d from rfl]
      cases u with
      | zero =>
        show laC l a (n - 1 - d) (laL l a n d) d = _
        rw [show n - (d + 1) + 0 = n - 1 - d by omega, show d + 1 - 1 - 0 = d by omega]
      | succ u =>
        show (laL l a n d).getD u 0 = _
        rcases zvp l a n d u (by omega) with e | e
        · rw [e, show n - (d + 1) + (u + 1) = n - d + u by omega, show d + 1 - 1 - (u + 1) = d - 1 - u by omega]
        · omega
theorem zyy (l : List Instr) (a : Int) (i : Nat) (S : List Int) : ∀ u, laC l a i S u ≤ a - zjf (cls (l.getD i zI).f0)
  | 0 => by unfold laC; omega
  | u + 1 => by
    have := zyy l a i S u
    unfold laC
    split <;> omega
theorem yam (l : List Instr) (j : Nat) : htAt l j = -((laL l 0 l.length l.length).getD j 0) := by unfold htAt hts; rw [zys]
theorem zp0 (l : List Instr) (a : Int) (j : Nat) (h : j < l.length) : (laL l a l.length l.length).getD j 0 = a - htAt l j := by
  rw [yam, zwq, List.getD_eq_getElem?_getD, List.getD_eq_getElem?_getD, List.getElem?_map, List.getElem?_eq_getElem (by rw [zlb]; exact h)]
  show a + _ = a - -_
  simp only [Option.getD_some]
  omega
theorem yan (l : List Instr) (j : Nat) (h : j < l.length) : zjf (cls (l.getD j zI).f0) ≤ htAt l j := by
  rw [yam]
  rcases zvp l 0 l.length l.length j h with e | e
  · rw [e]
    have := zyy l 0 (l.length - l.length + j) (laL l 0 l.length (l.length - 1 - j)) (l.length - 1 - j)
    rw [show l.length - l.length + j = j by omega] at this ⊢
    omega
  · omega
section
variable {l : List Instr} {w : Nat} {len : Int} {r : List Int} (hr : Okp l w len r) (hn : r.length = l.length)
include hr hn
theorem yfd (j : Nat) (h : j < l.length) : 0 ≤ r.getD j 0 := by have := hr.at_ j (by omega); have := ycy l r j j; omega
theorem yb6 (h0 : 0 ≤ len) : (hts l l.length).foldl max 0 ≤ len := by
  have key : ∀ (xs : List Int) (m : Int), m ≤ len → (∀ x ∈ xs, x ≤ len) → xs.foldl max m ≤ len := by
    intro xs
    induction xs with
    | nil => intro m hm _; exact hm
    | cons x xs ih => intro m hm hx; exact ih _ (by have := hx x (by simp); omega) (fun y hy => hx y (by simp [hy]))
  refine key _ 0 h0 (fun x hx => ?_)
  obtain ⟨j, hj, e⟩ := List.getElem_of_mem hx
  have hl : (hts l l.length).length = l.length := by unfold hts; rw [zpz, zlb]
  have h1 := yfd hr hn j (by omega)
  have h2 := hr.at_ j (by omega)
  have e2 : htAt l j = x := by
    unfold htAt
    rw [List.getD_eq_getElem?_getD, List.getElem?_eq_getElem hj, e]
    rfl
  omega
theorem yao (u : Nat) : ∀ d j : Nat, u < j → (eaL l (j + d)).getD u 0 = (eaL l j).getD u 0
  | 0, _, _ => rfl
  | d + 1, j, h => by
    show (eaL l (j + d) ++ [_]).getD u 0 = _
    rw [yal _ _ _ (by rw [zi7]; omega), yao u d j h]
theorem zwr : ∀ j, j < l.length → (eaL l l.length).getD j 0 ≤ r.getD j 0 := by
  intro j
  induction j using Nat.strongRecOn with
  | _ j ih =>
    intro hj
    have e := yao hr hn j (l.length - (j + 1)) (j + 1) (by omega)
    rw [show j + 1 + (l.length - (j + 1)) = l.length by omega] at e
    have e1 : (eaL l (j + 1)).getD j 0 = eaC l (eaL l j) j j := by
      show (eaL l j ++ [_]).getD j 0 = _
      rw [zr1, if_neg (by rw [zi7]; omega), zi7, Nat.sub_self]
      rfl
    rw [e, e1]
    refine Int.le_trans (zyx l _ r j j (fun i hi => ?_)) (hr.at_ j (by omega)).1
    have e2 := yao hr hn i (l.length - j) j hi
    rw [show j + (l.length - j) = l.length by omega] at e2
    rw [← e2]
    exact ih i hi (by omega)
theorem ycz (c : Int) (k : Nat) (hk : ∀ i, i < l.length → rd (eaL l l.length) (i : Int) ≥ c → r.getD i 0 < c + k) : ∀ m : Nat, m ≤ l.length → l.length ≤ 20 → (wbC l (eaL l l.length) c m).1 ≤ (rng (r.take m) c k : Int) ∧ (wbC l (eaL l l.length) c m).1 ≤ m ∧ 0 ≤ (wbC l (eaL l l.length) c m).1
  | 0, _, _ => by unfold wbC; omega
  | m + 1, hm, hl => by
    obtain ⟨ih1, ih2, ih3⟩ := ycz c k hk m (by omega) hl
    have hlt : m < r.length := by omega
    rw [List.take_succ_eq_append_getElem hlt]
    have e0 : r.getD m 0 = r[m] := by rw [List.getD_eq_getElem?_getD, List.getElem?_eq_getElem hlt]; rfl
    have es : rng (r.take m ++ [r[m]]) c k = rng (r.take m) c k + if decide (c ≤ r[m] ∧ r[m] < c + k) = true then 1 else 0 := by
      unfold rng
      rw [List.countP_append, List.countP_cons, List.countP_nil, Nat.zero_add]
    rw [es]
    unfold wbC
    by_cases q : rd (eaL l l.length) (m : Int) ≥ c
    · rw [if_pos q]
      have h1 := hk m (by omega) q
      have h2 := zwr hr hn m (by omega)
      rw [rdB] at q
      rw [if_pos (decide_eq_true (by rw [← e0]; omega))]
      simp only
      rw [w64 (by omega) (by omega)]
      omega
    · rw [if_neg q]
      omega
theorem yap (c : Int) (hl : l.length ≤ 20) : ∀ m i : Nat, m ≤ l.length → i < m → rd (eaL l l.length) (i : Int) ≥ c → 1 ≤ (wbC l (eaL l l.length) c m).1 ∧ (wbC l (eaL l l.length) c m).1 ≤ 20
  | m + 1, i, hm, hi, h => by
    have hb : ∀ m : Nat, m ≤ 20 → 0 ≤ (wbC l (eaL l l.length) c m).1 ∧ (wbC l (eaL l l.length) c m).1 ≤ m := by
      intro m
      induction m with
      | zero => intro _; unfold wbC; omega
      | succ m ih =>
        intro hm
        have := ih (by omega)
        unfold wbC
        split
        · simp only
          rw [w64 (by omega) (by omega)]
          omega
        · omega
    have hbm := hb m (by omega)
    unfold wbC
    by_cases e : i = m
    · subst e
      rw [if_pos h]
      simp only
      rw [w64 (by omega) (by omega)]
      omega
    · have ih := yap c hl m i (by omega) (by omega) h
      split
      · simp only
        rw [w64 (by omega) (by omega)]
        omega
      · exact ih
theorem zws (c : Int) : ∀ m i : Nat, i < m → rd (eaL l l.length) (i : Int) ≥ c → (wbC l (eaL l l.length) c m).2 ≤ zjf (cls (l.getD i zI).f0)
  | m + 1, i, hi, h => by
    unfold wbC
    by_cases e : i = m
    · subst e
      rw [if_pos h]
      simp only
      omega
    · have ih := zws c m i (by omega) h
      split
      · simp only
        omega
      · exact ih
theorem yc0 (c : Int) : ∀ m : Nat, 0 ≤ (wbC l (eaL l l.length) c m).2 ∧ (wbC l (eaL l l.length) c m).2 ≤ 100
  | 0 => by unfold wbC; omega
  | m + 1 => by
    have ih := yc0 c m
    have := zp8 (cls (l.getD m zI).f0)
    unfold wbC
    split
    · simp only
      omega
    · exact ih
theorem zyz (hw : 1 ≤ w ∧ w ≤ 3) (hl : l.length ≤ 20) (h0 : 0 ≤ len) : ∀ m, m ≤ l.length → wbM l (eaL l l.length) w m ≤ len
  | 0, _ => by unfold wbM; exact h0
  | m + 1, hm => by
    have ih := zyz hw hl h0 m (by omega)
    unfold wbM
    generalize hc : rd (eaL l l.length) (m : Int) = c
    have hcb := zyo l l.length m
    rw [← rdB, hc] at hcb
    have hL := yc0 hr hn c l.length
    have h1 := yap hr hn c hl l.length m (Nat.le_refl _) (by omega) (by omega)
    generalize hp : wbC l (eaL l l.length) c l.length = p at hL h1
    obtain ⟨N, L⟩ := p
    simp only at hL h1
    have late : ∃ i, i < l.length ∧ rd (eaL l l.length) (i : Int) ≥ c ∧ c + ((N + w - 1) / w - 1) ≤ r.getD i 0 := by
      refine Classical.byContradiction fun hno => ?_
      have hk : ∀ i, i < l.length → rd (eaL l l.length) (i : Int) ≥ c → r.getD i 0 < c + (((N + w - 1) / w - 1).toNat : Nat) := fun i hi he => by
        rcases Int.lt_or_le (r.getD i 0) (c + ((N + w - 1) / w - 1)) with h | h
        · have : (N + w - 1) / w - 1 ≤ (((N + w - 1) / w - 1).toNat : Nat) := Int.self_le_toNat _
          omega
        · exact absurd ⟨i, hi, he, h⟩ hno
      have hN := (ycz hr hn c _ hk l.length (Nat.le_refl _) hl).1
      have hR := ycx r c w hr.wide ((N + w - 1) / w - 1).toNat
      rw [hp, show r.take l.length = r from List.take_of_length_le (by omega)] at hN
      simp only at hN
      rcases (by omega : w = 1 ∨ w = 2 ∨ w = 3) with rfl | rfl | rfl <;> omega
    obtain ⟨i, hi, he, hb⟩ := late
    have hcost := zws hr hn c l.length i hi he
    rw [hp] at hcost
    simp only at hcost
    have h2 := (hr.at_ i (by omega)).2
    have h3 := yan l i hi
    have hq : wbQ w c (N, L) = c + (N + w - 1) / w + L - 1 := by
      unfold wbQ
      simp only
      rw [w64 (x := N + w) (by omega) (by omega), w64 (x := N + w - 1) (by omega) (by omega), Int.tdiv_eq_ediv_of_nonneg (by omega)]
      have hd : 0 ≤ (N + w - 1) / w ∧ (N + w - 1) / w ≤ N + w := by rcases (by omega : w = 1 ∨ w = 2 ∨ w = 3) with rfl | rfl | rfl <;> omega
      rw [w64 (x := (N + w - 1) / w) (by omega) (by omega), w64 (x := c + (N + w - 1) / w) (by omega) (by omega), w64 (x := c + (N + w - 1) / w + L) (by omega) (by omega), w64 (by omega) (by omega)]
    rw [hq]
    omega
end
structure Sch (l : List Instr) (w : Nat) (C : List Int) : Prop where
  len : C.length = l.length
  nn : ∀ j, j < l.length → 0 ≤ C.getD j 0
  dl : ∀ i j, i < j → j < l.length → 0 ≤ dly l i j → C.getD i 0 + dly l i j ≤ C.getD j 0
  wide : ∀ c, cnt C c ≤ w
def cstA (l : List Instr) (j : Nat) : Int := zjf (cls (l.getD j zI).f0)
theorem yc1 (l : List Instr) (P : List Int) (j : Nat) (x : Int) (h0 : 0 ≤ x) : ∀ u, (∀ i, i < u → 0 ≤ dly l i j → P.getD i 0 + dly l i j ≤ x) → eaC l P j u ≤ x
  | 0, _ => h0
  | u + 1, h => by
    have ih := yc1 l P j x h0 u (fun i hi => h i (by omega))
    have h1 := h u (by omega)
    unfold eaC
    split
    · have := h1 (by omega)
      omega
    · exact ih
theorem yc2 (l : List Instr) (a : Int) (i : Nat) (S : List Int) (x : Int) (h0 : x ≤ a - cstA l i) : ∀ u, (∀ v, v < u → 0 ≤ dly l i (i + 1 + v) → x ≤ S.getD v 0 - dly l i (i + 1 + v)) → x ≤ laC l a i S u
  | 0, _ => h0
  | u + 1, h => by
    have ih := yc2 l a i S x h0 u (fun v hv => h v (by omega))
    have h1 := h u (by omega)
    unfold laC
    split
    · have := h1 (by omega)
      omega
    · exact ih
theorem yaq (l : List Instr) (a : Int) (j : Nat) (h : j < l.length) : (laL l a l.length l.length).getD j 0 = laC l a j (laL l a l.length (l.length - 1 - j)) (l.length - 1 - j) := by
  rcases zvp l a l.length l.length j h with e | e
  · rw [e, Nat.sub_self, Nat.zero_add]
  · omega
theorem ydy (l : List Instr) (a : Int) (j v : Nat) (h : v < l.length - 1 - j) : (laL l a l.length (l.length - 1 - j)).getD v 0 = (laL l a l.length l.length).getD (j + 1 + v) 0 := by
  rw [yaq l a (j + 1 + v) (by omega)]
  rcases zvp l a l.length (l.length - 1 - j) v h with e | e
  · rw [e, show l.length - (l.length - 1 - j) + v = j + 1 + v by omega, show l.length - 1 - j - 1 - v = l.length - 1 - (j + 1 + v) by omega]
  · omega
section
variable {l : List Instr} {w : Nat} {C : List Int}
theorem Sch.late (h : Sch l w C) (len : Int) (hc : ∀ j, j < l.length → C.getD j 0 + cstA l j ≤ len) : ∀ m j, j < l.length → l.length - j ≤ m → C.getD j 0 + htAt l j ≤ len := by
  intro m
  induction m with
  | zero => intro j hj hm; omega
  | succ m ih =>
    intro j hj hm
    have h1 : C.getD j 0 ≤ (laL l len l.length l.length).getD j 0 := by
      rw [yaq l len j hj]
      have hcj := hc j hj
      refine yc2 l len j _ _ (by omega) _ (fun v hv hd => ?_)
      rw [ydy l len j v hv, zp0 l len (j + 1 + v) (by omega)]
      have h2 := ih (j + 1 + v) (by omega) (by omega)
      have h3 := h.dl j (j + 1 + v) (by omega) (by omega) hd
      omega
    rw [zp0 l len j hj] at h1
    omega
theorem Sch.okp (h : Sch l w C) (len : Int) (hc : ∀ j, j < l.length → C.getD j 0 + cstA l j ≤ len) : Okp l w len C :=
  ⟨fun j hj => by
    have hl := h.len
    exact ⟨yc1 l C j _ (h.nn j (by omega)) j (fun i hi hd => h.dl i j hi (by omega) hd), h.late len hc _ j (by omega) (Nat.le_refl _)⟩, h.wide⟩
end
def lenM : List Instr → List Int → Int → Int
  | x :: l, n :: c, m => lenM l c (if m < n + zjf (cls x.f0) then n + zjf (cls x.f0) else m)
  | _, _, m => m
theorem zst : ∀ (l : List Instr) (C : List Int) (m : Int), C.length = l.length → m ≤ lenM l C m ∧ ∀ j, j < l.length → C.getD j 0 + cstA l j ≤ lenM l C m
  | [], [], m, _ => ⟨Int.le_refl _, fun j h => absurd h (Nat.not_lt_zero _)⟩
  | [], _ :: _, m, h => by cases h
  | _ :: _, [], m, h => by cases h
  | x :: l, n :: C, m, h => by
    obtain ⟨h1, h2⟩ := zst l C (if m < n + zjf (cls x.f0) then n + zjf (cls x.f0) else m) (by simpa using h)
    show m ≤ lenM l C _ ∧ ∀ j, j < l.length + 1 → _ ≤ lenM l C _
    generalize lenM l C (if m < n + zjf (cls x.f0) then n + zjf (cls x.f0) else m) = X at h1 h2
    refine ⟨by split at h1 <;> omega, fun j hj => ?_⟩
    cases j with
    | zero =>
      show n + zjf (cls x.f0) ≤ X
      split at h1 <;> omega
    | succ j => exact h2 j (by omega)
theorem ydz (o : List Int) (x c : Int) : cnt (o ++ [x]) c = cnt o c + if x = c then 1 else 0 := by
  unfold cnt
  rw [List.countP_append, List.countP_cons, List.countP_nil, Nat.zero_add]
  by_cases q : x = c <;> simp [q]
section
variable {l : List Instr} (hl : l.length ≤ 7) {w : Nat} (hw : 1 ≤ w)
include hl hw
end
theorem Sch.path {l : List Instr} {w : Nat} {C : List Int} (h : Sch l w C) : (hts l l.length).foldl max 0 ≤ lenM l C 0 := by
  obtain ⟨g1, g2⟩ := zst l C 0 h.len
  exact yb6 (h.okp _ g2) h.len g1
theorem Sch.bound {l : List Instr} {w : Nat} {C : List Int} (h : Sch l w C) (hw : 1 ≤ w ∧ w ≤ 3) (hl : l.length ≤ 20) : wbM l (eaL l l.length) w l.length ≤ lenM l C 0 := by
  obtain ⟨g1, g2⟩ := zst l C 0 h.len
  exact zyz (h.okp _ g2) h.len hw hl g1 l.length (Nat.le_refl _)
theorem Sch.early {l : List Instr} {w : Nat} {C : List Int} (h : Sch l w C) (j : Nat) (hj : j < l.length) : (eaL l l.length).getD j 0 ≤ C.getD j 0 := by
  obtain ⟨g1, g2⟩ := zst l C 0 h.len
  exact zwr (h.okp _ g2) h.len j hj
theorem Sch.latest {l : List Instr} {w : Nat} {C : List Int} (h : Sch l w C) (j : Nat) (hj : j < l.length) : C.getD j 0 ≤ (laL l (lenM l C 0) l.length l.length).getD j 0 := by
  obtain ⟨g1, g2⟩ := zst l C 0 h.len
  have := h.late _ g2 _ j hj (Nat.le_refl _)
  rw [zp0 l _ j hj]
  omega
theorem yd0 (l : List Instr) (j : Nat) (hj : j < l.length) : htAt l j ≤ (hts l l.length).foldl max 0 := by
  have key : ∀ (xs : List Int) (m : Int), (m ≤ xs.foldl max m) ∧ ∀ x ∈ xs, x ≤ xs.foldl max m := by
    intro xs
    induction xs with
    | nil => intro m; exact ⟨Int.le_refl _, fun x h => by cases h⟩
    | cons y xs ih =>
      intro m
      obtain ⟨i1, i2⟩ := ih (max m y)
      refine ⟨by show m ≤ xs.foldl max (max m y); omega, fun x hx => ?_⟩
      show x ≤ xs.foldl max (max m y)
      rcases List.mem_cons.1 hx with rfl | hx
      · omega
      · exact i2 x hx
  have hl : (hts l l.length).length = l.length := by unfold hts; rw [zpz, zlb]
  refine (key (hts l l.length) 0).2 _ ?_
  unfold htAt
  rw [List.getD_eq_getElem?_getD, List.getElem?_eq_getElem (by omega), Option.getD_some]
  exact List.getElem_mem _
theorem yd1 (l : List Instr) (x : Int) (h0 : 0 ≤ x) (h : ∀ j, j < l.length → htAt l j ≤ x) : (hts l l.length).foldl max 0 ≤ x := by
  have key : ∀ (xs : List Int) (m : Int), m ≤ x → (∀ y ∈ xs, y ≤ x) → xs.foldl max m ≤ x := by
    intro xs
    induction xs with
    | nil => intro m hm _; exact hm
    | cons y xs ih => intro m hm hx; exact ih _ (by have := hx y (by simp); omega) (fun y hy => hx y (by simp [hy]))
  refine key _ 0 h0 (fun y hy => ?_)
  obtain ⟨j, hj, e⟩ := List.getElem_of_mem hy
  have hl : (hts l l.length).length = l.length := by unfold hts; rw [zpz, zlb]
  have e2 : htAt l j = y := by
    unfold htAt
    rw [List.getD_eq_getElem?_getD, List.getElem?_eq_getElem hj, e]
    rfl
  have := h j (by omega)
  omega
theorem zxy (O : List Int) (j : Nat) (c x : Int) (h : j < O.length) (hj : O.getD j 0 ≠ x) : cnt (O.set j c) x = cnt O x + if c = x then 1 else 0 := by
  have e : O = O.take j ++ O[j] :: O.drop (j + 1) := by simp
  have hx : O[j] ≠ x := by
    rw [List.getD_eq_getElem?_getD, List.getElem?_eq_getElem h] at hj
    exact hj
  have e2 : O.set j c = O.take j ++ c :: O.drop (j + 1) := by
    rw [List.set_eq_take_append_cons_drop, if_pos h]
  rw [e2]
  conv => rhs; rw [e]
  unfold cnt
  rw [List.countP_append, List.countP_append, List.countP_cons, List.countP_cons]
  by_cases q : c = x <;> simp [q, hx] <;> omega
structure LsV (l : List Instr) (a : Nat) (c : Int) (k : Nat) (O : List Int) : Prop where
  len : O.length = l.length
  dl : ∀ i j, i < j → j < l.length → 0 ≤ O.getD j 0 → 0 ≤ dly l i j → 0 ≤ O.getD i 0 ∧ O.getD i 0 + dly l i j ≤ O.getD j 0
  wide : ∀ x, 0 ≤ x → cnt O x ≤ a
  now : cnt O c ≤ k
  late : ∀ x, c < x → cnt O x = 0
theorem LsV.one_ {l : List Instr} {a : Nat} {c : Int} {k : Nat} {O : List Int} (H : List Int) (hc : 0 ≤ c) (hk : k + 1 ≤ a) (h : LsV l a c k O) : LsV l a c (k + 1) (one l H c O) := by
  by_cases hb : bst l H O c l.length < 0
  · rw [show one l H c O = O from if_pos hb]
    exact ⟨h.len, h.dl, h.wide, Nat.le_succ_of_le h.now, h.late⟩
  · have hbd := zr2 l H O c l.length
    have hr := zvn l H O c l.length (by omega)
    generalize hj : (bst l H O c l.length).toNat = j at hr
    have hjn : j < O.length := by rw [h.len]; omega
    have e : one l H c O = O.set j c := by rw [← hj]; exact if_neg hb
    unfold rdy at hr
    rw [Bool.and_eq_true, decide_eq_true_eq, List.all_eq_true] at hr
    have hn := h.now
    rw [e]
    refine ⟨by rw [List.length_set]; exact h.len, fun i k' hik hkn h0 hd => ?_, fun x hx => ?_, ?_, fun x hx => ?_⟩
    · rw [zmm _ _ _ _ hjn] at h0 ⊢
      rw [zmm _ _ _ _ hjn]
      by_cases e1 : k' = j
      · subst e1
        have h2 := hr.2 i (List.mem_range.2 hik)
        unfold dOk at h2
        have h3 := of_decide_eq_true h2 hd
        rw [if_neg (by omega), if_pos rfl]
        exact h3
      · rw [if_neg e1] at h0 ⊢
        have h2 := h.dl i k' hik hkn h0 hd
        by_cases e2 : i = j
        · subst e2
          omega
        · rw [if_neg e2]
          exact h2
    · rw [zxy O j c x hjn (by omega)]
      by_cases e1 : c = x
      · subst e1
        rw [if_pos rfl]
        omega
      · rw [if_neg e1]
        exact h.wide x hx
    · rw [zxy O j c c hjn (by omega), if_pos rfl]
      omega
    · rw [zxy O j c x hjn (by omega), if_neg (by omega)]
      exact h.late x hx
theorem yc3 {l : List Instr} {a : Nat} {c : Int} (H : List Int) (hc : 0 ≤ c) : ∀ (r k : Nat) (O : List Int), r + k ≤ a → LsV l a c k O → LsV l a c (k + r) (many l H c r O)
  | 0, _, _, _, h => h
  | r + 1, k, O, hk, h => by
    have := yc3 H hc r (k + 1) _ (by omega) (h.one_ H hc (by omega))
    rw [many, show k + (r + 1) = k + 1 + r by omega]
    exact this
theorem yc4 (l : List Instr) (H : List Int) (a : Nat) (ha : 1 ≤ a) : ∀ (f : Nat) (c : Int) (O : List Int) (m s : Nat), LsI l c O m s → LsV l a c 0 O → 4 * m + s ≤ f → 0 ≤ c →
    ¬ (-1 : Int) ∈ lsGo l H a f c O ∧ (∃ c', LsV l a c' 0 (lsGo l H a f c O)) ∧ ∀ i, i < l.length → -1 ≤ (lsGo l H a f c O).getD i 0 ∧ (lsGo l H a f c O).getD i 0 ≤ c + f
  | 0, c, O, m, s, h, hv, hf, hc => by
    obtain rfl : m = 0 := by omega
    obtain rfl : s = 0 := by omega
    exact ⟨h.none, ⟨c, hv⟩, fun i hi => by
      have h1 := h.lo i hi
      have h2 := h.hi i hi
      show -1 ≤ O.getD i 0 ∧ O.getD i 0 ≤ c + ((0 : Nat) : Int)
      omega⟩
  | f + 1, c, O, m, s, h, hv, hf, hc => by
    unfold lsGo
    by_cases hm : (-1 : Int) ∈ O
    · rw [if_pos hm]
      obtain ⟨m', s', hn, hlt⟩ := h.next H a ha hc hm
      have h1 := yc3 H hc a 0 O (by omega) hv
      have h2 : LsV l a (c + 1) 0 (many l H c a O) := ⟨h1.len, h1.dl, h1.wide, by rw [h1.late (c + 1) (by omega)]; exact Nat.le_refl _, fun x hx => h1.late x (by omega)⟩
      obtain ⟨k1, k2, k3⟩ := yc4 l H a ha f (c + 1) _ m' s' hn h2 (by omega) (by omega)
      exact ⟨k1, k2, fun i hi => by have := k3 i hi; omega⟩
    · rw [if_neg hm]
      exact ⟨hm, ⟨c, hv⟩, fun i hi => by
        have h1 := h.lo i hi
        have h2 := h.hi i hi
        have h3 := h.s3
        omega⟩
theorem yar (l : List Instr) (a : Nat) : LsV l a 0 0 (List.replicate l.length (-1)) := by
  have e : ∀ i, i < l.length → (List.replicate l.length (-1 : Int)).getD i 0 = -1 := fun i hi => by
    rw [List.getD_eq_getElem?_getD, List.getElem?_replicate, if_pos hi]
    rfl
  have z : ∀ x : Int, 0 ≤ x → cnt (List.replicate l.length (-1)) x = 0 := fun x hx => by
    unfold cnt
    rw [List.countP_eq_zero]
    intro y hy
    rw [List.eq_of_mem_replicate hy, decide_eq_true_eq]
    omega
  exact ⟨List.length_replicate, fun i j _ hj h0 _ => by rw [e j hj] at h0; omega, fun x hx => by rw [z x hx]; exact Nat.zero_le _, by rw [z 0 (Int.le_refl _)]; exact Nat.le_refl _, fun x hx => z x (by omega)⟩
theorem yb7 (l : List Instr) (hl : l.length ≤ 20) (a : Nat) (ha : 1 ≤ a) : Sch l a (lsL l a) ∧ ∀ j, j < l.length → (lsL l a).getD j 0 ≤ 100 := by
  obtain ⟨h1, ⟨c, h2⟩, h3⟩ := yc4 l (hts l l.length) a ha 83 0 _ _ _ (zt0 l) (yar l a) (by omega) (Int.le_refl _)
  have nn : ∀ j, j < l.length → 0 ≤ (lsL l a).getD j 0 := fun j hj => by
    have h4 := (h3 j hj).1
    have hlt : j < (lsL l a).length := by rw [zvo]; exact hj
    have h5 : (lsL l a).getD j 0 ≠ -1 := fun e => by
      refine (show ¬ (-1 : Int) ∈ lsL l a from h1) ?_
      rw [List.getD_eq_getElem?_getD, List.getElem?_eq_getElem hlt, Option.getD_some] at e
      have hm := List.getElem_mem hlt
      rw [e] at hm
      exact hm
    show 0 ≤ (lsL l a).getD j 0
    have h6 : -1 ≤ (lsL l a).getD j 0 := h4
    omega
  refine ⟨⟨zvo l a, nn, fun i j hi hj hd => (h2.dl i j hi hj (nn j hj) hd).2, fun x => ?_⟩, fun j hj => ?_⟩
  · rcases Int.lt_or_le x 0 with hx | hx
    · have : cnt (lsL l a) x = 0 := by
        unfold cnt
        rw [List.countP_eq_zero]
        intro y hy
        obtain ⟨j, hj, rfl⟩ := List.getElem_of_mem hy
        have := nn j (by rw [zvo] at hj; exact hj)
        rw [List.getD_eq_getElem?_getD, List.getElem?_eq_getElem hj, Option.getD_some] at this
        rw [decide_eq_true_eq]
        omega
      rw [this]
      exact Nat.zero_le _
    · exact h2.wide x hx
  · have := (h3 j hj).2
    show (lsL l a).getD j 0 ≤ 100
    have h6 : (lsL l a).getD j 0 ≤ 0 + ((83 : Nat) : Int) := this
    omega
end Go.Proofs.YtabnafbgcpchdaaGreat.PL
end
section
namespace Go.Proofs.YtabnafbgcpchdaaGreat.PL
open Go Go.RowKit Go.Proofs.YtabnafbgcpchdaaGreatW.PrintWords Go.Proofs.YtabnafbgcpchdaaGreatW.PrintLast Go.Proofs.YtabnafbgcpchdaaGreatW.PrintMore Go.Proofs.YtabnafbgcpchdaaGreat.Q
set_option linter.unusedSimpArgs false
set_option linter.unusedVariables false
def zhv (l : List Instr) (c : List Int) : Bool := zfk l && decide (c.length = l.length) && c.all (fun n => decide (0 ≤ n ∧ n ≤ 100))
theorem zp1 (l : List Instr) (c : List Int) (hc : c.length ≤ 1048576) : Ev (fun k => ze5 k l c) (zhv l c) := by
  unfold ze5
  refine Ev.bind (zlk l) ?_
  unfold zhv
  cases h : zfk l
  · exact zaq (by simp) (Ev.some rfl)
  · refine zac rfl ?_
    by_cases hl : c.length = l.length
    · refine zac (by omega) ?_
      have h : Ev (fun k => zbj k c) (idx (fun n => !decide (0 ≤ n ∧ n ≤ 100)) c) := by
        unfold zbj
        refine zpw c _ (fun k i => zas k c c.length i) ?_ (fun i x hi hx hp => ?_) (fun i x r hi hx hp hr => ?_)
        · refine zai (f := fun _ => some (-1)) (fun k => ?_) (Ev.now _)
          simp only [zas]
          rw [if_neg (by omega)]
        · refine zai (f := fun _ => some (i : Int)) (fun k => ?_) (Ev.now _)
          simp only [zas, zil, znq hx, znr, Option.bind_some, hp]
          rw [if_pos (by omega), if_pos (by omega), if_pos (by omega), if_pos trivial]
        · refine zai (fun k => ?_) hr
          simp only [zas, zil, znq hx, znr, Option.bind_some, hp]
          rw [if_pos (by omega), if_pos (by omega), if_pos (by omega), if_neg (by simp), w64n i (by omega)]
      unfold zbt
      refine Ev.bind (Ev.bind h (Ev.now _)) (Ev.some ?_)
      have e := zov (fun n : Int => !decide (0 ≤ n ∧ n ≤ 100)) c
      rw [show decide (c.length = l.length) = true by simpa using hl, Bool.true_and, Bool.true_and]
      by_cases hc : 0 ≤ idx (fun n : Int => !decide (0 ≤ n ∧ n ≤ 100)) c
      · obtain ⟨x, hx, hx'⟩ := e.1 hc
        rw [decide_eq_true (show idx (fun n : Int => !decide (0 ≤ n ∧ n ≤ 100)) c ≥ 0 from hc)]
        symm
        show _ = false
        rw [List.all_eq_false]
        exact ⟨x, hx, fun hd => by rw [hd] at hx'; cases hx'⟩
      · rw [decide_eq_false (show ¬ idx (fun n : Int => !decide (0 ≤ n ∧ n ≤ 100)) c ≥ 0 from hc)]
        symm
        show _ = true
        rw [List.all_eq_true]
        intro x hx
        have : ¬ ((!decide (0 ≤ x ∧ x ≤ 100)) = true) := fun h => hc (e.2 ⟨x, hx, h⟩)
        simpa using this
    · refine zaq (by omega) (Ev.some ?_)
      simp [hl]
theorem zt1 (l : List Instr) (c : List Int) (hc : c.length ≤ 1048576) : Ev (fun k => zgg k l c) (zhv l c) := by
  unfold zgg
  refine Ev.bind (zr0 l) ?_
  unfold zhv
  cases h : zfk l
  · exact zaq (by simp) (Ev.some rfl)
  · refine zac rfl ?_
    by_cases hl : c.length = l.length
    · refine zac (by omega) (Ev.bind (zyn c 0 100 hc) (Ev.some ?_))
      simp [hl]
    · refine zaq (by omega) (Ev.some ?_)
      simp [hl]
open Classical in
def znt : Nat → Nat → List Int
  | 0, _ => []
  | n + 1, a => (a : Int) :: znt n (a + 1)
theorem zux : ∀ n a, (znt n a).length = n
  | 0, _ => rfl
  | n + 1, a => by simp [znt, zux n]
theorem yas {α : Type} (xs : List α) (y : α) (ys : List α) (v : α) : (xs ++ y :: ys).set xs.length v = (xs ++ [v]) ++ ys := by
  rw [List.set_append_right _ _ (Nat.le_refl _)]
  simp
theorem yb8 {α : Type} (xs : List α) (y : α) (ys : List α) (d : α) : (xs ++ y :: ys).getD xs.length d = y := by simp [List.getD]
abbrev cntC := impl_IsSchedule.cnt
theorem zp2 (C : List Int) (x : Int) (j : Nat) : cntC C x (j + 1) = cntC C x j + (if rd C j = x then 1 else 0) := rfl
theorem zwt (C : List Int) (x : Int) (i : Nat) : ∀ d, cntC C x i ≤ cntC C x (i + d)
  | 0 => Nat.le_refl _
  | d + 1 => by
    have := zwt C x i d
    rw [← Nat.add_assoc, zp2]
    split <;> omega
theorem zwu (C : List Int) (x w : Int) : ∀ n, (∀ j : Nat, j < n → rd C j = x → (cntC C x j : Int) + 1 ≤ w) → (cntC C x n : Int) ≤ w ∨ cntC C x n = 0
  | 0, _ => .inr rfl
  | n + 1, h => by
    rw [zp2]
    by_cases e : rd C n = x
    · rw [if_pos e]
      have := h n (by omega) e
      exact .inl (by omega)
    · rw [if_neg e]
      exact zwu C x w n (fun j hj he => h j (by omega) he)
def zwv (l : List Instr) (C : List Int) (w : Int) (n i : Nat) : Bool :=
  ((List.range n).all fun j => !(decide (dlyS l i j ≥ 0) && decide (rd C j < rd C i + dlyS l i j))) && decide ((cntC C (rd C i) n : Int) ≤ w)
theorem yat (l : List Instr) (C : List Int) (w : Int) (h1 : 1 ≤ w) : (List.range l.length).all (zdz (tabI l l.length) C w) = (List.range l.length).all (zwv l C w l.length) := by
  have hp : ∀ j : Nat, j < l.length → (zdz (tabI l l.length) C w j = true ↔ ((cntC C (rd C j) j : Int) + 1 ≤ w ∧ ∀ i : Nat, i < j → 0 ≤ dly l i j → ¬ rd C j < rd C i + dly l i j)) := by
    intro j hj
    unfold zdz
    rw [Bool.and_eq_true, decide_eq_true_eq, List.all_eq_true]
    refine and_congr Iff.rfl ⟨fun h i hi hd hlt => ?_, fun h i hi => ?_⟩
    · have := h i (List.mem_range.2 hi)
      unfold zfv at this
      rw [zo5 l l.length j hj, zqv l j j i hi, decide_eq_true hd, decide_eq_true hlt] at this
      exact absurd this (by decide)
    · have hi' := List.mem_range.1 hi
      unfold zfv
      rw [zo5 l l.length j hj, zqv l j j i hi']
      by_cases hd : 0 ≤ dly l i j
      · rw [decide_eq_false (h i hi' hd), Bool.and_false]
        rfl
      · rw [decide_eq_false hd, Bool.false_and]
        rfl
  have hs : ∀ i : Nat, zwv l C w l.length i = true ↔ ((∀ j : Nat, j < l.length → dlyS l i j ≥ 0 → ¬ rd C j < rd C i + dlyS l i j) ∧ (cntC C (rd C i) l.length : Int) ≤ w) := by
    intro i
    unfold zwv
    rw [Bool.and_eq_true, decide_eq_true_eq, List.all_eq_true]
    refine and_congr ⟨fun h j hj hd hlt => ?_, fun h j hj => ?_⟩ Iff.rfl
    · have := h j (List.mem_range.2 hj)
      rw [decide_eq_true hd, decide_eq_true hlt] at this
      exact absurd this (by decide)
    · by_cases hd : dlyS l i j ≥ 0
      · rw [decide_eq_false (h j (List.mem_range.1 hj) hd), Bool.and_false]
        rfl
      · rw [decide_eq_false hd, Bool.false_and]
        rfl
  rw [Bool.eq_iff_iff, List.all_eq_true, List.all_eq_true]
  constructor
  · intro h i hi
    have hi' := List.mem_range.1 hi
    refine (hs i).2 ⟨fun j hj hd => ?_, ?_⟩
    · unfold dlyS at hd ⊢
      by_cases hij : i < j
      · rw [if_pos hij] at hd ⊢
        exact ((hp j hj).1 (h j (List.mem_range.2 hj))).2 i hij hd
      · rw [if_neg hij] at hd
        omega
    · rcases zwu C (rd C i) w l.length (fun j hj e => by have := ((hp j hj).1 (h j (List.mem_range.2 hj))).1; rw [e] at this; exact this) with h2 | h2
      · exact h2
      · omega
  · intro h j hj
    have hj' := List.mem_range.1 hj
    refine (hp j hj').2 ⟨?_, fun i hi hd => ?_⟩
    · have h2 := ((hs j).1 (h j hj)).2
      have h3 := zwt C (rd C j) (j + 1) (l.length - (j + 1))
      rw [show j + 1 + (l.length - (j + 1)) = l.length by omega, zp2, if_pos rfl] at h3
      omega
    · have h2 := ((hs i).1 (h i (List.mem_range.2 (by omega)))).1 j hj'
      unfold dlyS at h2
      rw [if_pos hi] at h2
      exact h2 hd
def isR (l : List Instr) (w : Int) (C : List Int) : Bool × Bool :=
  if zfk l = true ∧ (1 ≤ w ∧ w ≤ 3) ∧ C.length = l.length then ((C.all fun n => decide (0 ≤ n ∧ n ≤ 100)) && (List.range l.length).all (zwv l C w l.length), true) else (false, false)
theorem zvq (C : List Int) (h : (C.all fun n => decide (0 ≤ n ∧ n ≤ 100)) = true) (j : Nat) (hj : j < C.length) : 0 ≤ rd C j ∧ rd C j ≤ 100 := by
  have := List.all_eq_true.1 h C[j] (List.getElem_mem hj)
  rw [znq (zhm C j hj)]
  simpa using this
theorem zww (l : List Instr) (w : Int) (C : List Int) (hl : l.length ≤ 1048576) (hC : C.length ≤ 1048576) : Ev (fun k => zff k l w C) (isR l w C) := by
  unfold zff isR
  refine Ev.bind (zlk l) ?_
  by_cases h : zfk l = true
  · obtain ⟨h1, h2⟩ := zie h
    have hw : zf8 w = some (decide (1 ≤ w ∧ w ≤ 3)) := by
      unfold zf8
      rw [znr]
      rfl
    refine zaq (by rw [h]; decide) (Ev.call hw ?_)
    by_cases hq : 1 ≤ w ∧ w ≤ 3
    · refine zaq (by simp [hq]) ?_
      by_cases hlen : C.length = l.length
      · rw [if_pos ⟨h, hq, hlen⟩]
        refine zac hlen (Ev.bind (zp1 l C hC) ?_)
        have hoc : zhv l C = C.all fun n => decide (0 ≤ n ∧ n ≤ 100) := by
          unfold zhv
          rw [h, decide_eq_true hlen]
          rfl
        by_cases hc : (C.all fun n => decide (0 ≤ n ∧ n ≤ 100)) = true
        · refine zaq (by rw [hoc, hc]; decide) (Ev.bind (zpy l hl) (zac ?_ (Ev.some ?_)))
          · unfold zh9
            simp only [Bool.and_eq_true, decide_eq_true_eq, List.all_eq_true, List.mem_range]
            refine ⟨⟨⟨zn9 _ _, hl⟩, fun j hj => ⟨by rw [zo5 l l.length j hj, zn8], fun i hi => ?_⟩⟩, fun j hj => ?_⟩
            · rw [zo5 l l.length j hj, zqv l j j i hi]
              have := zpx l i j
              omega
            · have := zvq C hc j (by omega)
              omega
          · rw [hc, yat l C w hq.1, Bool.true_and]
        · refine zac (by rw [hoc]; exact Bool.eq_false_iff.2 hc) (Ev.some ?_)
          rw [Bool.eq_false_iff.2 hc]
          rfl
      · rw [if_neg (fun q => hlen q.2.2)]
        exact zaq hlen (Ev.now _)
    · rw [if_neg (fun q => hq q.2.1)]
      exact zac (by simp [hq]) (Ev.now _)
  · rw [if_neg (fun q => h q.1)]
    exact zac (Bool.eq_false_iff.2 h) (Ev.now _)
theorem yau (l : List Instr) (w : Int) (C : List Int) (hl : l.length ≤ 1048576) (hC : C.length ≤ 1048576) : Ev (fun k => zf0 k l w C) (isR l w C) := by
  unfold zf0 isR
  refine Ev.bind (zr0 l) ?_
  by_cases h : zfk l = true
  · obtain ⟨h1, h2⟩ := zie h
    have hw : zgf w = some (decide (1 ≤ w ∧ w ≤ 3)) := by
      unfold zgf
      rw [zqu]
      rfl
    refine zac h (Ev.call hw ?_)
    by_cases hq : 1 ≤ w ∧ w ≤ 3
    · refine zac (by simp [hq]) ?_
      by_cases hlen : C.length = l.length
      · rw [if_pos ⟨h, hq, hlen⟩]
        refine zac (by omega) (Ev.bind (a := (C.all fun n => decide (0 ≤ n ∧ n ≤ 100)) && (List.range l.length).all (zwv l C w l.length)) ?_ (Ev.now _))
        unfold zg1
        refine zac (by omega) (Ev.bind (zyn C 0 100 hC) (zai (fun k => by simp only [zec]; rfl) ?_))
        by_cases hc : (C.all fun n => decide (0 ≤ n ∧ n ≤ 100)) = true
        · rw [hc, Bool.true_and]
          refine zaq (by decide) (Ev.bind (zo4 l hl h2) ?_)
          rw [zo3]
          have inner : ∀ (i : Nat), i < l.length → ∀ (rest : Bool), Ev (fun k => zcx k w C (tabS l l.length) l.length ((i + 1 : Nat) : Int)) rest →
              ∀ (d j : Nat), j + d = l.length → Ev (fun k => zbp k w C i (cntC C (rd C i) j) (tabS l l.length) l.length i (rowS l i l.length) l.length j)
                ((((List.range' j d).all fun j => !(decide (dlyS l i j ≥ 0) && decide (rd C j < rd C i + dlyS l i j))) && decide ((cntC C (rd C i) l.length : Int) ≤ w)) && rest) := by
            intro i hi rest hrest d
            induction d with
            | zero =>
              intro j hj
              obtain rfl : j = l.length := by omega
              refine zai (fun k => by simp only [zbp]; rfl) (zaq (by omega) ?_)
              by_cases hg : (cntC C (rd C i) l.length : Int) > w
              · rw [decide_eq_false (by omega), Bool.and_false, Bool.false_and]
                exact zac hg (Ev.now _)
              · rw [decide_eq_true (by omega), show (List.range' l.length 0) = [] from rfl, List.all_nil, Bool.true_and, Bool.true_and]
                refine zaq hg ?_
                rw [w64n i (by omega)]
                exact hrest
            | succ d ih =>
              intro j hj
              have next := ih (j + 1) (by omega)
              rw [List.range'_succ, List.all_cons]
              have bi := zvq C hc i (by omega)
              have bj := zvq C hc j (by omega)
              have bd : -1 ≤ dlyS l i j ∧ dlyS l i j ≤ 4 := by
                have := zpx l i j
                unfold dlyS
                split <;> omega
              have bc := zjl C (rd C i) j
              refine zai (fun k => by simp only [zbp]; rfl) (zac (by omega) (zac (by omega) (zac (by rw [zo2]; omega) (zac (by omega) (zac (by omega) (zac (by omega) ?_))))))
              rw [zvj l i l.length j (by omega), w64 (x := rd C i + dlyS l i j) (by omega) (by omega), w64n j (by omega), w64n (cntC C (rd C i) j) (by have : cntC C (rd C i) j ≤ j := bc; omega)]
              rw [zp2] at next
              have fin : ∀ (s : Nat), Ev (fun k => zbp k w C i s (tabS l l.length) l.length i (rowS l i l.length) l.length ((j + 1 : Nat) : Int)) (((((List.range' (j + 1) d).all fun j => !(decide (dlyS l i j ≥ 0) && decide (rd C j < rd C i + dlyS l i j))) && decide ((cntC C (rd C i) l.length : Int) ≤ w)) && rest)) →
                  Ev (fun k => if dlyS l i j ≥ 0 then (if rd C j < rd C i + dlyS l i j then some false else zbp k w C i s (tabS l l.length) l.length i (rowS l i l.length) l.length ((j + 1 : Nat) : Int)) else zbp k w C i s (tabS l l.length) l.length i (rowS l i l.length) l.length ((j + 1 : Nat) : Int))
                    ((((!(decide (dlyS l i j ≥ 0) && decide (rd C j < rd C i + dlyS l i j))) && ((List.range' (j + 1) d).all fun j => !(decide (dlyS l i j ≥ 0) && decide (rd C j < rd C i + dlyS l i j)))) && decide ((cntC C (rd C i) l.length : Int) ≤ w)) && rest) := by
                intro s hs
                by_cases hd : dlyS l i j ≥ 0
                · refine zac hd ?_
                  by_cases hlt : rd C j < rd C i + dlyS l i j
                  · refine zac hlt (Ev.some ?_)
                    rw [decide_eq_true hd, decide_eq_true hlt]
                    rfl
                  · refine zaq hlt ?_
                    rw [decide_eq_false hlt, Bool.and_false, Bool.not_false, Bool.true_and]
                    exact hs
                · refine zaq hd ?_
                  rw [decide_eq_false hd, Bool.false_and, Bool.not_false, Bool.true_and]
                  exact hs
              by_cases he : rd C j = rd C i
              · rw [if_pos he] at next
                exact zac he (fin _ next)
              · rw [if_neg he, Nat.add_zero] at next
                exact zaq he (fin _ next)
          have key : ∀ (d i : Nat), i + d = l.length → Ev (fun k => zcx k w C (tabS l l.length) l.length i) ((List.range' i d).all (zwv l C w l.length)) := by
            intro d
            induction d with
            | zero =>
              intro i hi
              refine zai (f := fun _ => some true) (fun k => ?_) (Ev.now _)
              simp only [zcx]
              rw [if_neg (by omega)]
            | succ d ih =>
              intro i hi
              rw [List.range'_succ, List.all_cons]
              refine zai (fun k => by simp only [zcx]; rfl) (zac (by omega) (zac (by omega) (zac (by rw [zo3]; omega) ?_)))
              rw [zvi l l.length i (by omega), zo2]
              have := inner i (by omega) _ (ih (i + 1) (by omega)) l.length 0 (by omega)
              rw [← List.range_eq_range'] at this
              exact this
          have := key l.length 0 (by omega)
          rw [← List.range_eq_range'] at this
          exact this
        · rw [Bool.eq_false_iff.2 hc, Bool.false_and]
          exact zac rfl (Ev.now _)
      · rw [if_neg (fun q => hlen q.2.2)]
        exact zaq (by omega) (Ev.now _)
    · rw [if_neg (fun q => hq q.2.1)]
      exact zaq (by simp [hq]) (Ev.now _)
  · rw [if_neg (fun q => h q.1)]
    exact zaq h (Ev.now _)
end Go.Proofs.YtabnafbgcpchdaaGreat.PL
end
section
namespace Go.Proofs.YtabnafbgcpchdaaGreat.PL
open Go Go.RowKit Go.Proofs.YtabnafbgcpchdaaGreatW.PrintWords Go.Proofs.YtabnafbgcpchdaaGreatW.PrintLast Go.Proofs.YtabnafbgcpchdaaGreatW.PrintMore Go.Proofs.YtabnafbgcpchdaaGreat.Q
set_option linter.unusedSimpArgs false
set_option linter.unusedVariables false
set_option linter.unusedSectionVars false
theorem zy0 (C : List Int) (x : Int) : ∀ n, n ≤ C.length → cntC C x n = cnt (C.take n) x
  | 0, _ => rfl
  | n + 1, h => by
    rw [zp2, zy0 C x n (by omega), List.take_succ_eq_append_getElem (by omega), ydz, znq (zhm C n (by omega))]
theorem zwx (l : List Instr) (C : List Int) (w : Int) (hC : C.length = l.length) (i : Nat) : zwv l C w l.length i = true ↔ (∀ j, j < l.length → i < j → 0 ≤ dly l i j → C.getD i 0 + dly l i j ≤ C.getD j 0) ∧ (cnt C (C.getD i 0) : Int) ≤ w := by
  unfold zwv
  rw [Bool.and_eq_true, decide_eq_true_eq, List.all_eq_true, zy0 C _ _ (by omega), ← hC, List.take_length, rdB]
  refine and_congr ⟨fun h j hj hij hd => ?_, fun h j hj => ?_⟩ Iff.rfl
  · have h1 := h j (List.mem_range.2 hj)
    rw [rdB, show dlyS l i j = dly l i j from if_pos hij, decide_eq_true hd, Bool.true_and, Bool.not_eq_true', decide_eq_false_iff_not] at h1
    omega
  · have hj' := List.mem_range.1 hj
    rw [rdB]
    by_cases hij : i < j
    · rw [show dlyS l i j = dly l i j from if_pos hij]
      by_cases hd : 0 ≤ dly l i j
      · have h1 := h j hj' hij hd
        rw [decide_eq_false (p := C.getD j 0 < C.getD i 0 + dly l i j) (by omega), Bool.and_false]
        rfl
      · rw [decide_eq_false hd, Bool.false_and]
        rfl
    · rw [show dlyS l i j = -1 from if_neg hij, decide_eq_false (by omega), Bool.false_and]
      rfl
theorem yav (l : List Instr) (w : Int) (C : List Int) : isR l w C = (true, true) ↔ zfk l = true ∧ (1 ≤ w ∧ w ≤ 3) ∧ Sch l w.toNat C ∧ ∀ j, j < l.length → C.getD j 0 ≤ 100 := by
  unfold isR
  by_cases h : zfk l = true ∧ (1 ≤ w ∧ w ≤ 3) ∧ C.length = l.length
  · obtain ⟨h1, h2, h3⟩ := h
    rw [if_pos ⟨h1, h2, h3⟩, Prod.mk.injEq, Bool.and_eq_true, List.all_eq_true, List.all_eq_true]
    have gt : ∀ j, j < l.length → ∃ h : j < C.length, C.getD j 0 = C[j] := fun j hj => ⟨by omega, zhm C j (by omega) 0⟩
    constructor
    · rintro ⟨⟨h4, h5⟩, _⟩
      have bd : ∀ j, j < l.length → 0 ≤ C.getD j 0 ∧ C.getD j 0 ≤ 100 := fun j hj => by
        obtain ⟨hj', e⟩ := gt j hj
        rw [e]
        exact of_decide_eq_true (h4 _ (List.getElem_mem hj'))
      have ps := fun i hi => (zwx l C w h3 i).1 (h5 i (List.mem_range.2 hi))
      refine ⟨h1, h2, ⟨h3, fun j hj => (bd j hj).1, fun i j hij hj hd => (ps i (by omega)).1 j hj hij hd, fun c => ?_⟩, fun j hj => (bd j hj).2⟩
      by_cases hc : c ∈ C
      · obtain ⟨i, hi, rfl⟩ := List.getElem_of_mem hc
        have := (ps i (by omega)).2
        rw [zhm C i hi 0] at this
        omega
      · have : cnt C c = 0 := by
          unfold cnt
          rw [List.countP_eq_zero]
          intro y hy
          rw [decide_eq_true_eq]
          intro e
          exact hc (e ▸ hy)
        rw [this]
        exact Nat.zero_le _
    · rintro ⟨_, _, h6, h7⟩
      refine ⟨⟨fun x hx => ?_, fun i hi => (zwx l C w h3 i).2 ⟨fun j hj hij hd => h6.dl i j hij hj hd, ?_⟩⟩, rfl⟩
      · obtain ⟨j, hj, rfl⟩ := List.getElem_of_mem hx
        have h8 := h6.nn j (by omega)
        have h9 := h7 j (by omega)
        rw [zhm C j hj 0] at h8 h9
        exact decide_eq_true ⟨h8, h9⟩
      · have := h6.wide (C.getD i 0)
        omega
  · rw [if_neg h]
    refine ⟨fun e => (by cases e), fun q => absurd ⟨q.1, q.2.1, q.2.2.1.len⟩ h⟩
end Go.Proofs.YtabnafbgcpchdaaGreat.PL
end
section
namespace Go.Proofs.YtabnafbgcpchdaaGreat.PL
open Go Go.RowKit Go.Proofs.YtabnafbgcpchdaaGreatW.PrintWords Go.Proofs.YtabnafbgcpchdaaGreatW.PrintLast Go.Proofs.YtabnafbgcpchdaaGreatW.PrintMore Go.Proofs.YtabnafbgcpchdaaGreat.Q
set_option linter.unusedSimpArgs false
set_option linter.unusedVariables false
def leC (c : List Int) (x o : Int) : Bool := decide (rd c o ≤ rd c x)
def insC (c : List Int) (s : List Int) (x : Int) : List Int := s.takeWhile (leC c x) ++ x :: s.dropWhile (leC c x)
def srt (c s : List Int) : Prop := s.Pairwise (fun a b => rd c a ≤ rd c b)
def bnd (n : Nat) (s : List Int) : Prop := ∀ o ∈ s, 0 ≤ o ∧ o < n
def zhh (c : List Int) : Nat → List Int
  | 0 => []
  | n + 1 => insC c (zhh c n) n
theorem zvr (c : List Int) (x : Int) (s : List Int) : ∀ o ∈ s.takeWhile (leC c x), rd c o ≤ rd c x := by
  induction s with
  | nil => intro o h; cases h
  | cons y s ih =>
    intro o h
    rw [List.takeWhile_cons] at h
    split at h
    · rename_i hy
      rcases List.mem_cons.1 h with rfl | h
      · exact of_decide_eq_true hy
      · exact ih o h
    · cases h
theorem zt2 (c : List Int) (x : Int) (s : List Int) (hs : srt c s) : ∀ o ∈ s.dropWhile (leC c x), rd c x < rd c o := by
  induction s with
  | nil => intro o h; cases h
  | cons y s ih =>
    intro o h
    rw [List.dropWhile_cons] at h
    unfold srt at hs
    rw [List.pairwise_cons] at hs
    split at h
    · exact ih hs.2 o h
    · rename_i hy
      have hy' : ¬ rd c y ≤ rd c x := fun e => hy (decide_eq_true e)
      rcases List.mem_cons.1 h with rfl | h
      · omega
      · have := hs.1 o h
        omega
theorem yd2 (c : List Int) (s : List Int) (x : Int) (hs : srt c s) : srt c (insC c s x) := by
  have h := hs
  unfold srt at h ⊢
  rw [← List.takeWhile_append_dropWhile (p := leC c x) (l := s), List.pairwise_append] at h
  unfold insC
  rw [List.pairwise_append, List.pairwise_cons]
  refine ⟨h.1, ⟨fun q hq => ?_, h.2.1⟩, fun p hp q hq => ?_⟩
  · have := zt2 c x s hs q hq
    omega
  · rcases List.mem_cons.1 hq with rfl | hq
    · exact zvr c _ s p hp
    · exact h.2.2 p hp q hq
theorem yd3 (c : List Int) (s : List Int) (x o : Int) (h : o ∈ insC c s x) : o = x ∨ o ∈ s := by
  unfold insC at h
  rcases List.mem_append.1 h with h | h
  · exact Or.inr ((List.takeWhile_sublist _).subset h)
  · rcases List.mem_cons.1 h with rfl | h
    · exact Or.inl rfl
    · exact Or.inr ((List.dropWhile_sublist _).subset h)
theorem yd4 (c : List Int) (s : List Int) (x : Int) : (insC c s x).length = s.length + 1 := by
  unfold insC
  have := congrArg List.length (List.takeWhile_append_dropWhile (p := leC c x) (l := s))
  rw [List.length_append] at this
  rw [List.length_append, List.length_cons]
  omega
theorem zqa (c : List Int) : ∀ n, srt c (zhh c n) ∧ bnd n (zhh c n) ∧ (zhh c n).length = n
  | 0 => ⟨List.Pairwise.nil, ⟨fun o h => (List.not_mem_nil h).elim, rfl⟩⟩
  | n + 1 => by
    obtain ⟨h1, h2, h3⟩ := zqa c n
    refine ⟨yd2 c _ _ h1, fun o h => ?_, by unfold zhh; rw [yd4, h3]⟩
    rcases yd3 c _ _ o h with rfl | h
    · omega
    · have := h2 o h
      omega
theorem zuy (A : List Int) (x : Int) (B : List Int) : rd (A ++ x :: B) (A.length : Nat) = x := by
  unfold rd
  rw [Int.toNat_natCast, yb8]
theorem yc5 (c : List Int) (a b : Int) (ha : 0 ≤ a ∧ a < c.length) (hb : 0 ≤ b ∧ b < c.length) (hc : ∀ n ∈ c, 0 ≤ n ∧ n ≤ 100) : zey a b [c] = some (rd c a - rd c b) ∧ 0 ≤ rd c a ∧ rd c a ≤ 100 ∧ 0 ≤ rd c b ∧ rd c b ≤ 100 := by
  have g : ∀ i : Int, 0 ≤ i ∧ i < c.length → 0 ≤ rd c i ∧ rd c i ≤ 100 := fun i hi => by
    have hq : i.toNat < c.length := by omega
    unfold rd
    rw [zhm c _ hq]
    exact hc _ (List.getElem_mem hq)
  have h1 := g a ha
  have h2 := g b hb
  refine ⟨?_, h1.1, h1.2, h2.1, h2.2⟩
  unfold zey
  rw [if_pos (by simp), show za5 [c] 0 = c from rfl, if_pos ha.1, if_pos ha.2, if_pos hb.1, if_pos hb.2, w64 (by omega) (by omega)]
theorem yfe (c : List Int) (n : Nat) (hn : n = c.length) (hn2 : n ≤ 1048576) (hc : ∀ m ∈ c, 0 ≤ m ∧ m ≤ 100) (i : Nat) (x : Int) (hx : 0 ≤ x ∧ x < n) (P : List Int) (hP : ∀ p ∈ P, rd c p ≤ rd c x) (hPb : bnd n P) (r : List Int) (hi : i ≤ 1048576) :
    ∀ (m : Nat) (Q R : List Int), Q.length = m → (∀ q ∈ Q, rd c x < rd c q) → bnd n Q → P.length + Q.length ≤ 1048576 → Ev (fun k => zaf k (P ++ x :: (Q ++ R)) 0 n ((i + 1 : Nat) : Int) [c]) r →
      Ev (fun k => zag k (P ++ (Q ++ x :: R)) 0 n i ((P.length + Q.length : Nat) : Int) [c]) r := by
  intro m
  induction m with
  | zero =>
    intro Q R hQ _ _ hl H
    have e : Q = [] := List.eq_nil_of_length_eq_zero hQ
    subst e
    simp only [List.nil_append, List.length_nil, Nat.add_zero] at H ⊢
    by_cases hp : P = []
    · subst hp
      refine zai (fun k => ?_) H
      simp only [zag, List.length_nil]
      rw [if_neg (by decide), w64n i (by omega)]
    · obtain ⟨P', p, rfl⟩ : ∃ P' p, P = P' ++ [p] := ⟨P.dropLast, P.getLast hp, (List.dropLast_concat_getLast hp).symm⟩
      have hpp := hPb p (by simp)
      obtain ⟨e1, b1, b2, b3, b4⟩ := yc5 c x p ⟨hx.1, by omega⟩ ⟨hpp.1, by omega⟩ hc
      have hle := hP p (by simp)
      have hl2 : (P' ++ [p]).length = P'.length + 1 := by simp
      have r1 : rd ((P' ++ [p]) ++ x :: R) ((P' ++ [p]).length : Nat) = x := zuy _ _ _
      have r2 : rd ((P' ++ [p]) ++ x :: R) (P'.length : Nat) = p := by rw [List.append_assoc]; exact zuy _ _ _
      have ew : wrap64 (((P' ++ [p]).length : Nat) - 1 : Int) = (P'.length : Nat) := by rw [hl2, w64 (by omega) (by omega)]; omega
      refine zai (fun k => by simp only [zag, ew, r1, r2, e1, Option.bind_some]; rfl) ?_
      have hL : ((P' ++ [p]) ++ x :: R).length = P'.length + 1 + (R.length + 1) := by simp; try omega
      refine zac (by omega) (zac (by omega) (zac (by omega) (zac (by omega) (zac (by omega) (zaq (by omega) ?_)))))
      rw [w64n i (by omega)]
      exact H
  | succ m ih =>
    intro Q R hQ hq hb hl H
    have hne : Q ≠ [] := fun e => by rw [e] at hQ; cases hQ
    obtain ⟨Q', q, rfl⟩ : ∃ Q' q, Q = Q' ++ [q] := ⟨Q.dropLast, Q.getLast hne, (List.dropLast_concat_getLast hne).symm⟩
    have hl2 : (Q' ++ [q]).length = Q'.length + 1 := by simp
    have hqq := hb q (by simp)
    have hgt := hq q (by simp)
    obtain ⟨e1, b1, b2, b3, b4⟩ := yc5 c x q ⟨hx.1, by omega⟩ ⟨hqq.1, by omega⟩ hc
    have A1 : (P ++ ((Q' ++ [q]) ++ x :: R)) = (P ++ Q' ++ [q]) ++ x :: R := by simp
    have A2 : (P ++ ((Q' ++ [q]) ++ x :: R)) = (P ++ Q') ++ q :: (x :: R) := by simp
    have L1 : (P ++ Q' ++ [q]).length = P.length + (Q' ++ [q]).length := by simp; try omega
    have L2 : (P ++ Q').length = P.length + Q'.length := by simp
    have r1 : rd (P ++ ((Q' ++ [q]) ++ x :: R)) ((P.length + (Q' ++ [q]).length : Nat) : Int) = x := by rw [A1, ← L1]; exact zuy _ _ _
    have r2 : rd (P ++ ((Q' ++ [q]) ++ x :: R)) ((P.length + Q'.length : Nat) : Int) = q := by rw [A2, ← L2]; exact zuy _ _ _
    have ew : wrap64 (((P.length + (Q' ++ [q]).length : Nat) : Int) - 1) = ((P.length + Q'.length : Nat) : Int) := by rw [hl2, w64 (by omega) (by omega)]; omega
    have hL : (P ++ ((Q' ++ [q]) ++ x :: R)).length = P.length + Q'.length + 1 + (R.length + 1) := by simp; try omega
    have sw : ((P ++ ((Q' ++ [q]) ++ x :: R)).set (P.length + (Q' ++ [q]).length) q).set (P.length + Q'.length) x = P ++ (Q' ++ x :: (q :: R)) := by
      rw [A1, ← L1, yas, ← L2]
      have : (P ++ Q' ++ [q] ++ [q]) ++ R = (P ++ Q') ++ q :: (q :: R) := by simp
      rw [this, yas]
      simp
    refine zai (fun k => by simp only [zag, ew, r1, r2, e1, Option.bind_some, Int.toNat_natCast, sw]; rfl) ?_
    refine zac (by omega) (zac (by omega) (zac (by omega) (zac (by omega) (zac (by omega) (zac (by omega) ?_)))))
    exact ih Q' (q :: R) (by omega) (fun z hz => hq z (by simp [hz])) (fun z hz => hb z (by simp [hz])) (by omega) (by
      have : x :: (Q' ++ q :: R) = x :: ((Q' ++ [q]) ++ R) := by simp
      rw [this]
      exact H)
theorem zy1 (c : List Int) (n : Nat) (hn : n = c.length) (hn2 : n ≤ 1048576) (hc : ∀ m ∈ c, 0 ≤ m ∧ m ≤ 100) : Ev (fun k => zak k (znt n 0) 0 n [c]) (zhh c n) := by
  unfold zak
  have key : ∀ (d i : Nat), 1 ≤ i → i + d = n → Ev (fun k => zaf k (zhh c i ++ znt d i) 0 n (i : Nat) [c]) (zhh c n) := by
    intro d
    induction d with
    | zero =>
      intro i h1 hi
      have e : i = n := by omega
      subst e
      refine zai (f := fun _ => some (zhh c i ++ [])) (fun k => ?_) (Ev.some (List.append_nil _))
      simp only [zaf, znt]
      rw [if_neg (by omega)]
    | succ d ih =>
      intro i h1 hi
      obtain ⟨s1, s2, s3⟩ := zqa c i
      have hsp := List.takeWhile_append_dropWhile (p := leC c (i : Int)) (l := zhh c i)
      have hlen := congrArg List.length hsp
      rw [List.length_append, s3] at hlen
      refine zai (fun k => by simp only [zaf]; rfl) (zac (by omega) ?_)
      have H := ih (i + 1) (by omega) (by omega)
      have e1 : zhh c (i + 1) ++ znt d (i + 1) = (zhh c i).takeWhile (leC c i) ++ (i : Int) :: ((zhh c i).dropWhile (leC c i) ++ znt d (i + 1)) := by
        rw [zhh, insC]
        simp
      rw [e1] at H
      have := yfe c n hn hn2 hc i i (by omega) ((zhh c i).takeWhile (leC c i)) (zvr c i _) (fun o h => by have := s2 o ((List.takeWhile_sublist _).subset h); omega) (zhh c n) (by omega) _ ((zhh c i).dropWhile (leC c i)) (znt d (i + 1)) rfl (zt2 c i _ s1) (fun o h => by have := s2 o ((List.dropWhile_sublist _).subset h); omega) (by omega) H
      rw [hlen, ← List.append_assoc, hsp] at this
      exact this
  by_cases h0 : n = 0
  · subst h0
    refine zai (f := fun _ => some []) (fun k => ?_) (Ev.now _)
    simp only [zaf, znt]
    rw [if_neg (by rw [w64 (by omega) (by omega)]; omega)]
  · obtain ⟨m, rfl⟩ : ∃ m, n = m + 1 := ⟨n - 1, by omega⟩
    have := key m 1 (by omega) (by omega)
    rw [show wrap64 (0 + 1) = ((1 : Nat) : Int) from w64 (by decide) (by decide)]
    exact this
theorem yaw (c x : List Int) (a b : Int) (h : b ≤ a) (h0 : 0 ≤ a) (h1 : a ≤ 1048576) : Ev (fun k => zak k x a b [c]) x := by
  unfold zak
  refine zai (f := fun _ => some x) (fun k => ?_) (Ev.now _)
  simp only [zaf]
  rw [if_neg (by rw [w64 (by omega) (by omega)]; omega)]
theorem yax (c : List Int) (n : Nat) (hn : n = c.length) (hn2 : n ≤ 20) (hc : ∀ m ∈ c, 0 ≤ m ∧ m ≤ 100) : Ev (fun k => za1 k (znt n 0) [c]) (zhh c n) := by
  unfold za1 za4
  rw [zux]
  have last : Ev (fun k => zap k (zhh c n) n 20) (zhh c n) := by
    refine zai (f := fun _ => some (zhh c n)) (fun k => ?_) (Ev.now _)
    simp only [zap]
    rw [if_neg (by omega)]
  refine Ev.bind ?_ (Ev.now _)
  refine zai (fun k => by simp only [zao]; rfl) ?_
  by_cases h : n = 20
  · subst h
    refine zac (by omega) (Ev.bind (zy1 c 20 hn (by omega) hc) ?_)
    rw [show wrap64 (20 + 20) = 40 from w64 (by decide) (by decide)]
    refine zai (fun k => by simp only [zao]; rfl) (zaq (by omega) ?_)
    exact Ev.bind (yaw c _ _ _ (by omega) (by omega) (by omega)) last
  · refine zaq (by omega) (Ev.bind (zy1 c n hn (by omega) hc) last)
theorem yay (l : List Int) (h : l.length ≤ 1048576) : zlj l = some l := by
  unfold zlj
  rw [Option.bind_some, if_pos (by simp; omega)]
  rfl
theorem zxz (c : List Int) (hn2 : c.length ≤ 20) : Ev (fun k => zbi k c [] c c.length 0) (zhh c c.length, true) := by
  have key : ∀ (d i : Nat), i + d = c.length → Ev (fun k => zbi k c (zhh c i) c c.length (i : Nat)) (zhh c c.length, true) := by
    intro d
    induction d with
    | zero =>
      intro i hi
      have e : i = c.length := by omega
      rw [e]
      refine zai (f := fun _ => some _) (fun k => ?_) (Ev.now _)
      simp only [zbi]
      rw [if_neg (by omega)]
    | succ d ih =>
      intro i hi
      obtain ⟨s1, s2, s3⟩ := zqa c i
      have hsp := List.takeWhile_append_dropWhile (p := leC c (i : Int)) (l := zhh c i)
      refine zai (fun k => by simp only [zbi]; rfl) (zac (by omega) (zac (by omega) (zac (by omega) ?_)))
      have H := ih (i + 1) (by omega)
      have eS : zhh c (i + 1) = ((zhh c i).takeWhile (leC c i) ++ [(i : Int)]) ++ (zhh c i).dropWhile (leC c i) := by rw [zhh, insC]; simp
      have hP := zvr c i (zhh c i)
      have hQ := zt2 c i (zhh c i) s1
      have inner : ∀ (B A : List Int), A ++ B = (zhh c i).takeWhile (leC c i) → Ev (fun k => zbv k c (zhh c i) i (rd c i) (A.length : Nat) c c.length i) (zhh c c.length, true) := by
        intro B
        induction B with
        | nil =>
          intro A hA
          rw [List.append_nil] at hA
          have hlen := congrArg List.length hsp
          rw [List.length_append, ← hA, s3] at hlen
          have tk : (zhh c i).take A.length = A := by rw [← hsp, ← hA]; exact List.take_left' rfl
          have dr : (zhh c i).drop A.length = (zhh c i).dropWhile (leC c i) := by
            have : (zhh c i).drop A.length = ((zhh c i).takeWhile (leC c i) ++ (zhh c i).dropWhile (leC c i)).drop A.length := by rw [hsp]
            rw [this, ← hA]
            exact List.drop_left' rfl
          rw [eS, ← hA] at H
          cases hd : (zhh c i).dropWhile (leC c i) with
          | nil =>
            rw [hd] at H dr hlen
            simp only [List.length_nil] at hlen
            refine zai (fun k => by simp only [zbv, Int.toNat_natCast, tk, dr]; rfl) (zaq (by omega) (zac (by omega) (zac (by omega) ?_)))
            refine Ev.call (yay A (by omega)) (zac (by omega) (Ev.call rfl (Ev.call rfl (zac (by simp; omega) ?_))))
            rw [w64n i (by omega)]
            exact H
          | cons q Q =>
            have hgt := hQ q (by rw [hd]; simp)
            have hqb := s2 q (by rw [← hsp, hd]; simp)
            have rq : rd (zhh c i) (A.length : Nat) = q := by rw [← hsp, ← hA, hd]; exact zuy _ _ _
            rw [hd] at H dr hlen
            simp only [List.length_cons] at hlen
            refine zai (fun k => by simp only [zbv, rq, Int.toNat_natCast, tk, dr]; rfl) (zac (by omega) (zac (by omega) (zac hqb.1 (zac (by omega) (zaq (by omega) (zac (by omega) ?_))))))
            refine Ev.call (yay A (by omega)) (zac (by omega) (Ev.call rfl (Ev.call rfl (zac (by simp; omega) ?_))))
            rw [w64n i (by omega)]
            exact H
        | cons b B ihB =>
          intro A hA
          have hb : b ∈ (zhh c i).takeWhile (leC c i) := by rw [← hA]; simp
          have hle := hP b hb
          have hbb := s2 b ((List.takeWhile_sublist _).subset hb)
          have hlen := congrArg List.length hsp
          rw [List.length_append, ← hA, s3, List.length_append, List.length_cons] at hlen
          have rb : rd (zhh c i) (A.length : Nat) = b := by
            rw [← hsp, ← hA, List.append_assoc]
            exact zuy _ _ _
          refine zai (fun k => by simp only [zbv, rb]; rfl) (zac (by omega) (zac (by omega) (zac hbb.1 (zac (by omega) (zac hle ?_)))))
          rw [w64n A.length (by omega)]
          have := ihB (A ++ [b]) (by rw [← hA]; simp)
          rw [List.length_append, List.length_singleton] at this
          exact this
      exact inner ((zhh c i).takeWhile (leC c i)) [] (List.nil_append _)
  exact key c.length 0 (by omega)
def ordR (l : List Instr) (c : List Int) : List Int × Bool := if zhv l c = true then (zhh c c.length, true) else ([], false)
theorem yb9 (l : List Instr) (c : List Int) : (ordR l c).1.length ≤ 1048576 := by
  unfold ordR
  split
  · rename_i h
    unfold zhv zfk at h
    simp only [Bool.and_eq_true, decide_eq_true_eq] at h
    show (zhh c c.length).length ≤ _
    rw [(zqa c c.length).2.2]
    have := h.1.1.1
    have := h.1.2
    omega
  · simp
theorem yca (n : Nat) (hn : n ≤ 1048576) : Ev (fun k => zjz k true (n : Int)) (znt n 0) := by
  have key : ∀ (d : Nat) (xs : List Int) (b : Nat), xs.length + d ≤ 1048576 → b + d = n → Ev (fun k => zfz k xs n b) (xs ++ znt d b) := by
    intro d
    induction d with
    | zero =>
      intro xs b h h'
      refine zai (f := fun _ => some xs) (fun k => ?_) (Ev.some (by simp [znt]))
      simp only [zfz]
      rw [if_neg (by omega)]
    | succ d ih =>
      intro xs b h h'
      refine zai (fun k => ?_) (zpi (ih (xs ++ [(b : Int)]) (b + 1) (by simp; omega) (by omega)) (by simp [znt]))
      simp only [zfz]
      rw [if_pos (by omega), if_pos (by omega), w64n _ (by omega)]
  unfold zjz
  exact zac rfl (by simpa using key n [] 0 (by simpa using hn) (by omega))
theorem zy2 {l : List Instr} {c : List Int} (h : zhv l c = true) : l.length ≤ 20 ∧ c.length = l.length ∧ ∀ n ∈ c, 0 ≤ n ∧ n ≤ 100 := by
  unfold zhv zfk at h
  simp only [Bool.and_eq_true, decide_eq_true_eq, List.all_eq_true] at h
  exact ⟨h.1.1.1, h.1.2, h.2⟩
theorem zuz (l : List Instr) (c : List Int) (hc : c.length ≤ 1048576) : Ev (fun k => zdj k l c) (ordR l c) := by
  unfold zdj ordR
  refine Ev.bind (zp1 l c hc) ?_
  by_cases h : zhv l c = true
  · obtain ⟨h1, h2, h3⟩ := zy2 h
    rw [if_pos h, h2]
    exact zac h (Ev.bind (yca l.length (by omega)) (Ev.bind (yax c l.length h2.symm h1 h3) (Ev.now _)))
  · rw [if_neg h]
    exact zaq h (Ev.now _)
theorem zzn (l : List Instr) (c : List Int) (hc : c.length ≤ 1048576) : Ev (fun k => zdy k l c) (ordR l c) := by
  unfold zdy ordR
  refine Ev.bind (zt1 l c hc) ?_
  by_cases h : zhv l c = true
  · obtain ⟨h1, h2, h3⟩ := zy2 h
    rw [if_pos h]
    exact zac h (zxz c (by omega))
  · rw [if_neg h]
    exact zaq h (Ev.now _)
end Go.Proofs.YtabnafbgcpchdaaGreat.PL
end
section
namespace Go.Proofs.YtabnafbgcpchdaaGreat.PL
open Go Go.RowKit Go.Proofs.YtabnafbgcpchdaaGreatW.PrintWords Go.Proofs.YtabnafbgcpchdaaGreatW.PrintLast Go.Proofs.YtabnafbgcpchdaaGreatW.PrintMore Go.Proofs.YtabnafbgcpchdaaGreat.Q
set_option linter.unusedSimpArgs false
set_option linter.unusedVariables false
set_option linter.unusedSectionVars false
structure Ord (l : List Instr) (o : List Int) : Prop where
  len : o.length = l.length
  bd : ∀ v ∈ o, 0 ≤ v ∧ v < l.length
  nd : o.Nodup
  pw : o.Pairwise (fun v u => ¬ badP l v u = true)
theorem yd5 : ∀ xs pre, (pre ++ xs).Nodup → difB pre xs = true := by
  intro xs
  induction xs with
  | nil => intro pre _; rfl
  | cons x xs ih =>
    intro pre h
    unfold difB
    have hx : x ∉ pre := fun hm => by
      rw [List.nodup_append] at h
      exact h.2.2 x hm x (by simp) rfl
    rw [Bool.and_eq_true]
    exact ⟨by simpa using hx, ih _ (by simpa using h)⟩
theorem ycb (l : List Instr) : ∀ o : List Int, zvk l o = true ↔ (∀ v ∈ o, 0 ≤ v ∧ v < l.length) ∧ o.Pairwise (fun v u => ¬ badP l v u = true) := by
  intro o
  induction o with
  | nil => exact ⟨fun _ => ⟨fun v h => (by cases h), List.Pairwise.nil⟩, fun _ => rfl⟩
  | cons v vs ih =>
    rw [zuv, Bool.and_eq_true, Bool.and_eq_true, decide_eq_true_eq, List.all_eq_true, ih, List.pairwise_cons]
    constructor
    · rintro ⟨h1, h2, h3, h4⟩
      refine ⟨fun u hu => ?_, fun u hu => ?_, h4⟩
      · rcases List.mem_cons.1 hu with rfl | hu
        · omega
        · exact h3 u hu
      · have := h2 u (List.mem_cons_of_mem _ hu)
        intro e
        rw [e] at this
        cases this
    · rintro ⟨h1, h2, h3⟩
      have hv := h1 v (by simp)
      refine ⟨by omega, fun u hu => ?_, fun u hu => h1 u (List.mem_cons_of_mem _ hu), h3⟩
      rcases List.mem_cons.1 hu with rfl | hu
      · unfold badP
        rw [show decide (0 ≤ u ∧ u < u) = false from decide_eq_false (by omega)]
        rfl
      · have := h2 u hu
        rw [Bool.eq_false_iff.2 this]
        rfl
theorem ycc (l : List Instr) (o : List Int) : ordB l o = true ↔ Ord l o := by
  unfold ordB
  rw [Bool.and_eq_true, Bool.and_eq_true, decide_eq_true_eq, ycb]
  exact ⟨fun ⟨h1, h2, h3, h4⟩ => ⟨h1, h3, by simpa using zzi o [] h2 (by simp), h4⟩, fun h => ⟨h.len, yd5 o [] (by simpa using h.nd), h.bd, h.pw⟩⟩
end Go.Proofs.YtabnafbgcpchdaaGreat.PL
end
section
namespace Go.Proofs.YtabnafbgcpchdaaGreat.PL
open Go Go.RowKit Go.Proofs.YtabnafbgcpchdaaGreatW.PrintWords Go.Proofs.YtabnafbgcpchdaaGreatW.PrintLast Go.Proofs.YtabnafbgcpchdaaGreatW.PrintMore Go.Proofs.YtabnafbgcpchdaaGreat.Q
set_option linter.unusedSimpArgs false
set_option linter.unusedVariables false
def stb (c s : List Int) : Prop := s.Pairwise (fun a b => rd c a < rd c b ∨ rd c a = rd c b ∧ a < b)
theorem yd6 (c : List Int) (s : List Int) (x : Int) (hs : stb c s) (ht : srt c s) (hx : ∀ a ∈ s, a < x) : stb c (insC c s x) := by
  unfold insC stb
  rw [List.pairwise_append, List.pairwise_cons]
  refine ⟨hs.sublist (List.takeWhile_sublist _), ⟨fun b hb => .inl (zt2 c x s ht b hb), hs.sublist (List.dropWhile_sublist _)⟩, fun a ha b hb => ?_⟩
  have h1 := zvr c x s a ha
  have h2 := hx a ((List.takeWhile_sublist _).subset ha)
  rcases List.mem_cons.1 hb with rfl | hb
  · rcases Int.lt_or_eq_of_le h1 with h | h
    · exact .inl h
    · exact .inr ⟨h, h2⟩
  · have := zt2 c x s ht b hb
    exact .inl (by omega)
theorem zwy (c : List Int) : ∀ n, stb c (zhh c n)
  | 0 => List.Pairwise.nil
  | n + 1 => by
    obtain ⟨h1, h2, h3⟩ := zqa c n
    exact yd6 c _ n (zwy c n) h1 (fun a ha => (h2 a ha).2)
theorem zy3 {l : List Instr} {w : Nat} {C : List Int} (h : Sch l w C) : Ord l (zhh C C.length) := by
  obtain ⟨h1, h2, h3⟩ := zqa C C.length
  have hl := h.len
  have hs := zwy C C.length
  refine ⟨by omega, fun v hv => by have := h2 v hv; omega, ?_, ?_⟩
  · exact hs.imp (fun {a b} q e => by subst e; omega)
  · refine List.Pairwise.imp_of_mem (R := fun a b => rd C a < rd C b ∨ rd C a = rd C b ∧ a < b) (fun {v u} hv hu q hb => ?_) hs
    unfold badP at hb
    rw [Bool.and_eq_true, decide_eq_true_eq, decide_eq_true_eq] at hb
    have bv := h2 v hv
    have bu := h2 u hu
    have hd := h.dl u.toNat v.toNat (by omega) (by omega) hb.2
    rw [← rdB, ← rdB, show ((u.toNat : Nat) : Int) = u by omega, show ((v.toNat : Nat) : Int) = v by omega] at hd
    omega
def negB (xs : List Int) : Bool := xs.any fun z => decide (z < 0)
def loR (l : List Instr) (a : Int) : List Int × Bool := if zfk l = true ∧ (0 ≤ a ∧ a ≤ 100) ∧ negB (laL l a l.length l.length) = false then (laL l a l.length l.length, true) else ([], false)
theorem yff (xs : List Int) (hl : xs.length ≤ 1048576) : Ev (fun k => zbg k xs) (negB xs) := by
  have hs : Ev (fun k => zbw k xs) (idx (fun z => decide (z < 0)) xs) := by
    unfold zbw
    refine zpw xs _ (fun k i => zat k xs xs.length i) ?_ (fun i z hi hx hp => ?_) (fun i z r hi hx hp hr => ?_)
    · refine zai (f := fun _ => some (-1)) (fun k => ?_) (Ev.now _)
      simp only [zat]
      rw [if_neg (by omega)]
    · exact zai (fun k => by simp only [zat, znq hx, zi3, Option.bind_some]; rfl) (zac (by omega) (zac (by omega) (zac (by omega) (zac hp (Ev.now _)))))
    · refine zai (fun k => by simp only [zat, znq hx, zi3, Option.bind_some]; rfl) (zac (by omega) (zac (by omega) (zac (by omega) (zaq (by simpa using hp) ?_))))
      rw [w64n i (by omega)]
      exact hr
  unfold zbg negB
  refine Ev.bind hs (Ev.some ?_)
  have e := zov (fun z => decide (z < 0)) xs
  cases h : xs.any fun z => decide (z < 0) with
  | true =>
    obtain ⟨z, hz, hz'⟩ := List.any_eq_true.1 h
    exact decide_eq_true (e.2 ⟨z, hz, hz'⟩)
  | false =>
    refine decide_eq_false (fun q => ?_)
    obtain ⟨z, hz, hz'⟩ := e.1 q
    have := List.any_eq_false.1 h z hz
    exact this hz'
theorem yaz (l : List Instr) (a : Int) (hl : l.length ≤ 1048576) : Ev (fun k => zhb k l a) (loR l a) := by
  have no : ∀ R, loR l a = R → R = ([], false) → Ev (fun k => zd1 k l a true) R := fun R _ h => by
    subst h
    exact zai (fun k => by simp only [zd1]; rfl) (zac trivial (Ev.now _))
  unfold zhb
  refine Ev.bind (zlk l) ?_
  by_cases h : zfk l = true
  · obtain ⟨h1, h2⟩ := zie h
    refine zac h (Ev.call (znr _ _ _) ?_)
    by_cases ha : 0 ≤ a ∧ a ≤ 100
    · rw [decide_eq_true ha]
      refine zai (fun k => by simp only [zd1]; rfl) (zaq (by decide) (Ev.bind (zwo l h1 a (by omega)) (Ev.bind (yff (laL l a l.length l.length) (by rw [zlb]; omega)) ?_)))
      by_cases hn : negB (laL l a l.length l.length) = false
      · rw [show loR l a = (laL l a l.length l.length, true) from if_pos ⟨h, ha, hn⟩]
        exact zaq (by rw [hn]; decide) (Ev.now _)
      · rw [show loR l a = ([], false) from if_neg (fun q => hn q.2.2)]
        exact zac (by simpa using hn) (Ev.now _)
    · rw [decide_eq_false ha]
      exact no _ rfl (if_neg (fun q => ha q.2.1))
  · exact zaq h (no _ rfl (if_neg (fun q => h q.1)))
def eoR (l : List Instr) : List Int × Bool := if zfk l = true then (eaL l l.length, true) else ([], false)
theorem ya0 (l : List Instr) (hl : l.length ≤ 1048576) : Ev (fun k => zfx k l) (eoR l) := by
  unfold zfx
  refine Ev.bind (zlk l) ?_
  unfold eoR
  by_cases h : zfk l = true
  · obtain ⟨h1, h2⟩ := zie h
    rw [if_pos h]
    exact zac h (Ev.bind (ztx l h1) (Ev.now _))
  · rw [if_neg h]
    exact zaq h (Ev.now _)
def pbR (l : List Instr) : Int × Bool := if zfk l = true then ((hts l l.length).foldl max 0, true) else (0, false)
theorem zwz (a : Int) : ∀ (xs : List Int) (b : Int), xs.foldl max (max a b) = max a (xs.foldl max b)
  | [], _ => rfl
  | x :: xs, b => by
    show xs.foldl max (max (max a b) x) = max a (xs.foldl max (max b x))
    rw [Int.max_assoc, zwz a xs (max b x)]
theorem yfg (X : List Int) (h0 : 0 < X.length) (hX : X.length ≤ 1048576) : Ev (fun k => zer k X) ((X.drop 1).foldl max (rd X 0)) := by
  have key : ∀ (d i : Nat) (m : Int), i + d = X.length → Ev (fun k => zcb k X m i) ((X.drop i).foldl max m) := by
    intro d
    induction d with
    | zero =>
      intro i m hi
      refine zai (f := fun _ => some m) (fun k => ?_) (Ev.some ?_)
      · simp only [zcb]
        rw [if_neg (by omega)]
      · rw [List.drop_of_length_le (by omega)]
        rfl
    | succ d ih =>
      intro i m hi
      have hlt : i < X.length := by omega
      have next := ih (i + 1) (max m X[i]) (by omega)
      rw [List.drop_eq_getElem_cons hlt]
      refine zai (fun k => by simp only [zcb]; rfl) (zac (by omega) (zac (by omega) ?_))
      rw [znq (zhm X i hlt), yb0, w64n i (by omega)]
      exact next
  unfold zer
  exact zaq (by omega) (zac (by omega) (key (X.length - 1) 1 _ (by omega)))
theorem ya1 (l : List Instr) (hl : l.length ≤ 1048576) : Ev (fun k => zgj k l) (pbR l) := by
  unfold zgj
  refine Ev.bind (zlk l) ?_
  by_cases h : zfk l = true
  · obtain ⟨h1, h2⟩ := zie h
    rw [show pbR l = ((hts l l.length).foldl max 0, true) from if_pos h]
    have hh : (hts l l.length).length = l.length := by unfold hts; rw [zpz, zlb]
    refine zac h (Ev.bind (zyt l h1) (zac (by omega) ?_))
    have hlen : (hts l l.length ++ [0]).length = l.length + 1 := by rw [List.length_append, hh]; rfl
    refine Ev.bind (yfg (hts l l.length ++ [0]) (by omega) (by omega)) (Ev.some ?_)
    congr 1
    cases hts l l.length with
    | nil => rfl
    | cons x t =>
      show (t ++ [0]).foldl max x = t.foldl max (max 0 x)
      rw [List.foldl_append, zwz]
      show max (t.foldl max x) 0 = max 0 (t.foldl max x)
      exact Int.max_comm _ _
  · rw [show pbR l = (0, false) from if_neg h]
    exact zaq h (Ev.now _)
end Go.Proofs.YtabnafbgcpchdaaGreat.PL
end
