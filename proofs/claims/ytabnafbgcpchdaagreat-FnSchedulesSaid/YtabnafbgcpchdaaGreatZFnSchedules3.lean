/- Proved here: contracts of functions that the law FnSchedules reaches, and lemmas on what they compute; texts of this session and the printed words of the kit that they lean on, cut down and put together by its program link.py. Conditions: as each states. -/
import Derived.Test.YtabnafbgcpchdaaGreatZFnSchedules1
import Derived.Test.YtabnafbgcpchdaaGreatZFnSchedules2
section
namespace Go.Proofs.YtabnafbgcpchdaaGreat.Q
open Go.RowKit Go.Proofs.YtabnafbgcpchdaaGreatW.PrintWords Go.Proofs.YtabnafbgcpchdaaGreatW.PrintLast Go.Proofs.YtabnafbgcpchdaaGreatW.PrintMore
set_option maxHeartbeats 8000000
set_option maxRecDepth 100000
attribute [local go_sem] zk3 zk4 zmp zmq zjg zjh zk5 zk6
set_option linter.unusedVariables false
set_option linter.unusedSimpArgs false
mutual
def zaf : Nat → List Int → Int → Int → Int → List (List Int) → Option (List Int)
 | 0, _, _, _, _, _ => none
 | k + 1, x0, x1, x2, x8, x800 => if x8 < x2 then (zag k x0 x1 x2 x8 x8 x800) else (some x0)
def zag : Nat → List Int → Int → Int → Int → Int → List (List Int) → Option (List Int)
 | 0, _, _, _, _, _, _ => none
 | k + 1, x0, x1, x2, x8, x9, x800 => if x9 > x1 then (if 0 ≤ x9 then (if x9 < (x0.length : Int) then (if 0 ≤ (wrap64 (x9 - 1)) then (if (wrap64 (x9 - 1)) < (x0.length : Int) then ((zey (rd x0 x9) (rd x0 (wrap64 (x9 - 1))) x800).bind fun t103 => (if t103 < 0 then (zag k ((x0.set (x9 : Int).toNat (rd x0 (wrap64 (x9 - 1)))).set ((wrap64 (x9 - 1)) : Int).toNat (rd x0 x9)) x1 x2 x8 (wrap64 (x9 - 1)) x800) else (zaf k x0 x1 x2 (wrap64 (x8 + 1)) x800))) else (none)) else (none)) else (none)) else (none)) else (zaf k x0 x1 x2 (wrap64 (x8 + 1)) x800)
end
def zak (k : Nat) (l0 : List Int) (a1 : Int) (a2 : Int) (l3_0 : List (List Int)) : Option (List Int) := zaf k l0 a1 a2 (wrap64 (a1 + 1)) l3_0
theorem zee : ∀ k, (∀ y0 y1 y2 y3 y4, LeO (zaf k y0 y1 y2 y3 y4) (zaf (k + 1) y0 y1 y2 y3 y4)) ∧ (∀ y0 y1 y2 y3 y4 y5, LeO (zag k y0 y1 y2 y3 y4 y5) (zag (k + 1) y0 y1 y2 y3 y4 y5))
 | 0 => ⟨fun _ _ _ _ _ r h => by simp [zaf] at h, fun _ _ _ _ _ _ r h => by simp [zag] at h⟩
 | k + 1 => by
   obtain ⟨ih0, ih1⟩ := zee k
   refine ⟨?_, ?_⟩
   · intro y0 y1 y2 y3 y4
     unfold zaf
     exact zm2 ih0 ih1
   · intro y0 y1 y2 y3 y4 y5
     unfold zag
     exact zm2 ih0 ih1
theorem zb3 : ∀ a0 a1 a2 a3 k, LeO (zak k a0 a1 a2 a3) (zak (k + 1) a0 a1 a2 a3) := by
 intro a0 a1 a2 a3 k
 obtain ⟨ih0, ih1⟩ := zee k
 unfold zak
 exact zm2 ih0 ih1
def slices_insertionSortCmpFunc_impl_OrderOfSchedule_1.T4 : Bool × List (List Nat × List Nat) := (true, [([], []), ([], []), ([0, 1], [0, 1]), ([2], [2]), ([3], [3]), ([3], [3]), ([3], [3]), ([5, 6, 3], [3, 5, 6]), ([7, 3], [3, 7]), ([3], [3]), ([3], [3]), ([10, 3], [3, 10]), ([9, 11, 3], [3, 9, 11]), ([12, 3], [3, 12]), ([4, 8, 13, 3, 3], [3, 4, 8, 13]), ([14, 3], [3, 14]), ([3, 15], [3, 15])])
def zhs : List Nat := [0, 0, 3, 7, 15, 15, 15, 111, 239, 15, 15, 1039, 3599, 7695, 16383, 32767, 65535]
theorem zc1 : rtab .any (zun Tryz.f141 4) = slices_insertionSortCmpFunc_impl_OrderOfSchedule_1.T4 := by kernel_rfl
theorem zct : zlc slices_insertionSortCmpFunc_impl_OrderOfSchedule_1.T4.2 zhs = true := by kernel_rfl
def slices_insertionSortCmpFunc_impl_OrderOfSchedule_1.T6 : Bool × List (List Nat × List Nat) := (true, [([], []), ([], []), ([], []), ([], []), ([3], [3]), ([], []), ([], []), ([6], [6]), ([5, 7], [5, 7]), ([8], [8]), ([], []), ([], []), ([10, 11], [10, 11]), ([12], [12]), ([0, 1, 0, 1, 5, 6, 7, 8, 9, 13], [0, 1]), ([14, 9, 0, 1, 5, 6, 7, 8, 9, 13], [9, 14]), ([2, 4, 0, 1, 2, 3, 4, 5, 6, 7, 8, 9, 10, 11, 12, 13, 14, 15], [2, 4]), ([16, 13, 15, 0, 1, 2, 3, 4, 5, 6, 7, 8, 9, 10, 11, 12, 13, 14, 15], [13, 16])])
def zht : List Nat := [0, 0, 0, 0, 8, 0, 0, 64, 224, 480, 0, 0, 3072, 7168, 16355, 32739, 65535, 131071]
theorem zhl : rtab .any (zun Tryz.f141 6) = slices_insertionSortCmpFunc_impl_OrderOfSchedule_1.T6 := by kernel_rfl
theorem zhj : zlc slices_insertionSortCmpFunc_impl_OrderOfSchedule_1.T6.2 zht = true := by kernel_rfl
theorem zei (k : Nat) (P0_ : Nat → Prop) (u9000_ : Value) (l0 : List Int) (a1 : Int) (a2 : Int) (A3_0 : Option Addr) (c3_0 : Nat) (l3_0 : List (List Int)) (r : List Int) (w0 w : World) (hB : Below w0.heap.size w0 w) (ho0 : Kd.R (Kd.int .i64) 3 w w0.heap.size P0_ u9000_ l0) (hr3_0 : ∀ W_, Kept w W_ (fun k_ => P0_ k_) → Kd.C (Kd.slice 3 (Kd.int .i64)) W_ A3_0 l3_0.length l3_0) (hc3_0 : l3_0.length ≤ c3_0) (h : zak k l0 a1 a2 l3_0 = some r) :
   Calls Tryz.prog 141 #[u9000_, .int .i64 a1, .int .i64 a2, .func (Fn.func 72) #[] #[.pointer A3_0]] w fun e w' => e = .returned (.tuple #[]) ∧ Kd.R (Kd.int .i64) 3 w' w0.heap.size (fun k_ => (P0_ k_ ∨ w.heap.size ≤ k_)) u9000_ r ∧ Below w0.heap.size w0 w' ∧ Kept w w' (fun k_ => P0_ k_) := by
 have HO0 := zA (show Kd.R (Kd.int .i64) 3 w w0.heap.size (fun k_ => (P0_ k_ ∨ w.heap.size ≤ k_)) u9000_ l0 from Kd.R_mono ho0 (fun k_ hk => (.inl hk)))
 have HR3_0 := zA hr3_0
 have HC3_0 := zA hc3_0
 clear hr3_0 hc3_0
 have HK := zA (Kept.refl w (fun k_ => P0_ k_))
 have HW0 := zA hB.size
 have HB := zA hB
 clear hB
 have H := h
 unfold zak at H
 clear h
 have H' := zA H
 clear H
 go_enter Tryz.func141, Tryz.ntmps141
 go_wp2
 go_loopg [8] k (fun kq v8 w' => ∃ (x0_1 : List Int) (x8_1 : Int), v8 = .int .i64 x8_1 ∧ Aside0 (zaf kq x0_1 a1 a2 x8_1 l3_0 = some r) ∧ Aside0 (kq ≤ k) ∧ Aside0 (Kd.R (Kd.int .i64) 3 w' w0.heap.size (fun k_ => (P0_ k_ ∨ w.heap.size ≤ k_)) u9000_ x0_1) ∧ Aside0 (Kept w w' (fun k_ => P0_ k_)) ∧ Aside0 (Below w0.heap.size w0 w'))
 case atStart => exact ⟨(l0), (wrap64 (a1 + 1)), zq7, H', ⟨zlr _⟩, ⟨zq2 HO0⟩, ⟨zq16⟩, ⟨zq1⟩⟩
 clear H'
 obtain ⟨x0_1, x8_1, rfl, HA, HK1, HO_0, HK, HB⟩ := hrel
 cases gk with
 | zero => exact absurd HA.out (by simp [zaf])
 | succ k1 =>
 have H := HA.out
 clear HA
 simp only [zaf] at H
 revert H
 refine zit (fun c5 H => ?_) fun c5 H => ?_
 rotate_left
 · obtain rfl := zsi H
   go_wp2
   first | go_end0 | ((try simp only [Exit.inBlock, Exit.then]); refine bodyPost_ret (results_none rfl _ _ _) rfl ?_)
   exact ⟨zq5, zq2 HO_0, zq1, zq16⟩
 have H' := zA H
 clear H
 go_wp2
 go_loopg [9] k1 (fun kq v9 w' => ∃ (x0_2 : List Int) (x9_2 : Int), v9 = .int .i64 x9_2 ∧ Aside0 (zag kq x0_2 a1 a2 x8_1 x9_2 l3_0 = some r) ∧ Aside0 (kq ≤ k1) ∧ Aside0 (Kd.R (Kd.int .i64) 3 w' w0.heap.size (fun k_ => (P0_ k_ ∨ w.heap.size ≤ k_)) u9000_ x0_2) ∧ Aside0 (Kept w w' (fun k_ => P0_ k_)) ∧ Aside0 (Below w0.heap.size w0 w'))
 case atStart => exact ⟨(x0_1), (x8_1), zq7, H', ⟨zlr _⟩, ⟨zq2 HO_0⟩, ⟨zq16⟩, ⟨zq1⟩⟩
 clear H'
 obtain ⟨x0_2, x9_2, rfl, HA, HK2, HO_0, HK, HB⟩ := hrel
 cases gk with
 | zero => exact absurd HA.out (by simp [zag])
 | succ k2 =>
 have H := HA.out
 clear HA
 simp only [zag] at H
 by_cases c6 : x9_2 > a1
 rotate_left
 · rw [if_neg c6] at H
   have c6b0 := zdf c6
   clear c6
   have H' := zA H
   clear H
   try go_wp2
   replace HO_0 := zA (zRd HO_0.out)
   replace HK := zA (Kept.drew HK.out)
   replace HB := zA (zbd HB.out)
   refine zmx (n := 17) (S := fun w' => True) (ds := []) #[false, false, false, false, false, false, false, false, false, false, false, false, false, false, false, false, false] zq27 rfl rfl trivial (fun hHeld => ?_); refine zji zc1 zct (fun HT_ HW_ => ?_)
   generalize wr.drew = w23 at HO_0 HK HB hHeld ⊢
   refine zpu 0 18 HT_ ?_
   refine zpu 1 19 HT_ ?_
   refine zpu 2 20 HT_ ?_
   refine zpu 3 21 HT_ ?_
   refine zo7 (i := 4) (N := some 22) (v := undef) (a' := ?_) #[true, true, true, true, true, false, false, false, false, false, false, false, false, false, false, false, false] rfl rfl (zmn HT_.out zq27) (fun _ _ _ h => h) (Or.inr ⟨by rfl, rfl⟩) ?_ ?_
   rotate_left
   · simp only [Act.put, List.setIfInBounds_toArray, List.set_cons_zero, List.set_cons_succ, zia, ziz]
     rfl
   refine zo7 (i := 5) (N := some 23) (v := undef) (a' := ?_) #[true, true, true, true, true, true, false, false, false, false, false, false, false, false, false, false, false] rfl rfl (zmn HT_.out zq27) (fun _ _ _ h => h) (Or.inr ⟨by rfl, rfl⟩) ?_ ?_
   rotate_left
   · simp only [Act.put, List.setIfInBounds_toArray, List.set_cons_zero, List.set_cons_succ, zia, ziz]
     rfl
   refine zo7 (i := 6) (N := some 24) (v := undef) (a' := ?_) #[true, true, true, true, true, true, true, false, false, false, false, false, false, false, false, false, false] rfl rfl (zmn HT_.out zq27) (fun _ _ _ h => h) (Or.inr ⟨by rfl, rfl⟩) ?_ ?_
   rotate_left
   · simp only [Act.put, List.setIfInBounds_toArray, List.set_cons_zero, List.set_cons_succ, zia, ziz]
     rfl
   refine zo7 (i := 7) (N := some 25) (v := undef) (a' := ?_) #[true, true, true, true, true, true, true, true, false, false, false, false, false, false, false, false, false] rfl rfl (zmn HT_.out zq27) (fun _ _ _ h => h) (Or.inr ⟨by rfl, rfl⟩) ?_ ?_
   rotate_left
   · simp only [Act.put, List.setIfInBounds_toArray, List.set_cons_zero, List.set_cons_succ, zia, ziz]
     rfl
   refine zo7 (i := 8) (N := some 26) (v := undef) (a' := ?_) #[true, true, true, true, true, true, true, true, true, false, false, false, false, false, false, false, false] rfl rfl (zmn HT_.out zq27) (fun _ _ _ h => h) (Or.inr ⟨by rfl, rfl⟩) ?_ ?_
   rotate_left
   · simp only [Act.put, List.setIfInBounds_toArray, List.set_cons_zero, List.set_cons_succ, zia, ziz]
     rfl
   refine zo7 (i := 9) (N := some 27) (v := undef) (a' := ?_) #[true, true, true, true, true, true, true, true, true, true, false, false, false, false, false, false, false] rfl rfl (zmn HT_.out zq27) (fun _ _ _ h => h) (Or.inr ⟨by rfl, rfl⟩) ?_ ?_
   rotate_left
   · simp only [Act.put, List.setIfInBounds_toArray, List.set_cons_zero, List.set_cons_succ, zia, ziz]
     rfl
   refine zo7 (i := 10) (N := some 28) (v := undef) (a' := ?_) #[true, true, true, true, true, true, true, true, true, true, true, false, false, false, false, false, false] rfl rfl (zmn HT_.out zq27) (fun _ _ _ h => h) (Or.inr ⟨by rfl, rfl⟩) ?_ ?_
   rotate_left
   · simp only [Act.put, List.setIfInBounds_toArray, List.set_cons_zero, List.set_cons_succ, zia, ziz]
     rfl
   refine zo7 (i := 11) (N := some 29) (v := undef) (a' := ?_) #[true, true, true, true, true, true, true, true, true, true, true, true, false, false, false, false, false] rfl rfl (zmn HT_.out zq27) (fun _ _ _ h => h) (Or.inr ⟨by rfl, rfl⟩) ?_ ?_
   rotate_left
   · simp only [Act.put, List.setIfInBounds_toArray, List.set_cons_zero, List.set_cons_succ, zia, ziz]
     rfl
   refine zo7 (i := 12) (N := some 30) (v := undef) (a' := ?_) #[true, true, true, true, true, true, true, true, true, true, true, true, true, false, false, false, false] rfl rfl (zmn HT_.out zq27) (fun _ _ _ h => h) (Or.inr ⟨by rfl, rfl⟩) ?_ ?_
   rotate_left
   · simp only [Act.put, List.setIfInBounds_toArray, List.set_cons_zero, List.set_cons_succ, zia, ziz]
     rfl
   refine zo7 (i := 13) (N := some 31) (v := undef) (a' := ?_) #[true, true, true, true, true, true, true, true, true, true, true, true, true, true, false, false, false] rfl rfl (zmn HT_.out zq27) (fun _ _ _ h => h) (Or.inr ⟨by rfl, rfl⟩) ?_ ?_
   rotate_left
   · simp only [Act.put, List.setIfInBounds_toArray, List.set_cons_zero, List.set_cons_succ, zia, ziz]
     rfl
   refine zo7 (i := 14) (N := some 32) (v := undef) (a' := ?_) #[true, true, true, true, true, true, true, true, true, true, true, true, true, true, true, false, false] rfl rfl (zmn HT_.out zq27) (fun _ _ _ h => h) (Or.inr ⟨by rfl, rfl⟩) ?_ ?_
   rotate_left
   · simp only [Act.put, List.setIfInBounds_toArray, List.set_cons_zero, List.set_cons_succ, zia, ziz]
     rfl
   refine zo7 (i := 15) (N := some 33) (v := undef) (a' := ?_) #[true, true, true, true, true, true, true, true, true, true, true, true, true, true, true, true, false] rfl rfl (zmn HT_.out zq27) (fun _ _ _ h => h) (Or.inr ⟨by rfl, rfl⟩) ?_ ?_
   rotate_left
   · simp only [Act.put, List.setIfInBounds_toArray, List.set_cons_zero, List.set_cons_succ, zia, ziz]
     rfl
   refine zpu 16 34 HT_ ?_
   refine zpl (zlx HT_.out zq27) ?_
   try go_wp2
   go_roundg k2
   case measure => have := HK1.out; have := HK2.out; omega
   case rel => exact ⟨(x0_2), (wrap64 (x8_1 + 1)), zq7, H', ⟨zq41 HK1 HK2⟩, ⟨zq2 HO_0⟩, ⟨zq16⟩, ⟨zq1⟩⟩
 rw [if_pos c6] at H
 have c6b0 := zdt c6
 clear c6
 revert H
 refine zin fun c7 H => ?_
 revert H
 refine zin fun c8 H => ?_
 obtain ⟨ji9, hji9⟩ : ∃ j_ : Int, (wrap64 (x9_2 - 1)) = j_ := ⟨_, rfl⟩
 replace H : (if 0 ≤ (ji9) then (if (ji9) < (x0_2.length : Int) then ((zey (rd x0_2 x9_2) (rd x0_2 (ji9)) l3_0).bind fun t103 => (if t103 < 0 then (zag k2 ((x0_2.set (x9_2 : Int).toNat (rd x0_2 (ji9))).set ((ji9) : Int).toNat (rd x0_2 x9_2)) a1 a2 x8_1 ji9 l3_0) else (zaf k2 x0_2 a1 a2 (wrap64 (x8_1 + 1)) l3_0))) else (none)) else (none)) = some r := by first | (rw [hji9] at H; exact H) | (simp only [hji9] at H ⊢; exact H)
 have hji9w : (IntKind.i64.wrap (x9_2 - 1)) = ji9 := (zia _).trans hji9
 revert H
 refine zin fun c10 H => ?_
 revert H
 refine zin fun c11 H => ?_
 replace H := zob H
 obtain ⟨t103, A120, H⟩ := H
 have A12 := zA A120
 clear A120
 revert H
 refine zit (fun c13 H => ?_) fun c13 H => ?_
 rotate_left
 · have H' := zA H
   clear H
   try go_wp2
   replace HO_0 := zA (zRd HO_0.out)
   replace HK := zA (Kept.drew HK.out)
   replace HB := zA (zbd HB.out)
   obtain ⟨Ao22, co22, eo22⟩ := Kd.R_slice HO_0.out
   (first | subst eo22 | (injection eo22 with f1_ f2_ f3_; have f4_ := f1_.symm; have f5_ := f3_.symm; clear f1_ f2_ f3_; subst f4_; subst f5_))
   obtain ⟨p101, q101⟩ := zpq x9_2 x0_2.length
   obtain ⟨ad101, e101, hx101_0⟩ := Kd.at_int (zRr HO_0.out).2.2 x9_2 (zoe p101) (zoe q101)
   cases e101
   have p102 : 0 ≤ ((ji9) : Int) := zde zq20
   have q102 : (ji9) < (x0_2.length : Int) := zde zq20
   obtain ⟨ad102, e102, hx102_0⟩ := Kd.at_int (zRr HO_0.out).2.2 (ji9) p102 q102
   obtain rfl : ad101 = ad102 := (by injection e102)
   replace p102 := eq_true p102
   replace q102 := eq_true q102
   refine zmx (n := 17) (S := fun w' => w'.cell? (ad101.add (x9_2).toNat) = some (.int .i64 (rd x0_2 x9_2)) ∧ w'.cell? (ad101.add ((ji9)).toNat) = some (.int .i64 (rd x0_2 (ji9)))) (ds := []) #[false, false, false, false, false, false, false, false, false, false, false, false, false, false, false, false, false] zq27 rfl rfl ⟨hx101_0, hx102_0⟩ (fun hHeld => ?_); refine zji zc1 zct (fun HT_ HW_ => ?_)
   generalize wr.drew = w21 at HO_0 HK HB hx101_0 hx102_0 hHeld ⊢
   refine zpu 0 18 HT_ ?_
   refine zpu 1 19 HT_ ?_
   refine zpu 2 20 HT_ ?_
   refine zpu 3 21 HT_ ?_
   refine zpu 4 22 HT_ ?_
   refine zpu 5 23 HT_ ?_
   refine zpu 6 24 HT_ ?_
   refine zpu 7 25 HT_ ?_
   refine zpu 9 27 HT_ ?_
   refine zpu 10 28 HT_ ?_
   refine zpu 11 29 HT_ ?_
   refine zpu 12 30 HT_ ?_
   refine ztu 8 26 HT_ HW_ hHeld ?_
   refine ztu 13 31 HT_ HW_ hHeld ?_
   refine one_ (i := 14) (N := some 32) #[true, true, true, true, true, true, true, true, true, true, true, true, true, true, true, false, false] rfl rfl (zl7 HT_.out zq27) (by decide) (fun K hK => ?_)
   refine ycp Tryz.func72 zq27 rfl #[.int .i64 (rd x0_2 x9_2), .int .i64 (rd x0_2 (ji9)), .pointer A3_0] (by rfl) rfl rfl rfl zq79 ?_
   with_reducible refine (zjp (rd x0_2 x9_2) (rd x0_2 (ji9)) _ c3_0 l3_0 t103 _ ?side1 ?side2 A12.out).mono ?_
   (case side1 => exact Kd.C_kept_now HR3_0.out zq16)
   (case side2 => exact HC3_0.out)
   rintro e w' ⟨rfl, ⟨nd, rfl⟩⟩
   refine ⟨_, rfl, ?_⟩
   refine hK.out _ _ ⟨hHeld.1, hHeld.2⟩ (fun hHeld => ?_)
   clear hK K
   refine znm 32 ?_
   refine zpu 15 33 HT_ ?_
   refine zpu 16 34 HT_ ?_
   refine zpl (zlx HT_.out zq27) ?_
   (try (rw [zg2 w21]; generalize hq_ : World.drewN w21 _ = w21; have n0_ := zA (Kd.R_at hq_ HO_0.out); have n1_ := zA (ybc hq_ HK.out); have n2_ := zA (zlv hq_ HB.out); clear hq_ HO_0 HK HB; have HO_0 := n0_; have HK := n1_; have HB := n2_; clear n0_ n1_ n2_))
   try go_wp2
   go_roundg k2
   case measure => have := HK1.out; have := HK2.out; omega
   case rel => exact ⟨(x0_2), (wrap64 (x8_1 + 1)), zq7, H', ⟨zq41 HK1 HK2⟩, ⟨zq2 HO_0⟩, ⟨zq16⟩, ⟨zq1⟩⟩
 obtain ⟨y106, hy106⟩ : ∃ y_ : List Int, y_ = (x0_2.set (x9_2 : Int).toNat (rd x0_2 (ji9))) := ⟨_, rfl⟩
 rw [← hy106] at H; try with_reducible replace H := zbs H
 have Ny106 := zA hy106
 clear hy106
 obtain ⟨y107, hy107⟩ : ∃ y_ : List Int, y_ = (y106.set ((ji9) : Int).toNat (rd x0_2 x9_2)) := ⟨_, rfl⟩
 rw [← hy107] at H; try with_reducible replace H := zbs H
 have Ny107 := zA hy107
 clear hy107
 have H' := zA H
 clear H
 try go_wp2
 replace HO_0 := zA (zRd HO_0.out)
 replace HK := zA (Kept.drew HK.out)
 replace HB := zA (zbd HB.out)
 obtain ⟨Ao17, co17, eo17⟩ := Kd.R_slice HO_0.out
 (first | subst eo17 | (injection eo17 with f1_ f2_ f3_; have f4_ := f1_.symm; have f5_ := f3_.symm; clear f1_ f2_ f3_; subst f4_; subst f5_))
 obtain ⟨p101, q101⟩ := zpq x9_2 x0_2.length
 obtain ⟨ad101, e101, hx101_0⟩ := Kd.at_int (zRr HO_0.out).2.2 x9_2 (zoe p101) (zoe q101)
 cases e101
 have p102 : 0 ≤ ((ji9) : Int) := zde zq20
 have q102 : (ji9) < (x0_2.length : Int) := zde zq20
 obtain ⟨ad102, e102, hx102_0⟩ := Kd.at_int (zRr HO_0.out).2.2 (ji9) p102 q102
 obtain rfl : ad101 = ad102 := (by injection e102)
 replace p102 := eq_true p102
 replace q102 := eq_true q102
 refine zmx (n := 17) (S := fun w' => w'.cell? (ad101.add (x9_2).toNat) = some (.int .i64 (rd x0_2 x9_2)) ∧ w'.cell? (ad101.add ((ji9)).toNat) = some (.int .i64 (rd x0_2 (ji9)))) (ds := []) #[false, false, false, false, false, false, false, false, false, false, false, false, false, false, false, false, false] zq27 rfl rfl ⟨hx101_0, hx102_0⟩ (fun hHeld => ?_); refine zji zc1 zct (fun HT_ HW_ => ?_)
 generalize wr.drew = w16 at HO_0 HK HB hx101_0 hx102_0 hHeld ⊢
 refine zpu 0 18 HT_ ?_
 refine zpu 1 19 HT_ ?_
 refine zpu 2 20 HT_ ?_
 refine zpu 3 21 HT_ ?_
 refine zpu 4 22 HT_ ?_
 refine zpu 5 23 HT_ ?_
 refine zpu 6 24 HT_ ?_
 refine zpu 7 25 HT_ ?_
 refine zpu 9 27 HT_ ?_
 refine zpu 10 28 HT_ ?_
 refine zpu 11 29 HT_ ?_
 refine zpu 12 30 HT_ ?_
 refine ztu 8 26 HT_ HW_ hHeld ?_
 refine ztu 13 31 HT_ HW_ hHeld ?_
 refine one_ (i := 14) (N := some 32) #[true, true, true, true, true, true, true, true, true, true, true, true, true, true, true, false, false] rfl rfl (zl7 HT_.out zq27) (by decide) (fun K hK => ?_)
 refine ycp Tryz.func72 zq27 rfl #[.int .i64 (rd x0_2 x9_2), .int .i64 (rd x0_2 (ji9)), .pointer A3_0] (by rfl) rfl rfl rfl zq79 ?_
 with_reducible refine (zjp (rd x0_2 x9_2) (rd x0_2 (ji9)) _ c3_0 l3_0 t103 _ ?side1 ?side2 A12.out).mono ?_
 (case side1 => exact Kd.C_kept_now HR3_0.out zq16)
 (case side2 => exact HC3_0.out)
 rintro e w' ⟨rfl, ⟨nd, rfl⟩⟩
 refine ⟨_, rfl, ?_⟩
 refine hK.out _ _ ⟨hHeld.1, hHeld.2⟩ (fun hHeld => ?_)
 clear hK K
 refine znm 32 ?_
 refine zpu 15 33 HT_ ?_
 refine zpu 16 34 HT_ ?_
 refine zpl (zlx HT_.out zq27) ?_
 (try (rw [zg2 w16]; generalize hq_ : World.drewN w16 _ = w16; have n0_ := zA (Kd.R_at hq_ HO_0.out); have n1_ := zA (ybc hq_ HK.out); have n2_ := zA (zlv hq_ HB.out); clear hq_ HO_0 HK HB; have HO_0 := n0_; have HK := n1_; have HB := n2_; clear n0_ n1_ n2_))
 try go_wp2
 (try (rw [zg2 w16]; generalize hq_ : World.drewN w16 _ = w16; have n0_ : Aside0 (Kd.R (Kd.int .i64) 3 w16 w0.heap.size (fun k_ => (P0_ k_ ∨ w.heap.size ≤ k_)) (.slice (some ad101) x0_2.length co17) x0_2) := ⟨by rw [← hq_]; exact (zq2 HO_0)⟩; have n1_ : Aside0 (Kept w w16 (fun k_ => P0_ k_)) := ⟨by rw [← hq_]; exact zq16⟩; have n2_ : Aside0 (Below w0.heap.size w0 w16) := ⟨by rw [← hq_]; exact zq1⟩; clear HO_0 HK HB hq_; have HO_0 := n0_; have HK := n1_; have HB := n2_; clear n0_ n1_ n2_))
 replace HO_0 := zA (zRd HO_0.out)
 replace HK := zA (Kept.drew HK.out)
 replace HB := zA (zbd HB.out)
 have p104 : 0 ≤ ((ji9) : Int) := zde zq20
 have q104 : (ji9) < (x0_2.length : Int) := zde zq20
 obtain ⟨ad104, e104, hx104_0⟩ := Kd.at_int (zRr HO_0.out).2.2 (ji9) p104 q104
 obtain rfl : ad101 = ad104 := (by injection e104)
 replace p104 := eq_true p104
 replace q104 := eq_true q104
 obtain ⟨p105, q105⟩ := zpq x9_2 x0_2.length
 obtain ⟨ad105, e105, hx105_0⟩ := Kd.at_int (zRr HO_0.out).2.2 x9_2 (zoe p105) (zoe q105)
 obtain rfl : ad101 = ad105 := (by injection e105)
 have p14 : 0 ≤ (x9_2 : Int) := zde zq20
 have q14 : (x9_2 : Int) < ((x0_2.length : Int) : Int) := zde zq20
 obtain ⟨go14, co14, eo14, gb14, gl14, cl14, HG14⟩ := Kd.R_form HO_0.out (by omega)
 (first | cases eo14 | (injection eo14 with ea_ en_ ec_; (first | subst ea_ | (injection ea_ with ea_; subst ea_)); subst ec_; clear en_))
 have GB14 := zA gb14
 have GG14 := zA HG14
 clear gb14 gl14 HG14
 have HMgo14 := zA (show (P0_ go14 ∨ w.heap.size ≤ go14) from (HO_0.out.1 _ rfl))
 (first | simp only [zf2] at hx101_0 | skip)
 (first | simp only [zf2] at hx102_0 | skip)
 (first | simp only [zf2] at hx104_0 | skip)
 (first | simp only [zf2] at hx105_0 | skip)
 obtain ⟨hx14_0, hf14_0⟩ := Kd.R_celln 0 HO_0.out (x9_2 : Int) p14 q14
 replace p14 := eq_true p14
 replace q14 := eq_true q14
 have HP19 := Kd.R_putn HO_0.out (x9_2 : Int) (rd x0_2 (ji9))
 rw [← Ny106.out] at HP19
 have HQ19 := zA HP19
 clear HP19
 have p15 : 0 ≤ ((ji9) : Int) := zde zq20
 have q15 : ((ji9) : Int) < ((x0_2.length : Int) : Int) := zde zq20
 obtain ⟨hx15_0, hf15_0⟩ := Kd.R_celln 0 HQ19.out ((ji9) : Int) p15 q15
 replace p15 := eq_true p15
 replace q15 := eq_true q15
 have HP20 := Kd.R_putn HQ19.out ((ji9) : Int) (rd x0_2 x9_2)
 rw [← Ny107.out] at HP20
 have HQ20 := zA HP20
 clear HP20
 refine zmx (n := 18) (S := fun w' => w'.cell? ⟨go14, ((ji9)).toNat, none⟩ = some (.int .i64 (rd x0_2 (ji9))) ∧ w'.cell? ⟨go14, (x9_2).toNat, none⟩ = some (.int .i64 (rd x0_2 x9_2))) (ds := [15, 17]) #[false, false, false, false, false, false, false, false, false, false, false, false, false, false, false, false, false, false] zq27 rfl rfl ⟨hx104_0, hx105_0⟩ (fun hHeld => ?_); refine zji zhl zhj (fun HT_ HW_ => ?_)
 generalize w16.drew = w18 at HO_0 HK HB GG14 HQ19 HQ20 hf14_0 hf15_0 hx101_0 hx102_0 hx104_0 hx105_0 hx14_0 hx15_0 hHeld ⊢
 refine zpu 0 37 HT_ ?_
 refine zpu 1 38 HT_ ?_
 refine zpu 2 39 HT_ ?_
 refine zpu 3 40 HT_ ?_
 refine zpu 4 41 HT_ ?_
 refine zpu 5 42 HT_ ?_
 refine zpu 6 43 HT_ ?_
 refine zpu 7 44 HT_ ?_
 refine zpu 8 45 HT_ ?_
 refine zpu 10 47 HT_ ?_
 refine zpu 11 48 HT_ ?_
 refine zpu 12 49 HT_ ?_
 refine ztu 9 46 HT_ HW_ hHeld ?_
 refine ztu 13 50 HT_ HW_ hHeld ?_
 refine zpu 14 51 HT_ ?_
 refine zzr (i := 15) (N := none) #[true, true, true, true, true, true, true, true, true, true, true, true, true, true, true, true, false, false] rfl rfl (zl7 HT_.out zq27) (by decide) (fun K hK => ?_)
 refine ztd (w1 := ?_) (by rfl) rfl ?_ ?_
 rotate_left
 · go_simp
   rfl
 refine hK.out _ _ ?_
 clear hK K
 refine zpu 16 52 HT_ ?_
 refine zzr (i := 17) (N := none) #[true, true, true, true, true, true, true, true, true, true, true, true, true, true, true, true, true, true] rfl rfl (zl7 HT_.out zq27) (by decide) (fun K hK => ?_)
 refine ztd (w1 := ?_) (by rfl) rfl ?_ ?_
 rotate_left
 · go_simp
   rfl
 refine hK.out _ _ ?_
 clear hK K
 refine zpl (zlx HT_.out zq27) ?_
 try go_wp2
 go_roundg k2
 case measure => have := HK1.out; have := HK2.out; omega
 case rel => exact ⟨(y107), (ji9), (by first | rfl | (simp; done) | (simp only [← hji9] <;> (first | rfl | simp)) | (simp [*]; done)), H', ⟨zq41 HK1 HK2⟩, ⟨zq2 HQ20⟩, ⟨by repeat (first | (with_reducible first | exact HK.out | apply Kept.alloc | apply Kept.drewN | apply Kept.drew | refine Kept.setCell ?_ HMgo14.out _ | refine Kept.setCell ?_ HMgo14.out _) | exact HK.out)⟩, ⟨by repeat (first | (with_reducible first | exact HB.out | apply zba | apply zbn | apply zbd | refine zae ?_ GB14.out | refine zae ?_ GB14.out) | exact HB.out)⟩⟩
mutual
def zao : Nat → List Int → Int → Int → Int → Int → List (List Int) → Option (List Int)
 | 0, _, _, _, _, _, _ => none
 | k + 1, x0, x1, x6, x7, x8, x800 => if x8 ≤ x1 then ((zak k x0 x7 x8 x800).bind fun t101 => (zao k t101 x1 x6 x8 (wrap64 (x8 + x6)) x800)) else ((zak k x0 x7 x1 x800).bind fun t102 => (zap k t102 x1 x6))
def zap : Nat → List Int → Int → Int → Option (List Int)
 | 0, _, _, _ => none
 | k + 1, x0, x1, x6 => if x6 < x1 then (za0 k x0 x1 x6 0 (wrap64 (2 * x6))) else (some x0)
def za0 : Nat → List Int → Int → Int → Int → Int → Option (List Int)
 | 0, _, _, _, _, _ => none
 | k + 1, x0, x1, x6, x7, x8 => if x8 ≤ x1 then (none) else (if (wrap64 (x7 + x6)) < x1 then (none) else (zap k x0 x1 (wrap64 (x6 * 2))))
end
def za4 (k : Nat) (l0 : List Int) (a1 : Int) (l2_0 : List (List Int)) : Option (List Int) := zao k l0 a1 20 0 20 l2_0
theorem zfb : ∀ k, (∀ y0 y1 y2 y3 y4 y5, LeO (zao k y0 y1 y2 y3 y4 y5) (zao (k + 1) y0 y1 y2 y3 y4 y5)) ∧ (∀ y0 y1 y2, LeO (zap k y0 y1 y2) (zap (k + 1) y0 y1 y2)) ∧ (∀ y0 y1 y2 y3 y4, LeO (za0 k y0 y1 y2 y3 y4) (za0 (k + 1) y0 y1 y2 y3 y4))
 | 0 => ⟨fun _ _ _ _ _ _ r h => by simp [zao] at h, fun _ _ _ r h => by simp [zap] at h, fun _ _ _ _ _ r h => by simp [za0] at h⟩
 | k + 1 => by
   obtain ⟨ih0, ih1, ih2⟩ := zfb k
   refine ⟨?_, ?_, ?_⟩
   · intro y0 y1 y2 y3 y4 y5
     unfold zao
     exact zm4 ih0 ih1 ih2 zb3
   · intro y0 y1 y2
     unfold zap
     exact zm4 ih0 ih1 ih2 zb3
   · intro y0 y1 y2 y3 y4
     unfold za0
     exact zm4 ih0 ih1 ih2 zb3
theorem zim : ∀ a0 a1 a2 k, LeO (za4 k a0 a1 a2) (za4 (k + 1) a0 a1 a2) := by
 intro a0 a1 a2 k
 obtain ⟨ih0, ih1, ih2⟩ := zfb k
 unfold za4
 exact zm4 ih0 ih1 ih2 zb3
theorem zic (k : Nat) (P0_ : Nat → Prop) (u9000_ : Value) (l0 : List Int) (a1 : Int) (A2_0 : Option Addr) (c2_0 : Nat) (l2_0 : List (List Int)) (r : List Int) (w0 w : World) (hB : Below w0.heap.size w0 w) (ho0 : Kd.R (Kd.int .i64) 3 w w0.heap.size P0_ u9000_ l0) (hr2_0 : ∀ W_, Kept w W_ (fun k_ => P0_ k_) → Kd.C (Kd.slice 3 (Kd.int .i64)) W_ A2_0 l2_0.length l2_0) (hc2_0 : l2_0.length ≤ c2_0) (h : za4 k l0 a1 l2_0 = some r) :
   Calls Tryz.prog 119 #[u9000_, .int .i64 a1, .func (Fn.func 72) #[] #[.pointer A2_0]] w fun e w' => e = .returned (.tuple #[]) ∧ Kd.R (Kd.int .i64) 3 w' w0.heap.size (fun k_ => (P0_ k_ ∨ w.heap.size ≤ k_)) u9000_ r ∧ Below w0.heap.size w0 w' ∧ Kept w w' (fun k_ => P0_ k_) := by
 have HO0 := zA (show Kd.R (Kd.int .i64) 3 w w0.heap.size (fun k_ => (P0_ k_ ∨ w.heap.size ≤ k_)) u9000_ l0 from Kd.R_mono ho0 (fun k_ hk => (.inl hk)))
 have HR2_0 := zA hr2_0
 have HC2_0 := zA hc2_0
 clear hr2_0 hc2_0
 have HK := zA (Kept.refl w (fun k_ => P0_ k_))
 have HW0 := zA hB.size
 have HB := zA hB
 clear hB
 have H := h
 unfold za4 at H
 clear h
 have H' := zA H
 clear H
 go_enter Tryz.func119, Tryz.ntmps119
 go_wp2
 (try simp only [Act.put, List.setIfInBounds_toArray, List.set_cons_zero, List.set_cons_succ])
 go_loopg [7, 8] k (fun kq v7 v8 w' => ∃ (x0_1 : List Int) (x7_1 : Int) (x8_1 : Int), v7 = .int .i64 x7_1 ∧ v8 = .int .i64 x8_1 ∧ Aside0 (zao kq x0_1 a1 20 x7_1 x8_1 l2_0 = some r) ∧ Aside0 (kq ≤ k) ∧ Aside0 (Kd.R (Kd.int .i64) 3 w' w0.heap.size (fun k_ => (P0_ k_ ∨ w.heap.size ≤ k_)) u9000_ x0_1) ∧ Aside0 (Kept w w' (fun k_ => P0_ k_)) ∧ Aside0 (Below w0.heap.size w0 w'))
 case atStart => exact ⟨(l0), (0), (20), zq7, zq7, H', ⟨zlr _⟩, ⟨zq2 HO0⟩, ⟨zq16⟩, ⟨zq1⟩⟩
 clear H'
 obtain ⟨x0_1, x7_1, x8_1, rfl, rfl, HA, HK1, HO_0, HK, HB⟩ := hrel
 cases gk with
 | zero => exact absurd HA.out (by simp [zao])
 | succ k1 =>
 have H := HA.out
 clear HA
 simp only [zao] at H
 revert H
 refine zit (fun c4b0 H => ?_) fun c4b0 H => ?_
 · replace H := zob H
   obtain ⟨t101, A50, H⟩ := H
   have A5 := zA A50
   clear A50
   have H' := zA H
   clear H
   obtain ⟨Ao6, co6, eo6⟩ := Kd.R_slice HO_0.out
   subst eo6
   go_wp2_with (first | ((with_reducible refine zgc 141 ?_); refine zca 18 Tryz.func141 #[.slice Ao6 x0_1.length co6, .int .i64 x7_1, .int .i64 x8_1, .func (Fn.func 72) #[] #[.pointer A2_0]] (zei k1 (fun k_ => some k_ = (.slice Ao6 x0_1.length co6 : Value).ownBlock) (.slice Ao6 x0_1.length co6) x0_1 x7_1 x8_1 _ c2_0 l2_0 t101 w0 _ zq1 (zq80 HO_0) (by exact Kd.C_kept_call HR2_0.out zq16 (fun k_ hs_ => (fun e_ => (HO_0.out.1 k_ e_.symm)) hs_)) HC2_0.out A5.out) ?_; rintro e w7 ⟨rfl, hy0, hb, hkp⟩; refine ⟨_, rfl, ?_⟩; replace HK := zA (Kept.then_ (S := (fun k_ => P0_ k_)) zq16 hkp (fun k_ hs_ => (fun e_ => (HO_0.out.1 k_ e_.symm)) hs_)); replace HO_0 := zA (Kd.R_reok rfl hy0 (fun k_ e_ => HO_0.out.1 k_ e_)); replace HB := zA (hb); (try clear hb); (try clear hkp); (try clear hy0)))
   go_roundg k1
   case measure => have := HK1.out; omega
   case rel => exact ⟨(t101), (x8_1), (wrap64 (x8_1 + 20)), zq7, zq7, H', ⟨zq51 HK1⟩, ⟨zq2 HO_0⟩, ⟨zq16⟩, ⟨zq1⟩⟩
 replace H := zob H
 obtain ⟨t102, A80, H⟩ := H
 have A8 := zA A80
 clear A80
 have H' := zA H
 clear H
 obtain ⟨Ao9, co9, eo9⟩ := Kd.R_slice HO_0.out
 subst eo9
 go_wp2_with (first | ((with_reducible refine zgc 141 ?_); refine zca 27 Tryz.func141 #[.slice Ao9 x0_1.length co9, .int .i64 x7_1, .int .i64 a1, .func (Fn.func 72) #[] #[.pointer A2_0]] (zei k1 (fun k_ => some k_ = (.slice Ao9 x0_1.length co9 : Value).ownBlock) (.slice Ao9 x0_1.length co9) x0_1 x7_1 a1 _ c2_0 l2_0 t102 w0 _ zq1 (zq80 HO_0) (by exact Kd.C_kept_call HR2_0.out zq16 (fun k_ hs_ => (fun e_ => (HO_0.out.1 k_ e_.symm)) hs_)) HC2_0.out A8.out) ?_; rintro e w10 ⟨rfl, hy0, hb, hkp⟩; refine ⟨_, rfl, ?_⟩; replace HK := zA (Kept.then_ (S := (fun k_ => P0_ k_)) zq16 hkp (fun k_ hs_ => (fun e_ => (HO_0.out.1 k_ e_.symm)) hs_)); replace HO_0 := zA (Kd.R_reok rfl hy0 (fun k_ e_ => HO_0.out.1 k_ e_)); replace HB := zA (hb); (try clear hb); (try clear hkp); (try clear hy0)))
 (try simp only [Act.put, List.setIfInBounds_toArray, List.set_cons_zero, List.set_cons_succ])
 go_loopg [6] k1 (fun kq v6 w' => ∃ (x6_2 : Int), v6 = .int .i64 x6_2 ∧ Aside0 (zap kq t102 a1 x6_2 = some r) ∧ Aside0 (kq ≤ k1) ∧ Aside0 (Kd.R (Kd.int .i64) 3 w' w0.heap.size (fun k_ => (P0_ k_ ∨ w.heap.size ≤ k_)) (.slice Ao9 x0_1.length co9) t102) ∧ Aside0 (Kept w w' (fun k_ => P0_ k_)) ∧ Aside0 (Below w0.heap.size w0 w'))
 case atStart => exact ⟨(20), zq7, H', ⟨zlr _⟩, ⟨zq2 HO_0⟩, ⟨zq16⟩, ⟨zq1⟩⟩
 clear H'
 obtain ⟨x6_2, rfl, HA, HK2, HO_0, HK, HB⟩ := hrel
 have hl0_2 := (zRr HO_0.out).1
 rw [hl0_2] at HO_0
 (try simp only [hl0_2])
 cases gk with
 | zero => exact absurd HA.out (by simp [zap])
 | succ k2 =>
 have H := HA.out
 clear HA
 simp only [zap] at H
 revert H
 refine zit (fun c11 H => ?_) fun c11 H => ?_
 rotate_left
 · obtain rfl := zsi H
   go_wp2
   first | go_end0 | ((try simp only [Exit.inBlock, Exit.then]); refine bodyPost_ret (results_none rfl _ _ _) rfl ?_)
   exact ⟨zq5, (by first | exact (zq2 HO_0) | (simp only [hl0_2]; exact (zq2 HO_0))), zq1, zq16⟩
 have H' := zA H
 clear H
 go_wp2
 (try simp only [Act.put, List.setIfInBounds_toArray, List.set_cons_zero, List.set_cons_succ])
 go_loopg [7, 8] k2 (fun kq v7 v8 w' => ∃ (x7_3 : Int) (x8_3 : Int), v7 = .int .i64 x7_3 ∧ v8 = .int .i64 x8_3 ∧ Aside0 (za0 kq t102 a1 x6_2 x7_3 x8_3 = some r) ∧ Aside0 (kq ≤ k2) ∧ Aside0 (Kd.R (Kd.int .i64) 3 w' w0.heap.size (fun k_ => (P0_ k_ ∨ w.heap.size ≤ k_)) (.slice Ao9 t102.length co9) t102) ∧ Aside0 (Kept w w' (fun k_ => P0_ k_)) ∧ Aside0 (Below w0.heap.size w0 w'))
 case atStart => exact ⟨(0), (wrap64 (2 * x6_2)), zq7, zq7, H', ⟨zlr _⟩, ⟨by (try simp only [hl0_2]); (with_reducible repeat (first | apply zRa | apply zRn | apply zRd)); exact HO_0.out⟩, ⟨zq16⟩, ⟨zq1⟩⟩
 clear H'
 obtain ⟨x7_3, x8_3, rfl, rfl, HA, HK3, HO_0, HK, HB⟩ := hrel
 cases gk with
 | zero => exact absurd HA.out (by simp [za0])
 | succ k3 =>
 have H := HA.out
 clear HA
 simp only [za0] at H
 by_cases c12 : x8_3 ≤ a1
 · rw [if_pos c12] at H
   exact absurd H (by simp)
 rw [if_neg c12] at H
 have c12b0 := zdf c12
 clear c12
 by_cases c13 : (wrap64 (x7_3 + x6_2)) < a1
 · rw [if_pos c13] at H
   exact absurd H (by simp)
 rw [if_neg c13] at H
 have c13b0 := zdf c13
 clear c13
 have H' := zA H
 clear H
 go_wp2
 (try simp only [← hl0_2])
 go_roundg k3
 case measure => have := HK1.out; have := HK2.out; have := HK3.out; omega
 case rel => exact ⟨(wrap64 (x6_2 * 2)), zq7, H', ⟨zq40 HK1 HK2 HK3⟩, ⟨by (try simp only [hl0_2]); (with_reducible repeat (first | apply zRa | apply zRn | apply zRd)); exact HO_0.out⟩, ⟨zq16⟩, ⟨zq1⟩⟩
def za1 (k : Nat) (l0 : List Int) (l1_0 : List (List Int)) : Option (List Int) := (za4 k l0 (l0.length : Int) l1_0).bind fun t101 => (some t101)
theorem zid : ∀ a0 a1 k, LeO (za1 k a0 a1) (za1 (k + 1) a0 a1) := by
 intro a0 a1 k
 unfold za1
 exact zm1 zim
theorem zfc (k : Nat) (P0_ : Nat → Prop) (u9000_ : Value) (l0 : List Int) (A1_0 : Option Addr) (c1_0 : Nat) (l1_0 : List (List Int)) (r : List Int) (w0 w : World) (hB : Below w0.heap.size w0 w) (ho0 : Kd.R (Kd.int .i64) 3 w w0.heap.size P0_ u9000_ l0) (hr1_0 : ∀ W_, Kept w W_ (fun k_ => P0_ k_) → Kd.C (Kd.slice 3 (Kd.int .i64)) W_ A1_0 l1_0.length l1_0) (hc1_0 : l1_0.length ≤ c1_0) (h : za1 k l0 l1_0 = some r) :
   Calls Tryz.prog 71 #[u9000_, .func (Fn.func 72) #[] #[.pointer A1_0]] w fun e w' => e = .returned (.tuple #[]) ∧ Kd.R (Kd.int .i64) 3 w' w0.heap.size (fun k_ => (P0_ k_ ∨ w.heap.size ≤ k_)) u9000_ r ∧ Below w0.heap.size w0 w' ∧ Kept w w' (fun k_ => P0_ k_) := by
 have HO0 := zA (show Kd.R (Kd.int .i64) 3 w w0.heap.size (fun k_ => (P0_ k_ ∨ w.heap.size ≤ k_)) u9000_ l0 from Kd.R_mono ho0 (fun k_ hk => (.inl hk)))
 have HR1_0 := zA hr1_0
 have HC1_0 := zA hc1_0
 clear hr1_0 hc1_0
 have HK := zA (Kept.refl w (fun k_ => P0_ k_))
 have HW0 := zA hB.size
 have HB := zA hB
 clear hB
 have H := h
 unfold za1 at H
 clear h
 replace H := zob H
 obtain ⟨t101, A30, H⟩ := H
 have A3 := zA A30
 clear A30
 obtain rfl := zsi H
 obtain ⟨Ao4, co4, eo4⟩ := Kd.R_slice HO0.out
 subst eo4
 go_enter Tryz.func71, Tryz.ntmps71
 go_wp2_with (first | ((with_reducible refine zgc 119 ?_); refine zca 8 Tryz.func119 #[.slice Ao4 l0.length co4, .int .i64 (l0.length : Int), .func (Fn.func 72) #[] #[.pointer A1_0]] (zic k (fun k_ => some k_ = (.slice Ao4 l0.length co4 : Value).ownBlock) (.slice Ao4 l0.length co4) l0 (l0.length : Int) _ c1_0 l1_0 t101 w0 _ zq1 (zq80 HO0) (by exact Kd.C_kept_call HR1_0.out zq16 (fun k_ hs_ => (fun e_ => (HO0.out.1 k_ e_.symm)) hs_)) HC1_0.out A3.out) ?_; rintro e w5 ⟨rfl, hy0, hb, hkp⟩; refine ⟨_, rfl, ?_⟩; replace HK := zA (Kept.then_ (S := (fun k_ => P0_ k_)) zq16 hkp (fun k_ hs_ => (fun e_ => (HO0.out.1 k_ e_.symm)) hs_)); replace HO0 := zA (Kd.R_reok rfl hy0 (fun k_ e_ => HO0.out.1 k_ e_)); replace HB := zA (hb); (try clear hb); (try clear hkp); (try clear hy0)))
 first | go_end0 | ((try simp only [Exit.inBlock, Exit.then]); refine bodyPost_ret (results_none rfl _ _ _) rfl ?_)
 exact ⟨zq5, zq2 HO0, zq1, zq16⟩
def zdj (k : Nat) (l0 : List (S55)) (l1 : List Int) : Option (List Int × Bool) := (ze5 k l0 l1).bind fun t102 => (if t102 = true then ((zjz k true (l0.length : Int)).bind fun t103 => ((za1 k t103 [l1]).bind fun t106 => (some (t106, true)))) else (some (([] : List Int), false)))
theorem zuh : ∀ a0 a1 k, LeO (zdj k a0 a1) (zdj (k + 1) a0 a1) := by
 intro a0 a1 k
 unfold zdj
 exact zm3 zk9 zug zid
theorem zki (k : Nat) (A0 : Option Addr) (c0 : Nat) (l0 : List (S55)) (A1 : Option Addr) (c1 : Nat) (l1 : List Int) (r1 : List Int) (r2 : Bool) (w : World) (hr0 : Kd.C k55 w A0 l0.length l0) (hc0 : l0.length ≤ c0) (hr1 : Kd.C (Kd.int .i64) w A1 l1.length l1) (hc1 : l1.length ≤ c1) (h : zdj k l0 l1 = some (r1, r2)) :
   Calls Tryz.prog 29 #[.slice A0 l0.length c0, .slice A1 l1.length c1] w fun e w' => ∃ v0_ : Value, e = .returned (.tuple #[v0_, .bool r2]) ∧ Kd.R (Kd.int .i64) 3 w' w.heap.size (fun _ => True) v0_ r1 ∧ Below w.heap.size w w' := by
 have HR0 := zA hr0
 have HC0 := zA hc0
 clear hr0 hc0
 have HR1 := zA hr1
 have HC1 := zA hc1
 clear hr1 hc1
 have HB := zA (Below.refl w.heap.size w)
 have H := h
 unfold zdj at H
 clear h
 replace H := zob H
 obtain ⟨t102, A30, H⟩ := H
 have A3 := zA A30
 clear A30
 by_cases c4 : t102 = true
 rotate_left
 · replace c4 := zbf c4
   subst c4
   replace H := zif H
   simp only [Option.some.injEq, Prod.mk.injEq] at H
   obtain ⟨rfl, rfl⟩ := H
   go_enter Tryz.func29, Tryz.ntmps29
   go_wp2_with (first | ((with_reducible refine zgd 3 ?_); refine zbh zq1 #[.slice A1 l1.length c1] 25 ?_; clear HB; intro gb101 w13 HB BK101 GW101; have GE101 := GW101; have hcz14_0 : w13.cell? ⟨gb101, 0, none⟩ = some (.slice A1 l1.length c1) := (zad BK101.out 0).trans rfl; have hfz14_0 := zaz BK101.out 0) | ((with_reducible refine zgc 68 ?_); refine zca 9 Tryz.func68 #[.slice A0 l0.length c0, .slice A1 l1.length c1] (zgi k _ _ l0 _ _ l1 false _ (zq21 HR0) HC0.out (zq21 HR1) HC1.out A3.out) ?_; rintro e w15 ⟨rfl, hb⟩; refine ⟨_, rfl, ?_⟩; replace BK101 := zbb BK101 hb; replace HB := zA (zab (zq10 GE101) hb); (try clear hb)))
   go_ret2
   exact ⟨_, zq5, zq25, zq10 GE101⟩
 subst c4
 replace H := zih H
 replace H := zob H
 obtain ⟨t103, A50, H⟩ := H
 have A5 := zA A50
 clear A50
 replace H := zob H
 obtain ⟨t106, A60, H⟩ := H
 have A6 := zA A60
 clear A60
 simp only [Option.some.injEq, Prod.mk.injEq] at H
 obtain ⟨rfl, rfl⟩ := H
 go_enter Tryz.func29, Tryz.ntmps29
 go_wp2_with (first | ((with_reducible refine zgd 3 ?_); refine zbh zq1 #[.slice A1 l1.length c1] 25 ?_; clear HB; intro gb101 w7 HB BK101 GW101; have GE101 := GW101; have hcz8_0 : w7.cell? ⟨gb101, 0, none⟩ = some (.slice A1 l1.length c1) := (zad BK101.out 0).trans rfl; have hfz8_0 := zaz BK101.out 0) | ((with_reducible refine zgc 68 ?_); refine zca 9 Tryz.func68 #[.slice A0 l0.length c0, .slice A1 l1.length c1] (zgi k _ _ l0 _ _ l1 true _ (zq21 HR0) HC0.out (zq21 HR1) HC1.out A3.out) ?_; rintro e w9 ⟨rfl, hb⟩; refine ⟨_, rfl, ?_⟩; replace BK101 := zbb BK101 hb; replace HB := zA (zab (zq10 GE101) hb); (try clear hb)) | ((with_reducible refine zgc 63 ?_); refine zcl 13 Tryz.func63 (zts k true (l0.length : Int) t103 _ A5.out) ?_; rintro e w10 ⟨v104, rfl, ho0, hb⟩; refine ⟨_, rfl, ?_⟩; have HO105 := zA (Kd.R_lower ho0 (zaj (zq10 GE101))); replace BK101 := zbb BK101 hb; replace HB := zA (zab (zq10 GE101) hb); (try clear hb); (try clear ho0); obtain ⟨Ao11, co11, eo11⟩ := Kd.R_slice HO105.out; subst eo11) | ((with_reducible refine zgc 71 ?_); refine zca 16 Tryz.func71 #[.slice Ao11 t103.length co11, .func (Fn.func 72) #[] #[.pointer (some ⟨gb101, 0, none⟩)]] (zfc k (fun k_ => some k_ = (.slice Ao11 t103.length co11 : Value).ownBlock) (.slice Ao11 t103.length co11) t103 _ 1 [l1] t106 w _ (zq10 GE101) (zq80 HO105) (by exact Kd.C_kept_came (Kd.heap_slice 3 (Kd.heap_int .i64)) rvbox.out (zq10 GE101) (fun k_ hs_ => (fun e_ => Kd.R_base HO105.out k_ e_.symm) hs_)) (by exact zlr _) A6.out) ?_; rintro e w12 ⟨rfl, hy0, hb, hkp⟩; refine ⟨_, rfl, ?_⟩; replace BK101 := zA (zi0 (zq8 BK101) hkp (fun hs_ => (fun e_ => (Kd.R_ne HO105.out BK101.out (by decide)) e_) hs_)); replace HO105 := zA (Kd.R_reok rfl hy0 (fun k_ e_ => HO105.out.1 k_ e_)); replace HB := zA (hb); (try clear hb); (try clear hkp); (try clear hy0)))
 (with_reducible refine (zfc k (fun k_ => some k_ = (.slice Ao11 t103.length co11 : Value).ownBlock) (.slice Ao11 t103.length co11) t103 _ 1 [l1] t106 w _ ?side1 ?side2 ?side3 ?side4 A6.out).mono ?_); (case side1 => repeat (first | (with_reducible first | exact HB.out | apply zba | apply zbn | apply zbd | refine zae ?_ GE101.out) | exact HB.out)); (case side2 => exact Kd.R_tight rfl HO105.out); (case side3 => exact fun W' hk' => zue (g := gb101) (o := .cells #[.slice A1 l1.length c1] 25 (0, 0)) (zi0 BK101.out hk' (fun hs_ => (fun e_ => (Kd.R_ne HO105.out BK101.out (by decide)) e_) hs_)) rfl ⟨_, _, rfl, HC1.out, Kd.C_kept_came (Kd.heap_int .i64) HR1.out HB.out (fun k_ hs_ => (fun e_ => Kd.R_base HO105.out k_ e_.symm) hs_) W' hk'⟩); (case side4 => exact zlr _); rintro e w12 ⟨rfl, hy0, hb, hkp⟩; have n0_ := zA (zi0 (zq8 BK101) hkp (fun hs_ => (fun e_ => (Kd.R_ne HO105.out BK101.out (by decide)) e_) hs_)); have n1_ := zA (Kd.R_reok rfl hy0 (fun k_ e_ => HO105.out.1 k_ e_)); have n2_ := zA (hb); clear BK101 HO105 HB; have BK101 := n0_; have HO105 := n1_; have HB := n2_; clear n0_ n1_ n2_; (try clear hb); (try clear hkp); (try clear hy0)
 go_wp2_with fail
 go_ret2
 exact ⟨_, zq5, zq2 HO105, zq10 GE101⟩
def zcb : Nat → List Int → Int → Int → Option (Int)
 | 0, _, _, _ => none
 | k + 1, x0, x3, x4 => if x4 < (x0.length : Int) then (if 0 ≤ x4 then (zcb k x0 (mx x3 (rd x0 x4)) (wrap64 (x4 + 1))) else (none)) else (some x3)
def zer (k : Nat) (l0 : List Int) : Option (Int) := if (l0.length : Int) < 1 then (none) else (if 0 < (l0.length : Int) then (zcb k l0 (rd l0 0) 1) else (none))
theorem zks : ∀ k, (∀ y0 y1 y2, LeO (zcb k y0 y1 y2) (zcb (k + 1) y0 y1 y2))
 | 0 => fun _ _ _ r h => by simp [zcb] at h
 | k + 1 => by
   have ih0 := zks k
   · intro y0 y1 y2
     unfold zcb
     exact zm1 ih0
theorem zoy : ∀ a0 k, LeO (zer k a0) (zer (k + 1) a0) := by
 intro a0 k
 have ih0 := zks k
 unfold zer
 exact zm1 ih0
theorem zon (k : Nat) (A0 : Option Addr) (c0 : Nat) (l0 : List Int) (r : Int) (w : World) (hr0 : Kd.C (Kd.int .i64) w A0 l0.length l0) (hc0 : l0.length ≤ c0) (h : zer k l0 = some r) :
   Calls Tryz.prog 74 #[.slice A0 l0.length c0] w fun e w' => e = .returned (.int .i64 r) ∧ Below w.heap.size w w' := by
 have HR0 := zA hr0
 have HC0 := zA hc0
 clear hr0 hc0
 have HB := zA (Below.refl w.heap.size w)
 have H := h
 unfold zer at H
 clear h
 by_cases c2 : (l0.length : Int) < 1
 · rw [if_pos c2] at H
   exact absurd H (by simp)
 rw [if_neg c2] at H
 have c2b0 := zdf c2
 have c2b1 : decide (l0.length < 1) = false := zdf (by omega)
 clear c2
 by_cases c3 : 0 < (l0.length : Int)
 rotate_left
 · rw [if_neg c3] at H
   exact absurd H (by simp)
 rw [if_pos c3] at H
 have c3b0 := zdt c3
 have c3b1 : decide (0 < l0.length) = true := zdt (by omega)
 clear c3
 have H' := zA H
 clear H
 have p101 : 0 ≤ (0 : Int) := (by omega)
 have q101 : 0 < (l0.length : Int) := zde zq20
 obtain ⟨ad101, e101, hx101_0⟩ := Kd.at_int HR0.out 0 p101 q101
 cases e101
 have qi101 : (0 < l0.length) = True := eq_true (by omega)
 (try rw [show ((0 : Int)).toNat = 0 from rfl] at hx101_0)
 (try rw [Addr.add_zero'] at hx101_0)
 replace p101 := eq_true p101
 replace q101 := eq_true q101
 go_enter Tryz.func74, Tryz.ntmps74
 go_wp2
 go_loopg [3, 4] k (fun kq v3 v4 w' => ∃ (x3_1 : Int) (x4_1 : Int), v3 = .int .i64 x3_1 ∧ v4 = .int .i64 x4_1 ∧ Aside0 (zcb kq l0 x3_1 x4_1 = some r) ∧ Aside0 (kq ≤ k) ∧ Aside0 (Below w.heap.size w w'))
 case atStart => exact ⟨(rd l0 0), (1), zq7, zq7, H', ⟨zlr _⟩, ⟨zq1⟩⟩
 clear H'
 obtain ⟨x3_1, x4_1, rfl, rfl, HA, HK1, HB⟩ := hrel
 cases gk with
 | zero => exact absurd HA.out (by simp [zcb])
 | succ k1 =>
 have H := HA.out
 clear HA
 simp only [zcb] at H
 revert H
 refine zit (fun c4 H => ?_) fun c4 H => ?_
 rotate_left
 · obtain rfl := zsi H
   go_wp2
   exact zr_2
 revert H
 refine zin fun c5 H => ?_
 obtain ⟨ji6, hji6⟩ : ∃ j_ : Int, (mx x3_1 (rd l0 x4_1)) = j_ := ⟨_, rfl⟩
 replace H : (zcb k1 l0 ji6 (wrap64 (x4_1 + 1))) = some r := by first | (rw [hji6] at H; exact H) | (simp only [hji6] at H ⊢; exact H)
 have hji6_ : (if x3_1 < (rd l0 x4_1) then (rd l0 x4_1) else x3_1) = ji6 := hji6
 have H' := zA H
 clear H
 obtain ⟨p102, q102⟩ := zpq x4_1 l0.length
 obtain ⟨ad102, e102, hx102_0⟩ := Kd.at_int HR0.out x4_1 (zoe p102) (zoe q102)
 obtain rfl : ad101 = ad102 := (by injection e102)
 replace hx102_0 := zkep HB.out hx102_0
 go_wp2
 go_roundg k1
 case measure => have := HK1.out; omega
 case rel => exact ⟨(ji6), (wrap64 (x4_1 + 1)), (by first | rfl | (simp; done) | (simp only [← hji6] <;> (first | rfl | simp)) | (simp [*]; done)), zq7, H', ⟨zq51 HK1⟩, ⟨zq1⟩⟩
def zgj (k : Nat) (l0 : List (S55)) : Option (Int × Bool) := (zdu k l0).bind fun t101 => (if t101 = true then ((zg7 k l0).bind fun t102 => (if t102.length < 17592186044416 then ((zer k (t102 ++ [0])).bind fun t108 => (some (t108, true))) else (none))) else (some (0, false)))
theorem zxq : ∀ a0 k, LeO (zgj k a0) (zgj (k + 1) a0) := by
 intro a0 k
 unfold zgj
 exact zm3 zh5 zcg zoy
theorem zqd (k : Nat) (A0 : Option Addr) (c0 : Nat) (l0 : List (S55)) (r1 : Int) (r2 : Bool) (w : World) (hr0 : Kd.C k55 w A0 l0.length l0) (hc0 : l0.length ≤ c0) (h : zgj k l0 = some (r1, r2)) :
   Calls Tryz.prog 31 #[.slice A0 l0.length c0] w fun e w' => e = .returned (.tuple #[.int .i64 r1, .bool r2]) ∧ Below w.heap.size w w' := by
 have HR0 := zA hr0
 have HC0 := zA hc0
 clear hr0 hc0
 have HB := zA (Below.refl w.heap.size w)
 have H := h
 unfold zgj at H
 clear h
 replace H := zob H
 obtain ⟨t101, A20, H⟩ := H
 have A2 := zA A20
 clear A20
 by_cases c3 : t101 = true
 rotate_left
 · replace c3 := zbf c3
   subst c3
   replace H := zif H
   simp only [Option.some.injEq, Prod.mk.injEq] at H
   obtain ⟨rfl, rfl⟩ := H
   go_enter Tryz.func31, Tryz.ntmps31
   go_wp2_with (first | ((with_reducible refine zgc 51 ?_); refine zca 5 Tryz.func51 #[.slice A0 l0.length c0] (zbc k _ _ l0 false _ (zq15 HR0) HC0.out A2.out) ?_; rintro e w12 ⟨rfl, hb⟩; refine ⟨_, rfl, ?_⟩; replace HB := zA (zab zq1 hb); (try clear hb)))
   go_ret2
   exact ⟨zq5, zq1⟩
 subst c3
 replace H := zih H
 replace H := zob H
 obtain ⟨t102, A40, H⟩ := H
 have A4 := zA A40
 clear A40
 by_cases c5 : t102.length < 17592186044416
 rotate_left
 · rw [if_neg c5] at H
   exact absurd H (by simp)
 rw [if_pos c5] at H
 have LMc5 := zA c5
 clear c5
 obtain ⟨y105, hy105⟩ : ∃ y_ : List Int, y_ = (t102 ++ [0]) := ⟨_, rfl⟩
 rw [← hy105] at H; try with_reducible replace H := zbs H
 have Ny105 := zA hy105
 clear hy105
 replace H := zob H
 obtain ⟨t108, A60, H⟩ := H
 have A6 := zA A60
 clear A60
 simp only [Option.some.injEq, Prod.mk.injEq] at H
 obtain ⟨rfl, rfl⟩ := H
 go_enter Tryz.func31, Tryz.ntmps31
 go_wp2_with (first | ((with_reducible refine zgc 51 ?_); refine zca 5 Tryz.func51 #[.slice A0 l0.length c0] (zbc k _ _ l0 true _ (zq15 HR0) HC0.out A2.out) ?_; rintro e w7 ⟨rfl, hb⟩; refine ⟨_, rfl, ?_⟩; replace HB := zA (zab zq1 hb); (try clear hb)) | ((with_reducible refine zgc 75 ?_); refine zca 8 Tryz.func75 #[.slice A0 l0.length c0] (zn2 k _ _ l0 t102 _ (zq21 HR0) HC0.out A4.out) ?_; rintro e w8 ⟨v103, rfl, ho0, hb⟩; refine ⟨_, rfl, ?_⟩; have HO104 := zA (Kd.R_lower ho0 (zaj zq1)); replace HB := zA (zab zq1 hb); (try clear hb); (try clear ho0)) | ((with_reducible refine zci (b := .append) (xs := #[.tmp 8, .tmp 9]) rfl ?_); at_builtin; refine Kd.R_append (Kd.int .i64) (w0 := w) w.heap.size rfl (.tmp 8) (.tmp 9) 25 3 (.int .i64 0) 8 rfl Tryz.underlying25 zja rfl (by decide) (by omega) v103 t102 0 [.int .i64 0] (fun _ => True) (fun _ => False) rfl rfl ?aP (fun _ hk => hk.elim) ?aF ?aO ?aB ?aS ?aL ?_; (case aP => exact rfl); (case aB => exact zq1); (case aF => exact (fun _ _ => trivial)); (case aO => exact (zq2 HO104)); (case aS => exact (zaj zq1)); (case aL => have := LMc5.out; omega); intro v106 w9 ho hb hg hat; rw [← Ny105.out] at ho; replace HB := zA (hb); have HO107 := zA (ho); clear HO104; clear ho hb hg hat; obtain ⟨Ao10, co10, eo10⟩ := Kd.R_slice HO107.out; subst eo10) | ((with_reducible refine zgc 74 ?_); refine zca 11 Tryz.func74 #[.slice Ao10 y105.length co10] (zon k _ _ y105 t108 _ (zq19 HO107) (zq48 HO107) A6.out) ?_; rintro e w11 ⟨rfl, hb⟩; refine ⟨_, rfl, ?_⟩; replace HO107 := zA (zRb (zq2 HO107) hb); replace HB := zA (zab zq1 hb); (try clear hb)))
 go_ret2
 exact ⟨zq5, zq1⟩
mutual
def zd3 : Nat → List (S55) → Int → Bool → Option (Int × Bool)
 | 0, _, _, _ => none
 | k + 1, x0, x1, x21 => if x21 = true then (some (0, false)) else ((zf4 k x0).bind fun t103 => (zcv k x0 x1 0 t103 t103 (t103.length : Int) 0))
def zcv : Nat → List (S55) → Int → Int → List Int → List Int → Int → Int → Option (Int × Bool)
 | 0, _, _, _, _, _, _, _ => none
 | k + 1, x0, x1, x6, x7, x24, x25, x26 => if x26 < x25 then (if 0 ≤ x26 then (if x26 < (x24.length : Int) then (zcw k x0 x1 x6 x7 (rd x24 x26) 0 100 x24 x25 x26 x0 (x0.length : Int) 0) else (none)) else (none)) else (some (x6, true))
def zcw : Nat → List (S55) → Int → Int → List Int → Int → Int → Int → List Int → Int → Int → List (S55) → Int → Int → Option (Int × Bool)
 | 0, _, _, _, _, _, _, _, _, _, _, _, _, _ => none
 | k + 1, x0, x1, x6, x7, x9, x10, x11, x24, x25, x26, x30, x31, x32 => if x32 < x31 then (if 0 ≤ x32 then (if x32 < (x30.length : Int) then (if x32 < (x7.length : Int) then (if (rd x7 x32) ≥ x9 then ((zem ((zaa x30 x32).f0) ((zaa x30 x32).f1) ((zaa x30 x32).f2) ((zaa x30 x32).f3) ((zaa x30 x32).f4)).bind fun t110 => (zcw k x0 x1 x6 x7 x9 (wrap64 (x10 + 1)) (mn x11 t110) x24 x25 x26 x30 x31 (wrap64 (x32 + 1)))) else (zcw k x0 x1 x6 x7 x9 x10 x11 x24 x25 x26 x30 x31 (wrap64 (x32 + 1)))) else (none)) else (none)) else (none)) else (if x1 = 0 then (none) else (zcv k x0 x1 (mx x6 (wrap64 ((wrap64 ((wrap64 (x9 + (wrap64 (Int.tdiv (wrap64 ((wrap64 (x10 + x1)) - 1)) x1)))) + x11)) - 1))) x7 x24 x25 (wrap64 (x26 + 1))))
end
def zfr (k : Nat) (l0 : List (S55)) (a1 : Int) : Option (Int × Bool) := (zdu k l0).bind fun t101 => (if t101 = true then ((zf8 a1).bind fun t102 => (zd3 k l0 a1 (!t102))) else (zd3 k l0 a1 true))
theorem zmh : ∀ k, (∀ y0 y1 y2, LeO (zd3 k y0 y1 y2) (zd3 (k + 1) y0 y1 y2)) ∧ (∀ y0 y1 y2 y3 y4 y5 y6, LeO (zcv k y0 y1 y2 y3 y4 y5 y6) (zcv (k + 1) y0 y1 y2 y3 y4 y5 y6)) ∧ (∀ y0 y1 y2 y3 y4 y5 y6 y7 y8 y9 y10 y11 y12, LeO (zcw k y0 y1 y2 y3 y4 y5 y6 y7 y8 y9 y10 y11 y12) (zcw (k + 1) y0 y1 y2 y3 y4 y5 y6 y7 y8 y9 y10 y11 y12))
 | 0 => ⟨fun _ _ _ r h => by simp [zd3] at h, fun _ _ _ _ _ _ _ r h => by simp [zcv] at h, fun _ _ _ _ _ _ _ _ _ _ _ _ _ r h => by simp [zcw] at h⟩
 | k + 1 => by
   obtain ⟨ih0, ih1, ih2⟩ := zmh k
   refine ⟨?_, ?_, ?_⟩
   · intro y0 y1 y2
     unfold zd3
     exact zm5 ih0 ih1 ih2 zij zcg
   · intro y0 y1 y2 y3 y4 y5 y6
     unfold zcv
     exact zm5 ih0 ih1 ih2 zij zcg
   · intro y0 y1 y2 y3 y4 y5 y6 y7 y8 y9 y10 y11 y12
     unfold zcw
     exact zm5 ih0 ih1 ih2 zij zcg
theorem zxr : ∀ a0 a1 k, LeO (zfr k a0 a1) (zfr (k + 1) a0 a1) := by
 intro a0 a1 k
 obtain ⟨ih0, ih1, ih2⟩ := zmh k
 unfold zfr
 exact zm5 ih0 ih1 ih2 zij zcg
theorem zmu (k : Nat) (A0 : Option Addr) (c0 : Nat) (l0 : List (S55)) (a1 : Int) (r1 : Int) (r2 : Bool) (w : World) (hr0 : Kd.C k55 w A0 l0.length l0) (hc0 : l0.length ≤ c0) (h : zfr k l0 a1 = some (r1, r2)) :
   Calls Tryz.prog 32 #[.slice A0 l0.length c0, .int .i64 a1] w fun e w' => e = .returned (.tuple #[.int .i64 r1, .bool r2]) ∧ Below w.heap.size w w' := by
 have hu55 := Tryz.underlying55
 have HR0 := zA hr0
 have HC0 := zA hc0
 clear hr0 hc0
 have HB := zA (Below.refl w.heap.size w)
 have H := h
 unfold zfr at H
 clear h
 have HC3 := zA H
 clear H
 go_enter Tryz.func32, Tryz.ntmps32
 go_upto_region 1 with (fail)
 go_cut [21] (fun v21 wc => ∃ (kq : Nat) (x21_2 : Bool), v21 = .bool x21_2 ∧ Aside0 (zd3 kq l0 a1 x21_2 = some (r1, r2)) ∧ Aside0 (kq ≤ k) ∧ Aside0 (Below w.heap.size w wc))
 case first =>
   have H := HC3.out
   clear HC3
   replace H := zob H
   obtain ⟨t101, A40, H⟩ := H
   have A4 := zA A40
   clear A40
   by_cases c5 : t101 = true
   rotate_left
   · replace c5 := zbf c5
     subst c5
     replace H := zif H
     have H' := zA H
     clear H
     go_wp2_with (first | ((with_reducible refine zgc 51 ?_); refine zca 15 Tryz.func51 #[.slice A0 l0.length c0] (zbc k _ _ l0 false _ (zq21 HR0) HC0.out A4.out) ?_; rintro e w8 ⟨rfl, hb⟩; refine ⟨_, rfl, ?_⟩; replace HB := zA (zab zq1 hb); (try clear hb)))
     go_meet
     case rel => exact ⟨_, (true), zq7, H', ⟨zq42⟩, ⟨zq1⟩⟩
   subst c5
   replace H := zih H
   replace H := zob H
   obtain ⟨t102, A60, H⟩ := H
   have A6 := zA A60
   clear A60
   have H' := zA H
   clear H
   go_wp2_with (first | ((with_reducible refine zgc 51 ?_); refine zca 15 Tryz.func51 #[.slice A0 l0.length c0] (zbc k _ _ l0 true _ (zq21 HR0) HC0.out A4.out) ?_; rintro e w7 ⟨rfl, hb⟩; refine ⟨_, rfl, ?_⟩; replace HB := zA (zab zq1 hb); (try clear hb)) | (go_at_call 67; (with_reducible refine (zh4 a1 t102 _ A6.out).mono ?_); rintro e w' ⟨rfl, ⟨nd, rfl⟩⟩))
   go_meet
   case rel => exact ⟨_, (!t102), zq7, H', ⟨zq42⟩, ⟨zq1⟩⟩
 clear HC3
 obtain ⟨kq, x21_2, rfl, HA, HJ2, HB⟩ := hcut
 cases kq with
 | zero => exact absurd HA.out (by simp [zd3])
 | succ kj2 =>
 have H := HA.out
 clear HA
 simp only [zd3] at H
 by_cases c9 : x21_2 = true
 · subst c9
   replace H := zih H
   simp only [Option.some.injEq, Prod.mk.injEq] at H
   obtain ⟨rfl, rfl⟩ := H
   go_wp2
   go_ret2
   exact ⟨zq5, zq1⟩
 replace c9 := zbf c9
 subst c9
 replace H := zif H
 replace H := zob H
 obtain ⟨t103, A100, H⟩ := H
 have A10 := zA A100
 clear A100
 have H' := zA H
 clear H
 go_wp2_with (first | ((with_reducible refine zgc 76 ?_); refine zca 23 Tryz.func76 #[.slice A0 l0.length c0] (znb kj2 _ _ l0 t103 _ (zq21 HR0) HC0.out A10.out) ?_; rintro e w11 ⟨v104, rfl, ho0, hb⟩; refine ⟨_, rfl, ?_⟩; have HO105 := zA (Kd.R_lower ho0 (zaj zq1)); replace HB := zA (zab zq1 hb); (try clear hb); (try clear ho0); obtain ⟨Ao12, co12, eo12⟩ := Kd.R_slice HO105.out; subst eo12))
 go_loopg [6, 26] kj2 (fun kq v6 v26 w' => ∃ (x6_2 : Int) (x26_2 : Int), v6 = .int .i64 x6_2 ∧ v26 = .int .i64 x26_2 ∧ Aside0 (zcv kq l0 a1 x6_2 t103 t103 (t103.length : Int) x26_2 = some (r1, r2)) ∧ Aside0 (kq ≤ kj2) ∧ Aside0 (Kd.R (Kd.int .i64) 3 w' w.heap.size (fun _ => True) (.slice Ao12 t103.length co12) t103) ∧ Aside0 (Kd.R (Kd.int .i64) 3 w' w.heap.size (fun _ => True) (.slice Ao12 t103.length co12) t103) ∧ Aside0 (Below w.heap.size w w'))
 case atStart => exact ⟨(0), (0), zq7, zq7, H', ⟨zlr _⟩, ⟨zq2 HO105⟩, ⟨zq2 HO105⟩, ⟨zq1⟩⟩
 clear H'
 obtain ⟨x6_2, x26_2, rfl, rfl, HA, HK2, HO_7, HO_24, HB⟩ := hrel
 cases gk with
 | zero => exact absurd HA.out (by simp [zcv])
 | succ k2 =>
 have H := HA.out
 clear HA
 simp only [zcv] at H
 revert H
 refine zit (fun c13 H => ?_) fun c13 H => ?_
 rotate_left
 · simp only [Option.some.injEq, Prod.mk.injEq] at H
   obtain ⟨rfl, rfl⟩ := H
   go_wp2
   go_ret2
   exact ⟨zq5, zq1⟩
 revert H
 refine zin fun c14 H => ?_
 revert H
 refine zin fun c15 H => ?_
 have H' := zA H
 clear H
 obtain ⟨p106, q106⟩ := zpq x26_2 t103.length
 obtain ⟨ad106, e106, hx106_0⟩ := Kd.at_int (zRr HO_24.out).2.2 x26_2 (zoe p106) (zoe q106)
 cases e106
 go_wp2
 go_loopg [10, 11, 32] k2 (fun kq v10 v11 v32 w' => ∃ (x10_3 : Int) (x11_3 : Int) (x32_3 : Int), v10 = .int .i64 x10_3 ∧ v11 = .int .i64 x11_3 ∧ v32 = .int .i64 x32_3 ∧ Aside0 (zcw kq l0 a1 x6_2 t103 (rd t103 x26_2) x10_3 x11_3 t103 (t103.length : Int) x26_2 l0 (l0.length : Int) x32_3 = some (r1, r2)) ∧ Aside0 (kq ≤ k2) ∧ Aside0 (Kd.R (Kd.int .i64) 3 w' w.heap.size (fun _ => True) (.slice (some ad106) t103.length co12) t103) ∧ Aside0 (Kd.R (Kd.int .i64) 3 w' w.heap.size (fun _ => True) (.slice (some ad106) t103.length co12) t103) ∧ Aside0 (Below w.heap.size w w'))
 case atStart => exact ⟨(0), (100), (0), zq7, zq7, zq7, H', ⟨zlr _⟩, ⟨zq2 HO_7⟩, ⟨zq2 HO_24⟩, ⟨zq1⟩⟩
 clear H'
 obtain ⟨x10_3, x11_3, x32_3, rfl, rfl, rfl, HA, HK3, HO_7, HO_24, HB⟩ := hrel
 cases gk with
 | zero => exact absurd HA.out (by simp [zcw])
 | succ k3 =>
 have H := HA.out
 clear HA
 simp only [zcw] at H
 revert H
 refine zit (fun c16 H => ?_) fun c16 H => ?_
 rotate_left
 · by_cases c28 : a1 = 0
   · rw [if_pos c28] at H
     exact absurd H (by simp)
   rw [if_neg c28] at H
   obtain ⟨c28b0, c28b1⟩ := zbq c28
   obtain ⟨ji29, hji29⟩ : ∃ j_ : Int, (mx x6_2 (wrap64 ((wrap64 ((wrap64 ((rd t103 x26_2) + (wrap64 (Int.tdiv (wrap64 ((wrap64 (x10_3 + a1)) - 1)) a1)))) + x11_3)) - 1))) = j_ := ⟨_, rfl⟩
   replace H : (zcv k3 l0 a1 ji29 t103 t103 (t103.length : Int) (wrap64 (x26_2 + 1))) = some (r1, r2) := by first | (rw [hji29] at H; exact H) | (simp only [hji29] at H ⊢; exact H)
   have hji29_ : (if x6_2 < (wrap64 ((wrap64 ((wrap64 ((rd t103 x26_2) + (wrap64 (Int.tdiv (wrap64 ((wrap64 (x10_3 + a1)) - 1)) a1)))) + x11_3)) - 1)) then (wrap64 ((wrap64 ((wrap64 ((rd t103 x26_2) + (wrap64 (Int.tdiv (wrap64 ((wrap64 (x10_3 + a1)) - 1)) a1)))) + x11_3)) - 1)) else x6_2) = ji29 := hji29
   have H' := zA H
   clear H
   go_wp2
   go_roundg k3
   case measure => have := HJ2.out; have := HK2.out; have := HK3.out; omega
   case rel => exact ⟨(ji29), (wrap64 (x26_2 + 1)), (by first | rfl | (simp; done) | (simp only [← hji29] <;> (first | rfl | simp)) | (simp [*]; done)), zq7, H', ⟨zq40 HJ2 HK2 HK3⟩, ⟨zq2 HO_7⟩, ⟨zq2 HO_24⟩, ⟨zq1⟩⟩
 revert H
 refine zin fun c17 H => ?_
 revert H
 refine zin fun c18 H => ?_
 revert H
 refine zin fun c19 H => ?_
 by_cases c20 : (rd t103 x32_3) ≥ (rd t103 x26_2)
 rotate_left
 · rw [if_neg c20] at H
   have c20b0 := zdf c20
   clear c20
   have H' := zA H
   clear H
   obtain ⟨p107, q107⟩ := zpq x32_3 l0.length
   obtain ⟨ad107, e107, hx107_0, hx107_1, hx107_2, hx107_3, hx107_4⟩ := zld HR0.out x32_3 (zoe p107) (zoe q107)
   cases e107
   replace hx107_0 := zkep HB.out hx107_0
   replace hx107_1 := zkep HB.out hx107_1
   replace hx107_2 := zkep HB.out hx107_2
   replace hx107_3 := zkep HB.out hx107_3
   replace hx107_4 := zkep HB.out hx107_4
   go_wp2_with (first | ((with_reducible refine zgd 13 ?_); refine zbx #[.string (⟨#[]⟩ : ByteArray), .int .i64 0, .int .i64 0, .int .i64 0, .int .i64 0] 55 ?_; intro gb108 hg w26 hbox hb; have zs := zpair zq1 hb; replace HO_7 := zA (zRb (zq2 HO_7) hb); replace HO_24 := zA (zRb (zq2 HO_24) hb); replace HB := zA (zs.1); have BK108 := zA (hbox); have GW108 := zA (zge hg zs.2); have GE108 := GW108; clear zs hb hbox hg; obtain ⟨hcz27_0, hcz27_1, hcz27_2, hcz27_3, hcz27_4, hfz27_0, hfz27_1, hfz27_2, hfz27_3, hfz27_4⟩ := zd5 BK108; have p109 : 0 ≤ (x32_3 : Int) := zde zq20; have q109 : x32_3 < (t103.length : Int) := zde zq20; obtain ⟨ad109, e109, hx109_0⟩ := Kd.at_int (zRr HO_7.out).2.2 x32_3 p109 q109; obtain rfl : ad106 = ad109 := (by injection e109); have hn109_0 : ad106.block ≠ gb108 := Kd.own_blk (Kd.R_ne HO_7.out BK108.out (by decide)); have hn109_1 : ad106.block ≠ gb108 := Kd.own_blk (Kd.R_ne HO_7.out BK108.out (by decide)); have hn109_2 : ad106.block ≠ gb108 := Kd.own_blk (Kd.R_ne HO_7.out BK108.out (by decide)); have hn109_3 : ad106.block ≠ gb108 := Kd.own_blk (Kd.R_ne HO_7.out BK108.out (by decide)); have hn109_4 : ad106.block ≠ gb108 := Kd.own_blk (Kd.R_ne HO_7.out BK108.out (by decide)); replace hx109_0 := (zah (p := ⟨gb108, 0, none⟩) zq82 (.string ((zaa l0 x32_3).f0))).trans hx109_0; replace hx109_0 := (zah (p := ⟨gb108, 1, none⟩) zq83 (.int .i64 ((zaa l0 x32_3).f1))).trans hx109_0; replace hx109_0 := (zah (p := ⟨gb108, 2, none⟩) zq84 (.int .i64 ((zaa l0 x32_3).f2))).trans hx109_0; replace hx109_0 := (zah (p := ⟨gb108, 3, none⟩) zq85 (.int .i64 ((zaa l0 x32_3).f3))).trans hx109_0; replace hx109_0 := (zah (p := ⟨gb108, 4, none⟩) zq86 (.int .i64 ((zaa l0 x32_3).f4))).trans hx109_0; clear hn109_0; clear hn109_1; clear hn109_2; clear hn109_3; clear hn109_4; replace p109 := eq_true p109; replace q109 := eq_true q109))
   go_roundg k3
   case measure => have := HJ2.out; have := HK2.out; have := HK3.out; omega
   case rel => exact ⟨(x10_3), (x11_3), (wrap64 (x32_3 + 1)), zq7, zq7, zq7, H', ⟨zq40 HJ2 HK2 HK3⟩, ⟨zq43 HO_7 BK108⟩, ⟨zq43 HO_24 BK108⟩, ⟨zq10 GE108⟩⟩
 rw [if_pos c20] at H
 have c20b0 := zdt c20
 clear c20
 replace H := zob H
 obtain ⟨t110, A210, H⟩ := H
 have A21 := zA A210
 clear A210
 obtain ⟨ji22, hji22⟩ : ∃ j_ : Int, (mn x11_3 t110) = j_ := ⟨_, rfl⟩
 replace H : (zcw k3 l0 a1 x6_2 t103 (rd t103 x26_2) (wrap64 (x10_3 + 1)) ji22 t103 (t103.length : Int) x26_2 l0 (l0.length : Int) (wrap64 (x32_3 + 1))) = some (r1, r2) := by first | (rw [hji22] at H; exact H) | (simp only [hji22] at H ⊢; exact H)
 (try rw [hji22] at A21)
 have hji22_ : (if t110 < x11_3 then t110 else x11_3) = ji22 := hji22
 have H' := zA H
 clear H
 obtain ⟨p107, q107⟩ := zpq x32_3 l0.length
 obtain ⟨ad107, e107, hx107_0, hx107_1, hx107_2, hx107_3, hx107_4⟩ := zld HR0.out x32_3 (zoe p107) (zoe q107)
 cases e107
 replace hx107_0 := zkep HB.out hx107_0
 replace hx107_1 := zkep HB.out hx107_1
 replace hx107_2 := zkep HB.out hx107_2
 replace hx107_3 := zkep HB.out hx107_3
 replace hx107_4 := zkep HB.out hx107_4
 go_wp2_with (first | ((with_reducible refine zgd 13 ?_); refine zbx #[.string (⟨#[]⟩ : ByteArray), .int .i64 0, .int .i64 0, .int .i64 0, .int .i64 0] 55 ?_; intro gb108 hg w23 hbox hb; have zs := zpair zq1 hb; replace HO_7 := zA (zRb (zq2 HO_7) hb); replace HO_24 := zA (zRb (zq2 HO_24) hb); replace HB := zA (zs.1); have BK108 := zA (hbox); have GW108 := zA (zge hg zs.2); have GE108 := GW108; clear zs hb hbox hg; obtain ⟨hcz24_0, hcz24_1, hcz24_2, hcz24_3, hcz24_4, hfz24_0, hfz24_1, hfz24_2, hfz24_3, hfz24_4⟩ := zd5 BK108; have p109 : 0 ≤ (x32_3 : Int) := zde zq20; have q109 : x32_3 < (t103.length : Int) := zde zq20; obtain ⟨ad109, e109, hx109_0⟩ := Kd.at_int (zRr HO_7.out).2.2 x32_3 p109 q109; obtain rfl : ad106 = ad109 := (by injection e109); have hn109_0 : ad106.block ≠ gb108 := Kd.own_blk (Kd.R_ne HO_7.out BK108.out (by decide)); have hn109_1 : ad106.block ≠ gb108 := Kd.own_blk (Kd.R_ne HO_7.out BK108.out (by decide)); have hn109_2 : ad106.block ≠ gb108 := Kd.own_blk (Kd.R_ne HO_7.out BK108.out (by decide)); have hn109_3 : ad106.block ≠ gb108 := Kd.own_blk (Kd.R_ne HO_7.out BK108.out (by decide)); have hn109_4 : ad106.block ≠ gb108 := Kd.own_blk (Kd.R_ne HO_7.out BK108.out (by decide)); replace hx109_0 := (zah (p := ⟨gb108, 0, none⟩) zq82 (.string ((zaa l0 x32_3).f0))).trans hx109_0; replace hx109_0 := (zah (p := ⟨gb108, 1, none⟩) zq83 (.int .i64 ((zaa l0 x32_3).f1))).trans hx109_0; replace hx109_0 := (zah (p := ⟨gb108, 2, none⟩) zq84 (.int .i64 ((zaa l0 x32_3).f2))).trans hx109_0; replace hx109_0 := (zah (p := ⟨gb108, 3, none⟩) zq85 (.int .i64 ((zaa l0 x32_3).f3))).trans hx109_0; replace hx109_0 := (zah (p := ⟨gb108, 4, none⟩) zq86 (.int .i64 ((zaa l0 x32_3).f4))).trans hx109_0; clear hn109_0; clear hn109_1; clear hn109_2; clear hn109_3; clear hn109_4; replace p109 := eq_true p109; replace q109 := eq_true q109) | ((with_reducible refine zgc 77 ?_); refine zcl 47 Tryz.func77 (zii ((zaa l0 x32_3).f0) ((zaa l0 x32_3).f1) ((zaa l0 x32_3).f2) ((zaa l0 x32_3).f3) ((zaa l0 x32_3).f4) t110 _ A21.out) ?_; rintro e w25 ⟨rfl, hb⟩; refine ⟨_, rfl, ?_⟩; replace HO_7 := zA (zRb (zq44 HO_7 BK108) hb); replace HO_24 := zA (zRb (zq44 HO_24 BK108) hb); replace BK108 := zA (zar (g := gb108) (o := .cells #[.string ((zaa l0 x32_3).f0), .int .i64 ((zaa l0 x32_3).f1), .int .i64 ((zaa l0 x32_3).f2), .int .i64 ((zaa l0 x32_3).f3), .int .i64 ((zaa l0 x32_3).f4)] 55 (0, 0)) (by (with_reducible repeat (first | refine zkn ?_ _ | refine zkd ?_ | refine zka ?_ _)); refine za3 (cs := #[.string ((zaa l0 x32_3).f0), .int .i64 ((zaa l0 x32_3).f1), .int .i64 ((zaa l0 x32_3).f2), .int .i64 ((zaa l0 x32_3).f3), .int .i64 0]) ?_ 4 _ rfl; (with_reducible repeat (first | refine zkn ?_ _ | refine zkd ?_ | refine zka ?_ _)); refine za3 (cs := #[.string ((zaa l0 x32_3).f0), .int .i64 ((zaa l0 x32_3).f1), .int .i64 ((zaa l0 x32_3).f2), .int .i64 0, .int .i64 0]) ?_ 3 _ rfl; (with_reducible repeat (first | refine zkn ?_ _ | refine zkd ?_ | refine zka ?_ _)); refine za3 (cs := #[.string ((zaa l0 x32_3).f0), .int .i64 ((zaa l0 x32_3).f1), .int .i64 0, .int .i64 0, .int .i64 0]) ?_ 2 _ rfl; (with_reducible repeat (first | refine zkn ?_ _ | refine zkd ?_ | refine zka ?_ _)); refine za3 (cs := #[.string ((zaa l0 x32_3).f0), .int .i64 0, .int .i64 0, .int .i64 0, .int .i64 0]) ?_ 1 _ rfl; (with_reducible repeat (first | refine zkn ?_ _ | refine zkd ?_ | refine zka ?_ _)); refine za3 (cs := #[.string (⟨#[]⟩ : ByteArray), .int .i64 0, .int .i64 0, .int .i64 0, .int .i64 0]) ?_ 0 _ rfl; (with_reducible repeat (first | refine zkn ?_ _ | refine zkd ?_ | refine zka ?_ _)); exact BK108.out) hb); replace HB := zA (zab (zq10 GE108) hb); (try clear hb); (try clear hk)))
 go_roundg k3
 case measure => have := HJ2.out; have := HK2.out; have := HK3.out; omega
 case rel => exact ⟨(wrap64 (x10_3 + 1)), (ji22), (wrap64 (x32_3 + 1)), zq7, (by first | rfl | (simp; done) | (simp only [← hji22] <;> (first | rfl | simp)) | (simp [*]; done)), zq7, H', ⟨zq40 HJ2 HK2 HK3⟩, ⟨zq2 HO_7⟩, ⟨zq2 HO_24⟩, ⟨zq10 GE108⟩⟩
def zm9 (l0 : List Int) (l1 : List Int) : Option (Bool) := if (l0.length : Int) > 1048576 then (some true) else (some (decide ((l1.length : Int) > (wrap64 (1048576 - (l0.length : Int))))))
theorem zqk (A0 : Option Addr) (c0 : Nat) (l0 : List Int) (A1 : Option Addr) (c1 : Nat) (l1 : List Int) (r : Bool) (w : World) (hr0 : Kd.C (Kd.int .u8) w A0 l0.length l0) (hc0 : l0.length ≤ c0) (hr1 : Kd.C (Kd.int .u8) w A1 l1.length l1) (hc1 : l1.length ≤ c1) (h : zm9 l0 l1 = some r) :
   Calls Tryz.prog 6 #[.slice A0 l0.length c0, .slice A1 l1.length c1] w fun e w' => e = .returned (.bool r) ∧ Drawn0 w w' := by
 have HR0 := zA hr0
 have HC0 := zA hc0
 clear hr0 hc0
 have HR1 := zA hr1
 have HC1 := zA hc1
 clear hr1 hc1
 have H := h
 unfold zm9 at H
 clear h
 by_cases c3 : (l0.length : Int) > 1048576
 · rw [if_pos c3] at H
   have c3b0 := zdt c3
   have c3b1 : decide (1048576 < l0.length) = true := zdt (by omega)
   clear c3
   obtain rfl := zsi H
   go_enter Tryz.func6, Tryz.ntmps6
   exact zr_5
 · rw [if_neg c3] at H
   have c3b0 := zdf c3
   have c3b1 : decide (1048576 < l0.length) = false := zdf (by omega)
   clear c3
   obtain rfl := zsi H
   go_enter Tryz.func6, Tryz.ntmps6
   exact zr_5
def zfs : Nat → List Int → List Int → Int → Int → Option (Bool)
 | 0, _, _, _, _ => none
 | k + 1, x0, x1, x12, x13 => if x13 < x12 then (if 0 ≤ x13 then (if x13 < (x0.length : Int) then (if x13 < (x1.length : Int) then (if (rd x0 x13) = (rd x1 x13) then (zfs k x0 x1 x12 (wrap64 (x13 + 1))) else (some false)) else (none)) else (none)) else (none)) else (some true)
def zhy (k : Nat) (l0 : List Int) (l1 : List Int) : Option (Bool) := if (l0.length : Int) = (l1.length : Int) then (zfs k l0 l1 (l0.length : Int) 0) else (some false)
theorem zoo : ∀ k, (∀ y0 y1 y2 y3, LeO (zfs k y0 y1 y2 y3) (zfs (k + 1) y0 y1 y2 y3))
 | 0 => fun _ _ _ _ r h => by simp [zfs] at h
 | k + 1 => by
   have ih0 := zoo k
   · intro y0 y1 y2 y3
     unfold zfs
     exact zm1 ih0
theorem zz4 : ∀ a0 a1 k, LeO (zhy k a0 a1) (zhy (k + 1) a0 a1) := by
 intro a0 a1 k
 have ih0 := zoo k
 unfold zhy
 exact zm1 ih0
theorem zpb (k : Nat) (A0 : Option Addr) (c0 : Nat) (l0 : List Int) (A1 : Option Addr) (c1 : Nat) (l1 : List Int) (r : Bool) (w : World) (hr0 : Kd.C (Kd.int .i64) w A0 l0.length l0) (hc0 : l0.length ≤ c0) (hr1 : Kd.C (Kd.int .i64) w A1 l1.length l1) (hc1 : l1.length ≤ c1) (h : zhy k l0 l1 = some r) :
   Calls Tryz.prog 14 #[.slice A0 l0.length c0, .slice A1 l1.length c1] w fun e w' => e = .returned (.bool r) ∧ Drawn0 w w' := by
 have HR0 := zA hr0
 have HC0 := zA hc0
 clear hr0 hc0
 have HR1 := zA hr1
 have HC1 := zA hc1
 clear hr1 hc1
 have H := h
 unfold zhy at H
 clear h
 by_cases c3 : (l0.length : Int) = (l1.length : Int)
 rotate_left
 · rw [if_neg c3] at H
   obtain ⟨c3b0, c3b1⟩ := zbq c3
   have c3b2 : (l0.length == l1.length) = false := by first | simpa using c3 | (simp at c3 ⊢; omega)
   obtain rfl := zsi H
   go_enter Tryz.func14, Tryz.ntmps14
   go_wp2
   repeat (go_quiet (fail); try go_wp2)
   exact zr_1
 rw [if_pos c3] at H
 obtain ⟨c3b0, c3b1⟩ := zbe c3
 have c3b2 : (l0.length == l1.length) = true := by first | simpa using c3 | (simp at c3 ⊢; omega)
 clear c3
 have H' := zA H
 clear H
 go_enter Tryz.func14, Tryz.ntmps14
 go_wp2
 repeat (go_quiet (fail); try go_wp2)
 go_loopg [13] k (fun kq v13 w' => ∃ (x13_1 : Int), v13 = .int .i64 x13_1 ∧ Aside0 (zfs kq l0 l1 (l0.length : Int) x13_1 = some r) ∧ Aside0 (kq ≤ k) ∧ Drawn0 w w')
 case atStart => exact ⟨(0), zq7, H', ⟨zlr _⟩, zq13⟩
 clear H'
 obtain ⟨x13_1, rfl, HA, HK1, ⟨m1, rfl⟩⟩ := hrel
 cases gk with
 | zero => exact absurd HA.out (by simp [zfs])
 | succ k1 =>
 have H := HA.out
 clear HA
 simp only [zfs] at H
 revert H
 refine zit (fun c4 H => ?_) fun c4 H => ?_
 rotate_left
 · obtain rfl := zsi H
   go_wp2
   repeat (go_quiet (fail); try go_wp2)
   exact zr_1
 revert H
 refine zin fun c5 H => ?_
 revert H
 refine zin fun c6 H => ?_
 revert H
 refine zin fun c7 H => ?_
 by_cases c8 : (rd l0 x13_1) = (rd l1 x13_1)
 rotate_left
 · rw [if_neg c8] at H
   obtain ⟨c8b0, c8b1⟩ := zbq c8
   obtain rfl := zsi H
   obtain ⟨p101, q101⟩ := zpq x13_1 l0.length
   obtain ⟨ad101, e101, hx101_0⟩ := Kd.at_int HR0.out x13_1 (zoe p101) (zoe q101)
   cases e101
   obtain ⟨p102, q102⟩ := zpq x13_1 l1.length
   obtain ⟨ad102, e102, hx102_0⟩ := Kd.at_int HR1.out x13_1 (zoe p102) (zoe q102)
   cases e102
   go_wp2
   repeat (go_quiet (fail); try go_wp2)
   exact zr_1
 rw [if_pos c8] at H
 obtain ⟨c8b0, c8b1⟩ := zbe c8
 clear c8
 have H' := zA H
 clear H
 obtain ⟨p101, q101⟩ := zpq x13_1 l0.length
 obtain ⟨ad101, e101, hx101_0⟩ := Kd.at_int HR0.out x13_1 (zoe p101) (zoe q101)
 cases e101
 obtain ⟨p102, q102⟩ := zpq x13_1 l1.length
 obtain ⟨ad102, e102, hx102_0⟩ := Kd.at_int HR1.out x13_1 (zoe p102) (zoe q102)
 cases e102
 go_wp2
 repeat (go_quiet (fail); try go_wp2)
 go_roundg k1
 case measure => have := HK1.out; omega
 case rel => exact ⟨(wrap64 (x13_1 + 1)), zq7, H', ⟨zq51 HK1⟩, zq13⟩
def IsS63 (w0 W : World) (g : Nat) (f0 : List Int) (f1 : Int) (f2 : Int) : Prop := ∃ A0 c0, W.heap[g]? = some (.cells #[.slice A0 f0.length c0, .int .i64 f1, .int .u64 f2] 63 (0, 0)) ∧ w0.heap.size ≤ g ∧ Kd.C (Kd.int .u8) w0 A0 f0.length f0
theorem IsS63.grown {w0 W : World} {g : Nat} {f0 : List Int} {f1 : Int} {f2 : Int} {W1 : World} {row : Option Nat} (h : IsS63 w0 W g f0 f1 f2) (hw : W.grownBy W1 row) (hne : some g ≠ row) : IsS63 w0 W1 g f0 f1 f2 := by
 obtain ⟨A0, c0, hb, hg, hr0⟩ := h
 exact ⟨A0, c0, zhp hb hw hne, hg, hr0⟩
theorem IsS63.kept {w0 W : World} {g : Nat} {f0 : List Int} {f1 : Int} {f2 : Int} {W1 : World} {S : Nat → Prop} (h : IsS63 w0 W g f0 f1 f2) (hk : Kept W W1 S) (hne : ¬ S g) : IsS63 w0 W1 g f0 f1 f2 := by
 obtain ⟨A0, c0, hb, hg, hr0⟩ := h
 exact ⟨A0, c0, zi0 hb hk hne, hg, hr0⟩
theorem IsS63.below {w0 W : World} {g : Nat} {f0 : List Int} {f1 : Int} {f2 : Int} {W1 : World} (h : IsS63 w0 W g f0 f1 f2) (hw : Below W.heap.size W W1) : IsS63 w0 W1 g f0 f1 f2 := h.grown (zoi hw none) (by simp)
theorem IsS63.alloc {w0 W : World} {g : Nat} {f0 : List Int} {f1 : Int} {f2 : Int} (h : IsS63 w0 W g f0 f1 f2) (o : Obj) : IsS63 w0 (W.alloc o) g f0 f1 f2 := h.below (zba (Below.refl _ _) o)
theorem IsS63.drewN {w0 W : World} {g : Nat} {f0 : List Int} {f1 : Int} {f2 : Int} (h : IsS63 w0 W g f0 f1 f2) (m : Nat) : IsS63 w0 (W.drewN m) g f0 f1 f2 := h
theorem IsS63.drew {w0 W : World} {g : Nat} {f0 : List Int} {f1 : Int} {f2 : Int} (h : IsS63 w0 W g f0 f1 f2) : IsS63 w0 W.drew g f0 f1 f2 := h
theorem IsS63.at_ {w0 W : World} {g : Nat} {f0 : List Int} {f1 : Int} {f2 : Int} {w' : World} {m : Nat} (hq : W.drewN m = w') (h : IsS63 w0 W g f0 f1 f2) : IsS63 w0 w' g f0 f1 f2 := by subst hq; exact IsS63.drewN h m
theorem IsS63.apart {w0 W : World} {g : Nat} {f0 : List Int} {f1 : Int} {f2 : Int} {α : Type} {d : Kd α} {e : Nat} {base : Nat} {ok : Nat → Prop} {v : Value} {xs : List α} (h : IsS63 w0 W g f0 f1 f2) (ho : d.R e W base ok v xs) (ht : ∀ q, q ∈ e :: d.E → q ≠ 63) : d.R e W base (fun k => ok k ∧ k ≠ g) v xs := by
 obtain ⟨A0, c0, hb, hg, hr0⟩ := h
 exact Kd.R_types ho hb ht
theorem zi8 {w0 W : World} {g : Nat} {f0 : List Int} {f1 : Int} {f2 : Int} {α : Type} {d : Kd α} {e : Nat} {base : Nat} {ok : Nat → Prop} {v : Value} {xs : List α} (h : IsS63 w0 W g f0 f1 f2) (ho : d.R e W base ok v xs) (ht : e ≠ 63) : some g ≠ v.ownBlock := by
 obtain ⟨A0, c0, hb, hg, hr0⟩ := h
 exact Kd.R_ne ho hb ht
theorem zp7 {w0 W : World} {g : Nat} {f0 : List Int} {f1 : Int} {f2 : Int} (h : IsS63 w0 W g f0 f1 f2) : g < W.heap.size := by
 obtain ⟨A0, c0, hb, hg, hr0⟩ := h
 exact zix hb
theorem zrl {w0 W : World} {g : Nat} {f0 : List Int} {f1 : Int} {f2 : Int} (h : IsS63 w0 W g f0 f1 f2) : w0.heap.size ≤ g := by
 obtain ⟨A0, c0, hb, hg, hr0⟩ := h
 exact hg
theorem zfn {w0 W : World} {g : Nat} {f0 : List Int} {f1 : Int} {f2 : Int} {p : Addr} (h : IsS63 w0 W g f0 f1 f2) (hne : g ≠ p.block) (u : Value) : IsS63 w0 (W.setCell p u) g f0 f1 f2 := by
 obtain ⟨A0, c0, hb, hg, hr0⟩ := h
 exact ⟨A0, c0, za2 hb hne u, hg, hr0⟩
theorem zrm {W : World} {g : Nat} {A0 : Option Addr} {c0 : Nat} {f0 : List Int} {f1 : Int} {f2 : Int} (h : W.heap[g]? = some (.cells #[.slice A0 f0.length c0, .int .i64 f1, .int .u64 f2] 63 (0, 0))) : W.cell? ⟨g, 0, none⟩ = some (.slice A0 f0.length c0) := (zad h 0).trans rfl
theorem zrn {W : World} {g : Nat} {A0 : Option Addr} {c0 : Nat} {f0 : List Int} {f1 : Int} {f2 : Int} (h : W.heap[g]? = some (.cells #[.slice A0 f0.length c0, .int .i64 f1, .int .u64 f2] 63 (0, 0))) : W.cell? ⟨g, 1, none⟩ = some (.int .i64 f1) := (zad h 1).trans rfl
theorem zav {w0 W : World} {g : Nat} {f0 : List Int} {f1 : Int} {f2 : Int} (h : IsS63 w0 W g f0 f1 f2) (x : Int) : IsS63 w0 (W.setCell ⟨g, 1, none⟩ (.int .i64 x)) g f0 x f2 := by
 obtain ⟨A0, c0, hb, hg, hr0⟩ := h
 exact ⟨A0, c0, by simpa using zau hb 1 (.int .i64 x), hg, hr0⟩
theorem zro {W : World} {g : Nat} {A0 : Option Addr} {c0 : Nat} {f0 : List Int} {f1 : Int} {f2 : Int} (h : W.heap[g]? = some (.cells #[.slice A0 f0.length c0, .int .i64 f1, .int .u64 f2] 63 (0, 0))) : W.cell? ⟨g, 2, none⟩ = some (.int .u64 f2) := (zad h 2).trans rfl
theorem zaw {w0 W : World} {g : Nat} {f0 : List Int} {f1 : Int} {f2 : Int} (h : IsS63 w0 W g f0 f1 f2) (x : Int) : IsS63 w0 (W.setCell ⟨g, 2, none⟩ (.int .u64 x)) g f0 f1 x := by
 obtain ⟨A0, c0, hb, hg, hr0⟩ := h
 exact ⟨A0, c0, by simpa using zau hb 2 (.int .u64 x), hg, hr0⟩
def zh6 (s0_0 : List Int) (s0_1 : Int) (s0_2 : Int) : Option (Int × Int × Int) := if s0_1 < (s0_0.length : Int) then (if 0 ≤ s0_1 then (if (wrap64 (s0_1 + 1)) ≤ (s0_0.length : Int) then (some (wrap64 (rd s0_0 s0_1), wrap64 (s0_1 + 1), IntKind.u64.wrap ((IntKind.u64.wrap ((IntKind.u64.wrap (s0_2 * 6364136223846793005)) + (IntKind.u64.wrap (wrap64 (rd s0_0 s0_1))))) + 1442695040888963407))) else (some (wrap64 (Go.bits .and .u64 ((IntKind.u64.wrap ((IntKind.u64.wrap ((IntKind.u64.wrap (s0_2 * 6364136223846793005)) + (IntKind.u64.wrap (wrap64 (rd s0_0 s0_1))))) + 1442695040888963407)) / 1099511627776) 255), wrap64 (s0_1 + 1), IntKind.u64.wrap ((IntKind.u64.wrap ((IntKind.u64.wrap (s0_2 * 6364136223846793005)) + (IntKind.u64.wrap (wrap64 (rd s0_0 s0_1))))) + 1442695040888963407)))) else (none)) else (if (wrap64 (s0_1 + 1)) ≤ (s0_0.length : Int) then (some (0, wrap64 (s0_1 + 1), IntKind.u64.wrap ((IntKind.u64.wrap ((IntKind.u64.wrap (s0_2 * 6364136223846793005)))) + 1442695040888963407))) else (some (wrap64 (Go.bits .and .u64 ((IntKind.u64.wrap ((IntKind.u64.wrap ((IntKind.u64.wrap (s0_2 * 6364136223846793005)))) + 1442695040888963407)) / 1099511627776) 255), wrap64 (s0_1 + 1), IntKind.u64.wrap ((IntKind.u64.wrap ((IntKind.u64.wrap (s0_2 * 6364136223846793005)))) + 1442695040888963407))))
theorem zj0 (g : Nat) (s0_0 : List Int) (s0_1 : Int) (s0_2 : Int) (r1 : Int) (r2 : Int) (r3 : Int) (w0 w : World) (hI : IsS63 w0 w g s0_0 s0_1 s0_2) (hB : Below w0.heap.size w0 w) (h : zh6 s0_0 s0_1 s0_2 = some (r1, r2, r3)) :
   Calls Tryz.prog 129 #[.pointer (some ⟨g, 0, none⟩)] w fun e w' => e = .returned (.int .i64 r1) ∧ IsS63 w0 w' g s0_0 r2 r3 ∧ Below w0.heap.size w0 w' ∧ KeepBut w w' g none := by
 have HI0 := zA hI
 have HK := zA (KeepBut.refl w g none)
 have HL := zA hB.size
 clear hI
 have HW0 := zA hB.size
 have HB := zA hB
 clear hB
 have H := h
 unfold zh6 at H
 clear h
 revert H
 refine zit (fun c2 H => ?_) fun c2 H => ?_
 rotate_left
 · by_cases c7 : (wrap64 (s0_1 + 1)) ≤ (s0_0.length : Int)
   · rw [if_pos c7] at H
     have c7b0 := zdt c7
     clear c7
     simp only [Option.some.injEq, Prod.mk.injEq] at H
     obtain ⟨rfl, rfl, rfl⟩ := H
     obtain ⟨ASz8_0, cSz8_0, HGz8, hgz8, HSz8_0⟩ := HI0.out
     have hcz8_0 := zrm HGz8
     have hcz8_1 := zrn HGz8
     have hcz8_2 := zro HGz8
     have hfz8_1 := zaz HGz8 1
     have hfz8_2 := zaz HGz8 2
     clear HGz8 hgz8
     go_enter Tryz.func129, Tryz.ntmps129
     go_wp2
     repeat (go_quiet (fail); try go_wp2)
     exact zr_3
   rw [if_neg c7] at H
   have c7b0 := zdf c7
   clear c7
   simp only [Option.some.injEq, Prod.mk.injEq] at H
   obtain ⟨rfl, rfl, rfl⟩ := H
   obtain ⟨ASz9_0, cSz9_0, HGz9, hgz9, HSz9_0⟩ := HI0.out
   have hcz9_0 := zrm HGz9
   have hcz9_1 := zrn HGz9
   have hcz9_2 := zro HGz9
   have hfz9_1 := zaz HGz9 1
   have hfz9_2 := zaz HGz9 2
   clear HGz9 hgz9
   go_enter Tryz.func129, Tryz.ntmps129
   go_wp2
   repeat (go_quiet (fail); try go_wp2)
   exact zr_3
 revert H
 refine zin fun c3 H => ?_
 revert H
 refine zit (fun c4b0 H => ?_) fun c4b0 H => ?_
 · simp only [Option.some.injEq, Prod.mk.injEq] at H
   obtain ⟨rfl, rfl, rfl⟩ := H
   obtain ⟨ASz5_0, cSz5_0, HGz5, hgz5, HSz5_0⟩ := HI0.out
   have hcz5_0 := zrm HGz5
   have hcz5_1 := zrn HGz5
   have hcz5_2 := zro HGz5
   have hfz5_1 := zaz HGz5 1
   have hfz5_2 := zaz HGz5 2
   clear HGz5 hgz5
   obtain ⟨p101, q101⟩ := zpq s0_1 s0_0.length
   obtain ⟨ad101, e101, hx101_0⟩ := Kd.at_int HSz5_0 s0_1 (zoe p101) (zoe q101)
   cases e101
   replace hx101_0 := zkg HB.out hx101_0
   go_enter Tryz.func129, Tryz.ntmps129
   go_wp2
   repeat (go_quiet (fail); try go_wp2)
   exact zr_3
 simp only [Option.some.injEq, Prod.mk.injEq] at H
 obtain ⟨rfl, rfl, rfl⟩ := H
 obtain ⟨ASz6_0, cSz6_0, HGz6, hgz6, HSz6_0⟩ := HI0.out
 have hcz6_0 := zrm HGz6
 have hcz6_1 := zrn HGz6
 have hcz6_2 := zro HGz6
 have hfz6_1 := zaz HGz6 1
 have hfz6_2 := zaz HGz6 2
 clear HGz6 hgz6
 obtain ⟨p101, q101⟩ := zpq s0_1 s0_0.length
 obtain ⟨ad101, e101, hx101_0⟩ := Kd.at_int HSz6_0 s0_1 (zoe p101) (zoe q101)
 cases e101
 replace hx101_0 := zkg HB.out hx101_0
 go_enter Tryz.func129, Tryz.ntmps129
 go_wp2
 repeat (go_quiet (fail); try go_wp2)
 exact zr_3
def zj1 (a0 : Int) (a1 : Int) (a2 : Int) : Option (Bool) := if a0 ≥ a1 then (some (decide (a0 ≤ a2))) else (some false)
theorem zfo (a0 : Int) (a1 : Int) (a2 : Int) (r : Bool) (w : World) (h : zj1 a0 a1 a2 = some r) :
   Calls Tryz.prog 99 #[.int .i64 a0, .int .i64 a1, .int .i64 a2] w fun e w' => e = .returned (.bool r) ∧ Drawn0 w w' := by
 have H := h
 unfold zj1 at H
 clear h
 revert H
 refine zit (fun c4b0 H => ?_) fun c4b0 H => ?_
 · obtain rfl := zsi H
   go_enter Tryz.func99, Tryz.ntmps99
   exact zr_5
 · obtain rfl := zsi H
   go_enter Tryz.func99, Tryz.ntmps99
   exact zr_5
def zj2 (a0 : Int) : Option (Bool) := (zj1 a0 0 5).bind fun t101 => (some t101)
theorem za7 (a0 : Int) (r : Bool) (w : World) (h : zj2 a0 = some r) :
   Calls Tryz.prog 149 #[.int .i64 a0] w fun e w' => e = .returned (.bool r) ∧ Drawn0 w w' := by
 have H := h
 unfold zj2 at H
 clear h
 replace H := zob H
 obtain ⟨t101, A20, H⟩ := H
 have A2 := zA A20
 clear A20
 obtain rfl := zsi H
 go_enter Tryz.func149, Tryz.ntmps149
 go_wp2_with (first | ((with_reducible refine zgc 99 ?_); refine zcl 4 Tryz.func99 (zfo a0 0 5 t101 _ A2.out) ?_; rintro e w' ⟨rfl, ⟨nd, rfl⟩⟩; refine ⟨_, rfl, ?_⟩))
 exact zr_1
mutual
def ze0 : Nat → ByteArray → Bool → Option (Bool × Bool × Bool × Int × Int)
 | 0, _, _ => none
 | k + 1, x7, x10 => if x10 = true then (some (true, true, false, 0, 0)) else (if x7.toList = ([97, 100, 100] : List UInt8) then (zcm k x7 (x7.toList == ([97, 100, 100] : List UInt8))) else (if x7.toList = ([115, 117, 98] : List UInt8) then (zcm k x7 (x7.toList == ([115, 117, 98] : List UInt8))) else (if x7.toList = ([97, 110, 100] : List UInt8) then (zcm k x7 (x7.toList == ([97, 110, 100] : List UInt8))) else (if x7.toList = ([111, 114] : List UInt8) then (zcm k x7 (x7.toList == ([111, 114] : List UInt8))) else (if x7.toList = ([120, 111, 114] : List UInt8) then (zcm k x7 (x7.toList == ([120, 111, 114] : List UInt8))) else (if x7.toList = ([115, 104, 108] : List UInt8) then (zcm k x7 (x7.toList == ([115, 104, 108] : List UInt8))) else (if x7.toList = ([115, 104, 114] : List UInt8) then (zcm k x7 (x7.toList == ([115, 104, 114] : List UInt8))) else (if x7.toList = ([108, 101, 115, 115] : List UInt8) then (zcm k x7 (x7.toList == ([108, 101, 115, 115] : List UInt8))) else (if x7.toList = ([101, 113] : List UInt8) then (zcm k x7 (x7.toList == ([101, 113] : List UInt8))) else (zcm k x7 (x7.toList == ([109, 117, 108] : List UInt8))))))))))))
def zcm : Nat → ByteArray → Bool → Option (Bool × Bool × Bool × Int × Int)
 | 0, _, _ => none
 | k + 1, x7, x14 => if x14 = true then (some (true, true, true, 0, 0)) else (if x7.toList = ([97, 100, 100, 105] : List UInt8) then (ze1 k x7 (x7.toList == ([97, 100, 100, 105] : List UInt8))) else (if x7.toList = ([97, 110, 100, 105] : List UInt8) then (ze1 k x7 (x7.toList == ([97, 110, 100, 105] : List UInt8))) else (ze1 k x7 (x7.toList == ([120, 111, 114, 105] : List UInt8)))))
def ze1 : Nat → ByteArray → Bool → Option (Bool × Bool × Bool × Int × Int)
 | 0, _, _ => none
 | k + 1, x7, x25 => if x25 = true then (some (true, true, false, 0, 63)) else (if x7.toList = ([115, 104, 108, 105] : List UInt8) then (zfp k x7 (x7.toList == ([115, 104, 108, 105] : List UInt8))) else (zfp k x7 (x7.toList == ([115, 104, 114, 105] : List UInt8))))
def zfp : Nat → ByteArray → Bool → Option (Bool × Bool × Bool × Int × Int)
 | 0, _, _ => none
 | k + 1, x7, x29 => if x29 = true then (some (true, true, false, 1, 5)) else (if x7.toList = ([108, 101, 97] : List UInt8) then (some (true, true, true, 1, 3)) else (some (false, false, false, 0, 0)))
end
def ze6 (k : Nat) (a0 : ByteArray) : Option (Bool × Bool × Bool × Int × Int) := if a0.toList = ([115, 101, 116] : List UInt8) then (some (true, false, false, 0, 63)) else (if a0.toList = ([109, 111, 118] : List UInt8) then (ze0 k a0 (a0.toList == ([109, 111, 118] : List UInt8))) else (if a0.toList = ([110, 111, 116] : List UInt8) then (ze0 k a0 (a0.toList == ([110, 111, 116] : List UInt8))) else (ze0 k a0 (a0.toList == ([110, 101, 103] : List UInt8)))))
theorem zni : ∀ k, (∀ y0 y1, LeO (ze0 k y0 y1) (ze0 (k + 1) y0 y1)) ∧ (∀ y0 y1, LeO (zcm k y0 y1) (zcm (k + 1) y0 y1)) ∧ (∀ y0 y1, LeO (ze1 k y0 y1) (ze1 (k + 1) y0 y1)) ∧ (∀ y0 y1, LeO (zfp k y0 y1) (zfp (k + 1) y0 y1))
 | 0 => ⟨fun _ _ r h => by simp [ze0] at h, fun _ _ r h => by simp [zcm] at h, fun _ _ r h => by simp [ze1] at h, fun _ _ r h => by simp [zfp] at h⟩
 | k + 1 => by
   obtain ⟨ih0, ih1, ih2, ih3⟩ := zni k
   refine ⟨?_, ?_, ?_, ?_⟩
   · intro y0 y1
     unfold ze0
     exact zm4 ih0 ih1 ih2 ih3
   · intro y0 y1
     unfold zcm
     exact zm4 ih0 ih1 ih2 ih3
   · intro y0 y1
     unfold ze1
     exact zm4 ih0 ih1 ih2 ih3
   · intro y0 y1
     unfold zfp
     exact zm4 ih0 ih1 ih2 ih3
theorem zgx : ∀ a0 k, LeO (ze6 k a0) (ze6 (k + 1) a0) := by
 intro a0 k
 obtain ⟨ih0, ih1, ih2, ih3⟩ := zni k
 unfold ze6
 exact zm4 ih0 ih1 ih2 ih3
theorem zce (k : Nat) (a0 : ByteArray) (r1 : Bool) (r2 : Bool) (r3 : Bool) (r4 : Int) (r5 : Int) (w : World) (h : ze6 k a0 = some (r1, r2, r3, r4, r5)) :
   Calls Tryz.prog 148 #[.string a0] w fun e w' => e = .returned (.tuple #[.bool r1, .bool r2, .bool r3, .int .i64 r4, .int .i64 r5]) ∧ Drawn0 w w' := by
 have H := h
 unfold ze6 at H
 clear h
 by_cases c2 : a0.toList = ([115, 101, 116] : List UInt8)
 · rw [if_pos c2] at H
   obtain ⟨c2b0, c2b1⟩ := zbe c2
   clear c2
   simp only [Option.some.injEq, Prod.mk.injEq] at H
   obtain ⟨rfl, rfl, rfl, rfl, rfl⟩ := H
   go_enter Tryz.func148, Tryz.ntmps148
   go_wp2
   refine bodyPost_ret (zj6 (rs := [.tmp 2, .tmp 3, .tmp 4, .tmp 5, .tmp 6]) rfl (by simp) (.tmp (.tmp (.tmp (.tmp (.tmp .nil)))))) rfl ?_
   exact ⟨zq7, zq13⟩
 rw [if_neg c2] at H
 obtain ⟨c2b0, c2b1⟩ := zbq c2
 have HC3 := zA H
 clear H
 go_enter Tryz.func148, Tryz.ntmps148
 go_upto_if 10 with (fail)
 go_cut [10] (fun v10 wc => ∃ (kq : Nat) (x10_2 : Bool), v10 = .bool x10_2 ∧ Aside0 (ze0 kq a0 x10_2 = some (r1, r2, r3, r4, r5)) ∧ Aside0 (kq ≤ k) ∧ Drawn0 w wc)
 case first =>
   have H := HC3.out
   clear HC3
   by_cases c4 : a0.toList = ([109, 111, 118] : List UInt8)
   · rw [if_pos c4] at H
     obtain ⟨c4b0, c4b1⟩ := zbe c4
     clear c4
     (first | rw [c4b0] | (simp only [zia, ziz]; rw [c4b0]) | skip)
     have H' := zA H
     clear H
     go_wp2
     go_meet
     case rel => exact ⟨_, ((a0.toList == ([109, 111, 118] : List UInt8))), zq7, H', ⟨zq42⟩, zq13⟩
   rw [if_neg c4] at H
   obtain ⟨c4b0, c4b1⟩ := zbq c4
   (first | rw [c4b0] | (simp only [zia, ziz]; rw [c4b0]) | skip)
   by_cases c5 : a0.toList = ([110, 111, 116] : List UInt8)
   rotate_left
   · rw [if_neg c5] at H
     obtain ⟨c5b0, c5b1⟩ := zbq c5
     have H' := zA H
     clear H
     go_wp2
     go_meet
     case rel => exact ⟨_, ((a0.toList == ([110, 101, 103] : List UInt8))), zq7, H', ⟨zq42⟩, zq13⟩
   rw [if_pos c5] at H
   obtain ⟨c5b0, c5b1⟩ := zbe c5
   clear c5
   have H' := zA H
   clear H
   go_wp2
   go_meet
   case rel => exact ⟨_, ((a0.toList == ([110, 111, 116] : List UInt8))), zq7, H', ⟨zq42⟩, zq13⟩
 clear HC3
 obtain ⟨kq, x10_2, rfl, HA, HJ2, ⟨mc2, rfl⟩⟩ := hcut
 cases kq with
 | zero => exact absurd HA.out (by simp [ze0])
 | succ kj2 =>
 have H := HA.out
 clear HA
 simp only [ze0] at H
 by_cases c6 : x10_2 = true
 · subst c6
   replace H := zih H
   simp only [Option.some.injEq, Prod.mk.injEq] at H
   obtain ⟨rfl, rfl, rfl, rfl, rfl⟩ := H
   go_wp2
   refine bodyPost_ret (zj6 (rs := [.tmp 2, .tmp 3, .tmp 4, .tmp 5, .tmp 6]) rfl (by simp) (.tmp (.tmp (.tmp (.tmp (.tmp .nil)))))) rfl ?_
   exact ⟨zq7, zq13⟩
 replace c6 := zbf c6
 subst c6
 replace H := zif H
 have HC7 := zA H
 clear H
 go_upto_if 14 with (fail)
 go_cut [14] (fun v14 wc => ∃ (kq : Nat) (x14_6 : Bool), v14 = .bool x14_6 ∧ Aside0 (zcm kq a0 x14_6 = some (r1, r2, r3, r4, r5)) ∧ Aside0 (kq ≤ kj2) ∧ Drawn0 w wc)
 case first =>
   have H := HC7.out
   clear HC7
   by_cases c8 : a0.toList = ([97, 100, 100] : List UInt8)
   · rw [if_pos c8] at H
     obtain ⟨c8b0, c8b1⟩ := zbe c8
     clear c8
     (first | rw [c8b0] | (simp only [zia, ziz]; rw [c8b0]) | skip)
     have H' := zA H
     clear H
     go_wp2
     go_meet
     case rel => exact ⟨_, ((a0.toList == ([97, 100, 100] : List UInt8))), zq7, H', ⟨zq45 HJ2⟩, zq13⟩
   rw [if_neg c8] at H
   obtain ⟨c8b0, c8b1⟩ := zbq c8
   (first | rw [c8b0] | (simp only [zia, ziz]; rw [c8b0]) | skip)
   by_cases c9 : a0.toList = ([115, 117, 98] : List UInt8)
   · rw [if_pos c9] at H
     obtain ⟨c9b0, c9b1⟩ := zbe c9
     clear c9
     have H' := zA H
     clear H
     go_wp2
     go_meet
     case rel => exact ⟨_, ((a0.toList == ([115, 117, 98] : List UInt8))), zq7, H', ⟨zq45 HJ2⟩, zq13⟩
   rw [if_neg c9] at H
   obtain ⟨c9b0, c9b1⟩ := zbq c9
   by_cases c10 : a0.toList = ([97, 110, 100] : List UInt8)
   · rw [if_pos c10] at H
     obtain ⟨c10b0, c10b1⟩ := zbe c10
     clear c10
     have H' := zA H
     clear H
     go_wp2
     go_meet
     case rel => exact ⟨_, ((a0.toList == ([97, 110, 100] : List UInt8))), zq7, H', ⟨zq45 HJ2⟩, zq13⟩
   rw [if_neg c10] at H
   obtain ⟨c10b0, c10b1⟩ := zbq c10
   by_cases c11 : a0.toList = ([111, 114] : List UInt8)
   · rw [if_pos c11] at H
     obtain ⟨c11b0, c11b1⟩ := zbe c11
     clear c11
     have H' := zA H
     clear H
     go_wp2
     go_meet
     case rel => exact ⟨_, ((a0.toList == ([111, 114] : List UInt8))), zq7, H', ⟨zq45 HJ2⟩, zq13⟩
   rw [if_neg c11] at H
   obtain ⟨c11b0, c11b1⟩ := zbq c11
   by_cases c12 : a0.toList = ([120, 111, 114] : List UInt8)
   · rw [if_pos c12] at H
     obtain ⟨c12b0, c12b1⟩ := zbe c12
     clear c12
     have H' := zA H
     clear H
     go_wp2
     go_meet
     case rel => exact ⟨_, ((a0.toList == ([120, 111, 114] : List UInt8))), zq7, H', ⟨zq45 HJ2⟩, zq13⟩
   rw [if_neg c12] at H
   obtain ⟨c12b0, c12b1⟩ := zbq c12
   by_cases c13 : a0.toList = ([115, 104, 108] : List UInt8)
   · rw [if_pos c13] at H
     obtain ⟨c13b0, c13b1⟩ := zbe c13
     clear c13
     have H' := zA H
     clear H
     go_wp2
     go_meet
     case rel => exact ⟨_, ((a0.toList == ([115, 104, 108] : List UInt8))), zq7, H', ⟨zq45 HJ2⟩, zq13⟩
   rw [if_neg c13] at H
   obtain ⟨c13b0, c13b1⟩ := zbq c13
   by_cases c14 : a0.toList = ([115, 104, 114] : List UInt8)
   · rw [if_pos c14] at H
     obtain ⟨c14b0, c14b1⟩ := zbe c14
     clear c14
     have H' := zA H
     clear H
     go_wp2
     go_meet
     case rel => exact ⟨_, ((a0.toList == ([115, 104, 114] : List UInt8))), zq7, H', ⟨zq45 HJ2⟩, zq13⟩
   rw [if_neg c14] at H
   obtain ⟨c14b0, c14b1⟩ := zbq c14
   by_cases c15 : a0.toList = ([108, 101, 115, 115] : List UInt8)
   · rw [if_pos c15] at H
     obtain ⟨c15b0, c15b1⟩ := zbe c15
     clear c15
     have H' := zA H
     clear H
     go_wp2
     go_meet
     case rel => exact ⟨_, ((a0.toList == ([108, 101, 115, 115] : List UInt8))), zq7, H', ⟨zq45 HJ2⟩, zq13⟩
   rw [if_neg c15] at H
   obtain ⟨c15b0, c15b1⟩ := zbq c15
   by_cases c16 : a0.toList = ([101, 113] : List UInt8)
   rotate_left
   · rw [if_neg c16] at H
     obtain ⟨c16b0, c16b1⟩ := zbq c16
     have H' := zA H
     clear H
     go_wp2
     go_meet
     case rel => exact ⟨_, ((a0.toList == ([109, 117, 108] : List UInt8))), zq7, H', ⟨zq45 HJ2⟩, zq13⟩
   rw [if_pos c16] at H
   obtain ⟨c16b0, c16b1⟩ := zbe c16
   clear c16
   have H' := zA H
   clear H
   go_wp2
   go_meet
   case rel => exact ⟨_, ((a0.toList == ([101, 113] : List UInt8))), zq7, H', ⟨zq45 HJ2⟩, zq13⟩
 clear HC7
 obtain ⟨kq, x14_6, rfl, HA, HJ6, ⟨mc6, rfl⟩⟩ := hcut
 cases kq with
 | zero => exact absurd HA.out (by simp [zcm])
 | succ kj6 =>
 have H := HA.out
 clear HA
 simp only [zcm] at H
 by_cases c17 : x14_6 = true
 · subst c17
   replace H := zih H
   simp only [Option.some.injEq, Prod.mk.injEq] at H
   obtain ⟨rfl, rfl, rfl, rfl, rfl⟩ := H
   go_wp2
   refine bodyPost_ret (zj6 (rs := [.tmp 2, .tmp 3, .tmp 4, .tmp 5, .tmp 6]) rfl (by simp) (.tmp (.tmp (.tmp (.tmp (.tmp .nil)))))) rfl ?_
   exact ⟨zq7, zq13⟩
 replace c17 := zbf c17
 subst c17
 replace H := zif H
 have HC18 := zA H
 clear H
 go_upto_if 25 with (fail)
 go_cut [25] (fun v25 wc => ∃ (kq : Nat) (x25_17 : Bool), v25 = .bool x25_17 ∧ Aside0 (ze1 kq a0 x25_17 = some (r1, r2, r3, r4, r5)) ∧ Aside0 (kq ≤ kj6) ∧ Drawn0 w wc)
 case first =>
   have H := HC18.out
   clear HC18
   by_cases c19 : a0.toList = ([97, 100, 100, 105] : List UInt8)
   · rw [if_pos c19] at H
     obtain ⟨c19b0, c19b1⟩ := zbe c19
     clear c19
     (first | rw [c19b0] | (simp only [zia, ziz]; rw [c19b0]) | skip)
     have H' := zA H
     clear H
     go_wp2
     go_meet
     case rel => exact ⟨_, ((a0.toList == ([97, 100, 100, 105] : List UInt8))), zq7, H', ⟨zq61 HJ2 HJ6⟩, zq13⟩
   rw [if_neg c19] at H
   obtain ⟨c19b0, c19b1⟩ := zbq c19
   (first | rw [c19b0] | (simp only [zia, ziz]; rw [c19b0]) | skip)
   by_cases c20 : a0.toList = ([97, 110, 100, 105] : List UInt8)
   rotate_left
   · rw [if_neg c20] at H
     obtain ⟨c20b0, c20b1⟩ := zbq c20
     have H' := zA H
     clear H
     go_wp2
     go_meet
     case rel => exact ⟨_, ((a0.toList == ([120, 111, 114, 105] : List UInt8))), zq7, H', ⟨zq61 HJ2 HJ6⟩, zq13⟩
   rw [if_pos c20] at H
   obtain ⟨c20b0, c20b1⟩ := zbe c20
   clear c20
   have H' := zA H
   clear H
   go_wp2
   go_meet
   case rel => exact ⟨_, ((a0.toList == ([97, 110, 100, 105] : List UInt8))), zq7, H', ⟨zq61 HJ2 HJ6⟩, zq13⟩
 clear HC18
 obtain ⟨kq, x25_17, rfl, HA, HJ17, ⟨mc17, rfl⟩⟩ := hcut
 cases kq with
 | zero => exact absurd HA.out (by simp [ze1])
 | succ kj17 =>
 have H := HA.out
 clear HA
 simp only [ze1] at H
 by_cases c21 : x25_17 = true
 · subst c21
   replace H := zih H
   simp only [Option.some.injEq, Prod.mk.injEq] at H
   obtain ⟨rfl, rfl, rfl, rfl, rfl⟩ := H
   go_wp2
   refine bodyPost_ret (zj6 (rs := [.tmp 2, .tmp 3, .tmp 4, .tmp 5, .tmp 6]) rfl (by simp) (.tmp (.tmp (.tmp (.tmp (.tmp .nil)))))) rfl ?_
   exact ⟨zq7, zq13⟩
 replace c21 := zbf c21
 subst c21
 replace H := zif H
 have HC22 := zA H
 clear H
 go_upto_if 29 with (fail)
 go_cut [29] (fun v29 wc => ∃ (kq : Nat) (x29_21 : Bool), v29 = .bool x29_21 ∧ Aside0 (zfp kq a0 x29_21 = some (r1, r2, r3, r4, r5)) ∧ Aside0 (kq ≤ kj17) ∧ Drawn0 w wc)
 case first =>
   have H := HC22.out
   clear HC22
   by_cases c23 : a0.toList = ([115, 104, 108, 105] : List UInt8)
   rotate_left
   · rw [if_neg c23] at H
     obtain ⟨c23b0, c23b1⟩ := zbq c23
     (first | rw [c23b0] | (simp only [zia, ziz]; rw [c23b0]) | skip)
     have H' := zA H
     clear H
     go_wp2
     go_meet
     case rel => exact ⟨_, ((a0.toList == ([115, 104, 114, 105] : List UInt8))), zq7, H', ⟨by have := HJ2.out; have := HJ6.out; have := HJ17.out; first | omega | exact zlr _⟩, zq13⟩
   rw [if_pos c23] at H
   obtain ⟨c23b0, c23b1⟩ := zbe c23
   clear c23
   (first | rw [c23b0] | (simp only [zia, ziz]; rw [c23b0]) | skip)
   have H' := zA H
   clear H
   go_wp2
   go_meet
   case rel => exact ⟨_, ((a0.toList == ([115, 104, 108, 105] : List UInt8))), zq7, H', ⟨by have := HJ2.out; have := HJ6.out; have := HJ17.out; first | omega | exact zlr _⟩, zq13⟩
 clear HC22
 obtain ⟨kq, x29_21, rfl, HA, HJ21, ⟨mc21, rfl⟩⟩ := hcut
 cases kq with
 | zero => exact absurd HA.out (by simp [zfp])
 | succ kj21 =>
 have H := HA.out
 clear HA
 simp only [zfp] at H
 by_cases c24 : x29_21 = true
 · subst c24
   replace H := zih H
   simp only [Option.some.injEq, Prod.mk.injEq] at H
   obtain ⟨rfl, rfl, rfl, rfl, rfl⟩ := H
   go_wp2
   refine bodyPost_ret (zj6 (rs := [.tmp 2, .tmp 3, .tmp 4, .tmp 5, .tmp 6]) rfl (by simp) (.tmp (.tmp (.tmp (.tmp (.tmp .nil)))))) rfl ?_
   exact ⟨zq7, zq13⟩
 replace c24 := zbf c24
 subst c24
 replace H := zif H
 by_cases c25 : a0.toList = ([108, 101, 97] : List UInt8)
 rotate_left
 · rw [if_neg c25] at H
   obtain ⟨c25b0, c25b1⟩ := zbq c25
   simp only [Option.some.injEq, Prod.mk.injEq] at H
   obtain ⟨rfl, rfl, rfl, rfl, rfl⟩ := H
   go_wp2
   refine bodyPost_ret (zj6 (rs := [.tmp 2, .tmp 3, .tmp 4, .tmp 5, .tmp 6]) rfl (by simp) (.tmp (.tmp (.tmp (.tmp (.tmp .nil)))))) rfl ?_
   exact ⟨zq7, zq13⟩
 rw [if_pos c25] at H
 obtain ⟨c25b0, c25b1⟩ := zbe c25
 clear c25
 simp only [Option.some.injEq, Prod.mk.injEq] at H
 obtain ⟨rfl, rfl, rfl, rfl, rfl⟩ := H
 go_wp2
 refine bodyPost_ret (zj6 (rs := [.tmp 2, .tmp 3, .tmp 4, .tmp 5, .tmp 6]) rfl (by simp) (.tmp (.tmp (.tmp (.tmp (.tmp .nil)))))) rfl ?_
 exact ⟨zq7, zq13⟩
def zio (k : Nat) (a0_0 : ByteArray) (a0_1 : Int) (a0_2 : Int) (a0_3 : Int) (a0_4 : Int) : Option (Bool) := (ze6 k a0_0).bind fun bt102 => (if bt102.1 = true then ((zj2 a0_1).bind fun t107 => (if t107 = true then ((zj2 a0_2).bind fun t108 => (if t108 = true then ((zj2 a0_3).bind fun t109 => (if t109 = true then ((zj1 a0_4 bt102.2.2.2.1 bt102.2.2.2.2).bind fun t110 => (if t110 = true then (if bt102.2.1 = true then (if bt102.2.2.1 = true then (some true) else (some (a0_3 == 0))) else (if a0_2 = 0 then (if bt102.2.2.1 = true then (some true) else (some (a0_3 == 0))) else (some false))) else (some false))) else (some false))) else (some false))) else (some false))) else (some false))
theorem zpc : ∀ a0 a1 a2 a3 a4 k, LeO (zio k a0 a1 a2 a3 a4) (zio (k + 1) a0 a1 a2 a3 a4) := by
 intro a0 a1 a2 a3 a4 k
 unfold zio
 exact zm1 zgx
theorem zop (k : Nat) (a0_0 : ByteArray) (a0_1 : Int) (a0_2 : Int) (a0_3 : Int) (a0_4 : Int) (r : Bool) (w : World) (h : zio k a0_0 a0_1 a0_2 a0_3 a0_4 = some r) :
   Calls Tryz.prog 130 #[.agg #[.string a0_0, .int .i64 a0_1, .int .i64 a0_2, .int .i64 a0_3, .int .i64 a0_4]] w fun e w' => e = .returned (.bool r) ∧ Below w.heap.size w w' := by
 have hu55 := Tryz.underlying55
 have HB := zA (Below.refl w.heap.size w)
 have H := h
 unfold zio at H
 clear h
 replace H := zob H
 obtain ⟨⟨t102, t103, t104, t105, t106⟩, A20, H⟩ := H
 have A2 := zA A20
 clear A20
 by_cases c3 : t102 = true
 rotate_left
 · replace c3 := zbf c3
   subst c3
   replace H := zif H
   obtain rfl := zsi H
   go_enter Tryz.func130, Tryz.ntmps130
   go_wp2_with (first | ((with_reducible refine zgd 1 ?_); refine zbh zq1 #[.string a0_0, .int .i64 a0_1, .int .i64 a0_2, .int .i64 a0_3, .int .i64 a0_4] 55 ?_; clear HB; intro gb101 w34 HB BK101 GW101; have GE101 := GW101; obtain ⟨hcz35_0, hcz35_1, hcz35_2, hcz35_3, hcz35_4, hfz35_0, hfz35_1, hfz35_2, hfz35_3, hfz35_4⟩ := zd5 BK101) | ((with_reducible refine zgc 148 ?_); refine zcl 11 Tryz.func148 (zce k a0_0 false t103 t104 t105 t106 _ A2.out) ?_; rintro e w' ⟨rfl, ⟨nd, rfl⟩⟩; refine ⟨_, rfl, ?_⟩))
   go_ret
   exact ⟨zq5, zq10 GE101⟩
 subst c3
 replace H := zih H
 replace H := zob H
 obtain ⟨t107, A40, H⟩ := H
 have A4 := zA A40
 clear A40
 by_cases c5 : t107 = true
 rotate_left
 · replace c5 := zbf c5
   subst c5
   replace H := zif H
   obtain rfl := zsi H
   go_enter Tryz.func130, Tryz.ntmps130
   go_wp2_with (first | ((with_reducible refine zgd 1 ?_); refine zbh zq1 #[.string a0_0, .int .i64 a0_1, .int .i64 a0_2, .int .i64 a0_3, .int .i64 a0_4] 55 ?_; clear HB; intro gb101 w32 HB BK101 GW101; have GE101 := GW101; obtain ⟨hcz33_0, hcz33_1, hcz33_2, hcz33_3, hcz33_4, hfz33_0, hfz33_1, hfz33_2, hfz33_3, hfz33_4⟩ := zd5 BK101) | ((with_reducible refine zgc 148 ?_); refine zcl 11 Tryz.func148 (zce k a0_0 true t103 t104 t105 t106 _ A2.out) ?_; rintro e w' ⟨rfl, ⟨nd, rfl⟩⟩; refine ⟨_, rfl, ?_⟩) | (go_at_call 149; (with_reducible refine (za7 a0_1 false _ A4.out).mono ?_); rintro e w' ⟨rfl, ⟨nd, rfl⟩⟩))
   go_ret
   exact ⟨zq5, zq10 GE101⟩
 subst c5
 replace H := zih H
 replace H := zob H
 obtain ⟨t108, A60, H⟩ := H
 have A6 := zA A60
 clear A60
 by_cases c7 : t108 = true
 rotate_left
 · replace c7 := zbf c7
   subst c7
   replace H := zif H
   obtain rfl := zsi H
   go_enter Tryz.func130, Tryz.ntmps130
   go_wp2_with (first | ((with_reducible refine zgd 1 ?_); refine zbh zq1 #[.string a0_0, .int .i64 a0_1, .int .i64 a0_2, .int .i64 a0_3, .int .i64 a0_4] 55 ?_; clear HB; intro gb101 w30 HB BK101 GW101; have GE101 := GW101; obtain ⟨hcz31_0, hcz31_1, hcz31_2, hcz31_3, hcz31_4, hfz31_0, hfz31_1, hfz31_2, hfz31_3, hfz31_4⟩ := zd5 BK101) | ((with_reducible refine zgc 148 ?_); refine zcl 11 Tryz.func148 (zce k a0_0 true t103 t104 t105 t106 _ A2.out) ?_; rintro e w' ⟨rfl, ⟨nd, rfl⟩⟩; refine ⟨_, rfl, ?_⟩) | (go_at_call 149; (with_reducible refine (za7 a0_1 true _ A4.out).mono ?_); rintro e w' ⟨rfl, ⟨nd, rfl⟩⟩) | (go_at_call 149; (with_reducible refine (za7 a0_2 false _ A6.out).mono ?_); rintro e w' ⟨rfl, ⟨nd, rfl⟩⟩))
   go_ret
   exact ⟨zq5, zq10 GE101⟩
 subst c7
 replace H := zih H
 replace H := zob H
 obtain ⟨t109, A80, H⟩ := H
 have A8 := zA A80
 clear A80
 by_cases c9 : t109 = true
 rotate_left
 · replace c9 := zbf c9
   subst c9
   replace H := zif H
   obtain rfl := zsi H
   go_enter Tryz.func130, Tryz.ntmps130
   go_wp2_with (first | ((with_reducible refine zgd 1 ?_); refine zbh zq1 #[.string a0_0, .int .i64 a0_1, .int .i64 a0_2, .int .i64 a0_3, .int .i64 a0_4] 55 ?_; clear HB; intro gb101 w28 HB BK101 GW101; have GE101 := GW101; obtain ⟨hcz29_0, hcz29_1, hcz29_2, hcz29_3, hcz29_4, hfz29_0, hfz29_1, hfz29_2, hfz29_3, hfz29_4⟩ := zd5 BK101) | ((with_reducible refine zgc 148 ?_); refine zcl 11 Tryz.func148 (zce k a0_0 true t103 t104 t105 t106 _ A2.out) ?_; rintro e w' ⟨rfl, ⟨nd, rfl⟩⟩; refine ⟨_, rfl, ?_⟩) | (go_at_call 149; (with_reducible refine (za7 a0_1 true _ A4.out).mono ?_); rintro e w' ⟨rfl, ⟨nd, rfl⟩⟩) | (go_at_call 149; (with_reducible refine (za7 a0_2 true _ A6.out).mono ?_); rintro e w' ⟨rfl, ⟨nd, rfl⟩⟩) | (go_at_call 149; (with_reducible refine (za7 a0_3 false _ A8.out).mono ?_); rintro e w' ⟨rfl, ⟨nd, rfl⟩⟩))
   go_ret
   exact ⟨zq5, zq10 GE101⟩
 subst c9
 replace H := zih H
 replace H := zob H
 obtain ⟨t110, A100, H⟩ := H
 have A10 := zA A100
 clear A100
 by_cases c11 : t110 = true
 rotate_left
 · replace c11 := zbf c11
   subst c11
   replace H := zif H
   obtain rfl := zsi H
   go_enter Tryz.func130, Tryz.ntmps130
   go_wp2_with (first | ((with_reducible refine zgd 1 ?_); refine zbh zq1 #[.string a0_0, .int .i64 a0_1, .int .i64 a0_2, .int .i64 a0_3, .int .i64 a0_4] 55 ?_; clear HB; intro gb101 w26 HB BK101 GW101; have GE101 := GW101; obtain ⟨hcz27_0, hcz27_1, hcz27_2, hcz27_3, hcz27_4, hfz27_0, hfz27_1, hfz27_2, hfz27_3, hfz27_4⟩ := zd5 BK101) | ((with_reducible refine zgc 148 ?_); refine zcl 11 Tryz.func148 (zce k a0_0 true t103 t104 t105 t106 _ A2.out) ?_; rintro e w' ⟨rfl, ⟨nd, rfl⟩⟩; refine ⟨_, rfl, ?_⟩) | (go_at_call 149; (with_reducible refine (za7 a0_1 true _ A4.out).mono ?_); rintro e w' ⟨rfl, ⟨nd, rfl⟩⟩) | (go_at_call 149; (with_reducible refine (za7 a0_2 true _ A6.out).mono ?_); rintro e w' ⟨rfl, ⟨nd, rfl⟩⟩) | (go_at_call 149; (with_reducible refine (za7 a0_3 true _ A8.out).mono ?_); rintro e w' ⟨rfl, ⟨nd, rfl⟩⟩) | (go_at_call 99; (with_reducible refine (zfo a0_4 t105 t106 false _ A10.out).mono ?_); rintro e w' ⟨rfl, ⟨nd, rfl⟩⟩))
   go_ret
   exact ⟨zq5, zq10 GE101⟩
 subst c11
 replace H := zih H
 by_cases c12 : t103 = true
 · subst c12
   replace H := zih H
   by_cases c13 : t104 = true
   · subst c13
     replace H := zih H
     obtain rfl := zsi H
     go_enter Tryz.func130, Tryz.ntmps130
     go_wp2_with (first | ((with_reducible refine zgd 1 ?_); refine zbh zq1 #[.string a0_0, .int .i64 a0_1, .int .i64 a0_2, .int .i64 a0_3, .int .i64 a0_4] 55 ?_; clear HB; intro gb101 w14 HB BK101 GW101; have GE101 := GW101; obtain ⟨hcz15_0, hcz15_1, hcz15_2, hcz15_3, hcz15_4, hfz15_0, hfz15_1, hfz15_2, hfz15_3, hfz15_4⟩ := zd5 BK101) | ((with_reducible refine zgc 148 ?_); refine zcl 11 Tryz.func148 (zce k a0_0 true true true t105 t106 _ A2.out) ?_; rintro e w' ⟨rfl, ⟨nd, rfl⟩⟩; refine ⟨_, rfl, ?_⟩) | (go_at_call 149; (with_reducible refine (za7 a0_1 true _ A4.out).mono ?_); rintro e w' ⟨rfl, ⟨nd, rfl⟩⟩) | (go_at_call 149; (with_reducible refine (za7 a0_2 true _ A6.out).mono ?_); rintro e w' ⟨rfl, ⟨nd, rfl⟩⟩) | (go_at_call 149; (with_reducible refine (za7 a0_3 true _ A8.out).mono ?_); rintro e w' ⟨rfl, ⟨nd, rfl⟩⟩) | (go_at_call 99; (with_reducible refine (zfo a0_4 t105 t106 true _ A10.out).mono ?_); rintro e w' ⟨rfl, ⟨nd, rfl⟩⟩))
     go_ret
     exact ⟨zq5, zq10 GE101⟩
   replace c13 := zbf c13
   subst c13
   replace H := zif H
   obtain rfl := zsi H
   go_enter Tryz.func130, Tryz.ntmps130
   go_wp2_with (first | ((with_reducible refine zgd 1 ?_); refine zbh zq1 #[.string a0_0, .int .i64 a0_1, .int .i64 a0_2, .int .i64 a0_3, .int .i64 a0_4] 55 ?_; clear HB; intro gb101 w16 HB BK101 GW101; have GE101 := GW101; obtain ⟨hcz17_0, hcz17_1, hcz17_2, hcz17_3, hcz17_4, hfz17_0, hfz17_1, hfz17_2, hfz17_3, hfz17_4⟩ := zd5 BK101) | ((with_reducible refine zgc 148 ?_); refine zcl 11 Tryz.func148 (zce k a0_0 true true false t105 t106 _ A2.out) ?_; rintro e w' ⟨rfl, ⟨nd, rfl⟩⟩; refine ⟨_, rfl, ?_⟩) | (go_at_call 149; (with_reducible refine (za7 a0_1 true _ A4.out).mono ?_); rintro e w' ⟨rfl, ⟨nd, rfl⟩⟩) | (go_at_call 149; (with_reducible refine (za7 a0_2 true _ A6.out).mono ?_); rintro e w' ⟨rfl, ⟨nd, rfl⟩⟩) | (go_at_call 149; (with_reducible refine (za7 a0_3 true _ A8.out).mono ?_); rintro e w' ⟨rfl, ⟨nd, rfl⟩⟩) | (go_at_call 99; (with_reducible refine (zfo a0_4 t105 t106 true _ A10.out).mono ?_); rintro e w' ⟨rfl, ⟨nd, rfl⟩⟩))
   go_ret
   exact ⟨zq5, zq10 GE101⟩
 replace c12 := zbf c12
 subst c12
 replace H := zif H
 by_cases c18 : a0_2 = 0
 rotate_left
 · rw [if_neg c18] at H
   obtain ⟨c18b0, c18b1⟩ := zbq c18
   obtain rfl := zsi H
   go_enter Tryz.func130, Tryz.ntmps130
   go_wp2_with (first | ((with_reducible refine zgd 1 ?_); refine zbh zq1 #[.string a0_0, .int .i64 a0_1, .int .i64 a0_2, .int .i64 a0_3, .int .i64 a0_4] 55 ?_; clear HB; intro gb101 w24 HB BK101 GW101; have GE101 := GW101; obtain ⟨hcz25_0, hcz25_1, hcz25_2, hcz25_3, hcz25_4, hfz25_0, hfz25_1, hfz25_2, hfz25_3, hfz25_4⟩ := zd5 BK101) | ((with_reducible refine zgc 148 ?_); refine zcl 11 Tryz.func148 (zce k a0_0 true false t104 t105 t106 _ A2.out) ?_; rintro e w' ⟨rfl, ⟨nd, rfl⟩⟩; refine ⟨_, rfl, ?_⟩) | (go_at_call 149; (with_reducible refine (za7 a0_1 true _ A4.out).mono ?_); rintro e w' ⟨rfl, ⟨nd, rfl⟩⟩) | (go_at_call 149; (with_reducible refine (za7 a0_2 true _ A6.out).mono ?_); rintro e w' ⟨rfl, ⟨nd, rfl⟩⟩) | (go_at_call 149; (with_reducible refine (za7 a0_3 true _ A8.out).mono ?_); rintro e w' ⟨rfl, ⟨nd, rfl⟩⟩) | (go_at_call 99; (with_reducible refine (zfo a0_4 t105 t106 true _ A10.out).mono ?_); rintro e w' ⟨rfl, ⟨nd, rfl⟩⟩))
   go_ret
   exact ⟨zq5, zq10 GE101⟩
 rw [if_pos c18] at H
 obtain ⟨c18b0, c18b1⟩ := zbe c18
 clear c18
 by_cases c19 : t104 = true
 · subst c19
   replace H := zih H
   obtain rfl := zsi H
   go_enter Tryz.func130, Tryz.ntmps130
   go_wp2_with (first | ((with_reducible refine zgd 1 ?_); refine zbh zq1 #[.string a0_0, .int .i64 a0_1, .int .i64 a0_2, .int .i64 a0_3, .int .i64 a0_4] 55 ?_; clear HB; intro gb101 w20 HB BK101 GW101; have GE101 := GW101; obtain ⟨hcz21_0, hcz21_1, hcz21_2, hcz21_3, hcz21_4, hfz21_0, hfz21_1, hfz21_2, hfz21_3, hfz21_4⟩ := zd5 BK101) | ((with_reducible refine zgc 148 ?_); refine zcl 11 Tryz.func148 (zce k a0_0 true false true t105 t106 _ A2.out) ?_; rintro e w' ⟨rfl, ⟨nd, rfl⟩⟩; refine ⟨_, rfl, ?_⟩) | (go_at_call 149; (with_reducible refine (za7 a0_1 true _ A4.out).mono ?_); rintro e w' ⟨rfl, ⟨nd, rfl⟩⟩) | (go_at_call 149; (with_reducible refine (za7 a0_2 true _ A6.out).mono ?_); rintro e w' ⟨rfl, ⟨nd, rfl⟩⟩) | (go_at_call 149; (with_reducible refine (za7 a0_3 true _ A8.out).mono ?_); rintro e w' ⟨rfl, ⟨nd, rfl⟩⟩) | (go_at_call 99; (with_reducible refine (zfo a0_4 t105 t106 true _ A10.out).mono ?_); rintro e w' ⟨rfl, ⟨nd, rfl⟩⟩))
   go_ret
   exact ⟨zq5, zq10 GE101⟩
 replace c19 := zbf c19
 subst c19
 replace H := zif H
 obtain rfl := zsi H
 go_enter Tryz.func130, Tryz.ntmps130
 go_wp2_with (first | ((with_reducible refine zgd 1 ?_); refine zbh zq1 #[.string a0_0, .int .i64 a0_1, .int .i64 a0_2, .int .i64 a0_3, .int .i64 a0_4] 55 ?_; clear HB; intro gb101 w22 HB BK101 GW101; have GE101 := GW101; obtain ⟨hcz23_0, hcz23_1, hcz23_2, hcz23_3, hcz23_4, hfz23_0, hfz23_1, hfz23_2, hfz23_3, hfz23_4⟩ := zd5 BK101) | ((with_reducible refine zgc 148 ?_); refine zcl 11 Tryz.func148 (zce k a0_0 true false false t105 t106 _ A2.out) ?_; rintro e w' ⟨rfl, ⟨nd, rfl⟩⟩; refine ⟨_, rfl, ?_⟩) | (go_at_call 149; (with_reducible refine (za7 a0_1 true _ A4.out).mono ?_); rintro e w' ⟨rfl, ⟨nd, rfl⟩⟩) | (go_at_call 149; (with_reducible refine (za7 a0_2 true _ A6.out).mono ?_); rintro e w' ⟨rfl, ⟨nd, rfl⟩⟩) | (go_at_call 149; (with_reducible refine (za7 a0_3 true _ A8.out).mono ?_); rintro e w' ⟨rfl, ⟨nd, rfl⟩⟩) | (go_at_call 99; (with_reducible refine (zfo a0_4 t105 t106 true _ A10.out).mono ?_); rintro e w' ⟨rfl, ⟨nd, rfl⟩⟩))
 go_ret
 exact ⟨zq5, zq10 GE101⟩
def zeo : Nat → List (S55) → Int → Int → Option (Bool)
 | 0, _, _, _ => none
 | k + 1, x8, x9, x10 => if x10 < x9 then (if 0 ≤ x10 then (if x10 < (x8.length : Int) then ((zio k ((zaa x8 x10).f0) ((zaa x8 x10).f1) ((zaa x8 x10).f2) ((zaa x8 x10).f3) ((zaa x8 x10).f4)).bind fun t103 => (if t103 = true then (zeo k x8 x9 (wrap64 (x10 + 1))) else (some false))) else (none)) else (none)) else (some true)
def zip (k : Nat) (l0 : List (S55)) : Option (Bool) := if (l0.length : Int) > 40 then (some false) else (zeo k l0 (l0.length : Int) 0)
theorem zn3 : ∀ k, (∀ y0 y1 y2, LeO (zeo k y0 y1 y2) (zeo (k + 1) y0 y1 y2))
 | 0 => fun _ _ _ r h => by simp [zeo] at h
 | k + 1 => by
   have ih0 := zn3 k
   · intro y0 y1 y2
     unfold zeo
     exact zm2 ih0 zpc
theorem zs8 : ∀ a0 k, LeO (zip k a0) (zip (k + 1) a0) := by
 intro a0 k
 have ih0 := zn3 k
 unfold zip
 exact zm2 ih0 zpc
theorem zsl (k : Nat) (A0 : Option Addr) (c0 : Nat) (l0 : List (S55)) (r : Bool) (w : World) (hr0 : Kd.C k55 w A0 l0.length l0) (hc0 : l0.length ≤ c0) (h : zip k l0 = some r) :
   Calls Tryz.prog 105 #[.slice A0 l0.length c0] w fun e w' => e = .returned (.bool r) ∧ Below w.heap.size w w' := by
 have hu55 := Tryz.underlying55
 have HR0 := zA hr0
 have HC0 := zA hc0
 clear hr0 hc0
 have HB := zA (Below.refl w.heap.size w)
 have H := h
 unfold zip at H
 clear h
 by_cases c2 : (l0.length : Int) > 40
 · rw [if_pos c2] at H
   have c2b0 := zdt c2
   have c2b1 : decide (40 < l0.length) = true := zdt (by omega)
   clear c2
   obtain rfl := zsi H
   go_enter Tryz.func105, Tryz.ntmps105
   go_wp2
   exact zr_2
 rw [if_neg c2] at H
 have c2b0 := zdf c2
 have c2b1 : decide (40 < l0.length) = false := zdf (by omega)
 clear c2
 have H' := zA H
 clear H
 go_enter Tryz.func105, Tryz.ntmps105
 go_wp2
 go_loopg [10] k (fun kq v10 w' => ∃ (x10_1 : Int), v10 = .int .i64 x10_1 ∧ Aside0 (zeo kq l0 (l0.length : Int) x10_1 = some r) ∧ Aside0 (kq ≤ k) ∧ Aside0 (Below w.heap.size w w'))
 case atStart => exact ⟨(0), zq7, H', ⟨zlr _⟩, ⟨zq1⟩⟩
 clear H'
 obtain ⟨x10_1, rfl, HA, HK1, HB⟩ := hrel
 cases gk with
 | zero => exact absurd HA.out (by simp [zeo])
 | succ k1 =>
 have H := HA.out
 clear HA
 simp only [zeo] at H
 revert H
 refine zit (fun c3 H => ?_) fun c3 H => ?_
 rotate_left
 · obtain rfl := zsi H
   go_wp2
   exact zr_2
 revert H
 refine zin fun c4 H => ?_
 revert H
 refine zin fun c5 H => ?_
 replace H := zob H
 obtain ⟨t103, A60, H⟩ := H
 have A6 := zA A60
 clear A60
 by_cases c7 : t103 = true
 rotate_left
 · replace c7 := zbf c7
   subst c7
   replace H := zif H
   obtain rfl := zsi H
   obtain ⟨p101, q101⟩ := zpq x10_1 l0.length
   obtain ⟨ad101, e101, hx101_0, hx101_1, hx101_2, hx101_3, hx101_4⟩ := zld HR0.out x10_1 (zoe p101) (zoe q101)
   cases e101
   replace hx101_0 := zkep HB.out hx101_0
   replace hx101_1 := zkep HB.out hx101_1
   replace hx101_2 := zkep HB.out hx101_2
   replace hx101_3 := zkep HB.out hx101_3
   replace hx101_4 := zkep HB.out hx101_4
   go_wp2_with (first | ((with_reducible refine zgd 4 ?_); refine zbh zq1 #[.string (⟨#[]⟩ : ByteArray), .int .i64 0, .int .i64 0, .int .i64 0, .int .i64 0] 55 ?_; clear HB; intro gb102 w11 HB BK102 GW102; have GE102 := GW102; obtain ⟨hcz12_0, hcz12_1, hcz12_2, hcz12_3, hcz12_4, hfz12_0, hfz12_1, hfz12_2, hfz12_3, hfz12_4⟩ := zd5 BK102) | ((with_reducible refine zgc 130 ?_); refine zcl 15 Tryz.func130 (zop k1 ((zaa l0 x10_1).f0) ((zaa l0 x10_1).f1) ((zaa l0 x10_1).f2) ((zaa l0 x10_1).f3) ((zaa l0 x10_1).f4) false _ A6.out) ?_; rintro e w13 ⟨rfl, hb⟩; refine ⟨_, rfl, ?_⟩; replace BK102 := zA (zar (g := gb102) (o := .cells #[.string ((zaa l0 x10_1).f0), .int .i64 ((zaa l0 x10_1).f1), .int .i64 ((zaa l0 x10_1).f2), .int .i64 ((zaa l0 x10_1).f3), .int .i64 ((zaa l0 x10_1).f4)] 55 (0, 0)) (zq22 BK102) hb); replace HB := zA (zab (zq10 GE102) hb); (try clear hb)))
   go_ret
   exact ⟨zq5, zq10 GE102⟩
 subst c7
 replace H := zih H
 have H' := zA H
 clear H
 obtain ⟨p101, q101⟩ := zpq x10_1 l0.length
 obtain ⟨ad101, e101, hx101_0, hx101_1, hx101_2, hx101_3, hx101_4⟩ := zld HR0.out x10_1 (zoe p101) (zoe q101)
 cases e101
 replace hx101_0 := zkep HB.out hx101_0
 replace hx101_1 := zkep HB.out hx101_1
 replace hx101_2 := zkep HB.out hx101_2
 replace hx101_3 := zkep HB.out hx101_3
 replace hx101_4 := zkep HB.out hx101_4
 go_wp2_with (first | ((with_reducible refine zgd 4 ?_); refine zbh zq1 #[.string (⟨#[]⟩ : ByteArray), .int .i64 0, .int .i64 0, .int .i64 0, .int .i64 0] 55 ?_; clear HB; intro gb102 w8 HB BK102 GW102; have GE102 := GW102; obtain ⟨hcz9_0, hcz9_1, hcz9_2, hcz9_3, hcz9_4, hfz9_0, hfz9_1, hfz9_2, hfz9_3, hfz9_4⟩ := zd5 BK102) | ((with_reducible refine zgc 130 ?_); refine zcl 15 Tryz.func130 (zop k1 ((zaa l0 x10_1).f0) ((zaa l0 x10_1).f1) ((zaa l0 x10_1).f2) ((zaa l0 x10_1).f3) ((zaa l0 x10_1).f4) true _ A6.out) ?_; rintro e w10 ⟨rfl, hb⟩; refine ⟨_, rfl, ?_⟩; replace BK102 := zA (zar (g := gb102) (o := .cells #[.string ((zaa l0 x10_1).f0), .int .i64 ((zaa l0 x10_1).f1), .int .i64 ((zaa l0 x10_1).f2), .int .i64 ((zaa l0 x10_1).f3), .int .i64 ((zaa l0 x10_1).f4)] 55 (0, 0)) (zq22 BK102) hb); replace HB := zA (zab (zq10 GE102) hb); (try clear hb)))
 go_roundg k1
 case measure => have := HK1.out; omega
 case rel => exact ⟨(wrap64 (x10_1 + 1)), zq7, H', ⟨zq51 HK1⟩, ⟨zq10 GE102⟩⟩
def zgb (k : Nat) (l0 : List (S55)) : Option (Bool) := if (l0.length : Int) ≤ 20 then ((zip k l0).bind fun t101 => (some t101)) else (some false)
theorem zkx : ∀ a0 k, LeO (zgb k a0) (zgb (k + 1) a0) := by
 intro a0 k
 unfold zgb
 exact zm1 zs8
theorem zdb (k : Nat) (A0 : Option Addr) (c0 : Nat) (l0 : List (S55)) (r : Bool) (w : World) (hr0 : Kd.C k55 w A0 l0.length l0) (hc0 : l0.length ≤ c0) (h : zgb k l0 = some r) :
   Calls Tryz.prog 53 #[.slice A0 l0.length c0] w fun e w' => e = .returned (.bool r) ∧ Below w.heap.size w w' := by
 have HR0 := zA hr0
 have HC0 := zA hc0
 clear hr0 hc0
 have HB := zA (Below.refl w.heap.size w)
 have H := h
 unfold zgb at H
 clear h
 by_cases c2 : (l0.length : Int) ≤ 20
 · rw [if_pos c2] at H
   have c2b0 := zdt c2
   have c2b1 : decide (l0.length ≤ 20) = true := zdt (by omega)
   clear c2
   replace H := zob H
   obtain ⟨t101, A30, H⟩ := H
   have A3 := zA A30
   clear A30
   obtain rfl := zsi H
   go_enter Tryz.func53, Tryz.ntmps53
   go_wp2_with (first | (go_at_call 105; (with_reducible refine (zsl k _ _ l0 t101 _ ?side1 ?side2 A3.out).mono ?_); (case side1 => repeat (first | exact HR0.out | (with_reducible first | refine zCa ?_ _ | refine zCn ?_ _ | refine zCd ?_))); (case side2 => exact HC0.out); rintro e w4 ⟨rfl, hb⟩; replace HB := zA (zab zq1 hb); (try clear hb)))
   exact zr_2
 · rw [if_neg c2] at H
   have c2b0 := zdf c2
   have c2b1 : decide (l0.length ≤ 20) = false := zdf (by omega)
   clear c2
   obtain rfl := zsi H
   go_enter Tryz.func53, Tryz.ntmps53
   go_wp2
   exact zr_2
def zft : Nat → Int → List Int → Int → Int → Option (Bool)
 | 0, _, _, _, _ => none
 | k + 1, x1, x7, x8, x9 => if x9 < x8 then (if 0 ≤ x9 then (if x9 < (x7.length : Int) then (if (rd x7 x9) = x1 then (some true) else (zft k x1 x7 x8 (wrap64 (x9 + 1)))) else (none)) else (none)) else (some false)
def zhz (k : Nat) (l0 : List Int) (a1 : Int) : Option (Bool) := zft k a1 l0 (l0.length : Int) 0
theorem zoq : ∀ k, (∀ y0 y1 y2 y3, LeO (zft k y0 y1 y2 y3) (zft (k + 1) y0 y1 y2 y3))
 | 0 => fun _ _ _ _ r h => by simp [zft] at h
 | k + 1 => by
   have ih0 := zoq k
   · intro y0 y1 y2 y3
     unfold zft
     exact zm1 ih0
theorem zhd : ∀ a0 a1 k, LeO (zhz k a0 a1) (zhz (k + 1) a0 a1) := by
 intro a0 a1 k
 have ih0 := zoq k
 unfold zhz
 exact zm1 ih0
theorem zky (k : Nat) (A0 : Option Addr) (c0 : Nat) (l0 : List Int) (a1 : Int) (r : Bool) (w : World) (hr0 : Kd.C (Kd.int .i64) w A0 l0.length l0) (hc0 : l0.length ≤ c0) (h : zhz k l0 a1 = some r) :
   Calls Tryz.prog 65 #[.slice A0 l0.length c0, .int .i64 a1] w fun e w' => e = .returned (.bool r) ∧ Drawn0 w w' := by
 have HR0 := zA hr0
 have HC0 := zA hc0
 clear hr0 hc0
 have H := h
 unfold zhz at H
 clear h
 have H' := zA H
 clear H
 go_enter Tryz.func65, Tryz.ntmps65
 go_wp2
 go_loopg [9] k (fun kq v9 w' => ∃ (x9_1 : Int), v9 = .int .i64 x9_1 ∧ Aside0 (zft kq a1 l0 (l0.length : Int) x9_1 = some r) ∧ Aside0 (kq ≤ k) ∧ Drawn0 w w')
 case atStart => exact ⟨(0), zq7, H', ⟨zlr _⟩, zq13⟩
 clear H'
 obtain ⟨x9_1, rfl, HA, HK1, ⟨m1, rfl⟩⟩ := hrel
 cases gk with
 | zero => exact absurd HA.out (by simp [zft])
 | succ k1 =>
 have H := HA.out
 clear HA
 simp only [zft] at H
 revert H
 refine zit (fun c3 H => ?_) fun c3 H => ?_
 rotate_left
 · obtain rfl := zsi H
   exact zr_5
 revert H
 refine zin fun c4 H => ?_
 revert H
 refine zin fun c5 H => ?_
 by_cases c6 : (rd l0 x9_1) = a1
 · rw [if_pos c6] at H
   obtain ⟨c6b0, c6b1⟩ := zbe c6
   clear c6
   obtain rfl := zsi H
   obtain ⟨p101, q101⟩ := zpq x9_1 l0.length
   obtain ⟨ad101, e101, hx101_0⟩ := Kd.at_int HR0.out x9_1 (zoe p101) (zoe q101)
   cases e101
   exact zr_5
 rw [if_neg c6] at H
 obtain ⟨c6b0, c6b1⟩ := zbq c6
 have H' := zA H
 clear H
 obtain ⟨p101, q101⟩ := zpq x9_1 l0.length
 obtain ⟨ad101, e101, hx101_0⟩ := Kd.at_int HR0.out x9_1 (zoe p101) (zoe q101)
 cases e101
 go_wp2
 go_roundg k1
 case measure => have := HK1.out; omega
 case rel => exact ⟨(wrap64 (x9_1 + 1)), zq7, H', ⟨zq51 HK1⟩, zq13⟩
def zhu (a0 : ByteArray) : Option (Int) := if a0.toList = ([109, 117, 108] : List UInt8) then (some 4) else (if a0.toList = ([115, 104, 108] : List UInt8) then (some 2) else (if a0.toList = ([115, 104, 114] : List UInt8) then (some 2) else (some 1)))
theorem zh7 (a0 : ByteArray) (r : Int) (w : World) (h : zhu a0 = some r) :
   Calls Tryz.prog 100 #[.string a0] w fun e w' => e = .returned (.int .i64 r) ∧ Drawn0 w w' := by
 have H := h
 unfold zhu at H
 clear h
 by_cases c2 : a0.toList = ([109, 117, 108] : List UInt8)
 · rw [if_pos c2] at H
   obtain ⟨c2b0, c2b1⟩ := zbe c2
   clear c2
   exact zr_4
 rw [if_neg c2] at H
 obtain ⟨c2b0, c2b1⟩ := zbq c2
 by_cases c3 : a0.toList = ([115, 104, 108] : List UInt8)
 · rw [if_pos c3] at H
   obtain ⟨c3b0, c3b1⟩ := zbe c3
   clear c3
   exact zr_4
 rw [if_neg c3] at H
 obtain ⟨c3b0, c3b1⟩ := zbq c3
 by_cases c4 : a0.toList = ([115, 104, 114] : List UInt8)
 rotate_left
 · rw [if_neg c4] at H
   obtain ⟨c4b0, c4b1⟩ := zbq c4
   exact zr_4
 rw [if_pos c4] at H
 obtain ⟨c4b0, c4b1⟩ := zbe c4
 clear c4
 exact zr_4
def zfu : Nat → List Int → Int → Int → Option (List Int)
 | 0, _, _, _ => none
 | k + 1, x0, x1, x5 => if x5 < (x0.length : Int) then (if 0 ≤ x5 then (if (rd x0 x5) < x1 then (zfu k x0 x1 (wrap64 (x5 + 1))) else (if (rd x0 x5) = x1 then (some x0) else ((some (([] : List Int) : List Int)).bind fun y103 => (if x5 ≤ (x0.length : Int) then ((some (x0.take (x5 : Int).toNat : List Int)).bind fun y106 => (if y103.length + y106.length < 17592186044416 then ((some (y103 ++ y106 : List Int)).bind fun y110 => (if y110.length < 17592186044416 then ((some (y110 ++ [x1] : List Int)).bind fun y113 => ((some (x0.drop (x5 : Int).toNat : List Int)).bind fun y116 => (if y113.length + y116.length < 17592186044416 then (some (y113 ++ y116)) else (none)))) else (none))) else (none))) else (none))))) else (none)) else ((some (([] : List Int) : List Int)).bind fun y123 => (if 0 ≤ x5 then (if x5 ≤ (x0.length : Int) then ((some (x0.take (x5 : Int).toNat : List Int)).bind fun y126 => (if y123.length + y126.length < 17592186044416 then ((some (y123 ++ y126 : List Int)).bind fun y130 => (if y130.length < 17592186044416 then ((some (y130 ++ [x1] : List Int)).bind fun y133 => ((some (x0.drop (x5 : Int).toNat : List Int)).bind fun y136 => (if y133.length + y136.length < 17592186044416 then (some (y133 ++ y136)) else (none)))) else (none))) else (none))) else (none)) else (none)))
def zgk (k : Nat) (l0 : List Int) (a1 : Int) : Option (List Int) := zfu k l0 a1 0
theorem zor : ∀ k, (∀ y0 y1 y2, LeO (zfu k y0 y1 y2) (zfu (k + 1) y0 y1 y2))
 | 0 => fun _ _ _ r h => by simp [zfu] at h
 | k + 1 => by
   have ih0 := zor k
   · intro y0 y1 y2
     unfold zfu
     exact zm1 ih0
theorem ztt : ∀ a0 a1 k, LeO (zgk k a0 a1) (zgk (k + 1) a0 a1) := by
 intro a0 a1 k
 have ih0 := zor k
 unfold zgk
 exact zm1 ih0
theorem zkz (k : Nat) (P0_ : Nat → Prop) (u9000_ : Value) (l0 : List Int) (a1 : Int) (r : List Int) (w0 w : World) (hB : Below w0.heap.size w0 w) (ho0 : Kd.R (Kd.int .i64) 3 w w0.heap.size P0_ u9000_ l0) (h : zgk k l0 a1 = some r) :
   Calls Tryz.prog 156 #[u9000_, .int .i64 a1] w fun e w' => ∃ v0_ : Value, e = .returned (v0_) ∧ Kd.R (Kd.int .i64) 3 w' w0.heap.size (fun k_ => (P0_ k_ ∨ w.heap.size ≤ k_)) v0_ r ∧ Below w0.heap.size w0 w' ∧ Kept w w' (fun k_ => P0_ k_) := by
 have HO0 := zA (show Kd.R (Kd.int .i64) 3 w w0.heap.size (fun k_ => (P0_ k_ ∨ w.heap.size ≤ k_)) u9000_ l0 from Kd.R_mono ho0 (fun k_ hk => (.inl hk)))
 have HK := zA (Kept.refl w (fun k_ => P0_ k_))
 have HW0 := zA hB.size
 have HB := zA hB
 clear hB
 have H := h
 unfold zgk at H
 clear h
 have H' := zA H
 clear H
 go_enter Tryz.func156, Tryz.ntmps156
 go_wp2
 go_loopg [5] k (fun kq v5 w' => ∃ (x5_1 : Int), v5 = .int .i64 x5_1 ∧ Aside0 (zfu kq l0 a1 x5_1 = some r) ∧ Aside0 (kq ≤ k) ∧ Aside0 (Kd.R (Kd.int .i64) 3 w' w0.heap.size (fun k_ => (P0_ k_ ∨ w.heap.size ≤ k_)) u9000_ l0) ∧ Aside0 (Kept w w' (fun k_ => P0_ k_)) ∧ Aside0 (Below w0.heap.size w0 w'))
 case atStart => exact ⟨(0), zq7, H', ⟨zlr _⟩, ⟨zq2 HO0⟩, ⟨zq16⟩, ⟨zq1⟩⟩
 clear H'
 obtain ⟨x5_1, rfl, HA, HK1, HO_0, HK, HB⟩ := hrel
 cases gk with
 | zero => exact absurd HA.out (by simp [zfu])
 | succ k1 =>
 have H := HA.out
 clear HA
 simp only [zfu] at H
 revert H
 refine zit (fun c3 H => ?_) fun c3 H => ?_
 rotate_left
 · obtain ⟨y123, hy123⟩ : ∃ y_ : List Int, y_ = (([] : List Int)) := ⟨_, rfl⟩
   replace H : (if 0 ≤ x5_1 then (if x5_1 ≤ (l0.length : Int) then ((some (l0.take (x5_1 : Int).toNat : List Int)).bind fun y126 => (if y123.length + y126.length < 17592186044416 then ((some (y123 ++ y126 : List Int)).bind fun y130 => (if y130.length < 17592186044416 then ((some (y130 ++ [a1] : List Int)).bind fun y133 => ((some (l0.drop (x5_1 : Int).toNat : List Int)).bind fun y136 => (if y133.length + y136.length < 17592186044416 then (some (y133 ++ y136)) else (none)))) else (none))) else (none))) else (none)) else (none)) = some r := by first | (rw [hy123]; with_reducible exact H) | (have H2_ := (Option.bind_some _ _).symm.trans H; rw [hy123]; with_reducible exact H2_) | (have H2_ := (Option.bind_some _ _).symm.trans H; with_reducible exact H2_) | with_reducible exact H | (rw [hy123]; exact H) | exact H
   have Ny123 := zA hy123
   clear hy123
   by_cases c24 : 0 ≤ x5_1
   rotate_left
   · rw [if_neg c24] at H
     exact absurd H (by simp)
   rw [if_pos c24] at H
   have c24b0 := eq_true c24
   have c24b1 := zdt c24
   clear c24
   by_cases c25 : x5_1 ≤ (l0.length : Int)
   rotate_left
   · rw [if_neg c25] at H
     exact absurd H (by simp)
   rw [if_pos c25] at H
   have c25b0 := eq_true c25
   have c25b1 := zdt c25
   clear c25
   obtain ⟨y126, hy126⟩ : ∃ y_ : List Int, y_ = (l0.take (x5_1 : Int).toNat) := ⟨_, rfl⟩
   rw [← hy126] at H; try with_reducible replace H := zbs H
   have Ny126 := zA hy126
   clear hy126
   by_cases c26 : y123.length + y126.length < 17592186044416
   rotate_left
   · rw [if_neg c26] at H
     exact absurd H (by simp)
   rw [if_pos c26] at H
   have LMc26 := zA c26
   clear c26
   obtain ⟨y130, hy130⟩ : ∃ y_ : List Int, y_ = (y123 ++ y126) := ⟨_, rfl⟩
   rw [← hy130] at H; try with_reducible replace H := zbs H
   have Ny130 := zA hy130
   clear hy130
   by_cases c27 : y130.length < 17592186044416
   rotate_left
   · rw [if_neg c27] at H
     exact absurd H (by simp)
   rw [if_pos c27] at H
   have LMc27 := zA c27
   clear c27
   obtain ⟨y133, hy133⟩ : ∃ y_ : List Int, y_ = (y130 ++ [a1]) := ⟨_, rfl⟩
   rw [← hy133] at H; try with_reducible replace H := zbs H
   have Ny133 := zA hy133
   clear hy133
   have c28b0 := eq_true (zde zq20 : 0 ≤ x5_1)
   have c29b0 := eq_true (zde zq20 : x5_1 ≤ (l0.length : Int))
   obtain ⟨y136, hy136⟩ : ∃ y_ : List Int, y_ = (l0.drop (x5_1 : Int).toNat) := ⟨_, rfl⟩
   rw [← hy136] at H; try with_reducible replace H := zbs H
   have Ny136 := zA hy136
   clear hy136
   by_cases c30 : y133.length + y136.length < 17592186044416
   rotate_left
   · rw [if_neg c30] at H
     exact absurd H (by simp)
   rw [if_pos c30] at H
   have LMc30 := zA c30
   clear c30
   obtain ⟨y140, hy140⟩ : ∃ y_ : List Int, y_ = (y133 ++ y136) := ⟨_, rfl⟩
   rw [← hy140] at H; try with_reducible replace H := zbs H
   have Ny140 := zA hy140
   clear hy140
   obtain rfl := zsi H
   obtain ⟨Ao31, co31, eo31⟩ := Kd.R_slice HO_0.out
   subst eo31
   go_wp2_with (first | ((with_reducible refine zgd 34 ?_); refine Kd.R_lit (Kd.int .i64) _ 3 ?hg (N := 34) ?hd (xs := ([] : List Int)) (inner := []) (ok := fun _ => True) (okp := fun _ => True) ?hr ?hp (fun _ hk => hk) trivial (Below.refl _ _) (zlr _) (by simp) ?_; (case hd => rfl); (case hg => rfl); (case hr => go_simp <;> rfl); (case hp => exact (Reps.none _ _)); intro v124 w32 ho33 hb hg_ hnew_; clear hg_ hnew_; (first | rw [← Ny123.out] at ho33 | (simp only [Int.reduceToNat] at ho33; rw [← Ny123.out] at ho33)); have HO125 := zA (Kd.R_lower (Kd.R_new' (Kd.R_newM (M := fun k_ => (P0_ k_ ∨ w.heap.size ≤ k_)) ho33 zq29 (fun k_ h_ => .inr h_)) (Kd.R_lt (zq2 HO_0))) (zaj zq1)); replace HO_0 := zA (Kd.R_elder' (zq2 HO_0) (Kd.R_base ho33) hb); replace HK := zA (Kept.below (S := (fun k_ => P0_ k_)) zq16 hb); replace HB := zA (zab zq1 hb); clear hb ho33; have q34 : (x5_1 : Int) ≤ ((l0.length : Int) : Int) := zde zq20; obtain ⟨i034, hi034, _, hsz34, _⟩ := info_parts zja; have hroom34 : l0.length ≤ co31 := (zRr HO_0.out).2.1; have hC34 : Kd.C (Kd.int .i64) _ Ao31 l0.length l0 := (zRr HO_0.out).2.2; have hcut34 := zxd (P := Tryz.prog) 25 3 .i64 Tryz.underlying25 hi034 Ao31 l0.length co31 x5_1 (zde zq20) q34 hroom34; have hr34 := Kd.C_take (m := (x5_1 : Int).toNat) hC34 (by omega); have hy34 : y126.length = (x5_1 : Int).toNat := (by rw [Ny126.out, List.length_take]; omega); rw [← Ny126.out] at hr34; rw [← hy34] at hcut34; have HR129 := zA hr34; have HC129 := zA (show y126.length ≤ co31 from by omega); clear hr34 hC34 hroom34 hi034 hsz34; have KY34 := zA hy34; clear hy34; have KL34 := zA (show (x5_1 : Int).toNat ≤ l0.length from by omega); replace q34 := eq_true q34) | ((with_reducible refine zci (b := .append) (xs := #[.tmp 34, .tmp 37]) rfl ?_); at_builtin; refine Kd.R_append_rows (Kd.int .i64) (w0 := w0) w0.heap.size rfl (.tmp 34) (.tmp 37) 25 3 (.int .i64 0) 8 rfl Tryz.underlying25 zja rfl (by decide) (by omega) v124 y123 y126 _ _ _ (fun k_ => (P0_ k_ ∨ w.heap.size ≤ k_) ∧ some k_ ≠ (.slice Ao31 l0.length co31 : Value).ownBlock) (fun _ => False) rfl rfl ?aO ?aR (fun _ _ h => h) (fun _ h => h.elim) ?aF ?aB ?aS ?aL ?_; (case aR => repeat (first | exact (zq18 HR129) | (with_reducible first | refine zCa ?_ _ | refine zCn ?_ _ | refine zCd ?_))); (case aB => exact zq1); (case aF => exact (fun k_ hk => ⟨(.inr (Nat.le_trans zq29 hk)), Kd.fresh' (Kd.R_lt (zq2 HO_0)) k_ hk⟩)); (case aO => exact (by (with_reducible repeat (first | apply zRa | apply zRn | apply zRd)); exact Kd.R_mono HO125.out (fun _ hk => ⟨hk.1.1, hk.2⟩))); (case aS => exact (zaj zq1)); (case aL => have := LMc26.out; omega); intro v131 w35 ho hb hg hat; rw [← Ny130.out] at ho; replace HB := zA (hb); replace HK := zA (ziw (S := (fun k_ => P0_ k_)) hg zq16 (fun k_ e_ => (HO125.out.1 k_ e_).1.1)); replace HR129 := zA ((show Kd.C (Kd.int .i64) w35 Ao31 y126.length y126 from by rw [Ny126.out]; exact Kd.C_take (m := (x5_1 : Int).toNat) ((zRr (Kd.R_after (ok := (fun k_ => (P0_ k_ ∨ w.heap.size ≤ k_))) (zq2 HO_0) hg hat)).2.2) KL34.out)); replace HO_0 := zA (Kd.R_after (ok := (fun k_ => (P0_ k_ ∨ w.heap.size ≤ k_))) (zq2 HO_0) hg hat); have HO132 := zA (ho); clear HO125; clear ho hb hg hat) | ((with_reducible refine zci (b := .append) (xs := #[.tmp 39, .tmp 41]) rfl ?_); at_builtin; refine Kd.R_append (Kd.int .i64) (w0 := w0) w0.heap.size rfl (.tmp 39) (.tmp 41) 25 3 (.int .i64 0) 8 rfl Tryz.underlying25 zja rfl (by decide) (by omega) v131 y130 a1 [.int .i64 a1] (fun k_ => (P0_ k_ ∨ w.heap.size ≤ k_) ∧ some k_ ≠ (.slice Ao31 l0.length co31 : Value).ownBlock) (fun _ => False) rfl rfl ?aP (fun _ hk => hk.elim) ?aF ?aO ?aB ?aS ?aL ?_; (case aP => exact rfl); (case aB => exact zq1); (case aF => exact (fun k_ hk => ⟨(.inr (Nat.le_trans zq29 hk)), Kd.fresh' (Kd.R_lt (zq2 HO_0)) k_ hk⟩)); (case aO => exact (zq2 HO132)); (case aS => exact (zaj zq1)); (case aL => have := LMc27.out; omega); intro v134 w36 ho hb hg hat; rw [← Ny133.out] at ho; replace HB := zA (hb); replace HK := zA (ziw (S := (fun k_ => P0_ k_)) hg zq16 (fun k_ e_ => (HO132.out.1 k_ e_).1)); replace HR129 := zA ((show Kd.C (Kd.int .i64) w36 Ao31 y126.length y126 from by rw [Ny126.out]; exact Kd.C_take (m := (x5_1 : Int).toNat) ((zRr (Kd.R_after (ok := (fun k_ => (P0_ k_ ∨ w.heap.size ≤ k_))) (zq2 HO_0) hg hat)).2.2) KL34.out)); replace HO_0 := zA (Kd.R_after (ok := (fun k_ => (P0_ k_ ∨ w.heap.size ≤ k_))) (zq2 HO_0) hg hat); have HO135 := zA (ho); clear HO132; clear ho hb hg hat; have q37 : (x5_1 : Int) ≤ ((l0.length : Int) : Int) := zde zq20; obtain ⟨i037, hi037, _, hsz37, _⟩ := info_parts zja; have hroom37 : l0.length ≤ co31 := (zRr HO_0.out).2.1; have hC37 : Kd.C (Kd.int .i64) _ Ao31 l0.length l0 := (zRr HO_0.out).2.2; have q037 : (0 : Int) ≤ (x5_1 : Int) := zde zq20; have hcut37 := ztl (P := Tryz.prog) 25 3 .i64 Tryz.underlying25 hi037 1 hsz37 Ao31 l0.length co31 x5_1 q037 q37; have hr37 := Kd.C_drop (m := (x5_1 : Int).toNat) (c := co31) hC37 (by omega) hroom37; obtain ⟨A37, hA37⟩ : ∃ A1, A1 = (if co31 = (x5_1 : Int).toNat then Ao31 else (Ao31 : Option Addr).map (·.add ((x5_1 : Int).toNat * 1))) := ⟨_, rfl⟩; obtain ⟨c37, hc37⟩ : ∃ c1, c1 = co31 - (x5_1 : Int).toNat := ⟨_, rfl⟩; have hy37 : y136.length = l0.length - (x5_1 : Int).toNat := (by rw [Ny136.out, List.length_drop] <;> omega); rw [show (l0).drop (x5_1 : Int).toNat = y136 from Ny136.out.symm] at hr37; replace hr37 : Kd.C (Kd.int .i64) _ A37 y136.length y136 := (by rw [hA37]; exact hr37); rw [← hy37, ← hA37, ← hc37] at hcut37; have HR139 := zA hr37; have HC139 := zA (show y136.length ≤ c37 from by rw [hy37, hc37]; exact Nat.sub_le_sub_right hroom37 _); clear hr37 hC37 hroom37 hi037 hsz37 hc37; have KY37 := zA hy37; have KA37 := zA hA37; clear hy37 hA37; have KL37 := zA (show (x5_1 : Int).toNat ≤ l0.length from by omega); replace q37 := eq_true q37) | ((with_reducible refine zci (b := .append) (xs := #[.tmp 43, .tmp 46]) rfl ?_); at_builtin; refine Kd.R_append_rows (Kd.int .i64) (w0 := w0) w0.heap.size rfl (.tmp 43) (.tmp 46) 25 3 (.int .i64 0) 8 rfl Tryz.underlying25 zja rfl (by decide) (by omega) v134 y133 y136 _ _ _ (fun k_ => (P0_ k_ ∨ w.heap.size ≤ k_) ∧ some k_ ≠ (.slice Ao31 l0.length co31 : Value).ownBlock) (fun _ => False) rfl rfl ?aO ?aR (fun _ _ h => h) (fun _ h => h.elim) ?aF ?aB ?aS ?aL ?_; (case aR => repeat (first | exact (zq18 HR139) | (with_reducible first | refine zCa ?_ _ | refine zCn ?_ _ | refine zCd ?_))); (case aB => exact zq1); (case aF => exact (fun k_ hk => ⟨(.inr (Nat.le_trans zq29 hk)), Kd.fresh' (Kd.R_lt (zq2 HO_0)) k_ hk⟩)); (case aO => exact (zq2 HO135)); (case aS => exact (zaj zq1)); (case aL => have := LMc30.out; omega); intro v141 w38 ho hb hg hat; rw [← Ny140.out] at ho; replace HB := zA (hb); replace HK := zA (ziw (S := (fun k_ => P0_ k_)) hg zq16 (fun k_ e_ => (HO135.out.1 k_ e_).1)); replace HR129 := zA ((show Kd.C (Kd.int .i64) w38 Ao31 y126.length y126 from by rw [Ny126.out]; exact Kd.C_take (m := (x5_1 : Int).toNat) ((zRr (Kd.R_after (ok := (fun k_ => (P0_ k_ ∨ w.heap.size ≤ k_))) (zq2 HO_0) hg hat)).2.2) KL34.out)); replace HR139 := zA ((show Kd.C (Kd.int .i64) w38 A37 y136.length y136 from by rw [Ny136.out, KA37.out]; exact Kd.C_drop (m := (x5_1 : Int).toNat) (c := co31) ((zRr (Kd.R_after (ok := (fun k_ => (P0_ k_ ∨ w.heap.size ≤ k_))) (zq2 HO_0) hg hat)).2.2) KL37.out ((zRr (Kd.R_after (ok := (fun k_ => (P0_ k_ ∨ w.heap.size ≤ k_))) (zq2 HO_0) hg hat)).2.1))); replace HO_0 := zA (Kd.R_after (ok := (fun k_ => (P0_ k_ ∨ w.heap.size ≤ k_))) (zq2 HO_0) hg hat); have HO142 := zA (ho); clear HO135; clear ho hb hg hat))
   go_ret
   exact ⟨_, zq5, zq77 HO142, zq1, zq16⟩
 revert H
 refine zin fun c4 H => ?_
 revert H
 refine zit (fun c5b0 H => ?_) fun c5b0 H => ?_
 · have H' := zA H
   clear H
   obtain ⟨Ao6, co6, eo6⟩ := Kd.R_slice HO_0.out
   subst eo6
   obtain ⟨p101, q101⟩ := zpq x5_1 l0.length
   obtain ⟨ad101, e101, hx101_0⟩ := Kd.at_int (zRr HO_0.out).2.2 x5_1 (zoe p101) (zoe q101)
   cases e101
   go_wp2
   go_roundg k1
   case measure => have := HK1.out; omega
   case rel => exact ⟨(wrap64 (x5_1 + 1)), zq7, H', ⟨zq51 HK1⟩, ⟨zq2 HO_0⟩, ⟨zq16⟩, ⟨zq1⟩⟩
 by_cases c7 : (rd l0 x5_1) = a1
 · rw [if_pos c7] at H
   obtain ⟨c7b0, c7b1⟩ := zbe c7
   clear c7
   obtain rfl := zsi H
   obtain ⟨Ao8, co8, eo8⟩ := Kd.R_slice HO_0.out
   subst eo8
   obtain ⟨p101, q101⟩ := zpq x5_1 l0.length
   obtain ⟨ad101, e101, hx101_0⟩ := Kd.at_int (zRr HO_0.out).2.2 x5_1 (zoe p101) (zoe q101)
   cases e101
   obtain ⟨p102, q102⟩ := zpq x5_1 l0.length
   obtain ⟨ad102, e102, hx102_0⟩ := Kd.at_int (zRr HO_0.out).2.2 x5_1 (zoe p102) (zoe q102)
   obtain rfl : ad101 = ad102 := (by injection e102)
   go_wp2
   go_ret
   exact ⟨_, zq5, zq2 HO_0, zq1, zq16⟩
 rw [if_neg c7] at H
 obtain ⟨c7b0, c7b1⟩ := zbq c7
 obtain ⟨y103, hy103⟩ : ∃ y_ : List Int, y_ = (([] : List Int)) := ⟨_, rfl⟩
 replace H : (if x5_1 ≤ (l0.length : Int) then ((some (l0.take (x5_1 : Int).toNat : List Int)).bind fun y106 => (if y103.length + y106.length < 17592186044416 then ((some (y103 ++ y106 : List Int)).bind fun y110 => (if y110.length < 17592186044416 then ((some (y110 ++ [a1] : List Int)).bind fun y113 => ((some (l0.drop (x5_1 : Int).toNat : List Int)).bind fun y116 => (if y113.length + y116.length < 17592186044416 then (some (y113 ++ y116)) else (none)))) else (none))) else (none))) else (none)) = some r := by first | (rw [hy103]; with_reducible exact H) | (have H2_ := (Option.bind_some _ _).symm.trans H; rw [hy103]; with_reducible exact H2_) | (have H2_ := (Option.bind_some _ _).symm.trans H; with_reducible exact H2_) | with_reducible exact H | (rw [hy103]; exact H) | exact H
 have Ny103 := zA hy103
 clear hy103
 have c9b0 := eq_true (zde zq20 : 0 ≤ x5_1)
 by_cases c10 : x5_1 ≤ (l0.length : Int)
 rotate_left
 · rw [if_neg c10] at H
   exact absurd H (by simp)
 rw [if_pos c10] at H
 have c10b0 := eq_true c10
 have c10b1 := zdt c10
 clear c10
 obtain ⟨y106, hy106⟩ : ∃ y_ : List Int, y_ = (l0.take (x5_1 : Int).toNat) := ⟨_, rfl⟩
 rw [← hy106] at H; try with_reducible replace H := zbs H
 have Ny106 := zA hy106
 clear hy106
 by_cases c11 : y103.length + y106.length < 17592186044416
 rotate_left
 · rw [if_neg c11] at H
   exact absurd H (by simp)
 rw [if_pos c11] at H
 have LMc11 := zA c11
 clear c11
 obtain ⟨y110, hy110⟩ : ∃ y_ : List Int, y_ = (y103 ++ y106) := ⟨_, rfl⟩
 rw [← hy110] at H; try with_reducible replace H := zbs H
 have Ny110 := zA hy110
 clear hy110
 by_cases c12 : y110.length < 17592186044416
 rotate_left
 · rw [if_neg c12] at H
   exact absurd H (by simp)
 rw [if_pos c12] at H
 have LMc12 := zA c12
 clear c12
 obtain ⟨y113, hy113⟩ : ∃ y_ : List Int, y_ = (y110 ++ [a1]) := ⟨_, rfl⟩
 rw [← hy113] at H; try with_reducible replace H := zbs H
 have Ny113 := zA hy113
 clear hy113
 have c13b0 := eq_true (zde zq20 : 0 ≤ x5_1)
 have c14b0 := eq_true (zde zq20 : x5_1 ≤ (l0.length : Int))
 obtain ⟨y116, hy116⟩ : ∃ y_ : List Int, y_ = (l0.drop (x5_1 : Int).toNat) := ⟨_, rfl⟩
 rw [← hy116] at H; try with_reducible replace H := zbs H
 have Ny116 := zA hy116
 clear hy116
 by_cases c15 : y113.length + y116.length < 17592186044416
 rotate_left
 · rw [if_neg c15] at H
   exact absurd H (by simp)
 rw [if_pos c15] at H
 have LMc15 := zA c15
 clear c15
 obtain ⟨y120, hy120⟩ : ∃ y_ : List Int, y_ = (y113 ++ y116) := ⟨_, rfl⟩
 rw [← hy120] at H; try with_reducible replace H := zbs H
 have Ny120 := zA hy120
 clear hy120
 obtain rfl := zsi H
 obtain ⟨Ao16, co16, eo16⟩ := Kd.R_slice HO_0.out
 subst eo16
 obtain ⟨p101, q101⟩ := zpq x5_1 l0.length
 obtain ⟨ad101, e101, hx101_0⟩ := Kd.at_int (zRr HO_0.out).2.2 x5_1 (zoe p101) (zoe q101)
 cases e101
 obtain ⟨p102, q102⟩ := zpq x5_1 l0.length
 obtain ⟨ad102, e102, hx102_0⟩ := Kd.at_int (zRr HO_0.out).2.2 x5_1 (zoe p102) (zoe q102)
 obtain rfl : ad101 = ad102 := (by injection e102)
 go_wp2_with (first | ((with_reducible refine zgd 34 ?_); refine Kd.R_lit (Kd.int .i64) _ 3 ?hg (N := 34) ?hd (xs := ([] : List Int)) (inner := []) (ok := fun _ => True) (okp := fun _ => True) ?hr ?hp (fun _ hk => hk) trivial (Below.refl _ _) (zlr _) (by simp) ?_; (case hd => rfl); (case hg => rfl); (case hr => go_simp <;> rfl); (case hp => exact (Reps.none _ _)); intro v104 w17 ho18 hb hg_ hnew_; clear hg_ hnew_; (first | rw [← Ny103.out] at ho18 | (simp only [Int.reduceToNat] at ho18; rw [← Ny103.out] at ho18)); have HO105 := zA (Kd.R_lower (Kd.R_new' (Kd.R_newM (M := fun k_ => (P0_ k_ ∨ w.heap.size ≤ k_)) ho18 zq29 (fun k_ h_ => .inr h_)) (Kd.R_lt (zq2 HO_0))) (zaj zq1)); replace HO_0 := zA (Kd.R_elder' (zq2 HO_0) (Kd.R_base ho18) hb); replace HK := zA (Kept.below (S := (fun k_ => P0_ k_)) zq16 hb); replace HB := zA (zab zq1 hb); clear hb ho18; have q19 : (x5_1 : Int) ≤ ((l0.length : Int) : Int) := zde zq20; obtain ⟨i019, hi019, _, hsz19, _⟩ := info_parts zja; have hroom19 : l0.length ≤ co16 := (zRr HO_0.out).2.1; have hC19 : Kd.C (Kd.int .i64) _ (some ad101) l0.length l0 := (zRr HO_0.out).2.2; have hcut19 := zxd (P := Tryz.prog) 25 3 .i64 Tryz.underlying25 hi019 (some ad101) l0.length co16 x5_1 (zde zq20) q19 hroom19; have hr19 := Kd.C_take (m := (x5_1 : Int).toNat) hC19 (by omega); have hy19 : y106.length = (x5_1 : Int).toNat := (by rw [Ny106.out, List.length_take]; omega); rw [← Ny106.out] at hr19; rw [← hy19] at hcut19; have HR109 := zA hr19; have HC109 := zA (show y106.length ≤ co16 from by omega); clear hr19 hC19 hroom19 hi019 hsz19; have KY19 := zA hy19; clear hy19; have KL19 := zA (show (x5_1 : Int).toNat ≤ l0.length from by omega); replace q19 := eq_true q19) | ((with_reducible refine zci (b := .append) (xs := #[.tmp 34, .tmp 37]) rfl ?_); at_builtin; refine Kd.R_append_rows (Kd.int .i64) (w0 := w0) w0.heap.size rfl (.tmp 34) (.tmp 37) 25 3 (.int .i64 0) 8 rfl Tryz.underlying25 zja rfl (by decide) (by omega) v104 y103 y106 _ _ _ (fun k_ => (P0_ k_ ∨ w.heap.size ≤ k_) ∧ some k_ ≠ (.slice (some ad101) l0.length co16 : Value).ownBlock) (fun _ => False) rfl rfl ?aO ?aR (fun _ _ h => h) (fun _ h => h.elim) ?aF ?aB ?aS ?aL ?_; (case aR => repeat (first | exact (zq18 HR109) | (with_reducible first | refine zCa ?_ _ | refine zCn ?_ _ | refine zCd ?_))); (case aB => exact zq1); (case aF => exact (fun k_ hk => ⟨(.inr (Nat.le_trans zq29 hk)), Kd.fresh' (Kd.R_lt (zq2 HO_0)) k_ hk⟩)); (case aO => exact (by (with_reducible repeat (first | apply zRa | apply zRn | apply zRd)); exact Kd.R_mono HO105.out (fun _ hk => ⟨hk.1.1, hk.2⟩))); (case aS => exact (zaj zq1)); (case aL => have := LMc11.out; omega); intro v111 w20 ho hb hg hat; rw [← Ny110.out] at ho; replace HB := zA (hb); replace HK := zA (ziw (S := (fun k_ => P0_ k_)) hg zq16 (fun k_ e_ => (HO105.out.1 k_ e_).1.1)); replace HR109 := zA ((show Kd.C (Kd.int .i64) w20 (some ad101) y106.length y106 from by rw [Ny106.out]; exact Kd.C_take (m := (x5_1 : Int).toNat) ((zRr (Kd.R_after (ok := (fun k_ => (P0_ k_ ∨ w.heap.size ≤ k_))) (zq2 HO_0) hg hat)).2.2) KL19.out)); replace HO_0 := zA (Kd.R_after (ok := (fun k_ => (P0_ k_ ∨ w.heap.size ≤ k_))) (zq2 HO_0) hg hat); have HO112 := zA (ho); clear HO105; clear ho hb hg hat) | ((with_reducible refine zci (b := .append) (xs := #[.tmp 39, .tmp 41]) rfl ?_); at_builtin; refine Kd.R_append (Kd.int .i64) (w0 := w0) w0.heap.size rfl (.tmp 39) (.tmp 41) 25 3 (.int .i64 0) 8 rfl Tryz.underlying25 zja rfl (by decide) (by omega) v111 y110 a1 [.int .i64 a1] (fun k_ => (P0_ k_ ∨ w.heap.size ≤ k_) ∧ some k_ ≠ (.slice (some ad101) l0.length co16 : Value).ownBlock) (fun _ => False) rfl rfl ?aP (fun _ hk => hk.elim) ?aF ?aO ?aB ?aS ?aL ?_; (case aP => exact rfl); (case aB => exact zq1); (case aF => exact (fun k_ hk => ⟨(.inr (Nat.le_trans zq29 hk)), Kd.fresh' (Kd.R_lt (zq2 HO_0)) k_ hk⟩)); (case aO => exact (zq2 HO112)); (case aS => exact (zaj zq1)); (case aL => have := LMc12.out; omega); intro v114 w21 ho hb hg hat; rw [← Ny113.out] at ho; replace HB := zA (hb); replace HK := zA (ziw (S := (fun k_ => P0_ k_)) hg zq16 (fun k_ e_ => (HO112.out.1 k_ e_).1)); replace HR109 := zA ((show Kd.C (Kd.int .i64) w21 (some ad101) y106.length y106 from by rw [Ny106.out]; exact Kd.C_take (m := (x5_1 : Int).toNat) ((zRr (Kd.R_after (ok := (fun k_ => (P0_ k_ ∨ w.heap.size ≤ k_))) (zq2 HO_0) hg hat)).2.2) KL19.out)); replace HO_0 := zA (Kd.R_after (ok := (fun k_ => (P0_ k_ ∨ w.heap.size ≤ k_))) (zq2 HO_0) hg hat); have HO115 := zA (ho); clear HO112; clear ho hb hg hat; have q22 : (x5_1 : Int) ≤ ((l0.length : Int) : Int) := zde zq20; obtain ⟨i022, hi022, _, hsz22, _⟩ := info_parts zja; have hroom22 : l0.length ≤ co16 := (zRr HO_0.out).2.1; have hC22 : Kd.C (Kd.int .i64) _ (some ad101) l0.length l0 := (zRr HO_0.out).2.2; have q022 : (0 : Int) ≤ (x5_1 : Int) := zde zq20; have hcut22 := ztl (P := Tryz.prog) 25 3 .i64 Tryz.underlying25 hi022 1 hsz22 (some ad101) l0.length co16 x5_1 q022 q22; have hr22 := Kd.C_drop (m := (x5_1 : Int).toNat) (c := co16) hC22 (by omega) hroom22; obtain ⟨A22, hA22⟩ : ∃ A1, A1 = (if co16 = (x5_1 : Int).toNat then (some ad101) else ((some ad101) : Option Addr).map (·.add ((x5_1 : Int).toNat * 1))) := ⟨_, rfl⟩; obtain ⟨c22, hc22⟩ : ∃ c1, c1 = co16 - (x5_1 : Int).toNat := ⟨_, rfl⟩; have hy22 : y116.length = l0.length - (x5_1 : Int).toNat := (by rw [Ny116.out, List.length_drop] <;> omega); rw [show (l0).drop (x5_1 : Int).toNat = y116 from Ny116.out.symm] at hr22; replace hr22 : Kd.C (Kd.int .i64) _ A22 y116.length y116 := (by rw [hA22]; exact hr22); rw [← hy22, ← hA22, ← hc22] at hcut22; have HR119 := zA hr22; have HC119 := zA (show y116.length ≤ c22 from by rw [hy22, hc22]; exact Nat.sub_le_sub_right hroom22 _); clear hr22 hC22 hroom22 hi022 hsz22 hc22; have KY22 := zA hy22; have KA22 := zA hA22; clear hy22 hA22; have KL22 := zA (show (x5_1 : Int).toNat ≤ l0.length from by omega); replace q22 := eq_true q22) | ((with_reducible refine zci (b := .append) (xs := #[.tmp 43, .tmp 46]) rfl ?_); at_builtin; refine Kd.R_append_rows (Kd.int .i64) (w0 := w0) w0.heap.size rfl (.tmp 43) (.tmp 46) 25 3 (.int .i64 0) 8 rfl Tryz.underlying25 zja rfl (by decide) (by omega) v114 y113 y116 _ _ _ (fun k_ => (P0_ k_ ∨ w.heap.size ≤ k_) ∧ some k_ ≠ (.slice (some ad101) l0.length co16 : Value).ownBlock) (fun _ => False) rfl rfl ?aO ?aR (fun _ _ h => h) (fun _ h => h.elim) ?aF ?aB ?aS ?aL ?_; (case aR => repeat (first | exact (zq18 HR119) | (with_reducible first | refine zCa ?_ _ | refine zCn ?_ _ | refine zCd ?_))); (case aB => exact zq1); (case aF => exact (fun k_ hk => ⟨(.inr (Nat.le_trans zq29 hk)), Kd.fresh' (Kd.R_lt (zq2 HO_0)) k_ hk⟩)); (case aO => exact (zq2 HO115)); (case aS => exact (zaj zq1)); (case aL => have := LMc15.out; omega); intro v121 w23 ho hb hg hat; rw [← Ny120.out] at ho; replace HB := zA (hb); replace HK := zA (ziw (S := (fun k_ => P0_ k_)) hg zq16 (fun k_ e_ => (HO115.out.1 k_ e_).1)); replace HR109 := zA ((show Kd.C (Kd.int .i64) w23 (some ad101) y106.length y106 from by rw [Ny106.out]; exact Kd.C_take (m := (x5_1 : Int).toNat) ((zRr (Kd.R_after (ok := (fun k_ => (P0_ k_ ∨ w.heap.size ≤ k_))) (zq2 HO_0) hg hat)).2.2) KL19.out)); replace HR119 := zA ((show Kd.C (Kd.int .i64) w23 A22 y116.length y116 from by rw [Ny116.out, KA22.out]; exact Kd.C_drop (m := (x5_1 : Int).toNat) (c := co16) ((zRr (Kd.R_after (ok := (fun k_ => (P0_ k_ ∨ w.heap.size ≤ k_))) (zq2 HO_0) hg hat)).2.2) KL22.out ((zRr (Kd.R_after (ok := (fun k_ => (P0_ k_ ∨ w.heap.size ≤ k_))) (zq2 HO_0) hg hat)).2.1))); replace HO_0 := zA (Kd.R_after (ok := (fun k_ => (P0_ k_ ∨ w.heap.size ≤ k_))) (zq2 HO_0) hg hat); have HO122 := zA (ho); clear HO115; clear ho hb hg hat))
 go_ret
 exact ⟨_, zq5, zq77 HO122, zq1, zq16⟩
def zg8 (k : Nat) (a0_0 : ByteArray) (a0_1 : Int) (a0_2 : Int) (a0_3 : Int) (a0_4 : Int) : Option (List Int) := (ze6 k a0_0).bind fun bt102 => (if bt102.2.1 = true then ((zgk k ([] : List Int) a0_2).bind fun t107 => (if bt102.2.2.1 = true then ((zgk k t107 a0_3).bind fun t110 => (some t110)) else (some t107))) else (if bt102.2.2.1 = true then ((zgk k ([] : List Int) a0_3).bind fun t113 => (some t113)) else (some ([] : List Int))))
theorem zkc : ∀ a0 a1 a2 a3 a4 k, LeO (zg8 k a0 a1 a2 a3 a4) (zg8 (k + 1) a0 a1 a2 a3 a4) := by
 intro a0 a1 a2 a3 a4 k
 unfold zg8
 exact zm2 zgx ztt
theorem zn4 (k : Nat) (a0_0 : ByteArray) (a0_1 : Int) (a0_2 : Int) (a0_3 : Int) (a0_4 : Int) (r : List Int) (w : World) (h : zg8 k a0_0 a0_1 a0_2 a0_3 a0_4 = some r) :
   Calls Tryz.prog 140 #[.agg #[.string a0_0, .int .i64 a0_1, .int .i64 a0_2, .int .i64 a0_3, .int .i64 a0_4]] w fun e w' => ∃ v0_ : Value, e = .returned (v0_) ∧ Kd.R (Kd.int .i64) 3 w' w.heap.size (fun _ => True) v0_ r ∧ Below w.heap.size w w' := by
 have hu55 := Tryz.underlying55
 have HB := zA (Below.refl w.heap.size w)
 have H := h
 unfold zg8 at H
 clear h
 replace H := zob H
 obtain ⟨⟨t102, t103, t104, t105, t106⟩, A20, H⟩ := H
 have A2 := zA A20
 clear A20
 by_cases c3 : t103 = true
 rotate_left
 · replace c3 := zbf c3
   subst c3
   replace H := zif H
   by_cases c16 : t104 = true
   rotate_left
   · replace c16 := zbf c16
     subst c16
     replace H := zif H
     obtain rfl := zsi H
     go_enter Tryz.func140, Tryz.ntmps140
     go_wp2_with (first | ((with_reducible refine zgd 1 ?_); refine zbh zq1 #[.string a0_0, .int .i64 a0_1, .int .i64 a0_2, .int .i64 a0_3, .int .i64 a0_4] 55 ?_; clear HB; intro gb101 w21 HB BK101 GW101; have GE101 := GW101; obtain ⟨hcz22_0, hcz22_1, hcz22_2, hcz22_3, hcz22_4, hfz22_0, hfz22_1, hfz22_2, hfz22_3, hfz22_4⟩ := zd5 BK101) | ((with_reducible refine zgc 148 ?_); refine zcl 12 Tryz.func148 (zce k a0_0 t102 false false t105 t106 _ A2.out) ?_; rintro e w' ⟨rfl, ⟨nd, rfl⟩⟩; refine ⟨_, rfl, ?_⟩))
     go_ret
     exact ⟨_, zq5, zq25, zq10 GE101⟩
   subst c16
   replace H := zih H
   replace H := zob H
   obtain ⟨t113, A170, H⟩ := H
   have A17 := zA A170
   clear A170
   obtain rfl := zsi H
   go_enter Tryz.func140, Tryz.ntmps140
   go_wp2_with (first | ((with_reducible refine zgd 1 ?_); refine zbh zq1 #[.string a0_0, .int .i64 a0_1, .int .i64 a0_2, .int .i64 a0_3, .int .i64 a0_4] 55 ?_; clear HB; intro gb101 w18 HB BK101 GW101; have GE101 := GW101; obtain ⟨hcz19_0, hcz19_1, hcz19_2, hcz19_3, hcz19_4, hfz19_0, hfz19_1, hfz19_2, hfz19_3, hfz19_4⟩ := zd5 BK101) | ((with_reducible refine zgc 148 ?_); refine zcl 12 Tryz.func148 (zce k a0_0 t102 false true t105 t106 _ A2.out) ?_; rintro e w' ⟨rfl, ⟨nd, rfl⟩⟩; refine ⟨_, rfl, ?_⟩) | ((with_reducible refine znv (f := 156) rfl ?_); refine zt4 (some 27) rfl rfl Tryz.func156 zq27 rfl #[.slice none 0 0, .int .i64 a0_3] rfl zq31 ?_; (refine (zkz k (fun k_ => some k_ = (.slice none 0 0 : Value).ownBlock) (.slice none 0 0) ([] : List Int) a0_3 t113 w _ ?side1 ?side2 A17.out).mono ?_); (case side1 => repeat (first | (with_reducible first | exact HB.out | apply zba | apply zbn | apply zbd | refine zae ?_ GE101.out) | exact HB.out)); (case side2 => exact Kd.R_nil _ _ _ _ _); rintro e w20 ⟨v114, rfl, ho0, hb, hkp⟩; refine ⟨_, rfl, ?_⟩; replace BK101 := zA (zi0 (zq8 BK101) hkp (fun hs_ => (fun e_ => by simp [Value.ownBlock] at e_) hs_)); have HO115 := zA (Kd.R_mono (ok' := fun k_ => True) ho0 (fun k_ hk_ => trivial)); replace HB := zA (hb); (try clear hb); (try clear hkp); (try clear ho0)))
   go_ret
   exact ⟨_, zq5, zq2 HO115, zq10 GE101⟩
 subst c3
 replace H := zih H
 replace H := zob H
 obtain ⟨t107, A40, H⟩ := H
 have A4 := zA A40
 clear A40
 by_cases c5 : t104 = true
 rotate_left
 · replace c5 := zbf c5
   subst c5
   replace H := zif H
   obtain rfl := zsi H
   go_enter Tryz.func140, Tryz.ntmps140
   go_wp2_with (first | ((with_reducible refine zgd 1 ?_); refine zbh zq1 #[.string a0_0, .int .i64 a0_1, .int .i64 a0_2, .int .i64 a0_3, .int .i64 a0_4] 55 ?_; clear HB; intro gb101 w13 HB BK101 GW101; have GE101 := GW101; obtain ⟨hcz14_0, hcz14_1, hcz14_2, hcz14_3, hcz14_4, hfz14_0, hfz14_1, hfz14_2, hfz14_3, hfz14_4⟩ := zd5 BK101) | ((with_reducible refine zgc 148 ?_); refine zcl 12 Tryz.func148 (zce k a0_0 t102 true false t105 t106 _ A2.out) ?_; rintro e w' ⟨rfl, ⟨nd, rfl⟩⟩; refine ⟨_, rfl, ?_⟩) | ((with_reducible refine znv (f := 156) rfl ?_); refine zt4 (some 22) rfl rfl Tryz.func156 zq27 rfl #[.slice none 0 0, .int .i64 a0_2] rfl zq31 ?_; (refine (zkz k (fun k_ => some k_ = (.slice none 0 0 : Value).ownBlock) (.slice none 0 0) ([] : List Int) a0_2 t107 w _ ?side1 ?side2 A4.out).mono ?_); (case side1 => repeat (first | (with_reducible first | exact HB.out | apply zba | apply zbn | apply zbd | refine zae ?_ GE101.out) | exact HB.out)); (case side2 => exact Kd.R_nil _ _ _ _ _); rintro e w15 ⟨v108, rfl, ho0, hb, hkp⟩; refine ⟨_, rfl, ?_⟩; replace BK101 := zA (zi0 (zq8 BK101) hkp (fun hs_ => (fun e_ => by simp [Value.ownBlock] at e_) hs_)); have HO109 := zA (Kd.R_mono (ok' := fun k_ => True) ho0 (fun k_ hk_ => trivial)); replace HB := zA (hb); (try clear hb); (try clear hkp); (try clear ho0)))
   go_ret
   exact ⟨_, zq5, zq2 HO109, zq10 GE101⟩
 subst c5
 replace H := zih H
 replace H := zob H
 obtain ⟨t110, A60, H⟩ := H
 have A6 := zA A60
 clear A60
 obtain rfl := zsi H
 go_enter Tryz.func140, Tryz.ntmps140
 go_wp2_with (first | ((with_reducible refine zgd 1 ?_); refine zbh zq1 #[.string a0_0, .int .i64 a0_1, .int .i64 a0_2, .int .i64 a0_3, .int .i64 a0_4] 55 ?_; clear HB; intro gb101 w7 HB BK101 GW101; have GE101 := GW101; obtain ⟨hcz8_0, hcz8_1, hcz8_2, hcz8_3, hcz8_4, hfz8_0, hfz8_1, hfz8_2, hfz8_3, hfz8_4⟩ := zd5 BK101) | ((with_reducible refine zgc 148 ?_); refine zcl 12 Tryz.func148 (zce k a0_0 t102 true true t105 t106 _ A2.out) ?_; rintro e w' ⟨rfl, ⟨nd, rfl⟩⟩; refine ⟨_, rfl, ?_⟩) | ((with_reducible refine znv (f := 156) rfl ?_); refine zt4 (some 22) rfl rfl Tryz.func156 zq27 rfl #[.slice none 0 0, .int .i64 a0_2] rfl zq31 ?_; (refine (zkz k (fun k_ => some k_ = (.slice none 0 0 : Value).ownBlock) (.slice none 0 0) ([] : List Int) a0_2 t107 w _ ?side1 ?side2 A4.out).mono ?_); (case side1 => repeat (first | (with_reducible first | exact HB.out | apply zba | apply zbn | apply zbd | refine zae ?_ GE101.out) | exact HB.out)); (case side2 => exact Kd.R_nil _ _ _ _ _); rintro e w9 ⟨v108, rfl, ho0, hb, hkp⟩; refine ⟨_, rfl, ?_⟩; replace BK101 := zA (zi0 (zq8 BK101) hkp (fun hs_ => (fun e_ => by simp [Value.ownBlock] at e_) hs_)); have HO109 := zA (Kd.R_mono (ok' := fun k_ => True) ho0 (fun k_ hk_ => trivial)); replace HB := zA (hb); (try clear hb); (try clear hkp); (try clear ho0); obtain ⟨hcz10_0, hcz10_1, hcz10_2, hcz10_3, hcz10_4⟩ := zc5 w9 (.string a0_0) (.int .i64 a0_1) (.int .i64 a0_2) (.int .i64 a0_3) (.int .i64 a0_4) BK101.out; obtain ⟨hfz10_0, hfz10_1, hfz10_2, hfz10_3, hfz10_4⟩ := zf5 BK101.out; obtain ⟨Ao11, co11, eo11⟩ := Kd.R_slice HO109.out; subst eo11) | ((with_reducible refine zgc 156 ?_); refine zca 27 Tryz.func156 #[.slice Ao11 t107.length co11, .int .i64 a0_3] (zkz k (fun k_ => some k_ = (.slice Ao11 t107.length co11 : Value).ownBlock) (.slice Ao11 t107.length co11) t107 a0_3 t110 w _ (zq10 GE101) (zq80 HO109) A6.out) ?_; rintro e w12 ⟨v111, rfl, ho0, hb, hkp⟩; refine ⟨_, rfl, ?_⟩; replace BK101 := zA (zi0 (zq8 BK101) hkp (fun hs_ => (fun e_ => (Kd.R_ne HO109.out BK101.out (by decide)) e_) hs_)); have HO112 := zA (Kd.R_mono (ok' := fun k_ => True) ho0 (fun k_ hk_ => trivial)); replace HB := zA (hb); clear HO109; (try clear hb); (try clear hkp); (try clear ho0)))
 go_ret
 exact ⟨_, zq5, zq2 HO112, zq10 GE101⟩
def zfg (a0 : Int) (a1 : Int) : Option (Int) := if a0 > a1 then (some a0) else (some a1)
theorem zgy (a0 : Int) (a1 : Int) (r : Int) (w : World) (h : zfg a0 a1 = some r) :
   Calls Tryz.prog 103 #[.int .i64 a0, .int .i64 a1] w fun e w' => e = .returned (.int .i64 r) ∧ Drawn0 w w' := by
 have H := h
 unfold zfg at H
 clear h
 revert H
 refine zit (fun c3b0 H => ?_) fun c3b0 H => ?_
 · obtain rfl := zsi H
   go_enter Tryz.func103, Tryz.ntmps103
   exact zr_5
 · obtain rfl := zsi H
   go_enter Tryz.func103, Tryz.ntmps103
   exact zr_5
mutual
def ze2 : Nat → List (S55) → Int → Int → Int → ByteArray → Int → Int → Int → Int → ByteArray → Int → Int → Int → Int → Option (Int)
 | 0, _, _, _, _, _, _, _, _, _, _, _, _, _, _ => none
 | k + 1, x0, x1, x2, x9, x104000, x104001, x104002, x104003, x104004, x105000, x105001, x105002, x105003, x105004 => if x104001 = x105001 then (ze3 k x0 x1 x2 1 x104000 x104001 x104002 x104003 x104004 x105000 x105001 x105002 x105003 x105004) else (ze3 k x0 x1 x2 x9 x104000 x104001 x104002 x104003 x104004 x105000 x105001 x105002 x105003 x105004)
def ze3 : Nat → List (S55) → Int → Int → Int → ByteArray → Int → Int → Int → Int → ByteArray → Int → Int → Int → Int → Option (Int)
 | 0, _, _, _, _, _, _, _, _, _, _, _, _, _, _ => none
 | k + 1, x0, x1, x2, x9, x104000, x104001, x104002, x104003, x104004, x105000, x105001, x105002, x105003, x105004 => (zg8 k x105000 x105001 x105002 x105003 x105004).bind fun t109 => ((zhz k t109 x104001).bind fun t112 => (if t112 = true then (zd4 k x0 x1 x2 x9 x1 (wrap64 (x1 + 1)) x104000 x104001 x104002 x104003 x104004) else (some x9)))
def zd4 : Nat → List (S55) → Int → Int → Int → Int → Int → ByteArray → Int → Int → Int → Int → Option (Int)
 | 0, _, _, _, _, _, _, _, _, _, _, _ => none
 | k + 1, x0, x1, x2, x9, x10, x11, x104000, x104001, x104002, x104003, x104004 => if x11 < x2 then (if 0 ≤ x11 then (if x11 < (x0.length : Int) then (if ((zaa x0 x11).f1) = x104001 then (zd4 k x0 x1 x2 x9 x11 (wrap64 (x11 + 1)) x104000 x104001 x104002 x104003 x104004) else (zd4 k x0 x1 x2 x9 x10 (wrap64 (x11 + 1)) x104000 x104001 x104002 x104003 x104004)) else (none)) else (none)) else (if x10 = x1 then ((zhu x104000).bind fun t114 => ((zfg x9 t114).bind fun t115 => (some t115))) else (some x9))
end
def zh0 (k : Nat) (l0 : List (S55)) (a1 : Int) (a2 : Int) : Option (Int) := if 0 ≤ a1 then (if a1 < (l0.length : Int) then (if 0 ≤ a2 then (if a2 < (l0.length : Int) then ((zg8 k ((zaa l0 a1).f0) ((zaa l0 a1).f1) ((zaa l0 a1).f2) ((zaa l0 a1).f3) ((zaa l0 a1).f4)).bind fun t105 => ((zhz k t105 ((zaa l0 a2).f1)).bind fun t108 => (if t108 = true then (ze2 k l0 a1 a2 0 ((zaa l0 a1).f0) ((zaa l0 a1).f1) ((zaa l0 a1).f2) ((zaa l0 a1).f3) ((zaa l0 a1).f4) ((zaa l0 a2).f0) ((zaa l0 a2).f1) ((zaa l0 a2).f2) ((zaa l0 a2).f3) ((zaa l0 a2).f4)) else (ze2 k l0 a1 a2 (-1) ((zaa l0 a1).f0) ((zaa l0 a1).f1) ((zaa l0 a1).f2) ((zaa l0 a1).f3) ((zaa l0 a1).f4) ((zaa l0 a2).f0) ((zaa l0 a2).f1) ((zaa l0 a2).f2) ((zaa l0 a2).f3) ((zaa l0 a2).f4))))) else (none)) else (none)) else (none)) else (none)
theorem znj : ∀ k, (∀ y0 y1 y2 y3 y4 y5 y6 y7 y8 y9 y10 y11 y12 y13, LeO (ze2 k y0 y1 y2 y3 y4 y5 y6 y7 y8 y9 y10 y11 y12 y13) (ze2 (k + 1) y0 y1 y2 y3 y4 y5 y6 y7 y8 y9 y10 y11 y12 y13)) ∧ (∀ y0 y1 y2 y3 y4 y5 y6 y7 y8 y9 y10 y11 y12 y13, LeO (ze3 k y0 y1 y2 y3 y4 y5 y6 y7 y8 y9 y10 y11 y12 y13) (ze3 (k + 1) y0 y1 y2 y3 y4 y5 y6 y7 y8 y9 y10 y11 y12 y13)) ∧ (∀ y0 y1 y2 y3 y4 y5 y6 y7 y8 y9 y10, LeO (zd4 k y0 y1 y2 y3 y4 y5 y6 y7 y8 y9 y10) (zd4 (k + 1) y0 y1 y2 y3 y4 y5 y6 y7 y8 y9 y10))
 | 0 => ⟨fun _ _ _ _ _ _ _ _ _ _ _ _ _ _ r h => by simp [ze2] at h, fun _ _ _ _ _ _ _ _ _ _ _ _ _ _ r h => by simp [ze3] at h, fun _ _ _ _ _ _ _ _ _ _ _ r h => by simp [zd4] at h⟩
 | k + 1 => by
   obtain ⟨ih0, ih1, ih2⟩ := znj k
   refine ⟨?_, ?_, ?_⟩
   · intro y0 y1 y2 y3 y4 y5 y6 y7 y8 y9 y10 y11 y12 y13
     unfold ze2
     exact zm5 ih0 ih1 ih2 zkc zhd
   · intro y0 y1 y2 y3 y4 y5 y6 y7 y8 y9 y10 y11 y12 y13
     unfold ze3
     exact zm5 ih0 ih1 ih2 zkc zhd
   · intro y0 y1 y2 y3 y4 y5 y6 y7 y8 y9 y10
     unfold zd4
     exact zm5 ih0 ih1 ih2 zkc zhd
theorem zmb : ∀ a0 a1 a2 k, LeO (zh0 k a0 a1 a2) (zh0 (k + 1) a0 a1 a2) := by
 intro a0 a1 a2 k
 obtain ⟨ih0, ih1, ih2⟩ := znj k
 unfold zh0
 exact zm5 ih0 ih1 ih2 zkc zhd
def spec_orDelay.T1 : Bool × List (List Nat × List Nat) := (true, [([], []), ([], []), ([0, 1], [0, 1]), ([2], [2]), ([], []), ([], []), ([4, 5], [4, 5]), ([6], [6]), ([], []), ([], []), ([8, 3, 0, 1, 2, 3, 8, 9], [3, 8]), ([9, 7, 10, 0, 1, 2, 3, 4, 5, 6, 7, 8, 9, 10], [7, 9])])
def ztv : List Nat := [0, 0, 3, 7, 0, 0, 48, 112, 0, 0, 783, 2047]
theorem zsm : rtab .any (zun Tryz.f117 1) = spec_orDelay.T1 := by kernel_rfl
theorem zrp : zlc spec_orDelay.T1.2 ztv = true := by kernel_rfl
def spec_orDelay.T12 : Bool × List (List Nat × List Nat) := (true, [([], []), ([], []), ([0, 1], [0, 1]), ([2], [2]), ([3], [3]), ([], []), ([5], [5]), ([4, 6], [4, 6])])
def zs9 : List Nat := [0, 0, 3, 7, 15, 0, 32, 127]
theorem zrq : rtab .any (zun Tryz.f117 12) = spec_orDelay.T12 := by kernel_rfl
theorem zqq : zlc spec_orDelay.T12.2 zs9 = true := by kernel_rfl
theorem zrr (k : Nat) (A0 : Option Addr) (c0 : Nat) (l0 : List (S55)) (a1 : Int) (a2 : Int) (r : Int) (w : World) (hr0 : Kd.C k55 w A0 l0.length l0) (hc0 : l0.length ≤ c0) (h : zh0 k l0 a1 a2 = some r) :
   Calls Tryz.prog 117 #[.slice A0 l0.length c0, .int .i64 a1, .int .i64 a2] w fun e w' => e = .returned (.int .i64 r) ∧ Below w.heap.size w w' := by
 have hu55 := Tryz.underlying55
 have HR0 := zA hr0
 have HC0 := zA hc0
 clear hr0 hc0
 have HB := zA (Below.refl w.heap.size w)
 have H := h
 unfold zh0 at H
 clear h
 revert H
 refine zin fun c4 H => ?_
 revert H
 refine zin fun c5 H => ?_
 revert H
 refine zin fun c6 H => ?_
 revert H
 refine zin fun c7 H => ?_
 replace H := zob H
 obtain ⟨t105, A80, H⟩ := H
 have A8 := zA A80
 clear A80
 replace H := zob H
 obtain ⟨t108, A90, H⟩ := H
 have A9 := zA A90
 clear A90
 have HC10 := zA H
 clear H
 go_enter Tryz.func117, Tryz.ntmps117
 try go_wp2
 replace HB := zA (zbd HB.out)
 obtain ⟨p101, q101⟩ := zpq a1 l0.length
 obtain ⟨ad101, e101, hx101_0, hx101_1, hx101_2, hx101_3, hx101_4⟩ := zld HR0.out a1 (zoe p101) (zoe q101)
 have hw101_4 := hx101_4
 have hw101_3 := hx101_3
 have hw101_2 := hx101_2
 have hw101_1 := hx101_1
 have hw101_0 := hx101_0
 cases e101
 replace hx101_0 := zkep HB.out hx101_0
 replace hx101_1 := zkep HB.out hx101_1
 replace hx101_2 := zkep HB.out hx101_2
 replace hx101_3 := zkep HB.out hx101_3
 replace hx101_4 := zkep HB.out hx101_4
 obtain ⟨p102, q102⟩ := zpq a2 l0.length
 obtain ⟨ad102, e102, hx102_0, hx102_1, hx102_2, hx102_3, hx102_4⟩ := zld HR0.out a2 (zoe p102) (zoe q102)
 have hw102_4 := hx102_4
 have hw102_3 := hx102_3
 have hw102_2 := hx102_2
 have hw102_1 := hx102_1
 have hw102_0 := hx102_0
 obtain rfl : ad101 = ad102 := (by injection e102)
 replace hx102_0 := zkep HB.out hx102_0
 replace hx102_1 := zkep HB.out hx102_1
 replace hx102_2 := zkep HB.out hx102_2
 replace hx102_3 := zkep HB.out hx102_3
 replace hx102_4 := zkep HB.out hx102_4
 refine zmx (n := 12) (S := fun w' => w'.cell? (ad101.add ((a1).toNat * 5)) = some (.string ((zaa l0 a1).f0)) ∧ w'.cell? ⟨(ad101.add ((a1).toNat * 5)).block, (ad101.add ((a1).toNat * 5)).off + 1, none⟩ = some (.int .i64 ((zaa l0 a1).f1)) ∧ w'.cell? ⟨(ad101.add ((a1).toNat * 5)).block, (ad101.add ((a1).toNat * 5)).off + 2, none⟩ = some (.int .i64 ((zaa l0 a1).f2)) ∧ w'.cell? ⟨(ad101.add ((a1).toNat * 5)).block, (ad101.add ((a1).toNat * 5)).off + 3, none⟩ = some (.int .i64 ((zaa l0 a1).f3)) ∧ w'.cell? ⟨(ad101.add ((a1).toNat * 5)).block, (ad101.add ((a1).toNat * 5)).off + 4, none⟩ = some (.int .i64 ((zaa l0 a1).f4)) ∧ w'.cell? (ad101.add ((a2).toNat * 5)) = some (.string ((zaa l0 a2).f0)) ∧ w'.cell? ⟨(ad101.add ((a2).toNat * 5)).block, (ad101.add ((a2).toNat * 5)).off + 1, none⟩ = some (.int .i64 ((zaa l0 a2).f1)) ∧ w'.cell? ⟨(ad101.add ((a2).toNat * 5)).block, (ad101.add ((a2).toNat * 5)).off + 2, none⟩ = some (.int .i64 ((zaa l0 a2).f2)) ∧ w'.cell? ⟨(ad101.add ((a2).toNat * 5)).block, (ad101.add ((a2).toNat * 5)).off + 3, none⟩ = some (.int .i64 ((zaa l0 a2).f3)) ∧ w'.cell? ⟨(ad101.add ((a2).toNat * 5)).block, (ad101.add ((a2).toNat * 5)).off + 4, none⟩ = some (.int .i64 ((zaa l0 a2).f4))) (ds := []) #[false, false, false, false, false, false, false, false, false, false, false, false] zq27 rfl rfl ⟨(zkep HB.out hw101_0), (zkep HB.out hw101_1), (zkep HB.out hw101_2), (zkep HB.out hw101_3), (zkep HB.out hw101_4), (zkep HB.out hw102_0), (zkep HB.out hw102_1), (zkep HB.out hw102_2), (zkep HB.out hw102_3), (zkep HB.out hw102_4)⟩ (fun hHeld => ?_); refine zji zsm zrp (fun HT_ HW_ => ?_)
 generalize w.drew = w11 at HB hx101_0 hx101_1 hx101_2 hx101_3 hx101_4 hx102_0 hx102_1 hx102_2 hx102_3 hx102_4 hHeld ⊢
 refine zpu 0 12 HT_ ?_
 refine zpu 1 13 HT_ ?_
 refine zpu 2 14 HT_ ?_
 refine zpu 4 16 HT_ ?_
 refine zpu 5 17 HT_ ?_
 refine zpu 6 18 HT_ ?_
 refine ztu 3 15 HT_ HW_ hHeld ?_
 refine ztu 7 19 HT_ HW_ hHeld ?_
 refine yfo (σ := Nat × Nat) 2 #[true, true, true, true, true, true, true, true, true, true, false, false] (fun s_ => [(7, .pointer (some ⟨s_.1, 0, none⟩)), (8, .pointer (some ⟨s_.2, 0, none⟩))]) (fun s_ w' => (w'.cell? (ad101.add ((a1).toNat * 5)) = some (.string ((zaa l0 a1).f0)) ∧ w'.cell? ⟨(ad101.add ((a1).toNat * 5)).block, (ad101.add ((a1).toNat * 5)).off + 1, none⟩ = some (.int .i64 ((zaa l0 a1).f1)) ∧ w'.cell? ⟨(ad101.add ((a1).toNat * 5)).block, (ad101.add ((a1).toNat * 5)).off + 2, none⟩ = some (.int .i64 ((zaa l0 a1).f2)) ∧ w'.cell? ⟨(ad101.add ((a1).toNat * 5)).block, (ad101.add ((a1).toNat * 5)).off + 3, none⟩ = some (.int .i64 ((zaa l0 a1).f3)) ∧ w'.cell? ⟨(ad101.add ((a1).toNat * 5)).block, (ad101.add ((a1).toNat * 5)).off + 4, none⟩ = some (.int .i64 ((zaa l0 a1).f4)) ∧ w'.cell? (ad101.add ((a2).toNat * 5)) = some (.string ((zaa l0 a2).f0)) ∧ w'.cell? ⟨(ad101.add ((a2).toNat * 5)).block, (ad101.add ((a2).toNat * 5)).off + 1, none⟩ = some (.int .i64 ((zaa l0 a2).f1)) ∧ w'.cell? ⟨(ad101.add ((a2).toNat * 5)).block, (ad101.add ((a2).toNat * 5)).off + 2, none⟩ = some (.int .i64 ((zaa l0 a2).f2)) ∧ w'.cell? ⟨(ad101.add ((a2).toNat * 5)).block, (ad101.add ((a2).toNat * 5)).off + 3, none⟩ = some (.int .i64 ((zaa l0 a2).f3)) ∧ w'.cell? ⟨(ad101.add ((a2).toNat * 5)).block, (ad101.add ((a2).toNat * 5)).off + 4, none⟩ = some (.int .i64 ((zaa l0 a2).f4))) ∧ (w'.heap[s_.1]? = some (.cells #[.string (⟨#[]⟩ : ByteArray), .int .i64 0, .int .i64 0, .int .i64 0, .int .i64 0] 55 (0, 0))) ∧ (w'.heap[s_.2]? = some (.cells #[.string (⟨#[]⟩ : ByteArray), .int .i64 0, .int .i64 0, .int .i64 0, .int .i64 0] 55 (0, 0))) ∧ (w.heap.size ≤ s_.1) ∧ (w.heap.size ≤ s_.1) ∧ (s_.2 ≠ s_.1) ∧ (s_.1 ≠ s_.2) ∧ (w.heap.size ≤ s_.2) ∧ (w.heap.size ≤ s_.2) ∧ (Below w.heap.size w w')) ?_ ?_
 rotate_left
 · intro hCont
   refine two_ (i := 8) (j := 9) (Ni := some 7) (Nj := some 8) #[true, true, true, true, true, true, true, true, true, false, false, false] #[true, true, true, true, true, true, true, true, false, true, false, false] rfl rfl rfl rfl (yfp HT_.out zq27) (by decide) (by decide) (fun K hK => ?_) (fun K hK => ?_)
   · skip
     refine zqb ?hg (N := 7) ?hd (cs := #[.string (⟨#[]⟩ : ByteArray), .int .i64 0, .int .i64 0, .int .i64 0, .int .i64 0]) (t := 55) ?hr ?_; (case hd => rfl); (case hg => rfl); (case hr => go_simp <;> rfl)
     intro gb103 hg w12 hbox hb
     have BK103 := zA (hbox)
     have GW103 := zA ((by rw [hg]; exact (zaj zq1) : w.heap.size ≤ gb103))
     have GE103 := zA ((by rw [hg]; exact (zaj zq1) : w.heap.size ≤ gb103))
     replace HB := zA (zab zq1 hb)
     clear hb hbox hg
     refine hK.out _ _ ⟨(zkep HB.out hw101_0), (zkep HB.out hw101_1), (zkep HB.out hw101_2), (zkep HB.out hw101_3), (zkep HB.out hw101_4), (zkep HB.out hw102_0), (zkep HB.out hw102_1), (zkep HB.out hw102_2), (zkep HB.out hw102_3), (zkep HB.out hw102_4)⟩ (fun hHeld => ?_)
     clear hK K
     refine znm 7 ?_
     refine one_ (i := 9) (N := some 8) #[true, true, true, true, true, true, true, true, true, true, false, false] rfl rfl (zl7 HT_.out zq27) (by decide) (fun K hK => ?_)
     refine zqb ?hg (N := 8) ?hd (cs := #[.string (⟨#[]⟩ : ByteArray), .int .i64 0, .int .i64 0, .int .i64 0, .int .i64 0]) (t := 55) ?hr ?_; (case hd => rfl); (case hg => rfl); (case hr => go_simp <;> rfl)
     intro gb104 hg w13 hbox hb
     have BK104 := zA (hbox)
     have GW104 := zA ((by rw [hg]; exact (zaj (zq10 GE103)) : w.heap.size ≤ gb104))
     have GE104 := zA ((by rw [hg]; exact (zaj (zq10 GE103)) : w.heap.size ≤ gb104))
     replace HB := zA (zab (zq10 GE103) hb)
     have NB103_104 := zA ((zq35 BK103 : gb103 ≠ gb104))
     have NB104_103 := zA ((by rw [hg]; exact Nat.ne_of_gt (zlt BK103.out (fun h => by (with_reducible repeat (first | refine zkn ?_ _ | refine zkd ?_ | refine zka ?_ _)); exact h)) : gb104 ≠ gb103))
     replace BK103 := zA (zar (g := gb103) (o := .cells #[.string (⟨#[]⟩ : ByteArray), .int .i64 0, .int .i64 0, .int .i64 0, .int .i64 0] 55 (0, 0)) (zq8 BK103) hb)
     clear hb hbox hg
     refine hK.out _ _ ⟨(zkep HB.out hw101_0), (zkep HB.out hw101_1), (zkep HB.out hw101_2), (zkep HB.out hw101_3), (zkep HB.out hw101_4), (zkep HB.out hw102_0), (zkep HB.out hw102_1), (zkep HB.out hw102_2), (zkep HB.out hw102_3), (zkep HB.out hw102_4)⟩ (fun hHeld => ?_)
     clear hK K
     refine znm 8 ?_
     exact zx3 zq60 (hCont (gb103, gb104) _ ⟨hHeld, (zq8 BK103), (zq8 BK104), GW103.out, GE103.out, NB104_103.out, NB103_104.out, GW104.out, GE104.out, (zq9 GE103 GE104)⟩)
   skip
   refine zqb ?hg (N := 8) ?hd (cs := #[.string (⟨#[]⟩ : ByteArray), .int .i64 0, .int .i64 0, .int .i64 0, .int .i64 0]) (t := 55) ?hr ?_; (case hd => rfl); (case hg => rfl); (case hr => go_simp <;> rfl)
   intro gb104 hg w12 hbox hb
   have BK104 := zA (hbox)
   have GW104 := zA ((by rw [hg]; exact (zaj zq1) : w.heap.size ≤ gb104))
   have GE104 := zA ((by rw [hg]; exact (zaj zq1) : w.heap.size ≤ gb104))
   replace HB := zA (zab zq1 hb)
   clear hb hbox hg
   refine hK.out _ _ ⟨(zkep HB.out hw101_0), (zkep HB.out hw101_1), (zkep HB.out hw101_2), (zkep HB.out hw101_3), (zkep HB.out hw101_4), (zkep HB.out hw102_0), (zkep HB.out hw102_1), (zkep HB.out hw102_2), (zkep HB.out hw102_3), (zkep HB.out hw102_4)⟩ (fun hHeld => ?_)
   clear hK K
   refine znm 8 ?_
   refine one_ (i := 8) (N := some 7) #[true, true, true, true, true, true, true, true, true, true, false, false] rfl rfl (zl7 HT_.out zq27) (by decide) (fun K hK => ?_)
   refine zqb ?hg (N := 7) ?hd (cs := #[.string (⟨#[]⟩ : ByteArray), .int .i64 0, .int .i64 0, .int .i64 0, .int .i64 0]) (t := 55) ?hr ?_; (case hd => rfl); (case hg => rfl); (case hr => go_simp <;> rfl)
   intro gb103 hg w13 hbox hb
   have BK103 := zA (hbox)
   have GW103 := zA ((by rw [hg]; exact (zaj (zq10 GE104)) : w.heap.size ≤ gb103))
   have GE103 := zA ((by rw [hg]; exact (zaj (zq10 GE104)) : w.heap.size ≤ gb103))
   replace HB := zA (zab (zq10 GE104) hb)
   have NB104_103 := zA ((zq35 BK104 : gb104 ≠ gb103))
   have NB103_104 := zA ((by rw [hg]; exact Nat.ne_of_gt (zlt BK104.out (fun h => by (with_reducible repeat (first | refine zkn ?_ _ | refine zkd ?_ | refine zka ?_ _)); exact h)) : gb103 ≠ gb104))
   replace BK104 := zA (zar (g := gb104) (o := .cells #[.string (⟨#[]⟩ : ByteArray), .int .i64 0, .int .i64 0, .int .i64 0, .int .i64 0] 55 (0, 0)) (zq8 BK104) hb)
   clear hb hbox hg
   refine hK.out _ _ ⟨(zkep HB.out hw101_0), (zkep HB.out hw101_1), (zkep HB.out hw101_2), (zkep HB.out hw101_3), (zkep HB.out hw101_4), (zkep HB.out hw102_0), (zkep HB.out hw102_1), (zkep HB.out hw102_2), (zkep HB.out hw102_3), (zkep HB.out hw102_4)⟩ (fun hHeld => ?_)
   clear hK K
   refine znm 7 ?_
   exact zx3 zq60 (hCont (gb103, gb104) _ ⟨hHeld, (zq8 BK103), (zq8 BK104), GW103.out, GE103.out, NB104_103.out, NB103_104.out, GW104.out, GE104.out, (zq9 GE104 GE103)⟩)
 rintro ⟨gb103, gb104⟩ w14 ⟨hS_, h0_, h1_, h2_, h3_, h4_, h5_, h6_, h7_, h8_⟩
 have n0_ : Aside0 (w14.heap[gb103]? = some (.cells #[.string (⟨#[]⟩ : ByteArray), .int .i64 0, .int .i64 0, .int .i64 0, .int .i64 0] 55 (0, 0))) := ⟨h0_⟩
 have n1_ : Aside0 (w14.heap[gb104]? = some (.cells #[.string (⟨#[]⟩ : ByteArray), .int .i64 0, .int .i64 0, .int .i64 0, .int .i64 0] 55 (0, 0))) := ⟨h1_⟩
 have n2_ : Aside0 (w.heap.size ≤ gb103) := ⟨h2_⟩
 have n3_ : Aside0 (w.heap.size ≤ gb103) := ⟨h3_⟩
 have n4_ : Aside0 (gb104 ≠ gb103) := ⟨h4_⟩
 have n5_ : Aside0 (gb103 ≠ gb104) := ⟨h5_⟩
 have n6_ : Aside0 (w.heap.size ≤ gb104) := ⟨h6_⟩
 have n7_ : Aside0 (w.heap.size ≤ gb104) := ⟨h7_⟩
 have n8_ : Aside0 (Below w.heap.size w w14) := ⟨h8_⟩
 clear HB
 clear h0_ h1_ h2_ h3_ h4_ h5_ h6_ h7_ h8_
 have BK103 := n0_
 have BK104 := n1_
 have GW103 := n2_
 have GE103 := n3_
 have NB104_103 := n4_
 have NB103_104 := n5_
 have GW104 := n6_
 have GE104 := n7_
 have HB := n8_
 clear n0_ n1_ n2_ n3_ n4_ n5_ n6_ n7_ n8_
 have hHeld : w14.cell? (ad101.add ((a1).toNat * 5)) = some (.string ((zaa l0 a1).f0)) ∧ w14.cell? ⟨(ad101.add ((a1).toNat * 5)).block, (ad101.add ((a1).toNat * 5)).off + 1, none⟩ = some (.int .i64 ((zaa l0 a1).f1)) ∧ w14.cell? ⟨(ad101.add ((a1).toNat * 5)).block, (ad101.add ((a1).toNat * 5)).off + 2, none⟩ = some (.int .i64 ((zaa l0 a1).f2)) ∧ w14.cell? ⟨(ad101.add ((a1).toNat * 5)).block, (ad101.add ((a1).toNat * 5)).off + 3, none⟩ = some (.int .i64 ((zaa l0 a1).f3)) ∧ w14.cell? ⟨(ad101.add ((a1).toNat * 5)).block, (ad101.add ((a1).toNat * 5)).off + 4, none⟩ = some (.int .i64 ((zaa l0 a1).f4)) ∧ w14.cell? (ad101.add ((a2).toNat * 5)) = some (.string ((zaa l0 a2).f0)) ∧ w14.cell? ⟨(ad101.add ((a2).toNat * 5)).block, (ad101.add ((a2).toNat * 5)).off + 1, none⟩ = some (.int .i64 ((zaa l0 a2).f1)) ∧ w14.cell? ⟨(ad101.add ((a2).toNat * 5)).block, (ad101.add ((a2).toNat * 5)).off + 2, none⟩ = some (.int .i64 ((zaa l0 a2).f2)) ∧ w14.cell? ⟨(ad101.add ((a2).toNat * 5)).block, (ad101.add ((a2).toNat * 5)).off + 3, none⟩ = some (.int .i64 ((zaa l0 a2).f3)) ∧ w14.cell? ⟨(ad101.add ((a2).toNat * 5)).block, (ad101.add ((a2).toNat * 5)).off + 4, none⟩ = some (.int .i64 ((zaa l0 a2).f4)) := hS_
 refine zx3 (a' := ?_) ?_ ?_
 rotate_left
 · simp only [zu3, Act.put, List.setIfInBounds_toArray, List.set_cons_zero, List.set_cons_succ]
   rfl
 refine one_ (i := 10) (N := none) #[true, true, true, true, true, true, true, true, true, true, true, false] rfl rfl (zl7 HT_.out zq27) (by decide) (fun K hK => ?_)
 have hs15 : w14.cell? ⟨gb103, 0, none⟩ = some (.string (⟨#[]⟩ : ByteArray)) := (zad BK103.out 0).trans rfl
 have hfs15 := zaz BK103.out 0
 have hns15_1 := NB104_103.out
 have hms15_1 := NB103_104.out
 have hs16 : w14.cell? ⟨gb103, 1, none⟩ = some (.int .i64 0) := (zad BK103.out 1).trans rfl
 have hfs16 := zaz BK103.out 1
 have hns16_1 := NB104_103.out
 have hms16_1 := NB103_104.out
 have hs17 : w14.cell? ⟨gb103, 2, none⟩ = some (.int .i64 0) := (zad BK103.out 2).trans rfl
 have hfs17 := zaz BK103.out 2
 have hns17_1 := NB104_103.out
 have hms17_1 := NB103_104.out
 have hs18 : w14.cell? ⟨gb103, 3, none⟩ = some (.int .i64 0) := (zad BK103.out 3).trans rfl
 have hfs18 := zaz BK103.out 3
 have hns18_1 := NB104_103.out
 have hms18_1 := NB103_104.out
 have hs19 : w14.cell? ⟨gb103, 4, none⟩ = some (.int .i64 0) := (zad BK103.out 4).trans rfl
 have hfs19 := zaz BK103.out 4
 have hns19_1 := NB104_103.out
 have hms19_1 := NB103_104.out
 refine ztd (w1 := ?_) (by rfl) rfl ?_ ?_
 rotate_left
 · go_simp
   rfl
 refine hK.out _ _ ⟨((zah (p := ⟨gb103, _, none⟩) (zfar hw101_0 GW103.out :) _).trans (((zah (p := ⟨gb103, _, none⟩) (zfar hw101_0 GW103.out :) _).trans (((zah (p := ⟨gb103, _, none⟩) (zfar hw101_0 GW103.out :) _).trans (((zah (p := ⟨gb103, _, none⟩) (zfar hw101_0 GW103.out :) _).trans (((zah (p := ⟨gb103, _, none⟩) (zfar hw101_0 GW103.out :) _).trans (hHeld.1)))))))))), ((zah (p := ⟨gb103, _, none⟩) (zfar hw101_1 GW103.out :) _).trans (((zah (p := ⟨gb103, _, none⟩) (zfar hw101_1 GW103.out :) _).trans (((zah (p := ⟨gb103, _, none⟩) (zfar hw101_1 GW103.out :) _).trans (((zah (p := ⟨gb103, _, none⟩) (zfar hw101_1 GW103.out :) _).trans (((zah (p := ⟨gb103, _, none⟩) (zfar hw101_1 GW103.out :) _).trans (hHeld.2.1)))))))))), ((zah (p := ⟨gb103, _, none⟩) (zfar hw101_2 GW103.out :) _).trans (((zah (p := ⟨gb103, _, none⟩) (zfar hw101_2 GW103.out :) _).trans (((zah (p := ⟨gb103, _, none⟩) (zfar hw101_2 GW103.out :) _).trans (((zah (p := ⟨gb103, _, none⟩) (zfar hw101_2 GW103.out :) _).trans (((zah (p := ⟨gb103, _, none⟩) (zfar hw101_2 GW103.out :) _).trans (hHeld.2.2.1)))))))))), ((zah (p := ⟨gb103, _, none⟩) (zfar hw101_3 GW103.out :) _).trans (((zah (p := ⟨gb103, _, none⟩) (zfar hw101_3 GW103.out :) _).trans (((zah (p := ⟨gb103, _, none⟩) (zfar hw101_3 GW103.out :) _).trans (((zah (p := ⟨gb103, _, none⟩) (zfar hw101_3 GW103.out :) _).trans (((zah (p := ⟨gb103, _, none⟩) (zfar hw101_3 GW103.out :) _).trans (hHeld.2.2.2.1)))))))))), ((zah (p := ⟨gb103, _, none⟩) (zfar hw101_4 GW103.out :) _).trans (((zah (p := ⟨gb103, _, none⟩) (zfar hw101_4 GW103.out :) _).trans (((zah (p := ⟨gb103, _, none⟩) (zfar hw101_4 GW103.out :) _).trans (((zah (p := ⟨gb103, _, none⟩) (zfar hw101_4 GW103.out :) _).trans (((zah (p := ⟨gb103, _, none⟩) (zfar hw101_4 GW103.out :) _).trans (hHeld.2.2.2.2.1)))))))))), ((zah (p := ⟨gb103, _, none⟩) (zfar hw102_0 GW103.out :) _).trans (((zah (p := ⟨gb103, _, none⟩) (zfar hw102_0 GW103.out :) _).trans (((zah (p := ⟨gb103, _, none⟩) (zfar hw102_0 GW103.out :) _).trans (((zah (p := ⟨gb103, _, none⟩) (zfar hw102_0 GW103.out :) _).trans (((zah (p := ⟨gb103, _, none⟩) (zfar hw102_0 GW103.out :) _).trans (hHeld.2.2.2.2.2.1)))))))))), ((zah (p := ⟨gb103, _, none⟩) (zfar hw102_1 GW103.out :) _).trans (((zah (p := ⟨gb103, _, none⟩) (zfar hw102_1 GW103.out :) _).trans (((zah (p := ⟨gb103, _, none⟩) (zfar hw102_1 GW103.out :) _).trans (((zah (p := ⟨gb103, _, none⟩) (zfar hw102_1 GW103.out :) _).trans (((zah (p := ⟨gb103, _, none⟩) (zfar hw102_1 GW103.out :) _).trans (hHeld.2.2.2.2.2.2.1)))))))))), ((zah (p := ⟨gb103, _, none⟩) (zfar hw102_2 GW103.out :) _).trans (((zah (p := ⟨gb103, _, none⟩) (zfar hw102_2 GW103.out :) _).trans (((zah (p := ⟨gb103, _, none⟩) (zfar hw102_2 GW103.out :) _).trans (((zah (p := ⟨gb103, _, none⟩) (zfar hw102_2 GW103.out :) _).trans (((zah (p := ⟨gb103, _, none⟩) (zfar hw102_2 GW103.out :) _).trans (hHeld.2.2.2.2.2.2.2.1)))))))))), ((zah (p := ⟨gb103, _, none⟩) (zfar hw102_3 GW103.out :) _).trans (((zah (p := ⟨gb103, _, none⟩) (zfar hw102_3 GW103.out :) _).trans (((zah (p := ⟨gb103, _, none⟩) (zfar hw102_3 GW103.out :) _).trans (((zah (p := ⟨gb103, _, none⟩) (zfar hw102_3 GW103.out :) _).trans (((zah (p := ⟨gb103, _, none⟩) (zfar hw102_3 GW103.out :) _).trans (hHeld.2.2.2.2.2.2.2.2.1)))))))))), ((zah (p := ⟨gb103, _, none⟩) (zfar hw102_4 GW103.out :) _).trans (((zah (p := ⟨gb103, _, none⟩) (zfar hw102_4 GW103.out :) _).trans (((zah (p := ⟨gb103, _, none⟩) (zfar hw102_4 GW103.out :) _).trans (((zah (p := ⟨gb103, _, none⟩) (zfar hw102_4 GW103.out :) _).trans (((zah (p := ⟨gb103, _, none⟩) (zfar hw102_4 GW103.out :) _).trans (hHeld.2.2.2.2.2.2.2.2.2))))))))))⟩ (fun hHeld => ?_)
 clear hK K
 refine one_ (i := 11) (N := none) #[true, true, true, true, true, true, true, true, true, true, true, true] rfl rfl (zl7 HT_.out zq27) (by decide) (fun K hK => ?_)
 have hs20 : w14.cell? ⟨gb104, 0, none⟩ = some (.string (⟨#[]⟩ : ByteArray)) := (zad BK104.out 0).trans rfl
 have hfs20 := zaz BK104.out 0
 have hns20_0 := NB103_104.out
 have hms20_0 := NB104_103.out
 have hs21 : w14.cell? ⟨gb104, 1, none⟩ = some (.int .i64 0) := (zad BK104.out 1).trans rfl
 have hfs21 := zaz BK104.out 1
 have hns21_0 := NB103_104.out
 have hms21_0 := NB104_103.out
 have hs22 : w14.cell? ⟨gb104, 2, none⟩ = some (.int .i64 0) := (zad BK104.out 2).trans rfl
 have hfs22 := zaz BK104.out 2
 have hns22_0 := NB103_104.out
 have hms22_0 := NB104_103.out
 have hs23 : w14.cell? ⟨gb104, 3, none⟩ = some (.int .i64 0) := (zad BK104.out 3).trans rfl
 have hfs23 := zaz BK104.out 3
 have hns23_0 := NB103_104.out
 have hms23_0 := NB104_103.out
 have hs24 : w14.cell? ⟨gb104, 4, none⟩ = some (.int .i64 0) := (zad BK104.out 4).trans rfl
 have hfs24 := zaz BK104.out 4
 have hns24_0 := NB103_104.out
 have hms24_0 := NB104_103.out
 refine ztd (w1 := ?_) (by rfl) rfl ?_ ?_
 rotate_left
 · go_simp
   rfl
 refine hK.out _ _ ⟨((zah (p := ⟨gb104, _, none⟩) (zfar hw101_0 GW104.out :) _).trans (((zah (p := ⟨gb104, _, none⟩) (zfar hw101_0 GW104.out :) _).trans (((zah (p := ⟨gb104, _, none⟩) (zfar hw101_0 GW104.out :) _).trans (((zah (p := ⟨gb104, _, none⟩) (zfar hw101_0 GW104.out :) _).trans (((zah (p := ⟨gb104, _, none⟩) (zfar hw101_0 GW104.out :) _).trans (hHeld.1)))))))))), ((zah (p := ⟨gb104, _, none⟩) (zfar hw101_1 GW104.out :) _).trans (((zah (p := ⟨gb104, _, none⟩) (zfar hw101_1 GW104.out :) _).trans (((zah (p := ⟨gb104, _, none⟩) (zfar hw101_1 GW104.out :) _).trans (((zah (p := ⟨gb104, _, none⟩) (zfar hw101_1 GW104.out :) _).trans (((zah (p := ⟨gb104, _, none⟩) (zfar hw101_1 GW104.out :) _).trans (hHeld.2.1)))))))))), ((zah (p := ⟨gb104, _, none⟩) (zfar hw101_2 GW104.out :) _).trans (((zah (p := ⟨gb104, _, none⟩) (zfar hw101_2 GW104.out :) _).trans (((zah (p := ⟨gb104, _, none⟩) (zfar hw101_2 GW104.out :) _).trans (((zah (p := ⟨gb104, _, none⟩) (zfar hw101_2 GW104.out :) _).trans (((zah (p := ⟨gb104, _, none⟩) (zfar hw101_2 GW104.out :) _).trans (hHeld.2.2.1)))))))))), ((zah (p := ⟨gb104, _, none⟩) (zfar hw101_3 GW104.out :) _).trans (((zah (p := ⟨gb104, _, none⟩) (zfar hw101_3 GW104.out :) _).trans (((zah (p := ⟨gb104, _, none⟩) (zfar hw101_3 GW104.out :) _).trans (((zah (p := ⟨gb104, _, none⟩) (zfar hw101_3 GW104.out :) _).trans (((zah (p := ⟨gb104, _, none⟩) (zfar hw101_3 GW104.out :) _).trans (hHeld.2.2.2.1)))))))))), ((zah (p := ⟨gb104, _, none⟩) (zfar hw101_4 GW104.out :) _).trans (((zah (p := ⟨gb104, _, none⟩) (zfar hw101_4 GW104.out :) _).trans (((zah (p := ⟨gb104, _, none⟩) (zfar hw101_4 GW104.out :) _).trans (((zah (p := ⟨gb104, _, none⟩) (zfar hw101_4 GW104.out :) _).trans (((zah (p := ⟨gb104, _, none⟩) (zfar hw101_4 GW104.out :) _).trans (hHeld.2.2.2.2.1)))))))))), ((zah (p := ⟨gb104, _, none⟩) (zfar hw102_0 GW104.out :) _).trans (((zah (p := ⟨gb104, _, none⟩) (zfar hw102_0 GW104.out :) _).trans (((zah (p := ⟨gb104, _, none⟩) (zfar hw102_0 GW104.out :) _).trans (((zah (p := ⟨gb104, _, none⟩) (zfar hw102_0 GW104.out :) _).trans (((zah (p := ⟨gb104, _, none⟩) (zfar hw102_0 GW104.out :) _).trans (hHeld.2.2.2.2.2.1)))))))))), ((zah (p := ⟨gb104, _, none⟩) (zfar hw102_1 GW104.out :) _).trans (((zah (p := ⟨gb104, _, none⟩) (zfar hw102_1 GW104.out :) _).trans (((zah (p := ⟨gb104, _, none⟩) (zfar hw102_1 GW104.out :) _).trans (((zah (p := ⟨gb104, _, none⟩) (zfar hw102_1 GW104.out :) _).trans (((zah (p := ⟨gb104, _, none⟩) (zfar hw102_1 GW104.out :) _).trans (hHeld.2.2.2.2.2.2.1)))))))))), ((zah (p := ⟨gb104, _, none⟩) (zfar hw102_2 GW104.out :) _).trans (((zah (p := ⟨gb104, _, none⟩) (zfar hw102_2 GW104.out :) _).trans (((zah (p := ⟨gb104, _, none⟩) (zfar hw102_2 GW104.out :) _).trans (((zah (p := ⟨gb104, _, none⟩) (zfar hw102_2 GW104.out :) _).trans (((zah (p := ⟨gb104, _, none⟩) (zfar hw102_2 GW104.out :) _).trans (hHeld.2.2.2.2.2.2.2.1)))))))))), ((zah (p := ⟨gb104, _, none⟩) (zfar hw102_3 GW104.out :) _).trans (((zah (p := ⟨gb104, _, none⟩) (zfar hw102_3 GW104.out :) _).trans (((zah (p := ⟨gb104, _, none⟩) (zfar hw102_3 GW104.out :) _).trans (((zah (p := ⟨gb104, _, none⟩) (zfar hw102_3 GW104.out :) _).trans (((zah (p := ⟨gb104, _, none⟩) (zfar hw102_3 GW104.out :) _).trans (hHeld.2.2.2.2.2.2.2.2.1)))))))))), ((zah (p := ⟨gb104, _, none⟩) (zfar hw102_4 GW104.out :) _).trans (((zah (p := ⟨gb104, _, none⟩) (zfar hw102_4 GW104.out :) _).trans (((zah (p := ⟨gb104, _, none⟩) (zfar hw102_4 GW104.out :) _).trans (((zah (p := ⟨gb104, _, none⟩) (zfar hw102_4 GW104.out :) _).trans (((zah (p := ⟨gb104, _, none⟩) (zfar hw102_4 GW104.out :) _).trans (hHeld.2.2.2.2.2.2.2.2.2))))))))))⟩ (fun hHeld => ?_)
 clear hK K
 refine zpl (zlx HT_.out zq27) ?_
 try go_wp2
 have n0_ : Aside0 (((((((((((w14.setCell ⟨gb103, 0, none⟩ (.string ((zaa l0 a1).f0))).setCell ⟨gb103, 1, none⟩ (.int .i64 ((zaa l0 a1).f1))).setCell ⟨gb103, 2, none⟩ (.int .i64 ((zaa l0 a1).f2))).setCell ⟨gb103, 3, none⟩ (.int .i64 ((zaa l0 a1).f3))).setCell ⟨gb103, 4, none⟩ (.int .i64 ((zaa l0 a1).f4))).setCell ⟨gb104, 0, none⟩ (.string ((zaa l0 a2).f0))).setCell ⟨gb104, 1, none⟩ (.int .i64 ((zaa l0 a2).f1))).setCell ⟨gb104, 2, none⟩ (.int .i64 ((zaa l0 a2).f2))).setCell ⟨gb104, 3, none⟩ (.int .i64 ((zaa l0 a2).f3))).setCell ⟨gb104, 4, none⟩ (.int .i64 ((zaa l0 a2).f4))).heap[gb103]? = some (.cells #[.string ((zaa l0 a1).f0), .int .i64 ((zaa l0 a1).f1), .int .i64 ((zaa l0 a1).f2), .int .i64 ((zaa l0 a1).f3), .int .i64 ((zaa l0 a1).f4)] 55 (0, 0))) := ⟨by (with_reducible repeat (first | refine zkn ?_ _ | refine zkd ?_ | refine zka ?_ _)); refine za2 ?_ NB103_104.out _; (with_reducible repeat (first | refine zkn ?_ _ | refine zkd ?_ | refine zka ?_ _)); refine za2 ?_ NB103_104.out _; (with_reducible repeat (first | refine zkn ?_ _ | refine zkd ?_ | refine zka ?_ _)); refine za2 ?_ NB103_104.out _; (with_reducible repeat (first | refine zkn ?_ _ | refine zkd ?_ | refine zka ?_ _)); refine za2 ?_ NB103_104.out _; (with_reducible repeat (first | refine zkn ?_ _ | refine zkd ?_ | refine zka ?_ _)); refine za2 ?_ NB103_104.out _; (with_reducible repeat (first | refine zkn ?_ _ | refine zkd ?_ | refine zka ?_ _)); refine za3 (cs := #[.string ((zaa l0 a1).f0), .int .i64 ((zaa l0 a1).f1), .int .i64 ((zaa l0 a1).f2), .int .i64 ((zaa l0 a1).f3), .int .i64 0]) ?_ 4 _ rfl; (with_reducible repeat (first | refine zkn ?_ _ | refine zkd ?_ | refine zka ?_ _)); refine za3 (cs := #[.string ((zaa l0 a1).f0), .int .i64 ((zaa l0 a1).f1), .int .i64 ((zaa l0 a1).f2), .int .i64 0, .int .i64 0]) ?_ 3 _ rfl; (with_reducible repeat (first | refine zkn ?_ _ | refine zkd ?_ | refine zka ?_ _)); refine za3 (cs := #[.string ((zaa l0 a1).f0), .int .i64 ((zaa l0 a1).f1), .int .i64 0, .int .i64 0, .int .i64 0]) ?_ 2 _ rfl; (with_reducible repeat (first | refine zkn ?_ _ | refine zkd ?_ | refine zka ?_ _)); refine za3 (cs := #[.string ((zaa l0 a1).f0), .int .i64 0, .int .i64 0, .int .i64 0, .int .i64 0]) ?_ 1 _ rfl; (with_reducible repeat (first | refine zkn ?_ _ | refine zkd ?_ | refine zka ?_ _)); refine za3 (cs := #[.string (⟨#[]⟩ : ByteArray), .int .i64 0, .int .i64 0, .int .i64 0, .int .i64 0]) ?_ 0 _ rfl; (with_reducible repeat (first | refine zkn ?_ _ | refine zkd ?_ | refine zka ?_ _)); exact BK103.out⟩
 have n1_ : Aside0 (((((((((((w14.setCell ⟨gb103, 0, none⟩ (.string ((zaa l0 a1).f0))).setCell ⟨gb103, 1, none⟩ (.int .i64 ((zaa l0 a1).f1))).setCell ⟨gb103, 2, none⟩ (.int .i64 ((zaa l0 a1).f2))).setCell ⟨gb103, 3, none⟩ (.int .i64 ((zaa l0 a1).f3))).setCell ⟨gb103, 4, none⟩ (.int .i64 ((zaa l0 a1).f4))).setCell ⟨gb104, 0, none⟩ (.string ((zaa l0 a2).f0))).setCell ⟨gb104, 1, none⟩ (.int .i64 ((zaa l0 a2).f1))).setCell ⟨gb104, 2, none⟩ (.int .i64 ((zaa l0 a2).f2))).setCell ⟨gb104, 3, none⟩ (.int .i64 ((zaa l0 a2).f3))).setCell ⟨gb104, 4, none⟩ (.int .i64 ((zaa l0 a2).f4))).heap[gb104]? = some (.cells #[.string ((zaa l0 a2).f0), .int .i64 ((zaa l0 a2).f1), .int .i64 ((zaa l0 a2).f2), .int .i64 ((zaa l0 a2).f3), .int .i64 ((zaa l0 a2).f4)] 55 (0, 0))) := ⟨by (with_reducible repeat (first | refine zkn ?_ _ | refine zkd ?_ | refine zka ?_ _)); refine za3 (cs := #[.string ((zaa l0 a2).f0), .int .i64 ((zaa l0 a2).f1), .int .i64 ((zaa l0 a2).f2), .int .i64 ((zaa l0 a2).f3), .int .i64 0]) ?_ 4 _ rfl; (with_reducible repeat (first | refine zkn ?_ _ | refine zkd ?_ | refine zka ?_ _)); refine za3 (cs := #[.string ((zaa l0 a2).f0), .int .i64 ((zaa l0 a2).f1), .int .i64 ((zaa l0 a2).f2), .int .i64 0, .int .i64 0]) ?_ 3 _ rfl; (with_reducible repeat (first | refine zkn ?_ _ | refine zkd ?_ | refine zka ?_ _)); refine za3 (cs := #[.string ((zaa l0 a2).f0), .int .i64 ((zaa l0 a2).f1), .int .i64 0, .int .i64 0, .int .i64 0]) ?_ 2 _ rfl; (with_reducible repeat (first | refine zkn ?_ _ | refine zkd ?_ | refine zka ?_ _)); refine za3 (cs := #[.string ((zaa l0 a2).f0), .int .i64 0, .int .i64 0, .int .i64 0, .int .i64 0]) ?_ 1 _ rfl; (with_reducible repeat (first | refine zkn ?_ _ | refine zkd ?_ | refine zka ?_ _)); refine za3 (cs := #[.string (⟨#[]⟩ : ByteArray), .int .i64 0, .int .i64 0, .int .i64 0, .int .i64 0]) ?_ 0 _ rfl; (with_reducible repeat (first | refine zkn ?_ _ | refine zkd ?_ | refine zka ?_ _)); refine za2 ?_ NB104_103.out _; (with_reducible repeat (first | refine zkn ?_ _ | refine zkd ?_ | refine zka ?_ _)); refine za2 ?_ NB104_103.out _; (with_reducible repeat (first | refine zkn ?_ _ | refine zkd ?_ | refine zka ?_ _)); refine za2 ?_ NB104_103.out _; (with_reducible repeat (first | refine zkn ?_ _ | refine zkd ?_ | refine zka ?_ _)); refine za2 ?_ NB104_103.out _; (with_reducible repeat (first | refine zkn ?_ _ | refine zkd ?_ | refine zka ?_ _)); refine za2 ?_ NB104_103.out _; (with_reducible repeat (first | refine zkn ?_ _ | refine zkd ?_ | refine zka ?_ _)); exact BK104.out⟩
 have n2_ : Aside0 (Below w.heap.size w ((((((((((w14.setCell ⟨gb103, 0, none⟩ (.string ((zaa l0 a1).f0))).setCell ⟨gb103, 1, none⟩ (.int .i64 ((zaa l0 a1).f1))).setCell ⟨gb103, 2, none⟩ (.int .i64 ((zaa l0 a1).f2))).setCell ⟨gb103, 3, none⟩ (.int .i64 ((zaa l0 a1).f3))).setCell ⟨gb103, 4, none⟩ (.int .i64 ((zaa l0 a1).f4))).setCell ⟨gb104, 0, none⟩ (.string ((zaa l0 a2).f0))).setCell ⟨gb104, 1, none⟩ (.int .i64 ((zaa l0 a2).f1))).setCell ⟨gb104, 2, none⟩ (.int .i64 ((zaa l0 a2).f2))).setCell ⟨gb104, 3, none⟩ (.int .i64 ((zaa l0 a2).f3))).setCell ⟨gb104, 4, none⟩ (.int .i64 ((zaa l0 a2).f4)))) := ⟨zq9 GE103 GE104⟩
 (try clear BK103)
 (try clear BK104)
 (try clear HB)
 generalize ((((((((((w14.setCell ⟨gb103, 0, none⟩ (.string ((zaa l0 a1).f0))).setCell ⟨gb103, 1, none⟩ (.int .i64 ((zaa l0 a1).f1))).setCell ⟨gb103, 2, none⟩ (.int .i64 ((zaa l0 a1).f2))).setCell ⟨gb103, 3, none⟩ (.int .i64 ((zaa l0 a1).f3))).setCell ⟨gb103, 4, none⟩ (.int .i64 ((zaa l0 a1).f4))).setCell ⟨gb104, 0, none⟩ (.string ((zaa l0 a2).f0))).setCell ⟨gb104, 1, none⟩ (.int .i64 ((zaa l0 a2).f1))).setCell ⟨gb104, 2, none⟩ (.int .i64 ((zaa l0 a2).f2))).setCell ⟨gb104, 3, none⟩ (.int .i64 ((zaa l0 a2).f3))).setCell ⟨gb104, 4, none⟩ (.int .i64 ((zaa l0 a2).f4))) = w25 at n0_ n1_ n2_ ⊢
 have BK103 := n0_
 have BK104 := n1_
 have HB := n2_
 clear n0_ n1_ n2_
 replace BK103 := zA (zkd BK103.out)
 replace BK104 := zA (zkd BK104.out)
 replace HB := zA (zbd HB.out)
 refine zmx (n := 5) (S := fun w' => w'.cell? ⟨gb103, 0, none⟩ = some (.string ((zaa l0 a1).f0)) ∧ w'.cell? ⟨gb103, 1, none⟩ = some (.int .i64 ((zaa l0 a1).f1)) ∧ w'.cell? ⟨gb103, 2, none⟩ = some (.int .i64 ((zaa l0 a1).f2)) ∧ w'.cell? ⟨gb103, 3, none⟩ = some (.int .i64 ((zaa l0 a1).f3)) ∧ w'.cell? ⟨gb103, 4, none⟩ = some (.int .i64 ((zaa l0 a1).f4)) ∧ w'.cell? ⟨gb104, 0, none⟩ = some (.string ((zaa l0 a2).f0)) ∧ w'.cell? ⟨gb104, 1, none⟩ = some (.int .i64 ((zaa l0 a2).f1)) ∧ w'.cell? ⟨gb104, 2, none⟩ = some (.int .i64 ((zaa l0 a2).f2)) ∧ w'.cell? ⟨gb104, 3, none⟩ = some (.int .i64 ((zaa l0 a2).f3)) ∧ w'.cell? ⟨gb104, 4, none⟩ = some (.int .i64 ((zaa l0 a2).f4))) (ds := []) #[false, false, false, false, false] zq27 rfl rfl ⟨(zad BK103.out 0).trans rfl, (zad BK103.out 1).trans rfl, (zad BK103.out 2).trans rfl, (zad BK103.out 3).trans rfl, (zad BK103.out 4).trans rfl, (zad BK104.out 0).trans rfl, (zad BK104.out 1).trans rfl, (zad BK104.out 2).trans rfl, (zad BK104.out 3).trans rfl, (zad BK104.out 4).trans rfl⟩ (fun hHeld => ?_)
 generalize w25.drew = w26 at BK103 BK104 HB hHeld ⊢
 refine zpk 2 22 ?_
 refine ztk 0 20 hHeld ?_
 refine ztk 3 23 hHeld ?_
 refine one_ (i := 1) (N := some 21) #[true, true, true, true, false] rfl rfl zq27 (by decide) (fun K hK => ?_)
 refine zgo Tryz.func140 (zn4 k ((zaa l0 a1).f0) ((zaa l0 a1).f1) ((zaa l0 a1).f2) ((zaa l0 a1).f3) ((zaa l0 a1).f4) t105 _ A8.out) ?_
 rintro e w27 ⟨v106, rfl, ho0, hb⟩
 refine ⟨_, rfl, ?_⟩
 have HO107 := zA (Kd.R_lower ho0 (zaj (zq9 GE103 GE104)))
 replace BK103 := zA (zar (g := gb103) (o := .cells #[.string ((zaa l0 a1).f0), .int .i64 ((zaa l0 a1).f1), .int .i64 ((zaa l0 a1).f2), .int .i64 ((zaa l0 a1).f3), .int .i64 ((zaa l0 a1).f4)] 55 (0, 0)) (zq8 BK103) hb)
 replace BK104 := zA (zar (g := gb104) (o := .cells #[.string ((zaa l0 a2).f0), .int .i64 ((zaa l0 a2).f1), .int .i64 ((zaa l0 a2).f2), .int .i64 ((zaa l0 a2).f3), .int .i64 ((zaa l0 a2).f4)] 55 (0, 0)) (zq8 BK104) hb)
 replace HB := zA (zab (zq9 GE103 GE104) hb)
 (try clear hb)
 (try clear hb2)
 (try clear hk)
 (try clear hi)
 (try clear ho0)
 obtain ⟨Ao28, co28, eo28⟩ := Kd.R_slice HO107.out
 (first | subst eo28 | (injection eo28 with f1_ f2_ f3_; have f4_ := f1_.symm; have f5_ := f3_.symm; clear f1_ f2_ f3_; subst f4_; subst f5_))
 refine hK.out _ _ ⟨(zad BK103.out 0).trans rfl, (zad BK103.out 1).trans rfl, (zad BK103.out 2).trans rfl, (zad BK103.out 3).trans rfl, (zad BK103.out 4).trans rfl, (zad BK104.out 0).trans rfl, (zad BK104.out 1).trans rfl, (zad BK104.out 2).trans rfl, (zad BK104.out 3).trans rfl, (zad BK104.out 4).trans rfl⟩ (fun hHeld => ?_)
 clear hK K
 refine znm 21 ?_
 refine one_ (i := 4) (N := some 24) #[true, true, true, true, true] rfl rfl zq27 (by decide) (fun K hK => ?_)
 refine zvx Tryz.func65 zq27 rfl #[.slice Ao28 t105.length co28, .int .i64 ((zaa l0 a2).f1)] (by rfl) rfl rfl zq31 ?_
 with_reducible refine (zky k _ _ t105 ((zaa l0 a2).f1) t108 _ ?side1 ?side2 A9.out).mono ?_
 (case side1 => repeat (first | exact (zRr HO107.out).2.2 | (with_reducible first | refine zCa ?_ _ | refine zCn ?_ _ | refine zCd ?_)))
 (case side2 => exact (zRr HO107.out).2.1)
 rintro e w' ⟨rfl, ⟨nd, rfl⟩⟩
 refine ⟨_, rfl, ?_⟩
 refine hK.out _ _ ⟨(zad BK103.out 0).trans rfl, (zad BK103.out 1).trans rfl, (zad BK103.out 2).trans rfl, (zad BK103.out 3).trans rfl, (zad BK103.out 4).trans rfl, (zad BK104.out 0).trans rfl, (zad BK104.out 1).trans rfl, (zad BK104.out 2).trans rfl, (zad BK104.out 3).trans rfl, (zad BK104.out 4).trans rfl⟩ (fun hHeld => ?_)
 clear hK K
 refine znm 24 ?_
 refine zpl zq27 ?_
 (try (rw [zg2 w27]; generalize hq_ : World.drewN w27 _ = w27; have n0_ := zA (Kd.R_at hq_ HO107.out); have n1_ := zA (zl6 hq_ BK103.out); have n2_ := zA (zl6 hq_ BK104.out); have n3_ := zA (zlv hq_ HB.out); clear hq_ HO107 BK103 BK104 HB; have HO107 := n0_; have BK103 := n1_; have BK104 := n2_; have HB := n3_; clear n0_ n1_ n2_ n3_))
 go_upto_if 24 with (fail)
 go_cut [9] (fun v9 wc => ∃ (kq : Nat) (x9_9 : Int), v9 = .int .i64 x9_9 ∧ Aside0 (ze2 kq l0 a1 a2 x9_9 ((zaa l0 a1).f0) ((zaa l0 a1).f1) ((zaa l0 a1).f2) ((zaa l0 a1).f3) ((zaa l0 a1).f4) ((zaa l0 a2).f0) ((zaa l0 a2).f1) ((zaa l0 a2).f2) ((zaa l0 a2).f3) ((zaa l0 a2).f4) = some r) ∧ Aside0 (kq ≤ k) ∧ Aside0 (wc.heap[gb103]? = some (.cells #[.string ((zaa l0 a1).f0), .int .i64 ((zaa l0 a1).f1), .int .i64 ((zaa l0 a1).f2), .int .i64 ((zaa l0 a1).f3), .int .i64 ((zaa l0 a1).f4)] 55 (0, 0))) ∧ Aside0 (wc.heap[gb104]? = some (.cells #[.string ((zaa l0 a2).f0), .int .i64 ((zaa l0 a2).f1), .int .i64 ((zaa l0 a2).f2), .int .i64 ((zaa l0 a2).f3), .int .i64 ((zaa l0 a2).f4)] 55 (0, 0))) ∧ Aside0 (Below w.heap.size w wc))
 case first =>
   have H := HC10.out
   clear HC10
   by_cases c29 : t108 = true
   · subst c29
     replace H := zih H
     have H' := zA H
     clear H
     go_wp2
     go_meet
     case rel => exact ⟨_, (0), zq7, H', ⟨zq42⟩, ⟨zq8 BK103⟩, ⟨zq8 BK104⟩, ⟨zq9 GE103 GE104⟩⟩
   replace c29 := zbf c29
   subst c29
   replace H := zif H
   have H' := zA H
   clear H
   go_wp2
   go_meet
   case rel => exact ⟨_, ((-1)), zq7, H', ⟨zq42⟩, ⟨zq8 BK103⟩, ⟨zq8 BK104⟩, ⟨zq9 GE103 GE104⟩⟩
 clear HC10
 obtain ⟨kq, x9_9, rfl, HA, HJ9, BK103, BK104, HB⟩ := hcut
 cases kq with
 | zero => exact absurd HA.out (by simp [ze2])
 | succ kj9 =>
 have H := HA.out
 clear HA
 simp only [ze2] at H
 have HC30 := zA H
 clear H
 have hnb31 := NB103_104.out
 have hnc31 := NB104_103.out
 obtain ⟨hcz32_0, hcz32_1, hcz32_2, hcz32_3, hcz32_4⟩ := zc5 wc (.string ((zaa l0 a1).f0)) (.int .i64 ((zaa l0 a1).f1)) (.int .i64 ((zaa l0 a1).f2)) (.int .i64 ((zaa l0 a1).f3)) (.int .i64 ((zaa l0 a1).f4)) BK103.out
 obtain ⟨hfz32_0, hfz32_1, hfz32_2, hfz32_3, hfz32_4⟩ := zf5 BK103.out
 obtain ⟨hcz33_0, hcz33_1, hcz33_2, hcz33_3, hcz33_4⟩ := zc5 wc (.string ((zaa l0 a2).f0)) (.int .i64 ((zaa l0 a2).f1)) (.int .i64 ((zaa l0 a2).f2)) (.int .i64 ((zaa l0 a2).f3)) (.int .i64 ((zaa l0 a2).f4)) BK104.out
 obtain ⟨hfz33_0, hfz33_1, hfz33_2, hfz33_3, hfz33_4⟩ := zf5 BK104.out
 go_upto_if 29 with (fail)
 go_cut [9] (fun v9 wc => ∃ (kq : Nat) (x9_29 : Int), v9 = .int .i64 x9_29 ∧ Aside0 (ze3 kq l0 a1 a2 x9_29 ((zaa l0 a1).f0) ((zaa l0 a1).f1) ((zaa l0 a1).f2) ((zaa l0 a1).f3) ((zaa l0 a1).f4) ((zaa l0 a2).f0) ((zaa l0 a2).f1) ((zaa l0 a2).f2) ((zaa l0 a2).f3) ((zaa l0 a2).f4) = some r) ∧ Aside0 (kq ≤ kj9) ∧ Aside0 (wc.heap[gb103]? = some (.cells #[.string ((zaa l0 a1).f0), .int .i64 ((zaa l0 a1).f1), .int .i64 ((zaa l0 a1).f2), .int .i64 ((zaa l0 a1).f3), .int .i64 ((zaa l0 a1).f4)] 55 (0, 0))) ∧ Aside0 (wc.heap[gb104]? = some (.cells #[.string ((zaa l0 a2).f0), .int .i64 ((zaa l0 a2).f1), .int .i64 ((zaa l0 a2).f2), .int .i64 ((zaa l0 a2).f3), .int .i64 ((zaa l0 a2).f4)] 55 (0, 0))) ∧ Aside0 (Below w.heap.size w wc))
 case first =>
   have H := HC30.out
   clear HC30
   by_cases c34 : ((zaa l0 a1).f1) = ((zaa l0 a2).f1)
   rotate_left
   · rw [if_neg c34] at H
     obtain ⟨c34b0, c34b1⟩ := zbq c34
     (first | rw [c34b0] | (simp only [zia, ziz]; rw [c34b0]) | skip)
     have H' := zA H
     clear H
     go_wp2
     go_meet
     case rel => exact ⟨_, (x9_9), zq7, H', ⟨zq45 HJ9⟩, ⟨zq8 BK103⟩, ⟨zq8 BK104⟩, ⟨zq9 GE103 GE104⟩⟩
   rw [if_pos c34] at H
   obtain ⟨c34b0, c34b1⟩ := zbe c34
   clear c34
   (first | rw [c34b0] | (simp only [zia, ziz]; rw [c34b0]) | skip)
   have H' := zA H
   clear H
   go_wp2
   go_meet
   case rel => exact ⟨_, (1), zq7, H', ⟨zq45 HJ9⟩, ⟨zq8 BK103⟩, ⟨zq8 BK104⟩, ⟨zq9 GE103 GE104⟩⟩
 clear HC30
 obtain ⟨kq, x9_29, rfl, HA, HJ29, BK103, BK104, HB⟩ := hcut
 cases kq with
 | zero => exact absurd HA.out (by simp [ze3])
 | succ kj29 =>
 have H := HA.out
 clear HA
 simp only [ze3] at H
 replace H := zob H
 obtain ⟨t109, A350, H⟩ := H
 have A35 := zA A350
 clear A350
 replace H := zob H
 obtain ⟨t112, A360, H⟩ := H
 have A36 := zA A360
 clear A360
 have HCC := zA H
 clear H
 try go_wp2
 replace BK103 := zA (zkd BK103.out)
 replace BK104 := zA (zkd BK104.out)
 replace HB := zA (zbd HB.out)
 refine zmx (n := 5) (S := fun w' => w'.cell? ⟨gb104, 0, none⟩ = some (.string ((zaa l0 a2).f0)) ∧ w'.cell? ⟨gb104, 1, none⟩ = some (.int .i64 ((zaa l0 a2).f1)) ∧ w'.cell? ⟨gb104, 2, none⟩ = some (.int .i64 ((zaa l0 a2).f2)) ∧ w'.cell? ⟨gb104, 3, none⟩ = some (.int .i64 ((zaa l0 a2).f3)) ∧ w'.cell? ⟨gb104, 4, none⟩ = some (.int .i64 ((zaa l0 a2).f4)) ∧ w'.cell? ⟨gb103, 0, none⟩ = some (.string ((zaa l0 a1).f0)) ∧ w'.cell? ⟨gb103, 1, none⟩ = some (.int .i64 ((zaa l0 a1).f1)) ∧ w'.cell? ⟨gb103, 2, none⟩ = some (.int .i64 ((zaa l0 a1).f2)) ∧ w'.cell? ⟨gb103, 3, none⟩ = some (.int .i64 ((zaa l0 a1).f3)) ∧ w'.cell? ⟨gb103, 4, none⟩ = some (.int .i64 ((zaa l0 a1).f4))) (ds := []) #[false, false, false, false, false] zq27 rfl rfl ⟨(zad BK104.out 0).trans rfl, (zad BK104.out 1).trans rfl, (zad BK104.out 2).trans rfl, (zad BK104.out 3).trans rfl, (zad BK104.out 4).trans rfl, (zad BK103.out 0).trans rfl, (zad BK103.out 1).trans rfl, (zad BK103.out 2).trans rfl, (zad BK103.out 3).trans rfl, (zad BK103.out 4).trans rfl⟩ (fun hHeld => ?_)
 generalize wc.drew = w52 at BK103 BK104 HB hHeld ⊢
 refine zpk 2 32 ?_
 refine ztk 0 30 hHeld ?_
 refine ztk 3 33 hHeld ?_
 refine one_ (i := 1) (N := some 31) #[true, true, true, true, false] rfl rfl zq27 (by decide) (fun K hK => ?_)
 refine zgo Tryz.func140 (zn4 kj29 ((zaa l0 a2).f0) ((zaa l0 a2).f1) ((zaa l0 a2).f2) ((zaa l0 a2).f3) ((zaa l0 a2).f4) t109 _ A35.out) ?_
 rintro e w53 ⟨v110, rfl, ho0, hb⟩
 refine ⟨_, rfl, ?_⟩
 have HO111 := zA (Kd.R_lower ho0 (zaj (zq9 GE103 GE104)))
 replace BK103 := zA (zar (g := gb103) (o := .cells #[.string ((zaa l0 a1).f0), .int .i64 ((zaa l0 a1).f1), .int .i64 ((zaa l0 a1).f2), .int .i64 ((zaa l0 a1).f3), .int .i64 ((zaa l0 a1).f4)] 55 (0, 0)) (zq8 BK103) hb)
 replace BK104 := zA (zar (g := gb104) (o := .cells #[.string ((zaa l0 a2).f0), .int .i64 ((zaa l0 a2).f1), .int .i64 ((zaa l0 a2).f2), .int .i64 ((zaa l0 a2).f3), .int .i64 ((zaa l0 a2).f4)] 55 (0, 0)) (zq8 BK104) hb)
 replace HB := zA (zab (zq9 GE103 GE104) hb)
 (try clear hb)
 (try clear hb2)
 (try clear hk)
 (try clear hi)
 (try clear ho0)
 obtain ⟨Ao54, co54, eo54⟩ := Kd.R_slice HO111.out
 (first | subst eo54 | (injection eo54 with f1_ f2_ f3_; have f4_ := f1_.symm; have f5_ := f3_.symm; clear f1_ f2_ f3_; subst f4_; subst f5_))
 refine hK.out _ _ ⟨(zad BK104.out 0).trans rfl, (zad BK104.out 1).trans rfl, (zad BK104.out 2).trans rfl, (zad BK104.out 3).trans rfl, (zad BK104.out 4).trans rfl, (zad BK103.out 0).trans rfl, (zad BK103.out 1).trans rfl, (zad BK103.out 2).trans rfl, (zad BK103.out 3).trans rfl, (zad BK103.out 4).trans rfl⟩ (fun hHeld => ?_)
 clear hK K
 refine znm 31 ?_
 refine one_ (i := 4) (N := some 34) #[true, true, true, true, true] rfl rfl zq27 (by decide) (fun K hK => ?_)
 refine zvx Tryz.func65 zq27 rfl #[.slice Ao54 t109.length co54, .int .i64 ((zaa l0 a1).f1)] (by rfl) rfl rfl zq31 ?_
 with_reducible refine (zky kj29 _ _ t109 ((zaa l0 a1).f1) t112 _ ?side1 ?side2 A36.out).mono ?_
 (case side1 => repeat (first | exact (zRr HO111.out).2.2 | (with_reducible first | refine zCa ?_ _ | refine zCn ?_ _ | refine zCd ?_)))
 (case side2 => exact (zRr HO111.out).2.1)
 rintro e w' ⟨rfl, ⟨nd, rfl⟩⟩
 refine ⟨_, rfl, ?_⟩
 refine hK.out _ _ ⟨(zad BK104.out 0).trans rfl, (zad BK104.out 1).trans rfl, (zad BK104.out 2).trans rfl, (zad BK104.out 3).trans rfl, (zad BK104.out 4).trans rfl, (zad BK103.out 0).trans rfl, (zad BK103.out 1).trans rfl, (zad BK103.out 2).trans rfl, (zad BK103.out 3).trans rfl, (zad BK103.out 4).trans rfl⟩ (fun hHeld => ?_)
 clear hK K
 refine znm 34 ?_
 refine zpl zq27 ?_
 (try (rw [zg2 w53]; generalize hq_ : World.drewN w53 _ = w53; have n0_ := zA (Kd.R_at hq_ HO111.out); have n1_ := zA (zl6 hq_ BK103.out); have n2_ := zA (zl6 hq_ BK104.out); have n3_ := zA (zlv hq_ HB.out); clear hq_ HO111 BK103 BK104 HB; have HO111 := n0_; have BK103 := n1_; have BK104 := n2_; have HB := n3_; clear n0_ n1_ n2_ n3_))
 go_upto_if 34 with (fail)
 have H := HCC.out
 clear HCC
 by_cases c37 : t112 = true
 rotate_left
 · replace c37 := zbf c37
   subst c37
   replace H := zif H
   obtain rfl := zsi H
   try go_wp2
   go_ret
   exact ⟨zq5, zq9 GE103 GE104⟩
 subst c37
 replace H := zih H
 have H' := zA H
 clear H
 try go_wp2
 go_loopg [10, 11] kj29 (fun kq v10 v11 w' => ∃ (x10_3 : Int) (x11_3 : Int), v10 = .int .i64 x10_3 ∧ v11 = .int .i64 x11_3 ∧ Aside0 (zd4 kq l0 a1 a2 x9_29 x10_3 x11_3 ((zaa l0 a1).f0) ((zaa l0 a1).f1) ((zaa l0 a1).f2) ((zaa l0 a1).f3) ((zaa l0 a1).f4) = some r) ∧ Aside0 (kq ≤ kj29) ∧ Aside0 (w'.heap[gb103]? = some (.cells #[.string ((zaa l0 a1).f0), .int .i64 ((zaa l0 a1).f1), .int .i64 ((zaa l0 a1).f2), .int .i64 ((zaa l0 a1).f3), .int .i64 ((zaa l0 a1).f4)] 55 (0, 0))) ∧ Aside0 (w'.heap[gb104]? = some (.cells #[.string ((zaa l0 a2).f0), .int .i64 ((zaa l0 a2).f1), .int .i64 ((zaa l0 a2).f2), .int .i64 ((zaa l0 a2).f3), .int .i64 ((zaa l0 a2).f4)] 55 (0, 0))) ∧ Aside0 (Below w.heap.size w w'))
 case atStart => exact ⟨(a1), (wrap64 (a1 + 1)), zq7, zq7, H', ⟨zlr _⟩, ⟨zq8 BK103⟩, ⟨zq8 BK104⟩, ⟨zq9 GE103 GE104⟩⟩
 clear H'
 obtain ⟨x10_3, x11_3, rfl, rfl, HA, HK3, BK103, BK104, HB⟩ := hrel
 cases gk with
 | zero => exact absurd HA.out (by simp [zd4])
 | succ k3 =>
 have H := HA.out
 clear HA
 simp only [zd4] at H
 revert H
 refine zit (fun c41 H => ?_) fun c41 H => ?_
 rotate_left
 · by_cases c47 : x10_3 = a1
   rotate_left
   · rw [if_neg c47] at H
     obtain ⟨c47b0, c47b1⟩ := zbq c47
     obtain rfl := zsi H
     go_wp2
     go_ret
     exact ⟨zq5, zq9 GE103 GE104⟩
   rw [if_pos c47] at H
   obtain ⟨c47b0, c47b1⟩ := zbe c47
   clear c47
   replace H := zob H
   obtain ⟨t114, A480, H⟩ := H
   have A48 := zA A480
   clear A480
   replace H := zob H
   obtain ⟨t115, A490, H⟩ := H
   have A49 := zA A490
   clear A490
   obtain rfl := zsi H
   have hnb50 := NB103_104.out
   have hnc50 := NB104_103.out
   obtain ⟨hcz51_0, hcz51_1, hcz51_2, hcz51_3, hcz51_4⟩ := zc5 wr (.string ((zaa l0 a1).f0)) (.int .i64 ((zaa l0 a1).f1)) (.int .i64 ((zaa l0 a1).f2)) (.int .i64 ((zaa l0 a1).f3)) (.int .i64 ((zaa l0 a1).f4)) BK103.out
   obtain ⟨hfz51_0, hfz51_1, hfz51_2, hfz51_3, hfz51_4⟩ := zf5 BK103.out
   go_wp2_with (first | ((with_reducible refine zgc 100 ?_); refine zcl 58 Tryz.func100 (zh7 ((zaa l0 a1).f0) t114 _ A48.out) ?_; rintro e w' ⟨rfl, ⟨nd, rfl⟩⟩; refine ⟨_, rfl, ?_⟩) | ((with_reducible refine zgc 103 ?_); refine zcl 59 Tryz.func103 (zgy x9_29 t114 t115 _ A49.out) ?_; rintro e w' ⟨rfl, ⟨nd, rfl⟩⟩; refine ⟨_, rfl, ?_⟩))
   go_ret
   exact ⟨zq5, zq9 GE103 GE104⟩
 revert H
 refine zin fun c42 H => ?_
 revert H
 refine zin fun c43 H => ?_
 have HCC := zA H
 clear H
 try go_wp2
 replace BK103 := zA (zkd BK103.out)
 replace BK104 := zA (zkd BK104.out)
 replace HB := zA (zbd HB.out)
 obtain ⟨p113, q113⟩ := zpq x11_3 l0.length
 obtain ⟨ad113, e113, hx113_0, hx113_1, hx113_2, hx113_3, hx113_4⟩ := zld HR0.out x11_3 (zoe p113) (zoe q113)
 have hw113_4 := hx113_4
 have hw113_3 := hx113_3
 have hw113_2 := hx113_2
 have hw113_1 := hx113_1
 have hw113_0 := hx113_0
 obtain rfl : ad101 = ad113 := (by injection e113)
 replace hx113_0 := zkep HB.out hx113_0
 replace hx113_1 := zkep HB.out hx113_1
 replace hx113_2 := zkep HB.out hx113_2
 replace hx113_3 := zkep HB.out hx113_3
 replace hx113_4 := zkep HB.out hx113_4
 refine zmx (n := 8) (S := fun w' => w'.cell? ⟨gb103, 0, none⟩ = some (.string ((zaa l0 a1).f0)) ∧ w'.cell? ⟨gb103, 1, none⟩ = some (.int .i64 ((zaa l0 a1).f1)) ∧ w'.cell? ⟨gb103, 2, none⟩ = some (.int .i64 ((zaa l0 a1).f2)) ∧ w'.cell? ⟨gb103, 3, none⟩ = some (.int .i64 ((zaa l0 a1).f3)) ∧ w'.cell? ⟨gb103, 4, none⟩ = some (.int .i64 ((zaa l0 a1).f4)) ∧ w'.cell? (ad101.add ((x11_3).toNat * 5)) = some (.string ((zaa l0 x11_3).f0)) ∧ w'.cell? ⟨(ad101.add ((x11_3).toNat * 5)).block, (ad101.add ((x11_3).toNat * 5)).off + 1, none⟩ = some (.int .i64 ((zaa l0 x11_3).f1)) ∧ w'.cell? ⟨(ad101.add ((x11_3).toNat * 5)).block, (ad101.add ((x11_3).toNat * 5)).off + 2, none⟩ = some (.int .i64 ((zaa l0 x11_3).f2)) ∧ w'.cell? ⟨(ad101.add ((x11_3).toNat * 5)).block, (ad101.add ((x11_3).toNat * 5)).off + 3, none⟩ = some (.int .i64 ((zaa l0 x11_3).f3)) ∧ w'.cell? ⟨(ad101.add ((x11_3).toNat * 5)).block, (ad101.add ((x11_3).toNat * 5)).off + 4, none⟩ = some (.int .i64 ((zaa l0 x11_3).f4))) (ds := []) #[false, false, false, false, false, false, false, false] zq27 rfl rfl ⟨(zad BK103.out 0).trans rfl, (zad BK103.out 1).trans rfl, (zad BK103.out 2).trans rfl, (zad BK103.out 3).trans rfl, (zad BK103.out 4).trans rfl, (zkep HB.out hw113_0), (zkep HB.out hw113_1), (zkep HB.out hw113_2), (zkep HB.out hw113_3), (zkep HB.out hw113_4)⟩ (fun hHeld => ?_); refine zji zrq zqq (fun HT_ HW_ => ?_)
 generalize wr.drew = w46 at BK103 BK104 HB hx113_0 hx113_1 hx113_2 hx113_3 hx113_4 hHeld ⊢
 refine zpu 0 43 HT_ ?_
 refine zpu 1 44 HT_ ?_
 refine zpu 2 45 HT_ ?_
 refine zpu 3 46 HT_ ?_
 refine zpu 5 48 HT_ ?_
 refine ztu 4 47 HT_ HW_ hHeld ?_
 refine ztu 6 49 HT_ HW_ hHeld ?_
 refine zpu 7 50 HT_ ?_
 refine zpl (zlx HT_.out zq27) ?_
 go_upto_if 50 with (fail)
 have H := HCC.out
 clear HCC
 by_cases c44 : ((zaa l0 x11_3).f1) = ((zaa l0 a1).f1)
 rotate_left
 · rw [if_neg c44] at H
   obtain ⟨c44b0, c44b1⟩ := zbq c44
   have H' := zA H
   clear H
   try go_wp2
   go_roundg k3
   case measure => have := HJ9.out; have := HJ29.out; have := HK3.out; omega
   case rel => exact ⟨(x10_3), (wrap64 (x11_3 + 1)), zq7, zq7, H', ⟨zq40 HJ9 HJ29 HK3⟩, ⟨zq8 BK103⟩, ⟨zq8 BK104⟩, ⟨zq9 GE103 GE104⟩⟩
 rw [if_pos c44] at H
 obtain ⟨c44b0, c44b1⟩ := zbe c44
 clear c44
 have H' := zA H
 clear H
 try go_wp2
 go_roundg k3
 case measure => have := HJ9.out; have := HJ29.out; have := HK3.out; omega
 case rel => exact ⟨(x11_3), (wrap64 (x11_3 + 1)), zq7, zq7, H', ⟨zq40 HJ9 HJ29 HK3⟩, ⟨zq8 BK103⟩, ⟨zq8 BK104⟩, ⟨zq9 GE103 GE104⟩⟩
mutual
def zdo : Nat → List (S55) → List (List Int) → Int → Int → Option ((List (List Int)))
 | 0, _, _, _, _ => none
 | k + 1, x0, x3, x9, x10 => if x10 < x9 then (zdp k x0 x3 x10 ([] : List Int) x9 x10 (x0.length : Int) 0) else (some x3)
def zdp : Nat → List (S55) → List (List Int) → Int → List Int → Int → Int → Int → Int → Option ((List (List Int)))
 | 0, _, _, _, _, _, _, _, _ => none
 | k + 1, x0, x3, x4, x5, x9, x10, x14, x15 => if x15 < x14 then (if x4 < x15 then ((zh0 k x0 x4 x15).bind fun t101 => (if x5.length < 17592186044416 then (zdp k x0 x3 x4 (x5 ++ [t101]) x9 x10 x14 (wrap64 (x15 + 1))) else (none))) else (if x5.length < 17592186044416 then (zdp k x0 x3 x4 (x5 ++ [(-1)]) x9 x10 x14 (wrap64 (x15 + 1))) else (none))) else (if x3.length < 5864062014805 then (zdo k x0 (x3 ++ [x5]) x9 (wrap64 (x10 + 1))) else (none))
end
def zfq (k : Nat) (l0 : List (S55)) : Option ((List (List Int))) := zdo k l0 ([] : List (List Int)) (l0.length : Int) 0
theorem zmv : ∀ k, (∀ y0 y1 y2 y3, LeO (zdo k y0 y1 y2 y3) (zdo (k + 1) y0 y1 y2 y3)) ∧ (∀ y0 y1 y2 y3 y4 y5 y6 y7, LeO (zdp k y0 y1 y2 y3 y4 y5 y6 y7) (zdp (k + 1) y0 y1 y2 y3 y4 y5 y6 y7))
 | 0 => ⟨fun _ _ _ _ r h => by simp [zdo] at h, fun _ _ _ _ _ _ _ _ r h => by simp [zdp] at h⟩
 | k + 1 => by
   obtain ⟨ih0, ih1⟩ := zmv k
   refine ⟨?_, ?_⟩
   · intro y0 y1 y2 y3
     unfold zdo
     exact zm3 ih0 ih1 zmb
   · intro y0 y1 y2 y3 y4 y5 y6 y7
     unfold zdp
     exact zm3 ih0 ih1 zmb
theorem zcn : ∀ a0 k, LeO (zfq k a0) (zfq (k + 1) a0) := by
 intro a0 k
 obtain ⟨ih0, ih1⟩ := zmv k
 unfold zfq
 exact zm3 ih0 ih1 zmb
theorem zgz (k : Nat) (A0 : Option Addr) (c0 : Nat) (l0 : List (S55)) (r : List (List Int)) (w : World) (hr0 : Kd.C k55 w A0 l0.length l0) (hc0 : l0.length ≤ c0) (h : zfq k l0 = some r) :
   Calls Tryz.prog 62 #[.slice A0 l0.length c0] w fun e w' => ∃ v0_ : Value, e = .returned (v0_) ∧ Kd.S (Kd.slice 3 (Kd.int .i64)) 25 w' w.heap.size (fun _ => True) v0_ r ∧ Below w.heap.size w w' := by
 have HR0 := zA hr0
 have HC0 := zA hc0
 clear hr0 hc0
 have HB := zA (Below.refl w.heap.size w)
 have H := h
 unfold zfq at H
 clear h
 have H' := zA H
 clear H
 go_enter Tryz.func62, Tryz.ntmps62
 go_wp2
 go_loopg [3, 10] k (fun kq v3 v10 w' => ∃ (x3_1 : List (List Int)) (x10_1 : Int), v10 = .int .i64 x10_1 ∧ Aside0 (zdo kq l0 x3_1 (l0.length : Int) x10_1 = some r) ∧ Aside0 (kq ≤ k) ∧ Aside0 (Kd.S (Kd.slice 3 (Kd.int .i64)) 25 w' w.heap.size (fun _ => True) v3 x3_1) ∧ Aside0 (Below w.heap.size w w'))
 case atStart => exact ⟨(([] : List (List Int))), (0), zq7, H', ⟨zlr _⟩, ⟨by first | exact Kd.S_nil _ _ _ _ _ | exact Kd.N_nil _ _ _ _ _ | exact Kd.V_nil _ _ _ _ _ | exact Kd.Q_nil _ _ _ _ _ | exact Kd.R_nil _ _ _ _ _⟩, ⟨zq1⟩⟩
 clear H'
 obtain ⟨x3_1, x10_1, rfl, HA, HK1, HO_3, HB⟩ := hrel
 cases gk with
 | zero => exact absurd HA.out (by simp [zdo])
 | succ k1 =>
 have H := HA.out
 clear HA
 simp only [zdo] at H
 revert H
 refine zit (fun c2 H => ?_) fun c2 H => ?_
 rotate_left
 · obtain rfl := zsi H
   go_wp2
   go_ret
   exact ⟨_, zq5, zq17 HO_3, zq1⟩
 have H' := zA H
 clear H
 go_wp2
 go_loopg [5, 15] k1 (fun kq v5 v15 w' => ∃ (x5_2 : List Int) (x15_2 : Int), v15 = .int .i64 x15_2 ∧ Aside0 (zdp kq l0 x3_1 x10_1 x5_2 (l0.length : Int) x10_1 (l0.length : Int) x15_2 = some r) ∧ Aside0 (kq ≤ k1) ∧ Aside0 (Kd.S (Kd.slice 3 (Kd.int .i64)) 25 w' w.heap.size (fun k_ => some k_ ≠ (v5 : Value).ownBlock) u3 x3_1) ∧ Aside0 (Kd.R (Kd.int .i64) 3 w' w.heap.size (fun _ => True) v5 x5_2) ∧ Aside0 (Below w.heap.size w w'))
 case atStart => exact ⟨(([] : List Int)), (0), zq7, H', ⟨zlr _⟩, ⟨by (with_reducible repeat (first | apply zSa | apply zSn | apply zSd)); exact Kd.S_mono HO_3.out (fun _ hk => (by simp [Value.ownBlock]))⟩, ⟨zq25⟩, ⟨zq1⟩⟩
 clear H'
 obtain ⟨x5_2, x15_2, rfl, HA, HK2, HO_3, HO_5, HB⟩ := hrel
 cases gk with
 | zero => exact absurd HA.out (by simp [zdp])
 | succ k2 =>
 have H := HA.out
 clear HA
 simp only [zdp] at H
 revert H
 refine zit (fun c3 H => ?_) fun c3 H => ?_
 rotate_left
 · by_cases c11 : x3_1.length < 5864062014805
   rotate_left
   · rw [if_neg c11] at H
     exact absurd H (by simp)
   rw [if_pos c11] at H
   have LMc11 := zA c11
   clear c11
   obtain ⟨y108, hy108⟩ : ∃ y_ : List (List Int), y_ = (x3_1 ++ [x5_2]) := ⟨_, rfl⟩
   rw [← hy108] at H; try with_reducible replace H := zbs H
   have Ny108 := zA hy108
   clear hy108
   have H' := zA H
   clear H
   obtain ⟨Ao13, co13, eo13⟩ := Kd.R_slice HO_5.out
   subst eo13
   go_wp2_with (first | ((with_reducible refine zci (b := .append) (xs := #[.tmp 30, .tmp 32]) rfl ?_); at_builtin; refine Kd.S_append (Kd.slice 3 (Kd.int .i64)) (w0 := w) w.heap.size rfl (.tmp 30) (.tmp 32) 36 25 (.slice none 0 0) 24 rfl Tryz.underlying36 yco rfl (by decide) (by omega) u3 x3_1 x5_2 [.slice Ao13 x5_2.length co13] (fun _ => True) (fun k_ => some k_ = (.slice Ao13 x5_2.length co13 : Value).ownBlock) rfl rfl ?aP (fun k_ hk_ => ((Kd.R_mono (ok' := fun k_ => ((fun _ => True)) k_ ∧ some k_ ≠ (u3 : Value).ownBlock) (Kd.R_apart' (HO_5.out) (Kd.S_typed HO_3.out) (by decide)) (fun k_ hk => ⟨trivial, hk.2⟩))).1 k_ hk_.symm) ?aF ?aO ?aB ?aS ?aL ?_; (case aP => exact Kd.M_row (Kd.R_mono (Kd.R_tight rfl (Kd.R_mono (ok' := fun k_ => ((fun _ => True)) k_ ∧ some k_ ≠ (u3 : Value).ownBlock) (Kd.R_apart' (HO_5.out) (Kd.S_typed HO_3.out) (by decide)) (fun k_ hk => ⟨trivial, hk.2⟩))) (fun _ h_ => h_))); (case aB => exact zq1); (case aF => exact (fun _ _ => trivial)); (case aO => exact (by (with_reducible repeat (first | apply zSa | apply zSn | apply zSd)); exact Kd.S_mono HO_3.out (fun k_ hk => ⟨trivial, fun e_ => hk e_⟩))); (case aS => exact (zaj zq1)); (case aL => have := LMc11.out; omega); intro v109 w12 ho hb hg hat; rw [← Ny108.out] at ho; replace HB := zA (hb); have HO110 := zA (ho); clear HO_3 HO_5; clear ho hb hg hat))
   go_roundg k2
   case measure => have := HK1.out; have := HK2.out; omega
   case rel => exact ⟨(y108), (wrap64 (x10_1 + 1)), zq7, H', ⟨zq41 HK1 HK2⟩, ⟨zq17 HO110⟩, ⟨zq1⟩⟩
 revert H
 refine zit (fun c4 H => ?_) fun c4 H => ?_
 rotate_left
 · by_cases c9 : x5_2.length < 17592186044416
   rotate_left
   · rw [if_neg c9] at H
     exact absurd H (by simp)
   rw [if_pos c9] at H
   have LMc9 := zA c9
   clear c9
   obtain ⟨y105, hy105⟩ : ∃ y_ : List Int, y_ = (x5_2 ++ [(-1)]) := ⟨_, rfl⟩
   rw [← hy105] at H; try with_reducible replace H := zbs H
   have Ny105 := zA hy105
   clear hy105
   have H' := zA H
   clear H
   go_wp2_with (first | ((with_reducible refine zci (b := .append) (xs := #[.tmp 25, .tmp 27]) rfl ?_); at_builtin; refine Kd.R_append (Kd.int .i64) (w0 := w) w.heap.size rfl (.tmp 25) (.tmp 27) 25 3 (.int .i64 0) 8 rfl Tryz.underlying25 zja rfl (by decide) (by omega) u5 x5_2 (-1) [.int .i64 (-1)] (fun _ => True) (fun _ => False) rfl rfl ?aP (fun _ hk => hk.elim) ?aF ?aO ?aB ?aS ?aL ?_; (case aP => exact rfl); (case aB => exact zq1); (case aF => exact (fun _ _ => trivial)); (case aO => exact (zq2 HO_5)); (case aS => exact (zaj zq1)); (case aL => have := LMc9.out; omega); intro v106 w10 ho hb hg hat; rw [← Ny105.out] at ho; replace HO_3 := zA (Kd.S_after (ok := (fun _ => True)) (zq74 HO_3) hg hat); replace HB := zA (hb); have HO107 := zA (ho); clear HO_5; clear ho hb hg hat))
   go_roundg k2
   case measure => have := HK1.out; have := HK2.out; omega
   case rel => exact ⟨(y105), (wrap64 (x15_2 + 1)), zq7, H', ⟨zq41 HK1 HK2⟩, ⟨zq39 HO_3⟩, ⟨zq2 HO107⟩, ⟨zq1⟩⟩
 replace H := zob H
 obtain ⟨t101, A50, H⟩ := H
 have A5 := zA A50
 clear A50
 by_cases c6 : x5_2.length < 17592186044416
 rotate_left
 · rw [if_neg c6] at H
   exact absurd H (by simp)
 rw [if_pos c6] at H
 have LMc6 := zA c6
 clear c6
 obtain ⟨y102, hy102⟩ : ∃ y_ : List Int, y_ = (x5_2 ++ [t101]) := ⟨_, rfl⟩
 rw [← hy102] at H; try with_reducible replace H := zbs H
 have Ny102 := zA hy102
 clear hy102
 have H' := zA H
 clear H
 go_wp2_with (first | ((with_reducible refine zgc 117 ?_); refine zca 24 Tryz.func117 #[.slice A0 l0.length c0, .int .i64 x10_1, .int .i64 x15_2] (zrr k2 _ _ l0 x10_1 x15_2 t101 _ (zq21 HR0) HC0.out A5.out) ?_; rintro e w7 ⟨rfl, hb⟩; refine ⟨_, rfl, ?_⟩; replace HO_3 := zA (Kd.S_below (zq17 HO_3) hb); replace HO_5 := zA (zRb (zq2 HO_5) hb); replace HB := zA (zab zq1 hb); (try clear hb)) | ((with_reducible refine zci (b := .append) (xs := #[.tmp 25, .tmp 27]) rfl ?_); at_builtin; refine Kd.R_append (Kd.int .i64) (w0 := w) w.heap.size rfl (.tmp 25) (.tmp 27) 25 3 (.int .i64 0) 8 rfl Tryz.underlying25 zja rfl (by decide) (by omega) u5 x5_2 t101 [.int .i64 t101] (fun _ => True) (fun _ => False) rfl rfl ?aP (fun _ hk => hk.elim) ?aF ?aO ?aB ?aS ?aL ?_; (case aP => exact rfl); (case aB => exact zq1); (case aF => exact (fun _ _ => trivial)); (case aO => exact (zq2 HO_5)); (case aS => exact (zaj zq1)); (case aL => have := LMc6.out; omega); intro v103 w8 ho hb hg hat; rw [← Ny102.out] at ho; replace HO_3 := zA (Kd.S_after (ok := (fun _ => True)) (zq74 HO_3) hg hat); replace HB := zA (hb); have HO104 := zA (ho); clear HO_5; clear ho hb hg hat))
 go_roundg k2
 case measure => have := HK1.out; have := HK2.out; omega
 case rel => exact ⟨(y102), (wrap64 (x15_2 + 1)), zq7, H', ⟨zq41 HK1 HK2⟩, ⟨zq39 HO_3⟩, ⟨zq2 HO104⟩, ⟨zq1⟩⟩
mutual
def zdc : Nat → List (S55) → List (List Int) → List Int → Int → Option (List Int)
 | 0, _, _, _, _ => none
 | k + 1, x0, x3, x4, x5 => if x5 ≥ 0 then (if 0 ≤ x5 then (if x5 < (x0.length : Int) then ((zhu ((zaa x0 x5).f0)).bind fun t108 => (if x5 < (x4.length : Int) then (zdd k x0 x3 (x4.set (x5 : Int).toNat t108) x5 (wrap64 (x5 + 1))) else (none))) else (none)) else (none)) else (some x4)
def zdd : Nat → List (S55) → List (List Int) → List Int → Int → Int → Option (List Int)
 | 0, _, _, _, _, _ => none
 | k + 1, x0, x3, x4, x5, x6 => if x6 < (x0.length : Int) then (if 0 ≤ x5 then (if x5 < (x3.length : Int) then (if 0 ≤ x6 then (if x6 < ((za5 x3 x5).length : Int) then (if (rd (za5 x3 x5) x6) ≥ 0 then (if x5 < (x4.length : Int) then (if x6 < (x4.length : Int) then ((zfg (rd x4 x5) (wrap64 ((rd (za5 x3 x5) x6) + (rd x4 x6)))).bind fun t116 => (zdd k x0 x3 (x4.set (x5 : Int).toNat t116) x5 (wrap64 (x6 + 1)))) else (none)) else (none)) else (zdd k x0 x3 x4 x5 (wrap64 (x6 + 1)))) else (none)) else (none)) else (none)) else (none)) else (zdc k x0 x3 x4 (wrap64 (x5 - 1)))
end
def zgl (k : Nat) (l0 : List (S55)) : Option (List Int) := (zfq k l0).bind fun t101 => (if 0 ≤ (l0.length : Int) then (if ((l0.length : Int) : Int).toNat ≤ 35184372088832 then (zdc k l0 t101 (List.replicate ((l0.length : Int) : Int).toNat 0) (wrap64 ((l0.length : Int) - 1))) else (none)) else (none))
theorem zmi : ∀ k, (∀ y0 y1 y2 y3, LeO (zdc k y0 y1 y2 y3) (zdc (k + 1) y0 y1 y2 y3)) ∧ (∀ y0 y1 y2 y3 y4, LeO (zdd k y0 y1 y2 y3 y4) (zdd (k + 1) y0 y1 y2 y3 y4))
 | 0 => ⟨fun _ _ _ _ r h => by simp [zdc] at h, fun _ _ _ _ _ r h => by simp [zdd] at h⟩
 | k + 1 => by
   obtain ⟨ih0, ih1⟩ := zmi k
   refine ⟨?_, ?_⟩
   · intro y0 y1 y2 y3
     unfold zdc
     exact zm3 ih0 ih1 zcn
   · intro y0 y1 y2 y3 y4
     unfold zdd
     exact zm3 ih0 ih1 zcn
theorem zjb : ∀ a0 k, LeO (zgl k a0) (zgl (k + 1) a0) := by
 intro a0 k
 obtain ⟨ih0, ih1⟩ := zmi k
 unfold zgl
 exact zm3 ih0 ih1 zcn
def spec_orHeights.T11 : Bool × List (List Nat × List Nat) := (true, [([], []), ([], []), ([], []), ([], []), ([2, 3], [2, 3]), ([4], [4]), ([], []), ([], []), ([6, 7], [6, 7]), ([8], [8]), ([], []), ([9, 10], [9, 10]), ([11], [11]), ([], []), ([], []), ([13, 14], [13, 14]), ([15], [15]), ([12, 16], [12, 16]), ([5, 17], [5, 17]), ([0, 1, 0, 1, 2, 3, 4, 5, 6, 7, 8, 9, 10, 11, 12, 13, 14, 15, 16, 17, 18], [0, 1]), ([19, 18, 18, 0, 1, 2, 3, 4, 5, 6, 7, 8, 9, 10, 11, 12, 13, 14, 15, 16, 17, 18], [18, 19])])
def zrs : List Nat := [0, 0, 0, 0, 12, 28, 0, 0, 192, 448, 0, 1984, 4032, 0, 0, 24576, 57344, 131008, 262140, 524287, 1048575]
theorem zqe : rtab .any (zun Tryz.f125 11) = spec_orHeights.T11 := by kernel_rfl
theorem zpo : zlc spec_orHeights.T11.2 zrs = true := by kernel_rfl
theorem zqf (k : Nat) (A0 : Option Addr) (c0 : Nat) (l0 : List (S55)) (r : List Int) (w : World) (hr0 : Kd.C k55 w A0 l0.length l0) (hc0 : l0.length ≤ c0) (h : zgl k l0 = some r) :
   Calls Tryz.prog 125 #[.slice A0 l0.length c0] w fun e w' => ∃ v0_ : Value, e = .returned (v0_) ∧ Kd.R (Kd.int .i64) 3 w' w.heap.size (fun _ => True) v0_ r ∧ Below w.heap.size w w' := by
 have HR0 := zA hr0
 have HC0 := zA hc0
 clear hr0 hc0
 have HB := zA (Below.refl w.heap.size w)
 have H := h
 unfold zgl at H
 clear h
 replace H := zob H
 obtain ⟨t101, A20, H⟩ := H
 have A2 := zA A20
 clear A20
 by_cases c3 : 0 ≤ (l0.length : Int)
 rotate_left
 · rw [if_neg c3] at H
   exact absurd H (by simp)
 rw [if_pos c3] at H
 have c3b0 := eq_true c3
 have c3b1 := zdt c3
 clear c3
 by_cases c4 : ((l0.length : Int) : Int).toNat ≤ 35184372088832
 rotate_left
 · rw [if_neg c4] at H
   exact absurd H (by simp)
 rw [if_pos c4] at H
 have c4b0 := eq_true c4
 have c4b1 := zdt c4
 clear c4
 obtain ⟨y104, hy104⟩ : ∃ y_ : List Int, y_ = (List.replicate ((l0.length : Int) : Int).toNat 0) := ⟨_, rfl⟩
 rw [← hy104] at H; try with_reducible replace H := zbs H
 have Ny104 := zA hy104
 clear hy104
 have H' := zA H
 clear H
 go_enter Tryz.func125, Tryz.ntmps125
 go_wp2_with (first | ((with_reducible refine zgc 62 ?_); refine zca 8 Tryz.func62 #[.slice A0 l0.length c0] (zgz k _ _ l0 t101 _ (zq15 HR0) HC0.out A2.out) ?_; rintro e w5 ⟨v102, rfl, ho0, hb⟩; refine ⟨_, rfl, ?_⟩; have HO103 := zA (Kd.S_lower ho0 (zaj zq1)); replace HB := zA (zab zq1 hb); (try clear hb); (try clear ho0)) | ((with_reducible refine zgd 11 ?_); refine Kd.R_make (Kd.int .i64) _ 3 rfl (N := 11) rfl 25 _ _ rfl (l0.length : Int) rfl rfl Tryz.underlying25 (.int .i64 0) 8 zja rfl (by decide) (by omega) 0 (ok := fun _ => True) (okp := fun _ => True) rfl (fun _ hk => hk) trivial (zde zq20) (Nat.le_trans (Nat.mul_le_mul_right _ (zde zq20 : (l0.length : Int).toNat ≤ 35184372088832)) (by omega)) (Below.refl _ _) (zlr _) ?_; intro v105 w6 ho7 hb hg_ hnew_; clear hg_ hnew_; (first | rw [← Ny104.out] at ho7 | (simp only [Int.reduceToNat] at ho7; rw [← Ny104.out] at ho7)); replace HO103 := zA (Kd.S_elder' (zq17 HO103) (Kd.R_base ho7) hb); have HO106 := zA (Kd.R_lower ho7 (zaj zq1)); replace HB := zA (zab zq1 hb); clear hb ho7))
 go_loopg [5] k (fun kq v5 w' => ∃ (x4_1 : List Int) (x5_1 : Int), v5 = .int .i64 x5_1 ∧ Aside0 (zdc kq l0 t101 x4_1 x5_1 = some r) ∧ Aside0 (kq ≤ k) ∧ Aside0 (Kd.S (Kd.slice 3 (Kd.int .i64)) 25 w' w.heap.size (fun k_ => some k_ ≠ (v105 : Value).ownBlock) v102 t101) ∧ Aside0 (Kd.R (Kd.int .i64) 3 w' w.heap.size (fun _ => True) v105 x4_1) ∧ Aside0 (Below w.heap.size w w'))
 case atStart => exact ⟨(y104), (wrap64 ((l0.length : Int) - 1)), zq7, H', ⟨zlr _⟩, ⟨zq39 HO103⟩, ⟨zq2 HO106⟩, ⟨zq1⟩⟩
 clear H'
 obtain ⟨x4_1, x5_1, rfl, HA, HK1, HO_3, HO_4, HB⟩ := hrel
 cases gk with
 | zero => exact absurd HA.out (by simp [zdc])
 | succ k1 =>
 have H := HA.out
 clear HA
 simp only [zdc] at H
 by_cases c8 : x5_1 ≥ 0
 rotate_left
 · rw [if_neg c8] at H
   have c8b0 := zdf c8
   clear c8
   obtain rfl := zsi H
   go_wp2
   go_ret
   exact ⟨_, zq5, zq2 HO_4, zq1⟩
 rw [if_pos c8] at H
 have c8b0 := zdt c8
 clear c8
 revert H
 refine zin fun c9 H => ?_
 revert H
 refine zin fun c10 H => ?_
 replace H := zob H
 obtain ⟨t108, A110, H⟩ := H
 have A11 := zA A110
 clear A110
 revert H
 refine zin fun c12 H => ?_
 obtain ⟨y109, hy109⟩ : ∃ y_ : List Int, y_ = (x4_1.set (x5_1 : Int).toNat t108) := ⟨_, rfl⟩
 rw [← hy109] at H; try with_reducible replace H := zbs H
 have Ny109 := zA hy109
 clear hy109
 have H' := zA H
 clear H
 obtain ⟨p107, q107⟩ := zpq x5_1 l0.length
 obtain ⟨ad107, e107, hx107_0, hx107_1, hx107_2, hx107_3, hx107_4⟩ := zld HR0.out x5_1 (zoe p107) (zoe q107)
 cases e107
 replace hx107_0 := zkep HB.out hx107_0
 replace hx107_1 := zkep HB.out hx107_1
 replace hx107_2 := zkep HB.out hx107_2
 replace hx107_3 := zkep HB.out hx107_3
 replace hx107_4 := zkep HB.out hx107_4
 go_wp2_with (first | ((with_reducible refine zgc 100 ?_); refine zcl 26 Tryz.func100 (zh7 ((zaa l0 x5_1).f0) t108 _ A11.out) ?_; rintro e w' ⟨rfl, ⟨nd, rfl⟩⟩; refine ⟨_, rfl, ?_⟩; (try (rw [zg2 wr]; generalize hq_ : World.drewN wr _ = wr; have n0_ : Aside0 (Kd.S (Kd.slice 3 (Kd.int .i64)) 25 wr w.heap.size (fun k_ => some k_ ≠ (v105 : Value).ownBlock) v102 t101) := ⟨by rw [← hq_]; exact (zq17 HO_3)⟩; have n1_ : Aside0 (Kd.R (Kd.int .i64) 3 wr w.heap.size (fun _ => True) v105 x4_1) := ⟨by rw [← hq_]; exact (zq2 HO_4)⟩; have n2_ : Aside0 (Below w.heap.size w wr) := ⟨by rw [← hq_]; exact zq1⟩; clear HO_3 HO_4 HB hq_; have HO_3 := n0_; have HO_4 := n1_; have HB := n2_; clear n0_ n1_ n2_)); have p13 : 0 ≤ (x5_1 : Int) := zde zq20; have q13 : (x5_1 : Int) < ((x4_1.length : Int) : Int) := zde zq20; obtain ⟨go13, co13, eo13, gb13, gl13, cl13, HG13⟩ := Kd.R_form HO_4.out (by omega); (first | cases eo13 | (injection eo13 with ea_ en_ ec_; (first | subst ea_ | (injection ea_ with ea_; subst ea_)); subst ec_; clear en_)); have GB13 := zA gb13; have GG13 := zA HG13; clear gb13 gl13 HG13; obtain ⟨hx13_0, hf13_0⟩ := Kd.R_celln 0 HO_4.out (x5_1 : Int) p13 q13; replace p13 := eq_true p13; replace q13 := eq_true q13; obtain ⟨hy14_, hz14_⟩ := Kd.R_celln 0 HO_4.out (x5_1 : Int) (zde zq20) (zde zq20); have HP14 := Kd.R_putg HO_4.out (x5_1 : Int) t108) | ((with_reducible refine zgs 3 27 ?_); refine zse (wr.setCell ⟨go13, (x5_1 : Int).toNat, none⟩ (.int .i64 t108)) ?_; intro w15 hw; have hg : wr.grownBy w15 (some go13) := (by rw [hw]; exact HP14.2); have hp_ : Kd.R (Kd.int .i64) 3 w15 w.heap.size (fun _ => True) (.slice (some ⟨go13, 0, none⟩) x4_1.length co13) y109 := (by rw [hw, Ny109.out]; exact HP14.1); clear HP14; replace HO_3 := zA (Kd.S_after (v := (.slice (some ⟨go13, 0, none⟩) x4_1.length co13)) (v1 := (.slice (some ⟨go13, 0, none⟩) x4_1.length co13)) (ok := (fun _ => True)) (zq74 HO_3) hg (.inl rfl)); replace HO_4 := zA (hp_); replace HB := zA ((zq63 GB13 : Below w.heap.size w w15)); clear hg hw hp_))
 go_loopg [6] k1 (fun kq v6 w' => ∃ (x4_2 : List Int) (x6_2 : Int), v6 = .int .i64 x6_2 ∧ Aside0 (zdd kq l0 t101 x4_2 x5_1 x6_2 = some r) ∧ Aside0 (kq ≤ k1) ∧ Aside0 (Kd.S (Kd.slice 3 (Kd.int .i64)) 25 w' w.heap.size (fun k_ => some k_ ≠ ((.slice (some ⟨go13, 0, none⟩) x4_1.length co13) : Value).ownBlock) v102 t101) ∧ Aside0 (Kd.R (Kd.int .i64) 3 w' w.heap.size (fun _ => True) (.slice (some ⟨go13, 0, none⟩) x4_1.length co13) x4_2) ∧ Aside0 (Below w.heap.size w w'))
 case atStart => exact ⟨(y109), (wrap64 (x5_1 + 1)), zq7, H', ⟨zlr _⟩, ⟨zq39 HO_3⟩, ⟨zq2 HO_4⟩, ⟨zq1⟩⟩
 clear H'
 obtain ⟨x4_2, x6_2, rfl, HA, HK2, HO_3, HO_4, HB⟩ := hrel
 have hl4_2 := (zRr HO_4.out).1
 rw [hl4_2] at HO_4
 (try simp only [hl4_2])
 (try simp only [hl4_2] at HO_3)
 cases gk with
 | zero => exact absurd HA.out (by simp [zdd])
 | succ k2 =>
 have H := HA.out
 clear HA
 simp only [zdd] at H
 revert H
 refine zit (fun c16 H => ?_) fun c16 H => ?_
 rotate_left
 · have H' := zA H
   clear H
   go_wp2
   (try simp only [← hl4_2])
   go_roundg k2
   case measure => have := HK1.out; have := HK2.out; omega
   case rel => exact ⟨(x4_2), (wrap64 (x5_1 - 1)), zq7, H', ⟨zq41 HK1 HK2⟩, ⟨by (try simp only [hl4_2]); (with_reducible repeat (first | apply zSa | apply zSn | apply zSd)); exact HO_3.out⟩, ⟨zq78 HO_4⟩, ⟨zq1⟩⟩
 revert H
 refine zin fun c17 H => ?_
 revert H
 refine zin fun c18 H => ?_
 revert H
 refine zin fun c19 H => ?_
 revert H
 refine zin fun c20 H => ?_
 by_cases c21 : (rd (za5 t101 x5_1) x6_2) ≥ 0
 rotate_left
 · rw [if_neg c21] at H
   have c21b0 := zdf c21
   clear c21
   have H' := zA H
   clear H
   obtain ⟨Ao29, co29, eo29⟩ := Kd.S_slice HO_3.out
   subst eo29
   have p110 : 0 ≤ (x5_1 : Int) := zde zq20
   have q110 : x5_1 < (t101.length : Int) := zde zq20
   obtain ⟨ad110, A110_0, c110_0, e110, hx110_0, hl110_0, hi110_0⟩ := zln (zSr HO_3.out).2.2 x5_1 p110 q110
   cases e110
   obtain ⟨ce110, hce110, hMe110, hcc110⟩ := Kd.S_get HO_3.out [] x5_1 p110 (by first | exact q110 | exact zde zq20 | (have e_ := (zSr HO_3.out).1; omega))
   obtain ⟨ve110_0, rfl, ge110_0⟩ := hMe110
   have hv110_0 := hcc110 0 _ rfl
   rw [Nat.add_zero, show ((Kd.slice 3 (Kd.int .i64))).sz = 1 from rfl, Nat.mul_one] at hv110_0
   replace hv110_0 := zsi (hv110_0.symm.trans hx110_0)
   rw [hv110_0] at ge110_0
   have HL110_0 := zA (show Kd.R (Kd.int .i64) 3 _ _ _ _ (za5 t101 x5_1) from ge110_0)
   clear hv110_0 ge110_0
   clear hcc110 hce110
   have HR110_0 := zA hi110_0
   have HC110_0 := zA hl110_0
   clear hi110_0 hl110_0
   replace p110 := eq_true p110
   replace q110 := eq_true q110
   have p111 : 0 ≤ (x6_2 : Int) := zde zq20
   have q111 : x6_2 < ((za5 t101 x5_1).length : Int) := zde zq20
   obtain ⟨ad111, e111, hx111_0⟩ := Kd.at_int (zq18 HR110_0) x6_2 p111 q111
   cases e111
   replace p111 := eq_true p111
   replace q111 := eq_true q111
   go_wp2
   (try simp only [← hl4_2])
   go_roundg k2
   case measure => have := HK1.out; have := HK2.out; omega
   case rel => exact ⟨(x4_2), (wrap64 (x6_2 + 1)), zq7, H', ⟨zq41 HK1 HK2⟩, ⟨by (try simp only [hl4_2]); (with_reducible repeat (first | apply zSa | apply zSn | apply zSd)); exact HO_3.out⟩, ⟨zq78 HO_4⟩, ⟨zq1⟩⟩
 rw [if_pos c21] at H
 have c21b0 := zdt c21
 clear c21
 revert H
 refine zin fun c22 H => ?_
 revert H
 refine zin fun c23 H => ?_
 replace H := zob H
 obtain ⟨t116, A240, H⟩ := H
 have A24 := zA A240
 clear A240
 obtain ⟨y117, hy117⟩ : ∃ y_ : List Int, y_ = (x4_2.set (x5_1 : Int).toNat t116) := ⟨_, rfl⟩
 rw [← hy117] at H; try with_reducible replace H := zbs H
 have Ny117 := zA hy117
 clear hy117
 have H' := zA H
 clear H
 obtain ⟨Ao26, co26, eo26⟩ := Kd.S_slice HO_3.out
 subst eo26
 have p110 : 0 ≤ (x5_1 : Int) := zde zq20
 have q110 : x5_1 < (t101.length : Int) := zde zq20
 obtain ⟨ad110, A110_0, c110_0, e110, hx110_0, hl110_0, hi110_0⟩ := zln (zSr HO_3.out).2.2 x5_1 p110 q110
 cases e110
 obtain ⟨ce110, hce110, hMe110, hcc110⟩ := Kd.S_get HO_3.out [] x5_1 p110 (by first | exact q110 | exact zde zq20 | (have e_ := (zSr HO_3.out).1; omega))
 obtain ⟨ve110_0, rfl, ge110_0⟩ := hMe110
 have hv110_0 := hcc110 0 _ rfl
 rw [Nat.add_zero, show ((Kd.slice 3 (Kd.int .i64))).sz = 1 from rfl, Nat.mul_one] at hv110_0
 replace hv110_0 := zsi (hv110_0.symm.trans hx110_0)
 rw [hv110_0] at ge110_0
 have HL110_0 := zA (show Kd.R (Kd.int .i64) 3 _ _ _ _ (za5 t101 x5_1) from ge110_0)
 clear hv110_0 ge110_0
 clear hcc110 hce110
 have HR110_0 := zA hi110_0
 have HC110_0 := zA hl110_0
 clear hi110_0 hl110_0
 replace p110 := eq_true p110
 replace q110 := eq_true q110
 have p111 : 0 ≤ (x6_2 : Int) := zde zq20
 have q111 : x6_2 < ((za5 t101 x5_1).length : Int) := zde zq20
 obtain ⟨ad111, e111, hx111_0⟩ := Kd.at_int (zq18 HR110_0) x6_2 p111 q111
 cases e111
 replace p111 := eq_true p111
 replace q111 := eq_true q111
 try go_wp2
 replace HO_3 := zA (zSd HO_3.out)
 replace HO_4 := zA (zRd HO_4.out)
 replace HL110_0 := zA (zRd HL110_0.out)
 replace HR110_0 := zA (zCd HR110_0.out)
 replace HB := zA (zbd HB.out)
 obtain ⟨p112, q112⟩ := zpq x5_1 x4_2.length
 obtain ⟨ad112, e112, hx112_0⟩ := Kd.at_int (zRr HO_4.out).2.2 x5_1 (zoe p112) (zoe q112)
 obtain rfl : (⟨go13, 0, none⟩ : Addr) = ad112 := (by injection e112)
 (first | simp only [zf2] at hx112_0 | simp only [zsz] at hx112_0 | simp only [Addr.add, Nat.zero_add] at hx112_0 | skip)
 have p113 : 0 ≤ (x5_1 : Int) := zde zq20
 have q113 : x5_1 < (t101.length : Int) := zde zq20
 obtain ⟨ad113, A113_0, c113_0, e113, hx113_0, hl113_0, hi113_0⟩ := zln (zSr HO_3.out).2.2 x5_1 p113 q113
 obtain rfl : ad110 = ad113 := (by injection e113)
 obtain ⟨ce113, hce113, hMe113, hcc113⟩ := Kd.S_get HO_3.out [] x5_1 p113 (by first | exact q113 | exact zde zq20 | (have e_ := (zSr HO_3.out).1; omega))
 obtain ⟨ve113_0, rfl, ge113_0⟩ := hMe113
 have hv113_0 := hcc113 0 _ rfl
 rw [Nat.add_zero, show ((Kd.slice 3 (Kd.int .i64))).sz = 1 from rfl, Nat.mul_one] at hv113_0
 replace hv113_0 := zsi (hv113_0.symm.trans hx113_0)
 rw [hv113_0] at ge113_0
 have HL113_0 := zA (show Kd.R (Kd.int .i64) 3 _ _ _ _ (za5 t101 x5_1) from ge113_0)
 clear hv113_0 ge113_0
 clear hcc113 hce113
 have HR113_0 := zA hi113_0
 have HC113_0 := zA hl113_0
 clear hi113_0 hl113_0
 replace p113 := eq_true p113
 replace q113 := eq_true q113
 have p114 : 0 ≤ (x6_2 : Int) := zde zq20
 have q114 : x6_2 < ((za5 t101 x5_1).length : Int) := zde zq20
 obtain ⟨ad114, e114, hx114_0⟩ := Kd.at_int (zq18 HR113_0) x6_2 p114 q114
 cases e114
 replace p114 := eq_true p114
 replace q114 := eq_true q114
 obtain ⟨p115, q115⟩ := zpq x6_2 x4_2.length
 obtain ⟨ad115, e115, hx115_0⟩ := Kd.at_int (zRr HO_4.out).2.2 x6_2 (zoe p115) (zoe q115)
 obtain rfl : (⟨go13, 0, none⟩ : Addr) = ad115 := (by injection e115)
 (first | simp only [zf2] at hx115_0 | simp only [zsz] at hx115_0 | simp only [Addr.add, Nat.zero_add] at hx115_0 | skip)
 refine zmx (n := 21) (S := fun w' => w'.cell? ⟨go13, (x5_1).toNat, none⟩ = some (.int .i64 (rd x4_2 x5_1)) ∧ w'.cell? (ad110.add (x5_1).toNat) = some (.slice (some ad114) (za5 t101 x5_1).length c113_0) ∧ w'.cell? (ad114.add (x6_2).toNat) = some (.int .i64 (rd (za5 t101 x5_1) x6_2)) ∧ w'.cell? ⟨go13, (x6_2).toNat, none⟩ = some (.int .i64 (rd x4_2 x6_2))) (ds := [20]) #[false, false, false, false, false, false, false, false, false, false, false, false, false, false, false, false, false, false, false, false, false] zq27 rfl rfl ⟨hx112_0, hx113_0, hx114_0, hx115_0⟩ (fun hHeld => ?_); refine zji zqe zpo (fun HT_ HW_ => ?_)
 generalize wr.drew = w27 at HO_3 HO_4 HL110_0 HR110_0 HB HL113_0 HR113_0 hx112_0 hx113_0 hx114_0 hx115_0 hHeld ⊢
 refine zpu 0 44 HT_ ?_
 refine zpu 1 45 HT_ ?_
 refine zpu 2 46 HT_ ?_
 refine zpu 3 47 HT_ ?_
 refine zpu 4 48 HT_ ?_
 refine zpu 6 50 HT_ ?_
 refine zpu 7 51 HT_ ?_
 refine zpu 8 52 HT_ ?_
 refine zpu 10 54 HT_ ?_
 refine zpu 13 57 HT_ ?_
 refine zpu 14 58 HT_ ?_
 refine zpu 15 59 HT_ ?_
 refine ztu 5 49 HT_ HW_ hHeld ?_
 refine ztu 9 53 HT_ HW_ hHeld ?_
 refine zpu 11 55 HT_ ?_
 refine ztu 12 56 HT_ HW_ hHeld ?_
 refine ztu 16 60 HT_ HW_ hHeld ?_
 refine zpu 17 61 HT_ ?_
 refine one_ (i := 18) (N := some 62) #[true, true, true, true, true, true, true, true, true, true, true, true, true, true, true, true, true, true, true, false, false] rfl rfl (zl7 HT_.out zq27) (by decide) (fun K hK => ?_)
 refine zgo Tryz.func103 (zgy (rd x4_2 x5_1) (wrap64 ((rd (za5 t101 x5_1) x6_2) + (rd x4_2 x6_2))) t116 _ A24.out) ?_
 rintro e w' ⟨rfl, ⟨nd, rfl⟩⟩
 refine ⟨_, rfl, ?_⟩
 have p25 : 0 ≤ (x5_1 : Int) := zde zq20
 have q25 : (x5_1 : Int) < ((x4_2.length : Int) : Int) := zde zq20
 obtain ⟨hx25_0, hf25_0⟩ := Kd.R_celln 0 HO_4.out (x5_1 : Int) p25 q25
 replace p25 := eq_true p25
 replace q25 := eq_true q25
 have HP28 := Kd.R_putn HO_4.out (x5_1 : Int) t116
 rw [← Ny117.out] at HP28
 have HQ28 := zA HP28
 clear HP28
 refine hK.out _ _ ⟨hHeld.1, hHeld.2.1, hHeld.2.2.1, hHeld.2.2.2⟩ (fun hHeld => ?_)
 clear hK K
 refine znm 62 ?_
 refine zpu 19 63 HT_ ?_
 refine zzr (i := 20) (N := none) #[true, true, true, true, true, true, true, true, true, true, true, true, true, true, true, true, true, true, true, true, true] rfl rfl (zl7 HT_.out zq27) (by decide) (fun K hK => ?_)
 refine ztd (w1 := ?_) (by rfl) rfl ?_ ?_
 rotate_left
 · go_simp
   rfl
 refine hK.out _ _ ?_
 clear hK K
 refine zpl (zlx HT_.out zq27) ?_
 try go_wp2
 (try simp only [← hl4_2])
 go_roundg k2
 case measure => have := HK1.out; have := HK2.out; omega
 case rel => exact ⟨(y117), (wrap64 (x6_2 + 1)), zq7, H', ⟨zq41 HK1 HK2⟩, ⟨by (try simp only [hl4_2]); (with_reducible repeat (first | apply zSa | apply zSn | apply zSd)); exact Kd.S_mono (Kd.S_far (p := ⟨go13, (x5_1 : Int).toNat, none⟩) (Kd.S_mono HO_3.out (fun k_ hk => (⟨hk, fun e_ => hk (by rw [e_]; rfl)⟩ : _ ∧ k_ ≠ go13))) (fun _ hk => hk.2) (.int .i64 t116)) (fun _ hk => hk.1)⟩, ⟨zq78 HQ28⟩, ⟨zq10 GB13⟩⟩
def ze7 : Nat → Int → List Int → Option (List Int)
 | 0, _, _ => none
 | k + 1, x0, x3 => if x0 > 0 then (if x3.length < 17592186044416 then (ze7 k (wrap64 (x0 - 1)) (x3 ++ [(-1)])) else (none)) else (some x3)
def ziq (k : Nat) (a0 : Int) : Option (List Int) := ze7 k a0 ([] : List Int)
theorem zn5 : ∀ k, (∀ y0 y1, LeO (ze7 k y0 y1) (ze7 (k + 1) y0 y1))
 | 0 => fun _ _ r h => by simp [ze7] at h
 | k + 1 => by
   have ih0 := zn5 k
   · intro y0 y1
     unfold ze7
     exact zm1 ih0
theorem zk0 : ∀ a0 k, LeO (ziq k a0) (ziq (k + 1) a0) := by
 intro a0 k
 have ih0 := zn5 k
 unfold ziq
 exact zm1 ih0
theorem zsn (k : Nat) (a0 : Int) (r : List Int) (w : World) (h : ziq k a0 = some r) :
   Calls Tryz.prog 126 #[.int .i64 a0] w fun e w' => ∃ v0_ : Value, e = .returned (v0_) ∧ Kd.R (Kd.int .i64) 3 w' w.heap.size (fun _ => True) v0_ r ∧ Below w.heap.size w w' := by
 have HB := zA (Below.refl w.heap.size w)
 have H := h
 unfold ziq at H
 clear h
 have H' := zA H
 clear H
 go_enter Tryz.func126, Tryz.ntmps126
 go_wp2
 go_loopg [0, 3] k (fun kq v0 v3 w' => ∃ (x0_1 : Int) (x3_1 : List Int), v0 = .int .i64 x0_1 ∧ Aside0 (ze7 kq x0_1 x3_1 = some r) ∧ Aside0 (kq ≤ k) ∧ Aside0 (Kd.R (Kd.int .i64) 3 w' w.heap.size (fun _ => True) v3 x3_1) ∧ Aside0 (Below w.heap.size w w'))
 case atStart => exact ⟨(a0), (([] : List Int)), zq7, H', ⟨zlr _⟩, ⟨zq25⟩, ⟨zq1⟩⟩
 clear H'
 obtain ⟨x0_1, x3_1, rfl, HA, HK1, HO_3, HB⟩ := hrel
 cases gk with
 | zero => exact absurd HA.out (by simp [ze7])
 | succ k1 =>
 have H := HA.out
 clear HA
 simp only [ze7] at H
 by_cases c2 : x0_1 > 0
 rotate_left
 · rw [if_neg c2] at H
   have c2b0 := zdf c2
   clear c2
   obtain rfl := zsi H
   go_wp2
   go_ret
   exact ⟨_, zq5, zq2 HO_3, zq1⟩
 rw [if_pos c2] at H
 have c2b0 := zdt c2
 clear c2
 by_cases c3 : x3_1.length < 17592186044416
 rotate_left
 · rw [if_neg c3] at H
   exact absurd H (by simp)
 rw [if_pos c3] at H
 have LMc3 := zA c3
 clear c3
 obtain ⟨y101, hy101⟩ : ∃ y_ : List Int, y_ = (x3_1 ++ [(-1)]) := ⟨_, rfl⟩
 rw [← hy101] at H; try with_reducible replace H := zbs H
 have Ny101 := zA hy101
 clear hy101
 have H' := zA H
 clear H
 go_wp2_with (first | ((with_reducible refine zci (b := .append) (xs := #[.tmp 8, .tmp 9]) rfl ?_); at_builtin; refine Kd.R_append (Kd.int .i64) (w0 := w) w.heap.size rfl (.tmp 8) (.tmp 9) 25 3 (.int .i64 0) 8 rfl Tryz.underlying25 zja rfl (by decide) (by omega) u3 x3_1 (-1) [.int .i64 (-1)] (fun _ => True) (fun _ => False) rfl rfl ?aP (fun _ hk => hk.elim) ?aF ?aO ?aB ?aS ?aL ?_; (case aP => exact rfl); (case aB => exact zq1); (case aF => exact (fun _ _ => trivial)); (case aO => exact (zq2 HO_3)); (case aS => exact (zaj zq1)); (case aL => have := LMc3.out; omega); intro v102 w4 ho hb hg hat; rw [← Ny101.out] at ho; replace HB := zA (hb); have HO103 := zA (ho); clear HO_3; clear ho hb hg hat))
 go_roundg k1
 case measure => have := HK1.out; omega
 case rel => exact ⟨(wrap64 (x0_1 - 1)), (y101), zq7, H', ⟨zq51 HK1⟩, ⟨zq2 HO103⟩, ⟨zq1⟩⟩
def zd7 : Nat → List Int → Int → Int → List (List Int) → Int → Int → Option (Bool)
 | 0, _, _, _, _, _, _ => none
 | k + 1, x1, x2, x3, x16, x17, x18 => if x18 < x17 then (if 0 ≤ x18 then (if x18 < (x16.length : Int) then (if 0 ≤ x2 then (if x2 < ((za5 x16 x18).length : Int) then (if (rd (za5 x16 x18) x2) ≥ 0 then (if x18 < (x1.length : Int) then (if (rd x1 x18) < 0 then (some false) else (if (wrap64 ((rd x1 x18) + (rd (za5 x16 x18) x2))) > x3 then (some false) else (zd7 k x1 x2 x3 x16 x17 (wrap64 (x18 + 1))))) else (none)) else (zd7 k x1 x2 x3 x16 x17 (wrap64 (x18 + 1)))) else (none)) else (none)) else (none)) else (none)) else (some true)
def zh1 (k : Nat) (l0 : List (List Int)) (l1 : List Int) (a2 : Int) (a3 : Int) : Option (Bool) := if 0 ≤ a2 then (if a2 < (l1.length : Int) then (if (rd l1 a2) ≥ 0 then (some false) else (zd7 k l1 a2 a3 l0 (l0.length : Int) 0)) else (none)) else (none)
theorem znk : ∀ k, (∀ y0 y1 y2 y3 y4 y5, LeO (zd7 k y0 y1 y2 y3 y4 y5) (zd7 (k + 1) y0 y1 y2 y3 y4 y5))
 | 0 => fun _ _ _ _ _ _ r h => by simp [zd7] at h
 | k + 1 => by
   have ih0 := znk k
   · intro y0 y1 y2 y3 y4 y5
     unfold zd7
     exact zm1 ih0
theorem zke : ∀ a0 a1 a2 a3 k, LeO (zh1 k a0 a1 a2 a3) (zh1 (k + 1) a0 a1 a2 a3) := by
 intro a0 a1 a2 a3 k
 have ih0 := znk k
 unfold zh1
 exact zm1 ih0
theorem zjq (k : Nat) (A0 : Option Addr) (c0 : Nat) (l0 : List (List Int)) (A1 : Option Addr) (c1 : Nat) (l1 : List Int) (a2 : Int) (a3 : Int) (r : Bool) (w : World) (hr0 : Kd.C (Kd.slice 3 (Kd.int .i64)) w A0 l0.length l0) (hc0 : l0.length ≤ c0) (hr1 : Kd.C (Kd.int .i64) w A1 l1.length l1) (hc1 : l1.length ≤ c1) (h : zh1 k l0 l1 a2 a3 = some r) :
   Calls Tryz.prog 127 #[.slice A0 l0.length c0, .slice A1 l1.length c1, .int .i64 a2, .int .i64 a3] w fun e w' => e = .returned (.bool r) ∧ Drawn0 w w' := by
 have HR0 := zA hr0
 have HC0 := zA hc0
 clear hr0 hc0
 have HR1 := zA hr1
 have HC1 := zA hc1
 clear hr1 hc1
 have H := h
 unfold zh1 at H
 clear h
 revert H
 refine zin fun c5 H => ?_
 revert H
 refine zin fun c6 H => ?_
 revert H
 refine zit (fun c7b0 H => ?_) fun c7b0 H => ?_
 · obtain rfl := zsi H
   obtain ⟨p101, q101⟩ := zpq a2 l1.length
   obtain ⟨ad101, e101, hx101_0⟩ := Kd.at_int HR1.out a2 (zoe p101) (zoe q101)
   cases e101
   go_enter Tryz.func127, Tryz.ntmps127
   go_wp2
   repeat (go_quiet (fail); try go_wp2)
   exact zr_1
 have H' := zA H
 clear H
 obtain ⟨p101, q101⟩ := zpq a2 l1.length
 obtain ⟨ad101, e101, hx101_0⟩ := Kd.at_int HR1.out a2 (zoe p101) (zoe q101)
 cases e101
 go_enter Tryz.func127, Tryz.ntmps127
 go_wp2
 repeat (go_quiet (fail); try go_wp2)
 go_loopg [18] k (fun kq v18 w' => ∃ (x18_1 : Int), v18 = .int .i64 x18_1 ∧ Aside0 (zd7 kq l1 a2 a3 l0 (l0.length : Int) x18_1 = some r) ∧ Aside0 (kq ≤ k) ∧ Drawn0 w w')
 case atStart => exact ⟨(0), zq7, H', ⟨zlr _⟩, zq13⟩
 clear H'
 obtain ⟨x18_1, rfl, HA, HK1, ⟨m1, rfl⟩⟩ := hrel
 cases gk with
 | zero => exact absurd HA.out (by simp [zd7])
 | succ k1 =>
 have H := HA.out
 clear HA
 simp only [zd7] at H
 revert H
 refine zit (fun c8 H => ?_) fun c8 H => ?_
 rotate_left
 · obtain rfl := zsi H
   go_wp2
   repeat (go_quiet (fail); try go_wp2)
   exact zr_1
 revert H
 refine zin fun c9 H => ?_
 revert H
 refine zin fun c10 H => ?_
 revert H
 refine zin fun c11 H => ?_
 revert H
 refine zin fun c12 H => ?_
 by_cases c13 : (rd (za5 l0 x18_1) a2) ≥ 0
 rotate_left
 · rw [if_neg c13] at H
   have c13b0 := zdf c13
   clear c13
   have H' := zA H
   clear H
   obtain ⟨p102, q102⟩ := zpq x18_1 l0.length
   obtain ⟨ad102, A102_0, c102_0, e102, hx102_0, hl102_0, hi102_0⟩ := zln HR0.out x18_1 (zoe p102) (zoe q102)
   cases e102
   have HR102_0 := zA hi102_0
   have HC102_0 := zA hl102_0
   clear hi102_0 hl102_0
   have p103 : 0 ≤ (a2 : Int) := zde zq20
   have q103 : a2 < ((za5 l0 x18_1).length : Int) := zde zq20
   obtain ⟨ad103, e103, hx103_0⟩ := Kd.at_int HR102_0.out a2 p103 q103
   cases e103
   replace p103 := eq_true p103
   replace q103 := eq_true q103
   go_wp2
   repeat (go_quiet (fail); try go_wp2)
   go_roundg k1
   case measure => have := HK1.out; omega
   case rel => exact ⟨(wrap64 (x18_1 + 1)), zq7, H', ⟨zq51 HK1⟩, zq13⟩
 rw [if_pos c13] at H
 have c13b0 := zdt c13
 clear c13
 revert H
 refine zin fun c14 H => ?_
 revert H
 refine zit (fun c15b0 H => ?_) fun c15b0 H => ?_
 · obtain rfl := zsi H
   obtain ⟨p102, q102⟩ := zpq x18_1 l0.length
   obtain ⟨ad102, A102_0, c102_0, e102, hx102_0, hl102_0, hi102_0⟩ := zln HR0.out x18_1 (zoe p102) (zoe q102)
   cases e102
   have HR102_0 := zA hi102_0
   have HC102_0 := zA hl102_0
   clear hi102_0 hl102_0
   have p103 : 0 ≤ (a2 : Int) := zde zq20
   have q103 : a2 < ((za5 l0 x18_1).length : Int) := zde zq20
   obtain ⟨ad103, e103, hx103_0⟩ := Kd.at_int HR102_0.out a2 p103 q103
   cases e103
   replace p103 := eq_true p103
   replace q103 := eq_true q103
   obtain ⟨p104, q104⟩ := zpq x18_1 l1.length
   obtain ⟨ad104, e104, hx104_0⟩ := Kd.at_int HR1.out x18_1 (zoe p104) (zoe q104)
   obtain rfl : ad101 = ad104 := (by injection e104)
   go_wp2
   repeat (go_quiet (fail); try go_wp2)
   exact zr_1
 revert H
 refine zit (fun c16b0 H => ?_) fun c16b0 H => ?_
 · obtain rfl := zsi H
   obtain ⟨p102, q102⟩ := zpq x18_1 l0.length
   obtain ⟨ad102, A102_0, c102_0, e102, hx102_0, hl102_0, hi102_0⟩ := zln HR0.out x18_1 (zoe p102) (zoe q102)
   cases e102
   have HR102_0 := zA hi102_0
   have HC102_0 := zA hl102_0
   clear hi102_0 hl102_0
   have p103 : 0 ≤ (a2 : Int) := zde zq20
   have q103 : a2 < ((za5 l0 x18_1).length : Int) := zde zq20
   obtain ⟨ad103, e103, hx103_0⟩ := Kd.at_int HR102_0.out a2 p103 q103
   cases e103
   replace p103 := eq_true p103
   replace q103 := eq_true q103
   obtain ⟨p104, q104⟩ := zpq x18_1 l1.length
   obtain ⟨ad104, e104, hx104_0⟩ := Kd.at_int HR1.out x18_1 (zoe p104) (zoe q104)
   obtain rfl : ad101 = ad104 := (by injection e104)
   obtain ⟨p105, q105⟩ := zpq x18_1 l1.length
   obtain ⟨ad105, e105, hx105_0⟩ := Kd.at_int HR1.out x18_1 (zoe p105) (zoe q105)
   obtain rfl : ad101 = ad105 := (by injection e105)
   have p106 : 0 ≤ (a2 : Int) := zde zq20
   have q106 : a2 < ((za5 l0 x18_1).length : Int) := zde zq20
   obtain ⟨ad106, e106, hx106_0⟩ := Kd.at_int HR102_0.out a2 p106 q106
   obtain rfl : ad103 = ad106 := (by injection e106)
   replace p106 := eq_true p106
   replace q106 := eq_true q106
   go_wp2
   repeat (go_quiet (fail); try go_wp2)
   exact zr_1
 have H' := zA H
 clear H
 obtain ⟨p102, q102⟩ := zpq x18_1 l0.length
 obtain ⟨ad102, A102_0, c102_0, e102, hx102_0, hl102_0, hi102_0⟩ := zln HR0.out x18_1 (zoe p102) (zoe q102)
 cases e102
 have HR102_0 := zA hi102_0
 have HC102_0 := zA hl102_0
 clear hi102_0 hl102_0
 have p103 : 0 ≤ (a2 : Int) := zde zq20
 have q103 : a2 < ((za5 l0 x18_1).length : Int) := zde zq20
 obtain ⟨ad103, e103, hx103_0⟩ := Kd.at_int HR102_0.out a2 p103 q103
 cases e103
 replace p103 := eq_true p103
 replace q103 := eq_true q103
 obtain ⟨p104, q104⟩ := zpq x18_1 l1.length
 obtain ⟨ad104, e104, hx104_0⟩ := Kd.at_int HR1.out x18_1 (zoe p104) (zoe q104)
 obtain rfl : ad101 = ad104 := (by injection e104)
 obtain ⟨p105, q105⟩ := zpq x18_1 l1.length
 obtain ⟨ad105, e105, hx105_0⟩ := Kd.at_int HR1.out x18_1 (zoe p105) (zoe q105)
 obtain rfl : ad101 = ad105 := (by injection e105)
 have p106 : 0 ≤ (a2 : Int) := zde zq20
 have q106 : a2 < ((za5 l0 x18_1).length : Int) := zde zq20
 obtain ⟨ad106, e106, hx106_0⟩ := Kd.at_int HR102_0.out a2 p106 q106
 obtain rfl : ad103 = ad106 := (by injection e106)
 replace p106 := eq_true p106
 replace q106 := eq_true q106
 go_wp2
 repeat (go_quiet (fail); try go_wp2)
 go_roundg k1
 case measure => have := HK1.out; omega
 case rel => exact ⟨(wrap64 (x18_1 + 1)), zq7, H', ⟨zq51 HK1⟩, zq13⟩
end Go.Proofs.YtabnafbgcpchdaaGreat.Q
end
