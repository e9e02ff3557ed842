/- Proved here: contracts of functions that the law FnExactSymbolOf reaches, and lemmas on what they compute; texts of this session and the printed words of the kit that they lean on, cut down and put together by its program link.py. Conditions: as each states. -/
import Derived.Test.YtkfkbmlbpeojaaaZFnExactSymbolOf1
import Derived.Test.YtkfkbmlbpeojaaaZFnExactSymbolOf2
section
namespace Go.Proofs.Ytkfkbmlbpeojaaa.Q
open Go.RowKit Go.Proofs.YtkfkbmlbpeojaaaW.PrintWords Go.Proofs.YtkfkbmlbpeojaaaW.PrintLast Go.Proofs.YtkfkbmlbpeojaaaW.PrintMore
attribute [local go_sem] zcz zc0 zd1 zd2 zcl zcm zc1 zc2
set_option linter.unusedVariables false
set_option linter.unusedSimpArgs false
def zcc : Nat → List (S72) → List (S72) → Int → Option (Bool)
 | 0, _, _, _ => none
 | k + 1, x0, x1, x5 => if x5 < (x0.length : Int) then (if 0 ≤ x5 then (if x5 < (x1.length : Int) then ((zg7 ((zac x0 x5).f0) ((zac x0 x5).f1) ((zac x0 x5).f2) ((zac x0 x5).f3) ((zac x1 x5).f0) ((zac x1 x5).f1) ((zac x1 x5).f2) ((zac x1 x5).f3)).bind fun t103 => (if t103 = true then (zcc k x0 x1 (wrap64 (x5 + 1))) else (some false))) else (none)) else (none)) else (some true)
def ze0 (k : Nat) (l0 : List (S72)) (l1 : List (S72)) : Option (Bool) := if (l0.length : Int) = (l1.length : Int) then (zcc k l0 l1 0) else (some false)
theorem zhd : ∀ k, (∀ y0 y1 y2, LeO (zcc k y0 y1 y2) (zcc (k + 1) y0 y1 y2))
 | 0 => fun _ _ _ r h => by simp [zcc] at h
 | k + 1 => by
   have ih0 := zhd k
   · intro y0 y1 y2
     unfold zcc
     repeat' first
     | (with_reducible first | exact ih0 _ _ _ | exact LeO.refl _ | exact LeO.none _ | refine zai ?_ ?_ | refine LeO.bind ?_ (fun _ => ?_))
     | exact LeO.none _
     | refine zai ?_ ?_
     | refine LeO.bind ?_ (fun _ => ?_)
theorem zqe : ∀ a0 a1 k, LeO (ze0 k a0 a1) (ze0 (k + 1) a0 a1) := by
 intro a0 a1 k
 have ih0 := zhd k
 unfold ze0
 repeat' first
     | (with_reducible first | exact ih0 _ _ _ | exact LeO.refl _ | exact LeO.none _ | refine zai ?_ ?_ | refine LeO.bind ?_ (fun _ => ?_))
     | exact LeO.none _
     | refine zai ?_ ?_
     | refine LeO.bind ?_ (fun _ => ?_)
def laws_eqNodeS.T6 : Bool × List (List Nat × List Nat) := (true, [([], []), ([], []), ([0, 1], [0, 1]), ([2], [2]), ([], []), ([], []), ([4, 5], [4, 5]), ([6], [6]), ([3, 7], [3, 7]), ([8], [8])])
def zmo : List Nat := [0, 0, 3, 7, 0, 0, 48, 112, 255, 511]
theorem zig : rtab .any (zqm Try.f13 6) = laws_eqNodeS.T6 := by kernel_rfl
theorem zhq : zh7 laws_eqNodeS.T6.2 zmo = true := by kernel_rfl
set_option maxHeartbeats 8000000 in
set_option maxRecDepth 100000 in
theorem zgc (k : Nat) (A0 : Option Addr) (c0 : Nat) (l0 : List (S72)) (A1 : Option Addr) (c1 : Nat) (l1 : List (S72)) (r : Bool) (w : World) (hr0 : Kd.C k72 w A0 l0.length l0) (hc0 : l0.length ≤ c0) (hr1 : Kd.C k72 w A1 l1.length l1) (hc1 : l1.length ≤ c1) (h : ze0 k l0 l1 = some r) :
   Calls Try.prog 13 #[.slice A0 l0.length c0, .slice A1 l1.length c1] w fun e w' => e = .returned (.bool r) ∧ Below w.heap.size w w' := by
 have hu72 := Try.underlying72
 have HR0 := zA hr0
 have HC0 := zA hc0
 clear hr0 hc0
 have HR1 := zA hr1
 have HC1 := zA hc1
 clear hr1 hc1
 have HB := zA (Below.refl w.heap.size w)
 have H : (if (l0.length : Int) = (l1.length : Int) then (zcc k l0 l1 0) else (some false)) = some r := h
 clear h
 by_cases c3 : (l0.length : Int) = (l1.length : Int)
 rotate_left
 · rw [if_neg c3] at H
   have c3b0 : ((l0.length : Int) == (l1.length : Int)) = false := beq_eq_false_iff_ne.mpr c3
   have c3b1 : ((l0.length : Int) != (l1.length : Int)) = true := bne_iff_ne.mpr c3
   have c3b2 : (l0.length == l1.length) = false := by first | simpa using c3 | (simp at c3 ⊢; omega)
   obtain rfl := zsi H
   go_enter Try.func13, Try.ntmps13
   go_wp2
   go_ret
   exact ⟨by first | rfl | (simp [zad, zae] <;> rfl) | (simp [*, zad, zae] <;> rfl), by repeat (first | (with_reducible first | exact HB.out | apply zba | apply zbn | apply zbd) | exact HB.out)⟩
 rw [if_pos c3] at H
 have c3b0 : ((l0.length : Int) == (l1.length : Int)) = true := beq_iff_eq.mpr c3
 have c3b1 : ((l0.length : Int) != (l1.length : Int)) = false := bne_eq_false_iff_eq.mpr c3
 have c3b2 : (l0.length == l1.length) = true := by first | simpa using c3 | (simp at c3 ⊢; omega)
 clear c3
 have H' := zA H
 clear H
 go_enter Try.func13, Try.ntmps13
 go_wp2
 go_loopg [5] k (fun kq v5 w' => ∃ (x5_1 : Int), v5 = .int .i64 x5_1 ∧ Aside0 (zcc kq l0 l1 x5_1 = some r) ∧ Aside0 (kq ≤ k) ∧ Aside0 (Below w.heap.size w w'))
 case atStart => exact ⟨(0), (by first | rfl | (simp; done) | (simp [*]; done)), H', ⟨zlr _⟩, ⟨by repeat (first | (with_reducible first | exact HB.out | apply zba | apply zbn | apply zbd) | exact HB.out)⟩⟩
 clear H'
 try clear c1
 try clear p2
 try clear c3
 try clear c3b0
 try clear c3b1
 try clear c3b2
 obtain ⟨x5_1, rfl, HA, HK1, HB⟩ := hrel
 cases gk with
 | zero => exact absurd HA.out (by simp [zcc])
 | succ k1 =>
 have H := HA.out
 clear HA
 simp only [zcc] at H
 by_cases c4 : x5_1 < (l0.length : Int)
 rotate_left
 · rw [if_neg c4] at H
   have c4b0 : decide (x5_1 < (l0.length : Int)) = false := zdf c4
   clear c4
   obtain rfl := zsi H
   go_wp2
   go_ret
   exact ⟨by first | rfl | (simp [zad, zae] <;> rfl) | (simp [*, zad, zae] <;> rfl), by repeat (first | (with_reducible first | exact HB.out | apply zba | apply zbn | apply zbd) | exact HB.out)⟩
 rw [if_pos c4] at H
 have c4b0 : decide (x5_1 < (l0.length : Int)) = true := zdt c4
 clear c4
 by_cases c5 : 0 ≤ x5_1
 rotate_left
 · rw [if_neg c5] at H
   exact absurd H (by simp)
 rw [if_pos c5] at H
 have c5b0 : decide (0 ≤ x5_1) = true := zdt c5
 clear c5
 by_cases c6 : x5_1 < (l1.length : Int)
 rotate_left
 · rw [if_neg c6] at H
   exact absurd H (by simp)
 rw [if_pos c6] at H
 have c6b0 : decide (x5_1 < (l1.length : Int)) = true := zdt c6
 clear c6
 replace H := zob H
 obtain ⟨t103, A70, H⟩ := H
 replace H : (if t103 = true then (zcc k1 l0 l1 (wrap64 (x5_1 + 1))) else (some false)) = some r := H
 have A7 := zA A70
 clear A70
 by_cases c8 : t103 = true
 rotate_left
 · replace c8 := zbf c8
   subst c8
   replace H : (some false) = some r := by rw [if_neg (show ¬ (false = true) by decide)] at H; exact H
   obtain rfl := zsi H
   try go_wp2
   have n0_ := zA (zbd HB.out)
   clear HB
   have HB := n0_
   clear n0_
   have p101 : 0 ≤ (x5_1 : Int) := zde (by assumption)
   have q101 : x5_1 < (l0.length : Int) := zde (by assumption)
   obtain ⟨ad101, e101, hx101_0, hx101_1, hx101_2, hx101_3⟩ := zen HR0.out x5_1 p101 q101
   have hw101_3 := hx101_3
   have hw101_2 := hx101_2
   have hw101_1 := hx101_1
   have hw101_0 := hx101_0
   cases e101
   replace hx101_0 := zkep HB.out hx101_0
   replace hx101_1 := zkep HB.out hx101_1
   replace hx101_2 := zkep HB.out hx101_2
   replace hx101_3 := zkep HB.out hx101_3
   replace p101 := eq_true p101
   replace q101 := eq_true q101
   have p102 : 0 ≤ (x5_1 : Int) := zde (by assumption)
   have q102 : x5_1 < (l1.length : Int) := zde (by assumption)
   obtain ⟨ad102, e102, hx102_0, hx102_1, hx102_2, hx102_3⟩ := zen HR1.out x5_1 p102 q102
   have hw102_3 := hx102_3
   have hw102_2 := hx102_2
   have hw102_1 := hx102_1
   have hw102_0 := hx102_0
   cases e102
   replace hx102_0 := zkep HB.out hx102_0
   replace hx102_1 := zkep HB.out hx102_1
   replace hx102_2 := zkep HB.out hx102_2
   replace hx102_3 := zkep HB.out hx102_3
   replace p102 := eq_true p102
   replace q102 := eq_true q102
   refine zks (n := 10) (S := fun w' => w'.cell? (ad101.add ((x5_1).toNat * 4)) = some (.string ((zac l0 x5_1).f0)) ∧ w'.cell? ⟨(ad101.add ((x5_1).toNat * 4)).block, (ad101.add ((x5_1).toNat * 4)).off + 1, none⟩ = some (.int .i64 ((zac l0 x5_1).f1)) ∧ w'.cell? ⟨(ad101.add ((x5_1).toNat * 4)).block, (ad101.add ((x5_1).toNat * 4)).off + 2, none⟩ = some (.int .i64 ((zac l0 x5_1).f2)) ∧ w'.cell? ⟨(ad101.add ((x5_1).toNat * 4)).block, (ad101.add ((x5_1).toNat * 4)).off + 3, none⟩ = some (.int .i64 ((zac l0 x5_1).f3)) ∧ w'.cell? (ad102.add ((x5_1).toNat * 4)) = some (.string ((zac l1 x5_1).f0)) ∧ w'.cell? ⟨(ad102.add ((x5_1).toNat * 4)).block, (ad102.add ((x5_1).toNat * 4)).off + 1, none⟩ = some (.int .i64 ((zac l1 x5_1).f1)) ∧ w'.cell? ⟨(ad102.add ((x5_1).toNat * 4)).block, (ad102.add ((x5_1).toNat * 4)).off + 2, none⟩ = some (.int .i64 ((zac l1 x5_1).f2)) ∧ w'.cell? ⟨(ad102.add ((x5_1).toNat * 4)).block, (ad102.add ((x5_1).toNat * 4)).off + 3, none⟩ = some (.int .i64 ((zac l1 x5_1).f3))) (ds := []) #[false, false, false, false, false, false, false, false, false, false] (by kernel_rfl) rfl rfl ⟨(zkep HB.out hw101_0), (zkep HB.out hw101_1), (zkep HB.out hw101_2), (zkep HB.out hw101_3), (zkep HB.out hw102_0), (zkep HB.out hw102_1), (zkep HB.out hw102_2), (zkep HB.out hw102_3)⟩ (fun hHeld => ?_); refine zgu zig zhq (fun HT_ HW_ => ?_)
   generalize wr.drew = w11 at HB hx101_0 hx101_1 hx101_2 hx101_3 hx102_0 hx102_1 hx102_2 hx102_3 hHeld ⊢
   refine zcs (i := 0) (N := some 17) (v := ?_) (a' := ?_) #[true, false, false, false, false, false, false, false, false, false] rfl rfl (zbs HT_.out (by kernel_rfl)) (fun _ _ _ h => h) (Or.inl ⟨by rfl, ?_⟩) ?_ ?_
   rotate_left
   · intro w'
     go_simp
     with_reducible rfl
   rotate_left
   · simp only [Act.put, List.setIfInBounds_toArray, List.set_cons_zero, List.set_cons_succ, za4, za6]
     rfl
   refine zcs (i := 1) (N := some 18) (v := ?_) (a' := ?_) #[true, true, false, false, false, false, false, false, false, false] rfl rfl (zbs HT_.out (by kernel_rfl)) (fun _ _ _ h => h) (Or.inl ⟨by rfl, ?_⟩) ?_ ?_
   rotate_left
   · intro w'
     go_simp
     with_reducible rfl
   rotate_left
   · simp only [Act.put, List.setIfInBounds_toArray, List.set_cons_zero, List.set_cons_succ, za4, za6]
     rfl
   refine zcs (i := 2) (N := some 19) (v := ?_) (a' := ?_) #[true, true, true, false, false, false, false, false, false, false] rfl rfl (zbs HT_.out (by kernel_rfl)) (fun _ _ _ h => h) (Or.inl ⟨by rfl, ?_⟩) ?_ ?_
   rotate_left
   · intro w'
     go_simp
     with_reducible rfl
   rotate_left
   · simp only [Act.put, List.setIfInBounds_toArray, List.set_cons_zero, List.set_cons_succ, za4, za6]
     rfl
   refine zcs (i := 4) (N := some 21) (v := ?_) (a' := ?_) #[true, true, true, false, true, false, false, false, false, false] rfl rfl (zbs HT_.out (by kernel_rfl)) (fun _ _ _ h => h) (Or.inl ⟨by rfl, ?_⟩) ?_ ?_
   rotate_left
   · intro w'
     go_simp
     with_reducible rfl
   rotate_left
   · simp only [Act.put, List.setIfInBounds_toArray, List.set_cons_zero, List.set_cons_succ, za4, za6]
     rfl
   refine zcs (i := 5) (N := some 22) (v := ?_) (a' := ?_) #[true, true, true, false, true, true, false, false, false, false] rfl rfl (zbs HT_.out (by kernel_rfl)) (fun _ _ _ h => h) (Or.inl ⟨by rfl, ?_⟩) ?_ ?_
   rotate_left
   · intro w'
     go_simp
     with_reducible rfl
   rotate_left
   · simp only [Act.put, List.setIfInBounds_toArray, List.set_cons_zero, List.set_cons_succ, za4, za6]
     rfl
   refine zcs (i := 6) (N := some 23) (v := ?_) (a' := ?_) #[true, true, true, false, true, true, true, false, false, false] rfl rfl (zbs HT_.out (by kernel_rfl)) (fun _ _ _ h => h) (Or.inl ⟨by rfl, ?_⟩) ?_ ?_
   rotate_left
   · intro w'
     go_simp
     with_reducible rfl
   rotate_left
   · simp only [Act.put, List.setIfInBounds_toArray, List.set_cons_zero, List.set_cons_succ, za4, za6]
     rfl
   refine take_ (i := 3) (N := some 20) (v := ?_) (a' := ?_) #[true, true, true, true, true, true, true, false, false, false] rfl rfl (zd3 HT_.out HW_.out (by kernel_rfl)) (fun _ _ _ h => h) (Or.inl ⟨by rfl, ?_⟩) hHeld ?_ ?_
   rotate_left
   · rintro w' ⟨s0, s1, s2, s3, s4, s5, s6, s7⟩
     go_simp
     with_reducible rfl
   rotate_left
   · simp only [Act.put, List.setIfInBounds_toArray, List.set_cons_zero, List.set_cons_succ, za4, za6]
     rfl
   refine take_ (i := 7) (N := some 24) (v := ?_) (a' := ?_) #[true, true, true, true, true, true, true, true, false, false] rfl rfl (zd3 HT_.out HW_.out (by kernel_rfl)) (fun _ _ _ h => h) (Or.inl ⟨by rfl, ?_⟩) hHeld ?_ ?_
   rotate_left
   · rintro w' ⟨s0, s1, s2, s3, s4, s5, s6, s7⟩
     go_simp
     with_reducible rfl
   rotate_left
   · simp only [Act.put, List.setIfInBounds_toArray, List.set_cons_zero, List.set_cons_succ, za4, za6]
     rfl
   refine one_ (i := 8) (N := some 25) #[true, true, true, true, true, true, true, true, true, false] rfl rfl (zky HT_.out (by kernel_rfl)) (by decide) (fun K hK => ?_)
   refine zku Try.func48 (by kernel_rfl) rfl #[.agg #[.string ((zac l0 x5_1).f0), .int .i64 ((zac l0 x5_1).f1), .int .i64 ((zac l0 x5_1).f2), .int .i64 ((zac l0 x5_1).f3)], .agg #[.string ((zac l1 x5_1).f0), .int .i64 ((zac l1 x5_1).f1), .int .i64 ((zac l1 x5_1).f2), .int .i64 ((zac l1 x5_1).f3)]] (by rfl) rfl rfl (by (try simp only [List.map_toArray, List.map_cons, List.map_nil]); first | done | rfl | (simp only [List.length_drop, List.length_take]; rfl)) ?_
   with_reducible refine (zif ((zac l0 x5_1).f0) ((zac l0 x5_1).f1) ((zac l0 x5_1).f2) ((zac l0 x5_1).f3) ((zac l1 x5_1).f0) ((zac l1 x5_1).f1) ((zac l1 x5_1).f2) ((zac l1 x5_1).f3) false _ A7.out).mono ?_
   rintro e w12 ⟨rfl, hb⟩
   refine ⟨_, rfl, ?_⟩
   have n0_ := zA (zag (by repeat (first | (with_reducible first | exact HB.out | apply zba | apply zbn | apply zbd) | exact HB.out)) hb)
   clear HB
   have HB := n0_
   clear n0_
   (try clear hb)
   (try clear hb2)
   (try clear hk)
   (try clear hi)
   refine hK.out _ _ ⟨(zkep HB.out hw101_0), (zkep HB.out hw101_1), (zkep HB.out hw101_2), (zkep HB.out hw101_3), (zkep HB.out hw102_0), (zkep HB.out hw102_1), (zkep HB.out hw102_2), (zkep HB.out hw102_3)⟩ (fun hHeld => ?_)
   clear hK K
   refine zh6 (a' := ?_) ?_ ?_
   rotate_left
   · show Act.put _ (some 25) _ = _
     simp only [Act.put, List.setIfInBounds_toArray, List.set_cons_zero, List.set_cons_succ, za4, za6]
     rfl
   refine zcs (i := 9) (N := some 26) (v := ?_) (a' := ?_) #[true, true, true, true, true, true, true, true, true, true] rfl rfl (zbs HT_.out (by kernel_rfl)) (fun _ _ _ h => h) (Or.inl ⟨by rfl, ?_⟩) ?_ ?_
   rotate_left
   · intro w'
     go_simp
     with_reducible rfl
   rotate_left
   · simp only [Act.put, List.setIfInBounds_toArray, List.set_cons_zero, List.set_cons_succ, za4, za6]
     rfl
   refine zoc (zjf HT_.out (by kernel_rfl)) ?_
   try go_wp2
   go_ret
   exact ⟨by first | rfl | (simp [zad, zae] <;> rfl) | (simp [*, zad, zae] <;> rfl), by repeat (first | (with_reducible first | exact HB.out | apply zba | apply zbn | apply zbd) | exact HB.out)⟩
 subst c8
 replace H : (zcc k1 l0 l1 (wrap64 (x5_1 + 1))) = some r := by rw [if_pos rfl] at H; exact H
 have H' := zA H
 clear H
 try go_wp2
 have n0_ := zA (zbd HB.out)
 clear HB
 have HB := n0_
 clear n0_
 have p101 : 0 ≤ (x5_1 : Int) := zde (by assumption)
 have q101 : x5_1 < (l0.length : Int) := zde (by assumption)
 obtain ⟨ad101, e101, hx101_0, hx101_1, hx101_2, hx101_3⟩ := zen HR0.out x5_1 p101 q101
 have hw101_3 := hx101_3
 have hw101_2 := hx101_2
 have hw101_1 := hx101_1
 have hw101_0 := hx101_0
 cases e101
 replace hx101_0 := zkep HB.out hx101_0
 replace hx101_1 := zkep HB.out hx101_1
 replace hx101_2 := zkep HB.out hx101_2
 replace hx101_3 := zkep HB.out hx101_3
 replace p101 := eq_true p101
 replace q101 := eq_true q101
 have p102 : 0 ≤ (x5_1 : Int) := zde (by assumption)
 have q102 : x5_1 < (l1.length : Int) := zde (by assumption)
 obtain ⟨ad102, e102, hx102_0, hx102_1, hx102_2, hx102_3⟩ := zen HR1.out x5_1 p102 q102
 have hw102_3 := hx102_3
 have hw102_2 := hx102_2
 have hw102_1 := hx102_1
 have hw102_0 := hx102_0
 cases e102
 replace hx102_0 := zkep HB.out hx102_0
 replace hx102_1 := zkep HB.out hx102_1
 replace hx102_2 := zkep HB.out hx102_2
 replace hx102_3 := zkep HB.out hx102_3
 replace p102 := eq_true p102
 replace q102 := eq_true q102
 refine zks (n := 10) (S := fun w' => w'.cell? (ad101.add ((x5_1).toNat * 4)) = some (.string ((zac l0 x5_1).f0)) ∧ w'.cell? ⟨(ad101.add ((x5_1).toNat * 4)).block, (ad101.add ((x5_1).toNat * 4)).off + 1, none⟩ = some (.int .i64 ((zac l0 x5_1).f1)) ∧ w'.cell? ⟨(ad101.add ((x5_1).toNat * 4)).block, (ad101.add ((x5_1).toNat * 4)).off + 2, none⟩ = some (.int .i64 ((zac l0 x5_1).f2)) ∧ w'.cell? ⟨(ad101.add ((x5_1).toNat * 4)).block, (ad101.add ((x5_1).toNat * 4)).off + 3, none⟩ = some (.int .i64 ((zac l0 x5_1).f3)) ∧ w'.cell? (ad102.add ((x5_1).toNat * 4)) = some (.string ((zac l1 x5_1).f0)) ∧ w'.cell? ⟨(ad102.add ((x5_1).toNat * 4)).block, (ad102.add ((x5_1).toNat * 4)).off + 1, none⟩ = some (.int .i64 ((zac l1 x5_1).f1)) ∧ w'.cell? ⟨(ad102.add ((x5_1).toNat * 4)).block, (ad102.add ((x5_1).toNat * 4)).off + 2, none⟩ = some (.int .i64 ((zac l1 x5_1).f2)) ∧ w'.cell? ⟨(ad102.add ((x5_1).toNat * 4)).block, (ad102.add ((x5_1).toNat * 4)).off + 3, none⟩ = some (.int .i64 ((zac l1 x5_1).f3))) (ds := []) #[false, false, false, false, false, false, false, false, false, false] (by kernel_rfl) rfl rfl ⟨(zkep HB.out hw101_0), (zkep HB.out hw101_1), (zkep HB.out hw101_2), (zkep HB.out hw101_3), (zkep HB.out hw102_0), (zkep HB.out hw102_1), (zkep HB.out hw102_2), (zkep HB.out hw102_3)⟩ (fun hHeld => ?_); refine zgu zig zhq (fun HT_ HW_ => ?_)
 generalize wr.drew = w9 at HB hx101_0 hx101_1 hx101_2 hx101_3 hx102_0 hx102_1 hx102_2 hx102_3 hHeld ⊢
 refine zcs (i := 0) (N := some 17) (v := ?_) (a' := ?_) #[true, false, false, false, false, false, false, false, false, false] rfl rfl (zbs HT_.out (by kernel_rfl)) (fun _ _ _ h => h) (Or.inl ⟨by rfl, ?_⟩) ?_ ?_
 rotate_left
 · intro w'
   go_simp
   with_reducible rfl
 rotate_left
 · simp only [Act.put, List.setIfInBounds_toArray, List.set_cons_zero, List.set_cons_succ, za4, za6]
   rfl
 refine zcs (i := 1) (N := some 18) (v := ?_) (a' := ?_) #[true, true, false, false, false, false, false, false, false, false] rfl rfl (zbs HT_.out (by kernel_rfl)) (fun _ _ _ h => h) (Or.inl ⟨by rfl, ?_⟩) ?_ ?_
 rotate_left
 · intro w'
   go_simp
   with_reducible rfl
 rotate_left
 · simp only [Act.put, List.setIfInBounds_toArray, List.set_cons_zero, List.set_cons_succ, za4, za6]
   rfl
 refine zcs (i := 2) (N := some 19) (v := ?_) (a' := ?_) #[true, true, true, false, false, false, false, false, false, false] rfl rfl (zbs HT_.out (by kernel_rfl)) (fun _ _ _ h => h) (Or.inl ⟨by rfl, ?_⟩) ?_ ?_
 rotate_left
 · intro w'
   go_simp
   with_reducible rfl
 rotate_left
 · simp only [Act.put, List.setIfInBounds_toArray, List.set_cons_zero, List.set_cons_succ, za4, za6]
   rfl
 refine zcs (i := 4) (N := some 21) (v := ?_) (a' := ?_) #[true, true, true, false, true, false, false, false, false, false] rfl rfl (zbs HT_.out (by kernel_rfl)) (fun _ _ _ h => h) (Or.inl ⟨by rfl, ?_⟩) ?_ ?_
 rotate_left
 · intro w'
   go_simp
   with_reducible rfl
 rotate_left
 · simp only [Act.put, List.setIfInBounds_toArray, List.set_cons_zero, List.set_cons_succ, za4, za6]
   rfl
 refine zcs (i := 5) (N := some 22) (v := ?_) (a' := ?_) #[true, true, true, false, true, true, false, false, false, false] rfl rfl (zbs HT_.out (by kernel_rfl)) (fun _ _ _ h => h) (Or.inl ⟨by rfl, ?_⟩) ?_ ?_
 rotate_left
 · intro w'
   go_simp
   with_reducible rfl
 rotate_left
 · simp only [Act.put, List.setIfInBounds_toArray, List.set_cons_zero, List.set_cons_succ, za4, za6]
   rfl
 refine zcs (i := 6) (N := some 23) (v := ?_) (a' := ?_) #[true, true, true, false, true, true, true, false, false, false] rfl rfl (zbs HT_.out (by kernel_rfl)) (fun _ _ _ h => h) (Or.inl ⟨by rfl, ?_⟩) ?_ ?_
 rotate_left
 · intro w'
   go_simp
   with_reducible rfl
 rotate_left
 · simp only [Act.put, List.setIfInBounds_toArray, List.set_cons_zero, List.set_cons_succ, za4, za6]
   rfl
 refine take_ (i := 3) (N := some 20) (v := ?_) (a' := ?_) #[true, true, true, true, true, true, true, false, false, false] rfl rfl (zd3 HT_.out HW_.out (by kernel_rfl)) (fun _ _ _ h => h) (Or.inl ⟨by rfl, ?_⟩) hHeld ?_ ?_
 rotate_left
 · rintro w' ⟨s0, s1, s2, s3, s4, s5, s6, s7⟩
   go_simp
   with_reducible rfl
 rotate_left
 · simp only [Act.put, List.setIfInBounds_toArray, List.set_cons_zero, List.set_cons_succ, za4, za6]
   rfl
 refine take_ (i := 7) (N := some 24) (v := ?_) (a' := ?_) #[true, true, true, true, true, true, true, true, false, false] rfl rfl (zd3 HT_.out HW_.out (by kernel_rfl)) (fun _ _ _ h => h) (Or.inl ⟨by rfl, ?_⟩) hHeld ?_ ?_
 rotate_left
 · rintro w' ⟨s0, s1, s2, s3, s4, s5, s6, s7⟩
   go_simp
   with_reducible rfl
 rotate_left
 · simp only [Act.put, List.setIfInBounds_toArray, List.set_cons_zero, List.set_cons_succ, za4, za6]
   rfl
 refine one_ (i := 8) (N := some 25) #[true, true, true, true, true, true, true, true, true, false] rfl rfl (zky HT_.out (by kernel_rfl)) (by decide) (fun K hK => ?_)
 refine zku Try.func48 (by kernel_rfl) rfl #[.agg #[.string ((zac l0 x5_1).f0), .int .i64 ((zac l0 x5_1).f1), .int .i64 ((zac l0 x5_1).f2), .int .i64 ((zac l0 x5_1).f3)], .agg #[.string ((zac l1 x5_1).f0), .int .i64 ((zac l1 x5_1).f1), .int .i64 ((zac l1 x5_1).f2), .int .i64 ((zac l1 x5_1).f3)]] (by rfl) rfl rfl (by (try simp only [List.map_toArray, List.map_cons, List.map_nil]); first | done | rfl | (simp only [List.length_drop, List.length_take]; rfl)) ?_
 with_reducible refine (zif ((zac l0 x5_1).f0) ((zac l0 x5_1).f1) ((zac l0 x5_1).f2) ((zac l0 x5_1).f3) ((zac l1 x5_1).f0) ((zac l1 x5_1).f1) ((zac l1 x5_1).f2) ((zac l1 x5_1).f3) true _ A7.out).mono ?_
 rintro e w10 ⟨rfl, hb⟩
 refine ⟨_, rfl, ?_⟩
 have n0_ := zA (zag (by repeat (first | (with_reducible first | exact HB.out | apply zba | apply zbn | apply zbd) | exact HB.out)) hb)
 clear HB
 have HB := n0_
 clear n0_
 (try clear hb)
 (try clear hb2)
 (try clear hk)
 (try clear hi)
 refine hK.out _ _ ⟨(zkep HB.out hw101_0), (zkep HB.out hw101_1), (zkep HB.out hw101_2), (zkep HB.out hw101_3), (zkep HB.out hw102_0), (zkep HB.out hw102_1), (zkep HB.out hw102_2), (zkep HB.out hw102_3)⟩ (fun hHeld => ?_)
 clear hK K
 refine zh6 (a' := ?_) ?_ ?_
 rotate_left
 · show Act.put _ (some 25) _ = _
   simp only [Act.put, List.setIfInBounds_toArray, List.set_cons_zero, List.set_cons_succ, za4, za6]
   rfl
 refine zcs (i := 9) (N := some 26) (v := ?_) (a' := ?_) #[true, true, true, true, true, true, true, true, true, true] rfl rfl (zbs HT_.out (by kernel_rfl)) (fun _ _ _ h => h) (Or.inl ⟨by rfl, ?_⟩) ?_ ?_
 rotate_left
 · intro w'
   go_simp
   with_reducible rfl
 rotate_left
 · simp only [Act.put, List.setIfInBounds_toArray, List.set_cons_zero, List.set_cons_succ, za4, za6]
   rfl
 refine zoc (zjf HT_.out (by kernel_rfl)) ?_
 try go_wp2
 go_roundg k1
 case measure => have := HK1.out; omega
 case rel => exact ⟨(wrap64 (x5_1 + 1)), (by first | rfl | (simp; done) | (simp [*]; done)), H', ⟨by have := HK1.out; omega⟩, ⟨by repeat (first | (with_reducible first | exact HB.out | apply zba | apply zbn | apply zbd) | exact HB.out)⟩⟩
def zca : Nat → Int → ByteArray → Option (ByteArray)
 | 0, _, _ => none
 | k + 1, x0, x3 => if x0 > 0 then ((some (([(wrap64 (48 + (Int.tmod x0 10))) % 256] : List Int) : List Int)).bind fun y101 => (if (strOfNums y101).size + x3.size ≤ 9223372036854775807 then (zca k (wrap64 (Int.tdiv x0 10)) ((strOfNums y101) ++ x3)) else (none))) else (if 1 + x3.size ≤ 9223372036854775807 then (some ((⟨#[109]⟩ : ByteArray) ++ x3)) else (none))
def zc9 (k : Nat) (a0 : Int) : Option (ByteArray) := if a0 ≤ 0 then (some (⟨#[109, 48]⟩ : ByteArray)) else (zca k a0 (⟨#[]⟩ : ByteArray))
theorem zg1 : ∀ k, (∀ y0 y1, LeO (zca k y0 y1) (zca (k + 1) y0 y1))
 | 0 => fun _ _ r h => by simp [zca] at h
 | k + 1 => by
   have ih0 := zg1 k
   · intro y0 y1
     unfold zca
     repeat' first
     | (with_reducible first | exact ih0 _ _ | exact LeO.refl _ | exact LeO.none _ | refine zai ?_ ?_ | refine LeO.bind ?_ (fun _ => ?_))
     | exact LeO.none _
     | refine zai ?_ ?_
     | refine LeO.bind ?_ (fun _ => ?_)
theorem zex : ∀ a0 k, LeO (zc9 k a0) (zc9 (k + 1) a0) := by
 intro a0 k
 have ih0 := zg1 k
 unfold zc9
 repeat' first
     | (with_reducible first | exact ih0 _ _ | exact LeO.refl _ | exact LeO.none _ | refine zai ?_ ?_ | refine LeO.bind ?_ (fun _ => ?_))
     | exact LeO.none _
     | refine zai ?_ ?_
     | refine LeO.bind ?_ (fun _ => ?_)
set_option maxHeartbeats 8000000 in
set_option maxRecDepth 100000 in
theorem zfz (k : Nat) (a0 : Int) (r : ByteArray) (w : World) (h : zc9 k a0 = some r) :
   Calls Try.prog 49 #[.int .i64 a0] w fun e w' => e = .returned (.string r) ∧ Below w.heap.size w w' := by
 have HB := zA (Below.refl w.heap.size w)
 have H : (if a0 ≤ 0 then (some (⟨#[109, 48]⟩ : ByteArray)) else (zca k a0 (⟨#[]⟩ : ByteArray))) = some r := h
 clear h
 by_cases c2 : a0 ≤ 0
 · rw [if_pos c2] at H
   have c2b0 : decide (a0 ≤ 0) = true := zdt c2
   clear c2
   obtain rfl := zsi H
   go_enter Try.func49, Try.ntmps49
   go_wp2
   go_ret
   exact ⟨by first | rfl | (simp [zad, zae] <;> rfl) | (simp [*, zad, zae] <;> rfl), by repeat (first | (with_reducible first | exact HB.out | apply zba | apply zbn | apply zbd) | exact HB.out)⟩
 rw [if_neg c2] at H
 have c2b0 : decide (a0 ≤ 0) = false := zdf c2
 clear c2
 have H' := zA H
 clear H
 go_enter Try.func49, Try.ntmps49
 go_wp2
 go_loopg [0, 3] k (fun kq v0 v3 w' => ∃ (x0_1 : Int) (x3_1 : ByteArray), v0 = .int .i64 x0_1 ∧ v3 = .string x3_1 ∧ Aside0 (zca kq x0_1 x3_1 = some r) ∧ Aside0 (kq ≤ k) ∧ Aside0 (Below w.heap.size w w'))
 case atStart => exact ⟨(a0), ((⟨#[]⟩ : ByteArray)), (by first | rfl | (simp; done) | (simp [*]; done)), (by first | rfl | (simp; done) | (simp [*]; done)), H', ⟨zlr _⟩, ⟨by repeat (first | (with_reducible first | exact HB.out | apply zba | apply zbn | apply zbd) | exact HB.out)⟩⟩
 clear H'
 try clear c2
 try clear c2b0
 try clear p2
 obtain ⟨x0_1, x3_1, rfl, rfl, HA, HK1, HB⟩ := hrel
 cases gk with
 | zero => exact absurd HA.out (by simp [zca])
 | succ k1 =>
 have H := HA.out
 clear HA
 simp only [zca] at H
 by_cases c3 : x0_1 > 0
 rotate_left
 · rw [if_neg c3] at H
   have c3b0 : decide (0 < x0_1) = false := zdf c3
   clear c3
   by_cases c8 : 1 + x3_1.size ≤ 9223372036854775807
   rotate_left
   · rw [if_neg c8] at H
     exact absurd H (by simp)
   rw [if_pos c8] at H
   have c8b0 := eq_true c8
   have c8b1 : decide (1 + x3_1.size ≤ 9223372036854775807) = true := zdt c8
   try have c8b2 : (9223372036854775807 < 1 + x3_1.size) = False := eq_false (Nat.not_lt.2 c8)
   obtain rfl := zsi H
   go_wp2
   go_ret
   exact ⟨by first | rfl | (simp [zad, zae] <;> rfl) | (simp [*, zad, zae] <;> rfl), by repeat (first | (with_reducible first | exact HB.out | apply zba | apply zbn | apply zbd) | exact HB.out)⟩
 rw [if_pos c3] at H
 have c3b0 : decide (0 < x0_1) = true := zdt c3
 clear c3
 obtain ⟨y101, hy101⟩ : ∃ y_ : List Int, y_ = (([(wrap64 (48 + (Int.tmod x0_1 10))) % 256] : List Int)) := ⟨_, rfl⟩
 replace H : (if (strOfNums y101).size + x3_1.size ≤ 9223372036854775807 then (zca k1 (wrap64 (Int.tdiv x0_1 10)) ((strOfNums y101) ++ x3_1)) else (none)) = some r := by first | (rw [hy101]; with_reducible exact H) | (have H2_ := (Option.bind_some _ _).symm.trans H; rw [hy101]; with_reducible exact H2_) | (have H2_ := (Option.bind_some _ _).symm.trans H; with_reducible exact H2_) | with_reducible exact H | (rw [hy101]; exact H) | exact H
 have Ny101 := zA hy101
 clear hy101
 by_cases c4 : (strOfNums y101).size + x3_1.size ≤ 9223372036854775807
 rotate_left
 · rw [if_neg c4] at H
   exact absurd H (by simp)
 rw [if_pos c4] at H
 have c4b0 := eq_true c4
 have c4b1 : decide ((strOfNums y101).size + x3_1.size ≤ 9223372036854775807) = true := zdt c4
 try have c4b2 : (9223372036854775807 < (strOfNums y101).size + x3_1.size) = False := eq_false (Nat.not_lt.2 c4)
 have H' := zA H
 clear H
 go_wp2_with (first | ((with_reducible refine zar (N := 12) rfl ?_); refine Kd.R_lit (Kd.int .u8) _ 5 ?hg (N := 12) ?hd (xs := ([(wrap64 (48 + (Int.tmod x0_1 10))) % 256] : List Int)) (inner := [.int .u8 ((wrap64 (48 + (Int.tmod x0_1 10))) % 256)]) (ok := fun _ => True) (okp := fun _ => True) ?hr ?hp (fun _ hk => hk) trivial (Below.refl _ _) (zlr _) (by simp) ?_; (case hd => rfl); (case hg => rfl); (case hr => go_simp <;> rfl); (case hp => exact (zcb (show Kd.M (Kd.int .u8) _ _ _ ((wrap64 (48 + (Int.tmod x0_1 10))) % 256) [.int .u8 ((wrap64 (48 + (Int.tmod x0_1 10))) % 256)] from rfl) (Reps.none _ _))); intro v102 w5 ho6 hb hg_ hnew_; clear hg_ hnew_; (first | rw [← Ny101.out] at ho6 | (simp only [Int.reduceToNat] at ho6; rw [← Ny101.out] at ho6)); have n0_ := zA (Kd.R_lower ho6 (za0 (by repeat (first | (with_reducible first | exact HB.out | apply zba | apply zbn | apply zbd) | exact HB.out)))); have n1_ := zA (zag (by repeat (first | (with_reducible first | exact HB.out | apply zba | apply zbn | apply zbd) | exact HB.out)) hb); clear HB; have HO103 := n0_; have HB := n1_; clear n0_ n1_; clear hb ho6; have hcv7 := zqo (P := Try.prog) Try.underlying107 Try.underlying5 Try.underlying9 (Kd.own_of_R HO103.out)))
 go_roundg k1
 case measure => have := HK1.out; omega
 case rel => exact ⟨(wrap64 (Int.tdiv x0_1 10)), ((strOfNums y101) ++ x3_1), (by first | rfl | (simp; done) | (simp [*]; done)), (by first | rfl | (simp; done) | (simp [*]; done)), H', ⟨by have := HK1.out; omega⟩, ⟨by repeat (first | (with_reducible first | exact HB.out | apply zba | apply zbn | apply zbd) | exact HB.out)⟩⟩
def hnL (k : Nat) : List S72 → Int → Option Int
 | [], m => some m
 | x :: xs, m => (zc9 k m).bind fun t => if x.f0.toList = t.toList ∧ x.f1 = wrap64 (m + 1) ∧ x.f2 = wrap64 (wrap64 (m + 1) + 1) ∧ x.f3 = wrap64 (wrap64 (wrap64 (m + 1) + 1) + 1) then hnL k xs (wrap64 (wrap64 (wrap64 (wrap64 (m + 1) + 1) + 1) + 1)) else none
def zd4 (k : Nat) (l0 : List S72) (a1 : Int) : Option Int := if l0.length < 1048577 then hnL k l0 a1 else none
theorem zpw (k : Nat) : ∀ xs m, LeO (hnL k xs m) (hnL (k + 1) xs m)
 | [], _ => LeO.refl _
 | x :: xs, m => by
   unfold hnL
   exact LeO.bind (zex _ _) (fun _ => zai (zpw k xs _) (LeO.refl _))
theorem zo8 : ∀ a0 a1 k, LeO (zd4 k a0 a1) (zd4 (k + 1) a0 a1) := by
 intro a0 a1 k
 unfold zd4
 exact zai (zpw _ _ _) (LeO.refl _)
set_option maxHeartbeats 4000000 in
set_option maxRecDepth 100000 in
theorem zg2 (k : Nat) (A0 : Option Addr) (c0 : Nat) (l0 : List S72) (a1 : Int) (r : Int) (w : World) (hr0 : Kd.C k72 w A0 l0.length l0) (hc0 : l0.length ≤ c0) (h : zd4 k l0 a1 = some r) :
   Calls Try.prog 15 #[.slice A0 l0.length c0, .int .i64 a1] w fun e w' => e = .returned (.int .i64 r) ∧ Below w.heap.size w w' := by
 unfold zd4 at h
 by_cases hl : l0.length < 1048577
 rotate_left
 · rw [if_neg hl] at h
   cases h
 rw [if_pos hl] at h
 have HH := zA h
 have HR := zA hr0
 clear h hr0 hc0
 go_enter Try.func15, Try.ntmps15
 go_wp2_with fail
 go_loopw [1, 5] (fun v1 v5 wr => ∃ (u : Nat) (m : Int), v5 = .int .i64 (u : Int) ∧ v1 = .int .i64 m ∧ u ≤ l0.length ∧ Aside0 (Below w.heap.size w wr) ∧ Aside0 (hnL k (l0.drop u) m = some r)) (fun _ v5 _ => l0.length - (intOf v5).toNat)
 case atStart => exact ⟨0, a1, rfl, rfl, Nat.zero_le _, ⟨Below.refl _ _⟩, ⟨by rw [List.drop_zero]; exact HH.out⟩⟩
 clear HH
 obtain ⟨u, m, rfl, rfl, hu, HB, HS⟩ := hrel
 by_cases hlt : u < l0.length
 rotate_left
 · obtain rfl : u = l0.length := by omega
   have d1 : decide ((l0.length : Int) < l0.length) = false := zdf (by omega)
   have hs := HS.out
   rw [List.drop_length] at hs
   obtain rfl := zsi hs
   clear hs HS
   go_wp2_with fail
   go_ret
   exact ⟨rfl, HB.out⟩
 have d1 : decide ((u : Int) < l0.length) = true := zdt (by omega)
 have d2 : (0 : Int) ≤ (u : Int) := by omega
 have d3 : (u : Int) < l0.length := by omega
 obtain ⟨ad, eA, x0, x1, x2, x3⟩ := zen (zCb HR.out HB.out) (u : Int) d2 d3
 rw [Int.toNat_natCast] at x0 x1 x2 x3
 subst eA
 have hs := HS.out
 obtain ⟨x, hx⟩ : ∃ x, x = zac l0 (u : Int) := ⟨_, rfl⟩
 rw [← hx] at x0 x1 x2 x3
 have hdr : l0.drop u = x :: l0.drop (u + 1) := by
   rw [List.drop_eq_getElem_cons hlt, hx]
   unfold zac
   rw [Int.toNat_natCast, List.getD_eq_getElem?_getD, List.getElem?_eq_getElem hlt]
   rfl
 rw [hdr] at hs
 unfold hnL at hs
 obtain ⟨t, ht, hs⟩ := Option.bind_eq_some_iff.1 hs
 by_cases hc : x.f0.toList = t.toList ∧ x.f1 = wrap64 (m + 1) ∧ x.f2 = wrap64 (wrap64 (m + 1) + 1) ∧ x.f3 = wrap64 (wrap64 (wrap64 (m + 1) + 1) + 1)
 rotate_left
 · rw [if_neg hc] at hs
   cases hs
 rw [if_pos hc] at hs
 obtain ⟨e0, e1, e2, e3⟩ := hc
 rw [e1] at x1
 rw [e2] at x2
 rw [e3] at x3
 have HT := zA ht
 have HS1 := zA hs
 have b0 : (x.f0.toList == t.toList) = true := beq_iff_eq.2 e0
 clear hs ht hdr hx HS e0 e1 e2 e3
 go_wp2_with fail
 refine zk4 [[], [], [0, 1], [0, 1, 2], [0, 1, 2, 3], [], [5], [0, 1, 2, 3, 4, 5, 6]] [] (zdl [.slice (some ad) l0.length c0, .int .i64 (u : Int), .pointer (some (ad.add (u * 4))), .pointer (some (ad.add (u * 4))), .string x.f0, .int .i64 m, .string t, .bool false]) (fun _ W => Below wr.heap.size wr W)
   rfl (fun _ _ _ _ _ h => h) (by kernel_rfl) (zee (Below.refl _ _)) ⟨?_, ?_, ?_, ?_, ?_, ?_, ?_, ?_, trivial⟩ ?_
 iterate 4
   · refine fun L W hu hd hn hJ => zbp (by rfl) hJ ?_
     simp only [zap, riGo, zb2, zby, zc3, zdl, Nat.reduceBEq, Nat.reduceAdd, List.headD, List.tail, List.getD, List.getElem?_cons_zero, List.getElem?_cons_succ, Option.getD_some, cond_true, cond_false]
     first | (go_simp; done) | (go_simp; rfl)
 · refine fun L W hu hd hn hJ => zbp (by rfl) hJ ?_
   have y := (hJ.cell (World.block_lt_of_cell? wr _ x0)).trans x0
   clear x0 x1 x2 x3
   simp only [zap, riGo, zb2, zby, zc3, zdl, Nat.reduceBEq, Nat.reduceAdd, List.headD, List.tail, List.getD, List.getElem?_cons_zero, List.getElem?_cons_succ, Option.getD_some, cond_true, cond_false]
   first | (go_simp; done) | (go_simp; rfl)
 · refine fun L W hu hd hn hJ => zbp (by rfl) hJ ?_
   simp only [zap, riGo, zb2, zby, zc3, zdl, Nat.reduceBEq, Nat.reduceAdd, List.headD, List.tail, List.getD, List.getElem?_cons_zero, List.getElem?_cons_succ, Option.getD_some, cond_true, cond_false]
   first | (go_simp; done) | (go_simp; rfl)
 · intro L W hu hd hn hJ
   exact zts Try.func49 (by kernel_rfl) rfl #[.int .i64 m] (by rfl) rfl (by simp only [List.map_toArray, List.map_cons, List.map_nil]; rfl) ((zfz k m t W HT.out).mono (by rintro e W' ⟨rfl, hb⟩; exact ⟨rfl, zag hJ hb⟩))
 · refine fun L W hu hd hn hJ => zbp (by rfl) hJ ?_
   simp only [zap, riGo, zb2, zby, zc3, zdl, Nat.reduceBEq, Nat.reduceAdd, List.headD, List.tail, List.getD, List.getElem?_cons_zero, List.getElem?_cons_succ, Option.getD_some, cond_true, cond_false]
   first | (go_simp; done) | (go_simp; rfl)
 · intro L W hL hJ
   have y1 := (hJ.cell (World.block_lt_of_cell? wr _ x1)).trans x1
   have y2 := (hJ.cell (World.block_lt_of_cell? wr _ x2)).trans x2
   have y3 := (hJ.cell (World.block_lt_of_cell? wr _ x3)).trans x3
   have HB2 := zA (zag HB.out hJ)
   clear x0 x1 x2 x3 hJ hL b0
   simp only [zap, riGo, zb2, zby, zc3, zdl, Nat.reduceBEq, Nat.reduceAdd, List.headD, List.tail, List.getD, List.getElem?_cons_zero, List.getElem?_cons_succ, Option.getD_some, cond_true, cond_false]
   go_wp2_with fail
   go_roundw
   case rel => exact ⟨u + 1, _, by go_num, rfl, by omega, HB2, HS1⟩
   case measure => simp [intOf]; omega
def za2 : Nat → List (S94) → Int → Int → Option (Int × (List (S94)))
 | 0, _, _, _ => none
 | k + 1, x0, x1, x5 => if x5 < (x0.length : Int) then ((zc9 k x1).bind fun t101 => (if 0 ≤ x5 then ((some (x0.set (x5 : Int).toNat (⟨t101, (zaa x0 x5).f1, (zaa x0 x5).f2, (zaa x0 x5).f3, (zaa x0 x5).f4⟩ : S94) : List (S94))).bind fun y102 => ((some (y102.set (x5 : Int).toNat (⟨(zaa y102 x5).f0, wrap64 (x1 + 1), (zaa y102 x5).f2, (zaa y102 x5).f3, (zaa y102 x5).f4⟩ : S94) : List (S94))).bind fun y103 => ((some (y103.set (x5 : Int).toNat (⟨(zaa y103 x5).f0, (zaa y103 x5).f1, wrap64 ((wrap64 (x1 + 1)) + 1), (zaa y103 x5).f3, (zaa y103 x5).f4⟩ : S94) : List (S94))).bind fun y104 => ((some (y104.set (x5 : Int).toNat (⟨(zaa y104 x5).f0, (zaa y104 x5).f1, (zaa y104 x5).f2, wrap64 ((wrap64 ((wrap64 (x1 + 1)) + 1)) + 1), (zaa y104 x5).f4⟩ : S94) : List (S94))).bind fun y105 => (za2 k (y105.set (x5 : Int).toNat (⟨(zaa y105 x5).f0, (zaa y105 x5).f1, (zaa y105 x5).f2, (zaa y105 x5).f3, wrap64 ((wrap64 ((wrap64 ((wrap64 (x1 + 1)) + 1)) + 1)) + 1)⟩ : S94)) (wrap64 ((wrap64 ((wrap64 ((wrap64 ((wrap64 (x1 + 1)) + 1)) + 1)) + 1)) + 1)) (wrap64 (x5 + 1))))))) else (none))) else (some (x1, x0))
def zdq (k : Nat) (l0 : List (S94)) (a1 : Int) : Option (Int × (List (S94))) := za2 k l0 a1 0
theorem zgi : ∀ k, (∀ y0 y1 y2, LeO (za2 k y0 y1 y2) (za2 (k + 1) y0 y1 y2))
 | 0 => fun _ _ _ r h => by simp [za2] at h
 | k + 1 => by
   have ih0 := zgi k
   · intro y0 y1 y2
     unfold za2
     repeat' first
     | (with_reducible first | exact ih0 _ _ _ | exact zex _ _ | exact LeO.refl _ | exact LeO.none _ | refine zai ?_ ?_ | refine LeO.bind ?_ (fun _ => ?_))
     | exact LeO.none _
     | refine zai ?_ ?_
     | refine LeO.bind ?_ (fun _ => ?_)
theorem zo6 : ∀ a0 a1 k, LeO (zdq k a0 a1) (zdq (k + 1) a0 a1) := by
 intro a0 a1 k
 have ih0 := zgi k
 unfold zdq
 repeat' first
     | (with_reducible first | exact ih0 _ _ _ | exact zex _ _ | exact LeO.refl _ | exact LeO.none _ | refine zai ?_ ?_ | refine LeO.bind ?_ (fun _ => ?_))
     | exact LeO.none _
     | refine zai ?_ ?_
     | refine LeO.bind ?_ (fun _ => ?_)
set_option maxHeartbeats 8000000 in
set_option maxRecDepth 100000 in
theorem zi6 (k : Nat) (P0_ : Nat → Prop) (u9000_ : Value) (l0 : List (S94)) (a1 : Int) (r1 : Int) (r2 : List (S94)) (w0 w : World) (hB : Below w0.heap.size w0 w) (ho0 : Kd.R k94 94 w w0.heap.size P0_ u9000_ l0) (h : zdq k l0 a1 = some (r1, r2)) :
   Calls Try.prog 30 #[u9000_, .int .i64 a1] w fun e w' => e = .returned (.int .i64 r1) ∧ Kd.R k94 94 w' w0.heap.size (fun k_ => (P0_ k_ ∨ w.heap.size ≤ k_)) u9000_ r2 ∧ Below w0.heap.size w0 w' ∧ Kept w w' (fun k_ => P0_ k_) := by
 have HO0 := zA (show Kd.R k94 94 w w0.heap.size (fun k_ => (P0_ k_ ∨ w.heap.size ≤ k_)) u9000_ l0 from Kd.R_mono ho0 (fun k_ hk => (.inl hk)))
 have HK := zA (Kept.refl w (fun k_ => P0_ k_))
 have HW0 := zA hB.size
 have HB := zA hB
 clear hB
 have H : (za2 k l0 a1 0) = some (r1, r2) := h
 clear h
 have H' := zA H
 clear H
 go_enter Try.func30, Try.ntmps30
 go_wp2
 go_loopg [1, 5] k (fun kq v1 v5 w' => ∃ (x0_1 : List (S94)) (x1_1 : Int) (x5_1 : Int), v1 = .int .i64 x1_1 ∧ v5 = .int .i64 x5_1 ∧ Aside0 (za2 kq x0_1 x1_1 x5_1 = some (r1, r2)) ∧ Aside0 (kq ≤ k) ∧ Aside0 (Kd.R k94 94 w' w0.heap.size (fun k_ => (P0_ k_ ∨ w.heap.size ≤ k_)) u9000_ x0_1) ∧ Aside0 (Kept w w' (fun k_ => P0_ k_)) ∧ Aside0 (Below w0.heap.size w0 w'))
 case atStart => exact ⟨(l0), (a1), (0), (by first | rfl | (simp; done) | (simp [*]; done)), (by first | rfl | (simp; done) | (simp [*]; done)), H', ⟨zlr _⟩, ⟨by (with_reducible repeat (first | apply zRa | apply zRn | apply zRd)); exact HO0.out⟩, ⟨by repeat (first | (with_reducible first | exact HK.out | apply Kept.alloc | apply Kept.drewN | apply Kept.drew) | exact HK.out)⟩, ⟨by repeat (first | (with_reducible first | exact HB.out | apply zba | apply zbn | apply zbd) | exact HB.out)⟩⟩
 clear H'
 try clear p2
 obtain ⟨x0_1, x1_1, x5_1, rfl, rfl, HA, HK1, HO_0, HK, HB⟩ := hrel
 cases gk with
 | zero => exact absurd HA.out (by simp [za2])
 | succ k1 =>
 have H := HA.out
 clear HA
 simp only [za2] at H
 by_cases c3 : x5_1 < (x0_1.length : Int)
 rotate_left
 · rw [if_neg c3] at H
   have c3b0 : decide (x5_1 < (x0_1.length : Int)) = false := zdf c3
   clear c3
   simp only [Option.some.injEq, Prod.mk.injEq] at H
   obtain ⟨rfl, rfl⟩ := H
   obtain ⟨Ao23, co23, eo23⟩ := Kd.R_slice HO_0.out
   subst eo23
   go_wp2
   go_ret
   exact ⟨by first | rfl | (simp [zad, zae] <;> rfl) | (simp [*, zad, zae] <;> rfl), by (with_reducible repeat (first | apply zRa | apply zRn | apply zRd)); exact HO_0.out, by repeat (first | (with_reducible first | exact HB.out | apply zba | apply zbn | apply zbd) | exact HB.out), by repeat (first | (with_reducible first | exact HK.out | apply Kept.alloc | apply Kept.drewN | apply Kept.drew) | exact HK.out)⟩
 rw [if_pos c3] at H
 have c3b0 : decide (x5_1 < (x0_1.length : Int)) = true := zdt c3
 clear c3
 replace H := zob H
 obtain ⟨t101, A40, H⟩ := H
 replace H : (if 0 ≤ x5_1 then ((some (x0_1.set (x5_1 : Int).toNat (⟨t101, (zaa x0_1 x5_1).f1, (zaa x0_1 x5_1).f2, (zaa x0_1 x5_1).f3, (zaa x0_1 x5_1).f4⟩ : S94) : List (S94))).bind fun y102 => ((some (y102.set (x5_1 : Int).toNat (⟨(zaa y102 x5_1).f0, wrap64 (x1_1 + 1), (zaa y102 x5_1).f2, (zaa y102 x5_1).f3, (zaa y102 x5_1).f4⟩ : S94) : List (S94))).bind fun y103 => ((some (y103.set (x5_1 : Int).toNat (⟨(zaa y103 x5_1).f0, (zaa y103 x5_1).f1, wrap64 ((wrap64 (x1_1 + 1)) + 1), (zaa y103 x5_1).f3, (zaa y103 x5_1).f4⟩ : S94) : List (S94))).bind fun y104 => ((some (y104.set (x5_1 : Int).toNat (⟨(zaa y104 x5_1).f0, (zaa y104 x5_1).f1, (zaa y104 x5_1).f2, wrap64 ((wrap64 ((wrap64 (x1_1 + 1)) + 1)) + 1), (zaa y104 x5_1).f4⟩ : S94) : List (S94))).bind fun y105 => (za2 k1 (y105.set (x5_1 : Int).toNat (⟨(zaa y105 x5_1).f0, (zaa y105 x5_1).f1, (zaa y105 x5_1).f2, (zaa y105 x5_1).f3, wrap64 ((wrap64 ((wrap64 ((wrap64 (x1_1 + 1)) + 1)) + 1)) + 1)⟩ : S94)) (wrap64 ((wrap64 ((wrap64 ((wrap64 ((wrap64 (x1_1 + 1)) + 1)) + 1)) + 1)) + 1)) (wrap64 (x5_1 + 1))))))) else (none)) = some (r1, r2) := H
 have A4 := zA A40
 clear A40
 by_cases c5 : 0 ≤ x5_1
 rotate_left
 · rw [if_neg c5] at H
   exact absurd H (by simp)
 rw [if_pos c5] at H
 have c5b0 : decide (0 ≤ x5_1) = true := zdt c5
 clear c5
 obtain ⟨y102, hy102⟩ : ∃ y_ : List (S94), y_ = (x0_1.set (x5_1 : Int).toNat (⟨t101, (zaa x0_1 x5_1).f1, (zaa x0_1 x5_1).f2, (zaa x0_1 x5_1).f3, (zaa x0_1 x5_1).f4⟩ : S94)) := ⟨_, rfl⟩
 replace H : ((some (y102.set (x5_1 : Int).toNat (⟨(zaa y102 x5_1).f0, wrap64 (x1_1 + 1), (zaa y102 x5_1).f2, (zaa y102 x5_1).f3, (zaa y102 x5_1).f4⟩ : S94) : List (S94))).bind fun y103 => ((some (y103.set (x5_1 : Int).toNat (⟨(zaa y103 x5_1).f0, (zaa y103 x5_1).f1, wrap64 ((wrap64 (x1_1 + 1)) + 1), (zaa y103 x5_1).f3, (zaa y103 x5_1).f4⟩ : S94) : List (S94))).bind fun y104 => ((some (y104.set (x5_1 : Int).toNat (⟨(zaa y104 x5_1).f0, (zaa y104 x5_1).f1, (zaa y104 x5_1).f2, wrap64 ((wrap64 ((wrap64 (x1_1 + 1)) + 1)) + 1), (zaa y104 x5_1).f4⟩ : S94) : List (S94))).bind fun y105 => (za2 k1 (y105.set (x5_1 : Int).toNat (⟨(zaa y105 x5_1).f0, (zaa y105 x5_1).f1, (zaa y105 x5_1).f2, (zaa y105 x5_1).f3, wrap64 ((wrap64 ((wrap64 ((wrap64 (x1_1 + 1)) + 1)) + 1)) + 1)⟩ : S94)) (wrap64 ((wrap64 ((wrap64 ((wrap64 ((wrap64 (x1_1 + 1)) + 1)) + 1)) + 1)) + 1)) (wrap64 (x5_1 + 1)))))) = some (r1, r2) := by first | (rw [hy102]; with_reducible exact H) | (have H2_ := (Option.bind_some _ _).symm.trans H; rw [hy102]; with_reducible exact H2_) | (have H2_ := (Option.bind_some _ _).symm.trans H; with_reducible exact H2_) | with_reducible exact H | (rw [hy102]; exact H) | exact H
 have Ny102 := zA hy102
 clear hy102
 obtain ⟨y103, hy103⟩ : ∃ y_ : List (S94), y_ = (y102.set (x5_1 : Int).toNat (⟨(zaa y102 x5_1).f0, wrap64 (x1_1 + 1), (zaa y102 x5_1).f2, (zaa y102 x5_1).f3, (zaa y102 x5_1).f4⟩ : S94)) := ⟨_, rfl⟩
 replace H : ((some (y103.set (x5_1 : Int).toNat (⟨(zaa y103 x5_1).f0, (zaa y103 x5_1).f1, wrap64 ((wrap64 (x1_1 + 1)) + 1), (zaa y103 x5_1).f3, (zaa y103 x5_1).f4⟩ : S94) : List (S94))).bind fun y104 => ((some (y104.set (x5_1 : Int).toNat (⟨(zaa y104 x5_1).f0, (zaa y104 x5_1).f1, (zaa y104 x5_1).f2, wrap64 ((wrap64 ((wrap64 (x1_1 + 1)) + 1)) + 1), (zaa y104 x5_1).f4⟩ : S94) : List (S94))).bind fun y105 => (za2 k1 (y105.set (x5_1 : Int).toNat (⟨(zaa y105 x5_1).f0, (zaa y105 x5_1).f1, (zaa y105 x5_1).f2, (zaa y105 x5_1).f3, wrap64 ((wrap64 ((wrap64 ((wrap64 (x1_1 + 1)) + 1)) + 1)) + 1)⟩ : S94)) (wrap64 ((wrap64 ((wrap64 ((wrap64 ((wrap64 (x1_1 + 1)) + 1)) + 1)) + 1)) + 1)) (wrap64 (x5_1 + 1))))) = some (r1, r2) := by first | (rw [hy103]; with_reducible exact H) | (have H2_ := (Option.bind_some _ _).symm.trans H; rw [hy103]; with_reducible exact H2_) | (have H2_ := (Option.bind_some _ _).symm.trans H; with_reducible exact H2_) | with_reducible exact H | (rw [hy103]; exact H) | exact H
 have Ny103 := zA hy103
 clear hy103
 obtain ⟨y104, hy104⟩ : ∃ y_ : List (S94), y_ = (y103.set (x5_1 : Int).toNat (⟨(zaa y103 x5_1).f0, (zaa y103 x5_1).f1, wrap64 ((wrap64 (x1_1 + 1)) + 1), (zaa y103 x5_1).f3, (zaa y103 x5_1).f4⟩ : S94)) := ⟨_, rfl⟩
 replace H : ((some (y104.set (x5_1 : Int).toNat (⟨(zaa y104 x5_1).f0, (zaa y104 x5_1).f1, (zaa y104 x5_1).f2, wrap64 ((wrap64 ((wrap64 (x1_1 + 1)) + 1)) + 1), (zaa y104 x5_1).f4⟩ : S94) : List (S94))).bind fun y105 => (za2 k1 (y105.set (x5_1 : Int).toNat (⟨(zaa y105 x5_1).f0, (zaa y105 x5_1).f1, (zaa y105 x5_1).f2, (zaa y105 x5_1).f3, wrap64 ((wrap64 ((wrap64 ((wrap64 (x1_1 + 1)) + 1)) + 1)) + 1)⟩ : S94)) (wrap64 ((wrap64 ((wrap64 ((wrap64 ((wrap64 (x1_1 + 1)) + 1)) + 1)) + 1)) + 1)) (wrap64 (x5_1 + 1)))) = some (r1, r2) := by first | (rw [hy104]; with_reducible exact H) | (have H2_ := (Option.bind_some _ _).symm.trans H; rw [hy104]; with_reducible exact H2_) | (have H2_ := (Option.bind_some _ _).symm.trans H; with_reducible exact H2_) | with_reducible exact H | (rw [hy104]; exact H) | exact H
 have Ny104 := zA hy104
 clear hy104
 obtain ⟨y105, hy105⟩ : ∃ y_ : List (S94), y_ = (y104.set (x5_1 : Int).toNat (⟨(zaa y104 x5_1).f0, (zaa y104 x5_1).f1, (zaa y104 x5_1).f2, wrap64 ((wrap64 ((wrap64 (x1_1 + 1)) + 1)) + 1), (zaa y104 x5_1).f4⟩ : S94)) := ⟨_, rfl⟩
 replace H : (za2 k1 (y105.set (x5_1 : Int).toNat (⟨(zaa y105 x5_1).f0, (zaa y105 x5_1).f1, (zaa y105 x5_1).f2, (zaa y105 x5_1).f3, wrap64 ((wrap64 ((wrap64 ((wrap64 (x1_1 + 1)) + 1)) + 1)) + 1)⟩ : S94)) (wrap64 ((wrap64 ((wrap64 ((wrap64 ((wrap64 (x1_1 + 1)) + 1)) + 1)) + 1)) + 1)) (wrap64 (x5_1 + 1))) = some (r1, r2) := by first | (rw [hy105]; with_reducible exact H) | (have H2_ := (Option.bind_some _ _).symm.trans H; rw [hy105]; with_reducible exact H2_) | (have H2_ := (Option.bind_some _ _).symm.trans H; with_reducible exact H2_) | with_reducible exact H | (rw [hy105]; exact H) | exact H
 have Ny105 := zA hy105
 clear hy105
 obtain ⟨y106, hy106⟩ : ∃ y_ : List (S94), y_ = (y105.set (x5_1 : Int).toNat (⟨(zaa y105 x5_1).f0, (zaa y105 x5_1).f1, (zaa y105 x5_1).f2, (zaa y105 x5_1).f3, wrap64 ((wrap64 ((wrap64 ((wrap64 (x1_1 + 1)) + 1)) + 1)) + 1)⟩ : S94)) := ⟨_, rfl⟩
 replace H : (za2 k1 y106 (wrap64 ((wrap64 ((wrap64 ((wrap64 ((wrap64 (x1_1 + 1)) + 1)) + 1)) + 1)) + 1)) (wrap64 (x5_1 + 1))) = some (r1, r2) := by first | (rw [hy106]; with_reducible exact H) | (have H2_ := (Option.bind_some _ _).symm.trans H; rw [hy106]; with_reducible exact H2_) | (have H2_ := (Option.bind_some _ _).symm.trans H; with_reducible exact H2_) | with_reducible exact H | (rw [hy106]; exact H) | exact H
 have Ny106 := zA hy106
 clear hy106
 have H' := zA H
 clear H
 obtain ⟨Ao11, co11, eo11⟩ := Kd.R_slice HO_0.out
 subst eo11
 go_wp2_with (first | ((with_reducible refine zah (f := 49) rfl ?_); refine za3 (some 15) rfl rfl Try.func49 (by kernel_rfl) rfl #[.int .i64 x1_1] rfl (by (try simp only [List.map_toArray, List.map_cons, List.map_nil]); first | done | rfl | (simp only [List.length_drop, List.length_take]; rfl)) ?_; (with_reducible refine (zfz k1 x1_1 t101 _ A4.out).mono ?_); rintro e w12 ⟨rfl, hb⟩; refine ⟨_, rfl, ?_⟩; have n0_ := zA (zRb (by (with_reducible repeat (first | apply zRa | apply zRn | apply zRd)); exact HO_0.out) hb); have n1_ := zA (Kept.below (S := (fun k_ => P0_ k_)) (by repeat (first | (with_reducible first | exact HK.out | apply Kept.alloc | apply Kept.drewN | apply Kept.drew) | exact HK.out)) hb); have n2_ := zA (zag (by repeat (first | (with_reducible first | exact HB.out | apply zba | apply zbn | apply zbd) | exact HB.out)) hb); clear HO_0; clear HK; clear HB; have HO_0 := n0_; have HK := n1_; have HB := n2_; clear n0_ n1_ n2_; (try clear hb); (try clear hk); have p6 : 0 ≤ (x5_1 : Int) := zde (by assumption); have q6 : (x5_1 : Int) < ((x0_1.length : Int) : Int) := zde (by assumption); obtain ⟨go6, co6, eo6, gb6, gl6, cl6, HG6⟩ := Kd.R_form HO_0.out (by omega); (first | cases eo6 | (injection eo6 with ea_ en_ ec_; (first | subst ea_ | (injection ea_ with ea_; subst ea_)); subst ec_; clear en_)); have GB6 := zA gb6; have GG6 := zA HG6; clear gb6 gl6 HG6; have HMgo6 := zA (show (P0_ go6 ∨ w.heap.size ≤ go6) from (HO_0.out.1 _ rfl)); obtain ⟨ce6, hcl6, hM6, hcc6, hfr6⟩ := Kd.R_elem HO_0.out z94 (x5_1 : Int) p6 q6; obtain rfl := zfb hM6; have hx6_0 : w12.cell? ⟨go6, (x5_1 : Int).toNat * 5, none⟩ = some (.string ((zaa x0_1 x5_1).f0)) := hcc6 0 _ rfl; have hx6_1 : w12.cell? ⟨go6, (x5_1 : Int).toNat * 5 + 1, none⟩ = some (.int .i64 ((zaa x0_1 x5_1).f1)) := hcc6 1 _ rfl; have hx6_2 : w12.cell? ⟨go6, (x5_1 : Int).toNat * 5 + 2, none⟩ = some (.int .i64 ((zaa x0_1 x5_1).f2)) := hcc6 2 _ rfl; have hx6_3 : w12.cell? ⟨go6, (x5_1 : Int).toNat * 5 + 3, none⟩ = some (.int .i64 ((zaa x0_1 x5_1).f3)) := hcc6 3 _ rfl; have hx6_4 : w12.cell? ⟨go6, (x5_1 : Int).toNat * 5 + 4, none⟩ = some (.int .i64 ((zaa x0_1 x5_1).f4)) := hcc6 4 _ rfl; have hf6_0 : w12.frozen? ⟨go6, (x5_1 : Int).toNat * 5, none⟩ = false := hfr6 0; have hf6_1 : w12.frozen? ⟨go6, (x5_1 : Int).toNat * 5 + 1, none⟩ = false := hfr6 1; have hf6_2 : w12.frozen? ⟨go6, (x5_1 : Int).toNat * 5 + 2, none⟩ = false := hfr6 2; have hf6_3 : w12.frozen? ⟨go6, (x5_1 : Int).toNat * 5 + 3, none⟩ = false := hfr6 3; have hf6_4 : w12.frozen? ⟨go6, (x5_1 : Int).toNat * 5 + 4, none⟩ = false := hfr6 4; clear hcl6 hcc6 hfr6 hM6; replace p6 := eq_true p6; replace q6 := eq_true q6; have HX13 := zA (show Kd.R k94 94 w12 w0.heap.size (fun k_ => (P0_ k_ ∨ w.heap.size ≤ k_)) (.slice (some ⟨go6, 0, none⟩) x0_1.length co11) x0_1 from (by (with_reducible repeat (first | apply zRa | apply zRn | apply zRd)); exact HO_0.out)); obtain ⟨ce13, hcl13, hM13, hcc13, hfr13⟩ := Kd.R_elem HX13.out z94 (x5_1 : Int) (zde (by assumption)) (by have h_ : (x5_1 : Int) < ((x0_1.length : Int) : Int) := zde (by assumption); first | exact h_ | (have e_ := (zRr HO_0.out).1; omega) | simpa using h_); obtain rfl := zfb hM13; have HP13 := Kd.R_seg HX13.out (x5_1 : Int) (zde (by assumption)) (by have h_ : (x5_1 : Int) < ((x0_1.length : Int) : Int) := zde (by assumption); first | exact h_ | (have e_ := (zRr HO_0.out).1; omega) | simpa using h_) (seg := [.string t101]) (j := 0) hcl13 hcc13 (show 1 ≤ 5 from by decide) (x' := (⟨t101, (zaa x0_1 x5_1).f1, (zaa x0_1 x5_1).f2, (zaa x0_1 x5_1).f3, (zaa x0_1 x5_1).f4⟩ : S94)) (zjt _ _ _ (⟨t101, (zaa x0_1 x5_1).f1, (zaa x0_1 x5_1).f2, (zaa x0_1 x5_1).f3, (zaa x0_1 x5_1).f4⟩ : S94) ) (fun _ hk => hk); have hx13_0 := hcc13 0 _ rfl; (try simp only [show (k94).sz = 5 from rfl, Nat.mul_one, Nat.add_zero] at hx13_0); have hf13_0 := hfr13 0; (try simp only [show (k94).sz = 5 from rfl, Nat.mul_one, Nat.add_zero] at hf13_0); clear hcl13 hcc13 hfr13 hM13) | ((with_reducible refine zbk (t := 9) (p := 17) rfl ?_); refine zbj (t := 9) (p := 17) (v := ?vo_w14) (w1 := (w12.setCell ⟨go6, (x5_1 : Int).toNat * 5, none⟩ (.string t101))) ?hg ?ho ?hn ?hr ?_; (case ho => rfl); (case hg => rfl); (case hn => rfl); (case hr => go_simp <;> rfl); intro w14 hw; have hg : w12.grownBy w14 (some go6) := (by rw [hw]; exact HP13.2); have hp_ : Kd.R k94 94 w14 w0.heap.size (fun k_ => (P0_ k_ ∨ w.heap.size ≤ k_)) (.slice (some ⟨go6, 0, none⟩) x0_1.length co11) y102 := (by rw [hw, Ny102.out]; exact HP13.1); clear HP13; have n0_ := zA (hp_); have n1_ := zA ((by rw [hw]; exact zab (HB.out) GB6.out : Below w0.heap.size w0 w14)); have n2_ := zA (zeb (S := (fun k_ => P0_ k_)) hg (by repeat (first | (with_reducible first | exact HK.out | apply Kept.alloc | apply Kept.drewN | apply Kept.drew) | exact HK.out)) (fun k_ e_ => (HO_0.out.1 k_ e_))); clear HO_0 HB; clear HK; have HO_0 := n0_; have HB := n1_; have HK := n2_; clear n0_ n1_ n2_; clear hg hw hp_; have p7 : 0 ≤ (x5_1 : Int) := zde (by assumption); have q7 : (x5_1 : Int) < ((x0_1.length : Int) : Int) := zde (by assumption); obtain ⟨ce7, hcl7, hM7, hcc7, hfr7⟩ := Kd.R_elem HO_0.out z94 (x5_1 : Int) p7 q7; obtain rfl := zfb hM7; have hx7_0 : w14.cell? ⟨go6, (x5_1 : Int).toNat * 5, none⟩ = some (.string ((zaa y102 x5_1).f0)) := hcc7 0 _ rfl; have hx7_1 : w14.cell? ⟨go6, (x5_1 : Int).toNat * 5 + 1, none⟩ = some (.int .i64 ((zaa y102 x5_1).f1)) := hcc7 1 _ rfl; have hx7_2 : w14.cell? ⟨go6, (x5_1 : Int).toNat * 5 + 2, none⟩ = some (.int .i64 ((zaa y102 x5_1).f2)) := hcc7 2 _ rfl; have hx7_3 : w14.cell? ⟨go6, (x5_1 : Int).toNat * 5 + 3, none⟩ = some (.int .i64 ((zaa y102 x5_1).f3)) := hcc7 3 _ rfl; have hx7_4 : w14.cell? ⟨go6, (x5_1 : Int).toNat * 5 + 4, none⟩ = some (.int .i64 ((zaa y102 x5_1).f4)) := hcc7 4 _ rfl; have hf7_0 : w14.frozen? ⟨go6, (x5_1 : Int).toNat * 5, none⟩ = false := hfr7 0; have hf7_1 : w14.frozen? ⟨go6, (x5_1 : Int).toNat * 5 + 1, none⟩ = false := hfr7 1; have hf7_2 : w14.frozen? ⟨go6, (x5_1 : Int).toNat * 5 + 2, none⟩ = false := hfr7 2; have hf7_3 : w14.frozen? ⟨go6, (x5_1 : Int).toNat * 5 + 3, none⟩ = false := hfr7 3; have hf7_4 : w14.frozen? ⟨go6, (x5_1 : Int).toNat * 5 + 4, none⟩ = false := hfr7 4; clear hcl7 hcc7 hfr7 hM7; replace p7 := eq_true p7; replace q7 := eq_true q7; have HX15 := zA (show Kd.R k94 94 w14 w0.heap.size (fun k_ => (P0_ k_ ∨ w.heap.size ≤ k_)) (.slice (some ⟨go6, 0, none⟩) x0_1.length co11) y102 from (by (with_reducible repeat (first | apply zRa | apply zRn | apply zRd)); exact HO_0.out)); obtain ⟨ce15, hcl15, hM15, hcc15, hfr15⟩ := Kd.R_elem HX15.out z94 (x5_1 : Int) (zde (by assumption)) (by have h_ : (x5_1 : Int) < ((x0_1.length : Int) : Int) := zde (by assumption); first | exact h_ | (have e_ := (zRr HO_0.out).1; omega) | simpa using h_); obtain rfl := zfb hM15; have HP15 := Kd.R_seg HX15.out (x5_1 : Int) (zde (by assumption)) (by have h_ : (x5_1 : Int) < ((x0_1.length : Int) : Int) := zde (by assumption); first | exact h_ | (have e_ := (zRr HO_0.out).1; omega) | simpa using h_) (seg := [.int .i64 (wrap64 (x1_1 + 1))]) (j := 1) hcl15 hcc15 (show 2 ≤ 5 from by decide) (x' := (⟨(zaa y102 x5_1).f0, wrap64 (x1_1 + 1), (zaa y102 x5_1).f2, (zaa y102 x5_1).f3, (zaa y102 x5_1).f4⟩ : S94)) (zjt _ _ _ (⟨(zaa y102 x5_1).f0, wrap64 (x1_1 + 1), (zaa y102 x5_1).f2, (zaa y102 x5_1).f3, (zaa y102 x5_1).f4⟩ : S94) ) (fun _ hk => hk); have hx15_1 := hcc15 1 _ rfl; (try simp only [show (k94).sz = 5 from rfl, Nat.mul_one, Nat.add_zero] at hx15_1); have hf15_1 := hfr15 1; (try simp only [show (k94).sz = 5 from rfl, Nat.mul_one, Nat.add_zero] at hf15_1); clear hcl15 hcc15 hfr15 hM15) | ((with_reducible refine zbk (t := 3) (p := 24) rfl ?_); refine zbj (t := 3) (p := 24) (v := ?vo_w16) (w1 := (w14.setCell ⟨go6, (x5_1 : Int).toNat * 5 + 1, none⟩ (.int .i64 (wrap64 (x1_1 + 1))))) ?hg ?ho ?hn ?hr ?_; (case ho => rfl); (case hg => rfl); (case hn => rfl); (case hr => go_simp <;> rfl); intro w16 hw; have hg : w14.grownBy w16 (some go6) := (by rw [hw]; exact HP15.2); have hp_ : Kd.R k94 94 w16 w0.heap.size (fun k_ => (P0_ k_ ∨ w.heap.size ≤ k_)) (.slice (some ⟨go6, 0, none⟩) x0_1.length co11) y103 := (by rw [hw, Ny103.out]; exact HP15.1); clear HP15; have n0_ := zA (hp_); have n1_ := zA ((by rw [hw]; exact zab (HB.out) GB6.out : Below w0.heap.size w0 w16)); have n2_ := zA (zeb (S := (fun k_ => P0_ k_)) hg (by repeat (first | (with_reducible first | exact HK.out | apply Kept.alloc | apply Kept.drewN | apply Kept.drew) | exact HK.out)) (fun k_ e_ => (HO_0.out.1 k_ e_))); clear HO_0 HB; clear HK; have HO_0 := n0_; have HB := n1_; have HK := n2_; clear n0_ n1_ n2_; clear hg hw hp_; have p8 : 0 ≤ (x5_1 : Int) := zde (by assumption); have q8 : (x5_1 : Int) < ((x0_1.length : Int) : Int) := zde (by assumption); obtain ⟨ce8, hcl8, hM8, hcc8, hfr8⟩ := Kd.R_elem HO_0.out z94 (x5_1 : Int) p8 q8; obtain rfl := zfb hM8; have hx8_0 : w16.cell? ⟨go6, (x5_1 : Int).toNat * 5, none⟩ = some (.string ((zaa y103 x5_1).f0)) := hcc8 0 _ rfl; have hx8_1 : w16.cell? ⟨go6, (x5_1 : Int).toNat * 5 + 1, none⟩ = some (.int .i64 ((zaa y103 x5_1).f1)) := hcc8 1 _ rfl; have hx8_2 : w16.cell? ⟨go6, (x5_1 : Int).toNat * 5 + 2, none⟩ = some (.int .i64 ((zaa y103 x5_1).f2)) := hcc8 2 _ rfl; have hx8_3 : w16.cell? ⟨go6, (x5_1 : Int).toNat * 5 + 3, none⟩ = some (.int .i64 ((zaa y103 x5_1).f3)) := hcc8 3 _ rfl; have hx8_4 : w16.cell? ⟨go6, (x5_1 : Int).toNat * 5 + 4, none⟩ = some (.int .i64 ((zaa y103 x5_1).f4)) := hcc8 4 _ rfl; have hf8_0 : w16.frozen? ⟨go6, (x5_1 : Int).toNat * 5, none⟩ = false := hfr8 0; have hf8_1 : w16.frozen? ⟨go6, (x5_1 : Int).toNat * 5 + 1, none⟩ = false := hfr8 1; have hf8_2 : w16.frozen? ⟨go6, (x5_1 : Int).toNat * 5 + 2, none⟩ = false := hfr8 2; have hf8_3 : w16.frozen? ⟨go6, (x5_1 : Int).toNat * 5 + 3, none⟩ = false := hfr8 3; have hf8_4 : w16.frozen? ⟨go6, (x5_1 : Int).toNat * 5 + 4, none⟩ = false := hfr8 4; clear hcl8 hcc8 hfr8 hM8; replace p8 := eq_true p8; replace q8 := eq_true q8; have HX17 := zA (show Kd.R k94 94 w16 w0.heap.size (fun k_ => (P0_ k_ ∨ w.heap.size ≤ k_)) (.slice (some ⟨go6, 0, none⟩) x0_1.length co11) y103 from (by (with_reducible repeat (first | apply zRa | apply zRn | apply zRd)); exact HO_0.out)); obtain ⟨ce17, hcl17, hM17, hcc17, hfr17⟩ := Kd.R_elem HX17.out z94 (x5_1 : Int) (zde (by assumption)) (by have h_ : (x5_1 : Int) < ((x0_1.length : Int) : Int) := zde (by assumption); first | exact h_ | (have e_ := (zRr HO_0.out).1; omega) | simpa using h_); obtain rfl := zfb hM17; have HP17 := Kd.R_seg HX17.out (x5_1 : Int) (zde (by assumption)) (by have h_ : (x5_1 : Int) < ((x0_1.length : Int) : Int) := zde (by assumption); first | exact h_ | (have e_ := (zRr HO_0.out).1; omega) | simpa using h_) (seg := [.int .i64 (wrap64 ((wrap64 (x1_1 + 1)) + 1))]) (j := 2) hcl17 hcc17 (show 3 ≤ 5 from by decide) (x' := (⟨(zaa y103 x5_1).f0, (zaa y103 x5_1).f1, wrap64 ((wrap64 (x1_1 + 1)) + 1), (zaa y103 x5_1).f3, (zaa y103 x5_1).f4⟩ : S94)) (zjt _ _ _ (⟨(zaa y103 x5_1).f0, (zaa y103 x5_1).f1, wrap64 ((wrap64 (x1_1 + 1)) + 1), (zaa y103 x5_1).f3, (zaa y103 x5_1).f4⟩ : S94) ) (fun _ hk => hk); have hx17_2 := hcc17 2 _ rfl; (try simp only [show (k94).sz = 5 from rfl, Nat.mul_one, Nat.add_zero] at hx17_2); have hf17_2 := hfr17 2; (try simp only [show (k94).sz = 5 from rfl, Nat.mul_one, Nat.add_zero] at hf17_2); clear hcl17 hcc17 hfr17 hM17) | ((with_reducible refine zbk (t := 3) (p := 31) rfl ?_); refine zbj (t := 3) (p := 31) (v := ?vo_w18) (w1 := (w16.setCell ⟨go6, (x5_1 : Int).toNat * 5 + 2, none⟩ (.int .i64 (wrap64 ((wrap64 (x1_1 + 1)) + 1))))) ?hg ?ho ?hn ?hr ?_; (case ho => rfl); (case hg => rfl); (case hn => rfl); (case hr => go_simp <;> rfl); intro w18 hw; have hg : w16.grownBy w18 (some go6) := (by rw [hw]; exact HP17.2); have hp_ : Kd.R k94 94 w18 w0.heap.size (fun k_ => (P0_ k_ ∨ w.heap.size ≤ k_)) (.slice (some ⟨go6, 0, none⟩) x0_1.length co11) y104 := (by rw [hw, Ny104.out]; exact HP17.1); clear HP17; have n0_ := zA (hp_); have n1_ := zA ((by rw [hw]; exact zab (HB.out) GB6.out : Below w0.heap.size w0 w18)); have n2_ := zA (zeb (S := (fun k_ => P0_ k_)) hg (by repeat (first | (with_reducible first | exact HK.out | apply Kept.alloc | apply Kept.drewN | apply Kept.drew) | exact HK.out)) (fun k_ e_ => (HO_0.out.1 k_ e_))); clear HO_0 HB; clear HK; have HO_0 := n0_; have HB := n1_; have HK := n2_; clear n0_ n1_ n2_; clear hg hw hp_; have p9 : 0 ≤ (x5_1 : Int) := zde (by assumption); have q9 : (x5_1 : Int) < ((x0_1.length : Int) : Int) := zde (by assumption); obtain ⟨ce9, hcl9, hM9, hcc9, hfr9⟩ := Kd.R_elem HO_0.out z94 (x5_1 : Int) p9 q9; obtain rfl := zfb hM9; have hx9_0 : w18.cell? ⟨go6, (x5_1 : Int).toNat * 5, none⟩ = some (.string ((zaa y104 x5_1).f0)) := hcc9 0 _ rfl; have hx9_1 : w18.cell? ⟨go6, (x5_1 : Int).toNat * 5 + 1, none⟩ = some (.int .i64 ((zaa y104 x5_1).f1)) := hcc9 1 _ rfl; have hx9_2 : w18.cell? ⟨go6, (x5_1 : Int).toNat * 5 + 2, none⟩ = some (.int .i64 ((zaa y104 x5_1).f2)) := hcc9 2 _ rfl; have hx9_3 : w18.cell? ⟨go6, (x5_1 : Int).toNat * 5 + 3, none⟩ = some (.int .i64 ((zaa y104 x5_1).f3)) := hcc9 3 _ rfl; have hx9_4 : w18.cell? ⟨go6, (x5_1 : Int).toNat * 5 + 4, none⟩ = some (.int .i64 ((zaa y104 x5_1).f4)) := hcc9 4 _ rfl; have hf9_0 : w18.frozen? ⟨go6, (x5_1 : Int).toNat * 5, none⟩ = false := hfr9 0; have hf9_1 : w18.frozen? ⟨go6, (x5_1 : Int).toNat * 5 + 1, none⟩ = false := hfr9 1; have hf9_2 : w18.frozen? ⟨go6, (x5_1 : Int).toNat * 5 + 2, none⟩ = false := hfr9 2; have hf9_3 : w18.frozen? ⟨go6, (x5_1 : Int).toNat * 5 + 3, none⟩ = false := hfr9 3; have hf9_4 : w18.frozen? ⟨go6, (x5_1 : Int).toNat * 5 + 4, none⟩ = false := hfr9 4; clear hcl9 hcc9 hfr9 hM9; replace p9 := eq_true p9; replace q9 := eq_true q9; have HX19 := zA (show Kd.R k94 94 w18 w0.heap.size (fun k_ => (P0_ k_ ∨ w.heap.size ≤ k_)) (.slice (some ⟨go6, 0, none⟩) x0_1.length co11) y104 from (by (with_reducible repeat (first | apply zRa | apply zRn | apply zRd)); exact HO_0.out)); obtain ⟨ce19, hcl19, hM19, hcc19, hfr19⟩ := Kd.R_elem HX19.out z94 (x5_1 : Int) (zde (by assumption)) (by have h_ : (x5_1 : Int) < ((x0_1.length : Int) : Int) := zde (by assumption); first | exact h_ | (have e_ := (zRr HO_0.out).1; omega) | simpa using h_); obtain rfl := zfb hM19; have HP19 := Kd.R_seg HX19.out (x5_1 : Int) (zde (by assumption)) (by have h_ : (x5_1 : Int) < ((x0_1.length : Int) : Int) := zde (by assumption); first | exact h_ | (have e_ := (zRr HO_0.out).1; omega) | simpa using h_) (seg := [.int .i64 (wrap64 ((wrap64 ((wrap64 (x1_1 + 1)) + 1)) + 1))]) (j := 3) hcl19 hcc19 (show 4 ≤ 5 from by decide) (x' := (⟨(zaa y104 x5_1).f0, (zaa y104 x5_1).f1, (zaa y104 x5_1).f2, wrap64 ((wrap64 ((wrap64 (x1_1 + 1)) + 1)) + 1), (zaa y104 x5_1).f4⟩ : S94)) (zjt _ _ _ (⟨(zaa y104 x5_1).f0, (zaa y104 x5_1).f1, (zaa y104 x5_1).f2, wrap64 ((wrap64 ((wrap64 (x1_1 + 1)) + 1)) + 1), (zaa y104 x5_1).f4⟩ : S94) ) (fun _ hk => hk); have hx19_3 := hcc19 3 _ rfl; (try simp only [show (k94).sz = 5 from rfl, Nat.mul_one, Nat.add_zero] at hx19_3); have hf19_3 := hfr19 3; (try simp only [show (k94).sz = 5 from rfl, Nat.mul_one, Nat.add_zero] at hf19_3); clear hcl19 hcc19 hfr19 hM19) | ((with_reducible refine zbk (t := 3) (p := 38) rfl ?_); refine zbj (t := 3) (p := 38) (v := ?vo_w20) (w1 := (w18.setCell ⟨go6, (x5_1 : Int).toNat * 5 + 3, none⟩ (.int .i64 (wrap64 ((wrap64 ((wrap64 (x1_1 + 1)) + 1)) + 1))))) ?hg ?ho ?hn ?hr ?_; (case ho => rfl); (case hg => rfl); (case hn => rfl); (case hr => go_simp <;> rfl); intro w20 hw; have hg : w18.grownBy w20 (some go6) := (by rw [hw]; exact HP19.2); have hp_ : Kd.R k94 94 w20 w0.heap.size (fun k_ => (P0_ k_ ∨ w.heap.size ≤ k_)) (.slice (some ⟨go6, 0, none⟩) x0_1.length co11) y105 := (by rw [hw, Ny105.out]; exact HP19.1); clear HP19; have n0_ := zA (hp_); have n1_ := zA ((by rw [hw]; exact zab (HB.out) GB6.out : Below w0.heap.size w0 w20)); have n2_ := zA (zeb (S := (fun k_ => P0_ k_)) hg (by repeat (first | (with_reducible first | exact HK.out | apply Kept.alloc | apply Kept.drewN | apply Kept.drew) | exact HK.out)) (fun k_ e_ => (HO_0.out.1 k_ e_))); clear HO_0 HB; clear HK; have HO_0 := n0_; have HB := n1_; have HK := n2_; clear n0_ n1_ n2_; clear hg hw hp_; have p10 : 0 ≤ (x5_1 : Int) := zde (by assumption); have q10 : (x5_1 : Int) < ((x0_1.length : Int) : Int) := zde (by assumption); obtain ⟨ce10, hcl10, hM10, hcc10, hfr10⟩ := Kd.R_elem HO_0.out z94 (x5_1 : Int) p10 q10; obtain rfl := zfb hM10; have hx10_0 : w20.cell? ⟨go6, (x5_1 : Int).toNat * 5, none⟩ = some (.string ((zaa y105 x5_1).f0)) := hcc10 0 _ rfl; have hx10_1 : w20.cell? ⟨go6, (x5_1 : Int).toNat * 5 + 1, none⟩ = some (.int .i64 ((zaa y105 x5_1).f1)) := hcc10 1 _ rfl; have hx10_2 : w20.cell? ⟨go6, (x5_1 : Int).toNat * 5 + 2, none⟩ = some (.int .i64 ((zaa y105 x5_1).f2)) := hcc10 2 _ rfl; have hx10_3 : w20.cell? ⟨go6, (x5_1 : Int).toNat * 5 + 3, none⟩ = some (.int .i64 ((zaa y105 x5_1).f3)) := hcc10 3 _ rfl; have hx10_4 : w20.cell? ⟨go6, (x5_1 : Int).toNat * 5 + 4, none⟩ = some (.int .i64 ((zaa y105 x5_1).f4)) := hcc10 4 _ rfl; have hf10_0 : w20.frozen? ⟨go6, (x5_1 : Int).toNat * 5, none⟩ = false := hfr10 0; have hf10_1 : w20.frozen? ⟨go6, (x5_1 : Int).toNat * 5 + 1, none⟩ = false := hfr10 1; have hf10_2 : w20.frozen? ⟨go6, (x5_1 : Int).toNat * 5 + 2, none⟩ = false := hfr10 2; have hf10_3 : w20.frozen? ⟨go6, (x5_1 : Int).toNat * 5 + 3, none⟩ = false := hfr10 3; have hf10_4 : w20.frozen? ⟨go6, (x5_1 : Int).toNat * 5 + 4, none⟩ = false := hfr10 4; clear hcl10 hcc10 hfr10 hM10; replace p10 := eq_true p10; replace q10 := eq_true q10; have HX21 := zA (show Kd.R k94 94 w20 w0.heap.size (fun k_ => (P0_ k_ ∨ w.heap.size ≤ k_)) (.slice (some ⟨go6, 0, none⟩) x0_1.length co11) y105 from (by (with_reducible repeat (first | apply zRa | apply zRn | apply zRd)); exact HO_0.out)); obtain ⟨ce21, hcl21, hM21, hcc21, hfr21⟩ := Kd.R_elem HX21.out z94 (x5_1 : Int) (zde (by assumption)) (by have h_ : (x5_1 : Int) < ((x0_1.length : Int) : Int) := zde (by assumption); first | exact h_ | (have e_ := (zRr HO_0.out).1; omega) | simpa using h_); obtain rfl := zfb hM21; have HP21 := Kd.R_seg HX21.out (x5_1 : Int) (zde (by assumption)) (by have h_ : (x5_1 : Int) < ((x0_1.length : Int) : Int) := zde (by assumption); first | exact h_ | (have e_ := (zRr HO_0.out).1; omega) | simpa using h_) (seg := [.int .i64 (wrap64 ((wrap64 ((wrap64 ((wrap64 (x1_1 + 1)) + 1)) + 1)) + 1))]) (j := 4) hcl21 hcc21 (show 5 ≤ 5 from by decide) (x' := (⟨(zaa y105 x5_1).f0, (zaa y105 x5_1).f1, (zaa y105 x5_1).f2, (zaa y105 x5_1).f3, wrap64 ((wrap64 ((wrap64 ((wrap64 (x1_1 + 1)) + 1)) + 1)) + 1)⟩ : S94)) (zjt _ _ _ (⟨(zaa y105 x5_1).f0, (zaa y105 x5_1).f1, (zaa y105 x5_1).f2, (zaa y105 x5_1).f3, wrap64 ((wrap64 ((wrap64 ((wrap64 (x1_1 + 1)) + 1)) + 1)) + 1)⟩ : S94) ) (fun _ hk => hk); have hx21_4 := hcc21 4 _ rfl; (try simp only [show (k94).sz = 5 from rfl, Nat.mul_one, Nat.add_zero] at hx21_4); have hf21_4 := hfr21 4; (try simp only [show (k94).sz = 5 from rfl, Nat.mul_one, Nat.add_zero] at hf21_4); clear hcl21 hcc21 hfr21 hM21) | ((with_reducible refine zbk (t := 3) (p := 45) rfl ?_); refine zbj (t := 3) (p := 45) (v := ?vo_w22) (w1 := (w20.setCell ⟨go6, (x5_1 : Int).toNat * 5 + 4, none⟩ (.int .i64 (wrap64 ((wrap64 ((wrap64 ((wrap64 (x1_1 + 1)) + 1)) + 1)) + 1))))) ?hg ?ho ?hn ?hr ?_; (case ho => rfl); (case hg => rfl); (case hn => rfl); (case hr => go_simp <;> rfl); intro w22 hw; have hg : w20.grownBy w22 (some go6) := (by rw [hw]; exact HP21.2); have hp_ : Kd.R k94 94 w22 w0.heap.size (fun k_ => (P0_ k_ ∨ w.heap.size ≤ k_)) (.slice (some ⟨go6, 0, none⟩) x0_1.length co11) y106 := (by rw [hw, Ny106.out]; exact HP21.1); clear HP21; have n0_ := zA (hp_); have n1_ := zA ((by rw [hw]; exact zab (HB.out) GB6.out : Below w0.heap.size w0 w22)); have n2_ := zA (zeb (S := (fun k_ => P0_ k_)) hg (by repeat (first | (with_reducible first | exact HK.out | apply Kept.alloc | apply Kept.drewN | apply Kept.drew) | exact HK.out)) (fun k_ e_ => (HO_0.out.1 k_ e_))); clear HO_0 HB; clear HK; have HO_0 := n0_; have HB := n1_; have HK := n2_; clear n0_ n1_ n2_; clear hg hw hp_))
 go_roundg k1
 case measure => have := HK1.out; omega
 case rel => exact ⟨(y106), (wrap64 ((wrap64 ((wrap64 ((wrap64 ((wrap64 (x1_1 + 1)) + 1)) + 1)) + 1)) + 1)), (wrap64 (x5_1 + 1)), (by first | rfl | (simp; done) | (simp [*]; done)), (by first | rfl | (simp; done) | (simp [*]; done)), H', ⟨by have := HK1.out; omega⟩, ⟨by (with_reducible repeat (first | apply zRa | apply zRn | apply zRd)); exact HO_0.out⟩, ⟨by repeat (first | (with_reducible first | exact HK.out | apply Kept.alloc | apply Kept.drewN | apply Kept.drew) | exact HK.out)⟩, ⟨by repeat (first | (with_reducible first | exact HB.out | apply zba | apply zbn | apply zbd) | exact HB.out)⟩⟩
def za8 : Nat → List (S72) → Int → Int → Option (Int × (List (S72)))
 | 0, _, _, _ => none
 | k + 1, x0, x1, x5 => if x5 < (x0.length : Int) then ((zc9 k x1).bind fun t101 => (if 0 ≤ x5 then ((some (x0.set (x5 : Int).toNat (⟨t101, (zac x0 x5).f1, (zac x0 x5).f2, (zac x0 x5).f3⟩ : S72) : List (S72))).bind fun y102 => ((some (y102.set (x5 : Int).toNat (⟨(zac y102 x5).f0, wrap64 (x1 + 1), (zac y102 x5).f2, (zac y102 x5).f3⟩ : S72) : List (S72))).bind fun y103 => ((some (y103.set (x5 : Int).toNat (⟨(zac y103 x5).f0, (zac y103 x5).f1, wrap64 ((wrap64 (x1 + 1)) + 1), (zac y103 x5).f3⟩ : S72) : List (S72))).bind fun y104 => (za8 k (y104.set (x5 : Int).toNat (⟨(zac y104 x5).f0, (zac y104 x5).f1, (zac y104 x5).f2, wrap64 ((wrap64 ((wrap64 (x1 + 1)) + 1)) + 1)⟩ : S72)) (wrap64 ((wrap64 ((wrap64 ((wrap64 (x1 + 1)) + 1)) + 1)) + 1)) (wrap64 (x5 + 1)))))) else (none))) else (some (x1, x0))
def zef (k : Nat) (l0 : List (S72)) (a1 : Int) : Option (Int × (List (S72))) := za8 k l0 a1 0
theorem zgr : ∀ k, (∀ y0 y1 y2, LeO (za8 k y0 y1 y2) (za8 (k + 1) y0 y1 y2))
 | 0 => fun _ _ _ r h => by simp [za8] at h
 | k + 1 => by
   have ih0 := zgr k
   · intro y0 y1 y2
     unfold za8
     repeat' first
     | (with_reducible first | exact ih0 _ _ _ | exact zex _ _ | exact LeO.refl _ | exact LeO.none _ | refine zai ?_ ?_ | refine LeO.bind ?_ (fun _ => ?_))
     | exact LeO.none _
     | refine zai ?_ ?_
     | refine LeO.bind ?_ (fun _ => ?_)
theorem zo9 : ∀ a0 a1 k, LeO (zef k a0 a1) (zef (k + 1) a0 a1) := by
 intro a0 a1 k
 have ih0 := zgr k
 unfold zef
 repeat' first
     | (with_reducible first | exact ih0 _ _ _ | exact zex _ _ | exact LeO.refl _ | exact LeO.none _ | refine zai ?_ ?_ | refine LeO.bind ?_ (fun _ => ?_))
     | exact LeO.none _
     | refine zai ?_ ?_
     | refine LeO.bind ?_ (fun _ => ?_)
set_option maxHeartbeats 8000000 in
set_option maxRecDepth 100000 in
theorem zji (k : Nat) (P0_ : Nat → Prop) (u9000_ : Value) (l0 : List (S72)) (a1 : Int) (r1 : Int) (r2 : List (S72)) (w0 w : World) (hB : Below w0.heap.size w0 w) (ho0 : Kd.R k72 72 w w0.heap.size P0_ u9000_ l0) (h : zef k l0 a1 = some (r1, r2)) :
   Calls Try.prog 14 #[u9000_, .int .i64 a1] w fun e w' => e = .returned (.int .i64 r1) ∧ Kd.R k72 72 w' w0.heap.size (fun k_ => (P0_ k_ ∨ w.heap.size ≤ k_)) u9000_ r2 ∧ Below w0.heap.size w0 w' ∧ Kept w w' (fun k_ => P0_ k_) := by
 have HO0 := zA (show Kd.R k72 72 w w0.heap.size (fun k_ => (P0_ k_ ∨ w.heap.size ≤ k_)) u9000_ l0 from Kd.R_mono ho0 (fun k_ hk => (.inl hk)))
 have HK := zA (Kept.refl w (fun k_ => P0_ k_))
 have HW0 := zA hB.size
 have HB := zA hB
 clear hB
 have H : (za8 k l0 a1 0) = some (r1, r2) := h
 clear h
 have H' := zA H
 clear H
 go_enter Try.func14, Try.ntmps14
 go_wp2
 go_loopg [1, 5] k (fun kq v1 v5 w' => ∃ (x0_1 : List (S72)) (x1_1 : Int) (x5_1 : Int), v1 = .int .i64 x1_1 ∧ v5 = .int .i64 x5_1 ∧ Aside0 (za8 kq x0_1 x1_1 x5_1 = some (r1, r2)) ∧ Aside0 (kq ≤ k) ∧ Aside0 (Kd.R k72 72 w' w0.heap.size (fun k_ => (P0_ k_ ∨ w.heap.size ≤ k_)) u9000_ x0_1) ∧ Aside0 (Kept w w' (fun k_ => P0_ k_)) ∧ Aside0 (Below w0.heap.size w0 w'))
 case atStart => exact ⟨(l0), (a1), (0), (by first | rfl | (simp; done) | (simp [*]; done)), (by first | rfl | (simp; done) | (simp [*]; done)), H', ⟨zlr _⟩, ⟨by (with_reducible repeat (first | apply zRa | apply zRn | apply zRd)); exact HO0.out⟩, ⟨by repeat (first | (with_reducible first | exact HK.out | apply Kept.alloc | apply Kept.drewN | apply Kept.drew) | exact HK.out)⟩, ⟨by repeat (first | (with_reducible first | exact HB.out | apply zba | apply zbn | apply zbd) | exact HB.out)⟩⟩
 clear H'
 try clear c1
 try clear p2
 obtain ⟨x0_1, x1_1, x5_1, rfl, rfl, HA, HK1, HO_0, HK, HB⟩ := hrel
 cases gk with
 | zero => exact absurd HA.out (by simp [za8])
 | succ k1 =>
 have H := HA.out
 clear HA
 simp only [za8] at H
 by_cases c3 : x5_1 < (x0_1.length : Int)
 rotate_left
 · rw [if_neg c3] at H
   have c3b0 : decide (x5_1 < (x0_1.length : Int)) = false := zdf c3
   clear c3
   simp only [Option.some.injEq, Prod.mk.injEq] at H
   obtain ⟨rfl, rfl⟩ := H
   obtain ⟨Ao20, co20, eo20⟩ := Kd.R_slice HO_0.out
   subst eo20
   go_wp2
   go_ret
   exact ⟨by first | rfl | (simp [zad, zae] <;> rfl) | (simp [*, zad, zae] <;> rfl), by (with_reducible repeat (first | apply zRa | apply zRn | apply zRd)); exact HO_0.out, by repeat (first | (with_reducible first | exact HB.out | apply zba | apply zbn | apply zbd) | exact HB.out), by repeat (first | (with_reducible first | exact HK.out | apply Kept.alloc | apply Kept.drewN | apply Kept.drew) | exact HK.out)⟩
 rw [if_pos c3] at H
 have c3b0 : decide (x5_1 < (x0_1.length : Int)) = true := zdt c3
 clear c3
 replace H := zob H
 obtain ⟨t101, A40, H⟩ := H
 replace H : (if 0 ≤ x5_1 then ((some (x0_1.set (x5_1 : Int).toNat (⟨t101, (zac x0_1 x5_1).f1, (zac x0_1 x5_1).f2, (zac x0_1 x5_1).f3⟩ : S72) : List (S72))).bind fun y102 => ((some (y102.set (x5_1 : Int).toNat (⟨(zac y102 x5_1).f0, wrap64 (x1_1 + 1), (zac y102 x5_1).f2, (zac y102 x5_1).f3⟩ : S72) : List (S72))).bind fun y103 => ((some (y103.set (x5_1 : Int).toNat (⟨(zac y103 x5_1).f0, (zac y103 x5_1).f1, wrap64 ((wrap64 (x1_1 + 1)) + 1), (zac y103 x5_1).f3⟩ : S72) : List (S72))).bind fun y104 => (za8 k1 (y104.set (x5_1 : Int).toNat (⟨(zac y104 x5_1).f0, (zac y104 x5_1).f1, (zac y104 x5_1).f2, wrap64 ((wrap64 ((wrap64 (x1_1 + 1)) + 1)) + 1)⟩ : S72)) (wrap64 ((wrap64 ((wrap64 ((wrap64 (x1_1 + 1)) + 1)) + 1)) + 1)) (wrap64 (x5_1 + 1)))))) else (none)) = some (r1, r2) := H
 have A4 := zA A40
 clear A40
 by_cases c5 : 0 ≤ x5_1
 rotate_left
 · rw [if_neg c5] at H
   exact absurd H (by simp)
 rw [if_pos c5] at H
 have c5b0 : decide (0 ≤ x5_1) = true := zdt c5
 clear c5
 obtain ⟨y102, hy102⟩ : ∃ y_ : List (S72), y_ = (x0_1.set (x5_1 : Int).toNat (⟨t101, (zac x0_1 x5_1).f1, (zac x0_1 x5_1).f2, (zac x0_1 x5_1).f3⟩ : S72)) := ⟨_, rfl⟩
 replace H : ((some (y102.set (x5_1 : Int).toNat (⟨(zac y102 x5_1).f0, wrap64 (x1_1 + 1), (zac y102 x5_1).f2, (zac y102 x5_1).f3⟩ : S72) : List (S72))).bind fun y103 => ((some (y103.set (x5_1 : Int).toNat (⟨(zac y103 x5_1).f0, (zac y103 x5_1).f1, wrap64 ((wrap64 (x1_1 + 1)) + 1), (zac y103 x5_1).f3⟩ : S72) : List (S72))).bind fun y104 => (za8 k1 (y104.set (x5_1 : Int).toNat (⟨(zac y104 x5_1).f0, (zac y104 x5_1).f1, (zac y104 x5_1).f2, wrap64 ((wrap64 ((wrap64 (x1_1 + 1)) + 1)) + 1)⟩ : S72)) (wrap64 ((wrap64 ((wrap64 ((wrap64 (x1_1 + 1)) + 1)) + 1)) + 1)) (wrap64 (x5_1 + 1))))) = some (r1, r2) := by first | (rw [hy102]; with_reducible exact H) | (have H2_ := (Option.bind_some _ _).symm.trans H; rw [hy102]; with_reducible exact H2_) | (have H2_ := (Option.bind_some _ _).symm.trans H; with_reducible exact H2_) | with_reducible exact H | (rw [hy102]; exact H) | exact H
 have Ny102 := zA hy102
 clear hy102
 obtain ⟨y103, hy103⟩ : ∃ y_ : List (S72), y_ = (y102.set (x5_1 : Int).toNat (⟨(zac y102 x5_1).f0, wrap64 (x1_1 + 1), (zac y102 x5_1).f2, (zac y102 x5_1).f3⟩ : S72)) := ⟨_, rfl⟩
 replace H : ((some (y103.set (x5_1 : Int).toNat (⟨(zac y103 x5_1).f0, (zac y103 x5_1).f1, wrap64 ((wrap64 (x1_1 + 1)) + 1), (zac y103 x5_1).f3⟩ : S72) : List (S72))).bind fun y104 => (za8 k1 (y104.set (x5_1 : Int).toNat (⟨(zac y104 x5_1).f0, (zac y104 x5_1).f1, (zac y104 x5_1).f2, wrap64 ((wrap64 ((wrap64 (x1_1 + 1)) + 1)) + 1)⟩ : S72)) (wrap64 ((wrap64 ((wrap64 ((wrap64 (x1_1 + 1)) + 1)) + 1)) + 1)) (wrap64 (x5_1 + 1)))) = some (r1, r2) := by first | (rw [hy103]; with_reducible exact H) | (have H2_ := (Option.bind_some _ _).symm.trans H; rw [hy103]; with_reducible exact H2_) | (have H2_ := (Option.bind_some _ _).symm.trans H; with_reducible exact H2_) | with_reducible exact H | (rw [hy103]; exact H) | exact H
 have Ny103 := zA hy103
 clear hy103
 obtain ⟨y104, hy104⟩ : ∃ y_ : List (S72), y_ = (y103.set (x5_1 : Int).toNat (⟨(zac y103 x5_1).f0, (zac y103 x5_1).f1, wrap64 ((wrap64 (x1_1 + 1)) + 1), (zac y103 x5_1).f3⟩ : S72)) := ⟨_, rfl⟩
 replace H : (za8 k1 (y104.set (x5_1 : Int).toNat (⟨(zac y104 x5_1).f0, (zac y104 x5_1).f1, (zac y104 x5_1).f2, wrap64 ((wrap64 ((wrap64 (x1_1 + 1)) + 1)) + 1)⟩ : S72)) (wrap64 ((wrap64 ((wrap64 ((wrap64 (x1_1 + 1)) + 1)) + 1)) + 1)) (wrap64 (x5_1 + 1))) = some (r1, r2) := by first | (rw [hy104]; with_reducible exact H) | (have H2_ := (Option.bind_some _ _).symm.trans H; rw [hy104]; with_reducible exact H2_) | (have H2_ := (Option.bind_some _ _).symm.trans H; with_reducible exact H2_) | with_reducible exact H | (rw [hy104]; exact H) | exact H
 have Ny104 := zA hy104
 clear hy104
 obtain ⟨y105, hy105⟩ : ∃ y_ : List (S72), y_ = (y104.set (x5_1 : Int).toNat (⟨(zac y104 x5_1).f0, (zac y104 x5_1).f1, (zac y104 x5_1).f2, wrap64 ((wrap64 ((wrap64 (x1_1 + 1)) + 1)) + 1)⟩ : S72)) := ⟨_, rfl⟩
 replace H : (za8 k1 y105 (wrap64 ((wrap64 ((wrap64 ((wrap64 (x1_1 + 1)) + 1)) + 1)) + 1)) (wrap64 (x5_1 + 1))) = some (r1, r2) := by first | (rw [hy105]; with_reducible exact H) | (have H2_ := (Option.bind_some _ _).symm.trans H; rw [hy105]; with_reducible exact H2_) | (have H2_ := (Option.bind_some _ _).symm.trans H; with_reducible exact H2_) | with_reducible exact H | (rw [hy105]; exact H) | exact H
 have Ny105 := zA hy105
 clear hy105
 have H' := zA H
 clear H
 obtain ⟨Ao10, co10, eo10⟩ := Kd.R_slice HO_0.out
 subst eo10
 go_wp2_with (first | ((with_reducible refine zah (f := 49) rfl ?_); refine za3 (some 15) rfl rfl Try.func49 (by kernel_rfl) rfl #[.int .i64 x1_1] rfl (by (try simp only [List.map_toArray, List.map_cons, List.map_nil]); first | done | rfl | (simp only [List.length_drop, List.length_take]; rfl)) ?_; (with_reducible refine (zfz k1 x1_1 t101 _ A4.out).mono ?_); rintro e w11 ⟨rfl, hb⟩; refine ⟨_, rfl, ?_⟩; have n0_ := zA (zRb (by (with_reducible repeat (first | apply zRa | apply zRn | apply zRd)); exact HO_0.out) hb); have n1_ := zA (Kept.below (S := (fun k_ => P0_ k_)) (by repeat (first | (with_reducible first | exact HK.out | apply Kept.alloc | apply Kept.drewN | apply Kept.drew) | exact HK.out)) hb); have n2_ := zA (zag (by repeat (first | (with_reducible first | exact HB.out | apply zba | apply zbn | apply zbd) | exact HB.out)) hb); clear HO_0; clear HK; clear HB; have HO_0 := n0_; have HK := n1_; have HB := n2_; clear n0_ n1_ n2_; (try clear hb); (try clear hk); have p6 : 0 ≤ (x5_1 : Int) := zde (by assumption); have q6 : (x5_1 : Int) < ((x0_1.length : Int) : Int) := zde (by assumption); obtain ⟨go6, co6, eo6, gb6, gl6, cl6, HG6⟩ := Kd.R_form HO_0.out (by omega); (first | cases eo6 | (injection eo6 with ea_ en_ ec_; (first | subst ea_ | (injection ea_ with ea_; subst ea_)); subst ec_; clear en_)); have GB6 := zA gb6; have GG6 := zA HG6; clear gb6 gl6 HG6; have HMgo6 := zA (show (P0_ go6 ∨ w.heap.size ≤ go6) from (HO_0.out.1 _ rfl)); obtain ⟨ce6, hcl6, hM6, hcc6, hfr6⟩ := Kd.R_elem HO_0.out z72 (x5_1 : Int) p6 q6; obtain rfl := zf3 hM6; have hx6_0 : w11.cell? ⟨go6, (x5_1 : Int).toNat * 4, none⟩ = some (.string ((zac x0_1 x5_1).f0)) := hcc6 0 _ rfl; have hx6_1 : w11.cell? ⟨go6, (x5_1 : Int).toNat * 4 + 1, none⟩ = some (.int .i64 ((zac x0_1 x5_1).f1)) := hcc6 1 _ rfl; have hx6_2 : w11.cell? ⟨go6, (x5_1 : Int).toNat * 4 + 2, none⟩ = some (.int .i64 ((zac x0_1 x5_1).f2)) := hcc6 2 _ rfl; have hx6_3 : w11.cell? ⟨go6, (x5_1 : Int).toNat * 4 + 3, none⟩ = some (.int .i64 ((zac x0_1 x5_1).f3)) := hcc6 3 _ rfl; have hf6_0 : w11.frozen? ⟨go6, (x5_1 : Int).toNat * 4, none⟩ = false := hfr6 0; have hf6_1 : w11.frozen? ⟨go6, (x5_1 : Int).toNat * 4 + 1, none⟩ = false := hfr6 1; have hf6_2 : w11.frozen? ⟨go6, (x5_1 : Int).toNat * 4 + 2, none⟩ = false := hfr6 2; have hf6_3 : w11.frozen? ⟨go6, (x5_1 : Int).toNat * 4 + 3, none⟩ = false := hfr6 3; clear hcl6 hcc6 hfr6 hM6; replace p6 := eq_true p6; replace q6 := eq_true q6; have HX12 := zA (show Kd.R k72 72 w11 w0.heap.size (fun k_ => (P0_ k_ ∨ w.heap.size ≤ k_)) (.slice (some ⟨go6, 0, none⟩) x0_1.length co10) x0_1 from (by (with_reducible repeat (first | apply zRa | apply zRn | apply zRd)); exact HO_0.out)); obtain ⟨ce12, hcl12, hM12, hcc12, hfr12⟩ := Kd.R_elem HX12.out z72 (x5_1 : Int) (zde (by assumption)) (by have h_ : (x5_1 : Int) < ((x0_1.length : Int) : Int) := zde (by assumption); first | exact h_ | (have e_ := (zRr HO_0.out).1; omega) | simpa using h_); obtain rfl := zf3 hM12; have HP12 := Kd.R_seg HX12.out (x5_1 : Int) (zde (by assumption)) (by have h_ : (x5_1 : Int) < ((x0_1.length : Int) : Int) := zde (by assumption); first | exact h_ | (have e_ := (zRr HO_0.out).1; omega) | simpa using h_) (seg := [.string t101]) (j := 0) hcl12 hcc12 (show 1 ≤ 4 from by decide) (x' := (⟨t101, (zac x0_1 x5_1).f1, (zac x0_1 x5_1).f2, (zac x0_1 x5_1).f3⟩ : S72)) (zfr _ _ _ (⟨t101, (zac x0_1 x5_1).f1, (zac x0_1 x5_1).f2, (zac x0_1 x5_1).f3⟩ : S72) ) (fun _ hk => hk); have hx12_0 := hcc12 0 _ rfl; (try simp only [show (k72).sz = 4 from rfl, Nat.mul_one, Nat.add_zero] at hx12_0); have hf12_0 := hfr12 0; (try simp only [show (k72).sz = 4 from rfl, Nat.mul_one, Nat.add_zero] at hf12_0); clear hcl12 hcc12 hfr12 hM12) | ((with_reducible refine zbk (t := 9) (p := 17) rfl ?_); refine zbj (t := 9) (p := 17) (v := ?vo_w13) (w1 := (w11.setCell ⟨go6, (x5_1 : Int).toNat * 4, none⟩ (.string t101))) ?hg ?ho ?hn ?hr ?_; (case ho => rfl); (case hg => rfl); (case hn => rfl); (case hr => go_simp <;> rfl); intro w13 hw; have hg : w11.grownBy w13 (some go6) := (by rw [hw]; exact HP12.2); have hp_ : Kd.R k72 72 w13 w0.heap.size (fun k_ => (P0_ k_ ∨ w.heap.size ≤ k_)) (.slice (some ⟨go6, 0, none⟩) x0_1.length co10) y102 := (by rw [hw, Ny102.out]; exact HP12.1); clear HP12; have n0_ := zA (hp_); have n1_ := zA ((by rw [hw]; exact zab (HB.out) GB6.out : Below w0.heap.size w0 w13)); have n2_ := zA (zeb (S := (fun k_ => P0_ k_)) hg (by repeat (first | (with_reducible first | exact HK.out | apply Kept.alloc | apply Kept.drewN | apply Kept.drew) | exact HK.out)) (fun k_ e_ => (HO_0.out.1 k_ e_))); clear HO_0 HB; clear HK; have HO_0 := n0_; have HB := n1_; have HK := n2_; clear n0_ n1_ n2_; clear hg hw hp_; have p7 : 0 ≤ (x5_1 : Int) := zde (by assumption); have q7 : (x5_1 : Int) < ((x0_1.length : Int) : Int) := zde (by assumption); obtain ⟨ce7, hcl7, hM7, hcc7, hfr7⟩ := Kd.R_elem HO_0.out z72 (x5_1 : Int) p7 q7; obtain rfl := zf3 hM7; have hx7_0 : w13.cell? ⟨go6, (x5_1 : Int).toNat * 4, none⟩ = some (.string ((zac y102 x5_1).f0)) := hcc7 0 _ rfl; have hx7_1 : w13.cell? ⟨go6, (x5_1 : Int).toNat * 4 + 1, none⟩ = some (.int .i64 ((zac y102 x5_1).f1)) := hcc7 1 _ rfl; have hx7_2 : w13.cell? ⟨go6, (x5_1 : Int).toNat * 4 + 2, none⟩ = some (.int .i64 ((zac y102 x5_1).f2)) := hcc7 2 _ rfl; have hx7_3 : w13.cell? ⟨go6, (x5_1 : Int).toNat * 4 + 3, none⟩ = some (.int .i64 ((zac y102 x5_1).f3)) := hcc7 3 _ rfl; have hf7_0 : w13.frozen? ⟨go6, (x5_1 : Int).toNat * 4, none⟩ = false := hfr7 0; have hf7_1 : w13.frozen? ⟨go6, (x5_1 : Int).toNat * 4 + 1, none⟩ = false := hfr7 1; have hf7_2 : w13.frozen? ⟨go6, (x5_1 : Int).toNat * 4 + 2, none⟩ = false := hfr7 2; have hf7_3 : w13.frozen? ⟨go6, (x5_1 : Int).toNat * 4 + 3, none⟩ = false := hfr7 3; clear hcl7 hcc7 hfr7 hM7; replace p7 := eq_true p7; replace q7 := eq_true q7; have HX14 := zA (show Kd.R k72 72 w13 w0.heap.size (fun k_ => (P0_ k_ ∨ w.heap.size ≤ k_)) (.slice (some ⟨go6, 0, none⟩) x0_1.length co10) y102 from (by (with_reducible repeat (first | apply zRa | apply zRn | apply zRd)); exact HO_0.out)); obtain ⟨ce14, hcl14, hM14, hcc14, hfr14⟩ := Kd.R_elem HX14.out z72 (x5_1 : Int) (zde (by assumption)) (by have h_ : (x5_1 : Int) < ((x0_1.length : Int) : Int) := zde (by assumption); first | exact h_ | (have e_ := (zRr HO_0.out).1; omega) | simpa using h_); obtain rfl := zf3 hM14; have HP14 := Kd.R_seg HX14.out (x5_1 : Int) (zde (by assumption)) (by have h_ : (x5_1 : Int) < ((x0_1.length : Int) : Int) := zde (by assumption); first | exact h_ | (have e_ := (zRr HO_0.out).1; omega) | simpa using h_) (seg := [.int .i64 (wrap64 (x1_1 + 1))]) (j := 1) hcl14 hcc14 (show 2 ≤ 4 from by decide) (x' := (⟨(zac y102 x5_1).f0, wrap64 (x1_1 + 1), (zac y102 x5_1).f2, (zac y102 x5_1).f3⟩ : S72)) (zfr _ _ _ (⟨(zac y102 x5_1).f0, wrap64 (x1_1 + 1), (zac y102 x5_1).f2, (zac y102 x5_1).f3⟩ : S72) ) (fun _ hk => hk); have hx14_1 := hcc14 1 _ rfl; (try simp only [show (k72).sz = 4 from rfl, Nat.mul_one, Nat.add_zero] at hx14_1); have hf14_1 := hfr14 1; (try simp only [show (k72).sz = 4 from rfl, Nat.mul_one, Nat.add_zero] at hf14_1); clear hcl14 hcc14 hfr14 hM14) | ((with_reducible refine zbk (t := 3) (p := 24) rfl ?_); refine zbj (t := 3) (p := 24) (v := ?vo_w15) (w1 := (w13.setCell ⟨go6, (x5_1 : Int).toNat * 4 + 1, none⟩ (.int .i64 (wrap64 (x1_1 + 1))))) ?hg ?ho ?hn ?hr ?_; (case ho => rfl); (case hg => rfl); (case hn => rfl); (case hr => go_simp <;> rfl); intro w15 hw; have hg : w13.grownBy w15 (some go6) := (by rw [hw]; exact HP14.2); have hp_ : Kd.R k72 72 w15 w0.heap.size (fun k_ => (P0_ k_ ∨ w.heap.size ≤ k_)) (.slice (some ⟨go6, 0, none⟩) x0_1.length co10) y103 := (by rw [hw, Ny103.out]; exact HP14.1); clear HP14; have n0_ := zA (hp_); have n1_ := zA ((by rw [hw]; exact zab (HB.out) GB6.out : Below w0.heap.size w0 w15)); have n2_ := zA (zeb (S := (fun k_ => P0_ k_)) hg (by repeat (first | (with_reducible first | exact HK.out | apply Kept.alloc | apply Kept.drewN | apply Kept.drew) | exact HK.out)) (fun k_ e_ => (HO_0.out.1 k_ e_))); clear HO_0 HB; clear HK; have HO_0 := n0_; have HB := n1_; have HK := n2_; clear n0_ n1_ n2_; clear hg hw hp_; have p8 : 0 ≤ (x5_1 : Int) := zde (by assumption); have q8 : (x5_1 : Int) < ((x0_1.length : Int) : Int) := zde (by assumption); obtain ⟨ce8, hcl8, hM8, hcc8, hfr8⟩ := Kd.R_elem HO_0.out z72 (x5_1 : Int) p8 q8; obtain rfl := zf3 hM8; have hx8_0 : w15.cell? ⟨go6, (x5_1 : Int).toNat * 4, none⟩ = some (.string ((zac y103 x5_1).f0)) := hcc8 0 _ rfl; have hx8_1 : w15.cell? ⟨go6, (x5_1 : Int).toNat * 4 + 1, none⟩ = some (.int .i64 ((zac y103 x5_1).f1)) := hcc8 1 _ rfl; have hx8_2 : w15.cell? ⟨go6, (x5_1 : Int).toNat * 4 + 2, none⟩ = some (.int .i64 ((zac y103 x5_1).f2)) := hcc8 2 _ rfl; have hx8_3 : w15.cell? ⟨go6, (x5_1 : Int).toNat * 4 + 3, none⟩ = some (.int .i64 ((zac y103 x5_1).f3)) := hcc8 3 _ rfl; have hf8_0 : w15.frozen? ⟨go6, (x5_1 : Int).toNat * 4, none⟩ = false := hfr8 0; have hf8_1 : w15.frozen? ⟨go6, (x5_1 : Int).toNat * 4 + 1, none⟩ = false := hfr8 1; have hf8_2 : w15.frozen? ⟨go6, (x5_1 : Int).toNat * 4 + 2, none⟩ = false := hfr8 2; have hf8_3 : w15.frozen? ⟨go6, (x5_1 : Int).toNat * 4 + 3, none⟩ = false := hfr8 3; clear hcl8 hcc8 hfr8 hM8; replace p8 := eq_true p8; replace q8 := eq_true q8; have HX16 := zA (show Kd.R k72 72 w15 w0.heap.size (fun k_ => (P0_ k_ ∨ w.heap.size ≤ k_)) (.slice (some ⟨go6, 0, none⟩) x0_1.length co10) y103 from (by (with_reducible repeat (first | apply zRa | apply zRn | apply zRd)); exact HO_0.out)); obtain ⟨ce16, hcl16, hM16, hcc16, hfr16⟩ := Kd.R_elem HX16.out z72 (x5_1 : Int) (zde (by assumption)) (by have h_ : (x5_1 : Int) < ((x0_1.length : Int) : Int) := zde (by assumption); first | exact h_ | (have e_ := (zRr HO_0.out).1; omega) | simpa using h_); obtain rfl := zf3 hM16; have HP16 := Kd.R_seg HX16.out (x5_1 : Int) (zde (by assumption)) (by have h_ : (x5_1 : Int) < ((x0_1.length : Int) : Int) := zde (by assumption); first | exact h_ | (have e_ := (zRr HO_0.out).1; omega) | simpa using h_) (seg := [.int .i64 (wrap64 ((wrap64 (x1_1 + 1)) + 1))]) (j := 2) hcl16 hcc16 (show 3 ≤ 4 from by decide) (x' := (⟨(zac y103 x5_1).f0, (zac y103 x5_1).f1, wrap64 ((wrap64 (x1_1 + 1)) + 1), (zac y103 x5_1).f3⟩ : S72)) (zfr _ _ _ (⟨(zac y103 x5_1).f0, (zac y103 x5_1).f1, wrap64 ((wrap64 (x1_1 + 1)) + 1), (zac y103 x5_1).f3⟩ : S72) ) (fun _ hk => hk); have hx16_2 := hcc16 2 _ rfl; (try simp only [show (k72).sz = 4 from rfl, Nat.mul_one, Nat.add_zero] at hx16_2); have hf16_2 := hfr16 2; (try simp only [show (k72).sz = 4 from rfl, Nat.mul_one, Nat.add_zero] at hf16_2); clear hcl16 hcc16 hfr16 hM16) | ((with_reducible refine zbk (t := 3) (p := 31) rfl ?_); refine zbj (t := 3) (p := 31) (v := ?vo_w17) (w1 := (w15.setCell ⟨go6, (x5_1 : Int).toNat * 4 + 2, none⟩ (.int .i64 (wrap64 ((wrap64 (x1_1 + 1)) + 1))))) ?hg ?ho ?hn ?hr ?_; (case ho => rfl); (case hg => rfl); (case hn => rfl); (case hr => go_simp <;> rfl); intro w17 hw; have hg : w15.grownBy w17 (some go6) := (by rw [hw]; exact HP16.2); have hp_ : Kd.R k72 72 w17 w0.heap.size (fun k_ => (P0_ k_ ∨ w.heap.size ≤ k_)) (.slice (some ⟨go6, 0, none⟩) x0_1.length co10) y104 := (by rw [hw, Ny104.out]; exact HP16.1); clear HP16; have n0_ := zA (hp_); have n1_ := zA ((by rw [hw]; exact zab (HB.out) GB6.out : Below w0.heap.size w0 w17)); have n2_ := zA (zeb (S := (fun k_ => P0_ k_)) hg (by repeat (first | (with_reducible first | exact HK.out | apply Kept.alloc | apply Kept.drewN | apply Kept.drew) | exact HK.out)) (fun k_ e_ => (HO_0.out.1 k_ e_))); clear HO_0 HB; clear HK; have HO_0 := n0_; have HB := n1_; have HK := n2_; clear n0_ n1_ n2_; clear hg hw hp_; have p9 : 0 ≤ (x5_1 : Int) := zde (by assumption); have q9 : (x5_1 : Int) < ((x0_1.length : Int) : Int) := zde (by assumption); obtain ⟨ce9, hcl9, hM9, hcc9, hfr9⟩ := Kd.R_elem HO_0.out z72 (x5_1 : Int) p9 q9; obtain rfl := zf3 hM9; have hx9_0 : w17.cell? ⟨go6, (x5_1 : Int).toNat * 4, none⟩ = some (.string ((zac y104 x5_1).f0)) := hcc9 0 _ rfl; have hx9_1 : w17.cell? ⟨go6, (x5_1 : Int).toNat * 4 + 1, none⟩ = some (.int .i64 ((zac y104 x5_1).f1)) := hcc9 1 _ rfl; have hx9_2 : w17.cell? ⟨go6, (x5_1 : Int).toNat * 4 + 2, none⟩ = some (.int .i64 ((zac y104 x5_1).f2)) := hcc9 2 _ rfl; have hx9_3 : w17.cell? ⟨go6, (x5_1 : Int).toNat * 4 + 3, none⟩ = some (.int .i64 ((zac y104 x5_1).f3)) := hcc9 3 _ rfl; have hf9_0 : w17.frozen? ⟨go6, (x5_1 : Int).toNat * 4, none⟩ = false := hfr9 0; have hf9_1 : w17.frozen? ⟨go6, (x5_1 : Int).toNat * 4 + 1, none⟩ = false := hfr9 1; have hf9_2 : w17.frozen? ⟨go6, (x5_1 : Int).toNat * 4 + 2, none⟩ = false := hfr9 2; have hf9_3 : w17.frozen? ⟨go6, (x5_1 : Int).toNat * 4 + 3, none⟩ = false := hfr9 3; clear hcl9 hcc9 hfr9 hM9; replace p9 := eq_true p9; replace q9 := eq_true q9; have HX18 := zA (show Kd.R k72 72 w17 w0.heap.size (fun k_ => (P0_ k_ ∨ w.heap.size ≤ k_)) (.slice (some ⟨go6, 0, none⟩) x0_1.length co10) y104 from (by (with_reducible repeat (first | apply zRa | apply zRn | apply zRd)); exact HO_0.out)); obtain ⟨ce18, hcl18, hM18, hcc18, hfr18⟩ := Kd.R_elem HX18.out z72 (x5_1 : Int) (zde (by assumption)) (by have h_ : (x5_1 : Int) < ((x0_1.length : Int) : Int) := zde (by assumption); first | exact h_ | (have e_ := (zRr HO_0.out).1; omega) | simpa using h_); obtain rfl := zf3 hM18; have HP18 := Kd.R_seg HX18.out (x5_1 : Int) (zde (by assumption)) (by have h_ : (x5_1 : Int) < ((x0_1.length : Int) : Int) := zde (by assumption); first | exact h_ | (have e_ := (zRr HO_0.out).1; omega) | simpa using h_) (seg := [.int .i64 (wrap64 ((wrap64 ((wrap64 (x1_1 + 1)) + 1)) + 1))]) (j := 3) hcl18 hcc18 (show 4 ≤ 4 from by decide) (x' := (⟨(zac y104 x5_1).f0, (zac y104 x5_1).f1, (zac y104 x5_1).f2, wrap64 ((wrap64 ((wrap64 (x1_1 + 1)) + 1)) + 1)⟩ : S72)) (zfr _ _ _ (⟨(zac y104 x5_1).f0, (zac y104 x5_1).f1, (zac y104 x5_1).f2, wrap64 ((wrap64 ((wrap64 (x1_1 + 1)) + 1)) + 1)⟩ : S72) ) (fun _ hk => hk); have hx18_3 := hcc18 3 _ rfl; (try simp only [show (k72).sz = 4 from rfl, Nat.mul_one, Nat.add_zero] at hx18_3); have hf18_3 := hfr18 3; (try simp only [show (k72).sz = 4 from rfl, Nat.mul_one, Nat.add_zero] at hf18_3); clear hcl18 hcc18 hfr18 hM18) | ((with_reducible refine zbk (t := 3) (p := 38) rfl ?_); refine zbj (t := 3) (p := 38) (v := ?vo_w19) (w1 := (w17.setCell ⟨go6, (x5_1 : Int).toNat * 4 + 3, none⟩ (.int .i64 (wrap64 ((wrap64 ((wrap64 (x1_1 + 1)) + 1)) + 1))))) ?hg ?ho ?hn ?hr ?_; (case ho => rfl); (case hg => rfl); (case hn => rfl); (case hr => go_simp <;> rfl); intro w19 hw; have hg : w17.grownBy w19 (some go6) := (by rw [hw]; exact HP18.2); have hp_ : Kd.R k72 72 w19 w0.heap.size (fun k_ => (P0_ k_ ∨ w.heap.size ≤ k_)) (.slice (some ⟨go6, 0, none⟩) x0_1.length co10) y105 := (by rw [hw, Ny105.out]; exact HP18.1); clear HP18; have n0_ := zA (hp_); have n1_ := zA ((by rw [hw]; exact zab (HB.out) GB6.out : Below w0.heap.size w0 w19)); have n2_ := zA (zeb (S := (fun k_ => P0_ k_)) hg (by repeat (first | (with_reducible first | exact HK.out | apply Kept.alloc | apply Kept.drewN | apply Kept.drew) | exact HK.out)) (fun k_ e_ => (HO_0.out.1 k_ e_))); clear HO_0 HB; clear HK; have HO_0 := n0_; have HB := n1_; have HK := n2_; clear n0_ n1_ n2_; clear hg hw hp_))
 go_roundg k1
 case measure => have := HK1.out; omega
 case rel => exact ⟨(y105), (wrap64 ((wrap64 ((wrap64 ((wrap64 (x1_1 + 1)) + 1)) + 1)) + 1)), (wrap64 (x5_1 + 1)), (by first | rfl | (simp; done) | (simp [*]; done)), (by first | rfl | (simp; done) | (simp [*]; done)), H', ⟨by have := HK1.out; omega⟩, ⟨by (with_reducible repeat (first | apply zRa | apply zRn | apply zRd)); exact HO_0.out⟩, ⟨by repeat (first | (with_reducible first | exact HK.out | apply Kept.alloc | apply Kept.drewN | apply Kept.drew) | exact HK.out)⟩, ⟨by repeat (first | (with_reducible first | exact HB.out | apply zba | apply zbn | apply zbd) | exact HB.out)⟩⟩
def zgo (a0_0 : ByteArray) (a0_1 : Int) (a0_2 : Int) (a0_3 : Int) (a0_4 : Int) (a1 : Int) : Option (Int) := if (wrap64 (a1 - (a0_0.size : Int))) < 0 then (some (-1)) else (some (wrap64 (a1 - (a0_0.size : Int))))
set_option maxHeartbeats 8000000 in
set_option maxRecDepth 100000 in
theorem zhr (a0_0 : ByteArray) (a0_1 : Int) (a0_2 : Int) (a0_3 : Int) (a0_4 : Int) (a1 : Int) (r : Int) (w : World) (h : zgo a0_0 a0_1 a0_2 a0_3 a0_4 a1 = some r) :
   Calls Try.prog 67 #[.agg #[.string a0_0, .int .i64 a0_1, .int .i64 a0_2, .int .i64 a0_3, .int .i64 a0_4], .int .i64 a1] w fun e w' => e = .returned (.int .i64 r) ∧ Below w.heap.size w w' := by
 have hu93 := Try.underlying93
 have HB := zA (Below.refl w.heap.size w)
 have H : (if (wrap64 (a1 - (a0_0.size : Int))) < 0 then (some (-1)) else (some (wrap64 (a1 - (a0_0.size : Int))))) = some r := h
 clear h
 by_cases c3 : (wrap64 (a1 - (a0_0.size : Int))) < 0
 · rw [if_pos c3] at H
   have c3b0 : decide ((wrap64 (a1 - (a0_0.size : Int))) < 0) = true := zdt c3
   clear c3
   obtain rfl := zsi H
   go_enter Try.func67, Try.ntmps67
   go_wp2_with (first | ((with_reducible refine zar (N := 2) rfl ?_); refine zat ?hg (N := 2) ?hd (cs := #[.string a0_0, .int .i64 a0_1, .int .i64 a0_2, .int .i64 a0_3, .int .i64 a0_4]) (t := 93) ?hr ?_; (case hd => rfl); (case hg => rfl); (case hr => go_simp <;> rfl); intro gb101 hg w4 hbox hb; have zs := zpair (by repeat (first | (with_reducible first | exact HB.out | apply zba | apply zbn | apply zbd) | exact HB.out)) hb; have n0_ := zA (zs.1); have n1_ := zA (hbox); have n2_ := zA ((by rw [hg]; exact zs.2 : w.heap.size ≤ gb101)); have n3_ := n2_; clear HB; have HB := n0_; have BK101 := n1_; have GW101 := n2_; have GE101 := n3_; clear n0_ n1_ n2_ n3_; clear zs hb hbox hg; obtain ⟨hcz5_0, hcz5_1, hcz5_2, hcz5_3, hcz5_4⟩ := zc5 w4 (.string a0_0) (.int .i64 a0_1) (.int .i64 a0_2) (.int .i64 a0_3) (.int .i64 a0_4) BK101.out; obtain ⟨hfz5_0, hfz5_1, hfz5_2, hfz5_3, hfz5_4⟩ := zf5 BK101.out))
   go_ret
   exact ⟨by first | rfl | (simp [zad, zae] <;> rfl) | (simp [*, zad, zae] <;> rfl), by repeat (first | (with_reducible first | exact HB.out | apply zba | apply zbn | apply zbd | refine zab ?_ GE101.out) | exact HB.out)⟩
 · rw [if_neg c3] at H
   have c3b0 : decide ((wrap64 (a1 - (a0_0.size : Int))) < 0) = false := zdf c3
   clear c3
   obtain rfl := zsi H
   go_enter Try.func67, Try.ntmps67
   go_wp2_with (first | ((with_reducible refine zar (N := 2) rfl ?_); refine zat ?hg (N := 2) ?hd (cs := #[.string a0_0, .int .i64 a0_1, .int .i64 a0_2, .int .i64 a0_3, .int .i64 a0_4]) (t := 93) ?hr ?_; (case hd => rfl); (case hg => rfl); (case hr => go_simp <;> rfl); intro gb101 hg w6 hbox hb; have zs := zpair (by repeat (first | (with_reducible first | exact HB.out | apply zba | apply zbn | apply zbd) | exact HB.out)) hb; have n0_ := zA (zs.1); have n1_ := zA (hbox); have n2_ := zA ((by rw [hg]; exact zs.2 : w.heap.size ≤ gb101)); have n3_ := n2_; clear HB; have HB := n0_; have BK101 := n1_; have GW101 := n2_; have GE101 := n3_; clear n0_ n1_ n2_ n3_; clear zs hb hbox hg; obtain ⟨hcz7_0, hcz7_1, hcz7_2, hcz7_3, hcz7_4⟩ := zc5 w6 (.string a0_0) (.int .i64 a0_1) (.int .i64 a0_2) (.int .i64 a0_3) (.int .i64 a0_4) BK101.out; obtain ⟨hfz7_0, hfz7_1, hfz7_2, hfz7_3, hfz7_4⟩ := zf5 BK101.out))
   go_ret
   exact ⟨by first | rfl | (simp [zad, zae] <;> rfl) | (simp [*, zad, zae] <;> rfl), by repeat (first | (with_reducible first | exact HB.out | apply zba | apply zbn | apply zbd | refine zab ?_ GE101.out) | exact HB.out)⟩
def zbv : Nat → List (S93) → Int → Int → Option (Int)
 | 0, _, _, _ => none
 | k + 1, x0, x1, x5 => if x5 < (x0.length : Int) then (if 0 ≤ x5 then ((zgo ((zc7 x0 x5).f0) ((zc7 x0 x5).f1) ((zc7 x0 x5).f2) ((zc7 x0 x5).f3) ((zc7 x0 x5).f4) x1).bind fun t102 => (if t102 < 0 then (some (-1)) else (zbv k x0 t102 (wrap64 (x5 + 1))))) else (none)) else (some x1)
def zec (k : Nat) (l0 : List (S93)) (a1 : Int) : Option (Int) := if (wrap64 (a1 - (l0.length : Int))) < 0 then (some (-1)) else (zbv k l0 (wrap64 (a1 - (l0.length : Int))) 0)
theorem zg3 : ∀ k, (∀ y0 y1 y2, LeO (zbv k y0 y1 y2) (zbv (k + 1) y0 y1 y2))
 | 0 => fun _ _ _ r h => by simp [zbv] at h
 | k + 1 => by
   have ih0 := zg3 k
   · intro y0 y1 y2
     unfold zbv
     repeat' first
     | (with_reducible first | exact ih0 _ _ _ | exact LeO.refl _ | exact LeO.none _ | refine zai ?_ ?_ | refine LeO.bind ?_ (fun _ => ?_))
     | exact LeO.none _
     | refine zai ?_ ?_
     | refine LeO.bind ?_ (fun _ => ?_)
theorem zpx : ∀ a0 a1 k, LeO (zec k a0 a1) (zec (k + 1) a0 a1) := by
 intro a0 a1 k
 have ih0 := zg3 k
 unfold zec
 repeat' first
     | (with_reducible first | exact ih0 _ _ _ | exact LeO.refl _ | exact LeO.none _ | refine zai ?_ ?_ | refine LeO.bind ?_ (fun _ => ?_))
     | exact LeO.none _
     | refine zai ?_ ?_
     | refine LeO.bind ?_ (fun _ => ?_)
set_option maxHeartbeats 8000000 in
set_option maxRecDepth 100000 in
theorem zhe (k : Nat) (A0 : Option Addr) (c0 : Nat) (l0 : List (S93)) (a1 : Int) (r : Int) (w : World) (hr0 : Kd.C k93 w A0 l0.length l0) (hc0 : l0.length ≤ c0) (h : zec k l0 a1 = some r) :
   Calls Try.prog 25 #[.slice A0 l0.length c0, .int .i64 a1] w fun e w' => e = .returned (.int .i64 r) ∧ Below w.heap.size w w' := by
 have hu93 := Try.underlying93
 have HR0 := zA hr0
 have HC0 := zA hc0
 clear hr0 hc0
 have HB := zA (Below.refl w.heap.size w)
 have H : (if (wrap64 (a1 - (l0.length : Int))) < 0 then (some (-1)) else (zbv k l0 (wrap64 (a1 - (l0.length : Int))) 0)) = some r := h
 clear h
 by_cases c3 : (wrap64 (a1 - (l0.length : Int))) < 0
 · rw [if_pos c3] at H
   have c3b0 : decide ((wrap64 (a1 - (l0.length : Int))) < 0) = true := zdt c3
   clear c3
   obtain rfl := zsi H
   go_enter Try.func25, Try.ntmps25
   go_wp2
   go_ret
   exact ⟨by first | rfl | (simp [zad, zae] <;> rfl) | (simp [*, zad, zae] <;> rfl), by repeat (first | (with_reducible first | exact HB.out | apply zba | apply zbn | apply zbd) | exact HB.out)⟩
 rw [if_neg c3] at H
 have c3b0 : decide ((wrap64 (a1 - (l0.length : Int))) < 0) = false := zdf c3
 clear c3
 have H' := zA H
 clear H
 go_enter Try.func25, Try.ntmps25
 go_wp2
 go_loopg [1, 5] k (fun kq v1 v5 w' => ∃ (x1_1 : Int) (x5_1 : Int), v1 = .int .i64 x1_1 ∧ v5 = .int .i64 x5_1 ∧ Aside0 (zbv kq l0 x1_1 x5_1 = some r) ∧ Aside0 (kq ≤ k) ∧ Aside0 (Below w.heap.size w w'))
 case atStart => exact ⟨(wrap64 (a1 - (l0.length : Int))), (0), (by first | rfl | (simp; done) | (simp [*]; done)), (by first | rfl | (simp; done) | (simp [*]; done)), H', ⟨zlr _⟩, ⟨by repeat (first | (with_reducible first | exact HB.out | apply zba | apply zbn | apply zbd) | exact HB.out)⟩⟩
 clear H'
 try clear c2
 try clear p2
 try clear c3
 try clear c3b0
 obtain ⟨x1_1, x5_1, rfl, rfl, HA, HK1, HB⟩ := hrel
 cases gk with
 | zero => exact absurd HA.out (by simp [zbv])
 | succ k1 =>
 have H := HA.out
 clear HA
 simp only [zbv] at H
 by_cases c4 : x5_1 < (l0.length : Int)
 rotate_left
 · rw [if_neg c4] at H
   have c4b0 : decide (x5_1 < (l0.length : Int)) = false := zdf c4
   clear c4
   obtain rfl := zsi H
   go_wp2
   go_ret
   exact ⟨by first | rfl | (simp [zad, zae] <;> rfl) | (simp [*, zad, zae] <;> rfl), by repeat (first | (with_reducible first | exact HB.out | apply zba | apply zbn | apply zbd) | exact HB.out)⟩
 rw [if_pos c4] at H
 have c4b0 : decide (x5_1 < (l0.length : Int)) = true := zdt c4
 clear c4
 by_cases c5 : 0 ≤ x5_1
 rotate_left
 · rw [if_neg c5] at H
   exact absurd H (by simp)
 rw [if_pos c5] at H
 have c5b0 : decide (0 ≤ x5_1) = true := zdt c5
 clear c5
 replace H := zob H
 obtain ⟨t102, A60, H⟩ := H
 replace H : (if t102 < 0 then (some (-1)) else (zbv k1 l0 t102 (wrap64 (x5_1 + 1)))) = some r := H
 have A6 := zA A60
 clear A60
 by_cases c7 : t102 < 0
 · rw [if_pos c7] at H
   have c7b0 : decide (t102 < 0) = true := zdt c7
   clear c7
   obtain rfl := zsi H
   have p101 : 0 ≤ (x5_1 : Int) := zde (by assumption)
   have q101 : x5_1 < (l0.length : Int) := zde (by assumption)
   obtain ⟨ad101, e101, hx101_0, hx101_1, hx101_2, hx101_3, hx101_4⟩ := zqu HR0.out x5_1 p101 q101
   cases e101
   replace hx101_0 := zkep HB.out hx101_0
   replace hx101_1 := zkep HB.out hx101_1
   replace hx101_2 := zkep HB.out hx101_2
   replace hx101_3 := zkep HB.out hx101_3
   replace hx101_4 := zkep HB.out hx101_4
   replace p101 := eq_true p101
   replace q101 := eq_true q101
   go_wp2_with (first | ((with_reducible refine zah (f := 67) rfl ?_); refine za3 (some 23) rfl rfl Try.func67 (by kernel_rfl) rfl #[.agg #[.string ((zc7 l0 x5_1).f0), .int .i64 ((zc7 l0 x5_1).f1), .int .i64 ((zc7 l0 x5_1).f2), .int .i64 ((zc7 l0 x5_1).f3), .int .i64 ((zc7 l0 x5_1).f4)], .int .i64 x1_1] rfl (by (try simp only [List.map_toArray, List.map_cons, List.map_nil]); first | done | rfl | (simp only [List.length_drop, List.length_take]; rfl)) ?_; (with_reducible refine (zhr ((zc7 l0 x5_1).f0) ((zc7 l0 x5_1).f1) ((zc7 l0 x5_1).f2) ((zc7 l0 x5_1).f3) ((zc7 l0 x5_1).f4) x1_1 t102 _ A6.out).mono ?_); rintro e w8 ⟨rfl, hb⟩; refine ⟨_, rfl, ?_⟩; have n0_ := zA (zag (by repeat (first | (with_reducible first | exact HB.out | apply zba | apply zbn | apply zbd) | exact HB.out)) hb); clear HB; have HB := n0_; clear n0_; (try clear hb)))
   go_ret
   exact ⟨by first | rfl | (simp [zad, zae] <;> rfl) | (simp [*, zad, zae] <;> rfl), by repeat (first | (with_reducible first | exact HB.out | apply zba | apply zbn | apply zbd) | exact HB.out)⟩
 rw [if_neg c7] at H
 have c7b0 : decide (t102 < 0) = false := zdf c7
 clear c7
 have H' := zA H
 clear H
 have p101 : 0 ≤ (x5_1 : Int) := zde (by assumption)
 have q101 : x5_1 < (l0.length : Int) := zde (by assumption)
 obtain ⟨ad101, e101, hx101_0, hx101_1, hx101_2, hx101_3, hx101_4⟩ := zqu HR0.out x5_1 p101 q101
 cases e101
 replace hx101_0 := zkep HB.out hx101_0
 replace hx101_1 := zkep HB.out hx101_1
 replace hx101_2 := zkep HB.out hx101_2
 replace hx101_3 := zkep HB.out hx101_3
 replace hx101_4 := zkep HB.out hx101_4
 replace p101 := eq_true p101
 replace q101 := eq_true q101
 go_wp2_with (first | ((with_reducible refine zah (f := 67) rfl ?_); refine za3 (some 23) rfl rfl Try.func67 (by kernel_rfl) rfl #[.agg #[.string ((zc7 l0 x5_1).f0), .int .i64 ((zc7 l0 x5_1).f1), .int .i64 ((zc7 l0 x5_1).f2), .int .i64 ((zc7 l0 x5_1).f3), .int .i64 ((zc7 l0 x5_1).f4)], .int .i64 x1_1] rfl (by (try simp only [List.map_toArray, List.map_cons, List.map_nil]); first | done | rfl | (simp only [List.length_drop, List.length_take]; rfl)) ?_; (with_reducible refine (zhr ((zc7 l0 x5_1).f0) ((zc7 l0 x5_1).f1) ((zc7 l0 x5_1).f2) ((zc7 l0 x5_1).f3) ((zc7 l0 x5_1).f4) x1_1 t102 _ A6.out).mono ?_); rintro e w9 ⟨rfl, hb⟩; refine ⟨_, rfl, ?_⟩; have n0_ := zA (zag (by repeat (first | (with_reducible first | exact HB.out | apply zba | apply zbn | apply zbd) | exact HB.out)) hb); clear HB; have HB := n0_; clear n0_; (try clear hb)))
 go_roundg k1
 case measure => have := HK1.out; omega
 case rel => exact ⟨(t102), (wrap64 (x5_1 + 1)), (by first | rfl | (simp; done) | (simp [*]; done)), (by first | rfl | (simp; done) | (simp [*]; done)), H', ⟨by have := HK1.out; omega⟩, ⟨by repeat (first | (with_reducible first | exact HB.out | apply zba | apply zbn | apply zbd) | exact HB.out)⟩⟩
def zh3 (a0_0 : ByteArray) (a0_1 : Int) (a0_2 : Int) (a0_3 : Int) (a0_4 : Int) : Option (ByteArray × Int × Int × Int × Int) := some (a0_0, a0_1, a0_2, a0_3, a0_4)
set_option maxHeartbeats 8000000 in
set_option maxRecDepth 100000 in
theorem zkc (a0_0 : ByteArray) (a0_1 : Int) (a0_2 : Int) (a0_3 : Int) (a0_4 : Int) (r1 : ByteArray) (r2 : Int) (r3 : Int) (r4 : Int) (r5 : Int) (w : World) (h : zh3 a0_0 a0_1 a0_2 a0_3 a0_4 = some (r1, r2, r3, r4, r5)) :
   Calls Try.prog 69 #[.agg #[.string a0_0, .int .i64 a0_1, .int .i64 a0_2, .int .i64 a0_3, .int .i64 a0_4]] w fun e w' => e = .returned (.agg #[.string r1, .int .i64 r2, .int .i64 r3, .int .i64 r4, .int .i64 r5]) ∧ Below w.heap.size w w' := by
 have hu93 := Try.underlying93
 have hu94 := Try.underlying94
 have HB := zA (Below.refl w.heap.size w)
 have H : (some (a0_0, a0_1, a0_2, a0_3, a0_4)) = some (r1, r2, r3, r4, r5) := h
 clear h
 simp only [Option.some.injEq, Prod.mk.injEq] at H
 obtain ⟨rfl, rfl, rfl, rfl, rfl⟩ := H
 go_enter Try.func69, Try.ntmps69
 go_wp2_with (first | ((with_reducible refine zar (N := 1) rfl ?_); refine zat ?hg (N := 1) ?hd (cs := #[.string a0_0, .int .i64 a0_1, .int .i64 a0_2, .int .i64 a0_3, .int .i64 a0_4]) (t := 93) ?hr ?_; (case hd => rfl); (case hg => rfl); (case hr => go_simp <;> rfl); intro gb101 hg w2 hbox hb; have zs := zpair (by repeat (first | (with_reducible first | exact HB.out | apply zba | apply zbn | apply zbd) | exact HB.out)) hb; have n0_ := zA (zs.1); have n1_ := zA (hbox); have n2_ := zA ((by rw [hg]; exact zs.2 : w.heap.size ≤ gb101)); have n3_ := n2_; clear HB; have HB := n0_; have BK101 := n1_; have GW101 := n2_; have GE101 := n3_; clear n0_ n1_ n2_ n3_; clear zs hb hbox hg) | ((with_reducible refine zar (N := 2) rfl ?_); refine zat ?hg (N := 2) ?hd (cs := #[.string (⟨#[]⟩ : ByteArray), .int .i64 0, .int .i64 0, .int .i64 0, .int .i64 0]) (t := 94) ?hr ?_; (case hd => rfl); (case hg => rfl); (case hr => go_simp <;> rfl); intro gb102 hg w3 hbox hb; have n0_ := zA (zaj (g := gb101) (o := .cells #[.string a0_0, .int .i64 a0_1, .int .i64 a0_2, .int .i64 a0_3, .int .i64 a0_4] 93 (0, 0)) (by (with_reducible repeat (first | refine zkn ?_ _ | refine zkd ?_ | refine zka ?_ _)); exact BK101.out) hb); have zs := zpair (by repeat (first | (with_reducible first | exact HB.out | apply zba | apply zbn | apply zbd | refine zab ?_ GE101.out) | exact HB.out)) hb; have n1_ := zA (zs.1); have n2_ := zA (hbox); have n3_ := zA ((by rw [hg]; exact zs.2 : w.heap.size ≤ gb102)); have n4_ := n3_; have n5_ := zA ((by rw [hg]; exact Nat.ne_of_lt (zlt BK101.out (fun h => by (with_reducible repeat (first | refine zkn ?_ _ | refine zkd ?_ | refine zka ?_ _)); exact h)) : gb101 ≠ gb102)); have n6_ := zA (Ne.symm n5_.out); clear BK101 HB; have BK101 := n0_; have HB := n1_; have BK102 := n2_; have GW102 := n3_; have GE102 := n4_; have NB101_102 := n5_; have NB102_101 := n6_; clear n0_ n1_ n2_ n3_ n4_ n5_ n6_; clear zs hb hbox hg) | ((with_reducible refine zar (N := 3) rfl ?_); refine zat ?hg (N := 3) ?hd (cs := #[.string (⟨#[]⟩ : ByteArray), .int .i64 0, .int .i64 0, .int .i64 0, .int .i64 0]) (t := 94) ?hr ?_; (case hd => rfl); (case hg => rfl); (case hr => go_simp <;> rfl); intro gb103 hg w4 hbox hb; have n0_ := zA (zaj (g := gb101) (o := .cells #[.string a0_0, .int .i64 a0_1, .int .i64 a0_2, .int .i64 a0_3, .int .i64 a0_4] 93 (0, 0)) (by (with_reducible repeat (first | refine zkn ?_ _ | refine zkd ?_ | refine zka ?_ _)); exact BK101.out) hb); have n1_ := zA (zaj (g := gb102) (o := .cells #[.string (⟨#[]⟩ : ByteArray), .int .i64 0, .int .i64 0, .int .i64 0, .int .i64 0] 94 (0, 0)) (by (with_reducible repeat (first | refine zkn ?_ _ | refine zkd ?_ | refine zka ?_ _)); exact BK102.out) hb); have zs := zpair (by repeat (first | (with_reducible first | exact HB.out | apply zba | apply zbn | apply zbd | refine zab ?_ GE101.out | refine zab ?_ GE102.out) | exact HB.out)) hb; have n2_ := zA (zs.1); have n3_ := zA (hbox); have n4_ := zA ((by rw [hg]; exact zs.2 : w.heap.size ≤ gb103)); have n5_ := n4_; have n6_ := zA ((by rw [hg]; exact Nat.ne_of_lt (zlt BK101.out (fun h => by (with_reducible repeat (first | refine zkn ?_ _ | refine zkd ?_ | refine zka ?_ _)); exact h)) : gb101 ≠ gb103)); have n7_ := zA (Ne.symm n6_.out); have n8_ := zA ((by rw [hg]; exact Nat.ne_of_lt (zlt BK102.out (fun h => by (with_reducible repeat (first | refine zkn ?_ _ | refine zkd ?_ | refine zka ?_ _)); exact h)) : gb102 ≠ gb103)); have n9_ := zA (Ne.symm n8_.out); clear BK101 BK102 HB; have BK101 := n0_; have BK102 := n1_; have HB := n2_; have BK103 := n3_; have GW103 := n4_; have GE103 := n5_; have NB101_103 := n6_; have NB103_101 := n7_; have NB102_103 := n8_; have NB103_102 := n9_; clear n0_ n1_ n2_ n3_ n4_ n5_ n6_ n7_ n8_ n9_; clear zs hb hbox hg; have hnb5 := NB101_102.out; have hnc5 := NB102_101.out; have hnb6 := NB101_103.out; have hnc6 := NB103_101.out; obtain ⟨hcz7_0, hcz7_1, hcz7_2, hcz7_3, hcz7_4⟩ := zc5 w4 (.string a0_0) (.int .i64 a0_1) (.int .i64 a0_2) (.int .i64 a0_3) (.int .i64 a0_4) BK101.out; obtain ⟨hfz7_0, hfz7_1, hfz7_2, hfz7_3, hfz7_4⟩ := zf5 BK101.out; have hnb8 := NB103_102.out; have hnc8 := NB102_103.out; obtain ⟨hcz9_0, hcz9_1, hcz9_2, hcz9_3, hcz9_4⟩ := zc5 w4 (.string (⟨#[]⟩ : ByteArray)) (.int .i64 0) (.int .i64 0) (.int .i64 0) (.int .i64 0) BK103.out; obtain ⟨hfz9_0, hfz9_1, hfz9_2, hfz9_3, hfz9_4⟩ := zf5 BK103.out; obtain ⟨hcz10_0, hcz10_1, hcz10_2, hcz10_3, hcz10_4⟩ := zc5 w4 (.string (⟨#[]⟩ : ByteArray)) (.int .i64 0) (.int .i64 0) (.int .i64 0) (.int .i64 0) BK102.out; obtain ⟨hfz10_0, hfz10_1, hfz10_2, hfz10_3, hfz10_4⟩ := zf5 BK102.out))
 refine bodyPost_ret (results_cell_row rfl _ _ gb102 94 #[.string a0_0, .int .i64 a0_1, .int .i64 a0_2, .int .i64 a0_3, .int .i64 a0_4] (0, 0) _ rfl (by (with_reducible repeat (first | refine zkn ?_ _ | refine zkd ?_ | refine zka ?_ _)); refine zan (cs := #[.string a0_0, .int .i64 a0_1, .int .i64 a0_2, .int .i64 a0_3, .int .i64 0]) ?_ 4 _ rfl; (with_reducible repeat (first | refine zkn ?_ _ | refine zkd ?_ | refine zka ?_ _)); refine zan (cs := #[.string a0_0, .int .i64 a0_1, .int .i64 a0_2, .int .i64 0, .int .i64 0]) ?_ 3 _ rfl; (with_reducible repeat (first | refine zkn ?_ _ | refine zkd ?_ | refine zka ?_ _)); refine zan (cs := #[.string a0_0, .int .i64 a0_1, .int .i64 0, .int .i64 0, .int .i64 0]) ?_ 2 _ rfl; (with_reducible repeat (first | refine zkn ?_ _ | refine zkd ?_ | refine zka ?_ _)); refine zan (cs := #[.string a0_0, .int .i64 0, .int .i64 0, .int .i64 0, .int .i64 0]) ?_ 1 _ rfl; (with_reducible repeat (first | refine zkn ?_ _ | refine zkd ?_ | refine zka ?_ _)); refine zan (cs := #[.string (⟨#[]⟩ : ByteArray), .int .i64 0, .int .i64 0, .int .i64 0, .int .i64 0]) ?_ 0 _ rfl; (with_reducible repeat (first | refine zkn ?_ _ | refine zkd ?_ | refine zka ?_ _)); refine zav ?_ NB102_103.out _; (with_reducible repeat (first | refine zkn ?_ _ | refine zkd ?_ | refine zka ?_ _)); refine zav ?_ NB102_103.out _; (with_reducible repeat (first | refine zkn ?_ _ | refine zkd ?_ | refine zka ?_ _)); refine zav ?_ NB102_103.out _; (with_reducible repeat (first | refine zkn ?_ _ | refine zkd ?_ | refine zka ?_ _)); refine zav ?_ NB102_103.out _; (with_reducible repeat (first | refine zkn ?_ _ | refine zkd ?_ | refine zka ?_ _)); refine zav ?_ NB102_103.out _; (with_reducible repeat (first | refine zkn ?_ _ | refine zkd ?_ | refine zka ?_ _)); exact BK102.out) Try.underlying94 rfl (by kernel_rfl)) rfl ?_
 exact ⟨by first | rfl | (simp [zad, zae] <;> rfl) | (simp [*, zad, zae] <;> rfl), by repeat (first | (with_reducible first | exact HB.out | apply zba | apply zbn | apply zbd | refine zab ?_ GE101.out | refine zab ?_ GE102.out | refine zab ?_ GE103.out) | exact HB.out)⟩
def zbw : Nat → List (S93) → List (S94) → Int → Option ((List (S94)))
 | 0, _, _, _ => none
 | k + 1, x0, x3, x4 => if x4 < (x0.length : Int) then (if 0 ≤ x4 then ((zh3 ((zc7 x0 x4).f0) ((zc7 x0 x4).f1) ((zc7 x0 x4).f2) ((zc7 x0 x4).f3) ((zc7 x0 x4).f4)).bind fun bt105 => (if x4 < (x3.length : Int) then (zbw k x0 (x3.set (x4 : Int).toNat (⟨bt105.1, bt105.2.1, bt105.2.2.1, bt105.2.2.2.1, bt105.2.2.2.2⟩ : S94)) (wrap64 (x4 + 1))) else (none))) else (none)) else (some x3)
def zer (k : Nat) (l0 : List (S93)) : Option ((List (S94))) := if 0 ≤ (l0.length : Int) then (if ((l0.length : Int) : Int).toNat ≤ 5864062014805 then (zbw k l0 (List.replicate ((l0.length : Int) : Int).toNat z94) 0) else (none)) else (none)
theorem zg4 : ∀ k, (∀ y0 y1 y2, LeO (zbw k y0 y1 y2) (zbw (k + 1) y0 y1 y2))
 | 0 => fun _ _ _ r h => by simp [zbw] at h
 | k + 1 => by
   have ih0 := zg4 k
   · intro y0 y1 y2
     unfold zbw
     repeat' first
     | (with_reducible first | exact ih0 _ _ _ | exact LeO.refl _ | exact LeO.none _ | refine zai ?_ ?_ | refine LeO.bind ?_ (fun _ => ?_))
     | exact LeO.none _
     | refine zai ?_ ?_
     | refine LeO.bind ?_ (fun _ => ?_)
theorem zpy : ∀ a0 k, LeO (zer k a0) (zer (k + 1) a0) := by
 intro a0 k
 have ih0 := zg4 k
 unfold zer
 repeat' first
     | (with_reducible first | exact ih0 _ _ _ | exact LeO.refl _ | exact LeO.none _ | refine zai ?_ ?_ | refine LeO.bind ?_ (fun _ => ?_))
     | exact LeO.none _
     | refine zai ?_ ?_
     | refine LeO.bind ?_ (fun _ => ?_)
set_option maxHeartbeats 8000000 in
set_option maxRecDepth 100000 in
theorem ze6 (k : Nat) (A0 : Option Addr) (c0 : Nat) (l0 : List (S93)) (r : List (S94)) (w : World) (hr0 : Kd.C k93 w A0 l0.length l0) (hc0 : l0.length ≤ c0) (h : zer k l0 = some r) :
   Calls Try.prog 27 #[.slice A0 l0.length c0] w fun e w' => ∃ v0_ : Value, e = .returned (v0_) ∧ Kd.R k94 94 w' w.heap.size (fun _ => True) v0_ r ∧ Below w.heap.size w w' := by
 have hu93 := Try.underlying93
 have hu94 := Try.underlying94
 have HR0 := zA hr0
 have HC0 := zA hc0
 clear hr0 hc0
 have HB := zA (Below.refl w.heap.size w)
 have H : (if 0 ≤ (l0.length : Int) then (if ((l0.length : Int) : Int).toNat ≤ 5864062014805 then (zbw k l0 (List.replicate ((l0.length : Int) : Int).toNat z94) 0) else (none)) else (none)) = some r := h
 clear h
 by_cases c2 : 0 ≤ (l0.length : Int)
 rotate_left
 · rw [if_neg c2] at H
   exact absurd H (by simp)
 rw [if_pos c2] at H
 have c2b0 := eq_true c2
 have c2b1 : decide (0 ≤ (l0.length : Int)) = true := zdt c2
 clear c2
 by_cases c3 : ((l0.length : Int) : Int).toNat ≤ 5864062014805
 rotate_left
 · rw [if_neg c3] at H
   exact absurd H (by simp)
 rw [if_pos c3] at H
 have c3b0 := eq_true c3
 have c3b1 : decide (((l0.length : Int) : Int).toNat ≤ 5864062014805) = true := zdt c3
 clear c3
 obtain ⟨y101, hy101⟩ : ∃ y_ : List (S94), y_ = (List.replicate ((l0.length : Int) : Int).toNat z94) := ⟨_, rfl⟩
 replace H : (zbw k l0 y101 0) = some r := by first | (rw [hy101]; with_reducible exact H) | (have H2_ := (Option.bind_some _ _).symm.trans H; rw [hy101]; with_reducible exact H2_) | (have H2_ := (Option.bind_some _ _).symm.trans H; with_reducible exact H2_) | with_reducible exact H | (rw [hy101]; exact H) | exact H
 have Ny101 := zA hy101
 clear hy101
 have H' := zA H
 clear H
 go_enter Try.func27, Try.ntmps27
 go_wp2_with (first | ((with_reducible refine zar (N := 7) rfl ?_); refine Kd.R_make k94 _ 94 rfl (N := 7) rfl 46 _ _ rfl (l0.length : Int) rfl rfl Try.underlying46 (.agg #[(.string ⟨#[]⟩), (.int .i64 0), (.int .i64 0), (.int .i64 0), (.int .i64 0)]) 48 zul rfl (by decide) (by omega) z94 (ok := fun _ => True) (okp := fun _ => True) (zjt _ _ _ z94 ) (fun _ hk => hk) trivial (zde (by assumption)) (Nat.le_trans (Nat.mul_le_mul_right _ (zde (by assumption) : (l0.length : Int).toNat ≤ 5864062014805)) (by omega)) (Below.refl _ _) (zlr _) ?_; intro v102 w4 ho5 hb hg_ hnew_; clear hg_ hnew_; (first | rw [← Ny101.out] at ho5 | (simp only [Int.reduceToNat] at ho5; rw [← Ny101.out] at ho5)); have n0_ := zA (Kd.R_lower ho5 (za0 (by repeat (first | (with_reducible first | exact HB.out | apply zba | apply zbn | apply zbd) | exact HB.out)))); have n1_ := zA (zag (by repeat (first | (with_reducible first | exact HB.out | apply zba | apply zbn | apply zbd) | exact HB.out)) hb); clear HB; have HO103 := n0_; have HB := n1_; clear n0_ n1_; clear hb ho5))
 go_loopg [4] k (fun kq v4 w' => ∃ (x3_1 : List (S94)) (x4_1 : Int), v4 = .int .i64 x4_1 ∧ Aside0 (zbw kq l0 x3_1 x4_1 = some r) ∧ Aside0 (kq ≤ k) ∧ Aside0 (Kd.R k94 94 w' w.heap.size (fun _ => True) v102 x3_1) ∧ Aside0 (Below w.heap.size w w'))
 case atStart => exact ⟨(y101), (0), (by first | rfl | (simp; done) | (simp [*]; done)), H', ⟨zlr _⟩, ⟨by (with_reducible repeat (first | apply zRa | apply zRn | apply zRd)); exact HO103.out⟩, ⟨by repeat (first | (with_reducible first | exact HB.out | apply zba | apply zbn | apply zbd) | exact HB.out)⟩⟩
 clear H'
 try clear c2
 try clear c2b0
 try clear c2b1
 try clear p2
 try clear c3
 try clear c3b0
 try clear c3b1
 obtain ⟨x3_1, x4_1, rfl, HA, HK1, HO_3, HB⟩ := hrel
 cases gk with
 | zero => exact absurd HA.out (by simp [zbw])
 | succ k1 =>
 have H := HA.out
 clear HA
 simp only [zbw] at H
 by_cases c6 : x4_1 < (l0.length : Int)
 rotate_left
 · rw [if_neg c6] at H
   have c6b0 : decide (x4_1 < (l0.length : Int)) = false := zdf c6
   clear c6
   obtain rfl := zsi H
   go_wp2
   go_ret
   exact ⟨_, by first | rfl | (simp [zad, zae] <;> rfl) | (simp [*, zad, zae] <;> rfl), by (with_reducible repeat (first | apply zRa | apply zRn | apply zRd)); exact HO_3.out, by repeat (first | (with_reducible first | exact HB.out | apply zba | apply zbn | apply zbd) | exact HB.out)⟩
 rw [if_pos c6] at H
 have c6b0 : decide (x4_1 < (l0.length : Int)) = true := zdt c6
 clear c6
 by_cases c7 : 0 ≤ x4_1
 rotate_left
 · rw [if_neg c7] at H
   exact absurd H (by simp)
 rw [if_pos c7] at H
 have c7b0 : decide (0 ≤ x4_1) = true := zdt c7
 clear c7
 replace H := zob H
 obtain ⟨⟨t105, t106, t107, t108, t109⟩, A80, H⟩ := H
 replace H : (if x4_1 < (x3_1.length : Int) then (zbw k1 l0 (x3_1.set (x4_1 : Int).toNat (⟨t105, t106, t107, t108, t109⟩ : S94)) (wrap64 (x4_1 + 1))) else (none)) = some r := H
 have A8 := zA A80
 clear A80
 by_cases c9 : x4_1 < (x3_1.length : Int)
 rotate_left
 · rw [if_neg c9] at H
   exact absurd H (by simp)
 rw [if_pos c9] at H
 have c9b0 : decide (x4_1 < (x3_1.length : Int)) = true := zdt c9
 clear c9
 obtain ⟨y110, hy110⟩ : ∃ y_ : List (S94), y_ = (x3_1.set (x4_1 : Int).toNat (⟨t105, t106, t107, t108, t109⟩ : S94)) := ⟨_, rfl⟩
 replace H : (zbw k1 l0 y110 (wrap64 (x4_1 + 1))) = some r := by first | (rw [hy110]; with_reducible exact H) | (have H2_ := (Option.bind_some _ _).symm.trans H; rw [hy110]; with_reducible exact H2_) | (have H2_ := (Option.bind_some _ _).symm.trans H; with_reducible exact H2_) | with_reducible exact H | (rw [hy110]; exact H) | exact H
 have Ny110 := zA hy110
 clear hy110
 have H' := zA H
 clear H
 have p104 : 0 ≤ (x4_1 : Int) := zde (by assumption)
 have q104 : x4_1 < (l0.length : Int) := zde (by assumption)
 obtain ⟨ad104, e104, hx104_0, hx104_1, hx104_2, hx104_3, hx104_4⟩ := zqu HR0.out x4_1 p104 q104
 cases e104
 replace hx104_0 := zkep HB.out hx104_0
 replace hx104_1 := zkep HB.out hx104_1
 replace hx104_2 := zkep HB.out hx104_2
 replace hx104_3 := zkep HB.out hx104_3
 replace hx104_4 := zkep HB.out hx104_4
 replace p104 := eq_true p104
 replace q104 := eq_true q104
 go_wp2_with (first | ((with_reducible refine zah (f := 69) rfl ?_); refine za3 (some 20) rfl rfl Try.func69 (by kernel_rfl) rfl #[.agg #[.string ((zc7 l0 x4_1).f0), .int .i64 ((zc7 l0 x4_1).f1), .int .i64 ((zc7 l0 x4_1).f2), .int .i64 ((zc7 l0 x4_1).f3), .int .i64 ((zc7 l0 x4_1).f4)]] rfl (by (try simp only [List.map_toArray, List.map_cons, List.map_nil]); first | done | rfl | (simp only [List.length_drop, List.length_take]; rfl)) ?_; (with_reducible refine (zkc ((zc7 l0 x4_1).f0) ((zc7 l0 x4_1).f1) ((zc7 l0 x4_1).f2) ((zc7 l0 x4_1).f3) ((zc7 l0 x4_1).f4) t105 t106 t107 t108 t109 _ A8.out).mono ?_); rintro e w11 ⟨rfl, hb⟩; refine ⟨_, rfl, ?_⟩; have n0_ := zA (zRb (by (with_reducible repeat (first | apply zRa | apply zRn | apply zRd)); exact HO_3.out) hb); have n1_ := zA (zag (by repeat (first | (with_reducible first | exact HB.out | apply zba | apply zbn | apply zbd) | exact HB.out)) hb); clear HO_3 HB; have HO_3 := n0_; have HB := n1_; clear n0_ n1_; (try clear hb); (try clear hk); have p10 : 0 ≤ (x4_1 : Int) := zde (by assumption); have q10 : (x4_1 : Int) < ((x3_1.length : Int) : Int) := zde (by assumption); obtain ⟨go10, co10, eo10, gb10, gl10, cl10, HG10⟩ := Kd.R_form HO_3.out (by omega); (first | cases eo10 | (injection eo10 with ea_ en_ ec_; (first | subst ea_ | (injection ea_ with ea_; subst ea_)); subst ec_; clear en_)); have GB10 := zA gb10; have GG10 := zA HG10; clear gb10 gl10 HG10; obtain ⟨ce10, hcl10, hM10, hcc10, hfr10⟩ := Kd.R_elem HO_3.out z94 (x4_1 : Int) p10 q10; obtain rfl := zfb hM10; have hx10_0 : w11.cell? ⟨go10, (x4_1 : Int).toNat * 5, none⟩ = some (.string ((zaa x3_1 x4_1).f0)) := hcc10 0 _ rfl; have hx10_1 : w11.cell? ⟨go10, (x4_1 : Int).toNat * 5 + 1, none⟩ = some (.int .i64 ((zaa x3_1 x4_1).f1)) := hcc10 1 _ rfl; have hx10_2 : w11.cell? ⟨go10, (x4_1 : Int).toNat * 5 + 2, none⟩ = some (.int .i64 ((zaa x3_1 x4_1).f2)) := hcc10 2 _ rfl; have hx10_3 : w11.cell? ⟨go10, (x4_1 : Int).toNat * 5 + 3, none⟩ = some (.int .i64 ((zaa x3_1 x4_1).f3)) := hcc10 3 _ rfl; have hx10_4 : w11.cell? ⟨go10, (x4_1 : Int).toNat * 5 + 4, none⟩ = some (.int .i64 ((zaa x3_1 x4_1).f4)) := hcc10 4 _ rfl; have hf10_0 : w11.frozen? ⟨go10, (x4_1 : Int).toNat * 5, none⟩ = false := hfr10 0; have hf10_1 : w11.frozen? ⟨go10, (x4_1 : Int).toNat * 5 + 1, none⟩ = false := hfr10 1; have hf10_2 : w11.frozen? ⟨go10, (x4_1 : Int).toNat * 5 + 2, none⟩ = false := hfr10 2; have hf10_3 : w11.frozen? ⟨go10, (x4_1 : Int).toNat * 5 + 3, none⟩ = false := hfr10 3; have hf10_4 : w11.frozen? ⟨go10, (x4_1 : Int).toNat * 5 + 4, none⟩ = false := hfr10 4; clear hcl10 hcc10 hfr10 hM10; replace p10 := eq_true p10; replace q10 := eq_true q10; have HX12 := zA (show Kd.R k94 94 w11 w.heap.size (fun _ => True) (.slice (some ⟨go10, 0, none⟩) x3_1.length co10) x3_1 from (by (with_reducible repeat (first | apply zRa | apply zRn | apply zRd)); exact HO_3.out)); obtain ⟨ce12, hcl12, hM12, hcc12, hfr12⟩ := Kd.R_elem HX12.out z94 (x4_1 : Int) (zde (by assumption)) (by have h_ : (x4_1 : Int) < ((x3_1.length : Int) : Int) := zde (by assumption); first | exact h_ | (have e_ := (zRr HO_3.out).1; omega) | simpa using h_); obtain rfl := zfb hM12; have HP12 := Kd.R_seg HX12.out (x4_1 : Int) (zde (by assumption)) (by have h_ : (x4_1 : Int) < ((x3_1.length : Int) : Int) := zde (by assumption); first | exact h_ | (have e_ := (zRr HO_3.out).1; omega) | simpa using h_) (seg := [.string t105, .int .i64 t106, .int .i64 t107, .int .i64 t108, .int .i64 t109]) (j := 0) hcl12 hcc12 (show 5 ≤ 5 from by decide) (x' := (⟨t105, t106, t107, t108, t109⟩ : S94)) (zjt _ _ _ (⟨t105, t106, t107, t108, t109⟩ : S94) ) (fun _ hk => hk); have hx12_0 := hcc12 0 _ rfl; (try simp only [show (k94).sz = 5 from rfl, Nat.mul_one, Nat.add_zero] at hx12_0); have hf12_0 := hfr12 0; (try simp only [show (k94).sz = 5 from rfl, Nat.mul_one, Nat.add_zero] at hf12_0); have hx12_1 := hcc12 1 _ rfl; (try simp only [show (k94).sz = 5 from rfl, Nat.mul_one, Nat.add_zero] at hx12_1); have hf12_1 := hfr12 1; (try simp only [show (k94).sz = 5 from rfl, Nat.mul_one, Nat.add_zero] at hf12_1); have hx12_2 := hcc12 2 _ rfl; (try simp only [show (k94).sz = 5 from rfl, Nat.mul_one, Nat.add_zero] at hx12_2); have hf12_2 := hfr12 2; (try simp only [show (k94).sz = 5 from rfl, Nat.mul_one, Nat.add_zero] at hf12_2); have hx12_3 := hcc12 3 _ rfl; (try simp only [show (k94).sz = 5 from rfl, Nat.mul_one, Nat.add_zero] at hx12_3); have hf12_3 := hfr12 3; (try simp only [show (k94).sz = 5 from rfl, Nat.mul_one, Nat.add_zero] at hf12_3); have hx12_4 := hcc12 4 _ rfl; (try simp only [show (k94).sz = 5 from rfl, Nat.mul_one, Nat.add_zero] at hx12_4); have hf12_4 := hfr12 4; (try simp only [show (k94).sz = 5 from rfl, Nat.mul_one, Nat.add_zero] at hf12_4); clear hcl12 hcc12 hfr12 hM12) | ((with_reducible refine zbk (t := 94) (p := 21) rfl ?_); refine zbj (t := 94) (p := 21) (v := ?vo_w13) (w1 := (((((w11.setCell ⟨go10, (x4_1 : Int).toNat * 5, none⟩ (.string t105)).setCell ⟨go10, (x4_1 : Int).toNat * 5 + 1, none⟩ (.int .i64 t106)).setCell ⟨go10, (x4_1 : Int).toNat * 5 + 2, none⟩ (.int .i64 t107)).setCell ⟨go10, (x4_1 : Int).toNat * 5 + 3, none⟩ (.int .i64 t108)).setCell ⟨go10, (x4_1 : Int).toNat * 5 + 4, none⟩ (.int .i64 t109))) ?hg ?ho ?hn ?hr ?_; (case ho => rfl); (case hg => rfl); (case hn => rfl); (case hr => go_simp <;> rfl); intro w13 hw; have hg : w11.grownBy w13 (some go10) := (by rw [hw]; exact HP12.2); have hp_ : Kd.R k94 94 w13 w.heap.size (fun _ => True) (.slice (some ⟨go10, 0, none⟩) x3_1.length co10) y110 := (by rw [hw, Ny110.out]; exact HP12.1); clear HP12; have n0_ := zA (hp_); have n1_ := zA ((by rw [hw]; exact zab (zab (zab (zab (zab (HB.out) GB10.out) GB10.out) GB10.out) GB10.out) GB10.out : Below w.heap.size w w13)); clear HO_3 HB; have HO_3 := n0_; have HB := n1_; clear n0_ n1_; clear hg hw hp_))
 go_roundg k1
 case measure => have := HK1.out; omega
 case rel => exact ⟨(y110), (wrap64 (x4_1 + 1)), (by first | rfl | (simp; done) | (simp [*]; done)), H', ⟨by have := HK1.out; omega⟩, ⟨by (with_reducible repeat (first | apply zRa | apply zRn | apply zRd)); exact HO_3.out⟩, ⟨by repeat (first | (with_reducible first | exact HB.out | apply zba | apply zbn | apply zbd) | exact HB.out)⟩⟩
def zaz (a0 : Int) (a1 : Int) (a2 : Int) : Option (Bool) := if a0 ≥ a1 then (some (decide (a0 ≤ a2))) else (some false)
set_option maxHeartbeats 8000000 in
set_option maxRecDepth 100000 in
theorem zbm (a0 : Int) (a1 : Int) (a2 : Int) (r : Bool) (w : World) (h : zaz a0 a1 a2 = some r) :
   Calls Try.prog 50 #[.int .i64 a0, .int .i64 a1, .int .i64 a2] w fun e w' => e = .returned (.bool r) ∧ Drawn0 w w' := by
 have H : (if a0 ≥ a1 then (some (decide (a0 ≤ a2))) else (some false)) = some r := h
 clear h
 by_cases c4 : a0 ≥ a1
 · rw [if_pos c4] at H
   have c4b0 : decide (a1 ≤ a0) = true := zdt c4
   clear c4
   obtain rfl := zsi H
   go_enter Try.func50, Try.ntmps50
   go_wp2
   go_ret
   exact ⟨by first | rfl | (simp; done) | (simp [*]; done), by repeat (first | exact Drawn0.refl _ | apply Drawn0.step)⟩
 · rw [if_neg c4] at H
   have c4b0 : decide (a1 ≤ a0) = false := zdf c4
   clear c4
   obtain rfl := zsi H
   go_enter Try.func50, Try.ntmps50
   go_wp2
   go_ret
   exact ⟨by first | rfl | (simp; done) | (simp [*]; done), by repeat (first | exact Drawn0.refl _ | apply Drawn0.step)⟩
def zbq (a0 : Int) : Option (Bool) := (zaz a0 0 5).bind fun t101 => (some t101)
set_option maxHeartbeats 8000000 in
set_option maxRecDepth 100000 in
theorem zay (a0 : Int) (r : Bool) (w : World) (h : zbq a0 = some r) :
   Calls Try.prog 51 #[.int .i64 a0] w fun e w' => e = .returned (.bool r) ∧ Drawn0 w w' := by
 have H : ((zaz a0 0 5).bind fun t101 => (some t101)) = some r := h
 clear h
 replace H := zob H
 obtain ⟨t101, A20, H⟩ := H
 replace H : (some t101) = some r := H
 have A2 := zA A20
 clear A20
 obtain rfl := zsi H
 go_enter Try.func51, Try.ntmps51
 go_wp2_with (first | ((with_reducible refine zah (f := 50) rfl ?_); refine za3 (some 4) rfl rfl Try.func50 (by kernel_rfl) rfl #[.int .i64 a0, .int .i64 0, .int .i64 5] rfl (by (try simp only [List.map_toArray, List.map_cons, List.map_nil]); first | done | rfl | (simp only [List.length_drop, List.length_take]; rfl)) ?_; (with_reducible refine (zbm a0 0 5 t101 _ A2.out).mono ?_); rintro e w' ⟨rfl, ⟨nd, rfl⟩⟩; refine ⟨_, rfl, ?_⟩))
 go_ret
 exact ⟨by first | rfl | (simp; done) | (simp [*]; done), by repeat (first | exact Drawn0.refl _ | apply Drawn0.step)⟩
end Go.Proofs.Ytkfkbmlbpeojaaa.Q
end
section
namespace Go.Proofs.Ytkfkbmlbpeojaaa.Q
open Go.RowKit Go.Proofs.YtkfkbmlbpeojaaaW.PrintWords Go.Proofs.YtkfkbmlbpeojaaaW.PrintLast Go.Proofs.YtkfkbmlbpeojaaaW.PrintMore
attribute [local go_sem] zcz zc0 zd1 zd2 zcl zcm zc1 zc2
set_option linter.unusedVariables false
set_option linter.unusedSimpArgs false
mutual
def zci : Nat → ByteArray → Bool → Option (Bool × Bool × Bool × Int × Int)
 | 0, _, _ => none
 | k + 1, x7, x10 => if x10 = true then (some (true, true, false, 0, 0)) else (if x7.toList = ([97, 100, 100] : List UInt8) then (zax k x7 (x7.toList == ([97, 100, 100] : List UInt8))) else (if x7.toList = ([115, 117, 98] : List UInt8) then (zax k x7 (x7.toList == ([115, 117, 98] : List UInt8))) else (if x7.toList = ([97, 110, 100] : List UInt8) then (zax k x7 (x7.toList == ([97, 110, 100] : List UInt8))) else (if x7.toList = ([111, 114] : List UInt8) then (zax k x7 (x7.toList == ([111, 114] : List UInt8))) else (if x7.toList = ([120, 111, 114] : List UInt8) then (zax k x7 (x7.toList == ([120, 111, 114] : List UInt8))) else (if x7.toList = ([115, 104, 108] : List UInt8) then (zax k x7 (x7.toList == ([115, 104, 108] : List UInt8))) else (if x7.toList = ([115, 104, 114] : List UInt8) then (zax k x7 (x7.toList == ([115, 104, 114] : List UInt8))) else (if x7.toList = ([108, 101, 115, 115] : List UInt8) then (zax k x7 (x7.toList == ([108, 101, 115, 115] : List UInt8))) else (if x7.toList = ([101, 113] : List UInt8) then (zax k x7 (x7.toList == ([101, 113] : List UInt8))) else (zax k x7 (x7.toList == ([109, 117, 108] : List UInt8))))))))))))
def zax : Nat → ByteArray → Bool → Option (Bool × Bool × Bool × Int × Int)
 | 0, _, _ => none
 | k + 1, x7, x14 => if x14 = true then (some (true, true, true, 0, 0)) else (if x7.toList = ([97, 100, 100, 105] : List UInt8) then (zcj k x7 (x7.toList == ([97, 100, 100, 105] : List UInt8))) else (if x7.toList = ([97, 110, 100, 105] : List UInt8) then (zcj k x7 (x7.toList == ([97, 110, 100, 105] : List UInt8))) else (zcj k x7 (x7.toList == ([120, 111, 114, 105] : List UInt8)))))
def zcj : Nat → ByteArray → Bool → Option (Bool × Bool × Bool × Int × Int)
 | 0, _, _ => none
 | k + 1, x7, x25 => if x25 = true then (some (true, true, false, 0, 63)) else (if x7.toList = ([115, 104, 108, 105] : List UInt8) then (zct k x7 (x7.toList == ([115, 104, 108, 105] : List UInt8))) else (zct k x7 (x7.toList == ([115, 104, 114, 105] : List UInt8))))
def zct : Nat → ByteArray → Bool → Option (Bool × Bool × Bool × Int × Int)
 | 0, _, _ => none
 | k + 1, x7, x29 => if x29 = true then (some (true, true, false, 1, 5)) else (if x7.toList = ([108, 101, 97] : List UInt8) then (some (true, true, true, 1, 3)) else (some (false, false, false, 0, 0)))
end
def zdv (k : Nat) (a0 : ByteArray) : Option (Bool × Bool × Bool × Int × Int) := if a0.toList = ([115, 101, 116] : List UInt8) then (some (true, false, false, 0, 63)) else (if a0.toList = ([109, 111, 118] : List UInt8) then (zci k a0 (a0.toList == ([109, 111, 118] : List UInt8))) else (if a0.toList = ([110, 111, 116] : List UInt8) then (zci k a0 (a0.toList == ([110, 111, 116] : List UInt8))) else (zci k a0 (a0.toList == ([110, 101, 103] : List UInt8)))))
theorem zhf : ∀ k, (∀ y0 y1, LeO (zci k y0 y1) (zci (k + 1) y0 y1)) ∧ (∀ y0 y1, LeO (zax k y0 y1) (zax (k + 1) y0 y1)) ∧ (∀ y0 y1, LeO (zcj k y0 y1) (zcj (k + 1) y0 y1)) ∧ (∀ y0 y1, LeO (zct k y0 y1) (zct (k + 1) y0 y1))
 | 0 => ⟨fun _ _ r h => by simp [zci] at h, fun _ _ r h => by simp [zax] at h, fun _ _ r h => by simp [zcj] at h, fun _ _ r h => by simp [zct] at h⟩
 | k + 1 => by
   obtain ⟨ih0, ih1, ih2, ih3⟩ := zhf k
   refine ⟨?_, ?_, ?_, ?_⟩
   · intro y0 y1
     unfold zci
     repeat' first
     | (with_reducible first | exact ih0 _ _ | exact ih1 _ _ | exact ih2 _ _ | exact ih3 _ _ | exact LeO.refl _ | exact LeO.none _ | refine zai ?_ ?_ | refine LeO.bind ?_ (fun _ => ?_))
     | exact LeO.none _
     | refine zai ?_ ?_
     | refine LeO.bind ?_ (fun _ => ?_)
   · intro y0 y1
     unfold zax
     repeat' first
     | (with_reducible first | exact ih0 _ _ | exact ih1 _ _ | exact ih2 _ _ | exact ih3 _ _ | exact LeO.refl _ | exact LeO.none _ | refine zai ?_ ?_ | refine LeO.bind ?_ (fun _ => ?_))
     | exact LeO.none _
     | refine zai ?_ ?_
     | refine LeO.bind ?_ (fun _ => ?_)
   · intro y0 y1
     unfold zcj
     repeat' first
     | (with_reducible first | exact ih0 _ _ | exact ih1 _ _ | exact ih2 _ _ | exact ih3 _ _ | exact LeO.refl _ | exact LeO.none _ | refine zai ?_ ?_ | refine LeO.bind ?_ (fun _ => ?_))
     | exact LeO.none _
     | refine zai ?_ ?_
     | refine LeO.bind ?_ (fun _ => ?_)
   · intro y0 y1
     unfold zct
     repeat' first
     | (with_reducible first | exact ih0 _ _ | exact ih1 _ _ | exact ih2 _ _ | exact ih3 _ _ | exact LeO.refl _ | exact LeO.none _ | refine zai ?_ ?_ | refine LeO.bind ?_ (fun _ => ?_))
     | exact LeO.none _
     | refine zai ?_ ?_
     | refine LeO.bind ?_ (fun _ => ?_)
theorem zgl : ∀ a0 k, LeO (zdv k a0) (zdv (k + 1) a0) := by
 intro a0 k
 obtain ⟨ih0, ih1, ih2, ih3⟩ := zhf k
 unfold zdv
 repeat' first
     | (with_reducible first | exact ih0 _ _ | exact ih1 _ _ | exact ih2 _ _ | exact ih3 _ _ | exact LeO.refl _ | exact LeO.none _ | refine zai ?_ ?_ | refine LeO.bind ?_ (fun _ => ?_))
     | exact LeO.none _
     | refine zai ?_ ?_
     | refine LeO.bind ?_ (fun _ => ?_)
set_option maxHeartbeats 8000000 in
set_option maxRecDepth 100000 in
theorem zcr (k : Nat) (a0 : ByteArray) (r1 : Bool) (r2 : Bool) (r3 : Bool) (r4 : Int) (r5 : Int) (w : World) (h : zdv k a0 = some (r1, r2, r3, r4, r5)) :
   Calls Try.prog 125 #[.string a0] w fun e w' => e = .returned (.tuple #[.bool r1, .bool r2, .bool r3, .int .i64 r4, .int .i64 r5]) ∧ Drawn0 w w' := by
 have H : (if a0.toList = ([115, 101, 116] : List UInt8) then (some (true, false, false, 0, 63)) else (if a0.toList = ([109, 111, 118] : List UInt8) then (zci k a0 (a0.toList == ([109, 111, 118] : List UInt8))) else (if a0.toList = ([110, 111, 116] : List UInt8) then (zci k a0 (a0.toList == ([110, 111, 116] : List UInt8))) else (zci k a0 (a0.toList == ([110, 101, 103] : List UInt8)))))) = some (r1, r2, r3, r4, r5) := h
 clear h
 by_cases c2 : a0.toList = ([115, 101, 116] : List UInt8)
 · rw [if_pos c2] at H
   have c2b0 : (a0.toList == ([115, 101, 116] : List UInt8)) = true := beq_iff_eq.mpr c2
   have c2b1 : (a0.toList != ([115, 101, 116] : List UInt8)) = false := bne_eq_false_iff_eq.mpr c2
   clear c2
   simp only [Option.some.injEq, Prod.mk.injEq] at H
   obtain ⟨rfl, rfl, rfl, rfl, rfl⟩ := H
   go_enter Try.func125, Try.ntmps125
   go_wp2
   refine bodyPost_ret (zfn (rs := [.tmp 2, .tmp 3, .tmp 4, .tmp 5, .tmp 6]) rfl (by simp) (.tmp (.tmp (.tmp (.tmp (.tmp .nil)))))) rfl ?_
   exact ⟨by first | rfl | (simp; done) | (simp [*]; done), by repeat (first | exact Drawn0.refl _ | apply Drawn0.step)⟩
 rw [if_neg c2] at H
 have c2b0 : (a0.toList == ([115, 101, 116] : List UInt8)) = false := beq_eq_false_iff_ne.mpr c2
 have c2b1 : (a0.toList != ([115, 101, 116] : List UInt8)) = true := bne_iff_ne.mpr c2
 have HC3 := zA H
 clear H
 go_enter Try.func125, Try.ntmps125
 go_upto_if 10 with (fail)
 go_cut [10] (fun v10 wc => ∃ (kq : Nat) (x10_2 : Bool), v10 = .bool x10_2 ∧ Aside0 (zci kq a0 x10_2 = some (r1, r2, r3, r4, r5)) ∧ Aside0 (kq ≤ k) ∧ Drawn0 w wc)
 case first =>
   have H := HC3.out
   clear HC3
   by_cases c4 : a0.toList = ([109, 111, 118] : List UInt8)
   · rw [if_pos c4] at H
     have c4b0 : (a0.toList == ([109, 111, 118] : List UInt8)) = true := beq_iff_eq.mpr c4
     have c4b1 : (a0.toList != ([109, 111, 118] : List UInt8)) = false := bne_eq_false_iff_eq.mpr c4
     clear c4
     (first | rw [c4b0] | (simp only [za4, za6]; rw [c4b0]) | skip)
     have H' := zA H
     clear H
     go_wp2
     go_meet
     case rel => exact ⟨_, ((a0.toList == ([109, 111, 118] : List UInt8))), (by first | rfl | (simp; done) | (simp [*]; done)), H', ⟨by first | omega | exact zlr _⟩, by repeat (first | exact Drawn0.refl _ | apply Drawn0.step)⟩
   rw [if_neg c4] at H
   have c4b0 : (a0.toList == ([109, 111, 118] : List UInt8)) = false := beq_eq_false_iff_ne.mpr c4
   have c4b1 : (a0.toList != ([109, 111, 118] : List UInt8)) = true := bne_iff_ne.mpr c4
   (first | rw [c4b0] | (simp only [za4, za6]; rw [c4b0]) | skip)
   by_cases c5 : a0.toList = ([110, 111, 116] : List UInt8)
   rotate_left
   · rw [if_neg c5] at H
     have c5b0 : (a0.toList == ([110, 111, 116] : List UInt8)) = false := beq_eq_false_iff_ne.mpr c5
     have c5b1 : (a0.toList != ([110, 111, 116] : List UInt8)) = true := bne_iff_ne.mpr c5
     have H' := zA H
     clear H
     go_wp2
     go_meet
     case rel => exact ⟨_, ((a0.toList == ([110, 101, 103] : List UInt8))), (by first | rfl | (simp; done) | (simp [*]; done)), H', ⟨by first | omega | exact zlr _⟩, by repeat (first | exact Drawn0.refl _ | apply Drawn0.step)⟩
   rw [if_pos c5] at H
   have c5b0 : (a0.toList == ([110, 111, 116] : List UInt8)) = true := beq_iff_eq.mpr c5
   have c5b1 : (a0.toList != ([110, 111, 116] : List UInt8)) = false := bne_eq_false_iff_eq.mpr c5
   clear c5
   have H' := zA H
   clear H
   go_wp2
   go_meet
   case rel => exact ⟨_, ((a0.toList == ([110, 111, 116] : List UInt8))), (by first | rfl | (simp; done) | (simp [*]; done)), H', ⟨by first | omega | exact zlr _⟩, by repeat (first | exact Drawn0.refl _ | apply Drawn0.step)⟩
 clear HC3
 try clear c1
 try clear c2
 try clear c2b0
 try clear c2b1
 try clear p2
 try clear c4
 try clear c4b0
 try clear c4b1
 try clear c5
 try clear c5b0
 try clear c5b1
 obtain ⟨kq, x10_2, rfl, HA, HJ2, ⟨mc2, rfl⟩⟩ := hcut
 cases kq with
 | zero => exact absurd HA.out (by simp [zci])
 | succ kj2 =>
 have H := HA.out
 clear HA
 simp only [zci] at H
 by_cases c6 : x10_2 = true
 · subst c6
   replace H : (some (true, true, false, 0, 0)) = some (r1, r2, r3, r4, r5) := by rw [if_pos rfl] at H; exact H
   simp only [Option.some.injEq, Prod.mk.injEq] at H
   obtain ⟨rfl, rfl, rfl, rfl, rfl⟩ := H
   go_wp2
   refine bodyPost_ret (zfn (rs := [.tmp 2, .tmp 3, .tmp 4, .tmp 5, .tmp 6]) rfl (by simp) (.tmp (.tmp (.tmp (.tmp (.tmp .nil)))))) rfl ?_
   exact ⟨by first | rfl | (simp; done) | (simp [*]; done), by repeat (first | exact Drawn0.refl _ | apply Drawn0.step)⟩
 replace c6 := zbf c6
 subst c6
 replace H : (if a0.toList = ([97, 100, 100] : List UInt8) then (zax kj2 a0 (a0.toList == ([97, 100, 100] : List UInt8))) else (if a0.toList = ([115, 117, 98] : List UInt8) then (zax kj2 a0 (a0.toList == ([115, 117, 98] : List UInt8))) else (if a0.toList = ([97, 110, 100] : List UInt8) then (zax kj2 a0 (a0.toList == ([97, 110, 100] : List UInt8))) else (if a0.toList = ([111, 114] : List UInt8) then (zax kj2 a0 (a0.toList == ([111, 114] : List UInt8))) else (if a0.toList = ([120, 111, 114] : List UInt8) then (zax kj2 a0 (a0.toList == ([120, 111, 114] : List UInt8))) else (if a0.toList = ([115, 104, 108] : List UInt8) then (zax kj2 a0 (a0.toList == ([115, 104, 108] : List UInt8))) else (if a0.toList = ([115, 104, 114] : List UInt8) then (zax kj2 a0 (a0.toList == ([115, 104, 114] : List UInt8))) else (if a0.toList = ([108, 101, 115, 115] : List UInt8) then (zax kj2 a0 (a0.toList == ([108, 101, 115, 115] : List UInt8))) else (if a0.toList = ([101, 113] : List UInt8) then (zax kj2 a0 (a0.toList == ([101, 113] : List UInt8))) else (zax kj2 a0 (a0.toList == ([109, 117, 108] : List UInt8)))))))))))) = some (r1, r2, r3, r4, r5) := by rw [if_neg (show ¬ (false = true) by decide)] at H; exact H
 have HC7 := zA H
 clear H
 go_upto_if 14 with (fail)
 go_cut [14] (fun v14 wc => ∃ (kq : Nat) (x14_6 : Bool), v14 = .bool x14_6 ∧ Aside0 (zax kq a0 x14_6 = some (r1, r2, r3, r4, r5)) ∧ Aside0 (kq ≤ kj2) ∧ Drawn0 w wc)
 case first =>
   have H := HC7.out
   clear HC7
   by_cases c8 : a0.toList = ([97, 100, 100] : List UInt8)
   · rw [if_pos c8] at H
     have c8b0 : (a0.toList == ([97, 100, 100] : List UInt8)) = true := beq_iff_eq.mpr c8
     have c8b1 : (a0.toList != ([97, 100, 100] : List UInt8)) = false := bne_eq_false_iff_eq.mpr c8
     clear c8
     (first | rw [c8b0] | (simp only [za4, za6]; rw [c8b0]) | skip)
     have H' := zA H
     clear H
     go_wp2
     go_meet
     case rel => exact ⟨_, ((a0.toList == ([97, 100, 100] : List UInt8))), (by first | rfl | (simp; done) | (simp [*]; done)), H', ⟨by have := HJ2.out; first | omega | exact zlr _⟩, by repeat (first | exact Drawn0.refl _ | apply Drawn0.step)⟩
   rw [if_neg c8] at H
   have c8b0 : (a0.toList == ([97, 100, 100] : List UInt8)) = false := beq_eq_false_iff_ne.mpr c8
   have c8b1 : (a0.toList != ([97, 100, 100] : List UInt8)) = true := bne_iff_ne.mpr c8
   (first | rw [c8b0] | (simp only [za4, za6]; rw [c8b0]) | skip)
   by_cases c9 : a0.toList = ([115, 117, 98] : List UInt8)
   · rw [if_pos c9] at H
     have c9b0 : (a0.toList == ([115, 117, 98] : List UInt8)) = true := beq_iff_eq.mpr c9
     have c9b1 : (a0.toList != ([115, 117, 98] : List UInt8)) = false := bne_eq_false_iff_eq.mpr c9
     clear c9
     have H' := zA H
     clear H
     go_wp2
     go_meet
     case rel => exact ⟨_, ((a0.toList == ([115, 117, 98] : List UInt8))), (by first | rfl | (simp; done) | (simp [*]; done)), H', ⟨by have := HJ2.out; first | omega | exact zlr _⟩, by repeat (first | exact Drawn0.refl _ | apply Drawn0.step)⟩
   rw [if_neg c9] at H
   have c9b0 : (a0.toList == ([115, 117, 98] : List UInt8)) = false := beq_eq_false_iff_ne.mpr c9
   have c9b1 : (a0.toList != ([115, 117, 98] : List UInt8)) = true := bne_iff_ne.mpr c9
   by_cases c10 : a0.toList = ([97, 110, 100] : List UInt8)
   · rw [if_pos c10] at H
     have c10b0 : (a0.toList == ([97, 110, 100] : List UInt8)) = true := beq_iff_eq.mpr c10
     have c10b1 : (a0.toList != ([97, 110, 100] : List UInt8)) = false := bne_eq_false_iff_eq.mpr c10
     clear c10
     have H' := zA H
     clear H
     go_wp2
     go_meet
     case rel => exact ⟨_, ((a0.toList == ([97, 110, 100] : List UInt8))), (by first | rfl | (simp; done) | (simp [*]; done)), H', ⟨by have := HJ2.out; first | omega | exact zlr _⟩, by repeat (first | exact Drawn0.refl _ | apply Drawn0.step)⟩
   rw [if_neg c10] at H
   have c10b0 : (a0.toList == ([97, 110, 100] : List UInt8)) = false := beq_eq_false_iff_ne.mpr c10
   have c10b1 : (a0.toList != ([97, 110, 100] : List UInt8)) = true := bne_iff_ne.mpr c10
   by_cases c11 : a0.toList = ([111, 114] : List UInt8)
   · rw [if_pos c11] at H
     have c11b0 : (a0.toList == ([111, 114] : List UInt8)) = true := beq_iff_eq.mpr c11
     have c11b1 : (a0.toList != ([111, 114] : List UInt8)) = false := bne_eq_false_iff_eq.mpr c11
     clear c11
     have H' := zA H
     clear H
     go_wp2
     go_meet
     case rel => exact ⟨_, ((a0.toList == ([111, 114] : List UInt8))), (by first | rfl | (simp; done) | (simp [*]; done)), H', ⟨by have := HJ2.out; first | omega | exact zlr _⟩, by repeat (first | exact Drawn0.refl _ | apply Drawn0.step)⟩
   rw [if_neg c11] at H
   have c11b0 : (a0.toList == ([111, 114] : List UInt8)) = false := beq_eq_false_iff_ne.mpr c11
   have c11b1 : (a0.toList != ([111, 114] : List UInt8)) = true := bne_iff_ne.mpr c11
   by_cases c12 : a0.toList = ([120, 111, 114] : List UInt8)
   · rw [if_pos c12] at H
     have c12b0 : (a0.toList == ([120, 111, 114] : List UInt8)) = true := beq_iff_eq.mpr c12
     have c12b1 : (a0.toList != ([120, 111, 114] : List UInt8)) = false := bne_eq_false_iff_eq.mpr c12
     clear c12
     have H' := zA H
     clear H
     go_wp2
     go_meet
     case rel => exact ⟨_, ((a0.toList == ([120, 111, 114] : List UInt8))), (by first | rfl | (simp; done) | (simp [*]; done)), H', ⟨by have := HJ2.out; first | omega | exact zlr _⟩, by repeat (first | exact Drawn0.refl _ | apply Drawn0.step)⟩
   rw [if_neg c12] at H
   have c12b0 : (a0.toList == ([120, 111, 114] : List UInt8)) = false := beq_eq_false_iff_ne.mpr c12
   have c12b1 : (a0.toList != ([120, 111, 114] : List UInt8)) = true := bne_iff_ne.mpr c12
   by_cases c13 : a0.toList = ([115, 104, 108] : List UInt8)
   · rw [if_pos c13] at H
     have c13b0 : (a0.toList == ([115, 104, 108] : List UInt8)) = true := beq_iff_eq.mpr c13
     have c13b1 : (a0.toList != ([115, 104, 108] : List UInt8)) = false := bne_eq_false_iff_eq.mpr c13
     clear c13
     have H' := zA H
     clear H
     go_wp2
     go_meet
     case rel => exact ⟨_, ((a0.toList == ([115, 104, 108] : List UInt8))), (by first | rfl | (simp; done) | (simp [*]; done)), H', ⟨by have := HJ2.out; first | omega | exact zlr _⟩, by repeat (first | exact Drawn0.refl _ | apply Drawn0.step)⟩
   rw [if_neg c13] at H
   have c13b0 : (a0.toList == ([115, 104, 108] : List UInt8)) = false := beq_eq_false_iff_ne.mpr c13
   have c13b1 : (a0.toList != ([115, 104, 108] : List UInt8)) = true := bne_iff_ne.mpr c13
   by_cases c14 : a0.toList = ([115, 104, 114] : List UInt8)
   · rw [if_pos c14] at H
     have c14b0 : (a0.toList == ([115, 104, 114] : List UInt8)) = true := beq_iff_eq.mpr c14
     have c14b1 : (a0.toList != ([115, 104, 114] : List UInt8)) = false := bne_eq_false_iff_eq.mpr c14
     clear c14
     have H' := zA H
     clear H
     go_wp2
     go_meet
     case rel => exact ⟨_, ((a0.toList == ([115, 104, 114] : List UInt8))), (by first | rfl | (simp; done) | (simp [*]; done)), H', ⟨by have := HJ2.out; first | omega | exact zlr _⟩, by repeat (first | exact Drawn0.refl _ | apply Drawn0.step)⟩
   rw [if_neg c14] at H
   have c14b0 : (a0.toList == ([115, 104, 114] : List UInt8)) = false := beq_eq_false_iff_ne.mpr c14
   have c14b1 : (a0.toList != ([115, 104, 114] : List UInt8)) = true := bne_iff_ne.mpr c14
   by_cases c15 : a0.toList = ([108, 101, 115, 115] : List UInt8)
   · rw [if_pos c15] at H
     have c15b0 : (a0.toList == ([108, 101, 115, 115] : List UInt8)) = true := beq_iff_eq.mpr c15
     have c15b1 : (a0.toList != ([108, 101, 115, 115] : List UInt8)) = false := bne_eq_false_iff_eq.mpr c15
     clear c15
     have H' := zA H
     clear H
     go_wp2
     go_meet
     case rel => exact ⟨_, ((a0.toList == ([108, 101, 115, 115] : List UInt8))), (by first | rfl | (simp; done) | (simp [*]; done)), H', ⟨by have := HJ2.out; first | omega | exact zlr _⟩, by repeat (first | exact Drawn0.refl _ | apply Drawn0.step)⟩
   rw [if_neg c15] at H
   have c15b0 : (a0.toList == ([108, 101, 115, 115] : List UInt8)) = false := beq_eq_false_iff_ne.mpr c15
   have c15b1 : (a0.toList != ([108, 101, 115, 115] : List UInt8)) = true := bne_iff_ne.mpr c15
   by_cases c16 : a0.toList = ([101, 113] : List UInt8)
   rotate_left
   · rw [if_neg c16] at H
     have c16b0 : (a0.toList == ([101, 113] : List UInt8)) = false := beq_eq_false_iff_ne.mpr c16
     have c16b1 : (a0.toList != ([101, 113] : List UInt8)) = true := bne_iff_ne.mpr c16
     have H' := zA H
     clear H
     go_wp2
     go_meet
     case rel => exact ⟨_, ((a0.toList == ([109, 117, 108] : List UInt8))), (by first | rfl | (simp; done) | (simp [*]; done)), H', ⟨by have := HJ2.out; first | omega | exact zlr _⟩, by repeat (first | exact Drawn0.refl _ | apply Drawn0.step)⟩
   rw [if_pos c16] at H
   have c16b0 : (a0.toList == ([101, 113] : List UInt8)) = true := beq_iff_eq.mpr c16
   have c16b1 : (a0.toList != ([101, 113] : List UInt8)) = false := bne_eq_false_iff_eq.mpr c16
   clear c16
   have H' := zA H
   clear H
   go_wp2
   go_meet
   case rel => exact ⟨_, ((a0.toList == ([101, 113] : List UInt8))), (by first | rfl | (simp; done) | (simp [*]; done)), H', ⟨by have := HJ2.out; first | omega | exact zlr _⟩, by repeat (first | exact Drawn0.refl _ | apply Drawn0.step)⟩
 clear HC7
 try clear c1
 try clear c2
 try clear c2b0
 try clear c2b1
 try clear p2
 try clear c4
 try clear c4b0
 try clear c4b1
 try clear c5
 try clear c5b0
 try clear c5b1
 try clear c6
 try clear c8
 try clear c8b0
 try clear c8b1
 try clear c9
 try clear c9b0
 try clear c9b1
 try clear c10
 try clear c10b0
 try clear c10b1
 try clear c11
 try clear c11b0
 try clear c11b1
 try clear c12
 try clear c12b0
 try clear c12b1
 try clear c13
 try clear c13b0
 try clear c13b1
 try clear c14
 try clear c14b0
 try clear c14b1
 try clear c15
 try clear c15b0
 try clear c15b1
 try clear c16
 try clear c16b0
 try clear c16b1
 try clear p2
 obtain ⟨kq, x14_6, rfl, HA, HJ6, ⟨mc6, rfl⟩⟩ := hcut
 cases kq with
 | zero => exact absurd HA.out (by simp [zax])
 | succ kj6 =>
 have H := HA.out
 clear HA
 simp only [zax] at H
 by_cases c17 : x14_6 = true
 · subst c17
   replace H : (some (true, true, true, 0, 0)) = some (r1, r2, r3, r4, r5) := by rw [if_pos rfl] at H; exact H
   simp only [Option.some.injEq, Prod.mk.injEq] at H
   obtain ⟨rfl, rfl, rfl, rfl, rfl⟩ := H
   go_wp2
   refine bodyPost_ret (zfn (rs := [.tmp 2, .tmp 3, .tmp 4, .tmp 5, .tmp 6]) rfl (by simp) (.tmp (.tmp (.tmp (.tmp (.tmp .nil)))))) rfl ?_
   exact ⟨by first | rfl | (simp; done) | (simp [*]; done), by repeat (first | exact Drawn0.refl _ | apply Drawn0.step)⟩
 replace c17 := zbf c17
 subst c17
 replace H : (if a0.toList = ([97, 100, 100, 105] : List UInt8) then (zcj kj6 a0 (a0.toList == ([97, 100, 100, 105] : List UInt8))) else (if a0.toList = ([97, 110, 100, 105] : List UInt8) then (zcj kj6 a0 (a0.toList == ([97, 110, 100, 105] : List UInt8))) else (zcj kj6 a0 (a0.toList == ([120, 111, 114, 105] : List UInt8))))) = some (r1, r2, r3, r4, r5) := by rw [if_neg (show ¬ (false = true) by decide)] at H; exact H
 have HC18 := zA H
 clear H
 go_upto_if 25 with (fail)
 go_cut [25] (fun v25 wc => ∃ (kq : Nat) (x25_17 : Bool), v25 = .bool x25_17 ∧ Aside0 (zcj kq a0 x25_17 = some (r1, r2, r3, r4, r5)) ∧ Aside0 (kq ≤ kj6) ∧ Drawn0 w wc)
 case first =>
   have H := HC18.out
   clear HC18
   by_cases c19 : a0.toList = ([97, 100, 100, 105] : List UInt8)
   · rw [if_pos c19] at H
     have c19b0 : (a0.toList == ([97, 100, 100, 105] : List UInt8)) = true := beq_iff_eq.mpr c19
     have c19b1 : (a0.toList != ([97, 100, 100, 105] : List UInt8)) = false := bne_eq_false_iff_eq.mpr c19
     clear c19
     (first | rw [c19b0] | (simp only [za4, za6]; rw [c19b0]) | skip)
     have H' := zA H
     clear H
     go_wp2
     go_meet
     case rel => exact ⟨_, ((a0.toList == ([97, 100, 100, 105] : List UInt8))), (by first | rfl | (simp; done) | (simp [*]; done)), H', ⟨by have := HJ2.out; have := HJ6.out; first | omega | exact zlr _⟩, by repeat (first | exact Drawn0.refl _ | apply Drawn0.step)⟩
   rw [if_neg c19] at H
   have c19b0 : (a0.toList == ([97, 100, 100, 105] : List UInt8)) = false := beq_eq_false_iff_ne.mpr c19
   have c19b1 : (a0.toList != ([97, 100, 100, 105] : List UInt8)) = true := bne_iff_ne.mpr c19
   (first | rw [c19b0] | (simp only [za4, za6]; rw [c19b0]) | skip)
   by_cases c20 : a0.toList = ([97, 110, 100, 105] : List UInt8)
   rotate_left
   · rw [if_neg c20] at H
     have c20b0 : (a0.toList == ([97, 110, 100, 105] : List UInt8)) = false := beq_eq_false_iff_ne.mpr c20
     have c20b1 : (a0.toList != ([97, 110, 100, 105] : List UInt8)) = true := bne_iff_ne.mpr c20
     have H' := zA H
     clear H
     go_wp2
     go_meet
     case rel => exact ⟨_, ((a0.toList == ([120, 111, 114, 105] : List UInt8))), (by first | rfl | (simp; done) | (simp [*]; done)), H', ⟨by have := HJ2.out; have := HJ6.out; first | omega | exact zlr _⟩, by repeat (first | exact Drawn0.refl _ | apply Drawn0.step)⟩
   rw [if_pos c20] at H
   have c20b0 : (a0.toList == ([97, 110, 100, 105] : List UInt8)) = true := beq_iff_eq.mpr c20
   have c20b1 : (a0.toList != ([97, 110, 100, 105] : List UInt8)) = false := bne_eq_false_iff_eq.mpr c20
   clear c20
   have H' := zA H
   clear H
   go_wp2
   go_meet
   case rel => exact ⟨_, ((a0.toList == ([97, 110, 100, 105] : List UInt8))), (by first | rfl | (simp; done) | (simp [*]; done)), H', ⟨by have := HJ2.out; have := HJ6.out; first | omega | exact zlr _⟩, by repeat (first | exact Drawn0.refl _ | apply Drawn0.step)⟩
 clear HC18
 try clear c1
 try clear c2
 try clear c2b0
 try clear c2b1
 try clear p2
 try clear c4
 try clear c4b0
 try clear c4b1
 try clear c5
 try clear c5b0
 try clear c5b1
 try clear c6
 try clear c8
 try clear c8b0
 try clear c8b1
 try clear c9
 try clear c9b0
 try clear c9b1
 try clear c10
 try clear c10b0
 try clear c10b1
 try clear c11
 try clear c11b0
 try clear c11b1
 try clear c12
 try clear c12b0
 try clear c12b1
 try clear c13
 try clear c13b0
 try clear c13b1
 try clear c14
 try clear c14b0
 try clear c14b1
 try clear c15
 try clear c15b0
 try clear c15b1
 try clear c16
 try clear c16b0
 try clear c16b1
 try clear c17
 try clear c19
 try clear c19b0
 try clear c19b1
 try clear c20
 try clear c20b0
 try clear c20b1
 try clear p2
 obtain ⟨kq, x25_17, rfl, HA, HJ17, ⟨mc17, rfl⟩⟩ := hcut
 cases kq with
 | zero => exact absurd HA.out (by simp [zcj])
 | succ kj17 =>
 have H := HA.out
 clear HA
 simp only [zcj] at H
 by_cases c21 : x25_17 = true
 · subst c21
   replace H : (some (true, true, false, 0, 63)) = some (r1, r2, r3, r4, r5) := by rw [if_pos rfl] at H; exact H
   simp only [Option.some.injEq, Prod.mk.injEq] at H
   obtain ⟨rfl, rfl, rfl, rfl, rfl⟩ := H
   go_wp2
   refine bodyPost_ret (zfn (rs := [.tmp 2, .tmp 3, .tmp 4, .tmp 5, .tmp 6]) rfl (by simp) (.tmp (.tmp (.tmp (.tmp (.tmp .nil)))))) rfl ?_
   exact ⟨by first | rfl | (simp; done) | (simp [*]; done), by repeat (first | exact Drawn0.refl _ | apply Drawn0.step)⟩
 replace c21 := zbf c21
 subst c21
 replace H : (if a0.toList = ([115, 104, 108, 105] : List UInt8) then (zct kj17 a0 (a0.toList == ([115, 104, 108, 105] : List UInt8))) else (zct kj17 a0 (a0.toList == ([115, 104, 114, 105] : List UInt8)))) = some (r1, r2, r3, r4, r5) := by rw [if_neg (show ¬ (false = true) by decide)] at H; exact H
 have HC22 := zA H
 clear H
 go_upto_if 29 with (fail)
 go_cut [29] (fun v29 wc => ∃ (kq : Nat) (x29_21 : Bool), v29 = .bool x29_21 ∧ Aside0 (zct kq a0 x29_21 = some (r1, r2, r3, r4, r5)) ∧ Aside0 (kq ≤ kj17) ∧ Drawn0 w wc)
 case first =>
   have H := HC22.out
   clear HC22
   by_cases c23 : a0.toList = ([115, 104, 108, 105] : List UInt8)
   rotate_left
   · rw [if_neg c23] at H
     have c23b0 : (a0.toList == ([115, 104, 108, 105] : List UInt8)) = false := beq_eq_false_iff_ne.mpr c23
     have c23b1 : (a0.toList != ([115, 104, 108, 105] : List UInt8)) = true := bne_iff_ne.mpr c23
     (first | rw [c23b0] | (simp only [za4, za6]; rw [c23b0]) | skip)
     have H' := zA H
     clear H
     go_wp2
     go_meet
     case rel => exact ⟨_, ((a0.toList == ([115, 104, 114, 105] : List UInt8))), (by first | rfl | (simp; done) | (simp [*]; done)), H', ⟨by have := HJ2.out; have := HJ6.out; have := HJ17.out; first | omega | exact zlr _⟩, by repeat (first | exact Drawn0.refl _ | apply Drawn0.step)⟩
   rw [if_pos c23] at H
   have c23b0 : (a0.toList == ([115, 104, 108, 105] : List UInt8)) = true := beq_iff_eq.mpr c23
   have c23b1 : (a0.toList != ([115, 104, 108, 105] : List UInt8)) = false := bne_eq_false_iff_eq.mpr c23
   clear c23
   (first | rw [c23b0] | (simp only [za4, za6]; rw [c23b0]) | skip)
   have H' := zA H
   clear H
   go_wp2
   go_meet
   case rel => exact ⟨_, ((a0.toList == ([115, 104, 108, 105] : List UInt8))), (by first | rfl | (simp; done) | (simp [*]; done)), H', ⟨by have := HJ2.out; have := HJ6.out; have := HJ17.out; first | omega | exact zlr _⟩, by repeat (first | exact Drawn0.refl _ | apply Drawn0.step)⟩
 clear HC22
 try clear c1
 try clear c2
 try clear c2b0
 try clear c2b1
 try clear p2
 try clear c4
 try clear c4b0
 try clear c4b1
 try clear c5
 try clear c5b0
 try clear c5b1
 try clear c6
 try clear c8
 try clear c8b0
 try clear c8b1
 try clear c9
 try clear c9b0
 try clear c9b1
 try clear c10
 try clear c10b0
 try clear c10b1
 try clear c11
 try clear c11b0
 try clear c11b1
 try clear c12
 try clear c12b0
 try clear c12b1
 try clear c13
 try clear c13b0
 try clear c13b1
 try clear c14
 try clear c14b0
 try clear c14b1
 try clear c15
 try clear c15b0
 try clear c15b1
 try clear c16
 try clear c16b0
 try clear c16b1
 try clear c17
 try clear c19
 try clear c19b0
 try clear c19b1
 try clear c20
 try clear c20b0
 try clear c20b1
 try clear c21
 try clear c23
 try clear c23b0
 try clear c23b1
 try clear p2
 obtain ⟨kq, x29_21, rfl, HA, HJ21, ⟨mc21, rfl⟩⟩ := hcut
 cases kq with
 | zero => exact absurd HA.out (by simp [zct])
 | succ kj21 =>
 have H := HA.out
 clear HA
 simp only [zct] at H
 by_cases c24 : x29_21 = true
 · subst c24
   replace H : (some (true, true, false, 1, 5)) = some (r1, r2, r3, r4, r5) := by rw [if_pos rfl] at H; exact H
   simp only [Option.some.injEq, Prod.mk.injEq] at H
   obtain ⟨rfl, rfl, rfl, rfl, rfl⟩ := H
   go_wp2
   refine bodyPost_ret (zfn (rs := [.tmp 2, .tmp 3, .tmp 4, .tmp 5, .tmp 6]) rfl (by simp) (.tmp (.tmp (.tmp (.tmp (.tmp .nil)))))) rfl ?_
   exact ⟨by first | rfl | (simp; done) | (simp [*]; done), by repeat (first | exact Drawn0.refl _ | apply Drawn0.step)⟩
 replace c24 := zbf c24
 subst c24
 replace H : (if a0.toList = ([108, 101, 97] : List UInt8) then (some (true, true, true, 1, 3)) else (some (false, false, false, 0, 0))) = some (r1, r2, r3, r4, r5) := by rw [if_neg (show ¬ (false = true) by decide)] at H; exact H
 by_cases c25 : a0.toList = ([108, 101, 97] : List UInt8)
 rotate_left
 · rw [if_neg c25] at H
   have c25b0 : (a0.toList == ([108, 101, 97] : List UInt8)) = false := beq_eq_false_iff_ne.mpr c25
   have c25b1 : (a0.toList != ([108, 101, 97] : List UInt8)) = true := bne_iff_ne.mpr c25
   simp only [Option.some.injEq, Prod.mk.injEq] at H
   obtain ⟨rfl, rfl, rfl, rfl, rfl⟩ := H
   go_wp2
   refine bodyPost_ret (zfn (rs := [.tmp 2, .tmp 3, .tmp 4, .tmp 5, .tmp 6]) rfl (by simp) (.tmp (.tmp (.tmp (.tmp (.tmp .nil)))))) rfl ?_
   exact ⟨by first | rfl | (simp; done) | (simp [*]; done), by repeat (first | exact Drawn0.refl _ | apply Drawn0.step)⟩
 rw [if_pos c25] at H
 have c25b0 : (a0.toList == ([108, 101, 97] : List UInt8)) = true := beq_iff_eq.mpr c25
 have c25b1 : (a0.toList != ([108, 101, 97] : List UInt8)) = false := bne_eq_false_iff_eq.mpr c25
 clear c25
 simp only [Option.some.injEq, Prod.mk.injEq] at H
 obtain ⟨rfl, rfl, rfl, rfl, rfl⟩ := H
 go_wp2
 refine bodyPost_ret (zfn (rs := [.tmp 2, .tmp 3, .tmp 4, .tmp 5, .tmp 6]) rfl (by simp) (.tmp (.tmp (.tmp (.tmp (.tmp .nil)))))) rfl ?_
 exact ⟨by first | rfl | (simp; done) | (simp [*]; done), by repeat (first | exact Drawn0.refl _ | apply Drawn0.step)⟩
end Go.Proofs.Ytkfkbmlbpeojaaa.Q
end
section
namespace Go.Proofs.Ytkfkbmlbpeojaaa.Q
open Go.RowKit Go.Proofs.YtkfkbmlbpeojaaaW.PrintWords Go.Proofs.YtkfkbmlbpeojaaaW.PrintLast Go.Proofs.YtkfkbmlbpeojaaaW.PrintMore
attribute [local go_sem] zcz zc0 zd1 zd2 zcl zcm zc1 zc2
set_option linter.unusedVariables false
set_option linter.unusedSimpArgs false
def ze7 (k : Nat) (a0_0 : ByteArray) (a0_1 : Int) (a0_2 : Int) (a0_3 : Int) (a0_4 : Int) : Option (Bool) := (zdv k a0_0).bind fun bt102 => (if bt102.1 = true then ((zbq a0_1).bind fun t107 => (if t107 = true then ((zbq a0_2).bind fun t108 => (if t108 = true then ((zbq a0_3).bind fun t109 => (if t109 = true then ((zaz a0_4 bt102.2.2.2.1 bt102.2.2.2.2).bind fun t110 => (if t110 = true then (if bt102.2.1 = true then (if bt102.2.2.1 = true then (some true) else (some (a0_3 == 0))) else (if a0_2 = 0 then (if bt102.2.2.1 = true then (some true) else (some (a0_3 == 0))) else (some false))) else (some false))) else (some false))) else (some false))) else (some false))) else (some false))
theorem ziz : ∀ a0 a1 a2 a3 a4 k, LeO (ze7 k a0 a1 a2 a3 a4) (ze7 (k + 1) a0 a1 a2 a3 a4) := by
 intro a0 a1 a2 a3 a4 k
 unfold ze7
 repeat' first
     | (with_reducible first | exact zgl _ _ | exact LeO.refl _ | exact LeO.none _ | refine zai ?_ ?_ | refine LeO.bind ?_ (fun _ => ?_))
     | exact LeO.none _
     | refine zai ?_ ?_
     | refine LeO.bind ?_ (fun _ => ?_)
set_option maxHeartbeats 8000000 in
set_option maxRecDepth 100000 in
theorem zih (k : Nat) (a0_0 : ByteArray) (a0_1 : Int) (a0_2 : Int) (a0_3 : Int) (a0_4 : Int) (r : Bool) (w : World) (h : ze7 k a0_0 a0_1 a0_2 a0_3 a0_4 = some r) :
   Calls Try.prog 157 #[.agg #[.string a0_0, .int .i64 a0_1, .int .i64 a0_2, .int .i64 a0_3, .int .i64 a0_4]] w fun e w' => e = .returned (.bool r) ∧ Below w.heap.size w w' := by
 have hu94 := Try.underlying94
 have HB := zA (Below.refl w.heap.size w)
 have H : ((zdv k a0_0).bind fun bt102 => (if bt102.1 = true then ((zbq a0_1).bind fun t107 => (if t107 = true then ((zbq a0_2).bind fun t108 => (if t108 = true then ((zbq a0_3).bind fun t109 => (if t109 = true then ((zaz a0_4 bt102.2.2.2.1 bt102.2.2.2.2).bind fun t110 => (if t110 = true then (if bt102.2.1 = true then (if bt102.2.2.1 = true then (some true) else (some (a0_3 == 0))) else (if a0_2 = 0 then (if bt102.2.2.1 = true then (some true) else (some (a0_3 == 0))) else (some false))) else (some false))) else (some false))) else (some false))) else (some false))) else (some false))) = some r := h
 clear h
 replace H := zob H
 obtain ⟨⟨t102, t103, t104, t105, t106⟩, A20, H⟩ := H
 replace H : (if t102 = true then ((zbq a0_1).bind fun t107 => (if t107 = true then ((zbq a0_2).bind fun t108 => (if t108 = true then ((zbq a0_3).bind fun t109 => (if t109 = true then ((zaz a0_4 t105 t106).bind fun t110 => (if t110 = true then (if t103 = true then (if t104 = true then (some true) else (some (a0_3 == 0))) else (if a0_2 = 0 then (if t104 = true then (some true) else (some (a0_3 == 0))) else (some false))) else (some false))) else (some false))) else (some false))) else (some false))) else (some false)) = some r := H
 have A2 := zA A20
 clear A20
 by_cases c3 : t102 = true
 rotate_left
 · replace c3 := zbf c3
   subst c3
   replace H : (some false) = some r := by rw [if_neg (show ¬ (false = true) by decide)] at H; exact H
   obtain rfl := zsi H
   go_enter Try.func157, Try.ntmps157
   go_wp2_with (first | ((with_reducible refine zar (N := 1) rfl ?_); refine zat ?hg (N := 1) ?hd (cs := #[.string a0_0, .int .i64 a0_1, .int .i64 a0_2, .int .i64 a0_3, .int .i64 a0_4]) (t := 94) ?hr ?_; (case hd => rfl); (case hg => rfl); (case hr => go_simp <;> rfl); intro gb101 hg w34 hbox hb; have zs := zpair (by repeat (first | (with_reducible first | exact HB.out | apply zba | apply zbn | apply zbd) | exact HB.out)) hb; have n0_ := zA (zs.1); have n1_ := zA (hbox); have n2_ := zA ((by rw [hg]; exact zs.2 : w.heap.size ≤ gb101)); have n3_ := n2_; clear HB; have HB := n0_; have BK101 := n1_; have GW101 := n2_; have GE101 := n3_; clear n0_ n1_ n2_ n3_; clear zs hb hbox hg; obtain ⟨hcz35_0, hcz35_1, hcz35_2, hcz35_3, hcz35_4⟩ := zc5 w34 (.string a0_0) (.int .i64 a0_1) (.int .i64 a0_2) (.int .i64 a0_3) (.int .i64 a0_4) BK101.out; obtain ⟨hfz35_0, hfz35_1, hfz35_2, hfz35_3, hfz35_4⟩ := zf5 BK101.out) | ((with_reducible refine zah (f := 125) rfl ?_); refine za3 (some 11) rfl rfl Try.func125 (by kernel_rfl) rfl #[.string a0_0] rfl (by (try simp only [List.map_toArray, List.map_cons, List.map_nil]); first | done | rfl | (simp only [List.length_drop, List.length_take]; rfl)) ?_; (with_reducible refine (zcr k a0_0 false t103 t104 t105 t106 _ A2.out).mono ?_); rintro e w' ⟨rfl, ⟨nd, rfl⟩⟩; refine ⟨_, rfl, ?_⟩))
   go_ret
   exact ⟨by first | rfl | (simp [zad, zae] <;> rfl) | (simp [*, zad, zae] <;> rfl), by repeat (first | (with_reducible first | exact HB.out | apply zba | apply zbn | apply zbd | refine zab ?_ GE101.out) | exact HB.out)⟩
 subst c3
 replace H : ((zbq a0_1).bind fun t107 => (if t107 = true then ((zbq a0_2).bind fun t108 => (if t108 = true then ((zbq a0_3).bind fun t109 => (if t109 = true then ((zaz a0_4 t105 t106).bind fun t110 => (if t110 = true then (if t103 = true then (if t104 = true then (some true) else (some (a0_3 == 0))) else (if a0_2 = 0 then (if t104 = true then (some true) else (some (a0_3 == 0))) else (some false))) else (some false))) else (some false))) else (some false))) else (some false))) = some r := by rw [if_pos rfl] at H; exact H
 replace H := zob H
 obtain ⟨t107, A40, H⟩ := H
 replace H : (if t107 = true then ((zbq a0_2).bind fun t108 => (if t108 = true then ((zbq a0_3).bind fun t109 => (if t109 = true then ((zaz a0_4 t105 t106).bind fun t110 => (if t110 = true then (if t103 = true then (if t104 = true then (some true) else (some (a0_3 == 0))) else (if a0_2 = 0 then (if t104 = true then (some true) else (some (a0_3 == 0))) else (some false))) else (some false))) else (some false))) else (some false))) else (some false)) = some r := H
 have A4 := zA A40
 clear A40
 by_cases c5 : t107 = true
 rotate_left
 · replace c5 := zbf c5
   subst c5
   replace H : (some false) = some r := by rw [if_neg (show ¬ (false = true) by decide)] at H; exact H
   obtain rfl := zsi H
   go_enter Try.func157, Try.ntmps157
   go_wp2_with (first | ((with_reducible refine zar (N := 1) rfl ?_); refine zat ?hg (N := 1) ?hd (cs := #[.string a0_0, .int .i64 a0_1, .int .i64 a0_2, .int .i64 a0_3, .int .i64 a0_4]) (t := 94) ?hr ?_; (case hd => rfl); (case hg => rfl); (case hr => go_simp <;> rfl); intro gb101 hg w32 hbox hb; have zs := zpair (by repeat (first | (with_reducible first | exact HB.out | apply zba | apply zbn | apply zbd) | exact HB.out)) hb; have n0_ := zA (zs.1); have n1_ := zA (hbox); have n2_ := zA ((by rw [hg]; exact zs.2 : w.heap.size ≤ gb101)); have n3_ := n2_; clear HB; have HB := n0_; have BK101 := n1_; have GW101 := n2_; have GE101 := n3_; clear n0_ n1_ n2_ n3_; clear zs hb hbox hg; obtain ⟨hcz33_0, hcz33_1, hcz33_2, hcz33_3, hcz33_4⟩ := zc5 w32 (.string a0_0) (.int .i64 a0_1) (.int .i64 a0_2) (.int .i64 a0_3) (.int .i64 a0_4) BK101.out; obtain ⟨hfz33_0, hfz33_1, hfz33_2, hfz33_3, hfz33_4⟩ := zf5 BK101.out) | ((with_reducible refine zah (f := 125) rfl ?_); refine za3 (some 11) rfl rfl Try.func125 (by kernel_rfl) rfl #[.string a0_0] rfl (by (try simp only [List.map_toArray, List.map_cons, List.map_nil]); first | done | rfl | (simp only [List.length_drop, List.length_take]; rfl)) ?_; (with_reducible refine (zcr k a0_0 true t103 t104 t105 t106 _ A2.out).mono ?_); rintro e w' ⟨rfl, ⟨nd, rfl⟩⟩; refine ⟨_, rfl, ?_⟩) | (go_at_call 51; (with_reducible refine (zay a0_1 false _ A4.out).mono ?_); rintro e w' ⟨rfl, ⟨nd, rfl⟩⟩))
   go_ret
   exact ⟨by first | rfl | (simp [zad, zae] <;> rfl) | (simp [*, zad, zae] <;> rfl), by repeat (first | (with_reducible first | exact HB.out | apply zba | apply zbn | apply zbd | refine zab ?_ GE101.out) | exact HB.out)⟩
 subst c5
 replace H : ((zbq a0_2).bind fun t108 => (if t108 = true then ((zbq a0_3).bind fun t109 => (if t109 = true then ((zaz a0_4 t105 t106).bind fun t110 => (if t110 = true then (if t103 = true then (if t104 = true then (some true) else (some (a0_3 == 0))) else (if a0_2 = 0 then (if t104 = true then (some true) else (some (a0_3 == 0))) else (some false))) else (some false))) else (some false))) else (some false))) = some r := by rw [if_pos rfl] at H; exact H
 replace H := zob H
 obtain ⟨t108, A60, H⟩ := H
 replace H : (if t108 = true then ((zbq a0_3).bind fun t109 => (if t109 = true then ((zaz a0_4 t105 t106).bind fun t110 => (if t110 = true then (if t103 = true then (if t104 = true then (some true) else (some (a0_3 == 0))) else (if a0_2 = 0 then (if t104 = true then (some true) else (some (a0_3 == 0))) else (some false))) else (some false))) else (some false))) else (some false)) = some r := H
 have A6 := zA A60
 clear A60
 by_cases c7 : t108 = true
 rotate_left
 · replace c7 := zbf c7
   subst c7
   replace H : (some false) = some r := by rw [if_neg (show ¬ (false = true) by decide)] at H; exact H
   obtain rfl := zsi H
   go_enter Try.func157, Try.ntmps157
   go_wp2_with (first | ((with_reducible refine zar (N := 1) rfl ?_); refine zat ?hg (N := 1) ?hd (cs := #[.string a0_0, .int .i64 a0_1, .int .i64 a0_2, .int .i64 a0_3, .int .i64 a0_4]) (t := 94) ?hr ?_; (case hd => rfl); (case hg => rfl); (case hr => go_simp <;> rfl); intro gb101 hg w30 hbox hb; have zs := zpair (by repeat (first | (with_reducible first | exact HB.out | apply zba | apply zbn | apply zbd) | exact HB.out)) hb; have n0_ := zA (zs.1); have n1_ := zA (hbox); have n2_ := zA ((by rw [hg]; exact zs.2 : w.heap.size ≤ gb101)); have n3_ := n2_; clear HB; have HB := n0_; have BK101 := n1_; have GW101 := n2_; have GE101 := n3_; clear n0_ n1_ n2_ n3_; clear zs hb hbox hg; obtain ⟨hcz31_0, hcz31_1, hcz31_2, hcz31_3, hcz31_4⟩ := zc5 w30 (.string a0_0) (.int .i64 a0_1) (.int .i64 a0_2) (.int .i64 a0_3) (.int .i64 a0_4) BK101.out; obtain ⟨hfz31_0, hfz31_1, hfz31_2, hfz31_3, hfz31_4⟩ := zf5 BK101.out) | ((with_reducible refine zah (f := 125) rfl ?_); refine za3 (some 11) rfl rfl Try.func125 (by kernel_rfl) rfl #[.string a0_0] rfl (by (try simp only [List.map_toArray, List.map_cons, List.map_nil]); first | done | rfl | (simp only [List.length_drop, List.length_take]; rfl)) ?_; (with_reducible refine (zcr k a0_0 true t103 t104 t105 t106 _ A2.out).mono ?_); rintro e w' ⟨rfl, ⟨nd, rfl⟩⟩; refine ⟨_, rfl, ?_⟩) | (go_at_call 51; (with_reducible refine (zay a0_1 true _ A4.out).mono ?_); rintro e w' ⟨rfl, ⟨nd, rfl⟩⟩) | (go_at_call 51; (with_reducible refine (zay a0_2 false _ A6.out).mono ?_); rintro e w' ⟨rfl, ⟨nd, rfl⟩⟩))
   go_ret
   exact ⟨by first | rfl | (simp [zad, zae] <;> rfl) | (simp [*, zad, zae] <;> rfl), by repeat (first | (with_reducible first | exact HB.out | apply zba | apply zbn | apply zbd | refine zab ?_ GE101.out) | exact HB.out)⟩
 subst c7
 replace H : ((zbq a0_3).bind fun t109 => (if t109 = true then ((zaz a0_4 t105 t106).bind fun t110 => (if t110 = true then (if t103 = true then (if t104 = true then (some true) else (some (a0_3 == 0))) else (if a0_2 = 0 then (if t104 = true then (some true) else (some (a0_3 == 0))) else (some false))) else (some false))) else (some false))) = some r := by rw [if_pos rfl] at H; exact H
 replace H := zob H
 obtain ⟨t109, A80, H⟩ := H
 replace H : (if t109 = true then ((zaz a0_4 t105 t106).bind fun t110 => (if t110 = true then (if t103 = true then (if t104 = true then (some true) else (some (a0_3 == 0))) else (if a0_2 = 0 then (if t104 = true then (some true) else (some (a0_3 == 0))) else (some false))) else (some false))) else (some false)) = some r := H
 have A8 := zA A80
 clear A80
 by_cases c9 : t109 = true
 rotate_left
 · replace c9 := zbf c9
   subst c9
   replace H : (some false) = some r := by rw [if_neg (show ¬ (false = true) by decide)] at H; exact H
   obtain rfl := zsi H
   go_enter Try.func157, Try.ntmps157
   go_wp2_with (first | ((with_reducible refine zar (N := 1) rfl ?_); refine zat ?hg (N := 1) ?hd (cs := #[.string a0_0, .int .i64 a0_1, .int .i64 a0_2, .int .i64 a0_3, .int .i64 a0_4]) (t := 94) ?hr ?_; (case hd => rfl); (case hg => rfl); (case hr => go_simp <;> rfl); intro gb101 hg w28 hbox hb; have zs := zpair (by repeat (first | (with_reducible first | exact HB.out | apply zba | apply zbn | apply zbd) | exact HB.out)) hb; have n0_ := zA (zs.1); have n1_ := zA (hbox); have n2_ := zA ((by rw [hg]; exact zs.2 : w.heap.size ≤ gb101)); have n3_ := n2_; clear HB; have HB := n0_; have BK101 := n1_; have GW101 := n2_; have GE101 := n3_; clear n0_ n1_ n2_ n3_; clear zs hb hbox hg; obtain ⟨hcz29_0, hcz29_1, hcz29_2, hcz29_3, hcz29_4⟩ := zc5 w28 (.string a0_0) (.int .i64 a0_1) (.int .i64 a0_2) (.int .i64 a0_3) (.int .i64 a0_4) BK101.out; obtain ⟨hfz29_0, hfz29_1, hfz29_2, hfz29_3, hfz29_4⟩ := zf5 BK101.out) | ((with_reducible refine zah (f := 125) rfl ?_); refine za3 (some 11) rfl rfl Try.func125 (by kernel_rfl) rfl #[.string a0_0] rfl (by (try simp only [List.map_toArray, List.map_cons, List.map_nil]); first | done | rfl | (simp only [List.length_drop, List.length_take]; rfl)) ?_; (with_reducible refine (zcr k a0_0 true t103 t104 t105 t106 _ A2.out).mono ?_); rintro e w' ⟨rfl, ⟨nd, rfl⟩⟩; refine ⟨_, rfl, ?_⟩) | (go_at_call 51; (with_reducible refine (zay a0_1 true _ A4.out).mono ?_); rintro e w' ⟨rfl, ⟨nd, rfl⟩⟩) | (go_at_call 51; (with_reducible refine (zay a0_2 true _ A6.out).mono ?_); rintro e w' ⟨rfl, ⟨nd, rfl⟩⟩) | (go_at_call 51; (with_reducible refine (zay a0_3 false _ A8.out).mono ?_); rintro e w' ⟨rfl, ⟨nd, rfl⟩⟩))
   go_ret
   exact ⟨by first | rfl | (simp [zad, zae] <;> rfl) | (simp [*, zad, zae] <;> rfl), by repeat (first | (with_reducible first | exact HB.out | apply zba | apply zbn | apply zbd | refine zab ?_ GE101.out) | exact HB.out)⟩
 subst c9
 replace H : ((zaz a0_4 t105 t106).bind fun t110 => (if t110 = true then (if t103 = true then (if t104 = true then (some true) else (some (a0_3 == 0))) else (if a0_2 = 0 then (if t104 = true then (some true) else (some (a0_3 == 0))) else (some false))) else (some false))) = some r := by rw [if_pos rfl] at H; exact H
 replace H := zob H
 obtain ⟨t110, A100, H⟩ := H
 replace H : (if t110 = true then (if t103 = true then (if t104 = true then (some true) else (some (a0_3 == 0))) else (if a0_2 = 0 then (if t104 = true then (some true) else (some (a0_3 == 0))) else (some false))) else (some false)) = some r := H
 have A10 := zA A100
 clear A100
 by_cases c11 : t110 = true
 rotate_left
 · replace c11 := zbf c11
   subst c11
   replace H : (some false) = some r := by rw [if_neg (show ¬ (false = true) by decide)] at H; exact H
   obtain rfl := zsi H
   go_enter Try.func157, Try.ntmps157
   go_wp2_with (first | ((with_reducible refine zar (N := 1) rfl ?_); refine zat ?hg (N := 1) ?hd (cs := #[.string a0_0, .int .i64 a0_1, .int .i64 a0_2, .int .i64 a0_3, .int .i64 a0_4]) (t := 94) ?hr ?_; (case hd => rfl); (case hg => rfl); (case hr => go_simp <;> rfl); intro gb101 hg w26 hbox hb; have zs := zpair (by repeat (first | (with_reducible first | exact HB.out | apply zba | apply zbn | apply zbd) | exact HB.out)) hb; have n0_ := zA (zs.1); have n1_ := zA (hbox); have n2_ := zA ((by rw [hg]; exact zs.2 : w.heap.size ≤ gb101)); have n3_ := n2_; clear HB; have HB := n0_; have BK101 := n1_; have GW101 := n2_; have GE101 := n3_; clear n0_ n1_ n2_ n3_; clear zs hb hbox hg; obtain ⟨hcz27_0, hcz27_1, hcz27_2, hcz27_3, hcz27_4⟩ := zc5 w26 (.string a0_0) (.int .i64 a0_1) (.int .i64 a0_2) (.int .i64 a0_3) (.int .i64 a0_4) BK101.out; obtain ⟨hfz27_0, hfz27_1, hfz27_2, hfz27_3, hfz27_4⟩ := zf5 BK101.out) | ((with_reducible refine zah (f := 125) rfl ?_); refine za3 (some 11) rfl rfl Try.func125 (by kernel_rfl) rfl #[.string a0_0] rfl (by (try simp only [List.map_toArray, List.map_cons, List.map_nil]); first | done | rfl | (simp only [List.length_drop, List.length_take]; rfl)) ?_; (with_reducible refine (zcr k a0_0 true t103 t104 t105 t106 _ A2.out).mono ?_); rintro e w' ⟨rfl, ⟨nd, rfl⟩⟩; refine ⟨_, rfl, ?_⟩) | (go_at_call 51; (with_reducible refine (zay a0_1 true _ A4.out).mono ?_); rintro e w' ⟨rfl, ⟨nd, rfl⟩⟩) | (go_at_call 51; (with_reducible refine (zay a0_2 true _ A6.out).mono ?_); rintro e w' ⟨rfl, ⟨nd, rfl⟩⟩) | (go_at_call 51; (with_reducible refine (zay a0_3 true _ A8.out).mono ?_); rintro e w' ⟨rfl, ⟨nd, rfl⟩⟩) | (go_at_call 50; (with_reducible refine (zbm a0_4 t105 t106 false _ A10.out).mono ?_); rintro e w' ⟨rfl, ⟨nd, rfl⟩⟩))
   go_ret
   exact ⟨by first | rfl | (simp [zad, zae] <;> rfl) | (simp [*, zad, zae] <;> rfl), by repeat (first | (with_reducible first | exact HB.out | apply zba | apply zbn | apply zbd | refine zab ?_ GE101.out) | exact HB.out)⟩
 subst c11
 replace H : (if t103 = true then (if t104 = true then (some true) else (some (a0_3 == 0))) else (if a0_2 = 0 then (if t104 = true then (some true) else (some (a0_3 == 0))) else (some false))) = some r := by rw [if_pos rfl] at H; exact H
 by_cases c12 : t103 = true
 · subst c12
   replace H : (if t104 = true then (some true) else (some (a0_3 == 0))) = some r := by rw [if_pos rfl] at H; exact H
   by_cases c13 : t104 = true
   · subst c13
     replace H : (some true) = some r := by rw [if_pos rfl] at H; exact H
     obtain rfl := zsi H
     go_enter Try.func157, Try.ntmps157
     go_wp2_with (first | ((with_reducible refine zar (N := 1) rfl ?_); refine zat ?hg (N := 1) ?hd (cs := #[.string a0_0, .int .i64 a0_1, .int .i64 a0_2, .int .i64 a0_3, .int .i64 a0_4]) (t := 94) ?hr ?_; (case hd => rfl); (case hg => rfl); (case hr => go_simp <;> rfl); intro gb101 hg w14 hbox hb; have zs := zpair (by repeat (first | (with_reducible first | exact HB.out | apply zba | apply zbn | apply zbd) | exact HB.out)) hb; have n0_ := zA (zs.1); have n1_ := zA (hbox); have n2_ := zA ((by rw [hg]; exact zs.2 : w.heap.size ≤ gb101)); have n3_ := n2_; clear HB; have HB := n0_; have BK101 := n1_; have GW101 := n2_; have GE101 := n3_; clear n0_ n1_ n2_ n3_; clear zs hb hbox hg; obtain ⟨hcz15_0, hcz15_1, hcz15_2, hcz15_3, hcz15_4⟩ := zc5 w14 (.string a0_0) (.int .i64 a0_1) (.int .i64 a0_2) (.int .i64 a0_3) (.int .i64 a0_4) BK101.out; obtain ⟨hfz15_0, hfz15_1, hfz15_2, hfz15_3, hfz15_4⟩ := zf5 BK101.out) | ((with_reducible refine zah (f := 125) rfl ?_); refine za3 (some 11) rfl rfl Try.func125 (by kernel_rfl) rfl #[.string a0_0] rfl (by (try simp only [List.map_toArray, List.map_cons, List.map_nil]); first | done | rfl | (simp only [List.length_drop, List.length_take]; rfl)) ?_; (with_reducible refine (zcr k a0_0 true true true t105 t106 _ A2.out).mono ?_); rintro e w' ⟨rfl, ⟨nd, rfl⟩⟩; refine ⟨_, rfl, ?_⟩) | (go_at_call 51; (with_reducible refine (zay a0_1 true _ A4.out).mono ?_); rintro e w' ⟨rfl, ⟨nd, rfl⟩⟩) | (go_at_call 51; (with_reducible refine (zay a0_2 true _ A6.out).mono ?_); rintro e w' ⟨rfl, ⟨nd, rfl⟩⟩) | (go_at_call 51; (with_reducible refine (zay a0_3 true _ A8.out).mono ?_); rintro e w' ⟨rfl, ⟨nd, rfl⟩⟩) | (go_at_call 50; (with_reducible refine (zbm a0_4 t105 t106 true _ A10.out).mono ?_); rintro e w' ⟨rfl, ⟨nd, rfl⟩⟩))
     go_ret
     exact ⟨by first | rfl | (simp [zad, zae] <;> rfl) | (simp [*, zad, zae] <;> rfl), by repeat (first | (with_reducible first | exact HB.out | apply zba | apply zbn | apply zbd | refine zab ?_ GE101.out) | exact HB.out)⟩
   replace c13 := zbf c13
   subst c13
   replace H : (some (a0_3 == 0)) = some r := by rw [if_neg (show ¬ (false = true) by decide)] at H; exact H
   obtain rfl := zsi H
   go_enter Try.func157, Try.ntmps157
   go_wp2_with (first | ((with_reducible refine zar (N := 1) rfl ?_); refine zat ?hg (N := 1) ?hd (cs := #[.string a0_0, .int .i64 a0_1, .int .i64 a0_2, .int .i64 a0_3, .int .i64 a0_4]) (t := 94) ?hr ?_; (case hd => rfl); (case hg => rfl); (case hr => go_simp <;> rfl); intro gb101 hg w16 hbox hb; have zs := zpair (by repeat (first | (with_reducible first | exact HB.out | apply zba | apply zbn | apply zbd) | exact HB.out)) hb; have n0_ := zA (zs.1); have n1_ := zA (hbox); have n2_ := zA ((by rw [hg]; exact zs.2 : w.heap.size ≤ gb101)); have n3_ := n2_; clear HB; have HB := n0_; have BK101 := n1_; have GW101 := n2_; have GE101 := n3_; clear n0_ n1_ n2_ n3_; clear zs hb hbox hg; obtain ⟨hcz17_0, hcz17_1, hcz17_2, hcz17_3, hcz17_4⟩ := zc5 w16 (.string a0_0) (.int .i64 a0_1) (.int .i64 a0_2) (.int .i64 a0_3) (.int .i64 a0_4) BK101.out; obtain ⟨hfz17_0, hfz17_1, hfz17_2, hfz17_3, hfz17_4⟩ := zf5 BK101.out) | ((with_reducible refine zah (f := 125) rfl ?_); refine za3 (some 11) rfl rfl Try.func125 (by kernel_rfl) rfl #[.string a0_0] rfl (by (try simp only [List.map_toArray, List.map_cons, List.map_nil]); first | done | rfl | (simp only [List.length_drop, List.length_take]; rfl)) ?_; (with_reducible refine (zcr k a0_0 true true false t105 t106 _ A2.out).mono ?_); rintro e w' ⟨rfl, ⟨nd, rfl⟩⟩; refine ⟨_, rfl, ?_⟩) | (go_at_call 51; (with_reducible refine (zay a0_1 true _ A4.out).mono ?_); rintro e w' ⟨rfl, ⟨nd, rfl⟩⟩) | (go_at_call 51; (with_reducible refine (zay a0_2 true _ A6.out).mono ?_); rintro e w' ⟨rfl, ⟨nd, rfl⟩⟩) | (go_at_call 51; (with_reducible refine (zay a0_3 true _ A8.out).mono ?_); rintro e w' ⟨rfl, ⟨nd, rfl⟩⟩) | (go_at_call 50; (with_reducible refine (zbm a0_4 t105 t106 true _ A10.out).mono ?_); rintro e w' ⟨rfl, ⟨nd, rfl⟩⟩))
   go_ret
   exact ⟨by first | rfl | (simp [zad, zae] <;> rfl) | (simp [*, zad, zae] <;> rfl), by repeat (first | (with_reducible first | exact HB.out | apply zba | apply zbn | apply zbd | refine zab ?_ GE101.out) | exact HB.out)⟩
 replace c12 := zbf c12
 subst c12
 replace H : (if a0_2 = 0 then (if t104 = true then (some true) else (some (a0_3 == 0))) else (some false)) = some r := by rw [if_neg (show ¬ (false = true) by decide)] at H; exact H
 by_cases c18 : a0_2 = 0
 rotate_left
 · rw [if_neg c18] at H
   have c18b0 : (a0_2 == 0) = false := beq_eq_false_iff_ne.mpr c18
   have c18b1 : (a0_2 != 0) = true := bne_iff_ne.mpr c18
   obtain rfl := zsi H
   go_enter Try.func157, Try.ntmps157
   go_wp2_with (first | ((with_reducible refine zar (N := 1) rfl ?_); refine zat ?hg (N := 1) ?hd (cs := #[.string a0_0, .int .i64 a0_1, .int .i64 a0_2, .int .i64 a0_3, .int .i64 a0_4]) (t := 94) ?hr ?_; (case hd => rfl); (case hg => rfl); (case hr => go_simp <;> rfl); intro gb101 hg w24 hbox hb; have zs := zpair (by repeat (first | (with_reducible first | exact HB.out | apply zba | apply zbn | apply zbd) | exact HB.out)) hb; have n0_ := zA (zs.1); have n1_ := zA (hbox); have n2_ := zA ((by rw [hg]; exact zs.2 : w.heap.size ≤ gb101)); have n3_ := n2_; clear HB; have HB := n0_; have BK101 := n1_; have GW101 := n2_; have GE101 := n3_; clear n0_ n1_ n2_ n3_; clear zs hb hbox hg; obtain ⟨hcz25_0, hcz25_1, hcz25_2, hcz25_3, hcz25_4⟩ := zc5 w24 (.string a0_0) (.int .i64 a0_1) (.int .i64 a0_2) (.int .i64 a0_3) (.int .i64 a0_4) BK101.out; obtain ⟨hfz25_0, hfz25_1, hfz25_2, hfz25_3, hfz25_4⟩ := zf5 BK101.out) | ((with_reducible refine zah (f := 125) rfl ?_); refine za3 (some 11) rfl rfl Try.func125 (by kernel_rfl) rfl #[.string a0_0] rfl (by (try simp only [List.map_toArray, List.map_cons, List.map_nil]); first | done | rfl | (simp only [List.length_drop, List.length_take]; rfl)) ?_; (with_reducible refine (zcr k a0_0 true false t104 t105 t106 _ A2.out).mono ?_); rintro e w' ⟨rfl, ⟨nd, rfl⟩⟩; refine ⟨_, rfl, ?_⟩) | (go_at_call 51; (with_reducible refine (zay a0_1 true _ A4.out).mono ?_); rintro e w' ⟨rfl, ⟨nd, rfl⟩⟩) | (go_at_call 51; (with_reducible refine (zay a0_2 true _ A6.out).mono ?_); rintro e w' ⟨rfl, ⟨nd, rfl⟩⟩) | (go_at_call 51; (with_reducible refine (zay a0_3 true _ A8.out).mono ?_); rintro e w' ⟨rfl, ⟨nd, rfl⟩⟩) | (go_at_call 50; (with_reducible refine (zbm a0_4 t105 t106 true _ A10.out).mono ?_); rintro e w' ⟨rfl, ⟨nd, rfl⟩⟩))
   go_ret
   exact ⟨by first | rfl | (simp [zad, zae] <;> rfl) | (simp [*, zad, zae] <;> rfl), by repeat (first | (with_reducible first | exact HB.out | apply zba | apply zbn | apply zbd | refine zab ?_ GE101.out) | exact HB.out)⟩
 rw [if_pos c18] at H
 have c18b0 : (a0_2 == 0) = true := beq_iff_eq.mpr c18
 have c18b1 : (a0_2 != 0) = false := bne_eq_false_iff_eq.mpr c18
 clear c18
 by_cases c19 : t104 = true
 · subst c19
   replace H : (some true) = some r := by rw [if_pos rfl] at H; exact H
   obtain rfl := zsi H
   go_enter Try.func157, Try.ntmps157
   go_wp2_with (first | ((with_reducible refine zar (N := 1) rfl ?_); refine zat ?hg (N := 1) ?hd (cs := #[.string a0_0, .int .i64 a0_1, .int .i64 a0_2, .int .i64 a0_3, .int .i64 a0_4]) (t := 94) ?hr ?_; (case hd => rfl); (case hg => rfl); (case hr => go_simp <;> rfl); intro gb101 hg w20 hbox hb; have zs := zpair (by repeat (first | (with_reducible first | exact HB.out | apply zba | apply zbn | apply zbd) | exact HB.out)) hb; have n0_ := zA (zs.1); have n1_ := zA (hbox); have n2_ := zA ((by rw [hg]; exact zs.2 : w.heap.size ≤ gb101)); have n3_ := n2_; clear HB; have HB := n0_; have BK101 := n1_; have GW101 := n2_; have GE101 := n3_; clear n0_ n1_ n2_ n3_; clear zs hb hbox hg; obtain ⟨hcz21_0, hcz21_1, hcz21_2, hcz21_3, hcz21_4⟩ := zc5 w20 (.string a0_0) (.int .i64 a0_1) (.int .i64 a0_2) (.int .i64 a0_3) (.int .i64 a0_4) BK101.out; obtain ⟨hfz21_0, hfz21_1, hfz21_2, hfz21_3, hfz21_4⟩ := zf5 BK101.out) | ((with_reducible refine zah (f := 125) rfl ?_); refine za3 (some 11) rfl rfl Try.func125 (by kernel_rfl) rfl #[.string a0_0] rfl (by (try simp only [List.map_toArray, List.map_cons, List.map_nil]); first | done | rfl | (simp only [List.length_drop, List.length_take]; rfl)) ?_; (with_reducible refine (zcr k a0_0 true false true t105 t106 _ A2.out).mono ?_); rintro e w' ⟨rfl, ⟨nd, rfl⟩⟩; refine ⟨_, rfl, ?_⟩) | (go_at_call 51; (with_reducible refine (zay a0_1 true _ A4.out).mono ?_); rintro e w' ⟨rfl, ⟨nd, rfl⟩⟩) | (go_at_call 51; (with_reducible refine (zay a0_2 true _ A6.out).mono ?_); rintro e w' ⟨rfl, ⟨nd, rfl⟩⟩) | (go_at_call 51; (with_reducible refine (zay a0_3 true _ A8.out).mono ?_); rintro e w' ⟨rfl, ⟨nd, rfl⟩⟩) | (go_at_call 50; (with_reducible refine (zbm a0_4 t105 t106 true _ A10.out).mono ?_); rintro e w' ⟨rfl, ⟨nd, rfl⟩⟩))
   go_ret
   exact ⟨by first | rfl | (simp [zad, zae] <;> rfl) | (simp [*, zad, zae] <;> rfl), by repeat (first | (with_reducible first | exact HB.out | apply zba | apply zbn | apply zbd | refine zab ?_ GE101.out) | exact HB.out)⟩
 replace c19 := zbf c19
 subst c19
 replace H : (some (a0_3 == 0)) = some r := by rw [if_neg (show ¬ (false = true) by decide)] at H; exact H
 obtain rfl := zsi H
 go_enter Try.func157, Try.ntmps157
 go_wp2_with (first | ((with_reducible refine zar (N := 1) rfl ?_); refine zat ?hg (N := 1) ?hd (cs := #[.string a0_0, .int .i64 a0_1, .int .i64 a0_2, .int .i64 a0_3, .int .i64 a0_4]) (t := 94) ?hr ?_; (case hd => rfl); (case hg => rfl); (case hr => go_simp <;> rfl); intro gb101 hg w22 hbox hb; have zs := zpair (by repeat (first | (with_reducible first | exact HB.out | apply zba | apply zbn | apply zbd) | exact HB.out)) hb; have n0_ := zA (zs.1); have n1_ := zA (hbox); have n2_ := zA ((by rw [hg]; exact zs.2 : w.heap.size ≤ gb101)); have n3_ := n2_; clear HB; have HB := n0_; have BK101 := n1_; have GW101 := n2_; have GE101 := n3_; clear n0_ n1_ n2_ n3_; clear zs hb hbox hg; obtain ⟨hcz23_0, hcz23_1, hcz23_2, hcz23_3, hcz23_4⟩ := zc5 w22 (.string a0_0) (.int .i64 a0_1) (.int .i64 a0_2) (.int .i64 a0_3) (.int .i64 a0_4) BK101.out; obtain ⟨hfz23_0, hfz23_1, hfz23_2, hfz23_3, hfz23_4⟩ := zf5 BK101.out) | ((with_reducible refine zah (f := 125) rfl ?_); refine za3 (some 11) rfl rfl Try.func125 (by kernel_rfl) rfl #[.string a0_0] rfl (by (try simp only [List.map_toArray, List.map_cons, List.map_nil]); first | done | rfl | (simp only [List.length_drop, List.length_take]; rfl)) ?_; (with_reducible refine (zcr k a0_0 true false false t105 t106 _ A2.out).mono ?_); rintro e w' ⟨rfl, ⟨nd, rfl⟩⟩; refine ⟨_, rfl, ?_⟩) | (go_at_call 51; (with_reducible refine (zay a0_1 true _ A4.out).mono ?_); rintro e w' ⟨rfl, ⟨nd, rfl⟩⟩) | (go_at_call 51; (with_reducible refine (zay a0_2 true _ A6.out).mono ?_); rintro e w' ⟨rfl, ⟨nd, rfl⟩⟩) | (go_at_call 51; (with_reducible refine (zay a0_3 true _ A8.out).mono ?_); rintro e w' ⟨rfl, ⟨nd, rfl⟩⟩) | (go_at_call 50; (with_reducible refine (zbm a0_4 t105 t106 true _ A10.out).mono ?_); rintro e w' ⟨rfl, ⟨nd, rfl⟩⟩))
 go_ret
 exact ⟨by first | rfl | (simp [zad, zae] <;> rfl) | (simp [*, zad, zae] <;> rfl), by repeat (first | (with_reducible first | exact HB.out | apply zba | apply zbn | apply zbd | refine zab ?_ GE101.out) | exact HB.out)⟩
def zce : Nat → List (S94) → Int → Int → Option (Bool)
 | 0, _, _, _ => none
 | k + 1, x8, x9, x10 => if x10 < x9 then (if 0 ≤ x10 then (if x10 < (x8.length : Int) then ((ze7 k ((zaa x8 x10).f0) ((zaa x8 x10).f1) ((zaa x8 x10).f2) ((zaa x8 x10).f3) ((zaa x8 x10).f4)).bind fun t103 => (if t103 = true then (zce k x8 x9 (wrap64 (x10 + 1))) else (some false))) else (none)) else (none)) else (some true)
def zey (k : Nat) (l0 : List (S94)) : Option (Bool) := if (l0.length : Int) > 40 then (some false) else (zce k l0 (l0.length : Int) 0)
theorem zhs : ∀ k, (∀ y0 y1 y2, LeO (zce k y0 y1 y2) (zce (k + 1) y0 y1 y2))
 | 0 => fun _ _ _ r h => by simp [zce] at h
 | k + 1 => by
   have ih0 := zhs k
   · intro y0 y1 y2
     unfold zce
     repeat' first
     | (with_reducible first | exact ih0 _ _ _ | exact ziz _ _ _ _ _ _ | exact LeO.refl _ | exact LeO.none _ | refine zai ?_ ?_ | refine LeO.bind ?_ (fun _ => ?_))
     | exact LeO.none _
     | refine zai ?_ ?_
     | refine LeO.bind ?_ (fun _ => ?_)
theorem zly : ∀ a0 k, LeO (zey k a0) (zey (k + 1) a0) := by
 intro a0 k
 have ih0 := zhs k
 unfold zey
 repeat' first
     | (with_reducible first | exact ih0 _ _ _ | exact ziz _ _ _ _ _ _ | exact LeO.refl _ | exact LeO.none _ | refine zai ?_ ?_ | refine LeO.bind ?_ (fun _ => ?_))
     | exact LeO.none _
     | refine zai ?_ ?_
     | refine LeO.bind ?_ (fun _ => ?_)
set_option maxHeartbeats 8000000 in
set_option maxRecDepth 100000 in
theorem zk9 (k : Nat) (A0 : Option Addr) (c0 : Nat) (l0 : List (S94)) (r : Bool) (w : World) (hr0 : Kd.C k94 w A0 l0.length l0) (hc0 : l0.length ≤ c0) (h : zey k l0 = some r) :
   Calls Try.prog 104 #[.slice A0 l0.length c0] w fun e w' => e = .returned (.bool r) ∧ Below w.heap.size w w' := by
 have hu94 := Try.underlying94
 have HR0 := zA hr0
 have HC0 := zA hc0
 clear hr0 hc0
 have HB := zA (Below.refl w.heap.size w)
 have H : (if (l0.length : Int) > 40 then (some false) else (zce k l0 (l0.length : Int) 0)) = some r := h
 clear h
 by_cases c2 : (l0.length : Int) > 40
 · rw [if_pos c2] at H
   have c2b0 : decide (40 < (l0.length : Int)) = true := zdt c2
   have c2b1 : decide (40 < l0.length) = true := zdt (by omega)
   clear c2
   obtain rfl := zsi H
   go_enter Try.func104, Try.ntmps104
   go_wp2
   go_ret
   exact ⟨by first | rfl | (simp [zad, zae] <;> rfl) | (simp [*, zad, zae] <;> rfl), by repeat (first | (with_reducible first | exact HB.out | apply zba | apply zbn | apply zbd) | exact HB.out)⟩
 rw [if_neg c2] at H
 have c2b0 : decide (40 < (l0.length : Int)) = false := zdf c2
 have c2b1 : decide (40 < l0.length) = false := zdf (by omega)
 clear c2
 have H' := zA H
 clear H
 go_enter Try.func104, Try.ntmps104
 go_wp2
 go_loopg [10] k (fun kq v10 w' => ∃ (x10_1 : Int), v10 = .int .i64 x10_1 ∧ Aside0 (zce kq l0 (l0.length : Int) x10_1 = some r) ∧ Aside0 (kq ≤ k) ∧ Aside0 (Below w.heap.size w w'))
 case atStart => exact ⟨(0), (by first | rfl | (simp; done) | (simp [*]; done)), H', ⟨zlr _⟩, ⟨by repeat (first | (with_reducible first | exact HB.out | apply zba | apply zbn | apply zbd) | exact HB.out)⟩⟩
 clear H'
 try clear c1
 try clear c2
 try clear c2b0
 try clear c2b1
 try clear p2
 obtain ⟨x10_1, rfl, HA, HK1, HB⟩ := hrel
 cases gk with
 | zero => exact absurd HA.out (by simp [zce])
 | succ k1 =>
 have H := HA.out
 clear HA
 simp only [zce] at H
 by_cases c3 : x10_1 < (l0.length : Int)
 rotate_left
 · rw [if_neg c3] at H
   have c3b0 : decide (x10_1 < (l0.length : Int)) = false := zdf c3
   clear c3
   obtain rfl := zsi H
   go_wp2
   go_ret
   exact ⟨by first | rfl | (simp [zad, zae] <;> rfl) | (simp [*, zad, zae] <;> rfl), by repeat (first | (with_reducible first | exact HB.out | apply zba | apply zbn | apply zbd) | exact HB.out)⟩
 rw [if_pos c3] at H
 have c3b0 : decide (x10_1 < (l0.length : Int)) = true := zdt c3
 clear c3
 by_cases c4 : 0 ≤ x10_1
 rotate_left
 · rw [if_neg c4] at H
   exact absurd H (by simp)
 rw [if_pos c4] at H
 have c4b0 : decide (0 ≤ x10_1) = true := zdt c4
 clear c4
 by_cases c5 : x10_1 < (l0.length : Int)
 rotate_left
 · rw [if_neg c5] at H
   exact absurd H (by simp)
 rw [if_pos c5] at H
 have c5b0 : decide (x10_1 < (l0.length : Int)) = true := zdt c5
 clear c5
 replace H := zob H
 obtain ⟨t103, A60, H⟩ := H
 replace H : (if t103 = true then (zce k1 l0 (l0.length : Int) (wrap64 (x10_1 + 1))) else (some false)) = some r := H
 have A6 := zA A60
 clear A60
 by_cases c7 : t103 = true
 rotate_left
 · replace c7 := zbf c7
   subst c7
   replace H : (some false) = some r := by rw [if_neg (show ¬ (false = true) by decide)] at H; exact H
   obtain rfl := zsi H
   have p101 : 0 ≤ (x10_1 : Int) := zde (by assumption)
   have q101 : x10_1 < (l0.length : Int) := zde (by assumption)
   obtain ⟨ad101, e101, hx101_0, hx101_1, hx101_2, hx101_3, hx101_4⟩ := ziv HR0.out x10_1 p101 q101
   cases e101
   replace hx101_0 := zkep HB.out hx101_0
   replace hx101_1 := zkep HB.out hx101_1
   replace hx101_2 := zkep HB.out hx101_2
   replace hx101_3 := zkep HB.out hx101_3
   replace hx101_4 := zkep HB.out hx101_4
   replace p101 := eq_true p101
   replace q101 := eq_true q101
   go_wp2_with (first | ((with_reducible refine zar (N := 4) rfl ?_); refine zat ?hg (N := 4) ?hd (cs := #[.string (⟨#[]⟩ : ByteArray), .int .i64 0, .int .i64 0, .int .i64 0, .int .i64 0]) (t := 94) ?hr ?_; (case hd => rfl); (case hg => rfl); (case hr => go_simp <;> rfl); intro gb102 hg w11 hbox hb; have zs := zpair (by repeat (first | (with_reducible first | exact HB.out | apply zba | apply zbn | apply zbd) | exact HB.out)) hb; have n0_ := zA (zs.1); have n1_ := zA (hbox); have n2_ := zA ((by rw [hg]; exact zs.2 : w.heap.size ≤ gb102)); have n3_ := n2_; clear HB; have HB := n0_; have BK102 := n1_; have GW102 := n2_; have GE102 := n3_; clear n0_ n1_ n2_ n3_; clear zs hb hbox hg; obtain ⟨hcz12_0, hcz12_1, hcz12_2, hcz12_3, hcz12_4⟩ := zc5 w11 (.string (⟨#[]⟩ : ByteArray)) (.int .i64 0) (.int .i64 0) (.int .i64 0) (.int .i64 0) BK102.out; obtain ⟨hfz12_0, hfz12_1, hfz12_2, hfz12_3, hfz12_4⟩ := zf5 BK102.out) | ((with_reducible refine zah (f := 157) rfl ?_); refine za3 (some 15) rfl rfl Try.func157 (by kernel_rfl) rfl #[.agg #[.string ((zaa l0 x10_1).f0), .int .i64 ((zaa l0 x10_1).f1), .int .i64 ((zaa l0 x10_1).f2), .int .i64 ((zaa l0 x10_1).f3), .int .i64 ((zaa l0 x10_1).f4)]] rfl (by (try simp only [List.map_toArray, List.map_cons, List.map_nil]); first | done | rfl | (simp only [List.length_drop, List.length_take]; rfl)) ?_; (with_reducible refine (zih k1 ((zaa l0 x10_1).f0) ((zaa l0 x10_1).f1) ((zaa l0 x10_1).f2) ((zaa l0 x10_1).f3) ((zaa l0 x10_1).f4) false _ A6.out).mono ?_); rintro e w13 ⟨rfl, hb⟩; refine ⟨_, rfl, ?_⟩; have n0_ := zA (zaj (g := gb102) (o := .cells #[.string ((zaa l0 x10_1).f0), .int .i64 ((zaa l0 x10_1).f1), .int .i64 ((zaa l0 x10_1).f2), .int .i64 ((zaa l0 x10_1).f3), .int .i64 ((zaa l0 x10_1).f4)] 94 (0, 0)) (by (with_reducible repeat (first | refine zkn ?_ _ | refine zkd ?_ | refine zka ?_ _)); refine zan (cs := #[.string ((zaa l0 x10_1).f0), .int .i64 ((zaa l0 x10_1).f1), .int .i64 ((zaa l0 x10_1).f2), .int .i64 ((zaa l0 x10_1).f3), .int .i64 0]) ?_ 4 _ rfl; (with_reducible repeat (first | refine zkn ?_ _ | refine zkd ?_ | refine zka ?_ _)); refine zan (cs := #[.string ((zaa l0 x10_1).f0), .int .i64 ((zaa l0 x10_1).f1), .int .i64 ((zaa l0 x10_1).f2), .int .i64 0, .int .i64 0]) ?_ 3 _ rfl; (with_reducible repeat (first | refine zkn ?_ _ | refine zkd ?_ | refine zka ?_ _)); refine zan (cs := #[.string ((zaa l0 x10_1).f0), .int .i64 ((zaa l0 x10_1).f1), .int .i64 0, .int .i64 0, .int .i64 0]) ?_ 2 _ rfl; (with_reducible repeat (first | refine zkn ?_ _ | refine zkd ?_ | refine zka ?_ _)); refine zan (cs := #[.string ((zaa l0 x10_1).f0), .int .i64 0, .int .i64 0, .int .i64 0, .int .i64 0]) ?_ 1 _ rfl; (with_reducible repeat (first | refine zkn ?_ _ | refine zkd ?_ | refine zka ?_ _)); refine zan (cs := #[.string (⟨#[]⟩ : ByteArray), .int .i64 0, .int .i64 0, .int .i64 0, .int .i64 0]) ?_ 0 _ rfl; (with_reducible repeat (first | refine zkn ?_ _ | refine zkd ?_ | refine zka ?_ _)); exact BK102.out) hb); have n1_ := zA (zag (by repeat (first | (with_reducible first | exact HB.out | apply zba | apply zbn | apply zbd | refine zab ?_ GE102.out) | exact HB.out)) hb); clear BK102 HB; have BK102 := n0_; have HB := n1_; clear n0_ n1_; (try clear hb)))
   go_ret
   exact ⟨by first | rfl | (simp [zad, zae] <;> rfl) | (simp [*, zad, zae] <;> rfl), by repeat (first | (with_reducible first | exact HB.out | apply zba | apply zbn | apply zbd | refine zab ?_ GE102.out) | exact HB.out)⟩
 subst c7
 replace H : (zce k1 l0 (l0.length : Int) (wrap64 (x10_1 + 1))) = some r := by rw [if_pos rfl] at H; exact H
 have H' := zA H
 clear H
 have p101 : 0 ≤ (x10_1 : Int) := zde (by assumption)
 have q101 : x10_1 < (l0.length : Int) := zde (by assumption)
 obtain ⟨ad101, e101, hx101_0, hx101_1, hx101_2, hx101_3, hx101_4⟩ := ziv HR0.out x10_1 p101 q101
 cases e101
 replace hx101_0 := zkep HB.out hx101_0
 replace hx101_1 := zkep HB.out hx101_1
 replace hx101_2 := zkep HB.out hx101_2
 replace hx101_3 := zkep HB.out hx101_3
 replace hx101_4 := zkep HB.out hx101_4
 replace p101 := eq_true p101
 replace q101 := eq_true q101
 go_wp2_with (first | ((with_reducible refine zar (N := 4) rfl ?_); refine zat ?hg (N := 4) ?hd (cs := #[.string (⟨#[]⟩ : ByteArray), .int .i64 0, .int .i64 0, .int .i64 0, .int .i64 0]) (t := 94) ?hr ?_; (case hd => rfl); (case hg => rfl); (case hr => go_simp <;> rfl); intro gb102 hg w8 hbox hb; have zs := zpair (by repeat (first | (with_reducible first | exact HB.out | apply zba | apply zbn | apply zbd) | exact HB.out)) hb; have n0_ := zA (zs.1); have n1_ := zA (hbox); have n2_ := zA ((by rw [hg]; exact zs.2 : w.heap.size ≤ gb102)); have n3_ := n2_; clear HB; have HB := n0_; have BK102 := n1_; have GW102 := n2_; have GE102 := n3_; clear n0_ n1_ n2_ n3_; clear zs hb hbox hg; obtain ⟨hcz9_0, hcz9_1, hcz9_2, hcz9_3, hcz9_4⟩ := zc5 w8 (.string (⟨#[]⟩ : ByteArray)) (.int .i64 0) (.int .i64 0) (.int .i64 0) (.int .i64 0) BK102.out; obtain ⟨hfz9_0, hfz9_1, hfz9_2, hfz9_3, hfz9_4⟩ := zf5 BK102.out) | ((with_reducible refine zah (f := 157) rfl ?_); refine za3 (some 15) rfl rfl Try.func157 (by kernel_rfl) rfl #[.agg #[.string ((zaa l0 x10_1).f0), .int .i64 ((zaa l0 x10_1).f1), .int .i64 ((zaa l0 x10_1).f2), .int .i64 ((zaa l0 x10_1).f3), .int .i64 ((zaa l0 x10_1).f4)]] rfl (by (try simp only [List.map_toArray, List.map_cons, List.map_nil]); first | done | rfl | (simp only [List.length_drop, List.length_take]; rfl)) ?_; (with_reducible refine (zih k1 ((zaa l0 x10_1).f0) ((zaa l0 x10_1).f1) ((zaa l0 x10_1).f2) ((zaa l0 x10_1).f3) ((zaa l0 x10_1).f4) true _ A6.out).mono ?_); rintro e w10 ⟨rfl, hb⟩; refine ⟨_, rfl, ?_⟩; have n0_ := zA (zaj (g := gb102) (o := .cells #[.string ((zaa l0 x10_1).f0), .int .i64 ((zaa l0 x10_1).f1), .int .i64 ((zaa l0 x10_1).f2), .int .i64 ((zaa l0 x10_1).f3), .int .i64 ((zaa l0 x10_1).f4)] 94 (0, 0)) (by (with_reducible repeat (first | refine zkn ?_ _ | refine zkd ?_ | refine zka ?_ _)); refine zan (cs := #[.string ((zaa l0 x10_1).f0), .int .i64 ((zaa l0 x10_1).f1), .int .i64 ((zaa l0 x10_1).f2), .int .i64 ((zaa l0 x10_1).f3), .int .i64 0]) ?_ 4 _ rfl; (with_reducible repeat (first | refine zkn ?_ _ | refine zkd ?_ | refine zka ?_ _)); refine zan (cs := #[.string ((zaa l0 x10_1).f0), .int .i64 ((zaa l0 x10_1).f1), .int .i64 ((zaa l0 x10_1).f2), .int .i64 0, .int .i64 0]) ?_ 3 _ rfl; (with_reducible repeat (first | refine zkn ?_ _ | refine zkd ?_ | refine zka ?_ _)); refine zan (cs := #[.string ((zaa l0 x10_1).f0), .int .i64 ((zaa l0 x10_1).f1), .int .i64 0, .int .i64 0, .int .i64 0]) ?_ 2 _ rfl; (with_reducible repeat (first | refine zkn ?_ _ | refine zkd ?_ | refine zka ?_ _)); refine zan (cs := #[.string ((zaa l0 x10_1).f0), .int .i64 0, .int .i64 0, .int .i64 0, .int .i64 0]) ?_ 1 _ rfl; (with_reducible repeat (first | refine zkn ?_ _ | refine zkd ?_ | refine zka ?_ _)); refine zan (cs := #[.string (⟨#[]⟩ : ByteArray), .int .i64 0, .int .i64 0, .int .i64 0, .int .i64 0]) ?_ 0 _ rfl; (with_reducible repeat (first | refine zkn ?_ _ | refine zkd ?_ | refine zka ?_ _)); exact BK102.out) hb); have n1_ := zA (zag (by repeat (first | (with_reducible first | exact HB.out | apply zba | apply zbn | apply zbd | refine zab ?_ GE102.out) | exact HB.out)) hb); clear BK102 HB; have BK102 := n0_; have HB := n1_; clear n0_ n1_; (try clear hb)))
 go_roundg k1
 case measure => have := HK1.out; omega
 case rel => exact ⟨(wrap64 (x10_1 + 1)), (by first | rfl | (simp; done) | (simp [*]; done)), H', ⟨by have := HK1.out; omega⟩, ⟨by repeat (first | (with_reducible first | exact HB.out | apply zba | apply zbn | apply zbd | refine zab ?_ GE102.out) | exact HB.out)⟩⟩
def zez (k : Nat) (l0 : List (S94)) : Option (Bool) := if (l0.length : Int) ≤ 20 then ((zey k l0).bind fun t101 => (some t101)) else (some false)
theorem zi0 : ∀ a0 k, LeO (zez k a0) (zez (k + 1) a0) := by
 intro a0 k
 unfold zez
 repeat' first
     | (with_reducible first | exact zly _ _ | exact LeO.refl _ | exact LeO.none _ | refine zai ?_ ?_ | refine LeO.bind ?_ (fun _ => ?_))
     | exact LeO.none _
     | refine zai ?_ ?_
     | refine LeO.bind ?_ (fun _ => ?_)
set_option maxHeartbeats 8000000 in
set_option maxRecDepth 100000 in
theorem zii (k : Nat) (A0 : Option Addr) (c0 : Nat) (l0 : List (S94)) (r : Bool) (w : World) (hr0 : Kd.C k94 w A0 l0.length l0) (hc0 : l0.length ≤ c0) (h : zez k l0 = some r) :
   Calls Try.prog 52 #[.slice A0 l0.length c0] w fun e w' => e = .returned (.bool r) ∧ Below w.heap.size w w' := by
 have HR0 := zA hr0
 have HC0 := zA hc0
 clear hr0 hc0
 have HB := zA (Below.refl w.heap.size w)
 have H : (if (l0.length : Int) ≤ 20 then ((zey k l0).bind fun t101 => (some t101)) else (some false)) = some r := h
 clear h
 by_cases c2 : (l0.length : Int) ≤ 20
 · rw [if_pos c2] at H
   have c2b0 : decide ((l0.length : Int) ≤ 20) = true := zdt c2
   have c2b1 : decide (l0.length ≤ 20) = true := zdt (by omega)
   clear c2
   replace H := zob H
   obtain ⟨t101, A30, H⟩ := H
   replace H : (some t101) = some r := H
   have A3 := zA A30
   clear A30
   obtain rfl := zsi H
   go_enter Try.func52, Try.ntmps52
   go_wp2_with (first | (go_at_call 104; (with_reducible refine (zk9 k _ _ l0 t101 _ ?side1 ?side2 A3.out).mono ?_); (case side1 => repeat (first | exact HR0.out | (with_reducible first | refine zCa ?_ _ | refine zCn ?_ _ | refine zCd ?_))); (case side2 => exact HC0.out); rintro e w4 ⟨rfl, hb⟩; have n0_ := zA (zag (by repeat (first | (with_reducible first | exact HB.out | apply zba | apply zbn | apply zbd) | exact HB.out)) hb); clear HB; have HB := n0_; clear n0_; (try clear hb)))
   go_ret
   exact ⟨by first | rfl | (simp [zad, zae] <;> rfl) | (simp [*, zad, zae] <;> rfl), by repeat (first | (with_reducible first | exact HB.out | apply zba | apply zbn | apply zbd) | exact HB.out)⟩
 · rw [if_neg c2] at H
   have c2b0 : decide ((l0.length : Int) ≤ 20) = false := zdf c2
   have c2b1 : decide (l0.length ≤ 20) = false := zdf (by omega)
   clear c2
   obtain rfl := zsi H
   go_enter Try.func52, Try.ntmps52
   go_wp2
   go_ret
   exact ⟨by first | rfl | (simp [zad, zae] <;> rfl) | (simp [*, zad, zae] <;> rfl), by repeat (first | (with_reducible first | exact HB.out | apply zba | apply zbn | apply zbd) | exact HB.out)⟩
def zfk (a0 : ByteArray) : Option (Bool) := if a0.toList = ([110, 111, 116] : List UInt8) then (some true) else (some (a0.toList == ([110, 101, 103] : List UInt8)))
set_option maxHeartbeats 8000000 in
set_option maxRecDepth 100000 in
theorem zda (a0 : ByteArray) (r : Bool) (w : World) (h : zfk a0 = some r) :
   Calls Try.prog 141 #[.string a0] w fun e w' => e = .returned (.bool r) ∧ Drawn0 w w' := by
 have H : (if a0.toList = ([110, 111, 116] : List UInt8) then (some true) else (some (a0.toList == ([110, 101, 103] : List UInt8)))) = some r := h
 clear h
 by_cases c2 : a0.toList = ([110, 111, 116] : List UInt8)
 · rw [if_pos c2] at H
   have c2b0 : (a0.toList == ([110, 111, 116] : List UInt8)) = true := beq_iff_eq.mpr c2
   have c2b1 : (a0.toList != ([110, 111, 116] : List UInt8)) = false := bne_eq_false_iff_eq.mpr c2
   clear c2
   obtain rfl := zsi H
   go_enter Try.func141, Try.ntmps141
   go_wp2
   go_ret
   exact ⟨by first | rfl | (simp; done) | (simp [*]; done), by repeat (first | exact Drawn0.refl _ | apply Drawn0.step)⟩
 · rw [if_neg c2] at H
   have c2b0 : (a0.toList == ([110, 111, 116] : List UInt8)) = false := beq_eq_false_iff_ne.mpr c2
   have c2b1 : (a0.toList != ([110, 111, 116] : List UInt8)) = true := bne_iff_ne.mpr c2
   obtain rfl := zsi H
   go_enter Try.func141, Try.ntmps141
   go_wp2
   go_ret
   exact ⟨by first | rfl | (simp; done) | (simp [*]; done), by repeat (first | exact Drawn0.refl _ | apply Drawn0.step)⟩
def zht  : Option (List ByteArray) := some (([(⟨#[97, 100, 100]⟩ : ByteArray), (⟨#[115, 117, 98]⟩ : ByteArray), (⟨#[109, 117, 108]⟩ : ByteArray), (⟨#[97, 110, 100]⟩ : ByteArray), (⟨#[111, 114]⟩ : ByteArray), (⟨#[120, 111, 114]⟩ : ByteArray), (⟨#[115, 104, 108]⟩ : ByteArray), (⟨#[115, 104, 114]⟩ : ByteArray), (⟨#[108, 101, 115, 115]⟩ : ByteArray), (⟨#[101, 113]⟩ : ByteArray)] : List ByteArray))
set_option maxHeartbeats 8000000 in
set_option maxRecDepth 100000 in
theorem zlz  (r : List ByteArray) (w : World) (h : zht  = some r) :
   Calls Try.prog 177 #[] w fun e w' => ∃ v0_ : Value, e = .returned (v0_) ∧ Kd.R Kd.string 9 w' w.heap.size (fun _ => True) v0_ r ∧ Below w.heap.size w w' := by
 have HB := zA (Below.refl w.heap.size w)
 have H : (some (([(⟨#[97, 100, 100]⟩ : ByteArray), (⟨#[115, 117, 98]⟩ : ByteArray), (⟨#[109, 117, 108]⟩ : ByteArray), (⟨#[97, 110, 100]⟩ : ByteArray), (⟨#[111, 114]⟩ : ByteArray), (⟨#[120, 111, 114]⟩ : ByteArray), (⟨#[115, 104, 108]⟩ : ByteArray), (⟨#[115, 104, 114]⟩ : ByteArray), (⟨#[108, 101, 115, 115]⟩ : ByteArray), (⟨#[101, 113]⟩ : ByteArray)] : List ByteArray))) = some r := h
 clear h
 obtain ⟨y101, hy101⟩ : ∃ y_ : List ByteArray, y_ = (([(⟨#[97, 100, 100]⟩ : ByteArray), (⟨#[115, 117, 98]⟩ : ByteArray), (⟨#[109, 117, 108]⟩ : ByteArray), (⟨#[97, 110, 100]⟩ : ByteArray), (⟨#[111, 114]⟩ : ByteArray), (⟨#[120, 111, 114]⟩ : ByteArray), (⟨#[115, 104, 108]⟩ : ByteArray), (⟨#[115, 104, 114]⟩ : ByteArray), (⟨#[108, 101, 115, 115]⟩ : ByteArray), (⟨#[101, 113]⟩ : ByteArray)] : List ByteArray)) := ⟨_, rfl⟩
 replace H : (some y101) = some r := by first | (rw [hy101]; with_reducible exact H) | (have H2_ := (Option.bind_some _ _).symm.trans H; rw [hy101]; with_reducible exact H2_) | (have H2_ := (Option.bind_some _ _).symm.trans H; with_reducible exact H2_) | with_reducible exact H | (rw [hy101]; exact H) | exact H
 have Ny101 := zA hy101
 clear hy101
 obtain rfl := zsi H
 go_enter Try.func177, Try.ntmps177
 go_wp2_with (first | ((with_reducible refine zar (N := 1) rfl ?_); refine Kd.R_lit Kd.string _ 9 ?hg (N := 1) ?hd (xs := ([(⟨#[97, 100, 100]⟩ : ByteArray), (⟨#[115, 117, 98]⟩ : ByteArray), (⟨#[109, 117, 108]⟩ : ByteArray), (⟨#[97, 110, 100]⟩ : ByteArray), (⟨#[111, 114]⟩ : ByteArray), (⟨#[120, 111, 114]⟩ : ByteArray), (⟨#[115, 104, 108]⟩ : ByteArray), (⟨#[115, 104, 114]⟩ : ByteArray), (⟨#[108, 101, 115, 115]⟩ : ByteArray), (⟨#[101, 113]⟩ : ByteArray)] : List ByteArray)) (inner := [.string (⟨#[97, 100, 100]⟩ : ByteArray), .string (⟨#[115, 117, 98]⟩ : ByteArray), .string (⟨#[109, 117, 108]⟩ : ByteArray), .string (⟨#[97, 110, 100]⟩ : ByteArray), .string (⟨#[111, 114]⟩ : ByteArray), .string (⟨#[120, 111, 114]⟩ : ByteArray), .string (⟨#[115, 104, 108]⟩ : ByteArray), .string (⟨#[115, 104, 114]⟩ : ByteArray), .string (⟨#[108, 101, 115, 115]⟩ : ByteArray), .string (⟨#[101, 113]⟩ : ByteArray)]) (ok := fun _ => True) (okp := fun _ => True) ?hr ?hp (fun _ hk => hk) trivial (Below.refl _ _) (zlr _) (by simp) ?_; (case hd => rfl); (case hg => rfl); (case hr => go_simp <;> rfl); (case hp => exact (zcb (show Kd.M Kd.string _ _ _ (⟨#[97, 100, 100]⟩ : ByteArray) [.string (⟨#[97, 100, 100]⟩ : ByteArray)] from rfl) (zcb (show Kd.M Kd.string _ _ _ (⟨#[115, 117, 98]⟩ : ByteArray) [.string (⟨#[115, 117, 98]⟩ : ByteArray)] from rfl) (zcb (show Kd.M Kd.string _ _ _ (⟨#[109, 117, 108]⟩ : ByteArray) [.string (⟨#[109, 117, 108]⟩ : ByteArray)] from rfl) (zcb (show Kd.M Kd.string _ _ _ (⟨#[97, 110, 100]⟩ : ByteArray) [.string (⟨#[97, 110, 100]⟩ : ByteArray)] from rfl) (zcb (show Kd.M Kd.string _ _ _ (⟨#[111, 114]⟩ : ByteArray) [.string (⟨#[111, 114]⟩ : ByteArray)] from rfl) (zcb (show Kd.M Kd.string _ _ _ (⟨#[120, 111, 114]⟩ : ByteArray) [.string (⟨#[120, 111, 114]⟩ : ByteArray)] from rfl) (zcb (show Kd.M Kd.string _ _ _ (⟨#[115, 104, 108]⟩ : ByteArray) [.string (⟨#[115, 104, 108]⟩ : ByteArray)] from rfl) (zcb (show Kd.M Kd.string _ _ _ (⟨#[115, 104, 114]⟩ : ByteArray) [.string (⟨#[115, 104, 114]⟩ : ByteArray)] from rfl) (zcb (show Kd.M Kd.string _ _ _ (⟨#[108, 101, 115, 115]⟩ : ByteArray) [.string (⟨#[108, 101, 115, 115]⟩ : ByteArray)] from rfl) (zcb (show Kd.M Kd.string _ _ _ (⟨#[101, 113]⟩ : ByteArray) [.string (⟨#[101, 113]⟩ : ByteArray)] from rfl) (Reps.none _ _)))))))))))); intro v102 w1 ho2 hb hg_ hnew_; clear hg_ hnew_; (first | rw [← Ny101.out] at ho2 | (simp only [Int.reduceToNat] at ho2; rw [← Ny101.out] at ho2)); have n0_ := zA (Kd.R_lower ho2 (za0 (by repeat (first | (with_reducible first | exact HB.out | apply zba | apply zbn | apply zbd) | exact HB.out)))); have n1_ := zA (zag (by repeat (first | (with_reducible first | exact HB.out | apply zba | apply zbn | apply zbd) | exact HB.out)) hb); clear HB; have HO103 := n0_; have HB := n1_; clear n0_ n1_; clear hb ho2))
 go_ret
 exact ⟨_, by first | rfl | (simp [zad, zae] <;> rfl) | (simp [*, zad, zae] <;> rfl), by (with_reducible repeat (first | apply zRa | apply zRn | apply zRd)); exact HO103.out, by repeat (first | (with_reducible first | exact HB.out | apply zba | apply zbn | apply zbd) | exact HB.out)⟩
def zcv : Nat → ByteArray → List ByteArray → Int → Int → Option (Bool)
 | 0, _, _, _, _ => none
 | k + 1, x1, x7, x8, x9 => if x9 < x8 then (if 0 ≤ x9 then (if x9 < (x7.length : Int) then (if (rdOf ByteArray.empty x7 x9).toList = x1.toList then (some true) else (zcv k x1 x7 x8 (wrap64 (x9 + 1)))) else (none)) else (none)) else (some false)
def zej (k : Nat) (l0 : List ByteArray) (a1 : ByteArray) : Option (Bool) := zcv k a1 l0 (l0.length : Int) 0
theorem zhu : ∀ k, (∀ y0 y1 y2 y3, LeO (zcv k y0 y1 y2 y3) (zcv (k + 1) y0 y1 y2 y3))
 | 0 => fun _ _ _ _ r h => by simp [zcv] at h
 | k + 1 => by
   have ih0 := zhu k
   · intro y0 y1 y2 y3
     unfold zcv
     repeat' first
     | (with_reducible first | exact ih0 _ _ _ _ | exact LeO.refl _ | exact LeO.none _ | refine zai ?_ ?_ | refine LeO.bind ?_ (fun _ => ?_))
     | exact LeO.none _
     | refine zai ?_ ?_
     | refine LeO.bind ?_ (fun _ => ?_)
theorem zl0 : ∀ a0 a1 k, LeO (zej k a0 a1) (zej (k + 1) a0 a1) := by
 intro a0 a1 k
 have ih0 := zhu k
 unfold zej
 repeat' first
     | (with_reducible first | exact ih0 _ _ _ _ | exact LeO.refl _ | exact LeO.none _ | refine zai ?_ ?_ | refine LeO.bind ?_ (fun _ => ?_))
     | exact LeO.none _
     | refine zai ?_ ?_
     | refine LeO.bind ?_ (fun _ => ?_)
set_option maxHeartbeats 8000000 in
set_option maxRecDepth 100000 in
theorem zla (k : Nat) (A0 : Option Addr) (c0 : Nat) (l0 : List ByteArray) (a1 : ByteArray) (r : Bool) (w : World) (hr0 : Kd.C Kd.string w A0 l0.length l0) (hc0 : l0.length ≤ c0) (h : zej k l0 a1 = some r) :
   Calls Try.prog 126 #[.slice A0 l0.length c0, .string a1] w fun e w' => e = .returned (.bool r) ∧ Drawn0 w w' := by
 have HR0 := zA hr0
 have HC0 := zA hc0
 clear hr0 hc0
 have H : (zcv k a1 l0 (l0.length : Int) 0) = some r := h
 clear h
 have H' := zA H
 clear H
 go_enter Try.func126, Try.ntmps126
 go_wp2
 go_loopg [9] k (fun kq v9 w' => ∃ (x9_1 : Int), v9 = .int .i64 x9_1 ∧ Aside0 (zcv kq a1 l0 (l0.length : Int) x9_1 = some r) ∧ Aside0 (kq ≤ k) ∧ Drawn0 w w')
 case atStart => exact ⟨(0), (by first | rfl | (simp; done) | (simp [*]; done)), H', ⟨zlr _⟩, by repeat (first | exact Drawn0.refl _ | apply Drawn0.step)⟩
 clear H'
 try clear c1
 try clear p2
 obtain ⟨x9_1, rfl, HA, HK1, ⟨m1, rfl⟩⟩ := hrel
 cases gk with
 | zero => exact absurd HA.out (by simp [zcv])
 | succ k1 =>
 have H := HA.out
 clear HA
 simp only [zcv] at H
 by_cases c3 : x9_1 < (l0.length : Int)
 rotate_left
 · rw [if_neg c3] at H
   have c3b0 : decide (x9_1 < (l0.length : Int)) = false := zdf c3
   clear c3
   obtain rfl := zsi H
   go_wp2
   go_ret
   exact ⟨by first | rfl | (simp; done) | (simp [*]; done), by repeat (first | exact Drawn0.refl _ | apply Drawn0.step)⟩
 rw [if_pos c3] at H
 have c3b0 : decide (x9_1 < (l0.length : Int)) = true := zdt c3
 clear c3
 by_cases c4 : 0 ≤ x9_1
 rotate_left
 · rw [if_neg c4] at H
   exact absurd H (by simp)
 rw [if_pos c4] at H
 have c4b0 : decide (0 ≤ x9_1) = true := zdt c4
 clear c4
 by_cases c5 : x9_1 < (l0.length : Int)
 rotate_left
 · rw [if_neg c5] at H
   exact absurd H (by simp)
 rw [if_pos c5] at H
 have c5b0 : decide (x9_1 < (l0.length : Int)) = true := zdt c5
 clear c5
 by_cases c6 : (rdOf ByteArray.empty l0 x9_1).toList = a1.toList
 · rw [if_pos c6] at H
   have c6b0 : ((rdOf ByteArray.empty l0 x9_1).toList == a1.toList) = true := beq_iff_eq.mpr c6
   have c6b1 : ((rdOf ByteArray.empty l0 x9_1).toList != a1.toList) = false := bne_eq_false_iff_eq.mpr c6
   clear c6
   obtain rfl := zsi H
   have p101 : 0 ≤ (x9_1 : Int) := zde (by assumption)
   have q101 : x9_1 < (l0.length : Int) := zde (by assumption)
   obtain ⟨ad101, e101, hx101_0⟩ := Kd.at_string HR0.out x9_1 p101 q101
   cases e101
   replace p101 := eq_true p101
   replace q101 := eq_true q101
   go_wp2
   go_ret
   exact ⟨by first | rfl | (simp; done) | (simp [*]; done), by repeat (first | exact Drawn0.refl _ | apply Drawn0.step)⟩
 rw [if_neg c6] at H
 have c6b0 : ((rdOf ByteArray.empty l0 x9_1).toList == a1.toList) = false := beq_eq_false_iff_ne.mpr c6
 have c6b1 : ((rdOf ByteArray.empty l0 x9_1).toList != a1.toList) = true := bne_iff_ne.mpr c6
 have H' := zA H
 clear H
 have p101 : 0 ≤ (x9_1 : Int) := zde (by assumption)
 have q101 : x9_1 < (l0.length : Int) := zde (by assumption)
 obtain ⟨ad101, e101, hx101_0⟩ := Kd.at_string HR0.out x9_1 p101 q101
 cases e101
 replace p101 := eq_true p101
 replace q101 := eq_true q101
 go_wp2
 go_roundg k1
 case measure => have := HK1.out; omega
 case rel => exact ⟨(wrap64 (x9_1 + 1)), (by first | rfl | (simp; done) | (simp [*]; done)), H', ⟨by have := HK1.out; omega⟩, by repeat (first | exact Drawn0.refl _ | apply Drawn0.step)⟩
def zdg (k : Nat) (a0 : ByteArray) : Option (Bool) := (zht).bind fun t101 => ((zej k t101 a0).bind fun t104 => (some t104))
theorem zi7 : ∀ a0 k, LeO (zdg k a0) (zdg (k + 1) a0) := by
 intro a0 k
 unfold zdg
 repeat' first
     | (with_reducible first | exact zl0 _ _ _ | exact LeO.refl _ | exact LeO.none _ | refine zai ?_ ?_ | refine LeO.bind ?_ (fun _ => ?_))
     | exact LeO.none _
     | refine zai ?_ ?_
     | refine LeO.bind ?_ (fun _ => ?_)
set_option maxHeartbeats 8000000 in
set_option maxRecDepth 100000 in
theorem zet (k : Nat) (a0 : ByteArray) (r : Bool) (w : World) (h : zdg k a0 = some r) :
   Calls Try.prog 142 #[.string a0] w fun e w' => e = .returned (.bool r) ∧ Below w.heap.size w w' := by
 have HB := zA (Below.refl w.heap.size w)
 have H : ((zht).bind fun t101 => ((zej k t101 a0).bind fun t104 => (some t104))) = some r := h
 clear h
 replace H := zob H
 obtain ⟨t101, A20, H⟩ := H
 replace H : ((zej k t101 a0).bind fun t104 => (some t104)) = some r := H
 have A2 := zA A20
 clear A20
 replace H := zob H
 obtain ⟨t104, A30, H⟩ := H
 replace H : (some t104) = some r := H
 have A3 := zA A30
 clear A30
 obtain rfl := zsi H
 go_enter Try.func142, Try.ntmps142
 go_wp2_with (first | ((with_reducible refine zah (f := 177) rfl ?_); refine za3 (some 3) rfl rfl Try.func177 (by kernel_rfl) rfl #[] rfl (by (try simp only [List.map_toArray, List.map_cons, List.map_nil]); first | done | rfl | (simp only [List.length_drop, List.length_take]; rfl)) ?_; (with_reducible refine (zlz  t101 _ A2.out).mono ?_); rintro e w4 ⟨v102, rfl, ho0, hb⟩; refine ⟨_, rfl, ?_⟩; have n0_ := zA (Kd.R_lower ho0 (za0 (by repeat (first | (with_reducible first | exact HB.out | apply zba | apply zbn | apply zbd) | exact HB.out)))); have n1_ := zA (zag (by repeat (first | (with_reducible first | exact HB.out | apply zba | apply zbn | apply zbd) | exact HB.out)) hb); clear HB; have HO103 := n0_; have HB := n1_; clear n0_ n1_; (try clear hb); (try clear ho0); obtain ⟨Ao5, co5, eo5⟩ := Kd.R_slice HO103.out; subst eo5) | ((with_reducible refine zah (f := 126) rfl ?_); refine za3 (some 5) rfl rfl Try.func126 (by kernel_rfl) rfl #[.slice Ao5 t101.length co5, .string a0] rfl (by (try simp only [List.map_toArray, List.map_cons, List.map_nil]); first | done | rfl | (simp only [List.length_drop, List.length_take]; rfl)) ?_; (with_reducible refine (zla k _ _ t101 a0 t104 _ ?side1 ?side2 A3.out).mono ?_); (case side1 => repeat (first | exact (zRr HO103.out).2.2 | (with_reducible first | refine zCa ?_ _ | refine zCn ?_ _ | refine zCd ?_))); (case side2 => exact (zRr HO103.out).2.1); rintro e w' ⟨rfl, ⟨nd, rfl⟩⟩; refine ⟨_, rfl, ?_⟩))
 go_ret
 exact ⟨by first | rfl | (simp [zad, zae] <;> rfl) | (simp [*, zad, zae] <;> rfl), by repeat (first | (with_reducible first | exact HB.out | apply zba | apply zbn | apply zbd) | exact HB.out)⟩
def zg8 (a0 : Int) : Option (Bool) := (zaz a0 0 63).bind fun t101 => (some t101)
set_option maxHeartbeats 8000000 in
set_option maxRecDepth 100000 in
theorem zlb (a0 : Int) (r : Bool) (w : World) (h : zg8 a0 = some r) :
   Calls Try.prog 140 #[.int .i64 a0] w fun e w' => e = .returned (.bool r) ∧ Drawn0 w w' := by
 have H : ((zaz a0 0 63).bind fun t101 => (some t101)) = some r := h
 clear h
 replace H := zob H
 obtain ⟨t101, A20, H⟩ := H
 replace H : (some t101) = some r := H
 have A2 := zA A20
 clear A20
 obtain rfl := zsi H
 go_enter Try.func140, Try.ntmps140
 go_wp2_with (first | ((with_reducible refine zah (f := 50) rfl ?_); refine za3 (some 4) rfl rfl Try.func50 (by kernel_rfl) rfl #[.int .i64 a0, .int .i64 0, .int .i64 63] rfl (by (try simp only [List.map_toArray, List.map_cons, List.map_nil]); first | done | rfl | (simp only [List.length_drop, List.length_take]; rfl)) ?_; (with_reducible refine (zbm a0 0 63 t101 _ A2.out).mono ?_); rintro e w' ⟨rfl, ⟨nd, rfl⟩⟩; refine ⟨_, rfl, ?_⟩))
 go_ret
 exact ⟨by first | rfl | (simp; done) | (simp [*]; done), by repeat (first | exact Drawn0.refl _ | apply Drawn0.step)⟩
def ze8 (k : Nat) (a0_0 : ByteArray) (a0_1 : Int) (a0_2 : Int) (a0_3 : Int) (a1 : Int) : Option (Bool) := if a0_0.toList = ([105, 110] : List UInt8) then (if a0_1 = 0 then (if a0_2 = 0 then ((zaz a0_3 0 1).bind fun t102 => (some t102)) else (some false)) else (some false)) else (if a0_0.toList = ([99, 111, 110, 115, 116] : List UInt8) then (if a0_1 = 0 then (if a0_2 = 0 then ((zg8 a0_3).bind fun t103 => (some t103)) else (some false)) else (some false)) else ((zfk a0_0).bind fun t104 => (if t104 = true then ((zaz a0_1 0 (wrap64 (a1 - 1))).bind fun t105 => (if t105 = true then (if a0_2 = 0 then (some (a0_3 == 0)) else (some false)) else (some false))) else ((zdg k a0_0).bind fun t106 => (if t106 = true then ((zaz a0_1 0 (wrap64 (a1 - 1))).bind fun t107 => (if t107 = true then ((zaz a0_2 0 (wrap64 (a1 - 1))).bind fun t108 => (if t108 = true then (some (a0_3 == 0)) else (some false))) else (some false))) else (some false))))))
theorem zi1 : ∀ a0 a1 a2 a3 a4 k, LeO (ze8 k a0 a1 a2 a3 a4) (ze8 (k + 1) a0 a1 a2 a3 a4) := by
 intro a0 a1 a2 a3 a4 k
 unfold ze8
 repeat' first
     | (with_reducible first | exact zi7 _ _ | exact LeO.refl _ | exact LeO.none _ | refine zai ?_ ?_ | refine LeO.bind ?_ (fun _ => ?_))
     | exact LeO.none _
     | refine zai ?_ ?_
     | refine LeO.bind ?_ (fun _ => ?_)
set_option maxHeartbeats 8000000 in
set_option maxRecDepth 100000 in
theorem zij (k : Nat) (a0_0 : ByteArray) (a0_1 : Int) (a0_2 : Int) (a0_3 : Int) (a1 : Int) (r : Bool) (w : World) (h : ze8 k a0_0 a0_1 a0_2 a0_3 a1 = some r) :
   Calls Try.prog 92 #[.agg #[.string a0_0, .int .i64 a0_1, .int .i64 a0_2, .int .i64 a0_3], .int .i64 a1] w fun e w' => e = .returned (.bool r) ∧ Below w.heap.size w w' := by
 have hu72 := Try.underlying72
 have HB := zA (Below.refl w.heap.size w)
 have H : (if a0_0.toList = ([105, 110] : List UInt8) then (if a0_1 = 0 then (if a0_2 = 0 then ((zaz a0_3 0 1).bind fun t102 => (some t102)) else (some false)) else (some false)) else (if a0_0.toList = ([99, 111, 110, 115, 116] : List UInt8) then (if a0_1 = 0 then (if a0_2 = 0 then ((zg8 a0_3).bind fun t103 => (some t103)) else (some false)) else (some false)) else ((zfk a0_0).bind fun t104 => (if t104 = true then ((zaz a0_1 0 (wrap64 (a1 - 1))).bind fun t105 => (if t105 = true then (if a0_2 = 0 then (some (a0_3 == 0)) else (some false)) else (some false))) else ((zdg k a0_0).bind fun t106 => (if t106 = true then ((zaz a0_1 0 (wrap64 (a1 - 1))).bind fun t107 => (if t107 = true then ((zaz a0_2 0 (wrap64 (a1 - 1))).bind fun t108 => (if t108 = true then (some (a0_3 == 0)) else (some false))) else (some false))) else (some false))))))) = some r := h
 clear h
 by_cases c3 : a0_0.toList = ([105, 110] : List UInt8)
 · rw [if_pos c3] at H
   have c3b0 : (a0_0.toList == ([105, 110] : List UInt8)) = true := beq_iff_eq.mpr c3
   have c3b1 : (a0_0.toList != ([105, 110] : List UInt8)) = false := bne_eq_false_iff_eq.mpr c3
   clear c3
   by_cases c4 : a0_1 = 0
   rotate_left
   · rw [if_neg c4] at H
     have c4b0 : (a0_1 == 0) = false := beq_eq_false_iff_ne.mpr c4
     have c4b1 : (a0_1 != 0) = true := bne_iff_ne.mpr c4
     obtain rfl := zsi H
     go_enter Try.func92, Try.ntmps92
     go_wp2_with (first | ((with_reducible refine zar (N := 2) rfl ?_); refine zat ?hg (N := 2) ?hd (cs := #[.string a0_0, .int .i64 a0_1, .int .i64 a0_2, .int .i64 a0_3]) (t := 72) ?hr ?_; (case hd => rfl); (case hg => rfl); (case hr => go_simp <;> rfl); intro gb101 hg w11 hbox hb; have zs := zpair (by repeat (first | (with_reducible first | exact HB.out | apply zba | apply zbn | apply zbd) | exact HB.out)) hb; have n0_ := zA (zs.1); have n1_ := zA (hbox); have n2_ := zA ((by rw [hg]; exact zs.2 : w.heap.size ≤ gb101)); have n3_ := n2_; clear HB; have HB := n0_; have BK101 := n1_; have GW101 := n2_; have GE101 := n3_; clear n0_ n1_ n2_ n3_; clear zs hb hbox hg; obtain ⟨hcz12_0, hcz12_1, hcz12_2, hcz12_3⟩ := zc4 w11 (.string a0_0) (.int .i64 a0_1) (.int .i64 a0_2) (.int .i64 a0_3) BK101.out; obtain ⟨hfz12_0, hfz12_1, hfz12_2, hfz12_3⟩ := zf4 BK101.out))
     go_ret
     exact ⟨by first | rfl | (simp [zad, zae] <;> rfl) | (simp [*, zad, zae] <;> rfl), by repeat (first | (with_reducible first | exact HB.out | apply zba | apply zbn | apply zbd | refine zab ?_ GE101.out) | exact HB.out)⟩
   rw [if_pos c4] at H
   have c4b0 : (a0_1 == 0) = true := beq_iff_eq.mpr c4
   have c4b1 : (a0_1 != 0) = false := bne_eq_false_iff_eq.mpr c4
   clear c4
   by_cases c5 : a0_2 = 0
   rotate_left
   · rw [if_neg c5] at H
     have c5b0 : (a0_2 == 0) = false := beq_eq_false_iff_ne.mpr c5
     have c5b1 : (a0_2 != 0) = true := bne_iff_ne.mpr c5
     obtain rfl := zsi H
     go_enter Try.func92, Try.ntmps92
     go_wp2_with (first | ((with_reducible refine zar (N := 2) rfl ?_); refine zat ?hg (N := 2) ?hd (cs := #[.string a0_0, .int .i64 a0_1, .int .i64 a0_2, .int .i64 a0_3]) (t := 72) ?hr ?_; (case hd => rfl); (case hg => rfl); (case hr => go_simp <;> rfl); intro gb101 hg w9 hbox hb; have zs := zpair (by repeat (first | (with_reducible first | exact HB.out | apply zba | apply zbn | apply zbd) | exact HB.out)) hb; have n0_ := zA (zs.1); have n1_ := zA (hbox); have n2_ := zA ((by rw [hg]; exact zs.2 : w.heap.size ≤ gb101)); have n3_ := n2_; clear HB; have HB := n0_; have BK101 := n1_; have GW101 := n2_; have GE101 := n3_; clear n0_ n1_ n2_ n3_; clear zs hb hbox hg; obtain ⟨hcz10_0, hcz10_1, hcz10_2, hcz10_3⟩ := zc4 w9 (.string a0_0) (.int .i64 a0_1) (.int .i64 a0_2) (.int .i64 a0_3) BK101.out; obtain ⟨hfz10_0, hfz10_1, hfz10_2, hfz10_3⟩ := zf4 BK101.out))
     go_ret
     exact ⟨by first | rfl | (simp [zad, zae] <;> rfl) | (simp [*, zad, zae] <;> rfl), by repeat (first | (with_reducible first | exact HB.out | apply zba | apply zbn | apply zbd | refine zab ?_ GE101.out) | exact HB.out)⟩
   rw [if_pos c5] at H
   have c5b0 : (a0_2 == 0) = true := beq_iff_eq.mpr c5
   have c5b1 : (a0_2 != 0) = false := bne_eq_false_iff_eq.mpr c5
   clear c5
   replace H := zob H
   obtain ⟨t102, A60, H⟩ := H
   replace H : (some t102) = some r := H
   have A6 := zA A60
   clear A60
   obtain rfl := zsi H
   go_enter Try.func92, Try.ntmps92
   go_wp2_with (first | ((with_reducible refine zar (N := 2) rfl ?_); refine zat ?hg (N := 2) ?hd (cs := #[.string a0_0, .int .i64 a0_1, .int .i64 a0_2, .int .i64 a0_3]) (t := 72) ?hr ?_; (case hd => rfl); (case hg => rfl); (case hr => go_simp <;> rfl); intro gb101 hg w7 hbox hb; have zs := zpair (by repeat (first | (with_reducible first | exact HB.out | apply zba | apply zbn | apply zbd) | exact HB.out)) hb; have n0_ := zA (zs.1); have n1_ := zA (hbox); have n2_ := zA ((by rw [hg]; exact zs.2 : w.heap.size ≤ gb101)); have n3_ := n2_; clear HB; have HB := n0_; have BK101 := n1_; have GW101 := n2_; have GE101 := n3_; clear n0_ n1_ n2_ n3_; clear zs hb hbox hg; obtain ⟨hcz8_0, hcz8_1, hcz8_2, hcz8_3⟩ := zc4 w7 (.string a0_0) (.int .i64 a0_1) (.int .i64 a0_2) (.int .i64 a0_3) BK101.out; obtain ⟨hfz8_0, hfz8_1, hfz8_2, hfz8_3⟩ := zf4 BK101.out) | (go_at_call 50; (with_reducible refine (zbm a0_3 0 1 t102 _ A6.out).mono ?_); rintro e w' ⟨rfl, ⟨nd, rfl⟩⟩))
   go_ret
   exact ⟨by first | rfl | (simp [zad, zae] <;> rfl) | (simp [*, zad, zae] <;> rfl), by repeat (first | (with_reducible first | exact HB.out | apply zba | apply zbn | apply zbd | refine zab ?_ GE101.out) | exact HB.out)⟩
 rw [if_neg c3] at H
 have c3b0 : (a0_0.toList == ([105, 110] : List UInt8)) = false := beq_eq_false_iff_ne.mpr c3
 have c3b1 : (a0_0.toList != ([105, 110] : List UInt8)) = true := bne_iff_ne.mpr c3
 by_cases c13 : a0_0.toList = ([99, 111, 110, 115, 116] : List UInt8)
 · rw [if_pos c13] at H
   have c13b0 : (a0_0.toList == ([99, 111, 110, 115, 116] : List UInt8)) = true := beq_iff_eq.mpr c13
   have c13b1 : (a0_0.toList != ([99, 111, 110, 115, 116] : List UInt8)) = false := bne_eq_false_iff_eq.mpr c13
   clear c13
   by_cases c14 : a0_1 = 0
   rotate_left
   · rw [if_neg c14] at H
     have c14b0 : (a0_1 == 0) = false := beq_eq_false_iff_ne.mpr c14
     have c14b1 : (a0_1 != 0) = true := bne_iff_ne.mpr c14
     obtain rfl := zsi H
     go_enter Try.func92, Try.ntmps92
     go_wp2_with (first | ((with_reducible refine zar (N := 2) rfl ?_); refine zat ?hg (N := 2) ?hd (cs := #[.string a0_0, .int .i64 a0_1, .int .i64 a0_2, .int .i64 a0_3]) (t := 72) ?hr ?_; (case hd => rfl); (case hg => rfl); (case hr => go_simp <;> rfl); intro gb101 hg w21 hbox hb; have zs := zpair (by repeat (first | (with_reducible first | exact HB.out | apply zba | apply zbn | apply zbd) | exact HB.out)) hb; have n0_ := zA (zs.1); have n1_ := zA (hbox); have n2_ := zA ((by rw [hg]; exact zs.2 : w.heap.size ≤ gb101)); have n3_ := n2_; clear HB; have HB := n0_; have BK101 := n1_; have GW101 := n2_; have GE101 := n3_; clear n0_ n1_ n2_ n3_; clear zs hb hbox hg; obtain ⟨hcz22_0, hcz22_1, hcz22_2, hcz22_3⟩ := zc4 w21 (.string a0_0) (.int .i64 a0_1) (.int .i64 a0_2) (.int .i64 a0_3) BK101.out; obtain ⟨hfz22_0, hfz22_1, hfz22_2, hfz22_3⟩ := zf4 BK101.out))
     go_ret
     exact ⟨by first | rfl | (simp [zad, zae] <;> rfl) | (simp [*, zad, zae] <;> rfl), by repeat (first | (with_reducible first | exact HB.out | apply zba | apply zbn | apply zbd | refine zab ?_ GE101.out) | exact HB.out)⟩
   rw [if_pos c14] at H
   have c14b0 : (a0_1 == 0) = true := beq_iff_eq.mpr c14
   have c14b1 : (a0_1 != 0) = false := bne_eq_false_iff_eq.mpr c14
   clear c14
   by_cases c15 : a0_2 = 0
   rotate_left
   · rw [if_neg c15] at H
     have c15b0 : (a0_2 == 0) = false := beq_eq_false_iff_ne.mpr c15
     have c15b1 : (a0_2 != 0) = true := bne_iff_ne.mpr c15
     obtain rfl := zsi H
     go_enter Try.func92, Try.ntmps92
     go_wp2_with (first | ((with_reducible refine zar (N := 2) rfl ?_); refine zat ?hg (N := 2) ?hd (cs := #[.string a0_0, .int .i64 a0_1, .int .i64 a0_2, .int .i64 a0_3]) (t := 72) ?hr ?_; (case hd => rfl); (case hg => rfl); (case hr => go_simp <;> rfl); intro gb101 hg w19 hbox hb; have zs := zpair (by repeat (first | (with_reducible first | exact HB.out | apply zba | apply zbn | apply zbd) | exact HB.out)) hb; have n0_ := zA (zs.1); have n1_ := zA (hbox); have n2_ := zA ((by rw [hg]; exact zs.2 : w.heap.size ≤ gb101)); have n3_ := n2_; clear HB; have HB := n0_; have BK101 := n1_; have GW101 := n2_; have GE101 := n3_; clear n0_ n1_ n2_ n3_; clear zs hb hbox hg; obtain ⟨hcz20_0, hcz20_1, hcz20_2, hcz20_3⟩ := zc4 w19 (.string a0_0) (.int .i64 a0_1) (.int .i64 a0_2) (.int .i64 a0_3) BK101.out; obtain ⟨hfz20_0, hfz20_1, hfz20_2, hfz20_3⟩ := zf4 BK101.out))
     go_ret
     exact ⟨by first | rfl | (simp [zad, zae] <;> rfl) | (simp [*, zad, zae] <;> rfl), by repeat (first | (with_reducible first | exact HB.out | apply zba | apply zbn | apply zbd | refine zab ?_ GE101.out) | exact HB.out)⟩
   rw [if_pos c15] at H
   have c15b0 : (a0_2 == 0) = true := beq_iff_eq.mpr c15
   have c15b1 : (a0_2 != 0) = false := bne_eq_false_iff_eq.mpr c15
   clear c15
   replace H := zob H
   obtain ⟨t103, A160, H⟩ := H
   replace H : (some t103) = some r := H
   have A16 := zA A160
   clear A160
   obtain rfl := zsi H
   go_enter Try.func92, Try.ntmps92
   go_wp2_with (first | ((with_reducible refine zar (N := 2) rfl ?_); refine zat ?hg (N := 2) ?hd (cs := #[.string a0_0, .int .i64 a0_1, .int .i64 a0_2, .int .i64 a0_3]) (t := 72) ?hr ?_; (case hd => rfl); (case hg => rfl); (case hr => go_simp <;> rfl); intro gb101 hg w17 hbox hb; have zs := zpair (by repeat (first | (with_reducible first | exact HB.out | apply zba | apply zbn | apply zbd) | exact HB.out)) hb; have n0_ := zA (zs.1); have n1_ := zA (hbox); have n2_ := zA ((by rw [hg]; exact zs.2 : w.heap.size ≤ gb101)); have n3_ := n2_; clear HB; have HB := n0_; have BK101 := n1_; have GW101 := n2_; have GE101 := n3_; clear n0_ n1_ n2_ n3_; clear zs hb hbox hg; obtain ⟨hcz18_0, hcz18_1, hcz18_2, hcz18_3⟩ := zc4 w17 (.string a0_0) (.int .i64 a0_1) (.int .i64 a0_2) (.int .i64 a0_3) BK101.out; obtain ⟨hfz18_0, hfz18_1, hfz18_2, hfz18_3⟩ := zf4 BK101.out) | (go_at_call 140; (with_reducible refine (zlb a0_3 t103 _ A16.out).mono ?_); rintro e w' ⟨rfl, ⟨nd, rfl⟩⟩))
   go_ret
   exact ⟨by first | rfl | (simp [zad, zae] <;> rfl) | (simp [*, zad, zae] <;> rfl), by repeat (first | (with_reducible first | exact HB.out | apply zba | apply zbn | apply zbd | refine zab ?_ GE101.out) | exact HB.out)⟩
 rw [if_neg c13] at H
 have c13b0 : (a0_0.toList == ([99, 111, 110, 115, 116] : List UInt8)) = false := beq_eq_false_iff_ne.mpr c13
 have c13b1 : (a0_0.toList != ([99, 111, 110, 115, 116] : List UInt8)) = true := bne_iff_ne.mpr c13
 replace H := zob H
 obtain ⟨t104, A230, H⟩ := H
 replace H : (if t104 = true then ((zaz a0_1 0 (wrap64 (a1 - 1))).bind fun t105 => (if t105 = true then (if a0_2 = 0 then (some (a0_3 == 0)) else (some false)) else (some false))) else ((zdg k a0_0).bind fun t106 => (if t106 = true then ((zaz a0_1 0 (wrap64 (a1 - 1))).bind fun t107 => (if t107 = true then ((zaz a0_2 0 (wrap64 (a1 - 1))).bind fun t108 => (if t108 = true then (some (a0_3 == 0)) else (some false))) else (some false))) else (some false)))) = some r := H
 have A23 := zA A230
 clear A230
 by_cases c24 : t104 = true
 · subst c24
   replace H : ((zaz a0_1 0 (wrap64 (a1 - 1))).bind fun t105 => (if t105 = true then (if a0_2 = 0 then (some (a0_3 == 0)) else (some false)) else (some false))) = some r := by rw [if_pos rfl] at H; exact H
   replace H := zob H
   obtain ⟨t105, A250, H⟩ := H
   replace H : (if t105 = true then (if a0_2 = 0 then (some (a0_3 == 0)) else (some false)) else (some false)) = some r := H
   have A25 := zA A250
   clear A250
   by_cases c26 : t105 = true
   rotate_left
   · replace c26 := zbf c26
     subst c26
     replace H : (some false) = some r := by rw [if_neg (show ¬ (false = true) by decide)] at H; exact H
     obtain rfl := zsi H
     go_enter Try.func92, Try.ntmps92
     go_wp2_with (first | ((with_reducible refine zar (N := 2) rfl ?_); refine zat ?hg (N := 2) ?hd (cs := #[.string a0_0, .int .i64 a0_1, .int .i64 a0_2, .int .i64 a0_3]) (t := 72) ?hr ?_; (case hd => rfl); (case hg => rfl); (case hr => go_simp <;> rfl); intro gb101 hg w32 hbox hb; have zs := zpair (by repeat (first | (with_reducible first | exact HB.out | apply zba | apply zbn | apply zbd) | exact HB.out)) hb; have n0_ := zA (zs.1); have n1_ := zA (hbox); have n2_ := zA ((by rw [hg]; exact zs.2 : w.heap.size ≤ gb101)); have n3_ := n2_; clear HB; have HB := n0_; have BK101 := n1_; have GW101 := n2_; have GE101 := n3_; clear n0_ n1_ n2_ n3_; clear zs hb hbox hg; obtain ⟨hcz33_0, hcz33_1, hcz33_2, hcz33_3⟩ := zc4 w32 (.string a0_0) (.int .i64 a0_1) (.int .i64 a0_2) (.int .i64 a0_3) BK101.out; obtain ⟨hfz33_0, hfz33_1, hfz33_2, hfz33_3⟩ := zf4 BK101.out) | ((with_reducible refine zah (f := 141) rfl ?_); refine za3 (some 42) rfl rfl Try.func141 (by kernel_rfl) rfl #[.string a0_0] rfl (by (try simp only [List.map_toArray, List.map_cons, List.map_nil]); first | done | rfl | (simp only [List.length_drop, List.length_take]; rfl)) ?_; (with_reducible refine (zda a0_0 true _ A23.out).mono ?_); rintro e w' ⟨rfl, ⟨nd, rfl⟩⟩; refine ⟨_, rfl, ?_⟩) | ((with_reducible refine zah (f := 50) rfl ?_); refine za3 (some 47) rfl rfl Try.func50 (by kernel_rfl) rfl #[.int .i64 a0_1, .int .i64 0, .int .i64 (wrap64 (a1 - 1))] rfl (by (try simp only [List.map_toArray, List.map_cons, List.map_nil]); first | done | rfl | (simp only [List.length_drop, List.length_take]; rfl)) ?_; (with_reducible refine (zbm a0_1 0 (wrap64 (a1 - 1)) false _ A25.out).mono ?_); rintro e w' ⟨rfl, ⟨nd, rfl⟩⟩; refine ⟨_, rfl, ?_⟩))
     go_ret
     exact ⟨by first | rfl | (simp [zad, zae] <;> rfl) | (simp [*, zad, zae] <;> rfl), by repeat (first | (with_reducible first | exact HB.out | apply zba | apply zbn | apply zbd | refine zab ?_ GE101.out) | exact HB.out)⟩
   subst c26
   replace H : (if a0_2 = 0 then (some (a0_3 == 0)) else (some false)) = some r := by rw [if_pos rfl] at H; exact H
   by_cases c27 : a0_2 = 0
   rotate_left
   · rw [if_neg c27] at H
     have c27b0 : (a0_2 == 0) = false := beq_eq_false_iff_ne.mpr c27
     have c27b1 : (a0_2 != 0) = true := bne_iff_ne.mpr c27
     obtain rfl := zsi H
     go_enter Try.func92, Try.ntmps92
     go_wp2_with (first | ((with_reducible refine zar (N := 2) rfl ?_); refine zat ?hg (N := 2) ?hd (cs := #[.string a0_0, .int .i64 a0_1, .int .i64 a0_2, .int .i64 a0_3]) (t := 72) ?hr ?_; (case hd => rfl); (case hg => rfl); (case hr => go_simp <;> rfl); intro gb101 hg w30 hbox hb; have zs := zpair (by repeat (first | (with_reducible first | exact HB.out | apply zba | apply zbn | apply zbd) | exact HB.out)) hb; have n0_ := zA (zs.1); have n1_ := zA (hbox); have n2_ := zA ((by rw [hg]; exact zs.2 : w.heap.size ≤ gb101)); have n3_ := n2_; clear HB; have HB := n0_; have BK101 := n1_; have GW101 := n2_; have GE101 := n3_; clear n0_ n1_ n2_ n3_; clear zs hb hbox hg; obtain ⟨hcz31_0, hcz31_1, hcz31_2, hcz31_3⟩ := zc4 w30 (.string a0_0) (.int .i64 a0_1) (.int .i64 a0_2) (.int .i64 a0_3) BK101.out; obtain ⟨hfz31_0, hfz31_1, hfz31_2, hfz31_3⟩ := zf4 BK101.out) | ((with_reducible refine zah (f := 141) rfl ?_); refine za3 (some 42) rfl rfl Try.func141 (by kernel_rfl) rfl #[.string a0_0] rfl (by (try simp only [List.map_toArray, List.map_cons, List.map_nil]); first | done | rfl | (simp only [List.length_drop, List.length_take]; rfl)) ?_; (with_reducible refine (zda a0_0 true _ A23.out).mono ?_); rintro e w' ⟨rfl, ⟨nd, rfl⟩⟩; refine ⟨_, rfl, ?_⟩) | ((with_reducible refine zah (f := 50) rfl ?_); refine za3 (some 47) rfl rfl Try.func50 (by kernel_rfl) rfl #[.int .i64 a0_1, .int .i64 0, .int .i64 (wrap64 (a1 - 1))] rfl (by (try simp only [List.map_toArray, List.map_cons, List.map_nil]); first | done | rfl | (simp only [List.length_drop, List.length_take]; rfl)) ?_; (with_reducible refine (zbm a0_1 0 (wrap64 (a1 - 1)) true _ A25.out).mono ?_); rintro e w' ⟨rfl, ⟨nd, rfl⟩⟩; refine ⟨_, rfl, ?_⟩))
     go_ret
     exact ⟨by first | rfl | (simp [zad, zae] <;> rfl) | (simp [*, zad, zae] <;> rfl), by repeat (first | (with_reducible first | exact HB.out | apply zba | apply zbn | apply zbd | refine zab ?_ GE101.out) | exact HB.out)⟩
   rw [if_pos c27] at H
   have c27b0 : (a0_2 == 0) = true := beq_iff_eq.mpr c27
   have c27b1 : (a0_2 != 0) = false := bne_eq_false_iff_eq.mpr c27
   clear c27
   obtain rfl := zsi H
   go_enter Try.func92, Try.ntmps92
   go_wp2_with (first | ((with_reducible refine zar (N := 2) rfl ?_); refine zat ?hg (N := 2) ?hd (cs := #[.string a0_0, .int .i64 a0_1, .int .i64 a0_2, .int .i64 a0_3]) (t := 72) ?hr ?_; (case hd => rfl); (case hg => rfl); (case hr => go_simp <;> rfl); intro gb101 hg w28 hbox hb; have zs := zpair (by repeat (first | (with_reducible first | exact HB.out | apply zba | apply zbn | apply zbd) | exact HB.out)) hb; have n0_ := zA (zs.1); have n1_ := zA (hbox); have n2_ := zA ((by rw [hg]; exact zs.2 : w.heap.size ≤ gb101)); have n3_ := n2_; clear HB; have HB := n0_; have BK101 := n1_; have GW101 := n2_; have GE101 := n3_; clear n0_ n1_ n2_ n3_; clear zs hb hbox hg; obtain ⟨hcz29_0, hcz29_1, hcz29_2, hcz29_3⟩ := zc4 w28 (.string a0_0) (.int .i64 a0_1) (.int .i64 a0_2) (.int .i64 a0_3) BK101.out; obtain ⟨hfz29_0, hfz29_1, hfz29_2, hfz29_3⟩ := zf4 BK101.out) | ((with_reducible refine zah (f := 141) rfl ?_); refine za3 (some 42) rfl rfl Try.func141 (by kernel_rfl) rfl #[.string a0_0] rfl (by (try simp only [List.map_toArray, List.map_cons, List.map_nil]); first | done | rfl | (simp only [List.length_drop, List.length_take]; rfl)) ?_; (with_reducible refine (zda a0_0 true _ A23.out).mono ?_); rintro e w' ⟨rfl, ⟨nd, rfl⟩⟩; refine ⟨_, rfl, ?_⟩) | ((with_reducible refine zah (f := 50) rfl ?_); refine za3 (some 47) rfl rfl Try.func50 (by kernel_rfl) rfl #[.int .i64 a0_1, .int .i64 0, .int .i64 (wrap64 (a1 - 1))] rfl (by (try simp only [List.map_toArray, List.map_cons, List.map_nil]); first | done | rfl | (simp only [List.length_drop, List.length_take]; rfl)) ?_; (with_reducible refine (zbm a0_1 0 (wrap64 (a1 - 1)) true _ A25.out).mono ?_); rintro e w' ⟨rfl, ⟨nd, rfl⟩⟩; refine ⟨_, rfl, ?_⟩))
   go_ret
   exact ⟨by first | rfl | (simp [zad, zae] <;> rfl) | (simp [*, zad, zae] <;> rfl), by repeat (first | (with_reducible first | exact HB.out | apply zba | apply zbn | apply zbd | refine zab ?_ GE101.out) | exact HB.out)⟩
 replace c24 := zbf c24
 subst c24
 replace H : ((zdg k a0_0).bind fun t106 => (if t106 = true then ((zaz a0_1 0 (wrap64 (a1 - 1))).bind fun t107 => (if t107 = true then ((zaz a0_2 0 (wrap64 (a1 - 1))).bind fun t108 => (if t108 = true then (some (a0_3 == 0)) else (some false))) else (some false))) else (some false))) = some r := by rw [if_neg (show ¬ (false = true) by decide)] at H; exact H
 replace H := zob H
 obtain ⟨t106, A340, H⟩ := H
 replace H : (if t106 = true then ((zaz a0_1 0 (wrap64 (a1 - 1))).bind fun t107 => (if t107 = true then ((zaz a0_2 0 (wrap64 (a1 - 1))).bind fun t108 => (if t108 = true then (some (a0_3 == 0)) else (some false))) else (some false))) else (some false)) = some r := H
 have A34 := zA A340
 clear A340
 by_cases c35 : t106 = true
 rotate_left
 · replace c35 := zbf c35
   subst c35
   replace H : (some false) = some r := by rw [if_neg (show ¬ (false = true) by decide)] at H; exact H
   obtain rfl := zsi H
   go_enter Try.func92, Try.ntmps92
   go_wp2_with (first | ((with_reducible refine zar (N := 2) rfl ?_); refine zat ?hg (N := 2) ?hd (cs := #[.string a0_0, .int .i64 a0_1, .int .i64 a0_2, .int .i64 a0_3]) (t := 72) ?hr ?_; (case hd => rfl); (case hg => rfl); (case hr => go_simp <;> rfl); intro gb101 hg w52 hbox hb; have zs := zpair (by repeat (first | (with_reducible first | exact HB.out | apply zba | apply zbn | apply zbd) | exact HB.out)) hb; have n0_ := zA (zs.1); have n1_ := zA (hbox); have n2_ := zA ((by rw [hg]; exact zs.2 : w.heap.size ≤ gb101)); have n3_ := n2_; clear HB; have HB := n0_; have BK101 := n1_; have GW101 := n2_; have GE101 := n3_; clear n0_ n1_ n2_ n3_; clear zs hb hbox hg; obtain ⟨hcz53_0, hcz53_1, hcz53_2, hcz53_3⟩ := zc4 w52 (.string a0_0) (.int .i64 a0_1) (.int .i64 a0_2) (.int .i64 a0_3) BK101.out; obtain ⟨hfz53_0, hfz53_1, hfz53_2, hfz53_3⟩ := zf4 BK101.out) | ((with_reducible refine zah (f := 141) rfl ?_); refine za3 (some 42) rfl rfl Try.func141 (by kernel_rfl) rfl #[.string a0_0] rfl (by (try simp only [List.map_toArray, List.map_cons, List.map_nil]); first | done | rfl | (simp only [List.length_drop, List.length_take]; rfl)) ?_; (with_reducible refine (zda a0_0 false _ A23.out).mono ?_); rintro e w' ⟨rfl, ⟨nd, rfl⟩⟩; refine ⟨_, rfl, ?_⟩) | ((with_reducible refine zah (f := 142) rfl ?_); refine za3 (some 60) rfl rfl Try.func142 (by kernel_rfl) rfl #[.string a0_0] rfl (by (try simp only [List.map_toArray, List.map_cons, List.map_nil]); first | done | rfl | (simp only [List.length_drop, List.length_take]; rfl)) ?_; (with_reducible refine (zet k a0_0 false _ A34.out).mono ?_); rintro e w54 ⟨rfl, hb⟩; refine ⟨_, rfl, ?_⟩; have n0_ := zA (zaj (g := gb101) (o := .cells #[.string a0_0, .int .i64 a0_1, .int .i64 a0_2, .int .i64 a0_3] 72 (0, 0)) (by (with_reducible repeat (first | refine zkn ?_ _ | refine zkd ?_ | refine zka ?_ _)); exact BK101.out) hb); have n1_ := zA (zag (by repeat (first | (with_reducible first | exact HB.out | apply zba | apply zbn | apply zbd | refine zab ?_ GE101.out) | exact HB.out)) hb); clear BK101 HB; have BK101 := n0_; have HB := n1_; clear n0_ n1_; (try clear hb)))
   go_ret
   exact ⟨by first | rfl | (simp [zad, zae] <;> rfl) | (simp [*, zad, zae] <;> rfl), by repeat (first | (with_reducible first | exact HB.out | apply zba | apply zbn | apply zbd | refine zab ?_ GE101.out) | exact HB.out)⟩
 subst c35
 replace H : ((zaz a0_1 0 (wrap64 (a1 - 1))).bind fun t107 => (if t107 = true then ((zaz a0_2 0 (wrap64 (a1 - 1))).bind fun t108 => (if t108 = true then (some (a0_3 == 0)) else (some false))) else (some false))) = some r := by rw [if_pos rfl] at H; exact H
 replace H := zob H
 obtain ⟨t107, A360, H⟩ := H
 replace H : (if t107 = true then ((zaz a0_2 0 (wrap64 (a1 - 1))).bind fun t108 => (if t108 = true then (some (a0_3 == 0)) else (some false))) else (some false)) = some r := H
 have A36 := zA A360
 clear A360
 by_cases c37 : t107 = true
 rotate_left
 · replace c37 := zbf c37
   subst c37
   replace H : (some false) = some r := by rw [if_neg (show ¬ (false = true) by decide)] at H; exact H
   obtain rfl := zsi H
   go_enter Try.func92, Try.ntmps92
   go_wp2_with (first | ((with_reducible refine zar (N := 2) rfl ?_); refine zat ?hg (N := 2) ?hd (cs := #[.string a0_0, .int .i64 a0_1, .int .i64 a0_2, .int .i64 a0_3]) (t := 72) ?hr ?_; (case hd => rfl); (case hg => rfl); (case hr => go_simp <;> rfl); intro gb101 hg w48 hbox hb; have zs := zpair (by repeat (first | (with_reducible first | exact HB.out | apply zba | apply zbn | apply zbd) | exact HB.out)) hb; have n0_ := zA (zs.1); have n1_ := zA (hbox); have n2_ := zA ((by rw [hg]; exact zs.2 : w.heap.size ≤ gb101)); have n3_ := n2_; clear HB; have HB := n0_; have BK101 := n1_; have GW101 := n2_; have GE101 := n3_; clear n0_ n1_ n2_ n3_; clear zs hb hbox hg; obtain ⟨hcz49_0, hcz49_1, hcz49_2, hcz49_3⟩ := zc4 w48 (.string a0_0) (.int .i64 a0_1) (.int .i64 a0_2) (.int .i64 a0_3) BK101.out; obtain ⟨hfz49_0, hfz49_1, hfz49_2, hfz49_3⟩ := zf4 BK101.out) | ((with_reducible refine zah (f := 141) rfl ?_); refine za3 (some 42) rfl rfl Try.func141 (by kernel_rfl) rfl #[.string a0_0] rfl (by (try simp only [List.map_toArray, List.map_cons, List.map_nil]); first | done | rfl | (simp only [List.length_drop, List.length_take]; rfl)) ?_; (with_reducible refine (zda a0_0 false _ A23.out).mono ?_); rintro e w' ⟨rfl, ⟨nd, rfl⟩⟩; refine ⟨_, rfl, ?_⟩) | ((with_reducible refine zah (f := 142) rfl ?_); refine za3 (some 60) rfl rfl Try.func142 (by kernel_rfl) rfl #[.string a0_0] rfl (by (try simp only [List.map_toArray, List.map_cons, List.map_nil]); first | done | rfl | (simp only [List.length_drop, List.length_take]; rfl)) ?_; (with_reducible refine (zet k a0_0 true _ A34.out).mono ?_); rintro e w50 ⟨rfl, hb⟩; refine ⟨_, rfl, ?_⟩; have n0_ := zA (zaj (g := gb101) (o := .cells #[.string a0_0, .int .i64 a0_1, .int .i64 a0_2, .int .i64 a0_3] 72 (0, 0)) (by (with_reducible repeat (first | refine zkn ?_ _ | refine zkd ?_ | refine zka ?_ _)); exact BK101.out) hb); have n1_ := zA (zag (by repeat (first | (with_reducible first | exact HB.out | apply zba | apply zbn | apply zbd | refine zab ?_ GE101.out) | exact HB.out)) hb); clear BK101 HB; have BK101 := n0_; have HB := n1_; clear n0_ n1_; (try clear hb); obtain ⟨hcz51_0, hcz51_1, hcz51_2, hcz51_3⟩ := zc4 w50 (.string a0_0) (.int .i64 a0_1) (.int .i64 a0_2) (.int .i64 a0_3) BK101.out; obtain ⟨hfz51_0, hfz51_1, hfz51_2, hfz51_3⟩ := zf4 BK101.out) | (go_at_call 50; (with_reducible refine (zbm a0_1 0 (wrap64 (a1 - 1)) false _ A36.out).mono ?_); rintro e w' ⟨rfl, ⟨nd, rfl⟩⟩))
   go_ret
   exact ⟨by first | rfl | (simp [zad, zae] <;> rfl) | (simp [*, zad, zae] <;> rfl), by repeat (first | (with_reducible first | exact HB.out | apply zba | apply zbn | apply zbd | refine zab ?_ GE101.out) | exact HB.out)⟩
 subst c37
 replace H : ((zaz a0_2 0 (wrap64 (a1 - 1))).bind fun t108 => (if t108 = true then (some (a0_3 == 0)) else (some false))) = some r := by rw [if_pos rfl] at H; exact H
 replace H := zob H
 obtain ⟨t108, A380, H⟩ := H
 replace H : (if t108 = true then (some (a0_3 == 0)) else (some false)) = some r := H
 have A38 := zA A380
 clear A380
 by_cases c39 : t108 = true
 · subst c39
   replace H : (some (a0_3 == 0)) = some r := by rw [if_pos rfl] at H; exact H
   obtain rfl := zsi H
   go_enter Try.func92, Try.ntmps92
   go_wp2_with (first | ((with_reducible refine zar (N := 2) rfl ?_); refine zat ?hg (N := 2) ?hd (cs := #[.string a0_0, .int .i64 a0_1, .int .i64 a0_2, .int .i64 a0_3]) (t := 72) ?hr ?_; (case hd => rfl); (case hg => rfl); (case hr => go_simp <;> rfl); intro gb101 hg w40 hbox hb; have zs := zpair (by repeat (first | (with_reducible first | exact HB.out | apply zba | apply zbn | apply zbd) | exact HB.out)) hb; have n0_ := zA (zs.1); have n1_ := zA (hbox); have n2_ := zA ((by rw [hg]; exact zs.2 : w.heap.size ≤ gb101)); have n3_ := n2_; clear HB; have HB := n0_; have BK101 := n1_; have GW101 := n2_; have GE101 := n3_; clear n0_ n1_ n2_ n3_; clear zs hb hbox hg; obtain ⟨hcz41_0, hcz41_1, hcz41_2, hcz41_3⟩ := zc4 w40 (.string a0_0) (.int .i64 a0_1) (.int .i64 a0_2) (.int .i64 a0_3) BK101.out; obtain ⟨hfz41_0, hfz41_1, hfz41_2, hfz41_3⟩ := zf4 BK101.out) | ((with_reducible refine zah (f := 141) rfl ?_); refine za3 (some 42) rfl rfl Try.func141 (by kernel_rfl) rfl #[.string a0_0] rfl (by (try simp only [List.map_toArray, List.map_cons, List.map_nil]); first | done | rfl | (simp only [List.length_drop, List.length_take]; rfl)) ?_; (with_reducible refine (zda a0_0 false _ A23.out).mono ?_); rintro e w' ⟨rfl, ⟨nd, rfl⟩⟩; refine ⟨_, rfl, ?_⟩) | ((with_reducible refine zah (f := 142) rfl ?_); refine za3 (some 60) rfl rfl Try.func142 (by kernel_rfl) rfl #[.string a0_0] rfl (by (try simp only [List.map_toArray, List.map_cons, List.map_nil]); first | done | rfl | (simp only [List.length_drop, List.length_take]; rfl)) ?_; (with_reducible refine (zet k a0_0 true _ A34.out).mono ?_); rintro e w42 ⟨rfl, hb⟩; refine ⟨_, rfl, ?_⟩; have n0_ := zA (zaj (g := gb101) (o := .cells #[.string a0_0, .int .i64 a0_1, .int .i64 a0_2, .int .i64 a0_3] 72 (0, 0)) (by (with_reducible repeat (first | refine zkn ?_ _ | refine zkd ?_ | refine zka ?_ _)); exact BK101.out) hb); have n1_ := zA (zag (by repeat (first | (with_reducible first | exact HB.out | apply zba | apply zbn | apply zbd | refine zab ?_ GE101.out) | exact HB.out)) hb); clear BK101 HB; have BK101 := n0_; have HB := n1_; clear n0_ n1_; (try clear hb); obtain ⟨hcz43_0, hcz43_1, hcz43_2, hcz43_3⟩ := zc4 w42 (.string a0_0) (.int .i64 a0_1) (.int .i64 a0_2) (.int .i64 a0_3) BK101.out; obtain ⟨hfz43_0, hfz43_1, hfz43_2, hfz43_3⟩ := zf4 BK101.out) | (go_at_call 50; (with_reducible refine (zbm a0_1 0 (wrap64 (a1 - 1)) true _ A36.out).mono ?_); rintro e w' ⟨rfl, ⟨nd, rfl⟩⟩) | (go_at_call 50; (with_reducible refine (zbm a0_2 0 (wrap64 (a1 - 1)) true _ A38.out).mono ?_); rintro e w' ⟨rfl, ⟨nd, rfl⟩⟩))
   go_ret
   exact ⟨by first | rfl | (simp [zad, zae] <;> rfl) | (simp [*, zad, zae] <;> rfl), by repeat (first | (with_reducible first | exact HB.out | apply zba | apply zbn | apply zbd | refine zab ?_ GE101.out) | exact HB.out)⟩
 replace c39 := zbf c39
 subst c39
 replace H : (some false) = some r := by rw [if_neg (show ¬ (false = true) by decide)] at H; exact H
 obtain rfl := zsi H
 go_enter Try.func92, Try.ntmps92
 go_wp2_with (first | ((with_reducible refine zar (N := 2) rfl ?_); refine zat ?hg (N := 2) ?hd (cs := #[.string a0_0, .int .i64 a0_1, .int .i64 a0_2, .int .i64 a0_3]) (t := 72) ?hr ?_; (case hd => rfl); (case hg => rfl); (case hr => go_simp <;> rfl); intro gb101 hg w44 hbox hb; have zs := zpair (by repeat (first | (with_reducible first | exact HB.out | apply zba | apply zbn | apply zbd) | exact HB.out)) hb; have n0_ := zA (zs.1); have n1_ := zA (hbox); have n2_ := zA ((by rw [hg]; exact zs.2 : w.heap.size ≤ gb101)); have n3_ := n2_; clear HB; have HB := n0_; have BK101 := n1_; have GW101 := n2_; have GE101 := n3_; clear n0_ n1_ n2_ n3_; clear zs hb hbox hg; obtain ⟨hcz45_0, hcz45_1, hcz45_2, hcz45_3⟩ := zc4 w44 (.string a0_0) (.int .i64 a0_1) (.int .i64 a0_2) (.int .i64 a0_3) BK101.out; obtain ⟨hfz45_0, hfz45_1, hfz45_2, hfz45_3⟩ := zf4 BK101.out) | ((with_reducible refine zah (f := 141) rfl ?_); refine za3 (some 42) rfl rfl Try.func141 (by kernel_rfl) rfl #[.string a0_0] rfl (by (try simp only [List.map_toArray, List.map_cons, List.map_nil]); first | done | rfl | (simp only [List.length_drop, List.length_take]; rfl)) ?_; (with_reducible refine (zda a0_0 false _ A23.out).mono ?_); rintro e w' ⟨rfl, ⟨nd, rfl⟩⟩; refine ⟨_, rfl, ?_⟩) | ((with_reducible refine zah (f := 142) rfl ?_); refine za3 (some 60) rfl rfl Try.func142 (by kernel_rfl) rfl #[.string a0_0] rfl (by (try simp only [List.map_toArray, List.map_cons, List.map_nil]); first | done | rfl | (simp only [List.length_drop, List.length_take]; rfl)) ?_; (with_reducible refine (zet k a0_0 true _ A34.out).mono ?_); rintro e w46 ⟨rfl, hb⟩; refine ⟨_, rfl, ?_⟩; have n0_ := zA (zaj (g := gb101) (o := .cells #[.string a0_0, .int .i64 a0_1, .int .i64 a0_2, .int .i64 a0_3] 72 (0, 0)) (by (with_reducible repeat (first | refine zkn ?_ _ | refine zkd ?_ | refine zka ?_ _)); exact BK101.out) hb); have n1_ := zA (zag (by repeat (first | (with_reducible first | exact HB.out | apply zba | apply zbn | apply zbd | refine zab ?_ GE101.out) | exact HB.out)) hb); clear BK101 HB; have BK101 := n0_; have HB := n1_; clear n0_ n1_; (try clear hb); obtain ⟨hcz47_0, hcz47_1, hcz47_2, hcz47_3⟩ := zc4 w46 (.string a0_0) (.int .i64 a0_1) (.int .i64 a0_2) (.int .i64 a0_3) BK101.out; obtain ⟨hfz47_0, hfz47_1, hfz47_2, hfz47_3⟩ := zf4 BK101.out) | (go_at_call 50; (with_reducible refine (zbm a0_1 0 (wrap64 (a1 - 1)) true _ A36.out).mono ?_); rintro e w' ⟨rfl, ⟨nd, rfl⟩⟩) | (go_at_call 50; (with_reducible refine (zbm a0_2 0 (wrap64 (a1 - 1)) false _ A38.out).mono ?_); rintro e w' ⟨rfl, ⟨nd, rfl⟩⟩))
 go_ret
 exact ⟨by first | rfl | (simp [zad, zae] <;> rfl) | (simp [*, zad, zae] <;> rfl), by repeat (first | (with_reducible first | exact HB.out | apply zba | apply zbn | apply zbd | refine zab ?_ GE101.out) | exact HB.out)⟩
end Go.Proofs.Ytkfkbmlbpeojaaa.Q
end
