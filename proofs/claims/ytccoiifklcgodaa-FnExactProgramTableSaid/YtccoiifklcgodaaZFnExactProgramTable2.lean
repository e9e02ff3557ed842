/- Proved here: contracts of functions that the law FnExactProgramTable reaches, and lemmas on what they compute; texts of this session and the printed words of the kit that they lean on, cut down and put together by its program link.py. Conditions: as each states. -/
import Derived.Test.YtccoiifklcgodaaZFnExactProgramTable1
section
namespace Go.Proofs.Ytccoiifklcgodaa.Q
open Go.RowKit Go.Proofs.YtccoiifklcgodaaW.PrintWords Go.Proofs.YtccoiifklcgodaaW.PrintLast Go.Proofs.YtccoiifklcgodaaW.PrintMore
attribute [local go_sem] zdk zdl zee zef zcq zcr zdm zdn
set_option linter.unusedVariables false
set_option linter.unusedSimpArgs false
def zbp : Nat → List (S102) → Int → Int → List ByteArray → List Int → Option (Bool)
 | 0, _, _, _, _, _ => none
 | k + 1, x7, x8, x9, x102000, x102001 => if x9 < x8 then (if 0 ≤ x9 then (if x9 < (x7.length : Int) then (if x9 ≥ 3 then (some false) else ((zgn k x102000 x102001 x9).bind fun t104 => ((zfb k t104 ((zab x7 x9).f0) ((zab x7 x9).f1) ((zab x7 x9).f2) ((zab x7 x9).f3) ((zab x7 x9).f4)).bind fun t107 => (if t107 = true then (zbp k x7 x8 (wrap64 (x9 + 1)) x102000 x102001) else (some false))))) else (none)) else (none)) else (some true)
def zdp (k : Nat) (l0_0 : List ByteArray) (l0_1 : List Int) (l1 : List (S102)) : Option (Bool) := zbp k l1 (l1.length : Int) 0 l0_0 l0_1
theorem zhp : ∀ k, (∀ y0 y1 y2 y3 y4, LeO (zbp k y0 y1 y2 y3 y4) (zbp (k + 1) y0 y1 y2 y3 y4))
 | 0 => fun _ _ _ _ _ r h => by simp [zbp] at h
 | k + 1 => by
   have ih0 := zhp k
   · intro y0 y1 y2 y3 y4
     unfold zbp
     repeat' first
     | (with_reducible first | exact ih0 _ _ _ _ _ | exact zim _ _ _ _ _ _ _ | exact zkq _ _ _ _ | exact LeO.refl _ | exact LeO.none _ | refine zaf ?_ ?_ | refine LeO.bind ?_ (fun _ => ?_))
     | exact LeO.none _
     | refine zaf ?_ ?_
     | refine LeO.bind ?_ (fun _ => ?_)
theorem zlj : ∀ a0 a1 a2 k, LeO (zdp k a0 a1 a2) (zdp (k + 1) a0 a1 a2) := by
 intro a0 a1 a2 k
 have ih0 := zhp k
 unfold zdp
 repeat' first
     | (with_reducible first | exact ih0 _ _ _ _ _ | exact zim _ _ _ _ _ _ _ | exact zkq _ _ _ _ | exact LeO.refl _ | exact LeO.none _ | refine zaf ?_ ?_ | refine LeO.bind ?_ (fun _ => ?_))
     | exact LeO.none _
     | refine zaf ?_ ?_
     | refine LeO.bind ?_ (fun _ => ?_)
def impl_isProgram.T4 : Bool × List (List Nat × List Nat) := (true, [([], []), ([0], [0]), ([1], [1]), ([2], [2]), ([2], [2]), ([3, 4, 2, 2], [2, 3, 4]), ([2], [2]), ([5, 6, 5, 2], [2, 5, 6]), ([7, 2], [2, 7]), ([2, 8], [2, 8])])
def zme : List Nat := [0, 1, 3, 7, 7, 31, 7, 127, 255, 511]
theorem zg2 : rtab .any (zsq Try.f159 4) = impl_isProgram.T4 := by kernel_rfl
theorem zgw : zky impl_isProgram.T4.2 zme = true := by kernel_rfl
set_option maxHeartbeats 8000000 in
set_option maxRecDepth 100000 in
theorem zk2 (k : Nat) (A0_0 : Option Addr) (c0_0 : Nat) (l0_0 : List ByteArray) (A0_1 : Option Addr) (c0_1 : Nat) (l0_1 : List Int) (A1 : Option Addr) (c1 : Nat) (l1 : List (S102)) (r : Bool) (w : World) (hr0_0 : Kd.C Kd.string w A0_0 l0_0.length l0_0) (hc0_0 : l0_0.length ≤ c0_0) (hr0_1 : Kd.C (Kd.int .i64) w A0_1 l0_1.length l0_1) (hc0_1 : l0_1.length ≤ c0_1) (hr1 : Kd.C k102 w A1 l1.length l1) (hc1 : l1.length ≤ c1) (h : zdp k l0_0 l0_1 l1 = some r) :
   Calls Try.prog 159 #[.agg #[.slice A0_0 l0_0.length c0_0, .slice A0_1 l0_1.length c0_1], .slice A1 l1.length c1] w fun e w' => e = .returned (.bool r) ∧ Below w.heap.size w w' := by
 have hu62 := Try.underlying62
 have hu102 := Try.underlying102
 have HR0_0 := zA hr0_0
 have HC0_0 := zA hc0_0
 clear hr0_0 hc0_0
 have HR0_1 := zA hr0_1
 have HC0_1 := zA hc0_1
 clear hr0_1 hc0_1
 have HR1 := zA hr1
 have HC1 := zA hc1
 clear hr1 hc1
 have HB := zA (Below.refl w.heap.size w)
 have H : (zbp k l1 (l1.length : Int) 0 l0_0 l0_1) = some r := h
 clear h
 have H' := zA H
 clear H
 go_enter Try.func159, Try.ntmps159
 go_wp2_with (first | ((with_reducible refine zam (N := 2) rfl ?_); refine zak ?hg (N := 2) ?hd (cs := #[.slice A0_0 l0_0.length c0_0, .slice A0_1 l0_1.length c0_1]) (t := 62) ?hr ?_; (case hd => rfl); (case hg => rfl); (case hr => go_simp <;> rfl); intro gb101 hg w3 hbox hb; have zs := zpair (by repeat (first | (with_reducible first | exact HB.out | apply zba | apply zbn | apply zbd) | exact HB.out)) hb; have n0_ := zA (zs.1); have n1_ := zA (hbox); have n2_ := zA ((by rw [hg]; exact zs.2 : w.heap.size ≤ gb101)); have n3_ := n2_; clear HB; have HB := n0_; have BK101 := n1_; have GW101 := n2_; have GE101 := n3_; clear n0_ n1_ n2_ n3_; clear zs hb hbox hg))
 go_loopg [9] k (fun kq v9 w' => ∃ (x9_1 : Int), v9 = .int .i64 x9_1 ∧ Aside0 (zbp kq l1 (l1.length : Int) x9_1 l0_0 l0_1 = some r) ∧ Aside0 (kq ≤ k) ∧ Aside0 (w'.heap[gb101]? = some (.cells #[(.slice A0_0 l0_0.length c0_0), (.slice A0_1 l0_1.length c0_1)] 62 (0, 0))) ∧ Aside0 (Below w.heap.size w w'))
 case atStart => exact ⟨(0), (by first | rfl | (simp; done) | (simp [*]; done)), H', ⟨zlr _⟩, ⟨by (with_reducible repeat (first | refine zkn ?_ _ | refine zkd ?_ | refine zka ?_ _)); exact BK101.out⟩, ⟨by repeat (first | (with_reducible first | exact HB.out | apply zba | apply zbn | apply zbd | refine zaa ?_ GE101.out) | exact HB.out)⟩⟩
 clear H'
 try clear c1
 try clear p2
 obtain ⟨x9_1, rfl, HA, HK1, BK101, HB⟩ := hrel
 cases gk with
 | zero => exact absurd HA.out (by simp [zbp])
 | succ k1 =>
 have H := HA.out
 clear HA
 simp only [zbp] at H
 by_cases c4 : x9_1 < (l1.length : Int)
 rotate_left
 · rw [if_neg c4] at H
   have c4b0 : decide (x9_1 < (l1.length : Int)) = false := zdf c4
   clear c4
   obtain rfl := zsi H
   go_wp2
   go_ret
   exact ⟨by first | rfl | (simp <;> rfl) | (simp [*] <;> rfl), by repeat (first | (with_reducible first | exact HB.out | apply zba | apply zbn | apply zbd | refine zaa ?_ GE101.out) | exact HB.out)⟩
 rw [if_pos c4] at H
 have c4b0 : decide (x9_1 < (l1.length : Int)) = true := zdt c4
 clear c4
 by_cases c5 : 0 ≤ x9_1
 rotate_left
 · rw [if_neg c5] at H
   exact absurd H (by simp)
 rw [if_pos c5] at H
 have c5b0 : decide (0 ≤ x9_1) = true := zdt c5
 clear c5
 by_cases c6 : x9_1 < (l1.length : Int)
 rotate_left
 · rw [if_neg c6] at H
   exact absurd H (by simp)
 rw [if_pos c6] at H
 have c6b0 : decide (x9_1 < (l1.length : Int)) = true := zdt c6
 clear c6
 by_cases c7 : x9_1 ≥ 3
 · rw [if_pos c7] at H
   have c7b0 : decide (3 ≤ x9_1) = true := zdt c7
   clear c7
   obtain rfl := zsi H
   have p102 : 0 ≤ (x9_1 : Int) := zde (by assumption)
   have q102 : x9_1 < (l1.length : Int) := zde (by assumption)
   obtain ⟨ad102, e102, hx102_0, hx102_1, hx102_2, hx102_3, hx102_4⟩ := zg1 HR1.out x9_1 p102 q102
   cases e102
   replace hx102_0 := zkep HB.out hx102_0
   replace hx102_1 := zkep HB.out hx102_1
   replace hx102_2 := zkep HB.out hx102_2
   replace hx102_3 := zkep HB.out hx102_3
   replace hx102_4 := zkep HB.out hx102_4
   replace p102 := eq_true p102
   replace q102 := eq_true q102
   try go_wp2_with (first | ((with_reducible refine zam (N := 6) rfl ?_); refine zak ?hg (N := 6) ?hd (cs := #[.string (⟨#[]⟩ : ByteArray), .int .i64 0, .int .i64 0, .int .i64 0, .int .i64 0]) (t := 102) ?hr ?_; (case hd => rfl); (case hg => rfl); (case hr => go_simp <;> rfl); intro gb103 hg w8 hbox hb; have n0_ := zA (zad (g := gb101) (o := .cells #[.slice A0_0 l0_0.length c0_0, .slice A0_1 l0_1.length c0_1] 62 (0, 0)) (by (with_reducible repeat (first | refine zkn ?_ _ | refine zkd ?_ | refine zka ?_ _)); exact BK101.out) hb); have zs := zpair (by repeat (first | (with_reducible first | exact HB.out | apply zba | apply zbn | apply zbd | refine zaa ?_ GE101.out) | exact HB.out)) hb; have n1_ := zA (zs.1); have n2_ := zA (hbox); have n3_ := zA ((by rw [hg]; exact zs.2 : w.heap.size ≤ gb103)); have n4_ := n3_; have n5_ := zA ((by rw [hg]; exact Nat.ne_of_lt (zlt BK101.out (fun h => by (with_reducible repeat (first | refine zkn ?_ _ | refine zkd ?_ | refine zka ?_ _)); exact h)) : gb101 ≠ gb103)); have n6_ := zA (Ne.symm n5_.out); clear BK101 HB; have BK101 := n0_; have HB := n1_; have BK103 := n2_; have GW103 := n3_; have GE103 := n4_; have NB101_103 := n5_; have NB103_101 := n6_; clear n0_ n1_ n2_ n3_ n4_ n5_ n6_; clear zs hb hbox hg; have hnb9 := NB103_101.out; have hnc9 := NB101_103.out; obtain ⟨hcz10_0, hcz10_1, hcz10_2, hcz10_3, hcz10_4⟩ := zc5 w8 (.string (⟨#[]⟩ : ByteArray)) (.int .i64 0) (.int .i64 0) (.int .i64 0) (.int .i64 0) BK103.out; obtain ⟨hfz10_0, hfz10_1, hfz10_2, hfz10_3, hfz10_4⟩ := zf5 BK103.out))
   have n0_ : Aside0 ((((((w8.setCell ⟨gb103, 0, none⟩ (.string ((zab l1 x9_1).f0))).setCell ⟨gb103, 1, none⟩ (.int .i64 ((zab l1 x9_1).f1))).setCell ⟨gb103, 2, none⟩ (.int .i64 ((zab l1 x9_1).f2))).setCell ⟨gb103, 3, none⟩ (.int .i64 ((zab l1 x9_1).f3))).setCell ⟨gb103, 4, none⟩ (.int .i64 ((zab l1 x9_1).f4))).heap[gb101]? = some (.cells #[.slice A0_0 l0_0.length c0_0, .slice A0_1 l0_1.length c0_1] 62 (0, 0))) := ⟨by (with_reducible repeat (first | refine zkn ?_ _ | refine zkd ?_ | refine zka ?_ _)); refine zat ?_ NB101_103.out _; (with_reducible repeat (first | refine zkn ?_ _ | refine zkd ?_ | refine zka ?_ _)); refine zat ?_ NB101_103.out _; (with_reducible repeat (first | refine zkn ?_ _ | refine zkd ?_ | refine zka ?_ _)); refine zat ?_ NB101_103.out _; (with_reducible repeat (first | refine zkn ?_ _ | refine zkd ?_ | refine zka ?_ _)); refine zat ?_ NB101_103.out _; (with_reducible repeat (first | refine zkn ?_ _ | refine zkd ?_ | refine zka ?_ _)); refine zat ?_ NB101_103.out _; (with_reducible repeat (first | refine zkn ?_ _ | refine zkd ?_ | refine zka ?_ _)); exact BK101.out⟩
   have n1_ : Aside0 ((((((w8.setCell ⟨gb103, 0, none⟩ (.string ((zab l1 x9_1).f0))).setCell ⟨gb103, 1, none⟩ (.int .i64 ((zab l1 x9_1).f1))).setCell ⟨gb103, 2, none⟩ (.int .i64 ((zab l1 x9_1).f2))).setCell ⟨gb103, 3, none⟩ (.int .i64 ((zab l1 x9_1).f3))).setCell ⟨gb103, 4, none⟩ (.int .i64 ((zab l1 x9_1).f4))).heap[gb103]? = some (.cells #[.string ((zab l1 x9_1).f0), .int .i64 ((zab l1 x9_1).f1), .int .i64 ((zab l1 x9_1).f2), .int .i64 ((zab l1 x9_1).f3), .int .i64 ((zab l1 x9_1).f4)] 102 (0, 0))) := ⟨by (with_reducible repeat (first | refine zkn ?_ _ | refine zkd ?_ | refine zka ?_ _)); refine zbv (cs := #[.string ((zab l1 x9_1).f0), .int .i64 ((zab l1 x9_1).f1), .int .i64 ((zab l1 x9_1).f2), .int .i64 ((zab l1 x9_1).f3), .int .i64 0]) ?_ 4 _ rfl; (with_reducible repeat (first | refine zkn ?_ _ | refine zkd ?_ | refine zka ?_ _)); refine zbv (cs := #[.string ((zab l1 x9_1).f0), .int .i64 ((zab l1 x9_1).f1), .int .i64 ((zab l1 x9_1).f2), .int .i64 0, .int .i64 0]) ?_ 3 _ rfl; (with_reducible repeat (first | refine zkn ?_ _ | refine zkd ?_ | refine zka ?_ _)); refine zbv (cs := #[.string ((zab l1 x9_1).f0), .int .i64 ((zab l1 x9_1).f1), .int .i64 0, .int .i64 0, .int .i64 0]) ?_ 2 _ rfl; (with_reducible repeat (first | refine zkn ?_ _ | refine zkd ?_ | refine zka ?_ _)); refine zbv (cs := #[.string ((zab l1 x9_1).f0), .int .i64 0, .int .i64 0, .int .i64 0, .int .i64 0]) ?_ 1 _ rfl; (with_reducible repeat (first | refine zkn ?_ _ | refine zkd ?_ | refine zka ?_ _)); refine zbv (cs := #[.string (⟨#[]⟩ : ByteArray), .int .i64 0, .int .i64 0, .int .i64 0, .int .i64 0]) ?_ 0 _ rfl; (with_reducible repeat (first | refine zkn ?_ _ | refine zkd ?_ | refine zka ?_ _)); exact BK103.out⟩
   have n2_ : Aside0 (Below w.heap.size w (((((w8.setCell ⟨gb103, 0, none⟩ (.string ((zab l1 x9_1).f0))).setCell ⟨gb103, 1, none⟩ (.int .i64 ((zab l1 x9_1).f1))).setCell ⟨gb103, 2, none⟩ (.int .i64 ((zab l1 x9_1).f2))).setCell ⟨gb103, 3, none⟩ (.int .i64 ((zab l1 x9_1).f3))).setCell ⟨gb103, 4, none⟩ (.int .i64 ((zab l1 x9_1).f4)))) := ⟨by repeat (first | (with_reducible first | exact HB.out | apply zba | apply zbn | apply zbd | refine zaa ?_ GE101.out | refine zaa ?_ GE103.out) | exact HB.out)⟩
   (try clear BK101)
   (try clear BK103)
   (try clear HB)
   generalize (((((w8.setCell ⟨gb103, 0, none⟩ (.string ((zab l1 x9_1).f0))).setCell ⟨gb103, 1, none⟩ (.int .i64 ((zab l1 x9_1).f1))).setCell ⟨gb103, 2, none⟩ (.int .i64 ((zab l1 x9_1).f2))).setCell ⟨gb103, 3, none⟩ (.int .i64 ((zab l1 x9_1).f3))).setCell ⟨gb103, 4, none⟩ (.int .i64 ((zab l1 x9_1).f4))) = w11 at n0_ n1_ n2_ ⊢
   have BK101 := n0_
   have BK103 := n1_
   have HB := n2_
   clear n0_ n1_ n2_
   have n0_ := zA (zkd BK101.out)
   have n1_ := zA (zkd BK103.out)
   have n2_ := zA (zbd HB.out)
   clear BK101
   clear BK103
   clear HB
   have BK101 := n0_
   have BK103 := n1_
   have HB := n2_
   clear n0_ n1_ n2_
   refine zkj (n := 10) (S := fun w' => True) (ds := []) #[false, false, false, false, false, false, false, false, false, false] (by kernel_rfl) rfl rfl trivial (fun hHeld => ?_); refine zi0 zg2 zgw (fun HT_ HW_ => ?_)
   generalize w11.drew = w12 at BK101 BK103 HB hHeld ⊢
   refine zd8 (i := 0) (N := some 14) (v := ?_) (a' := ?_) #[true, false, false, false, false, false, false, false, false, false] rfl rfl (zc3 HT_.out (by kernel_rfl)) (fun _ _ _ h => h) (Or.inl ⟨by rfl, ?_⟩) ?_ ?_
   rotate_left
   · intro w'
     go_simp
     with_reducible rfl
   rotate_left
   · simp only [Act.put, zla, zlb, zlc, zbl, zbr]
     rfl
   refine zd8 (i := 1) (N := some 15) (v := ?_) (a' := ?_) #[true, true, false, false, false, false, false, false, false, false] rfl rfl (zc3 HT_.out (by kernel_rfl)) (fun _ _ _ h => h) (Or.inl ⟨by rfl, ?_⟩) ?_ ?_
   rotate_left
   · intro w'
     go_simp
     with_reducible rfl
   rotate_left
   · simp only [Act.put, zla, zlb, zlc, zbl, zbr]
     rfl
   refine zd8 (i := 2) (N := some 16) (v := ?_) (a' := ?_) #[true, true, true, false, false, false, false, false, false, false] rfl rfl (zc3 HT_.out (by kernel_rfl)) (fun _ _ _ h => h) (Or.inl ⟨by rfl, ?_⟩) ?_ ?_
   rotate_left
   · intro w'
     go_simp
     with_reducible rfl
   rotate_left
   · simp only [Act.put, zla, zlb, zlc, zbl, zbr]
     rfl
   refine zd8 (i := 3) (N := some 17) (v := undef) (a' := ?_) #[true, true, true, true, false, false, false, false, false, false] rfl rfl (zc3 HT_.out (by kernel_rfl)) (fun _ _ _ h => h) (Or.inr ⟨by rfl, rfl⟩) ?_ ?_
   rotate_left
   · simp only [Act.put, zla, zlb, zlc, zbl, zbr]
     rfl
   refine zd8 (i := 4) (N := some 18) (v := undef) (a' := ?_) #[true, true, true, true, true, false, false, false, false, false] rfl rfl (zc3 HT_.out (by kernel_rfl)) (fun _ _ _ h => h) (Or.inr ⟨by rfl, rfl⟩) ?_ ?_
   rotate_left
   · simp only [Act.put, zla, zlb, zlc, zbl, zbr]
     rfl
   refine zd8 (i := 5) (N := some 19) (v := undef) (a' := ?_) #[true, true, true, true, true, true, false, false, false, false] rfl rfl (zc3 HT_.out (by kernel_rfl)) (fun _ _ _ h => h) (Or.inr ⟨by rfl, rfl⟩) ?_ ?_
   rotate_left
   · simp only [Act.put, zla, zlb, zlc, zbl, zbr]
     rfl
   refine zd8 (i := 6) (N := some 20) (v := undef) (a' := ?_) #[true, true, true, true, true, true, true, false, false, false] rfl rfl (zc3 HT_.out (by kernel_rfl)) (fun _ _ _ h => h) (Or.inr ⟨by rfl, rfl⟩) ?_ ?_
   rotate_left
   · simp only [Act.put, zla, zlb, zlc, zbl, zbr]
     rfl
   refine zd8 (i := 7) (N := some 21) (v := undef) (a' := ?_) #[true, true, true, true, true, true, true, true, false, false] rfl rfl (zc3 HT_.out (by kernel_rfl)) (fun _ _ _ h => h) (Or.inr ⟨by rfl, rfl⟩) ?_ ?_
   rotate_left
   · simp only [Act.put, zla, zlb, zlc, zbl, zbr]
     rfl
   refine zd8 (i := 8) (N := some 22) (v := undef) (a' := ?_) #[true, true, true, true, true, true, true, true, true, false] rfl rfl (zc3 HT_.out (by kernel_rfl)) (fun _ _ _ h => h) (Or.inr ⟨by rfl, rfl⟩) ?_ ?_
   rotate_left
   · simp only [Act.put, zla, zlb, zlc, zbl, zbr]
     rfl
   refine zd8 (i := 9) (N := some 23) (v := ?_) (a' := ?_) #[true, true, true, true, true, true, true, true, true, true] rfl rfl (zc3 HT_.out (by kernel_rfl)) (fun _ _ _ h => h) (Or.inl ⟨by rfl, ?_⟩) ?_ ?_
   rotate_left
   · intro w'
     go_simp
     with_reducible rfl
   rotate_left
   · simp only [Act.put, zla, zlb, zlc, zbl, zbr]
     rfl
   refine zm5 (zlq HT_.out (by kernel_rfl)) ?_
   try go_wp2
   go_ret
   exact ⟨by first | rfl | (simp <;> rfl) | (simp [*] <;> rfl), by repeat (first | (with_reducible first | exact HB.out | apply zba | apply zbn | apply zbd | refine zaa ?_ GE101.out | refine zaa ?_ GE103.out) | exact HB.out)⟩
 rw [if_neg c7] at H
 have c7b0 : decide (3 ≤ x9_1) = false := zdf c7
 clear c7
 replace H := zob H
 obtain ⟨t104, A130, H⟩ := H
 replace H : ((zfb k1 t104 ((zab l1 x9_1).f0) ((zab l1 x9_1).f1) ((zab l1 x9_1).f2) ((zab l1 x9_1).f3) ((zab l1 x9_1).f4)).bind fun t107 => (if t107 = true then (zbp k1 l1 (l1.length : Int) (wrap64 (x9_1 + 1)) l0_0 l0_1) else (some false))) = some r := H
 have A13 := zA A130
 clear A130
 replace H := zob H
 obtain ⟨t107, A140, H⟩ := H
 replace H : (if t107 = true then (zbp k1 l1 (l1.length : Int) (wrap64 (x9_1 + 1)) l0_0 l0_1) else (some false)) = some r := H
 have A14 := zA A140
 clear A140
 by_cases c15 : t107 = true
 rotate_left
 · replace c15 := zbf c15
   subst c15
   replace H : (some false) = some r := by rw [if_neg (show ¬ (false = true) by decide)] at H; exact H
   obtain rfl := zsi H
   have p102 : 0 ≤ (x9_1 : Int) := zde (by assumption)
   have q102 : x9_1 < (l1.length : Int) := zde (by assumption)
   obtain ⟨ad102, e102, hx102_0, hx102_1, hx102_2, hx102_3, hx102_4⟩ := zg1 HR1.out x9_1 p102 q102
   cases e102
   replace hx102_0 := zkep HB.out hx102_0
   replace hx102_1 := zkep HB.out hx102_1
   replace hx102_2 := zkep HB.out hx102_2
   replace hx102_3 := zkep HB.out hx102_3
   replace hx102_4 := zkep HB.out hx102_4
   replace p102 := eq_true p102
   replace q102 := eq_true q102
   try go_wp2_with (first | ((with_reducible refine zam (N := 6) rfl ?_); refine zak ?hg (N := 6) ?hd (cs := #[.string (⟨#[]⟩ : ByteArray), .int .i64 0, .int .i64 0, .int .i64 0, .int .i64 0]) (t := 102) ?hr ?_; (case hd => rfl); (case hg => rfl); (case hr => go_simp <;> rfl); intro gb103 hg w24 hbox hb; have n0_ := zA (zad (g := gb101) (o := .cells #[.slice A0_0 l0_0.length c0_0, .slice A0_1 l0_1.length c0_1] 62 (0, 0)) (by (with_reducible repeat (first | refine zkn ?_ _ | refine zkd ?_ | refine zka ?_ _)); exact BK101.out) hb); have zs := zpair (by repeat (first | (with_reducible first | exact HB.out | apply zba | apply zbn | apply zbd | refine zaa ?_ GE101.out) | exact HB.out)) hb; have n1_ := zA (zs.1); have n2_ := zA (hbox); have n3_ := zA ((by rw [hg]; exact zs.2 : w.heap.size ≤ gb103)); have n4_ := n3_; have n5_ := zA ((by rw [hg]; exact Nat.ne_of_lt (zlt BK101.out (fun h => by (with_reducible repeat (first | refine zkn ?_ _ | refine zkd ?_ | refine zka ?_ _)); exact h)) : gb101 ≠ gb103)); have n6_ := zA (Ne.symm n5_.out); clear BK101 HB; have BK101 := n0_; have HB := n1_; have BK103 := n2_; have GW103 := n3_; have GE103 := n4_; have NB101_103 := n5_; have NB103_101 := n6_; clear n0_ n1_ n2_ n3_ n4_ n5_ n6_; clear zs hb hbox hg; have hnb25 := NB103_101.out; have hnc25 := NB101_103.out; obtain ⟨hcz26_0, hcz26_1, hcz26_2, hcz26_3, hcz26_4⟩ := zc5 w24 (.string (⟨#[]⟩ : ByteArray)) (.int .i64 0) (.int .i64 0) (.int .i64 0) (.int .i64 0) BK103.out; obtain ⟨hfz26_0, hfz26_1, hfz26_2, hfz26_3, hfz26_4⟩ := zf5 BK103.out))
   have n0_ : Aside0 ((((((w24.setCell ⟨gb103, 0, none⟩ (.string ((zab l1 x9_1).f0))).setCell ⟨gb103, 1, none⟩ (.int .i64 ((zab l1 x9_1).f1))).setCell ⟨gb103, 2, none⟩ (.int .i64 ((zab l1 x9_1).f2))).setCell ⟨gb103, 3, none⟩ (.int .i64 ((zab l1 x9_1).f3))).setCell ⟨gb103, 4, none⟩ (.int .i64 ((zab l1 x9_1).f4))).heap[gb101]? = some (.cells #[.slice A0_0 l0_0.length c0_0, .slice A0_1 l0_1.length c0_1] 62 (0, 0))) := ⟨by (with_reducible repeat (first | refine zkn ?_ _ | refine zkd ?_ | refine zka ?_ _)); refine zat ?_ NB101_103.out _; (with_reducible repeat (first | refine zkn ?_ _ | refine zkd ?_ | refine zka ?_ _)); refine zat ?_ NB101_103.out _; (with_reducible repeat (first | refine zkn ?_ _ | refine zkd ?_ | refine zka ?_ _)); refine zat ?_ NB101_103.out _; (with_reducible repeat (first | refine zkn ?_ _ | refine zkd ?_ | refine zka ?_ _)); refine zat ?_ NB101_103.out _; (with_reducible repeat (first | refine zkn ?_ _ | refine zkd ?_ | refine zka ?_ _)); refine zat ?_ NB101_103.out _; (with_reducible repeat (first | refine zkn ?_ _ | refine zkd ?_ | refine zka ?_ _)); exact BK101.out⟩
   have n1_ : Aside0 ((((((w24.setCell ⟨gb103, 0, none⟩ (.string ((zab l1 x9_1).f0))).setCell ⟨gb103, 1, none⟩ (.int .i64 ((zab l1 x9_1).f1))).setCell ⟨gb103, 2, none⟩ (.int .i64 ((zab l1 x9_1).f2))).setCell ⟨gb103, 3, none⟩ (.int .i64 ((zab l1 x9_1).f3))).setCell ⟨gb103, 4, none⟩ (.int .i64 ((zab l1 x9_1).f4))).heap[gb103]? = some (.cells #[.string ((zab l1 x9_1).f0), .int .i64 ((zab l1 x9_1).f1), .int .i64 ((zab l1 x9_1).f2), .int .i64 ((zab l1 x9_1).f3), .int .i64 ((zab l1 x9_1).f4)] 102 (0, 0))) := ⟨by (with_reducible repeat (first | refine zkn ?_ _ | refine zkd ?_ | refine zka ?_ _)); refine zbv (cs := #[.string ((zab l1 x9_1).f0), .int .i64 ((zab l1 x9_1).f1), .int .i64 ((zab l1 x9_1).f2), .int .i64 ((zab l1 x9_1).f3), .int .i64 0]) ?_ 4 _ rfl; (with_reducible repeat (first | refine zkn ?_ _ | refine zkd ?_ | refine zka ?_ _)); refine zbv (cs := #[.string ((zab l1 x9_1).f0), .int .i64 ((zab l1 x9_1).f1), .int .i64 ((zab l1 x9_1).f2), .int .i64 0, .int .i64 0]) ?_ 3 _ rfl; (with_reducible repeat (first | refine zkn ?_ _ | refine zkd ?_ | refine zka ?_ _)); refine zbv (cs := #[.string ((zab l1 x9_1).f0), .int .i64 ((zab l1 x9_1).f1), .int .i64 0, .int .i64 0, .int .i64 0]) ?_ 2 _ rfl; (with_reducible repeat (first | refine zkn ?_ _ | refine zkd ?_ | refine zka ?_ _)); refine zbv (cs := #[.string ((zab l1 x9_1).f0), .int .i64 0, .int .i64 0, .int .i64 0, .int .i64 0]) ?_ 1 _ rfl; (with_reducible repeat (first | refine zkn ?_ _ | refine zkd ?_ | refine zka ?_ _)); refine zbv (cs := #[.string (⟨#[]⟩ : ByteArray), .int .i64 0, .int .i64 0, .int .i64 0, .int .i64 0]) ?_ 0 _ rfl; (with_reducible repeat (first | refine zkn ?_ _ | refine zkd ?_ | refine zka ?_ _)); exact BK103.out⟩
   have n2_ : Aside0 (Below w.heap.size w (((((w24.setCell ⟨gb103, 0, none⟩ (.string ((zab l1 x9_1).f0))).setCell ⟨gb103, 1, none⟩ (.int .i64 ((zab l1 x9_1).f1))).setCell ⟨gb103, 2, none⟩ (.int .i64 ((zab l1 x9_1).f2))).setCell ⟨gb103, 3, none⟩ (.int .i64 ((zab l1 x9_1).f3))).setCell ⟨gb103, 4, none⟩ (.int .i64 ((zab l1 x9_1).f4)))) := ⟨by repeat (first | (with_reducible first | exact HB.out | apply zba | apply zbn | apply zbd | refine zaa ?_ GE101.out | refine zaa ?_ GE103.out) | exact HB.out)⟩
   (try clear BK101)
   (try clear BK103)
   (try clear HB)
   generalize (((((w24.setCell ⟨gb103, 0, none⟩ (.string ((zab l1 x9_1).f0))).setCell ⟨gb103, 1, none⟩ (.int .i64 ((zab l1 x9_1).f1))).setCell ⟨gb103, 2, none⟩ (.int .i64 ((zab l1 x9_1).f2))).setCell ⟨gb103, 3, none⟩ (.int .i64 ((zab l1 x9_1).f3))).setCell ⟨gb103, 4, none⟩ (.int .i64 ((zab l1 x9_1).f4))) = w27 at n0_ n1_ n2_ ⊢
   have BK101 := n0_
   have BK103 := n1_
   have HB := n2_
   clear n0_ n1_ n2_
   have n0_ := zA (zkd BK101.out)
   have n1_ := zA (zkd BK103.out)
   have n2_ := zA (zbd HB.out)
   clear BK101
   clear BK103
   clear HB
   have BK101 := n0_
   have BK103 := n1_
   have HB := n2_
   clear n0_ n1_ n2_
   refine zkj (n := 10) (S := fun w' => w'.cell? ⟨gb101, 0, none⟩ = some (.slice A0_0 l0_0.length c0_0) ∧ w'.cell? ⟨gb101, 1, none⟩ = some (.slice A0_1 l0_1.length c0_1) ∧ w'.cell? ⟨gb103, 0, none⟩ = some (.string ((zab l1 x9_1).f0)) ∧ w'.cell? ⟨gb103, 1, none⟩ = some (.int .i64 ((zab l1 x9_1).f1)) ∧ w'.cell? ⟨gb103, 2, none⟩ = some (.int .i64 ((zab l1 x9_1).f2)) ∧ w'.cell? ⟨gb103, 3, none⟩ = some (.int .i64 ((zab l1 x9_1).f3)) ∧ w'.cell? ⟨gb103, 4, none⟩ = some (.int .i64 ((zab l1 x9_1).f4))) (ds := []) #[false, false, false, false, false, false, false, false, false, false] (by kernel_rfl) rfl rfl ⟨(zag BK101.out 0).trans rfl, (zag BK101.out 1).trans rfl, (zag BK103.out 0).trans rfl, (zag BK103.out 1).trans rfl, (zag BK103.out 2).trans rfl, (zag BK103.out 3).trans rfl, (zag BK103.out 4).trans rfl⟩ (fun hHeld => ?_); refine zi0 zg2 zgw (fun HT_ HW_ => ?_)
   generalize w27.drew = w28 at BK101 BK103 HB hHeld ⊢
   refine zd8 (i := 0) (N := some 14) (v := ?_) (a' := ?_) #[true, false, false, false, false, false, false, false, false, false] rfl rfl (zc3 HT_.out (by kernel_rfl)) (fun _ _ _ h => h) (Or.inl ⟨by rfl, ?_⟩) ?_ ?_
   rotate_left
   · intro w'
     go_simp
     with_reducible rfl
   rotate_left
   · simp only [Act.put, zla, zlb, zlc, zbl, zbr]
     rfl
   refine zd8 (i := 1) (N := some 15) (v := ?_) (a' := ?_) #[true, true, false, false, false, false, false, false, false, false] rfl rfl (zc3 HT_.out (by kernel_rfl)) (fun _ _ _ h => h) (Or.inl ⟨by rfl, ?_⟩) ?_ ?_
   rotate_left
   · intro w'
     go_simp
     with_reducible rfl
   rotate_left
   · simp only [Act.put, zla, zlb, zlc, zbl, zbr]
     rfl
   refine zd8 (i := 2) (N := some 16) (v := ?_) (a' := ?_) #[true, true, true, false, false, false, false, false, false, false] rfl rfl (zc3 HT_.out (by kernel_rfl)) (fun _ _ _ h => h) (Or.inl ⟨by rfl, ?_⟩) ?_ ?_
   rotate_left
   · intro w'
     go_simp
     with_reducible rfl
   rotate_left
   · simp only [Act.put, zla, zlb, zlc, zbl, zbr]
     rfl
   refine zd8 (i := 4) (N := some 18) (v := ?_) (a' := ?_) #[true, true, true, false, true, false, false, false, false, false] rfl rfl (zc3 HT_.out (by kernel_rfl)) (fun _ _ _ h => h) (Or.inl ⟨by rfl, ?_⟩) ?_ ?_
   rotate_left
   · intro w'
     go_simp
     with_reducible rfl
   rotate_left
   · simp only [Act.put, zla, zlb, zlc, zbl, zbr]
     rfl
   refine take_ (i := 3) (N := some 17) (v := ?_) (a' := ?_) #[true, true, true, true, true, false, false, false, false, false] rfl rfl (zfg HT_.out HW_.out (by kernel_rfl)) (fun _ _ _ h => h) (Or.inl ⟨by rfl, ?_⟩) hHeld ?_ ?_
   rotate_left
   · rintro w' ⟨s0, s1, s2, s3, s4, s5, s6⟩
     go_simp
     with_reducible rfl
   rotate_left
   · simp only [Act.put, zla, zlb, zlc, zbl, zbr]
     rfl
   refine take_ (i := 6) (N := some 20) (v := ?_) (a' := ?_) #[true, true, true, true, true, false, true, false, false, false] rfl rfl (zfg HT_.out HW_.out (by kernel_rfl)) (fun _ _ _ h => h) (Or.inl ⟨by rfl, ?_⟩) hHeld ?_ ?_
   rotate_left
   · rintro w' ⟨s0, s1, s2, s3, s4, s5, s6⟩
     go_simp
     with_reducible rfl
   rotate_left
   · simp only [Act.put, zla, zlb, zlc, zbl, zbr]
     rfl
   refine one_ (i := 5) (N := some 19) #[true, true, true, true, true, true, true, false, false, false] rfl rfl (zl9 HT_.out (by kernel_rfl)) (by decide) (fun K hK => ?_)
   refine zko Try.func113 (by kernel_rfl) rfl #[.agg #[.slice A0_0 l0_0.length c0_0, .slice A0_1 l0_1.length c0_1], .int .i64 x9_1] (by rfl) rfl rfl (by first | rfl | (simp only [zld, zle, zlf, zlg, zlh] <;> rfl)) ?_
   with_reducible refine (zj7 k1 _ _ l0_0 (fun k_ => k_ < w.heap.size) _ _ l0_1 x9_1 t104 _ ?side1 ?side2 ?side3 A13.out).mono ?_
   (case side1 => repeat (first | exact (zCb HR0_0.out HB.out) | (with_reducible first | refine zCa ?_ _ | refine zCn ?_ _ | refine zCd ?_)))
   (case side2 => exact HC0_0.out)
   (case side3 => exact Kd.V_mk HC0_1.out (Kd.F_below (Kd.C_F (Kd.heap_int .i64) HR0_1.out) (by repeat (first | (with_reducible first | exact HB.out | apply zba | apply zbn | apply zbd | refine zaa ?_ GE101.out | refine zaa ?_ GE103.out) | exact HB.out))))
   rintro e w29 ⟨v105, rfl, ho0, hb⟩
   refine ⟨_, rfl, ?_⟩
   have n0_ := zA (Kd.R_lower (Kd.R_newB (Kd.R_mono (ok' := fun k_ => True) ho0 (fun _ hk_ => trivial)) (g := gb103) (o := .cells #[.string ((zab l1 x9_1).f0), .int .i64 ((zab l1 x9_1).f1), .int .i64 ((zab l1 x9_1).f2), .int .i64 ((zab l1 x9_1).f3), .int .i64 ((zab l1 x9_1).f4)] 102 (0, 0)) (by (with_reducible repeat (first | refine zkn ?_ _ | refine zkd ?_ | refine zka ?_ _)); exact BK103.out)) (zaj (by repeat (first | (with_reducible first | exact HB.out | apply zba | apply zbn | apply zbd | refine zaa ?_ GE101.out | refine zaa ?_ GE103.out) | exact HB.out))))
   have n1_ := zA (zad (g := gb101) (o := .cells #[.slice A0_0 l0_0.length c0_0, .slice A0_1 l0_1.length c0_1] 62 (0, 0)) (by (with_reducible repeat (first | refine zkn ?_ _ | refine zkd ?_ | refine zka ?_ _)); exact BK101.out) hb)
   have n2_ := zA (zad (g := gb103) (o := .cells #[.string ((zab l1 x9_1).f0), .int .i64 ((zab l1 x9_1).f1), .int .i64 ((zab l1 x9_1).f2), .int .i64 ((zab l1 x9_1).f3), .int .i64 ((zab l1 x9_1).f4)] 102 (0, 0)) (by (with_reducible repeat (first | refine zkn ?_ _ | refine zkd ?_ | refine zka ?_ _)); exact BK103.out) hb)
   have n3_ := zA (zai (by repeat (first | (with_reducible first | exact HB.out | apply zba | apply zbn | apply zbd | refine zaa ?_ GE101.out | refine zaa ?_ GE103.out) | exact HB.out)) hb)
   clear BK101
   clear BK103
   clear HB
   have HO106 := n0_
   have BK101 := n1_
   have BK103 := n2_
   have HB := n3_
   clear n0_ n1_ n2_ n3_
   (try clear hb)
   (try clear hb2)
   (try clear hk)
   (try clear hi)
   (try clear ho0)
   obtain ⟨Ao30, co30, eo30⟩ := Kd.R_slice HO106.out
   (first | subst eo30 | (injection eo30 with f1_ f2_ f3_; have f4_ := f1_.symm; have f5_ := f3_.symm; clear f1_ f2_ f3_; subst f4_; subst f5_))
   refine hK.out _ _ ⟨(zag BK101.out 0).trans rfl, (zag BK101.out 1).trans rfl, (zag BK103.out 0).trans rfl, (zag BK103.out 1).trans rfl, (zag BK103.out 2).trans rfl, (zag BK103.out 3).trans rfl, (zag BK103.out 4).trans rfl⟩ (fun hHeld => ?_)
   clear hK K
   refine zkm (a' := ?_) ?_ ?_
   rotate_left
   · show Act.put _ (some 19) _ = _
     simp only [Act.put, zla, zlb, zlc, zbl, zbr]
     rfl
   refine one_ (i := 7) (N := some 21) #[true, true, true, true, true, true, true, true, false, false] rfl rfl (zl9 HT_.out (by kernel_rfl)) (by decide) (fun K hK => ?_)
   refine zko Try.func212 (by kernel_rfl) rfl #[.slice Ao30 t104.length co30, .agg #[.string ((zab l1 x9_1).f0), .int .i64 ((zab l1 x9_1).f1), .int .i64 ((zab l1 x9_1).f2), .int .i64 ((zab l1 x9_1).f3), .int .i64 ((zab l1 x9_1).f4)]] (by rfl) rfl rfl (by first | rfl | (simp only [zld, zle, zlf, zlg, zlh] <;> rfl)) ?_
   with_reducible refine (zh3 k1 _ _ t104 ((zab l1 x9_1).f0) ((zab l1 x9_1).f1) ((zab l1 x9_1).f2) ((zab l1 x9_1).f3) ((zab l1 x9_1).f4) false _ ?side1 ?side2 A14.out).mono ?_
   (case side1 => repeat (first | exact (zRr HO106.out).2.2 | (with_reducible first | refine zCa ?_ _ | refine zCn ?_ _ | refine zCd ?_)))
   (case side2 => exact (zRr HO106.out).2.1)
   rintro e w31 ⟨rfl, hb⟩
   refine ⟨_, rfl, ?_⟩
   have n0_ := zA (zRb (by (with_reducible repeat (first | apply zRa | apply zRn | apply zRd)); exact HO106.out) hb)
   have n1_ := zA (zad (g := gb101) (o := .cells #[.slice A0_0 l0_0.length c0_0, .slice A0_1 l0_1.length c0_1] 62 (0, 0)) (by (with_reducible repeat (first | refine zkn ?_ _ | refine zkd ?_ | refine zka ?_ _)); exact BK101.out) hb)
   have n2_ := zA (zad (g := gb103) (o := .cells #[.string ((zab l1 x9_1).f0), .int .i64 ((zab l1 x9_1).f1), .int .i64 ((zab l1 x9_1).f2), .int .i64 ((zab l1 x9_1).f3), .int .i64 ((zab l1 x9_1).f4)] 102 (0, 0)) (by (with_reducible repeat (first | refine zkn ?_ _ | refine zkd ?_ | refine zka ?_ _)); exact BK103.out) hb)
   have n3_ := zA (zai (by repeat (first | (with_reducible first | exact HB.out | apply zba | apply zbn | apply zbd | refine zaa ?_ GE101.out | refine zaa ?_ GE103.out) | exact HB.out)) hb)
   clear HO106
   clear BK101
   clear BK103
   clear HB
   have HO106 := n0_
   have BK101 := n1_
   have BK103 := n2_
   have HB := n3_
   clear n0_ n1_ n2_ n3_
   (try clear hb)
   (try clear hb2)
   (try clear hk)
   (try clear hi)
   refine hK.out _ _ ⟨(zag BK101.out 0).trans rfl, (zag BK101.out 1).trans rfl, (zag BK103.out 0).trans rfl, (zag BK103.out 1).trans rfl, (zag BK103.out 2).trans rfl, (zag BK103.out 3).trans rfl, (zag BK103.out 4).trans rfl⟩ (fun hHeld => ?_)
   clear hK K
   refine zkm (a' := ?_) ?_ ?_
   rotate_left
   · show Act.put _ (some 21) _ = _
     simp only [Act.put, zla, zlb, zlc, zbl, zbr]
     rfl
   refine zd8 (i := 8) (N := some 22) (v := ?_) (a' := ?_) #[true, true, true, true, true, true, true, true, true, false] rfl rfl (zc3 HT_.out (by kernel_rfl)) (fun _ _ _ h => h) (Or.inl ⟨by rfl, ?_⟩) ?_ ?_
   rotate_left
   · intro w'
     go_simp
     with_reducible rfl
   rotate_left
   · simp only [Act.put, zla, zlb, zlc, zbl, zbr]
     rfl
   refine zd8 (i := 9) (N := some 23) (v := ?_) (a' := ?_) #[true, true, true, true, true, true, true, true, true, true] rfl rfl (zc3 HT_.out (by kernel_rfl)) (fun _ _ _ h => h) (Or.inl ⟨by rfl, ?_⟩) ?_ ?_
   rotate_left
   · intro w'
     go_simp
     with_reducible rfl
   rotate_left
   · simp only [Act.put, zla, zlb, zlc, zbl, zbr]
     rfl
   refine zm5 (zlq HT_.out (by kernel_rfl)) ?_
   try go_wp2
   go_ret
   exact ⟨by first | rfl | (simp <;> rfl) | (simp [*] <;> rfl), by repeat (first | (with_reducible first | exact HB.out | apply zba | apply zbn | apply zbd | refine zaa ?_ GE101.out | refine zaa ?_ GE103.out) | exact HB.out)⟩
 subst c15
 replace H : (zbp k1 l1 (l1.length : Int) (wrap64 (x9_1 + 1)) l0_0 l0_1) = some r := by rw [if_pos rfl] at H; exact H
 have H' := zA H
 clear H
 have p102 : 0 ≤ (x9_1 : Int) := zde (by assumption)
 have q102 : x9_1 < (l1.length : Int) := zde (by assumption)
 obtain ⟨ad102, e102, hx102_0, hx102_1, hx102_2, hx102_3, hx102_4⟩ := zg1 HR1.out x9_1 p102 q102
 cases e102
 replace hx102_0 := zkep HB.out hx102_0
 replace hx102_1 := zkep HB.out hx102_1
 replace hx102_2 := zkep HB.out hx102_2
 replace hx102_3 := zkep HB.out hx102_3
 replace hx102_4 := zkep HB.out hx102_4
 replace p102 := eq_true p102
 replace q102 := eq_true q102
 try go_wp2_with (first | ((with_reducible refine zam (N := 6) rfl ?_); refine zak ?hg (N := 6) ?hd (cs := #[.string (⟨#[]⟩ : ByteArray), .int .i64 0, .int .i64 0, .int .i64 0, .int .i64 0]) (t := 102) ?hr ?_; (case hd => rfl); (case hg => rfl); (case hr => go_simp <;> rfl); intro gb103 hg w16 hbox hb; have n0_ := zA (zad (g := gb101) (o := .cells #[.slice A0_0 l0_0.length c0_0, .slice A0_1 l0_1.length c0_1] 62 (0, 0)) (by (with_reducible repeat (first | refine zkn ?_ _ | refine zkd ?_ | refine zka ?_ _)); exact BK101.out) hb); have zs := zpair (by repeat (first | (with_reducible first | exact HB.out | apply zba | apply zbn | apply zbd | refine zaa ?_ GE101.out) | exact HB.out)) hb; have n1_ := zA (zs.1); have n2_ := zA (hbox); have n3_ := zA ((by rw [hg]; exact zs.2 : w.heap.size ≤ gb103)); have n4_ := n3_; have n5_ := zA ((by rw [hg]; exact Nat.ne_of_lt (zlt BK101.out (fun h => by (with_reducible repeat (first | refine zkn ?_ _ | refine zkd ?_ | refine zka ?_ _)); exact h)) : gb101 ≠ gb103)); have n6_ := zA (Ne.symm n5_.out); clear BK101 HB; have BK101 := n0_; have HB := n1_; have BK103 := n2_; have GW103 := n3_; have GE103 := n4_; have NB101_103 := n5_; have NB103_101 := n6_; clear n0_ n1_ n2_ n3_ n4_ n5_ n6_; clear zs hb hbox hg; have hnb17 := NB103_101.out; have hnc17 := NB101_103.out; obtain ⟨hcz18_0, hcz18_1, hcz18_2, hcz18_3, hcz18_4⟩ := zc5 w16 (.string (⟨#[]⟩ : ByteArray)) (.int .i64 0) (.int .i64 0) (.int .i64 0) (.int .i64 0) BK103.out; obtain ⟨hfz18_0, hfz18_1, hfz18_2, hfz18_3, hfz18_4⟩ := zf5 BK103.out))
 have n0_ : Aside0 ((((((w16.setCell ⟨gb103, 0, none⟩ (.string ((zab l1 x9_1).f0))).setCell ⟨gb103, 1, none⟩ (.int .i64 ((zab l1 x9_1).f1))).setCell ⟨gb103, 2, none⟩ (.int .i64 ((zab l1 x9_1).f2))).setCell ⟨gb103, 3, none⟩ (.int .i64 ((zab l1 x9_1).f3))).setCell ⟨gb103, 4, none⟩ (.int .i64 ((zab l1 x9_1).f4))).heap[gb101]? = some (.cells #[.slice A0_0 l0_0.length c0_0, .slice A0_1 l0_1.length c0_1] 62 (0, 0))) := ⟨by (with_reducible repeat (first | refine zkn ?_ _ | refine zkd ?_ | refine zka ?_ _)); refine zat ?_ NB101_103.out _; (with_reducible repeat (first | refine zkn ?_ _ | refine zkd ?_ | refine zka ?_ _)); refine zat ?_ NB101_103.out _; (with_reducible repeat (first | refine zkn ?_ _ | refine zkd ?_ | refine zka ?_ _)); refine zat ?_ NB101_103.out _; (with_reducible repeat (first | refine zkn ?_ _ | refine zkd ?_ | refine zka ?_ _)); refine zat ?_ NB101_103.out _; (with_reducible repeat (first | refine zkn ?_ _ | refine zkd ?_ | refine zka ?_ _)); refine zat ?_ NB101_103.out _; (with_reducible repeat (first | refine zkn ?_ _ | refine zkd ?_ | refine zka ?_ _)); exact BK101.out⟩
 have n1_ : Aside0 ((((((w16.setCell ⟨gb103, 0, none⟩ (.string ((zab l1 x9_1).f0))).setCell ⟨gb103, 1, none⟩ (.int .i64 ((zab l1 x9_1).f1))).setCell ⟨gb103, 2, none⟩ (.int .i64 ((zab l1 x9_1).f2))).setCell ⟨gb103, 3, none⟩ (.int .i64 ((zab l1 x9_1).f3))).setCell ⟨gb103, 4, none⟩ (.int .i64 ((zab l1 x9_1).f4))).heap[gb103]? = some (.cells #[.string ((zab l1 x9_1).f0), .int .i64 ((zab l1 x9_1).f1), .int .i64 ((zab l1 x9_1).f2), .int .i64 ((zab l1 x9_1).f3), .int .i64 ((zab l1 x9_1).f4)] 102 (0, 0))) := ⟨by (with_reducible repeat (first | refine zkn ?_ _ | refine zkd ?_ | refine zka ?_ _)); refine zbv (cs := #[.string ((zab l1 x9_1).f0), .int .i64 ((zab l1 x9_1).f1), .int .i64 ((zab l1 x9_1).f2), .int .i64 ((zab l1 x9_1).f3), .int .i64 0]) ?_ 4 _ rfl; (with_reducible repeat (first | refine zkn ?_ _ | refine zkd ?_ | refine zka ?_ _)); refine zbv (cs := #[.string ((zab l1 x9_1).f0), .int .i64 ((zab l1 x9_1).f1), .int .i64 ((zab l1 x9_1).f2), .int .i64 0, .int .i64 0]) ?_ 3 _ rfl; (with_reducible repeat (first | refine zkn ?_ _ | refine zkd ?_ | refine zka ?_ _)); refine zbv (cs := #[.string ((zab l1 x9_1).f0), .int .i64 ((zab l1 x9_1).f1), .int .i64 0, .int .i64 0, .int .i64 0]) ?_ 2 _ rfl; (with_reducible repeat (first | refine zkn ?_ _ | refine zkd ?_ | refine zka ?_ _)); refine zbv (cs := #[.string ((zab l1 x9_1).f0), .int .i64 0, .int .i64 0, .int .i64 0, .int .i64 0]) ?_ 1 _ rfl; (with_reducible repeat (first | refine zkn ?_ _ | refine zkd ?_ | refine zka ?_ _)); refine zbv (cs := #[.string (⟨#[]⟩ : ByteArray), .int .i64 0, .int .i64 0, .int .i64 0, .int .i64 0]) ?_ 0 _ rfl; (with_reducible repeat (first | refine zkn ?_ _ | refine zkd ?_ | refine zka ?_ _)); exact BK103.out⟩
 have n2_ : Aside0 (Below w.heap.size w (((((w16.setCell ⟨gb103, 0, none⟩ (.string ((zab l1 x9_1).f0))).setCell ⟨gb103, 1, none⟩ (.int .i64 ((zab l1 x9_1).f1))).setCell ⟨gb103, 2, none⟩ (.int .i64 ((zab l1 x9_1).f2))).setCell ⟨gb103, 3, none⟩ (.int .i64 ((zab l1 x9_1).f3))).setCell ⟨gb103, 4, none⟩ (.int .i64 ((zab l1 x9_1).f4)))) := ⟨by repeat (first | (with_reducible first | exact HB.out | apply zba | apply zbn | apply zbd | refine zaa ?_ GE101.out | refine zaa ?_ GE103.out) | exact HB.out)⟩
 (try clear BK101)
 (try clear BK103)
 (try clear HB)
 generalize (((((w16.setCell ⟨gb103, 0, none⟩ (.string ((zab l1 x9_1).f0))).setCell ⟨gb103, 1, none⟩ (.int .i64 ((zab l1 x9_1).f1))).setCell ⟨gb103, 2, none⟩ (.int .i64 ((zab l1 x9_1).f2))).setCell ⟨gb103, 3, none⟩ (.int .i64 ((zab l1 x9_1).f3))).setCell ⟨gb103, 4, none⟩ (.int .i64 ((zab l1 x9_1).f4))) = w19 at n0_ n1_ n2_ ⊢
 have BK101 := n0_
 have BK103 := n1_
 have HB := n2_
 clear n0_ n1_ n2_
 have n0_ := zA (zkd BK101.out)
 have n1_ := zA (zkd BK103.out)
 have n2_ := zA (zbd HB.out)
 clear BK101
 clear BK103
 clear HB
 have BK101 := n0_
 have BK103 := n1_
 have HB := n2_
 clear n0_ n1_ n2_
 refine zkj (n := 10) (S := fun w' => w'.cell? ⟨gb101, 0, none⟩ = some (.slice A0_0 l0_0.length c0_0) ∧ w'.cell? ⟨gb101, 1, none⟩ = some (.slice A0_1 l0_1.length c0_1) ∧ w'.cell? ⟨gb103, 0, none⟩ = some (.string ((zab l1 x9_1).f0)) ∧ w'.cell? ⟨gb103, 1, none⟩ = some (.int .i64 ((zab l1 x9_1).f1)) ∧ w'.cell? ⟨gb103, 2, none⟩ = some (.int .i64 ((zab l1 x9_1).f2)) ∧ w'.cell? ⟨gb103, 3, none⟩ = some (.int .i64 ((zab l1 x9_1).f3)) ∧ w'.cell? ⟨gb103, 4, none⟩ = some (.int .i64 ((zab l1 x9_1).f4))) (ds := []) #[false, false, false, false, false, false, false, false, false, false] (by kernel_rfl) rfl rfl ⟨(zag BK101.out 0).trans rfl, (zag BK101.out 1).trans rfl, (zag BK103.out 0).trans rfl, (zag BK103.out 1).trans rfl, (zag BK103.out 2).trans rfl, (zag BK103.out 3).trans rfl, (zag BK103.out 4).trans rfl⟩ (fun hHeld => ?_); refine zi0 zg2 zgw (fun HT_ HW_ => ?_)
 generalize w19.drew = w20 at BK101 BK103 HB hHeld ⊢
 refine zd8 (i := 0) (N := some 14) (v := ?_) (a' := ?_) #[true, false, false, false, false, false, false, false, false, false] rfl rfl (zc3 HT_.out (by kernel_rfl)) (fun _ _ _ h => h) (Or.inl ⟨by rfl, ?_⟩) ?_ ?_
 rotate_left
 · intro w'
   go_simp
   with_reducible rfl
 rotate_left
 · simp only [Act.put, zla, zlb, zlc, zbl, zbr]
   rfl
 refine zd8 (i := 1) (N := some 15) (v := ?_) (a' := ?_) #[true, true, false, false, false, false, false, false, false, false] rfl rfl (zc3 HT_.out (by kernel_rfl)) (fun _ _ _ h => h) (Or.inl ⟨by rfl, ?_⟩) ?_ ?_
 rotate_left
 · intro w'
   go_simp
   with_reducible rfl
 rotate_left
 · simp only [Act.put, zla, zlb, zlc, zbl, zbr]
   rfl
 refine zd8 (i := 2) (N := some 16) (v := ?_) (a' := ?_) #[true, true, true, false, false, false, false, false, false, false] rfl rfl (zc3 HT_.out (by kernel_rfl)) (fun _ _ _ h => h) (Or.inl ⟨by rfl, ?_⟩) ?_ ?_
 rotate_left
 · intro w'
   go_simp
   with_reducible rfl
 rotate_left
 · simp only [Act.put, zla, zlb, zlc, zbl, zbr]
   rfl
 refine zd8 (i := 4) (N := some 18) (v := ?_) (a' := ?_) #[true, true, true, false, true, false, false, false, false, false] rfl rfl (zc3 HT_.out (by kernel_rfl)) (fun _ _ _ h => h) (Or.inl ⟨by rfl, ?_⟩) ?_ ?_
 rotate_left
 · intro w'
   go_simp
   with_reducible rfl
 rotate_left
 · simp only [Act.put, zla, zlb, zlc, zbl, zbr]
   rfl
 refine take_ (i := 3) (N := some 17) (v := ?_) (a' := ?_) #[true, true, true, true, true, false, false, false, false, false] rfl rfl (zfg HT_.out HW_.out (by kernel_rfl)) (fun _ _ _ h => h) (Or.inl ⟨by rfl, ?_⟩) hHeld ?_ ?_
 rotate_left
 · rintro w' ⟨s0, s1, s2, s3, s4, s5, s6⟩
   go_simp
   with_reducible rfl
 rotate_left
 · simp only [Act.put, zla, zlb, zlc, zbl, zbr]
   rfl
 refine take_ (i := 6) (N := some 20) (v := ?_) (a' := ?_) #[true, true, true, true, true, false, true, false, false, false] rfl rfl (zfg HT_.out HW_.out (by kernel_rfl)) (fun _ _ _ h => h) (Or.inl ⟨by rfl, ?_⟩) hHeld ?_ ?_
 rotate_left
 · rintro w' ⟨s0, s1, s2, s3, s4, s5, s6⟩
   go_simp
   with_reducible rfl
 rotate_left
 · simp only [Act.put, zla, zlb, zlc, zbl, zbr]
   rfl
 refine one_ (i := 5) (N := some 19) #[true, true, true, true, true, true, true, false, false, false] rfl rfl (zl9 HT_.out (by kernel_rfl)) (by decide) (fun K hK => ?_)
 refine zko Try.func113 (by kernel_rfl) rfl #[.agg #[.slice A0_0 l0_0.length c0_0, .slice A0_1 l0_1.length c0_1], .int .i64 x9_1] (by rfl) rfl rfl (by first | rfl | (simp only [zld, zle, zlf, zlg, zlh] <;> rfl)) ?_
 with_reducible refine (zj7 k1 _ _ l0_0 (fun k_ => k_ < w.heap.size) _ _ l0_1 x9_1 t104 _ ?side1 ?side2 ?side3 A13.out).mono ?_
 (case side1 => repeat (first | exact (zCb HR0_0.out HB.out) | (with_reducible first | refine zCa ?_ _ | refine zCn ?_ _ | refine zCd ?_)))
 (case side2 => exact HC0_0.out)
 (case side3 => exact Kd.V_mk HC0_1.out (Kd.F_below (Kd.C_F (Kd.heap_int .i64) HR0_1.out) (by repeat (first | (with_reducible first | exact HB.out | apply zba | apply zbn | apply zbd | refine zaa ?_ GE101.out | refine zaa ?_ GE103.out) | exact HB.out))))
 rintro e w21 ⟨v105, rfl, ho0, hb⟩
 refine ⟨_, rfl, ?_⟩
 have n0_ := zA (Kd.R_lower (Kd.R_newB (Kd.R_mono (ok' := fun k_ => True) ho0 (fun _ hk_ => trivial)) (g := gb103) (o := .cells #[.string ((zab l1 x9_1).f0), .int .i64 ((zab l1 x9_1).f1), .int .i64 ((zab l1 x9_1).f2), .int .i64 ((zab l1 x9_1).f3), .int .i64 ((zab l1 x9_1).f4)] 102 (0, 0)) (by (with_reducible repeat (first | refine zkn ?_ _ | refine zkd ?_ | refine zka ?_ _)); exact BK103.out)) (zaj (by repeat (first | (with_reducible first | exact HB.out | apply zba | apply zbn | apply zbd | refine zaa ?_ GE101.out | refine zaa ?_ GE103.out) | exact HB.out))))
 have n1_ := zA (zad (g := gb101) (o := .cells #[.slice A0_0 l0_0.length c0_0, .slice A0_1 l0_1.length c0_1] 62 (0, 0)) (by (with_reducible repeat (first | refine zkn ?_ _ | refine zkd ?_ | refine zka ?_ _)); exact BK101.out) hb)
 have n2_ := zA (zad (g := gb103) (o := .cells #[.string ((zab l1 x9_1).f0), .int .i64 ((zab l1 x9_1).f1), .int .i64 ((zab l1 x9_1).f2), .int .i64 ((zab l1 x9_1).f3), .int .i64 ((zab l1 x9_1).f4)] 102 (0, 0)) (by (with_reducible repeat (first | refine zkn ?_ _ | refine zkd ?_ | refine zka ?_ _)); exact BK103.out) hb)
 have n3_ := zA (zai (by repeat (first | (with_reducible first | exact HB.out | apply zba | apply zbn | apply zbd | refine zaa ?_ GE101.out | refine zaa ?_ GE103.out) | exact HB.out)) hb)
 clear BK101
 clear BK103
 clear HB
 have HO106 := n0_
 have BK101 := n1_
 have BK103 := n2_
 have HB := n3_
 clear n0_ n1_ n2_ n3_
 (try clear hb)
 (try clear hb2)
 (try clear hk)
 (try clear hi)
 (try clear ho0)
 obtain ⟨Ao22, co22, eo22⟩ := Kd.R_slice HO106.out
 (first | subst eo22 | (injection eo22 with f1_ f2_ f3_; have f4_ := f1_.symm; have f5_ := f3_.symm; clear f1_ f2_ f3_; subst f4_; subst f5_))
 refine hK.out _ _ ⟨(zag BK101.out 0).trans rfl, (zag BK101.out 1).trans rfl, (zag BK103.out 0).trans rfl, (zag BK103.out 1).trans rfl, (zag BK103.out 2).trans rfl, (zag BK103.out 3).trans rfl, (zag BK103.out 4).trans rfl⟩ (fun hHeld => ?_)
 clear hK K
 refine zkm (a' := ?_) ?_ ?_
 rotate_left
 · show Act.put _ (some 19) _ = _
   simp only [Act.put, zla, zlb, zlc, zbl, zbr]
   rfl
 refine one_ (i := 7) (N := some 21) #[true, true, true, true, true, true, true, true, false, false] rfl rfl (zl9 HT_.out (by kernel_rfl)) (by decide) (fun K hK => ?_)
 refine zko Try.func212 (by kernel_rfl) rfl #[.slice Ao22 t104.length co22, .agg #[.string ((zab l1 x9_1).f0), .int .i64 ((zab l1 x9_1).f1), .int .i64 ((zab l1 x9_1).f2), .int .i64 ((zab l1 x9_1).f3), .int .i64 ((zab l1 x9_1).f4)]] (by rfl) rfl rfl (by first | rfl | (simp only [zld, zle, zlf, zlg, zlh] <;> rfl)) ?_
 with_reducible refine (zh3 k1 _ _ t104 ((zab l1 x9_1).f0) ((zab l1 x9_1).f1) ((zab l1 x9_1).f2) ((zab l1 x9_1).f3) ((zab l1 x9_1).f4) true _ ?side1 ?side2 A14.out).mono ?_
 (case side1 => repeat (first | exact (zRr HO106.out).2.2 | (with_reducible first | refine zCa ?_ _ | refine zCn ?_ _ | refine zCd ?_)))
 (case side2 => exact (zRr HO106.out).2.1)
 rintro e w23 ⟨rfl, hb⟩
 refine ⟨_, rfl, ?_⟩
 have n0_ := zA (zRb (by (with_reducible repeat (first | apply zRa | apply zRn | apply zRd)); exact HO106.out) hb)
 have n1_ := zA (zad (g := gb101) (o := .cells #[.slice A0_0 l0_0.length c0_0, .slice A0_1 l0_1.length c0_1] 62 (0, 0)) (by (with_reducible repeat (first | refine zkn ?_ _ | refine zkd ?_ | refine zka ?_ _)); exact BK101.out) hb)
 have n2_ := zA (zad (g := gb103) (o := .cells #[.string ((zab l1 x9_1).f0), .int .i64 ((zab l1 x9_1).f1), .int .i64 ((zab l1 x9_1).f2), .int .i64 ((zab l1 x9_1).f3), .int .i64 ((zab l1 x9_1).f4)] 102 (0, 0)) (by (with_reducible repeat (first | refine zkn ?_ _ | refine zkd ?_ | refine zka ?_ _)); exact BK103.out) hb)
 have n3_ := zA (zai (by repeat (first | (with_reducible first | exact HB.out | apply zba | apply zbn | apply zbd | refine zaa ?_ GE101.out | refine zaa ?_ GE103.out) | exact HB.out)) hb)
 clear HO106
 clear BK101
 clear BK103
 clear HB
 have HO106 := n0_
 have BK101 := n1_
 have BK103 := n2_
 have HB := n3_
 clear n0_ n1_ n2_ n3_
 (try clear hb)
 (try clear hb2)
 (try clear hk)
 (try clear hi)
 refine hK.out _ _ ⟨(zag BK101.out 0).trans rfl, (zag BK101.out 1).trans rfl, (zag BK103.out 0).trans rfl, (zag BK103.out 1).trans rfl, (zag BK103.out 2).trans rfl, (zag BK103.out 3).trans rfl, (zag BK103.out 4).trans rfl⟩ (fun hHeld => ?_)
 clear hK K
 refine zkm (a' := ?_) ?_ ?_
 rotate_left
 · show Act.put _ (some 21) _ = _
   simp only [Act.put, zla, zlb, zlc, zbl, zbr]
   rfl
 refine zd8 (i := 8) (N := some 22) (v := ?_) (a' := ?_) #[true, true, true, true, true, true, true, true, true, false] rfl rfl (zc3 HT_.out (by kernel_rfl)) (fun _ _ _ h => h) (Or.inl ⟨by rfl, ?_⟩) ?_ ?_
 rotate_left
 · intro w'
   go_simp
   with_reducible rfl
 rotate_left
 · simp only [Act.put, zla, zlb, zlc, zbl, zbr]
   rfl
 refine zd8 (i := 9) (N := some 23) (v := ?_) (a' := ?_) #[true, true, true, true, true, true, true, true, true, true] rfl rfl (zc3 HT_.out (by kernel_rfl)) (fun _ _ _ h => h) (Or.inl ⟨by rfl, ?_⟩) ?_ ?_
 rotate_left
 · intro w'
   go_simp
   with_reducible rfl
 rotate_left
 · simp only [Act.put, zla, zlb, zlc, zbl, zbr]
   rfl
 refine zm5 (zlq HT_.out (by kernel_rfl)) ?_
 try go_wp2
 go_roundg k1
 case measure => have := HK1.out; omega
 case rel => exact ⟨(wrap64 (x9_1 + 1)), (by first | rfl | (simp; done) | (simp [*]; done)), H', ⟨by have := HK1.out; omega⟩, ⟨by (with_reducible repeat (first | refine zkn ?_ _ | refine zkd ?_ | refine zka ?_ _)); exact BK101.out⟩, ⟨by repeat (first | (with_reducible first | exact HB.out | apply zba | apply zbn | apply zbd | refine zaa ?_ GE101.out | refine zaa ?_ GE103.out) | exact HB.out)⟩⟩
def zeo (k : Nat) (l0_0 : List ByteArray) (l0_1 : List Int) (l1 : List (S102)) : Option (Bool) := (zev k l0_0 l0_1).bind fun t102 => (if t102 = true then ((zdp k l0_0 l0_1 l1).bind fun t103 => (some t103)) else (some false))
theorem zh4 : ∀ a0 a1 a2 k, LeO (zeo k a0 a1 a2) (zeo (k + 1) a0 a1 a2) := by
 intro a0 a1 a2 k
 unfold zeo
 repeat' first
     | (with_reducible first | exact zls _ _ _ | exact zlj _ _ _ _ | exact LeO.refl _ | exact LeO.none _ | refine zaf ?_ ?_ | refine LeO.bind ?_ (fun _ => ?_))
     | exact LeO.none _
     | refine zaf ?_ ?_
     | refine LeO.bind ?_ (fun _ => ?_)
set_option maxHeartbeats 8000000 in
set_option maxRecDepth 100000 in
theorem zhq (k : Nat) (A0_0 : Option Addr) (c0_0 : Nat) (l0_0 : List ByteArray) (A0_1 : Option Addr) (c0_1 : Nat) (l0_1 : List Int) (A1 : Option Addr) (c1 : Nat) (l1 : List (S102)) (r : Bool) (w : World) (hr0_0 : Kd.C Kd.string w A0_0 l0_0.length l0_0) (hc0_0 : l0_0.length ≤ c0_0) (hr0_1 : Kd.C (Kd.int .i64) w A0_1 l0_1.length l0_1) (hc0_1 : l0_1.length ≤ c0_1) (hr1 : Kd.C k102 w A1 l1.length l1) (hc1 : l1.length ≤ c1) (h : zeo k l0_0 l0_1 l1 = some r) :
   Calls Try.prog 97 #[.agg #[.slice A0_0 l0_0.length c0_0, .slice A0_1 l0_1.length c0_1], .slice A1 l1.length c1] w fun e w' => e = .returned (.bool r) ∧ Below w.heap.size w w' := by
 have hu62 := Try.underlying62
 have HR0_0 := zA hr0_0
 have HC0_0 := zA hc0_0
 clear hr0_0 hc0_0
 have HR0_1 := zA hr0_1
 have HC0_1 := zA hc0_1
 clear hr0_1 hc0_1
 have HR1 := zA hr1
 have HC1 := zA hc1
 clear hr1 hc1
 have HB := zA (Below.refl w.heap.size w)
 have H : ((zev k l0_0 l0_1).bind fun t102 => (if t102 = true then ((zdp k l0_0 l0_1 l1).bind fun t103 => (some t103)) else (some false))) = some r := h
 clear h
 replace H := zob H
 obtain ⟨t102, A30, H⟩ := H
 replace H : (if t102 = true then ((zdp k l0_0 l0_1 l1).bind fun t103 => (some t103)) else (some false)) = some r := H
 have A3 := zA A30
 clear A30
 by_cases c4 : t102 = true
 rotate_left
 · replace c4 := zbf c4
   subst c4
   replace H : (some false) = some r := by rw [if_neg (show ¬ (false = true) by decide)] at H; exact H
   obtain rfl := zsi H
   go_enter Try.func97, Try.ntmps97
   go_wp2_with (first | ((with_reducible refine zam (N := 2) rfl ?_); refine zak ?hg (N := 2) ?hd (cs := #[.slice A0_0 l0_0.length c0_0, .slice A0_1 l0_1.length c0_1]) (t := 62) ?hr ?_; (case hd => rfl); (case hg => rfl); (case hr => go_simp <;> rfl); intro gb101 hg w11 hbox hb; have zs := zpair (by repeat (first | (with_reducible first | exact HB.out | apply zba | apply zbn | apply zbd) | exact HB.out)) hb; have n0_ := zA (zs.1); have n1_ := zA (hbox); have n2_ := zA ((by rw [hg]; exact zs.2 : w.heap.size ≤ gb101)); have n3_ := n2_; clear HB; have HB := n0_; have BK101 := n1_; have GW101 := n2_; have GE101 := n3_; clear n0_ n1_ n2_ n3_; clear zs hb hbox hg; obtain ⟨hcz12_0, hcz12_1⟩ := zc2 w11 (.slice A0_0 l0_0.length c0_0) (.slice A0_1 l0_1.length c0_1) BK101.out; obtain ⟨hfz12_0, hfz12_1⟩ := zf2 BK101.out) | ((with_reducible refine zae (f := 111) rfl ?_); refine zaz (some 6) rfl rfl Try.func111 (by kernel_rfl) rfl #[.agg #[.slice A0_0 l0_0.length c0_0, .slice A0_1 l0_1.length c0_1]] rfl (by first | rfl | (simp only [zld, zle, zlf, zlg, zlh] <;> rfl)) ?_; (with_reducible refine (zil k _ _ l0_0 _ _ l0_1 false _ ?side1 ?side2 ?side3 ?side4 A3.out).mono ?_); (case side1 => repeat (first | exact (zCb HR0_0.out HB.out) | (with_reducible first | refine zCa ?_ _ | refine zCn ?_ _ | refine zCd ?_))); (case side2 => exact HC0_0.out); (case side3 => repeat (first | exact (zCb HR0_1.out HB.out) | (with_reducible first | refine zCa ?_ _ | refine zCn ?_ _ | refine zCd ?_))); (case side4 => exact HC0_1.out); rintro e w13 ⟨rfl, hb⟩; refine ⟨_, rfl, ?_⟩; have n0_ := zA (zad (g := gb101) (o := .cells #[.slice A0_0 l0_0.length c0_0, .slice A0_1 l0_1.length c0_1] 62 (0, 0)) (by (with_reducible repeat (first | refine zkn ?_ _ | refine zkd ?_ | refine zka ?_ _)); exact BK101.out) hb); have n1_ := zA (zai (by repeat (first | (with_reducible first | exact HB.out | apply zba | apply zbn | apply zbd | refine zaa ?_ GE101.out) | exact HB.out)) hb); clear BK101 HB; have BK101 := n0_; have HB := n1_; clear n0_ n1_; (try clear hb)))
   go_ret
   exact ⟨by first | rfl | (simp <;> rfl) | (simp [*] <;> rfl), by repeat (first | (with_reducible first | exact HB.out | apply zba | apply zbn | apply zbd | refine zaa ?_ GE101.out) | exact HB.out)⟩
 subst c4
 replace H : ((zdp k l0_0 l0_1 l1).bind fun t103 => (some t103)) = some r := by rw [if_pos rfl] at H; exact H
 replace H := zob H
 obtain ⟨t103, A50, H⟩ := H
 replace H : (some t103) = some r := H
 have A5 := zA A50
 clear A50
 obtain rfl := zsi H
 go_enter Try.func97, Try.ntmps97
 go_wp2_with (first | ((with_reducible refine zam (N := 2) rfl ?_); refine zak ?hg (N := 2) ?hd (cs := #[.slice A0_0 l0_0.length c0_0, .slice A0_1 l0_1.length c0_1]) (t := 62) ?hr ?_; (case hd => rfl); (case hg => rfl); (case hr => go_simp <;> rfl); intro gb101 hg w6 hbox hb; have zs := zpair (by repeat (first | (with_reducible first | exact HB.out | apply zba | apply zbn | apply zbd) | exact HB.out)) hb; have n0_ := zA (zs.1); have n1_ := zA (hbox); have n2_ := zA ((by rw [hg]; exact zs.2 : w.heap.size ≤ gb101)); have n3_ := n2_; clear HB; have HB := n0_; have BK101 := n1_; have GW101 := n2_; have GE101 := n3_; clear n0_ n1_ n2_ n3_; clear zs hb hbox hg; obtain ⟨hcz7_0, hcz7_1⟩ := zc2 w6 (.slice A0_0 l0_0.length c0_0) (.slice A0_1 l0_1.length c0_1) BK101.out; obtain ⟨hfz7_0, hfz7_1⟩ := zf2 BK101.out) | ((with_reducible refine zae (f := 111) rfl ?_); refine zaz (some 6) rfl rfl Try.func111 (by kernel_rfl) rfl #[.agg #[.slice A0_0 l0_0.length c0_0, .slice A0_1 l0_1.length c0_1]] rfl (by first | rfl | (simp only [zld, zle, zlf, zlg, zlh] <;> rfl)) ?_; (with_reducible refine (zil k _ _ l0_0 _ _ l0_1 true _ ?side1 ?side2 ?side3 ?side4 A3.out).mono ?_); (case side1 => repeat (first | exact (zCb HR0_0.out HB.out) | (with_reducible first | refine zCa ?_ _ | refine zCn ?_ _ | refine zCd ?_))); (case side2 => exact HC0_0.out); (case side3 => repeat (first | exact (zCb HR0_1.out HB.out) | (with_reducible first | refine zCa ?_ _ | refine zCn ?_ _ | refine zCd ?_))); (case side4 => exact HC0_1.out); rintro e w8 ⟨rfl, hb⟩; refine ⟨_, rfl, ?_⟩; have n0_ := zA (zad (g := gb101) (o := .cells #[.slice A0_0 l0_0.length c0_0, .slice A0_1 l0_1.length c0_1] 62 (0, 0)) (by (with_reducible repeat (first | refine zkn ?_ _ | refine zkd ?_ | refine zka ?_ _)); exact BK101.out) hb); have n1_ := zA (zai (by repeat (first | (with_reducible first | exact HB.out | apply zba | apply zbn | apply zbd | refine zaa ?_ GE101.out) | exact HB.out)) hb); clear BK101 HB; have BK101 := n0_; have HB := n1_; clear n0_ n1_; (try clear hb); obtain ⟨hcz9_0, hcz9_1⟩ := zc2 w8 (.slice A0_0 l0_0.length c0_0) (.slice A0_1 l0_1.length c0_1) BK101.out; obtain ⟨hfz9_0, hfz9_1⟩ := zf2 BK101.out) | (go_at_call 159; (with_reducible refine (zk2 k _ _ l0_0 _ _ l0_1 _ _ l1 t103 _ ?side1 ?side2 ?side3 ?side4 ?side5 ?side6 A5.out).mono ?_); (case side1 => repeat (first | exact (zCb HR0_0.out HB.out) | (with_reducible first | refine zCa ?_ _ | refine zCn ?_ _ | refine zCd ?_))); (case side2 => exact HC0_0.out); (case side3 => repeat (first | exact (zCb HR0_1.out HB.out) | (with_reducible first | refine zCa ?_ _ | refine zCn ?_ _ | refine zCd ?_))); (case side4 => exact HC0_1.out); (case side5 => repeat (first | exact (zCb HR1.out HB.out) | (with_reducible first | refine zCa ?_ _ | refine zCn ?_ _ | refine zCd ?_))); (case side6 => exact HC1.out); rintro e w10 ⟨rfl, hb⟩; have n0_ := zA (zad (g := gb101) (o := .cells #[.slice A0_0 l0_0.length c0_0, .slice A0_1 l0_1.length c0_1] 62 (0, 0)) (by (with_reducible repeat (first | refine zkn ?_ _ | refine zkd ?_ | refine zka ?_ _)); exact BK101.out) hb); have n1_ := zA (zai (by repeat (first | (with_reducible first | exact HB.out | apply zba | apply zbn | apply zbd | refine zaa ?_ GE101.out) | exact HB.out)) hb); clear BK101 HB; have BK101 := n0_; have HB := n1_; clear n0_ n1_; (try clear hb)))
 go_ret
 exact ⟨by first | rfl | (simp <;> rfl) | (simp [*] <;> rfl), by repeat (first | (with_reducible first | exact HB.out | apply zba | apply zbn | apply zbd | refine zaa ?_ GE101.out) | exact HB.out)⟩
def zb3 : Nat → List Int → List Int → Int → Int → Option (List Int)
 | 0, _, _, _, _ => none
 | k + 1, x3, x9, x10, x11 => if x11 < x10 then (if 0 ≤ x11 then (if x11 < (x9.length : Int) then (if x11 < (x3.length : Int) then (zb3 k (x3.set (x11 : Int).toNat ((rd x9 x11) % 256)) x9 x10 (wrap64 (x11 + 1))) else (none)) else (none)) else (none)) else (some x3)
def zck (k : Nat) (l0 : List Int) : Option (List Int) := if 0 ≤ (l0.length : Int) then (if ((l0.length : Int) : Int).toNat ≤ 281474976710656 then (zb3 k (List.replicate ((l0.length : Int) : Int).toNat 0) l0 (l0.length : Int) 0) else (none)) else (none)
theorem zh5 : ∀ k, (∀ y0 y1 y2 y3, LeO (zb3 k y0 y1 y2 y3) (zb3 (k + 1) y0 y1 y2 y3))
 | 0 => fun _ _ _ _ r h => by simp [zb3] at h
 | k + 1 => by
   have ih0 := zh5 k
   · intro y0 y1 y2 y3
     unfold zb3
     repeat' first
     | (with_reducible first | exact ih0 _ _ _ _ | exact LeO.refl _ | exact LeO.none _ | refine zaf ?_ ?_ | refine LeO.bind ?_ (fun _ => ?_))
     | exact LeO.none _
     | refine zaf ?_ ?_
     | refine LeO.bind ?_ (fun _ => ?_)
theorem zlu : ∀ a0 k, LeO (zck k a0) (zck (k + 1) a0) := by
 intro a0 k
 have ih0 := zh5 k
 unfold zck
 repeat' first
     | (with_reducible first | exact ih0 _ _ _ _ | exact LeO.refl _ | exact LeO.none _ | refine zaf ?_ ?_ | refine LeO.bind ?_ (fun _ => ?_))
     | exact LeO.none _
     | refine zaf ?_ ?_
     | refine LeO.bind ?_ (fun _ => ?_)
set_option maxHeartbeats 8000000 in
set_option maxRecDepth 100000 in
theorem zin (k : Nat) (A0 : Option Addr) (c0 : Nat) (l0 : List Int) (r : List Int) (w : World) (hr0 : Kd.C (Kd.int .i64) w A0 l0.length l0) (hc0 : l0.length ≤ c0) (h : zck k l0 = some r) :
   Calls Try.prog 107 #[.slice A0 l0.length c0] w fun e w' => ∃ v0_ : Value, e = .returned (v0_) ∧ Kd.R (Kd.int .u8) 5 w' w.heap.size (fun _ => True) v0_ r ∧ Below w.heap.size w w' := by
 have HR0 := zA hr0
 have HC0 := zA hc0
 clear hr0 hc0
 have HB := zA (Below.refl w.heap.size w)
 have H : (if 0 ≤ (l0.length : Int) then (if ((l0.length : Int) : Int).toNat ≤ 281474976710656 then (zb3 k (List.replicate ((l0.length : Int) : Int).toNat 0) l0 (l0.length : Int) 0) else (none)) else (none)) = some r := h
 clear h
 by_cases c2 : 0 ≤ (l0.length : Int)
 rotate_left
 · rw [if_neg c2] at H
   exact absurd H (by simp)
 rw [if_pos c2] at H
 have c2b0 := eq_true c2
 have c2b1 : decide (0 ≤ (l0.length : Int)) = true := zdt c2
 clear c2
 by_cases c3 : ((l0.length : Int) : Int).toNat ≤ 281474976710656
 rotate_left
 · rw [if_neg c3] at H
   exact absurd H (by simp)
 rw [if_pos c3] at H
 have c3b0 := eq_true c3
 have c3b1 : decide (((l0.length : Int) : Int).toNat ≤ 281474976710656) = true := zdt c3
 clear c3
 obtain ⟨y101, hy101⟩ : ∃ y_ : List Int, y_ = (List.replicate ((l0.length : Int) : Int).toNat 0) := ⟨_, rfl⟩
 replace H : (zb3 k y101 l0 (l0.length : Int) 0) = some r := by first | (rw [hy101]; with_reducible exact H) | (have H2_ := (Option.bind_some _ _).symm.trans H; rw [hy101]; with_reducible exact H2_) | (have H2_ := (Option.bind_some _ _).symm.trans H; with_reducible exact H2_) | with_reducible exact H | (rw [hy101]; exact H) | exact H
 have Ny101 := zA hy101
 clear hy101
 have H' := zA H
 clear H
 go_enter Try.func107, Try.ntmps107
 go_wp2_with (first | ((with_reducible refine zam (N := 8) rfl ?_); refine Kd.R_make (Kd.int .u8) _ 5 rfl (N := 8) rfl 116 _ _ rfl (l0.length : Int) rfl rfl Try.underlying116 (.int .u8 0) 1 zt7 rfl (by decide) (by omega) 0 (ok := fun _ => True) (okp := fun _ => True) rfl (fun _ hk => hk) trivial (zde (by assumption)) (Nat.le_trans (Nat.mul_le_mul_right _ (zde (by assumption) : (l0.length : Int).toNat ≤ 281474976710656)) (by omega)) (Below.refl _ _) (zlr _) ?_; intro v102 w4 ho5 hb hg_ hnew_; clear hg_ hnew_; (first | rw [← Ny101.out] at ho5 | (simp only [Int.reduceToNat] at ho5; rw [← Ny101.out] at ho5)); have n0_ := zA (Kd.R_lower ho5 (zaj (by repeat (first | (with_reducible first | exact HB.out | apply zba | apply zbn | apply zbd) | exact HB.out)))); have n1_ := zA (zai (by repeat (first | (with_reducible first | exact HB.out | apply zba | apply zbn | apply zbd) | exact HB.out)) hb); clear HB; have HO103 := n0_; have HB := n1_; clear n0_ n1_; clear hb ho5))
 go_loopg [11] k (fun kq v11 w' => ∃ (x3_1 : List Int) (x11_1 : Int), v11 = .int .i64 x11_1 ∧ Aside0 (zb3 kq x3_1 l0 (l0.length : Int) x11_1 = some r) ∧ Aside0 (kq ≤ k) ∧ Aside0 (Kd.R (Kd.int .u8) 5 w' w.heap.size (fun _ => True) v102 x3_1) ∧ Aside0 (Below w.heap.size w w'))
 case atStart => exact ⟨(y101), (0), (by first | rfl | (simp; done) | (simp [*]; done)), H', ⟨zlr _⟩, ⟨by (with_reducible repeat (first | apply zRa | apply zRn | apply zRd)); exact HO103.out⟩, ⟨by repeat (first | (with_reducible first | exact HB.out | apply zba | apply zbn | apply zbd) | exact HB.out)⟩⟩
 clear H'
 try clear c1
 try clear c2
 try clear c2b0
 try clear c2b1
 try clear p2
 try clear c3
 try clear c3b0
 try clear c3b1
 obtain ⟨x3_1, x11_1, rfl, HA, HK1, HO_3, HB⟩ := hrel
 cases gk with
 | zero => exact absurd HA.out (by simp [zb3])
 | succ k1 =>
 have H := HA.out
 clear HA
 simp only [zb3] at H
 by_cases c6 : x11_1 < (l0.length : Int)
 rotate_left
 · rw [if_neg c6] at H
   have c6b0 : decide (x11_1 < (l0.length : Int)) = false := zdf c6
   clear c6
   obtain rfl := zsi H
   go_wp2
   go_ret
   exact ⟨_, by first | rfl | (simp <;> rfl) | (simp [*] <;> rfl), by (with_reducible repeat (first | apply zRa | apply zRn | apply zRd)); exact HO_3.out, by repeat (first | (with_reducible first | exact HB.out | apply zba | apply zbn | apply zbd) | exact HB.out)⟩
 rw [if_pos c6] at H
 have c6b0 : decide (x11_1 < (l0.length : Int)) = true := zdt c6
 clear c6
 by_cases c7 : 0 ≤ x11_1
 rotate_left
 · rw [if_neg c7] at H
   exact absurd H (by simp)
 rw [if_pos c7] at H
 have c7b0 : decide (0 ≤ x11_1) = true := zdt c7
 clear c7
 by_cases c8 : x11_1 < (l0.length : Int)
 rotate_left
 · rw [if_neg c8] at H
   exact absurd H (by simp)
 rw [if_pos c8] at H
 have c8b0 : decide (x11_1 < (l0.length : Int)) = true := zdt c8
 clear c8
 by_cases c9 : x11_1 < (x3_1.length : Int)
 rotate_left
 · rw [if_neg c9] at H
   exact absurd H (by simp)
 rw [if_pos c9] at H
 have c9b0 : decide (x11_1 < (x3_1.length : Int)) = true := zdt c9
 clear c9
 obtain ⟨y105, hy105⟩ : ∃ y_ : List Int, y_ = (x3_1.set (x11_1 : Int).toNat ((rd l0 x11_1) % 256)) := ⟨_, rfl⟩
 replace H : (zb3 k1 y105 l0 (l0.length : Int) (wrap64 (x11_1 + 1))) = some r := by first | (rw [hy105]; with_reducible exact H) | (have H2_ := (Option.bind_some _ _).symm.trans H; rw [hy105]; with_reducible exact H2_) | (have H2_ := (Option.bind_some _ _).symm.trans H; with_reducible exact H2_) | with_reducible exact H | (rw [hy105]; exact H) | exact H
 have Ny105 := zA hy105
 clear hy105
 have H' := zA H
 clear H
 have p104 : 0 ≤ (x11_1 : Int) := zde (by assumption)
 have q104 : x11_1 < (l0.length : Int) := zde (by assumption)
 obtain ⟨ad104, e104, hx104_0⟩ := Kd.at_int HR0.out x11_1 p104 q104
 cases e104
 replace hx104_0 := zkep HB.out hx104_0
 replace p104 := eq_true p104
 replace q104 := eq_true q104
 have p10 : 0 ≤ (x11_1 : Int) := zde (by assumption)
 have q10 : (x11_1 : Int) < ((x3_1.length : Int) : Int) := zde (by assumption)
 obtain ⟨go10, co10, eo10, gb10, gl10, cl10, HG10⟩ := Kd.R_form HO_3.out (by omega)
 (first | cases eo10 | (injection eo10 with ea_ en_ ec_; (first | subst ea_ | (injection ea_ with ea_; subst ea_)); subst ec_; clear en_))
 have GB10 := zA gb10
 have GG10 := zA HG10
 clear gb10 gl10 HG10
 obtain ⟨hx10_0, hf10_0⟩ := Kd.R_celln 0 HO_3.out (x11_1 : Int) p10 q10
 replace p10 := eq_true p10
 replace q10 := eq_true q10
 have HP11 := Kd.R_putg HO_3.out (x11_1 : Int) ((rd l0 x11_1) % 256)
 go_wp2_with (first | ((with_reducible refine zey (t := 5) (p := 20) rfl ?_); refine zeg (t := 5) (p := 20) (v := ?vo_w12) (w1 := (wr.setCell ⟨go10, (x11_1 : Int).toNat, none⟩ (.int .u8 ((rd l0 x11_1) % 256)))) ?hg ?ho ?hn ?hr ?_; (case ho => rfl); (case hg => rfl); (case hn => rfl); (case hr => go_simp <;> rfl); intro w12 hw; have hg : wr.grownBy w12 (some go10) := (by rw [hw]; exact HP11.2); have hp_ : Kd.R (Kd.int .u8) 5 w12 w.heap.size (fun _ => True) (.slice (some ⟨go10, 0, none⟩) x3_1.length co10) y105 := (by rw [hw, Ny105.out]; exact HP11.1); clear HP11; have n0_ := zA (hp_); have n1_ := zA ((by rw [hw]; exact zaa (HB.out) GB10.out : Below w.heap.size w w12)); clear HO_3 HB; have HO_3 := n0_; have HB := n1_; clear n0_ n1_; clear hg hw hp_))
 go_roundg k1
 case measure => have := HK1.out; omega
 case rel => exact ⟨(y105), (wrap64 (x11_1 + 1)), (by first | rfl | (simp; done) | (simp [*]; done)), H', ⟨by have := HK1.out; omega⟩, ⟨by (with_reducible repeat (first | apply zRa | apply zRn | apply zRd)); exact HO_3.out⟩, ⟨by repeat (first | (with_reducible first | exact HB.out | apply zba | apply zbn | apply zbd) | exact HB.out)⟩⟩
def zk6 (a0 : Int) (a1 : Int) : Option (Int) := some a0
set_option maxHeartbeats 8000000 in
set_option maxRecDepth 100000 in
theorem zlv (a0 : Int) (a1 : Int) (r : Int) (w : World) (h : zk6 a0 a1 = some r) :
   Calls Try.prog 171 #[.int .i64 a0, .int .i64 a1] w fun e w' => e = .returned (.int .i64 r) ∧ Drawn0 w w' := by
 have H : (some a0) = some r := h
 clear h
 obtain rfl := zsi H
 go_enter Try.func171, Try.ntmps171
 go_wp2
 go_ret
 exact ⟨by first | rfl | (simp; done) | (simp [*]; done), by repeat (first | exact Drawn0.refl _ | apply Drawn0.step)⟩
end Go.Proofs.Ytccoiifklcgodaa.Q
end
section
namespace Go.Proofs.Ytccoiifklcgodaa.Q
open Go.RowKit Go.Proofs.YtccoiifklcgodaaW.PrintWords Go.Proofs.YtccoiifklcgodaaW.PrintLast Go.Proofs.YtccoiifklcgodaaW.PrintMore
attribute [local go_sem] zdk zdl zee zef zcq zcr zdm zdn
set_option linter.unusedVariables false
set_option linter.unusedSimpArgs false
mutual
def za2 : Nat → List Int → Int → Option (List Int)
 | 0, _, _ => none
 | k + 1, x3, x7 => if x7 < 64 then (za3 k x3 x7 x7 0) else (some x3)
def za3 : Nat → List Int → Int → Int → Int → Option (List Int)
 | 0, _, _, _, _ => none
 | k + 1, x3, x4, x7, x10 => if x10 < 64 then ((zk6 x4 x10).bind fun t104 => (if x3.length < 17592186044416 then (za3 k (x3 ++ [t104]) x4 x7 (wrap64 (x10 + 1))) else (none))) else (za2 k x3 (wrap64 (x7 + 1)))
end
def zb8 (k : Nat)  : Option (List Int) := za2 k (([] : List Int)) 0
theorem zfp : ∀ k, (∀ y0 y1, LeO (za2 k y0 y1) (za2 (k + 1) y0 y1)) ∧ (∀ y0 y1 y2 y3, LeO (za3 k y0 y1 y2 y3) (za3 (k + 1) y0 y1 y2 y3))
 | 0 => ⟨fun _ _ r h => by simp [za2] at h, fun _ _ _ _ r h => by simp [za3] at h⟩
 | k + 1 => by
   obtain ⟨ih0, ih1⟩ := zfp k
   refine ⟨?_, ?_⟩
   · intro y0 y1
     unfold za2
     repeat' first
     | (with_reducible first | exact ih0 _ _ | exact ih1 _ _ _ _ | exact LeO.refl _ | exact LeO.none _ | refine zaf ?_ ?_ | refine LeO.bind ?_ (fun _ => ?_))
     | exact LeO.none _
     | refine zaf ?_ ?_
     | refine LeO.bind ?_ (fun _ => ?_)
   · intro y0 y1 y2 y3
     unfold za3
     repeat' first
     | (with_reducible first | exact ih0 _ _ | exact ih1 _ _ _ _ | exact LeO.refl _ | exact LeO.none _ | refine zaf ?_ ?_ | refine LeO.bind ?_ (fun _ => ?_))
     | exact LeO.none _
     | refine zaf ?_ ?_
     | refine LeO.bind ?_ (fun _ => ?_)
theorem zie : ∀ k, LeO (zb8 k ) (zb8 (k + 1) ) := by
 intro  k
 obtain ⟨ih0, ih1⟩ := zfp k
 unfold zb8
 repeat' first
     | (with_reducible first | exact ih0 _ _ | exact ih1 _ _ _ _ | exact LeO.refl _ | exact LeO.none _ | refine zaf ?_ ?_ | refine LeO.bind ?_ (fun _ => ?_))
     | exact LeO.none _
     | refine zaf ?_ ?_
     | refine LeO.bind ?_ (fun _ => ?_)
set_option maxHeartbeats 8000000 in
set_option maxRecDepth 100000 in
theorem zhx (k : Nat)  (r : List Int) (w : World) (h : zb8 k  = some r) :
   Calls Try.prog 137 #[.func (Fn.func 171) #[] #[]] w fun e w' => ∃ v0_ : Value, e = .returned (v0_) ∧ Kd.R (Kd.int .i64) 3 w' w.heap.size (fun _ => True) v0_ r ∧ Below w.heap.size w w' := by
 have HB := zA (Below.refl w.heap.size w)
 have H : (za2 k (([] : List Int)) 0) = some r := h
 clear h
 obtain ⟨y101, hy101⟩ : ∃ y_ : List Int, y_ = (([] : List Int)) := ⟨_, rfl⟩
 replace H : (za2 k y101 0) = some r := by first | (rw [hy101]; with_reducible exact H) | (have H2_ := (Option.bind_some _ _).symm.trans H; rw [hy101]; with_reducible exact H2_) | (have H2_ := (Option.bind_some _ _).symm.trans H; with_reducible exact H2_) | with_reducible exact H | (rw [hy101]; exact H) | exact H
 have Ny101 := zA hy101
 clear hy101
 have H' := zA H
 clear H
 go_enter Try.func137, Try.ntmps137
 go_wp2_with (first | ((with_reducible refine zam (N := 6) rfl ?_); refine Kd.R_lit (Kd.int .i64) _ 3 ?hg (N := 6) ?hd (xs := ([] : List Int)) (inner := []) (ok := fun _ => True) (okp := fun _ => True) ?hr ?hp (fun _ hk => hk) trivial (Below.refl _ _) (zlr _) (by simp) ?_; (case hd => rfl); (case hg => rfl); (case hr => go_simp <;> rfl); (case hp => exact (Reps.none _ _)); intro v102 w1 ho2 hb hg_ hnew_; clear hg_ hnew_; (first | rw [← Ny101.out] at ho2 | (simp only [Int.reduceToNat] at ho2; rw [← Ny101.out] at ho2)); have n0_ := zA (Kd.R_lower ho2 (zaj (by repeat (first | (with_reducible first | exact HB.out | apply zba | apply zbn | apply zbd) | exact HB.out)))); have n1_ := zA (zai (by repeat (first | (with_reducible first | exact HB.out | apply zba | apply zbn | apply zbd) | exact HB.out)) hb); clear HB; have HO103 := n0_; have HB := n1_; clear n0_ n1_; clear hb ho2))
 go_loopg [3, 7] k (fun kq v3 v7 w' => ∃ (x3_1 : List Int) (x7_1 : Int), v7 = .int .i64 x7_1 ∧ Aside0 (za2 kq x3_1 x7_1 = some r) ∧ Aside0 (kq ≤ k) ∧ Aside0 (Kd.R (Kd.int .i64) 3 w' w.heap.size (fun _ => True) v3 x3_1) ∧ Aside0 (Below w.heap.size w w'))
 case atStart => exact ⟨(y101), (0), (by first | rfl | (simp; done) | (simp [*]; done)), H', ⟨zlr _⟩, ⟨by (with_reducible repeat (first | apply zRa | apply zRn | apply zRd)); exact HO103.out⟩, ⟨by repeat (first | (with_reducible first | exact HB.out | apply zba | apply zbn | apply zbd) | exact HB.out)⟩⟩
 clear H'
 try clear p2
 obtain ⟨x3_1, x7_1, rfl, HA, HK1, HO_3, HB⟩ := hrel
 cases gk with
 | zero => exact absurd HA.out (by simp [za2])
 | succ k1 =>
 have H := HA.out
 clear HA
 simp only [za2] at H
 by_cases c3 : x7_1 < 64
 rotate_left
 · rw [if_neg c3] at H
   have c3b0 : decide (x7_1 < 64) = false := zdf c3
   clear c3
   obtain rfl := zsi H
   go_wp2
   go_ret
   exact ⟨_, by first | rfl | (simp <;> rfl) | (simp [*] <;> rfl), by (with_reducible repeat (first | apply zRa | apply zRn | apply zRd)); exact HO_3.out, by repeat (first | (with_reducible first | exact HB.out | apply zba | apply zbn | apply zbd) | exact HB.out)⟩
 rw [if_pos c3] at H
 have c3b0 : decide (x7_1 < 64) = true := zdt c3
 clear c3
 have H' := zA H
 clear H
 go_wp2
 go_loopg [3, 10] k1 (fun kq v3 v10 w' => ∃ (x3_2 : List Int) (x10_2 : Int), v10 = .int .i64 x10_2 ∧ Aside0 (za3 kq x3_2 x7_1 x7_1 x10_2 = some r) ∧ Aside0 (kq ≤ k1) ∧ Aside0 (Kd.R (Kd.int .i64) 3 w' w.heap.size (fun _ => True) v3 x3_2) ∧ Aside0 (Below w.heap.size w w'))
 case atStart => exact ⟨(x3_1), (0), (by first | rfl | (simp; done) | (simp [*]; done)), H', ⟨zlr _⟩, ⟨by (with_reducible repeat (first | apply zRa | apply zRn | apply zRd)); exact HO_3.out⟩, ⟨by repeat (first | (with_reducible first | exact HB.out | apply zba | apply zbn | apply zbd) | exact HB.out)⟩⟩
 clear H'
 try clear p2
 try clear c3
 try clear c3b0
 try clear p2
 obtain ⟨x3_2, x10_2, rfl, HA, HK2, HO_3, HB⟩ := hrel
 cases gk with
 | zero => exact absurd HA.out (by simp [za3])
 | succ k2 =>
 have H := HA.out
 clear HA
 simp only [za3] at H
 by_cases c4 : x10_2 < 64
 rotate_left
 · rw [if_neg c4] at H
   have c4b0 : decide (x10_2 < 64) = false := zdf c4
   clear c4
   have H' := zA H
   clear H
   go_wp2
   go_roundg k2
   case measure => have := HK1.out; have := HK2.out; omega
   case rel => exact ⟨(x3_2), (wrap64 (x7_1 + 1)), (by first | rfl | (simp; done) | (simp [*]; done)), H', ⟨by have := HK1.out; have := HK2.out; omega⟩, ⟨by (with_reducible repeat (first | apply zRa | apply zRn | apply zRd)); exact HO_3.out⟩, ⟨by repeat (first | (with_reducible first | exact HB.out | apply zba | apply zbn | apply zbd) | exact HB.out)⟩⟩
 rw [if_pos c4] at H
 have c4b0 : decide (x10_2 < 64) = true := zdt c4
 clear c4
 replace H := zob H
 obtain ⟨t104, A50, H⟩ := H
 replace H : (if x3_2.length < 17592186044416 then (za3 k2 (x3_2 ++ [t104]) x7_1 x7_1 (wrap64 (x10_2 + 1))) else (none)) = some r := H
 have A5 := zA A50
 clear A50
 by_cases c6 : x3_2.length < 17592186044416
 rotate_left
 · rw [if_neg c6] at H
   exact absurd H (by simp)
 rw [if_pos c6] at H
 have LMc6 := zA c6
 clear c6
 obtain ⟨y105, hy105⟩ : ∃ y_ : List Int, y_ = (x3_2 ++ [t104]) := ⟨_, rfl⟩
 replace H : (za3 k2 y105 x7_1 x7_1 (wrap64 (x10_2 + 1))) = some r := by first | (rw [hy105]; with_reducible exact H) | (have H2_ := (Option.bind_some _ _).symm.trans H; rw [hy105]; with_reducible exact H2_) | (have H2_ := (Option.bind_some _ _).symm.trans H; with_reducible exact H2_) | with_reducible exact H | (rw [hy105]; exact H) | exact H
 have Ny105 := zA hy105
 clear hy105
 have H' := zA H
 clear H
 go_wp2_with (first | (go_at_call 171; (with_reducible refine (zlv x7_1 x10_2 t104 _ A5.out).mono ?_); rintro e w' ⟨rfl, ⟨nd, rfl⟩⟩) | ((with_reducible refine ze4 (b := .append) (xs := #[.tmp 13, .tmp 18]) rfl ?_); at_builtin; refine Kd.R_append (Kd.int .i64) (w0 := w) w.heap.size rfl (.tmp 13) (.tmp 18) 51 3 (.int .i64 0) 8 rfl Try.underlying51 zmd rfl (by decide) (by omega) u3 x3_2 t104 [.int .i64 t104] (fun _ => True) (fun _ => False) rfl rfl ?aP (fun _ hk => hk.elim) ?aF ?aO ?aB ?aS ?aL ?_; (case aP => exact rfl); (case aB => exact (by repeat (first | (with_reducible first | exact HB.out | apply zba | apply zbn | apply zbd) | exact HB.out))); (case aF => exact (fun _ _ => trivial)); (case aO => exact (by (with_reducible repeat (first | apply zRa | apply zRn | apply zRd)); exact HO_3.out)); (case aS => exact (zaj (by repeat (first | (with_reducible first | exact HB.out | apply zba | apply zbn | apply zbd) | exact HB.out)))); (case aL => have := LMc6.out; omega); intro v106 w7 ho hb hg hat; rw [← Ny105.out] at ho; have n0_ := zA (hb); have n1_ := zA (ho); clear HB HO_3; have HB := n0_; have HO107 := n1_; clear n0_ n1_; clear ho hb hg hat))
 go_roundg k2
 case measure => have := HK1.out; have := HK2.out; omega
 case rel => exact ⟨(y105), (wrap64 (x10_2 + 1)), (by first | rfl | (simp; done) | (simp [*]; done)), H', ⟨by have := HK1.out; have := HK2.out; omega⟩, ⟨by (with_reducible repeat (first | apply zRa | apply zRn | apply zRd)); exact HO107.out⟩, ⟨by repeat (first | (with_reducible first | exact HB.out | apply zba | apply zbn | apply zbd) | exact HB.out)⟩⟩
end Go.Proofs.Ytccoiifklcgodaa.Q
end
section
namespace Go.Proofs.Ytccoiifklcgodaa.Q
open Go.RowKit Go.Proofs.YtccoiifklcgodaaW.PrintWords Go.Proofs.YtccoiifklcgodaaW.PrintLast Go.Proofs.YtccoiifklcgodaaW.PrintMore
attribute [local go_sem] zdk zdl zee zef zcq zcr zdm zdn
set_option linter.unusedVariables false
set_option linter.unusedSimpArgs false
def zk7 (a0 : Int) (a1 : Int) : Option (Int) := some a1
set_option maxHeartbeats 8000000 in
set_option maxRecDepth 100000 in
theorem zlw (a0 : Int) (a1 : Int) (r : Int) (w : World) (h : zk7 a0 a1 = some r) :
   Calls Try.prog 172 #[.int .i64 a0, .int .i64 a1] w fun e w' => e = .returned (.int .i64 r) ∧ Drawn0 w w' := by
 have H : (some a1) = some r := h
 clear h
 obtain rfl := zsi H
 go_enter Try.func172, Try.ntmps172
 go_wp2
 go_ret
 exact ⟨by first | rfl | (simp; done) | (simp [*]; done), by repeat (first | exact Drawn0.refl _ | apply Drawn0.step)⟩
end Go.Proofs.Ytccoiifklcgodaa.Q
end
section
namespace Go.Proofs.Ytccoiifklcgodaa.Q
open Go.RowKit Go.Proofs.YtccoiifklcgodaaW.PrintWords Go.Proofs.YtccoiifklcgodaaW.PrintLast Go.Proofs.YtccoiifklcgodaaW.PrintMore
attribute [local go_sem] zdk zdl zee zef zcq zcr zdm zdn
set_option linter.unusedVariables false
set_option linter.unusedSimpArgs false
mutual
def za4 : Nat → List Int → Int → Option (List Int)
 | 0, _, _ => none
 | k + 1, x3, x7 => if x7 < 64 then (za5 k x3 x7 x7 0) else (some x3)
def za5 : Nat → List Int → Int → Int → Int → Option (List Int)
 | 0, _, _, _, _ => none
 | k + 1, x3, x4, x7, x10 => if x10 < 64 then ((zk7 x4 x10).bind fun t104 => (if x3.length < 17592186044416 then (za5 k (x3 ++ [t104]) x4 x7 (wrap64 (x10 + 1))) else (none))) else (za4 k x3 (wrap64 (x7 + 1)))
end
def zbs (k : Nat)  : Option (List Int) := za4 k (([] : List Int)) 0
theorem zfq : ∀ k, (∀ y0 y1, LeO (za4 k y0 y1) (za4 (k + 1) y0 y1)) ∧ (∀ y0 y1 y2 y3, LeO (za5 k y0 y1 y2 y3) (za5 (k + 1) y0 y1 y2 y3))
 | 0 => ⟨fun _ _ r h => by simp [za4] at h, fun _ _ _ _ r h => by simp [za5] at h⟩
 | k + 1 => by
   obtain ⟨ih0, ih1⟩ := zfq k
   refine ⟨?_, ?_⟩
   · intro y0 y1
     unfold za4
     repeat' first
     | (with_reducible first | exact ih0 _ _ | exact ih1 _ _ _ _ | exact LeO.refl _ | exact LeO.none _ | refine zaf ?_ ?_ | refine LeO.bind ?_ (fun _ => ?_))
     | exact LeO.none _
     | refine zaf ?_ ?_
     | refine LeO.bind ?_ (fun _ => ?_)
   · intro y0 y1 y2 y3
     unfold za5
     repeat' first
     | (with_reducible first | exact ih0 _ _ | exact ih1 _ _ _ _ | exact LeO.refl _ | exact LeO.none _ | refine zaf ?_ ?_ | refine LeO.bind ?_ (fun _ => ?_))
     | exact LeO.none _
     | refine zaf ?_ ?_
     | refine LeO.bind ?_ (fun _ => ?_)
theorem zif : ∀ k, LeO (zbs k ) (zbs (k + 1) ) := by
 intro  k
 obtain ⟨ih0, ih1⟩ := zfq k
 unfold zbs
 repeat' first
     | (with_reducible first | exact ih0 _ _ | exact ih1 _ _ _ _ | exact LeO.refl _ | exact LeO.none _ | refine zaf ?_ ?_ | refine LeO.bind ?_ (fun _ => ?_))
     | exact LeO.none _
     | refine zaf ?_ ?_
     | refine LeO.bind ?_ (fun _ => ?_)
set_option maxHeartbeats 8000000 in
set_option maxRecDepth 100000 in
theorem zhy (k : Nat)  (r : List Int) (w : World) (h : zbs k  = some r) :
   Calls Try.prog 137 #[.func (Fn.func 172) #[] #[]] w fun e w' => ∃ v0_ : Value, e = .returned (v0_) ∧ Kd.R (Kd.int .i64) 3 w' w.heap.size (fun _ => True) v0_ r ∧ Below w.heap.size w w' := by
 have HB := zA (Below.refl w.heap.size w)
 have H : (za4 k (([] : List Int)) 0) = some r := h
 clear h
 obtain ⟨y101, hy101⟩ : ∃ y_ : List Int, y_ = (([] : List Int)) := ⟨_, rfl⟩
 replace H : (za4 k y101 0) = some r := by first | (rw [hy101]; with_reducible exact H) | (have H2_ := (Option.bind_some _ _).symm.trans H; rw [hy101]; with_reducible exact H2_) | (have H2_ := (Option.bind_some _ _).symm.trans H; with_reducible exact H2_) | with_reducible exact H | (rw [hy101]; exact H) | exact H
 have Ny101 := zA hy101
 clear hy101
 have H' := zA H
 clear H
 go_enter Try.func137, Try.ntmps137
 go_wp2_with (first | ((with_reducible refine zam (N := 6) rfl ?_); refine Kd.R_lit (Kd.int .i64) _ 3 ?hg (N := 6) ?hd (xs := ([] : List Int)) (inner := []) (ok := fun _ => True) (okp := fun _ => True) ?hr ?hp (fun _ hk => hk) trivial (Below.refl _ _) (zlr _) (by simp) ?_; (case hd => rfl); (case hg => rfl); (case hr => go_simp <;> rfl); (case hp => exact (Reps.none _ _)); intro v102 w1 ho2 hb hg_ hnew_; clear hg_ hnew_; (first | rw [← Ny101.out] at ho2 | (simp only [Int.reduceToNat] at ho2; rw [← Ny101.out] at ho2)); have n0_ := zA (Kd.R_lower ho2 (zaj (by repeat (first | (with_reducible first | exact HB.out | apply zba | apply zbn | apply zbd) | exact HB.out)))); have n1_ := zA (zai (by repeat (first | (with_reducible first | exact HB.out | apply zba | apply zbn | apply zbd) | exact HB.out)) hb); clear HB; have HO103 := n0_; have HB := n1_; clear n0_ n1_; clear hb ho2))
 go_loopg [3, 7] k (fun kq v3 v7 w' => ∃ (x3_1 : List Int) (x7_1 : Int), v7 = .int .i64 x7_1 ∧ Aside0 (za4 kq x3_1 x7_1 = some r) ∧ Aside0 (kq ≤ k) ∧ Aside0 (Kd.R (Kd.int .i64) 3 w' w.heap.size (fun _ => True) v3 x3_1) ∧ Aside0 (Below w.heap.size w w'))
 case atStart => exact ⟨(y101), (0), (by first | rfl | (simp; done) | (simp [*]; done)), H', ⟨zlr _⟩, ⟨by (with_reducible repeat (first | apply zRa | apply zRn | apply zRd)); exact HO103.out⟩, ⟨by repeat (first | (with_reducible first | exact HB.out | apply zba | apply zbn | apply zbd) | exact HB.out)⟩⟩
 clear H'
 try clear p2
 obtain ⟨x3_1, x7_1, rfl, HA, HK1, HO_3, HB⟩ := hrel
 cases gk with
 | zero => exact absurd HA.out (by simp [za4])
 | succ k1 =>
 have H := HA.out
 clear HA
 simp only [za4] at H
 by_cases c3 : x7_1 < 64
 rotate_left
 · rw [if_neg c3] at H
   have c3b0 : decide (x7_1 < 64) = false := zdf c3
   clear c3
   obtain rfl := zsi H
   go_wp2
   go_ret
   exact ⟨_, by first | rfl | (simp <;> rfl) | (simp [*] <;> rfl), by (with_reducible repeat (first | apply zRa | apply zRn | apply zRd)); exact HO_3.out, by repeat (first | (with_reducible first | exact HB.out | apply zba | apply zbn | apply zbd) | exact HB.out)⟩
 rw [if_pos c3] at H
 have c3b0 : decide (x7_1 < 64) = true := zdt c3
 clear c3
 have H' := zA H
 clear H
 go_wp2
 go_loopg [3, 10] k1 (fun kq v3 v10 w' => ∃ (x3_2 : List Int) (x10_2 : Int), v10 = .int .i64 x10_2 ∧ Aside0 (za5 kq x3_2 x7_1 x7_1 x10_2 = some r) ∧ Aside0 (kq ≤ k1) ∧ Aside0 (Kd.R (Kd.int .i64) 3 w' w.heap.size (fun _ => True) v3 x3_2) ∧ Aside0 (Below w.heap.size w w'))
 case atStart => exact ⟨(x3_1), (0), (by first | rfl | (simp; done) | (simp [*]; done)), H', ⟨zlr _⟩, ⟨by (with_reducible repeat (first | apply zRa | apply zRn | apply zRd)); exact HO_3.out⟩, ⟨by repeat (first | (with_reducible first | exact HB.out | apply zba | apply zbn | apply zbd) | exact HB.out)⟩⟩
 clear H'
 try clear p2
 try clear c3
 try clear c3b0
 try clear p2
 obtain ⟨x3_2, x10_2, rfl, HA, HK2, HO_3, HB⟩ := hrel
 cases gk with
 | zero => exact absurd HA.out (by simp [za5])
 | succ k2 =>
 have H := HA.out
 clear HA
 simp only [za5] at H
 by_cases c4 : x10_2 < 64
 rotate_left
 · rw [if_neg c4] at H
   have c4b0 : decide (x10_2 < 64) = false := zdf c4
   clear c4
   have H' := zA H
   clear H
   go_wp2
   go_roundg k2
   case measure => have := HK1.out; have := HK2.out; omega
   case rel => exact ⟨(x3_2), (wrap64 (x7_1 + 1)), (by first | rfl | (simp; done) | (simp [*]; done)), H', ⟨by have := HK1.out; have := HK2.out; omega⟩, ⟨by (with_reducible repeat (first | apply zRa | apply zRn | apply zRd)); exact HO_3.out⟩, ⟨by repeat (first | (with_reducible first | exact HB.out | apply zba | apply zbn | apply zbd) | exact HB.out)⟩⟩
 rw [if_pos c4] at H
 have c4b0 : decide (x10_2 < 64) = true := zdt c4
 clear c4
 replace H := zob H
 obtain ⟨t104, A50, H⟩ := H
 replace H : (if x3_2.length < 17592186044416 then (za5 k2 (x3_2 ++ [t104]) x7_1 x7_1 (wrap64 (x10_2 + 1))) else (none)) = some r := H
 have A5 := zA A50
 clear A50
 by_cases c6 : x3_2.length < 17592186044416
 rotate_left
 · rw [if_neg c6] at H
   exact absurd H (by simp)
 rw [if_pos c6] at H
 have LMc6 := zA c6
 clear c6
 obtain ⟨y105, hy105⟩ : ∃ y_ : List Int, y_ = (x3_2 ++ [t104]) := ⟨_, rfl⟩
 replace H : (za5 k2 y105 x7_1 x7_1 (wrap64 (x10_2 + 1))) = some r := by first | (rw [hy105]; with_reducible exact H) | (have H2_ := (Option.bind_some _ _).symm.trans H; rw [hy105]; with_reducible exact H2_) | (have H2_ := (Option.bind_some _ _).symm.trans H; with_reducible exact H2_) | with_reducible exact H | (rw [hy105]; exact H) | exact H
 have Ny105 := zA hy105
 clear hy105
 have H' := zA H
 clear H
 go_wp2_with (first | (go_at_call 172; (with_reducible refine (zlw x7_1 x10_2 t104 _ A5.out).mono ?_); rintro e w' ⟨rfl, ⟨nd, rfl⟩⟩) | ((with_reducible refine ze4 (b := .append) (xs := #[.tmp 13, .tmp 18]) rfl ?_); at_builtin; refine Kd.R_append (Kd.int .i64) (w0 := w) w.heap.size rfl (.tmp 13) (.tmp 18) 51 3 (.int .i64 0) 8 rfl Try.underlying51 zmd rfl (by decide) (by omega) u3 x3_2 t104 [.int .i64 t104] (fun _ => True) (fun _ => False) rfl rfl ?aP (fun _ hk => hk.elim) ?aF ?aO ?aB ?aS ?aL ?_; (case aP => exact rfl); (case aB => exact (by repeat (first | (with_reducible first | exact HB.out | apply zba | apply zbn | apply zbd) | exact HB.out))); (case aF => exact (fun _ _ => trivial)); (case aO => exact (by (with_reducible repeat (first | apply zRa | apply zRn | apply zRd)); exact HO_3.out)); (case aS => exact (zaj (by repeat (first | (with_reducible first | exact HB.out | apply zba | apply zbn | apply zbd) | exact HB.out)))); (case aL => have := LMc6.out; omega); intro v106 w7 ho hb hg hat; rw [← Ny105.out] at ho; have n0_ := zA (hb); have n1_ := zA (ho); clear HB HO_3; have HB := n0_; have HO107 := n1_; clear n0_ n1_; clear ho hb hg hat))
 go_roundg k2
 case measure => have := HK1.out; have := HK2.out; omega
 case rel => exact ⟨(y105), (wrap64 (x10_2 + 1)), (by first | rfl | (simp; done) | (simp [*]; done)), H', ⟨by have := HK1.out; have := HK2.out; omega⟩, ⟨by (with_reducible repeat (first | apply zRa | apply zRn | apply zRd)); exact HO107.out⟩, ⟨by repeat (first | (with_reducible first | exact HB.out | apply zba | apply zbn | apply zbd) | exact HB.out)⟩⟩
end Go.Proofs.Ytccoiifklcgodaa.Q
end
section
namespace Go.Proofs.Ytccoiifklcgodaa.Q
open Go.RowKit Go.Proofs.YtccoiifklcgodaaW.PrintWords Go.Proofs.YtccoiifklcgodaaW.PrintLast Go.Proofs.YtccoiifklcgodaaW.PrintMore
attribute [local go_sem] zdk zdl zee zef zcq zcr zdm zdn
set_option linter.unusedVariables false
set_option linter.unusedSimpArgs false
def ze1 (k : Nat)  : Option ((List (List Int))) := (zb8 k).bind fun t101 => ((zck k t101).bind fun t104 => ((zbs k).bind fun t107 => ((zck k t107).bind fun t110 => (some (([t104, t110] : List (List Int)))))))
theorem zio : ∀ k, LeO (ze1 k ) (ze1 (k + 1) ) := by
 intro  k
 unfold ze1
 repeat' first
     | (with_reducible first | exact zlu _ _ | exact zie _ | exact zif _ | exact LeO.refl _ | exact LeO.none _ | refine zaf ?_ ?_ | refine LeO.bind ?_ (fun _ => ?_))
     | exact LeO.none _
     | refine zaf ?_ ?_
     | refine LeO.bind ?_ (fun _ => ?_)
set_option maxHeartbeats 8000000 in
set_option maxRecDepth 100000 in
theorem zj8 (k : Nat)  (r : List (List Int)) (w : World) (h : ze1 k  = some r) :
   Calls Try.prog 116 #[] w fun e w' => ∃ v0_ : Value, e = .returned (v0_) ∧ Kd.N (Kd.slice 5 (Kd.int .u8)) 116 w' w.heap.size (fun k_ => (w.heap.size ≤ k_)) v0_ r ∧ Below w.heap.size w w' := by
 have HB := zA (Below.refl w.heap.size w)
 have H : ((zb8 k).bind fun t101 => ((zck k t101).bind fun t104 => ((zbs k).bind fun t107 => ((zck k t107).bind fun t110 => (some (([t104, t110] : List (List Int)))))))) = some r := h
 clear h
 replace H := zob H
 obtain ⟨t101, A10, H⟩ := H
 replace H : ((zck k t101).bind fun t104 => ((zbs k).bind fun t107 => ((zck k t107).bind fun t110 => (some (([t104, t110] : List (List Int))))))) = some r := H
 have A1 := zA A10
 clear A10
 replace H := zob H
 obtain ⟨t104, A20, H⟩ := H
 replace H : ((zbs k).bind fun t107 => ((zck k t107).bind fun t110 => (some (([t104, t110] : List (List Int)))))) = some r := H
 have A2 := zA A20
 clear A20
 replace H := zob H
 obtain ⟨t107, A30, H⟩ := H
 replace H : ((zck k t107).bind fun t110 => (some (([t104, t110] : List (List Int))))) = some r := H
 have A3 := zA A30
 clear A30
 replace H := zob H
 obtain ⟨t110, A40, H⟩ := H
 replace H : (some (([t104, t110] : List (List Int)))) = some r := H
 have A4 := zA A40
 clear A40
 obtain ⟨y113, hy113⟩ : ∃ y_ : List (List Int), y_ = (([t104, t110] : List (List Int))) := ⟨_, rfl⟩
 replace H : (some y113) = some r := by first | (rw [hy113]; with_reducible exact H) | (have H2_ := (Option.bind_some _ _).symm.trans H; rw [hy113]; with_reducible exact H2_) | (have H2_ := (Option.bind_some _ _).symm.trans H; with_reducible exact H2_) | with_reducible exact H | (rw [hy113]; exact H) | exact H
 have Ny113 := zA hy113
 clear hy113
 obtain rfl := zsi H
 go_enter Try.func116, Try.ntmps116
 go_wp2_with (first | ((with_reducible refine zae (f := 137) rfl ?_); refine zaz (some 1) rfl rfl Try.func137 (by kernel_rfl) rfl #[.func (Fn.func 171) #[] #[]] rfl (by first | rfl | (simp only [zld, zle, zlf, zlg, zlh] <;> rfl)) ?_; (with_reducible refine (zhx k  t101 _ A1.out).mono ?_); rintro e w5 ⟨v102, rfl, ho0, hb⟩; refine ⟨_, rfl, ?_⟩; have n0_ := zA (Kd.R_lower (Kd.R_newM (M := fun k_ => (w.heap.size ≤ k_)) ho0 (zaj (by repeat (first | (with_reducible first | exact HB.out | apply zba | apply zbn | apply zbd) | exact HB.out))) (fun k_ h_ => h_)) (zaj (by repeat (first | (with_reducible first | exact HB.out | apply zba | apply zbn | apply zbd) | exact HB.out)))); have n1_ := zA (zai (by repeat (first | (with_reducible first | exact HB.out | apply zba | apply zbn | apply zbd) | exact HB.out)) hb); clear HB; have HO103 := n0_; have HB := n1_; clear n0_ n1_; (try clear hb); (try clear hk); (try clear ho0); obtain ⟨Ao6, co6, eo6⟩ := Kd.R_slice HO103.out; subst eo6) | ((with_reducible refine zae (f := 107) rfl ?_); refine zaz (some 2) rfl rfl Try.func107 (by kernel_rfl) rfl #[.slice Ao6 t101.length co6] rfl (by first | rfl | (simp only [zld, zle, zlf, zlg, zlh] <;> rfl)) ?_; (with_reducible refine (zin k _ _ t101 t104 _ ?side1 ?side2 A2.out).mono ?_); (case side1 => repeat (first | exact (zRr HO103.out).2.2 | (with_reducible first | refine zCa ?_ _ | refine zCn ?_ _ | refine zCd ?_))); (case side2 => exact (zRr HO103.out).2.1); rintro e w7 ⟨v105, rfl, ho0, hb⟩; refine ⟨_, rfl, ?_⟩; have n0_ := zA (zRb (by (with_reducible repeat (first | apply zRa | apply zRn | apply zRd)); exact HO103.out) hb); have n1_ := zA (Kd.R_lower (Kd.R_newM (M := fun k_ => (w.heap.size ≤ k_)) ho0 (zaj (by repeat (first | (with_reducible first | exact HB.out | apply zba | apply zbn | apply zbd) | exact HB.out))) (fun k_ h_ => h_)) (zaj (by repeat (first | (with_reducible first | exact HB.out | apply zba | apply zbn | apply zbd) | exact HB.out)))); have n2_ := zA (zai (by repeat (first | (with_reducible first | exact HB.out | apply zba | apply zbn | apply zbd) | exact HB.out)) hb); clear HO103 HB; have HO103 := n0_; have HO106 := n1_; have HB := n2_; clear n0_ n1_ n2_; (try clear hb); (try clear hk); (try clear ho0)) | ((with_reducible refine zae (f := 137) rfl ?_); refine zaz (some 3) rfl rfl Try.func137 (by kernel_rfl) rfl #[.func (Fn.func 172) #[] #[]] rfl (by first | rfl | (simp only [zld, zle, zlf, zlg, zlh] <;> rfl)) ?_; (with_reducible refine (zhy k  t107 _ A3.out).mono ?_); rintro e w8 ⟨v108, rfl, ho0, hb⟩; refine ⟨_, rfl, ?_⟩; have n0_ := zA (Kd.R_elder' (by (with_reducible repeat (first | apply zRa | apply zRn | apply zRd)); exact HO103.out) (Kd.R_base ho0) hb); have n1_ := zA (zRb (by (with_reducible repeat (first | apply zRa | apply zRn | apply zRd)); exact HO106.out) hb); have n2_ := zA (Kd.R_lower (Kd.R_new' (Kd.R_newM (M := fun k_ => (w.heap.size ≤ k_)) ho0 (zaj (by repeat (first | (with_reducible first | exact HB.out | apply zba | apply zbn | apply zbd) | exact HB.out))) (fun k_ h_ => h_)) (Kd.R_lt (by (with_reducible repeat (first | apply zRa | apply zRn | apply zRd)); exact HO103.out))) (zaj (by repeat (first | (with_reducible first | exact HB.out | apply zba | apply zbn | apply zbd) | exact HB.out)))); have n3_ := zA (zai (by repeat (first | (with_reducible first | exact HB.out | apply zba | apply zbn | apply zbd) | exact HB.out)) hb); clear HO103 HO106 HB; have HO103 := n0_; have HO106 := n1_; have HO109 := n2_; have HB := n3_; clear n0_ n1_ n2_ n3_; (try clear hb); (try clear hk); (try clear ho0); obtain ⟨Ao9, co9, eo9⟩ := Kd.R_slice HO109.out; subst eo9) | ((with_reducible refine zae (f := 107) rfl ?_); refine zaz (some 4) rfl rfl Try.func107 (by kernel_rfl) rfl #[.slice Ao9 t107.length co9] rfl (by first | rfl | (simp only [zld, zle, zlf, zlg, zlh] <;> rfl)) ?_; (with_reducible refine (zin k _ _ t107 t110 _ ?side1 ?side2 A4.out).mono ?_); (case side1 => repeat (first | exact (zRr HO109.out).2.2 | (with_reducible first | refine zCa ?_ _ | refine zCn ?_ _ | refine zCd ?_))); (case side2 => exact (zRr HO109.out).2.1); rintro e w10 ⟨v111, rfl, ho0, hb⟩; refine ⟨_, rfl, ?_⟩; have n0_ := zA (zRb (by (with_reducible repeat (first | apply zRa | apply zRn | apply zRd)); exact HO103.out) hb); have n1_ := zA (Kd.R_elder' (by (with_reducible repeat (first | apply zRa | apply zRn | apply zRd)); exact HO106.out) (Kd.R_base ho0) hb); have n2_ := zA (zRb (by (with_reducible repeat (first | apply zRa | apply zRn | apply zRd)); exact HO109.out) hb); have n3_ := zA (Kd.R_lower (Kd.R_new' (Kd.R_newM (M := fun k_ => (w.heap.size ≤ k_)) ho0 (zaj (by repeat (first | (with_reducible first | exact HB.out | apply zba | apply zbn | apply zbd) | exact HB.out))) (fun k_ h_ => h_)) (Kd.R_lt (by (with_reducible repeat (first | apply zRa | apply zRn | apply zRd)); exact HO106.out))) (zaj (by repeat (first | (with_reducible first | exact HB.out | apply zba | apply zbn | apply zbd) | exact HB.out)))); have n4_ := zA (zai (by repeat (first | (with_reducible first | exact HB.out | apply zba | apply zbn | apply zbd) | exact HB.out)) hb); clear HO103 HO106; clear HO109 HB; have HO103 := n0_; have HO106 := n1_; have HO109 := n2_; have HO112 := n3_; have HB := n4_; clear n0_ n1_ n2_ n3_ n4_; (try clear hb); (try clear hk); (try clear ho0); obtain ⟨Ao11, co11, eo11⟩ := Kd.R_slice HO106.out; subst eo11; obtain ⟨Ao12, co12, eo12⟩ := Kd.R_slice HO112.out; subst eo12) | ((with_reducible refine zam (N := 5) rfl ?_); refine Kd.N_lit (Kd.slice 5 (Kd.int .u8)) _ 116 ?hg (N' := 5) ?hd (xs := ([t104, t110] : List (List Int))) (inner := [.slice Ao11 t104.length co11, .slice Ao12 t110.length co12]) (ok := (fun k_ => (w.heap.size ≤ k_) ∧ some k_ ≠ (.slice Ao6 t101.length co6 : Value).ownBlock ∧ some k_ ≠ (.slice Ao9 t107.length co9 : Value).ownBlock)) (okp := (fun k_ => (w.heap.size ≤ k_) ∧ some k_ ≠ (.slice Ao6 t101.length co6 : Value).ownBlock ∧ some k_ ≠ (.slice Ao9 t107.length co9 : Value).ownBlock)) ?hr ?hp (fun _ hk => hk) ((show ∀ k_, w10.heap.size ≤ k_ → (fun k_ => (w.heap.size ≤ k_) ∧ some k_ ≠ (.slice Ao6 t101.length co6 : Value).ownBlock ∧ some k_ ≠ (.slice Ao9 t107.length co9 : Value).ownBlock) k_ from fun k_ hk => ⟨(Nat.le_trans (zaj (by repeat (first | (with_reducible first | exact HB.out | apply zba | apply zbn | apply zbd) | exact HB.out))) hk), Kd.fresh' (Kd.R_lt (by (with_reducible repeat (first | apply zRa | apply zRn | apply zRd)); exact HO103.out)) k_ hk, Kd.fresh' (Kd.R_lt (by (with_reducible repeat (first | apply zRa | apply zRn | apply zRd)); exact HO109.out)) k_ hk⟩) _ (zlr _)) (Below.refl _ _) (zlr _) (by simp) ?_; (case hd => rfl); (case hg => rfl); (case hr => go_simp <;> rfl); (case hp => exact (zd7 (show Kd.FK (Kd.slice 5 (Kd.int .u8)) _ _ t104 [.slice Ao11 t104.length co11] from (Kd.FK_slice_mk (zRr (Kd.R_mono (ok' := (fun k_ => (w.heap.size ≤ k_) ∧ some k_ ≠ (.slice Ao6 t101.length co6 : Value).ownBlock ∧ some k_ ≠ (.slice Ao9 t107.length co9 : Value).ownBlock)) (Kd.R_apart' (Kd.R_apart' (HO106.out) (Kd.R_typed HO103.out) (by decide)) (Kd.R_typed HO109.out) (by decide)) (fun k_ hk => ⟨hk.1.1.1.1, ⟨hk.1.2, hk.2⟩⟩))).2.1 (Kd.R_F (Kd.R_mono (ok' := (fun k_ => (w.heap.size ≤ k_) ∧ some k_ ≠ (.slice Ao6 t101.length co6 : Value).ownBlock ∧ some k_ ≠ (.slice Ao9 t107.length co9 : Value).ownBlock)) (Kd.R_apart' (Kd.R_apart' (HO106.out) (Kd.R_typed HO103.out) (by decide)) (Kd.R_typed HO109.out) (by decide)) (fun k_ hk => ⟨hk.1.1.1.1, ⟨hk.1.2, hk.2⟩⟩))))) (zd7 (show Kd.FK (Kd.slice 5 (Kd.int .u8)) _ _ t110 [.slice Ao12 t110.length co12] from (Kd.FK_slice_mk (zRr (Kd.R_mono (ok' := (fun k_ => (w.heap.size ≤ k_) ∧ some k_ ≠ (.slice Ao6 t101.length co6 : Value).ownBlock ∧ some k_ ≠ (.slice Ao9 t107.length co9 : Value).ownBlock)) (Kd.R_apart' (Kd.R_apart' (HO112.out) (Kd.R_typed HO103.out) (by decide)) (Kd.R_typed HO109.out) (by decide)) (fun k_ hk => ⟨hk.1.1.1.1, ⟨hk.1.2, hk.2⟩⟩))).2.1 (Kd.R_F (Kd.R_mono (ok' := (fun k_ => (w.heap.size ≤ k_) ∧ some k_ ≠ (.slice Ao6 t101.length co6 : Value).ownBlock ∧ some k_ ≠ (.slice Ao9 t107.length co9 : Value).ownBlock)) (Kd.R_apart' (Kd.R_apart' (HO112.out) (Kd.R_typed HO103.out) (by decide)) (Kd.R_typed HO109.out) (by decide)) (fun k_ hk => ⟨hk.1.1.1.1, ⟨hk.1.2, hk.2⟩⟩))))) (Reps.none _ _)))); intro v114 w13 ho14 hb hg_ hnew_; clear hg_ hnew_; (first | rw [← Ny113.out] at ho14 | (simp only [Int.reduceToNat] at ho14; rw [← Ny113.out] at ho14)); have n0_ := zA (zRb (by (with_reducible repeat (first | apply zRa | apply zRn | apply zRd)); exact HO103.out) hb); have n1_ := zA (zRb (by (with_reducible repeat (first | apply zRa | apply zRn | apply zRd)); exact HO109.out) hb); have n2_ := zA (Kd.N_lower ho14 (zaj (by repeat (first | (with_reducible first | exact HB.out | apply zba | apply zbn | apply zbd) | exact HB.out)))); have n3_ := zA (zai (by repeat (first | (with_reducible first | exact HB.out | apply zba | apply zbn | apply zbd) | exact HB.out)) hb); clear HO103 HO109; clear HB HO106 HO112; have HO103 := n0_; have HO109 := n1_; have HO115 := n2_; have HB := n3_; clear n0_ n1_ n2_ n3_; clear hb ho14))
 go_ret
 exact ⟨_, by first | rfl | (simp <;> rfl) | (simp [*] <;> rfl), by (with_reducible repeat (first | apply Kd.N_alloc | apply Kd.N_drewN | apply Kd.N_drew)); exact Kd.N_mono HO115.out (fun _ hk => hk.1), by repeat (first | (with_reducible first | exact HB.out | apply zba | apply zbn | apply zbd) | exact HB.out)⟩
def zii (a0 : Bool) : Option (Int) := if a0 = true then (some 1) else (some 0)
set_option maxHeartbeats 8000000 in
set_option maxRecDepth 100000 in
theorem zk8 (a0 : Bool) (r : Int) (w : World) (h : zii a0 = some r) :
   Calls Try.prog 228 #[.bool a0] w fun e w' => e = .returned (.int .i64 r) ∧ Drawn0 w w' := by
 have H : (if a0 = true then (some 1) else (some 0)) = some r := h
 clear h
 by_cases c2 : a0 = true
 · subst c2
   replace H : (some 1) = some r := by rw [if_pos rfl] at H; exact H
   obtain rfl := zsi H
   go_enter Try.func228, Try.ntmps228
   go_wp2
   go_ret
   exact ⟨by first | rfl | (simp; done) | (simp [*]; done), by repeat (first | exact Drawn0.refl _ | apply Drawn0.step)⟩
 · replace c2 := zbf c2
   subst c2
   replace H : (some 0) = some r := by rw [if_neg (show ¬ (false = true) by decide)] at H; exact H
   obtain rfl := zsi H
   go_enter Try.func228, Try.ntmps228
   go_wp2
   go_ret
   exact ⟨by first | rfl | (simp; done) | (simp [*]; done), by repeat (first | exact Drawn0.refl _ | apply Drawn0.step)⟩
def zei (a0 : ByteArray) (a1 : Int) (a2 : Int) : Option (Int) := if a0.toList = ([110, 111, 116] : List UInt8) then (some (Go.bits .and .i64 (wrap64 (63 - a1)) 63)) else (if a0.toList = ([110, 101, 103] : List UInt8) then (some (Go.bits .and .i64 (wrap64 (-a1)) 63)) else (if a0.toList = ([97, 100, 100] : List UInt8) then (some (Go.bits .and .i64 (wrap64 (a1 + a2)) 63)) else (if a0.toList = ([115, 117, 98] : List UInt8) then (some (Go.bits .and .i64 (wrap64 (a1 - a2)) 63)) else (if a0.toList = ([109, 117, 108] : List UInt8) then (some (Go.bits .and .i64 (wrap64 (a1 * a2)) 63)) else (if a0.toList = ([97, 110, 100] : List UInt8) then (some (Go.bits .and .i64 (Go.bits .and .i64 a1 a2) 63)) else (if a0.toList = ([111, 114] : List UInt8) then (some (Go.bits .and .i64 (Go.bits .or .i64 a1 a2) 63)) else (if a0.toList = ([120, 111, 114] : List UInt8) then (some (Go.bits .and .i64 (Go.bits .xor .i64 a1 a2) 63)) else (if a0.toList = ([115, 104, 108] : List UInt8) then (if a2 < 6 then (if 0 ≤ a2 then (some (Go.bits .and .i64 (shl .i64 a1 a2) 63)) else (none)) else (some (Go.bits .and .i64 0 63))) else (if a0.toList = ([115, 104, 114] : List UInt8) then (if a2 < 6 then (if 0 ≤ a2 then (some (Go.bits .and .i64 (shr .i64 a1 a2) 63)) else (none)) else (some (Go.bits .and .i64 0 63))) else (if a0.toList = ([108, 101, 115, 115] : List UInt8) then ((zii (decide (a1 < a2))).bind fun t101 => (some (Go.bits .and .i64 t101 63))) else (if a0.toList = ([101, 113] : List UInt8) then ((zii (a1 == a2)).bind fun t102 => (some (Go.bits .and .i64 t102 63))) else (some (Go.bits .and .i64 0 63)))))))))))))
set_option maxHeartbeats 8000000 in
set_option maxRecDepth 100000 in
theorem zcx (a0 : ByteArray) (a1 : Int) (a2 : Int) (r : Int) (w : World) (h : zei a0 a1 a2 = some r) :
   Calls Try.prog 208 #[.string a0, .int .i64 a1, .int .i64 a2] w fun e w' => e = .returned (.int .i64 r) ∧ Drawn0 w w' := by
 have H : (if a0.toList = ([110, 111, 116] : List UInt8) then (some (Go.bits .and .i64 (wrap64 (63 - a1)) 63)) else (if a0.toList = ([110, 101, 103] : List UInt8) then (some (Go.bits .and .i64 (wrap64 (-a1)) 63)) else (if a0.toList = ([97, 100, 100] : List UInt8) then (some (Go.bits .and .i64 (wrap64 (a1 + a2)) 63)) else (if a0.toList = ([115, 117, 98] : List UInt8) then (some (Go.bits .and .i64 (wrap64 (a1 - a2)) 63)) else (if a0.toList = ([109, 117, 108] : List UInt8) then (some (Go.bits .and .i64 (wrap64 (a1 * a2)) 63)) else (if a0.toList = ([97, 110, 100] : List UInt8) then (some (Go.bits .and .i64 (Go.bits .and .i64 a1 a2) 63)) else (if a0.toList = ([111, 114] : List UInt8) then (some (Go.bits .and .i64 (Go.bits .or .i64 a1 a2) 63)) else (if a0.toList = ([120, 111, 114] : List UInt8) then (some (Go.bits .and .i64 (Go.bits .xor .i64 a1 a2) 63)) else (if a0.toList = ([115, 104, 108] : List UInt8) then (if a2 < 6 then (if 0 ≤ a2 then (some (Go.bits .and .i64 (shl .i64 a1 a2) 63)) else (none)) else (some (Go.bits .and .i64 0 63))) else (if a0.toList = ([115, 104, 114] : List UInt8) then (if a2 < 6 then (if 0 ≤ a2 then (some (Go.bits .and .i64 (shr .i64 a1 a2) 63)) else (none)) else (some (Go.bits .and .i64 0 63))) else (if a0.toList = ([108, 101, 115, 115] : List UInt8) then ((zii (decide (a1 < a2))).bind fun t101 => (some (Go.bits .and .i64 t101 63))) else (if a0.toList = ([101, 113] : List UInt8) then ((zii (a1 == a2)).bind fun t102 => (some (Go.bits .and .i64 t102 63))) else (some (Go.bits .and .i64 0 63)))))))))))))) = some r := h
 clear h
 by_cases c4 : a0.toList = ([110, 111, 116] : List UInt8)
 · rw [if_pos c4] at H
   have c4b0 : (a0.toList == ([110, 111, 116] : List UInt8)) = true := beq_iff_eq.mpr c4
   have c4b1 : (a0.toList != ([110, 111, 116] : List UInt8)) = false := bne_eq_false_iff_eq.mpr c4
   clear c4
   obtain rfl := zsi H
   go_enter Try.func208, Try.ntmps208
   go_wp2
   go_ret
   exact ⟨by first | rfl | (simp; done) | (simp [*]; done), by repeat (first | exact Drawn0.refl _ | apply Drawn0.step)⟩
 rw [if_neg c4] at H
 have c4b0 : (a0.toList == ([110, 111, 116] : List UInt8)) = false := beq_eq_false_iff_ne.mpr c4
 have c4b1 : (a0.toList != ([110, 111, 116] : List UInt8)) = true := bne_iff_ne.mpr c4
 by_cases c5 : a0.toList = ([110, 101, 103] : List UInt8)
 · rw [if_pos c5] at H
   have c5b0 : (a0.toList == ([110, 101, 103] : List UInt8)) = true := beq_iff_eq.mpr c5
   have c5b1 : (a0.toList != ([110, 101, 103] : List UInt8)) = false := bne_eq_false_iff_eq.mpr c5
   clear c5
   obtain rfl := zsi H
   go_enter Try.func208, Try.ntmps208
   go_wp2
   go_ret
   exact ⟨by first | rfl | (simp; done) | (simp [*]; done), by repeat (first | exact Drawn0.refl _ | apply Drawn0.step)⟩
 rw [if_neg c5] at H
 have c5b0 : (a0.toList == ([110, 101, 103] : List UInt8)) = false := beq_eq_false_iff_ne.mpr c5
 have c5b1 : (a0.toList != ([110, 101, 103] : List UInt8)) = true := bne_iff_ne.mpr c5
 by_cases c6 : a0.toList = ([97, 100, 100] : List UInt8)
 · rw [if_pos c6] at H
   have c6b0 : (a0.toList == ([97, 100, 100] : List UInt8)) = true := beq_iff_eq.mpr c6
   have c6b1 : (a0.toList != ([97, 100, 100] : List UInt8)) = false := bne_eq_false_iff_eq.mpr c6
   clear c6
   obtain rfl := zsi H
   go_enter Try.func208, Try.ntmps208
   go_wp2
   go_ret
   exact ⟨by first | rfl | (simp; done) | (simp [*]; done), by repeat (first | exact Drawn0.refl _ | apply Drawn0.step)⟩
 rw [if_neg c6] at H
 have c6b0 : (a0.toList == ([97, 100, 100] : List UInt8)) = false := beq_eq_false_iff_ne.mpr c6
 have c6b1 : (a0.toList != ([97, 100, 100] : List UInt8)) = true := bne_iff_ne.mpr c6
 by_cases c7 : a0.toList = ([115, 117, 98] : List UInt8)
 · rw [if_pos c7] at H
   have c7b0 : (a0.toList == ([115, 117, 98] : List UInt8)) = true := beq_iff_eq.mpr c7
   have c7b1 : (a0.toList != ([115, 117, 98] : List UInt8)) = false := bne_eq_false_iff_eq.mpr c7
   clear c7
   obtain rfl := zsi H
   go_enter Try.func208, Try.ntmps208
   go_wp2
   go_ret
   exact ⟨by first | rfl | (simp; done) | (simp [*]; done), by repeat (first | exact Drawn0.refl _ | apply Drawn0.step)⟩
 rw [if_neg c7] at H
 have c7b0 : (a0.toList == ([115, 117, 98] : List UInt8)) = false := beq_eq_false_iff_ne.mpr c7
 have c7b1 : (a0.toList != ([115, 117, 98] : List UInt8)) = true := bne_iff_ne.mpr c7
 by_cases c8 : a0.toList = ([109, 117, 108] : List UInt8)
 · rw [if_pos c8] at H
   have c8b0 : (a0.toList == ([109, 117, 108] : List UInt8)) = true := beq_iff_eq.mpr c8
   have c8b1 : (a0.toList != ([109, 117, 108] : List UInt8)) = false := bne_eq_false_iff_eq.mpr c8
   clear c8
   obtain rfl := zsi H
   go_enter Try.func208, Try.ntmps208
   go_wp2
   go_ret
   exact ⟨by first | rfl | (simp; done) | (simp [*]; done), by repeat (first | exact Drawn0.refl _ | apply Drawn0.step)⟩
 rw [if_neg c8] at H
 have c8b0 : (a0.toList == ([109, 117, 108] : List UInt8)) = false := beq_eq_false_iff_ne.mpr c8
 have c8b1 : (a0.toList != ([109, 117, 108] : List UInt8)) = true := bne_iff_ne.mpr c8
 by_cases c9 : a0.toList = ([97, 110, 100] : List UInt8)
 · rw [if_pos c9] at H
   have c9b0 : (a0.toList == ([97, 110, 100] : List UInt8)) = true := beq_iff_eq.mpr c9
   have c9b1 : (a0.toList != ([97, 110, 100] : List UInt8)) = false := bne_eq_false_iff_eq.mpr c9
   clear c9
   obtain rfl := zsi H
   go_enter Try.func208, Try.ntmps208
   go_wp2
   go_ret
   exact ⟨by first | rfl | (simp; done) | (simp [*]; done), by repeat (first | exact Drawn0.refl _ | apply Drawn0.step)⟩
 rw [if_neg c9] at H
 have c9b0 : (a0.toList == ([97, 110, 100] : List UInt8)) = false := beq_eq_false_iff_ne.mpr c9
 have c9b1 : (a0.toList != ([97, 110, 100] : List UInt8)) = true := bne_iff_ne.mpr c9
 by_cases c10 : a0.toList = ([111, 114] : List UInt8)
 · rw [if_pos c10] at H
   have c10b0 : (a0.toList == ([111, 114] : List UInt8)) = true := beq_iff_eq.mpr c10
   have c10b1 : (a0.toList != ([111, 114] : List UInt8)) = false := bne_eq_false_iff_eq.mpr c10
   clear c10
   obtain rfl := zsi H
   go_enter Try.func208, Try.ntmps208
   go_wp2
   go_ret
   exact ⟨by first | rfl | (simp; done) | (simp [*]; done), by repeat (first | exact Drawn0.refl _ | apply Drawn0.step)⟩
 rw [if_neg c10] at H
 have c10b0 : (a0.toList == ([111, 114] : List UInt8)) = false := beq_eq_false_iff_ne.mpr c10
 have c10b1 : (a0.toList != ([111, 114] : List UInt8)) = true := bne_iff_ne.mpr c10
 by_cases c11 : a0.toList = ([120, 111, 114] : List UInt8)
 · rw [if_pos c11] at H
   have c11b0 : (a0.toList == ([120, 111, 114] : List UInt8)) = true := beq_iff_eq.mpr c11
   have c11b1 : (a0.toList != ([120, 111, 114] : List UInt8)) = false := bne_eq_false_iff_eq.mpr c11
   clear c11
   obtain rfl := zsi H
   go_enter Try.func208, Try.ntmps208
   go_wp2
   go_ret
   exact ⟨by first | rfl | (simp; done) | (simp [*]; done), by repeat (first | exact Drawn0.refl _ | apply Drawn0.step)⟩
 rw [if_neg c11] at H
 have c11b0 : (a0.toList == ([120, 111, 114] : List UInt8)) = false := beq_eq_false_iff_ne.mpr c11
 have c11b1 : (a0.toList != ([120, 111, 114] : List UInt8)) = true := bne_iff_ne.mpr c11
 by_cases c12 : a0.toList = ([115, 104, 108] : List UInt8)
 · rw [if_pos c12] at H
   have c12b0 : (a0.toList == ([115, 104, 108] : List UInt8)) = true := beq_iff_eq.mpr c12
   have c12b1 : (a0.toList != ([115, 104, 108] : List UInt8)) = false := bne_eq_false_iff_eq.mpr c12
   clear c12
   by_cases c13 : a2 < 6
   rotate_left
   · rw [if_neg c13] at H
     have c13b0 : decide (a2 < 6) = false := zdf c13
     clear c13
     obtain rfl := zsi H
     go_enter Try.func208, Try.ntmps208
     go_wp2
     go_ret
     exact ⟨by first | rfl | (simp; done) | (simp [*]; done), by repeat (first | exact Drawn0.refl _ | apply Drawn0.step)⟩
   rw [if_pos c13] at H
   have c13b0 : decide (a2 < 6) = true := zdt c13
   clear c13
   by_cases c14 : 0 ≤ a2
   rotate_left
   · rw [if_neg c14] at H
     exact absurd H (by simp)
   rw [if_pos c14] at H
   have c14b0 := eq_true c14
   have c14b1 : decide (0 ≤ a2) = true := zdt c14
   clear c14
   obtain ⟨ji15, hji15⟩ : ∃ j_ : Int, (shl .i64 a1 a2) = j_ := ⟨_, rfl⟩
   replace H : (some (Go.bits .and .i64 (ji15) 63)) = some r := by first | (rw [hji15] at H; exact H) | (simp only [hji15] at H ⊢; exact H)
   have hji15_ : (IntKind.i64.wrap (a1 * 2 ^ min a2.toNat 64)) = ji15 := hji15
   have hji15z : a2 ≤ 64 → (IntKind.i64.wrap (a1 * 2 ^ a2.toNat)) = ji15 := zpd hji15
   have hji15y : (wrap64 (a1 * 2 ^ min a2.toNat 64)) = ji15 := (zbl _).symm.trans hji15_
   have hji15x : a2 ≤ 64 → (wrap64 (a1 * 2 ^ a2.toNat)) = ji15 := fun h_ => (zbl _).symm.trans (hji15z h_)
   obtain rfl := zsi H
   go_enter Try.func208, Try.ntmps208
   go_wp2
   go_ret
   exact ⟨by first | rfl | (simp; done) | (simp only [← hji15] <;> (first | rfl | simp)) | (simp [*]; done), by repeat (first | exact Drawn0.refl _ | apply Drawn0.step)⟩
 rw [if_neg c12] at H
 have c12b0 : (a0.toList == ([115, 104, 108] : List UInt8)) = false := beq_eq_false_iff_ne.mpr c12
 have c12b1 : (a0.toList != ([115, 104, 108] : List UInt8)) = true := bne_iff_ne.mpr c12
 by_cases c16 : a0.toList = ([115, 104, 114] : List UInt8)
 · rw [if_pos c16] at H
   have c16b0 : (a0.toList == ([115, 104, 114] : List UInt8)) = true := beq_iff_eq.mpr c16
   have c16b1 : (a0.toList != ([115, 104, 114] : List UInt8)) = false := bne_eq_false_iff_eq.mpr c16
   clear c16
   by_cases c17 : a2 < 6
   rotate_left
   · rw [if_neg c17] at H
     have c17b0 : decide (a2 < 6) = false := zdf c17
     clear c17
     obtain rfl := zsi H
     go_enter Try.func208, Try.ntmps208
     go_wp2
     go_ret
     exact ⟨by first | rfl | (simp; done) | (simp [*]; done), by repeat (first | exact Drawn0.refl _ | apply Drawn0.step)⟩
   rw [if_pos c17] at H
   have c17b0 : decide (a2 < 6) = true := zdt c17
   clear c17
   by_cases c18 : 0 ≤ a2
   rotate_left
   · rw [if_neg c18] at H
     exact absurd H (by simp)
   rw [if_pos c18] at H
   have c18b0 := eq_true c18
   have c18b1 : decide (0 ≤ a2) = true := zdt c18
   clear c18
   obtain ⟨ji19, hji19⟩ : ∃ j_ : Int, (shr .i64 a1 a2) = j_ := ⟨_, rfl⟩
   replace H : (some (Go.bits .and .i64 (ji19) 63)) = some r := by first | (rw [hji19] at H; exact H) | (simp only [hji19] at H ⊢; exact H)
   have hji19_ : (a1 / 2 ^ min a2.toNat 64) = ji19 := hji19
   have hji19z : a2 ≤ 64 → (a1 / 2 ^ a2.toNat) = ji19 := zpe hji19
   obtain rfl := zsi H
   go_enter Try.func208, Try.ntmps208
   go_wp2
   go_ret
   exact ⟨by first | rfl | (simp; done) | (simp only [← hji19] <;> (first | rfl | simp)) | (simp [*]; done), by repeat (first | exact Drawn0.refl _ | apply Drawn0.step)⟩
 rw [if_neg c16] at H
 have c16b0 : (a0.toList == ([115, 104, 114] : List UInt8)) = false := beq_eq_false_iff_ne.mpr c16
 have c16b1 : (a0.toList != ([115, 104, 114] : List UInt8)) = true := bne_iff_ne.mpr c16
 by_cases c20 : a0.toList = ([108, 101, 115, 115] : List UInt8)
 · rw [if_pos c20] at H
   have c20b0 : (a0.toList == ([108, 101, 115, 115] : List UInt8)) = true := beq_iff_eq.mpr c20
   have c20b1 : (a0.toList != ([108, 101, 115, 115] : List UInt8)) = false := bne_eq_false_iff_eq.mpr c20
   clear c20
   replace H := zob H
   obtain ⟨t101, A210, H⟩ := H
   replace H : (some (Go.bits .and .i64 t101 63)) = some r := H
   have A21 := zA A210
   clear A210
   obtain rfl := zsi H
   go_enter Try.func208, Try.ntmps208
   go_wp2_with (first | ((with_reducible refine zae (f := 228) rfl ?_); refine zaz (some 66) rfl rfl Try.func228 (by kernel_rfl) rfl #[.bool (decide (a1 < a2))] rfl (by first | rfl | (simp only [zld, zle, zlf, zlg, zlh] <;> rfl)) ?_; (with_reducible refine (zk8 (decide (a1 < a2)) t101 _ A21.out).mono ?_); rintro e w' ⟨rfl, ⟨nd, rfl⟩⟩; refine ⟨_, rfl, ?_⟩))
   go_ret
   exact ⟨by first | rfl | (simp; done) | (simp [*]; done), by repeat (first | exact Drawn0.refl _ | apply Drawn0.step)⟩
 rw [if_neg c20] at H
 have c20b0 : (a0.toList == ([108, 101, 115, 115] : List UInt8)) = false := beq_eq_false_iff_ne.mpr c20
 have c20b1 : (a0.toList != ([108, 101, 115, 115] : List UInt8)) = true := bne_iff_ne.mpr c20
 by_cases c22 : a0.toList = ([101, 113] : List UInt8)
 rotate_left
 · rw [if_neg c22] at H
   have c22b0 : (a0.toList == ([101, 113] : List UInt8)) = false := beq_eq_false_iff_ne.mpr c22
   have c22b1 : (a0.toList != ([101, 113] : List UInt8)) = true := bne_iff_ne.mpr c22
   obtain rfl := zsi H
   go_enter Try.func208, Try.ntmps208
   go_wp2
   go_ret
   exact ⟨by first | rfl | (simp; done) | (simp [*]; done), by repeat (first | exact Drawn0.refl _ | apply Drawn0.step)⟩
 rw [if_pos c22] at H
 have c22b0 : (a0.toList == ([101, 113] : List UInt8)) = true := beq_iff_eq.mpr c22
 have c22b1 : (a0.toList != ([101, 113] : List UInt8)) = false := bne_eq_false_iff_eq.mpr c22
 clear c22
 replace H := zob H
 obtain ⟨t102, A230, H⟩ := H
 replace H : (some (Go.bits .and .i64 t102 63)) = some r := H
 have A23 := zA A230
 clear A230
 obtain rfl := zsi H
 go_enter Try.func208, Try.ntmps208
 go_wp2_with (first | ((with_reducible refine zae (f := 228) rfl ?_); refine zaz (some 72) rfl rfl Try.func228 (by kernel_rfl) rfl #[.bool (a1 == a2)] rfl (by first | rfl | (simp only [zld, zle, zlf, zlg, zlh] <;> rfl)) ?_; (with_reducible refine (zk8 (a1 == a2) t102 _ A23.out).mono ?_); rintro e w' ⟨rfl, ⟨nd, rfl⟩⟩; refine ⟨_, rfl, ?_⟩))
 go_ret
 exact ⟨by first | rfl | (simp; done) | (simp [*]; done), by repeat (first | exact Drawn0.refl _ | apply Drawn0.step)⟩
def za9 : Nat → Int → Int → Bool → ByteArray → Int → Int → Int → Int → Option (Int)
 | 0, _, _, _, _, _, _, _, _ => none
 | k + 1, x1, x2, x24, x102000, x102001, x102002, x102003, x102004 => if x24 = true then (if 0 ≤ 3 then (if 3 ≤ (x102000.size : Int) then ((zei (x102000.extract 0 3) x1 x102004).bind fun t104 => (some t104)) else (none)) else (none)) else ((zei x102000 x1 x2).bind fun t105 => (some t105))
def zd4 (k : Nat) (a0_0 : ByteArray) (a0_1 : Int) (a0_2 : Int) (a0_3 : Int) (a0_4 : Int) (a1 : Int) (a2 : Int) : Option (Int) := if a0_0.toList = ([115, 101, 116] : List UInt8) then (some a0_4) else (if a0_0.toList = ([109, 111, 118] : List UInt8) then (some a1) else (if a0_0.toList = ([108, 101, 97] : List UInt8) then ((zei (⟨#[115, 104, 108]⟩ : ByteArray) a2 a0_4).bind fun t102 => ((zei (⟨#[97, 100, 100]⟩ : ByteArray) a1 t102).bind fun t103 => (some t103))) else (if a0_0.toList = ([97, 100, 100, 105] : List UInt8) then (za9 k a1 a2 (a0_0.toList == ([97, 100, 100, 105] : List UInt8)) a0_0 a0_1 a0_2 a0_3 a0_4) else (if a0_0.toList = ([97, 110, 100, 105] : List UInt8) then (za9 k a1 a2 (a0_0.toList == ([97, 110, 100, 105] : List UInt8)) a0_0 a0_1 a0_2 a0_3 a0_4) else (if a0_0.toList = ([120, 111, 114, 105] : List UInt8) then (za9 k a1 a2 (a0_0.toList == ([120, 111, 114, 105] : List UInt8)) a0_0 a0_1 a0_2 a0_3 a0_4) else (if a0_0.toList = ([115, 104, 108, 105] : List UInt8) then (za9 k a1 a2 (a0_0.toList == ([115, 104, 108, 105] : List UInt8)) a0_0 a0_1 a0_2 a0_3 a0_4) else (za9 k a1 a2 (a0_0.toList == ([115, 104, 114, 105] : List UInt8)) a0_0 a0_1 a0_2 a0_3 a0_4)))))))
theorem zhg : ∀ k, (∀ y0 y1 y2 y3 y4 y5 y6 y7, LeO (za9 k y0 y1 y2 y3 y4 y5 y6 y7) (za9 (k + 1) y0 y1 y2 y3 y4 y5 y6 y7))
 | 0 => fun _ _ _ _ _ _ _ _ r h => by simp [za9] at h
 | k + 1 => by
   have ih0 := zhg k
   · intro y0 y1 y2 y3 y4 y5 y6 y7
     unfold za9
     repeat' first
     | (with_reducible first | exact ih0 _ _ _ _ _ _ _ _ | exact LeO.refl _ | exact LeO.none _ | refine zaf ?_ ?_ | refine LeO.bind ?_ (fun _ => ?_))
     | exact LeO.none _
     | refine zaf ?_ ?_
     | refine LeO.bind ?_ (fun _ => ?_)
theorem zk3 : ∀ a0 a1 a2 a3 a4 a5 a6 k, LeO (zd4 k a0 a1 a2 a3 a4 a5 a6) (zd4 (k + 1) a0 a1 a2 a3 a4 a5 a6) := by
 intro a0 a1 a2 a3 a4 a5 a6 k
 have ih0 := zhg k
 unfold zd4
 repeat' first
     | (with_reducible first | exact ih0 _ _ _ _ _ _ _ _ | exact LeO.refl _ | exact LeO.none _ | refine zaf ?_ ?_ | refine LeO.bind ?_ (fun _ => ?_))
     | exact LeO.none _
     | refine zaf ?_ ?_
     | refine LeO.bind ?_ (fun _ => ?_)
set_option maxHeartbeats 8000000 in
set_option maxRecDepth 100000 in
theorem zkr (k : Nat) (a0_0 : ByteArray) (a0_1 : Int) (a0_2 : Int) (a0_3 : Int) (a0_4 : Int) (a1 : Int) (a2 : Int) (r : Int) (w : World) (h : zd4 k a0_0 a0_1 a0_2 a0_3 a0_4 a1 a2 = some r) :
   Calls Try.prog 215 #[.agg #[.string a0_0, .int .i64 a0_1, .int .i64 a0_2, .int .i64 a0_3, .int .i64 a0_4], .int .i64 a1, .int .i64 a2] w fun e w' => e = .returned (.int .i64 r) ∧ Below w.heap.size w w' := by
 have hu102 := Try.underlying102
 have HB := zA (Below.refl w.heap.size w)
 have H : (if a0_0.toList = ([115, 101, 116] : List UInt8) then (some a0_4) else (if a0_0.toList = ([109, 111, 118] : List UInt8) then (some a1) else (if a0_0.toList = ([108, 101, 97] : List UInt8) then ((zei (⟨#[115, 104, 108]⟩ : ByteArray) a2 a0_4).bind fun t102 => ((zei (⟨#[97, 100, 100]⟩ : ByteArray) a1 t102).bind fun t103 => (some t103))) else (if a0_0.toList = ([97, 100, 100, 105] : List UInt8) then (za9 k a1 a2 (a0_0.toList == ([97, 100, 100, 105] : List UInt8)) a0_0 a0_1 a0_2 a0_3 a0_4) else (if a0_0.toList = ([97, 110, 100, 105] : List UInt8) then (za9 k a1 a2 (a0_0.toList == ([97, 110, 100, 105] : List UInt8)) a0_0 a0_1 a0_2 a0_3 a0_4) else (if a0_0.toList = ([120, 111, 114, 105] : List UInt8) then (za9 k a1 a2 (a0_0.toList == ([120, 111, 114, 105] : List UInt8)) a0_0 a0_1 a0_2 a0_3 a0_4) else (if a0_0.toList = ([115, 104, 108, 105] : List UInt8) then (za9 k a1 a2 (a0_0.toList == ([115, 104, 108, 105] : List UInt8)) a0_0 a0_1 a0_2 a0_3 a0_4) else (za9 k a1 a2 (a0_0.toList == ([115, 104, 114, 105] : List UInt8)) a0_0 a0_1 a0_2 a0_3 a0_4)))))))) = some r := h
 clear h
 by_cases c4 : a0_0.toList = ([115, 101, 116] : List UInt8)
 · rw [if_pos c4] at H
   have c4b0 : (a0_0.toList == ([115, 101, 116] : List UInt8)) = true := beq_iff_eq.mpr c4
   have c4b1 : (a0_0.toList != ([115, 101, 116] : List UInt8)) = false := bne_eq_false_iff_eq.mpr c4
   clear c4
   obtain rfl := zsi H
   go_enter Try.func215, Try.ntmps215
   go_wp2_with (first | ((with_reducible refine zam (N := 3) rfl ?_); refine zak ?hg (N := 3) ?hd (cs := #[.string a0_0, .int .i64 a0_1, .int .i64 a0_2, .int .i64 a0_3, .int .i64 a0_4]) (t := 102) ?hr ?_; (case hd => rfl); (case hg => rfl); (case hr => go_simp <;> rfl); intro gb101 hg w5 hbox hb; have zs := zpair (by repeat (first | (with_reducible first | exact HB.out | apply zba | apply zbn | apply zbd) | exact HB.out)) hb; have n0_ := zA (zs.1); have n1_ := zA (hbox); have n2_ := zA ((by rw [hg]; exact zs.2 : w.heap.size ≤ gb101)); have n3_ := n2_; clear HB; have HB := n0_; have BK101 := n1_; have GW101 := n2_; have GE101 := n3_; clear n0_ n1_ n2_ n3_; clear zs hb hbox hg; obtain ⟨hcz6_0, hcz6_1, hcz6_2, hcz6_3, hcz6_4⟩ := zc5 w5 (.string a0_0) (.int .i64 a0_1) (.int .i64 a0_2) (.int .i64 a0_3) (.int .i64 a0_4) BK101.out; obtain ⟨hfz6_0, hfz6_1, hfz6_2, hfz6_3, hfz6_4⟩ := zf5 BK101.out))
   repeat (go_quiet (first | ((with_reducible refine zam (N := 3) rfl ?_); refine zak ?hg (N := 3) ?hd (cs := #[.string a0_0, .int .i64 a0_1, .int .i64 a0_2, .int .i64 a0_3, .int .i64 a0_4]) (t := 102) ?hr ?_; (case hd => rfl); (case hg => rfl); (case hr => go_simp <;> rfl); intro gb101 hg w5 hbox hb; have zs := zpair (by repeat (first | (with_reducible first | exact HB.out | apply zba | apply zbn | apply zbd) | exact HB.out)) hb; have n0_ := zA (zs.1); have n1_ := zA (hbox); have n2_ := zA ((by rw [hg]; exact zs.2 : w.heap.size ≤ gb101)); have n3_ := n2_; clear HB; have HB := n0_; have BK101 := n1_; have GW101 := n2_; have GE101 := n3_; clear n0_ n1_ n2_ n3_; clear zs hb hbox hg; obtain ⟨hcz6_0, hcz6_1, hcz6_2, hcz6_3, hcz6_4⟩ := zc5 w5 (.string a0_0) (.int .i64 a0_1) (.int .i64 a0_2) (.int .i64 a0_3) (.int .i64 a0_4) BK101.out; obtain ⟨hfz6_0, hfz6_1, hfz6_2, hfz6_3, hfz6_4⟩ := zf5 BK101.out)); try go_wp2_with (first | ((with_reducible refine zam (N := 3) rfl ?_); refine zak ?hg (N := 3) ?hd (cs := #[.string a0_0, .int .i64 a0_1, .int .i64 a0_2, .int .i64 a0_3, .int .i64 a0_4]) (t := 102) ?hr ?_; (case hd => rfl); (case hg => rfl); (case hr => go_simp <;> rfl); intro gb101 hg w5 hbox hb; have zs := zpair (by repeat (first | (with_reducible first | exact HB.out | apply zba | apply zbn | apply zbd) | exact HB.out)) hb; have n0_ := zA (zs.1); have n1_ := zA (hbox); have n2_ := zA ((by rw [hg]; exact zs.2 : w.heap.size ≤ gb101)); have n3_ := n2_; clear HB; have HB := n0_; have BK101 := n1_; have GW101 := n2_; have GE101 := n3_; clear n0_ n1_ n2_ n3_; clear zs hb hbox hg; obtain ⟨hcz6_0, hcz6_1, hcz6_2, hcz6_3, hcz6_4⟩ := zc5 w5 (.string a0_0) (.int .i64 a0_1) (.int .i64 a0_2) (.int .i64 a0_3) (.int .i64 a0_4) BK101.out; obtain ⟨hfz6_0, hfz6_1, hfz6_2, hfz6_3, hfz6_4⟩ := zf5 BK101.out)))
   go_ret
   exact ⟨by first | rfl | (simp <;> rfl) | (simp [*] <;> rfl), by repeat (first | (with_reducible first | exact HB.out | apply zba | apply zbn | apply zbd | refine zaa ?_ GE101.out) | exact HB.out)⟩
 rw [if_neg c4] at H
 have c4b0 : (a0_0.toList == ([115, 101, 116] : List UInt8)) = false := beq_eq_false_iff_ne.mpr c4
 have c4b1 : (a0_0.toList != ([115, 101, 116] : List UInt8)) = true := bne_iff_ne.mpr c4
 by_cases c7 : a0_0.toList = ([109, 111, 118] : List UInt8)
 · rw [if_pos c7] at H
   have c7b0 : (a0_0.toList == ([109, 111, 118] : List UInt8)) = true := beq_iff_eq.mpr c7
   have c7b1 : (a0_0.toList != ([109, 111, 118] : List UInt8)) = false := bne_eq_false_iff_eq.mpr c7
   clear c7
   obtain rfl := zsi H
   go_enter Try.func215, Try.ntmps215
   go_wp2_with (first | ((with_reducible refine zam (N := 3) rfl ?_); refine zak ?hg (N := 3) ?hd (cs := #[.string a0_0, .int .i64 a0_1, .int .i64 a0_2, .int .i64 a0_3, .int .i64 a0_4]) (t := 102) ?hr ?_; (case hd => rfl); (case hg => rfl); (case hr => go_simp <;> rfl); intro gb101 hg w8 hbox hb; have zs := zpair (by repeat (first | (with_reducible first | exact HB.out | apply zba | apply zbn | apply zbd) | exact HB.out)) hb; have n0_ := zA (zs.1); have n1_ := zA (hbox); have n2_ := zA ((by rw [hg]; exact zs.2 : w.heap.size ≤ gb101)); have n3_ := n2_; clear HB; have HB := n0_; have BK101 := n1_; have GW101 := n2_; have GE101 := n3_; clear n0_ n1_ n2_ n3_; clear zs hb hbox hg; obtain ⟨hcz9_0, hcz9_1, hcz9_2, hcz9_3, hcz9_4⟩ := zc5 w8 (.string a0_0) (.int .i64 a0_1) (.int .i64 a0_2) (.int .i64 a0_3) (.int .i64 a0_4) BK101.out; obtain ⟨hfz9_0, hfz9_1, hfz9_2, hfz9_3, hfz9_4⟩ := zf5 BK101.out))
   repeat (go_quiet (first | ((with_reducible refine zam (N := 3) rfl ?_); refine zak ?hg (N := 3) ?hd (cs := #[.string a0_0, .int .i64 a0_1, .int .i64 a0_2, .int .i64 a0_3, .int .i64 a0_4]) (t := 102) ?hr ?_; (case hd => rfl); (case hg => rfl); (case hr => go_simp <;> rfl); intro gb101 hg w8 hbox hb; have zs := zpair (by repeat (first | (with_reducible first | exact HB.out | apply zba | apply zbn | apply zbd) | exact HB.out)) hb; have n0_ := zA (zs.1); have n1_ := zA (hbox); have n2_ := zA ((by rw [hg]; exact zs.2 : w.heap.size ≤ gb101)); have n3_ := n2_; clear HB; have HB := n0_; have BK101 := n1_; have GW101 := n2_; have GE101 := n3_; clear n0_ n1_ n2_ n3_; clear zs hb hbox hg; obtain ⟨hcz9_0, hcz9_1, hcz9_2, hcz9_3, hcz9_4⟩ := zc5 w8 (.string a0_0) (.int .i64 a0_1) (.int .i64 a0_2) (.int .i64 a0_3) (.int .i64 a0_4) BK101.out; obtain ⟨hfz9_0, hfz9_1, hfz9_2, hfz9_3, hfz9_4⟩ := zf5 BK101.out)); try go_wp2_with (first | ((with_reducible refine zam (N := 3) rfl ?_); refine zak ?hg (N := 3) ?hd (cs := #[.string a0_0, .int .i64 a0_1, .int .i64 a0_2, .int .i64 a0_3, .int .i64 a0_4]) (t := 102) ?hr ?_; (case hd => rfl); (case hg => rfl); (case hr => go_simp <;> rfl); intro gb101 hg w8 hbox hb; have zs := zpair (by repeat (first | (with_reducible first | exact HB.out | apply zba | apply zbn | apply zbd) | exact HB.out)) hb; have n0_ := zA (zs.1); have n1_ := zA (hbox); have n2_ := zA ((by rw [hg]; exact zs.2 : w.heap.size ≤ gb101)); have n3_ := n2_; clear HB; have HB := n0_; have BK101 := n1_; have GW101 := n2_; have GE101 := n3_; clear n0_ n1_ n2_ n3_; clear zs hb hbox hg; obtain ⟨hcz9_0, hcz9_1, hcz9_2, hcz9_3, hcz9_4⟩ := zc5 w8 (.string a0_0) (.int .i64 a0_1) (.int .i64 a0_2) (.int .i64 a0_3) (.int .i64 a0_4) BK101.out; obtain ⟨hfz9_0, hfz9_1, hfz9_2, hfz9_3, hfz9_4⟩ := zf5 BK101.out)))
   go_ret
   exact ⟨by first | rfl | (simp <;> rfl) | (simp [*] <;> rfl), by repeat (first | (with_reducible first | exact HB.out | apply zba | apply zbn | apply zbd | refine zaa ?_ GE101.out) | exact HB.out)⟩
 rw [if_neg c7] at H
 have c7b0 : (a0_0.toList == ([109, 111, 118] : List UInt8)) = false := beq_eq_false_iff_ne.mpr c7
 have c7b1 : (a0_0.toList != ([109, 111, 118] : List UInt8)) = true := bne_iff_ne.mpr c7
 by_cases c10 : a0_0.toList = ([108, 101, 97] : List UInt8)
 · rw [if_pos c10] at H
   have c10b0 : (a0_0.toList == ([108, 101, 97] : List UInt8)) = true := beq_iff_eq.mpr c10
   have c10b1 : (a0_0.toList != ([108, 101, 97] : List UInt8)) = false := bne_eq_false_iff_eq.mpr c10
   clear c10
   replace H := zob H
   obtain ⟨t102, A110, H⟩ := H
   replace H : ((zei (⟨#[97, 100, 100]⟩ : ByteArray) a1 t102).bind fun t103 => (some t103)) = some r := H
   have A11 := zA A110
   clear A110
   replace H := zob H
   obtain ⟨t103, A120, H⟩ := H
   replace H : (some t103) = some r := H
   have A12 := zA A120
   clear A120
   obtain rfl := zsi H
   go_enter Try.func215, Try.ntmps215
   go_wp2_with (first | ((with_reducible refine zam (N := 3) rfl ?_); refine zak ?hg (N := 3) ?hd (cs := #[.string a0_0, .int .i64 a0_1, .int .i64 a0_2, .int .i64 a0_3, .int .i64 a0_4]) (t := 102) ?hr ?_; (case hd => rfl); (case hg => rfl); (case hr => go_simp <;> rfl); intro gb101 hg w13 hbox hb; have zs := zpair (by repeat (first | (with_reducible first | exact HB.out | apply zba | apply zbn | apply zbd) | exact HB.out)) hb; have n0_ := zA (zs.1); have n1_ := zA (hbox); have n2_ := zA ((by rw [hg]; exact zs.2 : w.heap.size ≤ gb101)); have n3_ := n2_; clear HB; have HB := n0_; have BK101 := n1_; have GW101 := n2_; have GE101 := n3_; clear n0_ n1_ n2_ n3_; clear zs hb hbox hg; obtain ⟨hcz14_0, hcz14_1, hcz14_2, hcz14_3, hcz14_4⟩ := zc5 w13 (.string a0_0) (.int .i64 a0_1) (.int .i64 a0_2) (.int .i64 a0_3) (.int .i64 a0_4) BK101.out; obtain ⟨hfz14_0, hfz14_1, hfz14_2, hfz14_3, hfz14_4⟩ := zf5 BK101.out) | (go_at_call 208; (with_reducible refine (zcx (⟨#[115, 104, 108]⟩ : ByteArray) a2 a0_4 t102 _ A11.out).mono ?_); rintro e w' ⟨rfl, ⟨nd, rfl⟩⟩; (try first | exact ⟨rfl, _, World.drewN_drewN _ _ _⟩ | exact ⟨rfl, _, Eq.trans (World.drewN_drewN _ _ _) (congrArg (World.drewN _) (Nat.add_assoc _ _ _))⟩)) | (go_at_call 208; (with_reducible refine (zcx (⟨#[97, 100, 100]⟩ : ByteArray) a1 t102 t103 _ A12.out).mono ?_); rintro e w' ⟨rfl, ⟨nd, rfl⟩⟩; (try first | exact ⟨rfl, _, World.drewN_drewN _ _ _⟩ | exact ⟨rfl, _, Eq.trans (World.drewN_drewN _ _ _) (congrArg (World.drewN _) (Nat.add_assoc _ _ _))⟩)))
   repeat (go_quiet (first | ((with_reducible refine zam (N := 3) rfl ?_); refine zak ?hg (N := 3) ?hd (cs := #[.string a0_0, .int .i64 a0_1, .int .i64 a0_2, .int .i64 a0_3, .int .i64 a0_4]) (t := 102) ?hr ?_; (case hd => rfl); (case hg => rfl); (case hr => go_simp <;> rfl); intro gb101 hg w13 hbox hb; have zs := zpair (by repeat (first | (with_reducible first | exact HB.out | apply zba | apply zbn | apply zbd) | exact HB.out)) hb; have n0_ := zA (zs.1); have n1_ := zA (hbox); have n2_ := zA ((by rw [hg]; exact zs.2 : w.heap.size ≤ gb101)); have n3_ := n2_; clear HB; have HB := n0_; have BK101 := n1_; have GW101 := n2_; have GE101 := n3_; clear n0_ n1_ n2_ n3_; clear zs hb hbox hg; obtain ⟨hcz14_0, hcz14_1, hcz14_2, hcz14_3, hcz14_4⟩ := zc5 w13 (.string a0_0) (.int .i64 a0_1) (.int .i64 a0_2) (.int .i64 a0_3) (.int .i64 a0_4) BK101.out; obtain ⟨hfz14_0, hfz14_1, hfz14_2, hfz14_3, hfz14_4⟩ := zf5 BK101.out) | (go_at_call 208; (with_reducible refine (zcx (⟨#[115, 104, 108]⟩ : ByteArray) a2 a0_4 t102 _ A11.out).mono ?_); rintro e w' ⟨rfl, ⟨nd, rfl⟩⟩; (try first | exact ⟨rfl, _, World.drewN_drewN _ _ _⟩ | exact ⟨rfl, _, Eq.trans (World.drewN_drewN _ _ _) (congrArg (World.drewN _) (Nat.add_assoc _ _ _))⟩)) | (go_at_call 208; (with_reducible refine (zcx (⟨#[97, 100, 100]⟩ : ByteArray) a1 t102 t103 _ A12.out).mono ?_); rintro e w' ⟨rfl, ⟨nd, rfl⟩⟩; (try first | exact ⟨rfl, _, World.drewN_drewN _ _ _⟩ | exact ⟨rfl, _, Eq.trans (World.drewN_drewN _ _ _) (congrArg (World.drewN _) (Nat.add_assoc _ _ _))⟩))); try go_wp2_with (first | ((with_reducible refine zam (N := 3) rfl ?_); refine zak ?hg (N := 3) ?hd (cs := #[.string a0_0, .int .i64 a0_1, .int .i64 a0_2, .int .i64 a0_3, .int .i64 a0_4]) (t := 102) ?hr ?_; (case hd => rfl); (case hg => rfl); (case hr => go_simp <;> rfl); intro gb101 hg w13 hbox hb; have zs := zpair (by repeat (first | (with_reducible first | exact HB.out | apply zba | apply zbn | apply zbd) | exact HB.out)) hb; have n0_ := zA (zs.1); have n1_ := zA (hbox); have n2_ := zA ((by rw [hg]; exact zs.2 : w.heap.size ≤ gb101)); have n3_ := n2_; clear HB; have HB := n0_; have BK101 := n1_; have GW101 := n2_; have GE101 := n3_; clear n0_ n1_ n2_ n3_; clear zs hb hbox hg; obtain ⟨hcz14_0, hcz14_1, hcz14_2, hcz14_3, hcz14_4⟩ := zc5 w13 (.string a0_0) (.int .i64 a0_1) (.int .i64 a0_2) (.int .i64 a0_3) (.int .i64 a0_4) BK101.out; obtain ⟨hfz14_0, hfz14_1, hfz14_2, hfz14_3, hfz14_4⟩ := zf5 BK101.out) | (go_at_call 208; (with_reducible refine (zcx (⟨#[115, 104, 108]⟩ : ByteArray) a2 a0_4 t102 _ A11.out).mono ?_); rintro e w' ⟨rfl, ⟨nd, rfl⟩⟩; (try first | exact ⟨rfl, _, World.drewN_drewN _ _ _⟩ | exact ⟨rfl, _, Eq.trans (World.drewN_drewN _ _ _) (congrArg (World.drewN _) (Nat.add_assoc _ _ _))⟩)) | (go_at_call 208; (with_reducible refine (zcx (⟨#[97, 100, 100]⟩ : ByteArray) a1 t102 t103 _ A12.out).mono ?_); rintro e w' ⟨rfl, ⟨nd, rfl⟩⟩; (try first | exact ⟨rfl, _, World.drewN_drewN _ _ _⟩ | exact ⟨rfl, _, Eq.trans (World.drewN_drewN _ _ _) (congrArg (World.drewN _) (Nat.add_assoc _ _ _))⟩))))
   go_ret
   exact ⟨by first | rfl | (simp <;> rfl) | (simp [*] <;> rfl), by repeat (first | (with_reducible first | exact HB.out | apply zba | apply zbn | apply zbd | refine zaa ?_ GE101.out) | exact HB.out)⟩
 rw [if_neg c10] at H
 have c10b0 : (a0_0.toList == ([108, 101, 97] : List UInt8)) = false := beq_eq_false_iff_ne.mpr c10
 have c10b1 : (a0_0.toList != ([108, 101, 97] : List UInt8)) = true := bne_iff_ne.mpr c10
 have HC15 := zA H
 clear H
 go_enter Try.func215, Try.ntmps215
 go_upto_if 24 with (first | ((with_reducible refine zam (N := 3) rfl ?_); refine zak ?hg (N := 3) ?hd (cs := #[.string a0_0, .int .i64 a0_1, .int .i64 a0_2, .int .i64 a0_3, .int .i64 a0_4]) (t := 102) ?hr ?_; (case hd => rfl); (case hg => rfl); (case hr => go_simp <;> rfl); intro gb101 hg w16 hbox hb; have zs := zpair (by repeat (first | (with_reducible first | exact HB.out | apply zba | apply zbn | apply zbd) | exact HB.out)) hb; have n0_ := zA (zs.1); have n1_ := zA (hbox); have n2_ := zA ((by rw [hg]; exact zs.2 : w.heap.size ≤ gb101)); have n3_ := n2_; clear HB; have HB := n0_; have BK101 := n1_; have GW101 := n2_; have GE101 := n3_; clear n0_ n1_ n2_ n3_; clear zs hb hbox hg; obtain ⟨hcz17_0, hcz17_1, hcz17_2, hcz17_3, hcz17_4⟩ := zc5 w16 (.string a0_0) (.int .i64 a0_1) (.int .i64 a0_2) (.int .i64 a0_3) (.int .i64 a0_4) BK101.out; obtain ⟨hfz17_0, hfz17_1, hfz17_2, hfz17_3, hfz17_4⟩ := zf5 BK101.out))
 repeat (go_quiet (first | ((with_reducible refine zam (N := 3) rfl ?_); refine zak ?hg (N := 3) ?hd (cs := #[.string a0_0, .int .i64 a0_1, .int .i64 a0_2, .int .i64 a0_3, .int .i64 a0_4]) (t := 102) ?hr ?_; (case hd => rfl); (case hg => rfl); (case hr => go_simp <;> rfl); intro gb101 hg w16 hbox hb; have zs := zpair (by repeat (first | (with_reducible first | exact HB.out | apply zba | apply zbn | apply zbd) | exact HB.out)) hb; have n0_ := zA (zs.1); have n1_ := zA (hbox); have n2_ := zA ((by rw [hg]; exact zs.2 : w.heap.size ≤ gb101)); have n3_ := n2_; clear HB; have HB := n0_; have BK101 := n1_; have GW101 := n2_; have GE101 := n3_; clear n0_ n1_ n2_ n3_; clear zs hb hbox hg; obtain ⟨hcz17_0, hcz17_1, hcz17_2, hcz17_3, hcz17_4⟩ := zc5 w16 (.string a0_0) (.int .i64 a0_1) (.int .i64 a0_2) (.int .i64 a0_3) (.int .i64 a0_4) BK101.out; obtain ⟨hfz17_0, hfz17_1, hfz17_2, hfz17_3, hfz17_4⟩ := zf5 BK101.out)); go_upto_if 24 with (first | ((with_reducible refine zam (N := 3) rfl ?_); refine zak ?hg (N := 3) ?hd (cs := #[.string a0_0, .int .i64 a0_1, .int .i64 a0_2, .int .i64 a0_3, .int .i64 a0_4]) (t := 102) ?hr ?_; (case hd => rfl); (case hg => rfl); (case hr => go_simp <;> rfl); intro gb101 hg w16 hbox hb; have zs := zpair (by repeat (first | (with_reducible first | exact HB.out | apply zba | apply zbn | apply zbd) | exact HB.out)) hb; have n0_ := zA (zs.1); have n1_ := zA (hbox); have n2_ := zA ((by rw [hg]; exact zs.2 : w.heap.size ≤ gb101)); have n3_ := n2_; clear HB; have HB := n0_; have BK101 := n1_; have GW101 := n2_; have GE101 := n3_; clear n0_ n1_ n2_ n3_; clear zs hb hbox hg; obtain ⟨hcz17_0, hcz17_1, hcz17_2, hcz17_3, hcz17_4⟩ := zc5 w16 (.string a0_0) (.int .i64 a0_1) (.int .i64 a0_2) (.int .i64 a0_3) (.int .i64 a0_4) BK101.out; obtain ⟨hfz17_0, hfz17_1, hfz17_2, hfz17_3, hfz17_4⟩ := zf5 BK101.out)))
 (try simp only [Act.put, zla, zlb, zlc])
 go_cut [24] (fun v24 wc => ∃ (kq : Nat) (x24_14 : Bool), v24 = .bool x24_14 ∧ Aside0 (za9 kq a1 a2 x24_14 a0_0 a0_1 a0_2 a0_3 a0_4 = some r) ∧ Aside0 (kq ≤ k) ∧ Aside0 (wc.heap[gb101]? = some (.cells #[.string a0_0, .int .i64 a0_1, .int .i64 a0_2, .int .i64 a0_3, .int .i64 a0_4] 102 (0, 0))) ∧ Aside0 (Below w.heap.size w wc))
 case first =>
   have H := HC15.out
   clear HC15
   by_cases c18 : a0_0.toList = ([97, 100, 100, 105] : List UInt8)
   · rw [if_pos c18] at H
     have c18b0 : (a0_0.toList == ([97, 100, 100, 105] : List UInt8)) = true := beq_iff_eq.mpr c18
     have c18b1 : (a0_0.toList != ([97, 100, 100, 105] : List UInt8)) = false := bne_eq_false_iff_eq.mpr c18
     clear c18
     (first | rw [c18b0] | (simp only [zbl, zbr]; rw [c18b0]) | skip)
     have H' := zA H
     clear H
     go_wp2
     repeat (go_quiet (fail); try go_wp2)
     go_meet
     case rel => exact ⟨_, ((a0_0.toList == ([97, 100, 100, 105] : List UInt8))), (by first | rfl | (simp; done) | (simp [*]; done)), H', ⟨by first | omega | exact zlr _⟩, ⟨by (with_reducible repeat (first | refine zkn ?_ _ | refine zkd ?_ | refine zka ?_ _)); exact BK101.out⟩, ⟨by repeat (first | (with_reducible first | exact HB.out | apply zba | apply zbn | apply zbd | refine zaa ?_ GE101.out) | exact HB.out)⟩⟩
   rw [if_neg c18] at H
   have c18b0 : (a0_0.toList == ([97, 100, 100, 105] : List UInt8)) = false := beq_eq_false_iff_ne.mpr c18
   have c18b1 : (a0_0.toList != ([97, 100, 100, 105] : List UInt8)) = true := bne_iff_ne.mpr c18
   (first | rw [c18b0] | (simp only [zbl, zbr]; rw [c18b0]) | skip)
   by_cases c19 : a0_0.toList = ([97, 110, 100, 105] : List UInt8)
   · rw [if_pos c19] at H
     have c19b0 : (a0_0.toList == ([97, 110, 100, 105] : List UInt8)) = true := beq_iff_eq.mpr c19
     have c19b1 : (a0_0.toList != ([97, 110, 100, 105] : List UInt8)) = false := bne_eq_false_iff_eq.mpr c19
     clear c19
     have H' := zA H
     clear H
     go_wp2
     repeat (go_quiet (fail); try go_wp2)
     go_meet
     case rel => exact ⟨_, ((a0_0.toList == ([97, 110, 100, 105] : List UInt8))), (by first | rfl | (simp; done) | (simp [*]; done)), H', ⟨by first | omega | exact zlr _⟩, ⟨by (with_reducible repeat (first | refine zkn ?_ _ | refine zkd ?_ | refine zka ?_ _)); exact BK101.out⟩, ⟨by repeat (first | (with_reducible first | exact HB.out | apply zba | apply zbn | apply zbd | refine zaa ?_ GE101.out) | exact HB.out)⟩⟩
   rw [if_neg c19] at H
   have c19b0 : (a0_0.toList == ([97, 110, 100, 105] : List UInt8)) = false := beq_eq_false_iff_ne.mpr c19
   have c19b1 : (a0_0.toList != ([97, 110, 100, 105] : List UInt8)) = true := bne_iff_ne.mpr c19
   by_cases c20 : a0_0.toList = ([120, 111, 114, 105] : List UInt8)
   · rw [if_pos c20] at H
     have c20b0 : (a0_0.toList == ([120, 111, 114, 105] : List UInt8)) = true := beq_iff_eq.mpr c20
     have c20b1 : (a0_0.toList != ([120, 111, 114, 105] : List UInt8)) = false := bne_eq_false_iff_eq.mpr c20
     clear c20
     have H' := zA H
     clear H
     go_wp2
     repeat (go_quiet (fail); try go_wp2)
     go_meet
     case rel => exact ⟨_, ((a0_0.toList == ([120, 111, 114, 105] : List UInt8))), (by first | rfl | (simp; done) | (simp [*]; done)), H', ⟨by first | omega | exact zlr _⟩, ⟨by (with_reducible repeat (first | refine zkn ?_ _ | refine zkd ?_ | refine zka ?_ _)); exact BK101.out⟩, ⟨by repeat (first | (with_reducible first | exact HB.out | apply zba | apply zbn | apply zbd | refine zaa ?_ GE101.out) | exact HB.out)⟩⟩
   rw [if_neg c20] at H
   have c20b0 : (a0_0.toList == ([120, 111, 114, 105] : List UInt8)) = false := beq_eq_false_iff_ne.mpr c20
   have c20b1 : (a0_0.toList != ([120, 111, 114, 105] : List UInt8)) = true := bne_iff_ne.mpr c20
   by_cases c21 : a0_0.toList = ([115, 104, 108, 105] : List UInt8)
   rotate_left
   · rw [if_neg c21] at H
     have c21b0 : (a0_0.toList == ([115, 104, 108, 105] : List UInt8)) = false := beq_eq_false_iff_ne.mpr c21
     have c21b1 : (a0_0.toList != ([115, 104, 108, 105] : List UInt8)) = true := bne_iff_ne.mpr c21
     have H' := zA H
     clear H
     go_wp2
     repeat (go_quiet (fail); try go_wp2)
     go_meet
     case rel => exact ⟨_, ((a0_0.toList == ([115, 104, 114, 105] : List UInt8))), (by first | rfl | (simp; done) | (simp [*]; done)), H', ⟨by first | omega | exact zlr _⟩, ⟨by (with_reducible repeat (first | refine zkn ?_ _ | refine zkd ?_ | refine zka ?_ _)); exact BK101.out⟩, ⟨by repeat (first | (with_reducible first | exact HB.out | apply zba | apply zbn | apply zbd | refine zaa ?_ GE101.out) | exact HB.out)⟩⟩
   rw [if_pos c21] at H
   have c21b0 : (a0_0.toList == ([115, 104, 108, 105] : List UInt8)) = true := beq_iff_eq.mpr c21
   have c21b1 : (a0_0.toList != ([115, 104, 108, 105] : List UInt8)) = false := bne_eq_false_iff_eq.mpr c21
   clear c21
   have H' := zA H
   clear H
   go_wp2
   repeat (go_quiet (fail); try go_wp2)
   go_meet
   case rel => exact ⟨_, ((a0_0.toList == ([115, 104, 108, 105] : List UInt8))), (by first | rfl | (simp; done) | (simp [*]; done)), H', ⟨by first | omega | exact zlr _⟩, ⟨by (with_reducible repeat (first | refine zkn ?_ _ | refine zkd ?_ | refine zka ?_ _)); exact BK101.out⟩, ⟨by repeat (first | (with_reducible first | exact HB.out | apply zba | apply zbn | apply zbd | refine zaa ?_ GE101.out) | exact HB.out)⟩⟩
 clear HC15
 try clear c1
 try clear c2
 try clear p2
 try clear c4
 try clear c4b0
 try clear c4b1
 try clear c7
 try clear c7b0
 try clear c7b1
 try clear c10
 try clear c10b0
 try clear c10b1
 try clear c18
 try clear c18b0
 try clear c18b1
 try clear c19
 try clear c19b0
 try clear c19b1
 try clear c20
 try clear c20b0
 try clear c20b1
 try clear c21
 try clear c21b0
 try clear c21b1
 try clear hcz14_0
 try clear hcz14_1
 try clear hcz14_2
 try clear hcz14_3
 try clear hcz14_4
 try clear hcz17_0
 try clear hcz17_1
 try clear hcz17_2
 try clear hcz17_3
 try clear hcz17_4
 try clear hcz6_0
 try clear hcz6_1
 try clear hcz6_2
 try clear hcz6_3
 try clear hcz6_4
 try clear hcz9_0
 try clear hcz9_1
 try clear hcz9_2
 try clear hcz9_3
 try clear hcz9_4
 try clear hfz14_0
 try clear hfz14_1
 try clear hfz14_2
 try clear hfz14_3
 try clear hfz14_4
 try clear hfz17_0
 try clear hfz17_1
 try clear hfz17_2
 try clear hfz17_3
 try clear hfz17_4
 try clear hfz6_0
 try clear hfz6_1
 try clear hfz6_2
 try clear hfz6_3
 try clear hfz6_4
 try clear hfz9_0
 try clear hfz9_1
 try clear hfz9_2
 try clear hfz9_3
 try clear hfz9_4
 obtain ⟨kq, x24_14, rfl, HA, HJ14, BK101, HB⟩ := hcut
 cases kq with
 | zero => exact absurd HA.out (by simp [za9])
 | succ kj14 =>
 have H := HA.out
 clear HA
 simp only [za9] at H
 by_cases c22 : x24_14 = true
 rotate_left
 · replace c22 := zbf c22
   subst c22
   replace H : ((zei a0_0 a1 a2).bind fun t105 => (some t105)) = some r := by rw [if_neg (show ¬ (false = true) by decide)] at H; exact H
   replace H := zob H
   obtain ⟨t105, A270, H⟩ := H
   replace H : (some t105) = some r := H
   have A27 := zA A270
   clear A270
   obtain rfl := zsi H
   obtain ⟨hcz28_0, hcz28_1, hcz28_2, hcz28_3, hcz28_4⟩ := zc5 wc (.string a0_0) (.int .i64 a0_1) (.int .i64 a0_2) (.int .i64 a0_3) (.int .i64 a0_4) BK101.out
   obtain ⟨hfz28_0, hfz28_1, hfz28_2, hfz28_3, hfz28_4⟩ := zf5 BK101.out
   go_wp2_with (first | (go_at_call 208; (with_reducible refine (zcx a0_0 a1 a2 t105 _ A27.out).mono ?_); rintro e w' ⟨rfl, ⟨nd, rfl⟩⟩; (try first | exact ⟨rfl, _, World.drewN_drewN _ _ _⟩ | exact ⟨rfl, _, Eq.trans (World.drewN_drewN _ _ _) (congrArg (World.drewN _) (Nat.add_assoc _ _ _))⟩)))
   repeat (go_quiet (first | (go_at_call 208; (with_reducible refine (zcx a0_0 a1 a2 t105 _ A27.out).mono ?_); rintro e w' ⟨rfl, ⟨nd, rfl⟩⟩; (try first | exact ⟨rfl, _, World.drewN_drewN _ _ _⟩ | exact ⟨rfl, _, Eq.trans (World.drewN_drewN _ _ _) (congrArg (World.drewN _) (Nat.add_assoc _ _ _))⟩))); try go_wp2_with (first | (go_at_call 208; (with_reducible refine (zcx a0_0 a1 a2 t105 _ A27.out).mono ?_); rintro e w' ⟨rfl, ⟨nd, rfl⟩⟩; (try first | exact ⟨rfl, _, World.drewN_drewN _ _ _⟩ | exact ⟨rfl, _, Eq.trans (World.drewN_drewN _ _ _) (congrArg (World.drewN _) (Nat.add_assoc _ _ _))⟩))))
   go_ret
   exact ⟨by first | rfl | (simp <;> rfl) | (simp [*] <;> rfl), by repeat (first | (with_reducible first | exact HB.out | apply zba | apply zbn | apply zbd | refine zaa ?_ GE101.out) | exact HB.out)⟩
 subst c22
 replace H : (if 0 ≤ 3 then (if 3 ≤ (a0_0.size : Int) then ((zei (a0_0.extract 0 3) a1 a0_4).bind fun t104 => (some t104)) else (none)) else (none)) = some r := by rw [if_pos rfl] at H; exact H
 by_cases c23 : 0 ≤ 3
 rotate_left
 · rw [if_neg c23] at H
   exact absurd H (by simp)
 rw [if_pos c23] at H
 have c23b0 := eq_true c23
 have c23b1 : decide (0 ≤ 3) = true := zdt c23
 clear c23
 by_cases c24 : 3 ≤ (a0_0.size : Int)
 rotate_left
 · rw [if_neg c24] at H
   exact absurd H (by simp)
 rw [if_pos c24] at H
 have c24b0 := eq_true c24
 have c24b1 : decide (3 ≤ (a0_0.size : Int)) = true := zdt c24
 clear c24
 replace H := zob H
 obtain ⟨t104, A250, H⟩ := H
 replace H : (some t104) = some r := H
 have A25 := zA A250
 clear A250
 obtain rfl := zsi H
 obtain ⟨hcz26_0, hcz26_1, hcz26_2, hcz26_3, hcz26_4⟩ := zc5 wc (.string a0_0) (.int .i64 a0_1) (.int .i64 a0_2) (.int .i64 a0_3) (.int .i64 a0_4) BK101.out
 obtain ⟨hfz26_0, hfz26_1, hfz26_2, hfz26_3, hfz26_4⟩ := zf5 BK101.out
 go_wp2_with (first | (go_at_call 208; (with_reducible refine (zcx (a0_0.extract 0 3) a1 a0_4 t104 _ A25.out).mono ?_); rintro e w' ⟨rfl, ⟨nd, rfl⟩⟩; (try first | exact ⟨rfl, _, World.drewN_drewN _ _ _⟩ | exact ⟨rfl, _, Eq.trans (World.drewN_drewN _ _ _) (congrArg (World.drewN _) (Nat.add_assoc _ _ _))⟩)))
 repeat (go_quiet (first | (go_at_call 208; (with_reducible refine (zcx (a0_0.extract 0 3) a1 a0_4 t104 _ A25.out).mono ?_); rintro e w' ⟨rfl, ⟨nd, rfl⟩⟩; (try first | exact ⟨rfl, _, World.drewN_drewN _ _ _⟩ | exact ⟨rfl, _, Eq.trans (World.drewN_drewN _ _ _) (congrArg (World.drewN _) (Nat.add_assoc _ _ _))⟩))); try go_wp2_with (first | (go_at_call 208; (with_reducible refine (zcx (a0_0.extract 0 3) a1 a0_4 t104 _ A25.out).mono ?_); rintro e w' ⟨rfl, ⟨nd, rfl⟩⟩; (try first | exact ⟨rfl, _, World.drewN_drewN _ _ _⟩ | exact ⟨rfl, _, Eq.trans (World.drewN_drewN _ _ _) (congrArg (World.drewN _) (Nat.add_assoc _ _ _))⟩))))
 go_ret
 exact ⟨by first | rfl | (simp <;> rfl) | (simp [*] <;> rfl), by repeat (first | (with_reducible first | exact HB.out | apply zba | apply zbn | apply zbd | refine zaa ?_ GE101.out) | exact HB.out)⟩
def zft (k : Nat) (a0_0 : ByteArray) (a0_1 : Int) (a0_2 : Int) (a0_3 : Int) (a0_4 : Int) (l1 : List (List Int)) (a2 : Int) : Option (Int) := if 0 ≤ a0_2 then (if a0_2 < (l1.length : Int) then (if 0 ≤ a2 then (if a2 < ((zea l1 a0_2).length : Int) then (if 0 ≤ a0_3 then (if a0_3 < (l1.length : Int) then (if a2 < ((zea l1 a0_3).length : Int) then ((zd4 k a0_0 a0_1 a0_2 a0_3 a0_4 (wrap64 (rd (zea l1 a0_2) a2)) (wrap64 (rd (zea l1 a0_3) a2))).bind fun t106 => (some ((t106) % 256))) else (none)) else (none)) else (none)) else (none)) else (none)) else (none)) else (none)
theorem zj9 : ∀ a0 a1 a2 a3 a4 a5 a6 k, LeO (zft k a0 a1 a2 a3 a4 a5 a6) (zft (k + 1) a0 a1 a2 a3 a4 a5 a6) := by
 intro a0 a1 a2 a3 a4 a5 a6 k
 unfold zft
 repeat' first
     | (with_reducible first | exact zk3 _ _ _ _ _ _ _ _ | exact LeO.refl _ | exact LeO.none _ | refine zaf ?_ ?_ | refine LeO.bind ?_ (fun _ => ?_))
     | exact LeO.none _
     | refine zaf ?_ ?_
     | refine LeO.bind ?_ (fun _ => ?_)
def impl_wordAt.T1 : Bool × List (List Nat × List Nat) := (true, [([], []), ([], []), ([], []), ([2], [2]), ([1, 3], [1, 3]), ([4], [4]), ([], []), ([5, 6], [5, 6]), ([7], [7]), ([8], [8]), ([], []), ([], []), ([11], [11]), ([10, 12], [10, 12]), ([13], [13]), ([], []), ([14, 15], [14, 15]), ([16], [16]), ([17], [17]), ([0, 9, 18], [0, 9, 18]), ([19], [19]), ([20, 19, 0, 1, 2, 3, 4, 5, 6, 7, 8, 9, 10, 11, 12, 13, 14, 15, 16, 17, 18, 19, 20], [20])])
def znt : List Nat := [0, 0, 0, 4, 14, 30, 0, 126, 254, 510, 0, 0, 2048, 7168, 15360, 0, 64512, 130048, 261120, 524287, 1048575, 2097151]
theorem zmz : rtab .any (zsq Try.f170 1) = impl_wordAt.T1 := by kernel_rfl
theorem zmf : zky impl_wordAt.T1.2 znt = true := by kernel_rfl
set_option maxHeartbeats 8000000 in
set_option maxRecDepth 100000 in
theorem zmg (k : Nat) (a0_0 : ByteArray) (a0_1 : Int) (a0_2 : Int) (a0_3 : Int) (a0_4 : Int) (A1 : Option Addr) (c1 : Nat) (l1 : List (List Int)) (a2 : Int) (r : Int) (w : World) (hr1 : Kd.C (Kd.slice 5 (Kd.int .u8)) w A1 l1.length l1) (hc1 : l1.length ≤ c1) (h : zft k a0_0 a0_1 a0_2 a0_3 a0_4 l1 a2 = some r) :
   Calls Try.prog 170 #[.agg #[.string a0_0, .int .i64 a0_1, .int .i64 a0_2, .int .i64 a0_3, .int .i64 a0_4], .slice A1 l1.length c1, .int .i64 a2] w fun e w' => e = .returned (.int .u8 r) ∧ Below w.heap.size w w' := by
 have hu102 := Try.underlying102
 have HR1 := zA hr1
 have HC1 := zA hc1
 clear hr1 hc1
 have HB := zA (Below.refl w.heap.size w)
 have H : (if 0 ≤ a0_2 then (if a0_2 < (l1.length : Int) then (if 0 ≤ a2 then (if a2 < ((zea l1 a0_2).length : Int) then (if 0 ≤ a0_3 then (if a0_3 < (l1.length : Int) then (if a2 < ((zea l1 a0_3).length : Int) then ((zd4 k a0_0 a0_1 a0_2 a0_3 a0_4 (wrap64 (rd (zea l1 a0_2) a2)) (wrap64 (rd (zea l1 a0_3) a2))).bind fun t106 => (some ((t106) % 256))) else (none)) else (none)) else (none)) else (none)) else (none)) else (none)) else (none)) = some r := h
 clear h
 by_cases c4 : 0 ≤ a0_2
 rotate_left
 · rw [if_neg c4] at H
   exact absurd H (by simp)
 rw [if_pos c4] at H
 have c4b0 : decide (0 ≤ a0_2) = true := zdt c4
 clear c4
 by_cases c5 : a0_2 < (l1.length : Int)
 rotate_left
 · rw [if_neg c5] at H
   exact absurd H (by simp)
 rw [if_pos c5] at H
 have c5b0 : decide (a0_2 < (l1.length : Int)) = true := zdt c5
 clear c5
 by_cases c6 : 0 ≤ a2
 rotate_left
 · rw [if_neg c6] at H
   exact absurd H (by simp)
 rw [if_pos c6] at H
 have c6b0 : decide (0 ≤ a2) = true := zdt c6
 clear c6
 by_cases c7 : a2 < ((zea l1 a0_2).length : Int)
 rotate_left
 · rw [if_neg c7] at H
   exact absurd H (by simp)
 rw [if_pos c7] at H
 have c7b0 : decide (a2 < ((zea l1 a0_2).length : Int)) = true := zdt c7
 clear c7
 by_cases c8 : 0 ≤ a0_3
 rotate_left
 · rw [if_neg c8] at H
   exact absurd H (by simp)
 rw [if_pos c8] at H
 have c8b0 : decide (0 ≤ a0_3) = true := zdt c8
 clear c8
 by_cases c9 : a0_3 < (l1.length : Int)
 rotate_left
 · rw [if_neg c9] at H
   exact absurd H (by simp)
 rw [if_pos c9] at H
 have c9b0 : decide (a0_3 < (l1.length : Int)) = true := zdt c9
 clear c9
 by_cases c10 : a2 < ((zea l1 a0_3).length : Int)
 rotate_left
 · rw [if_neg c10] at H
   exact absurd H (by simp)
 rw [if_pos c10] at H
 have c10b0 : decide (a2 < ((zea l1 a0_3).length : Int)) = true := zdt c10
 clear c10
 replace H := zob H
 obtain ⟨t106, A110, H⟩ := H
 replace H : (some ((t106) % 256)) = some r := H
 have A11 := zA A110
 clear A110
 obtain rfl := zsi H
 go_enter Try.func170, Try.ntmps170
 try go_wp2_with (first | ((with_reducible refine zam (N := 3) rfl ?_); refine zak ?hg (N := 3) ?hd (cs := #[.string a0_0, .int .i64 a0_1, .int .i64 a0_2, .int .i64 a0_3, .int .i64 a0_4]) (t := 102) ?hr ?_; (case hd => rfl); (case hg => rfl); (case hr => go_simp <;> rfl); intro gb101 hg w12 hbox hb; have zs := zpair (by repeat (first | (with_reducible first | exact HB.out | apply zba | apply zbn | apply zbd) | exact HB.out)) hb; have n0_ := zA (zs.1); have n1_ := zA (hbox); have n2_ := zA ((by rw [hg]; exact zs.2 : w.heap.size ≤ gb101)); have n3_ := n2_; clear HB; have HB := n0_; have BK101 := n1_; have GW101 := n2_; have GE101 := n3_; clear n0_ n1_ n2_ n3_; clear zs hb hbox hg))
 have n0_ := zA (zkd BK101.out)
 have n1_ := zA (zbd HB.out)
 clear BK101
 clear HB
 have BK101 := n0_
 have HB := n1_
 clear n0_ n1_
 have p102 : 0 ≤ (a0_2 : Int) := zde (by assumption)
 have q102 : a0_2 < (l1.length : Int) := zde (by assumption)
 obtain ⟨ad102, A102_0, c102_0, e102, hx102_0, hl102_0, hi102_0⟩ := zqb HR1.out a0_2 p102 q102
 have hw102_0 := hx102_0
 cases e102
 replace hx102_0 := zkep HB.out hx102_0
 have HR102_0 := zA hi102_0
 have HC102_0 := zA hl102_0
 clear hi102_0 hl102_0
 replace p102 := eq_true p102
 replace q102 := eq_true q102
 have p103 : 0 ≤ (a2 : Int) := zde (by assumption)
 have q103 : a2 < ((zea l1 a0_2).length : Int) := zde (by assumption)
 obtain ⟨ad103, e103, hx103_0⟩ := Kd.at_int HR102_0.out a2 p103 q103
 have hw103_0 := hx103_0
 cases e103
 replace hx103_0 := zkep HB.out hx103_0
 replace p103 := eq_true p103
 replace q103 := eq_true q103
 have p104 : 0 ≤ (a0_3 : Int) := zde (by assumption)
 have q104 : a0_3 < (l1.length : Int) := zde (by assumption)
 obtain ⟨ad104, A104_0, c104_0, e104, hx104_0, hl104_0, hi104_0⟩ := zqb HR1.out a0_3 p104 q104
 have hw104_0 := hx104_0
 obtain rfl : ad102 = ad104 := (by injection e104)
 replace hx104_0 := zkep HB.out hx104_0
 have HR104_0 := zA hi104_0
 have HC104_0 := zA hl104_0
 clear hi104_0 hl104_0
 replace p104 := eq_true p104
 replace q104 := eq_true q104
 have p105 : 0 ≤ (a2 : Int) := zde (by assumption)
 have q105 : a2 < ((zea l1 a0_3).length : Int) := zde (by assumption)
 obtain ⟨ad105, e105, hx105_0⟩ := Kd.at_int HR104_0.out a2 p105 q105
 have hw105_0 := hx105_0
 cases e105
 replace hx105_0 := zkep HB.out hx105_0
 replace p105 := eq_true p105
 replace q105 := eq_true q105
 refine zkj (n := 22) (S := fun w' => w'.cell? ⟨gb101, 0, none⟩ = some (.string a0_0) ∧ w'.cell? ⟨gb101, 1, none⟩ = some (.int .i64 a0_1) ∧ w'.cell? ⟨gb101, 2, none⟩ = some (.int .i64 a0_2) ∧ w'.cell? ⟨gb101, 3, none⟩ = some (.int .i64 a0_3) ∧ w'.cell? ⟨gb101, 4, none⟩ = some (.int .i64 a0_4) ∧ w'.cell? (ad102.add (a0_2).toNat) = some (.slice (some ad103) (zea l1 a0_2).length c102_0) ∧ w'.cell? (ad103.add (a2).toNat) = some (.int .u8 (rd (zea l1 a0_2) a2)) ∧ w'.cell? (ad102.add (a0_3).toNat) = some (.slice (some ad105) (zea l1 a0_3).length c104_0) ∧ w'.cell? (ad105.add (a2).toNat) = some (.int .u8 (rd (zea l1 a0_3) a2))) (ds := []) #[false, false, false, false, false, false, false, false, false, false, false, false, false, false, false, false, false, false, false, false, false, false] (by kernel_rfl) rfl rfl ⟨(zag BK101.out 0).trans rfl, (zag BK101.out 1).trans rfl, (zag BK101.out 2).trans rfl, (zag BK101.out 3).trans rfl, (zag BK101.out 4).trans rfl, (zkep HB.out hw102_0), (zkep HB.out hw103_0), (zkep HB.out hw104_0), (zkep HB.out hw105_0)⟩ (fun hHeld => ?_); refine zi0 zmz zmf (fun HT_ HW_ => ?_)
 generalize w12.drew = w13 at BK101 HB HR102_0 HR104_0 hx102_0 hx103_0 hx104_0 hx105_0 hHeld ⊢
 refine zd8 (i := 1) (N := some 8) (v := ?_) (a' := ?_) #[false, true, false, false, false, false, false, false, false, false, false, false, false, false, false, false, false, false, false, false, false, false] rfl rfl (zc3 HT_.out (by kernel_rfl)) (fun _ _ _ h => h) (Or.inl ⟨by rfl, ?_⟩) ?_ ?_
 rotate_left
 · intro w'
   go_simp
   with_reducible rfl
 rotate_left
 · simp only [Act.put, zla, zlb, zlc, zbl, zbr]
   rfl
 refine zd8 (i := 2) (N := some 9) (v := ?_) (a' := ?_) #[false, true, true, false, false, false, false, false, false, false, false, false, false, false, false, false, false, false, false, false, false, false] rfl rfl (zc3 HT_.out (by kernel_rfl)) (fun _ _ _ h => h) (Or.inl ⟨by rfl, ?_⟩) ?_ ?_
 rotate_left
 · intro w'
   go_simp
   with_reducible rfl
 rotate_left
 · simp only [Act.put, zla, zlb, zlc, zbl, zbr]
   rfl
 refine zd8 (i := 6) (N := some 13) (v := ?_) (a' := ?_) #[false, true, true, false, false, false, true, false, false, false, false, false, false, false, false, false, false, false, false, false, false, false] rfl rfl (zc3 HT_.out (by kernel_rfl)) (fun _ _ _ h => h) (Or.inl ⟨by rfl, ?_⟩) ?_ ?_
 rotate_left
 · intro w'
   go_simp
   with_reducible rfl
 rotate_left
 · simp only [Act.put, zla, zlb, zlc, zbl, zbr]
   rfl
 refine zd8 (i := 10) (N := some 17) (v := ?_) (a' := ?_) #[false, true, true, false, false, false, true, false, false, false, true, false, false, false, false, false, false, false, false, false, false, false] rfl rfl (zc3 HT_.out (by kernel_rfl)) (fun _ _ _ h => h) (Or.inl ⟨by rfl, ?_⟩) ?_ ?_
 rotate_left
 · intro w'
   go_simp
   with_reducible rfl
 rotate_left
 · simp only [Act.put, zla, zlb, zlc, zbl, zbr]
   rfl
 refine zd8 (i := 11) (N := some 18) (v := ?_) (a' := ?_) #[false, true, true, false, false, false, true, false, false, false, true, true, false, false, false, false, false, false, false, false, false, false] rfl rfl (zc3 HT_.out (by kernel_rfl)) (fun _ _ _ h => h) (Or.inl ⟨by rfl, ?_⟩) ?_ ?_
 rotate_left
 · intro w'
   go_simp
   with_reducible rfl
 rotate_left
 · simp only [Act.put, zla, zlb, zlc, zbl, zbr]
   rfl
 refine zd8 (i := 15) (N := some 22) (v := ?_) (a' := ?_) #[false, true, true, false, false, false, true, false, false, false, true, true, false, false, false, true, false, false, false, false, false, false] rfl rfl (zc3 HT_.out (by kernel_rfl)) (fun _ _ _ h => h) (Or.inl ⟨by rfl, ?_⟩) ?_ ?_
 rotate_left
 · intro w'
   go_simp
   with_reducible rfl
 rotate_left
 · simp only [Act.put, zla, zlb, zlc, zbl, zbr]
   rfl
 refine take_ (i := 0) (N := some 7) (v := ?_) (a' := ?_) #[true, true, true, false, false, false, true, false, false, false, true, true, false, false, false, true, false, false, false, false, false, false] rfl rfl (zfg HT_.out HW_.out (by kernel_rfl)) (fun _ _ _ h => h) (Or.inl ⟨by rfl, ?_⟩) hHeld ?_ ?_
 rotate_left
 · rintro w' ⟨s0, s1, s2, s3, s4, s5, s6, s7, s8⟩
   go_simp
   with_reducible rfl
 rotate_left
 · simp only [Act.put, zla, zlb, zlc, zbl, zbr]
   rfl
 refine take_ (i := 3) (N := some 10) (v := ?_) (a' := ?_) #[true, true, true, true, false, false, true, false, false, false, true, true, false, false, false, true, false, false, false, false, false, false] rfl rfl (zfg HT_.out HW_.out (by kernel_rfl)) (fun _ _ _ h => h) (Or.inl ⟨by rfl, ?_⟩) hHeld ?_ ?_
 rotate_left
 · rintro w' ⟨s0, s1, s2, s3, s4, s5, s6, s7, s8⟩
   go_simp
   with_reducible rfl
 rotate_left
 · simp only [Act.put, zla, zlb, zlc, zbl, zbr]
   rfl
 refine zd8 (i := 4) (N := some 11) (v := ?_) (a' := ?_) #[true, true, true, true, true, false, true, false, false, false, true, true, false, false, false, true, false, false, false, false, false, false] rfl rfl (zc3 HT_.out (by kernel_rfl)) (fun _ _ _ h => h) (Or.inl ⟨by rfl, ?_⟩) ?_ ?_
 rotate_left
 · intro w'
   go_simp
   with_reducible rfl
 rotate_left
 · simp only [Act.put, zla, zlb, zlc, zbl, zbr]
   rfl
 refine take_ (i := 5) (N := some 12) (v := ?_) (a' := ?_) #[true, true, true, true, true, true, true, false, false, false, true, true, false, false, false, true, false, false, false, false, false, false] rfl rfl (zfg HT_.out HW_.out (by kernel_rfl)) (fun _ _ _ h => h) (Or.inl ⟨by rfl, ?_⟩) hHeld ?_ ?_
 rotate_left
 · rintro w' ⟨s0, s1, s2, s3, s4, s5, s6, s7, s8⟩
   go_simp
   with_reducible rfl
 rotate_left
 · simp only [Act.put, zla, zlb, zlc, zbl, zbr]
   rfl
 refine zd8 (i := 7) (N := some 14) (v := ?_) (a' := ?_) #[true, true, true, true, true, true, true, true, false, false, true, true, false, false, false, true, false, false, false, false, false, false] rfl rfl (zc3 HT_.out (by kernel_rfl)) (fun _ _ _ h => h) (Or.inl ⟨by rfl, ?_⟩) ?_ ?_
 rotate_left
 · intro w'
   go_simp
   with_reducible rfl
 rotate_left
 · simp only [Act.put, zla, zlb, zlc, zbl, zbr]
   rfl
 refine take_ (i := 8) (N := some 15) (v := ?_) (a' := ?_) #[true, true, true, true, true, true, true, true, true, false, true, true, false, false, false, true, false, false, false, false, false, false] rfl rfl (zfg HT_.out HW_.out (by kernel_rfl)) (fun _ _ _ h => h) (Or.inl ⟨by rfl, ?_⟩) hHeld ?_ ?_
 rotate_left
 · rintro w' ⟨s0, s1, s2, s3, s4, s5, s6, s7, s8⟩
   go_simp
   with_reducible rfl
 rotate_left
 · simp only [Act.put, zla, zlb, zlc, zbl, zbr]
   rfl
 refine zd8 (i := 9) (N := some 16) (v := ?_) (a' := ?_) #[true, true, true, true, true, true, true, true, true, true, true, true, false, false, false, true, false, false, false, false, false, false] rfl rfl (zc3 HT_.out (by kernel_rfl)) (fun _ _ _ h => h) (Or.inl ⟨by rfl, ?_⟩) ?_ ?_
 rotate_left
 · intro w'
   go_simp
   with_reducible rfl
 rotate_left
 · simp only [Act.put, zla, zlb, zlc, zbl, zbr]
   rfl
 refine take_ (i := 12) (N := some 19) (v := ?_) (a' := ?_) #[true, true, true, true, true, true, true, true, true, true, true, true, true, false, false, true, false, false, false, false, false, false] rfl rfl (zfg HT_.out HW_.out (by kernel_rfl)) (fun _ _ _ h => h) (Or.inl ⟨by rfl, ?_⟩) hHeld ?_ ?_
 rotate_left
 · rintro w' ⟨s0, s1, s2, s3, s4, s5, s6, s7, s8⟩
   go_simp
   with_reducible rfl
 rotate_left
 · simp only [Act.put, zla, zlb, zlc, zbl, zbr]
   rfl
 refine zd8 (i := 13) (N := some 20) (v := ?_) (a' := ?_) #[true, true, true, true, true, true, true, true, true, true, true, true, true, true, false, true, false, false, false, false, false, false] rfl rfl (zc3 HT_.out (by kernel_rfl)) (fun _ _ _ h => h) (Or.inl ⟨by rfl, ?_⟩) ?_ ?_
 rotate_left
 · intro w'
   go_simp
   with_reducible rfl
 rotate_left
 · simp only [Act.put, zla, zlb, zlc, zbl, zbr]
   rfl
 refine take_ (i := 14) (N := some 21) (v := ?_) (a' := ?_) #[true, true, true, true, true, true, true, true, true, true, true, true, true, true, true, true, false, false, false, false, false, false] rfl rfl (zfg HT_.out HW_.out (by kernel_rfl)) (fun _ _ _ h => h) (Or.inl ⟨by rfl, ?_⟩) hHeld ?_ ?_
 rotate_left
 · rintro w' ⟨s0, s1, s2, s3, s4, s5, s6, s7, s8⟩
   go_simp
   with_reducible rfl
 rotate_left
 · simp only [Act.put, zla, zlb, zlc, zbl, zbr]
   rfl
 refine zd8 (i := 16) (N := some 23) (v := ?_) (a' := ?_) #[true, true, true, true, true, true, true, true, true, true, true, true, true, true, true, true, true, false, false, false, false, false] rfl rfl (zc3 HT_.out (by kernel_rfl)) (fun _ _ _ h => h) (Or.inl ⟨by rfl, ?_⟩) ?_ ?_
 rotate_left
 · intro w'
   go_simp
   with_reducible rfl
 rotate_left
 · simp only [Act.put, zla, zlb, zlc, zbl, zbr]
   rfl
 refine take_ (i := 17) (N := some 24) (v := ?_) (a' := ?_) #[true, true, true, true, true, true, true, true, true, true, true, true, true, true, true, true, true, true, false, false, false, false] rfl rfl (zfg HT_.out HW_.out (by kernel_rfl)) (fun _ _ _ h => h) (Or.inl ⟨by rfl, ?_⟩) hHeld ?_ ?_
 rotate_left
 · rintro w' ⟨s0, s1, s2, s3, s4, s5, s6, s7, s8⟩
   go_simp
   with_reducible rfl
 rotate_left
 · simp only [Act.put, zla, zlb, zlc, zbl, zbr]
   rfl
 refine zd8 (i := 18) (N := some 25) (v := ?_) (a' := ?_) #[true, true, true, true, true, true, true, true, true, true, true, true, true, true, true, true, true, true, true, false, false, false] rfl rfl (zc3 HT_.out (by kernel_rfl)) (fun _ _ _ h => h) (Or.inl ⟨by rfl, ?_⟩) ?_ ?_
 rotate_left
 · intro w'
   go_simp
   with_reducible rfl
 rotate_left
 · simp only [Act.put, zla, zlb, zlc, zbl, zbr]
   rfl
 refine one_ (i := 19) (N := some 26) #[true, true, true, true, true, true, true, true, true, true, true, true, true, true, true, true, true, true, true, true, false, false] rfl rfl (zl9 HT_.out (by kernel_rfl)) (by decide) (fun K hK => ?_)
 refine zko Try.func215 (by kernel_rfl) rfl #[.agg #[.string a0_0, .int .i64 a0_1, .int .i64 a0_2, .int .i64 a0_3, .int .i64 a0_4], .int .i64 (wrap64 (rd (zea l1 a0_2) a2)), .int .i64 (wrap64 (rd (zea l1 a0_3) a2))] (by rfl) rfl rfl (by first | rfl | (simp only [zld, zle, zlf, zlg, zlh] <;> rfl)) ?_
 with_reducible refine (zkr k a0_0 a0_1 a0_2 a0_3 a0_4 (wrap64 (rd (zea l1 a0_2) a2)) (wrap64 (rd (zea l1 a0_3) a2)) t106 _ A11.out).mono ?_
 rintro e w14 ⟨rfl, hb⟩
 refine ⟨_, rfl, ?_⟩
 have n0_ := zA (zad (g := gb101) (o := .cells #[.string a0_0, .int .i64 a0_1, .int .i64 a0_2, .int .i64 a0_3, .int .i64 a0_4] 102 (0, 0)) (by (with_reducible repeat (first | refine zkn ?_ _ | refine zkd ?_ | refine zka ?_ _)); exact BK101.out) hb)
 have n1_ := zA (zai (by repeat (first | (with_reducible first | exact HB.out | apply zba | apply zbn | apply zbd | refine zaa ?_ GE101.out) | exact HB.out)) hb)
 clear BK101
 clear HB
 have BK101 := n0_
 have HB := n1_
 clear n0_ n1_
 (try clear hb)
 (try clear hb2)
 (try clear hk)
 (try clear hi)
 refine hK.out _ _ ⟨(zag BK101.out 0).trans rfl, (zag BK101.out 1).trans rfl, (zag BK101.out 2).trans rfl, (zag BK101.out 3).trans rfl, (zag BK101.out 4).trans rfl, (zkep HB.out hw102_0), (zkep HB.out hw103_0), (zkep HB.out hw104_0), (zkep HB.out hw105_0)⟩ (fun hHeld => ?_)
 clear hK K
 refine zkm (a' := ?_) ?_ ?_
 rotate_left
 · show Act.put _ (some 26) _ = _
   simp only [Act.put, zla, zlb, zlc, zbl, zbr]
   rfl
 refine zd8 (i := 20) (N := some 27) (v := ?_) (a' := ?_) #[true, true, true, true, true, true, true, true, true, true, true, true, true, true, true, true, true, true, true, true, true, false] rfl rfl (zc3 HT_.out (by kernel_rfl)) (fun _ _ _ h => h) (Or.inl ⟨by rfl, ?_⟩) ?_ ?_
 rotate_left
 · intro w'
   go_simp
   with_reducible rfl
 rotate_left
 · simp only [Act.put, zla, zlb, zlc, zbl, zbr]
   rfl
 refine zd8 (i := 21) (N := some 6) (v := ?_) (a' := ?_) #[true, true, true, true, true, true, true, true, true, true, true, true, true, true, true, true, true, true, true, true, true, true] rfl rfl (zc3 HT_.out (by kernel_rfl)) (fun _ _ _ h => h) (Or.inl ⟨by rfl, ?_⟩) ?_ ?_
 rotate_left
 · intro w'
   go_simp
   with_reducible rfl
 rotate_left
 · simp only [Act.put, zla, zlb, zlc, zbl, zbr]
   rfl
 refine zm5 (zlq HT_.out (by kernel_rfl)) ?_
 try go_wp2
 go_ret
 exact ⟨by first | rfl | (simp <;> rfl) | (simp [*] <;> rfl), by repeat (first | (with_reducible first | exact HB.out | apply zba | apply zbn | apply zbd | refine zaa ?_ GE101.out) | exact HB.out)⟩
def zcf : Nat → List (List Int) → List Int → Int → Int → ByteArray → Int → Int → Int → Int → Option (List Int)
 | 0, _, _, _, _, _, _, _, _, _ => none
 | k + 1, x1, x5, x9, x10, x102000, x102001, x102002, x102003, x102004 => if x10 < x9 then ((zft k x102000 x102001 x102002 x102003 x102004 x1 x10).bind fun t105 => (if 0 ≤ x10 then (if x10 < (x5.length : Int) then (zcf k x1 (x5.set (x10 : Int).toNat t105) x9 (wrap64 (x10 + 1)) x102000 x102001 x102002 x102003 x102004) else (none)) else (none))) else (some x5)
def zfu (k : Nat) (a0_0 : ByteArray) (a0_1 : Int) (a0_2 : Int) (a0_3 : Int) (a0_4 : Int) (l1 : List (List Int)) : Option (List Int) := if 4096 ≤ 281474976710656 then ((some (List.replicate 4096 0 : List Int)).bind fun y102 => (zcf k l1 y102 (y102.length : Int) 0 a0_0 a0_1 a0_2 a0_3 a0_4)) else (none)
theorem zi3 : ∀ k, (∀ y0 y1 y2 y3 y4 y5 y6 y7 y8, LeO (zcf k y0 y1 y2 y3 y4 y5 y6 y7 y8) (zcf (k + 1) y0 y1 y2 y3 y4 y5 y6 y7 y8))
 | 0 => fun _ _ _ _ _ _ _ _ _ r h => by simp [zcf] at h
 | k + 1 => by
   have ih0 := zi3 k
   · intro y0 y1 y2 y3 y4 y5 y6 y7 y8
     unfold zcf
     repeat' first
     | (with_reducible first | exact ih0 _ _ _ _ _ _ _ _ _ | exact zj9 _ _ _ _ _ _ _ _ | exact LeO.refl _ | exact LeO.none _ | refine zaf ?_ ?_ | refine LeO.bind ?_ (fun _ => ?_))
     | exact LeO.none _
     | refine zaf ?_ ?_
     | refine LeO.bind ?_ (fun _ => ?_)
theorem zkb : ∀ a0 a1 a2 a3 a4 a5 k, LeO (zfu k a0 a1 a2 a3 a4 a5) (zfu (k + 1) a0 a1 a2 a3 a4 a5) := by
 intro a0 a1 a2 a3 a4 a5 k
 have ih0 := zi3 k
 unfold zfu
 repeat' first
     | (with_reducible first | exact ih0 _ _ _ _ _ _ _ _ _ | exact zj9 _ _ _ _ _ _ _ _ | exact LeO.refl _ | exact LeO.none _ | refine zaf ?_ ?_ | refine LeO.bind ?_ (fun _ => ?_))
     | exact LeO.none _
     | refine zaf ?_ ?_
     | refine LeO.bind ?_ (fun _ => ?_)
set_option maxHeartbeats 8000000 in
set_option maxRecDepth 100000 in
theorem zmh (k : Nat) (a0_0 : ByteArray) (a0_1 : Int) (a0_2 : Int) (a0_3 : Int) (a0_4 : Int) (A1 : Option Addr) (c1 : Nat) (l1 : List (List Int)) (r : List Int) (w : World) (hr1 : Kd.C (Kd.slice 5 (Kd.int .u8)) w A1 l1.length l1) (hc1 : l1.length ≤ c1) (h : zfu k a0_0 a0_1 a0_2 a0_3 a0_4 l1 = some r) :
   Calls Try.prog 115 #[.agg #[.string a0_0, .int .i64 a0_1, .int .i64 a0_2, .int .i64 a0_3, .int .i64 a0_4], .slice A1 l1.length c1] w fun e w' => ∃ v0_ : Value, e = .returned (v0_) ∧ Kd.R (Kd.int .u8) 5 w' w.heap.size (fun _ => True) v0_ r ∧ Below w.heap.size w w' := by
 have hu102 := Try.underlying102
 have HR1 := zA hr1
 have HC1 := zA hc1
 clear hr1 hc1
 have HB := zA (Below.refl w.heap.size w)
 have H : (if 4096 ≤ 281474976710656 then ((some (List.replicate 4096 0 : List Int)).bind fun y102 => (zcf k l1 y102 (y102.length : Int) 0 a0_0 a0_1 a0_2 a0_3 a0_4)) else (none)) = some r := h
 clear h
 by_cases c3 : 4096 ≤ 281474976710656
 rotate_left
 · rw [if_neg c3] at H
   exact absurd H (by simp)
 rw [if_pos c3] at H
 have c3b0 := eq_true c3
 have c3b1 : decide (4096 ≤ 281474976710656) = true := zdt c3
 clear c3
 obtain ⟨y102, hy102⟩ : ∃ y_ : List Int, y_ = (List.replicate 4096 0) := ⟨_, rfl⟩
 replace H : (zcf k l1 y102 (y102.length : Int) 0 a0_0 a0_1 a0_2 a0_3 a0_4) = some r := by first | (rw [hy102]; with_reducible exact H) | (have H2_ := (Option.bind_some _ _).symm.trans H; rw [hy102]; with_reducible exact H2_) | (have H2_ := (Option.bind_some _ _).symm.trans H; with_reducible exact H2_) | with_reducible exact H | (rw [hy102]; exact H) | exact H
 have Ny102 := zA hy102
 clear hy102
 have H' := zA H
 clear H
 go_enter Try.func115, Try.ntmps115
 go_wp2_with (first | ((with_reducible refine zam (N := 2) rfl ?_); refine zak ?hg (N := 2) ?hd (cs := #[.string a0_0, .int .i64 a0_1, .int .i64 a0_2, .int .i64 a0_3, .int .i64 a0_4]) (t := 102) ?hr ?_; (case hd => rfl); (case hg => rfl); (case hr => go_simp <;> rfl); intro gb101 hg w4 hbox hb; have zs := zpair (by repeat (first | (with_reducible first | exact HB.out | apply zba | apply zbn | apply zbd) | exact HB.out)) hb; have n0_ := zA (zs.1); have n1_ := zA (hbox); have n2_ := zA ((by rw [hg]; exact zs.2 : w.heap.size ≤ gb101)); have n3_ := n2_; clear HB; have HB := n0_; have BK101 := n1_; have GW101 := n2_; have GE101 := n3_; clear n0_ n1_ n2_ n3_; clear zs hb hbox hg) | ((with_reducible refine zam (N := 7) rfl ?_); refine Kd.R_make (Kd.int .u8) _ 5 rfl (N := 7) rfl 116 _ _ rfl 4096 rfl rfl Try.underlying116 (.int .u8 0) 1 zt7 rfl (by decide) (by omega) 0 (ok := fun _ => True) (okp := fun _ => True) rfl (fun _ hk => hk) trivial (by omega) (by omega) (Below.refl _ _) (zlr _) ?_; intro v103 w5 ho6 hb hg_ hnew_; clear hg_ hnew_; (first | rw [← Ny102.out] at ho6 | (simp only [Int.reduceToNat] at ho6; rw [← Ny102.out] at ho6)); have n0_ := zA (Kd.R_lower ho6 (zaj (by repeat (first | (with_reducible first | exact HB.out | apply zba | apply zbn | apply zbd | refine zaa ?_ GE101.out) | exact HB.out)))); have n1_ := zA (zad (g := gb101) (o := .cells #[.string a0_0, .int .i64 a0_1, .int .i64 a0_2, .int .i64 a0_3, .int .i64 a0_4] 102 (0, 0)) (by (with_reducible repeat (first | refine zkn ?_ _ | refine zkd ?_ | refine zka ?_ _)); exact BK101.out) hb); have n2_ := zA (zai (by repeat (first | (with_reducible first | exact HB.out | apply zba | apply zbn | apply zbd | refine zaa ?_ GE101.out) | exact HB.out)) hb); clear BK101 HB; have HO104 := n0_; have BK101 := n1_; have HB := n2_; clear n0_ n1_ n2_; clear hb ho6; obtain ⟨Ao7, co7, eo7⟩ := Kd.R_slice HO104.out; subst eo7))
 go_loopg [10] k (fun kq v10 w' => ∃ (x5_1 : List Int) (x10_1 : Int), v10 = .int .i64 x10_1 ∧ Aside0 (zcf kq l1 x5_1 (y102.length : Int) x10_1 a0_0 a0_1 a0_2 a0_3 a0_4 = some r) ∧ Aside0 (kq ≤ k) ∧ Aside0 (Kd.R (Kd.int .u8) 5 w' w.heap.size (fun _ => True) (.slice Ao7 y102.length co7) x5_1) ∧ Aside0 (w'.heap[gb101]? = some (.cells #[.string a0_0, .int .i64 a0_1, .int .i64 a0_2, .int .i64 a0_3, .int .i64 a0_4] 102 (0, 0))) ∧ Aside0 (Below w.heap.size w w'))
 case atStart => exact ⟨(y102), (0), (by first | rfl | (simp; done) | (simp [*]; done)), H', ⟨zlr _⟩, ⟨by (with_reducible repeat (first | apply zRa | apply zRn | apply zRd)); exact HO104.out⟩, ⟨by (with_reducible repeat (first | refine zkn ?_ _ | refine zkd ?_ | refine zka ?_ _)); exact BK101.out⟩, ⟨by repeat (first | (with_reducible first | exact HB.out | apply zba | apply zbn | apply zbd | refine zaa ?_ GE101.out) | exact HB.out)⟩⟩
 clear H'
 try clear c1
 try clear p2
 try clear c3
 try clear c3b0
 try clear c3b1
 obtain ⟨x5_1, x10_1, rfl, HA, HK1, HO_5, BK101, HB⟩ := hrel
 have hl5_1 := (zRr HO_5.out).1
 rw [hl5_1] at HO_5
 (try simp only [hl5_1])
 (try simp only [hl5_1] at BK101)
 cases gk with
 | zero => exact absurd HA.out (by simp [zcf])
 | succ k1 =>
 have H := HA.out
 clear HA
 simp only [zcf] at H
 by_cases c8 : x10_1 < (y102.length : Int)
 rotate_left
 · rw [if_neg c8] at H
   have c8b0 : decide (x10_1 < (y102.length : Int)) = false := zdf c8
   have c8b0h := c8b0
   try simp only [hl5_1] at c8b0h
   clear c8
   obtain rfl := zsi H
   go_wp2
   go_ret
   exact ⟨_, by first | rfl | (simp <;> rfl) | (simp [*] <;> rfl), by (with_reducible repeat (first | apply zRa | apply zRn | apply zRd)); exact HO_5.out, by repeat (first | (with_reducible first | exact HB.out | apply zba | apply zbn | apply zbd | refine zaa ?_ GE101.out) | exact HB.out)⟩
 rw [if_pos c8] at H
 have c8b0 : decide (x10_1 < (y102.length : Int)) = true := zdt c8
 have c8b0h := c8b0
 try simp only [hl5_1] at c8b0h
 clear c8
 replace H := zob H
 obtain ⟨t105, A90, H⟩ := H
 replace H : (if 0 ≤ x10_1 then (if x10_1 < (x5_1.length : Int) then (zcf k1 l1 (x5_1.set (x10_1 : Int).toNat t105) (y102.length : Int) (wrap64 (x10_1 + 1)) a0_0 a0_1 a0_2 a0_3 a0_4) else (none)) else (none)) = some r := H
 have A9 := zA A90
 clear A90
 by_cases c10 : 0 ≤ x10_1
 rotate_left
 · rw [if_neg c10] at H
   exact absurd H (by simp)
 rw [if_pos c10] at H
 have c10b0 : decide (0 ≤ x10_1) = true := zdt c10
 clear c10
 by_cases c11 : x10_1 < (x5_1.length : Int)
 rotate_left
 · rw [if_neg c11] at H
   exact absurd H (by simp)
 rw [if_pos c11] at H
 have c11b0 : decide (x10_1 < (x5_1.length : Int)) = true := zdt c11
 clear c11
 obtain ⟨y106, hy106⟩ : ∃ y_ : List Int, y_ = (x5_1.set (x10_1 : Int).toNat t105) := ⟨_, rfl⟩
 replace H : (zcf k1 l1 y106 (y102.length : Int) (wrap64 (x10_1 + 1)) a0_0 a0_1 a0_2 a0_3 a0_4) = some r := by first | (rw [hy106]; with_reducible exact H) | (have H2_ := (Option.bind_some _ _).symm.trans H; rw [hy106]; with_reducible exact H2_) | (have H2_ := (Option.bind_some _ _).symm.trans H; with_reducible exact H2_) | with_reducible exact H | (rw [hy106]; exact H) | exact H
 have Ny106 := zA hy106
 clear hy106
 have H' := zA H
 clear H
 obtain ⟨hcz13_0, hcz13_1, hcz13_2, hcz13_3, hcz13_4⟩ := zc5 wr (.string a0_0) (.int .i64 a0_1) (.int .i64 a0_2) (.int .i64 a0_3) (.int .i64 a0_4) BK101.out
 obtain ⟨hfz13_0, hfz13_1, hfz13_2, hfz13_3, hfz13_4⟩ := zf5 BK101.out
 go_wp2_with (first | ((with_reducible refine zae (f := 170) rfl ?_); refine zaz (some 18) rfl rfl Try.func170 (by kernel_rfl) rfl #[.agg #[.string a0_0, .int .i64 a0_1, .int .i64 a0_2, .int .i64 a0_3, .int .i64 a0_4], .slice A1 l1.length c1, .int .i64 x10_1] rfl (by first | rfl | (simp only [zld, zle, zlf, zlg, zlh] <;> rfl)) ?_; (with_reducible refine (zmg k1 a0_0 a0_1 a0_2 a0_3 a0_4 _ _ l1 x10_1 t105 _ ?side1 ?side2 A9.out).mono ?_); (case side1 => repeat (first | exact (zCb HR1.out HB.out) | (with_reducible first | refine zCa ?_ _ | refine zCn ?_ _ | refine zCd ?_))); (case side2 => exact HC1.out); rintro e w14 ⟨rfl, hb⟩; refine ⟨_, rfl, ?_⟩; have n0_ := zA (zRb (by (with_reducible repeat (first | apply zRa | apply zRn | apply zRd)); exact HO_5.out) hb); have n1_ := zA (zad (g := gb101) (o := .cells #[.string a0_0, .int .i64 a0_1, .int .i64 a0_2, .int .i64 a0_3, .int .i64 a0_4] 102 (0, 0)) (by (with_reducible repeat (first | refine zkn ?_ _ | refine zkd ?_ | refine zka ?_ _)); exact BK101.out) hb); have n2_ := zA (zai (by repeat (first | (with_reducible first | exact HB.out | apply zba | apply zbn | apply zbd | refine zaa ?_ GE101.out) | exact HB.out)) hb); clear HO_5 BK101 HB; have HO_5 := n0_; have BK101 := n1_; have HB := n2_; clear n0_ n1_ n2_; (try clear hb); have p12 : 0 ≤ (x10_1 : Int) := zde (by assumption); have q12 : (x10_1 : Int) < ((x5_1.length : Int) : Int) := zde (by assumption); obtain ⟨go12, co12, eo12, gb12, gl12, cl12, HG12⟩ := Kd.R_form HO_5.out (by omega); (first | cases eo12 | (injection eo12 with ea_ en_ ec_; (first | subst ea_ | (injection ea_ with ea_; subst ea_)); subst ec_; clear en_)); have GB12 := zA gb12; have GG12 := zA HG12; clear gb12 gl12 HG12; obtain ⟨hx12_0, hf12_0⟩ := Kd.R_celln 0 HO_5.out (x10_1 : Int) p12 q12; replace p12 := eq_true p12; replace q12 := eq_true q12; obtain ⟨hy15_, hz15_⟩ := Kd.R_celln 0 HO_5.out (x10_1 : Int) (zde (by assumption)) (zde (by assumption)); have HP15 := Kd.R_putg HO_5.out (x10_1 : Int) t105) | ((with_reducible refine zey (t := 5) (p := 19) rfl ?_); refine zeg (t := 5) (p := 19) (v := ?vo_w16) (w1 := (w14.setCell ⟨go12, (x10_1 : Int).toNat, none⟩ (.int .u8 t105))) ?hg ?ho ?hn ?hr ?_; (case ho => rfl); (case hg => rfl); (case hn => rfl); (case hr => go_simp <;> rfl); intro w16 hw; have hg : w14.grownBy w16 (some go12) := (by rw [hw]; exact HP15.2); have hp_ : Kd.R (Kd.int .u8) 5 w16 w.heap.size (fun _ => True) (.slice (some ⟨go12, 0, none⟩) x5_1.length co7) y106 := (by rw [hw, Ny106.out]; exact HP15.1); clear HP15; have n0_ := zA (hp_); have n1_ := zA (zjz (g := gb101) (o := .cells #[.string a0_0, .int .i64 a0_1, .int .i64 a0_2, .int .i64 a0_3, .int .i64 a0_4] 102 (0, 0)) (by (with_reducible repeat (first | refine zkn ?_ _ | refine zkd ?_ | refine zka ?_ _)); exact BK101.out) hg (Kd.R_ne HO_5.out BK101.out (by decide))); have n2_ := zA ((by rw [hw]; exact zaa (HB.out) GB12.out : Below w.heap.size w w16)); clear HO_5 BK101 HB; have HO_5 := n0_; have BK101 := n1_; have HB := n2_; clear n0_ n1_ n2_; clear hg hw hp_))
 (try simp only [← hl5_1])
 go_roundg k1
 case measure => have := HK1.out; omega
 case rel => exact ⟨(y106), (wrap64 (x10_1 + 1)), (by first | rfl | (simp; done) | (simp [*]; done)), H', ⟨by have := HK1.out; omega⟩, ⟨by (try simp only [hl5_1]); (with_reducible repeat (first | apply zRa | apply zRn | apply zRd)); exact HO_5.out⟩, ⟨by (try simp only [hl5_1]); (with_reducible repeat (first | refine zkn ?_ _ | refine zkd ?_ | refine zka ?_ _)); exact BK101.out⟩, ⟨by repeat (first | (with_reducible first | exact HB.out | apply zba | apply zbn | apply zbd | refine zaa ?_ GE101.out) | exact HB.out)⟩⟩
def zbt : Nat → List (List Int) → List (S102) → Int → Int → Option ((List (List Int)))
 | 0, _, _, _, _ => none
 | k + 1, x3, x7, x8, x9 => if x9 < x8 then (if 0 ≤ x9 then (if x9 < (x7.length : Int) then ((zfu k ((zab x7 x9).f0) ((zab x7 x9).f1) ((zab x7 x9).f2) ((zab x7 x9).f3) ((zab x7 x9).f4) x3).bind fun t106 => (if x3.length < 5864062014805 then (zbt k (x3 ++ [t106]) x7 x8 (wrap64 (x9 + 1))) else (none))) else (none)) else (none)) else (some x3)
def zej (k : Nat) (l0 : List (S102)) : Option ((List (List Int))) := (ze1 k).bind fun t101 => (zbt k t101 l0 (l0.length : Int) 0)
theorem zhr : ∀ k, (∀ y0 y1 y2 y3, LeO (zbt k y0 y1 y2 y3) (zbt (k + 1) y0 y1 y2 y3))
 | 0 => fun _ _ _ _ r h => by simp [zbt] at h
 | k + 1 => by
   have ih0 := zhr k
   · intro y0 y1 y2 y3
     unfold zbt
     repeat' first
     | (with_reducible first | exact ih0 _ _ _ _ | exact zio _ | exact zkb _ _ _ _ _ _ _ | exact LeO.refl _ | exact LeO.none _ | refine zaf ?_ ?_ | refine LeO.bind ?_ (fun _ => ?_))
     | exact LeO.none _
     | refine zaf ?_ ?_
     | refine LeO.bind ?_ (fun _ => ?_)
theorem zlk : ∀ a0 k, LeO (zej k a0) (zej (k + 1) a0) := by
 intro a0 k
 have ih0 := zhr k
 unfold zej
 repeat' first
     | (with_reducible first | exact ih0 _ _ _ _ | exact zio _ | exact zkb _ _ _ _ _ _ _ | exact LeO.refl _ | exact LeO.none _ | refine zaf ?_ ?_ | refine LeO.bind ?_ (fun _ => ?_))
     | exact LeO.none _
     | refine zaf ?_ ?_
     | refine LeO.bind ?_ (fun _ => ?_)
set_option maxHeartbeats 8000000 in
set_option maxRecDepth 100000 in
theorem zk4 (k : Nat) (A0 : Option Addr) (c0 : Nat) (l0 : List (S102)) (r : List (List Int)) (w : World) (hr0 : Kd.C k102 w A0 l0.length l0) (hc0 : l0.length ≤ c0) (h : zej k l0 = some r) :
   Calls Try.prog 99 #[.slice A0 l0.length c0] w fun e w' => ∃ v0_ : Value, e = .returned (v0_) ∧ Kd.N (Kd.slice 5 (Kd.int .u8)) 116 w' w.heap.size (fun k_ => (w.heap.size ≤ k_)) v0_ r ∧ Below w.heap.size w w' := by
 have hu102 := Try.underlying102
 have HR0 := zA hr0
 have HC0 := zA hc0
 clear hr0 hc0
 have HB := zA (Below.refl w.heap.size w)
 have H : ((ze1 k).bind fun t101 => (zbt k t101 l0 (l0.length : Int) 0)) = some r := h
 clear h
 replace H := zob H
 obtain ⟨t101, A20, H⟩ := H
 replace H : (zbt k t101 l0 (l0.length : Int) 0) = some r := H
 have A2 := zA A20
 clear A20
 have H' := zA H
 clear H
 go_enter Try.func99, Try.ntmps99
 go_wp2_with (first | ((with_reducible refine zae (f := 116) rfl ?_); refine zaz (some 6) rfl rfl Try.func116 (by kernel_rfl) rfl #[] rfl (by first | rfl | (simp only [zld, zle, zlf, zlg, zlh] <;> rfl)) ?_; (with_reducible refine (zj8 k  t101 _ A2.out).mono ?_); rintro e w3 ⟨v102, rfl, ho0, hb⟩; refine ⟨_, rfl, ?_⟩; have n0_ := zA (Kd.N_lower (Kd.N_mono (ok' := fun k_ => (w.heap.size ≤ k_)) ho0 (fun k_ hk_ => (Nat.le_trans (zaj (by repeat (first | (with_reducible first | exact HB.out | apply zba | apply zbn | apply zbd) | exact HB.out))) hk_))) (zaj (by repeat (first | (with_reducible first | exact HB.out | apply zba | apply zbn | apply zbd) | exact HB.out)))); have n1_ := zA (zai (by repeat (first | (with_reducible first | exact HB.out | apply zba | apply zbn | apply zbd) | exact HB.out)) hb); clear HB; have HO103 := n0_; have HB := n1_; clear n0_ n1_; (try clear hb); (try clear ho0)))
 go_loopg [3, 9] k (fun kq v3 v9 w' => ∃ (x3_1 : List (List Int)) (x9_1 : Int), v9 = .int .i64 x9_1 ∧ Aside0 (zbt kq x3_1 l0 (l0.length : Int) x9_1 = some r) ∧ Aside0 (kq ≤ k) ∧ Aside0 (Kd.N (Kd.slice 5 (Kd.int .u8)) 116 w' w.heap.size (fun k_ => (w.heap.size ≤ k_)) v3 x3_1) ∧ Aside0 (Below w.heap.size w w'))
 case atStart => exact ⟨(t101), (0), (by first | rfl | (simp; done) | (simp [*]; done)), H', ⟨zlr _⟩, ⟨by (with_reducible repeat (first | apply Kd.N_alloc | apply Kd.N_drewN | apply Kd.N_drew)); exact HO103.out⟩, ⟨by repeat (first | (with_reducible first | exact HB.out | apply zba | apply zbn | apply zbd) | exact HB.out)⟩⟩
 clear H'
 try clear c1
 try clear p2
 obtain ⟨x3_1, x9_1, rfl, HA, HK1, HO_3, HB⟩ := hrel
 cases gk with
 | zero => exact absurd HA.out (by simp [zbt])
 | succ k1 =>
 have H := HA.out
 clear HA
 simp only [zbt] at H
 by_cases c4 : x9_1 < (l0.length : Int)
 rotate_left
 · rw [if_neg c4] at H
   have c4b0 : decide (x9_1 < (l0.length : Int)) = false := zdf c4
   clear c4
   obtain rfl := zsi H
   go_wp2
   go_ret
   exact ⟨_, by first | rfl | (simp <;> rfl) | (simp [*] <;> rfl), by (with_reducible repeat (first | apply Kd.N_alloc | apply Kd.N_drewN | apply Kd.N_drew)); exact HO_3.out, by repeat (first | (with_reducible first | exact HB.out | apply zba | apply zbn | apply zbd) | exact HB.out)⟩
 rw [if_pos c4] at H
 have c4b0 : decide (x9_1 < (l0.length : Int)) = true := zdt c4
 clear c4
 by_cases c5 : 0 ≤ x9_1
 rotate_left
 · rw [if_neg c5] at H
   exact absurd H (by simp)
 rw [if_pos c5] at H
 have c5b0 : decide (0 ≤ x9_1) = true := zdt c5
 clear c5
 by_cases c6 : x9_1 < (l0.length : Int)
 rotate_left
 · rw [if_neg c6] at H
   exact absurd H (by simp)
 rw [if_pos c6] at H
 have c6b0 : decide (x9_1 < (l0.length : Int)) = true := zdt c6
 clear c6
 replace H := zob H
 obtain ⟨t106, A70, H⟩ := H
 replace H : (if x3_1.length < 5864062014805 then (zbt k1 (x3_1 ++ [t106]) l0 (l0.length : Int) (wrap64 (x9_1 + 1))) else (none)) = some r := H
 have A7 := zA A70
 clear A70
 by_cases c8 : x3_1.length < 5864062014805
 rotate_left
 · rw [if_neg c8] at H
   exact absurd H (by simp)
 rw [if_pos c8] at H
 have LMc8 := zA c8
 clear c8
 obtain ⟨y109, hy109⟩ : ∃ y_ : List (List Int), y_ = (x3_1 ++ [t106]) := ⟨_, rfl⟩
 replace H : (zbt k1 y109 l0 (l0.length : Int) (wrap64 (x9_1 + 1))) = some r := by first | (rw [hy109]; with_reducible exact H) | (have H2_ := (Option.bind_some _ _).symm.trans H; rw [hy109]; with_reducible exact H2_) | (have H2_ := (Option.bind_some _ _).symm.trans H; with_reducible exact H2_) | with_reducible exact H | (rw [hy109]; exact H) | exact H
 have Ny109 := zA hy109
 clear hy109
 have H' := zA H
 clear H
 have p104 : 0 ≤ (x9_1 : Int) := zde (by assumption)
 have q104 : x9_1 < (l0.length : Int) := zde (by assumption)
 obtain ⟨ad104, e104, hx104_0, hx104_1, hx104_2, hx104_3, hx104_4⟩ := zg1 HR0.out x9_1 p104 q104
 cases e104
 replace hx104_0 := zkep HB.out hx104_0
 replace hx104_1 := zkep HB.out hx104_1
 replace hx104_2 := zkep HB.out hx104_2
 replace hx104_3 := zkep HB.out hx104_3
 replace hx104_4 := zkep HB.out hx104_4
 replace p104 := eq_true p104
 replace q104 := eq_true q104
 go_wp2_with (first | ((with_reducible refine zam (N := 5) rfl ?_); refine zak ?hg (N := 5) ?hd (cs := #[.string (⟨#[]⟩ : ByteArray), .int .i64 0, .int .i64 0, .int .i64 0, .int .i64 0]) (t := 102) ?hr ?_; (case hd => rfl); (case hg => rfl); (case hr => go_simp <;> rfl); intro gb105 hg w9 hbox hb; have n0_ := zA (Kd.N_below (Kd.N_elderB (by (with_reducible repeat (first | apply Kd.N_alloc | apply Kd.N_drewN | apply Kd.N_drew)); exact HO_3.out) gb105 (Nat.le_of_eq hg.symm)) hb); have zs := zpair (by repeat (first | (with_reducible first | exact HB.out | apply zba | apply zbn | apply zbd) | exact HB.out)) hb; have n1_ := zA (zs.1); have n2_ := zA (hbox); have n3_ := zA ((by rw [hg]; exact zs.2 : w.heap.size ≤ gb105)); have n4_ := n3_; clear HO_3 HB; have HO_3 := n0_; have HB := n1_; have BK105 := n2_; have GW105 := n3_; have GE105 := n4_; clear n0_ n1_ n2_ n3_ n4_; clear zs hb hbox hg; obtain ⟨hcz10_0, hcz10_1, hcz10_2, hcz10_3, hcz10_4⟩ := zc5 w9 (.string (⟨#[]⟩ : ByteArray)) (.int .i64 0) (.int .i64 0) (.int .i64 0) (.int .i64 0) BK105.out; obtain ⟨hfz10_0, hfz10_1, hfz10_2, hfz10_3, hfz10_4⟩ := zf5 BK105.out; obtain ⟨Ao11, co11, eo11⟩ := Kd.N_slice HO_3.out; subst eo11) | ((with_reducible refine zae (f := 115) rfl ?_); refine zaz (some 16) rfl rfl Try.func115 (by kernel_rfl) rfl #[.agg #[.string ((zab l0 x9_1).f0), .int .i64 ((zab l0 x9_1).f1), .int .i64 ((zab l0 x9_1).f2), .int .i64 ((zab l0 x9_1).f3), .int .i64 ((zab l0 x9_1).f4)], .slice Ao11 x3_1.length co11] rfl (by first | rfl | (simp only [zld, zle, zlf, zlg, zlh] <;> rfl)) ?_; (with_reducible refine (zmh k1 ((zab l0 x9_1).f0) ((zab l0 x9_1).f1) ((zab l0 x9_1).f2) ((zab l0 x9_1).f3) ((zab l0 x9_1).f4) _ _ x3_1 t106 _ ?side1 ?side2 A7.out).mono ?_); (case side1 => refine (Kd.N_reads' (e := 116) (base := w.heap.size) (ok := fun k_ => ((w.heap.size ≤ k_) ∧ k_ ≠ gb105)) (n := x3_1.length) (c := co11) ?_).2.2; exact (by (with_reducible repeat (first | apply Kd.N_alloc | apply Kd.N_drewN | apply Kd.N_drew)); exact (Kd.N_mono (Kd.N_far (p := ⟨gb105, 4, none⟩) (Kd.N_far (p := ⟨gb105, 3, none⟩) (Kd.N_far (p := ⟨gb105, 2, none⟩) (Kd.N_far (p := ⟨gb105, 1, none⟩) (Kd.N_far (p := ⟨gb105, 0, none⟩) (Kd.N_mono HO_3.out (fun k_ hk => (⟨hk, hk.2⟩ : _ ∧ k_ ≠ gb105))) (fun _ hk => hk.2) (.string ((zab l0 x9_1).f0))) (fun _ hk => hk.2) (.int .i64 ((zab l0 x9_1).f1))) (fun _ hk => hk.2) (.int .i64 ((zab l0 x9_1).f2))) (fun _ hk => hk.2) (.int .i64 ((zab l0 x9_1).f3))) (fun _ hk => hk.2) (.int .i64 ((zab l0 x9_1).f4))) (fun _ h_ => h_.1)))); (case side2 => exact (Kd.N_reads' HO_3.out).2.1); rintro e w12 ⟨v107, rfl, ho0, hb⟩; refine ⟨_, rfl, ?_⟩; have n0_ := zA (Kd.N_elder' (by (with_reducible repeat (first | apply Kd.N_alloc | apply Kd.N_drewN | apply Kd.N_drew)); exact (Kd.N_mono (Kd.N_far (p := ⟨gb105, 4, none⟩) (Kd.N_far (p := ⟨gb105, 3, none⟩) (Kd.N_far (p := ⟨gb105, 2, none⟩) (Kd.N_far (p := ⟨gb105, 1, none⟩) (Kd.N_far (p := ⟨gb105, 0, none⟩) (Kd.N_mono HO_3.out (fun k_ hk => (⟨hk, hk.2⟩ : _ ∧ k_ ≠ gb105))) (fun _ hk => hk.2) (.string ((zab l0 x9_1).f0))) (fun _ hk => hk.2) (.int .i64 ((zab l0 x9_1).f1))) (fun _ hk => hk.2) (.int .i64 ((zab l0 x9_1).f2))) (fun _ hk => hk.2) (.int .i64 ((zab l0 x9_1).f3))) (fun _ hk => hk.2) (.int .i64 ((zab l0 x9_1).f4))) (fun _ h_ => h_.1))) (Kd.R_base ho0) hb); have n1_ := zA (Kd.R_lower (Kd.R_newM (M := fun k_ => (w.heap.size ≤ k_)) ho0 (zaj (by repeat (first | (with_reducible first | exact HB.out | apply zba | apply zbn | apply zbd | refine zaa ?_ GE105.out) | exact HB.out))) (fun k_ h_ => h_)) (zaj (by repeat (first | (with_reducible first | exact HB.out | apply zba | apply zbn | apply zbd | refine zaa ?_ GE105.out) | exact HB.out)))); have n2_ := zA (zad (g := gb105) (o := .cells #[.string ((zab l0 x9_1).f0), .int .i64 ((zab l0 x9_1).f1), .int .i64 ((zab l0 x9_1).f2), .int .i64 ((zab l0 x9_1).f3), .int .i64 ((zab l0 x9_1).f4)] 102 (0, 0)) (by (with_reducible repeat (first | refine zkn ?_ _ | refine zkd ?_ | refine zka ?_ _)); refine zbv (cs := #[.string ((zab l0 x9_1).f0), .int .i64 ((zab l0 x9_1).f1), .int .i64 ((zab l0 x9_1).f2), .int .i64 ((zab l0 x9_1).f3), .int .i64 0]) ?_ 4 _ rfl; (with_reducible repeat (first | refine zkn ?_ _ | refine zkd ?_ | refine zka ?_ _)); refine zbv (cs := #[.string ((zab l0 x9_1).f0), .int .i64 ((zab l0 x9_1).f1), .int .i64 ((zab l0 x9_1).f2), .int .i64 0, .int .i64 0]) ?_ 3 _ rfl; (with_reducible repeat (first | refine zkn ?_ _ | refine zkd ?_ | refine zka ?_ _)); refine zbv (cs := #[.string ((zab l0 x9_1).f0), .int .i64 ((zab l0 x9_1).f1), .int .i64 0, .int .i64 0, .int .i64 0]) ?_ 2 _ rfl; (with_reducible repeat (first | refine zkn ?_ _ | refine zkd ?_ | refine zka ?_ _)); refine zbv (cs := #[.string ((zab l0 x9_1).f0), .int .i64 0, .int .i64 0, .int .i64 0, .int .i64 0]) ?_ 1 _ rfl; (with_reducible repeat (first | refine zkn ?_ _ | refine zkd ?_ | refine zka ?_ _)); refine zbv (cs := #[.string (⟨#[]⟩ : ByteArray), .int .i64 0, .int .i64 0, .int .i64 0, .int .i64 0]) ?_ 0 _ rfl; (with_reducible repeat (first | refine zkn ?_ _ | refine zkd ?_ | refine zka ?_ _)); exact BK105.out) hb); have n3_ := zA (zai (by repeat (first | (with_reducible first | exact HB.out | apply zba | apply zbn | apply zbd | refine zaa ?_ GE105.out) | exact HB.out)) hb); clear HO_3 BK105 HB; have HO_3 := n0_; have HO108 := n1_; have BK105 := n2_; have HB := n3_; clear n0_ n1_ n2_ n3_; (try clear hb); (try clear hk); (try clear ho0); obtain ⟨Ao14, co14, eo14⟩ := Kd.R_slice HO108.out; subst eo14) | ((with_reducible refine ze4 (b := .append) (xs := #[.tmp 13, .tmp 17]) rfl ?_); at_builtin; refine Kd.N_append (Kd.slice 5 (Kd.int .u8)) (w0 := w) w.heap.size rfl (.tmp 13) (.tmp 17) 111 116 (.slice none 0 0) 24 rfl Try.underlying111 zs7 rfl (by decide) (by omega) (.slice Ao11 x3_1.length co11) x3_1 t106 [.slice Ao14 t106.length co14] (fun k_ => (w.heap.size ≤ k_) ∧ k_ ≠ gb105) (fun k_ => ((fun k_ => (w.heap.size ≤ k_) ∧ k_ ≠ gb105)) k_ ∧ some k_ ≠ (.slice Ao11 x3_1.length co11 : Value).ownBlock) rfl rfl ?aP (fun _ hk => hk) ?aF ?aO ?aB ?aS ?aL ?_; (case aP => exact (Kd.FK_slice_mk (zRr (Kd.R_mono (ok' := (fun k_ => ((fun k_ => (w.heap.size ≤ k_) ∧ k_ ≠ gb105)) k_ ∧ some k_ ≠ (.slice Ao11 x3_1.length co11 : Value).ownBlock)) (Kd.R_types (Kd.R_apart' (HO108.out) (Kd.N_typed HO_3.out) (by decide)) BK105.out (by decide)) (fun k_ hk => ⟨⟨hk.1.1.1, hk.2⟩, hk.1.2⟩))).2.1 (Kd.R_F (Kd.R_mono (ok' := (fun k_ => ((fun k_ => (w.heap.size ≤ k_) ∧ k_ ≠ gb105)) k_ ∧ some k_ ≠ (.slice Ao11 x3_1.length co11 : Value).ownBlock)) (Kd.R_types (Kd.R_apart' (HO108.out) (Kd.N_typed HO_3.out) (by decide)) BK105.out (by decide)) (fun k_ hk => ⟨⟨hk.1.1.1, hk.2⟩, hk.1.2⟩))))); (case aB => exact (by repeat (first | (with_reducible first | exact HB.out | apply zba | apply zbn | apply zbd | refine zaa ?_ GE105.out) | exact HB.out))); (case aF => exact (fun k_ hk => ⟨(Nat.le_trans (zaj (by repeat (first | (with_reducible first | exact HB.out | apply zba | apply zbn | apply zbd | refine zaa ?_ GE105.out) | exact HB.out))) hk), Kd.freshB (g := gb105) (o := .cells #[.string ((zab l0 x9_1).f0), .int .i64 ((zab l0 x9_1).f1), .int .i64 ((zab l0 x9_1).f2), .int .i64 ((zab l0 x9_1).f3), .int .i64 ((zab l0 x9_1).f4)] 102 (0, 0)) (by (with_reducible repeat (first | refine zkn ?_ _ | refine zkd ?_ | refine zka ?_ _)); exact BK105.out) k_ hk⟩)); (case aO => exact (by (with_reducible repeat (first | apply Kd.N_alloc | apply Kd.N_drewN | apply Kd.N_drew)); exact Kd.N_mono HO_3.out (fun _ hk => ⟨hk.1.1, hk.1.2⟩))); (case aS => exact (zaj (by repeat (first | (with_reducible first | exact HB.out | apply zba | apply zbn | apply zbd | refine zaa ?_ GE105.out) | exact HB.out)))); (case aL => have := LMc8.out; omega); intro v110 w13 ho hb hg hat; rw [← Ny109.out] at ho; have n0_ := zA (zjz (g := gb105) (o := .cells #[.string ((zab l0 x9_1).f0), .int .i64 ((zab l0 x9_1).f1), .int .i64 ((zab l0 x9_1).f2), .int .i64 ((zab l0 x9_1).f3), .int .i64 ((zab l0 x9_1).f4)] 102 (0, 0)) (by (with_reducible repeat (first | refine zkn ?_ _ | refine zkd ?_ | refine zka ?_ _)); exact BK105.out) hg (Kd.N_ne HO_3.out BK105.out (by decide))); have n1_ := zA (hb); have n2_ := zA (ho); clear BK105 HB; clear HO_3 HO108; have BK105 := n0_; have HB := n1_; have HO111 := n2_; clear n0_ n1_ n2_; clear ho hb hg hat))
 go_roundg k1
 case measure => have := HK1.out; omega
 case rel => exact ⟨(y109), (wrap64 (x9_1 + 1)), (by first | rfl | (simp; done) | (simp [*]; done)), H', ⟨by have := HK1.out; omega⟩, ⟨by (with_reducible repeat (first | apply Kd.N_alloc | apply Kd.N_drewN | apply Kd.N_drew)); exact Kd.N_mono HO111.out (fun _ hk => hk.1)⟩, ⟨by repeat (first | (with_reducible first | exact HB.out | apply zba | apply zbn | apply zbd | refine zaa ?_ GE105.out) | exact HB.out)⟩⟩
def zeb (k : Nat) (l0 : List (S102)) : Option (List Int) := if (l0.length : Int) = 0 then ((ze1 k).bind fun t101 => (if 0 < (t101.length : Int) then (some (zea t101 0)) else (none))) else ((zej k l0).bind fun t105 => (if 0 ≤ (wrap64 ((t105.length : Int) - 1)) then (if (wrap64 ((t105.length : Int) - 1)) < (t105.length : Int) then (some (zea t105 (wrap64 ((t105.length : Int) - 1)))) else (none)) else (none)))
theorem zkc : ∀ a0 k, LeO (zeb k a0) (zeb (k + 1) a0) := by
 intro a0 k
 unfold zeb
 repeat' first
     | (with_reducible first | exact zio _ | exact zlk _ _ | exact LeO.refl _ | exact LeO.none _ | refine zaf ?_ ?_ | refine LeO.bind ?_ (fun _ => ?_))
     | exact LeO.none _
     | refine zaf ?_ ?_
     | refine LeO.bind ?_ (fun _ => ?_)
set_option maxHeartbeats 8000000 in
set_option maxRecDepth 100000 in
theorem zmi (k : Nat) (A0 : Option Addr) (c0 : Nat) (l0 : List (S102)) (r : List Int) (w : World) (hr0 : Kd.C k102 w A0 l0.length l0) (hc0 : l0.length ≤ c0) (h : zeb k l0 = some r) :
   Calls Try.prog 103 #[.slice A0 l0.length c0] w fun e w' => ∃ v0_ : Value, e = .returned (v0_) ∧ Kd.V (Kd.int .u8) 5 w' w.heap.size (fun k_ => (w.heap.size ≤ k_)) v0_ r ∧ Below w.heap.size w w' := by
 have HR0 := zA hr0
 have HC0 := zA hc0
 clear hr0 hc0
 have HB := zA (Below.refl w.heap.size w)
 have H : (if (l0.length : Int) = 0 then ((ze1 k).bind fun t101 => (if 0 < (t101.length : Int) then (some (zea t101 0)) else (none))) else ((zej k l0).bind fun t105 => (if 0 ≤ (wrap64 ((t105.length : Int) - 1)) then (if (wrap64 ((t105.length : Int) - 1)) < (t105.length : Int) then (some (zea t105 (wrap64 ((t105.length : Int) - 1)))) else (none)) else (none)))) = some r := h
 clear h
 by_cases c2 : (l0.length : Int) = 0
 · rw [if_pos c2] at H
   have c2b0 : ((l0.length : Int) == 0) = true := beq_iff_eq.mpr c2
   have c2b1 : ((l0.length : Int) != 0) = false := bne_eq_false_iff_eq.mpr c2
   clear c2
   replace H := zob H
   obtain ⟨t101, A30, H⟩ := H
   replace H : (if 0 < (t101.length : Int) then (some (zea t101 0)) else (none)) = some r := H
   have A3 := zA A30
   clear A30
   by_cases c4 : 0 < (t101.length : Int)
   rotate_left
   · rw [if_neg c4] at H
     exact absurd H (by simp)
   rw [if_pos c4] at H
   have c4b0 : decide (0 < (t101.length : Int)) = true := zdt c4
   have c4b1 : decide (0 < t101.length) = true := zdt (by omega)
   clear c4
   obtain rfl := zsi H
   go_enter Try.func103, Try.ntmps103
   go_wp2_with (first | ((with_reducible refine zae (f := 116) rfl ?_); refine zaz (some 7) rfl rfl Try.func116 (by kernel_rfl) rfl #[] rfl (by first | rfl | (simp only [zld, zle, zlf, zlg, zlh] <;> rfl)) ?_; (with_reducible refine (zj8 k  t101 _ A3.out).mono ?_); rintro e w5 ⟨v102, rfl, ho0, hb⟩; refine ⟨_, rfl, ?_⟩; have n0_ := zA (Kd.N_lower (Kd.N_mono (ok' := fun k_ => (w.heap.size ≤ k_)) ho0 (fun k_ hk_ => (Nat.le_trans (zaj (by repeat (first | (with_reducible first | exact HB.out | apply zba | apply zbn | apply zbd) | exact HB.out))) hk_))) (zaj (by repeat (first | (with_reducible first | exact HB.out | apply zba | apply zbn | apply zbd) | exact HB.out)))); have n1_ := zA (zai (by repeat (first | (with_reducible first | exact HB.out | apply zba | apply zbn | apply zbd) | exact HB.out)) hb); clear HB; have HO103 := n0_; have HB := n1_; clear n0_ n1_; (try clear hb); (try clear ho0); obtain ⟨Ao6, co6, eo6⟩ := Kd.N_slice HO103.out; subst eo6; have p104 : 0 ≤ (0 : Int) := (by omega); have q104 : 0 < (t101.length : Int) := zde (by assumption); obtain ⟨ad104, A104_0, c104_0, e104, hx104_0, hl104_0, hi104_0⟩ := zqb (Kd.N_reads' HO103.out).2.2 0 p104 q104; cases e104; obtain ⟨ce104, hce104, hMe104, hcc104⟩ := Kd.N_get HO103.out [] 0 p104 (by first | exact q104 | exact zde (by assumption) | (have e_ := (Kd.N_reads' HO103.out).1; omega)); obtain ⟨ua104_0, uc104_0, rfl, ul104_0, ge104_0⟩ := Kd.FK_slice_open hMe104; have hv104_0 := hcc104 0 _ rfl; rw [Nat.add_zero, show ((Kd.slice 5 (Kd.int .u8))).sz = 1 from rfl, Nat.mul_one] at hv104_0; replace hv104_0 := zsi (hv104_0.symm.trans hx104_0); injection hv104_0 with hva_ hvn_ hvc_; rw [hva_] at ge104_0; rw [hvc_] at ul104_0; have HL104_0 := zA (show Kd.V (Kd.int .u8) 5 _ w.heap.size _ _ (zea t101 0) from Kd.V_mk ul104_0 ge104_0); clear hva_ hvn_ hvc_ ge104_0 ul104_0; clear hcc104 hce104; have qi104 : (0 < t101.length) = True := eq_true (by omega); (try rw [show ((0 : Int)).toNat = 0 from rfl] at hx104_0); (try rw [Addr.add_zero'] at hx104_0); have HR104_0 := zA hi104_0; have HC104_0 := zA hl104_0; clear hi104_0 hl104_0; replace p104 := eq_true p104; replace q104 := eq_true q104))
   go_ret
   exact ⟨_, by first | rfl | (simp <;> rfl) | (simp [*] <;> rfl), by (with_reducible repeat (first | apply Kd.V_alloc | apply Kd.V_drewN | apply Kd.V_drew)); exact Kd.V_mono HL104_0.out (fun _ hk => hk.1), by repeat (first | (with_reducible first | exact HB.out | apply zba | apply zbn | apply zbd) | exact HB.out)⟩
 rw [if_neg c2] at H
 have c2b0 : ((l0.length : Int) == 0) = false := beq_eq_false_iff_ne.mpr c2
 have c2b1 : ((l0.length : Int) != 0) = true := bne_iff_ne.mpr c2
 have c2b2 : ¬ (l0 = []) := fun h_ => c2 (by rw [h_]; rfl)
 replace H := zob H
 obtain ⟨t105, A70, H⟩ := H
 replace H : (if 0 ≤ (wrap64 ((t105.length : Int) - 1)) then (if (wrap64 ((t105.length : Int) - 1)) < (t105.length : Int) then (some (zea t105 (wrap64 ((t105.length : Int) - 1)))) else (none)) else (none)) = some r := H
 have A7 := zA A70
 clear A70
 obtain ⟨ji8, hji8⟩ : ∃ j_ : Int, (wrap64 ((t105.length : Int) - 1)) = j_ := ⟨_, rfl⟩
 replace H : (if 0 ≤ (ji8) then (if (ji8) < (t105.length : Int) then (some (zea t105 (ji8))) else (none)) else (none)) = some r := by first | (rw [hji8] at H; exact H) | (simp only [hji8] at H ⊢; exact H)
 (try rw [hji8] at A7)
 have hji8w : (IntKind.i64.wrap ((t105.length : Int) - 1)) = ji8 := (zbl _).trans hji8
 by_cases c9 : 0 ≤ (ji8)
 rotate_left
 · rw [if_neg c9] at H
   exact absurd H (by simp)
 rw [if_pos c9] at H
 have c9b0 : decide (0 ≤ (ji8)) = true := zdt c9
 clear c9
 by_cases c10 : (ji8) < (t105.length : Int)
 rotate_left
 · rw [if_neg c10] at H
   exact absurd H (by simp)
 rw [if_pos c10] at H
 have c10b0 : decide ((ji8) < (t105.length : Int)) = true := zdt c10
 clear c10
 obtain rfl := zsi H
 go_enter Try.func103, Try.ntmps103
 go_wp2_with (first | ((with_reducible refine zae (f := 99) rfl ?_); refine zaz (some 11) rfl rfl Try.func99 (by kernel_rfl) rfl #[.slice A0 l0.length c0] rfl (by first | rfl | (simp only [zld, zle, zlf, zlg, zlh] <;> rfl)) ?_; (with_reducible refine (zk4 k _ _ l0 t105 _ ?side1 ?side2 A7.out).mono ?_); (case side1 => repeat (first | exact HR0.out | (with_reducible first | refine zCa ?_ _ | refine zCn ?_ _ | refine zCd ?_))); (case side2 => exact HC0.out); rintro e w11 ⟨v106, rfl, ho0, hb⟩; refine ⟨_, rfl, ?_⟩; have n0_ := zA (Kd.N_lower (Kd.N_mono (ok' := fun k_ => (w.heap.size ≤ k_)) ho0 (fun k_ hk_ => (Nat.le_trans (zaj (by repeat (first | (with_reducible first | exact HB.out | apply zba | apply zbn | apply zbd) | exact HB.out))) hk_))) (zaj (by repeat (first | (with_reducible first | exact HB.out | apply zba | apply zbn | apply zbd) | exact HB.out)))); have n1_ := zA (zai (by repeat (first | (with_reducible first | exact HB.out | apply zba | apply zbn | apply zbd) | exact HB.out)) hb); clear HB; have HO107 := n0_; have HB := n1_; clear n0_ n1_; (try clear hb); (try clear ho0); obtain ⟨Ao12, co12, eo12⟩ := Kd.N_slice HO107.out; subst eo12; have p108 : 0 ≤ ((ji8) : Int) := zde (by assumption); have q108 : (ji8) < (t105.length : Int) := zde (by assumption); obtain ⟨ad108, A108_0, c108_0, e108, hx108_0, hl108_0, hi108_0⟩ := zqb (Kd.N_reads' HO107.out).2.2 (ji8) p108 q108; cases e108; obtain ⟨ce108, hce108, hMe108, hcc108⟩ := Kd.N_get HO107.out [] (ji8) p108 (by first | exact q108 | exact zde (by assumption) | (have e_ := (Kd.N_reads' HO107.out).1; omega)); obtain ⟨ua108_0, uc108_0, rfl, ul108_0, ge108_0⟩ := Kd.FK_slice_open hMe108; have hv108_0 := hcc108 0 _ rfl; rw [Nat.add_zero, show ((Kd.slice 5 (Kd.int .u8))).sz = 1 from rfl, Nat.mul_one] at hv108_0; replace hv108_0 := zsi (hv108_0.symm.trans hx108_0); injection hv108_0 with hva_ hvn_ hvc_; rw [hva_] at ge108_0; rw [hvc_] at ul108_0; have HL108_0 := zA (show Kd.V (Kd.int .u8) 5 _ w.heap.size _ _ (zea t105 (ji8)) from Kd.V_mk ul108_0 ge108_0); clear hva_ hvn_ hvc_ ge108_0 ul108_0; clear hcc108 hce108; have HR108_0 := zA hi108_0; have HC108_0 := zA hl108_0; clear hi108_0 hl108_0; replace p108 := eq_true p108; replace q108 := eq_true q108))
 go_ret
 exact ⟨_, by first | rfl | (simp [zna, znb] <;> rfl) | (simp only [← hji8]; first | rfl | (simp [zna, znb] <;> rfl)) | (simp [*, zna, znb] <;> rfl), by (with_reducible repeat (first | apply Kd.V_alloc | apply Kd.V_drewN | apply Kd.V_drew)); exact Kd.V_mono HL108_0.out (fun _ hk => hk.1), by repeat (first | (with_reducible first | exact HB.out | apply zba | apply zbn | apply zbd) | exact HB.out)⟩
def za7 : Nat → List Int → List Int → Int → Int → Option (List Int × Bool)
 | 0, _, _, _, _ => none
 | k + 1, x6, x15, x16, x17 => if x17 < x16 then (if 0 ≤ x17 then (if x17 < (x15.length : Int) then (if x6.length < 17592186044416 then (za7 k (x6 ++ [wrap64 (rd x15 x17)]) x15 x16 (wrap64 (x17 + 1))) else (none)) else (none)) else (none)) else (some (x6, true))
def za0 (k : Nat) (l0_0 : List ByteArray) (l0_1 : List Int) (l1 : List (S102)) : Option (List Int × Bool) := (zeo k l0_0 l0_1 l1).bind fun t102 => (if t102 = true then ((zeb k l1).bind fun t106 => (za7 k (([] : List Int)) t106 (t106.length : Int) 0)) else (some (([] : List Int), false)))
theorem zg6 : ∀ k, (∀ y0 y1 y2 y3, LeO (za7 k y0 y1 y2 y3) (za7 (k + 1) y0 y1 y2 y3))
 | 0 => fun _ _ _ _ r h => by simp [za7] at h
 | k + 1 => by
   have ih0 := zg6 k
   · intro y0 y1 y2 y3
     unfold za7
     repeat' first
     | (with_reducible first | exact ih0 _ _ _ _ | exact zh4 _ _ _ _ | exact zkc _ _ | exact LeO.refl _ | exact LeO.none _ | refine zaf ?_ ?_ | refine LeO.bind ?_ (fun _ => ?_))
     | exact LeO.none _
     | refine zaf ?_ ?_
     | refine LeO.bind ?_ (fun _ => ?_)
theorem ze7 : ∀ a0 a1 a2 k, LeO (za0 k a0 a1 a2) (za0 (k + 1) a0 a1 a2) := by
 intro a0 a1 a2 k
 have ih0 := zg6 k
 unfold za0
 repeat' first
     | (with_reducible first | exact ih0 _ _ _ _ | exact zh4 _ _ _ _ | exact zkc _ _ | exact LeO.refl _ | exact LeO.none _ | refine zaf ?_ ?_ | refine LeO.bind ?_ (fun _ => ?_))
     | exact LeO.none _
     | refine zaf ?_ ?_
     | refine LeO.bind ?_ (fun _ => ?_)
set_option maxHeartbeats 8000000 in
set_option maxRecDepth 100000 in
theorem zha (k : Nat) (A0_0 : Option Addr) (c0_0 : Nat) (l0_0 : List ByteArray) (A0_1 : Option Addr) (c0_1 : Nat) (l0_1 : List Int) (A1 : Option Addr) (c1 : Nat) (l1 : List (S102)) (r1 : List Int) (r2 : Bool) (w : World) (hr0_0 : Kd.C Kd.string w A0_0 l0_0.length l0_0) (hc0_0 : l0_0.length ≤ c0_0) (hr0_1 : Kd.C (Kd.int .i64) w A0_1 l0_1.length l0_1) (hc0_1 : l0_1.length ≤ c0_1) (hr1 : Kd.C k102 w A1 l1.length l1) (hc1 : l1.length ≤ c1) (h : za0 k l0_0 l0_1 l1 = some (r1, r2)) :
   Calls Try.prog 47 #[.agg #[.slice A0_0 l0_0.length c0_0, .slice A0_1 l0_1.length c0_1], .slice A1 l1.length c1] w fun e w' => ∃ v0_ : Value, e = .returned (.tuple #[v0_, .bool r2]) ∧ Kd.R (Kd.int .i64) 3 w' w.heap.size (fun _ => True) v0_ r1 ∧ Below w.heap.size w w' := by
 have hu62 := Try.underlying62
 have HR0_0 := zA hr0_0
 have HC0_0 := zA hc0_0
 clear hr0_0 hc0_0
 have HR0_1 := zA hr0_1
 have HC0_1 := zA hc0_1
 clear hr0_1 hc0_1
 have HR1 := zA hr1
 have HC1 := zA hc1
 clear hr1 hc1
 have HB := zA (Below.refl w.heap.size w)
 have H : ((zeo k l0_0 l0_1 l1).bind fun t102 => (if t102 = true then ((zeb k l1).bind fun t106 => (za7 k (([] : List Int)) t106 (t106.length : Int) 0)) else (some (([] : List Int), false)))) = some (r1, r2) := h
 clear h
 replace H := zob H
 obtain ⟨t102, A30, H⟩ := H
 replace H : (if t102 = true then ((zeb k l1).bind fun t106 => (za7 k (([] : List Int)) t106 (t106.length : Int) 0)) else (some (([] : List Int), false))) = some (r1, r2) := H
 have A3 := zA A30
 clear A30
 by_cases c4 : t102 = true
 rotate_left
 · replace c4 := zbf c4
   subst c4
   replace H : (some (([] : List Int), false)) = some (r1, r2) := by rw [if_neg (show ¬ (false = true) by decide)] at H; exact H
   simp only [Option.some.injEq, Prod.mk.injEq] at H
   obtain ⟨rfl, rfl⟩ := H
   go_enter Try.func47, Try.ntmps47
   go_wp2_with (first | ((with_reducible refine zam (N := 2) rfl ?_); refine zak ?hg (N := 2) ?hd (cs := #[.slice A0_0 l0_0.length c0_0, .slice A0_1 l0_1.length c0_1]) (t := 62) ?hr ?_; (case hd => rfl); (case hg => rfl); (case hr => go_simp <;> rfl); intro gb101 hg w18 hbox hb; have zs := zpair (by repeat (first | (with_reducible first | exact HB.out | apply zba | apply zbn | apply zbd) | exact HB.out)) hb; have n0_ := zA (zs.1); have n1_ := zA (hbox); have n2_ := zA ((by rw [hg]; exact zs.2 : w.heap.size ≤ gb101)); have n3_ := n2_; clear HB; have HB := n0_; have BK101 := n1_; have GW101 := n2_; have GE101 := n3_; clear n0_ n1_ n2_ n3_; clear zs hb hbox hg; obtain ⟨hcz19_0, hcz19_1⟩ := zc2 w18 (.slice A0_0 l0_0.length c0_0) (.slice A0_1 l0_1.length c0_1) BK101.out; obtain ⟨hfz19_0, hfz19_1⟩ := zf2 BK101.out) | ((with_reducible refine zae (f := 97) rfl ?_); refine zaz (some 11) rfl rfl Try.func97 (by kernel_rfl) rfl #[.agg #[.slice A0_0 l0_0.length c0_0, .slice A0_1 l0_1.length c0_1], .slice A1 l1.length c1] rfl (by first | rfl | (simp only [zld, zle, zlf, zlg, zlh] <;> rfl)) ?_; (with_reducible refine (zhq k _ _ l0_0 _ _ l0_1 _ _ l1 false _ ?side1 ?side2 ?side3 ?side4 ?side5 ?side6 A3.out).mono ?_); (case side1 => repeat (first | exact (zCb HR0_0.out HB.out) | (with_reducible first | refine zCa ?_ _ | refine zCn ?_ _ | refine zCd ?_))); (case side2 => exact HC0_0.out); (case side3 => repeat (first | exact (zCb HR0_1.out HB.out) | (with_reducible first | refine zCa ?_ _ | refine zCn ?_ _ | refine zCd ?_))); (case side4 => exact HC0_1.out); (case side5 => repeat (first | exact (zCb HR1.out HB.out) | (with_reducible first | refine zCa ?_ _ | refine zCn ?_ _ | refine zCd ?_))); (case side6 => exact HC1.out); rintro e w20 ⟨rfl, hb⟩; refine ⟨_, rfl, ?_⟩; have n0_ := zA (zad (g := gb101) (o := .cells #[.slice A0_0 l0_0.length c0_0, .slice A0_1 l0_1.length c0_1] 62 (0, 0)) (by (with_reducible repeat (first | refine zkn ?_ _ | refine zkd ?_ | refine zka ?_ _)); exact BK101.out) hb); have n1_ := zA (zai (by repeat (first | (with_reducible first | exact HB.out | apply zba | apply zbn | apply zbd | refine zaa ?_ GE101.out) | exact HB.out)) hb); clear BK101 HB; have BK101 := n0_; have HB := n1_; clear n0_ n1_; (try clear hb)))
   go_ret2
   exact ⟨_, by first | rfl | (simp <;> rfl) | (simp [*] <;> rfl), by first | exact Kd.R_nil _ _ _ _ _ | exact Kd.N_nil _ _ _ _ _ | exact Kd.V_nil _ _ _ _ _ | exact Kd.Q_nil _ _ _ _ _ | exact Kd.S_nil _ _ _ _ _, by repeat (first | (with_reducible first | exact HB.out | apply zba | apply zbn | apply zbd | refine zaa ?_ GE101.out) | exact HB.out)⟩
 subst c4
 replace H : ((zeb k l1).bind fun t106 => (za7 k (([] : List Int)) t106 (t106.length : Int) 0)) = some (r1, r2) := by rw [if_pos rfl] at H; exact H
 obtain ⟨y103, hy103⟩ : ∃ y_ : List Int, y_ = (([] : List Int)) := ⟨_, rfl⟩
 replace H : ((zeb k l1).bind fun t106 => (za7 k y103 t106 (t106.length : Int) 0)) = some (r1, r2) := by first | (rw [hy103]; with_reducible exact H) | (have H2_ := (Option.bind_some _ _).symm.trans H; rw [hy103]; with_reducible exact H2_) | (have H2_ := (Option.bind_some _ _).symm.trans H; with_reducible exact H2_) | with_reducible exact H | (rw [hy103]; exact H) | exact H
 have Ny103 := zA hy103
 clear hy103
 replace H := zob H
 obtain ⟨t106, A50, H⟩ := H
 replace H : (za7 k y103 t106 (t106.length : Int) 0) = some (r1, r2) := H
 have A5 := zA A50
 clear A50
 have H' := zA H
 clear H
 go_enter Try.func47, Try.ntmps47
 go_wp2_with (first | ((with_reducible refine zam (N := 2) rfl ?_); refine zak ?hg (N := 2) ?hd (cs := #[.slice A0_0 l0_0.length c0_0, .slice A0_1 l0_1.length c0_1]) (t := 62) ?hr ?_; (case hd => rfl); (case hg => rfl); (case hr => go_simp <;> rfl); intro gb101 hg w6 hbox hb; have zs := zpair (by repeat (first | (with_reducible first | exact HB.out | apply zba | apply zbn | apply zbd) | exact HB.out)) hb; have n0_ := zA (zs.1); have n1_ := zA (hbox); have n2_ := zA ((by rw [hg]; exact zs.2 : w.heap.size ≤ gb101)); have n3_ := n2_; clear HB; have HB := n0_; have BK101 := n1_; have GW101 := n2_; have GE101 := n3_; clear n0_ n1_ n2_ n3_; clear zs hb hbox hg; obtain ⟨hcz7_0, hcz7_1⟩ := zc2 w6 (.slice A0_0 l0_0.length c0_0) (.slice A0_1 l0_1.length c0_1) BK101.out; obtain ⟨hfz7_0, hfz7_1⟩ := zf2 BK101.out) | ((with_reducible refine zae (f := 97) rfl ?_); refine zaz (some 11) rfl rfl Try.func97 (by kernel_rfl) rfl #[.agg #[.slice A0_0 l0_0.length c0_0, .slice A0_1 l0_1.length c0_1], .slice A1 l1.length c1] rfl (by first | rfl | (simp only [zld, zle, zlf, zlg, zlh] <;> rfl)) ?_; (with_reducible refine (zhq k _ _ l0_0 _ _ l0_1 _ _ l1 true _ ?side1 ?side2 ?side3 ?side4 ?side5 ?side6 A3.out).mono ?_); (case side1 => repeat (first | exact (zCb HR0_0.out HB.out) | (with_reducible first | refine zCa ?_ _ | refine zCn ?_ _ | refine zCd ?_))); (case side2 => exact HC0_0.out); (case side3 => repeat (first | exact (zCb HR0_1.out HB.out) | (with_reducible first | refine zCa ?_ _ | refine zCn ?_ _ | refine zCd ?_))); (case side4 => exact HC0_1.out); (case side5 => repeat (first | exact (zCb HR1.out HB.out) | (with_reducible first | refine zCa ?_ _ | refine zCn ?_ _ | refine zCd ?_))); (case side6 => exact HC1.out); rintro e w8 ⟨rfl, hb⟩; refine ⟨_, rfl, ?_⟩; have n0_ := zA (zad (g := gb101) (o := .cells #[.slice A0_0 l0_0.length c0_0, .slice A0_1 l0_1.length c0_1] 62 (0, 0)) (by (with_reducible repeat (first | refine zkn ?_ _ | refine zkd ?_ | refine zka ?_ _)); exact BK101.out) hb); have n1_ := zA (zai (by repeat (first | (with_reducible first | exact HB.out | apply zba | apply zbn | apply zbd | refine zaa ?_ GE101.out) | exact HB.out)) hb); clear BK101 HB; have BK101 := n0_; have HB := n1_; clear n0_ n1_; (try clear hb); (try clear hk)) | ((with_reducible refine zam (N := 13) rfl ?_); refine Kd.R_lit (Kd.int .i64) _ 3 ?hg (N := 13) ?hd (xs := ([] : List Int)) (inner := []) (ok := fun _ => True) (okp := fun _ => True) ?hr ?hp (fun _ hk => hk) trivial (Below.refl _ _) (zlr _) (by simp) ?_; (case hd => rfl); (case hg => rfl); (case hr => go_simp <;> rfl); (case hp => exact (Reps.none _ _)); intro v104 w9 ho10 hb hg_ hnew_; clear hg_ hnew_; (first | rw [← Ny103.out] at ho10 | (simp only [Int.reduceToNat] at ho10; rw [← Ny103.out] at ho10)); have n0_ := zA (Kd.R_lower ho10 (zaj (by repeat (first | (with_reducible first | exact HB.out | apply zba | apply zbn | apply zbd | refine zaa ?_ GE101.out) | exact HB.out)))); have n1_ := zA (zad (g := gb101) (o := .cells #[.slice A0_0 l0_0.length c0_0, .slice A0_1 l0_1.length c0_1] 62 (0, 0)) (by (with_reducible repeat (first | refine zkn ?_ _ | refine zkd ?_ | refine zka ?_ _)); exact BK101.out) hb); have n2_ := zA (zai (by repeat (first | (with_reducible first | exact HB.out | apply zba | apply zbn | apply zbd | refine zaa ?_ GE101.out) | exact HB.out)) hb); clear BK101 HB; have HO105 := n0_; have BK101 := n1_; have HB := n2_; clear n0_ n1_ n2_; clear hb ho10) | ((with_reducible refine zae (f := 103) rfl ?_); refine zaz (some 15) rfl rfl Try.func103 (by kernel_rfl) rfl #[.slice A1 l1.length c1] rfl (by first | rfl | (simp only [zld, zle, zlf, zlg, zlh] <;> rfl)) ?_; (with_reducible refine (zmi k _ _ l1 t106 _ ?side1 ?side2 A5.out).mono ?_); (case side1 => repeat (first | exact (zCb HR1.out HB.out) | (with_reducible first | refine zCa ?_ _ | refine zCn ?_ _ | refine zCd ?_))); (case side2 => exact HC1.out); rintro e w11 ⟨v107, rfl, ho0, hb⟩; refine ⟨_, rfl, ?_⟩; have n0_ := zA (zRb (by (with_reducible repeat (first | apply zRa | apply zRn | apply zRd)); exact HO105.out) hb); have n1_ := zA (Kd.V_lower (Kd.V_mono (ok' := fun k_ => some k_ ≠ (v104 : Value).ownBlock ∧ k_ ≠ gb101) ho0 (fun k_ hk_ => ⟨(Kd.fresh' (Kd.R_lt (by (with_reducible repeat (first | apply zRa | apply zRn | apply zRd)); exact HO105.out)) k_ hk_), (Kd.freshB (g := gb101) (o := .cells #[.slice A0_0 l0_0.length c0_0, .slice A0_1 l0_1.length c0_1] 62 (0, 0)) (by (with_reducible repeat (first | refine zkn ?_ _ | refine zkd ?_ | refine zka ?_ _)); exact BK101.out) k_ hk_)⟩)) (zaj (by repeat (first | (with_reducible first | exact HB.out | apply zba | apply zbn | apply zbd | refine zaa ?_ GE101.out) | exact HB.out)))); have n2_ := zA (zad (g := gb101) (o := .cells #[.slice A0_0 l0_0.length c0_0, .slice A0_1 l0_1.length c0_1] 62 (0, 0)) (by (with_reducible repeat (first | refine zkn ?_ _ | refine zkd ?_ | refine zka ?_ _)); exact BK101.out) hb); have n3_ := zA (zai (by repeat (first | (with_reducible first | exact HB.out | apply zba | apply zbn | apply zbd | refine zaa ?_ GE101.out) | exact HB.out)) hb); clear HO105 BK101 HB; have HO105 := n0_; have HO108 := n1_; have BK101 := n2_; have HB := n3_; clear n0_ n1_ n2_ n3_; (try clear hb); (try clear hk); (try clear ho0); obtain ⟨Ao12, co12, eo12⟩ := Kd.V_slice HO108.out; subst eo12))
 go_loopg [6, 17] k (fun kq v6 v17 w' => ∃ (x6_1 : List Int) (x17_1 : Int), v17 = .int .i64 x17_1 ∧ Aside0 (za7 kq x6_1 t106 (t106.length : Int) x17_1 = some (r1, r2)) ∧ Aside0 (kq ≤ k) ∧ Aside0 (Kd.R (Kd.int .i64) 3 w' w.heap.size (fun _ => True) v6 x6_1) ∧ Aside0 (Kd.V (Kd.int .u8) 5 w' w.heap.size (fun k_ => some k_ ≠ (v6 : Value).ownBlock ∧ k_ ≠ gb101) (.slice Ao12 t106.length co12) t106) ∧ Aside0 (w'.heap[gb101]? = some (.cells #[(.slice A0_0 l0_0.length c0_0), (.slice A0_1 l0_1.length c0_1)] 62 (0, 0))) ∧ Aside0 (Below w.heap.size w w'))
 case atStart => exact ⟨(y103), (0), (by first | rfl | (simp; done) | (simp [*]; done)), H', ⟨zlr _⟩, ⟨by (with_reducible repeat (first | apply zRa | apply zRn | apply zRd)); exact HO105.out⟩, ⟨by (with_reducible repeat (first | apply Kd.V_alloc | apply Kd.V_drewN | apply Kd.V_drew)); exact HO108.out⟩, ⟨by (with_reducible repeat (first | refine zkn ?_ _ | refine zkd ?_ | refine zka ?_ _)); exact BK101.out⟩, ⟨by repeat (first | (with_reducible first | exact HB.out | apply zba | apply zbn | apply zbd | refine zaa ?_ GE101.out) | exact HB.out)⟩⟩
 clear H'
 try clear c1
 try clear p2
 try clear c4
 try clear c9
 try clear c10
 try clear hcz7_0
 try clear hcz7_1
 try clear hfz7_0
 try clear hfz7_1
 obtain ⟨x6_1, x17_1, rfl, HA, HK1, HO_6, HO_15, BK101, HB⟩ := hrel
 cases gk with
 | zero => exact absurd HA.out (by simp [za7])
 | succ k1 =>
 have H := HA.out
 clear HA
 simp only [za7] at H
 by_cases c13 : x17_1 < (t106.length : Int)
 rotate_left
 · rw [if_neg c13] at H
   have c13b0 : decide (x17_1 < (t106.length : Int)) = false := zdf c13
   clear c13
   simp only [Option.some.injEq, Prod.mk.injEq] at H
   obtain ⟨rfl, rfl⟩ := H
   go_wp2
   go_ret2
   exact ⟨_, by first | rfl | (simp <;> rfl) | (simp [*] <;> rfl), by (with_reducible repeat (first | apply zRa | apply zRn | apply zRd)); exact HO_6.out, by repeat (first | (with_reducible first | exact HB.out | apply zba | apply zbn | apply zbd | refine zaa ?_ GE101.out) | exact HB.out)⟩
 rw [if_pos c13] at H
 have c13b0 : decide (x17_1 < (t106.length : Int)) = true := zdt c13
 clear c13
 by_cases c14 : 0 ≤ x17_1
 rotate_left
 · rw [if_neg c14] at H
   exact absurd H (by simp)
 rw [if_pos c14] at H
 have c14b0 : decide (0 ≤ x17_1) = true := zdt c14
 clear c14
 by_cases c15 : x17_1 < (t106.length : Int)
 rotate_left
 · rw [if_neg c15] at H
   exact absurd H (by simp)
 rw [if_pos c15] at H
 have c15b0 : decide (x17_1 < (t106.length : Int)) = true := zdt c15
 clear c15
 by_cases c16 : x6_1.length < 17592186044416
 rotate_left
 · rw [if_neg c16] at H
   exact absurd H (by simp)
 rw [if_pos c16] at H
 have LMc16 := zA c16
 clear c16
 obtain ⟨y110, hy110⟩ : ∃ y_ : List Int, y_ = (x6_1 ++ [wrap64 (rd t106 x17_1)]) := ⟨_, rfl⟩
 replace H : (za7 k1 y110 t106 (t106.length : Int) (wrap64 (x17_1 + 1))) = some (r1, r2) := by first | (rw [hy110]; with_reducible exact H) | (have H2_ := (Option.bind_some _ _).symm.trans H; rw [hy110]; with_reducible exact H2_) | (have H2_ := (Option.bind_some _ _).symm.trans H; with_reducible exact H2_) | with_reducible exact H | (rw [hy110]; exact H) | exact H
 have Ny110 := zA hy110
 clear hy110
 have H' := zA H
 clear H
 have p109 : 0 ≤ (x17_1 : Int) := zde (by assumption)
 have q109 : x17_1 < (t106.length : Int) := zde (by assumption)
 obtain ⟨ad109, e109, hx109_0⟩ := Kd.at_int (Kd.V_reads' HO_15.out).2.2 x17_1 p109 q109
 cases e109
 replace p109 := eq_true p109
 replace q109 := eq_true q109
 go_wp2_with (first | ((with_reducible refine ze4 (b := .append) (xs := #[.tmp 21, .tmp 24]) rfl ?_); at_builtin; refine Kd.R_append (Kd.int .i64) (w0 := w) w.heap.size rfl (.tmp 21) (.tmp 24) 51 3 (.int .i64 0) 8 rfl Try.underlying51 zmd rfl (by decide) (by omega) u6 x6_1 (wrap64 (rd t106 x17_1)) [.int .i64 (wrap64 (rd t106 x17_1))] (fun _ => True) (fun _ => False) rfl rfl ?aP (fun _ hk => hk.elim) ?aF ?aO ?aB ?aS ?aL ?_; (case aP => exact rfl); (case aB => exact (by repeat (first | (with_reducible first | exact HB.out | apply zba | apply zbn | apply zbd | refine zaa ?_ GE101.out) | exact HB.out))); (case aF => exact (fun _ _ => trivial)); (case aO => exact (by (with_reducible repeat (first | apply zRa | apply zRn | apply zRd)); exact HO_6.out)); (case aS => exact (zaj (by repeat (first | (with_reducible first | exact HB.out | apply zba | apply zbn | apply zbd | refine zaa ?_ GE101.out) | exact HB.out)))); (case aL => have := LMc16.out; omega); intro v111 w17 ho hb hg hat; rw [← Ny110.out] at ho; have n0_ := zA (Kd.V_afterv (ok := (fun k_ => k_ ≠ gb101)) (by (with_reducible repeat (first | apply Kd.V_alloc | apply Kd.V_drewN | apply Kd.V_drew)); exact Kd.V_mono HO_15.out (fun _ hk => ⟨hk.2, hk.1⟩)) hg hat); have n1_ := zA (zjz (g := gb101) (o := .cells #[.slice A0_0 l0_0.length c0_0, .slice A0_1 l0_1.length c0_1] 62 (0, 0)) (by (with_reducible repeat (first | refine zkn ?_ _ | refine zkd ?_ | refine zka ?_ _)); exact BK101.out) hg (Kd.R_ne HO_6.out BK101.out (by decide))); have n2_ := zA (hb); have n3_ := zA (ho); clear HO_15 BK101; clear HB HO_6; have HO_15 := n0_; have BK101 := n1_; have HB := n2_; have HO112 := n3_; clear n0_ n1_ n2_ n3_; clear ho hb hg hat))
 go_roundg k1
 case measure => have := HK1.out; omega
 case rel => exact ⟨(y110), (wrap64 (x17_1 + 1)), (by first | rfl | (simp; done) | (simp [*]; done)), H', ⟨by have := HK1.out; omega⟩, ⟨by (with_reducible repeat (first | apply zRa | apply zRn | apply zRd)); exact HO112.out⟩, ⟨by (with_reducible repeat (first | apply Kd.V_alloc | apply Kd.V_drewN | apply Kd.V_drew)); exact Kd.V_mono HO_15.out (fun _ hk => ⟨hk.2, hk.1⟩)⟩, ⟨by (with_reducible repeat (first | refine zkn ?_ _ | refine zkd ?_ | refine zka ?_ _)); exact BK101.out⟩, ⟨by repeat (first | (with_reducible first | exact HB.out | apply zba | apply zbn | apply zbd | refine zaa ?_ GE101.out) | exact HB.out)⟩⟩
def zdc : Nat → List Int → List Int → Int → Option (Bool)
 | 0, _, _, _ => none
 | k + 1, x0, x1, x5 => if x5 < (x0.length : Int) then (if 0 ≤ x5 then (if x5 < (x1.length : Int) then (if (rd x0 x5) = (rd x1 x5) then (zdc k x0 x1 (wrap64 (x5 + 1))) else (some false)) else (none)) else (none)) else (some true)
def zau (k : Nat) (l0 : List Int) (l1 : List Int) : Option (Bool) := if (l0.length : Int) = (l1.length : Int) then (zdc k l0 l1 0) else (some false)
theorem zi4 : ∀ k, (∀ y0 y1 y2, LeO (zdc k y0 y1 y2) (zdc (k + 1) y0 y1 y2))
 | 0 => fun _ _ _ r h => by simp [zdc] at h
 | k + 1 => by
   have ih0 := zi4 k
   · intro y0 y1 y2
     unfold zdc
     repeat' first
     | (with_reducible first | exact ih0 _ _ _ | exact LeO.refl _ | exact LeO.none _ | refine zaf ?_ ?_ | refine LeO.bind ?_ (fun _ => ?_))
     | exact LeO.none _
     | refine zaf ?_ ?_
     | refine LeO.bind ?_ (fun _ => ?_)
theorem zfz : ∀ a0 a1 k, LeO (zau k a0 a1) (zau (k + 1) a0 a1) := by
 intro a0 a1 k
 have ih0 := zi4 k
 unfold zau
 repeat' first
     | (with_reducible first | exact ih0 _ _ _ | exact LeO.refl _ | exact LeO.none _ | refine zaf ?_ ?_ | refine LeO.bind ?_ (fun _ => ?_))
     | exact LeO.none _
     | refine zaf ?_ ?_
     | refine LeO.bind ?_ (fun _ => ?_)
set_option maxHeartbeats 8000000 in
set_option maxRecDepth 100000 in
theorem zd5 (k : Nat) (A0 : Option Addr) (c0 : Nat) (l0 : List Int) (A1 : Option Addr) (c1 : Nat) (l1 : List Int) (r : Bool) (w : World) (hr0 : Kd.C (Kd.int .i64) w A0 l0.length l0) (hc0 : l0.length ≤ c0) (hr1 : Kd.C (Kd.int .i64) w A1 l1.length l1) (hc1 : l1.length ≤ c1) (h : zau k l0 l1 = some r) :
   Calls Try.prog 38 #[.slice A0 l0.length c0, .slice A1 l1.length c1] w fun e w' => e = .returned (.bool r) ∧ Drawn0 w w' := by
 have HR0 := zA hr0
 have HC0 := zA hc0
 clear hr0 hc0
 have HR1 := zA hr1
 have HC1 := zA hc1
 clear hr1 hc1
 have H : (if (l0.length : Int) = (l1.length : Int) then (zdc k l0 l1 0) else (some false)) = some r := h
 clear h
 by_cases c3 : (l0.length : Int) = (l1.length : Int)
 rotate_left
 · rw [if_neg c3] at H
   have c3b0 : ((l0.length : Int) == (l1.length : Int)) = false := beq_eq_false_iff_ne.mpr c3
   have c3b1 : ((l0.length : Int) != (l1.length : Int)) = true := bne_iff_ne.mpr c3
   have c3b2 : (l0.length == l1.length) = false := by first | simpa using c3 | (simp at c3 ⊢; omega)
   obtain rfl := zsi H
   go_enter Try.func38, Try.ntmps38
   go_wp2
   repeat (go_quiet (fail); try go_wp2)
   go_ret
   exact ⟨by first | rfl | (simp; done) | (simp [*]; done), by repeat (first | exact Drawn0.refl _ | apply Drawn0.step)⟩
 rw [if_pos c3] at H
 have c3b0 : ((l0.length : Int) == (l1.length : Int)) = true := beq_iff_eq.mpr c3
 have c3b1 : ((l0.length : Int) != (l1.length : Int)) = false := bne_eq_false_iff_eq.mpr c3
 have c3b2 : (l0.length == l1.length) = true := by first | simpa using c3 | (simp at c3 ⊢; omega)
 clear c3
 have H' := zA H
 clear H
 go_enter Try.func38, Try.ntmps38
 go_wp2
 repeat (go_quiet (fail); try go_wp2)
 go_loopg [5] k (fun kq v5 w' => ∃ (x5_1 : Int), v5 = .int .i64 x5_1 ∧ Aside0 (zdc kq l0 l1 x5_1 = some r) ∧ Aside0 (kq ≤ k) ∧ Drawn0 w w')
 case atStart => exact ⟨(0), (by first | rfl | (simp; done) | (simp [*]; done)), H', ⟨zlr _⟩, by repeat (first | exact Drawn0.refl _ | apply Drawn0.step)⟩
 clear H'
 try clear c1
 try clear p2
 try clear c3
 try clear c3b0
 try clear c3b1
 try clear c3b2
 obtain ⟨x5_1, rfl, HA, HK1, ⟨m1, rfl⟩⟩ := hrel
 cases gk with
 | zero => exact absurd HA.out (by simp [zdc])
 | succ k1 =>
 have H := HA.out
 clear HA
 simp only [zdc] at H
 by_cases c4 : x5_1 < (l0.length : Int)
 rotate_left
 · rw [if_neg c4] at H
   have c4b0 : decide (x5_1 < (l0.length : Int)) = false := zdf c4
   clear c4
   obtain rfl := zsi H
   go_wp2
   repeat (go_quiet (fail); try go_wp2)
   go_ret
   exact ⟨by first | rfl | (simp; done) | (simp [*]; done), by repeat (first | exact Drawn0.refl _ | apply Drawn0.step)⟩
 rw [if_pos c4] at H
 have c4b0 : decide (x5_1 < (l0.length : Int)) = true := zdt c4
 clear c4
 by_cases c5 : 0 ≤ x5_1
 rotate_left
 · rw [if_neg c5] at H
   exact absurd H (by simp)
 rw [if_pos c5] at H
 have c5b0 : decide (0 ≤ x5_1) = true := zdt c5
 clear c5
 by_cases c6 : x5_1 < (l1.length : Int)
 rotate_left
 · rw [if_neg c6] at H
   exact absurd H (by simp)
 rw [if_pos c6] at H
 have c6b0 : decide (x5_1 < (l1.length : Int)) = true := zdt c6
 clear c6
 by_cases c7 : (rd l0 x5_1) = (rd l1 x5_1)
 rotate_left
 · rw [if_neg c7] at H
   have c7b0 : ((rd l0 x5_1) == (rd l1 x5_1)) = false := beq_eq_false_iff_ne.mpr c7
   have c7b1 : ((rd l0 x5_1) != (rd l1 x5_1)) = true := bne_iff_ne.mpr c7
   obtain rfl := zsi H
   have p101 : 0 ≤ (x5_1 : Int) := zde (by assumption)
   have q101 : x5_1 < (l0.length : Int) := zde (by assumption)
   obtain ⟨ad101, e101, hx101_0⟩ := Kd.at_int HR0.out x5_1 p101 q101
   cases e101
   replace p101 := eq_true p101
   replace q101 := eq_true q101
   have p102 : 0 ≤ (x5_1 : Int) := zde (by assumption)
   have q102 : x5_1 < (l1.length : Int) := zde (by assumption)
   obtain ⟨ad102, e102, hx102_0⟩ := Kd.at_int HR1.out x5_1 p102 q102
   cases e102
   replace p102 := eq_true p102
   replace q102 := eq_true q102
   go_wp2
   repeat (go_quiet (fail); try go_wp2)
   go_ret
   exact ⟨by first | rfl | (simp; done) | (simp [*]; done), by repeat (first | exact Drawn0.refl _ | apply Drawn0.step)⟩
 rw [if_pos c7] at H
 have c7b0 : ((rd l0 x5_1) == (rd l1 x5_1)) = true := beq_iff_eq.mpr c7
 have c7b1 : ((rd l0 x5_1) != (rd l1 x5_1)) = false := bne_eq_false_iff_eq.mpr c7
 clear c7
 have H' := zA H
 clear H
 have p101 : 0 ≤ (x5_1 : Int) := zde (by assumption)
 have q101 : x5_1 < (l0.length : Int) := zde (by assumption)
 obtain ⟨ad101, e101, hx101_0⟩ := Kd.at_int HR0.out x5_1 p101 q101
 cases e101
 replace p101 := eq_true p101
 replace q101 := eq_true q101
 have p102 : 0 ≤ (x5_1 : Int) := zde (by assumption)
 have q102 : x5_1 < (l1.length : Int) := zde (by assumption)
 obtain ⟨ad102, e102, hx102_0⟩ := Kd.at_int HR1.out x5_1 p102 q102
 cases e102
 replace p102 := eq_true p102
 replace q102 := eq_true q102
 go_wp2
 repeat (go_quiet (fail); try go_wp2)
 go_roundg k1
 case measure => have := HK1.out; omega
 case rel => exact ⟨(wrap64 (x5_1 + 1)), (by first | rfl | (simp; done) | (simp [*]; done)), H', ⟨by have := HK1.out; omega⟩, by repeat (first | exact Drawn0.refl _ | apply Drawn0.step)⟩
def zca : Nat → List ByteArray → List ByteArray → Int → Option (Bool)
 | 0, _, _, _ => none
 | k + 1, x0, x1, x5 => if x5 < (x0.length : Int) then (if 0 ≤ x5 then (if x5 < (x1.length : Int) then (if (rdOf ByteArray.empty x0 x5).toList = (rdOf ByteArray.empty x1 x5).toList then (zca k x0 x1 (wrap64 (x5 + 1))) else (some false)) else (none)) else (none)) else (some true)
def zek (k : Nat) (l0 : List ByteArray) (l1 : List ByteArray) : Option (Bool) := if (l0.length : Int) = (l1.length : Int) then (zca k l0 l1 0) else (some false)
theorem zhs : ∀ k, (∀ y0 y1 y2, LeO (zca k y0 y1 y2) (zca (k + 1) y0 y1 y2))
 | 0 => fun _ _ _ r h => by simp [zca] at h
 | k + 1 => by
   have ih0 := zhs k
   · intro y0 y1 y2
     unfold zca
     repeat' first
     | (with_reducible first | exact ih0 _ _ _ | exact LeO.refl _ | exact LeO.none _ | refine zaf ?_ ?_ | refine LeO.bind ?_ (fun _ => ?_))
     | exact LeO.none _
     | refine zaf ?_ ?_
     | refine LeO.bind ?_ (fun _ => ?_)
theorem zll : ∀ a0 a1 k, LeO (zek k a0 a1) (zek (k + 1) a0 a1) := by
 intro a0 a1 k
 have ih0 := zhs k
 unfold zek
 repeat' first
     | (with_reducible first | exact ih0 _ _ _ | exact LeO.refl _ | exact LeO.none _ | refine zaf ?_ ?_ | refine LeO.bind ?_ (fun _ => ?_))
     | exact LeO.none _
     | refine zaf ?_ ?_
     | refine LeO.bind ?_ (fun _ => ?_)
set_option maxHeartbeats 8000000 in
set_option maxRecDepth 100000 in
theorem zgx (k : Nat) (A0 : Option Addr) (c0 : Nat) (l0 : List ByteArray) (A1 : Option Addr) (c1 : Nat) (l1 : List ByteArray) (r : Bool) (w : World) (hr0 : Kd.C Kd.string w A0 l0.length l0) (hc0 : l0.length ≤ c0) (hr1 : Kd.C Kd.string w A1 l1.length l1) (hc1 : l1.length ≤ c1) (h : zek k l0 l1 = some r) :
   Calls Try.prog 100 #[.slice A0 l0.length c0, .slice A1 l1.length c1] w fun e w' => e = .returned (.bool r) ∧ Drawn0 w w' := by
 have HR0 := zA hr0
 have HC0 := zA hc0
 clear hr0 hc0
 have HR1 := zA hr1
 have HC1 := zA hc1
 clear hr1 hc1
 have H : (if (l0.length : Int) = (l1.length : Int) then (zca k l0 l1 0) else (some false)) = some r := h
 clear h
 by_cases c3 : (l0.length : Int) = (l1.length : Int)
 rotate_left
 · rw [if_neg c3] at H
   have c3b0 : ((l0.length : Int) == (l1.length : Int)) = false := beq_eq_false_iff_ne.mpr c3
   have c3b1 : ((l0.length : Int) != (l1.length : Int)) = true := bne_iff_ne.mpr c3
   have c3b2 : (l0.length == l1.length) = false := by first | simpa using c3 | (simp at c3 ⊢; omega)
   obtain rfl := zsi H
   go_enter Try.func100, Try.ntmps100
   go_wp2
   repeat (go_quiet (fail); try go_wp2)
   go_ret
   exact ⟨by first | rfl | (simp; done) | (simp [*]; done), by repeat (first | exact Drawn0.refl _ | apply Drawn0.step)⟩
 rw [if_pos c3] at H
 have c3b0 : ((l0.length : Int) == (l1.length : Int)) = true := beq_iff_eq.mpr c3
 have c3b1 : ((l0.length : Int) != (l1.length : Int)) = false := bne_eq_false_iff_eq.mpr c3
 have c3b2 : (l0.length == l1.length) = true := by first | simpa using c3 | (simp at c3 ⊢; omega)
 clear c3
 have H' := zA H
 clear H
 go_enter Try.func100, Try.ntmps100
 go_wp2
 repeat (go_quiet (fail); try go_wp2)
 go_loopg [5] k (fun kq v5 w' => ∃ (x5_1 : Int), v5 = .int .i64 x5_1 ∧ Aside0 (zca kq l0 l1 x5_1 = some r) ∧ Aside0 (kq ≤ k) ∧ Drawn0 w w')
 case atStart => exact ⟨(0), (by first | rfl | (simp; done) | (simp [*]; done)), H', ⟨zlr _⟩, by repeat (first | exact Drawn0.refl _ | apply Drawn0.step)⟩
 clear H'
 try clear c1
 try clear p2
 try clear c3
 try clear c3b0
 try clear c3b1
 try clear c3b2
 obtain ⟨x5_1, rfl, HA, HK1, ⟨m1, rfl⟩⟩ := hrel
 cases gk with
 | zero => exact absurd HA.out (by simp [zca])
 | succ k1 =>
 have H := HA.out
 clear HA
 simp only [zca] at H
 by_cases c4 : x5_1 < (l0.length : Int)
 rotate_left
 · rw [if_neg c4] at H
   have c4b0 : decide (x5_1 < (l0.length : Int)) = false := zdf c4
   clear c4
   obtain rfl := zsi H
   go_wp2
   repeat (go_quiet (fail); try go_wp2)
   go_ret
   exact ⟨by first | rfl | (simp; done) | (simp [*]; done), by repeat (first | exact Drawn0.refl _ | apply Drawn0.step)⟩
 rw [if_pos c4] at H
 have c4b0 : decide (x5_1 < (l0.length : Int)) = true := zdt c4
 clear c4
 by_cases c5 : 0 ≤ x5_1
 rotate_left
 · rw [if_neg c5] at H
   exact absurd H (by simp)
 rw [if_pos c5] at H
 have c5b0 : decide (0 ≤ x5_1) = true := zdt c5
 clear c5
 by_cases c6 : x5_1 < (l1.length : Int)
 rotate_left
 · rw [if_neg c6] at H
   exact absurd H (by simp)
 rw [if_pos c6] at H
 have c6b0 : decide (x5_1 < (l1.length : Int)) = true := zdt c6
 clear c6
 by_cases c7 : (rdOf ByteArray.empty l0 x5_1).toList = (rdOf ByteArray.empty l1 x5_1).toList
 rotate_left
 · rw [if_neg c7] at H
   have c7b0 : ((rdOf ByteArray.empty l0 x5_1).toList == (rdOf ByteArray.empty l1 x5_1).toList) = false := beq_eq_false_iff_ne.mpr c7
   have c7b1 : ((rdOf ByteArray.empty l0 x5_1).toList != (rdOf ByteArray.empty l1 x5_1).toList) = true := bne_iff_ne.mpr c7
   obtain rfl := zsi H
   have p101 : 0 ≤ (x5_1 : Int) := zde (by assumption)
   have q101 : x5_1 < (l0.length : Int) := zde (by assumption)
   obtain ⟨ad101, e101, hx101_0⟩ := Kd.at_string HR0.out x5_1 p101 q101
   cases e101
   replace p101 := eq_true p101
   replace q101 := eq_true q101
   have p102 : 0 ≤ (x5_1 : Int) := zde (by assumption)
   have q102 : x5_1 < (l1.length : Int) := zde (by assumption)
   obtain ⟨ad102, e102, hx102_0⟩ := Kd.at_string HR1.out x5_1 p102 q102
   cases e102
   replace p102 := eq_true p102
   replace q102 := eq_true q102
   go_wp2
   repeat (go_quiet (fail); try go_wp2)
   go_ret
   exact ⟨by first | rfl | (simp; done) | (simp [*]; done), by repeat (first | exact Drawn0.refl _ | apply Drawn0.step)⟩
 rw [if_pos c7] at H
 have c7b0 : ((rdOf ByteArray.empty l0 x5_1).toList == (rdOf ByteArray.empty l1 x5_1).toList) = true := beq_iff_eq.mpr c7
 have c7b1 : ((rdOf ByteArray.empty l0 x5_1).toList != (rdOf ByteArray.empty l1 x5_1).toList) = false := bne_eq_false_iff_eq.mpr c7
 clear c7
 have H' := zA H
 clear H
 have p101 : 0 ≤ (x5_1 : Int) := zde (by assumption)
 have q101 : x5_1 < (l0.length : Int) := zde (by assumption)
 obtain ⟨ad101, e101, hx101_0⟩ := Kd.at_string HR0.out x5_1 p101 q101
 cases e101
 replace p101 := eq_true p101
 replace q101 := eq_true q101
 have p102 : 0 ≤ (x5_1 : Int) := zde (by assumption)
 have q102 : x5_1 < (l1.length : Int) := zde (by assumption)
 obtain ⟨ad102, e102, hx102_0⟩ := Kd.at_string HR1.out x5_1 p102 q102
 cases e102
 replace p102 := eq_true p102
 replace q102 := eq_true q102
 go_wp2
 repeat (go_quiet (fail); try go_wp2)
 go_roundg k1
 case measure => have := HK1.out; omega
 case rel => exact ⟨(wrap64 (x5_1 + 1)), (by first | rfl | (simp; done) | (simp [*]; done)), H', ⟨by have := HK1.out; omega⟩, by repeat (first | exact Drawn0.refl _ | apply Drawn0.step)⟩
def zec (k : Nat) (l0_0 : List ByteArray) (l0_1 : List Int) (l1_0 : List ByteArray) (l1_1 : List Int) : Option (Bool) := (zek k l0_0 l1_0).bind fun t103 => (if t103 = true then ((zau k l0_1 l1_1).bind fun t104 => (if t104 = true then (some true) else (some false))) else (some false))
theorem zgb : ∀ a0 a1 a2 a3 k, LeO (zec k a0 a1 a2 a3) (zec (k + 1) a0 a1 a2 a3) := by
 intro a0 a1 a2 a3 k
 unfold zec
 repeat' first
     | (with_reducible first | exact zfz _ _ _ | exact zll _ _ _ | exact LeO.refl _ | exact LeO.none _ | refine zaf ?_ ?_ | refine LeO.bind ?_ (fun _ => ?_))
     | exact LeO.none _
     | refine zaf ?_ ?_
     | refine LeO.bind ?_ (fun _ => ?_)
set_option maxHeartbeats 8000000 in
set_option maxRecDepth 100000 in
theorem zg3 (k : Nat) (A0_0 : Option Addr) (c0_0 : Nat) (l0_0 : List ByteArray) (A0_1 : Option Addr) (c0_1 : Nat) (l0_1 : List Int) (A1_0 : Option Addr) (c1_0 : Nat) (l1_0 : List ByteArray) (A1_1 : Option Addr) (c1_1 : Nat) (l1_1 : List Int) (r : Bool) (w : World) (hr0_0 : Kd.C Kd.string w A0_0 l0_0.length l0_0) (hc0_0 : l0_0.length ≤ c0_0) (hr0_1 : Kd.C (Kd.int .i64) w A0_1 l0_1.length l0_1) (hc0_1 : l0_1.length ≤ c0_1) (hr1_0 : Kd.C Kd.string w A1_0 l1_0.length l1_0) (hc1_0 : l1_0.length ≤ c1_0) (hr1_1 : Kd.C (Kd.int .i64) w A1_1 l1_1.length l1_1) (hc1_1 : l1_1.length ≤ c1_1) (h : zec k l0_0 l0_1 l1_0 l1_1 = some r) :
   Calls Try.prog 45 #[.agg #[.slice A0_0 l0_0.length c0_0, .slice A0_1 l0_1.length c0_1], .agg #[.slice A1_0 l1_0.length c1_0, .slice A1_1 l1_1.length c1_1]] w fun e w' => e = .returned (.bool r) ∧ Below w.heap.size w w' := by
 have hu62 := Try.underlying62
 have HR0_0 := zA hr0_0
 have HC0_0 := zA hc0_0
 clear hr0_0 hc0_0
 have HR0_1 := zA hr0_1
 have HC0_1 := zA hc0_1
 clear hr0_1 hc0_1
 have HR1_0 := zA hr1_0
 have HC1_0 := zA hc1_0
 clear hr1_0 hc1_0
 have HR1_1 := zA hr1_1
 have HC1_1 := zA hc1_1
 clear hr1_1 hc1_1
 have HB := zA (Below.refl w.heap.size w)
 have H : ((zek k l0_0 l1_0).bind fun t103 => (if t103 = true then ((zau k l0_1 l1_1).bind fun t104 => (if t104 = true then (some true) else (some false))) else (some false))) = some r := h
 clear h
 replace H := zob H
 obtain ⟨t103, A30, H⟩ := H
 replace H : (if t103 = true then ((zau k l0_1 l1_1).bind fun t104 => (if t104 = true then (some true) else (some false))) else (some false)) = some r := H
 have A3 := zA A30
 clear A30
 by_cases c4 : t103 = true
 rotate_left
 · replace c4 := zbf c4
   subst c4
   replace H : (some false) = some r := by rw [if_neg (show ¬ (false = true) by decide)] at H; exact H
   obtain rfl := zsi H
   go_enter Try.func45, Try.ntmps45
   go_wp2_with (first | ((with_reducible refine zam (N := 2) rfl ?_); refine zak ?hg (N := 2) ?hd (cs := #[.slice A0_0 l0_0.length c0_0, .slice A0_1 l0_1.length c0_1]) (t := 62) ?hr ?_; (case hd => rfl); (case hg => rfl); (case hr => go_simp <;> rfl); intro gb101 hg w17 hbox hb; have zs := zpair (by repeat (first | (with_reducible first | exact HB.out | apply zba | apply zbn | apply zbd) | exact HB.out)) hb; have n0_ := zA (zs.1); have n1_ := zA (hbox); have n2_ := zA ((by rw [hg]; exact zs.2 : w.heap.size ≤ gb101)); have n3_ := n2_; clear HB; have HB := n0_; have BK101 := n1_; have GW101 := n2_; have GE101 := n3_; clear n0_ n1_ n2_ n3_; clear zs hb hbox hg) | ((with_reducible refine zam (N := 3) rfl ?_); refine zak ?hg (N := 3) ?hd (cs := #[.slice A1_0 l1_0.length c1_0, .slice A1_1 l1_1.length c1_1]) (t := 62) ?hr ?_; (case hd => rfl); (case hg => rfl); (case hr => go_simp <;> rfl); intro gb102 hg w18 hbox hb; have n0_ := zA (zad (g := gb101) (o := .cells #[.slice A0_0 l0_0.length c0_0, .slice A0_1 l0_1.length c0_1] 62 (0, 0)) (by (with_reducible repeat (first | refine zkn ?_ _ | refine zkd ?_ | refine zka ?_ _)); exact BK101.out) hb); have zs := zpair (by repeat (first | (with_reducible first | exact HB.out | apply zba | apply zbn | apply zbd | refine zaa ?_ GE101.out) | exact HB.out)) hb; have n1_ := zA (zs.1); have n2_ := zA (hbox); have n3_ := zA ((by rw [hg]; exact zs.2 : w.heap.size ≤ gb102)); have n4_ := n3_; have n5_ := zA ((by rw [hg]; exact Nat.ne_of_lt (zlt BK101.out (fun h => by (with_reducible repeat (first | refine zkn ?_ _ | refine zkd ?_ | refine zka ?_ _)); exact h)) : gb101 ≠ gb102)); have n6_ := zA (Ne.symm n5_.out); clear BK101 HB; have BK101 := n0_; have HB := n1_; have BK102 := n2_; have GW102 := n3_; have GE102 := n4_; have NB101_102 := n5_; have NB102_101 := n6_; clear n0_ n1_ n2_ n3_ n4_ n5_ n6_; clear zs hb hbox hg; have hnb19 := NB101_102.out; have hnc19 := NB102_101.out; obtain ⟨hcz20_0, hcz20_1⟩ := zc2 w18 (.slice A0_0 l0_0.length c0_0) (.slice A0_1 l0_1.length c0_1) BK101.out; obtain ⟨hfz20_0, hfz20_1⟩ := zf2 BK101.out; obtain ⟨hcz21_0, hcz21_1⟩ := zc2 w18 (.slice A1_0 l1_0.length c1_0) (.slice A1_1 l1_1.length c1_1) BK102.out; obtain ⟨hfz21_0, hfz21_1⟩ := zf2 BK102.out) | ((with_reducible refine zae (f := 100) rfl ?_); refine zaz (some 9) rfl rfl Try.func100 (by kernel_rfl) rfl #[.slice A0_0 l0_0.length c0_0, .slice A1_0 l1_0.length c1_0] rfl (by first | rfl | (simp only [zld, zle, zlf, zlg, zlh] <;> rfl)) ?_; (with_reducible refine (zgx k _ _ l0_0 _ _ l1_0 false _ ?side1 ?side2 ?side3 ?side4 A3.out).mono ?_); (case side1 => repeat (first | exact (zCb HR0_0.out HB.out) | (with_reducible first | refine zCa ?_ _ | refine zCn ?_ _ | refine zCd ?_))); (case side2 => exact HC0_0.out); (case side3 => repeat (first | exact (zCb HR1_0.out HB.out) | (with_reducible first | refine zCa ?_ _ | refine zCn ?_ _ | refine zCd ?_))); (case side4 => exact HC1_0.out); rintro e w' ⟨rfl, ⟨nd, rfl⟩⟩; refine ⟨_, rfl, ?_⟩))
   go_ret
   exact ⟨by first | rfl | (simp <;> rfl) | (simp [*] <;> rfl), by repeat (first | (with_reducible first | exact HB.out | apply zba | apply zbn | apply zbd | refine zaa ?_ GE101.out | refine zaa ?_ GE102.out) | exact HB.out)⟩
 subst c4
 replace H : ((zau k l0_1 l1_1).bind fun t104 => (if t104 = true then (some true) else (some false))) = some r := by rw [if_pos rfl] at H; exact H
 replace H := zob H
 obtain ⟨t104, A50, H⟩ := H
 replace H : (if t104 = true then (some true) else (some false)) = some r := H
 have A5 := zA A50
 clear A50
 by_cases c6 : t104 = true
 · subst c6
   replace H : (some true) = some r := by rw [if_pos rfl] at H; exact H
   obtain rfl := zsi H
   go_enter Try.func45, Try.ntmps45
   go_wp2_with (first | ((with_reducible refine zam (N := 2) rfl ?_); refine zak ?hg (N := 2) ?hd (cs := #[.slice A0_0 l0_0.length c0_0, .slice A0_1 l0_1.length c0_1]) (t := 62) ?hr ?_; (case hd => rfl); (case hg => rfl); (case hr => go_simp <;> rfl); intro gb101 hg w7 hbox hb; have zs := zpair (by repeat (first | (with_reducible first | exact HB.out | apply zba | apply zbn | apply zbd) | exact HB.out)) hb; have n0_ := zA (zs.1); have n1_ := zA (hbox); have n2_ := zA ((by rw [hg]; exact zs.2 : w.heap.size ≤ gb101)); have n3_ := n2_; clear HB; have HB := n0_; have BK101 := n1_; have GW101 := n2_; have GE101 := n3_; clear n0_ n1_ n2_ n3_; clear zs hb hbox hg) | ((with_reducible refine zam (N := 3) rfl ?_); refine zak ?hg (N := 3) ?hd (cs := #[.slice A1_0 l1_0.length c1_0, .slice A1_1 l1_1.length c1_1]) (t := 62) ?hr ?_; (case hd => rfl); (case hg => rfl); (case hr => go_simp <;> rfl); intro gb102 hg w8 hbox hb; have n0_ := zA (zad (g := gb101) (o := .cells #[.slice A0_0 l0_0.length c0_0, .slice A0_1 l0_1.length c0_1] 62 (0, 0)) (by (with_reducible repeat (first | refine zkn ?_ _ | refine zkd ?_ | refine zka ?_ _)); exact BK101.out) hb); have zs := zpair (by repeat (first | (with_reducible first | exact HB.out | apply zba | apply zbn | apply zbd | refine zaa ?_ GE101.out) | exact HB.out)) hb; have n1_ := zA (zs.1); have n2_ := zA (hbox); have n3_ := zA ((by rw [hg]; exact zs.2 : w.heap.size ≤ gb102)); have n4_ := n3_; have n5_ := zA ((by rw [hg]; exact Nat.ne_of_lt (zlt BK101.out (fun h => by (with_reducible repeat (first | refine zkn ?_ _ | refine zkd ?_ | refine zka ?_ _)); exact h)) : gb101 ≠ gb102)); have n6_ := zA (Ne.symm n5_.out); clear BK101 HB; have BK101 := n0_; have HB := n1_; have BK102 := n2_; have GW102 := n3_; have GE102 := n4_; have NB101_102 := n5_; have NB102_101 := n6_; clear n0_ n1_ n2_ n3_ n4_ n5_ n6_; clear zs hb hbox hg; have hnb9 := NB101_102.out; have hnc9 := NB102_101.out; obtain ⟨hcz10_0, hcz10_1⟩ := zc2 w8 (.slice A0_0 l0_0.length c0_0) (.slice A0_1 l0_1.length c0_1) BK101.out; obtain ⟨hfz10_0, hfz10_1⟩ := zf2 BK101.out; obtain ⟨hcz11_0, hcz11_1⟩ := zc2 w8 (.slice A1_0 l1_0.length c1_0) (.slice A1_1 l1_1.length c1_1) BK102.out; obtain ⟨hfz11_0, hfz11_1⟩ := zf2 BK102.out) | ((with_reducible refine zae (f := 100) rfl ?_); refine zaz (some 9) rfl rfl Try.func100 (by kernel_rfl) rfl #[.slice A0_0 l0_0.length c0_0, .slice A1_0 l1_0.length c1_0] rfl (by first | rfl | (simp only [zld, zle, zlf, zlg, zlh] <;> rfl)) ?_; (with_reducible refine (zgx k _ _ l0_0 _ _ l1_0 true _ ?side1 ?side2 ?side3 ?side4 A3.out).mono ?_); (case side1 => repeat (first | exact (zCb HR0_0.out HB.out) | (with_reducible first | refine zCa ?_ _ | refine zCn ?_ _ | refine zCd ?_))); (case side2 => exact HC0_0.out); (case side3 => repeat (first | exact (zCb HR1_0.out HB.out) | (with_reducible first | refine zCa ?_ _ | refine zCn ?_ _ | refine zCd ?_))); (case side4 => exact HC1_0.out); rintro e w' ⟨rfl, ⟨nd, rfl⟩⟩; refine ⟨_, rfl, ?_⟩) | ((with_reducible refine zae (f := 38) rfl ?_); refine zaz (some 15) rfl rfl Try.func38 (by kernel_rfl) rfl #[.slice A0_1 l0_1.length c0_1, .slice A1_1 l1_1.length c1_1] rfl (by first | rfl | (simp only [zld, zle, zlf, zlg, zlh] <;> rfl)) ?_; (with_reducible refine (zd5 k _ _ l0_1 _ _ l1_1 true _ ?side1 ?side2 ?side3 ?side4 A5.out).mono ?_); (case side1 => repeat (first | exact (zCb HR0_1.out (by repeat (first | (with_reducible first | exact HB.out | apply zba | apply zbn | apply zbd | refine zaa ?_ GE101.out | refine zaa ?_ GE102.out) | exact HB.out))) | (with_reducible first | refine zCa ?_ _ | refine zCn ?_ _ | refine zCd ?_))); (case side2 => exact HC0_1.out); (case side3 => repeat (first | exact (zCb HR1_1.out (by repeat (first | (with_reducible first | exact HB.out | apply zba | apply zbn | apply zbd | refine zaa ?_ GE101.out | refine zaa ?_ GE102.out) | exact HB.out))) | (with_reducible first | refine zCa ?_ _ | refine zCn ?_ _ | refine zCd ?_))); (case side4 => exact HC1_1.out); rintro e w' ⟨rfl, ⟨nd, rfl⟩⟩; refine ⟨_, rfl, ?_⟩))
   go_ret
   exact ⟨by first | rfl | (simp <;> rfl) | (simp [*] <;> rfl), by repeat (first | (with_reducible first | exact HB.out | apply zba | apply zbn | apply zbd | refine zaa ?_ GE101.out | refine zaa ?_ GE102.out) | exact HB.out)⟩
 replace c6 := zbf c6
 subst c6
 replace H : (some false) = some r := by rw [if_neg (show ¬ (false = true) by decide)] at H; exact H
 obtain rfl := zsi H
 go_enter Try.func45, Try.ntmps45
 go_wp2_with (first | ((with_reducible refine zam (N := 2) rfl ?_); refine zak ?hg (N := 2) ?hd (cs := #[.slice A0_0 l0_0.length c0_0, .slice A0_1 l0_1.length c0_1]) (t := 62) ?hr ?_; (case hd => rfl); (case hg => rfl); (case hr => go_simp <;> rfl); intro gb101 hg w12 hbox hb; have zs := zpair (by repeat (first | (with_reducible first | exact HB.out | apply zba | apply zbn | apply zbd) | exact HB.out)) hb; have n0_ := zA (zs.1); have n1_ := zA (hbox); have n2_ := zA ((by rw [hg]; exact zs.2 : w.heap.size ≤ gb101)); have n3_ := n2_; clear HB; have HB := n0_; have BK101 := n1_; have GW101 := n2_; have GE101 := n3_; clear n0_ n1_ n2_ n3_; clear zs hb hbox hg) | ((with_reducible refine zam (N := 3) rfl ?_); refine zak ?hg (N := 3) ?hd (cs := #[.slice A1_0 l1_0.length c1_0, .slice A1_1 l1_1.length c1_1]) (t := 62) ?hr ?_; (case hd => rfl); (case hg => rfl); (case hr => go_simp <;> rfl); intro gb102 hg w13 hbox hb; have n0_ := zA (zad (g := gb101) (o := .cells #[.slice A0_0 l0_0.length c0_0, .slice A0_1 l0_1.length c0_1] 62 (0, 0)) (by (with_reducible repeat (first | refine zkn ?_ _ | refine zkd ?_ | refine zka ?_ _)); exact BK101.out) hb); have zs := zpair (by repeat (first | (with_reducible first | exact HB.out | apply zba | apply zbn | apply zbd | refine zaa ?_ GE101.out) | exact HB.out)) hb; have n1_ := zA (zs.1); have n2_ := zA (hbox); have n3_ := zA ((by rw [hg]; exact zs.2 : w.heap.size ≤ gb102)); have n4_ := n3_; have n5_ := zA ((by rw [hg]; exact Nat.ne_of_lt (zlt BK101.out (fun h => by (with_reducible repeat (first | refine zkn ?_ _ | refine zkd ?_ | refine zka ?_ _)); exact h)) : gb101 ≠ gb102)); have n6_ := zA (Ne.symm n5_.out); clear BK101 HB; have BK101 := n0_; have HB := n1_; have BK102 := n2_; have GW102 := n3_; have GE102 := n4_; have NB101_102 := n5_; have NB102_101 := n6_; clear n0_ n1_ n2_ n3_ n4_ n5_ n6_; clear zs hb hbox hg; have hnb14 := NB101_102.out; have hnc14 := NB102_101.out; obtain ⟨hcz15_0, hcz15_1⟩ := zc2 w13 (.slice A0_0 l0_0.length c0_0) (.slice A0_1 l0_1.length c0_1) BK101.out; obtain ⟨hfz15_0, hfz15_1⟩ := zf2 BK101.out; obtain ⟨hcz16_0, hcz16_1⟩ := zc2 w13 (.slice A1_0 l1_0.length c1_0) (.slice A1_1 l1_1.length c1_1) BK102.out; obtain ⟨hfz16_0, hfz16_1⟩ := zf2 BK102.out) | ((with_reducible refine zae (f := 100) rfl ?_); refine zaz (some 9) rfl rfl Try.func100 (by kernel_rfl) rfl #[.slice A0_0 l0_0.length c0_0, .slice A1_0 l1_0.length c1_0] rfl (by first | rfl | (simp only [zld, zle, zlf, zlg, zlh] <;> rfl)) ?_; (with_reducible refine (zgx k _ _ l0_0 _ _ l1_0 true _ ?side1 ?side2 ?side3 ?side4 A3.out).mono ?_); (case side1 => repeat (first | exact (zCb HR0_0.out HB.out) | (with_reducible first | refine zCa ?_ _ | refine zCn ?_ _ | refine zCd ?_))); (case side2 => exact HC0_0.out); (case side3 => repeat (first | exact (zCb HR1_0.out HB.out) | (with_reducible first | refine zCa ?_ _ | refine zCn ?_ _ | refine zCd ?_))); (case side4 => exact HC1_0.out); rintro e w' ⟨rfl, ⟨nd, rfl⟩⟩; refine ⟨_, rfl, ?_⟩) | ((with_reducible refine zae (f := 38) rfl ?_); refine zaz (some 15) rfl rfl Try.func38 (by kernel_rfl) rfl #[.slice A0_1 l0_1.length c0_1, .slice A1_1 l1_1.length c1_1] rfl (by first | rfl | (simp only [zld, zle, zlf, zlg, zlh] <;> rfl)) ?_; (with_reducible refine (zd5 k _ _ l0_1 _ _ l1_1 false _ ?side1 ?side2 ?side3 ?side4 A5.out).mono ?_); (case side1 => repeat (first | exact (zCb HR0_1.out (by repeat (first | (with_reducible first | exact HB.out | apply zba | apply zbn | apply zbd | refine zaa ?_ GE101.out | refine zaa ?_ GE102.out) | exact HB.out))) | (with_reducible first | refine zCa ?_ _ | refine zCn ?_ _ | refine zCd ?_))); (case side2 => exact HC0_1.out); (case side3 => repeat (first | exact (zCb HR1_1.out (by repeat (first | (with_reducible first | exact HB.out | apply zba | apply zbn | apply zbd | refine zaa ?_ GE101.out | refine zaa ?_ GE102.out) | exact HB.out))) | (with_reducible first | refine zCa ?_ _ | refine zCn ?_ _ | refine zCd ?_))); (case side4 => exact HC1_1.out); rintro e w' ⟨rfl, ⟨nd, rfl⟩⟩; refine ⟨_, rfl, ?_⟩))
 go_ret
 exact ⟨by first | rfl | (simp <;> rfl) | (simp [*] <;> rfl), by repeat (first | (with_reducible first | exact HB.out | apply zba | apply zbn | apply zbd | refine zaa ?_ GE101.out | refine zaa ?_ GE102.out) | exact HB.out)⟩
end Go.Proofs.Ytccoiifklcgodaa.Q
end
