/- Proved here: contracts of functions that the law FnSchedules reaches, and lemmas on what they compute; texts of this session and the printed words of the kit that they lean on, cut down and put together by its program link.py. Conditions: as each states. -/
import Derived.Below
import Derived.Deep.Draws
import Derived.LoopIn
import Derived.LoopNIn
import Derived.Maps.OwnOps
import Derived.Maps.Views
import Derived.OwnWalkIn
import Derived.RangeFuncBound
import Derived.RangeFuncCalls
import Derived.RangeFuncLeaves
import Derived.RangeFuncNested
import Derived.Shelf.Abstract
import Derived.Shelf.RegionOpen
import Derived.TacticsInMore
import Derived.Test.YtabnafbgcpchdaaGreatZFnSchedulesXLast
import Derived.WalkKit
import Derived.Test.YtabnafbgcpchdaaGreatZFnSchedules1
section
namespace Go.Proofs.YtabnafbgcpchdaaGreat.Q
open Go.RowKit Go.Proofs.YtabnafbgcpchdaaGreatW.PrintWords Go.Proofs.YtabnafbgcpchdaaGreatW.PrintLast Go.Proofs.YtabnafbgcpchdaaGreatW.PrintMore
set_option maxHeartbeats 8000000
set_option maxRecDepth 100000
attribute [local go_sem] zk3 zk4 zmp zmq zjg zjh zk5 zk6
set_option linter.unusedVariables false
set_option linter.unusedSimpArgs false
def okF (f : Bool × Bool × Int × Int × Int × ByteArray × Bool) (d a b m : Int) : Bool := f.2.2.2.2.2.2 && (decide (0 ≤ d ∧ d ≤ 5) && ((f.1 && decide (0 ≤ a ∧ a ≤ 5) || decide (a = 0)) && ((f.2.1 && decide (0 ≤ b ∧ b ≤ 5) || decide (b = 0)) && (decide (f.2.2.1 ≤ f.2.2.2.1) && decide (f.2.2.1 ≤ m ∧ m ≤ f.2.2.2.1) || !decide (f.2.2.1 ≤ f.2.2.2.1) && decide (m = 0)))))
def zkp (a0_0 : ByteArray) (a0_1 : Int) (a0_2 : Int) (a0_3 : Int) (a0_4 : Int) : Option (Bool) := some (okF (znw (cls a0_0) a0_0) a0_1 a0_2 a0_3 a0_4)
theorem zv9 (a b c : Int) : zf7 a b c = some (decide (b ≤ a ∧ a ≤ c)) := by
 unfold zf7
 by_cases h : b ≤ a <;> simp [h]
theorem ycr (a : Int) : zi1 a = some (decide (0 ≤ a ∧ a ≤ 5)) := by
 unfold zi1
 rw [zv9]; rfl
theorem ydp (u : Bool) (r : Int) : zmy u r = some (u && decide (0 ≤ r ∧ r ≤ 5) || decide (r = 0)) := by
 unfold zmy
 rw [ycr]
 cases u <;> by_cases h : 0 ≤ r ∧ r ≤ 5 <;> simp [h] <;> rfl
theorem zvb {w : World} {g : Nat} {a b c d e : Value} (h : w.heap[g]? = some (.cells #[a, b, c, d, e] 55 (0, 0))) : w.cell? ⟨g, 0, none⟩ = some a ∧ w.cell? ⟨g, 1, none⟩ = some b ∧ w.cell? ⟨g, 2, none⟩ = some c ∧ w.cell? ⟨g, 3, none⟩ = some d ∧ w.cell? ⟨g, 4, none⟩ = some e :=
 ⟨(zad h 0).trans rfl, (zad h 1).trans rfl, (zad h 2).trans rfl, (zad h 3).trans rfl, (zad h 4).trans rfl⟩
theorem zre (a0_0 : ByteArray) (a0_1 : Int) (a0_2 : Int) (a0_3 : Int) (a0_4 : Int) (r : Bool) (w : World) (h : zkp a0_0 a0_1 a0_2 a0_3 a0_4 = some r) :
   Calls Tryz.prog 109 #[.agg #[.string a0_0, .int .i64 a0_1, .int .i64 a0_2, .int .i64 a0_3, .int .i64 a0_4]] w fun e w' => e = .returned (.bool r) ∧ Below w.heap.size w w' := by
 obtain ⟨fa, fb, lo, hi, co, op, ok, hf⟩ : ∃ fa fb lo hi co op ok, znw (cls a0_0) a0_0 = (fa, fb, lo, hi, co, op, ok) := ⟨_, _, _, _, _, _, _, rfl⟩
 unfold zkp at h
 rw [hf] at h
 obtain rfl := zsi h
 have H := zA (show zj7 a0_0 = some (fa, fb, lo, hi, co, op, ok) from congrArg some hf)
 clear hf h
 obtain ⟨rv, hrv⟩ : ∃ rv, rv = okF (fa, fb, lo, hi, co, op, ok) a0_1 a0_2 a0_3 a0_4 := ⟨_, rfl⟩
 rw [← hrv]
 have RV := zA hrv
 clear hrv
 go_enter Tryz.func109, Tryz.ntmps109
 go_wp2_with fail
 refine (zl9 _ _ _ _ _ _ _ _ _ H.out).mono ?_
 rintro e w1 ⟨rfl, hb⟩
 have B0 := zar (heap_alloc_new w _) hb
 have HB := ((Below.refl w.heap.size w).alloc (zlr _) _).trans (hb.mono (by simp))
 obtain ⟨c0, c1, c2, c3, c4⟩ := zvb B0
 have hz := zix B0
 clear hb
 go_wp2_with fail
 refine (znc fa fb lo hi co op (decide (lo ≤ hi)) _ rfl).mono ?_
 rintro e w2 ⟨rfl, hb2⟩
 have B2 := zar (zka B0 _) hb2
 have B3 := zar (heap_alloc_new w1 _) hb2
 have HB2 := (HB.alloc (Nat.le_of_lt hz) _).trans (hb2.mono zq59)
 have hz2 := zix B3
 clear c0 c1 c2 c3 c4
 obtain ⟨c0, c1, c2, c3, c4⟩ := zvb B2
 obtain ⟨d0, d1, d2, d3, d4, d5, -⟩ := zdk B3
 have Z2 := zA hz2
 have Z := zA hz
 have A2 := zA B2
 have A3 := zA B3
 have AB := zA HB2
 clear hb2 HB HB2 B2 B3 B0 hz hz2
 go_wp2_with (first | (go_at_call 78; refine (zgu _ _ _ _ _ (zv9 _ _ _)).mono ?_; rintro e w' ⟨rfl, ⟨nd, rfl⟩⟩) | (go_at_call 133; refine (zjv _ _ _ (ycr _)).mono ?_; rintro e w' ⟨rfl, ⟨nd, rfl⟩⟩) | (go_at_call 134; refine (zsf _ _ _ _ (ydp _ _)).mono ?_; rintro e w' ⟨rfl, ⟨nd, rfl⟩⟩) | (go_at_call 132; refine (znc fa fb lo hi co op (decide (lo ≤ hi)) _ rfl).mono ?_; rintro e w3 ⟨rfl, hb3⟩; (first | (have B4 := zar (o := .cells #[.string a0_0, .int .i64 a0_1, .int .i64 a0_2, .int .i64 a0_3, .int .i64 a0_4] 55 (0, 0)) A2.out hb3; have B5 := zar (o := .cells #[.bool fa, .bool fb, .int .i64 lo, .int .i64 hi, .int .i64 co, .string op] 97 (0, 0)) A3.out hb3; have AB3 := zA (AB.out.trans (hb3.mono (show w.heap.size ≤ w2.heap.size by have := Z2.out; have := Z.out; omega)))) | (have B4 := zar (o := .cells #[.string a0_0, .int .i64 a0_1, .int .i64 a0_2, .int .i64 a0_3, .int .i64 a0_4] 55 (0, 0)) (zkn A2.out _) hb3; have B5 := zar (o := .cells #[.bool fa, .bool fb, .int .i64 lo, .int .i64 hi, .int .i64 co, .string op] 97 (0, 0)) (zkn A3.out _) hb3; have AB3 := zA ((zbn AB.out _).trans (hb3.mono (show w.heap.size ≤ w2.heap.size by have := Z2.out; have := Z.out; omega))))); clear c0 c1 c2 c3 c4 d0 d1 d2 d3 d4 d5 AB hb3; obtain ⟨c0, c1, c2, c3, c4⟩ := zvb B4; obtain ⟨d0, d1, d2, d3, d4, d5, -⟩ := zdk B5; have AB := AB3; clear B4 B5 AB3))
 all_goals go_ret
 all_goals refine ⟨?_, by repeat (first | (with_reducible first | exact AB.out | apply zbn | apply zbd) | exact AB.out)⟩
 all_goals clear A2 A3 AB Z Z2
 all_goals (rw [RV.out]; clear RV H)
 all_goals refine congrArg (fun b => Ending.returned (.bool b)) ?_
 all_goals (rw [Bool.eq_iff_iff]; simp only [okF, Bool.and_eq_true, Bool.or_eq_true, decide_eq_true_eq, Bool.not_eq_true', decide_eq_false_iff_not, beq_iff_eq, Bool.false_eq_true])
 all_goals (cases fa <;> cases fb <;> cases ok <;> simp_all <;> omega)
def zjw (a0_0 : ByteArray) (a0_1 : Int) (a0_2 : Int) (a0_3 : Int) (a0_4 : Int) : Option (Bool) := (zkp a0_0 a0_1 a0_2 a0_3 a0_4).bind fun t102 => (some (!t102))
theorem znd (a0_0 : ByteArray) (a0_1 : Int) (a0_2 : Int) (a0_3 : Int) (a0_4 : Int) (r : Bool) (w : World) (h : zjw a0_0 a0_1 a0_2 a0_3 a0_4 = some r) :
   Calls Tryz.prog 108 #[.agg #[.string a0_0, .int .i64 a0_1, .int .i64 a0_2, .int .i64 a0_3, .int .i64 a0_4]] w fun e w' => e = .returned (.bool r) ∧ Below w.heap.size w w' := by
 have hu55 := Tryz.underlying55
 have HB := zA (Below.refl w.heap.size w)
 have H := h
 unfold zjw at H
 clear h
 replace H := zob H
 obtain ⟨t102, A20, H⟩ := H
 have A2 := zA A20
 clear A20
 obtain rfl := zsi H
 go_enter Tryz.func108, Tryz.ntmps108
 go_wp2_with (first | ((with_reducible refine zgd 1 ?_); refine zbh zq1 #[.string a0_0, .int .i64 a0_1, .int .i64 a0_2, .int .i64 a0_3, .int .i64 a0_4] 55 ?_; clear HB; intro gb101 w3 HB BK101 GW101; have GE101 := GW101; obtain ⟨hcz4_0, hcz4_1, hcz4_2, hcz4_3, hcz4_4, hfz4_0, hfz4_1, hfz4_2, hfz4_3, hfz4_4⟩ := zd5 BK101) | ((with_reducible refine zgc 109 ?_); refine zcl 4 Tryz.func109 (zre a0_0 a0_1 a0_2 a0_3 a0_4 t102 _ A2.out) ?_; rintro e w5 ⟨rfl, hb⟩; refine ⟨_, rfl, ?_⟩; replace BK101 := zbb BK101 hb; replace HB := zA (zab (zq10 GE101) hb); (try clear hb)))
 go_ret
 exact ⟨zq5, zq10 GE101⟩
def zay : Nat → List (S55) → Int → Int → Option (Int)
 | 0, _, _, _ => none
 | k + 1, x0, x7, x8 => if x8 < x7 then (if 0 ≤ x8 then (if x8 < (x0.length : Int) then ((zjw ((zaa x0 x8).f0) ((zaa x0 x8).f1) ((zaa x0 x8).f2) ((zaa x0 x8).f3) ((zaa x0 x8).f4)).bind fun t102 => (if t102 = true then (some x8) else (zay k x0 x7 (wrap64 (x8 + 1))))) else (none)) else (none)) else (some (-1))
def zb2 (k : Nat) (l0 : List (S55)) : Option (Int) := zay k l0 (l0.length : Int) 0
theorem zho : ∀ k, (∀ y0 y1 y2, LeO (zay k y0 y1 y2) (zay (k + 1) y0 y1 y2))
 | 0 => fun _ _ _ r h => by simp [zay] at h
 | k + 1 => by
   have ih0 := zho k
   · intro y0 y1 y2
     unfold zay
     exact zm1 ih0
theorem zk8 : ∀ a0 k, LeO (zb2 k a0) (zb2 (k + 1) a0) := by
 intro a0 k
 have ih0 := zho k
 unfold zb2
 exact zm1 ih0
theorem zkq (k : Nat) (A0 : Option Addr) (c0 : Nat) (l0 : List (S55)) (r : Int) (w : World) (hr0 : Kd.C k55 w A0 l0.length l0) (hc0 : l0.length ≤ c0) (h : zb2 k l0 = some r) :
   Calls Tryz.prog 131 #[.slice A0 l0.length c0, .func (Fn.func 108) #[] #[]] w fun e w' => e = .returned (.int .i64 r) ∧ Below w.heap.size w w' := by
 have hu55 := Tryz.underlying55
 have HR0 := zA hr0
 have HC0 := zA hc0
 clear hr0 hc0
 have HB := zA (Below.refl w.heap.size w)
 have H := h
 unfold zb2 at H
 clear h
 have H' := zA H
 clear H
 go_enter Tryz.func131, Tryz.ntmps131
 go_wp2
 go_loopg [8] k (fun kq v8 w' => ∃ (x8_1 : Int), v8 = .int .i64 x8_1 ∧ Aside0 (zay kq l0 (l0.length : Int) x8_1 = some r) ∧ Aside0 (kq ≤ k) ∧ Aside0 (Below w.heap.size w w'))
 case atStart => exact ⟨(0), zq7, H', ⟨zlr _⟩, ⟨zq1⟩⟩
 clear H'
 obtain ⟨x8_1, rfl, HA, HK1, HB⟩ := hrel
 cases gk with
 | zero => exact absurd HA.out (by simp [zay])
 | succ k1 =>
 have H := HA.out
 clear HA
 simp only [zay] at H
 revert H
 refine zit (fun c2 H => ?_) fun c2 H => ?_
 rotate_left
 · obtain rfl := zsi H
   go_wp2
   exact zr_2
 revert H
 refine zin fun c3 H => ?_
 revert H
 refine zin fun c4 H => ?_
 replace H := zob H
 obtain ⟨t102, A50, H⟩ := H
 have A5 := zA A50
 clear A50
 by_cases c6 : t102 = true
 · subst c6
   replace H := zih H
   obtain rfl := zsi H
   obtain ⟨p101, q101⟩ := zpq x8_1 l0.length
   obtain ⟨ad101, e101, hx101_0, hx101_1, hx101_2, hx101_3, hx101_4⟩ := zld HR0.out x8_1 (zoe p101) (zoe q101)
   cases e101
   replace hx101_0 := zkep HB.out hx101_0
   replace hx101_1 := zkep HB.out hx101_1
   replace hx101_2 := zkep HB.out hx101_2
   replace hx101_3 := zkep HB.out hx101_3
   replace hx101_4 := zkep HB.out hx101_4
   go_wp2_with (first | (go_at_call 108; (with_reducible refine (znd ((zaa l0 x8_1).f0) ((zaa l0 x8_1).f1) ((zaa l0 x8_1).f2) ((zaa l0 x8_1).f3) ((zaa l0 x8_1).f4) true _ A5.out).mono ?_); rintro e w7 ⟨rfl, hb⟩; replace HB := zA (zab zq1 hb); (try clear hb)))
   exact zr_2
 replace c6 := zbf c6
 subst c6
 replace H := zif H
 have H' := zA H
 clear H
 obtain ⟨p101, q101⟩ := zpq x8_1 l0.length
 obtain ⟨ad101, e101, hx101_0, hx101_1, hx101_2, hx101_3, hx101_4⟩ := zld HR0.out x8_1 (zoe p101) (zoe q101)
 cases e101
 replace hx101_0 := zkep HB.out hx101_0
 replace hx101_1 := zkep HB.out hx101_1
 replace hx101_2 := zkep HB.out hx101_2
 replace hx101_3 := zkep HB.out hx101_3
 replace hx101_4 := zkep HB.out hx101_4
 go_wp2_with (first | (go_at_call 108; (with_reducible refine (znd ((zaa l0 x8_1).f0) ((zaa l0 x8_1).f1) ((zaa l0 x8_1).f2) ((zaa l0 x8_1).f3) ((zaa l0 x8_1).f4) false _ A5.out).mono ?_); rintro e w8 ⟨rfl, hb⟩; replace HB := zA (zab zq1 hb); (try clear hb)))
 go_roundg k1
 case measure => have := HK1.out; omega
 case rel => exact ⟨(wrap64 (x8_1 + 1)), zq7, H', ⟨zq51 HK1⟩, ⟨zq1⟩⟩
def zb4 (k : Nat) (l0 : List (S55)) : Option (Bool) := (zb2 k l0).bind fun t101 => (some (decide (t101 ≥ 0)))
theorem zj8 : ∀ a0 k, LeO (zb4 k a0) (zb4 (k + 1) a0) := by
 intro a0 k
 unfold zb4
 exact zm1 zk8
theorem zjx (k : Nat) (A0 : Option Addr) (c0 : Nat) (l0 : List (S55)) (r : Bool) (w : World) (hr0 : Kd.C k55 w A0 l0.length l0) (hc0 : l0.length ≤ c0) (h : zb4 k l0 = some r) :
   Calls Tryz.prog 107 #[.slice A0 l0.length c0, .func (Fn.func 108) #[] #[]] w fun e w' => e = .returned (.bool r) ∧ Below w.heap.size w w' := by
 have HR0 := zA hr0
 have HC0 := zA hc0
 clear hr0 hc0
 have HB := zA (Below.refl w.heap.size w)
 have H := h
 unfold zb4 at H
 clear h
 replace H := zob H
 obtain ⟨t101, A20, H⟩ := H
 have A2 := zA A20
 clear A20
 obtain rfl := zsi H
 go_enter Tryz.func107, Tryz.ntmps107
 go_wp2_with (first | ((with_reducible refine zgc 131 ?_); refine zca 7 Tryz.func131 #[.slice A0 l0.length c0, .func (Fn.func 108) #[] #[]] (zkq k _ _ l0 t101 _ (zq15 HR0) HC0.out A2.out) ?_; rintro e w3 ⟨rfl, hb⟩; refine ⟨_, rfl, ?_⟩; replace HB := zA (zab zq1 hb); (try clear hb)))
 exact zr_2
def zik (k : Nat) (l0 : List (S55)) : Option (Bool) := if (l0.length : Int) ≤ 40 then ((zb4 k l0).bind fun t101 => (some (!t101))) else (some false)
theorem zs4 : ∀ a0 k, LeO (zik k a0) (zik (k + 1) a0) := by
 intro a0 k
 unfold zik
 exact zm1 zj8
theorem zoj (k : Nat) (A0 : Option Addr) (c0 : Nat) (l0 : List (S55)) (r : Bool) (w : World) (hr0 : Kd.C k55 w A0 l0.length l0) (hc0 : l0.length ≤ c0) (h : zik k l0 = some r) :
   Calls Tryz.prog 55 #[.slice A0 l0.length c0] w fun e w' => e = .returned (.bool r) ∧ Below w.heap.size w w' := by
 have HR0 := zA hr0
 have HC0 := zA hc0
 clear hr0 hc0
 have HB := zA (Below.refl w.heap.size w)
 have H := h
 unfold zik at H
 clear h
 by_cases c2 : (l0.length : Int) ≤ 40
 · rw [if_pos c2] at H
   have c2b0 := zdt c2
   have c2b1 : decide (l0.length ≤ 40) = true := zdt (by omega)
   clear c2
   replace H := zob H
   obtain ⟨t101, A30, H⟩ := H
   have A3 := zA A30
   clear A30
   obtain rfl := zsi H
   go_enter Tryz.func55, Tryz.ntmps55
   go_wp2_with (first | (go_at_call 107; (with_reducible refine (zjx k _ _ l0 t101 _ ?side1 ?side2 A3.out).mono ?_); (case side1 => repeat (first | exact HR0.out | (with_reducible first | refine zCa ?_ _ | refine zCn ?_ _ | refine zCd ?_))); (case side2 => exact HC0.out); rintro e w4 ⟨rfl, hb⟩; replace HB := zA (zab zq1 hb); (try clear hb)))
   exact zr_2
 · rw [if_neg c2] at H
   have c2b0 := zdf c2
   have c2b1 : decide (l0.length ≤ 40) = false := zdf (by omega)
   clear c2
   obtain rfl := zsi H
   go_enter Tryz.func55, Tryz.ntmps55
   go_wp2
   exact zr_2
def zdu (k : Nat) (l0 : List (S55)) : Option (Bool) := (zik k l0).bind fun t101 => (if t101 = true then (some (decide ((l0.length : Int) ≤ 20))) else (some false))
theorem zcg : ∀ a0 k, LeO (zdu k a0) (zdu (k + 1) a0) := by
 intro a0 k
 unfold zdu
 exact zm1 zs4
theorem zbc (k : Nat) (A0 : Option Addr) (c0 : Nat) (l0 : List (S55)) (r : Bool) (w : World) (hr0 : Kd.C k55 w A0 l0.length l0) (hc0 : l0.length ≤ c0) (h : zdu k l0 = some r) :
   Calls Tryz.prog 51 #[.slice A0 l0.length c0] w fun e w' => e = .returned (.bool r) ∧ Below w.heap.size w w' := by
 have HR0 := zA hr0
 have HC0 := zA hc0
 clear hr0 hc0
 have HB := zA (Below.refl w.heap.size w)
 have H := h
 unfold zdu at H
 clear h
 replace H := zob H
 obtain ⟨t101, A20, H⟩ := H
 have A2 := zA A20
 clear A20
 by_cases c3 : t101 = true
 · subst c3
   replace H := zih H
   obtain rfl := zsi H
   go_enter Tryz.func51, Tryz.ntmps51
   go_wp2_with (first | ((with_reducible refine zgc 55 ?_); refine zca 4 Tryz.func55 #[.slice A0 l0.length c0] (zoj k _ _ l0 true _ (zq15 HR0) HC0.out A2.out) ?_; rintro e w4 ⟨rfl, hb⟩; refine ⟨_, rfl, ?_⟩; replace HB := zA (zab zq1 hb); (try clear hb)))
   exact zr_2
 replace c3 := zbf c3
 subst c3
 replace H := zif H
 obtain rfl := zsi H
 go_enter Tryz.func51, Tryz.ntmps51
 go_wp2_with (first | ((with_reducible refine zgc 55 ?_); refine zca 4 Tryz.func55 #[.slice A0 l0.length c0] (zoj k _ _ l0 false _ (zq15 HR0) HC0.out A2.out) ?_; rintro e w5 ⟨rfl, hb⟩; refine ⟨_, rfl, ?_⟩; replace HB := zA (zab zq1 hb); (try clear hb)))
 exact zr_2
def zfx (k : Nat) (l0 : List (S55)) : Option (List Int × Bool) := (zdu k l0).bind fun t101 => (if t101 = true then ((zf4 k l0).bind fun t102 => (some (t102, true))) else (some (([] : List Int), false)))
theorem zxg : ∀ a0 k, LeO (zfx k a0) (zfx (k + 1) a0) := by
 intro a0 k
 unfold zfx
 exact zm2 zij zcg
theorem zpn (k : Nat) (A0 : Option Addr) (c0 : Nat) (l0 : List (S55)) (r1 : List Int) (r2 : Bool) (w : World) (hr0 : Kd.C k55 w A0 l0.length l0) (hc0 : l0.length ≤ c0) (h : zfx k l0 = some (r1, r2)) :
   Calls Tryz.prog 33 #[.slice A0 l0.length c0] w fun e w' => ∃ v0_ : Value, e = .returned (.tuple #[v0_, .bool r2]) ∧ Kd.R (Kd.int .i64) 3 w' w.heap.size (fun _ => True) v0_ r1 ∧ Below w.heap.size w w' := by
 have HR0 := zA hr0
 have HC0 := zA hc0
 clear hr0 hc0
 have HB := zA (Below.refl w.heap.size w)
 have H := h
 unfold zfx at H
 clear h
 replace H := zob H
 obtain ⟨t101, A20, H⟩ := H
 have A2 := zA A20
 clear A20
 by_cases c3 : t101 = true
 rotate_left
 · replace c3 := zbf c3
   subst c3
   replace H := zif H
   simp only [Option.some.injEq, Prod.mk.injEq] at H
   obtain ⟨rfl, rfl⟩ := H
   go_enter Tryz.func33, Tryz.ntmps33
   go_wp2_with (first | ((with_reducible refine zgc 51 ?_); refine zca 5 Tryz.func51 #[.slice A0 l0.length c0] (zbc k _ _ l0 false _ (zq15 HR0) HC0.out A2.out) ?_; rintro e w7 ⟨rfl, hb⟩; refine ⟨_, rfl, ?_⟩; replace HB := zA (zab zq1 hb); (try clear hb)))
   go_ret2
   exact ⟨_, zq5, zq25, zq1⟩
 subst c3
 replace H := zih H
 replace H := zob H
 obtain ⟨t102, A40, H⟩ := H
 have A4 := zA A40
 clear A40
 simp only [Option.some.injEq, Prod.mk.injEq] at H
 obtain ⟨rfl, rfl⟩ := H
 go_enter Tryz.func33, Tryz.ntmps33
 go_wp2_with (first | ((with_reducible refine zgc 51 ?_); refine zca 5 Tryz.func51 #[.slice A0 l0.length c0] (zbc k _ _ l0 true _ (zq15 HR0) HC0.out A2.out) ?_; rintro e w5 ⟨rfl, hb⟩; refine ⟨_, rfl, ?_⟩; replace HB := zA (zab zq1 hb); (try clear hb)) | ((with_reducible refine zgc 76 ?_); refine zca 8 Tryz.func76 #[.slice A0 l0.length c0] (znb k _ _ l0 t102 _ (zq21 HR0) HC0.out A4.out) ?_; rintro e w6 ⟨v103, rfl, ho0, hb⟩; refine ⟨_, rfl, ?_⟩; have HO104 := zA (Kd.R_lower ho0 (zaj zq1)); replace HB := zA (zab zq1 hb); (try clear hb); (try clear ho0)))
 go_ret2
 exact ⟨_, zq5, zq2 HO104, zq1⟩
def zby : Nat → List Int → List Int → Int → Int → Option (Bool)
 | 0, _, _, _, _ => none
 | k + 1, x0, x5, x6, x7 => if x7 < x6 then (if 0 ≤ x7 then (if x7 < (x5.length : Int) then (if x7 ≤ (x0.length : Int) then ((zbo k (x0.take (x7 : Int).toNat) (rd x5 x7)).bind fun t103 => (if t103 = true then (some false) else (zby k x0 x5 x6 (wrap64 (x7 + 1))))) else (none)) else (none)) else (none)) else (some true)
def zdr (k : Nat) (l0 : List Int) : Option (Bool) := zby k l0 l0 (l0.length : Int) 0
theorem zjo : ∀ k, (∀ y0 y1 y2 y3, LeO (zby k y0 y1 y2 y3) (zby (k + 1) y0 y1 y2 y3))
 | 0 => fun _ _ _ _ r h => by simp [zby] at h
 | k + 1 => by
   have ih0 := zjo k
   · intro y0 y1 y2 y3
     unfold zby
     exact zm2 ih0 za6
theorem zgp : ∀ a0 k, LeO (zdr k a0) (zdr (k + 1) a0) := by
 intro a0 k
 have ih0 := zjo k
 unfold zdr
 exact zm2 ih0 za6
theorem zne (k : Nat) (A0 : Option Addr) (c0 : Nat) (l0 : List Int) (r : Bool) (w : World) (hr0 : Kd.C (Kd.int .i64) w A0 l0.length l0) (hc0 : l0.length ≤ c0) (h : zdr k l0 = some r) :
   Calls Tryz.prog 104 #[.slice A0 l0.length c0] w fun e w' => e = .returned (.bool r) ∧ Drawn0 w w' := by
 have HR0 := zA hr0
 have HC0 := zA hc0
 clear hr0 hc0
 have H := h
 unfold zdr at H
 clear h
 have H' := zA H
 clear H
 go_enter Tryz.func104, Tryz.ntmps104
 go_wp2
 go_loopg [7] k (fun kq v7 w' => ∃ (x7_1 : Int), v7 = .int .i64 x7_1 ∧ Aside0 (zby kq l0 l0 (l0.length : Int) x7_1 = some r) ∧ Aside0 (kq ≤ k) ∧ Drawn0 w w')
 case atStart => exact ⟨(0), zq7, H', ⟨zlr _⟩, zq13⟩
 clear H'
 obtain ⟨x7_1, rfl, HA, HK1, ⟨m1, rfl⟩⟩ := hrel
 cases gk with
 | zero => exact absurd HA.out (by simp [zby])
 | succ k1 =>
 have H := HA.out
 clear HA
 simp only [zby] at H
 revert H
 refine zit (fun c2 H => ?_) fun c2 H => ?_
 rotate_left
 · obtain rfl := zsi H
   exact zr_5
 revert H
 refine zin fun c3 H => ?_
 revert H
 refine zin fun c4 H => ?_
 have c5b0 := eq_true (zde zq20 : 0 ≤ x7_1)
 by_cases c6 : x7_1 ≤ (l0.length : Int)
 rotate_left
 · rw [if_neg c6] at H
   exact absurd H (by simp)
 rw [if_pos c6] at H
 have c6b0 := eq_true c6
 have c6b1 := zdt c6
 clear c6
 replace H := zob H
 obtain ⟨t103, A70, H⟩ := H
 have A7 := zA A70
 clear A70
 by_cases c8 : t103 = true
 · subst c8
   replace H := zih H
   obtain rfl := zsi H
   obtain ⟨p101, q101⟩ := zpq x7_1 l0.length
   obtain ⟨ad101, e101, hx101_0⟩ := Kd.at_int HR0.out x7_1 (zoe p101) (zoe q101)
   cases e101
   obtain ⟨i09, hi09, _, hsz9, _⟩ := info_parts zja
   obtain ⟨hcut9, hA9, hC9⟩ := zr9 (P := Tryz.prog) (Value.int .i64) 0 25 3 .i64 Tryz.underlying25 hi09 hsz9 (some ad101) c0 l0 x7_1 (zde zq20) (zde zq20) HC0.out
   have HR102 := zA (Kd.C_of_reads (h1 := fun _ => rfl) (hA9 _ (Kd.reads_of_C HR0.out)))
   have HC102 := zA hC9
   clear hA9 hC9 hi09 hsz9
   go_wp2_with (first | ((with_reducible refine znv (f := 85) rfl ?_); refine zt4 (some 16) rfl rfl Tryz.func85 zq27 rfl #[.slice (some ad101) (l0.take (x7_1 : Int).toNat).length c0, .int .i64 (rd l0 x7_1)] rfl zq57 ?_; (with_reducible refine (zdl k1 _ _ (l0.take (x7_1 : Int).toNat) (rd l0 x7_1) true _ ?side1 ?side2 A7.out).mono ?_); (case side1 => repeat (first | exact HR102.out | (with_reducible first | refine zCa ?_ _ | refine zCn ?_ _ | refine zCd ?_))); (case side2 => exact HC102.out); rintro e w' ⟨rfl, ⟨nd, rfl⟩⟩; refine ⟨_, rfl, ?_⟩))
   exact zr_1
 replace c8 := zbf c8
 subst c8
 replace H := zif H
 have H' := zA H
 clear H
 obtain ⟨p101, q101⟩ := zpq x7_1 l0.length
 obtain ⟨ad101, e101, hx101_0⟩ := Kd.at_int HR0.out x7_1 (zoe p101) (zoe q101)
 cases e101
 obtain ⟨i010, hi010, _, hsz10, _⟩ := info_parts zja
 obtain ⟨hcut10, hA10, hC10⟩ := zr9 (P := Tryz.prog) (Value.int .i64) 0 25 3 .i64 Tryz.underlying25 hi010 hsz10 (some ad101) c0 l0 x7_1 (zde zq20) (zde zq20) HC0.out
 have HR102 := zA (Kd.C_of_reads (h1 := fun _ => rfl) (hA10 _ (Kd.reads_of_C HR0.out)))
 have HC102 := zA hC10
 clear hA10 hC10 hi010 hsz10
 go_wp2_with (first | ((with_reducible refine znv (f := 85) rfl ?_); refine zt4 (some 16) rfl rfl Tryz.func85 zq27 rfl #[.slice (some ad101) (l0.take (x7_1 : Int).toNat).length c0, .int .i64 (rd l0 x7_1)] rfl zq57 ?_; (with_reducible refine (zdl k1 _ _ (l0.take (x7_1 : Int).toNat) (rd l0 x7_1) false _ ?side1 ?side2 A7.out).mono ?_); (case side1 => repeat (first | exact HR102.out | (with_reducible first | refine zCa ?_ _ | refine zCn ?_ _ | refine zCd ?_))); (case side2 => exact HC102.out); rintro e w' ⟨rfl, ⟨nd, rfl⟩⟩; refine ⟨_, rfl, ?_⟩))
 go_roundg k1
 case measure => have := HK1.out; omega
 case rel => exact ⟨(wrap64 (x7_1 + 1)), zq7, H', ⟨zq51 HK1⟩, zq13⟩
mutual
def zej : Nat → List (S55) → List Int → Bool → Option (Bool)
 | 0, _, _, _ => none
 | k + 1, x0, x1, x19 => if x19 = true then (some false) else ((zfe k x0).bind fun t102 => (zek k x0 x1 t102 x1 (x1.length : Int) 0))
def zek : Nat → List (S55) → List Int → List (List Int) → List Int → Int → Int → Option (Bool)
 | 0, _, _, _, _, _, _ => none
 | k + 1, x0, x1, x5, x22, x23, x24 => if x24 < x23 then (if 0 ≤ x24 then (if x24 < (x22.length : Int) then ((zf7 (rd x22 x24) 0 (wrap64 ((x0.length : Int) - 1))).bind fun t106 => (if t106 = true then (if x24 ≤ (x1.length : Int) then (zdi k x0 x1 x5 (rd x22 x24) x22 x23 x24 (x1.drop (x24 : Int).toNat) ((x1.drop (x24 : Int).toNat).length : Int) 0) else (none)) else (some false))) else (none)) else (none)) else (some true)
def zdi : Nat → List (S55) → List Int → List (List Int) → Int → List Int → Int → Int → List Int → Int → Int → Option (Bool)
 | 0, _, _, _, _, _, _, _, _, _, _ => none
 | k + 1, x0, x1, x5, x7, x22, x23, x24, x37, x38, x39 => if x39 < x38 then (if 0 ≤ x39 then (if x39 < (x37.length : Int) then (if (rd x37 x39) ≥ 0 then (if (rd x37 x39) < x7 then (if 0 ≤ x7 then (if x7 < (x5.length : Int) then (if 0 ≤ (rd x37 x39) then (if (rd x37 x39) < ((za5 x5 x7).length : Int) then (if (rd (za5 x5 x7) (rd x37 x39)) ≥ 0 then (some false) else (zdi k x0 x1 x5 x7 x22 x23 x24 x37 x38 (wrap64 (x39 + 1)))) else (none)) else (none)) else (none)) else (none)) else (zdi k x0 x1 x5 x7 x22 x23 x24 x37 x38 (wrap64 (x39 + 1)))) else (zdi k x0 x1 x5 x7 x22 x23 x24 x37 x38 (wrap64 (x39 + 1)))) else (none)) else (none)) else (zek k x0 x1 x5 x22 x23 (wrap64 (x24 + 1)))
end
def zhw (k : Nat) (l0 : List (S55)) (l1 : List Int) : Option (Bool) := if (l1.length : Int) = (l0.length : Int) then ((zdr k l1).bind fun t101 => (zej k l0 l1 (!t101))) else (zej k l0 l1 true)
theorem znf : ∀ k, (∀ y0 y1 y2, LeO (zej k y0 y1 y2) (zej (k + 1) y0 y1 y2)) ∧ (∀ y0 y1 y2 y3 y4 y5, LeO (zek k y0 y1 y2 y3 y4 y5) (zek (k + 1) y0 y1 y2 y3 y4 y5)) ∧ (∀ y0 y1 y2 y3 y4 y5 y6 y7 y8 y9, LeO (zdi k y0 y1 y2 y3 y4 y5 y6 y7 y8 y9) (zdi (k + 1) y0 y1 y2 y3 y4 y5 y6 y7 y8 y9))
 | 0 => ⟨fun _ _ _ r h => by simp [zej] at h, fun _ _ _ _ _ _ r h => by simp [zek] at h, fun _ _ _ _ _ _ _ _ _ _ r h => by simp [zdi] at h⟩
 | k + 1 => by
   obtain ⟨ih0, ih1, ih2⟩ := znf k
   refine ⟨?_, ?_, ?_⟩
   · intro y0 y1 y2
     unfold zej
     exact zm5 ih0 ih1 ih2 zgp zdg
   · intro y0 y1 y2 y3 y4 y5
     unfold zek
     exact zm5 ih0 ih1 ih2 zgp zdg
   · intro y0 y1 y2 y3 y4 y5 y6 y7 y8 y9
     unfold zdi
     exact zm5 ih0 ih1 ih2 zgp zdg
theorem zsg : ∀ a0 a1 k, LeO (zhw k a0 a1) (zhw (k + 1) a0 a1) := by
 intro a0 a1 k
 obtain ⟨ih0, ih1, ih2⟩ := znf k
 unfold zhw
 exact zm5 ih0 ih1 ih2 zgp zdg
theorem zrf (k : Nat) (A0 : Option Addr) (c0 : Nat) (l0 : List (S55)) (A1 : Option Addr) (c1 : Nat) (l1 : List Int) (r : Bool) (w : World) (hr0 : Kd.C k55 w A0 l0.length l0) (hc0 : l0.length ≤ c0) (hr1 : Kd.C (Kd.int .i64) w A1 l1.length l1) (hc1 : l1.length ≤ c1) (h : zhw k l0 l1 = some r) :
   Calls Tryz.prog 52 #[.slice A0 l0.length c0, .slice A1 l1.length c1] w fun e w' => e = .returned (.bool r) ∧ Below w.heap.size w w' := by
 have HR0 := zA hr0
 have HC0 := zA hc0
 clear hr0 hc0
 have HR1 := zA hr1
 have HC1 := zA hc1
 clear hr1 hc1
 have HB := zA (Below.refl w.heap.size w)
 have H := h
 unfold zhw at H
 clear h
 have HC3 := zA H
 clear H
 go_enter Tryz.func52, Tryz.ntmps52
 go_upto_region 1 with (fail)
 go_cut [19] (fun v19 wc => ∃ (kq : Nat) (x19_2 : Bool), v19 = .bool x19_2 ∧ Aside0 (zej kq l0 l1 x19_2 = some r) ∧ Aside0 (kq ≤ k) ∧ Aside0 (Below w.heap.size w wc))
 case first =>
   have H := HC3.out
   clear HC3
   by_cases c4 : (l1.length : Int) = (l0.length : Int)
   rotate_left
   · rw [if_neg c4] at H
     obtain ⟨c4b0, c4b1⟩ := zbq c4
     have c4b2 : (l1.length == l0.length) = false := by first | simpa using c4 | (simp at c4 ⊢; omega)
     (first | rw [c4b0] | (simp only [zia, ziz]; rw [c4b0]) | skip)
     have H' := zA H
     clear H
     go_wp2
     go_meet
     case rel => exact ⟨_, (true), zq7, H', ⟨zq42⟩, ⟨zq1⟩⟩
   rw [if_pos c4] at H
   obtain ⟨c4b0, c4b1⟩ := zbe c4
   have c4b2 : (l1.length == l0.length) = true := by first | simpa using c4 | (simp at c4 ⊢; omega)
   clear c4
   (first | rw [c4b0] | (simp only [zia, ziz]; rw [c4b0]) | skip)
   replace H := zob H
   obtain ⟨t101, A50, H⟩ := H
   have A5 := zA A50
   clear A50
   have H' := zA H
   clear H
   go_wp2_with (first | (go_at_call 104; (with_reducible refine (zne k _ _ l1 t101 _ ?side1 ?side2 A5.out).mono ?_); (case side1 => repeat (first | exact (zCb HR1.out HB.out) | (with_reducible first | refine zCa ?_ _ | refine zCn ?_ _ | refine zCd ?_))); (case side2 => exact HC1.out); rintro e w' ⟨rfl, ⟨nd, rfl⟩⟩))
   go_meet
   case rel => exact ⟨_, (!t101), zq7, H', ⟨zq42⟩, ⟨zq1⟩⟩
 clear HC3
 obtain ⟨kq, x19_2, rfl, HA, HJ2, HB⟩ := hcut
 cases kq with
 | zero => exact absurd HA.out (by simp [zej])
 | succ kj2 =>
 have H := HA.out
 clear HA
 simp only [zej] at H
 by_cases c6 : x19_2 = true
 · subst c6
   replace H := zih H
   obtain rfl := zsi H
   go_wp2
   exact zr_2
 replace c6 := zbf c6
 subst c6
 replace H := zif H
 replace H := zob H
 obtain ⟨t102, A70, H⟩ := H
 have A7 := zA A70
 clear A70
 have H' := zA H
 clear H
 go_wp2_with (first | ((with_reducible refine zgc 59 ?_); refine zca 21 Tryz.func59 #[.slice A0 l0.length c0] (zh3 kj2 _ _ l0 t102 _ (zq21 HR0) HC0.out A7.out) ?_; rintro e w8 ⟨v103, rfl, ho0, hb⟩; refine ⟨_, rfl, ?_⟩; have HO104 := zA (Kd.S_lower ho0 (zaj zq1)); replace HB := zA (zab zq1 hb); (try clear hb); (try clear ho0)))
 go_loopg [24] kj2 (fun kq v24 w' => ∃ (x24_2 : Int), v24 = .int .i64 x24_2 ∧ Aside0 (zek kq l0 l1 t102 l1 (l1.length : Int) x24_2 = some r) ∧ Aside0 (kq ≤ kj2) ∧ Aside0 (Kd.S (Kd.slice 3 (Kd.int .i64)) 25 w' w.heap.size (fun _ => True) v103 t102) ∧ Aside0 (Below w.heap.size w w'))
 case atStart => exact ⟨(0), zq7, H', ⟨zlr _⟩, ⟨zq17 HO104⟩, ⟨zq1⟩⟩
 clear H'
 obtain ⟨x24_2, rfl, HA, HK2, HO_5, HB⟩ := hrel
 cases gk with
 | zero => exact absurd HA.out (by simp [zek])
 | succ k2 =>
 have H := HA.out
 clear HA
 simp only [zek] at H
 revert H
 refine zit (fun c9 H => ?_) fun c9 H => ?_
 rotate_left
 · obtain rfl := zsi H
   go_wp2
   exact zr_2
 revert H
 refine zin fun c10 H => ?_
 revert H
 refine zin fun c11 H => ?_
 replace H := zob H
 obtain ⟨t106, A120, H⟩ := H
 have A12 := zA A120
 clear A120
 by_cases c13 : t106 = true
 rotate_left
 · replace c13 := zbf c13
   subst c13
   replace H := zif H
   obtain rfl := zsi H
   obtain ⟨p105, q105⟩ := zpq x24_2 l1.length
   obtain ⟨ad105, e105, hx105_0⟩ := Kd.at_int HR1.out x24_2 (zoe p105) (zoe q105)
   cases e105
   replace hx105_0 := zkep HB.out hx105_0
   go_wp2_with (first | ((with_reducible refine zgc 78 ?_); refine zcl 33 Tryz.func78 (zgu (rd l1 x24_2) 0 (wrap64 ((l0.length : Int) - 1)) false _ A12.out) ?_; rintro e w' ⟨rfl, ⟨nd, rfl⟩⟩; refine ⟨_, rfl, ?_⟩))
   exact zr_2
 subst c13
 replace H := zih H
 have c14b0 := eq_true (zde zq20 : 0 ≤ x24_2)
 by_cases c15 : x24_2 ≤ (l1.length : Int)
 rotate_left
 · rw [if_neg c15] at H
   exact absurd H (by simp)
 rw [if_pos c15] at H
 have c15b0 := eq_true c15
 have c15b1 := zdt c15
 clear c15
 have H' := zA H
 clear H
 obtain ⟨p105, q105⟩ := zpq x24_2 l1.length
 obtain ⟨ad105, e105, hx105_0⟩ := Kd.at_int HR1.out x24_2 (zoe p105) (zoe q105)
 cases e105
 replace hx105_0 := zkep HB.out hx105_0
 go_wp2_with (first | ((with_reducible refine zgc 78 ?_); refine zcl 33 Tryz.func78 (zgu (rd l1 x24_2) 0 (wrap64 ((l0.length : Int) - 1)) true _ A12.out) ?_; rintro e w' ⟨rfl, ⟨nd, rfl⟩⟩; refine ⟨_, rfl, ?_⟩; obtain ⟨i016, hi016, _, hsz16, _⟩ := info_parts zja; obtain ⟨A16, hcut16, hA16, hC16⟩ := zv1 (P := Tryz.prog) (Value.int .i64) 0 25 3 .i64 Tryz.underlying25 hi016 hsz16 (some ad105) c1 l1 x24_2 (zde zq20) (zde zq20) HC1.out; have HR107 := zA (Kd.C_of_reads (h1 := fun _ => rfl) (hA16 _ (Kd.reads_of_C HR1.out))); have HC107 := zA hC16; clear hA16 hC16 hi016 hsz16))
 go_loopg [39] k2 (fun kq v39 w' => ∃ (x39_3 : Int), v39 = .int .i64 x39_3 ∧ Aside0 (zdi kq l0 l1 t102 (rd l1 x24_2) l1 (l1.length : Int) x24_2 (l1.drop (x24_2 : Int).toNat) ((l1.drop (x24_2 : Int).toNat).length : Int) x39_3 = some r) ∧ Aside0 (kq ≤ k2) ∧ Aside0 (Kd.S (Kd.slice 3 (Kd.int .i64)) 25 w' w.heap.size (fun _ => True) v103 t102) ∧ Aside0 (Below w.heap.size w w'))
 case atStart => exact ⟨(0), zq7, H', ⟨zlr _⟩, ⟨zq17 HO_5⟩, ⟨zq1⟩⟩
 clear H'
 obtain ⟨x39_3, rfl, HA, HK3, HO_5, HB⟩ := hrel
 cases gk with
 | zero => exact absurd HA.out (by simp [zdi])
 | succ k3 =>
 have H := HA.out
 clear HA
 simp only [zdi] at H
 by_cases c17 : x39_3 < ((l1.drop (x24_2 : Int).toNat).length : Int)
 rotate_left
 · rw [if_neg c17] at H
   have c17b0 := zdf c17
   have c17b0d := c17b0
   try simp only [List.length_drop] at c17b0d
   clear c17
   have H' := zA H
   clear H
   go_wp2
   go_roundg k3
   case measure => have := HJ2.out; have := HK2.out; have := HK3.out; omega
   case rel => exact ⟨(wrap64 (x24_2 + 1)), zq7, H', ⟨zq40 HJ2 HK2 HK3⟩, ⟨zq17 HO_5⟩, ⟨zq1⟩⟩
 rw [if_pos c17] at H
 have c17b0 := zdt c17
 have c17b0d := c17b0
 try simp only [List.length_drop] at c17b0d
 clear c17
 revert H
 refine zin fun c18 H => ?_
 by_cases c19 : x39_3 < ((l1.drop (x24_2 : Int).toNat).length : Int)
 rotate_left
 · rw [if_neg c19] at H
   exact absurd H (by simp)
 rw [if_pos c19] at H
 have c19b0 := zdt c19
 have c19b0d := c19b0
 try simp only [List.length_drop] at c19b0d
 clear c19
 by_cases c20 : (rd (l1.drop (x24_2 : Int).toNat) x39_3) ≥ 0
 rotate_left
 · rw [if_neg c20] at H
   have c20b0 := zdf c20
   clear c20
   have H' := zA H
   clear H
   have p108 : 0 ≤ (x39_3 : Int) := zde zq20
   have q108 : x39_3 < ((l1.drop (x24_2 : Int).toNat).length : Int) := zde zq20
   have q108d := q108
   try simp only [List.length_drop] at q108d
   replace q108d := eq_true q108d
   obtain ⟨ad108, e108, hx108_0⟩ := Kd.at_int HR107.out x39_3 p108 q108
   cases e108
   replace hx108_0 := zkep HB.out hx108_0
   replace p108 := eq_true p108
   replace q108 := eq_true q108
   go_wp2
   go_roundg k3
   case measure => have := HJ2.out; have := HK2.out; have := HK3.out; omega
   case rel => exact ⟨(wrap64 (x39_3 + 1)), zq7, H', ⟨zq40 HJ2 HK2 HK3⟩, ⟨zq17 HO_5⟩, ⟨zq1⟩⟩
 rw [if_pos c20] at H
 have c20b0 := zdt c20
 clear c20
 revert H
 refine zit (fun c21 H => ?_) fun c21 H => ?_
 rotate_left
 · have H' := zA H
   clear H
   have p108 : 0 ≤ (x39_3 : Int) := zde zq20
   have q108 : x39_3 < ((l1.drop (x24_2 : Int).toNat).length : Int) := zde zq20
   have q108d := q108
   try simp only [List.length_drop] at q108d
   replace q108d := eq_true q108d
   obtain ⟨ad108, e108, hx108_0⟩ := Kd.at_int HR107.out x39_3 p108 q108
   cases e108
   replace hx108_0 := zkep HB.out hx108_0
   replace p108 := eq_true p108
   replace q108 := eq_true q108
   go_wp2
   go_roundg k3
   case measure => have := HJ2.out; have := HK2.out; have := HK3.out; omega
   case rel => exact ⟨(wrap64 (x39_3 + 1)), zq7, H', ⟨zq40 HJ2 HK2 HK3⟩, ⟨zq17 HO_5⟩, ⟨zq1⟩⟩
 revert H
 refine zin fun c22 H => ?_
 revert H
 refine zin fun c23 H => ?_
 revert H
 refine zin fun c24 H => ?_
 by_cases c25 : (rd (l1.drop (x24_2 : Int).toNat) x39_3) < ((za5 t102 (rd l1 x24_2)).length : Int)
 rotate_left
 · rw [if_neg c25] at H
   exact absurd H (by simp)
 rw [if_pos c25] at H
 have c25b0 := zdt c25
 have c25b0d := c25b0
 try simp only [List.length_drop] at c25b0d
 clear c25
 revert H
 refine zit (fun c26b0 H => ?_) fun c26b0 H => ?_
 · obtain rfl := zsi H
   have p108 : 0 ≤ (x39_3 : Int) := zde zq20
   have q108 : x39_3 < ((l1.drop (x24_2 : Int).toNat).length : Int) := zde zq20
   have q108d := q108
   try simp only [List.length_drop] at q108d
   replace q108d := eq_true q108d
   obtain ⟨ad108, e108, hx108_0⟩ := Kd.at_int HR107.out x39_3 p108 q108
   cases e108
   replace hx108_0 := zkep HB.out hx108_0
   replace p108 := eq_true p108
   replace q108 := eq_true q108
   obtain ⟨Ao27, co27, eo27⟩ := Kd.S_slice HO_5.out
   subst eo27
   have p109 : 0 ≤ ((rd l1 x24_2) : Int) := zde zq20
   have q109 : (rd l1 x24_2) < (t102.length : Int) := zde zq20
   obtain ⟨ad109, A109_0, c109_0, e109, hx109_0, hl109_0, hi109_0⟩ := zln (zSr HO_5.out).2.2 (rd l1 x24_2) p109 q109
   cases e109
   obtain ⟨ce109, hce109, hMe109, hcc109⟩ := Kd.S_get HO_5.out [] (rd l1 x24_2) p109 (by first | exact q109 | exact zde zq20 | (have e_ := (zSr HO_5.out).1; omega))
   obtain ⟨ve109_0, rfl, ge109_0⟩ := hMe109
   have hv109_0 := hcc109 0 _ rfl
   rw [Nat.add_zero, show ((Kd.slice 3 (Kd.int .i64))).sz = 1 from rfl, Nat.mul_one] at hv109_0
   replace hv109_0 := zsi (hv109_0.symm.trans hx109_0)
   rw [hv109_0] at ge109_0
   have HL109_0 := zA (show Kd.R (Kd.int .i64) 3 _ _ _ _ (za5 t102 (rd l1 x24_2)) from ge109_0)
   clear hv109_0 ge109_0
   clear hcc109 hce109
   have HR109_0 := zA hi109_0
   have HC109_0 := zA hl109_0
   clear hi109_0 hl109_0
   replace p109 := eq_true p109
   replace q109 := eq_true q109
   have p110 : 0 ≤ ((rd (l1.drop (x24_2 : Int).toNat) x39_3) : Int) := zde zq20
   have q110 : (rd (l1.drop (x24_2 : Int).toNat) x39_3) < ((za5 t102 (rd l1 x24_2)).length : Int) := zde zq20
   have q110d := q110
   try simp only [List.length_drop] at q110d
   replace q110d := eq_true q110d
   obtain ⟨ad110, e110, hx110_0⟩ := Kd.at_int (zq18 HR109_0) (rd (l1.drop (x24_2 : Int).toNat) x39_3) p110 q110
   cases e110
   replace p110 := eq_true p110
   replace q110 := eq_true q110
   go_wp2
   exact zr_2
 have H' := zA H
 clear H
 have p108 : 0 ≤ (x39_3 : Int) := zde zq20
 have q108 : x39_3 < ((l1.drop (x24_2 : Int).toNat).length : Int) := zde zq20
 have q108d := q108
 try simp only [List.length_drop] at q108d
 replace q108d := eq_true q108d
 obtain ⟨ad108, e108, hx108_0⟩ := Kd.at_int HR107.out x39_3 p108 q108
 cases e108
 replace hx108_0 := zkep HB.out hx108_0
 replace p108 := eq_true p108
 replace q108 := eq_true q108
 obtain ⟨Ao28, co28, eo28⟩ := Kd.S_slice HO_5.out
 subst eo28
 have p109 : 0 ≤ ((rd l1 x24_2) : Int) := zde zq20
 have q109 : (rd l1 x24_2) < (t102.length : Int) := zde zq20
 obtain ⟨ad109, A109_0, c109_0, e109, hx109_0, hl109_0, hi109_0⟩ := zln (zSr HO_5.out).2.2 (rd l1 x24_2) p109 q109
 cases e109
 obtain ⟨ce109, hce109, hMe109, hcc109⟩ := Kd.S_get HO_5.out [] (rd l1 x24_2) p109 (by first | exact q109 | exact zde zq20 | (have e_ := (zSr HO_5.out).1; omega))
 obtain ⟨ve109_0, rfl, ge109_0⟩ := hMe109
 have hv109_0 := hcc109 0 _ rfl
 rw [Nat.add_zero, show ((Kd.slice 3 (Kd.int .i64))).sz = 1 from rfl, Nat.mul_one] at hv109_0
 replace hv109_0 := zsi (hv109_0.symm.trans hx109_0)
 rw [hv109_0] at ge109_0
 have HL109_0 := zA (show Kd.R (Kd.int .i64) 3 _ _ _ _ (za5 t102 (rd l1 x24_2)) from ge109_0)
 clear hv109_0 ge109_0
 clear hcc109 hce109
 have HR109_0 := zA hi109_0
 have HC109_0 := zA hl109_0
 clear hi109_0 hl109_0
 replace p109 := eq_true p109
 replace q109 := eq_true q109
 have p110 : 0 ≤ ((rd (l1.drop (x24_2 : Int).toNat) x39_3) : Int) := zde zq20
 have q110 : (rd (l1.drop (x24_2 : Int).toNat) x39_3) < ((za5 t102 (rd l1 x24_2)).length : Int) := zde zq20
 have q110d := q110
 try simp only [List.length_drop] at q110d
 replace q110d := eq_true q110d
 obtain ⟨ad110, e110, hx110_0⟩ := Kd.at_int (zq18 HR109_0) (rd (l1.drop (x24_2 : Int).toNat) x39_3) p110 q110
 cases e110
 replace p110 := eq_true p110
 replace q110 := eq_true q110
 go_wp2
 go_roundg k3
 case measure => have := HJ2.out; have := HK2.out; have := HK3.out; omega
 case rel => exact ⟨(wrap64 (x39_3 + 1)), zq7, H', ⟨zq40 HJ2 HK2 HK3⟩, ⟨zq17 HO_5⟩, ⟨zq1⟩⟩
def zhx (k : Nat) (l0 : List (S55)) (l1 : List Int) : Option (Bool × Bool) := (zdu k l0).bind fun t101 => (if t101 = true then ((zhw k l0 l1).bind fun t102 => (some (t102, true))) else (some (false, false)))
theorem zy8 : ∀ a0 a1 k, LeO (zhx k a0 a1) (zhx (k + 1) a0 a1) := by
 intro a0 a1 k
 unfold zhx
 exact zm2 zcg zsg
theorem zrg (k : Nat) (A0 : Option Addr) (c0 : Nat) (l0 : List (S55)) (A1 : Option Addr) (c1 : Nat) (l1 : List Int) (r1 : Bool) (r2 : Bool) (w : World) (hr0 : Kd.C k55 w A0 l0.length l0) (hc0 : l0.length ≤ c0) (hr1 : Kd.C (Kd.int .i64) w A1 l1.length l1) (hc1 : l1.length ≤ c1) (h : zhx k l0 l1 = some (r1, r2)) :
   Calls Tryz.prog 10 #[.slice A0 l0.length c0, .slice A1 l1.length c1] w fun e w' => e = .returned (.tuple #[.bool r1, .bool r2]) ∧ Below w.heap.size w w' := by
 have HR0 := zA hr0
 have HC0 := zA hc0
 clear hr0 hc0
 have HR1 := zA hr1
 have HC1 := zA hc1
 clear hr1 hc1
 have HB := zA (Below.refl w.heap.size w)
 have H := h
 unfold zhx at H
 clear h
 replace H := zob H
 obtain ⟨t101, A30, H⟩ := H
 have A3 := zA A30
 clear A30
 by_cases c4 : t101 = true
 rotate_left
 · replace c4 := zbf c4
   subst c4
   replace H := zif H
   simp only [Option.some.injEq, Prod.mk.injEq] at H
   obtain ⟨rfl, rfl⟩ := H
   go_enter Tryz.func10, Tryz.ntmps10
   go_wp2_with (first | ((with_reducible refine zgc 51 ?_); refine zca 7 Tryz.func51 #[.slice A0 l0.length c0] (zbc k _ _ l0 false _ (zq15 HR0) HC0.out A3.out) ?_; rintro e w8 ⟨rfl, hb⟩; refine ⟨_, rfl, ?_⟩; replace HB := zA (zab zq1 hb); (try clear hb)))
   go_ret2
   exact ⟨zq5, zq1⟩
 subst c4
 replace H := zih H
 replace H := zob H
 obtain ⟨t102, A50, H⟩ := H
 have A5 := zA A50
 clear A50
 simp only [Option.some.injEq, Prod.mk.injEq] at H
 obtain ⟨rfl, rfl⟩ := H
 go_enter Tryz.func10, Tryz.ntmps10
 go_wp2_with (first | ((with_reducible refine zgc 51 ?_); refine zca 7 Tryz.func51 #[.slice A0 l0.length c0] (zbc k _ _ l0 true _ (zq15 HR0) HC0.out A3.out) ?_; rintro e w6 ⟨rfl, hb⟩; refine ⟨_, rfl, ?_⟩; replace HB := zA (zab zq1 hb); (try clear hb)) | ((with_reducible refine zgc 52 ?_); refine zca 11 Tryz.func52 #[.slice A0 l0.length c0, .slice A1 l1.length c1] (zrf k _ _ l0 _ _ l1 t102 _ (zq21 HR0) HC0.out (zq21 HR1) HC1.out A5.out) ?_; rintro e w7 ⟨rfl, hb⟩; refine ⟨_, rfl, ?_⟩; replace HB := zA (zab zq1 hb); (try clear hb)))
 go_ret2
 exact ⟨zq5, zq1⟩
def zil (a0 : Int) : Option (Bool) := (zf7 a0 0 100).bind fun t101 => (some (!t101))
theorem zl1 (a0 : Int) (r : Bool) (w : World) (h : zil a0 = some r) :
   Calls Tryz.prog 118 #[.int .i64 a0] w fun e w' => e = .returned (.bool r) ∧ Drawn0 w w' := by
 have H := h
 unfold zil at H
 clear h
 replace H := zob H
 obtain ⟨t101, A20, H⟩ := H
 have A2 := zA A20
 clear A20
 obtain rfl := zsi H
 go_enter Tryz.func118, Tryz.ntmps118
 go_wp2_with (first | ((with_reducible refine zgc 78 ?_); refine zcl 4 Tryz.func78 (zgu a0 0 100 t101 _ A2.out) ?_; rintro e w' ⟨rfl, ⟨nd, rfl⟩⟩; refine ⟨_, rfl, ?_⟩))
 exact zr_1
def zas : Nat → List Int → Int → Int → Option (Int)
 | 0, _, _, _ => none
 | k + 1, x0, x7, x8 => if x8 < x7 then (if 0 ≤ x8 then (if x8 < (x0.length : Int) then ((zil (rd x0 x8)).bind fun t102 => (if t102 = true then (some x8) else (zas k x0 x7 (wrap64 (x8 + 1))))) else (none)) else (none)) else (some (-1))
def zbj (k : Nat) (l0 : List Int) : Option (Int) := zas k l0 (l0.length : Int) 0
theorem zg3 : ∀ k, (∀ y0 y1 y2, LeO (zas k y0 y1 y2) (zas (k + 1) y0 y1 y2))
 | 0 => fun _ _ _ r h => by simp [zas] at h
 | k + 1 => by
   have ih0 := zg3 k
   · intro y0 y1 y2
     unfold zas
     exact zm1 ih0
theorem zj9 : ∀ a0 k, LeO (zbj k a0) (zbj (k + 1) a0) := by
 intro a0 k
 have ih0 := zg3 k
 unfold zbj
 exact zm1 ih0
theorem zjy (k : Nat) (A0 : Option Addr) (c0 : Nat) (l0 : List Int) (r : Int) (w : World) (hr0 : Kd.C (Kd.int .i64) w A0 l0.length l0) (hc0 : l0.length ≤ c0) (h : zbj k l0 = some r) :
   Calls Tryz.prog 122 #[.slice A0 l0.length c0, .func (Fn.func 118) #[] #[]] w fun e w' => e = .returned (.int .i64 r) ∧ Drawn0 w w' := by
 have HR0 := zA hr0
 have HC0 := zA hc0
 clear hr0 hc0
 have H := h
 unfold zbj at H
 clear h
 have H' := zA H
 clear H
 go_enter Tryz.func122, Tryz.ntmps122
 go_wp2
 go_loopg [8] k (fun kq v8 w' => ∃ (x8_1 : Int), v8 = .int .i64 x8_1 ∧ Aside0 (zas kq l0 (l0.length : Int) x8_1 = some r) ∧ Aside0 (kq ≤ k) ∧ Drawn0 w w')
 case atStart => exact ⟨(0), zq7, H', ⟨zlr _⟩, zq13⟩
 clear H'
 obtain ⟨x8_1, rfl, HA, HK1, ⟨m1, rfl⟩⟩ := hrel
 cases gk with
 | zero => exact absurd HA.out (by simp [zas])
 | succ k1 =>
 have H := HA.out
 clear HA
 simp only [zas] at H
 revert H
 refine zit (fun c2 H => ?_) fun c2 H => ?_
 rotate_left
 · obtain rfl := zsi H
   exact zr_5
 revert H
 refine zin fun c3 H => ?_
 revert H
 refine zin fun c4 H => ?_
 replace H := zob H
 obtain ⟨t102, A50, H⟩ := H
 have A5 := zA A50
 clear A50
 by_cases c6 : t102 = true
 · subst c6
   replace H := zih H
   obtain rfl := zsi H
   obtain ⟨p101, q101⟩ := zpq x8_1 l0.length
   obtain ⟨ad101, e101, hx101_0⟩ := Kd.at_int HR0.out x8_1 (zoe p101) (zoe q101)
   cases e101
   go_wp2_with (first | (go_at_call 118; (with_reducible refine (zl1 (rd l0 x8_1) true _ A5.out).mono ?_); rintro e w' ⟨rfl, ⟨nd, rfl⟩⟩))
   exact zr_1
 replace c6 := zbf c6
 subst c6
 replace H := zif H
 have H' := zA H
 clear H
 obtain ⟨p101, q101⟩ := zpq x8_1 l0.length
 obtain ⟨ad101, e101, hx101_0⟩ := Kd.at_int HR0.out x8_1 (zoe p101) (zoe q101)
 cases e101
 go_wp2_with (first | (go_at_call 118; (with_reducible refine (zl1 (rd l0 x8_1) false _ A5.out).mono ?_); rintro e w' ⟨rfl, ⟨nd, rfl⟩⟩))
 go_roundg k1
 case measure => have := HK1.out; omega
 case rel => exact ⟨(wrap64 (x8_1 + 1)), zq7, H', ⟨zq51 HK1⟩, zq13⟩
def zbt (k : Nat) (l0 : List Int) : Option (Bool) := (zbj k l0).bind fun t101 => (some (decide (t101 ≥ 0)))
theorem zjk : ∀ a0 k, LeO (zbt k a0) (zbt (k + 1) a0) := by
 intro a0 k
 unfold zbt
 exact zm1 zj9
theorem zje (k : Nat) (A0 : Option Addr) (c0 : Nat) (l0 : List Int) (r : Bool) (w : World) (hr0 : Kd.C (Kd.int .i64) w A0 l0.length l0) (hc0 : l0.length ≤ c0) (h : zbt k l0 = some r) :
   Calls Tryz.prog 80 #[.slice A0 l0.length c0, .func (Fn.func 118) #[] #[]] w fun e w' => e = .returned (.bool r) ∧ Drawn0 w w' := by
 have HR0 := zA hr0
 have HC0 := zA hc0
 clear hr0 hc0
 have H := h
 unfold zbt at H
 clear h
 replace H := zob H
 obtain ⟨t101, A20, H⟩ := H
 have A2 := zA A20
 clear A20
 obtain rfl := zsi H
 go_enter Tryz.func80, Tryz.ntmps80
 go_wp2_with (first | ((with_reducible refine zgc 122 ?_); refine zca 7 Tryz.func122 #[.slice A0 l0.length c0, .func (Fn.func 118) #[] #[]] (zjy k _ _ l0 t101 _ (zq15 HR0) HC0.out A2.out) ?_; rintro e w' ⟨rfl, ⟨nd, rfl⟩⟩; refine ⟨_, rfl, ?_⟩))
 exact zr_1
def ze5 (k : Nat) (l0 : List (S55)) (l1 : List Int) : Option (Bool) := (zdu k l0).bind fun t101 => (if t101 = true then (if (l1.length : Int) = (l0.length : Int) then ((zbt k l1).bind fun t102 => (some (!t102))) else (some false)) else (some false))
theorem zk9 : ∀ a0 a1 k, LeO (ze5 k a0 a1) (ze5 (k + 1) a0 a1) := by
 intro a0 a1 k
 unfold ze5
 exact zm2 zcg zjk
theorem zgi (k : Nat) (A0 : Option Addr) (c0 : Nat) (l0 : List (S55)) (A1 : Option Addr) (c1 : Nat) (l1 : List Int) (r : Bool) (w : World) (hr0 : Kd.C k55 w A0 l0.length l0) (hc0 : l0.length ≤ c0) (hr1 : Kd.C (Kd.int .i64) w A1 l1.length l1) (hc1 : l1.length ≤ c1) (h : ze5 k l0 l1 = some r) :
   Calls Tryz.prog 68 #[.slice A0 l0.length c0, .slice A1 l1.length c1] w fun e w' => e = .returned (.bool r) ∧ Below w.heap.size w w' := by
 have HR0 := zA hr0
 have HC0 := zA hc0
 clear hr0 hc0
 have HR1 := zA hr1
 have HC1 := zA hc1
 clear hr1 hc1
 have HB := zA (Below.refl w.heap.size w)
 have H := h
 unfold ze5 at H
 clear h
 replace H := zob H
 obtain ⟨t101, A30, H⟩ := H
 have A3 := zA A30
 clear A30
 by_cases c4 : t101 = true
 rotate_left
 · replace c4 := zbf c4
   subst c4
   replace H := zif H
   obtain rfl := zsi H
   go_enter Tryz.func68, Tryz.ntmps68
   go_wp2_with (first | ((with_reducible refine zgc 51 ?_); refine zca 6 Tryz.func51 #[.slice A0 l0.length c0] (zbc k _ _ l0 false _ (zq15 HR0) HC0.out A3.out) ?_; rintro e w9 ⟨rfl, hb⟩; refine ⟨_, rfl, ?_⟩; replace HB := zA (zab zq1 hb); (try clear hb)))
   exact zr_2
 subst c4
 replace H := zih H
 by_cases c5 : (l1.length : Int) = (l0.length : Int)
 rotate_left
 · rw [if_neg c5] at H
   obtain ⟨c5b0, c5b1⟩ := zbq c5
   have c5b2 : (l1.length == l0.length) = false := by first | simpa using c5 | (simp at c5 ⊢; omega)
   obtain rfl := zsi H
   go_enter Tryz.func68, Tryz.ntmps68
   go_wp2_with (first | ((with_reducible refine zgc 51 ?_); refine zca 6 Tryz.func51 #[.slice A0 l0.length c0] (zbc k _ _ l0 true _ (zq15 HR0) HC0.out A3.out) ?_; rintro e w8 ⟨rfl, hb⟩; refine ⟨_, rfl, ?_⟩; replace HB := zA (zab zq1 hb); (try clear hb)))
   exact zr_2
 rw [if_pos c5] at H
 obtain ⟨c5b0, c5b1⟩ := zbe c5
 have c5b2 : (l1.length == l0.length) = true := by first | simpa using c5 | (simp at c5 ⊢; omega)
 clear c5
 replace H := zob H
 obtain ⟨t102, A60, H⟩ := H
 have A6 := zA A60
 clear A60
 obtain rfl := zsi H
 go_enter Tryz.func68, Tryz.ntmps68
 go_wp2_with (first | ((with_reducible refine zgc 51 ?_); refine zca 6 Tryz.func51 #[.slice A0 l0.length c0] (zbc k _ _ l0 true _ (zq15 HR0) HC0.out A3.out) ?_; rintro e w7 ⟨rfl, hb⟩; refine ⟨_, rfl, ?_⟩; replace HB := zA (zab zq1 hb); (try clear hb)) | (go_at_call 80; (with_reducible refine (zje k _ _ l1 t102 _ ?side1 ?side2 A6.out).mono ?_); (case side1 => repeat (first | exact (zCb HR1.out HB.out) | (with_reducible first | refine zCa ?_ _ | refine zCn ?_ _ | refine zCd ?_))); (case side2 => exact HC1.out); rintro e w' ⟨rfl, ⟨nd, rfl⟩⟩))
 exact zr_2
def zf8 (a0 : Int) : Option (Bool) := (zf7 a0 1 3).bind fun t101 => (some t101)
theorem zh4 (a0 : Int) (r : Bool) (w : World) (h : zf8 a0 = some r) :
   Calls Tryz.prog 67 #[.int .i64 a0] w fun e w' => e = .returned (.bool r) ∧ Drawn0 w w' := by
 have H := h
 unfold zf8 at H
 clear h
 replace H := zob H
 obtain ⟨t101, A20, H⟩ := H
 have A2 := zA A20
 clear A20
 obtain rfl := zsi H
 go_enter Tryz.func67, Tryz.ntmps67
 go_wp2_with (first | ((with_reducible refine zgc 78 ?_); refine zcl 4 Tryz.func78 (zgu a0 1 3 t101 _ A2.out) ?_; rintro e w' ⟨rfl, ⟨nd, rfl⟩⟩; refine ⟨_, rfl, ?_⟩))
 exact zr_1
def impl_IsSchedule.cnt (C : List Int) (x : Int) : Nat → Nat
 | 0 => 0
 | j + 1 => impl_IsSchedule.cnt C x j + (if rd C j = x then 1 else 0)
def zh9 (T : List (List Int)) (C : List Int) (n : Nat) : Bool :=
 decide (T.length = n ∧ n ≤ 1048576) && ((List.range n).all fun j : Nat => decide ((za5 T j).length = j) && (List.range j).all fun i : Nat => decide (-1000 ≤ rd (za5 T j) i ∧ rd (za5 T j) i ≤ 1000)) && (List.range n).all fun j : Nat => decide (0 ≤ rd C j ∧ rd C j ≤ 1000)
def zfv (T : List (List Int)) (C : List Int) (j i : Nat) : Bool := decide (0 ≤ rd (za5 T j) i) && decide (rd C j < rd C i + rd (za5 T j) i)
def zdz (T : List (List Int)) (C : List Int) (wide : Int) (j : Nat) : Bool := decide ((impl_IsSchedule.cnt C (rd C j) j : Int) + 1 ≤ wide) && (List.range j).all fun i => !zfv T C j i
def zff (k : Nat) (l0 : List (S55)) (a1 : Int) (l2 : List Int) : Option (Bool × Bool) :=
 (zdu k l0).bind fun b => if b = false then some (false, false) else
 (zf8 a1).bind fun q => if q = false then some (false, false) else
 if l2.length = l0.length then (ze5 k l0 l2).bind fun c => if c = false then some (false, true) else
   (zfe k l0).bind fun T => if zh9 T l2 l0.length = true then some ((List.range l0.length).all (zdz T l2 a1), true) else none
 else some (false, false)
theorem zxh : ∀ a0 a1 a2 k, LeO (zff k a0 a1 a2) (zff (k + 1) a0 a1 a2) := by
 intro a0 a1 a2 k
 unfold zff
 refine LeO.bind (zcg _ _) (fun _ => zf3 (LeO.refl _) (LeO.bind (LeO.refl _) (fun _ => zf3 (LeO.refl _) (zf3 ?_ (LeO.refl _)))))
 exact LeO.bind (zk9 _ _ _) (fun _ => zf3 (LeO.refl _) (LeO.bind (zdg _ _) (fun _ => LeO.refl _)))
def impl_IsSchedule.holds (D : DataW Unit) (C : List Int) (j : Nat) : Prop := Maps.IsMap D ∧ ∀ x : Int, D.atKey (.int .i64 x) (.lit (.int .i64 0)) = .lit (.int .i64 (impl_IsSchedule.cnt C x j))
theorem zgv : Maps.Keyed Tryz.prog 3 := Maps.int_keyed Tryz.underlying3
theorem impl_IsSchedule.zero (w : World) : (zeroValue 3).run Tryz.prog w = .ok (.int .i64 0) w := by kernel_rfl
theorem zjl (C : List Int) (x : Int) : ∀ j, impl_IsSchedule.cnt C x j ≤ j
 | 0 => zlr _
 | j + 1 => by
   have := zjl C x j
   unfold impl_IsSchedule.cnt
   split <;> omega
theorem zlf (C : List Int) (j : Nat) : impl_IsSchedule.cnt C (rd C j) (j + 1) = impl_IsSchedule.cnt C (rd C j) j + 1 := by
 rw [impl_IsSchedule.cnt, if_pos rfl]
theorem zof {j : Nat} {D : DataW Unit} {C : List Int} (h : impl_IsSchedule.holds D C j) (c : Int) (hc : c = (impl_IsSchedule.cnt C (rd C j) j : Int) + 1) :
   impl_IsSchedule.holds (D.put (.int .i64 (rd C j)) (.lit (.int .i64 c))) C (j + 1) := by
 refine ⟨h.1.put _ _, fun x => ?_⟩
 by_cases e : x = rd C j
 · subst e
   rw [Maps.atKey_put_same h.1 (show WideAt.IsKeyLit (.int .i64 (rd C j)) from trivial), zlf, hc]
   rfl
 · rw [Maps.atKey_put_other (by intro h'; injection h' with _ h''; exact e h''), h.2 x, impl_IsSchedule.cnt, if_neg (fun h' => e h'.symm)]
   rfl
theorem zla {x : Int} (h0 : 0 ≤ x) (h1 : x ≤ 4611686018427387904) : (Lit.int .i64 x).wf = true := by
 have := wrap64_wf x
 rwa [show wrap64 x = x by unfold wrap64; omega] at this
theorem zhq {a b : Int} (h : (.lit (.int .i64 a) : DataW Unit) = .lit (.int .i64 b)) : a = b := by
 injection h with h
 injection h with _ h
theorem zpe {T : List (List Int)} {C : List Int} {n : Nat} (h : zh9 T C n = true) : T.length = n ∧ n ≤ 1048576 ∧ (∀ j : Nat, j < n → (za5 T j).length = j ∧ ∀ i : Nat, i < j → -1000 ≤ rd (za5 T j) i ∧ rd (za5 T j) i ≤ 1000) ∧ ∀ j : Nat, j < n → 0 ≤ rd C j ∧ rd C j ≤ 1000 := by
 unfold zh9 at h
 simp only [Bool.and_eq_true, decide_eq_true_eq, List.all_eq_true, List.mem_range] at h
 obtain ⟨⟨⟨h1, h2⟩, h3⟩, h4⟩ := h
 exact ⟨h1, h2, fun j hj => h3 j hj, h4⟩
theorem zme (k : Nat) (A0 : Option Addr) (c0 : Nat) (l0 : List (S55)) (a1 : Int) (A2 : Option Addr) (c2 : Nat) (l2 : List Int) (r1 r2 : Bool) (w : World) (hr0 : Kd.C k55 w A0 l0.length l0) (hc0 : l0.length ≤ c0) (hr2 : Kd.C (Kd.int .i64) w A2 l2.length l2) (hc2 : l2.length ≤ c2) (h : zff k l0 a1 l2 = some (r1, r2)) :
   Calls Tryz.prog 27 #[.slice A0 l0.length c0, .int .i64 a1, .slice A2 l2.length c2] w fun e w' => e = .returned (.tuple #[.bool r1, .bool r2]) ∧ Below w.heap.size w w' := by
 have HR0 := zA hr0
 have HC0 := zA hc0
 have HR2 := zA hr2
 have HC2 := zA hc2
 clear hr0 hc0 hr2 hc2
 unfold zff at h
 replace h := Option.bind_eq_some_iff.1 h
 obtain ⟨b, hb, h⟩ := h
 have Hb := zA hb
 clear hb
 cases b with
 | false =>
   rw [if_pos rfl] at h
   obtain ⟨rfl, rfl⟩ := Prod.mk.inj (zsi h)
   clear h
   go_enter Tryz.func27, Tryz.ntmps27
   go_wp2_with fail
   (with_reducible refine (zbc k _ _ l0 false _ HR0.out HC0.out Hb.out).mono ?_)
   rintro e w1 ⟨rfl, hb⟩
   have HB := zA hb
   clear hb
   go_wp2_with fail
   go_ret2
   exact ⟨rfl, HB.out⟩
 | true =>
   rw [if_neg (by decide)] at h
   replace h := Option.bind_eq_some_iff.1 h
   obtain ⟨q, hq, h⟩ := h
   have Hq := zA hq
   clear hq
   cases q with
   | false =>
     rw [if_pos rfl] at h
     obtain ⟨rfl, rfl⟩ := Prod.mk.inj (zsi h)
     clear h
     go_enter Tryz.func27, Tryz.ntmps27
     go_wp2_with fail
     (with_reducible refine (zbc k _ _ l0 true _ HR0.out HC0.out Hb.out).mono ?_)
     rintro e w1 ⟨rfl, hb⟩
     have HB := zA hb
     clear hb
     go_wp2_with fail
     (with_reducible refine (zh4 a1 false _ Hq.out).mono ?_)
     rintro e w2 ⟨rfl, ⟨nd, rfl⟩⟩
     go_wp2_with fail
     go_ret2
     exact ⟨rfl, zbn HB.out _⟩
   | true =>
     rw [if_neg (by decide)] at h
     by_cases hlen : l2.length = l0.length
     rotate_left
     · rw [if_neg hlen] at h
       obtain ⟨rfl, rfl⟩ := Prod.mk.inj (zsi h)
       clear h
       have g0 : ((l2.length : Int) == (l0.length : Int)) = false := beq_eq_false_iff_ne.mpr (by omega)
       have g1 : ((l2.length : Int) != (l0.length : Int)) = true := bne_iff_ne.mpr (by omega)
       have g2 : (l2.length == l0.length) = false := by simpa using hlen
       go_enter Tryz.func27, Tryz.ntmps27
       go_wp2_with fail
       (with_reducible refine (zbc k _ _ l0 true _ HR0.out HC0.out Hb.out).mono ?_)
       rintro e w1 ⟨rfl, hb⟩
       have HB := zA hb
       clear hb
       go_wp2_with fail
       (with_reducible refine (zh4 a1 true _ Hq.out).mono ?_)
       rintro e w2 ⟨rfl, ⟨nd, rfl⟩⟩
       go_wp2_with fail
       go_ret2
       exact ⟨rfl, zbn HB.out _⟩
     rw [if_pos hlen] at h
     replace h := Option.bind_eq_some_iff.1 h
     obtain ⟨c, hc, h⟩ := h
     have Hc := zA hc
     clear hc
     have g0 : ((l2.length : Int) == (l0.length : Int)) = true := beq_iff_eq.mpr (by omega)
     have g1 : ((l2.length : Int) != (l0.length : Int)) = false := bne_eq_false_iff_eq.mpr (by omega)
     have g2 : (l2.length == l0.length) = true := by simpa using hlen
     have Hlen := zA hlen
     clear hlen
     cases c with
     | false =>
       rw [if_pos rfl] at h
       obtain ⟨rfl, rfl⟩ := Prod.mk.inj (zsi h)
       clear h
       go_enter Tryz.func27, Tryz.ntmps27
       go_wp2_with fail
       (with_reducible refine (zbc k _ _ l0 true _ HR0.out HC0.out Hb.out).mono ?_)
       rintro e w1 ⟨rfl, hb⟩
       have HB := zA hb
       clear hb
       go_wp2_with fail
       (with_reducible refine (zh4 a1 true _ Hq.out).mono ?_)
       rintro e w2 ⟨rfl, ⟨nd, rfl⟩⟩
       go_wp2_with fail
       (with_reducible refine (zgi k _ _ l0 _ _ l2 false _ (zCb HR0.out (zbn HB.out _)) HC0.out (zCb HR2.out (zbn HB.out _)) HC2.out Hc.out).mono ?_)
       rintro e w3 ⟨rfl, hb⟩
       have HB3 := zA (zab (zbn HB.out nd) hb)
       clear hb HB
       go_wp2_with fail
       go_ret2
       exact ⟨rfl, HB3.out⟩
     | true =>
       rw [if_neg (by decide)] at h
       replace h := Option.bind_eq_some_iff.1 h
       obtain ⟨T, hT, h⟩ := h
       have HT := zA hT
       clear hT
       by_cases ok : zh9 T l2 l0.length = true
       rotate_left
       · rw [if_neg ok] at h
         cases h
       rw [if_pos ok] at h
       obtain ⟨hr, rfl⟩ := Prod.mk.inj (zsi h)
       obtain ⟨o1, o2, o3, o4⟩ := zpe ok
       rw [← Hlen.out] at o1 o2 o3 o4 hr
       have O1 := zA o1
       have O3 := zA o3
       have O4 := zA o4
       have Hr := zA hr
       clear h ok o1 o3 o4 hr Hlen
       have hmm := @run_makeMap Tryz.prog
       go_enter Tryz.func27, Tryz.ntmps27
       go_wp2_with fail
       (with_reducible refine (zbc k _ _ l0 true _ HR0.out HC0.out Hb.out).mono ?_)
       rintro e w1 ⟨rfl, hb⟩
       have HB := zA hb
       clear hb
       go_wp2_with fail
       (with_reducible refine (zh4 a1 true _ Hq.out).mono ?_)
       rintro e w2 ⟨rfl, ⟨nd, rfl⟩⟩
       go_wp2_with fail
       (with_reducible refine (zgi k _ _ l0 _ _ l2 true _ (zCb HR0.out (zbn HB.out _)) HC0.out (zCb HR2.out (zbn HB.out _)) HC2.out Hc.out).mono ?_)
       rintro e w3 ⟨rfl, hb⟩
       have HB3 := zA (zab (zbn HB.out nd) hb)
       clear hb HB
       go_wp2_with fail
       (with_reducible refine (zh3 k _ _ l0 T _ (zCb HR0.out HB3.out) HC0.out HT.out).mono ?_)
       rintro e wD ⟨v, rfl, ho, hb⟩
       obtain ⟨A8, c8, rfl, hl8, hC8⟩ := Kd.S_reads ho
       have HB := zA (zab HB3.out hb)
       have HC8 := zA hC8
       have HL8 := zA hl8
       clear hb ho hC8 hl8 HB3
       go_wp2_with fail
       go_loopw [38] (fun v38 wr => ∃ (j : Nat) (D : DataW Unit), v38 = .int .i64 (j : Int) ∧ j ≤ l2.length ∧ Aside0 (wr.ownsMap Tryz.prog 3 (plainElem Tryz.prog 3) wD.heap.size j D) ∧ Aside0 (impl_IsSchedule.holds D l2 j) ∧ Aside0 ((List.range' j (l2.length - j)).all (zdz T l2 a1) = r1) ∧ Aside0 (Below wD.heap.size wD wr)) (fun v38 _ => l2.length - (intOf v38).toNat)
       case atStart =>
         refine ⟨0, .map [], rfl, Nat.zero_le _, ⟨World.ownsMap_made _ _ _ _⟩, ⟨Maps.isMap_empty, fun x => ?_⟩, ⟨by rw [Nat.sub_zero, ← List.range_eq_range']; exact Hr.out⟩, ⟨(Below.refl _ _).alloc (zlr _) _⟩⟩
         rfl
       clear Hr
       obtain ⟨j, D, rfl, hj, HO, HH, Hr, HD⟩ := hrel
       by_cases hlt : j < l2.length
       rotate_left
       · obtain rfl : j = l2.length := by omega
         have d1 : decide ((l2.length : Int) < (l2.length : Int)) = false := zdf (by omega)
         have hr := Hr.out
         rw [Nat.sub_self] at hr
         obtain rfl : true = r1 := hr
         clear Hr
         go_wp2_with fail
         go_ret2
         exact ⟨rfl, zhi HB.out HB.out.size HD.out⟩
       have d1 : decide ((j : Int) < (l2.length : Int)) = true := zdt (by omega)
       have d2 : decide (0 ≤ (j : Int)) = true := zdt (by omega)
       obtain ⟨x0, x1⟩ := O4.out j hlt
       obtain ⟨x, hx⟩ : ∃ x, rd l2 j = x := ⟨_, rfl⟩
       obtain ⟨ad2, e2, hx2⟩ := Kd.at_int (zCb HR2.out (zhi HB.out HB.out.size HD.out)) (j : Int) (by omega) (by omega)
       cases e2
       have hkey := Maps.keyOf_int_mk Tryz.underlying3 (zla x0 (by omega))
       have hcnt := HH.out.2 (rd l2 j)
       have hcl := zjl l2 (rd l2 j) j
       have hput := zof HH.out _ rfl
       have hself := zlf l2 j
       have hpass : zdz T l2 a1 j = (decide ((impl_IsSchedule.cnt l2 (rd l2 j) j : Int) + 1 ≤ a1) && (List.range j).all fun i => !zfv T l2 j i) := rfl
       have hall : (List.range' j (l2.length - j)).all (zdz T l2 a1) = (zdz T l2 a1 j && (List.range' (j + 1) (l2.length - (j + 1))).all (zdz T l2 a1)) := by
         rw [show l2.length - j = (l2.length - (j + 1)) + 1 by omega, List.range'_succ, List.all_cons]
       rw [Hr.out, hpass] at hall
       rw [hx] at hx2 hkey hcnt hcl hput hself hall x0 x1
       obtain ⟨m, hm⟩ : ∃ m : Nat, impl_IsSchedule.cnt l2 x j = m := ⟨_, rfl⟩
       rw [hm] at hcnt hcl hput hself hall
       have HX := zA hx
       have HKEY := zA hkey
       have HCNT := zA hcnt
       have HPUT := zA hput
       have HSELF := zA hself
       have HALL := zA hall
       clear hx hkey hcnt hput hself hall hpass hm Hr
       rw [Int.toNat_natCast] at hx2
       have tok1 : True := trivial
       have hm1 : (m : Int) ≤ 1048576 := by omega
       have hm0 : 0 ≤ (m : Int) := by omega
       by_cases hw : (m : Int) + 1 ≤ a1
       rotate_left
       · have d3 : decide (a1 < (m : Int) + 1) = true := zdt (by omega)
         have hr : r1 = false := by
           have h1 := HALL.out
           rw [zdf hw, Bool.false_and, Bool.false_and] at h1
           exact h1
         clear HALL
         subst hr
         go_wp2_with (first | (at_lookup; have _t := tok1; refine wpList_lookup_own_int _ rfl _ _ 71 rfl 3 3 .i64 zgv Tryz.underlying71 Tryz.underlying3 (impl_IsSchedule.zero _) wD.heap.size j _ rfl HO.out _ _ rfl HKEY.out ?_; intro c hat _; obtain rfl : c = (m : Int) := zhq (hat.symm.trans HCNT.out); clear hat tok1 _t) | (at_mapUpdate; refine wpList_mapUpdate_own _ rfl _ _ _ 71 rfl 3 3 zgv Tryz.underlying71 _ wD.heap.size j _ rfl HO.out (by unfold maxLen; omega) _ _ _ rfl rfl HKEY.out _ [] (plainElem_int Tryz.underlying3 (zla (x := (m : Int) + 1) (by omega) (by omega))) ?_; intro w1 hown1 hgrow1; have HO1 := zA hown1; have HD1 := zA (HD.out.grown hgrow1 HD.out.size (fun k hk => by cases hk; exact zlr _)); clear hown1 hgrow1 HO HD HH) | (at_lookup; refine wpList_lookup_own_int _ rfl _ _ 71 rfl 3 3 .i64 zgv Tryz.underlying71 Tryz.underlying3 (impl_IsSchedule.zero _) wD.heap.size (j + 1) _ rfl HO1.out _ _ rfl HKEY.out ?_; intro c hat _; obtain rfl : c = (m : Int) + 1 := (by have h_ := zhq (hat.symm.trans (HPUT.out.2 x)); rw [HSELF.out] at h_; omega); clear hat))
         go_ret2
         exact ⟨rfl, zhi HB.out HB.out.size HD1.out⟩
       have d3 : decide (a1 < (m : Int) + 1) = false := zdf (by omega)
       have d4 : decide ((j : Int) < (T.length : Int)) = true := zdt (zq51 O1)
       have hjT : j < T.length := by have := O1.out; omega
       have hRl := (O3.out j hlt).1
       have hRb := (O3.out j hlt).2
       have hbad : ∀ i : Nat, zfv T l2 j i = (decide (0 ≤ rd (za5 T j) i) && decide (rd l2 j < rd l2 i + rd (za5 T j) i)) := fun _ => rfl
       obtain ⟨R, hR0⟩ : ∃ R, za5 T (j : Int) = R := ⟨_, rfl⟩
       rw [hR0] at hRl hRb hbad
       rw [HX.out] at hbad
       have hR := zA hR0
       have HRL := zA hRl
       have HRB := zA hRb
       have HBAD := zA hbad
       clear hRl hRb hbad hR0
       go_wp2_with (first | (at_lookup; have _t := tok1; refine wpList_lookup_own_int _ rfl _ _ 71 rfl 3 3 .i64 zgv Tryz.underlying71 Tryz.underlying3 (impl_IsSchedule.zero _) wD.heap.size j _ rfl HO.out _ _ rfl HKEY.out ?_; intro c hat _; obtain rfl : c = (m : Int) := zhq (hat.symm.trans HCNT.out); clear hat tok1 _t) | (at_mapUpdate; refine wpList_mapUpdate_own _ rfl _ _ _ 71 rfl 3 3 zgv Tryz.underlying71 _ wD.heap.size j _ rfl HO.out (by unfold maxLen; omega) _ _ _ rfl rfl HKEY.out _ [] (plainElem_int Tryz.underlying3 (zla (x := (m : Int) + 1) (by omega) (by omega))) ?_; intro w1 hown1 hgrow1; have HO1 := zA hown1; have HD1 := zA (HD.out.grown hgrow1 HD.out.size (fun k hk => by cases hk; exact zlr _)); clear hown1 hgrow1 HO HD HH) | (at_lookup; refine wpList_lookup_own_int _ rfl _ _ 71 rfl 3 3 .i64 zgv Tryz.underlying71 Tryz.underlying3 (impl_IsSchedule.zero _) wD.heap.size (j + 1) _ rfl HO1.out _ _ rfl HKEY.out ?_; intro c hat _; obtain rfl : c = (m : Int) + 1 := (by have h_ := zhq (hat.symm.trans (HPUT.out.2 x)); rw [HSELF.out] at h_; omega); clear hat; have HCX := zA (zCb HR2.out (zhi HB.out HB.out.size HD1.out)); obtain ⟨ad8, Aj, cj, e8, hx8, hlj, hCj⟩ := zln (zCb HC8.out HD1.out) (j : Int) (by omega) (by have h_ := O1.out; omega); cases e8; rw [Int.toNat_natCast] at hx8; rw [hR.out] at hx8 hlj hCj; have HCJ := zA hCj; clear hCj hlj))
       go_loop [57] (fun v57 => ∃ i : Nat, v57 = .int .i64 (i : Int) ∧ i ≤ R.length ∧ Aside0 ((List.range i).all (fun i => !zfv T l2 j i) = true)) (fun v57 => R.length - (intOf v57).toNat)
       case atStart => exact ⟨0, rfl, Nat.zero_le _, ⟨rfl⟩⟩
       obtain ⟨i, rfl, hi, HI⟩ := hrel
       by_cases hil : i < R.length
       rotate_left
       · obtain rfl : i = R.length := by omega
         have d5 : decide ((R.length : Int) < (R.length : Int)) = false := zdf (by omega)
         go_wp2_with fail
         go_roundw
         case rel =>
           refine ⟨j + 1, _, by go_num, by omega, HO1, HPUT, ⟨?_⟩, HD1⟩
           have h1 := HALL.out
           have h2 := HI.out
           rw [HRL.out] at h2
           rw [h2, zdt hw, Bool.true_and, Bool.true_and] at h1
           exact h1.symm
         case measure => simp [intOf]; omega
       have hij : i < j := by have := HRL.out; omega
       have d5 : decide ((i : Int) < (R.length : Int)) = true := zdt (by omega)
       have d6 : decide (0 ≤ (i : Int)) = true := zdt (by omega)
       have d7 : decide ((i : Int) < (l2.length : Int)) = true := zdt (by omega)
       have hil2 : i < l2.length := by omega
       obtain ⟨adj, ej, hxj⟩ := Kd.at_int HCJ.out (i : Int) (by omega) (by omega)
       cases ej
       obtain ⟨ad9, e9, hxi⟩ := Kd.at_int HCX.out (i : Int) (by omega) (by omega)
       cases e9
       rw [Int.toNat_natCast] at hxj hxi
       have hb1 := HRB.out i hij
       have hb2 := O4.out i (by omega)
       have hb3 := HBAD.out i
       obtain ⟨d, hd⟩ : ∃ d, rd R (i : Int) = d := ⟨_, rfl⟩
       obtain ⟨y, hy⟩ : ∃ y, rd l2 (i : Int) = y := ⟨_, rfl⟩
       rw [hd] at hxj hb1 hb3
       rw [hy] at hxi hb2 hb3
       have HB3 := zA hb3
       clear hd hy hb3
       obtain ⟨b1, b2⟩ := hb1
       obtain ⟨b3, b4⟩ := hb2
       by_cases hd0 : 0 ≤ d
       rotate_left
       · have d8 : decide (0 ≤ d) = false := zdf hd0
         go_wp2_with fail
         go_round
         case rel =>
           refine ⟨i + 1, by go_num, by omega, ⟨?_⟩⟩
           rw [List.range_succ, List.all_append, HI.out, List.all_cons, List.all_nil, HB3.out, zdf hd0, Bool.false_and]
           rfl
         case measure => simp [intOf]; omega
       have d8 : decide (0 ≤ d) = true := zdt hd0
       by_cases hlt2 : x < y + d
       rotate_left
       · have d9 : decide (x < y + d) = false := zdf hlt2
         go_wp2_with fail
         go_round
         case rel =>
           refine ⟨i + 1, by go_num, by omega, ⟨?_⟩⟩
           rw [List.range_succ, List.all_append, HI.out, List.all_cons, List.all_nil, HB3.out, zdf hlt2, Bool.and_false]
           rfl
         case measure => simp [intOf]; omega
       have d9 : decide (x < y + d) = true := zdt hlt2
       have hr : r1 = false := by
         have h1 := HALL.out
         have h2 : ((List.range j).all fun i => !zfv T l2 j i) = false := by
           rw [List.all_eq_false]
           refine ⟨i, List.mem_range.2 hij, ?_⟩
           rw [HB3.out, zdt hd0, zdt hlt2]
           decide
         rw [h2] at h1
         simpa using h1
       clear HALL
       subst hr
       go_wp2_with fail
       go_ret2
       exact ⟨rfl, zhi HB.out HB.out.size HD1.out⟩
end Go.Proofs.YtabnafbgcpchdaaGreat.Q
end
section
namespace Go.Proofs.YtabnafbgcpchdaaGreat.Q
open Go.RowKit Go.Shelf Go.Proofs.YtabnafbgcpchdaaGreatW.PrintWords Go.Proofs.YtabnafbgcpchdaaGreatW.PrintLast Go.Proofs.YtabnafbgcpchdaaGreatW.PrintMore
set_option linter.unusedVariables false
attribute [local go_sem] Oper.semAt_some
def ztp (n₀ Bs : Nat) (W W' : World) : Prop := Below n₀ W W' ∧ ∀ v, W.cell? ⟨Bs, 0, none⟩ = some v → W'.cell? ⟨Bs, 0, none⟩ = some v
theorem zsh {n₀ Bs : Nat} {A B C : World} (h : ztp n₀ Bs A B) (k : ztp n₀ Bs B C) : ztp n₀ Bs A C := ⟨h.1.trans k.1, fun v e => k.2 v (h.2 v e)⟩
def ztg (xs : List S55) (i : Int) : Array Value := #[.int .i64 i, .agg #[.string (zaa xs i).f0, .int .i64 (zaa xs i).f1, .int .i64 (zaa xs i).f2, .int .i64 (zaa xs i).f3, .int .i64 (zaa xs i).f4]]
def zmc (n d : Nat) : List { i : Nat // i < n } := (List.range d).filterMap fun j => if h : n - 1 - j < n then some ⟨n - 1 - j, h⟩ else none
theorem zmz (n d : Nat) (h : n - 1 - d < n) : zmc n (d + 1) = zmc n d ++ [⟨n - 1 - d, h⟩] := by
  unfold zmc
  rw [List.range_succ, List.filterMap_append]
  congr 1
  simp [h]
theorem zwa (n d : Nat) (h : d ≤ n) : (zmc n d).length = d := by
  induction d with
  | zero => rfl
  | succ d ih => rw [zmz n d (by omega), List.length_append, ih (by omega)]; rfl
set_option maxRecDepth 100000 in
set_option maxHeartbeats 4000000 in
theorem ybw (F : Fence) (n : Nat) (h112 : F.fn 145) (hro : F.round = none) (hn : 1 ≤ n) (l Bs n₀ : Nat) (A : Option Addr) (c : Nat) (xs : List S55) (hxs : xs.length ≤ 1048576) (J Jx : List { i : Nat // i < xs.length } → World → Prop)
    (W : World) (hW : n₀ ≤ W.heap.size) (hR : ∀ W', Below n₀ W W' → Kd.C k55 W' A xs.length xs)
    (hY : ∀ pre x W1, J pre W1 → pre.length < xs.length → YieldAt F (n - 1) Tryz.prog l (ztg xs (x.1 : Nat)) W1 fun e W' =>
      (e = .returned (.bool true) ∧ J (pre ++ [x]) W' ∧ ztp n₀ Bs W1 W') ∨ (e = .returned (.bool false) ∧ Jx (pre ++ [x]) W'))
    (hBs : W.cell? ⟨Bs, 0, none⟩ = some (.slice A xs.length c)) (h0 : J [] W) :
    CallsIn F n Tryz.prog 145 #[.func (.yield l) #[] #[], .pointer (some ⟨Bs, 0, none⟩)] W fun e W' => (∃ v, e = .returned v) ∧
      ((∃ ys, ys = zmc xs.length xs.length ∧ J ys W') ∨ (∃ pre, (∃ d, d ≤ xs.length ∧ pre = zmc xs.length d) ∧ Jx pre W')) := by
  have hu57 := Tryz.underlying55
  refine callsIn_of_wp Tryz.func145 rfl h112 ?_ hro
  simp only [Tryz.ntmps145, List.size_toArray, List.length_cons, List.length_nil, Nat.reduceAdd, Nat.reduceSub, Array.replicate_succ, Array.replicate_zero, List.push_toArray, List.append_toArray, List.nil_append, List.cons_append]
  gi_wp2
  gi_loopw [3] (fun i wr => ∃ d : Nat, d ≤ xs.length ∧ i = .int .i64 ((xs.length : Int) - 1 - d) ∧ J (zmc xs.length d) wr ∧ ztp n₀ Bs W wr)
    (fun i _ => (intOf i + 1).toNat)
  case atStart => exact ⟨0, Nat.zero_le _, by simp, h0, Below.refl _ _, fun _ h => h⟩
  case round =>
    obtain ⟨d, hd, rfl, hJs, hnx⟩ := hrel
    have hBs' : wr.cell? ⟨Bs, 0, none⟩ = some (.slice A xs.length c) := hnx.2 _ hBs
    by_cases hlt : d < xs.length
    · have hx : xs.length - 1 - d < xs.length := by omega
      have e : (xs.length : Int) - 1 - d = ((xs.length - 1 - d : Nat) : Int) := by omega
      obtain ⟨fn, tmps, assign, body, hy, hRd⟩ := hY _ ⟨xs.length - 1 - d, hx⟩ wr hJs (by rw [zwa _ _ hd]; exact hlt)
      unfold ztg at hy
      dsimp only at hy
      rw [e]
      generalize hi : xs.length - 1 - d = i at *
      obtain ⟨ad, rfl, g0, g1, g2, g3, g4⟩ := zld (hR wr hnx.1) (i : Int) (by omega) (by omega)
      rw [Int.toNat_natCast] at g0 g1 g2 g3 g4
      gi_wp2
      refine hRd.mono ?_
      rintro e W3 (⟨rfl, hJ3, hk3⟩ | ⟨rfl, hJx3⟩)
      · gi_wp2
        go_roundw
        case rel => exact ⟨d + 1, by omega, by rw [show (xs.length : Int) - 1 - ((d + 1 : Nat) : Int) = (i : Int) - 1 by omega], by rw [zmz _ _ (by omega)]; simpa [hi] using hJ3, zsh hnx hk3⟩
        case measure => simp [intOf]
      · gi_wp2
        refine bodyPost_ret (results_none rfl _ _ _) rfl ?_
        exact ⟨⟨_, rfl⟩, .inr ⟨_, ⟨d + 1, by omega, rfl⟩, by rw [zmz _ _ (by omega)]; simpa [hi] using hJx3⟩⟩
    · obtain rfl : d = xs.length := by omega
      gi_wp2
      go_end0
      exact ⟨⟨_, rfl⟩, .inl ⟨_, rfl, hJs⟩⟩
theorem ydq {n₀ Bs : Nat} {w : World} (hn : n₀ ≤ w.heap.size) (W : World) (l : Nat) (o o' : Obj) (hl : w.heap.size ≤ l) (h : W.heap[l]? = some o) (hc : o.isCells = false) (hw : o.isWalk = false) : ztp n₀ Bs W (W.putObj l o') :=
  ⟨belowK_b hn W l o o' hl h hc hw, fun v e => Go.cell_kept e (grownBy_putObj' W l o') (fun r e' => by cases e'; exact ⟨o, h, hc⟩)⟩
set_option maxHeartbeats 1000000 in
theorem ydr (F : Fence) (n : Nat) (h95 : F.fn 121) (hro : F.round = none) (a : Option Addr) (len cap : Nat) (w : World) :
    CallsIn F n Tryz.prog 121 #[.slice a len cap] w fun e w' => e = .returned (.func (.func 145) #[] #[.pointer (some ⟨w.heap.size, 0, none⟩)]) ∧ w' = w.alloc (.cells #[.slice a len cap] 24) := by
  refine callsIn_of_wp Tryz.func121 rfl h95 ?_ hro
  simp only [Tryz.ntmps121, List.size_toArray, List.length_cons, List.length_nil, Nat.reduceAdd, Nat.reduceSub, Array.replicate_succ, Array.replicate_zero, List.push_toArray, List.append_toArray, List.nil_append, List.cons_append]
  gi_wp2
  go_ret
  exact ⟨rfl, rfl⟩
theorem zy9 (F : Fence) (n : Nat) (h112 : F.fn 145) (hro : F.round = none) (hn : 1 ≤ n) (Bs n₀ : Nat) (A : Option Addr) (c : Nat) (xs : List S55) (hxs : xs.length ≤ 1048576) (w : World) (hlt : Bs < w.heap.size) (hn₀ : n₀ ≤ w.heap.size)
    (hBs : w.cell? ⟨Bs, 0, none⟩ = some (.slice A xs.length c)) (hR : ∀ W', Below n₀ w W' → Kd.C k55 W' A xs.length xs) :
    SeqStopsK F n Tryz.prog 145 #[.pointer (some ⟨Bs, 0, none⟩)] (fun x : { i : Nat // i < xs.length } => ztg xs (x.1 : Nat)) (ztp n₀ Bs) (fun ys => ys = zmc xs.length xs.length) (fun _ => True) xs.length w := fun l J Jx W hW _ _ hY h0 => by
  refine (ybw F n h112 hro hn l Bs n₀ A c xs hxs J Jx W (Nat.le_trans hn₀ hW.size) (fun W' hb => hR W' ((hW.mono hn₀).trans hb)) hY ((hW.cell (p := ⟨Bs, 0, none⟩) hlt).trans hBs) h0).mono ?_
  rintro e W' ⟨he, ⟨ys, hy, hj⟩ | ⟨pre, _, hj⟩⟩
  · exact ⟨he, .inl ⟨_, hy, hj⟩⟩
  · exact ⟨he, .inr ⟨pre, trivial, hj⟩⟩
end Go.Proofs.YtabnafbgcpchdaaGreat.Q
end
section
namespace Go.Proofs.YtabnafbgcpchdaaGreat.Q
open Go.RowKit Go.Proofs.YtabnafbgcpchdaaGreatW.PrintLast
set_option linter.unusedVariables false
def zkr : List Oper → Nat → Nat → Option Nat
  | [], _, _ => none
  | o :: os, t, i => match o.dst with
    | some d => bif d == t then some i else zkr os t (i + 1)
    | none => zkr os t (i + 1)
theorem zm0 : ∀ (os : List Oper) (t i j : Nat), zkr os t i = some j → ∃ o, os[j - i]? = some o ∧ o.dst = some t ∧ i ≤ j
  | [], _, _, _, h => by cases h
  | o :: os, t, i, j, h => by
    unfold zkr at h
    cases hd : o.dst with
    | none =>
      rw [hd] at h
      obtain ⟨o', h1, h2, h3⟩ := zm0 os t (i + 1) j h
      exact ⟨o', by rw [show j - i = (j - (i + 1)) + 1 by omega]; simpa using h1, h2, by omega⟩
    | some d =>
      rw [hd] at h
      simp only at h
      cases hb : d == t with
      | true =>
        rw [hb] at h
        obtain rfl := Option.some.inj h
        exact ⟨o, by simp, by rw [hd, eq_of_beq hb], Nat.le_refl _⟩
      | false =>
        rw [hb] at h
        obtain ⟨o', h1, h2, h3⟩ := zm0 os t (i + 1) j h
        exact ⟨o', by rw [show j - i = (j - (i + 1)) + 1 by omega]; simpa using h1, h2, by omega⟩
def zmf (ops : List Oper) (L : Nat → Bool) (s : Nat → Value) (t : Nat) (v : Value) : Value := match zkr ops t 0 with
  | some j => bif L j then s j else v
  | none => v
def riGo (ops : List Oper) (L : Nat → Bool) (s : Nat → Value) : List Value → Nat → List Value
  | [], _ => []
  | v :: vs, t => zmf ops L s t v :: riGo ops L s vs (t + 1)
theorem zx9 (ops : List Oper) (L : Nat → Bool) (s : Nat → Value) : ∀ (vs : List Value) (t0 t : Nat), (riGo ops L s vs t0)[t]? = vs[t]?.map (zmf ops L s (t0 + t))
  | [], _, _ => by simp [riGo]
  | v :: vs, t0, 0 => by simp [riGo]
  | v :: vs, t0, t + 1 => by
    simp only [riGo, List.getElem?_cons_succ]
    rw [zx9 ops L s vs (t0 + 1) t, show t0 + 1 + t = t0 + (t + 1) by omega]
theorem zya (ops : List Oper) (L : Nat → Bool) (s : Nat → Value) : ∀ (vs : List Value) (t0 : Nat), (riGo ops L s vs t0).length = vs.length
  | [], _ => rfl
  | v :: vs, t0 => by rw [riGo, List.length_cons, List.length_cons, zya]
def zfa (ops : Array Oper) (L : Nat → Bool) (s : Nat → Value) (a : Act) : Act := { tmps := (riGo ops.toList L s a.tmps.toList 0).toArray, defers := a.defers }
theorem zjj (ops : Array Oper) (L : Nat → Bool) (s : Nat → Value) (a : Act) (t : Nat) : (zfa ops L s a).tmps[t]? = a.tmps[t]?.map (zmf ops.toList L s t) := by
  unfold zfa
  simp only [List.getElem?_toArray]
  rw [zx9, Nat.zero_add, Array.getElem?_toList]
theorem ztq (ops : Array Oper) (L : Nat → Bool) (s : Nat → Value) (a : Act) : (zfa ops L s a).tmps.size = a.tmps.size := by
  unfold zfa
  rw [List.size_toArray, zya, Array.length_toList]
def riUp {α : Type} (f : Nat → α) (i : Nat) (v : α) : Nat → α := fun j => bif Nat.beq j i then v else f j
theorem zok {α : Type} (f : Nat → α) (i : Nat) (v : α) : riUp f i v i = v := by simp [riUp]
theorem zqm {α : Type} (f : Nat → α) (i : Nat) (v : α) {j : Nat} (h : j ≠ i) : riUp f i v j = f j := by
  have : Nat.beq j i = false := by
    cases hb : Nat.beq j i with
    | false => rfl
    | true => exact absurd (Nat.eq_of_beq_eq_true hb) h
  simp [riUp, this]
theorem ztr {a b : Act} (h1 : ∀ t : Nat, a.tmps[t]? = b.tmps[t]?) (h2 : a.defers = b.defers) : a = b := by
  obtain ⟨x, y⟩ := a
  obtain ⟨x', y'⟩ := b
  simp only at h1 h2
  rw [h2, Array.ext_getElem? h1]
def riOk (md : Region.Mode) (ops : Array Oper) (size : Nat) (deps nots : List (List Nat)) : Bool :=
  Region.noSelect ops && (List.range ops.size).all fun i => match ops[i]? with
    | none => false
    | some o => (match o.dst with | some d => zkr ops.toList d 0 == some i && Nat.blt d size | none => true) && (match o.op with | .defer _ => false | _ => true) &&
      o.after.all (fun e => !Region.binds md e || Nat.blt e.on i) && (o.looksAt ops).all (fun t => match zkr ops.toList t 0 with | some j => (deps.getD i []).contains j || (nots.getD i []).contains j | none => true) &&
      (deps.getD i []).all (fun j => zck md ops j ops.size i) && (nots.getD i []).all (fun j => Nat.blt j ops.size && zck md ops i ops.size j)
theorem zuf {md : Region.Mode} {ops : Array Oper} {listed : Array Bool} {i d fuel : Nat} (hc : ListedClosed md ops listed) (hr : zck md ops i fuel d = true) (hd : d ∈ Region.ready md ops listed) : listed.getD i false = true := by
  obtain ⟨_, o, ho, hall⟩ := mem_ready.1 hd
  cases fuel with
  | zero => simp [zck] at hr
  | succ n =>
    unfold zck at hr
    rw [ho] at hr
    obtain ⟨e, he, h1⟩ := Array.any_eq_true'.1 hr
    simp only [Bool.and_eq_true, Bool.or_eq_true, beq_iff_eq] at h1
    have hle := hall e he h1.1
    rcases h1.2 with h2 | h2
    · rw [← h2]; exact hle
    · exact zjd hc n e.on h2 hle
theorem zrh {md : Region.Mode} {ops : Array Oper} {size : Nat} {deps nots : List (List Nat)} (h : ∀ x, x < ops.size → (match ops[x]? with
    | none => false
    | some o => (match o.dst with | some d => zkr ops.toList d 0 == some x && Nat.blt d size | none => true) && (match o.op with | .defer _ => false | _ => true) &&
      o.after.all (fun e => !Region.binds md e || Nat.blt e.on x) && (o.looksAt ops).all (fun t => match zkr ops.toList t 0 with | some j => (deps.getD x []).contains j || (nots.getD x []).contains j | none => true) &&
      (deps.getD x []).all (fun j => zck md ops j ops.size x) && (nots.getD x []).all (fun j => Nat.blt j ops.size && zck md ops x ops.size j)) = true) : ∀ {j fuel i : Nat}, i < ops.size → zck md ops j fuel i = true → j < i
  | j, 0, i, _, hr => by simp [zck] at hr
  | j, fuel + 1, i, hi, hr => by
    unfold zck at hr
    have h1 := h i hi
    rw [Array.getElem?_eq_getElem hi] at hr h1
    obtain ⟨e, he, h2⟩ := Array.any_eq_true'.1 hr
    simp only [Bool.and_eq_true, Array.all_eq_true_iff_forall_mem] at h1
    simp only [Bool.and_eq_true, Bool.or_eq_true, beq_iff_eq] at h2
    have h3 : e.on < i := by simpa [Nat.blt_eq, h2.1] using h1.1.1.1.2 e he
    rcases h2.2 with h4 | h4
    · omega
    · have := zrh h (by omega) h4
      omega
def zqj (P : Program) (Q : Exit → Act → World → Prop) (ops : Array Oper) (o : Oper) (b : Act) (Kv : Value → World → Prop) (w : World) : Prop :=
  ∀ K : Act → World → Prop, Shut (∀ v w', Kv v w' → K (b.put o.dst v) w') → if Region.wanted o (yielded ops b.tmps) = true then Oper.wp P o b w K Q else K (b.put o.dst undef) w
theorem yds {P : Program} {Q : Exit → Act → World → Prop} {ops : Array Oper} {i : Nat} {o : Oper} {a b : Act} {w : World} {K : Act → World → Prop} {Kv : Value → World → Prop} (hi : ops[i]? = some o) (hQ : ∀ c t t' d w, Q (.panic c) ⟨t, d⟩ w → Q (.panic c) ⟨t', d⟩ w)
    (hdef : a.defers = b.defers) (hsel : ∀ cs b, o.op ≠ .select cs b) (hlook : ∀ t ∈ o.looksAt ops, a.tmps[t]? = b.tmps[t]?) (hlt : ∀ t, o.dst = some t → t < b.tmps.size) (hstep : zqj P Q ops o b Kv w) (hK : ∀ v w', Kv v w' → ∀ u, (∀ t, o.dst = some t → u = v) → K (a.put o.dst u) w') : wpOp P ops Q i K a w := by
  have hQ' : ∀ c w, Q (.panic c) b w → Q (.panic c) a w := fun c w h => by
    obtain ⟨t, d⟩ := a
    obtain ⟨t', d'⟩ := b
    simp only at hdef
    subst hdef
    exact hQ _ _ _ _ _ h
  have hev : ∀ x ∈ o.op.operands, a.eval x = b.eval x := fun x hx => by
    cases x with
    | tmp t =>
      have := hlook t (List.mem_append_left _ (List.mem_filterMap.2 ⟨.tmp t, by simpa using hx, rfl⟩))
      simp [Act.eval, this]
    | _ => rfl
  have he : execOp a.eval o = execOp b.eval o := execOp_congr o hsel hev
  have hw : Region.wanted o (yielded ops a.tmps) = Region.wanted o (yielded ops b.tmps) := by
    unfold Region.wanted
    cases hg : o.guard with
    | none => rfl
    | some gw =>
      obtain ⟨g, want⟩ := gw
      have hy : yielded ops a.tmps g = yielded ops b.tmps g := by
        unfold yielded
        cases ht : (ops[g]?).bind (·.dst) with
        | none => rfl
        | some t =>
          have := hlook t (by simp [Oper.looksAt, hg, ht])
          simp [this]
      simp only [hy]
  obtain ⟨Kb, hKb⟩ : ∃ Kb : Act → World → Prop, Kb = fun b' w' => b'.defers = b.defers ∧ ∃ v, (∀ t, o.dst = some t → b'.tmps[t]? = some v) ∧ Kv v w' := ⟨_, rfl⟩
  have h := hstep Kb (fun v w' hv => by
    rw [hKb]
    refine ⟨by cases o.dst <;> rfl, v, fun t ht => ?_, hv⟩
    rw [ht]
    simp [Act.put, hlt t ht])
  have fin : ∀ (u : Value) (w' : World), Kb (b.put o.dst u) w' → K (a.put o.dst u) w' := fun u w' hk => by
    rw [hKb] at hk
    obtain ⟨_, v, hv, hkv⟩ := hk
    refine hK v w' hkv u (fun t ht => ?_)
    have := hv t ht
    rw [ht] at this
    simpa [Act.put, hlt t ht] using this
  have finD : ∀ (d : Deferred) (u : Value) (w' : World), ¬ Kb ({ b with defers := d :: b.defers }.put o.dst u) w' := fun d u w' hk => by
    rw [hKb] at hk
    have h1 := hk.1
    cases hd : o.dst <;> rw [hd] at h1 <;> simp [Act.put] at h1
  unfold wpOp
  rw [hi]
  simp only
  rw [hw]
  split
  · rename_i hwt
    rw [if_pos hwt] at h
    refine .inl ?_
    unfold Oper.wp at h ⊢
    rw [he]
    generalize (execOp b.eval o).run P w = r at h ⊢
    cases r with
    | ok n w' =>
      cases n <;> simp only [Oper.upon] at h ⊢
      case value u => exact fin _ _ h
      case skip => exact fin _ _ h
      case defer d => exact absurd h (finD _ _ _)
      case enter f args =>
        refine Calls.mono h fun e w'' hh => ?_
        cases e with
        | returned u => exact fin _ _ hh
        | panicked c => exact hQ' _ _ hh
        | outgrown => exact hh
      case row row args => exact Rows.mono h fun u w'' hh => fin _ _ hh
    | halt x w' =>
      cases x <;> simp only [Oper.upon] at h ⊢
      case panic u => exact hQ' _ _ h
  · rename_i hwf
    rw [if_neg hwf] at h
    exact fin _ _ h
def zlz : List Nat → Nat → Bool
  | [], _ => false
  | d :: ds, j => bif d == j then true else zlz ds j
theorem zyb : ∀ (ds : List Nat) (j : Nat), j ∈ ds → zlz ds j = true
  | d :: ds, j, h => by
    unfold zlz
    cases hb : d == j with
    | true => rfl
    | false =>
      rcases List.mem_cons.1 h with rfl | h
      · simp at hb
      · exact zyb ds j h
theorem zri : ∀ (ds : List Nat) (j : Nat), zlz ds j = true → j ∈ ds
  | d :: ds, j, h => by
    unfold zlz at h
    cases hb : d == j with
    | true => rw [eq_of_beq hb]; simp
    | false =>
      rw [hb] at h
      exact List.mem_cons_of_mem _ (zri ds j h)
def zvc (b : Bool) (L : Nat → Bool) : List Nat → Prop
  | [] => True
  | [d] => L d = b
  | d :: d' :: ds => L d = b ∧ zvc b L (d' :: ds)
theorem zvd (b : Bool) (L : Nat → Bool) : ∀ (ds : List Nat), (∀ j ∈ ds, L j = b) → zvc b L ds
  | [], _ => trivial
  | [d], h => h d (by simp)
  | d :: d' :: ds, h => ⟨h d (by simp), zvd b L (d' :: ds) (fun j hj => h j (by simp [List.mem_cons.1 hj]))⟩
def zsj (P : Program) (Q : Exit → Act → World → Prop) (ops : Array Oper) (a : Act) (I : (Nat → Bool) → (Nat → Value) → World → Prop) : List Oper → List (List Nat) → List (List Nat) → Nat → Prop
  | [], _, _, _ => True
  | o :: os, deps, nots, i => (∀ L s w, L i = false → zvc true L (deps.headD []) → zvc false L (nots.headD []) → I L s w → zqj P Q ops o (zfa ops (zlz (deps.headD [])) s a) (fun v w' => I (riUp L i true) (riUp s i v) w') w) ∧
      zsj P Q ops a I os deps.tail nots.tail (i + 1)
theorem zuo {P : Program} {Q : Exit → Act → World → Prop} {ops : Array Oper} {a : Act} {I : (Nat → Bool) → (Nat → Value) → World → Prop} : ∀ (os : List Oper) (deps nots : List (List Nat)) (i0 i : Nat) (o : Oper), zsj P Q ops a I os deps nots i0 → os[i]? = some o →
    ∀ L s w, L (i0 + i) = false → zvc true L (deps.getD i []) → zvc false L (nots.getD i []) → I L s w → zqj P Q ops o (zfa ops (zlz (deps.getD i [])) s a) (fun v w' => I (riUp L (i0 + i) true) (riUp s (i0 + i) v) w') w
  | [], _, _, _, _, _, _, h => by simp at h
  | o :: os, deps, nots, i0, 0, o', hs, h => by
    simp at h
    subst h
    have := hs.1
    rw [show deps.headD [] = deps.getD 0 [] by cases deps <;> rfl, show nots.headD [] = nots.getD 0 [] by cases nots <;> rfl] at this
    exact this
  | o :: os, deps, nots, i0, i + 1, o', hs, h => by
    have := zuo os deps.tail nots.tail (i0 + 1) i o' hs.2 (by simpa using h)
    rw [show i0 + 1 + i = i0 + (i + 1) by omega, show deps.tail.getD i [] = deps.getD (i + 1) [] by cases deps <;> simp, show nots.tail.getD i [] = nots.getD (i + 1) [] by cases nots <;> simp] at this
    exact this
theorem ybx {α : Type} (p q : α → Bool) (l : List α) (x : α) (hx : x ∈ l) (h : ∀ y, p y = true → q y = true) (hq : q x = true) (hp : p x = false) : l.countP p < l.countP q := by
  induction l with
  | nil => cases hx
  | cons y ys ih =>
    rw [List.countP_cons, List.countP_cons]
    have hle : ys.countP p ≤ ys.countP q := List.countP_mono_left (fun z _ hz => h z hz)
    rcases List.mem_cons.1 hx with rfl | hx
    · rw [hq, hp]
      simp
      omega
    · have := ih hx
      cases hpy : p y with
      | false => simp; omega
      | true => rw [h y hpy]; omega
theorem zyc {P : Program} {Q : Exit → Act → World → Prop} {md : Region.Mode} {ops : Array Oper} {a : Act} {w : World} (deps nots : List (List Nat)) (I : (Nat → Bool) → (Nat → Value) → World → Prop) (hQ : ∀ c t t' d w, Q (.panic c) ⟨t, d⟩ w → Q (.panic c) ⟨t', d⟩ w)
    (hok : riOk md ops a.tmps.size deps nots = true) (h0 : I (fun _ => false) (fun _ => undef) w) (hs : zsj P Q ops a I ops.toList deps nots 0)
    (hend : ∀ L s w', (∀ i, Nat.blt i ops.size = true → L i = true) → I L s w' → Q .normal (zfa ops (fun _ => true) s a) w') :
    wpAny P md ops Q ops.size (Array.replicate ops.size false) a w := by
  unfold riOk at hok
  simp only [Bool.and_eq_true, List.all_eq_true, List.mem_range] at hok
  obtain ⟨hsel, hall⟩ := hok
  have gen : ∀ (fuel : Nat) (listed : Array Bool) (s : Nat → Value) (w : World), listed.size = ops.size → ListedClosed md ops listed → ((List.range ops.size).countP (fun i => !listed.getD i false)) ≤ fuel → I (fun i => listed.getD i false) s w →
      wpAny P md ops Q fuel listed (zfa ops (fun i => listed.getD i false) s a) w := by
    have hready : ∀ (listed : Array Bool) (s : Nat → Value) (w : World), listed.size = ops.size → I (fun i => listed.getD i false) s w → Region.ready md ops listed = [] → Q .normal (zfa ops (fun i => listed.getD i false) s a) w := by
      intro listed s w hsz hI hr
      have hL : ∀ n, n < ops.size → listed.getD n false = true := by
        intro n
        induction n using Nat.strongRecOn with
        | _ n ih =>
          intro hn
          cases hb : listed.getD n false with
          | true => rfl
          | false =>
            have h1 := hall n hn
            rw [Array.getElem?_eq_getElem hn] at h1
            simp only [Bool.and_eq_true, Array.all_eq_true_iff_forall_mem] at h1
            have : n ∈ Region.ready md ops listed := mem_ready.2 ⟨by simpa [Array.getD, hsz, hn] using hb, ops[n], Array.getElem?_eq_getElem hn, fun e he hbe => by
              have h2 := h1.1.1.1.2 e he
              have h3 : e.on < n := by simpa [Nat.blt_eq, hbe] using h2
              exact ih e.on h3 (by omega)⟩
            rw [hr] at this
            cases this
      have hI' := hend (fun i => listed.getD i false) s w (fun i hi => hL i (by simpa [Nat.blt_eq] using hi)) hI
      refine (ztr (fun t => ?_) rfl : zfa ops (fun i => listed.getD i false) s a = zfa ops (fun _ => true) s a) ▸ hI'
      rw [zjj, zjj]
      congr 1
      funext v
      unfold zmf
      cases hf : zkr ops.toList t 0 with
      | none => rfl
      | some j =>
        obtain ⟨o, ho, _, _⟩ := zm0 _ _ _ _ hf
        have hj : j < ops.size := by
          have := (List.getElem?_eq_some_iff.1 ho).1
          simpa using this
        simp only
        rw [hL j hj]
    intro fuel
    induction fuel with
    | zero =>
      intro listed s w hsz hc hn hI
      have hr : Region.ready md ops listed = [] := by
        cases hr : Region.ready md ops listed with
        | nil => rfl
        | cons i rs =>
          have hi : i ∈ Region.ready md ops listed := by rw [hr]; simp
          obtain ⟨h1, o, ho, _⟩ := mem_ready.1 hi
          have hlt := (Array.getElem?_eq_some_iff.1 ho).1
          have : 0 < (List.range ops.size).countP (fun i => !listed.getD i false) := List.countP_pos_iff.2 ⟨i, List.mem_range.2 hlt, by
            have : listed.getD i false = false := by simpa [Array.getD, hsz, hlt] using h1
            simp [this]⟩
          omega
      exact ⟨hr, hready listed s w hsz hI hr⟩
    | succ fuel ih =>
      intro listed s w hsz hc hn hI
      refine ⟨hready listed s w hsz hI, fun i hi => ?_⟩
      obtain ⟨hun, o, ho, _⟩ := mem_ready.1 hi
      have hlt := (Array.getElem?_eq_some_iff.1 ho).1
      have hun' : listed.getD i false = false := by simpa [Array.getD, hsz, hlt] using hun
      have h1 := hall i hlt
      rw [ho] at h1
      simp only [Bool.and_eq_true, List.all_eq_true] at h1
      obtain ⟨⟨⟨⟨⟨hd, _⟩, _⟩, hlook⟩, hdeps⟩, hnots⟩ := h1
      have hdl : ∀ j ∈ deps.getD i [], listed.getD j false = true := fun j hj => zuf hc (hdeps j hj) hi
      have hnl : ∀ j ∈ nots.getD i [], listed.getD j false = false := fun j hj => by
        have h2 := hnots j hj
        cases hb : listed.getD j false with
        | false => rfl
        | true =>
          have := zjd hc ops.size j h2.2 hb
          rw [hun'] at this
          cases this
      have hst := zuo ops.toList deps nots 0 i o hs (by simpa using ho) (fun i => listed.getD i false) s w (by simpa using hun') (zvd _ _ _ hdl) (zvd _ _ _ hnl) hI
      rw [Nat.zero_add] at hst
      have hsz' : (zfa ops (zlz (deps.getD i [])) s a).tmps.size = a.tmps.size := by
        exact ztq _ _ _ _
      refine yds (b := zfa ops (zlz (deps.getD i [])) s a) ho hQ rfl (Region.noSelect_spec hsel i o · · ho) ?_ ?_ hst ?_
      · intro t ht
        rw [zjj, zjj]
        congr 1
        funext v
        unfold zmf
        have h2 := hlook t ht
        cases hf : zkr ops.toList t 0 with
        | none => rfl
        | some j =>
          rw [hf] at h2
          simp only at h2 ⊢
          rcases Bool.or_eq_true_iff.1 h2 with h3 | h3
          · rw [hdl j (by simpa using h3), zyb _ j (by simpa using h3)]
          · have h4 := hnl j (by simpa using h3)
            rw [h4, show zlz (deps.getD i []) j = false by
              cases hm : zlz (deps.getD i []) j with
              | false => rfl
              | true => exact absurd (h4.symm.trans (hdl j (zri _ j hm))) (by simp)]
      · intro t ht
        rw [ht] at hd
        simp only [Bool.and_eq_true] at hd
        rw [hsz']
        simpa [Nat.blt_eq] using hd.2
      · intro v w' hv u hu
        have hset : (fun j => (listed.setIfInBounds i true).getD j false) = riUp (fun i => listed.getD i false) i true := by
          funext j
          by_cases hij : j = i
          · subst hij
            rw [zok]
            simp [Array.getD, hsz, hlt]
          · rw [zqm _ _ _ hij, getD_set_ne false (Ne.symm hij)]
        have hfill : (zfa ops (fun i => listed.getD i false) s a).put o.dst u = zfa ops (fun j => (listed.setIfInBounds i true).getD j false) (riUp s i v) a := by
          rw [hset]
          have hother : ∀ t, o.dst ≠ some t → (zfa ops (riUp (fun i => listed.getD i false) i true) (riUp s i v) a).tmps[t]? = (zfa ops (fun i => listed.getD i false) s a).tmps[t]? := by
            intro t hne
            rw [zjj, zjj]
            congr 1
            funext x
            unfold zmf
            cases hf : zkr ops.toList t 0 with
            | none => rfl
            | some j =>
              have hji : j ≠ i := fun e => by
                obtain ⟨o', ho', hd', _⟩ := zm0 _ _ _ _ hf
                subst e
                rw [Nat.sub_zero] at ho'
                have : o' = o := Option.some.inj (ho'.symm.trans (by simpa using ho))
                subst this
                exact hne hd'
              simp only
              rw [zqm _ _ _ hji, zqm _ _ _ hji]
          cases hdst : o.dst with
          | none =>
            refine ztr (fun t => ?_) rfl
            exact (hother t (by rw [hdst]; simp)).symm
          | some d =>
            rw [hdst] at hd
            simp only [Bool.and_eq_true, beq_iff_eq] at hd
            obtain rfl := hu d hdst
            refine ztr (fun t => ?_) rfl
            by_cases htd : t = d
            · subst htd
              rw [zjj]
              have hlt' : t < a.tmps.size := by simpa [Nat.blt_eq] using hd.2
              have e2 : zmf ops.toList (riUp (fun i => listed.getD i false) i true) (riUp s i u) t = fun _ => u := by
                funext x
                unfold zmf
                rw [hd.1]
                simp only
                rw [zok, zok]
                rfl
              rw [e2, Array.getElem?_eq_getElem hlt']
              have hlt2 : t < (zfa ops (fun i => listed.getD i false) s a).tmps.size := by
                rw [ztq]
                exact hlt'
              have e4 : ∀ (A : Act), t < A.tmps.size → (A.put (some t) u).tmps[t]? = some u := fun A hA => by simp [Act.put, hA]
              rw [e4 _ hlt2]
              rfl
            · rw [hother t (by rw [hdst]; simpa using Ne.symm htd)]
              simp [Act.put, Array.getElem?_setIfInBounds_ne (Ne.symm htd)]
        rw [hfill]
        refine ih _ _ _ (by simpa using hsz) (hc.set hi) ?_ (by rw [hset]; exact hv)
        have hcount : (List.range ops.size).countP (fun j => !(listed.setIfInBounds i true).getD j false) < (List.range ops.size).countP (fun j => !listed.getD j false) := by
          refine ybx _ _ _ i (List.mem_range.2 hlt) (fun j hj => ?_) (by simpa using hun') ?_
          · by_cases hij : i = j
            · subst hij
              simp [Array.getD, hsz, hlt] at hj
            · rw [getD_set_ne false hij] at hj
              exact hj
          · simp [Array.getD, hsz, hlt]
        omega
  have e0 : (fun i => (Array.replicate ops.size false).getD i false) = fun _ => false := by
    funext i
    simp [Array.getD]
  have := gen ops.size (Array.replicate ops.size false) (fun _ => undef) w (by simp) (fun j oj hj hl => by simp [Array.getD] at hl) (by
    have := List.countP_le_length (p := fun i => !(Array.replicate ops.size false).getD i false) (l := List.range ops.size)
    simpa using this) (by rw [e0]; exact h0)
  rw [e0] at this
  have e3 : zfa ops (fun _ => false) (fun _ => undef) a = a := ztr (fun t => by
    rw [zjj]
    have : zmf ops.toList (fun _ => false) (fun _ => undef) t = fun v => v := by
      funext v
      unfold zmf
      cases zkr ops.toList t 0 <;> rfl
    rw [this]
    simp) rfl
  rw [e3] at this
  exact this
theorem zz1 {P : Program} {Q : Exit → Act → World → Prop} {ops : Array Oper} {id : Nat} {a : Act} {w : World} (deps nots : List (List Nat)) (I : (Nat → Bool) → (Nat → Value) → World → Prop) (hm : P.follows .mixedOrders = true) (hQ : ∀ c t t' d w, Q (.panic c) ⟨t, d⟩ w → Q (.panic c) ⟨t', d⟩ w)
    (hok : riOk .any ops a.tmps.size deps nots = true) (h0 : I (fun _ => false) (fun _ => undef) w.drew) (hs : zsj P Q ops a I ops.toList deps nots 0)
    (hend : ∀ L s w', (∀ i, Nat.blt i ops.size = true → L i = true) → I L s w' → Q .normal (zfa ops (fun _ => true) s a) w') : (Code.region id ops true).wp P Q a w :=
  wp_region_any hm (zyc deps nots I hQ hok h0 hs hend)
def zs5 : List Value → Nat → Value
  | [], _ => undef
  | v :: _, 0 => v
  | _ :: vs, n + 1 => zs5 vs n
def yex (P : Program) (ops : Array Oper) (o : Oper) (b : Act) (v : Value) (w : World) : Prop :=
  (Region.wanted o (yielded ops b.tmps) = true ∧ (execOp b.eval o).run P w = .ok (.value v) w) ∨ (Region.wanted o (yielded ops b.tmps) = false ∧ v = undef)
def zyd (P : Program) (ops : Array Oper) (V : Nat → Value) (a : Act) (w : World) : List Oper → List (List Nat) → Nat → Prop
  | [], _, _ => True
  | [_], _, _ => True
  | o :: o' :: os, deps, i => yex P ops o (zfa ops (zlz (deps.headD [])) V a) (V i) w ∧ zyd P ops V a w (o' :: os) deps.tail (i + 1)
theorem zwb {P : Program} {ops : Array Oper} {V : Nat → Value} {a : Act} {w : World} : ∀ (os : List Oper) (deps : List (List Nat)) (i0 i : Nat) (o : Oper), zyd P ops V a w os deps i0 → os[i]? = some o → i + 1 < os.length → yex P ops o (zfa ops (zlz (deps.getD i [])) V a) (V (i0 + i)) w
  | [], _, _, _, _, _, h, _ => by simp at h
  | [_], _, _, _, _, _, _, h => by simp at h
  | o :: o' :: os, deps, i0, 0, x, hs, h, _ => by
    simp at h
    subst h
    have := hs.1
    rw [show deps.headD [] = deps.getD 0 [] by cases deps <;> rfl] at this
    exact this
  | o :: o' :: os, deps, i0, i + 1, x, hs, h, hl => by
    have := zwb (o' :: os) deps.tail (i0 + 1) i x hs.2 (by simpa using h) (by simpa using hl)
    rw [show i0 + 1 + i = i0 + (i + 1) by omega, show deps.tail.getD i [] = deps.getD (i + 1) [] by cases deps <;> simp] at this
    exact this
theorem zve {b : Bool} {L : Nat → Bool} : ∀ (ds : List Nat), zvc b L ds → ∀ j ∈ ds, L j = b
  | [d], h, j, hj => by
    have : j = d := by simpa using hj
    subst this
    exact h
  | d :: d' :: ds, h, j, hj => by
    rcases List.mem_cons.1 hj with rfl | hj
    · exact h.1
    · exact zve (d' :: ds) h.2 j hj
theorem zn1 (ops : Array Oper) (L : Nat → Bool) (s V : Nat → Value) (a : Act) (h : ∀ t j, zkr ops.toList t 0 = some j → L j = true → s j = V j) : zfa ops L s a = zfa ops L V a := ztr (fun t => by
  rw [zjj, zjj]
  congr 1
  funext v
  unfold zmf
  cases hf : zkr ops.toList t 0 with
  | none => rfl
  | some j =>
    simp only
    cases hl : L j with
    | false => rfl
    | true => rw [h t j hf hl]) rfl
theorem zsk {P : Program} {Q : Exit → Act → World → Prop} {ops : Array Oper} {a : Act} {I : (Nat → Bool) → (Nat → Value) → World → Prop} : ∀ (os : List Oper) (deps nots : List (List Nat)) (i0 : Nat),
    (∀ i o, os[i]? = some o → ∀ L s w, L (i0 + i) = false → zvc true L (deps.getD i []) → zvc false L (nots.getD i []) → I L s w → zqj P Q ops o (zfa ops (zlz (deps.getD i [])) s a) (fun v w' => I (riUp L (i0 + i) true) (riUp s (i0 + i) v) w') w) → zsj P Q ops a I os deps nots i0
  | [], _, _, _, _ => trivial
  | o :: os, deps, nots, i0, h => by
    refine ⟨?_, zsk os deps.tail nots.tail (i0 + 1) (fun i x hx => ?_)⟩
    · have := h 0 o rfl
      rw [show deps.headD [] = deps.getD 0 [] by cases deps <;> rfl, show nots.headD [] = nots.getD 0 [] by cases nots <;> rfl]
      exact this
    · have := h (i + 1) x (by simpa using hx)
      rw [show i0 + 1 + i = i0 + (i + 1) by omega, show deps.tail.getD i [] = deps.getD (i + 1) [] by cases deps <;> simp, show nots.tail.getD i [] = nots.getD (i + 1) [] by cases nots <;> simp]
      exact this
theorem zxl {P : Program} {Q : Exit → Act → World → Prop} {md : Region.Mode} {ops : Array Oper} {a : Act} {w : World} (deps : List (List Nat)) (n : Nat) (V : Nat → Value) (last : Oper) (hQ : ∀ c t t' d w, Q (.panic c) ⟨t, d⟩ w → Q (.panic c) ⟨t', d⟩ w)
    (hok : riOk md ops a.tmps.size deps (List.replicate n [n]) = true) (hn : ops.size = n + 1) (hlast : ops.toList[n]? = some last) (hdst : last.dst = none) (hv : zyd P ops V a w ops.toList deps 0)
    (hl : zqj P Q ops last (zfa ops (zlz (deps.getD n [])) V a) (fun _ w' => Q .normal (zfa ops (fun _ => true) V a) w') w) : wpAny P md ops Q ops.size (Array.replicate ops.size false) a w := by
  refine zyc deps (List.replicate n [n]) (fun L s W => (∀ k, k < n → L k = true → s k = V k) ∧ (L n = false → W = w) ∧ (L n = true → Q .normal (zfa ops (fun _ => true) V a) W)) hQ hok ⟨(fun _ _ h => Bool.noConfusion h), fun _ => rfl, (fun h => Bool.noConfusion h)⟩ (zsk _ _ _ _ ?_) ?_
  · intro i o ho L s W hu hd hno hI
    rw [Nat.zero_add] at hu ⊢
    have hio : i < n + 1 := by
      have := (List.getElem?_eq_some_iff.1 ho).1
      rw [Array.length_toList, hn] at this
      exact this
    have hdl : ∀ j ∈ deps.getD i [], j < n := by
      intro j hj
      unfold riOk at hok
      simp only [Bool.and_eq_true, List.all_eq_true, List.mem_range] at hok
      have h1 := hok.2 i (by omega)
      have ho' : ops[i]? = some o := by simpa using ho
      rw [ho'] at h1
      simp only [Bool.and_eq_true, List.all_eq_true] at h1
      have := zrh hok.2 (by omega) (h1.1.2 j hj)
      omega
    have hfr : zfa ops (zlz (deps.getD i [])) s a = zfa ops (zlz (deps.getD i [])) V a := zn1 _ _ _ _ _ (fun t j _ hj => by
      have hm := zri _ _ hj
      exact hI.1 j (hdl j hm) (zve _ hd j hm))
    rw [hfr]
    rcases Nat.lt_or_ge i n with hin | hin
    · have hLn : L n = false := by
        have e : (List.replicate n [n]).getD i [] = [n] := by simp [hin]
        rw [e] at hno
        exact hno
      obtain rfl := hI.2.1 hLn
      have hval := zwb _ _ 0 i o hv ho (by rw [Array.length_toList, hn]; omega)
      rw [Nat.zero_add] at hval
      have hI' : (∀ k, k < n → riUp L i true k = true → riUp s i (V i) k = V k) ∧ (riUp L i true n = false → W = W) ∧ (riUp L i true n = true → Q .normal (zfa ops (fun _ => true) V a) W) := by
        refine ⟨fun k hk hLk => ?_, fun _ => rfl, fun h => ?_⟩
        · by_cases hki : k = i
          · subst hki
            rw [zok]
          · rw [zqm _ _ _ hki] at hLk ⊢
            exact hI.1 k hk hLk
        · rw [zqm _ _ _ (by omega), hLn] at h
          cases h
      intro K hK
      rcases hval with ⟨h1, h2⟩ | ⟨h1, h2⟩
      · exact zp3 h1 rfl h2 (hK _ _ hI')
      · rw [h1, if_neg (by simp)]
        rw [h2] at hI'
        exact hK _ _ hI'
    · obtain rfl : i = n := by omega
      obtain rfl : o = last := Option.some.inj (ho.symm.trans hlast)
      obtain rfl := hI.2.1 hu
      intro K hK
      exact hl K (fun v w' hq => hK v w' ⟨fun k hk hLk => by
        rw [zqm _ _ _ (by omega)] at hLk ⊢
        exact hI.1 k hk hLk, (fun h => by rw [zok] at h; cases h), fun _ => hq⟩)
  · intro L s W hL hI
    have hb : ∀ i, i < n + 1 → L i = true := fun i hi => hL i (by rw [hn]; simpa [Nat.blt_eq] using hi)
    have := hI.2.2 (hb n (by omega))
    rw [zn1 ops (fun _ => true) s V a (fun t j hf _ => ?_)]
    · exact this
    · obtain ⟨o, ho, hd, _⟩ := zm0 _ _ _ _ hf
      rw [Nat.sub_zero] at ho
      have hj : j < n + 1 := by
        have := (List.getElem?_eq_some_iff.1 ho).1
        rw [Array.length_toList, hn] at this
        exact this
      by_cases hjn : j = n
      · subst hjn
        rw [hlast] at ho
        cases ho
        rw [hdst] at hd
        cases hd
      · exact hI.1 j (by omega) (hb j hj)
def zye (P : Program) (Q : Exit → Act → World → Prop) (T : World → World → Prop) (ops : Array Oper) (V : Nat → Value) (a : Act) (w : World) : List Oper → List (List Nat) → Nat → Prop
  | [], _, _ => True
  | o :: os, deps, i => (∀ w', T w w' → zqj P Q ops o (zfa ops (zlz (deps.headD [])) V a) (fun v w'' => v = V i ∧ T w' w'') w') ∧ zye P Q T ops V a w os deps.tail (i + 1)
theorem zwc {P : Program} {Q : Exit → Act → World → Prop} {T : World → World → Prop} {ops : Array Oper} {V : Nat → Value} {a : Act} {w : World} : ∀ (os : List Oper) (deps : List (List Nat)) (i0 i : Nat) (o : Oper), zye P Q T ops V a w os deps i0 → os[i]? = some o →
    ∀ w', T w w' → zqj P Q ops o (zfa ops (zlz (deps.getD i [])) V a) (fun v w'' => v = V (i0 + i) ∧ T w' w'') w'
  | [], _, _, _, _, _, h => by simp at h
  | o :: os, deps, i0, 0, x, hs, h => by
    simp at h
    subst h
    have := hs.1
    rw [show deps.headD [] = deps.getD 0 [] by cases deps <;> rfl] at this
    exact this
  | o :: os, deps, i0, i + 1, x, hs, h => by
    have := zwc os deps.tail (i0 + 1) i x hs.2 (by simpa using h)
    rw [show i0 + 1 + i = i0 + (i + 1) by omega, show deps.tail.getD i [] = deps.getD (i + 1) [] by cases deps <;> simp] at this
    exact this
theorem zb5 {P : Program} {Q : Exit → Act → World → Prop} {T : World → World → Prop} {ops : Array Oper} {o : Oper} {b : Act} {v : Value} {w' : World} (hT : ∀ w, T w w) (hw : Region.wanted o (yielded ops b.tmps) = true) (h : (execOp b.eval o).run P w' = .ok (.value v) w') :
    zqj P Q ops o b (fun u w'' => u = v ∧ T w' w'') w' := fun K hK => zp3 hw rfl h (hK _ _ ⟨rfl, hT _⟩)
theorem zgq {P : Program} {Q : Exit → Act → World → Prop} {T : World → World → Prop} {ops : Array Oper} {o : Oper} {b : Act} {w' : World} (hT : ∀ w, T w w) (hw : Region.wanted o (yielded ops b.tmps) = false) :
    zqj P Q ops o b (fun u w'' => u = undef ∧ T w' w'') w' := fun K hK => off_ hw (hK _ _ ⟨rfl, hT _⟩)
theorem zza {P : Program} {Q : Exit → Act → World → Prop} {T : World → World → Prop} {md : Region.Mode} {ops : Array Oper} {a : Act} {w : World} (deps : List (List Nat)) (V : Nat → Value) (hTr : ∀ w, T w w) (hTt : ∀ {x y z}, T x y → T y z → T x z) (hQ : ∀ c t t' d w, Q (.panic c) ⟨t, d⟩ w → Q (.panic c) ⟨t', d⟩ w)
    (hok : riOk md ops a.tmps.size deps [] = true) (hs : zye P Q T ops V a w ops.toList deps 0)
    (hend : ∀ w', T w w' → Q .normal (zfa ops (fun _ => true) V a) w') : wpAny P md ops Q ops.size (Array.replicate ops.size false) a w := by
  refine zyc deps [] (fun L s W => (∀ k, L k = true → s k = V k) ∧ T w W) hQ hok ⟨(fun _ h => Bool.noConfusion h), hTr _⟩ (zsk _ _ _ _ ?_) ?_
  · intro i o ho L s W hu hd _ hI
    have hfr : zfa ops (zlz (deps.getD i [])) s a = zfa ops (zlz (deps.getD i [])) V a := zn1 _ _ _ _ _ (fun t j _ hj => hI.1 j (zve _ hd j (zri _ _ hj)))
    rw [hfr, Nat.zero_add]
    have := zwc _ _ 0 i o hs ho W hI.2
    rw [Nat.zero_add] at this
    intro K hK
    refine this K (fun v w'' hv => hK v w'' ⟨fun k hk => ?_, hTt hI.2 hv.2⟩)
    by_cases hki : k = i
    · subst hki
      rw [zok]
      exact hv.1
    · rw [zqm _ _ _ hki] at hk ⊢
      exact hI.1 k hk
  · intro L s W hL hI
    have := hend W hI.2
    rw [zn1 ops (fun _ => true) s V a (fun t j hf _ => ?_)]
    · exact this
    · obtain ⟨o, ho, hd, _⟩ := zm0 _ _ _ _ hf
      rw [Nat.sub_zero] at ho
      have hj : j < ops.size := by
        have := (List.getElem?_eq_some_iff.1 ho).1
        rw [Array.length_toList] at this
        exact this
      exact hI.1 j (hL j (by simpa [Nat.blt_eq] using hj))
def Draws (w w' : World) : Prop := ∃ n, w' = w.drewN n
theorem zan (w : World) : Draws w w := ⟨0, rfl⟩
theorem zxm {x y z : World} : Draws x y → Draws y z → Draws x z := fun ⟨n, h⟩ ⟨m, k⟩ => ⟨n + m, by rw [k, h, World.drewN_drewN]⟩
theorem zth {P : Program} {Q : Exit → Act → World → Prop} {ops : Array Oper} {id : Nat} {a : Act} {w : World} (deps : List (List Nat)) (V : Nat → Value) (hm : P.follows .mixedOrders = true) (hQ : ∀ c t t' d w, Q (.panic c) ⟨t, d⟩ w → Q (.panic c) ⟨t', d⟩ w)
    (hok : riOk .any ops a.tmps.size deps [] = true) (hs : zye P Q Draws ops V a w.drew ops.toList deps 0)
    (hend : ∀ n, Q .normal (zfa ops (fun _ => true) V a) (w.drewN n)) : (Code.region id ops true).wp P Q a w :=
  wp_region_any hm (zza deps V zan zxm hQ hok hs (fun w' ⟨n, h⟩ => by
    have e : w' = w.drewN (1 + n) := by rw [h, ← World.drewN_drewN]; rfl
    rw [e]
    exact hend _))
end Go.Proofs.YtabnafbgcpchdaaGreat.Q
end
section
namespace Go.Proofs.YtabnafbgcpchdaaGreat.Q
open Go.RowKit Go.Proofs.YtabnafbgcpchdaaGreatW.PrintWords Go.Proofs.YtabnafbgcpchdaaGreatW.PrintLast Go.Proofs.YtabnafbgcpchdaaGreatW.PrintMore
set_option linter.unusedVariables false
theorem zz2 {l n : Nat} {P : Program} {o : Oper} {a : Act} {w : World} {K : Act → World → Prop} {Q : Exit → Act → World → Prop} (hd : ∀ c, o.op ≠ .defer c) (h : o.wp P a w K Q) :
    o.wpIn (Fence.wide.inRound l) n P a w K Q := by
  refine ⟨fun _ _ => trivial, ?_⟩
  rw [show o.semAt (Fence.wide.inRound l).round a.eval = execOp a.eval o from Oper.semAt_some l a.eval o hd]
  unfold Oper.wp at h
  generalize (execOp a.eval o).run P w = r at h ⊢
  cases r with
  | ok x w' =>
    cases x with
    | value v => exact h
    | skip => exact h
    | defer d => exact h
    | enter f args => exact ⟨(fun h' => by cases h'), CallsIn.inRound l (callsIn_wide.2 h)⟩
    | row row args => exact ⟨(fun h' => by cases h'), fun c cs _ => let ⟨v, w'', r, s⟩ := h c cs; ⟨v, w'', r, stepsIn_wide.2 s⟩⟩
    | _ => exact h.elim
  | halt x w' => cases x <;> exact h
def zvf (ops : Array Oper) : Bool := ops.toList.all fun o => match o.op with | .defer _ => false | _ => true
theorem zzb {ops : Array Oper} (h : zvf ops = true) (i : Nat) (o : Oper) (ho : ops[i]? = some o) : ∀ c, o.op ≠ .defer c := by
  intro c e
  have := List.all_eq_true.1 h o (by rw [← Array.getElem?_toList] at ho; exact List.mem_of_getElem? ho)
  rw [e] at this
  cases this
theorem zol {l n : Nat} {P : Program} {md : Region.Mode} {ops : Array Oper} {Q : Exit → Act → World → Prop} (hd : zvf ops = true) (hL : ¬ LetsOut Q) :
    ∀ (fuel : Nat) (listed : Array Bool) (a : Act) (w : World), wpAny P md ops Q fuel listed a w → wpAnyIn (Fence.wide.inRound l) n P md ops Q fuel listed a w
  | 0, _, _, _, h => h
  | fuel + 1, listed, a, w, h => by
    refine ⟨h.1, fun i hi => ?_⟩
    have h2 := h.2 i hi
    unfold wpOp at h2
    unfold wpOpIn
    split
    · rename_i ho
      rw [ho] at h2
      exact zol hd hL fuel _ _ _ h2
    · rename_i o ho
      rw [ho] at h2
      simp only at h2
      split
      · rename_i hw
        rw [if_pos hw] at h2
        rcases h2 with h2 | h2
        · exact Oper.wpIn_mono (fun a w h' => zol hd hL fuel _ a w h') (zz2 (zzb hd i o ho) h2)
        · exact absurd h2.2 hL
      · rename_i hw
        rw [if_neg hw] at h2
        exact ⟨fun _ _ => trivial, zol hd hL fuel _ _ _ h2⟩
theorem zxn {l q : Nat} {P : Program} {Q : Exit → Act → World → Prop} {ops : Array Oper} {id : Nat} {a : Act} {w : World} (deps nots : List (List Nat)) (I : (Nat → Bool) → (Nat → Value) → World → Prop) (hm : P.follows .mixedOrders = true) (hd : zvf ops = true) (hL : ¬ LetsOut Q) (hQ : ∀ c t t' d w, Q (.panic c) ⟨t, d⟩ w → Q (.panic c) ⟨t', d⟩ w)
    (hok : riOk .any ops a.tmps.size deps nots = true) (h0 : I (fun _ => false) (fun _ => undef) w.drew) (hs : zsj P Q ops a I ops.toList deps nots 0)
    (hend : ∀ L s w', (∀ i, Nat.blt i ops.size = true → L i = true) → I L s w' → Q .normal (zfa ops (fun _ => true) s a) w') : (Code.region id ops true).wpIn (Fence.wide.inRound l) q P Q a w :=
  wpIn_region_any hm (zol hd hL _ _ _ _ (zyc deps nots I hQ hok h0 hs hend))
theorem zzc {l q : Nat} {P : Program} {Q : Exit → Act → World → Prop} {ops : Array Oper} {id : Nat} {a : Act} {w : World} (deps : List (List Nat)) (n : Nat) (V : Nat → Value) (last : Oper) (hm : P.follows .mixedOrders = true) (hd : zvf ops = true) (hL : ¬ LetsOut Q) (hQ : ∀ c t t' d w, Q (.panic c) ⟨t, d⟩ w → Q (.panic c) ⟨t', d⟩ w)
    (hok : riOk .any ops a.tmps.size deps (List.replicate n [n]) = true) (hn : ops.size = n + 1) (hlast : ops.toList[n]? = some last) (hdst : last.dst = none) (hv : zyd P ops V a w.drew ops.toList deps 0)
    (hl : zqj P Q ops last (zfa ops (zlz (deps.getD n [])) V a) (fun _ w' => Q .normal (zfa ops (fun _ => true) V a) w') w.drew) : (Code.region id ops true).wpIn (Fence.wide.inRound l) q P Q a w :=
  wpIn_region_any hm (zol hd hL _ _ _ _ (zxl deps n V last hQ hok hn hlast hdst hv hl))
end Go.Proofs.YtabnafbgcpchdaaGreat.Q
end
section
namespace Go.Proofs.YtabnafbgcpchdaaGreat.Q
open Go.RowKit Go.Proofs.YtabnafbgcpchdaaGreatW.PrintWords Go.Proofs.YtabnafbgcpchdaaGreatW.PrintLast Go.Proofs.YtabnafbgcpchdaaGreatW.PrintMore
set_option maxHeartbeats 8000000
set_option maxRecDepth 100000
attribute [local go_sem] zk3 zk4 zmp zmq zjg zjh zk5 zk6
set_option linter.unusedVariables false
set_option linter.unusedSimpArgs false
def zgw : List S55 → Option (List Int)
 | [] => some []
 | x :: xs => (zem x.f0 x.f1 x.f2 x.f3 x.f4).bind fun c => (zgw xs).bind fun cs => some (c :: cs)
def zf9 (all : List (List Int)) (i : Nat) : Nat → Nat → List Int → List Int
 | 0, _, o => o
 | d + 1, j, o => zf9 all i d (j + 1) (if rd (za5 all (j : Int)) (i : Int) ≥ 0 then o.set i (mn (rd o (i : Int)) (wrap64 (rd o (j : Int) - rd (za5 all (j : Int)) (i : Int)))) else o)
def zcr (all : List (List Int)) (cs : List Int) (a : Int) (n : Nat) (o : List Int) (i : Nat) : List Int := zf9 all i (n - 1 - i) (i + 1) (o.set i (wrap64 (a - rd cs (i : Int))))
def zi2 (all : List (List Int)) (n : Nat) : Bool := decide (all.length = n ∧ n ≤ 1048576) && (List.range n).all fun j : Nat => decide (j ≤ (za5 all j).length)
def zhr (k : Nat) (l0 : List (S55)) (a1 : Int) : Option (List Int) :=
 (zfe k l0).bind fun all => (zgw l0).bind fun cs => if zi2 all l0.length = true then some (((List.range l0.length).map fun j => l0.length - 1 - j).foldl (zcr all cs a1 l0.length) (List.replicate l0.length 0)) else none
theorem zkw : ∀ a0 a1 k, LeO (zhr k a0 a1) (zhr (k + 1) a0 a1) := by
 intro a0 a1 k
 unfold zhr
 exact LeO.bind (zdg _ _) (fun _ => LeO.refl _)
open Go.Shelf
attribute [local go_sem] Oper.semAt_some
def zz3 (Q : Exit → Act → World → Prop) : Exit → Act → World → Prop
 | .panic _, _, _ => False
 | e, a, w => Q e a w
theorem zzd {Q : Exit → Act → World → Prop} : ∀ e a w, zz3 Q e a w → Q e a w := fun e a w h => by cases e <;> first | exact h.elim | exact h
def latI (w : World) (A0 : Option Addr) (c0 n : Nat) (a1 : Int) (all : List (List Int)) (q5 q6 : Nat) (vA vO : Value) (o : List Int) (W : World) : Prop :=
 Below w.heap.size w W ∧ w.heap.size + 2 ≤ W.heap.size ∧ W.heap[w.heap.size]? = some (.cells #[.slice A0 n c0] 24 (0, 0)) ∧ W.heap[w.heap.size + 1]? = some (.cells #[.int .i64 a1] 3 (0, 0)) ∧
 W.heap[q5]? = some (.cells #[vA] 36 (0, 0)) ∧ W.heap[q6]? = some (.cells #[vO] 25 (0, 0)) ∧ Kd.S (Kd.slice 3 (Kd.int .i64)) 25 W (w.heap.size + 2) (fun k => some k ≠ vO.ownBlock) vA all ∧ Kd.R (Kd.int .i64) 3 W (w.heap.size + 2) (fun _ => True) vO o
theorem zow {n₀ Bs : Nat} {A B : World} (hn : n₀ ≤ A.heap.size) (h : Below A.heap.size A B) : ztp n₀ Bs A B := ⟨h.mono hn, fun v e => (h.cell (World.block_lt_of_cell? A _ e)).trans e⟩
theorem zwd {n₀ Bs : Nat} {A : World} {p : Addr} (hn : n₀ ≤ p.block) (hne : Bs ≠ p.block) (v : Value) : ztp n₀ Bs A (A.setCell p v) := ⟨(Below.refl _ A).setCell hn _, fun u e => by rw [← e]; exact zah hne v⟩
theorem zwe (n : Nat) : (zmc n n).map Subtype.val = (List.range n).map fun j => n - 1 - j := by
 have : ∀ d, d ≤ n → (zmc n d).map Subtype.val = (List.range d).map fun j => n - 1 - j := by
   intro d
   induction d with
   | zero => intro _; rfl
   | succ d ih =>
     intro hd
     rw [zmz n d (by omega), List.map_append, ih (by omega), List.range_succ, List.map_append]
     rfl
 exact this n (zlr _)
theorem zyf : ∀ (l : List S55) (cs : List Int), zgw l = some cs → ∀ i, i < l.length → zem (zaa l i).f0 (zaa l i).f1 (zaa l i).f2 (zaa l i).f3 (zaa l i).f4 = some (rd cs i)
 | [], _, _, i, hi => absurd hi (Nat.not_lt_zero _)
 | x :: xs, cs, h, i, hi => by
   unfold zgw at h
   obtain ⟨c, hc, h⟩ := Option.bind_eq_some_iff.1 h
   obtain ⟨cs', hcs, h⟩ := Option.bind_eq_some_iff.1 h
   obtain rfl := zsi h
   cases i with
   | zero => simpa [zaa, rd] using hc
   | succ i => simpa [zaa, rd] using zyf xs cs' hcs i (by simpa using hi)
theorem zup (all : List (List Int)) (i : Nat) : ∀ d j o, (zf9 all i d j o).length = o.length
 | 0, _, _ => rfl
 | d + 1, j, o => by
   unfold zf9
   rw [zup]
   split <;> simp
theorem zxo (all : List (List Int)) (cs : List Int) (a : Int) (n : Nat) (o : List Int) (i : Nat) : (zcr all cs a n o i).length = o.length := by
 unfold zcr
 rw [zup]
 simp
theorem zxp (all : List (List Int)) (cs : List Int) (a : Int) (n : Nat) (ps : List Nat) : (ps.foldl (zcr all cs a n) (List.replicate n 0)).length = n := by
 have : ∀ (ps : List Nat) (o : List Int), (ps.foldl (zcr all cs a n) o).length = o.length := fun ps => by
   induction ps with
   | nil => intro o; rfl
   | cons p ps ih => intro o; rw [List.foldl_cons, ih, zxo]
 rw [this]
 simp
section
variable {w W W1 : World} {A0 : Option Addr} {c0 n : Nat} {a1 : Int} {all : List (List Int)} {q5 q6 : Nat} {vA vO : Value} {o : List Int}
theorem zom (h : latI w A0 c0 n a1 all q5 q6 vA vO o W) (hb : Below W.heap.size W W1) : latI w A0 c0 n a1 all q5 q6 vA vO o W1 := by
 obtain ⟨h0, hz, h1, h2, h3, h4, h5, h6⟩ := h
 exact ⟨zab h0 hb, Nat.le_trans hz hb.size, zar h1 hb, zar h2 hb, zar h3 hb, zar h4 hb, Kd.S_below h5 hb, zRb h6 hb⟩
theorem zuq {row : Option Nat} (h : latI w A0 c0 n a1 all q5 q6 vA vO o W) (hg : W.grownBy W1 row) (hr : ∀ r, row = some r → w.heap.size ≤ r ∧ ∃ o : Obj, W.heap[r]? = some o ∧ o.isCells = false) : latI w A0 c0 n a1 all q5 q6 vA vO o W1 := by
 obtain ⟨h0, hz, h1, h2, h3, h4, h5, h6⟩ := h
 have hb : ∀ (g : Nat) (cs : Array Value) (t : Nat), W.heap[g]? = some (.cells cs t (0, 0)) → W1.heap[g]? = some (.cells cs t (0, 0)) := fun g cs t hc => (hg.block g (zix hc) (fun e => by
   obtain ⟨_, o, ho, hi⟩ := hr g e.symm
   rw [hc] at ho
   cases ho
   cases hi)).trans hc
 refine ⟨h0.grown hg h0.size (fun r e => (hr r e).1), Nat.le_trans hz hg.size, hb _ _ _ h1, hb _ _ _ h2, hb _ _ _ h3, hb _ _ _ h4, Kd.S_mono (Kd.S_move (Kd.S_bound h5) (fun k hk => ?_)) (fun k hk => hk.1), Kd.R_mono (Kd.R_move (Kd.R_bound h6) (fun k hk => ?_)) (fun _ _ => trivial)⟩
 · obtain ⟨_, _, _, q, _, cs, hc⟩ := hk
   exact (hb _ _ _ hc).trans hc.symm
 · obtain ⟨_, _, _, q, _, cs, hc⟩ := hk
   exact (hb _ _ _ hc).trans hc.symm
theorem zyg {g co : Nat} (h : latI w A0 c0 n a1 all q5 q6 vA (.slice (some ⟨g, 0, none⟩) o.length co) o W) (i : Int) (h0 : 0 ≤ i) (hi : i < o.length) (x : Int) : latI w A0 c0 n a1 all q5 q6 vA (.slice (some ⟨g, 0, none⟩) o.length co) (o.set i.toNat x) (W.setCell ⟨g, i.toNat, none⟩ (.int .i64 x)) := by
 obtain ⟨h0, hz, h1, h2, h3, h4, h5, h6⟩ := h
 have hg := Kd.R_base h6 g rfl
 obtain ⟨cs, hc⟩ := Kd.R_typed h6 g rfl
 exact ⟨zae h0 (by omega), by simpa using hz, za2 h1 zq59 _, za2 h2 zq59 _, za2 h3 (fun e => by simp at e; rw [e, hc] at h3; cases h3) _, za2 h4 (fun e => by simp at e; rw [e, hc] at h4; cases h4) _,
   Kd.S_far h5 (fun k hk e => hk (by rw [e]; rfl)) _, (Kd.R_put h6 i x).1⟩
end
theorem zs6 (k : Nat) (A0 : Option Addr) (c0 : Nat) (l0 : List S55) (a1 : Int) (all : List (List Int)) (cs : List Int) (w : World) (hcs : zgw l0 = some cs) (hr0 : Kd.C k55 w A0 l0.length l0) (hc0 : l0.length ≤ c0) (hA : zfe k l0 = some all) (hT : zi2 all l0.length = true) (R : Ending → World → Prop)
   (hR : ∀ v W, Kd.R (Kd.int .i64) 3 W w.heap.size (fun _ => True) v (((List.range l0.length).map fun j => l0.length - 1 - j).foldl (zcr all cs a1 l0.length) (List.replicate l0.length 0)) → Below w.heap.size w W → R (.returned v) W) :
   Calls Tryz.prog 79 #[.slice A0 l0.length c0, .int .i64 a1] w R := by
 have hu57 := Tryz.underlying55
 unfold zi2 at hT
 simp only [Bool.and_eq_true, decide_eq_true_eq, List.all_eq_true, List.mem_range] at hT
 have hl := hT.1.2
 have HT := zA hT
 clear hT
 have HC := zA hcs
 clear hcs
 have HR0 := zA hr0
 have HC0 := zA hc0
 have HA := zA hA
 clear hr0 hc0 hA
 refine (callsIn_wide (n := 8)).1 ?_
 refine callsIn_of_wp_marks Tryz.func79 rfl trivial ?_ rfl
 simp only [Tryz.ntmps79, List.size_toArray, List.length_cons, List.length_nil, Nat.reduceAdd, Nat.reduceSub, Array.replicate_succ, Array.replicate_zero, List.push_toArray, List.append_toArray, List.nil_append, List.cons_append]
 refine wpIn_wide.2 ?_
 refine wp_mono (Q := zz3 (bodyPostM Fence.wide 8 Tryz.prog Tryz.f79 R)) ?_ zzd
 go_wp2
 obtain ⟨W0, hW0⟩ : ∃ W0, (w.alloc (.cells #[.slice A0 l0.length c0] 24)).alloc (.cells #[.int .i64 a1] 3) = W0 := ⟨_, rfl⟩
 have HB := zA (show Below w.heap.size w W0 from hW0 ▸ zba (zba (Below.refl _ _) _) _)
 have HZ := zA (show W0.heap.size = w.heap.size + 2 by rw [← hW0]; simp)
 have B1 := zA (show W0.heap[w.heap.size]? = some (.cells #[.slice A0 l0.length c0] 24 (0, 0)) from hW0 ▸ zka (zqz w _) _)
 have B2 := zA (show W0.heap[w.heap.size + 1]? = some (.cells #[.int .i64 a1] 3 (0, 0)) by rw [← hW0]; simpa using zqz (w.alloc (.cells #[.slice A0 l0.length c0] 24)) (.cells #[.int .i64 a1] 3))
 rw [hW0]
 clear hW0
 refine zz1 [[], [0], [], [2], [2, 3], [], [], [0, 1, 5, 6], [0, 1, 2, 3, 4, 5, 6, 7]] [[1, 7, 8], [7, 8], [3, 4, 8], [4, 8], [8], [7, 8], [7, 8], [8], []]
   (fun L s W => (Below w.heap.size w W ∧ w.heap.size + 2 ≤ W.heap.size ∧ W.heap[w.heap.size]? = some (.cells #[.slice A0 l0.length c0] 24 (0, 0)) ∧ W.heap[w.heap.size + 1]? = some (.cells #[.int .i64 a1] 3 (0, 0))) ∧
     (L 0 = true → s 0 = .slice A0 l0.length c0) ∧ (L 2 = true → s 2 = .slice A0 l0.length c0) ∧ (L 3 = true → s 3 = .int .i64 l0.length) ∧
     (L 1 = true → Kd.S (Kd.slice 3 (Kd.int .i64)) 25 W (w.heap.size + 2) (fun k => (L 6 = true → s 6 ≠ .pointer (some ⟨k, 0, none⟩)) ∧ (L 4 = true → some k ≠ (s 4).ownBlock)) (s 1) all) ∧
     (L 4 = true → Kd.R (Kd.int .i64) 3 W (w.heap.size + 2) (fun _ => True) (s 4) (List.replicate l0.length 0)) ∧
     (L 5 = true → ∃ g c, s 5 = .pointer (some ⟨g, 0, none⟩) ∧ w.heap.size + 2 ≤ g ∧ W.heap[g]? = some (.cells #[c] 36 (0, 0)) ∧ (L 7 = true → c = s 1)) ∧
     (L 6 = true → ∃ g c, s 6 = .pointer (some ⟨g, 0, none⟩) ∧ w.heap.size + 2 ≤ g ∧ W.heap[g]? = some (.cells #[c] 25 (0, 0)) ∧ (L 8 = true → c = s 4)))
   zq27 (fun _ _ _ _ _ h => h) zq27 ?_ ⟨?_, ?_, ?_, ?_, ?_, ?_, ?_, ?_, ?_, trivial⟩ ?_
 · exact ⟨⟨zll HB.out, Nat.le_of_eq HZ.out.symm, zkd B1.out, zkd B2.out⟩, zq73, zq73, zq73, zq73, zq73, zq73, zq73⟩
 · rintro L s W hi hd hn ⟨⟨hB, hz, b1, b2⟩, g0, g2, g3, g1, g4, g5, g6⟩ K hK
   have hc := zad b1 0
   refine zp3 (N := some 11) (v := .slice A0 l0.length c0) (w1 := W) (by rfl) rfl ?_ (hK _ _ ⟨⟨hB, hz, b1, b2⟩, fun _ => rfl, g2, g3, g1, g4, g5, g6⟩)
   refine zsr ?_
   go_simp
 · rintro L s W hi hd hn ⟨⟨hB, hz, b1, b2⟩, g0, g2, g3, g1, g4, g5, g6⟩ K hK
   refine zvx Tryz.func59 zq27 rfl #[.slice A0 l0.length c0] (by rfl) rfl rfl (by simp only [List.map_toArray, List.map_cons, List.map_nil]; exact congrArg (fun x => #[x]) (g0 hd)) ?_
   refine (zh3 k _ _ l0 all _ (zCb HR0.out hB) HC0.out HA.out).mono ?_
   rintro e w1 ⟨v, rfl, ho, hb⟩
   refine ⟨_, rfl, hK _ _ ⟨⟨zab hB hb, Nat.le_trans hz hb.size, zar b1 hb, zar b2 hb⟩, g0, g2, g3, fun _ => ?_, fun h => zRb (g4 h) hb, fun h => ?_, fun h => ?_⟩⟩
   · refine Kd.S_mono (Kd.S_lower (Kd.S_bound ho) hz) (fun k hk => ⟨fun h e => ?_, fun h e => ?_⟩)
     · obtain ⟨g, c, e6, _, hb6, _⟩ := g6 h
       cases (e6.symm.trans e)
       exact absurd (zix hb6) (Nat.not_lt.2 hk.2.1)
     · exact absurd (Kd.R_lt (g4 h) k e.symm) (Nat.not_lt.2 hk.2.1)
   · obtain ⟨g, c, e5, hg, hb5, h7⟩ := g5 h
     exact ⟨g, c, e5, hg, zar hb5 hb, fun h7 => absurd (h7.symm.trans hn.1) (by simp)⟩
   · obtain ⟨g, c, e6, hg, hb6, h8⟩ := g6 h
     exact ⟨g, c, e6, hg, zar hb6 hb, fun h8 => absurd (h8.symm.trans hn.2) (by simp)⟩
 · rintro L s W hi hd hn ⟨⟨hB, hz, b1, b2⟩, g0, g2, g3, g1, g4, g5, g6⟩ K hK
   have hc := zad b1 0
   refine zp3 (N := some 13) (v := .slice A0 l0.length c0) (w1 := W) (by rfl) rfl ?_ (hK _ _ ⟨⟨hB, hz, b1, b2⟩, g0, fun _ => rfl, g3, g1, g4, g5, g6⟩)
   refine zsr ?_
   go_simp
 · rintro L s W hi hd hn ⟨⟨hB, hz, b1, b2⟩, g0, g2, g3, g1, g4, g5, g6⟩ K hK
   refine zp3 (N := some 14) (v := .int .i64 l0.length) (w1 := W) (by rfl) rfl ?_ (hK _ _ ⟨⟨hB, hz, b1, b2⟩, g0, g2, fun _ => rfl, g1, g4, g5, g6⟩)
   have e2 := g2 hd
   refine zsr ?_
   go_simp
 · rintro L s W hi hd hn ⟨⟨hB, hz, b1, b2⟩, g0, g2, g3, g1, g4, g5, g6⟩ K hK
   have e3 := g3 hd.2
   refine Kd.R_make_step (Kd.int .i64) _ 3 (by rfl) (N := 15) rfl 25 _ _ rfl (l0.length : Int) e3 e3 Tryz.underlying25 (.int .i64 0) 8 zja rfl (by decide) (by omega) 0 (ok := fun _ => True) (okp := fun _ => True) rfl (fun _ h => h) trivial (by omega) (by rw [Int.toNat_natCast]; omega) (Below.refl _ _) (zlr _) ?_
   intro v1 w1 ho hb hg hnew
   rw [Int.toNat_natCast] at ho
   refine hK _ _ ⟨⟨zab hB hb, Nat.le_trans hz hb.size, zar b1 hb, zar b2 hb⟩, g0, g2, g3, fun h => ?_, fun _ => Kd.R_lower ho hz, fun h => ?_, fun h => ?_⟩
   · refine Kd.S_mono (Kd.S_bound (Kd.S_below (Kd.S_bound (g1 h)) hb)) (fun k hk => ⟨hk.1.1.1, fun _ e => ?_⟩)
     obtain ⟨b, e', hbl⟩ := hnew
     rw [show (riUp s 4 v1 4).ownBlock = _ from e'] at e
     cases e
     exact absurd hk.1.2.2.1 (Nat.not_lt.2 hbl)
   · obtain ⟨g, c, e5, hg, hb5, h7⟩ := g5 h
     exact ⟨g, c, e5, hg, zar hb5 hb, h7⟩
   · obtain ⟨g, c, e6, hg, hb6, h8⟩ := g6 h
     exact ⟨g, c, e6, hg, zar hb6 hb, fun h8 => absurd (h8.symm.trans hn) (by simp)⟩
 · rintro L s W hi hd hn ⟨⟨hB, hz, b1, b2⟩, g0, g2, g3, g1, g4, g5, g6⟩ K hK
   refine zqb ?hg (N := 5) ?hd (cs := #[.slice none 0 0]) (t := 36) ?hr ?_; (case hd => rfl); (case hg => rfl); (case hr => go_simp <;> rfl)
   intro g hg w1 hbox hb
   refine hK _ _ ⟨⟨zab hB hb, Nat.le_trans hz hb.size, zar b1 hb, zar b2 hb⟩, g0, g2, g3, fun h => Kd.S_below (g1 h) hb, fun h => zRb (g4 h) hb, fun _ => ?_, fun h => ?_⟩
   · exact ⟨g, _, rfl, hg ▸ hz, hbox, fun h7 => absurd (h7.symm.trans hn.1) (by simp)⟩
   · obtain ⟨g, c, e6, hg, hb6, h8⟩ := g6 h
     exact ⟨g, c, e6, hg, zar hb6 hb, fun h8 => absurd (h8.symm.trans hn.2) (by simp)⟩
 · rintro L s W hi hd hn ⟨⟨hB, hz, b1, b2⟩, g0, g2, g3, g1, g4, g5, g6⟩ K hK
   refine zqb ?hg (N := 6) ?hd (cs := #[.slice none 0 0]) (t := 25) ?hr ?_; (case hd => rfl); (case hg => rfl); (case hr => go_simp <;> rfl)
   intro g hg w1 hbox hb
   refine hK _ _ ⟨⟨zab hB hb, Nat.le_trans hz hb.size, zar b1 hb, zar b2 hb⟩, g0, g2, g3, fun h => ?_, fun h => zRb (g4 h) hb, fun h => ?_, fun _ => ?_⟩
   · refine Kd.S_mono (Kd.S_below (Kd.S_bound (g1 h)) hb) (fun k hk => ⟨fun _ e => ?_, hk.1.2⟩)
     have e' : g = k := by cases e; rfl
     exact absurd hk.2.2.1 (by omega)
   · obtain ⟨g, c, e5, hg, hb5, h7⟩ := g5 h
     exact ⟨g, c, e5, hg, zar hb5 hb, fun h7 => absurd (h7.symm.trans hn.1) (by simp)⟩
   · exact ⟨g, _, rfl, hg ▸ hz, hbox, fun h8 => absurd (h8.symm.trans hn.2) (by simp)⟩
 · rintro L s W hi hd hn ⟨⟨hB, hz, b1, b2⟩, g0, g2, g3, g1, g4, g5, g6⟩ K hK
   obtain ⟨h0, h1, h5, h6⟩ := hd
   obtain ⟨q5, c5, e5, l5, hb5, _⟩ := g5 h5
   obtain ⟨q6, c6, e6, l6, hb6, h8⟩ := g6 h6
   have ne : q6 ≠ q5 := fun e => by subst e; rw [hb5] at hb6; cases hb6
   refine ztd (w1 := W.setCell ⟨q5, 0, none⟩ (s 1)) (by rfl) rfl ?_ (hK undef _ ⟨⟨zae hB (by omega), by simpa using hz, za2 b1 zq59 _, za2 b2 zq59 _⟩, g0, g2, g3, fun h => Kd.S_set (g1 h) hb5 (by decide) _ _, fun h => Kd.R_set (g4 h) hb5 (by decide) _ _, fun _ => ⟨q5, s 1, e5, l5, zau hb5 0 _, fun _ => rfl⟩, fun _ => ⟨q6, c6, e6, l6, za2 hb6 ne _, h8⟩⟩)
   have hc := zad hb5 0
   have hf := zaz hb5 0
   obtain ⟨A1, c1, e1⟩ := Kd.S_slice (g1 h1)
   refine zsr ?_
   go_simp
 · rintro L s W hi hd hn ⟨⟨hB, hz, b1, b2⟩, g0, g2, g3, g1, g4, g5, g6⟩ K hK
   obtain ⟨h0, h1, h2, h3, h4, h5, h6, h7⟩ := hd
   obtain ⟨q5, c5, e5, l5, hb5, h7'⟩ := g5 h5
   obtain ⟨q6, c6, e6, l6, hb6, _⟩ := g6 h6
   have ne : q5 ≠ q6 := fun e => by subst e; rw [hb5] at hb6; cases hb6
   refine ztd (w1 := W.setCell ⟨q6, 0, none⟩ (s 4)) (by rfl) rfl ?_ (hK undef _ ⟨⟨zae hB (by omega), by simpa using hz, za2 b1 zq59 _, za2 b2 zq59 _⟩, g0, g2, g3, fun h => Kd.S_far (g1 h) (fun k hk e => hk.1 h6 (by rw [e6, e])) _, fun h => Kd.R_set (g4 h) hb6 (by decide) _ _, fun _ => ⟨q5, c5, e5, l5, za2 hb5 ne _, h7'⟩, fun _ => ⟨q6, s 4, e6, l6, zau hb6 0 _, fun _ => rfl⟩⟩)
   have hc := zad hb6 0
   have hf := zaz hb6 0
   obtain ⟨A1, c1, e1⟩ := Kd.R_slice (g4 h4)
   refine zsr ?_
   go_simp
 intro L s W hL ⟨⟨hB, hz, b1, b2⟩, g0, g2, g3, g1, g4, g5, g6⟩
 obtain ⟨q5, c5, e5, l5, hb5, h7⟩ := g5 (hL 5 rfl)
 obtain ⟨q6, c6, e6, l6, hb6, h8⟩ := g6 (hL 6 rfl)
 obtain rfl := h7 (hL 7 rfl)
 obtain rfl := h8 (hL 8 rfl)
 have hS := g1 (hL 1 rfl)
 have hR4 := g4 (hL 4 rfl)
 have hW : latI w A0 c0 l0.length a1 all q5 q6 (s 1) (s 4) (List.replicate l0.length 0) W := ⟨hB, hz, b1, b2, hb5, hb6, Kd.S_mono hS (fun k hk => hk.2 (hL 4 rfl)), hR4⟩
 obtain ⟨Al, cl, eA⟩ := Kd.S_slice hW.2.2.2.2.2.2.1
 rw [eA] at hW
 clear eA
 generalize s 4 = vO at hW
 clear hS hR4 g0 g1 g2 g3 g4 g5 g6 h7 h8 hB hz hL
 refine zsr ?_
 have hc1 := zad b1 0
 go_wp2_with (go_at_call 121; refine ((callsIn_wide (n := 3)).1 (ydr Fence.wide 3 trivial rfl _ _ _ _)).mono ?_; rintro e w' ⟨rfl, rfl⟩)
 clear hc1 b1 b2 hb5 hb6 e5 e6
 have hI5 := zom hW (zba (Below.refl _ W) (.cells #[.slice A0 l0.length c0] 24))
 have hBs := (zad (zqz W (.cells #[.slice A0 l0.length c0] 24)) 0).trans rfl
 have hlt : W.heap.size < (W.alloc (.cells #[.slice A0 l0.length c0] 24)).heap.size := by simp
 have HN := zA (Kd.R_lt hW.2.2.2.2.2.2.2)
 clear hW
 generalize W.alloc (.cells #[.slice A0 l0.length c0] 24) = W5 at hI5 hBs hlt ⊢
 refine (wpIn_wide (n := 8)).1 ?_
 refine wpIn_rangeFunc_ownH rfl (by decide) (gf := 145) (lb := #[.pointer (some ⟨W.heap.size, 0, none⟩)]) rfl trivial (enters_of Tryz.func145 zq27 rfl)
   (zy9 Fence.wide 7 trivial rfl (by decide) W.heap.size w.heap.size A0 c0 l0 hl W5 hlt hI5.1.size hBs (fun W' hb => zCb HR0.out (hI5.1.trans hb)))
   zsh (ydq hI5.1.size) (Below.refl _ _) (fun _ => rfl)
   (fun pre W' => latI w A0 c0 l0.length a1 all q5 q6 (.slice Al all.length cl) vO ((pre.map Subtype.val).foldl (zcr all cs a1 l0.length) (List.replicate l0.length 0)) W')
   (fun _ _ _ => False) (fun _ _ _ _ hs hg hr => zuq hs hg (fun r e => ⟨Nat.le_trans hI5.1.size (hr r e).1, (hr r e).2⟩)) (fun _ _ _ _ _ hs _ _ => hs) hI5
   (fun x a' W' => ∃ Bx, some Bx ≠ vO.ownBlock ∧ W'.heap[Bx]? = some (.cells #[.string (zaa l0 x.1).f0, .int .i64 (zaa l0 x.1).f1, .int .i64 (zaa l0 x.1).f2, .int .i64 (zaa l0 x.1).f3, .int .i64 (zaa l0 x.1).f4] 55 (0, 0)) ∧ a' = { tmps := #[.slice A0 l0.length c0, .int .i64 a1, .pointer (some ⟨w.heap.size, 0, none⟩), .pointer (some ⟨w.heap.size + 1, 0, none⟩), .slice none 0 0, .pointer (some ⟨q5, 0, none⟩), .pointer (some ⟨q6, 0, none⟩), .int .i64 (x.1 : Nat), .pointer (some ⟨Bx, 0, none⟩), undef, undef, s 0, s 1, s 2, s 3, s 4, .slice A0 l0.length c0, .func (.func 145) #[] #[.pointer (some ⟨W.heap.size, 0, none⟩)], .int .i64 (x.1 : Nat), .agg #[.string (zaa l0 x.1).f0, .int .i64 (zaa l0 x.1).f1, .int .i64 (zaa l0 x.1).f2, .int .i64 (zaa l0 x.1).f3, .int .i64 (zaa l0 x.1).f4], undef, undef, undef, undef, undef, undef, undef, undef, undef, undef, undef, undef, undef, undef, undef, undef, undef, undef, undef, undef, undef, undef, undef, undef, undef, undef, undef, undef, undef, undef, undef, undef, undef, undef, undef, undef, undef, undef, undef], defers := [] })
   ?hAx ?assign ?body ?done ?stop
 case hAx =>
   rintro x a' _ X Y row ⟨Bx, h1, h2, h3⟩ hg hr
   refine ⟨Bx, h1, (hg.block Bx (zix h2) (fun e => ?_)).trans h2, h3⟩
   obtain ⟨_, o, ho, hi⟩ := hr Bx e.symm
   rw [h2] at ho
   cases ho
   cases hi
 case assign =>
   rintro l pre ⟨i, hi⟩ W' K hI hK
   simp only [ztg]
   gi_wp2
   have hb := zba (Below.refl _ W') (.cells #[.string (zaa l0 i).f0, .int .i64 (zaa l0 i).f1, .int .i64 (zaa l0 i).f2, .int .i64 (zaa l0 i).f3, .int .i64 (zaa l0 i).f4] 55)
   exact hK _ _ ((KeepsOthers.alloc _ _).from _) (zow hI.1.size hb) (zom hI hb) ⟨W'.heap.size, fun e => absurd (Kd.R_lt hI.2.2.2.2.2.2.2 _ e.symm) (Nat.lt_irrefl _), zqz _ _, rfl⟩
 case body =>
   rintro l pre ⟨i, hi⟩ a' W' hl' _ hI ⟨Bx, hBx, bX, rfl⟩ _
   obtain ⟨o, ho⟩ : ∃ o, o = (pre.map Subtype.val).foldl (zcr all cs a1 l0.length) (List.replicate l0.length 0) := ⟨_, rfl⟩
   have hlen : o.length = l0.length := by rw [ho]; exact zxp _ _ _ _ _
   have HE := zA (show ((pre ++ [(⟨i, hi⟩ : { i // i < l0.length })]).map Subtype.val).foldl (zcr all cs a1 l0.length) (List.replicate l0.length 0) = zcr all cs a1 l0.length o i by rw [List.map_append, List.foldl_append, ← ho]; rfl)
   rw [← ho] at hI
   clear ho
   obtain ⟨g, co, rfl, _⟩ := Kd.R_form hI.2.2.2.2.2.2.2 (by omega)
   have hcost := zA (zyf _ _ HC.out i hi)
   gi_wp2
   refine zxn [[], [], [], [], [3], [2, 3, 4], [0, 1, 2, 3, 4, 5], [0, 1, 2, 3, 4, 5, 6]] [[6, 7], [6, 7], [5, 6, 7], [4, 5, 6, 7], [5, 6, 7], [6, 7], [7], []]
     (fun L s W2 => latI w A0 c0 l0.length a1 all q5 q6 (.slice Al all.length cl) (.slice (some ⟨g, 0, none⟩) o.length co) (bif L 7 then o.set i (wrap64 (a1 - rd cs i)) else o) W2 ∧
       W2.heap[Bx]? = some (.cells #[.string (zaa l0 i).f0, .int .i64 (zaa l0 i).f1, .int .i64 (zaa l0 i).f2, .int .i64 (zaa l0 i).f3, .int .i64 (zaa l0 i).f4] 55 (0, 0)) ∧ (KeepsFrom W5.heap.size W' W2 ∧ ztp w.heap.size W.heap.size W' W2) ∧
       (L 0 = true → s 0 = .slice (some ⟨g, 0, none⟩) o.length co) ∧ (L 1 = true → s 1 = .int .i64 i) ∧ (L 2 = true → s 2 = .int .i64 a1) ∧ (L 3 = true → s 3 = .agg #[.string (zaa l0 i).f0, .int .i64 (zaa l0 i).f1, .int .i64 (zaa l0 i).f2, .int .i64 (zaa l0 i).f3, .int .i64 (zaa l0 i).f4]) ∧
       (L 4 = true → s 4 = .int .i64 (rd cs i)) ∧ (L 5 = true → s 5 = .int .i64 (wrap64 (a1 - rd cs i))) ∧ (L 6 = true → s 6 = .pointer (some ⟨g, i, none⟩)))
     zq27 zq27 (fun ⟨_, _, h⟩ => h) (fun _ _ _ _ _ h => h) zq27 ?_ ⟨?_, ?_, ?_, ?_, ?_, ?_, ?_, ?_, trivial⟩ ?_
   · exact ⟨zom hI (zll (Below.refl _ _)), bX, ⟨(KeepsOthers.drew _).from _, zow hI.1.size (zll (Below.refl _ _))⟩, zq73, zq73, zq73, zq73, zq73, zq73, zq73⟩
   · rintro L s W2 hu hd hn ⟨hJ, bX2, hk, g0, g1, g2, g3, g4, g5, g6⟩ K hK
     have hc := zad hJ.2.2.2.2.2.1 0
     refine zp3 (N := some 20) (v := .slice (some ⟨g, 0, none⟩) o.length co) (w1 := W2) (by rfl) rfl ?_ (hK _ _ ⟨hJ, bX2, hk, fun _ => rfl, g1, g2, g3, g4, g5, g6⟩)
     refine zsr ?_
     go_simp
   · rintro L s W2 hu hd hn ⟨hJ, bX2, hk, g0, g1, g2, g3, g4, g5, g6⟩ K hK
     refine zp3 (N := some 21) (v := .int .i64 i) (w1 := W2) (by rfl) rfl ?_ (hK _ _ ⟨hJ, bX2, hk, g0, fun _ => rfl, g2, g3, g4, g5, g6⟩)
     refine zsr ?_
     go_simp
   · rintro L s W2 hu hd hn ⟨hJ, bX2, hk, g0, g1, g2, g3, g4, g5, g6⟩ K hK
     have hc := zad hJ.2.2.2.1 0
     refine zp3 (N := some 22) (v := .int .i64 a1) (w1 := W2) (by rfl) rfl ?_ (hK _ _ ⟨hJ, bX2, hk, g0, g1, fun _ => rfl, g3, g4, g5, g6⟩)
     refine zsr ?_
     go_simp
   · rintro L s W2 hu hd hn ⟨hJ, bX2, hk, g0, g1, g2, g3, g4, g5, g6⟩ K hK
     have x0 := zad bX2 0
     have x1 := zad bX2 1
     have x2 := zad bX2 2
     have x3 := zad bX2 3
     have x4 := zad bX2 4
     refine zp3 (N := some 23) (v := .agg #[.string (zaa l0 i).f0, .int .i64 (zaa l0 i).f1, .int .i64 (zaa l0 i).f2, .int .i64 (zaa l0 i).f3, .int .i64 (zaa l0 i).f4]) (w1 := W2) (by rfl) rfl ?_ (hK _ _ ⟨hJ, bX2, hk, g0, g1, g2, fun _ => rfl, g4, g5, g6⟩)
     refine zsr ?_
     go_simp
   · rintro L s W2 hu hd hn ⟨hJ, bX2, hk, g0, g1, g2, g3, g4, g5, g6⟩ K hK
     refine zvx Tryz.func77 zq27 rfl #[.agg #[.string (zaa l0 i).f0, .int .i64 (zaa l0 i).f1, .int .i64 (zaa l0 i).f2, .int .i64 (zaa l0 i).f3, .int .i64 (zaa l0 i).f4]] (by rfl) rfl rfl (by simp only [List.map_toArray, List.map_cons, List.map_nil]; exact congrArg (fun x => #[x]) (g3 hd)) ?_
     refine (zii _ _ _ _ _ _ _ hcost.out).mono ?_
     rintro e w3 ⟨rfl, hb⟩
     exact ⟨_, rfl, hK _ _ ⟨zom hJ hb, zar bX2 hb, ⟨hk.1.trans (KeepsFrom.of_grownBy (zoi hb none) (fun _ e => by cases e)), zsh hk.2 (zow hJ.1.size hb)⟩, g0, g1, g2, g3, fun _ => rfl, g5, g6⟩⟩
   · rintro L s W2 hu hd hn ⟨hJ, bX2, hk, g0, g1, g2, g3, g4, g5, g6⟩ K hK
     refine zp3 (N := some 25) (v := .int .i64 (wrap64 (a1 - rd cs i))) (w1 := W2) (by rfl) rfl ?_ (hK _ _ ⟨hJ, bX2, hk, g0, g1, g2, g3, g4, fun _ => rfl, g6⟩)
     have e2 := g2 hd.1
     have e4 := g4 hd.2.2
     refine zsr ?_
     go_simp
     exact zia _
   · rintro L s W2 hu hd hn ⟨hJ, bX2, hk, g0, g1, g2, g3, g4, g5, g6⟩ K hK
     refine zp3 (N := some 26) (v := .pointer (some ⟨g, i, none⟩)) (w1 := W2) (by rfl) rfl ?_ (hK _ _ ⟨hJ, bX2, hk, g0, g1, g2, g3, g4, g5, fun _ => rfl⟩)
     have e0 := g0 hd.1
     have e1 := g1 hd.2.1
     have c1 : (0 : Int) ≤ (i : Int) := by omega
     have c2 : (i : Int) < o.length := by omega
     refine zsr ?_
     go_simp
   · rintro L s W2 hu hd hn ⟨hJ, bX2, hk, g0, g1, g2, g3, g4, g5, g6⟩ K hK
     have h7 : L 7 = false := hu
     rw [h7] at hJ
     obtain ⟨e0, e1, e2, e3, e4, e5, e6⟩ := hd
     have e6 := g6 e6
     have e5 := g5 e5
     have hJ' := zyg hJ i (by omega) (by omega) (wrap64 (a1 - rd cs i))
     rw [Int.toNat_natCast] at hJ'
     have hc := Kd.R_cell 0 hJ.2.2.2.2.2.2.2 i (by omega) (by omega)
     rw [Int.toNat_natCast] at hc
     obtain ⟨hc, hf⟩ := hc
     refine ztd (w1 := W2.setCell ⟨g, i, none⟩ (.int .i64 (wrap64 (a1 - rd cs i)))) (by rfl) rfl ?_ (hK undef _ ⟨hJ', za2 bX2 (fun e => hBx (by rw [e]; rfl)) _, ⟨hk.1.trans ((KeepsOthers.setCell _ _ _).from _), zsh hk.2 (zwd (by have := Kd.R_base hJ.2.2.2.2.2.2.2 g rfl; show w.heap.size ≤ g; omega) (Nat.ne_of_gt (HN.out g rfl)) _)⟩, g0, g1, g2, g3, g4, g5, g6⟩)
     refine zsr ?_
     go_simp
   · rintro L s2 W2 hL ⟨hJ, bX2, hk, g0, g1, g2, g3, g4, g5, g6⟩
     have h7 := hL 7 rfl
     rw [h7] at hJ
     have HJ := zA (show latI w A0 c0 l0.length a1 all q5 q6 (.slice Al all.length cl) (.slice (some ⟨g, 0, none⟩) l0.length co) (o.set i (wrap64 (a1 - rd cs i))) W2 by simpa only [hlen, cond_true] using hJ)
     have HK := zA hk
     clear g0 g1 g2 g3 g4 g5 g6 hJ hk bX2 h7 hL
     refine zsr ?_
     gi_wp2
     gi_loopw [9] (fun v9 wr => ∃ (j : Nat) (p : List Int), v9 = .int .i64 (j : Int) ∧ i < j ∧ j ≤ l0.length ∧ Aside0 (p.length = l0.length) ∧ Aside0 (latI w A0 c0 l0.length a1 all q5 q6 (.slice Al all.length cl) (.slice (some ⟨g, 0, none⟩) l0.length co) p wr) ∧
       Aside0 (KeepsFrom W5.heap.size W' wr ∧ ztp w.heap.size W.heap.size W' wr) ∧ Aside0 (zf9 all i (l0.length - j) j p = zcr all cs a1 l0.length o i)) (fun v9 _ => l0.length - (intOf v9).toNat)
     case atStart => exact ⟨i + 1, _, rfl, by omega, by omega, ⟨by simp [hlen]⟩, HJ, HK, ⟨by unfold zcr; rw [show l0.length - (i + 1) = l0.length - 1 - i by omega]⟩⟩
     clear HJ HK
     obtain ⟨j, p, rfl, hij, hjn, HP, HJ, HK, HI⟩ := hrel
     have hc1 := zad HJ.out.2.2.1 0
     have hc5 := zad HJ.out.2.2.2.2.1 0
     have hc6 := zad HJ.out.2.2.2.2.2.1 0
     by_cases hlt : j < l0.length
     rotate_left
     · obtain rfl : j = l0.length := by omega
       have c5 : decide ((l0.length : Int) < l0.length) = false := zdf (by omega)
       gi_wp2
       refine ⟨HK.out.1, HK.out.2, ?_⟩
       show latI _ _ _ _ _ _ _ _ _ _ (((pre ++ [(⟨i, hi⟩ : { i // i < l0.length })]).map Subtype.val).foldl (zcr all cs a1 l0.length) (List.replicate l0.length 0)) _
       rw [HE.out, ← HI.out, Nat.sub_self]
       simp only [hlen]
       exact HJ.out
     have hcA := (zSr HJ.out.2.2.2.2.2.2.1).2.2
     obtain ⟨ad, A1, c1, eAl, hcell, _, hC1⟩ := zln hcA (j : Int) (by omega) (by have := HT.out.1.1; omega)
     obtain ⟨ad1, eA1, hcell1⟩ := Kd.at_int hC1 (i : Int) (by omega) (by have := HT.out.2 j hlt; omega)
     rw [Int.toNat_natCast] at hcell hcell1
     subst eAl
     subst eA1
     obtain ⟨d, hdd⟩ : ∃ d, Aside0 (rd (za5 all (j : Int)) (i : Int) = d) := ⟨_, ⟨rfl⟩⟩
     rw [hdd.out] at hcell1
     have c1 : (0 : Int) ≤ (i : Int) := by omega
     have c2 : (i : Int) < l0.length := by omega
     have c3 : (0 : Int) ≤ (j : Int) := by omega
     have c4 : (j : Int) < l0.length := by omega
     have c5 : decide ((j : Int) < l0.length) = true := zdt c4
     have c6 : (j : Int) < all.length := by have := HT.out.1.1; omega
     have c7 : (i : Int) < (za5 all (j : Int)).length := by have := HT.out.2 j hlt; omega
     by_cases hd : 0 ≤ d
     rotate_left
     · have d1 : decide (0 ≤ d) = false := zdf hd
       gi_wp2
       go_roundw
       case rel =>
         refine ⟨j + 1, p, by go_num, by omega, by omega, HP, HJ, HK, ⟨?_⟩⟩
         rw [← HI.out, show l0.length - j = (l0.length - (j + 1)) + 1 by omega]
         conv => rhs; unfold zf9
         rw [hdd.out, if_neg hd]
       case measure => simp [intOf]; omega
     have d1 : decide (0 ≤ d) = true := zdt hd
     gi_wp2
     obtain ⟨p0, p1⟩ := Kd.R_celln 0 HJ.out.2.2.2.2.2.2.2 (i : Int) (by omega) c2
     obtain ⟨p2, p3⟩ := Kd.R_celln 0 HJ.out.2.2.2.2.2.2.2 (j : Int) (by omega) c4
     rw [Int.toNat_natCast] at p0 p1 p2 p3
     rw [show rdOf 0 p (i : Int) = rd p i from rfl] at p0
     rw [show rdOf 0 p (j : Int) = rd p j from rfl] at p2
     refine zzc [[], [], [], [], [2, 3], [2, 3, 4], [], [], [6, 7], [6, 7, 8], [], [6, 7, 8, 9, 10], [2, 3, 4, 5, 6, 7, 8, 9, 10, 11], [0, 1, 2, 3, 4, 5, 6, 7, 8, 9, 10, 11, 12], [0, 1, 2, 3, 4, 5, 6, 7, 8, 9, 10, 11, 12, 13]] 14
       (zs5 [.slice (some ⟨g, 0, none⟩) l0.length co, .int .i64 i, .slice (some ⟨g, 0, none⟩) l0.length co, .int .i64 i, .pointer (some ⟨g, i, none⟩), .int .i64 (rd p i), .slice (some ⟨g, 0, none⟩) l0.length co, .int .i64 j, .pointer (some ⟨g, j, none⟩), .int .i64 (rd p j), .int .i64 d, .int .i64 (wrap64 (rd p j - d)), .int .i64 (mn (rd p i) (wrap64 (rd p j - d))), .pointer (some ⟨g, i, none⟩)])
       _ zq27 zq27 (fun ⟨_, _, h⟩ => h) (fun _ _ _ _ _ h => h) zq27 (by rfl) (by rfl) (by rfl) ⟨.inl ⟨by rfl, ?_⟩, .inl ⟨by rfl, ?_⟩, .inl ⟨by rfl, ?_⟩, .inl ⟨by rfl, ?_⟩, .inl ⟨by rfl, ?_⟩, .inl ⟨by rfl, ?_⟩, .inl ⟨by rfl, ?_⟩, .inl ⟨by rfl, ?_⟩, .inl ⟨by rfl, ?_⟩, .inl ⟨by rfl, ?_⟩, .inl ⟨by rfl, ?_⟩, .inl ⟨by rfl, ?_⟩, .inl ⟨by rfl, ?_⟩, .inl ⟨by rfl, ?_⟩, trivial⟩ (fun K hK => ?_)
     iterate 11 (· simp only [zfa, riGo, zmf, zkr, zlz, zs5, Nat.reduceBEq, Nat.reduceAdd, List.headD, List.tail, List.getD, List.getElem?_cons_zero, List.getElem?_cons_succ, Option.getD_some, cond_true, cond_false]; go_simp)
     · simp only [zfa, riGo, zmf, zkr, zlz, zs5, Nat.reduceBEq, Nat.reduceAdd, List.headD, List.tail, List.getD, List.getElem?_cons_zero, List.getElem?_cons_succ, Option.getD_some, cond_true, cond_false]
       go_simp
       exact zia _
     · simp only [zfa, riGo, zmf, zkr, zlz, zs5, Nat.reduceBEq, Nat.reduceAdd, List.headD, List.tail, List.getD, List.getElem?_cons_zero, List.getElem?_cons_succ, Option.getD_some, cond_true, cond_false]
       go_simp
       rfl
     · simp only [zfa, riGo, zmf, zkr, zlz, zs5, Nat.reduceBEq, Nat.reduceAdd, List.headD, List.tail, List.getD, List.getElem?_cons_zero, List.getElem?_cons_succ, Option.getD_some, cond_true, cond_false]
       go_simp
     refine ztd (w1 := wr.drew.setCell ⟨g, i, none⟩ (.int .i64 (mn (rd p i) (wrap64 (rd p j - d))))) (by rfl) rfl (by simp only [zfa, riGo, zmf, zkr, zlz, zs5, Nat.reduceBEq, Nat.reduceAdd, List.headD, List.tail, List.getD, List.getElem?_cons_zero, List.getElem?_cons_succ, Option.getD_some, cond_true, cond_false]; go_simp) (hK undef _ ?_)
     refine zsr ?_
     gi_wp2
     go_roundw
     case rel =>
       have hb := zll (Below.refl wr.heap.size wr)
       have hJ := zom HJ.out hb
       have hJ' : latI w A0 c0 l0.length a1 all q5 q6 (.slice (some ad) all.length cl) (.slice (some ⟨g, 0, none⟩) p.length co) p wr.drew := by simpa only [HP.out] using hJ
       have h1 := zyg hJ' (i : Int) (by omega) (by rw [HP.out]; exact c2) (mn (rd p i) (wrap64 (rd p j - d)))
       rw [Int.toNat_natCast] at h1
       refine ⟨j + 1, p.set i (mn (rd p i) (wrap64 (rd p j - d))), by go_num, by omega, by omega, ⟨by simpa using HP.out⟩, ⟨by simp only [HP.out] at h1; exact h1⟩, ⟨HK.out.1.trans (((KeepsOthers.drew _).trans (KeepsOthers.setCell _ _ _)).from _), zsh HK.out.2 (zsh (zow HJ.out.1.size hb) (zwd (by have := Kd.R_base HJ.out.2.2.2.2.2.2.2 g rfl; show w.heap.size ≤ g; omega) (Nat.ne_of_gt (HN.out g rfl)) _))⟩, ⟨?_⟩⟩
       rw [← HI.out, show l0.length - j = (l0.length - (j + 1)) + 1 by omega]
       conv => rhs; unfold zf9
       rw [hdd.out, if_pos hd]
     case measure => simp [intOf]; omega
 case done =>
   rintro D ys W' hD rfl hI hDef
   have hc6 := zad hI.2.2.2.2.2.1 0
   go_wp2
   refine ⟨by simp, .inl ⟨_, _, rfl, run_takeDeferred hDef, ?_⟩⟩
   have hF := zuq hI (grownBy_putObj' W' D (.deferred none)) (fun r e => by cases e; exact ⟨Nat.le_trans hI5.1.size hD, _, hDef, rfl⟩)
   rw [zwe] at hF
   exact ⟨_, results_tmp rfl _ _ _, hR _ _ (Kd.R_lower hF.2.2.2.2.2.2.2 (by omega)) hF.1⟩
 rintro D c pre W' _ _ h _
 exact h.elim
theorem zma (k : Nat) (A0 : Option Addr) (c0 : Nat) (l0 : List (S55)) (a1 : Int) (r : List Int) (w : World) (hr0 : Kd.C k55 w A0 l0.length l0) (hc0 : l0.length ≤ c0) (h : zhr k l0 a1 = some r) :
   Calls Tryz.prog 79 #[.slice A0 l0.length c0, .int .i64 a1] w fun e w' => ∃ v0_ : Value, e = .returned v0_ ∧ Kd.R (Kd.int .i64) 3 w' w.heap.size (fun _ => True) v0_ r ∧ Below w.heap.size w w' := by
 unfold zhr at h
 obtain ⟨all, hA, h⟩ := Option.bind_eq_some_iff.1 h
 obtain ⟨cs, hC, h⟩ := Option.bind_eq_some_iff.1 h
 by_cases hT : zi2 all l0.length = true
 · rw [if_pos hT] at h
   obtain rfl := zsi h
   exact zs6 k A0 c0 l0 a1 all cs w hC hr0 hc0 hA hT _ (fun v W hv hb => ⟨v, rfl, hv, hb⟩)
 · rw [if_neg hT] at h
   cases h
end Go.Proofs.YtabnafbgcpchdaaGreat.Q
end
section
namespace Go.Proofs.YtabnafbgcpchdaaGreat.Q
open Go.RowKit Go.Proofs.YtabnafbgcpchdaaGreatW.PrintWords Go.Proofs.YtabnafbgcpchdaaGreatW.PrintLast Go.Proofs.YtabnafbgcpchdaaGreatW.PrintMore
set_option maxHeartbeats 8000000
set_option maxRecDepth 100000
attribute [local go_sem] zk3 zk4 zmp zmq zjg zjh zk5 zk6
set_option linter.unusedVariables false
set_option linter.unusedSimpArgs false
def zi3 (a0 : Int) : Option (Bool) := some (decide (a0 < 0))
theorem zmg (a0 : Int) (r : Bool) (w : World) (h : zi3 a0 = some r) :
   Calls Tryz.prog 81 #[.int .i64 a0] w fun e w' => e = .returned (.bool r) ∧ Drawn0 w w' := by
 have H := h
 unfold zi3 at H
 clear h
 obtain rfl := zsi H
 go_enter Tryz.func81, Tryz.ntmps81
 exact zr_5
def zat : Nat → List Int → Int → Int → Option (Int)
 | 0, _, _, _ => none
 | k + 1, x0, x7, x8 => if x8 < x7 then (if 0 ≤ x8 then (if x8 < (x0.length : Int) then ((zi3 (rd x0 x8)).bind fun t102 => (if t102 = true then (some x8) else (zat k x0 x7 (wrap64 (x8 + 1))))) else (none)) else (none)) else (some (-1))
def zbw (k : Nat) (l0 : List Int) : Option (Int) := zat k l0 (l0.length : Int) 0
theorem zha : ∀ k, (∀ y0 y1 y2, LeO (zat k y0 y1 y2) (zat (k + 1) y0 y1 y2))
 | 0 => fun _ _ _ r h => by simp [zat] at h
 | k + 1 => by
   have ih0 := zha k
   · intro y0 y1 y2
     unfold zat
     exact zm1 ih0
theorem zkj : ∀ a0 k, LeO (zbw k a0) (zbw (k + 1) a0) := by
 intro a0 k
 have ih0 := zha k
 unfold zbw
 exact zm1 ih0
theorem zkb (k : Nat) (A0 : Option Addr) (c0 : Nat) (l0 : List Int) (r : Int) (w : World) (hr0 : Kd.C (Kd.int .i64) w A0 l0.length l0) (hc0 : l0.length ≤ c0) (h : zbw k l0 = some r) :
   Calls Tryz.prog 122 #[.slice A0 l0.length c0, .func (Fn.func 81) #[] #[]] w fun e w' => e = .returned (.int .i64 r) ∧ Drawn0 w w' := by
 have HR0 := zA hr0
 have HC0 := zA hc0
 clear hr0 hc0
 have H := h
 unfold zbw at H
 clear h
 have H' := zA H
 clear H
 go_enter Tryz.func122, Tryz.ntmps122
 go_wp2
 go_loopg [8] k (fun kq v8 w' => ∃ (x8_1 : Int), v8 = .int .i64 x8_1 ∧ Aside0 (zat kq l0 (l0.length : Int) x8_1 = some r) ∧ Aside0 (kq ≤ k) ∧ Drawn0 w w')
 case atStart => exact ⟨(0), zq7, H', ⟨zlr _⟩, zq13⟩
 clear H'
 obtain ⟨x8_1, rfl, HA, HK1, ⟨m1, rfl⟩⟩ := hrel
 cases gk with
 | zero => exact absurd HA.out (by simp [zat])
 | succ k1 =>
 have H := HA.out
 clear HA
 simp only [zat] at H
 revert H
 refine zit (fun c2 H => ?_) fun c2 H => ?_
 rotate_left
 · obtain rfl := zsi H
   exact zr_5
 revert H
 refine zin fun c3 H => ?_
 revert H
 refine zin fun c4 H => ?_
 replace H := zob H
 obtain ⟨t102, A50, H⟩ := H
 have A5 := zA A50
 clear A50
 by_cases c6 : t102 = true
 · subst c6
   replace H := zih H
   obtain rfl := zsi H
   obtain ⟨p101, q101⟩ := zpq x8_1 l0.length
   obtain ⟨ad101, e101, hx101_0⟩ := Kd.at_int HR0.out x8_1 (zoe p101) (zoe q101)
   cases e101
   go_wp2_with (first | (go_at_call 81; (with_reducible refine (zmg (rd l0 x8_1) true _ A5.out).mono ?_); rintro e w' ⟨rfl, ⟨nd, rfl⟩⟩))
   exact zr_1
 replace c6 := zbf c6
 subst c6
 replace H := zif H
 have H' := zA H
 clear H
 obtain ⟨p101, q101⟩ := zpq x8_1 l0.length
 obtain ⟨ad101, e101, hx101_0⟩ := Kd.at_int HR0.out x8_1 (zoe p101) (zoe q101)
 cases e101
 go_wp2_with (first | (go_at_call 81; (with_reducible refine (zmg (rd l0 x8_1) false _ A5.out).mono ?_); rintro e w' ⟨rfl, ⟨nd, rfl⟩⟩))
 go_roundg k1
 case measure => have := HK1.out; omega
 case rel => exact ⟨(wrap64 (x8_1 + 1)), zq7, H', ⟨zq51 HK1⟩, zq13⟩
def zbg (k : Nat) (l0 : List Int) : Option (Bool) := (zbw k l0).bind fun t101 => (some (decide (t101 ≥ 0)))
theorem zg4 : ∀ a0 k, LeO (zbg k a0) (zbg (k + 1) a0) := by
 intro a0 k
 unfold zbg
 exact zm1 zkj
theorem zgr (k : Nat) (A0 : Option Addr) (c0 : Nat) (l0 : List Int) (r : Bool) (w : World) (hr0 : Kd.C (Kd.int .i64) w A0 l0.length l0) (hc0 : l0.length ≤ c0) (h : zbg k l0 = some r) :
   Calls Tryz.prog 80 #[.slice A0 l0.length c0, .func (Fn.func 81) #[] #[]] w fun e w' => e = .returned (.bool r) ∧ Drawn0 w w' := by
 have HR0 := zA hr0
 have HC0 := zA hc0
 clear hr0 hc0
 have H := h
 unfold zbg at H
 clear h
 replace H := zob H
 obtain ⟨t101, A20, H⟩ := H
 have A2 := zA A20
 clear A20
 obtain rfl := zsi H
 go_enter Tryz.func80, Tryz.ntmps80
 go_wp2_with (first | ((with_reducible refine zgc 122 ?_); refine zca 7 Tryz.func122 #[.slice A0 l0.length c0, .func (Fn.func 81) #[] #[]] (zkb k _ _ l0 t101 _ (zq15 HR0) HC0.out A2.out) ?_; rintro e w' ⟨rfl, ⟨nd, rfl⟩⟩; refine ⟨_, rfl, ?_⟩))
 exact zr_1
def zd1 : Nat → List (S55) → Int → Bool → Option (List Int × Bool)
 | 0, _, _, _ => none
 | k + 1, x0, x1, x14 => if x14 = true then (some (([] : List Int), false)) else ((zhr k x0 x1).bind fun t103 => ((zbg k t103).bind fun t106 => (if t106 = true then (some (([] : List Int), false)) else (some (t103, true)))))
def zhb (k : Nat) (l0 : List (S55)) (a1 : Int) : Option (List Int × Bool) := (zdu k l0).bind fun t101 => (if t101 = true then ((zf7 a1 0 100).bind fun t102 => (zd1 k l0 a1 (!t102))) else (zd1 k l0 a1 true))
theorem zms : ∀ k, (∀ y0 y1 y2, LeO (zd1 k y0 y1 y2) (zd1 (k + 1) y0 y1 y2))
 | 0 => fun _ _ _ r h => by simp [zd1] at h
 | k + 1 => by
   have ih0 := zms k
   · intro y0 y1 y2
     unfold zd1
     exact zm4 ih0 zcg zkw zg4
theorem zyh : ∀ a0 a1 k, LeO (zhb k a0 a1) (zhb (k + 1) a0 a1) := by
 intro a0 a1 k
 have ih0 := zms k
 unfold zhb
 exact zm4 ih0 zcg zkw zg4
theorem zqn (k : Nat) (A0 : Option Addr) (c0 : Nat) (l0 : List (S55)) (a1 : Int) (r1 : List Int) (r2 : Bool) (w : World) (hr0 : Kd.C k55 w A0 l0.length l0) (hc0 : l0.length ≤ c0) (h : zhb k l0 a1 = some (r1, r2)) :
   Calls Tryz.prog 34 #[.slice A0 l0.length c0, .int .i64 a1] w fun e w' => ∃ v0_ : Value, e = .returned (.tuple #[v0_, .bool r2]) ∧ Kd.R (Kd.int .i64) 3 w' w.heap.size (fun _ => True) v0_ r1 ∧ Below w.heap.size w w' := by
 have HR0 := zA hr0
 have HC0 := zA hc0
 clear hr0 hc0
 have HB := zA (Below.refl w.heap.size w)
 have H := h
 unfold zhb at H
 clear h
 have HC3 := zA H
 clear H
 go_enter Tryz.func34, Tryz.ntmps34
 go_upto_region 1 with (fail)
 go_cut [14] (fun v14 wc => ∃ (kq : Nat) (x14_2 : Bool), v14 = .bool x14_2 ∧ Aside0 (zd1 kq l0 a1 x14_2 = some (r1, r2)) ∧ Aside0 (kq ≤ k) ∧ Aside0 (Below w.heap.size w wc))
 case first =>
   have H := HC3.out
   clear HC3
   replace H := zob H
   obtain ⟨t101, A40, H⟩ := H
   have A4 := zA A40
   clear A40
   by_cases c5 : t101 = true
   rotate_left
   · replace c5 := zbf c5
     subst c5
     replace H := zif H
     have H' := zA H
     clear H
     go_wp2_with (first | ((with_reducible refine zgc 51 ?_); refine zca 8 Tryz.func51 #[.slice A0 l0.length c0] (zbc k _ _ l0 false _ (zq21 HR0) HC0.out A4.out) ?_; rintro e w8 ⟨rfl, hb⟩; refine ⟨_, rfl, ?_⟩; replace HB := zA (zab zq1 hb); (try clear hb)))
     go_meet
     case rel => exact ⟨_, (true), zq7, H', ⟨zq42⟩, ⟨zq1⟩⟩
   subst c5
   replace H := zih H
   replace H := zob H
   obtain ⟨t102, A60, H⟩ := H
   have A6 := zA A60
   clear A60
   have H' := zA H
   clear H
   go_wp2_with (first | ((with_reducible refine zgc 51 ?_); refine zca 8 Tryz.func51 #[.slice A0 l0.length c0] (zbc k _ _ l0 true _ (zq21 HR0) HC0.out A4.out) ?_; rintro e w7 ⟨rfl, hb⟩; refine ⟨_, rfl, ?_⟩; replace HB := zA (zab zq1 hb); (try clear hb)) | (go_at_call 78; (with_reducible refine (zgu a1 0 100 t102 _ A6.out).mono ?_); rintro e w' ⟨rfl, ⟨nd, rfl⟩⟩))
   go_meet
   case rel => exact ⟨_, (!t102), zq7, H', ⟨zq42⟩, ⟨zq1⟩⟩
 clear HC3
 obtain ⟨kq, x14_2, rfl, HA, HJ2, HB⟩ := hcut
 cases kq with
 | zero => exact absurd HA.out (by simp [zd1])
 | succ kj2 =>
 have H := HA.out
 clear HA
 simp only [zd1] at H
 by_cases c9 : x14_2 = true
 · subst c9
   replace H := zih H
   simp only [Option.some.injEq, Prod.mk.injEq] at H
   obtain ⟨rfl, rfl⟩ := H
   go_wp2
   go_ret2
   exact ⟨_, zq5, zq25, zq1⟩
 replace c9 := zbf c9
 subst c9
 replace H := zif H
 replace H := zob H
 obtain ⟨t103, A100, H⟩ := H
 have A10 := zA A100
 clear A100
 replace H := zob H
 obtain ⟨t106, A110, H⟩ := H
 have A11 := zA A110
 clear A110
 by_cases c12 : t106 = true
 · subst c12
   replace H := zih H
   simp only [Option.some.injEq, Prod.mk.injEq] at H
   obtain ⟨rfl, rfl⟩ := H
   go_wp2_with (first | ((with_reducible refine zgc 79 ?_); refine zca 17 Tryz.func79 #[.slice A0 l0.length c0, .int .i64 a1] (zma kj2 _ _ l0 a1 t103 _ (zq21 HR0) HC0.out A10.out) ?_; rintro e w13 ⟨v104, rfl, ho0, hb⟩; refine ⟨_, rfl, ?_⟩; have HO105 := zA (Kd.R_lower ho0 (zaj zq1)); replace HB := zA (zab zq1 hb); (try clear hb); (try clear ho0); obtain ⟨Ao14, co14, eo14⟩ := Kd.R_slice HO105.out; subst eo14) | ((with_reducible refine zgc 80 ?_); refine zca 19 Tryz.func80 #[.slice Ao14 t103.length co14, .func (Fn.func 81) #[] #[]] (zgr kj2 _ _ t103 true _ (zq19 HO105) (zq48 HO105) A11.out) ?_; rintro e w' ⟨rfl, ⟨nd, rfl⟩⟩; refine ⟨_, rfl, ?_⟩))
   go_ret2
   exact ⟨_, zq5, zq25, zq1⟩
 replace c12 := zbf c12
 subst c12
 replace H := zif H
 simp only [Option.some.injEq, Prod.mk.injEq] at H
 obtain ⟨rfl, rfl⟩ := H
 go_wp2_with (first | ((with_reducible refine zgc 79 ?_); refine zca 17 Tryz.func79 #[.slice A0 l0.length c0, .int .i64 a1] (zma kj2 _ _ l0 a1 t103 _ (zq21 HR0) HC0.out A10.out) ?_; rintro e w15 ⟨v104, rfl, ho0, hb⟩; refine ⟨_, rfl, ?_⟩; have HO105 := zA (Kd.R_lower ho0 (zaj zq1)); replace HB := zA (zab zq1 hb); (try clear hb); (try clear ho0); obtain ⟨Ao16, co16, eo16⟩ := Kd.R_slice HO105.out; subst eo16) | ((with_reducible refine zgc 80 ?_); refine zca 19 Tryz.func80 #[.slice Ao16 t103.length co16, .func (Fn.func 81) #[] #[]] (zgr kj2 _ _ t103 false _ (zq19 HO105) (zq48 HO105) A11.out) ?_; rintro e w' ⟨rfl, ⟨nd, rfl⟩⟩; refine ⟨_, rfl, ?_⟩))
 go_ret2
 exact ⟨_, zq5, zq2 HO105, zq1⟩
def zdn : Nat → List Int → Int → List (S55) → Int → Int → Option (Int)
 | 0, _, _, _, _, _ => none
 | k + 1, x1, x5, x8, x9, x10 => if x10 < x9 then (if 0 ≤ x10 then (if x10 < (x8.length : Int) then (if x10 < (x1.length : Int) then ((zem ((zaa x8 x10).f0) ((zaa x8 x10).f1) ((zaa x8 x10).f2) ((zaa x8 x10).f3) ((zaa x8 x10).f4)).bind fun t104 => (zdn k x1 (mx x5 (wrap64 ((rd x1 x10) + t104))) x8 x9 (wrap64 (x10 + 1)))) else (none)) else (none)) else (none)) else (some x5)
def zhc (k : Nat) (l0 : List (S55)) (l1 : List Int) : Option (Int) := zdn k l1 0 l0 (l0.length : Int) 0
theorem zmt : ∀ k, (∀ y0 y1 y2 y3 y4, LeO (zdn k y0 y1 y2 y3 y4) (zdn (k + 1) y0 y1 y2 y3 y4))
 | 0 => fun _ _ _ _ _ r h => by simp [zdn] at h
 | k + 1 => by
   have ih0 := zmt k
   · intro y0 y1 y2 y3 y4
     unfold zdn
     exact zm1 ih0
theorem zrj : ∀ a0 a1 k, LeO (zhc k a0 a1) (zhc (k + 1) a0 a1) := by
 intro a0 a1 k
 have ih0 := zmt k
 unfold zhc
 exact zm1 ih0
def impl_lengthOf.T5 : Bool × List (List Nat × List Nat) := (true, [([], []), ([], []), ([], []), ([1, 2], [1, 2]), ([3], [3]), ([], []), ([5], [5]), ([4, 6], [4, 6]), ([0, 7], [0, 7]), ([8, 6, 0, 1, 2, 3, 4, 5, 6, 7, 8], [0, 8])])
def zs7 : List Nat := [0, 0, 0, 6, 14, 0, 32, 126, 255, 511]
theorem zrk : rtab .any (zun Tryz.f73 5) = impl_lengthOf.T5 := by kernel_rfl
theorem zqo : zlc impl_lengthOf.T5.2 zs7 = true := by kernel_rfl
theorem zqp (k : Nat) (A0 : Option Addr) (c0 : Nat) (l0 : List (S55)) (A1 : Option Addr) (c1 : Nat) (l1 : List Int) (r : Int) (w : World) (hr0 : Kd.C k55 w A0 l0.length l0) (hc0 : l0.length ≤ c0) (hr1 : Kd.C (Kd.int .i64) w A1 l1.length l1) (hc1 : l1.length ≤ c1) (h : zhc k l0 l1 = some r) :
   Calls Tryz.prog 73 #[.slice A0 l0.length c0, .slice A1 l1.length c1] w fun e w' => e = .returned (.int .i64 r) ∧ Below w.heap.size w w' := by
 have hu55 := Tryz.underlying55
 have HR0 := zA hr0
 have HC0 := zA hc0
 clear hr0 hc0
 have HR1 := zA hr1
 have HC1 := zA hc1
 clear hr1 hc1
 have HB := zA (Below.refl w.heap.size w)
 have H := h
 unfold zhc at H
 clear h
 have H' := zA H
 clear H
 go_enter Tryz.func73, Tryz.ntmps73
 go_wp2
 go_loopg [5, 10] k (fun kq v5 v10 w' => ∃ (x5_1 : Int) (x10_1 : Int), v5 = .int .i64 x5_1 ∧ v10 = .int .i64 x10_1 ∧ Aside0 (zdn kq l1 x5_1 l0 (l0.length : Int) x10_1 = some r) ∧ Aside0 (kq ≤ k) ∧ Aside0 (Below w.heap.size w w'))
 case atStart => exact ⟨(0), (0), zq7, zq7, H', ⟨zlr _⟩, ⟨zq1⟩⟩
 clear H'
 obtain ⟨x5_1, x10_1, rfl, rfl, HA, HK1, HB⟩ := hrel
 cases gk with
 | zero => exact absurd HA.out (by simp [zdn])
 | succ k1 =>
 have H := HA.out
 clear HA
 simp only [zdn] at H
 revert H
 refine zit (fun c3 H => ?_) fun c3 H => ?_
 rotate_left
 · obtain rfl := zsi H
   go_wp2
   exact zr_2
 revert H
 refine zin fun c4 H => ?_
 revert H
 refine zin fun c5 H => ?_
 revert H
 refine zin fun c6 H => ?_
 replace H := zob H
 obtain ⟨t104, A70, H⟩ := H
 have A7 := zA A70
 clear A70
 obtain ⟨ji8, hji8⟩ : ∃ j_ : Int, (mx x5_1 (wrap64 ((rd l1 x10_1) + t104))) = j_ := ⟨_, rfl⟩
 replace H : (zdn k1 l1 ji8 l0 (l0.length : Int) (wrap64 (x10_1 + 1))) = some r := by first | (rw [hji8] at H; exact H) | (simp only [hji8] at H ⊢; exact H)
 (try rw [hji8] at A7)
 have hji8_ : (if x5_1 < (wrap64 ((rd l1 x10_1) + t104)) then (wrap64 ((rd l1 x10_1) + t104)) else x5_1) = ji8 := hji8
 have H' := zA H
 clear H
 obtain ⟨p101, q101⟩ := zpq x10_1 l0.length
 obtain ⟨ad101, e101, hx101_0, hx101_1, hx101_2, hx101_3, hx101_4⟩ := zld HR0.out x10_1 (zoe p101) (zoe q101)
 cases e101
 replace hx101_0 := zkep HB.out hx101_0
 replace hx101_1 := zkep HB.out hx101_1
 replace hx101_2 := zkep HB.out hx101_2
 replace hx101_3 := zkep HB.out hx101_3
 replace hx101_4 := zkep HB.out hx101_4
 try go_wp2_with (first | ((with_reducible refine zgd 7 ?_); refine zbh zq1 #[.string (⟨#[]⟩ : ByteArray), .int .i64 0, .int .i64 0, .int .i64 0, .int .i64 0] 55 ?_; clear HB; intro gb102 w9 HB BK102 GW102; have GE102 := GW102; obtain ⟨hcz10_0, hcz10_1, hcz10_2, hcz10_3, hcz10_4, hfz10_0, hfz10_1, hfz10_2, hfz10_3, hfz10_4⟩ := zd5 BK102))
 have n0_ : Aside0 ((((((w9.setCell ⟨gb102, 0, none⟩ (.string ((zaa l0 x10_1).f0))).setCell ⟨gb102, 1, none⟩ (.int .i64 ((zaa l0 x10_1).f1))).setCell ⟨gb102, 2, none⟩ (.int .i64 ((zaa l0 x10_1).f2))).setCell ⟨gb102, 3, none⟩ (.int .i64 ((zaa l0 x10_1).f3))).setCell ⟨gb102, 4, none⟩ (.int .i64 ((zaa l0 x10_1).f4))).heap[gb102]? = some (.cells #[.string ((zaa l0 x10_1).f0), .int .i64 ((zaa l0 x10_1).f1), .int .i64 ((zaa l0 x10_1).f2), .int .i64 ((zaa l0 x10_1).f3), .int .i64 ((zaa l0 x10_1).f4)] 55 (0, 0))) := ⟨zq22 BK102⟩
 have n1_ : Aside0 (Below w.heap.size w (((((w9.setCell ⟨gb102, 0, none⟩ (.string ((zaa l0 x10_1).f0))).setCell ⟨gb102, 1, none⟩ (.int .i64 ((zaa l0 x10_1).f1))).setCell ⟨gb102, 2, none⟩ (.int .i64 ((zaa l0 x10_1).f2))).setCell ⟨gb102, 3, none⟩ (.int .i64 ((zaa l0 x10_1).f3))).setCell ⟨gb102, 4, none⟩ (.int .i64 ((zaa l0 x10_1).f4)))) := ⟨zq10 GE102⟩
 (try clear BK102)
 (try clear HB)
 generalize (((((w9.setCell ⟨gb102, 0, none⟩ (.string ((zaa l0 x10_1).f0))).setCell ⟨gb102, 1, none⟩ (.int .i64 ((zaa l0 x10_1).f1))).setCell ⟨gb102, 2, none⟩ (.int .i64 ((zaa l0 x10_1).f2))).setCell ⟨gb102, 3, none⟩ (.int .i64 ((zaa l0 x10_1).f3))).setCell ⟨gb102, 4, none⟩ (.int .i64 ((zaa l0 x10_1).f4))) = w11 at n0_ n1_ ⊢
 have BK102 := n0_
 have HB := n1_
 clear n0_ n1_
 replace BK102 := zA (zkd BK102.out)
 replace HB := zA (zbd HB.out)
 obtain ⟨p103, q103⟩ := zpq x10_1 l1.length
 obtain ⟨ad103, e103, hx103_0⟩ := Kd.at_int HR1.out x10_1 (zoe p103) (zoe q103)
 have hw103_0 := hx103_0
 cases e103
 replace hx103_0 := zkep HB.out hx103_0
 refine zmx (n := 10) (S := fun w' => w'.cell? ⟨gb102, 0, none⟩ = some (.string ((zaa l0 x10_1).f0)) ∧ w'.cell? ⟨gb102, 1, none⟩ = some (.int .i64 ((zaa l0 x10_1).f1)) ∧ w'.cell? ⟨gb102, 2, none⟩ = some (.int .i64 ((zaa l0 x10_1).f2)) ∧ w'.cell? ⟨gb102, 3, none⟩ = some (.int .i64 ((zaa l0 x10_1).f3)) ∧ w'.cell? ⟨gb102, 4, none⟩ = some (.int .i64 ((zaa l0 x10_1).f4)) ∧ w'.cell? (ad103.add (x10_1).toNat) = some (.int .i64 (rd l1 x10_1))) (ds := []) #[false, false, false, false, false, false, false, false, false, false] zq27 rfl rfl ⟨(zad BK102.out 0).trans rfl, (zad BK102.out 1).trans rfl, (zad BK102.out 2).trans rfl, (zad BK102.out 3).trans rfl, (zad BK102.out 4).trans rfl, (zkep HB.out hw103_0)⟩ (fun hHeld => ?_); refine zji zrk zqo (fun HT_ HW_ => ?_)
 generalize w11.drew = w12 at BK102 HB hx103_0 hHeld ⊢
 refine zpu 0 15 HT_ ?_
 refine zpu 1 16 HT_ ?_
 refine zpu 2 17 HT_ ?_
 refine zpu 3 18 HT_ ?_
 refine ztu 4 19 HT_ HW_ hHeld ?_
 refine ztu 5 20 HT_ HW_ hHeld ?_
 refine one_ (i := 6) (N := some 21) #[true, true, true, true, true, true, true, false, false, false] rfl rfl (zl7 HT_.out zq27) (by decide) (fun K hK => ?_)
 refine zgo Tryz.func77 (zii ((zaa l0 x10_1).f0) ((zaa l0 x10_1).f1) ((zaa l0 x10_1).f2) ((zaa l0 x10_1).f3) ((zaa l0 x10_1).f4) t104 _ A7.out) ?_
 rintro e w13 ⟨rfl, hb⟩
 refine ⟨_, rfl, ?_⟩
 replace BK102 := zA (zar (g := gb102) (o := .cells #[.string ((zaa l0 x10_1).f0), .int .i64 ((zaa l0 x10_1).f1), .int .i64 ((zaa l0 x10_1).f2), .int .i64 ((zaa l0 x10_1).f3), .int .i64 ((zaa l0 x10_1).f4)] 55 (0, 0)) (zq8 BK102) hb)
 replace HB := zA (zab (zq10 GE102) hb)
 (try clear hb)
 (try clear hb2)
 (try clear hk)
 (try clear hi)
 refine hK.out _ _ ⟨(zad BK102.out 0).trans rfl, (zad BK102.out 1).trans rfl, (zad BK102.out 2).trans rfl, (zad BK102.out 3).trans rfl, (zad BK102.out 4).trans rfl, (zkep HB.out hw103_0)⟩ (fun hHeld => ?_)
 clear hK K
 refine znm 21 ?_
 refine zpu 7 22 HT_ ?_
 refine zpu 8 23 HT_ ?_
 refine zpu 9 5 HT_ ?_
 refine zpl (zlx HT_.out zq27) ?_
 try go_wp2
 go_roundg k1
 case measure => have := HK1.out; omega
 case rel => exact ⟨(ji8), (wrap64 (x10_1 + 1)), (by first | rfl | (simp; done) | (simp only [← hji8] <;> (first | rfl | simp)) | (simp [*]; done)), zq7, H', ⟨zq51 HK1⟩, ⟨zq10 GE102⟩⟩
def zga (k : Nat) (l0 : List (S55)) (l1 : List Int) : Option (Int × Bool) := (ze5 k l0 l1).bind fun t101 => (if t101 = true then ((zhc k l0 l1).bind fun t102 => (some (t102, true))) else (some (0, false)))
theorem zyi : ∀ a0 a1 k, LeO (zga k a0 a1) (zga (k + 1) a0 a1) := by
 intro a0 a1 k
 unfold zga
 exact zm2 zk9 zrj
theorem zng (k : Nat) (A0 : Option Addr) (c0 : Nat) (l0 : List (S55)) (A1 : Option Addr) (c1 : Nat) (l1 : List Int) (r1 : Int) (r2 : Bool) (w : World) (hr0 : Kd.C k55 w A0 l0.length l0) (hc0 : l0.length ≤ c0) (hr1 : Kd.C (Kd.int .i64) w A1 l1.length l1) (hc1 : l1.length ≤ c1) (h : zga k l0 l1 = some (r1, r2)) :
   Calls Tryz.prog 30 #[.slice A0 l0.length c0, .slice A1 l1.length c1] w fun e w' => e = .returned (.tuple #[.int .i64 r1, .bool r2]) ∧ Below w.heap.size w w' := by
 have HR0 := zA hr0
 have HC0 := zA hc0
 clear hr0 hc0
 have HR1 := zA hr1
 have HC1 := zA hc1
 clear hr1 hc1
 have HB := zA (Below.refl w.heap.size w)
 have H := h
 unfold zga at H
 clear h
 replace H := zob H
 obtain ⟨t101, A30, H⟩ := H
 have A3 := zA A30
 clear A30
 by_cases c4 : t101 = true
 rotate_left
 · replace c4 := zbf c4
   subst c4
   replace H := zif H
   simp only [Option.some.injEq, Prod.mk.injEq] at H
   obtain ⟨rfl, rfl⟩ := H
   go_enter Tryz.func30, Tryz.ntmps30
   go_wp2_with (first | ((with_reducible refine zgc 68 ?_); refine zca 8 Tryz.func68 #[.slice A0 l0.length c0, .slice A1 l1.length c1] (zgi k _ _ l0 _ _ l1 false _ (zq15 HR0) HC0.out (zq15 HR1) HC1.out A3.out) ?_; rintro e w8 ⟨rfl, hb⟩; refine ⟨_, rfl, ?_⟩; replace HB := zA (zab zq1 hb); (try clear hb)))
   go_ret2
   exact ⟨zq5, zq1⟩
 subst c4
 replace H := zih H
 replace H := zob H
 obtain ⟨t102, A50, H⟩ := H
 have A5 := zA A50
 clear A50
 simp only [Option.some.injEq, Prod.mk.injEq] at H
 obtain ⟨rfl, rfl⟩ := H
 go_enter Tryz.func30, Tryz.ntmps30
 go_wp2_with (first | ((with_reducible refine zgc 68 ?_); refine zca 8 Tryz.func68 #[.slice A0 l0.length c0, .slice A1 l1.length c1] (zgi k _ _ l0 _ _ l1 true _ (zq15 HR0) HC0.out (zq15 HR1) HC1.out A3.out) ?_; rintro e w6 ⟨rfl, hb⟩; refine ⟨_, rfl, ?_⟩; replace HB := zA (zab zq1 hb); (try clear hb)) | ((with_reducible refine zgc 73 ?_); refine zca 12 Tryz.func73 #[.slice A0 l0.length c0, .slice A1 l1.length c1] (zqp k _ _ l0 _ _ l1 t102 _ (zq21 HR0) HC0.out (zq21 HR1) HC1.out A5.out) ?_; rintro e w7 ⟨rfl, hb⟩; refine ⟨_, rfl, ?_⟩; replace HB := zA (zab zq1 hb); (try clear hb)))
 go_ret2
 exact ⟨zq5, zq1⟩
def zb0 : Nat → Int → Int → List (List Int) → List Int → Int → Int → Option (Bool)
 | 0, _, _, _, _, _, _ => none
 | k + 1, x0, x1, x3, x12, x13, x14 => if x14 < x13 then (if 0 ≤ x14 then (if x14 < (x12.length : Int) then (if (rd x12 x14) ≥ 0 then (if 0 < (x3.length : Int) then (if x14 < ((za5 x3 0).length : Int) then (if (rd (za5 x3 0) x14) < 0 then (some false) else (if (wrap64 ((rd (za5 x3 0) x14) + (rd x12 x14))) > x1 then (some false) else (zb0 k x0 x1 x3 x12 x13 (wrap64 (x14 + 1))))) else (none)) else (none)) else (zb0 k x0 x1 x3 x12 x13 (wrap64 (x14 + 1)))) else (none)) else (none)) else (if 0 < (x3.length : Int) then (if 0 ≤ x0 then (if x0 < ((za5 x3 0).length : Int) then (some (decide ((rd (za5 x3 0) x0) < 0))) else (none)) else (none)) else (none))
def zed (k : Nat) (a0 : Int) (a1 : Int) (l2 : List (List (List Int))) (l3 : List (List Int)) : Option (Bool) := if 0 < (l2.length : Int) then (if 0 ≤ a0 then (if a0 < ((zqc l2 0).length : Int) then (zb0 k a0 a1 l3 (za5 (zqc l2 0) a0) ((za5 (zqc l2 0) a0).length : Int) 0) else (none)) else (none)) else (none)
theorem zkh : ∀ k, (∀ y0 y1 y2 y3 y4 y5, LeO (zb0 k y0 y1 y2 y3 y4 y5) (zb0 (k + 1) y0 y1 y2 y3 y4 y5))
 | 0 => fun _ _ _ _ _ _ r h => by simp [zb0] at h
 | k + 1 => by
   have ih0 := zkh k
   · intro y0 y1 y2 y3 y4 y5
     unfold zb0
     exact zm1 ih0
theorem zfy : ∀ a0 a1 a2 a3 k, LeO (zed k a0 a1 a2 a3) (zed (k + 1) a0 a1 a2 a3) := by
 intro a0 a1 a2 a3 k
 have ih0 := zkh k
 unfold zed
 exact zm1 ih0
theorem zg6 (k : Nat) (a0 : Int) (a1 : Int) (A2 : Option Addr) (c2 : Nat) (l2 : List (List (List Int))) (A3 : Option Addr) (c3 : Nat) (l3 : List (List Int)) (r : Bool) (w : World) (hr2 : Kd.C (Kd.slice 25 (Kd.slice 3 (Kd.int .i64))) w A2 l2.length l2) (hc2 : l2.length ≤ c2) (hr3 : Kd.C (Kd.slice 3 (Kd.int .i64)) w A3 l3.length l3) (hc3 : l3.length ≤ c3) (h : zed k a0 a1 l2 l3 = some r) :
   Calls Tryz.prog 84 #[.int .i64 a0, .int .i64 a1, .pointer A2, .pointer A3] w fun e w' => e = .returned (.bool r) ∧ Drawn0 w w' := by
 have HR2 := zA hr2
 have HC2 := zA hc2
 clear hr2 hc2
 have HR3 := zA hr3
 have HC3 := zA hc3
 clear hr3 hc3
 have H := h
 unfold zed at H
 clear h
 by_cases c5 : 0 < (l2.length : Int)
 rotate_left
 · rw [if_neg c5] at H
   exact absurd H (by simp)
 rw [if_pos c5] at H
 have c5b0 := zdt c5
 have c5b1 : decide (0 < l2.length) = true := zdt (by omega)
 clear c5
 revert H
 refine zin fun c6 H => ?_
 revert H
 refine zin fun c7 H => ?_
 have H' := zA H
 clear H
 have p101 : 0 ≤ (0 : Int) := (by omega)
 have q101 : 0 < (l2.length : Int) := zde zq20
 obtain ⟨ad101, A101_0, c101_0, e101, hx101_0, hl101_0, hi101_0⟩ := at_L8 HR2.out 0 p101 q101
 cases e101
 have qi101 : (0 < l2.length) = True := eq_true (by omega)
 (try rw [show ((0 : Int)).toNat = 0 from rfl] at hx101_0)
 (try rw [Addr.add_zero'] at hx101_0)
 have HR101_0 := zA hi101_0
 have HC101_0 := zA hl101_0
 clear hi101_0 hl101_0
 replace p101 := eq_true p101
 replace q101 := eq_true q101
 have p102 : 0 ≤ (a0 : Int) := zde zq20
 have q102 : a0 < ((zqc l2 0).length : Int) := zde zq20
 obtain ⟨ad102, A102_0, c102_0, e102, hx102_0, hl102_0, hi102_0⟩ := zln HR101_0.out a0 p102 q102
 cases e102
 have HR102_0 := zA hi102_0
 have HC102_0 := zA hl102_0
 clear hi102_0 hl102_0
 replace p102 := eq_true p102
 replace q102 := eq_true q102
 go_enter Tryz.func84, Tryz.ntmps84
 go_wp2
 go_loopg [14] k (fun kq v14 w' => ∃ (x14_1 : Int), v14 = .int .i64 x14_1 ∧ Aside0 (zb0 kq a0 a1 l3 (za5 (zqc l2 0) a0) ((za5 (zqc l2 0) a0).length : Int) x14_1 = some r) ∧ Aside0 (kq ≤ k) ∧ Drawn0 w w')
 case atStart => exact ⟨(0), zq7, H', ⟨zlr _⟩, zq13⟩
 clear H'
 obtain ⟨x14_1, rfl, HA, HK1, ⟨m1, rfl⟩⟩ := hrel
 cases gk with
 | zero => exact absurd HA.out (by simp [zb0])
 | succ k1 =>
 have H := HA.out
 clear HA
 simp only [zb0] at H
 revert H
 refine zit (fun c8 H => ?_) fun c8 H => ?_
 rotate_left
 · by_cases c16 : 0 < (l3.length : Int)
   rotate_left
   · rw [if_neg c16] at H
     exact absurd H (by simp)
   rw [if_pos c16] at H
   have c16b0 := zdt c16
   have c16b1 : decide (0 < l3.length) = true := zdt (by omega)
   clear c16
   revert H
   refine zin fun c17 H => ?_
   revert H
   refine zin fun c18 H => ?_
   obtain rfl := zsi H
   have p108 : 0 ≤ (0 : Int) := (by omega)
   have q108 : 0 < (l3.length : Int) := zde zq20
   obtain ⟨ad108, A108_0, c108_0, e108, hx108_0, hl108_0, hi108_0⟩ := zln HR3.out 0 p108 q108
   cases e108
   have qi108 : (0 < l3.length) = True := eq_true (by omega)
   (try rw [show ((0 : Int)).toNat = 0 from rfl] at hx108_0)
   (try rw [Addr.add_zero'] at hx108_0)
   have HR108_0 := zA hi108_0
   have HC108_0 := zA hl108_0
   clear hi108_0 hl108_0
   replace p108 := eq_true p108
   replace q108 := eq_true q108
   have p109 : 0 ≤ (a0 : Int) := zde zq20
   have q109 : a0 < ((za5 l3 0).length : Int) := zde zq20
   obtain ⟨ad109, e109, hx109_0⟩ := Kd.at_int HR108_0.out a0 p109 q109
   cases e109
   replace p109 := eq_true p109
   replace q109 := eq_true q109
   exact zr_5
 revert H
 refine zin fun c9 H => ?_
 revert H
 refine zin fun c10 H => ?_
 by_cases c11 : (rd (za5 (zqc l2 0) a0) x14_1) ≥ 0
 rotate_left
 · rw [if_neg c11] at H
   have c11b0 := zdf c11
   clear c11
   have H' := zA H
   clear H
   have p103 : 0 ≤ (x14_1 : Int) := zde zq20
   have q103 : x14_1 < ((za5 (zqc l2 0) a0).length : Int) := zde zq20
   obtain ⟨ad103, e103, hx103_0⟩ := Kd.at_int HR102_0.out x14_1 p103 q103
   cases e103
   replace p103 := eq_true p103
   replace q103 := eq_true q103
   go_wp2
   go_roundg k1
   case measure => have := HK1.out; omega
   case rel => exact ⟨(wrap64 (x14_1 + 1)), zq7, H', ⟨zq51 HK1⟩, zq13⟩
 rw [if_pos c11] at H
 have c11b0 := zdt c11
 clear c11
 by_cases c12 : 0 < (l3.length : Int)
 rotate_left
 · rw [if_neg c12] at H
   exact absurd H (by simp)
 rw [if_pos c12] at H
 have c12b0 := zdt c12
 have c12b1 : decide (0 < l3.length) = true := zdt (by omega)
 clear c12
 revert H
 refine zin fun c13 H => ?_
 revert H
 refine zit (fun c14b0 H => ?_) fun c14b0 H => ?_
 · obtain rfl := zsi H
   have p103 : 0 ≤ (x14_1 : Int) := zde zq20
   have q103 : x14_1 < ((za5 (zqc l2 0) a0).length : Int) := zde zq20
   obtain ⟨ad103, e103, hx103_0⟩ := Kd.at_int HR102_0.out x14_1 p103 q103
   cases e103
   replace p103 := eq_true p103
   replace q103 := eq_true q103
   have p104 : 0 ≤ (0 : Int) := (by omega)
   have q104 : 0 < (l3.length : Int) := zde zq20
   obtain ⟨ad104, A104_0, c104_0, e104, hx104_0, hl104_0, hi104_0⟩ := zln HR3.out 0 p104 q104
   cases e104
   have qi104 : (0 < l3.length) = True := eq_true (by omega)
   (try rw [show ((0 : Int)).toNat = 0 from rfl] at hx104_0)
   (try rw [Addr.add_zero'] at hx104_0)
   have HR104_0 := zA hi104_0
   have HC104_0 := zA hl104_0
   clear hi104_0 hl104_0
   replace p104 := eq_true p104
   replace q104 := eq_true q104
   have p105 : 0 ≤ (x14_1 : Int) := zde zq20
   have q105 : x14_1 < ((za5 l3 0).length : Int) := zde zq20
   obtain ⟨ad105, e105, hx105_0⟩ := Kd.at_int HR104_0.out x14_1 p105 q105
   cases e105
   replace p105 := eq_true p105
   replace q105 := eq_true q105
   exact zr_5
 revert H
 refine zit (fun c15b0 H => ?_) fun c15b0 H => ?_
 · obtain rfl := zsi H
   have p103 : 0 ≤ (x14_1 : Int) := zde zq20
   have q103 : x14_1 < ((za5 (zqc l2 0) a0).length : Int) := zde zq20
   obtain ⟨ad103, e103, hx103_0⟩ := Kd.at_int HR102_0.out x14_1 p103 q103
   cases e103
   replace p103 := eq_true p103
   replace q103 := eq_true q103
   have p104 : 0 ≤ (0 : Int) := (by omega)
   have q104 : 0 < (l3.length : Int) := zde zq20
   obtain ⟨ad104, A104_0, c104_0, e104, hx104_0, hl104_0, hi104_0⟩ := zln HR3.out 0 p104 q104
   cases e104
   have qi104 : (0 < l3.length) = True := eq_true (by omega)
   (try rw [show ((0 : Int)).toNat = 0 from rfl] at hx104_0)
   (try rw [Addr.add_zero'] at hx104_0)
   have HR104_0 := zA hi104_0
   have HC104_0 := zA hl104_0
   clear hi104_0 hl104_0
   replace p104 := eq_true p104
   replace q104 := eq_true q104
   have p105 : 0 ≤ (x14_1 : Int) := zde zq20
   have q105 : x14_1 < ((za5 l3 0).length : Int) := zde zq20
   obtain ⟨ad105, e105, hx105_0⟩ := Kd.at_int HR104_0.out x14_1 p105 q105
   cases e105
   replace p105 := eq_true p105
   replace q105 := eq_true q105
   have p106 : 0 ≤ (0 : Int) := (by omega)
   have q106 : 0 < (l3.length : Int) := zde zq20
   obtain ⟨ad106, A106_0, c106_0, e106, hx106_0, hl106_0, hi106_0⟩ := zln HR3.out 0 p106 q106
   obtain rfl : ad104 = ad106 := (by injection e106)
   have qi106 : (0 < l3.length) = True := eq_true (by omega)
   (try rw [show ((0 : Int)).toNat = 0 from rfl] at hx106_0)
   (try rw [Addr.add_zero'] at hx106_0)
   have HR106_0 := zA hi106_0
   have HC106_0 := zA hl106_0
   clear hi106_0 hl106_0
   replace p106 := eq_true p106
   replace q106 := eq_true q106
   have ea_ := zsi (hx104_0.symm.trans hx106_0)
   injection ea_ with ea_ en_ ec_
   subst ea_
   subst ec_
   clear en_
   have p107 : 0 ≤ (x14_1 : Int) := zde zq20
   have q107 : x14_1 < ((za5 l3 0).length : Int) := zde zq20
   obtain ⟨ad107, e107, hx107_0⟩ := Kd.at_int HR106_0.out x14_1 p107 q107
   cases e107
   replace p107 := eq_true p107
   replace q107 := eq_true q107
   exact zr_5
 have H' := zA H
 clear H
 have p103 : 0 ≤ (x14_1 : Int) := zde zq20
 have q103 : x14_1 < ((za5 (zqc l2 0) a0).length : Int) := zde zq20
 obtain ⟨ad103, e103, hx103_0⟩ := Kd.at_int HR102_0.out x14_1 p103 q103
 cases e103
 replace p103 := eq_true p103
 replace q103 := eq_true q103
 have p104 : 0 ≤ (0 : Int) := (by omega)
 have q104 : 0 < (l3.length : Int) := zde zq20
 obtain ⟨ad104, A104_0, c104_0, e104, hx104_0, hl104_0, hi104_0⟩ := zln HR3.out 0 p104 q104
 cases e104
 have qi104 : (0 < l3.length) = True := eq_true (by omega)
 (try rw [show ((0 : Int)).toNat = 0 from rfl] at hx104_0)
 (try rw [Addr.add_zero'] at hx104_0)
 have HR104_0 := zA hi104_0
 have HC104_0 := zA hl104_0
 clear hi104_0 hl104_0
 replace p104 := eq_true p104
 replace q104 := eq_true q104
 have p105 : 0 ≤ (x14_1 : Int) := zde zq20
 have q105 : x14_1 < ((za5 l3 0).length : Int) := zde zq20
 obtain ⟨ad105, e105, hx105_0⟩ := Kd.at_int HR104_0.out x14_1 p105 q105
 cases e105
 replace p105 := eq_true p105
 replace q105 := eq_true q105
 have p106 : 0 ≤ (0 : Int) := (by omega)
 have q106 : 0 < (l3.length : Int) := zde zq20
 obtain ⟨ad106, A106_0, c106_0, e106, hx106_0, hl106_0, hi106_0⟩ := zln HR3.out 0 p106 q106
 obtain rfl : ad104 = ad106 := (by injection e106)
 have qi106 : (0 < l3.length) = True := eq_true (by omega)
 (try rw [show ((0 : Int)).toNat = 0 from rfl] at hx106_0)
 (try rw [Addr.add_zero'] at hx106_0)
 have HR106_0 := zA hi106_0
 have HC106_0 := zA hl106_0
 clear hi106_0 hl106_0
 replace p106 := eq_true p106
 replace q106 := eq_true q106
 have ea_ := zsi (hx104_0.symm.trans hx106_0)
 injection ea_ with ea_ en_ ec_
 subst ea_
 subst ec_
 clear en_
 have p107 : 0 ≤ (x14_1 : Int) := zde zq20
 have q107 : x14_1 < ((za5 l3 0).length : Int) := zde zq20
 obtain ⟨ad107, e107, hx107_0⟩ := Kd.at_int HR106_0.out x14_1 p107 q107
 cases e107
 replace p107 := eq_true p107
 replace q107 := eq_true q107
 go_wp2
 go_roundg k1
 case measure => have := HK1.out; omega
 case rel => exact ⟨(wrap64 (x14_1 + 1)), zq7, H', ⟨zq51 HK1⟩, zq13⟩
def zel : Nat → List Int → Int → Int → Option (List Int)
 | 0, _, _, _ => none
 | k + 1, x3, x8, x9 => if x9 < x8 then (if 0 ≤ x9 then (if x9 < (x3.length : Int) then (zel k (x3.set (x9 : Int).toNat (wrap64 (-(rd x3 x9)))) x8 (wrap64 (x9 + 1))) else (none)) else (none)) else (some x3)
def zg7 (k : Nat) (l0 : List (S55)) : Option (List Int) := (zhr k l0 0).bind fun t101 => (zel k t101 (t101.length : Int) 0)
theorem znh : ∀ k, (∀ y0 y1 y2, LeO (zel k y0 y1 y2) (zel (k + 1) y0 y1 y2))
 | 0 => fun _ _ _ r h => by simp [zel] at h
 | k + 1 => by
   have ih0 := znh k
   · intro y0 y1 y2
     unfold zel
     exact zm2 ih0 zkw
theorem zh5 : ∀ a0 k, LeO (zg7 k a0) (zg7 (k + 1) a0) := by
 intro a0 k
 have ih0 := znh k
 unfold zg7
 exact zm2 ih0 zkw
theorem zn2 (k : Nat) (A0 : Option Addr) (c0 : Nat) (l0 : List (S55)) (r : List Int) (w : World) (hr0 : Kd.C k55 w A0 l0.length l0) (hc0 : l0.length ≤ c0) (h : zg7 k l0 = some r) :
   Calls Tryz.prog 75 #[.slice A0 l0.length c0] w fun e w' => ∃ v0_ : Value, e = .returned (v0_) ∧ Kd.R (Kd.int .i64) 3 w' w.heap.size (fun _ => True) v0_ r ∧ Below w.heap.size w w' := by
 have HR0 := zA hr0
 have HC0 := zA hc0
 clear hr0 hc0
 have HB := zA (Below.refl w.heap.size w)
 have H := h
 unfold zg7 at H
 clear h
 replace H := zob H
 obtain ⟨t101, A20, H⟩ := H
 have A2 := zA A20
 clear A20
 have H' := zA H
 clear H
 go_enter Tryz.func75, Tryz.ntmps75
 go_wp2_with (first | ((with_reducible refine zgc 79 ?_); refine zca 6 Tryz.func79 #[.slice A0 l0.length c0, .int .i64 0] (zma k _ _ l0 0 t101 _ (zq15 HR0) HC0.out A2.out) ?_; rintro e w3 ⟨v102, rfl, ho0, hb⟩; refine ⟨_, rfl, ?_⟩; have HO103 := zA (Kd.R_lower ho0 (zaj zq1)); replace HB := zA (zab zq1 hb); (try clear hb); (try clear ho0); obtain ⟨Ao4, co4, eo4⟩ := Kd.R_slice HO103.out; subst eo4))
 go_loopg [9] k (fun kq v9 w' => ∃ (x3_1 : List Int) (x9_1 : Int), v9 = .int .i64 x9_1 ∧ Aside0 (zel kq x3_1 (t101.length : Int) x9_1 = some r) ∧ Aside0 (kq ≤ k) ∧ Aside0 (Kd.R (Kd.int .i64) 3 w' w.heap.size (fun _ => True) (.slice Ao4 t101.length co4) x3_1) ∧ Aside0 (Below w.heap.size w w'))
 case atStart => exact ⟨(t101), (0), zq7, H', ⟨zlr _⟩, ⟨zq2 HO103⟩, ⟨zq1⟩⟩
 clear H'
 obtain ⟨x3_1, x9_1, rfl, HA, HK1, HO_3, HB⟩ := hrel
 have hl3_1 := (zRr HO_3.out).1
 rw [hl3_1] at HO_3
 (try simp only [hl3_1])
 cases gk with
 | zero => exact absurd HA.out (by simp [zel])
 | succ k1 =>
 have H := HA.out
 clear HA
 simp only [zel] at H
 by_cases c5 : x9_1 < (t101.length : Int)
 rotate_left
 · rw [if_neg c5] at H
   have c5b0 := zdf c5
   clear c5
   (try simp only [hl3_1] at c5b0)
   obtain rfl := zsi H
   go_wp2
   go_ret
   exact ⟨_, zq5, zq2 HO_3, zq1⟩
 rw [if_pos c5] at H
 have c5b0 := zdt c5
 clear c5
 by_cases c6 : 0 ≤ x9_1
 rotate_left
 · rw [if_neg c6] at H
   exact absurd H (by simp)
 rw [if_pos c6] at H
 have c6b0 := zdt c6
 clear c6
 by_cases c7 : x9_1 < (x3_1.length : Int)
 rotate_left
 · rw [if_neg c7] at H
   exact absurd H (by simp)
 rw [if_pos c7] at H
 have c7b0 := zdt c7
 clear c7
 obtain ⟨y105, hy105⟩ : ∃ y_ : List Int, y_ = (x3_1.set (x9_1 : Int).toNat (wrap64 (-(rd x3_1 x9_1)))) := ⟨_, rfl⟩
 rw [← hy105] at H; try with_reducible replace H := zbs H
 have Ny105 := zA hy105
 clear hy105
 have H' := zA H
 clear H
 obtain ⟨p104, q104⟩ := zpq x9_1 x3_1.length
 obtain ⟨ad104, e104, hx104_0⟩ := Kd.at_int (zRr HO_3.out).2.2 x9_1 (zoe p104) (zoe q104)
 cases e104
 have p8 : 0 ≤ (x9_1 : Int) := zde zq20
 have q8 : (x9_1 : Int) < ((x3_1.length : Int) : Int) := zde zq20
 obtain ⟨go8, co8, eo8, gb8, gl8, cl8, HG8⟩ := Kd.R_form HO_3.out (by omega)
 (first | cases eo8 | (injection eo8 with ea_ en_ ec_; (first | subst ea_ | (injection ea_ with ea_; subst ea_)); subst ec_; clear en_))
 have GB8 := zA gb8
 have GG8 := zA HG8
 clear gb8 gl8 HG8
 (first | simp only [zf2] at hx104_0 | skip)
 obtain ⟨hx8_0, hf8_0⟩ := Kd.R_celln 0 HO_3.out (x9_1 : Int) p8 q8
 replace p8 := eq_true p8
 replace q8 := eq_true q8
 have HP9 := Kd.R_putg HO_3.out (x9_1 : Int) (wrap64 (-(rd x3_1 x9_1)))
 go_wp2_with (first | ((with_reducible refine zgs 3 19 ?_); refine zse (wr.setCell ⟨go8, (x9_1 : Int).toNat, none⟩ (.int .i64 (wrap64 (-(rd x3_1 x9_1))))) ?_; intro w10 hw; have hg : wr.grownBy w10 (some go8) := (by rw [hw]; exact HP9.2); have hp_ : Kd.R (Kd.int .i64) 3 w10 w.heap.size (fun _ => True) (.slice (some ⟨go8, 0, none⟩) x3_1.length co4) y105 := (by rw [hw, Ny105.out]; exact HP9.1); clear HP9; replace HO_3 := zA (hp_); replace HB := zA ((zq63 GB8 : Below w.heap.size w w10)); clear hg hw hp_))
 (try simp only [← hl3_1])
 go_roundg k1
 case measure => have := HK1.out; omega
 case rel => exact ⟨(y105), (wrap64 (x9_1 + 1)), zq7, H', ⟨zq51 HK1⟩, ⟨by (try simp only [hl3_1]); (with_reducible repeat (first | apply zRa | apply zRn | apply zRd)); exact HO_3.out⟩, ⟨zq1⟩⟩
mutual
def zcs : Nat → List (S55) → Int → Bool → Option (List Int × Bool)
 | 0, _, _, _ => none
 | k + 1, x0, x1, x20 => if x20 = true then (some (([] : List Int), false)) else ((zfe k x0).bind fun t103 => ((zg7 k x0).bind fun t106 => ((zfd (([(-1)] : List Int)) (x0.length : Int)).bind fun t112 => (zch k x0 x1 t106 0 t103 t112))))
def zch : Nat → List (S55) → Int → List Int → Int → List (List Int) → List Int → Option (List Int × Bool)
 | 0, _, _, _, _, _, _ => none
 | k + 1, x0, x1, x7, x10, x116000, x117000 => (zbo k x117000 (-1)).bind fun t117 => (if t117 = true then (zb6 k x0 x1 x7 x10 x1 0 x116000 x117000) else (some (x117000, true)))
def zb6 : Nat → List (S55) → Int → List Int → Int → Int → Int → List (List Int) → List Int → Option (List Int × Bool)
 | 0, _, _, _, _, _, _, _, _ => none
 | k + 1, x0, x1, x7, x10, x34, x35, x116000, x117000 => if x35 < x34 then (zbz k x0 x1 x7 x10 (-1) x34 x35 (x0.length : Int) 0 x116000 x117000) else (zch k x0 x1 x7 (wrap64 (x10 + 1)) x116000 x117000)
def zbz : Nat → List (S55) → Int → List Int → Int → Int → Int → Int → Int → Int → List (List Int) → List Int → Option (List Int × Bool)
 | 0, _, _, _, _, _, _, _, _, _, _, _ => none
 | k + 1, x0, x1, x7, x10, x11, x34, x35, x38, x39, x116000, x117000 => if x39 < x38 then ((zed k x39 x10 [x116000] [x117000]).bind fun t118 => (if t118 = true then (if x11 < 0 then (zbz k x0 x1 x7 x10 x39 x34 x35 x38 (wrap64 (x39 + 1)) x116000 x117000) else (if 0 ≤ x39 then (if x39 < (x7.length : Int) then (if 0 ≤ x11 then (if x11 < (x7.length : Int) then (if (rd x7 x39) > (rd x7 x11) then (zbz k x0 x1 x7 x10 x39 x34 x35 x38 (wrap64 (x39 + 1)) x116000 x117000) else (zbz k x0 x1 x7 x10 x11 x34 x35 x38 (wrap64 (x39 + 1)) x116000 x117000)) else (none)) else (none)) else (none)) else (none))) else (zbz k x0 x1 x7 x10 x11 x34 x35 x38 (wrap64 (x39 + 1)) x116000 x117000))) else (if x11 ≥ 0 then (if 0 ≤ x11 then (if x11 < (x117000.length : Int) then (zb6 k x0 x1 x7 x10 x34 (wrap64 (x35 + 1)) x116000 (x117000.set (x11 : Int).toNat x10)) else (none)) else (none)) else (zb6 k x0 x1 x7 x10 x34 (wrap64 (x35 + 1)) x116000 x117000))
end
def zez (k : Nat) (l0 : List (S55)) (a1 : Int) : Option (List Int × Bool) := (zdu k l0).bind fun t101 => (if t101 = true then ((zf8 a1).bind fun t102 => (zcs k l0 a1 (!t102))) else (zcs k l0 a1 true))
theorem zlg : ∀ k, (∀ y0 y1 y2, LeO (zcs k y0 y1 y2) (zcs (k + 1) y0 y1 y2)) ∧ (∀ y0 y1 y2 y3 y4 y5, LeO (zch k y0 y1 y2 y3 y4 y5) (zch (k + 1) y0 y1 y2 y3 y4 y5)) ∧ (∀ y0 y1 y2 y3 y4 y5 y6 y7, LeO (zb6 k y0 y1 y2 y3 y4 y5 y6 y7) (zb6 (k + 1) y0 y1 y2 y3 y4 y5 y6 y7)) ∧ (∀ y0 y1 y2 y3 y4 y5 y6 y7 y8 y9 y10, LeO (zbz k y0 y1 y2 y3 y4 y5 y6 y7 y8 y9 y10) (zbz (k + 1) y0 y1 y2 y3 y4 y5 y6 y7 y8 y9 y10))
 | 0 => ⟨fun _ _ _ r h => by simp [zcs] at h, fun _ _ _ _ _ _ r h => by simp [zch] at h, fun _ _ _ _ _ _ _ _ r h => by simp [zb6] at h, fun _ _ _ _ _ _ _ _ _ _ _ r h => by simp [zbz] at h⟩
 | k + 1 => by
   obtain ⟨ih0, ih1, ih2, ih3⟩ := zlg k
   refine ⟨?_, ?_, ?_, ?_⟩
   · intro y0 y1 y2
     unfold zcs
     repeat' first
     | (with_reducible first | exact ih0 _ _ _ | exact ih1 _ _ _ _ _ _ | exact ih2 _ _ _ _ _ _ _ _ | exact ih3 _ _ _ _ _ _ _ _ _ _ _ | exact zfy _ _ _ _ _ | exact zdg _ _ | exact zh5 _ _ | exact zcg _ _ | exact za6 _ _ _ | exact LeO.refl _ | exact LeO.none _ | refine zf3 ?_ ?_ | refine LeO.bind ?_ (fun _ => ?_))
     | exact LeO.none _
     | refine zf3 ?_ ?_
     | refine LeO.bind ?_ (fun _ => ?_)
   · intro y0 y1 y2 y3 y4 y5
     unfold zch
     repeat' first
     | (with_reducible first | exact ih0 _ _ _ | exact ih1 _ _ _ _ _ _ | exact ih2 _ _ _ _ _ _ _ _ | exact ih3 _ _ _ _ _ _ _ _ _ _ _ | exact zfy _ _ _ _ _ | exact zdg _ _ | exact zh5 _ _ | exact zcg _ _ | exact za6 _ _ _ | exact LeO.refl _ | exact LeO.none _ | refine zf3 ?_ ?_ | refine LeO.bind ?_ (fun _ => ?_))
     | exact LeO.none _
     | refine zf3 ?_ ?_
     | refine LeO.bind ?_ (fun _ => ?_)
   · intro y0 y1 y2 y3 y4 y5 y6 y7
     unfold zb6
     repeat' first
     | (with_reducible first | exact ih0 _ _ _ | exact ih1 _ _ _ _ _ _ | exact ih2 _ _ _ _ _ _ _ _ | exact ih3 _ _ _ _ _ _ _ _ _ _ _ | exact zfy _ _ _ _ _ | exact zdg _ _ | exact zh5 _ _ | exact zcg _ _ | exact za6 _ _ _ | exact LeO.refl _ | exact LeO.none _ | refine zf3 ?_ ?_ | refine LeO.bind ?_ (fun _ => ?_))
     | exact LeO.none _
     | refine zf3 ?_ ?_
     | refine LeO.bind ?_ (fun _ => ?_)
   · intro y0 y1 y2 y3 y4 y5 y6 y7 y8 y9 y10
     unfold zbz
     repeat' first
     | (with_reducible first | exact ih0 _ _ _ | exact ih1 _ _ _ _ _ _ | exact ih2 _ _ _ _ _ _ _ _ | exact ih3 _ _ _ _ _ _ _ _ _ _ _ | exact zfy _ _ _ _ _ | exact zdg _ _ | exact zh5 _ _ | exact zcg _ _ | exact za6 _ _ _ | exact LeO.refl _ | exact LeO.none _ | refine zf3 ?_ ?_ | refine LeO.bind ?_ (fun _ => ?_))
     | exact LeO.none _
     | refine zf3 ?_ ?_
     | refine LeO.bind ?_ (fun _ => ?_)
theorem zv3 : ∀ a0 a1 k, LeO (zez k a0 a1) (zez (k + 1) a0 a1) := by
 intro a0 a1 k
 obtain ⟨ih0, ih1, ih2, ih3⟩ := zlg k
 unfold zez
 repeat' first
     | (with_reducible first | exact ih0 _ _ _ | exact ih1 _ _ _ _ _ _ | exact ih2 _ _ _ _ _ _ _ _ | exact ih3 _ _ _ _ _ _ _ _ _ _ _ | exact zfy _ _ _ _ _ | exact zdg _ _ | exact zh5 _ _ | exact zcg _ _ | exact za6 _ _ _ | exact LeO.refl _ | exact LeO.none _ | refine zf3 ?_ ?_ | refine LeO.bind ?_ (fun _ => ?_))
     | exact LeO.none _
     | refine zf3 ?_ ?_
     | refine LeO.bind ?_ (fun _ => ?_)
theorem zox (k : Nat) (A0 : Option Addr) (c0 : Nat) (l0 : List (S55)) (a1 : Int) (r1 : List Int) (r2 : Bool) (w : World) (hr0 : Kd.C k55 w A0 l0.length l0) (hc0 : l0.length ≤ c0) (h : zez k l0 a1 = some (r1, r2)) :
   Calls Tryz.prog 36 #[.slice A0 l0.length c0, .int .i64 a1] w fun e w' => ∃ v0_ : Value, e = .returned (.tuple #[v0_, .bool r2]) ∧ Kd.R (Kd.int .i64) 3 w' w.heap.size (fun _ => True) v0_ r1 ∧ Below w.heap.size w w' := by
 have HR0 := zA hr0
 have HC0 := zA hc0
 clear hr0 hc0
 have HB := zA (Below.refl w.heap.size w)
 have H := h
 unfold zez at H
 clear h
 have HC3 := zA H
 clear H
 go_enter Tryz.func36, Tryz.ntmps36
 go_upto_region 1 with (fail)
 repeat (go_quiet (fail); go_upto_region 1 with (fail))
 go_cut [20] (fun v20 wc => ∃ (kq : Nat) (x20_2 : Bool), v20 = .bool x20_2 ∧ Aside0 (zcs kq l0 a1 x20_2 = some (r1, r2)) ∧ Aside0 (kq ≤ k) ∧ Aside0 (Below w.heap.size w wc))
 case first =>
   have H := HC3.out
   clear HC3
   replace H := zob H
   obtain ⟨t101, A40, H⟩ := H
   have A4 := zA A40
   clear A40
   by_cases c5 : t101 = true
   rotate_left
   · replace c5 := zbf c5
     subst c5
     replace H := zif H
     have H' := zA H
     clear H
     go_wp2_with (first | (go_at_call 51; (with_reducible refine (zbc k _ _ l0 false _ ?side1 ?side2 A4.out).mono ?_); (case side1 => repeat (first | exact (zCb HR0.out HB.out) | (with_reducible first | refine zCa ?_ _ | refine zCn ?_ _ | refine zCd ?_))); (case side2 => exact HC0.out); rintro e w8 ⟨rfl, hb⟩; replace HB := zA (zab zq1 hb); (try clear hb)))
     go_meet
     case rel => exact ⟨_, (true), zq7, H', ⟨zq42⟩, ⟨zq1⟩⟩
   subst c5
   replace H := zih H
   replace H := zob H
   obtain ⟨t102, A60, H⟩ := H
   have A6 := zA A60
   clear A60
   have H' := zA H
   clear H
   go_wp2_with (first | (go_at_call 51; (with_reducible refine (zbc k _ _ l0 true _ ?side1 ?side2 A4.out).mono ?_); (case side1 => repeat (first | exact (zCb HR0.out HB.out) | (with_reducible first | refine zCa ?_ _ | refine zCn ?_ _ | refine zCd ?_))); (case side2 => exact HC0.out); rintro e w7 ⟨rfl, hb⟩; replace HB := zA (zab zq1 hb); (try clear hb)) | (go_at_call 67; (with_reducible refine (zh4 a1 t102 _ A6.out).mono ?_); rintro e w' ⟨rfl, ⟨nd, rfl⟩⟩; (try first | exact ⟨rfl, _, World.drewN_drewN _ _ _⟩ | exact ⟨rfl, _, Eq.trans (World.drewN_drewN _ _ _) (congrArg (World.drewN _) (Nat.add_assoc _ _ _))⟩)))
   go_meet
   case rel => exact ⟨_, (!t102), zq7, H', ⟨zq42⟩, ⟨zq1⟩⟩
 clear HC3
 obtain ⟨kq, x20_2, rfl, HA, HJ2, HB⟩ := hcut
 cases kq with
 | zero => exact absurd HA.out (by simp [zcs])
 | succ kj2 =>
 have H := HA.out
 clear HA
 simp only [zcs] at H
 by_cases c9 : x20_2 = true
 · subst c9
   replace H := zih H
   simp only [Option.some.injEq, Prod.mk.injEq] at H
   obtain ⟨rfl, rfl⟩ := H
   go_wp2
   repeat (go_quiet (fail); try go_wp2)
   go_ret2
   exact ⟨_, zq5, zq25, zq1⟩
 replace c9 := zbf c9
 subst c9
 replace H := zif H
 replace H := zob H
 obtain ⟨t103, A100, H⟩ := H
 have A10 := zA A100
 clear A100
 replace H := zob H
 obtain ⟨t106, A110, H⟩ := H
 have A11 := zA A110
 clear A110
 obtain ⟨y109, hy109⟩ : ∃ y_ : List Int, y_ = (([(-1)] : List Int)) := ⟨_, rfl⟩
 rw [← hy109] at H; try with_reducible replace H := zbs H
 have Ny109 := zA hy109
 clear hy109
 replace H := zob H
 obtain ⟨t112, A120, H⟩ := H
 have A12 := zA A120
 clear A120
 have H' := zA H
 clear H
 go_wp2_with (first | (go_at_call 59; (with_reducible refine (zh3 kj2 _ _ l0 t103 _ ?side1 ?side2 A10.out).mono ?_); (case side1 => repeat (first | exact (zCb HR0.out HB.out) | (with_reducible first | refine zCa ?_ _ | refine zCn ?_ _ | refine zCd ?_))); (case side2 => exact HC0.out); rintro e w13 ⟨v104, rfl, ho0, hb⟩; have HO105 := zA (Kd.S_lower ho0 (zaj zq1)); replace HB := zA (zab zq1 hb); (try clear hb); (try clear ho0)) | (go_at_call 75; (with_reducible refine (zn2 kj2 _ _ l0 t106 _ ?side1 ?side2 A11.out).mono ?_); (case side1 => repeat (first | exact (zCb HR0.out HB.out) | (with_reducible first | refine zCa ?_ _ | refine zCn ?_ _ | refine zCd ?_))); (case side2 => exact HC0.out); rintro e w14 ⟨v107, rfl, ho0, hb⟩; replace HO105 := zA (Kd.S_elder' (zq17 HO105) (Kd.R_base ho0) hb); have HO108 := zA (Kd.R_lower ho0 (zaj zq1)); replace HB := zA (zab zq1 hb); (try clear hb); (try clear ho0)) | ((with_reducible refine zgd 25 ?_); refine Kd.R_lit (Kd.int .i64) _ 3 ?hg (N := 25) ?hd (xs := ([(-1)] : List Int)) (inner := [.int .i64 (-1)]) (ok := fun _ => True) (okp := fun _ => True) ?hr ?hp (fun _ hk => hk) trivial (Below.refl _ _) (zlr _) (by simp) ?_; (case hd => rfl); (case hg => rfl); (case hr => go_simp <;> rfl); (case hp => exact (zam (show Kd.M (Kd.int .i64) _ _ _ (-1) [.int .i64 (-1)] from rfl) (Reps.none _ _))); intro v110 w15 ho16 hb hg_ hnew_; clear hg_ hnew_; (first | rw [← Ny109.out] at ho16 | (simp only [Int.reduceToNat] at ho16; rw [← Ny109.out] at ho16)); replace HO105 := zA (Kd.S_elder' (zq17 HO105) (Kd.R_base ho16) hb); have HO111 := zA (Kd.R_lower (Kd.R_new' ho16 (Kd.R_lt (zq2 HO108))) (zaj zq1)); replace HO108 := zA (Kd.R_elder' (zq2 HO108) (Kd.R_base ho16) hb); replace HB := zA (zab zq1 hb); clear hb ho16; obtain ⟨Ao17, co17, eo17⟩ := Kd.R_slice HO111.out; subst eo17) | (go_at_call 83; (with_reducible refine (zju _ _ y109 (l0.length : Int) t112 _ ?side1 ?side2 A12.out).mono ?_); (case side1 => repeat (first | exact (zRr HO111.out).2.2 | (with_reducible first | refine zCa ?_ _ | refine zCn ?_ _ | refine zCd ?_))); (case side2 => exact (zRr HO111.out).2.1); rintro e w18 ⟨v113, rfl, ho0, hb⟩; replace HO105 := zA (Kd.S_elder' (zq17 HO105) (Kd.R_base ho0) hb); have HO114 := zA (Kd.R_lower (Kd.R_new' (Kd.R_new' ho0 (Kd.R_lt (zq2 HO108))) (Kd.R_lt (zq2 HO111))) (zaj zq1)); replace HO108 := zA (Kd.R_elder' (zq2 HO108) (Kd.R_base ho0) hb); replace HO111 := zA (Kd.R_elder' (zq2 HO111) (Kd.R_base ho0) hb); replace HB := zA (zab zq1 hb); (try clear hb); (try clear ho0)) | ((with_reducible refine zgd 6 ?_); refine zbx #[.slice none 0 0] 36 ?_; intro gb115 hg w19 hbox hb; have zs := zpair zq1 hb; replace HO105 := zA (Kd.S_below (zq17 HO105) hb); replace HO108 := zA (zRb (zq2 HO108) hb); replace HO111 := zA (zRb (zq2 HO111) hb); replace HO114 := zA (zRb (zq2 HO114) hb); replace HB := zA (zs.1); have BK115 := zA (hbox); have GW115 := zA (zge hg zs.2); have GE115 := GW115; clear zs hb hbox hg) | ((with_reducible refine zgd 8 ?_); refine zbx #[.slice none 0 0] 25 ?_; intro gb116 hg w20 hbox hb; have zs := zpair (zq10 GE115) hb; replace HO105 := zA (Kd.S_below (Kd.S_elderB (zq17 HO105) gb116 (Nat.le_of_eq hg.symm)) hb); replace HO108 := zA (zRb (zq2 HO108) hb); replace HO111 := zA (zRb (zq2 HO111) hb); replace HO114 := zA (zRb (zq2 HO114) hb); replace HB := zA (zs.1); have BK116 := zA (hbox); have GW116 := zA (zge hg zs.2); have GE116 := GW116; have NB115_116 := zA ((zq35 BK115 : gb115 ≠ gb116)); replace BK115 := zbb BK115 hb; have NB116_115 := zA (Ne.symm NB115_116.out); clear zs hb hbox hg; obtain ⟨Ao21, co21, eo21⟩ := Kd.S_slice HO105.out; subst eo21; have hnb22 := NB115_116.out; have hnc22 := NB116_115.out; have hcz23_0 : w20.cell? ⟨gb115, 0, none⟩ = some (.slice none 0 0) := (zad BK115.out 0).trans rfl; have hfz23_0 := zaz BK115.out 0; obtain ⟨Ao24, co24, eo24⟩ := Kd.R_slice HO114.out; subst eo24; have hcz25_0 : w20.cell? ⟨gb116, 0, none⟩ = some (.slice none 0 0) := (zad BK116.out 0).trans rfl; have hfz25_0 := zaz BK116.out 0))
 go_loopg [10] kj2 (fun kq v10 w' => ∃ (x7_2 : List Int) (x10_2 : Int) (x117000_2 : List Int) (u117000 : Value), v10 = .int .i64 x10_2 ∧ Aside0 (zch kq l0 a1 x7_2 x10_2 t103 x117000_2 = some (r1, r2)) ∧ Aside0 (kq ≤ kj2) ∧ Aside0 (Kd.R (Kd.int .i64) 3 w' w.heap.size (fun k_ => some k_ ≠ (u117000 : Value).ownBlock) v107 x7_2) ∧ Aside0 (Kd.S (Kd.slice 3 (Kd.int .i64)) 25 w' w.heap.size (fun k_ => some k_ ≠ (v107 : Value).ownBlock ∧ some k_ ≠ (u117000 : Value).ownBlock ∧ k_ ≠ gb116) (.slice Ao21 t103.length co21) t103) ∧ Aside0 (Kd.R (Kd.int .i64) 3 w' w.heap.size (fun k_ => some k_ ≠ (v107 : Value).ownBlock) u117000 x117000_2) ∧ Aside0 (w'.heap[gb115]? = some (.cells #[(.slice Ao21 t103.length co21)] 36 (0, 0))) ∧ Aside0 (w'.heap[gb116]? = some (.cells #[u117000] 25 (0, 0))) ∧ Aside0 (Below w.heap.size w w'))
 case atStart => exact ⟨(t106), (0), (t112), (.slice Ao24 t112.length co24), zq7, H', ⟨zlr _⟩, ⟨by (with_reducible repeat (first | apply zRa | apply zRn | apply zRd)); exact Kd.R_mono (Kd.R_far (p := ⟨gb116, 0, none⟩) (Kd.R_far (p := ⟨gb115, 0, none⟩) (Kd.R_types (Kd.R_types HO108.out BK115.out (by decide)) BK116.out (by decide)) (fun _ hk => hk.1.2) (.slice Ao21 t103.length co21)) (fun _ hk => hk.2) (.slice Ao24 t112.length co24)) (fun _ hk => hk.1.1.2)⟩, ⟨by (with_reducible repeat (first | apply zSa | apply zSn | apply zSd)); exact Kd.S_mono (Kd.S_far (p := ⟨gb116, 0, none⟩) (Kd.S_far (p := ⟨gb115, 0, none⟩) (Kd.S_mono (Kd.S_types HO105.out BK115.out (by decide)) (fun k_ hk => (⟨hk, hk.1.2⟩ : _ ∧ k_ ≠ gb116))) (fun _ hk => hk.1.2) (.slice Ao21 t103.length co21)) (fun _ hk => hk.2) (.slice Ao24 t112.length co24)) (fun _ hk => ⟨hk.1.1.1.1.1.2, ⟨hk.1.1.1.2, hk.1.1.2⟩⟩)⟩, ⟨by (with_reducible repeat (first | apply zRa | apply zRn | apply zRd)); exact Kd.R_mono (Kd.R_far (p := ⟨gb116, 0, none⟩) (Kd.R_far (p := ⟨gb115, 0, none⟩) (Kd.R_types (Kd.R_types HO114.out BK115.out (by decide)) BK116.out (by decide)) (fun _ hk => hk.1.2) (.slice Ao21 t103.length co21)) (fun _ hk => hk.2) (.slice Ao24 t112.length co24)) (fun _ hk => hk.1.1.1.2)⟩, ⟨by (with_reducible repeat (first | refine zkn ?_ _ | refine zkd ?_ | refine zka ?_ _)); refine za2 ?_ NB115_116.out _; (with_reducible repeat (first | refine zkn ?_ _ | refine zkd ?_ | refine zka ?_ _)); refine za3 (cs := #[.slice none 0 0]) ?_ 0 _ rfl; (with_reducible repeat (first | refine zkn ?_ _ | refine zkd ?_ | refine zka ?_ _)); exact BK115.out⟩, ⟨by (with_reducible repeat (first | refine zkn ?_ _ | refine zkd ?_ | refine zka ?_ _)); refine za3 (cs := #[.slice none 0 0]) ?_ 0 _ rfl; (with_reducible repeat (first | refine zkn ?_ _ | refine zkd ?_ | refine zka ?_ _)); refine za2 ?_ NB116_115.out _; (with_reducible repeat (first | refine zkn ?_ _ | refine zkd ?_ | refine zka ?_ _)); exact BK116.out⟩, ⟨zq9 GE115 GE116⟩⟩
 clear H'
 obtain ⟨x7_2, x10_2, x117000_2, u117000, rfl, HA, HK2, HO_7, HO_116000, HO_117000, BK115, BK116, HB⟩ := hrel
 cases gk with
 | zero => exact absurd HA.out (by simp [zch])
 | succ k2 =>
 have H := HA.out
 clear HA
 simp only [zch] at H
 replace H := zob H
 obtain ⟨t117, A260, H⟩ := H
 have A26 := zA A260
 clear A260
 by_cases c27 : t117 = true
 rotate_left
 · replace c27 := zbf c27
   subst c27
   replace H := zif H
   simp only [Option.some.injEq, Prod.mk.injEq] at H
   obtain ⟨rfl, rfl⟩ := H
   have hnb51 := NB116_115.out
   have hnc51 := NB115_116.out
   have hcz52_0 : wr.cell? ⟨gb116, 0, none⟩ = some (u117000) := (zad BK116.out 0).trans rfl
   have hfz52_0 := zaz BK116.out 0
   obtain ⟨Ao53, co53, eo53⟩ := Kd.R_slice HO_117000.out
   subst eo53
   go_wp2_with (first | (go_at_call 85; (with_reducible refine (zdl k2 _ _ x117000_2 (-1) false _ ?side1 ?side2 A26.out).mono ?_); (case side1 => repeat (first | exact (zRr HO_117000.out).2.2 | (with_reducible first | refine zCa ?_ _ | refine zCn ?_ _ | refine zCd ?_))); (case side2 => exact (zRr HO_117000.out).2.1); rintro e w' ⟨rfl, ⟨nd, rfl⟩⟩; (try first | exact ⟨rfl, _, World.drewN_drewN _ _ _⟩ | exact ⟨rfl, _, Eq.trans (World.drewN_drewN _ _ _) (congrArg (World.drewN _) (Nat.add_assoc _ _ _))⟩)))
   go_ret2
   exact ⟨_, zq5, zq38 HO_117000, zq9 GE115 GE116⟩
 subst c27
 replace H := zih H
 have H' := zA H
 clear H
 have hnb28 := NB116_115.out
 have hnc28 := NB115_116.out
 have hcz29_0 : wr.cell? ⟨gb116, 0, none⟩ = some (u117000) := (zad BK116.out 0).trans rfl
 have hfz29_0 := zaz BK116.out 0
 obtain ⟨Ao30, co30, eo30⟩ := Kd.R_slice HO_117000.out
 subst eo30
 go_wp2_with (first | (go_at_call 85; (with_reducible refine (zdl k2 _ _ x117000_2 (-1) true _ ?side1 ?side2 A26.out).mono ?_); (case side1 => repeat (first | exact (zRr HO_117000.out).2.2 | (with_reducible first | refine zCa ?_ _ | refine zCn ?_ _ | refine zCd ?_))); (case side2 => exact (zRr HO_117000.out).2.1); rintro e w' ⟨rfl, ⟨nd, rfl⟩⟩; (try first | exact ⟨rfl, _, World.drewN_drewN _ _ _⟩ | exact ⟨rfl, _, Eq.trans (World.drewN_drewN _ _ _) (congrArg (World.drewN _) (Nat.add_assoc _ _ _))⟩)))
 go_loopg [35] k2 (fun kq v35 w' => ∃ (x7_3 : List Int) (x35_3 : Int) (x117000_3 : List Int) (u117000 : Value), v35 = .int .i64 x35_3 ∧ Aside0 (zb6 kq l0 a1 x7_3 x10_2 a1 x35_3 t103 x117000_3 = some (r1, r2)) ∧ Aside0 (kq ≤ k2) ∧ Aside0 (Kd.R (Kd.int .i64) 3 w' w.heap.size (fun k_ => some k_ ≠ (u117000 : Value).ownBlock) v107 x7_3) ∧ Aside0 (Kd.S (Kd.slice 3 (Kd.int .i64)) 25 w' w.heap.size (fun k_ => some k_ ≠ (v107 : Value).ownBlock ∧ some k_ ≠ (u117000 : Value).ownBlock ∧ k_ ≠ gb116) (.slice Ao21 t103.length co21) t103) ∧ Aside0 (Kd.R (Kd.int .i64) 3 w' w.heap.size (fun k_ => some k_ ≠ (v107 : Value).ownBlock) u117000 x117000_3) ∧ Aside0 (w'.heap[gb115]? = some (.cells #[(.slice Ao21 t103.length co21)] 36 (0, 0))) ∧ Aside0 (w'.heap[gb116]? = some (.cells #[u117000] 25 (0, 0))) ∧ Aside0 (Below w.heap.size w w'))
 case atStart => exact ⟨(x7_2), (0), (x117000_2), (.slice Ao30 x117000_2.length co30), zq7, H', ⟨zlr _⟩, ⟨zq2 HO_7⟩, ⟨zq17 HO_116000⟩, ⟨zq2 HO_117000⟩, ⟨zq8 BK115⟩, ⟨zq8 BK116⟩, ⟨zq9 GE115 GE116⟩⟩
 clear H'
 obtain ⟨x7_3, x35_3, x117000_3, u117000, rfl, HA, HK3, HO_7, HO_116000, HO_117000, BK115, BK116, HB⟩ := hrel
 cases gk with
 | zero => exact absurd HA.out (by simp [zb6])
 | succ k3 =>
 have H := HA.out
 clear HA
 simp only [zb6] at H
 revert H
 refine zit (fun c31 H => ?_) fun c31 H => ?_
 rotate_left
 · have H' := zA H
   clear H
   go_wp2
   repeat (go_quiet (fail); try go_wp2)
   go_roundg k3
   case measure => have := HJ2.out; have := HK2.out; have := HK3.out; omega
   case rel => exact ⟨(x7_3), (wrap64 (x10_2 + 1)), (x117000_3), (u117000), zq7, H', ⟨zq40 HJ2 HK2 HK3⟩, ⟨zq2 HO_7⟩, ⟨zq17 HO_116000⟩, ⟨zq2 HO_117000⟩, ⟨zq8 BK115⟩, ⟨zq8 BK116⟩, ⟨zq9 GE115 GE116⟩⟩
 have H' := zA H
 clear H
 go_wp2
 repeat (go_quiet (fail); try go_wp2)
 go_loopg [11, 39] k3 (fun kq v11 v39 w' => ∃ (x11_4 : Int) (x39_4 : Int), v11 = .int .i64 x11_4 ∧ v39 = .int .i64 x39_4 ∧ Aside0 (zbz kq l0 a1 x7_3 x10_2 x11_4 a1 x35_3 (l0.length : Int) x39_4 t103 x117000_3 = some (r1, r2)) ∧ Aside0 (kq ≤ k3) ∧ Aside0 (Kd.R (Kd.int .i64) 3 w' w.heap.size (fun k_ => some k_ ≠ (u117000 : Value).ownBlock) v107 x7_3) ∧ Aside0 (Kd.S (Kd.slice 3 (Kd.int .i64)) 25 w' w.heap.size (fun k_ => some k_ ≠ (v107 : Value).ownBlock ∧ some k_ ≠ (u117000 : Value).ownBlock ∧ k_ ≠ gb116) (.slice Ao21 t103.length co21) t103) ∧ Aside0 (Kd.R (Kd.int .i64) 3 w' w.heap.size (fun k_ => some k_ ≠ (v107 : Value).ownBlock) u117000 x117000_3) ∧ Aside0 (w'.heap[gb115]? = some (.cells #[(.slice Ao21 t103.length co21)] 36 (0, 0))) ∧ Aside0 (w'.heap[gb116]? = some (.cells #[u117000] 25 (0, 0))) ∧ Aside0 (Below w.heap.size w w'))
 case atStart => exact ⟨((-1)), (0), zq7, zq7, H', ⟨zlr _⟩, ⟨zq2 HO_7⟩, ⟨zq17 HO_116000⟩, ⟨zq2 HO_117000⟩, ⟨zq8 BK115⟩, ⟨zq8 BK116⟩, ⟨zq9 GE115 GE116⟩⟩
 clear H'
 obtain ⟨x11_4, x39_4, rfl, rfl, HA, HK4, HO_7, HO_116000, HO_117000, BK115, BK116, HB⟩ := hrel
 cases gk with
 | zero => exact absurd HA.out (by simp [zbz])
 | succ k4 =>
 have H := HA.out
 clear HA
 simp only [zbz] at H
 revert H
 refine zit (fun c32 H => ?_) fun c32 H => ?_
 rotate_left
 · by_cases c43 : x11_4 ≥ 0
   rotate_left
   · rw [if_neg c43] at H
     have c43b0 := zdf c43
     clear c43
     have H' := zA H
     clear H
     go_wp2
     repeat (go_quiet (fail); try go_wp2)
     go_roundg k4
     case measure => have := HJ2.out; have := HK2.out; have := HK3.out; have := HK4.out; omega
     case rel => exact ⟨(x7_3), (wrap64 (x35_3 + 1)), (x117000_3), (u117000), zq7, H', ⟨zq62 HJ2 HK2 HK3 HK4⟩, ⟨zq2 HO_7⟩, ⟨zq17 HO_116000⟩, ⟨zq2 HO_117000⟩, ⟨zq8 BK115⟩, ⟨zq8 BK116⟩, ⟨zq9 GE115 GE116⟩⟩
   rw [if_pos c43] at H
   have c43b0 := zdt c43
   clear c43
   revert H
   refine zin fun c44 H => ?_
   revert H
   refine zin fun c45 H => ?_
   obtain ⟨y121, hy121⟩ : ∃ y_ : List Int, y_ = (x117000_3.set (x11_4 : Int).toNat x10_2) := ⟨_, rfl⟩
   rw [← hy121] at H; try with_reducible replace H := zbs H
   have Ny121 := zA hy121
   clear hy121
   have H' := zA H
   clear H
   have hnb47 := NB116_115.out
   have hnc47 := NB115_116.out
   have hcz48_0 : wr.cell? ⟨gb116, 0, none⟩ = some (u117000) := (zad BK116.out 0).trans rfl
   have hfz48_0 := zaz BK116.out 0
   have p46 : 0 ≤ (x11_4 : Int) := zde zq20
   have q46 : (x11_4 : Int) < ((x117000_3.length : Int) : Int) := zde zq20
   obtain ⟨go46, co46, eo46, gb46, gl46, cl46, HG46⟩ := Kd.R_form HO_117000.out (by omega)
   (first | cases eo46 | (injection eo46 with ea_ en_ ec_; (first | subst ea_ | (injection ea_ with ea_; subst ea_)); subst ec_; clear en_))
   have GB46 := zA gb46
   have GG46 := zA HG46
   clear gb46 gl46 HG46
   obtain ⟨hx46_0, hf46_0⟩ := Kd.R_celln 0 HO_117000.out (x11_4 : Int) p46 q46
   replace p46 := eq_true p46
   replace q46 := eq_true q46
   have HP49 := Kd.R_putg HO_117000.out (x11_4 : Int) x10_2
   go_wp2_with (first | ((with_reducible refine zgs 3 68 ?_); (try (rw [zg2 wr]; generalize hq_ : World.drewN wr _ = wr; have n0_ := zA (Kd.R_at hq_ HO_7.out); have n1_ := zA (Kd.S_at hq_ HO_116000.out); have n2_ := zA (Kd.R_at hq_ HO_117000.out); have n3_ := zA (zl6 hq_ BK115.out); have n4_ := zA (zl6 hq_ BK116.out); have n5_ := zA (zlv hq_ HB.out); clear hq_ HO_7 HO_116000 HO_117000 BK115 BK116 HB; have HO_7 := n0_; have HO_116000 := n1_; have HO_117000 := n2_; have BK115 := n3_; have BK116 := n4_; have HB := n5_; clear n0_ n1_ n2_ n3_ n4_ n5_; (try (have HP49 := Kd.R_putg HO_117000.out (x11_4 : Int) x10_2)))); refine zo9 (t := 3) (p := 68) (v := ?vo_w50) (w1 := (wr.setCell ⟨go46, (x11_4 : Int).toNat, none⟩ (.int .i64 x10_2))) ?hg ?ho ?hn ?hr ?_; (case ho => rfl); (case hg => rfl); (case hn => rfl); (case hr => go_simp <;> rfl); intro w50 hw; have hg : wr.grownBy w50 (some go46) := (by rw [hw]; exact HP49.2); have hp_ : Kd.R (Kd.int .i64) 3 w50 w.heap.size (fun k_ => some k_ ≠ (v107 : Value).ownBlock) (.slice (some ⟨go46, 0, none⟩) x117000_3.length co46) y121 := (by rw [hw, Ny121.out]; exact HP49.1); clear HP49; replace HO_7 := zA (Kd.R_after (v := (.slice (some ⟨go46, 0, none⟩) x117000_3.length co46)) (v1 := (.slice (some ⟨go46, 0, none⟩) x117000_3.length co46)) (ok := (fun _ => True)) (zq46 HO_7) hg (.inl rfl)); replace HO_116000 := zA (Kd.S_after (v := (.slice (some ⟨go46, 0, none⟩) x117000_3.length co46)) (v1 := (.slice (some ⟨go46, 0, none⟩) x117000_3.length co46)) (ok := (fun k_ => some k_ ≠ (v107 : Value).ownBlock ∧ k_ ≠ gb116)) (zq53 HO_116000) hg (.inl rfl)); replace BK115 := zA (zhp (g := gb115) (o := .cells #[.slice Ao21 t103.length co21] 36 (0, 0)) (zq8 BK115) hg (Kd.R_ne HO_117000.out BK115.out (by decide))); replace BK116 := zA (zhp (g := gb116) (o := .cells #[.slice (some ⟨go46, 0, none⟩) x117000_3.length co46] 25 (0, 0)) (zq8 BK116) hg (Kd.R_ne HO_117000.out BK116.out (by decide))); replace HO_117000 := zA (hp_); replace HB := zA ((zq63 GB46 : Below w.heap.size w w50)); clear hg hw hp_))
   repeat (go_quiet (first | ((with_reducible refine zu7 (t := 3) (p := 68) rfl ?_); (try (rw [zg2 wr]; generalize hq_ : World.drewN wr _ = wr; have n0_ := zA (Kd.R_at hq_ HO_7.out); have n1_ := zA (Kd.S_at hq_ HO_116000.out); have n2_ := zA (Kd.R_at hq_ HO_117000.out); have n3_ := zA (zl6 hq_ BK115.out); have n4_ := zA (zl6 hq_ BK116.out); have n5_ := zA (zlv hq_ HB.out); clear hq_ HO_7 HO_116000 HO_117000 BK115 BK116 HB; have HO_7 := n0_; have HO_116000 := n1_; have HO_117000 := n2_; have BK115 := n3_; have BK116 := n4_; have HB := n5_; clear n0_ n1_ n2_ n3_ n4_ n5_; (try (have HP49 := Kd.R_putg HO_117000.out (x11_4 : Int) x10_2)))); refine zo9 (t := 3) (p := 68) (v := ?vo_w50) (w1 := (wr.setCell ⟨go46, (x11_4 : Int).toNat, none⟩ (.int .i64 x10_2))) ?hg ?ho ?hn ?hr ?_; (case ho => rfl); (case hg => rfl); (case hn => rfl); (case hr => go_simp <;> rfl); intro w50 hw; have hg : wr.grownBy w50 (some go46) := (by rw [hw]; exact HP49.2); have hp_ : Kd.R (Kd.int .i64) 3 w50 w.heap.size (fun k_ => some k_ ≠ (v107 : Value).ownBlock) (.slice (some ⟨go46, 0, none⟩) x117000_3.length co46) y121 := (by rw [hw, Ny121.out]; exact HP49.1); clear HP49; have n0_ := zA (Kd.R_after (v := (.slice (some ⟨go46, 0, none⟩) x117000_3.length co46)) (v1 := (.slice (some ⟨go46, 0, none⟩) x117000_3.length co46)) (ok := (fun _ => True)) (zq46 HO_7) hg (.inl rfl)); have n1_ := zA (Kd.S_after (v := (.slice (some ⟨go46, 0, none⟩) x117000_3.length co46)) (v1 := (.slice (some ⟨go46, 0, none⟩) x117000_3.length co46)) (ok := (fun k_ => some k_ ≠ (v107 : Value).ownBlock ∧ k_ ≠ gb116)) (zq53 HO_116000) hg (.inl rfl)); have n2_ := zA (hp_); have n3_ := zA (zhp (g := gb115) (o := .cells #[.slice Ao21 t103.length co21] 36 (0, 0)) (zq8 BK115) hg (Kd.R_ne HO_117000.out BK115.out (by decide))); have n4_ := zA (zhp (g := gb116) (o := .cells #[.slice (some ⟨go46, 0, none⟩) x117000_3.length co46] 25 (0, 0)) (zq8 BK116) hg (Kd.R_ne HO_117000.out BK116.out (by decide))); have n5_ := zA ((zq63 GB46 : Below w.heap.size w w50)); clear HO_7 HO_116000; clear HO_117000 BK115; clear BK116 HB; have HO_7 := n0_; have HO_116000 := n1_; have HO_117000 := n2_; have BK115 := n3_; have BK116 := n4_; have HB := n5_; clear n0_ n1_ n2_ n3_ n4_ n5_; clear hg hw hp_)); try go_wp2_with (first | ((with_reducible refine zu7 (t := 3) (p := 68) rfl ?_); (try (rw [zg2 wr]; generalize hq_ : World.drewN wr _ = wr; have n0_ := zA (Kd.R_at hq_ HO_7.out); have n1_ := zA (Kd.S_at hq_ HO_116000.out); have n2_ := zA (Kd.R_at hq_ HO_117000.out); have n3_ := zA (zl6 hq_ BK115.out); have n4_ := zA (zl6 hq_ BK116.out); have n5_ := zA (zlv hq_ HB.out); clear hq_ HO_7 HO_116000 HO_117000 BK115 BK116 HB; have HO_7 := n0_; have HO_116000 := n1_; have HO_117000 := n2_; have BK115 := n3_; have BK116 := n4_; have HB := n5_; clear n0_ n1_ n2_ n3_ n4_ n5_; (try (have HP49 := Kd.R_putg HO_117000.out (x11_4 : Int) x10_2)))); refine zo9 (t := 3) (p := 68) (v := ?vo_w50) (w1 := (wr.setCell ⟨go46, (x11_4 : Int).toNat, none⟩ (.int .i64 x10_2))) ?hg ?ho ?hn ?hr ?_; (case ho => rfl); (case hg => rfl); (case hn => rfl); (case hr => go_simp <;> rfl); intro w50 hw; have hg : wr.grownBy w50 (some go46) := (by rw [hw]; exact HP49.2); have hp_ : Kd.R (Kd.int .i64) 3 w50 w.heap.size (fun k_ => some k_ ≠ (v107 : Value).ownBlock) (.slice (some ⟨go46, 0, none⟩) x117000_3.length co46) y121 := (by rw [hw, Ny121.out]; exact HP49.1); clear HP49; have n0_ := zA (Kd.R_after (v := (.slice (some ⟨go46, 0, none⟩) x117000_3.length co46)) (v1 := (.slice (some ⟨go46, 0, none⟩) x117000_3.length co46)) (ok := (fun _ => True)) (zq46 HO_7) hg (.inl rfl)); have n1_ := zA (Kd.S_after (v := (.slice (some ⟨go46, 0, none⟩) x117000_3.length co46)) (v1 := (.slice (some ⟨go46, 0, none⟩) x117000_3.length co46)) (ok := (fun k_ => some k_ ≠ (v107 : Value).ownBlock ∧ k_ ≠ gb116)) (zq53 HO_116000) hg (.inl rfl)); have n2_ := zA (hp_); have n3_ := zA (zhp (g := gb115) (o := .cells #[.slice Ao21 t103.length co21] 36 (0, 0)) (zq8 BK115) hg (Kd.R_ne HO_117000.out BK115.out (by decide))); have n4_ := zA (zhp (g := gb116) (o := .cells #[.slice (some ⟨go46, 0, none⟩) x117000_3.length co46] 25 (0, 0)) (zq8 BK116) hg (Kd.R_ne HO_117000.out BK116.out (by decide))); have n5_ := zA ((zq63 GB46 : Below w.heap.size w w50)); clear HO_7 HO_116000; clear HO_117000 BK115; clear BK116 HB; have HO_7 := n0_; have HO_116000 := n1_; have HO_117000 := n2_; have BK115 := n3_; have BK116 := n4_; have HB := n5_; clear n0_ n1_ n2_ n3_ n4_ n5_; clear hg hw hp_)))
   go_roundg k4
   case measure => have := HJ2.out; have := HK2.out; have := HK3.out; have := HK4.out; omega
   case rel => exact ⟨(x7_3), (wrap64 (x35_3 + 1)), (y121), (.slice (some ⟨go46, 0, none⟩) x117000_3.length co46), zq7, H', ⟨zq62 HJ2 HK2 HK3 HK4⟩, ⟨zq50 HO_7⟩, ⟨by (with_reducible repeat (first | apply zSa | apply zSn | apply zSd)); exact Kd.S_mono HO_116000.out (fun _ hk => ⟨hk.1.1, ⟨hk.2, hk.1.2⟩⟩)⟩, ⟨zq2 HO_117000⟩, ⟨zq8 BK115⟩, ⟨zq8 BK116⟩, ⟨zq9 GE115 GE116⟩⟩
 replace H := zob H
 obtain ⟨t118, A330, H⟩ := H
 have A33 := zA A330
 clear A330
 by_cases c34 : t118 = true
 rotate_left
 · replace c34 := zbf c34
   subst c34
   replace H := zif H
   have H' := zA H
   clear H
   obtain ⟨AU, cU, rfl⟩ := Kd.R_slice HO_117000.out
   go_wp2_with fail
   refine zth [[], [], [], [0, 1, 2], [0, 1, 2, 3], [0, 1, 2, 3, 4], [0, 1, 2, 3, 4, 5], [0, 1, 2, 3, 4, 5, 6], [0, 1, 2, 3, 4, 5, 6, 7], [0, 1, 2, 3, 4, 5, 6, 7], [0, 1, 2, 3, 4, 5, 6, 7, 8, 9], [0, 1, 2, 3, 4, 5, 6, 7, 8, 9, 10], [0, 1, 2, 3, 4, 5, 6, 7], [0, 1, 2, 3, 4, 5, 6, 7], [0, 1, 2, 3, 4, 5, 6, 7, 12, 13], [0, 1, 2, 3, 4, 5, 6, 7, 12, 13, 14], [0, 1, 2, 3, 4, 5, 6, 7, 8, 9, 10, 11, 12, 13, 14, 15], [0, 1, 2, 3, 4, 5, 6, 7, 8, 9, 10, 11, 12, 13, 14, 15, 16], [0, 1, 2, 3, 4, 5, 6, 7, 8, 9, 10, 11, 12, 13, 14, 15, 16, 17]] (zs5 [.func (.func 84) #[] #[.pointer (some ⟨gb115, 0, none⟩), .pointer (some ⟨gb116, 0, none⟩)], .int .i64 x39_4, .int .i64 x10_2, .bool false, .bool false, undef, undef, undef, undef, undef, undef, undef, undef, undef, undef, undef, undef, undef, .bool false]) rfl (fun _ _ _ _ _ h => h) zq27 ⟨?s0, ?s1, ?s2, ?s3, ?s4, ?s5, ?s6, ?s7, ?s8, ?s9, ?s10, ?s11, ?s12, ?s13, ?s14, ?s15, ?s16, ?s17, ?s18, trivial⟩ (fun nd => ?_)
   case s0 =>
     rintro w' ⟨n0, rfl⟩
     refine zb5 zan (by rfl) ?_
     refine zsr ?_
     go_simp
   case s1 =>
     rintro w' ⟨n0, rfl⟩
     refine zb5 zan (by rfl) ?_
     refine zsr ?_
     go_simp
   case s2 =>
     rintro w' ⟨n0, rfl⟩
     refine zb5 zan (by rfl) ?_
     refine zsr ?_
     go_simp
   case s3 =>
     rintro w' ⟨n0, rfl⟩ K hK
     refine zzs 84 #[.int .i64 x39_4, .int .i64 x10_2, .pointer (some ⟨gb115, 0, none⟩), .pointer (some ⟨gb116, 0, none⟩)] (by rfl) rfl ?_ ?_
     · have he := zqy (P := Tryz.prog) Tryz.func84 zq27 rfl #[.int .i64 x39_4, .int .i64 x10_2, .pointer (some ⟨gb115, 0, none⟩), .pointer (some ⟨gb116, 0, none⟩)] (wr.drew.drewN n0)
       refine zsr ?_
       go_simp
     refine (zg6 k4 x39_4 x10_2 _ 1 [t103] _ 1 [x117000_3] false _ ?side1 ?side2 ?side3 ?side4 A33.out).mono ?_
     case side1 => exact zue (g := gb115) (o := .cells #[.slice Ao21 t103.length co21] 36 (0, 0)) (zq8 BK115) rfl ⟨_, _, rfl, (by exact (zSr HO_116000.out).2.1), (zq37 HO_116000)⟩
     case side2 => exact zlr _
     case side3 => exact zue (g := gb116) (o := .cells #[.slice AU x117000_3.length cU] 25 (0, 0)) (zq8 BK116) rfl ⟨_, _, rfl, (zq48 HO_117000), (zq19 HO_117000)⟩
     case side4 => exact zlr _
     rintro e w'' ⟨rfl, hd⟩
     exact ⟨_, rfl, hK _ _ ⟨rfl, hd.out⟩⟩
   case s4 =>
     rintro w' ⟨n0, rfl⟩
     refine zb5 zan (by rfl) ?_
     refine zsr ?_
     go_simp
   case s5 => exact fun w' _ => zgq zan (by rfl)
   case s6 => exact fun w' _ => zgq zan (by rfl)
   case s7 => exact fun w' _ => zgq zan (by rfl)
   case s8 => exact fun w' _ => zgq zan (by rfl)
   case s9 => exact fun w' _ => zgq zan (by rfl)
   case s10 => exact fun w' _ => zgq zan (by rfl)
   case s11 => exact fun w' _ => zgq zan (by rfl)
   case s12 => exact fun w' _ => zgq zan (by rfl)
   case s13 => exact fun w' _ => zgq zan (by rfl)
   case s14 => exact fun w' _ => zgq zan (by rfl)
   case s15 => exact fun w' _ => zgq zan (by rfl)
   case s16 => exact fun w' _ => zgq zan (by rfl)
   case s17 => exact fun w' _ => zgq zan (by rfl)
   case s18 =>
     rintro w' ⟨n0, rfl⟩
     refine zb5 zan (by rfl) ?_
     refine zsr ?_
     go_simp
   refine zsr ?_
   go_wp2_with fail
   go_roundg k4
   case measure => have := HJ2.out; have := HK2.out; have := HK3.out; have := HK4.out; omega
   case rel => exact ⟨(x11_4), (wrap64 (x39_4 + 1)), zq7, zq7, H', ⟨zq62 HJ2 HK2 HK3 HK4⟩, ⟨zq2 HO_7⟩, ⟨zq17 HO_116000⟩, ⟨zq2 HO_117000⟩, ⟨zq8 BK115⟩, ⟨zq8 BK116⟩, ⟨zq9 GE115 GE116⟩⟩
 subst c34
 replace H := zih H
 revert H
 refine zit (fun c35b0 H => ?_) fun c35b0 H => ?_
 · have H' := zA H
   clear H
   obtain ⟨AU, cU, rfl⟩ := Kd.R_slice HO_117000.out
   go_wp2_with fail
   refine zth [[], [], [], [0, 1, 2], [0, 1, 2, 3], [0, 1, 2, 3, 4], [0, 1, 2, 3, 4, 5], [0, 1, 2, 3, 4, 5, 6], [0, 1, 2, 3, 4, 5, 6, 7], [0, 1, 2, 3, 4, 5, 6, 7], [0, 1, 2, 3, 4, 5, 6, 7, 8, 9], [0, 1, 2, 3, 4, 5, 6, 7, 8, 9, 10], [0, 1, 2, 3, 4, 5, 6, 7], [0, 1, 2, 3, 4, 5, 6, 7], [0, 1, 2, 3, 4, 5, 6, 7, 12, 13], [0, 1, 2, 3, 4, 5, 6, 7, 12, 13, 14], [0, 1, 2, 3, 4, 5, 6, 7, 8, 9, 10, 11, 12, 13, 14, 15], [0, 1, 2, 3, 4, 5, 6, 7, 8, 9, 10, 11, 12, 13, 14, 15, 16], [0, 1, 2, 3, 4, 5, 6, 7, 8, 9, 10, 11, 12, 13, 14, 15, 16, 17]] (zs5 [.func (.func 84) #[] #[.pointer (some ⟨gb115, 0, none⟩), .pointer (some ⟨gb116, 0, none⟩)], .int .i64 x39_4, .int .i64 x10_2, .bool true, .bool true, .int .i64 x11_4, .bool true, .bool true, undef, undef, undef, undef, undef, undef, undef, undef, undef, .bool true, .bool true]) rfl (fun _ _ _ _ _ h => h) zq27 ⟨?s0, ?s1, ?s2, ?s3, ?s4, ?s5, ?s6, ?s7, ?s8, ?s9, ?s10, ?s11, ?s12, ?s13, ?s14, ?s15, ?s16, ?s17, ?s18, trivial⟩ (fun nd => ?_)
   case s0 =>
     rintro w' ⟨n0, rfl⟩
     refine zb5 zan (by rfl) ?_
     refine zsr ?_
     go_simp
   case s1 =>
     rintro w' ⟨n0, rfl⟩
     refine zb5 zan (by rfl) ?_
     refine zsr ?_
     go_simp
   case s2 =>
     rintro w' ⟨n0, rfl⟩
     refine zb5 zan (by rfl) ?_
     refine zsr ?_
     go_simp
   case s3 =>
     rintro w' ⟨n0, rfl⟩ K hK
     refine zzs 84 #[.int .i64 x39_4, .int .i64 x10_2, .pointer (some ⟨gb115, 0, none⟩), .pointer (some ⟨gb116, 0, none⟩)] (by rfl) rfl ?_ ?_
     · have he := zqy (P := Tryz.prog) Tryz.func84 zq27 rfl #[.int .i64 x39_4, .int .i64 x10_2, .pointer (some ⟨gb115, 0, none⟩), .pointer (some ⟨gb116, 0, none⟩)] (wr.drew.drewN n0)
       refine zsr ?_
       go_simp
     refine (zg6 k4 x39_4 x10_2 _ 1 [t103] _ 1 [x117000_3] true _ ?side1 ?side2 ?side3 ?side4 A33.out).mono ?_
     case side1 => exact zue (g := gb115) (o := .cells #[.slice Ao21 t103.length co21] 36 (0, 0)) (zq8 BK115) rfl ⟨_, _, rfl, (by exact (zSr HO_116000.out).2.1), (zq37 HO_116000)⟩
     case side2 => exact zlr _
     case side3 => exact zue (g := gb116) (o := .cells #[.slice AU x117000_3.length cU] 25 (0, 0)) (zq8 BK116) rfl ⟨_, _, rfl, (zq48 HO_117000), (zq19 HO_117000)⟩
     case side4 => exact zlr _
     rintro e w'' ⟨rfl, hd⟩
     exact ⟨_, rfl, hK _ _ ⟨rfl, hd.out⟩⟩
   case s4 =>
     rintro w' ⟨n0, rfl⟩
     refine zb5 zan (by rfl) ?_
     refine zsr ?_
     go_simp
   case s5 =>
     rintro w' ⟨n0, rfl⟩
     refine zb5 zan (by rfl) ?_
     refine zsr ?_
     go_simp
   case s6 =>
     rintro w' ⟨n0, rfl⟩
     refine zb5 zan (by rfl) ?_
     refine zsr ?_
     go_simp
   case s7 =>
     rintro w' ⟨n0, rfl⟩
     refine zb5 zan (by rfl) ?_
     refine zsr ?_
     go_simp
   case s8 => exact fun w' _ => zgq zan (by rfl)
   case s9 => exact fun w' _ => zgq zan (by rfl)
   case s10 => exact fun w' _ => zgq zan (by rfl)
   case s11 => exact fun w' _ => zgq zan (by rfl)
   case s12 => exact fun w' _ => zgq zan (by rfl)
   case s13 => exact fun w' _ => zgq zan (by rfl)
   case s14 => exact fun w' _ => zgq zan (by rfl)
   case s15 => exact fun w' _ => zgq zan (by rfl)
   case s16 => exact fun w' _ => zgq zan (by rfl)
   case s17 =>
     rintro w' ⟨n0, rfl⟩
     refine zb5 zan (by rfl) ?_
     refine zsr ?_
     go_simp
   case s18 =>
     rintro w' ⟨n0, rfl⟩
     refine zb5 zan (by rfl) ?_
     refine zsr ?_
     go_simp
   refine zsr ?_
   go_wp2_with fail
   go_roundg k4
   case measure => have := HJ2.out; have := HK2.out; have := HK3.out; have := HK4.out; omega
   case rel => exact ⟨(x39_4), (wrap64 (x39_4 + 1)), zq7, zq7, H', ⟨zq62 HJ2 HK2 HK3 HK4⟩, ⟨zq2 HO_7⟩, ⟨zq17 HO_116000⟩, ⟨zq2 HO_117000⟩, ⟨zq8 BK115⟩, ⟨zq8 BK116⟩, ⟨zq9 GE115 GE116⟩⟩
 revert H
 refine zin fun c36 H => ?_
 revert H
 refine zin fun c37 H => ?_
 revert H
 refine zin fun c38 H => ?_
 revert H
 refine zin fun c39 H => ?_
 revert H
 refine zit (fun c40b0 H => ?_) fun c40b0 H => ?_
 · have H' := zA H
   clear H
   obtain ⟨AH, cH, eH, _, hCH⟩ := Kd.R_reads HO_7.out
   obtain ⟨adH, eAH, hH1⟩ := Kd.at_int hCH x39_4 (zde zq20) (zde zq20)
   obtain ⟨adH', eAH', hH2⟩ := Kd.at_int hCH x11_4 (zde zq20) (zde zq20)
   have pj0 : 0 ≤ x39_4 := zde zq20
   have pj1 : x39_4 < (x7_3.length : Int) := zde zq20
   have pb0 : 0 ≤ x11_4 := zde zq20
   have pb1 : x11_4 < (x7_3.length : Int) := zde zq20
   subst eAH
   cases eAH'
   obtain ⟨AU, cU, rfl⟩ := Kd.R_slice HO_117000.out
   go_wp2_with fail
   refine zth [[], [], [], [0, 1, 2], [0, 1, 2, 3], [0, 1, 2, 3, 4], [0, 1, 2, 3, 4, 5], [0, 1, 2, 3, 4, 5, 6], [0, 1, 2, 3, 4, 5, 6, 7], [0, 1, 2, 3, 4, 5, 6, 7], [0, 1, 2, 3, 4, 5, 6, 7, 8, 9], [0, 1, 2, 3, 4, 5, 6, 7, 8, 9, 10], [0, 1, 2, 3, 4, 5, 6, 7], [0, 1, 2, 3, 4, 5, 6, 7], [0, 1, 2, 3, 4, 5, 6, 7, 12, 13], [0, 1, 2, 3, 4, 5, 6, 7, 12, 13, 14], [0, 1, 2, 3, 4, 5, 6, 7, 8, 9, 10, 11, 12, 13, 14, 15], [0, 1, 2, 3, 4, 5, 6, 7, 8, 9, 10, 11, 12, 13, 14, 15, 16], [0, 1, 2, 3, 4, 5, 6, 7, 8, 9, 10, 11, 12, 13, 14, 15, 16, 17]] (zs5 [.func (.func 84) #[] #[.pointer (some ⟨gb115, 0, none⟩), .pointer (some ⟨gb116, 0, none⟩)], .int .i64 x39_4, .int .i64 x10_2, .bool true, .bool true, .int .i64 x11_4, .bool false, .bool false, .slice (some adH) x7_3.length cH, .int .i64 x39_4, .pointer (some ((adH).add (x39_4).toNat)), .int .i64 (rd x7_3 x39_4), .slice (some adH) x7_3.length cH, .int .i64 x11_4, .pointer (some ((adH).add (x11_4).toNat)), .int .i64 (rd x7_3 x11_4), .bool true, .bool true, .bool true]) rfl (fun _ _ _ _ _ h => h) zq27 ⟨?s0, ?s1, ?s2, ?s3, ?s4, ?s5, ?s6, ?s7, ?s8, ?s9, ?s10, ?s11, ?s12, ?s13, ?s14, ?s15, ?s16, ?s17, ?s18, trivial⟩ (fun nd => ?_)
   case s0 =>
     rintro w' ⟨n0, rfl⟩
     refine zb5 zan (by rfl) ?_
     refine zsr ?_
     go_simp
   case s1 =>
     rintro w' ⟨n0, rfl⟩
     refine zb5 zan (by rfl) ?_
     refine zsr ?_
     go_simp
   case s2 =>
     rintro w' ⟨n0, rfl⟩
     refine zb5 zan (by rfl) ?_
     refine zsr ?_
     go_simp
   case s3 =>
     rintro w' ⟨n0, rfl⟩ K hK
     refine zzs 84 #[.int .i64 x39_4, .int .i64 x10_2, .pointer (some ⟨gb115, 0, none⟩), .pointer (some ⟨gb116, 0, none⟩)] (by rfl) rfl ?_ ?_
     · have he := zqy (P := Tryz.prog) Tryz.func84 zq27 rfl #[.int .i64 x39_4, .int .i64 x10_2, .pointer (some ⟨gb115, 0, none⟩), .pointer (some ⟨gb116, 0, none⟩)] (wr.drew.drewN n0)
       refine zsr ?_
       go_simp
     refine (zg6 k4 x39_4 x10_2 _ 1 [t103] _ 1 [x117000_3] true _ ?side1 ?side2 ?side3 ?side4 A33.out).mono ?_
     case side1 => exact zue (g := gb115) (o := .cells #[.slice Ao21 t103.length co21] 36 (0, 0)) (zq8 BK115) rfl ⟨_, _, rfl, (by exact (zSr HO_116000.out).2.1), (zq37 HO_116000)⟩
     case side2 => exact zlr _
     case side3 => exact zue (g := gb116) (o := .cells #[.slice AU x117000_3.length cU] 25 (0, 0)) (zq8 BK116) rfl ⟨_, _, rfl, (zq48 HO_117000), (zq19 HO_117000)⟩
     case side4 => exact zlr _
     rintro e w'' ⟨rfl, hd⟩
     exact ⟨_, rfl, hK _ _ ⟨rfl, hd.out⟩⟩
   case s4 =>
     rintro w' ⟨n0, rfl⟩
     refine zb5 zan (by rfl) ?_
     refine zsr ?_
     go_simp
   case s5 =>
     rintro w' ⟨n0, rfl⟩
     refine zb5 zan (by rfl) ?_
     refine zsr ?_
     go_simp
   case s6 =>
     rintro w' ⟨n0, rfl⟩
     refine zb5 zan (by rfl) ?_
     refine zsr ?_
     go_simp
   case s7 =>
     rintro w' ⟨n0, rfl⟩
     refine zb5 zan (by rfl) ?_
     refine zsr ?_
     go_simp
   case s8 =>
     rintro w' ⟨n0, rfl⟩
     refine zb5 zan (by rfl) ?_
     refine zsr ?_
     go_simp
   case s9 =>
     rintro w' ⟨n0, rfl⟩
     refine zb5 zan (by rfl) ?_
     refine zsr ?_
     go_simp
   case s10 =>
     rintro w' ⟨n0, rfl⟩
     refine zb5 zan (by rfl) ?_
     refine zsr ?_
     go_simp
   case s11 =>
     rintro w' ⟨n0, rfl⟩
     refine zb5 zan (by rfl) ?_
     refine zsr ?_
     go_simp
   case s12 =>
     rintro w' ⟨n0, rfl⟩
     refine zb5 zan (by rfl) ?_
     refine zsr ?_
     go_simp
   case s13 =>
     rintro w' ⟨n0, rfl⟩
     refine zb5 zan (by rfl) ?_
     refine zsr ?_
     go_simp
   case s14 =>
     rintro w' ⟨n0, rfl⟩
     refine zb5 zan (by rfl) ?_
     refine zsr ?_
     go_simp
   case s15 =>
     rintro w' ⟨n0, rfl⟩
     refine zb5 zan (by rfl) ?_
     refine zsr ?_
     go_simp
   case s16 =>
     rintro w' ⟨n0, rfl⟩
     refine zb5 zan (by rfl) ?_
     refine zsr ?_
     go_simp
   case s17 =>
     rintro w' ⟨n0, rfl⟩
     refine zb5 zan (by rfl) ?_
     refine zsr ?_
     go_simp
   case s18 =>
     rintro w' ⟨n0, rfl⟩
     refine zb5 zan (by rfl) ?_
     refine zsr ?_
     go_simp
   refine zsr ?_
   go_wp2_with fail
   go_roundg k4
   case measure => have := HJ2.out; have := HK2.out; have := HK3.out; have := HK4.out; omega
   case rel => exact ⟨(x39_4), (wrap64 (x39_4 + 1)), zq7, zq7, H', ⟨zq62 HJ2 HK2 HK3 HK4⟩, ⟨zq2 HO_7⟩, ⟨zq17 HO_116000⟩, ⟨zq2 HO_117000⟩, ⟨zq8 BK115⟩, ⟨zq8 BK116⟩, ⟨zq9 GE115 GE116⟩⟩
 have H' := zA H
 clear H
 obtain ⟨AH, cH, eH, _, hCH⟩ := Kd.R_reads HO_7.out
 obtain ⟨adH, eAH, hH1⟩ := Kd.at_int hCH x39_4 (zde zq20) (zde zq20)
 obtain ⟨adH', eAH', hH2⟩ := Kd.at_int hCH x11_4 (zde zq20) (zde zq20)
 have pj0 : 0 ≤ x39_4 := zde zq20
 have pj1 : x39_4 < (x7_3.length : Int) := zde zq20
 have pb0 : 0 ≤ x11_4 := zde zq20
 have pb1 : x11_4 < (x7_3.length : Int) := zde zq20
 subst eAH
 cases eAH'
 obtain ⟨AU, cU, rfl⟩ := Kd.R_slice HO_117000.out
 go_wp2_with fail
 refine zth [[], [], [], [0, 1, 2], [0, 1, 2, 3], [0, 1, 2, 3, 4], [0, 1, 2, 3, 4, 5], [0, 1, 2, 3, 4, 5, 6], [0, 1, 2, 3, 4, 5, 6, 7], [0, 1, 2, 3, 4, 5, 6, 7], [0, 1, 2, 3, 4, 5, 6, 7, 8, 9], [0, 1, 2, 3, 4, 5, 6, 7, 8, 9, 10], [0, 1, 2, 3, 4, 5, 6, 7], [0, 1, 2, 3, 4, 5, 6, 7], [0, 1, 2, 3, 4, 5, 6, 7, 12, 13], [0, 1, 2, 3, 4, 5, 6, 7, 12, 13, 14], [0, 1, 2, 3, 4, 5, 6, 7, 8, 9, 10, 11, 12, 13, 14, 15], [0, 1, 2, 3, 4, 5, 6, 7, 8, 9, 10, 11, 12, 13, 14, 15, 16], [0, 1, 2, 3, 4, 5, 6, 7, 8, 9, 10, 11, 12, 13, 14, 15, 16, 17]] (zs5 [.func (.func 84) #[] #[.pointer (some ⟨gb115, 0, none⟩), .pointer (some ⟨gb116, 0, none⟩)], .int .i64 x39_4, .int .i64 x10_2, .bool true, .bool true, .int .i64 x11_4, .bool false, .bool false, .slice (some adH) x7_3.length cH, .int .i64 x39_4, .pointer (some ((adH).add (x39_4).toNat)), .int .i64 (rd x7_3 x39_4), .slice (some adH) x7_3.length cH, .int .i64 x11_4, .pointer (some ((adH).add (x11_4).toNat)), .int .i64 (rd x7_3 x11_4), .bool false, .bool false, .bool false]) rfl (fun _ _ _ _ _ h => h) zq27 ⟨?s0, ?s1, ?s2, ?s3, ?s4, ?s5, ?s6, ?s7, ?s8, ?s9, ?s10, ?s11, ?s12, ?s13, ?s14, ?s15, ?s16, ?s17, ?s18, trivial⟩ (fun nd => ?_)
 case s0 =>
   rintro w' ⟨n0, rfl⟩
   refine zb5 zan (by rfl) ?_
   refine zsr ?_
   go_simp
 case s1 =>
   rintro w' ⟨n0, rfl⟩
   refine zb5 zan (by rfl) ?_
   refine zsr ?_
   go_simp
 case s2 =>
   rintro w' ⟨n0, rfl⟩
   refine zb5 zan (by rfl) ?_
   refine zsr ?_
   go_simp
 case s3 =>
   rintro w' ⟨n0, rfl⟩ K hK
   refine zzs 84 #[.int .i64 x39_4, .int .i64 x10_2, .pointer (some ⟨gb115, 0, none⟩), .pointer (some ⟨gb116, 0, none⟩)] (by rfl) rfl ?_ ?_
   · have he := zqy (P := Tryz.prog) Tryz.func84 zq27 rfl #[.int .i64 x39_4, .int .i64 x10_2, .pointer (some ⟨gb115, 0, none⟩), .pointer (some ⟨gb116, 0, none⟩)] (wr.drew.drewN n0)
     refine zsr ?_
     go_simp
   refine (zg6 k4 x39_4 x10_2 _ 1 [t103] _ 1 [x117000_3] true _ ?side1 ?side2 ?side3 ?side4 A33.out).mono ?_
   case side1 => exact zue (g := gb115) (o := .cells #[.slice Ao21 t103.length co21] 36 (0, 0)) (zq8 BK115) rfl ⟨_, _, rfl, (by exact (zSr HO_116000.out).2.1), (zq37 HO_116000)⟩
   case side2 => exact zlr _
   case side3 => exact zue (g := gb116) (o := .cells #[.slice AU x117000_3.length cU] 25 (0, 0)) (zq8 BK116) rfl ⟨_, _, rfl, (zq48 HO_117000), (zq19 HO_117000)⟩
   case side4 => exact zlr _
   rintro e w'' ⟨rfl, hd⟩
   exact ⟨_, rfl, hK _ _ ⟨rfl, hd.out⟩⟩
 case s4 =>
   rintro w' ⟨n0, rfl⟩
   refine zb5 zan (by rfl) ?_
   refine zsr ?_
   go_simp
 case s5 =>
   rintro w' ⟨n0, rfl⟩
   refine zb5 zan (by rfl) ?_
   refine zsr ?_
   go_simp
 case s6 =>
   rintro w' ⟨n0, rfl⟩
   refine zb5 zan (by rfl) ?_
   refine zsr ?_
   go_simp
 case s7 =>
   rintro w' ⟨n0, rfl⟩
   refine zb5 zan (by rfl) ?_
   refine zsr ?_
   go_simp
 case s8 =>
   rintro w' ⟨n0, rfl⟩
   refine zb5 zan (by rfl) ?_
   refine zsr ?_
   go_simp
 case s9 =>
   rintro w' ⟨n0, rfl⟩
   refine zb5 zan (by rfl) ?_
   refine zsr ?_
   go_simp
 case s10 =>
   rintro w' ⟨n0, rfl⟩
   refine zb5 zan (by rfl) ?_
   refine zsr ?_
   go_simp
 case s11 =>
   rintro w' ⟨n0, rfl⟩
   refine zb5 zan (by rfl) ?_
   refine zsr ?_
   go_simp
 case s12 =>
   rintro w' ⟨n0, rfl⟩
   refine zb5 zan (by rfl) ?_
   refine zsr ?_
   go_simp
 case s13 =>
   rintro w' ⟨n0, rfl⟩
   refine zb5 zan (by rfl) ?_
   refine zsr ?_
   go_simp
 case s14 =>
   rintro w' ⟨n0, rfl⟩
   refine zb5 zan (by rfl) ?_
   refine zsr ?_
   go_simp
 case s15 =>
   rintro w' ⟨n0, rfl⟩
   refine zb5 zan (by rfl) ?_
   refine zsr ?_
   go_simp
 case s16 =>
   rintro w' ⟨n0, rfl⟩
   refine zb5 zan (by rfl) ?_
   refine zsr ?_
   go_simp
 case s17 =>
   rintro w' ⟨n0, rfl⟩
   refine zb5 zan (by rfl) ?_
   refine zsr ?_
   go_simp
 case s18 =>
   rintro w' ⟨n0, rfl⟩
   refine zb5 zan (by rfl) ?_
   refine zsr ?_
   go_simp
 refine zsr ?_
 go_wp2_with fail
 go_roundg k4
 case measure => have := HJ2.out; have := HK2.out; have := HK3.out; have := HK4.out; omega
 case rel => exact ⟨(x11_4), (wrap64 (x39_4 + 1)), zq7, zq7, H', ⟨zq62 HJ2 HK2 HK3 HK4⟩, ⟨zq2 HO_7⟩, ⟨zq17 HO_116000⟩, ⟨zq2 HO_117000⟩, ⟨zq8 BK115⟩, ⟨zq8 BK116⟩, ⟨zq9 GE115 GE116⟩⟩
def zfz : Nat → List Int → Int → Int → Option (List Int)
 | 0, _, _, _ => none
 | k + 1, x5, x11, x12 => if x12 < x11 then (if x5.length < 17592186044416 then (zfz k (x5 ++ [x12]) x11 (wrap64 (x12 + 1))) else (none)) else (some x5)
def zjz (k : Nat) (a0 : Bool) (a1 : Int) : Option (List Int) := if a0 = true then (zfz k (([] : List Int)) a1 0) else (some (([0] : List Int)))
theorem zpa : ∀ k, (∀ y0 y1 y2, LeO (zfz k y0 y1 y2) (zfz (k + 1) y0 y1 y2))
 | 0 => fun _ _ _ r h => by simp [zfz] at h
 | k + 1 => by
   have ih0 := zpa k
   · intro y0 y1 y2
     unfold zfz
     exact zm1 ih0
theorem zug : ∀ a0 a1 k, LeO (zjz k a0 a1) (zjz (k + 1) a0 a1) := by
 intro a0 a1 k
 have ih0 := zpa k
 unfold zjz
 exact zm1 ih0
theorem zts (k : Nat) (a0 : Bool) (a1 : Int) (r : List Int) (w : World) (h : zjz k a0 a1 = some r) :
   Calls Tryz.prog 63 #[.bool a0, .int .i64 a1] w fun e w' => ∃ v0_ : Value, e = .returned (v0_) ∧ Kd.R (Kd.int .i64) 3 w' w.heap.size (fun _ => True) v0_ r ∧ Below w.heap.size w w' := by
 have HB := zA (Below.refl w.heap.size w)
 have H := h
 unfold zjz at H
 clear h
 by_cases c3 : a0 = true
 rotate_left
 · replace c3 := zbf c3
   subst c3
   replace H := zif H
   obtain ⟨y101, hy101⟩ : ∃ y_ : List Int, y_ = (([0] : List Int)) := ⟨_, rfl⟩
   rw [← hy101] at H; try with_reducible replace H := zbs H
   have Ny101 := zA hy101
   clear hy101
   obtain rfl := zsi H
   go_enter Tryz.func63, Tryz.ntmps63
   go_wp2_with (first | ((with_reducible refine zgd 9 ?_); refine Kd.R_lit (Kd.int .i64) _ 3 ?hg (N := 9) ?hd (xs := ([0] : List Int)) (inner := [.int .i64 0]) (ok := fun _ => True) (okp := fun _ => True) ?hr ?hp (fun _ hk => hk) trivial (Below.refl _ _) (zlr _) (by simp) ?_; (case hd => rfl); (case hg => rfl); (case hr => go_simp <;> rfl); (case hp => exact (zam (show Kd.M (Kd.int .i64) _ _ _ 0 [.int .i64 0] from rfl) (Reps.none _ _))); intro v102 w9 ho10 hb hg_ hnew_; clear hg_ hnew_; (first | rw [← Ny101.out] at ho10 | (simp only [Int.reduceToNat] at ho10; rw [← Ny101.out] at ho10)); have HO103 := zA (Kd.R_lower ho10 (zaj zq1)); replace HB := zA (zab zq1 hb); clear hb ho10))
   go_ret
   exact ⟨_, zq5, zq2 HO103, zq1⟩
 subst c3
 replace H := zih H
 obtain ⟨y104, hy104⟩ : ∃ y_ : List Int, y_ = (([] : List Int)) := ⟨_, rfl⟩
 replace H : (zfz k y104 a1 0) = some r := by first | (rw [hy104]; with_reducible exact H) | (have H2_ := (Option.bind_some _ _).symm.trans H; rw [hy104]; with_reducible exact H2_) | (have H2_ := (Option.bind_some _ _).symm.trans H; with_reducible exact H2_) | with_reducible exact H | (rw [hy104]; exact H) | exact H
 have Ny104 := zA hy104
 clear hy104
 have H' := zA H
 clear H
 go_enter Tryz.func63, Tryz.ntmps63
 go_wp2_with (first | ((with_reducible refine zgd 10 ?_); refine Kd.R_lit (Kd.int .i64) _ 3 ?hg (N := 10) ?hd (xs := ([] : List Int)) (inner := []) (ok := fun _ => True) (okp := fun _ => True) ?hr ?hp (fun _ hk => hk) trivial (Below.refl _ _) (zlr _) (by simp) ?_; (case hd => rfl); (case hg => rfl); (case hr => go_simp <;> rfl); (case hp => exact (Reps.none _ _)); intro v105 w4 ho5 hb hg_ hnew_; clear hg_ hnew_; (first | rw [← Ny104.out] at ho5 | (simp only [Int.reduceToNat] at ho5; rw [← Ny104.out] at ho5)); have HO106 := zA (Kd.R_lower ho5 (zaj zq1)); replace HB := zA (zab zq1 hb); clear hb ho5))
 go_loopg [5, 12] k (fun kq v5 v12 w' => ∃ (x5_1 : List Int) (x12_1 : Int), v12 = .int .i64 x12_1 ∧ Aside0 (zfz kq x5_1 a1 x12_1 = some r) ∧ Aside0 (kq ≤ k) ∧ Aside0 (Kd.R (Kd.int .i64) 3 w' w.heap.size (fun _ => True) v5 x5_1) ∧ Aside0 (Below w.heap.size w w'))
 case atStart => exact ⟨(y104), (0), zq7, H', ⟨zlr _⟩, ⟨zq2 HO106⟩, ⟨zq1⟩⟩
 clear H'
 obtain ⟨x5_1, x12_1, rfl, HA, HK1, HO_5, HB⟩ := hrel
 cases gk with
 | zero => exact absurd HA.out (by simp [zfz])
 | succ k1 =>
 have H := HA.out
 clear HA
 simp only [zfz] at H
 revert H
 refine zit (fun c6 H => ?_) fun c6 H => ?_
 rotate_left
 · obtain rfl := zsi H
   go_wp2
   go_ret
   exact ⟨_, zq5, zq2 HO_5, zq1⟩
 by_cases c7 : x5_1.length < 17592186044416
 rotate_left
 · rw [if_neg c7] at H
   exact absurd H (by simp)
 rw [if_pos c7] at H
 have LMc7 := zA c7
 clear c7
 obtain ⟨y107, hy107⟩ : ∃ y_ : List Int, y_ = (x5_1 ++ [x12_1]) := ⟨_, rfl⟩
 rw [← hy107] at H; try with_reducible replace H := zbs H
 have Ny107 := zA hy107
 clear hy107
 have H' := zA H
 clear H
 go_wp2_with (first | ((with_reducible refine zci (b := .append) (xs := #[.tmp 15, .tmp 17]) rfl ?_); at_builtin; refine Kd.R_append (Kd.int .i64) (w0 := w) w.heap.size rfl (.tmp 15) (.tmp 17) 25 3 (.int .i64 0) 8 rfl Tryz.underlying25 zja rfl (by decide) (by omega) u5 x5_1 x12_1 [.int .i64 x12_1] (fun _ => True) (fun _ => False) rfl rfl ?aP (fun _ hk => hk.elim) ?aF ?aO ?aB ?aS ?aL ?_; (case aP => exact rfl); (case aB => exact zq1); (case aF => exact (fun _ _ => trivial)); (case aO => exact (zq2 HO_5)); (case aS => exact (zaj zq1)); (case aL => have := LMc7.out; omega); intro v108 w8 ho hb hg hat; rw [← Ny107.out] at ho; replace HB := zA (hb); have HO109 := zA (ho); clear HO_5; clear ho hb hg hat))
 go_roundg k1
 case measure => have := HK1.out; omega
 case rel => exact ⟨(y107), (wrap64 (x12_1 + 1)), zq7, H', ⟨zq51 HK1⟩, ⟨zq2 HO109⟩, ⟨zq1⟩⟩
def zey (a0 : Int) (a1 : Int) (l2 : List (List Int)) : Option (Int) := if 0 < (l2.length : Int) then (if 0 ≤ a0 then (if a0 < ((za5 l2 0).length : Int) then (if 0 ≤ a1 then (if a1 < ((za5 l2 0).length : Int) then (some (wrap64 ((rd (za5 l2 0) a0) - (rd (za5 l2 0) a1)))) else (none)) else (none)) else (none)) else (none)) else (none)
theorem zjp (a0 : Int) (a1 : Int) (A2 : Option Addr) (c2 : Nat) (l2 : List (List Int)) (r : Int) (w : World) (hr2 : Kd.C (Kd.slice 3 (Kd.int .i64)) w A2 l2.length l2) (hc2 : l2.length ≤ c2) (h : zey a0 a1 l2 = some r) :
   Calls Tryz.prog 72 #[.int .i64 a0, .int .i64 a1, .pointer A2] w fun e w' => e = .returned (.int .i64 r) ∧ Drawn0 w w' := by
 have HR2 := zA hr2
 have HC2 := zA hc2
 clear hr2 hc2
 have H := h
 unfold zey at H
 clear h
 by_cases c4 : 0 < (l2.length : Int)
 rotate_left
 · rw [if_neg c4] at H
   exact absurd H (by simp)
 rw [if_pos c4] at H
 have c4b0 := zdt c4
 have c4b1 : decide (0 < l2.length) = true := zdt (by omega)
 clear c4
 revert H
 refine zin fun c5 H => ?_
 revert H
 refine zin fun c6 H => ?_
 revert H
 refine zin fun c7 H => ?_
 revert H
 refine zin fun c8 H => ?_
 obtain rfl := zsi H
 have p101 : 0 ≤ (0 : Int) := (by omega)
 have q101 : 0 < (l2.length : Int) := zde zq20
 obtain ⟨ad101, A101_0, c101_0, e101, hx101_0, hl101_0, hi101_0⟩ := zln HR2.out 0 p101 q101
 cases e101
 have qi101 : (0 < l2.length) = True := eq_true (by omega)
 (try rw [show ((0 : Int)).toNat = 0 from rfl] at hx101_0)
 (try rw [Addr.add_zero'] at hx101_0)
 have HR101_0 := zA hi101_0
 have HC101_0 := zA hl101_0
 clear hi101_0 hl101_0
 replace p101 := eq_true p101
 replace q101 := eq_true q101
 have p102 : 0 ≤ (a0 : Int) := zde zq20
 have q102 : a0 < ((za5 l2 0).length : Int) := zde zq20
 obtain ⟨ad102, e102, hx102_0⟩ := Kd.at_int HR101_0.out a0 p102 q102
 cases e102
 replace p102 := eq_true p102
 replace q102 := eq_true q102
 have p103 : 0 ≤ (0 : Int) := (by omega)
 have q103 : 0 < (l2.length : Int) := zde zq20
 obtain ⟨ad103, A103_0, c103_0, e103, hx103_0, hl103_0, hi103_0⟩ := zln HR2.out 0 p103 q103
 obtain rfl : ad101 = ad103 := (by injection e103)
 have qi103 : (0 < l2.length) = True := eq_true (by omega)
 (try rw [show ((0 : Int)).toNat = 0 from rfl] at hx103_0)
 (try rw [Addr.add_zero'] at hx103_0)
 have HR103_0 := zA hi103_0
 have HC103_0 := zA hl103_0
 clear hi103_0 hl103_0
 replace p103 := eq_true p103
 replace q103 := eq_true q103
 have ea_ := zsi (hx101_0.symm.trans hx103_0)
 injection ea_ with ea_ en_ ec_
 subst ea_
 subst ec_
 clear en_
 have p104 : 0 ≤ (a1 : Int) := zde zq20
 have q104 : a1 < ((za5 l2 0).length : Int) := zde zq20
 obtain ⟨ad104, e104, hx104_0⟩ := Kd.at_int HR103_0.out a1 p104 q104
 cases e104
 replace p104 := eq_true p104
 replace q104 := eq_true q104
 go_enter Tryz.func72, Tryz.ntmps72
 go_wp2
 repeat (go_quiet (fail); try go_wp2)
 exact zr_1
end Go.Proofs.YtabnafbgcpchdaaGreat.Q
end
