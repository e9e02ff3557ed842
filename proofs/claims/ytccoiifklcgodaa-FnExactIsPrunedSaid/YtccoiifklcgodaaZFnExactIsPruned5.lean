/- Proved here: contracts of functions that the law FnExactIsPruned reaches, and lemmas on what they compute; texts of this session and the printed words of the kit that they lean on, cut down and put together by its program link.py. Conditions: as each states. -/
import Derived.Carry
import Derived.Deep.RegionWith
import Derived.Deep.Slices
import Derived.Laws.BitsLemmas
import Derived.ProofKit
import Derived.Test.YtccoiifklcgodaaZFnExactIsPruned1
import Derived.Test.YtccoiifklcgodaaZFnExactIsPruned2
import Derived.Test.YtccoiifklcgodaaZFnExactIsPruned3
import Derived.Test.YtccoiifklcgodaaZFnExactIsPruned4
section
namespace Go.Proofs.Ytccoiifklcgodaa.Q
open Go.RowKit Go.Proofs.YtccoiifklcgodaaW.PrintWords Go.Proofs.YtccoiifklcgodaaW.PrintLast Go.Proofs.YtccoiifklcgodaaW.PrintMore
attribute [local go_sem] zc7 zc8 zd6 zd7 zcc zcd zc9 zda
set_option linter.unusedVariables false
set_option linter.unusedSimpArgs false
mutual
def zb6 : Nat → List (S102) → List (S102) → Int → Int → Option (Bool)
 | 0, _, _, _, _ => none
 | k + 1, x0, x6, x7, x8 => if x8 < x7 then (if 0 ≤ x8 then (if x8 < (x6.length : Int) then (if ((zab x6 x8).f2) > ((zab x6 x8).f3) then ((zdk k (([(⟨#[97, 100, 100]⟩ : ByteArray), (⟨#[97, 110, 100]⟩ : ByteArray), (⟨#[111, 114]⟩ : ByteArray), (⟨#[120, 111, 114]⟩ : ByteArray), (⟨#[109, 117, 108]⟩ : ByteArray), (⟨#[101, 113]⟩ : ByteArray)] : List ByteArray)) ((zab x6 x8).f0)).bind fun t106 => (zce k x0 x8 x6 x7 x8 t106)) else (zce k x0 x8 x6 x7 x8 false)) else (none)) else (none)) else (some false)
def zce : Nat → List (S102) → Int → List (S102) → Int → Int → Bool → Option (Bool)
 | 0, _, _, _, _, _, _ => none
 | k + 1, x0, x3, x6, x7, x8, x23 => if x23 = true then (some true) else (za2 k x0 x3 0 x6 x7 x8)
def za2 : Nat → List (S102) → Int → Int → List (S102) → Int → Int → Option (Bool)
 | 0, _, _, _, _, _, _ => none
 | k + 1, x0, x3, x5, x6, x7, x8 => if x5 < (wrap64 (2 + x3)) then (if x5 = 1 then (if (wrap64 (x3 + 1)) < (x0.length : Int) then (if 0 ≤ (wrap64 (x3 + 1)) then (if (wrap64 (x3 + 1)) ≤ (x0.length : Int) then ((zdd k (x0.take ((wrap64 (x3 + 1)) : Int).toNat) (wrap64 (2 + x3)) x5).bind fun t111 => (if t111 = true then (some true) else (za2 k x0 x3 (wrap64 (x5 + 1)) x6 x7 x8))) else (none)) else (none)) else (za2 k x0 x3 (wrap64 (x5 + 1)) x6 x7 x8)) else (if 0 ≤ (wrap64 (x3 + 1)) then (if (wrap64 (x3 + 1)) ≤ (x0.length : Int) then ((zdd k (x0.take ((wrap64 (x3 + 1)) : Int).toNat) (wrap64 (2 + x3)) x5).bind fun t116 => (if t116 = true then (some true) else (za2 k x0 x3 (wrap64 (x5 + 1)) x6 x7 x8))) else (none)) else (none))) else (zb6 k x0 x6 x7 (wrap64 (x8 + 1)))
end
def zc3 (k : Nat) (l0 : List (S102)) : Option (Bool) := zb6 k l0 l0 (l0.length : Int) 0
theorem zho : ∀ k, (∀ y0 y1 y2 y3, LeO (zb6 k y0 y1 y2 y3) (zb6 (k + 1) y0 y1 y2 y3)) ∧ (∀ y0 y1 y2 y3 y4 y5, LeO (zce k y0 y1 y2 y3 y4 y5) (zce (k + 1) y0 y1 y2 y3 y4 y5)) ∧ (∀ y0 y1 y2 y3 y4 y5, LeO (za2 k y0 y1 y2 y3 y4 y5) (za2 (k + 1) y0 y1 y2 y3 y4 y5))
 | 0 => ⟨fun _ _ _ _ r h => by simp [zb6] at h, fun _ _ _ _ _ _ r h => by simp [zce] at h, fun _ _ _ _ _ _ r h => by simp [za2] at h⟩
 | k + 1 => by
   obtain ⟨ih0, ih1, ih2⟩ := zho k
   refine ⟨?_, ?_, ?_⟩
   · intro y0 y1 y2 y3
     unfold zb6
     repeat' first
     | (with_reducible first | exact ih0 _ _ _ _ | exact ih1 _ _ _ _ _ _ | exact ih2 _ _ _ _ _ _ | exact zd1 _ _ _ | exact zf9 _ _ _ _ | exact LeO.refl _ | exact LeO.none _ | refine zae ?_ ?_ | refine LeO.bind ?_ (fun _ => ?_))
     | exact LeO.none _
     | refine zae ?_ ?_
     | refine LeO.bind ?_ (fun _ => ?_)
   · intro y0 y1 y2 y3 y4 y5
     unfold zce
     repeat' first
     | (with_reducible first | exact ih0 _ _ _ _ | exact ih1 _ _ _ _ _ _ | exact ih2 _ _ _ _ _ _ | exact zd1 _ _ _ | exact zf9 _ _ _ _ | exact LeO.refl _ | exact LeO.none _ | refine zae ?_ ?_ | refine LeO.bind ?_ (fun _ => ?_))
     | exact LeO.none _
     | refine zae ?_ ?_
     | refine LeO.bind ?_ (fun _ => ?_)
   · intro y0 y1 y2 y3 y4 y5
     unfold za2
     repeat' first
     | (with_reducible first | exact ih0 _ _ _ _ | exact ih1 _ _ _ _ _ _ | exact ih2 _ _ _ _ _ _ | exact zd1 _ _ _ | exact zf9 _ _ _ _ | exact LeO.refl _ | exact LeO.none _ | refine zae ?_ ?_ | refine LeO.bind ?_ (fun _ => ?_))
     | exact LeO.none _
     | refine zae ?_ ?_
     | refine LeO.bind ?_ (fun _ => ?_)
theorem zlq : ∀ a0 k, LeO (zc3 k a0) (zc3 (k + 1) a0) := by
 intro a0 k
 obtain ⟨ih0, ih1, ih2⟩ := zho k
 unfold zc3
 repeat' first
     | (with_reducible first | exact ih0 _ _ _ _ | exact ih1 _ _ _ _ _ _ | exact ih2 _ _ _ _ _ _ | exact zd1 _ _ _ | exact zf9 _ _ _ _ | exact LeO.refl _ | exact LeO.none _ | refine zae ?_ ?_ | refine LeO.bind ?_ (fun _ => ?_))
     | exact LeO.none _
     | refine zae ?_ ?_
     | refine LeO.bind ?_ (fun _ => ?_)
set_option maxHeartbeats 8000000 in
set_option maxRecDepth 100000 in
theorem zk5 (k : Nat) (A0 : Option Addr) (c0 : Nat) (l0 : List (S102)) (r : Bool) (w : World) (hr0 : Kd.C k102 w A0 l0.length l0) (hc0 : l0.length ≤ c0) (h : zc3 k l0 = some r) :
   Calls Try.prog 95 #[.slice A0 l0.length c0] w fun e w' => e = .returned (.bool r) ∧ Below w.heap.size w w' := by
 have hu102 := Try.underlying102
 have HR0 := zA hr0
 have HC0 := zA hc0
 clear hr0 hc0
 have HB := zA (Below.refl w.heap.size w)
 have H : (zb6 k l0 l0 (l0.length : Int) 0) = some r := h
 clear h
 have H' := zA H
 clear H
 go_enter Try.func95, Try.ntmps95
 go_wp2
 go_loopg [8] k (fun kq v8 w' => ∃ (x8_1 : Int), v8 = .int .i64 x8_1 ∧ Aside0 (zb6 kq l0 l0 (l0.length : Int) x8_1 = some r) ∧ Aside0 (kq ≤ k) ∧ Aside0 (Below w.heap.size w w'))
 case atStart => exact ⟨(0), (by first | rfl | (simp; done) | (simp [*]; done)), H', ⟨zlr _⟩, ⟨by repeat (first | (with_reducible first | exact HB.out | apply zba | apply zbn | apply zbd) | exact HB.out)⟩⟩
 clear H'
 obtain ⟨x8_1, rfl, HA, HK1, HB⟩ := hrel
 cases gk with
 | zero => exact absurd HA.out (by simp [zb6])
 | succ k1 =>
 have H := HA.out
 clear HA
 simp only [zb6] at H
 by_cases c2 : x8_1 < (l0.length : Int)
 rotate_left
 · rw [if_neg c2] at H
   have c2b0 : decide (x8_1 < (l0.length : Int)) = false := zdf c2
   clear c2
   obtain rfl := zsi H
   go_wp2
   go_ret
   exact ⟨by first | rfl | (simp <;> rfl) | (simp [*] <;> rfl), by repeat (first | (with_reducible first | exact HB.out | apply zba | apply zbn | apply zbd) | exact HB.out)⟩
 rw [if_pos c2] at H
 have c2b0 : decide (x8_1 < (l0.length : Int)) = true := zdt c2
 clear c2
 by_cases c3 : 0 ≤ x8_1
 rotate_left
 · rw [if_neg c3] at H
   exact absurd H (by simp)
 rw [if_pos c3] at H
 have c3b0 : decide (0 ≤ x8_1) = true := zdt c3
 clear c3
 by_cases c4 : x8_1 < (l0.length : Int)
 rotate_left
 · rw [if_neg c4] at H
   exact absurd H (by simp)
 rw [if_pos c4] at H
 have c4b0 : decide (x8_1 < (l0.length : Int)) = true := zdt c4
 clear c4
 have HC5 := zA H
 clear H
 have p101 : 0 ≤ (x8_1 : Int) := zde (by assumption)
 have q101 : x8_1 < (l0.length : Int) := zde (by assumption)
 obtain ⟨ad101, e101, hx101_0, hx101_1, hx101_2, hx101_3, hx101_4⟩ := zfp HR0.out x8_1 p101 q101
 cases e101
 replace hx101_0 := zkep HB.out hx101_0
 replace hx101_1 := zkep HB.out hx101_1
 replace hx101_2 := zkep HB.out hx101_2
 replace hx101_3 := zkep HB.out hx101_3
 replace hx101_4 := zkep HB.out hx101_4
 replace p101 := eq_true p101
 replace q101 := eq_true q101
 go_upto_region 4 with (first | ((with_reducible refine zaj (N := 4) rfl ?_); (try (refine zhx (by rfl) ?_; dsimp only)); refine zai ?hg (N := 4) ?hd (cs := #[.string (⟨#[]⟩ : ByteArray), .int .i64 0, .int .i64 0, .int .i64 0, .int .i64 0]) (t := 102) ?hr ?_; (case hd => rfl); (case hg => rfl); (case hr => go_simp <;> rfl); intro gb102 hg w6 hbox hb; have zs := zpair (by repeat (first | (with_reducible first | exact HB.out | apply zba | apply zbn | apply zbd) | exact HB.out)) hb; have n0_ := zA (zs.1); have n1_ := zA (hbox); have n2_ := zA ((by rw [hg]; exact zs.2 : w.heap.size ≤ gb102)); have n3_ := n2_; clear HB; have HB := n0_; have BK102 := n1_; have GW102 := n2_; have GE102 := n3_; clear n0_ n1_ n2_ n3_; clear zs hb hbox hg; obtain ⟨hcz7_0, hcz7_1, hcz7_2, hcz7_3, hcz7_4⟩ := zc5 w6 (.string (⟨#[]⟩ : ByteArray)) (.int .i64 0) (.int .i64 0) (.int .i64 0) (.int .i64 0) BK102.out; obtain ⟨hfz7_0, hfz7_1, hfz7_2, hfz7_3, hfz7_4⟩ := zf5 BK102.out))
 (try simp only [Act.put, zla, zlb, zlc])
 go_cut [23] (fun v23 wc => ∃ (kq : Nat) (x23_4 : Bool), v23 = .bool x23_4 ∧ Aside0 (zce kq l0 x8_1 l0 (l0.length : Int) x8_1 x23_4 = some r) ∧ Aside0 (kq ≤ k1) ∧ Aside0 (wc.heap[gb102]? = some (.cells #[.string ((zab l0 x8_1).f0), .int .i64 ((zab l0 x8_1).f1), .int .i64 ((zab l0 x8_1).f2), .int .i64 ((zab l0 x8_1).f3), .int .i64 ((zab l0 x8_1).f4)] 102 (0, 0))) ∧ Aside0 (Below w.heap.size w wc))
 case first =>
   have H := HC5.out
   clear HC5
   by_cases c8 : ((zab l0 x8_1).f2) > ((zab l0 x8_1).f3)
   rotate_left
   · rw [if_neg c8] at H
     have c8b0 : decide (((zab l0 x8_1).f3) < ((zab l0 x8_1).f2)) = false := zdf c8
     clear c8
     (first | rw [c8b0] | (simp only [za5, zbb]; rw [c8b0]) | skip)
     have H' := zA H
     clear H
     obtain ⟨hcz15_0, hcz15_1, hcz15_2, hcz15_3, hcz15_4⟩ := zc5 w6 (.string (⟨#[]⟩ : ByteArray)) (.int .i64 0) (.int .i64 0) (.int .i64 0) (.int .i64 0) BK102.out
     obtain ⟨hfz15_0, hfz15_1, hfz15_2, hfz15_3, hfz15_4⟩ := zf5 BK102.out
     go_wp2
     go_meet
     case rel => exact ⟨_, (false), (by first | rfl | (simp; done) | (simp [*]; done)), H', ⟨by have := HK1.out; first | omega | exact zlr _⟩, ⟨by (with_reducible repeat (first | refine zkn ?_ _ | refine zkd ?_ | refine zka ?_ _)); refine za4 (cs := #[.string ((zab l0 x8_1).f0), .int .i64 ((zab l0 x8_1).f1), .int .i64 ((zab l0 x8_1).f2), .int .i64 ((zab l0 x8_1).f3), .int .i64 0]) ?_ 4 _ rfl; (with_reducible repeat (first | refine zkn ?_ _ | refine zkd ?_ | refine zka ?_ _)); refine za4 (cs := #[.string ((zab l0 x8_1).f0), .int .i64 ((zab l0 x8_1).f1), .int .i64 ((zab l0 x8_1).f2), .int .i64 0, .int .i64 0]) ?_ 3 _ rfl; (with_reducible repeat (first | refine zkn ?_ _ | refine zkd ?_ | refine zka ?_ _)); refine za4 (cs := #[.string ((zab l0 x8_1).f0), .int .i64 ((zab l0 x8_1).f1), .int .i64 0, .int .i64 0, .int .i64 0]) ?_ 2 _ rfl; (with_reducible repeat (first | refine zkn ?_ _ | refine zkd ?_ | refine zka ?_ _)); refine za4 (cs := #[.string ((zab l0 x8_1).f0), .int .i64 0, .int .i64 0, .int .i64 0, .int .i64 0]) ?_ 1 _ rfl; (with_reducible repeat (first | refine zkn ?_ _ | refine zkd ?_ | refine zka ?_ _)); refine za4 (cs := #[.string (⟨#[]⟩ : ByteArray), .int .i64 0, .int .i64 0, .int .i64 0, .int .i64 0]) ?_ 0 _ rfl; (with_reducible repeat (first | refine zkn ?_ _ | refine zkd ?_ | refine zka ?_ _)); exact BK102.out⟩, ⟨by repeat (first | (with_reducible first | exact HB.out | apply zba | apply zbn | apply zbd | refine zaa ?_ GE102.out) | exact HB.out)⟩⟩
   rw [if_pos c8] at H
   have c8b0 : decide (((zab l0 x8_1).f3) < ((zab l0 x8_1).f2)) = true := zdt c8
   clear c8
   (first | rw [c8b0] | (simp only [za5, zbb]; rw [c8b0]) | skip)
   obtain ⟨y103, hy103⟩ : ∃ y_ : List ByteArray, y_ = (([(⟨#[97, 100, 100]⟩ : ByteArray), (⟨#[97, 110, 100]⟩ : ByteArray), (⟨#[111, 114]⟩ : ByteArray), (⟨#[120, 111, 114]⟩ : ByteArray), (⟨#[109, 117, 108]⟩ : ByteArray), (⟨#[101, 113]⟩ : ByteArray)] : List ByteArray)) := ⟨_, rfl⟩
   replace H : ((zdk k1 y103 ((zab l0 x8_1).f0)).bind fun t106 => (zce k1 l0 x8_1 l0 (l0.length : Int) x8_1 t106)) = some r := by first | (rw [hy103]; with_reducible exact H) | (have H2_ := (Option.bind_some _ _).symm.trans H; rw [hy103]; with_reducible exact H2_) | (have H2_ := (Option.bind_some _ _).symm.trans H; with_reducible exact H2_) | with_reducible exact H | (rw [hy103]; exact H) | exact H
   have Ny103 := zA hy103
   clear hy103
   replace H := zob H
   obtain ⟨t106, A90, H⟩ := H
   replace H : (zce k1 l0 x8_1 l0 (l0.length : Int) x8_1 t106) = some r := H
   have A9 := zA A90
   clear A90
   have H' := zA H
   clear H
   obtain ⟨hcz10_0, hcz10_1, hcz10_2, hcz10_3, hcz10_4⟩ := zc5 w6 (.string (⟨#[]⟩ : ByteArray)) (.int .i64 0) (.int .i64 0) (.int .i64 0) (.int .i64 0) BK102.out
   obtain ⟨hfz10_0, hfz10_1, hfz10_2, hfz10_3, hfz10_4⟩ := zf5 BK102.out
   go_wp2_with (first | ((with_reducible refine zaj (N := 19) rfl ?_); (try (refine zhx (by rfl) ?_; dsimp only)); refine Kd.R_lit Kd.string _ 9 ?hg (N := 19) ?hd (xs := ([(⟨#[97, 100, 100]⟩ : ByteArray), (⟨#[97, 110, 100]⟩ : ByteArray), (⟨#[111, 114]⟩ : ByteArray), (⟨#[120, 111, 114]⟩ : ByteArray), (⟨#[109, 117, 108]⟩ : ByteArray), (⟨#[101, 113]⟩ : ByteArray)] : List ByteArray)) (inner := [.string (⟨#[97, 100, 100]⟩ : ByteArray), .string (⟨#[97, 110, 100]⟩ : ByteArray), .string (⟨#[111, 114]⟩ : ByteArray), .string (⟨#[120, 111, 114]⟩ : ByteArray), .string (⟨#[109, 117, 108]⟩ : ByteArray), .string (⟨#[101, 113]⟩ : ByteArray)]) (ok := fun _ => True) (okp := fun _ => True) ?hr ?hp (fun _ hk => hk) trivial (Below.refl _ _) (zlr _) (by simp) ?_; (case hd => rfl); (case hg => rfl); (case hr => go_simp <;> rfl); (case hp => exact (zbw (show Kd.M Kd.string _ _ _ (⟨#[97, 100, 100]⟩ : ByteArray) [.string (⟨#[97, 100, 100]⟩ : ByteArray)] from rfl) (zbw (show Kd.M Kd.string _ _ _ (⟨#[97, 110, 100]⟩ : ByteArray) [.string (⟨#[97, 110, 100]⟩ : ByteArray)] from rfl) (zbw (show Kd.M Kd.string _ _ _ (⟨#[111, 114]⟩ : ByteArray) [.string (⟨#[111, 114]⟩ : ByteArray)] from rfl) (zbw (show Kd.M Kd.string _ _ _ (⟨#[120, 111, 114]⟩ : ByteArray) [.string (⟨#[120, 111, 114]⟩ : ByteArray)] from rfl) (zbw (show Kd.M Kd.string _ _ _ (⟨#[109, 117, 108]⟩ : ByteArray) [.string (⟨#[109, 117, 108]⟩ : ByteArray)] from rfl) (zbw (show Kd.M Kd.string _ _ _ (⟨#[101, 113]⟩ : ByteArray) [.string (⟨#[101, 113]⟩ : ByteArray)] from rfl) (Reps.none _ _)))))))); intro v104 w11 ho12 hb hg_ hnew_; clear hg_ hnew_; (first | rw [← Ny103.out] at ho12 | (simp only [Int.reduceToNat] at ho12; rw [← Ny103.out] at ho12)); have n0_ := zA (Kd.R_lower ho12 (zal (by repeat (first | (with_reducible first | exact HB.out | apply zba | apply zbn | apply zbd | refine zaa ?_ GE102.out) | exact HB.out)))); have n1_ := zA (zac (g := gb102) (o := .cells #[.string ((zab l0 x8_1).f0), .int .i64 ((zab l0 x8_1).f1), .int .i64 ((zab l0 x8_1).f2), .int .i64 ((zab l0 x8_1).f3), .int .i64 ((zab l0 x8_1).f4)] 102 (0, 0)) (by (with_reducible repeat (first | refine zkn ?_ _ | refine zkd ?_ | refine zka ?_ _)); refine za4 (cs := #[.string ((zab l0 x8_1).f0), .int .i64 ((zab l0 x8_1).f1), .int .i64 ((zab l0 x8_1).f2), .int .i64 ((zab l0 x8_1).f3), .int .i64 0]) ?_ 4 _ rfl; (with_reducible repeat (first | refine zkn ?_ _ | refine zkd ?_ | refine zka ?_ _)); refine za4 (cs := #[.string ((zab l0 x8_1).f0), .int .i64 ((zab l0 x8_1).f1), .int .i64 ((zab l0 x8_1).f2), .int .i64 0, .int .i64 0]) ?_ 3 _ rfl; (with_reducible repeat (first | refine zkn ?_ _ | refine zkd ?_ | refine zka ?_ _)); refine za4 (cs := #[.string ((zab l0 x8_1).f0), .int .i64 ((zab l0 x8_1).f1), .int .i64 0, .int .i64 0, .int .i64 0]) ?_ 2 _ rfl; (with_reducible repeat (first | refine zkn ?_ _ | refine zkd ?_ | refine zka ?_ _)); refine za4 (cs := #[.string ((zab l0 x8_1).f0), .int .i64 0, .int .i64 0, .int .i64 0, .int .i64 0]) ?_ 1 _ rfl; (with_reducible repeat (first | refine zkn ?_ _ | refine zkd ?_ | refine zka ?_ _)); refine za4 (cs := #[.string (⟨#[]⟩ : ByteArray), .int .i64 0, .int .i64 0, .int .i64 0, .int .i64 0]) ?_ 0 _ rfl; (with_reducible repeat (first | refine zkn ?_ _ | refine zkd ?_ | refine zka ?_ _)); exact BK102.out) hb); have n2_ := zA (zaf (by repeat (first | (with_reducible first | exact HB.out | apply zba | apply zbn | apply zbd | refine zaa ?_ GE102.out) | exact HB.out)) hb); clear BK102 HB; have HO105 := n0_; have BK102 := n1_; have HB := n2_; clear n0_ n1_ n2_; clear hb ho12; obtain ⟨hcz13_0, hcz13_1, hcz13_2, hcz13_3, hcz13_4⟩ := zc5 w11 (.string ((zab l0 x8_1).f0)) (.int .i64 ((zab l0 x8_1).f1)) (.int .i64 ((zab l0 x8_1).f2)) (.int .i64 ((zab l0 x8_1).f3)) (.int .i64 ((zab l0 x8_1).f4)) BK102.out; obtain ⟨hfz13_0, hfz13_1, hfz13_2, hfz13_3, hfz13_4⟩ := zf5 BK102.out; obtain ⟨Ao14, co14, eo14⟩ := Kd.R_slice HO105.out; subst eo14) | (go_at_call 154; (with_reducible refine (zex k1 _ _ y103 ((zab l0 x8_1).f0) t106 _ ?side1 ?side2 A9.out).mono ?_); (case side1 => repeat (first | exact (zRr HO105.out).2.2 | (with_reducible first | refine zCa ?_ _ | refine zCn ?_ _ | refine zCd ?_))); (case side2 => exact (zRr HO105.out).2.1); rintro e w' ⟨rfl, ⟨nd, rfl⟩⟩))
   go_meet
   case rel => exact ⟨_, (t106), (by first | rfl | (simp; done) | (simp [*]; done)), H', ⟨by have := HK1.out; first | omega | exact zlr _⟩, ⟨by (with_reducible repeat (first | refine zkn ?_ _ | refine zkd ?_ | refine zka ?_ _)); exact BK102.out⟩, ⟨by repeat (first | (with_reducible first | exact HB.out | apply zba | apply zbn | apply zbd | refine zaa ?_ GE102.out) | exact HB.out)⟩⟩
 clear HC5
 try clear p1
 try clear q1
 try clear hx1
 try clear c2
 try clear c2b0
 try clear p2
 try clear c3
 try clear c3b0
 try clear c4
 try clear c4b0
 try clear c8
 try clear c8b0
 try clear c9
 try clear p10
 try clear q10
 try clear hx10
 try clear hcz10_0
 try clear hcz10_1
 try clear hcz10_2
 try clear hcz10_3
 try clear hcz10_4
 try clear hcz13_0
 try clear hcz13_1
 try clear hcz13_2
 try clear hcz13_3
 try clear hcz13_4
 try clear hcz15_0
 try clear hcz15_1
 try clear hcz15_2
 try clear hcz15_3
 try clear hcz15_4
 try clear hcz7_0
 try clear hcz7_1
 try clear hcz7_2
 try clear hcz7_3
 try clear hcz7_4
 try clear hfz10_0
 try clear hfz10_1
 try clear hfz10_2
 try clear hfz10_3
 try clear hfz10_4
 try clear hfz13_0
 try clear hfz13_1
 try clear hfz13_2
 try clear hfz13_3
 try clear hfz13_4
 try clear hfz15_0
 try clear hfz15_1
 try clear hfz15_2
 try clear hfz15_3
 try clear hfz15_4
 try clear hfz7_0
 try clear hfz7_1
 try clear hfz7_2
 try clear hfz7_3
 try clear hfz7_4
 try clear hx101_0
 try clear hx101_1
 try clear hx101_2
 try clear hx101_3
 try clear hx101_4
 try clear p101
 try clear q101
 obtain ⟨kq, x23_4, rfl, HA, HJ4, BK102, HB⟩ := hcut
 cases kq with
 | zero => exact absurd HA.out (by simp [zce])
 | succ kj4 =>
 have H := HA.out
 clear HA
 simp only [zce] at H
 by_cases c16 : x23_4 = true
 · subst c16
   replace H : (some true) = some r := by rw [if_pos rfl] at H; exact H
   obtain rfl := zsi H
   go_wp2
   go_ret
   exact ⟨by first | rfl | (simp <;> rfl) | (simp [*] <;> rfl), by repeat (first | (with_reducible first | exact HB.out | apply zba | apply zbn | apply zbd | refine zaa ?_ GE102.out) | exact HB.out)⟩
 replace c16 := zbf c16
 subst c16
 replace H : (za2 kj4 l0 x8_1 0 l0 (l0.length : Int) x8_1) = some r := by rw [if_neg (show ¬ (false = true) by decide)] at H; exact H
 have H' := zA H
 clear H
 go_wp2
 go_loopg [5] kj4 (fun kq v5 w' => ∃ (x5_3 : Int), v5 = .int .i64 x5_3 ∧ Aside0 (za2 kq l0 x8_1 x5_3 l0 (l0.length : Int) x8_1 = some r) ∧ Aside0 (kq ≤ kj4) ∧ Aside0 (w'.heap[gb102]? = some (.cells #[.string ((zab l0 x8_1).f0), .int .i64 ((zab l0 x8_1).f1), .int .i64 ((zab l0 x8_1).f2), .int .i64 ((zab l0 x8_1).f3), .int .i64 ((zab l0 x8_1).f4)] 102 (0, 0))) ∧ Aside0 (Below w.heap.size w w'))
 case atStart => exact ⟨(0), (by first | rfl | (simp; done) | (simp [*]; done)), H', ⟨zlr _⟩, ⟨by (with_reducible repeat (first | refine zkn ?_ _ | refine zkd ?_ | refine zka ?_ _)); exact BK102.out⟩, ⟨by repeat (first | (with_reducible first | exact HB.out | apply zba | apply zbn | apply zbd | refine zaa ?_ GE102.out) | exact HB.out)⟩⟩
 clear H'
 try clear c1
 try clear p1
 try clear q1
 try clear hx1
 try clear c2
 try clear c2b0
 try clear p2
 try clear c3
 try clear c3b0
 try clear c4
 try clear c4b0
 try clear c8
 try clear c8b0
 try clear c9
 try clear p10
 try clear q10
 try clear hx10
 try clear c16
 try clear hcz10_0
 try clear hcz10_1
 try clear hcz10_2
 try clear hcz10_3
 try clear hcz10_4
 try clear hcz13_0
 try clear hcz13_1
 try clear hcz13_2
 try clear hcz13_3
 try clear hcz13_4
 try clear hcz15_0
 try clear hcz15_1
 try clear hcz15_2
 try clear hcz15_3
 try clear hcz15_4
 try clear hcz7_0
 try clear hcz7_1
 try clear hcz7_2
 try clear hcz7_3
 try clear hcz7_4
 try clear hfz10_0
 try clear hfz10_1
 try clear hfz10_2
 try clear hfz10_3
 try clear hfz10_4
 try clear hfz13_0
 try clear hfz13_1
 try clear hfz13_2
 try clear hfz13_3
 try clear hfz13_4
 try clear hfz15_0
 try clear hfz15_1
 try clear hfz15_2
 try clear hfz15_3
 try clear hfz15_4
 try clear hfz7_0
 try clear hfz7_1
 try clear hfz7_2
 try clear hfz7_3
 try clear hfz7_4
 try clear hx101_0
 try clear hx101_1
 try clear hx101_2
 try clear hx101_3
 try clear hx101_4
 try clear p1
 try clear p10
 try clear p101
 try clear p2
 try clear q1
 try clear q10
 try clear q101
 obtain ⟨x5_3, rfl, HA, HK3, BK102, HB⟩ := hrel
 cases gk with
 | zero => exact absurd HA.out (by simp [za2])
 | succ k3 =>
 have H := HA.out
 clear HA
 simp only [za2] at H
 by_cases c17 : x5_3 < (wrap64 (2 + x8_1))
 rotate_left
 · rw [if_neg c17] at H
   have c17b0 : decide (x5_3 < (wrap64 (2 + x8_1))) = false := zdf c17
   clear c17
   have H' := zA H
   clear H
   go_wp2
   go_roundg k3
   case measure => have := HK1.out; have := HJ4.out; have := HK3.out; omega
   case rel => exact ⟨(wrap64 (x8_1 + 1)), (by first | rfl | (simp; done) | (simp [*]; done)), H', ⟨by have := HK1.out; have := HJ4.out; have := HK3.out; omega⟩, ⟨by repeat (first | (with_reducible first | exact HB.out | apply zba | apply zbn | apply zbd | refine zaa ?_ GE102.out) | exact HB.out)⟩⟩
 rw [if_pos c17] at H
 have c17b0 : decide (x5_3 < (wrap64 (2 + x8_1))) = true := zdt c17
 clear c17
 by_cases c18 : x5_3 = 1
 rotate_left
 · rw [if_neg c18] at H
   have c18b0 : (x5_3 == 1) = false := beq_eq_false_iff_ne.mpr c18
   have c18b1 : (x5_3 != 1) = true := bne_iff_ne.mpr c18
   obtain ⟨ji29, hji29⟩ : ∃ j_ : Int, (wrap64 (x8_1 + 1)) = j_ := ⟨_, rfl⟩
   replace H : (if 0 ≤ (ji29) then (if (ji29) ≤ (l0.length : Int) then ((zdd k3 (l0.take ((ji29) : Int).toNat) (wrap64 (2 + x8_1)) x5_3).bind fun t116 => (if t116 = true then (some true) else (za2 k3 l0 x8_1 (wrap64 (x5_3 + 1)) l0 (l0.length : Int) x8_1))) else (none)) else (none)) = some r := by first | (rw [hji29] at H; exact H) | (simp only [hji29] at H ⊢; exact H)
   have hji29w : (IntKind.i64.wrap (x8_1 + 1)) = ji29 := (za5 _).trans hji29
   by_cases c30 : 0 ≤ (ji29)
   rotate_left
   · rw [if_neg c30] at H
     exact absurd H (by simp)
   rw [if_pos c30] at H
   have c30b0 := eq_true c30
   have c30b1 : decide (0 ≤ (ji29)) = true := zdt c30
   clear c30
   by_cases c31 : (ji29) ≤ (l0.length : Int)
   rotate_left
   · rw [if_neg c31] at H
     exact absurd H (by simp)
   rw [if_pos c31] at H
   have c31b0 := eq_true c31
   have c31b1 : decide ((ji29) ≤ (l0.length : Int)) = true := zdt c31
   clear c31
   obtain ⟨y112, hy112⟩ : ∃ y_ : List (S102), y_ = (l0.take ((ji29) : Int).toNat) := ⟨_, rfl⟩
   replace H : ((zdd k3 y112 (wrap64 (2 + x8_1)) x5_3).bind fun t116 => (if t116 = true then (some true) else (za2 k3 l0 x8_1 (wrap64 (x5_3 + 1)) l0 (l0.length : Int) x8_1))) = some r := by first | (rw [hy112]; with_reducible exact H) | (have H2_ := (Option.bind_some _ _).symm.trans H; rw [hy112]; with_reducible exact H2_) | (have H2_ := (Option.bind_some _ _).symm.trans H; with_reducible exact H2_) | with_reducible exact H | (rw [hy112]; exact H) | exact H
   have Ny112 := zA hy112
   clear hy112
   replace H := zob H
   obtain ⟨t116, A320, H⟩ := H
   replace H : (if t116 = true then (some true) else (za2 k3 l0 x8_1 (wrap64 (x5_3 + 1)) l0 (l0.length : Int) x8_1)) = some r := H
   have A32 := zA A320
   clear A320
   by_cases c33 : t116 = true
   · subst c33
     replace H : (some true) = some r := by rw [if_pos rfl] at H; exact H
     obtain rfl := zsi H
     have q34 : ((ji29) : Int) ≤ ((l0.length : Int) : Int) := zde (by assumption)
     obtain ⟨i034, hi034, _, hsz34, _⟩ := info_parts zkv
     have hroom34 : l0.length ≤ c0 := HC0.out
     have hC34 : Kd.C k102 _ (some ad101) l0.length l0 := HR0.out
     have hcut34 := znu (P := Try.prog) 46 102 .i64 Try.underlying46 hi034 (some ad101) l0.length c0 (ji29) (zde (by assumption)) q34 hroom34
     have hr34 := Kd.C_take (m := ((ji29) : Int).toNat) hC34 (by omega)
     have hy34 : y112.length = ((ji29) : Int).toNat := (by rw [Ny112.out, zlh]; omega)
     rw [← Ny112.out] at hr34
     rw [← hy34] at hcut34
     have HR115 := zA hr34
     have HC115 := zA (show y112.length ≤ c0 from by omega)
     clear hr34 hC34 hroom34 hi034 hsz34
     have KY34 := zA hy34
     clear hy34
     replace q34 := eq_true q34
     go_wp2_with (first | (go_at_call 158; (with_reducible refine (zfs k3 _ _ y112 (wrap64 (2 + x8_1)) x5_3 true _ ?side1 ?side2 A32.out).mono ?_); (case side1 => repeat (first | exact (zCb HR115.out HB.out) | (with_reducible first | refine zCa ?_ _ | refine zCn ?_ _ | refine zCd ?_))); (case side2 => exact HC115.out); rintro e w35 ⟨rfl, hb⟩; have n0_ := zA (zac (g := gb102) (o := .cells #[.string ((zab l0 x8_1).f0), .int .i64 ((zab l0 x8_1).f1), .int .i64 ((zab l0 x8_1).f2), .int .i64 ((zab l0 x8_1).f3), .int .i64 ((zab l0 x8_1).f4)] 102 (0, 0)) (by (with_reducible repeat (first | refine zkn ?_ _ | refine zkd ?_ | refine zka ?_ _)); exact BK102.out) hb); have n1_ := zA (zaf (by repeat (first | (with_reducible first | exact HB.out | apply zba | apply zbn | apply zbd | refine zaa ?_ GE102.out) | exact HB.out)) hb); clear BK102 HB; have BK102 := n0_; have HB := n1_; clear n0_ n1_; (try clear hb)))
     go_ret
     exact ⟨by first | rfl | (simp [zgm, zgn] <;> rfl) | (simp only [← hji29]; first | rfl | (simp [zgm, zgn] <;> rfl)) | (simp [*, zgm, zgn] <;> rfl), by repeat (first | (with_reducible first | exact HB.out | apply zba | apply zbn | apply zbd | refine zaa ?_ GE102.out) | exact HB.out)⟩
   replace c33 := zbf c33
   subst c33
   replace H : (za2 k3 l0 x8_1 (wrap64 (x5_3 + 1)) l0 (l0.length : Int) x8_1) = some r := by rw [if_neg (show ¬ (false = true) by decide)] at H; exact H
   have H' := zA H
   clear H
   have q36 : ((ji29) : Int) ≤ ((l0.length : Int) : Int) := zde (by assumption)
   obtain ⟨i036, hi036, _, hsz36, _⟩ := info_parts zkv
   have hroom36 : l0.length ≤ c0 := HC0.out
   have hC36 : Kd.C k102 _ (some ad101) l0.length l0 := HR0.out
   have hcut36 := znu (P := Try.prog) 46 102 .i64 Try.underlying46 hi036 (some ad101) l0.length c0 (ji29) (zde (by assumption)) q36 hroom36
   have hr36 := Kd.C_take (m := ((ji29) : Int).toNat) hC36 (by omega)
   have hy36 : y112.length = ((ji29) : Int).toNat := (by rw [Ny112.out, zlh]; omega)
   rw [← Ny112.out] at hr36
   rw [← hy36] at hcut36
   have HR115 := zA hr36
   have HC115 := zA (show y112.length ≤ c0 from by omega)
   clear hr36 hC36 hroom36 hi036 hsz36
   have KY36 := zA hy36
   clear hy36
   replace q36 := eq_true q36
   go_wp2_with (first | (go_at_call 158; (with_reducible refine (zfs k3 _ _ y112 (wrap64 (2 + x8_1)) x5_3 false _ ?side1 ?side2 A32.out).mono ?_); (case side1 => repeat (first | exact (zCb HR115.out HB.out) | (with_reducible first | refine zCa ?_ _ | refine zCn ?_ _ | refine zCd ?_))); (case side2 => exact HC115.out); rintro e w37 ⟨rfl, hb⟩; have n0_ := zA (zac (g := gb102) (o := .cells #[.string ((zab l0 x8_1).f0), .int .i64 ((zab l0 x8_1).f1), .int .i64 ((zab l0 x8_1).f2), .int .i64 ((zab l0 x8_1).f3), .int .i64 ((zab l0 x8_1).f4)] 102 (0, 0)) (by (with_reducible repeat (first | refine zkn ?_ _ | refine zkd ?_ | refine zka ?_ _)); exact BK102.out) hb); have n1_ := zA (zaf (by repeat (first | (with_reducible first | exact HB.out | apply zba | apply zbn | apply zbd | refine zaa ?_ GE102.out) | exact HB.out)) hb); clear BK102 HB; have BK102 := n0_; have HB := n1_; clear n0_ n1_; (try clear hb)))
   go_roundg k3
   case measure => have := HK1.out; have := HJ4.out; have := HK3.out; omega
   case rel => exact ⟨(wrap64 (x5_3 + 1)), (by first | rfl | (simp; done) | (simp [*]; done)), H', ⟨by have := HK1.out; have := HJ4.out; have := HK3.out; omega⟩, ⟨by (with_reducible repeat (first | refine zkn ?_ _ | refine zkd ?_ | refine zka ?_ _)); exact BK102.out⟩, ⟨by repeat (first | (with_reducible first | exact HB.out | apply zba | apply zbn | apply zbd | refine zaa ?_ GE102.out) | exact HB.out)⟩⟩
 rw [if_pos c18] at H
 have c18b0 : (x5_3 == 1) = true := beq_iff_eq.mpr c18
 have c18b1 : (x5_3 != 1) = false := bne_eq_false_iff_eq.mpr c18
 clear c18
 by_cases c19 : (wrap64 (x8_1 + 1)) < (l0.length : Int)
 rotate_left
 · rw [if_neg c19] at H
   have c19b0 : decide ((wrap64 (x8_1 + 1)) < (l0.length : Int)) = false := zdf c19
   clear c19
   have H' := zA H
   clear H
   go_wp2
   go_roundg k3
   case measure => have := HK1.out; have := HJ4.out; have := HK3.out; omega
   case rel => exact ⟨(wrap64 (x5_3 + 1)), (by first | rfl | (simp; done) | (simp [*]; done)), H', ⟨by have := HK1.out; have := HJ4.out; have := HK3.out; omega⟩, ⟨by (with_reducible repeat (first | refine zkn ?_ _ | refine zkd ?_ | refine zka ?_ _)); exact BK102.out⟩, ⟨by repeat (first | (with_reducible first | exact HB.out | apply zba | apply zbn | apply zbd | refine zaa ?_ GE102.out) | exact HB.out)⟩⟩
 rw [if_pos c19] at H
 have c19b0 : decide ((wrap64 (x8_1 + 1)) < (l0.length : Int)) = true := zdt c19
 clear c19
 obtain ⟨ji20, hji20⟩ : ∃ j_ : Int, (wrap64 (x8_1 + 1)) = j_ := ⟨_, rfl⟩
 replace H : (if 0 ≤ (ji20) then (if (ji20) ≤ (l0.length : Int) then ((zdd k3 (l0.take ((ji20) : Int).toNat) (wrap64 (2 + x8_1)) x5_3).bind fun t111 => (if t111 = true then (some true) else (za2 k3 l0 x8_1 (wrap64 (x5_3 + 1)) l0 (l0.length : Int) x8_1))) else (none)) else (none)) = some r := by first | (rw [hji20] at H; exact H) | (simp only [hji20] at H ⊢; exact H)
 (try rw [hji20] at c19b0)
 have hji20w : (IntKind.i64.wrap (x8_1 + 1)) = ji20 := (za5 _).trans hji20
 by_cases c21 : 0 ≤ (ji20)
 rotate_left
 · rw [if_neg c21] at H
   exact absurd H (by simp)
 rw [if_pos c21] at H
 have c21b0 := eq_true c21
 have c21b1 : decide (0 ≤ (ji20)) = true := zdt c21
 clear c21
 by_cases c22 : (ji20) ≤ (l0.length : Int)
 rotate_left
 · rw [if_neg c22] at H
   exact absurd H (by simp)
 rw [if_pos c22] at H
 have c22b0 := eq_true c22
 have c22b1 : decide ((ji20) ≤ (l0.length : Int)) = true := zdt c22
 clear c22
 obtain ⟨y107, hy107⟩ : ∃ y_ : List (S102), y_ = (l0.take ((ji20) : Int).toNat) := ⟨_, rfl⟩
 replace H : ((zdd k3 y107 (wrap64 (2 + x8_1)) x5_3).bind fun t111 => (if t111 = true then (some true) else (za2 k3 l0 x8_1 (wrap64 (x5_3 + 1)) l0 (l0.length : Int) x8_1))) = some r := by first | (rw [hy107]; with_reducible exact H) | (have H2_ := (Option.bind_some _ _).symm.trans H; rw [hy107]; with_reducible exact H2_) | (have H2_ := (Option.bind_some _ _).symm.trans H; with_reducible exact H2_) | with_reducible exact H | (rw [hy107]; exact H) | exact H
 have Ny107 := zA hy107
 clear hy107
 replace H := zob H
 obtain ⟨t111, A230, H⟩ := H
 replace H : (if t111 = true then (some true) else (za2 k3 l0 x8_1 (wrap64 (x5_3 + 1)) l0 (l0.length : Int) x8_1)) = some r := H
 have A23 := zA A230
 clear A230
 by_cases c24 : t111 = true
 · subst c24
   replace H : (some true) = some r := by rw [if_pos rfl] at H; exact H
   obtain rfl := zsi H
   have q25 : ((ji20) : Int) ≤ ((l0.length : Int) : Int) := zde (by assumption)
   obtain ⟨i025, hi025, _, hsz25, _⟩ := info_parts zkv
   have hroom25 : l0.length ≤ c0 := HC0.out
   have hC25 : Kd.C k102 _ (some ad101) l0.length l0 := HR0.out
   have hcut25 := znu (P := Try.prog) 46 102 .i64 Try.underlying46 hi025 (some ad101) l0.length c0 (ji20) (zde (by assumption)) q25 hroom25
   have hr25 := Kd.C_take (m := ((ji20) : Int).toNat) hC25 (by omega)
   have hy25 : y107.length = ((ji20) : Int).toNat := (by rw [Ny107.out, zlh]; omega)
   rw [← Ny107.out] at hr25
   rw [← hy25] at hcut25
   have HR110 := zA hr25
   have HC110 := zA (show y107.length ≤ c0 from by omega)
   clear hr25 hC25 hroom25 hi025 hsz25
   have KY25 := zA hy25
   clear hy25
   replace q25 := eq_true q25
   go_wp2_with (first | (go_at_call 158; (with_reducible refine (zfs k3 _ _ y107 (wrap64 (2 + x8_1)) x5_3 true _ ?side1 ?side2 A23.out).mono ?_); (case side1 => repeat (first | exact (zCb HR110.out HB.out) | (with_reducible first | refine zCa ?_ _ | refine zCn ?_ _ | refine zCd ?_))); (case side2 => exact HC110.out); rintro e w26 ⟨rfl, hb⟩; have n0_ := zA (zac (g := gb102) (o := .cells #[.string ((zab l0 x8_1).f0), .int .i64 ((zab l0 x8_1).f1), .int .i64 ((zab l0 x8_1).f2), .int .i64 ((zab l0 x8_1).f3), .int .i64 ((zab l0 x8_1).f4)] 102 (0, 0)) (by (with_reducible repeat (first | refine zkn ?_ _ | refine zkd ?_ | refine zka ?_ _)); exact BK102.out) hb); have n1_ := zA (zaf (by repeat (first | (with_reducible first | exact HB.out | apply zba | apply zbn | apply zbd | refine zaa ?_ GE102.out) | exact HB.out)) hb); clear BK102 HB; have BK102 := n0_; have HB := n1_; clear n0_ n1_; (try clear hb)))
   go_ret
   exact ⟨by first | rfl | (simp [zgm, zgn] <;> rfl) | (simp only [← hji20]; first | rfl | (simp [zgm, zgn] <;> rfl)) | (simp [*, zgm, zgn] <;> rfl), by repeat (first | (with_reducible first | exact HB.out | apply zba | apply zbn | apply zbd | refine zaa ?_ GE102.out) | exact HB.out)⟩
 replace c24 := zbf c24
 subst c24
 replace H : (za2 k3 l0 x8_1 (wrap64 (x5_3 + 1)) l0 (l0.length : Int) x8_1) = some r := by rw [if_neg (show ¬ (false = true) by decide)] at H; exact H
 have H' := zA H
 clear H
 have q27 : ((ji20) : Int) ≤ ((l0.length : Int) : Int) := zde (by assumption)
 obtain ⟨i027, hi027, _, hsz27, _⟩ := info_parts zkv
 have hroom27 : l0.length ≤ c0 := HC0.out
 have hC27 : Kd.C k102 _ (some ad101) l0.length l0 := HR0.out
 have hcut27 := znu (P := Try.prog) 46 102 .i64 Try.underlying46 hi027 (some ad101) l0.length c0 (ji20) (zde (by assumption)) q27 hroom27
 have hr27 := Kd.C_take (m := ((ji20) : Int).toNat) hC27 (by omega)
 have hy27 : y107.length = ((ji20) : Int).toNat := (by rw [Ny107.out, zlh]; omega)
 rw [← Ny107.out] at hr27
 rw [← hy27] at hcut27
 have HR110 := zA hr27
 have HC110 := zA (show y107.length ≤ c0 from by omega)
 clear hr27 hC27 hroom27 hi027 hsz27
 have KY27 := zA hy27
 clear hy27
 replace q27 := eq_true q27
 go_wp2_with (first | (go_at_call 158; (with_reducible refine (zfs k3 _ _ y107 (wrap64 (2 + x8_1)) x5_3 false _ ?side1 ?side2 A23.out).mono ?_); (case side1 => repeat (first | exact (zCb HR110.out HB.out) | (with_reducible first | refine zCa ?_ _ | refine zCn ?_ _ | refine zCd ?_))); (case side2 => exact HC110.out); rintro e w28 ⟨rfl, hb⟩; have n0_ := zA (zac (g := gb102) (o := .cells #[.string ((zab l0 x8_1).f0), .int .i64 ((zab l0 x8_1).f1), .int .i64 ((zab l0 x8_1).f2), .int .i64 ((zab l0 x8_1).f3), .int .i64 ((zab l0 x8_1).f4)] 102 (0, 0)) (by (with_reducible repeat (first | refine zkn ?_ _ | refine zkd ?_ | refine zka ?_ _)); exact BK102.out) hb); have n1_ := zA (zaf (by repeat (first | (with_reducible first | exact HB.out | apply zba | apply zbn | apply zbd | refine zaa ?_ GE102.out) | exact HB.out)) hb); clear BK102 HB; have BK102 := n0_; have HB := n1_; clear n0_ n1_; (try clear hb)))
 go_roundg k3
 case measure => have := HK1.out; have := HJ4.out; have := HK3.out; omega
 case rel => exact ⟨(wrap64 (x5_3 + 1)), (by first | rfl | (simp; done) | (simp [*]; done)), H', ⟨by have := HK1.out; have := HJ4.out; have := HK3.out; omega⟩, ⟨by (with_reducible repeat (first | refine zkn ?_ _ | refine zkd ?_ | refine zka ?_ _)); exact BK102.out⟩, ⟨by repeat (first | (with_reducible first | exact HB.out | apply zba | apply zbn | apply zbd | refine zaa ?_ GE102.out) | exact HB.out)⟩⟩
end Go.Proofs.Ytccoiifklcgodaa.Q
end
section
namespace Go.Proofs.Ytccoiifklcgodaa.Q
open Go.RowKit Go.Proofs.YtccoiifklcgodaaW.PrintWords Go.Proofs.YtccoiifklcgodaaW.PrintLast Go.Proofs.YtccoiifklcgodaaW.PrintMore
attribute [local go_sem] zc7 zc8 zd6 zd7 zcc zcd zc9 zda
set_option linter.unusedVariables false
set_option linter.unusedSimpArgs false
def zc4 (k : Nat) (l0_0 : List ByteArray) (l0_1 : List Int) (l1 : List (S102)) : Option (Bool × Bool) := (ze4 k l0_0 l0_1).bind fun t102 => (if t102 = true then ((ze7 k l0_0 l0_1 l1).bind fun t103 => (if t103 = true then ((zc3 k l1).bind fun t104 => (some (t104, true))) else (some (false, false)))) else (some (false, false)))
theorem zi2 : ∀ a0 a1 a2 k, LeO (zc4 k a0 a1 a2) (zc4 (k + 1) a0 a1 a2) := by
 intro a0 a1 a2 k
 unfold zc4
 repeat' first
     | (with_reducible first | exact zmo _ _ _ | exact znb _ _ _ _ | exact zlq _ _ | exact LeO.refl _ | exact LeO.none _ | refine zae ?_ ?_ | refine LeO.bind ?_ (fun _ => ?_))
     | exact LeO.none _
     | refine zae ?_ ?_
     | refine LeO.bind ?_ (fun _ => ?_)
set_option maxHeartbeats 8000000 in
set_option maxRecDepth 100000 in
theorem zk6 (k : Nat) (A0_0 : Option Addr) (c0_0 : Nat) (l0_0 : List ByteArray) (A0_1 : Option Addr) (c0_1 : Nat) (l0_1 : List Int) (A1 : Option Addr) (c1 : Nat) (l1 : List (S102)) (r1 : Bool) (r2 : Bool) (w : World) (hr0_0 : Kd.C Kd.string w A0_0 l0_0.length l0_0) (hc0_0 : l0_0.length ≤ c0_0) (hr0_1 : Kd.C (Kd.int .i64) w A0_1 l0_1.length l0_1) (hc0_1 : l0_1.length ≤ c0_1) (hr1 : Kd.C k102 w A1 l1.length l1) (hc1 : l1.length ≤ c1) (h : zc4 k l0_0 l0_1 l1 = some (r1, r2)) :
   Calls Try.prog 42 #[.agg #[.slice A0_0 l0_0.length c0_0, .slice A0_1 l0_1.length c0_1], .slice A1 l1.length c1] w fun e w' => e = .returned (.tuple #[.bool r1, .bool r2]) ∧ Below w.heap.size w w' := by
 have hu62 := Try.underlying62
 have HR0_0 := zA hr0_0
 have HC0_0 := zA hc0_0
 clear hr0_0 hc0_0
 have HR0_1 := zA hr0_1
 have HC0_1 := zA hc0_1
 clear hr0_1 hc0_1
 have HR1 := zA hr1
 have HC1 := zA hc1
 clear hr1 hc1
 have HB := zA (Below.refl w.heap.size w)
 have H : ((ze4 k l0_0 l0_1).bind fun t102 => (if t102 = true then ((ze7 k l0_0 l0_1 l1).bind fun t103 => (if t103 = true then ((zc3 k l1).bind fun t104 => (some (t104, true))) else (some (false, false)))) else (some (false, false)))) = some (r1, r2) := h
 clear h
 replace H := zob H
 obtain ⟨t102, A30, H⟩ := H
 replace H : (if t102 = true then ((ze7 k l0_0 l0_1 l1).bind fun t103 => (if t103 = true then ((zc3 k l1).bind fun t104 => (some (t104, true))) else (some (false, false)))) else (some (false, false))) = some (r1, r2) := H
 have A3 := zA A30
 clear A30
 by_cases c4 : t102 = true
 rotate_left
 · replace c4 := zbf c4
   subst c4
   replace H : (some (false, false)) = some (r1, r2) := by rw [if_neg (show ¬ (false = true) by decide)] at H; exact H
   simp only [Option.some.injEq, Prod.mk.injEq] at H
   obtain ⟨rfl, rfl⟩ := H
   go_enter Try.func42, Try.ntmps42
   go_wp2_with (first | ((with_reducible refine zaj (N := 2) rfl ?_); refine zai ?hg (N := 2) ?hd (cs := #[.slice A0_0 l0_0.length c0_0, .slice A0_1 l0_1.length c0_1]) (t := 62) ?hr ?_; (case hd => rfl); (case hg => rfl); (case hr => go_simp <;> rfl); intro gb101 hg w19 hbox hb; have zs := zpair (by repeat (first | (with_reducible first | exact HB.out | apply zba | apply zbn | apply zbd) | exact HB.out)) hb; have n0_ := zA (zs.1); have n1_ := zA (hbox); have n2_ := zA ((by rw [hg]; exact zs.2 : w.heap.size ≤ gb101)); have n3_ := n2_; clear HB; have HB := n0_; have BK101 := n1_; have GW101 := n2_; have GE101 := n3_; clear n0_ n1_ n2_ n3_; clear zs hb hbox hg; obtain ⟨hcz20_0, hcz20_1⟩ := zc2 w19 (.slice A0_0 l0_0.length c0_0) (.slice A0_1 l0_1.length c0_1) BK101.out; obtain ⟨hfz20_0, hfz20_1⟩ := zf2 BK101.out) | ((with_reducible refine zag (f := 93) rfl ?_); refine za9 (some 7) rfl rfl Try.func93 (by kernel_rfl) rfl #[.agg #[.slice A0_0 l0_0.length c0_0, .slice A0_1 l0_1.length c0_1]] rfl (by first | rfl | (simp only [zld, zle, zlf, zlg, zlh] <;> rfl)) ?_; (with_reducible refine (zgz k _ _ l0_0 _ _ l0_1 false _ ?side1 ?side2 ?side3 ?side4 A3.out).mono ?_); (case side1 => repeat (first | exact (zCb HR0_0.out HB.out) | (with_reducible first | refine zCa ?_ _ | refine zCn ?_ _ | refine zCd ?_))); (case side2 => exact HC0_0.out); (case side3 => repeat (first | exact (zCb HR0_1.out HB.out) | (with_reducible first | refine zCa ?_ _ | refine zCn ?_ _ | refine zCd ?_))); (case side4 => exact HC0_1.out); rintro e w21 ⟨rfl, hb⟩; refine ⟨_, rfl, ?_⟩; have n0_ := zA (zac (g := gb101) (o := .cells #[.slice A0_0 l0_0.length c0_0, .slice A0_1 l0_1.length c0_1] 62 (0, 0)) (by (with_reducible repeat (first | refine zkn ?_ _ | refine zkd ?_ | refine zka ?_ _)); exact BK101.out) hb); have n1_ := zA (zaf (by repeat (first | (with_reducible first | exact HB.out | apply zba | apply zbn | apply zbd | refine zaa ?_ GE101.out) | exact HB.out)) hb); clear BK101 HB; have BK101 := n0_; have HB := n1_; clear n0_ n1_; (try clear hb)))
   go_ret2
   exact ⟨by first | rfl | (simp <;> rfl) | (simp [*] <;> rfl), by repeat (first | (with_reducible first | exact HB.out | apply zba | apply zbn | apply zbd | refine zaa ?_ GE101.out) | exact HB.out)⟩
 subst c4
 replace H : ((ze7 k l0_0 l0_1 l1).bind fun t103 => (if t103 = true then ((zc3 k l1).bind fun t104 => (some (t104, true))) else (some (false, false)))) = some (r1, r2) := by rw [if_pos rfl] at H; exact H
 replace H := zob H
 obtain ⟨t103, A50, H⟩ := H
 replace H : (if t103 = true then ((zc3 k l1).bind fun t104 => (some (t104, true))) else (some (false, false))) = some (r1, r2) := H
 have A5 := zA A50
 clear A50
 by_cases c6 : t103 = true
 rotate_left
 · replace c6 := zbf c6
   subst c6
   replace H : (some (false, false)) = some (r1, r2) := by rw [if_neg (show ¬ (false = true) by decide)] at H; exact H
   simp only [Option.some.injEq, Prod.mk.injEq] at H
   obtain ⟨rfl, rfl⟩ := H
   go_enter Try.func42, Try.ntmps42
   go_wp2_with (first | ((with_reducible refine zaj (N := 2) rfl ?_); refine zai ?hg (N := 2) ?hd (cs := #[.slice A0_0 l0_0.length c0_0, .slice A0_1 l0_1.length c0_1]) (t := 62) ?hr ?_; (case hd => rfl); (case hg => rfl); (case hr => go_simp <;> rfl); intro gb101 hg w14 hbox hb; have zs := zpair (by repeat (first | (with_reducible first | exact HB.out | apply zba | apply zbn | apply zbd) | exact HB.out)) hb; have n0_ := zA (zs.1); have n1_ := zA (hbox); have n2_ := zA ((by rw [hg]; exact zs.2 : w.heap.size ≤ gb101)); have n3_ := n2_; clear HB; have HB := n0_; have BK101 := n1_; have GW101 := n2_; have GE101 := n3_; clear n0_ n1_ n2_ n3_; clear zs hb hbox hg; obtain ⟨hcz15_0, hcz15_1⟩ := zc2 w14 (.slice A0_0 l0_0.length c0_0) (.slice A0_1 l0_1.length c0_1) BK101.out; obtain ⟨hfz15_0, hfz15_1⟩ := zf2 BK101.out) | ((with_reducible refine zag (f := 93) rfl ?_); refine za9 (some 7) rfl rfl Try.func93 (by kernel_rfl) rfl #[.agg #[.slice A0_0 l0_0.length c0_0, .slice A0_1 l0_1.length c0_1]] rfl (by first | rfl | (simp only [zld, zle, zlf, zlg, zlh] <;> rfl)) ?_; (with_reducible refine (zgz k _ _ l0_0 _ _ l0_1 true _ ?side1 ?side2 ?side3 ?side4 A3.out).mono ?_); (case side1 => repeat (first | exact (zCb HR0_0.out HB.out) | (with_reducible first | refine zCa ?_ _ | refine zCn ?_ _ | refine zCd ?_))); (case side2 => exact HC0_0.out); (case side3 => repeat (first | exact (zCb HR0_1.out HB.out) | (with_reducible first | refine zCa ?_ _ | refine zCn ?_ _ | refine zCd ?_))); (case side4 => exact HC0_1.out); rintro e w16 ⟨rfl, hb⟩; refine ⟨_, rfl, ?_⟩; have n0_ := zA (zac (g := gb101) (o := .cells #[.slice A0_0 l0_0.length c0_0, .slice A0_1 l0_1.length c0_1] 62 (0, 0)) (by (with_reducible repeat (first | refine zkn ?_ _ | refine zkd ?_ | refine zka ?_ _)); exact BK101.out) hb); have n1_ := zA (zaf (by repeat (first | (with_reducible first | exact HB.out | apply zba | apply zbn | apply zbd | refine zaa ?_ GE101.out) | exact HB.out)) hb); clear BK101 HB; have BK101 := n0_; have HB := n1_; clear n0_ n1_; (try clear hb); obtain ⟨hcz17_0, hcz17_1⟩ := zc2 w16 (.slice A0_0 l0_0.length c0_0) (.slice A0_1 l0_1.length c0_1) BK101.out; obtain ⟨hfz17_0, hfz17_1⟩ := zf2 BK101.out) | (go_at_call 94; (with_reducible refine (zkb k _ _ l0_0 _ _ l0_1 _ _ l1 false _ ?side1 ?side2 ?side3 ?side4 ?side5 ?side6 A5.out).mono ?_); (case side1 => repeat (first | exact (zCb HR0_0.out HB.out) | (with_reducible first | refine zCa ?_ _ | refine zCn ?_ _ | refine zCd ?_))); (case side2 => exact HC0_0.out); (case side3 => repeat (first | exact (zCb HR0_1.out HB.out) | (with_reducible first | refine zCa ?_ _ | refine zCn ?_ _ | refine zCd ?_))); (case side4 => exact HC0_1.out); (case side5 => repeat (first | exact (zCb HR1.out HB.out) | (with_reducible first | refine zCa ?_ _ | refine zCn ?_ _ | refine zCd ?_))); (case side6 => exact HC1.out); rintro e w18 ⟨rfl, hb⟩; have n0_ := zA (zac (g := gb101) (o := .cells #[.slice A0_0 l0_0.length c0_0, .slice A0_1 l0_1.length c0_1] 62 (0, 0)) (by (with_reducible repeat (first | refine zkn ?_ _ | refine zkd ?_ | refine zka ?_ _)); exact BK101.out) hb); have n1_ := zA (zaf (by repeat (first | (with_reducible first | exact HB.out | apply zba | apply zbn | apply zbd | refine zaa ?_ GE101.out) | exact HB.out)) hb); clear BK101 HB; have BK101 := n0_; have HB := n1_; clear n0_ n1_; (try clear hb)))
   go_ret2
   exact ⟨by first | rfl | (simp <;> rfl) | (simp [*] <;> rfl), by repeat (first | (with_reducible first | exact HB.out | apply zba | apply zbn | apply zbd | refine zaa ?_ GE101.out) | exact HB.out)⟩
 subst c6
 replace H : ((zc3 k l1).bind fun t104 => (some (t104, true))) = some (r1, r2) := by rw [if_pos rfl] at H; exact H
 replace H := zob H
 obtain ⟨t104, A70, H⟩ := H
 replace H : (some (t104, true)) = some (r1, r2) := H
 have A7 := zA A70
 clear A70
 simp only [Option.some.injEq, Prod.mk.injEq] at H
 obtain ⟨rfl, rfl⟩ := H
 go_enter Try.func42, Try.ntmps42
 go_wp2_with (first | ((with_reducible refine zaj (N := 2) rfl ?_); refine zai ?hg (N := 2) ?hd (cs := #[.slice A0_0 l0_0.length c0_0, .slice A0_1 l0_1.length c0_1]) (t := 62) ?hr ?_; (case hd => rfl); (case hg => rfl); (case hr => go_simp <;> rfl); intro gb101 hg w8 hbox hb; have zs := zpair (by repeat (first | (with_reducible first | exact HB.out | apply zba | apply zbn | apply zbd) | exact HB.out)) hb; have n0_ := zA (zs.1); have n1_ := zA (hbox); have n2_ := zA ((by rw [hg]; exact zs.2 : w.heap.size ≤ gb101)); have n3_ := n2_; clear HB; have HB := n0_; have BK101 := n1_; have GW101 := n2_; have GE101 := n3_; clear n0_ n1_ n2_ n3_; clear zs hb hbox hg; obtain ⟨hcz9_0, hcz9_1⟩ := zc2 w8 (.slice A0_0 l0_0.length c0_0) (.slice A0_1 l0_1.length c0_1) BK101.out; obtain ⟨hfz9_0, hfz9_1⟩ := zf2 BK101.out) | ((with_reducible refine zag (f := 93) rfl ?_); refine za9 (some 7) rfl rfl Try.func93 (by kernel_rfl) rfl #[.agg #[.slice A0_0 l0_0.length c0_0, .slice A0_1 l0_1.length c0_1]] rfl (by first | rfl | (simp only [zld, zle, zlf, zlg, zlh] <;> rfl)) ?_; (with_reducible refine (zgz k _ _ l0_0 _ _ l0_1 true _ ?side1 ?side2 ?side3 ?side4 A3.out).mono ?_); (case side1 => repeat (first | exact (zCb HR0_0.out HB.out) | (with_reducible first | refine zCa ?_ _ | refine zCn ?_ _ | refine zCd ?_))); (case side2 => exact HC0_0.out); (case side3 => repeat (first | exact (zCb HR0_1.out HB.out) | (with_reducible first | refine zCa ?_ _ | refine zCn ?_ _ | refine zCd ?_))); (case side4 => exact HC0_1.out); rintro e w10 ⟨rfl, hb⟩; refine ⟨_, rfl, ?_⟩; have n0_ := zA (zac (g := gb101) (o := .cells #[.slice A0_0 l0_0.length c0_0, .slice A0_1 l0_1.length c0_1] 62 (0, 0)) (by (with_reducible repeat (first | refine zkn ?_ _ | refine zkd ?_ | refine zka ?_ _)); exact BK101.out) hb); have n1_ := zA (zaf (by repeat (first | (with_reducible first | exact HB.out | apply zba | apply zbn | apply zbd | refine zaa ?_ GE101.out) | exact HB.out)) hb); clear BK101 HB; have BK101 := n0_; have HB := n1_; clear n0_ n1_; (try clear hb); obtain ⟨hcz11_0, hcz11_1⟩ := zc2 w10 (.slice A0_0 l0_0.length c0_0) (.slice A0_1 l0_1.length c0_1) BK101.out; obtain ⟨hfz11_0, hfz11_1⟩ := zf2 BK101.out) | (go_at_call 94; (with_reducible refine (zkb k _ _ l0_0 _ _ l0_1 _ _ l1 true _ ?side1 ?side2 ?side3 ?side4 ?side5 ?side6 A5.out).mono ?_); (case side1 => repeat (first | exact (zCb HR0_0.out HB.out) | (with_reducible first | refine zCa ?_ _ | refine zCn ?_ _ | refine zCd ?_))); (case side2 => exact HC0_0.out); (case side3 => repeat (first | exact (zCb HR0_1.out HB.out) | (with_reducible first | refine zCa ?_ _ | refine zCn ?_ _ | refine zCd ?_))); (case side4 => exact HC0_1.out); (case side5 => repeat (first | exact (zCb HR1.out HB.out) | (with_reducible first | refine zCa ?_ _ | refine zCn ?_ _ | refine zCd ?_))); (case side6 => exact HC1.out); rintro e w12 ⟨rfl, hb⟩; have n0_ := zA (zac (g := gb101) (o := .cells #[.slice A0_0 l0_0.length c0_0, .slice A0_1 l0_1.length c0_1] 62 (0, 0)) (by (with_reducible repeat (first | refine zkn ?_ _ | refine zkd ?_ | refine zka ?_ _)); exact BK101.out) hb); have n1_ := zA (zaf (by repeat (first | (with_reducible first | exact HB.out | apply zba | apply zbn | apply zbd | refine zaa ?_ GE101.out) | exact HB.out)) hb); clear BK101 HB; have BK101 := n0_; have HB := n1_; clear n0_ n1_; (try clear hb)) | ((with_reducible refine zag (f := 95) rfl ?_); refine za9 (some 16) rfl rfl Try.func95 (by kernel_rfl) rfl #[.slice A1 l1.length c1] rfl (by first | rfl | (simp only [zld, zle, zlf, zlg, zlh] <;> rfl)) ?_; (with_reducible refine (zk5 k _ _ l1 t104 _ ?side1 ?side2 A7.out).mono ?_); (case side1 => repeat (first | exact (zCb HR1.out HB.out) | (with_reducible first | refine zCa ?_ _ | refine zCn ?_ _ | refine zCd ?_))); (case side2 => exact HC1.out); rintro e w13 ⟨rfl, hb⟩; refine ⟨_, rfl, ?_⟩; have n0_ := zA (zac (g := gb101) (o := .cells #[.slice A0_0 l0_0.length c0_0, .slice A0_1 l0_1.length c0_1] 62 (0, 0)) (by (with_reducible repeat (first | refine zkn ?_ _ | refine zkd ?_ | refine zka ?_ _)); exact BK101.out) hb); have n1_ := zA (zaf (by repeat (first | (with_reducible first | exact HB.out | apply zba | apply zbn | apply zbd | refine zaa ?_ GE101.out) | exact HB.out)) hb); clear BK101 HB; have BK101 := n0_; have HB := n1_; clear n0_ n1_; (try clear hb)))
 go_ret2
 exact ⟨by first | rfl | (simp <;> rfl) | (simp [*] <;> rfl), by repeat (first | (with_reducible first | exact HB.out | apply zba | apply zbn | apply zbd | refine zaa ?_ GE101.out) | exact HB.out)⟩
def zam : Nat → List (S101) → List (S102) → Bool → List ByteArray → List Int → List ByteArray → List Int → Option (Bool)
 | 0, _, _, _, _, _, _, _ => none
 | k + 1, x1, x9, x47, x102000, x102001, x122000, x122001 => if x47 = true then (some false) else ((zbm k x102000 x102001).bind fun bt127 => ((zeb k x122000 x122001 bt127.1 bt127.2).bind fun t133 => (if t133 = true then ((za7 k x1).bind fun t134 => ((zc0 k x9 t134).bind fun t137 => (if t137 = true then (some true) else (some false)))) else (some false))))
def zcr (k : Nat) (l0_0 : List ByteArray) (l0_1 : List Int) (l1 : List (S101)) : Option (Bool) := (zeo k l0_0 l0_1 1048576).bind fun t102 => (if t102 < 0 then (some true) else ((zdx k l1 t102).bind fun t103 => (if t103 < 0 then (some true) else ((zbm k l0_0 l0_1).bind fun bt104 => ((za7 k l1).bind fun t110 => ((zc4 k bt104.1 bt104.2 t110).bind fun bt113 => ((zbm k l0_0 l0_1).bind fun bt115 => ((za7 k l1).bind fun t122 => ((zb8 k bt115.1 bt115.2 t122).bind fun bt125 => (if (bt125.1 != bt113.1) = true then (zam k l1 t122 true l0_0 l0_1 bt115.1 bt115.2) else (zam k l1 t122 (bt125.2 != bt113.2) l0_0 l0_1 bt115.1 bt115.2)))))))))))
theorem zf1 : ∀ k, (∀ y0 y1 y2 y3 y4 y5 y6, LeO (zam k y0 y1 y2 y3 y4 y5 y6) (zam (k + 1) y0 y1 y2 y3 y4 y5 y6))
 | 0 => fun _ _ _ _ _ _ _ r h => by simp [zam] at h
 | k + 1 => by
   have ih0 := zf1 k
   · intro y0 y1 y2 y3 y4 y5 y6
     unfold zam
     repeat' first
     | (with_reducible first | exact ih0 _ _ _ _ _ _ _ | exact zil _ _ _ _ | exact zin _ _ _ _ _ | exact zip _ _ _ | exact zir _ _ _ _ | exact zit _ _ _ | exact ziv _ _ _ | exact ziw _ _ | exact zi2 _ _ _ _ | exact LeO.refl _ | exact LeO.none _ | refine zae ?_ ?_ | refine LeO.bind ?_ (fun _ => ?_))
     | exact LeO.none _
     | refine zae ?_ ?_
     | refine LeO.bind ?_ (fun _ => ?_)
theorem znd : ∀ a0 a1 a2 k, LeO (zcr k a0 a1 a2) (zcr (k + 1) a0 a1 a2) := by
 intro a0 a1 a2 k
 have ih0 := zf1 k
 unfold zcr
 repeat' first
     | (with_reducible first | exact ih0 _ _ _ _ _ _ _ | exact zil _ _ _ _ | exact zin _ _ _ _ _ | exact zip _ _ _ | exact zir _ _ _ _ | exact zit _ _ _ | exact ziv _ _ _ | exact ziw _ _ | exact zi2 _ _ _ _ | exact LeO.refl _ | exact LeO.none _ | refine zae ?_ ?_ | refine LeO.bind ?_ (fun _ => ?_))
     | exact LeO.none _
     | refine zae ?_ ?_
     | refine LeO.bind ?_ (fun _ => ?_)
set_option maxHeartbeats 8000000 in
set_option maxRecDepth 100000 in
theorem zif (k : Nat) (A0_0 : Option Addr) (c0_0 : Nat) (l0_0 : List ByteArray) (A0_1 : Option Addr) (c0_1 : Nat) (l0_1 : List Int) (A1 : Option Addr) (c1 : Nat) (l1 : List (S101)) (r : Bool) (w : World) (hr0_0 : Kd.C Kd.string w A0_0 l0_0.length l0_0) (hc0_0 : l0_0.length ≤ c0_0) (hr0_1 : Kd.C (Kd.int .i64) w A0_1 l0_1.length l0_1) (hc0_1 : l0_1.length ≤ c0_1) (hr1 : Kd.C k101 w A1 l1.length l1) (hc1 : l1.length ≤ c1) (h : zcr k l0_0 l0_1 l1 = some r) :
   Calls Try.prog 8 #[.agg #[.slice A0_0 l0_0.length c0_0, .slice A0_1 l0_1.length c0_1], .slice A1 l1.length c1] w fun e w' => e = .returned (.bool r) ∧ Below w.heap.size w w' := by
 have hu59 := Try.underlying59
 have hu62 := Try.underlying62
 have HR0_0 := zA hr0_0
 have HC0_0 := zA hc0_0
 clear hr0_0 hc0_0
 have HR0_1 := zA hr0_1
 have HC0_1 := zA hc0_1
 clear hr0_1 hc0_1
 have HR1 := zA hr1
 have HC1 := zA hc1
 clear hr1 hc1
 have HB := zA (Below.refl w.heap.size w)
 have H : ((zeo k l0_0 l0_1 1048576).bind fun t102 => (if t102 < 0 then (some true) else ((zdx k l1 t102).bind fun t103 => (if t103 < 0 then (some true) else ((zbm k l0_0 l0_1).bind fun bt104 => ((za7 k l1).bind fun t110 => ((zc4 k bt104.1 bt104.2 t110).bind fun bt113 => ((zbm k l0_0 l0_1).bind fun bt115 => ((za7 k l1).bind fun t122 => ((zb8 k bt115.1 bt115.2 t122).bind fun bt125 => (if (bt125.1 != bt113.1) = true then (zam k l1 t122 true l0_0 l0_1 bt115.1 bt115.2) else (zam k l1 t122 (bt125.2 != bt113.2) l0_0 l0_1 bt115.1 bt115.2)))))))))))) = some r := h
 clear h
 replace H := zob H
 obtain ⟨t102, A30, H⟩ := H
 replace H : (if t102 < 0 then (some true) else ((zdx k l1 t102).bind fun t103 => (if t103 < 0 then (some true) else ((zbm k l0_0 l0_1).bind fun bt104 => ((za7 k l1).bind fun t110 => ((zc4 k bt104.1 bt104.2 t110).bind fun bt113 => ((zbm k l0_0 l0_1).bind fun bt115 => ((za7 k l1).bind fun t122 => ((zb8 k bt115.1 bt115.2 t122).bind fun bt125 => (if (bt125.1 != bt113.1) = true then (zam k l1 t122 true l0_0 l0_1 bt115.1 bt115.2) else (zam k l1 t122 (bt125.2 != bt113.2) l0_0 l0_1 bt115.1 bt115.2))))))))))) = some r := H
 have A3 := zA A30
 clear A30
 by_cases c4 : t102 < 0
 · rw [if_pos c4] at H
   have c4b0 : decide (t102 < 0) = true := zdt c4
   clear c4
   obtain rfl := zsi H
   go_enter Try.func8, Try.ntmps8
   go_wp2_with (first | ((with_reducible refine zaj (N := 2) rfl ?_); refine zai ?hg (N := 2) ?hd (cs := #[.slice A0_0 l0_0.length c0_0, .slice A0_1 l0_1.length c0_1]) (t := 59) ?hr ?_; (case hd => rfl); (case hg => rfl); (case hr => go_simp <;> rfl); intro gb101 hg w5 hbox hb; have zs := zpair (by repeat (first | (with_reducible first | exact HB.out | apply zba | apply zbn | apply zbd) | exact HB.out)) hb; have n0_ := zA (zs.1); have n1_ := zA (hbox); have n2_ := zA ((by rw [hg]; exact zs.2 : w.heap.size ≤ gb101)); have n3_ := n2_; clear HB; have HB := n0_; have BK101 := n1_; have GW101 := n2_; have GE101 := n3_; clear n0_ n1_ n2_ n3_; clear zs hb hbox hg; obtain ⟨hcz6_0, hcz6_1⟩ := zc2 w5 (.slice A0_0 l0_0.length c0_0) (.slice A0_1 l0_1.length c0_1) BK101.out; obtain ⟨hfz6_0, hfz6_1⟩ := zf2 BK101.out) | ((with_reducible refine zag (f := 41) rfl ?_); refine za9 (some 14) rfl rfl Try.func41 (by kernel_rfl) rfl #[.agg #[.slice A0_0 l0_0.length c0_0, .slice A0_1 l0_1.length c0_1], .int .i64 1048576] rfl (by first | rfl | (simp only [zld, zle, zlf, zlg, zlh] <;> rfl)) ?_; (with_reducible refine (zgi k _ _ l0_0 _ _ l0_1 1048576 t102 _ ?side1 ?side2 ?side3 ?side4 A3.out).mono ?_); (case side1 => repeat (first | exact (zCb HR0_0.out HB.out) | (with_reducible first | refine zCa ?_ _ | refine zCn ?_ _ | refine zCd ?_))); (case side2 => exact HC0_0.out); (case side3 => repeat (first | exact (zCb HR0_1.out HB.out) | (with_reducible first | refine zCa ?_ _ | refine zCn ?_ _ | refine zCd ?_))); (case side4 => exact HC0_1.out); rintro e w7 ⟨rfl, hb⟩; refine ⟨_, rfl, ?_⟩; have n0_ := zA (zac (g := gb101) (o := .cells #[.slice A0_0 l0_0.length c0_0, .slice A0_1 l0_1.length c0_1] 59 (0, 0)) (by (with_reducible repeat (first | refine zkn ?_ _ | refine zkd ?_ | refine zka ?_ _)); exact BK101.out) hb); have n1_ := zA (zaf (by repeat (first | (with_reducible first | exact HB.out | apply zba | apply zbn | apply zbd | refine zaa ?_ GE101.out) | exact HB.out)) hb); clear BK101 HB; have BK101 := n0_; have HB := n1_; clear n0_ n1_; (try clear hb)))
   go_ret
   exact ⟨by first | rfl | (simp <;> rfl) | (simp [*] <;> rfl), by repeat (first | (with_reducible first | exact HB.out | apply zba | apply zbn | apply zbd | refine zaa ?_ GE101.out) | exact HB.out)⟩
 rw [if_neg c4] at H
 have c4b0 : decide (t102 < 0) = false := zdf c4
 clear c4
 replace H := zob H
 obtain ⟨t103, A80, H⟩ := H
 replace H : (if t103 < 0 then (some true) else ((zbm k l0_0 l0_1).bind fun bt104 => ((za7 k l1).bind fun t110 => ((zc4 k bt104.1 bt104.2 t110).bind fun bt113 => ((zbm k l0_0 l0_1).bind fun bt115 => ((za7 k l1).bind fun t122 => ((zb8 k bt115.1 bt115.2 t122).bind fun bt125 => (if (bt125.1 != bt113.1) = true then (zam k l1 t122 true l0_0 l0_1 bt115.1 bt115.2) else (zam k l1 t122 (bt125.2 != bt113.2) l0_0 l0_1 bt115.1 bt115.2))))))))) = some r := H
 have A8 := zA A80
 clear A80
 by_cases c9 : t103 < 0
 · rw [if_pos c9] at H
   have c9b0 : decide (t103 < 0) = true := zdt c9
   clear c9
   obtain rfl := zsi H
   go_enter Try.func8, Try.ntmps8
   go_wp2_with (first | ((with_reducible refine zaj (N := 2) rfl ?_); refine zai ?hg (N := 2) ?hd (cs := #[.slice A0_0 l0_0.length c0_0, .slice A0_1 l0_1.length c0_1]) (t := 59) ?hr ?_; (case hd => rfl); (case hg => rfl); (case hr => go_simp <;> rfl); intro gb101 hg w10 hbox hb; have zs := zpair (by repeat (first | (with_reducible first | exact HB.out | apply zba | apply zbn | apply zbd) | exact HB.out)) hb; have n0_ := zA (zs.1); have n1_ := zA (hbox); have n2_ := zA ((by rw [hg]; exact zs.2 : w.heap.size ≤ gb101)); have n3_ := n2_; clear HB; have HB := n0_; have BK101 := n1_; have GW101 := n2_; have GE101 := n3_; clear n0_ n1_ n2_ n3_; clear zs hb hbox hg; obtain ⟨hcz11_0, hcz11_1⟩ := zc2 w10 (.slice A0_0 l0_0.length c0_0) (.slice A0_1 l0_1.length c0_1) BK101.out; obtain ⟨hfz11_0, hfz11_1⟩ := zf2 BK101.out) | ((with_reducible refine zag (f := 41) rfl ?_); refine za9 (some 14) rfl rfl Try.func41 (by kernel_rfl) rfl #[.agg #[.slice A0_0 l0_0.length c0_0, .slice A0_1 l0_1.length c0_1], .int .i64 1048576] rfl (by first | rfl | (simp only [zld, zle, zlf, zlg, zlh] <;> rfl)) ?_; (with_reducible refine (zgi k _ _ l0_0 _ _ l0_1 1048576 t102 _ ?side1 ?side2 ?side3 ?side4 A3.out).mono ?_); (case side1 => repeat (first | exact (zCb HR0_0.out HB.out) | (with_reducible first | refine zCa ?_ _ | refine zCn ?_ _ | refine zCd ?_))); (case side2 => exact HC0_0.out); (case side3 => repeat (first | exact (zCb HR0_1.out HB.out) | (with_reducible first | refine zCa ?_ _ | refine zCn ?_ _ | refine zCd ?_))); (case side4 => exact HC0_1.out); rintro e w12 ⟨rfl, hb⟩; refine ⟨_, rfl, ?_⟩; have n0_ := zA (zac (g := gb101) (o := .cells #[.slice A0_0 l0_0.length c0_0, .slice A0_1 l0_1.length c0_1] 59 (0, 0)) (by (with_reducible repeat (first | refine zkn ?_ _ | refine zkd ?_ | refine zka ?_ _)); exact BK101.out) hb); have n1_ := zA (zaf (by repeat (first | (with_reducible first | exact HB.out | apply zba | apply zbn | apply zbd | refine zaa ?_ GE101.out) | exact HB.out)) hb); clear BK101 HB; have BK101 := n0_; have HB := n1_; clear n0_ n1_; (try clear hb)) | ((with_reducible refine zag (f := 29) rfl ?_); refine za9 (some 19) rfl rfl Try.func29 (by kernel_rfl) rfl #[.slice A1 l1.length c1, .int .i64 t102] rfl (by first | rfl | (simp only [zld, zle, zlf, zlg, zlh] <;> rfl)) ?_; (with_reducible refine (zh6 k _ _ l1 t102 t103 _ ?side1 ?side2 A8.out).mono ?_); (case side1 => repeat (first | exact (zCb HR1.out HB.out) | (with_reducible first | refine zCa ?_ _ | refine zCn ?_ _ | refine zCd ?_))); (case side2 => exact HC1.out); rintro e w13 ⟨rfl, hb⟩; refine ⟨_, rfl, ?_⟩; have n0_ := zA (zac (g := gb101) (o := .cells #[.slice A0_0 l0_0.length c0_0, .slice A0_1 l0_1.length c0_1] 59 (0, 0)) (by (with_reducible repeat (first | refine zkn ?_ _ | refine zkd ?_ | refine zka ?_ _)); exact BK101.out) hb); have n1_ := zA (zaf (by repeat (first | (with_reducible first | exact HB.out | apply zba | apply zbn | apply zbd | refine zaa ?_ GE101.out) | exact HB.out)) hb); clear BK101 HB; have BK101 := n0_; have HB := n1_; clear n0_ n1_; (try clear hb)))
   go_ret
   exact ⟨by first | rfl | (simp <;> rfl) | (simp [*] <;> rfl), by repeat (first | (with_reducible first | exact HB.out | apply zba | apply zbn | apply zbd | refine zaa ?_ GE101.out) | exact HB.out)⟩
 rw [if_neg c9] at H
 have c9b0 : decide (t103 < 0) = false := zdf c9
 clear c9
 replace H := zob H
 obtain ⟨⟨t104, t107⟩, A140, H⟩ := H
 replace H : ((za7 k l1).bind fun t110 => ((zc4 k t104 t107 t110).bind fun bt113 => ((zbm k l0_0 l0_1).bind fun bt115 => ((za7 k l1).bind fun t122 => ((zb8 k bt115.1 bt115.2 t122).bind fun bt125 => (if (bt125.1 != bt113.1) = true then (zam k l1 t122 true l0_0 l0_1 bt115.1 bt115.2) else (zam k l1 t122 (bt125.2 != bt113.2) l0_0 l0_1 bt115.1 bt115.2))))))) = some r := H
 have A14 := zA A140
 clear A140
 replace H := zob H
 obtain ⟨t110, A150, H⟩ := H
 replace H : ((zc4 k t104 t107 t110).bind fun bt113 => ((zbm k l0_0 l0_1).bind fun bt115 => ((za7 k l1).bind fun t122 => ((zb8 k bt115.1 bt115.2 t122).bind fun bt125 => (if (bt125.1 != bt113.1) = true then (zam k l1 t122 true l0_0 l0_1 bt115.1 bt115.2) else (zam k l1 t122 (bt125.2 != bt113.2) l0_0 l0_1 bt115.1 bt115.2)))))) = some r := H
 have A15 := zA A150
 clear A150
 replace H := zob H
 obtain ⟨⟨t113, t114⟩, A160, H⟩ := H
 replace H : ((zbm k l0_0 l0_1).bind fun bt115 => ((za7 k l1).bind fun t122 => ((zb8 k bt115.1 bt115.2 t122).bind fun bt125 => (if (bt125.1 != t113) = true then (zam k l1 t122 true l0_0 l0_1 bt115.1 bt115.2) else (zam k l1 t122 (bt125.2 != t114) l0_0 l0_1 bt115.1 bt115.2))))) = some r := H
 have A16 := zA A160
 clear A160
 replace H := zob H
 obtain ⟨⟨t115, t118⟩, A170, H⟩ := H
 replace H : ((za7 k l1).bind fun t122 => ((zb8 k t115 t118 t122).bind fun bt125 => (if (bt125.1 != t113) = true then (zam k l1 t122 true l0_0 l0_1 t115 t118) else (zam k l1 t122 (bt125.2 != t114) l0_0 l0_1 t115 t118)))) = some r := H
 have A17 := zA A170
 clear A170
 replace H := zob H
 obtain ⟨t122, A180, H⟩ := H
 replace H : ((zb8 k t115 t118 t122).bind fun bt125 => (if (bt125.1 != t113) = true then (zam k l1 t122 true l0_0 l0_1 t115 t118) else (zam k l1 t122 (bt125.2 != t114) l0_0 l0_1 t115 t118))) = some r := H
 have A18 := zA A180
 clear A180
 replace H := zob H
 obtain ⟨⟨t125, t126⟩, A190, H⟩ := H
 replace H : (if (t125 != t113) = true then (zam k l1 t122 true l0_0 l0_1 t115 t118) else (zam k l1 t122 (t126 != t114) l0_0 l0_1 t115 t118)) = some r := H
 have A19 := zA A190
 clear A190
 have HC20 := zA H
 clear H
 go_enter Try.func8, Try.ntmps8
 go_upto_region 12 with (first | ((with_reducible refine zaj (N := 2) rfl ?_); refine zai ?hg (N := 2) ?hd (cs := #[.slice A0_0 l0_0.length c0_0, .slice A0_1 l0_1.length c0_1]) (t := 59) ?hr ?_; (case hd => rfl); (case hg => rfl); (case hr => go_simp <;> rfl); intro gb101 hg w21 hbox hb; have zs := zpair (by repeat (first | (with_reducible first | exact HB.out | apply zba | apply zbn | apply zbd) | exact HB.out)) hb; have n0_ := zA (zs.1); have n1_ := zA (hbox); have n2_ := zA ((by rw [hg]; exact zs.2 : w.heap.size ≤ gb101)); have n3_ := n2_; clear HB; have HB := n0_; have BK101 := n1_; have GW101 := n2_; have GE101 := n3_; clear n0_ n1_ n2_ n3_; clear zs hb hbox hg; obtain ⟨hcz22_0, hcz22_1⟩ := zc2 w21 (.slice A0_0 l0_0.length c0_0) (.slice A0_1 l0_1.length c0_1) BK101.out; obtain ⟨hfz22_0, hfz22_1⟩ := zf2 BK101.out) | ((with_reducible refine zag (f := 41) rfl ?_); refine za9 (some 14) rfl rfl Try.func41 (by kernel_rfl) rfl #[.agg #[.slice A0_0 l0_0.length c0_0, .slice A0_1 l0_1.length c0_1], .int .i64 1048576] rfl (by first | rfl | (simp only [zld, zle, zlf, zlg, zlh] <;> rfl)) ?_; (with_reducible refine (zgi k _ _ l0_0 _ _ l0_1 1048576 t102 _ ?side1 ?side2 ?side3 ?side4 A3.out).mono ?_); (case side1 => repeat (first | exact (zCb HR0_0.out HB.out) | (with_reducible first | refine zCa ?_ _ | refine zCn ?_ _ | refine zCd ?_))); (case side2 => exact HC0_0.out); (case side3 => repeat (first | exact (zCb HR0_1.out HB.out) | (with_reducible first | refine zCa ?_ _ | refine zCn ?_ _ | refine zCd ?_))); (case side4 => exact HC0_1.out); rintro e w23 ⟨rfl, hb⟩; refine ⟨_, rfl, ?_⟩; have n0_ := zA (zac (g := gb101) (o := .cells #[.slice A0_0 l0_0.length c0_0, .slice A0_1 l0_1.length c0_1] 59 (0, 0)) (by (with_reducible repeat (first | refine zkn ?_ _ | refine zkd ?_ | refine zka ?_ _)); exact BK101.out) hb); have n1_ := zA (zaf (by repeat (first | (with_reducible first | exact HB.out | apply zba | apply zbn | apply zbd | refine zaa ?_ GE101.out) | exact HB.out)) hb); clear BK101 HB; have BK101 := n0_; have HB := n1_; clear n0_ n1_; (try clear hb); (try clear hk)) | ((with_reducible refine zag (f := 29) rfl ?_); refine za9 (some 19) rfl rfl Try.func29 (by kernel_rfl) rfl #[.slice A1 l1.length c1, .int .i64 t102] rfl (by first | rfl | (simp only [zld, zle, zlf, zlg, zlh] <;> rfl)) ?_; (with_reducible refine (zh6 k _ _ l1 t102 t103 _ ?side1 ?side2 A8.out).mono ?_); (case side1 => repeat (first | exact (zCb HR1.out HB.out) | (with_reducible first | refine zCa ?_ _ | refine zCn ?_ _ | refine zCd ?_))); (case side2 => exact HC1.out); rintro e w24 ⟨rfl, hb⟩; refine ⟨_, rfl, ?_⟩; have n0_ := zA (zac (g := gb101) (o := .cells #[.slice A0_0 l0_0.length c0_0, .slice A0_1 l0_1.length c0_1] 59 (0, 0)) (by (with_reducible repeat (first | refine zkn ?_ _ | refine zkd ?_ | refine zka ?_ _)); exact BK101.out) hb); have n1_ := zA (zaf (by repeat (first | (with_reducible first | exact HB.out | apply zba | apply zbn | apply zbd | refine zaa ?_ GE101.out) | exact HB.out)) hb); clear BK101 HB; have BK101 := n0_; have HB := n1_; clear n0_ n1_; (try clear hb); (try clear hk); obtain ⟨hcz25_0, hcz25_1⟩ := zc2 w24 (.slice A0_0 l0_0.length c0_0) (.slice A0_1 l0_1.length c0_1) BK101.out; obtain ⟨hfz25_0, hfz25_1⟩ := zf2 BK101.out) | ((with_reducible refine zag (f := 43) rfl ?_); refine za9 (some 24) rfl rfl Try.func43 (by kernel_rfl) rfl #[.agg #[.slice A0_0 l0_0.length c0_0, .slice A0_1 l0_1.length c0_1]] rfl (by first | rfl | (simp only [zld, zle, zlf, zlg, zlh] <;> rfl)) ?_; (with_reducible refine (zez k _ _ l0_0 _ _ l0_1 t104 t107 _ ?side1 ?side2 ?side3 ?side4 A14.out).mono ?_); (case side1 => repeat (first | exact (zCb HR0_0.out HB.out) | (with_reducible first | refine zCa ?_ _ | refine zCn ?_ _ | refine zCd ?_))); (case side2 => exact HC0_0.out); (case side3 => repeat (first | exact (zCb HR0_1.out HB.out) | (with_reducible first | refine zCa ?_ _ | refine zCn ?_ _ | refine zCd ?_))); (case side4 => exact HC0_1.out); rintro e w26 ⟨v105, v108, rfl, ho0, ho1, hb⟩; refine ⟨_, rfl, ?_⟩; have n0_ := zA (Kd.R_lower ho0 (zal (by repeat (first | (with_reducible first | exact HB.out | apply zba | apply zbn | apply zbd | refine zaa ?_ GE101.out) | exact HB.out)))); have n1_ := zA (Kd.R_lower ho1 (zal (by repeat (first | (with_reducible first | exact HB.out | apply zba | apply zbn | apply zbd | refine zaa ?_ GE101.out) | exact HB.out)))); have n2_ := zA (zac (g := gb101) (o := .cells #[.slice A0_0 l0_0.length c0_0, .slice A0_1 l0_1.length c0_1] 59 (0, 0)) (by (with_reducible repeat (first | refine zkn ?_ _ | refine zkd ?_ | refine zka ?_ _)); exact BK101.out) hb); have n3_ := zA (zaf (by repeat (first | (with_reducible first | exact HB.out | apply zba | apply zbn | apply zbd | refine zaa ?_ GE101.out) | exact HB.out)) hb); clear BK101 HB; have HO106 := n0_; have HO109 := n1_; have BK101 := n2_; have HB := n3_; clear n0_ n1_ n2_ n3_; (try clear hb); (try clear hk); (try clear ho0); (try clear ho1)) | ((with_reducible refine zag (f := 31) rfl ?_); refine za9 (some 26) rfl rfl Try.func31 (by kernel_rfl) rfl #[.slice A1 l1.length c1] rfl (by first | rfl | (simp only [zld, zle, zlf, zlg, zlh] <;> rfl)) ?_; (with_reducible refine (zfi k _ _ l1 t110 _ ?side1 ?side2 A15.out).mono ?_); (case side1 => repeat (first | exact (zCb HR1.out HB.out) | (with_reducible first | refine zCa ?_ _ | refine zCn ?_ _ | refine zCd ?_))); (case side2 => exact HC1.out); rintro e w27 ⟨v111, rfl, ho0, hb⟩; refine ⟨_, rfl, ?_⟩; have n0_ := zA (zRb (by (with_reducible repeat (first | apply zRa | apply zRn | apply zRd)); exact HO106.out) hb); have n1_ := zA (zRb (by (with_reducible repeat (first | apply zRa | apply zRn | apply zRd)); exact HO109.out) hb); have n2_ := zA (Kd.R_lower ho0 (zal (by repeat (first | (with_reducible first | exact HB.out | apply zba | apply zbn | apply zbd | refine zaa ?_ GE101.out) | exact HB.out)))); have n3_ := zA (zac (g := gb101) (o := .cells #[.slice A0_0 l0_0.length c0_0, .slice A0_1 l0_1.length c0_1] 59 (0, 0)) (by (with_reducible repeat (first | refine zkn ?_ _ | refine zkd ?_ | refine zka ?_ _)); exact BK101.out) hb); have n4_ := zA (zaf (by repeat (first | (with_reducible first | exact HB.out | apply zba | apply zbn | apply zbd | refine zaa ?_ GE101.out) | exact HB.out)) hb); clear HO106 HO109; clear BK101 HB; have HO106 := n0_; have HO109 := n1_; have HO112 := n2_; have BK101 := n3_; have HB := n4_; clear n0_ n1_ n2_ n3_ n4_; (try clear hb); (try clear hk); (try clear ho0); obtain ⟨Ao28, co28, eo28⟩ := Kd.R_slice HO106.out; subst eo28; obtain ⟨Ao29, co29, eo29⟩ := Kd.R_slice HO109.out; subst eo29; obtain ⟨Ao30, co30, eo30⟩ := Kd.R_slice HO112.out; subst eo30) | ((with_reducible refine zag (f := 42) rfl ?_); refine za9 (some 27) rfl rfl Try.func42 (by kernel_rfl) rfl #[.agg #[.slice Ao28 t104.length co28, .slice Ao29 t107.length co29], .slice Ao30 t110.length co30] rfl (by first | rfl | (simp only [zld, zle, zlf, zlg, zlh] <;> rfl)) ?_; (with_reducible refine (zk6 k _ _ t104 _ _ t107 _ _ t110 t113 t114 _ ?side1 ?side2 ?side3 ?side4 ?side5 ?side6 A16.out).mono ?_); (case side1 => repeat (first | exact (zRr HO106.out).2.2 | (with_reducible first | refine zCa ?_ _ | refine zCn ?_ _ | refine zCd ?_))); (case side2 => exact (zRr HO106.out).2.1); (case side3 => repeat (first | exact (zRr HO109.out).2.2 | (with_reducible first | refine zCa ?_ _ | refine zCn ?_ _ | refine zCd ?_))); (case side4 => exact (zRr HO109.out).2.1); (case side5 => repeat (first | exact (zRr HO112.out).2.2 | (with_reducible first | refine zCa ?_ _ | refine zCn ?_ _ | refine zCd ?_))); (case side6 => exact (zRr HO112.out).2.1); rintro e w31 ⟨rfl, hb⟩; refine ⟨_, rfl, ?_⟩; have n0_ := zA (zRb (by (with_reducible repeat (first | apply zRa | apply zRn | apply zRd)); exact HO106.out) hb); have n1_ := zA (zRb (by (with_reducible repeat (first | apply zRa | apply zRn | apply zRd)); exact HO109.out) hb); have n2_ := zA (zRb (by (with_reducible repeat (first | apply zRa | apply zRn | apply zRd)); exact HO112.out) hb); have n3_ := zA (zac (g := gb101) (o := .cells #[.slice A0_0 l0_0.length c0_0, .slice A0_1 l0_1.length c0_1] 59 (0, 0)) (by (with_reducible repeat (first | refine zkn ?_ _ | refine zkd ?_ | refine zka ?_ _)); exact BK101.out) hb); have n4_ := zA (zaf (by repeat (first | (with_reducible first | exact HB.out | apply zba | apply zbn | apply zbd | refine zaa ?_ GE101.out) | exact HB.out)) hb); clear HO106 HO109; clear HO112 BK101 HB; have HO106 := n0_; have HO109 := n1_; have HO112 := n2_; have BK101 := n3_; have HB := n4_; clear n0_ n1_ n2_ n3_ n4_; (try clear hb); (try clear hk); obtain ⟨hcz32_0, hcz32_1⟩ := zc2 w31 (.slice A0_0 l0_0.length c0_0) (.slice A0_1 l0_1.length c0_1) BK101.out; obtain ⟨hfz32_0, hfz32_1⟩ := zf2 BK101.out) | ((with_reducible refine zag (f := 43) rfl ?_); refine za9 (some 31) rfl rfl Try.func43 (by kernel_rfl) rfl #[.agg #[.slice A0_0 l0_0.length c0_0, .slice A0_1 l0_1.length c0_1]] rfl (by first | rfl | (simp only [zld, zle, zlf, zlg, zlh] <;> rfl)) ?_; (with_reducible refine (zez k _ _ l0_0 _ _ l0_1 t115 t118 _ ?side1 ?side2 ?side3 ?side4 A17.out).mono ?_); (case side1 => repeat (first | exact (zCb HR0_0.out HB.out) | (with_reducible first | refine zCa ?_ _ | refine zCn ?_ _ | refine zCd ?_))); (case side2 => exact HC0_0.out); (case side3 => repeat (first | exact (zCb HR0_1.out HB.out) | (with_reducible first | refine zCa ?_ _ | refine zCn ?_ _ | refine zCd ?_))); (case side4 => exact HC0_1.out); rintro e w33 ⟨v116, v119, rfl, ho0, ho1, hb⟩; refine ⟨_, rfl, ?_⟩; have n0_ := zA (Kd.R_elder' (by (with_reducible repeat (first | apply zRa | apply zRn | apply zRd)); exact HO106.out) (Kd.R_base ho0) hb); have n1_ := zA (Kd.R_elder' (by (with_reducible repeat (first | apply zRa | apply zRn | apply zRd)); exact HO109.out) (Kd.R_base ho1) hb); have n2_ := zA (zRb (by (with_reducible repeat (first | apply zRa | apply zRn | apply zRd)); exact HO112.out) hb); have n3_ := zA (Kd.R_lower (Kd.R_new' ho0 (Kd.R_lt (by (with_reducible repeat (first | apply zRa | apply zRn | apply zRd)); exact HO106.out))) (zal (by repeat (first | (with_reducible first | exact HB.out | apply zba | apply zbn | apply zbd | refine zaa ?_ GE101.out) | exact HB.out)))); have n4_ := zA (Kd.R_lower (Kd.R_new' ho1 (Kd.R_lt (by (with_reducible repeat (first | apply zRa | apply zRn | apply zRd)); exact HO109.out))) (zal (by repeat (first | (with_reducible first | exact HB.out | apply zba | apply zbn | apply zbd | refine zaa ?_ GE101.out) | exact HB.out)))); have n5_ := zA (zac (g := gb101) (o := .cells #[.slice A0_0 l0_0.length c0_0, .slice A0_1 l0_1.length c0_1] 59 (0, 0)) (by (with_reducible repeat (first | refine zkn ?_ _ | refine zkd ?_ | refine zka ?_ _)); exact BK101.out) hb); have n6_ := zA (zaf (by repeat (first | (with_reducible first | exact HB.out | apply zba | apply zbn | apply zbd | refine zaa ?_ GE101.out) | exact HB.out)) hb); clear HO106 HO109; clear HO112 BK101 HB; have HO106 := n0_; have HO109 := n1_; have HO112 := n2_; have HO117 := n3_; have HO120 := n4_; have BK101 := n5_; have HB := n6_; clear n0_ n1_ n2_ n3_ n4_ n5_ n6_; (try clear hb); (try clear hk); (try clear ho0); (try clear ho1)) | ((with_reducible refine zaj (N := 8) rfl ?_); refine zai ?hg (N := 8) ?hd (cs := #[.slice none 0 0, .slice none 0 0]) (t := 62) ?hr ?_; (case hd => rfl); (case hg => rfl); (case hr => go_simp <;> rfl); intro gb121 hg w34 hbox hb; have n0_ := zA (zRb (by (with_reducible repeat (first | apply zRa | apply zRn | apply zRd)); exact HO106.out) hb); have n1_ := zA (zRb (by (with_reducible repeat (first | apply zRa | apply zRn | apply zRd)); exact HO109.out) hb); have n2_ := zA (zRb (by (with_reducible repeat (first | apply zRa | apply zRn | apply zRd)); exact HO112.out) hb); have n3_ := zA (zRb (by (with_reducible repeat (first | apply zRa | apply zRn | apply zRd)); exact HO117.out) hb); have n4_ := zA (zRb (by (with_reducible repeat (first | apply zRa | apply zRn | apply zRd)); exact HO120.out) hb); have n5_ := zA (zac (g := gb101) (o := .cells #[.slice A0_0 l0_0.length c0_0, .slice A0_1 l0_1.length c0_1] 59 (0, 0)) (by (with_reducible repeat (first | refine zkn ?_ _ | refine zkd ?_ | refine zka ?_ _)); exact BK101.out) hb); have zs := zpair (by repeat (first | (with_reducible first | exact HB.out | apply zba | apply zbn | apply zbd | refine zaa ?_ GE101.out) | exact HB.out)) hb; have n6_ := zA (zs.1); have n7_ := zA (hbox); have n8_ := zA ((by rw [hg]; exact zs.2 : w.heap.size ≤ gb121)); have n9_ := n8_; have n10_ := zA ((by rw [hg]; exact Nat.ne_of_lt (zlt BK101.out (fun h => by (with_reducible repeat (first | refine zkn ?_ _ | refine zkd ?_ | refine zka ?_ _)); exact h)) : gb101 ≠ gb121)); have n11_ := zA (Ne.symm n10_.out); clear HO106 HO109; clear HO112 HO117; clear HO120 BK101 HB; have HO106 := n0_; have HO109 := n1_; have HO112 := n2_; have HO117 := n3_; have HO120 := n4_; have BK101 := n5_; have HB := n6_; have BK121 := n7_; have GW121 := n8_; have GE121 := n9_; have NB101_121 := n10_; have NB121_101 := n11_; clear n0_ n1_ n2_ n3_ n4_ n5_ n6_ n7_ n8_ n9_ n10_ n11_; clear zs hb hbox hg; obtain ⟨Ao35, co35, eo35⟩ := Kd.R_slice HO117.out; subst eo35; have hnb36 := NB121_101.out; have hnc36 := NB101_121.out; obtain ⟨hcz37_0, hcz37_1⟩ := zc2 w34 (.slice none 0 0) (.slice none 0 0) BK121.out; obtain ⟨hfz37_0, hfz37_1⟩ := zf2 BK121.out; obtain ⟨Ao38, co38, eo38⟩ := Kd.R_slice HO120.out; subst eo38) | ((with_reducible refine zag (f := 31) rfl ?_); refine za9 (some 33) rfl rfl Try.func31 (by kernel_rfl) rfl #[.slice A1 l1.length c1] rfl (by first | rfl | (simp only [zld, zle, zlf, zlg, zlh] <;> rfl)) ?_; (with_reducible refine (zfi k _ _ l1 t122 _ ?side1 ?side2 A18.out).mono ?_); (case side1 => exact zCb HR1.out (by repeat (first | (with_reducible first | exact HB.out | apply zba | apply zbn | apply zbd | refine zaa ?_ GE101.out | refine zaa ?_ GE121.out) | exact HB.out))); (case side2 => exact HC1.out); rintro e w39 ⟨v123, rfl, ho0, hb⟩; refine ⟨_, rfl, ?_⟩; have n0_ := zA (zRb (by (with_reducible repeat (first | apply zRa | apply zRn | apply zRd)); exact (Kd.R_mono (Kd.R_far (p := ⟨gb121, 1, none⟩) (Kd.R_far (p := ⟨gb121, 0, none⟩) (Kd.R_types HO106.out BK121.out (by decide)) (fun _ hk => hk.2) (.slice Ao35 t115.length co35)) (fun _ hk => hk.2) (.slice Ao38 t118.length co38)) (fun _ h_ => h_.1))) hb); have n1_ := zA (zRb (by (with_reducible repeat (first | apply zRa | apply zRn | apply zRd)); exact (Kd.R_mono (Kd.R_far (p := ⟨gb121, 1, none⟩) (Kd.R_far (p := ⟨gb121, 0, none⟩) (Kd.R_types HO109.out BK121.out (by decide)) (fun _ hk => hk.2) (.slice Ao35 t115.length co35)) (fun _ hk => hk.2) (.slice Ao38 t118.length co38)) (fun _ h_ => h_.1))) hb); have n2_ := zA (Kd.R_elder' (by (with_reducible repeat (first | apply zRa | apply zRn | apply zRd)); exact (Kd.R_mono (Kd.R_far (p := ⟨gb121, 1, none⟩) (Kd.R_far (p := ⟨gb121, 0, none⟩) (Kd.R_types HO112.out BK121.out (by decide)) (fun _ hk => hk.2) (.slice Ao35 t115.length co35)) (fun _ hk => hk.2) (.slice Ao38 t118.length co38)) (fun _ h_ => h_.1))) (Kd.R_base ho0) hb); have n3_ := zA (zRb (by (with_reducible repeat (first | apply zRa | apply zRn | apply zRd)); exact (Kd.R_mono (Kd.R_far (p := ⟨gb121, 1, none⟩) (Kd.R_far (p := ⟨gb121, 0, none⟩) (Kd.R_types HO117.out BK121.out (by decide)) (fun _ hk => hk.2) (.slice Ao35 t115.length co35)) (fun _ hk => hk.2) (.slice Ao38 t118.length co38)) (fun _ h_ => h_.1))) hb); have n4_ := zA (zRb (by (with_reducible repeat (first | apply zRa | apply zRn | apply zRd)); exact (Kd.R_mono (Kd.R_far (p := ⟨gb121, 1, none⟩) (Kd.R_far (p := ⟨gb121, 0, none⟩) (Kd.R_types HO120.out BK121.out (by decide)) (fun _ hk => hk.2) (.slice Ao35 t115.length co35)) (fun _ hk => hk.2) (.slice Ao38 t118.length co38)) (fun _ h_ => h_.1))) hb); have n5_ := zA (Kd.R_lower (Kd.R_new' ho0 (Kd.R_lt (by (with_reducible repeat (first | apply zRa | apply zRn | apply zRd)); exact (Kd.R_mono (Kd.R_far (p := ⟨gb121, 1, none⟩) (Kd.R_far (p := ⟨gb121, 0, none⟩) (Kd.R_types HO112.out BK121.out (by decide)) (fun _ hk => hk.2) (.slice Ao35 t115.length co35)) (fun _ hk => hk.2) (.slice Ao38 t118.length co38)) (fun _ h_ => h_.1))))) (zal (by repeat (first | (with_reducible first | exact HB.out | apply zba | apply zbn | apply zbd | refine zaa ?_ GE101.out | refine zaa ?_ GE121.out) | exact HB.out)))); have n6_ := zA (zac (g := gb101) (o := .cells #[.slice A0_0 l0_0.length c0_0, .slice A0_1 l0_1.length c0_1] 59 (0, 0)) (by (with_reducible repeat (first | refine zkn ?_ _ | refine zkd ?_ | refine zka ?_ _)); refine zar ?_ NB101_121.out _; (with_reducible repeat (first | refine zkn ?_ _ | refine zkd ?_ | refine zka ?_ _)); refine zar ?_ NB101_121.out _; (with_reducible repeat (first | refine zkn ?_ _ | refine zkd ?_ | refine zka ?_ _)); exact BK101.out) hb); have n7_ := zA (zac (g := gb121) (o := .cells #[.slice Ao35 t115.length co35, .slice Ao38 t118.length co38] 62 (0, 0)) (by (with_reducible repeat (first | refine zkn ?_ _ | refine zkd ?_ | refine zka ?_ _)); refine za4 (cs := #[.slice Ao35 t115.length co35, .slice none 0 0]) ?_ 1 _ rfl; (with_reducible repeat (first | refine zkn ?_ _ | refine zkd ?_ | refine zka ?_ _)); refine za4 (cs := #[.slice none 0 0, .slice none 0 0]) ?_ 0 _ rfl; (with_reducible repeat (first | refine zkn ?_ _ | refine zkd ?_ | refine zka ?_ _)); exact BK121.out) hb); have n8_ := zA (zaf (by repeat (first | (with_reducible first | exact HB.out | apply zba | apply zbn | apply zbd | refine zaa ?_ GE101.out | refine zaa ?_ GE121.out) | exact HB.out)) hb); clear HO106 HO109; clear HO112 HO117; clear HO120 BK101; clear BK121 HB; have HO106 := n0_; have HO109 := n1_; have HO112 := n2_; have HO117 := n3_; have HO120 := n4_; have HO124 := n5_; have BK101 := n6_; have BK121 := n7_; have HB := n8_; clear n0_ n1_ n2_ n3_ n4_ n5_ n6_ n7_ n8_; (try clear hb); (try clear hk); (try clear ho0); obtain ⟨hcz40_0, hcz40_1⟩ := zc2 w39 (.slice Ao35 t115.length co35) (.slice Ao38 t118.length co38) BK121.out; obtain ⟨hfz40_0, hfz40_1⟩ := zf2 BK121.out; obtain ⟨Ao41, co41, eo41⟩ := Kd.R_slice HO124.out; subst eo41) | ((with_reducible refine zag (f := 44) rfl ?_); refine za9 (some 37) rfl rfl Try.func44 (by kernel_rfl) rfl #[.agg #[.slice Ao35 t115.length co35, .slice Ao38 t118.length co38], .slice Ao41 t122.length co41] rfl (by first | rfl | (simp only [zld, zle, zlf, zlg, zlh] <;> rfl)) ?_; (with_reducible refine (zk1 k _ _ t115 _ _ t118 _ _ t122 t125 t126 _ ?side1 ?side2 ?side3 ?side4 ?side5 ?side6 A19.out).mono ?_); (case side1 => repeat (first | exact (zRr HO117.out).2.2 | (with_reducible first | refine zCa ?_ _ | refine zCn ?_ _ | refine zCd ?_))); (case side2 => exact (zRr HO117.out).2.1); (case side3 => repeat (first | exact (zRr HO120.out).2.2 | (with_reducible first | refine zCa ?_ _ | refine zCn ?_ _ | refine zCd ?_))); (case side4 => exact (zRr HO120.out).2.1); (case side5 => repeat (first | exact (zRr HO124.out).2.2 | (with_reducible first | refine zCa ?_ _ | refine zCn ?_ _ | refine zCd ?_))); (case side6 => exact (zRr HO124.out).2.1); rintro e w42 ⟨rfl, hb⟩; refine ⟨_, rfl, ?_⟩; have n0_ := zA (zRb (by (with_reducible repeat (first | apply zRa | apply zRn | apply zRd)); exact HO106.out) hb); have n1_ := zA (zRb (by (with_reducible repeat (first | apply zRa | apply zRn | apply zRd)); exact HO109.out) hb); have n2_ := zA (zRb (by (with_reducible repeat (first | apply zRa | apply zRn | apply zRd)); exact HO112.out) hb); have n3_ := zA (zRb (by (with_reducible repeat (first | apply zRa | apply zRn | apply zRd)); exact HO117.out) hb); have n4_ := zA (zRb (by (with_reducible repeat (first | apply zRa | apply zRn | apply zRd)); exact HO120.out) hb); have n5_ := zA (zRb (by (with_reducible repeat (first | apply zRa | apply zRn | apply zRd)); exact HO124.out) hb); have n6_ := zA (zac (g := gb101) (o := .cells #[.slice A0_0 l0_0.length c0_0, .slice A0_1 l0_1.length c0_1] 59 (0, 0)) (by (with_reducible repeat (first | refine zkn ?_ _ | refine zkd ?_ | refine zka ?_ _)); exact BK101.out) hb); have n7_ := zA (zac (g := gb121) (o := .cells #[.slice Ao35 t115.length co35, .slice Ao38 t118.length co38] 62 (0, 0)) (by (with_reducible repeat (first | refine zkn ?_ _ | refine zkd ?_ | refine zka ?_ _)); exact BK121.out) hb); have n8_ := zA (zaf (by repeat (first | (with_reducible first | exact HB.out | apply zba | apply zbn | apply zbd | refine zaa ?_ GE101.out | refine zaa ?_ GE121.out) | exact HB.out)) hb); clear HO106 HO109; clear HO112 HO117; clear HO120 HO124; clear BK101 BK121 HB; have HO106 := n0_; have HO109 := n1_; have HO112 := n2_; have HO117 := n3_; have HO120 := n4_; have HO124 := n5_; have BK101 := n6_; have BK121 := n7_; have HB := n8_; clear n0_ n1_ n2_ n3_ n4_ n5_ n6_ n7_ n8_; (try clear hb); (try clear hk)))
 (try simp only [Act.put, zla, zlb, zlc])
 go_cut [47] (fun v47 wc => ∃ (kq : Nat) (x47_19 : Bool), v47 = .bool x47_19 ∧ Aside0 (zam kq l1 t122 x47_19 l0_0 l0_1 t115 t118 = some r) ∧ Aside0 (kq ≤ k) ∧ Aside0 (Kd.R k102 102 wc w.heap.size (fun _ => True) (.slice Ao41 t122.length co41) t122) ∧ Aside0 (Kd.R Kd.string 9 wc w.heap.size (fun _ => True) (.slice Ao35 t115.length co35) t115) ∧ Aside0 (Kd.R (Kd.int .i64) 3 wc w.heap.size (fun _ => True) (.slice Ao38 t118.length co38) t118) ∧ Aside0 (wc.heap[gb101]? = some (.cells #[(.slice A0_0 l0_0.length c0_0), (.slice A0_1 l0_1.length c0_1)] 59 (0, 0))) ∧ Aside0 (wc.heap[gb121]? = some (.cells #[(.slice Ao35 t115.length co35), (.slice Ao38 t118.length co38)] 62 (0, 0))) ∧ Aside0 (Below w.heap.size w wc))
 case first =>
   have H := HC20.out
   clear HC20
   by_cases c43 : (t125 != t113) = true
   rotate_left
   · rw [if_neg c43] at H
     have c43b0 : (t125 != t113) = false := by simpa using c43
     (try (have c43b1 : decide (t125 = t113) = true := by simpa using c43))
     (try (have c43b2 : (t125 == t113) = true := by simpa using c43))
     clear c43
     (first | rw [c43b0] | (simp only [za5, zbb]; rw [c43b0]) | skip)
     have H' := zA H
     clear H
     go_wp2
     go_meet
     case rel => exact ⟨_, ((t126 != t114)), (by first | rfl | (simp; done) | (simp [*]; done)), H', ⟨by first | omega | exact zlr _⟩, ⟨by (with_reducible repeat (first | apply zRa | apply zRn | apply zRd)); exact Kd.R_mono HO124.out (fun _ hk => trivial)⟩, ⟨by (with_reducible repeat (first | apply zRa | apply zRn | apply zRd)); exact Kd.R_mono HO117.out (fun _ hk => trivial)⟩, ⟨by (with_reducible repeat (first | apply zRa | apply zRn | apply zRd)); exact Kd.R_mono HO120.out (fun _ hk => trivial)⟩, ⟨by (with_reducible repeat (first | refine zkn ?_ _ | refine zkd ?_ | refine zka ?_ _)); exact BK101.out⟩, ⟨by (with_reducible repeat (first | refine zkn ?_ _ | refine zkd ?_ | refine zka ?_ _)); exact BK121.out⟩, ⟨by repeat (first | (with_reducible first | exact HB.out | apply zba | apply zbn | apply zbd | refine zaa ?_ GE101.out | refine zaa ?_ GE121.out) | exact HB.out)⟩⟩
   rw [if_pos c43] at H
   have c43b0 : (t125 != t113) = true := c43
   (try (have c43b1 : decide (t125 = t113) = false := by simpa using c43))
   (try (have c43b2 : (t125 == t113) = false := by simpa using c43))
   (try (have c43b3 : ¬ (t125 = t113) := by simpa using c43))
   clear c43
   (first | rw [c43b0] | (simp only [za5, zbb]; rw [c43b0]) | skip)
   have H' := zA H
   clear H
   go_wp2
   go_meet
   case rel => exact ⟨_, (true), (by first | rfl | (simp; done) | (simp [*]; done)), H', ⟨by first | omega | exact zlr _⟩, ⟨by (with_reducible repeat (first | apply zRa | apply zRn | apply zRd)); exact Kd.R_mono HO124.out (fun _ hk => trivial)⟩, ⟨by (with_reducible repeat (first | apply zRa | apply zRn | apply zRd)); exact Kd.R_mono HO117.out (fun _ hk => trivial)⟩, ⟨by (with_reducible repeat (first | apply zRa | apply zRn | apply zRd)); exact Kd.R_mono HO120.out (fun _ hk => trivial)⟩, ⟨by (with_reducible repeat (first | refine zkn ?_ _ | refine zkd ?_ | refine zka ?_ _)); exact BK101.out⟩, ⟨by (with_reducible repeat (first | refine zkn ?_ _ | refine zkd ?_ | refine zka ?_ _)); exact BK121.out⟩, ⟨by repeat (first | (with_reducible first | exact HB.out | apply zba | apply zbn | apply zbd | refine zaa ?_ GE101.out | refine zaa ?_ GE121.out) | exact HB.out)⟩⟩
 clear HC20
 try clear c1
 try clear c2
 try clear p2
 try clear c3
 try clear c4
 try clear c4b0
 try clear c8
 try clear c9
 try clear c9b0
 try clear c29
 try clear c31
 try clear c36
 try clear c41
 try clear c42
 try clear c43
 try clear c43b0
 try clear c43b1
 try clear c43b2
 try clear hcz11_0
 try clear hcz11_1
 try clear hcz22_0
 try clear hcz22_1
 try clear hcz25_0
 try clear hcz25_1
 try clear hcz32_0
 try clear hcz32_1
 try clear hcz37_0
 try clear hcz37_1
 try clear hcz40_0
 try clear hcz40_1
 try clear hcz6_0
 try clear hcz6_1
 try clear hfz11_0
 try clear hfz11_1
 try clear hfz22_0
 try clear hfz22_1
 try clear hfz25_0
 try clear hfz25_1
 try clear hfz32_0
 try clear hfz32_1
 try clear hfz37_0
 try clear hfz37_1
 try clear hfz40_0
 try clear hfz40_1
 try clear hfz6_0
 try clear hfz6_1
 obtain ⟨kq, x47_19, rfl, HA, HJ19, HO_9, HO_122000, HO_122001, BK101, BK121, HB⟩ := hcut
 cases kq with
 | zero => exact absurd HA.out (by simp [zam])
 | succ kj19 =>
 have H := HA.out
 clear HA
 simp only [zam] at H
 by_cases c44 : x47_19 = true
 · subst c44
   replace H : (some false) = some r := by rw [if_pos rfl] at H; exact H
   obtain rfl := zsi H
   go_wp2
   go_ret
   exact ⟨by first | rfl | (simp <;> rfl) | (simp [*] <;> rfl), by repeat (first | (with_reducible first | exact HB.out | apply zba | apply zbn | apply zbd | refine zaa ?_ GE101.out | refine zaa ?_ GE121.out) | exact HB.out)⟩
 replace c44 := zbf c44
 subst c44
 replace H : ((zbm kj19 l0_0 l0_1).bind fun bt127 => ((zeb kj19 t115 t118 bt127.1 bt127.2).bind fun t133 => (if t133 = true then ((za7 kj19 l1).bind fun t134 => ((zc0 kj19 t122 t134).bind fun t137 => (if t137 = true then (some true) else (some false)))) else (some false)))) = some r := by rw [if_neg (show ¬ (false = true) by decide)] at H; exact H
 replace H := zob H
 obtain ⟨⟨t127, t130⟩, A450, H⟩ := H
 replace H : ((zeb kj19 t115 t118 t127 t130).bind fun t133 => (if t133 = true then ((za7 kj19 l1).bind fun t134 => ((zc0 kj19 t122 t134).bind fun t137 => (if t137 = true then (some true) else (some false)))) else (some false))) = some r := H
 have A45 := zA A450
 clear A450
 replace H := zob H
 obtain ⟨t133, A460, H⟩ := H
 replace H : (if t133 = true then ((za7 kj19 l1).bind fun t134 => ((zc0 kj19 t122 t134).bind fun t137 => (if t137 = true then (some true) else (some false)))) else (some false)) = some r := H
 have A46 := zA A460
 clear A460
 by_cases c47 : t133 = true
 rotate_left
 · replace c47 := zbf c47
   subst c47
   replace H : (some false) = some r := by rw [if_neg (show ¬ (false = true) by decide)] at H; exact H
   obtain rfl := zsi H
   try go_wp2
   have n0_ := zA (zRd HO_9.out)
   have n1_ := zA (zRd HO_122000.out)
   have n2_ := zA (zRd HO_122001.out)
   have n3_ := zA (zkd BK101.out)
   have n4_ := zA (zkd BK121.out)
   have n5_ := zA (zbd HB.out)
   clear HO_9
   clear HO_122000
   clear HO_122001
   clear BK101
   clear BK121
   clear HB
   have HO_9 := n0_
   have HO_122000 := n1_
   have HO_122001 := n2_
   have BK101 := n3_
   have BK121 := n4_
   have HB := n5_
   clear n0_ n1_ n2_ n3_ n4_ n5_
   refine zi5 (n := 5) (S := fun w' => w'.cell? ⟨gb121, 0, none⟩ = some (.slice Ao35 t115.length co35) ∧ w'.cell? ⟨gb121, 1, none⟩ = some (.slice Ao38 t118.length co38) ∧ w'.cell? ⟨gb101, 0, none⟩ = some (.slice A0_0 l0_0.length c0_0) ∧ w'.cell? ⟨gb101, 1, none⟩ = some (.slice A0_1 l0_1.length c0_1)) (ds := []) #[false, false, false, false, false] (by kernel_rfl) rfl rfl ⟨(zad BK121.out 0).trans rfl, (zad BK121.out 1).trans rfl, (zad BK101.out 0).trans rfl, (zad BK101.out 1).trans rfl⟩ (fun hHeld => ?_)
   generalize wc.drew = w67 at HO_9 HO_122000 HO_122001 BK101 BK121 HB hHeld ⊢
   refine take_ (i := 0) (N := some 48) (v := ?_) (a' := ?_) #[true, false, false, false, false] rfl rfl (by kernel_rfl) (fun _ _ _ h => h) (Or.inl ⟨by rfl, ?_⟩) hHeld ?_ ?_
   rotate_left
   · rintro w' ⟨s0, s1, s2, s3⟩
     go_simp
     with_reducible rfl
   rotate_left
   · simp only [Act.put, zla, zlb, zlc, za5, zbb]
     rfl
   refine take_ (i := 1) (N := some 49) (v := ?_) (a' := ?_) #[true, true, false, false, false] rfl rfl (by kernel_rfl) (fun _ _ _ h => h) (Or.inl ⟨by rfl, ?_⟩) hHeld ?_ ?_
   rotate_left
   · rintro w' ⟨s0, s1, s2, s3⟩
     go_simp
     with_reducible rfl
   rotate_left
   · simp only [Act.put, zla, zlb, zlc, za5, zbb]
     rfl
   refine one_ (i := 2) (N := some 50) #[true, true, true, false, false] rfl rfl (by kernel_rfl) (by decide) (fun K hK => ?_)
   refine zjq Try.func43 (by kernel_rfl) rfl #[.agg #[.slice A0_0 l0_0.length c0_0, .slice A0_1 l0_1.length c0_1]] (by rfl) rfl rfl (by first | rfl | (simp only [zld, zle, zlf, zlg, zlh] <;> rfl)) ?_
   with_reducible refine (zez kj19 _ _ l0_0 _ _ l0_1 t127 t130 _ ?side1 ?side2 ?side3 ?side4 A45.out).mono ?_
   (case side1 => repeat (first | exact (zCb HR0_0.out HB.out) | (with_reducible first | refine zCa ?_ _ | refine zCn ?_ _ | refine zCd ?_)))
   (case side2 => exact HC0_0.out)
   (case side3 => repeat (first | exact (zCb HR0_1.out HB.out) | (with_reducible first | refine zCa ?_ _ | refine zCn ?_ _ | refine zCd ?_)))
   (case side4 => exact HC0_1.out)
   rintro e w68 ⟨v128, v131, rfl, ho0, ho1, hb⟩
   refine ⟨_, rfl, ?_⟩
   have n0_ := zA (zRb (by (with_reducible repeat (first | apply zRa | apply zRn | apply zRd)); exact HO_9.out) hb)
   have n1_ := zA (Kd.R_elder' (by (with_reducible repeat (first | apply zRa | apply zRn | apply zRd)); exact HO_122000.out) (Kd.R_base ho0) hb)
   have n2_ := zA (Kd.R_elder' (by (with_reducible repeat (first | apply zRa | apply zRn | apply zRd)); exact HO_122001.out) (Kd.R_base ho1) hb)
   have n3_ := zA (Kd.R_lower (Kd.R_new' ho0 (Kd.R_lt (by (with_reducible repeat (first | apply zRa | apply zRn | apply zRd)); exact HO_122000.out))) (zal (by repeat (first | (with_reducible first | exact HB.out | apply zba | apply zbn | apply zbd | refine zaa ?_ GE101.out | refine zaa ?_ GE121.out) | exact HB.out))))
   have n4_ := zA (Kd.R_lower (Kd.R_new' ho1 (Kd.R_lt (by (with_reducible repeat (first | apply zRa | apply zRn | apply zRd)); exact HO_122001.out))) (zal (by repeat (first | (with_reducible first | exact HB.out | apply zba | apply zbn | apply zbd | refine zaa ?_ GE101.out | refine zaa ?_ GE121.out) | exact HB.out))))
   have n5_ := zA (zac (g := gb101) (o := .cells #[.slice A0_0 l0_0.length c0_0, .slice A0_1 l0_1.length c0_1] 59 (0, 0)) (by (with_reducible repeat (first | refine zkn ?_ _ | refine zkd ?_ | refine zka ?_ _)); exact BK101.out) hb)
   have n6_ := zA (zac (g := gb121) (o := .cells #[.slice Ao35 t115.length co35, .slice Ao38 t118.length co38] 62 (0, 0)) (by (with_reducible repeat (first | refine zkn ?_ _ | refine zkd ?_ | refine zka ?_ _)); exact BK121.out) hb)
   have n7_ := zA (zaf (by repeat (first | (with_reducible first | exact HB.out | apply zba | apply zbn | apply zbd | refine zaa ?_ GE101.out | refine zaa ?_ GE121.out) | exact HB.out)) hb)
   clear HO_9
   clear HO_122000
   clear HO_122001
   clear BK101
   clear BK121
   clear HB
   have HO_9 := n0_
   have HO_122000 := n1_
   have HO_122001 := n2_
   have HO129 := n3_
   have HO132 := n4_
   have BK101 := n5_
   have BK121 := n6_
   have HB := n7_
   clear n0_ n1_ n2_ n3_ n4_ n5_ n6_ n7_
   (try clear hb)
   (try clear hb2)
   (try clear hk)
   (try clear hi)
   (try clear ho0)
   (try clear ho1)
   obtain ⟨Ao69, co69, eo69⟩ := Kd.R_slice HO129.out
   (first | subst eo69 | (injection eo69 with f1_ f2_ f3_; have f4_ := f1_.symm; have f5_ := f3_.symm; clear f1_ f2_ f3_; subst f4_; subst f5_))
   obtain ⟨Ao70, co70, eo70⟩ := Kd.R_slice HO132.out
   (first | subst eo70 | (injection eo70 with f1_ f2_ f3_; have f4_ := f1_.symm; have f5_ := f3_.symm; clear f1_ f2_ f3_; subst f4_; subst f5_))
   refine hK.out _ _ ⟨(zad BK121.out 0).trans rfl, (zad BK121.out 1).trans rfl, (zad BK101.out 0).trans rfl, (zad BK101.out 1).trans rfl⟩ (fun hHeld => ?_)
   clear hK K
   refine zjp (a' := ?_) ?_ ?_
   rotate_left
   · show Act.put _ (some 50) _ = _
     simp only [Act.put, zla, zlb, zlc, za5, zbb]
     rfl
   refine one_ (i := 3) (N := some 51) #[true, true, true, true, false] rfl rfl (by kernel_rfl) (by decide) (fun K hK => ?_)
   refine zjq Try.func45 (by kernel_rfl) rfl #[.agg #[.slice Ao35 t115.length co35, .slice Ao38 t118.length co38], .agg #[.slice Ao69 t127.length co69, .slice Ao70 t130.length co70]] (by rfl) rfl rfl (by first | rfl | (simp only [zld, zle, zlf, zlg, zlh] <;> rfl)) ?_
   with_reducible refine (zgh kj19 _ _ t115 _ _ t118 _ _ t127 _ _ t130 false _ ?side1 ?side2 ?side3 ?side4 ?side5 ?side6 ?side7 ?side8 A46.out).mono ?_
   (case side1 => repeat (first | exact (zRr HO_122000.out).2.2 | (with_reducible first | refine zCa ?_ _ | refine zCn ?_ _ | refine zCd ?_)))
   (case side2 => exact (zRr HO_122000.out).2.1)
   (case side3 => repeat (first | exact (zRr HO_122001.out).2.2 | (with_reducible first | refine zCa ?_ _ | refine zCn ?_ _ | refine zCd ?_)))
   (case side4 => exact (zRr HO_122001.out).2.1)
   (case side5 => repeat (first | exact (zRr HO129.out).2.2 | (with_reducible first | refine zCa ?_ _ | refine zCn ?_ _ | refine zCd ?_)))
   (case side6 => exact (zRr HO129.out).2.1)
   (case side7 => repeat (first | exact (zRr HO132.out).2.2 | (with_reducible first | refine zCa ?_ _ | refine zCn ?_ _ | refine zCd ?_)))
   (case side8 => exact (zRr HO132.out).2.1)
   rintro e w71 ⟨rfl, hb⟩
   refine ⟨_, rfl, ?_⟩
   have n0_ := zA (zRb (by (with_reducible repeat (first | apply zRa | apply zRn | apply zRd)); exact HO_9.out) hb)
   have n1_ := zA (zRb (by (with_reducible repeat (first | apply zRa | apply zRn | apply zRd)); exact HO_122000.out) hb)
   have n2_ := zA (zRb (by (with_reducible repeat (first | apply zRa | apply zRn | apply zRd)); exact HO_122001.out) hb)
   have n3_ := zA (zRb (by (with_reducible repeat (first | apply zRa | apply zRn | apply zRd)); exact HO129.out) hb)
   have n4_ := zA (zRb (by (with_reducible repeat (first | apply zRa | apply zRn | apply zRd)); exact HO132.out) hb)
   have n5_ := zA (zac (g := gb101) (o := .cells #[.slice A0_0 l0_0.length c0_0, .slice A0_1 l0_1.length c0_1] 59 (0, 0)) (by (with_reducible repeat (first | refine zkn ?_ _ | refine zkd ?_ | refine zka ?_ _)); exact BK101.out) hb)
   have n6_ := zA (zac (g := gb121) (o := .cells #[.slice Ao35 t115.length co35, .slice Ao38 t118.length co38] 62 (0, 0)) (by (with_reducible repeat (first | refine zkn ?_ _ | refine zkd ?_ | refine zka ?_ _)); exact BK121.out) hb)
   have n7_ := zA (zaf (by repeat (first | (with_reducible first | exact HB.out | apply zba | apply zbn | apply zbd | refine zaa ?_ GE101.out | refine zaa ?_ GE121.out) | exact HB.out)) hb)
   clear HO_9
   clear HO_122000
   clear HO_122001
   clear HO129
   clear HO132
   clear BK101
   clear BK121
   clear HB
   have HO_9 := n0_
   have HO_122000 := n1_
   have HO_122001 := n2_
   have HO129 := n3_
   have HO132 := n4_
   have BK101 := n5_
   have BK121 := n6_
   have HB := n7_
   clear n0_ n1_ n2_ n3_ n4_ n5_ n6_ n7_
   (try clear hb)
   (try clear hb2)
   (try clear hk)
   (try clear hi)
   refine hK.out _ _ ⟨(zad BK121.out 0).trans rfl, (zad BK121.out 1).trans rfl, (zad BK101.out 0).trans rfl, (zad BK101.out 1).trans rfl⟩ (fun hHeld => ?_)
   clear hK K
   refine zjp (a' := ?_) ?_ ?_
   rotate_left
   · show Act.put _ (some 51) _ = _
     simp only [Act.put, zla, zlb, zlc, za5, zbb]
     rfl
   refine zcz (i := 4) (N := some 52) (v := ?_) (a' := ?_) #[true, true, true, true, true] rfl rfl (by kernel_rfl) (fun _ _ _ h => h) (Or.inl ⟨by rfl, ?_⟩) ?_ ?_
   rotate_left
   · intro w'
     go_simp
     with_reducible rfl
   rotate_left
   · simp only [Act.put, zla, zlb, zlc, za5, zbb]
     rfl
   refine zly (by kernel_rfl) ?_
   try go_wp2
   go_ret
   exact ⟨by first | rfl | (simp <;> rfl) | (simp [*] <;> rfl), by repeat (first | (with_reducible first | exact HB.out | apply zba | apply zbn | apply zbd | refine zaa ?_ GE101.out | refine zaa ?_ GE121.out) | exact HB.out)⟩
 subst c47
 replace H : ((za7 kj19 l1).bind fun t134 => ((zc0 kj19 t122 t134).bind fun t137 => (if t137 = true then (some true) else (some false)))) = some r := by rw [if_pos rfl] at H; exact H
 replace H := zob H
 obtain ⟨t134, A480, H⟩ := H
 replace H : ((zc0 kj19 t122 t134).bind fun t137 => (if t137 = true then (some true) else (some false))) = some r := H
 have A48 := zA A480
 clear A480
 replace H := zob H
 obtain ⟨t137, A490, H⟩ := H
 replace H : (if t137 = true then (some true) else (some false)) = some r := H
 have A49 := zA A490
 clear A490
 by_cases c50 : t137 = true
 · subst c50
   replace H : (some true) = some r := by rw [if_pos rfl] at H; exact H
   obtain rfl := zsi H
   try go_wp2
   have n0_ := zA (zRd HO_9.out)
   have n1_ := zA (zRd HO_122000.out)
   have n2_ := zA (zRd HO_122001.out)
   have n3_ := zA (zkd BK101.out)
   have n4_ := zA (zkd BK121.out)
   have n5_ := zA (zbd HB.out)
   clear HO_9
   clear HO_122000
   clear HO_122001
   clear BK101
   clear BK121
   clear HB
   have HO_9 := n0_
   have HO_122000 := n1_
   have HO_122001 := n2_
   have BK101 := n3_
   have BK121 := n4_
   have HB := n5_
   clear n0_ n1_ n2_ n3_ n4_ n5_
   refine zi5 (n := 5) (S := fun w' => w'.cell? ⟨gb121, 0, none⟩ = some (.slice Ao35 t115.length co35) ∧ w'.cell? ⟨gb121, 1, none⟩ = some (.slice Ao38 t118.length co38) ∧ w'.cell? ⟨gb101, 0, none⟩ = some (.slice A0_0 l0_0.length c0_0) ∧ w'.cell? ⟨gb101, 1, none⟩ = some (.slice A0_1 l0_1.length c0_1)) (ds := []) #[false, false, false, false, false] (by kernel_rfl) rfl rfl ⟨(zad BK121.out 0).trans rfl, (zad BK121.out 1).trans rfl, (zad BK101.out 0).trans rfl, (zad BK101.out 1).trans rfl⟩ (fun hHeld => ?_)
   generalize wc.drew = w51 at HO_9 HO_122000 HO_122001 BK101 BK121 HB hHeld ⊢
   refine take_ (i := 0) (N := some 48) (v := ?_) (a' := ?_) #[true, false, false, false, false] rfl rfl (by kernel_rfl) (fun _ _ _ h => h) (Or.inl ⟨by rfl, ?_⟩) hHeld ?_ ?_
   rotate_left
   · rintro w' ⟨s0, s1, s2, s3⟩
     go_simp
     with_reducible rfl
   rotate_left
   · simp only [Act.put, zla, zlb, zlc, za5, zbb]
     rfl
   refine take_ (i := 1) (N := some 49) (v := ?_) (a' := ?_) #[true, true, false, false, false] rfl rfl (by kernel_rfl) (fun _ _ _ h => h) (Or.inl ⟨by rfl, ?_⟩) hHeld ?_ ?_
   rotate_left
   · rintro w' ⟨s0, s1, s2, s3⟩
     go_simp
     with_reducible rfl
   rotate_left
   · simp only [Act.put, zla, zlb, zlc, za5, zbb]
     rfl
   refine one_ (i := 2) (N := some 50) #[true, true, true, false, false] rfl rfl (by kernel_rfl) (by decide) (fun K hK => ?_)
   refine zjq Try.func43 (by kernel_rfl) rfl #[.agg #[.slice A0_0 l0_0.length c0_0, .slice A0_1 l0_1.length c0_1]] (by rfl) rfl rfl (by first | rfl | (simp only [zld, zle, zlf, zlg, zlh] <;> rfl)) ?_
   with_reducible refine (zez kj19 _ _ l0_0 _ _ l0_1 t127 t130 _ ?side1 ?side2 ?side3 ?side4 A45.out).mono ?_
   (case side1 => repeat (first | exact (zCb HR0_0.out HB.out) | (with_reducible first | refine zCa ?_ _ | refine zCn ?_ _ | refine zCd ?_)))
   (case side2 => exact HC0_0.out)
   (case side3 => repeat (first | exact (zCb HR0_1.out HB.out) | (with_reducible first | refine zCa ?_ _ | refine zCn ?_ _ | refine zCd ?_)))
   (case side4 => exact HC0_1.out)
   rintro e w52 ⟨v128, v131, rfl, ho0, ho1, hb⟩
   refine ⟨_, rfl, ?_⟩
   have n0_ := zA (zRb (by (with_reducible repeat (first | apply zRa | apply zRn | apply zRd)); exact HO_9.out) hb)
   have n1_ := zA (Kd.R_elder' (by (with_reducible repeat (first | apply zRa | apply zRn | apply zRd)); exact HO_122000.out) (Kd.R_base ho0) hb)
   have n2_ := zA (Kd.R_elder' (by (with_reducible repeat (first | apply zRa | apply zRn | apply zRd)); exact HO_122001.out) (Kd.R_base ho1) hb)
   have n3_ := zA (Kd.R_lower (Kd.R_new' ho0 (Kd.R_lt (by (with_reducible repeat (first | apply zRa | apply zRn | apply zRd)); exact HO_122000.out))) (zal (by repeat (first | (with_reducible first | exact HB.out | apply zba | apply zbn | apply zbd | refine zaa ?_ GE101.out | refine zaa ?_ GE121.out) | exact HB.out))))
   have n4_ := zA (Kd.R_lower (Kd.R_new' ho1 (Kd.R_lt (by (with_reducible repeat (first | apply zRa | apply zRn | apply zRd)); exact HO_122001.out))) (zal (by repeat (first | (with_reducible first | exact HB.out | apply zba | apply zbn | apply zbd | refine zaa ?_ GE101.out | refine zaa ?_ GE121.out) | exact HB.out))))
   have n5_ := zA (zac (g := gb101) (o := .cells #[.slice A0_0 l0_0.length c0_0, .slice A0_1 l0_1.length c0_1] 59 (0, 0)) (by (with_reducible repeat (first | refine zkn ?_ _ | refine zkd ?_ | refine zka ?_ _)); exact BK101.out) hb)
   have n6_ := zA (zac (g := gb121) (o := .cells #[.slice Ao35 t115.length co35, .slice Ao38 t118.length co38] 62 (0, 0)) (by (with_reducible repeat (first | refine zkn ?_ _ | refine zkd ?_ | refine zka ?_ _)); exact BK121.out) hb)
   have n7_ := zA (zaf (by repeat (first | (with_reducible first | exact HB.out | apply zba | apply zbn | apply zbd | refine zaa ?_ GE101.out | refine zaa ?_ GE121.out) | exact HB.out)) hb)
   clear HO_9
   clear HO_122000
   clear HO_122001
   clear BK101
   clear BK121
   clear HB
   have HO_9 := n0_
   have HO_122000 := n1_
   have HO_122001 := n2_
   have HO129 := n3_
   have HO132 := n4_
   have BK101 := n5_
   have BK121 := n6_
   have HB := n7_
   clear n0_ n1_ n2_ n3_ n4_ n5_ n6_ n7_
   (try clear hb)
   (try clear hb2)
   (try clear hk)
   (try clear hi)
   (try clear ho0)
   (try clear ho1)
   obtain ⟨Ao53, co53, eo53⟩ := Kd.R_slice HO129.out
   (first | subst eo53 | (injection eo53 with f1_ f2_ f3_; have f4_ := f1_.symm; have f5_ := f3_.symm; clear f1_ f2_ f3_; subst f4_; subst f5_))
   obtain ⟨Ao54, co54, eo54⟩ := Kd.R_slice HO132.out
   (first | subst eo54 | (injection eo54 with f1_ f2_ f3_; have f4_ := f1_.symm; have f5_ := f3_.symm; clear f1_ f2_ f3_; subst f4_; subst f5_))
   refine hK.out _ _ ⟨(zad BK121.out 0).trans rfl, (zad BK121.out 1).trans rfl, (zad BK101.out 0).trans rfl, (zad BK101.out 1).trans rfl⟩ (fun hHeld => ?_)
   clear hK K
   refine zjp (a' := ?_) ?_ ?_
   rotate_left
   · show Act.put _ (some 50) _ = _
     simp only [Act.put, zla, zlb, zlc, za5, zbb]
     rfl
   refine one_ (i := 3) (N := some 51) #[true, true, true, true, false] rfl rfl (by kernel_rfl) (by decide) (fun K hK => ?_)
   refine zjq Try.func45 (by kernel_rfl) rfl #[.agg #[.slice Ao35 t115.length co35, .slice Ao38 t118.length co38], .agg #[.slice Ao53 t127.length co53, .slice Ao54 t130.length co54]] (by rfl) rfl rfl (by first | rfl | (simp only [zld, zle, zlf, zlg, zlh] <;> rfl)) ?_
   with_reducible refine (zgh kj19 _ _ t115 _ _ t118 _ _ t127 _ _ t130 true _ ?side1 ?side2 ?side3 ?side4 ?side5 ?side6 ?side7 ?side8 A46.out).mono ?_
   (case side1 => repeat (first | exact (zRr HO_122000.out).2.2 | (with_reducible first | refine zCa ?_ _ | refine zCn ?_ _ | refine zCd ?_)))
   (case side2 => exact (zRr HO_122000.out).2.1)
   (case side3 => repeat (first | exact (zRr HO_122001.out).2.2 | (with_reducible first | refine zCa ?_ _ | refine zCn ?_ _ | refine zCd ?_)))
   (case side4 => exact (zRr HO_122001.out).2.1)
   (case side5 => repeat (first | exact (zRr HO129.out).2.2 | (with_reducible first | refine zCa ?_ _ | refine zCn ?_ _ | refine zCd ?_)))
   (case side6 => exact (zRr HO129.out).2.1)
   (case side7 => repeat (first | exact (zRr HO132.out).2.2 | (with_reducible first | refine zCa ?_ _ | refine zCn ?_ _ | refine zCd ?_)))
   (case side8 => exact (zRr HO132.out).2.1)
   rintro e w55 ⟨rfl, hb⟩
   refine ⟨_, rfl, ?_⟩
   have n0_ := zA (zRb (by (with_reducible repeat (first | apply zRa | apply zRn | apply zRd)); exact HO_9.out) hb)
   have n1_ := zA (zRb (by (with_reducible repeat (first | apply zRa | apply zRn | apply zRd)); exact HO_122000.out) hb)
   have n2_ := zA (zRb (by (with_reducible repeat (first | apply zRa | apply zRn | apply zRd)); exact HO_122001.out) hb)
   have n3_ := zA (zRb (by (with_reducible repeat (first | apply zRa | apply zRn | apply zRd)); exact HO129.out) hb)
   have n4_ := zA (zRb (by (with_reducible repeat (first | apply zRa | apply zRn | apply zRd)); exact HO132.out) hb)
   have n5_ := zA (zac (g := gb101) (o := .cells #[.slice A0_0 l0_0.length c0_0, .slice A0_1 l0_1.length c0_1] 59 (0, 0)) (by (with_reducible repeat (first | refine zkn ?_ _ | refine zkd ?_ | refine zka ?_ _)); exact BK101.out) hb)
   have n6_ := zA (zac (g := gb121) (o := .cells #[.slice Ao35 t115.length co35, .slice Ao38 t118.length co38] 62 (0, 0)) (by (with_reducible repeat (first | refine zkn ?_ _ | refine zkd ?_ | refine zka ?_ _)); exact BK121.out) hb)
   have n7_ := zA (zaf (by repeat (first | (with_reducible first | exact HB.out | apply zba | apply zbn | apply zbd | refine zaa ?_ GE101.out | refine zaa ?_ GE121.out) | exact HB.out)) hb)
   clear HO_9
   clear HO_122000
   clear HO_122001
   clear HO129
   clear HO132
   clear BK101
   clear BK121
   clear HB
   have HO_9 := n0_
   have HO_122000 := n1_
   have HO_122001 := n2_
   have HO129 := n3_
   have HO132 := n4_
   have BK101 := n5_
   have BK121 := n6_
   have HB := n7_
   clear n0_ n1_ n2_ n3_ n4_ n5_ n6_ n7_
   (try clear hb)
   (try clear hb2)
   (try clear hk)
   (try clear hi)
   refine hK.out _ _ ⟨(zad BK121.out 0).trans rfl, (zad BK121.out 1).trans rfl, (zad BK101.out 0).trans rfl, (zad BK101.out 1).trans rfl⟩ (fun hHeld => ?_)
   clear hK K
   refine zjp (a' := ?_) ?_ ?_
   rotate_left
   · show Act.put _ (some 51) _ = _
     simp only [Act.put, zla, zlb, zlc, za5, zbb]
     rfl
   refine zcz (i := 4) (N := some 52) (v := ?_) (a' := ?_) #[true, true, true, true, true] rfl rfl (by kernel_rfl) (fun _ _ _ h => h) (Or.inl ⟨by rfl, ?_⟩) ?_ ?_
   rotate_left
   · intro w'
     go_simp
     with_reducible rfl
   rotate_left
   · simp only [Act.put, zla, zlb, zlc, za5, zbb]
     rfl
   refine zly (by kernel_rfl) ?_
   try go_wp2_with (first | ((with_reducible refine zag (f := 31) rfl ?_); refine za9 (some 55) rfl rfl Try.func31 (by kernel_rfl) rfl #[.slice A1 l1.length c1] rfl (by first | rfl | (simp only [zld, zle, zlf, zlg, zlh] <;> rfl)) ?_; (with_reducible refine (zfi kj19 _ _ l1 t134 _ ?side1 ?side2 A48.out).mono ?_); (case side1 => repeat (first | exact (zCb HR1.out HB.out) | (with_reducible first | refine zCa ?_ _ | refine zCn ?_ _ | refine zCd ?_))); (case side2 => exact HC1.out); rintro e w56 ⟨v135, rfl, ho0, hb⟩; refine ⟨_, rfl, ?_⟩; have n0_ := zA (Kd.R_elder' (by (with_reducible repeat (first | apply zRa | apply zRn | apply zRd)); exact HO_9.out) (Kd.R_base ho0) hb); have n1_ := zA (zRb (by (with_reducible repeat (first | apply zRa | apply zRn | apply zRd)); exact HO_122000.out) hb); have n2_ := zA (zRb (by (with_reducible repeat (first | apply zRa | apply zRn | apply zRd)); exact HO_122001.out) hb); have n3_ := zA (zRb (by (with_reducible repeat (first | apply zRa | apply zRn | apply zRd)); exact HO129.out) hb); have n4_ := zA (zRb (by (with_reducible repeat (first | apply zRa | apply zRn | apply zRd)); exact HO132.out) hb); have n5_ := zA (Kd.R_lower (Kd.R_new' ho0 (Kd.R_lt (by (with_reducible repeat (first | apply zRa | apply zRn | apply zRd)); exact HO_9.out))) (zal (by repeat (first | (with_reducible first | exact HB.out | apply zba | apply zbn | apply zbd | refine zaa ?_ GE101.out | refine zaa ?_ GE121.out) | exact HB.out)))); have n6_ := zA (zac (g := gb101) (o := .cells #[.slice A0_0 l0_0.length c0_0, .slice A0_1 l0_1.length c0_1] 59 (0, 0)) (by (with_reducible repeat (first | refine zkn ?_ _ | refine zkd ?_ | refine zka ?_ _)); exact BK101.out) hb); have n7_ := zA (zac (g := gb121) (o := .cells #[.slice Ao35 t115.length co35, .slice Ao38 t118.length co38] 62 (0, 0)) (by (with_reducible repeat (first | refine zkn ?_ _ | refine zkd ?_ | refine zka ?_ _)); exact BK121.out) hb); have n8_ := zA (zaf (by repeat (first | (with_reducible first | exact HB.out | apply zba | apply zbn | apply zbd | refine zaa ?_ GE101.out | refine zaa ?_ GE121.out) | exact HB.out)) hb); clear HO_9 HO_122000; clear HO_122001 HO129; clear HO132 BK101; clear BK121 HB; have HO_9 := n0_; have HO_122000 := n1_; have HO_122001 := n2_; have HO129 := n3_; have HO132 := n4_; have HO136 := n5_; have BK101 := n6_; have BK121 := n7_; have HB := n8_; clear n0_ n1_ n2_ n3_ n4_ n5_ n6_ n7_ n8_; (try clear hb); (try clear ho0); obtain ⟨Ao57, co57, eo57⟩ := Kd.R_slice HO136.out; subst eo57) | ((with_reducible refine zag (f := 33) rfl ?_); refine za9 (some 56) rfl rfl Try.func33 (by kernel_rfl) rfl #[.slice Ao41 t122.length co41, .slice Ao57 t134.length co57] rfl (by first | rfl | (simp only [zld, zle, zlf, zlg, zlh] <;> rfl)) ?_; (with_reducible refine (zh5 kj19 _ _ t122 _ _ t134 true _ ?side1 ?side2 ?side3 ?side4 A49.out).mono ?_); (case side1 => repeat (first | exact (zRr HO_9.out).2.2 | (with_reducible first | refine zCa ?_ _ | refine zCn ?_ _ | refine zCd ?_))); (case side2 => exact (zRr HO_9.out).2.1); (case side3 => repeat (first | exact (zRr HO136.out).2.2 | (with_reducible first | refine zCa ?_ _ | refine zCn ?_ _ | refine zCd ?_))); (case side4 => exact (zRr HO136.out).2.1); rintro e w58 ⟨rfl, hb⟩; refine ⟨_, rfl, ?_⟩; have n0_ := zA (zRb (by (with_reducible repeat (first | apply zRa | apply zRn | apply zRd)); exact HO_9.out) hb); have n1_ := zA (zRb (by (with_reducible repeat (first | apply zRa | apply zRn | apply zRd)); exact HO_122000.out) hb); have n2_ := zA (zRb (by (with_reducible repeat (first | apply zRa | apply zRn | apply zRd)); exact HO_122001.out) hb); have n3_ := zA (zRb (by (with_reducible repeat (first | apply zRa | apply zRn | apply zRd)); exact HO129.out) hb); have n4_ := zA (zRb (by (with_reducible repeat (first | apply zRa | apply zRn | apply zRd)); exact HO132.out) hb); have n5_ := zA (zRb (by (with_reducible repeat (first | apply zRa | apply zRn | apply zRd)); exact HO136.out) hb); have n6_ := zA (zac (g := gb101) (o := .cells #[.slice A0_0 l0_0.length c0_0, .slice A0_1 l0_1.length c0_1] 59 (0, 0)) (by (with_reducible repeat (first | refine zkn ?_ _ | refine zkd ?_ | refine zka ?_ _)); exact BK101.out) hb); have n7_ := zA (zac (g := gb121) (o := .cells #[.slice Ao35 t115.length co35, .slice Ao38 t118.length co38] 62 (0, 0)) (by (with_reducible repeat (first | refine zkn ?_ _ | refine zkd ?_ | refine zka ?_ _)); exact BK121.out) hb); have n8_ := zA (zaf (by repeat (first | (with_reducible first | exact HB.out | apply zba | apply zbn | apply zbd | refine zaa ?_ GE101.out | refine zaa ?_ GE121.out) | exact HB.out)) hb); clear HO_9 HO_122000; clear HO_122001 HO129; clear HO132 HO136; clear BK101 BK121 HB; have HO_9 := n0_; have HO_122000 := n1_; have HO_122001 := n2_; have HO129 := n3_; have HO132 := n4_; have HO136 := n5_; have BK101 := n6_; have BK121 := n7_; have HB := n8_; clear n0_ n1_ n2_ n3_ n4_ n5_ n6_ n7_ n8_; (try clear hb)))
   go_ret
   exact ⟨by first | rfl | (simp <;> rfl) | (simp [*] <;> rfl), by repeat (first | (with_reducible first | exact HB.out | apply zba | apply zbn | apply zbd | refine zaa ?_ GE101.out | refine zaa ?_ GE121.out) | exact HB.out)⟩
 replace c50 := zbf c50
 subst c50
 replace H : (some false) = some r := by rw [if_neg (show ¬ (false = true) by decide)] at H; exact H
 obtain rfl := zsi H
 try go_wp2
 have n0_ := zA (zRd HO_9.out)
 have n1_ := zA (zRd HO_122000.out)
 have n2_ := zA (zRd HO_122001.out)
 have n3_ := zA (zkd BK101.out)
 have n4_ := zA (zkd BK121.out)
 have n5_ := zA (zbd HB.out)
 clear HO_9
 clear HO_122000
 clear HO_122001
 clear BK101
 clear BK121
 clear HB
 have HO_9 := n0_
 have HO_122000 := n1_
 have HO_122001 := n2_
 have BK101 := n3_
 have BK121 := n4_
 have HB := n5_
 clear n0_ n1_ n2_ n3_ n4_ n5_
 refine zi5 (n := 5) (S := fun w' => w'.cell? ⟨gb121, 0, none⟩ = some (.slice Ao35 t115.length co35) ∧ w'.cell? ⟨gb121, 1, none⟩ = some (.slice Ao38 t118.length co38) ∧ w'.cell? ⟨gb101, 0, none⟩ = some (.slice A0_0 l0_0.length c0_0) ∧ w'.cell? ⟨gb101, 1, none⟩ = some (.slice A0_1 l0_1.length c0_1)) (ds := []) #[false, false, false, false, false] (by kernel_rfl) rfl rfl ⟨(zad BK121.out 0).trans rfl, (zad BK121.out 1).trans rfl, (zad BK101.out 0).trans rfl, (zad BK101.out 1).trans rfl⟩ (fun hHeld => ?_)
 generalize wc.drew = w59 at HO_9 HO_122000 HO_122001 BK101 BK121 HB hHeld ⊢
 refine take_ (i := 0) (N := some 48) (v := ?_) (a' := ?_) #[true, false, false, false, false] rfl rfl (by kernel_rfl) (fun _ _ _ h => h) (Or.inl ⟨by rfl, ?_⟩) hHeld ?_ ?_
 rotate_left
 · rintro w' ⟨s0, s1, s2, s3⟩
   go_simp
   with_reducible rfl
 rotate_left
 · simp only [Act.put, zla, zlb, zlc, za5, zbb]
   rfl
 refine take_ (i := 1) (N := some 49) (v := ?_) (a' := ?_) #[true, true, false, false, false] rfl rfl (by kernel_rfl) (fun _ _ _ h => h) (Or.inl ⟨by rfl, ?_⟩) hHeld ?_ ?_
 rotate_left
 · rintro w' ⟨s0, s1, s2, s3⟩
   go_simp
   with_reducible rfl
 rotate_left
 · simp only [Act.put, zla, zlb, zlc, za5, zbb]
   rfl
 refine one_ (i := 2) (N := some 50) #[true, true, true, false, false] rfl rfl (by kernel_rfl) (by decide) (fun K hK => ?_)
 refine zjq Try.func43 (by kernel_rfl) rfl #[.agg #[.slice A0_0 l0_0.length c0_0, .slice A0_1 l0_1.length c0_1]] (by rfl) rfl rfl (by first | rfl | (simp only [zld, zle, zlf, zlg, zlh] <;> rfl)) ?_
 with_reducible refine (zez kj19 _ _ l0_0 _ _ l0_1 t127 t130 _ ?side1 ?side2 ?side3 ?side4 A45.out).mono ?_
 (case side1 => repeat (first | exact (zCb HR0_0.out HB.out) | (with_reducible first | refine zCa ?_ _ | refine zCn ?_ _ | refine zCd ?_)))
 (case side2 => exact HC0_0.out)
 (case side3 => repeat (first | exact (zCb HR0_1.out HB.out) | (with_reducible first | refine zCa ?_ _ | refine zCn ?_ _ | refine zCd ?_)))
 (case side4 => exact HC0_1.out)
 rintro e w60 ⟨v128, v131, rfl, ho0, ho1, hb⟩
 refine ⟨_, rfl, ?_⟩
 have n0_ := zA (zRb (by (with_reducible repeat (first | apply zRa | apply zRn | apply zRd)); exact HO_9.out) hb)
 have n1_ := zA (Kd.R_elder' (by (with_reducible repeat (first | apply zRa | apply zRn | apply zRd)); exact HO_122000.out) (Kd.R_base ho0) hb)
 have n2_ := zA (Kd.R_elder' (by (with_reducible repeat (first | apply zRa | apply zRn | apply zRd)); exact HO_122001.out) (Kd.R_base ho1) hb)
 have n3_ := zA (Kd.R_lower (Kd.R_new' ho0 (Kd.R_lt (by (with_reducible repeat (first | apply zRa | apply zRn | apply zRd)); exact HO_122000.out))) (zal (by repeat (first | (with_reducible first | exact HB.out | apply zba | apply zbn | apply zbd | refine zaa ?_ GE101.out | refine zaa ?_ GE121.out) | exact HB.out))))
 have n4_ := zA (Kd.R_lower (Kd.R_new' ho1 (Kd.R_lt (by (with_reducible repeat (first | apply zRa | apply zRn | apply zRd)); exact HO_122001.out))) (zal (by repeat (first | (with_reducible first | exact HB.out | apply zba | apply zbn | apply zbd | refine zaa ?_ GE101.out | refine zaa ?_ GE121.out) | exact HB.out))))
 have n5_ := zA (zac (g := gb101) (o := .cells #[.slice A0_0 l0_0.length c0_0, .slice A0_1 l0_1.length c0_1] 59 (0, 0)) (by (with_reducible repeat (first | refine zkn ?_ _ | refine zkd ?_ | refine zka ?_ _)); exact BK101.out) hb)
 have n6_ := zA (zac (g := gb121) (o := .cells #[.slice Ao35 t115.length co35, .slice Ao38 t118.length co38] 62 (0, 0)) (by (with_reducible repeat (first | refine zkn ?_ _ | refine zkd ?_ | refine zka ?_ _)); exact BK121.out) hb)
 have n7_ := zA (zaf (by repeat (first | (with_reducible first | exact HB.out | apply zba | apply zbn | apply zbd | refine zaa ?_ GE101.out | refine zaa ?_ GE121.out) | exact HB.out)) hb)
 clear HO_9
 clear HO_122000
 clear HO_122001
 clear BK101
 clear BK121
 clear HB
 have HO_9 := n0_
 have HO_122000 := n1_
 have HO_122001 := n2_
 have HO129 := n3_
 have HO132 := n4_
 have BK101 := n5_
 have BK121 := n6_
 have HB := n7_
 clear n0_ n1_ n2_ n3_ n4_ n5_ n6_ n7_
 (try clear hb)
 (try clear hb2)
 (try clear hk)
 (try clear hi)
 (try clear ho0)
 (try clear ho1)
 obtain ⟨Ao61, co61, eo61⟩ := Kd.R_slice HO129.out
 (first | subst eo61 | (injection eo61 with f1_ f2_ f3_; have f4_ := f1_.symm; have f5_ := f3_.symm; clear f1_ f2_ f3_; subst f4_; subst f5_))
 obtain ⟨Ao62, co62, eo62⟩ := Kd.R_slice HO132.out
 (first | subst eo62 | (injection eo62 with f1_ f2_ f3_; have f4_ := f1_.symm; have f5_ := f3_.symm; clear f1_ f2_ f3_; subst f4_; subst f5_))
 refine hK.out _ _ ⟨(zad BK121.out 0).trans rfl, (zad BK121.out 1).trans rfl, (zad BK101.out 0).trans rfl, (zad BK101.out 1).trans rfl⟩ (fun hHeld => ?_)
 clear hK K
 refine zjp (a' := ?_) ?_ ?_
 rotate_left
 · show Act.put _ (some 50) _ = _
   simp only [Act.put, zla, zlb, zlc, za5, zbb]
   rfl
 refine one_ (i := 3) (N := some 51) #[true, true, true, true, false] rfl rfl (by kernel_rfl) (by decide) (fun K hK => ?_)
 refine zjq Try.func45 (by kernel_rfl) rfl #[.agg #[.slice Ao35 t115.length co35, .slice Ao38 t118.length co38], .agg #[.slice Ao61 t127.length co61, .slice Ao62 t130.length co62]] (by rfl) rfl rfl (by first | rfl | (simp only [zld, zle, zlf, zlg, zlh] <;> rfl)) ?_
 with_reducible refine (zgh kj19 _ _ t115 _ _ t118 _ _ t127 _ _ t130 true _ ?side1 ?side2 ?side3 ?side4 ?side5 ?side6 ?side7 ?side8 A46.out).mono ?_
 (case side1 => repeat (first | exact (zRr HO_122000.out).2.2 | (with_reducible first | refine zCa ?_ _ | refine zCn ?_ _ | refine zCd ?_)))
 (case side2 => exact (zRr HO_122000.out).2.1)
 (case side3 => repeat (first | exact (zRr HO_122001.out).2.2 | (with_reducible first | refine zCa ?_ _ | refine zCn ?_ _ | refine zCd ?_)))
 (case side4 => exact (zRr HO_122001.out).2.1)
 (case side5 => repeat (first | exact (zRr HO129.out).2.2 | (with_reducible first | refine zCa ?_ _ | refine zCn ?_ _ | refine zCd ?_)))
 (case side6 => exact (zRr HO129.out).2.1)
 (case side7 => repeat (first | exact (zRr HO132.out).2.2 | (with_reducible first | refine zCa ?_ _ | refine zCn ?_ _ | refine zCd ?_)))
 (case side8 => exact (zRr HO132.out).2.1)
 rintro e w63 ⟨rfl, hb⟩
 refine ⟨_, rfl, ?_⟩
 have n0_ := zA (zRb (by (with_reducible repeat (first | apply zRa | apply zRn | apply zRd)); exact HO_9.out) hb)
 have n1_ := zA (zRb (by (with_reducible repeat (first | apply zRa | apply zRn | apply zRd)); exact HO_122000.out) hb)
 have n2_ := zA (zRb (by (with_reducible repeat (first | apply zRa | apply zRn | apply zRd)); exact HO_122001.out) hb)
 have n3_ := zA (zRb (by (with_reducible repeat (first | apply zRa | apply zRn | apply zRd)); exact HO129.out) hb)
 have n4_ := zA (zRb (by (with_reducible repeat (first | apply zRa | apply zRn | apply zRd)); exact HO132.out) hb)
 have n5_ := zA (zac (g := gb101) (o := .cells #[.slice A0_0 l0_0.length c0_0, .slice A0_1 l0_1.length c0_1] 59 (0, 0)) (by (with_reducible repeat (first | refine zkn ?_ _ | refine zkd ?_ | refine zka ?_ _)); exact BK101.out) hb)
 have n6_ := zA (zac (g := gb121) (o := .cells #[.slice Ao35 t115.length co35, .slice Ao38 t118.length co38] 62 (0, 0)) (by (with_reducible repeat (first | refine zkn ?_ _ | refine zkd ?_ | refine zka ?_ _)); exact BK121.out) hb)
 have n7_ := zA (zaf (by repeat (first | (with_reducible first | exact HB.out | apply zba | apply zbn | apply zbd | refine zaa ?_ GE101.out | refine zaa ?_ GE121.out) | exact HB.out)) hb)
 clear HO_9
 clear HO_122000
 clear HO_122001
 clear HO129
 clear HO132
 clear BK101
 clear BK121
 clear HB
 have HO_9 := n0_
 have HO_122000 := n1_
 have HO_122001 := n2_
 have HO129 := n3_
 have HO132 := n4_
 have BK101 := n5_
 have BK121 := n6_
 have HB := n7_
 clear n0_ n1_ n2_ n3_ n4_ n5_ n6_ n7_
 (try clear hb)
 (try clear hb2)
 (try clear hk)
 (try clear hi)
 refine hK.out _ _ ⟨(zad BK121.out 0).trans rfl, (zad BK121.out 1).trans rfl, (zad BK101.out 0).trans rfl, (zad BK101.out 1).trans rfl⟩ (fun hHeld => ?_)
 clear hK K
 refine zjp (a' := ?_) ?_ ?_
 rotate_left
 · show Act.put _ (some 51) _ = _
   simp only [Act.put, zla, zlb, zlc, za5, zbb]
   rfl
 refine zcz (i := 4) (N := some 52) (v := ?_) (a' := ?_) #[true, true, true, true, true] rfl rfl (by kernel_rfl) (fun _ _ _ h => h) (Or.inl ⟨by rfl, ?_⟩) ?_ ?_
 rotate_left
 · intro w'
   go_simp
   with_reducible rfl
 rotate_left
 · simp only [Act.put, zla, zlb, zlc, za5, zbb]
   rfl
 refine zly (by kernel_rfl) ?_
 try go_wp2_with (first | ((with_reducible refine zag (f := 31) rfl ?_); refine za9 (some 55) rfl rfl Try.func31 (by kernel_rfl) rfl #[.slice A1 l1.length c1] rfl (by first | rfl | (simp only [zld, zle, zlf, zlg, zlh] <;> rfl)) ?_; (with_reducible refine (zfi kj19 _ _ l1 t134 _ ?side1 ?side2 A48.out).mono ?_); (case side1 => repeat (first | exact (zCb HR1.out HB.out) | (with_reducible first | refine zCa ?_ _ | refine zCn ?_ _ | refine zCd ?_))); (case side2 => exact HC1.out); rintro e w64 ⟨v135, rfl, ho0, hb⟩; refine ⟨_, rfl, ?_⟩; have n0_ := zA (Kd.R_elder' (by (with_reducible repeat (first | apply zRa | apply zRn | apply zRd)); exact HO_9.out) (Kd.R_base ho0) hb); have n1_ := zA (zRb (by (with_reducible repeat (first | apply zRa | apply zRn | apply zRd)); exact HO_122000.out) hb); have n2_ := zA (zRb (by (with_reducible repeat (first | apply zRa | apply zRn | apply zRd)); exact HO_122001.out) hb); have n3_ := zA (zRb (by (with_reducible repeat (first | apply zRa | apply zRn | apply zRd)); exact HO129.out) hb); have n4_ := zA (zRb (by (with_reducible repeat (first | apply zRa | apply zRn | apply zRd)); exact HO132.out) hb); have n5_ := zA (Kd.R_lower (Kd.R_new' ho0 (Kd.R_lt (by (with_reducible repeat (first | apply zRa | apply zRn | apply zRd)); exact HO_9.out))) (zal (by repeat (first | (with_reducible first | exact HB.out | apply zba | apply zbn | apply zbd | refine zaa ?_ GE101.out | refine zaa ?_ GE121.out) | exact HB.out)))); have n6_ := zA (zac (g := gb101) (o := .cells #[.slice A0_0 l0_0.length c0_0, .slice A0_1 l0_1.length c0_1] 59 (0, 0)) (by (with_reducible repeat (first | refine zkn ?_ _ | refine zkd ?_ | refine zka ?_ _)); exact BK101.out) hb); have n7_ := zA (zac (g := gb121) (o := .cells #[.slice Ao35 t115.length co35, .slice Ao38 t118.length co38] 62 (0, 0)) (by (with_reducible repeat (first | refine zkn ?_ _ | refine zkd ?_ | refine zka ?_ _)); exact BK121.out) hb); have n8_ := zA (zaf (by repeat (first | (with_reducible first | exact HB.out | apply zba | apply zbn | apply zbd | refine zaa ?_ GE101.out | refine zaa ?_ GE121.out) | exact HB.out)) hb); clear HO_9 HO_122000; clear HO_122001 HO129; clear HO132 BK101; clear BK121 HB; have HO_9 := n0_; have HO_122000 := n1_; have HO_122001 := n2_; have HO129 := n3_; have HO132 := n4_; have HO136 := n5_; have BK101 := n6_; have BK121 := n7_; have HB := n8_; clear n0_ n1_ n2_ n3_ n4_ n5_ n6_ n7_ n8_; (try clear hb); (try clear ho0); obtain ⟨Ao65, co65, eo65⟩ := Kd.R_slice HO136.out; subst eo65) | ((with_reducible refine zag (f := 33) rfl ?_); refine za9 (some 56) rfl rfl Try.func33 (by kernel_rfl) rfl #[.slice Ao41 t122.length co41, .slice Ao65 t134.length co65] rfl (by first | rfl | (simp only [zld, zle, zlf, zlg, zlh] <;> rfl)) ?_; (with_reducible refine (zh5 kj19 _ _ t122 _ _ t134 false _ ?side1 ?side2 ?side3 ?side4 A49.out).mono ?_); (case side1 => repeat (first | exact (zRr HO_9.out).2.2 | (with_reducible first | refine zCa ?_ _ | refine zCn ?_ _ | refine zCd ?_))); (case side2 => exact (zRr HO_9.out).2.1); (case side3 => repeat (first | exact (zRr HO136.out).2.2 | (with_reducible first | refine zCa ?_ _ | refine zCn ?_ _ | refine zCd ?_))); (case side4 => exact (zRr HO136.out).2.1); rintro e w66 ⟨rfl, hb⟩; refine ⟨_, rfl, ?_⟩; have n0_ := zA (zRb (by (with_reducible repeat (first | apply zRa | apply zRn | apply zRd)); exact HO_9.out) hb); have n1_ := zA (zRb (by (with_reducible repeat (first | apply zRa | apply zRn | apply zRd)); exact HO_122000.out) hb); have n2_ := zA (zRb (by (with_reducible repeat (first | apply zRa | apply zRn | apply zRd)); exact HO_122001.out) hb); have n3_ := zA (zRb (by (with_reducible repeat (first | apply zRa | apply zRn | apply zRd)); exact HO129.out) hb); have n4_ := zA (zRb (by (with_reducible repeat (first | apply zRa | apply zRn | apply zRd)); exact HO132.out) hb); have n5_ := zA (zRb (by (with_reducible repeat (first | apply zRa | apply zRn | apply zRd)); exact HO136.out) hb); have n6_ := zA (zac (g := gb101) (o := .cells #[.slice A0_0 l0_0.length c0_0, .slice A0_1 l0_1.length c0_1] 59 (0, 0)) (by (with_reducible repeat (first | refine zkn ?_ _ | refine zkd ?_ | refine zka ?_ _)); exact BK101.out) hb); have n7_ := zA (zac (g := gb121) (o := .cells #[.slice Ao35 t115.length co35, .slice Ao38 t118.length co38] 62 (0, 0)) (by (with_reducible repeat (first | refine zkn ?_ _ | refine zkd ?_ | refine zka ?_ _)); exact BK121.out) hb); have n8_ := zA (zaf (by repeat (first | (with_reducible first | exact HB.out | apply zba | apply zbn | apply zbd | refine zaa ?_ GE101.out | refine zaa ?_ GE121.out) | exact HB.out)) hb); clear HO_9 HO_122000; clear HO_122001 HO129; clear HO132 HO136; clear BK101 BK121 HB; have HO_9 := n0_; have HO_122000 := n1_; have HO_122001 := n2_; have HO129 := n3_; have HO132 := n4_; have HO136 := n5_; have BK101 := n6_; have BK121 := n7_; have HB := n8_; clear n0_ n1_ n2_ n3_ n4_ n5_ n6_ n7_ n8_; (try clear hb)))
 go_ret
 exact ⟨by first | rfl | (simp <;> rfl) | (simp [*] <;> rfl), by repeat (first | (with_reducible first | exact HB.out | apply zba | apply zbn | apply zbd | refine zaa ?_ GE101.out | refine zaa ?_ GE121.out) | exact HB.out)⟩
end Go.Proofs.Ytccoiifklcgodaa.Q
end
section
namespace Go.Proofs.Ytccoiifklcgodaa.Rd
open Go Go.RowKit Go.Proofs.YtccoiifklcgodaaW.PrintWords Go.Proofs.YtccoiifklcgodaaW.PrintLast Go.ChangeShapes Go.WideShapes Go.Deep
set_option linter.unusedSimpArgs false
set_option linter.unusedVariables false
structure RdK {α : Type} (d : Kd α) (P : Program) (t : TypeId) (Good : α → Prop) : Prop where
  size : P.cellsOf t = d.sz
  get : ∀ {H : Type} {enc : TypeId × Value → H} {w : World} {n : Nat} {cs : List Value} {x : DataW H × List MemPlace}, DataW.trod enc P w 0 (fun _ => true) true n t cs = some x → ∃ a, d.K w a cs ∧ Good a
def okInt (k : IntKind) (n : Int) : Prop := (Lit.int k n).wf = true
def okStr (s : ByteArray) : Prop := s.size ≤ maxLen
def okSl {α : Type} (G : α → Prop) (xs : List α) : Prop := xs.length ≤ maxLen ∧ ∀ x ∈ xs, G x
theorem rk_int {P : Program} {t : TypeId} {k : IntKind} (ht : P.underlying t = some (.int k)) (hs : P.cellsOf t = 1) : RdK (Kd.int k) P t (okInt k) :=
  ⟨hs, fun h => by obtain ⟨n, rfl, _, hw⟩ := DataW.trod_int ht h; exact ⟨n, rfl, hw⟩⟩
theorem rk_string {P : Program} {t : TypeId} (ht : P.underlying t = some .string) (hs : P.cellsOf t = 1) : RdK Kd.string P t okStr :=
  ⟨hs, fun h => by obtain ⟨n, rfl, _, hw⟩ := DataW.trod_string ht h; exact ⟨n, rfl, hw⟩⟩
theorem rk_slice {α : Type} {d : Kd α} {P : Program} {t e : TypeId} {G : α → Prop} (hd : RdK d P e G) (ht : P.underlying t = some (.slice e)) (hs : P.cellsOf t = 1) : RdK (Kd.slice e d) P t (okSl G) := by
  refine ⟨hs, fun {H enc w n cs x} h => ?_⟩
  rcases open_slice ht h with ⟨rfl, _⟩ | ⟨a, len, cap, m, n', D, Pl, rfl, _, hl, hm, hmm, _, hx⟩
  · exact ⟨[], ⟨none, 0, rfl, Nat.le_refl _, rfl, Nat.zero_le _, fun h => absurd h (Nat.lt_irrefl 0)⟩, Nat.zero_le _, fun _ h => by cases h⟩
  · have hc : m = cap := by simpa using hmm
    subst hc
    have key : ∀ i : Fin len, ∃ a' : α, ∃ cs', d.K w a' cs' ∧ G a' ∧ w.cells? 0 (a.add (i * P.cellsOf e)) (P.cellsOf e) = some cs' := fun i => by
      obtain ⟨cs', h1, h2⟩ := hx i (by omega)
      obtain ⟨a', h3, h4⟩ := hd.get h2
      exact ⟨a', cs', h3, h4, h1⟩
    have hlen : (List.ofFn fun i => Classical.choose (key i)).length = len := List.length_ofFn
    refine ⟨List.ofFn fun i => Classical.choose (key i), ⟨some a, m, by rw [hlen], by omega, hlen.trans hlen.symm, ?_, fun _ => ⟨a, rfl, fun j p hj => ?_⟩⟩, by rw [hlen]; omega, fun y hy => ?_⟩
    · rw [hlen]; unfold maxLen at hm; omega
    · have hjl : j < len := by
        have := (List.getElem?_eq_some_iff.1 hj).1
        rwa [hlen] at this
      rw [List.getElem?_ofFn, dif_pos hjl, Option.some.injEq] at hj
      obtain ⟨cs', h1, h2, h3⟩ := Classical.choose_spec (key ⟨j, hjl⟩)
      rw [hj] at h1 h2
      obtain ⟨_, h5, h6⟩ := World.cells?_some h3
      refine ⟨cs', d.K_len h1, h1, fun i u hi => ?_⟩
      have hil : i < P.cellsOf e := by
        have := (List.getElem?_eq_some_iff.1 hi).1
        omega
      have := h6 i hil
      rw [Go.Deep.add_add] at this
      rw [← hd.size]
      exact this.trans hi
    · obtain ⟨i, rfl⟩ := List.mem_ofFn.1 hy
      obtain ⟨cs', h1, h2, h3⟩ := Classical.choose_spec (key i)
      exact h2
structure RdF {α : Type} (d : Kd α) (P : Program) (fs : List Field) (off : Nat) (Good : α → Prop) : Prop where
  get : ∀ {H : Type} {enc : TypeId × Value → H} {w : World} {n : Nat} {cs : List Value}, cs.length = off + d.sz →
    (∀ f ∈ fs, ∃ y, DataW.trod enc P w 0 (fun _ => true) true n f.type ((cs.drop f.offset).take (P.cellsOf f.type)) = some y) → ∃ a, d.K w a (cs.drop off) ∧ Good a
theorem rf_one {α : Type} {d : Kd α} {P : Program} {f : Field} {G : α → Prop} (hd : RdK d P f.type G) : RdF d P [f] f.offset G := by
  refine ⟨fun {H enc w n cs} hl h => ?_⟩
  obtain ⟨y, hy⟩ := h f (List.mem_singleton.2 rfl)
  rw [hd.size, List.take_of_length_le (by rw [List.length_drop]; omega)] at hy
  exact hd.get hy
theorem rf_cons {α β : Type} {d : Kd α} {d' : Kd β} {P : Program} {f : Field} {fs : List Field} {G : α → Prop} {G' : β → Prop} {off' : Nat} (hd : RdK d P f.type G) (ho : off' = f.offset + d.sz) (hf : RdF d' P fs off' G') :
    RdF (Kd.pair d d') P (f :: fs) f.offset (fun x => G x.1 ∧ G' x.2) := by
  refine ⟨fun {H enc w n cs} hl h => ?_⟩
  have hl' : cs.length = f.offset + (d.sz + d'.sz) := hl
  obtain ⟨y, hy⟩ := h f List.mem_cons_self
  rw [hd.size] at hy
  obtain ⟨a, h1, h2⟩ := hd.get hy
  obtain ⟨b, h3, h4⟩ := hf.get (cs := cs) (by omega) (fun g hg => h g (List.mem_cons_of_mem _ hg))
  refine ⟨(a, b), ⟨_, _, ?_, h1, h3⟩, h2, h4⟩
  rw [ho, ← List.drop_drop, List.take_append_drop]
theorem rk_struct {α : Type} {d : Kd α} {P : Program} {t : TypeId} {fs : Array Field} {G : α → Prop} (ht : P.underlying t = some (.struct fs)) (hs : P.cellsOf t = d.sz) (hf : RdF d P fs.toList 0 G) : RdK d P t G := by
  refine ⟨hs, fun {H enc w n cs x} h => ?_⟩
  obtain ⟨xs, n', _, _, hl, hlen, hg⟩ := DataW.trod_struct ht h
  have := hf.get (cs := cs) (enc := enc) (w := w) (n := n') (by omega) (fun f hf' => by
    obtain ⟨i, hi, he⟩ := List.getElem_of_mem hf'
    have h1 : fs[i]? = some f := by rw [← Array.getElem?_toList, List.getElem?_eq_getElem hi, he]
    have h2 := hg i f h1
    rw [List.getElem?_eq_getElem (by rw [hlen]; simpa using hi)] at h2
    exact ⟨_, h2⟩)
  simpa using this
theorem rk_iso {α β : Type} {d : Kd α} {P : Program} {t : TypeId} {G : α → Prop} (hd : RdK d P t G) (f : β → α) (g : α → β) (hfg : ∀ a, f (g a) = a) : RdK (Kd.iso d f) P t (fun b => G (f b)) := by
  refine ⟨hd.size, fun {H enc w n cs x} h => ?_⟩
  obtain ⟨a, h1, h2⟩ := hd.get h
  exact ⟨g a, by show d.K w (f (g a)) cs; rw [hfg]; exact h1, by rw [hfg]; exact h2⟩
theorem arg_slice {α : Type} {d : Kd α} {P : Program} {t e : TypeId} {G : α → Prop} (hd : RdK (Kd.slice e d) P t (okSl G)) {H : Type} {enc : TypeId × Value → H} {w : World} {a : Option Addr} {len cap : Nat} {x : DataW H} {ps : List MemPlace}
    (h : DataW.Trod enc P w 0 (fun _ => true) true t (.slice a len cap) x ps) : ∃ xs : List α, len = xs.length ∧ xs.length ≤ cap ∧ Kd.C d w a xs.length xs ∧ okSl G xs := by
  obtain ⟨n, hn⟩ := h
  obtain ⟨xs, ⟨A, c, he, hl, hc⟩, hg⟩ := hd.get hn
  simp [Value.cells] at he
  obtain ⟨rfl, rfl, rfl⟩ := he
  exact ⟨xs, rfl, hl, hc, hg⟩
theorem arg_struct {α : Type} {d : Kd α} {P : Program} {t : TypeId} {G : α → Prop} (hd : RdK d P t G) {H : Type} {enc : TypeId × Value → H} {w : World} {cs : Array Value} {x : DataW H} {ps : List MemPlace}
    (h : DataW.Trod enc P w 0 (fun _ => true) true t (.agg cs) x ps) : ∃ a : α, d.K w a cs.toList ∧ G a := by
  obtain ⟨n, hn⟩ := h
  exact hd.get hn
end Go.Proofs.Ytccoiifklcgodaa.Rd
end
section
namespace Go.Proofs.Ytccoiifklcgodaa.Q
open Go.RowKit Go.Proofs.YtccoiifklcgodaaW.PrintWords Go.Proofs.YtccoiifklcgodaaW.PrintLast Go.Proofs.YtccoiifklcgodaaW.PrintMore
attribute [local go_sem] zc7 zc8 zd6 zd7 zcc zcd zc9 zda
set_option linter.unusedVariables false
set_option linter.unusedSimpArgs false
def zo9 (x : S101) : Prop := Rd.okStr x.f0 ∧ (Rd.okInt .i64) x.f1 ∧ (Rd.okInt .i64) x.f2 ∧ (Rd.okInt .i64) x.f3 ∧ (Rd.okInt .i64) x.f4
theorem rd101 : Rd.RdK k101 Try.prog 101 zo9 :=
  Rd.rk_iso (Rd.rk_struct Try.underlying101 (by kernel_rfl) (Rd.rf_cons (Rd.rk_string Try.underlying9 (by kernel_rfl)) rfl (Rd.rf_cons (Rd.rk_int Try.underlying3 (by kernel_rfl)) rfl (Rd.rf_cons (Rd.rk_int Try.underlying3 (by kernel_rfl)) rfl (Rd.rf_cons (Rd.rk_int Try.underlying3 (by kernel_rfl)) rfl (Rd.rf_one (Rd.rk_int Try.underlying3 (by kernel_rfl)))))))) (fun x : S101 => (x.f0, x.f1, x.f2, x.f3, x.f4)) (fun p => ⟨p.1, p.2.1, p.2.2.1, p.2.2.2.1, p.2.2.2.2⟩) (fun _ => rfl)
def zsc (x : S59) : Prop := (Rd.okSl Rd.okStr) x.f0 ∧ (Rd.okSl (Rd.okInt .i64)) x.f1
theorem rd59 : Rd.RdK k59 Try.prog 59 zsc :=
  Rd.rk_iso (Rd.rk_struct Try.underlying59 (by kernel_rfl) (Rd.rf_cons (Rd.rk_slice (Rd.rk_string Try.underlying9 (by kernel_rfl)) Try.underlying57 (by kernel_rfl)) rfl (Rd.rf_one (Rd.rk_slice (Rd.rk_int Try.underlying3 (by kernel_rfl)) Try.underlying51 (by kernel_rfl))))) (fun x : S59 => (x.f0, x.f1)) (fun p => ⟨p.1, p.2⟩) (fun _ => rfl)
def laws_FnExactIsPruned.Pure : Prop := ∀ (a0 : S59) (a1 : List (S101)), zsc a0 → (Rd.okSl zo9) a1 → ∃ k, zcr k a0.f0 a0.f1 a1 = some true
end Go.Proofs.Ytccoiifklcgodaa.Q
end
section
namespace Go.Proofs.Ytccoiifklcgodaa.PL
open Go Go.RowKit Go.Proofs.YtccoiifklcgodaaW.PrintWords Go.Proofs.YtccoiifklcgodaaW.PrintLast Go.Proofs.YtccoiifklcgodaaW.PrintMore Go.Proofs.Ytccoiifklcgodaa.Q
set_option linter.unusedSimpArgs false
set_option linter.unusedVariables false
theorem w64 {x : Int} (h1 : -9223372036854775808 ≤ x) (h2 : x < 9223372036854775808) : wrap64 x = x := by unfold wrap64; omega
theorem w64n (i : Nat) (h : i < 4611686018427387904) : wrap64 ((i : Int) + 1) = ((i + 1 : Nat) : Int) := by unfold wrap64; omega
theorem Ev.some {α : Type} {a r : α} (h : a = r) : Ev (fun _ => some a) r := h ▸ Ev.now a
theorem zls {α : Type} {g : Option α} {r : α} (h : g = Option.some r) : Ev (fun _ => g) r := by rw [h]; exact Ev.now r
theorem zgr {α : Type} {g : Nat → Option α} {r s : α} (h : Ev g r) (e : r = s) : Ev g s := e ▸ h
theorem zak {α : Type} {c : Prop} [Decidable c] {g g' : Nat → Option α} {r : α} (h : c) (H : Ev g r) : Ev (fun k => if c then g k else g' k) r := zqa (fun _ => if_pos h) H
theorem zb0 {α : Type} {c : Prop} [Decidable c] {g g' : Nat → Option α} {r : α} (h : ¬ c) (H : Ev g' r) : Ev (fun k => if c then g k else g' k) r := zqa (fun _ => if_neg h) H
theorem Ev.call {α β : Type} {g : Option α} {f : Nat → α → Option β} {a : α} {r : β} (h : g = Option.some a) (k : Ev (fun n => f n a) r) : Ev (fun n => g.bind (f n)) r := by
  rw [h]; exact k
theorem zqr {σ ρ : Type} (n : Nat) (L : Nat → σ → Int → Option ρ) (M : Nat → σ → ρ) (hend : ∀ s, Ev (fun k => L k s n) (M n s))
    (hstep : ∀ (i : Nat) s, i < n → (∀ s', Ev (fun k => L k s' ((i + 1 : Nat) : Int)) (M (i + 1) s')) → Ev (fun k => L k s i) (M i s)) :
    ∀ (d i : Nat) s, i + d = n → Ev (fun k => L k s i) (M i s)
  | 0, i, s, h => by
    have e : i = n := by omega
    rw [e]
    exact hend s
  | d + 1, i, s, h => hstep i s (by omega) (fun s' => zqr n L M hend hstep d (i + 1) s' (by omega))
theorem zic {α σ ρ : Type} (xs : List α) (L : Nat → σ → Int → Option ρ) (m : List α → σ → ρ) (hend : ∀ s, Ev (fun k => L k s (xs.length : Nat)) (m [] s))
    (hstep : ∀ (i : Nat) s x rest, i < xs.length → (∀ d, xs.getD i d = x) → (∀ s', Ev (fun k => L k s' ((i + 1 : Nat) : Int)) (m rest s')) → Ev (fun k => L k s i) (m (x :: rest) s)) (s : σ) :
    Ev (fun k => L k s 0) (m xs s) := by
  have := zqr xs.length L (fun i s => m (xs.drop i) s) (fun s => by simpa using hend s) (fun i s hi ih => by
    have e : xs.drop i = xs[i] :: xs.drop (i + 1) := List.drop_eq_getElem_cons hi
    show Ev (fun k => L k s i) (m (xs.drop i) s)
    rw [e]
    exact hstep i s xs[i] _ hi (fun d => by simp [List.getD, List.getElem?_eq_getElem hi]) ih) xs.length 0 s (by omega)
  simpa using this
def idx {α : Type} (p : α → Bool) : List α → Int
  | [] => -1
  | x :: xs => if p x = true then 0 else if idx p xs < 0 then -1 else idx p xs + 1
theorem zma {α : Type} (p : α → Bool) (xs : List α) : 0 ≤ idx p xs ↔ ∃ x ∈ xs, p x = true := by
  induction xs with
  | nil => simp [idx]
  | cons x xs ih =>
    unfold idx
    by_cases h : p x = true
    · simp [h]
    · by_cases h2 : idx p xs < 0
      · rw [if_neg h, if_pos h2]
        have : ¬ ∃ x ∈ xs, p x = true := fun e => by have := ih.2 e; omega
        simp [h]
        simpa using this
      · rw [if_neg h, if_neg h2]
        have := ih.1 (by omega)
        simp [h]
        exact ⟨fun _ => this, fun _ => by omega⟩
theorem ztx {α : Type} (p : α → Bool) (xs : List α) : -1 ≤ idx p xs := by
  induction xs with
  | nil => unfold idx; simp
  | cons x xs ih => unfold idx; split; · decide
                    · split <;> omega
theorem zlu {α : Type} (xs : List α) (p : α → Bool) (L : Nat → Int → Option Int) (hend : Ev (fun k => L k (xs.length : Nat)) (-1))
    (hyes : ∀ (i : Nat) x, i < xs.length → (∀ d, xs.getD i d = x) → p x = true → Ev (fun k => L k i) (i : Int))
    (hno : ∀ (i : Nat) x r, i < xs.length → (∀ d, xs.getD i d = x) → p x = false → Ev (fun k => L k ((i + 1 : Nat) : Int)) r → Ev (fun k => L k i) r) : Ev (fun k => L k 0) (idx p xs) := by
  have key : ∀ (d i : Nat), i + d = xs.length → Ev (fun k => L k i) (if idx p (xs.drop i) < 0 then -1 else idx p (xs.drop i) + i) := by
    intro d
    induction d with
    | zero =>
      intro i hi
      rw [List.drop_of_length_le (by omega), if_pos (show idx p [] < 0 by unfold idx; decide)]
      have e : i = xs.length := by omega
      rw [e]; exact hend
    | succ d ih =>
      intro i hi
      have hlt : i < xs.length := by omega
      have e : xs.drop i = xs[i] :: xs.drop (i + 1) := List.drop_eq_getElem_cons hlt
      have hg : ∀ d, xs.getD i d = xs[i] := fun d => by simp [List.getD, List.getElem?_eq_getElem hlt]
      rw [e]
      unfold idx
      by_cases h : p xs[i] = true
      · rw [if_pos h, if_neg (by decide)]
        simpa using hyes i _ hlt hg h
      · refine hno i _ _ hlt hg (by simpa using h) (zgr (ih (i + 1) (by omega)) ?_)
        rw [if_neg h]
        by_cases h2 : idx p (xs.drop (i + 1)) < 0
        · rw [if_pos h2, if_pos h2, if_pos (by decide)]
        · rw [if_neg h2, if_neg h2, if_neg (by omega)]
          omega
  have := key xs.length 0 (by omega)
  simp only [List.drop_zero, Int.natCast_zero, Int.add_zero] at this
  refine zgr this ?_
  have := ztx p xs
  split <;> omega
theorem zty {α : Type} (xs : List α) (p : α → Bool) (L : Nat → Int → Option Bool) (hend : Ev (fun k => L k (xs.length : Nat)) true)
    (hno : ∀ (i : Nat) x, i < xs.length → (∀ d, xs.getD i d = x) → p x = false → Ev (fun k => L k i) false)
    (hyes : ∀ (i : Nat) x r, i < xs.length → (∀ d, xs.getD i d = x) → p x = true → Ev (fun k => L k ((i + 1 : Nat) : Int)) r → Ev (fun k => L k i) r) : Ev (fun k => L k 0) (xs.all p) := by
  refine zic (σ := Unit) xs (fun k _ i => L k i) (fun l _ => l.all p) (fun _ => hend) (fun i _ x rest hi hx ih => ?_) ()
  by_cases h : p x = true
  · exact hyes i x _ hi hx h (zgr (ih ()) (by simp [h]))
  · have h' : p x = false := by simpa using h
    exact zgr (hno i x hi hx h') (by simp [h'])
theorem zjb {xs : List Int} {i : Nat} {x : Int} (h : ∀ d, xs.getD i d = x) : rd xs i = x := by unfold rd; rw [Int.toNat_natCast]; exact h 0
theorem zhe {α : Type} {d0 : α} {xs : List α} {i : Nat} {x : α} (h : ∀ d, xs.getD i d = x) : rdOf d0 xs i = x := by unfold rdOf; rw [Int.toNat_natCast]; exact h d0
theorem znm {xs : List S102} {i : Nat} {x : S102} (h : ∀ d, xs.getD i d = x) : zab xs i = x := by unfold zab; rw [Int.toNat_natCast]; exact h _
theorem zsd {xs : List S101} {i : Nat} {x : S101} (h : ∀ d, xs.getD i d = x) : zb7 xs i = x := by unfold zb7; rw [Int.toNat_natCast]; exact h _
theorem zdv {α : Type} (xs : List α) (i : Nat) (h : i < xs.length) : ∀ d, xs.getD i d = xs[i] := fun d => by simp [List.getD, List.getElem?_eq_getElem h]
theorem zlv {α : Type} (xs ys : List α) (z : α) (v : α) : (xs ++ List.replicate (ys.length + 1) z).set xs.length v = (xs ++ [v]) ++ List.replicate ys.length z := by
  rw [List.set_append_right _ _ (Nat.le_refl _)]
  simp [List.replicate_succ]
abbrev Instr := S102
abbrev zqs := S101
def cvI (x : zqs) : Instr := ⟨x.f0, x.f1, x.f2, x.f3, x.f4⟩
theorem znn (s : ByteArray) (a b c d r : Int) (hs : s.size ≤ maxLen) (h0 : 0 ≤ r) (h1 : r ≤ 1048576) : zg1 s a b c d r = some (if r < s.size then -1 else r - s.size) := by
  unfold maxLen at hs
  unfold zg1
  rw [w64 (by omega) (by omega)]
  by_cases h : r < s.size
  · rw [if_pos (by omega), if_pos h]
  · rw [if_neg (by omega), if_neg h]
theorem zpa (l : List zqs) (a : Int) (hl : Rd.okSl zo9 l) (h0 : 0 ≤ a) (h1 : a ≤ 1048576) :
    ∃ r, Ev (fun k => zdx k l a) r ∧ (0 ≤ r → (l.length : Int) ≤ a ∧ (∀ x ∈ l, (x.f0.size : Int) ≤ a) ∧ r ≤ a) := by
  obtain ⟨hl1, hl2⟩ := hl
  unfold maxLen at hl1
  by_cases h : a < l.length
  · refine ⟨-1, ?_, fun h => absurd h (by decide)⟩
    unfold zdx
    rw [w64 (by omega) (by omega)]
    simp only [show a - (l.length : Int) < 0 by omega, if_true]
    exact Ev.now _
  · have key : ∀ (d i : Nat) (r : Int), i + d = l.length → 0 ≤ r → r ≤ a → ∃ q, Ev (fun k => zbr k l r i) q ∧ q ≤ a ∧ (0 ≤ q → ∀ x ∈ l.drop i, (x.f0.size : Int) ≤ a) := by
      intro d
      induction d with
      | zero =>
        intro i r hi hr _
        refine ⟨r, Ev.step (f := fun _ => some r) (fun k => ?_) (Ev.now _), by omega, fun _ x hx => ?_⟩
        · simp only [zbr]
          rw [if_neg (by omega)]
        · rw [List.drop_of_length_le (by omega)] at hx
          cases hx
      | succ d ih =>
        intro i r hi hr hra
        have hlt : i < l.length := by omega
        have e : l.drop i = l[i] :: l.drop (i + 1) := List.drop_eq_getElem_cons hlt
        have hx := zsd (zdv l i hlt)
        have hsz := (hl2 l[i] (List.getElem_mem hlt)).1
        by_cases hb : r < l[i].f0.size
        · refine ⟨-1, Ev.step (f := fun _ => some (-1)) (fun k => ?_) (Ev.now _), by omega, fun h => absurd h (by decide)⟩
          simp only [zbr]
          rw [if_pos (by omega), if_pos (by omega), hx, znn _ _ _ _ _ _ hsz hr (by omega), if_pos hb]
          rfl
        · obtain ⟨q, hq, hqa, hq'⟩ := ih (i + 1) (r - l[i].f0.size) (by omega) (by omega) (by omega)
          refine ⟨q, Ev.step (f := fun k => zbr k l (r - l[i].f0.size) ((i + 1 : Nat) : Int)) (fun k => ?_) hq, hqa, fun h x hx' => ?_⟩
          · simp only [zbr]
            rw [if_pos (by omega), if_pos (by omega), hx, znn _ _ _ _ _ _ hsz hr (by omega), if_neg hb, Option.bind_some, if_neg (by omega), w64n i (by omega)]
          · rw [e] at hx'
            rcases List.mem_cons.1 hx' with rfl | hx'
            · omega
            · exact hq' h x hx'
    obtain ⟨q, hq, hqa, hq'⟩ := key l.length 0 (a - l.length) (by omega) (by omega) (by omega)
    refine ⟨q, ?_, fun h' => ⟨by omega, by simpa using hq' h', hqa⟩⟩
    unfold zdx
    rw [w64 (by omega) (by omega)]
    simp only [show ¬ (a - (l.length : Int) < 0) by omega, if_false]
    simpa using hq
theorem zpb (l : List zqs) (hl : l.length ≤ 1048576) : Ev (fun k => za7 k l) (l.map cvI) := by
  have key : ∀ (d i : Nat), i + d = l.length → Ev (fun k => zbs k l ((l.take i).map cvI ++ List.replicate d z102) i) (l.map cvI) := by
    intro d
    induction d with
    | zero =>
      intro i hi
      refine Ev.step (f := fun _ => some _) (fun k => ?_) (Ev.now _)
      simp only [zbs]
      rw [if_neg (by omega), List.take_of_length_le (by omega)]
      simp
    | succ d ih =>
      intro i hi
      have hlt : i < l.length := by omega
      have hx := zsd (zdv l i hlt)
      refine Ev.step (fun k => ?_) (ih (i + 1) (by omega))
      simp only [zbs, zi9, Option.bind_some]
      rw [if_pos (by omega), if_pos (by omega), if_pos (by simp; omega), hx, w64n i (by omega)]
      congr 1
      have e : ((i : Int)).toNat = ((l.take i).map cvI).length := by simp; omega
      rw [e]
      have := zlv ((l.take i).map cvI) (List.replicate d z102) z102 (cvI l[i])
      simp only [List.length_replicate] at this
      rw [show (⟨l[i].f0, l[i].f1, l[i].f2, l[i].f3, l[i].f4⟩ : Instr) = cvI l[i] from rfl, this]
      congr 1
      rw [List.take_succ_eq_append_getElem hlt, List.map_append]
      rfl
  unfold za7
  refine zak (by omega) (zak (by simp; omega) ?_)
  simpa using key l.length 0 (by omega)
theorem zqt (l : List Int) (hl : l.length ≤ 1048576) : Ev (fun k => zer k l) l := by
  have key : ∀ (d i : Nat), i + d = l.length → Ev (fun k => zco k l (l.take i ++ List.replicate d 0) i) l := by
    intro d
    induction d with
    | zero =>
      intro i hi
      refine Ev.step (f := fun _ => some _) (fun k => ?_) (Ev.now _)
      simp only [zco]
      rw [if_neg (by omega), List.take_of_length_le (by omega)]
      simp
    | succ d ih =>
      intro i hi
      have hlt : i < l.length := by omega
      have hx := zjb (zdv l i hlt)
      refine Ev.step (fun k => ?_) (ih (i + 1) (by omega))
      simp only [zco]
      rw [if_pos (by omega), if_pos (by omega), if_pos (by simp; omega), hx, w64n i (by omega)]
      congr 1
      have e : ((i : Int)).toNat = (l.take i).length := by simp; omega
      rw [e]
      have := zlv (l.take i) (List.replicate d (0 : Int)) 0 l[i]
      simp only [List.length_replicate] at this
      rw [this]
      congr 1
      rw [List.take_succ_eq_append_getElem hlt]
  unfold zer
  refine zak (by omega) (zak (by simp; omega) ?_)
  simpa using key l.length 0 (by omega)
theorem znw (l : List Instr) (hl : l.length ≤ 1048576) : Ev (fun k => zc0 k l l) true := by
  unfold zc0
  simp only [if_true]
  refine zic (σ := Unit) l (fun k _ i => zbz k l l i) (fun _ _ => true) (fun _ => ?_) (fun i _ x rest hi hx ih => ?_) ()
  · refine Ev.step (f := fun _ => some true) (fun k => ?_) (Ev.now _)
    simp only [zbz]
    rw [if_neg (by omega)]
  · refine Ev.step (fun k => ?_) (ih ())
    simp only [zbz, zi8, reduceIte, Option.bind_some]
    rw [if_pos (by omega), if_pos (by omega), w64n i (by omega), if_pos (by omega)]
theorem zpc (l : List Int) (hl : l.length ≤ 1048576) : Ev (fun k => zek k l l) true := by
  unfold zek
  simp only [if_true]
  refine zic (σ := Unit) l (fun k _ i => zdb k l l i) (fun _ _ => true) (fun _ => ?_) (fun i _ x rest hi hx ih => ?_) ()
  · refine Ev.step (f := fun _ => some true) (fun k => ?_) (Ev.now _)
    simp only [zdb]
    rw [if_neg (by omega)]
  · refine Ev.step (fun k => ?_) (ih ())
    simp only [zdb, if_true]
    rw [if_pos (by omega), if_pos (by omega), w64n i (by omega), if_pos (by omega)]
theorem zoi (l : List ByteArray) (a : Int) (hl : Rd.okSl Rd.okStr l) (h0 : 0 ≤ a) (h1 : a ≤ 1048576) :
    ∃ r, Ev (fun k => zd0 k l a) r ∧ (0 ≤ r → (l.length : Int) ≤ a ∧ r ≤ a) := by
  obtain ⟨hl1, hl2⟩ := hl
  unfold maxLen at hl1
  by_cases h : a < l.length
  · refine ⟨-1, ?_, fun h => absurd h (by decide)⟩
    unfold zd0
    rw [w64 (by omega) (by omega)]
    simp only [show a - (l.length : Int) < 0 by omega, if_true]
    exact Ev.now _
  · have key : ∀ (d i : Nat) (r : Int), i + d = l.length → 0 ≤ r → r ≤ a → ∃ q, Ev (fun k => zbv k l r i) q ∧ q ≤ a := by
      intro d
      induction d with
      | zero =>
        intro i r hi hr hra
        refine ⟨r, Ev.step (f := fun _ => some r) (fun k => ?_) (Ev.now _), hra⟩
        simp only [zbv]
        rw [if_neg (by omega)]
      | succ d ih =>
        intro i r hi hr hra
        have hlt : i < l.length := by omega
        have hx : rdOf ByteArray.empty l i = l[i] := zhe (zdv l i hlt)
        have hsz : l[i].size ≤ maxLen := hl2 l[i] (List.getElem_mem hlt)
        unfold maxLen at hsz
        by_cases hb : r < l[i].size
        · refine ⟨-1, Ev.step (f := fun _ => some (-1)) (fun k => ?_) (Ev.now _), by omega⟩
          simp only [zbv, hx]
          rw [if_pos (by omega), if_pos (by omega), w64 (by omega) (by omega), if_pos (by omega)]
        · obtain ⟨q, hq, hqa⟩ := ih (i + 1) (r - l[i].size) (by omega) (by omega) (by omega)
          refine ⟨q, Ev.step (fun k => ?_) hq, hqa⟩
          simp only [zbv, hx]
          rw [if_pos (by omega), if_pos (by omega), w64 (by omega) (by omega), if_neg (by omega), w64n i (by omega)]
    obtain ⟨q, hq, hqa⟩ := key l.length 0 (a - l.length) (by omega) (by omega) (by omega)
    refine ⟨q, ?_, fun h' => ⟨by omega, hqa⟩⟩
    unfold zd0
    rw [w64 (by omega) (by omega)]
    simp only [show ¬ (a - (l.length : Int) < 0) by omega, if_false]
    simpa using hq
theorem zqu (l : List Int) (a : Int) (hl : l.length ≤ maxLen) (h0 : 0 ≤ a) (h1 : a ≤ 1048576) : zf8 l a = some (if a < l.length then -1 else a - l.length) := by
  unfold maxLen at hl
  unfold zf8
  rw [w64 (by omega) (by omega)]
  by_cases h : a < l.length
  · rw [if_pos (by omega), if_pos h]
  · rw [if_neg (by omega), if_neg h]
theorem zoj (l : List ByteArray) (hl : l.length ≤ 1048576) : Ev (fun k => zef k l) l := by
  have key : ∀ (d i : Nat), i + d = l.length → Ev (fun k => zbq k l (l.take i ++ List.replicate d ⟨#[]⟩) i) l := by
    intro d
    induction d with
    | zero =>
      intro i hi
      refine Ev.step (f := fun _ => some l) (fun k => ?_) (Ev.now _)
      simp only [zbq]
      rw [if_neg (by omega), List.take_of_length_le (by omega)]
      simp
    | succ d ih =>
      intro i hi
      have hlt : i < l.length := by omega
      have hx : rdOf ByteArray.empty l i = l[i] := zhe (zdv l i hlt)
      refine Ev.step (fun k => ?_) (ih (i + 1) (by omega))
      simp only [zbq]
      rw [if_pos (by omega), if_pos (by omega), if_pos (by simp; omega), hx, w64n i (by omega)]
      congr 1
      have e : ((i : Int)).toNat = (l.take i).length := by simp; omega
      rw [e]
      have := zlv (l.take i) (List.replicate d (⟨#[]⟩ : ByteArray)) ⟨#[]⟩ l[i]
      simp only [List.length_replicate] at this
      rw [this]
      congr 1
      rw [List.take_succ_eq_append_getElem hlt]
  unfold zef
  refine zak (by omega) (zak (by simp; omega) ?_)
  simpa using key l.length 0 (by omega)
theorem zne (l : List ByteArray) (hl : l.length ≤ 1048576) : Ev (fun k => zee k l l) true := by
  unfold zee
  simp only [if_true]
  refine zic (σ := Unit) l (fun k _ i => zb4 k l l i) (fun _ _ => true) (fun _ => ?_) (fun i _ x rest hi hx ih => ?_) ()
  · refine Ev.step (f := fun _ => some true) (fun k => ?_) (Ev.now _)
    simp only [zb4]
    rw [if_neg (by omega)]
  · refine Ev.step (fun k => ?_) (ih ())
    simp only [zb4, if_true]
    rw [if_pos (by omega), if_pos (by omega), w64n i (by omega), if_pos (by omega)]
theorem zpd (l : List ByteArray) (m : List Int) (a : Int) (hl : Rd.okSl Rd.okStr l) (hm : m.length ≤ maxLen) (h0 : 0 ≤ a) (h1 : a ≤ 1048576) :
    ∃ r, Ev (fun k => zeo k l m a) r ∧ (0 ≤ r → (l.length : Int) ≤ a ∧ (m.length : Int) ≤ a ∧ r ≤ a) := by
  unfold zeo
  obtain ⟨r, hr, hr'⟩ := zoi l a hl h0 h1
  by_cases hn : r < 0
  · exact ⟨-1, Ev.bind hr (zak hn (Ev.now _)), fun h => absurd h (by decide)⟩
  obtain ⟨q1, q2⟩ := hr' (by omega)
  have e := zqu m r hm (by omega) (by omega)
  by_cases hn2 : r < m.length
  · rw [if_pos hn2] at e
    exact ⟨-1, Ev.bind hr (zb0 hn (Ev.call e (zak (by decide) (Ev.now _)))), fun h => absurd h (by decide)⟩
  · rw [if_neg hn2] at e
    exact ⟨r - m.length, Ev.bind hr (zb0 hn (Ev.call e (zb0 (by omega) (Ev.now _)))), fun h => ⟨by omega, by omega, by omega⟩⟩
theorem zpe (l : List ByteArray) (m : List Int) (hl : l.length ≤ 1048576) (hm : m.length ≤ 1048576) : Ev (fun k => zbm k l m) (l, m) := by
  unfold zbm
  exact Ev.bind (zoj l hl) (Ev.bind (zqt m hm) (Ev.now _))
theorem znx (l : List ByteArray) (m : List Int) (hl : l.length ≤ 1048576) (hm : m.length ≤ 1048576) : Ev (fun k => zeb k l m l m) true := by
  unfold zeb
  exact Ev.bind (zne l hl) (zak rfl (Ev.bind (zpc m hm) (zak rfl (Ev.now _))))
end Go.Proofs.Ytccoiifklcgodaa.PL
end
section
namespace Go.Proofs.Ytccoiifklcgodaa.Q
open Go.RowKit Go.Proofs.YtccoiifklcgodaaW.PrintWords Go.Proofs.YtccoiifklcgodaaW.PrintLast Go.Proofs.YtccoiifklcgodaaW.PrintMore
attribute [local go_sem] zc7 zc8 zd6 zd7 zcc zcd zc9 zda
set_option linter.unusedVariables false
set_option linter.unusedSimpArgs false
end Go.Proofs.Ytccoiifklcgodaa.Q
end
section
namespace Go.Proofs.Ytccoiifklcgodaa.PL
open Go Go.RowKit Go.Proofs.YtccoiifklcgodaaW.PrintWords Go.Proofs.YtccoiifklcgodaaW.PrintLast Go.Proofs.YtccoiifklcgodaaW.PrintMore Go.Proofs.Ytccoiifklcgodaa.Q
set_option linter.unusedSimpArgs false
set_option linter.unusedVariables false
def zjm : Nat → Nat → List Int
  | 0, _ => []
  | n + 1, a => (a : Int) :: zjm n (a + 1)
theorem zno : ∀ n a, (zjm n a).length = n
  | 0, _ => rfl
  | n + 1, a => by simp [zjm, zno n]
end Go.Proofs.Ytccoiifklcgodaa.PL
end
section
namespace Go.Proofs.Ytccoiifklcgodaa.Q
open Go.RowKit Go.Proofs.YtccoiifklcgodaaW.PrintWords Go.Proofs.YtccoiifklcgodaaW.PrintLast Go.Proofs.YtccoiifklcgodaaW.PrintMore
attribute [local go_sem] zc7 zc8 zd6 zd7 zcc zcd zc9 zda
set_option linter.unusedVariables false
set_option linter.unusedSimpArgs false
end Go.Proofs.Ytccoiifklcgodaa.Q
end
section
namespace Go.Proofs.Ytccoiifklcgodaa.PL
open Go Go.RowKit Go.Proofs.YtccoiifklcgodaaW.PrintWords Go.Proofs.YtccoiifklcgodaaW.PrintLast Go.Proofs.YtccoiifklcgodaaW.PrintMore Go.Proofs.Ytccoiifklcgodaa.Q
set_option linter.unusedSimpArgs false
set_option linter.unusedVariables false
def zev (c : Nat) : Bool × Bool × Bool × Int × Int :=
  match c with
  | 0 => (true, false, false, 0, 63)
  | 1 => (true, true, false, 0, 0)
  | 2 => (true, true, true, 0, 0)
  | 3 => (true, true, true, 0, 0)
  | 4 => (true, true, true, 0, 0)
  | 5 => (true, true, false, 0, 63)
  | 6 => (true, true, false, 1, 5)
  | 7 => (true, true, true, 1, 3)
  | _ => (false, false, false, 0, 0)
theorem zok : ∀ p ∈ ops, zd8 20 p.1 = some (zev p.2) := by decide +kernel
theorem zol (s : ByteArray) : zgo s = some (zew (cls s) s) := rfl
theorem zny (s : ByteArray) : Ev (fun k => zd8 k s) (zev (cls s)) := by
  refine zmr (P := fun s => Ev (fun k => zd8 k s) (zev (cls s))) s (fun p hp => ?_) (fun h => ?_)
  · rw [zqq p hp]
    exact zud (zcu _) (zok p hp)
  · rw [zms h]
    obtain ⟨h0, h1, h2, h3, h4, h5, h6, h7, h8, h9, h10, h11, h12, h13, h14, h15, h16, h17, h18, h19⟩ := zo8 h
    refine zud (zcu _) (k := 5) ?_
    simp only [zd8, zcg, zaw, zch, zc1, h0, h1, h2, h3, h4, h5, h6, h7, h8, h9, h10, h11, h12, h13, h14, h15, h16, h17, h18, h19, if_false, beq_iff_eq]
    rfl
theorem zmx (a b c : Int) : zdz a b c = some (decide (b ≤ a ∧ a ≤ c)) := by
  unfold zdz
  by_cases h : b ≤ a <;> simp [h]
theorem zpf (a b c : Int) : zgy a b c = some (decide (b ≤ a ∧ a ≤ c)) := by
  unfold zgy
  by_cases h : a ≥ b
  · rw [if_pos h]; congr 1; rw [decide_eq_decide]; omega
  · rw [if_neg h]; congr 1; symm; rw [decide_eq_false_iff_not]; omega
def okI (x : Instr) : Prop := cls x.f0 ≠ 8 ∧ (0 ≤ x.f1 ∧ x.f1 ≤ 5) ∧ ((zev (cls x.f0)).2.1 = true ∧ 0 ≤ x.f2 ∧ x.f2 ≤ 5 ∨ x.f2 = 0) ∧ ((zev (cls x.f0)).2.2.1 = true ∧ 0 ≤ x.f3 ∧ x.f3 ≤ 5 ∨ x.f3 = 0) ∧ (zev (cls x.f0)).2.2.2.1 ≤ x.f4 ∧ x.f4 ≤ (zev (cls x.f0)).2.2.2.2
instance (x : Instr) : Decidable (okI x) := by unfold okI; infer_instance
theorem znp (s : ByteArray) : cls s ≤ 8 := by
  refine zmr (P := fun s => cls s ≤ 8) s (by decide +kernel) (fun h => by rw [zms h]; exact Nat.le_refl _)
theorem zqv (s : ByteArray) : cls s = 0 ∨ cls s = 1 ∨ cls s = 2 ∨ cls s = 3 ∨ cls s = 4 ∨ cls s = 5 ∨ cls s = 6 ∨ cls s = 7 ∨ cls s = 8 := by have := znp s; omega
end Go.Proofs.Ytccoiifklcgodaa.PL
end
section
namespace Go.Proofs.Ytccoiifklcgodaa.Q
open Go.RowKit Go.Proofs.YtccoiifklcgodaaW.PrintWords Go.Proofs.YtccoiifklcgodaaW.PrintLast Go.Proofs.YtccoiifklcgodaaW.PrintMore
attribute [local go_sem] zc7 zc8 zd6 zd7 zcc zcd zc9 zda
set_option linter.unusedVariables false
set_option linter.unusedSimpArgs false
end Go.Proofs.Ytccoiifklcgodaa.Q
end
section
namespace Go.Proofs.Ytccoiifklcgodaa.PL
open Go Go.RowKit Go.Proofs.YtccoiifklcgodaaW.PrintWords Go.Proofs.YtccoiifklcgodaaW.PrintLast Go.Proofs.YtccoiifklcgodaaW.PrintMore Go.Proofs.Ytccoiifklcgodaa.Q
set_option linter.unusedSimpArgs false
set_option linter.unusedVariables false
end Go.Proofs.Ytccoiifklcgodaa.PL
end
section
namespace Go.Proofs.Ytccoiifklcgodaa.Q
open Go.RowKit Go.Proofs.YtccoiifklcgodaaW.PrintWords Go.Proofs.YtccoiifklcgodaaW.PrintLast Go.Proofs.YtccoiifklcgodaaW.PrintMore
attribute [local go_sem] zc7 zc8 zd6 zd7 zcc zcd zc9 zda
set_option linter.unusedVariables false
set_option linter.unusedSimpArgs false
end Go.Proofs.Ytccoiifklcgodaa.Q
end
section
namespace Go.Proofs.Ytccoiifklcgodaa.PL
open Go Go.RowKit Go.Proofs.YtccoiifklcgodaaW.PrintWords Go.Proofs.YtccoiifklcgodaaW.PrintLast Go.Proofs.YtccoiifklcgodaaW.PrintMore Go.Proofs.Ytccoiifklcgodaa.Q
set_option linter.unusedSimpArgs false
set_option linter.unusedVariables false
end Go.Proofs.Ytccoiifklcgodaa.PL
end
section
namespace Go.Proofs.Ytccoiifklcgodaa.Q
open Go.RowKit Go.Proofs.YtccoiifklcgodaaW.PrintWords Go.Proofs.YtccoiifklcgodaaW.PrintLast Go.Proofs.YtccoiifklcgodaaW.PrintMore
attribute [local go_sem] zc7 zc8 zd6 zd7 zcc zcd zc9 zda
set_option linter.unusedVariables false
set_option linter.unusedSimpArgs false
end Go.Proofs.Ytccoiifklcgodaa.Q
end
section
namespace Go.Proofs.Ytccoiifklcgodaa.PL
open Go Go.RowKit Go.Proofs.YtccoiifklcgodaaW.PrintWords Go.Proofs.YtccoiifklcgodaaW.PrintLast Go.Proofs.YtccoiifklcgodaaW.PrintMore Go.Proofs.Ytccoiifklcgodaa.Q
set_option linter.unusedSimpArgs false
set_option linter.unusedVariables false
theorem zpg {α : Type} {xs : List α} {i : Nat} {x : α} (hi : i < xs.length) (hx : ∀ d, xs.getD i d = x) : x ∈ xs := by
  have := hx x
  rw [zdv xs i hi] at this
  rw [← this]
  exact List.getElem_mem hi
theorem zst {α : Type} (p : α → Bool) (xs : List α) (q : Prop) [Decidable q] (h : q ↔ ∃ x ∈ xs, p x = true) : decide (idx p xs ≥ 0) = decide q := by
  rw [decide_eq_decide]
  exact (zma p xs).trans h.symm
def hasS (l : List ByteArray) (s : ByteArray) : Bool := l.any fun y => decide (y = s)
theorem zpw (l : List ByteArray) (s : ByteArray) : hasS l s = true ↔ s ∈ l := by
  unfold hasS
  rw [List.any_eq_true]
  exact ⟨fun ⟨x, hx, h⟩ => of_decide_eq_true h ▸ hx, fun h => ⟨s, h, decide_eq_true rfl⟩⟩
theorem zkc (l : List ByteArray) (s : ByteArray) (hl : l.length ≤ 1048576) : Ev (fun k => zas k l s) (hasS l s) := by
  have h : Ev (fun k => zbk k l s) (idx (fun y => decide (s = y)) l) := by
    unfold zbk
    refine zlu l _ (fun k i => zap k l s l.length i) ?_ (fun i x hi hx hp => ?_) (fun i x r hi hx hp hr => ?_)
    · refine Ev.step (f := fun _ => some (-1)) (fun k => ?_) (Ev.now _)
      simp only [zap]
      rw [if_neg (by omega)]
    · refine Ev.step (f := fun _ => some (i : Int)) (fun k => ?_) (Ev.now _)
      simp only [zap, zhe hx, zpv]
      rw [if_pos (by omega), if_pos (by omega), if_pos (by omega), if_pos (of_decide_eq_true hp)]
    · refine Ev.step (fun k => ?_) hr
      simp only [zap, zhe hx, zpv]
      rw [if_pos (by omega), if_pos (by omega), if_pos (by omega), if_neg (of_decide_eq_false hp), w64n i (by omega)]
  unfold zas
  refine Ev.bind h (Ev.some ?_)
  rw [Bool.eq_iff_iff, decide_eq_true_eq, zpw]
  refine (zma _ l).trans ⟨?_, fun h => ⟨s, h, decide_eq_true rfl⟩⟩
  rintro ⟨x, hx, h⟩
  rw [of_decide_eq_true h]
  exact hx
theorem zlw (l : List ByteArray) (s : ByteArray) (hl : l.length ≤ 1048576) : Ev (fun k => zdk k l s) (hasS l s) := by
  unfold zdk
  refine zic (σ := Unit) l (fun k _ i => zdc k s l l.length i) (fun r _ => hasS r s) (fun _ => ?_) (fun i _ x rest hi hx ih => ?_) ()
  · refine Ev.step (f := fun _ => some false) (fun k => ?_) (Ev.now _)
    simp only [zdc]
    rw [if_neg (by omega)]
  · refine Ev.step (fun k => by simp only [zdc, zhe hx, zpv]; rfl) (zak (by omega) (zak (by omega) (zak (by omega) ?_)))
    by_cases q : x = s
    · exact zak q (Ev.some (by simp [hasS, q]))
    · refine zb0 q ?_
      rw [w64n i (by omega)]
      refine zgr (ih ()) ?_
      simp [hasS, q]
theorem zme (l : List Int) (s : Int) (hl : l.length ≤ 1048576) : Ev (fun k => zcn k l s) (decide (s ∈ l)) := by
  have h : Ev (fun k => zcq k l s) (idx (fun y => decide (s = y)) l) := by
    unfold zcq
    refine zlu l _ (fun k i => za6 k l s l.length i) ?_ (fun i x hi hx hp => ?_) (fun i x r hi hx hp hr => ?_)
    · refine Ev.step (f := fun _ => some (-1)) (fun k => ?_) (Ev.now _)
      simp only [za6]
      rw [if_neg (by omega)]
    · refine Ev.step (f := fun _ => some (i : Int)) (fun k => ?_) (Ev.now _)
      simp only [za6, zjb hx]
      rw [if_pos (by omega), if_pos (by omega), if_pos (by omega), if_pos (of_decide_eq_true hp)]
    · refine Ev.step (fun k => ?_) hr
      simp only [za6, zjb hx]
      rw [if_pos (by omega), if_pos (by omega), if_pos (by omega), if_neg (of_decide_eq_false hp), w64n i (by omega)]
  unfold zcn
  refine Ev.bind h (Ev.some (zst _ _ _ ?_))
  constructor
  · exact fun h => ⟨s, h, decide_eq_true rfl⟩
  · rintro ⟨x, hx, h⟩
    rw [of_decide_eq_true h]
    exact hx
theorem zpx (l : List Int) (s : Int) (hl : l.length ≤ 1048576) : Ev (fun k => zfz k l s) (decide (s ∈ l)) := by
  unfold zfz
  refine zic (σ := Unit) l (fun k _ i => zdu k s l l.length i) (fun r _ => decide (s ∈ r)) (fun _ => ?_) (fun i _ x rest hi hx ih => ?_) ()
  · refine Ev.step (f := fun _ => some false) (fun k => ?_) (Ev.some (by simp))
    simp only [zdu]
    rw [if_neg (by omega)]
  · refine Ev.step (fun k => by simp only [zdu, zjb hx]; rfl) (zak (by omega) (zak (by omega) (zak (by omega) ?_)))
    by_cases q : x = s
    · exact zak q (Ev.some (by simp [q]))
    · refine zb0 q ?_
      rw [w64n i (by omega)]
      refine zgr (ih ()) ?_
      rw [decide_eq_decide, List.mem_cons]
      exact ⟨Or.inr, fun h => h.resolve_left fun e => q e.symm⟩
def isIn (s : ByteArray) : Prop := s.toList = ([105, 110] : List UInt8)
def zqw (s : ByteArray) : Prop := s.toList = ([99, 111, 110, 115, 116] : List UInt8)
def ztz (s : ByteArray) : Prop := s.toList = ([110, 111, 116] : List UInt8)
def zt0 (s : ByteArray) : Prop := s.toList = ([110, 101, 103] : List UInt8)
instance (s : ByteArray) : Decidable (isIn s) := by unfold isIn; infer_instance
instance (s : ByteArray) : Decidable (zqw s) := by unfold zqw; infer_instance
instance (s : ByteArray) : Decidable (ztz s) := by unfold ztz; infer_instance
instance (s : ByteArray) : Decidable (zt0 s) := by unfold zt0; infer_instance
theorem znz (c : List Int) (a b : Int) (hc : c.length ≤ 1048576) : Ev (fun k => zcx k c a b) (c.all (fun n => decide (a ≤ n ∧ n ≤ b))) := by
  unfold zcx
  refine zty c _ (fun k i => zcs k a b c c.length i) ?_ (fun i x hi hx hp => ?_) (fun i x r hi hx hp hr => ?_)
  · refine Ev.step (f := fun _ => some true) (fun k => ?_) (Ev.now _)
    simp only [zcs]
    rw [if_neg (by omega)]
  · refine Ev.step (f := fun _ => some false) (fun k => ?_) (Ev.now _)
    simp only [zcs, zjb hx, zpf, Option.bind_some, hp]
    rw [if_pos (by omega), if_pos (by omega), if_pos (by omega), if_neg (by simp)]
  · refine Ev.step (fun k => ?_) hr
    simp only [zcs, zjb hx, zpf, Option.bind_some, hp]
    rw [if_pos (by omega), if_pos (by omega), if_pos (by omega), if_pos trivial, w64n i (by omega)]
theorem zjn (n : Nat) (Q : Nat → Bool) (fin : Bool) (L : Nat → Int → Option Bool) (hend : Ev (fun k => L k (n : Nat)) fin)
    (hno : ∀ i : Nat, i < n → Q i = false → Ev (fun k => L k (i : Nat)) false) (hyes : ∀ (i : Nat) r, i < n → Q i = true → Ev (fun k => L k ((i + 1 : Nat) : Int)) r → Ev (fun k => L k (i : Nat)) r) : Ev (fun k => L k 0) ((List.range n).all Q && fin) := by
  have key : ∀ (d i : Nat), i + d = n → Ev (fun k => L k (i : Nat)) ((List.range' i d).all Q && fin) := by
    intro d
    induction d with
    | zero =>
      intro i hi
      have e : i = n := by omega
      subst e
      simpa using hend
    | succ d ih =>
      intro i hi
      rw [List.range'_succ, List.all_cons]
      cases h : Q i
      · simpa using hno i (by omega) h
      · simpa using hyes i _ (by omega) h (ih (i + 1) (by omega))
  rw [List.range_eq_range']
  exact key n 0 (by omega)
theorem zru {α : Type} (xs : List α) (p : α → Bool) (fin : Bool) (L : Nat → Int → Option Bool) (hend : Ev (fun k => L k (xs.length : Nat)) fin)
    (hno : ∀ (i : Nat) x, i < xs.length → (∀ d, xs.getD i d = x) → p x = false → Ev (fun k => L k i) false)
    (hyes : ∀ (i : Nat) x r, i < xs.length → (∀ d, xs.getD i d = x) → p x = true → Ev (fun k => L k ((i + 1 : Nat) : Int)) r → Ev (fun k => L k i) r) : Ev (fun k => L k 0) (xs.all p && fin) := by
  refine zic (σ := Unit) xs (fun k _ i => L k i) (fun l _ => l.all p && fin) (fun _ => by simpa using hend) (fun i _ x rest hi hx ih => ?_) ()
  cases h : p x
  · exact zgr (hno i x hi hx h) (by simp [h])
  · exact hyes i x _ hi hx h (zgr (ih ()) (by simp [h]))
theorem zi3 {α β : Type} (xs : List α) (g : α → List β) (N : Nat) (L : Nat → List β → Int → Option (List β)) (T : List β)
    (hend : ∀ s, (s ++ T).length ≤ N → Ev (fun k => L k s (xs.length : Nat)) (s ++ T))
    (hstep : ∀ (i : Nat) s x U, i < xs.length → (∀ d, xs.getD i d = x) → (s ++ (g x ++ U)).length ≤ N → (∀ s', (s' ++ U).length ≤ N → Ev (fun k => L k s' ((i + 1 : Nat) : Int)) (s' ++ U)) → Ev (fun k => L k s (i : Nat)) (s ++ (g x ++ U)))
    (s : List β) (hs : (s ++ (xs.flatMap g ++ T)).length ≤ N) : Ev (fun k => L k s 0) (s ++ (xs.flatMap g ++ T)) := by
  have key : ∀ (d i : Nat), i + d = xs.length → ∀ s, (s ++ ((xs.drop i).flatMap g ++ T)).length ≤ N → Ev (fun k => L k s (i : Nat)) (s ++ ((xs.drop i).flatMap g ++ T)) := by
    intro d
    induction d with
    | zero =>
      intro i hi s hs
      have e : i = xs.length := by omega
      subst e
      rw [List.drop_of_length_le (Nat.le_refl _), List.flatMap_nil, List.nil_append] at hs ⊢
      exact hend s hs
    | succ d ih =>
      intro i hi s hs
      have hlt : i < xs.length := by omega
      have e : xs.drop i = xs[i] :: xs.drop (i + 1) := List.drop_eq_getElem_cons hlt
      rw [e, List.flatMap_cons, List.append_assoc] at hs ⊢
      exact hstep i s xs[i] _ hlt (zdv xs i hlt) hs (ih (i + 1) (by omega))
  have := key xs.length 0 (by omega) s (by simpa using hs)
  simpa using this
def immC (c : Nat) : Bool := match c with | 0 => true | 5 => true | 6 => true | 7 => true | _ => false
def imm7 : List ByteArray := [⟨#[115, 101, 116]⟩, ⟨#[97, 100, 100, 105]⟩, ⟨#[97, 110, 100, 105]⟩, ⟨#[120, 111, 114, 105]⟩, ⟨#[115, 104, 108, 105]⟩, ⟨#[115, 104, 114, 105]⟩, ⟨#[108, 101, 97]⟩]
theorem zqe : ∀ p ∈ ops, hasS imm7 p.1 = immC p.2 := by decide +kernel
theorem zrv : ∀ t ∈ imm7, (ops.any fun p => decide (t = p.1)) = true := by decide +kernel
theorem zt1 (s : ByteArray) : hasS imm7 s = immC (cls s) := by
  refine zmr (P := fun s => hasS imm7 s = immC (cls s)) s (fun p hp => by rw [zqe p hp, zqq p hp]) (fun h => ?_)
  rw [zms h, Bool.eq_iff_iff, zpw]
  constructor
  · intro hm
    have := zrv s hm
    rw [List.any_eq_true] at this
    obtain ⟨p, hp, he⟩ := this
    exact absurd (of_decide_eq_true he) (h p hp)
  · intro h
    cases h
theorem zn0 (s : ByteArray) : Ev (fun k => zd4 k s) (immC (cls s)) := by
  unfold zd4
  rw [← zt1]
  exact Ev.bind (zlw imm7 s (by decide)) (Ev.now _)
def inB (c : Nat) (m : Int) : Bool := decide ((zev c).2.2.2.1 ≤ m ∧ m ≤ (zev c).2.2.2.2)
def inW (m : Int) : Bool := decide (0 ≤ m ∧ m ≤ 63)
theorem zsu (c : Nat) (s : ByteArray) (h : c ≤ 8) : (zew c s).1 = (zev c).2.1 := by
  rcases (show c = 0 ∨ c = 1 ∨ c = 2 ∨ c = 3 ∨ c = 4 ∨ c = 5 ∨ c = 6 ∨ c = 7 ∨ c = 8 by omega) with h | h | h | h | h | h | h | h | h <;> subst h <;> rfl
theorem zsv (c : Nat) (s : ByteArray) (h : c ≤ 8) : (zew c s).2.1 = (zev c).2.2.1 := by
  rcases (show c = 0 ∨ c = 1 ∨ c = 2 ∨ c = 3 ∨ c = 4 ∨ c = 5 ∨ c = 6 ∨ c = 7 ∨ c = 8 by omega) with h | h | h | h | h | h | h | h | h <;> subst h <;> rfl
theorem zsw (c : Nat) (s : ByteArray) (h : c ≤ 8) : (zew c s).2.2.2.2.2.2 = decide (c ≠ 8) := by
  rcases (show c = 0 ∨ c = 1 ∨ c = 2 ∨ c = 3 ∨ c = 4 ∨ c = 5 ∨ c = 6 ∨ c = 7 ∨ c = 8 by omega) with h | h | h | h | h | h | h | h | h <;> subst h <;> rfl
theorem zpy (c : Nat) (h : c ≤ 8) : (zev c).1 = decide (c ≠ 8) := by
  rcases (show c = 0 ∨ c = 1 ∨ c = 2 ∨ c = 3 ∨ c = 4 ∨ c = 5 ∨ c = 6 ∨ c = 7 ∨ c = 8 by omega) with h | h | h | h | h | h | h | h | h <;> subst h <;> rfl
theorem zn1 (c : Nat) (s : ByteArray) (h : c ≤ 8) (h8 : c ≠ 8) : decide ((zew c s).2.2.1 ≤ (zew c s).2.2.2.1) = immC c := by
  rcases (show c = 0 ∨ c = 1 ∨ c = 2 ∨ c = 3 ∨ c = 4 ∨ c = 5 ∨ c = 6 ∨ c = 7 ∨ c = 8 by omega) with h | h | h | h | h | h | h | h | h <;> subst h <;> first | rfl | exact absurd rfl h8
theorem zqx (c : Nat) (s : ByteArray) (h : c ≤ 8) (h8 : immC c = true) (m : Int) : decide ((zew c s).2.2.1 ≤ m ∧ m ≤ (zew c s).2.2.2.1) = inB c m := by
  rcases (show c = 0 ∨ c = 1 ∨ c = 2 ∨ c = 3 ∨ c = 4 ∨ c = 5 ∨ c = 6 ∨ c = 7 ∨ c = 8 by omega) with h | h | h | h | h | h | h | h | h <;> subst h <;> first | rfl | cases h8
def okOp (ims : List Int) (s : ByteArray) : Bool := decide (cls s ≠ 8) && (!immC (cls s) || ims.all (inB (cls s)))
def difS (l : List ByteArray) : Bool := (List.range l.length).all fun i => !hasS (l.take i) (l.getD i ByteArray.empty)
def difI (l : List Int) : Bool := (List.range l.length).all fun i => !decide (l.getD i 0 ∈ l.take i)
def zft (os : List ByteArray) (ims : List Int) : Bool := decide (1 ≤ os.length ∧ os.length ≤ 4) && (decide (ims.length ≤ 2) && (ims.all inW && (difS os && (difI ims && (List.range os.length).all fun i => okOp ims (os.getD i ByteArray.empty)))))
theorem zsx (l : List ByteArray) (hl : l.length ≤ 1048576) : Ev (fun k => zbh k l) (difS l) := by
  unfold zbh difS
  refine zgr (zjn l.length _ true (fun k i => zaq k l l l.length i) ?_ (fun i hi hq => ?_) (fun i r hi hq hr => ?_)) (Bool.and_true _)
  · refine Ev.step (f := fun _ => some true) (fun k => ?_) (Ev.now _)
    simp only [zaq]
    rw [if_neg (by omega)]
  · refine Ev.step (fun k => by simp only [zaq, zhe (d0 := ByteArray.empty) (fun d => (zdv l i hi d).trans (zdv l i hi ByteArray.empty).symm), Int.toNat_natCast]; rfl) (zak (by omega) (zak (by omega) (zak (by omega) (zak (by omega) ?_))))
    exact Ev.bind (zkc _ _ (by rw [List.length_take]; omega)) (zak (by simpa using hq) (Ev.now _))
  · refine Ev.step (fun k => by simp only [zaq, zhe (d0 := ByteArray.empty) (fun d => (zdv l i hi d).trans (zdv l i hi ByteArray.empty).symm), Int.toNat_natCast]; rfl) (zak (by omega) (zak (by omega) (zak (by omega) (zak (by omega) ?_))))
    refine Ev.bind (zkc _ _ (by rw [List.length_take]; omega)) (zb0 (by simpa using hq) ?_)
    rw [w64n i (by omega)]
    exact hr
theorem zsy (l : List Int) (hl : l.length ≤ 1048576) : Ev (fun k => zbg k l) (difI l) := by
  unfold zbg difI
  refine zgr (zjn l.length _ true (fun k i => zav k l l l.length i) ?_ (fun i hi hq => ?_) (fun i r hi hq hr => ?_)) (Bool.and_true _)
  · refine Ev.step (f := fun _ => some true) (fun k => ?_) (Ev.now _)
    simp only [zav]
    rw [if_neg (by omega)]
  · refine Ev.step (fun k => by simp only [zav, zjb (fun d => (zdv l i hi d).trans (zdv l i hi 0).symm), Int.toNat_natCast]; rfl) (zak (by omega) (zak (by omega) (zak (by omega) (zak (by omega) ?_))))
    exact Ev.bind (zme _ _ (by rw [List.length_take]; omega)) (zak (by simpa using hq) (Ev.now _))
  · refine Ev.step (fun k => by simp only [zav, zjb (fun d => (zdv l i hi d).trans (zdv l i hi 0).symm), Int.toNat_natCast]; rfl) (zak (by omega) (zak (by omega) (zak (by omega) (zak (by omega) ?_))))
    refine Ev.bind (zme _ _ (by rw [List.length_take]; omega)) (zb0 (by simpa using hq) ?_)
    rw [w64n i (by omega)]
    exact hr
def opI (ims : List Int) (s : ByteArray) : Bool := decide (cls s ≠ 8) && ims.all fun m => inW m && (!immC (cls s) || inB (cls s) m)
theorem zph (os : List ByteArray) (ims : List Int) (ho : os.length ≤ 4) (hi : ims.length ≤ 1048576) : Ev (fun k => zbx k os os.length 0 os ims) ((List.range os.length).all fun i => opI ims (os.getD i ByteArray.empty)) := by
  have inner : ∀ (i : Nat) (s : ByteArray) r, i < os.length → cls s ≠ 8 → Ev (fun k => zbx k os os.length ((i + 1 : Nat) : Int) os ims) r → Ev (fun k => zau k os os.length i ims ims.length 0 os ims (zew (cls s) s).1 (zew (cls s) s).2.1 (zew (cls s) s).2.2.1 (zew (cls s) s).2.2.2.1 (zew (cls s) s).2.2.2.2.1 (zew (cls s) s).2.2.2.2.2.1) ((ims.all fun m => inW m && (!immC (cls s) || inB (cls s) m)) && r) := by
    intro i s r hlt h8 hr
    have hc := znp s
    refine zru ims _ r (fun k j => zau k os os.length i ims ims.length j os ims (zew (cls s) s).1 (zew (cls s) s).2.1 (zew (cls s) s).2.2.1 (zew (cls s) s).2.2.2.1 (zew (cls s) s).2.2.2.2.1 (zew (cls s) s).2.2.2.2.2.1) ?_ (fun j x hj hx hp => ?_) (fun j x r' hj hx hp hr' => ?_)
    · refine Ev.step (fun k => ?_) hr
      simp only [zau]
      rw [if_neg (by omega), w64n i (by omega)]
    · refine Ev.step (fun k => by simp only [zau, zjb hx, zhp, zmx, zdw, Option.bind_some, zn1 _ s hc h8]; rfl) (zak (by omega) (zak (by omega) (zak (by omega) ?_)))
      by_cases q : 0 ≤ x ∧ x ≤ 63
      · refine zak (by simpa using q) ?_
        cases hm : immC (cls s)
        · simp [inW, hm, q] at hp
        · refine zak rfl (zb0 ?_ (Ev.now _))
          rw [zqx _ s hc hm]
          simpa [inW, hm, q] using hp
      · exact zb0 (by simpa using q) (Ev.now _)
    · refine Ev.step (fun k => by simp only [zau, zjb hx, zhp, zmx, zdw, Option.bind_some, zn1 _ s hc h8]; rfl) (zak (by omega) (zak (by omega) (zak (by omega) ?_)))
      simp only [Bool.and_eq_true] at hp
      refine zak hp.1 ?_
      rw [w64n j (by omega)]
      cases hm : immC (cls s)
      · exact zb0 (by simp) hr'
      · refine zak rfl (zak ?_ hr')
        rw [zqx _ s hc hm]
        simpa [hm] using hp.2
  have main : ∀ (d i : Nat), i + d = os.length → Ev (fun k => zbx k os os.length (i : Nat) os ims) ((List.range' i d).all fun i => opI ims (os.getD i ByteArray.empty)) := by
    intro d
    induction d with
    | zero =>
      intro i hi
      refine Ev.step (f := fun _ => some true) (fun k => ?_) (Ev.some rfl)
      simp only [zbx]
      rw [if_neg (by omega)]
    | succ d ih =>
      intro i hi
      have hlt : i < os.length := by omega
      have hx : rdOf ByteArray.empty os i = os.getD i ByteArray.empty := zhe (fun d => (zdv os i hlt d).trans (zdv os i hlt ByteArray.empty).symm)
      rw [List.range'_succ, List.all_cons]
      obtain ⟨s, es⟩ : ∃ s, s = os.getD i ByteArray.empty := ⟨_, rfl⟩
      rw [← es] at hx ⊢
      refine Ev.step (fun k => by simp only [zbx, hx, zol, Option.bind_some, zsw _ _ (znp _)]; rfl) (zak (by omega) (zak (by omega) (zak (by omega) ?_)))
      by_cases h8 : cls s = 8
      · refine zb0 (by simpa using h8) (Ev.some ?_)
        rw [show opI ims s = false by simp [opI, h8]]
        rfl
      · refine zak (by simpa using h8) (zgr (inner i _ _ hlt h8 (ih (i + 1) (by omega))) ?_)
        rw [show opI ims s = ims.all fun m => inW m && (!immC (cls s) || inB (cls s) m) by simp [opI, h8]]
  rw [List.range_eq_range']
  exact main os.length 0 (by omega)
theorem zqy (os : List ByteArray) (ims : List Int) (ho : 1 ≤ os.length) : ((List.range os.length).all fun i => opI ims (os.getD i ByteArray.empty)) = (ims.all inW && (List.range os.length).all fun i => okOp ims (os.getD i ByteArray.empty)) := by
  rw [Bool.eq_iff_iff]
  simp only [Bool.and_eq_true, List.all_eq_true, List.mem_range, opI, okOp, Bool.or_eq_true, Bool.not_eq_true']
  constructor
  · exact fun h => ⟨fun m hm => ((h 0 ho).2 m hm).1, fun i hi => ⟨(h i hi).1, by
      cases hc : immC (cls (os.getD i ByteArray.empty))
      · exact Or.inl rfl
      · refine Or.inr fun m hm => ?_
        have := ((h i hi).2 m hm).2
        rw [hc] at this
        exact this.resolve_left (by simp)⟩⟩
  · exact fun h i hi => ⟨(h.2 i hi).1, fun m hm => ⟨h.1 m hm, (h.2 i hi).2.imp id (fun g => g m hm)⟩⟩
theorem zmy (os : List ByteArray) (ims : List Int) (ho : os.length ≤ 1048576) (hi : ims.length ≤ 1048576) : Ev (fun k => zen k os ims) (zft os ims) := by
  unfold zen zft
  refine Ev.call (zmx _ _ _) ?_
  by_cases h1 : 1 ≤ os.length ∧ os.length ≤ 4
  · rw [decide_eq_true h1, Bool.true_and]
    refine zak (by simp; omega) ?_
    by_cases h2 : ims.length ≤ 2
    · rw [decide_eq_true h2, Bool.true_and]
      refine zb0 (by omega) (Ev.bind (zsx os ho) ?_)
      cases hd : difS os
      · refine zb0 (by decide) (Ev.step (fun k => by simp only [zan]; rfl) (zak (show true = true from rfl) (Ev.some ?_)))
        simp
      · refine zak rfl (Ev.bind (zsy ims hi) ?_)
        cases hd2 : difI ims
        · refine Ev.step (fun k => by simp only [zan]; rfl) (zak (by decide) (Ev.some ?_))
          simp
        · refine Ev.step (fun k => by simp only [zan]; rfl) (zb0 (by decide) ?_)
          refine zgr (zph os ims h1.2 hi) ?_
          rw [zqy os ims h1.1, Bool.true_and, Bool.true_and]
    · rw [decide_eq_false h2, Bool.false_and]
      refine zak (by omega) (Ev.step (fun k => by simp only [zan]; rfl) (zak (show true = true from rfl) (Ev.now _)))
  · rw [decide_eq_false h1, Bool.false_and]
    exact zb0 (by simp; omega) (Ev.step (fun k => by simp only [zan]; rfl) (zak (show true = true from rfl) (Ev.now _)))
theorem zqz (os : List ByteArray) (ims : List Int) (ho : os.length ≤ 1048576) (hi : ims.length ≤ 1048576) : Ev (fun k => ze4 k os ims) (zft os ims) := by
  unfold ze4 zft
  refine Ev.call (zpf _ _ _) ?_
  by_cases h1 : 1 ≤ os.length ∧ os.length ≤ 4
  · rw [decide_eq_true h1, Bool.true_and]
    refine zak (by simp; omega) ?_
    by_cases h2 : ims.length ≤ 2
    · rw [decide_eq_true h2, Bool.true_and]
      refine zb0 (by omega) (Ev.bind (znz ims 0 63 hi) ?_)
      cases hw : ims.all (fun n => decide (0 ≤ n ∧ n ≤ 63))
      · rw [show ims.all inW = false from hw]
        exact Ev.step (fun k => by simp only [zbc]; rfl) (zak (by decide) (Ev.now _))
      · rw [show ims.all inW = true from hw, Bool.true_and]
        refine Ev.step (fun k => by simp only [zbc]; rfl) (zb0 (by decide) ?_)
        have last : Ev (fun k => zca k ims ims.length 0 os ims) (difI ims) := by
          unfold difI
          refine zgr (zjn ims.length _ true (fun k i => zca k ims ims.length i os ims) ?_ (fun i hi hq => ?_) (fun i r hi hq hr => ?_)) (Bool.and_true _)
          · refine Ev.step (f := fun _ => some true) (fun k => ?_) (Ev.now _)
            simp only [zca]
            rw [if_neg (by omega)]
          · refine Ev.step (fun k => by simp only [zca, zjb (fun d => (zdv ims i hi d).trans (zdv ims i hi 0).symm), Int.toNat_natCast]; rfl) (zak (by omega) (zak (by omega) (zak (by omega) (zak (by omega) ?_))))
            exact Ev.bind (zpx _ _ (by rw [List.length_take]; omega)) (zak (by simpa using hq) (Ev.now _))
          · refine Ev.step (fun k => by simp only [zca, zjb (fun d => (zdv ims i hi d).trans (zdv ims i hi 0).symm), Int.toNat_natCast]; rfl) (zak (by omega) (zak (by omega) (zak (by omega) (zak (by omega) ?_))))
            refine Ev.bind (zpx _ _ (by rw [List.length_take]; omega)) (zb0 (by simpa using hq) ?_)
            rw [w64n i (by omega)]
            exact hr
        have first := zjn os.length (fun i => okOp ims (os.getD i ByteArray.empty) && !hasS (os.take i) (os.getD i ByteArray.empty)) (difI ims) (fun k i => za1 k os os.length i os ims) (by
          refine Ev.step (fun k => ?_) last
          simp only [za1]
          rw [if_neg (by omega)]) (fun i hlt hq => by
          have hx : rdOf ByteArray.empty os i = os.getD i ByteArray.empty := zhe (fun d => (zdv os i hlt d).trans (zdv os i hlt ByteArray.empty).symm)
          obtain ⟨s, es⟩ : ∃ s, s = os.getD i ByteArray.empty := ⟨_, rfl⟩
          rw [← es] at hx hq
          refine Ev.step (fun k => by simp only [za1, hx, Int.toNat_natCast]; rfl) (zak (by omega) (zak (by omega) (zak (by omega) (Ev.bind (zny _) ?_))))
          rw [zpy _ (znp _)]
          by_cases h8 : cls s = 8
          · exact zb0 (by simpa using h8) (Ev.now _)
          refine zak (by simpa using h8) (zak (by omega) (Ev.bind (zlw _ _ (by rw [List.length_take]; omega)) ?_))
          cases hh : hasS (os.take i) s
          · refine zb0 (by decide) (Ev.bind (zn0 _) ?_)
            rw [hh] at hq
            cases hm : immC (cls s)
            · simp [okOp, h8, hm] at hq
            · refine zak rfl (Ev.bind (znz ims _ _ hi) (zb0 ?_ (Ev.now _)))
              simpa [okOp, h8, hm, inB] using hq
          · exact zak rfl (Ev.now _)) (fun i r hlt hq hr => by
          have hx : rdOf ByteArray.empty os i = os.getD i ByteArray.empty := zhe (fun d => (zdv os i hlt d).trans (zdv os i hlt ByteArray.empty).symm)
          obtain ⟨s, es⟩ : ∃ s, s = os.getD i ByteArray.empty := ⟨_, rfl⟩
          rw [← es] at hx hq
          simp only [okOp, Bool.and_eq_true, decide_eq_true_eq, Bool.not_eq_true', Bool.or_eq_true] at hq
          refine Ev.step (fun k => by simp only [za1, hx, Int.toNat_natCast]; rfl) (zak (by omega) (zak (by omega) (zak (by omega) (Ev.bind (zny _) ?_))))
          rw [zpy _ (znp _)]
          refine zak (by simpa using hq.1.1) (zak (by omega) (Ev.bind (zlw _ _ (by rw [List.length_take]; omega)) ?_))
          refine zb0 (by simp [hq.2]) (Ev.bind (zn0 _) ?_)
          rw [w64n i (by omega)]
          cases hm : immC (cls s)
          · exact zb0 (by decide) hr
          · have := hq.1.2.resolve_left (by simp [hm])
            exact zak rfl (Ev.bind (znz ims _ _ hi) (zak this hr)))
        refine zgr first ?_
        rw [Bool.eq_iff_iff]
        simp only [difS, Bool.and_eq_true, List.all_eq_true, List.mem_range]
        exact ⟨fun h => ⟨fun i hi => (h.1 i hi).2, h.2, fun i hi => (h.1 i hi).1⟩, fun h => ⟨fun i hi => ⟨h.2.2 i hi, h.1 i hi⟩, h.2.1⟩⟩
    · rw [decide_eq_false h2, Bool.false_and]
      refine zak (by omega) (Ev.step (fun k => by simp only [zbc]; rfl) (zak (show true = true from rfl) (Ev.now _)))
  · rw [decide_eq_false h1, Bool.false_and]
    exact zb0 (by simp; omega) (Ev.step (fun k => by simp only [zbc]; rfl) (zak (show true = true from rfl) (Ev.now _)))
theorem zjr {α β : Type} (xs : List α) (g : α → List β) (c : Nat) (h : ∀ x ∈ xs, (g x).length ≤ c) : (xs.flatMap g).length ≤ xs.length * c := by
  induction xs with
  | nil => simp
  | cons x xs ih =>
    rw [List.flatMap_cons, List.length_append, List.length_cons]
    have a := h x (by simp)
    have b := ih (fun y hy => h y (List.mem_cons_of_mem _ hy))
    rw [Nat.succ_mul]
    omega
def zke (u : Bool) (n : Nat) : List Int := if u = true then zjm n 0 else [0]
def imsM (c : Nat) (ims : List Int) : List Int := if immC c = true then ims else [0]
def zjc (ims : List Int) (t : Nat) (s : ByteArray) : List Instr := (zke (zev (cls s)).2.1 (2 + t)).flatMap fun a => (zke (zev (cls s)).2.2.1 (2 + t)).flatMap fun b => (imsM (cls s) ims).flatMap fun m => [⟨s, ((2 + t : Nat) : Int), a, b, m⟩]
def zj4 (os : List ByteArray) (ims : List Int) (t : Nat) : List Instr := os.flatMap (zjc ims t)
theorem zjo (u : Bool) (n : Nat) (h : 1 ≤ n) : (zke u n).length ≤ n := by
  unfold zke
  split
  · rw [zno]; exact Nat.le_refl _
  · simpa using h
theorem zpi (ims : List Int) (t : Nat) (s : ByteArray) (h : ims.length ≤ 2) (ht : t ≤ 3) : (zjc ims t s).length ≤ 50 := by
  have hi : (imsM (cls s) ims).length ≤ 2 := by
    unfold imsM
    split
    · exact h
    · simp
  have a := zjo (zev (cls s)).2.1 (2 + t) (by omega)
  have b := zjo (zev (cls s)).2.2.1 (2 + t) (by omega)
  have e1 : ∀ x y : Int, ((imsM (cls s) ims).flatMap fun m => [(⟨s, ((2 + t : Nat) : Int), x, y, m⟩ : Instr)]).length ≤ 2 := fun x y => by
    have := zjr (imsM (cls s) ims) (fun m => [(⟨s, ((2 + t : Nat) : Int), x, y, m⟩ : Instr)]) 1 (by simp)
    omega
  have e2 : ∀ x : Int, ((zke (zev (cls s)).2.2.1 (2 + t)).flatMap fun y => (imsM (cls s) ims).flatMap fun m => [(⟨s, ((2 + t : Nat) : Int), x, y, m⟩ : Instr)]).length ≤ 10 := fun x => by
    have := zjr (zke (zev (cls s)).2.2.1 (2 + t)) (fun y => (imsM (cls s) ims).flatMap fun m => [(⟨s, ((2 + t : Nat) : Int), x, y, m⟩ : Instr)]) 2 (fun y _ => e1 x y)
    omega
  have := zjr (zke (zev (cls s)).2.1 (2 + t)) _ 10 (fun x _ => e2 x)
  unfold zjc
  omega
theorem zhw (os : List ByteArray) (ims : List Int) (t : Nat) (ho : os.length ≤ 4) (h : ims.length ≤ 2) (ht : t ≤ 3) : (zj4 os ims t).length ≤ 200 := by
  have := zjr os (zjc ims t) 50 (fun s _ => zpi ims t s h ht)
  unfold zj4
  omega
theorem zq0 (u : Bool) (n : Nat) (hn : n ≤ 1048576) : Ev (fun k => zfv k u (n : Int)) (zke u n) := by
  have key : ∀ (d : Nat) (xs : List Int) (b : Nat), xs.length + d ≤ 1048576 → b + d = n → Ev (fun k => zdh k xs n b) (xs ++ zjm d b) := by
    intro d
    induction d with
    | zero =>
      intro xs b h h'
      refine Ev.step (f := fun _ => some xs) (fun k => ?_) (Ev.some (by simp [zjm]))
      simp only [zdh]
      rw [if_neg (by omega)]
    | succ d ih =>
      intro xs b h h'
      refine Ev.step (fun k => ?_) (zgr (ih (xs ++ [(b : Int)]) (b + 1) (by simp; omega) (by omega)) (by simp [zjm]))
      simp only [zdh]
      rw [if_pos (by omega), if_pos (by omega), w64n _ (by omega)]
  unfold zfv zke
  cases u
  · exact zb0 (by decide) (Ev.now _)
  · exact zak rfl (by simpa using key n [] 0 (by simpa using hn) (by omega))
theorem zom (u : Bool) (t : Nat) (ht : t ≤ 1000) : Ev (fun k => zes k u (t : Int)) (zke u (2 + t)) := by
  have e2 : wrap64 (2 + (t : Int)) = ((2 + t : Nat) : Int) := by rw [w64 (by omega) (by omega)]; omega
  unfold zes zke
  cases u
  · refine Ev.step (f := fun _ => some [0]) (fun k => ?_) (Ev.now _)
    simp only [zb3]
    rw [if_neg (by decide)]
  have key : ∀ (d : Nat) (xs : List Int) (b : Nat), xs.length + d ≤ 1048576 → b + d = 2 + t → Ev (fun k => zb3 k true (t : Int) xs b) (xs ++ zjm d b) := by
    intro d
    induction d with
    | zero =>
      intro xs b h h'
      refine Ev.step (f := fun _ => some xs) (fun k => ?_) (Ev.some (by simp [zjm]))
      simp only [zb3, e2]
      rw [if_pos trivial, if_neg (by omega)]
    | succ d ih =>
      intro xs b h h'
      refine Ev.step (fun k => ?_) (zgr (ih (xs ++ [(b : Int)]) (b + 1) (by simp; omega) (by omega)) (by simp [zjm]))
      simp only [zb3, e2]
      rw [if_pos trivial, if_pos (by omega), if_pos (by omega), w64n _ (by omega)]
  have := key (1 + t) [0] 1 (by simp; omega) (by omega)
  refine zgr this ?_
  rw [if_pos rfl, show 2 + t = (1 + t) + 1 by omega]
  rfl
theorem zq1 (os : List ByteArray) (ims : List Int) (s : ByteArray) : Ev (fun k => zfj k os ims s) (imsM (cls s) ims) := by
  unfold zfj imsM
  refine Ev.bind (zn0 s) ?_
  cases immC (cls s)
  · exact zb0 (by decide) (Ev.now _)
  · exact zak rfl (Ev.now _)
theorem zpz (os : List ByteArray) (ims : List Int) (t : Nat) (ho : os.length ≤ 4) (hi : ims.length ≤ 2) (ht : t ≤ 3) (hc : ∀ s ∈ os, cls s ≠ 8) : Ev (fun k => zfw k os ims t) (zj4 os ims t) := by
  have e2 : wrap64 (2 + (t : Int)) = ((2 + t : Nat) : Int) := by rw [w64 (by omega) (by omega)]; omega
  unfold zfw zj4
  have hb := zhw os ims t ho hi ht
  unfold zj4 at hb
  refine zgr (zi3 os (zjc ims t) 200 (fun k x i => zdj k t x os os.length i os ims) [] (fun s hs => ?_) (fun i x5 s U hio hx hN H => ?_) [] (by simpa using hb)) (by simp)
  · refine Ev.step (f := fun _ => some s) (fun k => ?_) (Ev.some (by simp))
    simp only [zdj]
    rw [if_neg (by omega)]
  have hcl := znp s
  have h8 := hc s (zpg hio hx)
  refine Ev.step (fun k => by simp only [zdj, zhe (d0 := ByteArray.empty) hx, zol, zdw, Option.bind_some, zn1 _ s hcl h8]; rfl) (zak (by omega) (zak (by omega) (zak (by omega) ?_)))
  have body : Ev (fun k => zb1 k t x5 s (imsM (cls s) ims) os os.length i os ims (zew (cls s) s).1 (zew (cls s) s).2.1 (zew (cls s) s).2.2.1 (zew (cls s) s).2.2.2.1 (zew (cls s) s).2.2.2.2.1 (zew (cls s) s).2.2.2.2.2.1) (x5 ++ (zjc ims t s ++ U)) := by
    have r1 := zq0 (zew (cls s) s).1 (2 + t) (by omega)
    have r2 := zq0 (zew (cls s) s).2.1 (2 + t) (by omega)
    have l1 := zjo (zew (cls s) s).1 (2 + t) (by omega)
    have l2 := zjo (zew (cls s) s).2.1 (2 + t) (by omega)
    have l3 : (imsM (cls s) ims).length ≤ 2 := by
      unfold imsM
      split
      · exact hi
      · simp
    unfold zjc at hN ⊢
    rw [← zsu _ s hcl, ← zsv _ s hcl] at hN ⊢
    refine Ev.step (fun k => by simp only [zb1, e2]; rfl) (Ev.bind r1 ?_)
    generalize imsM (cls s) ims = M at *
    generalize zke (zew (cls s) s).1 (2 + t) = A at *
    generalize zke (zew (cls s) s).2.1 (2 + t) = B at *
    generalize (zew (cls s) s) = F at *
    refine zi3 A _ 200 (fun k x j => zdq k t x s M os os.length i A A.length j os ims F.1 F.2.1 F.2.2.1 F.2.2.2.1 F.2.2.2.2.1 F.2.2.2.2.2.1) U (fun x hs => ?_) (fun j x5 a U' hj hxa hN' H' => ?_) x5 hN
    · refine Ev.step (fun k => ?_) (H x hs)
      simp only [zdq]
      rw [if_neg (by omega), w64n i (by omega)]
    refine Ev.step (fun k => by simp only [zdq, zjb hxa, e2]; rfl) (zak (by omega) (zak (by omega) (zak (by omega) (Ev.bind r2 ?_))))
    refine zi3 B _ 200 (fun k x q => zdr k t x s M a os os.length i A A.length j B B.length q os ims F.1 F.2.1 F.2.2.1 F.2.2.2.1 F.2.2.2.2.1 F.2.2.2.2.2.1) U' (fun x hs => ?_) (fun q x5 b U2 hq hxb hN2 H2 => ?_) x5 hN'
    · refine Ev.step (fun k => ?_) (H' x hs)
      simp only [zdr]
      rw [if_neg (by omega), w64n j (by omega)]
    refine Ev.step (fun k => by simp only [zdr, zjb hxb]; rfl) (zak (by omega) (zak (by omega) (zak (by omega) ?_)))
    refine zi3 M _ 200 (fun k x p => zds k t x s M a b os os.length i A A.length j B B.length q M M.length p os ims F.1 F.2.1 F.2.2.1 F.2.2.2.1 F.2.2.2.2.1 F.2.2.2.2.2.1) U2 (fun x hs => ?_) (fun p x5 m U3 hp hxm hN3 H3 => ?_) x5 hN2
    · refine Ev.step (fun k => ?_) (H2 x hs)
      simp only [zds]
      rw [if_neg (by omega), w64n q (by omega)]
    have hlen : x5.length < 2932031007402 := by
      rw [List.length_append] at hN3
      omega
    have := H3 (x5 ++ [⟨s, ((2 + t : Nat) : Int), a, b, m⟩]) (by rw [List.append_assoc]; exact hN3)
    rw [List.append_assoc] at this
    refine Ev.step (fun k => ?_) this
    simp only [zds, zjb hxm, e2]
    rw [if_pos (by omega), if_pos (by omega), if_pos (by omega), if_pos hlen, w64n p (by omega)]
  unfold imsM at body
  cases h : immC (cls s)
  · rw [h] at body
    exact zb0 (by decide) (by simpa using body)
  · rw [h] at body
    exact zak rfl (by simpa using body)
theorem znq (os : List ByteArray) (ims : List Int) (t : Nat) (ho : os.length ≤ 4) (hi : ims.length ≤ 2) (ht : t ≤ 3) : Ev (fun k => ze6 k os ims t) (zj4 os ims t) := by
  have e2 : wrap64 (2 + (t : Int)) = ((2 + t : Nat) : Int) := by rw [w64 (by omega) (by omega)]; omega
  unfold ze6 zj4
  have hb := zhw os ims t ho hi ht
  unfold zj4 at hb
  refine zgr (zi3 os (zjc ims t) 200 (fun k x i => zcv k t x os os.length i os ims) [] (fun s hs => ?_) (fun i x5 s U hio hx hN H => ?_) [] (by simpa using hb)) (by simp)
  · refine Ev.step (f := fun _ => some s) (fun k => ?_) (Ev.some (by simp))
    simp only [zcv]
    rw [if_neg (by omega)]
  refine Ev.step (fun k => by simp only [zcv, zhe (d0 := ByteArray.empty) hx]; rfl) (zak (by omega) (zak (by omega) (zak (by omega) (Ev.bind (zny s) ?_))))
  have r1 := zom (zev (cls s)).2.1 t (by omega)
  have r2 := zom (zev (cls s)).2.2.1 t (by omega)
  have r3 := zq1 os ims s
  have l1 := zjo (zev (cls s)).2.1 (2 + t) (by omega)
  have l2 := zjo (zev (cls s)).2.2.1 (2 + t) (by omega)
  have l3 : (imsM (cls s) ims).length ≤ 2 := by
    unfold imsM
    split
    · exact hi
    · simp
  unfold zjc at hN ⊢
  refine Ev.bind r1 ?_
  generalize imsM (cls s) ims = M at *
  generalize zke (zev (cls s)).2.1 (2 + t) = A at *
  generalize zke (zev (cls s)).2.2.1 (2 + t) = B at *
  generalize (zev (cls s)).2.2.1 = F at *
  refine zi3 A _ 200 (fun k x j => zcj k t x s F os os.length i A A.length j os ims) U (fun x hs => ?_) (fun j x5 a U' hj hxa hN' H' => ?_) x5 hN
  · refine Ev.step (fun k => ?_) (H x hs)
    simp only [zcj]
    rw [if_neg (by omega), w64n i (by omega)]
  refine Ev.step (fun k => by simp only [zcj, zjb hxa]; rfl) (zak (by omega) (zak (by omega) (zak (by omega) (Ev.bind r2 ?_))))
  refine zi3 B _ 200 (fun k x q => zcw k t x s F a os os.length i A A.length j B B.length q os ims) U' (fun x hs => ?_) (fun q x5 b U2 hq hxb hN2 H2 => ?_) x5 hN'
  · refine Ev.step (fun k => ?_) (H' x hs)
    simp only [zcw]
    rw [if_neg (by omega), w64n j (by omega)]
  refine Ev.step (fun k => by simp only [zcw, zjb hxb]; rfl) (zak (by omega) (zak (by omega) (zak (by omega) (Ev.bind r3 ?_))))
  refine zi3 M _ 200 (fun k x p => zck k t x s F a b os os.length i A A.length j B B.length q M M.length p os ims) U2 (fun x hs => ?_) (fun p x5 m U3 hp hxm hN3 H3 => ?_) x5 hN2
  · refine Ev.step (fun k => ?_) (H2 x hs)
    simp only [zck]
    rw [if_neg (by omega), w64n q (by omega)]
  have hlen : x5.length < 2932031007402 := by
    rw [List.length_append] at hN3
    omega
  have := H3 (x5 ++ [⟨s, ((2 + t : Nat) : Int), a, b, m⟩]) (by rw [List.append_assoc]; exact hN3)
  rw [List.append_assoc] at this
  refine Ev.step (fun k => ?_) this
  simp only [zck, zjb hxm, e2]
  rw [if_pos (by omega), if_pos (by omega), if_pos (by omega), if_pos hlen, w64n p (by omega)]
theorem zmz {os : List ByteArray} {ims : List Int} (h : zft os ims = true) : os.length ≤ 4 ∧ ims.length ≤ 2 ∧ ∀ s ∈ os, cls s ≠ 8 := by
  unfold zft at h
  simp only [Bool.and_eq_true, decide_eq_true_eq, List.all_eq_true (l := List.range os.length), List.mem_range, okOp] at h
  refine ⟨h.1.2, h.2.1, fun s hs => ?_⟩
  obtain ⟨i, hi, rfl⟩ := List.getElem_of_mem hs
  have := (h.2.2.2.2.2 i hi).1
  rw [zdv os i hi] at this
  exact this
end Go.Proofs.Ytccoiifklcgodaa.PL
end
section
namespace Go.Proofs.Ytccoiifklcgodaa.Q
open Go.RowKit Go.Proofs.YtccoiifklcgodaaW.PrintWords Go.Proofs.YtccoiifklcgodaaW.PrintLast Go.Proofs.YtccoiifklcgodaaW.PrintMore
attribute [local go_sem] zc7 zc8 zd6 zd7 zcc zcd zc9 zda
set_option linter.unusedVariables false
set_option linter.unusedSimpArgs false
end Go.Proofs.Ytccoiifklcgodaa.Q
end
section
namespace Go.Proofs.Ytccoiifklcgodaa.PL
open Go Go.RowKit Go.Proofs.YtccoiifklcgodaaW.PrintWords Go.Proofs.YtccoiifklcgodaaW.PrintLast Go.Proofs.YtccoiifklcgodaaW.PrintMore Go.Proofs.Ytccoiifklcgodaa.Q
set_option linter.unusedSimpArgs false
set_option linter.unusedVariables false
def eqB (x y : Instr) : Bool := x.f0.toList == y.f0.toList && (x.f1 == y.f1 && (x.f2 == y.f2 && (x.f3 == y.f3 && x.f4 == y.f4)))
def zpj (l : List Instr) (x : Instr) : Int := idx (eqB x) l
theorem zp0 (l : List Instr) (x : Instr) (hl : l.length ≤ 1048576) : Ev (fun k => zec k l x.f0 x.f1 x.f2 x.f3 x.f4) (zpj l x) := by
  unfold zec zpj
  refine zlu l _ (fun k i => zbu k l l.length i x.f0 x.f1 x.f2 x.f3 x.f4) ?_ (fun i y hi hx hp => ?_) (fun i y r hi hx hp hr => ?_)
  · refine Ev.step (f := fun _ => some (-1)) (fun k => ?_) (Ev.now _)
    simp only [zbu]
    rw [if_neg (by omega)]
  · refine Ev.step (fun k => by simp only [zbu, znm hx]; rfl) (zak (by omega) (zak (by omega) (zak (by omega) (zak hp (Ev.now _)))))
  · refine Ev.step (fun k => by simp only [zbu, znm hx]; rfl) (zak (by omega) (zak (by omega) (zak (by omega) (zb0 (fun e => by rw [show eqB x y = true from e] at hp; cases hp) ?_))))
    rw [w64n i (by omega)]
    exact hr
theorem znr (l : List Instr) (x : Instr) (hl : l.length ≤ 1048576) : Ev (fun k => zeu k l x.f0 x.f1 x.f2 x.f3 x.f4) (zpj l x) := by
  unfold zeu zpj
  refine zlu l _ (fun k i => zci k l l.length i x.f0 x.f1 x.f2 x.f3 x.f4) ?_ (fun i y hi hx hp => ?_) (fun i y r hi hx hp hr => ?_)
  · refine Ev.step (f := fun _ => some (-1)) (fun k => ?_) (Ev.now _)
    simp only [zci]
    rw [if_neg (by omega)]
  · refine Ev.step (fun k => by simp only [zci, znm hx]; rfl) (zak (by omega) (zak (by omega) (zak (by omega) (zak hp (Ev.now _)))))
  · refine Ev.step (fun k => by simp only [zci, znm hx]; rfl) (zak (by omega) (zak (by omega) (zak (by omega) (zb0 (fun e => by rw [show eqB x y = true from e] at hp; cases hp) ?_))))
    rw [w64n i (by omega)]
    exact hr
def zjs (os : List ByteArray) (ims : List Int) (l : List Instr) : Bool := decide (l.length ≤ 3) && (List.range l.length).all fun i => decide (0 ≤ zpj (zj4 os ims i) (l.getD i z102))
theorem zjt (l : List Instr) (i : Nat) (h : i < l.length) : zab l i = l.getD i z102 := znm (fun d => (zdv l i h d).trans (zdv l i h _).symm)
theorem zon (os : List ByteArray) (ims : List Int) (l : List Instr) (h : zft os ims = true) (hl : l.length ≤ 1048576) : Ev (fun k => zdo k os ims l) (zjs os ims l) := by
  obtain ⟨ho, hi, hc⟩ := zmz h
  unfold zdo
  refine zgr (zjn l.length (fun i => decide (i < 3) && decide (0 ≤ zpj (zj4 os ims i) (l.getD i z102))) true (fun k i => zbj k l l.length i os ims) ?_ (fun i hlt hq => ?_) (fun i r hlt hq hr => ?_)) ?_
  · refine Ev.step (f := fun _ => some true) (fun k => ?_) (Ev.now _)
    simp only [zbj]
    rw [if_neg (by omega)]
  · refine Ev.step (fun k => by simp only [zbj, zjt l i hlt]; rfl) (zak (by omega) (zak (by omega) (zak (by omega) ?_)))
    by_cases h3 : i < 3
    · refine zb0 (by omega) (Ev.bind (zpz os ims i ho hi (by omega) hc) ?_)
      have hb := zhw os ims i ho hi (by omega)
      rw [decide_eq_true h3, Bool.true_and] at hq
      exact Ev.bind (Ev.bind (zp0 _ _ (by omega)) (Ev.now _)) (zb0 (fun e => of_decide_eq_false hq (of_decide_eq_true e)) (Ev.now _))
    · exact zak (by omega) (Ev.now _)
  · refine Ev.step (fun k => by simp only [zbj, zjt l i hlt]; rfl) (zak (by omega) (zak (by omega) (zak (by omega) ?_)))
    rw [Bool.and_eq_true, decide_eq_true_eq, decide_eq_true_eq] at hq
    refine zb0 (by omega) (Ev.bind (zpz os ims i ho hi (by omega) hc) ?_)
    have hb := zhw os ims i ho hi (by omega)
    refine Ev.bind (Ev.bind (zp0 _ _ (by omega)) (Ev.now _)) (zak (decide_eq_true hq.2) ?_)
    rw [w64n i (by omega)]
    exact hr
  · unfold zjs
    rw [Bool.and_true, Bool.eq_iff_iff]
    simp only [Bool.and_eq_true, List.all_eq_true, List.mem_range, decide_eq_true_eq]
    constructor
    · refine fun g => ⟨?_, fun i hi => (g i hi).2⟩
      by_cases h4 : l.length ≤ 3
      · exact h4
      · have := (g 3 (by omega)).1
        omega
    · exact fun g i hi => ⟨by omega, g.2 i hi⟩
theorem zsz (os : List ByteArray) (ims : List Int) (l : List Instr) (h : zft os ims = true) : Ev (fun k => ze7 k os ims l) (zjs os ims l) := by
  obtain ⟨ho, hi, hc⟩ := zmz h
  unfold ze7 zjs
  by_cases h3 : l.length ≤ 3
  · rw [decide_eq_true h3, Bool.true_and]
    refine zb0 (by omega) (zgr (zjn l.length _ true (fun k i => zdi k l l.length i os ims) ?_ (fun i hlt hq => ?_) (fun i r hlt hq hr => ?_)) (Bool.and_true _))
    · refine Ev.step (f := fun _ => some true) (fun k => ?_) (Ev.now _)
      simp only [zdi]
      rw [if_neg (by omega)]
    · refine Ev.step (fun k => by simp only [zdi, zjt l i hlt]; rfl) (zak (by omega) (zak (by omega) (zak (by omega) ?_)))
      have hb := zhw os ims i ho hi (by omega)
      refine Ev.bind (znq os ims i ho hi (by omega)) (Ev.bind (znr _ _ (by omega)) (zak ?_ (Ev.now _)))
      have := of_decide_eq_false hq
      omega
    · refine Ev.step (fun k => by simp only [zdi, zjt l i hlt]; rfl) (zak (by omega) (zak (by omega) (zak (by omega) ?_)))
      have hb := zhw os ims i ho hi (by omega)
      have := of_decide_eq_true hq
      refine Ev.bind (znq os ims i ho hi (by omega)) (Ev.bind (znr _ _ (by omega)) (zb0 (by omega) ?_))
      rw [w64n i (by omega)]
      exact hr
  · rw [decide_eq_false h3, Bool.false_and]
    exact zak (by omega) (Ev.now _)
end Go.Proofs.Ytccoiifklcgodaa.PL
end
section
namespace Go.Proofs.Ytccoiifklcgodaa.Q
open Go.RowKit Go.Proofs.YtccoiifklcgodaaW.PrintWords Go.Proofs.YtccoiifklcgodaaW.PrintLast Go.Proofs.YtccoiifklcgodaaW.PrintMore
attribute [local go_sem] zc7 zc8 zd6 zd7 zcc zcd zc9 zda
set_option linter.unusedVariables false
set_option linter.unusedSimpArgs false
end Go.Proofs.Ytccoiifklcgodaa.Q
end
section
namespace Go.Proofs.Ytccoiifklcgodaa.PL
open Go Go.RowKit Go.Proofs.YtccoiifklcgodaaW.PrintWords Go.Proofs.YtccoiifklcgodaaW.PrintLast Go.Proofs.YtccoiifklcgodaaW.PrintMore Go.Proofs.Ytccoiifklcgodaa.Q
set_option linter.unusedSimpArgs false
set_option linter.unusedVariables false
theorem zrw (n : Int) : bits .and .i64 n 63 = n % 64 := by
  have h63 : (BitVec.ofInt 64 63).toNat = 2 ^ 6 - 1 := by decide
  have key : (BitVec.ofInt 64 n &&& BitVec.ofInt 64 63).toNat = (n % ((2 ^ 64 : Nat) : Int)).toNat % 2 ^ 6 := by
    rw [BitVec.toNat_and, BitVec.toNat_ofInt, h63, Nat.and_two_pow_sub_one_eq_mod]
  show IntKind.i64.wrap ((BitVec.ofInt 64 n &&& BitVec.ofInt 64 63).toNat : Nat) = n % 64
  rw [key, IntKind.wrap_i64]
  omega
def okV (v : Int) : Prop := 0 ≤ v ∧ v ≤ 63
theorem zs0 (n : Int) : okV (bits .and .i64 n 63) := by
  rw [zrw]
  unfold okV
  omega
theorem zt2 (b : Bool) : zhv b = some (if b = true then 1 else 0) := by
  cases b <;> rfl
theorem zn2 (s : ByteArray) (a b : Int) : zed s a b = zbe s a b := by
  unfold zed zbe
  simp only [zt2, Option.bind_some]
  repeat refine ite_congr rfl (fun _ => rfl) (fun _ => ?_)
  refine ite_congr rfl (fun _ => ?_) (fun _ => ite_congr rfl (fun _ => ?_) (fun _ => rfl))
  · by_cases h : a < b
    · rw [if_pos h, if_pos (by simpa using h)]
    · rw [if_neg h, if_neg (by simpa using h)]
  · by_cases h : a = b
    · rw [if_pos h, if_pos (by simpa using h)]
    · rw [if_neg h, if_neg (by simpa using h)]
theorem zt3 {c : Prop} [Decidable c] {x y : Option Int} {P : Int → Prop} (hx : ∃ v, x = some v ∧ P v) (hy : ∃ v, y = some v ∧ P v) : ∃ v, (if c then x else y) = some v ∧ P v := by
  by_cases h : c
  · rw [if_pos h]; exact hx
  · rw [if_neg h]; exact hy
theorem zmb (s : ByteArray) (a b : Int) (hb : 0 ≤ b) : ∃ v, zbe s a b = some v ∧ okV v := by
  unfold zbe
  rw [if_pos hb, if_pos hb]
  repeat' refine zt3 ?_ ?_
  all_goals exact ⟨_, rfl, zs0 _⟩
def okS (s : List Int) : Prop := s.length = 6 ∧ ∀ v ∈ s, okV v
theorem zp1 {s : List Int} (h : okS s) {i : Int} (h0 : 0 ≤ i) (h1 : i ≤ 5) : okV (rd s i) := by
  have hi : i.toNat < s.length := by rw [h.1]; omega
  unfold rd
  rw [zdv s _ hi]
  exact h.2 _ (List.getElem_mem hi)
theorem zs1 {s : List Int} (h : okS s) (i : Nat) {v : Int} (hv : okV v) : okS (s.set i v) := by
  refine ⟨by rw [List.length_set]; exact h.1, fun u hu => ?_⟩
  rcases List.mem_or_eq_of_mem_set hu with hu | rfl
  · exact h.2 u hu
  · exact hv
theorem zn3 {x : Instr} (h : okI x) : 0 ≤ x.f1 ∧ x.f1 ≤ 5 ∧ 0 ≤ x.f2 ∧ x.f2 ≤ 5 ∧ 0 ≤ x.f3 ∧ x.f3 ≤ 5 ∧ 0 ≤ x.f4 ∧ x.f4 ≤ 63 := by
  obtain ⟨hc, h1, h2, h3, h4⟩ := h
  rcases zqv x.f0 with e | e | e | e | e | e | e | e | e <;> simp only [e, zev] at h2 h3 h4 <;> simp at h2 h3 h4 <;> first | omega | exact absurd e hc
theorem zrx (x : Instr) (s : List Int) (h : okI x) (hs : okS s) : ∃ v, zel x.f0 x.f1 x.f2 x.f3 x.f4 s = some v ∧ okV v := by
  obtain ⟨h1, h1', h2, h2', h3, h3', h4, h4'⟩ := zn3 h
  have hl := hs.1
  have ha := zp1 hs h2 h2'
  have hb := zp1 hs h3 h3'
  unfold zel
  rw [if_pos h2, if_pos (by omega), if_pos h3, if_pos (by omega)]
  have one : ∀ t a b, 0 ≤ b → ∃ v, ((zbe t a b).bind fun v => some v) = some v ∧ okV v := fun t a b hb => by
    obtain ⟨v, e, hv⟩ := zmb t a b hb
    exact ⟨v, by rw [e]; rfl, hv⟩
  by_cases qset : x.f0.toList = ([115, 101, 116] : List UInt8)
  · rw [if_pos qset]
    exact ⟨_, rfl, h4, h4'⟩
  rw [if_neg qset]
  by_cases qmov : x.f0.toList = ([109, 111, 118] : List UInt8)
  · rw [if_pos qmov]
    exact ⟨_, rfl, ha⟩
  rw [if_neg qmov]
  by_cases qaddi : x.f0.toList = ([97, 100, 100, 105] : List UInt8)
  · rw [if_pos qaddi]
    exact one _ _ _ h4
  rw [if_neg qaddi]
  by_cases qandi : x.f0.toList = ([97, 110, 100, 105] : List UInt8)
  · rw [if_pos qandi]
    exact one _ _ _ h4
  rw [if_neg qandi]
  by_cases qxori : x.f0.toList = ([120, 111, 114, 105] : List UInt8)
  · rw [if_pos qxori]
    exact one _ _ _ h4
  rw [if_neg qxori]
  by_cases qshli : x.f0.toList = ([115, 104, 108, 105] : List UInt8)
  · rw [if_pos qshli]
    exact one _ _ _ h4
  rw [if_neg qshli]
  by_cases qshri : x.f0.toList = ([115, 104, 114, 105] : List UInt8)
  · rw [if_pos qshri]
    exact one _ _ _ h4
  rw [if_neg qshri]
  by_cases qlea : x.f0.toList = ([108, 101, 97] : List UInt8)
  · rw [if_pos qlea]
    obtain ⟨v, e, hv⟩ := zmb (⟨#[115, 104, 108]⟩ : ByteArray) (rd s x.f3) x.f4 h4
    obtain ⟨v', e', hv'⟩ := zmb (⟨#[97, 100, 100]⟩ : ByteArray) (rd s x.f2) v hv.1
    exact ⟨v', by rw [e, Option.bind_some, e']; rfl, hv'⟩
  rw [if_neg qlea]
  exact one _ _ _ hb.1
def valM (x : Instr) (s : List Int) : Int := (zel x.f0 x.f1 x.f2 x.f3 x.f4 s).getD 0
def zqf (s : List Int) (x : Instr) : List Int := s.set x.f1.toNat (valM x s)
theorem zn4 (x : Instr) (s : List Int) (h : okI x) (hs : okS s) : zel x.f0 x.f1 x.f2 x.f3 x.f4 s = some (valM x s) ∧ okV (valM x s) := by
  obtain ⟨v, e, hv⟩ := zrx x s h hs
  unfold valM
  rw [e]
  exact ⟨rfl, hv⟩
theorem zp2 (x : Instr) (s : List Int) (h : okI x) (hs : okS s) : okS (zqf s x) := zs1 hs _ (zn4 x s h hs).2
theorem cut3 {s : ByteArray} {a b c d : UInt8} (h : s.toList = [a, b, c, d]) : (3 : Int) ≤ (s.size : Int) ∧ s.extract 0 3 = ⟨#[a, b, c]⟩ := by
  have e : s = ⟨#[a, b, c, d]⟩ := str_lit.1 h
  rw [e]
  exact ⟨by show (3 : Int) ≤ ((4 : Nat) : Int); decide, rfl⟩
theorem zs2 (x : Instr) (s : List Int) (h : okI x) (hs : okS s) : Ev (fun k => zd3 k x.f0 x.f1 x.f2 x.f3 x.f4 (rd s x.f2) (rd s x.f3)) (valM x s) := by
  obtain ⟨h1, h1', h2, h2', h3, h3', h4, h4'⟩ := zn3 h
  have hl := hs.1
  have e := (zn4 x s h hs).1
  generalize valM x s = v at e
  unfold zel at e
  rw [if_pos h2, if_pos (by omega), if_pos h3, if_pos (by omega)] at e
  have bs : ∀ (o : Option Int) r, (o.bind fun v => some v) = some r → o = some r := fun o r h => by
    cases o with
    | none => cases h
    | some y => exact h
  unfold zd3
  by_cases q1 : x.f0.toList = [115, 101, 116]
  · rw [if_pos q1] at e
    exact zak q1 (zls e)
  refine zb0 q1 ?_
  rw [if_neg q1] at e
  by_cases q2 : x.f0.toList = [109, 111, 118]
  · rw [if_pos q2] at e
    exact zak q2 (zls e)
  refine zb0 q2 ?_
  rw [if_neg q2] at e
  by_cases q3 : x.f0.toList = [108, 101, 97]
  · refine zak q3 (zls ?_)
    rw [if_neg (by rw [q3]; decide), if_neg (by rw [q3]; decide), if_neg (by rw [q3]; decide), if_neg (by rw [q3]; decide), if_neg (by rw [q3]; decide), if_pos q3] at e
    simp only [zn2]
    exact e
  refine zb0 q3 ?_
  have imm : ∀ a b c d : UInt8, x.f0.toList = [a, b, c, d] → zbe ⟨#[a, b, c]⟩ (rd s x.f2) x.f4 = some v → Ev (fun k => za3 k (rd s x.f2) (rd s x.f3) (x.f0.toList == ([a, b, c, d] : List UInt8)) x.f0 x.f1 x.f2 x.f3 x.f4) v := fun a b c d q hv => by
    obtain ⟨hc, hc'⟩ := cut3 q
    refine Ev.step (fun k => by simp only [za3]; rfl) (zak (by rw [q]; simp) (zak (by decide) (zak hc (zls ?_))))
    rw [zn2, hc', hv]
    rfl
  by_cases q4 : x.f0.toList = [97, 100, 100, 105]
  · rw [if_pos q4] at e
    exact zak q4 (imm _ _ _ _ q4 (bs _ _ e))
  refine zb0 q4 ?_
  rw [if_neg q4] at e
  by_cases q5 : x.f0.toList = [97, 110, 100, 105]
  · rw [if_pos q5] at e
    exact zak q5 (imm _ _ _ _ q5 (bs _ _ e))
  refine zb0 q5 ?_
  rw [if_neg q5] at e
  by_cases q6 : x.f0.toList = [120, 111, 114, 105]
  · rw [if_pos q6] at e
    exact zak q6 (imm _ _ _ _ q6 (bs _ _ e))
  refine zb0 q6 ?_
  rw [if_neg q6] at e
  by_cases q7 : x.f0.toList = [115, 104, 108, 105]
  · rw [if_pos q7] at e
    exact zak q7 (imm _ _ _ _ q7 (bs _ _ e))
  refine zb0 q7 ?_
  rw [if_neg q7] at e
  by_cases q8 : x.f0.toList = [115, 104, 114, 105]
  · rw [if_pos q8] at e
    exact imm _ _ _ _ q8 (bs _ _ e)
  rw [if_neg q8, if_neg q3] at e
  refine Ev.step (fun k => by simp only [za3]; rfl) (zb0 (by simpa using q8) (zls ?_))
  rw [zn2, bs _ _ e]
  rfl
def runM (l : List Instr) (s : List Int) : List Int := l.foldl zqf s
theorem zq2 (l : List Instr) (h : ∀ x ∈ l, okI x) : ∀ s, okS s → okS (runM l s) := by
  induction l with
  | nil => exact fun s hs => hs
  | cons x l ih => exact fun s hs => ih (fun y hy => h y (List.mem_cons_of_mem _ hy)) _ (zp2 x s (h x (List.mem_cons_self)) hs)
theorem zse (l : List Int) (h : l.length ≤ 1048576) : zf0 l = some l := by
  unfold zf0
  rw [Option.bind_some, if_pos (by simp; omega)]
  rfl
theorem zq3 (x : Instr) (s : List Int) (h : okI x) (hs : okS s) : zhs x.f0 x.f1 x.f2 x.f3 x.f4 s = some (zqf s x) := by
  obtain ⟨h1, h1', h2, h2', h3, h3', h4, h4'⟩ := zn3 h
  have hq := hs.1
  unfold zhs
  rw [zse s (by omega), Option.bind_some, (zn4 x s h hs).1, Option.bind_some, if_pos h1, if_pos (by omega)]
  rfl
theorem zry (l : List Instr) (hl : l.length ≤ 40) (h : ∀ x ∈ l, okI x) (s : List Int) (hs : okS s) : Ev (fun k => zfd k l s) (runM l s) := by
  unfold zfd
  refine Ev.call (zse s (by rw [hs.1]; decide)) ?_
  have key : ∀ (d i : Nat) (s : List Int), okS s → i + d = l.length → Ev (fun k => zcy k s l l.length i) (runM (l.drop i) s) := by
    intro d
    induction d with
    | zero =>
      intro i s hs hi
      refine Ev.step (f := fun _ => some s) (fun k => ?_) (Ev.some ?_)
      · simp only [zcy]
        rw [if_neg (by omega)]
      · rw [List.drop_of_length_le (by omega)]
        rfl
    | succ d ih =>
      intro i s hs hi
      have hlt : i < l.length := by omega
      have e : l.drop i = l[i] :: l.drop (i + 1) := List.drop_eq_getElem_cons hlt
      have hx := znm (zdv l i hlt)
      have ok := h l[i] (List.getElem_mem hlt)
      rw [e]
      refine Ev.step (fun k => ?_) (ih (i + 1) _ (zp2 _ s ok hs) (by omega))
      simp only [zcy, hx]
      rw [if_pos (by omega), if_pos (by omega), if_pos (by omega), zq3 _ s ok hs, Option.bind_some, w64n i (by omega)]
  simpa using key l.length 0 s hs (by omega)
def st0 (a b : Int) : List Int := [a, b, 0, 0, 0, 0]
theorem zsf {a b : Int} (ha : okV a) (hb : okV b) : okS (st0 a b) := by
  refine ⟨rfl, fun v hv => ?_⟩
  have hz : okV 0 := by unfold okV; decide
  simp only [st0, List.mem_cons, List.not_mem_nil, or_false] at hv
  rcases hv with rfl | rfl | rfl | rfl | rfl | rfl <;> assumption
def endM (l : List Instr) (a b : Int) : List Int := runM l (st0 a b)
theorem zqg (a b : Int) : zja a b = some (st0 a b) := rfl
abbrev zN : Instr := z102
theorem zoo : ∀ (n a : Nat) (x : Int), x ∈ zjm n a → (a : Int) ≤ x ∧ x < (a : Int) + n
  | 0, _, x, h => by simp [zjm] at h
  | n + 1, a, x, h => by
    unfold zjm at h
    rcases List.mem_cons.1 h with h | h
    · omega
    · have := zoo n (a + 1) x h
      omega
theorem zp3 {u : Bool} {n : Nat} {x : Int} (h : x ∈ zke u n) (hn : 1 ≤ n) : (0 ≤ x ∧ x < (n : Int)) ∧ (u = true ∨ x = 0) := by
  unfold zke at h
  split at h
  · rename_i hu
    have := zoo n 0 x h
    exact ⟨by omega, .inl hu⟩
  · rw [List.mem_singleton.1 h]
    exact ⟨by omega, .inr rfl⟩
theorem zt4 (c : Nat) (h : immC c = false) : (zev c).2.2.2.1 ≤ 0 ∧ 0 ≤ (zev c).2.2.2.2 := by
  unfold immC at h
  split at h
  · cases h
  · cases h
  · cases h
  · cases h
  · rename_i h0 h5 h6 h7
    unfold zev
    split
    all_goals first | exact ⟨by decide, by decide⟩ | exact absurd rfl h0 | exact absurd rfl h5 | exact absurd rfl h6 | exact absurd rfl h7
def okPI (x : Instr) (t : Nat) : Prop := okI x ∧ x.f1 = ((2 + t : Nat) : Int) ∧ (0 ≤ x.f2 ∧ x.f2 < ((2 + t : Nat) : Int)) ∧ 0 ≤ x.f3 ∧ x.f3 < ((2 + t : Nat) : Int)
theorem zs3 {os : List ByteArray} {ims : List Int} {t : Nat} (ho : zft os ims = true) (ht : t ≤ 2) {x : Instr} (h : x ∈ zj4 os ims t) : okPI x t := by
  unfold zj4 at h
  obtain ⟨s, hs, h⟩ := List.mem_flatMap.1 h
  unfold zjc at h
  obtain ⟨a, ha, h⟩ := List.mem_flatMap.1 h
  obtain ⟨b, hb, h⟩ := List.mem_flatMap.1 h
  obtain ⟨m, hm, h⟩ := List.mem_flatMap.1 h
  obtain rfl := List.mem_singleton.1 h
  obtain ⟨a1, a2⟩ := zp3 ha (by omega)
  obtain ⟨b1, b2⟩ := zp3 hb (by omega)
  have hop : okOp ims s = true := by
    unfold zft at ho
    simp only [Bool.and_eq_true, List.all_eq_true (l := List.range os.length), List.mem_range] at ho
    obtain ⟨i, hi, rfl⟩ := List.getElem_of_mem hs
    have := ho.2.2.2.2.2 i hi
    rw [zdv os i hi] at this
    exact this
  unfold okOp at hop
  rw [Bool.and_eq_true, decide_eq_true_eq] at hop
  refine ⟨⟨hop.1, ⟨by show (0 : Int) ≤ ((2 + t : Nat) : Int); omega, by show ((2 + t : Nat) : Int) ≤ 5; omega⟩, ?_, ?_, ?_⟩, rfl, a1, b1⟩
  · exact a2.elim (fun u => .inl ⟨u, a1.1, by show a ≤ 5; omega⟩) (fun z => .inr z)
  · exact b2.elim (fun u => .inl ⟨u, b1.1, by show b ≤ 5; omega⟩) (fun z => .inr z)
  · show (zev (cls s)).2.2.2.1 ≤ m ∧ m ≤ (zev (cls s)).2.2.2.2
    unfold imsM at hm
    by_cases hi : immC (cls s) = true
    · rw [if_pos hi] at hm
      have h2 := hop.2
      rw [hi, Bool.not_true, Bool.false_or, List.all_eq_true] at h2
      have := h2 m hm
      unfold inB at this
      exact of_decide_eq_true this
    · rw [if_neg hi] at hm
      rw [List.mem_singleton.1 hm]
      exact zt4 _ (Bool.eq_false_iff.2 hi)
theorem zt5 {x y : Instr} (h : eqB x y = true) : x = y := by
  unfold eqB at h
  simp only [Bool.and_eq_true, beq_iff_eq] at h
  obtain ⟨h0, h1, h2, h3, h4⟩ := h
  have e : x.f0 = y.f0 := by
    have := str_lit.1 h0
    rw [this]
    exact (str_lit.1 rfl).symm
  cases x
  cases y
  simp_all
def okP (l : List Instr) : Prop := l.length ≤ 3 ∧ ∀ i, i < l.length → okPI (l.getD i zN) i
theorem zq4 {os : List ByteArray} {ims : List Int} {l : List Instr} (ho : zft os ims = true) (h : zjs os ims l = true) : okP l := by
  unfold zjs at h
  simp only [Bool.and_eq_true, decide_eq_true_eq, List.all_eq_true, List.mem_range] at h
  refine ⟨h.1, fun i hi => ?_⟩
  have hp := h.2 i hi
  unfold zpj at hp
  obtain ⟨y, hy, e⟩ := (zma _ _).1 hp
  rw [zt5 e]
  exact zs3 ho (by omega) hy
theorem zs4 {l : List Instr} (h : okP l) (x : Instr) (hx : x ∈ l) : okI x := by
  obtain ⟨i, hi, rfl⟩ := List.getElem_of_mem hx
  have := (h.2 i hi).1
  rwa [zdv l i hi] at this
theorem zn5 {l : List Instr} (h : okP l) (k : Nat) (x : Instr) (hx : x ∈ l.take k) : okI x := zs4 h x (List.mem_of_mem_take hx)
theorem zop (l : List Instr) (k : Nat) (h : k < l.length) : l.take (k + 1) = l.take k ++ [l.getD k zN] := by
  rw [List.take_succ_eq_append_getElem h, zdv l k h]
def atI (l : List Instr) (i : Nat) : List Int := endM l ((i / 64 : Nat) : Int) ((i % 64 : Nat) : Int)
theorem zsg (l : List Instr) (h : ∀ x ∈ l, okI x) (i : Nat) (hi : i < 4096) : okS (atI l i) := zq2 l h _ (zsf (by unfold okV; omega) (by unfold okV; omega))
theorem zp4 (l : List Instr) (x : Instr) (i : Nat) : atI (l ++ [x]) i = zqf (atI l i) x := by
  unfold atI endM runM
  rw [List.foldl_append]
  rfl
def colN (l : List Instr) (r : Int) (n : Nat) : List Int := (List.range n).map fun i => rd (atI l i) r
theorem zn6 (l : List Instr) (r : Int) (n : Nat) : (colN l r n).length = n := by simp [colN]
theorem zk7 (l : List Instr) (r : Int) (n i : Nat) (h : i < n) : rd (colN l r n) (i : Int) = rd (atI l i) r := zjb (fun d => by simp [colN, List.getD, h])
theorem zq5 (s : List Int) (j : Nat) (v : Int) (r : Nat) (h : r ≠ j) : rd (s.set j v) (r : Int) = rd s (r : Int) := by
  unfold rd
  rw [Int.toNat_natCast, List.getD_eq_getElem?_getD, List.getD_eq_getElem?_getD, List.getElem?_set_ne (Ne.symm h)]
theorem zq6 (s : List Int) (j : Nat) (v : Int) (h : j < s.length) : rd (s.set j v) (j : Int) = v := by
  unfold rd
  rw [Int.toNat_natCast, List.getD_eq_getElem?_getD, List.getElem?_set_self h]
  rfl
theorem zp5 {l : List Instr} (h : okP l) (k : Nat) (hk : k < l.length) (r n : Nat) (hr : r < 2 + k) : colN (l.take (k + 1)) r n = colN (l.take k) r n := by
  unfold colN
  refine List.map_congr_left fun i _ => ?_
  rw [zop l k hk, zp4]
  unfold zqf
  rw [(h.2 k hk).2.1, Int.toNat_natCast, zq5 _ _ _ _ (by omega)]
theorem zq7 {l : List Instr} (h : okP l) (k : Nat) (hk : k < l.length) (n : Nat) (hn : n ≤ 4096) : colN (l.take (k + 1)) ((2 + k : Nat) : Int) n = (List.range n).map fun i => valM (l.getD k zN) (atI (l.take k) i) := by
  unfold colN
  refine List.map_congr_left fun i hi => ?_
  have hi' := List.mem_range.1 hi
  rw [zop l k hk, zp4]
  unfold zqf
  have hs := (zsg (l.take k) (zn5 h k) i (by omega)).1
  have := h.1
  rw [(h.2 k hk).2.1, Int.toNat_natCast, zq6 _ _ _ (by omega)]
def cols (l : List Instr) (k : Nat) : List (List Int) := (List.range (2 + k)).map fun r : Nat => colN (l.take k) r 4096
theorem zht (l : List Instr) (k : Nat) : (cols l k).length = 2 + k := by simp [cols]
theorem zpk (l : List Instr) (k r : Nat) (h : r < 2 + k) : zd9 (cols l k) (r : Int) = colN (l.take k) r 4096 := by
  unfold zd9 cols
  rw [Int.toNat_natCast]
  simp [List.getD, h]
theorem zoq {l : List Instr} (h : okP l) (k : Nat) (hk : k < l.length) : cols l (k + 1) = cols l k ++ [(List.range 4096).map fun i => valM (l.getD k zN) (atI (l.take k) i)] := by
  unfold cols
  rw [show 2 + (k + 1) = (2 + k) + 1 by omega, List.range_succ, List.map_append, List.map_singleton, zq7 h k hk 4096 (Nat.le_refl _)]
  rw [List.map_congr_left (l := List.range (2 + k)) fun r hr => zp5 h k hk r 4096 (List.mem_range.1 hr)]
theorem zor {l : List Instr} (h : okP l) (k : Nat) : ∀ d, k + d = l.length → (cols l l.length).take (2 + k) = cols l k
  | 0, hd => by rw [show l.length = k by omega, List.take_of_length_le (by rw [zht]; exact Nat.le_refl _)]
  | d + 1, hd => by
    have ih := zor h (k + 1) d (by omega)
    have := congrArg (List.take (2 + k)) ih
    rw [List.take_take, Nat.min_eq_left (by omega), zoq h k (by omega), List.take_append_of_le_length (by rw [zht]; exact Nat.le_refl _), List.take_of_length_le (l := cols l k) (by rw [zht]; exact Nat.le_refl _)] at this
    exact this
theorem zos {l : List Instr} (h : okP l) (k : Nat) (x : Instr) (hx : okPI x k) (hk : k ≤ l.length) (i : Nat) (hi : i < 4096) : Ev (fun q => ze3 q x.f0 x.f1 x.f2 x.f3 x.f4 (cols l k) (i : Int)) (valM x (atI (l.take k) i)) := by
  obtain ⟨ho, h1, ⟨h2, h2'⟩, h3, h3'⟩ := hx
  have hs := zsg (l.take k) (zn5 h k) i hi
  have hl := h.1
  obtain ⟨a, ha⟩ := Int.eq_ofNat_of_zero_le h2
  obtain ⟨b, hb⟩ := Int.eq_ofNat_of_zero_le h3
  have ca : zd9 (cols l k) x.f2 = colN (l.take k) x.f2 4096 := by rw [ha]; exact zpk l k a (by omega)
  have cb : zd9 (cols l k) x.f3 = colN (l.take k) x.f3 4096 := by rw [hb]; exact zpk l k b (by omega)
  have va := zp1 hs h2 (by omega)
  have vb := zp1 hs h3 (by omega)
  have hv := (zn4 x _ ho hs).2
  unfold okV at va vb hv
  unfold ze3
  refine zak h2 (zak (by rw [zht]; omega) (zak (by omega) (zak (by rw [ca, zn6]; omega) (zak h3 (zak (by rw [zht]; omega) (zak (by rw [cb, zn6]; omega) ?_))))))
  rw [ca, cb, zk7 _ _ _ _ hi, zk7 _ _ _ _ hi, w64 (by omega) (by omega), w64 (by omega) (by omega)]
  refine Ev.bind (zs2 x _ ho hs) (Ev.some ?_)
  omega
theorem zq8 {l : List Instr} (h : okP l) (k : Nat) (x : Instr) (hx : okPI x k) (hk : k ≤ l.length) : Ev (fun q => zfg q x.f0 x.f1 x.f2 x.f3 x.f4 (cols l k)) ((List.range 4096).map fun i => valM x (atI (l.take k) i)) := by
  have key : ∀ (d i : Nat), i + d = 4096 → Ev (fun q => zb9 q (cols l k) (((List.range i).map fun i => valM x (atI (l.take k) i)) ++ List.replicate d 0) 4096 i x.f0 x.f1 x.f2 x.f3 x.f4) ((List.range 4096).map fun i => valM x (atI (l.take k) i)) := by
    intro d
    induction d with
    | zero =>
      intro i hi
      obtain rfl : i = 4096 := by omega
      rw [List.replicate_zero, List.append_nil]
      refine Ev.step (f := fun _ => some ((List.range 4096).map fun i => valM x (atI (l.take k) i))) (fun q => ?_) (Ev.now _)
      simp only [zb9]
      rw [if_neg (by omega)]
    | succ d ih =>
      intro i hi
      have next := ih (i + 1) (by omega)
      rw [List.range_succ, List.map_append, List.map_singleton] at next
      have hlen : (i : Int) < ((((List.range i).map fun i => valM x (atI (l.take k) i)) ++ List.replicate (d + 1) 0).length : Int) := by
        rw [List.length_append, List.length_replicate, List.length_map, List.length_range]
        omega
      refine Ev.step (fun q => by simp only [zb9]; rfl) (zak (by omega) (Ev.bind (zos h k x hx hk i (by omega)) ?_))
      refine zak (Int.natCast_nonneg i) (zak hlen ?_)
      have e := zlv ((List.range i).map fun i => valM x (atI (l.take k) i)) (List.replicate d (0 : Int)) 0 (valM x (atI (l.take k) i))
      rw [List.length_replicate, List.length_map, List.length_range] at e
      rw [Int.toNat_natCast, e, w64n i (by omega)]
      exact next
  unfold zfg
  refine zak (by decide) (Ev.call rfl ?_)
  rw [List.length_replicate]
  exact key 4096 0 (by omega)
theorem zpl {l : List Instr} (h : okP l) (k : Nat) (x : Instr) (hx : okPI x k) (hk : k ≤ l.length) (g : List Int) (hg : g.length = 4096) : Ev (fun q => zdm q x.f0 x.f1 x.f2 x.f3 x.f4 (cols l k) g) ((List.range 4096).all fun i => decide (valM x (atI (l.take k) i) = rd g i)) := by
  have key : ∀ (d i : Nat), i + d = 4096 → Ev (fun q => zb5 q (cols l k) g 4096 i x.f0 x.f1 x.f2 x.f3 x.f4) ((List.range' i d).all fun i => decide (valM x (atI (l.take k) i) = rd g i)) := by
    intro d
    induction d with
    | zero =>
      intro i hi
      refine Ev.step (f := fun _ => some true) (fun q => ?_) (Ev.now _)
      simp only [zb5]
      rw [if_neg (by omega)]
    | succ d ih =>
      intro i hi
      rw [List.range'_succ, List.all_cons]
      refine Ev.step (fun q => by simp only [zb5]; rfl) (zak (by omega) (zak (by omega) (zak (by omega) (Ev.bind (zos h k x hx hk i (by omega)) ?_))))
      by_cases e : valM x (atI (l.take k) i) = rd g i
      · rw [decide_eq_true e, Bool.true_and]
        refine zak e ?_
        rw [w64n i (by omega)]
        exact ih (i + 1) (by omega)
      · rw [decide_eq_false e, Bool.false_and]
        exact zb0 e (Ev.now _)
  unfold zdm
  rw [hg]
  have := key 4096 0 (by omega)
  rw [← List.range_eq_range'] at this
  exact this
theorem zm0 (xs : List Int) (hl : xs.length ≤ 1048576) (hv : ∀ v ∈ xs, 0 ≤ v ∧ v ≤ 63) : Ev (fun q => zcf q xs) xs := by
  have key : ∀ (d i : Nat), i + d = xs.length → Ev (fun q => zby q (xs.take i ++ List.replicate d 0) xs xs.length i) xs := by
    intro d
    induction d with
    | zero =>
      intro i hi
      obtain rfl : i = xs.length := by omega
      rw [List.replicate_zero, List.append_nil, List.take_length]
      refine Ev.step (f := fun _ => some xs) (fun q => ?_) (Ev.now _)
      simp only [zby]
      rw [if_neg (by omega)]
    | succ d ih =>
      intro i hi
      have hlt : i < xs.length := by omega
      have next := ih (i + 1) (by omega)
      rw [List.take_succ_eq_append_getElem hlt] at next
      have hb := hv _ (List.getElem_mem hlt)
      refine Ev.step (fun q => by simp only [zby]; rfl) (zak (by omega) (zak (by omega) (zak (by omega) (zak (by rw [List.length_append, List.length_replicate, List.length_take]; omega) ?_))))
      have e := zlv (xs.take i) (List.replicate d (0 : Int)) 0 xs[i]
      rw [List.length_replicate, List.length_take, Nat.min_eq_left (by omega)] at e
      rw [zjb (zdv xs i hlt), show xs[i] % 256 = xs[i] by omega, Int.toNat_natCast, e, w64n i (by omega)]
      exact next
  unfold zcf
  refine zak (by omega) (zak (by rw [Int.toNat_natCast]; omega) ?_)
  rw [Int.toNat_natCast]
  have := key xs.length 0 (by omega)
  simpa using this
def tbN (g : Nat → Nat → Int) (n : Nat) : List Int := (List.range n).map fun i => g (i / 64) (i % 64)
theorem zpm (g : Nat → Nat → Int) (n : Nat) : (tbN g n).length = n := by simp [tbN]
theorem zrz (g : Nat → Nat → Int) (a b : Nat) (h : b < 64) : tbN g (64 * a + (b + 1)) = tbN g (64 * a + b) ++ [g a b] := by
  unfold tbN
  rw [← Nat.add_assoc, List.range_succ, List.map_append, List.map_singleton, show (64 * a + b) / 64 = a by omega, show (64 * a + b) % 64 = b by omega]
theorem zp6 (g : Nat → Nat → Int) (L0 : Nat → List Int → Int → Option (List Int)) (L1 : Nat → List Int → Int → Int → Int → Option (List Int))
    (h0 : ∀ (a : Nat) xs T, a < 64 → Ev (fun k => L1 k xs a a 0) T → Ev (fun k => L0 k xs a) T) (he : ∀ xs, Ev (fun k => L0 k xs 64) xs)
    (h1 : ∀ (a b : Nat) xs T, a < 64 → b < 64 → xs.length ≤ 4096 → Ev (fun k => L1 k (xs ++ [g a b]) a a ((b + 1 : Nat) : Int)) T → Ev (fun k => L1 k xs a a b) T)
    (h2 : ∀ (a : Nat) xs T, a < 64 → Ev (fun k => L0 k xs ((a + 1 : Nat) : Int)) T → Ev (fun k => L1 k xs a a 64) T) : Ev (fun k => L0 k [] 0) (tbN g 4096) := by
  have row : ∀ (a : Nat), a < 64 → ∀ T, Ev (fun k => L0 k (tbN g (64 * (a + 1))) ((a + 1 : Nat) : Int)) T → ∀ (d b : Nat), b + d = 64 → Ev (fun k => L1 k (tbN g (64 * a + b)) a a b) T := by
    intro a ha T hT d
    induction d with
    | zero =>
      intro b hb
      obtain rfl : b = 64 := by omega
      refine h2 a _ T ha ?_
      rw [show 64 * a + 64 = 64 * (a + 1) by omega]
      exact hT
    | succ d ih =>
      intro b hb
      refine h1 a b _ T ha (by omega) (by rw [zpm]; omega) ?_
      rw [← zrz g a b (by omega)]
      exact ih (b + 1) (by omega)
  have key : ∀ (d a : Nat), a + d = 64 → Ev (fun k => L0 k (tbN g (64 * a)) a) (tbN g 4096) := by
    intro d
    induction d with
    | zero =>
      intro a ha
      obtain rfl : a = 64 := by omega
      exact he _
    | succ d ih =>
      intro a ha
      have := row a (by omega) _ (ih (a + 1) (by omega)) 64 0 (by omega)
      exact h0 a _ _ (by omega) this
  exact key 64 0 (by omega)
theorem zq9 : Ev (fun k => zb2 k) (tbN (fun a _ => (a : Int)) 4096) := by
  unfold zb2
  refine zp6 (fun a _ => (a : Int)) zax zay (fun a xs T ha h => ?_) (fun xs => ?_) (fun a b xs T ha hb hx h => ?_) (fun a xs T ha h => ?_)
  · exact Ev.step (fun k => by simp only [zax]; rfl) (zak (by omega) h)
  · refine Ev.step (f := fun _ => some xs) (fun k => ?_) (Ev.now _)
    simp only [zax]
    rw [if_neg (by omega)]
  · refine Ev.step (fun k => by simp only [zay]; rfl) (zak (by omega) (Ev.call rfl (zak (by omega) ?_)))
    rw [w64n b (by omega)]
    exact h
  · refine Ev.step (fun k => by simp only [zay]; rfl) (zb0 (by omega) ?_)
    rw [w64n a (by omega)]
    exact h
theorem zra : Ev (fun k => zbl k) (tbN (fun _ b => (b : Int)) 4096) := by
  unfold zbl
  refine zp6 (fun _ b => (b : Int)) zaz za0 (fun a xs T ha h => ?_) (fun xs => ?_) (fun a b xs T ha hb hx h => ?_) (fun a xs T ha h => ?_)
  · exact Ev.step (fun k => by simp only [zaz]; rfl) (zak (by omega) h)
  · refine Ev.step (f := fun _ => some xs) (fun k => ?_) (Ev.now _)
    simp only [zaz]
    rw [if_neg (by omega)]
  · refine Ev.step (fun k => by simp only [za0]; rfl) (zak (by omega) (Ev.call rfl (zak (by omega) ?_)))
    rw [w64n b (by omega)]
    exact h
  · refine Ev.step (fun k => by simp only [za0]; rfl) (zb0 (by omega) ?_)
    rw [w64n a (by omega)]
    exact h
theorem zr0 (l : List Instr) : Ev (fun k => zfc k) (cols l 0) := by
  have bd : ∀ (g : Nat → Nat → Int), (∀ a b, a < 64 → b < 64 → 0 ≤ g a b ∧ g a b ≤ 63) → ∀ v ∈ tbN g 4096, 0 ≤ v ∧ v ≤ 63 := fun g hg v hv => by
    obtain ⟨i, hi, rfl⟩ := List.mem_map.1 hv
    have := List.mem_range.1 hi
    exact hg _ _ (by omega) (by omega)
  unfold zfc
  refine Ev.bind zq9 (Ev.bind (zm0 _ (by rw [zpm]; decide) (bd _ (fun a b ha hb => by omega))) (Ev.bind zra (Ev.bind (zm0 _ (by rw [zpm]; decide) (bd _ (fun a b ha hb => by omega))) (Ev.some ?_))))
  rfl
theorem zot {l : List Instr} (h : okP l) : Ev (fun q => zdp q l) (cols l l.length) := by
  have key : ∀ (d k : Nat), k + d = l.length → Ev (fun q => zbo q (cols l k) l l.length k) (cols l l.length) := by
    intro d
    induction d with
    | zero =>
      intro k hk
      obtain rfl : k = l.length := by omega
      refine Ev.step (f := fun _ => some (cols l l.length)) (fun q => ?_) (Ev.now _)
      simp only [zbo]
      rw [if_neg (by omega)]
    | succ d ih =>
      intro k hk
      have hl := h.1
      refine Ev.step (fun q => by simp only [zbo]; rfl) (zak (by omega) (zak (by omega) (zak (by omega) ?_)))
      rw [zjt l k (by omega)]
      refine Ev.bind (zq8 h k _ (h.2 k (by omega)) (by omega)) (zak (by rw [zht]; omega) ?_)
      rw [w64n k (by omega), ← zoq h k (by omega)]
      exact ih (k + 1) (by omega)
  unfold zdp
  exact Ev.bind (zr0 l) (key l.length 0 (by omega))
end Go.Proofs.Ytccoiifklcgodaa.PL
end
section
namespace Go.Proofs.Ytccoiifklcgodaa.PL
open Go Go.RowKit Go.Proofs.YtccoiifklcgodaaW.PrintWords Go.Proofs.YtccoiifklcgodaaW.PrintLast Go.Proofs.YtccoiifklcgodaaW.PrintMore Go.Proofs.Ytccoiifklcgodaa.Q
set_option linter.unusedSimpArgs false
set_option linter.unusedVariables false
def ops6 : List ByteArray := [⟨#[97, 100, 100]⟩, ⟨#[97, 110, 100]⟩, ⟨#[111, 114]⟩, ⟨#[120, 111, 114]⟩, ⟨#[109, 117, 108]⟩, ⟨#[101, 113]⟩]
def znf (x : Instr) : Bool := hasS ops6 x.f0 && decide (x.f2 > x.f3)
def zk8 (l : List Instr) (k r : Nat) : Bool := (List.range 4096).all fun i => decide (valM (l.getD k zN) (atI (l.take k) i) = rd (atI (l.take k) i) (r : Int))
def zkf (l : List Instr) (k : Nat) : Bool := ((List.range (2 + k)).any fun r => (!decide (r = 1) || !decide (k + 1 = l.length)) && zk8 l k r) || znf (l.getD k zN)
def zm1 (l : List Instr) : Bool := (List.range l.length).any (zkf l)
theorem zpn (x : Instr) : Ev (fun q => zey q x.f0 x.f1 x.f2 x.f3 x.f4) (znf x) := by
  unfold zey znf
  refine Ev.bind (zkc ops6 x.f0 (by decide)) ?_
  by_cases h : hasS ops6 x.f0 = true
  · rw [h, Bool.true_and]
    exact zak rfl (Ev.now _)
  · rw [Bool.eq_false_iff.2 h, Bool.false_and]
    exact zb0 (by decide) (Ev.now _)
theorem zpo {l : List Instr} (h : okP l) (k : Nat) (hk : k < l.length) : Ev (fun q => zea q (l.getD k zN).f0 (l.getD k zN).f1 (l.getD k zN).f2 (l.getD k zN).f3 (l.getD k zN).f4 (cols l k) (decide (k + 1 = l.length))) (zkf l k) := by
  have hl := h.1
  have col : ∀ r : Nat, r < 2 + k → Ev (fun q => zdm q (l.getD k zN).f0 (l.getD k zN).f1 (l.getD k zN).f2 (l.getD k zN).f3 (l.getD k zN).f4 (cols l k) (zd9 (cols l k) (r : Int))) (zk8 l k r) := by
    intro r hr
    rw [zpk l k r hr]
    refine zgr (zpl h k _ (h.2 k hk) (by omega) _ (zn6 _ _ _)) ?_
    unfold zk8
    rw [Bool.eq_iff_iff, List.all_eq_true, List.all_eq_true]
    constructor
    · intro q i hi
      have := q i hi
      rwa [zk7 _ _ _ _ (List.mem_range.1 hi)] at this
    · intro q i hi
      rw [zk7 _ _ _ _ (List.mem_range.1 hi)]
      exact q i hi
  have key : ∀ (d r : Nat), r + d = 2 + k → Ev (fun q => za8 q (cols l k) (decide (k + 1 = l.length)) (cols l k) ((2 + k : Nat) : Int) r (l.getD k zN).f0 (l.getD k zN).f1 (l.getD k zN).f2 (l.getD k zN).f3 (l.getD k zN).f4)
      (((List.range' r d).any fun r => (!decide (r = 1) || !decide (k + 1 = l.length)) && zk8 l k r) || znf (l.getD k zN)) := by
    intro d
    induction d with
    | zero =>
      intro r hr
      refine Ev.step (fun q => by simp only [za8]; rfl) (zb0 (by omega) (Ev.bind (zpn _) (Ev.now _)))
    | succ d ih =>
      intro r hr
      have next := ih (r + 1) (by omega)
      rw [List.range'_succ, List.any_cons]
      have body : Ev (fun q => (zdm q (l.getD k zN).f0 (l.getD k zN).f1 (l.getD k zN).f2 (l.getD k zN).f3 (l.getD k zN).f4 (cols l k) (zd9 (cols l k) (r : Int))).bind fun t => if t = true then some true else za8 q (cols l k) (decide (k + 1 = l.length)) (cols l k) ((2 + k : Nat) : Int) ((r + 1 : Nat) : Int) (l.getD k zN).f0 (l.getD k zN).f1 (l.getD k zN).f2 (l.getD k zN).f3 (l.getD k zN).f4)
          (zk8 l k r || (((List.range' (r + 1) d).any fun r => (!decide (r = 1) || !decide (k + 1 = l.length)) && zk8 l k r) || znf (l.getD k zN))) := by
        refine Ev.bind (col r (by omega)) ?_
        by_cases hs : zk8 l k r = true
        · rw [hs, Bool.true_or]
          exact zak rfl (Ev.now _)
        · rw [Bool.eq_false_iff.2 hs, Bool.false_or]
          exact zb0 (by decide) next
      refine Ev.step (fun q => by simp only [za8]; rfl) (zak (by omega) (zak (by omega) (zak (by rw [zht]; omega) ?_)))
      rw [w64n r (by omega)]
      by_cases h1 : r = 1
      · refine zak (by omega) ?_
        rw [decide_eq_true h1, Bool.not_true, Bool.false_or]
        by_cases h2 : k + 1 = l.length
        · refine zak (decide_eq_true h2) ?_
          rw [decide_eq_true h2, Bool.not_true, Bool.false_and, Bool.false_or]
          rw [decide_eq_true h2] at next
          exact next
        · refine zb0 (by rw [decide_eq_false h2]; decide) (zgr body ?_)
          rw [decide_eq_false h2, Bool.not_false, Bool.true_and, Bool.or_assoc]
      · refine zb0 (by omega) (zgr body ?_)
        rw [decide_eq_false h1, Bool.not_false, Bool.true_or, Bool.true_and, Bool.or_assoc]
  unfold zea zkf
  rw [zht]
  have := key (2 + k) 0 (by omega)
  rw [← List.range_eq_range'] at this
  exact this
theorem zpp {l : List Instr} (h : okP l) : Ev (fun q => zdn q l (cols l l.length)) (zm1 l) := by
  have hl := h.1
  have key : ∀ (d k : Nat), k + d = l.length → Ev (fun q => zbp q l (cols l l.length) l l.length k) ((List.range' k d).any (zkf l)) := by
    intro d
    induction d with
    | zero =>
      intro k hk
      refine Ev.step (f := fun _ => some false) (fun q => ?_) (Ev.now _)
      simp only [zbp]
      rw [if_neg (by omega)]
    | succ d ih =>
      intro k hk
      rw [List.range'_succ, List.any_cons]
      refine Ev.step (fun q => by simp only [zbp]; rfl) (zak (by omega) (zak (by omega) (zak (by omega) ?_)))
      rw [w64 (x := 2 + (k : Int)) (by omega) (by omega), w64 (x := (l.length : Int) - 1) (by omega) (by omega), w64n k (by omega), zjt l k (by omega), show (2 + (k : Int)).toNat = 2 + k by omega, zor h k (d + 1) hk]
      refine zak (by omega) (zak (by rw [zht]; omega) ?_)
      rw [show ((k : Int) == (l.length : Int) - 1) = decide (k + 1 = l.length) by
        rw [Bool.eq_iff_iff, beq_iff_eq, decide_eq_true_eq]
        omega]
      refine Ev.bind (zpo h k (by omega)) ?_
      by_cases hr : zkf l k = true
      · rw [hr, Bool.true_or]
        exact zak rfl (Ev.now _)
      · rw [Bool.eq_false_iff.2 hr, Bool.false_or]
        exact zb0 (by decide) (ih (k + 1) (by omega))
  unfold zdn zm1
  have := key l.length 0 (by omega)
  rw [← List.range_eq_range'] at this
  exact this
theorem zqh (m : List Instr) (hm : m.length ≤ 40) (ok : ∀ x ∈ m, okI x) (r s : Nat) (hr : r ≤ 5) (hs : s ≤ 5) : Ev (fun k => zdd k m (r : Int) (s : Int)) ((List.range 4096).all fun i => decide (rd (atI m i) (r : Int) = rd (atI m i) (s : Int))) := by
  have hb : ∀ a b : Nat, a < 64 → b < 64 → okS (st0 a b) := fun a b ha hb => zsf (by unfold okV; omega) (by unfold okV; omega)
  let p := fun a b : Nat => decide (rd (runM m (st0 (((a + 37) % 64 : Nat) : Int) (((b + 22) % 64 : Nat) : Int))) (r : Int) = rd (runM m (st0 (((a + 37) % 64 : Nat) : Int) (((b + 22) % 64 : Nat) : Int))) (s : Int))
  have row : ∀ (a : Nat), a < 64 → ∀ (rest : Bool), Ev (fun k => zcl k m (r : Int) (s : Int) ((a + 1 : Nat) : Int)) rest → ∀ (e b : Nat), b + e = 64 → Ev (fun k => zcm k m (r : Int) (s : Int) a b) (((List.range' b e).all (p a)) && rest) := by
    intro a ha rest hrest e
    induction e with
    | zero =>
      intro b hb
      refine Ev.step (fun k => by simp only [zcm]; rfl) (zb0 (by omega) ?_)
      rw [w64n a (by omega)]
      exact hrest
    | succ e ih =>
      intro b hbe
      rw [List.range'_succ, List.all_cons, Bool.and_assoc]
      have next := ih (b + 1) (by omega)
      have h0 := hb ((a + 37) % 64) ((b + 22) % 64) (by omega) (by omega)
      have hk := (zq2 m ok _ h0).1
      refine Ev.step (fun k => by simp only [zcm]; rfl) (zak (by omega) ?_)
      rw [w64 (x := (a : Int) + 37) (by omega) (by omega), w64 (x := (b : Int) + 22) (by omega) (by omega), w64n b (by omega),
        show Int.tmod ((a : Int) + 37) 64 = (((a + 37) % 64 : Nat) : Int) by rw [Int.tmod_eq_emod_of_nonneg (by omega)]; omega,
        show Int.tmod ((b : Int) + 22) 64 = (((b + 22) % 64 : Nat) : Int) by rw [Int.tmod_eq_emod_of_nonneg (by omega)]; omega]
      refine Ev.call (zqg _ _) (Ev.bind (zry m hm ok _ h0) (zak (by omega) (zak (by omega) (zak (by omega) (zak (by omega) ?_)))))
      by_cases he : rd (runM m (st0 (((a + 37) % 64 : Nat) : Int) (((b + 22) % 64 : Nat) : Int))) (r : Int) = rd (runM m (st0 (((a + 37) % 64 : Nat) : Int) (((b + 22) % 64 : Nat) : Int))) (s : Int)
      · rw [show p a b = true from decide_eq_true he, Bool.true_and]
        exact zak he next
      · rw [show p a b = false from decide_eq_false he, Bool.false_and]
        exact zb0 he (Ev.now _)
  have key : ∀ (d a : Nat), a + d = 64 → Ev (fun k => zcl k m (r : Int) (s : Int) a) ((List.range' a d).all fun a => (List.range 64).all (p a)) := by
    intro d
    induction d with
    | zero =>
      intro a ha
      refine Ev.step (f := fun _ => some true) (fun k => ?_) (Ev.now _)
      simp only [zcl]
      rw [if_neg (by omega)]
    | succ d ih =>
      intro a ha
      rw [List.range'_succ, List.all_cons]
      refine Ev.step (fun k => by simp only [zcl]; rfl) (zak (by omega) ?_)
      have := row a (by omega) _ (ih (a + 1) (by omega)) 64 0 (by omega)
      rw [← List.range_eq_range'] at this
      exact this
  unfold zdd
  have := key 64 0 (by omega)
  rw [← List.range_eq_range'] at this
  refine zgr this ?_
  rw [Bool.eq_iff_iff]
  simp only [List.all_eq_true, List.mem_range, decide_eq_true_eq, p]
  constructor
  · intro q i hi
    have := q ((i / 64 + 27) % 64) (by omega) ((i % 64 + 42) % 64) (by omega)
    rw [show ((i / 64 + 27) % 64 + 37) % 64 = i / 64 by omega, show ((i % 64 + 42) % 64 + 22) % 64 = i % 64 by omega] at this
    exact this
  · intro q a ha b hb
    have := q (64 * ((a + 37) % 64) + (b + 22) % 64) (by omega)
    unfold atI endM at this
    rw [show (64 * ((a + 37) % 64) + (b + 22) % 64) / 64 = (a + 37) % 64 by omega, show (64 * ((a + 37) % 64) + (b + 22) % 64) % 64 = (b + 22) % 64 by omega] at this
    exact this
theorem zqi {l : List Instr} (h : okP l) (k r : Nat) (hk : k < l.length) (hr : r < 2 + k) : ((List.range 4096).all fun i => decide (rd (atI (l.take (k + 1)) i) ((2 + k : Nat) : Int) = rd (atI (l.take (k + 1)) i) (r : Int))) = zk8 l k r := by
  have hl := h.1
  unfold zk8
  have e1 := zq7 h k hk 4096 (Nat.le_refl _)
  have e2 := zp5 h k hk r 4096 hr
  rw [Bool.eq_iff_iff, List.all_eq_true, List.all_eq_true]
  have f1 : ∀ i, i < 4096 → rd (atI (l.take (k + 1)) i) ((2 + k : Nat) : Int) = valM (l.getD k zN) (atI (l.take k) i) := fun i hi => by
    rw [← zk7 _ _ 4096 i hi, e1]
    exact zjb (fun d => by simp [List.getD, hi])
  have f2 : ∀ i, i < 4096 → rd (atI (l.take (k + 1)) i) (r : Int) = rd (atI (l.take k) i) (r : Int) := fun i hi => by
    rw [← zk7 _ _ 4096 i hi, e2, zk7 _ _ 4096 i hi]
  constructor
  · intro q i hi
    have := q i hi
    rwa [f1 i (List.mem_range.1 hi), f2 i (List.mem_range.1 hi)] at this
  · intro q i hi
    rw [f1 i (List.mem_range.1 hi), f2 i (List.mem_range.1 hi)]
    exact q i hi
theorem zpq {l : List Instr} (h : okP l) : Ev (fun q => zc3 q l) (zm1 l) := by
  have hl := h.1
  have inner : ∀ (k : Nat), k < l.length → ∀ (rest : Bool), Ev (fun q => zb6 q l l l.length ((k + 1 : Nat) : Int)) rest → ∀ (d r : Nat), r + d = 2 + k →
      Ev (fun q => za2 q l k r l l.length k) (((List.range' r d).any fun r => (!decide (r = 1) || !decide (k + 1 = l.length)) && zk8 l k r) || rest) := by
    intro k hk rest hrest d
    induction d with
    | zero =>
      intro r hr
      refine Ev.step (fun q => by simp only [za2]; rfl) ?_
      rw [w64 (x := 2 + (k : Int)) (by omega) (by omega), w64n k (by omega)]
      refine zb0 (by omega) ?_
      exact hrest
    | succ d ih =>
      intro r hr
      have next := ih (r + 1) (by omega)
      rw [List.range'_succ, List.any_cons, Bool.or_assoc]
      have hal := zqh (l.take (k + 1)) (by rw [List.length_take]; omega) (zn5 h (k + 1)) (2 + k) r (by omega) (by omega)
      rw [zqi h k r hk (by omega)] at hal
      have body : Ev (fun q => (zdd q (l.take (k + 1)) ((2 + k : Nat) : Int) (r : Int)).bind fun t => if t = true then some true else za2 q l k ((r + 1 : Nat) : Int) l l.length k)
          (zk8 l k r || (((List.range' (r + 1) d).any fun r => (!decide (r = 1) || !decide (k + 1 = l.length)) && zk8 l k r) || rest)) := by
        refine Ev.bind hal ?_
        by_cases hs : zk8 l k r = true
        · rw [hs, Bool.true_or]
          exact zak rfl (Ev.now _)
        · rw [Bool.eq_false_iff.2 hs, Bool.false_or]
          exact zb0 (by decide) next
      refine Ev.step (fun q => by simp only [za2]; rfl) ?_
      rw [w64 (x := 2 + (k : Int)) (by omega) (by omega), w64n k (by omega), w64n r (by omega), Int.toNat_natCast, show 2 + (k : Int) = ((2 + k : Nat) : Int) by omega]
      refine zak (by omega) ?_
      by_cases h1 : r = 1
      · refine zak (by omega) ?_
        rw [decide_eq_true h1, Bool.not_true, Bool.false_or]
        by_cases h2 : k + 1 = l.length
        · refine zb0 (by omega) ?_
          rw [decide_eq_true h2, Bool.not_true, Bool.false_and, Bool.false_or]
          rw [decide_eq_true h2] at next
          exact next
        · refine zak (by omega) (zak (by omega) (zak (by omega) (zgr body ?_)))
          rw [decide_eq_false h2, Bool.not_false, Bool.true_and]
      · refine zb0 (by omega) (zak (by omega) (zak (by omega) (zgr body ?_)))
        rw [decide_eq_false h1, Bool.not_false, Bool.true_or, Bool.true_and]
  have key : ∀ (d k : Nat), k + d = l.length → Ev (fun q => zb6 q l l l.length k) ((List.range' k d).any (zkf l)) := by
    intro d
    induction d with
    | zero =>
      intro k hk
      refine Ev.step (f := fun _ => some false) (fun q => ?_) (Ev.now _)
      simp only [zb6]
      rw [if_neg (by omega)]
    | succ d ih =>
      intro k hk
      rw [List.range'_succ, List.any_cons]
      have next := inner k (by omega) _ (ih (k + 1) (by omega)) (2 + k) 0 (by omega)
      rw [← List.range_eq_range'] at next
      have j1 : ∀ b : Bool, Ev (fun q => zce q l k l l.length k b) (b || (((List.range (2 + k)).any fun r => (!decide (r = 1) || !decide (k + 1 = l.length)) && zk8 l k r) || (List.range' (k + 1) d).any (zkf l))) := by
        intro b
        refine Ev.step (fun q => by simp only [zce]; rfl) ?_
        cases b with
        | true => exact zak rfl (Ev.now _)
        | false => exact zb0 (by decide) next
      refine Ev.step (fun q => by simp only [zb6]; rfl) (zak (by omega) (zak (by omega) (zak (by omega) ?_)))
      rw [zjt l k (by omega)]
      have fin : zkf l k = (((List.range (2 + k)).any fun r => (!decide (r = 1) || !decide (k + 1 = l.length)) && zk8 l k r) || znf (l.getD k zN)) := rfl
      by_cases ht : (l.getD k zN).f2 > (l.getD k zN).f3
      · refine zak ht (Ev.bind (zlw ops6 (l.getD k zN).f0 (by decide)) (zgr (j1 _) ?_))
        rw [fin, show znf (l.getD k zN) = hasS ops6 (l.getD k zN).f0 by unfold znf; rw [decide_eq_true ht, Bool.and_true]]
        cases hasS ops6 (l.getD k zN).f0 <;> simp
      · refine zb0 ht (zgr (j1 _) ?_)
        rw [fin, show znf (l.getD k zN) = false by unfold znf; rw [decide_eq_false ht, Bool.and_false], Bool.or_false, Bool.false_or]
  unfold zc3 zm1
  have := key l.length 0 (by omega)
  rw [← List.range_eq_range'] at this
  exact this
def ipR (os : List ByteArray) (ims : List Int) (l : List Instr) : Bool × Bool := if zft os ims = true ∧ zjs os ims l = true then (zm1 l, true) else (false, false)
theorem zrb (os : List ByteArray) (ims : List Int) (l : List Instr) (ho : os.length ≤ 1048576) (hi : ims.length ≤ 1048576) (hl : l.length ≤ 1048576) : Ev (fun k => zb8 k os ims l) (ipR os ims l) := by
  unfold zb8 zei ipR
  by_cases hc : zft os ims = true
  · refine Ev.bind (Ev.bind (zmy os ims ho hi) (zak hc (Ev.bind (zon os ims l hc hl) (Ev.now _)))) ?_
    by_cases hp : zjs os ims l = true
    · rw [if_pos ⟨hc, hp⟩]
      have h := zq4 hc hp
      exact zak hp (Ev.bind (zot h) (Ev.bind (zpp h) (Ev.now _)))
    · rw [if_neg (fun q => hp q.2)]
      exact zb0 hp (Ev.now _)
  · rw [if_neg (fun q => hc q.1)]
    exact Ev.bind (Ev.bind (zmy os ims ho hi) (zb0 hc (Ev.now _))) (zb0 (by decide) (Ev.now _))
theorem zrc (os : List ByteArray) (ims : List Int) (l : List Instr) (ho : os.length ≤ 1048576) (hi : ims.length ≤ 1048576) : Ev (fun k => zc4 k os ims l) (ipR os ims l) := by
  unfold zc4 ipR
  refine Ev.bind (zqz os ims ho hi) ?_
  by_cases hc : zft os ims = true
  · refine zak hc (Ev.bind (zsz os ims l hc) ?_)
    by_cases hp : zjs os ims l = true
    · rw [if_pos ⟨hc, hp⟩]
      exact zak hp (Ev.bind (zpq (zq4 hc hp)) (Ev.now _))
    · rw [if_neg (fun q => hp q.2)]
      exact zb0 hp (Ev.now _)
  · rw [if_neg (fun q => hc q.1)]
    exact zb0 hc (Ev.now _)
end Go.Proofs.Ytccoiifklcgodaa.PL
namespace Go.Proofs.Ytccoiifklcgodaa.Pure
open Go Go.RowKit Go.Proofs.YtccoiifklcgodaaW.PrintWords Go.Proofs.YtccoiifklcgodaaW.PrintLast Go.Proofs.YtccoiifklcgodaaW.PrintMore Go.Proofs.Ytccoiifklcgodaa.Q Go.Proofs.Ytccoiifklcgodaa.PL
set_option linter.unusedSimpArgs false
set_option linter.unusedVariables false
theorem FnExactIsPruned : laws_FnExactIsPruned.Pure := by
  rintro ⟨os, ims⟩ l h0 h1
  show ∃ k, zcr k os ims l = some true
  refine zrr (g := fun k => zcr k os ims l) ?_
  unfold zcr
  obtain ⟨r, hr, hr'⟩ := zpd os ims 1048576 h0.1 h0.2.1 (by decide) (by decide)
  refine Ev.bind hr ?_
  by_cases hn : r < 0
  · exact zak hn (Ev.now _)
  obtain ⟨q1, q2, q3⟩ := hr' (by omega)
  have b0 : os.length ≤ 1048576 := by omega
  have b1 : ims.length ≤ 1048576 := by omega
  refine zb0 hn ?_
  obtain ⟨r2, hr2, hr2'⟩ := zpa l r h1 (by omega) (by omega)
  refine Ev.bind hr2 ?_
  by_cases hn2 : r2 < 0
  · exact zak hn2 (Ev.now _)
  have bl : l.length ≤ 1048576 := by have := (hr2' (by omega)).1; omega
  have bm : (l.map cvI).length ≤ 1048576 := by simpa using bl
  have tc := zpe os ims b0 b1
  have ti := zpb l bl
  refine zb0 hn2 (Ev.bind tc (Ev.bind ti (Ev.bind (zrc os ims _ b0 b1) (Ev.bind tc (Ev.bind ti (Ev.bind (zrb os ims _ b0 b1 bm) (zb0 (by simp) ?_)))))))
  rw [show ((ipR os ims (l.map cvI)).2 != (ipR os ims (l.map cvI)).2) = false by simp]
  refine Ev.step (fun k => by simp only [zam]; rfl) (zb0 (by decide) ?_)
  exact Ev.bind tc (Ev.bind (znx os ims b0 b1) (zak rfl (Ev.bind ti (Ev.bind (znw _ bm) (zak rfl (Ev.now _))))))
end Go.Proofs.Ytccoiifklcgodaa.Pure
end
