/- Proved here: contracts of functions that the law FnExactProgramTable reaches, and lemmas on what they compute; texts of this session and the printed words of the kit that they lean on, cut down and put together by its program link.py. Conditions: as each states. -/
import Derived.Carry
import Derived.Deep.RegionWith
import Derived.Deep.Slices
import Derived.Laws.BitsLemmas
import Derived.ProofKit
import Derived.Test.YtccoiifklcgodaaZFnExactProgramTable1
import Derived.Test.YtccoiifklcgodaaZFnExactProgramTable2
import Derived.Test.YtccoiifklcgodaaZFnExactProgramTable3
import Derived.Test.YtccoiifklcgodaaZFnExactProgramTable4
section
namespace Go.Proofs.Ytccoiifklcgodaa.Q
open Go.RowKit Go.Proofs.YtccoiifklcgodaaW.PrintWords Go.Proofs.YtccoiifklcgodaaW.PrintLast Go.Proofs.YtccoiifklcgodaaW.PrintMore
attribute [local go_sem] zdk zdl zee zef zcq zcr zdm zdn
set_option linter.unusedVariables false
set_option linter.unusedSimpArgs false
def za8 : Nat → List (S102) → Bool → Option (List Int × Bool)
 | 0, _, _ => none
 | k + 1, x1, x14 => if x14 = true then (some (([] : List Int), false)) else ((zhe x1).bind fun t104 => ((zet k x1 t104).bind fun t105 => (some (t105, true))))
def zb5 (k : Nat) (l0_0 : List ByteArray) (l0_1 : List Int) (l1 : List (S102)) : Option (List Int × Bool) := (zfe k l0_0 l0_1).bind fun t102 => (if t102 = true then ((zfi k l0_0 l0_1 l1).bind fun t103 => (za8 k l1 (!t103))) else (za8 k l1 true))
theorem zg7 : ∀ k, (∀ y0 y1, LeO (za8 k y0 y1) (za8 (k + 1) y0 y1))
 | 0 => fun _ _ r h => by simp [za8] at h
 | k + 1 => by
   have ih0 := zg7 k
   · intro y0 y1
     unfold za8
     repeat' first
     | (with_reducible first | exact ih0 _ _ | exact zkf _ _ _ | exact zk9 _ _ _ _ | exact zjv _ _ _ | exact LeO.refl _ | exact LeO.none _ | refine zaf ?_ ?_ | refine LeO.bind ?_ (fun _ => ?_))
     | exact LeO.none _
     | refine zaf ?_ ?_
     | refine LeO.bind ?_ (fun _ => ?_)
theorem ze8 : ∀ a0 a1 a2 k, LeO (zb5 k a0 a1 a2) (zb5 (k + 1) a0 a1 a2) := by
 intro a0 a1 a2 k
 have ih0 := zg7 k
 unfold zb5
 repeat' first
     | (with_reducible first | exact ih0 _ _ | exact zkf _ _ _ | exact zk9 _ _ _ _ | exact zjv _ _ _ | exact LeO.refl _ | exact LeO.none _ | refine zaf ?_ ?_ | refine LeO.bind ?_ (fun _ => ?_))
     | exact LeO.none _
     | refine zaf ?_ ?_
     | refine LeO.bind ?_ (fun _ => ?_)
set_option maxHeartbeats 8000000 in
set_option maxRecDepth 100000 in
theorem zj0 (k : Nat) (A0_0 : Option Addr) (c0_0 : Nat) (l0_0 : List ByteArray) (A0_1 : Option Addr) (c0_1 : Nat) (l0_1 : List Int) (A1 : Option Addr) (c1 : Nat) (l1 : List (S102)) (r1 : List Int) (r2 : Bool) (w : World) (hr0_0 : Kd.C Kd.string w A0_0 l0_0.length l0_0) (hc0_0 : l0_0.length ≤ c0_0) (hr0_1 : Kd.C (Kd.int .i64) w A0_1 l0_1.length l0_1) (hc0_1 : l0_1.length ≤ c0_1) (hr1 : Kd.C k102 w A1 l1.length l1) (hc1 : l1.length ≤ c1) (h : zb5 k l0_0 l0_1 l1 = some (r1, r2)) :
   Calls Try.prog 46 #[.agg #[.slice A0_0 l0_0.length c0_0, .slice A0_1 l0_1.length c0_1], .slice A1 l1.length c1] w fun e w' => ∃ v0_ : Value, e = .returned (.tuple #[v0_, .bool r2]) ∧ Kd.R (Kd.int .i64) 3 w' w.heap.size (fun _ => True) v0_ r1 ∧ Below w.heap.size w w' := by
 have hu62 := Try.underlying62
 have HR0_0 := zA hr0_0
 have HC0_0 := zA hc0_0
 clear hr0_0 hc0_0
 have HR0_1 := zA hr0_1
 have HC0_1 := zA hc0_1
 clear hr0_1 hc0_1
 have HR1 := zA hr1
 have HC1 := zA hc1
 clear hr1 hc1
 have HB := zA (Below.refl w.heap.size w)
 have H : ((zfe k l0_0 l0_1).bind fun t102 => (if t102 = true then ((zfi k l0_0 l0_1 l1).bind fun t103 => (za8 k l1 (!t103))) else (za8 k l1 true))) = some (r1, r2) := h
 clear h
 have HC3 := zA H
 clear H
 go_enter Try.func46, Try.ntmps46
 go_upto_region 1 with (first | ((with_reducible refine zam (N := 2) rfl ?_); refine zak ?hg (N := 2) ?hd (cs := #[.slice A0_0 l0_0.length c0_0, .slice A0_1 l0_1.length c0_1]) (t := 62) ?hr ?_; (case hd => rfl); (case hg => rfl); (case hr => go_simp <;> rfl); intro gb101 hg w4 hbox hb; have zs := zpair (by repeat (first | (with_reducible first | exact HB.out | apply zba | apply zbn | apply zbd) | exact HB.out)) hb; have n0_ := zA (zs.1); have n1_ := zA (hbox); have n2_ := zA ((by rw [hg]; exact zs.2 : w.heap.size ≤ gb101)); have n3_ := n2_; clear HB; have HB := n0_; have BK101 := n1_; have GW101 := n2_; have GE101 := n3_; clear n0_ n1_ n2_ n3_; clear zs hb hbox hg))
 (try simp only [Act.put, zla, zlb, zlc])
 go_cut [14] (fun v14 wc => ∃ (kq : Nat) (x14_2 : Bool), v14 = .bool x14_2 ∧ Aside0 (za8 kq l1 x14_2 = some (r1, r2)) ∧ Aside0 (kq ≤ k) ∧ Aside0 (wc.heap[gb101]? = some (.cells #[(.slice A0_0 l0_0.length c0_0), (.slice A0_1 l0_1.length c0_1)] 62 (0, 0))) ∧ Aside0 (Below w.heap.size w wc))
 case first =>
   have H := HC3.out
   clear HC3
   replace H := zob H
   obtain ⟨t102, A50, H⟩ := H
   replace H : (if t102 = true then ((zfi k l0_0 l0_1 l1).bind fun t103 => (za8 k l1 (!t103))) else (za8 k l1 true)) = some (r1, r2) := H
   have A5 := zA A50
   clear A50
   by_cases c6 : t102 = true
   rotate_left
   · replace c6 := zbf c6
     subst c6
     replace H : (za8 k l1 true) = some (r1, r2) := by rw [if_neg (show ¬ (false = true) by decide)] at H; exact H
     have H' := zA H
     clear H
     obtain ⟨hcz12_0, hcz12_1⟩ := zc2 w4 (.slice A0_0 l0_0.length c0_0) (.slice A0_1 l0_1.length c0_1) BK101.out
     obtain ⟨hfz12_0, hfz12_1⟩ := zf2 BK101.out
     go_wp2_with (first | ((with_reducible refine zae (f := 93) rfl ?_); refine zaz (some 7) rfl rfl Try.func93 (by kernel_rfl) rfl #[.agg #[.slice A0_0 l0_0.length c0_0, .slice A0_1 l0_1.length c0_1]] rfl (by first | rfl | (simp only [zld, zle, zlf, zlg, zlh] <;> rfl)) ?_; (with_reducible refine (zjq k _ _ l0_0 _ _ l0_1 false _ ?side1 ?side2 ?side3 ?side4 A5.out).mono ?_); (case side1 => repeat (first | exact (zCb HR0_0.out HB.out) | (with_reducible first | refine zCa ?_ _ | refine zCn ?_ _ | refine zCd ?_))); (case side2 => exact HC0_0.out); (case side3 => repeat (first | exact (zCb HR0_1.out HB.out) | (with_reducible first | refine zCa ?_ _ | refine zCn ?_ _ | refine zCd ?_))); (case side4 => exact HC0_1.out); rintro e w13 ⟨rfl, hb⟩; refine ⟨_, rfl, ?_⟩; have n0_ := zA (zad (g := gb101) (o := .cells #[.slice A0_0 l0_0.length c0_0, .slice A0_1 l0_1.length c0_1] 62 (0, 0)) (by (with_reducible repeat (first | refine zkn ?_ _ | refine zkd ?_ | refine zka ?_ _)); exact BK101.out) hb); have n1_ := zA (zai (by repeat (first | (with_reducible first | exact HB.out | apply zba | apply zbn | apply zbd | refine zaa ?_ GE101.out) | exact HB.out)) hb); clear BK101 HB; have BK101 := n0_; have HB := n1_; clear n0_ n1_; (try clear hb)))
     go_meet
     case rel => exact ⟨_, (true), (by first | rfl | (simp; done) | (simp [*]; done)), H', ⟨by first | omega | exact zlr _⟩, ⟨by (with_reducible repeat (first | refine zkn ?_ _ | refine zkd ?_ | refine zka ?_ _)); exact BK101.out⟩, ⟨by repeat (first | (with_reducible first | exact HB.out | apply zba | apply zbn | apply zbd | refine zaa ?_ GE101.out) | exact HB.out)⟩⟩
   subst c6
   replace H : ((zfi k l0_0 l0_1 l1).bind fun t103 => (za8 k l1 (!t103))) = some (r1, r2) := by rw [if_pos rfl] at H; exact H
   replace H := zob H
   obtain ⟨t103, A70, H⟩ := H
   replace H : (za8 k l1 (!t103)) = some (r1, r2) := H
   have A7 := zA A70
   clear A70
   have H' := zA H
   clear H
   obtain ⟨hcz8_0, hcz8_1⟩ := zc2 w4 (.slice A0_0 l0_0.length c0_0) (.slice A0_1 l0_1.length c0_1) BK101.out
   obtain ⟨hfz8_0, hfz8_1⟩ := zf2 BK101.out
   go_wp2_with (first | ((with_reducible refine zae (f := 93) rfl ?_); refine zaz (some 7) rfl rfl Try.func93 (by kernel_rfl) rfl #[.agg #[.slice A0_0 l0_0.length c0_0, .slice A0_1 l0_1.length c0_1]] rfl (by first | rfl | (simp only [zld, zle, zlf, zlg, zlh] <;> rfl)) ?_; (with_reducible refine (zjq k _ _ l0_0 _ _ l0_1 true _ ?side1 ?side2 ?side3 ?side4 A5.out).mono ?_); (case side1 => repeat (first | exact (zCb HR0_0.out HB.out) | (with_reducible first | refine zCa ?_ _ | refine zCn ?_ _ | refine zCd ?_))); (case side2 => exact HC0_0.out); (case side3 => repeat (first | exact (zCb HR0_1.out HB.out) | (with_reducible first | refine zCa ?_ _ | refine zCn ?_ _ | refine zCd ?_))); (case side4 => exact HC0_1.out); rintro e w9 ⟨rfl, hb⟩; refine ⟨_, rfl, ?_⟩; have n0_ := zA (zad (g := gb101) (o := .cells #[.slice A0_0 l0_0.length c0_0, .slice A0_1 l0_1.length c0_1] 62 (0, 0)) (by (with_reducible repeat (first | refine zkn ?_ _ | refine zkd ?_ | refine zka ?_ _)); exact BK101.out) hb); have n1_ := zA (zai (by repeat (first | (with_reducible first | exact HB.out | apply zba | apply zbn | apply zbd | refine zaa ?_ GE101.out) | exact HB.out)) hb); clear BK101 HB; have BK101 := n0_; have HB := n1_; clear n0_ n1_; (try clear hb); obtain ⟨hcz10_0, hcz10_1⟩ := zc2 w9 (.slice A0_0 l0_0.length c0_0) (.slice A0_1 l0_1.length c0_1) BK101.out; obtain ⟨hfz10_0, hfz10_1⟩ := zf2 BK101.out) | (go_at_call 94; (with_reducible refine (znc k _ _ l0_0 _ _ l0_1 _ _ l1 t103 _ ?side1 ?side2 ?side3 ?side4 ?side5 ?side6 A7.out).mono ?_); (case side1 => repeat (first | exact (zCb HR0_0.out HB.out) | (with_reducible first | refine zCa ?_ _ | refine zCn ?_ _ | refine zCd ?_))); (case side2 => exact HC0_0.out); (case side3 => repeat (first | exact (zCb HR0_1.out HB.out) | (with_reducible first | refine zCa ?_ _ | refine zCn ?_ _ | refine zCd ?_))); (case side4 => exact HC0_1.out); (case side5 => repeat (first | exact (zCb HR1.out HB.out) | (with_reducible first | refine zCa ?_ _ | refine zCn ?_ _ | refine zCd ?_))); (case side6 => exact HC1.out); rintro e w11 ⟨rfl, hb⟩; have n0_ := zA (zad (g := gb101) (o := .cells #[.slice A0_0 l0_0.length c0_0, .slice A0_1 l0_1.length c0_1] 62 (0, 0)) (by (with_reducible repeat (first | refine zkn ?_ _ | refine zkd ?_ | refine zka ?_ _)); exact BK101.out) hb); have n1_ := zA (zai (by repeat (first | (with_reducible first | exact HB.out | apply zba | apply zbn | apply zbd | refine zaa ?_ GE101.out) | exact HB.out)) hb); clear BK101 HB; have BK101 := n0_; have HB := n1_; clear n0_ n1_; (try clear hb)))
   go_meet
   case rel => exact ⟨_, (!t103), (by first | rfl | (simp; done) | (simp [*]; done)), H', ⟨by first | omega | exact zlr _⟩, ⟨by (with_reducible repeat (first | refine zkn ?_ _ | refine zkd ?_ | refine zka ?_ _)); exact BK101.out⟩, ⟨by repeat (first | (with_reducible first | exact HB.out | apply zba | apply zbn | apply zbd | refine zaa ?_ GE101.out) | exact HB.out)⟩⟩
 clear HC3
 try clear c1
 try clear p2
 try clear c4
 try clear c6
 try clear c9
 try clear hcz10_0
 try clear hcz10_1
 try clear hcz12_0
 try clear hcz12_1
 try clear hcz8_0
 try clear hcz8_1
 try clear hfz10_0
 try clear hfz10_1
 try clear hfz12_0
 try clear hfz12_1
 try clear hfz8_0
 try clear hfz8_1
 obtain ⟨kq, x14_2, rfl, HA, HJ2, BK101, HB⟩ := hcut
 cases kq with
 | zero => exact absurd HA.out (by simp [za8])
 | succ kj2 =>
 have H := HA.out
 clear HA
 simp only [za8] at H
 by_cases c14 : x14_2 = true
 · subst c14
   replace H : (some (([] : List Int), false)) = some (r1, r2) := by rw [if_pos rfl] at H; exact H
   simp only [Option.some.injEq, Prod.mk.injEq] at H
   obtain ⟨rfl, rfl⟩ := H
   go_wp2
   go_ret2
   exact ⟨_, by first | rfl | (simp <;> rfl) | (simp [*] <;> rfl), by first | exact Kd.R_nil _ _ _ _ _ | exact Kd.N_nil _ _ _ _ _ | exact Kd.V_nil _ _ _ _ _ | exact Kd.Q_nil _ _ _ _ _ | exact Kd.S_nil _ _ _ _ _, by repeat (first | (with_reducible first | exact HB.out | apply zba | apply zbn | apply zbd | refine zaa ?_ GE101.out) | exact HB.out)⟩
 replace c14 := zbf c14
 subst c14
 replace H : ((zhe l1).bind fun t104 => ((zet kj2 l1 t104).bind fun t105 => (some (t105, true)))) = some (r1, r2) := by rw [if_neg (show ¬ (false = true) by decide)] at H; exact H
 replace H := zob H
 obtain ⟨t104, A150, H⟩ := H
 replace H : ((zet kj2 l1 t104).bind fun t105 => (some (t105, true))) = some (r1, r2) := H
 have A15 := zA A150
 clear A150
 replace H := zob H
 obtain ⟨t105, A160, H⟩ := H
 replace H : (some (t105, true)) = some (r1, r2) := H
 have A16 := zA A160
 clear A160
 simp only [Option.some.injEq, Prod.mk.injEq] at H
 obtain ⟨rfl, rfl⟩ := H
 go_wp2_with (first | ((with_reducible refine zae (f := 102) rfl ?_); refine zaz (some 17) rfl rfl Try.func102 (by kernel_rfl) rfl #[.slice A1 l1.length c1] rfl (by first | rfl | (simp only [zld, zle, zlf, zlg, zlh] <;> rfl)) ?_; (with_reducible refine (zml _ _ l1 t104 _ ?side1 ?side2 A15.out).mono ?_); (case side1 => repeat (first | exact (zCb HR1.out HB.out) | (with_reducible first | refine zCa ?_ _ | refine zCn ?_ _ | refine zCd ?_))); (case side2 => exact HC1.out); rintro e w' ⟨rfl, ⟨nd, rfl⟩⟩; refine ⟨_, rfl, ?_⟩) | ((with_reducible refine zae (f := 101) rfl ?_); refine zaz (some 18) rfl rfl Try.func101 (by kernel_rfl) rfl #[.slice A1 l1.length c1, .int .i64 t104] rfl (by first | rfl | (simp only [zld, zle, zlf, zlg, zlh] <;> rfl)) ?_; (with_reducible refine (zl0 kj2 _ _ l1 t104 t105 _ ?side1 ?side2 A16.out).mono ?_); (case side1 => repeat (first | exact (zCb HR1.out (by repeat (first | (with_reducible first | exact HB.out | apply zba | apply zbn | apply zbd | refine zaa ?_ GE101.out) | exact HB.out))) | (with_reducible first | refine zCa ?_ _ | refine zCn ?_ _ | refine zCd ?_))); (case side2 => exact HC1.out); rintro e w17 ⟨v106, rfl, ho0, hb⟩; refine ⟨_, rfl, ?_⟩; have n0_ := zA (Kd.R_lower ho0 (zaj (by repeat (first | (with_reducible first | exact HB.out | apply zba | apply zbn | apply zbd | refine zaa ?_ GE101.out) | exact HB.out)))); have n1_ := zA (zad (g := gb101) (o := .cells #[.slice A0_0 l0_0.length c0_0, .slice A0_1 l0_1.length c0_1] 62 (0, 0)) (by (with_reducible repeat (first | refine zkn ?_ _ | refine zkd ?_ | refine zka ?_ _)); exact BK101.out) hb); have n2_ := zA (zai (by repeat (first | (with_reducible first | exact HB.out | apply zba | apply zbn | apply zbd | refine zaa ?_ GE101.out) | exact HB.out)) hb); clear BK101 HB; have HO107 := n0_; have BK101 := n1_; have HB := n2_; clear n0_ n1_ n2_; (try clear hb); (try clear ho0)))
 go_ret2
 exact ⟨_, by first | rfl | (simp <;> rfl) | (simp [*] <;> rfl), by (with_reducible repeat (first | apply zRa | apply zRn | apply zRd)); exact HO107.out, by repeat (first | (with_reducible first | exact HB.out | apply zba | apply zbn | apply zbd | refine zaa ?_ GE101.out) | exact HB.out)⟩
end Go.Proofs.Ytccoiifklcgodaa.Q
end
section
namespace Go.Proofs.Ytccoiifklcgodaa.Q
open Go.RowKit Go.Proofs.YtccoiifklcgodaaW.PrintWords Go.Proofs.YtccoiifklcgodaaW.PrintLast Go.Proofs.YtccoiifklcgodaaW.PrintMore
attribute [local go_sem] zdk zdl zee zef zcq zcr zdm zdn
set_option linter.unusedVariables false
set_option linter.unusedSimpArgs false
mutual
def zah : Nat → List (S101) → List Int → Bool → List (S102) → List Int → Bool → Bool → List ByteArray → List Int → List ByteArray → List Int → Option (Bool)
 | 0, _, _, _, _, _, _, _, _, _, _, _ => none
 | k + 1, x1, x6, x7, x9, x10, x11, x53, x102000, x102001, x124000, x124001 => if x53 = true then (some false) else ((zbg k x102000 x102001).bind fun bt132 => ((zec k x124000 x124001 bt132.1 bt132.2).bind fun t138 => (if t138 = true then ((zax k x1).bind fun t139 => ((zc8 k x9 t139).bind fun t142 => (if t142 = true then ((zb0 k x124000 x124001 1).bind fun bt143 => ((zbu k x9 bt143.1).bind fun bt146 => (if bt146.1 < 0 then (zac k x1 x6 x7 x10 true x102000 x102001) else ((zau k x10 x6).bind fun t148 => (if t148 = true then (zac k x1 x6 x7 x10 (x11 != x7) x102000 x102001) else (zac k x1 x6 x7 x10 true x102000 x102001)))))) else (some false)))) else (some false))))
def zac : Nat → List (S101) → List Int → Bool → List Int → Bool → List ByteArray → List Int → Option (Bool)
 | 0, _, _, _, _, _, _, _ => none
 | k + 1, x1, x6, x7, x10, x82, x102000, x102001 => if x82 = true then (some false) else ((zda k x10 1).bind fun bt149 => ((zc9 k bt149.2 1).bind fun t151 => (if t151 < 0 then (some false) else (if t151 = bt149.1 then ((zbg k x102000 x102001).bind fun bt152 => ((zax k x1).bind fun t158 => ((za0 k bt152.1 bt152.2 t158).bind fun bt161 => ((zau k bt161.1 x6).bind fun t165 => (if t165 = true then (zal k bt149.2 bt149.1 (bt161.2 != x7)) else (zal k bt149.2 bt149.1 true)))))) else (some false)))))
def zal : Nat → List Int → Int → Bool → Option (Bool)
 | 0, _, _, _ => none
 | k + 1, x10, x13, x110 => if x110 = true then (some false) else ((zc9 k x10 1).bind fun t166 => (if t166 < 0 then (some false) else (if t166 = x13 then (some true) else (some false))))
end
def zb6 (k : Nat) (l0_0 : List ByteArray) (l0_1 : List Int) (l1 : List (S101)) : Option (Bool) := (zew k l0_0 l0_1 1048576).bind fun t102 => (if t102 < 0 then (some true) else ((zdy k l1 t102).bind fun t103 => (if t103 < 0 then (some true) else ((zbg k l0_0 l0_1).bind fun bt104 => ((zax k l1).bind fun t110 => ((zb5 k bt104.1 bt104.2 t110).bind fun bt113 => ((zbg k l0_0 l0_1).bind fun bt117 => ((zax k l1).bind fun t124 => ((za0 k bt117.1 bt117.2 t124).bind fun bt127 => ((zau k bt127.1 bt113.1).bind fun t131 => (if t131 = true then (zah k l1 bt113.1 bt113.2 t124 bt127.1 bt127.2 (bt127.2 != bt113.2) l0_0 l0_1 bt117.1 bt117.2) else (zah k l1 bt113.1 bt113.2 t124 bt127.1 bt127.2 true l0_0 l0_1 bt117.1 bt117.2))))))))))))
theorem zfn : ∀ k, (∀ y0 y1 y2 y3 y4 y5 y6 y7 y8 y9 y10, LeO (zah k y0 y1 y2 y3 y4 y5 y6 y7 y8 y9 y10) (zah (k + 1) y0 y1 y2 y3 y4 y5 y6 y7 y8 y9 y10)) ∧ (∀ y0 y1 y2 y3 y4 y5 y6, LeO (zac k y0 y1 y2 y3 y4 y5 y6) (zac (k + 1) y0 y1 y2 y3 y4 y5 y6)) ∧ (∀ y0 y1 y2, LeO (zal k y0 y1 y2) (zal (k + 1) y0 y1 y2))
 | 0 => ⟨fun _ _ _ _ _ _ _ _ _ _ _ r h => by simp [zah] at h, fun _ _ _ _ _ _ _ r h => by simp [zac] at h, fun _ _ _ r h => by simp [zal] at h⟩
 | k + 1 => by
   obtain ⟨ih0, ih1, ih2⟩ := zfn k
   refine ⟨?_, ?_, ?_⟩
   · intro y0 y1 y2 y3 y4 y5 y6 y7 y8 y9 y10
     unfold zah
     repeat' first
     | (with_reducible first | exact ih0 _ _ _ _ _ _ _ _ _ _ _ | exact ih1 _ _ _ _ _ _ _ | exact ih2 _ _ _ | exact ze7 _ _ _ _ | exact zgb _ _ _ _ _ | exact zgc _ _ _ | exact zfz _ _ _ | exact zgd _ _ _ | exact zfj _ _ _ _ | exact zfk _ _ _ | exact zfd _ _ _ | exact zgf _ _ _ _ | exact zgg _ _ _ | exact zgh _ _ _ | exact zgi _ _ | exact ze8 _ _ _ _ | exact LeO.refl _ | exact LeO.none _ | refine zaf ?_ ?_ | refine LeO.bind ?_ (fun _ => ?_))
     | exact LeO.none _
     | refine zaf ?_ ?_
     | refine LeO.bind ?_ (fun _ => ?_)
   · intro y0 y1 y2 y3 y4 y5 y6
     unfold zac
     repeat' first
     | (with_reducible first | exact ih0 _ _ _ _ _ _ _ _ _ _ _ | exact ih1 _ _ _ _ _ _ _ | exact ih2 _ _ _ | exact ze7 _ _ _ _ | exact zgb _ _ _ _ _ | exact zgc _ _ _ | exact zfz _ _ _ | exact zgd _ _ _ | exact zfj _ _ _ _ | exact zfk _ _ _ | exact zfd _ _ _ | exact zgf _ _ _ _ | exact zgg _ _ _ | exact zgh _ _ _ | exact zgi _ _ | exact ze8 _ _ _ _ | exact LeO.refl _ | exact LeO.none _ | refine zaf ?_ ?_ | refine LeO.bind ?_ (fun _ => ?_))
     | exact LeO.none _
     | refine zaf ?_ ?_
     | refine LeO.bind ?_ (fun _ => ?_)
   · intro y0 y1 y2
     unfold zal
     repeat' first
     | (with_reducible first | exact ih0 _ _ _ _ _ _ _ _ _ _ _ | exact ih1 _ _ _ _ _ _ _ | exact ih2 _ _ _ | exact ze7 _ _ _ _ | exact zgb _ _ _ _ _ | exact zgc _ _ _ | exact zfz _ _ _ | exact zgd _ _ _ | exact zfj _ _ _ _ | exact zfk _ _ _ | exact zfd _ _ _ | exact zgf _ _ _ _ | exact zgg _ _ _ | exact zgh _ _ _ | exact zgi _ _ | exact ze8 _ _ _ _ | exact LeO.refl _ | exact LeO.none _ | refine zaf ?_ ?_ | refine LeO.bind ?_ (fun _ => ?_))
     | exact LeO.none _
     | refine zaf ?_ ?_
     | refine LeO.bind ?_ (fun _ => ?_)
theorem zm4 : ∀ a0 a1 a2 k, LeO (zb6 k a0 a1 a2) (zb6 (k + 1) a0 a1 a2) := by
 intro a0 a1 a2 k
 obtain ⟨ih0, ih1, ih2⟩ := zfn k
 unfold zb6
 repeat' first
     | (with_reducible first | exact ih0 _ _ _ _ _ _ _ _ _ _ _ | exact ih1 _ _ _ _ _ _ _ | exact ih2 _ _ _ | exact ze7 _ _ _ _ | exact zgb _ _ _ _ _ | exact zgc _ _ _ | exact zfz _ _ _ | exact zgd _ _ _ | exact zfj _ _ _ _ | exact zfk _ _ _ | exact zfd _ _ _ | exact zgf _ _ _ _ | exact zgg _ _ _ | exact zgh _ _ _ | exact zgi _ _ | exact ze8 _ _ _ _ | exact LeO.refl _ | exact LeO.none _ | refine zaf ?_ ?_ | refine LeO.bind ?_ (fun _ => ?_))
     | exact LeO.none _
     | refine zaf ?_ ?_
     | refine LeO.bind ?_ (fun _ => ?_)
set_option maxHeartbeats 8000000 in
set_option maxRecDepth 100000 in
theorem zhv (k : Nat) (A0_0 : Option Addr) (c0_0 : Nat) (l0_0 : List ByteArray) (A0_1 : Option Addr) (c0_1 : Nat) (l0_1 : List Int) (A1 : Option Addr) (c1 : Nat) (l1 : List (S101)) (r : Bool) (w : World) (hr0_0 : Kd.C Kd.string w A0_0 l0_0.length l0_0) (hc0_0 : l0_0.length ≤ c0_0) (hr0_1 : Kd.C (Kd.int .i64) w A0_1 l0_1.length l0_1) (hc0_1 : l0_1.length ≤ c0_1) (hr1 : Kd.C k101 w A1 l1.length l1) (hc1 : l1.length ≤ c1) (h : zb6 k l0_0 l0_1 l1 = some r) :
   Calls Try.prog 9 #[.agg #[.slice A0_0 l0_0.length c0_0, .slice A0_1 l0_1.length c0_1], .slice A1 l1.length c1] w fun e w' => e = .returned (.bool r) ∧ Below w.heap.size w w' := by
 have hu59 := Try.underlying59
 have hu62 := Try.underlying62
 have HR0_0 := zA hr0_0
 have HC0_0 := zA hc0_0
 clear hr0_0 hc0_0
 have HR0_1 := zA hr0_1
 have HC0_1 := zA hc0_1
 clear hr0_1 hc0_1
 have HR1 := zA hr1
 have HC1 := zA hc1
 clear hr1 hc1
 have HB := zA (Below.refl w.heap.size w)
 have H : ((zew k l0_0 l0_1 1048576).bind fun t102 => (if t102 < 0 then (some true) else ((zdy k l1 t102).bind fun t103 => (if t103 < 0 then (some true) else ((zbg k l0_0 l0_1).bind fun bt104 => ((zax k l1).bind fun t110 => ((zb5 k bt104.1 bt104.2 t110).bind fun bt113 => ((zbg k l0_0 l0_1).bind fun bt117 => ((zax k l1).bind fun t124 => ((za0 k bt117.1 bt117.2 t124).bind fun bt127 => ((zau k bt127.1 bt113.1).bind fun t131 => (if t131 = true then (zah k l1 bt113.1 bt113.2 t124 bt127.1 bt127.2 (bt127.2 != bt113.2) l0_0 l0_1 bt117.1 bt117.2) else (zah k l1 bt113.1 bt113.2 t124 bt127.1 bt127.2 true l0_0 l0_1 bt117.1 bt117.2))))))))))))) = some r := h
 clear h
 replace H := zob H
 obtain ⟨t102, A30, H⟩ := H
 replace H : (if t102 < 0 then (some true) else ((zdy k l1 t102).bind fun t103 => (if t103 < 0 then (some true) else ((zbg k l0_0 l0_1).bind fun bt104 => ((zax k l1).bind fun t110 => ((zb5 k bt104.1 bt104.2 t110).bind fun bt113 => ((zbg k l0_0 l0_1).bind fun bt117 => ((zax k l1).bind fun t124 => ((za0 k bt117.1 bt117.2 t124).bind fun bt127 => ((zau k bt127.1 bt113.1).bind fun t131 => (if t131 = true then (zah k l1 bt113.1 bt113.2 t124 bt127.1 bt127.2 (bt127.2 != bt113.2) l0_0 l0_1 bt117.1 bt117.2) else (zah k l1 bt113.1 bt113.2 t124 bt127.1 bt127.2 true l0_0 l0_1 bt117.1 bt117.2)))))))))))) = some r := H
 have A3 := zA A30
 clear A30
 by_cases c4 : t102 < 0
 · rw [if_pos c4] at H
   have c4b0 : decide (t102 < 0) = true := zdt c4
   clear c4
   obtain rfl := zsi H
   go_enter Try.func9, Try.ntmps9
   go_wp2_with (first | ((with_reducible refine zam (N := 2) rfl ?_); refine zak ?hg (N := 2) ?hd (cs := #[.slice A0_0 l0_0.length c0_0, .slice A0_1 l0_1.length c0_1]) (t := 59) ?hr ?_; (case hd => rfl); (case hg => rfl); (case hr => go_simp <;> rfl); intro gb101 hg w5 hbox hb; have zs := zpair (by repeat (first | (with_reducible first | exact HB.out | apply zba | apply zbn | apply zbd) | exact HB.out)) hb; have n0_ := zA (zs.1); have n1_ := zA (hbox); have n2_ := zA ((by rw [hg]; exact zs.2 : w.heap.size ≤ gb101)); have n3_ := n2_; clear HB; have HB := n0_; have BK101 := n1_; have GW101 := n2_; have GE101 := n3_; clear n0_ n1_ n2_ n3_; clear zs hb hbox hg; obtain ⟨hcz6_0, hcz6_1⟩ := zc2 w5 (.slice A0_0 l0_0.length c0_0) (.slice A0_1 l0_1.length c0_1) BK101.out; obtain ⟨hfz6_0, hfz6_1⟩ := zf2 BK101.out) | ((with_reducible refine zae (f := 41) rfl ?_); refine zaz (some 19) rfl rfl Try.func41 (by kernel_rfl) rfl #[.agg #[.slice A0_0 l0_0.length c0_0, .slice A0_1 l0_1.length c0_1], .int .i64 1048576] rfl (by first | rfl | (simp only [zld, zle, zlf, zlg, zlh] <;> rfl)) ?_; (with_reducible refine (zg4 k _ _ l0_0 _ _ l0_1 1048576 t102 _ ?side1 ?side2 ?side3 ?side4 A3.out).mono ?_); (case side1 => repeat (first | exact (zCb HR0_0.out HB.out) | (with_reducible first | refine zCa ?_ _ | refine zCn ?_ _ | refine zCd ?_))); (case side2 => exact HC0_0.out); (case side3 => repeat (first | exact (zCb HR0_1.out HB.out) | (with_reducible first | refine zCa ?_ _ | refine zCn ?_ _ | refine zCd ?_))); (case side4 => exact HC0_1.out); rintro e w7 ⟨rfl, hb⟩; refine ⟨_, rfl, ?_⟩; have n0_ := zA (zad (g := gb101) (o := .cells #[.slice A0_0 l0_0.length c0_0, .slice A0_1 l0_1.length c0_1] 59 (0, 0)) (by (with_reducible repeat (first | refine zkn ?_ _ | refine zkd ?_ | refine zka ?_ _)); exact BK101.out) hb); have n1_ := zA (zai (by repeat (first | (with_reducible first | exact HB.out | apply zba | apply zbn | apply zbd | refine zaa ?_ GE101.out) | exact HB.out)) hb); clear BK101 HB; have BK101 := n0_; have HB := n1_; clear n0_ n1_; (try clear hb)))
   go_ret
   exact ⟨by first | rfl | (simp <;> rfl) | (simp [*] <;> rfl), by repeat (first | (with_reducible first | exact HB.out | apply zba | apply zbn | apply zbd | refine zaa ?_ GE101.out) | exact HB.out)⟩
 rw [if_neg c4] at H
 have c4b0 : decide (t102 < 0) = false := zdf c4
 clear c4
 replace H := zob H
 obtain ⟨t103, A80, H⟩ := H
 replace H : (if t103 < 0 then (some true) else ((zbg k l0_0 l0_1).bind fun bt104 => ((zax k l1).bind fun t110 => ((zb5 k bt104.1 bt104.2 t110).bind fun bt113 => ((zbg k l0_0 l0_1).bind fun bt117 => ((zax k l1).bind fun t124 => ((za0 k bt117.1 bt117.2 t124).bind fun bt127 => ((zau k bt127.1 bt113.1).bind fun t131 => (if t131 = true then (zah k l1 bt113.1 bt113.2 t124 bt127.1 bt127.2 (bt127.2 != bt113.2) l0_0 l0_1 bt117.1 bt117.2) else (zah k l1 bt113.1 bt113.2 t124 bt127.1 bt127.2 true l0_0 l0_1 bt117.1 bt117.2)))))))))) = some r := H
 have A8 := zA A80
 clear A80
 by_cases c9 : t103 < 0
 · rw [if_pos c9] at H
   have c9b0 : decide (t103 < 0) = true := zdt c9
   clear c9
   obtain rfl := zsi H
   go_enter Try.func9, Try.ntmps9
   go_wp2_with (first | ((with_reducible refine zam (N := 2) rfl ?_); refine zak ?hg (N := 2) ?hd (cs := #[.slice A0_0 l0_0.length c0_0, .slice A0_1 l0_1.length c0_1]) (t := 59) ?hr ?_; (case hd => rfl); (case hg => rfl); (case hr => go_simp <;> rfl); intro gb101 hg w10 hbox hb; have zs := zpair (by repeat (first | (with_reducible first | exact HB.out | apply zba | apply zbn | apply zbd) | exact HB.out)) hb; have n0_ := zA (zs.1); have n1_ := zA (hbox); have n2_ := zA ((by rw [hg]; exact zs.2 : w.heap.size ≤ gb101)); have n3_ := n2_; clear HB; have HB := n0_; have BK101 := n1_; have GW101 := n2_; have GE101 := n3_; clear n0_ n1_ n2_ n3_; clear zs hb hbox hg; obtain ⟨hcz11_0, hcz11_1⟩ := zc2 w10 (.slice A0_0 l0_0.length c0_0) (.slice A0_1 l0_1.length c0_1) BK101.out; obtain ⟨hfz11_0, hfz11_1⟩ := zf2 BK101.out) | ((with_reducible refine zae (f := 41) rfl ?_); refine zaz (some 19) rfl rfl Try.func41 (by kernel_rfl) rfl #[.agg #[.slice A0_0 l0_0.length c0_0, .slice A0_1 l0_1.length c0_1], .int .i64 1048576] rfl (by first | rfl | (simp only [zld, zle, zlf, zlg, zlh] <;> rfl)) ?_; (with_reducible refine (zg4 k _ _ l0_0 _ _ l0_1 1048576 t102 _ ?side1 ?side2 ?side3 ?side4 A3.out).mono ?_); (case side1 => repeat (first | exact (zCb HR0_0.out HB.out) | (with_reducible first | refine zCa ?_ _ | refine zCn ?_ _ | refine zCd ?_))); (case side2 => exact HC0_0.out); (case side3 => repeat (first | exact (zCb HR0_1.out HB.out) | (with_reducible first | refine zCa ?_ _ | refine zCn ?_ _ | refine zCd ?_))); (case side4 => exact HC0_1.out); rintro e w12 ⟨rfl, hb⟩; refine ⟨_, rfl, ?_⟩; have n0_ := zA (zad (g := gb101) (o := .cells #[.slice A0_0 l0_0.length c0_0, .slice A0_1 l0_1.length c0_1] 59 (0, 0)) (by (with_reducible repeat (first | refine zkn ?_ _ | refine zkd ?_ | refine zka ?_ _)); exact BK101.out) hb); have n1_ := zA (zai (by repeat (first | (with_reducible first | exact HB.out | apply zba | apply zbn | apply zbd | refine zaa ?_ GE101.out) | exact HB.out)) hb); clear BK101 HB; have BK101 := n0_; have HB := n1_; clear n0_ n1_; (try clear hb)) | ((with_reducible refine zae (f := 29) rfl ?_); refine zaz (some 24) rfl rfl Try.func29 (by kernel_rfl) rfl #[.slice A1 l1.length c1, .int .i64 t102] rfl (by first | rfl | (simp only [zld, zle, zlf, zlg, zlh] <;> rfl)) ?_; (with_reducible refine (zis k _ _ l1 t102 t103 _ ?side1 ?side2 A8.out).mono ?_); (case side1 => repeat (first | exact (zCb HR1.out HB.out) | (with_reducible first | refine zCa ?_ _ | refine zCn ?_ _ | refine zCd ?_))); (case side2 => exact HC1.out); rintro e w13 ⟨rfl, hb⟩; refine ⟨_, rfl, ?_⟩; have n0_ := zA (zad (g := gb101) (o := .cells #[.slice A0_0 l0_0.length c0_0, .slice A0_1 l0_1.length c0_1] 59 (0, 0)) (by (with_reducible repeat (first | refine zkn ?_ _ | refine zkd ?_ | refine zka ?_ _)); exact BK101.out) hb); have n1_ := zA (zai (by repeat (first | (with_reducible first | exact HB.out | apply zba | apply zbn | apply zbd | refine zaa ?_ GE101.out) | exact HB.out)) hb); clear BK101 HB; have BK101 := n0_; have HB := n1_; clear n0_ n1_; (try clear hb)))
   go_ret
   exact ⟨by first | rfl | (simp <;> rfl) | (simp [*] <;> rfl), by repeat (first | (with_reducible first | exact HB.out | apply zba | apply zbn | apply zbd | refine zaa ?_ GE101.out) | exact HB.out)⟩
 rw [if_neg c9] at H
 have c9b0 : decide (t103 < 0) = false := zdf c9
 clear c9
 replace H := zob H
 obtain ⟨⟨t104, t107⟩, A140, H⟩ := H
 replace H : ((zax k l1).bind fun t110 => ((zb5 k t104 t107 t110).bind fun bt113 => ((zbg k l0_0 l0_1).bind fun bt117 => ((zax k l1).bind fun t124 => ((za0 k bt117.1 bt117.2 t124).bind fun bt127 => ((zau k bt127.1 bt113.1).bind fun t131 => (if t131 = true then (zah k l1 bt113.1 bt113.2 t124 bt127.1 bt127.2 (bt127.2 != bt113.2) l0_0 l0_1 bt117.1 bt117.2) else (zah k l1 bt113.1 bt113.2 t124 bt127.1 bt127.2 true l0_0 l0_1 bt117.1 bt117.2)))))))) = some r := H
 have A14 := zA A140
 clear A140
 replace H := zob H
 obtain ⟨t110, A150, H⟩ := H
 replace H : ((zb5 k t104 t107 t110).bind fun bt113 => ((zbg k l0_0 l0_1).bind fun bt117 => ((zax k l1).bind fun t124 => ((za0 k bt117.1 bt117.2 t124).bind fun bt127 => ((zau k bt127.1 bt113.1).bind fun t131 => (if t131 = true then (zah k l1 bt113.1 bt113.2 t124 bt127.1 bt127.2 (bt127.2 != bt113.2) l0_0 l0_1 bt117.1 bt117.2) else (zah k l1 bt113.1 bt113.2 t124 bt127.1 bt127.2 true l0_0 l0_1 bt117.1 bt117.2))))))) = some r := H
 have A15 := zA A150
 clear A150
 replace H := zob H
 obtain ⟨⟨t113, t116⟩, A160, H⟩ := H
 replace H : ((zbg k l0_0 l0_1).bind fun bt117 => ((zax k l1).bind fun t124 => ((za0 k bt117.1 bt117.2 t124).bind fun bt127 => ((zau k bt127.1 t113).bind fun t131 => (if t131 = true then (zah k l1 t113 t116 t124 bt127.1 bt127.2 (bt127.2 != t116) l0_0 l0_1 bt117.1 bt117.2) else (zah k l1 t113 t116 t124 bt127.1 bt127.2 true l0_0 l0_1 bt117.1 bt117.2)))))) = some r := H
 have A16 := zA A160
 clear A160
 replace H := zob H
 obtain ⟨⟨t117, t120⟩, A170, H⟩ := H
 replace H : ((zax k l1).bind fun t124 => ((za0 k t117 t120 t124).bind fun bt127 => ((zau k bt127.1 t113).bind fun t131 => (if t131 = true then (zah k l1 t113 t116 t124 bt127.1 bt127.2 (bt127.2 != t116) l0_0 l0_1 t117 t120) else (zah k l1 t113 t116 t124 bt127.1 bt127.2 true l0_0 l0_1 t117 t120))))) = some r := H
 have A17 := zA A170
 clear A170
 replace H := zob H
 obtain ⟨t124, A180, H⟩ := H
 replace H : ((za0 k t117 t120 t124).bind fun bt127 => ((zau k bt127.1 t113).bind fun t131 => (if t131 = true then (zah k l1 t113 t116 t124 bt127.1 bt127.2 (bt127.2 != t116) l0_0 l0_1 t117 t120) else (zah k l1 t113 t116 t124 bt127.1 bt127.2 true l0_0 l0_1 t117 t120)))) = some r := H
 have A18 := zA A180
 clear A180
 replace H := zob H
 obtain ⟨⟨t127, t130⟩, A190, H⟩ := H
 replace H : ((zau k t127 t113).bind fun t131 => (if t131 = true then (zah k l1 t113 t116 t124 t127 t130 (t130 != t116) l0_0 l0_1 t117 t120) else (zah k l1 t113 t116 t124 t127 t130 true l0_0 l0_1 t117 t120))) = some r := H
 have A19 := zA A190
 clear A190
 have HC20 := zA H
 clear H
 go_enter Try.func9, Try.ntmps9
 go_upto_region 12 with (first | ((with_reducible refine zam (N := 2) rfl ?_); refine zak ?hg (N := 2) ?hd (cs := #[.slice A0_0 l0_0.length c0_0, .slice A0_1 l0_1.length c0_1]) (t := 59) ?hr ?_; (case hd => rfl); (case hg => rfl); (case hr => go_simp <;> rfl); intro gb101 hg w21 hbox hb; have zs := zpair (by repeat (first | (with_reducible first | exact HB.out | apply zba | apply zbn | apply zbd) | exact HB.out)) hb; have n0_ := zA (zs.1); have n1_ := zA (hbox); have n2_ := zA ((by rw [hg]; exact zs.2 : w.heap.size ≤ gb101)); have n3_ := n2_; clear HB; have HB := n0_; have BK101 := n1_; have GW101 := n2_; have GE101 := n3_; clear n0_ n1_ n2_ n3_; clear zs hb hbox hg; obtain ⟨hcz22_0, hcz22_1⟩ := zc2 w21 (.slice A0_0 l0_0.length c0_0) (.slice A0_1 l0_1.length c0_1) BK101.out; obtain ⟨hfz22_0, hfz22_1⟩ := zf2 BK101.out) | ((with_reducible refine zae (f := 41) rfl ?_); refine zaz (some 19) rfl rfl Try.func41 (by kernel_rfl) rfl #[.agg #[.slice A0_0 l0_0.length c0_0, .slice A0_1 l0_1.length c0_1], .int .i64 1048576] rfl (by first | rfl | (simp only [zld, zle, zlf, zlg, zlh] <;> rfl)) ?_; (with_reducible refine (zg4 k _ _ l0_0 _ _ l0_1 1048576 t102 _ ?side1 ?side2 ?side3 ?side4 A3.out).mono ?_); (case side1 => repeat (first | exact (zCb HR0_0.out HB.out) | (with_reducible first | refine zCa ?_ _ | refine zCn ?_ _ | refine zCd ?_))); (case side2 => exact HC0_0.out); (case side3 => repeat (first | exact (zCb HR0_1.out HB.out) | (with_reducible first | refine zCa ?_ _ | refine zCn ?_ _ | refine zCd ?_))); (case side4 => exact HC0_1.out); rintro e w23 ⟨rfl, hb⟩; refine ⟨_, rfl, ?_⟩; have n0_ := zA (zad (g := gb101) (o := .cells #[.slice A0_0 l0_0.length c0_0, .slice A0_1 l0_1.length c0_1] 59 (0, 0)) (by (with_reducible repeat (first | refine zkn ?_ _ | refine zkd ?_ | refine zka ?_ _)); exact BK101.out) hb); have n1_ := zA (zai (by repeat (first | (with_reducible first | exact HB.out | apply zba | apply zbn | apply zbd | refine zaa ?_ GE101.out) | exact HB.out)) hb); clear BK101 HB; have BK101 := n0_; have HB := n1_; clear n0_ n1_; (try clear hb); (try clear hk)) | ((with_reducible refine zae (f := 29) rfl ?_); refine zaz (some 24) rfl rfl Try.func29 (by kernel_rfl) rfl #[.slice A1 l1.length c1, .int .i64 t102] rfl (by first | rfl | (simp only [zld, zle, zlf, zlg, zlh] <;> rfl)) ?_; (with_reducible refine (zis k _ _ l1 t102 t103 _ ?side1 ?side2 A8.out).mono ?_); (case side1 => repeat (first | exact (zCb HR1.out HB.out) | (with_reducible first | refine zCa ?_ _ | refine zCn ?_ _ | refine zCd ?_))); (case side2 => exact HC1.out); rintro e w24 ⟨rfl, hb⟩; refine ⟨_, rfl, ?_⟩; have n0_ := zA (zad (g := gb101) (o := .cells #[.slice A0_0 l0_0.length c0_0, .slice A0_1 l0_1.length c0_1] 59 (0, 0)) (by (with_reducible repeat (first | refine zkn ?_ _ | refine zkd ?_ | refine zka ?_ _)); exact BK101.out) hb); have n1_ := zA (zai (by repeat (first | (with_reducible first | exact HB.out | apply zba | apply zbn | apply zbd | refine zaa ?_ GE101.out) | exact HB.out)) hb); clear BK101 HB; have BK101 := n0_; have HB := n1_; clear n0_ n1_; (try clear hb); (try clear hk); obtain ⟨hcz25_0, hcz25_1⟩ := zc2 w24 (.slice A0_0 l0_0.length c0_0) (.slice A0_1 l0_1.length c0_1) BK101.out; obtain ⟨hfz25_0, hfz25_1⟩ := zf2 BK101.out) | ((with_reducible refine zae (f := 43) rfl ?_); refine zaz (some 29) rfl rfl Try.func43 (by kernel_rfl) rfl #[.agg #[.slice A0_0 l0_0.length c0_0, .slice A0_1 l0_1.length c0_1]] rfl (by first | rfl | (simp only [zld, zle, zlf, zlg, zlh] <;> rfl)) ?_; (with_reducible refine (zeq k _ _ l0_0 _ _ l0_1 t104 t107 _ ?side1 ?side2 ?side3 ?side4 A14.out).mono ?_); (case side1 => repeat (first | exact (zCb HR0_0.out HB.out) | (with_reducible first | refine zCa ?_ _ | refine zCn ?_ _ | refine zCd ?_))); (case side2 => exact HC0_0.out); (case side3 => repeat (first | exact (zCb HR0_1.out HB.out) | (with_reducible first | refine zCa ?_ _ | refine zCn ?_ _ | refine zCd ?_))); (case side4 => exact HC0_1.out); rintro e w26 ⟨v105, v108, rfl, ho0, ho1, hb⟩; refine ⟨_, rfl, ?_⟩; have n0_ := zA (Kd.R_lower ho0 (zaj (by repeat (first | (with_reducible first | exact HB.out | apply zba | apply zbn | apply zbd | refine zaa ?_ GE101.out) | exact HB.out)))); have n1_ := zA (Kd.R_lower ho1 (zaj (by repeat (first | (with_reducible first | exact HB.out | apply zba | apply zbn | apply zbd | refine zaa ?_ GE101.out) | exact HB.out)))); have n2_ := zA (zad (g := gb101) (o := .cells #[.slice A0_0 l0_0.length c0_0, .slice A0_1 l0_1.length c0_1] 59 (0, 0)) (by (with_reducible repeat (first | refine zkn ?_ _ | refine zkd ?_ | refine zka ?_ _)); exact BK101.out) hb); have n3_ := zA (zai (by repeat (first | (with_reducible first | exact HB.out | apply zba | apply zbn | apply zbd | refine zaa ?_ GE101.out) | exact HB.out)) hb); clear BK101 HB; have HO106 := n0_; have HO109 := n1_; have BK101 := n2_; have HB := n3_; clear n0_ n1_ n2_ n3_; (try clear hb); (try clear hk); (try clear ho0); (try clear ho1)) | ((with_reducible refine zae (f := 31) rfl ?_); refine zaz (some 31) rfl rfl Try.func31 (by kernel_rfl) rfl #[.slice A1 l1.length c1] rfl (by first | rfl | (simp only [zld, zle, zlf, zlg, zlh] <;> rfl)) ?_; (with_reducible refine (ze6 k _ _ l1 t110 _ ?side1 ?side2 A15.out).mono ?_); (case side1 => repeat (first | exact (zCb HR1.out HB.out) | (with_reducible first | refine zCa ?_ _ | refine zCn ?_ _ | refine zCd ?_))); (case side2 => exact HC1.out); rintro e w27 ⟨v111, rfl, ho0, hb⟩; refine ⟨_, rfl, ?_⟩; have n0_ := zA (zRb (by (with_reducible repeat (first | apply zRa | apply zRn | apply zRd)); exact HO106.out) hb); have n1_ := zA (zRb (by (with_reducible repeat (first | apply zRa | apply zRn | apply zRd)); exact HO109.out) hb); have n2_ := zA (Kd.R_lower ho0 (zaj (by repeat (first | (with_reducible first | exact HB.out | apply zba | apply zbn | apply zbd | refine zaa ?_ GE101.out) | exact HB.out)))); have n3_ := zA (zad (g := gb101) (o := .cells #[.slice A0_0 l0_0.length c0_0, .slice A0_1 l0_1.length c0_1] 59 (0, 0)) (by (with_reducible repeat (first | refine zkn ?_ _ | refine zkd ?_ | refine zka ?_ _)); exact BK101.out) hb); have n4_ := zA (zai (by repeat (first | (with_reducible first | exact HB.out | apply zba | apply zbn | apply zbd | refine zaa ?_ GE101.out) | exact HB.out)) hb); clear HO106 HO109; clear BK101 HB; have HO106 := n0_; have HO109 := n1_; have HO112 := n2_; have BK101 := n3_; have HB := n4_; clear n0_ n1_ n2_ n3_ n4_; (try clear hb); (try clear hk); (try clear ho0); obtain ⟨Ao28, co28, eo28⟩ := Kd.R_slice HO106.out; subst eo28; obtain ⟨Ao29, co29, eo29⟩ := Kd.R_slice HO109.out; subst eo29; obtain ⟨Ao30, co30, eo30⟩ := Kd.R_slice HO112.out; subst eo30) | ((with_reducible refine zae (f := 46) rfl ?_); refine zaz (some 32) rfl rfl Try.func46 (by kernel_rfl) rfl #[.agg #[.slice Ao28 t104.length co28, .slice Ao29 t107.length co29], .slice Ao30 t110.length co30] rfl (by first | rfl | (simp only [zld, zle, zlf, zlg, zlh] <;> rfl)) ?_; (with_reducible refine (zj0 k _ _ t104 _ _ t107 _ _ t110 t113 t116 _ ?side1 ?side2 ?side3 ?side4 ?side5 ?side6 A16.out).mono ?_); (case side1 => repeat (first | exact (zRr HO106.out).2.2 | (with_reducible first | refine zCa ?_ _ | refine zCn ?_ _ | refine zCd ?_))); (case side2 => exact (zRr HO106.out).2.1); (case side3 => repeat (first | exact (zRr HO109.out).2.2 | (with_reducible first | refine zCa ?_ _ | refine zCn ?_ _ | refine zCd ?_))); (case side4 => exact (zRr HO109.out).2.1); (case side5 => repeat (first | exact (zRr HO112.out).2.2 | (with_reducible first | refine zCa ?_ _ | refine zCn ?_ _ | refine zCd ?_))); (case side6 => exact (zRr HO112.out).2.1); rintro e w31 ⟨v114, rfl, ho0, hb⟩; refine ⟨_, rfl, ?_⟩; have n0_ := zA (zRb (by (with_reducible repeat (first | apply zRa | apply zRn | apply zRd)); exact HO106.out) hb); have n1_ := zA (Kd.R_elder' (by (with_reducible repeat (first | apply zRa | apply zRn | apply zRd)); exact HO109.out) (Kd.R_base ho0) hb); have n2_ := zA (zRb (by (with_reducible repeat (first | apply zRa | apply zRn | apply zRd)); exact HO112.out) hb); have n3_ := zA (Kd.R_lower (Kd.R_new' ho0 (Kd.R_lt (by (with_reducible repeat (first | apply zRa | apply zRn | apply zRd)); exact HO109.out))) (zaj (by repeat (first | (with_reducible first | exact HB.out | apply zba | apply zbn | apply zbd | refine zaa ?_ GE101.out) | exact HB.out)))); have n4_ := zA (zad (g := gb101) (o := .cells #[.slice A0_0 l0_0.length c0_0, .slice A0_1 l0_1.length c0_1] 59 (0, 0)) (by (with_reducible repeat (first | refine zkn ?_ _ | refine zkd ?_ | refine zka ?_ _)); exact BK101.out) hb); have n5_ := zA (zai (by repeat (first | (with_reducible first | exact HB.out | apply zba | apply zbn | apply zbd | refine zaa ?_ GE101.out) | exact HB.out)) hb); clear HO106 HO109; clear HO112 BK101 HB; have HO106 := n0_; have HO109 := n1_; have HO112 := n2_; have HO115 := n3_; have BK101 := n4_; have HB := n5_; clear n0_ n1_ n2_ n3_ n4_ n5_; (try clear hb); (try clear hk); (try clear ho0); obtain ⟨hcz32_0, hcz32_1⟩ := zc2 w31 (.slice A0_0 l0_0.length c0_0) (.slice A0_1 l0_1.length c0_1) BK101.out; obtain ⟨hfz32_0, hfz32_1⟩ := zf2 BK101.out) | ((with_reducible refine zae (f := 43) rfl ?_); refine zaz (some 36) rfl rfl Try.func43 (by kernel_rfl) rfl #[.agg #[.slice A0_0 l0_0.length c0_0, .slice A0_1 l0_1.length c0_1]] rfl (by first | rfl | (simp only [zld, zle, zlf, zlg, zlh] <;> rfl)) ?_; (with_reducible refine (zeq k _ _ l0_0 _ _ l0_1 t117 t120 _ ?side1 ?side2 ?side3 ?side4 A17.out).mono ?_); (case side1 => repeat (first | exact (zCb HR0_0.out HB.out) | (with_reducible first | refine zCa ?_ _ | refine zCn ?_ _ | refine zCd ?_))); (case side2 => exact HC0_0.out); (case side3 => repeat (first | exact (zCb HR0_1.out HB.out) | (with_reducible first | refine zCa ?_ _ | refine zCn ?_ _ | refine zCd ?_))); (case side4 => exact HC0_1.out); rintro e w33 ⟨v118, v121, rfl, ho0, ho1, hb⟩; refine ⟨_, rfl, ?_⟩; have n0_ := zA (Kd.R_elder' (by (with_reducible repeat (first | apply zRa | apply zRn | apply zRd)); exact HO106.out) (Kd.R_base ho0) hb); have n1_ := zA (Kd.R_elder' (by (with_reducible repeat (first | apply zRa | apply zRn | apply zRd)); exact HO109.out) (Kd.R_base ho1) hb); have n2_ := zA (zRb (by (with_reducible repeat (first | apply zRa | apply zRn | apply zRd)); exact HO112.out) hb); have n3_ := zA (Kd.R_elder' (by (with_reducible repeat (first | apply zRa | apply zRn | apply zRd)); exact HO115.out) (Kd.R_base ho1) hb); have n4_ := zA (Kd.R_lower (Kd.R_new' ho0 (Kd.R_lt (by (with_reducible repeat (first | apply zRa | apply zRn | apply zRd)); exact HO106.out))) (zaj (by repeat (first | (with_reducible first | exact HB.out | apply zba | apply zbn | apply zbd | refine zaa ?_ GE101.out) | exact HB.out)))); have n5_ := zA (Kd.R_lower (Kd.R_new' (Kd.R_new' ho1 (Kd.R_lt (by (with_reducible repeat (first | apply zRa | apply zRn | apply zRd)); exact HO109.out))) (Kd.R_lt (by (with_reducible repeat (first | apply zRa | apply zRn | apply zRd)); exact HO115.out))) (zaj (by repeat (first | (with_reducible first | exact HB.out | apply zba | apply zbn | apply zbd | refine zaa ?_ GE101.out) | exact HB.out)))); have n6_ := zA (zad (g := gb101) (o := .cells #[.slice A0_0 l0_0.length c0_0, .slice A0_1 l0_1.length c0_1] 59 (0, 0)) (by (with_reducible repeat (first | refine zkn ?_ _ | refine zkd ?_ | refine zka ?_ _)); exact BK101.out) hb); have n7_ := zA (zai (by repeat (first | (with_reducible first | exact HB.out | apply zba | apply zbn | apply zbd | refine zaa ?_ GE101.out) | exact HB.out)) hb); clear HO106 HO109; clear HO112 HO115; clear BK101 HB; have HO106 := n0_; have HO109 := n1_; have HO112 := n2_; have HO115 := n3_; have HO119 := n4_; have HO122 := n5_; have BK101 := n6_; have HB := n7_; clear n0_ n1_ n2_ n3_ n4_ n5_ n6_ n7_; (try clear hb); (try clear hk); (try clear ho0); (try clear ho1)) | ((with_reducible refine zam (N := 8) rfl ?_); refine zak ?hg (N := 8) ?hd (cs := #[.slice none 0 0, .slice none 0 0]) (t := 62) ?hr ?_; (case hd => rfl); (case hg => rfl); (case hr => go_simp <;> rfl); intro gb123 hg w34 hbox hb; have n0_ := zA (zRb (by (with_reducible repeat (first | apply zRa | apply zRn | apply zRd)); exact HO106.out) hb); have n1_ := zA (zRb (by (with_reducible repeat (first | apply zRa | apply zRn | apply zRd)); exact HO109.out) hb); have n2_ := zA (zRb (by (with_reducible repeat (first | apply zRa | apply zRn | apply zRd)); exact HO112.out) hb); have n3_ := zA (zRb (by (with_reducible repeat (first | apply zRa | apply zRn | apply zRd)); exact HO115.out) hb); have n4_ := zA (zRb (by (with_reducible repeat (first | apply zRa | apply zRn | apply zRd)); exact HO119.out) hb); have n5_ := zA (zRb (by (with_reducible repeat (first | apply zRa | apply zRn | apply zRd)); exact HO122.out) hb); have n6_ := zA (zad (g := gb101) (o := .cells #[.slice A0_0 l0_0.length c0_0, .slice A0_1 l0_1.length c0_1] 59 (0, 0)) (by (with_reducible repeat (first | refine zkn ?_ _ | refine zkd ?_ | refine zka ?_ _)); exact BK101.out) hb); have zs := zpair (by repeat (first | (with_reducible first | exact HB.out | apply zba | apply zbn | apply zbd | refine zaa ?_ GE101.out) | exact HB.out)) hb; have n7_ := zA (zs.1); have n8_ := zA (hbox); have n9_ := zA ((by rw [hg]; exact zs.2 : w.heap.size ≤ gb123)); have n10_ := n9_; have n11_ := zA ((by rw [hg]; exact Nat.ne_of_lt (zlt BK101.out (fun h => by (with_reducible repeat (first | refine zkn ?_ _ | refine zkd ?_ | refine zka ?_ _)); exact h)) : gb101 ≠ gb123)); have n12_ := zA (Ne.symm n11_.out); clear HO106 HO109; clear HO112 HO115; clear HO119 HO122; clear BK101 HB; have HO106 := n0_; have HO109 := n1_; have HO112 := n2_; have HO115 := n3_; have HO119 := n4_; have HO122 := n5_; have BK101 := n6_; have HB := n7_; have BK123 := n8_; have GW123 := n9_; have GE123 := n10_; have NB101_123 := n11_; have NB123_101 := n12_; clear n0_ n1_ n2_ n3_ n4_ n5_ n6_ n7_ n8_ n9_ n10_ n11_ n12_; clear zs hb hbox hg; obtain ⟨Ao35, co35, eo35⟩ := Kd.R_slice HO119.out; subst eo35; have hnb36 := NB123_101.out; have hnc36 := NB101_123.out; obtain ⟨hcz37_0, hcz37_1⟩ := zc2 w34 (.slice none 0 0) (.slice none 0 0) BK123.out; obtain ⟨hfz37_0, hfz37_1⟩ := zf2 BK123.out; obtain ⟨Ao38, co38, eo38⟩ := Kd.R_slice HO122.out; subst eo38) | ((with_reducible refine zae (f := 31) rfl ?_); refine zaz (some 38) rfl rfl Try.func31 (by kernel_rfl) rfl #[.slice A1 l1.length c1] rfl (by first | rfl | (simp only [zld, zle, zlf, zlg, zlh] <;> rfl)) ?_; (with_reducible refine (ze6 k _ _ l1 t124 _ ?side1 ?side2 A18.out).mono ?_); (case side1 => exact zCb HR1.out (by repeat (first | (with_reducible first | exact HB.out | apply zba | apply zbn | apply zbd | refine zaa ?_ GE101.out | refine zaa ?_ GE123.out) | exact HB.out))); (case side2 => exact HC1.out); rintro e w39 ⟨v125, rfl, ho0, hb⟩; refine ⟨_, rfl, ?_⟩; have n0_ := zA (zRb (by (with_reducible repeat (first | apply zRa | apply zRn | apply zRd)); exact (Kd.R_mono (Kd.R_far (p := ⟨gb123, 1, none⟩) (Kd.R_far (p := ⟨gb123, 0, none⟩) (Kd.R_types HO106.out BK123.out (by decide)) (fun _ hk => hk.2) (.slice Ao35 t117.length co35)) (fun _ hk => hk.2) (.slice Ao38 t120.length co38)) (fun _ h_ => h_.1))) hb); have n1_ := zA (zRb (by (with_reducible repeat (first | apply zRa | apply zRn | apply zRd)); exact (Kd.R_mono (Kd.R_far (p := ⟨gb123, 1, none⟩) (Kd.R_far (p := ⟨gb123, 0, none⟩) (Kd.R_types HO109.out BK123.out (by decide)) (fun _ hk => hk.2) (.slice Ao35 t117.length co35)) (fun _ hk => hk.2) (.slice Ao38 t120.length co38)) (fun _ h_ => h_.1))) hb); have n2_ := zA (Kd.R_elder' (by (with_reducible repeat (first | apply zRa | apply zRn | apply zRd)); exact (Kd.R_mono (Kd.R_far (p := ⟨gb123, 1, none⟩) (Kd.R_far (p := ⟨gb123, 0, none⟩) (Kd.R_types HO112.out BK123.out (by decide)) (fun _ hk => hk.2) (.slice Ao35 t117.length co35)) (fun _ hk => hk.2) (.slice Ao38 t120.length co38)) (fun _ h_ => h_.1))) (Kd.R_base ho0) hb); have n3_ := zA (zRb (by (with_reducible repeat (first | apply zRa | apply zRn | apply zRd)); exact (Kd.R_mono (Kd.R_far (p := ⟨gb123, 1, none⟩) (Kd.R_far (p := ⟨gb123, 0, none⟩) (Kd.R_types HO115.out BK123.out (by decide)) (fun _ hk => hk.2) (.slice Ao35 t117.length co35)) (fun _ hk => hk.2) (.slice Ao38 t120.length co38)) (fun _ h_ => h_.1))) hb); have n4_ := zA (zRb (by (with_reducible repeat (first | apply zRa | apply zRn | apply zRd)); exact (Kd.R_mono (Kd.R_far (p := ⟨gb123, 1, none⟩) (Kd.R_far (p := ⟨gb123, 0, none⟩) (Kd.R_types HO119.out BK123.out (by decide)) (fun _ hk => hk.2) (.slice Ao35 t117.length co35)) (fun _ hk => hk.2) (.slice Ao38 t120.length co38)) (fun _ h_ => h_.1))) hb); have n5_ := zA (zRb (by (with_reducible repeat (first | apply zRa | apply zRn | apply zRd)); exact (Kd.R_mono (Kd.R_far (p := ⟨gb123, 1, none⟩) (Kd.R_far (p := ⟨gb123, 0, none⟩) (Kd.R_types HO122.out BK123.out (by decide)) (fun _ hk => hk.2) (.slice Ao35 t117.length co35)) (fun _ hk => hk.2) (.slice Ao38 t120.length co38)) (fun _ h_ => h_.1))) hb); have n6_ := zA (Kd.R_lower (Kd.R_new' ho0 (Kd.R_lt (by (with_reducible repeat (first | apply zRa | apply zRn | apply zRd)); exact (Kd.R_mono (Kd.R_far (p := ⟨gb123, 1, none⟩) (Kd.R_far (p := ⟨gb123, 0, none⟩) (Kd.R_types HO112.out BK123.out (by decide)) (fun _ hk => hk.2) (.slice Ao35 t117.length co35)) (fun _ hk => hk.2) (.slice Ao38 t120.length co38)) (fun _ h_ => h_.1))))) (zaj (by repeat (first | (with_reducible first | exact HB.out | apply zba | apply zbn | apply zbd | refine zaa ?_ GE101.out | refine zaa ?_ GE123.out) | exact HB.out)))); have n7_ := zA (zad (g := gb101) (o := .cells #[.slice A0_0 l0_0.length c0_0, .slice A0_1 l0_1.length c0_1] 59 (0, 0)) (by (with_reducible repeat (first | refine zkn ?_ _ | refine zkd ?_ | refine zka ?_ _)); refine zat ?_ NB101_123.out _; (with_reducible repeat (first | refine zkn ?_ _ | refine zkd ?_ | refine zka ?_ _)); refine zat ?_ NB101_123.out _; (with_reducible repeat (first | refine zkn ?_ _ | refine zkd ?_ | refine zka ?_ _)); exact BK101.out) hb); have n8_ := zA (zad (g := gb123) (o := .cells #[.slice Ao35 t117.length co35, .slice Ao38 t120.length co38] 62 (0, 0)) (by (with_reducible repeat (first | refine zkn ?_ _ | refine zkd ?_ | refine zka ?_ _)); refine zbv (cs := #[.slice Ao35 t117.length co35, .slice none 0 0]) ?_ 1 _ rfl; (with_reducible repeat (first | refine zkn ?_ _ | refine zkd ?_ | refine zka ?_ _)); refine zbv (cs := #[.slice none 0 0, .slice none 0 0]) ?_ 0 _ rfl; (with_reducible repeat (first | refine zkn ?_ _ | refine zkd ?_ | refine zka ?_ _)); exact BK123.out) hb); have n9_ := zA (zai (by repeat (first | (with_reducible first | exact HB.out | apply zba | apply zbn | apply zbd | refine zaa ?_ GE101.out | refine zaa ?_ GE123.out) | exact HB.out)) hb); clear HO106 HO109; clear HO112 HO115; clear HO119 HO122; clear BK101 BK123 HB; have HO106 := n0_; have HO109 := n1_; have HO112 := n2_; have HO115 := n3_; have HO119 := n4_; have HO122 := n5_; have HO126 := n6_; have BK101 := n7_; have BK123 := n8_; have HB := n9_; clear n0_ n1_ n2_ n3_ n4_ n5_ n6_ n7_ n8_ n9_; (try clear hb); (try clear hk); (try clear ho0); obtain ⟨hcz40_0, hcz40_1⟩ := zc2 w39 (.slice Ao35 t117.length co35) (.slice Ao38 t120.length co38) BK123.out; obtain ⟨hfz40_0, hfz40_1⟩ := zf2 BK123.out; obtain ⟨Ao41, co41, eo41⟩ := Kd.R_slice HO126.out; subst eo41) | ((with_reducible refine zae (f := 47) rfl ?_); refine zaz (some 42) rfl rfl Try.func47 (by kernel_rfl) rfl #[.agg #[.slice Ao35 t117.length co35, .slice Ao38 t120.length co38], .slice Ao41 t124.length co41] rfl (by first | rfl | (simp only [zld, zle, zlf, zlg, zlh] <;> rfl)) ?_; (with_reducible refine (zha k _ _ t117 _ _ t120 _ _ t124 t127 t130 _ ?side1 ?side2 ?side3 ?side4 ?side5 ?side6 A19.out).mono ?_); (case side1 => repeat (first | exact (zRr HO119.out).2.2 | (with_reducible first | refine zCa ?_ _ | refine zCn ?_ _ | refine zCd ?_))); (case side2 => exact (zRr HO119.out).2.1); (case side3 => repeat (first | exact (zRr HO122.out).2.2 | (with_reducible first | refine zCa ?_ _ | refine zCn ?_ _ | refine zCd ?_))); (case side4 => exact (zRr HO122.out).2.1); (case side5 => repeat (first | exact (zRr HO126.out).2.2 | (with_reducible first | refine zCa ?_ _ | refine zCn ?_ _ | refine zCd ?_))); (case side6 => exact (zRr HO126.out).2.1); rintro e w42 ⟨v128, rfl, ho0, hb⟩; refine ⟨_, rfl, ?_⟩; have n0_ := zA (zRb (by (with_reducible repeat (first | apply zRa | apply zRn | apply zRd)); exact HO106.out) hb); have n1_ := zA (Kd.R_elder' (by (with_reducible repeat (first | apply zRa | apply zRn | apply zRd)); exact HO109.out) (Kd.R_base ho0) hb); have n2_ := zA (zRb (by (with_reducible repeat (first | apply zRa | apply zRn | apply zRd)); exact HO112.out) hb); have n3_ := zA (Kd.R_elder' (by (with_reducible repeat (first | apply zRa | apply zRn | apply zRd)); exact HO115.out) (Kd.R_base ho0) hb); have n4_ := zA (zRb (by (with_reducible repeat (first | apply zRa | apply zRn | apply zRd)); exact HO119.out) hb); have n5_ := zA (Kd.R_elder' (by (with_reducible repeat (first | apply zRa | apply zRn | apply zRd)); exact HO122.out) (Kd.R_base ho0) hb); have n6_ := zA (zRb (by (with_reducible repeat (first | apply zRa | apply zRn | apply zRd)); exact HO126.out) hb); have n7_ := zA (Kd.R_lower (Kd.R_new' (Kd.R_new' (Kd.R_new' ho0 (Kd.R_lt (by (with_reducible repeat (first | apply zRa | apply zRn | apply zRd)); exact HO109.out))) (Kd.R_lt (by (with_reducible repeat (first | apply zRa | apply zRn | apply zRd)); exact HO115.out))) (Kd.R_lt (by (with_reducible repeat (first | apply zRa | apply zRn | apply zRd)); exact HO122.out))) (zaj (by repeat (first | (with_reducible first | exact HB.out | apply zba | apply zbn | apply zbd | refine zaa ?_ GE101.out | refine zaa ?_ GE123.out) | exact HB.out)))); have n8_ := zA (zad (g := gb101) (o := .cells #[.slice A0_0 l0_0.length c0_0, .slice A0_1 l0_1.length c0_1] 59 (0, 0)) (by (with_reducible repeat (first | refine zkn ?_ _ | refine zkd ?_ | refine zka ?_ _)); exact BK101.out) hb); have n9_ := zA (zad (g := gb123) (o := .cells #[.slice Ao35 t117.length co35, .slice Ao38 t120.length co38] 62 (0, 0)) (by (with_reducible repeat (first | refine zkn ?_ _ | refine zkd ?_ | refine zka ?_ _)); exact BK123.out) hb); have n10_ := zA (zai (by repeat (first | (with_reducible first | exact HB.out | apply zba | apply zbn | apply zbd | refine zaa ?_ GE101.out | refine zaa ?_ GE123.out) | exact HB.out)) hb); clear HO106 HO109; clear HO112 HO115; clear HO119 HO122; clear HO126 BK101; clear BK123 HB; have HO106 := n0_; have HO109 := n1_; have HO112 := n2_; have HO115 := n3_; have HO119 := n4_; have HO122 := n5_; have HO126 := n6_; have HO129 := n7_; have BK101 := n8_; have BK123 := n9_; have HB := n10_; clear n0_ n1_ n2_ n3_ n4_ n5_ n6_ n7_ n8_ n9_ n10_; (try clear hb); (try clear hk); (try clear ho0)))
 (try simp only [Act.put, zla, zlb, zlc])
 go_cut [53] (fun v53 wc => ∃ (kq : Nat) (x53_19 : Bool), v53 = .bool x53_19 ∧ Aside0 (zah kq l1 t113 t116 t124 t127 t130 x53_19 l0_0 l0_1 t117 t120 = some r) ∧ Aside0 (kq ≤ k) ∧ Aside0 (Kd.R (Kd.int .i64) 3 wc w.heap.size (fun k_ => some k_ ≠ (v128 : Value).ownBlock ∧ some k_ ≠ ((.slice Ao38 t120.length co38) : Value).ownBlock) v114 t113) ∧ Aside0 (Kd.R k102 102 wc w.heap.size (fun _ => True) (.slice Ao41 t124.length co41) t124) ∧ Aside0 (Kd.R (Kd.int .i64) 3 wc w.heap.size (fun k_ => some k_ ≠ (v114 : Value).ownBlock ∧ some k_ ≠ ((.slice Ao38 t120.length co38) : Value).ownBlock) v128 t127) ∧ Aside0 (Kd.R Kd.string 9 wc w.heap.size (fun _ => True) (.slice Ao35 t117.length co35) t117) ∧ Aside0 (Kd.R (Kd.int .i64) 3 wc w.heap.size (fun k_ => some k_ ≠ (v114 : Value).ownBlock ∧ some k_ ≠ (v128 : Value).ownBlock) (.slice Ao38 t120.length co38) t120) ∧ Aside0 (wc.heap[gb101]? = some (.cells #[(.slice A0_0 l0_0.length c0_0), (.slice A0_1 l0_1.length c0_1)] 59 (0, 0))) ∧ Aside0 (wc.heap[gb123]? = some (.cells #[(.slice Ao35 t117.length co35), (.slice Ao38 t120.length co38)] 62 (0, 0))) ∧ Aside0 (Below w.heap.size w wc))
 case first =>
   have H := HC20.out
   clear HC20
   replace H := zob H
   obtain ⟨t131, A430, H⟩ := H
   replace H : (if t131 = true then (zah k l1 t113 t116 t124 t127 t130 (t130 != t116) l0_0 l0_1 t117 t120) else (zah k l1 t113 t116 t124 t127 t130 true l0_0 l0_1 t117 t120)) = some r := H
   have A43 := zA A430
   clear A430
   by_cases c44 : t131 = true
   · subst c44
     replace H : (zah k l1 t113 t116 t124 t127 t130 (t130 != t116) l0_0 l0_1 t117 t120) = some r := by rw [if_pos rfl] at H; exact H
     have H' := zA H
     clear H
     obtain ⟨Ao45, co45, eo45⟩ := Kd.R_slice HO129.out
     subst eo45
     obtain ⟨Ao46, co46, eo46⟩ := Kd.R_slice HO115.out
     subst eo46
     go_wp2_with (first | ((with_reducible refine zae (f := 38) rfl ?_); refine zaz (some 47) rfl rfl Try.func38 (by kernel_rfl) rfl #[.slice Ao45 t127.length co45, .slice Ao46 t113.length co46] rfl (by first | rfl | (simp only [zld, zle, zlf, zlg, zlh] <;> rfl)) ?_; (with_reducible refine (zd5 k _ _ t127 _ _ t113 true _ ?side1 ?side2 ?side3 ?side4 A43.out).mono ?_); (case side1 => repeat (first | exact (zRr HO129.out).2.2 | (with_reducible first | refine zCa ?_ _ | refine zCn ?_ _ | refine zCd ?_))); (case side2 => exact (zRr HO129.out).2.1); (case side3 => repeat (first | exact (zRr HO115.out).2.2 | (with_reducible first | refine zCa ?_ _ | refine zCn ?_ _ | refine zCd ?_))); (case side4 => exact (zRr HO115.out).2.1); rintro e w' ⟨rfl, ⟨nd, rfl⟩⟩; refine ⟨_, rfl, ?_⟩))
     go_meet
     case rel => exact ⟨_, ((t130 != t116)), (by first | rfl | (simp; done) | (simp [*]; done)), H', ⟨by first | omega | exact zlr _⟩, ⟨by (with_reducible repeat (first | apply zRa | apply zRn | apply zRd)); exact Kd.R_mono HO115.out (fun _ hk => ⟨hk.2, hk.1.2⟩)⟩, ⟨by (with_reducible repeat (first | apply zRa | apply zRn | apply zRd)); exact Kd.R_mono HO126.out (fun _ hk => trivial)⟩, ⟨by (with_reducible repeat (first | apply zRa | apply zRn | apply zRd)); exact Kd.R_mono HO129.out (fun _ hk => ⟨hk.1.2, hk.2⟩)⟩, ⟨by (with_reducible repeat (first | apply zRa | apply zRn | apply zRd)); exact Kd.R_mono HO119.out (fun _ hk => trivial)⟩, ⟨by (with_reducible repeat (first | apply zRa | apply zRn | apply zRd)); exact Kd.R_mono HO122.out (fun _ hk => ⟨hk.1.2, hk.2⟩)⟩, ⟨by (with_reducible repeat (first | refine zkn ?_ _ | refine zkd ?_ | refine zka ?_ _)); exact BK101.out⟩, ⟨by (with_reducible repeat (first | refine zkn ?_ _ | refine zkd ?_ | refine zka ?_ _)); exact BK123.out⟩, ⟨by repeat (first | (with_reducible first | exact HB.out | apply zba | apply zbn | apply zbd | refine zaa ?_ GE101.out | refine zaa ?_ GE123.out) | exact HB.out)⟩⟩
   replace c44 := zbf c44
   subst c44
   replace H : (zah k l1 t113 t116 t124 t127 t130 true l0_0 l0_1 t117 t120) = some r := by rw [if_neg (show ¬ (false = true) by decide)] at H; exact H
   have H' := zA H
   clear H
   obtain ⟨Ao47, co47, eo47⟩ := Kd.R_slice HO129.out
   subst eo47
   obtain ⟨Ao48, co48, eo48⟩ := Kd.R_slice HO115.out
   subst eo48
   go_wp2_with (first | ((with_reducible refine zae (f := 38) rfl ?_); refine zaz (some 47) rfl rfl Try.func38 (by kernel_rfl) rfl #[.slice Ao47 t127.length co47, .slice Ao48 t113.length co48] rfl (by first | rfl | (simp only [zld, zle, zlf, zlg, zlh] <;> rfl)) ?_; (with_reducible refine (zd5 k _ _ t127 _ _ t113 false _ ?side1 ?side2 ?side3 ?side4 A43.out).mono ?_); (case side1 => repeat (first | exact (zRr HO129.out).2.2 | (with_reducible first | refine zCa ?_ _ | refine zCn ?_ _ | refine zCd ?_))); (case side2 => exact (zRr HO129.out).2.1); (case side3 => repeat (first | exact (zRr HO115.out).2.2 | (with_reducible first | refine zCa ?_ _ | refine zCn ?_ _ | refine zCd ?_))); (case side4 => exact (zRr HO115.out).2.1); rintro e w' ⟨rfl, ⟨nd, rfl⟩⟩; refine ⟨_, rfl, ?_⟩))
   go_meet
   case rel => exact ⟨_, (true), (by first | rfl | (simp; done) | (simp [*]; done)), H', ⟨by first | omega | exact zlr _⟩, ⟨by (with_reducible repeat (first | apply zRa | apply zRn | apply zRd)); exact Kd.R_mono HO115.out (fun _ hk => ⟨hk.2, hk.1.2⟩)⟩, ⟨by (with_reducible repeat (first | apply zRa | apply zRn | apply zRd)); exact Kd.R_mono HO126.out (fun _ hk => trivial)⟩, ⟨by (with_reducible repeat (first | apply zRa | apply zRn | apply zRd)); exact Kd.R_mono HO129.out (fun _ hk => ⟨hk.1.2, hk.2⟩)⟩, ⟨by (with_reducible repeat (first | apply zRa | apply zRn | apply zRd)); exact Kd.R_mono HO119.out (fun _ hk => trivial)⟩, ⟨by (with_reducible repeat (first | apply zRa | apply zRn | apply zRd)); exact Kd.R_mono HO122.out (fun _ hk => ⟨hk.1.2, hk.2⟩)⟩, ⟨by (with_reducible repeat (first | refine zkn ?_ _ | refine zkd ?_ | refine zka ?_ _)); exact BK101.out⟩, ⟨by (with_reducible repeat (first | refine zkn ?_ _ | refine zkd ?_ | refine zka ?_ _)); exact BK123.out⟩, ⟨by repeat (first | (with_reducible first | exact HB.out | apply zba | apply zbn | apply zbd | refine zaa ?_ GE101.out | refine zaa ?_ GE123.out) | exact HB.out)⟩⟩
 clear HC20
 try clear c1
 try clear c2
 try clear p2
 try clear c3
 try clear c4
 try clear c4b0
 try clear c9
 try clear c9b0
 try clear c29
 try clear c31
 try clear c36
 try clear c38
 try clear c41
 try clear c43
 try clear c44
 try clear c46
 try clear c47
 try clear hcz11_0
 try clear hcz11_1
 try clear hcz22_0
 try clear hcz22_1
 try clear hcz25_0
 try clear hcz25_1
 try clear hcz32_0
 try clear hcz32_1
 try clear hcz37_0
 try clear hcz37_1
 try clear hcz40_0
 try clear hcz40_1
 try clear hcz6_0
 try clear hcz6_1
 try clear hfz11_0
 try clear hfz11_1
 try clear hfz22_0
 try clear hfz22_1
 try clear hfz25_0
 try clear hfz25_1
 try clear hfz32_0
 try clear hfz32_1
 try clear hfz37_0
 try clear hfz37_1
 try clear hfz40_0
 try clear hfz40_1
 try clear hfz6_0
 try clear hfz6_1
 obtain ⟨kq, x53_19, rfl, HA, HJ19, HO_6, HO_9, HO_10, HO_124000, HO_124001, BK101, BK123, HB⟩ := hcut
 cases kq with
 | zero => exact absurd HA.out (by simp [zah])
 | succ kj19 =>
 have H := HA.out
 clear HA
 simp only [zah] at H
 by_cases c49 : x53_19 = true
 · subst c49
   replace H : (some false) = some r := by rw [if_pos rfl] at H; exact H
   obtain rfl := zsi H
   go_wp2
   go_ret
   exact ⟨by first | rfl | (simp <;> rfl) | (simp [*] <;> rfl), by repeat (first | (with_reducible first | exact HB.out | apply zba | apply zbn | apply zbd | refine zaa ?_ GE101.out | refine zaa ?_ GE123.out) | exact HB.out)⟩
 replace c49 := zbf c49
 subst c49
 replace H : ((zbg kj19 l0_0 l0_1).bind fun bt132 => ((zec kj19 t117 t120 bt132.1 bt132.2).bind fun t138 => (if t138 = true then ((zax kj19 l1).bind fun t139 => ((zc8 kj19 t124 t139).bind fun t142 => (if t142 = true then ((zb0 kj19 t117 t120 1).bind fun bt143 => ((zbu kj19 t124 bt143.1).bind fun bt146 => (if bt146.1 < 0 then (zac kj19 l1 t113 t116 t127 true l0_0 l0_1) else ((zau kj19 t127 t113).bind fun t148 => (if t148 = true then (zac kj19 l1 t113 t116 t127 (t130 != t116) l0_0 l0_1) else (zac kj19 l1 t113 t116 t127 true l0_0 l0_1)))))) else (some false)))) else (some false)))) = some r := by rw [if_neg (show ¬ (false = true) by decide)] at H; exact H
 replace H := zob H
 obtain ⟨⟨t132, t135⟩, A500, H⟩ := H
 replace H : ((zec kj19 t117 t120 t132 t135).bind fun t138 => (if t138 = true then ((zax kj19 l1).bind fun t139 => ((zc8 kj19 t124 t139).bind fun t142 => (if t142 = true then ((zb0 kj19 t117 t120 1).bind fun bt143 => ((zbu kj19 t124 bt143.1).bind fun bt146 => (if bt146.1 < 0 then (zac kj19 l1 t113 t116 t127 true l0_0 l0_1) else ((zau kj19 t127 t113).bind fun t148 => (if t148 = true then (zac kj19 l1 t113 t116 t127 (t130 != t116) l0_0 l0_1) else (zac kj19 l1 t113 t116 t127 true l0_0 l0_1)))))) else (some false)))) else (some false))) = some r := H
 have A50 := zA A500
 clear A500
 replace H := zob H
 obtain ⟨t138, A510, H⟩ := H
 replace H : (if t138 = true then ((zax kj19 l1).bind fun t139 => ((zc8 kj19 t124 t139).bind fun t142 => (if t142 = true then ((zb0 kj19 t117 t120 1).bind fun bt143 => ((zbu kj19 t124 bt143.1).bind fun bt146 => (if bt146.1 < 0 then (zac kj19 l1 t113 t116 t127 true l0_0 l0_1) else ((zau kj19 t127 t113).bind fun t148 => (if t148 = true then (zac kj19 l1 t113 t116 t127 (t130 != t116) l0_0 l0_1) else (zac kj19 l1 t113 t116 t127 true l0_0 l0_1)))))) else (some false)))) else (some false)) = some r := H
 have A51 := zA A510
 clear A510
 by_cases c52 : t138 = true
 rotate_left
 · replace c52 := zbf c52
   subst c52
   replace H : (some false) = some r := by rw [if_neg (show ¬ (false = true) by decide)] at H; exact H
   obtain rfl := zsi H
   try go_wp2
   have n0_ := zA (zRd HO_6.out)
   have n1_ := zA (zRd HO_9.out)
   have n2_ := zA (zRd HO_10.out)
   have n3_ := zA (zRd HO_124000.out)
   have n4_ := zA (zRd HO_124001.out)
   have n5_ := zA (zkd BK101.out)
   have n6_ := zA (zkd BK123.out)
   have n7_ := zA (zbd HB.out)
   clear HO_6
   clear HO_9
   clear HO_10
   clear HO_124000
   clear HO_124001
   clear BK101
   clear BK123
   clear HB
   have HO_6 := n0_
   have HO_9 := n1_
   have HO_10 := n2_
   have HO_124000 := n3_
   have HO_124001 := n4_
   have BK101 := n5_
   have BK123 := n6_
   have HB := n7_
   clear n0_ n1_ n2_ n3_ n4_ n5_ n6_ n7_
   refine zkj (n := 5) (S := fun w' => w'.cell? ⟨gb123, 0, none⟩ = some (.slice Ao35 t117.length co35) ∧ w'.cell? ⟨gb123, 1, none⟩ = some (.slice Ao38 t120.length co38) ∧ w'.cell? ⟨gb101, 0, none⟩ = some (.slice A0_0 l0_0.length c0_0) ∧ w'.cell? ⟨gb101, 1, none⟩ = some (.slice A0_1 l0_1.length c0_1)) (ds := []) #[false, false, false, false, false] (by kernel_rfl) rfl rfl ⟨(zag BK123.out 0).trans rfl, (zag BK123.out 1).trans rfl, (zag BK101.out 0).trans rfl, (zag BK101.out 1).trans rfl⟩ (fun hHeld => ?_)
   generalize wc.drew = w119 at HO_6 HO_9 HO_10 HO_124000 HO_124001 BK101 BK123 HB hHeld ⊢
   refine take_ (i := 0) (N := some 54) (v := ?_) (a' := ?_) #[true, false, false, false, false] rfl rfl (by kernel_rfl) (fun _ _ _ h => h) (Or.inl ⟨by rfl, ?_⟩) hHeld ?_ ?_
   rotate_left
   · rintro w' ⟨s0, s1, s2, s3⟩
     go_simp
     with_reducible rfl
   rotate_left
   · simp only [Act.put, zla, zlb, zlc, zbl, zbr]
     rfl
   refine take_ (i := 1) (N := some 55) (v := ?_) (a' := ?_) #[true, true, false, false, false] rfl rfl (by kernel_rfl) (fun _ _ _ h => h) (Or.inl ⟨by rfl, ?_⟩) hHeld ?_ ?_
   rotate_left
   · rintro w' ⟨s0, s1, s2, s3⟩
     go_simp
     with_reducible rfl
   rotate_left
   · simp only [Act.put, zla, zlb, zlc, zbl, zbr]
     rfl
   refine one_ (i := 2) (N := some 56) #[true, true, true, false, false] rfl rfl (by kernel_rfl) (by decide) (fun K hK => ?_)
   refine zko Try.func43 (by kernel_rfl) rfl #[.agg #[.slice A0_0 l0_0.length c0_0, .slice A0_1 l0_1.length c0_1]] (by rfl) rfl rfl (by first | rfl | (simp only [zld, zle, zlf, zlg, zlh] <;> rfl)) ?_
   with_reducible refine (zeq kj19 _ _ l0_0 _ _ l0_1 t132 t135 _ ?side1 ?side2 ?side3 ?side4 A50.out).mono ?_
   (case side1 => repeat (first | exact (zCb HR0_0.out HB.out) | (with_reducible first | refine zCa ?_ _ | refine zCn ?_ _ | refine zCd ?_)))
   (case side2 => exact HC0_0.out)
   (case side3 => repeat (first | exact (zCb HR0_1.out HB.out) | (with_reducible first | refine zCa ?_ _ | refine zCn ?_ _ | refine zCd ?_)))
   (case side4 => exact HC0_1.out)
   rintro e w120 ⟨v133, v136, rfl, ho0, ho1, hb⟩
   refine ⟨_, rfl, ?_⟩
   have n0_ := zA (Kd.R_elder' (by (with_reducible repeat (first | apply zRa | apply zRn | apply zRd)); exact HO_6.out) (Kd.R_base ho1) hb)
   have n1_ := zA (zRb (by (with_reducible repeat (first | apply zRa | apply zRn | apply zRd)); exact HO_9.out) hb)
   have n2_ := zA (Kd.R_elder' (by (with_reducible repeat (first | apply zRa | apply zRn | apply zRd)); exact HO_10.out) (Kd.R_base ho1) hb)
   have n3_ := zA (Kd.R_elder' (by (with_reducible repeat (first | apply zRa | apply zRn | apply zRd)); exact HO_124000.out) (Kd.R_base ho0) hb)
   have n4_ := zA (Kd.R_elder' (by (with_reducible repeat (first | apply zRa | apply zRn | apply zRd)); exact HO_124001.out) (Kd.R_base ho1) hb)
   have n5_ := zA (Kd.R_lower (Kd.R_new' ho0 (Kd.R_lt (by (with_reducible repeat (first | apply zRa | apply zRn | apply zRd)); exact HO_124000.out))) (zaj (by repeat (first | (with_reducible first | exact HB.out | apply zba | apply zbn | apply zbd | refine zaa ?_ GE101.out | refine zaa ?_ GE123.out) | exact HB.out))))
   have n6_ := zA (Kd.R_lower (Kd.R_new' (Kd.R_new' (Kd.R_new' ho1 (Kd.R_lt (by (with_reducible repeat (first | apply zRa | apply zRn | apply zRd)); exact HO_6.out))) (Kd.R_lt (by (with_reducible repeat (first | apply zRa | apply zRn | apply zRd)); exact HO_10.out))) (Kd.R_lt (by (with_reducible repeat (first | apply zRa | apply zRn | apply zRd)); exact HO_124001.out))) (zaj (by repeat (first | (with_reducible first | exact HB.out | apply zba | apply zbn | apply zbd | refine zaa ?_ GE101.out | refine zaa ?_ GE123.out) | exact HB.out))))
   have n7_ := zA (zad (g := gb101) (o := .cells #[.slice A0_0 l0_0.length c0_0, .slice A0_1 l0_1.length c0_1] 59 (0, 0)) (by (with_reducible repeat (first | refine zkn ?_ _ | refine zkd ?_ | refine zka ?_ _)); exact BK101.out) hb)
   have n8_ := zA (zad (g := gb123) (o := .cells #[.slice Ao35 t117.length co35, .slice Ao38 t120.length co38] 62 (0, 0)) (by (with_reducible repeat (first | refine zkn ?_ _ | refine zkd ?_ | refine zka ?_ _)); exact BK123.out) hb)
   have n9_ := zA (zai (by repeat (first | (with_reducible first | exact HB.out | apply zba | apply zbn | apply zbd | refine zaa ?_ GE101.out | refine zaa ?_ GE123.out) | exact HB.out)) hb)
   clear HO_6
   clear HO_9
   clear HO_10
   clear HO_124000
   clear HO_124001
   clear BK101
   clear BK123
   clear HB
   have HO_6 := n0_
   have HO_9 := n1_
   have HO_10 := n2_
   have HO_124000 := n3_
   have HO_124001 := n4_
   have HO134 := n5_
   have HO137 := n6_
   have BK101 := n7_
   have BK123 := n8_
   have HB := n9_
   clear n0_ n1_ n2_ n3_ n4_ n5_ n6_ n7_ n8_ n9_
   (try clear hb)
   (try clear hb2)
   (try clear hk)
   (try clear hi)
   (try clear ho0)
   (try clear ho1)
   obtain ⟨Ao121, co121, eo121⟩ := Kd.R_slice HO134.out
   (first | subst eo121 | (injection eo121 with f1_ f2_ f3_; have f4_ := f1_.symm; have f5_ := f3_.symm; clear f1_ f2_ f3_; subst f4_; subst f5_))
   obtain ⟨Ao122, co122, eo122⟩ := Kd.R_slice HO137.out
   (first | subst eo122 | (injection eo122 with f1_ f2_ f3_; have f4_ := f1_.symm; have f5_ := f3_.symm; clear f1_ f2_ f3_; subst f4_; subst f5_))
   refine hK.out _ _ ⟨(zag BK123.out 0).trans rfl, (zag BK123.out 1).trans rfl, (zag BK101.out 0).trans rfl, (zag BK101.out 1).trans rfl⟩ (fun hHeld => ?_)
   clear hK K
   refine zkm (a' := ?_) ?_ ?_
   rotate_left
   · show Act.put _ (some 56) _ = _
     simp only [Act.put, zla, zlb, zlc, zbl, zbr]
     rfl
   refine one_ (i := 3) (N := some 57) #[true, true, true, true, false] rfl rfl (by kernel_rfl) (by decide) (fun K hK => ?_)
   refine zko Try.func45 (by kernel_rfl) rfl #[.agg #[.slice Ao35 t117.length co35, .slice Ao38 t120.length co38], .agg #[.slice Ao121 t132.length co121, .slice Ao122 t135.length co122]] (by rfl) rfl rfl (by first | rfl | (simp only [zld, zle, zlf, zlg, zlh] <;> rfl)) ?_
   with_reducible refine (zg3 kj19 _ _ t117 _ _ t120 _ _ t132 _ _ t135 false _ ?side1 ?side2 ?side3 ?side4 ?side5 ?side6 ?side7 ?side8 A51.out).mono ?_
   (case side1 => repeat (first | exact (zRr HO_124000.out).2.2 | (with_reducible first | refine zCa ?_ _ | refine zCn ?_ _ | refine zCd ?_)))
   (case side2 => exact (zRr HO_124000.out).2.1)
   (case side3 => repeat (first | exact (zRr HO_124001.out).2.2 | (with_reducible first | refine zCa ?_ _ | refine zCn ?_ _ | refine zCd ?_)))
   (case side4 => exact (zRr HO_124001.out).2.1)
   (case side5 => repeat (first | exact (zRr HO134.out).2.2 | (with_reducible first | refine zCa ?_ _ | refine zCn ?_ _ | refine zCd ?_)))
   (case side6 => exact (zRr HO134.out).2.1)
   (case side7 => repeat (first | exact (zRr HO137.out).2.2 | (with_reducible first | refine zCa ?_ _ | refine zCn ?_ _ | refine zCd ?_)))
   (case side8 => exact (zRr HO137.out).2.1)
   rintro e w123 ⟨rfl, hb⟩
   refine ⟨_, rfl, ?_⟩
   have n0_ := zA (zRb (by (with_reducible repeat (first | apply zRa | apply zRn | apply zRd)); exact HO_6.out) hb)
   have n1_ := zA (zRb (by (with_reducible repeat (first | apply zRa | apply zRn | apply zRd)); exact HO_9.out) hb)
   have n2_ := zA (zRb (by (with_reducible repeat (first | apply zRa | apply zRn | apply zRd)); exact HO_10.out) hb)
   have n3_ := zA (zRb (by (with_reducible repeat (first | apply zRa | apply zRn | apply zRd)); exact HO_124000.out) hb)
   have n4_ := zA (zRb (by (with_reducible repeat (first | apply zRa | apply zRn | apply zRd)); exact HO_124001.out) hb)
   have n5_ := zA (zRb (by (with_reducible repeat (first | apply zRa | apply zRn | apply zRd)); exact HO134.out) hb)
   have n6_ := zA (zRb (by (with_reducible repeat (first | apply zRa | apply zRn | apply zRd)); exact HO137.out) hb)
   have n7_ := zA (zad (g := gb101) (o := .cells #[.slice A0_0 l0_0.length c0_0, .slice A0_1 l0_1.length c0_1] 59 (0, 0)) (by (with_reducible repeat (first | refine zkn ?_ _ | refine zkd ?_ | refine zka ?_ _)); exact BK101.out) hb)
   have n8_ := zA (zad (g := gb123) (o := .cells #[.slice Ao35 t117.length co35, .slice Ao38 t120.length co38] 62 (0, 0)) (by (with_reducible repeat (first | refine zkn ?_ _ | refine zkd ?_ | refine zka ?_ _)); exact BK123.out) hb)
   have n9_ := zA (zai (by repeat (first | (with_reducible first | exact HB.out | apply zba | apply zbn | apply zbd | refine zaa ?_ GE101.out | refine zaa ?_ GE123.out) | exact HB.out)) hb)
   clear HO_6
   clear HO_9
   clear HO_10
   clear HO_124000
   clear HO_124001
   clear HO134
   clear HO137
   clear BK101
   clear BK123
   clear HB
   have HO_6 := n0_
   have HO_9 := n1_
   have HO_10 := n2_
   have HO_124000 := n3_
   have HO_124001 := n4_
   have HO134 := n5_
   have HO137 := n6_
   have BK101 := n7_
   have BK123 := n8_
   have HB := n9_
   clear n0_ n1_ n2_ n3_ n4_ n5_ n6_ n7_ n8_ n9_
   (try clear hb)
   (try clear hb2)
   (try clear hk)
   (try clear hi)
   refine hK.out _ _ ⟨(zag BK123.out 0).trans rfl, (zag BK123.out 1).trans rfl, (zag BK101.out 0).trans rfl, (zag BK101.out 1).trans rfl⟩ (fun hHeld => ?_)
   clear hK K
   refine zkm (a' := ?_) ?_ ?_
   rotate_left
   · show Act.put _ (some 57) _ = _
     simp only [Act.put, zla, zlb, zlc, zbl, zbr]
     rfl
   refine zd8 (i := 4) (N := some 58) (v := ?_) (a' := ?_) #[true, true, true, true, true] rfl rfl (by kernel_rfl) (fun _ _ _ h => h) (Or.inl ⟨by rfl, ?_⟩) ?_ ?_
   rotate_left
   · intro w'
     go_simp
     with_reducible rfl
   rotate_left
   · simp only [Act.put, zla, zlb, zlc, zbl, zbr]
     rfl
   refine zm5 (by kernel_rfl) ?_
   try go_wp2
   go_ret
   exact ⟨by first | rfl | (simp <;> rfl) | (simp [*] <;> rfl), by repeat (first | (with_reducible first | exact HB.out | apply zba | apply zbn | apply zbd | refine zaa ?_ GE101.out | refine zaa ?_ GE123.out) | exact HB.out)⟩
 subst c52
 replace H : ((zax kj19 l1).bind fun t139 => ((zc8 kj19 t124 t139).bind fun t142 => (if t142 = true then ((zb0 kj19 t117 t120 1).bind fun bt143 => ((zbu kj19 t124 bt143.1).bind fun bt146 => (if bt146.1 < 0 then (zac kj19 l1 t113 t116 t127 true l0_0 l0_1) else ((zau kj19 t127 t113).bind fun t148 => (if t148 = true then (zac kj19 l1 t113 t116 t127 (t130 != t116) l0_0 l0_1) else (zac kj19 l1 t113 t116 t127 true l0_0 l0_1)))))) else (some false)))) = some r := by rw [if_pos rfl] at H; exact H
 replace H := zob H
 obtain ⟨t139, A530, H⟩ := H
 replace H : ((zc8 kj19 t124 t139).bind fun t142 => (if t142 = true then ((zb0 kj19 t117 t120 1).bind fun bt143 => ((zbu kj19 t124 bt143.1).bind fun bt146 => (if bt146.1 < 0 then (zac kj19 l1 t113 t116 t127 true l0_0 l0_1) else ((zau kj19 t127 t113).bind fun t148 => (if t148 = true then (zac kj19 l1 t113 t116 t127 (t130 != t116) l0_0 l0_1) else (zac kj19 l1 t113 t116 t127 true l0_0 l0_1)))))) else (some false))) = some r := H
 have A53 := zA A530
 clear A530
 replace H := zob H
 obtain ⟨t142, A540, H⟩ := H
 replace H : (if t142 = true then ((zb0 kj19 t117 t120 1).bind fun bt143 => ((zbu kj19 t124 bt143.1).bind fun bt146 => (if bt146.1 < 0 then (zac kj19 l1 t113 t116 t127 true l0_0 l0_1) else ((zau kj19 t127 t113).bind fun t148 => (if t148 = true then (zac kj19 l1 t113 t116 t127 (t130 != t116) l0_0 l0_1) else (zac kj19 l1 t113 t116 t127 true l0_0 l0_1)))))) else (some false)) = some r := H
 have A54 := zA A540
 clear A540
 by_cases c55 : t142 = true
 rotate_left
 · replace c55 := zbf c55
   subst c55
   replace H : (some false) = some r := by rw [if_neg (show ¬ (false = true) by decide)] at H; exact H
   obtain rfl := zsi H
   try go_wp2
   have n0_ := zA (zRd HO_6.out)
   have n1_ := zA (zRd HO_9.out)
   have n2_ := zA (zRd HO_10.out)
   have n3_ := zA (zRd HO_124000.out)
   have n4_ := zA (zRd HO_124001.out)
   have n5_ := zA (zkd BK101.out)
   have n6_ := zA (zkd BK123.out)
   have n7_ := zA (zbd HB.out)
   clear HO_6
   clear HO_9
   clear HO_10
   clear HO_124000
   clear HO_124001
   clear BK101
   clear BK123
   clear HB
   have HO_6 := n0_
   have HO_9 := n1_
   have HO_10 := n2_
   have HO_124000 := n3_
   have HO_124001 := n4_
   have BK101 := n5_
   have BK123 := n6_
   have HB := n7_
   clear n0_ n1_ n2_ n3_ n4_ n5_ n6_ n7_
   refine zkj (n := 5) (S := fun w' => w'.cell? ⟨gb123, 0, none⟩ = some (.slice Ao35 t117.length co35) ∧ w'.cell? ⟨gb123, 1, none⟩ = some (.slice Ao38 t120.length co38) ∧ w'.cell? ⟨gb101, 0, none⟩ = some (.slice A0_0 l0_0.length c0_0) ∧ w'.cell? ⟨gb101, 1, none⟩ = some (.slice A0_1 l0_1.length c0_1)) (ds := []) #[false, false, false, false, false] (by kernel_rfl) rfl rfl ⟨(zag BK123.out 0).trans rfl, (zag BK123.out 1).trans rfl, (zag BK101.out 0).trans rfl, (zag BK101.out 1).trans rfl⟩ (fun hHeld => ?_)
   generalize wc.drew = w111 at HO_6 HO_9 HO_10 HO_124000 HO_124001 BK101 BK123 HB hHeld ⊢
   refine take_ (i := 0) (N := some 54) (v := ?_) (a' := ?_) #[true, false, false, false, false] rfl rfl (by kernel_rfl) (fun _ _ _ h => h) (Or.inl ⟨by rfl, ?_⟩) hHeld ?_ ?_
   rotate_left
   · rintro w' ⟨s0, s1, s2, s3⟩
     go_simp
     with_reducible rfl
   rotate_left
   · simp only [Act.put, zla, zlb, zlc, zbl, zbr]
     rfl
   refine take_ (i := 1) (N := some 55) (v := ?_) (a' := ?_) #[true, true, false, false, false] rfl rfl (by kernel_rfl) (fun _ _ _ h => h) (Or.inl ⟨by rfl, ?_⟩) hHeld ?_ ?_
   rotate_left
   · rintro w' ⟨s0, s1, s2, s3⟩
     go_simp
     with_reducible rfl
   rotate_left
   · simp only [Act.put, zla, zlb, zlc, zbl, zbr]
     rfl
   refine one_ (i := 2) (N := some 56) #[true, true, true, false, false] rfl rfl (by kernel_rfl) (by decide) (fun K hK => ?_)
   refine zko Try.func43 (by kernel_rfl) rfl #[.agg #[.slice A0_0 l0_0.length c0_0, .slice A0_1 l0_1.length c0_1]] (by rfl) rfl rfl (by first | rfl | (simp only [zld, zle, zlf, zlg, zlh] <;> rfl)) ?_
   with_reducible refine (zeq kj19 _ _ l0_0 _ _ l0_1 t132 t135 _ ?side1 ?side2 ?side3 ?side4 A50.out).mono ?_
   (case side1 => repeat (first | exact (zCb HR0_0.out HB.out) | (with_reducible first | refine zCa ?_ _ | refine zCn ?_ _ | refine zCd ?_)))
   (case side2 => exact HC0_0.out)
   (case side3 => repeat (first | exact (zCb HR0_1.out HB.out) | (with_reducible first | refine zCa ?_ _ | refine zCn ?_ _ | refine zCd ?_)))
   (case side4 => exact HC0_1.out)
   rintro e w112 ⟨v133, v136, rfl, ho0, ho1, hb⟩
   refine ⟨_, rfl, ?_⟩
   have n0_ := zA (Kd.R_elder' (by (with_reducible repeat (first | apply zRa | apply zRn | apply zRd)); exact HO_6.out) (Kd.R_base ho1) hb)
   have n1_ := zA (zRb (by (with_reducible repeat (first | apply zRa | apply zRn | apply zRd)); exact HO_9.out) hb)
   have n2_ := zA (Kd.R_elder' (by (with_reducible repeat (first | apply zRa | apply zRn | apply zRd)); exact HO_10.out) (Kd.R_base ho1) hb)
   have n3_ := zA (Kd.R_elder' (by (with_reducible repeat (first | apply zRa | apply zRn | apply zRd)); exact HO_124000.out) (Kd.R_base ho0) hb)
   have n4_ := zA (Kd.R_elder' (by (with_reducible repeat (first | apply zRa | apply zRn | apply zRd)); exact HO_124001.out) (Kd.R_base ho1) hb)
   have n5_ := zA (Kd.R_lower (Kd.R_new' ho0 (Kd.R_lt (by (with_reducible repeat (first | apply zRa | apply zRn | apply zRd)); exact HO_124000.out))) (zaj (by repeat (first | (with_reducible first | exact HB.out | apply zba | apply zbn | apply zbd | refine zaa ?_ GE101.out | refine zaa ?_ GE123.out) | exact HB.out))))
   have n6_ := zA (Kd.R_lower (Kd.R_new' (Kd.R_new' (Kd.R_new' ho1 (Kd.R_lt (by (with_reducible repeat (first | apply zRa | apply zRn | apply zRd)); exact HO_6.out))) (Kd.R_lt (by (with_reducible repeat (first | apply zRa | apply zRn | apply zRd)); exact HO_10.out))) (Kd.R_lt (by (with_reducible repeat (first | apply zRa | apply zRn | apply zRd)); exact HO_124001.out))) (zaj (by repeat (first | (with_reducible first | exact HB.out | apply zba | apply zbn | apply zbd | refine zaa ?_ GE101.out | refine zaa ?_ GE123.out) | exact HB.out))))
   have n7_ := zA (zad (g := gb101) (o := .cells #[.slice A0_0 l0_0.length c0_0, .slice A0_1 l0_1.length c0_1] 59 (0, 0)) (by (with_reducible repeat (first | refine zkn ?_ _ | refine zkd ?_ | refine zka ?_ _)); exact BK101.out) hb)
   have n8_ := zA (zad (g := gb123) (o := .cells #[.slice Ao35 t117.length co35, .slice Ao38 t120.length co38] 62 (0, 0)) (by (with_reducible repeat (first | refine zkn ?_ _ | refine zkd ?_ | refine zka ?_ _)); exact BK123.out) hb)
   have n9_ := zA (zai (by repeat (first | (with_reducible first | exact HB.out | apply zba | apply zbn | apply zbd | refine zaa ?_ GE101.out | refine zaa ?_ GE123.out) | exact HB.out)) hb)
   clear HO_6
   clear HO_9
   clear HO_10
   clear HO_124000
   clear HO_124001
   clear BK101
   clear BK123
   clear HB
   have HO_6 := n0_
   have HO_9 := n1_
   have HO_10 := n2_
   have HO_124000 := n3_
   have HO_124001 := n4_
   have HO134 := n5_
   have HO137 := n6_
   have BK101 := n7_
   have BK123 := n8_
   have HB := n9_
   clear n0_ n1_ n2_ n3_ n4_ n5_ n6_ n7_ n8_ n9_
   (try clear hb)
   (try clear hb2)
   (try clear hk)
   (try clear hi)
   (try clear ho0)
   (try clear ho1)
   obtain ⟨Ao113, co113, eo113⟩ := Kd.R_slice HO134.out
   (first | subst eo113 | (injection eo113 with f1_ f2_ f3_; have f4_ := f1_.symm; have f5_ := f3_.symm; clear f1_ f2_ f3_; subst f4_; subst f5_))
   obtain ⟨Ao114, co114, eo114⟩ := Kd.R_slice HO137.out
   (first | subst eo114 | (injection eo114 with f1_ f2_ f3_; have f4_ := f1_.symm; have f5_ := f3_.symm; clear f1_ f2_ f3_; subst f4_; subst f5_))
   refine hK.out _ _ ⟨(zag BK123.out 0).trans rfl, (zag BK123.out 1).trans rfl, (zag BK101.out 0).trans rfl, (zag BK101.out 1).trans rfl⟩ (fun hHeld => ?_)
   clear hK K
   refine zkm (a' := ?_) ?_ ?_
   rotate_left
   · show Act.put _ (some 56) _ = _
     simp only [Act.put, zla, zlb, zlc, zbl, zbr]
     rfl
   refine one_ (i := 3) (N := some 57) #[true, true, true, true, false] rfl rfl (by kernel_rfl) (by decide) (fun K hK => ?_)
   refine zko Try.func45 (by kernel_rfl) rfl #[.agg #[.slice Ao35 t117.length co35, .slice Ao38 t120.length co38], .agg #[.slice Ao113 t132.length co113, .slice Ao114 t135.length co114]] (by rfl) rfl rfl (by first | rfl | (simp only [zld, zle, zlf, zlg, zlh] <;> rfl)) ?_
   with_reducible refine (zg3 kj19 _ _ t117 _ _ t120 _ _ t132 _ _ t135 true _ ?side1 ?side2 ?side3 ?side4 ?side5 ?side6 ?side7 ?side8 A51.out).mono ?_
   (case side1 => repeat (first | exact (zRr HO_124000.out).2.2 | (with_reducible first | refine zCa ?_ _ | refine zCn ?_ _ | refine zCd ?_)))
   (case side2 => exact (zRr HO_124000.out).2.1)
   (case side3 => repeat (first | exact (zRr HO_124001.out).2.2 | (with_reducible first | refine zCa ?_ _ | refine zCn ?_ _ | refine zCd ?_)))
   (case side4 => exact (zRr HO_124001.out).2.1)
   (case side5 => repeat (first | exact (zRr HO134.out).2.2 | (with_reducible first | refine zCa ?_ _ | refine zCn ?_ _ | refine zCd ?_)))
   (case side6 => exact (zRr HO134.out).2.1)
   (case side7 => repeat (first | exact (zRr HO137.out).2.2 | (with_reducible first | refine zCa ?_ _ | refine zCn ?_ _ | refine zCd ?_)))
   (case side8 => exact (zRr HO137.out).2.1)
   rintro e w115 ⟨rfl, hb⟩
   refine ⟨_, rfl, ?_⟩
   have n0_ := zA (zRb (by (with_reducible repeat (first | apply zRa | apply zRn | apply zRd)); exact HO_6.out) hb)
   have n1_ := zA (zRb (by (with_reducible repeat (first | apply zRa | apply zRn | apply zRd)); exact HO_9.out) hb)
   have n2_ := zA (zRb (by (with_reducible repeat (first | apply zRa | apply zRn | apply zRd)); exact HO_10.out) hb)
   have n3_ := zA (zRb (by (with_reducible repeat (first | apply zRa | apply zRn | apply zRd)); exact HO_124000.out) hb)
   have n4_ := zA (zRb (by (with_reducible repeat (first | apply zRa | apply zRn | apply zRd)); exact HO_124001.out) hb)
   have n5_ := zA (zRb (by (with_reducible repeat (first | apply zRa | apply zRn | apply zRd)); exact HO134.out) hb)
   have n6_ := zA (zRb (by (with_reducible repeat (first | apply zRa | apply zRn | apply zRd)); exact HO137.out) hb)
   have n7_ := zA (zad (g := gb101) (o := .cells #[.slice A0_0 l0_0.length c0_0, .slice A0_1 l0_1.length c0_1] 59 (0, 0)) (by (with_reducible repeat (first | refine zkn ?_ _ | refine zkd ?_ | refine zka ?_ _)); exact BK101.out) hb)
   have n8_ := zA (zad (g := gb123) (o := .cells #[.slice Ao35 t117.length co35, .slice Ao38 t120.length co38] 62 (0, 0)) (by (with_reducible repeat (first | refine zkn ?_ _ | refine zkd ?_ | refine zka ?_ _)); exact BK123.out) hb)
   have n9_ := zA (zai (by repeat (first | (with_reducible first | exact HB.out | apply zba | apply zbn | apply zbd | refine zaa ?_ GE101.out | refine zaa ?_ GE123.out) | exact HB.out)) hb)
   clear HO_6
   clear HO_9
   clear HO_10
   clear HO_124000
   clear HO_124001
   clear HO134
   clear HO137
   clear BK101
   clear BK123
   clear HB
   have HO_6 := n0_
   have HO_9 := n1_
   have HO_10 := n2_
   have HO_124000 := n3_
   have HO_124001 := n4_
   have HO134 := n5_
   have HO137 := n6_
   have BK101 := n7_
   have BK123 := n8_
   have HB := n9_
   clear n0_ n1_ n2_ n3_ n4_ n5_ n6_ n7_ n8_ n9_
   (try clear hb)
   (try clear hb2)
   (try clear hk)
   (try clear hi)
   refine hK.out _ _ ⟨(zag BK123.out 0).trans rfl, (zag BK123.out 1).trans rfl, (zag BK101.out 0).trans rfl, (zag BK101.out 1).trans rfl⟩ (fun hHeld => ?_)
   clear hK K
   refine zkm (a' := ?_) ?_ ?_
   rotate_left
   · show Act.put _ (some 57) _ = _
     simp only [Act.put, zla, zlb, zlc, zbl, zbr]
     rfl
   refine zd8 (i := 4) (N := some 58) (v := ?_) (a' := ?_) #[true, true, true, true, true] rfl rfl (by kernel_rfl) (fun _ _ _ h => h) (Or.inl ⟨by rfl, ?_⟩) ?_ ?_
   rotate_left
   · intro w'
     go_simp
     with_reducible rfl
   rotate_left
   · simp only [Act.put, zla, zlb, zlc, zbl, zbr]
     rfl
   refine zm5 (by kernel_rfl) ?_
   try go_wp2_with (first | ((with_reducible refine zae (f := 31) rfl ?_); refine zaz (some 61) rfl rfl Try.func31 (by kernel_rfl) rfl #[.slice A1 l1.length c1] rfl (by first | rfl | (simp only [zld, zle, zlf, zlg, zlh] <;> rfl)) ?_; (with_reducible refine (ze6 kj19 _ _ l1 t139 _ ?side1 ?side2 A53.out).mono ?_); (case side1 => repeat (first | exact (zCb HR1.out HB.out) | (with_reducible first | refine zCa ?_ _ | refine zCn ?_ _ | refine zCd ?_))); (case side2 => exact HC1.out); rintro e w116 ⟨v140, rfl, ho0, hb⟩; refine ⟨_, rfl, ?_⟩; have n0_ := zA (zRb (by (with_reducible repeat (first | apply zRa | apply zRn | apply zRd)); exact HO_6.out) hb); have n1_ := zA (Kd.R_elder' (by (with_reducible repeat (first | apply zRa | apply zRn | apply zRd)); exact HO_9.out) (Kd.R_base ho0) hb); have n2_ := zA (zRb (by (with_reducible repeat (first | apply zRa | apply zRn | apply zRd)); exact HO_10.out) hb); have n3_ := zA (zRb (by (with_reducible repeat (first | apply zRa | apply zRn | apply zRd)); exact HO_124000.out) hb); have n4_ := zA (zRb (by (with_reducible repeat (first | apply zRa | apply zRn | apply zRd)); exact HO_124001.out) hb); have n5_ := zA (zRb (by (with_reducible repeat (first | apply zRa | apply zRn | apply zRd)); exact HO134.out) hb); have n6_ := zA (zRb (by (with_reducible repeat (first | apply zRa | apply zRn | apply zRd)); exact HO137.out) hb); have n7_ := zA (Kd.R_lower (Kd.R_new' ho0 (Kd.R_lt (by (with_reducible repeat (first | apply zRa | apply zRn | apply zRd)); exact HO_9.out))) (zaj (by repeat (first | (with_reducible first | exact HB.out | apply zba | apply zbn | apply zbd | refine zaa ?_ GE101.out | refine zaa ?_ GE123.out) | exact HB.out)))); have n8_ := zA (zad (g := gb101) (o := .cells #[.slice A0_0 l0_0.length c0_0, .slice A0_1 l0_1.length c0_1] 59 (0, 0)) (by (with_reducible repeat (first | refine zkn ?_ _ | refine zkd ?_ | refine zka ?_ _)); exact BK101.out) hb); have n9_ := zA (zad (g := gb123) (o := .cells #[.slice Ao35 t117.length co35, .slice Ao38 t120.length co38] 62 (0, 0)) (by (with_reducible repeat (first | refine zkn ?_ _ | refine zkd ?_ | refine zka ?_ _)); exact BK123.out) hb); have n10_ := zA (zai (by repeat (first | (with_reducible first | exact HB.out | apply zba | apply zbn | apply zbd | refine zaa ?_ GE101.out | refine zaa ?_ GE123.out) | exact HB.out)) hb); clear HO_6 HO_9; clear HO_10 HO_124000; clear HO_124001 HO134; clear HO137 BK101; clear BK123 HB; have HO_6 := n0_; have HO_9 := n1_; have HO_10 := n2_; have HO_124000 := n3_; have HO_124001 := n4_; have HO134 := n5_; have HO137 := n6_; have HO141 := n7_; have BK101 := n8_; have BK123 := n9_; have HB := n10_; clear n0_ n1_ n2_ n3_ n4_ n5_ n6_ n7_ n8_ n9_ n10_; (try clear hb); (try clear ho0); obtain ⟨Ao117, co117, eo117⟩ := Kd.R_slice HO141.out; subst eo117) | ((with_reducible refine zae (f := 33) rfl ?_); refine zaz (some 62) rfl rfl Try.func33 (by kernel_rfl) rfl #[.slice Ao41 t124.length co41, .slice Ao117 t139.length co117] rfl (by first | rfl | (simp only [zld, zle, zlf, zlg, zlh] <;> rfl)) ?_; (with_reducible refine (ziq kj19 _ _ t124 _ _ t139 false _ ?side1 ?side2 ?side3 ?side4 A54.out).mono ?_); (case side1 => repeat (first | exact (zRr HO_9.out).2.2 | (with_reducible first | refine zCa ?_ _ | refine zCn ?_ _ | refine zCd ?_))); (case side2 => exact (zRr HO_9.out).2.1); (case side3 => repeat (first | exact (zRr HO141.out).2.2 | (with_reducible first | refine zCa ?_ _ | refine zCn ?_ _ | refine zCd ?_))); (case side4 => exact (zRr HO141.out).2.1); rintro e w118 ⟨rfl, hb⟩; refine ⟨_, rfl, ?_⟩; have n0_ := zA (zRb (by (with_reducible repeat (first | apply zRa | apply zRn | apply zRd)); exact HO_6.out) hb); have n1_ := zA (zRb (by (with_reducible repeat (first | apply zRa | apply zRn | apply zRd)); exact HO_9.out) hb); have n2_ := zA (zRb (by (with_reducible repeat (first | apply zRa | apply zRn | apply zRd)); exact HO_10.out) hb); have n3_ := zA (zRb (by (with_reducible repeat (first | apply zRa | apply zRn | apply zRd)); exact HO_124000.out) hb); have n4_ := zA (zRb (by (with_reducible repeat (first | apply zRa | apply zRn | apply zRd)); exact HO_124001.out) hb); have n5_ := zA (zRb (by (with_reducible repeat (first | apply zRa | apply zRn | apply zRd)); exact HO134.out) hb); have n6_ := zA (zRb (by (with_reducible repeat (first | apply zRa | apply zRn | apply zRd)); exact HO137.out) hb); have n7_ := zA (zRb (by (with_reducible repeat (first | apply zRa | apply zRn | apply zRd)); exact HO141.out) hb); have n8_ := zA (zad (g := gb101) (o := .cells #[.slice A0_0 l0_0.length c0_0, .slice A0_1 l0_1.length c0_1] 59 (0, 0)) (by (with_reducible repeat (first | refine zkn ?_ _ | refine zkd ?_ | refine zka ?_ _)); exact BK101.out) hb); have n9_ := zA (zad (g := gb123) (o := .cells #[.slice Ao35 t117.length co35, .slice Ao38 t120.length co38] 62 (0, 0)) (by (with_reducible repeat (first | refine zkn ?_ _ | refine zkd ?_ | refine zka ?_ _)); exact BK123.out) hb); have n10_ := zA (zai (by repeat (first | (with_reducible first | exact HB.out | apply zba | apply zbn | apply zbd | refine zaa ?_ GE101.out | refine zaa ?_ GE123.out) | exact HB.out)) hb); clear HO_6 HO_9; clear HO_10 HO_124000; clear HO_124001 HO134; clear HO137 HO141; clear BK101 BK123 HB; have HO_6 := n0_; have HO_9 := n1_; have HO_10 := n2_; have HO_124000 := n3_; have HO_124001 := n4_; have HO134 := n5_; have HO137 := n6_; have HO141 := n7_; have BK101 := n8_; have BK123 := n9_; have HB := n10_; clear n0_ n1_ n2_ n3_ n4_ n5_ n6_ n7_ n8_ n9_ n10_; (try clear hb)))
   go_ret
   exact ⟨by first | rfl | (simp <;> rfl) | (simp [*] <;> rfl), by repeat (first | (with_reducible first | exact HB.out | apply zba | apply zbn | apply zbd | refine zaa ?_ GE101.out | refine zaa ?_ GE123.out) | exact HB.out)⟩
 subst c55
 replace H : ((zb0 kj19 t117 t120 1).bind fun bt143 => ((zbu kj19 t124 bt143.1).bind fun bt146 => (if bt146.1 < 0 then (zac kj19 l1 t113 t116 t127 true l0_0 l0_1) else ((zau kj19 t127 t113).bind fun t148 => (if t148 = true then (zac kj19 l1 t113 t116 t127 (t130 != t116) l0_0 l0_1) else (zac kj19 l1 t113 t116 t127 true l0_0 l0_1)))))) = some r := by rw [if_pos rfl] at H; exact H
 replace H := zob H
 obtain ⟨⟨t143, t144, t145⟩, A560, H⟩ := H
 replace H : ((zbu kj19 t124 t143).bind fun bt146 => (if bt146.1 < 0 then (zac kj19 l1 t113 t116 t127 true l0_0 l0_1) else ((zau kj19 t127 t113).bind fun t148 => (if t148 = true then (zac kj19 l1 t113 t116 t127 (t130 != t116) l0_0 l0_1) else (zac kj19 l1 t113 t116 t127 true l0_0 l0_1))))) = some r := H
 have A56 := zA A560
 clear A560
 replace H := zob H
 obtain ⟨⟨t146, t147⟩, A570, H⟩ := H
 replace H : (if t146 < 0 then (zac kj19 l1 t113 t116 t127 true l0_0 l0_1) else ((zau kj19 t127 t113).bind fun t148 => (if t148 = true then (zac kj19 l1 t113 t116 t127 (t130 != t116) l0_0 l0_1) else (zac kj19 l1 t113 t116 t127 true l0_0 l0_1)))) = some r := H
 have A57 := zA A570
 clear A570
 have HC58 := zA H
 clear H
 try go_wp2
 have n0_ := zA (zRd HO_6.out)
 have n1_ := zA (zRd HO_9.out)
 have n2_ := zA (zRd HO_10.out)
 have n3_ := zA (zRd HO_124000.out)
 have n4_ := zA (zRd HO_124001.out)
 have n5_ := zA (zkd BK101.out)
 have n6_ := zA (zkd BK123.out)
 have n7_ := zA (zbd HB.out)
 clear HO_6
 clear HO_9
 clear HO_10
 clear HO_124000
 clear HO_124001
 clear BK101
 clear BK123
 clear HB
 have HO_6 := n0_
 have HO_9 := n1_
 have HO_10 := n2_
 have HO_124000 := n3_
 have HO_124001 := n4_
 have BK101 := n5_
 have BK123 := n6_
 have HB := n7_
 clear n0_ n1_ n2_ n3_ n4_ n5_ n6_ n7_
 refine zkj (n := 5) (S := fun w' => w'.cell? ⟨gb123, 0, none⟩ = some (.slice Ao35 t117.length co35) ∧ w'.cell? ⟨gb123, 1, none⟩ = some (.slice Ao38 t120.length co38) ∧ w'.cell? ⟨gb101, 0, none⟩ = some (.slice A0_0 l0_0.length c0_0) ∧ w'.cell? ⟨gb101, 1, none⟩ = some (.slice A0_1 l0_1.length c0_1)) (ds := []) #[false, false, false, false, false] (by kernel_rfl) rfl rfl ⟨(zag BK123.out 0).trans rfl, (zag BK123.out 1).trans rfl, (zag BK101.out 0).trans rfl, (zag BK101.out 1).trans rfl⟩ (fun hHeld => ?_)
 generalize wc.drew = w59 at HO_6 HO_9 HO_10 HO_124000 HO_124001 BK101 BK123 HB hHeld ⊢
 refine take_ (i := 0) (N := some 54) (v := ?_) (a' := ?_) #[true, false, false, false, false] rfl rfl (by kernel_rfl) (fun _ _ _ h => h) (Or.inl ⟨by rfl, ?_⟩) hHeld ?_ ?_
 rotate_left
 · rintro w' ⟨s0, s1, s2, s3⟩
   go_simp
   with_reducible rfl
 rotate_left
 · simp only [Act.put, zla, zlb, zlc, zbl, zbr]
   rfl
 refine take_ (i := 1) (N := some 55) (v := ?_) (a' := ?_) #[true, true, false, false, false] rfl rfl (by kernel_rfl) (fun _ _ _ h => h) (Or.inl ⟨by rfl, ?_⟩) hHeld ?_ ?_
 rotate_left
 · rintro w' ⟨s0, s1, s2, s3⟩
   go_simp
   with_reducible rfl
 rotate_left
 · simp only [Act.put, zla, zlb, zlc, zbl, zbr]
   rfl
 refine one_ (i := 2) (N := some 56) #[true, true, true, false, false] rfl rfl (by kernel_rfl) (by decide) (fun K hK => ?_)
 refine zko Try.func43 (by kernel_rfl) rfl #[.agg #[.slice A0_0 l0_0.length c0_0, .slice A0_1 l0_1.length c0_1]] (by rfl) rfl rfl (by first | rfl | (simp only [zld, zle, zlf, zlg, zlh] <;> rfl)) ?_
 with_reducible refine (zeq kj19 _ _ l0_0 _ _ l0_1 t132 t135 _ ?side1 ?side2 ?side3 ?side4 A50.out).mono ?_
 (case side1 => repeat (first | exact (zCb HR0_0.out HB.out) | (with_reducible first | refine zCa ?_ _ | refine zCn ?_ _ | refine zCd ?_)))
 (case side2 => exact HC0_0.out)
 (case side3 => repeat (first | exact (zCb HR0_1.out HB.out) | (with_reducible first | refine zCa ?_ _ | refine zCn ?_ _ | refine zCd ?_)))
 (case side4 => exact HC0_1.out)
 rintro e w60 ⟨v133, v136, rfl, ho0, ho1, hb⟩
 refine ⟨_, rfl, ?_⟩
 have n0_ := zA (Kd.R_elder' (by (with_reducible repeat (first | apply zRa | apply zRn | apply zRd)); exact HO_6.out) (Kd.R_base ho1) hb)
 have n1_ := zA (zRb (by (with_reducible repeat (first | apply zRa | apply zRn | apply zRd)); exact HO_9.out) hb)
 have n2_ := zA (Kd.R_elder' (by (with_reducible repeat (first | apply zRa | apply zRn | apply zRd)); exact HO_10.out) (Kd.R_base ho1) hb)
 have n3_ := zA (Kd.R_elder' (by (with_reducible repeat (first | apply zRa | apply zRn | apply zRd)); exact HO_124000.out) (Kd.R_base ho0) hb)
 have n4_ := zA (Kd.R_elder' (by (with_reducible repeat (first | apply zRa | apply zRn | apply zRd)); exact HO_124001.out) (Kd.R_base ho1) hb)
 have n5_ := zA (Kd.R_lower (Kd.R_new' ho0 (Kd.R_lt (by (with_reducible repeat (first | apply zRa | apply zRn | apply zRd)); exact HO_124000.out))) (zaj (by repeat (first | (with_reducible first | exact HB.out | apply zba | apply zbn | apply zbd | refine zaa ?_ GE101.out | refine zaa ?_ GE123.out) | exact HB.out))))
 have n6_ := zA (Kd.R_lower (Kd.R_new' (Kd.R_new' (Kd.R_new' ho1 (Kd.R_lt (by (with_reducible repeat (first | apply zRa | apply zRn | apply zRd)); exact HO_6.out))) (Kd.R_lt (by (with_reducible repeat (first | apply zRa | apply zRn | apply zRd)); exact HO_10.out))) (Kd.R_lt (by (with_reducible repeat (first | apply zRa | apply zRn | apply zRd)); exact HO_124001.out))) (zaj (by repeat (first | (with_reducible first | exact HB.out | apply zba | apply zbn | apply zbd | refine zaa ?_ GE101.out | refine zaa ?_ GE123.out) | exact HB.out))))
 have n7_ := zA (zad (g := gb101) (o := .cells #[.slice A0_0 l0_0.length c0_0, .slice A0_1 l0_1.length c0_1] 59 (0, 0)) (by (with_reducible repeat (first | refine zkn ?_ _ | refine zkd ?_ | refine zka ?_ _)); exact BK101.out) hb)
 have n8_ := zA (zad (g := gb123) (o := .cells #[.slice Ao35 t117.length co35, .slice Ao38 t120.length co38] 62 (0, 0)) (by (with_reducible repeat (first | refine zkn ?_ _ | refine zkd ?_ | refine zka ?_ _)); exact BK123.out) hb)
 have n9_ := zA (zai (by repeat (first | (with_reducible first | exact HB.out | apply zba | apply zbn | apply zbd | refine zaa ?_ GE101.out | refine zaa ?_ GE123.out) | exact HB.out)) hb)
 clear HO_6
 clear HO_9
 clear HO_10
 clear HO_124000
 clear HO_124001
 clear BK101
 clear BK123
 clear HB
 have HO_6 := n0_
 have HO_9 := n1_
 have HO_10 := n2_
 have HO_124000 := n3_
 have HO_124001 := n4_
 have HO134 := n5_
 have HO137 := n6_
 have BK101 := n7_
 have BK123 := n8_
 have HB := n9_
 clear n0_ n1_ n2_ n3_ n4_ n5_ n6_ n7_ n8_ n9_
 (try clear hb)
 (try clear hb2)
 (try clear hk)
 (try clear hi)
 (try clear ho0)
 (try clear ho1)
 obtain ⟨Ao61, co61, eo61⟩ := Kd.R_slice HO134.out
 (first | subst eo61 | (injection eo61 with f1_ f2_ f3_; have f4_ := f1_.symm; have f5_ := f3_.symm; clear f1_ f2_ f3_; subst f4_; subst f5_))
 obtain ⟨Ao62, co62, eo62⟩ := Kd.R_slice HO137.out
 (first | subst eo62 | (injection eo62 with f1_ f2_ f3_; have f4_ := f1_.symm; have f5_ := f3_.symm; clear f1_ f2_ f3_; subst f4_; subst f5_))
 refine hK.out _ _ ⟨(zag BK123.out 0).trans rfl, (zag BK123.out 1).trans rfl, (zag BK101.out 0).trans rfl, (zag BK101.out 1).trans rfl⟩ (fun hHeld => ?_)
 clear hK K
 refine zkm (a' := ?_) ?_ ?_
 rotate_left
 · show Act.put _ (some 56) _ = _
   simp only [Act.put, zla, zlb, zlc, zbl, zbr]
   rfl
 refine one_ (i := 3) (N := some 57) #[true, true, true, true, false] rfl rfl (by kernel_rfl) (by decide) (fun K hK => ?_)
 refine zko Try.func45 (by kernel_rfl) rfl #[.agg #[.slice Ao35 t117.length co35, .slice Ao38 t120.length co38], .agg #[.slice Ao61 t132.length co61, .slice Ao62 t135.length co62]] (by rfl) rfl rfl (by first | rfl | (simp only [zld, zle, zlf, zlg, zlh] <;> rfl)) ?_
 with_reducible refine (zg3 kj19 _ _ t117 _ _ t120 _ _ t132 _ _ t135 true _ ?side1 ?side2 ?side3 ?side4 ?side5 ?side6 ?side7 ?side8 A51.out).mono ?_
 (case side1 => repeat (first | exact (zRr HO_124000.out).2.2 | (with_reducible first | refine zCa ?_ _ | refine zCn ?_ _ | refine zCd ?_)))
 (case side2 => exact (zRr HO_124000.out).2.1)
 (case side3 => repeat (first | exact (zRr HO_124001.out).2.2 | (with_reducible first | refine zCa ?_ _ | refine zCn ?_ _ | refine zCd ?_)))
 (case side4 => exact (zRr HO_124001.out).2.1)
 (case side5 => repeat (first | exact (zRr HO134.out).2.2 | (with_reducible first | refine zCa ?_ _ | refine zCn ?_ _ | refine zCd ?_)))
 (case side6 => exact (zRr HO134.out).2.1)
 (case side7 => repeat (first | exact (zRr HO137.out).2.2 | (with_reducible first | refine zCa ?_ _ | refine zCn ?_ _ | refine zCd ?_)))
 (case side8 => exact (zRr HO137.out).2.1)
 rintro e w63 ⟨rfl, hb⟩
 refine ⟨_, rfl, ?_⟩
 have n0_ := zA (zRb (by (with_reducible repeat (first | apply zRa | apply zRn | apply zRd)); exact HO_6.out) hb)
 have n1_ := zA (zRb (by (with_reducible repeat (first | apply zRa | apply zRn | apply zRd)); exact HO_9.out) hb)
 have n2_ := zA (zRb (by (with_reducible repeat (first | apply zRa | apply zRn | apply zRd)); exact HO_10.out) hb)
 have n3_ := zA (zRb (by (with_reducible repeat (first | apply zRa | apply zRn | apply zRd)); exact HO_124000.out) hb)
 have n4_ := zA (zRb (by (with_reducible repeat (first | apply zRa | apply zRn | apply zRd)); exact HO_124001.out) hb)
 have n5_ := zA (zRb (by (with_reducible repeat (first | apply zRa | apply zRn | apply zRd)); exact HO134.out) hb)
 have n6_ := zA (zRb (by (with_reducible repeat (first | apply zRa | apply zRn | apply zRd)); exact HO137.out) hb)
 have n7_ := zA (zad (g := gb101) (o := .cells #[.slice A0_0 l0_0.length c0_0, .slice A0_1 l0_1.length c0_1] 59 (0, 0)) (by (with_reducible repeat (first | refine zkn ?_ _ | refine zkd ?_ | refine zka ?_ _)); exact BK101.out) hb)
 have n8_ := zA (zad (g := gb123) (o := .cells #[.slice Ao35 t117.length co35, .slice Ao38 t120.length co38] 62 (0, 0)) (by (with_reducible repeat (first | refine zkn ?_ _ | refine zkd ?_ | refine zka ?_ _)); exact BK123.out) hb)
 have n9_ := zA (zai (by repeat (first | (with_reducible first | exact HB.out | apply zba | apply zbn | apply zbd | refine zaa ?_ GE101.out | refine zaa ?_ GE123.out) | exact HB.out)) hb)
 clear HO_6
 clear HO_9
 clear HO_10
 clear HO_124000
 clear HO_124001
 clear HO134
 clear HO137
 clear BK101
 clear BK123
 clear HB
 have HO_6 := n0_
 have HO_9 := n1_
 have HO_10 := n2_
 have HO_124000 := n3_
 have HO_124001 := n4_
 have HO134 := n5_
 have HO137 := n6_
 have BK101 := n7_
 have BK123 := n8_
 have HB := n9_
 clear n0_ n1_ n2_ n3_ n4_ n5_ n6_ n7_ n8_ n9_
 (try clear hb)
 (try clear hb2)
 (try clear hk)
 (try clear hi)
 refine hK.out _ _ ⟨(zag BK123.out 0).trans rfl, (zag BK123.out 1).trans rfl, (zag BK101.out 0).trans rfl, (zag BK101.out 1).trans rfl⟩ (fun hHeld => ?_)
 clear hK K
 refine zkm (a' := ?_) ?_ ?_
 rotate_left
 · show Act.put _ (some 57) _ = _
   simp only [Act.put, zla, zlb, zlc, zbl, zbr]
   rfl
 refine zd8 (i := 4) (N := some 58) (v := ?_) (a' := ?_) #[true, true, true, true, true] rfl rfl (by kernel_rfl) (fun _ _ _ h => h) (Or.inl ⟨by rfl, ?_⟩) ?_ ?_
 rotate_left
 · intro w'
   go_simp
   with_reducible rfl
 rotate_left
 · simp only [Act.put, zla, zlb, zlc, zbl, zbr]
   rfl
 refine zm5 (by kernel_rfl) ?_
 go_upto_region 21 with (first | ((with_reducible refine zae (f := 31) rfl ?_); refine zaz (some 61) rfl rfl Try.func31 (by kernel_rfl) rfl #[.slice A1 l1.length c1] rfl (by first | rfl | (simp only [zld, zle, zlf, zlg, zlh] <;> rfl)) ?_; (with_reducible refine (ze6 kj19 _ _ l1 t139 _ ?side1 ?side2 A53.out).mono ?_); (case side1 => repeat (first | exact (zCb HR1.out HB.out) | (with_reducible first | refine zCa ?_ _ | refine zCn ?_ _ | refine zCd ?_))); (case side2 => exact HC1.out); rintro e w64 ⟨v140, rfl, ho0, hb⟩; refine ⟨_, rfl, ?_⟩; have n0_ := zA (zRb (by (with_reducible repeat (first | apply zRa | apply zRn | apply zRd)); exact HO_6.out) hb); have n1_ := zA (Kd.R_elder' (by (with_reducible repeat (first | apply zRa | apply zRn | apply zRd)); exact HO_9.out) (Kd.R_base ho0) hb); have n2_ := zA (zRb (by (with_reducible repeat (first | apply zRa | apply zRn | apply zRd)); exact HO_10.out) hb); have n3_ := zA (zRb (by (with_reducible repeat (first | apply zRa | apply zRn | apply zRd)); exact HO_124000.out) hb); have n4_ := zA (zRb (by (with_reducible repeat (first | apply zRa | apply zRn | apply zRd)); exact HO_124001.out) hb); have n5_ := zA (zRb (by (with_reducible repeat (first | apply zRa | apply zRn | apply zRd)); exact HO134.out) hb); have n6_ := zA (zRb (by (with_reducible repeat (first | apply zRa | apply zRn | apply zRd)); exact HO137.out) hb); have n7_ := zA (Kd.R_lower (Kd.R_new' ho0 (Kd.R_lt (by (with_reducible repeat (first | apply zRa | apply zRn | apply zRd)); exact HO_9.out))) (zaj (by repeat (first | (with_reducible first | exact HB.out | apply zba | apply zbn | apply zbd | refine zaa ?_ GE101.out | refine zaa ?_ GE123.out) | exact HB.out)))); have n8_ := zA (zad (g := gb101) (o := .cells #[.slice A0_0 l0_0.length c0_0, .slice A0_1 l0_1.length c0_1] 59 (0, 0)) (by (with_reducible repeat (first | refine zkn ?_ _ | refine zkd ?_ | refine zka ?_ _)); exact BK101.out) hb); have n9_ := zA (zad (g := gb123) (o := .cells #[.slice Ao35 t117.length co35, .slice Ao38 t120.length co38] 62 (0, 0)) (by (with_reducible repeat (first | refine zkn ?_ _ | refine zkd ?_ | refine zka ?_ _)); exact BK123.out) hb); have n10_ := zA (zai (by repeat (first | (with_reducible first | exact HB.out | apply zba | apply zbn | apply zbd | refine zaa ?_ GE101.out | refine zaa ?_ GE123.out) | exact HB.out)) hb); clear HO_6 HO_9; clear HO_10 HO_124000; clear HO_124001 HO134; clear HO137 BK101; clear BK123 HB; have HO_6 := n0_; have HO_9 := n1_; have HO_10 := n2_; have HO_124000 := n3_; have HO_124001 := n4_; have HO134 := n5_; have HO137 := n6_; have HO141 := n7_; have BK101 := n8_; have BK123 := n9_; have HB := n10_; clear n0_ n1_ n2_ n3_ n4_ n5_ n6_ n7_ n8_ n9_ n10_; (try clear hb); (try clear ho0); obtain ⟨Ao65, co65, eo65⟩ := Kd.R_slice HO141.out; subst eo65) | ((with_reducible refine zae (f := 33) rfl ?_); refine zaz (some 62) rfl rfl Try.func33 (by kernel_rfl) rfl #[.slice Ao41 t124.length co41, .slice Ao65 t139.length co65] rfl (by first | rfl | (simp only [zld, zle, zlf, zlg, zlh] <;> rfl)) ?_; (with_reducible refine (ziq kj19 _ _ t124 _ _ t139 true _ ?side1 ?side2 ?side3 ?side4 A54.out).mono ?_); (case side1 => repeat (first | exact (zRr HO_9.out).2.2 | (with_reducible first | refine zCa ?_ _ | refine zCn ?_ _ | refine zCd ?_))); (case side2 => exact (zRr HO_9.out).2.1); (case side3 => repeat (first | exact (zRr HO141.out).2.2 | (with_reducible first | refine zCa ?_ _ | refine zCn ?_ _ | refine zCd ?_))); (case side4 => exact (zRr HO141.out).2.1); rintro e w66 ⟨rfl, hb⟩; refine ⟨_, rfl, ?_⟩; have n0_ := zA (zRb (by (with_reducible repeat (first | apply zRa | apply zRn | apply zRd)); exact HO_6.out) hb); have n1_ := zA (zRb (by (with_reducible repeat (first | apply zRa | apply zRn | apply zRd)); exact HO_9.out) hb); have n2_ := zA (zRb (by (with_reducible repeat (first | apply zRa | apply zRn | apply zRd)); exact HO_10.out) hb); have n3_ := zA (zRb (by (with_reducible repeat (first | apply zRa | apply zRn | apply zRd)); exact HO_124000.out) hb); have n4_ := zA (zRb (by (with_reducible repeat (first | apply zRa | apply zRn | apply zRd)); exact HO_124001.out) hb); have n5_ := zA (zRb (by (with_reducible repeat (first | apply zRa | apply zRn | apply zRd)); exact HO134.out) hb); have n6_ := zA (zRb (by (with_reducible repeat (first | apply zRa | apply zRn | apply zRd)); exact HO137.out) hb); have n7_ := zA (zRb (by (with_reducible repeat (first | apply zRa | apply zRn | apply zRd)); exact HO141.out) hb); have n8_ := zA (zad (g := gb101) (o := .cells #[.slice A0_0 l0_0.length c0_0, .slice A0_1 l0_1.length c0_1] 59 (0, 0)) (by (with_reducible repeat (first | refine zkn ?_ _ | refine zkd ?_ | refine zka ?_ _)); exact BK101.out) hb); have n9_ := zA (zad (g := gb123) (o := .cells #[.slice Ao35 t117.length co35, .slice Ao38 t120.length co38] 62 (0, 0)) (by (with_reducible repeat (first | refine zkn ?_ _ | refine zkd ?_ | refine zka ?_ _)); exact BK123.out) hb); have n10_ := zA (zai (by repeat (first | (with_reducible first | exact HB.out | apply zba | apply zbn | apply zbd | refine zaa ?_ GE101.out | refine zaa ?_ GE123.out) | exact HB.out)) hb); clear HO_6 HO_9; clear HO_10 HO_124000; clear HO_124001 HO134; clear HO137 HO141; clear BK101 BK123 HB; have HO_6 := n0_; have HO_9 := n1_; have HO_10 := n2_; have HO_124000 := n3_; have HO_124001 := n4_; have HO134 := n5_; have HO137 := n6_; have HO141 := n7_; have BK101 := n8_; have BK123 := n9_; have HB := n10_; clear n0_ n1_ n2_ n3_ n4_ n5_ n6_ n7_ n8_ n9_ n10_; (try clear hb); have hnb67 := NB123_101.out; have hnc67 := NB101_123.out; obtain ⟨hcz68_0, hcz68_1⟩ := zc2 w66 (.slice Ao35 t117.length co35) (.slice Ao38 t120.length co38) BK123.out; obtain ⟨hfz68_0, hfz68_1⟩ := zf2 BK123.out) | ((with_reducible refine zae (f := 48) rfl ?_); refine zaz (some 66) rfl rfl Try.func48 (by kernel_rfl) rfl #[.agg #[.slice Ao35 t117.length co35, .slice Ao38 t120.length co38], .int .i64 1] rfl (by first | rfl | (simp only [zld, zle, zlf, zlg, zlh] <;> rfl)) ?_; (with_reducible refine (zkt kj19 (fun k_ => some k_ = (.slice Ao35 t117.length co35 : Value).ownBlock) (.slice Ao35 t117.length co35) t117 (fun k_ => some k_ = (.slice Ao38 t120.length co38 : Value).ownBlock) (.slice Ao38 t120.length co38) t120 1 t143 t144 t145 w _ ?side1 ?side2 ?side3 A56.out).mono ?_); (case side1 => repeat (first | (with_reducible first | exact HB.out | apply zba | apply zbn | apply zbd | refine zaa ?_ GE101.out | refine zaa ?_ GE123.out) | exact HB.out)); (case side2 => exact Kd.R_tight rfl HO_124000.out); (case side3 => exact Kd.R_tight rfl HO_124001.out); rintro e w69 ⟨rfl, hy0, hy1, hb, hkp⟩; refine ⟨_, rfl, ?_⟩; have n0_ := zA (Kd.R_mono (ok' := fun k_ => some k_ ≠ (v128 : Value).ownBlock ∧ some k_ ≠ (.slice Ao38 t120.length co38 : Value).ownBlock ∧ some k_ ≠ (.slice Ao62 t135.length co62 : Value).ownBlock) (Kd.R_keptB ((Kd.R_apart' HO_6.out (Kd.R_typed HO_124000.out) (by decide))) hkp (fun k_ hk_ hs_ => Or.elim hs_ (fun e_ => (hk_.2) e_) (fun e_ => (hk_.1.1.2) e_))) (fun k_ hk_ => ⟨hk_.1.1.1.1, hk_.1.1.1.2, hk_.1.1.2⟩)); have n1_ := zA (Kd.R_mono (ok' := fun k_ => some k_ ≠ (.slice Ao65 t139.length co65 : Value).ownBlock) (Kd.R_keptB ((Kd.R_apart' (Kd.R_apart' HO_9.out (Kd.R_typed HO_124000.out) (by decide)) (Kd.R_typed HO_124001.out) (by decide))) hkp (fun k_ hk_ hs_ => Or.elim hs_ (fun e_ => (hk_.1.2) e_) (fun e_ => (hk_.2) e_))) (fun k_ hk_ => hk_.1.1.1.2)); have n2_ := zA (Kd.R_mono (ok' := fun k_ => some k_ ≠ (v114 : Value).ownBlock ∧ some k_ ≠ (.slice Ao38 t120.length co38 : Value).ownBlock ∧ some k_ ≠ (.slice Ao62 t135.length co62 : Value).ownBlock) (Kd.R_keptB ((Kd.R_apart' HO_10.out (Kd.R_typed HO_124000.out) (by decide))) hkp (fun k_ hk_ hs_ => Or.elim hs_ (fun e_ => (hk_.2) e_) (fun e_ => (hk_.1.1.2) e_))) (fun k_ hk_ => ⟨hk_.1.1.1.1, hk_.1.1.1.2, hk_.1.1.2⟩)); have n3_ := zA (Kd.R_reok rfl hy0 (fun k_ e_ => HO_124000.out.1 k_ e_)); have n4_ := zA (Kd.R_reok rfl hy1 (fun k_ e_ => HO_124001.out.1 k_ e_)); have n5_ := zA (zg0 (by (with_reducible repeat (first | refine zkn ?_ _ | refine zkd ?_ | refine zka ?_ _)); exact BK101.out) hkp (fun hs_ => Or.elim hs_ (fun e_ => (fun e_ => (Kd.R_ne HO_124000.out BK101.out (by decide)) e_) e_) (fun e_ => (fun e_ => (Kd.R_ne HO_124001.out BK101.out (by decide)) e_) e_))); have n6_ := zA (zg0 (by (with_reducible repeat (first | refine zkn ?_ _ | refine zkd ?_ | refine zka ?_ _)); exact BK123.out) hkp (fun hs_ => Or.elim hs_ (fun e_ => (fun e_ => (Kd.R_ne HO_124000.out BK123.out (by decide)) e_) e_) (fun e_ => (fun e_ => (Kd.R_ne HO_124001.out BK123.out (by decide)) e_) e_))); have n7_ := zA (Kd.R_mono (ok' := fun k_ => some k_ ≠ (.slice Ao35 t117.length co35 : Value).ownBlock) (Kd.R_keptB ((Kd.R_apart' HO134.out (Kd.R_typed HO_124001.out) (by decide))) hkp (fun k_ hk_ hs_ => Or.elim hs_ (fun e_ => (hk_.1.2) e_) (fun e_ => (hk_.2) e_))) (fun k_ hk_ => hk_.1.1.2)); have n8_ := zA (Kd.R_mono (ok' := fun k_ => some k_ ≠ (v114 : Value).ownBlock ∧ some k_ ≠ (v128 : Value).ownBlock ∧ some k_ ≠ (.slice Ao38 t120.length co38 : Value).ownBlock) (Kd.R_keptB ((Kd.R_apart' HO137.out (Kd.R_typed HO_124000.out) (by decide))) hkp (fun k_ hk_ hs_ => Or.elim hs_ (fun e_ => (hk_.2) e_) (fun e_ => (hk_.1.2) e_))) (fun k_ hk_ => ⟨hk_.1.1.1.1.2, hk_.1.1.1.2, hk_.1.1.2⟩)); have n9_ := zA (Kd.R_mono (ok' := fun k_ => some k_ ≠ (.slice Ao41 t124.length co41 : Value).ownBlock) (Kd.R_keptB ((Kd.R_apart' (Kd.R_apart' HO141.out (Kd.R_typed HO_124000.out) (by decide)) (Kd.R_typed HO_124001.out) (by decide))) hkp (fun k_ hk_ hs_ => Or.elim hs_ (fun e_ => (hk_.1.2) e_) (fun e_ => (hk_.2) e_))) (fun k_ hk_ => hk_.1.1.1.2)); have n10_ := zA (hb); clear HO_6 HO_9; clear HO_10 HO_124000; clear HO_124001 BK101; clear BK123 HO134; clear HO137 HO141 HB; have HO_6 := n0_; have HO_9 := n1_; have HO_10 := n2_; have HO_124000 := n3_; have HO_124001 := n4_; have BK101 := n5_; have BK123 := n6_; have HO134 := n7_; have HO137 := n8_; have HO141 := n9_; have HB := n10_; clear n0_ n1_ n2_ n3_ n4_ n5_ n6_ n7_ n8_ n9_ n10_; (try clear hb); (try clear hkp); (try clear hy0); (try clear hy1)) | ((with_reducible refine zae (f := 34) rfl ?_); refine zaz (some 69) rfl rfl Try.func34 (by kernel_rfl) rfl #[.slice Ao41 t124.length co41, .int .i64 t143] rfl (by first | rfl | (simp only [zld, zle, zlf, zlg, zlh] <;> rfl)) ?_; (with_reducible refine (zku kj19 (fun k_ => some k_ = (.slice Ao41 t124.length co41 : Value).ownBlock) (.slice Ao41 t124.length co41) t124 t143 t146 t147 w _ ?side1 ?side2 A57.out).mono ?_); (case side1 => repeat (first | (with_reducible first | exact HB.out | apply zba | apply zbn | apply zbd | refine zaa ?_ GE101.out | refine zaa ?_ GE123.out) | exact HB.out)); (case side2 => exact Kd.R_tight rfl HO_9.out); rintro e w70 ⟨rfl, hy0, hb, hkp⟩; refine ⟨_, rfl, ?_⟩; have n0_ := zA (Kd.R_mono (ok' := fun k_ => some k_ ≠ (v128 : Value).ownBlock ∧ some k_ ≠ (.slice Ao38 t120.length co38 : Value).ownBlock ∧ some k_ ≠ (.slice Ao62 t135.length co62 : Value).ownBlock) (Kd.R_keptB ((Kd.R_apart' HO_6.out (Kd.R_typed HO_9.out) (by decide))) hkp (fun k_ hk_ hs_ => (hk_.2) hs_)) (fun k_ hk_ => ⟨hk_.1.1.1, hk_.1.1.2.1, hk_.1.1.2.2⟩)); have n1_ := zA (Kd.R_reok rfl hy0 (fun k_ e_ => HO_9.out.1 k_ e_)); have n2_ := zA (Kd.R_mono (ok' := fun k_ => some k_ ≠ (v114 : Value).ownBlock ∧ some k_ ≠ (.slice Ao38 t120.length co38 : Value).ownBlock ∧ some k_ ≠ (.slice Ao62 t135.length co62 : Value).ownBlock) (Kd.R_keptB ((Kd.R_apart' HO_10.out (Kd.R_typed HO_9.out) (by decide))) hkp (fun k_ hk_ hs_ => (hk_.2) hs_)) (fun k_ hk_ => ⟨hk_.1.1.1, hk_.1.1.2.1, hk_.1.1.2.2⟩)); have n3_ := zA (Kd.R_mono (ok' := fun k_ => some k_ ≠ (.slice Ao61 t132.length co61 : Value).ownBlock) (Kd.R_keptB ((Kd.R_apart' HO_124000.out (Kd.R_typed HO_9.out) (by decide))) hkp (fun k_ hk_ hs_ => (hk_.2) hs_)) (fun k_ hk_ => hk_.1.1.2)); have n4_ := zA (Kd.R_mono (ok' := fun k_ => some k_ ≠ (v114 : Value).ownBlock ∧ some k_ ≠ (v128 : Value).ownBlock ∧ some k_ ≠ (.slice Ao62 t135.length co62 : Value).ownBlock) (Kd.R_keptB ((Kd.R_apart' HO_124001.out (Kd.R_typed HO_9.out) (by decide))) hkp (fun k_ hk_ hs_ => (hk_.2) hs_)) (fun k_ hk_ => ⟨hk_.1.1.1.1, hk_.1.1.1.2, hk_.1.1.2⟩)); have n5_ := zA (zg0 (by (with_reducible repeat (first | refine zkn ?_ _ | refine zkd ?_ | refine zka ?_ _)); exact BK101.out) hkp (fun hs_ => (fun e_ => (Kd.R_ne HO_9.out BK101.out (by decide)) e_) hs_)); have n6_ := zA (zg0 (by (with_reducible repeat (first | refine zkn ?_ _ | refine zkd ?_ | refine zka ?_ _)); exact BK123.out) hkp (fun hs_ => (fun e_ => (Kd.R_ne HO_9.out BK123.out (by decide)) e_) hs_)); have n7_ := zA (Kd.R_mono (ok' := fun k_ => some k_ ≠ (.slice Ao35 t117.length co35 : Value).ownBlock) (Kd.R_keptB ((Kd.R_apart' HO134.out (Kd.R_typed HO_9.out) (by decide))) hkp (fun k_ hk_ hs_ => (hk_.2) hs_)) (fun k_ hk_ => hk_.1.1)); have n8_ := zA (Kd.R_mono (ok' := fun k_ => some k_ ≠ (v114 : Value).ownBlock ∧ some k_ ≠ (v128 : Value).ownBlock ∧ some k_ ≠ (.slice Ao38 t120.length co38 : Value).ownBlock) (Kd.R_keptB ((Kd.R_apart' HO137.out (Kd.R_typed HO_9.out) (by decide))) hkp (fun k_ hk_ hs_ => (hk_.2) hs_)) (fun k_ hk_ => ⟨hk_.1.1.1, hk_.1.1.2.1, hk_.1.1.2.2⟩)); have n9_ := zA (Kd.R_mono (ok' := fun k_ => some k_ ≠ (.slice Ao41 t124.length co41 : Value).ownBlock) (Kd.R_keptB (HO141.out) hkp (fun k_ hk_ hs_ => (hk_) hs_)) (fun k_ hk_ => hk_.1)); have n10_ := zA (hb); clear HO_6 HO_9; clear HO_10 HO_124000; clear HO_124001 BK101; clear BK123 HO134; clear HO137 HO141 HB; have HO_6 := n0_; have HO_9 := n1_; have HO_10 := n2_; have HO_124000 := n3_; have HO_124001 := n4_; have BK101 := n5_; have BK123 := n6_; have HO134 := n7_; have HO137 := n8_; have HO141 := n9_; have HB := n10_; clear n0_ n1_ n2_ n3_ n4_ n5_ n6_ n7_ n8_ n9_ n10_; (try clear hb); (try clear hkp); (try clear hy0)))
 (try simp only [Act.put, zla, zlb, zlc])
 go_cut [82] (fun v82 wc => ∃ (kq : Nat) (x82_57 : Bool), v82 = .bool x82_57 ∧ Aside0 (zac kq l1 t113 t116 t127 x82_57 l0_0 l0_1 = some r) ∧ Aside0 (kq ≤ kj19) ∧ Aside0 (Kd.R (Kd.int .i64) 3 wc w.heap.size (fun k_ => some k_ ≠ (v128 : Value).ownBlock ∧ some k_ ≠ ((.slice Ao38 t120.length co38) : Value).ownBlock) v114 t113) ∧ Aside0 (Kd.R (Kd.int .i64) 3 wc w.heap.size (fun k_ => some k_ ≠ (v114 : Value).ownBlock ∧ some k_ ≠ ((.slice Ao38 t120.length co38) : Value).ownBlock) v128 t127) ∧ Aside0 (Kd.R Kd.string 9 wc w.heap.size (fun _ => True) (.slice Ao35 t117.length co35) t144) ∧ Aside0 (Kd.R (Kd.int .i64) 3 wc w.heap.size (fun k_ => some k_ ≠ (v114 : Value).ownBlock ∧ some k_ ≠ (v128 : Value).ownBlock) (.slice Ao38 t120.length co38) t145) ∧ Aside0 (wc.heap[gb101]? = some (.cells #[(.slice A0_0 l0_0.length c0_0), (.slice A0_1 l0_1.length c0_1)] 59 (0, 0))) ∧ Aside0 (wc.heap[gb123]? = some (.cells #[(.slice Ao35 t117.length co35), (.slice Ao38 t120.length co38)] 62 (0, 0))) ∧ Aside0 (Below w.heap.size w wc))
 case first =>
   have H := HC58.out
   clear HC58
   by_cases c71 : t146 < 0
   · rw [if_pos c71] at H
     have c71b0 : decide (t146 < 0) = true := zdt c71
     clear c71
     (first | rw [c71b0] | (simp only [zbl, zbr]; rw [c71b0]) | skip)
     have H' := zA H
     clear H
     go_wp2
     go_meet
     case rel => exact ⟨_, (true), (by first | rfl | (simp; done) | (simp [*]; done)), H', ⟨by have := HJ19.out; first | omega | exact zlr _⟩, ⟨by (with_reducible repeat (first | apply zRa | apply zRn | apply zRd)); exact Kd.R_mono HO_6.out (fun _ hk => ⟨hk.1, hk.2.1⟩)⟩, ⟨by (with_reducible repeat (first | apply zRa | apply zRn | apply zRd)); exact Kd.R_mono HO_10.out (fun _ hk => ⟨hk.1, hk.2.1⟩)⟩, ⟨by (with_reducible repeat (first | apply zRa | apply zRn | apply zRd)); exact Kd.R_mono HO_124000.out (fun _ hk => trivial)⟩, ⟨by (with_reducible repeat (first | apply zRa | apply zRn | apply zRd)); exact Kd.R_mono HO_124001.out (fun _ hk => ⟨hk.1, hk.2.1⟩)⟩, ⟨by (with_reducible repeat (first | refine zkn ?_ _ | refine zkd ?_ | refine zka ?_ _)); exact BK101.out⟩, ⟨by (with_reducible repeat (first | refine zkn ?_ _ | refine zkd ?_ | refine zka ?_ _)); exact BK123.out⟩, ⟨by repeat (first | (with_reducible first | exact HB.out | apply zba | apply zbn | apply zbd | refine zaa ?_ GE101.out | refine zaa ?_ GE123.out) | exact HB.out)⟩⟩
   rw [if_neg c71] at H
   have c71b0 : decide (t146 < 0) = false := zdf c71
   clear c71
   (first | rw [c71b0] | (simp only [zbl, zbr]; rw [c71b0]) | skip)
   replace H := zob H
   obtain ⟨t148, A720, H⟩ := H
   replace H : (if t148 = true then (zac kj19 l1 t113 t116 t127 (t130 != t116) l0_0 l0_1) else (zac kj19 l1 t113 t116 t127 true l0_0 l0_1)) = some r := H
   have A72 := zA A720
   clear A720
   by_cases c73 : t148 = true
   · subst c73
     replace H : (zac kj19 l1 t113 t116 t127 (t130 != t116) l0_0 l0_1) = some r := by rw [if_pos rfl] at H; exact H
     have H' := zA H
     clear H
     obtain ⟨Ao74, co74, eo74⟩ := Kd.R_slice HO_10.out
     subst eo74
     obtain ⟨Ao75, co75, eo75⟩ := Kd.R_slice HO_6.out
     subst eo75
     go_wp2_with (first | (go_at_call 38; (with_reducible refine (zd5 kj19 _ _ t127 _ _ t113 true _ ?side1 ?side2 ?side3 ?side4 A72.out).mono ?_); (case side1 => repeat (first | exact (zRr HO_10.out).2.2 | (with_reducible first | refine zCa ?_ _ | refine zCn ?_ _ | refine zCd ?_))); (case side2 => exact (zRr HO_10.out).2.1); (case side3 => repeat (first | exact (zRr HO_6.out).2.2 | (with_reducible first | refine zCa ?_ _ | refine zCn ?_ _ | refine zCd ?_))); (case side4 => exact (zRr HO_6.out).2.1); rintro e w' ⟨rfl, ⟨nd, rfl⟩⟩))
     go_meet
     case rel => exact ⟨_, ((t130 != t116)), (by first | rfl | (simp; done) | (simp [*]; done)), H', ⟨by have := HJ19.out; first | omega | exact zlr _⟩, ⟨by (with_reducible repeat (first | apply zRa | apply zRn | apply zRd)); exact Kd.R_mono HO_6.out (fun _ hk => ⟨hk.1, hk.2.1⟩)⟩, ⟨by (with_reducible repeat (first | apply zRa | apply zRn | apply zRd)); exact Kd.R_mono HO_10.out (fun _ hk => ⟨hk.1, hk.2.1⟩)⟩, ⟨by (with_reducible repeat (first | apply zRa | apply zRn | apply zRd)); exact Kd.R_mono HO_124000.out (fun _ hk => trivial)⟩, ⟨by (with_reducible repeat (first | apply zRa | apply zRn | apply zRd)); exact Kd.R_mono HO_124001.out (fun _ hk => ⟨hk.1, hk.2.1⟩)⟩, ⟨by (with_reducible repeat (first | refine zkn ?_ _ | refine zkd ?_ | refine zka ?_ _)); exact BK101.out⟩, ⟨by (with_reducible repeat (first | refine zkn ?_ _ | refine zkd ?_ | refine zka ?_ _)); exact BK123.out⟩, ⟨by repeat (first | (with_reducible first | exact HB.out | apply zba | apply zbn | apply zbd | refine zaa ?_ GE101.out | refine zaa ?_ GE123.out) | exact HB.out)⟩⟩
   replace c73 := zbf c73
   subst c73
   replace H : (zac kj19 l1 t113 t116 t127 true l0_0 l0_1) = some r := by rw [if_neg (show ¬ (false = true) by decide)] at H; exact H
   have H' := zA H
   clear H
   obtain ⟨Ao76, co76, eo76⟩ := Kd.R_slice HO_10.out
   subst eo76
   obtain ⟨Ao77, co77, eo77⟩ := Kd.R_slice HO_6.out
   subst eo77
   go_wp2_with (first | (go_at_call 38; (with_reducible refine (zd5 kj19 _ _ t127 _ _ t113 false _ ?side1 ?side2 ?side3 ?side4 A72.out).mono ?_); (case side1 => repeat (first | exact (zRr HO_10.out).2.2 | (with_reducible first | refine zCa ?_ _ | refine zCn ?_ _ | refine zCd ?_))); (case side2 => exact (zRr HO_10.out).2.1); (case side3 => repeat (first | exact (zRr HO_6.out).2.2 | (with_reducible first | refine zCa ?_ _ | refine zCn ?_ _ | refine zCd ?_))); (case side4 => exact (zRr HO_6.out).2.1); rintro e w' ⟨rfl, ⟨nd, rfl⟩⟩))
   go_meet
   case rel => exact ⟨_, (true), (by first | rfl | (simp; done) | (simp [*]; done)), H', ⟨by have := HJ19.out; first | omega | exact zlr _⟩, ⟨by (with_reducible repeat (first | apply zRa | apply zRn | apply zRd)); exact Kd.R_mono HO_6.out (fun _ hk => ⟨hk.1, hk.2.1⟩)⟩, ⟨by (with_reducible repeat (first | apply zRa | apply zRn | apply zRd)); exact Kd.R_mono HO_10.out (fun _ hk => ⟨hk.1, hk.2.1⟩)⟩, ⟨by (with_reducible repeat (first | apply zRa | apply zRn | apply zRd)); exact Kd.R_mono HO_124000.out (fun _ hk => trivial)⟩, ⟨by (with_reducible repeat (first | apply zRa | apply zRn | apply zRd)); exact Kd.R_mono HO_124001.out (fun _ hk => ⟨hk.1, hk.2.1⟩)⟩, ⟨by (with_reducible repeat (first | refine zkn ?_ _ | refine zkd ?_ | refine zka ?_ _)); exact BK101.out⟩, ⟨by (with_reducible repeat (first | refine zkn ?_ _ | refine zkd ?_ | refine zka ?_ _)); exact BK123.out⟩, ⟨by repeat (first | (with_reducible first | exact HB.out | apply zba | apply zbn | apply zbd | refine zaa ?_ GE101.out | refine zaa ?_ GE123.out) | exact HB.out)⟩⟩
 clear HC58
 try clear c1
 try clear c2
 try clear p2
 try clear c3
 try clear c4
 try clear c4b0
 try clear c5
 try clear c6
 try clear c7
 try clear c9
 try clear c9b0
 try clear c29
 try clear c31
 try clear c33
 try clear c34
 try clear c36
 try clear c38
 try clear c41
 try clear c43
 try clear c44
 try clear c45
 try clear c46
 try clear c47
 try clear c48
 try clear c49
 try clear c52
 try clear c55
 try clear c67
 try clear c71
 try clear c71b0
 try clear c73
 try clear hcz11_0
 try clear hcz11_1
 try clear hcz22_0
 try clear hcz22_1
 try clear hcz25_0
 try clear hcz25_1
 try clear hcz32_0
 try clear hcz32_1
 try clear hcz37_0
 try clear hcz37_1
 try clear hcz40_0
 try clear hcz40_1
 try clear hcz68_0
 try clear hcz68_1
 try clear hcz6_0
 try clear hcz6_1
 try clear hfz11_0
 try clear hfz11_1
 try clear hfz22_0
 try clear hfz22_1
 try clear hfz25_0
 try clear hfz25_1
 try clear hfz32_0
 try clear hfz32_1
 try clear hfz37_0
 try clear hfz37_1
 try clear hfz40_0
 try clear hfz40_1
 try clear hfz68_0
 try clear hfz68_1
 try clear hfz6_0
 try clear hfz6_1
 try clear p2
 obtain ⟨kq, x82_57, rfl, HA, HJ57, HO_6, HO_10, HO_124000, HO_124001, BK101, BK123, HB⟩ := hcut
 have hl124000_57 := (zRr HO_124000.out).1
 rw [hl124000_57] at HO_124000
 (try simp only [hl124000_57])
 (try simp only [hl124000_57] at BK101)
 (try simp only [hl124000_57] at BK123)
 (try simp only [hl124000_57] at HO_6)
 (try simp only [hl124000_57] at HO_10)
 (try simp only [hl124000_57] at HO_124001)
 have hl124001_57 := (zRr HO_124001.out).1
 rw [hl124001_57] at HO_124001
 (try simp only [hl124001_57])
 (try simp only [hl124001_57] at BK101)
 (try simp only [hl124001_57] at BK123)
 (try simp only [hl124001_57] at HO_6)
 (try simp only [hl124001_57] at HO_10)
 (try simp only [hl124001_57] at HO_124000)
 cases kq with
 | zero => exact absurd HA.out (by simp [zac])
 | succ kj57 =>
 have H := HA.out
 clear HA
 simp only [zac] at H
 by_cases c78 : x82_57 = true
 · subst c78
   replace H : (some false) = some r := by rw [if_pos rfl] at H; exact H
   obtain rfl := zsi H
   go_wp2
   go_ret
   exact ⟨by first | rfl | (simp <;> rfl) | (simp [*] <;> rfl), by repeat (first | (with_reducible first | exact HB.out | apply zba | apply zbn | apply zbd | refine zaa ?_ GE101.out | refine zaa ?_ GE123.out) | exact HB.out)⟩
 replace c78 := zbf c78
 subst c78
 replace H : ((zda kj57 t127 1).bind fun bt149 => ((zc9 kj57 bt149.2 1).bind fun t151 => (if t151 < 0 then (some false) else (if t151 = bt149.1 then ((zbg kj57 l0_0 l0_1).bind fun bt152 => ((zax kj57 l1).bind fun t158 => ((za0 kj57 bt152.1 bt152.2 t158).bind fun bt161 => ((zau kj57 bt161.1 t113).bind fun t165 => (if t165 = true then (zal kj57 bt149.2 bt149.1 (bt161.2 != t116)) else (zal kj57 bt149.2 bt149.1 true)))))) else (some false))))) = some r := by rw [if_neg (show ¬ (false = true) by decide)] at H; exact H
 replace H := zob H
 obtain ⟨⟨t149, t150⟩, A790, H⟩ := H
 replace H : ((zc9 kj57 t150 1).bind fun t151 => (if t151 < 0 then (some false) else (if t151 = t149 then ((zbg kj57 l0_0 l0_1).bind fun bt152 => ((zax kj57 l1).bind fun t158 => ((za0 kj57 bt152.1 bt152.2 t158).bind fun bt161 => ((zau kj57 bt161.1 t113).bind fun t165 => (if t165 = true then (zal kj57 t150 t149 (bt161.2 != t116)) else (zal kj57 t150 t149 true)))))) else (some false)))) = some r := H
 have A79 := zA A790
 clear A790
 replace H := zob H
 obtain ⟨t151, A800, H⟩ := H
 replace H : (if t151 < 0 then (some false) else (if t151 = t149 then ((zbg kj57 l0_0 l0_1).bind fun bt152 => ((zax kj57 l1).bind fun t158 => ((za0 kj57 bt152.1 bt152.2 t158).bind fun bt161 => ((zau kj57 bt161.1 t113).bind fun t165 => (if t165 = true then (zal kj57 t150 t149 (bt161.2 != t116)) else (zal kj57 t150 t149 true)))))) else (some false))) = some r := H
 have A80 := zA A800
 clear A800
 by_cases c81 : t151 < 0
 · rw [if_pos c81] at H
   have c81b0 : decide (t151 < 0) = true := zdt c81
   clear c81
   obtain rfl := zsi H
   obtain ⟨Ao82, co82, eo82⟩ := Kd.R_slice HO_10.out
   subst eo82
   go_wp2_with (first | ((with_reducible refine zae (f := 49) rfl ?_); refine zaz (some 85) rfl rfl Try.func49 (by kernel_rfl) rfl #[.slice Ao82 t127.length co82, .int .i64 1] rfl (by first | rfl | (simp only [zld, zle, zlf, zlg, zlh] <;> rfl)) ?_; (with_reducible refine (zfv kj57 (fun k_ => some k_ = (.slice Ao82 t127.length co82 : Value).ownBlock) (.slice Ao82 t127.length co82) t127 1 t149 t150 w _ ?side1 ?side2 A79.out).mono ?_); (case side1 => repeat (first | (with_reducible first | exact HB.out | apply zba | apply zbn | apply zbd | refine zaa ?_ GE101.out | refine zaa ?_ GE123.out) | exact HB.out)); (case side2 => exact Kd.R_tight rfl HO_10.out); rintro e w83 ⟨rfl, hy0, hb, hkp⟩; refine ⟨_, rfl, ?_⟩; have n0_ := zA (Kd.R_mono (ok' := fun k_ => some k_ ≠ (.slice Ao82 t127.length co82 : Value).ownBlock ∧ some k_ ≠ (.slice Ao38 t145.length co38 : Value).ownBlock) (Kd.R_keptB (HO_6.out) hkp (fun k_ hk_ hs_ => (hk_.1) hs_)) (fun k_ hk_ => ⟨hk_.1.1, hk_.1.2⟩)); have n1_ := zA (Kd.R_reok rfl hy0 (fun k_ e_ => HO_10.out.1 k_ e_)); have n2_ := zA (Kd.R_mono (ok' := fun k_ => True) (Kd.R_keptB ((Kd.R_apart' HO_124000.out (Kd.R_typed HO_10.out) (by decide))) hkp (fun k_ hk_ hs_ => (hk_.2) hs_)) (fun k_ hk_ => trivial)); have n3_ := zA (Kd.R_mono (ok' := fun k_ => some k_ ≠ (v114 : Value).ownBlock ∧ some k_ ≠ (.slice Ao82 t127.length co82 : Value).ownBlock) (Kd.R_keptB (HO_124001.out) hkp (fun k_ hk_ hs_ => (hk_.2) hs_)) (fun k_ hk_ => ⟨hk_.1.1, hk_.1.2⟩)); have n4_ := zA (zg0 (by (with_reducible repeat (first | refine zkn ?_ _ | refine zkd ?_ | refine zka ?_ _)); exact BK101.out) hkp (fun hs_ => (fun e_ => (Kd.R_ne HO_10.out BK101.out (by decide)) e_) hs_)); have n5_ := zA (zg0 (by (with_reducible repeat (first | refine zkn ?_ _ | refine zkd ?_ | refine zka ?_ _)); exact BK123.out) hkp (fun hs_ => (fun e_ => (Kd.R_ne HO_10.out BK123.out (by decide)) e_) hs_)); have n6_ := zA (hb); clear HO_6 HO_10; clear HO_124000 HO_124001; clear BK101 BK123 HB; have HO_6 := n0_; have HO_10 := n1_; have HO_124000 := n2_; have HO_124001 := n3_; have BK101 := n4_; have BK123 := n5_; have HB := n6_; clear n0_ n1_ n2_ n3_ n4_ n5_ n6_; (try clear hb); (try clear hkp); (try clear hy0)) | ((with_reducible refine zae (f := 50) rfl ?_); refine zaz (some 88) rfl rfl Try.func50 (by kernel_rfl) rfl #[.slice Ao82 t150.length co82, .int .i64 1] rfl (by (try simp only [zld, zle, zlf]); first | done | (rw [show t150.length = t127.length from (zRr HO_10.out).1.symm] <;> rfl) | rfl | (simp only [zlg, zlh]; rfl)) ?_; (with_reducible refine (zep kj57 _ _ t150 1 t151 _ ?side1 ?side2 A80.out).mono ?_); (case side1 => repeat (first | exact (zRr HO_10.out).2.2 | (with_reducible first | refine zCa ?_ _ | refine zCn ?_ _ | refine zCd ?_))); (case side2 => rw [show t150.length = t127.length from (zRr HO_10.out).1.symm]; exact (zRr HO_10.out).2.1); rintro e w' ⟨rfl, ⟨nd, rfl⟩⟩; refine ⟨_, rfl, ?_⟩))
   go_ret
   exact ⟨by first | rfl | (simp <;> rfl) | (simp [*] <;> rfl), by repeat (first | (with_reducible first | exact HB.out | apply zba | apply zbn | apply zbd | refine zaa ?_ GE101.out | refine zaa ?_ GE123.out) | exact HB.out)⟩
 rw [if_neg c81] at H
 have c81b0 : decide (t151 < 0) = false := zdf c81
 clear c81
 by_cases c84 : t151 = t149
 rotate_left
 · rw [if_neg c84] at H
   have c84b0 : (t151 == t149) = false := beq_eq_false_iff_ne.mpr c84
   have c84b1 : (t151 != t149) = true := bne_iff_ne.mpr c84
   obtain rfl := zsi H
   obtain ⟨Ao109, co109, eo109⟩ := Kd.R_slice HO_10.out
   subst eo109
   go_wp2_with (first | ((with_reducible refine zae (f := 49) rfl ?_); refine zaz (some 85) rfl rfl Try.func49 (by kernel_rfl) rfl #[.slice Ao109 t127.length co109, .int .i64 1] rfl (by first | rfl | (simp only [zld, zle, zlf, zlg, zlh] <;> rfl)) ?_; (with_reducible refine (zfv kj57 (fun k_ => some k_ = (.slice Ao109 t127.length co109 : Value).ownBlock) (.slice Ao109 t127.length co109) t127 1 t149 t150 w _ ?side1 ?side2 A79.out).mono ?_); (case side1 => repeat (first | (with_reducible first | exact HB.out | apply zba | apply zbn | apply zbd | refine zaa ?_ GE101.out | refine zaa ?_ GE123.out) | exact HB.out)); (case side2 => exact Kd.R_tight rfl HO_10.out); rintro e w110 ⟨rfl, hy0, hb, hkp⟩; refine ⟨_, rfl, ?_⟩; have n0_ := zA (Kd.R_mono (ok' := fun k_ => some k_ ≠ (.slice Ao109 t127.length co109 : Value).ownBlock ∧ some k_ ≠ (.slice Ao38 t145.length co38 : Value).ownBlock) (Kd.R_keptB (HO_6.out) hkp (fun k_ hk_ hs_ => (hk_.1) hs_)) (fun k_ hk_ => ⟨hk_.1.1, hk_.1.2⟩)); have n1_ := zA (Kd.R_reok rfl hy0 (fun k_ e_ => HO_10.out.1 k_ e_)); have n2_ := zA (Kd.R_mono (ok' := fun k_ => True) (Kd.R_keptB ((Kd.R_apart' HO_124000.out (Kd.R_typed HO_10.out) (by decide))) hkp (fun k_ hk_ hs_ => (hk_.2) hs_)) (fun k_ hk_ => trivial)); have n3_ := zA (Kd.R_mono (ok' := fun k_ => some k_ ≠ (v114 : Value).ownBlock ∧ some k_ ≠ (.slice Ao109 t127.length co109 : Value).ownBlock) (Kd.R_keptB (HO_124001.out) hkp (fun k_ hk_ hs_ => (hk_.2) hs_)) (fun k_ hk_ => ⟨hk_.1.1, hk_.1.2⟩)); have n4_ := zA (zg0 (by (with_reducible repeat (first | refine zkn ?_ _ | refine zkd ?_ | refine zka ?_ _)); exact BK101.out) hkp (fun hs_ => (fun e_ => (Kd.R_ne HO_10.out BK101.out (by decide)) e_) hs_)); have n5_ := zA (zg0 (by (with_reducible repeat (first | refine zkn ?_ _ | refine zkd ?_ | refine zka ?_ _)); exact BK123.out) hkp (fun hs_ => (fun e_ => (Kd.R_ne HO_10.out BK123.out (by decide)) e_) hs_)); have n6_ := zA (hb); clear HO_6 HO_10; clear HO_124000 HO_124001; clear BK101 BK123 HB; have HO_6 := n0_; have HO_10 := n1_; have HO_124000 := n2_; have HO_124001 := n3_; have BK101 := n4_; have BK123 := n5_; have HB := n6_; clear n0_ n1_ n2_ n3_ n4_ n5_ n6_; (try clear hb); (try clear hkp); (try clear hy0)) | ((with_reducible refine zae (f := 50) rfl ?_); refine zaz (some 88) rfl rfl Try.func50 (by kernel_rfl) rfl #[.slice Ao109 t150.length co109, .int .i64 1] rfl (by (try simp only [zld, zle, zlf]); first | done | (rw [show t150.length = t127.length from (zRr HO_10.out).1.symm] <;> rfl) | rfl | (simp only [zlg, zlh]; rfl)) ?_; (with_reducible refine (zep kj57 _ _ t150 1 t151 _ ?side1 ?side2 A80.out).mono ?_); (case side1 => repeat (first | exact (zRr HO_10.out).2.2 | (with_reducible first | refine zCa ?_ _ | refine zCn ?_ _ | refine zCd ?_))); (case side2 => rw [show t150.length = t127.length from (zRr HO_10.out).1.symm]; exact (zRr HO_10.out).2.1); rintro e w' ⟨rfl, ⟨nd, rfl⟩⟩; refine ⟨_, rfl, ?_⟩))
   go_ret
   exact ⟨by first | rfl | (simp <;> rfl) | (simp [*] <;> rfl), by repeat (first | (with_reducible first | exact HB.out | apply zba | apply zbn | apply zbd | refine zaa ?_ GE101.out | refine zaa ?_ GE123.out) | exact HB.out)⟩
 rw [if_pos c84] at H
 have c84b0 : (t151 == t149) = true := beq_iff_eq.mpr c84
 have c84b1 : (t151 != t149) = false := bne_eq_false_iff_eq.mpr c84
 clear c84
 replace H := zob H
 obtain ⟨⟨t152, t155⟩, A850, H⟩ := H
 replace H : ((zax kj57 l1).bind fun t158 => ((za0 kj57 t152 t155 t158).bind fun bt161 => ((zau kj57 bt161.1 t113).bind fun t165 => (if t165 = true then (zal kj57 t150 t149 (bt161.2 != t116)) else (zal kj57 t150 t149 true))))) = some r := H
 have A85 := zA A850
 clear A850
 replace H := zob H
 obtain ⟨t158, A860, H⟩ := H
 replace H : ((za0 kj57 t152 t155 t158).bind fun bt161 => ((zau kj57 bt161.1 t113).bind fun t165 => (if t165 = true then (zal kj57 t150 t149 (bt161.2 != t116)) else (zal kj57 t150 t149 true)))) = some r := H
 have A86 := zA A860
 clear A860
 replace H := zob H
 obtain ⟨⟨t161, t164⟩, A870, H⟩ := H
 replace H : ((zau kj57 t161 t113).bind fun t165 => (if t165 = true then (zal kj57 t150 t149 (t164 != t116)) else (zal kj57 t150 t149 true))) = some r := H
 have A87 := zA A870
 clear A870
 have HC88 := zA H
 clear H
 obtain ⟨Ao89, co89, eo89⟩ := Kd.R_slice HO_10.out
 subst eo89
 go_upto_region 32 with (first | ((with_reducible refine zae (f := 49) rfl ?_); refine zaz (some 85) rfl rfl Try.func49 (by kernel_rfl) rfl #[.slice Ao89 t127.length co89, .int .i64 1] rfl (by first | rfl | (simp only [zld, zle, zlf, zlg, zlh] <;> rfl)) ?_; (with_reducible refine (zfv kj57 (fun k_ => some k_ = (.slice Ao89 t127.length co89 : Value).ownBlock) (.slice Ao89 t127.length co89) t127 1 t149 t150 w _ ?side1 ?side2 A79.out).mono ?_); (case side1 => repeat (first | (with_reducible first | exact HB.out | apply zba | apply zbn | apply zbd | refine zaa ?_ GE101.out | refine zaa ?_ GE123.out) | exact HB.out)); (case side2 => exact Kd.R_tight rfl HO_10.out); rintro e w90 ⟨rfl, hy0, hb, hkp⟩; refine ⟨_, rfl, ?_⟩; have n0_ := zA (Kd.R_mono (ok' := fun k_ => some k_ ≠ (.slice Ao89 t127.length co89 : Value).ownBlock ∧ some k_ ≠ (.slice Ao38 t145.length co38 : Value).ownBlock) (Kd.R_keptB (HO_6.out) hkp (fun k_ hk_ hs_ => (hk_.1) hs_)) (fun k_ hk_ => ⟨hk_.1.1, hk_.1.2⟩)); have n1_ := zA (Kd.R_reok rfl hy0 (fun k_ e_ => HO_10.out.1 k_ e_)); have n2_ := zA (Kd.R_mono (ok' := fun k_ => True) (Kd.R_keptB ((Kd.R_apart' HO_124000.out (Kd.R_typed HO_10.out) (by decide))) hkp (fun k_ hk_ hs_ => (hk_.2) hs_)) (fun k_ hk_ => trivial)); have n3_ := zA (Kd.R_mono (ok' := fun k_ => some k_ ≠ (v114 : Value).ownBlock ∧ some k_ ≠ (.slice Ao89 t127.length co89 : Value).ownBlock) (Kd.R_keptB (HO_124001.out) hkp (fun k_ hk_ hs_ => (hk_.2) hs_)) (fun k_ hk_ => ⟨hk_.1.1, hk_.1.2⟩)); have n4_ := zA (zg0 (by (with_reducible repeat (first | refine zkn ?_ _ | refine zkd ?_ | refine zka ?_ _)); exact BK101.out) hkp (fun hs_ => (fun e_ => (Kd.R_ne HO_10.out BK101.out (by decide)) e_) hs_)); have n5_ := zA (zg0 (by (with_reducible repeat (first | refine zkn ?_ _ | refine zkd ?_ | refine zka ?_ _)); exact BK123.out) hkp (fun hs_ => (fun e_ => (Kd.R_ne HO_10.out BK123.out (by decide)) e_) hs_)); have n6_ := zA (hb); clear HO_6 HO_10; clear HO_124000 HO_124001; clear BK101 BK123 HB; have HO_6 := n0_; have HO_10 := n1_; have HO_124000 := n2_; have HO_124001 := n3_; have BK101 := n4_; have BK123 := n5_; have HB := n6_; clear n0_ n1_ n2_ n3_ n4_ n5_ n6_; (try clear hb); (try clear hkp); (try clear hy0)) | ((with_reducible refine zae (f := 50) rfl ?_); refine zaz (some 88) rfl rfl Try.func50 (by kernel_rfl) rfl #[.slice Ao89 t150.length co89, .int .i64 1] rfl (by (try simp only [zld, zle, zlf]); first | done | (rw [show t150.length = t127.length from (zRr HO_10.out).1.symm] <;> rfl) | rfl | (simp only [zlg, zlh]; rfl)) ?_; (with_reducible refine (zep kj57 _ _ t150 1 t151 _ ?side1 ?side2 A80.out).mono ?_); (case side1 => repeat (first | exact (zRr HO_10.out).2.2 | (with_reducible first | refine zCa ?_ _ | refine zCn ?_ _ | refine zCd ?_))); (case side2 => rw [show t150.length = t127.length from (zRr HO_10.out).1.symm]; exact (zRr HO_10.out).2.1); rintro e w' ⟨rfl, ⟨nd, rfl⟩⟩; refine ⟨_, rfl, ?_⟩; have hnb91 := NB101_123.out; have hnc91 := NB123_101.out; obtain ⟨hcz92_0, hcz92_1⟩ := zc2 w90 (.slice A0_0 l0_0.length c0_0) (.slice A0_1 l0_1.length c0_1) BK101.out; obtain ⟨hfz92_0, hfz92_1⟩ := zf2 BK101.out) | ((with_reducible refine zae (f := 43) rfl ?_); refine zaz (some 96) rfl rfl Try.func43 (by kernel_rfl) rfl #[.agg #[.slice A0_0 l0_0.length c0_0, .slice A0_1 l0_1.length c0_1]] rfl (by first | rfl | (simp only [zld, zle, zlf, zlg, zlh] <;> rfl)) ?_; (with_reducible refine (zeq kj57 _ _ l0_0 _ _ l0_1 t152 t155 _ ?side1 ?side2 ?side3 ?side4 A85.out).mono ?_); (case side1 => repeat (first | exact (zCb HR0_0.out (by repeat (first | (with_reducible first | exact HB.out | apply zba | apply zbn | apply zbd | refine zaa ?_ GE101.out | refine zaa ?_ GE123.out) | exact HB.out))) | (with_reducible first | refine zCa ?_ _ | refine zCn ?_ _ | refine zCd ?_))); (case side2 => exact HC0_0.out); (case side3 => repeat (first | exact (zCb HR0_1.out (by repeat (first | (with_reducible first | exact HB.out | apply zba | apply zbn | apply zbd | refine zaa ?_ GE101.out | refine zaa ?_ GE123.out) | exact HB.out))) | (with_reducible first | refine zCa ?_ _ | refine zCn ?_ _ | refine zCd ?_))); (case side4 => exact HC0_1.out); rintro e w93 ⟨v153, v156, rfl, ho0, ho1, hb⟩; refine ⟨_, rfl, ?_⟩; have n0_ := zA (Kd.R_elder' (by (with_reducible repeat (first | apply zRa | apply zRn | apply zRd)); exact HO_6.out) (Kd.R_base ho1) hb); have n1_ := zA (Kd.R_elder' (by (with_reducible repeat (first | apply zRa | apply zRn | apply zRd)); exact HO_10.out) (Kd.R_base ho1) hb); have n2_ := zA (Kd.R_elder' (by (with_reducible repeat (first | apply zRa | apply zRn | apply zRd)); exact HO_124000.out) (Kd.R_base ho0) hb); have n3_ := zA (Kd.R_elder' (by (with_reducible repeat (first | apply zRa | apply zRn | apply zRd)); exact HO_124001.out) (Kd.R_base ho1) hb); have n4_ := zA (Kd.R_lower (Kd.R_new' ho0 (Kd.R_lt (by (with_reducible repeat (first | apply zRa | apply zRn | apply zRd)); exact HO_124000.out))) (zaj (by repeat (first | (with_reducible first | exact HB.out | apply zba | apply zbn | apply zbd | refine zaa ?_ GE101.out | refine zaa ?_ GE123.out) | exact HB.out)))); have n5_ := zA (Kd.R_lower (Kd.R_new' (Kd.R_new' (Kd.R_new' ho1 (Kd.R_lt (by (with_reducible repeat (first | apply zRa | apply zRn | apply zRd)); exact HO_6.out))) (Kd.R_lt (by (with_reducible repeat (first | apply zRa | apply zRn | apply zRd)); exact HO_10.out))) (Kd.R_lt (by (with_reducible repeat (first | apply zRa | apply zRn | apply zRd)); exact HO_124001.out))) (zaj (by repeat (first | (with_reducible first | exact HB.out | apply zba | apply zbn | apply zbd | refine zaa ?_ GE101.out | refine zaa ?_ GE123.out) | exact HB.out)))); have n6_ := zA (zad (g := gb101) (o := .cells #[.slice A0_0 l0_0.length c0_0, .slice A0_1 l0_1.length c0_1] 59 (0, 0)) (by (with_reducible repeat (first | refine zkn ?_ _ | refine zkd ?_ | refine zka ?_ _)); exact BK101.out) hb); have n7_ := zA (zad (g := gb123) (o := .cells #[.slice Ao35 t144.length co35, .slice Ao38 t145.length co38] 62 (0, 0)) (by (with_reducible repeat (first | refine zkn ?_ _ | refine zkd ?_ | refine zka ?_ _)); exact BK123.out) hb); have n8_ := zA (zai (by repeat (first | (with_reducible first | exact HB.out | apply zba | apply zbn | apply zbd | refine zaa ?_ GE101.out | refine zaa ?_ GE123.out) | exact HB.out)) hb); clear HO_6 HO_10; clear HO_124000 HO_124001; clear BK101 BK123 HB; have HO_6 := n0_; have HO_10 := n1_; have HO_124000 := n2_; have HO_124001 := n3_; have HO154 := n4_; have HO157 := n5_; have BK101 := n6_; have BK123 := n7_; have HB := n8_; clear n0_ n1_ n2_ n3_ n4_ n5_ n6_ n7_ n8_; (try clear hb); (try clear ho0); (try clear ho1)) | ((with_reducible refine zae (f := 31) rfl ?_); refine zaz (some 98) rfl rfl Try.func31 (by kernel_rfl) rfl #[.slice A1 l1.length c1] rfl (by first | rfl | (simp only [zld, zle, zlf, zlg, zlh] <;> rfl)) ?_; (with_reducible refine (ze6 kj57 _ _ l1 t158 _ ?side1 ?side2 A86.out).mono ?_); (case side1 => repeat (first | exact (zCb HR1.out HB.out) | (with_reducible first | refine zCa ?_ _ | refine zCn ?_ _ | refine zCd ?_))); (case side2 => exact HC1.out); rintro e w94 ⟨v159, rfl, ho0, hb⟩; refine ⟨_, rfl, ?_⟩; have n0_ := zA (zRb (by (with_reducible repeat (first | apply zRa | apply zRn | apply zRd)); exact HO_6.out) hb); have n1_ := zA (zRb (by (with_reducible repeat (first | apply zRa | apply zRn | apply zRd)); exact HO_10.out) hb); have n2_ := zA (zRb (by (with_reducible repeat (first | apply zRa | apply zRn | apply zRd)); exact HO_124000.out) hb); have n3_ := zA (zRb (by (with_reducible repeat (first | apply zRa | apply zRn | apply zRd)); exact HO_124001.out) hb); have n4_ := zA (zRb (by (with_reducible repeat (first | apply zRa | apply zRn | apply zRd)); exact HO154.out) hb); have n5_ := zA (zRb (by (with_reducible repeat (first | apply zRa | apply zRn | apply zRd)); exact HO157.out) hb); have n6_ := zA (Kd.R_lower ho0 (zaj (by repeat (first | (with_reducible first | exact HB.out | apply zba | apply zbn | apply zbd | refine zaa ?_ GE101.out | refine zaa ?_ GE123.out) | exact HB.out)))); have n7_ := zA (zad (g := gb101) (o := .cells #[.slice A0_0 l0_0.length c0_0, .slice A0_1 l0_1.length c0_1] 59 (0, 0)) (by (with_reducible repeat (first | refine zkn ?_ _ | refine zkd ?_ | refine zka ?_ _)); exact BK101.out) hb); have n8_ := zA (zad (g := gb123) (o := .cells #[.slice Ao35 t144.length co35, .slice Ao38 t145.length co38] 62 (0, 0)) (by (with_reducible repeat (first | refine zkn ?_ _ | refine zkd ?_ | refine zka ?_ _)); exact BK123.out) hb); have n9_ := zA (zai (by repeat (first | (with_reducible first | exact HB.out | apply zba | apply zbn | apply zbd | refine zaa ?_ GE101.out | refine zaa ?_ GE123.out) | exact HB.out)) hb); clear HO_6 HO_10; clear HO_124000 HO_124001; clear HO154 HO157; clear BK101 BK123 HB; have HO_6 := n0_; have HO_10 := n1_; have HO_124000 := n2_; have HO_124001 := n3_; have HO154 := n4_; have HO157 := n5_; have HO160 := n6_; have BK101 := n7_; have BK123 := n8_; have HB := n9_; clear n0_ n1_ n2_ n3_ n4_ n5_ n6_ n7_ n8_ n9_; (try clear hb); (try clear ho0); obtain ⟨Ao95, co95, eo95⟩ := Kd.R_slice HO154.out; subst eo95; obtain ⟨Ao96, co96, eo96⟩ := Kd.R_slice HO157.out; subst eo96; obtain ⟨Ao97, co97, eo97⟩ := Kd.R_slice HO160.out; subst eo97) | ((with_reducible refine zae (f := 47) rfl ?_); refine zaz (some 99) rfl rfl Try.func47 (by kernel_rfl) rfl #[.agg #[.slice Ao95 t152.length co95, .slice Ao96 t155.length co96], .slice Ao97 t158.length co97] rfl (by first | rfl | (simp only [zld, zle, zlf, zlg, zlh] <;> rfl)) ?_; (with_reducible refine (zha kj57 _ _ t152 _ _ t155 _ _ t158 t161 t164 _ ?side1 ?side2 ?side3 ?side4 ?side5 ?side6 A87.out).mono ?_); (case side1 => repeat (first | exact (zRr HO154.out).2.2 | (with_reducible first | refine zCa ?_ _ | refine zCn ?_ _ | refine zCd ?_))); (case side2 => exact (zRr HO154.out).2.1); (case side3 => repeat (first | exact (zRr HO157.out).2.2 | (with_reducible first | refine zCa ?_ _ | refine zCn ?_ _ | refine zCd ?_))); (case side4 => exact (zRr HO157.out).2.1); (case side5 => repeat (first | exact (zRr HO160.out).2.2 | (with_reducible first | refine zCa ?_ _ | refine zCn ?_ _ | refine zCd ?_))); (case side6 => exact (zRr HO160.out).2.1); rintro e w98 ⟨v162, rfl, ho0, hb⟩; refine ⟨_, rfl, ?_⟩; have n0_ := zA (Kd.R_elder' (by (with_reducible repeat (first | apply zRa | apply zRn | apply zRd)); exact HO_6.out) (Kd.R_base ho0) hb); have n1_ := zA (Kd.R_elder' (by (with_reducible repeat (first | apply zRa | apply zRn | apply zRd)); exact HO_10.out) (Kd.R_base ho0) hb); have n2_ := zA (zRb (by (with_reducible repeat (first | apply zRa | apply zRn | apply zRd)); exact HO_124000.out) hb); have n3_ := zA (Kd.R_elder' (by (with_reducible repeat (first | apply zRa | apply zRn | apply zRd)); exact HO_124001.out) (Kd.R_base ho0) hb); have n4_ := zA (zRb (by (with_reducible repeat (first | apply zRa | apply zRn | apply zRd)); exact HO154.out) hb); have n5_ := zA (Kd.R_elder' (by (with_reducible repeat (first | apply zRa | apply zRn | apply zRd)); exact HO157.out) (Kd.R_base ho0) hb); have n6_ := zA (zRb (by (with_reducible repeat (first | apply zRa | apply zRn | apply zRd)); exact HO160.out) hb); have n7_ := zA (Kd.R_lower (Kd.R_new' (Kd.R_new' (Kd.R_new' (Kd.R_new' ho0 (Kd.R_lt (by (with_reducible repeat (first | apply zRa | apply zRn | apply zRd)); exact HO_6.out))) (Kd.R_lt (by (with_reducible repeat (first | apply zRa | apply zRn | apply zRd)); exact HO_10.out))) (Kd.R_lt (by (with_reducible repeat (first | apply zRa | apply zRn | apply zRd)); exact HO_124001.out))) (Kd.R_lt (by (with_reducible repeat (first | apply zRa | apply zRn | apply zRd)); exact HO157.out))) (zaj (by repeat (first | (with_reducible first | exact HB.out | apply zba | apply zbn | apply zbd | refine zaa ?_ GE101.out | refine zaa ?_ GE123.out) | exact HB.out)))); have n8_ := zA (zad (g := gb101) (o := .cells #[.slice A0_0 l0_0.length c0_0, .slice A0_1 l0_1.length c0_1] 59 (0, 0)) (by (with_reducible repeat (first | refine zkn ?_ _ | refine zkd ?_ | refine zka ?_ _)); exact BK101.out) hb); have n9_ := zA (zad (g := gb123) (o := .cells #[.slice Ao35 t144.length co35, .slice Ao38 t145.length co38] 62 (0, 0)) (by (with_reducible repeat (first | refine zkn ?_ _ | refine zkd ?_ | refine zka ?_ _)); exact BK123.out) hb); have n10_ := zA (zai (by repeat (first | (with_reducible first | exact HB.out | apply zba | apply zbn | apply zbd | refine zaa ?_ GE101.out | refine zaa ?_ GE123.out) | exact HB.out)) hb); clear HO_6 HO_10; clear HO_124000 HO_124001; clear HO154 HO157; clear HO160 BK101; clear BK123 HB; have HO_6 := n0_; have HO_10 := n1_; have HO_124000 := n2_; have HO_124001 := n3_; have HO154 := n4_; have HO157 := n5_; have HO160 := n6_; have HO163 := n7_; have BK101 := n8_; have BK123 := n9_; have HB := n10_; clear n0_ n1_ n2_ n3_ n4_ n5_ n6_ n7_ n8_ n9_ n10_; (try clear hb); (try clear ho0)))
 (try simp only [Act.put, zla, zlb, zlc])
 go_cut [110] (fun v110 wc => ∃ (kq : Nat) (x110_87 : Bool), v110 = .bool x110_87 ∧ Aside0 (zal kq t150 t149 x110_87 = some r) ∧ Aside0 (kq ≤ kj57) ∧ Aside0 (Kd.R (Kd.int .i64) 3 wc w.heap.size (fun k_ => some k_ ≠ ((.slice Ao38 t145.length co38) : Value).ownBlock) (.slice Ao89 t127.length co89) t150) ∧ Aside0 (Kd.R Kd.string 9 wc w.heap.size (fun _ => True) (.slice Ao35 t144.length co35) t144) ∧ Aside0 (Kd.R (Kd.int .i64) 3 wc w.heap.size (fun k_ => some k_ ≠ ((.slice Ao89 t127.length co89) : Value).ownBlock) (.slice Ao38 t145.length co38) t145) ∧ Aside0 (wc.heap[gb101]? = some (.cells #[(.slice A0_0 l0_0.length c0_0), (.slice A0_1 l0_1.length c0_1)] 59 (0, 0))) ∧ Aside0 (wc.heap[gb123]? = some (.cells #[(.slice Ao35 t144.length co35), (.slice Ao38 t145.length co38)] 62 (0, 0))) ∧ Aside0 (Below w.heap.size w wc))
 case first =>
   have H := HC88.out
   clear HC88
   replace H := zob H
   obtain ⟨t165, A990, H⟩ := H
   replace H : (if t165 = true then (zal kj57 t150 t149 (t164 != t116)) else (zal kj57 t150 t149 true)) = some r := H
   have A99 := zA A990
   clear A990
   by_cases c100 : t165 = true
   · subst c100
     replace H : (zal kj57 t150 t149 (t164 != t116)) = some r := by rw [if_pos rfl] at H; exact H
     have H' := zA H
     clear H
     obtain ⟨Ao101, co101, eo101⟩ := Kd.R_slice HO163.out
     subst eo101
     obtain ⟨Ao102, co102, eo102⟩ := Kd.R_slice HO_6.out
     subst eo102
     go_wp2_with (first | ((with_reducible refine zae (f := 38) rfl ?_); refine zaz (some 104) rfl rfl Try.func38 (by kernel_rfl) rfl #[.slice Ao101 t161.length co101, .slice Ao102 t113.length co102] rfl (by first | rfl | (simp only [zld, zle, zlf, zlg, zlh] <;> rfl)) ?_; (with_reducible refine (zd5 kj57 _ _ t161 _ _ t113 true _ ?side1 ?side2 ?side3 ?side4 A99.out).mono ?_); (case side1 => repeat (first | exact (zRr HO163.out).2.2 | (with_reducible first | refine zCa ?_ _ | refine zCn ?_ _ | refine zCd ?_))); (case side2 => exact (zRr HO163.out).2.1); (case side3 => repeat (first | exact (zRr HO_6.out).2.2 | (with_reducible first | refine zCa ?_ _ | refine zCn ?_ _ | refine zCd ?_))); (case side4 => exact (zRr HO_6.out).2.1); rintro e w' ⟨rfl, ⟨nd, rfl⟩⟩; refine ⟨_, rfl, ?_⟩))
     go_meet
     case rel => exact ⟨_, ((t164 != t116)), (by first | rfl | (simp; done) | (simp [*]; done)), H', ⟨by have := HJ19.out; have := HJ57.out; first | omega | exact zlr _⟩, ⟨by (try simp only [hl124000_57]); (try simp only [hl124001_57]); (with_reducible repeat (first | apply zRa | apply zRn | apply zRd)); exact Kd.R_mono HO_10.out (fun _ hk => hk.1.1.2)⟩, ⟨by (try simp only [hl124000_57]); (try simp only [hl124001_57]); (with_reducible repeat (first | apply zRa | apply zRn | apply zRd)); exact Kd.R_mono HO_124000.out (fun _ hk => trivial)⟩, ⟨by (try simp only [hl124000_57]); (try simp only [hl124001_57]); (with_reducible repeat (first | apply zRa | apply zRn | apply zRd)); exact Kd.R_mono HO_124001.out (fun _ hk => hk.1.1.2)⟩, ⟨by (try simp only [hl124000_57]); (try simp only [hl124001_57]); (with_reducible repeat (first | refine zkn ?_ _ | refine zkd ?_ | refine zka ?_ _)); exact BK101.out⟩, ⟨by (try simp only [hl124000_57]); (try simp only [hl124001_57]); (with_reducible repeat (first | refine zkn ?_ _ | refine zkd ?_ | refine zka ?_ _)); exact BK123.out⟩, ⟨by repeat (first | (with_reducible first | exact HB.out | apply zba | apply zbn | apply zbd | refine zaa ?_ GE101.out | refine zaa ?_ GE123.out) | exact HB.out)⟩⟩
   replace c100 := zbf c100
   subst c100
   replace H : (zal kj57 t150 t149 true) = some r := by rw [if_neg (show ¬ (false = true) by decide)] at H; exact H
   have H' := zA H
   clear H
   obtain ⟨Ao103, co103, eo103⟩ := Kd.R_slice HO163.out
   subst eo103
   obtain ⟨Ao104, co104, eo104⟩ := Kd.R_slice HO_6.out
   subst eo104
   go_wp2_with (first | ((with_reducible refine zae (f := 38) rfl ?_); refine zaz (some 104) rfl rfl Try.func38 (by kernel_rfl) rfl #[.slice Ao103 t161.length co103, .slice Ao104 t113.length co104] rfl (by first | rfl | (simp only [zld, zle, zlf, zlg, zlh] <;> rfl)) ?_; (with_reducible refine (zd5 kj57 _ _ t161 _ _ t113 false _ ?side1 ?side2 ?side3 ?side4 A99.out).mono ?_); (case side1 => repeat (first | exact (zRr HO163.out).2.2 | (with_reducible first | refine zCa ?_ _ | refine zCn ?_ _ | refine zCd ?_))); (case side2 => exact (zRr HO163.out).2.1); (case side3 => repeat (first | exact (zRr HO_6.out).2.2 | (with_reducible first | refine zCa ?_ _ | refine zCn ?_ _ | refine zCd ?_))); (case side4 => exact (zRr HO_6.out).2.1); rintro e w' ⟨rfl, ⟨nd, rfl⟩⟩; refine ⟨_, rfl, ?_⟩))
   go_meet
   case rel => exact ⟨_, (true), (by first | rfl | (simp; done) | (simp [*]; done)), H', ⟨by have := HJ19.out; have := HJ57.out; first | omega | exact zlr _⟩, ⟨by (try simp only [hl124000_57]); (try simp only [hl124001_57]); (with_reducible repeat (first | apply zRa | apply zRn | apply zRd)); exact Kd.R_mono HO_10.out (fun _ hk => hk.1.1.2)⟩, ⟨by (try simp only [hl124000_57]); (try simp only [hl124001_57]); (with_reducible repeat (first | apply zRa | apply zRn | apply zRd)); exact Kd.R_mono HO_124000.out (fun _ hk => trivial)⟩, ⟨by (try simp only [hl124000_57]); (try simp only [hl124001_57]); (with_reducible repeat (first | apply zRa | apply zRn | apply zRd)); exact Kd.R_mono HO_124001.out (fun _ hk => hk.1.1.2)⟩, ⟨by (try simp only [hl124000_57]); (try simp only [hl124001_57]); (with_reducible repeat (first | refine zkn ?_ _ | refine zkd ?_ | refine zka ?_ _)); exact BK101.out⟩, ⟨by (try simp only [hl124000_57]); (try simp only [hl124001_57]); (with_reducible repeat (first | refine zkn ?_ _ | refine zkd ?_ | refine zka ?_ _)); exact BK123.out⟩, ⟨by repeat (first | (with_reducible first | exact HB.out | apply zba | apply zbn | apply zbd | refine zaa ?_ GE101.out | refine zaa ?_ GE123.out) | exact HB.out)⟩⟩
 clear HC88
 try clear c1
 try clear c2
 try clear p2
 try clear c3
 try clear c4
 try clear c4b0
 try clear c5
 try clear c6
 try clear c7
 try clear c8
 try clear c9
 try clear c9b0
 try clear c10
 try clear c29
 try clear c31
 try clear c33
 try clear c34
 try clear c36
 try clear c38
 try clear c41
 try clear c43
 try clear c44
 try clear c45
 try clear c46
 try clear c47
 try clear c48
 try clear c49
 try clear c50
 try clear c52
 try clear c55
 try clear c67
 try clear c71
 try clear c71b0
 try clear c73
 try clear c78
 try clear c81
 try clear c81b0
 try clear c84
 try clear c84b0
 try clear c84b1
 try clear c91
 try clear c100
 try clear hcz11_0
 try clear hcz11_1
 try clear hcz22_0
 try clear hcz22_1
 try clear hcz25_0
 try clear hcz25_1
 try clear hcz32_0
 try clear hcz32_1
 try clear hcz37_0
 try clear hcz37_1
 try clear hcz40_0
 try clear hcz40_1
 try clear hcz68_0
 try clear hcz68_1
 try clear hcz6_0
 try clear hcz6_1
 try clear hcz92_0
 try clear hcz92_1
 try clear hfz11_0
 try clear hfz11_1
 try clear hfz22_0
 try clear hfz22_1
 try clear hfz25_0
 try clear hfz25_1
 try clear hfz32_0
 try clear hfz32_1
 try clear hfz37_0
 try clear hfz37_1
 try clear hfz40_0
 try clear hfz40_1
 try clear hfz68_0
 try clear hfz68_1
 try clear hfz6_0
 try clear hfz6_1
 try clear hfz92_0
 try clear hfz92_1
 try clear p2
 obtain ⟨kq, x110_87, rfl, HA, HJ87, HO_10, HO_124000, HO_124001, BK101, BK123, HB⟩ := hcut
 have hl10_87 := (zRr HO_10.out).1
 rw [hl10_87] at HO_10
 (try simp only [hl10_87])
 (try simp only [hl10_87] at BK101)
 (try simp only [hl10_87] at BK123)
 (try simp only [hl10_87] at HO_124000)
 (try simp only [hl10_87] at HO_124001)
 cases kq with
 | zero => exact absurd HA.out (by simp [zal])
 | succ kj87 =>
 have H := HA.out
 clear HA
 simp only [zal] at H
 by_cases c105 : x110_87 = true
 · subst c105
   replace H : (some false) = some r := by rw [if_pos rfl] at H; exact H
   obtain rfl := zsi H
   go_wp2
   go_ret
   exact ⟨by first | rfl | (simp <;> rfl) | (simp [*] <;> rfl), by repeat (first | (with_reducible first | exact HB.out | apply zba | apply zbn | apply zbd | refine zaa ?_ GE101.out | refine zaa ?_ GE123.out) | exact HB.out)⟩
 replace c105 := zbf c105
 subst c105
 replace H : ((zc9 kj87 t150 1).bind fun t166 => (if t166 < 0 then (some false) else (if t166 = t149 then (some true) else (some false)))) = some r := by rw [if_neg (show ¬ (false = true) by decide)] at H; exact H
 replace H := zob H
 obtain ⟨t166, A1060, H⟩ := H
 replace H : (if t166 < 0 then (some false) else (if t166 = t149 then (some true) else (some false))) = some r := H
 have A106 := zA A1060
 clear A1060
 by_cases c107 : t166 < 0
 · rw [if_pos c107] at H
   have c107b0 : decide (t166 < 0) = true := zdt c107
   clear c107
   obtain rfl := zsi H
   go_wp2_with (first | ((with_reducible refine zae (f := 50) rfl ?_); refine zaz (some 113) rfl rfl Try.func50 (by kernel_rfl) rfl #[.slice Ao89 t150.length co89, .int .i64 1] rfl (by first | rfl | (simp only [zld, zle, zlf, zlg, zlh] <;> rfl)) ?_; (with_reducible refine (zep kj87 _ _ t150 1 t166 _ ?side1 ?side2 A106.out).mono ?_); (case side1 => repeat (first | exact (zRr HO_10.out).2.2 | (with_reducible first | refine zCa ?_ _ | refine zCn ?_ _ | refine zCd ?_))); (case side2 => exact (zRr HO_10.out).2.1); rintro e w' ⟨rfl, ⟨nd, rfl⟩⟩; refine ⟨_, rfl, ?_⟩))
   go_ret
   exact ⟨by first | rfl | (simp <;> rfl) | (simp [*] <;> rfl), by repeat (first | (with_reducible first | exact HB.out | apply zba | apply zbn | apply zbd | refine zaa ?_ GE101.out | refine zaa ?_ GE123.out) | exact HB.out)⟩
 rw [if_neg c107] at H
 have c107b0 : decide (t166 < 0) = false := zdf c107
 clear c107
 by_cases c108 : t166 = t149
 rotate_left
 · rw [if_neg c108] at H
   have c108b0 : (t166 == t149) = false := beq_eq_false_iff_ne.mpr c108
   have c108b1 : (t166 != t149) = true := bne_iff_ne.mpr c108
   obtain rfl := zsi H
   go_wp2_with (first | ((with_reducible refine zae (f := 50) rfl ?_); refine zaz (some 113) rfl rfl Try.func50 (by kernel_rfl) rfl #[.slice Ao89 t150.length co89, .int .i64 1] rfl (by first | rfl | (simp only [zld, zle, zlf, zlg, zlh] <;> rfl)) ?_; (with_reducible refine (zep kj87 _ _ t150 1 t166 _ ?side1 ?side2 A106.out).mono ?_); (case side1 => repeat (first | exact (zRr HO_10.out).2.2 | (with_reducible first | refine zCa ?_ _ | refine zCn ?_ _ | refine zCd ?_))); (case side2 => exact (zRr HO_10.out).2.1); rintro e w' ⟨rfl, ⟨nd, rfl⟩⟩; refine ⟨_, rfl, ?_⟩))
   go_ret
   exact ⟨by first | rfl | (simp <;> rfl) | (simp [*] <;> rfl), by repeat (first | (with_reducible first | exact HB.out | apply zba | apply zbn | apply zbd | refine zaa ?_ GE101.out | refine zaa ?_ GE123.out) | exact HB.out)⟩
 rw [if_pos c108] at H
 have c108b0 : (t166 == t149) = true := beq_iff_eq.mpr c108
 have c108b1 : (t166 != t149) = false := bne_eq_false_iff_eq.mpr c108
 clear c108
 obtain rfl := zsi H
 go_wp2_with (first | ((with_reducible refine zae (f := 50) rfl ?_); refine zaz (some 113) rfl rfl Try.func50 (by kernel_rfl) rfl #[.slice Ao89 t150.length co89, .int .i64 1] rfl (by first | rfl | (simp only [zld, zle, zlf, zlg, zlh] <;> rfl)) ?_; (with_reducible refine (zep kj87 _ _ t150 1 t166 _ ?side1 ?side2 A106.out).mono ?_); (case side1 => repeat (first | exact (zRr HO_10.out).2.2 | (with_reducible first | refine zCa ?_ _ | refine zCn ?_ _ | refine zCd ?_))); (case side2 => exact (zRr HO_10.out).2.1); rintro e w' ⟨rfl, ⟨nd, rfl⟩⟩; refine ⟨_, rfl, ?_⟩))
 go_ret
 exact ⟨by first | rfl | (simp <;> rfl) | (simp [*] <;> rfl), by repeat (first | (with_reducible first | exact HB.out | apply zba | apply zbn | apply zbd | refine zaa ?_ GE101.out | refine zaa ?_ GE123.out) | exact HB.out)⟩
end Go.Proofs.Ytccoiifklcgodaa.Q
end
section
namespace Go.Proofs.Ytccoiifklcgodaa.Rd
open Go Go.RowKit Go.Proofs.YtccoiifklcgodaaW.PrintWords Go.Proofs.YtccoiifklcgodaaW.PrintLast Go.ChangeShapes Go.WideShapes Go.Deep
set_option linter.unusedSimpArgs false
set_option linter.unusedVariables false
structure RdK {α : Type} (d : Kd α) (P : Program) (t : TypeId) (Good : α → Prop) : Prop where
  size : P.cellsOf t = d.sz
  get : ∀ {H : Type} {enc : TypeId × Value → H} {w : World} {n : Nat} {cs : List Value} {x : DataW H × List MemPlace}, DataW.trod enc P w 0 (fun _ => true) true n t cs = some x → ∃ a, d.K w a cs ∧ Good a
def okInt (k : IntKind) (n : Int) : Prop := (Lit.int k n).wf = true
def okStr (s : ByteArray) : Prop := s.size ≤ maxLen
def okSl {α : Type} (G : α → Prop) (xs : List α) : Prop := xs.length ≤ maxLen ∧ ∀ x ∈ xs, G x
theorem rk_int {P : Program} {t : TypeId} {k : IntKind} (ht : P.underlying t = some (.int k)) (hs : P.cellsOf t = 1) : RdK (Kd.int k) P t (okInt k) :=
  ⟨hs, fun h => by obtain ⟨n, rfl, _, hw⟩ := DataW.trod_int ht h; exact ⟨n, rfl, hw⟩⟩
theorem rk_string {P : Program} {t : TypeId} (ht : P.underlying t = some .string) (hs : P.cellsOf t = 1) : RdK Kd.string P t okStr :=
  ⟨hs, fun h => by obtain ⟨n, rfl, _, hw⟩ := DataW.trod_string ht h; exact ⟨n, rfl, hw⟩⟩
theorem rk_slice {α : Type} {d : Kd α} {P : Program} {t e : TypeId} {G : α → Prop} (hd : RdK d P e G) (ht : P.underlying t = some (.slice e)) (hs : P.cellsOf t = 1) : RdK (Kd.slice e d) P t (okSl G) := by
  refine ⟨hs, fun {H enc w n cs x} h => ?_⟩
  rcases open_slice ht h with ⟨rfl, _⟩ | ⟨a, len, cap, m, n', D, Pl, rfl, _, hl, hm, hmm, _, hx⟩
  · exact ⟨[], ⟨none, 0, rfl, Nat.le_refl _, rfl, Nat.zero_le _, fun h => absurd h (Nat.lt_irrefl 0)⟩, Nat.zero_le _, fun _ h => by cases h⟩
  · have hc : m = cap := by simpa using hmm
    subst hc
    have key : ∀ i : Fin len, ∃ a' : α, ∃ cs', d.K w a' cs' ∧ G a' ∧ w.cells? 0 (a.add (i * P.cellsOf e)) (P.cellsOf e) = some cs' := fun i => by
      obtain ⟨cs', h1, h2⟩ := hx i (by omega)
      obtain ⟨a', h3, h4⟩ := hd.get h2
      exact ⟨a', cs', h3, h4, h1⟩
    have hlen : (List.ofFn fun i => Classical.choose (key i)).length = len := List.length_ofFn
    refine ⟨List.ofFn fun i => Classical.choose (key i), ⟨some a, m, by rw [hlen], by omega, hlen.trans hlen.symm, ?_, fun _ => ⟨a, rfl, fun j p hj => ?_⟩⟩, by rw [hlen]; omega, fun y hy => ?_⟩
    · rw [hlen]; unfold maxLen at hm; omega
    · have hjl : j < len := by
        have := (List.getElem?_eq_some_iff.1 hj).1
        rwa [hlen] at this
      rw [List.getElem?_ofFn, dif_pos hjl, Option.some.injEq] at hj
      obtain ⟨cs', h1, h2, h3⟩ := Classical.choose_spec (key ⟨j, hjl⟩)
      rw [hj] at h1 h2
      obtain ⟨_, h5, h6⟩ := World.cells?_some h3
      refine ⟨cs', d.K_len h1, h1, fun i u hi => ?_⟩
      have hil : i < P.cellsOf e := by
        have := (List.getElem?_eq_some_iff.1 hi).1
        omega
      have := h6 i hil
      rw [Go.Deep.add_add] at this
      rw [← hd.size]
      exact this.trans hi
    · obtain ⟨i, rfl⟩ := List.mem_ofFn.1 hy
      obtain ⟨cs', h1, h2, h3⟩ := Classical.choose_spec (key i)
      exact h2
structure RdF {α : Type} (d : Kd α) (P : Program) (fs : List Field) (off : Nat) (Good : α → Prop) : Prop where
  get : ∀ {H : Type} {enc : TypeId × Value → H} {w : World} {n : Nat} {cs : List Value}, cs.length = off + d.sz →
    (∀ f ∈ fs, ∃ y, DataW.trod enc P w 0 (fun _ => true) true n f.type ((cs.drop f.offset).take (P.cellsOf f.type)) = some y) → ∃ a, d.K w a (cs.drop off) ∧ Good a
theorem rf_one {α : Type} {d : Kd α} {P : Program} {f : Field} {G : α → Prop} (hd : RdK d P f.type G) : RdF d P [f] f.offset G := by
  refine ⟨fun {H enc w n cs} hl h => ?_⟩
  obtain ⟨y, hy⟩ := h f (List.mem_singleton.2 rfl)
  rw [hd.size, List.take_of_length_le (by rw [List.length_drop]; omega)] at hy
  exact hd.get hy
theorem rf_cons {α β : Type} {d : Kd α} {d' : Kd β} {P : Program} {f : Field} {fs : List Field} {G : α → Prop} {G' : β → Prop} {off' : Nat} (hd : RdK d P f.type G) (ho : off' = f.offset + d.sz) (hf : RdF d' P fs off' G') :
    RdF (Kd.pair d d') P (f :: fs) f.offset (fun x => G x.1 ∧ G' x.2) := by
  refine ⟨fun {H enc w n cs} hl h => ?_⟩
  have hl' : cs.length = f.offset + (d.sz + d'.sz) := hl
  obtain ⟨y, hy⟩ := h f List.mem_cons_self
  rw [hd.size] at hy
  obtain ⟨a, h1, h2⟩ := hd.get hy
  obtain ⟨b, h3, h4⟩ := hf.get (cs := cs) (by omega) (fun g hg => h g (List.mem_cons_of_mem _ hg))
  refine ⟨(a, b), ⟨_, _, ?_, h1, h3⟩, h2, h4⟩
  rw [ho, ← List.drop_drop, List.take_append_drop]
theorem rk_struct {α : Type} {d : Kd α} {P : Program} {t : TypeId} {fs : Array Field} {G : α → Prop} (ht : P.underlying t = some (.struct fs)) (hs : P.cellsOf t = d.sz) (hf : RdF d P fs.toList 0 G) : RdK d P t G := by
  refine ⟨hs, fun {H enc w n cs x} h => ?_⟩
  obtain ⟨xs, n', _, _, hl, hlen, hg⟩ := DataW.trod_struct ht h
  have := hf.get (cs := cs) (enc := enc) (w := w) (n := n') (by omega) (fun f hf' => by
    obtain ⟨i, hi, he⟩ := List.getElem_of_mem hf'
    have h1 : fs[i]? = some f := by rw [← Array.getElem?_toList, List.getElem?_eq_getElem hi, he]
    have h2 := hg i f h1
    rw [List.getElem?_eq_getElem (by rw [hlen]; simpa using hi)] at h2
    exact ⟨_, h2⟩)
  simpa using this
theorem rk_iso {α β : Type} {d : Kd α} {P : Program} {t : TypeId} {G : α → Prop} (hd : RdK d P t G) (f : β → α) (g : α → β) (hfg : ∀ a, f (g a) = a) : RdK (Kd.iso d f) P t (fun b => G (f b)) := by
  refine ⟨hd.size, fun {H enc w n cs x} h => ?_⟩
  obtain ⟨a, h1, h2⟩ := hd.get h
  exact ⟨g a, by show d.K w (f (g a)) cs; rw [hfg]; exact h1, by rw [hfg]; exact h2⟩
theorem arg_slice {α : Type} {d : Kd α} {P : Program} {t e : TypeId} {G : α → Prop} (hd : RdK (Kd.slice e d) P t (okSl G)) {H : Type} {enc : TypeId × Value → H} {w : World} {a : Option Addr} {len cap : Nat} {x : DataW H} {ps : List MemPlace}
    (h : DataW.Trod enc P w 0 (fun _ => true) true t (.slice a len cap) x ps) : ∃ xs : List α, len = xs.length ∧ xs.length ≤ cap ∧ Kd.C d w a xs.length xs ∧ okSl G xs := by
  obtain ⟨n, hn⟩ := h
  obtain ⟨xs, ⟨A, c, he, hl, hc⟩, hg⟩ := hd.get hn
  simp [Value.cells] at he
  obtain ⟨rfl, rfl, rfl⟩ := he
  exact ⟨xs, rfl, hl, hc, hg⟩
theorem arg_struct {α : Type} {d : Kd α} {P : Program} {t : TypeId} {G : α → Prop} (hd : RdK d P t G) {H : Type} {enc : TypeId × Value → H} {w : World} {cs : Array Value} {x : DataW H} {ps : List MemPlace}
    (h : DataW.Trod enc P w 0 (fun _ => true) true t (.agg cs) x ps) : ∃ a : α, d.K w a cs.toList ∧ G a := by
  obtain ⟨n, hn⟩ := h
  exact hd.get hn
end Go.Proofs.Ytccoiifklcgodaa.Rd
end
section
namespace Go.Proofs.Ytccoiifklcgodaa.Q
open Go.RowKit Go.Proofs.YtccoiifklcgodaaW.PrintWords Go.Proofs.YtccoiifklcgodaaW.PrintLast Go.Proofs.YtccoiifklcgodaaW.PrintMore
attribute [local go_sem] zdk zdl zee zef zcq zcr zdm zdn
set_option linter.unusedVariables false
set_option linter.unusedSimpArgs false
def zpu (x : S101) : Prop := Rd.okStr x.f0 ∧ (Rd.okInt .i64) x.f1 ∧ (Rd.okInt .i64) x.f2 ∧ (Rd.okInt .i64) x.f3 ∧ (Rd.okInt .i64) x.f4
theorem rd101 : Rd.RdK k101 Try.prog 101 zpu :=
  Rd.rk_iso (Rd.rk_struct Try.underlying101 (by kernel_rfl) (Rd.rf_cons (Rd.rk_string Try.underlying9 (by kernel_rfl)) rfl (Rd.rf_cons (Rd.rk_int Try.underlying3 (by kernel_rfl)) rfl (Rd.rf_cons (Rd.rk_int Try.underlying3 (by kernel_rfl)) rfl (Rd.rf_cons (Rd.rk_int Try.underlying3 (by kernel_rfl)) rfl (Rd.rf_one (Rd.rk_int Try.underlying3 (by kernel_rfl)))))))) (fun x : S101 => (x.f0, x.f1, x.f2, x.f3, x.f4)) (fun p => ⟨p.1, p.2.1, p.2.2.1, p.2.2.2.1, p.2.2.2.2⟩) (fun _ => rfl)
def zsy (x : S59) : Prop := (Rd.okSl Rd.okStr) x.f0 ∧ (Rd.okSl (Rd.okInt .i64)) x.f1
theorem rd59 : Rd.RdK k59 Try.prog 59 zsy :=
  Rd.rk_iso (Rd.rk_struct Try.underlying59 (by kernel_rfl) (Rd.rf_cons (Rd.rk_slice (Rd.rk_string Try.underlying9 (by kernel_rfl)) Try.underlying57 (by kernel_rfl)) rfl (Rd.rf_one (Rd.rk_slice (Rd.rk_int Try.underlying3 (by kernel_rfl)) Try.underlying51 (by kernel_rfl))))) (fun x : S59 => (x.f0, x.f1)) (fun p => ⟨p.1, p.2⟩) (fun _ => rfl)
def laws_FnExactProgramTable.Pure : Prop := ∀ (a0 : S59) (a1 : List (S101)), zsy a0 → (Rd.okSl zpu) a1 → ∃ k, zb6 k a0.f0 a0.f1 a1 = some true
end Go.Proofs.Ytccoiifklcgodaa.Q
end
section
namespace Go.Proofs.Ytccoiifklcgodaa.PL
open Go Go.RowKit Go.Proofs.YtccoiifklcgodaaW.PrintWords Go.Proofs.YtccoiifklcgodaaW.PrintLast Go.Proofs.YtccoiifklcgodaaW.PrintMore Go.Proofs.Ytccoiifklcgodaa.Q
set_option linter.unusedSimpArgs false
set_option linter.unusedVariables false
theorem w64 {x : Int} (h1 : -9223372036854775808 ≤ x) (h2 : x < 9223372036854775808) : wrap64 x = x := by unfold wrap64; omega
theorem w64n (i : Nat) (h : i < 4611686018427387904) : wrap64 ((i : Int) + 1) = ((i + 1 : Nat) : Int) := by unfold wrap64; omega
theorem Ev.some {α : Type} {a r : α} (h : a = r) : Ev (fun _ => some a) r := h ▸ Ev.now a
theorem zl1 {α : Type} {g : Option α} {r : α} (h : g = Option.some r) : Ev (fun _ => g) r := by rw [h]; exact Ev.now r
theorem zhl {α : Type} {g : Nat → Option α} {r s : α} (h : Ev g r) (e : r = s) : Ev g s := e ▸ h
theorem zao {α : Type} {c : Prop} [Decidable c] {g g' : Nat → Option α} {r : α} (h : c) (H : Ev g r) : Ev (fun k => if c then g k else g' k) r := zo1 (fun _ => if_pos h) H
theorem zci {α : Type} {c : Prop} [Decidable c] {g g' : Nat → Option α} {r : α} (h : ¬ c) (H : Ev g' r) : Ev (fun k => if c then g k else g' k) r := zo1 (fun _ => if_neg h) H
theorem Ev.call {α β : Type} {g : Option α} {f : Nat → α → Option β} {a : α} {r : β} (h : g = Option.some a) (k : Ev (fun n => f n a) r) : Ev (fun n => g.bind (f n)) r := by
  rw [h]; exact k
theorem zq6 {σ ρ : Type} (n : Nat) (L : Nat → σ → Int → Option ρ) (M : Nat → σ → ρ) (hend : ∀ s, Ev (fun k => L k s n) (M n s))
    (hstep : ∀ (i : Nat) s, i < n → (∀ s', Ev (fun k => L k s' ((i + 1 : Nat) : Int)) (M (i + 1) s')) → Ev (fun k => L k s i) (M i s)) :
    ∀ (d i : Nat) s, i + d = n → Ev (fun k => L k s i) (M i s)
  | 0, i, s, h => by
    have e : i = n := by omega
    rw [e]
    exact hend s
  | d + 1, i, s, h => hstep i s (by omega) (fun s' => zq6 n L M hend hstep d (i + 1) s' (by omega))
theorem ziy {α σ ρ : Type} (xs : List α) (L : Nat → σ → Int → Option ρ) (m : List α → σ → ρ) (hend : ∀ s, Ev (fun k => L k s (xs.length : Nat)) (m [] s))
    (hstep : ∀ (i : Nat) s x rest, i < xs.length → (∀ d, xs.getD i d = x) → (∀ s', Ev (fun k => L k s' ((i + 1 : Nat) : Int)) (m rest s')) → Ev (fun k => L k s i) (m (x :: rest) s)) (s : σ) :
    Ev (fun k => L k s 0) (m xs s) := by
  have := zq6 xs.length L (fun i s => m (xs.drop i) s) (fun s => by simpa using hend s) (fun i s hi ih => by
    have e : xs.drop i = xs[i] :: xs.drop (i + 1) := List.drop_eq_getElem_cons hi
    show Ev (fun k => L k s i) (m (xs.drop i) s)
    rw [e]
    exact hstep i s xs[i] _ hi (fun d => by simp [List.getD, List.getElem?_eq_getElem hi]) ih) xs.length 0 s (by omega)
  simpa using this
def idx {α : Type} (p : α → Bool) : List α → Int
  | [] => -1
  | x :: xs => if p x = true then 0 else if idx p xs < 0 then -1 else idx p xs + 1
theorem zmo {α : Type} (p : α → Bool) (xs : List α) : 0 ≤ idx p xs ↔ ∃ x ∈ xs, p x = true := by
  induction xs with
  | nil => simp [idx]
  | cons x xs ih =>
    unfold idx
    by_cases h : p x = true
    · simp [h]
    · by_cases h2 : idx p xs < 0
      · rw [if_neg h, if_pos h2]
        have : ¬ ∃ x ∈ xs, p x = true := fun e => by have := ih.2 e; omega
        simp [h]
        simpa using this
      · rw [if_neg h, if_neg h2]
        have := ih.1 (by omega)
        simp [h]
        exact ⟨fun _ => this, fun _ => by omega⟩
theorem zul {α : Type} (p : α → Bool) (xs : List α) : -1 ≤ idx p xs := by
  induction xs with
  | nil => unfold idx; simp
  | cons x xs ih => unfold idx; split; · decide
                    · split <;> omega
theorem zl2 {α : Type} (xs : List α) (p : α → Bool) (L : Nat → Int → Option Int) (hend : Ev (fun k => L k (xs.length : Nat)) (-1))
    (hyes : ∀ (i : Nat) x, i < xs.length → (∀ d, xs.getD i d = x) → p x = true → Ev (fun k => L k i) (i : Int))
    (hno : ∀ (i : Nat) x r, i < xs.length → (∀ d, xs.getD i d = x) → p x = false → Ev (fun k => L k ((i + 1 : Nat) : Int)) r → Ev (fun k => L k i) r) : Ev (fun k => L k 0) (idx p xs) := by
  have key : ∀ (d i : Nat), i + d = xs.length → Ev (fun k => L k i) (if idx p (xs.drop i) < 0 then -1 else idx p (xs.drop i) + i) := by
    intro d
    induction d with
    | zero =>
      intro i hi
      rw [List.drop_of_length_le (by omega), if_pos (show idx p [] < 0 by unfold idx; decide)]
      have e : i = xs.length := by omega
      rw [e]; exact hend
    | succ d ih =>
      intro i hi
      have hlt : i < xs.length := by omega
      have e : xs.drop i = xs[i] :: xs.drop (i + 1) := List.drop_eq_getElem_cons hlt
      have hg : ∀ d, xs.getD i d = xs[i] := fun d => by simp [List.getD, List.getElem?_eq_getElem hlt]
      rw [e]
      unfold idx
      by_cases h : p xs[i] = true
      · rw [if_pos h, if_neg (by decide)]
        simpa using hyes i _ hlt hg h
      · refine hno i _ _ hlt hg (by simpa using h) (zhl (ih (i + 1) (by omega)) ?_)
        rw [if_neg h]
        by_cases h2 : idx p (xs.drop (i + 1)) < 0
        · rw [if_pos h2, if_pos h2, if_pos (by decide)]
        · rw [if_neg h2, if_neg h2, if_neg (by omega)]
          omega
  have := key xs.length 0 (by omega)
  simp only [List.drop_zero, Int.natCast_zero, Int.add_zero] at this
  refine zhl this ?_
  have := zul p xs
  split <;> omega
theorem zum {α : Type} (xs : List α) (p : α → Bool) (L : Nat → Int → Option Bool) (hend : Ev (fun k => L k (xs.length : Nat)) true)
    (hno : ∀ (i : Nat) x, i < xs.length → (∀ d, xs.getD i d = x) → p x = false → Ev (fun k => L k i) false)
    (hyes : ∀ (i : Nat) x r, i < xs.length → (∀ d, xs.getD i d = x) → p x = true → Ev (fun k => L k ((i + 1 : Nat) : Int)) r → Ev (fun k => L k i) r) : Ev (fun k => L k 0) (xs.all p) := by
  refine ziy (σ := Unit) xs (fun k _ i => L k i) (fun l _ => l.all p) (fun _ => hend) (fun i _ x rest hi hx ih => ?_) ()
  by_cases h : p x = true
  · exact hyes i x _ hi hx h (zhl (ih ()) (by simp [h]))
  · have h' : p x = false := by simpa using h
    exact zhl (hno i x hi hx h') (by simp [h'])
theorem zjw {xs : List Int} {i : Nat} {x : Int} (h : ∀ d, xs.getD i d = x) : rd xs i = x := by unfold rd; rw [Int.toNat_natCast]; exact h 0
theorem zh0 {α : Type} {d0 : α} {xs : List α} {i : Nat} {x : α} (h : ∀ d, xs.getD i d = x) : rdOf d0 xs i = x := by unfold rdOf; rw [Int.toNat_natCast]; exact h d0
theorem zn4 {xs : List S102} {i : Nat} {x : S102} (h : ∀ d, xs.getD i d = x) : zab xs i = x := by unfold zab; rw [Int.toNat_natCast]; exact h _
theorem zsz {xs : List S101} {i : Nat} {x : S101} (h : ∀ d, xs.getD i d = x) : zcd xs i = x := by unfold zcd; rw [Int.toNat_natCast]; exact h _
theorem zdv {α : Type} (xs : List α) (i : Nat) (h : i < xs.length) : ∀ d, xs.getD i d = xs[i] := fun d => by simp [List.getD, List.getElem?_eq_getElem h]
theorem zl3 {α : Type} (xs ys : List α) (z : α) (v : α) : (xs ++ List.replicate (ys.length + 1) z).set xs.length v = (xs ++ [v]) ++ List.replicate ys.length z := by
  rw [List.set_append_right _ _ (Nat.le_refl _)]
  simp [List.replicate_succ]
abbrev Instr := S102
abbrev zq7 := S101
def cvI (x : zq7) : Instr := ⟨x.f0, x.f1, x.f2, x.f3, x.f4⟩
theorem zn5 (s : ByteArray) (a b c d r : Int) (hs : s.size ≤ maxLen) (h0 : 0 ≤ r) (h1 : r ≤ 1048576) : zhm s a b c d r = some (if r < s.size then -1 else r - s.size) := by
  unfold maxLen at hs
  unfold zhm
  rw [w64 (by omega) (by omega)]
  by_cases h : r < s.size
  · rw [if_pos (by omega), if_pos h]
  · rw [if_neg (by omega), if_neg h]
theorem zpv (l : List zq7) (a : Int) (hl : Rd.okSl zpu l) (h0 : 0 ≤ a) (h1 : a ≤ 1048576) :
    ∃ r, Ev (fun k => zdy k l a) r ∧ (0 ≤ r → (l.length : Int) ≤ a ∧ (∀ x ∈ l, (x.f0.size : Int) ≤ a) ∧ r ≤ a) := by
  obtain ⟨hl1, hl2⟩ := hl
  unfold maxLen at hl1
  by_cases h : a < l.length
  · refine ⟨-1, ?_, fun h => absurd h (by decide)⟩
    unfold zdy
    rw [w64 (by omega) (by omega)]
    simp only [show a - (l.length : Int) < 0 by omega, if_true]
    exact Ev.now _
  · have key : ∀ (d i : Nat) (r : Int), i + d = l.length → 0 ≤ r → r ≤ a → ∃ q, Ev (fun k => zbx k l r i) q ∧ q ≤ a ∧ (0 ≤ q → ∀ x ∈ l.drop i, (x.f0.size : Int) ≤ a) := by
      intro d
      induction d with
      | zero =>
        intro i r hi hr _
        refine ⟨r, Ev.step (f := fun _ => some r) (fun k => ?_) (Ev.now _), by omega, fun _ x hx => ?_⟩
        · simp only [zbx]
          rw [if_neg (by omega)]
        · rw [List.drop_of_length_le (by omega)] at hx
          cases hx
      | succ d ih =>
        intro i r hi hr hra
        have hlt : i < l.length := by omega
        have e : l.drop i = l[i] :: l.drop (i + 1) := List.drop_eq_getElem_cons hlt
        have hx := zsz (zdv l i hlt)
        have hsz := (hl2 l[i] (List.getElem_mem hlt)).1
        by_cases hb : r < l[i].f0.size
        · refine ⟨-1, Ev.step (f := fun _ => some (-1)) (fun k => ?_) (Ev.now _), by omega, fun h => absurd h (by decide)⟩
          simp only [zbx]
          rw [if_pos (by omega), if_pos (by omega), hx, zn5 _ _ _ _ _ _ hsz hr (by omega), if_pos hb]
          rfl
        · obtain ⟨q, hq, hqa, hq'⟩ := ih (i + 1) (r - l[i].f0.size) (by omega) (by omega) (by omega)
          refine ⟨q, Ev.step (f := fun k => zbx k l (r - l[i].f0.size) ((i + 1 : Nat) : Int)) (fun k => ?_) hq, hqa, fun h x hx' => ?_⟩
          · simp only [zbx]
            rw [if_pos (by omega), if_pos (by omega), hx, zn5 _ _ _ _ _ _ hsz hr (by omega), if_neg hb, Option.bind_some, if_neg (by omega), w64n i (by omega)]
          · rw [e] at hx'
            rcases List.mem_cons.1 hx' with rfl | hx'
            · omega
            · exact hq' h x hx'
    obtain ⟨q, hq, hqa, hq'⟩ := key l.length 0 (a - l.length) (by omega) (by omega) (by omega)
    refine ⟨q, ?_, fun h' => ⟨by omega, by simpa using hq' h', hqa⟩⟩
    unfold zdy
    rw [w64 (by omega) (by omega)]
    simp only [show ¬ (a - (l.length : Int) < 0) by omega, if_false]
    simpa using hq
theorem zpw (l : List zq7) (hl : l.length ≤ 1048576) : Ev (fun k => zax k l) (l.map cvI) := by
  have key : ∀ (d i : Nat), i + d = l.length → Ev (fun k => zby k l ((l.take i).map cvI ++ List.replicate d z102) i) (l.map cvI) := by
    intro d
    induction d with
    | zero =>
      intro i hi
      refine Ev.step (f := fun _ => some _) (fun k => ?_) (Ev.now _)
      simp only [zby]
      rw [if_neg (by omega), List.take_of_length_le (by omega)]
      simp
    | succ d ih =>
      intro i hi
      have hlt : i < l.length := by omega
      have hx := zsz (zdv l i hlt)
      refine Ev.step (fun k => ?_) (ih (i + 1) (by omega))
      simp only [zby, zjj, Option.bind_some]
      rw [if_pos (by omega), if_pos (by omega), if_pos (by simp; omega), hx, w64n i (by omega)]
      congr 1
      have e : ((i : Int)).toNat = ((l.take i).map cvI).length := by simp; omega
      rw [e]
      have := zl3 ((l.take i).map cvI) (List.replicate d z102) z102 (cvI l[i])
      simp only [List.length_replicate] at this
      rw [show (⟨l[i].f0, l[i].f1, l[i].f2, l[i].f3, l[i].f4⟩ : Instr) = cvI l[i] from rfl, this]
      congr 1
      rw [List.take_succ_eq_append_getElem hlt, List.map_append]
      rfl
  unfold zax
  refine zao (by omega) (zao (by simp; omega) ?_)
  simpa using key l.length 0 (by omega)
theorem zq8 (l : List Int) (hl : l.length ≤ 1048576) : Ev (fun k => zez k l) l := by
  have key : ∀ (d i : Nat), i + d = l.length → Ev (fun k => zct k l (l.take i ++ List.replicate d 0) i) l := by
    intro d
    induction d with
    | zero =>
      intro i hi
      refine Ev.step (f := fun _ => some _) (fun k => ?_) (Ev.now _)
      simp only [zct]
      rw [if_neg (by omega), List.take_of_length_le (by omega)]
      simp
    | succ d ih =>
      intro i hi
      have hlt : i < l.length := by omega
      have hx := zjw (zdv l i hlt)
      refine Ev.step (fun k => ?_) (ih (i + 1) (by omega))
      simp only [zct]
      rw [if_pos (by omega), if_pos (by omega), if_pos (by simp; omega), hx, w64n i (by omega)]
      congr 1
      have e : ((i : Int)).toNat = (l.take i).length := by simp; omega
      rw [e]
      have := zl3 (l.take i) (List.replicate d (0 : Int)) 0 l[i]
      simp only [List.length_replicate] at this
      rw [this]
      congr 1
      rw [List.take_succ_eq_append_getElem hlt]
  unfold zez
  refine zao (by omega) (zao (by simp; omega) ?_)
  simpa using key l.length 0 (by omega)
theorem zof (l : List Instr) (hl : l.length ≤ 1048576) : Ev (fun k => zc8 k l l) true := by
  unfold zc8
  simp only [if_true]
  refine ziy (σ := Unit) l (fun k _ i => zb4 k l l i) (fun _ _ => true) (fun _ => ?_) (fun i _ x rest hi hx ih => ?_) ()
  · refine Ev.step (f := fun _ => some true) (fun k => ?_) (Ev.now _)
    simp only [zb4]
    rw [if_neg (by omega)]
  · refine Ev.step (fun k => ?_) (ih ())
    simp only [zb4, zji, reduceIte, Option.bind_some]
    rw [if_pos (by omega), if_pos (by omega), w64n i (by omega), if_pos (by omega)]
theorem znd (l : List Int) (hl : l.length ≤ 1048576) : Ev (fun k => zau k l l) true := by
  unfold zau
  simp only [if_true]
  refine ziy (σ := Unit) l (fun k _ i => zdc k l l i) (fun _ _ => true) (fun _ => ?_) (fun i _ x rest hi hx ih => ?_) ()
  · refine Ev.step (f := fun _ => some true) (fun k => ?_) (Ev.now _)
    simp only [zdc]
    rw [if_neg (by omega)]
  · refine Ev.step (fun k => ?_) (ih ())
    simp only [zdc, if_true]
    rw [if_pos (by omega), if_pos (by omega), w64n i (by omega), if_pos (by omega)]
theorem zo2 (l : List ByteArray) (a : Int) (hl : Rd.okSl Rd.okStr l) (h0 : 0 ≤ a) (h1 : a ≤ 1048576) :
    ∃ r, Ev (fun k => zd1 k l a) r ∧ (0 ≤ r → (l.length : Int) ≤ a ∧ r ≤ a) := by
  obtain ⟨hl1, hl2⟩ := hl
  unfold maxLen at hl1
  by_cases h : a < l.length
  · refine ⟨-1, ?_, fun h => absurd h (by decide)⟩
    unfold zd1
    rw [w64 (by omega) (by omega)]
    simp only [show a - (l.length : Int) < 0 by omega, if_true]
    exact Ev.now _
  · have key : ∀ (d i : Nat) (r : Int), i + d = l.length → 0 ≤ r → r ≤ a → ∃ q, Ev (fun k => zb1 k l r i) q ∧ q ≤ a := by
      intro d
      induction d with
      | zero =>
        intro i r hi hr hra
        refine ⟨r, Ev.step (f := fun _ => some r) (fun k => ?_) (Ev.now _), hra⟩
        simp only [zb1]
        rw [if_neg (by omega)]
      | succ d ih =>
        intro i r hi hr hra
        have hlt : i < l.length := by omega
        have hx : rdOf ByteArray.empty l i = l[i] := zh0 (zdv l i hlt)
        have hsz : l[i].size ≤ maxLen := hl2 l[i] (List.getElem_mem hlt)
        unfold maxLen at hsz
        by_cases hb : r < l[i].size
        · refine ⟨-1, Ev.step (f := fun _ => some (-1)) (fun k => ?_) (Ev.now _), by omega⟩
          simp only [zb1, hx]
          rw [if_pos (by omega), if_pos (by omega), w64 (by omega) (by omega), if_pos (by omega)]
        · obtain ⟨q, hq, hqa⟩ := ih (i + 1) (r - l[i].size) (by omega) (by omega) (by omega)
          refine ⟨q, Ev.step (fun k => ?_) hq, hqa⟩
          simp only [zb1, hx]
          rw [if_pos (by omega), if_pos (by omega), w64 (by omega) (by omega), if_neg (by omega), w64n i (by omega)]
    obtain ⟨q, hq, hqa⟩ := key l.length 0 (a - l.length) (by omega) (by omega) (by omega)
    refine ⟨q, ?_, fun h' => ⟨by omega, hqa⟩⟩
    unfold zd1
    rw [w64 (by omega) (by omega)]
    simp only [show ¬ (a - (l.length : Int) < 0) by omega, if_false]
    simpa using hq
theorem zq9 (l : List Int) (a : Int) (hl : l.length ≤ maxLen) (h0 : 0 ≤ a) (h1 : a ≤ 1048576) : zgu l a = some (if a < l.length then -1 else a - l.length) := by
  unfold maxLen at hl
  unfold zgu
  rw [w64 (by omega) (by omega)]
  by_cases h : a < l.length
  · rw [if_pos (by omega), if_pos h]
  · rw [if_neg (by omega), if_neg h]
theorem zo3 (l : List ByteArray) (hl : l.length ≤ 1048576) : Ev (fun k => zel k l) l := by
  have key : ∀ (d i : Nat), i + d = l.length → Ev (fun k => zbw k l (l.take i ++ List.replicate d ⟨#[]⟩) i) l := by
    intro d
    induction d with
    | zero =>
      intro i hi
      refine Ev.step (f := fun _ => some l) (fun k => ?_) (Ev.now _)
      simp only [zbw]
      rw [if_neg (by omega), List.take_of_length_le (by omega)]
      simp
    | succ d ih =>
      intro i hi
      have hlt : i < l.length := by omega
      have hx : rdOf ByteArray.empty l i = l[i] := zh0 (zdv l i hlt)
      refine Ev.step (fun k => ?_) (ih (i + 1) (by omega))
      simp only [zbw]
      rw [if_pos (by omega), if_pos (by omega), if_pos (by simp; omega), hx, w64n i (by omega)]
      congr 1
      have e : ((i : Int)).toNat = (l.take i).length := by simp; omega
      rw [e]
      have := zl3 (l.take i) (List.replicate d (⟨#[]⟩ : ByteArray)) ⟨#[]⟩ l[i]
      simp only [List.length_replicate] at this
      rw [this]
      congr 1
      rw [List.take_succ_eq_append_getElem hlt]
  unfold zel
  refine zao (by omega) (zao (by simp; omega) ?_)
  simpa using key l.length 0 (by omega)
theorem znv (l : List ByteArray) (hl : l.length ≤ 1048576) : Ev (fun k => zek k l l) true := by
  unfold zek
  simp only [if_true]
  refine ziy (σ := Unit) l (fun k _ i => zca k l l i) (fun _ _ => true) (fun _ => ?_) (fun i _ x rest hi hx ih => ?_) ()
  · refine Ev.step (f := fun _ => some true) (fun k => ?_) (Ev.now _)
    simp only [zca]
    rw [if_neg (by omega)]
  · refine Ev.step (fun k => ?_) (ih ())
    simp only [zca, if_true]
    rw [if_pos (by omega), if_pos (by omega), w64n i (by omega), if_pos (by omega)]
theorem zpx (l : List ByteArray) (m : List Int) (a : Int) (hl : Rd.okSl Rd.okStr l) (hm : m.length ≤ maxLen) (h0 : 0 ≤ a) (h1 : a ≤ 1048576) :
    ∃ r, Ev (fun k => zew k l m a) r ∧ (0 ≤ r → (l.length : Int) ≤ a ∧ (m.length : Int) ≤ a ∧ r ≤ a) := by
  unfold zew
  obtain ⟨r, hr, hr'⟩ := zo2 l a hl h0 h1
  by_cases hn : r < 0
  · exact ⟨-1, Ev.bind hr (zao hn (Ev.now _)), fun h => absurd h (by decide)⟩
  obtain ⟨q1, q2⟩ := hr' (by omega)
  have e := zq9 m r hm (by omega) (by omega)
  by_cases hn2 : r < m.length
  · rw [if_pos hn2] at e
    exact ⟨-1, Ev.bind hr (zci hn (Ev.call e (zao (by decide) (Ev.now _)))), fun h => absurd h (by decide)⟩
  · rw [if_neg hn2] at e
    exact ⟨r - m.length, Ev.bind hr (zci hn (Ev.call e (zci (by omega) (Ev.now _)))), fun h => ⟨by omega, by omega, by omega⟩⟩
theorem zpy (l : List ByteArray) (m : List Int) (hl : l.length ≤ 1048576) (hm : m.length ≤ 1048576) : Ev (fun k => zbg k l m) (l, m) := by
  unfold zbg
  exact Ev.bind (zo3 l hl) (Ev.bind (zq8 m hm) (Ev.now _))
theorem zog (l : List ByteArray) (m : List Int) (hl : l.length ≤ 1048576) (hm : m.length ≤ 1048576) : Ev (fun k => zec k l m l m) true := by
  unfold zec
  exact Ev.bind (znv l hl) (zao rfl (Ev.bind (znd m hm) (zao rfl (Ev.now _))))
theorem zj1 : ∀ (m : Nat) (n : Nat) (s : ByteArray), n ≤ m → s.size + n ≤ 4611686018427387904 → ∃ t, Ev (fun k => zcc k n s) t
  | 0, n, s, h, hs => by
    have e : n = 0 := by omega
    subst e
    refine ⟨(⟨#[109]⟩ : ByteArray) ++ s, Ev.step (f := fun _ => some ((⟨#[109]⟩ : ByteArray) ++ s)) (fun k => ?_) (Ev.now _)⟩
    have hz : (⟨#[109]⟩ : ByteArray).size = 1 := rfl
    simp only [zcc]
    rw [if_neg (by decide), if_pos (by omega)]
  | m + 1, n, s, h, hs => by
    by_cases hn : n = 0
    · exact zj1 m n s (by omega) hs
    · have hsz : (strOfNums [(wrap64 (48 + Int.tmod (n : Int) 10)) % 256]).size = 1 := by
        unfold strOfNums
        rfl
      obtain ⟨t, ht⟩ := zj1 m (n / 10) (strOfNums [(wrap64 (48 + Int.tmod (n : Int) 10)) % 256] ++ s) (by omega) (by rw [ByteArray.size_append, hsz]; omega)
      refine ⟨t, Ev.step (fun k => ?_) ht⟩
      simp only [zcc, Option.bind_some]
      rw [if_pos (by omega), if_pos (by rw [hsz]; omega)]
      congr 1
      have e : Int.tdiv (n : Int) 10 = ((n / 10 : Nat) : Int) := by
        rw [Int.tdiv_eq_ediv_of_nonneg (by omega)]
        omega
      rw [e, w64 (by omega) (by omega)]
theorem zne (n : Nat) (h : n ≤ 4611686018427387903) : ∃ t, Ev (fun k => zdx k n) t := by
  unfold zdx
  by_cases hn : (n : Int) ≤ 0
  · exact ⟨_, zao hn (Ev.now _)⟩
  · obtain ⟨t, ht⟩ := zj1 n n ⟨#[]⟩ (Nat.le_refl _) (by show 0 + n ≤ _; omega)
    exact ⟨t, zci hn ht⟩
open Classical in
noncomputable def mtx (n : Nat) : ByteArray := if h : ∃ t, Ev (fun k => zdx k n) t then Classical.choose h else ⟨#[]⟩
theorem zs0 (n : Nat) (h : n ≤ 4611686018427387903) : Ev (fun k => zdx k n) (mtx n) := by
  unfold mtx
  rw [dif_pos (zne n h)]
  exact Classical.choose_spec (zne n h)
def zf7 : Nat → Nat → List Int
  | 0, _ => []
  | n + 1, a => (a : Int) :: zf7 n (a + 1)
theorem zmp : ∀ n a, (zf7 n a).length = n
  | 0, _ => rfl
  | n + 1, a => by simp [zf7, zmp n]
theorem zra {α : Type} (xs : List α) (y : α) (ys : List α) (v : α) : (xs ++ y :: ys).set xs.length v = (xs ++ [v]) ++ ys := by
  rw [List.set_append_right _ _ (Nat.le_refl _)]
  simp
theorem zqd {α : Type} (xs : List α) (y : α) (ys : List α) (d : α) : (xs ++ y :: ys).getD xs.length d = y := by simp [List.getD]
theorem znf (l : List Int) (a : Nat) (hl : l.length ≤ 1048576) (ha : a ≤ 33554432) : Ev (fun k => zda k l a) ((a : Int) + l.length, zf7 l.length a) := by
  have key : ∀ (ys xs : List Int) (b : Nat), xs.length + ys.length ≤ 1048576 → b ≤ 67108864 - ys.length → Ev (fun k => zcb k (xs ++ ys) b xs.length) ((b : Int) + ys.length, xs ++ zf7 ys.length b) := by
    intro ys
    induction ys with
    | nil =>
      intro xs b h h'
      refine Ev.step (f := fun _ => some (((b : Int), xs ++ []))) (fun k => ?_) (Ev.some ?_)
      · simp only [zcb]
        rw [if_neg (by simp)]
      · simp [zf7]
    | cons y ys ih =>
      intro xs b h h'
      simp only [List.length_cons] at h h'
      have := ih (xs ++ [(b : Int)]) (b + 1) (by simp; omega) (by omega)
      rw [List.append_assoc] at this
      refine Ev.step (fun k => ?_) (zhl this ?_)
      · simp only [zcb]
        rw [if_pos (by simp; omega), if_pos (by omega), Int.toNat_natCast, zra, w64n _ (by omega), w64n _ (by omega), List.append_assoc]
        congr 1
        simp
      · simp only [List.length_cons, zf7, Prod.mk.injEq]
        exact ⟨by omega, by simp⟩
  have := key l [] a (by simpa using hl) (by omega)
  unfold zda
  simpa using this
theorem zpz (n a : Nat) (hn : n ≤ 1048576) (ha : a ≤ 1048576) : Ev (fun k => zc9 k (zf7 n a) a) ((a : Int) + n) := by
  have key : ∀ (d : Nat) (xs : List Int) (b : Nat), xs.length + d ≤ 1048576 → b ≤ 4194304 - d → Ev (fun k => zcj k (xs ++ zf7 d b) b xs.length) ((b : Int) + d) := by
    intro d
    induction d with
    | zero =>
      intro xs b h h'
      refine Ev.step (f := fun _ => some (b : Int)) (fun k => ?_) (Ev.some (by simp))
      simp only [zcj]
      rw [if_neg (by simp [zf7])]
    | succ d ih =>
      intro xs b h h'
      have := ih (xs ++ [(b : Int)]) (b + 1) (by simp; omega) (by omega)
      rw [List.append_assoc] at this
      refine Ev.step (fun k => ?_) (zhl this (by omega))
      have e : rd (xs ++ zf7 (d + 1) b) (xs.length : Nat) = b := by
        unfold rd zf7
        rw [Int.toNat_natCast, zqd]
      simp only [zcj]
      rw [if_pos (by simp [zmp]; omega), if_pos (by omega), e, if_pos rfl, w64n _ (by omega), w64n _ (by omega)]
      congr 1
      simp
  have := key n [] a (by simpa using hn) (by omega)
  unfold zc9
  simpa using this
noncomputable def zn6 : Nat → Nat → List Instr
  | 0, _ => []
  | n + 1, a => ⟨mtx a, (a + 1 : Nat), (a + 2 : Nat), (a + 3 : Nat), (a + 4 : Nat)⟩ :: zn6 n (a + 5)
theorem ztf (xs : List Instr) (y : Instr) (ys : List Instr) : zab (xs ++ y :: ys) (xs.length : Nat) = y := by
  unfold zab
  rw [Int.toNat_natCast, zqd]
theorem zoh (l : List Instr) (a : Nat) (hl : l.length ≤ 1048576) (ha : a ≤ 11534336) : Ev (fun k => zbu k l a) ((a : Int) + 5 * l.length, zn6 l.length a) := by
  have key : ∀ (ys xs : List Instr) (b : Nat), xs.length + ys.length ≤ 1048576 → b ≤ 16777216 - 5 * ys.length → Ev (fun k => zbe k (xs ++ ys) b xs.length) ((b : Int) + 5 * ys.length, xs ++ zn6 ys.length b) := by
    intro ys
    induction ys with
    | nil =>
      intro xs b h h'
      refine Ev.step (f := fun _ => some (((b : Int), xs ++ []))) (fun k => ?_) (Ev.some ?_)
      · simp only [zbe]
        rw [if_neg (by simp)]
      · simp [zn6]
    | cons y ys ih =>
      intro xs b h h'
      simp only [List.length_cons] at h h'
      have := ih (xs ++ [⟨mtx b, (b + 1 : Nat), (b + 2 : Nat), (b + 3 : Nat), (b + 4 : Nat)⟩]) (b + 5) (by simp; omega) (by omega)
      rw [List.append_assoc] at this
      refine Ev.step (fun k => by simp only [zbe]; rfl) ?_
      refine zao (by simp; omega) ?_
      refine Ev.bind (zs0 b (by omega)) ?_
      refine zao (by omega) ?_
      refine zo1 (fun k => ?_) (zhl this ?_)
      · simp only [Option.bind_some, Int.toNat_natCast, zra, ztf, List.append_assoc, List.singleton_append]
        rw [w64n b (by omega), w64n (b + 1) (by omega), w64n (b + 2) (by omega), w64n (b + 3) (by omega), w64n (b + 4) (by omega), w64n _ (by omega)]
        congr 1
        simp
      · simp only [List.length_cons, zn6, Prod.mk.injEq]
        exact ⟨by omega, by simp⟩
  have := key l [] a (by simpa using hl) (by omega)
  unfold zbu
  simpa using this
end Go.Proofs.Ytccoiifklcgodaa.PL
end
section
namespace Go.Proofs.Ytccoiifklcgodaa.Q
open Go.RowKit Go.Proofs.YtccoiifklcgodaaW.PrintWords Go.Proofs.YtccoiifklcgodaaW.PrintLast Go.Proofs.YtccoiifklcgodaaW.PrintMore
attribute [local go_sem] zdk zdl zee zef zcq zcr zdm zdn
set_option linter.unusedVariables false
set_option linter.unusedSimpArgs false
end Go.Proofs.Ytccoiifklcgodaa.Q
end
section
namespace Go.Proofs.Ytccoiifklcgodaa.PL
open Go Go.RowKit Go.Proofs.YtccoiifklcgodaaW.PrintWords Go.Proofs.YtccoiifklcgodaaW.PrintLast Go.Proofs.YtccoiifklcgodaaW.PrintMore Go.Proofs.Ytccoiifklcgodaa.Q
set_option linter.unusedSimpArgs false
set_option linter.unusedVariables false
def ze3 (c : Nat) : Bool × Bool × Bool × Int × Int :=
  match c with
  | 0 => (true, false, false, 0, 63)
  | 1 => (true, true, false, 0, 0)
  | 2 => (true, true, true, 0, 0)
  | 3 => (true, true, true, 0, 0)
  | 4 => (true, true, true, 0, 0)
  | 5 => (true, true, false, 0, 63)
  | 6 => (true, true, false, 1, 5)
  | 7 => (true, true, true, 1, 3)
  | _ => (false, false, false, 0, 0)
theorem zo4 : ∀ p ∈ ops, zd9 20 p.1 = some (ze3 p.2) := by decide +kernel
theorem zo5 (s : ByteArray) : zg9 s = some (ze5 (cls s) s) := rfl
theorem zoi (s : ByteArray) : Ev (fun k => zd9 k s) (ze3 (cls s)) := by
  refine zm6 (P := fun s => Ev (fun k => zd9 k s) (ze3 (cls s))) s (fun p hp => ?_) (fun h => ?_)
  · rw [zq5 p hp]
    exact zu5 (zcy _) (zo4 p hp)
  · rw [zm7 h]
    obtain ⟨h0, h1, h2, h3, h4, h5, h6, h7, h8, h9, h10, h11, h12, h13, h14, h15, h16, h17, h18, h19⟩ := zpt h
    refine zu5 (zcy _) (k := 5) ?_
    simp only [zd9, zcl, za1, zcm, zdb, h0, h1, h2, h3, h4, h5, h6, h7, h8, h9, h10, h11, h12, h13, h14, h15, h16, h17, h18, h19, if_false, beq_iff_eq]
    rfl
theorem zng (a b c : Int) : zd0 a b c = some (decide (b ≤ a ∧ a ≤ c)) := by
  unfold zd0
  by_cases h : b ≤ a <;> simp [h]
theorem zp0 (a b c : Int) : zhk a b c = some (decide (b ≤ a ∧ a ≤ c)) := by
  unfold zhk
  by_cases h : a ≥ b
  · rw [if_pos h]; congr 1; rw [decide_eq_decide]; omega
  · rw [if_neg h]; congr 1; symm; rw [decide_eq_false_iff_not]; omega
def okI (x : Instr) : Prop := cls x.f0 ≠ 8 ∧ (0 ≤ x.f1 ∧ x.f1 ≤ 5) ∧ ((ze3 (cls x.f0)).2.1 = true ∧ 0 ≤ x.f2 ∧ x.f2 ≤ 5 ∨ x.f2 = 0) ∧ ((ze3 (cls x.f0)).2.2.1 = true ∧ 0 ≤ x.f3 ∧ x.f3 ≤ 5 ∨ x.f3 = 0) ∧ (ze3 (cls x.f0)).2.2.2.1 ≤ x.f4 ∧ x.f4 ≤ (ze3 (cls x.f0)).2.2.2.2
instance (x : Instr) : Decidable (okI x) := by unfold okI; infer_instance
theorem zn7 (s : ByteArray) : cls s ≤ 8 := by
  refine zm6 (P := fun s => cls s ≤ 8) s (by decide +kernel) (fun h => by rw [zm7 h]; exact Nat.le_refl _)
theorem zrb (s : ByteArray) : cls s = 0 ∨ cls s = 1 ∨ cls s = 2 ∨ cls s = 3 ∨ cls s = 4 ∨ cls s = 5 ∨ cls s = 6 ∨ cls s = 7 ∨ cls s = 8 := by have := zn7 s; omega
end Go.Proofs.Ytccoiifklcgodaa.PL
end
section
namespace Go.Proofs.Ytccoiifklcgodaa.Q
open Go.RowKit Go.Proofs.YtccoiifklcgodaaW.PrintWords Go.Proofs.YtccoiifklcgodaaW.PrintLast Go.Proofs.YtccoiifklcgodaaW.PrintMore
attribute [local go_sem] zdk zdl zee zef zcq zcr zdm zdn
set_option linter.unusedVariables false
set_option linter.unusedSimpArgs false
end Go.Proofs.Ytccoiifklcgodaa.Q
end
section
namespace Go.Proofs.Ytccoiifklcgodaa.PL
open Go Go.RowKit Go.Proofs.YtccoiifklcgodaaW.PrintWords Go.Proofs.YtccoiifklcgodaaW.PrintLast Go.Proofs.YtccoiifklcgodaaW.PrintMore Go.Proofs.Ytccoiifklcgodaa.Q
set_option linter.unusedSimpArgs false
set_option linter.unusedVariables false
end Go.Proofs.Ytccoiifklcgodaa.PL
end
section
namespace Go.Proofs.Ytccoiifklcgodaa.Q
open Go.RowKit Go.Proofs.YtccoiifklcgodaaW.PrintWords Go.Proofs.YtccoiifklcgodaaW.PrintLast Go.Proofs.YtccoiifklcgodaaW.PrintMore
attribute [local go_sem] zdk zdl zee zef zcq zcr zdm zdn
set_option linter.unusedVariables false
set_option linter.unusedSimpArgs false
end Go.Proofs.Ytccoiifklcgodaa.Q
end
section
namespace Go.Proofs.Ytccoiifklcgodaa.PL
open Go Go.RowKit Go.Proofs.YtccoiifklcgodaaW.PrintWords Go.Proofs.YtccoiifklcgodaaW.PrintLast Go.Proofs.YtccoiifklcgodaaW.PrintMore Go.Proofs.Ytccoiifklcgodaa.Q
set_option linter.unusedSimpArgs false
set_option linter.unusedVariables false
end Go.Proofs.Ytccoiifklcgodaa.PL
end
section
namespace Go.Proofs.Ytccoiifklcgodaa.Q
open Go.RowKit Go.Proofs.YtccoiifklcgodaaW.PrintWords Go.Proofs.YtccoiifklcgodaaW.PrintLast Go.Proofs.YtccoiifklcgodaaW.PrintMore
attribute [local go_sem] zdk zdl zee zef zcq zcr zdm zdn
set_option linter.unusedVariables false
set_option linter.unusedSimpArgs false
end Go.Proofs.Ytccoiifklcgodaa.Q
end
section
namespace Go.Proofs.Ytccoiifklcgodaa.PL
open Go Go.RowKit Go.Proofs.YtccoiifklcgodaaW.PrintWords Go.Proofs.YtccoiifklcgodaaW.PrintLast Go.Proofs.YtccoiifklcgodaaW.PrintMore Go.Proofs.Ytccoiifklcgodaa.Q
set_option linter.unusedSimpArgs false
set_option linter.unusedVariables false
theorem zp1 {α : Type} {xs : List α} {i : Nat} {x : α} (hi : i < xs.length) (hx : ∀ d, xs.getD i d = x) : x ∈ xs := by
  have := hx x
  rw [zdv xs i hi] at this
  rw [← this]
  exact List.getElem_mem hi
theorem ztg {α : Type} (p : α → Bool) (xs : List α) (q : Prop) [Decidable q] (h : q ↔ ∃ x ∈ xs, p x = true) : decide (idx p xs ≥ 0) = decide q := by
  rw [decide_eq_decide]
  exact (zmo p xs).trans h.symm
def hasS (l : List ByteArray) (s : ByteArray) : Bool := l.any fun y => decide (y = s)
theorem zqe (l : List ByteArray) (s : ByteArray) : hasS l s = true ↔ s ∈ l := by
  unfold hasS
  rw [List.any_eq_true]
  exact ⟨fun ⟨x, hx, h⟩ => of_decide_eq_true h ▸ hx, fun h => ⟨s, h, decide_eq_true rfl⟩⟩
theorem zmu (l : List ByteArray) (s : ByteArray) (hl : l.length ≤ 1048576) : Ev (fun k => zbb k l s) (hasS l s) := by
  have h : Ev (fun k => zbq k l s) (idx (fun y => decide (s = y)) l) := by
    unfold zbq
    refine zl2 l _ (fun k i => zar k l s l.length i) ?_ (fun i x hi hx hp => ?_) (fun i x r hi hx hp hr => ?_)
    · refine Ev.step (f := fun _ => some (-1)) (fun k => ?_) (Ev.now _)
      simp only [zar]
      rw [if_neg (by omega)]
    · refine Ev.step (f := fun _ => some (i : Int)) (fun k => ?_) (Ev.now _)
      simp only [zar, zh0 hx, zqc]
      rw [if_pos (by omega), if_pos (by omega), if_pos (by omega), if_pos (of_decide_eq_true hp)]
    · refine Ev.step (fun k => ?_) hr
      simp only [zar, zh0 hx, zqc]
      rw [if_pos (by omega), if_pos (by omega), if_pos (by omega), if_neg (of_decide_eq_false hp), w64n i (by omega)]
  unfold zbb
  refine Ev.bind h (Ev.some ?_)
  rw [Bool.eq_iff_iff, decide_eq_true_eq, zqe]
  refine (zmo _ l).trans ⟨?_, fun h => ⟨s, h, decide_eq_true rfl⟩⟩
  rintro ⟨x, hx, h⟩
  rw [of_decide_eq_true h]
  exact hx
theorem znh (l : List ByteArray) (s : ByteArray) (hl : l.length ≤ 1048576) : Ev (fun k => zd2 k l s) (hasS l s) := by
  unfold zd2
  refine ziy (σ := Unit) l (fun k _ i => zdd k s l l.length i) (fun r _ => hasS r s) (fun _ => ?_) (fun i _ x rest hi hx ih => ?_) ()
  · refine Ev.step (f := fun _ => some false) (fun k => ?_) (Ev.now _)
    simp only [zdd]
    rw [if_neg (by omega)]
  · refine Ev.step (fun k => by simp only [zdd, zh0 hx, zqc]; rfl) (zao (by omega) (zao (by omega) (zao (by omega) ?_)))
    by_cases q : x = s
    · exact zao q (Ev.some (by simp [hasS, q]))
    · refine zci q ?_
      rw [w64n i (by omega)]
      refine zhl (ih ()) ?_
      simp [hasS, q]
theorem zmv (l : List Int) (s : Int) (hl : l.length ≤ 1048576) : Ev (fun k => zcs k l s) (decide (s ∈ l)) := by
  have h : Ev (fun k => zcv k l s) (idx (fun y => decide (s = y)) l) := by
    unfold zcv
    refine zl2 l _ (fun k i => zbc k l s l.length i) ?_ (fun i x hi hx hp => ?_) (fun i x r hi hx hp hr => ?_)
    · refine Ev.step (f := fun _ => some (-1)) (fun k => ?_) (Ev.now _)
      simp only [zbc]
      rw [if_neg (by omega)]
    · refine Ev.step (f := fun _ => some (i : Int)) (fun k => ?_) (Ev.now _)
      simp only [zbc, zjw hx]
      rw [if_pos (by omega), if_pos (by omega), if_pos (by omega), if_pos (of_decide_eq_true hp)]
    · refine Ev.step (fun k => ?_) hr
      simp only [zbc, zjw hx]
      rw [if_pos (by omega), if_pos (by omega), if_pos (by omega), if_neg (of_decide_eq_false hp), w64n i (by omega)]
  unfold zcs
  refine Ev.bind h (Ev.some (ztg _ _ _ ?_))
  constructor
  · exact fun h => ⟨s, h, decide_eq_true rfl⟩
  · rintro ⟨x, hx, h⟩
    rw [of_decide_eq_true h]
    exact hx
theorem zqf (l : List Int) (s : Int) (hl : l.length ≤ 1048576) : Ev (fun k => zgq k l s) (decide (s ∈ l)) := by
  unfold zgq
  refine ziy (σ := Unit) l (fun k _ i => zdu k s l l.length i) (fun r _ => decide (s ∈ r)) (fun _ => ?_) (fun i _ x rest hi hx ih => ?_) ()
  · refine Ev.step (f := fun _ => some false) (fun k => ?_) (Ev.some (by simp))
    simp only [zdu]
    rw [if_neg (by omega)]
  · refine Ev.step (fun k => by simp only [zdu, zjw hx]; rfl) (zao (by omega) (zao (by omega) (zao (by omega) ?_)))
    by_cases q : x = s
    · exact zao q (Ev.some (by simp [q]))
    · refine zci q ?_
      rw [w64n i (by omega)]
      refine zhl (ih ()) ?_
      rw [decide_eq_decide, List.mem_cons]
      exact ⟨Or.inr, fun h => h.resolve_left fun e => q e.symm⟩
def isIn (s : ByteArray) : Prop := s.toList = ([105, 110] : List UInt8)
def zrc (s : ByteArray) : Prop := s.toList = ([99, 111, 110, 115, 116] : List UInt8)
def zun (s : ByteArray) : Prop := s.toList = ([110, 111, 116] : List UInt8)
def zuo (s : ByteArray) : Prop := s.toList = ([110, 101, 103] : List UInt8)
instance (s : ByteArray) : Decidable (isIn s) := by unfold isIn; infer_instance
instance (s : ByteArray) : Decidable (zrc s) := by unfold zrc; infer_instance
instance (s : ByteArray) : Decidable (zun s) := by unfold zun; infer_instance
instance (s : ByteArray) : Decidable (zuo s) := by unfold zuo; infer_instance
theorem zoj (c : List Int) (a b : Int) (hc : c.length ≤ 1048576) : Ev (fun k => zc4 k c a b) (c.all (fun n => decide (a ≤ n ∧ n ≤ b))) := by
  unfold zc4
  refine zum c _ (fun k i => zcw k a b c c.length i) ?_ (fun i x hi hx hp => ?_) (fun i x r hi hx hp hr => ?_)
  · refine Ev.step (f := fun _ => some true) (fun k => ?_) (Ev.now _)
    simp only [zcw]
    rw [if_neg (by omega)]
  · refine Ev.step (f := fun _ => some false) (fun k => ?_) (Ev.now _)
    simp only [zcw, zjw hx, zp0, Option.bind_some, hp]
    rw [if_pos (by omega), if_pos (by omega), if_pos (by omega), if_neg (by simp)]
  · refine Ev.step (fun k => ?_) hr
    simp only [zcw, zjw hx, zp0, Option.bind_some, hp]
    rw [if_pos (by omega), if_pos (by omega), if_pos (by omega), if_pos trivial, w64n i (by omega)]
theorem zjx (n : Nat) (Q : Nat → Bool) (fin : Bool) (L : Nat → Int → Option Bool) (hend : Ev (fun k => L k (n : Nat)) fin)
    (hno : ∀ i : Nat, i < n → Q i = false → Ev (fun k => L k (i : Nat)) false) (hyes : ∀ (i : Nat) r, i < n → Q i = true → Ev (fun k => L k ((i + 1 : Nat) : Int)) r → Ev (fun k => L k (i : Nat)) r) : Ev (fun k => L k 0) ((List.range n).all Q && fin) := by
  have key : ∀ (d i : Nat), i + d = n → Ev (fun k => L k (i : Nat)) ((List.range' i d).all Q && fin) := by
    intro d
    induction d with
    | zero =>
      intro i hi
      have e : i = n := by omega
      subst e
      simpa using hend
    | succ d ih =>
      intro i hi
      rw [List.range'_succ, List.all_cons]
      cases h : Q i
      · simpa using hno i (by omega) h
      · simpa using hyes i _ (by omega) h (ih (i + 1) (by omega))
  rw [List.range_eq_range']
  exact key n 0 (by omega)
theorem zsc {α : Type} (xs : List α) (p : α → Bool) (fin : Bool) (L : Nat → Int → Option Bool) (hend : Ev (fun k => L k (xs.length : Nat)) fin)
    (hno : ∀ (i : Nat) x, i < xs.length → (∀ d, xs.getD i d = x) → p x = false → Ev (fun k => L k i) false)
    (hyes : ∀ (i : Nat) x r, i < xs.length → (∀ d, xs.getD i d = x) → p x = true → Ev (fun k => L k ((i + 1 : Nat) : Int)) r → Ev (fun k => L k i) r) : Ev (fun k => L k 0) (xs.all p && fin) := by
  refine ziy (σ := Unit) xs (fun k _ i => L k i) (fun l _ => l.all p && fin) (fun _ => by simpa using hend) (fun i _ x rest hi hx ih => ?_) ()
  cases h : p x
  · exact zhl (hno i x hi hx h) (by simp [h])
  · exact hyes i x _ hi hx h (zhl (ih ()) (by simp [h]))
theorem zje {α β : Type} (xs : List α) (g : α → List β) (N : Nat) (L : Nat → List β → Int → Option (List β)) (T : List β)
    (hend : ∀ s, (s ++ T).length ≤ N → Ev (fun k => L k s (xs.length : Nat)) (s ++ T))
    (hstep : ∀ (i : Nat) s x U, i < xs.length → (∀ d, xs.getD i d = x) → (s ++ (g x ++ U)).length ≤ N → (∀ s', (s' ++ U).length ≤ N → Ev (fun k => L k s' ((i + 1 : Nat) : Int)) (s' ++ U)) → Ev (fun k => L k s (i : Nat)) (s ++ (g x ++ U)))
    (s : List β) (hs : (s ++ (xs.flatMap g ++ T)).length ≤ N) : Ev (fun k => L k s 0) (s ++ (xs.flatMap g ++ T)) := by
  have key : ∀ (d i : Nat), i + d = xs.length → ∀ s, (s ++ ((xs.drop i).flatMap g ++ T)).length ≤ N → Ev (fun k => L k s (i : Nat)) (s ++ ((xs.drop i).flatMap g ++ T)) := by
    intro d
    induction d with
    | zero =>
      intro i hi s hs
      have e : i = xs.length := by omega
      subst e
      rw [List.drop_of_length_le (Nat.le_refl _), List.flatMap_nil, List.nil_append] at hs ⊢
      exact hend s hs
    | succ d ih =>
      intro i hi s hs
      have hlt : i < xs.length := by omega
      have e : xs.drop i = xs[i] :: xs.drop (i + 1) := List.drop_eq_getElem_cons hlt
      rw [e, List.flatMap_cons, List.append_assoc] at hs ⊢
      exact hstep i s xs[i] _ hlt (zdv xs i hlt) hs (ih (i + 1) (by omega))
  have := key xs.length 0 (by omega) s (by simpa using hs)
  simpa using this
def immC (c : Nat) : Bool := match c with | 0 => true | 5 => true | 6 => true | 7 => true | _ => false
def imm7 : List ByteArray := [⟨#[115, 101, 116]⟩, ⟨#[97, 100, 100, 105]⟩, ⟨#[97, 110, 100, 105]⟩, ⟨#[120, 111, 114, 105]⟩, ⟨#[115, 104, 108, 105]⟩, ⟨#[115, 104, 114, 105]⟩, ⟨#[108, 101, 97]⟩]
theorem zqt : ∀ p ∈ ops, hasS imm7 p.1 = immC p.2 := by decide +kernel
theorem zsd : ∀ t ∈ imm7, (ops.any fun p => decide (t = p.1)) = true := by decide +kernel
theorem zup (s : ByteArray) : hasS imm7 s = immC (cls s) := by
  refine zm6 (P := fun s => hasS imm7 s = immC (cls s)) s (fun p hp => by rw [zqt p hp, zq5 p hp]) (fun h => ?_)
  rw [zm7 h, Bool.eq_iff_iff, zqe]
  constructor
  · intro hm
    have := zsd s hm
    rw [List.any_eq_true] at this
    obtain ⟨p, hp, he⟩ := this
    exact absurd (of_decide_eq_true he) (h p hp)
  · intro h
    cases h
theorem zok (s : ByteArray) : Ev (fun k => zd6 k s) (immC (cls s)) := by
  unfold zd6
  rw [← zup]
  exact Ev.bind (znh imm7 s (by decide)) (Ev.now _)
def inB (c : Nat) (m : Int) : Bool := decide ((ze3 c).2.2.2.1 ≤ m ∧ m ≤ (ze3 c).2.2.2.2)
def inW (m : Int) : Bool := decide (0 ≤ m ∧ m ≤ 63)
theorem zth (c : Nat) (s : ByteArray) (h : c ≤ 8) : (ze5 c s).1 = (ze3 c).2.1 := by
  rcases (show c = 0 ∨ c = 1 ∨ c = 2 ∨ c = 3 ∨ c = 4 ∨ c = 5 ∨ c = 6 ∨ c = 7 ∨ c = 8 by omega) with h | h | h | h | h | h | h | h | h <;> subst h <;> rfl
theorem zti (c : Nat) (s : ByteArray) (h : c ≤ 8) : (ze5 c s).2.1 = (ze3 c).2.2.1 := by
  rcases (show c = 0 ∨ c = 1 ∨ c = 2 ∨ c = 3 ∨ c = 4 ∨ c = 5 ∨ c = 6 ∨ c = 7 ∨ c = 8 by omega) with h | h | h | h | h | h | h | h | h <;> subst h <;> rfl
theorem ztj (c : Nat) (s : ByteArray) (h : c ≤ 8) : (ze5 c s).2.2.2.2.2.2 = decide (c ≠ 8) := by
  rcases (show c = 0 ∨ c = 1 ∨ c = 2 ∨ c = 3 ∨ c = 4 ∨ c = 5 ∨ c = 6 ∨ c = 7 ∨ c = 8 by omega) with h | h | h | h | h | h | h | h | h <;> subst h <;> rfl
theorem zqg (c : Nat) (h : c ≤ 8) : (ze3 c).1 = decide (c ≠ 8) := by
  rcases (show c = 0 ∨ c = 1 ∨ c = 2 ∨ c = 3 ∨ c = 4 ∨ c = 5 ∨ c = 6 ∨ c = 7 ∨ c = 8 by omega) with h | h | h | h | h | h | h | h | h <;> subst h <;> rfl
theorem zol (c : Nat) (s : ByteArray) (h : c ≤ 8) (h8 : c ≠ 8) : decide ((ze5 c s).2.2.1 ≤ (ze5 c s).2.2.2.1) = immC c := by
  rcases (show c = 0 ∨ c = 1 ∨ c = 2 ∨ c = 3 ∨ c = 4 ∨ c = 5 ∨ c = 6 ∨ c = 7 ∨ c = 8 by omega) with h | h | h | h | h | h | h | h | h <;> subst h <;> first | rfl | exact absurd rfl h8
theorem zrd (c : Nat) (s : ByteArray) (h : c ≤ 8) (h8 : immC c = true) (m : Int) : decide ((ze5 c s).2.2.1 ≤ m ∧ m ≤ (ze5 c s).2.2.2.1) = inB c m := by
  rcases (show c = 0 ∨ c = 1 ∨ c = 2 ∨ c = 3 ∨ c = 4 ∨ c = 5 ∨ c = 6 ∨ c = 7 ∨ c = 8 by omega) with h | h | h | h | h | h | h | h | h <;> subst h <;> first | rfl | cases h8
def okOp (ims : List Int) (s : ByteArray) : Bool := decide (cls s ≠ 8) && (!immC (cls s) || ims.all (inB (cls s)))
def difS (l : List ByteArray) : Bool := (List.range l.length).all fun i => !hasS (l.take i) (l.getD i ByteArray.empty)
def difI (l : List Int) : Bool := (List.range l.length).all fun i => !decide (l.getD i 0 ∈ l.take i)
def zgj (os : List ByteArray) (ims : List Int) : Bool := decide (1 ≤ os.length ∧ os.length ≤ 4) && (decide (ims.length ≤ 2) && (ims.all inW && (difS os && (difI ims && (List.range os.length).all fun i => okOp ims (os.getD i ByteArray.empty)))))
theorem ztk (l : List ByteArray) (hl : l.length ≤ 1048576) : Ev (fun k => zbm k l) (difS l) := by
  unfold zbm difS
  refine zhl (zjx l.length _ true (fun k i => zas k l l l.length i) ?_ (fun i hi hq => ?_) (fun i r hi hq hr => ?_)) (Bool.and_true _)
  · refine Ev.step (f := fun _ => some true) (fun k => ?_) (Ev.now _)
    simp only [zas]
    rw [if_neg (by omega)]
  · refine Ev.step (fun k => by simp only [zas, zh0 (d0 := ByteArray.empty) (fun d => (zdv l i hi d).trans (zdv l i hi ByteArray.empty).symm), Int.toNat_natCast]; rfl) (zao (by omega) (zao (by omega) (zao (by omega) (zao (by omega) ?_))))
    exact Ev.bind (zmu _ _ (by rw [List.length_take]; omega)) (zao (by simpa using hq) (Ev.now _))
  · refine Ev.step (fun k => by simp only [zas, zh0 (d0 := ByteArray.empty) (fun d => (zdv l i hi d).trans (zdv l i hi ByteArray.empty).symm), Int.toNat_natCast]; rfl) (zao (by omega) (zao (by omega) (zao (by omega) (zao (by omega) ?_))))
    refine Ev.bind (zmu _ _ (by rw [List.length_take]; omega)) (zci (by simpa using hq) ?_)
    rw [w64n i (by omega)]
    exact hr
theorem ztl (l : List Int) (hl : l.length ≤ 1048576) : Ev (fun k => zbj k l) (difI l) := by
  unfold zbj difI
  refine zhl (zjx l.length _ true (fun k i => zay k l l l.length i) ?_ (fun i hi hq => ?_) (fun i r hi hq hr => ?_)) (Bool.and_true _)
  · refine Ev.step (f := fun _ => some true) (fun k => ?_) (Ev.now _)
    simp only [zay]
    rw [if_neg (by omega)]
  · refine Ev.step (fun k => by simp only [zay, zjw (fun d => (zdv l i hi d).trans (zdv l i hi 0).symm), Int.toNat_natCast]; rfl) (zao (by omega) (zao (by omega) (zao (by omega) (zao (by omega) ?_))))
    exact Ev.bind (zmv _ _ (by rw [List.length_take]; omega)) (zao (by simpa using hq) (Ev.now _))
  · refine Ev.step (fun k => by simp only [zay, zjw (fun d => (zdv l i hi d).trans (zdv l i hi 0).symm), Int.toNat_natCast]; rfl) (zao (by omega) (zao (by omega) (zao (by omega) (zao (by omega) ?_))))
    refine Ev.bind (zmv _ _ (by rw [List.length_take]; omega)) (zci (by simpa using hq) ?_)
    rw [w64n i (by omega)]
    exact hr
def opI (ims : List Int) (s : ByteArray) : Bool := decide (cls s ≠ 8) && ims.all fun m => inW m && (!immC (cls s) || inB (cls s) m)
theorem zp2 (os : List ByteArray) (ims : List Int) (ho : os.length ≤ 4) (hi : ims.length ≤ 1048576) : Ev (fun k => zb2 k os os.length 0 os ims) ((List.range os.length).all fun i => opI ims (os.getD i ByteArray.empty)) := by
  have inner : ∀ (i : Nat) (s : ByteArray) r, i < os.length → cls s ≠ 8 → Ev (fun k => zb2 k os os.length ((i + 1 : Nat) : Int) os ims) r → Ev (fun k => zaw k os os.length i ims ims.length 0 os ims (ze5 (cls s) s).1 (ze5 (cls s) s).2.1 (ze5 (cls s) s).2.2.1 (ze5 (cls s) s).2.2.2.1 (ze5 (cls s) s).2.2.2.2.1 (ze5 (cls s) s).2.2.2.2.2.1) ((ims.all fun m => inW m && (!immC (cls s) || inB (cls s) m)) && r) := by
    intro i s r hlt h8 hr
    have hc := zn7 s
    refine zsc ims _ r (fun k j => zaw k os os.length i ims ims.length j os ims (ze5 (cls s) s).1 (ze5 (cls s) s).2.1 (ze5 (cls s) s).2.2.1 (ze5 (cls s) s).2.2.2.1 (ze5 (cls s) s).2.2.2.2.1 (ze5 (cls s) s).2.2.2.2.2.1) ?_ (fun j x hj hx hp => ?_) (fun j x r' hj hx hp hr' => ?_)
    · refine Ev.step (fun k => ?_) hr
      simp only [zaw]
      rw [if_neg (by omega), w64n i (by omega)]
    · refine Ev.step (fun k => by simp only [zaw, zjw hx, zid, zng, zdw, Option.bind_some, zol _ s hc h8]; rfl) (zao (by omega) (zao (by omega) (zao (by omega) ?_)))
      by_cases q : 0 ≤ x ∧ x ≤ 63
      · refine zao (by simpa using q) ?_
        cases hm : immC (cls s)
        · simp [inW, hm, q] at hp
        · refine zao rfl (zci ?_ (Ev.now _))
          rw [zrd _ s hc hm]
          simpa [inW, hm, q] using hp
      · exact zci (by simpa using q) (Ev.now _)
    · refine Ev.step (fun k => by simp only [zaw, zjw hx, zid, zng, zdw, Option.bind_some, zol _ s hc h8]; rfl) (zao (by omega) (zao (by omega) (zao (by omega) ?_)))
      simp only [Bool.and_eq_true] at hp
      refine zao hp.1 ?_
      rw [w64n j (by omega)]
      cases hm : immC (cls s)
      · exact zci (by simp) hr'
      · refine zao rfl (zao ?_ hr')
        rw [zrd _ s hc hm]
        simpa [hm] using hp.2
  have main : ∀ (d i : Nat), i + d = os.length → Ev (fun k => zb2 k os os.length (i : Nat) os ims) ((List.range' i d).all fun i => opI ims (os.getD i ByteArray.empty)) := by
    intro d
    induction d with
    | zero =>
      intro i hi
      refine Ev.step (f := fun _ => some true) (fun k => ?_) (Ev.some rfl)
      simp only [zb2]
      rw [if_neg (by omega)]
    | succ d ih =>
      intro i hi
      have hlt : i < os.length := by omega
      have hx : rdOf ByteArray.empty os i = os.getD i ByteArray.empty := zh0 (fun d => (zdv os i hlt d).trans (zdv os i hlt ByteArray.empty).symm)
      rw [List.range'_succ, List.all_cons]
      obtain ⟨s, es⟩ : ∃ s, s = os.getD i ByteArray.empty := ⟨_, rfl⟩
      rw [← es] at hx ⊢
      refine Ev.step (fun k => by simp only [zb2, hx, zo5, Option.bind_some, ztj _ _ (zn7 _)]; rfl) (zao (by omega) (zao (by omega) (zao (by omega) ?_)))
      by_cases h8 : cls s = 8
      · refine zci (by simpa using h8) (Ev.some ?_)
        rw [show opI ims s = false by simp [opI, h8]]
        rfl
      · refine zao (by simpa using h8) (zhl (inner i _ _ hlt h8 (ih (i + 1) (by omega))) ?_)
        rw [show opI ims s = ims.all fun m => inW m && (!immC (cls s) || inB (cls s) m) by simp [opI, h8]]
  rw [List.range_eq_range']
  exact main os.length 0 (by omega)
theorem zre (os : List ByteArray) (ims : List Int) (ho : 1 ≤ os.length) : ((List.range os.length).all fun i => opI ims (os.getD i ByteArray.empty)) = (ims.all inW && (List.range os.length).all fun i => okOp ims (os.getD i ByteArray.empty)) := by
  rw [Bool.eq_iff_iff]
  simp only [Bool.and_eq_true, List.all_eq_true, List.mem_range, opI, okOp, Bool.or_eq_true, Bool.not_eq_true']
  constructor
  · exact fun h => ⟨fun m hm => ((h 0 ho).2 m hm).1, fun i hi => ⟨(h i hi).1, by
      cases hc : immC (cls (os.getD i ByteArray.empty))
      · exact Or.inl rfl
      · refine Or.inr fun m hm => ?_
        have := ((h i hi).2 m hm).2
        rw [hc] at this
        exact this.resolve_left (by simp)⟩⟩
  · exact fun h i hi => ⟨(h.2 i hi).1, fun m hm => ⟨h.1 m hm, (h.2 i hi).2.imp id (fun g => g m hm)⟩⟩
theorem zni (os : List ByteArray) (ims : List Int) (ho : os.length ≤ 1048576) (hi : ims.length ≤ 1048576) : Ev (fun k => zev k os ims) (zgj os ims) := by
  unfold zev zgj
  refine Ev.call (zng _ _ _) ?_
  by_cases h1 : 1 ≤ os.length ∧ os.length ≤ 4
  · rw [decide_eq_true h1, Bool.true_and]
    refine zao (by simp; omega) ?_
    by_cases h2 : ims.length ≤ 2
    · rw [decide_eq_true h2, Bool.true_and]
      refine zci (by omega) (Ev.bind (ztk os ho) ?_)
      cases hd : difS os
      · refine zci (by decide) (Ev.step (fun k => by simp only [zap]; rfl) (zao (show true = true from rfl) (Ev.some ?_)))
        simp
      · refine zao rfl (Ev.bind (ztl ims hi) ?_)
        cases hd2 : difI ims
        · refine Ev.step (fun k => by simp only [zap]; rfl) (zao (by decide) (Ev.some ?_))
          simp
        · refine Ev.step (fun k => by simp only [zap]; rfl) (zci (by decide) ?_)
          refine zhl (zp2 os ims h1.2 hi) ?_
          rw [zre os ims h1.1, Bool.true_and, Bool.true_and]
    · rw [decide_eq_false h2, Bool.false_and]
      refine zao (by omega) (Ev.step (fun k => by simp only [zap]; rfl) (zao (show true = true from rfl) (Ev.now _)))
  · rw [decide_eq_false h1, Bool.false_and]
    exact zci (by simp; omega) (Ev.step (fun k => by simp only [zap]; rfl) (zao (show true = true from rfl) (Ev.now _)))
theorem zrf (os : List ByteArray) (ims : List Int) (ho : os.length ≤ 1048576) (hi : ims.length ≤ 1048576) : Ev (fun k => zfe k os ims) (zgj os ims) := by
  unfold zfe zgj
  refine Ev.call (zp0 _ _ _) ?_
  by_cases h1 : 1 ≤ os.length ∧ os.length ≤ 4
  · rw [decide_eq_true h1, Bool.true_and]
    refine zao (by simp; omega) ?_
    by_cases h2 : ims.length ≤ 2
    · rw [decide_eq_true h2, Bool.true_and]
      refine zci (by omega) (Ev.bind (zoj ims 0 63 hi) ?_)
      cases hw : ims.all (fun n => decide (0 ≤ n ∧ n ≤ 63))
      · rw [show ims.all inW = false from hw]
        exact Ev.step (fun k => by simp only [zbh]; rfl) (zao (by decide) (Ev.now _))
      · rw [show ims.all inW = true from hw, Bool.true_and]
        refine Ev.step (fun k => by simp only [zbh]; rfl) (zci (by decide) ?_)
        have last : Ev (fun k => zcg k ims ims.length 0 os ims) (difI ims) := by
          unfold difI
          refine zhl (zjx ims.length _ true (fun k i => zcg k ims ims.length i os ims) ?_ (fun i hi hq => ?_) (fun i r hi hq hr => ?_)) (Bool.and_true _)
          · refine Ev.step (f := fun _ => some true) (fun k => ?_) (Ev.now _)
            simp only [zcg]
            rw [if_neg (by omega)]
          · refine Ev.step (fun k => by simp only [zcg, zjw (fun d => (zdv ims i hi d).trans (zdv ims i hi 0).symm), Int.toNat_natCast]; rfl) (zao (by omega) (zao (by omega) (zao (by omega) (zao (by omega) ?_))))
            exact Ev.bind (zqf _ _ (by rw [List.length_take]; omega)) (zao (by simpa using hq) (Ev.now _))
          · refine Ev.step (fun k => by simp only [zcg, zjw (fun d => (zdv ims i hi d).trans (zdv ims i hi 0).symm), Int.toNat_natCast]; rfl) (zao (by omega) (zao (by omega) (zao (by omega) (zao (by omega) ?_))))
            refine Ev.bind (zqf _ _ (by rw [List.length_take]; omega)) (zci (by simpa using hq) ?_)
            rw [w64n i (by omega)]
            exact hr
        have first := zjx os.length (fun i => okOp ims (os.getD i ByteArray.empty) && !hasS (os.take i) (os.getD i ByteArray.empty)) (difI ims) (fun k i => za6 k os os.length i os ims) (by
          refine Ev.step (fun k => ?_) last
          simp only [za6]
          rw [if_neg (by omega)]) (fun i hlt hq => by
          have hx : rdOf ByteArray.empty os i = os.getD i ByteArray.empty := zh0 (fun d => (zdv os i hlt d).trans (zdv os i hlt ByteArray.empty).symm)
          obtain ⟨s, es⟩ : ∃ s, s = os.getD i ByteArray.empty := ⟨_, rfl⟩
          rw [← es] at hx hq
          refine Ev.step (fun k => by simp only [za6, hx, Int.toNat_natCast]; rfl) (zao (by omega) (zao (by omega) (zao (by omega) (Ev.bind (zoi _) ?_))))
          rw [zqg _ (zn7 _)]
          by_cases h8 : cls s = 8
          · exact zci (by simpa using h8) (Ev.now _)
          refine zao (by simpa using h8) (zao (by omega) (Ev.bind (znh _ _ (by rw [List.length_take]; omega)) ?_))
          cases hh : hasS (os.take i) s
          · refine zci (by decide) (Ev.bind (zok _) ?_)
            rw [hh] at hq
            cases hm : immC (cls s)
            · simp [okOp, h8, hm] at hq
            · refine zao rfl (Ev.bind (zoj ims _ _ hi) (zci ?_ (Ev.now _)))
              simpa [okOp, h8, hm, inB] using hq
          · exact zao rfl (Ev.now _)) (fun i r hlt hq hr => by
          have hx : rdOf ByteArray.empty os i = os.getD i ByteArray.empty := zh0 (fun d => (zdv os i hlt d).trans (zdv os i hlt ByteArray.empty).symm)
          obtain ⟨s, es⟩ : ∃ s, s = os.getD i ByteArray.empty := ⟨_, rfl⟩
          rw [← es] at hx hq
          simp only [okOp, Bool.and_eq_true, decide_eq_true_eq, Bool.not_eq_true', Bool.or_eq_true] at hq
          refine Ev.step (fun k => by simp only [za6, hx, Int.toNat_natCast]; rfl) (zao (by omega) (zao (by omega) (zao (by omega) (Ev.bind (zoi _) ?_))))
          rw [zqg _ (zn7 _)]
          refine zao (by simpa using hq.1.1) (zao (by omega) (Ev.bind (znh _ _ (by rw [List.length_take]; omega)) ?_))
          refine zci (by simp [hq.2]) (Ev.bind (zok _) ?_)
          rw [w64n i (by omega)]
          cases hm : immC (cls s)
          · exact zci (by decide) hr
          · have := hq.1.2.resolve_left (by simp [hm])
            exact zao rfl (Ev.bind (zoj ims _ _ hi) (zao this hr)))
        refine zhl first ?_
        rw [Bool.eq_iff_iff]
        simp only [difS, Bool.and_eq_true, List.all_eq_true, List.mem_range]
        exact ⟨fun h => ⟨fun i hi => (h.1 i hi).2, h.2, fun i hi => (h.1 i hi).1⟩, fun h => ⟨fun i hi => ⟨h.2.2 i hi, h.1 i hi⟩, h.2.1⟩⟩
    · rw [decide_eq_false h2, Bool.false_and]
      refine zao (by omega) (Ev.step (fun k => by simp only [zbh]; rfl) (zao (show true = true from rfl) (Ev.now _)))
  · rw [decide_eq_false h1, Bool.false_and]
    exact zci (by simp; omega) (Ev.step (fun k => by simp only [zbh]; rfl) (zao (show true = true from rfl) (Ev.now _)))
theorem zj2 {α β : Type} (xs : List α) (g : α → List β) (c : Nat) (h : ∀ x ∈ xs, (g x).length ≤ c) : (xs.flatMap g).length ≤ xs.length * c := by
  induction xs with
  | nil => simp
  | cons x xs ih =>
    rw [List.flatMap_cons, List.length_append, List.length_cons]
    have a := h x (by simp)
    have b := ih (fun y hy => h y (List.mem_cons_of_mem _ hy))
    rw [Nat.succ_mul]
    omega
def zkv (u : Bool) (n : Nat) : List Int := if u = true then zf7 n 0 else [0]
def imsM (c : Nat) (ims : List Int) : List Int := if immC c = true then ims else [0]
def zjl (ims : List Int) (t : Nat) (s : ByteArray) : List Instr := (zkv (ze3 (cls s)).2.1 (2 + t)).flatMap fun a => (zkv (ze3 (cls s)).2.2.1 (2 + t)).flatMap fun b => (imsM (cls s) ims).flatMap fun m => [⟨s, ((2 + t : Nat) : Int), a, b, m⟩]
def zki (os : List ByteArray) (ims : List Int) (t : Nat) : List Instr := os.flatMap (zjl ims t)
theorem zjy (u : Bool) (n : Nat) (h : 1 ≤ n) : (zkv u n).length ≤ n := by
  unfold zkv
  split
  · rw [zmp]; exact Nat.le_refl _
  · simpa using h
theorem zp3 (ims : List Int) (t : Nat) (s : ByteArray) (h : ims.length ≤ 2) (ht : t ≤ 3) : (zjl ims t s).length ≤ 50 := by
  have hi : (imsM (cls s) ims).length ≤ 2 := by
    unfold imsM
    split
    · exact h
    · simp
  have a := zjy (ze3 (cls s)).2.1 (2 + t) (by omega)
  have b := zjy (ze3 (cls s)).2.2.1 (2 + t) (by omega)
  have e1 : ∀ x y : Int, ((imsM (cls s) ims).flatMap fun m => [(⟨s, ((2 + t : Nat) : Int), x, y, m⟩ : Instr)]).length ≤ 2 := fun x y => by
    have := zj2 (imsM (cls s) ims) (fun m => [(⟨s, ((2 + t : Nat) : Int), x, y, m⟩ : Instr)]) 1 (by simp)
    omega
  have e2 : ∀ x : Int, ((zkv (ze3 (cls s)).2.2.1 (2 + t)).flatMap fun y => (imsM (cls s) ims).flatMap fun m => [(⟨s, ((2 + t : Nat) : Int), x, y, m⟩ : Instr)]).length ≤ 10 := fun x => by
    have := zj2 (zkv (ze3 (cls s)).2.2.1 (2 + t)) (fun y => (imsM (cls s) ims).flatMap fun m => [(⟨s, ((2 + t : Nat) : Int), x, y, m⟩ : Instr)]) 2 (fun y _ => e1 x y)
    omega
  have := zj2 (zkv (ze3 (cls s)).2.1 (2 + t)) _ 10 (fun x _ => e2 x)
  unfold zjl
  omega
theorem zij (os : List ByteArray) (ims : List Int) (t : Nat) (ho : os.length ≤ 4) (h : ims.length ≤ 2) (ht : t ≤ 3) : (zki os ims t).length ≤ 200 := by
  have := zj2 os (zjl ims t) 50 (fun s _ => zp3 ims t s h ht)
  unfold zki
  omega
theorem zrg (u : Bool) (n : Nat) (hn : n ≤ 1048576) : Ev (fun k => zgm k u (n : Int)) (zkv u n) := by
  have key : ∀ (d : Nat) (xs : List Int) (b : Nat), xs.length + d ≤ 1048576 → b + d = n → Ev (fun k => zdh k xs n b) (xs ++ zf7 d b) := by
    intro d
    induction d with
    | zero =>
      intro xs b h h'
      refine Ev.step (f := fun _ => some xs) (fun k => ?_) (Ev.some (by simp [zf7]))
      simp only [zdh]
      rw [if_neg (by omega)]
    | succ d ih =>
      intro xs b h h'
      refine Ev.step (fun k => ?_) (zhl (ih (xs ++ [(b : Int)]) (b + 1) (by simp; omega) (by omega)) (by simp [zf7]))
      simp only [zdh]
      rw [if_pos (by omega), if_pos (by omega), w64n _ (by omega)]
  unfold zgm zkv
  cases u
  · exact zci (by decide) (Ev.now _)
  · exact zao rfl (by simpa using key n [] 0 (by simpa using hn) (by omega))
theorem zo6 (u : Bool) (t : Nat) (ht : t ≤ 1000) : Ev (fun k => ze0 k u (t : Int)) (zkv u (2 + t)) := by
  have e2 : wrap64 (2 + (t : Int)) = ((2 + t : Nat) : Int) := by rw [w64 (by omega) (by omega)]; omega
  unfold ze0 zkv
  cases u
  · refine Ev.step (f := fun _ => some [0]) (fun k => ?_) (Ev.now _)
    simp only [zb9]
    rw [if_neg (by decide)]
  have key : ∀ (d : Nat) (xs : List Int) (b : Nat), xs.length + d ≤ 1048576 → b + d = 2 + t → Ev (fun k => zb9 k true (t : Int) xs b) (xs ++ zf7 d b) := by
    intro d
    induction d with
    | zero =>
      intro xs b h h'
      refine Ev.step (f := fun _ => some xs) (fun k => ?_) (Ev.some (by simp [zf7]))
      simp only [zb9, e2]
      rw [if_pos trivial, if_neg (by omega)]
    | succ d ih =>
      intro xs b h h'
      refine Ev.step (fun k => ?_) (zhl (ih (xs ++ [(b : Int)]) (b + 1) (by simp; omega) (by omega)) (by simp [zf7]))
      simp only [zb9, e2]
      rw [if_pos trivial, if_pos (by omega), if_pos (by omega), w64n _ (by omega)]
  have := key (1 + t) [0] 1 (by simp; omega) (by omega)
  refine zhl this ?_
  rw [if_pos rfl, show 2 + t = (1 + t) + 1 by omega]
  rfl
theorem zrh (os : List ByteArray) (ims : List Int) (s : ByteArray) : Ev (fun k => zfw k os ims s) (imsM (cls s) ims) := by
  unfold zfw imsM
  refine Ev.bind (zok s) ?_
  cases immC (cls s)
  · exact zci (by decide) (Ev.now _)
  · exact zao rfl (Ev.now _)
theorem zqh (os : List ByteArray) (ims : List Int) (t : Nat) (ho : os.length ≤ 4) (hi : ims.length ≤ 2) (ht : t ≤ 3) (hc : ∀ s ∈ os, cls s ≠ 8) : Ev (fun k => zgn k os ims t) (zki os ims t) := by
  have e2 : wrap64 (2 + (t : Int)) = ((2 + t : Nat) : Int) := by rw [w64 (by omega) (by omega)]; omega
  unfold zgn zki
  have hb := zij os ims t ho hi ht
  unfold zki at hb
  refine zhl (zje os (zjl ims t) 200 (fun k x i => zdj k t x os os.length i os ims) [] (fun s hs => ?_) (fun i x5 s U hio hx hN H => ?_) [] (by simpa using hb)) (by simp)
  · refine Ev.step (f := fun _ => some s) (fun k => ?_) (Ev.some (by simp))
    simp only [zdj]
    rw [if_neg (by omega)]
  have hcl := zn7 s
  have h8 := hc s (zp1 hio hx)
  refine Ev.step (fun k => by simp only [zdj, zh0 (d0 := ByteArray.empty) hx, zo5, zdw, Option.bind_some, zol _ s hcl h8]; rfl) (zao (by omega) (zao (by omega) (zao (by omega) ?_)))
  have body : Ev (fun k => zb7 k t x5 s (imsM (cls s) ims) os os.length i os ims (ze5 (cls s) s).1 (ze5 (cls s) s).2.1 (ze5 (cls s) s).2.2.1 (ze5 (cls s) s).2.2.2.1 (ze5 (cls s) s).2.2.2.2.1 (ze5 (cls s) s).2.2.2.2.2.1) (x5 ++ (zjl ims t s ++ U)) := by
    have r1 := zrg (ze5 (cls s) s).1 (2 + t) (by omega)
    have r2 := zrg (ze5 (cls s) s).2.1 (2 + t) (by omega)
    have l1 := zjy (ze5 (cls s) s).1 (2 + t) (by omega)
    have l2 := zjy (ze5 (cls s) s).2.1 (2 + t) (by omega)
    have l3 : (imsM (cls s) ims).length ≤ 2 := by
      unfold imsM
      split
      · exact hi
      · simp
    unfold zjl at hN ⊢
    rw [← zth _ s hcl, ← zti _ s hcl] at hN ⊢
    refine Ev.step (fun k => by simp only [zb7, e2]; rfl) (Ev.bind r1 ?_)
    generalize imsM (cls s) ims = M at *
    generalize zkv (ze5 (cls s) s).1 (2 + t) = A at *
    generalize zkv (ze5 (cls s) s).2.1 (2 + t) = B at *
    generalize (ze5 (cls s) s) = F at *
    refine zje A _ 200 (fun k x j => zdq k t x s M os os.length i A A.length j os ims F.1 F.2.1 F.2.2.1 F.2.2.2.1 F.2.2.2.2.1 F.2.2.2.2.2.1) U (fun x hs => ?_) (fun j x5 a U' hj hxa hN' H' => ?_) x5 hN
    · refine Ev.step (fun k => ?_) (H x hs)
      simp only [zdq]
      rw [if_neg (by omega), w64n i (by omega)]
    refine Ev.step (fun k => by simp only [zdq, zjw hxa, e2]; rfl) (zao (by omega) (zao (by omega) (zao (by omega) (Ev.bind r2 ?_))))
    refine zje B _ 200 (fun k x q => zdr k t x s M a os os.length i A A.length j B B.length q os ims F.1 F.2.1 F.2.2.1 F.2.2.2.1 F.2.2.2.2.1 F.2.2.2.2.2.1) U' (fun x hs => ?_) (fun q x5 b U2 hq hxb hN2 H2 => ?_) x5 hN'
    · refine Ev.step (fun k => ?_) (H' x hs)
      simp only [zdr]
      rw [if_neg (by omega), w64n j (by omega)]
    refine Ev.step (fun k => by simp only [zdr, zjw hxb]; rfl) (zao (by omega) (zao (by omega) (zao (by omega) ?_)))
    refine zje M _ 200 (fun k x p => zds k t x s M a b os os.length i A A.length j B B.length q M M.length p os ims F.1 F.2.1 F.2.2.1 F.2.2.2.1 F.2.2.2.2.1 F.2.2.2.2.2.1) U2 (fun x hs => ?_) (fun p x5 m U3 hp hxm hN3 H3 => ?_) x5 hN2
    · refine Ev.step (fun k => ?_) (H2 x hs)
      simp only [zds]
      rw [if_neg (by omega), w64n q (by omega)]
    have hlen : x5.length < 2932031007402 := by
      rw [List.length_append] at hN3
      omega
    have := H3 (x5 ++ [⟨s, ((2 + t : Nat) : Int), a, b, m⟩]) (by rw [List.append_assoc]; exact hN3)
    rw [List.append_assoc] at this
    refine Ev.step (fun k => ?_) this
    simp only [zds, zjw hxm, e2]
    rw [if_pos (by omega), if_pos (by omega), if_pos (by omega), if_pos hlen, w64n p (by omega)]
  unfold imsM at body
  cases h : immC (cls s)
  · rw [h] at body
    exact zci (by decide) (by simpa using body)
  · rw [h] at body
    exact zao rfl (by simpa using body)
theorem zn8 (os : List ByteArray) (ims : List Int) (t : Nat) (ho : os.length ≤ 4) (hi : ims.length ≤ 2) (ht : t ≤ 3) : Ev (fun k => zfh k os ims t) (zki os ims t) := by
  have e2 : wrap64 (2 + (t : Int)) = ((2 + t : Nat) : Int) := by rw [w64 (by omega) (by omega)]; omega
  unfold zfh zki
  have hb := zij os ims t ho hi ht
  unfold zki at hb
  refine zhl (zje os (zjl ims t) 200 (fun k x i => zcz k t x os os.length i os ims) [] (fun s hs => ?_) (fun i x5 s U hio hx hN H => ?_) [] (by simpa using hb)) (by simp)
  · refine Ev.step (f := fun _ => some s) (fun k => ?_) (Ev.some (by simp))
    simp only [zcz]
    rw [if_neg (by omega)]
  refine Ev.step (fun k => by simp only [zcz, zh0 (d0 := ByteArray.empty) hx]; rfl) (zao (by omega) (zao (by omega) (zao (by omega) (Ev.bind (zoi s) ?_))))
  have r1 := zo6 (ze3 (cls s)).2.1 t (by omega)
  have r2 := zo6 (ze3 (cls s)).2.2.1 t (by omega)
  have r3 := zrh os ims s
  have l1 := zjy (ze3 (cls s)).2.1 (2 + t) (by omega)
  have l2 := zjy (ze3 (cls s)).2.2.1 (2 + t) (by omega)
  have l3 : (imsM (cls s) ims).length ≤ 2 := by
    unfold imsM
    split
    · exact hi
    · simp
  unfold zjl at hN ⊢
  refine Ev.bind r1 ?_
  generalize imsM (cls s) ims = M at *
  generalize zkv (ze3 (cls s)).2.1 (2 + t) = A at *
  generalize zkv (ze3 (cls s)).2.2.1 (2 + t) = B at *
  generalize (ze3 (cls s)).2.2.1 = F at *
  refine zje A _ 200 (fun k x j => zco k t x s F os os.length i A A.length j os ims) U (fun x hs => ?_) (fun j x5 a U' hj hxa hN' H' => ?_) x5 hN
  · refine Ev.step (fun k => ?_) (H x hs)
    simp only [zco]
    rw [if_neg (by omega), w64n i (by omega)]
  refine Ev.step (fun k => by simp only [zco, zjw hxa]; rfl) (zao (by omega) (zao (by omega) (zao (by omega) (Ev.bind r2 ?_))))
  refine zje B _ 200 (fun k x q => zc0 k t x s F a os os.length i A A.length j B B.length q os ims) U' (fun x hs => ?_) (fun q x5 b U2 hq hxb hN2 H2 => ?_) x5 hN'
  · refine Ev.step (fun k => ?_) (H' x hs)
    simp only [zc0]
    rw [if_neg (by omega), w64n j (by omega)]
  refine Ev.step (fun k => by simp only [zc0, zjw hxb]; rfl) (zao (by omega) (zao (by omega) (zao (by omega) (Ev.bind r3 ?_))))
  refine zje M _ 200 (fun k x p => zcp k t x s F a b os os.length i A A.length j B B.length q M M.length p os ims) U2 (fun x hs => ?_) (fun p x5 m U3 hp hxm hN3 H3 => ?_) x5 hN2
  · refine Ev.step (fun k => ?_) (H2 x hs)
    simp only [zcp]
    rw [if_neg (by omega), w64n q (by omega)]
  have hlen : x5.length < 2932031007402 := by
    rw [List.length_append] at hN3
    omega
  have := H3 (x5 ++ [⟨s, ((2 + t : Nat) : Int), a, b, m⟩]) (by rw [List.append_assoc]; exact hN3)
  rw [List.append_assoc] at this
  refine Ev.step (fun k => ?_) this
  simp only [zcp, zjw hxm, e2]
  rw [if_pos (by omega), if_pos (by omega), if_pos (by omega), if_pos hlen, w64n p (by omega)]
theorem znj {os : List ByteArray} {ims : List Int} (h : zgj os ims = true) : os.length ≤ 4 ∧ ims.length ≤ 2 ∧ ∀ s ∈ os, cls s ≠ 8 := by
  unfold zgj at h
  simp only [Bool.and_eq_true, decide_eq_true_eq, List.all_eq_true (l := List.range os.length), List.mem_range, okOp] at h
  refine ⟨h.1.2, h.2.1, fun s hs => ?_⟩
  obtain ⟨i, hi, rfl⟩ := List.getElem_of_mem hs
  have := (h.2.2.2.2.2 i hi).1
  rw [zdv os i hi] at this
  exact this
theorem znw (l : List ByteArray) (a : Nat) (hl : l.length ≤ 1048576) (ha : a ≤ 1048576) : ∃ l', Ev (fun k => zed k l a) (((a + l.length : Nat) : Int), l') := by
  have key : ∀ (d i : Nat) (x : List ByteArray) (b : Nat), x.length ≤ 1048576 → i + d = x.length → b + d ≤ 4194304 → ∃ l', Ev (fun k => zbk k x (b : Int) i) (((b + d : Nat) : Int), l') := by
    intro d
    induction d with
    | zero =>
      intro i x b hxl hi hb
      refine ⟨x, Ev.step (f := fun _ => some ((b : Int), x)) (fun k => ?_) (Ev.now _)⟩
      simp only [zbk]
      rw [if_neg (by omega)]
    | succ d ih =>
      intro i x b hxl hi hb
      obtain ⟨l', h⟩ := ih (i + 1) (x.set i (mtx b)) (b + 1) (by rw [List.length_set]; exact hxl) (by rw [List.length_set]; omega) (by omega)
      refine ⟨l', ?_⟩
      refine Ev.step (fun k => by simp only [zbk, Int.toNat_natCast]; rfl) ?_
      refine zao (by omega) ?_
      refine Ev.bind (zs0 b (by omega)) ?_
      refine zao (by omega) ?_
      rw [w64n b (by omega), w64n i (by omega), show b + (d + 1) = b + 1 + d by omega]
      exact h
  obtain ⟨l', h⟩ := key l.length 0 l a hl (by omega) (by omega)
  exact ⟨l', h⟩
def eqB (x y : Instr) : Bool := x.f0.toList == y.f0.toList && (x.f1 == y.f1 && (x.f2 == y.f2 && (x.f3 == y.f3 && x.f4 == y.f4)))
def zp4 (l : List Instr) (x : Instr) : Int := idx (eqB x) l
theorem zqi (l : List Instr) (x : Instr) (hl : l.length ≤ 1048576) : Ev (fun k => zeh k l x.f0 x.f1 x.f2 x.f3 x.f4) (zp4 l x) := by
  unfold zeh zp4
  refine zl2 l _ (fun k i => zbz k l l.length i x.f0 x.f1 x.f2 x.f3 x.f4) ?_ (fun i y hi hx hp => ?_) (fun i y r hi hx hp hr => ?_)
  · refine Ev.step (f := fun _ => some (-1)) (fun k => ?_) (Ev.now _)
    simp only [zbz]
    rw [if_neg (by omega)]
  · refine Ev.step (fun k => by simp only [zbz, zn4 hx]; rfl) (zao (by omega) (zao (by omega) (zao (by omega) (zao hp (Ev.now _)))))
  · refine Ev.step (fun k => by simp only [zbz, zn4 hx]; rfl) (zao (by omega) (zao (by omega) (zao (by omega) (zci (fun e => by rw [show eqB x y = true from e] at hp; cases hp) ?_))))
    rw [w64n i (by omega)]
    exact hr
theorem zn9 (l : List Instr) (x : Instr) (hl : l.length ≤ 1048576) : Ev (fun k => ze2 k l x.f0 x.f1 x.f2 x.f3 x.f4) (zp4 l x) := by
  unfold ze2 zp4
  refine zl2 l _ (fun k i => zcn k l l.length i x.f0 x.f1 x.f2 x.f3 x.f4) ?_ (fun i y hi hx hp => ?_) (fun i y r hi hx hp hr => ?_)
  · refine Ev.step (f := fun _ => some (-1)) (fun k => ?_) (Ev.now _)
    simp only [zcn]
    rw [if_neg (by omega)]
  · refine Ev.step (fun k => by simp only [zcn, zn4 hx]; rfl) (zao (by omega) (zao (by omega) (zao (by omega) (zao hp (Ev.now _)))))
  · refine Ev.step (fun k => by simp only [zcn, zn4 hx]; rfl) (zao (by omega) (zao (by omega) (zao (by omega) (zci (fun e => by rw [show eqB x y = true from e] at hp; cases hp) ?_))))
    rw [w64n i (by omega)]
    exact hr
def zj3 (os : List ByteArray) (ims : List Int) (l : List Instr) : Bool := decide (l.length ≤ 3) && (List.range l.length).all fun i => decide (0 ≤ zp4 (zki os ims i) (l.getD i z102))
theorem zl4 (l : List Instr) (i : Nat) (h : i < l.length) : zab l i = l.getD i z102 := zn4 (fun d => (zdv l i h d).trans (zdv l i h _).symm)
theorem zo7 (os : List ByteArray) (ims : List Int) (l : List Instr) (h : zgj os ims = true) (hl : l.length ≤ 1048576) : Ev (fun k => zdp k os ims l) (zj3 os ims l) := by
  obtain ⟨ho, hi, hc⟩ := znj h
  unfold zdp
  refine zhl (zjx l.length (fun i => decide (i < 3) && decide (0 ≤ zp4 (zki os ims i) (l.getD i z102))) true (fun k i => zbp k l l.length i os ims) ?_ (fun i hlt hq => ?_) (fun i r hlt hq hr => ?_)) ?_
  · refine Ev.step (f := fun _ => some true) (fun k => ?_) (Ev.now _)
    simp only [zbp]
    rw [if_neg (by omega)]
  · refine Ev.step (fun k => by simp only [zbp, zl4 l i hlt]; rfl) (zao (by omega) (zao (by omega) (zao (by omega) ?_)))
    by_cases h3 : i < 3
    · refine zci (by omega) (Ev.bind (zqh os ims i ho hi (by omega) hc) ?_)
      have hb := zij os ims i ho hi (by omega)
      rw [decide_eq_true h3, Bool.true_and] at hq
      exact Ev.bind (Ev.bind (zqi _ _ (by omega)) (Ev.now _)) (zci (fun e => of_decide_eq_false hq (of_decide_eq_true e)) (Ev.now _))
    · exact zao (by omega) (Ev.now _)
  · refine Ev.step (fun k => by simp only [zbp, zl4 l i hlt]; rfl) (zao (by omega) (zao (by omega) (zao (by omega) ?_)))
    rw [Bool.and_eq_true, decide_eq_true_eq, decide_eq_true_eq] at hq
    refine zci (by omega) (Ev.bind (zqh os ims i ho hi (by omega) hc) ?_)
    have hb := zij os ims i ho hi (by omega)
    refine Ev.bind (Ev.bind (zqi _ _ (by omega)) (Ev.now _)) (zao (decide_eq_true hq.2) ?_)
    rw [w64n i (by omega)]
    exact hr
  · unfold zj3
    rw [Bool.and_true, Bool.eq_iff_iff]
    simp only [Bool.and_eq_true, List.all_eq_true, List.mem_range, decide_eq_true_eq]
    constructor
    · refine fun g => ⟨?_, fun i hi => (g i hi).2⟩
      by_cases h4 : l.length ≤ 3
      · exact h4
      · have := (g 3 (by omega)).1
        omega
    · exact fun g i hi => ⟨by omega, g.2 i hi⟩
theorem ztm (os : List ByteArray) (ims : List Int) (l : List Instr) (h : zgj os ims = true) : Ev (fun k => zfi k os ims l) (zj3 os ims l) := by
  obtain ⟨ho, hi, hc⟩ := znj h
  unfold zfi zj3
  by_cases h3 : l.length ≤ 3
  · rw [decide_eq_true h3, Bool.true_and]
    refine zci (by omega) (zhl (zjx l.length _ true (fun k i => zdi k l l.length i os ims) ?_ (fun i hlt hq => ?_) (fun i r hlt hq hr => ?_)) (Bool.and_true _))
    · refine Ev.step (f := fun _ => some true) (fun k => ?_) (Ev.now _)
      simp only [zdi]
      rw [if_neg (by omega)]
    · refine Ev.step (fun k => by simp only [zdi, zl4 l i hlt]; rfl) (zao (by omega) (zao (by omega) (zao (by omega) ?_)))
      have hb := zij os ims i ho hi (by omega)
      refine Ev.bind (zn8 os ims i ho hi (by omega)) (Ev.bind (zn9 _ _ (by omega)) (zao ?_ (Ev.now _)))
      have := of_decide_eq_false hq
      omega
    · refine Ev.step (fun k => by simp only [zdi, zl4 l i hlt]; rfl) (zao (by omega) (zao (by omega) (zao (by omega) ?_)))
      have hb := zij os ims i ho hi (by omega)
      have := of_decide_eq_true hq
      refine Ev.bind (zn8 os ims i ho hi (by omega)) (Ev.bind (zn9 _ _ (by omega)) (zci (by omega) ?_))
      rw [w64n i (by omega)]
      exact hr
  · rw [decide_eq_false h3, Bool.false_and]
    exact zao (by omega) (Ev.now _)
end Go.Proofs.Ytccoiifklcgodaa.PL
end
section
namespace Go.Proofs.Ytccoiifklcgodaa.Q
open Go.RowKit Go.Proofs.YtccoiifklcgodaaW.PrintWords Go.Proofs.YtccoiifklcgodaaW.PrintLast Go.Proofs.YtccoiifklcgodaaW.PrintMore
attribute [local go_sem] zdk zdl zee zef zcq zcr zdm zdn
set_option linter.unusedVariables false
set_option linter.unusedSimpArgs false
end Go.Proofs.Ytccoiifklcgodaa.Q
end
section
namespace Go.Proofs.Ytccoiifklcgodaa.PL
open Go Go.RowKit Go.Proofs.YtccoiifklcgodaaW.PrintWords Go.Proofs.YtccoiifklcgodaaW.PrintLast Go.Proofs.YtccoiifklcgodaaW.PrintMore Go.Proofs.Ytccoiifklcgodaa.Q
set_option linter.unusedSimpArgs false
set_option linter.unusedVariables false
theorem zse (n : Int) : bits .and .i64 n 63 = n % 64 := by
  have h63 : (BitVec.ofInt 64 63).toNat = 2 ^ 6 - 1 := by decide
  have key : (BitVec.ofInt 64 n &&& BitVec.ofInt 64 63).toNat = (n % ((2 ^ 64 : Nat) : Int)).toNat % 2 ^ 6 := by
    rw [BitVec.toNat_and, BitVec.toNat_ofInt, h63, Nat.and_two_pow_sub_one_eq_mod]
  show IntKind.i64.wrap ((BitVec.ofInt 64 n &&& BitVec.ofInt 64 63).toNat : Nat) = n % 64
  rw [key, IntKind.wrap_i64]
  omega
def okV (v : Int) : Prop := 0 ≤ v ∧ v ≤ 63
theorem ztn (n : Int) : okV (bits .and .i64 n 63) := by
  rw [zse]
  unfold okV
  omega
theorem zuq (b : Bool) : zii b = some (if b = true then 1 else 0) := by
  cases b <;> rfl
theorem zom (s : ByteArray) (a b : Int) : zei s a b = zbi s a b := by
  unfold zei zbi
  simp only [zuq, Option.bind_some]
  repeat refine ite_congr rfl (fun _ => rfl) (fun _ => ?_)
  refine ite_congr rfl (fun _ => ?_) (fun _ => ite_congr rfl (fun _ => ?_) (fun _ => rfl))
  · by_cases h : a < b
    · rw [if_pos h, if_pos (by simpa using h)]
    · rw [if_neg h, if_neg (by simpa using h)]
  · by_cases h : a = b
    · rw [if_pos h, if_pos (by simpa using h)]
    · rw [if_neg h, if_neg (by simpa using h)]
theorem zur {c : Prop} [Decidable c] {x y : Option Int} {P : Int → Prop} (hx : ∃ v, x = some v ∧ P v) (hy : ∃ v, y = some v ∧ P v) : ∃ v, (if c then x else y) = some v ∧ P v := by
  by_cases h : c
  · rw [if_pos h]; exact hx
  · rw [if_neg h]; exact hy
theorem zmq (s : ByteArray) (a b : Int) (hb : 0 ≤ b) : ∃ v, zbi s a b = some v ∧ okV v := by
  unfold zbi
  rw [if_pos hb, if_pos hb]
  repeat' refine zur ?_ ?_
  all_goals exact ⟨_, rfl, ztn _⟩
def okS (s : List Int) : Prop := s.length = 6 ∧ ∀ v ∈ s, okV v
theorem zo8 {s : List Int} (h : okS s) {i : Int} (h0 : 0 ≤ i) (h1 : i ≤ 5) : okV (rd s i) := by
  have hi : i.toNat < s.length := by rw [h.1]; omega
  unfold rd
  rw [zdv s _ hi]
  exact h.2 _ (List.getElem_mem hi)
theorem zto {s : List Int} (h : okS s) (i : Nat) {v : Int} (hv : okV v) : okS (s.set i v) := by
  refine ⟨by rw [List.length_set]; exact h.1, fun u hu => ?_⟩
  rcases List.mem_or_eq_of_mem_set hu with hu | rfl
  · exact h.2 u hu
  · exact hv
theorem zon {x : Instr} (h : okI x) : 0 ≤ x.f1 ∧ x.f1 ≤ 5 ∧ 0 ≤ x.f2 ∧ x.f2 ≤ 5 ∧ 0 ≤ x.f3 ∧ x.f3 ≤ 5 ∧ 0 ≤ x.f4 ∧ x.f4 ≤ 63 := by
  obtain ⟨hc, h1, h2, h3, h4⟩ := h
  rcases zrb x.f0 with e | e | e | e | e | e | e | e | e <;> simp only [e, ze3] at h2 h3 h4 <;> simp at h2 h3 h4 <;> first | omega | exact absurd e hc
theorem zsf (x : Instr) (s : List Int) (h : okI x) (hs : okS s) : ∃ v, zes x.f0 x.f1 x.f2 x.f3 x.f4 s = some v ∧ okV v := by
  obtain ⟨h1, h1', h2, h2', h3, h3', h4, h4'⟩ := zon h
  have hl := hs.1
  have ha := zo8 hs h2 h2'
  have hb := zo8 hs h3 h3'
  unfold zes
  rw [if_pos h2, if_pos (by omega), if_pos h3, if_pos (by omega)]
  have one : ∀ t a b, 0 ≤ b → ∃ v, ((zbi t a b).bind fun v => some v) = some v ∧ okV v := fun t a b hb => by
    obtain ⟨v, e, hv⟩ := zmq t a b hb
    exact ⟨v, by rw [e]; rfl, hv⟩
  by_cases qset : x.f0.toList = ([115, 101, 116] : List UInt8)
  · rw [if_pos qset]
    exact ⟨_, rfl, h4, h4'⟩
  rw [if_neg qset]
  by_cases qmov : x.f0.toList = ([109, 111, 118] : List UInt8)
  · rw [if_pos qmov]
    exact ⟨_, rfl, ha⟩
  rw [if_neg qmov]
  by_cases qaddi : x.f0.toList = ([97, 100, 100, 105] : List UInt8)
  · rw [if_pos qaddi]
    exact one _ _ _ h4
  rw [if_neg qaddi]
  by_cases qandi : x.f0.toList = ([97, 110, 100, 105] : List UInt8)
  · rw [if_pos qandi]
    exact one _ _ _ h4
  rw [if_neg qandi]
  by_cases qxori : x.f0.toList = ([120, 111, 114, 105] : List UInt8)
  · rw [if_pos qxori]
    exact one _ _ _ h4
  rw [if_neg qxori]
  by_cases qshli : x.f0.toList = ([115, 104, 108, 105] : List UInt8)
  · rw [if_pos qshli]
    exact one _ _ _ h4
  rw [if_neg qshli]
  by_cases qshri : x.f0.toList = ([115, 104, 114, 105] : List UInt8)
  · rw [if_pos qshri]
    exact one _ _ _ h4
  rw [if_neg qshri]
  by_cases qlea : x.f0.toList = ([108, 101, 97] : List UInt8)
  · rw [if_pos qlea]
    obtain ⟨v, e, hv⟩ := zmq (⟨#[115, 104, 108]⟩ : ByteArray) (rd s x.f3) x.f4 h4
    obtain ⟨v', e', hv'⟩ := zmq (⟨#[97, 100, 100]⟩ : ByteArray) (rd s x.f2) v hv.1
    exact ⟨v', by rw [e, Option.bind_some, e']; rfl, hv'⟩
  rw [if_neg qlea]
  exact one _ _ _ hb.1
def valM (x : Instr) (s : List Int) : Int := (zes x.f0 x.f1 x.f2 x.f3 x.f4 s).getD 0
def zqu (s : List Int) (x : Instr) : List Int := s.set x.f1.toNat (valM x s)
theorem zoo (x : Instr) (s : List Int) (h : okI x) (hs : okS s) : zes x.f0 x.f1 x.f2 x.f3 x.f4 s = some (valM x s) ∧ okV (valM x s) := by
  obtain ⟨v, e, hv⟩ := zsf x s h hs
  unfold valM
  rw [e]
  exact ⟨rfl, hv⟩
theorem zqj (x : Instr) (s : List Int) (h : okI x) (hs : okS s) : okS (zqu s x) := zto hs _ (zoo x s h hs).2
theorem cut3 {s : ByteArray} {a b c d : UInt8} (h : s.toList = [a, b, c, d]) : (3 : Int) ≤ (s.size : Int) ∧ s.extract 0 3 = ⟨#[a, b, c]⟩ := by
  have e : s = ⟨#[a, b, c, d]⟩ := str_lit.1 h
  rw [e]
  exact ⟨by show (3 : Int) ≤ ((4 : Nat) : Int); decide, rfl⟩
theorem ztp (x : Instr) (s : List Int) (h : okI x) (hs : okS s) : Ev (fun k => zd4 k x.f0 x.f1 x.f2 x.f3 x.f4 (rd s x.f2) (rd s x.f3)) (valM x s) := by
  obtain ⟨h1, h1', h2, h2', h3, h3', h4, h4'⟩ := zon h
  have hl := hs.1
  have e := (zoo x s h hs).1
  generalize valM x s = v at e
  unfold zes at e
  rw [if_pos h2, if_pos (by omega), if_pos h3, if_pos (by omega)] at e
  have bs : ∀ (o : Option Int) r, (o.bind fun v => some v) = some r → o = some r := fun o r h => by
    cases o with
    | none => cases h
    | some y => exact h
  unfold zd4
  by_cases q1 : x.f0.toList = [115, 101, 116]
  · rw [if_pos q1] at e
    exact zao q1 (zl1 e)
  refine zci q1 ?_
  rw [if_neg q1] at e
  by_cases q2 : x.f0.toList = [109, 111, 118]
  · rw [if_pos q2] at e
    exact zao q2 (zl1 e)
  refine zci q2 ?_
  rw [if_neg q2] at e
  by_cases q3 : x.f0.toList = [108, 101, 97]
  · refine zao q3 (zl1 ?_)
    rw [if_neg (by rw [q3]; decide), if_neg (by rw [q3]; decide), if_neg (by rw [q3]; decide), if_neg (by rw [q3]; decide), if_neg (by rw [q3]; decide), if_pos q3] at e
    simp only [zom]
    exact e
  refine zci q3 ?_
  have imm : ∀ a b c d : UInt8, x.f0.toList = [a, b, c, d] → zbi ⟨#[a, b, c]⟩ (rd s x.f2) x.f4 = some v → Ev (fun k => za9 k (rd s x.f2) (rd s x.f3) (x.f0.toList == ([a, b, c, d] : List UInt8)) x.f0 x.f1 x.f2 x.f3 x.f4) v := fun a b c d q hv => by
    obtain ⟨hc, hc'⟩ := cut3 q
    refine Ev.step (fun k => by simp only [za9]; rfl) (zao (by rw [q]; simp) (zao (by decide) (zao hc (zl1 ?_))))
    rw [zom, hc', hv]
    rfl
  by_cases q4 : x.f0.toList = [97, 100, 100, 105]
  · rw [if_pos q4] at e
    exact zao q4 (imm _ _ _ _ q4 (bs _ _ e))
  refine zci q4 ?_
  rw [if_neg q4] at e
  by_cases q5 : x.f0.toList = [97, 110, 100, 105]
  · rw [if_pos q5] at e
    exact zao q5 (imm _ _ _ _ q5 (bs _ _ e))
  refine zci q5 ?_
  rw [if_neg q5] at e
  by_cases q6 : x.f0.toList = [120, 111, 114, 105]
  · rw [if_pos q6] at e
    exact zao q6 (imm _ _ _ _ q6 (bs _ _ e))
  refine zci q6 ?_
  rw [if_neg q6] at e
  by_cases q7 : x.f0.toList = [115, 104, 108, 105]
  · rw [if_pos q7] at e
    exact zao q7 (imm _ _ _ _ q7 (bs _ _ e))
  refine zci q7 ?_
  rw [if_neg q7] at e
  by_cases q8 : x.f0.toList = [115, 104, 114, 105]
  · rw [if_pos q8] at e
    exact imm _ _ _ _ q8 (bs _ _ e)
  rw [if_neg q8, if_neg q3] at e
  refine Ev.step (fun k => by simp only [za9]; rfl) (zci (by simpa using q8) (zl1 ?_))
  rw [zom, bs _ _ e]
  rfl
def runM (l : List Instr) (s : List Int) : List Int := l.foldl zqu s
theorem zri (l : List Instr) (h : ∀ x ∈ l, okI x) : ∀ s, okS s → okS (runM l s) := by
  induction l with
  | nil => exact fun s hs => hs
  | cons x l ih => exact fun s hs => ih (fun y hy => h y (List.mem_cons_of_mem _ hy)) _ (zqj x s (h x (List.mem_cons_self)) hs)
theorem zs1 (l : List Int) (h : l.length ≤ 1048576) : zgr l = some l := by
  unfold zgr
  rw [Option.bind_some, if_pos (by simp; omega)]
  rfl
theorem zrj (x : Instr) (s : List Int) (h : okI x) (hs : okS s) : zig x.f0 x.f1 x.f2 x.f3 x.f4 s = some (zqu s x) := by
  obtain ⟨h1, h1', h2, h2', h3, h3', h4, h4'⟩ := zon h
  have hq := hs.1
  unfold zig
  rw [zs1 s (by omega), Option.bind_some, (zoo x s h hs).1, Option.bind_some, if_pos h1, if_pos (by omega)]
  rfl
theorem zsg (l : List Instr) (hl : l.length ≤ 40) (h : ∀ x ∈ l, okI x) (s : List Int) (hs : okS s) : Ev (fun k => zfr k l s) (runM l s) := by
  unfold zfr
  refine Ev.call (zs1 s (by rw [hs.1]; decide)) ?_
  have key : ∀ (d i : Nat) (s : List Int), okS s → i + d = l.length → Ev (fun k => zc7 k s l l.length i) (runM (l.drop i) s) := by
    intro d
    induction d with
    | zero =>
      intro i s hs hi
      refine Ev.step (f := fun _ => some s) (fun k => ?_) (Ev.some ?_)
      · simp only [zc7]
        rw [if_neg (by omega)]
      · rw [List.drop_of_length_le (by omega)]
        rfl
    | succ d ih =>
      intro i s hs hi
      have hlt : i < l.length := by omega
      have e : l.drop i = l[i] :: l.drop (i + 1) := List.drop_eq_getElem_cons hlt
      have hx := zn4 (zdv l i hlt)
      have ok := h l[i] (List.getElem_mem hlt)
      rw [e]
      refine Ev.step (fun k => ?_) (ih (i + 1) _ (zqj _ s ok hs) (by omega))
      simp only [zc7, hx]
      rw [if_pos (by omega), if_pos (by omega), if_pos (by omega), zrj _ s ok hs, Option.bind_some, w64n i (by omega)]
  simpa using key l.length 0 s hs (by omega)
def st0 (a b : Int) : List Int := [a, b, 0, 0, 0, 0]
theorem zs2 {a b : Int} (ha : okV a) (hb : okV b) : okS (st0 a b) := by
  refine ⟨rfl, fun v hv => ?_⟩
  have hz : okV 0 := by unfold okV; decide
  simp only [st0, List.mem_cons, List.not_mem_nil, or_false] at hv
  rcases hv with rfl | rfl | rfl | rfl | rfl | rfl <;> assumption
def endM (l : List Instr) (a b : Int) : List Int := runM l (st0 a b)
theorem zqv (a b : Int) : zjk a b = some (st0 a b) := rfl
end Go.Proofs.Ytccoiifklcgodaa.PL
end
section
namespace Go.Proofs.Ytccoiifklcgodaa.Q
open Go.RowKit Go.Proofs.YtccoiifklcgodaaW.PrintWords Go.Proofs.YtccoiifklcgodaaW.PrintLast Go.Proofs.YtccoiifklcgodaaW.PrintMore
attribute [local go_sem] zdk zdl zee zef zcq zcr zdm zdn
set_option linter.unusedVariables false
set_option linter.unusedSimpArgs false
end Go.Proofs.Ytccoiifklcgodaa.Q
end
