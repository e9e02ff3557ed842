/- Proved here: contracts of functions that the law FnExactProgramTable reaches, and lemmas on what they compute; texts of this session and the printed words of the kit that they lean on, cut down and put together by its program link.py. Conditions: as each states. -/
import Derived.Test.YtccoiifklcgodaaZFnExactProgramTable1
import Derived.Test.YtccoiifklcgodaaZFnExactProgramTable2
import Derived.Test.YtccoiifklcgodaaZFnExactProgramTable3
section
namespace Go.Proofs.Ytccoiifklcgodaa.Q
open Go.RowKit Go.Proofs.YtccoiifklcgodaaW.PrintWords Go.Proofs.YtccoiifklcgodaaW.PrintLast Go.Proofs.YtccoiifklcgodaaW.PrintMore
attribute [local go_sem] zdk zdl zee zef zcq zcr zdm zdn
set_option linter.unusedVariables false
set_option linter.unusedSimpArgs false
mutual
def zbh : Nat → Bool → List ByteArray → List Int → Option (Bool)
 | 0, _, _, _ => none
 | k + 1, x28, x102000, x102001 => if x28 = true then (some false) else (za6 k x102000 (x102000.length : Int) 0 x102000 x102001)
def za6 : Nat → List ByteArray → Int → Int → List ByteArray → List Int → Option (Bool)
 | 0, _, _, _, _, _ => none
 | k + 1, x30, x31, x32, x102000, x102001 => if x32 < x31 then (if 0 ≤ x32 then (if x32 < (x30.length : Int) then ((zd9 k (rdOf ByteArray.empty x30 x32)).bind fun bt105 => (if bt105.1 = true then (if x32 ≤ (x102000.length : Int) then ((zd2 k (x102000.take (x32 : Int).toNat) (rdOf ByteArray.empty x30 x32)).bind fun t111 => (if t111 = true then (some false) else ((zd6 k (rdOf ByteArray.empty x30 x32)).bind fun t112 => (if t112 = true then ((zc4 k x102001 bt105.2.2.2.1 bt105.2.2.2.2).bind fun t113 => (if t113 = true then (za6 k x30 x31 (wrap64 (x32 + 1)) x102000 x102001) else (some false))) else (za6 k x30 x31 (wrap64 (x32 + 1)) x102000 x102001))))) else (none)) else (some false))) else (none)) else (none)) else (zcg k x102001 (x102001.length : Int) 0 x102000 x102001)
def zcg : Nat → List Int → Int → Int → List ByteArray → List Int → Option (Bool)
 | 0, _, _, _, _, _ => none
 | k + 1, x69, x70, x71, x102000, x102001 => if x71 < x70 then (if 0 ≤ x71 then (if x71 < (x69.length : Int) then (if x71 ≤ (x102001.length : Int) then ((zgq k (x102001.take (x71 : Int).toNat) (rd x69 x71)).bind fun t116 => (if t116 = true then (some false) else (zcg k x69 x70 (wrap64 (x71 + 1)) x102000 x102001))) else (none)) else (none)) else (none)) else (some true)
end
def zfe (k : Nat) (l0_0 : List ByteArray) (l0_1 : List Int) : Option (Bool) := (zhk (l0_0.length : Int) 1 4).bind fun t102 => (if t102 = true then (if (l0_1.length : Int) > 2 then (zbh k true l0_0 l0_1) else ((zc4 k l0_1 0 63).bind fun t103 => (zbh k (!t103) l0_0 l0_1))) else (zbh k true l0_0 l0_1))
theorem zja : ∀ k, (∀ y0 y1 y2, LeO (zbh k y0 y1 y2) (zbh (k + 1) y0 y1 y2)) ∧ (∀ y0 y1 y2 y3 y4, LeO (za6 k y0 y1 y2 y3 y4) (za6 (k + 1) y0 y1 y2 y3 y4)) ∧ (∀ y0 y1 y2 y3 y4, LeO (zcg k y0 y1 y2 y3 y4) (zcg (k + 1) y0 y1 y2 y3 y4))
 | 0 => ⟨fun _ _ _ r h => by simp [zbh] at h, fun _ _ _ _ _ r h => by simp [za6] at h, fun _ _ _ _ _ r h => by simp [zcg] at h⟩
 | k + 1 => by
   obtain ⟨ih0, ih1, ih2⟩ := zja k
   refine ⟨?_, ?_, ?_⟩
   · intro y0 y1 y2
     unfold zbh
     repeat' first
     | (with_reducible first | exact ih0 _ _ _ | exact ih1 _ _ _ _ _ | exact ih2 _ _ _ _ _ | exact zgo _ _ | exact zcy _ _ | exact zhc _ _ _ _ | exact zhd _ _ _ | exact zf0 _ _ _ | exact LeO.refl _ | exact LeO.none _ | refine zaf ?_ ?_ | refine LeO.bind ?_ (fun _ => ?_))
     | exact LeO.none _
     | refine zaf ?_ ?_
     | refine LeO.bind ?_ (fun _ => ?_)
   · intro y0 y1 y2 y3 y4
     unfold za6
     repeat' first
     | (with_reducible first | exact ih0 _ _ _ | exact ih1 _ _ _ _ _ | exact ih2 _ _ _ _ _ | exact zgo _ _ | exact zcy _ _ | exact zhc _ _ _ _ | exact zhd _ _ _ | exact zf0 _ _ _ | exact LeO.refl _ | exact LeO.none _ | refine zaf ?_ ?_ | refine LeO.bind ?_ (fun _ => ?_))
     | exact LeO.none _
     | refine zaf ?_ ?_
     | refine LeO.bind ?_ (fun _ => ?_)
   · intro y0 y1 y2 y3 y4
     unfold zcg
     repeat' first
     | (with_reducible first | exact ih0 _ _ _ | exact ih1 _ _ _ _ _ | exact ih2 _ _ _ _ _ | exact zgo _ _ | exact zcy _ _ | exact zhc _ _ _ _ | exact zhd _ _ _ | exact zf0 _ _ _ | exact LeO.refl _ | exact LeO.none _ | refine zaf ?_ ?_ | refine LeO.bind ?_ (fun _ => ?_))
     | exact LeO.none _
     | refine zaf ?_ ?_
     | refine LeO.bind ?_ (fun _ => ?_)
theorem zkf : ∀ a0 a1 k, LeO (zfe k a0 a1) (zfe (k + 1) a0 a1) := by
 intro a0 a1 k
 obtain ⟨ih0, ih1, ih2⟩ := zja k
 unfold zfe
 repeat' first
     | (with_reducible first | exact ih0 _ _ _ | exact ih1 _ _ _ _ _ | exact ih2 _ _ _ _ _ | exact zgo _ _ | exact zcy _ _ | exact zhc _ _ _ _ | exact zhd _ _ _ | exact zf0 _ _ _ | exact LeO.refl _ | exact LeO.none _ | refine zaf ?_ ?_ | refine LeO.bind ?_ (fun _ => ?_))
     | exact LeO.none _
     | refine zaf ?_ ?_
     | refine LeO.bind ?_ (fun _ => ?_)
set_option maxHeartbeats 8000000 in
set_option maxRecDepth 100000 in
theorem zjq (k : Nat) (A0_0 : Option Addr) (c0_0 : Nat) (l0_0 : List ByteArray) (A0_1 : Option Addr) (c0_1 : Nat) (l0_1 : List Int) (r : Bool) (w : World) (hr0_0 : Kd.C Kd.string w A0_0 l0_0.length l0_0) (hc0_0 : l0_0.length ≤ c0_0) (hr0_1 : Kd.C (Kd.int .i64) w A0_1 l0_1.length l0_1) (hc0_1 : l0_1.length ≤ c0_1) (h : zfe k l0_0 l0_1 = some r) :
   Calls Try.prog 93 #[.agg #[.slice A0_0 l0_0.length c0_0, .slice A0_1 l0_1.length c0_1]] w fun e w' => e = .returned (.bool r) ∧ Below w.heap.size w w' := by
 have hu62 := Try.underlying62
 have HR0_0 := zA hr0_0
 have HC0_0 := zA hc0_0
 clear hr0_0 hc0_0
 have HR0_1 := zA hr0_1
 have HC0_1 := zA hc0_1
 clear hr0_1 hc0_1
 have HB := zA (Below.refl w.heap.size w)
 have H : ((zhk (l0_0.length : Int) 1 4).bind fun t102 => (if t102 = true then (if (l0_1.length : Int) > 2 then (zbh k true l0_0 l0_1) else ((zc4 k l0_1 0 63).bind fun t103 => (zbh k (!t103) l0_0 l0_1))) else (zbh k true l0_0 l0_1))) = some r := h
 clear h
 have HC2 := zA H
 clear H
 go_enter Try.func93, Try.ntmps93
 go_upto_region 1 with (first | ((with_reducible refine zam (N := 1) rfl ?_); (try (refine zkz (by rfl) ?_; dsimp only)); refine zak ?hg (N := 1) ?hd (cs := #[.slice A0_0 l0_0.length c0_0, .slice A0_1 l0_1.length c0_1]) (t := 62) ?hr ?_; (case hd => rfl); (case hg => rfl); (case hr => go_simp <;> rfl); intro gb101 hg w3 hbox hb; have zs := zpair (by repeat (first | (with_reducible first | exact HB.out | apply zba | apply zbn | apply zbd) | exact HB.out)) hb; have n0_ := zA (zs.1); have n1_ := zA (hbox); have n2_ := zA ((by rw [hg]; exact zs.2 : w.heap.size ≤ gb101)); have n3_ := n2_; clear HB; have HB := n0_; have BK101 := n1_; have GW101 := n2_; have GE101 := n3_; clear n0_ n1_ n2_ n3_; clear zs hb hbox hg))
 (try simp only [Act.put, zla, zlb, zlc])
 go_cut [28] (fun v28 wc => ∃ (kq : Nat) (x28_1 : Bool), v28 = .bool x28_1 ∧ Aside0 (zbh kq x28_1 l0_0 l0_1 = some r) ∧ Aside0 (kq ≤ k) ∧ Aside0 (wc.heap[gb101]? = some (.cells #[(.slice A0_0 l0_0.length c0_0), (.slice A0_1 l0_1.length c0_1)] 62 (0, 0))) ∧ Aside0 (Below w.heap.size w wc))
 case first =>
   have H := HC2.out
   clear HC2
   replace H := zob H
   obtain ⟨t102, A40, H⟩ := H
   replace H : (if t102 = true then (if (l0_1.length : Int) > 2 then (zbh k true l0_0 l0_1) else ((zc4 k l0_1 0 63).bind fun t103 => (zbh k (!t103) l0_0 l0_1))) else (zbh k true l0_0 l0_1)) = some r := H
   have A4 := zA A40
   clear A40
   by_cases c5 : t102 = true
   rotate_left
   · replace c5 := zbf c5
     subst c5
     replace H : (zbh k true l0_0 l0_1) = some r := by rw [if_neg (show ¬ (false = true) by decide)] at H; exact H
     have H' := zA H
     clear H
     obtain ⟨hcz10_0, hcz10_1⟩ := zc2 w3 (.slice A0_0 l0_0.length c0_0) (.slice A0_1 l0_1.length c0_1) BK101.out
     obtain ⟨hfz10_0, hfz10_1⟩ := zf2 BK101.out
     go_wp2_with (first | ((with_reducible refine zae (f := 65) rfl ?_); refine zaz (some 15) rfl rfl Try.func65 (by kernel_rfl) rfl #[.int .i64 (l0_0.length : Int), .int .i64 1, .int .i64 4] rfl (by first | rfl | (simp only [zld, zle, zlf, zlg, zlh] <;> rfl)) ?_; (with_reducible refine (zgp (l0_0.length : Int) 1 4 false _ A4.out).mono ?_); rintro e w' ⟨rfl, ⟨nd, rfl⟩⟩; refine ⟨_, rfl, ?_⟩))
     go_meet
     case rel => exact ⟨_, (true), (by first | rfl | (simp; done) | (simp [*]; done)), H', ⟨by first | omega | exact zlr _⟩, ⟨by (with_reducible repeat (first | refine zkn ?_ _ | refine zkd ?_ | refine zka ?_ _)); exact BK101.out⟩, ⟨by repeat (first | (with_reducible first | exact HB.out | apply zba | apply zbn | apply zbd | refine zaa ?_ GE101.out) | exact HB.out)⟩⟩
   subst c5
   replace H : (if (l0_1.length : Int) > 2 then (zbh k true l0_0 l0_1) else ((zc4 k l0_1 0 63).bind fun t103 => (zbh k (!t103) l0_0 l0_1))) = some r := by rw [if_pos rfl] at H; exact H
   by_cases c6 : (l0_1.length : Int) > 2
   · rw [if_pos c6] at H
     have c6b0 : decide (2 < (l0_1.length : Int)) = true := zdt c6
     have c6b1 : decide (2 < l0_1.length) = true := zdt (by omega)
     clear c6
     (first | rw [c6b0] | (simp only [zbl, zbr]; rw [c6b0]) | skip)
     have H' := zA H
     clear H
     obtain ⟨hcz7_0, hcz7_1⟩ := zc2 w3 (.slice A0_0 l0_0.length c0_0) (.slice A0_1 l0_1.length c0_1) BK101.out
     obtain ⟨hfz7_0, hfz7_1⟩ := zf2 BK101.out
     go_wp2_with (first | ((with_reducible refine zae (f := 65) rfl ?_); refine zaz (some 15) rfl rfl Try.func65 (by kernel_rfl) rfl #[.int .i64 (l0_0.length : Int), .int .i64 1, .int .i64 4] rfl (by first | rfl | (simp only [zld, zle, zlf, zlg, zlh] <;> rfl)) ?_; (with_reducible refine (zgp (l0_0.length : Int) 1 4 true _ A4.out).mono ?_); rintro e w' ⟨rfl, ⟨nd, rfl⟩⟩; refine ⟨_, rfl, ?_⟩))
     go_meet
     case rel => exact ⟨_, (true), (by first | rfl | (simp; done) | (simp [*]; done)), H', ⟨by first | omega | exact zlr _⟩, ⟨by (with_reducible repeat (first | refine zkn ?_ _ | refine zkd ?_ | refine zka ?_ _)); exact BK101.out⟩, ⟨by repeat (first | (with_reducible first | exact HB.out | apply zba | apply zbn | apply zbd | refine zaa ?_ GE101.out) | exact HB.out)⟩⟩
   rw [if_neg c6] at H
   have c6b0 : decide (2 < (l0_1.length : Int)) = false := zdf c6
   have c6b1 : decide (2 < l0_1.length) = false := zdf (by omega)
   clear c6
   (first | rw [c6b0] | (simp only [zbl, zbr]; rw [c6b0]) | skip)
   replace H := zob H
   obtain ⟨t103, A80, H⟩ := H
   replace H : (zbh k (!t103) l0_0 l0_1) = some r := H
   have A8 := zA A80
   clear A80
   have H' := zA H
   clear H
   obtain ⟨hcz9_0, hcz9_1⟩ := zc2 w3 (.slice A0_0 l0_0.length c0_0) (.slice A0_1 l0_1.length c0_1) BK101.out
   obtain ⟨hfz9_0, hfz9_1⟩ := zf2 BK101.out
   go_wp2_with (first | ((with_reducible refine zae (f := 65) rfl ?_); refine zaz (some 15) rfl rfl Try.func65 (by kernel_rfl) rfl #[.int .i64 (l0_0.length : Int), .int .i64 1, .int .i64 4] rfl (by first | rfl | (simp only [zld, zle, zlf, zlg, zlh] <;> rfl)) ?_; (with_reducible refine (zgp (l0_0.length : Int) 1 4 true _ A4.out).mono ?_); rintro e w' ⟨rfl, ⟨nd, rfl⟩⟩; refine ⟨_, rfl, ?_⟩) | (go_at_call 152; (with_reducible refine (zhz k _ _ l0_1 0 63 t103 _ ?side1 ?side2 A8.out).mono ?_); (case side1 => repeat (first | exact (zCb HR0_1.out (by repeat (first | (with_reducible first | exact HB.out | apply zba | apply zbn | apply zbd | refine zaa ?_ GE101.out) | exact HB.out))) | (with_reducible first | refine zCa ?_ _ | refine zCn ?_ _ | refine zCd ?_))); (case side2 => exact HC0_1.out); rintro e w' ⟨rfl, ⟨nd, rfl⟩⟩))
   go_meet
   case rel => exact ⟨_, (!t103), (by first | rfl | (simp; done) | (simp [*]; done)), H', ⟨by first | omega | exact zlr _⟩, ⟨by (with_reducible repeat (first | refine zkn ?_ _ | refine zkd ?_ | refine zka ?_ _)); exact BK101.out⟩, ⟨by repeat (first | (with_reducible first | exact HB.out | apply zba | apply zbn | apply zbd | refine zaa ?_ GE101.out) | exact HB.out)⟩⟩
 clear HC2
 try clear p2
 try clear c5
 try clear c6
 try clear c6b0
 try clear c6b1
 try clear c9
 try clear hcz10_0
 try clear hcz10_1
 try clear hcz7_0
 try clear hcz7_1
 try clear hcz9_0
 try clear hcz9_1
 try clear hfz10_0
 try clear hfz10_1
 try clear hfz7_0
 try clear hfz7_1
 try clear hfz9_0
 try clear hfz9_1
 obtain ⟨kq, x28_1, rfl, HA, HJ1, BK101, HB⟩ := hcut
 cases kq with
 | zero => exact absurd HA.out (by simp [zbh])
 | succ kj1 =>
 have H := HA.out
 clear HA
 simp only [zbh] at H
 by_cases c11 : x28_1 = true
 · subst c11
   replace H : (some false) = some r := by rw [if_pos rfl] at H; exact H
   obtain rfl := zsi H
   go_wp2
   go_ret
   exact ⟨by first | rfl | (simp <;> rfl) | (simp [*] <;> rfl), by repeat (first | (with_reducible first | exact HB.out | apply zba | apply zbn | apply zbd | refine zaa ?_ GE101.out) | exact HB.out)⟩
 replace c11 := zbf c11
 subst c11
 replace H : (za6 kj1 l0_0 (l0_0.length : Int) 0 l0_0 l0_1) = some r := by rw [if_neg (show ¬ (false = true) by decide)] at H; exact H
 have H' := zA H
 clear H
 obtain ⟨hcz12_0, hcz12_1⟩ := zc2 wc (.slice A0_0 l0_0.length c0_0) (.slice A0_1 l0_1.length c0_1) BK101.out
 obtain ⟨hfz12_0, hfz12_1⟩ := zf2 BK101.out
 go_wp2
 go_loopg [32] kj1 (fun kq v32 w' => ∃ (x32_2 : Int), v32 = .int .i64 x32_2 ∧ Aside0 (za6 kq l0_0 (l0_0.length : Int) x32_2 l0_0 l0_1 = some r) ∧ Aside0 (kq ≤ kj1) ∧ Aside0 (w'.heap[gb101]? = some (.cells #[(.slice A0_0 l0_0.length c0_0), (.slice A0_1 l0_1.length c0_1)] 62 (0, 0))) ∧ Aside0 (Below w.heap.size w w'))
 case atStart => exact ⟨(0), (by first | rfl | (simp; done) | (simp [*]; done)), H', ⟨zlr _⟩, ⟨by (with_reducible repeat (first | refine zkn ?_ _ | refine zkd ?_ | refine zka ?_ _)); exact BK101.out⟩, ⟨by repeat (first | (with_reducible first | exact HB.out | apply zba | apply zbn | apply zbd | refine zaa ?_ GE101.out) | exact HB.out)⟩⟩
 clear H'
 try clear c1
 try clear p2
 try clear c5
 try clear c6
 try clear c6b0
 try clear c6b1
 try clear c9
 try clear c11
 try clear hcz10_0
 try clear hcz10_1
 try clear hcz12_0
 try clear hcz12_1
 try clear hcz7_0
 try clear hcz7_1
 try clear hcz9_0
 try clear hcz9_1
 try clear hfz10_0
 try clear hfz10_1
 try clear hfz12_0
 try clear hfz12_1
 try clear hfz7_0
 try clear hfz7_1
 try clear hfz9_0
 try clear hfz9_1
 try clear p2
 obtain ⟨x32_2, rfl, HA, HK2, BK101, HB⟩ := hrel
 cases gk with
 | zero => exact absurd HA.out (by simp [za6])
 | succ k2 =>
 have H := HA.out
 clear HA
 simp only [za6] at H
 by_cases c13 : x32_2 < (l0_0.length : Int)
 rotate_left
 · rw [if_neg c13] at H
   have c13b0 : decide (x32_2 < (l0_0.length : Int)) = false := zdf c13
   clear c13
   have H' := zA H
   clear H
   obtain ⟨hcz39_0, hcz39_1⟩ := zc2 wr (.slice A0_0 l0_0.length c0_0) (.slice A0_1 l0_1.length c0_1) BK101.out
   obtain ⟨hfz39_0, hfz39_1⟩ := zf2 BK101.out
   go_wp2
   go_loopg [71] k2 (fun kq v71 w' => ∃ (x71_3 : Int), v71 = .int .i64 x71_3 ∧ Aside0 (zcg kq l0_1 (l0_1.length : Int) x71_3 l0_0 l0_1 = some r) ∧ Aside0 (kq ≤ k2) ∧ Aside0 (w'.heap[gb101]? = some (.cells #[(.slice A0_0 l0_0.length c0_0), (.slice A0_1 l0_1.length c0_1)] 62 (0, 0))) ∧ Aside0 (Below w.heap.size w w'))
   case atStart => exact ⟨(0), (by first | rfl | (simp; done) | (simp [*]; done)), H', ⟨zlr _⟩, ⟨by (with_reducible repeat (first | refine zkn ?_ _ | refine zkd ?_ | refine zka ?_ _)); exact BK101.out⟩, ⟨by repeat (first | (with_reducible first | exact HB.out | apply zba | apply zbn | apply zbd | refine zaa ?_ GE101.out) | exact HB.out)⟩⟩
   clear H'
   try clear c1
   try clear p1
   try clear q1
   try clear hx1
   try clear c2
   try clear p2
   try clear c5
   try clear c6
   try clear c6b0
   try clear c6b1
   try clear p6
   try clear c9
   try clear p10
   try clear q10
   try clear hx10
   try clear c11
   try clear c13
   try clear c13b0
   try clear c14
   try clear c14b0
   try clear c15
   try clear c15b0
   try clear c17
   try clear c18
   try clear c18b0
   try clear c19
   try clear c19b0
   try clear c19b1
   try clear c21
   try clear c25
   try clear c27
   try clear hcz10_0
   try clear hcz10_1
   try clear hcz12_0
   try clear hcz12_1
   try clear hcz22_0
   try clear hcz22_1
   try clear hcz28_0
   try clear hcz28_1
   try clear hcz31_0
   try clear hcz31_1
   try clear hcz32_0
   try clear hcz32_1
   try clear hcz35_0
   try clear hcz35_1
   try clear hcz36_0
   try clear hcz36_1
   try clear hcz39_0
   try clear hcz39_1
   try clear hcz7_0
   try clear hcz7_1
   try clear hcz9_0
   try clear hcz9_1
   try clear hfz10_0
   try clear hfz10_1
   try clear hfz12_0
   try clear hfz12_1
   try clear hfz22_0
   try clear hfz22_1
   try clear hfz28_0
   try clear hfz28_1
   try clear hfz31_0
   try clear hfz31_1
   try clear hfz32_0
   try clear hfz32_1
   try clear hfz35_0
   try clear hfz35_1
   try clear hfz36_0
   try clear hfz36_1
   try clear hfz39_0
   try clear hfz39_1
   try clear hfz7_0
   try clear hfz7_1
   try clear hfz9_0
   try clear hfz9_1
   try clear hx104_0
   try clear p104
   try clear p2
   try clear q104
   obtain ⟨x71_3, rfl, HA, HK3, BK101, HB⟩ := hrel
   cases gk with
   | zero => exact absurd HA.out (by simp [zcg])
   | succ k3 =>
   have H := HA.out
   clear HA
   simp only [zcg] at H
   by_cases c40 : x71_3 < (l0_1.length : Int)
   rotate_left
   · rw [if_neg c40] at H
     have c40b0 : decide (x71_3 < (l0_1.length : Int)) = false := zdf c40
     clear c40
     obtain rfl := zsi H
     go_wp2
     go_ret
     exact ⟨by first | rfl | (simp <;> rfl) | (simp [*] <;> rfl), by repeat (first | (with_reducible first | exact HB.out | apply zba | apply zbn | apply zbd | refine zaa ?_ GE101.out) | exact HB.out)⟩
   rw [if_pos c40] at H
   have c40b0 : decide (x71_3 < (l0_1.length : Int)) = true := zdt c40
   clear c40
   by_cases c41 : 0 ≤ x71_3
   rotate_left
   · rw [if_neg c41] at H
     exact absurd H (by simp)
   rw [if_pos c41] at H
   have c41b0 : decide (0 ≤ x71_3) = true := zdt c41
   clear c41
   by_cases c42 : x71_3 < (l0_1.length : Int)
   rotate_left
   · rw [if_neg c42] at H
     exact absurd H (by simp)
   rw [if_pos c42] at H
   have c42b0 : decide (x71_3 < (l0_1.length : Int)) = true := zdt c42
   clear c42
   have c43b0 := eq_true (zde (by assumption) : 0 ≤ x71_3)
   by_cases c44 : x71_3 ≤ (l0_1.length : Int)
   rotate_left
   · rw [if_neg c44] at H
     exact absurd H (by simp)
   rw [if_pos c44] at H
   have c44b0 := eq_true c44
   have c44b1 : decide (x71_3 ≤ (l0_1.length : Int)) = true := zdt c44
   clear c44
   replace H := zob H
   obtain ⟨t116, A450, H⟩ := H
   replace H : (if t116 = true then (some false) else (zcg k3 l0_1 (l0_1.length : Int) (wrap64 (x71_3 + 1)) l0_0 l0_1)) = some r := H
   have A45 := zA A450
   clear A450
   by_cases c46 : t116 = true
   · subst c46
     replace H : (some false) = some r := by rw [if_pos rfl] at H; exact H
     obtain rfl := zsi H
     have p114 : 0 ≤ (x71_3 : Int) := zde (by assumption)
     have q114 : x71_3 < (l0_1.length : Int) := zde (by assumption)
     obtain ⟨ad114, e114, hx114_0⟩ := Kd.at_int HR0_1.out x71_3 p114 q114
     cases e114
     replace hx114_0 := zkep HB.out hx114_0
     replace p114 := eq_true p114
     replace q114 := eq_true q114
     obtain ⟨hcz47_0, hcz47_1⟩ := zc2 wr (.slice A0_0 l0_0.length c0_0) (.slice (some ad114) l0_1.length c0_1) BK101.out
     obtain ⟨hfz47_0, hfz47_1⟩ := zf2 BK101.out
     obtain ⟨i048, hi048, _, hsz48, _⟩ := info_parts zmd
     obtain ⟨hcut48, hA48, hC48⟩ := zeu (P := Try.prog) (Value.int .i64) 0 51 3 .i64 Try.underlying51 hi048 hsz48 (some ad114) c0_1 l0_1 x71_3 (zde (by assumption)) (zde (by assumption)) HC0_1.out
     have HR115 := zA (Kd.C_of_reads (h1 := fun _ => rfl) (hA48 _ (Kd.reads_of_C HR0_1.out)))
     have HC115 := zA hC48
     clear hA48 hC48 hi048 hsz48
     go_wp2_with (first | ((with_reducible refine zae (f := 121) rfl ?_); refine zaz (some 81) rfl rfl Try.func121 (by kernel_rfl) rfl #[.slice (some ad114) (l0_1.take (x71_3 : Int).toNat).length c0_1, .int .i64 (rd l0_1 x71_3)] rfl (by (try simp only [zld, zle, zlf]); first | done | (rw [show (l0_1.take (x71_3 : Int).toNat).length = x71_3.toNat from (by rw [zlh]; have h_ : (x71_3 : Int) ≤ (l0_1.length : Int) := zde (by assumption); omega)] <;> rfl) | rfl | (simp only [zlg, zlh]; rfl)) ?_; (with_reducible refine (zke k3 _ _ (l0_1.take (x71_3 : Int).toNat) (rd l0_1 x71_3) true _ ?side1 ?side2 A45.out).mono ?_); (case side1 => repeat (first | exact (zCb HR115.out HB.out) | (with_reducible first | refine zCa ?_ _ | refine zCn ?_ _ | refine zCd ?_))); (case side2 => exact HC115.out); rintro e w' ⟨rfl, ⟨nd, rfl⟩⟩; refine ⟨_, rfl, ?_⟩))
     go_ret
     exact ⟨by first | rfl | (simp <;> rfl) | (simp [*] <;> rfl), by repeat (first | (with_reducible first | exact HB.out | apply zba | apply zbn | apply zbd | refine zaa ?_ GE101.out) | exact HB.out)⟩
   replace c46 := zbf c46
   subst c46
   replace H : (zcg k3 l0_1 (l0_1.length : Int) (wrap64 (x71_3 + 1)) l0_0 l0_1) = some r := by rw [if_neg (show ¬ (false = true) by decide)] at H; exact H
   have H' := zA H
   clear H
   have p114 : 0 ≤ (x71_3 : Int) := zde (by assumption)
   have q114 : x71_3 < (l0_1.length : Int) := zde (by assumption)
   obtain ⟨ad114, e114, hx114_0⟩ := Kd.at_int HR0_1.out x71_3 p114 q114
   cases e114
   replace hx114_0 := zkep HB.out hx114_0
   replace p114 := eq_true p114
   replace q114 := eq_true q114
   obtain ⟨hcz49_0, hcz49_1⟩ := zc2 wr (.slice A0_0 l0_0.length c0_0) (.slice (some ad114) l0_1.length c0_1) BK101.out
   obtain ⟨hfz49_0, hfz49_1⟩ := zf2 BK101.out
   obtain ⟨i050, hi050, _, hsz50, _⟩ := info_parts zmd
   obtain ⟨hcut50, hA50, hC50⟩ := zeu (P := Try.prog) (Value.int .i64) 0 51 3 .i64 Try.underlying51 hi050 hsz50 (some ad114) c0_1 l0_1 x71_3 (zde (by assumption)) (zde (by assumption)) HC0_1.out
   have HR115 := zA (Kd.C_of_reads (h1 := fun _ => rfl) (hA50 _ (Kd.reads_of_C HR0_1.out)))
   have HC115 := zA hC50
   clear hA50 hC50 hi050 hsz50
   go_wp2_with (first | ((with_reducible refine zae (f := 121) rfl ?_); refine zaz (some 81) rfl rfl Try.func121 (by kernel_rfl) rfl #[.slice (some ad114) (l0_1.take (x71_3 : Int).toNat).length c0_1, .int .i64 (rd l0_1 x71_3)] rfl (by (try simp only [zld, zle, zlf]); first | done | (rw [show (l0_1.take (x71_3 : Int).toNat).length = x71_3.toNat from (by rw [zlh]; have h_ : (x71_3 : Int) ≤ (l0_1.length : Int) := zde (by assumption); omega)] <;> rfl) | rfl | (simp only [zlg, zlh]; rfl)) ?_; (with_reducible refine (zke k3 _ _ (l0_1.take (x71_3 : Int).toNat) (rd l0_1 x71_3) false _ ?side1 ?side2 A45.out).mono ?_); (case side1 => repeat (first | exact (zCb HR115.out HB.out) | (with_reducible first | refine zCa ?_ _ | refine zCn ?_ _ | refine zCd ?_))); (case side2 => exact HC115.out); rintro e w' ⟨rfl, ⟨nd, rfl⟩⟩; refine ⟨_, rfl, ?_⟩))
   go_roundg k3
   case measure => have := HJ1.out; have := HK2.out; have := HK3.out; omega
   case rel => exact ⟨(wrap64 (x71_3 + 1)), (by first | rfl | (simp; done) | (simp [*]; done)), H', ⟨by have := HJ1.out; have := HK2.out; have := HK3.out; omega⟩, ⟨by (with_reducible repeat (first | refine zkn ?_ _ | refine zkd ?_ | refine zka ?_ _)); exact BK101.out⟩, ⟨by repeat (first | (with_reducible first | exact HB.out | apply zba | apply zbn | apply zbd | refine zaa ?_ GE101.out) | exact HB.out)⟩⟩
 rw [if_pos c13] at H
 have c13b0 : decide (x32_2 < (l0_0.length : Int)) = true := zdt c13
 clear c13
 by_cases c14 : 0 ≤ x32_2
 rotate_left
 · rw [if_neg c14] at H
   exact absurd H (by simp)
 rw [if_pos c14] at H
 have c14b0 : decide (0 ≤ x32_2) = true := zdt c14
 clear c14
 by_cases c15 : x32_2 < (l0_0.length : Int)
 rotate_left
 · rw [if_neg c15] at H
   exact absurd H (by simp)
 rw [if_pos c15] at H
 have c15b0 : decide (x32_2 < (l0_0.length : Int)) = true := zdt c15
 clear c15
 replace H := zob H
 obtain ⟨⟨t105, t106, t107, t108, t109⟩, A160, H⟩ := H
 replace H : (if t105 = true then (if x32_2 ≤ (l0_0.length : Int) then ((zd2 k2 (l0_0.take (x32_2 : Int).toNat) (rdOf ByteArray.empty l0_0 x32_2)).bind fun t111 => (if t111 = true then (some false) else ((zd6 k2 (rdOf ByteArray.empty l0_0 x32_2)).bind fun t112 => (if t112 = true then ((zc4 k2 l0_1 t108 t109).bind fun t113 => (if t113 = true then (za6 k2 l0_0 (l0_0.length : Int) (wrap64 (x32_2 + 1)) l0_0 l0_1) else (some false))) else (za6 k2 l0_0 (l0_0.length : Int) (wrap64 (x32_2 + 1)) l0_0 l0_1))))) else (none)) else (some false)) = some r := H
 have A16 := zA A160
 clear A160
 by_cases c17 : t105 = true
 rotate_left
 · replace c17 := zbf c17
   subst c17
   replace H : (some false) = some r := by rw [if_neg (show ¬ (false = true) by decide)] at H; exact H
   obtain rfl := zsi H
   have p104 : 0 ≤ (x32_2 : Int) := zde (by assumption)
   have q104 : x32_2 < (l0_0.length : Int) := zde (by assumption)
   obtain ⟨ad104, e104, hx104_0⟩ := Kd.at_string HR0_0.out x32_2 p104 q104
   cases e104
   replace hx104_0 := zkep HB.out hx104_0
   replace p104 := eq_true p104
   replace q104 := eq_true q104
   go_wp2_with (first | ((with_reducible refine zae (f := 153) rfl ?_); refine zaz (some 39) rfl rfl Try.func153 (by kernel_rfl) rfl #[.string (rdOf ByteArray.empty l0_0 x32_2)] rfl (by first | rfl | (simp only [zld, zle, zlf, zlg, zlh] <;> rfl)) ?_; (with_reducible refine (zex k2 (rdOf ByteArray.empty l0_0 x32_2) false t106 t107 t108 t109 _ A16.out).mono ?_); rintro e w' ⟨rfl, ⟨nd, rfl⟩⟩; refine ⟨_, rfl, ?_⟩))
   go_ret
   exact ⟨by first | rfl | (simp <;> rfl) | (simp [*] <;> rfl), by repeat (first | (with_reducible first | exact HB.out | apply zba | apply zbn | apply zbd | refine zaa ?_ GE101.out) | exact HB.out)⟩
 subst c17
 replace H : (if x32_2 ≤ (l0_0.length : Int) then ((zd2 k2 (l0_0.take (x32_2 : Int).toNat) (rdOf ByteArray.empty l0_0 x32_2)).bind fun t111 => (if t111 = true then (some false) else ((zd6 k2 (rdOf ByteArray.empty l0_0 x32_2)).bind fun t112 => (if t112 = true then ((zc4 k2 l0_1 t108 t109).bind fun t113 => (if t113 = true then (za6 k2 l0_0 (l0_0.length : Int) (wrap64 (x32_2 + 1)) l0_0 l0_1) else (some false))) else (za6 k2 l0_0 (l0_0.length : Int) (wrap64 (x32_2 + 1)) l0_0 l0_1))))) else (none)) = some r := by rw [if_pos rfl] at H; exact H
 have c18b0 := eq_true (zde (by assumption) : 0 ≤ x32_2)
 by_cases c19 : x32_2 ≤ (l0_0.length : Int)
 rotate_left
 · rw [if_neg c19] at H
   exact absurd H (by simp)
 rw [if_pos c19] at H
 have c19b0 := eq_true c19
 have c19b1 : decide (x32_2 ≤ (l0_0.length : Int)) = true := zdt c19
 clear c19
 replace H := zob H
 obtain ⟨t111, A200, H⟩ := H
 replace H : (if t111 = true then (some false) else ((zd6 k2 (rdOf ByteArray.empty l0_0 x32_2)).bind fun t112 => (if t112 = true then ((zc4 k2 l0_1 t108 t109).bind fun t113 => (if t113 = true then (za6 k2 l0_0 (l0_0.length : Int) (wrap64 (x32_2 + 1)) l0_0 l0_1) else (some false))) else (za6 k2 l0_0 (l0_0.length : Int) (wrap64 (x32_2 + 1)) l0_0 l0_1)))) = some r := H
 have A20 := zA A200
 clear A200
 by_cases c21 : t111 = true
 · subst c21
   replace H : (some false) = some r := by rw [if_pos rfl] at H; exact H
   obtain rfl := zsi H
   have p104 : 0 ≤ (x32_2 : Int) := zde (by assumption)
   have q104 : x32_2 < (l0_0.length : Int) := zde (by assumption)
   obtain ⟨ad104, e104, hx104_0⟩ := Kd.at_string HR0_0.out x32_2 p104 q104
   cases e104
   replace hx104_0 := zkep HB.out hx104_0
   replace p104 := eq_true p104
   replace q104 := eq_true q104
   go_wp2_with (first | ((with_reducible refine zae (f := 153) rfl ?_); refine zaz (some 39) rfl rfl Try.func153 (by kernel_rfl) rfl #[.string (rdOf ByteArray.empty l0_0 x32_2)] rfl (by first | rfl | (simp only [zld, zle, zlf, zlg, zlh] <;> rfl)) ?_; (with_reducible refine (zex k2 (rdOf ByteArray.empty l0_0 x32_2) true t106 t107 t108 t109 _ A16.out).mono ?_); rintro e w' ⟨rfl, ⟨nd, rfl⟩⟩; refine ⟨_, rfl, ?_⟩; obtain ⟨hcz22_0, hcz22_1⟩ := zc2 wr (.slice (some ad104) l0_0.length c0_0) (.slice A0_1 l0_1.length c0_1) BK101.out; obtain ⟨hfz22_0, hfz22_1⟩ := zf2 BK101.out; obtain ⟨i023, hi023, _, hsz23, _⟩ := info_parts zpq; obtain ⟨hcut23, hA23, hC23⟩ := zeu (P := Try.prog) Value.string (⟨#[]⟩ : ByteArray) 57 9 .i64 Try.underlying57 hi023 hsz23 (some ad104) c0_0 l0_0 x32_2 (zde (by assumption)) (zde (by assumption)) HC0_0.out; have HR110 := zA (Kd.C_of_reads (h1 := fun _ => rfl) (hA23 _ (Kd.reads_of_C HR0_0.out))); have HC110 := zA hC23; clear hA23 hC23 hi023 hsz23) | (go_at_call 154; refine zih (args' := #[.slice (some ad104) (l0_0.take (x32_2 : Int).toNat).length c0_0, .string (rdOf ByteArray.empty l0_0 x32_2)]) (by first | (rw [show (l0_0.take (x32_2 : Int).toNat).length = x32_2.toNat from (by rw [zlh]; have h_ : (x32_2 : Int) ≤ (l0_0.length : Int) := zde (by assumption); omega)] <;> rfl) | rfl) ?_; (with_reducible refine (zfm k2 _ _ (l0_0.take (x32_2 : Int).toNat) (rdOf ByteArray.empty l0_0 x32_2) true _ ?side1 ?side2 A20.out).mono ?_); (case side1 => repeat (first | exact (zCb HR110.out (by repeat (first | (with_reducible first | exact HB.out | apply zba | apply zbn | apply zbd | refine zaa ?_ GE101.out) | exact HB.out))) | (with_reducible first | refine zCa ?_ _ | refine zCn ?_ _ | refine zCd ?_))); (case side2 => exact HC110.out); rintro e w' ⟨rfl, ⟨nd, rfl⟩⟩))
   go_ret
   exact ⟨by first | rfl | (simp <;> rfl) | (simp [*] <;> rfl), by repeat (first | (with_reducible first | exact HB.out | apply zba | apply zbn | apply zbd | refine zaa ?_ GE101.out) | exact HB.out)⟩
 replace c21 := zbf c21
 subst c21
 replace H : ((zd6 k2 (rdOf ByteArray.empty l0_0 x32_2)).bind fun t112 => (if t112 = true then ((zc4 k2 l0_1 t108 t109).bind fun t113 => (if t113 = true then (za6 k2 l0_0 (l0_0.length : Int) (wrap64 (x32_2 + 1)) l0_0 l0_1) else (some false))) else (za6 k2 l0_0 (l0_0.length : Int) (wrap64 (x32_2 + 1)) l0_0 l0_1))) = some r := by rw [if_neg (show ¬ (false = true) by decide)] at H; exact H
 replace H := zob H
 obtain ⟨t112, A240, H⟩ := H
 replace H : (if t112 = true then ((zc4 k2 l0_1 t108 t109).bind fun t113 => (if t113 = true then (za6 k2 l0_0 (l0_0.length : Int) (wrap64 (x32_2 + 1)) l0_0 l0_1) else (some false))) else (za6 k2 l0_0 (l0_0.length : Int) (wrap64 (x32_2 + 1)) l0_0 l0_1)) = some r := H
 have A24 := zA A240
 clear A240
 by_cases c25 : t112 = true
 rotate_left
 · replace c25 := zbf c25
   subst c25
   replace H : (za6 k2 l0_0 (l0_0.length : Int) (wrap64 (x32_2 + 1)) l0_0 l0_1) = some r := by rw [if_neg (show ¬ (false = true) by decide)] at H; exact H
   have H' := zA H
   clear H
   have p104 : 0 ≤ (x32_2 : Int) := zde (by assumption)
   have q104 : x32_2 < (l0_0.length : Int) := zde (by assumption)
   obtain ⟨ad104, e104, hx104_0⟩ := Kd.at_string HR0_0.out x32_2 p104 q104
   cases e104
   replace hx104_0 := zkep HB.out hx104_0
   replace p104 := eq_true p104
   replace q104 := eq_true q104
   go_wp2_with (first | ((with_reducible refine zae (f := 153) rfl ?_); refine zaz (some 39) rfl rfl Try.func153 (by kernel_rfl) rfl #[.string (rdOf ByteArray.empty l0_0 x32_2)] rfl (by first | rfl | (simp only [zld, zle, zlf, zlg, zlh] <;> rfl)) ?_; (with_reducible refine (zex k2 (rdOf ByteArray.empty l0_0 x32_2) true t106 t107 t108 t109 _ A16.out).mono ?_); rintro e w' ⟨rfl, ⟨nd, rfl⟩⟩; refine ⟨_, rfl, ?_⟩; obtain ⟨hcz36_0, hcz36_1⟩ := zc2 wr (.slice (some ad104) l0_0.length c0_0) (.slice A0_1 l0_1.length c0_1) BK101.out; obtain ⟨hfz36_0, hfz36_1⟩ := zf2 BK101.out; obtain ⟨i037, hi037, _, hsz37, _⟩ := info_parts zpq; obtain ⟨hcut37, hA37, hC37⟩ := zeu (P := Try.prog) Value.string (⟨#[]⟩ : ByteArray) 57 9 .i64 Try.underlying57 hi037 hsz37 (some ad104) c0_0 l0_0 x32_2 (zde (by assumption)) (zde (by assumption)) HC0_0.out; have HR110 := zA (Kd.C_of_reads (h1 := fun _ => rfl) (hA37 _ (Kd.reads_of_C HR0_0.out))); have HC110 := zA hC37; clear hA37 hC37 hi037 hsz37) | (go_at_call 154; refine zih (args' := #[.slice (some ad104) (l0_0.take (x32_2 : Int).toNat).length c0_0, .string (rdOf ByteArray.empty l0_0 x32_2)]) (by first | (rw [show (l0_0.take (x32_2 : Int).toNat).length = x32_2.toNat from (by rw [zlh]; have h_ : (x32_2 : Int) ≤ (l0_0.length : Int) := zde (by assumption); omega)] <;> rfl) | rfl) ?_; (with_reducible refine (zfm k2 _ _ (l0_0.take (x32_2 : Int).toNat) (rdOf ByteArray.empty l0_0 x32_2) false _ ?side1 ?side2 A20.out).mono ?_); (case side1 => repeat (first | exact (zCb HR110.out (by repeat (first | (with_reducible first | exact HB.out | apply zba | apply zbn | apply zbd | refine zaa ?_ GE101.out) | exact HB.out))) | (with_reducible first | refine zCa ?_ _ | refine zCn ?_ _ | refine zCd ?_))); (case side2 => exact HC110.out); rintro e w' ⟨rfl, ⟨nd, rfl⟩⟩) | (go_at_call 155; (with_reducible refine (zf1 k2 (rdOf ByteArray.empty l0_0 x32_2) false _ A24.out).mono ?_); rintro e w38 ⟨rfl, hb⟩; have n0_ := zA (zad (g := gb101) (o := .cells #[.slice (some ad104) l0_0.length c0_0, .slice A0_1 l0_1.length c0_1] 62 (0, 0)) (by (with_reducible repeat (first | refine zkn ?_ _ | refine zkd ?_ | refine zka ?_ _)); exact BK101.out) hb); have n1_ := zA (zai (by repeat (first | (with_reducible first | exact HB.out | apply zba | apply zbn | apply zbd | refine zaa ?_ GE101.out) | exact HB.out)) hb); clear BK101 HB; have BK101 := n0_; have HB := n1_; clear n0_ n1_; (try clear hb)))
   go_roundg k2
   case measure => have := HJ1.out; have := HK2.out; omega
   case rel => exact ⟨(wrap64 (x32_2 + 1)), (by first | rfl | (simp; done) | (simp [*]; done)), H', ⟨by have := HJ1.out; have := HK2.out; omega⟩, ⟨by (with_reducible repeat (first | refine zkn ?_ _ | refine zkd ?_ | refine zka ?_ _)); exact BK101.out⟩, ⟨by repeat (first | (with_reducible first | exact HB.out | apply zba | apply zbn | apply zbd | refine zaa ?_ GE101.out) | exact HB.out)⟩⟩
 subst c25
 replace H : ((zc4 k2 l0_1 t108 t109).bind fun t113 => (if t113 = true then (za6 k2 l0_0 (l0_0.length : Int) (wrap64 (x32_2 + 1)) l0_0 l0_1) else (some false))) = some r := by rw [if_pos rfl] at H; exact H
 replace H := zob H
 obtain ⟨t113, A260, H⟩ := H
 replace H : (if t113 = true then (za6 k2 l0_0 (l0_0.length : Int) (wrap64 (x32_2 + 1)) l0_0 l0_1) else (some false)) = some r := H
 have A26 := zA A260
 clear A260
 by_cases c27 : t113 = true
 rotate_left
 · replace c27 := zbf c27
   subst c27
   replace H : (some false) = some r := by rw [if_neg (show ¬ (false = true) by decide)] at H; exact H
   obtain rfl := zsi H
   have p104 : 0 ≤ (x32_2 : Int) := zde (by assumption)
   have q104 : x32_2 < (l0_0.length : Int) := zde (by assumption)
   obtain ⟨ad104, e104, hx104_0⟩ := Kd.at_string HR0_0.out x32_2 p104 q104
   cases e104
   replace hx104_0 := zkep HB.out hx104_0
   replace p104 := eq_true p104
   replace q104 := eq_true q104
   go_wp2_with (first | ((with_reducible refine zae (f := 153) rfl ?_); refine zaz (some 39) rfl rfl Try.func153 (by kernel_rfl) rfl #[.string (rdOf ByteArray.empty l0_0 x32_2)] rfl (by first | rfl | (simp only [zld, zle, zlf, zlg, zlh] <;> rfl)) ?_; (with_reducible refine (zex k2 (rdOf ByteArray.empty l0_0 x32_2) true t106 t107 t108 t109 _ A16.out).mono ?_); rintro e w' ⟨rfl, ⟨nd, rfl⟩⟩; refine ⟨_, rfl, ?_⟩; obtain ⟨hcz32_0, hcz32_1⟩ := zc2 wr (.slice (some ad104) l0_0.length c0_0) (.slice A0_1 l0_1.length c0_1) BK101.out; obtain ⟨hfz32_0, hfz32_1⟩ := zf2 BK101.out; obtain ⟨i033, hi033, _, hsz33, _⟩ := info_parts zpq; obtain ⟨hcut33, hA33, hC33⟩ := zeu (P := Try.prog) Value.string (⟨#[]⟩ : ByteArray) 57 9 .i64 Try.underlying57 hi033 hsz33 (some ad104) c0_0 l0_0 x32_2 (zde (by assumption)) (zde (by assumption)) HC0_0.out; have HR110 := zA (Kd.C_of_reads (h1 := fun _ => rfl) (hA33 _ (Kd.reads_of_C HR0_0.out))); have HC110 := zA hC33; clear hA33 hC33 hi033 hsz33) | (go_at_call 154; refine zih (args' := #[.slice (some ad104) (l0_0.take (x32_2 : Int).toNat).length c0_0, .string (rdOf ByteArray.empty l0_0 x32_2)]) (by first | (rw [show (l0_0.take (x32_2 : Int).toNat).length = x32_2.toNat from (by rw [zlh]; have h_ : (x32_2 : Int) ≤ (l0_0.length : Int) := zde (by assumption); omega)] <;> rfl) | rfl) ?_; (with_reducible refine (zfm k2 _ _ (l0_0.take (x32_2 : Int).toNat) (rdOf ByteArray.empty l0_0 x32_2) false _ ?side1 ?side2 A20.out).mono ?_); (case side1 => repeat (first | exact (zCb HR110.out (by repeat (first | (with_reducible first | exact HB.out | apply zba | apply zbn | apply zbd | refine zaa ?_ GE101.out) | exact HB.out))) | (with_reducible first | refine zCa ?_ _ | refine zCn ?_ _ | refine zCd ?_))); (case side2 => exact HC110.out); rintro e w' ⟨rfl, ⟨nd, rfl⟩⟩) | (go_at_call 155; (with_reducible refine (zf1 k2 (rdOf ByteArray.empty l0_0 x32_2) true _ A24.out).mono ?_); rintro e w34 ⟨rfl, hb⟩; have n0_ := zA (zad (g := gb101) (o := .cells #[.slice (some ad104) l0_0.length c0_0, .slice A0_1 l0_1.length c0_1] 62 (0, 0)) (by (with_reducible repeat (first | refine zkn ?_ _ | refine zkd ?_ | refine zka ?_ _)); exact BK101.out) hb); have n1_ := zA (zai (by repeat (first | (with_reducible first | exact HB.out | apply zba | apply zbn | apply zbd | refine zaa ?_ GE101.out) | exact HB.out)) hb); clear BK101 HB; have BK101 := n0_; have HB := n1_; clear n0_ n1_; (try clear hb); obtain ⟨hcz35_0, hcz35_1⟩ := zc2 w34 (.slice (some ad104) l0_0.length c0_0) (.slice A0_1 l0_1.length c0_1) BK101.out; obtain ⟨hfz35_0, hfz35_1⟩ := zf2 BK101.out) | (go_at_call 152; (with_reducible refine (zhz k2 _ _ l0_1 t108 t109 false _ ?side1 ?side2 A26.out).mono ?_); (case side1 => repeat (first | exact (zCb HR0_1.out HB.out) | (with_reducible first | refine zCa ?_ _ | refine zCn ?_ _ | refine zCd ?_))); (case side2 => exact HC0_1.out); rintro e w' ⟨rfl, ⟨nd, rfl⟩⟩))
   go_ret
   exact ⟨by first | rfl | (simp <;> rfl) | (simp [*] <;> rfl), by repeat (first | (with_reducible first | exact HB.out | apply zba | apply zbn | apply zbd | refine zaa ?_ GE101.out) | exact HB.out)⟩
 subst c27
 replace H : (za6 k2 l0_0 (l0_0.length : Int) (wrap64 (x32_2 + 1)) l0_0 l0_1) = some r := by rw [if_pos rfl] at H; exact H
 have H' := zA H
 clear H
 have p104 : 0 ≤ (x32_2 : Int) := zde (by assumption)
 have q104 : x32_2 < (l0_0.length : Int) := zde (by assumption)
 obtain ⟨ad104, e104, hx104_0⟩ := Kd.at_string HR0_0.out x32_2 p104 q104
 cases e104
 replace hx104_0 := zkep HB.out hx104_0
 replace p104 := eq_true p104
 replace q104 := eq_true q104
 go_wp2_with (first | ((with_reducible refine zae (f := 153) rfl ?_); refine zaz (some 39) rfl rfl Try.func153 (by kernel_rfl) rfl #[.string (rdOf ByteArray.empty l0_0 x32_2)] rfl (by first | rfl | (simp only [zld, zle, zlf, zlg, zlh] <;> rfl)) ?_; (with_reducible refine (zex k2 (rdOf ByteArray.empty l0_0 x32_2) true t106 t107 t108 t109 _ A16.out).mono ?_); rintro e w' ⟨rfl, ⟨nd, rfl⟩⟩; refine ⟨_, rfl, ?_⟩; obtain ⟨hcz28_0, hcz28_1⟩ := zc2 wr (.slice (some ad104) l0_0.length c0_0) (.slice A0_1 l0_1.length c0_1) BK101.out; obtain ⟨hfz28_0, hfz28_1⟩ := zf2 BK101.out; obtain ⟨i029, hi029, _, hsz29, _⟩ := info_parts zpq; obtain ⟨hcut29, hA29, hC29⟩ := zeu (P := Try.prog) Value.string (⟨#[]⟩ : ByteArray) 57 9 .i64 Try.underlying57 hi029 hsz29 (some ad104) c0_0 l0_0 x32_2 (zde (by assumption)) (zde (by assumption)) HC0_0.out; have HR110 := zA (Kd.C_of_reads (h1 := fun _ => rfl) (hA29 _ (Kd.reads_of_C HR0_0.out))); have HC110 := zA hC29; clear hA29 hC29 hi029 hsz29) | (go_at_call 154; refine zih (args' := #[.slice (some ad104) (l0_0.take (x32_2 : Int).toNat).length c0_0, .string (rdOf ByteArray.empty l0_0 x32_2)]) (by first | (rw [show (l0_0.take (x32_2 : Int).toNat).length = x32_2.toNat from (by rw [zlh]; have h_ : (x32_2 : Int) ≤ (l0_0.length : Int) := zde (by assumption); omega)] <;> rfl) | rfl) ?_; (with_reducible refine (zfm k2 _ _ (l0_0.take (x32_2 : Int).toNat) (rdOf ByteArray.empty l0_0 x32_2) false _ ?side1 ?side2 A20.out).mono ?_); (case side1 => repeat (first | exact (zCb HR110.out (by repeat (first | (with_reducible first | exact HB.out | apply zba | apply zbn | apply zbd | refine zaa ?_ GE101.out) | exact HB.out))) | (with_reducible first | refine zCa ?_ _ | refine zCn ?_ _ | refine zCd ?_))); (case side2 => exact HC110.out); rintro e w' ⟨rfl, ⟨nd, rfl⟩⟩) | (go_at_call 155; (with_reducible refine (zf1 k2 (rdOf ByteArray.empty l0_0 x32_2) true _ A24.out).mono ?_); rintro e w30 ⟨rfl, hb⟩; have n0_ := zA (zad (g := gb101) (o := .cells #[.slice (some ad104) l0_0.length c0_0, .slice A0_1 l0_1.length c0_1] 62 (0, 0)) (by (with_reducible repeat (first | refine zkn ?_ _ | refine zkd ?_ | refine zka ?_ _)); exact BK101.out) hb); have n1_ := zA (zai (by repeat (first | (with_reducible first | exact HB.out | apply zba | apply zbn | apply zbd | refine zaa ?_ GE101.out) | exact HB.out)) hb); clear BK101 HB; have BK101 := n0_; have HB := n1_; clear n0_ n1_; (try clear hb); obtain ⟨hcz31_0, hcz31_1⟩ := zc2 w30 (.slice (some ad104) l0_0.length c0_0) (.slice A0_1 l0_1.length c0_1) BK101.out; obtain ⟨hfz31_0, hfz31_1⟩ := zf2 BK101.out) | (go_at_call 152; (with_reducible refine (zhz k2 _ _ l0_1 t108 t109 true _ ?side1 ?side2 A26.out).mono ?_); (case side1 => repeat (first | exact (zCb HR0_1.out HB.out) | (with_reducible first | refine zCa ?_ _ | refine zCn ?_ _ | refine zCd ?_))); (case side2 => exact HC0_1.out); rintro e w' ⟨rfl, ⟨nd, rfl⟩⟩))
 go_roundg k2
 case measure => have := HJ1.out; have := HK2.out; omega
 case rel => exact ⟨(wrap64 (x32_2 + 1)), (by first | rfl | (simp; done) | (simp [*]; done)), H', ⟨by have := HJ1.out; have := HK2.out; omega⟩, ⟨by (with_reducible repeat (first | refine zkn ?_ _ | refine zkd ?_ | refine zka ?_ _)); exact BK101.out⟩, ⟨by repeat (first | (with_reducible first | exact HB.out | apply zba | apply zbn | apply zbd | refine zaa ?_ GE101.out) | exact HB.out)⟩⟩
end Go.Proofs.Ytccoiifklcgodaa.Q
end
section
namespace Go.Proofs.Ytccoiifklcgodaa.Q
open Go.RowKit Go.Proofs.YtccoiifklcgodaaW.PrintWords Go.Proofs.YtccoiifklcgodaaW.PrintLast Go.Proofs.YtccoiifklcgodaaW.PrintMore
attribute [local go_sem] zdk zdl zee zef zcq zcr zdm zdn
set_option linter.unusedVariables false
set_option linter.unusedSimpArgs false
attribute [local go_sem high] zsx
def zcn : Nat → List (S102) → Int → Int → ByteArray → Int → Int → Int → Int → Option (Int)
 | 0, _, _, _, _, _, _, _, _ => none
 | k + 1, x7, x8, x9, x102000, x102001, x102002, x102003, x102004 => if x9 < x8 then (if 0 ≤ x9 then (if x9 < (x7.length : Int) then (if (x102000.toList == (((zab x7 x9).f0).toList) && (x102001 == ((zab x7 x9).f1) && (x102002 == ((zab x7 x9).f2) && (x102003 == ((zab x7 x9).f3) && (x102004 == ((zab x7 x9).f4)))))) = true then (some x9) else (zcn k x7 x8 (wrap64 (x9 + 1)) x102000 x102001 x102002 x102003 x102004)) else (none)) else (none)) else (some (-1))
def ze2 (k : Nat) (l0 : List (S102)) (a1_0 : ByteArray) (a1_1 : Int) (a1_2 : Int) (a1_3 : Int) (a1_4 : Int) : Option (Int) := zcn k l0 (l0.length : Int) 0 a1_0 a1_1 a1_2 a1_3 a1_4
theorem ziu : ∀ k, (∀ y0 y1 y2 y3 y4 y5 y6 y7, LeO (zcn k y0 y1 y2 y3 y4 y5 y6 y7) (zcn (k + 1) y0 y1 y2 y3 y4 y5 y6 y7))
 | 0 => fun _ _ _ _ _ _ _ _ r h => by simp [zcn] at h
 | k + 1 => by
   have ih0 := ziu k
   · intro y0 y1 y2 y3 y4 y5 y6 y7
     unfold zcn
     repeat' first
     | (with_reducible first | exact ih0 _ _ _ _ _ _ _ _ | exact LeO.refl _ | exact LeO.none _ | refine zaf ?_ ?_ | refine LeO.bind ?_ (fun _ => ?_))
     | exact LeO.none _
     | refine zaf ?_ ?_
     | refine LeO.bind ?_ (fun _ => ?_)
theorem zjr : ∀ a0 a1 a2 a3 a4 a5 k, LeO (ze2 k a0 a1 a2 a3 a4 a5) (ze2 (k + 1) a0 a1 a2 a3 a4 a5) := by
 intro a0 a1 a2 a3 a4 a5 k
 have ih0 := ziu k
 unfold ze2
 repeat' first
     | (with_reducible first | exact ih0 _ _ _ _ _ _ _ _ | exact LeO.refl _ | exact LeO.none _ | refine zaf ?_ ?_ | refine LeO.bind ?_ (fun _ => ?_))
     | exact LeO.none _
     | refine zaf ?_ ?_
     | refine LeO.bind ?_ (fun _ => ?_)
set_option maxHeartbeats 8000000 in
set_option maxRecDepth 100000 in
theorem zjb (k : Nat) (A0 : Option Addr) (c0 : Nat) (l0 : List (S102)) (a1_0 : ByteArray) (a1_1 : Int) (a1_2 : Int) (a1_3 : Int) (a1_4 : Int) (r : Int) (w : World) (hr0 : Kd.C k102 w A0 l0.length l0) (hc0 : l0.length ≤ c0) (h : ze2 k l0 a1_0 a1_1 a1_2 a1_3 a1_4 = some r) :
   Calls Try.prog 156 #[.slice A0 l0.length c0, .agg #[.string a1_0, .int .i64 a1_1, .int .i64 a1_2, .int .i64 a1_3, .int .i64 a1_4]] w fun e w' => e = .returned (.int .i64 r) ∧ Below w.heap.size w w' := by
 have hu102 := Try.underlying102
 have HR0 := zA hr0
 have HC0 := zA hc0
 clear hr0 hc0
 have HB := zA (Below.refl w.heap.size w)
 have H : (zcn k l0 (l0.length : Int) 0 a1_0 a1_1 a1_2 a1_3 a1_4) = some r := h
 clear h
 have H' := zA H
 clear H
 go_enter Try.func156, Try.ntmps156
 go_wp2_with (first | ((with_reducible refine zam (N := 3) rfl ?_); refine zak ?hg (N := 3) ?hd (cs := #[.string a1_0, .int .i64 a1_1, .int .i64 a1_2, .int .i64 a1_3, .int .i64 a1_4]) (t := 102) ?hr ?_; (case hd => rfl); (case hg => rfl); (case hr => go_simp <;> rfl); intro gb101 hg w3 hbox hb; have zs := zpair (by repeat (first | (with_reducible first | exact HB.out | apply zba | apply zbn | apply zbd) | exact HB.out)) hb; have n0_ := zA (zs.1); have n1_ := zA (hbox); have n2_ := zA ((by rw [hg]; exact zs.2 : w.heap.size ≤ gb101)); have n3_ := n2_; clear HB; have HB := n0_; have BK101 := n1_; have GW101 := n2_; have GE101 := n3_; clear n0_ n1_ n2_ n3_; clear zs hb hbox hg))
 go_loopg [9] k (fun kq v9 w' => ∃ (x9_1 : Int), v9 = .int .i64 x9_1 ∧ Aside0 (zcn kq l0 (l0.length : Int) x9_1 a1_0 a1_1 a1_2 a1_3 a1_4 = some r) ∧ Aside0 (kq ≤ k) ∧ Aside0 (w'.heap[gb101]? = some (.cells #[.string a1_0, .int .i64 a1_1, .int .i64 a1_2, .int .i64 a1_3, .int .i64 a1_4] 102 (0, 0))) ∧ Aside0 (Below w.heap.size w w'))
 case atStart => exact ⟨(0), (by first | rfl | (simp; done) | (simp [*]; done)), H', ⟨zlr _⟩, ⟨by (with_reducible repeat (first | refine zkn ?_ _ | refine zkd ?_ | refine zka ?_ _)); exact BK101.out⟩, ⟨by repeat (first | (with_reducible first | exact HB.out | apply zba | apply zbn | apply zbd | refine zaa ?_ GE101.out) | exact HB.out)⟩⟩
 clear H'
 try clear c1
 try clear p2
 obtain ⟨x9_1, rfl, HA, HK1, BK101, HB⟩ := hrel
 cases gk with
 | zero => exact absurd HA.out (by simp [zcn])
 | succ k1 =>
 have H := HA.out
 clear HA
 simp only [zcn] at H
 by_cases c4 : x9_1 < (l0.length : Int)
 rotate_left
 · rw [if_neg c4] at H
   have c4b0 : decide (x9_1 < (l0.length : Int)) = false := zdf c4
   clear c4
   obtain rfl := zsi H
   go_wp2
   go_ret
   exact ⟨by first | rfl | (simp <;> rfl) | (simp [*] <;> rfl), by repeat (first | (with_reducible first | exact HB.out | apply zba | apply zbn | apply zbd | refine zaa ?_ GE101.out) | exact HB.out)⟩
 rw [if_pos c4] at H
 have c4b0 : decide (x9_1 < (l0.length : Int)) = true := zdt c4
 clear c4
 by_cases c5 : 0 ≤ x9_1
 rotate_left
 · rw [if_neg c5] at H
   exact absurd H (by simp)
 rw [if_pos c5] at H
 have c5b0 : decide (0 ≤ x9_1) = true := zdt c5
 clear c5
 by_cases c6 : x9_1 < (l0.length : Int)
 rotate_left
 · rw [if_neg c6] at H
   exact absurd H (by simp)
 rw [if_pos c6] at H
 have c6b0 : decide (x9_1 < (l0.length : Int)) = true := zdt c6
 clear c6
 by_cases c7 : (a1_0.toList == (((zab l0 x9_1).f0).toList) && (a1_1 == ((zab l0 x9_1).f1) && (a1_2 == ((zab l0 x9_1).f2) && (a1_3 == ((zab l0 x9_1).f3) && (a1_4 == ((zab l0 x9_1).f4)))))) = true
 · rw [if_pos c7] at H
   have c7b0 : (a1_0.toList == (((zab l0 x9_1).f0).toList) && (a1_1 == ((zab l0 x9_1).f1) && (a1_2 == ((zab l0 x9_1).f2) && (a1_3 == ((zab l0 x9_1).f3) && (a1_4 == ((zab l0 x9_1).f4)))))) = true := c7
   (try (have c7b1 : decide (a1_0.toList = (((zab l0 x9_1).f0).toList) && (a1_1 == ((zab l0 x9_1).f1) && (a1_2 == ((zab l0 x9_1).f2) && (a1_3 == ((zab l0 x9_1).f3) && (a1_4 == ((zab l0 x9_1).f4)))))) = true := by simpa using c7))
   (try (have c7b2 : (a1_0.toList == (((zab l0 x9_1).f0).toList) && (a1_1 == ((zab l0 x9_1).f1) && (a1_2 == ((zab l0 x9_1).f2) && (a1_3 == ((zab l0 x9_1).f3) && (a1_4 == ((zab l0 x9_1).f4)))))) = true := by simpa using c7))
   clear c7
   obtain rfl := zsi H
   have p102 : 0 ≤ (x9_1 : Int) := zde (by assumption)
   have q102 : x9_1 < (l0.length : Int) := zde (by assumption)
   obtain ⟨ad102, e102, hx102_0, hx102_1, hx102_2, hx102_3, hx102_4⟩ := zg1 HR0.out x9_1 p102 q102
   cases e102
   replace hx102_0 := zkep HB.out hx102_0
   replace hx102_1 := zkep HB.out hx102_1
   replace hx102_2 := zkep HB.out hx102_2
   replace hx102_3 := zkep HB.out hx102_3
   replace hx102_4 := zkep HB.out hx102_4
   replace p102 := eq_true p102
   replace q102 := eq_true q102
   go_wp2_with (first | ((with_reducible refine zam (N := 6) rfl ?_); refine zak ?hg (N := 6) ?hd (cs := #[.string (⟨#[]⟩ : ByteArray), .int .i64 0, .int .i64 0, .int .i64 0, .int .i64 0]) (t := 102) ?hr ?_; (case hd => rfl); (case hg => rfl); (case hr => go_simp <;> rfl); intro gb103 hg w8 hbox hb; have n0_ := zA (zad (g := gb101) (o := .cells #[.string a1_0, .int .i64 a1_1, .int .i64 a1_2, .int .i64 a1_3, .int .i64 a1_4] 102 (0, 0)) (by (with_reducible repeat (first | refine zkn ?_ _ | refine zkd ?_ | refine zka ?_ _)); exact BK101.out) hb); have zs := zpair (by repeat (first | (with_reducible first | exact HB.out | apply zba | apply zbn | apply zbd | refine zaa ?_ GE101.out) | exact HB.out)) hb; have n1_ := zA (zs.1); have n2_ := zA (hbox); have n3_ := zA ((by rw [hg]; exact zs.2 : w.heap.size ≤ gb103)); have n4_ := n3_; have n5_ := zA ((by rw [hg]; exact Nat.ne_of_lt (zlt BK101.out (fun h => by (with_reducible repeat (first | refine zkn ?_ _ | refine zkd ?_ | refine zka ?_ _)); exact h)) : gb101 ≠ gb103)); have n6_ := zA (Ne.symm n5_.out); clear BK101 HB; have BK101 := n0_; have HB := n1_; have BK103 := n2_; have GW103 := n3_; have GE103 := n4_; have NB101_103 := n5_; have NB103_101 := n6_; clear n0_ n1_ n2_ n3_ n4_ n5_ n6_; clear zs hb hbox hg; have hnb9 := NB103_101.out; have hnc9 := NB101_103.out; obtain ⟨hcz10_0, hcz10_1, hcz10_2, hcz10_3, hcz10_4⟩ := zc5 w8 (.string (⟨#[]⟩ : ByteArray)) (.int .i64 0) (.int .i64 0) (.int .i64 0) (.int .i64 0) BK103.out; obtain ⟨hfz10_0, hfz10_1, hfz10_2, hfz10_3, hfz10_4⟩ := zf5 BK103.out; obtain ⟨hcz11_0, hcz11_1, hcz11_2, hcz11_3, hcz11_4⟩ := zc5 w8 (.string a1_0) (.int .i64 a1_1) (.int .i64 a1_2) (.int .i64 a1_3) (.int .i64 a1_4) BK101.out; obtain ⟨hfz11_0, hfz11_1, hfz11_2, hfz11_3, hfz11_4⟩ := zf5 BK101.out))
   go_ret
   exact ⟨by first | rfl | (simp <;> rfl) | (simp [*] <;> rfl), by repeat (first | (with_reducible first | exact HB.out | apply zba | apply zbn | apply zbd | refine zaa ?_ GE101.out | refine zaa ?_ GE103.out) | exact HB.out)⟩
 rw [if_neg c7] at H
 have c7b0 : (a1_0.toList == (((zab l0 x9_1).f0).toList) && (a1_1 == ((zab l0 x9_1).f1) && (a1_2 == ((zab l0 x9_1).f2) && (a1_3 == ((zab l0 x9_1).f3) && (a1_4 == ((zab l0 x9_1).f4)))))) = false := by simpa using c7
 (try (have c7b1 : decide (a1_0.toList = (((zab l0 x9_1).f0).toList) && (a1_1 == ((zab l0 x9_1).f1) && (a1_2 == ((zab l0 x9_1).f2) && (a1_3 == ((zab l0 x9_1).f3) && (a1_4 == ((zab l0 x9_1).f4)))))) = false := by simpa using c7))
 (try (have c7b2 : (a1_0.toList == (((zab l0 x9_1).f0).toList) && (a1_1 == ((zab l0 x9_1).f1) && (a1_2 == ((zab l0 x9_1).f2) && (a1_3 == ((zab l0 x9_1).f3) && (a1_4 == ((zab l0 x9_1).f4)))))) = false := by simpa using c7))
 (try (have c7b3 : ¬ (a1_0.toList = (((zab l0 x9_1).f0).toList) && (a1_1 == ((zab l0 x9_1).f1) && (a1_2 == ((zab l0 x9_1).f2) && (a1_3 == ((zab l0 x9_1).f3) && (a1_4 == ((zab l0 x9_1).f4)))))) := by simpa using c7))
 clear c7
 have H' := zA H
 clear H
 have p102 : 0 ≤ (x9_1 : Int) := zde (by assumption)
 have q102 : x9_1 < (l0.length : Int) := zde (by assumption)
 obtain ⟨ad102, e102, hx102_0, hx102_1, hx102_2, hx102_3, hx102_4⟩ := zg1 HR0.out x9_1 p102 q102
 cases e102
 replace hx102_0 := zkep HB.out hx102_0
 replace hx102_1 := zkep HB.out hx102_1
 replace hx102_2 := zkep HB.out hx102_2
 replace hx102_3 := zkep HB.out hx102_3
 replace hx102_4 := zkep HB.out hx102_4
 replace p102 := eq_true p102
 replace q102 := eq_true q102
 go_wp2_with (first | ((with_reducible refine zam (N := 6) rfl ?_); refine zak ?hg (N := 6) ?hd (cs := #[.string (⟨#[]⟩ : ByteArray), .int .i64 0, .int .i64 0, .int .i64 0, .int .i64 0]) (t := 102) ?hr ?_; (case hd => rfl); (case hg => rfl); (case hr => go_simp <;> rfl); intro gb103 hg w12 hbox hb; have n0_ := zA (zad (g := gb101) (o := .cells #[.string a1_0, .int .i64 a1_1, .int .i64 a1_2, .int .i64 a1_3, .int .i64 a1_4] 102 (0, 0)) (by (with_reducible repeat (first | refine zkn ?_ _ | refine zkd ?_ | refine zka ?_ _)); exact BK101.out) hb); have zs := zpair (by repeat (first | (with_reducible first | exact HB.out | apply zba | apply zbn | apply zbd | refine zaa ?_ GE101.out) | exact HB.out)) hb; have n1_ := zA (zs.1); have n2_ := zA (hbox); have n3_ := zA ((by rw [hg]; exact zs.2 : w.heap.size ≤ gb103)); have n4_ := n3_; have n5_ := zA ((by rw [hg]; exact Nat.ne_of_lt (zlt BK101.out (fun h => by (with_reducible repeat (first | refine zkn ?_ _ | refine zkd ?_ | refine zka ?_ _)); exact h)) : gb101 ≠ gb103)); have n6_ := zA (Ne.symm n5_.out); clear BK101 HB; have BK101 := n0_; have HB := n1_; have BK103 := n2_; have GW103 := n3_; have GE103 := n4_; have NB101_103 := n5_; have NB103_101 := n6_; clear n0_ n1_ n2_ n3_ n4_ n5_ n6_; clear zs hb hbox hg; have hnb13 := NB103_101.out; have hnc13 := NB101_103.out; obtain ⟨hcz14_0, hcz14_1, hcz14_2, hcz14_3, hcz14_4⟩ := zc5 w12 (.string (⟨#[]⟩ : ByteArray)) (.int .i64 0) (.int .i64 0) (.int .i64 0) (.int .i64 0) BK103.out; obtain ⟨hfz14_0, hfz14_1, hfz14_2, hfz14_3, hfz14_4⟩ := zf5 BK103.out; obtain ⟨hcz15_0, hcz15_1, hcz15_2, hcz15_3, hcz15_4⟩ := zc5 w12 (.string a1_0) (.int .i64 a1_1) (.int .i64 a1_2) (.int .i64 a1_3) (.int .i64 a1_4) BK101.out; obtain ⟨hfz15_0, hfz15_1, hfz15_2, hfz15_3, hfz15_4⟩ := zf5 BK101.out))
 go_roundg k1
 case measure => have := HK1.out; omega
 case rel => exact ⟨(wrap64 (x9_1 + 1)), (by first | rfl | (simp; done) | (simp [*]; done)), H', ⟨by have := HK1.out; omega⟩, ⟨by (with_reducible repeat (first | refine zkn ?_ _ | refine zkd ?_ | refine zka ?_ _)); refine zat ?_ NB101_103.out _; (with_reducible repeat (first | refine zkn ?_ _ | refine zkd ?_ | refine zka ?_ _)); refine zat ?_ NB101_103.out _; (with_reducible repeat (first | refine zkn ?_ _ | refine zkd ?_ | refine zka ?_ _)); refine zat ?_ NB101_103.out _; (with_reducible repeat (first | refine zkn ?_ _ | refine zkd ?_ | refine zka ?_ _)); refine zat ?_ NB101_103.out _; (with_reducible repeat (first | refine zkn ?_ _ | refine zkd ?_ | refine zka ?_ _)); refine zat ?_ NB101_103.out _; (with_reducible repeat (first | refine zkn ?_ _ | refine zkd ?_ | refine zka ?_ _)); exact BK101.out⟩, ⟨by repeat (first | (with_reducible first | exact HB.out | apply zba | apply zbn | apply zbd | refine zaa ?_ GE101.out | refine zaa ?_ GE103.out) | exact HB.out)⟩⟩
end Go.Proofs.Ytccoiifklcgodaa.Q
end
section
namespace Go.Proofs.Ytccoiifklcgodaa.Q
open Go.RowKit Go.Proofs.YtccoiifklcgodaaW.PrintWords Go.Proofs.YtccoiifklcgodaaW.PrintLast Go.Proofs.YtccoiifklcgodaaW.PrintMore
attribute [local go_sem] zdk zdl zee zef zcq zcr zdm zdn
set_option linter.unusedVariables false
set_option linter.unusedSimpArgs false
def zfw (k : Nat) (l0_0 : List ByteArray) (l0_1 : List Int) (a1 : ByteArray) : Option (List Int) := (zd6 k a1).bind fun t102 => (if t102 = true then (some l0_1) else (some (([0] : List Int))))
theorem zf3 : ∀ a0 a1 a2 k, LeO (zfw k a0 a1 a2) (zfw (k + 1) a0 a1 a2) := by
 intro a0 a1 a2 k
 unfold zfw
 repeat' first
     | (with_reducible first | exact zgo _ _ | exact LeO.refl _ | exact LeO.none _ | refine zaf ?_ ?_ | refine LeO.bind ?_ (fun _ => ?_))
     | exact LeO.none _
     | refine zaf ?_ ?_
     | refine LeO.bind ?_ (fun _ => ?_)
set_option maxHeartbeats 8000000 in
set_option maxRecDepth 100000 in
theorem zmk (k : Nat) (A0_0 : Option Addr) (c0_0 : Nat) (l0_0 : List ByteArray) (P0_1_ : Nat → Prop) (A0_1 : Option Addr) (c0_1 : Nat) (l0_1 : List Int) (a1 : ByteArray) (r : List Int) (w : World) (hr0_0 : Kd.C Kd.string w A0_0 l0_0.length l0_0) (hc0_0 : l0_0.length ≤ c0_0) (hs0_1 : Kd.V (Kd.int .i64) 3 w w.heap.size (fun k_ => P0_1_ k_) (.slice A0_1 l0_1.length c0_1) l0_1) (h : zfw k l0_0 l0_1 a1 = some r) :
   Calls Try.prog 211 #[.agg #[.slice A0_0 l0_0.length c0_0, .slice A0_1 l0_1.length c0_1], .string a1] w fun e w' => ∃ v0_ : Value, e = .returned (v0_) ∧ Kd.V (Kd.int .i64) 3 w' w.heap.size (fun k_ => (P0_1_ k_ ∨ w.heap.size ≤ k_)) v0_ r ∧ Below w.heap.size w w' := by
 have hu62 := Try.underlying62
 have HR0_0 := zA hr0_0
 have HC0_0 := zA hc0_0
 clear hr0_0 hc0_0
 have HO0_1 := zA (show Kd.V (Kd.int .i64) 3 w w.heap.size (fun k_ => (P0_1_ k_ ∨ w.heap.size ≤ k_)) (.slice A0_1 l0_1.length c0_1) l0_1 from Kd.V_mono hs0_1 (fun k_ hk => .inl hk))
 have HB := zA (Below.refl w.heap.size w)
 have H : ((zd6 k a1).bind fun t102 => (if t102 = true then (some l0_1) else (some (([0] : List Int))))) = some r := h
 clear h
 replace H := zob H
 obtain ⟨t102, A30, H⟩ := H
 replace H : (if t102 = true then (some l0_1) else (some (([0] : List Int)))) = some r := H
 have A3 := zA A30
 clear A30
 by_cases c4 : t102 = true
 · subst c4
   replace H : (some l0_1) = some r := by rw [if_pos rfl] at H; exact H
   obtain rfl := zsi H
   go_enter Try.func211, Try.ntmps211
   go_wp2_with (first | ((with_reducible refine zam (N := 2) rfl ?_); refine zak ?hg (N := 2) ?hd (cs := #[.slice A0_0 l0_0.length c0_0, .slice A0_1 l0_1.length c0_1]) (t := 62) ?hr ?_; (case hd => rfl); (case hg => rfl); (case hr => go_simp <;> rfl); intro gb101 hg w5 hbox hb; have n0_ := zA (Kd.V_below (Kd.V_elderB (by (with_reducible repeat (first | apply Kd.V_alloc | apply Kd.V_drewN | apply Kd.V_drew)); exact HO0_1.out) gb101 (Nat.le_of_eq hg.symm)) hb); have zs := zpair (by repeat (first | (with_reducible first | exact HB.out | apply zba | apply zbn | apply zbd) | exact HB.out)) hb; have n1_ := zA (zs.1); have n2_ := zA (hbox); have n3_ := zA ((by rw [hg]; exact zs.2 : w.heap.size ≤ gb101)); have n4_ := n3_; clear HO0_1 HB; have HO0_1 := n0_; have HB := n1_; have BK101 := n2_; have GW101 := n3_; have GE101 := n4_; clear n0_ n1_ n2_ n3_ n4_; clear zs hb hbox hg) | ((with_reducible refine zae (f := 155) rfl ?_); refine zaz (some 6) rfl rfl Try.func155 (by kernel_rfl) rfl #[.string a1] rfl (by first | rfl | (simp only [zld, zle, zlf, zlg, zlh] <;> rfl)) ?_; (with_reducible refine (zf1 k a1 true _ A3.out).mono ?_); rintro e w6 ⟨rfl, hb⟩; refine ⟨_, rfl, ?_⟩; have n0_ := zA (Kd.V_below (by (with_reducible repeat (first | apply Kd.V_alloc | apply Kd.V_drewN | apply Kd.V_drew)); exact HO0_1.out) hb); have n1_ := zA (zad (g := gb101) (o := .cells #[.slice A0_0 l0_0.length c0_0, .slice A0_1 l0_1.length c0_1] 62 (0, 0)) (by (with_reducible repeat (first | refine zkn ?_ _ | refine zkd ?_ | refine zka ?_ _)); exact BK101.out) hb); have n2_ := zA (zai (by repeat (first | (with_reducible first | exact HB.out | apply zba | apply zbn | apply zbd | refine zaa ?_ GE101.out) | exact HB.out)) hb); clear HO0_1 BK101 HB; have HO0_1 := n0_; have BK101 := n1_; have HB := n2_; clear n0_ n1_ n2_; (try clear hb); obtain ⟨hcz7_0, hcz7_1⟩ := zc2 w6 (.slice A0_0 l0_0.length c0_0) (.slice A0_1 l0_1.length c0_1) BK101.out; obtain ⟨hfz7_0, hfz7_1⟩ := zf2 BK101.out))
   go_ret
   exact ⟨_, by first | rfl | (simp <;> rfl) | (simp [*] <;> rfl), by (with_reducible repeat (first | apply Kd.V_alloc | apply Kd.V_drewN | apply Kd.V_drew)); exact Kd.V_mono HO0_1.out (fun _ hk => hk.1), by repeat (first | (with_reducible first | exact HB.out | apply zba | apply zbn | apply zbd | refine zaa ?_ GE101.out) | exact HB.out)⟩
 replace c4 := zbf c4
 subst c4
 replace H : (some (([0] : List Int))) = some r := by rw [if_neg (show ¬ (false = true) by decide)] at H; exact H
 obtain ⟨y103, hy103⟩ : ∃ y_ : List Int, y_ = (([0] : List Int)) := ⟨_, rfl⟩
 replace H : (some y103) = some r := by first | (rw [hy103]; with_reducible exact H) | (have H2_ := (Option.bind_some _ _).symm.trans H; rw [hy103]; with_reducible exact H2_) | (have H2_ := (Option.bind_some _ _).symm.trans H; with_reducible exact H2_) | with_reducible exact H | (rw [hy103]; exact H) | exact H
 have Ny103 := zA hy103
 clear hy103
 obtain rfl := zsi H
 go_enter Try.func211, Try.ntmps211
 go_wp2_with (first | ((with_reducible refine zam (N := 2) rfl ?_); refine zak ?hg (N := 2) ?hd (cs := #[.slice A0_0 l0_0.length c0_0, .slice A0_1 l0_1.length c0_1]) (t := 62) ?hr ?_; (case hd => rfl); (case hg => rfl); (case hr => go_simp <;> rfl); intro gb101 hg w8 hbox hb; have n0_ := zA (Kd.V_below (Kd.V_elderB (by (with_reducible repeat (first | apply Kd.V_alloc | apply Kd.V_drewN | apply Kd.V_drew)); exact HO0_1.out) gb101 (Nat.le_of_eq hg.symm)) hb); have zs := zpair (by repeat (first | (with_reducible first | exact HB.out | apply zba | apply zbn | apply zbd) | exact HB.out)) hb; have n1_ := zA (zs.1); have n2_ := zA (hbox); have n3_ := zA ((by rw [hg]; exact zs.2 : w.heap.size ≤ gb101)); have n4_ := n3_; clear HO0_1 HB; have HO0_1 := n0_; have HB := n1_; have BK101 := n2_; have GW101 := n3_; have GE101 := n4_; clear n0_ n1_ n2_ n3_ n4_; clear zs hb hbox hg) | ((with_reducible refine zae (f := 155) rfl ?_); refine zaz (some 6) rfl rfl Try.func155 (by kernel_rfl) rfl #[.string a1] rfl (by first | rfl | (simp only [zld, zle, zlf, zlg, zlh] <;> rfl)) ?_; (with_reducible refine (zf1 k a1 false _ A3.out).mono ?_); rintro e w9 ⟨rfl, hb⟩; refine ⟨_, rfl, ?_⟩; have n0_ := zA (Kd.V_below (by (with_reducible repeat (first | apply Kd.V_alloc | apply Kd.V_drewN | apply Kd.V_drew)); exact HO0_1.out) hb); have n1_ := zA (zad (g := gb101) (o := .cells #[.slice A0_0 l0_0.length c0_0, .slice A0_1 l0_1.length c0_1] 62 (0, 0)) (by (with_reducible repeat (first | refine zkn ?_ _ | refine zkd ?_ | refine zka ?_ _)); exact BK101.out) hb); have n2_ := zA (zai (by repeat (first | (with_reducible first | exact HB.out | apply zba | apply zbn | apply zbd | refine zaa ?_ GE101.out) | exact HB.out)) hb); clear HO0_1 BK101 HB; have HO0_1 := n0_; have BK101 := n1_; have HB := n2_; clear n0_ n1_ n2_; (try clear hb); (try clear hk)) | ((with_reducible refine zam (N := 9) rfl ?_); refine Kd.R_lit (Kd.int .i64) _ 3 ?hg (N := 9) ?hd (xs := ([0] : List Int)) (inner := [.int .i64 0]) (ok := fun _ => True) (okp := fun _ => True) ?hr ?hp (fun _ hk => hk) trivial (Below.refl _ _) (zlr _) (by simp) ?_; (case hd => rfl); (case hg => rfl); (case hr => go_simp <;> rfl); (case hp => exact (zd7 (show Kd.M (Kd.int .i64) _ _ _ 0 [.int .i64 0] from rfl) (Reps.none _ _))); intro v104 w10 ho11 hb hg_ hnew_; clear hg_ hnew_; (first | rw [← Ny103.out] at ho11 | (simp only [Int.reduceToNat] at ho11; rw [← Ny103.out] at ho11)); have n0_ := zA (Kd.V_elder' (by (with_reducible repeat (first | apply Kd.V_alloc | apply Kd.V_drewN | apply Kd.V_drew)); exact HO0_1.out) (Kd.R_base ho11) hb); have n1_ := zA (Kd.R_lower (Kd.R_newM (M := fun k_ => (w.heap.size ≤ k_)) ho11 (zaj (by repeat (first | (with_reducible first | exact HB.out | apply zba | apply zbn | apply zbd | refine zaa ?_ GE101.out) | exact HB.out))) (fun k_ h_ => h_)) (zaj (by repeat (first | (with_reducible first | exact HB.out | apply zba | apply zbn | apply zbd | refine zaa ?_ GE101.out) | exact HB.out)))); have n2_ := zA (zad (g := gb101) (o := .cells #[.slice A0_0 l0_0.length c0_0, .slice A0_1 l0_1.length c0_1] 62 (0, 0)) (by (with_reducible repeat (first | refine zkn ?_ _ | refine zkd ?_ | refine zka ?_ _)); exact BK101.out) hb); have n3_ := zA (zai (by repeat (first | (with_reducible first | exact HB.out | apply zba | apply zbn | apply zbd | refine zaa ?_ GE101.out) | exact HB.out)) hb); clear HO0_1 BK101 HB; have HO0_1 := n0_; have HO105 := n1_; have BK101 := n2_; have HB := n3_; clear n0_ n1_ n2_ n3_; clear hb ho11))
 go_ret
 exact ⟨_, by first | rfl | (simp <;> rfl) | (simp [*] <;> rfl), Kd.V_mono (Kd.R_V (by (with_reducible repeat (first | apply zRa | apply zRn | apply zRd)); exact Kd.R_mono HO105.out (fun _ hk => hk.1))) (fun k_ hk => by first | exact ⟨(.inr (hk.1)), hk.2⟩ | exact (.inr (hk))), by repeat (first | (with_reducible first | exact HB.out | apply zba | apply zbn | apply zbd | refine zaa ?_ GE101.out) | exact HB.out)⟩
def zb9 : Nat → Bool → Int → List Int → Int → Option (List Int)
 | 0, _, _, _, _ => none
 | k + 1, x0, x1, x5, x6 => if x0 = true then (if x6 < (wrap64 (2 + x1)) then (if x5.length < 17592186044416 then (zb9 k x0 x1 (x5 ++ [x6]) (wrap64 (x6 + 1))) else (none)) else (some x5)) else (some x5)
def ze0 (k : Nat) (a0 : Bool) (a1 : Int) : Option (List Int) := zb9 k a0 a1 (([0] : List Int)) 1
theorem zjc : ∀ k, (∀ y0 y1 y2 y3, LeO (zb9 k y0 y1 y2 y3) (zb9 (k + 1) y0 y1 y2 y3))
 | 0 => fun _ _ _ _ r h => by simp [zb9] at h
 | k + 1 => by
   have ih0 := zjc k
   · intro y0 y1 y2 y3
     unfold zb9
     repeat' first
     | (with_reducible first | exact ih0 _ _ _ _ | exact LeO.refl _ | exact LeO.none _ | refine zaf ?_ ?_ | refine LeO.bind ?_ (fun _ => ?_))
     | exact LeO.none _
     | refine zaf ?_ ?_
     | refine LeO.bind ?_ (fun _ => ?_)
theorem zf4 : ∀ a0 a1 k, LeO (ze0 k a0 a1) (ze0 (k + 1) a0 a1) := by
 intro a0 a1 k
 have ih0 := zjc k
 unfold ze0
 repeat' first
     | (with_reducible first | exact ih0 _ _ _ _ | exact LeO.refl _ | exact LeO.none _ | refine zaf ?_ ?_ | refine LeO.bind ?_ (fun _ => ?_))
     | exact LeO.none _
     | refine zaf ?_ ?_
     | refine LeO.bind ?_ (fun _ => ?_)
set_option maxHeartbeats 8000000 in
set_option maxRecDepth 100000 in
theorem zjs (k : Nat) (a0 : Bool) (a1 : Int) (r : List Int) (w : World) (h : ze0 k a0 a1 = some r) :
   Calls Try.prog 210 #[.bool a0, .int .i64 a1] w fun e w' => ∃ v0_ : Value, e = .returned (v0_) ∧ Kd.R (Kd.int .i64) 3 w' w.heap.size (fun _ => True) v0_ r ∧ Below w.heap.size w w' := by
 have HB := zA (Below.refl w.heap.size w)
 have H : (zb9 k a0 a1 (([0] : List Int)) 1) = some r := h
 clear h
 obtain ⟨y101, hy101⟩ : ∃ y_ : List Int, y_ = (([0] : List Int)) := ⟨_, rfl⟩
 replace H : (zb9 k a0 a1 y101 1) = some r := by first | (rw [hy101]; with_reducible exact H) | (have H2_ := (Option.bind_some _ _).symm.trans H; rw [hy101]; with_reducible exact H2_) | (have H2_ := (Option.bind_some _ _).symm.trans H; with_reducible exact H2_) | with_reducible exact H | (rw [hy101]; exact H) | exact H
 have Ny101 := zA hy101
 clear hy101
 have H' := zA H
 clear H
 go_enter Try.func210, Try.ntmps210
 go_wp2_with (first | ((with_reducible refine zam (N := 7) rfl ?_); refine Kd.R_lit (Kd.int .i64) _ 3 ?hg (N := 7) ?hd (xs := ([0] : List Int)) (inner := [.int .i64 0]) (ok := fun _ => True) (okp := fun _ => True) ?hr ?hp (fun _ hk => hk) trivial (Below.refl _ _) (zlr _) (by simp) ?_; (case hd => rfl); (case hg => rfl); (case hr => go_simp <;> rfl); (case hp => exact (zd7 (show Kd.M (Kd.int .i64) _ _ _ 0 [.int .i64 0] from rfl) (Reps.none _ _))); intro v102 w3 ho4 hb hg_ hnew_; clear hg_ hnew_; (first | rw [← Ny101.out] at ho4 | (simp only [Int.reduceToNat] at ho4; rw [← Ny101.out] at ho4)); have n0_ := zA (Kd.R_lower ho4 (zaj (by repeat (first | (with_reducible first | exact HB.out | apply zba | apply zbn | apply zbd) | exact HB.out)))); have n1_ := zA (zai (by repeat (first | (with_reducible first | exact HB.out | apply zba | apply zbn | apply zbd) | exact HB.out)) hb); clear HB; have HO103 := n0_; have HB := n1_; clear n0_ n1_; clear hb ho4))
 go_loopg [5, 6] k (fun kq v5 v6 w' => ∃ (x5_1 : List Int) (x6_1 : Int), v6 = .int .i64 x6_1 ∧ Aside0 (zb9 kq a0 a1 x5_1 x6_1 = some r) ∧ Aside0 (kq ≤ k) ∧ Aside0 (Kd.R (Kd.int .i64) 3 w' w.heap.size (fun _ => True) v5 x5_1) ∧ Aside0 (Below w.heap.size w w'))
 case atStart => exact ⟨(y101), (1), (by first | rfl | (simp; done) | (simp [*]; done)), H', ⟨zlr _⟩, ⟨by (with_reducible repeat (first | apply zRa | apply zRn | apply zRd)); exact HO103.out⟩, ⟨by repeat (first | (with_reducible first | exact HB.out | apply zba | apply zbn | apply zbd) | exact HB.out)⟩⟩
 clear H'
 try clear c2
 try clear p2
 obtain ⟨x5_1, x6_1, rfl, HA, HK1, HO_5, HB⟩ := hrel
 cases gk with
 | zero => exact absurd HA.out (by simp [zb9])
 | succ k1 =>
 have H := HA.out
 clear HA
 simp only [zb9] at H
 by_cases c5 : a0 = true
 rotate_left
 · replace c5 := zbf c5
   subst c5
   replace H : (some x5_1) = some r := by rw [if_neg (show ¬ (false = true) by decide)] at H; exact H
   obtain rfl := zsi H
   go_wp2
   go_ret
   exact ⟨_, by first | rfl | (simp <;> rfl) | (simp [*] <;> rfl), by (with_reducible repeat (first | apply zRa | apply zRn | apply zRd)); exact HO_5.out, by repeat (first | (with_reducible first | exact HB.out | apply zba | apply zbn | apply zbd) | exact HB.out)⟩
 subst c5
 replace H : (if x6_1 < (wrap64 (2 + a1)) then (if x5_1.length < 17592186044416 then (zb9 k1 true a1 (x5_1 ++ [x6_1]) (wrap64 (x6_1 + 1))) else (none)) else (some x5_1)) = some r := by rw [if_pos rfl] at H; exact H
 by_cases c6 : x6_1 < (wrap64 (2 + a1))
 rotate_left
 · rw [if_neg c6] at H
   have c6b0 : decide (x6_1 < (wrap64 (2 + a1))) = false := zdf c6
   clear c6
   obtain rfl := zsi H
   go_wp2
   go_ret
   exact ⟨_, by first | rfl | (simp <;> rfl) | (simp [*] <;> rfl), by (with_reducible repeat (first | apply zRa | apply zRn | apply zRd)); exact HO_5.out, by repeat (first | (with_reducible first | exact HB.out | apply zba | apply zbn | apply zbd) | exact HB.out)⟩
 rw [if_pos c6] at H
 have c6b0 : decide (x6_1 < (wrap64 (2 + a1))) = true := zdt c6
 clear c6
 by_cases c7 : x5_1.length < 17592186044416
 rotate_left
 · rw [if_neg c7] at H
   exact absurd H (by simp)
 rw [if_pos c7] at H
 have LMc7 := zA c7
 clear c7
 obtain ⟨y104, hy104⟩ : ∃ y_ : List Int, y_ = (x5_1 ++ [x6_1]) := ⟨_, rfl⟩
 replace H : (zb9 k1 true a1 y104 (wrap64 (x6_1 + 1))) = some r := by first | (rw [hy104]; with_reducible exact H) | (have H2_ := (Option.bind_some _ _).symm.trans H; rw [hy104]; with_reducible exact H2_) | (have H2_ := (Option.bind_some _ _).symm.trans H; with_reducible exact H2_) | with_reducible exact H | (rw [hy104]; exact H) | exact H
 have Ny104 := zA hy104
 clear hy104
 have H' := zA H
 clear H
 go_wp2_with (first | ((with_reducible refine ze4 (b := .append) (xs := #[.tmp 17, .tmp 19]) rfl ?_); at_builtin; refine Kd.R_append (Kd.int .i64) (w0 := w) w.heap.size rfl (.tmp 17) (.tmp 19) 51 3 (.int .i64 0) 8 rfl Try.underlying51 zmd rfl (by decide) (by omega) u5 x5_1 x6_1 [.int .i64 x6_1] (fun _ => True) (fun _ => False) rfl rfl ?aP (fun _ hk => hk.elim) ?aF ?aO ?aB ?aS ?aL ?_; (case aP => exact rfl); (case aB => exact (by repeat (first | (with_reducible first | exact HB.out | apply zba | apply zbn | apply zbd) | exact HB.out))); (case aF => exact (fun _ _ => trivial)); (case aO => exact (by (with_reducible repeat (first | apply zRa | apply zRn | apply zRd)); exact HO_5.out)); (case aS => exact (zaj (by repeat (first | (with_reducible first | exact HB.out | apply zba | apply zbn | apply zbd) | exact HB.out)))); (case aL => have := LMc7.out; omega); intro v105 w8 ho hb hg hat; rw [← Ny104.out] at ho; have n0_ := zA (hb); have n1_ := zA (ho); clear HB HO_5; have HB := n0_; have HO106 := n1_; clear n0_ n1_; clear ho hb hg hat))
 go_roundg k1
 case measure => have := HK1.out; omega
 case rel => exact ⟨(y104), (wrap64 (x6_1 + 1)), (by first | rfl | (simp; done) | (simp [*]; done)), H', ⟨by have := HK1.out; omega⟩, ⟨by (with_reducible repeat (first | apply zRa | apply zRn | apply zRd)); exact HO106.out⟩, ⟨by repeat (first | (with_reducible first | exact HB.out | apply zba | apply zbn | apply zbd) | exact HB.out)⟩⟩
end Go.Proofs.Ytccoiifklcgodaa.Q
end
section
namespace Go.Proofs.Ytccoiifklcgodaa.Q
open Go.RowKit Go.Proofs.YtccoiifklcgodaaW.PrintWords Go.Proofs.YtccoiifklcgodaaW.PrintLast Go.Proofs.YtccoiifklcgodaaW.PrintMore
attribute [local go_sem] zdk zdl zee zef zcq zcr zdm zdn
set_option linter.unusedVariables false
set_option linter.unusedSimpArgs false
mutual
def zcz : Nat → Int → List (S102) → List ByteArray → Int → Int → List ByteArray → List Int → Option ((List (S102)))
 | 0, _, _, _, _, _, _, _ => none
 | k + 1, x1, x5, x20, x21, x22, x102000, x102001 => if x22 < x21 then (if 0 ≤ x22 then (if x22 < (x20.length : Int) then ((zd9 k (rdOf ByteArray.empty x20 x22)).bind fun bt103 => ((ze0 k bt103.2.1 x1).bind fun t108 => (zco k x1 x5 (rdOf ByteArray.empty x20 x22) bt103.2.2.1 x20 x21 x22 t108 (t108.length : Int) 0 x102000 x102001))) else (none)) else (none)) else (some x5)
def zco : Nat → Int → List (S102) → ByteArray → Bool → List ByteArray → Int → Int → List Int → Int → Int → List ByteArray → List Int → Option ((List (S102)))
 | 0, _, _, _, _, _, _, _, _, _, _, _, _ => none
 | k + 1, x1, x5, x7, x10, x20, x21, x22, x36, x37, x38, x102000, x102001 => if x38 < x37 then (if 0 ≤ x38 then (if x38 < (x36.length : Int) then ((ze0 k x10 x1).bind fun t112 => (zc0 k x1 x5 x7 x10 (rd x36 x38) x20 x21 x22 x36 x37 x38 t112 (t112.length : Int) 0 x102000 x102001)) else (none)) else (none)) else (zcz k x1 x5 x20 x21 (wrap64 (x22 + 1)) x102000 x102001)
def zc0 : Nat → Int → List (S102) → ByteArray → Bool → Int → List ByteArray → Int → Int → List Int → Int → Int → List Int → Int → Int → List ByteArray → List Int → Option ((List (S102)))
 | 0, _, _, _, _, _, _, _, _, _, _, _, _, _, _, _, _ => none
 | k + 1, x1, x5, x7, x10, x14, x20, x21, x22, x36, x37, x38, x44, x45, x46, x102000, x102001 => if x46 < x45 then (if 0 ≤ x46 then (if x46 < (x44.length : Int) then ((zfw k x102000 x102001 x7).bind fun t116 => (zcp k x1 x5 x7 x10 x14 (rd x44 x46) x20 x21 x22 x36 x37 x38 x44 x45 x46 t116 (t116.length : Int) 0 x102000 x102001)) else (none)) else (none)) else (zco k x1 x5 x7 x10 x20 x21 x22 x36 x37 (wrap64 (x38 + 1)) x102000 x102001)
def zcp : Nat → Int → List (S102) → ByteArray → Bool → Int → Int → List ByteArray → Int → Int → List Int → Int → Int → List Int → Int → Int → List Int → Int → Int → List ByteArray → List Int → Option ((List (S102)))
 | 0, _, _, _, _, _, _, _, _, _, _, _, _, _, _, _, _, _, _, _, _ => none
 | k + 1, x1, x5, x7, x10, x14, x16, x20, x21, x22, x36, x37, x38, x44, x45, x46, x52, x53, x54, x102000, x102001 => if x54 < x53 then (if 0 ≤ x54 then (if x54 < (x52.length : Int) then (if x5.length < 2932031007402 then (zcp k x1 (x5 ++ [(⟨x7, wrap64 (2 + x1), x14, x16, rd x52 x54⟩ : S102)]) x7 x10 x14 x16 x20 x21 x22 x36 x37 x38 x44 x45 x46 x52 x53 (wrap64 (x54 + 1)) x102000 x102001) else (none)) else (none)) else (none)) else (zc0 k x1 x5 x7 x10 x14 x20 x21 x22 x36 x37 x38 x44 x45 (wrap64 (x46 + 1)) x102000 x102001)
end
def zfh (k : Nat) (l0_0 : List ByteArray) (l0_1 : List Int) (a1 : Int) : Option ((List (S102))) := zcz k a1 ([] : List (S102)) l0_0 (l0_0.length : Int) 0 l0_0 l0_1
theorem ziv : ∀ k, (∀ y0 y1 y2 y3 y4 y5 y6, LeO (zcz k y0 y1 y2 y3 y4 y5 y6) (zcz (k + 1) y0 y1 y2 y3 y4 y5 y6)) ∧ (∀ y0 y1 y2 y3 y4 y5 y6 y7 y8 y9 y10 y11, LeO (zco k y0 y1 y2 y3 y4 y5 y6 y7 y8 y9 y10 y11) (zco (k + 1) y0 y1 y2 y3 y4 y5 y6 y7 y8 y9 y10 y11)) ∧ (∀ y0 y1 y2 y3 y4 y5 y6 y7 y8 y9 y10 y11 y12 y13 y14 y15, LeO (zc0 k y0 y1 y2 y3 y4 y5 y6 y7 y8 y9 y10 y11 y12 y13 y14 y15) (zc0 (k + 1) y0 y1 y2 y3 y4 y5 y6 y7 y8 y9 y10 y11 y12 y13 y14 y15)) ∧ (∀ y0 y1 y2 y3 y4 y5 y6 y7 y8 y9 y10 y11 y12 y13 y14 y15 y16 y17 y18 y19, LeO (zcp k y0 y1 y2 y3 y4 y5 y6 y7 y8 y9 y10 y11 y12 y13 y14 y15 y16 y17 y18 y19) (zcp (k + 1) y0 y1 y2 y3 y4 y5 y6 y7 y8 y9 y10 y11 y12 y13 y14 y15 y16 y17 y18 y19))
 | 0 => ⟨fun _ _ _ _ _ _ _ r h => by simp [zcz] at h, fun _ _ _ _ _ _ _ _ _ _ _ _ r h => by simp [zco] at h, fun _ _ _ _ _ _ _ _ _ _ _ _ _ _ _ _ r h => by simp [zc0] at h, fun _ _ _ _ _ _ _ _ _ _ _ _ _ _ _ _ _ _ _ _ r h => by simp [zcp] at h⟩
 | k + 1 => by
   obtain ⟨ih0, ih1, ih2, ih3⟩ := ziv k
   refine ⟨?_, ?_, ?_, ?_⟩
   · intro y0 y1 y2 y3 y4 y5 y6
     unfold zcz
     repeat' first
     | (with_reducible first | exact ih0 _ _ _ _ _ _ _ | exact ih1 _ _ _ _ _ _ _ _ _ _ _ _ | exact ih2 _ _ _ _ _ _ _ _ _ _ _ _ _ _ _ _ | exact ih3 _ _ _ _ _ _ _ _ _ _ _ _ _ _ _ _ _ _ _ _ | exact zcy _ _ | exact zf3 _ _ _ _ | exact zf4 _ _ _ | exact LeO.refl _ | exact LeO.none _ | refine zaf ?_ ?_ | refine LeO.bind ?_ (fun _ => ?_))
     | exact LeO.none _
     | refine zaf ?_ ?_
     | refine LeO.bind ?_ (fun _ => ?_)
   · intro y0 y1 y2 y3 y4 y5 y6 y7 y8 y9 y10 y11
     unfold zco
     repeat' first
     | (with_reducible first | exact ih0 _ _ _ _ _ _ _ | exact ih1 _ _ _ _ _ _ _ _ _ _ _ _ | exact ih2 _ _ _ _ _ _ _ _ _ _ _ _ _ _ _ _ | exact ih3 _ _ _ _ _ _ _ _ _ _ _ _ _ _ _ _ _ _ _ _ | exact zcy _ _ | exact zf3 _ _ _ _ | exact zf4 _ _ _ | exact LeO.refl _ | exact LeO.none _ | refine zaf ?_ ?_ | refine LeO.bind ?_ (fun _ => ?_))
     | exact LeO.none _
     | refine zaf ?_ ?_
     | refine LeO.bind ?_ (fun _ => ?_)
   · intro y0 y1 y2 y3 y4 y5 y6 y7 y8 y9 y10 y11 y12 y13 y14 y15
     unfold zc0
     repeat' first
     | (with_reducible first | exact ih0 _ _ _ _ _ _ _ | exact ih1 _ _ _ _ _ _ _ _ _ _ _ _ | exact ih2 _ _ _ _ _ _ _ _ _ _ _ _ _ _ _ _ | exact ih3 _ _ _ _ _ _ _ _ _ _ _ _ _ _ _ _ _ _ _ _ | exact zcy _ _ | exact zf3 _ _ _ _ | exact zf4 _ _ _ | exact LeO.refl _ | exact LeO.none _ | refine zaf ?_ ?_ | refine LeO.bind ?_ (fun _ => ?_))
     | exact LeO.none _
     | refine zaf ?_ ?_
     | refine LeO.bind ?_ (fun _ => ?_)
   · intro y0 y1 y2 y3 y4 y5 y6 y7 y8 y9 y10 y11 y12 y13 y14 y15 y16 y17 y18 y19
     unfold zcp
     repeat' first
     | (with_reducible first | exact ih0 _ _ _ _ _ _ _ | exact ih1 _ _ _ _ _ _ _ _ _ _ _ _ | exact ih2 _ _ _ _ _ _ _ _ _ _ _ _ _ _ _ _ | exact ih3 _ _ _ _ _ _ _ _ _ _ _ _ _ _ _ _ _ _ _ _ | exact zcy _ _ | exact zf3 _ _ _ _ | exact zf4 _ _ _ | exact LeO.refl _ | exact LeO.none _ | refine zaf ?_ ?_ | refine LeO.bind ?_ (fun _ => ?_))
     | exact LeO.none _
     | refine zaf ?_ ?_
     | refine LeO.bind ?_ (fun _ => ?_)
theorem zjt : ∀ a0 a1 a2 k, LeO (zfh k a0 a1 a2) (zfh (k + 1) a0 a1 a2) := by
 intro a0 a1 a2 k
 obtain ⟨ih0, ih1, ih2, ih3⟩ := ziv k
 unfold zfh
 repeat' first
     | (with_reducible first | exact ih0 _ _ _ _ _ _ _ | exact ih1 _ _ _ _ _ _ _ _ _ _ _ _ | exact ih2 _ _ _ _ _ _ _ _ _ _ _ _ _ _ _ _ | exact ih3 _ _ _ _ _ _ _ _ _ _ _ _ _ _ _ _ _ _ _ _ | exact zcy _ _ | exact zf3 _ _ _ _ | exact zf4 _ _ _ | exact LeO.refl _ | exact LeO.none _ | refine zaf ?_ ?_ | refine LeO.bind ?_ (fun _ => ?_))
     | exact LeO.none _
     | refine zaf ?_ ?_
     | refine LeO.bind ?_ (fun _ => ?_)
set_option maxHeartbeats 8000000 in
set_option maxRecDepth 100000 in
theorem zjd (k : Nat) (A0_0 : Option Addr) (c0_0 : Nat) (l0_0 : List ByteArray) (A0_1 : Option Addr) (c0_1 : Nat) (l0_1 : List Int) (a1 : Int) (r : List (S102)) (w : World) (hr0_0 : Kd.C Kd.string w A0_0 l0_0.length l0_0) (hc0_0 : l0_0.length ≤ c0_0) (hr0_1 : Kd.C (Kd.int .i64) w A0_1 l0_1.length l0_1) (hc0_1 : l0_1.length ≤ c0_1) (h : zfh k l0_0 l0_1 a1 = some r) :
   Calls Try.prog 157 #[.agg #[.slice A0_0 l0_0.length c0_0, .slice A0_1 l0_1.length c0_1], .int .i64 a1] w fun e w' => ∃ v0_ : Value, e = .returned (v0_) ∧ Kd.R k102 102 w' w.heap.size (fun _ => True) v0_ r ∧ Below w.heap.size w w' := by
 have hu62 := Try.underlying62
 have hu102 := Try.underlying102
 have HR0_0 := zA hr0_0
 have HC0_0 := zA hc0_0
 clear hr0_0 hc0_0
 have HR0_1 := zA hr0_1
 have HC0_1 := zA hc0_1
 clear hr0_1 hc0_1
 have HB := zA (Below.refl w.heap.size w)
 have H : (zcz k a1 ([] : List (S102)) l0_0 (l0_0.length : Int) 0 l0_0 l0_1) = some r := h
 clear h
 have H' := zA H
 clear H
 go_enter Try.func157, Try.ntmps157
 go_wp2_with (first | ((with_reducible refine zam (N := 2) rfl ?_); refine zak ?hg (N := 2) ?hd (cs := #[.slice A0_0 l0_0.length c0_0, .slice A0_1 l0_1.length c0_1]) (t := 62) ?hr ?_; (case hd => rfl); (case hg => rfl); (case hr => go_simp <;> rfl); intro gb101 hg w3 hbox hb; have zs := zpair (by repeat (first | (with_reducible first | exact HB.out | apply zba | apply zbn | apply zbd) | exact HB.out)) hb; have n0_ := zA (zs.1); have n1_ := zA (hbox); have n2_ := zA ((by rw [hg]; exact zs.2 : w.heap.size ≤ gb101)); have n3_ := n2_; clear HB; have HB := n0_; have BK101 := n1_; have GW101 := n2_; have GE101 := n3_; clear n0_ n1_ n2_ n3_; clear zs hb hbox hg; obtain ⟨hcz4_0, hcz4_1⟩ := zc2 w3 (.slice A0_0 l0_0.length c0_0) (.slice A0_1 l0_1.length c0_1) BK101.out; obtain ⟨hfz4_0, hfz4_1⟩ := zf2 BK101.out))
 go_loopg [5, 22] k (fun kq v5 v22 w' => ∃ (x5_1 : List (S102)) (x22_1 : Int), v22 = .int .i64 x22_1 ∧ Aside0 (zcz kq a1 x5_1 l0_0 (l0_0.length : Int) x22_1 l0_0 l0_1 = some r) ∧ Aside0 (kq ≤ k) ∧ Aside0 (Kd.R k102 102 w' w.heap.size (fun _ => True) v5 x5_1) ∧ Aside0 (w'.heap[gb101]? = some (.cells #[(.slice A0_0 l0_0.length c0_0), (.slice A0_1 l0_1.length c0_1)] 62 (0, 0))) ∧ Aside0 (Below w.heap.size w w'))
 case atStart => exact ⟨(([] : List (S102))), (0), (by first | rfl | (simp; done) | (simp [*]; done)), H', ⟨zlr _⟩, ⟨by first | exact Kd.R_nil _ _ _ _ _ | exact Kd.N_nil _ _ _ _ _ | exact Kd.V_nil _ _ _ _ _ | exact Kd.Q_nil _ _ _ _ _ | exact Kd.S_nil _ _ _ _ _⟩, ⟨by (with_reducible repeat (first | refine zkn ?_ _ | refine zkd ?_ | refine zka ?_ _)); exact BK101.out⟩, ⟨by repeat (first | (with_reducible first | exact HB.out | apply zba | apply zbn | apply zbd | refine zaa ?_ GE101.out) | exact HB.out)⟩⟩
 clear H'
 try clear c1
 try clear p2
 try clear hcz4_0
 try clear hcz4_1
 try clear hfz4_0
 try clear hfz4_1
 obtain ⟨x5_1, x22_1, rfl, HA, HK1, HO_5, BK101, HB⟩ := hrel
 cases gk with
 | zero => exact absurd HA.out (by simp [zcz])
 | succ k1 =>
 have H := HA.out
 clear HA
 simp only [zcz] at H
 by_cases c5 : x22_1 < (l0_0.length : Int)
 rotate_left
 · rw [if_neg c5] at H
   have c5b0 : decide (x22_1 < (l0_0.length : Int)) = false := zdf c5
   clear c5
   obtain rfl := zsi H
   go_wp2
   go_ret
   exact ⟨_, by first | rfl | (simp <;> rfl) | (simp [*] <;> rfl), by (with_reducible repeat (first | apply zRa | apply zRn | apply zRd)); exact HO_5.out, by repeat (first | (with_reducible first | exact HB.out | apply zba | apply zbn | apply zbd | refine zaa ?_ GE101.out) | exact HB.out)⟩
 rw [if_pos c5] at H
 have c5b0 : decide (x22_1 < (l0_0.length : Int)) = true := zdt c5
 clear c5
 by_cases c6 : 0 ≤ x22_1
 rotate_left
 · rw [if_neg c6] at H
   exact absurd H (by simp)
 rw [if_pos c6] at H
 have c6b0 : decide (0 ≤ x22_1) = true := zdt c6
 clear c6
 by_cases c7 : x22_1 < (l0_0.length : Int)
 rotate_left
 · rw [if_neg c7] at H
   exact absurd H (by simp)
 rw [if_pos c7] at H
 have c7b0 : decide (x22_1 < (l0_0.length : Int)) = true := zdt c7
 clear c7
 replace H := zob H
 obtain ⟨⟨t103, t104, t105, t106, t107⟩, A80, H⟩ := H
 replace H : ((ze0 k1 t104 a1).bind fun t108 => (zco k1 a1 x5_1 (rdOf ByteArray.empty l0_0 x22_1) t105 l0_0 (l0_0.length : Int) x22_1 t108 (t108.length : Int) 0 l0_0 l0_1)) = some r := H
 have A8 := zA A80
 clear A80
 replace H := zob H
 obtain ⟨t108, A90, H⟩ := H
 replace H : (zco k1 a1 x5_1 (rdOf ByteArray.empty l0_0 x22_1) t105 l0_0 (l0_0.length : Int) x22_1 t108 (t108.length : Int) 0 l0_0 l0_1) = some r := H
 have A9 := zA A90
 clear A90
 have H' := zA H
 clear H
 have p102 : 0 ≤ (x22_1 : Int) := zde (by assumption)
 have q102 : x22_1 < (l0_0.length : Int) := zde (by assumption)
 obtain ⟨ad102, e102, hx102_0⟩ := Kd.at_string HR0_0.out x22_1 p102 q102
 cases e102
 replace hx102_0 := zkep HB.out hx102_0
 replace p102 := eq_true p102
 replace q102 := eq_true q102
 go_wp2_with (first | ((with_reducible refine zae (f := 153) rfl ?_); refine zaz (some 28) rfl rfl Try.func153 (by kernel_rfl) rfl #[.string (rdOf ByteArray.empty l0_0 x22_1)] rfl (by first | rfl | (simp only [zld, zle, zlf, zlg, zlh] <;> rfl)) ?_; (with_reducible refine (zex k1 (rdOf ByteArray.empty l0_0 x22_1) t103 t104 t105 t106 t107 _ A8.out).mono ?_); rintro e w' ⟨rfl, ⟨nd, rfl⟩⟩; refine ⟨_, rfl, ?_⟩) | ((with_reducible refine zae (f := 210) rfl ?_); refine zaz (some 36) rfl rfl Try.func210 (by kernel_rfl) rfl #[.bool t104, .int .i64 a1] rfl (by first | rfl | (simp only [zld, zle, zlf, zlg, zlh] <;> rfl)) ?_; (with_reducible refine (zjs k1 t104 a1 t108 _ A9.out).mono ?_); rintro e w10 ⟨v109, rfl, ho0, hb⟩; refine ⟨_, rfl, ?_⟩; have n0_ := zA (zRb (by (with_reducible repeat (first | apply zRa | apply zRn | apply zRd)); exact HO_5.out) hb); have n1_ := zA (Kd.R_lower ho0 (zaj (by repeat (first | (with_reducible first | exact HB.out | apply zba | apply zbn | apply zbd | refine zaa ?_ GE101.out) | exact HB.out)))); have n2_ := zA (zad (g := gb101) (o := .cells #[.slice (some ad102) l0_0.length c0_0, .slice A0_1 l0_1.length c0_1] 62 (0, 0)) (by (with_reducible repeat (first | refine zkn ?_ _ | refine zkd ?_ | refine zka ?_ _)); exact BK101.out) hb); have n3_ := zA (zai (by repeat (first | (with_reducible first | exact HB.out | apply zba | apply zbn | apply zbd | refine zaa ?_ GE101.out) | exact HB.out)) hb); clear HO_5 BK101 HB; have HO_5 := n0_; have HO110 := n1_; have BK101 := n2_; have HB := n3_; clear n0_ n1_ n2_ n3_; (try clear hb); (try clear ho0); obtain ⟨Ao11, co11, eo11⟩ := Kd.R_slice HO110.out; subst eo11))
 go_loopg [5, 38] k1 (fun kq v5 v38 w' => ∃ (x5_2 : List (S102)) (x38_2 : Int), v38 = .int .i64 x38_2 ∧ Aside0 (zco kq a1 x5_2 (rdOf ByteArray.empty l0_0 x22_1) t105 l0_0 (l0_0.length : Int) x22_1 t108 (t108.length : Int) x38_2 l0_0 l0_1 = some r) ∧ Aside0 (kq ≤ k1) ∧ Aside0 (Kd.R k102 102 w' w.heap.size (fun _ => True) v5 x5_2) ∧ Aside0 (Kd.R (Kd.int .i64) 3 w' w.heap.size (fun _ => True) (.slice Ao11 t108.length co11) t108) ∧ Aside0 (w'.heap[gb101]? = some (.cells #[(.slice (some ad102) l0_0.length c0_0), (.slice A0_1 l0_1.length c0_1)] 62 (0, 0))) ∧ Aside0 (Below w.heap.size w w'))
 case atStart => exact ⟨(x5_1), (0), (by first | rfl | (simp; done) | (simp [*]; done)), H', ⟨zlr _⟩, ⟨by (with_reducible repeat (first | apply zRa | apply zRn | apply zRd)); exact HO_5.out⟩, ⟨by (with_reducible repeat (first | apply zRa | apply zRn | apply zRd)); exact HO110.out⟩, ⟨by (with_reducible repeat (first | refine zkn ?_ _ | refine zkd ?_ | refine zka ?_ _)); exact BK101.out⟩, ⟨by repeat (first | (with_reducible first | exact HB.out | apply zba | apply zbn | apply zbd | refine zaa ?_ GE101.out) | exact HB.out)⟩⟩
 clear H'
 try clear c1
 try clear p1
 try clear q1
 try clear hx1
 try clear c2
 try clear p2
 try clear c5
 try clear c5b0
 try clear c6
 try clear c6b0
 try clear c7
 try clear c7b0
 try clear p10
 try clear q10
 try clear hx10
 try clear hcz4_0
 try clear hcz4_1
 try clear hfz4_0
 try clear hfz4_1
 try clear hx102_0
 try clear p102
 try clear p2
 try clear q102
 obtain ⟨x5_2, x38_2, rfl, HA, HK2, HO_5, HO_36, BK101, HB⟩ := hrel
 cases gk with
 | zero => exact absurd HA.out (by simp [zco])
 | succ k2 =>
 have H := HA.out
 clear HA
 simp only [zco] at H
 by_cases c12 : x38_2 < (t108.length : Int)
 rotate_left
 · rw [if_neg c12] at H
   have c12b0 : decide (x38_2 < (t108.length : Int)) = false := zdf c12
   clear c12
   have H' := zA H
   clear H
   go_wp2
   go_roundg k2
   case measure => have := HK1.out; have := HK2.out; omega
   case rel => exact ⟨(x5_2), (wrap64 (x22_1 + 1)), (by first | rfl | (simp; done) | (simp [*]; done)), H', ⟨by have := HK1.out; have := HK2.out; omega⟩, ⟨by (with_reducible repeat (first | apply zRa | apply zRn | apply zRd)); exact HO_5.out⟩, ⟨by (with_reducible repeat (first | refine zkn ?_ _ | refine zkd ?_ | refine zka ?_ _)); exact BK101.out⟩, ⟨by repeat (first | (with_reducible first | exact HB.out | apply zba | apply zbn | apply zbd | refine zaa ?_ GE101.out) | exact HB.out)⟩⟩
 rw [if_pos c12] at H
 have c12b0 : decide (x38_2 < (t108.length : Int)) = true := zdt c12
 clear c12
 by_cases c13 : 0 ≤ x38_2
 rotate_left
 · rw [if_neg c13] at H
   exact absurd H (by simp)
 rw [if_pos c13] at H
 have c13b0 : decide (0 ≤ x38_2) = true := zdt c13
 clear c13
 by_cases c14 : x38_2 < (t108.length : Int)
 rotate_left
 · rw [if_neg c14] at H
   exact absurd H (by simp)
 rw [if_pos c14] at H
 have c14b0 : decide (x38_2 < (t108.length : Int)) = true := zdt c14
 clear c14
 replace H := zob H
 obtain ⟨t112, A150, H⟩ := H
 replace H : (zc0 k2 a1 x5_2 (rdOf ByteArray.empty l0_0 x22_1) t105 (rd t108 x38_2) l0_0 (l0_0.length : Int) x22_1 t108 (t108.length : Int) x38_2 t112 (t112.length : Int) 0 l0_0 l0_1) = some r := H
 have A15 := zA A150
 clear A150
 have H' := zA H
 clear H
 have p111 : 0 ≤ (x38_2 : Int) := zde (by assumption)
 have q111 : x38_2 < (t108.length : Int) := zde (by assumption)
 obtain ⟨ad111, e111, hx111_0⟩ := Kd.at_int (zRr HO_36.out).2.2 x38_2 p111 q111
 cases e111
 replace p111 := eq_true p111
 replace q111 := eq_true q111
 go_wp2_with (first | ((with_reducible refine zae (f := 210) rfl ?_); refine zaz (some 44) rfl rfl Try.func210 (by kernel_rfl) rfl #[.bool t105, .int .i64 a1] rfl (by first | rfl | (simp only [zld, zle, zlf, zlg, zlh] <;> rfl)) ?_; (with_reducible refine (zjs k2 t105 a1 t112 _ A15.out).mono ?_); rintro e w16 ⟨v113, rfl, ho0, hb⟩; refine ⟨_, rfl, ?_⟩; have n0_ := zA (zRb (by (with_reducible repeat (first | apply zRa | apply zRn | apply zRd)); exact HO_5.out) hb); have n1_ := zA (Kd.R_elder' (by (with_reducible repeat (first | apply zRa | apply zRn | apply zRd)); exact HO_36.out) (Kd.R_base ho0) hb); have n2_ := zA (Kd.R_lower (Kd.R_new' ho0 (Kd.R_lt (by (with_reducible repeat (first | apply zRa | apply zRn | apply zRd)); exact HO_36.out))) (zaj (by repeat (first | (with_reducible first | exact HB.out | apply zba | apply zbn | apply zbd | refine zaa ?_ GE101.out) | exact HB.out)))); have n3_ := zA (zad (g := gb101) (o := .cells #[.slice (some ad102) l0_0.length c0_0, .slice A0_1 l0_1.length c0_1] 62 (0, 0)) (by (with_reducible repeat (first | refine zkn ?_ _ | refine zkd ?_ | refine zka ?_ _)); exact BK101.out) hb); have n4_ := zA (zai (by repeat (first | (with_reducible first | exact HB.out | apply zba | apply zbn | apply zbd | refine zaa ?_ GE101.out) | exact HB.out)) hb); clear HO_5 HO_36; clear BK101 HB; have HO_5 := n0_; have HO_36 := n1_; have HO114 := n2_; have BK101 := n3_; have HB := n4_; clear n0_ n1_ n2_ n3_ n4_; (try clear hb); (try clear ho0); obtain ⟨Ao17, co17, eo17⟩ := Kd.R_slice HO114.out; subst eo17))
 go_loopg [5, 46] k2 (fun kq v5 v46 w' => ∃ (x5_3 : List (S102)) (x46_3 : Int), v46 = .int .i64 x46_3 ∧ Aside0 (zc0 kq a1 x5_3 (rdOf ByteArray.empty l0_0 x22_1) t105 (rd t108 x38_2) l0_0 (l0_0.length : Int) x22_1 t108 (t108.length : Int) x38_2 t112 (t112.length : Int) x46_3 l0_0 l0_1 = some r) ∧ Aside0 (kq ≤ k2) ∧ Aside0 (Kd.R k102 102 w' w.heap.size (fun _ => True) v5 x5_3) ∧ Aside0 (Kd.R (Kd.int .i64) 3 w' w.heap.size (fun k_ => some k_ ≠ ((.slice Ao17 t112.length co17) : Value).ownBlock) (.slice (some ad111) t108.length co11) t108) ∧ Aside0 (Kd.R (Kd.int .i64) 3 w' w.heap.size (fun k_ => some k_ ≠ ((.slice (some ad111) t108.length co11) : Value).ownBlock) (.slice Ao17 t112.length co17) t112) ∧ Aside0 (w'.heap[gb101]? = some (.cells #[(.slice (some ad102) l0_0.length c0_0), (.slice A0_1 l0_1.length c0_1)] 62 (0, 0))) ∧ Aside0 (Below w.heap.size w w'))
 case atStart => exact ⟨(x5_2), (0), (by first | rfl | (simp; done) | (simp [*]; done)), H', ⟨zlr _⟩, ⟨by (with_reducible repeat (first | apply zRa | apply zRn | apply zRd)); exact HO_5.out⟩, ⟨by (with_reducible repeat (first | apply zRa | apply zRn | apply zRd)); exact Kd.R_mono HO_36.out (fun _ hk => hk.2)⟩, ⟨by (with_reducible repeat (first | apply zRa | apply zRn | apply zRd)); exact Kd.R_mono HO114.out (fun _ hk => hk.2)⟩, ⟨by (with_reducible repeat (first | refine zkn ?_ _ | refine zkd ?_ | refine zka ?_ _)); exact BK101.out⟩, ⟨by repeat (first | (with_reducible first | exact HB.out | apply zba | apply zbn | apply zbd | refine zaa ?_ GE101.out) | exact HB.out)⟩⟩
 clear H'
 try clear c1
 try clear p1
 try clear q1
 try clear hx1
 try clear c2
 try clear p2
 try clear c5
 try clear c5b0
 try clear c6
 try clear c6b0
 try clear c7
 try clear c7b0
 try clear p10
 try clear q10
 try clear hx10
 try clear p11
 try clear q11
 try clear hx11
 try clear c12
 try clear c12b0
 try clear c13
 try clear c13b0
 try clear c14
 try clear c14b0
 try clear c15
 try clear hcz4_0
 try clear hcz4_1
 try clear hfz4_0
 try clear hfz4_1
 try clear hx102_0
 try clear hx111_0
 try clear p1
 try clear p10
 try clear p102
 try clear p111
 try clear p2
 try clear q1
 try clear q10
 try clear q102
 try clear q111
 obtain ⟨x5_3, x46_3, rfl, HA, HK3, HO_5, HO_36, HO_44, BK101, HB⟩ := hrel
 cases gk with
 | zero => exact absurd HA.out (by simp [zc0])
 | succ k3 =>
 have H := HA.out
 clear HA
 simp only [zc0] at H
 by_cases c18 : x46_3 < (t112.length : Int)
 rotate_left
 · rw [if_neg c18] at H
   have c18b0 : decide (x46_3 < (t112.length : Int)) = false := zdf c18
   clear c18
   have H' := zA H
   clear H
   go_wp2
   go_roundg k3
   case measure => have := HK1.out; have := HK2.out; have := HK3.out; omega
   case rel => exact ⟨(x5_3), (wrap64 (x38_2 + 1)), (by first | rfl | (simp; done) | (simp [*]; done)), H', ⟨by have := HK1.out; have := HK2.out; have := HK3.out; omega⟩, ⟨by (with_reducible repeat (first | apply zRa | apply zRn | apply zRd)); exact HO_5.out⟩, ⟨by (with_reducible repeat (first | apply zRa | apply zRn | apply zRd)); exact Kd.R_mono HO_36.out (fun _ hk => trivial)⟩, ⟨by (with_reducible repeat (first | refine zkn ?_ _ | refine zkd ?_ | refine zka ?_ _)); exact BK101.out⟩, ⟨by repeat (first | (with_reducible first | exact HB.out | apply zba | apply zbn | apply zbd | refine zaa ?_ GE101.out) | exact HB.out)⟩⟩
 rw [if_pos c18] at H
 have c18b0 : decide (x46_3 < (t112.length : Int)) = true := zdt c18
 clear c18
 by_cases c19 : 0 ≤ x46_3
 rotate_left
 · rw [if_neg c19] at H
   exact absurd H (by simp)
 rw [if_pos c19] at H
 have c19b0 : decide (0 ≤ x46_3) = true := zdt c19
 clear c19
 by_cases c20 : x46_3 < (t112.length : Int)
 rotate_left
 · rw [if_neg c20] at H
   exact absurd H (by simp)
 rw [if_pos c20] at H
 have c20b0 : decide (x46_3 < (t112.length : Int)) = true := zdt c20
 clear c20
 replace H := zob H
 obtain ⟨t116, A210, H⟩ := H
 replace H : (zcp k3 a1 x5_3 (rdOf ByteArray.empty l0_0 x22_1) t105 (rd t108 x38_2) (rd t112 x46_3) l0_0 (l0_0.length : Int) x22_1 t108 (t108.length : Int) x38_2 t112 (t112.length : Int) x46_3 t116 (t116.length : Int) 0 l0_0 l0_1) = some r := H
 have A21 := zA A210
 clear A210
 have H' := zA H
 clear H
 have p115 : 0 ≤ (x46_3 : Int) := zde (by assumption)
 have q115 : x46_3 < (t112.length : Int) := zde (by assumption)
 obtain ⟨ad115, e115, hx115_0⟩ := Kd.at_int (zRr HO_44.out).2.2 x46_3 p115 q115
 cases e115
 replace p115 := eq_true p115
 replace q115 := eq_true q115
 obtain ⟨hcz22_0, hcz22_1⟩ := zc2 wr (.slice (some ad102) l0_0.length c0_0) (.slice A0_1 l0_1.length c0_1) BK101.out
 obtain ⟨hfz22_0, hfz22_1⟩ := zf2 BK101.out
 go_wp2_with (first | ((with_reducible refine zae (f := 211) rfl ?_); refine zaz (some 52) rfl rfl Try.func211 (by kernel_rfl) rfl #[.agg #[.slice (some ad102) l0_0.length c0_0, .slice A0_1 l0_1.length c0_1], .string (rdOf ByteArray.empty l0_0 x22_1)] rfl (by first | rfl | (simp only [zld, zle, zlf, zlg, zlh] <;> rfl)) ?_; (with_reducible refine (zmk k3 _ _ l0_0 (fun k_ => k_ < w.heap.size) _ _ l0_1 (rdOf ByteArray.empty l0_0 x22_1) t116 _ ?side1 ?side2 ?side3 A21.out).mono ?_); (case side1 => repeat (first | exact (zCb HR0_0.out HB.out) | (with_reducible first | refine zCa ?_ _ | refine zCn ?_ _ | refine zCd ?_))); (case side2 => exact HC0_0.out); (case side3 => exact Kd.V_mk HC0_1.out (Kd.F_below (Kd.C_F (Kd.heap_int .i64) HR0_1.out) (by repeat (first | (with_reducible first | exact HB.out | apply zba | apply zbn | apply zbd | refine zaa ?_ GE101.out) | exact HB.out)))); rintro e w23 ⟨v117, rfl, ho0, hb⟩; refine ⟨_, rfl, ?_⟩; have n0_ := zA (zRb (by (with_reducible repeat (first | apply zRa | apply zRn | apply zRd)); exact HO_5.out) hb); have n1_ := zA (zRb (by (with_reducible repeat (first | apply zRa | apply zRn | apply zRd)); exact HO_36.out) hb); have n2_ := zA (zRb (by (with_reducible repeat (first | apply zRa | apply zRn | apply zRd)); exact HO_44.out) hb); have n3_ := zA (Kd.V_lower (Kd.V_mono (ok' := fun k_ => some k_ ≠ (u5 : Value).ownBlock ∧ some k_ ≠ (.slice (some ad111) t108.length co11 : Value).ownBlock ∧ some k_ ≠ (.slice (some ad115) t112.length co17 : Value).ownBlock ∧ k_ ≠ gb101) ho0 (fun k_ hk_ => ⟨Or.elim hk_ (fun hs_ => fun e_ => Nat.not_le.2 hs_ (Kd.R_base HO_5.out k_ e_.symm)) (fun hn_ => (Kd.fresh' (Kd.R_lt (by (with_reducible repeat (first | apply zRa | apply zRn | apply zRd)); exact HO_5.out)) k_ hn_)), Or.elim hk_ (fun hs_ => fun e_ => Nat.not_le.2 hs_ (Kd.R_base HO_36.out k_ e_.symm)) (fun hn_ => (Kd.fresh' (Kd.R_lt (by (with_reducible repeat (first | apply zRa | apply zRn | apply zRd)); exact HO_36.out)) k_ hn_)), Or.elim hk_ (fun hs_ => fun e_ => Nat.not_le.2 hs_ (Kd.R_base HO_44.out k_ e_.symm)) (fun hn_ => (Kd.fresh' (Kd.R_lt (by (with_reducible repeat (first | apply zRa | apply zRn | apply zRd)); exact HO_44.out)) k_ hn_)), Or.elim hk_ (fun hs_ => fun e_ => Nat.not_le.2 hs_ (by rw [e_]; exact GW101.out)) (fun hn_ => (Kd.freshB (g := gb101) (o := .cells #[.slice (some ad102) l0_0.length c0_0, .slice A0_1 l0_1.length c0_1] 62 (0, 0)) (by (with_reducible repeat (first | refine zkn ?_ _ | refine zkd ?_ | refine zka ?_ _)); exact BK101.out) k_ hn_))⟩)) (zaj (by repeat (first | (with_reducible first | exact HB.out | apply zba | apply zbn | apply zbd | refine zaa ?_ GE101.out) | exact HB.out)))); have n4_ := zA (zad (g := gb101) (o := .cells #[.slice (some ad102) l0_0.length c0_0, .slice A0_1 l0_1.length c0_1] 62 (0, 0)) (by (with_reducible repeat (first | refine zkn ?_ _ | refine zkd ?_ | refine zka ?_ _)); exact BK101.out) hb); have n5_ := zA (zai (by repeat (first | (with_reducible first | exact HB.out | apply zba | apply zbn | apply zbd | refine zaa ?_ GE101.out) | exact HB.out)) hb); clear HO_5 HO_36; clear HO_44 BK101 HB; have HO_5 := n0_; have HO_36 := n1_; have HO_44 := n2_; have HO118 := n3_; have BK101 := n4_; have HB := n5_; clear n0_ n1_ n2_ n3_ n4_ n5_; (try clear hb); (try clear ho0); obtain ⟨Ao24, co24, eo24⟩ := Kd.V_slice HO118.out; subst eo24))
 go_loopg [5, 54] k3 (fun kq v5 v54 w' => ∃ (x5_4 : List (S102)) (x54_4 : Int), v54 = .int .i64 x54_4 ∧ Aside0 (zcp kq a1 x5_4 (rdOf ByteArray.empty l0_0 x22_1) t105 (rd t108 x38_2) (rd t112 x46_3) l0_0 (l0_0.length : Int) x22_1 t108 (t108.length : Int) x38_2 t112 (t112.length : Int) x46_3 t116 (t116.length : Int) x54_4 l0_0 l0_1 = some r) ∧ Aside0 (kq ≤ k3) ∧ Aside0 (Kd.R k102 102 w' w.heap.size (fun _ => True) v5 x5_4) ∧ Aside0 (Kd.R (Kd.int .i64) 3 w' w.heap.size (fun k_ => some k_ ≠ ((.slice (some ad115) t112.length co17) : Value).ownBlock) (.slice (some ad111) t108.length co11) t108) ∧ Aside0 (Kd.R (Kd.int .i64) 3 w' w.heap.size (fun k_ => some k_ ≠ ((.slice (some ad111) t108.length co11) : Value).ownBlock) (.slice (some ad115) t112.length co17) t112) ∧ Aside0 (Kd.V (Kd.int .i64) 3 w' w.heap.size (fun k_ => some k_ ≠ (v5 : Value).ownBlock ∧ some k_ ≠ ((.slice (some ad111) t108.length co11) : Value).ownBlock ∧ some k_ ≠ ((.slice (some ad115) t112.length co17) : Value).ownBlock ∧ k_ ≠ gb101) (.slice Ao24 t116.length co24) t116) ∧ Aside0 (w'.heap[gb101]? = some (.cells #[(.slice (some ad102) l0_0.length c0_0), (.slice A0_1 l0_1.length c0_1)] 62 (0, 0))) ∧ Aside0 (Below w.heap.size w w'))
 case atStart => exact ⟨(x5_3), (0), (by first | rfl | (simp; done) | (simp [*]; done)), H', ⟨zlr _⟩, ⟨by (with_reducible repeat (first | apply zRa | apply zRn | apply zRd)); exact HO_5.out⟩, ⟨by (with_reducible repeat (first | apply zRa | apply zRn | apply zRd)); exact HO_36.out⟩, ⟨by (with_reducible repeat (first | apply zRa | apply zRn | apply zRd)); exact HO_44.out⟩, ⟨by (with_reducible repeat (first | apply Kd.V_alloc | apply Kd.V_drewN | apply Kd.V_drew)); exact HO118.out⟩, ⟨by (with_reducible repeat (first | refine zkn ?_ _ | refine zkd ?_ | refine zka ?_ _)); exact BK101.out⟩, ⟨by repeat (first | (with_reducible first | exact HB.out | apply zba | apply zbn | apply zbd | refine zaa ?_ GE101.out) | exact HB.out)⟩⟩
 clear H'
 try clear c1
 try clear p1
 try clear q1
 try clear hx1
 try clear c2
 try clear p2
 try clear c5
 try clear c5b0
 try clear c6
 try clear c6b0
 try clear c7
 try clear c7b0
 try clear p10
 try clear q10
 try clear hx10
 try clear p11
 try clear q11
 try clear hx11
 try clear c12
 try clear c12b0
 try clear c13
 try clear c13b0
 try clear c14
 try clear c14b0
 try clear c15
 try clear c18
 try clear c18b0
 try clear c19
 try clear c19b0
 try clear c20
 try clear c20b0
 try clear c21
 try clear hcz22_0
 try clear hcz22_1
 try clear hcz4_0
 try clear hcz4_1
 try clear hfz22_0
 try clear hfz22_1
 try clear hfz4_0
 try clear hfz4_1
 try clear hx102_0
 try clear hx111_0
 try clear hx115_0
 try clear p1
 try clear p10
 try clear p102
 try clear p11
 try clear p111
 try clear p115
 try clear p2
 try clear q1
 try clear q10
 try clear q102
 try clear q11
 try clear q111
 try clear q115
 obtain ⟨x5_4, x54_4, rfl, HA, HK4, HO_5, HO_36, HO_44, HO_52, BK101, HB⟩ := hrel
 cases gk with
 | zero => exact absurd HA.out (by simp [zcp])
 | succ k4 =>
 have H := HA.out
 clear HA
 simp only [zcp] at H
 by_cases c25 : x54_4 < (t116.length : Int)
 rotate_left
 · rw [if_neg c25] at H
   have c25b0 : decide (x54_4 < (t116.length : Int)) = false := zdf c25
   clear c25
   have H' := zA H
   clear H
   go_wp2
   go_roundg k4
   case measure => have := HK1.out; have := HK2.out; have := HK3.out; have := HK4.out; omega
   case rel => exact ⟨(x5_4), (wrap64 (x46_3 + 1)), (by first | rfl | (simp; done) | (simp [*]; done)), H', ⟨by have := HK1.out; have := HK2.out; have := HK3.out; have := HK4.out; omega⟩, ⟨by (with_reducible repeat (first | apply zRa | apply zRn | apply zRd)); exact HO_5.out⟩, ⟨by (with_reducible repeat (first | apply zRa | apply zRn | apply zRd)); exact HO_36.out⟩, ⟨by (with_reducible repeat (first | apply zRa | apply zRn | apply zRd)); exact HO_44.out⟩, ⟨by (with_reducible repeat (first | refine zkn ?_ _ | refine zkd ?_ | refine zka ?_ _)); exact BK101.out⟩, ⟨by repeat (first | (with_reducible first | exact HB.out | apply zba | apply zbn | apply zbd | refine zaa ?_ GE101.out) | exact HB.out)⟩⟩
 rw [if_pos c25] at H
 have c25b0 : decide (x54_4 < (t116.length : Int)) = true := zdt c25
 clear c25
 by_cases c26 : 0 ≤ x54_4
 rotate_left
 · rw [if_neg c26] at H
   exact absurd H (by simp)
 rw [if_pos c26] at H
 have c26b0 : decide (0 ≤ x54_4) = true := zdt c26
 clear c26
 by_cases c27 : x54_4 < (t116.length : Int)
 rotate_left
 · rw [if_neg c27] at H
   exact absurd H (by simp)
 rw [if_pos c27] at H
 have c27b0 : decide (x54_4 < (t116.length : Int)) = true := zdt c27
 clear c27
 by_cases c28 : x5_4.length < 2932031007402
 rotate_left
 · rw [if_neg c28] at H
   exact absurd H (by simp)
 rw [if_pos c28] at H
 have LMc28 := zA c28
 clear c28
 obtain ⟨y120, hy120⟩ : ∃ y_ : List (S102), y_ = (x5_4 ++ [(⟨(rdOf ByteArray.empty l0_0 x22_1), wrap64 (2 + a1), (rd t108 x38_2), (rd t112 x46_3), rd t116 x54_4⟩ : S102)]) := ⟨_, rfl⟩
 replace H : (zcp k4 a1 y120 (rdOf ByteArray.empty l0_0 x22_1) t105 (rd t108 x38_2) (rd t112 x46_3) l0_0 (l0_0.length : Int) x22_1 t108 (t108.length : Int) x38_2 t112 (t112.length : Int) x46_3 t116 (t116.length : Int) (wrap64 (x54_4 + 1)) l0_0 l0_1) = some r := by first | (rw [hy120]; with_reducible exact H) | (have H2_ := (Option.bind_some _ _).symm.trans H; rw [hy120]; with_reducible exact H2_) | (have H2_ := (Option.bind_some _ _).symm.trans H; with_reducible exact H2_) | with_reducible exact H | (rw [hy120]; exact H) | exact H
 have Ny120 := zA hy120
 clear hy120
 have H' := zA H
 clear H
 have p119 : 0 ≤ (x54_4 : Int) := zde (by assumption)
 have q119 : x54_4 < (t116.length : Int) := zde (by assumption)
 obtain ⟨ad119, e119, hx119_0⟩ := Kd.at_int (Kd.V_reads' HO_52.out).2.2 x54_4 p119 q119
 cases e119
 replace p119 := eq_true p119
 replace q119 := eq_true q119
 go_wp2_with (first | ((with_reducible refine ze4 (b := .append) (xs := #[.tmp 58, .tmp 66]) rfl ?_); at_builtin; refine Kd.R_append k102 (w0 := w) w.heap.size rfl (.tmp 58) (.tmp 66) 46 102 (.agg #[(.string ⟨#[]⟩), (.int .i64 0), (.int .i64 0), (.int .i64 0), (.int .i64 0)]) 48 rfl Try.underlying46 zpr rfl (by decide) (by omega) u5 x5_4 (⟨(rdOf ByteArray.empty l0_0 x22_1), wrap64 (2 + a1), (rd t108 x38_2), (rd t112 x46_3), rd t116 x54_4⟩ : S102) [.string (rdOf ByteArray.empty l0_0 x22_1), .int .i64 (wrap64 (2 + a1)), .int .i64 (rd t108 x38_2), .int .i64 (rd t112 x46_3), .int .i64 (rd t116 x54_4)] (fun _ => True) (fun _ => False) rfl rfl ?aP (fun _ hk => hk.elim) ?aF ?aO ?aB ?aS ?aL ?_; (case aP => exact zic _ _ _ (⟨(rdOf ByteArray.empty l0_0 x22_1), wrap64 (2 + a1), (rd t108 x38_2), (rd t112 x46_3), rd t116 x54_4⟩ : S102)); (case aB => exact (by repeat (first | (with_reducible first | exact HB.out | apply zba | apply zbn | apply zbd | refine zaa ?_ GE101.out) | exact HB.out))); (case aF => exact (fun _ _ => trivial)); (case aO => exact (by (with_reducible repeat (first | apply zRa | apply zRn | apply zRd)); exact HO_5.out)); (case aS => exact (zaj (by repeat (first | (with_reducible first | exact HB.out | apply zba | apply zbn | apply zbd | refine zaa ?_ GE101.out) | exact HB.out)))); (case aL => have := LMc28.out; omega); intro v121 w29 ho hb hg hat; rw [← Ny120.out] at ho; have n0_ := zA (Kd.R_over' (by (with_reducible repeat (first | apply zRa | apply zRn | apply zRd)); exact HO_36.out) (Kd.R_typed (by (with_reducible repeat (first | apply zRa | apply zRn | apply zRd)); exact HO_5.out)) (by decide) hg); have n1_ := zA (Kd.R_over' (by (with_reducible repeat (first | apply zRa | apply zRn | apply zRd)); exact HO_44.out) (Kd.R_typed (by (with_reducible repeat (first | apply zRa | apply zRn | apply zRd)); exact HO_5.out)) (by decide) hg); have n2_ := zA (Kd.V_afterv (ok := (fun k_ => some k_ ≠ (.slice (some ad111) t108.length co11 : Value).ownBlock ∧ some k_ ≠ (.slice (some ad115) t112.length co17 : Value).ownBlock ∧ k_ ≠ gb101)) (by (with_reducible repeat (first | apply Kd.V_alloc | apply Kd.V_drewN | apply Kd.V_drew)); exact Kd.V_mono HO_52.out (fun _ hk => ⟨⟨hk.2.1, ⟨hk.2.2.1, hk.2.2.2⟩⟩, hk.1⟩)) hg hat); have n3_ := zA (zjz (g := gb101) (o := .cells #[.slice (some ad102) l0_0.length c0_0, .slice A0_1 l0_1.length c0_1] 62 (0, 0)) (by (with_reducible repeat (first | refine zkn ?_ _ | refine zkd ?_ | refine zka ?_ _)); exact BK101.out) hg (Kd.R_ne HO_5.out BK101.out (by decide))); have n4_ := zA (hb); have n5_ := zA (ho); clear HO_36 HO_44; clear HO_52 BK101; clear HB HO_5; have HO_36 := n0_; have HO_44 := n1_; have HO_52 := n2_; have BK101 := n3_; have HB := n4_; have HO122 := n5_; clear n0_ n1_ n2_ n3_ n4_ n5_; clear ho hb hg hat))
 go_roundg k4
 case measure => have := HK1.out; have := HK2.out; have := HK3.out; have := HK4.out; omega
 case rel => exact ⟨(y120), (wrap64 (x54_4 + 1)), (by first | rfl | (simp; done) | (simp [*]; done)), H', ⟨by have := HK1.out; have := HK2.out; have := HK3.out; have := HK4.out; omega⟩, ⟨by (with_reducible repeat (first | apply zRa | apply zRn | apply zRd)); exact HO122.out⟩, ⟨by (with_reducible repeat (first | apply zRa | apply zRn | apply zRd)); exact HO_36.out⟩, ⟨by (with_reducible repeat (first | apply zRa | apply zRn | apply zRd)); exact HO_44.out⟩, ⟨by (with_reducible repeat (first | apply Kd.V_alloc | apply Kd.V_drewN | apply Kd.V_drew)); exact Kd.V_mono HO_52.out (fun _ hk => ⟨hk.2, ⟨hk.1.1, ⟨hk.1.2.1, hk.1.2.2⟩⟩⟩)⟩, ⟨by (with_reducible repeat (first | refine zkn ?_ _ | refine zkd ?_ | refine zka ?_ _)); exact BK101.out⟩, ⟨by repeat (first | (with_reducible first | exact HB.out | apply zba | apply zbn | apply zbd | refine zaa ?_ GE101.out) | exact HB.out)⟩⟩
end Go.Proofs.Ytccoiifklcgodaa.Q
end
section
namespace Go.Proofs.Ytccoiifklcgodaa.Q
open Go.RowKit Go.Proofs.YtccoiifklcgodaaW.PrintWords Go.Proofs.YtccoiifklcgodaaW.PrintLast Go.Proofs.YtccoiifklcgodaaW.PrintMore
attribute [local go_sem] zdk zdl zee zef zcq zcr zdm zdn
set_option linter.unusedVariables false
set_option linter.unusedSimpArgs false
def zdi : Nat → List (S102) → Int → Int → List ByteArray → List Int → Option (Bool)
 | 0, _, _, _, _, _ => none
 | k + 1, x10, x11, x12, x102000, x102001 => if x12 < x11 then (if 0 ≤ x12 then (if x12 < (x10.length : Int) then ((zfh k x102000 x102001 x12).bind fun t104 => ((ze2 k t104 ((zab x10 x12).f0) ((zab x10 x12).f1) ((zab x10 x12).f2) ((zab x10 x12).f3) ((zab x10 x12).f4)).bind fun t107 => (if t107 < 0 then (some false) else (zdi k x10 x11 (wrap64 (x12 + 1)) x102000 x102001)))) else (none)) else (none)) else (some true)
def zfi (k : Nat) (l0_0 : List ByteArray) (l0_1 : List Int) (l1 : List (S102)) : Option (Bool) := if (l1.length : Int) > 3 then (some false) else (zdi k l1 (l1.length : Int) 0 l0_0 l0_1)
theorem zkg : ∀ k, (∀ y0 y1 y2 y3 y4, LeO (zdi k y0 y1 y2 y3 y4) (zdi (k + 1) y0 y1 y2 y3 y4))
 | 0 => fun _ _ _ _ _ r h => by simp [zdi] at h
 | k + 1 => by
   have ih0 := zkg k
   · intro y0 y1 y2 y3 y4
     unfold zdi
     repeat' first
     | (with_reducible first | exact ih0 _ _ _ _ _ | exact zjr _ _ _ _ _ _ _ | exact zjt _ _ _ _ | exact LeO.refl _ | exact LeO.none _ | refine zaf ?_ ?_ | refine LeO.bind ?_ (fun _ => ?_))
     | exact LeO.none _
     | refine zaf ?_ ?_
     | refine LeO.bind ?_ (fun _ => ?_)
theorem zk9 : ∀ a0 a1 a2 k, LeO (zfi k a0 a1 a2) (zfi (k + 1) a0 a1 a2) := by
 intro a0 a1 a2 k
 have ih0 := zkg k
 unfold zfi
 repeat' first
     | (with_reducible first | exact ih0 _ _ _ _ _ | exact zjr _ _ _ _ _ _ _ | exact zjt _ _ _ _ | exact LeO.refl _ | exact LeO.none _ | refine zaf ?_ ?_ | refine LeO.bind ?_ (fun _ => ?_))
     | exact LeO.none _
     | refine zaf ?_ ?_
     | refine LeO.bind ?_ (fun _ => ?_)
set_option maxHeartbeats 8000000 in
set_option maxRecDepth 100000 in
theorem znc (k : Nat) (A0_0 : Option Addr) (c0_0 : Nat) (l0_0 : List ByteArray) (A0_1 : Option Addr) (c0_1 : Nat) (l0_1 : List Int) (A1 : Option Addr) (c1 : Nat) (l1 : List (S102)) (r : Bool) (w : World) (hr0_0 : Kd.C Kd.string w A0_0 l0_0.length l0_0) (hc0_0 : l0_0.length ≤ c0_0) (hr0_1 : Kd.C (Kd.int .i64) w A0_1 l0_1.length l0_1) (hc0_1 : l0_1.length ≤ c0_1) (hr1 : Kd.C k102 w A1 l1.length l1) (hc1 : l1.length ≤ c1) (h : zfi k l0_0 l0_1 l1 = some r) :
   Calls Try.prog 94 #[.agg #[.slice A0_0 l0_0.length c0_0, .slice A0_1 l0_1.length c0_1], .slice A1 l1.length c1] w fun e w' => e = .returned (.bool r) ∧ Below w.heap.size w w' := by
 have hu62 := Try.underlying62
 have hu102 := Try.underlying102
 have HR0_0 := zA hr0_0
 have HC0_0 := zA hc0_0
 clear hr0_0 hc0_0
 have HR0_1 := zA hr0_1
 have HC0_1 := zA hc0_1
 clear hr0_1 hc0_1
 have HR1 := zA hr1
 have HC1 := zA hc1
 clear hr1 hc1
 have HB := zA (Below.refl w.heap.size w)
 have H : (if (l1.length : Int) > 3 then (some false) else (zdi k l1 (l1.length : Int) 0 l0_0 l0_1)) = some r := h
 clear h
 by_cases c3 : (l1.length : Int) > 3
 · rw [if_pos c3] at H
   have c3b0 : decide (3 < (l1.length : Int)) = true := zdt c3
   have c3b1 : decide (3 < l1.length) = true := zdt (by omega)
   clear c3
   obtain rfl := zsi H
   go_enter Try.func94, Try.ntmps94
   go_wp2_with (first | ((with_reducible refine zam (N := 2) rfl ?_); refine zak ?hg (N := 2) ?hd (cs := #[.slice A0_0 l0_0.length c0_0, .slice A0_1 l0_1.length c0_1]) (t := 62) ?hr ?_; (case hd => rfl); (case hg => rfl); (case hr => go_simp <;> rfl); intro gb101 hg w4 hbox hb; have zs := zpair (by repeat (first | (with_reducible first | exact HB.out | apply zba | apply zbn | apply zbd) | exact HB.out)) hb; have n0_ := zA (zs.1); have n1_ := zA (hbox); have n2_ := zA ((by rw [hg]; exact zs.2 : w.heap.size ≤ gb101)); have n3_ := n2_; clear HB; have HB := n0_; have BK101 := n1_; have GW101 := n2_; have GE101 := n3_; clear n0_ n1_ n2_ n3_; clear zs hb hbox hg))
   go_ret
   exact ⟨by first | rfl | (simp <;> rfl) | (simp [*] <;> rfl), by repeat (first | (with_reducible first | exact HB.out | apply zba | apply zbn | apply zbd | refine zaa ?_ GE101.out) | exact HB.out)⟩
 rw [if_neg c3] at H
 have c3b0 : decide (3 < (l1.length : Int)) = false := zdf c3
 have c3b1 : decide (3 < l1.length) = false := zdf (by omega)
 clear c3
 have H' := zA H
 clear H
 go_enter Try.func94, Try.ntmps94
 go_wp2_with (first | ((with_reducible refine zam (N := 2) rfl ?_); refine zak ?hg (N := 2) ?hd (cs := #[.slice A0_0 l0_0.length c0_0, .slice A0_1 l0_1.length c0_1]) (t := 62) ?hr ?_; (case hd => rfl); (case hg => rfl); (case hr => go_simp <;> rfl); intro gb101 hg w5 hbox hb; have zs := zpair (by repeat (first | (with_reducible first | exact HB.out | apply zba | apply zbn | apply zbd) | exact HB.out)) hb; have n0_ := zA (zs.1); have n1_ := zA (hbox); have n2_ := zA ((by rw [hg]; exact zs.2 : w.heap.size ≤ gb101)); have n3_ := n2_; clear HB; have HB := n0_; have BK101 := n1_; have GW101 := n2_; have GE101 := n3_; clear n0_ n1_ n2_ n3_; clear zs hb hbox hg))
 go_loopg [12] k (fun kq v12 w' => ∃ (x12_1 : Int), v12 = .int .i64 x12_1 ∧ Aside0 (zdi kq l1 (l1.length : Int) x12_1 l0_0 l0_1 = some r) ∧ Aside0 (kq ≤ k) ∧ Aside0 (w'.heap[gb101]? = some (.cells #[(.slice A0_0 l0_0.length c0_0), (.slice A0_1 l0_1.length c0_1)] 62 (0, 0))) ∧ Aside0 (Below w.heap.size w w'))
 case atStart => exact ⟨(0), (by first | rfl | (simp; done) | (simp [*]; done)), H', ⟨zlr _⟩, ⟨by (with_reducible repeat (first | refine zkn ?_ _ | refine zkd ?_ | refine zka ?_ _)); exact BK101.out⟩, ⟨by repeat (first | (with_reducible first | exact HB.out | apply zba | apply zbn | apply zbd | refine zaa ?_ GE101.out) | exact HB.out)⟩⟩
 clear H'
 try clear c1
 try clear p2
 try clear c3
 try clear c3b0
 try clear c3b1
 obtain ⟨x12_1, rfl, HA, HK1, BK101, HB⟩ := hrel
 cases gk with
 | zero => exact absurd HA.out (by simp [zdi])
 | succ k1 =>
 have H := HA.out
 clear HA
 simp only [zdi] at H
 by_cases c6 : x12_1 < (l1.length : Int)
 rotate_left
 · rw [if_neg c6] at H
   have c6b0 : decide (x12_1 < (l1.length : Int)) = false := zdf c6
   clear c6
   obtain rfl := zsi H
   go_wp2
   go_ret
   exact ⟨by first | rfl | (simp <;> rfl) | (simp [*] <;> rfl), by repeat (first | (with_reducible first | exact HB.out | apply zba | apply zbn | apply zbd | refine zaa ?_ GE101.out) | exact HB.out)⟩
 rw [if_pos c6] at H
 have c6b0 : decide (x12_1 < (l1.length : Int)) = true := zdt c6
 clear c6
 by_cases c7 : 0 ≤ x12_1
 rotate_left
 · rw [if_neg c7] at H
   exact absurd H (by simp)
 rw [if_pos c7] at H
 have c7b0 : decide (0 ≤ x12_1) = true := zdt c7
 clear c7
 by_cases c8 : x12_1 < (l1.length : Int)
 rotate_left
 · rw [if_neg c8] at H
   exact absurd H (by simp)
 rw [if_pos c8] at H
 have c8b0 : decide (x12_1 < (l1.length : Int)) = true := zdt c8
 clear c8
 replace H := zob H
 obtain ⟨t104, A90, H⟩ := H
 replace H : ((ze2 k1 t104 ((zab l1 x12_1).f0) ((zab l1 x12_1).f1) ((zab l1 x12_1).f2) ((zab l1 x12_1).f3) ((zab l1 x12_1).f4)).bind fun t107 => (if t107 < 0 then (some false) else (zdi k1 l1 (l1.length : Int) (wrap64 (x12_1 + 1)) l0_0 l0_1))) = some r := H
 have A9 := zA A90
 clear A90
 replace H := zob H
 obtain ⟨t107, A100, H⟩ := H
 replace H : (if t107 < 0 then (some false) else (zdi k1 l1 (l1.length : Int) (wrap64 (x12_1 + 1)) l0_0 l0_1)) = some r := H
 have A10 := zA A100
 clear A100
 by_cases c11 : t107 < 0
 · rw [if_pos c11] at H
   have c11b0 : decide (t107 < 0) = true := zdt c11
   clear c11
   obtain rfl := zsi H
   have p102 : 0 ≤ (x12_1 : Int) := zde (by assumption)
   have q102 : x12_1 < (l1.length : Int) := zde (by assumption)
   obtain ⟨ad102, e102, hx102_0, hx102_1, hx102_2, hx102_3, hx102_4⟩ := zg1 HR1.out x12_1 p102 q102
   cases e102
   replace hx102_0 := zkep HB.out hx102_0
   replace hx102_1 := zkep HB.out hx102_1
   replace hx102_2 := zkep HB.out hx102_2
   replace hx102_3 := zkep HB.out hx102_3
   replace hx102_4 := zkep HB.out hx102_4
   replace p102 := eq_true p102
   replace q102 := eq_true q102
   try go_wp2_with (first | ((with_reducible refine zam (N := 6) rfl ?_); refine zak ?hg (N := 6) ?hd (cs := #[.string (⟨#[]⟩ : ByteArray), .int .i64 0, .int .i64 0, .int .i64 0, .int .i64 0]) (t := 102) ?hr ?_; (case hd => rfl); (case hg => rfl); (case hr => go_simp <;> rfl); intro gb103 hg w12 hbox hb; have n0_ := zA (zad (g := gb101) (o := .cells #[.slice A0_0 l0_0.length c0_0, .slice A0_1 l0_1.length c0_1] 62 (0, 0)) (by (with_reducible repeat (first | refine zkn ?_ _ | refine zkd ?_ | refine zka ?_ _)); exact BK101.out) hb); have zs := zpair (by repeat (first | (with_reducible first | exact HB.out | apply zba | apply zbn | apply zbd | refine zaa ?_ GE101.out) | exact HB.out)) hb; have n1_ := zA (zs.1); have n2_ := zA (hbox); have n3_ := zA ((by rw [hg]; exact zs.2 : w.heap.size ≤ gb103)); have n4_ := n3_; have n5_ := zA ((by rw [hg]; exact Nat.ne_of_lt (zlt BK101.out (fun h => by (with_reducible repeat (first | refine zkn ?_ _ | refine zkd ?_ | refine zka ?_ _)); exact h)) : gb101 ≠ gb103)); have n6_ := zA (Ne.symm n5_.out); clear BK101 HB; have BK101 := n0_; have HB := n1_; have BK103 := n2_; have GW103 := n3_; have GE103 := n4_; have NB101_103 := n5_; have NB103_101 := n6_; clear n0_ n1_ n2_ n3_ n4_ n5_ n6_; clear zs hb hbox hg; have hnb13 := NB103_101.out; have hnc13 := NB101_103.out; obtain ⟨hcz14_0, hcz14_1, hcz14_2, hcz14_3, hcz14_4⟩ := zc5 w12 (.string (⟨#[]⟩ : ByteArray)) (.int .i64 0) (.int .i64 0) (.int .i64 0) (.int .i64 0) BK103.out; obtain ⟨hfz14_0, hfz14_1, hfz14_2, hfz14_3, hfz14_4⟩ := zf5 BK103.out))
   have n0_ : Aside0 ((((((w12.setCell ⟨gb103, 0, none⟩ (.string ((zab l1 x12_1).f0))).setCell ⟨gb103, 1, none⟩ (.int .i64 ((zab l1 x12_1).f1))).setCell ⟨gb103, 2, none⟩ (.int .i64 ((zab l1 x12_1).f2))).setCell ⟨gb103, 3, none⟩ (.int .i64 ((zab l1 x12_1).f3))).setCell ⟨gb103, 4, none⟩ (.int .i64 ((zab l1 x12_1).f4))).heap[gb101]? = some (.cells #[.slice A0_0 l0_0.length c0_0, .slice A0_1 l0_1.length c0_1] 62 (0, 0))) := ⟨by (with_reducible repeat (first | refine zkn ?_ _ | refine zkd ?_ | refine zka ?_ _)); refine zat ?_ NB101_103.out _; (with_reducible repeat (first | refine zkn ?_ _ | refine zkd ?_ | refine zka ?_ _)); refine zat ?_ NB101_103.out _; (with_reducible repeat (first | refine zkn ?_ _ | refine zkd ?_ | refine zka ?_ _)); refine zat ?_ NB101_103.out _; (with_reducible repeat (first | refine zkn ?_ _ | refine zkd ?_ | refine zka ?_ _)); refine zat ?_ NB101_103.out _; (with_reducible repeat (first | refine zkn ?_ _ | refine zkd ?_ | refine zka ?_ _)); refine zat ?_ NB101_103.out _; (with_reducible repeat (first | refine zkn ?_ _ | refine zkd ?_ | refine zka ?_ _)); exact BK101.out⟩
   have n1_ : Aside0 ((((((w12.setCell ⟨gb103, 0, none⟩ (.string ((zab l1 x12_1).f0))).setCell ⟨gb103, 1, none⟩ (.int .i64 ((zab l1 x12_1).f1))).setCell ⟨gb103, 2, none⟩ (.int .i64 ((zab l1 x12_1).f2))).setCell ⟨gb103, 3, none⟩ (.int .i64 ((zab l1 x12_1).f3))).setCell ⟨gb103, 4, none⟩ (.int .i64 ((zab l1 x12_1).f4))).heap[gb103]? = some (.cells #[.string ((zab l1 x12_1).f0), .int .i64 ((zab l1 x12_1).f1), .int .i64 ((zab l1 x12_1).f2), .int .i64 ((zab l1 x12_1).f3), .int .i64 ((zab l1 x12_1).f4)] 102 (0, 0))) := ⟨by (with_reducible repeat (first | refine zkn ?_ _ | refine zkd ?_ | refine zka ?_ _)); refine zbv (cs := #[.string ((zab l1 x12_1).f0), .int .i64 ((zab l1 x12_1).f1), .int .i64 ((zab l1 x12_1).f2), .int .i64 ((zab l1 x12_1).f3), .int .i64 0]) ?_ 4 _ rfl; (with_reducible repeat (first | refine zkn ?_ _ | refine zkd ?_ | refine zka ?_ _)); refine zbv (cs := #[.string ((zab l1 x12_1).f0), .int .i64 ((zab l1 x12_1).f1), .int .i64 ((zab l1 x12_1).f2), .int .i64 0, .int .i64 0]) ?_ 3 _ rfl; (with_reducible repeat (first | refine zkn ?_ _ | refine zkd ?_ | refine zka ?_ _)); refine zbv (cs := #[.string ((zab l1 x12_1).f0), .int .i64 ((zab l1 x12_1).f1), .int .i64 0, .int .i64 0, .int .i64 0]) ?_ 2 _ rfl; (with_reducible repeat (first | refine zkn ?_ _ | refine zkd ?_ | refine zka ?_ _)); refine zbv (cs := #[.string ((zab l1 x12_1).f0), .int .i64 0, .int .i64 0, .int .i64 0, .int .i64 0]) ?_ 1 _ rfl; (with_reducible repeat (first | refine zkn ?_ _ | refine zkd ?_ | refine zka ?_ _)); refine zbv (cs := #[.string (⟨#[]⟩ : ByteArray), .int .i64 0, .int .i64 0, .int .i64 0, .int .i64 0]) ?_ 0 _ rfl; (with_reducible repeat (first | refine zkn ?_ _ | refine zkd ?_ | refine zka ?_ _)); exact BK103.out⟩
   have n2_ : Aside0 (Below w.heap.size w (((((w12.setCell ⟨gb103, 0, none⟩ (.string ((zab l1 x12_1).f0))).setCell ⟨gb103, 1, none⟩ (.int .i64 ((zab l1 x12_1).f1))).setCell ⟨gb103, 2, none⟩ (.int .i64 ((zab l1 x12_1).f2))).setCell ⟨gb103, 3, none⟩ (.int .i64 ((zab l1 x12_1).f3))).setCell ⟨gb103, 4, none⟩ (.int .i64 ((zab l1 x12_1).f4)))) := ⟨by repeat (first | (with_reducible first | exact HB.out | apply zba | apply zbn | apply zbd | refine zaa ?_ GE101.out | refine zaa ?_ GE103.out) | exact HB.out)⟩
   (try clear BK101)
   (try clear BK103)
   (try clear HB)
   generalize (((((w12.setCell ⟨gb103, 0, none⟩ (.string ((zab l1 x12_1).f0))).setCell ⟨gb103, 1, none⟩ (.int .i64 ((zab l1 x12_1).f1))).setCell ⟨gb103, 2, none⟩ (.int .i64 ((zab l1 x12_1).f2))).setCell ⟨gb103, 3, none⟩ (.int .i64 ((zab l1 x12_1).f3))).setCell ⟨gb103, 4, none⟩ (.int .i64 ((zab l1 x12_1).f4))) = w15 at n0_ n1_ n2_ ⊢
   have BK101 := n0_
   have BK103 := n1_
   have HB := n2_
   clear n0_ n1_ n2_
   have n0_ := zA (zkd BK101.out)
   have n1_ := zA (zkd BK103.out)
   have n2_ := zA (zbd HB.out)
   clear BK101
   clear BK103
   clear HB
   have BK101 := n0_
   have BK103 := n1_
   have HB := n2_
   clear n0_ n1_ n2_
   refine zkj (n := 6) (S := fun w' => w'.cell? ⟨gb101, 0, none⟩ = some (.slice A0_0 l0_0.length c0_0) ∧ w'.cell? ⟨gb101, 1, none⟩ = some (.slice A0_1 l0_1.length c0_1) ∧ w'.cell? ⟨gb103, 0, none⟩ = some (.string ((zab l1 x12_1).f0)) ∧ w'.cell? ⟨gb103, 1, none⟩ = some (.int .i64 ((zab l1 x12_1).f1)) ∧ w'.cell? ⟨gb103, 2, none⟩ = some (.int .i64 ((zab l1 x12_1).f2)) ∧ w'.cell? ⟨gb103, 3, none⟩ = some (.int .i64 ((zab l1 x12_1).f3)) ∧ w'.cell? ⟨gb103, 4, none⟩ = some (.int .i64 ((zab l1 x12_1).f4))) (ds := []) #[false, false, false, false, false, false] (by kernel_rfl) rfl rfl ⟨(zag BK101.out 0).trans rfl, (zag BK101.out 1).trans rfl, (zag BK103.out 0).trans rfl, (zag BK103.out 1).trans rfl, (zag BK103.out 2).trans rfl, (zag BK103.out 3).trans rfl, (zag BK103.out 4).trans rfl⟩ (fun hHeld => ?_)
   generalize w15.drew = w16 at BK101 BK103 HB hHeld ⊢
   refine zd8 (i := 1) (N := some 18) (v := ?_) (a' := ?_) #[false, true, false, false, false, false] rfl rfl (by kernel_rfl) (fun _ _ _ h => h) (Or.inl ⟨by rfl, ?_⟩) ?_ ?_
   rotate_left
   · intro w'
     go_simp
     with_reducible rfl
   rotate_left
   · simp only [Act.put, zla, zlb, zlc, zbl, zbr]
     rfl
   refine take_ (i := 0) (N := some 17) (v := ?_) (a' := ?_) #[true, true, false, false, false, false] rfl rfl (by kernel_rfl) (fun _ _ _ h => h) (Or.inl ⟨by rfl, ?_⟩) hHeld ?_ ?_
   rotate_left
   · rintro w' ⟨s0, s1, s2, s3, s4, s5, s6⟩
     go_simp
     with_reducible rfl
   rotate_left
   · simp only [Act.put, zla, zlb, zlc, zbl, zbr]
     rfl
   refine take_ (i := 3) (N := some 20) (v := ?_) (a' := ?_) #[true, true, false, true, false, false] rfl rfl (by kernel_rfl) (fun _ _ _ h => h) (Or.inl ⟨by rfl, ?_⟩) hHeld ?_ ?_
   rotate_left
   · rintro w' ⟨s0, s1, s2, s3, s4, s5, s6⟩
     go_simp
     with_reducible rfl
   rotate_left
   · simp only [Act.put, zla, zlb, zlc, zbl, zbr]
     rfl
   refine one_ (i := 2) (N := some 19) #[true, true, true, true, false, false] rfl rfl (by kernel_rfl) (by decide) (fun K hK => ?_)
   refine zko Try.func157 (by kernel_rfl) rfl #[.agg #[.slice A0_0 l0_0.length c0_0, .slice A0_1 l0_1.length c0_1], .int .i64 x12_1] (by rfl) rfl rfl (by first | rfl | (simp only [zld, zle, zlf, zlg, zlh] <;> rfl)) ?_
   with_reducible refine (zjd k1 _ _ l0_0 _ _ l0_1 x12_1 t104 _ ?side1 ?side2 ?side3 ?side4 A9.out).mono ?_
   (case side1 => repeat (first | exact (zCb HR0_0.out HB.out) | (with_reducible first | refine zCa ?_ _ | refine zCn ?_ _ | refine zCd ?_)))
   (case side2 => exact HC0_0.out)
   (case side3 => repeat (first | exact (zCb HR0_1.out HB.out) | (with_reducible first | refine zCa ?_ _ | refine zCn ?_ _ | refine zCd ?_)))
   (case side4 => exact HC0_1.out)
   rintro e w17 ⟨v105, rfl, ho0, hb⟩
   refine ⟨_, rfl, ?_⟩
   have n0_ := zA (Kd.R_lower (Kd.R_newB ho0 (g := gb103) (o := .cells #[.string ((zab l1 x12_1).f0), .int .i64 ((zab l1 x12_1).f1), .int .i64 ((zab l1 x12_1).f2), .int .i64 ((zab l1 x12_1).f3), .int .i64 ((zab l1 x12_1).f4)] 102 (0, 0)) (by (with_reducible repeat (first | refine zkn ?_ _ | refine zkd ?_ | refine zka ?_ _)); exact BK103.out)) (zaj (by repeat (first | (with_reducible first | exact HB.out | apply zba | apply zbn | apply zbd | refine zaa ?_ GE101.out | refine zaa ?_ GE103.out) | exact HB.out))))
   have n1_ := zA (zad (g := gb101) (o := .cells #[.slice A0_0 l0_0.length c0_0, .slice A0_1 l0_1.length c0_1] 62 (0, 0)) (by (with_reducible repeat (first | refine zkn ?_ _ | refine zkd ?_ | refine zka ?_ _)); exact BK101.out) hb)
   have n2_ := zA (zad (g := gb103) (o := .cells #[.string ((zab l1 x12_1).f0), .int .i64 ((zab l1 x12_1).f1), .int .i64 ((zab l1 x12_1).f2), .int .i64 ((zab l1 x12_1).f3), .int .i64 ((zab l1 x12_1).f4)] 102 (0, 0)) (by (with_reducible repeat (first | refine zkn ?_ _ | refine zkd ?_ | refine zka ?_ _)); exact BK103.out) hb)
   have n3_ := zA (zai (by repeat (first | (with_reducible first | exact HB.out | apply zba | apply zbn | apply zbd | refine zaa ?_ GE101.out | refine zaa ?_ GE103.out) | exact HB.out)) hb)
   clear BK101
   clear BK103
   clear HB
   have HO106 := n0_
   have BK101 := n1_
   have BK103 := n2_
   have HB := n3_
   clear n0_ n1_ n2_ n3_
   (try clear hb)
   (try clear hb2)
   (try clear hk)
   (try clear hi)
   (try clear ho0)
   obtain ⟨Ao18, co18, eo18⟩ := Kd.R_slice HO106.out
   (first | subst eo18 | (injection eo18 with f1_ f2_ f3_; have f4_ := f1_.symm; have f5_ := f3_.symm; clear f1_ f2_ f3_; subst f4_; subst f5_))
   refine hK.out _ _ ⟨(zag BK101.out 0).trans rfl, (zag BK101.out 1).trans rfl, (zag BK103.out 0).trans rfl, (zag BK103.out 1).trans rfl, (zag BK103.out 2).trans rfl, (zag BK103.out 3).trans rfl, (zag BK103.out 4).trans rfl⟩ (fun hHeld => ?_)
   clear hK K
   refine zkm (a' := ?_) ?_ ?_
   rotate_left
   · show Act.put _ (some 19) _ = _
     simp only [Act.put, zla, zlb, zlc, zbl, zbr]
     rfl
   refine one_ (i := 4) (N := some 21) #[true, true, true, true, true, false] rfl rfl (by kernel_rfl) (by decide) (fun K hK => ?_)
   refine zko Try.func156 (by kernel_rfl) rfl #[.slice Ao18 t104.length co18, .agg #[.string ((zab l1 x12_1).f0), .int .i64 ((zab l1 x12_1).f1), .int .i64 ((zab l1 x12_1).f2), .int .i64 ((zab l1 x12_1).f3), .int .i64 ((zab l1 x12_1).f4)]] (by rfl) rfl rfl (by first | rfl | (simp only [zld, zle, zlf, zlg, zlh] <;> rfl)) ?_
   with_reducible refine (zjb k1 _ _ t104 ((zab l1 x12_1).f0) ((zab l1 x12_1).f1) ((zab l1 x12_1).f2) ((zab l1 x12_1).f3) ((zab l1 x12_1).f4) t107 _ ?side1 ?side2 A10.out).mono ?_
   (case side1 => repeat (first | exact (zRr HO106.out).2.2 | (with_reducible first | refine zCa ?_ _ | refine zCn ?_ _ | refine zCd ?_)))
   (case side2 => exact (zRr HO106.out).2.1)
   rintro e w19 ⟨rfl, hb⟩
   refine ⟨_, rfl, ?_⟩
   have n0_ := zA (zRb (by (with_reducible repeat (first | apply zRa | apply zRn | apply zRd)); exact HO106.out) hb)
   have n1_ := zA (zad (g := gb101) (o := .cells #[.slice A0_0 l0_0.length c0_0, .slice A0_1 l0_1.length c0_1] 62 (0, 0)) (by (with_reducible repeat (first | refine zkn ?_ _ | refine zkd ?_ | refine zka ?_ _)); exact BK101.out) hb)
   have n2_ := zA (zad (g := gb103) (o := .cells #[.string ((zab l1 x12_1).f0), .int .i64 ((zab l1 x12_1).f1), .int .i64 ((zab l1 x12_1).f2), .int .i64 ((zab l1 x12_1).f3), .int .i64 ((zab l1 x12_1).f4)] 102 (0, 0)) (by (with_reducible repeat (first | refine zkn ?_ _ | refine zkd ?_ | refine zka ?_ _)); exact BK103.out) hb)
   have n3_ := zA (zai (by repeat (first | (with_reducible first | exact HB.out | apply zba | apply zbn | apply zbd | refine zaa ?_ GE101.out | refine zaa ?_ GE103.out) | exact HB.out)) hb)
   clear HO106
   clear BK101
   clear BK103
   clear HB
   have HO106 := n0_
   have BK101 := n1_
   have BK103 := n2_
   have HB := n3_
   clear n0_ n1_ n2_ n3_
   (try clear hb)
   (try clear hb2)
   (try clear hk)
   (try clear hi)
   refine hK.out _ _ ⟨(zag BK101.out 0).trans rfl, (zag BK101.out 1).trans rfl, (zag BK103.out 0).trans rfl, (zag BK103.out 1).trans rfl, (zag BK103.out 2).trans rfl, (zag BK103.out 3).trans rfl, (zag BK103.out 4).trans rfl⟩ (fun hHeld => ?_)
   clear hK K
   refine zkm (a' := ?_) ?_ ?_
   rotate_left
   · show Act.put _ (some 21) _ = _
     simp only [Act.put, zla, zlb, zlc, zbl, zbr]
     rfl
   refine zd8 (i := 5) (N := some 22) (v := ?_) (a' := ?_) #[true, true, true, true, true, true] rfl rfl (by kernel_rfl) (fun _ _ _ h => h) (Or.inl ⟨by rfl, ?_⟩) ?_ ?_
   rotate_left
   · intro w'
     go_simp
     with_reducible rfl
   rotate_left
   · simp only [Act.put, zla, zlb, zlc, zbl, zbr]
     rfl
   refine zm5 (by kernel_rfl) ?_
   try go_wp2
   go_ret
   exact ⟨by first | rfl | (simp <;> rfl) | (simp [*] <;> rfl), by repeat (first | (with_reducible first | exact HB.out | apply zba | apply zbn | apply zbd | refine zaa ?_ GE101.out | refine zaa ?_ GE103.out) | exact HB.out)⟩
 rw [if_neg c11] at H
 have c11b0 : decide (t107 < 0) = false := zdf c11
 clear c11
 have H' := zA H
 clear H
 have p102 : 0 ≤ (x12_1 : Int) := zde (by assumption)
 have q102 : x12_1 < (l1.length : Int) := zde (by assumption)
 obtain ⟨ad102, e102, hx102_0, hx102_1, hx102_2, hx102_3, hx102_4⟩ := zg1 HR1.out x12_1 p102 q102
 cases e102
 replace hx102_0 := zkep HB.out hx102_0
 replace hx102_1 := zkep HB.out hx102_1
 replace hx102_2 := zkep HB.out hx102_2
 replace hx102_3 := zkep HB.out hx102_3
 replace hx102_4 := zkep HB.out hx102_4
 replace p102 := eq_true p102
 replace q102 := eq_true q102
 try go_wp2_with (first | ((with_reducible refine zam (N := 6) rfl ?_); refine zak ?hg (N := 6) ?hd (cs := #[.string (⟨#[]⟩ : ByteArray), .int .i64 0, .int .i64 0, .int .i64 0, .int .i64 0]) (t := 102) ?hr ?_; (case hd => rfl); (case hg => rfl); (case hr => go_simp <;> rfl); intro gb103 hg w20 hbox hb; have n0_ := zA (zad (g := gb101) (o := .cells #[.slice A0_0 l0_0.length c0_0, .slice A0_1 l0_1.length c0_1] 62 (0, 0)) (by (with_reducible repeat (first | refine zkn ?_ _ | refine zkd ?_ | refine zka ?_ _)); exact BK101.out) hb); have zs := zpair (by repeat (first | (with_reducible first | exact HB.out | apply zba | apply zbn | apply zbd | refine zaa ?_ GE101.out) | exact HB.out)) hb; have n1_ := zA (zs.1); have n2_ := zA (hbox); have n3_ := zA ((by rw [hg]; exact zs.2 : w.heap.size ≤ gb103)); have n4_ := n3_; have n5_ := zA ((by rw [hg]; exact Nat.ne_of_lt (zlt BK101.out (fun h => by (with_reducible repeat (first | refine zkn ?_ _ | refine zkd ?_ | refine zka ?_ _)); exact h)) : gb101 ≠ gb103)); have n6_ := zA (Ne.symm n5_.out); clear BK101 HB; have BK101 := n0_; have HB := n1_; have BK103 := n2_; have GW103 := n3_; have GE103 := n4_; have NB101_103 := n5_; have NB103_101 := n6_; clear n0_ n1_ n2_ n3_ n4_ n5_ n6_; clear zs hb hbox hg; have hnb21 := NB103_101.out; have hnc21 := NB101_103.out; obtain ⟨hcz22_0, hcz22_1, hcz22_2, hcz22_3, hcz22_4⟩ := zc5 w20 (.string (⟨#[]⟩ : ByteArray)) (.int .i64 0) (.int .i64 0) (.int .i64 0) (.int .i64 0) BK103.out; obtain ⟨hfz22_0, hfz22_1, hfz22_2, hfz22_3, hfz22_4⟩ := zf5 BK103.out))
 have n0_ : Aside0 ((((((w20.setCell ⟨gb103, 0, none⟩ (.string ((zab l1 x12_1).f0))).setCell ⟨gb103, 1, none⟩ (.int .i64 ((zab l1 x12_1).f1))).setCell ⟨gb103, 2, none⟩ (.int .i64 ((zab l1 x12_1).f2))).setCell ⟨gb103, 3, none⟩ (.int .i64 ((zab l1 x12_1).f3))).setCell ⟨gb103, 4, none⟩ (.int .i64 ((zab l1 x12_1).f4))).heap[gb101]? = some (.cells #[.slice A0_0 l0_0.length c0_0, .slice A0_1 l0_1.length c0_1] 62 (0, 0))) := ⟨by (with_reducible repeat (first | refine zkn ?_ _ | refine zkd ?_ | refine zka ?_ _)); refine zat ?_ NB101_103.out _; (with_reducible repeat (first | refine zkn ?_ _ | refine zkd ?_ | refine zka ?_ _)); refine zat ?_ NB101_103.out _; (with_reducible repeat (first | refine zkn ?_ _ | refine zkd ?_ | refine zka ?_ _)); refine zat ?_ NB101_103.out _; (with_reducible repeat (first | refine zkn ?_ _ | refine zkd ?_ | refine zka ?_ _)); refine zat ?_ NB101_103.out _; (with_reducible repeat (first | refine zkn ?_ _ | refine zkd ?_ | refine zka ?_ _)); refine zat ?_ NB101_103.out _; (with_reducible repeat (first | refine zkn ?_ _ | refine zkd ?_ | refine zka ?_ _)); exact BK101.out⟩
 have n1_ : Aside0 ((((((w20.setCell ⟨gb103, 0, none⟩ (.string ((zab l1 x12_1).f0))).setCell ⟨gb103, 1, none⟩ (.int .i64 ((zab l1 x12_1).f1))).setCell ⟨gb103, 2, none⟩ (.int .i64 ((zab l1 x12_1).f2))).setCell ⟨gb103, 3, none⟩ (.int .i64 ((zab l1 x12_1).f3))).setCell ⟨gb103, 4, none⟩ (.int .i64 ((zab l1 x12_1).f4))).heap[gb103]? = some (.cells #[.string ((zab l1 x12_1).f0), .int .i64 ((zab l1 x12_1).f1), .int .i64 ((zab l1 x12_1).f2), .int .i64 ((zab l1 x12_1).f3), .int .i64 ((zab l1 x12_1).f4)] 102 (0, 0))) := ⟨by (with_reducible repeat (first | refine zkn ?_ _ | refine zkd ?_ | refine zka ?_ _)); refine zbv (cs := #[.string ((zab l1 x12_1).f0), .int .i64 ((zab l1 x12_1).f1), .int .i64 ((zab l1 x12_1).f2), .int .i64 ((zab l1 x12_1).f3), .int .i64 0]) ?_ 4 _ rfl; (with_reducible repeat (first | refine zkn ?_ _ | refine zkd ?_ | refine zka ?_ _)); refine zbv (cs := #[.string ((zab l1 x12_1).f0), .int .i64 ((zab l1 x12_1).f1), .int .i64 ((zab l1 x12_1).f2), .int .i64 0, .int .i64 0]) ?_ 3 _ rfl; (with_reducible repeat (first | refine zkn ?_ _ | refine zkd ?_ | refine zka ?_ _)); refine zbv (cs := #[.string ((zab l1 x12_1).f0), .int .i64 ((zab l1 x12_1).f1), .int .i64 0, .int .i64 0, .int .i64 0]) ?_ 2 _ rfl; (with_reducible repeat (first | refine zkn ?_ _ | refine zkd ?_ | refine zka ?_ _)); refine zbv (cs := #[.string ((zab l1 x12_1).f0), .int .i64 0, .int .i64 0, .int .i64 0, .int .i64 0]) ?_ 1 _ rfl; (with_reducible repeat (first | refine zkn ?_ _ | refine zkd ?_ | refine zka ?_ _)); refine zbv (cs := #[.string (⟨#[]⟩ : ByteArray), .int .i64 0, .int .i64 0, .int .i64 0, .int .i64 0]) ?_ 0 _ rfl; (with_reducible repeat (first | refine zkn ?_ _ | refine zkd ?_ | refine zka ?_ _)); exact BK103.out⟩
 have n2_ : Aside0 (Below w.heap.size w (((((w20.setCell ⟨gb103, 0, none⟩ (.string ((zab l1 x12_1).f0))).setCell ⟨gb103, 1, none⟩ (.int .i64 ((zab l1 x12_1).f1))).setCell ⟨gb103, 2, none⟩ (.int .i64 ((zab l1 x12_1).f2))).setCell ⟨gb103, 3, none⟩ (.int .i64 ((zab l1 x12_1).f3))).setCell ⟨gb103, 4, none⟩ (.int .i64 ((zab l1 x12_1).f4)))) := ⟨by repeat (first | (with_reducible first | exact HB.out | apply zba | apply zbn | apply zbd | refine zaa ?_ GE101.out | refine zaa ?_ GE103.out) | exact HB.out)⟩
 (try clear BK101)
 (try clear BK103)
 (try clear HB)
 generalize (((((w20.setCell ⟨gb103, 0, none⟩ (.string ((zab l1 x12_1).f0))).setCell ⟨gb103, 1, none⟩ (.int .i64 ((zab l1 x12_1).f1))).setCell ⟨gb103, 2, none⟩ (.int .i64 ((zab l1 x12_1).f2))).setCell ⟨gb103, 3, none⟩ (.int .i64 ((zab l1 x12_1).f3))).setCell ⟨gb103, 4, none⟩ (.int .i64 ((zab l1 x12_1).f4))) = w23 at n0_ n1_ n2_ ⊢
 have BK101 := n0_
 have BK103 := n1_
 have HB := n2_
 clear n0_ n1_ n2_
 have n0_ := zA (zkd BK101.out)
 have n1_ := zA (zkd BK103.out)
 have n2_ := zA (zbd HB.out)
 clear BK101
 clear BK103
 clear HB
 have BK101 := n0_
 have BK103 := n1_
 have HB := n2_
 clear n0_ n1_ n2_
 refine zkj (n := 6) (S := fun w' => w'.cell? ⟨gb101, 0, none⟩ = some (.slice A0_0 l0_0.length c0_0) ∧ w'.cell? ⟨gb101, 1, none⟩ = some (.slice A0_1 l0_1.length c0_1) ∧ w'.cell? ⟨gb103, 0, none⟩ = some (.string ((zab l1 x12_1).f0)) ∧ w'.cell? ⟨gb103, 1, none⟩ = some (.int .i64 ((zab l1 x12_1).f1)) ∧ w'.cell? ⟨gb103, 2, none⟩ = some (.int .i64 ((zab l1 x12_1).f2)) ∧ w'.cell? ⟨gb103, 3, none⟩ = some (.int .i64 ((zab l1 x12_1).f3)) ∧ w'.cell? ⟨gb103, 4, none⟩ = some (.int .i64 ((zab l1 x12_1).f4))) (ds := []) #[false, false, false, false, false, false] (by kernel_rfl) rfl rfl ⟨(zag BK101.out 0).trans rfl, (zag BK101.out 1).trans rfl, (zag BK103.out 0).trans rfl, (zag BK103.out 1).trans rfl, (zag BK103.out 2).trans rfl, (zag BK103.out 3).trans rfl, (zag BK103.out 4).trans rfl⟩ (fun hHeld => ?_)
 generalize w23.drew = w24 at BK101 BK103 HB hHeld ⊢
 refine zd8 (i := 1) (N := some 18) (v := ?_) (a' := ?_) #[false, true, false, false, false, false] rfl rfl (by kernel_rfl) (fun _ _ _ h => h) (Or.inl ⟨by rfl, ?_⟩) ?_ ?_
 rotate_left
 · intro w'
   go_simp
   with_reducible rfl
 rotate_left
 · simp only [Act.put, zla, zlb, zlc, zbl, zbr]
   rfl
 refine take_ (i := 0) (N := some 17) (v := ?_) (a' := ?_) #[true, true, false, false, false, false] rfl rfl (by kernel_rfl) (fun _ _ _ h => h) (Or.inl ⟨by rfl, ?_⟩) hHeld ?_ ?_
 rotate_left
 · rintro w' ⟨s0, s1, s2, s3, s4, s5, s6⟩
   go_simp
   with_reducible rfl
 rotate_left
 · simp only [Act.put, zla, zlb, zlc, zbl, zbr]
   rfl
 refine take_ (i := 3) (N := some 20) (v := ?_) (a' := ?_) #[true, true, false, true, false, false] rfl rfl (by kernel_rfl) (fun _ _ _ h => h) (Or.inl ⟨by rfl, ?_⟩) hHeld ?_ ?_
 rotate_left
 · rintro w' ⟨s0, s1, s2, s3, s4, s5, s6⟩
   go_simp
   with_reducible rfl
 rotate_left
 · simp only [Act.put, zla, zlb, zlc, zbl, zbr]
   rfl
 refine one_ (i := 2) (N := some 19) #[true, true, true, true, false, false] rfl rfl (by kernel_rfl) (by decide) (fun K hK => ?_)
 refine zko Try.func157 (by kernel_rfl) rfl #[.agg #[.slice A0_0 l0_0.length c0_0, .slice A0_1 l0_1.length c0_1], .int .i64 x12_1] (by rfl) rfl rfl (by first | rfl | (simp only [zld, zle, zlf, zlg, zlh] <;> rfl)) ?_
 with_reducible refine (zjd k1 _ _ l0_0 _ _ l0_1 x12_1 t104 _ ?side1 ?side2 ?side3 ?side4 A9.out).mono ?_
 (case side1 => repeat (first | exact (zCb HR0_0.out HB.out) | (with_reducible first | refine zCa ?_ _ | refine zCn ?_ _ | refine zCd ?_)))
 (case side2 => exact HC0_0.out)
 (case side3 => repeat (first | exact (zCb HR0_1.out HB.out) | (with_reducible first | refine zCa ?_ _ | refine zCn ?_ _ | refine zCd ?_)))
 (case side4 => exact HC0_1.out)
 rintro e w25 ⟨v105, rfl, ho0, hb⟩
 refine ⟨_, rfl, ?_⟩
 have n0_ := zA (Kd.R_lower (Kd.R_newB ho0 (g := gb103) (o := .cells #[.string ((zab l1 x12_1).f0), .int .i64 ((zab l1 x12_1).f1), .int .i64 ((zab l1 x12_1).f2), .int .i64 ((zab l1 x12_1).f3), .int .i64 ((zab l1 x12_1).f4)] 102 (0, 0)) (by (with_reducible repeat (first | refine zkn ?_ _ | refine zkd ?_ | refine zka ?_ _)); exact BK103.out)) (zaj (by repeat (first | (with_reducible first | exact HB.out | apply zba | apply zbn | apply zbd | refine zaa ?_ GE101.out | refine zaa ?_ GE103.out) | exact HB.out))))
 have n1_ := zA (zad (g := gb101) (o := .cells #[.slice A0_0 l0_0.length c0_0, .slice A0_1 l0_1.length c0_1] 62 (0, 0)) (by (with_reducible repeat (first | refine zkn ?_ _ | refine zkd ?_ | refine zka ?_ _)); exact BK101.out) hb)
 have n2_ := zA (zad (g := gb103) (o := .cells #[.string ((zab l1 x12_1).f0), .int .i64 ((zab l1 x12_1).f1), .int .i64 ((zab l1 x12_1).f2), .int .i64 ((zab l1 x12_1).f3), .int .i64 ((zab l1 x12_1).f4)] 102 (0, 0)) (by (with_reducible repeat (first | refine zkn ?_ _ | refine zkd ?_ | refine zka ?_ _)); exact BK103.out) hb)
 have n3_ := zA (zai (by repeat (first | (with_reducible first | exact HB.out | apply zba | apply zbn | apply zbd | refine zaa ?_ GE101.out | refine zaa ?_ GE103.out) | exact HB.out)) hb)
 clear BK101
 clear BK103
 clear HB
 have HO106 := n0_
 have BK101 := n1_
 have BK103 := n2_
 have HB := n3_
 clear n0_ n1_ n2_ n3_
 (try clear hb)
 (try clear hb2)
 (try clear hk)
 (try clear hi)
 (try clear ho0)
 obtain ⟨Ao26, co26, eo26⟩ := Kd.R_slice HO106.out
 (first | subst eo26 | (injection eo26 with f1_ f2_ f3_; have f4_ := f1_.symm; have f5_ := f3_.symm; clear f1_ f2_ f3_; subst f4_; subst f5_))
 refine hK.out _ _ ⟨(zag BK101.out 0).trans rfl, (zag BK101.out 1).trans rfl, (zag BK103.out 0).trans rfl, (zag BK103.out 1).trans rfl, (zag BK103.out 2).trans rfl, (zag BK103.out 3).trans rfl, (zag BK103.out 4).trans rfl⟩ (fun hHeld => ?_)
 clear hK K
 refine zkm (a' := ?_) ?_ ?_
 rotate_left
 · show Act.put _ (some 19) _ = _
   simp only [Act.put, zla, zlb, zlc, zbl, zbr]
   rfl
 refine one_ (i := 4) (N := some 21) #[true, true, true, true, true, false] rfl rfl (by kernel_rfl) (by decide) (fun K hK => ?_)
 refine zko Try.func156 (by kernel_rfl) rfl #[.slice Ao26 t104.length co26, .agg #[.string ((zab l1 x12_1).f0), .int .i64 ((zab l1 x12_1).f1), .int .i64 ((zab l1 x12_1).f2), .int .i64 ((zab l1 x12_1).f3), .int .i64 ((zab l1 x12_1).f4)]] (by rfl) rfl rfl (by first | rfl | (simp only [zld, zle, zlf, zlg, zlh] <;> rfl)) ?_
 with_reducible refine (zjb k1 _ _ t104 ((zab l1 x12_1).f0) ((zab l1 x12_1).f1) ((zab l1 x12_1).f2) ((zab l1 x12_1).f3) ((zab l1 x12_1).f4) t107 _ ?side1 ?side2 A10.out).mono ?_
 (case side1 => repeat (first | exact (zRr HO106.out).2.2 | (with_reducible first | refine zCa ?_ _ | refine zCn ?_ _ | refine zCd ?_)))
 (case side2 => exact (zRr HO106.out).2.1)
 rintro e w27 ⟨rfl, hb⟩
 refine ⟨_, rfl, ?_⟩
 have n0_ := zA (zRb (by (with_reducible repeat (first | apply zRa | apply zRn | apply zRd)); exact HO106.out) hb)
 have n1_ := zA (zad (g := gb101) (o := .cells #[.slice A0_0 l0_0.length c0_0, .slice A0_1 l0_1.length c0_1] 62 (0, 0)) (by (with_reducible repeat (first | refine zkn ?_ _ | refine zkd ?_ | refine zka ?_ _)); exact BK101.out) hb)
 have n2_ := zA (zad (g := gb103) (o := .cells #[.string ((zab l1 x12_1).f0), .int .i64 ((zab l1 x12_1).f1), .int .i64 ((zab l1 x12_1).f2), .int .i64 ((zab l1 x12_1).f3), .int .i64 ((zab l1 x12_1).f4)] 102 (0, 0)) (by (with_reducible repeat (first | refine zkn ?_ _ | refine zkd ?_ | refine zka ?_ _)); exact BK103.out) hb)
 have n3_ := zA (zai (by repeat (first | (with_reducible first | exact HB.out | apply zba | apply zbn | apply zbd | refine zaa ?_ GE101.out | refine zaa ?_ GE103.out) | exact HB.out)) hb)
 clear HO106
 clear BK101
 clear BK103
 clear HB
 have HO106 := n0_
 have BK101 := n1_
 have BK103 := n2_
 have HB := n3_
 clear n0_ n1_ n2_ n3_
 (try clear hb)
 (try clear hb2)
 (try clear hk)
 (try clear hi)
 refine hK.out _ _ ⟨(zag BK101.out 0).trans rfl, (zag BK101.out 1).trans rfl, (zag BK103.out 0).trans rfl, (zag BK103.out 1).trans rfl, (zag BK103.out 2).trans rfl, (zag BK103.out 3).trans rfl, (zag BK103.out 4).trans rfl⟩ (fun hHeld => ?_)
 clear hK K
 refine zkm (a' := ?_) ?_ ?_
 rotate_left
 · show Act.put _ (some 21) _ = _
   simp only [Act.put, zla, zlb, zlc, zbl, zbr]
   rfl
 refine zd8 (i := 5) (N := some 22) (v := ?_) (a' := ?_) #[true, true, true, true, true, true] rfl rfl (by kernel_rfl) (fun _ _ _ h => h) (Or.inl ⟨by rfl, ?_⟩) ?_ ?_
 rotate_left
 · intro w'
   go_simp
   with_reducible rfl
 rotate_left
 · simp only [Act.put, zla, zlb, zlc, zbl, zbr]
   rfl
 refine zm5 (by kernel_rfl) ?_
 try go_wp2
 go_roundg k1
 case measure => have := HK1.out; omega
 case rel => exact ⟨(wrap64 (x12_1 + 1)), (by first | rfl | (simp; done) | (simp [*]; done)), H', ⟨by have := HK1.out; omega⟩, ⟨by (with_reducible repeat (first | refine zkn ?_ _ | refine zkd ?_ | refine zka ?_ _)); exact BK101.out⟩, ⟨by repeat (first | (with_reducible first | exact HB.out | apply zba | apply zbn | apply zbd | refine zaa ?_ GE101.out | refine zaa ?_ GE103.out) | exact HB.out)⟩⟩
def zhe (l0 : List (S102)) : Option (Int) := if (l0.length : Int) = 0 then (some 0) else (some (wrap64 (1 + (l0.length : Int))))
set_option maxHeartbeats 8000000 in
set_option maxRecDepth 100000 in
theorem zml (A0 : Option Addr) (c0 : Nat) (l0 : List (S102)) (r : Int) (w : World) (hr0 : Kd.C k102 w A0 l0.length l0) (hc0 : l0.length ≤ c0) (h : zhe l0 = some r) :
   Calls Try.prog 102 #[.slice A0 l0.length c0] w fun e w' => e = .returned (.int .i64 r) ∧ Drawn0 w w' := by
 have HR0 := zA hr0
 have HC0 := zA hc0
 clear hr0 hc0
 have H : (if (l0.length : Int) = 0 then (some 0) else (some (wrap64 (1 + (l0.length : Int))))) = some r := h
 clear h
 by_cases c2 : (l0.length : Int) = 0
 · rw [if_pos c2] at H
   have c2b0 : ((l0.length : Int) == 0) = true := beq_iff_eq.mpr c2
   have c2b1 : ((l0.length : Int) != 0) = false := bne_eq_false_iff_eq.mpr c2
   clear c2
   obtain rfl := zsi H
   go_enter Try.func102, Try.ntmps102
   go_wp2
   go_ret
   exact ⟨by first | rfl | (simp; done) | (simp [*]; done), by repeat (first | exact Drawn0.refl _ | apply Drawn0.step)⟩
 · rw [if_neg c2] at H
   have c2b0 : ((l0.length : Int) == 0) = false := beq_eq_false_iff_ne.mpr c2
   have c2b1 : ((l0.length : Int) != 0) = true := bne_iff_ne.mpr c2
   have c2b2 : ¬ (l0 = []) := fun h_ => c2 (by rw [h_]; rfl)
   obtain rfl := zsi H
   go_enter Try.func102, Try.ntmps102
   go_wp2
   go_ret
   exact ⟨by first | rfl | (simp; done) | (simp [*]; done), by repeat (first | exact Drawn0.refl _ | apply Drawn0.step)⟩
def zbi (a0 : ByteArray) (a1 : Int) (a2 : Int) : Option (Int) := if a0.toList = ([110, 111, 116] : List UInt8) then (some (Go.bits .and .i64 (wrap64 (63 - a1)) 63)) else (if a0.toList = ([110, 101, 103] : List UInt8) then (some (Go.bits .and .i64 (wrap64 (-a1)) 63)) else (if a0.toList = ([97, 100, 100] : List UInt8) then (some (Go.bits .and .i64 (wrap64 (a1 + a2)) 63)) else (if a0.toList = ([115, 117, 98] : List UInt8) then (some (Go.bits .and .i64 (wrap64 (a1 - a2)) 63)) else (if a0.toList = ([109, 117, 108] : List UInt8) then (some (Go.bits .and .i64 (wrap64 (a1 * a2)) 63)) else (if a0.toList = ([97, 110, 100] : List UInt8) then (some (Go.bits .and .i64 (Go.bits .and .i64 a1 a2) 63)) else (if a0.toList = ([111, 114] : List UInt8) then (some (Go.bits .and .i64 (Go.bits .or .i64 a1 a2) 63)) else (if a0.toList = ([120, 111, 114] : List UInt8) then (some (Go.bits .and .i64 (Go.bits .xor .i64 a1 a2) 63)) else (if a0.toList = ([115, 104, 108] : List UInt8) then (if a2 < 6 then (if 0 ≤ a2 then (some (Go.bits .and .i64 (shl .i64 a1 a2) 63)) else (none)) else (some (Go.bits .and .i64 0 63))) else (if a0.toList = ([115, 104, 114] : List UInt8) then (if a2 < 6 then (if 0 ≤ a2 then (some (Go.bits .and .i64 (shr .i64 a1 a2) 63)) else (none)) else (some (Go.bits .and .i64 0 63))) else (if a0.toList = ([108, 101, 115, 115] : List UInt8) then (if a1 < a2 then (some (Go.bits .and .i64 1 63)) else (some (Go.bits .and .i64 0 63))) else (if a0.toList = ([101, 113] : List UInt8) then (if a1 = a2 then (some (Go.bits .and .i64 1 63)) else (some (Go.bits .and .i64 0 63))) else (some (Go.bits .and .i64 0 63)))))))))))))
set_option maxHeartbeats 8000000 in
set_option maxRecDepth 100000 in
theorem zav (a0 : ByteArray) (a1 : Int) (a2 : Int) (r : Int) (w : World) (h : zbi a0 a1 a2 = some r) :
   Calls Try.prog 209 #[.string a0, .int .i64 a1, .int .i64 a2] w fun e w' => e = .returned (.int .i64 r) ∧ Drawn0 w w' := by
 have H : (if a0.toList = ([110, 111, 116] : List UInt8) then (some (Go.bits .and .i64 (wrap64 (63 - a1)) 63)) else (if a0.toList = ([110, 101, 103] : List UInt8) then (some (Go.bits .and .i64 (wrap64 (-a1)) 63)) else (if a0.toList = ([97, 100, 100] : List UInt8) then (some (Go.bits .and .i64 (wrap64 (a1 + a2)) 63)) else (if a0.toList = ([115, 117, 98] : List UInt8) then (some (Go.bits .and .i64 (wrap64 (a1 - a2)) 63)) else (if a0.toList = ([109, 117, 108] : List UInt8) then (some (Go.bits .and .i64 (wrap64 (a1 * a2)) 63)) else (if a0.toList = ([97, 110, 100] : List UInt8) then (some (Go.bits .and .i64 (Go.bits .and .i64 a1 a2) 63)) else (if a0.toList = ([111, 114] : List UInt8) then (some (Go.bits .and .i64 (Go.bits .or .i64 a1 a2) 63)) else (if a0.toList = ([120, 111, 114] : List UInt8) then (some (Go.bits .and .i64 (Go.bits .xor .i64 a1 a2) 63)) else (if a0.toList = ([115, 104, 108] : List UInt8) then (if a2 < 6 then (if 0 ≤ a2 then (some (Go.bits .and .i64 (shl .i64 a1 a2) 63)) else (none)) else (some (Go.bits .and .i64 0 63))) else (if a0.toList = ([115, 104, 114] : List UInt8) then (if a2 < 6 then (if 0 ≤ a2 then (some (Go.bits .and .i64 (shr .i64 a1 a2) 63)) else (none)) else (some (Go.bits .and .i64 0 63))) else (if a0.toList = ([108, 101, 115, 115] : List UInt8) then (if a1 < a2 then (some (Go.bits .and .i64 1 63)) else (some (Go.bits .and .i64 0 63))) else (if a0.toList = ([101, 113] : List UInt8) then (if a1 = a2 then (some (Go.bits .and .i64 1 63)) else (some (Go.bits .and .i64 0 63))) else (some (Go.bits .and .i64 0 63)))))))))))))) = some r := h
 clear h
 by_cases c4 : a0.toList = ([110, 111, 116] : List UInt8)
 · rw [if_pos c4] at H
   have c4b0 : (a0.toList == ([110, 111, 116] : List UInt8)) = true := beq_iff_eq.mpr c4
   have c4b1 : (a0.toList != ([110, 111, 116] : List UInt8)) = false := bne_eq_false_iff_eq.mpr c4
   clear c4
   obtain rfl := zsi H
   go_enter Try.func209, Try.ntmps209
   go_wp2
   go_ret
   exact ⟨by first | rfl | (simp; done) | (simp [*]; done), by repeat (first | exact Drawn0.refl _ | apply Drawn0.step)⟩
 rw [if_neg c4] at H
 have c4b0 : (a0.toList == ([110, 111, 116] : List UInt8)) = false := beq_eq_false_iff_ne.mpr c4
 have c4b1 : (a0.toList != ([110, 111, 116] : List UInt8)) = true := bne_iff_ne.mpr c4
 by_cases c5 : a0.toList = ([110, 101, 103] : List UInt8)
 · rw [if_pos c5] at H
   have c5b0 : (a0.toList == ([110, 101, 103] : List UInt8)) = true := beq_iff_eq.mpr c5
   have c5b1 : (a0.toList != ([110, 101, 103] : List UInt8)) = false := bne_eq_false_iff_eq.mpr c5
   clear c5
   obtain rfl := zsi H
   go_enter Try.func209, Try.ntmps209
   go_wp2
   go_ret
   exact ⟨by first | rfl | (simp; done) | (simp [*]; done), by repeat (first | exact Drawn0.refl _ | apply Drawn0.step)⟩
 rw [if_neg c5] at H
 have c5b0 : (a0.toList == ([110, 101, 103] : List UInt8)) = false := beq_eq_false_iff_ne.mpr c5
 have c5b1 : (a0.toList != ([110, 101, 103] : List UInt8)) = true := bne_iff_ne.mpr c5
 by_cases c6 : a0.toList = ([97, 100, 100] : List UInt8)
 · rw [if_pos c6] at H
   have c6b0 : (a0.toList == ([97, 100, 100] : List UInt8)) = true := beq_iff_eq.mpr c6
   have c6b1 : (a0.toList != ([97, 100, 100] : List UInt8)) = false := bne_eq_false_iff_eq.mpr c6
   clear c6
   obtain rfl := zsi H
   go_enter Try.func209, Try.ntmps209
   go_wp2
   go_ret
   exact ⟨by first | rfl | (simp; done) | (simp [*]; done), by repeat (first | exact Drawn0.refl _ | apply Drawn0.step)⟩
 rw [if_neg c6] at H
 have c6b0 : (a0.toList == ([97, 100, 100] : List UInt8)) = false := beq_eq_false_iff_ne.mpr c6
 have c6b1 : (a0.toList != ([97, 100, 100] : List UInt8)) = true := bne_iff_ne.mpr c6
 by_cases c7 : a0.toList = ([115, 117, 98] : List UInt8)
 · rw [if_pos c7] at H
   have c7b0 : (a0.toList == ([115, 117, 98] : List UInt8)) = true := beq_iff_eq.mpr c7
   have c7b1 : (a0.toList != ([115, 117, 98] : List UInt8)) = false := bne_eq_false_iff_eq.mpr c7
   clear c7
   obtain rfl := zsi H
   go_enter Try.func209, Try.ntmps209
   go_wp2
   go_ret
   exact ⟨by first | rfl | (simp; done) | (simp [*]; done), by repeat (first | exact Drawn0.refl _ | apply Drawn0.step)⟩
 rw [if_neg c7] at H
 have c7b0 : (a0.toList == ([115, 117, 98] : List UInt8)) = false := beq_eq_false_iff_ne.mpr c7
 have c7b1 : (a0.toList != ([115, 117, 98] : List UInt8)) = true := bne_iff_ne.mpr c7
 by_cases c8 : a0.toList = ([109, 117, 108] : List UInt8)
 · rw [if_pos c8] at H
   have c8b0 : (a0.toList == ([109, 117, 108] : List UInt8)) = true := beq_iff_eq.mpr c8
   have c8b1 : (a0.toList != ([109, 117, 108] : List UInt8)) = false := bne_eq_false_iff_eq.mpr c8
   clear c8
   obtain rfl := zsi H
   go_enter Try.func209, Try.ntmps209
   go_wp2
   go_ret
   exact ⟨by first | rfl | (simp; done) | (simp [*]; done), by repeat (first | exact Drawn0.refl _ | apply Drawn0.step)⟩
 rw [if_neg c8] at H
 have c8b0 : (a0.toList == ([109, 117, 108] : List UInt8)) = false := beq_eq_false_iff_ne.mpr c8
 have c8b1 : (a0.toList != ([109, 117, 108] : List UInt8)) = true := bne_iff_ne.mpr c8
 by_cases c9 : a0.toList = ([97, 110, 100] : List UInt8)
 · rw [if_pos c9] at H
   have c9b0 : (a0.toList == ([97, 110, 100] : List UInt8)) = true := beq_iff_eq.mpr c9
   have c9b1 : (a0.toList != ([97, 110, 100] : List UInt8)) = false := bne_eq_false_iff_eq.mpr c9
   clear c9
   obtain rfl := zsi H
   go_enter Try.func209, Try.ntmps209
   go_wp2
   go_ret
   exact ⟨by first | rfl | (simp; done) | (simp [*]; done), by repeat (first | exact Drawn0.refl _ | apply Drawn0.step)⟩
 rw [if_neg c9] at H
 have c9b0 : (a0.toList == ([97, 110, 100] : List UInt8)) = false := beq_eq_false_iff_ne.mpr c9
 have c9b1 : (a0.toList != ([97, 110, 100] : List UInt8)) = true := bne_iff_ne.mpr c9
 by_cases c10 : a0.toList = ([111, 114] : List UInt8)
 · rw [if_pos c10] at H
   have c10b0 : (a0.toList == ([111, 114] : List UInt8)) = true := beq_iff_eq.mpr c10
   have c10b1 : (a0.toList != ([111, 114] : List UInt8)) = false := bne_eq_false_iff_eq.mpr c10
   clear c10
   obtain rfl := zsi H
   go_enter Try.func209, Try.ntmps209
   go_wp2
   go_ret
   exact ⟨by first | rfl | (simp; done) | (simp [*]; done), by repeat (first | exact Drawn0.refl _ | apply Drawn0.step)⟩
 rw [if_neg c10] at H
 have c10b0 : (a0.toList == ([111, 114] : List UInt8)) = false := beq_eq_false_iff_ne.mpr c10
 have c10b1 : (a0.toList != ([111, 114] : List UInt8)) = true := bne_iff_ne.mpr c10
 by_cases c11 : a0.toList = ([120, 111, 114] : List UInt8)
 · rw [if_pos c11] at H
   have c11b0 : (a0.toList == ([120, 111, 114] : List UInt8)) = true := beq_iff_eq.mpr c11
   have c11b1 : (a0.toList != ([120, 111, 114] : List UInt8)) = false := bne_eq_false_iff_eq.mpr c11
   clear c11
   obtain rfl := zsi H
   go_enter Try.func209, Try.ntmps209
   go_wp2
   go_ret
   exact ⟨by first | rfl | (simp; done) | (simp [*]; done), by repeat (first | exact Drawn0.refl _ | apply Drawn0.step)⟩
 rw [if_neg c11] at H
 have c11b0 : (a0.toList == ([120, 111, 114] : List UInt8)) = false := beq_eq_false_iff_ne.mpr c11
 have c11b1 : (a0.toList != ([120, 111, 114] : List UInt8)) = true := bne_iff_ne.mpr c11
 by_cases c12 : a0.toList = ([115, 104, 108] : List UInt8)
 · rw [if_pos c12] at H
   have c12b0 : (a0.toList == ([115, 104, 108] : List UInt8)) = true := beq_iff_eq.mpr c12
   have c12b1 : (a0.toList != ([115, 104, 108] : List UInt8)) = false := bne_eq_false_iff_eq.mpr c12
   clear c12
   by_cases c13 : a2 < 6
   rotate_left
   · rw [if_neg c13] at H
     have c13b0 : decide (a2 < 6) = false := zdf c13
     clear c13
     obtain rfl := zsi H
     go_enter Try.func209, Try.ntmps209
     go_wp2
     go_ret
     exact ⟨by first | rfl | (simp; done) | (simp [*]; done), by repeat (first | exact Drawn0.refl _ | apply Drawn0.step)⟩
   rw [if_pos c13] at H
   have c13b0 : decide (a2 < 6) = true := zdt c13
   clear c13
   by_cases c14 : 0 ≤ a2
   rotate_left
   · rw [if_neg c14] at H
     exact absurd H (by simp)
   rw [if_pos c14] at H
   have c14b0 := eq_true c14
   have c14b1 : decide (0 ≤ a2) = true := zdt c14
   clear c14
   obtain ⟨ji15, hji15⟩ : ∃ j_ : Int, (shl .i64 a1 a2) = j_ := ⟨_, rfl⟩
   replace H : (some (Go.bits .and .i64 (ji15) 63)) = some r := by first | (rw [hji15] at H; exact H) | (simp only [hji15] at H ⊢; exact H)
   have hji15_ : (IntKind.i64.wrap (a1 * 2 ^ min a2.toNat 64)) = ji15 := hji15
   have hji15z : a2 ≤ 64 → (IntKind.i64.wrap (a1 * 2 ^ a2.toNat)) = ji15 := zpd hji15
   have hji15y : (wrap64 (a1 * 2 ^ min a2.toNat 64)) = ji15 := (zbl _).symm.trans hji15_
   have hji15x : a2 ≤ 64 → (wrap64 (a1 * 2 ^ a2.toNat)) = ji15 := fun h_ => (zbl _).symm.trans (hji15z h_)
   obtain rfl := zsi H
   go_enter Try.func209, Try.ntmps209
   go_wp2
   go_ret
   exact ⟨by first | rfl | (simp; done) | (simp only [← hji15] <;> (first | rfl | simp)) | (simp [*]; done), by repeat (first | exact Drawn0.refl _ | apply Drawn0.step)⟩
 rw [if_neg c12] at H
 have c12b0 : (a0.toList == ([115, 104, 108] : List UInt8)) = false := beq_eq_false_iff_ne.mpr c12
 have c12b1 : (a0.toList != ([115, 104, 108] : List UInt8)) = true := bne_iff_ne.mpr c12
 by_cases c16 : a0.toList = ([115, 104, 114] : List UInt8)
 · rw [if_pos c16] at H
   have c16b0 : (a0.toList == ([115, 104, 114] : List UInt8)) = true := beq_iff_eq.mpr c16
   have c16b1 : (a0.toList != ([115, 104, 114] : List UInt8)) = false := bne_eq_false_iff_eq.mpr c16
   clear c16
   by_cases c17 : a2 < 6
   rotate_left
   · rw [if_neg c17] at H
     have c17b0 : decide (a2 < 6) = false := zdf c17
     clear c17
     obtain rfl := zsi H
     go_enter Try.func209, Try.ntmps209
     go_wp2
     go_ret
     exact ⟨by first | rfl | (simp; done) | (simp [*]; done), by repeat (first | exact Drawn0.refl _ | apply Drawn0.step)⟩
   rw [if_pos c17] at H
   have c17b0 : decide (a2 < 6) = true := zdt c17
   clear c17
   by_cases c18 : 0 ≤ a2
   rotate_left
   · rw [if_neg c18] at H
     exact absurd H (by simp)
   rw [if_pos c18] at H
   have c18b0 := eq_true c18
   have c18b1 : decide (0 ≤ a2) = true := zdt c18
   clear c18
   obtain ⟨ji19, hji19⟩ : ∃ j_ : Int, (shr .i64 a1 a2) = j_ := ⟨_, rfl⟩
   replace H : (some (Go.bits .and .i64 (ji19) 63)) = some r := by first | (rw [hji19] at H; exact H) | (simp only [hji19] at H ⊢; exact H)
   have hji19_ : (a1 / 2 ^ min a2.toNat 64) = ji19 := hji19
   have hji19z : a2 ≤ 64 → (a1 / 2 ^ a2.toNat) = ji19 := zpe hji19
   obtain rfl := zsi H
   go_enter Try.func209, Try.ntmps209
   go_wp2
   go_ret
   exact ⟨by first | rfl | (simp; done) | (simp only [← hji19] <;> (first | rfl | simp)) | (simp [*]; done), by repeat (first | exact Drawn0.refl _ | apply Drawn0.step)⟩
 rw [if_neg c16] at H
 have c16b0 : (a0.toList == ([115, 104, 114] : List UInt8)) = false := beq_eq_false_iff_ne.mpr c16
 have c16b1 : (a0.toList != ([115, 104, 114] : List UInt8)) = true := bne_iff_ne.mpr c16
 by_cases c20 : a0.toList = ([108, 101, 115, 115] : List UInt8)
 · rw [if_pos c20] at H
   have c20b0 : (a0.toList == ([108, 101, 115, 115] : List UInt8)) = true := beq_iff_eq.mpr c20
   have c20b1 : (a0.toList != ([108, 101, 115, 115] : List UInt8)) = false := bne_eq_false_iff_eq.mpr c20
   clear c20
   by_cases c21 : a1 < a2
   · rw [if_pos c21] at H
     have c21b0 : decide (a1 < a2) = true := zdt c21
     clear c21
     obtain rfl := zsi H
     go_enter Try.func209, Try.ntmps209
     go_wp2
     go_ret
     exact ⟨by first | rfl | (simp; done) | (simp [*]; done), by repeat (first | exact Drawn0.refl _ | apply Drawn0.step)⟩
   rw [if_neg c21] at H
   have c21b0 : decide (a1 < a2) = false := zdf c21
   clear c21
   obtain rfl := zsi H
   go_enter Try.func209, Try.ntmps209
   go_wp2
   go_ret
   exact ⟨by first | rfl | (simp; done) | (simp [*]; done), by repeat (first | exact Drawn0.refl _ | apply Drawn0.step)⟩
 rw [if_neg c20] at H
 have c20b0 : (a0.toList == ([108, 101, 115, 115] : List UInt8)) = false := beq_eq_false_iff_ne.mpr c20
 have c20b1 : (a0.toList != ([108, 101, 115, 115] : List UInt8)) = true := bne_iff_ne.mpr c20
 by_cases c22 : a0.toList = ([101, 113] : List UInt8)
 rotate_left
 · rw [if_neg c22] at H
   have c22b0 : (a0.toList == ([101, 113] : List UInt8)) = false := beq_eq_false_iff_ne.mpr c22
   have c22b1 : (a0.toList != ([101, 113] : List UInt8)) = true := bne_iff_ne.mpr c22
   obtain rfl := zsi H
   go_enter Try.func209, Try.ntmps209
   go_wp2
   go_ret
   exact ⟨by first | rfl | (simp; done) | (simp [*]; done), by repeat (first | exact Drawn0.refl _ | apply Drawn0.step)⟩
 rw [if_pos c22] at H
 have c22b0 : (a0.toList == ([101, 113] : List UInt8)) = true := beq_iff_eq.mpr c22
 have c22b1 : (a0.toList != ([101, 113] : List UInt8)) = false := bne_eq_false_iff_eq.mpr c22
 clear c22
 by_cases c23 : a1 = a2
 rotate_left
 · rw [if_neg c23] at H
   have c23b0 : (a1 == a2) = false := beq_eq_false_iff_ne.mpr c23
   have c23b1 : (a1 != a2) = true := bne_iff_ne.mpr c23
   obtain rfl := zsi H
   go_enter Try.func209, Try.ntmps209
   go_wp2
   go_ret
   exact ⟨by first | rfl | (simp; done) | (simp [*]; done), by repeat (first | exact Drawn0.refl _ | apply Drawn0.step)⟩
 rw [if_pos c23] at H
 have c23b0 : (a1 == a2) = true := beq_iff_eq.mpr c23
 have c23b1 : (a1 != a2) = false := bne_eq_false_iff_eq.mpr c23
 clear c23
 obtain rfl := zsi H
 go_enter Try.func209, Try.ntmps209
 go_wp2
 go_ret
 exact ⟨by first | rfl | (simp; done) | (simp [*]; done), by repeat (first | exact Drawn0.refl _ | apply Drawn0.step)⟩
def zes (a0_0 : ByteArray) (a0_1 : Int) (a0_2 : Int) (a0_3 : Int) (a0_4 : Int) (l1 : List Int) : Option (Int) := if 0 ≤ a0_2 then (if a0_2 < (l1.length : Int) then (if 0 ≤ a0_3 then (if a0_3 < (l1.length : Int) then (if a0_0.toList = ([115, 101, 116] : List UInt8) then (some a0_4) else (if a0_0.toList = ([109, 111, 118] : List UInt8) then (some (rd l1 a0_2)) else (if a0_0.toList = ([97, 100, 100, 105] : List UInt8) then ((zbi (⟨#[97, 100, 100]⟩ : ByteArray) (rd l1 a0_2) a0_4).bind fun t104 => (some t104)) else (if a0_0.toList = ([97, 110, 100, 105] : List UInt8) then ((zbi (⟨#[97, 110, 100]⟩ : ByteArray) (rd l1 a0_2) a0_4).bind fun t105 => (some t105)) else (if a0_0.toList = ([120, 111, 114, 105] : List UInt8) then ((zbi (⟨#[120, 111, 114]⟩ : ByteArray) (rd l1 a0_2) a0_4).bind fun t106 => (some t106)) else (if a0_0.toList = ([115, 104, 108, 105] : List UInt8) then ((zbi (⟨#[115, 104, 108]⟩ : ByteArray) (rd l1 a0_2) a0_4).bind fun t107 => (some t107)) else (if a0_0.toList = ([115, 104, 114, 105] : List UInt8) then ((zbi (⟨#[115, 104, 114]⟩ : ByteArray) (rd l1 a0_2) a0_4).bind fun t108 => (some t108)) else (if a0_0.toList = ([108, 101, 97] : List UInt8) then ((zbi (⟨#[115, 104, 108]⟩ : ByteArray) (rd l1 a0_3) a0_4).bind fun t109 => ((zbi (⟨#[97, 100, 100]⟩ : ByteArray) (rd l1 a0_2) t109).bind fun t110 => (some t110))) else ((zbi a0_0 (rd l1 a0_2) (rd l1 a0_3)).bind fun t111 => (some t111)))))))))) else (none)) else (none)) else (none)) else (none)
set_option maxHeartbeats 8000000 in
set_option maxRecDepth 100000 in
theorem zly (a0_0 : ByteArray) (a0_1 : Int) (a0_2 : Int) (a0_3 : Int) (a0_4 : Int) (A1 : Option Addr) (c1 : Nat) (l1 : List Int) (r : Int) (w : World) (hr1 : Kd.C (Kd.int .i64) w A1 l1.length l1) (hc1 : l1.length ≤ c1) (h : zes a0_0 a0_1 a0_2 a0_3 a0_4 l1 = some r) :
   Calls Try.prog 224 #[.agg #[.string a0_0, .int .i64 a0_1, .int .i64 a0_2, .int .i64 a0_3, .int .i64 a0_4], .slice A1 l1.length c1] w fun e w' => e = .returned (.int .i64 r) ∧ Below w.heap.size w w' := by
 have hu102 := Try.underlying102
 have HR1 := zA hr1
 have HC1 := zA hc1
 clear hr1 hc1
 have HB := zA (Below.refl w.heap.size w)
 have H : (if 0 ≤ a0_2 then (if a0_2 < (l1.length : Int) then (if 0 ≤ a0_3 then (if a0_3 < (l1.length : Int) then (if a0_0.toList = ([115, 101, 116] : List UInt8) then (some a0_4) else (if a0_0.toList = ([109, 111, 118] : List UInt8) then (some (rd l1 a0_2)) else (if a0_0.toList = ([97, 100, 100, 105] : List UInt8) then ((zbi (⟨#[97, 100, 100]⟩ : ByteArray) (rd l1 a0_2) a0_4).bind fun t104 => (some t104)) else (if a0_0.toList = ([97, 110, 100, 105] : List UInt8) then ((zbi (⟨#[97, 110, 100]⟩ : ByteArray) (rd l1 a0_2) a0_4).bind fun t105 => (some t105)) else (if a0_0.toList = ([120, 111, 114, 105] : List UInt8) then ((zbi (⟨#[120, 111, 114]⟩ : ByteArray) (rd l1 a0_2) a0_4).bind fun t106 => (some t106)) else (if a0_0.toList = ([115, 104, 108, 105] : List UInt8) then ((zbi (⟨#[115, 104, 108]⟩ : ByteArray) (rd l1 a0_2) a0_4).bind fun t107 => (some t107)) else (if a0_0.toList = ([115, 104, 114, 105] : List UInt8) then ((zbi (⟨#[115, 104, 114]⟩ : ByteArray) (rd l1 a0_2) a0_4).bind fun t108 => (some t108)) else (if a0_0.toList = ([108, 101, 97] : List UInt8) then ((zbi (⟨#[115, 104, 108]⟩ : ByteArray) (rd l1 a0_3) a0_4).bind fun t109 => ((zbi (⟨#[97, 100, 100]⟩ : ByteArray) (rd l1 a0_2) t109).bind fun t110 => (some t110))) else ((zbi a0_0 (rd l1 a0_2) (rd l1 a0_3)).bind fun t111 => (some t111)))))))))) else (none)) else (none)) else (none)) else (none)) = some r := h
 clear h
 by_cases c3 : 0 ≤ a0_2
 rotate_left
 · rw [if_neg c3] at H
   exact absurd H (by simp)
 rw [if_pos c3] at H
 have c3b0 : decide (0 ≤ a0_2) = true := zdt c3
 clear c3
 by_cases c4 : a0_2 < (l1.length : Int)
 rotate_left
 · rw [if_neg c4] at H
   exact absurd H (by simp)
 rw [if_pos c4] at H
 have c4b0 : decide (a0_2 < (l1.length : Int)) = true := zdt c4
 clear c4
 by_cases c5 : 0 ≤ a0_3
 rotate_left
 · rw [if_neg c5] at H
   exact absurd H (by simp)
 rw [if_pos c5] at H
 have c5b0 : decide (0 ≤ a0_3) = true := zdt c5
 clear c5
 by_cases c6 : a0_3 < (l1.length : Int)
 rotate_left
 · rw [if_neg c6] at H
   exact absurd H (by simp)
 rw [if_pos c6] at H
 have c6b0 : decide (a0_3 < (l1.length : Int)) = true := zdt c6
 clear c6
 by_cases c7 : a0_0.toList = ([115, 101, 116] : List UInt8)
 · rw [if_pos c7] at H
   have c7b0 : (a0_0.toList == ([115, 101, 116] : List UInt8)) = true := beq_iff_eq.mpr c7
   have c7b1 : (a0_0.toList != ([115, 101, 116] : List UInt8)) = false := bne_eq_false_iff_eq.mpr c7
   clear c7
   obtain rfl := zsi H
   go_enter Try.func224, Try.ntmps224
   go_wp2_with (first | ((with_reducible refine zam (N := 2) rfl ?_); refine zak ?hg (N := 2) ?hd (cs := #[.string a0_0, .int .i64 a0_1, .int .i64 a0_2, .int .i64 a0_3, .int .i64 a0_4]) (t := 102) ?hr ?_; (case hd => rfl); (case hg => rfl); (case hr => go_simp <;> rfl); intro gb101 hg w8 hbox hb; have zs := zpair (by repeat (first | (with_reducible first | exact HB.out | apply zba | apply zbn | apply zbd) | exact HB.out)) hb; have n0_ := zA (zs.1); have n1_ := zA (hbox); have n2_ := zA ((by rw [hg]; exact zs.2 : w.heap.size ≤ gb101)); have n3_ := n2_; clear HB; have HB := n0_; have BK101 := n1_; have GW101 := n2_; have GE101 := n3_; clear n0_ n1_ n2_ n3_; clear zs hb hbox hg; obtain ⟨hcz9_0, hcz9_1, hcz9_2, hcz9_3, hcz9_4⟩ := zc5 w8 (.string a0_0) (.int .i64 a0_1) (.int .i64 a0_2) (.int .i64 a0_3) (.int .i64 a0_4) BK101.out; obtain ⟨hfz9_0, hfz9_1, hfz9_2, hfz9_3, hfz9_4⟩ := zf5 BK101.out; have p102 : 0 ≤ (a0_2 : Int) := zde (by assumption); have q102 : a0_2 < (l1.length : Int) := zde (by assumption); obtain ⟨ad102, e102, hx102_0⟩ := Kd.at_int HR1.out a0_2 p102 q102; cases e102; replace hx102_0 := zkep HB.out hx102_0; replace p102 := eq_true p102; replace q102 := eq_true q102; have p103 : 0 ≤ (a0_3 : Int) := zde (by assumption); have q103 : a0_3 < (l1.length : Int) := zde (by assumption); obtain ⟨ad103, e103, hx103_0⟩ := Kd.at_int HR1.out a0_3 p103 q103; obtain rfl : ad102 = ad103 := (by injection e103); replace hx103_0 := zkep HB.out hx103_0; replace p103 := eq_true p103; replace q103 := eq_true q103))
   repeat (go_quiet (first | ((with_reducible refine zam (N := 2) rfl ?_); refine zak ?hg (N := 2) ?hd (cs := #[.string a0_0, .int .i64 a0_1, .int .i64 a0_2, .int .i64 a0_3, .int .i64 a0_4]) (t := 102) ?hr ?_; (case hd => rfl); (case hg => rfl); (case hr => go_simp <;> rfl); intro gb101 hg w8 hbox hb; have zs := zpair (by repeat (first | (with_reducible first | exact HB.out | apply zba | apply zbn | apply zbd) | exact HB.out)) hb; have n0_ := zA (zs.1); have n1_ := zA (hbox); have n2_ := zA ((by rw [hg]; exact zs.2 : w.heap.size ≤ gb101)); have n3_ := n2_; clear HB; have HB := n0_; have BK101 := n1_; have GW101 := n2_; have GE101 := n3_; clear n0_ n1_ n2_ n3_; clear zs hb hbox hg; obtain ⟨hcz9_0, hcz9_1, hcz9_2, hcz9_3, hcz9_4⟩ := zc5 w8 (.string a0_0) (.int .i64 a0_1) (.int .i64 a0_2) (.int .i64 a0_3) (.int .i64 a0_4) BK101.out; obtain ⟨hfz9_0, hfz9_1, hfz9_2, hfz9_3, hfz9_4⟩ := zf5 BK101.out; have p102 : 0 ≤ (a0_2 : Int) := zde (by assumption); have q102 : a0_2 < (l1.length : Int) := zde (by assumption); obtain ⟨ad102, e102, hx102_0⟩ := Kd.at_int HR1.out a0_2 p102 q102; cases e102; replace hx102_0 := zkep HB.out hx102_0; replace p102 := eq_true p102; replace q102 := eq_true q102; have p103 : 0 ≤ (a0_3 : Int) := zde (by assumption); have q103 : a0_3 < (l1.length : Int) := zde (by assumption); obtain ⟨ad103, e103, hx103_0⟩ := Kd.at_int HR1.out a0_3 p103 q103; obtain rfl : ad102 = ad103 := (by injection e103); replace hx103_0 := zkep HB.out hx103_0; replace p103 := eq_true p103; replace q103 := eq_true q103)); try go_wp2_with (first | ((with_reducible refine zam (N := 2) rfl ?_); refine zak ?hg (N := 2) ?hd (cs := #[.string a0_0, .int .i64 a0_1, .int .i64 a0_2, .int .i64 a0_3, .int .i64 a0_4]) (t := 102) ?hr ?_; (case hd => rfl); (case hg => rfl); (case hr => go_simp <;> rfl); intro gb101 hg w8 hbox hb; have zs := zpair (by repeat (first | (with_reducible first | exact HB.out | apply zba | apply zbn | apply zbd) | exact HB.out)) hb; have n0_ := zA (zs.1); have n1_ := zA (hbox); have n2_ := zA ((by rw [hg]; exact zs.2 : w.heap.size ≤ gb101)); have n3_ := n2_; clear HB; have HB := n0_; have BK101 := n1_; have GW101 := n2_; have GE101 := n3_; clear n0_ n1_ n2_ n3_; clear zs hb hbox hg; obtain ⟨hcz9_0, hcz9_1, hcz9_2, hcz9_3, hcz9_4⟩ := zc5 w8 (.string a0_0) (.int .i64 a0_1) (.int .i64 a0_2) (.int .i64 a0_3) (.int .i64 a0_4) BK101.out; obtain ⟨hfz9_0, hfz9_1, hfz9_2, hfz9_3, hfz9_4⟩ := zf5 BK101.out; have p102 : 0 ≤ (a0_2 : Int) := zde (by assumption); have q102 : a0_2 < (l1.length : Int) := zde (by assumption); obtain ⟨ad102, e102, hx102_0⟩ := Kd.at_int HR1.out a0_2 p102 q102; cases e102; replace hx102_0 := zkep HB.out hx102_0; replace p102 := eq_true p102; replace q102 := eq_true q102; have p103 : 0 ≤ (a0_3 : Int) := zde (by assumption); have q103 : a0_3 < (l1.length : Int) := zde (by assumption); obtain ⟨ad103, e103, hx103_0⟩ := Kd.at_int HR1.out a0_3 p103 q103; obtain rfl : ad102 = ad103 := (by injection e103); replace hx103_0 := zkep HB.out hx103_0; replace p103 := eq_true p103; replace q103 := eq_true q103)))
   go_ret
   exact ⟨by first | rfl | (simp <;> rfl) | (simp [*] <;> rfl), by repeat (first | (with_reducible first | exact HB.out | apply zba | apply zbn | apply zbd | refine zaa ?_ GE101.out) | exact HB.out)⟩
 rw [if_neg c7] at H
 have c7b0 : (a0_0.toList == ([115, 101, 116] : List UInt8)) = false := beq_eq_false_iff_ne.mpr c7
 have c7b1 : (a0_0.toList != ([115, 101, 116] : List UInt8)) = true := bne_iff_ne.mpr c7
 by_cases c10 : a0_0.toList = ([109, 111, 118] : List UInt8)
 · rw [if_pos c10] at H
   have c10b0 : (a0_0.toList == ([109, 111, 118] : List UInt8)) = true := beq_iff_eq.mpr c10
   have c10b1 : (a0_0.toList != ([109, 111, 118] : List UInt8)) = false := bne_eq_false_iff_eq.mpr c10
   clear c10
   obtain rfl := zsi H
   go_enter Try.func224, Try.ntmps224
   go_wp2_with (first | ((with_reducible refine zam (N := 2) rfl ?_); refine zak ?hg (N := 2) ?hd (cs := #[.string a0_0, .int .i64 a0_1, .int .i64 a0_2, .int .i64 a0_3, .int .i64 a0_4]) (t := 102) ?hr ?_; (case hd => rfl); (case hg => rfl); (case hr => go_simp <;> rfl); intro gb101 hg w11 hbox hb; have zs := zpair (by repeat (first | (with_reducible first | exact HB.out | apply zba | apply zbn | apply zbd) | exact HB.out)) hb; have n0_ := zA (zs.1); have n1_ := zA (hbox); have n2_ := zA ((by rw [hg]; exact zs.2 : w.heap.size ≤ gb101)); have n3_ := n2_; clear HB; have HB := n0_; have BK101 := n1_; have GW101 := n2_; have GE101 := n3_; clear n0_ n1_ n2_ n3_; clear zs hb hbox hg; obtain ⟨hcz12_0, hcz12_1, hcz12_2, hcz12_3, hcz12_4⟩ := zc5 w11 (.string a0_0) (.int .i64 a0_1) (.int .i64 a0_2) (.int .i64 a0_3) (.int .i64 a0_4) BK101.out; obtain ⟨hfz12_0, hfz12_1, hfz12_2, hfz12_3, hfz12_4⟩ := zf5 BK101.out; have p102 : 0 ≤ (a0_2 : Int) := zde (by assumption); have q102 : a0_2 < (l1.length : Int) := zde (by assumption); obtain ⟨ad102, e102, hx102_0⟩ := Kd.at_int HR1.out a0_2 p102 q102; cases e102; replace hx102_0 := zkep HB.out hx102_0; replace p102 := eq_true p102; replace q102 := eq_true q102; have p103 : 0 ≤ (a0_3 : Int) := zde (by assumption); have q103 : a0_3 < (l1.length : Int) := zde (by assumption); obtain ⟨ad103, e103, hx103_0⟩ := Kd.at_int HR1.out a0_3 p103 q103; obtain rfl : ad102 = ad103 := (by injection e103); replace hx103_0 := zkep HB.out hx103_0; replace p103 := eq_true p103; replace q103 := eq_true q103))
   repeat (go_quiet (first | ((with_reducible refine zam (N := 2) rfl ?_); refine zak ?hg (N := 2) ?hd (cs := #[.string a0_0, .int .i64 a0_1, .int .i64 a0_2, .int .i64 a0_3, .int .i64 a0_4]) (t := 102) ?hr ?_; (case hd => rfl); (case hg => rfl); (case hr => go_simp <;> rfl); intro gb101 hg w11 hbox hb; have zs := zpair (by repeat (first | (with_reducible first | exact HB.out | apply zba | apply zbn | apply zbd) | exact HB.out)) hb; have n0_ := zA (zs.1); have n1_ := zA (hbox); have n2_ := zA ((by rw [hg]; exact zs.2 : w.heap.size ≤ gb101)); have n3_ := n2_; clear HB; have HB := n0_; have BK101 := n1_; have GW101 := n2_; have GE101 := n3_; clear n0_ n1_ n2_ n3_; clear zs hb hbox hg; obtain ⟨hcz12_0, hcz12_1, hcz12_2, hcz12_3, hcz12_4⟩ := zc5 w11 (.string a0_0) (.int .i64 a0_1) (.int .i64 a0_2) (.int .i64 a0_3) (.int .i64 a0_4) BK101.out; obtain ⟨hfz12_0, hfz12_1, hfz12_2, hfz12_3, hfz12_4⟩ := zf5 BK101.out; have p102 : 0 ≤ (a0_2 : Int) := zde (by assumption); have q102 : a0_2 < (l1.length : Int) := zde (by assumption); obtain ⟨ad102, e102, hx102_0⟩ := Kd.at_int HR1.out a0_2 p102 q102; cases e102; replace hx102_0 := zkep HB.out hx102_0; replace p102 := eq_true p102; replace q102 := eq_true q102; have p103 : 0 ≤ (a0_3 : Int) := zde (by assumption); have q103 : a0_3 < (l1.length : Int) := zde (by assumption); obtain ⟨ad103, e103, hx103_0⟩ := Kd.at_int HR1.out a0_3 p103 q103; obtain rfl : ad102 = ad103 := (by injection e103); replace hx103_0 := zkep HB.out hx103_0; replace p103 := eq_true p103; replace q103 := eq_true q103)); try go_wp2_with (first | ((with_reducible refine zam (N := 2) rfl ?_); refine zak ?hg (N := 2) ?hd (cs := #[.string a0_0, .int .i64 a0_1, .int .i64 a0_2, .int .i64 a0_3, .int .i64 a0_4]) (t := 102) ?hr ?_; (case hd => rfl); (case hg => rfl); (case hr => go_simp <;> rfl); intro gb101 hg w11 hbox hb; have zs := zpair (by repeat (first | (with_reducible first | exact HB.out | apply zba | apply zbn | apply zbd) | exact HB.out)) hb; have n0_ := zA (zs.1); have n1_ := zA (hbox); have n2_ := zA ((by rw [hg]; exact zs.2 : w.heap.size ≤ gb101)); have n3_ := n2_; clear HB; have HB := n0_; have BK101 := n1_; have GW101 := n2_; have GE101 := n3_; clear n0_ n1_ n2_ n3_; clear zs hb hbox hg; obtain ⟨hcz12_0, hcz12_1, hcz12_2, hcz12_3, hcz12_4⟩ := zc5 w11 (.string a0_0) (.int .i64 a0_1) (.int .i64 a0_2) (.int .i64 a0_3) (.int .i64 a0_4) BK101.out; obtain ⟨hfz12_0, hfz12_1, hfz12_2, hfz12_3, hfz12_4⟩ := zf5 BK101.out; have p102 : 0 ≤ (a0_2 : Int) := zde (by assumption); have q102 : a0_2 < (l1.length : Int) := zde (by assumption); obtain ⟨ad102, e102, hx102_0⟩ := Kd.at_int HR1.out a0_2 p102 q102; cases e102; replace hx102_0 := zkep HB.out hx102_0; replace p102 := eq_true p102; replace q102 := eq_true q102; have p103 : 0 ≤ (a0_3 : Int) := zde (by assumption); have q103 : a0_3 < (l1.length : Int) := zde (by assumption); obtain ⟨ad103, e103, hx103_0⟩ := Kd.at_int HR1.out a0_3 p103 q103; obtain rfl : ad102 = ad103 := (by injection e103); replace hx103_0 := zkep HB.out hx103_0; replace p103 := eq_true p103; replace q103 := eq_true q103)))
   go_ret
   exact ⟨by first | rfl | (simp <;> rfl) | (simp [*] <;> rfl), by repeat (first | (with_reducible first | exact HB.out | apply zba | apply zbn | apply zbd | refine zaa ?_ GE101.out) | exact HB.out)⟩
 rw [if_neg c10] at H
 have c10b0 : (a0_0.toList == ([109, 111, 118] : List UInt8)) = false := beq_eq_false_iff_ne.mpr c10
 have c10b1 : (a0_0.toList != ([109, 111, 118] : List UInt8)) = true := bne_iff_ne.mpr c10
 by_cases c13 : a0_0.toList = ([97, 100, 100, 105] : List UInt8)
 · rw [if_pos c13] at H
   have c13b0 : (a0_0.toList == ([97, 100, 100, 105] : List UInt8)) = true := beq_iff_eq.mpr c13
   have c13b1 : (a0_0.toList != ([97, 100, 100, 105] : List UInt8)) = false := bne_eq_false_iff_eq.mpr c13
   clear c13
   replace H := zob H
   obtain ⟨t104, A140, H⟩ := H
   replace H : (some t104) = some r := H
   have A14 := zA A140
   clear A140
   obtain rfl := zsi H
   go_enter Try.func224, Try.ntmps224
   go_wp2_with (first | ((with_reducible refine zam (N := 2) rfl ?_); refine zak ?hg (N := 2) ?hd (cs := #[.string a0_0, .int .i64 a0_1, .int .i64 a0_2, .int .i64 a0_3, .int .i64 a0_4]) (t := 102) ?hr ?_; (case hd => rfl); (case hg => rfl); (case hr => go_simp <;> rfl); intro gb101 hg w15 hbox hb; have zs := zpair (by repeat (first | (with_reducible first | exact HB.out | apply zba | apply zbn | apply zbd) | exact HB.out)) hb; have n0_ := zA (zs.1); have n1_ := zA (hbox); have n2_ := zA ((by rw [hg]; exact zs.2 : w.heap.size ≤ gb101)); have n3_ := n2_; clear HB; have HB := n0_; have BK101 := n1_; have GW101 := n2_; have GE101 := n3_; clear n0_ n1_ n2_ n3_; clear zs hb hbox hg; obtain ⟨hcz16_0, hcz16_1, hcz16_2, hcz16_3, hcz16_4⟩ := zc5 w15 (.string a0_0) (.int .i64 a0_1) (.int .i64 a0_2) (.int .i64 a0_3) (.int .i64 a0_4) BK101.out; obtain ⟨hfz16_0, hfz16_1, hfz16_2, hfz16_3, hfz16_4⟩ := zf5 BK101.out; have p102 : 0 ≤ (a0_2 : Int) := zde (by assumption); have q102 : a0_2 < (l1.length : Int) := zde (by assumption); obtain ⟨ad102, e102, hx102_0⟩ := Kd.at_int HR1.out a0_2 p102 q102; cases e102; replace hx102_0 := zkep HB.out hx102_0; replace p102 := eq_true p102; replace q102 := eq_true q102; have p103 : 0 ≤ (a0_3 : Int) := zde (by assumption); have q103 : a0_3 < (l1.length : Int) := zde (by assumption); obtain ⟨ad103, e103, hx103_0⟩ := Kd.at_int HR1.out a0_3 p103 q103; obtain rfl : ad102 = ad103 := (by injection e103); replace hx103_0 := zkep HB.out hx103_0; replace p103 := eq_true p103; replace q103 := eq_true q103) | (go_at_call 209; (with_reducible refine (zav (⟨#[97, 100, 100]⟩ : ByteArray) (rd l1 a0_2) a0_4 t104 _ A14.out).mono ?_); rintro e w' ⟨rfl, ⟨nd, rfl⟩⟩; (try first | exact ⟨rfl, _, World.drewN_drewN _ _ _⟩ | exact ⟨rfl, _, Eq.trans (World.drewN_drewN _ _ _) (congrArg (World.drewN _) (Nat.add_assoc _ _ _))⟩)))
   repeat (go_quiet (first | ((with_reducible refine zam (N := 2) rfl ?_); refine zak ?hg (N := 2) ?hd (cs := #[.string a0_0, .int .i64 a0_1, .int .i64 a0_2, .int .i64 a0_3, .int .i64 a0_4]) (t := 102) ?hr ?_; (case hd => rfl); (case hg => rfl); (case hr => go_simp <;> rfl); intro gb101 hg w15 hbox hb; have zs := zpair (by repeat (first | (with_reducible first | exact HB.out | apply zba | apply zbn | apply zbd) | exact HB.out)) hb; have n0_ := zA (zs.1); have n1_ := zA (hbox); have n2_ := zA ((by rw [hg]; exact zs.2 : w.heap.size ≤ gb101)); have n3_ := n2_; clear HB; have HB := n0_; have BK101 := n1_; have GW101 := n2_; have GE101 := n3_; clear n0_ n1_ n2_ n3_; clear zs hb hbox hg; obtain ⟨hcz16_0, hcz16_1, hcz16_2, hcz16_3, hcz16_4⟩ := zc5 w15 (.string a0_0) (.int .i64 a0_1) (.int .i64 a0_2) (.int .i64 a0_3) (.int .i64 a0_4) BK101.out; obtain ⟨hfz16_0, hfz16_1, hfz16_2, hfz16_3, hfz16_4⟩ := zf5 BK101.out; have p102 : 0 ≤ (a0_2 : Int) := zde (by assumption); have q102 : a0_2 < (l1.length : Int) := zde (by assumption); obtain ⟨ad102, e102, hx102_0⟩ := Kd.at_int HR1.out a0_2 p102 q102; cases e102; replace hx102_0 := zkep HB.out hx102_0; replace p102 := eq_true p102; replace q102 := eq_true q102; have p103 : 0 ≤ (a0_3 : Int) := zde (by assumption); have q103 : a0_3 < (l1.length : Int) := zde (by assumption); obtain ⟨ad103, e103, hx103_0⟩ := Kd.at_int HR1.out a0_3 p103 q103; obtain rfl : ad102 = ad103 := (by injection e103); replace hx103_0 := zkep HB.out hx103_0; replace p103 := eq_true p103; replace q103 := eq_true q103) | (go_at_call 209; (with_reducible refine (zav (⟨#[97, 100, 100]⟩ : ByteArray) (rd l1 a0_2) a0_4 t104 _ A14.out).mono ?_); rintro e w' ⟨rfl, ⟨nd, rfl⟩⟩; (try first | exact ⟨rfl, _, World.drewN_drewN _ _ _⟩ | exact ⟨rfl, _, Eq.trans (World.drewN_drewN _ _ _) (congrArg (World.drewN _) (Nat.add_assoc _ _ _))⟩))); try go_wp2_with (first | ((with_reducible refine zam (N := 2) rfl ?_); refine zak ?hg (N := 2) ?hd (cs := #[.string a0_0, .int .i64 a0_1, .int .i64 a0_2, .int .i64 a0_3, .int .i64 a0_4]) (t := 102) ?hr ?_; (case hd => rfl); (case hg => rfl); (case hr => go_simp <;> rfl); intro gb101 hg w15 hbox hb; have zs := zpair (by repeat (first | (with_reducible first | exact HB.out | apply zba | apply zbn | apply zbd) | exact HB.out)) hb; have n0_ := zA (zs.1); have n1_ := zA (hbox); have n2_ := zA ((by rw [hg]; exact zs.2 : w.heap.size ≤ gb101)); have n3_ := n2_; clear HB; have HB := n0_; have BK101 := n1_; have GW101 := n2_; have GE101 := n3_; clear n0_ n1_ n2_ n3_; clear zs hb hbox hg; obtain ⟨hcz16_0, hcz16_1, hcz16_2, hcz16_3, hcz16_4⟩ := zc5 w15 (.string a0_0) (.int .i64 a0_1) (.int .i64 a0_2) (.int .i64 a0_3) (.int .i64 a0_4) BK101.out; obtain ⟨hfz16_0, hfz16_1, hfz16_2, hfz16_3, hfz16_4⟩ := zf5 BK101.out; have p102 : 0 ≤ (a0_2 : Int) := zde (by assumption); have q102 : a0_2 < (l1.length : Int) := zde (by assumption); obtain ⟨ad102, e102, hx102_0⟩ := Kd.at_int HR1.out a0_2 p102 q102; cases e102; replace hx102_0 := zkep HB.out hx102_0; replace p102 := eq_true p102; replace q102 := eq_true q102; have p103 : 0 ≤ (a0_3 : Int) := zde (by assumption); have q103 : a0_3 < (l1.length : Int) := zde (by assumption); obtain ⟨ad103, e103, hx103_0⟩ := Kd.at_int HR1.out a0_3 p103 q103; obtain rfl : ad102 = ad103 := (by injection e103); replace hx103_0 := zkep HB.out hx103_0; replace p103 := eq_true p103; replace q103 := eq_true q103) | (go_at_call 209; (with_reducible refine (zav (⟨#[97, 100, 100]⟩ : ByteArray) (rd l1 a0_2) a0_4 t104 _ A14.out).mono ?_); rintro e w' ⟨rfl, ⟨nd, rfl⟩⟩; (try first | exact ⟨rfl, _, World.drewN_drewN _ _ _⟩ | exact ⟨rfl, _, Eq.trans (World.drewN_drewN _ _ _) (congrArg (World.drewN _) (Nat.add_assoc _ _ _))⟩))))
   go_ret
   exact ⟨by first | rfl | (simp <;> rfl) | (simp [*] <;> rfl), by repeat (first | (with_reducible first | exact HB.out | apply zba | apply zbn | apply zbd | refine zaa ?_ GE101.out) | exact HB.out)⟩
 rw [if_neg c13] at H
 have c13b0 : (a0_0.toList == ([97, 100, 100, 105] : List UInt8)) = false := beq_eq_false_iff_ne.mpr c13
 have c13b1 : (a0_0.toList != ([97, 100, 100, 105] : List UInt8)) = true := bne_iff_ne.mpr c13
 by_cases c17 : a0_0.toList = ([97, 110, 100, 105] : List UInt8)
 · rw [if_pos c17] at H
   have c17b0 : (a0_0.toList == ([97, 110, 100, 105] : List UInt8)) = true := beq_iff_eq.mpr c17
   have c17b1 : (a0_0.toList != ([97, 110, 100, 105] : List UInt8)) = false := bne_eq_false_iff_eq.mpr c17
   clear c17
   replace H := zob H
   obtain ⟨t105, A180, H⟩ := H
   replace H : (some t105) = some r := H
   have A18 := zA A180
   clear A180
   obtain rfl := zsi H
   go_enter Try.func224, Try.ntmps224
   go_wp2_with (first | ((with_reducible refine zam (N := 2) rfl ?_); refine zak ?hg (N := 2) ?hd (cs := #[.string a0_0, .int .i64 a0_1, .int .i64 a0_2, .int .i64 a0_3, .int .i64 a0_4]) (t := 102) ?hr ?_; (case hd => rfl); (case hg => rfl); (case hr => go_simp <;> rfl); intro gb101 hg w19 hbox hb; have zs := zpair (by repeat (first | (with_reducible first | exact HB.out | apply zba | apply zbn | apply zbd) | exact HB.out)) hb; have n0_ := zA (zs.1); have n1_ := zA (hbox); have n2_ := zA ((by rw [hg]; exact zs.2 : w.heap.size ≤ gb101)); have n3_ := n2_; clear HB; have HB := n0_; have BK101 := n1_; have GW101 := n2_; have GE101 := n3_; clear n0_ n1_ n2_ n3_; clear zs hb hbox hg; obtain ⟨hcz20_0, hcz20_1, hcz20_2, hcz20_3, hcz20_4⟩ := zc5 w19 (.string a0_0) (.int .i64 a0_1) (.int .i64 a0_2) (.int .i64 a0_3) (.int .i64 a0_4) BK101.out; obtain ⟨hfz20_0, hfz20_1, hfz20_2, hfz20_3, hfz20_4⟩ := zf5 BK101.out; have p102 : 0 ≤ (a0_2 : Int) := zde (by assumption); have q102 : a0_2 < (l1.length : Int) := zde (by assumption); obtain ⟨ad102, e102, hx102_0⟩ := Kd.at_int HR1.out a0_2 p102 q102; cases e102; replace hx102_0 := zkep HB.out hx102_0; replace p102 := eq_true p102; replace q102 := eq_true q102; have p103 : 0 ≤ (a0_3 : Int) := zde (by assumption); have q103 : a0_3 < (l1.length : Int) := zde (by assumption); obtain ⟨ad103, e103, hx103_0⟩ := Kd.at_int HR1.out a0_3 p103 q103; obtain rfl : ad102 = ad103 := (by injection e103); replace hx103_0 := zkep HB.out hx103_0; replace p103 := eq_true p103; replace q103 := eq_true q103) | (go_at_call 209; (with_reducible refine (zav (⟨#[97, 110, 100]⟩ : ByteArray) (rd l1 a0_2) a0_4 t105 _ A18.out).mono ?_); rintro e w' ⟨rfl, ⟨nd, rfl⟩⟩; (try first | exact ⟨rfl, _, World.drewN_drewN _ _ _⟩ | exact ⟨rfl, _, Eq.trans (World.drewN_drewN _ _ _) (congrArg (World.drewN _) (Nat.add_assoc _ _ _))⟩)))
   repeat (go_quiet (first | ((with_reducible refine zam (N := 2) rfl ?_); refine zak ?hg (N := 2) ?hd (cs := #[.string a0_0, .int .i64 a0_1, .int .i64 a0_2, .int .i64 a0_3, .int .i64 a0_4]) (t := 102) ?hr ?_; (case hd => rfl); (case hg => rfl); (case hr => go_simp <;> rfl); intro gb101 hg w19 hbox hb; have zs := zpair (by repeat (first | (with_reducible first | exact HB.out | apply zba | apply zbn | apply zbd) | exact HB.out)) hb; have n0_ := zA (zs.1); have n1_ := zA (hbox); have n2_ := zA ((by rw [hg]; exact zs.2 : w.heap.size ≤ gb101)); have n3_ := n2_; clear HB; have HB := n0_; have BK101 := n1_; have GW101 := n2_; have GE101 := n3_; clear n0_ n1_ n2_ n3_; clear zs hb hbox hg; obtain ⟨hcz20_0, hcz20_1, hcz20_2, hcz20_3, hcz20_4⟩ := zc5 w19 (.string a0_0) (.int .i64 a0_1) (.int .i64 a0_2) (.int .i64 a0_3) (.int .i64 a0_4) BK101.out; obtain ⟨hfz20_0, hfz20_1, hfz20_2, hfz20_3, hfz20_4⟩ := zf5 BK101.out; have p102 : 0 ≤ (a0_2 : Int) := zde (by assumption); have q102 : a0_2 < (l1.length : Int) := zde (by assumption); obtain ⟨ad102, e102, hx102_0⟩ := Kd.at_int HR1.out a0_2 p102 q102; cases e102; replace hx102_0 := zkep HB.out hx102_0; replace p102 := eq_true p102; replace q102 := eq_true q102; have p103 : 0 ≤ (a0_3 : Int) := zde (by assumption); have q103 : a0_3 < (l1.length : Int) := zde (by assumption); obtain ⟨ad103, e103, hx103_0⟩ := Kd.at_int HR1.out a0_3 p103 q103; obtain rfl : ad102 = ad103 := (by injection e103); replace hx103_0 := zkep HB.out hx103_0; replace p103 := eq_true p103; replace q103 := eq_true q103) | (go_at_call 209; (with_reducible refine (zav (⟨#[97, 110, 100]⟩ : ByteArray) (rd l1 a0_2) a0_4 t105 _ A18.out).mono ?_); rintro e w' ⟨rfl, ⟨nd, rfl⟩⟩; (try first | exact ⟨rfl, _, World.drewN_drewN _ _ _⟩ | exact ⟨rfl, _, Eq.trans (World.drewN_drewN _ _ _) (congrArg (World.drewN _) (Nat.add_assoc _ _ _))⟩))); try go_wp2_with (first | ((with_reducible refine zam (N := 2) rfl ?_); refine zak ?hg (N := 2) ?hd (cs := #[.string a0_0, .int .i64 a0_1, .int .i64 a0_2, .int .i64 a0_3, .int .i64 a0_4]) (t := 102) ?hr ?_; (case hd => rfl); (case hg => rfl); (case hr => go_simp <;> rfl); intro gb101 hg w19 hbox hb; have zs := zpair (by repeat (first | (with_reducible first | exact HB.out | apply zba | apply zbn | apply zbd) | exact HB.out)) hb; have n0_ := zA (zs.1); have n1_ := zA (hbox); have n2_ := zA ((by rw [hg]; exact zs.2 : w.heap.size ≤ gb101)); have n3_ := n2_; clear HB; have HB := n0_; have BK101 := n1_; have GW101 := n2_; have GE101 := n3_; clear n0_ n1_ n2_ n3_; clear zs hb hbox hg; obtain ⟨hcz20_0, hcz20_1, hcz20_2, hcz20_3, hcz20_4⟩ := zc5 w19 (.string a0_0) (.int .i64 a0_1) (.int .i64 a0_2) (.int .i64 a0_3) (.int .i64 a0_4) BK101.out; obtain ⟨hfz20_0, hfz20_1, hfz20_2, hfz20_3, hfz20_4⟩ := zf5 BK101.out; have p102 : 0 ≤ (a0_2 : Int) := zde (by assumption); have q102 : a0_2 < (l1.length : Int) := zde (by assumption); obtain ⟨ad102, e102, hx102_0⟩ := Kd.at_int HR1.out a0_2 p102 q102; cases e102; replace hx102_0 := zkep HB.out hx102_0; replace p102 := eq_true p102; replace q102 := eq_true q102; have p103 : 0 ≤ (a0_3 : Int) := zde (by assumption); have q103 : a0_3 < (l1.length : Int) := zde (by assumption); obtain ⟨ad103, e103, hx103_0⟩ := Kd.at_int HR1.out a0_3 p103 q103; obtain rfl : ad102 = ad103 := (by injection e103); replace hx103_0 := zkep HB.out hx103_0; replace p103 := eq_true p103; replace q103 := eq_true q103) | (go_at_call 209; (with_reducible refine (zav (⟨#[97, 110, 100]⟩ : ByteArray) (rd l1 a0_2) a0_4 t105 _ A18.out).mono ?_); rintro e w' ⟨rfl, ⟨nd, rfl⟩⟩; (try first | exact ⟨rfl, _, World.drewN_drewN _ _ _⟩ | exact ⟨rfl, _, Eq.trans (World.drewN_drewN _ _ _) (congrArg (World.drewN _) (Nat.add_assoc _ _ _))⟩))))
   go_ret
   exact ⟨by first | rfl | (simp <;> rfl) | (simp [*] <;> rfl), by repeat (first | (with_reducible first | exact HB.out | apply zba | apply zbn | apply zbd | refine zaa ?_ GE101.out) | exact HB.out)⟩
 rw [if_neg c17] at H
 have c17b0 : (a0_0.toList == ([97, 110, 100, 105] : List UInt8)) = false := beq_eq_false_iff_ne.mpr c17
 have c17b1 : (a0_0.toList != ([97, 110, 100, 105] : List UInt8)) = true := bne_iff_ne.mpr c17
 by_cases c21 : a0_0.toList = ([120, 111, 114, 105] : List UInt8)
 · rw [if_pos c21] at H
   have c21b0 : (a0_0.toList == ([120, 111, 114, 105] : List UInt8)) = true := beq_iff_eq.mpr c21
   have c21b1 : (a0_0.toList != ([120, 111, 114, 105] : List UInt8)) = false := bne_eq_false_iff_eq.mpr c21
   clear c21
   replace H := zob H
   obtain ⟨t106, A220, H⟩ := H
   replace H : (some t106) = some r := H
   have A22 := zA A220
   clear A220
   obtain rfl := zsi H
   go_enter Try.func224, Try.ntmps224
   go_wp2_with (first | ((with_reducible refine zam (N := 2) rfl ?_); refine zak ?hg (N := 2) ?hd (cs := #[.string a0_0, .int .i64 a0_1, .int .i64 a0_2, .int .i64 a0_3, .int .i64 a0_4]) (t := 102) ?hr ?_; (case hd => rfl); (case hg => rfl); (case hr => go_simp <;> rfl); intro gb101 hg w23 hbox hb; have zs := zpair (by repeat (first | (with_reducible first | exact HB.out | apply zba | apply zbn | apply zbd) | exact HB.out)) hb; have n0_ := zA (zs.1); have n1_ := zA (hbox); have n2_ := zA ((by rw [hg]; exact zs.2 : w.heap.size ≤ gb101)); have n3_ := n2_; clear HB; have HB := n0_; have BK101 := n1_; have GW101 := n2_; have GE101 := n3_; clear n0_ n1_ n2_ n3_; clear zs hb hbox hg; obtain ⟨hcz24_0, hcz24_1, hcz24_2, hcz24_3, hcz24_4⟩ := zc5 w23 (.string a0_0) (.int .i64 a0_1) (.int .i64 a0_2) (.int .i64 a0_3) (.int .i64 a0_4) BK101.out; obtain ⟨hfz24_0, hfz24_1, hfz24_2, hfz24_3, hfz24_4⟩ := zf5 BK101.out; have p102 : 0 ≤ (a0_2 : Int) := zde (by assumption); have q102 : a0_2 < (l1.length : Int) := zde (by assumption); obtain ⟨ad102, e102, hx102_0⟩ := Kd.at_int HR1.out a0_2 p102 q102; cases e102; replace hx102_0 := zkep HB.out hx102_0; replace p102 := eq_true p102; replace q102 := eq_true q102; have p103 : 0 ≤ (a0_3 : Int) := zde (by assumption); have q103 : a0_3 < (l1.length : Int) := zde (by assumption); obtain ⟨ad103, e103, hx103_0⟩ := Kd.at_int HR1.out a0_3 p103 q103; obtain rfl : ad102 = ad103 := (by injection e103); replace hx103_0 := zkep HB.out hx103_0; replace p103 := eq_true p103; replace q103 := eq_true q103) | (go_at_call 209; (with_reducible refine (zav (⟨#[120, 111, 114]⟩ : ByteArray) (rd l1 a0_2) a0_4 t106 _ A22.out).mono ?_); rintro e w' ⟨rfl, ⟨nd, rfl⟩⟩; (try first | exact ⟨rfl, _, World.drewN_drewN _ _ _⟩ | exact ⟨rfl, _, Eq.trans (World.drewN_drewN _ _ _) (congrArg (World.drewN _) (Nat.add_assoc _ _ _))⟩)))
   repeat (go_quiet (first | ((with_reducible refine zam (N := 2) rfl ?_); refine zak ?hg (N := 2) ?hd (cs := #[.string a0_0, .int .i64 a0_1, .int .i64 a0_2, .int .i64 a0_3, .int .i64 a0_4]) (t := 102) ?hr ?_; (case hd => rfl); (case hg => rfl); (case hr => go_simp <;> rfl); intro gb101 hg w23 hbox hb; have zs := zpair (by repeat (first | (with_reducible first | exact HB.out | apply zba | apply zbn | apply zbd) | exact HB.out)) hb; have n0_ := zA (zs.1); have n1_ := zA (hbox); have n2_ := zA ((by rw [hg]; exact zs.2 : w.heap.size ≤ gb101)); have n3_ := n2_; clear HB; have HB := n0_; have BK101 := n1_; have GW101 := n2_; have GE101 := n3_; clear n0_ n1_ n2_ n3_; clear zs hb hbox hg; obtain ⟨hcz24_0, hcz24_1, hcz24_2, hcz24_3, hcz24_4⟩ := zc5 w23 (.string a0_0) (.int .i64 a0_1) (.int .i64 a0_2) (.int .i64 a0_3) (.int .i64 a0_4) BK101.out; obtain ⟨hfz24_0, hfz24_1, hfz24_2, hfz24_3, hfz24_4⟩ := zf5 BK101.out; have p102 : 0 ≤ (a0_2 : Int) := zde (by assumption); have q102 : a0_2 < (l1.length : Int) := zde (by assumption); obtain ⟨ad102, e102, hx102_0⟩ := Kd.at_int HR1.out a0_2 p102 q102; cases e102; replace hx102_0 := zkep HB.out hx102_0; replace p102 := eq_true p102; replace q102 := eq_true q102; have p103 : 0 ≤ (a0_3 : Int) := zde (by assumption); have q103 : a0_3 < (l1.length : Int) := zde (by assumption); obtain ⟨ad103, e103, hx103_0⟩ := Kd.at_int HR1.out a0_3 p103 q103; obtain rfl : ad102 = ad103 := (by injection e103); replace hx103_0 := zkep HB.out hx103_0; replace p103 := eq_true p103; replace q103 := eq_true q103) | (go_at_call 209; (with_reducible refine (zav (⟨#[120, 111, 114]⟩ : ByteArray) (rd l1 a0_2) a0_4 t106 _ A22.out).mono ?_); rintro e w' ⟨rfl, ⟨nd, rfl⟩⟩; (try first | exact ⟨rfl, _, World.drewN_drewN _ _ _⟩ | exact ⟨rfl, _, Eq.trans (World.drewN_drewN _ _ _) (congrArg (World.drewN _) (Nat.add_assoc _ _ _))⟩))); try go_wp2_with (first | ((with_reducible refine zam (N := 2) rfl ?_); refine zak ?hg (N := 2) ?hd (cs := #[.string a0_0, .int .i64 a0_1, .int .i64 a0_2, .int .i64 a0_3, .int .i64 a0_4]) (t := 102) ?hr ?_; (case hd => rfl); (case hg => rfl); (case hr => go_simp <;> rfl); intro gb101 hg w23 hbox hb; have zs := zpair (by repeat (first | (with_reducible first | exact HB.out | apply zba | apply zbn | apply zbd) | exact HB.out)) hb; have n0_ := zA (zs.1); have n1_ := zA (hbox); have n2_ := zA ((by rw [hg]; exact zs.2 : w.heap.size ≤ gb101)); have n3_ := n2_; clear HB; have HB := n0_; have BK101 := n1_; have GW101 := n2_; have GE101 := n3_; clear n0_ n1_ n2_ n3_; clear zs hb hbox hg; obtain ⟨hcz24_0, hcz24_1, hcz24_2, hcz24_3, hcz24_4⟩ := zc5 w23 (.string a0_0) (.int .i64 a0_1) (.int .i64 a0_2) (.int .i64 a0_3) (.int .i64 a0_4) BK101.out; obtain ⟨hfz24_0, hfz24_1, hfz24_2, hfz24_3, hfz24_4⟩ := zf5 BK101.out; have p102 : 0 ≤ (a0_2 : Int) := zde (by assumption); have q102 : a0_2 < (l1.length : Int) := zde (by assumption); obtain ⟨ad102, e102, hx102_0⟩ := Kd.at_int HR1.out a0_2 p102 q102; cases e102; replace hx102_0 := zkep HB.out hx102_0; replace p102 := eq_true p102; replace q102 := eq_true q102; have p103 : 0 ≤ (a0_3 : Int) := zde (by assumption); have q103 : a0_3 < (l1.length : Int) := zde (by assumption); obtain ⟨ad103, e103, hx103_0⟩ := Kd.at_int HR1.out a0_3 p103 q103; obtain rfl : ad102 = ad103 := (by injection e103); replace hx103_0 := zkep HB.out hx103_0; replace p103 := eq_true p103; replace q103 := eq_true q103) | (go_at_call 209; (with_reducible refine (zav (⟨#[120, 111, 114]⟩ : ByteArray) (rd l1 a0_2) a0_4 t106 _ A22.out).mono ?_); rintro e w' ⟨rfl, ⟨nd, rfl⟩⟩; (try first | exact ⟨rfl, _, World.drewN_drewN _ _ _⟩ | exact ⟨rfl, _, Eq.trans (World.drewN_drewN _ _ _) (congrArg (World.drewN _) (Nat.add_assoc _ _ _))⟩))))
   go_ret
   exact ⟨by first | rfl | (simp <;> rfl) | (simp [*] <;> rfl), by repeat (first | (with_reducible first | exact HB.out | apply zba | apply zbn | apply zbd | refine zaa ?_ GE101.out) | exact HB.out)⟩
 rw [if_neg c21] at H
 have c21b0 : (a0_0.toList == ([120, 111, 114, 105] : List UInt8)) = false := beq_eq_false_iff_ne.mpr c21
 have c21b1 : (a0_0.toList != ([120, 111, 114, 105] : List UInt8)) = true := bne_iff_ne.mpr c21
 by_cases c25 : a0_0.toList = ([115, 104, 108, 105] : List UInt8)
 · rw [if_pos c25] at H
   have c25b0 : (a0_0.toList == ([115, 104, 108, 105] : List UInt8)) = true := beq_iff_eq.mpr c25
   have c25b1 : (a0_0.toList != ([115, 104, 108, 105] : List UInt8)) = false := bne_eq_false_iff_eq.mpr c25
   clear c25
   replace H := zob H
   obtain ⟨t107, A260, H⟩ := H
   replace H : (some t107) = some r := H
   have A26 := zA A260
   clear A260
   obtain rfl := zsi H
   go_enter Try.func224, Try.ntmps224
   go_wp2_with (first | ((with_reducible refine zam (N := 2) rfl ?_); refine zak ?hg (N := 2) ?hd (cs := #[.string a0_0, .int .i64 a0_1, .int .i64 a0_2, .int .i64 a0_3, .int .i64 a0_4]) (t := 102) ?hr ?_; (case hd => rfl); (case hg => rfl); (case hr => go_simp <;> rfl); intro gb101 hg w27 hbox hb; have zs := zpair (by repeat (first | (with_reducible first | exact HB.out | apply zba | apply zbn | apply zbd) | exact HB.out)) hb; have n0_ := zA (zs.1); have n1_ := zA (hbox); have n2_ := zA ((by rw [hg]; exact zs.2 : w.heap.size ≤ gb101)); have n3_ := n2_; clear HB; have HB := n0_; have BK101 := n1_; have GW101 := n2_; have GE101 := n3_; clear n0_ n1_ n2_ n3_; clear zs hb hbox hg; obtain ⟨hcz28_0, hcz28_1, hcz28_2, hcz28_3, hcz28_4⟩ := zc5 w27 (.string a0_0) (.int .i64 a0_1) (.int .i64 a0_2) (.int .i64 a0_3) (.int .i64 a0_4) BK101.out; obtain ⟨hfz28_0, hfz28_1, hfz28_2, hfz28_3, hfz28_4⟩ := zf5 BK101.out; have p102 : 0 ≤ (a0_2 : Int) := zde (by assumption); have q102 : a0_2 < (l1.length : Int) := zde (by assumption); obtain ⟨ad102, e102, hx102_0⟩ := Kd.at_int HR1.out a0_2 p102 q102; cases e102; replace hx102_0 := zkep HB.out hx102_0; replace p102 := eq_true p102; replace q102 := eq_true q102; have p103 : 0 ≤ (a0_3 : Int) := zde (by assumption); have q103 : a0_3 < (l1.length : Int) := zde (by assumption); obtain ⟨ad103, e103, hx103_0⟩ := Kd.at_int HR1.out a0_3 p103 q103; obtain rfl : ad102 = ad103 := (by injection e103); replace hx103_0 := zkep HB.out hx103_0; replace p103 := eq_true p103; replace q103 := eq_true q103) | (go_at_call 209; (with_reducible refine (zav (⟨#[115, 104, 108]⟩ : ByteArray) (rd l1 a0_2) a0_4 t107 _ A26.out).mono ?_); rintro e w' ⟨rfl, ⟨nd, rfl⟩⟩; (try first | exact ⟨rfl, _, World.drewN_drewN _ _ _⟩ | exact ⟨rfl, _, Eq.trans (World.drewN_drewN _ _ _) (congrArg (World.drewN _) (Nat.add_assoc _ _ _))⟩)))
   repeat (go_quiet (first | ((with_reducible refine zam (N := 2) rfl ?_); refine zak ?hg (N := 2) ?hd (cs := #[.string a0_0, .int .i64 a0_1, .int .i64 a0_2, .int .i64 a0_3, .int .i64 a0_4]) (t := 102) ?hr ?_; (case hd => rfl); (case hg => rfl); (case hr => go_simp <;> rfl); intro gb101 hg w27 hbox hb; have zs := zpair (by repeat (first | (with_reducible first | exact HB.out | apply zba | apply zbn | apply zbd) | exact HB.out)) hb; have n0_ := zA (zs.1); have n1_ := zA (hbox); have n2_ := zA ((by rw [hg]; exact zs.2 : w.heap.size ≤ gb101)); have n3_ := n2_; clear HB; have HB := n0_; have BK101 := n1_; have GW101 := n2_; have GE101 := n3_; clear n0_ n1_ n2_ n3_; clear zs hb hbox hg; obtain ⟨hcz28_0, hcz28_1, hcz28_2, hcz28_3, hcz28_4⟩ := zc5 w27 (.string a0_0) (.int .i64 a0_1) (.int .i64 a0_2) (.int .i64 a0_3) (.int .i64 a0_4) BK101.out; obtain ⟨hfz28_0, hfz28_1, hfz28_2, hfz28_3, hfz28_4⟩ := zf5 BK101.out; have p102 : 0 ≤ (a0_2 : Int) := zde (by assumption); have q102 : a0_2 < (l1.length : Int) := zde (by assumption); obtain ⟨ad102, e102, hx102_0⟩ := Kd.at_int HR1.out a0_2 p102 q102; cases e102; replace hx102_0 := zkep HB.out hx102_0; replace p102 := eq_true p102; replace q102 := eq_true q102; have p103 : 0 ≤ (a0_3 : Int) := zde (by assumption); have q103 : a0_3 < (l1.length : Int) := zde (by assumption); obtain ⟨ad103, e103, hx103_0⟩ := Kd.at_int HR1.out a0_3 p103 q103; obtain rfl : ad102 = ad103 := (by injection e103); replace hx103_0 := zkep HB.out hx103_0; replace p103 := eq_true p103; replace q103 := eq_true q103) | (go_at_call 209; (with_reducible refine (zav (⟨#[115, 104, 108]⟩ : ByteArray) (rd l1 a0_2) a0_4 t107 _ A26.out).mono ?_); rintro e w' ⟨rfl, ⟨nd, rfl⟩⟩; (try first | exact ⟨rfl, _, World.drewN_drewN _ _ _⟩ | exact ⟨rfl, _, Eq.trans (World.drewN_drewN _ _ _) (congrArg (World.drewN _) (Nat.add_assoc _ _ _))⟩))); try go_wp2_with (first | ((with_reducible refine zam (N := 2) rfl ?_); refine zak ?hg (N := 2) ?hd (cs := #[.string a0_0, .int .i64 a0_1, .int .i64 a0_2, .int .i64 a0_3, .int .i64 a0_4]) (t := 102) ?hr ?_; (case hd => rfl); (case hg => rfl); (case hr => go_simp <;> rfl); intro gb101 hg w27 hbox hb; have zs := zpair (by repeat (first | (with_reducible first | exact HB.out | apply zba | apply zbn | apply zbd) | exact HB.out)) hb; have n0_ := zA (zs.1); have n1_ := zA (hbox); have n2_ := zA ((by rw [hg]; exact zs.2 : w.heap.size ≤ gb101)); have n3_ := n2_; clear HB; have HB := n0_; have BK101 := n1_; have GW101 := n2_; have GE101 := n3_; clear n0_ n1_ n2_ n3_; clear zs hb hbox hg; obtain ⟨hcz28_0, hcz28_1, hcz28_2, hcz28_3, hcz28_4⟩ := zc5 w27 (.string a0_0) (.int .i64 a0_1) (.int .i64 a0_2) (.int .i64 a0_3) (.int .i64 a0_4) BK101.out; obtain ⟨hfz28_0, hfz28_1, hfz28_2, hfz28_3, hfz28_4⟩ := zf5 BK101.out; have p102 : 0 ≤ (a0_2 : Int) := zde (by assumption); have q102 : a0_2 < (l1.length : Int) := zde (by assumption); obtain ⟨ad102, e102, hx102_0⟩ := Kd.at_int HR1.out a0_2 p102 q102; cases e102; replace hx102_0 := zkep HB.out hx102_0; replace p102 := eq_true p102; replace q102 := eq_true q102; have p103 : 0 ≤ (a0_3 : Int) := zde (by assumption); have q103 : a0_3 < (l1.length : Int) := zde (by assumption); obtain ⟨ad103, e103, hx103_0⟩ := Kd.at_int HR1.out a0_3 p103 q103; obtain rfl : ad102 = ad103 := (by injection e103); replace hx103_0 := zkep HB.out hx103_0; replace p103 := eq_true p103; replace q103 := eq_true q103) | (go_at_call 209; (with_reducible refine (zav (⟨#[115, 104, 108]⟩ : ByteArray) (rd l1 a0_2) a0_4 t107 _ A26.out).mono ?_); rintro e w' ⟨rfl, ⟨nd, rfl⟩⟩; (try first | exact ⟨rfl, _, World.drewN_drewN _ _ _⟩ | exact ⟨rfl, _, Eq.trans (World.drewN_drewN _ _ _) (congrArg (World.drewN _) (Nat.add_assoc _ _ _))⟩))))
   go_ret
   exact ⟨by first | rfl | (simp <;> rfl) | (simp [*] <;> rfl), by repeat (first | (with_reducible first | exact HB.out | apply zba | apply zbn | apply zbd | refine zaa ?_ GE101.out) | exact HB.out)⟩
 rw [if_neg c25] at H
 have c25b0 : (a0_0.toList == ([115, 104, 108, 105] : List UInt8)) = false := beq_eq_false_iff_ne.mpr c25
 have c25b1 : (a0_0.toList != ([115, 104, 108, 105] : List UInt8)) = true := bne_iff_ne.mpr c25
 by_cases c29 : a0_0.toList = ([115, 104, 114, 105] : List UInt8)
 · rw [if_pos c29] at H
   have c29b0 : (a0_0.toList == ([115, 104, 114, 105] : List UInt8)) = true := beq_iff_eq.mpr c29
   have c29b1 : (a0_0.toList != ([115, 104, 114, 105] : List UInt8)) = false := bne_eq_false_iff_eq.mpr c29
   clear c29
   replace H := zob H
   obtain ⟨t108, A300, H⟩ := H
   replace H : (some t108) = some r := H
   have A30 := zA A300
   clear A300
   obtain rfl := zsi H
   go_enter Try.func224, Try.ntmps224
   go_wp2_with (first | ((with_reducible refine zam (N := 2) rfl ?_); refine zak ?hg (N := 2) ?hd (cs := #[.string a0_0, .int .i64 a0_1, .int .i64 a0_2, .int .i64 a0_3, .int .i64 a0_4]) (t := 102) ?hr ?_; (case hd => rfl); (case hg => rfl); (case hr => go_simp <;> rfl); intro gb101 hg w31 hbox hb; have zs := zpair (by repeat (first | (with_reducible first | exact HB.out | apply zba | apply zbn | apply zbd) | exact HB.out)) hb; have n0_ := zA (zs.1); have n1_ := zA (hbox); have n2_ := zA ((by rw [hg]; exact zs.2 : w.heap.size ≤ gb101)); have n3_ := n2_; clear HB; have HB := n0_; have BK101 := n1_; have GW101 := n2_; have GE101 := n3_; clear n0_ n1_ n2_ n3_; clear zs hb hbox hg; obtain ⟨hcz32_0, hcz32_1, hcz32_2, hcz32_3, hcz32_4⟩ := zc5 w31 (.string a0_0) (.int .i64 a0_1) (.int .i64 a0_2) (.int .i64 a0_3) (.int .i64 a0_4) BK101.out; obtain ⟨hfz32_0, hfz32_1, hfz32_2, hfz32_3, hfz32_4⟩ := zf5 BK101.out; have p102 : 0 ≤ (a0_2 : Int) := zde (by assumption); have q102 : a0_2 < (l1.length : Int) := zde (by assumption); obtain ⟨ad102, e102, hx102_0⟩ := Kd.at_int HR1.out a0_2 p102 q102; cases e102; replace hx102_0 := zkep HB.out hx102_0; replace p102 := eq_true p102; replace q102 := eq_true q102; have p103 : 0 ≤ (a0_3 : Int) := zde (by assumption); have q103 : a0_3 < (l1.length : Int) := zde (by assumption); obtain ⟨ad103, e103, hx103_0⟩ := Kd.at_int HR1.out a0_3 p103 q103; obtain rfl : ad102 = ad103 := (by injection e103); replace hx103_0 := zkep HB.out hx103_0; replace p103 := eq_true p103; replace q103 := eq_true q103) | (go_at_call 209; (with_reducible refine (zav (⟨#[115, 104, 114]⟩ : ByteArray) (rd l1 a0_2) a0_4 t108 _ A30.out).mono ?_); rintro e w' ⟨rfl, ⟨nd, rfl⟩⟩; (try first | exact ⟨rfl, _, World.drewN_drewN _ _ _⟩ | exact ⟨rfl, _, Eq.trans (World.drewN_drewN _ _ _) (congrArg (World.drewN _) (Nat.add_assoc _ _ _))⟩)))
   repeat (go_quiet (first | ((with_reducible refine zam (N := 2) rfl ?_); refine zak ?hg (N := 2) ?hd (cs := #[.string a0_0, .int .i64 a0_1, .int .i64 a0_2, .int .i64 a0_3, .int .i64 a0_4]) (t := 102) ?hr ?_; (case hd => rfl); (case hg => rfl); (case hr => go_simp <;> rfl); intro gb101 hg w31 hbox hb; have zs := zpair (by repeat (first | (with_reducible first | exact HB.out | apply zba | apply zbn | apply zbd) | exact HB.out)) hb; have n0_ := zA (zs.1); have n1_ := zA (hbox); have n2_ := zA ((by rw [hg]; exact zs.2 : w.heap.size ≤ gb101)); have n3_ := n2_; clear HB; have HB := n0_; have BK101 := n1_; have GW101 := n2_; have GE101 := n3_; clear n0_ n1_ n2_ n3_; clear zs hb hbox hg; obtain ⟨hcz32_0, hcz32_1, hcz32_2, hcz32_3, hcz32_4⟩ := zc5 w31 (.string a0_0) (.int .i64 a0_1) (.int .i64 a0_2) (.int .i64 a0_3) (.int .i64 a0_4) BK101.out; obtain ⟨hfz32_0, hfz32_1, hfz32_2, hfz32_3, hfz32_4⟩ := zf5 BK101.out; have p102 : 0 ≤ (a0_2 : Int) := zde (by assumption); have q102 : a0_2 < (l1.length : Int) := zde (by assumption); obtain ⟨ad102, e102, hx102_0⟩ := Kd.at_int HR1.out a0_2 p102 q102; cases e102; replace hx102_0 := zkep HB.out hx102_0; replace p102 := eq_true p102; replace q102 := eq_true q102; have p103 : 0 ≤ (a0_3 : Int) := zde (by assumption); have q103 : a0_3 < (l1.length : Int) := zde (by assumption); obtain ⟨ad103, e103, hx103_0⟩ := Kd.at_int HR1.out a0_3 p103 q103; obtain rfl : ad102 = ad103 := (by injection e103); replace hx103_0 := zkep HB.out hx103_0; replace p103 := eq_true p103; replace q103 := eq_true q103) | (go_at_call 209; (with_reducible refine (zav (⟨#[115, 104, 114]⟩ : ByteArray) (rd l1 a0_2) a0_4 t108 _ A30.out).mono ?_); rintro e w' ⟨rfl, ⟨nd, rfl⟩⟩; (try first | exact ⟨rfl, _, World.drewN_drewN _ _ _⟩ | exact ⟨rfl, _, Eq.trans (World.drewN_drewN _ _ _) (congrArg (World.drewN _) (Nat.add_assoc _ _ _))⟩))); try go_wp2_with (first | ((with_reducible refine zam (N := 2) rfl ?_); refine zak ?hg (N := 2) ?hd (cs := #[.string a0_0, .int .i64 a0_1, .int .i64 a0_2, .int .i64 a0_3, .int .i64 a0_4]) (t := 102) ?hr ?_; (case hd => rfl); (case hg => rfl); (case hr => go_simp <;> rfl); intro gb101 hg w31 hbox hb; have zs := zpair (by repeat (first | (with_reducible first | exact HB.out | apply zba | apply zbn | apply zbd) | exact HB.out)) hb; have n0_ := zA (zs.1); have n1_ := zA (hbox); have n2_ := zA ((by rw [hg]; exact zs.2 : w.heap.size ≤ gb101)); have n3_ := n2_; clear HB; have HB := n0_; have BK101 := n1_; have GW101 := n2_; have GE101 := n3_; clear n0_ n1_ n2_ n3_; clear zs hb hbox hg; obtain ⟨hcz32_0, hcz32_1, hcz32_2, hcz32_3, hcz32_4⟩ := zc5 w31 (.string a0_0) (.int .i64 a0_1) (.int .i64 a0_2) (.int .i64 a0_3) (.int .i64 a0_4) BK101.out; obtain ⟨hfz32_0, hfz32_1, hfz32_2, hfz32_3, hfz32_4⟩ := zf5 BK101.out; have p102 : 0 ≤ (a0_2 : Int) := zde (by assumption); have q102 : a0_2 < (l1.length : Int) := zde (by assumption); obtain ⟨ad102, e102, hx102_0⟩ := Kd.at_int HR1.out a0_2 p102 q102; cases e102; replace hx102_0 := zkep HB.out hx102_0; replace p102 := eq_true p102; replace q102 := eq_true q102; have p103 : 0 ≤ (a0_3 : Int) := zde (by assumption); have q103 : a0_3 < (l1.length : Int) := zde (by assumption); obtain ⟨ad103, e103, hx103_0⟩ := Kd.at_int HR1.out a0_3 p103 q103; obtain rfl : ad102 = ad103 := (by injection e103); replace hx103_0 := zkep HB.out hx103_0; replace p103 := eq_true p103; replace q103 := eq_true q103) | (go_at_call 209; (with_reducible refine (zav (⟨#[115, 104, 114]⟩ : ByteArray) (rd l1 a0_2) a0_4 t108 _ A30.out).mono ?_); rintro e w' ⟨rfl, ⟨nd, rfl⟩⟩; (try first | exact ⟨rfl, _, World.drewN_drewN _ _ _⟩ | exact ⟨rfl, _, Eq.trans (World.drewN_drewN _ _ _) (congrArg (World.drewN _) (Nat.add_assoc _ _ _))⟩))))
   go_ret
   exact ⟨by first | rfl | (simp <;> rfl) | (simp [*] <;> rfl), by repeat (first | (with_reducible first | exact HB.out | apply zba | apply zbn | apply zbd | refine zaa ?_ GE101.out) | exact HB.out)⟩
 rw [if_neg c29] at H
 have c29b0 : (a0_0.toList == ([115, 104, 114, 105] : List UInt8)) = false := beq_eq_false_iff_ne.mpr c29
 have c29b1 : (a0_0.toList != ([115, 104, 114, 105] : List UInt8)) = true := bne_iff_ne.mpr c29
 by_cases c33 : a0_0.toList = ([108, 101, 97] : List UInt8)
 rotate_left
 · rw [if_neg c33] at H
   have c33b0 : (a0_0.toList == ([108, 101, 97] : List UInt8)) = false := beq_eq_false_iff_ne.mpr c33
   have c33b1 : (a0_0.toList != ([108, 101, 97] : List UInt8)) = true := bne_iff_ne.mpr c33
   replace H := zob H
   obtain ⟨t111, A380, H⟩ := H
   replace H : (some t111) = some r := H
   have A38 := zA A380
   clear A380
   obtain rfl := zsi H
   go_enter Try.func224, Try.ntmps224
   go_wp2_with (first | ((with_reducible refine zam (N := 2) rfl ?_); refine zak ?hg (N := 2) ?hd (cs := #[.string a0_0, .int .i64 a0_1, .int .i64 a0_2, .int .i64 a0_3, .int .i64 a0_4]) (t := 102) ?hr ?_; (case hd => rfl); (case hg => rfl); (case hr => go_simp <;> rfl); intro gb101 hg w39 hbox hb; have zs := zpair (by repeat (first | (with_reducible first | exact HB.out | apply zba | apply zbn | apply zbd) | exact HB.out)) hb; have n0_ := zA (zs.1); have n1_ := zA (hbox); have n2_ := zA ((by rw [hg]; exact zs.2 : w.heap.size ≤ gb101)); have n3_ := n2_; clear HB; have HB := n0_; have BK101 := n1_; have GW101 := n2_; have GE101 := n3_; clear n0_ n1_ n2_ n3_; clear zs hb hbox hg; obtain ⟨hcz40_0, hcz40_1, hcz40_2, hcz40_3, hcz40_4⟩ := zc5 w39 (.string a0_0) (.int .i64 a0_1) (.int .i64 a0_2) (.int .i64 a0_3) (.int .i64 a0_4) BK101.out; obtain ⟨hfz40_0, hfz40_1, hfz40_2, hfz40_3, hfz40_4⟩ := zf5 BK101.out; have p102 : 0 ≤ (a0_2 : Int) := zde (by assumption); have q102 : a0_2 < (l1.length : Int) := zde (by assumption); obtain ⟨ad102, e102, hx102_0⟩ := Kd.at_int HR1.out a0_2 p102 q102; cases e102; replace hx102_0 := zkep HB.out hx102_0; replace p102 := eq_true p102; replace q102 := eq_true q102; have p103 : 0 ≤ (a0_3 : Int) := zde (by assumption); have q103 : a0_3 < (l1.length : Int) := zde (by assumption); obtain ⟨ad103, e103, hx103_0⟩ := Kd.at_int HR1.out a0_3 p103 q103; obtain rfl : ad102 = ad103 := (by injection e103); replace hx103_0 := zkep HB.out hx103_0; replace p103 := eq_true p103; replace q103 := eq_true q103) | (go_at_call 209; (with_reducible refine (zav a0_0 (rd l1 a0_2) (rd l1 a0_3) t111 _ A38.out).mono ?_); rintro e w' ⟨rfl, ⟨nd, rfl⟩⟩; (try first | exact ⟨rfl, _, World.drewN_drewN _ _ _⟩ | exact ⟨rfl, _, Eq.trans (World.drewN_drewN _ _ _) (congrArg (World.drewN _) (Nat.add_assoc _ _ _))⟩)))
   repeat (go_quiet (first | ((with_reducible refine zam (N := 2) rfl ?_); refine zak ?hg (N := 2) ?hd (cs := #[.string a0_0, .int .i64 a0_1, .int .i64 a0_2, .int .i64 a0_3, .int .i64 a0_4]) (t := 102) ?hr ?_; (case hd => rfl); (case hg => rfl); (case hr => go_simp <;> rfl); intro gb101 hg w39 hbox hb; have zs := zpair (by repeat (first | (with_reducible first | exact HB.out | apply zba | apply zbn | apply zbd) | exact HB.out)) hb; have n0_ := zA (zs.1); have n1_ := zA (hbox); have n2_ := zA ((by rw [hg]; exact zs.2 : w.heap.size ≤ gb101)); have n3_ := n2_; clear HB; have HB := n0_; have BK101 := n1_; have GW101 := n2_; have GE101 := n3_; clear n0_ n1_ n2_ n3_; clear zs hb hbox hg; obtain ⟨hcz40_0, hcz40_1, hcz40_2, hcz40_3, hcz40_4⟩ := zc5 w39 (.string a0_0) (.int .i64 a0_1) (.int .i64 a0_2) (.int .i64 a0_3) (.int .i64 a0_4) BK101.out; obtain ⟨hfz40_0, hfz40_1, hfz40_2, hfz40_3, hfz40_4⟩ := zf5 BK101.out; have p102 : 0 ≤ (a0_2 : Int) := zde (by assumption); have q102 : a0_2 < (l1.length : Int) := zde (by assumption); obtain ⟨ad102, e102, hx102_0⟩ := Kd.at_int HR1.out a0_2 p102 q102; cases e102; replace hx102_0 := zkep HB.out hx102_0; replace p102 := eq_true p102; replace q102 := eq_true q102; have p103 : 0 ≤ (a0_3 : Int) := zde (by assumption); have q103 : a0_3 < (l1.length : Int) := zde (by assumption); obtain ⟨ad103, e103, hx103_0⟩ := Kd.at_int HR1.out a0_3 p103 q103; obtain rfl : ad102 = ad103 := (by injection e103); replace hx103_0 := zkep HB.out hx103_0; replace p103 := eq_true p103; replace q103 := eq_true q103) | (go_at_call 209; (with_reducible refine (zav a0_0 (rd l1 a0_2) (rd l1 a0_3) t111 _ A38.out).mono ?_); rintro e w' ⟨rfl, ⟨nd, rfl⟩⟩; (try first | exact ⟨rfl, _, World.drewN_drewN _ _ _⟩ | exact ⟨rfl, _, Eq.trans (World.drewN_drewN _ _ _) (congrArg (World.drewN _) (Nat.add_assoc _ _ _))⟩))); try go_wp2_with (first | ((with_reducible refine zam (N := 2) rfl ?_); refine zak ?hg (N := 2) ?hd (cs := #[.string a0_0, .int .i64 a0_1, .int .i64 a0_2, .int .i64 a0_3, .int .i64 a0_4]) (t := 102) ?hr ?_; (case hd => rfl); (case hg => rfl); (case hr => go_simp <;> rfl); intro gb101 hg w39 hbox hb; have zs := zpair (by repeat (first | (with_reducible first | exact HB.out | apply zba | apply zbn | apply zbd) | exact HB.out)) hb; have n0_ := zA (zs.1); have n1_ := zA (hbox); have n2_ := zA ((by rw [hg]; exact zs.2 : w.heap.size ≤ gb101)); have n3_ := n2_; clear HB; have HB := n0_; have BK101 := n1_; have GW101 := n2_; have GE101 := n3_; clear n0_ n1_ n2_ n3_; clear zs hb hbox hg; obtain ⟨hcz40_0, hcz40_1, hcz40_2, hcz40_3, hcz40_4⟩ := zc5 w39 (.string a0_0) (.int .i64 a0_1) (.int .i64 a0_2) (.int .i64 a0_3) (.int .i64 a0_4) BK101.out; obtain ⟨hfz40_0, hfz40_1, hfz40_2, hfz40_3, hfz40_4⟩ := zf5 BK101.out; have p102 : 0 ≤ (a0_2 : Int) := zde (by assumption); have q102 : a0_2 < (l1.length : Int) := zde (by assumption); obtain ⟨ad102, e102, hx102_0⟩ := Kd.at_int HR1.out a0_2 p102 q102; cases e102; replace hx102_0 := zkep HB.out hx102_0; replace p102 := eq_true p102; replace q102 := eq_true q102; have p103 : 0 ≤ (a0_3 : Int) := zde (by assumption); have q103 : a0_3 < (l1.length : Int) := zde (by assumption); obtain ⟨ad103, e103, hx103_0⟩ := Kd.at_int HR1.out a0_3 p103 q103; obtain rfl : ad102 = ad103 := (by injection e103); replace hx103_0 := zkep HB.out hx103_0; replace p103 := eq_true p103; replace q103 := eq_true q103) | (go_at_call 209; (with_reducible refine (zav a0_0 (rd l1 a0_2) (rd l1 a0_3) t111 _ A38.out).mono ?_); rintro e w' ⟨rfl, ⟨nd, rfl⟩⟩; (try first | exact ⟨rfl, _, World.drewN_drewN _ _ _⟩ | exact ⟨rfl, _, Eq.trans (World.drewN_drewN _ _ _) (congrArg (World.drewN _) (Nat.add_assoc _ _ _))⟩))))
   go_ret
   exact ⟨by first | rfl | (simp <;> rfl) | (simp [*] <;> rfl), by repeat (first | (with_reducible first | exact HB.out | apply zba | apply zbn | apply zbd | refine zaa ?_ GE101.out) | exact HB.out)⟩
 rw [if_pos c33] at H
 have c33b0 : (a0_0.toList == ([108, 101, 97] : List UInt8)) = true := beq_iff_eq.mpr c33
 have c33b1 : (a0_0.toList != ([108, 101, 97] : List UInt8)) = false := bne_eq_false_iff_eq.mpr c33
 clear c33
 replace H := zob H
 obtain ⟨t109, A340, H⟩ := H
 replace H : ((zbi (⟨#[97, 100, 100]⟩ : ByteArray) (rd l1 a0_2) t109).bind fun t110 => (some t110)) = some r := H
 have A34 := zA A340
 clear A340
 replace H := zob H
 obtain ⟨t110, A350, H⟩ := H
 replace H : (some t110) = some r := H
 have A35 := zA A350
 clear A350
 obtain rfl := zsi H
 go_enter Try.func224, Try.ntmps224
 go_wp2_with (first | ((with_reducible refine zam (N := 2) rfl ?_); refine zak ?hg (N := 2) ?hd (cs := #[.string a0_0, .int .i64 a0_1, .int .i64 a0_2, .int .i64 a0_3, .int .i64 a0_4]) (t := 102) ?hr ?_; (case hd => rfl); (case hg => rfl); (case hr => go_simp <;> rfl); intro gb101 hg w36 hbox hb; have zs := zpair (by repeat (first | (with_reducible first | exact HB.out | apply zba | apply zbn | apply zbd) | exact HB.out)) hb; have n0_ := zA (zs.1); have n1_ := zA (hbox); have n2_ := zA ((by rw [hg]; exact zs.2 : w.heap.size ≤ gb101)); have n3_ := n2_; clear HB; have HB := n0_; have BK101 := n1_; have GW101 := n2_; have GE101 := n3_; clear n0_ n1_ n2_ n3_; clear zs hb hbox hg; obtain ⟨hcz37_0, hcz37_1, hcz37_2, hcz37_3, hcz37_4⟩ := zc5 w36 (.string a0_0) (.int .i64 a0_1) (.int .i64 a0_2) (.int .i64 a0_3) (.int .i64 a0_4) BK101.out; obtain ⟨hfz37_0, hfz37_1, hfz37_2, hfz37_3, hfz37_4⟩ := zf5 BK101.out; have p102 : 0 ≤ (a0_2 : Int) := zde (by assumption); have q102 : a0_2 < (l1.length : Int) := zde (by assumption); obtain ⟨ad102, e102, hx102_0⟩ := Kd.at_int HR1.out a0_2 p102 q102; cases e102; replace hx102_0 := zkep HB.out hx102_0; replace p102 := eq_true p102; replace q102 := eq_true q102; have p103 : 0 ≤ (a0_3 : Int) := zde (by assumption); have q103 : a0_3 < (l1.length : Int) := zde (by assumption); obtain ⟨ad103, e103, hx103_0⟩ := Kd.at_int HR1.out a0_3 p103 q103; obtain rfl : ad102 = ad103 := (by injection e103); replace hx103_0 := zkep HB.out hx103_0; replace p103 := eq_true p103; replace q103 := eq_true q103) | (go_at_call 209; (with_reducible refine (zav (⟨#[115, 104, 108]⟩ : ByteArray) (rd l1 a0_3) a0_4 t109 _ A34.out).mono ?_); rintro e w' ⟨rfl, ⟨nd, rfl⟩⟩; (try first | exact ⟨rfl, _, World.drewN_drewN _ _ _⟩ | exact ⟨rfl, _, Eq.trans (World.drewN_drewN _ _ _) (congrArg (World.drewN _) (Nat.add_assoc _ _ _))⟩)) | (go_at_call 209; (with_reducible refine (zav (⟨#[97, 100, 100]⟩ : ByteArray) (rd l1 a0_2) t109 t110 _ A35.out).mono ?_); rintro e w' ⟨rfl, ⟨nd, rfl⟩⟩; (try first | exact ⟨rfl, _, World.drewN_drewN _ _ _⟩ | exact ⟨rfl, _, Eq.trans (World.drewN_drewN _ _ _) (congrArg (World.drewN _) (Nat.add_assoc _ _ _))⟩)))
 repeat (go_quiet (first | ((with_reducible refine zam (N := 2) rfl ?_); refine zak ?hg (N := 2) ?hd (cs := #[.string a0_0, .int .i64 a0_1, .int .i64 a0_2, .int .i64 a0_3, .int .i64 a0_4]) (t := 102) ?hr ?_; (case hd => rfl); (case hg => rfl); (case hr => go_simp <;> rfl); intro gb101 hg w36 hbox hb; have zs := zpair (by repeat (first | (with_reducible first | exact HB.out | apply zba | apply zbn | apply zbd) | exact HB.out)) hb; have n0_ := zA (zs.1); have n1_ := zA (hbox); have n2_ := zA ((by rw [hg]; exact zs.2 : w.heap.size ≤ gb101)); have n3_ := n2_; clear HB; have HB := n0_; have BK101 := n1_; have GW101 := n2_; have GE101 := n3_; clear n0_ n1_ n2_ n3_; clear zs hb hbox hg; obtain ⟨hcz37_0, hcz37_1, hcz37_2, hcz37_3, hcz37_4⟩ := zc5 w36 (.string a0_0) (.int .i64 a0_1) (.int .i64 a0_2) (.int .i64 a0_3) (.int .i64 a0_4) BK101.out; obtain ⟨hfz37_0, hfz37_1, hfz37_2, hfz37_3, hfz37_4⟩ := zf5 BK101.out; have p102 : 0 ≤ (a0_2 : Int) := zde (by assumption); have q102 : a0_2 < (l1.length : Int) := zde (by assumption); obtain ⟨ad102, e102, hx102_0⟩ := Kd.at_int HR1.out a0_2 p102 q102; cases e102; replace hx102_0 := zkep HB.out hx102_0; replace p102 := eq_true p102; replace q102 := eq_true q102; have p103 : 0 ≤ (a0_3 : Int) := zde (by assumption); have q103 : a0_3 < (l1.length : Int) := zde (by assumption); obtain ⟨ad103, e103, hx103_0⟩ := Kd.at_int HR1.out a0_3 p103 q103; obtain rfl : ad102 = ad103 := (by injection e103); replace hx103_0 := zkep HB.out hx103_0; replace p103 := eq_true p103; replace q103 := eq_true q103) | (go_at_call 209; (with_reducible refine (zav (⟨#[115, 104, 108]⟩ : ByteArray) (rd l1 a0_3) a0_4 t109 _ A34.out).mono ?_); rintro e w' ⟨rfl, ⟨nd, rfl⟩⟩; (try first | exact ⟨rfl, _, World.drewN_drewN _ _ _⟩ | exact ⟨rfl, _, Eq.trans (World.drewN_drewN _ _ _) (congrArg (World.drewN _) (Nat.add_assoc _ _ _))⟩)) | (go_at_call 209; (with_reducible refine (zav (⟨#[97, 100, 100]⟩ : ByteArray) (rd l1 a0_2) t109 t110 _ A35.out).mono ?_); rintro e w' ⟨rfl, ⟨nd, rfl⟩⟩; (try first | exact ⟨rfl, _, World.drewN_drewN _ _ _⟩ | exact ⟨rfl, _, Eq.trans (World.drewN_drewN _ _ _) (congrArg (World.drewN _) (Nat.add_assoc _ _ _))⟩))); try go_wp2_with (first | ((with_reducible refine zam (N := 2) rfl ?_); refine zak ?hg (N := 2) ?hd (cs := #[.string a0_0, .int .i64 a0_1, .int .i64 a0_2, .int .i64 a0_3, .int .i64 a0_4]) (t := 102) ?hr ?_; (case hd => rfl); (case hg => rfl); (case hr => go_simp <;> rfl); intro gb101 hg w36 hbox hb; have zs := zpair (by repeat (first | (with_reducible first | exact HB.out | apply zba | apply zbn | apply zbd) | exact HB.out)) hb; have n0_ := zA (zs.1); have n1_ := zA (hbox); have n2_ := zA ((by rw [hg]; exact zs.2 : w.heap.size ≤ gb101)); have n3_ := n2_; clear HB; have HB := n0_; have BK101 := n1_; have GW101 := n2_; have GE101 := n3_; clear n0_ n1_ n2_ n3_; clear zs hb hbox hg; obtain ⟨hcz37_0, hcz37_1, hcz37_2, hcz37_3, hcz37_4⟩ := zc5 w36 (.string a0_0) (.int .i64 a0_1) (.int .i64 a0_2) (.int .i64 a0_3) (.int .i64 a0_4) BK101.out; obtain ⟨hfz37_0, hfz37_1, hfz37_2, hfz37_3, hfz37_4⟩ := zf5 BK101.out; have p102 : 0 ≤ (a0_2 : Int) := zde (by assumption); have q102 : a0_2 < (l1.length : Int) := zde (by assumption); obtain ⟨ad102, e102, hx102_0⟩ := Kd.at_int HR1.out a0_2 p102 q102; cases e102; replace hx102_0 := zkep HB.out hx102_0; replace p102 := eq_true p102; replace q102 := eq_true q102; have p103 : 0 ≤ (a0_3 : Int) := zde (by assumption); have q103 : a0_3 < (l1.length : Int) := zde (by assumption); obtain ⟨ad103, e103, hx103_0⟩ := Kd.at_int HR1.out a0_3 p103 q103; obtain rfl : ad102 = ad103 := (by injection e103); replace hx103_0 := zkep HB.out hx103_0; replace p103 := eq_true p103; replace q103 := eq_true q103) | (go_at_call 209; (with_reducible refine (zav (⟨#[115, 104, 108]⟩ : ByteArray) (rd l1 a0_3) a0_4 t109 _ A34.out).mono ?_); rintro e w' ⟨rfl, ⟨nd, rfl⟩⟩; (try first | exact ⟨rfl, _, World.drewN_drewN _ _ _⟩ | exact ⟨rfl, _, Eq.trans (World.drewN_drewN _ _ _) (congrArg (World.drewN _) (Nat.add_assoc _ _ _))⟩)) | (go_at_call 209; (with_reducible refine (zav (⟨#[97, 100, 100]⟩ : ByteArray) (rd l1 a0_2) t109 t110 _ A35.out).mono ?_); rintro e w' ⟨rfl, ⟨nd, rfl⟩⟩; (try first | exact ⟨rfl, _, World.drewN_drewN _ _ _⟩ | exact ⟨rfl, _, Eq.trans (World.drewN_drewN _ _ _) (congrArg (World.drewN _) (Nat.add_assoc _ _ _))⟩))))
 go_ret
 exact ⟨by first | rfl | (simp <;> rfl) | (simp [*] <;> rfl), by repeat (first | (with_reducible first | exact HB.out | apply zba | apply zbn | apply zbd | refine zaa ?_ GE101.out) | exact HB.out)⟩
def zgr (l0 : List Int) : Option (List Int) := (some (([] : List Int) : List Int)).bind fun y101 => (if y101.length + l0.length < 17592186044416 then (some (y101 ++ l0)) else (none))
set_option maxHeartbeats 8000000 in
set_option maxRecDepth 100000 in
theorem zkh (A0 : Option Addr) (c0 : Nat) (l0 : List Int) (r : List Int) (w : World) (hr0 : Kd.C (Kd.int .i64) w A0 l0.length l0) (hc0 : l0.length ≤ c0) (h : zgr l0 = some r) :
   Calls Try.prog 194 #[.slice A0 l0.length c0] w fun e w' => ∃ v0_ : Value, e = .returned (v0_) ∧ Kd.R (Kd.int .i64) 3 w' w.heap.size (fun _ => True) v0_ r ∧ Below w.heap.size w w' := by
 have HR0 := zA hr0
 have HC0 := zA hc0
 clear hr0 hc0
 have HB := zA (Below.refl w.heap.size w)
 have H : ((some (([] : List Int) : List Int)).bind fun y101 => (if y101.length + l0.length < 17592186044416 then (some (y101 ++ l0)) else (none))) = some r := h
 clear h
 obtain ⟨y101, hy101⟩ : ∃ y_ : List Int, y_ = (([] : List Int)) := ⟨_, rfl⟩
 replace H : (if y101.length + l0.length < 17592186044416 then (some (y101 ++ l0)) else (none)) = some r := by first | (rw [hy101]; with_reducible exact H) | (have H2_ := (Option.bind_some _ _).symm.trans H; rw [hy101]; with_reducible exact H2_) | (have H2_ := (Option.bind_some _ _).symm.trans H; with_reducible exact H2_) | with_reducible exact H | (rw [hy101]; exact H) | exact H
 have Ny101 := zA hy101
 clear hy101
 by_cases c2 : y101.length + l0.length < 17592186044416
 · rw [if_pos c2] at H
   have LMc2 := zA c2
   clear c2
   obtain ⟨y104, hy104⟩ : ∃ y_ : List Int, y_ = (y101 ++ l0) := ⟨_, rfl⟩
   replace H : (some y104) = some r := by first | (rw [hy104]; with_reducible exact H) | (have H2_ := (Option.bind_some _ _).symm.trans H; rw [hy104]; with_reducible exact H2_) | (have H2_ := (Option.bind_some _ _).symm.trans H; with_reducible exact H2_) | with_reducible exact H | (rw [hy104]; exact H) | exact H
   have Ny104 := zA hy104
   clear hy104
   obtain rfl := zsi H
   go_enter Try.func194, Try.ntmps194
   go_wp2_with (first | ((with_reducible refine zam (N := 3) rfl ?_); refine Kd.R_lit (Kd.int .i64) _ 3 ?hg (N := 3) ?hd (xs := ([] : List Int)) (inner := []) (ok := fun _ => True) (okp := fun _ => True) ?hr ?hp (fun _ hk => hk) trivial (Below.refl _ _) (zlr _) (by simp) ?_; (case hd => rfl); (case hg => rfl); (case hr => go_simp <;> rfl); (case hp => exact (Reps.none _ _)); intro v102 w3 ho4 hb hg_ hnew_; clear hg_ hnew_; (first | rw [← Ny101.out] at ho4 | (simp only [Int.reduceToNat] at ho4; rw [← Ny101.out] at ho4)); have n0_ := zA (Kd.R_lower ho4 (zaj (by repeat (first | (with_reducible first | exact HB.out | apply zba | apply zbn | apply zbd) | exact HB.out)))); have n1_ := zA (zai (by repeat (first | (with_reducible first | exact HB.out | apply zba | apply zbn | apply zbd) | exact HB.out)) hb); clear HB; have HO103 := n0_; have HB := n1_; clear n0_ n1_; clear hb ho4) | ((with_reducible refine ze4 (b := .append) (xs := #[.tmp 3, .tmp 4]) rfl ?_); at_builtin; refine Kd.R_append_rows (Kd.int .i64) (w0 := w) w.heap.size rfl (.tmp 3) (.tmp 4) 51 3 (.int .i64 0) 8 rfl Try.underlying51 zmd rfl (by decide) (by omega) v102 y101 l0 _ _ _ (fun _ => True) (fun _ => False) rfl rfl ?aO ?aR (fun _ _ h => h) (fun _ h => h.elim) ?aF ?aB ?aS ?aL ?_; (case aR => repeat (first | exact (zCb HR0.out HB.out) | (with_reducible first | refine zCa ?_ _ | refine zCn ?_ _ | refine zCd ?_))); (case aB => exact (by repeat (first | (with_reducible first | exact HB.out | apply zba | apply zbn | apply zbd) | exact HB.out))); (case aF => exact (fun _ _ => trivial)); (case aO => exact (by (with_reducible repeat (first | apply zRa | apply zRn | apply zRd)); exact HO103.out)); (case aS => exact (zaj (by repeat (first | (with_reducible first | exact HB.out | apply zba | apply zbn | apply zbd) | exact HB.out)))); (case aL => have := LMc2.out; omega); intro v105 w5 ho hb hg hat; rw [← Ny104.out] at ho; have n0_ := zA (hb); have n1_ := zA (ho); clear HB HO103; have HB := n0_; have HO106 := n1_; clear n0_ n1_; clear ho hb hg hat))
   go_ret
   exact ⟨_, by first | rfl | (simp <;> rfl) | (simp [*] <;> rfl), by (with_reducible repeat (first | apply zRa | apply zRn | apply zRd)); exact HO106.out, by repeat (first | (with_reducible first | exact HB.out | apply zba | apply zbn | apply zbd) | exact HB.out)⟩
 · rw [if_neg c2] at H
   exact absurd H (by simp)
def zig (a0_0 : ByteArray) (a0_1 : Int) (a0_2 : Int) (a0_3 : Int) (a0_4 : Int) (l1 : List Int) : Option (List Int) := (zgr l1).bind fun t102 => ((zes a0_0 a0_1 a0_2 a0_3 a0_4 l1).bind fun t105 => (if 0 ≤ a0_1 then (if a0_1 < (t102.length : Int) then (some (t102.set (a0_1 : Int).toNat t105)) else (none)) else (none)))
def spec_cdStep.T2 : Bool × List (List Nat × List Nat) := (true, [([], []), ([], []), ([1], [1]), ([], []), ([], []), ([3, 4], [3, 4]), ([0, 2, 0, 1, 2, 3, 4, 5], [0, 2]), ([6, 5, 5, 0, 1, 2, 3, 4, 5], [5, 6])])
def znu : List Nat := [0, 0, 2, 0, 0, 24, 63, 127]
theorem zm2 : rtab .any (zsq Try.f195 2) = spec_cdStep.T2 := by kernel_rfl
theorem zmm : zky spec_cdStep.T2.2 znu = true := by kernel_rfl
set_option maxHeartbeats 8000000 in
set_option maxRecDepth 100000 in
theorem zmn (a0_0 : ByteArray) (a0_1 : Int) (a0_2 : Int) (a0_3 : Int) (a0_4 : Int) (A1 : Option Addr) (c1 : Nat) (l1 : List Int) (r : List Int) (w : World) (hr1 : Kd.C (Kd.int .i64) w A1 l1.length l1) (hc1 : l1.length ≤ c1) (h : zig a0_0 a0_1 a0_2 a0_3 a0_4 l1 = some r) :
   Calls Try.prog 195 #[.agg #[.string a0_0, .int .i64 a0_1, .int .i64 a0_2, .int .i64 a0_3, .int .i64 a0_4], .slice A1 l1.length c1] w fun e w' => ∃ v0_ : Value, e = .returned (v0_) ∧ Kd.R (Kd.int .i64) 3 w' w.heap.size (fun _ => True) v0_ r ∧ Below w.heap.size w w' := by
 have hu102 := Try.underlying102
 have HR1 := zA hr1
 have HC1 := zA hc1
 clear hr1 hc1
 have HB := zA (Below.refl w.heap.size w)
 have H : ((zgr l1).bind fun t102 => ((zes a0_0 a0_1 a0_2 a0_3 a0_4 l1).bind fun t105 => (if 0 ≤ a0_1 then (if a0_1 < (t102.length : Int) then (some (t102.set (a0_1 : Int).toNat t105)) else (none)) else (none)))) = some r := h
 clear h
 replace H := zob H
 obtain ⟨t102, A30, H⟩ := H
 replace H : ((zes a0_0 a0_1 a0_2 a0_3 a0_4 l1).bind fun t105 => (if 0 ≤ a0_1 then (if a0_1 < (t102.length : Int) then (some (t102.set (a0_1 : Int).toNat t105)) else (none)) else (none))) = some r := H
 have A3 := zA A30
 clear A30
 replace H := zob H
 obtain ⟨t105, A40, H⟩ := H
 replace H : (if 0 ≤ a0_1 then (if a0_1 < (t102.length : Int) then (some (t102.set (a0_1 : Int).toNat t105)) else (none)) else (none)) = some r := H
 have A4 := zA A40
 clear A40
 by_cases c5 : 0 ≤ a0_1
 rotate_left
 · rw [if_neg c5] at H
   exact absurd H (by simp)
 rw [if_pos c5] at H
 have c5b0 : decide (0 ≤ a0_1) = true := zdt c5
 clear c5
 by_cases c6 : a0_1 < (t102.length : Int)
 rotate_left
 · rw [if_neg c6] at H
   exact absurd H (by simp)
 rw [if_pos c6] at H
 have c6b0 : decide (a0_1 < (t102.length : Int)) = true := zdt c6
 clear c6
 obtain ⟨y106, hy106⟩ : ∃ y_ : List Int, y_ = (t102.set (a0_1 : Int).toNat t105) := ⟨_, rfl⟩
 replace H : (some y106) = some r := by first | (rw [hy106]; with_reducible exact H) | (have H2_ := (Option.bind_some _ _).symm.trans H; rw [hy106]; with_reducible exact H2_) | (have H2_ := (Option.bind_some _ _).symm.trans H; with_reducible exact H2_) | with_reducible exact H | (rw [hy106]; exact H) | exact H
 have Ny106 := zA hy106
 clear hy106
 obtain rfl := zsi H
 go_enter Try.func195, Try.ntmps195
 try go_wp2_with (first | ((with_reducible refine zam (N := 2) rfl ?_); refine zak ?hg (N := 2) ?hd (cs := #[.string a0_0, .int .i64 a0_1, .int .i64 a0_2, .int .i64 a0_3, .int .i64 a0_4]) (t := 102) ?hr ?_; (case hd => rfl); (case hg => rfl); (case hr => go_simp <;> rfl); intro gb101 hg w8 hbox hb; have zs := zpair (by repeat (first | (with_reducible first | exact HB.out | apply zba | apply zbn | apply zbd) | exact HB.out)) hb; have n0_ := zA (zs.1); have n1_ := zA (hbox); have n2_ := zA ((by rw [hg]; exact zs.2 : w.heap.size ≤ gb101)); have n3_ := n2_; clear HB; have HB := n0_; have BK101 := n1_; have GW101 := n2_; have GE101 := n3_; clear n0_ n1_ n2_ n3_; clear zs hb hbox hg) | ((with_reducible refine zae (f := 194) rfl ?_); refine zaz (some 7) rfl rfl Try.func194 (by kernel_rfl) rfl #[.slice A1 l1.length c1] rfl (by first | rfl | (simp only [zld, zle, zlf, zlg, zlh] <;> rfl)) ?_; (with_reducible refine (zkh _ _ l1 t102 _ ?side1 ?side2 A3.out).mono ?_); (case side1 => repeat (first | exact (zCb HR1.out HB.out) | (with_reducible first | refine zCa ?_ _ | refine zCn ?_ _ | refine zCd ?_))); (case side2 => exact HC1.out); rintro e w9 ⟨v103, rfl, ho0, hb⟩; refine ⟨_, rfl, ?_⟩; have n0_ := zA (Kd.R_lower ho0 (zaj (by repeat (first | (with_reducible first | exact HB.out | apply zba | apply zbn | apply zbd | refine zaa ?_ GE101.out) | exact HB.out)))); have n1_ := zA (zad (g := gb101) (o := .cells #[.string a0_0, .int .i64 a0_1, .int .i64 a0_2, .int .i64 a0_3, .int .i64 a0_4] 102 (0, 0)) (by (with_reducible repeat (first | refine zkn ?_ _ | refine zkd ?_ | refine zka ?_ _)); exact BK101.out) hb); have n2_ := zA (zai (by repeat (first | (with_reducible first | exact HB.out | apply zba | apply zbn | apply zbd | refine zaa ?_ GE101.out) | exact HB.out)) hb); clear BK101 HB; have HO104 := n0_; have BK101 := n1_; have HB := n2_; clear n0_ n1_ n2_; (try clear hb); (try clear ho0)))
 have n0_ := zA (zRd HO104.out)
 have n1_ := zA (zkd BK101.out)
 have n2_ := zA (zbd HB.out)
 clear HO104
 clear BK101
 clear HB
 have HO104 := n0_
 have BK101 := n1_
 have HB := n2_
 clear n0_ n1_ n2_
 refine zkj (n := 8) (S := fun w' => w'.cell? ⟨gb101, 0, none⟩ = some (.string a0_0) ∧ w'.cell? ⟨gb101, 1, none⟩ = some (.int .i64 a0_1) ∧ w'.cell? ⟨gb101, 2, none⟩ = some (.int .i64 a0_2) ∧ w'.cell? ⟨gb101, 3, none⟩ = some (.int .i64 a0_3) ∧ w'.cell? ⟨gb101, 4, none⟩ = some (.int .i64 a0_4)) (ds := [7]) #[false, false, false, false, false, false, false, false] (by kernel_rfl) rfl rfl ⟨(zag BK101.out 0).trans rfl, (zag BK101.out 1).trans rfl, (zag BK101.out 2).trans rfl, (zag BK101.out 3).trans rfl, (zag BK101.out 4).trans rfl⟩ (fun hHeld => ?_); refine zi0 zm2 zmm (fun HT_ HW_ => ?_)
 generalize w9.drew = w10 at HO104 BK101 HB hHeld ⊢
 refine zd8 (i := 0) (N := some 8) (v := ?_) (a' := ?_) #[true, false, false, false, false, false, false, false] rfl rfl (zc3 HT_.out (by kernel_rfl)) (fun _ _ _ h => h) (Or.inl ⟨by rfl, ?_⟩) ?_ ?_
 rotate_left
 · intro w'
   go_simp
   with_reducible rfl
 rotate_left
 · simp only [Act.put, zla, zlb, zlc, zbl, zbr]
   rfl
 refine zd8 (i := 1) (N := some 9) (v := ?_) (a' := ?_) #[true, true, false, false, false, false, false, false] rfl rfl (zc3 HT_.out (by kernel_rfl)) (fun _ _ _ h => h) (Or.inl ⟨by rfl, ?_⟩) ?_ ?_
 rotate_left
 · intro w'
   go_simp
   with_reducible rfl
 rotate_left
 · simp only [Act.put, zla, zlb, zlc, zbl, zbr]
   rfl
 refine zd8 (i := 4) (N := some 12) (v := ?_) (a' := ?_) #[true, true, false, false, true, false, false, false] rfl rfl (zc3 HT_.out (by kernel_rfl)) (fun _ _ _ h => h) (Or.inl ⟨by rfl, ?_⟩) ?_ ?_
 rotate_left
 · intro w'
   go_simp
   with_reducible rfl
 rotate_left
 · simp only [Act.put, zla, zlb, zlc, zbl, zbr]
   rfl
 refine take_ (i := 2) (N := some 10) (v := ?_) (a' := ?_) #[true, true, true, false, true, false, false, false] rfl rfl (zfg HT_.out HW_.out (by kernel_rfl)) (fun _ _ _ h => h) (Or.inl ⟨by rfl, ?_⟩) hHeld ?_ ?_
 rotate_left
 · rintro w' ⟨s0, s1, s2, s3, s4⟩
   go_simp
   with_reducible rfl
 rotate_left
 · simp only [Act.put, zla, zlb, zlc, zbl, zbr]
   rfl
 refine take_ (i := 3) (N := some 11) (v := ?_) (a' := ?_) #[true, true, true, true, true, false, false, false] rfl rfl (zfg HT_.out HW_.out (by kernel_rfl)) (fun _ _ _ h => h) (Or.inl ⟨by rfl, ?_⟩) hHeld ?_ ?_
 rotate_left
 · rintro w' ⟨s0, s1, s2, s3, s4⟩
   go_simp
   with_reducible rfl
 rotate_left
 · simp only [Act.put, zla, zlb, zlc, zbl, zbr]
   rfl
 refine one_ (i := 5) (N := some 13) #[true, true, true, true, true, true, false, false] rfl rfl (zl9 HT_.out (by kernel_rfl)) (by decide) (fun K hK => ?_)
 refine zko Try.func224 (by kernel_rfl) rfl #[.agg #[.string a0_0, .int .i64 a0_1, .int .i64 a0_2, .int .i64 a0_3, .int .i64 a0_4], .slice A1 l1.length c1] (by rfl) rfl rfl (by first | rfl | (simp only [zld, zle, zlf, zlg, zlh] <;> rfl)) ?_
 with_reducible refine (zly a0_0 a0_1 a0_2 a0_3 a0_4 _ _ l1 t105 _ ?side1 ?side2 A4.out).mono ?_
 (case side1 => repeat (first | exact (zCb HR1.out HB.out) | (with_reducible first | refine zCa ?_ _ | refine zCn ?_ _ | refine zCd ?_)))
 (case side2 => exact HC1.out)
 rintro e w11 ⟨rfl, hb⟩
 refine ⟨_, rfl, ?_⟩
 have n0_ := zA (zRb (by (with_reducible repeat (first | apply zRa | apply zRn | apply zRd)); exact HO104.out) hb)
 have n1_ := zA (zad (g := gb101) (o := .cells #[.string a0_0, .int .i64 a0_1, .int .i64 a0_2, .int .i64 a0_3, .int .i64 a0_4] 102 (0, 0)) (by (with_reducible repeat (first | refine zkn ?_ _ | refine zkd ?_ | refine zka ?_ _)); exact BK101.out) hb)
 have n2_ := zA (zai (by repeat (first | (with_reducible first | exact HB.out | apply zba | apply zbn | apply zbd | refine zaa ?_ GE101.out) | exact HB.out)) hb)
 clear HO104
 clear BK101
 clear HB
 have HO104 := n0_
 have BK101 := n1_
 have HB := n2_
 clear n0_ n1_ n2_
 (try clear hb)
 (try clear hb2)
 (try clear hk)
 (try clear hi)
 have p7 : 0 ≤ (a0_1 : Int) := zde (by assumption)
 have q7 : (a0_1 : Int) < ((t102.length : Int) : Int) := zde (by assumption)
 obtain ⟨go7, co7, eo7, gb7, gl7, cl7, HG7⟩ := Kd.R_form HO104.out (by omega)
 (first | cases eo7 | (injection eo7 with ea_ en_ ec_; (first | subst ea_ | (injection ea_ with ea_; subst ea_)); subst ec_; clear en_))
 have GB7 := zA gb7
 have GG7 := zA HG7
 clear gb7 gl7 HG7
 obtain ⟨hx7_0, hf7_0⟩ := Kd.R_celln 0 HO104.out (a0_1 : Int) p7 q7
 replace p7 := eq_true p7
 replace q7 := eq_true q7
 have HP12 := Kd.R_putn HO104.out (a0_1 : Int) t105
 rw [← Ny106.out] at HP12
 have HQ12 := zA HP12
 clear HP12
 refine hK.out _ _ ⟨(zag BK101.out 0).trans rfl, (zag BK101.out 1).trans rfl, (zag BK101.out 2).trans rfl, (zag BK101.out 3).trans rfl, (zag BK101.out 4).trans rfl⟩ (fun hHeld => ?_)
 clear hK K
 refine zkm (a' := ?_) ?_ ?_
 rotate_left
 · show Act.put _ (some 13) _ = _
   simp only [Act.put, zla, zlb, zlc, zbl, zbr]
   rfl
 refine zd8 (i := 6) (N := some 14) (v := ?_) (a' := ?_) #[true, true, true, true, true, true, true, false] rfl rfl (zc3 HT_.out (by kernel_rfl)) (fun _ _ _ h => h) (Or.inl ⟨by rfl, ?_⟩) ?_ ?_
 rotate_left
 · intro w'
   go_simp
   with_reducible rfl
 rotate_left
 · simp only [Act.put, zla, zlb, zlc, zbl, zbr]
   rfl
 refine last_ (i := 7) (N := none) #[true, true, true, true, true, true, true, true] rfl rfl (zl9 HT_.out (by kernel_rfl)) (by decide) (fun K hK => ?_)
 refine skip_ (w1 := ?_) (by rfl) rfl ?_ ?_
 rotate_left
 · go_simp
   rfl
 refine hK.out _ _ ?_
 clear hK K
 refine zm5 (zlq HT_.out (by kernel_rfl)) ?_
 try go_wp2
 go_ret
 exact ⟨_, by first | rfl | (simp <;> rfl) | (simp [*] <;> rfl), by (with_reducible repeat (first | apply zRa | apply zRn | apply zRd)); exact HQ12.out, by repeat (first | (with_reducible first | exact HB.out | apply zba | apply zbn | apply zbd | refine zaa ?_ GB7.out | refine zaa ?_ GE101.out) | exact HB.out)⟩
def zc7 : Nat → List Int → List (S102) → Int → Int → Option (List Int)
 | 0, _, _, _, _ => none
 | k + 1, x5, x10, x11, x12 => if x12 < x11 then (if 0 ≤ x12 then (if x12 < (x10.length : Int) then ((zig ((zab x10 x12).f0) ((zab x10 x12).f1) ((zab x10 x12).f2) ((zab x10 x12).f3) ((zab x10 x12).f4) x5).bind fun t106 => (zc7 k t106 x10 x11 (wrap64 (x12 + 1)))) else (none)) else (none)) else (some x5)
def zfr (k : Nat) (l0 : List (S102)) (l1 : List Int) : Option (List Int) := (zgr l1).bind fun t101 => (zc7 k t101 l0 (l0.length : Int) 0)
theorem zju : ∀ k, (∀ y0 y1 y2 y3, LeO (zc7 k y0 y1 y2 y3) (zc7 (k + 1) y0 y1 y2 y3))
 | 0 => fun _ _ _ _ r h => by simp [zc7] at h
 | k + 1 => by
   have ih0 := zju k
   · intro y0 y1 y2 y3
     unfold zc7
     repeat' first
     | (with_reducible first | exact ih0 _ _ _ _ | exact LeO.refl _ | exact LeO.none _ | refine zaf ?_ ?_ | refine LeO.bind ?_ (fun _ => ?_))
     | exact LeO.none _
     | refine zaf ?_ ?_
     | refine LeO.bind ?_ (fun _ => ?_)
theorem ziw : ∀ a0 a1 k, LeO (zfr k a0 a1) (zfr (k + 1) a0 a1) := by
 intro a0 a1 k
 have ih0 := zju k
 unfold zfr
 repeat' first
     | (with_reducible first | exact ih0 _ _ _ _ | exact LeO.refl _ | exact LeO.none _ | refine zaf ?_ ?_ | refine LeO.bind ?_ (fun _ => ?_))
     | exact LeO.none _
     | refine zaf ?_ ?_
     | refine LeO.bind ?_ (fun _ => ?_)
set_option maxHeartbeats 8000000 in
set_option maxRecDepth 100000 in
theorem zm3 (k : Nat) (A0 : Option Addr) (c0 : Nat) (l0 : List (S102)) (A1 : Option Addr) (c1 : Nat) (l1 : List Int) (r : List Int) (w : World) (hr0 : Kd.C k102 w A0 l0.length l0) (hc0 : l0.length ≤ c0) (hr1 : Kd.C (Kd.int .i64) w A1 l1.length l1) (hc1 : l1.length ≤ c1) (h : zfr k l0 l1 = some r) :
   Calls Try.prog 133 #[.slice A0 l0.length c0, .slice A1 l1.length c1] w fun e w' => ∃ v0_ : Value, e = .returned (v0_) ∧ Kd.R (Kd.int .i64) 3 w' w.heap.size (fun _ => True) v0_ r ∧ Below w.heap.size w w' := by
 have hu102 := Try.underlying102
 have HR0 := zA hr0
 have HC0 := zA hc0
 clear hr0 hc0
 have HR1 := zA hr1
 have HC1 := zA hc1
 clear hr1 hc1
 have HB := zA (Below.refl w.heap.size w)
 have H : ((zgr l1).bind fun t101 => (zc7 k t101 l0 (l0.length : Int) 0)) = some r := h
 clear h
 replace H := zob H
 obtain ⟨t101, A30, H⟩ := H
 replace H : (zc7 k t101 l0 (l0.length : Int) 0) = some r := H
 have A3 := zA A30
 clear A30
 have H' := zA H
 clear H
 go_enter Try.func133, Try.ntmps133
 go_wp2_with (first | ((with_reducible refine zae (f := 194) rfl ?_); refine zaz (some 9) rfl rfl Try.func194 (by kernel_rfl) rfl #[.slice A1 l1.length c1] rfl (by first | rfl | (simp only [zld, zle, zlf, zlg, zlh] <;> rfl)) ?_; (with_reducible refine (zkh _ _ l1 t101 _ ?side1 ?side2 A3.out).mono ?_); (case side1 => repeat (first | exact HR1.out | (with_reducible first | refine zCa ?_ _ | refine zCn ?_ _ | refine zCd ?_))); (case side2 => exact HC1.out); rintro e w4 ⟨v102, rfl, ho0, hb⟩; refine ⟨_, rfl, ?_⟩; have n0_ := zA (Kd.R_lower ho0 (zaj (by repeat (first | (with_reducible first | exact HB.out | apply zba | apply zbn | apply zbd) | exact HB.out)))); have n1_ := zA (zai (by repeat (first | (with_reducible first | exact HB.out | apply zba | apply zbn | apply zbd) | exact HB.out)) hb); clear HB; have HO103 := n0_; have HB := n1_; clear n0_ n1_; (try clear hb); (try clear ho0)))
 go_loopg [5, 12] k (fun kq v5 v12 w' => ∃ (x5_1 : List Int) (x12_1 : Int), v12 = .int .i64 x12_1 ∧ Aside0 (zc7 kq x5_1 l0 (l0.length : Int) x12_1 = some r) ∧ Aside0 (kq ≤ k) ∧ Aside0 (Kd.R (Kd.int .i64) 3 w' w.heap.size (fun _ => True) v5 x5_1) ∧ Aside0 (Below w.heap.size w w'))
 case atStart => exact ⟨(t101), (0), (by first | rfl | (simp; done) | (simp [*]; done)), H', ⟨zlr _⟩, ⟨by (with_reducible repeat (first | apply zRa | apply zRn | apply zRd)); exact HO103.out⟩, ⟨by repeat (first | (with_reducible first | exact HB.out | apply zba | apply zbn | apply zbd) | exact HB.out)⟩⟩
 clear H'
 try clear c1
 try clear p2
 obtain ⟨x5_1, x12_1, rfl, HA, HK1, HO_5, HB⟩ := hrel
 cases gk with
 | zero => exact absurd HA.out (by simp [zc7])
 | succ k1 =>
 have H := HA.out
 clear HA
 simp only [zc7] at H
 by_cases c5 : x12_1 < (l0.length : Int)
 rotate_left
 · rw [if_neg c5] at H
   have c5b0 : decide (x12_1 < (l0.length : Int)) = false := zdf c5
   clear c5
   obtain rfl := zsi H
   go_wp2
   go_ret
   exact ⟨_, by first | rfl | (simp <;> rfl) | (simp [*] <;> rfl), by (with_reducible repeat (first | apply zRa | apply zRn | apply zRd)); exact HO_5.out, by repeat (first | (with_reducible first | exact HB.out | apply zba | apply zbn | apply zbd) | exact HB.out)⟩
 rw [if_pos c5] at H
 have c5b0 : decide (x12_1 < (l0.length : Int)) = true := zdt c5
 clear c5
 by_cases c6 : 0 ≤ x12_1
 rotate_left
 · rw [if_neg c6] at H
   exact absurd H (by simp)
 rw [if_pos c6] at H
 have c6b0 : decide (0 ≤ x12_1) = true := zdt c6
 clear c6
 by_cases c7 : x12_1 < (l0.length : Int)
 rotate_left
 · rw [if_neg c7] at H
   exact absurd H (by simp)
 rw [if_pos c7] at H
 have c7b0 : decide (x12_1 < (l0.length : Int)) = true := zdt c7
 clear c7
 replace H := zob H
 obtain ⟨t106, A80, H⟩ := H
 replace H : (zc7 k1 t106 l0 (l0.length : Int) (wrap64 (x12_1 + 1))) = some r := H
 have A8 := zA A80
 clear A80
 have H' := zA H
 clear H
 have p104 : 0 ≤ (x12_1 : Int) := zde (by assumption)
 have q104 : x12_1 < (l0.length : Int) := zde (by assumption)
 obtain ⟨ad104, e104, hx104_0, hx104_1, hx104_2, hx104_3, hx104_4⟩ := zg1 HR0.out x12_1 p104 q104
 cases e104
 replace hx104_0 := zkep HB.out hx104_0
 replace hx104_1 := zkep HB.out hx104_1
 replace hx104_2 := zkep HB.out hx104_2
 replace hx104_3 := zkep HB.out hx104_3
 replace hx104_4 := zkep HB.out hx104_4
 replace p104 := eq_true p104
 replace q104 := eq_true q104
 go_wp2_with (first | ((with_reducible refine zam (N := 7) rfl ?_); refine zak ?hg (N := 7) ?hd (cs := #[.string (⟨#[]⟩ : ByteArray), .int .i64 0, .int .i64 0, .int .i64 0, .int .i64 0]) (t := 102) ?hr ?_; (case hd => rfl); (case hg => rfl); (case hr => go_simp <;> rfl); intro gb105 hg w9 hbox hb; have n0_ := zA (zRb (by (with_reducible repeat (first | apply zRa | apply zRn | apply zRd)); exact HO_5.out) hb); have zs := zpair (by repeat (first | (with_reducible first | exact HB.out | apply zba | apply zbn | apply zbd) | exact HB.out)) hb; have n1_ := zA (zs.1); have n2_ := zA (hbox); have n3_ := zA ((by rw [hg]; exact zs.2 : w.heap.size ≤ gb105)); have n4_ := n3_; clear HO_5 HB; have HO_5 := n0_; have HB := n1_; have BK105 := n2_; have GW105 := n3_; have GE105 := n4_; clear n0_ n1_ n2_ n3_ n4_; clear zs hb hbox hg; obtain ⟨hcz10_0, hcz10_1, hcz10_2, hcz10_3, hcz10_4⟩ := zc5 w9 (.string (⟨#[]⟩ : ByteArray)) (.int .i64 0) (.int .i64 0) (.int .i64 0) (.int .i64 0) BK105.out; obtain ⟨hfz10_0, hfz10_1, hfz10_2, hfz10_3, hfz10_4⟩ := zf5 BK105.out; obtain ⟨Ao11, co11, eo11⟩ := Kd.R_slice HO_5.out; subst eo11) | ((with_reducible refine zae (f := 195) rfl ?_); refine zaz (some 18) rfl rfl Try.func195 (by kernel_rfl) rfl #[.agg #[.string ((zab l0 x12_1).f0), .int .i64 ((zab l0 x12_1).f1), .int .i64 ((zab l0 x12_1).f2), .int .i64 ((zab l0 x12_1).f3), .int .i64 ((zab l0 x12_1).f4)], .slice Ao11 x5_1.length co11] rfl (by first | rfl | (simp only [zld, zle, zlf, zlg, zlh] <;> rfl)) ?_; (with_reducible refine (zmn ((zab l0 x12_1).f0) ((zab l0 x12_1).f1) ((zab l0 x12_1).f2) ((zab l0 x12_1).f3) ((zab l0 x12_1).f4) _ _ x5_1 t106 _ ?side1 ?side2 A8.out).mono ?_); (case side1 => refine (zRr (e := 3) (base := w.heap.size) (ok := fun k_ => True) (n := x5_1.length) (c := co11) ?_).2.2; exact (by (with_reducible repeat (first | apply zRa | apply zRn | apply zRd)); exact (Kd.R_mono (Kd.R_far (p := ⟨gb105, 4, none⟩) (Kd.R_far (p := ⟨gb105, 3, none⟩) (Kd.R_far (p := ⟨gb105, 2, none⟩) (Kd.R_far (p := ⟨gb105, 1, none⟩) (Kd.R_far (p := ⟨gb105, 0, none⟩) (Kd.R_types HO_5.out BK105.out (by decide)) (fun _ hk => hk.2) (.string ((zab l0 x12_1).f0))) (fun _ hk => hk.2) (.int .i64 ((zab l0 x12_1).f1))) (fun _ hk => hk.2) (.int .i64 ((zab l0 x12_1).f2))) (fun _ hk => hk.2) (.int .i64 ((zab l0 x12_1).f3))) (fun _ hk => hk.2) (.int .i64 ((zab l0 x12_1).f4))) (fun _ h_ => h_.1)))); (case side2 => exact (zRr HO_5.out).2.1); rintro e w12 ⟨v107, rfl, ho0, hb⟩; refine ⟨_, rfl, ?_⟩; have n0_ := zA (Kd.R_elder' (by (with_reducible repeat (first | apply zRa | apply zRn | apply zRd)); exact (Kd.R_mono (Kd.R_far (p := ⟨gb105, 4, none⟩) (Kd.R_far (p := ⟨gb105, 3, none⟩) (Kd.R_far (p := ⟨gb105, 2, none⟩) (Kd.R_far (p := ⟨gb105, 1, none⟩) (Kd.R_far (p := ⟨gb105, 0, none⟩) (Kd.R_types HO_5.out BK105.out (by decide)) (fun _ hk => hk.2) (.string ((zab l0 x12_1).f0))) (fun _ hk => hk.2) (.int .i64 ((zab l0 x12_1).f1))) (fun _ hk => hk.2) (.int .i64 ((zab l0 x12_1).f2))) (fun _ hk => hk.2) (.int .i64 ((zab l0 x12_1).f3))) (fun _ hk => hk.2) (.int .i64 ((zab l0 x12_1).f4))) (fun _ h_ => h_.1))) (Kd.R_base ho0) hb); have n1_ := zA (Kd.R_lower (Kd.R_new' ho0 (Kd.R_lt (by (with_reducible repeat (first | apply zRa | apply zRn | apply zRd)); exact (Kd.R_mono (Kd.R_far (p := ⟨gb105, 4, none⟩) (Kd.R_far (p := ⟨gb105, 3, none⟩) (Kd.R_far (p := ⟨gb105, 2, none⟩) (Kd.R_far (p := ⟨gb105, 1, none⟩) (Kd.R_far (p := ⟨gb105, 0, none⟩) (Kd.R_types HO_5.out BK105.out (by decide)) (fun _ hk => hk.2) (.string ((zab l0 x12_1).f0))) (fun _ hk => hk.2) (.int .i64 ((zab l0 x12_1).f1))) (fun _ hk => hk.2) (.int .i64 ((zab l0 x12_1).f2))) (fun _ hk => hk.2) (.int .i64 ((zab l0 x12_1).f3))) (fun _ hk => hk.2) (.int .i64 ((zab l0 x12_1).f4))) (fun _ h_ => h_.1))))) (zaj (by repeat (first | (with_reducible first | exact HB.out | apply zba | apply zbn | apply zbd | refine zaa ?_ GE105.out) | exact HB.out)))); have n2_ := zA (zad (g := gb105) (o := .cells #[.string ((zab l0 x12_1).f0), .int .i64 ((zab l0 x12_1).f1), .int .i64 ((zab l0 x12_1).f2), .int .i64 ((zab l0 x12_1).f3), .int .i64 ((zab l0 x12_1).f4)] 102 (0, 0)) (by (with_reducible repeat (first | refine zkn ?_ _ | refine zkd ?_ | refine zka ?_ _)); refine zbv (cs := #[.string ((zab l0 x12_1).f0), .int .i64 ((zab l0 x12_1).f1), .int .i64 ((zab l0 x12_1).f2), .int .i64 ((zab l0 x12_1).f3), .int .i64 0]) ?_ 4 _ rfl; (with_reducible repeat (first | refine zkn ?_ _ | refine zkd ?_ | refine zka ?_ _)); refine zbv (cs := #[.string ((zab l0 x12_1).f0), .int .i64 ((zab l0 x12_1).f1), .int .i64 ((zab l0 x12_1).f2), .int .i64 0, .int .i64 0]) ?_ 3 _ rfl; (with_reducible repeat (first | refine zkn ?_ _ | refine zkd ?_ | refine zka ?_ _)); refine zbv (cs := #[.string ((zab l0 x12_1).f0), .int .i64 ((zab l0 x12_1).f1), .int .i64 0, .int .i64 0, .int .i64 0]) ?_ 2 _ rfl; (with_reducible repeat (first | refine zkn ?_ _ | refine zkd ?_ | refine zka ?_ _)); refine zbv (cs := #[.string ((zab l0 x12_1).f0), .int .i64 0, .int .i64 0, .int .i64 0, .int .i64 0]) ?_ 1 _ rfl; (with_reducible repeat (first | refine zkn ?_ _ | refine zkd ?_ | refine zka ?_ _)); refine zbv (cs := #[.string (⟨#[]⟩ : ByteArray), .int .i64 0, .int .i64 0, .int .i64 0, .int .i64 0]) ?_ 0 _ rfl; (with_reducible repeat (first | refine zkn ?_ _ | refine zkd ?_ | refine zka ?_ _)); exact BK105.out) hb); have n3_ := zA (zai (by repeat (first | (with_reducible first | exact HB.out | apply zba | apply zbn | apply zbd | refine zaa ?_ GE105.out) | exact HB.out)) hb); clear HO_5 BK105 HB; have HO_5 := n0_; have HO108 := n1_; have BK105 := n2_; have HB := n3_; clear n0_ n1_ n2_ n3_; (try clear hb); (try clear hk); (try clear ho0)))
 go_roundg k1
 case measure => have := HK1.out; omega
 case rel => exact ⟨(t106), (wrap64 (x12_1 + 1)), (by first | rfl | (simp; done) | (simp [*]; done)), H', ⟨by have := HK1.out; omega⟩, ⟨by (with_reducible repeat (first | apply zRa | apply zRn | apply zRd)); exact Kd.R_mono HO108.out (fun _ hk => trivial)⟩, ⟨by repeat (first | (with_reducible first | exact HB.out | apply zba | apply zbn | apply zbd | refine zaa ?_ GE105.out) | exact HB.out)⟩⟩
def zjk (a0 : Int) (a1 : Int) : Option (List Int) := if 6 ≤ 35184372088832 then ((some (List.replicate 6 0 : List Int)).bind fun y101 => (if 0 < (y101.length : Int) then (if 1 < (y101.length : Int) then (some ((y101.set (0 : Int).toNat a0).set (1 : Int).toNat a1)) else (none)) else (none))) else (none)
set_option maxHeartbeats 8000000 in
set_option maxRecDepth 100000 in
theorem zlz (a0 : Int) (a1 : Int) (r : List Int) (w : World) (h : zjk a0 a1 = some r) :
   Calls Try.prog 134 #[.int .i64 a0, .int .i64 a1] w fun e w' => ∃ v0_ : Value, e = .returned (v0_) ∧ Kd.R (Kd.int .i64) 3 w' w.heap.size (fun _ => True) v0_ r ∧ Below w.heap.size w w' := by
 have HB := zA (Below.refl w.heap.size w)
 have H : (if 6 ≤ 35184372088832 then ((some (List.replicate 6 0 : List Int)).bind fun y101 => (if 0 < (y101.length : Int) then (if 1 < (y101.length : Int) then (some ((y101.set (0 : Int).toNat a0).set (1 : Int).toNat a1)) else (none)) else (none))) else (none)) = some r := h
 clear h
 by_cases c3 : 6 ≤ 35184372088832
 rotate_left
 · rw [if_neg c3] at H
   exact absurd H (by simp)
 rw [if_pos c3] at H
 have c3b0 := eq_true c3
 have c3b1 : decide (6 ≤ 35184372088832) = true := zdt c3
 clear c3
 obtain ⟨y101, hy101⟩ : ∃ y_ : List Int, y_ = (List.replicate 6 0) := ⟨_, rfl⟩
 replace H : (if 0 < (y101.length : Int) then (if 1 < (y101.length : Int) then (some ((y101.set (0 : Int).toNat a0).set (1 : Int).toNat a1)) else (none)) else (none)) = some r := by first | (rw [hy101]; with_reducible exact H) | (have H2_ := (Option.bind_some _ _).symm.trans H; rw [hy101]; with_reducible exact H2_) | (have H2_ := (Option.bind_some _ _).symm.trans H; with_reducible exact H2_) | with_reducible exact H | (rw [hy101]; exact H) | exact H
 have Ny101 := zA hy101
 clear hy101
 by_cases c4 : 0 < (y101.length : Int)
 rotate_left
 · rw [if_neg c4] at H
   exact absurd H (by simp)
 rw [if_pos c4] at H
 have c4b0 : decide (0 < (y101.length : Int)) = true := zdt c4
 have c4b1 : decide (0 < y101.length) = true := zdt (by omega)
 clear c4
 obtain ⟨y104, hy104⟩ : ∃ y_ : List Int, y_ = (y101.set (0 : Int).toNat a0) := ⟨_, rfl⟩
 replace H : (if 1 < (y101.length : Int) then (some (y104.set (1 : Int).toNat a1)) else (none)) = some r := by first | (rw [hy104]; with_reducible exact H) | (have H2_ := (Option.bind_some _ _).symm.trans H; rw [hy104]; with_reducible exact H2_) | (have H2_ := (Option.bind_some _ _).symm.trans H; with_reducible exact H2_) | with_reducible exact H | (rw [hy104]; exact H) | exact H
 have Ny104 := zA hy104
 clear hy104
 by_cases c6 : 1 < (y101.length : Int)
 rotate_left
 · rw [if_neg c6] at H
   exact absurd H (by simp)
 rw [if_pos c6] at H
 have c6b0 : decide (1 < (y101.length : Int)) = true := zdt c6
 have c6b1 : decide (1 < y101.length) = true := zdt (by omega)
 clear c6
 obtain ⟨y105, hy105⟩ : ∃ y_ : List Int, y_ = (y104.set (1 : Int).toNat a1) := ⟨_, rfl⟩
 replace H : (some y105) = some r := by first | (rw [hy105]; with_reducible exact H) | (have H2_ := (Option.bind_some _ _).symm.trans H; rw [hy105]; with_reducible exact H2_) | (have H2_ := (Option.bind_some _ _).symm.trans H; with_reducible exact H2_) | with_reducible exact H | (rw [hy105]; exact H) | exact H
 have Ny105 := zA hy105
 clear hy105
 obtain rfl := zsi H
 go_enter Try.func134, Try.ntmps134
 go_wp2_with (first | ((with_reducible refine zam (N := 6) rfl ?_); refine Kd.R_make (Kd.int .i64) _ 3 rfl (N := 6) rfl 51 _ _ rfl 6 rfl rfl Try.underlying51 (.int .i64 0) 8 zmd rfl (by decide) (by omega) 0 (ok := fun _ => True) (okp := fun _ => True) rfl (fun _ hk => hk) trivial (by omega) (by omega) (Below.refl _ _) (zlr _) ?_; intro v102 w8 ho9 hb hg_ hnew_; clear hg_ hnew_; (first | rw [← Ny101.out] at ho9 | (simp only [Int.reduceToNat] at ho9; rw [← Ny101.out] at ho9)); have n0_ := zA (Kd.R_lower ho9 (zaj (by repeat (first | (with_reducible first | exact HB.out | apply zba | apply zbn | apply zbd) | exact HB.out)))); have n1_ := zA (zai (by repeat (first | (with_reducible first | exact HB.out | apply zba | apply zbn | apply zbd) | exact HB.out)) hb); clear HB; have HO103 := n0_; have HB := n1_; clear n0_ n1_; clear hb ho9; have p5 : 0 ≤ (0 : Int) := (by omega); have q5 : (0 : Int) < ((y101.length : Int) : Int) := zde (by assumption); have qi5 : (0 < y101.length) = True := eq_true (by omega); obtain ⟨go5, co5, eo5, gb5, gl5, cl5, HG5⟩ := Kd.R_form HO103.out (by omega); (first | cases eo5 | (injection eo5 with ea_ en_ ec_; (first | subst ea_ | (injection ea_ with ea_; subst ea_)); subst ec_; clear en_)); have GB5 := zA gb5; have GG5 := zA HG5; clear gb5 gl5 HG5; obtain ⟨hx5_0, hf5_0⟩ := Kd.R_celln 0 HO103.out (0 : Int) p5 q5; (try rw [show ((0 : Int)).toNat = 0 from rfl] at hx5_0); (try simp only [Nat.reduceMul, Nat.zero_mul, Nat.zero_add, Nat.reduceAdd] at hx5_0); (try rw [show ((0 : Int)).toNat = 0 from rfl] at hf5_0); (try simp only [Nat.reduceMul, Nat.zero_mul, Nat.zero_add, Nat.reduceAdd] at hf5_0); replace p5 := eq_true p5; replace q5 := eq_true q5; obtain ⟨hy10_, hz10_⟩ := Kd.R_celln 0 HO103.out (0 : Int) (by omega) (zde (by assumption)); (try simp only [Int.reduceToNat, Int.toNat_zero, Int.toNat_ofNat, Nat.reduceMul, Nat.zero_mul, Nat.zero_add] at hy10_ hz10_); (try rw [show ((0 : Int)).toNat = 0 from rfl] at hy10_); (try rw [show ((0 : Int)).toNat = 0 from rfl] at hz10_); have HP10 := Kd.R_putg HO103.out (0 : Int) a0) | ((with_reducible refine zey (t := 3) (p := 9) rfl ?_); refine zeg (t := 3) (p := 9) (v := ?vo_w11) (w1 := (w8.setCell ⟨go5, (0 : Int).toNat, none⟩ (.int .i64 a0))) ?hg ?ho ?hn ?hr ?_; (case ho => rfl); (case hg => rfl); (case hn => rfl); (case hr => go_simp <;> rfl); intro w11 hw; have hg : w8.grownBy w11 (some go5) := (by rw [hw]; exact HP10.2); have hp_ : Kd.R (Kd.int .i64) 3 w11 w.heap.size (fun _ => True) (.slice (some ⟨go5, 0, none⟩) y101.length co5) y104 := (by rw [hw, Ny104.out]; exact HP10.1); clear HP10; have n0_ := zA (hp_); have n1_ := zA ((by rw [hw]; exact zaa (HB.out) GB5.out : Below w.heap.size w w11)); clear HO103 HB; have HO103 := n0_; have HB := n1_; clear n0_ n1_; clear hg hw hp_; have p7 : 0 ≤ (1 : Int) := (by omega); have q7 : (1 : Int) < ((y101.length : Int) : Int) := zde (by assumption); have qi7 : (1 < y101.length) = True := eq_true (by omega); obtain ⟨hx7_0, hf7_0⟩ := Kd.R_celln 0 HO103.out (1 : Int) p7 q7; (try rw [show ((1 : Int)).toNat = 1 from rfl] at hx7_0); (try simp only [Nat.reduceMul, Nat.zero_mul, Nat.zero_add, Nat.reduceAdd] at hx7_0); (try rw [show ((1 : Int)).toNat = 1 from rfl] at hf7_0); (try simp only [Nat.reduceMul, Nat.zero_mul, Nat.zero_add, Nat.reduceAdd] at hf7_0); replace p7 := eq_true p7; replace q7 := eq_true q7; obtain ⟨hy12_, hz12_⟩ := Kd.R_celln 0 HO103.out (1 : Int) (by omega) (zde (by assumption)); (try simp only [Int.reduceToNat, Int.toNat_zero, Int.toNat_ofNat, Nat.reduceMul, Nat.zero_mul, Nat.zero_add] at hy12_ hz12_); (try rw [show ((1 : Int)).toNat = 1 from rfl] at hy12_); (try rw [show ((1 : Int)).toNat = 1 from rfl] at hz12_); have HP12 := Kd.R_putg HO103.out (1 : Int) a1) | ((with_reducible refine zey (t := 3) (p := 12) rfl ?_); refine zeg (t := 3) (p := 12) (v := ?vo_w13) (w1 := (w11.setCell ⟨go5, (1 : Int).toNat, none⟩ (.int .i64 a1))) ?hg ?ho ?hn ?hr ?_; (case ho => rfl); (case hg => rfl); (case hn => rfl); (case hr => go_simp <;> rfl); intro w13 hw; have hg : w11.grownBy w13 (some go5) := (by rw [hw]; exact HP12.2); have hp_ : Kd.R (Kd.int .i64) 3 w13 w.heap.size (fun _ => True) (.slice (some ⟨go5, 0, none⟩) y101.length co5) y105 := (by rw [hw, Ny105.out]; exact HP12.1); clear HP12; have n0_ := zA (hp_); have n1_ := zA ((by rw [hw]; exact zaa (HB.out) GB5.out : Below w.heap.size w w13)); clear HO103 HB; have HO103 := n0_; have HB := n1_; clear n0_ n1_; clear hg hw hp_))
 go_ret
 exact ⟨_, by first | rfl | (simp <;> rfl) | (simp [*] <;> rfl), by (with_reducible repeat (first | apply zRa | apply zRn | apply zRd)); exact HO103.out, by repeat (first | (with_reducible first | exact HB.out | apply zba | apply zbn | apply zbd) | exact HB.out)⟩
end Go.Proofs.Ytccoiifklcgodaa.Q
end
section
namespace Go.Proofs.Ytccoiifklcgodaa.Q
open Go.RowKit Go.Proofs.YtccoiifklcgodaaW.PrintWords Go.Proofs.YtccoiifklcgodaaW.PrintLast Go.Proofs.YtccoiifklcgodaaW.PrintMore
attribute [local go_sem] zdk zdl zee zef zcq zcr zdm zdn
set_option linter.unusedVariables false
set_option linter.unusedSimpArgs false
mutual
def zc1 : Nat → List (S102) → Int → List Int → Int → Option (List Int)
 | 0, _, _, _, _ => none
 | k + 1, x0, x1, x5, x6 => if x6 ≤ 63 then (zce k x0 x1 x5 x6 0) else (some x5)
def zce : Nat → List (S102) → Int → List Int → Int → Int → Option (List Int)
 | 0, _, _, _, _, _ => none
 | k + 1, x0, x1, x5, x6, x7 => if x7 ≤ 63 then ((zjk x6 x7).bind fun t101 => ((zfr k x0 t101).bind fun t104 => (if 0 ≤ x1 then (if x1 < (t104.length : Int) then (if x5.length < 17592186044416 then (zce k x0 x1 (x5 ++ [rd t104 x1]) x6 (wrap64 (x7 + 1))) else (none)) else (none)) else (none)))) else (zc1 k x0 x1 x5 (wrap64 (x6 + 1)))
end
def zet (k : Nat) (l0 : List (S102)) (a1 : Int) : Option (List Int) := zc1 k l0 a1 ([] : List Int) 0
theorem zix : ∀ k, (∀ y0 y1 y2 y3, LeO (zc1 k y0 y1 y2 y3) (zc1 (k + 1) y0 y1 y2 y3)) ∧ (∀ y0 y1 y2 y3 y4, LeO (zce k y0 y1 y2 y3 y4) (zce (k + 1) y0 y1 y2 y3 y4))
 | 0 => ⟨fun _ _ _ _ r h => by simp [zc1] at h, fun _ _ _ _ _ r h => by simp [zce] at h⟩
 | k + 1 => by
   obtain ⟨ih0, ih1⟩ := zix k
   refine ⟨?_, ?_⟩
   · intro y0 y1 y2 y3
     unfold zc1
     repeat' first
     | (with_reducible first | exact ih0 _ _ _ _ | exact ih1 _ _ _ _ _ | exact ziw _ _ _ | exact LeO.refl _ | exact LeO.none _ | refine zaf ?_ ?_ | refine LeO.bind ?_ (fun _ => ?_))
     | exact LeO.none _
     | refine zaf ?_ ?_
     | refine LeO.bind ?_ (fun _ => ?_)
   · intro y0 y1 y2 y3 y4
     unfold zce
     repeat' first
     | (with_reducible first | exact ih0 _ _ _ _ | exact ih1 _ _ _ _ _ | exact ziw _ _ _ | exact LeO.refl _ | exact LeO.none _ | refine zaf ?_ ?_ | refine LeO.bind ?_ (fun _ => ?_))
     | exact LeO.none _
     | refine zaf ?_ ?_
     | refine LeO.bind ?_ (fun _ => ?_)
theorem zjv : ∀ a0 a1 k, LeO (zet k a0 a1) (zet (k + 1) a0 a1) := by
 intro a0 a1 k
 obtain ⟨ih0, ih1⟩ := zix k
 unfold zet
 repeat' first
     | (with_reducible first | exact ih0 _ _ _ _ | exact ih1 _ _ _ _ _ | exact ziw _ _ _ | exact LeO.refl _ | exact LeO.none _ | refine zaf ?_ ?_ | refine LeO.bind ?_ (fun _ => ?_))
     | exact LeO.none _
     | refine zaf ?_ ?_
     | refine LeO.bind ?_ (fun _ => ?_)
set_option maxHeartbeats 8000000 in
set_option maxRecDepth 100000 in
theorem zl0 (k : Nat) (A0 : Option Addr) (c0 : Nat) (l0 : List (S102)) (a1 : Int) (r : List Int) (w : World) (hr0 : Kd.C k102 w A0 l0.length l0) (hc0 : l0.length ≤ c0) (h : zet k l0 a1 = some r) :
   Calls Try.prog 101 #[.slice A0 l0.length c0, .int .i64 a1] w fun e w' => ∃ v0_ : Value, e = .returned (v0_) ∧ Kd.R (Kd.int .i64) 3 w' w.heap.size (fun _ => True) v0_ r ∧ Below w.heap.size w w' := by
 have HR0 := zA hr0
 have HC0 := zA hc0
 clear hr0 hc0
 have HB := zA (Below.refl w.heap.size w)
 have H : (zc1 k l0 a1 ([] : List Int) 0) = some r := h
 clear h
 have H' := zA H
 clear H
 go_enter Try.func101, Try.ntmps101
 go_wp2
 go_loopg [5, 6] k (fun kq v5 v6 w' => ∃ (x5_1 : List Int) (x6_1 : Int), v6 = .int .i64 x6_1 ∧ Aside0 (zc1 kq l0 a1 x5_1 x6_1 = some r) ∧ Aside0 (kq ≤ k) ∧ Aside0 (Kd.R (Kd.int .i64) 3 w' w.heap.size (fun _ => True) v5 x5_1) ∧ Aside0 (Below w.heap.size w w'))
 case atStart => exact ⟨(([] : List Int)), (0), (by first | rfl | (simp; done) | (simp [*]; done)), H', ⟨zlr _⟩, ⟨by first | exact Kd.R_nil _ _ _ _ _ | exact Kd.N_nil _ _ _ _ _ | exact Kd.V_nil _ _ _ _ _ | exact Kd.Q_nil _ _ _ _ _ | exact Kd.S_nil _ _ _ _ _⟩, ⟨by repeat (first | (with_reducible first | exact HB.out | apply zba | apply zbn | apply zbd) | exact HB.out)⟩⟩
 clear H'
 try clear c1
 try clear p2
 obtain ⟨x5_1, x6_1, rfl, HA, HK1, HO_5, HB⟩ := hrel
 cases gk with
 | zero => exact absurd HA.out (by simp [zc1])
 | succ k1 =>
 have H := HA.out
 clear HA
 simp only [zc1] at H
 by_cases c3 : x6_1 ≤ 63
 rotate_left
 · rw [if_neg c3] at H
   have c3b0 : decide (x6_1 ≤ 63) = false := zdf c3
   clear c3
   obtain rfl := zsi H
   go_wp2
   go_ret
   exact ⟨_, by first | rfl | (simp <;> rfl) | (simp [*] <;> rfl), by (with_reducible repeat (first | apply zRa | apply zRn | apply zRd)); exact HO_5.out, by repeat (first | (with_reducible first | exact HB.out | apply zba | apply zbn | apply zbd) | exact HB.out)⟩
 rw [if_pos c3] at H
 have c3b0 : decide (x6_1 ≤ 63) = true := zdt c3
 clear c3
 have H' := zA H
 clear H
 go_wp2
 go_loopg [5, 7] k1 (fun kq v5 v7 w' => ∃ (x5_2 : List Int) (x7_2 : Int), v7 = .int .i64 x7_2 ∧ Aside0 (zce kq l0 a1 x5_2 x6_1 x7_2 = some r) ∧ Aside0 (kq ≤ k1) ∧ Aside0 (Kd.R (Kd.int .i64) 3 w' w.heap.size (fun _ => True) v5 x5_2) ∧ Aside0 (Below w.heap.size w w'))
 case atStart => exact ⟨(x5_1), (0), (by first | rfl | (simp; done) | (simp [*]; done)), H', ⟨zlr _⟩, ⟨by (with_reducible repeat (first | apply zRa | apply zRn | apply zRd)); exact HO_5.out⟩, ⟨by repeat (first | (with_reducible first | exact HB.out | apply zba | apply zbn | apply zbd) | exact HB.out)⟩⟩
 clear H'
 try clear c1
 try clear p2
 try clear c3
 try clear c3b0
 try clear p2
 obtain ⟨x5_2, x7_2, rfl, HA, HK2, HO_5, HB⟩ := hrel
 cases gk with
 | zero => exact absurd HA.out (by simp [zce])
 | succ k2 =>
 have H := HA.out
 clear HA
 simp only [zce] at H
 by_cases c4 : x7_2 ≤ 63
 rotate_left
 · rw [if_neg c4] at H
   have c4b0 : decide (x7_2 ≤ 63) = false := zdf c4
   clear c4
   have H' := zA H
   clear H
   go_wp2
   go_roundg k2
   case measure => have := HK1.out; have := HK2.out; omega
   case rel => exact ⟨(x5_2), (wrap64 (x6_1 + 1)), (by first | rfl | (simp; done) | (simp [*]; done)), H', ⟨by have := HK1.out; have := HK2.out; omega⟩, ⟨by (with_reducible repeat (first | apply zRa | apply zRn | apply zRd)); exact HO_5.out⟩, ⟨by repeat (first | (with_reducible first | exact HB.out | apply zba | apply zbn | apply zbd) | exact HB.out)⟩⟩
 rw [if_pos c4] at H
 have c4b0 : decide (x7_2 ≤ 63) = true := zdt c4
 clear c4
 replace H := zob H
 obtain ⟨t101, A50, H⟩ := H
 replace H : ((zfr k2 l0 t101).bind fun t104 => (if 0 ≤ a1 then (if a1 < (t104.length : Int) then (if x5_2.length < 17592186044416 then (zce k2 l0 a1 (x5_2 ++ [rd t104 a1]) x6_1 (wrap64 (x7_2 + 1))) else (none)) else (none)) else (none))) = some r := H
 have A5 := zA A50
 clear A50
 replace H := zob H
 obtain ⟨t104, A60, H⟩ := H
 replace H : (if 0 ≤ a1 then (if a1 < (t104.length : Int) then (if x5_2.length < 17592186044416 then (zce k2 l0 a1 (x5_2 ++ [rd t104 a1]) x6_1 (wrap64 (x7_2 + 1))) else (none)) else (none)) else (none)) = some r := H
 have A6 := zA A60
 clear A60
 by_cases c7 : 0 ≤ a1
 rotate_left
 · rw [if_neg c7] at H
   exact absurd H (by simp)
 rw [if_pos c7] at H
 have c7b0 : decide (0 ≤ a1) = true := zdt c7
 clear c7
 by_cases c8 : a1 < (t104.length : Int)
 rotate_left
 · rw [if_neg c8] at H
   exact absurd H (by simp)
 rw [if_pos c8] at H
 have c8b0 : decide (a1 < (t104.length : Int)) = true := zdt c8
 clear c8
 by_cases c9 : x5_2.length < 17592186044416
 rotate_left
 · rw [if_neg c9] at H
   exact absurd H (by simp)
 rw [if_pos c9] at H
 have LMc9 := zA c9
 clear c9
 obtain ⟨y108, hy108⟩ : ∃ y_ : List Int, y_ = (x5_2 ++ [rd t104 a1]) := ⟨_, rfl⟩
 replace H : (zce k2 l0 a1 y108 x6_1 (wrap64 (x7_2 + 1))) = some r := by first | (rw [hy108]; with_reducible exact H) | (have H2_ := (Option.bind_some _ _).symm.trans H; rw [hy108]; with_reducible exact H2_) | (have H2_ := (Option.bind_some _ _).symm.trans H; with_reducible exact H2_) | with_reducible exact H | (rw [hy108]; exact H) | exact H
 have Ny108 := zA hy108
 clear hy108
 have H' := zA H
 clear H
 go_wp2_with (first | ((with_reducible refine zae (f := 134) rfl ?_); refine zaz (some 20) rfl rfl Try.func134 (by kernel_rfl) rfl #[.int .i64 x6_1, .int .i64 x7_2] rfl (by first | rfl | (simp only [zld, zle, zlf, zlg, zlh] <;> rfl)) ?_; (with_reducible refine (zlz x6_1 x7_2 t101 _ A5.out).mono ?_); rintro e w10 ⟨v102, rfl, ho0, hb⟩; refine ⟨_, rfl, ?_⟩; have n0_ := zA (Kd.R_elder' (by (with_reducible repeat (first | apply zRa | apply zRn | apply zRd)); exact HO_5.out) (Kd.R_base ho0) hb); have n1_ := zA (Kd.R_lower (Kd.R_new' ho0 (Kd.R_lt (by (with_reducible repeat (first | apply zRa | apply zRn | apply zRd)); exact HO_5.out))) (zaj (by repeat (first | (with_reducible first | exact HB.out | apply zba | apply zbn | apply zbd) | exact HB.out)))); have n2_ := zA (zai (by repeat (first | (with_reducible first | exact HB.out | apply zba | apply zbn | apply zbd) | exact HB.out)) hb); clear HO_5 HB; have HO_5 := n0_; have HO103 := n1_; have HB := n2_; clear n0_ n1_ n2_; (try clear hb); (try clear hk); (try clear ho0); obtain ⟨Ao11, co11, eo11⟩ := Kd.R_slice HO103.out; subst eo11) | ((with_reducible refine zae (f := 133) rfl ?_); refine zaz (some 21) rfl rfl Try.func133 (by kernel_rfl) rfl #[.slice A0 l0.length c0, .slice Ao11 t101.length co11] rfl (by first | rfl | (simp only [zld, zle, zlf, zlg, zlh] <;> rfl)) ?_; (with_reducible refine (zm3 k2 _ _ l0 _ _ t101 t104 _ ?side1 ?side2 ?side3 ?side4 A6.out).mono ?_); (case side1 => repeat (first | exact (zCb HR0.out HB.out) | (with_reducible first | refine zCa ?_ _ | refine zCn ?_ _ | refine zCd ?_))); (case side2 => exact HC0.out); (case side3 => repeat (first | exact (zRr HO103.out).2.2 | (with_reducible first | refine zCa ?_ _ | refine zCn ?_ _ | refine zCd ?_))); (case side4 => exact (zRr HO103.out).2.1); rintro e w12 ⟨v105, rfl, ho0, hb⟩; refine ⟨_, rfl, ?_⟩; have n0_ := zA (Kd.R_elder' (by (with_reducible repeat (first | apply zRa | apply zRn | apply zRd)); exact HO_5.out) (Kd.R_base ho0) hb); have n1_ := zA (Kd.R_elder' (by (with_reducible repeat (first | apply zRa | apply zRn | apply zRd)); exact HO103.out) (Kd.R_base ho0) hb); have n2_ := zA (Kd.R_lower (Kd.R_new' (Kd.R_new' ho0 (Kd.R_lt (by (with_reducible repeat (first | apply zRa | apply zRn | apply zRd)); exact HO_5.out))) (Kd.R_lt (by (with_reducible repeat (first | apply zRa | apply zRn | apply zRd)); exact HO103.out))) (zaj (by repeat (first | (with_reducible first | exact HB.out | apply zba | apply zbn | apply zbd) | exact HB.out)))); have n3_ := zA (zai (by repeat (first | (with_reducible first | exact HB.out | apply zba | apply zbn | apply zbd) | exact HB.out)) hb); clear HO_5 HO103 HB; have HO_5 := n0_; have HO103 := n1_; have HO106 := n2_; have HB := n3_; clear n0_ n1_ n2_ n3_; (try clear hb); (try clear hk); (try clear ho0); obtain ⟨Ao13, co13, eo13⟩ := Kd.R_slice HO106.out; subst eo13; have p107 : 0 ≤ (a1 : Int) := zde (by assumption); have q107 : a1 < (t104.length : Int) := zde (by assumption); obtain ⟨ad107, e107, hx107_0⟩ := Kd.at_int (zRr HO106.out).2.2 a1 p107 q107; cases e107; replace p107 := eq_true p107; replace q107 := eq_true q107) | ((with_reducible refine ze4 (b := .append) (xs := #[.tmp 16, .tmp 25]) rfl ?_); at_builtin; refine Kd.R_append (Kd.int .i64) (w0 := w) w.heap.size rfl (.tmp 16) (.tmp 25) 51 3 (.int .i64 0) 8 rfl Try.underlying51 zmd rfl (by decide) (by omega) u5 x5_2 (rd t104 a1) [.int .i64 (rd t104 a1)] (fun k_ => some k_ ≠ (.slice Ao11 t101.length co11 : Value).ownBlock ∧ some k_ ≠ (.slice (some ad107) t104.length co13 : Value).ownBlock) (fun _ => False) rfl rfl ?aP (fun _ hk => hk.elim) ?aF ?aO ?aB ?aS ?aL ?_; (case aP => exact rfl); (case aB => exact (by repeat (first | (with_reducible first | exact HB.out | apply zba | apply zbn | apply zbd) | exact HB.out))); (case aF => exact (fun k_ hk => ⟨Kd.fresh' (Kd.R_lt (by (with_reducible repeat (first | apply zRa | apply zRn | apply zRd)); exact HO103.out)) k_ hk, Kd.fresh' (Kd.R_lt (by (with_reducible repeat (first | apply zRa | apply zRn | apply zRd)); exact HO106.out)) k_ hk⟩)); (case aO => exact (by (with_reducible repeat (first | apply zRa | apply zRn | apply zRd)); exact Kd.R_mono HO_5.out (fun _ hk => ⟨hk.1.2, hk.2⟩))); (case aS => exact (zaj (by repeat (first | (with_reducible first | exact HB.out | apply zba | apply zbn | apply zbd) | exact HB.out)))); (case aL => have := LMc9.out; omega); intro v109 w14 ho hb hg hat; rw [← Ny108.out] at ho; have n0_ := zA (Kd.R_after (ok := (fun k_ => some k_ ≠ (.slice (some ad107) t104.length co13 : Value).ownBlock)) (by (with_reducible repeat (first | apply zRa | apply zRn | apply zRd)); exact Kd.R_mono HO103.out (fun _ hk => ⟨hk.2, hk.1.2⟩)) hg hat); have n1_ := zA (Kd.R_after (ok := (fun k_ => some k_ ≠ (.slice Ao11 t101.length co11 : Value).ownBlock)) (by (with_reducible repeat (first | apply zRa | apply zRn | apply zRd)); exact Kd.R_mono HO106.out (fun _ hk => ⟨hk.2, hk.1.2⟩)) hg hat); have n2_ := zA (hb); have n3_ := zA (ho); clear HO103 HO106; clear HB HO_5; have HO103 := n0_; have HO106 := n1_; have HB := n2_; have HO110 := n3_; clear n0_ n1_ n2_ n3_; clear ho hb hg hat))
 go_roundg k2
 case measure => have := HK1.out; have := HK2.out; omega
 case rel => exact ⟨(y108), (wrap64 (x7_2 + 1)), (by first | rfl | (simp; done) | (simp [*]; done)), H', ⟨by have := HK1.out; have := HK2.out; omega⟩, ⟨by (with_reducible repeat (first | apply zRa | apply zRn | apply zRd)); exact Kd.R_mono HO110.out (fun _ hk => trivial)⟩, ⟨by repeat (first | (with_reducible first | exact HB.out | apply zba | apply zbn | apply zbd) | exact HB.out)⟩⟩
end Go.Proofs.Ytccoiifklcgodaa.Q
end
