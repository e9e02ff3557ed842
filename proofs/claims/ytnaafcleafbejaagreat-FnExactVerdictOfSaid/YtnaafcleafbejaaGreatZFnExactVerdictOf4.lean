/- Proved here: contracts of functions that the law FnExactVerdictOf reaches, and lemmas on what they compute; texts of this session and the printed words of the kit that they lean on, cut down and put together by its program link.py. Conditions: as each states. -/
import Derived.Deep.CutRange
import Derived.Deep.DeepMust
import Derived.Laws.EntriesVeiled
import Derived.Test.YtnaafcleafbejaaGreatZFnExactVerdictOf1
import Derived.Test.YtnaafcleafbejaaGreatZFnExactVerdictOf2
import Derived.Test.YtnaafcleafbejaaGreatZFnExactVerdictOf3
section
namespace Go.Proofs.YtnaafcleafbejaaGreat.Q
open Go.RowKit Go.Proofs.YtnaafcleafbejaaGreatW.PrintWords Go.Proofs.YtnaafcleafbejaaGreatW.PrintLast Go.Proofs.YtnaafcleafbejaaGreatW.PrintMore
set_option maxHeartbeats 8000000
set_option maxRecDepth 100000
attribute [local go_sem] zf1 zf2 zhf zhg zeu zev zf3 zf6
set_option linter.unusedVariables false
set_option linter.unusedSimpArgs false
structure EfX (wr : World) (gx : Nat) (x : S62) (Ap : Option Addr) (cp : Nat) (ps : List Int) (W : World) : Prop where
 below : Below wr.heap.size wr W
 bx : W.heap[gx]? = some (.cells #[.string x.f0, .int .i64 x.f1, .int .i64 x.f2, .int .i64 x.f3] 62 (0, 0))
 ps : Kd.R (Kd.int .i64) 3 W wr.heap.size (fun _ => True) (.slice Ap ps.length cp) ps
theorem EfX.step {wr W W1 : World} {gx : Nat} {x : S62} {Ap : Option Addr} {cp : Nat} {ps : List Int} (h : EfX wr gx x Ap cp ps W) (hb : Below W.heap.size W W1) : EfX wr gx x Ap cp ps W1 := ⟨zab h.below hb, zah h.bx hb, zRb h.ps hb⟩
def efIn (out : List S62) : List Int → Bool → Option Bool
 | [], b => some b
 | p :: ps, b => if b = true then (if 0 ≤ p ∧ p < (out.length : Int) then efIn out ps ((zac out p).f0.toList == ([99, 111, 110, 115, 116] : List UInt8)) else none) else efIn out ps false
def efSt (k : Nat) (out : List S62) (u : Nat) : Option (List S62) := (zce k (zac out (u : Int)).f0 (zac out (u : Int)).f1 (zac out (u : Int)).f2 (zac out (u : Int)).f3).bind fun ps =>
 (efIn out ps (decide (0 < ps.length))).bind fun b => if b = true then
   (if (0 ≤ (zac out (u : Int)).f1 ∧ (zac out (u : Int)).f1 < (out.length : Int)) ∧ (1 < ps.length → 0 ≤ (zac out (u : Int)).f2 ∧ (zac out (u : Int)).f2 < (out.length : Int)) then
     (zbr (zac out (u : Int)).f0 (zac out (zac out (u : Int)).f1).f3 (if 1 < ps.length then (zac out (zac out (u : Int)).f2).f3 else 0)).bind fun v => some (out.set u (fdC v)) else none) else some out
def efL (k : Nat) : Nat → Nat → List S62 → Option (List S62)
 | 0, _, out => some out
 | d + 1, u, out => (efSt k out u).bind fun o => efL k d (u + 1) o
theorem zz2 (k : Nat) (out o : List S62) (u : Nat) (h : efSt k out u = some o) : o.length = out.length := by
 unfold efSt at h
 obtain ⟨ps, _, h⟩ := Option.bind_eq_some_iff.1 h
 obtain ⟨b, _, h⟩ := Option.bind_eq_some_iff.1 h
 split at h
 · split at h
   · obtain ⟨v, _, h⟩ := Option.bind_eq_some_iff.1 h
     obtain rfl := zsi h
     simp
   · cases h
 · obtain rfl := zsi h
   rfl
def zfm (k : Nat) (o : List S62) : Option (List S62) := if o.length < 1048576 then (efL k o.length 0 o).bind fun o2 => if o2.length = o.length then zfl k o2 ((o.length : Int) - 1) else none else none
theorem zql (k : Nat) (A0 : Option Addr) (c0 : Nat) (o : List S62) (r : List S62) (w : World) (hr0 : Kd.C k62 w A0 o.length o) (hc0 : o.length ≤ c0) (h : zfm k o = some r) :
   Calls Tryz.prog 141 #[.slice A0 o.length c0] w fun e w' => ∃ v0_ : Value, e = .returned (v0_) ∧ Kd.R k62 62 w' w.heap.size (fun _ => True) v0_ r ∧ Below w.heap.size w w' := by
 unfold zfm at h
 by_cases hol : o.length < 1048576
 rotate_left
 · rw [if_neg hol] at h
   cases h
 rw [if_pos hol] at h
 obtain ⟨o2, ho2, h⟩ := Option.bind_eq_some_iff.1 h
 by_cases hl2 : o2.length = o.length
 rotate_left
 · rw [if_neg hl2] at h
   cases h
 rw [if_pos hl2] at h
 have HO2 := zA ho2
 have HH := zA h
 have HR := zA hr0
 have HC := zA hc0
 have HL2 := zA hl2
 have HOL := zA hol
 clear h ho2 hr0 hc0 hl2
 go_enter Tryz.func141, Tryz.ntmps141
 go_wp2_with (first
   | ((with_reducible refine zee (N := 11) rfl ?_); go_must (refine Kd.R_lit k62 _ 62 ?hg (N := 11) ?hd (w0 := w) (xs := ([] : List S62)) (inner := []) (ok := fun _ => True) (okp := fun _ => True) ?hr ?hp (fun _ hk => hk) trivial (Below.refl _ _) (zlr _) (by simp) ?_; (case hd => rfl); (case hg => rfl); (case hr => go_simp <;> rfl); (case hp => exact (Reps.none _ _)); intro v0 w2 h2 hb hg_ hnew_; have HV0 := zA h2; have HB0 := zA hb; clear h2 hb hg_ hnew_))
   | ((with_reducible refine zfe (b := .append) (xs := #[.tmp 11, .tmp 12]) rfl ?_); at_builtin; go_must (refine Kd.R_append_rows k62 (w0 := w) w.heap.size rfl (.tmp 11) (.tmp 12) 32 62 (.agg #[(.string ⟨#[]⟩), (.int .i64 0), (.int .i64 0), (.int .i64 0)]) 40 rfl Tryz.underlying32 zq0 rfl (by decide) (by omega) v0 [] o _ _ _ (fun _ => True) (fun _ => False) rfl rfl ?aO ?aR (fun _ _ h => h) (fun _ h => h.elim) ?aF ?aB ?aS ?aL ?_; (case aR => exact zCb HR.out HB0.out); (case aB => exact HB0.out); (case aF => exact fun _ _ => trivial); (case aO => exact HV0.out); (case aS => exact HB0.out.size); (case aL => have := HOL.out; simp; omega); intro v3 w3 hv3 hb3 hg3 hat3; rw [List.nil_append] at hv3; obtain ⟨A3, c3, rfl⟩ := Kd.R_slice hv3; have HV := zA hv3; have HB := zA hb3; clear hv3 hb3 hg3 hat3)))
 go_loopw [16] (fun v16 wr => ∃ (u : Nat) (out : List S62), v16 = .int .i64 (u : Int) ∧ u ≤ o.length ∧ Aside0 (out.length = o.length) ∧ Aside0 (efL k (o.length - u) u out = some o2) ∧ Aside0 (Below w.heap.size w wr) ∧ Aside0 (Kd.R k62 62 wr w.heap.size (fun _ => True) (.slice A3 o.length c3) out)) (fun v16 _ => o.length - (intOf v16).toNat)
 case atStart => exact ⟨0, o, rfl, Nat.zero_le _, ⟨rfl⟩, HO2, HB, HV⟩
 clear HV HB HO2
 obtain ⟨u, out, rfl, hu, HLO, HL, HB, HV⟩ := hrel
 obtain ⟨wo, hwo⟩ : ∃ q, q = wr := ⟨_, rfl⟩
 subst hwo
 by_cases hlt : u < o.length
 rotate_left
 · obtain rfl : u = o.length := by omega
   have d1 : decide ((o.length : Int) < o.length) = false := zdf (by omega)
   have h := HL.out
   rw [Nat.sub_self] at h
   obtain rfl := zsi h
   clear h HL
   have hv := HV.out
   have hlen := HLO.out
   rw [← hlen] at hv
   have HRD := zA (zRr hv)
   clear hv hlen
   go_wp2_with (go_at_call 171; go_must (rw [← HLO.out]; refine (zl5 k A3 c3 out ((out.length : Int) - 1) r _ HRD.out.2.2 HRD.out.2.1 (by rw [HLO.out]; exact HH.out)).mono ?_; rintro e w6 ⟨v6, rfl, hv6, hb6⟩; have HV6 := zA hv6; have HB6 := zA hb6; clear hv6 hb6))
   exact zr_5
 have d1 : decide ((u : Int) < o.length) = true := zdt (by omega)
 have d2 : (0 : Int) ≤ (u : Int) := by omega
 have d3 : (u : Int) < o.length := by omega
 obtain ⟨g, cp, e, hgb, hgl, _⟩ := Kd.R_form HV.out (by rw [HLO.out]; omega)
 injection e with e1 e2 e3
 subst e1
 clear e2 e3
 obtain ⟨x0, x1, x2, x3⟩ := zlu (Below.refl _ _) HV.out (u : Int) d2 d3
 rw [Int.toNat_natCast] at x0 x1 x2 x3
 have h := HL.out
 rw [show o.length - u = (o.length - (u + 1)) + 1 by omega] at h
 simp only [efL] at h
 obtain ⟨o', ho', h⟩ := Option.bind_eq_some_iff.1 h
 have HL' := zA h
 have HLO' := zA ((zz2 _ _ _ _ ho').trans HLO.out)
 unfold efSt at ho'
 obtain ⟨x, hx⟩ : ∃ n, n = zac out (u : Int) := ⟨_, rfl⟩
 rw [← hx] at x0 x1 x2 x3 ho'
 obtain ⟨ps, hps, ho'⟩ := Option.bind_eq_some_iff.1 ho'
 obtain ⟨bE, hsE, ho'⟩ := Option.bind_eq_some_iff.1 ho'
 have HPS := zA hps
 have HSE := zA hsE
 have HO' := zA ho'
 have HGL := zA hgl
 clear hx hps hsE ho' h HL hgl hgb
 go_wp2_with (first
   | ((with_reducible refine zee (N := 5) rfl ?_); go_must (refine zg4 ?hg (N := 5) ?hd (cs := #[.string ⟨#[]⟩, .int .i64 0, .int .i64 0, .int .i64 0]) (t := 62) ?hr ?_; (case hd => rfl); (case hg => rfl); (case hr => go_simp <;> rfl); intro gx hg w5 hbox hb; have GX := zA hg; have BX := zA hbox; have HBR := zA hb; clear hg hbox hb))
   | ((with_reducible refine zjc (t := 62) (p := 5) rfl ?_); go_must (refine zi5 rfl (t := 62) (p := 5) rfl rfl (g := gx) (u := .agg #[.string x.f0, .int .i64 x.f1, .int .i64 x.f2, .int .i64 x.f3]) (seg := [.string x.f0, .int .i64 x.f1, .int .i64 x.f2, .int .i64 x.f3]) rfl rfl BX.out rfl rfl rfl zq49 ?_; intro w6 hbb hbw hfar; have n1 := zA (HBR.out.trans (hbw _ (Nat.le_of_eq GX.out.symm))); clear HBR BX x0 x1 x2 x3; have HBR := n1; have BX := zA hbb; have y0 := zad BX.out 0; have y1 := zad BX.out 1; have y2 := zad BX.out 2; have y3 := zad BX.out 3; clear n1 hbb hbw hfar))
   | (go_at_call 155; go_must (refine (zct k x.f0 x.f1 x.f2 x.f3 ps _ HPS.out).mono ?_; rintro e w9 ⟨v, rfl, hk, hb⟩; obtain ⟨Ap, cq, rfl⟩ := Kd.R_slice hk; have HX := zA (show EfX wo gx x Ap cq ps w9 from ⟨zab HBR.out hb, zah BX.out hb, Kd.R_lower hk HBR.out.size⟩); clear HBR BX y0 y1 y2 y3 hk hb)))
 go_loopw [7, 28] (fun v7 v28 wq => ∃ (j : Nat) (b : Bool), v28 = .int .i64 (j : Int) ∧ v7 = .bool b ∧ j ≤ ps.length ∧ Aside0 (efIn out (ps.drop j) b = some bE) ∧ Aside0 (EfX wo gx x Ap cq ps wq)) (fun _ v28 _ => ps.length - (intOf v28).toNat)
 case atStart => exact ⟨0, decide (0 < ps.length), rfl, by first | rfl | (congr 1; apply decide_eq_decide.2; omega), Nat.zero_le _, HSE, HX⟩
 clear HX HSE
 obtain ⟨j, b, rfl, rfl, hj, HSE, HX⟩ := hrel
 by_cases hjl : j < ps.length
 · have hlen := (zRr HX.out.ps).2.2.2.1
   have e1 : decide ((j : Int) < ps.length) = true := zdt (by omega)
   have e2 : (0 : Int) ≤ (j : Int) := by omega
   have e3 : (j : Int) < ps.length := by omega
   obtain ⟨adk, ek, hck⟩ := Kd.at_int (zRr HX.out.ps).2.2 (j : Int) (by omega) (by omega)
   rw [Int.toNat_natCast] at hck
   subst ek
   have hs := HSE.out
   rw [List.drop_eq_getElem_cons hjl] at hs
   have hv : rd ps (j : Int) = ps[j] := by
     unfold rd
     rw [Int.toNat_natCast, List.getD_eq_getElem?_getD, List.getElem?_eq_getElem hjl]
     rfl
   rw [← hv] at hs
   obtain ⟨p, hp⟩ : ∃ p, p = rd ps (j : Int) := ⟨_, rfl⟩
   rw [← hp] at hs hck
   clear hv hp
   unfold efIn at hs
   cases b with
   | true =>
     rw [if_pos rfl] at hs
     by_cases hq : 0 ≤ p ∧ p < (out.length : Int)
     rotate_left
     · rw [if_neg hq] at hs
       cases hs
     rw [if_pos hq] at hs
     obtain ⟨P0, P1⟩ := hq
     rw [HLO.out] at P1
     obtain ⟨cb, b1⟩ : ∃ cb, ((zac out p).f0.toList == ([99, 111, 110, 115, 116] : List UInt8)) = cb := ⟨_, rfl⟩
     rw [b1] at hs
     have HS1 := zA hs
     obtain ⟨y0, y1, y2, y3⟩ := zlu HX.out.below HV.out p P0 P1
     clear hs HSE y1 y2 y3
     go_wp2_with fail
     go_roundw
     case rel => exact ⟨j + 1, cb, by go_num, rfl, by omega, HS1, HX⟩
     case measure => simp [intOf]; omega
   | false =>
     rw [if_neg Bool.false_ne_true] at hs
     have HS1 := zA hs
     clear hs HSE
     go_wp2_with fail
     go_roundw
     case rel => exact ⟨j + 1, false, by go_num, rfl, by omega, HS1, HX⟩
     case measure => simp [intOf]; omega
 obtain rfl : j = ps.length := by omega
 have e1 : decide ((ps.length : Int) < ps.length) = false := zdf (by omega)
 have hs := HSE.out
 rw [List.drop_length] at hs
 obtain rfl := zsi hs
 have ho' := HO'.out
 clear hs HSE HO'
 cases b with
 | true =>
   rw [if_pos rfl] at ho'
   by_cases hq : (0 ≤ x.f1 ∧ x.f1 < (out.length : Int)) ∧ (1 < ps.length → 0 ≤ x.f2 ∧ x.f2 < (out.length : Int))
   rotate_left
   · rw [if_neg hq] at ho'
     cases ho'
   rw [if_pos hq] at ho'
   obtain ⟨v, hap, ho'⟩ := Option.bind_eq_some_iff.1 ho'
   have HOO := zA (zsi ho')
   have HAP0 := zA hap
   have HQ := zA hq
   clear ho' hap hq
   go_upto_if 46 with fail
   go_cut [10] from 17 to 66 (fun v10 wx => v10 = .int .i64 (if 1 < ps.length then (zac out x.f2).f3 else 0) ∧ Aside0 (EfX wo gx x Ap cq ps wx))
   case first =>
     by_cases q : 1 < ps.length
     rotate_left
     · have d4 : decide (1 < ps.length) = false := zdf (by omega)
       have d5 : decide ((1 : Int) < ps.length) = false := zdf (by omega)
       first | rw [d4] | rw [d5]
       clear d4 d5
       have Q := zA q
       clear q
       go_wp2_with fail
       go_meet
       case rel => exact ⟨by rw [if_neg Q.out], HX⟩
     have d4 : decide (1 < ps.length) = true := zdt (by omega)
     have d5 : decide ((1 : Int) < ps.length) = true := zdt (by omega)
     first | rw [d4] | rw [d5]
     clear d4 d5
     obtain ⟨R0, R1⟩ := HQ.out.2 q
     rw [HLO.out] at R1
     have y2 := zad HX.out.bx 2
     obtain ⟨z0, z1, z2, z3⟩ := zlu HX.out.below HV.out x.f2 R0 R1
     have Q := zA q
     clear q z0 z1 z2
     go_wp2_with fail
     go_meet
     case rel => exact ⟨by rw [if_pos Q.out], HX⟩
   clear HX
   obtain ⟨rfl, HX⟩ := hcut
   obtain ⟨bv, hbv⟩ : ∃ z, z = (if 1 < ps.length then (zac out x.f2).f3 else 0) := ⟨_, rfl⟩
   rw [← hbv]
   have HAP := zA (show zbr x.f0 (zac out x.f1).f3 bv = some v from by rw [hbv]; exact HAP0.out)
   obtain ⟨⟨Q0, Q1⟩, _⟩ := HQ.out
   rw [HLO.out] at Q1
   clear hbv HAP0
   go_wp2_with fail
   refine zmg [[], [], [], [2], [], [], [5], [4, 5, 6], [4, 5, 6, 7], [4, 5, 6, 7, 8], [], [2, 3, 4, 5, 6, 7, 8, 9, 10], [2, 3, 4, 5, 6, 7, 8, 9, 10, 11], [0, 1, 2, 3, 4, 5, 6, 7, 8, 9, 10, 11, 12], [0, 1, 2, 3, 4, 5, 6, 7, 8, 9, 10, 11, 12, 13]] [[13, 14], [13, 14], [3, 11, 12, 13, 14], [11, 12, 13, 14], [7, 8, 9, 11, 12, 13, 14], [6, 7, 8, 9, 11, 12, 13, 14], [7, 8, 9, 11, 12, 13, 14], [8, 9, 11, 12, 13, 14], [9, 11, 12, 13, 14], [11, 12, 13, 14], [11, 12, 13, 14], [12, 13, 14], [13, 14], [14], []] (zls [.slice (some ⟨g, 0, none⟩) o.length c3, .int .i64 (u : Int), .pointer (some ⟨gx, 0, none⟩), .string x.f0, .slice (some ⟨g, 0, none⟩) o.length c3, .pointer (some ⟨gx, 1, none⟩), .int .i64 x.f1, .pointer (some ⟨g, x.f1.toNat * 4, none⟩), .pointer (some ⟨g, x.f1.toNat * 4 + 3, none⟩), .int .i64 (zac out x.f1).f3, .int .i64 bv, .int .i64 v, .agg #[.string ⟨#[99, 111, 110, 115, 116]⟩, .int .i64 0, .int .i64 0, .int .i64 v], .pointer (some ⟨g, u * 4, none⟩), undef]) (fun L W => (L 14 = false → EfX wo gx x Ap cq ps W) ∧ (L 14 = true → Kd.R k62 62 W w.heap.size (fun _ => True) (.slice (some ⟨g, 0, none⟩) o.length c3) (out.set u (fdC v)) ∧ Below w.heap.size w W))
     rfl (fun _ _ _ _ _ h => h) zq28 ?_ ⟨?_, ?_, ?_, ?_, ?_, ?_, ?_, ?_, ?_, ?_, ?_, ?_, ?_, ?_, ?_, trivial⟩ ?_
   · exact ⟨fun _ => HX.out.step (zcs (Below.refl _ _)), fun h => Bool.noConfusion h⟩
   · refine fun L W hu hd hn hJ => zas (by rfl) hJ ?_
     clear hJ
     generalize hev : Act.eval (zaj _ _ _ _) = ev
     have t3 : ev (.tmp 3) = .slice (some ⟨g, 0, none⟩) o.length c3 := by rw [← hev]; rfl
     clear hev
     exact zg0
   · refine fun L W hu hd hn hJ => zas (by rfl) hJ ?_
     clear hJ
     generalize hev : Act.eval (zaj _ _ _ _) = ev
     have t4 : ev (.tmp 4) = .int .i64 (u : Int) := by rw [← hev]; rfl
     clear hev
     exact zg0
   · refine fun L W hu hd hn hJ => zas (by rfl) hJ ?_
     clear hJ
     generalize hev : Act.eval (zaj _ _ _ _) = ev
     have t5 : ev (.tmp 5) = .pointer (some ⟨gx, 0, none⟩) := by rw [← hev]; rfl
     clear hev
     exact zg0
   · refine fun L W hu hd hn hJ => zas (by rfl) hJ ?_
     have hF := hJ.1 (zaw _ hn 14 (by decide))
     have yb := zad hF.bx 0
     clear hJ
     generalize hev : Act.eval (zaj _ _ _ _) = ev
     have t55 : ev (.tmp 55) = .pointer (some ⟨gx, 0, none⟩) := by rw [← hev]; rfl
     clear hev
     exact zg0
   · refine fun L W hu hd hn hJ => zas (by rfl) hJ ?_
     clear hJ
     generalize hev : Act.eval (zaj _ _ _ _) = ev
     have t3 : ev (.tmp 3) = .slice (some ⟨g, 0, none⟩) o.length c3 := by rw [← hev]; rfl
     clear hev
     exact zg0
   · refine fun L W hu hd hn hJ => zas (by rfl) hJ ?_
     clear hJ
     generalize hev : Act.eval (zaj _ _ _ _) = ev
     have t5 : ev (.tmp 5) = .pointer (some ⟨gx, 0, none⟩) := by rw [← hev]; rfl
     clear hev
     exact zg0
   · refine fun L W hu hd hn hJ => zas (by rfl) hJ ?_
     have hF := hJ.1 (zaw _ hn 14 (by decide))
     have yb := zad hF.bx 1
     clear hJ
     generalize hev : Act.eval (zaj _ _ _ _) = ev
     have t58 : ev (.tmp 58) = .pointer (some ⟨gx, 1, none⟩) := by rw [← hev]; rfl
     clear hev
     exact zg0
   · refine fun L W hu hd hn hJ => zas (by rfl) hJ ?_
     clear hJ
     generalize hev : Act.eval (zaj _ _ _ _) = ev
     have t57 : ev (.tmp 57) = .slice (some ⟨g, 0, none⟩) o.length c3 := by rw [← hev]; rfl
     have t59 : ev (.tmp 59) = .int .i64 x.f1 := by rw [← hev]; rfl
     clear hev
     exact zg0
   · refine fun L W hu hd hn hJ => zas (by rfl) hJ ?_
     clear hJ
     generalize hev : Act.eval (zaj _ _ _ _) = ev
     have t60 : ev (.tmp 60) = .pointer (some ⟨g, x.f1.toNat * 4, none⟩) := by rw [← hev]; rfl
     clear hev
     exact zg0
   · refine fun L W hu hd hn hJ => zas (by rfl) hJ ?_
     have hF := hJ.1 (zaw _ hn 14 (by decide))
     obtain ⟨y0, y1, y2, y3⟩ := zlu hF.below HV.out x.f1 Q0 Q1
     clear hJ
     generalize hev : Act.eval (zaj _ _ _ _) = ev
     have t61 : ev (.tmp 61) = .pointer (some ⟨g, x.f1.toNat * 4 + 3, none⟩) := by rw [← hev]; rfl
     clear hev
     exact zg0
   · refine fun L W hu hd hn hJ => zas (by rfl) hJ ?_
     clear hJ
     generalize hev : Act.eval (zaj _ _ _ _) = ev
     have t10 : ev (.tmp 10) = .int .i64 bv := by rw [← hev]; rfl
     clear hev
     exact zg0
   · intro L W hu hd hn hJ
     have hF := hJ.1 (zaw _ hn 14 (by decide))
     refine zxz Tryz.func157 zq28 rfl #[.string x.f0, .int .i64 (zac out x.f1).f3, .int .i64 bv] (by rfl) rfl zq46 ((zar x.f0 (zac out x.f1).f3 bv v W HAP.out).mono ?_)
     rintro e W' ⟨he, n, rfl⟩
     exact ⟨he, fun _ => hF.step (zbn (Below.refl _ _) n), fun h => absurd (h.symm.trans (zaw _ hn 14 (by decide))) (by simp)⟩
   · refine fun L W hu hd hn hJ => zas (by rfl) hJ ?_
     clear hJ
     generalize hev : Act.eval (zaj _ _ _ _) = ev
     have t64 : ev (.tmp 64) = .int .i64 v := by rw [← hev]; rfl
     have tc : ∀ v, ev (.const v) = v := fun v => by rw [← hev]; rfl
     clear hev
     exact zg0
   · refine fun L W hu hd hn hJ => zas (by rfl) hJ ?_
     clear hJ
     generalize hev : Act.eval (zaj _ _ _ _) = ev
     have t53 : ev (.tmp 53) = .slice (some ⟨g, 0, none⟩) o.length c3 := by rw [← hev]; rfl
     have t54 : ev (.tmp 54) = .int .i64 (u : Int) := by rw [← hev]; rfl
     clear hev
     exact zg0
   · intro L W hu hd hn hJ
     have hF := hJ.1 hu
     have hR := zRb HV.out hF.below
     obtain ⟨y0, y1, y2, y3⟩ := zlu hF.below HV.out (u : Int) (by omega) (by omega)
     rw [Int.toNat_natCast] at y0 y1 y2 y3
     refine yaz k62 (w0 := w) (x' := fdC v) w.heap.size (by rfl) rfl rfl rfl u _ [.string ⟨#[99, 111, 110, 115, 116]⟩, .int .i64 0, .int .i64 0, .int .i64 v] (by rfl) rfl (by rfl) rfl rfl zq49 hR hlt zx1 (zwk y0 y1 y2 y3) rfl (zhd _ _ _ (fdC v)) (zab HB.out hF.below) ?_
     exact fun w1 h1 h2 => ⟨fun h => by simp [riUp] at h, fun _ => ⟨h1, h2⟩⟩
   · intro L W hL hJ
     have hG := hJ.2 (hL 14 rfl)
     have HG := zA hG
     clear hG hJ hL
     refine zsr ?_
     go_wp2_with fail
     go_roundw
     case rel => exact ⟨u + 1, o', by go_num, by omega, HLO', HL', ⟨HG.out.2⟩, ⟨by rw [← HOO.out]; exact HG.out.1⟩⟩
     case measure => simp [intOf]; omega
 | false =>
   rw [if_neg Bool.false_ne_true] at ho'
   obtain rfl := zsi ho'
   clear ho'
   go_wp2_with fail
   go_roundw
   case rel => exact ⟨u + 1, out, by go_num, by omega, HLO', HL', ⟨zab HB.out HX.out.below⟩, ⟨zRb HV.out HX.out.below⟩⟩
   case measure => simp [intOf]; omega
theorem zx5 (k : Nat) (out : List S62) (u : Nat) : LeO (efSt k out u) (efSt (k + 1) out u) := by
 unfold efSt
 exact LeO.bind (zb8 _ _ _ _ _) (fun _ => LeO.refl _)
theorem zwr (k : Nat) : ∀ (d u : Nat) (out : List S62), LeO (efL k d u out) (efL (k + 1) d u out)
 | 0, _, _ => LeO.refl _
 | d + 1, u, out => LeO.bind (zx5 k out u) (fun _ => zwr k d (u + 1) _)
theorem zri : ∀ a0 k, LeO (zfm k a0) (zfm (k + 1) a0) := by
 intro a0 k
 unfold zfm
 exact zbi (LeO.bind (zwr _ _ _ _) (fun _ => zbi (zmu _ _ _) (LeO.refl _))) (LeO.refl _)
end Go.Proofs.YtnaafcleafbejaaGreat.Q
end
section
namespace Go.Proofs.YtnaafcleafbejaaGreat.Q
open Go.RowKit Go.Proofs.YtnaafcleafbejaaGreatW.PrintWords Go.Proofs.YtnaafcleafbejaaGreatW.PrintLast Go.Proofs.YtnaafcleafbejaaGreatW.PrintMore
set_option maxHeartbeats 8000000
set_option maxRecDepth 100000
attribute [local go_sem] zf1 zf2 zhf zhg zeu zev zf3 zf6
set_option linter.unusedVariables false
set_option linter.unusedSimpArgs false
attribute [local go_sem high] zzv
set_option linter.unusedVariables false
set_option linter.unusedSimpArgs false
def exEq (x y : S62) : Bool := x.f0.toList == y.f0.toList && (x.f1 == y.f1 && (x.f2 == y.f2 && (x.f3 == y.f3)))
def exIx (n : S62) : List S62 → Int → Int
 | [], _ => -1
 | x :: xs, i => if exEq x n = true then i else exIx n xs (i + 1)
def zef (n : S62) (out : List S62) : List S62 × Int := if exIx n out 0 < 0 then (out ++ [n], out.length) else (out, exIx n out 0)
structure ExX (w0 : World) (gb r cr m : Nat) (s : List S62 × List Int) (vo : Value) (W : World) : Prop where
 below : Below w0.heap.size w0 W
 bb : W.heap[gb]? = some (.cells #[vo, .bool true] 164 (0, 0))
 lo : w0.heap.size ≤ gb
 out : Kd.R k62 62 W w0.heap.size (fun k => k ≠ gb ∧ k ≠ r) vo s.1
 rne : r ≠ gb
 nam : Kd.R (Kd.int .i64) 3 W w0.heap.size (fun k => k = r) (.slice (some ⟨r, 0, none⟩) m cr) s.2
section
variable {w0 : World} {gb r cr m : Nat} {s : List S62 × List Int} {vo v : Value} {W W1 : World}
theorem ExX.step (h : ExX w0 gb r cr m s vo W) (hb : Below W.heap.size W W1) : ExX w0 gb r cr m s vo W1 :=
 ⟨zab h.below hb, zah h.bb hb, h.lo, zRb h.out hb, h.rne, zRb h.nam hb⟩
theorem ExX.setn (h : ExX w0 gb r cr m s vo W) (i x : Int) : ExX w0 gb r cr m (s.1, s.2.set i.toNat x) vo (W.setCell ⟨r, i.toNat, none⟩ (.int .i64 x)) :=
 ⟨h.below.setCell (p := ⟨r, i.toNat, none⟩) (Kd.R_base h.nam r rfl) _, zaz h.bb (fun e => h.rne zq59) _, h.lo, Kd.R_far h.out (p := ⟨r, i.toNat, none⟩) (fun k hk => hk.2) _, h.rne, Kd.R_putn h.nam i x⟩
theorem ExX.append (h : ExX w0 gb r cr m s vo W) {vo' : Value} {ys : List S62} (hR : Kd.R k62 62 W1 w0.heap.size (fun k => k ≠ gb ∧ k ≠ r) vo' ys) (hb : Below w0.heap.size w0 W1) (hg : W.grownBy W1 vo.ownBlock) : ExX w0 gb r cr m (ys, s.2) vo' (W1.setCell ⟨gb, 0, none⟩ vo') := by
 have bb : W1.heap[gb]? = _ := (hg.block gb (zb2 h.bb) (fun e => (h.out.1 gb e.symm).1 rfl)).trans h.bb
 exact ⟨hb.setCell (p := ⟨gb, 0, none⟩) h.lo _, by simpa using zam bb 0 vo', h.lo, Kd.R_far hR (p := ⟨gb, 0, none⟩) (fun k hk => hk.1) _, h.rne, Kd.R_far (Kd.R_grown h.nam hg (fun k hk e => (h.out.1 k e.symm).2 hk)) (p := ⟨gb, 0, none⟩) (fun k hk => by rw [hk]; exact h.rne) _⟩
end
def ExA (w0 : World) (gb r : Nat) (wr : World) (vo : Value) (ys : List S62) (V : World) (v' : Value) : Prop :=
 ∃ V1, Below wr.heap.size wr V1 ∧ Below w0.heap.size w0 V ∧ V1.grownBy V vo.ownBlock ∧ (v'.ownBlock = vo.ownBlock ∨ ∃ b, v'.ownBlock = some b ∧ V1.heap.size ≤ b) ∧ Kd.R k62 62 V w0.heap.size (fun k => k ≠ gb ∧ k ≠ r) v' ys
theorem zos {w0 : World} {gb r cr m : Nat} (s : List S62 × List Int) (vo : Value) (W : World) (hX : ExX w0 gb r cr m s vo W) (n0 : ByteArray) (n1 n2 n3 : Int) (hl : s.1.length < 1048576) :
   Calls Tryz.prog 201 #[.pointer (some ⟨gb, 0, none⟩), .agg #[.string n0, .int .i64 n1, .int .i64 n2, .int .i64 n3]] W fun x W' => ∃ vo', x = .returned (.int .i64 (zef ⟨n0, n1, n2, n3⟩ s.1).2) ∧ ExX w0 gb r cr m ((zef ⟨n0, n1, n2, n3⟩ s.1).1, s.2) vo' W' ∧ ShFr gb r vo W vo' W' := by
 obtain ⟨Ao, co, rfl⟩ := Kd.R_slice hX.out
 have hCo := (zRr hX.out).2.2
 have q0 := zad hX.bb 0
 have q1 := zad hX.bb 1
 have HX := zA hX
 clear hX
 have HCO := zA hCo
 clear hCo
 go_enter Tryz.func201, Tryz.ntmps201
 go_wp2_with ((with_reducible refine zee (N := 3) rfl ?_); refine zg4 ?hg (N := 3) ?hd (cs := #[.string n0, .int .i64 n1, .int .i64 n2, .int .i64 n3]) (t := 62) ?hr ?_; (case hd => rfl); (case hg => rfl); (case hr => go_simp <;> rfl); intro g hg w4 hbox hb; have HX4 := zA (HX.out.step hb); have HG := zA hbox; have HGE := zA (Nat.le_of_eq hg.symm); have HB4 := zA hb; have q0 := zad HX4.out.bb 0; have q1 := zad HX4.out.bb 1; clear hg hbox hb)
 obtain ⟨L, hL⟩ : ∃ L, L = exIx ⟨n0, n1, n2, n3⟩ s.1 0 := ⟨_, rfl⟩
 have HL := zA hL
 clear hL
 go_loopw [5, 6, 16] (fun v5 v6 v16 wr => ∃ u : Nat, v16 = .int .i64 (u : Int) ∧ u ≤ s.1.length ∧ Aside0 (Below w4.heap.size w4 wr) ∧ Aside0 (exIx ⟨n0, n1, n2, n3⟩ (s.1.drop u) u = L)) (fun _ _ v16 _ => s.1.length - (intOf v16).toNat)
 case atStart => exact ⟨0, rfl, Nat.zero_le _, ⟨Below.refl _ _⟩, ⟨by rw [List.drop_zero]; exact HL.out.symm⟩⟩
 obtain ⟨u, rfl, hu, HBr, HS⟩ := hrel
 by_cases hlt : u < s.1.length
 · have d1 : decide ((u : Int) < s.1.length) = true := zdt (by omega)
   have d2 : (0 : Int) ≤ (u : Int) := by omega
   have d3 : (u : Int) < s.1.length := by omega
   obtain ⟨ad, eA, x0, x1, x2, x3⟩ := zdu (zCb (zRr HX4.out.out).2.2 HBr.out) (u : Int) d2 d3
   rw [Int.toNat_natCast] at x0 x1 x2 x3
   subst eA
   have hg := zah HG.out HBr.out
   obtain ⟨x, hx⟩ : ∃ x, x = zac s.1 (u : Int) := ⟨_, rfl⟩
   rw [← hx] at x0 x1 x2 x3
   have hdr : s.1.drop u = x :: s.1.drop (u + 1) := by
     rw [List.drop_eq_getElem_cons hlt, hx]
     unfold zac
     rw [Int.toNat_natCast, List.getD_eq_getElem?_getD, List.getElem?_eq_getElem hlt]
     rfl
   have hs := HS.out
   rw [hdr] at hs
   unfold exIx at hs
   have t0 : ∀ V, Below wr.heap.size wr V → V.cell? ⟨g, 0, none⟩ = some (.string n0) := fun V h => zad (zah hg h) 0
   have t1 : ∀ V, Below wr.heap.size wr V → V.cell? ⟨g, 1, none⟩ = some (.int .i64 n1) := fun V h => zad (zah hg h) 1
   have t2 : ∀ V, Below wr.heap.size wr V → V.cell? ⟨g, 2, none⟩ = some (.int .i64 n2) := fun V h => zad (zah hg h) 2
   have t3 : ∀ V, Below wr.heap.size wr V → V.cell? ⟨g, 3, none⟩ = some (.int .i64 n3) := fun V h => zad (zah hg h) 3
   have hb := zba (Below.refl wr.heap.size wr) (.cells #[.string x.f0, .int .i64 x.f1, .int .i64 x.f2, .int .i64 x.f3] 62)
   have y0 := t0 _ hb
   have y1 := t1 _ hb
   have y2 := t2 _ hb
   have y3 := t3 _ hb
   have HBA := zA (zab HBr.out hb)
   clear t0 t1 t2 t3 hb hg hdr hx HS
   by_cases c : exEq x ⟨n0, n1, n2, n3⟩ = true
   rotate_left
   · rw [if_neg c] at hs
     have HS := zA hs
     have d4 : (x.f0.toList == n0.toList && (x.f1 == n1 && (x.f2 == n2 && (x.f3 == n3)))) = false := by simpa [exEq] using c
     clear hs c
     go_wp2_with fail
     go_roundw
     case rel => exact ⟨u + 1, by go_num, by omega, HBA, ⟨by rw [show ((u + 1 : Nat) : Int) = (u : Int) + 1 from rfl]; exact HS.out⟩⟩
     case measure => simp [intOf]; omega
   rw [if_pos c] at hs
   have HS := zA hs
   have d4 : (x.f0.toList == n0.toList && (x.f1 == n1 && (x.f2 == n2 && (x.f3 == n3)))) = true := c
   clear hs c
   go_wp2_with fail
   go_ret
   have e : zef ⟨n0, n1, n2, n3⟩ s.1 = (s.1, (u : Int)) := by
     unfold zef
     rw [← HL.out, ← HS.out, if_neg (by omega)]
   rw [e]
   exact ⟨_, rfl, HX4.out.step HBA.out, ((ShFr.refl _ _ _ _).step HB4.out).step HBA.out⟩
 obtain rfl : u = s.1.length := by omega
 have d1 : decide ((s.1.length : Int) < s.1.length) = false := zdf (by omega)
 go_wp2_with fail
 have hs := HS.out
 rw [List.drop_length] at hs
 have HS' := zA (show (-1 : Int) = L from hs)
 clear hs HS
 have HX5 := zA (HX4.out.step HBr.out)
 have HG5 := zA (zah HG.out HBr.out)
 refine zji [[], [], [1], [1, 2], [1, 2, 3], [], [5], [1, 2, 3, 4, 5, 6], [0, 1, 2, 3, 4, 5, 6, 7], [0, 1, 2, 3, 4, 5, 6, 7, 8], [0, 1, 2, 3, 4, 5, 6, 7, 8, 9]] [[8, 9, 10], [2, 3, 4, 7, 8, 9, 10], [3, 4, 7, 8, 9, 10], [4, 7, 8, 9, 10], [7, 8, 9, 10], [6, 7, 8, 9, 10], [7, 8, 9, 10], [8, 9, 10], [9, 10], [10], []]
   (fun L s_ V => (L 7 = false → Below wr.heap.size wr V) ∧ (L 7 = true → L 10 = false → ExA w0 gb r wr (.slice Ao s.1.length co) (s.1 ++ [(⟨n0, n1, n2, n3⟩ : S62)]) V (s_ 7)) ∧ (L 10 = true → ∃ V2, ExA w0 gb r wr (.slice Ao s.1.length co) (s.1 ++ [(⟨n0, n1, n2, n3⟩ : S62)]) V2 (s_ 7) ∧ V = V2.setCell ⟨gb, 0, none⟩ (s_ 7)) ∧
     (L 0 = true → s_ 0 = .pointer (some ⟨gb, 0, none⟩)) ∧ (L 1 = true → s_ 1 = .pointer (some ⟨gb, 0, none⟩)) ∧ (L 2 = true → s_ 2 = .pointer (some ⟨gb, 0, none⟩)) ∧ (L 3 = true → s_ 3 = .pointer (some ⟨gb, 0, none⟩)) ∧ (L 4 = true → s_ 4 = .slice Ao s.1.length co) ∧ (L 5 = true → s_ 5 = .agg #[.string n0, .int .i64 n1, .int .i64 n2, .int .i64 n3]) ∧
     (L 6 = true → L 7 = false → ∃ A c, s_ 6 = .slice A 1 c ∧ Kd.C k62 V A 1 [(⟨n0, n1, n2, n3⟩ : S62)]) ∧ (L 8 = true → s_ 8 = .pointer (some ⟨gb, 0, none⟩)) ∧ (L 9 = true → s_ 9 = .pointer (some ⟨gb, 0, none⟩)))
   rfl (fun _ _ _ _ _ h => h) zq28 ?_ ⟨?_, ?_, ?_, ?_, ?_, ?_, ?_, ?_, ?_, ?_, ?_, trivial⟩ ?_
 · exact ⟨fun _ => zcs (Below.refl _ _), (fun h => Bool.noConfusion h), (fun h => Bool.noConfusion h), (fun h => Bool.noConfusion h), (fun h => Bool.noConfusion h), (fun h => Bool.noConfusion h), (fun h => Bool.noConfusion h), (fun h => Bool.noConfusion h), (fun h => Bool.noConfusion h), (fun h => Bool.noConfusion h), (fun h => Bool.noConfusion h), (fun h => Bool.noConfusion h)⟩
 · rintro L s_ V hu hd hn ⟨hB, hA, hS, g0, g1, g2, g3, g4, g5, g6, g8, g9⟩ K hK
   refine zcw (N := some 26) (v := .pointer (some ⟨gb, 0, none⟩)) (w1 := V) (by rfl) rfl ?_ (hK _ _ ⟨hB, hA, hS, fun _ => rfl, g1, g2, g3, g4, g5, g6, g8, g9⟩)
   refine zsr ?_
   go_simp
 · rintro L s_ V hu hd hn ⟨hB, hA, hS, g0, g1, g2, g3, g4, g5, g6, g8, g9⟩ K hK
   refine zcw (N := some 27) (v := .pointer (some ⟨gb, 0, none⟩)) (w1 := V) (by rfl) rfl ?_ (hK _ _ ⟨hB, hA, hS, g0, fun _ => rfl, g2, g3, g4, g5, g6, g8, g9⟩)
   refine zsr ?_
   go_simp
 · rintro L s_ V hu hd hn ⟨hB, hA, hS, g0, g1, g2, g3, g4, g5, g6, g8, g9⟩ K hK
   have e1 := g1 hd
   refine zcw (N := some 28) (v := .pointer (some ⟨gb, 0, none⟩)) (w1 := V) (by rfl) rfl ?_ (hK _ _ ⟨hB, hA, hS, g0, g1, fun _ => rfl, g3, g4, g5, g6, g8, g9⟩)
   refine zsr ?_
   rw [e1]
   go_simp
 · rintro L s_ V hu hd hn ⟨hB, hA, hS, g0, g1, g2, g3, g4, g5, g6, g8, g9⟩ K hK
   have e2 := g2 hd.2
   refine zcw (N := some 29) (v := .pointer (some ⟨gb, 0, none⟩)) (w1 := V) (by rfl) rfl ?_ (hK _ _ ⟨hB, hA, hS, g0, g1, g2, fun _ => rfl, g4, g5, g6, g8, g9⟩)
   refine zsr ?_
   rw [e2]
   go_simp
 · rintro L s_ V hu hd hn ⟨hB, hA, hS, g0, g1, g2, g3, g4, g5, g6, g8, g9⟩ K hK
   have e3 := g3 hd.2.2
   have hc := zad (HX5.out.step (hB hn.1)).bb 0
   refine zcw (N := some 30) (v := .slice Ao s.1.length co) (w1 := V) (by rfl) rfl ?_ (hK _ _ ⟨hB, hA, hS, g0, g1, g2, g3, fun _ => rfl, g5, g6, g8, g9⟩)
   refine zsr ?_
   rw [e3]
   go_simp
 · rintro L s_ V hu hd hn ⟨hB, hA, hS, g0, g1, g2, g3, g4, g5, g6, g8, g9⟩ K hK
   have hg' := zah HG5.out (hB hn.2.1)
   have y0 : V.cell? ⟨g, 0, none⟩ = some (.string n0) := zad hg' 0
   have y1 : V.cell? ⟨g, 1, none⟩ = some (.int .i64 n1) := zad hg' 1
   have y2 : V.cell? ⟨g, 2, none⟩ = some (.int .i64 n2) := zad hg' 2
   have y3 : V.cell? ⟨g, 3, none⟩ = some (.int .i64 n3) := zad hg' 3
   clear hg'
   refine zcw (N := some 31) (v := .agg #[.string n0, .int .i64 n1, .int .i64 n2, .int .i64 n3]) (w1 := V) (by rfl) rfl ?_ (hK _ _ ⟨hB, hA, hS, g0, g1, g2, g3, g4, fun _ => rfl, g6, g8, g9⟩)
   refine zsr ?_
   go_simp
 · rintro L s_ V hu hd hn ⟨hB, hA, hS, g0, g1, g2, g3, g4, g5, g6, g8, g9⟩ K hK
   have e5 := g5 hd
   have hb := hB hn.1
   refine zcw (N := some 32) (v := .slice (some ⟨V.heap.size, 0, none⟩) 1 1) (w1 := V.alloc (.cells #[.string n0, .int .i64 n1, .int .i64 n2, .int .i64 n3] 62)) (by rfl) rfl ?_ (hK _ _ ⟨fun _ => zba hb _, fun h => absurd (h.symm.trans hn.1) (by simp), fun h => absurd (h.symm.trans hn.2.2.2) (by simp), g0, g1, g2, g3, g4, g5, fun _ _ => ⟨_, _, rfl, yc8 (d := k62) (zhh V _) (cs := [.string n0, .int .i64 n1, .int .i64 n2, .int .i64 n3]) rfl (yct _ (⟨n0, n1, n2, n3⟩ : S62))⟩, g8, g9⟩)
   refine zsr ?_
   rw [e5]
   go_simp
 · rintro L s_ V hu hd hn ⟨hB, hA, hS, g0, g1, g2, g3, g4, g5, g6, g8, g9⟩ K hK
   obtain ⟨h1, h2, h3, h4, h5, h6⟩ := hd
   have hb := hB hu
   have e4 := g4 h4
   obtain ⟨A6, c6, e6, hC6⟩ := g6 h6 hu
   have hX := HX5.out.step hb
   refine Kd.R_append_rows_step k62 (Rr := k62.K V) w0.heap.size (by rfl) _ _ 32 62 (.agg #[(.string ⟨#[]⟩), (.int .i64 0), (.int .i64 0), (.int .i64 0)]) 40 rfl Tryz.underlying32 zq0 rfl (by decide) (by omega) (.slice Ao s.1.length co) s.1 [(⟨n0, n1, n2, n3⟩ : S62)] A6 1 c6 (fun k => k ≠ gb ∧ k ≠ r) (fun _ => False) e4 e6 hX.out hC6 (fun x cs h => by rw [zrr h]; exact zhd _ _ _ x) (fun _ hk => hk.elim) (fun k hk => by have a1 := zb2 hX.bb; have a2 := Kd.R_lt hX.nam r rfl; exact ⟨by omega, by omega⟩) hX.below hX.below.size (by omega) ?_
   intro v1 w1 ho hb1 hgr hat
   exact hK _ _ ⟨(fun h => Bool.noConfusion h), fun _ _ => ⟨V, hb, hb1, hgr, hat, ho⟩, fun h => absurd (h.symm.trans hn.2.2) (by simp), g0, g1, g2, g3, g4, g5, fun _ h => Bool.noConfusion h, g8, g9⟩
 · rintro L s_ V hu hd hn ⟨hB, hA, hS, g0, g1, g2, g3, g4, g5, g6, g8, g9⟩ K hK
   have e0 := g0 hd.1
   refine zcw (N := some 34) (v := .pointer (some ⟨gb, 0, none⟩)) (w1 := V) (by rfl) rfl ?_ (hK _ _ ⟨hB, hA, hS, g0, g1, g2, g3, g4, g5, g6, fun _ => rfl, g9⟩)
   refine zsr ?_
   rw [e0]
   go_simp
 · rintro L s_ V hu hd hn ⟨hB, hA, hS, g0, g1, g2, g3, g4, g5, g6, g8, g9⟩ K hK
   have e8 := g8 hd.2.2.2.2.2.2.2.2
   refine zcw (N := some 35) (v := .pointer (some ⟨gb, 0, none⟩)) (w1 := V) (by rfl) rfl ?_ (hK _ _ ⟨hB, hA, hS, g0, g1, g2, g3, g4, g5, g6, g8, fun _ => rfl⟩)
   refine zsr ?_
   rw [e8]
   go_simp
 · rintro L s_ V hu hd hn ⟨hB, hA, hS, g0, g1, g2, g3, g4, g5, g6, g8, g9⟩ K hK
   have h7 := hd.2.2.2.2.2.2.2.1
   have e9 := g9 hd.2.2.2.2.2.2.2.2.2
   have hAP := hA h7 hu
   obtain ⟨V1, hb, hb1, hgr, hat, ho⟩ := hAP
   obtain ⟨A7, c7, e7⟩ := Kd.R_slice ho
   have hX := HX5.out.step hb
   have bb : V.heap[gb]? = _ := (hgr.block gb (zb2 hX.bb) (fun e => (hX.out.1 gb e.symm).1 rfl)).trans hX.bb
   have b1 := zad bb 0
   have b2 := za1 bb 0
   refine zs5 (w1 := V.setCell ⟨gb, 0, none⟩ (s_ 7)) (by rfl) rfl ?_ (hK undef _ ⟨fun h => absurd (h.symm.trans h7) (by simp), fun _ h => absurd h (by simp [riUp]), fun _ => ⟨V, ⟨V1, hb, hb1, hgr, hat, ho⟩, rfl⟩, g0, g1, g2, g3, g4, g5, fun _ h => absurd (h.symm.trans h7) (by simp), g8, g9⟩)
   refine zsr ?_
   rw [e9, e7]
   clear bb hgr hat ho hb1 hb hX
   go_simp
 · rintro L s_ V hL ⟨hB, hA, hS, g0, g1, g2, g3, g4, g5, g6, g8, g9⟩
   obtain ⟨V2, ⟨V1, hb, hb1, hgr, hat, ho⟩, rfl⟩ := hS (hL 10 rfl)
   obtain ⟨A7, c7, e7⟩ := Kd.R_slice ho
   have HX6 := zA ((HX5.out.step hb).append ho hb1 hgr)
   have HF6 := zA (((((ShFr.refl gb r (.slice Ao s.1.length co) W).step HB4.out).step HBr.out).step hb).append hgr hat)
   have q2 := zad HX6.out.bb 0
   rw [e7] at HX6 HF6 q2 ⊢
   clear hb hb1 hgr hat ho hB hA hS g0 g1 g2 g3 g4 g5 g6 g8 g9
   refine zsr ?_
   generalize V2.setCell ⟨gb, 0, none⟩ (.slice A7 (s.1 ++ [(⟨n0, n1, n2, n3⟩ : S62)]).length c7) = X at HX6 HF6 q2 ⊢
   go_wp2_with fail
   go_ret
   have e : zef ⟨n0, n1, n2, n3⟩ s.1 = (s.1 ++ [⟨n0, n1, n2, n3⟩], (s.1.length : Int)) := by
     unfold zef
     rw [← HL.out, ← HS'.out, if_pos (by omega)]
   rw [e]
   exact ⟨_, rfl, HX6.out, HF6.out⟩
set_option linter.unusedVariables false
set_option linter.unusedSimpArgs false
def exW (k : Nat) (e : List S62) : Nat → Int → List S62 × List Int → Option ((List S62 × List Int) × Int)
 | 0, _, _ => none
 | d + 1, i, s => if 0 ≤ i ∧ i < e.length then (if rd s.2 i ≥ 0 then some (s, rd s.2 i) else (zce k (zac e i).f0 (zac e i).f1 (zac e i).f2 (zac e i).f3).bind fun ps => if ps.length < 1048576 then
     (if 0 < ps.length then exW k e d (zac e i).f1 s else some (s, 0)).bind fun r1 => (if 1 < ps.length then exW k e d (zac e i).f2 r1.1 else some (r1.1, 0)).bind fun r2 => if r2.1.1.length < 1048576 then
       some (((zef ⟨(zac e i).f0, r1.2, r2.2, (zac e i).f3⟩ r2.1.1).1, r2.1.2.set i.toNat (zef ⟨(zac e i).f0, r1.2, r2.2, (zac e i).f3⟩ r2.1.1).2), (zef ⟨(zac e i).f0, r1.2, r2.2, (zac e i).f3⟩ r2.1.1).2) else none else none) else none
theorem kOwn {W : World} {base : Nat} {ok : Nat → Prop} {v : Value} {xs : List S62} (h : Kd.R k62 62 W base ok v xs) : Kd.R k62 62 W base (fun k => some k = v.ownBlock) v xs := by
 obtain ⟨h0, inner, ho, hr⟩ := h
 exact ⟨fun k hk => hk.symm, inner, ho, hr.imp_ (fun x cs hp => by rw [zxw hp]; exact zhd _ _ _ x)⟩
structure ExN (w0 : World) (gb r cr m g : Nat) (W : World) (vo : Value) (f0 : ByteArray) (f3 : Int) (s : List S62 × List Int) (v : Value) (a b : Int) (V : World) : Prop where
 x : ExX w0 gb r cr m s v V
 box : V.heap[g]? = some (.cells #[.string f0, .int .i64 a, .int .i64 b, .int .i64 f3] 62 (0, 0))
 ge : W.heap.size ≤ g
 lo : w0.heap.size ≤ g
 ne : g ≠ gb ∧ g ≠ r
 own : some g ≠ v.ownBlock
 fr : ShFr gb r vo W v V
section
variable {w0 : World} {gb r cr m g : Nat} {W : World} {vo : Value} {f0 : ByteArray} {f3 : Int} {s : List S62 × List Int} {v : Value} {a b : Int} {V : World}
theorem ExN.step (h : ExN w0 gb r cr m g W vo f0 f3 s v a b V) {V1 : World} (hb : Below V.heap.size V V1) : ExN w0 gb r cr m g W vo f0 f3 s v a b V1 :=
 ⟨h.x.step hb, zah h.box hb, h.ge, h.lo, h.ne, h.own, h.fr.step hb⟩
theorem ExN.walked (h : ExN w0 gb r cr m g W vo f0 f3 s v a b V) {s1 : List S62 × List Int} {v1 : Value} {V1 : World} (hX : ExX w0 gb r cr m s1 v1 V1) (hF : ShFr gb r v V v1 V1) : ExN w0 gb r cr m g W vo f0 f3 s1 v1 a b V1 := by
 have hlt := zb2 h.box
 refine ⟨hX, (hF.keep g hlt h.ne.2 h.ne.1 h.own).trans h.box, h.ge, h.lo, h.ne, fun e => ?_, h.fr.trans hF⟩
 rcases hF.own g e.symm with e' | e'
 · exact h.own e'.symm
 · omega
theorem ExN.set (h : ExN w0 gb r cr m g W vo f0 f3 s v a b V) (j : Nat) (u : Value) (a' b' : Int) (hc : (#[.string f0, .int .i64 a, .int .i64 b, .int .i64 f3] : Array Value).setIfInBounds j u = #[.string f0, .int .i64 a', .int .i64 b', .int .i64 f3]) : ExN w0 gb r cr m g W vo f0 f3 s v a' b' (V.setCell ⟨g, j, none⟩ u) := by
 refine ⟨⟨h.x.below.setCell (p := ⟨g, j, none⟩) h.lo _, zaz h.x.bb (fun e => h.ne.1 zq59) _, h.x.lo, Kd.R_mono (Kd.R_far (kOwn h.x.out) (p := ⟨g, j, none⟩) (fun k hk e => h.own (by rw [← hk]; exact congrArg some e.symm)) _) (fun k hk => h.x.out.1 k hk.symm), h.x.rne, Kd.R_far h.x.nam (p := ⟨g, j, none⟩) (fun k hk => by rw [hk]; exact fun e => h.ne.2 e.symm) _⟩, ?_, h.ge, h.lo, h.ne, h.own, ?_⟩
 · rw [← hc]
   exact zam h.box j u
 · have hg := h.ge
   exact ⟨Nat.le_trans h.fr.size ((Below.refl 0 V).setCell (p := ⟨g, j, none⟩) (Nat.zero_le _) u).size, fun k hk h1 h2 h3 => (Below.heap_setCell V ⟨g, j, none⟩ u k (show k ≠ g by omega)).trans (h.fr.keep k hk h1 h2 h3), h.fr.own⟩
end
theorem yde (k : Nat) {w0 : World} {A0 : Option Addr} {c0 : Nat} {e : List S62} {gb r cr : Nat} (hC : Kd.C k62 w0 A0 e.length e) : ∀ (d : Nat) (i : Int) (s s' : List S62 × List Int) (x : Int) (vo : Value) (W : World), ExX w0 gb r cr e.length s vo W → exW k e d i s = some (s', x) →
   Calls Tryz.prog 189 #[.pointer (some ⟨gb, 0, none⟩), .slice A0 e.length c0, .int .i64 i, .slice (some ⟨r, 0, none⟩) e.length cr] W fun y W' => y = .returned (.int .i64 x) ∧ ∃ vo', ExX w0 gb r cr e.length s' vo' W' ∧ ShFr gb r vo W vo' W' := by
 have HC := zA hC
 clear hC
 intro d
 induction d with
 | zero => intro i s s' x vo W hX h; cases h
 | succ d ih =>
 intro i s s' x vo W hX h
 have HIH := zA ih
 clear ih
 unfold exW at h
 by_cases c1 : 0 ≤ i ∧ i < e.length
 rotate_left
 · rw [if_neg c1] at h
   cases h
 rw [if_pos c1] at h
 obtain ⟨c2, c3⟩ := c1
 obtain ⟨p0, p1⟩ := Kd.R_celln 0 hX.nam i c2 c3
 have HX := zA hX
 clear hX
 by_cases hn : rd s.2 i ≥ 0
 · rw [if_pos hn] at h
   obtain ⟨rfl, rfl⟩ := Prod.mk.inj (zsi h)
   clear h
   have d1 : decide (0 ≤ rdOf 0 s.2 i) = true := zdt hn
   clear hn
   go_enter Tryz.func189, Tryz.ntmps189
   go_wp2_with fail
   go_ret
   exact ⟨rfl, vo, HX.out, ShFr.refl _ _ _ _⟩
 rw [if_neg hn] at h
 have d1 : decide (0 ≤ rdOf 0 s.2 i) = false := zdf hn
 clear hn
 obtain ⟨ps, hps, h⟩ := Option.bind_eq_some_iff.1 h
 by_cases hpl : ps.length < 1048576
 rotate_left
 · rw [if_neg hpl] at h
   cases h
 rw [if_pos hpl] at h
 obtain ⟨⟨s1, z1⟩, hs1, h⟩ := Option.bind_eq_some_iff.1 h
 obtain ⟨⟨s2, z2⟩, hs2, h⟩ := Option.bind_eq_some_iff.1 h
 by_cases hsl : s2.1.length < 1048576
 rotate_left
 · rw [if_neg hsl] at h
   cases h
 rw [if_pos hsl] at h
 have HPS := zA hps
 have HS1 := zA hs1
 have HS2 := zA hs2
 have HE := zA (Prod.mk.inj (zsi h))
 clear hps hs1 hs2 h
 obtain ⟨ad, eA, x0, x1, x2, x3⟩ := zdu (zCb HC.out HX.out.below) i c2 c3
 subst eA
 go_enter Tryz.func189, Tryz.ntmps189
 go_wp2_with fail
 obtain ⟨f0, hf0⟩ : ∃ f0, f0 = (zac e i).f0 := ⟨_, rfl⟩
 obtain ⟨f3, hf3⟩ : ∃ f3, f3 = (zac e i).f3 := ⟨_, rfl⟩
 have HF0 := zA hf0
 have HF3 := zA hf3
 clear hf0 hf3
 refine zji [[], [], [0, 1], [0, 1, 2], [0, 1, 2, 3], [], [], [5, 6], [5, 6, 7], [5, 6, 7, 8], [0, 1, 2, 3, 4, 5, 6, 7, 8, 9], [], [0, 1, 2, 3, 4, 5, 6, 7, 8, 9, 10, 11]] [[2, 3, 4, 10, 12], [2, 3, 4, 10, 12], [3, 4, 10, 12], [4, 10, 12], [10, 12], [7, 8, 9, 10, 12], [7, 8, 9, 10, 12], [8, 9, 10, 12], [9, 10, 12], [10, 12], [12], [12], []]
   (fun L s_ V => Below W.heap.size W V ∧ (L 0 = true → s_ 0 = .slice (some ad) e.length c0) ∧ (L 1 = true → s_ 1 = .int .i64 i) ∧ (L 2 = true → s_ 2 = .pointer (some (ad.add (i.toNat * 4)))) ∧ (L 3 = true → s_ 3 = .pointer (some (ad.add (i.toNat * 4)))) ∧ (L 4 = true → s_ 4 = .string f0) ∧ (L 5 = true → s_ 5 = .slice (some ad) e.length c0) ∧ (L 6 = true → s_ 6 = .int .i64 i) ∧ (L 7 = true → s_ 7 = .pointer (some (ad.add (i.toNat * 4)))) ∧ (L 8 = true → s_ 8 = .pointer (some ⟨(ad.add (i.toNat * 4)).block, (ad.add (i.toNat * 4)).off + 3, none⟩)) ∧ (L 9 = true → s_ 9 = .int .i64 f3) ∧ (L 10 = true → s_ 10 = .agg #[.string f0, .int .i64 0, .int .i64 0, .int .i64 f3]) ∧ (L 11 = true → ∃ g cs, s_ 11 = .pointer (some ⟨g, 0, none⟩) ∧ V.heap[g]? = some (.cells cs 62 (0, 0)) ∧ cs.size = 4 ∧ W.heap.size ≤ g ∧ (L 12 = true → cs = #[.string f0, .int .i64 0, .int .i64 0, .int .i64 f3])))
   rfl (fun _ _ _ _ _ h => h) zq28 ?_ ⟨?_, ?_, ?_, ?_, ?_, ?_, ?_, ?_, ?_, ?_, ?_, ?_, ?_, trivial⟩ ?_
 · exact ⟨zcs (Below.refl _ _), (fun h => Bool.noConfusion h), (fun h => Bool.noConfusion h), (fun h => Bool.noConfusion h), (fun h => Bool.noConfusion h), (fun h => Bool.noConfusion h), (fun h => Bool.noConfusion h), (fun h => Bool.noConfusion h), (fun h => Bool.noConfusion h), (fun h => Bool.noConfusion h), (fun h => Bool.noConfusion h), (fun h => Bool.noConfusion h), (fun h => Bool.noConfusion h)⟩
 · rintro L s_ V hu hd hn ⟨hB, g0, g1, g2, g3, g4, g5, g6, g7, g8, g9, g10, g11⟩ K hK
   refine zcw (N := some 19) (v := .slice (some ad) e.length c0) (w1 := V) (by rfl) rfl ?_ (hK _ _ ⟨hB, fun _ => rfl, g1, g2, g3, g4, g5, g6, g7, g8, g9, g10, g11⟩)
   refine zsr ?_
   go_simp
 · rintro L s_ V hu hd hn ⟨hB, g0, g1, g2, g3, g4, g5, g6, g7, g8, g9, g10, g11⟩ K hK
   refine zcw (N := some 20) (v := .int .i64 i) (w1 := V) (by rfl) rfl ?_ (hK _ _ ⟨hB, g0, fun _ => rfl, g2, g3, g4, g5, g6, g7, g8, g9, g10, g11⟩)
   refine zsr ?_
   go_simp
 · rintro L s_ V hu hd hn ⟨hB, g0, g1, g2, g3, g4, g5, g6, g7, g8, g9, g10, g11⟩ K hK
   have e0 := g0 hd.1
   have e1 := g1 hd.2
   refine zcw (N := some 21) (v := .pointer (some (ad.add (i.toNat * 4)))) (w1 := V) (by rfl) rfl ?_ (hK _ _ ⟨hB, g0, g1, fun _ => rfl, g3, g4, g5, g6, g7, g8, g9, g10, g11⟩)
   refine zsr ?_
   rw [e0, e1]
   go_simp
 · rintro L s_ V hu hd hn ⟨hB, g0, g1, g2, g3, g4, g5, g6, g7, g8, g9, g10, g11⟩ K hK
   have e2 := g2 hd.2.2
   refine zcw (N := some 22) (v := .pointer (some (ad.add (i.toNat * 4)))) (w1 := V) (by rfl) rfl ?_ (hK _ _ ⟨hB, g0, g1, g2, fun _ => rfl, g4, g5, g6, g7, g8, g9, g10, g11⟩)
   refine zsr ?_
   rw [e2]
   go_simp
 · rintro L s_ V hu hd hn ⟨hB, g0, g1, g2, g3, g4, g5, g6, g7, g8, g9, g10, g11⟩ K hK
   have e3 := g3 hd.2.2.2
   obtain ⟨ad', ea, y0, y1, y2, y3⟩ := zdu (zCb HC.out (HX.out.step hB).below) i c2 c3
   cases ea
   rw [← HF0.out] at y0
   clear x0 x1 x2 x3
   refine zcw (N := some 23) (v := .string f0) (w1 := V) (by rfl) rfl ?_ (hK _ _ ⟨hB, g0, g1, g2, g3, fun _ => rfl, g5, g6, g7, g8, g9, g10, g11⟩)
   refine zsr ?_
   rw [e3]
   go_simp
 · rintro L s_ V hu hd hn ⟨hB, g0, g1, g2, g3, g4, g5, g6, g7, g8, g9, g10, g11⟩ K hK
   refine zcw (N := some 24) (v := .slice (some ad) e.length c0) (w1 := V) (by rfl) rfl ?_ (hK _ _ ⟨hB, g0, g1, g2, g3, g4, fun _ => rfl, g6, g7, g8, g9, g10, g11⟩)
   refine zsr ?_
   go_simp
 · rintro L s_ V hu hd hn ⟨hB, g0, g1, g2, g3, g4, g5, g6, g7, g8, g9, g10, g11⟩ K hK
   refine zcw (N := some 25) (v := .int .i64 i) (w1 := V) (by rfl) rfl ?_ (hK _ _ ⟨hB, g0, g1, g2, g3, g4, g5, fun _ => rfl, g7, g8, g9, g10, g11⟩)
   refine zsr ?_
   go_simp
 · rintro L s_ V hu hd hn ⟨hB, g0, g1, g2, g3, g4, g5, g6, g7, g8, g9, g10, g11⟩ K hK
   have e5 := g5 hd.1
   have e6 := g6 hd.2
   refine zcw (N := some 26) (v := .pointer (some (ad.add (i.toNat * 4)))) (w1 := V) (by rfl) rfl ?_ (hK _ _ ⟨hB, g0, g1, g2, g3, g4, g5, g6, fun _ => rfl, g8, g9, g10, g11⟩)
   refine zsr ?_
   rw [e5, e6]
   go_simp
 · rintro L s_ V hu hd hn ⟨hB, g0, g1, g2, g3, g4, g5, g6, g7, g8, g9, g10, g11⟩ K hK
   have e7 := g7 hd.2.2
   refine zcw (N := some 27) (v := .pointer (some ⟨(ad.add (i.toNat * 4)).block, (ad.add (i.toNat * 4)).off + 3, none⟩)) (w1 := V) (by rfl) rfl ?_ (hK _ _ ⟨hB, g0, g1, g2, g3, g4, g5, g6, g7, fun _ => rfl, g9, g10, g11⟩)
   refine zsr ?_
   rw [e7]
   go_simp
 · rintro L s_ V hu hd hn ⟨hB, g0, g1, g2, g3, g4, g5, g6, g7, g8, g9, g10, g11⟩ K hK
   have e8 := g8 hd.2.2.2
   obtain ⟨ad', ea, y0, y1, y2, y3⟩ := zdu (zCb HC.out (HX.out.step hB).below) i c2 c3
   cases ea
   rw [← HF3.out] at y3
   clear x0 x1 x2 x3
   refine zcw (N := some 28) (v := .int .i64 f3) (w1 := V) (by rfl) rfl ?_ (hK _ _ ⟨hB, g0, g1, g2, g3, g4, g5, g6, g7, g8, fun _ => rfl, g10, g11⟩)
   refine zsr ?_
   rw [e8]
   go_simp
 · rintro L s_ V hu hd hn ⟨hB, g0, g1, g2, g3, g4, g5, g6, g7, g8, g9, g10, g11⟩ K hK
   have e4 := g4 hd.2.2.2.2.1
   have e9 := g9 hd.2.2.2.2.2.2.2.2.2
   refine zcw (N := some 29) (v := .agg #[.string f0, .int .i64 0, .int .i64 0, .int .i64 f3]) (w1 := V) (by rfl) rfl ?_ (hK _ _ ⟨hB, g0, g1, g2, g3, g4, g5, g6, g7, g8, g9, fun _ => rfl, g11⟩)
   refine zsr ?_
   rw [e4, e9]
   go_simp
 · rintro L s_ V hu hd hn ⟨hB, g0, g1, g2, g3, g4, g5, g6, g7, g8, g9, g10, g11⟩ K hK
   refine zcw (N := some 9) (v := .pointer (some ⟨V.heap.size, 0, none⟩)) (w1 := V.alloc (.cells #[.string ⟨#[]⟩, .int .i64 0, .int .i64 0, .int .i64 0] 62)) (by rfl) rfl ?_ (hK _ _ ⟨zba hB _, g0, g1, g2, g3, g4, g5, g6, g7, g8, g9, g10, fun _ => ⟨V.heap.size, _, rfl, zhh V _, rfl, hB.size, fun h => absurd (h.symm.trans hn) (by simp)⟩⟩)
   refine zsr ?_
   go_simp
 · rintro L s_ V hu hd hn ⟨hB, g0, g1, g2, g3, g4, g5, g6, g7, g8, g9, g10, g11⟩ K hK
   obtain ⟨g, cs, a1, a2, a3, a4, _⟩ := g11 hd.2.2.2.2.2.2.2.2.2.2.2
   have e10 := g10 hd.2.2.2.2.2.2.2.2.2.2.1
   have hst := zh3 (P := Tryz.prog) (w := V) (o := 0) 62 (.agg #[.string f0, .int .i64 0, .int .i64 0, .int .i64 f3]) [.string f0, .int .i64 0, .int .i64 0, .int .i64 f3] a2 rfl rfl (by simp [a3]) zq49
   refine zs5 (w1 := V.setCells g 0 [.string f0, .int .i64 0, .int .i64 0, .int .i64 f3]) (by rfl) rfl ?_ (hK undef _ ⟨?_, g0, g1, g2, g3, g4, g5, g6, g7, g8, g9, g10, fun _ => ?_⟩)
   · simp only [zaj, riGo, zjh, zis, zib, zls, Nat.reduceBEq, Nat.reduceAdd, List.headD, List.tail, List.getD, List.getElem?_cons_zero, List.getElem?_cons_succ, Option.getD_some, cond_true, cond_false]
     rw [a1, e10]
     unfold execOp
     simp only [Sem.run_bind, Sem.run_pure]
     exact (congrArg (fun r => Result.andThen r _) hst).trans rfl
   · have hs := zh2 g [.string f0, .int .i64 0, .int .i64 0, .int .i64 f3] 0 V
     exact hB.trans ⟨hs.1, hs.2.1, hs.2.2.1, Nat.le_of_eq hs.2.2.2.symm, fun k hk => zfu _ _ k (by omega)⟩
   · obtain ⟨cur', b1, b2, b3⟩ := zip (e := 62) [.string f0, .int .i64 0, .int .i64 0, .int .i64 f3] 0 V cs a2 (by simp [a3])
     refine ⟨g, cur', a1, b1, b2.trans a3, a4, fun _ => ?_⟩
     apply Array.ext'
     have hd4 : cs.toList.drop (0 + 4) = [] := List.drop_of_length_le (by simp [a3])
     rw [b3]
     show cs.toList.take 0 ++ [.string f0, .int .i64 0, .int .i64 0, .int .i64 f3] ++ cs.toList.drop (0 + 4) = _
     rw [hd4]
     rfl
 · rintro L s_ V hL ⟨hB, g0, g1, g2, g3, g4, g5, g6, g7, g8, g9, g10, g11⟩
   obtain ⟨g, cs, a1, a2, a3, a4, a5⟩ := g11 (hL 11 rfl)
   obtain rfl := a5 (hL 12 rfl)
   have hown : some g ≠ vo.ownBlock := fun e => by
     have := Kd.R_lt HX.out.out g e.symm
     omega
   have hgb := zb2 HX.out.bb
   have hgr := Kd.R_lt HX.out.nam r rfl
   have HN := zA (show ExN w0 gb r cr e.length g W vo f0 f3 s vo 0 0 V from ⟨HX.out.step hB, a2, a4, Nat.le_trans HX.out.below.size a4, ⟨by omega, by omega⟩, hown, (ShFr.refl _ _ _ _).step hB⟩)
   clear a2 a3 a4 a5 g0 g1 g2 g3 g4 g5 g6 g7 g8 g9 g10 g11 hown hgb hgr x0 x1 x2 x3 p0 p1
   obtain ⟨ad', ea, x0, x1, x2, x3⟩ := zdu (zCb HC.out HN.out.x.below) i c2 c3
   cases ea
   clear hB
   refine zsr ?_
   rw [a1]
   clear a1
   rw [← HF0.out] at x0
   rw [← HF3.out] at x3
   have HPS2 := zA (show zce k f0 (zac e i).f1 (zac e i).f2 f3 = some ps by rw [HF0.out, HF3.out]; exact HPS.out)
   by_cases k1 : 0 < ps.length
   rotate_left
   · have d2 : decide ((0 : Int) < ps.length) = false := zdf (by omega)
     have d3 : decide ((1 : Int) < ps.length) = false := zdf (by omega)
     have hs1 := HS1.out
     rw [if_neg k1] at hs1
     obtain ⟨rfl, rfl⟩ := Prod.mk.inj (zsi hs1)
     have hs2 := HS2.out
     rw [if_neg (by omega)] at hs2
     obtain ⟨rfl, rfl⟩ := Prod.mk.inj (zsi hs2)
     clear hs1 hs2 HS1 HS2
     have HE2 := zA (show ((zef ⟨f0, 0, 0, f3⟩ s.1).1, s.2.set i.toNat (zef ⟨f0, 0, 0, f3⟩ s.1).2) = s' ∧ (zef ⟨f0, 0, 0, f3⟩ s.1).2 = x by have := HE.out; rw [← HF0.out, ← HF3.out] at this; exact this)
     clear HE
     go_wp2_with (first | (go_at_call 155; (with_reducible refine (zct k _ _ _ _ ps _ HPS2.out).mono ?_); rintro y w1 ⟨v1, rfl, hv1, hb1⟩; obtain ⟨A1, k1, rfl⟩ := Kd.R_slice hv1; have HNn := zA (HN.out.step hb1); clear HN hv1 hb1 x0 x1 x2 x3; have HN := HNn; clear HNn; obtain ⟨ad', ea, x0, x1, x2, x3⟩ := zdu (zCb HC.out HN.out.x.below) i c2 c3; cases ea; rw [← HF0.out] at x0; rw [← HF3.out] at x3; have y0 := zad HN.out.box 0; have y1 := zad HN.out.box 1; have y2 := zad HN.out.box 2; have y3 := zad HN.out.box 3) | (go_at_call 201; refine (zos _ _ _ HN.out.x f0 0 0 f3 hsl).mono ?_; rintro y w5 ⟨v5, rfl, hX5, hF5⟩; have HX5 := zA hX5; have HF5 := zA (HN.out.fr.trans hF5); obtain ⟨p2, p3⟩ := Kd.R_celln 0 hX5.nam i c2 c3; clear HN hX5 hF5 x0 x1 x2 x3 y0 y1 y2 y3))
     go_ret
     rw [← HE2.out.1, ← HE2.out.2]
     exact ⟨rfl, _, HX5.out.setn i _, HF5.out.setn i.toNat _⟩
   have d2 : decide ((0 : Int) < ps.length) = true := zdt (by omega)
   have hs1 := HS1.out
   rw [if_pos k1] at hs1
   have HS1' := zA hs1
   by_cases k2 : 1 < ps.length
   rotate_left
   · have d3 : decide ((1 : Int) < ps.length) = false := zdf (by omega)
     have hs2 := HS2.out
     rw [if_neg k2] at hs2
     obtain ⟨rfl, rfl⟩ := Prod.mk.inj (zsi hs2)
     clear hs1 hs2 HS1 HS2
     have HE2 := zA (show ((zef ⟨f0, z1, 0, f3⟩ s1.1).1, s1.2.set i.toNat (zef ⟨f0, z1, 0, f3⟩ s1.1).2) = s' ∧ (zef ⟨f0, z1, 0, f3⟩ s1.1).2 = x by have := HE.out; rw [← HF0.out, ← HF3.out] at this; exact this)
     clear HE
     go_wp2_with (first | (go_at_call 155; (with_reducible refine (zct k _ _ _ _ ps _ HPS2.out).mono ?_); rintro y w1 ⟨v1, rfl, hv1, hb1⟩; obtain ⟨A1, k1, rfl⟩ := Kd.R_slice hv1; have HNn := zA (HN.out.step hb1); clear HN hv1 hb1 x0 x1 x2 x3; have HN := HNn; clear HNn; obtain ⟨ad', ea, x0, x1, x2, x3⟩ := zdu (zCb HC.out HN.out.x.below) i c2 c3; cases ea; rw [← HF0.out] at x0; rw [← HF3.out] at x3; have y0 := zad HN.out.box 0; have y1 := zad HN.out.box 1; have y2 := zad HN.out.box 2; have y3 := zad HN.out.box 3) | (go_at_call 189; refine (HIH.out (zac e i).f1 s s1 z1 _ _ HN.out.x HS1'.out).mono ?_; rintro y w2 ⟨rfl, v2, hX2, hF2⟩; have HN2 := HN.out.walked hX2 hF2; have q1 := zad HN2.box 1; have q2 := za1 HN2.box 1; have HNn := zA (HN2.set 1 (.int .i64 z1) z1 0 rfl); clear HN HN2 hX2 hF2 x0 x1 x2 x3 y0 y1 y2 y3; have HN := HNn; clear HNn; obtain ⟨ad', ea, x0, x1, x2, x3⟩ := zdu (zCb HC.out HN.out.x.below) i c2 c3; cases ea; rw [← HF0.out] at x0; rw [← HF3.out] at x3) | (go_at_call 201; refine (zos _ _ _ HN.out.x f0 z1 0 f3 hsl).mono ?_; rintro y w5 ⟨v5, rfl, hX5, hF5⟩; have HX5 := zA hX5; have HF5 := zA (HN.out.fr.trans hF5); obtain ⟨p2, p3⟩ := Kd.R_celln 0 hX5.nam i c2 c3; clear HN hX5 hF5 x0 x1 x2 x3 y0 y1 y2 y3))
     go_ret
     rw [← HE2.out.1, ← HE2.out.2]
     exact ⟨rfl, _, HX5.out.setn i _, HF5.out.setn i.toNat _⟩
   have d3 : decide ((1 : Int) < ps.length) = true := zdt (by omega)
   have hs2 := HS2.out
   rw [if_pos k2] at hs2
   have HS2' := zA hs2
   clear hs1 hs2 HS1 HS2
   have HE2 := zA (show ((zef ⟨f0, z1, z2, f3⟩ s2.1).1, s2.2.set i.toNat (zef ⟨f0, z1, z2, f3⟩ s2.1).2) = s' ∧ (zef ⟨f0, z1, z2, f3⟩ s2.1).2 = x by have := HE.out; rw [← HF0.out, ← HF3.out] at this; exact this)
   clear HE
   go_wp2_with (first | (go_at_call 155; (with_reducible refine (zct k _ _ _ _ ps _ HPS2.out).mono ?_); rintro y w1 ⟨v1, rfl, hv1, hb1⟩; obtain ⟨A1, k1, rfl⟩ := Kd.R_slice hv1; have HNn := zA (HN.out.step hb1); clear HN hv1 hb1 x0 x1 x2 x3; have HN := HNn; clear HNn; obtain ⟨ad', ea, x0, x1, x2, x3⟩ := zdu (zCb HC.out HN.out.x.below) i c2 c3; cases ea; rw [← HF0.out] at x0; rw [← HF3.out] at x3; have y0 := zad HN.out.box 0; have y1 := zad HN.out.box 1; have y2 := zad HN.out.box 2; have y3 := zad HN.out.box 3) | (go_at_call 189; refine (HIH.out (zac e i).f1 s s1 z1 _ _ HN.out.x HS1'.out).mono ?_; rintro y w2 ⟨rfl, v2, hX2, hF2⟩; have HN2 := HN.out.walked hX2 hF2; have q1 := zad HN2.box 1; have q2 := za1 HN2.box 1; have HNn := zA (HN2.set 1 (.int .i64 z1) z1 0 rfl); clear HN HN2 hX2 hF2 x0 x1 x2 x3 y0 y1 y2 y3; have HN := HNn; clear HNn; obtain ⟨ad', ea, x0, x1, x2, x3⟩ := zdu (zCb HC.out HN.out.x.below) i c2 c3; cases ea; rw [← HF0.out] at x0; rw [← HF3.out] at x3) | (go_at_call 189; refine (HIH.out (zac e i).f2 s1 s2 z2 _ _ HN.out.x HS2'.out).mono ?_; rintro y w2 ⟨rfl, v2, hX2, hF2⟩; have HN2 := HN.out.walked hX2 hF2; have q1 := zad HN2.box 2; have q2 := za1 HN2.box 2; have HNn := zA (HN2.set 2 (.int .i64 z2) z1 z2 rfl); clear HN HN2 hX2 hF2 x0 x1 x2 x3 y0 y1 y2 y3; have HN := HNn; clear HNn; obtain ⟨ad', ea, x0, x1, x2, x3⟩ := zdu (zCb HC.out HN.out.x.below) i c2 c3; cases ea; rw [← HF0.out] at x0; rw [← HF3.out] at x3; have y0 := zad HN.out.box 0; have y1 := zad HN.out.box 1; have y2 := zad HN.out.box 2; have y3 := zad HN.out.box 3) | (go_at_call 201; refine (zos _ _ _ HN.out.x f0 z1 z2 f3 hsl).mono ?_; rintro y w5 ⟨v5, rfl, hX5, hF5⟩; have HX5 := zA hX5; have HF5 := zA (HN.out.fr.trans hF5); obtain ⟨p2, p3⟩ := Kd.R_celln 0 hX5.nam i c2 c3; clear HN hX5 hF5 x0 x1 x2 x3 y0 y1 y2 y3))
   go_ret
   rw [← HE2.out.1, ← HE2.out.2]
   exact ⟨rfl, _, HX5.out.setn i _, HF5.out.setn i.toNat _⟩
theorem exSet (n u : Nat) (h : u < n) : (List.replicate u (-1 : Int) ++ List.replicate (n - u) 0).set u (-1) = List.replicate (u + 1) (-1) ++ List.replicate (n - (u + 1)) 0 := by
 rw [show n - u = (n - (u + 1)) + 1 by omega, List.replicate_succ, List.set_append_right _ _ (by simp)]
 simp only [List.length_replicate, Nat.sub_self, List.set_cons_zero]
 rw [List.replicate_succ', List.append_assoc, List.singleton_append]
def zeg (k : Nat) (l0 : List S62) : Option (List S62) := if 0 < l0.length ∧ l0.length ≤ 1048576 then (exW k l0 k ((l0.length : Int) - 1) ([], List.replicate l0.length (-1))).bind fun z => some z.1.1 else none
theorem zix (k : Nat) (A0 : Option Addr) (c0 : Nat) (l0 : List S62) (r : List S62) (w : World) (hr0 : Kd.C k62 w A0 l0.length l0) (hc0 : l0.length ≤ c0) (h : zeg k l0 = some r) :
   Calls Tryz.prog 170 #[.slice A0 l0.length c0] w fun e w' => ∃ v0_ : Value, e = .returned (v0_) ∧ Kd.R k62 62 w' w.heap.size (fun _ => True) v0_ r ∧ Below w.heap.size w w' := by
 unfold zeg at h
 by_cases hl : 0 < l0.length ∧ l0.length ≤ 1048576
 rotate_left
 · rw [if_neg hl] at h
   cases h
 rw [if_pos hl] at h
 obtain ⟨⟨s, z⟩, hs, h⟩ := Option.bind_eq_some_iff.1 h
 obtain rfl := zsi h
 have HS := zA hs
 have HR := zA hr0
 have HC := zA hc0
 clear h hs hr0 hc0
 have k1 : (0 : Int) ≤ l0.length := by omega
 go_enter Tryz.func170, Tryz.ntmps170
 go_wp2_with (first
   | ((with_reducible refine zee (N := 7) rfl ?_); refine zg4 ?hg (N := 7) ?hd (cs := #[.slice none 0 0, .bool true]) (t := 164) ?hr ?_; (case hd => rfl); (case hg => rfl); (case hr => go_simp <;> rfl); intro gb hg w4 hbox hb; have BB := zA hbox; have HGB := zA (show w.heap.size ≤ gb from Nat.le_of_eq hg.symm); have HB := zA hb; clear hg hbox hb)
   | ((with_reducible refine zee (N := 10) rfl ?_); refine Kd.R_make (Kd.int .i64) (w0 := w) w.heap.size 3 rfl (N := 10) rfl 24 _ _ rfl (l0.length : Int) rfl rfl Tryz.underlying24 (.int .i64 0) 8 zn1 rfl (by decide) (by omega) 0 (ok := fun _ => True) (okp := fun _ => True) rfl (fun _ hk => hk) trivial k1 (by omega) HB.out HB.out.size ?_; intro v5 w5 ho hb hgr hnew; rw [Int.toNat_natCast] at ho; obtain ⟨r, cr, e5, hrb, _⟩ := Kd.R_form ho (by rw [List.length_replicate]; exact hl.1); rw [List.length_replicate] at e5; subst e5; have HO := zA ho; have BB5 := zA ((hgr.block gb (zb2 BB.out) (by simp)).trans BB.out); have RNE := zA (show r ≠ gb from by obtain ⟨b, e, hb2⟩ := hnew; have hlt := zb2 BB.out; have : r = b := (by simpa [Value.ownBlock] using e); omega); have HB5 := zA hb; clear ho hb hgr hnew hrb BB HB))
 go_loopw [5, 13] (fun v5 v13 wr => ∃ u : Nat, v13 = .int .i64 (u : Int) ∧ u ≤ l0.length ∧ Aside0 (wr.heap[gb]? = some (.cells #[.slice none 0 0, .bool true] 164 (0, 0))) ∧ Aside0 (Below w.heap.size w wr) ∧
   Aside0 (Kd.R (Kd.int .i64) 3 wr w.heap.size (fun _ => True) (.slice (some ⟨r, 0, none⟩) l0.length cr) (List.replicate u (-1) ++ List.replicate (l0.length - u) 0))) (fun _ v13 _ => l0.length - (intOf v13).toNat)
 case atStart => exact ⟨0, rfl, Nat.zero_le _, BB5, HB5, HO⟩
 clear BB5 HB5 HO
 obtain ⟨u, rfl, hu, BBr, HBr, HOr⟩ := hrel
 by_cases hlt : u < l0.length
 · have d1 : decide ((u : Int) < l0.length) = true := zdt (by omega)
   have d2 : (0 : Int) ≤ (u : Int) := by omega
   have d3 : (u : Int) < l0.length := by omega
   obtain ⟨p2, p3⟩ := Kd.R_celln 0 HOr.out (u : Int) d2 d3
   rw [Int.toNat_natCast] at p2 p3
   go_wp2_with fail
   go_roundw
   case rel =>
     have hp := Kd.R_putn HOr.out (u : Int) (-1)
     rw [Int.toNat_natCast, exSet l0.length u hlt] at hp
     exact ⟨u + 1, by go_num, by omega, ⟨zaz BBr.out (fun e => RNE.out zq59) _⟩, ⟨HBr.out.setCell (p := ⟨r, u, none⟩) (Kd.R_base HOr.out r rfl) _⟩, ⟨hp⟩⟩
   case measure => simp [intOf]; omega
 obtain rfl : u = l0.length := by omega
 have d1 : decide ((l0.length : Int) < l0.length) = false := zdf (by omega)
 have ho := HOr.out
 rw [Nat.sub_self, List.replicate_zero, List.append_nil] at ho
 have HX := zA (show ExX w gb r cr l0.length ([], List.replicate l0.length (-1)) (.slice none 0 0) wr from ⟨HBr.out, BBr.out, HGB.out, Kd.R_nil _ _ _ _ _, RNE.out, by
   have hv : (Kd.int .i64).R 3 wr w.heap.size (fun _ => True) (.slice (some ⟨r, 0, none⟩) (List.replicate l0.length (-1 : Int)).length cr) (List.replicate l0.length (-1)) := by rw [List.length_replicate]; exact ho
   have hw := Kd.R_of_own (h1 := fun _ => rfl) (Kd.own_of_R hv) (ok := fun k => k = r) (fun k hk => by simpa [Value.ownBlock] using hk.symm)
   rw [List.length_replicate] at hw
   exact hw⟩)
 clear ho HOr BBr HBr
 go_wp2_with (go_at_call 189; refine (yde k HR.out k _ _ s z _ _ HX.out HS.out).mono ?_; rintro y w6 ⟨rfl, v6, hX6, hF6⟩; obtain ⟨A6, c6, e6⟩ := Kd.R_slice hX6.out; subst e6; have q6 := zad hX6.bb 0; have HX6 := zA hX6; clear hX6 hF6)
 go_ret
 exact ⟨_, rfl, Kd.R_mono HX6.out.out (fun _ _ => trivial), HX6.out.below⟩
theorem zt1 (k : Nat) (e : List S62) : ∀ (d : Nat) (i : Int) (s : List S62 × List Int), LeO (exW k e d i s) (exW (k + 1) e (d + 1) i s)
 | 0, _, _ => LeO.none _
 | d + 1, i, s => by
   unfold exW
   exact zbi (zbi (LeO.refl _) (LeO.bind (zb8 _ _ _ _ _) (fun ps => zbi (LeO.bind (zbi (zt1 k e d _ _) (LeO.refl _)) (fun r1 => LeO.bind (zbi (zt1 k e d _ _) (LeO.refl _)) (fun r2 => LeO.refl _))) (LeO.refl _)))) (LeO.refl _)
theorem zi7 : ∀ a0 k, LeO (zeg k a0) (zeg (k + 1) a0) := by
 intro a0 k
 unfold zeg
 exact zbi (LeO.bind (zt1 _ _ _ _ _) (fun _ => LeO.refl _)) (LeO.refl _)
end Go.Proofs.YtnaafcleafbejaaGreat.Q
end
section
namespace Go.Proofs.YtnaafcleafbejaaGreat.Q
open Go.RowKit Go.Proofs.YtnaafcleafbejaaGreatW.PrintWords Go.Proofs.YtnaafcleafbejaaGreatW.PrintLast Go.Proofs.YtnaafcleafbejaaGreatW.PrintMore
set_option maxHeartbeats 8000000
set_option maxRecDepth 100000
attribute [local go_sem] zf1 zf2 zhf zhg zeu zev zf3 zf6
set_option linter.unusedVariables false
set_option linter.unusedSimpArgs false
def zdw : Nat → ByteArray → List ByteArray → Int → Option (Int)
 | 0, _, _, _ => none
 | k + 1, x0, x3, x4 => if 0 ≤ x4 then (if x4 < (x3.length : Int) then (if (rdOf ByteArray.empty x3 x4).toList = x0.toList then (some x4) else (zdw k x0 x3 (wrap64 (x4 + 1)))) else (none)) else (none)
def zfn (k : Nat) (a0 : ByteArray) : Option (Int) := zdw k a0 (([(⟨#[105, 110]⟩ : ByteArray), (⟨#[99, 111, 110, 115, 116]⟩ : ByteArray), (⟨#[110, 111, 116]⟩ : ByteArray), (⟨#[110, 101, 103]⟩ : ByteArray), (⟨#[97, 100, 100]⟩ : ByteArray), (⟨#[115, 117, 98]⟩ : ByteArray), (⟨#[109, 117, 108]⟩ : ByteArray), (⟨#[97, 110, 100]⟩ : ByteArray), (⟨#[111, 114]⟩ : ByteArray), (⟨#[120, 111, 114]⟩ : ByteArray), (⟨#[115, 104, 108]⟩ : ByteArray), (⟨#[115, 104, 114]⟩ : ByteArray), (⟨#[108, 101, 115, 115]⟩ : ByteArray), (⟨#[101, 113]⟩ : ByteArray)] : List ByteArray)) 0
theorem zlg : ∀ k, (∀ y0 y1 y2, LeO (zdw k y0 y1 y2) (zdw (k + 1) y0 y1 y2))
 | 0 => fun _ _ _ r h => by simp [zdw] at h
 | k + 1 => by
   have ih0 := zlg k
   · intro y0 y1 y2
     unfold zdw
     exact zm1 ih0
theorem zmv : ∀ a0 k, LeO (zfn k a0) (zfn (k + 1) a0) := by
 intro a0 k
 have ih0 := zlg k
 unfold zfn
 exact zm1 ih0
theorem zl6 (k : Nat) (a0 : ByteArray) (r : Int) (w : World) (h : zfn k a0 = some r) :
   Calls Tryz.prog 191 #[.string a0] w fun e w' => e = .returned (.int .i64 r) ∧ Below w.heap.size w w' := by
 have HB := zA (Below.refl w.heap.size w)
 have H := h
 unfold zfn at H
 clear h
 obtain ⟨y101, hy101⟩ : ∃ y_ : List ByteArray, y_ = (([(⟨#[105, 110]⟩ : ByteArray), (⟨#[99, 111, 110, 115, 116]⟩ : ByteArray), (⟨#[110, 111, 116]⟩ : ByteArray), (⟨#[110, 101, 103]⟩ : ByteArray), (⟨#[97, 100, 100]⟩ : ByteArray), (⟨#[115, 117, 98]⟩ : ByteArray), (⟨#[109, 117, 108]⟩ : ByteArray), (⟨#[97, 110, 100]⟩ : ByteArray), (⟨#[111, 114]⟩ : ByteArray), (⟨#[120, 111, 114]⟩ : ByteArray), (⟨#[115, 104, 108]⟩ : ByteArray), (⟨#[115, 104, 114]⟩ : ByteArray), (⟨#[108, 101, 115, 115]⟩ : ByteArray), (⟨#[101, 113]⟩ : ByteArray)] : List ByteArray)) := ⟨_, rfl⟩
 rw [← hy101] at H; try with_reducible replace H := zbs H
 have Ny101 := zA hy101
 clear hy101
 have H' := zA H
 clear H
 go_enter Tryz.func191, Tryz.ntmps191
 go_wp2_with (first | ((with_reducible refine zgd 5 ?_); refine Kd.R_lit Kd.string _ 9 ?hg (N := 5) ?hd (xs := ([(⟨#[105, 110]⟩ : ByteArray), (⟨#[99, 111, 110, 115, 116]⟩ : ByteArray), (⟨#[110, 111, 116]⟩ : ByteArray), (⟨#[110, 101, 103]⟩ : ByteArray), (⟨#[97, 100, 100]⟩ : ByteArray), (⟨#[115, 117, 98]⟩ : ByteArray), (⟨#[109, 117, 108]⟩ : ByteArray), (⟨#[97, 110, 100]⟩ : ByteArray), (⟨#[111, 114]⟩ : ByteArray), (⟨#[120, 111, 114]⟩ : ByteArray), (⟨#[115, 104, 108]⟩ : ByteArray), (⟨#[115, 104, 114]⟩ : ByteArray), (⟨#[108, 101, 115, 115]⟩ : ByteArray), (⟨#[101, 113]⟩ : ByteArray)] : List ByteArray)) (inner := [.string (⟨#[105, 110]⟩ : ByteArray), .string (⟨#[99, 111, 110, 115, 116]⟩ : ByteArray), .string (⟨#[110, 111, 116]⟩ : ByteArray), .string (⟨#[110, 101, 103]⟩ : ByteArray), .string (⟨#[97, 100, 100]⟩ : ByteArray), .string (⟨#[115, 117, 98]⟩ : ByteArray), .string (⟨#[109, 117, 108]⟩ : ByteArray), .string (⟨#[97, 110, 100]⟩ : ByteArray), .string (⟨#[111, 114]⟩ : ByteArray), .string (⟨#[120, 111, 114]⟩ : ByteArray), .string (⟨#[115, 104, 108]⟩ : ByteArray), .string (⟨#[115, 104, 114]⟩ : ByteArray), .string (⟨#[108, 101, 115, 115]⟩ : ByteArray), .string (⟨#[101, 113]⟩ : ByteArray)]) (ok := fun _ => True) (okp := fun _ => True) ?hr ?hp (fun _ hk => hk) trivial (Below.refl _ _) (zlr _) (by simp) ?_; (case hd => rfl); (case hg => rfl); (case hr => go_simp <;> rfl); (case hp => exact (zan (show Kd.M Kd.string _ _ _ (⟨#[105, 110]⟩ : ByteArray) [.string (⟨#[105, 110]⟩ : ByteArray)] from rfl) (zan (show Kd.M Kd.string _ _ _ (⟨#[99, 111, 110, 115, 116]⟩ : ByteArray) [.string (⟨#[99, 111, 110, 115, 116]⟩ : ByteArray)] from rfl) (zan (show Kd.M Kd.string _ _ _ (⟨#[110, 111, 116]⟩ : ByteArray) [.string (⟨#[110, 111, 116]⟩ : ByteArray)] from rfl) (zan (show Kd.M Kd.string _ _ _ (⟨#[110, 101, 103]⟩ : ByteArray) [.string (⟨#[110, 101, 103]⟩ : ByteArray)] from rfl) (zan (show Kd.M Kd.string _ _ _ (⟨#[97, 100, 100]⟩ : ByteArray) [.string (⟨#[97, 100, 100]⟩ : ByteArray)] from rfl) (zan (show Kd.M Kd.string _ _ _ (⟨#[115, 117, 98]⟩ : ByteArray) [.string (⟨#[115, 117, 98]⟩ : ByteArray)] from rfl) (zan (show Kd.M Kd.string _ _ _ (⟨#[109, 117, 108]⟩ : ByteArray) [.string (⟨#[109, 117, 108]⟩ : ByteArray)] from rfl) (zan (show Kd.M Kd.string _ _ _ (⟨#[97, 110, 100]⟩ : ByteArray) [.string (⟨#[97, 110, 100]⟩ : ByteArray)] from rfl) (zan (show Kd.M Kd.string _ _ _ (⟨#[111, 114]⟩ : ByteArray) [.string (⟨#[111, 114]⟩ : ByteArray)] from rfl) (zan (show Kd.M Kd.string _ _ _ (⟨#[120, 111, 114]⟩ : ByteArray) [.string (⟨#[120, 111, 114]⟩ : ByteArray)] from rfl) (zan (show Kd.M Kd.string _ _ _ (⟨#[115, 104, 108]⟩ : ByteArray) [.string (⟨#[115, 104, 108]⟩ : ByteArray)] from rfl) (zan (show Kd.M Kd.string _ _ _ (⟨#[115, 104, 114]⟩ : ByteArray) [.string (⟨#[115, 104, 114]⟩ : ByteArray)] from rfl) (zan (show Kd.M Kd.string _ _ _ (⟨#[108, 101, 115, 115]⟩ : ByteArray) [.string (⟨#[108, 101, 115, 115]⟩ : ByteArray)] from rfl) (zan (show Kd.M Kd.string _ _ _ (⟨#[101, 113]⟩ : ByteArray) [.string (⟨#[101, 113]⟩ : ByteArray)] from rfl) (Reps.none _ _)))))))))))))))); intro v102 w2 ho3 hb hg_ hnew_; clear hg_ hnew_; (first | rw [← Ny101.out] at ho3 | (simp only [Int.reduceToNat] at ho3; rw [← Ny101.out] at ho3)); have HO103 := zA (Kd.R_lower ho3 (zag zq1)); replace HB := zA (zab zq1 hb); clear hb ho3))
 go_loopg [4] k (fun kq v4 w' => ∃ (x4_1 : Int), v4 = .int .i64 x4_1 ∧ Aside0 (zdw kq a0 y101 x4_1 = some r) ∧ Aside0 (kq ≤ k) ∧ Aside0 (Kd.R Kd.string 9 w' w.heap.size (fun _ => True) v102 y101) ∧ Aside0 (Below w.heap.size w w'))
 case atStart => exact ⟨(0), zq5, H', ⟨zlr _⟩, ⟨zq2 HO103⟩, ⟨zq1⟩⟩
 clear H'
 obtain ⟨x4_1, rfl, HA, HK1, HO_3, HB⟩ := hrel
 cases gk with
 | zero => exact absurd HA.out (by simp [zdw])
 | succ k1 =>
 have H := HA.out
 clear HA
 simp only [zdw] at H
 revert H
 refine zin fun c4 H => ?_
 revert H
 refine zin fun c5 H => ?_
 by_cases c6 : (rdOf ByteArray.empty y101 x4_1).toList = a0.toList
 · rw [if_pos c6] at H
   obtain ⟨c6b0, c6b1⟩ := zbe c6
   clear c6
   obtain rfl := zsi H
   obtain ⟨Ao7, co7, eo7⟩ := Kd.R_slice HO_3.out
   subst eo7
   obtain ⟨p104, q104⟩ := zpq x4_1 y101.length
   obtain ⟨ad104, e104, hx104_0⟩ := Kd.at_string (zRr HO_3.out).2.2 x4_1 (zoe p104) (zoe q104)
   cases e104
   go_wp2
   exact zr_3
 rw [if_neg c6] at H
 obtain ⟨c6b0, c6b1⟩ := zbq c6
 have H' := zA H
 clear H
 obtain ⟨Ao8, co8, eo8⟩ := Kd.R_slice HO_3.out
 subst eo8
 obtain ⟨p104, q104⟩ := zpq x4_1 y101.length
 obtain ⟨ad104, e104, hx104_0⟩ := Kd.at_string (zRr HO_3.out).2.2 x4_1 (zoe p104) (zoe q104)
 cases e104
 go_wp2
 go_roundg k1
 case measure => have := HK1.out; omega
 case rel => exact ⟨(wrap64 (x4_1 + 1)), zq5, H', ⟨zq41 HK1⟩, ⟨zq2 HO_3⟩, ⟨zq1⟩⟩
def scL (g : Int → Int → Option Int) : List Int → List Int → Option Int
 | [], _ => some 0
 | _ :: _, [] => none
 | x :: xs, y :: ys => (g x y).bind fun c => if c = 0 then scL g xs ys else some c
def scW (k : Nat) (e : List S62) : Nat → Int → Int → Option Int
 | 0, _, _ => none
 | d + 1, i, j => if i = j then some 0 else if (0 ≤ i ∧ i < (e.length : Int)) ∧ 0 ≤ j ∧ j < (e.length : Int) then if (zac e i).f0.toList = (zac e j).f0.toList then (if (zac e i).f3 = (zac e j).f3 then (zce k (zac e j).f0 (zac e j).f1 (zac e j).f2 (zac e j).f3).bind fun kb => (zce k (zac e i).f0 (zac e i).f1 (zac e i).f2 (zac e i).f3).bind fun ka => if ka.length < 1048576 then scL (scW k e d) ka kb else none else some (wrap64 ((zac e i).f3 - (zac e j).f3))) else (zfn k (zac e i).f0).bind fun ra => (zfn k (zac e j).f0).bind fun rb => some (wrap64 (ra - rb)) else none
def zjl (k : Nat) (l0 : List S62) (a1 : Int) (a2 : Int) : Option Int := scW k l0 k a1 a2
theorem zvr (g g' : Int → Int → Option Int) (h : ∀ x y, LeO (g x y) (g' x y)) : ∀ xs ys, LeO (scL g xs ys) (scL g' xs ys)
 | [], _ => LeO.refl _
 | _ :: _, [] => LeO.none _
 | x :: xs, y :: ys => LeO.bind (h x y) (fun _ => zbi (zvr g g' h xs ys) (LeO.refl _))
theorem zws (k : Nat) (e : List S62) : ∀ (d : Nat) (i j : Int), LeO (scW k e d i j) (scW (k + 1) e (d + 1) i j)
 | 0, _, _ => LeO.none _
 | d + 1, i, j => by
   unfold scW
   exact zbi (LeO.refl _) (zbi (zbi (zbi (LeO.bind (zb8 _ _ _ _ _) (fun _ => LeO.bind (zb8 _ _ _ _ _) (fun _ => zbi (zvr _ _ (zws k e d) _ _) (LeO.refl _)))) (LeO.refl _)) (LeO.bind (zmv _ _) (fun _ => LeO.bind (zmv _ _) (fun _ => LeO.refl _)))) (LeO.refl _))
theorem zwt (k : Nat) (e : List S62) : ∀ (d : Nat) (i j : Int), LeO (scW k e d i j) (scW k e (d + 1) i j)
 | 0, _, _ => LeO.none _
 | d + 1, i, j => by
   unfold scW
   exact zbi (LeO.refl _) (zbi (zbi (zbi (LeO.bind (LeO.refl _) (fun _ => LeO.bind (LeO.refl _) (fun _ => zbi (zvr _ _ (zwt k e d) _ _) (LeO.refl _)))) (LeO.refl _)) (LeO.bind (LeO.refl _) (fun _ => LeO.bind (LeO.refl _) (fun _ => LeO.refl _)))) (LeO.refl _))
theorem zr5 : ∀ a0 a1 a2 k, LeO (zjl k a0 a1 a2) (zjl (k + 1) a0 a1 a2) := fun a0 a1 a2 k => zws k a0 k a1 a2
theorem ydf (k : Nat) {A0 : Option Addr} {c0 : Nat} {e : List S62} {w : World} (hC : Kd.C k62 w A0 e.length e) (hc0 : e.length ≤ c0) : ∀ (d : Nat) (i j r : Int) (W : World), Below w.heap.size w W → scW k e d i j = some r →
   Calls Tryz.prog 173 #[.slice A0 e.length c0, .int .i64 i, .int .i64 j] W fun y W' => y = .returned (.int .i64 r) ∧ Below W.heap.size W W' := by
 have HC := zA hC
 clear hC
 intro d
 induction d with
 | zero => intro i j r W hB h; cases h
 | succ d ih =>
 intro i j r W hB h
 have HIH := zA ih
 have HB := zA hB
 clear ih hB
 unfold scW at h
 by_cases hij : i = j
 · rw [if_pos hij] at h
   obtain rfl := zsi h
   subst hij
   clear h
   go_enter Tryz.func173, Tryz.ntmps173
   go_wp2_with fail
   go_ret
   exact ⟨rfl, Below.refl _ _⟩
 rw [if_neg hij] at h
 by_cases hin : (0 ≤ i ∧ i < (e.length : Int)) ∧ 0 ≤ j ∧ j < (e.length : Int)
 rotate_left
 · rw [if_neg hin] at h
   cases h
 rw [if_pos hin] at h
 obtain ⟨⟨i0, i1⟩, j0, j1⟩ := hin
 have dij : decide (i = j) = false := zdf hij
 have dij' : (i == j) = false := by simpa using hij
 obtain ⟨ad, eA, x0, x1, x2, x3⟩ := zdu (zCb HC.out HB.out) i i0 i1
 subst eA
 obtain ⟨x, hx⟩ : ∃ x, x = zac e i := ⟨_, rfl⟩
 obtain ⟨y, hy⟩ : ∃ y, y = zac e j := ⟨_, rfl⟩
 have HX := zA hx
 have HY := zA hy
 rw [← hx, ← hy] at h
 have HH := zA h
 clear hx hy h x0 x1 x2 x3
 go_enter Tryz.func173, Tryz.ntmps173
 go_wp2_with fail
 clear hij dij dij'
 refine zwj [[], [], [0, 1], [0, 1, 2], [], [], [4, 5], [4, 5, 6], [], [], [0, 1, 2, 3, 8, 9], [0, 1, 2, 3, 4, 5, 6, 7, 8, 9, 10]] [[2, 3, 10, 11], [2, 3, 10, 11], [3, 10, 11], [10, 11], [6, 7, 11], [6, 7, 11], [7, 11], [11], [10, 11], [10, 11], [11], []] (zib [8, 9])
   (zls [.slice (some ad) e.length c0, .int .i64 i, .pointer (some (ad.add (i.toNat * 4))), .agg #[.string x.f0, .int .i64 x.f1, .int .i64 x.f2, .int .i64 x.f3], .slice (some ad) e.length c0, .int .i64 j, .pointer (some (ad.add (j.toNat * 4))), .agg #[.string y.f0, .int .i64 y.f1, .int .i64 y.f2, .int .i64 y.f3], undef, undef, undef, undef])
   (fun L s V => Below W.heap.size W V ∧ (L 8 = true → ∃ g cs, s 8 = .pointer (some ⟨g, 0, none⟩) ∧ W.heap.size ≤ g ∧ V.heap[g]? = some (.cells cs 62 (0, 0)) ∧ cs.size = 4 ∧ (L 10 = true → cs = #[.string x.f0, .int .i64 x.f1, .int .i64 x.f2, .int .i64 x.f3]) ∧ (L 9 = true → s 9 ≠ s 8)) ∧ (L 9 = true → ∃ g cs, s 9 = .pointer (some ⟨g, 0, none⟩) ∧ W.heap.size ≤ g ∧ V.heap[g]? = some (.cells cs 62 (0, 0)) ∧ cs.size = 4 ∧ (L 11 = true → cs = #[.string y.f0, .int .i64 y.f1, .int .i64 y.f2, .int .i64 y.f3])))
   rfl (fun _ _ _ _ _ h => h) zq28 ⟨zcs (Below.refl _ _), fun h => Bool.noConfusion h, fun h => Bool.noConfusion h⟩ ⟨?_, ?_, ?_, ?_, ?_, ?_, ?_, ?_, ?_, ?_, ?_, ?_, trivial⟩ ?_
 iterate 3
   · refine fun L s V hu hd hn hJ => zgx (by rfl) ⟨fun _ => rfl, hJ⟩ ?_
     refine zsm ?_
     exact zg0
 · refine fun L s V hu hd hn hJ => zgx (by rfl) ⟨fun _ => rfl, hJ⟩ ?_
   obtain ⟨ad', ea, z0, z1, z2, z3⟩ := zdu (zCb HC.out (zab HB.out hJ.1)) i i0 i1
   cases ea
   rw [← HX.out] at z0 z1 z2 z3
   clear hJ
   refine zsm ?_
   exact zg0
 iterate 3
   · refine fun L s V hu hd hn hJ => zgx (by rfl) ⟨fun _ => rfl, hJ⟩ ?_
     refine zsm ?_
     exact zg0
 · refine fun L s V hu hd hn hJ => zgx (by rfl) ⟨fun _ => rfl, hJ⟩ ?_
   obtain ⟨ad', ea, z0, z1, z2, z3⟩ := zdu (zCb HC.out (zab HB.out hJ.1)) j j0 j1
   cases ea
   rw [← HY.out] at z0 z1 z2 z3
   clear hJ
   refine zsm ?_
   exact zg0
 · rintro L s V hu hd hn ⟨hb, g8, g9⟩
   refine zgx (v := .pointer (some ⟨V.heap.size, 0, none⟩)) (w1 := V.alloc (.cells #[.string ⟨#[]⟩, .int .i64 0, .int .i64 0, .int .i64 0] 62)) (by rfl) ⟨fun h => absurd h (by decide), zba hb _, fun _ => ⟨_, _, rfl, hb.size, zhh V _, rfl, fun h => absurd (h.symm.trans hn.1) (by simp), fun h e => ?_⟩, fun h => ?_⟩ ?_
   · obtain ⟨g, cs, a1, a2, a3, _⟩ := g9 h
     have := zb2 a3
     rw [show riUp s 8 (.pointer (some ⟨V.heap.size, 0, none⟩)) 9 = s 9 from rfl, a1] at e
     have e2 : g = V.heap.size := by first | (simp [riUp] at e; done) | (simp [riUp] at e; exact e)
     omega
   · obtain ⟨g, cs, a1, a2, a3, a4, a5⟩ := g9 h
     exact ⟨g, cs, a1, a2, zka a3 _, a4, a5⟩
   · simp only [zaj, riGo, zjh, zis, zib, zls, mixV, Nat.reduceBEq, Nat.reduceAdd, List.headD, List.tail, List.getD, List.getElem?_cons_zero, List.getElem?_cons_succ, Option.getD_some, cond_true, cond_false]
     exact zg0
 · rintro L s V hu hd hn ⟨hb, g8, g9⟩
   refine zgx (v := .pointer (some ⟨V.heap.size, 0, none⟩)) (w1 := V.alloc (.cells #[.string ⟨#[]⟩, .int .i64 0, .int .i64 0, .int .i64 0] 62)) (by rfl) ⟨fun h => absurd h (by decide), zba hb _, fun h => ?_, fun _ => ⟨_, _, rfl, hb.size, zhh V _, rfl, fun h => absurd (h.symm.trans hn.2) (by simp)⟩⟩ ?_
   · obtain ⟨g, cs, a1, a2, a3, a4, a5, _⟩ := g8 h
     refine ⟨g, cs, a1, a2, zka a3 _, a4, a5, fun _ e => ?_⟩
     have := zb2 a3
     rw [show riUp s 9 (.pointer (some ⟨V.heap.size, 0, none⟩)) 8 = s 8 from rfl, a1] at e
     have e2 : V.heap.size = g := by first | (simp [riUp] at e; done) | (simp [riUp] at e; exact e)
     omega
   refine zsm ?_
   exact zg0
 · rintro L s V hu hd hn ⟨hb, g8, g9⟩
   obtain ⟨g, cs, a1, a2, a3, a4, a5, a6⟩ := g8 (zaw _ hd 8 (by decide))
   obtain ⟨g', cs', b1, b2, b3, b4, b5⟩ := g9 (zaw _ hd 9 (by decide))
   have hne : g' ≠ g := fun e => a6 (zaw _ hd 9 (by decide)) (by rw [a1, b1, e])
   refine ztx (by rfl) rfl rfl (g := g) (u := .agg #[.string x.f0, .int .i64 x.f1, .int .i64 x.f2, .int .i64 x.f3]) (seg := [.string x.f0, .int .i64 x.f1, .int .i64 x.f2, .int .i64 x.f3]) (by exact a1) (by rfl) a3 rfl rfl a4 zq49 (fun V1 c1 c2 c3 => ⟨fun _ => rfl, hb.trans (c2 _ a2), fun _ => ⟨g, _, a1, a2, c1, rfl, fun _ => rfl, a6⟩, fun _ => ⟨g', cs', b1, b2, (c3 g' hne).trans b3, b4, b5⟩⟩)
 · rintro L s V hu hd hn ⟨hb, g8, g9⟩
   obtain ⟨g, cs, a1, a2, a3, a4, a5, a6⟩ := g8 (zaw _ hd 8 (by decide))
   obtain ⟨g', cs', b1, b2, b3, b4, b5⟩ := g9 (zaw _ hd 9 (by decide))
   have hne : g ≠ g' := fun e => a6 (zaw _ hd 9 (by decide)) (by rw [a1, b1, e])
   refine ztx (by rfl) rfl rfl (g := g') (u := .agg #[.string y.f0, .int .i64 y.f1, .int .i64 y.f2, .int .i64 y.f3]) (seg := [.string y.f0, .int .i64 y.f1, .int .i64 y.f2, .int .i64 y.f3]) (by exact b1) (by rfl) b3 rfl rfl b4 zq49 (fun V1 c1 c2 c3 => ⟨fun _ => rfl, hb.trans (c2 _ b2), fun _ => ⟨g, cs, a1, a2, (c3 g hne).trans a3, a4, a5, a6⟩, fun _ => ⟨g', _, b1, b2, c1, rfl, fun _ => rfl⟩⟩)
 · rintro L s V hL ⟨hb, g8, g9⟩
   obtain ⟨g, cs, a1, a2, a3, a4, a5, a6⟩ := g8 (hL 8 rfl)
   obtain ⟨g', cs', b1, b2, b3, b4, b5⟩ := g9 (hL 9 rfl)
   obtain rfl := a5 (hL 10 rfl)
   obtain rfl := b5 (hL 11 rfl)
   have HB3 := zA (zab HB.out hb)
   have HW3 := zA hb
   have BX := zA a3
   have BY := zA b3
   clear a2 a3 a4 a5 a6 b2 b3 b4 b5 g8 g9 hb hL
   refine zsm ?_
   rw [a1, b1]
   clear a1 b1
   have x0 := zad BX.out 0
   have x3 := zad BX.out 3
   have y0 := zad BY.out 0
   have y3 := zad BY.out 3
   by_cases ho : x.f0.toList = y.f0.toList
   rotate_left
   · have h := HH.out
     rw [if_neg ho] at h
     obtain ⟨ra, hra, h⟩ := Option.bind_eq_some_iff.1 h
     obtain ⟨rb, hrb, h⟩ := Option.bind_eq_some_iff.1 h
     have HRA := zA hra
     have HRB := zA hrb
     obtain rfl := zsi h
     have b0 : (x.f0.toList == y.f0.toList) = false := by simpa using ho
     clear h HH hra hrb ho x3 y3
     go_wp2_with fail
     clear b0 x0 y0
     refine zwj [[], [0], [0, 1], [], [3], [0, 1, 2, 3, 4], [0, 1, 2, 3, 4, 5], [0, 1, 2, 3, 4, 5, 6]] [] (zib []) (zls [.pointer (some ⟨g, 0, none⟩), .string x.f0, .int .i64 ra, .pointer (some ⟨g', 0, none⟩), .string y.f0, .int .i64 rb, .int .i64 (wrap64 (ra - rb)), .int .i64 (wrap64 (ra - rb))]) (fun L s U => Below V.heap.size V U)
       rfl (fun _ _ _ _ _ h => h) zq28 (zcs (Below.refl _ _)) ⟨?_, ?_, ?_, ?_, ?_, ?_, ?_, ?_, trivial⟩ ?_
     · refine fun L s U hu hd hn hJ => zgx (by rfl) ⟨fun _ => rfl, hJ⟩ ?_
       refine zsm ?_
       first | (go_simp; done) | (go_simp; rfl) | (go_simp; exact zgy _)
     · refine fun L s U hu hd hn hJ => zgx (by rfl) ⟨fun _ => rfl, hJ⟩ ?_
       have q := zad (zah BX.out hJ) 0
       refine zsm ?_
       first | (go_simp; done) | (go_simp; rfl) | (go_simp; exact zgy _)
     · intro L s U hu hd hn hJ
       exact zon Tryz.func191 zq28 rfl #[.string x.f0] (by rfl) rfl zq46 ((zl6 k x.f0 ra U HRA.out).mono (by rintro e U' ⟨rfl, hb⟩; exact ⟨_, rfl, fun _ => rfl, zab hJ hb⟩))
     · refine fun L s U hu hd hn hJ => zgx (by rfl) ⟨fun _ => rfl, hJ⟩ ?_
       refine zsm ?_
       first | (go_simp; done) | (go_simp; rfl) | (go_simp; exact zgy _)
     · refine fun L s U hu hd hn hJ => zgx (by rfl) ⟨fun _ => rfl, hJ⟩ ?_
       have q := zad (zah BY.out hJ) 0
       refine zsm ?_
       first | (go_simp; done) | (go_simp; rfl) | (go_simp; exact zgy _)
     · intro L s U hu hd hn hJ
       exact zon Tryz.func191 zq28 rfl #[.string y.f0] (by rfl) rfl zq46 ((zl6 k y.f0 rb U HRB.out).mono (by rintro e U' ⟨rfl, hb⟩; exact ⟨_, rfl, fun _ => rfl, zab hJ hb⟩))
     · refine fun L s U hu hd hn hJ => zgx (by rfl) ⟨fun _ => rfl, hJ⟩ ?_
       refine zsm ?_
       first | (go_simp; done) | (go_simp; rfl) | (go_simp; exact zgy _)
     · refine fun L s U hu hd hn hJ => zgx (by rfl) ⟨fun _ => rfl, hJ⟩ ?_
       refine zsm ?_
       first | (go_simp; done) | (go_simp; rfl) | (go_simp; exact zgy _)
     · intro L s U hL hJ
       have HW4 := zA (zab HW3.out hJ)
       clear hL hJ
       refine zsm ?_
       go_wp2_with fail
       go_ret
       exact ⟨rfl, HW4.out⟩
   have b0 : (x.f0.toList == y.f0.toList) = true := beq_iff_eq.2 ho
   have h := HH.out
   rw [if_pos ho] at h
   clear HH ho
   by_cases hv : x.f3 = y.f3
   rotate_left
   · rw [if_neg hv] at h
     obtain rfl := zsi h
     clear h
     go_wp2_with fail
     go_ret
     exact ⟨rfl, HW3.out⟩
   rw [if_pos hv] at h
   obtain ⟨kb, hkb, h⟩ := Option.bind_eq_some_iff.1 h
   obtain ⟨ka, hka, h⟩ := Option.bind_eq_some_iff.1 h
   by_cases hkl : ka.length < 1048576
   rotate_left
   · rw [if_neg hkl] at h
     cases h
   rw [if_pos hkl] at h
   have HKA := zA hka
   have HKB := zA hkb
   have HLP := zA h
   have HV3 := zA hv
   have bv : (x.f3 == y.f3) = true := by simpa using hv
   clear hka hkb h
   have y1 := zad BY.out 1
   have y2 := zad BY.out 2
   go_upto_region 9 with (go_at_call 155; go_must (refine (zct k y.f0 y.f1 y.f2 y.f3 kb _ HKB.out).mono ?_; rintro e U0 ⟨v, rfl, ho, hb⟩; obtain ⟨Ab, cb, rfl⟩ := Kd.R_slice ho; have HKb := zA (zRr ho).2.2; have HB4 := zA (zab HB3.out hb); have HW4 := zA (zab HW3.out hb); have BX4 := zA (zah BX.out hb); clear hb ho y1 y2 x0 x3 y0 y3))
   clear hv b0 bv
   have x0 := zad BX4.out 0
   have x1 := zad BX4.out 1
   have x2 := zad BX4.out 2
   have x3 := zad BX4.out 3
   go_wp2_with (go_at_call 155; go_must (refine (zct k x.f0 x.f1 x.f2 x.f3 ka _ HKA.out).mono ?_; rintro e U1 ⟨v, rfl, ho, hb⟩; obtain ⟨Ak, ck, rfl⟩ := Kd.R_slice ho; have HK := zA (zRr ho).2.2; have HB5 := zA (zab HB4.out hb); have HW5 := zA (zab HW4.out hb); have HKb5 := zA (zCb HKb.out hb); clear hb ho x0 x1 x2 x3))
   go_loopw [51] (fun v51 wr => ∃ u : Nat, v51 = .int .i64 (u : Int) ∧ u ≤ ka.length ∧ Aside0 (Below U1.heap.size U1 wr) ∧ Aside0 (scL (scW k e d) (ka.drop u) (kb.drop u) = some r)) (fun v51 _ => ka.length - (intOf v51).toNat)
   case atStart => exact ⟨0, rfl, Nat.zero_le _, ⟨Below.refl _ _⟩, ⟨by rw [List.drop_zero, List.drop_zero]; exact HLP.out⟩⟩
   clear HLP
   obtain ⟨u, rfl, hu, HBr, HS⟩ := hrel
   by_cases hlt : u < ka.length
   rotate_left
   · obtain rfl : u = ka.length := by omega
     have d1 : decide ((ka.length : Int) < ka.length) = false := zdf (by omega)
     have hs := HS.out
     rw [List.drop_length] at hs
     obtain rfl := zsi hs
     clear hs HS
     go_wp2_with fail
     go_ret
     exact ⟨rfl, HW5.out.trans (HBr.out.mono HW5.out.size)⟩
   have d1 : decide ((u : Int) < ka.length) = true := zdt (by omega)
   have d2 : (0 : Int) ≤ (u : Int) := by omega
   have d3 : (u : Int) < ka.length := by omega
   have hs := HS.out
   rw [List.drop_eq_getElem_cons hlt] at hs
   by_cases hltb : u < kb.length
   rotate_left
   · rw [List.drop_of_length_le (by omega : kb.length ≤ u)] at hs
     cases hs
   rw [List.drop_eq_getElem_cons hltb] at hs
   have d4 : (u : Int) < kb.length := by omega
   unfold scL at hs
   obtain ⟨c', hc', hs⟩ := Option.bind_eq_some_iff.1 hs
   have hva : rd ka (u : Int) = ka[u] := by
     unfold rd
     rw [Int.toNat_natCast, List.getD_eq_getElem?_getD, List.getElem?_eq_getElem hlt]
     rfl
   have hvb : rd kb (u : Int) = kb[u] := by
     unfold rd
     rw [Int.toNat_natCast, List.getD_eq_getElem?_getD, List.getElem?_eq_getElem hltb]
     rfl
   rw [← hva, ← hvb] at hc'
   have HREC := zA hc'
   have HLT := zA hlt
   have HS2 := zA hs
   obtain ⟨adk, ek, hck⟩ := Kd.at_int (zCb HK.out HBr.out) (u : Int) d2 d3
   rw [Int.toNat_natCast] at hck
   subst ek
   obtain ⟨adb, eb, hcb⟩ := Kd.at_int (zCb HKb5.out HBr.out) (u : Int) d2 d4
   rw [Int.toNat_natCast] at hcb
   subst eb
   clear hs hc' hva hvb HS
   by_cases hcz : c' = 0
   rotate_left
   · have hs := HS2.out
     rw [if_neg hcz] at hs
     obtain rfl := zsi hs
     clear hs HS2
     go_wp2_with (go_at_call 173; go_must (refine (HIH.out (rd ka (u : Int)) (rd kb (u : Int)) c' wr (HB5.out.trans (HBr.out.mono HB5.out.size)) HREC.out).mono ?_; rintro e U3 ⟨rfl, hb⟩; have HB7 := zA (zab HBr.out hb); clear hb hcb hck))
     go_ret
     exact ⟨rfl, HW5.out.trans (HB7.out.mono HW5.out.size)⟩
   subst hcz
   have hs := HS2.out
   rw [if_pos rfl] at hs
   have HS3 := zA hs
   clear hs HS2
   go_wp2_with (go_at_call 173; go_must (refine (HIH.out (rd ka (u : Int)) (rd kb (u : Int)) 0 wr (HB5.out.trans (HBr.out.mono HB5.out.size)) HREC.out).mono ?_; rintro e U3 ⟨rfl, hb⟩; have HB7 := zA (zab HBr.out hb); clear hb hcb hck))
   go_roundw
   case rel => exact ⟨u + 1, by go_num, HLT.out, HB7, HS3⟩
   have := HLT.out
   simp [intOf]
   omega
theorem zrj (k : Nat) (A0 : Option Addr) (c0 : Nat) (l0 : List S62) (a1 : Int) (a2 : Int) (r : Int) (w : World) (hr0 : Kd.C k62 w A0 l0.length l0) (hc0 : l0.length ≤ c0) (h : zjl k l0 a1 a2 = some r) :
   Calls Tryz.prog 173 #[.slice A0 l0.length c0, .int .i64 a1, .int .i64 a2] w fun e w' => e = .returned (.int .i64 r) ∧ Below w.heap.size w w' := ydf k hr0 hc0 k a1 a2 r w (Below.refl _ _) h
def zfb (k : Nat) (a0 : ByteArray) : Option (Bool) := (zfk k (([(⟨#[97, 100, 100]⟩ : ByteArray), (⟨#[109, 117, 108]⟩ : ByteArray), (⟨#[97, 110, 100]⟩ : ByteArray), (⟨#[111, 114]⟩ : ByteArray), (⟨#[120, 111, 114]⟩ : ByteArray), (⟨#[101, 113]⟩ : ByteArray)] : List ByteArray)) a0).bind fun t104 => (some t104)
theorem zpg : ∀ a0 k, LeO (zfb k a0) (zfb (k + 1) a0) := by
 intro a0 k
 unfold zfb
 exact zm1 zmt
theorem zie (k : Nat) (a0 : ByteArray) (r : Bool) (w : World) (h : zfb k a0 = some r) :
   Calls Tryz.prog 172 #[.string a0] w fun e w' => e = .returned (.bool r) ∧ Below w.heap.size w w' := by
 have HB := zA (Below.refl w.heap.size w)
 have H := h
 unfold zfb at H
 clear h
 obtain ⟨y101, hy101⟩ : ∃ y_ : List ByteArray, y_ = (([(⟨#[97, 100, 100]⟩ : ByteArray), (⟨#[109, 117, 108]⟩ : ByteArray), (⟨#[97, 110, 100]⟩ : ByteArray), (⟨#[111, 114]⟩ : ByteArray), (⟨#[120, 111, 114]⟩ : ByteArray), (⟨#[101, 113]⟩ : ByteArray)] : List ByteArray)) := ⟨_, rfl⟩
 rw [← hy101] at H; try with_reducible replace H := zbs H
 have Ny101 := zA hy101
 clear hy101
 replace H := zob H
 obtain ⟨t104, A20, H⟩ := H
 have A2 := zA A20
 clear A20
 obtain rfl := zsi H
 go_enter Tryz.func172, Tryz.ntmps172
 go_wp2_with (first | ((with_reducible refine zgd 3 ?_); refine Kd.R_lit Kd.string _ 9 ?hg (N := 3) ?hd (xs := ([(⟨#[97, 100, 100]⟩ : ByteArray), (⟨#[109, 117, 108]⟩ : ByteArray), (⟨#[97, 110, 100]⟩ : ByteArray), (⟨#[111, 114]⟩ : ByteArray), (⟨#[120, 111, 114]⟩ : ByteArray), (⟨#[101, 113]⟩ : ByteArray)] : List ByteArray)) (inner := [.string (⟨#[97, 100, 100]⟩ : ByteArray), .string (⟨#[109, 117, 108]⟩ : ByteArray), .string (⟨#[97, 110, 100]⟩ : ByteArray), .string (⟨#[111, 114]⟩ : ByteArray), .string (⟨#[120, 111, 114]⟩ : ByteArray), .string (⟨#[101, 113]⟩ : ByteArray)]) (ok := fun _ => True) (okp := fun _ => True) ?hr ?hp (fun _ hk => hk) trivial (Below.refl _ _) (zlr _) (by simp) ?_; (case hd => rfl); (case hg => rfl); (case hr => go_simp <;> rfl); (case hp => exact (zan (show Kd.M Kd.string _ _ _ (⟨#[97, 100, 100]⟩ : ByteArray) [.string (⟨#[97, 100, 100]⟩ : ByteArray)] from rfl) (zan (show Kd.M Kd.string _ _ _ (⟨#[109, 117, 108]⟩ : ByteArray) [.string (⟨#[109, 117, 108]⟩ : ByteArray)] from rfl) (zan (show Kd.M Kd.string _ _ _ (⟨#[97, 110, 100]⟩ : ByteArray) [.string (⟨#[97, 110, 100]⟩ : ByteArray)] from rfl) (zan (show Kd.M Kd.string _ _ _ (⟨#[111, 114]⟩ : ByteArray) [.string (⟨#[111, 114]⟩ : ByteArray)] from rfl) (zan (show Kd.M Kd.string _ _ _ (⟨#[120, 111, 114]⟩ : ByteArray) [.string (⟨#[120, 111, 114]⟩ : ByteArray)] from rfl) (zan (show Kd.M Kd.string _ _ _ (⟨#[101, 113]⟩ : ByteArray) [.string (⟨#[101, 113]⟩ : ByteArray)] from rfl) (Reps.none _ _)))))))); intro v102 w3 ho4 hb hg_ hnew_; clear hg_ hnew_; (first | rw [← Ny101.out] at ho4 | (simp only [Int.reduceToNat] at ho4; rw [← Ny101.out] at ho4)); have HO103 := zA (Kd.R_lower ho4 (zag zq1)); replace HB := zA (zab zq1 hb); clear hb ho4; obtain ⟨Ao5, co5, eo5⟩ := Kd.R_slice HO103.out; subst eo5) | ((with_reducible refine zgc 99 ?_); refine zca 5 Tryz.func99 #[.slice Ao5 y101.length co5, .string a0] (zl4 k _ _ y101 a0 t104 _ (zq19 HO103) (zq47 HO103) A2.out) ?_; rintro e w' ⟨rfl, ⟨nd, rfl⟩⟩; refine ⟨_, rfl, ?_⟩))
 exact zr_3
def vaSt (k : Nat) (out : List S62) (i : Int) : Option (List S62) := (zfb k (zac out i).f0).bind fun t => if t = true then (zjl k out (zac out i).f2 (zac out i).f1).bind fun c => some (if c < 0 then out.set i.toNat ⟨(zac out i).f0, (zac out i).f2, (zac out i).f1, (zac out i).f3⟩ else out) else some out
def vaL (k : Nat) : Nat → Nat → List S62 → Option (List S62)
 | 0, _, out => some out
 | d + 1, u, out => (vaSt k out (u : Int)).bind fun o => vaL k d (u + 1) o
theorem zz3 (k : Nat) (out o : List S62) (i : Int) (h : vaSt k out i = some o) : o.length = out.length := by
 unfold vaSt at h
 obtain ⟨t, _, h⟩ := Option.bind_eq_some_iff.1 h
 split at h
 · obtain ⟨c, _, h⟩ := Option.bind_eq_some_iff.1 h
   obtain rfl := zsi h
   split <;> simp
 · obtain rfl := zsi h
   rfl
def zdx (k : Nat) (l0 : List S62) : Option (List S62) := (zeg k l0).bind fun o => if o.length < 1048576 then (vaL k o.length 0 o).bind fun o2 => zeg k o2 else none
theorem zph (k : Nat) (A0 : Option Addr) (c0 : Nat) (l0 : List S62) (r : List S62) (w : World) (hr0 : Kd.C k62 w A0 l0.length l0) (hc0 : l0.length ≤ c0) (h : zdx k l0 = some r) :
   Calls Tryz.prog 140 #[.slice A0 l0.length c0] w fun e w' => ∃ v0_ : Value, e = .returned (v0_) ∧ Kd.R k62 62 w' w.heap.size (fun _ => True) v0_ r ∧ Below w.heap.size w w' := by
 unfold zdx at h
 obtain ⟨o, ho, h⟩ := Option.bind_eq_some_iff.1 h
 by_cases hol : o.length < 1048576
 rotate_left
 · rw [if_neg hol] at h
   cases h
 rw [if_pos hol] at h
 obtain ⟨o2, ho2, h⟩ := Option.bind_eq_some_iff.1 h
 have HO1 := zA ho
 have HO2 := zA ho2
 have HH := zA h
 have HR := zA hr0
 have HC := zA hc0
 clear h ho ho2 hr0 hc0
 go_enter Tryz.func140, Tryz.ntmps140
 go_wp2_with (go_at_call 170; refine (zix k A0 c0 l0 o _ HR.out HC.out HO1.out).mono ?_; rintro e w3 ⟨v3, rfl, hv3, hb3⟩; obtain ⟨A3, c3, rfl⟩ := Kd.R_slice hv3; have HV := zA hv3; have HB := zA hb3; clear hv3 hb3)
 go_loopw [4, 5, 10] (fun v4 v5 v10 wr => ∃ (u : Nat) (out : List S62), v10 = .int .i64 (u : Int) ∧ u ≤ o.length ∧ Aside0 (out.length = o.length) ∧ Aside0 (vaL k (o.length - u) u out = some o2) ∧ Aside0 (Below w.heap.size w wr) ∧ Aside0 (Kd.R k62 62 wr w.heap.size (fun _ => True) (.slice A3 o.length c3) out)) (fun _ _ v10 _ => o.length - (intOf v10).toNat)
 case atStart => exact ⟨0, o, rfl, Nat.zero_le _, ⟨rfl⟩, HO2, HB, HV⟩
 clear HV HB HO2
 obtain ⟨u, out, rfl, hu, HLO, HL, HB, HV⟩ := hrel
 by_cases hlt : u < o.length
 rotate_left
 · obtain rfl : u = o.length := by omega
   have d1 : decide ((o.length : Int) < o.length) = false := zdf (by omega)
   have h := HL.out
   rw [Nat.sub_self] at h
   obtain rfl := zsi h
   clear h HL
   have hv := HV.out
   have hlen := HLO.out
   rw [← hlen] at hv
   have hrd := zRr hv
   have HRD := zA hrd
   clear hv hrd hlen
   go_wp2_with (go_at_call 170; rw [← HLO.out]; refine (zix k A3 c3 out r _ HRD.out.2.2 HRD.out.2.1 HH.out).mono ?_; rintro e w6 ⟨v6, rfl, hv6, hb6⟩; have HV6 := zA hv6; have HB6 := zA hb6; clear hv6 hb6)
   exact zr_5
 have d1 : decide ((u : Int) < o.length) = true := zdt (by omega)
 have d2 : (0 : Int) ≤ (u : Int) := by omega
 have d3 : (u : Int) < o.length := by omega
 obtain ⟨g, cp, e, hgb, hgl, _⟩ := Kd.R_form HV.out (by rw [HLO.out]; omega)
 injection e with e1 e2 e3
 subst e1
 clear e2 e3
 obtain ⟨ad, eA, x0, x1, x2, x3⟩ := zdu (zRr HV.out).2.2 (u : Int) d2 (by rw [HLO.out]; omega)
 cases eA
 have h := HL.out
 rw [show o.length - u = (o.length - (u + 1)) + 1 by omega] at h
 simp only [vaL] at h
 obtain ⟨o', ho', h⟩ := Option.bind_eq_some_iff.1 h
 have HL' := zA h
 have hlo := zz3 _ _ _ _ ho'
 have HLO' := zA (hlo.trans HLO.out)
 unfold vaSt at ho'
 obtain ⟨t, ht, ho'⟩ := Option.bind_eq_some_iff.1 ho'
 have HT := zA ht
 clear ht h hlo HL
 rw [Int.toNat_natCast] at x0 x1 x2 x3
 simp only [zcg, Nat.zero_add] at x0 x1 x2 x3
 obtain ⟨n, hn⟩ : ∃ n, n = zac out (u : Int) := ⟨_, rfl⟩
 rw [← hn] at x0 x1 x2 x3 HT ho'
 have HNN := zA hn
 clear hn
 cases hto : t with
 | false =>
   rw [hto] at ho' HT
   rw [if_neg (by decide)] at ho'
   obtain rfl := zsi ho'
   clear ho' hto
   go_wp2_with (go_at_call 172; (with_reducible refine (zie k n.f0 false _ HT.out).mono ?_); rintro e w5 ⟨rfl, hb5⟩; have HB5 := zA hb5; clear hb5)
   go_roundw
   case rel => exact ⟨u + 1, out, by go_num, by omega, HLO, HL', ⟨zab (zba HB.out _) HB5.out⟩, ⟨zRb (zRa HV.out _) HB5.out⟩⟩
   case measure => simp [intOf]; omega
 | true =>
   rw [hto] at ho' HT
   rw [if_pos rfl] at ho'
   obtain ⟨c, hc, ho'⟩ := Option.bind_eq_some_iff.1 ho'
   have HO' := zA (zsi ho')
   have HKC := zA (show ∀ V, Kd.R k62 62 V w.heap.size (fun _ => True) (.slice (some ⟨g, 0, none⟩) o.length c3) out → Calls Tryz.prog 173 #[.slice (some ⟨g, 0, none⟩) o.length c3, .int .i64 n.f2, .int .i64 n.f1] V (fun e w' => e = .returned (.int .i64 c) ∧ Below V.heap.size V w') from fun V hV => by
     have hlen := HLO.out
     rw [← hlen] at hV ⊢
     have hr := zRr hV
     exact zrj k (some ⟨g, 0, none⟩) c3 out n.f2 n.f1 c V hr.2.2 hr.2.1 hc)
   have HGN := zA (show g ≠ wr.heap.size by omega)
   have HCC := zA (show ∀ (V : World) (xs : List S62) (y : S62), Kd.R k62 62 V w.heap.size (fun _ => True) (.slice (some ⟨g, 0, none⟩) o.length c3) xs → y = zac xs (u : Int) → ∀ (j : Nat) (v : Value), ([.string y.f0, .int .i64 y.f1, .int .i64 y.f2, .int .i64 y.f3] : List Value)[j]? = some v → V.cell? ⟨g, (u : Int).toNat * k62.sz + j, none⟩ = some v from fun V xs y hV hy j v hj => by
     have hr := zRr hV
     obtain ⟨ad, cc, ea, _, hK, hc0⟩ := Kd.C_get hr.2.2 z62 (u : Int) d2 (by have := hr.1; omega)
     cases ea
     have := hc0 j v (by rw [zrr hK]; rw [hy] at hj; exact hj)
     rw [zcg] at this
     exact this)
   clear ho' hc hto
   by_cases hc0 : c < 0
   rotate_left
   · have d4 : decide (c < 0) = false := zdf hc0
     have hoo := HO'.out
     rw [if_neg hc0] at hoo
     have HOO := zA hoo
     clear hoo hc0
     go_wp2_with (first | (go_at_call 172; (with_reducible refine (zie k n.f0 true _ HT.out).mono ?_); rintro e w5 ⟨rfl, hb5⟩; have hbx := zah (zhh wr (.cells #[.string n.f0, .int .i64 n.f1, .int .i64 n.f2, .int .i64 n.f3] 62)) hb5; have HBX := zA hbx; have z0 := zad hbx 0; have z1 := zad hbx 1; have z2 := zad hbx 2; have z3 := zad hbx 3; have HB5 := zA (zab (zba HB.out _) hb5); have HV5 := zA (zRb (zRa HV.out _) hb5); clear hb5 hbx) | (go_at_call 173; refine (HKC.out _ HV5.out).mono ?_; rintro e w6 ⟨rfl, hb6⟩; have hbx := zah HBX.out hb6; have HBX6 := zA hbx; clear z0 z1 z2 z3; have z0 := zad hbx 0; have z1 := zad hbx 1; have z2 := zad hbx 2; have z3 := zad hbx 3; have HB6 := zA (zab HB5.out hb6); have HV6 := zA (zRb HV5.out hb6); clear hb6 hbx))
     go_roundw
     case rel => exact ⟨u + 1, o', by go_num, by omega, HLO', HL', HB6, ⟨by rw [← HOO.out]; exact HV6.out⟩⟩
     case measure => simp [intOf]; omega
   have d4 : decide (c < 0) = true := zdt hc0
   have hoo := HO'.out
   rw [if_pos hc0] at hoo
   have HOO := zA hoo
   have HN2 := zA (show (⟨n.f0, n.f2, n.f2, n.f3⟩ : S62) = zac (out.set ((u : Nat) : Int).toNat (⟨n.f0, n.f2, n.f2, n.f3⟩ : S62)) (u : Int) by
     have := HLO.out
     unfold zac
     rw [List.getD_eq_getElem?_getD, List.getElem?_set_self (by rw [Int.toNat_natCast]; omega)]
     rfl)
   clear hoo hc0
   go_wp2_with (first | (go_at_call 172; (with_reducible refine (zie k n.f0 true _ HT.out).mono ?_); rintro e w5 ⟨rfl, hb5⟩; have hbx := zah (zhh wr (.cells #[.string n.f0, .int .i64 n.f1, .int .i64 n.f2, .int .i64 n.f3] 62)) hb5; have HBX := zA hbx; have z0 := zad hbx 0; have z1 := zad hbx 1; have z2 := zad hbx 2; have z3 := zad hbx 3; have HB5 := zA (zab (zba HB.out _) hb5); have HV5 := zA (zRb (zRa HV.out _) hb5); clear hb5 hbx) | (go_at_call 173; refine (HKC.out _ HV5.out).mono ?_; rintro e w6 ⟨rfl, hb6⟩; have hbx := zah HBX.out hb6; have HBX6 := zA hbx; clear z0 z1 z2 z3; have z0 := zad hbx 0; have z1 := zad hbx 1; have z2 := zad hbx 2; have z3 := zad hbx 3; have HB6 := zA (zab HB5.out hb6); have HV6 := zA (zRb HV5.out hb6); clear hb6 hbx) | ((with_reducible refine yej (.store 3 (.tmp 32) (.tmp 30)) rfl ?_); refine Kd.R_store k62 (w0 := w) w.heap.size rfl rfl 3 (.tmp 32) (.tmp 30) rfl 62 (o' := u * 4 + 1) (u : Int) 1 out (⟨n.f0, n.f2, n.f2, n.f3⟩ : S62) (.int .i64 n.f2) [.int .i64 n.f2] [.string n.f0, .int .i64 n.f1, .int .i64 n.f2, .int .i64 n.f3] (fun _ => True) (fun _ => False) rfl (by rw [Int.toNat_natCast]; rfl) rfl rfl rfl zq49 HV6.out d2 d3 rfl (HCC.out _ out _ HV6.out (by exact HNN.out)) (show 1 + 1 ≤ 4 by omega) (zhd _ _ _ (⟨n.f0, n.f2, n.f2, n.f3⟩ : S62)) (fun _ h => h.elim) HB6.out ?_; intro w7 hv hb hg; have hbx := (hg.block _ (zb2 HBX6.out) (fun e => HGN.out (zsi e).symm)).trans HBX6.out; have HBX7 := zA hbx; clear z0 z1 z2 z3; have z0 := zad hbx 0; have z1 := zad hbx 1; have z2 := zad hbx 2; have z3 := zad hbx 3; have HB7 := zA hb; have HV7 := zA hv; clear hb hv hg hbx) | ((with_reducible refine yej (.store 3 (.tmp 38) (.tmp 36)) rfl ?_); refine Kd.R_store k62 (w0 := w) w.heap.size rfl rfl 3 (.tmp 38) (.tmp 36) rfl 62 (o' := u * 4 + 2) (u : Int) 2 (out.set ((u : Nat) : Int).toNat (⟨n.f0, n.f2, n.f2, n.f3⟩ : S62)) (⟨n.f0, n.f2, n.f1, n.f3⟩ : S62) (.int .i64 n.f1) [.int .i64 n.f1] [.string n.f0, .int .i64 n.f2, .int .i64 n.f2, .int .i64 n.f3] (fun _ => True) (fun _ => False) rfl (by rw [Int.toNat_natCast]; rfl) rfl rfl rfl zq49 HV7.out d2 d3 rfl (HCC.out _ (out.set ((u : Nat) : Int).toNat (⟨n.f0, n.f2, n.f2, n.f3⟩ : S62)) _ HV7.out (by exact HN2.out)) (show 2 + 1 ≤ 4 by omega) (zhd _ _ _ (⟨n.f0, n.f2, n.f1, n.f3⟩ : S62)) (fun _ h => h.elim) HB7.out ?_; intro w8 hv hb hg; have hbx := (hg.block _ (zb2 HBX7.out) (fun e => HGN.out (zsi e).symm)).trans HBX7.out; have HBX8 := zA hbx; clear z0 z1 z2 z3; have z0 := zad hbx 0; have z1 := zad hbx 1; have z2 := zad hbx 2; have z3 := zad hbx 3; have HB8 := zA hb; have HV8 := zA hv; clear hb hv hg hbx))
   go_roundw
   case rel => exact ⟨u + 1, o', by go_num, by omega, HLO', HL', HB8, ⟨by rw [← HOO.out]; have := HV8.out; rw [List.set_set] at this; exact this⟩⟩
   case measure => simp [intOf]; omega
theorem zx6 (k : Nat) (out : List S62) (i : Int) : LeO (vaSt k out i) (vaSt (k + 1) out i) := by
 unfold vaSt
 exact LeO.bind (zpg _ _) (fun _ => zbi (LeO.bind (zr5 _ _ _ _) (fun _ => LeO.refl _)) (LeO.refl _))
theorem zwu (k : Nat) : ∀ (d u : Nat) (out : List S62), LeO (vaL k d u out) (vaL (k + 1) d u out)
 | 0, _, _ => LeO.refl _
 | d + 1, u, out => LeO.bind (zx6 k out u) (fun _ => zwu k d (u + 1) _)
theorem zqm : ∀ a0 k, LeO (zdx k a0) (zdx (k + 1) a0) := by
 intro a0 k
 unfold zdx
 exact LeO.bind (zi7 _ _) (fun _ => zbi (LeO.bind (zwu _ _ _ _) (fun _ => zi7 _ _)) (LeO.refl _))
def zez (a0 : Int) (a1 : Int) (a2 : Int) : Option (Bool) := if a0 ≥ a1 then (some (decide (a0 ≤ a2))) else (some false)
theorem za3 (a0 : Int) (a1 : Int) (a2 : Int) (r : Bool) (w : World) (h : zez a0 a1 a2 = some r) :
   Calls Tryz.prog 79 #[.int .i64 a0, .int .i64 a1, .int .i64 a2] w fun e w' => e = .returned (.bool r) ∧ Drawn0 w w' := by
 have H := h
 unfold zez at H
 clear h
 revert H
 refine zit (fun c4b0 H => ?_) fun c4b0 H => ?_
 · obtain rfl := zsi H
   go_enter Tryz.func79, Tryz.ntmps79
   exact zr_6
 · obtain rfl := zsi H
   go_enter Tryz.func79, Tryz.ntmps79
   exact zr_6
def zkc (a0 : Int) : Option (Bool) := (zez a0 0 63).bind fun t101 => (some t101)
theorem zqn (a0 : Int) (r : Bool) (w : World) (h : zkc a0 = some r) :
   Calls Tryz.prog 152 #[.int .i64 a0] w fun e w' => e = .returned (.bool r) ∧ Drawn0 w w' := by
 have H := h
 unfold zkc at H
 clear h
 replace H := zob H
 obtain ⟨t101, A20, H⟩ := H
 have A2 := zA A20
 clear A20
 obtain rfl := zsi H
 go_enter Tryz.func152, Tryz.ntmps152
 go_wp2_with (first | ((with_reducible refine zgc 79 ?_); refine zcl 4 Tryz.func79 (za3 a0 0 63 t101 _ A2.out) ?_; rintro e w' ⟨rfl, ⟨nd, rfl⟩⟩; refine ⟨_, rfl, ?_⟩))
 exact zr_1
def zgn (k : Nat) (a0_0 : ByteArray) (a0_1 : Int) (a0_2 : Int) (a0_3 : Int) (a1 : Int) : Option (Bool) := if a0_0.toList = ([105, 110] : List UInt8) then (if a0_1 = 0 then (if a0_2 = 0 then ((zez a0_3 0 1).bind fun t102 => (some t102)) else (some false)) else (some false)) else (if a0_0.toList = ([99, 111, 110, 115, 116] : List UInt8) then (if a0_1 = 0 then (if a0_2 = 0 then ((zkc a0_3).bind fun t103 => (some t103)) else (some false)) else (some false)) else ((zil a0_0).bind fun t104 => (if t104 = true then ((zez a0_1 0 (wrap64 (a1 - 1))).bind fun t105 => (if t105 = true then (if a0_2 = 0 then (some (a0_3 == 0)) else (some false)) else (some false))) else ((zgm k a0_0).bind fun t106 => (if t106 = true then ((zez a0_1 0 (wrap64 (a1 - 1))).bind fun t107 => (if t107 = true then ((zez a0_2 0 (wrap64 (a1 - 1))).bind fun t108 => (if t108 = true then (some (a0_3 == 0)) else (some false))) else (some false))) else (some false))))))
theorem zmw : ∀ a0 a1 a2 a3 a4 k, LeO (zgn k a0 a1 a2 a3 a4) (zgn (k + 1) a0 a1 a2 a3 a4) := by
 intro a0 a1 a2 a3 a4 k
 unfold zgn
 exact zm1 znn
theorem zl7 (k : Nat) (a0_0 : ByteArray) (a0_1 : Int) (a0_2 : Int) (a0_3 : Int) (a1 : Int) (r : Bool) (w : World) (h : zgn k a0_0 a0_1 a0_2 a0_3 a1 = some r) :
   Calls Tryz.prog 111 #[.agg #[.string a0_0, .int .i64 a0_1, .int .i64 a0_2, .int .i64 a0_3], .int .i64 a1] w fun e w' => e = .returned (.bool r) ∧ Below w.heap.size w w' := by
 have hu62 := Tryz.underlying62
 have HB := zA (Below.refl w.heap.size w)
 have H := h
 unfold zgn at H
 clear h
 by_cases c3 : a0_0.toList = ([105, 110] : List UInt8)
 · rw [if_pos c3] at H
   obtain ⟨c3b0, c3b1⟩ := zbe c3
   clear c3
   by_cases c4 : a0_1 = 0
   rotate_left
   · rw [if_neg c4] at H
     obtain ⟨c4b0, c4b1⟩ := zbq c4
     obtain rfl := zsi H
     go_enter Tryz.func111, Tryz.ntmps111
     go_wp2_with (first | ((with_reducible refine zgd 2 ?_); refine zbh zq1 #[.string a0_0, .int .i64 a0_1, .int .i64 a0_2, .int .i64 a0_3] 62 ?_; clear HB; intro gb101 w11 HB BK101 GW101; have GE101 := GW101; obtain ⟨hcz12_0, hcz12_1, hcz12_2, hcz12_3, hfz12_0, hfz12_1, hfz12_2, hfz12_3⟩ := zd4 BK101))
     go_ret
     exact ⟨zq4, zq3 GE101⟩
   rw [if_pos c4] at H
   obtain ⟨c4b0, c4b1⟩ := zbe c4
   clear c4
   by_cases c5 : a0_2 = 0
   rotate_left
   · rw [if_neg c5] at H
     obtain ⟨c5b0, c5b1⟩ := zbq c5
     obtain rfl := zsi H
     go_enter Tryz.func111, Tryz.ntmps111
     go_wp2_with (first | ((with_reducible refine zgd 2 ?_); refine zbh zq1 #[.string a0_0, .int .i64 a0_1, .int .i64 a0_2, .int .i64 a0_3] 62 ?_; clear HB; intro gb101 w9 HB BK101 GW101; have GE101 := GW101; obtain ⟨hcz10_0, hcz10_1, hcz10_2, hcz10_3, hfz10_0, hfz10_1, hfz10_2, hfz10_3⟩ := zd4 BK101))
     go_ret
     exact ⟨zq4, zq3 GE101⟩
   rw [if_pos c5] at H
   obtain ⟨c5b0, c5b1⟩ := zbe c5
   clear c5
   replace H := zob H
   obtain ⟨t102, A60, H⟩ := H
   have A6 := zA A60
   clear A60
   obtain rfl := zsi H
   go_enter Tryz.func111, Tryz.ntmps111
   go_wp2_with (first | ((with_reducible refine zgd 2 ?_); refine zbh zq1 #[.string a0_0, .int .i64 a0_1, .int .i64 a0_2, .int .i64 a0_3] 62 ?_; clear HB; intro gb101 w7 HB BK101 GW101; have GE101 := GW101; obtain ⟨hcz8_0, hcz8_1, hcz8_2, hcz8_3, hfz8_0, hfz8_1, hfz8_2, hfz8_3⟩ := zd4 BK101) | (go_at_call 79; (with_reducible refine (za3 a0_3 0 1 t102 _ A6.out).mono ?_); rintro e w' ⟨rfl, ⟨nd, rfl⟩⟩))
   go_ret
   exact ⟨zq4, zq3 GE101⟩
 rw [if_neg c3] at H
 obtain ⟨c3b0, c3b1⟩ := zbq c3
 by_cases c13 : a0_0.toList = ([99, 111, 110, 115, 116] : List UInt8)
 · rw [if_pos c13] at H
   obtain ⟨c13b0, c13b1⟩ := zbe c13
   clear c13
   by_cases c14 : a0_1 = 0
   rotate_left
   · rw [if_neg c14] at H
     obtain ⟨c14b0, c14b1⟩ := zbq c14
     obtain rfl := zsi H
     go_enter Tryz.func111, Tryz.ntmps111
     go_wp2_with (first | ((with_reducible refine zgd 2 ?_); refine zbh zq1 #[.string a0_0, .int .i64 a0_1, .int .i64 a0_2, .int .i64 a0_3] 62 ?_; clear HB; intro gb101 w21 HB BK101 GW101; have GE101 := GW101; obtain ⟨hcz22_0, hcz22_1, hcz22_2, hcz22_3, hfz22_0, hfz22_1, hfz22_2, hfz22_3⟩ := zd4 BK101))
     go_ret
     exact ⟨zq4, zq3 GE101⟩
   rw [if_pos c14] at H
   obtain ⟨c14b0, c14b1⟩ := zbe c14
   clear c14
   by_cases c15 : a0_2 = 0
   rotate_left
   · rw [if_neg c15] at H
     obtain ⟨c15b0, c15b1⟩ := zbq c15
     obtain rfl := zsi H
     go_enter Tryz.func111, Tryz.ntmps111
     go_wp2_with (first | ((with_reducible refine zgd 2 ?_); refine zbh zq1 #[.string a0_0, .int .i64 a0_1, .int .i64 a0_2, .int .i64 a0_3] 62 ?_; clear HB; intro gb101 w19 HB BK101 GW101; have GE101 := GW101; obtain ⟨hcz20_0, hcz20_1, hcz20_2, hcz20_3, hfz20_0, hfz20_1, hfz20_2, hfz20_3⟩ := zd4 BK101))
     go_ret
     exact ⟨zq4, zq3 GE101⟩
   rw [if_pos c15] at H
   obtain ⟨c15b0, c15b1⟩ := zbe c15
   clear c15
   replace H := zob H
   obtain ⟨t103, A160, H⟩ := H
   have A16 := zA A160
   clear A160
   obtain rfl := zsi H
   go_enter Tryz.func111, Tryz.ntmps111
   go_wp2_with (first | ((with_reducible refine zgd 2 ?_); refine zbh zq1 #[.string a0_0, .int .i64 a0_1, .int .i64 a0_2, .int .i64 a0_3] 62 ?_; clear HB; intro gb101 w17 HB BK101 GW101; have GE101 := GW101; obtain ⟨hcz18_0, hcz18_1, hcz18_2, hcz18_3, hfz18_0, hfz18_1, hfz18_2, hfz18_3⟩ := zd4 BK101) | (go_at_call 152; (with_reducible refine (zqn a0_3 t103 _ A16.out).mono ?_); rintro e w' ⟨rfl, ⟨nd, rfl⟩⟩))
   go_ret
   exact ⟨zq4, zq3 GE101⟩
 rw [if_neg c13] at H
 obtain ⟨c13b0, c13b1⟩ := zbq c13
 replace H := zob H
 obtain ⟨t104, A230, H⟩ := H
 have A23 := zA A230
 clear A230
 by_cases c24 : t104 = true
 · subst c24
   replace H := zih H
   replace H := zob H
   obtain ⟨t105, A250, H⟩ := H
   have A25 := zA A250
   clear A250
   by_cases c26 : t105 = true
   rotate_left
   · replace c26 := zbf c26
     subst c26
     replace H := zif H
     obtain rfl := zsi H
     go_enter Tryz.func111, Tryz.ntmps111
     go_wp2_with (first | ((with_reducible refine zgd 2 ?_); refine zbh zq1 #[.string a0_0, .int .i64 a0_1, .int .i64 a0_2, .int .i64 a0_3] 62 ?_; clear HB; intro gb101 w32 HB BK101 GW101; have GE101 := GW101; obtain ⟨hcz33_0, hcz33_1, hcz33_2, hcz33_3, hfz33_0, hfz33_1, hfz33_2, hfz33_3⟩ := zd4 BK101) | ((with_reducible refine zgc 153 ?_); refine zcl 42 Tryz.func153 (zdm a0_0 true _ A23.out) ?_; rintro e w' ⟨rfl, ⟨nd, rfl⟩⟩; refine ⟨_, rfl, ?_⟩) | ((with_reducible refine zgc 79 ?_); refine zcl 47 Tryz.func79 (za3 a0_1 0 (wrap64 (a1 - 1)) false _ A25.out) ?_; rintro e w' ⟨rfl, ⟨nd, rfl⟩⟩; refine ⟨_, rfl, ?_⟩))
     go_ret
     exact ⟨zq4, zq3 GE101⟩
   subst c26
   replace H := zih H
   by_cases c27 : a0_2 = 0
   rotate_left
   · rw [if_neg c27] at H
     obtain ⟨c27b0, c27b1⟩ := zbq c27
     obtain rfl := zsi H
     go_enter Tryz.func111, Tryz.ntmps111
     go_wp2_with (first | ((with_reducible refine zgd 2 ?_); refine zbh zq1 #[.string a0_0, .int .i64 a0_1, .int .i64 a0_2, .int .i64 a0_3] 62 ?_; clear HB; intro gb101 w30 HB BK101 GW101; have GE101 := GW101; obtain ⟨hcz31_0, hcz31_1, hcz31_2, hcz31_3, hfz31_0, hfz31_1, hfz31_2, hfz31_3⟩ := zd4 BK101) | ((with_reducible refine zgc 153 ?_); refine zcl 42 Tryz.func153 (zdm a0_0 true _ A23.out) ?_; rintro e w' ⟨rfl, ⟨nd, rfl⟩⟩; refine ⟨_, rfl, ?_⟩) | ((with_reducible refine zgc 79 ?_); refine zcl 47 Tryz.func79 (za3 a0_1 0 (wrap64 (a1 - 1)) true _ A25.out) ?_; rintro e w' ⟨rfl, ⟨nd, rfl⟩⟩; refine ⟨_, rfl, ?_⟩))
     go_ret
     exact ⟨zq4, zq3 GE101⟩
   rw [if_pos c27] at H
   obtain ⟨c27b0, c27b1⟩ := zbe c27
   clear c27
   obtain rfl := zsi H
   go_enter Tryz.func111, Tryz.ntmps111
   go_wp2_with (first | ((with_reducible refine zgd 2 ?_); refine zbh zq1 #[.string a0_0, .int .i64 a0_1, .int .i64 a0_2, .int .i64 a0_3] 62 ?_; clear HB; intro gb101 w28 HB BK101 GW101; have GE101 := GW101; obtain ⟨hcz29_0, hcz29_1, hcz29_2, hcz29_3, hfz29_0, hfz29_1, hfz29_2, hfz29_3⟩ := zd4 BK101) | ((with_reducible refine zgc 153 ?_); refine zcl 42 Tryz.func153 (zdm a0_0 true _ A23.out) ?_; rintro e w' ⟨rfl, ⟨nd, rfl⟩⟩; refine ⟨_, rfl, ?_⟩) | ((with_reducible refine zgc 79 ?_); refine zcl 47 Tryz.func79 (za3 a0_1 0 (wrap64 (a1 - 1)) true _ A25.out) ?_; rintro e w' ⟨rfl, ⟨nd, rfl⟩⟩; refine ⟨_, rfl, ?_⟩))
   go_ret
   exact ⟨zq4, zq3 GE101⟩
 replace c24 := zbf c24
 subst c24
 replace H := zif H
 replace H := zob H
 obtain ⟨t106, A340, H⟩ := H
 have A34 := zA A340
 clear A340
 by_cases c35 : t106 = true
 rotate_left
 · replace c35 := zbf c35
   subst c35
   replace H := zif H
   obtain rfl := zsi H
   go_enter Tryz.func111, Tryz.ntmps111
   go_wp2_with (first | ((with_reducible refine zgd 2 ?_); refine zbh zq1 #[.string a0_0, .int .i64 a0_1, .int .i64 a0_2, .int .i64 a0_3] 62 ?_; clear HB; intro gb101 w52 HB BK101 GW101; have GE101 := GW101; obtain ⟨hcz53_0, hcz53_1, hcz53_2, hcz53_3, hfz53_0, hfz53_1, hfz53_2, hfz53_3⟩ := zd4 BK101) | ((with_reducible refine zgc 153 ?_); refine zcl 42 Tryz.func153 (zdm a0_0 false _ A23.out) ?_; rintro e w' ⟨rfl, ⟨nd, rfl⟩⟩; refine ⟨_, rfl, ?_⟩) | ((with_reducible refine zgc 154 ?_); refine zcl 60 Tryz.func154 (zf7 k a0_0 false _ A34.out) ?_; rintro e w54 ⟨rfl, hb⟩; refine ⟨_, rfl, ?_⟩; replace BK101 := zbb BK101 hb; replace HB := zA (zab (zq3 GE101) hb); (try clear hb)))
   go_ret
   exact ⟨zq4, zq3 GE101⟩
 subst c35
 replace H := zih H
 replace H := zob H
 obtain ⟨t107, A360, H⟩ := H
 have A36 := zA A360
 clear A360
 by_cases c37 : t107 = true
 rotate_left
 · replace c37 := zbf c37
   subst c37
   replace H := zif H
   obtain rfl := zsi H
   go_enter Tryz.func111, Tryz.ntmps111
   go_wp2_with (first | ((with_reducible refine zgd 2 ?_); refine zbh zq1 #[.string a0_0, .int .i64 a0_1, .int .i64 a0_2, .int .i64 a0_3] 62 ?_; clear HB; intro gb101 w48 HB BK101 GW101; have GE101 := GW101; obtain ⟨hcz49_0, hcz49_1, hcz49_2, hcz49_3, hfz49_0, hfz49_1, hfz49_2, hfz49_3⟩ := zd4 BK101) | ((with_reducible refine zgc 153 ?_); refine zcl 42 Tryz.func153 (zdm a0_0 false _ A23.out) ?_; rintro e w' ⟨rfl, ⟨nd, rfl⟩⟩; refine ⟨_, rfl, ?_⟩) | ((with_reducible refine zgc 154 ?_); refine zcl 60 Tryz.func154 (zf7 k a0_0 true _ A34.out) ?_; rintro e w50 ⟨rfl, hb⟩; refine ⟨_, rfl, ?_⟩; replace BK101 := zbb BK101 hb; replace HB := zA (zab (zq3 GE101) hb); (try clear hb); obtain ⟨hcz51_0, hcz51_1, hcz51_2, hcz51_3⟩ := zc4 w50 (.string a0_0) (.int .i64 a0_1) (.int .i64 a0_2) (.int .i64 a0_3) BK101.out; obtain ⟨hfz51_0, hfz51_1, hfz51_2, hfz51_3⟩ := zf4 BK101.out) | (go_at_call 79; (with_reducible refine (za3 a0_1 0 (wrap64 (a1 - 1)) false _ A36.out).mono ?_); rintro e w' ⟨rfl, ⟨nd, rfl⟩⟩))
   go_ret
   exact ⟨zq4, zq3 GE101⟩
 subst c37
 replace H := zih H
 replace H := zob H
 obtain ⟨t108, A380, H⟩ := H
 have A38 := zA A380
 clear A380
 by_cases c39 : t108 = true
 · subst c39
   replace H := zih H
   obtain rfl := zsi H
   go_enter Tryz.func111, Tryz.ntmps111
   go_wp2_with (first | ((with_reducible refine zgd 2 ?_); refine zbh zq1 #[.string a0_0, .int .i64 a0_1, .int .i64 a0_2, .int .i64 a0_3] 62 ?_; clear HB; intro gb101 w40 HB BK101 GW101; have GE101 := GW101; obtain ⟨hcz41_0, hcz41_1, hcz41_2, hcz41_3, hfz41_0, hfz41_1, hfz41_2, hfz41_3⟩ := zd4 BK101) | ((with_reducible refine zgc 153 ?_); refine zcl 42 Tryz.func153 (zdm a0_0 false _ A23.out) ?_; rintro e w' ⟨rfl, ⟨nd, rfl⟩⟩; refine ⟨_, rfl, ?_⟩) | ((with_reducible refine zgc 154 ?_); refine zcl 60 Tryz.func154 (zf7 k a0_0 true _ A34.out) ?_; rintro e w42 ⟨rfl, hb⟩; refine ⟨_, rfl, ?_⟩; replace BK101 := zbb BK101 hb; replace HB := zA (zab (zq3 GE101) hb); (try clear hb); obtain ⟨hcz43_0, hcz43_1, hcz43_2, hcz43_3⟩ := zc4 w42 (.string a0_0) (.int .i64 a0_1) (.int .i64 a0_2) (.int .i64 a0_3) BK101.out; obtain ⟨hfz43_0, hfz43_1, hfz43_2, hfz43_3⟩ := zf4 BK101.out) | (go_at_call 79; (with_reducible refine (za3 a0_1 0 (wrap64 (a1 - 1)) true _ A36.out).mono ?_); rintro e w' ⟨rfl, ⟨nd, rfl⟩⟩) | (go_at_call 79; (with_reducible refine (za3 a0_2 0 (wrap64 (a1 - 1)) true _ A38.out).mono ?_); rintro e w' ⟨rfl, ⟨nd, rfl⟩⟩))
   go_ret
   exact ⟨zq4, zq3 GE101⟩
 replace c39 := zbf c39
 subst c39
 replace H := zif H
 obtain rfl := zsi H
 go_enter Tryz.func111, Tryz.ntmps111
 go_wp2_with (first | ((with_reducible refine zgd 2 ?_); refine zbh zq1 #[.string a0_0, .int .i64 a0_1, .int .i64 a0_2, .int .i64 a0_3] 62 ?_; clear HB; intro gb101 w44 HB BK101 GW101; have GE101 := GW101; obtain ⟨hcz45_0, hcz45_1, hcz45_2, hcz45_3, hfz45_0, hfz45_1, hfz45_2, hfz45_3⟩ := zd4 BK101) | ((with_reducible refine zgc 153 ?_); refine zcl 42 Tryz.func153 (zdm a0_0 false _ A23.out) ?_; rintro e w' ⟨rfl, ⟨nd, rfl⟩⟩; refine ⟨_, rfl, ?_⟩) | ((with_reducible refine zgc 154 ?_); refine zcl 60 Tryz.func154 (zf7 k a0_0 true _ A34.out) ?_; rintro e w46 ⟨rfl, hb⟩; refine ⟨_, rfl, ?_⟩; replace BK101 := zbb BK101 hb; replace HB := zA (zab (zq3 GE101) hb); (try clear hb); obtain ⟨hcz47_0, hcz47_1, hcz47_2, hcz47_3⟩ := zc4 w46 (.string a0_0) (.int .i64 a0_1) (.int .i64 a0_2) (.int .i64 a0_3) BK101.out; obtain ⟨hfz47_0, hfz47_1, hfz47_2, hfz47_3⟩ := zf4 BK101.out) | (go_at_call 79; (with_reducible refine (za3 a0_1 0 (wrap64 (a1 - 1)) true _ A36.out).mono ?_); rintro e w' ⟨rfl, ⟨nd, rfl⟩⟩) | (go_at_call 79; (with_reducible refine (za3 a0_2 0 (wrap64 (a1 - 1)) false _ A38.out).mono ?_); rintro e w' ⟨rfl, ⟨nd, rfl⟩⟩))
 go_ret
 exact ⟨zq4, zq3 GE101⟩
mutual
def zc2 : Nat → List Int → List (S62) → Int → Int → Option (List Int)
 | 0, _, _, _, _ => none
 | k + 1, x3, x11, x12, x13 => if x13 < x12 then (if 0 ≤ x13 then (if x13 < (x11.length : Int) then ((zce k ((zac x11 x13).f0) ((zac x11 x13).f1) ((zac x11 x13).f2) ((zac x11 x13).f3)).bind fun t106 => (zdy k x3 x11 x12 x13 t106 (t106.length : Int) 0)) else (none)) else (none)) else (some x3)
def zdy : Nat → List Int → List (S62) → Int → Int → List Int → Int → Int → Option (List Int)
 | 0, _, _, _, _, _, _, _ => none
 | k + 1, x3, x11, x12, x13, x18, x19, x20 => if x20 < x19 then (if 0 ≤ x20 then (if x20 < (x18.length : Int) then (if 0 ≤ (rd x18 x20) then (if (rd x18 x20) < (x3.length : Int) then (zdy k (x3.set ((rd x18 x20) : Int).toNat (wrap64 ((rd x3 (rd x18 x20)) + 1))) x11 x12 x13 x18 x19 (wrap64 (x20 + 1))) else (none)) else (none)) else (none)) else (none)) else (zc2 k x3 x11 x12 (wrap64 (x13 + 1)))
end
def zgp (k : Nat) (l0 : List (S62)) : Option (List Int) := if 0 ≤ (l0.length : Int) then (if ((l0.length : Int) : Int).toNat ≤ 35184372088832 then (zc2 k (List.replicate ((l0.length : Int) : Int).toNat 0) l0 (l0.length : Int) 0) else (none)) else (none)
theorem zlh : ∀ k, (∀ y0 y1 y2 y3, LeO (zc2 k y0 y1 y2 y3) (zc2 (k + 1) y0 y1 y2 y3)) ∧ (∀ y0 y1 y2 y3 y4 y5 y6, LeO (zdy k y0 y1 y2 y3 y4 y5 y6) (zdy (k + 1) y0 y1 y2 y3 y4 y5 y6))
 | 0 => ⟨fun _ _ _ _ r h => by simp [zc2] at h, fun _ _ _ _ _ _ _ r h => by simp [zdy] at h⟩
 | k + 1 => by
   obtain ⟨ih0, ih1⟩ := zlh k
   refine ⟨?_, ?_⟩
   · intro y0 y1 y2 y3
     unfold zc2
     exact zm3 ih0 ih1 zb8
   · intro y0 y1 y2 y3 y4 y5 y6
     unfold zdy
     exact zm3 ih0 ih1 zb8
theorem zmx : ∀ a0 k, LeO (zgp k a0) (zgp (k + 1) a0) := by
 intro a0 k
 obtain ⟨ih0, ih1⟩ := zlh k
 unfold zgp
 exact zm3 ih0 ih1 zb8
theorem zqo (k : Nat) (A0 : Option Addr) (c0 : Nat) (l0 : List (S62)) (r : List Int) (w : World) (hr0 : Kd.C k62 w A0 l0.length l0) (hc0 : l0.length ≤ c0) (h : zgp k l0 = some r) :
   Calls Tryz.prog 113 #[.slice A0 l0.length c0] w fun e w' => ∃ v0_ : Value, e = .returned (v0_) ∧ Kd.R (Kd.int .i64) 3 w' w.heap.size (fun _ => True) v0_ r ∧ Below w.heap.size w w' := by
 have hu62 := Tryz.underlying62
 have HR0 := zA hr0
 have HC0 := zA hc0
 clear hr0 hc0
 have HB := zA (Below.refl w.heap.size w)
 have H := h
 unfold zgp at H
 clear h
 by_cases c2 : 0 ≤ (l0.length : Int)
 rotate_left
 · rw [if_neg c2] at H
   exact absurd H (by simp)
 rw [if_pos c2] at H
 have c2b0 := eq_true c2
 have c2b1 := zdt c2
 clear c2
 by_cases c3 : ((l0.length : Int) : Int).toNat ≤ 35184372088832
 rotate_left
 · rw [if_neg c3] at H
   exact absurd H (by simp)
 rw [if_pos c3] at H
 have c3b0 := eq_true c3
 have c3b1 := zdt c3
 clear c3
 obtain ⟨y101, hy101⟩ : ∃ y_ : List Int, y_ = (List.replicate ((l0.length : Int) : Int).toNat 0) := ⟨_, rfl⟩
 rw [← hy101] at H; try with_reducible replace H := zbs H
 have Ny101 := zA hy101
 clear hy101
 have H' := zA H
 clear H
 go_enter Tryz.func113, Tryz.ntmps113
 go_wp2_with (first | ((with_reducible refine zgd 10 ?_); refine Kd.R_make (Kd.int .i64) _ 3 rfl (N := 10) rfl 24 _ _ rfl (l0.length : Int) rfl rfl Tryz.underlying24 (.int .i64 0) 8 zn1 rfl (by decide) (by omega) 0 (ok := fun _ => True) (okp := fun _ => True) rfl (fun _ hk => hk) trivial (zde zq21) (Nat.le_trans (Nat.mul_le_mul_right _ (zde zq21 : (l0.length : Int).toNat ≤ 35184372088832)) (by omega)) (Below.refl _ _) (zlr _) ?_; intro v102 w4 ho5 hb hg_ hnew_; clear hg_ hnew_; (first | rw [← Ny101.out] at ho5 | (simp only [Int.reduceToNat] at ho5; rw [← Ny101.out] at ho5)); have HO103 := zA (Kd.R_lower ho5 (zag zq1)); replace HB := zA (zab zq1 hb); clear hb ho5))
 go_loopg [13] k (fun kq v13 w' => ∃ (x3_1 : List Int) (x13_1 : Int), v13 = .int .i64 x13_1 ∧ Aside0 (zc2 kq x3_1 l0 (l0.length : Int) x13_1 = some r) ∧ Aside0 (kq ≤ k) ∧ Aside0 (Kd.R (Kd.int .i64) 3 w' w.heap.size (fun _ => True) v102 x3_1) ∧ Aside0 (Below w.heap.size w w'))
 case atStart => exact ⟨(y101), (0), zq5, H', ⟨zlr _⟩, ⟨zq2 HO103⟩, ⟨zq1⟩⟩
 clear H'
 obtain ⟨x3_1, x13_1, rfl, HA, HK1, HO_3, HB⟩ := hrel
 cases gk with
 | zero => exact absurd HA.out (by simp [zc2])
 | succ k1 =>
 have H := HA.out
 clear HA
 simp only [zc2] at H
 revert H
 refine zit (fun c6 H => ?_) fun c6 H => ?_
 rotate_left
 · obtain rfl := zsi H
   go_wp2
   go_ret
   exact ⟨_, zq4, zq2 HO_3, zq1⟩
 revert H
 refine zin fun c7 H => ?_
 revert H
 refine zin fun c8 H => ?_
 replace H := zob H
 obtain ⟨t106, A90, H⟩ := H
 have A9 := zA A90
 clear A90
 have H' := zA H
 clear H
 obtain ⟨p104, q104⟩ := zpq x13_1 l0.length
 obtain ⟨ad104, e104, hx104_0, hx104_1, hx104_2, hx104_3⟩ := zdu HR0.out x13_1 (zoe p104) (zoe q104)
 cases e104
 replace hx104_0 := zkep HB.out hx104_0
 replace hx104_1 := zkep HB.out hx104_1
 replace hx104_2 := zkep HB.out hx104_2
 replace hx104_3 := zkep HB.out hx104_3
 go_wp2_with (first | ((with_reducible refine zgd 5 ?_); refine zbx #[.string (⟨#[]⟩ : ByteArray), .int .i64 0, .int .i64 0, .int .i64 0] 62 ?_; intro gb105 hg w10 hbox hb; have zs := zpair zq1 hb; replace HO_3 := zA (zRb (zq2 HO_3) hb); replace HB := zA (zs.1); have BK105 := zA (hbox); have GW105 := zA (zge hg zs.2); have GE105 := GW105; clear zs hb hbox hg; obtain ⟨hcz11_0, hcz11_1, hcz11_2, hcz11_3, hfz11_0, hfz11_1, hfz11_2, hfz11_3⟩ := zd4 BK105) | ((with_reducible refine zgc 155 ?_); refine zcl 18 Tryz.func155 (zct k1 ((zac l0 x13_1).f0) ((zac l0 x13_1).f1) ((zac l0 x13_1).f2) ((zac l0 x13_1).f3) t106 _ A9.out) ?_; rintro e w12 ⟨v107, rfl, ho0, hb⟩; refine ⟨_, rfl, ?_⟩; have HO108 := zA (Kd.R_lower (Kd.R_new' ho0 (Kd.R_lt (zq23 HO_3 BK105))) (zag (zq3 GE105))); replace HO_3 := zA (Kd.R_elder' (zq23 HO_3 BK105) (Kd.R_base ho0) hb); replace BK105 := zA (zah (g := gb105) (o := .cells #[.string ((zac l0 x13_1).f0), .int .i64 ((zac l0 x13_1).f1), .int .i64 ((zac l0 x13_1).f2), .int .i64 ((zac l0 x13_1).f3)] 62 (0, 0)) (zq32 BK105) hb); replace HB := zA (zab (zq3 GE105) hb); (try clear hb); (try clear hk); (try clear ho0); obtain ⟨Ao13, co13, eo13⟩ := Kd.R_slice HO108.out; subst eo13))
 go_loopg [20] k1 (fun kq v20 w' => ∃ (x3_2 : List Int) (x20_2 : Int), v20 = .int .i64 x20_2 ∧ Aside0 (zdy kq x3_2 l0 (l0.length : Int) x13_1 t106 (t106.length : Int) x20_2 = some r) ∧ Aside0 (kq ≤ k1) ∧ Aside0 (Kd.R (Kd.int .i64) 3 w' w.heap.size (fun k_ => some k_ ≠ ((.slice Ao13 t106.length co13) : Value).ownBlock) v102 x3_2) ∧ Aside0 (Kd.R (Kd.int .i64) 3 w' w.heap.size (fun k_ => some k_ ≠ (v102 : Value).ownBlock) (.slice Ao13 t106.length co13) t106) ∧ Aside0 (w'.heap[gb105]? = some (.cells #[.string ((zac l0 x13_1).f0), .int .i64 ((zac l0 x13_1).f1), .int .i64 ((zac l0 x13_1).f2), .int .i64 ((zac l0 x13_1).f3)] 62 (0, 0))) ∧ Aside0 (Below w.heap.size w w'))
 case atStart => exact ⟨(x3_1), (0), zq5, H', ⟨zlr _⟩, ⟨zq29 HO_3⟩, ⟨zq29 HO108⟩, ⟨zq8 BK105⟩, ⟨zq3 GE105⟩⟩
 clear H'
 obtain ⟨x3_2, x20_2, rfl, HA, HK2, HO_3, HO_18, BK105, HB⟩ := hrel
 cases gk with
 | zero => exact absurd HA.out (by simp [zdy])
 | succ k2 =>
 have H := HA.out
 clear HA
 simp only [zdy] at H
 revert H
 refine zit (fun c14 H => ?_) fun c14 H => ?_
 rotate_left
 · have H' := zA H
   clear H
   go_wp2
   go_roundg k2
   case measure => have := HK1.out; have := HK2.out; omega
   case rel => exact ⟨(x3_2), (wrap64 (x13_1 + 1)), zq5, H', ⟨zq42 HK1 HK2⟩, ⟨zq24 HO_3⟩, ⟨zq3 GE105⟩⟩
 revert H
 refine zin fun c15 H => ?_
 revert H
 refine zin fun c16 H => ?_
 revert H
 refine zin fun c17 H => ?_
 revert H
 refine zin fun c18 H => ?_
 obtain ⟨y111, hy111⟩ : ∃ y_ : List Int, y_ = (x3_2.set ((rd t106 x20_2) : Int).toNat (wrap64 ((rd x3_2 (rd t106 x20_2)) + 1))) := ⟨_, rfl⟩
 rw [← hy111] at H; try with_reducible replace H := zbs H
 have Ny111 := zA hy111
 clear hy111
 have H' := zA H
 clear H
 obtain ⟨p109, q109⟩ := zpq x20_2 t106.length
 obtain ⟨ad109, e109, hx109_0⟩ := Kd.at_int (zRr HO_18.out).2.2 x20_2 (zoe p109) (zoe q109)
 cases e109
 obtain ⟨Ao20, co20, eo20⟩ := Kd.R_slice HO_3.out
 subst eo20
 have p110 : 0 ≤ ((rd t106 x20_2) : Int) := zde zq21
 have q110 : (rd t106 x20_2) < (x3_2.length : Int) := zde zq21
 obtain ⟨ad110, e110, hx110_0⟩ := Kd.at_int (zRr HO_3.out).2.2 (rd t106 x20_2) p110 q110
 cases e110
 replace p110 := eq_true p110
 replace q110 := eq_true q110
 have p19 : 0 ≤ ((rd t106 x20_2) : Int) := zde zq21
 have q19 : ((rd t106 x20_2) : Int) < ((x3_2.length : Int) : Int) := zde zq21
 obtain ⟨go19, co19, eo19, gb19, gl19, cl19, HG19⟩ := Kd.R_form HO_3.out (by omega)
 (first | cases eo19 | (injection eo19 with ea_ en_ ec_; (first | subst ea_ | (injection ea_ with ea_; subst ea_)); subst ec_; clear en_))
 have GB19 := zA gb19
 have GG19 := zA HG19
 clear gb19 gl19 HG19
 (first | simp only [zcg] at hx110_0 | skip)
 obtain ⟨hx19_0, hf19_0⟩ := Kd.R_celln 0 HO_3.out ((rd t106 x20_2) : Int) p19 q19
 replace p19 := eq_true p19
 replace q19 := eq_true q19
 have HP21 := Kd.R_putg HO_3.out ((rd t106 x20_2) : Int) (wrap64 ((rd x3_2 (rd t106 x20_2)) + 1))
 go_wp2_with (first | ((with_reducible refine zgs 3 29 ?_); refine zse (wr.setCell ⟨go19, ((rd t106 x20_2) : Int).toNat, none⟩ (.int .i64 (wrap64 ((rd x3_2 (rd t106 x20_2)) + 1)))) ?_; intro w22 hw; have hg : wr.grownBy w22 (some go19) := (by rw [hw]; exact HP21.2); have hp_ : Kd.R (Kd.int .i64) 3 w22 w.heap.size (fun k_ => some k_ ≠ (.slice (some ad109) t106.length co13 : Value).ownBlock) (.slice (some ⟨go19, 0, none⟩) x3_2.length co20) y111 := (by rw [hw, Ny111.out]; exact HP21.1); clear HP21; replace HO_18 := zA (Kd.R_after (v := (.slice (some ⟨go19, 0, none⟩) x3_2.length co20)) (v1 := (.slice (some ⟨go19, 0, none⟩) x3_2.length co20)) (ok := (fun _ => True)) (by (with_reducible repeat (first | apply zRa | apply zRn | apply zRd)); exact Kd.R_mono HO_18.out (fun _ hk => ⟨trivial, hk⟩)) hg (.inl rfl)); replace BK105 := zA (zew (g := gb105) (o := .cells #[.string ((zac l0 x13_1).f0), .int .i64 ((zac l0 x13_1).f1), .int .i64 ((zac l0 x13_1).f2), .int .i64 ((zac l0 x13_1).f3)] 62 (0, 0)) (zq8 BK105) hg (Kd.R_ne HO_3.out BK105.out (by decide))); replace HO_3 := zA (hp_); replace HB := zA ((zq39 GB19 : Below w.heap.size w w22)); clear hg hw hp_))
 go_roundg k2
 case measure => have := HK1.out; have := HK2.out; omega
 case rel => exact ⟨(y111), (wrap64 (x20_2 + 1)), zq5, H', ⟨zq42 HK1 HK2⟩, ⟨zq2 HO_3⟩, ⟨zq29 HO_18⟩, ⟨zq8 BK105⟩, ⟨zq3 GE105⟩⟩
def zd2 : Nat → Int → List Int → Int → Int → Option (Bool)
 | 0, _, _, _, _ => none
 | k + 1, x1, x7, x8, x9 => if x9 < x8 then (if 0 ≤ x9 then (if x9 < (x7.length : Int) then (if (rd x7 x9) = x1 then (some true) else (zd2 k x1 x7 x8 (wrap64 (x9 + 1)))) else (none)) else (none)) else (some false)
def zgq (k : Nat) (l0 : List Int) (a1 : Int) : Option (Bool) := zd2 k a1 l0 (l0.length : Int) 0
theorem zl8 : ∀ k, (∀ y0 y1 y2 y3, LeO (zd2 k y0 y1 y2 y3) (zd2 (k + 1) y0 y1 y2 y3))
 | 0 => fun _ _ _ _ r h => by simp [zd2] at h
 | k + 1 => by
   have ih0 := zl8 k
   · intro y0 y1 y2 y3
     unfold zd2
     exact zm1 ih0
theorem zno : ∀ a0 a1 k, LeO (zgq k a0 a1) (zgq (k + 1) a0 a1) := by
 intro a0 a1 k
 have ih0 := zl8 k
 unfold zgq
 exact zm1 ih0
theorem zrk (k : Nat) (A0 : Option Addr) (c0 : Nat) (l0 : List Int) (a1 : Int) (r : Bool) (w : World) (hr0 : Kd.C (Kd.int .i64) w A0 l0.length l0) (hc0 : l0.length ≤ c0) (h : zgq k l0 a1 = some r) :
   Calls Tryz.prog 112 #[.slice A0 l0.length c0, .int .i64 a1] w fun e w' => e = .returned (.bool r) ∧ Drawn0 w w' := by
 have HR0 := zA hr0
 have HC0 := zA hc0
 clear hr0 hc0
 have H := h
 unfold zgq at H
 clear h
 have H' := zA H
 clear H
 go_enter Tryz.func112, Tryz.ntmps112
 go_wp2
 go_loopg [9] k (fun kq v9 w' => ∃ (x9_1 : Int), v9 = .int .i64 x9_1 ∧ Aside0 (zd2 kq a1 l0 (l0.length : Int) x9_1 = some r) ∧ Aside0 (kq ≤ k) ∧ Drawn0 w w')
 case atStart => exact ⟨(0), zq5, H', ⟨zlr _⟩, zq6⟩
 clear H'
 obtain ⟨x9_1, rfl, HA, HK1, ⟨m1, rfl⟩⟩ := hrel
 cases gk with
 | zero => exact absurd HA.out (by simp [zd2])
 | succ k1 =>
 have H := HA.out
 clear HA
 simp only [zd2] at H
 revert H
 refine zit (fun c3 H => ?_) fun c3 H => ?_
 rotate_left
 · obtain rfl := zsi H
   exact zr_6
 revert H
 refine zin fun c4 H => ?_
 revert H
 refine zin fun c5 H => ?_
 by_cases c6 : (rd l0 x9_1) = a1
 · rw [if_pos c6] at H
   obtain ⟨c6b0, c6b1⟩ := zbe c6
   clear c6
   obtain rfl := zsi H
   obtain ⟨p101, q101⟩ := zpq x9_1 l0.length
   obtain ⟨ad101, e101, hx101_0⟩ := Kd.at_int HR0.out x9_1 (zoe p101) (zoe q101)
   cases e101
   exact zr_6
 rw [if_neg c6] at H
 obtain ⟨c6b0, c6b1⟩ := zbq c6
 have H' := zA H
 clear H
 obtain ⟨p101, q101⟩ := zpq x9_1 l0.length
 obtain ⟨ad101, e101, hx101_0⟩ := Kd.at_int HR0.out x9_1 (zoe p101) (zoe q101)
 cases e101
 go_wp2
 go_roundg k1
 case measure => have := HK1.out; omega
 case rel => exact ⟨(wrap64 (x9_1 + 1)), zq5, H', ⟨zq41 HK1⟩, zq6⟩
def zdo : Nat → List (S62) → List (S62) → Int → Int → Option (Bool)
 | 0, _, _, _, _ => none
 | k + 1, x0, x9, x10, x11 => if x11 < x10 then (if 0 ≤ x11 then (if x11 < (x9.length : Int) then ((zgn k ((zac x9 x11).f0) ((zac x9 x11).f1) ((zac x9 x11).f2) ((zac x9 x11).f3) x11).bind fun t104 => (if t104 = true then (zdo k x0 x9 x10 (wrap64 (x11 + 1))) else (some false))) else (none)) else (none)) else ((zgp k x0).bind fun t105 => (if 0 ≤ (wrap64 ((x0.length : Int) - 1)) then (if (wrap64 ((x0.length : Int) - 1)) ≤ (t105.length : Int) then ((zgq k (t105.take ((wrap64 ((x0.length : Int) - 1)) : Int).toNat) 0).bind fun t112 => (some (!t112))) else (none)) else (none)))
def zgr (k : Nat) (l0 : List (S62)) : Option (Bool) := (zez (l0.length : Int) 1 24).bind fun t101 => (if t101 = true then (zdo k l0 l0 (l0.length : Int) 0) else (some false))
theorem zli : ∀ k, (∀ y0 y1 y2 y3, LeO (zdo k y0 y1 y2 y3) (zdo (k + 1) y0 y1 y2 y3))
 | 0 => fun _ _ _ _ r h => by simp [zdo] at h
 | k + 1 => by
   have ih0 := zli k
   · intro y0 y1 y2 y3
     unfold zdo
     exact zm4 ih0 zmw zmx zno
theorem zrl : ∀ a0 k, LeO (zgr k a0) (zgr (k + 1) a0) := by
 intro a0 k
 have ih0 := zli k
 unfold zgr
 exact zm4 ih0 zmw zmx zno
theorem zqp (k : Nat) (A0 : Option Addr) (c0 : Nat) (l0 : List (S62)) (r : Bool) (w : World) (hr0 : Kd.C k62 w A0 l0.length l0) (hc0 : l0.length ≤ c0) (h : zgr k l0 = some r) :
   Calls Tryz.prog 77 #[.slice A0 l0.length c0] w fun e w' => e = .returned (.bool r) ∧ Below w.heap.size w w' := by
 have hu62 := Tryz.underlying62
 have HR0 := zA hr0
 have HC0 := zA hc0
 clear hr0 hc0
 have HB := zA (Below.refl w.heap.size w)
 have H := h
 unfold zgr at H
 clear h
 replace H := zob H
 obtain ⟨t101, A20, H⟩ := H
 have A2 := zA A20
 clear A20
 by_cases c3 : t101 = true
 rotate_left
 · replace c3 := zbf c3
   subst c3
   replace H := zif H
   obtain rfl := zsi H
   go_enter Tryz.func77, Tryz.ntmps77
   go_wp2_with (first | ((with_reducible refine zgc 79 ?_); refine zcl 7 Tryz.func79 (za3 (l0.length : Int) 1 24 false _ A2.out) ?_; rintro e w' ⟨rfl, ⟨nd, rfl⟩⟩; refine ⟨_, rfl, ?_⟩))
   exact zr_3
 subst c3
 replace H := zih H
 have H' := zA H
 clear H
 go_enter Tryz.func77, Tryz.ntmps77
 go_wp2_with (first | ((with_reducible refine zgc 79 ?_); refine zcl 7 Tryz.func79 (za3 (l0.length : Int) 1 24 true _ A2.out) ?_; rintro e w' ⟨rfl, ⟨nd, rfl⟩⟩; refine ⟨_, rfl, ?_⟩))
 go_loopg [11] k (fun kq v11 w' => ∃ (x11_1 : Int), v11 = .int .i64 x11_1 ∧ Aside0 (zdo kq l0 l0 (l0.length : Int) x11_1 = some r) ∧ Aside0 (kq ≤ k) ∧ Aside0 (Below w.heap.size w w'))
 case atStart => exact ⟨(0), zq5, H', ⟨zlr _⟩, ⟨zq1⟩⟩
 clear H'
 obtain ⟨x11_1, rfl, HA, HK1, HB⟩ := hrel
 cases gk with
 | zero => exact absurd HA.out (by simp [zdo])
 | succ k1 =>
 have H := HA.out
 clear HA
 simp only [zdo] at H
 revert H
 refine zit (fun c4 H => ?_) fun c4 H => ?_
 rotate_left
 · replace H := zob H
   obtain ⟨t105, A150, H⟩ := H
   have A15 := zA A150
   clear A150
   obtain ⟨ji16, hji16⟩ : ∃ j_ : Int, (wrap64 ((l0.length : Int) - 1)) = j_ := ⟨_, rfl⟩
   replace H : (if 0 ≤ (ji16) then (if (ji16) ≤ (t105.length : Int) then ((zgq k1 (t105.take ((ji16) : Int).toNat) 0).bind fun t112 => (some (!t112))) else (none)) else (none)) = some r := by first | (rw [hji16] at H; exact H) | (simp only [hji16] at H ⊢; exact H)
   (try rw [hji16] at A15)
   have hji16w : (IntKind.i64.wrap ((l0.length : Int) - 1)) = ji16 := (zgy _).trans hji16
   by_cases c17 : 0 ≤ (ji16)
   rotate_left
   · rw [if_neg c17] at H
     exact absurd H (by simp)
   rw [if_pos c17] at H
   have c17b0 := eq_true c17
   have c17b1 := zdt c17
   clear c17
   by_cases c18 : (ji16) ≤ (t105.length : Int)
   rotate_left
   · rw [if_neg c18] at H
     exact absurd H (by simp)
   rw [if_pos c18] at H
   have c18b0 := eq_true c18
   have c18b1 := zdt c18
   clear c18
   obtain ⟨y108, hy108⟩ : ∃ y_ : List Int, y_ = (t105.take ((ji16) : Int).toNat) := ⟨_, rfl⟩
   rw [← hy108] at H; try with_reducible replace H := zbs H
   have Ny108 := zA hy108
   clear hy108
   replace H := zob H
   obtain ⟨t112, A190, H⟩ := H
   have A19 := zA A190
   clear A190
   obtain rfl := zsi H
   go_wp2_with (first | ((with_reducible refine zgc 113 ?_); refine zca 22 Tryz.func113 #[.slice A0 l0.length c0] (zqo k1 _ _ l0 t105 _ (zq7 HR0) HC0.out A15.out) ?_; rintro e w20 ⟨v106, rfl, ho0, hb⟩; refine ⟨_, rfl, ?_⟩; have HO107 := zA (Kd.R_lower ho0 (zag zq1)); replace HB := zA (zab zq1 hb); (try clear hb); (try clear ho0); obtain ⟨Ao22, co22, eo22⟩ := Kd.R_slice HO107.out; subst eo22; have q21 : ((ji16) : Int) ≤ ((t105.length : Int) : Int) := zde zq21; obtain ⟨i021, hi021, _, hsz21, _⟩ := info_parts zn1; have hroom21 : t105.length ≤ co22 := (zRr HO107.out).2.1; have hC21 : Kd.C (Kd.int .i64) _ Ao22 t105.length t105 := (zRr HO107.out).2.2; have hcut21 := zzp (P := Tryz.prog) 24 3 .i64 Tryz.underlying24 hi021 Ao22 t105.length co22 (ji16) (zde zq21) q21 hroom21; have hr21 := Kd.C_take (m := ((ji16) : Int).toNat) hC21 (by omega); have hy21 : y108.length = ((ji16) : Int).toNat := (by rw [Ny108.out, List.length_take]; omega); rw [← Ny108.out] at hr21; rw [← hy21] at hcut21; have HR111 := zA hr21; have HC111 := zA (show y108.length ≤ co22 from by omega); clear hr21 hC21 hroom21 hi021 hsz21; have KY21 := zA hy21; clear hy21; have KL21 := zA (show ((ji16) : Int).toNat ≤ t105.length from by omega); replace q21 := eq_true q21) | ((with_reducible refine zgc 112 ?_); refine zca 27 Tryz.func112 #[.slice Ao22 y108.length co22, .int .i64 0] (zrk k1 _ _ y108 0 t112 _ (zq57 HR111) HC111.out A19.out) ?_; rintro e w' ⟨rfl, ⟨nd, rfl⟩⟩; refine ⟨_, rfl, ?_⟩))
   go_ret
   exact ⟨zq58, zq1⟩
 revert H
 refine zin fun c5 H => ?_
 revert H
 refine zin fun c6 H => ?_
 replace H := zob H
 obtain ⟨t104, A70, H⟩ := H
 have A7 := zA A70
 clear A70
 by_cases c8 : t104 = true
 rotate_left
 · replace c8 := zbf c8
   subst c8
   replace H := zif H
   obtain rfl := zsi H
   obtain ⟨p102, q102⟩ := zpq x11_1 l0.length
   obtain ⟨ad102, e102, hx102_0, hx102_1, hx102_2, hx102_3⟩ := zdu HR0.out x11_1 (zoe p102) (zoe q102)
   cases e102
   replace hx102_0 := zkep HB.out hx102_0
   replace hx102_1 := zkep HB.out hx102_1
   replace hx102_2 := zkep HB.out hx102_2
   replace hx102_3 := zkep HB.out hx102_3
   go_wp2_with (first | ((with_reducible refine zgd 4 ?_); refine zbh zq1 #[.string (⟨#[]⟩ : ByteArray), .int .i64 0, .int .i64 0, .int .i64 0] 62 ?_; clear HB; intro gb103 w12 HB BK103 GW103; have GE103 := GW103; obtain ⟨hcz13_0, hcz13_1, hcz13_2, hcz13_3, hfz13_0, hfz13_1, hfz13_2, hfz13_3⟩ := zd4 BK103) | ((with_reducible refine zgc 111 ?_); refine zcl 18 Tryz.func111 (zl7 k1 ((zac l0 x11_1).f0) ((zac l0 x11_1).f1) ((zac l0 x11_1).f2) ((zac l0 x11_1).f3) x11_1 false _ A7.out) ?_; rintro e w14 ⟨rfl, hb⟩; refine ⟨_, rfl, ?_⟩; replace BK103 := zA (zah (g := gb103) (o := .cells #[.string ((zac l0 x11_1).f0), .int .i64 ((zac l0 x11_1).f1), .int .i64 ((zac l0 x11_1).f2), .int .i64 ((zac l0 x11_1).f3)] 62 (0, 0)) (zq18 BK103) hb); replace HB := zA (zab (zq3 GE103) hb); (try clear hb)))
   go_ret
   exact ⟨zq4, zq3 GE103⟩
 subst c8
 replace H := zih H
 have H' := zA H
 clear H
 obtain ⟨p102, q102⟩ := zpq x11_1 l0.length
 obtain ⟨ad102, e102, hx102_0, hx102_1, hx102_2, hx102_3⟩ := zdu HR0.out x11_1 (zoe p102) (zoe q102)
 cases e102
 replace hx102_0 := zkep HB.out hx102_0
 replace hx102_1 := zkep HB.out hx102_1
 replace hx102_2 := zkep HB.out hx102_2
 replace hx102_3 := zkep HB.out hx102_3
 go_wp2_with (first | ((with_reducible refine zgd 4 ?_); refine zbh zq1 #[.string (⟨#[]⟩ : ByteArray), .int .i64 0, .int .i64 0, .int .i64 0] 62 ?_; clear HB; intro gb103 w9 HB BK103 GW103; have GE103 := GW103; obtain ⟨hcz10_0, hcz10_1, hcz10_2, hcz10_3, hfz10_0, hfz10_1, hfz10_2, hfz10_3⟩ := zd4 BK103) | ((with_reducible refine zgc 111 ?_); refine zcl 18 Tryz.func111 (zl7 k1 ((zac l0 x11_1).f0) ((zac l0 x11_1).f1) ((zac l0 x11_1).f2) ((zac l0 x11_1).f3) x11_1 true _ A7.out) ?_; rintro e w11 ⟨rfl, hb⟩; refine ⟨_, rfl, ?_⟩; replace BK103 := zA (zah (g := gb103) (o := .cells #[.string ((zac l0 x11_1).f0), .int .i64 ((zac l0 x11_1).f1), .int .i64 ((zac l0 x11_1).f2), .int .i64 ((zac l0 x11_1).f3)] 62 (0, 0)) (zq18 BK103) hb); replace HB := zA (zab (zq3 GE103) hb); (try clear hb)))
 go_roundg k1
 case measure => have := HK1.out; omega
 case rel => exact ⟨(wrap64 (x11_1 + 1)), zq5, H', ⟨zq41 HK1⟩, ⟨zq3 GE103⟩⟩
def zdq (l0 : List (S62)) (a1_0 : ByteArray) (a1_1 : Int) (a1_2 : Int) (a1_3 : Int) : Option ((List (S62)) × Int) := if l0.length < 3518437208883 then (some ((l0 ++ [(⟨a1_0, a1_1, a1_2, a1_3⟩ : S62)]), (l0.length : Int))) else (none)
theorem zec (P0_ : Nat → Prop) (u9000_ : Value) (l0 : List (S62)) (a1_0 : ByteArray) (a1_1 : Int) (a1_2 : Int) (a1_3 : Int) (r1 : List (S62)) (r2 : Int) (w0 w : World) (hB : Below w0.heap.size w0 w) (ho0 : Kd.R k62 62 w w0.heap.size P0_ u9000_ l0) (h : zdq l0 a1_0 a1_1 a1_2 a1_3 = some (r1, r2)) :
   Calls Tryz.prog 188 #[u9000_, .agg #[.string a1_0, .int .i64 a1_1, .int .i64 a1_2, .int .i64 a1_3]] w fun e w' => ∃ v0_ : Value, e = .returned (.tuple #[v0_, .int .i64 r2]) ∧ Kd.R k62 62 w' w0.heap.size (fun k_ => (P0_ k_ ∨ w.heap.size ≤ k_)) v0_ r1 ∧ Below w0.heap.size w0 w' ∧ Kept w w' (fun k_ => P0_ k_) := by
 obtain ⟨A9_, c9_, rfl⟩ := Kd.R_slice ho0
 have hu62 := Tryz.underlying62
 have HO0 := zA (show Kd.R k62 62 w w0.heap.size (fun k_ => (P0_ k_ ∨ w.heap.size ≤ k_)) (.slice A9_ l0.length c9_) l0 from Kd.R_mono ho0 (fun k_ hk => (.inl hk)))
 have HK := zA (Kept.refl w (fun k_ => P0_ k_))
 have HW0 := zA hB.size
 have HB := zA hB
 clear hB
 have H := h
 unfold zdq at H
 clear h
 by_cases c3 : l0.length < 3518437208883
 · rw [if_pos c3] at H
   have LMc3 := zA c3
   clear c3
   obtain ⟨y102, hy102⟩ : ∃ y_ : List (S62), y_ = (l0 ++ [(⟨a1_0, a1_1, a1_2, a1_3⟩ : S62)]) := ⟨_, rfl⟩
   rw [← hy102] at H; try with_reducible replace H := zbs H
   have Ny102 := zA hy102
   clear hy102
   simp only [Option.some.injEq, Prod.mk.injEq] at H
   obtain ⟨rfl, rfl⟩ := H
   go_enter Tryz.func188, Tryz.ntmps188
   go_wp2_with (first | ((with_reducible refine zgd 3 ?_); refine zbx #[.string a1_0, .int .i64 a1_1, .int .i64 a1_2, .int .i64 a1_3] 62 ?_; intro gb101 hg w4 hbox hb; replace HO0 := zA (zRb (Kd.R_elderB (zq2 HO0) gb101 (Nat.le_of_eq hg.symm)) hb); have BK101 := zA (hbox); have GW101 := zA ((by rw [hg]; exact (by first | exact HK.out.1 | exact (show Kept w _ (fun k_ => P0_ k_) from by repeat (first | (with_reducible first | exact HK.out | apply Kept.alloc | apply Kept.drewN | apply Kept.drew) | exact HK.out)).1) : w.heap.size ≤ gb101)); replace HK := zA (Kept.below (S := (fun k_ => P0_ k_)) zq48 hb); have GE101 := zA ((by rw [hg]; exact (zag zq1) : w0.heap.size ≤ gb101)); replace HB := zA (zab zq1 hb); clear hb hbox hg; obtain ⟨hcz5_0, hcz5_1, hcz5_2, hcz5_3, hfz5_0, hfz5_1, hfz5_2, hfz5_3⟩ := zd4 BK101) | ((with_reducible refine zfe (b := .append) (xs := #[.tmp 6, .tmp 8]) rfl ?_); at_builtin; refine Kd.R_append k62 (w0 := w0) w0.heap.size rfl (.tmp 6) (.tmp 8) 32 62 (.agg #[(.string ⟨#[]⟩), (.int .i64 0), (.int .i64 0), (.int .i64 0)]) 40 rfl Tryz.underlying32 zq0 rfl (by decide) (by omega) (.slice A9_ l0.length c9_) l0 (⟨a1_0, a1_1, a1_2, a1_3⟩ : S62) [.string a1_0, .int .i64 a1_1, .int .i64 a1_2, .int .i64 a1_3] (fun k_ => (P0_ k_ ∨ w.heap.size ≤ k_) ∧ k_ ≠ gb101) (fun _ => False) rfl rfl ?aP (fun _ hk => hk.elim) ?aF ?aO ?aB ?aS ?aL ?_; (case aP => exact zhd _ _ _ (⟨a1_0, a1_1, a1_2, a1_3⟩ : S62)); (case aB => exact (zq3 GE101)); (case aF => exact (fun k_ hk => ⟨(.inr (Nat.le_trans (by first | exact HK.out.1 | exact (show Kept w _ (fun k_ => P0_ k_) from by repeat (first | (with_reducible first | exact HK.out | apply Kept.alloc | apply Kept.drewN | apply Kept.drew | refine Kept.setCell ?_ (.inr GW101.out) _) | exact HK.out)).1) hk)), Kd.freshB (g := gb101) (o := .cells #[.string a1_0, .int .i64 a1_1, .int .i64 a1_2, .int .i64 a1_3] 62 (0, 0)) (zq8 BK101) k_ hk⟩)); (case aO => exact (zq2 HO0)); (case aS => exact (zag (zq3 GE101))); (case aL => have := LMc3.out; omega); intro v103 w6 ho hb hg hat; rw [← Ny102.out] at ho; replace BK101 := zA (zew (g := gb101) (o := .cells #[.string a1_0, .int .i64 a1_1, .int .i64 a1_2, .int .i64 a1_3] 62 (0, 0)) (zq8 BK101) hg (Kd.R_away HO0.out (fun _ hk => hk.2))); replace HB := zA (hb); replace HK := zA (zuk (S := (fun k_ => P0_ k_)) hg (zq45 GW101) (fun k_ e_ => (HO0.out.1 k_ e_).1)); have HO104 := zA (ho); clear HO0; clear ho hb hg hat))
   go_ret2
   exact ⟨_, zq4, by (with_reducible repeat (first | apply zRa | apply zRn | apply zRd)); exact Kd.R_mono HO104.out (fun _ hk => hk.1), zq3 GE101, zq45 GW101⟩
 · rw [if_neg c3] at H
   exact absurd H (by simp)
mutual
def zav : Nat → List (S62) → List Int → List (S69) → Int → Int → Option ((List (S62)) × List Int)
 | 0, _, _, _, _, _ => none
 | k + 1, x4, x5, x15, x16, x17 => if x17 < x16 then (if 0 ≤ x17 then (if x17 < (x15.length : Int) then (if ((zaa x15 x17).f0).toList = ([115, 101, 116] : List UInt8) then ((zdq x4 (⟨#[99, 111, 110, 115, 116]⟩ : ByteArray) 0 0 ((zaa x15 x17).f4)).bind fun bt110 => (if 0 ≤ ((zaa x15 x17).f1) then (if ((zaa x15 x17).f1) < (x5.length : Int) then (zav k bt110.1 (x5.set (((zaa x15 x17).f1) : Int).toNat bt110.2) x15 x16 (wrap64 (x17 + 1))) else (none)) else (none))) else (if ((zaa x15 x17).f0).toList = ([109, 111, 118] : List UInt8) then (if 0 ≤ ((zaa x15 x17).f2) then (if ((zaa x15 x17).f2) < (x5.length : Int) then (if 0 ≤ ((zaa x15 x17).f1) then (if ((zaa x15 x17).f1) < (x5.length : Int) then (zav k x4 (x5.set (((zaa x15 x17).f1) : Int).toNat (rd x5 ((zaa x15 x17).f2))) x15 x16 (wrap64 (x17 + 1))) else (none)) else (none)) else (none)) else (none)) else (if ((zaa x15 x17).f0).toList = ([97, 100, 100, 105] : List UInt8) then (za8 k x4 x5 x15 x16 x17 ((zaa x15 x17).f0) (((zaa x15 x17).f0).toList == ([97, 100, 100, 105] : List UInt8)) ((zaa x15 x17).f0) ((zaa x15 x17).f1) ((zaa x15 x17).f2) ((zaa x15 x17).f3) ((zaa x15 x17).f4) (⟨#[99, 111, 110, 115, 116]⟩ : ByteArray) 0 0 ((zaa x15 x17).f4)) else (if ((zaa x15 x17).f0).toList = ([97, 110, 100, 105] : List UInt8) then (za8 k x4 x5 x15 x16 x17 ((zaa x15 x17).f0) (((zaa x15 x17).f0).toList == ([97, 110, 100, 105] : List UInt8)) ((zaa x15 x17).f0) ((zaa x15 x17).f1) ((zaa x15 x17).f2) ((zaa x15 x17).f3) ((zaa x15 x17).f4) (⟨#[99, 111, 110, 115, 116]⟩ : ByteArray) 0 0 ((zaa x15 x17).f4)) else (if ((zaa x15 x17).f0).toList = ([120, 111, 114, 105] : List UInt8) then (za8 k x4 x5 x15 x16 x17 ((zaa x15 x17).f0) (((zaa x15 x17).f0).toList == ([120, 111, 114, 105] : List UInt8)) ((zaa x15 x17).f0) ((zaa x15 x17).f1) ((zaa x15 x17).f2) ((zaa x15 x17).f3) ((zaa x15 x17).f4) (⟨#[99, 111, 110, 115, 116]⟩ : ByteArray) 0 0 ((zaa x15 x17).f4)) else (if ((zaa x15 x17).f0).toList = ([115, 104, 108, 105] : List UInt8) then (za8 k x4 x5 x15 x16 x17 ((zaa x15 x17).f0) (((zaa x15 x17).f0).toList == ([115, 104, 108, 105] : List UInt8)) ((zaa x15 x17).f0) ((zaa x15 x17).f1) ((zaa x15 x17).f2) ((zaa x15 x17).f3) ((zaa x15 x17).f4) (⟨#[99, 111, 110, 115, 116]⟩ : ByteArray) 0 0 ((zaa x15 x17).f4)) else (za8 k x4 x5 x15 x16 x17 ((zaa x15 x17).f0) (((zaa x15 x17).f0).toList == ([115, 104, 114, 105] : List UInt8)) ((zaa x15 x17).f0) ((zaa x15 x17).f1) ((zaa x15 x17).f2) ((zaa x15 x17).f3) ((zaa x15 x17).f4) (⟨#[99, 111, 110, 115, 116]⟩ : ByteArray) 0 0 ((zaa x15 x17).f4)))))))) else (none)) else (none)) else (some (x4, x5))
def za8 : Nat → List (S62) → List Int → List (S69) → Int → Int → ByteArray → Bool → ByteArray → Int → Int → Int → Int → ByteArray → Int → Int → Int → Option ((List (S62)) × List Int)
 | 0, _, _, _, _, _, _, _, _, _, _, _, _, _, _, _, _ => none
 | k + 1, x4, x5, x15, x16, x17, x25, x59, x109000, x109001, x109002, x109003, x109004, x110000, x110001, x110002, x110003 => if x59 = true then ((zdq x4 x110000 x110001 x110002 x110003).bind fun bt117 => (if 0 ≤ (wrap64 ((x109000.size : Int) - 1)) then (if (wrap64 ((x109000.size : Int) - 1)) ≤ (x109000.size : Int) then (if 0 ≤ x109002 then (if x109002 < (x5.length : Int) then ((zdq bt117.1 (x109000.extract 0 ((wrap64 ((x109000.size : Int) - 1)) : Int).toNat) (rd x5 x109002) bt117.2 0).bind fun bt122 => (if 0 ≤ x109001 then (if x109001 < (x5.length : Int) then (zav k bt122.1 (x5.set (x109001 : Int).toNat bt122.2) x15 x16 (wrap64 (x17 + 1))) else (none)) else (none))) else (none)) else (none)) else (none)) else (none))) else (if x25.toList = ([108, 101, 97] : List UInt8) then ((zdq x4 x110000 x110001 x110002 x110003).bind fun bt127 => (if 0 ≤ x109003 then (if x109003 < (x5.length : Int) then ((zdq bt127.1 (⟨#[115, 104, 108]⟩ : ByteArray) (rd x5 x109003) bt127.2 0).bind fun bt132 => (if 0 ≤ x109002 then (if x109002 < (x5.length : Int) then ((zdq bt132.1 (⟨#[97, 100, 100]⟩ : ByteArray) (rd x5 x109002) bt132.2 0).bind fun bt137 => (if 0 ≤ x109001 then (if x109001 < (x5.length : Int) then (zav k bt137.1 (x5.set (x109001 : Int).toNat bt137.2) x15 x16 (wrap64 (x17 + 1))) else (none)) else (none))) else (none)) else (none))) else (none)) else (none))) else (if x25.toList = ([110, 111, 116] : List UInt8) then (zbw k x4 x5 x15 x16 x17 (x25.toList == ([110, 111, 116] : List UInt8)) x109000 x109001 x109002 x109003 x109004) else (zbw k x4 x5 x15 x16 x17 (x25.toList == ([110, 101, 103] : List UInt8)) x109000 x109001 x109002 x109003 x109004)))
def zbw : Nat → List (S62) → List Int → List (S69) → Int → Int → Bool → ByteArray → Int → Int → Int → Int → Option ((List (S62)) × List Int)
 | 0, _, _, _, _, _, _, _, _, _, _, _ => none
 | k + 1, x4, x5, x15, x16, x17, x122, x109000, x109001, x109002, x109003, x109004 => if x122 = true then (if 0 ≤ x109002 then (if x109002 < (x5.length : Int) then ((zdq x4 x109000 (rd x5 x109002) 0 0).bind fun bt143 => (if 0 ≤ x109001 then (if x109001 < (x5.length : Int) then (zav k bt143.1 (x5.set (x109001 : Int).toNat bt143.2) x15 x16 (wrap64 (x17 + 1))) else (none)) else (none))) else (none)) else (none)) else (if 0 ≤ x109002 then (if x109002 < (x5.length : Int) then (if 0 ≤ x109003 then (if x109003 < (x5.length : Int) then ((zdq x4 x109000 (rd x5 x109002) (rd x5 x109003) 0).bind fun bt150 => (if 0 ≤ x109001 then (if x109001 < (x5.length : Int) then (zav k bt150.1 (x5.set (x109001 : Int).toNat bt150.2) x15 x16 (wrap64 (x17 + 1))) else (none)) else (none))) else (none)) else (none)) else (none)) else (none))
end
def zfg (k : Nat) (l0 : List (S69)) : Option ((List (S62)) × List Int) := zav k (([(⟨(⟨#[105, 110]⟩ : ByteArray), 0, 0, 0⟩ : S62), (⟨(⟨#[105, 110]⟩ : ByteArray), 0, 0, 1⟩ : S62), (⟨(⟨#[99, 111, 110, 115, 116]⟩ : ByteArray), 0, 0, 0⟩ : S62)] : List (S62))) (([0, 1, 2, 2, 2, 2] : List Int)) l0 (l0.length : Int) 0
theorem zjm : ∀ k, (∀ y0 y1 y2 y3 y4, LeO (zav k y0 y1 y2 y3 y4) (zav (k + 1) y0 y1 y2 y3 y4)) ∧ (∀ y0 y1 y2 y3 y4 y5 y6 y7 y8 y9 y10 y11 y12 y13 y14 y15, LeO (za8 k y0 y1 y2 y3 y4 y5 y6 y7 y8 y9 y10 y11 y12 y13 y14 y15) (za8 (k + 1) y0 y1 y2 y3 y4 y5 y6 y7 y8 y9 y10 y11 y12 y13 y14 y15)) ∧ (∀ y0 y1 y2 y3 y4 y5 y6 y7 y8 y9 y10, LeO (zbw k y0 y1 y2 y3 y4 y5 y6 y7 y8 y9 y10) (zbw (k + 1) y0 y1 y2 y3 y4 y5 y6 y7 y8 y9 y10))
 | 0 => ⟨fun _ _ _ _ _ r h => by simp [zav] at h, fun _ _ _ _ _ _ _ _ _ _ _ _ _ _ _ _ r h => by simp [za8] at h, fun _ _ _ _ _ _ _ _ _ _ _ r h => by simp [zbw] at h⟩
 | k + 1 => by
   obtain ⟨ih0, ih1, ih2⟩ := zjm k
   refine ⟨?_, ?_, ?_⟩
   · intro y0 y1 y2 y3 y4
     unfold zav
     exact zm3 ih0 ih1 ih2
   · intro y0 y1 y2 y3 y4 y5 y6 y7 y8 y9 y10 y11 y12 y13 y14 y15
     unfold za8
     exact zm3 ih0 ih1 ih2
   · intro y0 y1 y2 y3 y4 y5 y6 y7 y8 y9 y10
     unfold zbw
     exact zm3 ih0 ih1 ih2
theorem zot : ∀ a0 k, LeO (zfg k a0) (zfg (k + 1) a0) := by
 intro a0 k
 obtain ⟨ih0, ih1, ih2⟩ := zjm k
 unfold zfg
 exact zm3 ih0 ih1 ih2
def spec_vaSymbols.T9 : Bool × List (List Nat × List Nat) := (true, [([], []), ([], []), ([1], [1]), ([], []), ([], []), ([4], [4]), ([3, 5], [3, 5]), ([6], [6]), ([], []), ([], []), ([9], [9]), ([8, 10], [8, 10]), ([11], [11]), ([2, 7, 12], [2, 7, 12]), ([0, 13], [0, 13]), ([14], [14]), ([15], [15]), ([15], [15]), ([16, 14, 0, 1, 2, 3, 4, 5, 6, 7, 8, 9, 10, 11, 12, 13, 14, 15, 16], [0, 16]), ([17, 18, 0, 1, 2, 3, 4, 5, 6, 7, 8, 9, 10, 11, 12, 13, 14, 15, 16, 17, 18], [17])])
def zqq : List Nat := [0, 0, 2, 0, 0, 16, 56, 120, 0, 0, 512, 1792, 3840, 8190, 16383, 32767, 65535, 65535, 131071, 524287]
theorem zou : rtab .any (zwe Tryz.f169 9) = spec_vaSymbols.T9 := by kernel_rfl
theorem zn5 : zjx spec_vaSymbols.T9.2 zqq = true := by kernel_rfl
def spec_vaSymbols.T20 : Bool × List (List Nat × List Nat) := (true, [([], []), ([], []), ([1], [1]), ([], []), ([3], [3]), ([4], [4]), ([5], [5]), ([2, 6], [2, 6]), ([], []), ([], []), ([9], [9]), ([8, 10], [8, 10]), ([11], [11]), ([], []), ([7, 12, 13], [7, 12, 13]), ([0, 14], [0, 14]), ([15], [15]), ([16], [16]), ([16], [16]), ([17, 15, 0, 1, 2, 3, 4, 5, 6, 7, 8, 9, 10, 11, 12, 13, 14, 15, 16, 17], [0, 17]), ([18, 19, 0, 1, 2, 3, 4, 5, 6, 7, 8, 9, 10, 11, 12, 13, 14, 15, 16, 17, 18, 19], [13, 18])])
def zpi : List Nat := [0, 0, 2, 0, 8, 24, 56, 126, 0, 0, 512, 1792, 3840, 0, 16382, 32767, 65535, 131071, 131071, 262143, 1048575]
theorem zn6 : rtab .any (zwe Tryz.f169 20) = spec_vaSymbols.T20 := by kernel_rfl
theorem znp : zjx spec_vaSymbols.T20.2 zpi = true := by kernel_rfl
def spec_vaSymbols.T27 : Bool × List (List Nat × List Nat) := (true, [([], []), ([], []), ([1], [1]), ([], []), ([], []), ([4], [4]), ([3, 5], [3, 5]), ([6], [6]), ([2, 7], [2, 7]), ([0, 8], [0, 8]), ([9], [9]), ([10], [10]), ([10], [10]), ([11, 9, 0, 1, 2, 3, 4, 5, 6, 7, 8, 9, 10, 11], [0, 11]), ([12, 13, 0, 1, 2, 3, 4, 5, 6, 7, 8, 9, 10, 11, 12, 13], [12])])
def zpj : List Nat := [0, 0, 2, 0, 0, 16, 56, 120, 254, 511, 1023, 2047, 2047, 4095, 16383]
theorem zn7 : rtab .any (zwe Tryz.f169 27) = spec_vaSymbols.T27 := by kernel_rfl
theorem znq : zjx spec_vaSymbols.T27.2 zpj = true := by kernel_rfl
theorem zn8 (k : Nat) (A0 : Option Addr) (c0 : Nat) (l0 : List (S69)) (r1 : List (S62)) (r2 : List Int) (w : World) (hr0 : Kd.C k69 w A0 l0.length l0) (hc0 : l0.length ≤ c0) (h : zfg k l0 = some (r1, r2)) :
   Calls Tryz.prog 169 #[.slice A0 l0.length c0] w fun e w' => ∃ v0_ v1_ : Value, e = .returned (.tuple #[v0_, v1_]) ∧ Kd.R k62 62 w' w.heap.size (fun _ => True) v0_ r1 ∧ Kd.R (Kd.int .i64) 3 w' w.heap.size (fun _ => True) v1_ r2 ∧ Below w.heap.size w w' := by
 have hu62 := Tryz.underlying62
 have hu69 := Tryz.underlying69
 have HR0 := zA hr0
 have HC0 := zA hc0
 clear hr0 hc0
 have HB := zA (Below.refl w.heap.size w)
 have H := h
 unfold zfg at H
 clear h
 obtain ⟨y101, hy101⟩ : ∃ y_ : List (S62), y_ = (([(⟨(⟨#[105, 110]⟩ : ByteArray), 0, 0, 0⟩ : S62), (⟨(⟨#[105, 110]⟩ : ByteArray), 0, 0, 1⟩ : S62), (⟨(⟨#[99, 111, 110, 115, 116]⟩ : ByteArray), 0, 0, 0⟩ : S62)] : List (S62))) := ⟨_, rfl⟩
 rw [← hy101] at H; try with_reducible replace H := zbs H
 have Ny101 := zA hy101
 clear hy101
 obtain ⟨y104, hy104⟩ : ∃ y_ : List Int, y_ = (([0, 1, 2, 2, 2, 2] : List Int)) := ⟨_, rfl⟩
 rw [← hy104] at H; try with_reducible replace H := zbs H
 have Ny104 := zA hy104
 clear hy104
 have H' := zA H
 clear H
 go_enter Tryz.func169, Tryz.ntmps169
 go_wp2_with (first | ((with_reducible refine zgd 13 ?_); refine Kd.R_lit k62 _ 62 ?hg (N := 13) ?hd (xs := ([(⟨(⟨#[105, 110]⟩ : ByteArray), 0, 0, 0⟩ : S62), (⟨(⟨#[105, 110]⟩ : ByteArray), 0, 0, 1⟩ : S62), (⟨(⟨#[99, 111, 110, 115, 116]⟩ : ByteArray), 0, 0, 0⟩ : S62)] : List (S62))) (inner := [.string (⟨#[105, 110]⟩ : ByteArray), .int .i64 0, .int .i64 0, .int .i64 0, .string (⟨#[105, 110]⟩ : ByteArray), .int .i64 0, .int .i64 0, .int .i64 1, .string (⟨#[99, 111, 110, 115, 116]⟩ : ByteArray), .int .i64 0, .int .i64 0, .int .i64 0]) (ok := fun _ => True) (okp := fun _ => True) ?hr ?hp (fun _ hk => hk) trivial (Below.refl _ _) (zlr _) (by simp) ?_; (case hd => rfl); (case hg => rfl); (case hr => go_simp <;> rfl); (case hp => exact (zsn (show Kd.M k62 _ _ _ (⟨(⟨#[105, 110]⟩ : ByteArray), 0, 0, 0⟩ : S62) [.string (⟨#[105, 110]⟩ : ByteArray), .int .i64 0, .int .i64 0, .int .i64 0] from (zhd _ _ _ (⟨(⟨#[105, 110]⟩ : ByteArray), 0, 0, 0⟩ : S62) )) (zsn (show Kd.M k62 _ _ _ (⟨(⟨#[105, 110]⟩ : ByteArray), 0, 0, 1⟩ : S62) [.string (⟨#[105, 110]⟩ : ByteArray), .int .i64 0, .int .i64 0, .int .i64 1] from (zhd _ _ _ (⟨(⟨#[105, 110]⟩ : ByteArray), 0, 0, 1⟩ : S62) )) (zsn (show Kd.M k62 _ _ _ (⟨(⟨#[99, 111, 110, 115, 116]⟩ : ByteArray), 0, 0, 0⟩ : S62) [.string (⟨#[99, 111, 110, 115, 116]⟩ : ByteArray), .int .i64 0, .int .i64 0, .int .i64 0] from (zhd _ _ _ (⟨(⟨#[99, 111, 110, 115, 116]⟩ : ByteArray), 0, 0, 0⟩ : S62) )) (Reps.none _ _))))); intro v102 w2 ho3 hb hg_ hnew_; clear hg_ hnew_; (first | rw [← Ny101.out] at ho3 | (simp only [Int.reduceToNat] at ho3; rw [← Ny101.out] at ho3)); have HO103 := zA (Kd.R_lower ho3 (zag zq1)); replace HB := zA (zab zq1 hb); clear hb ho3) | ((with_reducible refine zgd 14 ?_); refine Kd.R_lit (Kd.int .i64) _ 3 ?hg (N := 14) ?hd (xs := ([0, 1, 2, 2, 2, 2] : List Int)) (inner := [.int .i64 0, .int .i64 1, .int .i64 2, .int .i64 2, .int .i64 2, .int .i64 2]) (ok := fun _ => True) (okp := fun _ => True) ?hr ?hp (fun _ hk => hk) trivial (Below.refl _ _) (zlr _) (by simp) ?_; (case hd => rfl); (case hg => rfl); (case hr => go_simp <;> rfl); (case hp => exact (zan (show Kd.M (Kd.int .i64) _ _ _ 0 [.int .i64 0] from rfl) (zan (show Kd.M (Kd.int .i64) _ _ _ 1 [.int .i64 1] from rfl) (zan (show Kd.M (Kd.int .i64) _ _ _ 2 [.int .i64 2] from rfl) (zan (show Kd.M (Kd.int .i64) _ _ _ 2 [.int .i64 2] from rfl) (zan (show Kd.M (Kd.int .i64) _ _ _ 2 [.int .i64 2] from rfl) (zan (show Kd.M (Kd.int .i64) _ _ _ 2 [.int .i64 2] from rfl) (Reps.none _ _)))))))); intro v105 w4 ho5 hb hg_ hnew_; clear hg_ hnew_; (first | rw [← Ny104.out] at ho5 | (simp only [Int.reduceToNat] at ho5; rw [← Ny104.out] at ho5)); replace HO103 := zA (zRb (zq2 HO103) hb); have HO106 := zA (Kd.R_lower ho5 (zag zq1)); replace HB := zA (zab zq1 hb); clear hb ho5))
 go_loopg [4, 17] k (fun kq v4 v17 w' => ∃ (x4_1 : List (S62)) (x5_1 : List Int) (x17_1 : Int), v17 = .int .i64 x17_1 ∧ Aside0 (zav kq x4_1 x5_1 l0 (l0.length : Int) x17_1 = some (r1, r2)) ∧ Aside0 (kq ≤ k) ∧ Aside0 (Kd.R k62 62 w' w.heap.size (fun _ => True) v4 x4_1) ∧ Aside0 (Kd.R (Kd.int .i64) 3 w' w.heap.size (fun _ => True) v105 x5_1) ∧ Aside0 (Below w.heap.size w w'))
 case atStart => exact ⟨(y101), (y104), (0), zq5, H', ⟨zlr _⟩, ⟨zq2 HO103⟩, ⟨zq2 HO106⟩, ⟨zq1⟩⟩
 clear H'
 obtain ⟨x4_1, x5_1, x17_1, rfl, HA, HK1, HO_4, HO_5, HB⟩ := hrel
 cases gk with
 | zero => exact absurd HA.out (by simp [zav])
 | succ k1 =>
 have H := HA.out
 clear HA
 simp only [zav] at H
 revert H
 refine zit (fun c6 H => ?_) fun c6 H => ?_
 rotate_left
 · simp only [Option.some.injEq, Prod.mk.injEq] at H
   obtain ⟨rfl, rfl⟩ := H
   go_wp2
   go_ret2
   exact ⟨_, _, zq4, zq2 HO_4, zq2 HO_5, zq1⟩
 revert H
 refine zin fun c7 H => ?_
 revert H
 refine zin fun c8 H => ?_
 by_cases c9 : ((zaa l0 x17_1).f0).toList = ([115, 101, 116] : List UInt8)
 · rw [if_pos c9] at H
   obtain ⟨c9b0, c9b1⟩ := zbe c9
   clear c9
   replace H := zob H
   obtain ⟨⟨t110, t113⟩, A100, H⟩ := H
   have A10 := zA A100
   clear A100
   revert H
   refine zin fun c11 H => ?_
   revert H
   refine zin fun c12 H => ?_
   obtain ⟨y114, hy114⟩ : ∃ y_ : List Int, y_ = (x5_1.set (((zaa l0 x17_1).f1) : Int).toNat t113) := ⟨_, rfl⟩
   rw [← hy114] at H; try with_reducible replace H := zbs H
   have Ny114 := zA hy114
   clear hy114
   have H' := zA H
   clear H
   obtain ⟨p107, q107⟩ := zpq x17_1 l0.length
   obtain ⟨ad107, e107, hx107_0, hx107_1, hx107_2, hx107_3, hx107_4⟩ := zmn HR0.out x17_1 (zoe p107) (zoe q107)
   cases e107
   replace hx107_0 := zkep HB.out hx107_0
   replace hx107_1 := zkep HB.out hx107_1
   replace hx107_2 := zkep HB.out hx107_2
   replace hx107_3 := zkep HB.out hx107_3
   replace hx107_4 := zkep HB.out hx107_4
   go_wp2_with (first | ((with_reducible refine zgd 7 ?_); refine zbx #[.string (⟨#[]⟩ : ByteArray), .int .i64 0, .int .i64 0, .int .i64 0, .int .i64 0] 69 ?_; intro gb108 hg w14 hbox hb; have zs := zpair zq1 hb; replace HO_4 := zA (zRb (zq2 HO_4) hb); replace HO_5 := zA (zRb (zq2 HO_5) hb); replace HB := zA (zs.1); have BK108 := zA (hbox); have GW108 := zA (zge hg zs.2); have GE108 := GW108; clear zs hb hbox hg; obtain ⟨hcz15_0, hcz15_1, hcz15_2, hcz15_3, hcz15_4, hfz15_0, hfz15_1, hfz15_2, hfz15_3, hfz15_4⟩ := zd5 BK108) | ((with_reducible refine zgd 8 ?_); refine zbx #[.string (⟨#[]⟩ : ByteArray), .int .i64 0, .int .i64 0, .int .i64 0] 62 ?_; intro gb109 hg w16 hbox hb; have zs := zpair (zq3 GE108) hb; replace HO_4 := zA (zRb (Kd.R_elderB (zq16 HO_4 BK108) gb109 (Nat.le_of_eq hg.symm)) hb); replace HO_5 := zA (zRb (zq16 HO_5 BK108) hb); replace HB := zA (zs.1); have BK109 := zA (hbox); have GW109 := zA (zge hg zs.2); have GE109 := GW109; have NB108_109 := zA ((zq14 BK108 : gb108 ≠ gb109)); have NB109_108 := zA ((zq15 BK108 : gb109 ≠ gb108)); replace BK108 := zA (zah (g := gb108) (o := .cells #[.string ((zaa l0 x17_1).f0), .int .i64 ((zaa l0 x17_1).f1), .int .i64 ((zaa l0 x17_1).f2), .int .i64 ((zaa l0 x17_1).f3), .int .i64 ((zaa l0 x17_1).f4)] 69 (0, 0)) (zq20 BK108) hb); clear zs hb hbox hg; have hnb17 := NB109_108.out; have hnc17 := NB108_109.out; obtain ⟨hcz18_0, hcz18_1, hcz18_2, hcz18_3, hfz18_0, hfz18_1, hfz18_2, hfz18_3⟩ := zd4 BK109) | ((with_reducible refine zgs 62 8 ?_); refine zse ((((w16.setCell ⟨gb109, 0, none⟩ (.string (⟨#[99, 111, 110, 115, 116]⟩ : ByteArray))).setCell ⟨gb109, 1, none⟩ (.int .i64 0)).setCell ⟨gb109, 2, none⟩ (.int .i64 0)).setCell ⟨gb109, 3, none⟩ (.int .i64 ((zaa l0 x17_1).f4))) ?_; intro w19 hw; have n0_ : Aside0 (Kd.R k62 62 w19 w.heap.size (fun k_ => k_ ≠ gb109) u4 x4_1) := ⟨(by rw [hw]; exact (zq13 HO_4))⟩; have n1_ : Aside0 (Kd.R (Kd.int .i64) 3 w19 w.heap.size (fun _ => True) v105 x5_1) := ⟨(by rw [hw]; exact (zq17 HO_5 BK109))⟩; have n2_ : Aside0 (w19.heap[gb108]? = some (.cells #[.string ((zaa l0 x17_1).f0), .int .i64 ((zaa l0 x17_1).f1), .int .i64 ((zaa l0 x17_1).f2), .int .i64 ((zaa l0 x17_1).f3), .int .i64 ((zaa l0 x17_1).f4)] 69 (0, 0))) := ⟨(by rw [hw]; exact (zq12 NB108_109 BK108))⟩; have n3_ : Aside0 (w19.heap[gb109]? = some (.cells #[.string (⟨#[99, 111, 110, 115, 116]⟩ : ByteArray), .int .i64 0, .int .i64 0, .int .i64 ((zaa l0 x17_1).f4)] 62 (0, 0))) := ⟨(by rw [hw]; exact (zq9 BK109))⟩; have n4_ : Aside0 (Below w.heap.size w w19) := ⟨(by rw [hw]; exact (zq11 GE108 GE109))⟩; clear hw; clear HO_4 HO_5; clear BK108 BK109 HB; have HO_4 := n0_; have HO_5 := n1_; have BK108 := n2_; have BK109 := n3_; have HB := n4_; clear n0_ n1_ n2_ n3_ n4_; obtain ⟨hcz20_0, hcz20_1, hcz20_2, hcz20_3, hcz20_4⟩ := zc5 w19 (.string ((zaa l0 x17_1).f0)) (.int .i64 ((zaa l0 x17_1).f1)) (.int .i64 ((zaa l0 x17_1).f2)) (.int .i64 ((zaa l0 x17_1).f3)) (.int .i64 ((zaa l0 x17_1).f4)) BK108.out; obtain ⟨hfz20_0, hfz20_1, hfz20_2, hfz20_3, hfz20_4⟩ := zf5 BK108.out; obtain ⟨hcz21_0, hcz21_1, hcz21_2, hcz21_3⟩ := zc4 w19 (.string (⟨#[99, 111, 110, 115, 116]⟩ : ByteArray)) (.int .i64 0) (.int .i64 0) (.int .i64 ((zaa l0 x17_1).f4)) BK109.out; obtain ⟨hfz21_0, hfz21_1, hfz21_2, hfz21_3⟩ := zf4 BK109.out; obtain ⟨Ao22, co22, eo22⟩ := Kd.R_slice HO_4.out; subst eo22) | ((with_reducible refine zgc 188 ?_); refine zca 49 Tryz.func188 #[.slice Ao22 x4_1.length co22, .agg #[.string (⟨#[99, 111, 110, 115, 116]⟩ : ByteArray), .int .i64 0, .int .i64 0, .int .i64 ((zaa l0 x17_1).f4)]] (zec (fun k_ => some k_ = (.slice Ao22 x4_1.length co22 : Value).ownBlock) (.slice Ao22 x4_1.length co22) x4_1 (⟨#[99, 111, 110, 115, 116]⟩ : ByteArray) 0 0 ((zaa l0 x17_1).f4) t110 t113 w _ (zq11 GE108 GE109) (by exact Kd.R_tight rfl HO_4.out) A10.out) ?_; rintro e w23 ⟨v111, rfl, ho0, hb, hkp⟩; refine ⟨_, rfl, ?_⟩; replace HO_5 := zA (Kd.R_mono (ok' := fun k_ => True) (Kd.R_keptB ((Kd.R_apart' HO_5.out (Kd.R_typed HO_4.out) (by decide))) hkp (fun k_ hk_ hs_ => (hk_.2) hs_)) (fun k_ hk_ => trivial)); replace BK108 := zA (zg1 (zq8 BK108) hkp (fun hs_ => (fun e_ => (Kd.R_ne HO_4.out BK108.out (by decide)) e_) hs_)); have HO112 := zA (Kd.R_mono (ok' := fun k_ => k_ ≠ gb109) ho0 (fun k_ hk_ => Or.elim hk_ (fun hs_ => fun e_ => (Kd.R_away HO_4.out (fun _ hk => hk)) zq61) (fun hn_ => (Kd.freshB (g := gb109) (o := .cells #[.string (⟨#[99, 111, 110, 115, 116]⟩ : ByteArray), .int .i64 0, .int .i64 0, .int .i64 ((zaa l0 x17_1).f4)] 62 (0, 0)) (zq8 BK109) k_ hn_)))); replace BK109 := zA (zg1 (zq8 BK109) hkp (fun hs_ => (fun e_ => (Kd.R_away HO_4.out (fun _ hk => hk)) e_) hs_)); replace HB := zA (hb); clear HO_4; (try clear hb); (try clear hkp); (try clear ho0); obtain ⟨hcz24_0, hcz24_1, hcz24_2, hcz24_3, hcz24_4⟩ := zc5 w23 (.string ((zaa l0 x17_1).f0)) (.int .i64 ((zaa l0 x17_1).f1)) (.int .i64 ((zaa l0 x17_1).f2)) (.int .i64 ((zaa l0 x17_1).f3)) (.int .i64 ((zaa l0 x17_1).f4)) BK108.out; obtain ⟨hfz24_0, hfz24_1, hfz24_2, hfz24_3, hfz24_4⟩ := zf5 BK108.out; have p13 : 0 ≤ (((zaa l0 x17_1).f1) : Int) := zde zq21; have q13 : (((zaa l0 x17_1).f1) : Int) < ((x5_1.length : Int) : Int) := zde zq21; obtain ⟨go13, co13, eo13, gb13, gl13, cl13, HG13⟩ := Kd.R_form HO_5.out (by omega); (first | cases eo13 | (injection eo13 with ea_ en_ ec_; (first | subst ea_ | (injection ea_ with ea_; subst ea_)); subst ec_; clear en_)); have GB13 := zA gb13; have GG13 := zA HG13; clear gb13 gl13 HG13; obtain ⟨hx13_0, hf13_0⟩ := Kd.R_celln 0 HO_5.out (((zaa l0 x17_1).f1) : Int) p13 q13; replace p13 := eq_true p13; replace q13 := eq_true q13; obtain ⟨hy25_, hz25_⟩ := Kd.R_celln 0 HO_5.out (((zaa l0 x17_1).f1) : Int) (zde zq21) (zde zq21); have HP25 := Kd.R_putg HO_5.out (((zaa l0 x17_1).f1) : Int) t113) | ((with_reducible refine zgs 3 142 ?_); refine zse (w23.setCell ⟨go13, (((zaa l0 x17_1).f1) : Int).toNat, none⟩ (.int .i64 t113)) ?_; intro w26 hw; have hg : w23.grownBy w26 (some go13) := (by rw [hw]; exact HP25.2); have hp_ : Kd.R (Kd.int .i64) 3 w26 w.heap.size (fun _ => True) (.slice (some ⟨go13, 0, none⟩) x5_1.length co13) y114 := (by rw [hw, Ny114.out]; exact HP25.1); clear HP25; replace BK108 := zA (zew (g := gb108) (o := .cells #[.string ((zaa l0 x17_1).f0), .int .i64 ((zaa l0 x17_1).f1), .int .i64 ((zaa l0 x17_1).f2), .int .i64 ((zaa l0 x17_1).f3), .int .i64 ((zaa l0 x17_1).f4)] 69 (0, 0)) (zq8 BK108) hg (Kd.R_ne HO_5.out BK108.out (by decide))); replace BK109 := zA (zew (g := gb109) (o := .cells #[.string (⟨#[99, 111, 110, 115, 116]⟩ : ByteArray), .int .i64 0, .int .i64 0, .int .i64 ((zaa l0 x17_1).f4)] 62 (0, 0)) (zq8 BK109) hg (Kd.R_ne HO_5.out BK109.out (by decide))); replace HO112 := zA (Kd.R_over' (v := (.slice (some ⟨go13, 0, none⟩) x5_1.length co13)) (zq2 HO112) (Kd.R_typed HO_5.out) (by decide) hg); replace HO_5 := zA (hp_); replace HB := zA ((zq39 GB13 : Below w.heap.size w w26)); clear hg hw hp_))
   go_roundg k1
   case measure => have := HK1.out; omega
   case rel => exact ⟨(t110), (y114), (wrap64 (x17_1 + 1)), zq5, H', ⟨zq41 HK1⟩, ⟨zq24 HO112⟩, ⟨zq2 HO_5⟩, ⟨zq11 GE108 GE109⟩⟩
 rw [if_neg c9] at H
 obtain ⟨c9b0, c9b1⟩ := zbq c9
 by_cases c27 : ((zaa l0 x17_1).f0).toList = ([109, 111, 118] : List UInt8)
 · rw [if_pos c27] at H
   obtain ⟨c27b0, c27b1⟩ := zbe c27
   clear c27
   revert H
   refine zin fun c28 H => ?_
   revert H
   refine zin fun c29 H => ?_
   revert H
   refine zin fun c30 H => ?_
   revert H
   refine zin fun c31 H => ?_
   obtain ⟨y116, hy116⟩ : ∃ y_ : List Int, y_ = (x5_1.set (((zaa l0 x17_1).f1) : Int).toNat (rd x5_1 ((zaa l0 x17_1).f2))) := ⟨_, rfl⟩
   rw [← hy116] at H; try with_reducible replace H := zbs H
   have Ny116 := zA hy116
   clear hy116
   have H' := zA H
   clear H
   obtain ⟨p107, q107⟩ := zpq x17_1 l0.length
   obtain ⟨ad107, e107, hx107_0, hx107_1, hx107_2, hx107_3, hx107_4⟩ := zmn HR0.out x17_1 (zoe p107) (zoe q107)
   cases e107
   replace hx107_0 := zkep HB.out hx107_0
   replace hx107_1 := zkep HB.out hx107_1
   replace hx107_2 := zkep HB.out hx107_2
   replace hx107_3 := zkep HB.out hx107_3
   replace hx107_4 := zkep HB.out hx107_4
   go_wp2_with (first | ((with_reducible refine zgd 7 ?_); refine zbx #[.string (⟨#[]⟩ : ByteArray), .int .i64 0, .int .i64 0, .int .i64 0, .int .i64 0] 69 ?_; intro gb108 hg w33 hbox hb; have zs := zpair zq1 hb; replace HO_4 := zA (zRb (zq2 HO_4) hb); replace HO_5 := zA (zRb (zq2 HO_5) hb); replace HB := zA (zs.1); have BK108 := zA (hbox); have GW108 := zA (zge hg zs.2); have GE108 := GW108; clear zs hb hbox hg; obtain ⟨hcz34_0, hcz34_1, hcz34_2, hcz34_3, hcz34_4, hfz34_0, hfz34_1, hfz34_2, hfz34_3, hfz34_4⟩ := zd5 BK108) | ((with_reducible refine zgd 8 ?_); refine zbx #[.string (⟨#[]⟩ : ByteArray), .int .i64 0, .int .i64 0, .int .i64 0] 62 ?_; intro gb109 hg w35 hbox hb; have zs := zpair (zq3 GE108) hb; replace HO_4 := zA (zRb (Kd.R_elderB (zq16 HO_4 BK108) gb109 (Nat.le_of_eq hg.symm)) hb); replace HO_5 := zA (zRb (zq16 HO_5 BK108) hb); replace HB := zA (zs.1); have BK109 := zA (hbox); have GW109 := zA (zge hg zs.2); have GE109 := GW109; have NB108_109 := zA ((zq14 BK108 : gb108 ≠ gb109)); have NB109_108 := zA ((zq15 BK108 : gb109 ≠ gb108)); replace BK108 := zA (zah (g := gb108) (o := .cells #[.string ((zaa l0 x17_1).f0), .int .i64 ((zaa l0 x17_1).f1), .int .i64 ((zaa l0 x17_1).f2), .int .i64 ((zaa l0 x17_1).f3), .int .i64 ((zaa l0 x17_1).f4)] 69 (0, 0)) (zq20 BK108) hb); clear zs hb hbox hg; have hnb36 := NB109_108.out; have hnc36 := NB108_109.out; obtain ⟨hcz37_0, hcz37_1, hcz37_2, hcz37_3, hfz37_0, hfz37_1, hfz37_2, hfz37_3⟩ := zd4 BK109) | ((with_reducible refine zgs 62 8 ?_); refine zse ((((w35.setCell ⟨gb109, 0, none⟩ (.string (⟨#[99, 111, 110, 115, 116]⟩ : ByteArray))).setCell ⟨gb109, 1, none⟩ (.int .i64 0)).setCell ⟨gb109, 2, none⟩ (.int .i64 0)).setCell ⟨gb109, 3, none⟩ (.int .i64 ((zaa l0 x17_1).f4))) ?_; intro w38 hw; have n0_ : Aside0 (Kd.R k62 62 w38 w.heap.size (fun k_ => k_ ≠ gb109) u4 x4_1) := ⟨(by rw [hw]; exact (zq13 HO_4))⟩; have n1_ : Aside0 (Kd.R (Kd.int .i64) 3 w38 w.heap.size (fun _ => True) v105 x5_1) := ⟨(by rw [hw]; exact (zq17 HO_5 BK109))⟩; have n2_ : Aside0 (w38.heap[gb108]? = some (.cells #[.string ((zaa l0 x17_1).f0), .int .i64 ((zaa l0 x17_1).f1), .int .i64 ((zaa l0 x17_1).f2), .int .i64 ((zaa l0 x17_1).f3), .int .i64 ((zaa l0 x17_1).f4)] 69 (0, 0))) := ⟨(by rw [hw]; exact (zq12 NB108_109 BK108))⟩; have n3_ : Aside0 (w38.heap[gb109]? = some (.cells #[.string (⟨#[99, 111, 110, 115, 116]⟩ : ByteArray), .int .i64 0, .int .i64 0, .int .i64 ((zaa l0 x17_1).f4)] 62 (0, 0))) := ⟨(by rw [hw]; exact (zq9 BK109))⟩; have n4_ : Aside0 (Below w.heap.size w w38) := ⟨(by rw [hw]; exact (zq11 GE108 GE109))⟩; clear hw; clear HO_4 HO_5; clear BK108 BK109 HB; have HO_4 := n0_; have HO_5 := n1_; have BK108 := n2_; have BK109 := n3_; have HB := n4_; clear n0_ n1_ n2_ n3_ n4_; obtain ⟨hcz39_0, hcz39_1, hcz39_2, hcz39_3, hcz39_4⟩ := zc5 w38 (.string ((zaa l0 x17_1).f0)) (.int .i64 ((zaa l0 x17_1).f1)) (.int .i64 ((zaa l0 x17_1).f2)) (.int .i64 ((zaa l0 x17_1).f3)) (.int .i64 ((zaa l0 x17_1).f4)) BK108.out; obtain ⟨hfz39_0, hfz39_1, hfz39_2, hfz39_3, hfz39_4⟩ := zf5 BK108.out; obtain ⟨Ao40, co40, eo40⟩ := Kd.R_slice HO_5.out; subst eo40; have p115 : 0 ≤ (((zaa l0 x17_1).f2) : Int) := zde zq21; have q115 : ((zaa l0 x17_1).f2) < (x5_1.length : Int) := zde zq21; obtain ⟨ad115, e115, hx115_0⟩ := Kd.at_int (zRr HO_5.out).2.2 ((zaa l0 x17_1).f2) p115 q115; cases e115; replace p115 := eq_true p115; replace q115 := eq_true q115; have p32 : 0 ≤ (((zaa l0 x17_1).f1) : Int) := zde zq21; have q32 : (((zaa l0 x17_1).f1) : Int) < ((x5_1.length : Int) : Int) := zde zq21; obtain ⟨go32, co32, eo32, gb32, gl32, cl32, HG32⟩ := Kd.R_form HO_5.out (by omega); (first | cases eo32 | (injection eo32 with ea_ en_ ec_; (first | subst ea_ | (injection ea_ with ea_; subst ea_)); subst ec_; clear en_)); have GB32 := zA gb32; have GG32 := zA HG32; clear gb32 gl32 HG32; (first | simp only [zcg] at hx115_0 | skip); obtain ⟨hx32_0, hf32_0⟩ := Kd.R_celln 0 HO_5.out (((zaa l0 x17_1).f1) : Int) p32 q32; replace p32 := eq_true p32; replace q32 := eq_true q32; obtain ⟨hy41_, hz41_⟩ := Kd.R_celln 0 HO_5.out (((zaa l0 x17_1).f1) : Int) (zde zq21) (zde zq21); have HP41 := Kd.R_putg HO_5.out (((zaa l0 x17_1).f1) : Int) (rd x5_1 ((zaa l0 x17_1).f2))) | ((with_reducible refine zgs 3 142 ?_); refine zse (w38.setCell ⟨go32, (((zaa l0 x17_1).f1) : Int).toNat, none⟩ (.int .i64 (rd x5_1 ((zaa l0 x17_1).f2)))) ?_; intro w42 hw; have hg : w38.grownBy w42 (some go32) := (by rw [hw]; exact HP41.2); have hp_ : Kd.R (Kd.int .i64) 3 w42 w.heap.size (fun _ => True) (.slice (some ⟨go32, 0, none⟩) x5_1.length co40) y116 := (by rw [hw, Ny116.out]; exact HP41.1); clear HP41; replace HO_4 := zA (Kd.R_over' (v := (.slice (some ⟨go32, 0, none⟩) x5_1.length co40)) (zq2 HO_4) (Kd.R_typed HO_5.out) (by decide) hg); replace BK108 := zA (zew (g := gb108) (o := .cells #[.string ((zaa l0 x17_1).f0), .int .i64 ((zaa l0 x17_1).f1), .int .i64 ((zaa l0 x17_1).f2), .int .i64 ((zaa l0 x17_1).f3), .int .i64 ((zaa l0 x17_1).f4)] 69 (0, 0)) (zq8 BK108) hg (Kd.R_ne HO_5.out BK108.out (by decide))); replace BK109 := zA (zew (g := gb109) (o := .cells #[.string (⟨#[99, 111, 110, 115, 116]⟩ : ByteArray), .int .i64 0, .int .i64 0, .int .i64 ((zaa l0 x17_1).f4)] 62 (0, 0)) (zq8 BK109) hg (Kd.R_ne HO_5.out BK109.out (by decide))); replace HO_5 := zA (hp_); replace HB := zA ((zq39 GB32 : Below w.heap.size w w42)); clear hg hw hp_))
   go_roundg k1
   case measure => have := HK1.out; omega
   case rel => exact ⟨(x4_1), (y116), (wrap64 (x17_1 + 1)), zq5, H', ⟨zq41 HK1⟩, ⟨zq24 HO_4⟩, ⟨zq2 HO_5⟩, ⟨zq11 GE108 GE109⟩⟩
 rw [if_neg c27] at H
 obtain ⟨c27b0, c27b1⟩ := zbq c27
 have HC43 := zA H
 clear H
 obtain ⟨p107, q107⟩ := zpq x17_1 l0.length
 obtain ⟨ad107, e107, hx107_0, hx107_1, hx107_2, hx107_3, hx107_4⟩ := zmn HR0.out x17_1 (zoe p107) (zoe q107)
 cases e107
 replace hx107_0 := zkep HB.out hx107_0
 replace hx107_1 := zkep HB.out hx107_1
 replace hx107_2 := zkep HB.out hx107_2
 replace hx107_3 := zkep HB.out hx107_3
 replace hx107_4 := zkep HB.out hx107_4
 go_upto_if 59 with (first | ((with_reducible refine zgd 7 ?_); refine zbx #[.string (⟨#[]⟩ : ByteArray), .int .i64 0, .int .i64 0, .int .i64 0, .int .i64 0] 69 ?_; intro gb108 hg w44 hbox hb; have zs := zpair zq1 hb; replace HO_4 := zA (zRb (zq2 HO_4) hb); replace HO_5 := zA (zRb (zq2 HO_5) hb); replace HB := zA (zs.1); have BK108 := zA (hbox); have GW108 := zA (zge hg zs.2); have GE108 := GW108; clear zs hb hbox hg; obtain ⟨hcz45_0, hcz45_1, hcz45_2, hcz45_3, hcz45_4, hfz45_0, hfz45_1, hfz45_2, hfz45_3, hfz45_4⟩ := zd5 BK108) | ((with_reducible refine zgd 8 ?_); refine zbx #[.string (⟨#[]⟩ : ByteArray), .int .i64 0, .int .i64 0, .int .i64 0] 62 ?_; intro gb109 hg w46 hbox hb; have zs := zpair (zq3 GE108) hb; replace HO_4 := zA (zRb (Kd.R_elderB (zq16 HO_4 BK108) gb109 (Nat.le_of_eq hg.symm)) hb); replace HO_5 := zA (zRb (zq16 HO_5 BK108) hb); replace HB := zA (zs.1); have BK109 := zA (hbox); have GW109 := zA (zge hg zs.2); have GE109 := GW109; have NB108_109 := zA ((zq14 BK108 : gb108 ≠ gb109)); have NB109_108 := zA ((zq15 BK108 : gb109 ≠ gb108)); replace BK108 := zA (zah (g := gb108) (o := .cells #[.string ((zaa l0 x17_1).f0), .int .i64 ((zaa l0 x17_1).f1), .int .i64 ((zaa l0 x17_1).f2), .int .i64 ((zaa l0 x17_1).f3), .int .i64 ((zaa l0 x17_1).f4)] 69 (0, 0)) (zq20 BK108) hb); clear zs hb hbox hg; have hnb47 := NB109_108.out; have hnc47 := NB108_109.out; obtain ⟨hcz48_0, hcz48_1, hcz48_2, hcz48_3, hfz48_0, hfz48_1, hfz48_2, hfz48_3⟩ := zd4 BK109; obtain ⟨hcz49_0, hcz49_1, hcz49_2, hcz49_3, hcz49_4, hfz49_0, hfz49_1, hfz49_2, hfz49_3, hfz49_4⟩ := zd5 BK108))
 (try simp only [Act.put, List.setIfInBounds_toArray, List.set_cons_zero, List.set_cons_succ])
 go_cut [59] (fun v59 wc => ∃ (kq : Nat) (x59_42 : Bool), v59 = .bool x59_42 ∧ Aside0 (za8 kq x4_1 x5_1 l0 (l0.length : Int) x17_1 ((zaa l0 x17_1).f0) x59_42 ((zaa l0 x17_1).f0) ((zaa l0 x17_1).f1) ((zaa l0 x17_1).f2) ((zaa l0 x17_1).f3) ((zaa l0 x17_1).f4) (⟨#[99, 111, 110, 115, 116]⟩ : ByteArray) 0 0 ((zaa l0 x17_1).f4) = some (r1, r2)) ∧ Aside0 (kq ≤ k1) ∧ Aside0 (Kd.R k62 62 wc w.heap.size (fun k_ => k_ ≠ gb109) u4 x4_1) ∧ Aside0 (Kd.R (Kd.int .i64) 3 wc w.heap.size (fun _ => True) v105 x5_1) ∧ Aside0 (wc.heap[gb108]? = some (.cells #[.string ((zaa l0 x17_1).f0), .int .i64 ((zaa l0 x17_1).f1), .int .i64 ((zaa l0 x17_1).f2), .int .i64 ((zaa l0 x17_1).f3), .int .i64 ((zaa l0 x17_1).f4)] 69 (0, 0))) ∧ Aside0 (wc.heap[gb109]? = some (.cells #[.string (⟨#[99, 111, 110, 115, 116]⟩ : ByteArray), .int .i64 0, .int .i64 0, .int .i64 ((zaa l0 x17_1).f4)] 62 (0, 0))) ∧ Aside0 (Below w.heap.size w wc))
 case first =>
   have H := HC43.out
   clear HC43
   by_cases c50 : ((zaa l0 x17_1).f0).toList = ([97, 100, 100, 105] : List UInt8)
   · rw [if_pos c50] at H
     obtain ⟨c50b0, c50b1⟩ := zbe c50
     clear c50
     (first | rw [c50b0] | (simp only [zgy, zjw]; rw [c50b0]) | skip)
     have H' := zA H
     clear H
     go_wp2
     go_meet
     case rel => exact ⟨_, ((((zaa l0 x17_1).f0).toList == ([97, 100, 100, 105] : List UInt8))), zq5, H', ⟨zq40 HK1⟩, ⟨zq13 HO_4⟩, ⟨zq17 HO_5 BK109⟩, ⟨zq12 NB108_109 BK108⟩, ⟨zq9 BK109⟩, ⟨zq11 GE108 GE109⟩⟩
   rw [if_neg c50] at H
   obtain ⟨c50b0, c50b1⟩ := zbq c50
   (first | rw [c50b0] | (simp only [zgy, zjw]; rw [c50b0]) | skip)
   by_cases c51 : ((zaa l0 x17_1).f0).toList = ([97, 110, 100, 105] : List UInt8)
   · rw [if_pos c51] at H
     obtain ⟨c51b0, c51b1⟩ := zbe c51
     clear c51
     have H' := zA H
     clear H
     go_wp2
     go_meet
     case rel => exact ⟨_, ((((zaa l0 x17_1).f0).toList == ([97, 110, 100, 105] : List UInt8))), zq5, H', ⟨zq40 HK1⟩, ⟨zq13 HO_4⟩, ⟨zq17 HO_5 BK109⟩, ⟨zq12 NB108_109 BK108⟩, ⟨zq9 BK109⟩, ⟨zq11 GE108 GE109⟩⟩
   rw [if_neg c51] at H
   obtain ⟨c51b0, c51b1⟩ := zbq c51
   by_cases c52 : ((zaa l0 x17_1).f0).toList = ([120, 111, 114, 105] : List UInt8)
   · rw [if_pos c52] at H
     obtain ⟨c52b0, c52b1⟩ := zbe c52
     clear c52
     have H' := zA H
     clear H
     go_wp2
     go_meet
     case rel => exact ⟨_, ((((zaa l0 x17_1).f0).toList == ([120, 111, 114, 105] : List UInt8))), zq5, H', ⟨zq40 HK1⟩, ⟨zq13 HO_4⟩, ⟨zq17 HO_5 BK109⟩, ⟨zq12 NB108_109 BK108⟩, ⟨zq9 BK109⟩, ⟨zq11 GE108 GE109⟩⟩
   rw [if_neg c52] at H
   obtain ⟨c52b0, c52b1⟩ := zbq c52
   by_cases c53 : ((zaa l0 x17_1).f0).toList = ([115, 104, 108, 105] : List UInt8)
   rotate_left
   · rw [if_neg c53] at H
     obtain ⟨c53b0, c53b1⟩ := zbq c53
     have H' := zA H
     clear H
     go_wp2
     go_meet
     case rel => exact ⟨_, ((((zaa l0 x17_1).f0).toList == ([115, 104, 114, 105] : List UInt8))), zq5, H', ⟨zq40 HK1⟩, ⟨zq13 HO_4⟩, ⟨zq17 HO_5 BK109⟩, ⟨zq12 NB108_109 BK108⟩, ⟨zq9 BK109⟩, ⟨zq11 GE108 GE109⟩⟩
   rw [if_pos c53] at H
   obtain ⟨c53b0, c53b1⟩ := zbe c53
   clear c53
   have H' := zA H
   clear H
   go_wp2
   go_meet
   case rel => exact ⟨_, ((((zaa l0 x17_1).f0).toList == ([115, 104, 108, 105] : List UInt8))), zq5, H', ⟨zq40 HK1⟩, ⟨zq13 HO_4⟩, ⟨zq17 HO_5 BK109⟩, ⟨zq12 NB108_109 BK108⟩, ⟨zq9 BK109⟩, ⟨zq11 GE108 GE109⟩⟩
 clear HC43
 obtain ⟨kq, x59_42, rfl, HA, HJ42, HO_4, HO_5, BK108, BK109, HB⟩ := hcut
 cases kq with
 | zero => exact absurd HA.out (by simp [za8])
 | succ kj42 =>
 have H := HA.out
 clear HA
 simp only [za8] at H
 by_cases c54 : x59_42 = true
 · subst c54
   replace H := zih H
   replace H := zob H
   obtain ⟨⟨t117, t120⟩, A550, H⟩ := H
   have A55 := zA A550
   clear A550
   obtain ⟨ji56, hji56⟩ : ∃ j_ : Int, (wrap64 ((((zaa l0 x17_1).f0).size : Int) - 1)) = j_ := ⟨_, rfl⟩
   replace H : (if 0 ≤ (ji56) then (if (ji56) ≤ (((zaa l0 x17_1).f0).size : Int) then (if 0 ≤ ((zaa l0 x17_1).f2) then (if ((zaa l0 x17_1).f2) < (x5_1.length : Int) then ((zdq t117 (((zaa l0 x17_1).f0).extract 0 ((ji56) : Int).toNat) (rd x5_1 ((zaa l0 x17_1).f2)) t120 0).bind fun bt122 => (if 0 ≤ ((zaa l0 x17_1).f1) then (if ((zaa l0 x17_1).f1) < (x5_1.length : Int) then (zav kj42 bt122.1 (x5_1.set (((zaa l0 x17_1).f1) : Int).toNat bt122.2) l0 (l0.length : Int) (wrap64 (x17_1 + 1))) else (none)) else (none))) else (none)) else (none)) else (none)) else (none)) = some (r1, r2) := by first | (rw [hji56] at H; exact H) | (simp only [hji56] at H ⊢; exact H)
   (try rw [hji56] at A55)
   have hji56w : (IntKind.i64.wrap ((((zaa l0 x17_1).f0).size : Int) - 1)) = ji56 := (zgy _).trans hji56
   by_cases c57 : 0 ≤ (ji56)
   rotate_left
   · rw [if_neg c57] at H
     exact absurd H (by simp)
   rw [if_pos c57] at H
   have c57b0 := eq_true c57
   have c57b1 := zdt c57
   clear c57
   by_cases c58 : (ji56) ≤ (((zaa l0 x17_1).f0).size : Int)
   rotate_left
   · rw [if_neg c58] at H
     exact absurd H (by simp)
   rw [if_pos c58] at H
   have c58b0 := eq_true c58
   have c58b1 := zdt c58
   clear c58
   revert H
   refine zin fun c59 H => ?_
   revert H
   refine zin fun c60 H => ?_
   replace H := zob H
   obtain ⟨⟨t122, t125⟩, A610, H⟩ := H
   have A61 := zA A610
   clear A610
   revert H
   refine zin fun c62 H => ?_
   revert H
   refine zin fun c63 H => ?_
   obtain ⟨y126, hy126⟩ : ∃ y_ : List Int, y_ = (x5_1.set (((zaa l0 x17_1).f1) : Int).toNat t125) := ⟨_, rfl⟩
   rw [← hy126] at H; try with_reducible replace H := zbs H
   have Ny126 := zA hy126
   clear hy126
   have H' := zA H
   clear H
   have hnb65 := NB109_108.out
   have hnc65 := NB108_109.out
   obtain ⟨hcz66_0, hcz66_1, hcz66_2, hcz66_3⟩ := zc4 wc (.string (⟨#[99, 111, 110, 115, 116]⟩ : ByteArray)) (.int .i64 0) (.int .i64 0) (.int .i64 ((zaa l0 x17_1).f4)) BK109.out
   obtain ⟨hfz66_0, hfz66_1, hfz66_2, hfz66_3⟩ := zf4 BK109.out
   obtain ⟨Ao67, co67, eo67⟩ := Kd.R_slice HO_4.out
   subst eo67
   try go_wp2_with (first | ((with_reducible refine zgc 188 ?_); refine zca 68 Tryz.func188 #[.slice Ao67 x4_1.length co67, .agg #[.string (⟨#[99, 111, 110, 115, 116]⟩ : ByteArray), .int .i64 0, .int .i64 0, .int .i64 ((zaa l0 x17_1).f4)]] (zec (fun k_ => some k_ = (.slice Ao67 x4_1.length co67 : Value).ownBlock) (.slice Ao67 x4_1.length co67) x4_1 (⟨#[99, 111, 110, 115, 116]⟩ : ByteArray) 0 0 ((zaa l0 x17_1).f4) t117 t120 w _ (zq11 GE108 GE109) (by exact Kd.R_tight rfl HO_4.out) A55.out) ?_; rintro e w68 ⟨v118, rfl, ho0, hb, hkp⟩; refine ⟨_, rfl, ?_⟩; replace HO_5 := zA (Kd.R_mono (ok' := fun k_ => True) (Kd.R_keptB ((Kd.R_apart' HO_5.out (Kd.R_typed HO_4.out) (by decide))) hkp (fun k_ hk_ hs_ => (hk_.2) hs_)) (fun k_ hk_ => trivial)); replace BK108 := zA (zg1 (zq8 BK108) hkp (fun hs_ => (fun e_ => (Kd.R_ne HO_4.out BK108.out (by decide)) e_) hs_)); have HO119 := zA (Kd.R_mono (ok' := fun k_ => k_ ≠ gb109) ho0 (fun k_ hk_ => Or.elim hk_ (fun hs_ => fun e_ => (Kd.R_away HO_4.out (fun _ hk => hk)) zq61) (fun hn_ => (Kd.freshB (g := gb109) (o := .cells #[.string (⟨#[99, 111, 110, 115, 116]⟩ : ByteArray), .int .i64 0, .int .i64 0, .int .i64 ((zaa l0 x17_1).f4)] 62 (0, 0)) (zq8 BK109) k_ hn_)))); replace BK109 := zA (zg1 (zq8 BK109) hkp (fun hs_ => (fun e_ => (Kd.R_away HO_4.out (fun _ hk => hk)) e_) hs_)); replace HB := zA (hb); clear HO_4; (try clear hb); (try clear hkp); (try clear ho0)))
   replace HO_5 := zA (zRd HO_5.out)
   replace HO119 := zA (zRd HO119.out)
   replace BK108 := zA (zkd BK108.out)
   replace BK109 := zA (zkd BK109.out)
   replace HB := zA (zbd HB.out)
   obtain ⟨Ao70, co70, eo70⟩ := Kd.R_slice HO_5.out
   (first | subst eo70 | (injection eo70 with f1_ f2_ f3_; have f4_ := f1_.symm; have f5_ := f3_.symm; clear f1_ f2_ f3_; subst f4_; subst f5_))
   have p121 : 0 ≤ (((zaa l0 x17_1).f2) : Int) := zde zq21
   have q121 : ((zaa l0 x17_1).f2) < (x5_1.length : Int) := zde zq21
   obtain ⟨ad121, e121, hx121_0⟩ := Kd.at_int (zRr HO_5.out).2.2 ((zaa l0 x17_1).f2) p121 q121
   cases e121
   replace p121 := eq_true p121
   replace q121 := eq_true q121
   obtain ⟨Ao71, co71, eo71⟩ := Kd.R_slice HO119.out
   (first | subst eo71 | (injection eo71 with f1_ f2_ f3_; have f4_ := f1_.symm; have f5_ := f3_.symm; clear f1_ f2_ f3_; subst f4_; subst f5_))
   refine zra (n := 21) (S := fun w' => w'.cell? ⟨gb108, 0, none⟩ = some (.string ((zaa l0 x17_1).f0)) ∧ w'.cell? ⟨gb108, 1, none⟩ = some (.int .i64 ((zaa l0 x17_1).f1)) ∧ w'.cell? ⟨gb108, 2, none⟩ = some (.int .i64 ((zaa l0 x17_1).f2)) ∧ w'.cell? ⟨gb108, 3, none⟩ = some (.int .i64 ((zaa l0 x17_1).f3)) ∧ w'.cell? ⟨gb108, 4, none⟩ = some (.int .i64 ((zaa l0 x17_1).f4)) ∧ w'.cell? (ad121.add (((zaa l0 x17_1).f2)).toNat) = some (.int .i64 (rd x5_1 ((zaa l0 x17_1).f2)))) (ds := []) #[false, false, false, false, false, false, false, false, false, false, false, false, false, false, false, false, false, false, false, false, false] zq28 rfl rfl ⟨(zad BK108.out 0).trans rfl, (zad BK108.out 1).trans rfl, (zad BK108.out 2).trans rfl, (zad BK108.out 3).trans rfl, (zad BK108.out 4).trans rfl, hx121_0⟩ (fun hHeld => ?_); refine zk0 zn6 znp (fun HT_ HW_ => ?_)
   generalize w68.drew = w69 at HO_5 HO119 BK108 BK109 HB hx121_0 hHeld ⊢
   refine zpu 0 72 HT_ ?_
   refine zpu 1 73 HT_ ?_
   refine zpu 3 75 HT_ ?_
   refine zpu 8 80 HT_ ?_
   refine zpu 9 81 HT_ ?_
   refine zpu 13 85 HT_ ?_
   refine ztu 2 74 HT_ HW_ hHeld ?_
   refine ztu 4 76 HT_ HW_ hHeld ?_
   refine zpu 5 77 HT_ ?_
   refine zpu 6 78 HT_ ?_
   refine zpu 7 79 HT_ ?_
   refine ztu 10 82 HT_ HW_ hHeld ?_
   refine zpu 11 83 HT_ ?_
   refine ztu 12 84 HT_ HW_ hHeld ?_
   refine zpu 14 86 HT_ ?_
   refine one_ (i := 15) (N := some 87) #[true, true, true, true, true, true, true, true, true, true, true, true, true, true, true, true, false, false, false, false, false] rfl rfl (zoj HT_.out zq28) (by decide) (fun K hK => ?_)
   refine zsj Tryz.func188 zq28 rfl #[.slice Ao71 t117.length co71, .agg #[.string (((zaa l0 x17_1).f0).extract 0 ((ji56) : Int).toNat), .int .i64 (rd x5_1 ((zaa l0 x17_1).f2)), .int .i64 t120, .int .i64 0]] (by rfl) rfl rfl (by (try simp only [List.map_toArray, List.map_cons, List.map_nil]); first | done | (simp only [hji56]; rfl) | rfl | (simp only [List.length_drop, List.length_take]; rfl)) ?_
   with_reducible refine (zec (fun k_ => some k_ = (.slice Ao71 t117.length co71 : Value).ownBlock) (.slice Ao71 t117.length co71) t117 (((zaa l0 x17_1).f0).extract 0 ((ji56) : Int).toNat) (rd x5_1 ((zaa l0 x17_1).f2)) t120 0 t122 t125 w _ ?side1 ?side2 A61.out).mono ?_
   (case side1 => repeat (first | (with_reducible first | exact HB.out | apply zba | apply zbn | apply zbd | refine zaf ?_ GE108.out | refine zaf ?_ GE109.out) | exact HB.out))
   (case side2 => exact Kd.R_tight rfl HO119.out)
   rintro e w72 ⟨v123, rfl, ho0, hb, hkp⟩
   have HS5_ := zp6 (hHeld.2.2.2.2.2) hkp (zq31 HO_5 HO119)
   refine ⟨_, rfl, ?_⟩
   replace HO_5 := zA (Kd.R_mono (ok' := fun k_ => True) (Kd.R_keptB ((Kd.R_apart' HO_5.out (Kd.R_typed HO119.out) (by decide))) hkp (fun k_ hk_ hs_ => (hk_.2) hs_)) (fun k_ hk_ => trivial))
   replace BK108 := zA (zg1 (zq8 BK108) hkp (fun hs_ => (fun e_ => (Kd.R_ne HO119.out BK108.out (by decide)) e_) hs_))
   have HO124 := zA (Kd.R_mono (ok' := fun k_ => k_ ≠ gb109) ho0 (fun k_ hk_ => Or.elim hk_ (fun hs_ => fun e_ => (Kd.R_away HO119.out (fun _ hk => hk)) zq61) (fun hn_ => (Kd.freshB (g := gb109) (o := .cells #[.string (⟨#[99, 111, 110, 115, 116]⟩ : ByteArray), .int .i64 0, .int .i64 0, .int .i64 ((zaa l0 x17_1).f4)] 62 (0, 0)) (zq8 BK109) k_ hn_))))
   replace BK109 := zA (zg1 (zq8 BK109) hkp (fun hs_ => (fun e_ => (Kd.R_away HO119.out (fun _ hk => hk)) e_) hs_))
   replace HB := zA (hb)
   clear HO119
   (try clear hb)
   (try clear hkp)
   (try clear ho0)
   refine hK.out _ _ ⟨(zad BK108.out 0).trans rfl, (zad BK108.out 1).trans rfl, (zad BK108.out 2).trans rfl, (zad BK108.out 3).trans rfl, (zad BK108.out 4).trans rfl, HS5_⟩ (fun hHeld => ?_)
   clear hK K
   refine znm 87 ?_
   refine zpu 16 71 HT_ ?_
   refine zpu 17 88 HT_ ?_
   refine zpu 18 89 HT_ ?_
   refine zpu 19 4 HT_ ?_
   refine zpu 20 9 HT_ ?_
   refine zvd (zo1 HT_.out zq28) ?_
   obtain ⟨hcz73_0, hcz73_1, hcz73_2, hcz73_3, hcz73_4⟩ := zc5 w72 (.string ((zaa l0 x17_1).f0)) (.int .i64 ((zaa l0 x17_1).f1)) (.int .i64 ((zaa l0 x17_1).f2)) (.int .i64 ((zaa l0 x17_1).f3)) (.int .i64 ((zaa l0 x17_1).f4)) BK108.out
   obtain ⟨hfz73_0, hfz73_1, hfz73_2, hfz73_3, hfz73_4⟩ := zf5 BK108.out
   have p64 : 0 ≤ (((zaa l0 x17_1).f1) : Int) := zde zq21
   have q64 : (((zaa l0 x17_1).f1) : Int) < ((x5_1.length : Int) : Int) := zde zq21
   obtain ⟨go64, co64, eo64, gb64, gl64, cl64, HG64⟩ := Kd.R_form HO_5.out (by omega)
   (first | cases eo64 | (injection eo64 with ea_ en_ ec_; (first | subst ea_ | (injection ea_ with ea_; subst ea_)); subst ec_; clear en_))
   have GB64 := zA gb64
   have GG64 := zA HG64
   clear gb64 gl64 HG64
   (first | simp only [zcg] at hx121_0 | skip)
   obtain ⟨hx64_0, hf64_0⟩ := Kd.R_celln 0 HO_5.out (((zaa l0 x17_1).f1) : Int) p64 q64
   replace p64 := eq_true p64
   replace q64 := eq_true q64
   obtain ⟨hy74_, hz74_⟩ := Kd.R_celln 0 HO_5.out (((zaa l0 x17_1).f1) : Int) (zde zq21) (zde zq21)
   have HP74 := Kd.R_putg HO_5.out (((zaa l0 x17_1).f1) : Int) t125
   try go_wp2_with (first | ((with_reducible refine zgs 3 142 ?_); refine zse (w72.setCell ⟨go64, (((zaa l0 x17_1).f1) : Int).toNat, none⟩ (.int .i64 t125)) ?_; intro w75 hw; have hg : w72.grownBy w75 (some go64) := (by rw [hw]; exact HP74.2); have hp_ : Kd.R (Kd.int .i64) 3 w75 w.heap.size (fun _ => True) (.slice (some ⟨go64, 0, none⟩) x5_1.length co70) y126 := (by rw [hw, Ny126.out]; exact HP74.1); clear HP74; replace BK108 := zA (zew (g := gb108) (o := .cells #[.string ((zaa l0 x17_1).f0), .int .i64 ((zaa l0 x17_1).f1), .int .i64 ((zaa l0 x17_1).f2), .int .i64 ((zaa l0 x17_1).f3), .int .i64 ((zaa l0 x17_1).f4)] 69 (0, 0)) (zq8 BK108) hg (Kd.R_ne HO_5.out BK108.out (by decide))); replace BK109 := zA (zew (g := gb109) (o := .cells #[.string (⟨#[99, 111, 110, 115, 116]⟩ : ByteArray), .int .i64 0, .int .i64 0, .int .i64 ((zaa l0 x17_1).f4)] 62 (0, 0)) (zq8 BK109) hg (Kd.R_ne HO_5.out BK109.out (by decide))); replace HO124 := zA (Kd.R_over' (v := (.slice (some ⟨go64, 0, none⟩) x5_1.length co70)) (zq2 HO124) (Kd.R_typed HO_5.out) (by decide) hg); replace HO_5 := zA (hp_); replace HB := zA ((zq39 GB64 : Below w.heap.size w w75)); clear hg hw hp_))
   go_roundg kj42
   case measure => have := HK1.out; have := HJ42.out; omega
   case rel => exact ⟨(t122), (y126), (wrap64 (x17_1 + 1)), zq5, H', ⟨zq42 HK1 HJ42⟩, ⟨zq24 HO124⟩, ⟨zq2 HO_5⟩, ⟨zq11 GE108 GE109⟩⟩
 replace c54 := zbf c54
 subst c54
 replace H := zif H
 by_cases c76 : ((zaa l0 x17_1).f0).toList = ([108, 101, 97] : List UInt8)
 · rw [if_pos c76] at H
   obtain ⟨c76b0, c76b1⟩ := zbe c76
   clear c76
   replace H := zob H
   obtain ⟨⟨t127, t130⟩, A770, H⟩ := H
   have A77 := zA A770
   clear A770
   revert H
   refine zin fun c78 H => ?_
   revert H
   refine zin fun c79 H => ?_
   replace H := zob H
   obtain ⟨⟨t132, t135⟩, A800, H⟩ := H
   have A80 := zA A800
   clear A800
   revert H
   refine zin fun c81 H => ?_
   revert H
   refine zin fun c82 H => ?_
   replace H := zob H
   obtain ⟨⟨t137, t140⟩, A830, H⟩ := H
   have A83 := zA A830
   clear A830
   revert H
   refine zin fun c84 H => ?_
   revert H
   refine zin fun c85 H => ?_
   obtain ⟨y141, hy141⟩ : ∃ y_ : List Int, y_ = (x5_1.set (((zaa l0 x17_1).f1) : Int).toNat t140) := ⟨_, rfl⟩
   rw [← hy141] at H; try with_reducible replace H := zbs H
   have Ny141 := zA hy141
   clear hy141
   have H' := zA H
   clear H
   have hnb87 := NB109_108.out
   have hnc87 := NB108_109.out
   obtain ⟨hcz88_0, hcz88_1, hcz88_2, hcz88_3⟩ := zc4 wc (.string (⟨#[99, 111, 110, 115, 116]⟩ : ByteArray)) (.int .i64 0) (.int .i64 0) (.int .i64 ((zaa l0 x17_1).f4)) BK109.out
   obtain ⟨hfz88_0, hfz88_1, hfz88_2, hfz88_3⟩ := zf4 BK109.out
   obtain ⟨Ao89, co89, eo89⟩ := Kd.R_slice HO_4.out
   subst eo89
   go_wp2_with (first | ((with_reducible refine zgc 188 ?_); refine zca 95 Tryz.func188 #[.slice Ao89 x4_1.length co89, .agg #[.string (⟨#[99, 111, 110, 115, 116]⟩ : ByteArray), .int .i64 0, .int .i64 0, .int .i64 ((zaa l0 x17_1).f4)]] (zec (fun k_ => some k_ = (.slice Ao89 x4_1.length co89 : Value).ownBlock) (.slice Ao89 x4_1.length co89) x4_1 (⟨#[99, 111, 110, 115, 116]⟩ : ByteArray) 0 0 ((zaa l0 x17_1).f4) t127 t130 w _ (zq11 GE108 GE109) (by exact Kd.R_tight rfl HO_4.out) A77.out) ?_; rintro e w90 ⟨v128, rfl, ho0, hb, hkp⟩; refine ⟨_, rfl, ?_⟩; replace HO_5 := zA (Kd.R_mono (ok' := fun k_ => True) (Kd.R_keptB ((Kd.R_apart' HO_5.out (Kd.R_typed HO_4.out) (by decide))) hkp (fun k_ hk_ hs_ => (hk_.2) hs_)) (fun k_ hk_ => trivial)); replace BK108 := zA (zg1 (zq8 BK108) hkp (fun hs_ => (fun e_ => (Kd.R_ne HO_4.out BK108.out (by decide)) e_) hs_)); have HO129 := zA (Kd.R_mono (ok' := fun k_ => k_ ≠ gb109) ho0 (fun k_ hk_ => Or.elim hk_ (fun hs_ => fun e_ => (Kd.R_away HO_4.out (fun _ hk => hk)) zq61) (fun hn_ => (Kd.freshB (g := gb109) (o := .cells #[.string (⟨#[99, 111, 110, 115, 116]⟩ : ByteArray), .int .i64 0, .int .i64 0, .int .i64 ((zaa l0 x17_1).f4)] 62 (0, 0)) (zq8 BK109) k_ hn_)))); replace BK109 := zA (zg1 (zq8 BK109) hkp (fun hs_ => (fun e_ => (Kd.R_away HO_4.out (fun _ hk => hk)) e_) hs_)); replace HB := zA (hb); clear HO_4; (try clear hb); (try clear hkp); (try clear ho0); obtain ⟨hcz91_0, hcz91_1, hcz91_2, hcz91_3, hcz91_4⟩ := zc5 w90 (.string ((zaa l0 x17_1).f0)) (.int .i64 ((zaa l0 x17_1).f1)) (.int .i64 ((zaa l0 x17_1).f2)) (.int .i64 ((zaa l0 x17_1).f3)) (.int .i64 ((zaa l0 x17_1).f4)) BK108.out; obtain ⟨hfz91_0, hfz91_1, hfz91_2, hfz91_3, hfz91_4⟩ := zf5 BK108.out; obtain ⟨Ao92, co92, eo92⟩ := Kd.R_slice HO_5.out; subst eo92; have p131 : 0 ≤ (((zaa l0 x17_1).f3) : Int) := zde zq21; have q131 : ((zaa l0 x17_1).f3) < (x5_1.length : Int) := zde zq21; obtain ⟨ad131, e131, hx131_0⟩ := Kd.at_int (zRr HO_5.out).2.2 ((zaa l0 x17_1).f3) p131 q131; cases e131; replace p131 := eq_true p131; replace q131 := eq_true q131; obtain ⟨Ao93, co93, eo93⟩ := Kd.R_slice HO129.out; subst eo93) | ((with_reducible refine zgc 188 ?_); refine zca 107 Tryz.func188 #[.slice Ao93 t127.length co93, .agg #[.string (⟨#[115, 104, 108]⟩ : ByteArray), .int .i64 (rd x5_1 ((zaa l0 x17_1).f3)), .int .i64 t130, .int .i64 0]] (zec (fun k_ => some k_ = (.slice Ao93 t127.length co93 : Value).ownBlock) (.slice Ao93 t127.length co93) t127 (⟨#[115, 104, 108]⟩ : ByteArray) (rd x5_1 ((zaa l0 x17_1).f3)) t130 0 t132 t135 w _ (zq11 GE108 GE109) (by exact Kd.R_tight rfl HO129.out) A80.out) ?_; rintro e w94 ⟨v133, rfl, ho0, hb, hkp⟩; refine ⟨_, rfl, ?_⟩; replace HO_5 := zA (Kd.R_mono (ok' := fun k_ => True) (Kd.R_keptB ((Kd.R_apart' HO_5.out (Kd.R_typed HO129.out) (by decide))) hkp (fun k_ hk_ hs_ => (hk_.2) hs_)) (fun k_ hk_ => trivial)); replace BK108 := zA (zg1 (zq8 BK108) hkp (fun hs_ => (fun e_ => (Kd.R_ne HO129.out BK108.out (by decide)) e_) hs_)); have HO134 := zA (Kd.R_mono (ok' := fun k_ => k_ ≠ gb109) ho0 (fun k_ hk_ => Or.elim hk_ (fun hs_ => fun e_ => (Kd.R_away HO129.out (fun _ hk => hk)) zq61) (fun hn_ => (Kd.freshB (g := gb109) (o := .cells #[.string (⟨#[99, 111, 110, 115, 116]⟩ : ByteArray), .int .i64 0, .int .i64 0, .int .i64 ((zaa l0 x17_1).f4)] 62 (0, 0)) (zq8 BK109) k_ hn_)))); replace BK109 := zA (zg1 (zq8 BK109) hkp (fun hs_ => (fun e_ => (Kd.R_away HO129.out (fun _ hk => hk)) e_) hs_)); replace HB := zA (hb); clear HO129; (try clear hb); (try clear hkp); (try clear ho0); obtain ⟨hcz95_0, hcz95_1, hcz95_2, hcz95_3, hcz95_4⟩ := zc5 w94 (.string ((zaa l0 x17_1).f0)) (.int .i64 ((zaa l0 x17_1).f1)) (.int .i64 ((zaa l0 x17_1).f2)) (.int .i64 ((zaa l0 x17_1).f3)) (.int .i64 ((zaa l0 x17_1).f4)) BK108.out; obtain ⟨hfz95_0, hfz95_1, hfz95_2, hfz95_3, hfz95_4⟩ := zf5 BK108.out; have p136 : 0 ≤ (((zaa l0 x17_1).f2) : Int) := zde zq21; have q136 : ((zaa l0 x17_1).f2) < (x5_1.length : Int) := zde zq21; obtain ⟨ad136, e136, hx136_0⟩ := Kd.at_int (zRr HO_5.out).2.2 ((zaa l0 x17_1).f2) p136 q136; obtain rfl : ad131 = ad136 := (by injection e136); replace p136 := eq_true p136; replace q136 := eq_true q136; obtain ⟨Ao96, co96, eo96⟩ := Kd.R_slice HO134.out; subst eo96) | ((with_reducible refine zgc 188 ?_); refine zca 119 Tryz.func188 #[.slice Ao96 t132.length co96, .agg #[.string (⟨#[97, 100, 100]⟩ : ByteArray), .int .i64 (rd x5_1 ((zaa l0 x17_1).f2)), .int .i64 t135, .int .i64 0]] (zec (fun k_ => some k_ = (.slice Ao96 t132.length co96 : Value).ownBlock) (.slice Ao96 t132.length co96) t132 (⟨#[97, 100, 100]⟩ : ByteArray) (rd x5_1 ((zaa l0 x17_1).f2)) t135 0 t137 t140 w _ (zq11 GE108 GE109) (by exact Kd.R_tight rfl HO134.out) A83.out) ?_; rintro e w97 ⟨v138, rfl, ho0, hb, hkp⟩; refine ⟨_, rfl, ?_⟩; replace HO_5 := zA (Kd.R_mono (ok' := fun k_ => True) (Kd.R_keptB ((Kd.R_apart' HO_5.out (Kd.R_typed HO134.out) (by decide))) hkp (fun k_ hk_ hs_ => (hk_.2) hs_)) (fun k_ hk_ => trivial)); replace BK108 := zA (zg1 (zq8 BK108) hkp (fun hs_ => (fun e_ => (Kd.R_ne HO134.out BK108.out (by decide)) e_) hs_)); have HO139 := zA (Kd.R_mono (ok' := fun k_ => k_ ≠ gb109) ho0 (fun k_ hk_ => Or.elim hk_ (fun hs_ => fun e_ => (Kd.R_away HO134.out (fun _ hk => hk)) zq61) (fun hn_ => (Kd.freshB (g := gb109) (o := .cells #[.string (⟨#[99, 111, 110, 115, 116]⟩ : ByteArray), .int .i64 0, .int .i64 0, .int .i64 ((zaa l0 x17_1).f4)] 62 (0, 0)) (zq8 BK109) k_ hn_)))); replace BK109 := zA (zg1 (zq8 BK109) hkp (fun hs_ => (fun e_ => (Kd.R_away HO134.out (fun _ hk => hk)) e_) hs_)); replace HB := zA (hb); clear HO134; (try clear hb); (try clear hkp); (try clear ho0); obtain ⟨hcz98_0, hcz98_1, hcz98_2, hcz98_3, hcz98_4⟩ := zc5 w97 (.string ((zaa l0 x17_1).f0)) (.int .i64 ((zaa l0 x17_1).f1)) (.int .i64 ((zaa l0 x17_1).f2)) (.int .i64 ((zaa l0 x17_1).f3)) (.int .i64 ((zaa l0 x17_1).f4)) BK108.out; obtain ⟨hfz98_0, hfz98_1, hfz98_2, hfz98_3, hfz98_4⟩ := zf5 BK108.out; have p86 : 0 ≤ (((zaa l0 x17_1).f1) : Int) := zde zq21; have q86 : (((zaa l0 x17_1).f1) : Int) < ((x5_1.length : Int) : Int) := zde zq21; obtain ⟨go86, co86, eo86, gb86, gl86, cl86, HG86⟩ := Kd.R_form HO_5.out (by omega); (first | cases eo86 | (injection eo86 with ea_ en_ ec_; (first | subst ea_ | (injection ea_ with ea_; subst ea_)); subst ec_; clear en_)); have GB86 := zA gb86; have GG86 := zA HG86; clear gb86 gl86 HG86; (first | simp only [zcg] at hx131_0 | skip); (first | simp only [zcg] at hx136_0 | skip); obtain ⟨hx86_0, hf86_0⟩ := Kd.R_celln 0 HO_5.out (((zaa l0 x17_1).f1) : Int) p86 q86; replace p86 := eq_true p86; replace q86 := eq_true q86; obtain ⟨hy99_, hz99_⟩ := Kd.R_celln 0 HO_5.out (((zaa l0 x17_1).f1) : Int) (zde zq21) (zde zq21); have HP99 := Kd.R_putg HO_5.out (((zaa l0 x17_1).f1) : Int) t140) | ((with_reducible refine zgs 3 142 ?_); refine zse (w97.setCell ⟨go86, (((zaa l0 x17_1).f1) : Int).toNat, none⟩ (.int .i64 t140)) ?_; intro w100 hw; have hg : w97.grownBy w100 (some go86) := (by rw [hw]; exact HP99.2); have hp_ : Kd.R (Kd.int .i64) 3 w100 w.heap.size (fun _ => True) (.slice (some ⟨go86, 0, none⟩) x5_1.length co92) y141 := (by rw [hw, Ny141.out]; exact HP99.1); clear HP99; replace BK108 := zA (zew (g := gb108) (o := .cells #[.string ((zaa l0 x17_1).f0), .int .i64 ((zaa l0 x17_1).f1), .int .i64 ((zaa l0 x17_1).f2), .int .i64 ((zaa l0 x17_1).f3), .int .i64 ((zaa l0 x17_1).f4)] 69 (0, 0)) (zq8 BK108) hg (Kd.R_ne HO_5.out BK108.out (by decide))); replace BK109 := zA (zew (g := gb109) (o := .cells #[.string (⟨#[99, 111, 110, 115, 116]⟩ : ByteArray), .int .i64 0, .int .i64 0, .int .i64 ((zaa l0 x17_1).f4)] 62 (0, 0)) (zq8 BK109) hg (Kd.R_ne HO_5.out BK109.out (by decide))); replace HO139 := zA (Kd.R_over' (v := (.slice (some ⟨go86, 0, none⟩) x5_1.length co92)) (zq2 HO139) (Kd.R_typed HO_5.out) (by decide) hg); replace HO_5 := zA (hp_); replace HB := zA ((zq39 GB86 : Below w.heap.size w w100)); clear hg hw hp_))
   go_roundg kj42
   case measure => have := HK1.out; have := HJ42.out; omega
   case rel => exact ⟨(t137), (y141), (wrap64 (x17_1 + 1)), zq5, H', ⟨zq42 HK1 HJ42⟩, ⟨zq24 HO139⟩, ⟨zq2 HO_5⟩, ⟨zq11 GE108 GE109⟩⟩
 rw [if_neg c76] at H
 obtain ⟨c76b0, c76b1⟩ := zbq c76
 have HC101 := zA H
 clear H
 go_upto_if 122 with (fail)
 go_cut [122] (fun v122 wc => ∃ (kq : Nat) (x122_100 : Bool), v122 = .bool x122_100 ∧ Aside0 (zbw kq x4_1 x5_1 l0 (l0.length : Int) x17_1 x122_100 ((zaa l0 x17_1).f0) ((zaa l0 x17_1).f1) ((zaa l0 x17_1).f2) ((zaa l0 x17_1).f3) ((zaa l0 x17_1).f4) = some (r1, r2)) ∧ Aside0 (kq ≤ kj42) ∧ Aside0 (Kd.R k62 62 wc w.heap.size (fun k_ => k_ ≠ gb109) u4 x4_1) ∧ Aside0 (Kd.R (Kd.int .i64) 3 wc w.heap.size (fun _ => True) v105 x5_1) ∧ Aside0 (wc.heap[gb108]? = some (.cells #[.string ((zaa l0 x17_1).f0), .int .i64 ((zaa l0 x17_1).f1), .int .i64 ((zaa l0 x17_1).f2), .int .i64 ((zaa l0 x17_1).f3), .int .i64 ((zaa l0 x17_1).f4)] 69 (0, 0))) ∧ Aside0 (wc.heap[gb109]? = some (.cells #[.string (⟨#[99, 111, 110, 115, 116]⟩ : ByteArray), .int .i64 0, .int .i64 0, .int .i64 ((zaa l0 x17_1).f4)] 62 (0, 0))) ∧ Aside0 (Below w.heap.size w wc))
 case first =>
   have H := HC101.out
   clear HC101
   by_cases c102 : ((zaa l0 x17_1).f0).toList = ([110, 111, 116] : List UInt8)
   rotate_left
   · rw [if_neg c102] at H
     obtain ⟨c102b0, c102b1⟩ := zbq c102
     (first | rw [c102b0] | (simp only [zgy, zjw]; rw [c102b0]) | skip)
     have H' := zA H
     clear H
     go_wp2
     go_meet
     case rel => exact ⟨_, ((((zaa l0 x17_1).f0).toList == ([110, 101, 103] : List UInt8))), zq5, H', ⟨zq65 HK1 HJ42⟩, ⟨zq2 HO_4⟩, ⟨zq2 HO_5⟩, ⟨zq8 BK108⟩, ⟨zq8 BK109⟩, ⟨zq11 GE108 GE109⟩⟩
   rw [if_pos c102] at H
   obtain ⟨c102b0, c102b1⟩ := zbe c102
   clear c102
   (first | rw [c102b0] | (simp only [zgy, zjw]; rw [c102b0]) | skip)
   have H' := zA H
   clear H
   go_wp2
   go_meet
   case rel => exact ⟨_, ((((zaa l0 x17_1).f0).toList == ([110, 111, 116] : List UInt8))), zq5, H', ⟨zq65 HK1 HJ42⟩, ⟨zq2 HO_4⟩, ⟨zq2 HO_5⟩, ⟨zq8 BK108⟩, ⟨zq8 BK109⟩, ⟨zq11 GE108 GE109⟩⟩
 clear HC101
 obtain ⟨kq, x122_100, rfl, HA, HJ100, HO_4, HO_5, BK108, BK109, HB⟩ := hcut
 cases kq with
 | zero => exact absurd HA.out (by simp [zbw])
 | succ kj100 =>
 have H := HA.out
 clear HA
 simp only [zbw] at H
 by_cases c103 : x122_100 = true
 · subst c103
   replace H := zih H
   revert H
   refine zin fun c104 H => ?_
   revert H
   refine zin fun c105 H => ?_
   replace H := zob H
   obtain ⟨⟨t143, t146⟩, A1060, H⟩ := H
   have A106 := zA A1060
   clear A1060
   revert H
   refine zin fun c107 H => ?_
   revert H
   refine zin fun c108 H => ?_
   obtain ⟨y147, hy147⟩ : ∃ y_ : List Int, y_ = (x5_1.set (((zaa l0 x17_1).f1) : Int).toNat t146) := ⟨_, rfl⟩
   rw [← hy147] at H; try with_reducible replace H := zbs H
   have Ny147 := zA hy147
   clear hy147
   have H' := zA H
   clear H
   try go_wp2
   replace HO_4 := zA (zRd HO_4.out)
   replace HO_5 := zA (zRd HO_5.out)
   replace BK108 := zA (zkd BK108.out)
   replace BK109 := zA (zkd BK109.out)
   replace HB := zA (zbd HB.out)
   obtain ⟨Ao111, co111, eo111⟩ := Kd.R_slice HO_5.out
   (first | subst eo111 | (injection eo111 with f1_ f2_ f3_; have f4_ := f1_.symm; have f5_ := f3_.symm; clear f1_ f2_ f3_; subst f4_; subst f5_))
   have p142 : 0 ≤ (((zaa l0 x17_1).f2) : Int) := zde zq21
   have q142 : ((zaa l0 x17_1).f2) < (x5_1.length : Int) := zde zq21
   obtain ⟨ad142, e142, hx142_0⟩ := Kd.at_int (zRr HO_5.out).2.2 ((zaa l0 x17_1).f2) p142 q142
   cases e142
   replace p142 := eq_true p142
   replace q142 := eq_true q142
   obtain ⟨Ao112, co112, eo112⟩ := Kd.R_slice HO_4.out
   (first | subst eo112 | (injection eo112 with f1_ f2_ f3_; have f4_ := f1_.symm; have f5_ := f3_.symm; clear f1_ f2_ f3_; subst f4_; subst f5_))
   refine zra (n := 15) (S := fun w' => w'.cell? ⟨gb108, 0, none⟩ = some (.string ((zaa l0 x17_1).f0)) ∧ w'.cell? ⟨gb108, 1, none⟩ = some (.int .i64 ((zaa l0 x17_1).f1)) ∧ w'.cell? ⟨gb108, 2, none⟩ = some (.int .i64 ((zaa l0 x17_1).f2)) ∧ w'.cell? ⟨gb108, 3, none⟩ = some (.int .i64 ((zaa l0 x17_1).f3)) ∧ w'.cell? ⟨gb108, 4, none⟩ = some (.int .i64 ((zaa l0 x17_1).f4)) ∧ w'.cell? (ad142.add (((zaa l0 x17_1).f2)).toNat) = some (.int .i64 (rd x5_1 ((zaa l0 x17_1).f2)))) (ds := []) #[false, false, false, false, false, false, false, false, false, false, false, false, false, false, false] zq28 rfl rfl ⟨(zad BK108.out 0).trans rfl, (zad BK108.out 1).trans rfl, (zad BK108.out 2).trans rfl, (zad BK108.out 3).trans rfl, (zad BK108.out 4).trans rfl, hx142_0⟩ (fun hHeld => ?_); refine zk0 zn7 znq (fun HT_ HW_ => ?_)
   generalize wc.drew = w110 at HO_4 HO_5 BK108 BK109 HB hx142_0 hHeld ⊢
   refine zpu 0 126 HT_ ?_
   refine zpu 1 127 HT_ ?_
   refine zpu 3 129 HT_ ?_
   refine zpu 4 130 HT_ ?_
   refine ztu 2 128 HT_ HW_ hHeld ?_
   refine ztu 5 131 HT_ HW_ hHeld ?_
   refine zpu 6 132 HT_ ?_
   refine ztu 7 133 HT_ HW_ hHeld ?_
   refine zpu 8 134 HT_ ?_
   refine one_ (i := 9) (N := some 135) #[true, true, true, true, true, true, true, true, true, true, false, false, false, false, false] rfl rfl (zoj HT_.out zq28) (by decide) (fun K hK => ?_)
   refine zsj Tryz.func188 zq28 rfl #[.slice Ao112 x4_1.length co112, .agg #[.string ((zaa l0 x17_1).f0), .int .i64 (rd x5_1 ((zaa l0 x17_1).f2)), .int .i64 0, .int .i64 0]] (by rfl) rfl rfl zq54 ?_
   with_reducible refine (zec (fun k_ => some k_ = (.slice Ao112 x4_1.length co112 : Value).ownBlock) (.slice Ao112 x4_1.length co112) x4_1 ((zaa l0 x17_1).f0) (rd x5_1 ((zaa l0 x17_1).f2)) 0 0 t143 t146 w _ ?side1 ?side2 A106.out).mono ?_
   (case side1 => repeat (first | (with_reducible first | exact HB.out | apply zba | apply zbn | apply zbd | refine zaf ?_ GE108.out | refine zaf ?_ GE109.out) | exact HB.out))
   (case side2 => exact Kd.R_tight rfl HO_4.out)
   rintro e w113 ⟨v144, rfl, ho0, hb, hkp⟩
   have HS5_ := zp6 (hHeld.2.2.2.2.2) hkp (zq31 HO_5 HO_4)
   refine ⟨_, rfl, ?_⟩
   replace HO_5 := zA (Kd.R_mono (ok' := fun k_ => True) (Kd.R_keptB ((Kd.R_apart' HO_5.out (Kd.R_typed HO_4.out) (by decide))) hkp (fun k_ hk_ hs_ => (hk_.2) hs_)) (fun k_ hk_ => trivial))
   replace BK108 := zA (zg1 (zq8 BK108) hkp (fun hs_ => (fun e_ => (Kd.R_ne HO_4.out BK108.out (by decide)) e_) hs_))
   have HO145 := zA (Kd.R_mono (ok' := fun k_ => k_ ≠ gb109) ho0 (fun k_ hk_ => Or.elim hk_ (fun hs_ => fun e_ => (Kd.R_away HO_4.out (fun _ hk => hk)) zq61) (fun hn_ => (Kd.freshB (g := gb109) (o := .cells #[.string (⟨#[99, 111, 110, 115, 116]⟩ : ByteArray), .int .i64 0, .int .i64 0, .int .i64 ((zaa l0 x17_1).f4)] 62 (0, 0)) (zq8 BK109) k_ hn_))))
   replace BK109 := zA (zg1 (zq8 BK109) hkp (fun hs_ => (fun e_ => (Kd.R_away HO_4.out (fun _ hk => hk)) e_) hs_))
   replace HB := zA (hb)
   clear HO_4
   (try clear hb)
   (try clear hkp)
   (try clear ho0)
   refine hK.out _ _ ⟨(zad BK108.out 0).trans rfl, (zad BK108.out 1).trans rfl, (zad BK108.out 2).trans rfl, (zad BK108.out 3).trans rfl, (zad BK108.out 4).trans rfl, HS5_⟩ (fun hHeld => ?_)
   clear hK K
   refine znm 135 ?_
   refine zpu 10 125 HT_ ?_
   refine zpu 11 136 HT_ ?_
   refine zpu 12 137 HT_ ?_
   refine zpu 13 4 HT_ ?_
   refine zpu 14 9 HT_ ?_
   refine zvd (zo1 HT_.out zq28) ?_
   have hnb114 := NB108_109.out
   have hnc114 := NB109_108.out
   obtain ⟨hcz115_0, hcz115_1, hcz115_2, hcz115_3, hcz115_4⟩ := zc5 w113 (.string ((zaa l0 x17_1).f0)) (.int .i64 ((zaa l0 x17_1).f1)) (.int .i64 ((zaa l0 x17_1).f2)) (.int .i64 ((zaa l0 x17_1).f3)) (.int .i64 ((zaa l0 x17_1).f4)) BK108.out
   obtain ⟨hfz115_0, hfz115_1, hfz115_2, hfz115_3, hfz115_4⟩ := zf5 BK108.out
   have p109 : 0 ≤ (((zaa l0 x17_1).f1) : Int) := zde zq21
   have q109 : (((zaa l0 x17_1).f1) : Int) < ((x5_1.length : Int) : Int) := zde zq21
   obtain ⟨go109, co109, eo109, gb109, gl109, cl109, HG109⟩ := Kd.R_form HO_5.out (by omega)
   (first | cases eo109 | (injection eo109 with ea_ en_ ec_; (first | subst ea_ | (injection ea_ with ea_; subst ea_)); subst ec_; clear en_))
   have GB109 := zA gb109
   have GG109 := zA HG109
   clear gb109 gl109 HG109
   (first | simp only [zcg] at hx142_0 | skip)
   obtain ⟨hx109_0, hf109_0⟩ := Kd.R_celln 0 HO_5.out (((zaa l0 x17_1).f1) : Int) p109 q109
   replace p109 := eq_true p109
   replace q109 := eq_true q109
   obtain ⟨hy116_, hz116_⟩ := Kd.R_celln 0 HO_5.out (((zaa l0 x17_1).f1) : Int) (zde zq21) (zde zq21)
   have HP116 := Kd.R_putg HO_5.out (((zaa l0 x17_1).f1) : Int) t146
   try go_wp2_with (first | ((with_reducible refine zgs 3 142 ?_); refine zse (w113.setCell ⟨go109, (((zaa l0 x17_1).f1) : Int).toNat, none⟩ (.int .i64 t146)) ?_; intro w117 hw; have hg : w113.grownBy w117 (some go109) := (by rw [hw]; exact HP116.2); have hp_ : Kd.R (Kd.int .i64) 3 w117 w.heap.size (fun _ => True) (.slice (some ⟨go109, 0, none⟩) x5_1.length co111) y147 := (by rw [hw, Ny147.out]; exact HP116.1); clear HP116; replace BK108 := zA (zew (g := gb108) (o := .cells #[.string ((zaa l0 x17_1).f0), .int .i64 ((zaa l0 x17_1).f1), .int .i64 ((zaa l0 x17_1).f2), .int .i64 ((zaa l0 x17_1).f3), .int .i64 ((zaa l0 x17_1).f4)] 69 (0, 0)) (zq8 BK108) hg (Kd.R_ne HO_5.out BK108.out (by decide))); replace BK109 := zA (zew (g := gb109) (o := .cells #[.string (⟨#[99, 111, 110, 115, 116]⟩ : ByteArray), .int .i64 0, .int .i64 0, .int .i64 ((zaa l0 x17_1).f4)] 62 (0, 0)) (zq8 BK109) hg (Kd.R_ne HO_5.out BK109.out (by decide))); replace HO145 := zA (Kd.R_over' (v := (.slice (some ⟨go109, 0, none⟩) x5_1.length co111)) (zq2 HO145) (Kd.R_typed HO_5.out) (by decide) hg); replace HO_5 := zA (hp_); replace HB := zA ((zq39 GB109 : Below w.heap.size w w117)); clear hg hw hp_))
   go_roundg kj100
   case measure => have := HK1.out; have := HJ42.out; have := HJ100.out; omega
   case rel => exact ⟨(t143), (y147), (wrap64 (x17_1 + 1)), zq5, H', ⟨by have := HK1.out; have := HJ42.out; have := HJ100.out; omega⟩, ⟨zq24 HO145⟩, ⟨zq2 HO_5⟩, ⟨zq11 GE108 GE109⟩⟩
 replace c103 := zbf c103
 subst c103
 replace H := zif H
 revert H
 refine zin fun c118 H => ?_
 revert H
 refine zin fun c119 H => ?_
 revert H
 refine zin fun c120 H => ?_
 revert H
 refine zin fun c121 H => ?_
 replace H := zob H
 obtain ⟨⟨t150, t153⟩, A1220, H⟩ := H
 have A122 := zA A1220
 clear A1220
 revert H
 refine zin fun c123 H => ?_
 revert H
 refine zin fun c124 H => ?_
 obtain ⟨y154, hy154⟩ : ∃ y_ : List Int, y_ = (x5_1.set (((zaa l0 x17_1).f1) : Int).toNat t153) := ⟨_, rfl⟩
 rw [← hy154] at H; try with_reducible replace H := zbs H
 have Ny154 := zA hy154
 clear hy154
 have H' := zA H
 clear H
 try go_wp2
 replace HO_4 := zA (zRd HO_4.out)
 replace HO_5 := zA (zRd HO_5.out)
 replace BK108 := zA (zkd BK108.out)
 replace BK109 := zA (zkd BK109.out)
 replace HB := zA (zbd HB.out)
 obtain ⟨Ao127, co127, eo127⟩ := Kd.R_slice HO_5.out
 (first | subst eo127 | (injection eo127 with f1_ f2_ f3_; have f4_ := f1_.symm; have f5_ := f3_.symm; clear f1_ f2_ f3_; subst f4_; subst f5_))
 have p148 : 0 ≤ (((zaa l0 x17_1).f2) : Int) := zde zq21
 have q148 : ((zaa l0 x17_1).f2) < (x5_1.length : Int) := zde zq21
 obtain ⟨ad148, e148, hx148_0⟩ := Kd.at_int (zRr HO_5.out).2.2 ((zaa l0 x17_1).f2) p148 q148
 cases e148
 replace p148 := eq_true p148
 replace q148 := eq_true q148
 have p149 : 0 ≤ (((zaa l0 x17_1).f3) : Int) := zde zq21
 have q149 : ((zaa l0 x17_1).f3) < (x5_1.length : Int) := zde zq21
 obtain ⟨ad149, e149, hx149_0⟩ := Kd.at_int (zRr HO_5.out).2.2 ((zaa l0 x17_1).f3) p149 q149
 obtain rfl : ad148 = ad149 := (by injection e149)
 replace p149 := eq_true p149
 replace q149 := eq_true q149
 obtain ⟨Ao128, co128, eo128⟩ := Kd.R_slice HO_4.out
 (first | subst eo128 | (injection eo128 with f1_ f2_ f3_; have f4_ := f1_.symm; have f5_ := f3_.symm; clear f1_ f2_ f3_; subst f4_; subst f5_))
 refine zra (n := 20) (S := fun w' => w'.cell? ⟨gb108, 0, none⟩ = some (.string ((zaa l0 x17_1).f0)) ∧ w'.cell? ⟨gb108, 1, none⟩ = some (.int .i64 ((zaa l0 x17_1).f1)) ∧ w'.cell? ⟨gb108, 2, none⟩ = some (.int .i64 ((zaa l0 x17_1).f2)) ∧ w'.cell? ⟨gb108, 3, none⟩ = some (.int .i64 ((zaa l0 x17_1).f3)) ∧ w'.cell? ⟨gb108, 4, none⟩ = some (.int .i64 ((zaa l0 x17_1).f4)) ∧ w'.cell? (ad148.add (((zaa l0 x17_1).f2)).toNat) = some (.int .i64 (rd x5_1 ((zaa l0 x17_1).f2))) ∧ w'.cell? (ad148.add (((zaa l0 x17_1).f3)).toNat) = some (.int .i64 (rd x5_1 ((zaa l0 x17_1).f3)))) (ds := []) #[false, false, false, false, false, false, false, false, false, false, false, false, false, false, false, false, false, false, false, false] zq28 rfl rfl ⟨(zad BK108.out 0).trans rfl, (zad BK108.out 1).trans rfl, (zad BK108.out 2).trans rfl, (zad BK108.out 3).trans rfl, (zad BK108.out 4).trans rfl, hx148_0, hx149_0⟩ (fun hHeld => ?_); refine zk0 zou zn5 (fun HT_ HW_ => ?_)
 generalize wc.drew = w126 at HO_4 HO_5 BK108 BK109 HB hx148_0 hx149_0 hHeld ⊢
 refine zpu 0 27 HT_ ?_
 refine zpu 1 28 HT_ ?_
 refine zpu 3 30 HT_ ?_
 refine zpu 4 31 HT_ ?_
 refine zpu 8 35 HT_ ?_
 refine zpu 9 36 HT_ ?_
 refine ztu 2 29 HT_ HW_ hHeld ?_
 refine ztu 5 32 HT_ HW_ hHeld ?_
 refine zpu 6 33 HT_ ?_
 refine ztu 7 34 HT_ HW_ hHeld ?_
 refine ztu 10 37 HT_ HW_ hHeld ?_
 refine zpu 11 38 HT_ ?_
 refine ztu 12 39 HT_ HW_ hHeld ?_
 refine zpu 13 40 HT_ ?_
 refine one_ (i := 14) (N := some 41) #[true, true, true, true, true, true, true, true, true, true, true, true, true, true, true, false, false, false, false, false] rfl rfl (zoj HT_.out zq28) (by decide) (fun K hK => ?_)
 refine zsj Tryz.func188 zq28 rfl #[.slice Ao128 x4_1.length co128, .agg #[.string ((zaa l0 x17_1).f0), .int .i64 (rd x5_1 ((zaa l0 x17_1).f2)), .int .i64 (rd x5_1 ((zaa l0 x17_1).f3)), .int .i64 0]] (by rfl) rfl rfl zq54 ?_
 with_reducible refine (zec (fun k_ => some k_ = (.slice Ao128 x4_1.length co128 : Value).ownBlock) (.slice Ao128 x4_1.length co128) x4_1 ((zaa l0 x17_1).f0) (rd x5_1 ((zaa l0 x17_1).f2)) (rd x5_1 ((zaa l0 x17_1).f3)) 0 t150 t153 w _ ?side1 ?side2 A122.out).mono ?_
 (case side1 => repeat (first | (with_reducible first | exact HB.out | apply zba | apply zbn | apply zbd | refine zaf ?_ GE108.out | refine zaf ?_ GE109.out) | exact HB.out))
 (case side2 => exact Kd.R_tight rfl HO_4.out)
 rintro e w129 ⟨v151, rfl, ho0, hb, hkp⟩
 have HS5_ := zp6 (hHeld.2.2.2.2.2.1) hkp (zq31 HO_5 HO_4)
 have HS6_ := zp6 (hHeld.2.2.2.2.2.2) hkp (zq31 HO_5 HO_4)
 refine ⟨_, rfl, ?_⟩
 replace HO_5 := zA (Kd.R_mono (ok' := fun k_ => True) (Kd.R_keptB ((Kd.R_apart' HO_5.out (Kd.R_typed HO_4.out) (by decide))) hkp (fun k_ hk_ hs_ => (hk_.2) hs_)) (fun k_ hk_ => trivial))
 replace BK108 := zA (zg1 (zq8 BK108) hkp (fun hs_ => (fun e_ => (Kd.R_ne HO_4.out BK108.out (by decide)) e_) hs_))
 have HO152 := zA (Kd.R_mono (ok' := fun k_ => k_ ≠ gb109) ho0 (fun k_ hk_ => Or.elim hk_ (fun hs_ => fun e_ => (Kd.R_away HO_4.out (fun _ hk => hk)) zq61) (fun hn_ => (Kd.freshB (g := gb109) (o := .cells #[.string (⟨#[99, 111, 110, 115, 116]⟩ : ByteArray), .int .i64 0, .int .i64 0, .int .i64 ((zaa l0 x17_1).f4)] 62 (0, 0)) (zq8 BK109) k_ hn_))))
 replace BK109 := zA (zg1 (zq8 BK109) hkp (fun hs_ => (fun e_ => (Kd.R_away HO_4.out (fun _ hk => hk)) e_) hs_))
 replace HB := zA (hb)
 clear HO_4
 (try clear hb)
 (try clear hkp)
 (try clear ho0)
 refine hK.out _ _ ⟨(zad BK108.out 0).trans rfl, (zad BK108.out 1).trans rfl, (zad BK108.out 2).trans rfl, (zad BK108.out 3).trans rfl, (zad BK108.out 4).trans rfl, HS5_, HS6_⟩ (fun hHeld => ?_)
 clear hK K
 refine znm 41 ?_
 refine zpu 15 26 HT_ ?_
 refine zpu 16 42 HT_ ?_
 refine zpu 17 43 HT_ ?_
 refine zpu 18 4 HT_ ?_
 refine zpu 19 9 HT_ ?_
 refine zvd (zo1 HT_.out zq28) ?_
 have hnb130 := NB108_109.out
 have hnc130 := NB109_108.out
 obtain ⟨hcz131_0, hcz131_1, hcz131_2, hcz131_3, hcz131_4⟩ := zc5 w129 (.string ((zaa l0 x17_1).f0)) (.int .i64 ((zaa l0 x17_1).f1)) (.int .i64 ((zaa l0 x17_1).f2)) (.int .i64 ((zaa l0 x17_1).f3)) (.int .i64 ((zaa l0 x17_1).f4)) BK108.out
 obtain ⟨hfz131_0, hfz131_1, hfz131_2, hfz131_3, hfz131_4⟩ := zf5 BK108.out
 have p125 : 0 ≤ (((zaa l0 x17_1).f1) : Int) := zde zq21
 have q125 : (((zaa l0 x17_1).f1) : Int) < ((x5_1.length : Int) : Int) := zde zq21
 obtain ⟨go125, co125, eo125, gb125, gl125, cl125, HG125⟩ := Kd.R_form HO_5.out (by omega)
 (first | cases eo125 | (injection eo125 with ea_ en_ ec_; (first | subst ea_ | (injection ea_ with ea_; subst ea_)); subst ec_; clear en_))
 have GB125 := zA gb125
 have GG125 := zA HG125
 clear gb125 gl125 HG125
 (first | simp only [zcg] at hx148_0 | skip)
 (first | simp only [zcg] at hx149_0 | skip)
 obtain ⟨hx125_0, hf125_0⟩ := Kd.R_celln 0 HO_5.out (((zaa l0 x17_1).f1) : Int) p125 q125
 replace p125 := eq_true p125
 replace q125 := eq_true q125
 obtain ⟨hy132_, hz132_⟩ := Kd.R_celln 0 HO_5.out (((zaa l0 x17_1).f1) : Int) (zde zq21) (zde zq21)
 have HP132 := Kd.R_putg HO_5.out (((zaa l0 x17_1).f1) : Int) t153
 try go_wp2_with (first | ((with_reducible refine zgs 3 142 ?_); refine zse (w129.setCell ⟨go125, (((zaa l0 x17_1).f1) : Int).toNat, none⟩ (.int .i64 t153)) ?_; intro w133 hw; have hg : w129.grownBy w133 (some go125) := (by rw [hw]; exact HP132.2); have hp_ : Kd.R (Kd.int .i64) 3 w133 w.heap.size (fun _ => True) (.slice (some ⟨go125, 0, none⟩) x5_1.length co127) y154 := (by rw [hw, Ny154.out]; exact HP132.1); clear HP132; replace BK108 := zA (zew (g := gb108) (o := .cells #[.string ((zaa l0 x17_1).f0), .int .i64 ((zaa l0 x17_1).f1), .int .i64 ((zaa l0 x17_1).f2), .int .i64 ((zaa l0 x17_1).f3), .int .i64 ((zaa l0 x17_1).f4)] 69 (0, 0)) (zq8 BK108) hg (Kd.R_ne HO_5.out BK108.out (by decide))); replace BK109 := zA (zew (g := gb109) (o := .cells #[.string (⟨#[99, 111, 110, 115, 116]⟩ : ByteArray), .int .i64 0, .int .i64 0, .int .i64 ((zaa l0 x17_1).f4)] 62 (0, 0)) (zq8 BK109) hg (Kd.R_ne HO_5.out BK109.out (by decide))); replace HO152 := zA (Kd.R_over' (v := (.slice (some ⟨go125, 0, none⟩) x5_1.length co127)) (zq2 HO152) (Kd.R_typed HO_5.out) (by decide) hg); replace HO_5 := zA (hp_); replace HB := zA ((zq39 GB125 : Below w.heap.size w w133)); clear hg hw hp_))
 go_roundg kj100
 case measure => have := HK1.out; have := HJ42.out; have := HJ100.out; omega
 case rel => exact ⟨(t150), (y154), (wrap64 (x17_1 + 1)), zq5, H', ⟨by have := HK1.out; have := HJ42.out; have := HJ100.out; omega⟩, ⟨zq24 HO152⟩, ⟨zq2 HO_5⟩, ⟨zq11 GE108 GE109⟩⟩
def zem (k : Nat) (l0 : List (S69)) (a1 : Int) : Option ((List (S62)) × Bool) := (zfg k l0).bind fun bt101 => (if 0 ≤ a1 then (if a1 < (bt101.2.length : Int) then ((zfl k bt101.1 (rd bt101.2 a1)).bind fun t108 => ((zeg k t108).bind fun t111 => ((zgr k t111).bind fun t114 => (some (t111, t114))))) else (none)) else (none))
theorem zpl : ∀ a0 a1 k, LeO (zem k a0 a1) (zem (k + 1) a0 a1) := by
 intro a0 a1 k
 unfold zem
 exact zm4 zrl zmu zi7 zot
theorem zkm (k : Nat) (A0 : Option Addr) (c0 : Nat) (l0 : List (S69)) (a1 : Int) (r1 : List (S62)) (r2 : Bool) (w : World) (hr0 : Kd.C k69 w A0 l0.length l0) (hc0 : l0.length ≤ c0) (h : zem k l0 a1 = some (r1, r2)) :
   Calls Tryz.prog 139 #[.slice A0 l0.length c0, .int .i64 a1] w fun e w' => ∃ v0_ : Value, e = .returned (.tuple #[v0_, .bool r2]) ∧ Kd.R k62 62 w' w.heap.size (fun _ => True) v0_ r1 ∧ Below w.heap.size w w' := by
 have HR0 := zA hr0
 have HC0 := zA hc0
 clear hr0 hc0
 have HB := zA (Below.refl w.heap.size w)
 have H := h
 unfold zem at H
 clear h
 replace H := zob H
 obtain ⟨⟨t101, t102⟩, A30, H⟩ := H
 have A3 := zA A30
 clear A30
 revert H
 refine zin fun c4 H => ?_
 revert H
 refine zin fun c5 H => ?_
 replace H := zob H
 obtain ⟨t108, A60, H⟩ := H
 have A6 := zA A60
 clear A60
 replace H := zob H
 obtain ⟨t111, A70, H⟩ := H
 have A7 := zA A70
 clear A70
 replace H := zob H
 obtain ⟨t114, A80, H⟩ := H
 have A8 := zA A80
 clear A80
 simp only [Option.some.injEq, Prod.mk.injEq] at H
 obtain ⟨rfl, rfl⟩ := H
 go_enter Tryz.func139, Tryz.ntmps139
 go_wp2_with (first | ((with_reducible refine zgc 169 ?_); refine zca 11 Tryz.func169 #[.slice A0 l0.length c0] (zn8 k _ _ l0 t101 t102 _ (zq10 HR0) HC0.out A3.out) ?_; rintro e w9 ⟨v103, v105, rfl, ho0, ho1, hb⟩; refine ⟨_, rfl, ?_⟩; have HO104 := zA (Kd.R_lower ho0 (zag zq1)); have HO106 := zA (Kd.R_lower ho1 (zag zq1)); replace HB := zA (zab zq1 hb); (try clear hb); (try clear ho0); (try clear ho1); obtain ⟨Ao10, co10, eo10⟩ := Kd.R_slice HO106.out; subst eo10; have p107 : 0 ≤ (a1 : Int) := zde zq21; have q107 : a1 < (t102.length : Int) := zde zq21; obtain ⟨ad107, e107, hx107_0⟩ := Kd.at_int (zRr HO106.out).2.2 a1 p107 q107; cases e107; replace p107 := eq_true p107; replace q107 := eq_true q107; obtain ⟨Ao11, co11, eo11⟩ := Kd.R_slice HO104.out; subst eo11) | ((with_reducible refine zgc 171 ?_); refine zca 19 Tryz.func171 #[.slice Ao11 t101.length co11, .int .i64 (rd t102 a1)] (zl5 k _ _ t101 (rd t102 a1) t108 _ (zq19 HO104) (zq47 HO104) A6.out) ?_; rintro e w12 ⟨v109, rfl, ho0, hb⟩; refine ⟨_, rfl, ?_⟩; replace HO106 := zA (zRb (zq2 HO106) hb); have HO110 := zA (Kd.R_lower (Kd.R_new' ho0 (Kd.R_lt (zq2 HO104))) (zag zq1)); replace HO104 := zA (Kd.R_elder' (zq2 HO104) (Kd.R_base ho0) hb); replace HB := zA (zab zq1 hb); (try clear hb); (try clear ho0); obtain ⟨Ao13, co13, eo13⟩ := Kd.R_slice HO110.out; subst eo13) | ((with_reducible refine zgc 170 ?_); refine zca 20 Tryz.func170 #[.slice Ao13 t108.length co13] (zix k _ _ t108 t111 _ (zq19 HO110) (zq47 HO110) A7.out) ?_; rintro e w14 ⟨v112, rfl, ho0, hb⟩; refine ⟨_, rfl, ?_⟩; replace HO106 := zA (zRb (zq2 HO106) hb); have HO113 := zA (Kd.R_lower (Kd.R_new' (Kd.R_new' ho0 (Kd.R_lt (zq2 HO104))) (Kd.R_lt (zq2 HO110))) (zag zq1)); replace HO104 := zA (Kd.R_elder' (zq2 HO104) (Kd.R_base ho0) hb); replace HO110 := zA (Kd.R_elder' (zq2 HO110) (Kd.R_base ho0) hb); replace HB := zA (zab zq1 hb); (try clear hb); (try clear ho0); obtain ⟨Ao15, co15, eo15⟩ := Kd.R_slice HO113.out; subst eo15) | ((with_reducible refine zgc 77 ?_); refine zca 23 Tryz.func77 #[.slice Ao15 t111.length co15] (zqp k _ _ t111 t114 _ (zq19 HO113) (zq47 HO113) A8.out) ?_; rintro e w16 ⟨rfl, hb⟩; refine ⟨_, rfl, ?_⟩; replace HO104 := zA (zRb (zq2 HO104) hb); replace HO106 := zA (zRb (zq2 HO106) hb); replace HO110 := zA (zRb (zq2 HO110) hb); replace HO113 := zA (zRb (zq2 HO113) hb); replace HB := zA (zab zq1 hb); (try clear hb)))
 go_ret2
 exact ⟨_, zq4, zq24 HO113, zq1⟩
def ze5 (k : Nat) (l0 : List (S69)) (a1 : Int) : Option ((List (S62)) × Bool) := (zem k l0 a1).bind fun bt101 => (if bt101.2 = true then ((zfm k bt101.1).bind fun t105 => ((zdx k t105).bind fun t108 => (some (t108, true)))) else (some (([] : List (S62)), false)))
theorem zl9 : ∀ a0 a1 k, LeO (ze5 k a0 a1) (ze5 (k + 1) a0 a1) := by
 intro a0 a1 k
 unfold ze5
 exact zm3 zri zqm zpl
theorem zds (k : Nat) (A0 : Option Addr) (c0 : Nat) (l0 : List (S69)) (a1 : Int) (r1 : List (S62)) (r2 : Bool) (w : World) (hr0 : Kd.C k69 w A0 l0.length l0) (hc0 : l0.length ≤ c0) (h : ze5 k l0 a1 = some (r1, r2)) :
   Calls Tryz.prog 104 #[.slice A0 l0.length c0, .int .i64 a1] w fun e w' => ∃ v0_ : Value, e = .returned (.tuple #[v0_, .bool r2]) ∧ Kd.R k62 62 w' w.heap.size (fun _ => True) v0_ r1 ∧ Below w.heap.size w w' := by
 have HR0 := zA hr0
 have HC0 := zA hc0
 clear hr0 hc0
 have HB := zA (Below.refl w.heap.size w)
 have H := h
 unfold ze5 at H
 clear h
 replace H := zob H
 obtain ⟨⟨t101, t102⟩, A30, H⟩ := H
 have A3 := zA A30
 clear A30
 by_cases c4 : t102 = true
 rotate_left
 · replace c4 := zbf c4
   subst c4
   replace H := zif H
   simp only [Option.some.injEq, Prod.mk.injEq] at H
   obtain ⟨rfl, rfl⟩ := H
   go_enter Tryz.func104, Tryz.ntmps104
   go_wp2_with (first | ((with_reducible refine zgc 139 ?_); refine zca 11 Tryz.func139 #[.slice A0 l0.length c0, .int .i64 a1] (zkm k _ _ l0 a1 t101 false _ (zq10 HR0) HC0.out A3.out) ?_; rintro e w12 ⟨v103, rfl, ho0, hb⟩; refine ⟨_, rfl, ?_⟩; have HO104 := zA (Kd.R_lower ho0 (zag zq1)); replace HB := zA (zab zq1 hb); (try clear hb); (try clear ho0)))
   go_ret2
   exact ⟨_, zq4, zq38, zq1⟩
 subst c4
 replace H := zih H
 replace H := zob H
 obtain ⟨t105, A50, H⟩ := H
 have A5 := zA A50
 clear A50
 replace H := zob H
 obtain ⟨t108, A60, H⟩ := H
 have A6 := zA A60
 clear A60
 simp only [Option.some.injEq, Prod.mk.injEq] at H
 obtain ⟨rfl, rfl⟩ := H
 go_enter Tryz.func104, Tryz.ntmps104
 go_wp2_with (first | ((with_reducible refine zgc 139 ?_); refine zca 11 Tryz.func139 #[.slice A0 l0.length c0, .int .i64 a1] (zkm k _ _ l0 a1 t101 true _ (zq10 HR0) HC0.out A3.out) ?_; rintro e w7 ⟨v103, rfl, ho0, hb⟩; refine ⟨_, rfl, ?_⟩; have HO104 := zA (Kd.R_lower ho0 (zag zq1)); replace HB := zA (zab zq1 hb); (try clear hb); (try clear ho0); obtain ⟨Ao8, co8, eo8⟩ := Kd.R_slice HO104.out; subst eo8) | ((with_reducible refine zgc 141 ?_); refine zca 17 Tryz.func141 #[.slice Ao8 t101.length co8] (zql k _ _ t101 t105 _ (zq19 HO104) (zq47 HO104) A5.out) ?_; rintro e w9 ⟨v106, rfl, ho0, hb⟩; refine ⟨_, rfl, ?_⟩; have HO107 := zA (Kd.R_lower (Kd.R_new' ho0 (Kd.R_lt (zq2 HO104))) (zag zq1)); replace HO104 := zA (Kd.R_elder' (zq2 HO104) (Kd.R_base ho0) hb); replace HB := zA (zab zq1 hb); (try clear hb); (try clear ho0); obtain ⟨Ao10, co10, eo10⟩ := Kd.R_slice HO107.out; subst eo10) | ((with_reducible refine zgc 140 ?_); refine zca 18 Tryz.func140 #[.slice Ao10 t105.length co10] (zph k _ _ t105 t108 _ (zq19 HO107) (zq47 HO107) A6.out) ?_; rintro e w11 ⟨v109, rfl, ho0, hb⟩; refine ⟨_, rfl, ?_⟩; have HO110 := zA (Kd.R_lower (Kd.R_new' (Kd.R_new' ho0 (Kd.R_lt (zq2 HO104))) (Kd.R_lt (zq2 HO107))) (zag zq1)); replace HO104 := zA (Kd.R_elder' (zq2 HO104) (Kd.R_base ho0) hb); replace HO107 := zA (Kd.R_elder' (zq2 HO107) (Kd.R_base ho0) hb); replace HB := zA (zab zq1 hb); (try clear hb); (try clear ho0)))
 go_ret2
 exact ⟨_, zq4, zq24 HO110, zq1⟩
def zcq : Nat → List (S69) → List (S69) → Bool → List Int → Int → Int → Option (Bool × Bool)
 | 0, _, _, _, _, _, _ => none
 | k + 1, x0, x1, x8, x15, x16, x17 => if x17 < x16 then (if 0 ≤ x17 then (if x17 < (x15.length : Int) then ((ze5 k x0 (rd x15 x17)).bind fun bt102 => ((ze5 k x1 (rd x15 x17)).bind fun bt106 => (if bt102.2 = true then (if bt106.2 = true then (if x8 = true then ((zgl k bt102.1 bt106.1).bind fun t110 => (zcq k x0 x1 t110 x15 x16 (wrap64 (x17 + 1)))) else (zcq k x0 x1 false x15 x16 (wrap64 (x17 + 1)))) else (some (false, false))) else (some (false, false))))) else (none)) else (none)) else (some (x8, true))
def zfs (k : Nat) (l0 : List (S69)) (l1 : List (S69)) (l2 : List Int) : Option (Bool × Bool) := zcq k l0 l1 true l2 (l2.length : Int) 0
theorem zko : ∀ k, (∀ y0 y1 y2 y3 y4 y5, LeO (zcq k y0 y1 y2 y3 y4 y5) (zcq (k + 1) y0 y1 y2 y3 y4 y5))
 | 0 => fun _ _ _ _ _ _ r h => by simp [zcq] at h
 | k + 1 => by
   have ih0 := zko k
   · intro y0 y1 y2 y3 y4 y5
     unfold zcq
     exact zm3 ih0 zms zl9
theorem zma : ∀ a0 a1 a2 k, LeO (zfs k a0 a1 a2) (zfs (k + 1) a0 a1 a2) := by
 intro a0 a1 a2 k
 have ih0 := zko k
 unfold zfs
 exact zm3 ih0 zms zl9
theorem zpm (k : Nat) (A0 : Option Addr) (c0 : Nat) (l0 : List (S69)) (A1 : Option Addr) (c1 : Nat) (l1 : List (S69)) (A2 : Option Addr) (c2 : Nat) (l2 : List Int) (r1 : Bool) (r2 : Bool) (w : World) (hr0 : Kd.C k69 w A0 l0.length l0) (hc0 : l0.length ≤ c0) (hr1 : Kd.C k69 w A1 l1.length l1) (hc1 : l1.length ≤ c1) (hr2 : Kd.C (Kd.int .i64) w A2 l2.length l2) (hc2 : l2.length ≤ c2) (h : zfs k l0 l1 l2 = some (r1, r2)) :
   Calls Tryz.prog 70 #[.slice A0 l0.length c0, .slice A1 l1.length c1, .slice A2 l2.length c2] w fun e w' => e = .returned (.tuple #[.bool r1, .bool r2]) ∧ Below w.heap.size w w' := by
 have HR0 := zA hr0
 have HC0 := zA hc0
 clear hr0 hc0
 have HR1 := zA hr1
 have HC1 := zA hc1
 clear hr1 hc1
 have HR2 := zA hr2
 have HC2 := zA hc2
 clear hr2 hc2
 have HB := zA (Below.refl w.heap.size w)
 have H := h
 unfold zfs at H
 clear h
 have H' := zA H
 clear H
 go_enter Tryz.func70, Tryz.ntmps70
 go_wp2
 go_loopg [8, 17] k (fun kq v8 v17 w' => ∃ (x8_1 : Bool) (x17_1 : Int), v8 = .bool x8_1 ∧ v17 = .int .i64 x17_1 ∧ Aside0 (zcq kq l0 l1 x8_1 l2 (l2.length : Int) x17_1 = some (r1, r2)) ∧ Aside0 (kq ≤ k) ∧ Aside0 (Below w.heap.size w w'))
 case atStart => exact ⟨(true), (0), zq5, zq5, H', ⟨zlr _⟩, ⟨zq1⟩⟩
 clear H'
 obtain ⟨x8_1, x17_1, rfl, rfl, HA, HK1, HB⟩ := hrel
 cases gk with
 | zero => exact absurd HA.out (by simp [zcq])
 | succ k1 =>
 have H := HA.out
 clear HA
 simp only [zcq] at H
 revert H
 refine zit (fun c4 H => ?_) fun c4 H => ?_
 rotate_left
 · simp only [Option.some.injEq, Prod.mk.injEq] at H
   obtain ⟨rfl, rfl⟩ := H
   go_wp2
   go_ret2
   exact ⟨zq4, zq1⟩
 revert H
 refine zin fun c5 H => ?_
 revert H
 refine zin fun c6 H => ?_
 replace H := zob H
 obtain ⟨⟨t102, t103⟩, A70, H⟩ := H
 have A7 := zA A70
 clear A70
 replace H := zob H
 obtain ⟨⟨t106, t107⟩, A80, H⟩ := H
 have A8 := zA A80
 clear A80
 by_cases c9 : t103 = true
 rotate_left
 · replace c9 := zbf c9
   subst c9
   replace H := zif H
   simp only [Option.some.injEq, Prod.mk.injEq] at H
   obtain ⟨rfl, rfl⟩ := H
   obtain ⟨p101, q101⟩ := zpq x17_1 l2.length
   obtain ⟨ad101, e101, hx101_0⟩ := Kd.at_int HR2.out x17_1 (zoe p101) (zoe q101)
   cases e101
   replace hx101_0 := zkep HB.out hx101_0
   go_wp2_with (first | ((with_reducible refine zgc 104 ?_); refine zca 24 Tryz.func104 #[.slice A0 l0.length c0, .int .i64 (rd l2 x17_1)] (zds k1 _ _ l0 (rd l2 x17_1) t102 false _ (zq7 HR0) HC0.out A7.out) ?_; rintro e w22 ⟨v104, rfl, ho0, hb⟩; refine ⟨_, rfl, ?_⟩; have HO105 := zA (Kd.R_lower ho0 (zag zq1)); replace HB := zA (zab zq1 hb); (try clear hb); (try clear ho0)) | ((with_reducible refine zgc 104 ?_); refine zca 30 Tryz.func104 #[.slice A1 l1.length c1, .int .i64 (rd l2 x17_1)] (zds k1 _ _ l1 (rd l2 x17_1) t106 t107 _ (zq7 HR1) HC1.out A8.out) ?_; rintro e w23 ⟨v108, rfl, ho0, hb⟩; refine ⟨_, rfl, ?_⟩; have HO109 := zA (Kd.R_lower (Kd.R_new' ho0 (Kd.R_lt (zq2 HO105))) (zag zq1)); replace HO105 := zA (Kd.R_elder' (zq2 HO105) (Kd.R_base ho0) hb); replace HB := zA (zab zq1 hb); (try clear hb); (try clear ho0)))
   go_ret2
   exact ⟨zq4, zq1⟩
 subst c9
 replace H := zih H
 by_cases c10 : t107 = true
 rotate_left
 · replace c10 := zbf c10
   subst c10
   replace H := zif H
   simp only [Option.some.injEq, Prod.mk.injEq] at H
   obtain ⟨rfl, rfl⟩ := H
   obtain ⟨p101, q101⟩ := zpq x17_1 l2.length
   obtain ⟨ad101, e101, hx101_0⟩ := Kd.at_int HR2.out x17_1 (zoe p101) (zoe q101)
   cases e101
   replace hx101_0 := zkep HB.out hx101_0
   go_wp2_with (first | ((with_reducible refine zgc 104 ?_); refine zca 24 Tryz.func104 #[.slice A0 l0.length c0, .int .i64 (rd l2 x17_1)] (zds k1 _ _ l0 (rd l2 x17_1) t102 true _ (zq7 HR0) HC0.out A7.out) ?_; rintro e w20 ⟨v104, rfl, ho0, hb⟩; refine ⟨_, rfl, ?_⟩; have HO105 := zA (Kd.R_lower ho0 (zag zq1)); replace HB := zA (zab zq1 hb); (try clear hb); (try clear ho0)) | ((with_reducible refine zgc 104 ?_); refine zca 30 Tryz.func104 #[.slice A1 l1.length c1, .int .i64 (rd l2 x17_1)] (zds k1 _ _ l1 (rd l2 x17_1) t106 false _ (zq7 HR1) HC1.out A8.out) ?_; rintro e w21 ⟨v108, rfl, ho0, hb⟩; refine ⟨_, rfl, ?_⟩; have HO109 := zA (Kd.R_lower (Kd.R_new' ho0 (Kd.R_lt (zq2 HO105))) (zag zq1)); replace HO105 := zA (Kd.R_elder' (zq2 HO105) (Kd.R_base ho0) hb); replace HB := zA (zab zq1 hb); (try clear hb); (try clear ho0)))
   go_ret2
   exact ⟨zq4, zq1⟩
 subst c10
 replace H := zih H
 by_cases c11 : x8_1 = true
 rotate_left
 · replace c11 := zbf c11
   subst c11
   replace H := zif H
   have H' := zA H
   clear H
   obtain ⟨p101, q101⟩ := zpq x17_1 l2.length
   obtain ⟨ad101, e101, hx101_0⟩ := Kd.at_int HR2.out x17_1 (zoe p101) (zoe q101)
   cases e101
   replace hx101_0 := zkep HB.out hx101_0
   go_wp2_with (first | ((with_reducible refine zgc 104 ?_); refine zca 24 Tryz.func104 #[.slice A0 l0.length c0, .int .i64 (rd l2 x17_1)] (zds k1 _ _ l0 (rd l2 x17_1) t102 true _ (zq7 HR0) HC0.out A7.out) ?_; rintro e w18 ⟨v104, rfl, ho0, hb⟩; refine ⟨_, rfl, ?_⟩; have HO105 := zA (Kd.R_lower ho0 (zag zq1)); replace HB := zA (zab zq1 hb); (try clear hb); (try clear ho0)) | ((with_reducible refine zgc 104 ?_); refine zca 30 Tryz.func104 #[.slice A1 l1.length c1, .int .i64 (rd l2 x17_1)] (zds k1 _ _ l1 (rd l2 x17_1) t106 true _ (zq7 HR1) HC1.out A8.out) ?_; rintro e w19 ⟨v108, rfl, ho0, hb⟩; refine ⟨_, rfl, ?_⟩; have HO109 := zA (Kd.R_lower (Kd.R_new' ho0 (Kd.R_lt (zq2 HO105))) (zag zq1)); replace HO105 := zA (Kd.R_elder' (zq2 HO105) (Kd.R_base ho0) hb); replace HB := zA (zab zq1 hb); (try clear hb); (try clear ho0)))
   go_roundg k1
   case measure => have := HK1.out; omega
   case rel => exact ⟨(false), (wrap64 (x17_1 + 1)), zq5, zq5, H', ⟨zq41 HK1⟩, ⟨zq1⟩⟩
 subst c11
 replace H := zih H
 replace H := zob H
 obtain ⟨t110, A120, H⟩ := H
 have A12 := zA A120
 clear A120
 have H' := zA H
 clear H
 obtain ⟨p101, q101⟩ := zpq x17_1 l2.length
 obtain ⟨ad101, e101, hx101_0⟩ := Kd.at_int HR2.out x17_1 (zoe p101) (zoe q101)
 cases e101
 replace hx101_0 := zkep HB.out hx101_0
 go_wp2_with (first | ((with_reducible refine zgc 104 ?_); refine zca 24 Tryz.func104 #[.slice A0 l0.length c0, .int .i64 (rd l2 x17_1)] (zds k1 _ _ l0 (rd l2 x17_1) t102 true _ (zq7 HR0) HC0.out A7.out) ?_; rintro e w13 ⟨v104, rfl, ho0, hb⟩; refine ⟨_, rfl, ?_⟩; have HO105 := zA (Kd.R_lower ho0 (zag zq1)); replace HB := zA (zab zq1 hb); (try clear hb); (try clear ho0)) | ((with_reducible refine zgc 104 ?_); refine zca 30 Tryz.func104 #[.slice A1 l1.length c1, .int .i64 (rd l2 x17_1)] (zds k1 _ _ l1 (rd l2 x17_1) t106 true _ (zq7 HR1) HC1.out A8.out) ?_; rintro e w14 ⟨v108, rfl, ho0, hb⟩; refine ⟨_, rfl, ?_⟩; have HO109 := zA (Kd.R_lower (Kd.R_new' ho0 (Kd.R_lt (zq2 HO105))) (zag zq1)); replace HO105 := zA (Kd.R_elder' (zq2 HO105) (Kd.R_base ho0) hb); replace HB := zA (zab zq1 hb); (try clear hb); (try clear ho0); obtain ⟨Ao15, co15, eo15⟩ := Kd.R_slice HO105.out; subst eo15; obtain ⟨Ao16, co16, eo16⟩ := Kd.R_slice HO109.out; subst eo16) | (go_at_call 105; (with_reducible refine (zqk k1 _ _ t102 _ _ t106 t110 _ ?side1 ?side2 ?side3 ?side4 A12.out).mono ?_); (case side1 => repeat (first | exact (zRr HO105.out).2.2 | (with_reducible first | refine zCa ?_ _ | refine zCn ?_ _ | refine zCd ?_))); (case side2 => exact (zRr HO105.out).2.1); (case side3 => repeat (first | exact (zRr HO109.out).2.2 | (with_reducible first | refine zCa ?_ _ | refine zCn ?_ _ | refine zCd ?_))); (case side4 => exact (zRr HO109.out).2.1); rintro e w17 ⟨rfl, hb⟩; replace HO105 := zA (zRb (zq2 HO105) hb); replace HO109 := zA (zRb (zq2 HO109) hb); replace HB := zA (zab zq1 hb); (try clear hb)))
 go_roundg k1
 case measure => have := HK1.out; omega
 case rel => exact ⟨(t110), (wrap64 (x17_1 + 1)), zq5, zq5, H', ⟨zq41 HK1⟩, ⟨zq1⟩⟩
def zft (a0_0 : ByteArray) (a0_1 : Int) (a0_2 : Int) (a0_3 : Int) (a0_4 : Int) (l1 : List Int) : Option (Int) := if 0 ≤ a0_2 then (if a0_2 < (l1.length : Int) then (if 0 ≤ a0_3 then (if a0_3 < (l1.length : Int) then (if a0_0.toList = ([115, 101, 116] : List UInt8) then (some a0_4) else (if a0_0.toList = ([109, 111, 118] : List UInt8) then (some (rd l1 a0_2)) else (if a0_0.toList = ([97, 100, 100, 105] : List UInt8) then ((zbr (⟨#[97, 100, 100]⟩ : ByteArray) (rd l1 a0_2) a0_4).bind fun t104 => (some t104)) else (if a0_0.toList = ([97, 110, 100, 105] : List UInt8) then ((zbr (⟨#[97, 110, 100]⟩ : ByteArray) (rd l1 a0_2) a0_4).bind fun t105 => (some t105)) else (if a0_0.toList = ([120, 111, 114, 105] : List UInt8) then ((zbr (⟨#[120, 111, 114]⟩ : ByteArray) (rd l1 a0_2) a0_4).bind fun t106 => (some t106)) else (if a0_0.toList = ([115, 104, 108, 105] : List UInt8) then ((zbr (⟨#[115, 104, 108]⟩ : ByteArray) (rd l1 a0_2) a0_4).bind fun t107 => (some t107)) else (if a0_0.toList = ([115, 104, 114, 105] : List UInt8) then ((zbr (⟨#[115, 104, 114]⟩ : ByteArray) (rd l1 a0_2) a0_4).bind fun t108 => (some t108)) else (if a0_0.toList = ([108, 101, 97] : List UInt8) then ((zbr (⟨#[115, 104, 108]⟩ : ByteArray) (rd l1 a0_3) a0_4).bind fun t109 => ((zbr (⟨#[97, 100, 100]⟩ : ByteArray) (rd l1 a0_2) t109).bind fun t110 => (some t110))) else ((zbr a0_0 (rd l1 a0_2) (rd l1 a0_3)).bind fun t111 => (some t111)))))))))) else (none)) else (none)) else (none)) else (none)
theorem zpn (a0_0 : ByteArray) (a0_1 : Int) (a0_2 : Int) (a0_3 : Int) (a0_4 : Int) (A1 : Option Addr) (c1 : Nat) (l1 : List Int) (r : Int) (w : World) (hr1 : Kd.C (Kd.int .i64) w A1 l1.length l1) (hc1 : l1.length ≤ c1) (h : zft a0_0 a0_1 a0_2 a0_3 a0_4 l1 = some r) :
   Calls Tryz.prog 156 #[.agg #[.string a0_0, .int .i64 a0_1, .int .i64 a0_2, .int .i64 a0_3, .int .i64 a0_4], .slice A1 l1.length c1] w fun e w' => e = .returned (.int .i64 r) ∧ Below w.heap.size w w' := by
 have hu69 := Tryz.underlying69
 have HR1 := zA hr1
 have HC1 := zA hc1
 clear hr1 hc1
 have HB := zA (Below.refl w.heap.size w)
 have H := h
 unfold zft at H
 clear h
 revert H
 refine zin fun c3 H => ?_
 revert H
 refine zin fun c4 H => ?_
 revert H
 refine zin fun c5 H => ?_
 revert H
 refine zin fun c6 H => ?_
 by_cases c7 : a0_0.toList = ([115, 101, 116] : List UInt8)
 · rw [if_pos c7] at H
   obtain ⟨c7b0, c7b1⟩ := zbe c7
   clear c7
   obtain rfl := zsi H
   go_enter Tryz.func156, Tryz.ntmps156
   go_wp2_with (first | ((with_reducible refine zgd 2 ?_); refine zbh zq1 #[.string a0_0, .int .i64 a0_1, .int .i64 a0_2, .int .i64 a0_3, .int .i64 a0_4] 69 ?_; clear HB; intro gb101 w8 HB BK101 GW101; have GE101 := GW101; obtain ⟨hcz9_0, hcz9_1, hcz9_2, hcz9_3, hcz9_4, hfz9_0, hfz9_1, hfz9_2, hfz9_3, hfz9_4⟩ := zd5 BK101; have p102 : 0 ≤ (a0_2 : Int) := zde zq21; have q102 : a0_2 < (l1.length : Int) := zde zq21; obtain ⟨ad102, e102, hx102_0⟩ := Kd.at_int HR1.out a0_2 p102 q102; cases e102; replace hx102_0 := zkep HB.out hx102_0; replace p102 := eq_true p102; replace q102 := eq_true q102; have p103 : 0 ≤ (a0_3 : Int) := zde zq21; have q103 : a0_3 < (l1.length : Int) := zde zq21; obtain ⟨ad103, e103, hx103_0⟩ := Kd.at_int HR1.out a0_3 p103 q103; obtain rfl : ad102 = ad103 := zq63; replace hx103_0 := zkep HB.out hx103_0; replace p103 := eq_true p103; replace q103 := eq_true q103))
   repeat (go_quiet (fail)); try go_wp2_with fail
   go_ret
   exact ⟨zq4, zq3 GE101⟩
 rw [if_neg c7] at H
 obtain ⟨c7b0, c7b1⟩ := zbq c7
 by_cases c10 : a0_0.toList = ([109, 111, 118] : List UInt8)
 · rw [if_pos c10] at H
   obtain ⟨c10b0, c10b1⟩ := zbe c10
   clear c10
   obtain rfl := zsi H
   go_enter Tryz.func156, Tryz.ntmps156
   go_wp2_with (first | ((with_reducible refine zgd 2 ?_); refine zbh zq1 #[.string a0_0, .int .i64 a0_1, .int .i64 a0_2, .int .i64 a0_3, .int .i64 a0_4] 69 ?_; clear HB; intro gb101 w11 HB BK101 GW101; have GE101 := GW101; obtain ⟨hcz12_0, hcz12_1, hcz12_2, hcz12_3, hcz12_4, hfz12_0, hfz12_1, hfz12_2, hfz12_3, hfz12_4⟩ := zd5 BK101; have p102 : 0 ≤ (a0_2 : Int) := zde zq21; have q102 : a0_2 < (l1.length : Int) := zde zq21; obtain ⟨ad102, e102, hx102_0⟩ := Kd.at_int HR1.out a0_2 p102 q102; cases e102; replace hx102_0 := zkep HB.out hx102_0; replace p102 := eq_true p102; replace q102 := eq_true q102; have p103 : 0 ≤ (a0_3 : Int) := zde zq21; have q103 : a0_3 < (l1.length : Int) := zde zq21; obtain ⟨ad103, e103, hx103_0⟩ := Kd.at_int HR1.out a0_3 p103 q103; obtain rfl : ad102 = ad103 := zq63; replace hx103_0 := zkep HB.out hx103_0; replace p103 := eq_true p103; replace q103 := eq_true q103))
   repeat (go_quiet (fail)); try go_wp2_with fail
   go_ret
   exact ⟨zq4, zq3 GE101⟩
 rw [if_neg c10] at H
 obtain ⟨c10b0, c10b1⟩ := zbq c10
 by_cases c13 : a0_0.toList = ([97, 100, 100, 105] : List UInt8)
 · rw [if_pos c13] at H
   obtain ⟨c13b0, c13b1⟩ := zbe c13
   clear c13
   replace H := zob H
   obtain ⟨t104, A140, H⟩ := H
   have A14 := zA A140
   clear A140
   obtain rfl := zsi H
   go_enter Tryz.func156, Tryz.ntmps156
   go_wp2_with (first | ((with_reducible refine zgd 2 ?_); refine zbh zq1 #[.string a0_0, .int .i64 a0_1, .int .i64 a0_2, .int .i64 a0_3, .int .i64 a0_4] 69 ?_; clear HB; intro gb101 w15 HB BK101 GW101; have GE101 := GW101; obtain ⟨hcz16_0, hcz16_1, hcz16_2, hcz16_3, hcz16_4, hfz16_0, hfz16_1, hfz16_2, hfz16_3, hfz16_4⟩ := zd5 BK101; have p102 : 0 ≤ (a0_2 : Int) := zde zq21; have q102 : a0_2 < (l1.length : Int) := zde zq21; obtain ⟨ad102, e102, hx102_0⟩ := Kd.at_int HR1.out a0_2 p102 q102; cases e102; replace hx102_0 := zkep HB.out hx102_0; replace p102 := eq_true p102; replace q102 := eq_true q102; have p103 : 0 ≤ (a0_3 : Int) := zde zq21; have q103 : a0_3 < (l1.length : Int) := zde zq21; obtain ⟨ad103, e103, hx103_0⟩ := Kd.at_int HR1.out a0_3 p103 q103; obtain rfl : ad102 = ad103 := zq63; replace hx103_0 := zkep HB.out hx103_0; replace p103 := eq_true p103; replace q103 := eq_true q103) | (go_at_call 157; (with_reducible refine (zar (⟨#[97, 100, 100]⟩ : ByteArray) (rd l1 a0_2) a0_4 t104 _ A14.out).mono ?_); rintro e w' ⟨rfl, ⟨nd, rfl⟩⟩; (try first | exact ⟨rfl, _, World.drewN_drewN _ _ _⟩ | exact ⟨rfl, _, Eq.trans (World.drewN_drewN _ _ _) (congrArg (World.drewN _) (Nat.add_assoc _ _ _))⟩)))
   repeat (go_quiet ((go_at_call 157; (with_reducible refine (zar (⟨#[97, 100, 100]⟩ : ByteArray) (rd l1 a0_2) a0_4 t104 _ A14.out).mono ?_); rintro e w' ⟨rfl, ⟨nd, rfl⟩⟩; (try first | exact ⟨rfl, _, World.drewN_drewN _ _ _⟩ | exact ⟨rfl, _, Eq.trans (World.drewN_drewN _ _ _) (congrArg (World.drewN _) (Nat.add_assoc _ _ _))⟩)))); try go_wp2_with ((go_at_call 157; (with_reducible refine (zar (⟨#[97, 100, 100]⟩ : ByteArray) (rd l1 a0_2) a0_4 t104 _ A14.out).mono ?_); rintro e w' ⟨rfl, ⟨nd, rfl⟩⟩; (try first | exact ⟨rfl, _, World.drewN_drewN _ _ _⟩ | exact ⟨rfl, _, Eq.trans (World.drewN_drewN _ _ _) (congrArg (World.drewN _) (Nat.add_assoc _ _ _))⟩)))
   go_ret
   exact ⟨zq4, zq3 GE101⟩
 rw [if_neg c13] at H
 obtain ⟨c13b0, c13b1⟩ := zbq c13
 by_cases c17 : a0_0.toList = ([97, 110, 100, 105] : List UInt8)
 · rw [if_pos c17] at H
   obtain ⟨c17b0, c17b1⟩ := zbe c17
   clear c17
   replace H := zob H
   obtain ⟨t105, A180, H⟩ := H
   have A18 := zA A180
   clear A180
   obtain rfl := zsi H
   go_enter Tryz.func156, Tryz.ntmps156
   go_wp2_with (first | ((with_reducible refine zgd 2 ?_); refine zbh zq1 #[.string a0_0, .int .i64 a0_1, .int .i64 a0_2, .int .i64 a0_3, .int .i64 a0_4] 69 ?_; clear HB; intro gb101 w19 HB BK101 GW101; have GE101 := GW101; obtain ⟨hcz20_0, hcz20_1, hcz20_2, hcz20_3, hcz20_4, hfz20_0, hfz20_1, hfz20_2, hfz20_3, hfz20_4⟩ := zd5 BK101; have p102 : 0 ≤ (a0_2 : Int) := zde zq21; have q102 : a0_2 < (l1.length : Int) := zde zq21; obtain ⟨ad102, e102, hx102_0⟩ := Kd.at_int HR1.out a0_2 p102 q102; cases e102; replace hx102_0 := zkep HB.out hx102_0; replace p102 := eq_true p102; replace q102 := eq_true q102; have p103 : 0 ≤ (a0_3 : Int) := zde zq21; have q103 : a0_3 < (l1.length : Int) := zde zq21; obtain ⟨ad103, e103, hx103_0⟩ := Kd.at_int HR1.out a0_3 p103 q103; obtain rfl : ad102 = ad103 := zq63; replace hx103_0 := zkep HB.out hx103_0; replace p103 := eq_true p103; replace q103 := eq_true q103) | (go_at_call 157; (with_reducible refine (zar (⟨#[97, 110, 100]⟩ : ByteArray) (rd l1 a0_2) a0_4 t105 _ A18.out).mono ?_); rintro e w' ⟨rfl, ⟨nd, rfl⟩⟩; (try first | exact ⟨rfl, _, World.drewN_drewN _ _ _⟩ | exact ⟨rfl, _, Eq.trans (World.drewN_drewN _ _ _) (congrArg (World.drewN _) (Nat.add_assoc _ _ _))⟩)))
   repeat (go_quiet ((go_at_call 157; (with_reducible refine (zar (⟨#[97, 110, 100]⟩ : ByteArray) (rd l1 a0_2) a0_4 t105 _ A18.out).mono ?_); rintro e w' ⟨rfl, ⟨nd, rfl⟩⟩; (try first | exact ⟨rfl, _, World.drewN_drewN _ _ _⟩ | exact ⟨rfl, _, Eq.trans (World.drewN_drewN _ _ _) (congrArg (World.drewN _) (Nat.add_assoc _ _ _))⟩)))); try go_wp2_with ((go_at_call 157; (with_reducible refine (zar (⟨#[97, 110, 100]⟩ : ByteArray) (rd l1 a0_2) a0_4 t105 _ A18.out).mono ?_); rintro e w' ⟨rfl, ⟨nd, rfl⟩⟩; (try first | exact ⟨rfl, _, World.drewN_drewN _ _ _⟩ | exact ⟨rfl, _, Eq.trans (World.drewN_drewN _ _ _) (congrArg (World.drewN _) (Nat.add_assoc _ _ _))⟩)))
   go_ret
   exact ⟨zq4, zq3 GE101⟩
 rw [if_neg c17] at H
 obtain ⟨c17b0, c17b1⟩ := zbq c17
 by_cases c21 : a0_0.toList = ([120, 111, 114, 105] : List UInt8)
 · rw [if_pos c21] at H
   obtain ⟨c21b0, c21b1⟩ := zbe c21
   clear c21
   replace H := zob H
   obtain ⟨t106, A220, H⟩ := H
   have A22 := zA A220
   clear A220
   obtain rfl := zsi H
   go_enter Tryz.func156, Tryz.ntmps156
   go_wp2_with (first | ((with_reducible refine zgd 2 ?_); refine zbh zq1 #[.string a0_0, .int .i64 a0_1, .int .i64 a0_2, .int .i64 a0_3, .int .i64 a0_4] 69 ?_; clear HB; intro gb101 w23 HB BK101 GW101; have GE101 := GW101; obtain ⟨hcz24_0, hcz24_1, hcz24_2, hcz24_3, hcz24_4, hfz24_0, hfz24_1, hfz24_2, hfz24_3, hfz24_4⟩ := zd5 BK101; have p102 : 0 ≤ (a0_2 : Int) := zde zq21; have q102 : a0_2 < (l1.length : Int) := zde zq21; obtain ⟨ad102, e102, hx102_0⟩ := Kd.at_int HR1.out a0_2 p102 q102; cases e102; replace hx102_0 := zkep HB.out hx102_0; replace p102 := eq_true p102; replace q102 := eq_true q102; have p103 : 0 ≤ (a0_3 : Int) := zde zq21; have q103 : a0_3 < (l1.length : Int) := zde zq21; obtain ⟨ad103, e103, hx103_0⟩ := Kd.at_int HR1.out a0_3 p103 q103; obtain rfl : ad102 = ad103 := zq63; replace hx103_0 := zkep HB.out hx103_0; replace p103 := eq_true p103; replace q103 := eq_true q103) | (go_at_call 157; (with_reducible refine (zar (⟨#[120, 111, 114]⟩ : ByteArray) (rd l1 a0_2) a0_4 t106 _ A22.out).mono ?_); rintro e w' ⟨rfl, ⟨nd, rfl⟩⟩; (try first | exact ⟨rfl, _, World.drewN_drewN _ _ _⟩ | exact ⟨rfl, _, Eq.trans (World.drewN_drewN _ _ _) (congrArg (World.drewN _) (Nat.add_assoc _ _ _))⟩)))
   repeat (go_quiet ((go_at_call 157; (with_reducible refine (zar (⟨#[120, 111, 114]⟩ : ByteArray) (rd l1 a0_2) a0_4 t106 _ A22.out).mono ?_); rintro e w' ⟨rfl, ⟨nd, rfl⟩⟩; (try first | exact ⟨rfl, _, World.drewN_drewN _ _ _⟩ | exact ⟨rfl, _, Eq.trans (World.drewN_drewN _ _ _) (congrArg (World.drewN _) (Nat.add_assoc _ _ _))⟩)))); try go_wp2_with ((go_at_call 157; (with_reducible refine (zar (⟨#[120, 111, 114]⟩ : ByteArray) (rd l1 a0_2) a0_4 t106 _ A22.out).mono ?_); rintro e w' ⟨rfl, ⟨nd, rfl⟩⟩; (try first | exact ⟨rfl, _, World.drewN_drewN _ _ _⟩ | exact ⟨rfl, _, Eq.trans (World.drewN_drewN _ _ _) (congrArg (World.drewN _) (Nat.add_assoc _ _ _))⟩)))
   go_ret
   exact ⟨zq4, zq3 GE101⟩
 rw [if_neg c21] at H
 obtain ⟨c21b0, c21b1⟩ := zbq c21
 by_cases c25 : a0_0.toList = ([115, 104, 108, 105] : List UInt8)
 · rw [if_pos c25] at H
   obtain ⟨c25b0, c25b1⟩ := zbe c25
   clear c25
   replace H := zob H
   obtain ⟨t107, A260, H⟩ := H
   have A26 := zA A260
   clear A260
   obtain rfl := zsi H
   go_enter Tryz.func156, Tryz.ntmps156
   go_wp2_with (first | ((with_reducible refine zgd 2 ?_); refine zbh zq1 #[.string a0_0, .int .i64 a0_1, .int .i64 a0_2, .int .i64 a0_3, .int .i64 a0_4] 69 ?_; clear HB; intro gb101 w27 HB BK101 GW101; have GE101 := GW101; obtain ⟨hcz28_0, hcz28_1, hcz28_2, hcz28_3, hcz28_4, hfz28_0, hfz28_1, hfz28_2, hfz28_3, hfz28_4⟩ := zd5 BK101; have p102 : 0 ≤ (a0_2 : Int) := zde zq21; have q102 : a0_2 < (l1.length : Int) := zde zq21; obtain ⟨ad102, e102, hx102_0⟩ := Kd.at_int HR1.out a0_2 p102 q102; cases e102; replace hx102_0 := zkep HB.out hx102_0; replace p102 := eq_true p102; replace q102 := eq_true q102; have p103 : 0 ≤ (a0_3 : Int) := zde zq21; have q103 : a0_3 < (l1.length : Int) := zde zq21; obtain ⟨ad103, e103, hx103_0⟩ := Kd.at_int HR1.out a0_3 p103 q103; obtain rfl : ad102 = ad103 := zq63; replace hx103_0 := zkep HB.out hx103_0; replace p103 := eq_true p103; replace q103 := eq_true q103) | (go_at_call 157; (with_reducible refine (zar (⟨#[115, 104, 108]⟩ : ByteArray) (rd l1 a0_2) a0_4 t107 _ A26.out).mono ?_); rintro e w' ⟨rfl, ⟨nd, rfl⟩⟩; (try first | exact ⟨rfl, _, World.drewN_drewN _ _ _⟩ | exact ⟨rfl, _, Eq.trans (World.drewN_drewN _ _ _) (congrArg (World.drewN _) (Nat.add_assoc _ _ _))⟩)))
   repeat (go_quiet ((go_at_call 157; (with_reducible refine (zar (⟨#[115, 104, 108]⟩ : ByteArray) (rd l1 a0_2) a0_4 t107 _ A26.out).mono ?_); rintro e w' ⟨rfl, ⟨nd, rfl⟩⟩; (try first | exact ⟨rfl, _, World.drewN_drewN _ _ _⟩ | exact ⟨rfl, _, Eq.trans (World.drewN_drewN _ _ _) (congrArg (World.drewN _) (Nat.add_assoc _ _ _))⟩)))); try go_wp2_with ((go_at_call 157; (with_reducible refine (zar (⟨#[115, 104, 108]⟩ : ByteArray) (rd l1 a0_2) a0_4 t107 _ A26.out).mono ?_); rintro e w' ⟨rfl, ⟨nd, rfl⟩⟩; (try first | exact ⟨rfl, _, World.drewN_drewN _ _ _⟩ | exact ⟨rfl, _, Eq.trans (World.drewN_drewN _ _ _) (congrArg (World.drewN _) (Nat.add_assoc _ _ _))⟩)))
   go_ret
   exact ⟨zq4, zq3 GE101⟩
 rw [if_neg c25] at H
 obtain ⟨c25b0, c25b1⟩ := zbq c25
 by_cases c29 : a0_0.toList = ([115, 104, 114, 105] : List UInt8)
 · rw [if_pos c29] at H
   obtain ⟨c29b0, c29b1⟩ := zbe c29
   clear c29
   replace H := zob H
   obtain ⟨t108, A300, H⟩ := H
   have A30 := zA A300
   clear A300
   obtain rfl := zsi H
   go_enter Tryz.func156, Tryz.ntmps156
   go_wp2_with (first | ((with_reducible refine zgd 2 ?_); refine zbh zq1 #[.string a0_0, .int .i64 a0_1, .int .i64 a0_2, .int .i64 a0_3, .int .i64 a0_4] 69 ?_; clear HB; intro gb101 w31 HB BK101 GW101; have GE101 := GW101; obtain ⟨hcz32_0, hcz32_1, hcz32_2, hcz32_3, hcz32_4, hfz32_0, hfz32_1, hfz32_2, hfz32_3, hfz32_4⟩ := zd5 BK101; have p102 : 0 ≤ (a0_2 : Int) := zde zq21; have q102 : a0_2 < (l1.length : Int) := zde zq21; obtain ⟨ad102, e102, hx102_0⟩ := Kd.at_int HR1.out a0_2 p102 q102; cases e102; replace hx102_0 := zkep HB.out hx102_0; replace p102 := eq_true p102; replace q102 := eq_true q102; have p103 : 0 ≤ (a0_3 : Int) := zde zq21; have q103 : a0_3 < (l1.length : Int) := zde zq21; obtain ⟨ad103, e103, hx103_0⟩ := Kd.at_int HR1.out a0_3 p103 q103; obtain rfl : ad102 = ad103 := zq63; replace hx103_0 := zkep HB.out hx103_0; replace p103 := eq_true p103; replace q103 := eq_true q103) | (go_at_call 157; (with_reducible refine (zar (⟨#[115, 104, 114]⟩ : ByteArray) (rd l1 a0_2) a0_4 t108 _ A30.out).mono ?_); rintro e w' ⟨rfl, ⟨nd, rfl⟩⟩; (try first | exact ⟨rfl, _, World.drewN_drewN _ _ _⟩ | exact ⟨rfl, _, Eq.trans (World.drewN_drewN _ _ _) (congrArg (World.drewN _) (Nat.add_assoc _ _ _))⟩)))
   repeat (go_quiet ((go_at_call 157; (with_reducible refine (zar (⟨#[115, 104, 114]⟩ : ByteArray) (rd l1 a0_2) a0_4 t108 _ A30.out).mono ?_); rintro e w' ⟨rfl, ⟨nd, rfl⟩⟩; (try first | exact ⟨rfl, _, World.drewN_drewN _ _ _⟩ | exact ⟨rfl, _, Eq.trans (World.drewN_drewN _ _ _) (congrArg (World.drewN _) (Nat.add_assoc _ _ _))⟩)))); try go_wp2_with ((go_at_call 157; (with_reducible refine (zar (⟨#[115, 104, 114]⟩ : ByteArray) (rd l1 a0_2) a0_4 t108 _ A30.out).mono ?_); rintro e w' ⟨rfl, ⟨nd, rfl⟩⟩; (try first | exact ⟨rfl, _, World.drewN_drewN _ _ _⟩ | exact ⟨rfl, _, Eq.trans (World.drewN_drewN _ _ _) (congrArg (World.drewN _) (Nat.add_assoc _ _ _))⟩)))
   go_ret
   exact ⟨zq4, zq3 GE101⟩
 rw [if_neg c29] at H
 obtain ⟨c29b0, c29b1⟩ := zbq c29
 by_cases c33 : a0_0.toList = ([108, 101, 97] : List UInt8)
 rotate_left
 · rw [if_neg c33] at H
   obtain ⟨c33b0, c33b1⟩ := zbq c33
   replace H := zob H
   obtain ⟨t111, A380, H⟩ := H
   have A38 := zA A380
   clear A380
   obtain rfl := zsi H
   go_enter Tryz.func156, Tryz.ntmps156
   go_wp2_with (first | ((with_reducible refine zgd 2 ?_); refine zbh zq1 #[.string a0_0, .int .i64 a0_1, .int .i64 a0_2, .int .i64 a0_3, .int .i64 a0_4] 69 ?_; clear HB; intro gb101 w39 HB BK101 GW101; have GE101 := GW101; obtain ⟨hcz40_0, hcz40_1, hcz40_2, hcz40_3, hcz40_4, hfz40_0, hfz40_1, hfz40_2, hfz40_3, hfz40_4⟩ := zd5 BK101; have p102 : 0 ≤ (a0_2 : Int) := zde zq21; have q102 : a0_2 < (l1.length : Int) := zde zq21; obtain ⟨ad102, e102, hx102_0⟩ := Kd.at_int HR1.out a0_2 p102 q102; cases e102; replace hx102_0 := zkep HB.out hx102_0; replace p102 := eq_true p102; replace q102 := eq_true q102; have p103 : 0 ≤ (a0_3 : Int) := zde zq21; have q103 : a0_3 < (l1.length : Int) := zde zq21; obtain ⟨ad103, e103, hx103_0⟩ := Kd.at_int HR1.out a0_3 p103 q103; obtain rfl : ad102 = ad103 := zq63; replace hx103_0 := zkep HB.out hx103_0; replace p103 := eq_true p103; replace q103 := eq_true q103) | (go_at_call 157; (with_reducible refine (zar a0_0 (rd l1 a0_2) (rd l1 a0_3) t111 _ A38.out).mono ?_); rintro e w' ⟨rfl, ⟨nd, rfl⟩⟩; (try first | exact ⟨rfl, _, World.drewN_drewN _ _ _⟩ | exact ⟨rfl, _, Eq.trans (World.drewN_drewN _ _ _) (congrArg (World.drewN _) (Nat.add_assoc _ _ _))⟩)))
   repeat (go_quiet ((go_at_call 157; (with_reducible refine (zar a0_0 (rd l1 a0_2) (rd l1 a0_3) t111 _ A38.out).mono ?_); rintro e w' ⟨rfl, ⟨nd, rfl⟩⟩; (try first | exact ⟨rfl, _, World.drewN_drewN _ _ _⟩ | exact ⟨rfl, _, Eq.trans (World.drewN_drewN _ _ _) (congrArg (World.drewN _) (Nat.add_assoc _ _ _))⟩)))); try go_wp2_with ((go_at_call 157; (with_reducible refine (zar a0_0 (rd l1 a0_2) (rd l1 a0_3) t111 _ A38.out).mono ?_); rintro e w' ⟨rfl, ⟨nd, rfl⟩⟩; (try first | exact ⟨rfl, _, World.drewN_drewN _ _ _⟩ | exact ⟨rfl, _, Eq.trans (World.drewN_drewN _ _ _) (congrArg (World.drewN _) (Nat.add_assoc _ _ _))⟩)))
   go_ret
   exact ⟨zq4, zq3 GE101⟩
 rw [if_pos c33] at H
 obtain ⟨c33b0, c33b1⟩ := zbe c33
 clear c33
 replace H := zob H
 obtain ⟨t109, A340, H⟩ := H
 have A34 := zA A340
 clear A340
 replace H := zob H
 obtain ⟨t110, A350, H⟩ := H
 have A35 := zA A350
 clear A350
 obtain rfl := zsi H
 go_enter Tryz.func156, Tryz.ntmps156
 go_wp2_with (first | ((with_reducible refine zgd 2 ?_); refine zbh zq1 #[.string a0_0, .int .i64 a0_1, .int .i64 a0_2, .int .i64 a0_3, .int .i64 a0_4] 69 ?_; clear HB; intro gb101 w36 HB BK101 GW101; have GE101 := GW101; obtain ⟨hcz37_0, hcz37_1, hcz37_2, hcz37_3, hcz37_4, hfz37_0, hfz37_1, hfz37_2, hfz37_3, hfz37_4⟩ := zd5 BK101; have p102 : 0 ≤ (a0_2 : Int) := zde zq21; have q102 : a0_2 < (l1.length : Int) := zde zq21; obtain ⟨ad102, e102, hx102_0⟩ := Kd.at_int HR1.out a0_2 p102 q102; cases e102; replace hx102_0 := zkep HB.out hx102_0; replace p102 := eq_true p102; replace q102 := eq_true q102; have p103 : 0 ≤ (a0_3 : Int) := zde zq21; have q103 : a0_3 < (l1.length : Int) := zde zq21; obtain ⟨ad103, e103, hx103_0⟩ := Kd.at_int HR1.out a0_3 p103 q103; obtain rfl : ad102 = ad103 := zq63; replace hx103_0 := zkep HB.out hx103_0; replace p103 := eq_true p103; replace q103 := eq_true q103) | (go_at_call 157; (with_reducible refine (zar (⟨#[115, 104, 108]⟩ : ByteArray) (rd l1 a0_3) a0_4 t109 _ A34.out).mono ?_); rintro e w' ⟨rfl, ⟨nd, rfl⟩⟩; (try first | exact ⟨rfl, _, World.drewN_drewN _ _ _⟩ | exact ⟨rfl, _, Eq.trans (World.drewN_drewN _ _ _) (congrArg (World.drewN _) (Nat.add_assoc _ _ _))⟩)) | (go_at_call 157; (with_reducible refine (zar (⟨#[97, 100, 100]⟩ : ByteArray) (rd l1 a0_2) t109 t110 _ A35.out).mono ?_); rintro e w' ⟨rfl, ⟨nd, rfl⟩⟩; (try first | exact ⟨rfl, _, World.drewN_drewN _ _ _⟩ | exact ⟨rfl, _, Eq.trans (World.drewN_drewN _ _ _) (congrArg (World.drewN _) (Nat.add_assoc _ _ _))⟩)))
 repeat (go_quiet (first | (go_at_call 157; (with_reducible refine (zar (⟨#[115, 104, 108]⟩ : ByteArray) (rd l1 a0_3) a0_4 t109 _ A34.out).mono ?_); rintro e w' ⟨rfl, ⟨nd, rfl⟩⟩; (try first | exact ⟨rfl, _, World.drewN_drewN _ _ _⟩ | exact ⟨rfl, _, Eq.trans (World.drewN_drewN _ _ _) (congrArg (World.drewN _) (Nat.add_assoc _ _ _))⟩)) | (go_at_call 157; (with_reducible refine (zar (⟨#[97, 100, 100]⟩ : ByteArray) (rd l1 a0_2) t109 t110 _ A35.out).mono ?_); rintro e w' ⟨rfl, ⟨nd, rfl⟩⟩; (try first | exact ⟨rfl, _, World.drewN_drewN _ _ _⟩ | exact ⟨rfl, _, Eq.trans (World.drewN_drewN _ _ _) (congrArg (World.drewN _) (Nat.add_assoc _ _ _))⟩)))); try go_wp2_with (first | (go_at_call 157; (with_reducible refine (zar (⟨#[115, 104, 108]⟩ : ByteArray) (rd l1 a0_3) a0_4 t109 _ A34.out).mono ?_); rintro e w' ⟨rfl, ⟨nd, rfl⟩⟩; (try first | exact ⟨rfl, _, World.drewN_drewN _ _ _⟩ | exact ⟨rfl, _, Eq.trans (World.drewN_drewN _ _ _) (congrArg (World.drewN _) (Nat.add_assoc _ _ _))⟩)) | (go_at_call 157; (with_reducible refine (zar (⟨#[97, 100, 100]⟩ : ByteArray) (rd l1 a0_2) t109 t110 _ A35.out).mono ?_); rintro e w' ⟨rfl, ⟨nd, rfl⟩⟩; (try first | exact ⟨rfl, _, World.drewN_drewN _ _ _⟩ | exact ⟨rfl, _, Eq.trans (World.drewN_drewN _ _ _) (congrArg (World.drewN _) (Nat.add_assoc _ _ _))⟩)))
 go_ret
 exact ⟨zq4, zq3 GE101⟩
def zim (l0 : List Int) : Option (List Int) := (some (([] : List Int) : List Int)).bind fun y101 => (if y101.length + l0.length < 17592186044416 then (some (y101 ++ l0)) else (none))
theorem zmy (A0 : Option Addr) (c0 : Nat) (l0 : List Int) (r : List Int) (w : World) (hr0 : Kd.C (Kd.int .i64) w A0 l0.length l0) (hc0 : l0.length ≤ c0) (h : zim l0 = some r) :
   Calls Tryz.prog 119 #[.slice A0 l0.length c0] w fun e w' => ∃ v0_ : Value, e = .returned (v0_) ∧ Kd.R (Kd.int .i64) 3 w' w.heap.size (fun _ => True) v0_ r ∧ Below w.heap.size w w' := by
 have HR0 := zA hr0
 have HC0 := zA hc0
 clear hr0 hc0
 have HB := zA (Below.refl w.heap.size w)
 have H := h
 unfold zim at H
 clear h
 obtain ⟨y101, hy101⟩ : ∃ y_ : List Int, y_ = (([] : List Int)) := ⟨_, rfl⟩
 rw [← hy101] at H; try with_reducible replace H := zbs H
 have Ny101 := zA hy101
 clear hy101
 by_cases c2 : y101.length + l0.length < 17592186044416
 · rw [if_pos c2] at H
   have LMc2 := zA c2
   clear c2
   obtain ⟨y104, hy104⟩ : ∃ y_ : List Int, y_ = (y101 ++ l0) := ⟨_, rfl⟩
   rw [← hy104] at H; try with_reducible replace H := zbs H
   have Ny104 := zA hy104
   clear hy104
   obtain rfl := zsi H
   go_enter Tryz.func119, Tryz.ntmps119
   go_wp2_with (first | ((with_reducible refine zgd 3 ?_); refine Kd.R_lit (Kd.int .i64) _ 3 ?hg (N := 3) ?hd (xs := ([] : List Int)) (inner := []) (ok := fun _ => True) (okp := fun _ => True) ?hr ?hp (fun _ hk => hk) trivial (Below.refl _ _) (zlr _) (by simp) ?_; (case hd => rfl); (case hg => rfl); (case hr => go_simp <;> rfl); (case hp => exact (Reps.none _ _)); intro v102 w3 ho4 hb hg_ hnew_; clear hg_ hnew_; (first | rw [← Ny101.out] at ho4 | (simp only [Int.reduceToNat] at ho4; rw [← Ny101.out] at ho4)); have HO103 := zA (Kd.R_lower ho4 (zag zq1)); replace HB := zA (zab zq1 hb); clear hb ho4) | ((with_reducible refine zfe (b := .append) (xs := #[.tmp 3, .tmp 4]) rfl ?_); at_builtin; refine Kd.R_append_rows (Kd.int .i64) (w0 := w) w.heap.size rfl (.tmp 3) (.tmp 4) 24 3 (.int .i64 0) 8 rfl Tryz.underlying24 zn1 rfl (by decide) (by omega) v102 y101 l0 _ _ _ (fun _ => True) (fun _ => False) rfl rfl ?aO ?aR (fun _ _ h => h) (fun _ h => h.elim) ?aF ?aB ?aS ?aL ?_; (case aR => repeat (first | exact (zCb HR0.out HB.out) | (with_reducible first | refine zCa ?_ _ | refine zCn ?_ _ | refine zCd ?_))); (case aB => exact zq1); (case aF => exact (fun _ _ => trivial)); (case aO => exact (zq2 HO103)); (case aS => exact (zag zq1)); (case aL => have := LMc2.out; omega); intro v105 w5 ho hb hg hat; rw [← Ny104.out] at ho; replace HB := zA (hb); have HO106 := zA (ho); clear HO103; clear ho hb hg hat))
   go_ret
   exact ⟨_, zq4, zq2 HO106, zq1⟩
 · rw [if_neg c2] at H
   exact absurd H (by simp)
def ziy (a0_0 : ByteArray) (a0_1 : Int) (a0_2 : Int) (a0_3 : Int) (a0_4 : Int) (l1 : List Int) : Option (List Int) := (zim l1).bind fun t102 => ((zft a0_0 a0_1 a0_2 a0_3 a0_4 l1).bind fun t105 => (if 0 ≤ a0_1 then (if a0_1 < (t102.length : Int) then (some (t102.set (a0_1 : Int).toNat t105)) else (none)) else (none)))
def spec_cdStep.T2 : Bool × List (List Nat × List Nat) := (true, [([], []), ([], []), ([1], [1]), ([], []), ([], []), ([3, 4], [3, 4]), ([0, 2, 0, 1, 2, 3, 4, 5], [0, 2]), ([6, 5, 5, 0, 1, 2, 3, 4, 5], [5, 6])])
def zs1 : List Nat := [0, 0, 2, 0, 0, 24, 63, 127]
theorem zrm : rtab .any (zwe Tryz.f120 2) = spec_cdStep.T2 := by kernel_rfl
theorem zqr : zjx spec_cdStep.T2.2 zs1 = true := by kernel_rfl
theorem zqs (a0_0 : ByteArray) (a0_1 : Int) (a0_2 : Int) (a0_3 : Int) (a0_4 : Int) (A1 : Option Addr) (c1 : Nat) (l1 : List Int) (r : List Int) (w : World) (hr1 : Kd.C (Kd.int .i64) w A1 l1.length l1) (hc1 : l1.length ≤ c1) (h : ziy a0_0 a0_1 a0_2 a0_3 a0_4 l1 = some r) :
   Calls Tryz.prog 120 #[.agg #[.string a0_0, .int .i64 a0_1, .int .i64 a0_2, .int .i64 a0_3, .int .i64 a0_4], .slice A1 l1.length c1] w fun e w' => ∃ v0_ : Value, e = .returned (v0_) ∧ Kd.R (Kd.int .i64) 3 w' w.heap.size (fun _ => True) v0_ r ∧ Below w.heap.size w w' := by
 have hu69 := Tryz.underlying69
 have HR1 := zA hr1
 have HC1 := zA hc1
 clear hr1 hc1
 have HB := zA (Below.refl w.heap.size w)
 have H := h
 unfold ziy at H
 clear h
 replace H := zob H
 obtain ⟨t102, A30, H⟩ := H
 have A3 := zA A30
 clear A30
 replace H := zob H
 obtain ⟨t105, A40, H⟩ := H
 have A4 := zA A40
 clear A40
 revert H
 refine zin fun c5 H => ?_
 revert H
 refine zin fun c6 H => ?_
 obtain ⟨y106, hy106⟩ : ∃ y_ : List Int, y_ = (t102.set (a0_1 : Int).toNat t105) := ⟨_, rfl⟩
 rw [← hy106] at H; try with_reducible replace H := zbs H
 have Ny106 := zA hy106
 clear hy106
 obtain rfl := zsi H
 go_enter Tryz.func120, Tryz.ntmps120
 try go_wp2_with (first | ((with_reducible refine zgd 2 ?_); refine zbx #[.string a0_0, .int .i64 a0_1, .int .i64 a0_2, .int .i64 a0_3, .int .i64 a0_4] 69 ?_; intro gb101 hg w8 hbox hb; have zs := zpair zq1 hb; replace HB := zA (zs.1); have BK101 := zA (hbox); have GW101 := zA (zge hg zs.2); have GE101 := GW101; clear zs hb hbox hg) | ((with_reducible refine zgc 119 ?_); refine zca 7 Tryz.func119 #[.slice A1 l1.length c1] (zmy _ _ l1 t102 _ (zq7 HR1) HC1.out A3.out) ?_; rintro e w9 ⟨v103, rfl, ho0, hb⟩; refine ⟨_, rfl, ?_⟩; have HO104 := zA (Kd.R_lower ho0 (zag (zq3 GE101))); replace BK101 := zbb BK101 hb; replace HB := zA (zab (zq3 GE101) hb); (try clear hb); (try clear ho0)))
 replace HO104 := zA (zRd HO104.out)
 replace BK101 := zA (zkd BK101.out)
 replace HB := zA (zbd HB.out)
 refine zra (n := 8) (S := fun w' => w'.cell? ⟨gb101, 0, none⟩ = some (.string a0_0) ∧ w'.cell? ⟨gb101, 1, none⟩ = some (.int .i64 a0_1) ∧ w'.cell? ⟨gb101, 2, none⟩ = some (.int .i64 a0_2) ∧ w'.cell? ⟨gb101, 3, none⟩ = some (.int .i64 a0_3) ∧ w'.cell? ⟨gb101, 4, none⟩ = some (.int .i64 a0_4)) (ds := [7]) #[false, false, false, false, false, false, false, false] zq28 rfl rfl ⟨(zad BK101.out 0).trans rfl, (zad BK101.out 1).trans rfl, (zad BK101.out 2).trans rfl, (zad BK101.out 3).trans rfl, (zad BK101.out 4).trans rfl⟩ (fun hHeld => ?_); refine zk0 zrm zqr (fun HT_ HW_ => ?_)
 generalize w9.drew = w10 at HO104 BK101 HB hHeld ⊢
 refine zpu 0 8 HT_ ?_
 refine zpu 1 9 HT_ ?_
 refine zpu 4 12 HT_ ?_
 refine ztu 2 10 HT_ HW_ hHeld ?_
 refine ztu 3 11 HT_ HW_ hHeld ?_
 refine one_ (i := 5) (N := some 13) #[true, true, true, true, true, true, false, false] rfl rfl (zoj HT_.out zq28) (by decide) (fun K hK => ?_)
 refine zsj Tryz.func156 zq28 rfl #[.agg #[.string a0_0, .int .i64 a0_1, .int .i64 a0_2, .int .i64 a0_3, .int .i64 a0_4], .slice A1 l1.length c1] (by rfl) rfl rfl zq54 ?_
 with_reducible refine (zpn a0_0 a0_1 a0_2 a0_3 a0_4 _ _ l1 t105 _ ?side1 ?side2 A4.out).mono ?_
 (case side1 => repeat (first | exact (zCb HR1.out HB.out) | (with_reducible first | refine zCa ?_ _ | refine zCn ?_ _ | refine zCd ?_)))
 (case side2 => exact HC1.out)
 rintro e w11 ⟨rfl, hb⟩
 refine ⟨_, rfl, ?_⟩
 replace HO104 := zA (zRb (zq2 HO104) hb)
 replace BK101 := zA (zah (g := gb101) (o := .cells #[.string a0_0, .int .i64 a0_1, .int .i64 a0_2, .int .i64 a0_3, .int .i64 a0_4] 69 (0, 0)) (zq8 BK101) hb)
 replace HB := zA (zab (zq3 GE101) hb)
 (try clear hb)
 (try clear hb2)
 (try clear hk)
 (try clear hi)
 have p7 : 0 ≤ (a0_1 : Int) := zde zq21
 have q7 : (a0_1 : Int) < ((t102.length : Int) : Int) := zde zq21
 obtain ⟨go7, co7, eo7, gb7, gl7, cl7, HG7⟩ := Kd.R_form HO104.out (by omega)
 (first | cases eo7 | (injection eo7 with ea_ en_ ec_; (first | subst ea_ | (injection ea_ with ea_; subst ea_)); subst ec_; clear en_))
 have GB7 := zA gb7
 have GG7 := zA HG7
 clear gb7 gl7 HG7
 obtain ⟨hx7_0, hf7_0⟩ := Kd.R_celln 0 HO104.out (a0_1 : Int) p7 q7
 replace p7 := eq_true p7
 replace q7 := eq_true q7
 have HP12 := Kd.R_putn HO104.out (a0_1 : Int) t105
 rw [← Ny106.out] at HP12
 have HQ12 := zA HP12
 clear HP12
 refine hK.out _ _ ⟨(zad BK101.out 0).trans rfl, (zad BK101.out 1).trans rfl, (zad BK101.out 2).trans rfl, (zad BK101.out 3).trans rfl, (zad BK101.out 4).trans rfl⟩ (fun hHeld => ?_)
 clear hK K
 refine znm 13 ?_
 refine zpu 6 14 HT_ ?_
 refine yd9 (i := 7) (N := none) #[true, true, true, true, true, true, true, true] rfl rfl (zoj HT_.out zq28) (by decide) (fun K hK => ?_)
 refine zs5 (w1 := ?_) (by rfl) rfl ?_ ?_
 rotate_left
 · go_simp
   rfl
 refine hK.out _ _ ?_
 clear hK K
 refine zvd (zo1 HT_.out zq28) ?_
 try go_wp2
 go_ret
 exact ⟨_, zq4, zq2 HQ12, zq11 GB7 GE101⟩
end Go.Proofs.YtnaafcleafbejaaGreat.Q
end
