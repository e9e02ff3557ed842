/- Proved here: contracts of functions that the law FnExactFewestSteps reaches, and lemmas on what they compute; texts of this session and the printed words of the kit that they lean on, cut down and put together by its program link.py. Conditions: as each states. -/
import Derived.Deep.DeepMust
import Derived.Laws.EntriesVeiled
import Derived.Test.YtnaafcleafbejaaZFnExactFewestSteps1
import Derived.Test.YtnaafcleafbejaaZFnExactFewestSteps2
section
namespace Go.Proofs.Ytnaafcleafbejaa.Q
open Go.RowKit Go.Proofs.YtnaafcleafbejaaW.PrintWords Go.Proofs.YtnaafcleafbejaaW.PrintLast Go.Proofs.YtnaafcleafbejaaW.PrintMore
attribute [local go_sem] max2_int min2_int max_two min_two max_three min_three max_four min_four
set_option linter.unusedVariables false
set_option linter.unusedSimpArgs false
def shL (k : Nat) (os : List ByteArray) (ims : List Int) (goal : List Int) (ac : List S64 → List (List Int) → Option Bool) : Nat → Nat → Option (List S64 × Bool)
  | 0, _ => some ([], false)
  | m + 1, i => (pgP k os ims (i : Int) (rcSt k (i : Int) goal (shSt ac)) (([] : List S64), false)).bind fun r => if r.2.2 = true then some (r.2.1, true) else shL k os ims goal ac m (i + 1)
def shF (k : Nat) (l0 : List S60) (os : List ByteArray) (ims : List Int) (most : Int) (ac : List S64 → List (List Int) → Option Bool) : Option (List S64 × Bool) :=
  (impl_isSearch.f k l0 os ims most).bind fun ok => if ok = true then if 0 ≤ most ∧ most < 1048576 then (impl_tableOf.f k l0).bind fun tb => (impl_columnOf.f k tb).bind fun goal => shL k os ims goal ac (most + 1).toNat 0 else none else some ([], false)
section
variable {fa : FuncId} {ea : Array Value} {ac : List S64 → List (List Int) → Option Bool}
set_option maxHeartbeats 8000000 in
set_option maxRecDepth 100000 in
theorem shortCalls (k : Nat) (hA : AccC fa ea ac) (A0 : Option Addr) (c0 : Nat) (l0 : List S60) (Ao : Option Addr) (co : Nat) (os : List ByteArray) (Ai : Option Addr) (ci : Nat) (ims : List Int) (most : Int) (r1 : List S64) (r2 : Bool) (w : World) (hr0 : Kd.C k60 w A0 l0.length l0) (hc0 : l0.length ≤ c0)
    (hro : Kd.C Kd.string w Ao os.length os) (hco : os.length ≤ co) (hri : Kd.C (Kd.int .i64) w Ai ims.length ims) (hci : ims.length ≤ ci) (h : shF k l0 os ims most ac = some (r1, r2)) :
    Calls Try.prog 80 #[.slice A0 l0.length c0, .agg #[.slice Ao os.length co, .slice Ai ims.length ci], .int .i64 most, .func (.func fa) #[] ea] w fun e w' => ∃ v0_ : Value, e = .returned (.tuple #[v0_, .bool r2]) ∧ Kd.R k64 64 w' w.heap.size (fun _ => True) v0_ r1 ∧ Below w.heap.size w w' := by
  have HA := Aside0.mk hA
  have HE := Aside0.mk hr0
  have HCE := Aside0.mk hc0
  have HO := Aside0.mk hro
  have HM := Aside0.mk hri
  have HCO := Aside0.mk hco
  have HCI := Aside0.mk hci
  unfold shF at h
  obtain ⟨ok, hok, h⟩ := Option.bind_eq_some_iff.1 h
  have HOK := Aside0.mk hok
  have HH := Aside0.mk h
  clear hA hr0 hc0 hro hri hco hci hok h
  go_enter Try.func80, Try.ntmps80
  go_upto_region 1 with fail
  obtain ⟨W0, hW0⟩ : ∃ W0, (w.alloc (.cells #[.slice Ao os.length co, .slice Ai ims.length ci] 35)).alloc (.cells #[.func (.func fa) #[] ea] 111) = W0 := ⟨_, rfl⟩
  have HB := Aside0.mk (show Below w.heap.size w W0 from hW0 ▸ zba (zba (Below.refl _ _) _) _)
  have B1 := Aside0.mk (show W0.heap[w.heap.size]? = some (.cells #[.slice Ao os.length co, .slice Ai ims.length ci] 35 (0, 0)) from hW0 ▸ zka (blk_new w _) _)
  have B2 := Aside0.mk (show W0.heap[w.heap.size + 1]? = some (.cells #[.func (.func fa) #[] ea] 111 (0, 0)) by rw [← hW0]; simpa using blk_new (w.alloc (.cells #[.slice Ao os.length co, .slice Ai ims.length ci] 35)) (.cells #[.func (.func fa) #[] ea] 111))
  rw [hW0]
  clear hW0
  have q1 := blk_cell B1.out 0
  have q2 := blk_cell B1.out 1
  cases ok with
  | false =>
    obtain ⟨rfl, rfl⟩ := Prod.mk.inj (Option.some.inj ((if_neg (by decide)).symm.trans HH.out))
    clear HH
    go_wp2_with (go_at_call 108; go_must (refine (impl_isSearch.calls k A0 c0 l0 Ao co os Ai ci ims most false _ (Kd.C_below HE.out HB.out) HCE.out (Kd.C_below HO.out HB.out) HCO.out (Kd.C_below HM.out HB.out) HCI.out HOK.out).mono ?_; rintro e w1 ⟨rfl, hb⟩; have HB1 := Aside0.mk (below_step HB.out hb); clear hb))
    go_ret2
    exact ⟨_, rfl, Kd.R_nil _ _ _ _ _, (by repeat (first | exact HB1.out | apply zbn | apply zbd))⟩
  | true =>
    have h := HH.out
    rw [if_pos rfl] at h
    have hmo : 0 ≤ most ∧ most < 1048576 := by
      by_cases q : 0 ≤ most ∧ most < 1048576
      · exact q
      · rw [if_neg q] at h
        cases h
    rw [if_pos hmo] at h
    obtain ⟨tb, htb, h⟩ := Option.bind_eq_some_iff.1 h
    obtain ⟨goal, hgo, h⟩ := Option.bind_eq_some_iff.1 h
    have HMO := Aside0.mk hmo
    have HTB := Aside0.mk htb
    have HGO := Aside0.mk hgo
    have HL := Aside0.mk h
    have hwm : wrap64 (most + 1) = most + 1 := by unfold wrap64; omega
    have HWM := Aside0.mk hwm
    clear HH h hmo htb hgo hwm
    go_wp2_with (first
      | (go_at_call 108; go_must (refine (impl_isSearch.calls k A0 c0 l0 Ao co os Ai ci ims most true _ (Kd.C_below HE.out HB.out) HCE.out (Kd.C_below HO.out HB.out) HCO.out (Kd.C_below HM.out HB.out) HCI.out HOK.out).mono ?_; rintro e w1 ⟨rfl, hb⟩; have HB1 := Aside0.mk hb; clear hb))
      | (go_at_call 38; go_must (refine (impl_tableOf.calls k A0 c0 l0 tb _ (Kd.C_below HE.out (below_step HB.out HB1.out)) HCE.out HTB.out).mono ?_; rintro e w2 ⟨vt, rfl, hR, hb⟩; have HB2 := Aside0.mk (below_step HB1.out hb); obtain ⟨At, ct, rfl⟩ := Kd.R_slice hR; have HR2 := Aside0.mk (Kd.R_reads' hR).2; clear hR hb))
      | (go_at_call 37; go_must (refine (impl_columnOf.calls k At ct tb goal _ HR2.out.2 HR2.out.1 HGO.out).mono ?_; rintro e w3 ⟨vg, rfl, hR, hb⟩; have HB3 := Aside0.mk (below_step HB2.out hb); obtain ⟨Ag, cg, rfl⟩ := Kd.R_slice hR; have HR3 := Aside0.mk hR; have B13 := Aside0.mk (blk_below B1.out HB3.out); have B23 := Aside0.mk (blk_below B2.out HB3.out); have HBW := Aside0.mk (below_step HB.out HB3.out); clear hR hb HR2 HB2 HB1 HB B1 B2 HOK HTB HGO q1 q2)))
    rw [HWM.out]
    go_loopw [24] (fun v24 wr => ∃ (i m : Nat), v24 = .int .i64 (i : Int) ∧ i + m = (most + 1).toNat ∧ Aside0 (shL k os ims goal ac m i = some (r1, r2)) ∧ Aside0 (Below w3.heap.size w3 wr)) (fun v24 _ => (most + 1).toNat - (intOf v24).toNat)
    case atStart => exact ⟨0, _, rfl, by simp, HL, ⟨(by repeat (first | exact Below.refl _ _ | apply zbn | apply zbd))⟩⟩
    case round =>
      clear HL
      obtain ⟨i, m, rfl, him, HL, HBR⟩ := hrel
      have BC := Aside0.mk (blk_below B13.out HBR.out)
      have BA := Aside0.mk (blk_below B23.out HBR.out)
      have q1 := blk_cell BC.out 0
      have q2 := blk_cell BC.out 1
      cases m with
      | zero =>
        obtain ⟨rfl, rfl⟩ := Prod.mk.inj (Option.some.inj (show some (([] : List S64), false) = some (r1, r2) from HL.out))
        have hmo := HMO.out
        have d1 : decide ((i : Int) < most + 1) = false := decide_eq_false (by omega)
        clear hmo him HL
        go_wp2_with fail
        go_ret2
        exact ⟨_, rfl, Kd.R_nil _ _ _ _ _, (below_step HBW.out (by repeat (first | exact HBR.out | apply zbn | apply zbd)))⟩
      | succ m =>
        have hmo := HMO.out
        have d1 : decide ((i : Int) < most + 1) = true := decide_eq_true (by omega)
        have hw : wrap64 ((i : Int) + 1) = ((i + 1 : Nat) : Int) := by unfold wrap64; omega
        have HW := Aside0.mk hw
        have h := HL.out
        simp only [shL] at h
        obtain ⟨⟨b, out, found⟩, hp, h⟩ := Option.bind_eq_some_iff.1 h
        have HP := Aside0.mk hp
        have HN := Aside0.mk h
        have HIM := Aside0.mk him
        clear h hp HL hw hmo him
        cases found with
        | true =>
          obtain ⟨rfl, rfl⟩ := Prod.mk.inj (Option.some.inj ((if_pos rfl).symm.trans HN.out))
          clear HN
          go_wp2_with (first
            | ((with_reducible refine gate_dst (N := 12) rfl ?_); go_must (refine box_event ?hg (N := 12) ?hd (cs := #[.slice none 0 0]) (t := 37) ?hr ?_; (case hd => rfl); (case hg => rfl); (case hr => first | (go_simp; done) | (go_simp; rfl)); intro go hg w5 hbox hb; have GO := Aside0.mk hg; have BO := Aside0.mk hbox; have HB5 := Aside0.mk hb; clear hg hbox hb))
            | ((with_reducible refine gate_dst (N := 13) rfl ?_); go_must (refine box_event ?hg (N := 13) ?hd (cs := #[.bool false]) (t := 4) ?hr ?_; (case hd => rfl); (case hg => rfl); (case hr => first | (go_simp; done) | (go_simp; rfl)); intro gf hg w6 hbox hb; have GF := Aside0.mk hg; have BF := Aside0.mk hbox; have HB6 := Aside0.mk hb; have BO6 := Aside0.mk (blk_below BO.out hb); clear hg hbox hb))
            | ((with_reducible refine gate_store (t := 37) (p := 12) rfl ?_); go_must (refine fill_event rfl (t := 37) (p := 12) rfl rfl (g := go) (u := .slice none 0 0) (seg := [.slice none 0 0]) rfl rfl BO6.out rfl rfl rfl (by simp [Value.oneCell']) ?_; intro w7 hbb hbw hfar; have HZ := Aside0.mk (show wr.heap.size ≤ go ∧ go < gf by have h1 := GO.out; have h2 := GF.out; have h3 := HB5.out.size; have h4 := blk_lt BO.out; first | omega | (simp at h1; omega)); have BO7 := Aside0.mk hbb; have BF7 := Aside0.mk ((hfar gf (by have := HZ.out; omega)).trans BF.out); have HB7 := Aside0.mk ((below_step HB5.out HB6.out).trans (hbw _ (by have := HZ.out; have h1 := GO.out; first | omega | (simp at h1; omega)))); clear hbb hbw hfar))
            | ((with_reducible refine gate_store (t := 4) (p := 13) rfl ?_); go_must (refine fill_event rfl (t := 4) (p := 13) rfl rfl (g := gf) (u := .bool false) (seg := [.bool false]) rfl rfl BF7.out rfl rfl rfl (by simp [Value.oneCell']) ?_; intro w8 hbb hbw hfar; have HB8 := Aside0.mk (show Below wr.heap.size wr w8 from (show Below wr.heap.size wr w7 from HB7.out.mono (by simp)).trans (hbw _ (by have := HZ.out; omega))); have HI8 := Aside0.mk (show ShI w3 fa ea (w.heap.size + 1) go gf ([], false) w8 from ⟨below_step HBR.out HB8.out, ⟨by have := HZ.out; have := HBR.out.size; omega, by have := HZ.out; have := HBR.out.size; have := blk_lt B23.out; omega, HZ.out.2⟩, blk_below BA.out HB8.out, ⟨_, (hfar go (by have := HZ.out; omega)).trans BO7.out, Kd.R_nil _ _ _ _ _⟩, hbb⟩); have q1 := blk_cell (blk_below BC.out HB8.out) 0; have q2 := blk_cell (blk_below BC.out HB8.out) 1; clear hbb hbw hfar))
            | (go_at_call 109; go_must (refine (reCalls k (shEach HA.out) Ao co os Ai ci ims (i : Int) Ag cg goal ([], false) _ b w8 HI8.out (by have h1 := blk_lt HI8.out.bf; have h2 := HI8.out.hs; rintro k (rfl | rfl) <;> omega) (Kd.C_below HO.out (below_step HBW.out HI8.out.below)) HCO.out (Kd.C_below HM.out (below_step HBW.out HI8.out.below)) HCI.out (Kd.R_reads' HR3.out).2.1 (fun W' hk => (Kd.R_reads' (Kd.R_step (Kd.R_bound HR3.out) (fun k hk' hlt => (hk.2 k (Nat.lt_of_lt_of_le hlt HI8.out.below.size) (by have h2 := HI8.out.hs; rintro (rfl | rfl) <;> omega)).trans (HI8.out.below.block k hlt)))).2.2) HP.out).mono ?_; rintro e w9 ⟨u, rfl, hI, hK⟩; obtain ⟨vo, ho, hro⟩ := hI.bo; have HI9 := Aside0.mk hI; have RO := Aside0.mk hro; have q3 := blk_cell hI.bf 0; have q4 := blk_cell ho 0; clear hI hK ho hro)))
          go_ret2
          exact ⟨_, rfl, Kd.R_lower (Kd.R_mono RO.out (fun _ _ => trivial)) HBW.out.size, below_step HBW.out HI9.out.below⟩
        | false =>
          have HN := Aside0.mk (show shL k os ims goal ac m (i + 1) = some (r1, r2) from HN.out)
          go_wp2_with (first
            | ((with_reducible refine gate_dst (N := 12) rfl ?_); go_must (refine box_event ?hg (N := 12) ?hd (cs := #[.slice none 0 0]) (t := 37) ?hr ?_; (case hd => rfl); (case hg => rfl); (case hr => first | (go_simp; done) | (go_simp; rfl)); intro go hg w5 hbox hb; have GO := Aside0.mk hg; have BO := Aside0.mk hbox; have HB5 := Aside0.mk hb; clear hg hbox hb))
            | ((with_reducible refine gate_dst (N := 13) rfl ?_); go_must (refine box_event ?hg (N := 13) ?hd (cs := #[.bool false]) (t := 4) ?hr ?_; (case hd => rfl); (case hg => rfl); (case hr => first | (go_simp; done) | (go_simp; rfl)); intro gf hg w6 hbox hb; have GF := Aside0.mk hg; have BF := Aside0.mk hbox; have HB6 := Aside0.mk hb; have BO6 := Aside0.mk (blk_below BO.out hb); clear hg hbox hb))
            | ((with_reducible refine gate_store (t := 37) (p := 12) rfl ?_); go_must (refine fill_event rfl (t := 37) (p := 12) rfl rfl (g := go) (u := .slice none 0 0) (seg := [.slice none 0 0]) rfl rfl BO6.out rfl rfl rfl (by simp [Value.oneCell']) ?_; intro w7 hbb hbw hfar; have HZ := Aside0.mk (show wr.heap.size ≤ go ∧ go < gf by have h1 := GO.out; have h2 := GF.out; have h3 := HB5.out.size; have h4 := blk_lt BO.out; first | omega | (simp at h1; omega)); have BO7 := Aside0.mk hbb; have BF7 := Aside0.mk ((hfar gf (by have := HZ.out; omega)).trans BF.out); have HB7 := Aside0.mk ((below_step HB5.out HB6.out).trans (hbw _ (by have := HZ.out; have h1 := GO.out; first | omega | (simp at h1; omega)))); clear hbb hbw hfar))
            | ((with_reducible refine gate_store (t := 4) (p := 13) rfl ?_); go_must (refine fill_event rfl (t := 4) (p := 13) rfl rfl (g := gf) (u := .bool false) (seg := [.bool false]) rfl rfl BF7.out rfl rfl rfl (by simp [Value.oneCell']) ?_; intro w8 hbb hbw hfar; have HB8 := Aside0.mk (show Below wr.heap.size wr w8 from (show Below wr.heap.size wr w7 from HB7.out.mono (by simp)).trans (hbw _ (by have := HZ.out; omega))); have HI8 := Aside0.mk (show ShI w3 fa ea (w.heap.size + 1) go gf ([], false) w8 from ⟨below_step HBR.out HB8.out, ⟨by have := HZ.out; have := HBR.out.size; omega, by have := HZ.out; have := HBR.out.size; have := blk_lt B23.out; omega, HZ.out.2⟩, blk_below BA.out HB8.out, ⟨_, (hfar go (by have := HZ.out; omega)).trans BO7.out, Kd.R_nil _ _ _ _ _⟩, hbb⟩); have q1 := blk_cell (blk_below BC.out HB8.out) 0; have q2 := blk_cell (blk_below BC.out HB8.out) 1; clear hbb hbw hfar))
            | (go_at_call 109; go_must (refine (reCalls k (shEach HA.out) Ao co os Ai ci ims (i : Int) Ag cg goal ([], false) _ b w8 HI8.out (by have h1 := blk_lt HI8.out.bf; have h2 := HI8.out.hs; rintro k (rfl | rfl) <;> omega) (Kd.C_below HO.out (below_step HBW.out HI8.out.below)) HCO.out (Kd.C_below HM.out (below_step HBW.out HI8.out.below)) HCI.out (Kd.R_reads' HR3.out).2.1 (fun W' hk => (Kd.R_reads' (Kd.R_step (Kd.R_bound HR3.out) (fun k hk' hlt => (hk.2 k (Nat.lt_of_lt_of_le hlt HI8.out.below.size) (by have h2 := HI8.out.hs; rintro (rfl | rfl) <;> omega)).trans (HI8.out.below.block k hlt)))).2.2) HP.out).mono ?_; rintro e w9 ⟨u, rfl, hI, hK⟩; obtain ⟨vo, ho, hro⟩ := hI.bo; have HI9 := Aside0.mk hI; have RO := Aside0.mk hro; have q3 := blk_cell hI.bf 0; have q4 := blk_cell ho 0; clear hI hK ho hro)))
          go_roundw
          case rel => exact ⟨i + 1, m, by rw [HW.out], by have := HIM.out; omega, HN, ⟨(HI9.out.step (by repeat (first | exact Below.refl _ _ | apply zbn | apply zbd))).below⟩⟩
          case measure => rw [HW.out]; have := HIM.out; simp [intOf]; omega
end
end Go.Proofs.Ytnaafcleafbejaa.Q
end
section
namespace Go.Proofs.Ytnaafcleafbejaa.Q
open Go.RowKit Go.Proofs.YtnaafcleafbejaaW.PrintWords
set_option linter.unusedVariables false
theorem pgL_mono {σ : Type} (g g' : S64 → σ → Option (Bool × σ)) (h : ∀ x s, LeO (g x s) (g' x s)) : ∀ xs s, LeO (pgL g xs s) (pgL g' xs s)
  | [], _ => LeO.refl _
  | x :: xs, s => LeO.bind (h x s) (fun r => LeO.ite (pgL_mono g g' h xs r.2) (LeO.refl _))
theorem pgNext_mono (k : Nat) (n : Int) (j : Nat) (cols : List (List Int)) (x : S64) : LeO (pgNext k n j cols x) (pgNext (k + 1) n j cols x) :=
  LeO.ite (LeO.bind (impl_writes.mono _ _ _ _ _ _ _) (fun _ => LeO.refl _)) (LeO.refl _)
theorem pgM_mono {σ : Type} (k : Nat) (lists : List (List S64)) (n : Int) (st st' : List S64 → List (List Int) → σ → Option (Bool × σ)) (h : ∀ c cs s, LeO (st c cs s) (st' c cs s)) : ∀ d code cols s, LeO (pgM k lists n st d code cols s) (pgM (k + 1) lists n st' (d + 1) code cols s)
  | 0, _, _, _ => LeO.none _
  | d + 1, code, cols, s => LeO.ite (h _ _ _) (LeO.ite (pgL_mono _ _ (fun x s => LeO.bind (pgNext_mono k n _ cols x) (fun nx => pgM_mono k lists n st st' h d _ nx s)) _ s) (LeO.refl _))
theorem pgGo_mono (k : Nat) (os : List ByteArray) (ims : List Int) : ∀ m ls, LeO (pgGo k os ims m ls) (pgGo (k + 1) os ims m ls)
  | 0, _ => LeO.refl _
  | m + 1, ls => LeO.ite (LeO.bind (impl_steps.mono _ _ _ _) (fun xs => pgGo_mono k os ims m _)) (LeO.refl _)
theorem pgP_mono {σ : Type} (k : Nat) (os : List ByteArray) (ims : List Int) (n : Int) (st st' : List S64 → List (List Int) → σ → Option (Bool × σ)) (h : ∀ c cs s, LeO (st c cs s) (st' c cs s)) (s : σ) : LeO (pgP k os ims n st s) (pgP (k + 1) os ims n st' s) :=
  LeO.bind (pgGo_mono k os ims _ _) (fun ls => LeO.bind (impl_begun.mono _) (fun cs => LeO.ite (pgM_mono k ls n st st' h k [] cs s) (LeO.refl _)))
theorem rcIs_mono (k : Nat) (n : Int) (goal : List Int) (code : List S64) (cols : List (List Int)) : LeO (rcIs k n goal code cols) (rcIs (k + 1) n goal code cols) :=
  LeO.ite (LeO.ite (impl_column_uint8.mono _ _ _) (LeO.refl _)) (LeO.ite (impl_isColumn.mono _ _ _ _ _ _ _ _) (LeO.refl _))
theorem rcSt_mono {σ : Type} (k : Nat) (n : Int) (goal : List Int) (st st' : List S64 → List (List Int) → σ → Option (Bool × σ)) (h : ∀ c cs s, LeO (st c cs s) (st' c cs s)) (c : List S64) (cs : List (List Int)) (s : σ) : LeO (rcSt k n goal st c cs s) (rcSt (k + 1) n goal st' c cs s) :=
  LeO.bind (rcIs_mono k n goal c cs) (fun b => LeO.ite (h c cs s) (LeO.refl _))
theorem shSt_mono (ac ac' : List S64 → List (List Int) → Option Bool) (h : ∀ c cs, LeO (ac c cs) (ac' c cs)) (c : List S64) (cs : List (List Int)) (s : List S64 × Bool) : LeO (shSt ac c cs s) (shSt ac' c cs s) :=
  LeO.bind (h c cs) (fun a => LeO.refl _)
theorem shL_mono (k : Nat) (os : List ByteArray) (ims : List Int) (goal : List Int) (ac ac' : List S64 → List (List Int) → Option Bool) (h : ∀ c cs, LeO (ac c cs) (ac' c cs)) : ∀ m i, LeO (shL k os ims goal ac m i) (shL (k + 1) os ims goal ac' m i)
  | 0, _ => LeO.refl _
  | m + 1, i => LeO.bind (pgP_mono k os ims _ _ _ (rcSt_mono k _ goal _ _ (shSt_mono ac ac' h)) _) (fun r => LeO.ite (LeO.refl _) (shL_mono k os ims goal ac ac' h m (i + 1)))
theorem shF_mono (k : Nat) (l0 : List S60) (os : List ByteArray) (ims : List Int) (most : Int) (ac ac' : List S64 → List (List Int) → Option Bool) (h : ∀ c cs, LeO (ac c cs) (ac' c cs)) : LeO (shF k l0 os ims most ac) (shF (k + 1) l0 os ims most ac') :=
  LeO.bind (impl_isSearch.mono _ _ _ _ _) (fun ok => LeO.ite (LeO.ite (LeO.bind (impl_tableOf.mono _ _) (fun tb => LeO.bind (impl_columnOf.mono _ _) (fun goal => shL_mono k os ims goal ac ac' h _ _))) (LeO.refl _)) (LeO.refl _))
end Go.Proofs.Ytnaafcleafbejaa.Q
end
section
namespace Go.Proofs.Ytnaafcleafbejaa.Q
open Go.RowKit Go.Proofs.YtnaafcleafbejaaW.PrintWords Go.Proofs.YtnaafcleafbejaaW.PrintLast Go.Proofs.YtnaafcleafbejaaW.PrintMore
set_option maxHeartbeats 8000000
set_option maxRecDepth 100000
attribute [local go_sem] max2_int min2_int max_two min_two max_three min_three max_four min_four
set_option linter.unusedVariables false
set_option linter.unusedSimpArgs false
set_option linter.unusedVariables false
def impl_ShortestFor.f (k : Nat) (l0 : List S60) (l1_0 : List ByteArray) (l1_1 : List Int) (a2 : Int) : Option (List S64 × Bool) := shF k l0 l1_0 l1_1 a2 (fun _ _ => some true)
theorem impl_ShortestFor.mono : ∀ a0 a1 a2 a3 k, LeO (impl_ShortestFor.f k a0 a1 a2 a3) (impl_ShortestFor.f (k + 1) a0 a1 a2 a3) := fun a0 a1 a2 a3 k => shF_mono k a0 a1 a2 a3 _ _ (fun _ _ => LeO.refl _)
theorem impl_ShortestFor.calls (k : Nat) (A0 : Option Addr) (c0 : Nat) (l0 : List S60) (A1_0 : Option Addr) (c1_0 : Nat) (l1_0 : List ByteArray) (A1_1 : Option Addr) (c1_1 : Nat) (l1_1 : List Int) (a2 : Int) (r1 : List S64) (r2 : Bool) (w : World) (hr0 : Kd.C k60 w A0 l0.length l0) (hc0 : l0.length ≤ c0) (hr1_0 : Kd.C Kd.string w A1_0 l1_0.length l1_0) (hc1_0 : l1_0.length ≤ c1_0) (hr1_1 : Kd.C (Kd.int .i64) w A1_1 l1_1.length l1_1) (hc1_1 : l1_1.length ≤ c1_1) (h : impl_ShortestFor.f k l0 l1_0 l1_1 a2 = some (r1, r2)) :
   Calls Try.prog 45 #[.slice A0 l0.length c0, .agg #[.slice A1_0 l1_0.length c1_0, .slice A1_1 l1_1.length c1_1], .int .i64 a2] w fun e w' => ∃ v0_ : Value, e = .returned (.tuple #[v0_, .bool r2]) ∧ Kd.R k64 64 w' w.heap.size (fun _ => True) v0_ r1 ∧ Below w.heap.size w w' := by
 have HR0 := zA hr0
 have HC0 := zA hc0
 have HR1 := zA hr1_0
 have HC1 := zA hc1_0
 have HR2 := zA hr1_1
 have HC2 := zA hc1_1
 have H := zA h
 clear hr0 hc0 hr1_0 hc1_0 hr1_1 hc1_1 h
 go_enter Try.func45, Try.ntmps45
 go_wp2_with (go_at_call 80; go_must (
   obtain ⟨W0, hW0⟩ : ∃ W0, w.alloc (.cells #[.slice A1_0 l1_0.length c1_0, .slice A1_1 l1_1.length c1_1] 35) = W0 := ⟨_, rfl⟩
   have hb0 : Below w.heap.size w W0 := hW0 ▸ zba (Below.refl _ _) _
   rw [hW0]
   clear hW0
   refine (shortCalls k anyAcc A0 c0 l0 A1_0 c1_0 l1_0 A1_1 c1_1 l1_1 a2 r1 r2 W0 (zCb HR0.out hb0) HC0.out (zCb HR1.out hb0) HC1.out (zCb HR2.out hb0) HC2.out H.out).mono ?_
   rintro e w1 ⟨v0, rfl, hR, hb⟩
   have HR := zA (Kd.R_lower hR hb0.size)
   have HB := zA (below_step hb0 hb)
   obtain ⟨Ax, cx, rfl⟩ := Kd.R_slice hR
   clear hR hb hb0))
 go_ret2
 exact ⟨_, rfl, HR.out, by repeat (first | exact HB.out | apply zbn | apply zbd)⟩
end Go.Proofs.Ytnaafcleafbejaa.Q
end
section
namespace Go.Proofs.Ytnaafcleafbejaa.Q
open Go.RowKit Go.Proofs.YtnaafcleafbejaaW.PrintWords Go.Proofs.YtnaafcleafbejaaW.PrintLast Go.Proofs.YtnaafcleafbejaaW.PrintMore
set_option maxHeartbeats 8000000
set_option maxRecDepth 100000
attribute [local go_sem] max2_int min2_int max_two min_two max_three min_three max_four min_four
set_option linter.unusedVariables false
set_option linter.unusedSimpArgs false
def impl_FewestSteps.f (k : Nat) (l0 : List (S60)) (l1_0 : List ByteArray) (l1_1 : List Int) (a2 : Int) : Option (Int × Bool) := (impl_ShortestFor.f k l0 l1_0 l1_1 a2).bind fun bt102 => (some ((bt102.1.length : Int), bt102.2))
theorem impl_FewestSteps.mono : ∀ a0 a1 a2 a3 k, LeO (impl_FewestSteps.f k a0 a1 a2 a3) (impl_FewestSteps.f (k + 1) a0 a1 a2 a3) := by
 intro a0 a1 a2 a3 k
 unfold impl_FewestSteps.f
 exact zm1 impl_ShortestFor.mono
theorem impl_FewestSteps.calls (k : Nat) (A0 : Option Addr) (c0 : Nat) (l0 : List (S60)) (A1_0 : Option Addr) (c1_0 : Nat) (l1_0 : List ByteArray) (A1_1 : Option Addr) (c1_1 : Nat) (l1_1 : List Int) (a2 : Int) (r1 : Int) (r2 : Bool) (w : World) (hr0 : Kd.C k60 w A0 l0.length l0) (hc0 : l0.length ≤ c0) (hr1_0 : Kd.C Kd.string w A1_0 l1_0.length l1_0) (hc1_0 : l1_0.length ≤ c1_0) (hr1_1 : Kd.C (Kd.int .i64) w A1_1 l1_1.length l1_1) (hc1_1 : l1_1.length ≤ c1_1) (h : impl_FewestSteps.f k l0 l1_0 l1_1 a2 = some (r1, r2)) :
   Calls Try.prog 18 #[.slice A0 l0.length c0, .agg #[.slice A1_0 l1_0.length c1_0, .slice A1_1 l1_1.length c1_1], .int .i64 a2] w fun e w' => e = .returned (.tuple #[.int .i64 r1, .bool r2]) ∧ Below w.heap.size w w' := by
 have hu35 := Try.underlying35
 have HR0 := zA hr0
 have HC0 := zA hc0
 clear hr0 hc0
 have HR1_0 := zA hr1_0
 have HC1_0 := zA hc1_0
 clear hr1_0 hc1_0
 have HR1_1 := zA hr1_1
 have HC1_1 := zA hc1_1
 clear hr1_1 hc1_1
 have HB := zA (Below.refl w.heap.size w)
 have H : ((impl_ShortestFor.f k l0 l1_0 l1_1 a2).bind fun bt102 => (some ((bt102.1.length : Int), bt102.2))) = some (r1, r2) := h
 clear h
 replace H := zob H
 obtain ⟨⟨t102, t105⟩, A40, H⟩ := H
 replace H : (some ((t102.length : Int), t105)) = some (r1, r2) := H
 have A4 := zA A40
 clear A40
 simp only [Option.some.injEq, Prod.mk.injEq] at H
 obtain ⟨rfl, rfl⟩ := H
 go_enter Try.func18, Try.ntmps18
 go_wp2_with (first | ((with_reducible refine zgd 4 ?_); refine zbh zq2 #[.slice A1_0 l1_0.length c1_0, .slice A1_1 l1_1.length c1_1] 35 ?_; clear HB; intro gb101 w5 HB BK101 GW101; have GE101 := GW101; obtain ⟨hcz6_0, hcz6_1, hfz6_0, hfz6_1⟩ := zd2 BK101) | ((with_reducible refine zgc 45 ?_); refine zca 14 Try.func45 #[.slice A0 l0.length c0, .agg #[.slice A1_0 l1_0.length c1_0, .slice A1_1 l1_1.length c1_1], .int .i64 a2] (impl_ShortestFor.calls k _ _ l0 _ _ l1_0 _ _ l1_1 a2 t102 t105 _ (zq8 HR0) HC0.out (zq8 HR1_0) HC1_0.out (zq8 HR1_1) HC1_1.out A4.out) ?_; rintro e w7 ⟨v103, rfl, ho0, hb⟩; refine ⟨_, rfl, ?_⟩; have HO104 := zA (Kd.R_lower ho0 (below_size (zq1 GE101))); replace BK101 := zbb BK101 hb; replace HB := zA (below_step (zq1 GE101) hb); (try clear hb); (try clear ho0); obtain ⟨Ao8, co8, eo8⟩ := Kd.R_slice HO104.out; subst eo8))
 go_ret2
 exact ⟨zq4, zq1 GE101⟩
def laws_eqIntS.l0 : Nat → List Int → List Int → Int → Option (Bool)
 | 0, _, _, _ => none
 | k + 1, x0, x1, x5 => if x5 < (x0.length : Int) then (if 0 ≤ x5 then (if x5 < (x1.length : Int) then (if (rd x0 x5) = (rd x1 x5) then (laws_eqIntS.l0 k x0 x1 (wrap64 (x5 + 1))) else (some false)) else (none)) else (none)) else (some true)
def laws_eqIntS.f (k : Nat) (l0 : List Int) (l1 : List Int) : Option (Bool) := if (l0.length : Int) = (l1.length : Int) then (laws_eqIntS.l0 k l0 l1 0) else (some false)
theorem laws_eqIntS.mono_l : ∀ k, (∀ y0 y1 y2, LeO (laws_eqIntS.l0 k y0 y1 y2) (laws_eqIntS.l0 (k + 1) y0 y1 y2))
 | 0 => fun _ _ _ r h => by simp [laws_eqIntS.l0] at h
 | k + 1 => by
   have ih0 := laws_eqIntS.mono_l k
   · intro y0 y1 y2
     unfold laws_eqIntS.l0
     exact zm1 ih0
theorem laws_eqIntS.mono : ∀ a0 a1 k, LeO (laws_eqIntS.f k a0 a1) (laws_eqIntS.f (k + 1) a0 a1) := by
 intro a0 a1 k
 have ih0 := laws_eqIntS.mono_l k
 unfold laws_eqIntS.f
 exact zm1 ih0
theorem laws_eqIntS.calls (k : Nat) (A0 : Option Addr) (c0 : Nat) (l0 : List Int) (A1 : Option Addr) (c1 : Nat) (l1 : List Int) (r : Bool) (w : World) (hr0 : Kd.C (Kd.int .i64) w A0 l0.length l0) (hc0 : l0.length ≤ c0) (hr1 : Kd.C (Kd.int .i64) w A1 l1.length l1) (hc1 : l1.length ≤ c1) (h : laws_eqIntS.f k l0 l1 = some r) :
   Calls Try.prog 41 #[.slice A0 l0.length c0, .slice A1 l1.length c1] w fun e w' => e = .returned (.bool r) ∧ Drawn0 w w' := by
 have HR0 := zA hr0
 have HC0 := zA hc0
 clear hr0 hc0
 have HR1 := zA hr1
 have HC1 := zA hc1
 clear hr1 hc1
 have H : (if (l0.length : Int) = (l1.length : Int) then (laws_eqIntS.l0 k l0 l1 0) else (some false)) = some r := h
 clear h
 by_cases c3 : (l0.length : Int) = (l1.length : Int)
 rotate_left
 · rw [if_neg c3] at H
   obtain ⟨c3b0, c3b1⟩ := zbq c3
   have c3b2 : (l0.length == l1.length) = false := by first | simpa using c3 | (simp at c3 ⊢; omega)
   obtain rfl := zsi H
   go_enter Try.func41, Try.ntmps41
   go_wp2
   repeat (go_quiet (fail); try go_wp2)
   exact zr_4
 rw [if_pos c3] at H
 obtain ⟨c3b0, c3b1⟩ := zbe c3
 have c3b2 : (l0.length == l1.length) = true := by first | simpa using c3 | (simp at c3 ⊢; omega)
 clear c3
 have H' := zA H
 clear H
 go_enter Try.func41, Try.ntmps41
 go_wp2
 repeat (go_quiet (fail); try go_wp2)
 go_loopg [5] k (fun kq v5 w' => ∃ (x5_1 : Int), v5 = .int .i64 x5_1 ∧ Aside0 (laws_eqIntS.l0 kq l0 l1 x5_1 = some r) ∧ Aside0 (kq ≤ k) ∧ Drawn0 w w')
 case atStart => exact ⟨(0), zq5, H', ⟨zlr _⟩, zq9⟩
 clear H'
 try clear c1
 try clear c3
 try clear c3b0
 try clear c3b1
 try clear c3b2
 obtain ⟨x5_1, rfl, HA, HK1, ⟨m1, rfl⟩⟩ := hrel
 cases gk with
 | zero => exact absurd HA.out (by simp [laws_eqIntS.l0])
 | succ k1 =>
 have H := HA.out
 clear HA
 simp only [laws_eqIntS.l0] at H
 revert H
 refine zit (fun c4 H => ?_) fun c4 H => ?_
 rotate_left
 · obtain rfl := zsi H
   go_wp2
   repeat (go_quiet (fail); try go_wp2)
   exact zr_4
 revert H
 refine zin fun c5 H => ?_
 revert H
 refine zin fun c6 H => ?_
 by_cases c7 : (rd l0 x5_1) = (rd l1 x5_1)
 rotate_left
 · rw [if_neg c7] at H
   obtain ⟨c7b0, c7b1⟩ := zbq c7
   obtain rfl := zsi H
   obtain ⟨p101, q101⟩ := zpq x5_1 l0.length
   obtain ⟨ad101, e101, hx101_0⟩ := Kd.at_int HR0.out x5_1 (zoe p101) (zoe q101)
   cases e101
   obtain ⟨p102, q102⟩ := zpq x5_1 l1.length
   obtain ⟨ad102, e102, hx102_0⟩ := Kd.at_int HR1.out x5_1 (zoe p102) (zoe q102)
   cases e102
   go_wp2
   repeat (go_quiet (fail); try go_wp2)
   exact zr_4
 rw [if_pos c7] at H
 obtain ⟨c7b0, c7b1⟩ := zbe c7
 clear c7
 have H' := zA H
 clear H
 obtain ⟨p101, q101⟩ := zpq x5_1 l0.length
 obtain ⟨ad101, e101, hx101_0⟩ := Kd.at_int HR0.out x5_1 (zoe p101) (zoe q101)
 cases e101
 obtain ⟨p102, q102⟩ := zpq x5_1 l1.length
 obtain ⟨ad102, e102, hx102_0⟩ := Kd.at_int HR1.out x5_1 (zoe p102) (zoe q102)
 cases e102
 go_wp2
 repeat (go_quiet (fail); try go_wp2)
 go_roundg k1
 case measure => have := HK1.out; omega
 case rel => exact ⟨(wrap64 (x5_1 + 1)), zq5, H', ⟨zq36 HK1⟩, zq9⟩
def laws_eqStringS.l0 : Nat → List ByteArray → List ByteArray → Int → Option (Bool)
 | 0, _, _, _ => none
 | k + 1, x0, x1, x5 => if x5 < (x0.length : Int) then (if 0 ≤ x5 then (if x5 < (x1.length : Int) then (if (rdOf ByteArray.empty x0 x5).toList = (rdOf ByteArray.empty x1 x5).toList then (laws_eqStringS.l0 k x0 x1 (wrap64 (x5 + 1))) else (some false)) else (none)) else (none)) else (some true)
def laws_eqStringS.f (k : Nat) (l0 : List ByteArray) (l1 : List ByteArray) : Option (Bool) := if (l0.length : Int) = (l1.length : Int) then (laws_eqStringS.l0 k l0 l1 0) else (some false)
theorem laws_eqStringS.mono_l : ∀ k, (∀ y0 y1 y2, LeO (laws_eqStringS.l0 k y0 y1 y2) (laws_eqStringS.l0 (k + 1) y0 y1 y2))
 | 0 => fun _ _ _ r h => by simp [laws_eqStringS.l0] at h
 | k + 1 => by
   have ih0 := laws_eqStringS.mono_l k
   · intro y0 y1 y2
     unfold laws_eqStringS.l0
     exact zm1 ih0
theorem laws_eqStringS.mono : ∀ a0 a1 k, LeO (laws_eqStringS.f k a0 a1) (laws_eqStringS.f (k + 1) a0 a1) := by
 intro a0 a1 k
 have ih0 := laws_eqStringS.mono_l k
 unfold laws_eqStringS.f
 exact zm1 ih0
theorem laws_eqStringS.calls (k : Nat) (A0 : Option Addr) (c0 : Nat) (l0 : List ByteArray) (A1 : Option Addr) (c1 : Nat) (l1 : List ByteArray) (r : Bool) (w : World) (hr0 : Kd.C Kd.string w A0 l0.length l0) (hc0 : l0.length ≤ c0) (hr1 : Kd.C Kd.string w A1 l1.length l1) (hc1 : l1.length ≤ c1) (h : laws_eqStringS.f k l0 l1 = some r) :
   Calls Try.prog 40 #[.slice A0 l0.length c0, .slice A1 l1.length c1] w fun e w' => e = .returned (.bool r) ∧ Drawn0 w w' := by
 have HR0 := zA hr0
 have HC0 := zA hc0
 clear hr0 hc0
 have HR1 := zA hr1
 have HC1 := zA hc1
 clear hr1 hc1
 have H : (if (l0.length : Int) = (l1.length : Int) then (laws_eqStringS.l0 k l0 l1 0) else (some false)) = some r := h
 clear h
 by_cases c3 : (l0.length : Int) = (l1.length : Int)
 rotate_left
 · rw [if_neg c3] at H
   obtain ⟨c3b0, c3b1⟩ := zbq c3
   have c3b2 : (l0.length == l1.length) = false := by first | simpa using c3 | (simp at c3 ⊢; omega)
   obtain rfl := zsi H
   go_enter Try.func40, Try.ntmps40
   go_wp2
   repeat (go_quiet (fail); try go_wp2)
   exact zr_4
 rw [if_pos c3] at H
 obtain ⟨c3b0, c3b1⟩ := zbe c3
 have c3b2 : (l0.length == l1.length) = true := by first | simpa using c3 | (simp at c3 ⊢; omega)
 clear c3
 have H' := zA H
 clear H
 go_enter Try.func40, Try.ntmps40
 go_wp2
 repeat (go_quiet (fail); try go_wp2)
 go_loopg [5] k (fun kq v5 w' => ∃ (x5_1 : Int), v5 = .int .i64 x5_1 ∧ Aside0 (laws_eqStringS.l0 kq l0 l1 x5_1 = some r) ∧ Aside0 (kq ≤ k) ∧ Drawn0 w w')
 case atStart => exact ⟨(0), zq5, H', ⟨zlr _⟩, zq9⟩
 clear H'
 try clear c1
 try clear c3
 try clear c3b0
 try clear c3b1
 try clear c3b2
 obtain ⟨x5_1, rfl, HA, HK1, ⟨m1, rfl⟩⟩ := hrel
 cases gk with
 | zero => exact absurd HA.out (by simp [laws_eqStringS.l0])
 | succ k1 =>
 have H := HA.out
 clear HA
 simp only [laws_eqStringS.l0] at H
 revert H
 refine zit (fun c4 H => ?_) fun c4 H => ?_
 rotate_left
 · obtain rfl := zsi H
   go_wp2
   repeat (go_quiet (fail); try go_wp2)
   exact zr_4
 revert H
 refine zin fun c5 H => ?_
 revert H
 refine zin fun c6 H => ?_
 by_cases c7 : (rdOf ByteArray.empty l0 x5_1).toList = (rdOf ByteArray.empty l1 x5_1).toList
 rotate_left
 · rw [if_neg c7] at H
   obtain ⟨c7b0, c7b1⟩ := zbq c7
   obtain rfl := zsi H
   obtain ⟨p101, q101⟩ := zpq x5_1 l0.length
   obtain ⟨ad101, e101, hx101_0⟩ := Kd.at_string HR0.out x5_1 (zoe p101) (zoe q101)
   cases e101
   obtain ⟨p102, q102⟩ := zpq x5_1 l1.length
   obtain ⟨ad102, e102, hx102_0⟩ := Kd.at_string HR1.out x5_1 (zoe p102) (zoe q102)
   cases e102
   go_wp2
   repeat (go_quiet (fail); try go_wp2)
   exact zr_4
 rw [if_pos c7] at H
 obtain ⟨c7b0, c7b1⟩ := zbe c7
 clear c7
 have H' := zA H
 clear H
 obtain ⟨p101, q101⟩ := zpq x5_1 l0.length
 obtain ⟨ad101, e101, hx101_0⟩ := Kd.at_string HR0.out x5_1 (zoe p101) (zoe q101)
 cases e101
 obtain ⟨p102, q102⟩ := zpq x5_1 l1.length
 obtain ⟨ad102, e102, hx102_0⟩ := Kd.at_string HR1.out x5_1 (zoe p102) (zoe q102)
 cases e102
 go_wp2
 repeat (go_quiet (fail); try go_wp2)
 go_roundg k1
 case measure => have := HK1.out; omega
 case rel => exact ⟨(wrap64 (x5_1 + 1)), zq5, H', ⟨zq36 HK1⟩, zq9⟩
def laws_eqChoice.f (k : Nat) (l0_0 : List ByteArray) (l0_1 : List Int) (l1_0 : List ByteArray) (l1_1 : List Int) : Option (Bool) := (laws_eqStringS.f k l0_0 l1_0).bind fun t103 => (if t103 = true then ((laws_eqIntS.f k l0_1 l1_1).bind fun t104 => (if t104 = true then (some true) else (some false))) else (some false))
theorem laws_eqChoice.mono : ∀ a0 a1 a2 a3 k, LeO (laws_eqChoice.f k a0 a1 a2 a3) (laws_eqChoice.f (k + 1) a0 a1 a2 a3) := by
 intro a0 a1 a2 a3 k
 unfold laws_eqChoice.f
 exact zm2 laws_eqIntS.mono laws_eqStringS.mono
theorem laws_eqChoice.calls (k : Nat) (A0_0 : Option Addr) (c0_0 : Nat) (l0_0 : List ByteArray) (A0_1 : Option Addr) (c0_1 : Nat) (l0_1 : List Int) (A1_0 : Option Addr) (c1_0 : Nat) (l1_0 : List ByteArray) (A1_1 : Option Addr) (c1_1 : Nat) (l1_1 : List Int) (r : Bool) (w : World) (hr0_0 : Kd.C Kd.string w A0_0 l0_0.length l0_0) (hc0_0 : l0_0.length ≤ c0_0) (hr0_1 : Kd.C (Kd.int .i64) w A0_1 l0_1.length l0_1) (hc0_1 : l0_1.length ≤ c0_1) (hr1_0 : Kd.C Kd.string w A1_0 l1_0.length l1_0) (hc1_0 : l1_0.length ≤ c1_0) (hr1_1 : Kd.C (Kd.int .i64) w A1_1 l1_1.length l1_1) (hc1_1 : l1_1.length ≤ c1_1) (h : laws_eqChoice.f k l0_0 l0_1 l1_0 l1_1 = some r) :
   Calls Try.prog 15 #[.agg #[.slice A0_0 l0_0.length c0_0, .slice A0_1 l0_1.length c0_1], .agg #[.slice A1_0 l1_0.length c1_0, .slice A1_1 l1_1.length c1_1]] w fun e w' => e = .returned (.bool r) ∧ Below w.heap.size w w' := by
 have hu35 := Try.underlying35
 have HR0_0 := zA hr0_0
 have HC0_0 := zA hc0_0
 clear hr0_0 hc0_0
 have HR0_1 := zA hr0_1
 have HC0_1 := zA hc0_1
 clear hr0_1 hc0_1
 have HR1_0 := zA hr1_0
 have HC1_0 := zA hc1_0
 clear hr1_0 hc1_0
 have HR1_1 := zA hr1_1
 have HC1_1 := zA hc1_1
 clear hr1_1 hc1_1
 have HB := zA (Below.refl w.heap.size w)
 have H : ((laws_eqStringS.f k l0_0 l1_0).bind fun t103 => (if t103 = true then ((laws_eqIntS.f k l0_1 l1_1).bind fun t104 => (if t104 = true then (some true) else (some false))) else (some false))) = some r := h
 clear h
 replace H := zob H
 obtain ⟨t103, A30, H⟩ := H
 replace H : (if t103 = true then ((laws_eqIntS.f k l0_1 l1_1).bind fun t104 => (if t104 = true then (some true) else (some false))) else (some false)) = some r := H
 have A3 := zA A30
 clear A30
 by_cases c4 : t103 = true
 rotate_left
 · replace c4 := zbf c4
   subst c4
   replace H := zif H
   obtain rfl := zsi H
   go_enter Try.func15, Try.ntmps15
   go_wp2_with (first | ((with_reducible refine zgd 2 ?_); refine zbx #[.slice A0_0 l0_0.length c0_0, .slice A0_1 l0_1.length c0_1] 35 ?_; intro gb101 hg w17 hbox hb; have zs := zpair zq2 hb; replace HB := zA (zs.1); have BK101 := zA (hbox); have GW101 := zA (zge hg zs.2); have GE101 := GW101; clear zs hb hbox hg) | ((with_reducible refine zgd 3 ?_); refine zbx #[.slice A1_0 l1_0.length c1_0, .slice A1_1 l1_1.length c1_1] 35 ?_; intro gb102 hg w18 hbox hb; have zs := zpair (zq1 GE101) hb; replace HB := zA (zs.1); have BK102 := zA (hbox); have GW102 := zA (zge hg zs.2); have GE102 := GW102; have NB101_102 := zA ((zq18 BK101 : gb101 ≠ gb102)); replace BK101 := zbb BK101 hb; have NB102_101 := zA (Ne.symm NB101_102.out); clear zs hb hbox hg; have hnb19 := NB101_102.out; have hnc19 := NB102_101.out; obtain ⟨hcz20_0, hcz20_1, hfz20_0, hfz20_1⟩ := zd2 BK101; obtain ⟨hcz21_0, hcz21_1, hfz21_0, hfz21_1⟩ := zd2 BK102) | ((with_reducible refine zgc 40 ?_); refine zca 9 Try.func40 #[.slice A0_0 l0_0.length c0_0, .slice A1_0 l1_0.length c1_0] (laws_eqStringS.calls k _ _ l0_0 _ _ l1_0 false _ (zq8 HR0_0) HC0_0.out (zq8 HR1_0) HC1_0.out A3.out) ?_; rintro e w' ⟨rfl, ⟨nd, rfl⟩⟩; refine ⟨_, rfl, ?_⟩))
   go_ret
   exact ⟨zq4, zq7 GE101 GE102⟩
 subst c4
 replace H := zih H
 replace H := zob H
 obtain ⟨t104, A50, H⟩ := H
 replace H : (if t104 = true then (some true) else (some false)) = some r := H
 have A5 := zA A50
 clear A50
 by_cases c6 : t104 = true
 · subst c6
   replace H := zih H
   obtain rfl := zsi H
   go_enter Try.func15, Try.ntmps15
   go_wp2_with (first | ((with_reducible refine zgd 2 ?_); refine zbx #[.slice A0_0 l0_0.length c0_0, .slice A0_1 l0_1.length c0_1] 35 ?_; intro gb101 hg w7 hbox hb; have zs := zpair zq2 hb; replace HB := zA (zs.1); have BK101 := zA (hbox); have GW101 := zA (zge hg zs.2); have GE101 := GW101; clear zs hb hbox hg) | ((with_reducible refine zgd 3 ?_); refine zbx #[.slice A1_0 l1_0.length c1_0, .slice A1_1 l1_1.length c1_1] 35 ?_; intro gb102 hg w8 hbox hb; have zs := zpair (zq1 GE101) hb; replace HB := zA (zs.1); have BK102 := zA (hbox); have GW102 := zA (zge hg zs.2); have GE102 := GW102; have NB101_102 := zA ((zq18 BK101 : gb101 ≠ gb102)); replace BK101 := zbb BK101 hb; have NB102_101 := zA (Ne.symm NB101_102.out); clear zs hb hbox hg; have hnb9 := NB101_102.out; have hnc9 := NB102_101.out; obtain ⟨hcz10_0, hcz10_1, hfz10_0, hfz10_1⟩ := zd2 BK101; obtain ⟨hcz11_0, hcz11_1, hfz11_0, hfz11_1⟩ := zd2 BK102) | ((with_reducible refine zgc 40 ?_); refine zca 9 Try.func40 #[.slice A0_0 l0_0.length c0_0, .slice A1_0 l1_0.length c1_0] (laws_eqStringS.calls k _ _ l0_0 _ _ l1_0 true _ (zq8 HR0_0) HC0_0.out (zq8 HR1_0) HC1_0.out A3.out) ?_; rintro e w' ⟨rfl, ⟨nd, rfl⟩⟩; refine ⟨_, rfl, ?_⟩) | ((with_reducible refine zgc 41 ?_); refine zca 15 Try.func41 #[.slice A0_1 l0_1.length c0_1, .slice A1_1 l1_1.length c1_1] (laws_eqIntS.calls k _ _ l0_1 _ _ l1_1 true _ (zq45 HR0_1) HC0_1.out (zq45 HR1_1) HC1_1.out A5.out) ?_; rintro e w' ⟨rfl, ⟨nd, rfl⟩⟩; refine ⟨_, rfl, ?_⟩))
   go_ret
   exact ⟨zq4, zq7 GE101 GE102⟩
 replace c6 := zbf c6
 subst c6
 replace H := zif H
 obtain rfl := zsi H
 go_enter Try.func15, Try.ntmps15
 go_wp2_with (first | ((with_reducible refine zgd 2 ?_); refine zbx #[.slice A0_0 l0_0.length c0_0, .slice A0_1 l0_1.length c0_1] 35 ?_; intro gb101 hg w12 hbox hb; have zs := zpair zq2 hb; replace HB := zA (zs.1); have BK101 := zA (hbox); have GW101 := zA (zge hg zs.2); have GE101 := GW101; clear zs hb hbox hg) | ((with_reducible refine zgd 3 ?_); refine zbx #[.slice A1_0 l1_0.length c1_0, .slice A1_1 l1_1.length c1_1] 35 ?_; intro gb102 hg w13 hbox hb; have zs := zpair (zq1 GE101) hb; replace HB := zA (zs.1); have BK102 := zA (hbox); have GW102 := zA (zge hg zs.2); have GE102 := GW102; have NB101_102 := zA ((zq18 BK101 : gb101 ≠ gb102)); replace BK101 := zbb BK101 hb; have NB102_101 := zA (Ne.symm NB101_102.out); clear zs hb hbox hg; have hnb14 := NB101_102.out; have hnc14 := NB102_101.out; obtain ⟨hcz15_0, hcz15_1, hfz15_0, hfz15_1⟩ := zd2 BK101; obtain ⟨hcz16_0, hcz16_1, hfz16_0, hfz16_1⟩ := zd2 BK102) | ((with_reducible refine zgc 40 ?_); refine zca 9 Try.func40 #[.slice A0_0 l0_0.length c0_0, .slice A1_0 l1_0.length c1_0] (laws_eqStringS.calls k _ _ l0_0 _ _ l1_0 true _ (zq8 HR0_0) HC0_0.out (zq8 HR1_0) HC1_0.out A3.out) ?_; rintro e w' ⟨rfl, ⟨nd, rfl⟩⟩; refine ⟨_, rfl, ?_⟩) | ((with_reducible refine zgc 41 ?_); refine zca 15 Try.func41 #[.slice A0_1 l0_1.length c0_1, .slice A1_1 l1_1.length c1_1] (laws_eqIntS.calls k _ _ l0_1 _ _ l1_1 false _ (zq45 HR0_1) HC0_1.out (zq45 HR1_1) HC1_1.out A5.out) ?_; rintro e w' ⟨rfl, ⟨nd, rfl⟩⟩; refine ⟨_, rfl, ?_⟩))
 go_ret
 exact ⟨zq4, zq7 GE101 GE102⟩
def laws_eqNode.f (a0_0 : ByteArray) (a0_1 : Int) (a0_2 : Int) (a0_3 : Int) (a1_0 : ByteArray) (a1_1 : Int) (a1_2 : Int) (a1_3 : Int) : Option (Bool) := if a0_0.toList = a1_0.toList then (if a0_1 = a1_1 then (if a0_2 = a1_2 then (if a0_3 = a1_3 then (some true) else (some false)) else (some false)) else (some false)) else (some false)
theorem laws_eqNode.calls (a0_0 : ByteArray) (a0_1 : Int) (a0_2 : Int) (a0_3 : Int) (a1_0 : ByteArray) (a1_1 : Int) (a1_2 : Int) (a1_3 : Int) (r : Bool) (w : World) (h : laws_eqNode.f a0_0 a0_1 a0_2 a0_3 a1_0 a1_1 a1_2 a1_3 = some r) :
   Calls Try.prog 39 #[.agg #[.string a0_0, .int .i64 a0_1, .int .i64 a0_2, .int .i64 a0_3], .agg #[.string a1_0, .int .i64 a1_1, .int .i64 a1_2, .int .i64 a1_3]] w fun e w' => e = .returned (.bool r) ∧ Below w.heap.size w w' := by
 have key : r = (!(a0_0.toList != a1_0.toList) && !(a0_1 != a1_1) && !(a0_2 != a1_2) && !(a0_3 != a1_3)) := by
   unfold laws_eqNode.f at h
   (repeat' split at h) <;> simp_all
 have HK := zA key
 clear h key
 go_enter Try.func39, Try.ntmps39
 go_wp2
 all_goals
   go_ret
   exact ⟨by rw [HK.out]; simp_all, zba (zba (Below.refl _ _) _) _⟩
def laws_eqNodeS.l0 : Nat → List (S60) → List (S60) → Int → Option (Bool)
 | 0, _, _, _ => none
 | k + 1, x0, x1, x5 => if x5 < (x0.length : Int) then (if 0 ≤ x5 then (if x5 < (x1.length : Int) then ((laws_eqNode.f ((rd_T60 x0 x5).f0) ((rd_T60 x0 x5).f1) ((rd_T60 x0 x5).f2) ((rd_T60 x0 x5).f3) ((rd_T60 x1 x5).f0) ((rd_T60 x1 x5).f1) ((rd_T60 x1 x5).f2) ((rd_T60 x1 x5).f3)).bind fun t103 => (if t103 = true then (laws_eqNodeS.l0 k x0 x1 (wrap64 (x5 + 1))) else (some false))) else (none)) else (none)) else (some true)
def laws_eqNodeS.f (k : Nat) (l0 : List (S60)) (l1 : List (S60)) : Option (Bool) := if (l0.length : Int) = (l1.length : Int) then (laws_eqNodeS.l0 k l0 l1 0) else (some false)
theorem laws_eqNodeS.mono_l : ∀ k, (∀ y0 y1 y2, LeO (laws_eqNodeS.l0 k y0 y1 y2) (laws_eqNodeS.l0 (k + 1) y0 y1 y2))
 | 0 => fun _ _ _ r h => by simp [laws_eqNodeS.l0] at h
 | k + 1 => by
   have ih0 := laws_eqNodeS.mono_l k
   · intro y0 y1 y2
     unfold laws_eqNodeS.l0
     exact zm1 ih0
theorem laws_eqNodeS.mono : ∀ a0 a1 k, LeO (laws_eqNodeS.f k a0 a1) (laws_eqNodeS.f (k + 1) a0 a1) := by
 intro a0 a1 k
 have ih0 := laws_eqNodeS.mono_l k
 unfold laws_eqNodeS.f
 exact zm1 ih0
def laws_eqNodeS.T6 : Bool × List (List Nat × List Nat) := (true, [([], []), ([], []), ([0, 1], [0, 1]), ([2], [2]), ([], []), ([], []), ([4, 5], [4, 5]), ([6], [6]), ([3, 7], [3, 7]), ([8], [8])])
def laws_eqNodeS.B6 : List Nat := [0, 0, 3, 7, 0, 0, 48, 112, 255, 511]
theorem laws_eqNodeS.tab6 : rtab .any (opsOf Try.f14 6) = laws_eqNodeS.T6 := by kernel_rfl
theorem laws_eqNodeS.bits6 : waitsOk laws_eqNodeS.T6.2 laws_eqNodeS.B6 = true := by kernel_rfl
theorem laws_eqNodeS.calls (k : Nat) (A0 : Option Addr) (c0 : Nat) (l0 : List (S60)) (A1 : Option Addr) (c1 : Nat) (l1 : List (S60)) (r : Bool) (w : World) (hr0 : Kd.C k60 w A0 l0.length l0) (hc0 : l0.length ≤ c0) (hr1 : Kd.C k60 w A1 l1.length l1) (hc1 : l1.length ≤ c1) (h : laws_eqNodeS.f k l0 l1 = some r) :
   Calls Try.prog 14 #[.slice A0 l0.length c0, .slice A1 l1.length c1] w fun e w' => e = .returned (.bool r) ∧ Below w.heap.size w w' := by
 have hu60 := Try.underlying60
 have HR0 := zA hr0
 have HC0 := zA hc0
 clear hr0 hc0
 have HR1 := zA hr1
 have HC1 := zA hc1
 clear hr1 hc1
 have HB := zA (Below.refl w.heap.size w)
 have H : (if (l0.length : Int) = (l1.length : Int) then (laws_eqNodeS.l0 k l0 l1 0) else (some false)) = some r := h
 clear h
 by_cases c3 : (l0.length : Int) = (l1.length : Int)
 rotate_left
 · rw [if_neg c3] at H
   obtain ⟨c3b0, c3b1⟩ := zbq c3
   have c3b2 : (l0.length == l1.length) = false := by first | simpa using c3 | (simp at c3 ⊢; omega)
   obtain rfl := zsi H
   go_enter Try.func14, Try.ntmps14
   go_wp2
   exact zr_5
 rw [if_pos c3] at H
 obtain ⟨c3b0, c3b1⟩ := zbe c3
 have c3b2 : (l0.length == l1.length) = true := by first | simpa using c3 | (simp at c3 ⊢; omega)
 clear c3
 have H' := zA H
 clear H
 go_enter Try.func14, Try.ntmps14
 go_wp2
 go_loopg [5] k (fun kq v5 w' => ∃ (x5_1 : Int), v5 = .int .i64 x5_1 ∧ Aside0 (laws_eqNodeS.l0 kq l0 l1 x5_1 = some r) ∧ Aside0 (kq ≤ k) ∧ Aside0 (Below w.heap.size w w'))
 case atStart => exact ⟨(0), zq5, H', ⟨zlr _⟩, ⟨zq2⟩⟩
 clear H'
 try clear c1
 try clear c3
 try clear c3b0
 try clear c3b1
 try clear c3b2
 obtain ⟨x5_1, rfl, HA, HK1, HB⟩ := hrel
 cases gk with
 | zero => exact absurd HA.out (by simp [laws_eqNodeS.l0])
 | succ k1 =>
 have H := HA.out
 clear HA
 simp only [laws_eqNodeS.l0] at H
 revert H
 refine zit (fun c4 H => ?_) fun c4 H => ?_
 rotate_left
 · obtain rfl := zsi H
   go_wp2
   exact zr_5
 revert H
 refine zin fun c5 H => ?_
 revert H
 refine zin fun c6 H => ?_
 replace H := zob H
 obtain ⟨t103, A70, H⟩ := H
 replace H : (if t103 = true then (laws_eqNodeS.l0 k1 l0 l1 (wrap64 (x5_1 + 1))) else (some false)) = some r := H
 have A7 := zA A70
 clear A70
 by_cases c8 : t103 = true
 rotate_left
 · replace c8 := zbf c8
   subst c8
   replace H := zif H
   obtain rfl := zsi H
   try go_wp2
   replace HB := zA (zbd HB.out)
   obtain ⟨p101, q101⟩ := zpq x5_1 l0.length
   obtain ⟨ad101, e101, hx101_0, hx101_1, hx101_2, hx101_3⟩ := at_T60 HR0.out x5_1 (zoe p101) (zoe q101)
   have hw101_3 := hx101_3
   have hw101_2 := hx101_2
   have hw101_1 := hx101_1
   have hw101_0 := hx101_0
   cases e101
   replace hx101_0 := zkep HB.out hx101_0
   replace hx101_1 := zkep HB.out hx101_1
   replace hx101_2 := zkep HB.out hx101_2
   replace hx101_3 := zkep HB.out hx101_3
   obtain ⟨p102, q102⟩ := zpq x5_1 l1.length
   obtain ⟨ad102, e102, hx102_0, hx102_1, hx102_2, hx102_3⟩ := at_T60 HR1.out x5_1 (zoe p102) (zoe q102)
   have hw102_3 := hx102_3
   have hw102_2 := hx102_2
   have hw102_1 := hx102_1
   have hw102_0 := hx102_0
   cases e102
   replace hx102_0 := zkep HB.out hx102_0
   replace hx102_1 := zkep HB.out hx102_1
   replace hx102_2 := zkep HB.out hx102_2
   replace hx102_3 := zkep HB.out hx102_3
   refine start_ (n := 10) (S := fun w' => w'.cell? (ad101.add ((x5_1).toNat * 4)) = some (.string ((rd_T60 l0 x5_1).f0)) ∧ w'.cell? ⟨(ad101.add ((x5_1).toNat * 4)).block, (ad101.add ((x5_1).toNat * 4)).off + 1, none⟩ = some (.int .i64 ((rd_T60 l0 x5_1).f1)) ∧ w'.cell? ⟨(ad101.add ((x5_1).toNat * 4)).block, (ad101.add ((x5_1).toNat * 4)).off + 2, none⟩ = some (.int .i64 ((rd_T60 l0 x5_1).f2)) ∧ w'.cell? ⟨(ad101.add ((x5_1).toNat * 4)).block, (ad101.add ((x5_1).toNat * 4)).off + 3, none⟩ = some (.int .i64 ((rd_T60 l0 x5_1).f3)) ∧ w'.cell? (ad102.add ((x5_1).toNat * 4)) = some (.string ((rd_T60 l1 x5_1).f0)) ∧ w'.cell? ⟨(ad102.add ((x5_1).toNat * 4)).block, (ad102.add ((x5_1).toNat * 4)).off + 1, none⟩ = some (.int .i64 ((rd_T60 l1 x5_1).f1)) ∧ w'.cell? ⟨(ad102.add ((x5_1).toNat * 4)).block, (ad102.add ((x5_1).toNat * 4)).off + 2, none⟩ = some (.int .i64 ((rd_T60 l1 x5_1).f2)) ∧ w'.cell? ⟨(ad102.add ((x5_1).toNat * 4)).block, (ad102.add ((x5_1).toNat * 4)).off + 3, none⟩ = some (.int .i64 ((rd_T60 l1 x5_1).f3))) (ds := []) #[false, false, false, false, false, false, false, false, false, false] zq23 rfl rfl ⟨(zkep HB.out hw101_0), (zkep HB.out hw101_1), (zkep HB.out hw101_2), (zkep HB.out hw101_3), (zkep HB.out hw102_0), (zkep HB.out hw102_1), (zkep HB.out hw102_2), (zkep HB.out hw102_3)⟩ (fun hHeld => ?_); refine with_tabW laws_eqNodeS.tab6 laws_eqNodeS.bits6 (fun HT_ HW_ => ?_)
   generalize wr.drew = w11 at HB hx101_0 hx101_1 hx101_2 hx101_3 hx102_0 hx102_1 hx102_2 hx102_3 hHeld ⊢
   refine zpu 0 17 HT_ ?_
   refine zpu 1 18 HT_ ?_
   refine zpu 2 19 HT_ ?_
   refine zpu 4 21 HT_ ?_
   refine zpu 5 22 HT_ ?_
   refine zpu 6 23 HT_ ?_
   refine ztu 3 20 HT_ HW_ hHeld ?_
   refine ztu 7 24 HT_ HW_ hHeld ?_
   refine one_ (i := 8) (N := some 25) #[true, true, true, true, true, true, true, true, true, false] rfl rfl (one_of HT_.out zq23) (by decide) (fun K hK => ?_)
   refine zgo Try.func39 (laws_eqNode.calls ((rd_T60 l0 x5_1).f0) ((rd_T60 l0 x5_1).f1) ((rd_T60 l0 x5_1).f2) ((rd_T60 l0 x5_1).f3) ((rd_T60 l1 x5_1).f0) ((rd_T60 l1 x5_1).f1) ((rd_T60 l1 x5_1).f2) ((rd_T60 l1 x5_1).f3) false _ A7.out) ?_
   rintro e w12 ⟨rfl, hb⟩
   refine ⟨_, rfl, ?_⟩
   replace HB := zA (below_step zq2 hb)
   (try clear hb)
   (try clear hb2)
   (try clear hk)
   (try clear hi)
   refine hK.out _ _ ⟨(zkep HB.out hw101_0), (zkep HB.out hw101_1), (zkep HB.out hw101_2), (zkep HB.out hw101_3), (zkep HB.out hw102_0), (zkep HB.out hw102_1), (zkep HB.out hw102_2), (zkep HB.out hw102_3)⟩ (fun hHeld => ?_)
   clear hK K
   refine znm 25 ?_
   refine zpu 9 26 HT_ ?_
   refine done_ (done_of HT_.out zq23) ?_
   try go_wp2
   exact zr_5
 subst c8
 replace H := zih H
 have H' := zA H
 clear H
 try go_wp2
 replace HB := zA (zbd HB.out)
 obtain ⟨p101, q101⟩ := zpq x5_1 l0.length
 obtain ⟨ad101, e101, hx101_0, hx101_1, hx101_2, hx101_3⟩ := at_T60 HR0.out x5_1 (zoe p101) (zoe q101)
 have hw101_3 := hx101_3
 have hw101_2 := hx101_2
 have hw101_1 := hx101_1
 have hw101_0 := hx101_0
 cases e101
 replace hx101_0 := zkep HB.out hx101_0
 replace hx101_1 := zkep HB.out hx101_1
 replace hx101_2 := zkep HB.out hx101_2
 replace hx101_3 := zkep HB.out hx101_3
 obtain ⟨p102, q102⟩ := zpq x5_1 l1.length
 obtain ⟨ad102, e102, hx102_0, hx102_1, hx102_2, hx102_3⟩ := at_T60 HR1.out x5_1 (zoe p102) (zoe q102)
 have hw102_3 := hx102_3
 have hw102_2 := hx102_2
 have hw102_1 := hx102_1
 have hw102_0 := hx102_0
 cases e102
 replace hx102_0 := zkep HB.out hx102_0
 replace hx102_1 := zkep HB.out hx102_1
 replace hx102_2 := zkep HB.out hx102_2
 replace hx102_3 := zkep HB.out hx102_3
 refine start_ (n := 10) (S := fun w' => w'.cell? (ad101.add ((x5_1).toNat * 4)) = some (.string ((rd_T60 l0 x5_1).f0)) ∧ w'.cell? ⟨(ad101.add ((x5_1).toNat * 4)).block, (ad101.add ((x5_1).toNat * 4)).off + 1, none⟩ = some (.int .i64 ((rd_T60 l0 x5_1).f1)) ∧ w'.cell? ⟨(ad101.add ((x5_1).toNat * 4)).block, (ad101.add ((x5_1).toNat * 4)).off + 2, none⟩ = some (.int .i64 ((rd_T60 l0 x5_1).f2)) ∧ w'.cell? ⟨(ad101.add ((x5_1).toNat * 4)).block, (ad101.add ((x5_1).toNat * 4)).off + 3, none⟩ = some (.int .i64 ((rd_T60 l0 x5_1).f3)) ∧ w'.cell? (ad102.add ((x5_1).toNat * 4)) = some (.string ((rd_T60 l1 x5_1).f0)) ∧ w'.cell? ⟨(ad102.add ((x5_1).toNat * 4)).block, (ad102.add ((x5_1).toNat * 4)).off + 1, none⟩ = some (.int .i64 ((rd_T60 l1 x5_1).f1)) ∧ w'.cell? ⟨(ad102.add ((x5_1).toNat * 4)).block, (ad102.add ((x5_1).toNat * 4)).off + 2, none⟩ = some (.int .i64 ((rd_T60 l1 x5_1).f2)) ∧ w'.cell? ⟨(ad102.add ((x5_1).toNat * 4)).block, (ad102.add ((x5_1).toNat * 4)).off + 3, none⟩ = some (.int .i64 ((rd_T60 l1 x5_1).f3))) (ds := []) #[false, false, false, false, false, false, false, false, false, false] zq23 rfl rfl ⟨(zkep HB.out hw101_0), (zkep HB.out hw101_1), (zkep HB.out hw101_2), (zkep HB.out hw101_3), (zkep HB.out hw102_0), (zkep HB.out hw102_1), (zkep HB.out hw102_2), (zkep HB.out hw102_3)⟩ (fun hHeld => ?_); refine with_tabW laws_eqNodeS.tab6 laws_eqNodeS.bits6 (fun HT_ HW_ => ?_)
 generalize wr.drew = w9 at HB hx101_0 hx101_1 hx101_2 hx101_3 hx102_0 hx102_1 hx102_2 hx102_3 hHeld ⊢
 refine zpu 0 17 HT_ ?_
 refine zpu 1 18 HT_ ?_
 refine zpu 2 19 HT_ ?_
 refine zpu 4 21 HT_ ?_
 refine zpu 5 22 HT_ ?_
 refine zpu 6 23 HT_ ?_
 refine ztu 3 20 HT_ HW_ hHeld ?_
 refine ztu 7 24 HT_ HW_ hHeld ?_
 refine one_ (i := 8) (N := some 25) #[true, true, true, true, true, true, true, true, true, false] rfl rfl (one_of HT_.out zq23) (by decide) (fun K hK => ?_)
 refine zgo Try.func39 (laws_eqNode.calls ((rd_T60 l0 x5_1).f0) ((rd_T60 l0 x5_1).f1) ((rd_T60 l0 x5_1).f2) ((rd_T60 l0 x5_1).f3) ((rd_T60 l1 x5_1).f0) ((rd_T60 l1 x5_1).f1) ((rd_T60 l1 x5_1).f2) ((rd_T60 l1 x5_1).f3) true _ A7.out) ?_
 rintro e w10 ⟨rfl, hb⟩
 refine ⟨_, rfl, ?_⟩
 replace HB := zA (below_step zq2 hb)
 (try clear hb)
 (try clear hb2)
 (try clear hk)
 (try clear hi)
 refine hK.out _ _ ⟨(zkep HB.out hw101_0), (zkep HB.out hw101_1), (zkep HB.out hw101_2), (zkep HB.out hw101_3), (zkep HB.out hw102_0), (zkep HB.out hw102_1), (zkep HB.out hw102_2), (zkep HB.out hw102_3)⟩ (fun hHeld => ?_)
 clear hK K
 refine znm 25 ?_
 refine zpu 9 26 HT_ ?_
 refine done_ (done_of HT_.out zq23) ?_
 try go_wp2
 go_roundg k1
 case measure => have := HK1.out; omega
 case rel => exact ⟨(wrap64 (x5_1 + 1)), zq5, H', ⟨zq36 HK1⟩, ⟨zq2⟩⟩
def laws_szIntS.f (l0 : List Int) (a1 : Int) : Option (Int) := if (wrap64 (a1 - (l0.length : Int))) < 0 then (some (-1)) else (some (wrap64 (a1 - (l0.length : Int))))
theorem laws_szIntS.calls (A0 : Option Addr) (c0 : Nat) (l0 : List Int) (a1 : Int) (r : Int) (w : World) (hr0 : Kd.C (Kd.int .i64) w A0 l0.length l0) (hc0 : l0.length ≤ c0) (h : laws_szIntS.f l0 a1 = some r) :
   Calls Try.prog 23 #[.slice A0 l0.length c0, .int .i64 a1] w fun e w' => e = .returned (.int .i64 r) ∧ Drawn0 w w' := by
 have HR0 := zA hr0
 have HC0 := zA hc0
 clear hr0 hc0
 have H : (if (wrap64 (a1 - (l0.length : Int))) < 0 then (some (-1)) else (some (wrap64 (a1 - (l0.length : Int))))) = some r := h
 clear h
 by_cases c3 : (wrap64 (a1 - (l0.length : Int))) < 0
 · rw [if_pos c3] at H
   have c3b0 := zdt c3
   clear c3
   obtain rfl := zsi H
   go_enter Try.func23, Try.ntmps23
   exact zr_1
 · rw [if_neg c3] at H
   have c3b0 := zdf c3
   clear c3
   obtain rfl := zsi H
   go_enter Try.func23, Try.ntmps23
   exact zr_1
def laws_szStringS.l0 : Nat → List ByteArray → Int → Int → Option (Int)
 | 0, _, _, _ => none
 | k + 1, x0, x1, x5 => if x5 < (x0.length : Int) then (if 0 ≤ x5 then (if (wrap64 (x1 - ((rdOf ByteArray.empty x0 x5).size : Int))) < 0 then (some (-1)) else (laws_szStringS.l0 k x0 (wrap64 (x1 - ((rdOf ByteArray.empty x0 x5).size : Int))) (wrap64 (x5 + 1)))) else (none)) else (some x1)
def laws_szStringS.f (k : Nat) (l0 : List ByteArray) (a1 : Int) : Option (Int) := if (wrap64 (a1 - (l0.length : Int))) < 0 then (some (-1)) else (laws_szStringS.l0 k l0 (wrap64 (a1 - (l0.length : Int))) 0)
theorem laws_szStringS.mono_l : ∀ k, (∀ y0 y1 y2, LeO (laws_szStringS.l0 k y0 y1 y2) (laws_szStringS.l0 (k + 1) y0 y1 y2))
 | 0 => fun _ _ _ r h => by simp [laws_szStringS.l0] at h
 | k + 1 => by
   have ih0 := laws_szStringS.mono_l k
   · intro y0 y1 y2
     unfold laws_szStringS.l0
     exact zm1 ih0
theorem laws_szStringS.mono : ∀ a0 a1 k, LeO (laws_szStringS.f k a0 a1) (laws_szStringS.f (k + 1) a0 a1) := by
 intro a0 a1 k
 have ih0 := laws_szStringS.mono_l k
 unfold laws_szStringS.f
 exact zm1 ih0
theorem laws_szStringS.calls (k : Nat) (A0 : Option Addr) (c0 : Nat) (l0 : List ByteArray) (a1 : Int) (r : Int) (w : World) (hr0 : Kd.C Kd.string w A0 l0.length l0) (hc0 : l0.length ≤ c0) (h : laws_szStringS.f k l0 a1 = some r) :
   Calls Try.prog 22 #[.slice A0 l0.length c0, .int .i64 a1] w fun e w' => e = .returned (.int .i64 r) ∧ Drawn0 w w' := by
 have HR0 := zA hr0
 have HC0 := zA hc0
 clear hr0 hc0
 have H : (if (wrap64 (a1 - (l0.length : Int))) < 0 then (some (-1)) else (laws_szStringS.l0 k l0 (wrap64 (a1 - (l0.length : Int))) 0)) = some r := h
 clear h
 by_cases c3 : (wrap64 (a1 - (l0.length : Int))) < 0
 · rw [if_pos c3] at H
   have c3b0 := zdt c3
   clear c3
   obtain rfl := zsi H
   go_enter Try.func22, Try.ntmps22
   exact zr_1
 rw [if_neg c3] at H
 have c3b0 := zdf c3
 clear c3
 have H' := zA H
 clear H
 go_enter Try.func22, Try.ntmps22
 go_wp2
 go_loopg [1, 5] k (fun kq v1 v5 w' => ∃ (x1_1 : Int) (x5_1 : Int), v1 = .int .i64 x1_1 ∧ v5 = .int .i64 x5_1 ∧ Aside0 (laws_szStringS.l0 kq l0 x1_1 x5_1 = some r) ∧ Aside0 (kq ≤ k) ∧ Drawn0 w w')
 case atStart => exact ⟨(wrap64 (a1 - (l0.length : Int))), (0), zq5, zq5, H', ⟨zlr _⟩, zq9⟩
 clear H'
 try clear c3
 try clear c3b0
 obtain ⟨x1_1, x5_1, rfl, rfl, HA, HK1, ⟨m1, rfl⟩⟩ := hrel
 cases gk with
 | zero => exact absurd HA.out (by simp [laws_szStringS.l0])
 | succ k1 =>
 have H := HA.out
 clear HA
 simp only [laws_szStringS.l0] at H
 revert H
 refine zit (fun c4 H => ?_) fun c4 H => ?_
 rotate_left
 · obtain rfl := zsi H
   exact zr_1
 revert H
 refine zin fun c5 H => ?_
 by_cases c6 : (wrap64 (x1_1 - ((rdOf ByteArray.empty l0 x5_1).size : Int))) < 0
 · rw [if_pos c6] at H
   have c6b0 := zdt c6
   clear c6
   obtain rfl := zsi H
   obtain ⟨p101, q101⟩ := zpq x5_1 l0.length
   obtain ⟨ad101, e101, hx101_0⟩ := Kd.at_string HR0.out x5_1 (zoe p101) (zoe q101)
   cases e101
   exact zr_1
 rw [if_neg c6] at H
 have c6b0 := zdf c6
 clear c6
 have H' := zA H
 clear H
 obtain ⟨p101, q101⟩ := zpq x5_1 l0.length
 obtain ⟨ad101, e101, hx101_0⟩ := Kd.at_string HR0.out x5_1 (zoe p101) (zoe q101)
 cases e101
 go_wp2
 go_roundg k1
 case measure => have := HK1.out; omega
 case rel => exact ⟨(wrap64 (x1_1 - ((rdOf ByteArray.empty l0 x5_1).size : Int))), (wrap64 (x5_1 + 1)), zq5, zq5, H', ⟨zq36 HK1⟩, zq9⟩
def laws_szChoice.f (k : Nat) (l0_0 : List ByteArray) (l0_1 : List Int) (a1 : Int) : Option (Int) := (laws_szStringS.f k l0_0 a1).bind fun t102 => (if t102 < 0 then (some (-1)) else ((laws_szIntS.f l0_1 t102).bind fun t103 => (if t103 < 0 then (some (-1)) else (some t103))))
theorem laws_szChoice.mono : ∀ a0 a1 a2 k, LeO (laws_szChoice.f k a0 a1 a2) (laws_szChoice.f (k + 1) a0 a1 a2) := by
 intro a0 a1 a2 k
 unfold laws_szChoice.f
 exact zm1 laws_szStringS.mono
theorem laws_szChoice.calls (k : Nat) (A0_0 : Option Addr) (c0_0 : Nat) (l0_0 : List ByteArray) (A0_1 : Option Addr) (c0_1 : Nat) (l0_1 : List Int) (a1 : Int) (r : Int) (w : World) (hr0_0 : Kd.C Kd.string w A0_0 l0_0.length l0_0) (hc0_0 : l0_0.length ≤ c0_0) (hr0_1 : Kd.C (Kd.int .i64) w A0_1 l0_1.length l0_1) (hc0_1 : l0_1.length ≤ c0_1) (h : laws_szChoice.f k l0_0 l0_1 a1 = some r) :
   Calls Try.prog 7 #[.agg #[.slice A0_0 l0_0.length c0_0, .slice A0_1 l0_1.length c0_1], .int .i64 a1] w fun e w' => e = .returned (.int .i64 r) ∧ Below w.heap.size w w' := by
 have hu26 := Try.underlying26
 have HR0_0 := zA hr0_0
 have HC0_0 := zA hc0_0
 clear hr0_0 hc0_0
 have HR0_1 := zA hr0_1
 have HC0_1 := zA hc0_1
 clear hr0_1 hc0_1
 have HB := zA (Below.refl w.heap.size w)
 have H : ((laws_szStringS.f k l0_0 a1).bind fun t102 => (if t102 < 0 then (some (-1)) else ((laws_szIntS.f l0_1 t102).bind fun t103 => (if t103 < 0 then (some (-1)) else (some t103))))) = some r := h
 clear h
 replace H := zob H
 obtain ⟨t102, A30, H⟩ := H
 replace H : (if t102 < 0 then (some (-1)) else ((laws_szIntS.f l0_1 t102).bind fun t103 => (if t103 < 0 then (some (-1)) else (some t103)))) = some r := H
 have A3 := zA A30
 clear A30
 by_cases c4 : t102 < 0
 · rw [if_pos c4] at H
   have c4b0 := zdt c4
   clear c4
   obtain rfl := zsi H
   go_enter Try.func7, Try.ntmps7
   go_wp2_with (first | ((with_reducible refine zgd 2 ?_); refine zbh zq2 #[.slice A0_0 l0_0.length c0_0, .slice A0_1 l0_1.length c0_1] 26 ?_; clear HB; intro gb101 w5 HB BK101 GW101; have GE101 := GW101; obtain ⟨hcz6_0, hcz6_1, hfz6_0, hfz6_1⟩ := zd2 BK101) | ((with_reducible refine zgc 22 ?_); refine zca 8 Try.func22 #[.slice A0_0 l0_0.length c0_0, .int .i64 a1] (laws_szStringS.calls k _ _ l0_0 a1 t102 _ (zq8 HR0_0) HC0_0.out A3.out) ?_; rintro e w' ⟨rfl, ⟨nd, rfl⟩⟩; refine ⟨_, rfl, ?_⟩))
   go_ret
   exact ⟨zq4, zq1 GE101⟩
 rw [if_neg c4] at H
 have c4b0 := zdf c4
 clear c4
 replace H := zob H
 obtain ⟨t103, A70, H⟩ := H
 replace H : (if t103 < 0 then (some (-1)) else (some t103)) = some r := H
 have A7 := zA A70
 clear A70
 by_cases c8 : t103 < 0
 · rw [if_pos c8] at H
   have c8b0 := zdt c8
   clear c8
   obtain rfl := zsi H
   go_enter Try.func7, Try.ntmps7
   go_wp2_with (first | ((with_reducible refine zgd 2 ?_); refine zbh zq2 #[.slice A0_0 l0_0.length c0_0, .slice A0_1 l0_1.length c0_1] 26 ?_; clear HB; intro gb101 w9 HB BK101 GW101; have GE101 := GW101; obtain ⟨hcz10_0, hcz10_1, hfz10_0, hfz10_1⟩ := zd2 BK101) | ((with_reducible refine zgc 22 ?_); refine zca 8 Try.func22 #[.slice A0_0 l0_0.length c0_0, .int .i64 a1] (laws_szStringS.calls k _ _ l0_0 a1 t102 _ (zq8 HR0_0) HC0_0.out A3.out) ?_; rintro e w' ⟨rfl, ⟨nd, rfl⟩⟩; refine ⟨_, rfl, ?_⟩) | ((with_reducible refine zgc 23 ?_); refine zca 14 Try.func23 #[.slice A0_1 l0_1.length c0_1, .int .i64 t102] (laws_szIntS.calls _ _ l0_1 t102 t103 _ (by repeat (first | exact (zCb HR0_1.out (zq1 GE101)) | (with_reducible first | refine zCa ?_ _ | refine zCn ?_ _ | refine zCd ?_))) HC0_1.out A7.out) ?_; rintro e w' ⟨rfl, ⟨nd, rfl⟩⟩; refine ⟨_, rfl, ?_⟩))
   go_ret
   exact ⟨zq4, zq1 GE101⟩
 rw [if_neg c8] at H
 have c8b0 := zdf c8
 clear c8
 obtain rfl := zsi H
 go_enter Try.func7, Try.ntmps7
 go_wp2_with (first | ((with_reducible refine zgd 2 ?_); refine zbh zq2 #[.slice A0_0 l0_0.length c0_0, .slice A0_1 l0_1.length c0_1] 26 ?_; clear HB; intro gb101 w11 HB BK101 GW101; have GE101 := GW101; obtain ⟨hcz12_0, hcz12_1, hfz12_0, hfz12_1⟩ := zd2 BK101) | ((with_reducible refine zgc 22 ?_); refine zca 8 Try.func22 #[.slice A0_0 l0_0.length c0_0, .int .i64 a1] (laws_szStringS.calls k _ _ l0_0 a1 t102 _ (zq8 HR0_0) HC0_0.out A3.out) ?_; rintro e w' ⟨rfl, ⟨nd, rfl⟩⟩; refine ⟨_, rfl, ?_⟩) | ((with_reducible refine zgc 23 ?_); refine zca 14 Try.func23 #[.slice A0_1 l0_1.length c0_1, .int .i64 t102] (laws_szIntS.calls _ _ l0_1 t102 t103 _ (by repeat (first | exact (zCb HR0_1.out (zq1 GE101)) | (with_reducible first | refine zCa ?_ _ | refine zCn ?_ _ | refine zCd ?_))) HC0_1.out A7.out) ?_; rintro e w' ⟨rfl, ⟨nd, rfl⟩⟩; refine ⟨_, rfl, ?_⟩))
 go_ret
 exact ⟨zq4, zq1 GE101⟩
def laws_szNode.f (a0_0 : ByteArray) (a0_1 : Int) (a0_2 : Int) (a0_3 : Int) (a1 : Int) : Option (Int) := if (wrap64 (a1 - (a0_0.size : Int))) < 0 then (some (-1)) else (some (wrap64 (a1 - (a0_0.size : Int))))
theorem laws_szNode.calls (a0_0 : ByteArray) (a0_1 : Int) (a0_2 : Int) (a0_3 : Int) (a1 : Int) (r : Int) (w : World) (h : laws_szNode.f a0_0 a0_1 a0_2 a0_3 a1 = some r) :
   Calls Try.prog 21 #[.agg #[.string a0_0, .int .i64 a0_1, .int .i64 a0_2, .int .i64 a0_3], .int .i64 a1] w fun e w' => e = .returned (.int .i64 r) ∧ Below w.heap.size w w' := by
 have hu50 := Try.underlying50
 have HB := zA (Below.refl w.heap.size w)
 have H : (if (wrap64 (a1 - (a0_0.size : Int))) < 0 then (some (-1)) else (some (wrap64 (a1 - (a0_0.size : Int))))) = some r := h
 clear h
 by_cases c3 : (wrap64 (a1 - (a0_0.size : Int))) < 0
 · rw [if_pos c3] at H
   have c3b0 := zdt c3
   clear c3
   obtain rfl := zsi H
   go_enter Try.func21, Try.ntmps21
   go_wp2_with (first | ((with_reducible refine zgd 2 ?_); refine zbh zq2 #[.string a0_0, .int .i64 a0_1, .int .i64 a0_2, .int .i64 a0_3] 50 ?_; clear HB; intro gb101 w4 HB BK101 GW101; have GE101 := GW101; obtain ⟨hcz5_0, hcz5_1, hcz5_2, hcz5_3, hfz5_0, hfz5_1, hfz5_2, hfz5_3⟩ := zd4 BK101))
   go_ret
   exact ⟨zq4, zq1 GE101⟩
 · rw [if_neg c3] at H
   have c3b0 := zdf c3
   clear c3
   obtain rfl := zsi H
   go_enter Try.func21, Try.ntmps21
   go_wp2_with (first | ((with_reducible refine zgd 2 ?_); refine zbh zq2 #[.string a0_0, .int .i64 a0_1, .int .i64 a0_2, .int .i64 a0_3] 50 ?_; clear HB; intro gb101 w6 HB BK101 GW101; have GE101 := GW101; obtain ⟨hcz7_0, hcz7_1, hcz7_2, hcz7_3, hfz7_0, hfz7_1, hfz7_2, hfz7_3⟩ := zd4 BK101))
   go_ret
   exact ⟨zq4, zq1 GE101⟩
def laws_szNodeS.l0 : Nat → List (S50) → Int → Int → Option (Int)
 | 0, _, _, _ => none
 | k + 1, x0, x1, x5 => if x5 < (x0.length : Int) then (if 0 ≤ x5 then ((laws_szNode.f ((rd_T50 x0 x5).f0) ((rd_T50 x0 x5).f1) ((rd_T50 x0 x5).f2) ((rd_T50 x0 x5).f3) x1).bind fun t102 => (if t102 < 0 then (some (-1)) else (laws_szNodeS.l0 k x0 t102 (wrap64 (x5 + 1))))) else (none)) else (some x1)
def laws_szNodeS.f (k : Nat) (l0 : List (S50)) (a1 : Int) : Option (Int) := if (wrap64 (a1 - (l0.length : Int))) < 0 then (some (-1)) else (laws_szNodeS.l0 k l0 (wrap64 (a1 - (l0.length : Int))) 0)
theorem laws_szNodeS.mono_l : ∀ k, (∀ y0 y1 y2, LeO (laws_szNodeS.l0 k y0 y1 y2) (laws_szNodeS.l0 (k + 1) y0 y1 y2))
 | 0 => fun _ _ _ r h => by simp [laws_szNodeS.l0] at h
 | k + 1 => by
   have ih0 := laws_szNodeS.mono_l k
   · intro y0 y1 y2
     unfold laws_szNodeS.l0
     exact zm1 ih0
theorem laws_szNodeS.mono : ∀ a0 a1 k, LeO (laws_szNodeS.f k a0 a1) (laws_szNodeS.f (k + 1) a0 a1) := by
 intro a0 a1 k
 have ih0 := laws_szNodeS.mono_l k
 unfold laws_szNodeS.f
 exact zm1 ih0
theorem laws_szNodeS.calls (k : Nat) (A0 : Option Addr) (c0 : Nat) (l0 : List (S50)) (a1 : Int) (r : Int) (w : World) (hr0 : Kd.C k50 w A0 l0.length l0) (hc0 : l0.length ≤ c0) (h : laws_szNodeS.f k l0 a1 = some r) :
   Calls Try.prog 6 #[.slice A0 l0.length c0, .int .i64 a1] w fun e w' => e = .returned (.int .i64 r) ∧ Below w.heap.size w w' := by
 have hu50 := Try.underlying50
 have HR0 := zA hr0
 have HC0 := zA hc0
 clear hr0 hc0
 have HB := zA (Below.refl w.heap.size w)
 have H : (if (wrap64 (a1 - (l0.length : Int))) < 0 then (some (-1)) else (laws_szNodeS.l0 k l0 (wrap64 (a1 - (l0.length : Int))) 0)) = some r := h
 clear h
 by_cases c3 : (wrap64 (a1 - (l0.length : Int))) < 0
 · rw [if_pos c3] at H
   have c3b0 := zdt c3
   clear c3
   obtain rfl := zsi H
   go_enter Try.func6, Try.ntmps6
   go_wp2
   exact zr_5
 rw [if_neg c3] at H
 have c3b0 := zdf c3
 clear c3
 have H' := zA H
 clear H
 go_enter Try.func6, Try.ntmps6
 go_wp2
 go_loopg [1, 5] k (fun kq v1 v5 w' => ∃ (x1_1 : Int) (x5_1 : Int), v1 = .int .i64 x1_1 ∧ v5 = .int .i64 x5_1 ∧ Aside0 (laws_szNodeS.l0 kq l0 x1_1 x5_1 = some r) ∧ Aside0 (kq ≤ k) ∧ Aside0 (Below w.heap.size w w'))
 case atStart => exact ⟨(wrap64 (a1 - (l0.length : Int))), (0), zq5, zq5, H', ⟨zlr _⟩, ⟨zq2⟩⟩
 clear H'
 try clear c3
 try clear c3b0
 obtain ⟨x1_1, x5_1, rfl, rfl, HA, HK1, HB⟩ := hrel
 cases gk with
 | zero => exact absurd HA.out (by simp [laws_szNodeS.l0])
 | succ k1 =>
 have H := HA.out
 clear HA
 simp only [laws_szNodeS.l0] at H
 revert H
 refine zit (fun c4 H => ?_) fun c4 H => ?_
 rotate_left
 · obtain rfl := zsi H
   go_wp2
   exact zr_5
 revert H
 refine zin fun c5 H => ?_
 replace H := zob H
 obtain ⟨t102, A60, H⟩ := H
 replace H : (if t102 < 0 then (some (-1)) else (laws_szNodeS.l0 k1 l0 t102 (wrap64 (x5_1 + 1)))) = some r := H
 have A6 := zA A60
 clear A60
 by_cases c7 : t102 < 0
 · rw [if_pos c7] at H
   have c7b0 := zdt c7
   clear c7
   obtain rfl := zsi H
   obtain ⟨p101, q101⟩ := zpq x5_1 l0.length
   obtain ⟨ad101, e101, hx101_0, hx101_1, hx101_2, hx101_3⟩ := at_T50 HR0.out x5_1 (zoe p101) (zoe q101)
   cases e101
   replace hx101_0 := zkep HB.out hx101_0
   replace hx101_1 := zkep HB.out hx101_1
   replace hx101_2 := zkep HB.out hx101_2
   replace hx101_3 := zkep HB.out hx101_3
   go_wp2_with (first | ((with_reducible refine zgc 21 ?_); refine zcl 23 Try.func21 (laws_szNode.calls ((rd_T50 l0 x5_1).f0) ((rd_T50 l0 x5_1).f1) ((rd_T50 l0 x5_1).f2) ((rd_T50 l0 x5_1).f3) x1_1 t102 _ A6.out) ?_; rintro e w8 ⟨rfl, hb⟩; refine ⟨_, rfl, ?_⟩; replace HB := zA (below_step zq2 hb); (try clear hb)))
   exact zr_5
 rw [if_neg c7] at H
 have c7b0 := zdf c7
 clear c7
 have H' := zA H
 clear H
 obtain ⟨p101, q101⟩ := zpq x5_1 l0.length
 obtain ⟨ad101, e101, hx101_0, hx101_1, hx101_2, hx101_3⟩ := at_T50 HR0.out x5_1 (zoe p101) (zoe q101)
 cases e101
 replace hx101_0 := zkep HB.out hx101_0
 replace hx101_1 := zkep HB.out hx101_1
 replace hx101_2 := zkep HB.out hx101_2
 replace hx101_3 := zkep HB.out hx101_3
 go_wp2_with (first | ((with_reducible refine zgc 21 ?_); refine zcl 23 Try.func21 (laws_szNode.calls ((rd_T50 l0 x5_1).f0) ((rd_T50 l0 x5_1).f1) ((rd_T50 l0 x5_1).f2) ((rd_T50 l0 x5_1).f3) x1_1 t102 _ A6.out) ?_; rintro e w9 ⟨rfl, hb⟩; refine ⟨_, rfl, ?_⟩; replace HB := zA (below_step zq2 hb); (try clear hb)))
 go_roundg k1
 case measure => have := HK1.out; omega
 case rel => exact ⟨(t102), (wrap64 (x5_1 + 1)), zq5, zq5, H', ⟨zq36 HK1⟩, ⟨zq2⟩⟩
def laws_toIntS.l0 : Nat → List Int → List Int → Int → Option (List Int)
 | 0, _, _, _ => none
 | k + 1, x0, x3, x4 => if x4 < (x0.length : Int) then (if 0 ≤ x4 then (if x4 < (x3.length : Int) then (laws_toIntS.l0 k x0 (x3.set (x4 : Int).toNat (rd x0 x4)) (wrap64 (x4 + 1))) else (none)) else (none)) else (some x3)
def laws_toIntS.f (k : Nat) (l0 : List Int) : Option (List Int) := if 0 ≤ (l0.length : Int) then (if ((l0.length : Int) : Int).toNat ≤ 35184372088832 then (laws_toIntS.l0 k l0 (List.replicate ((l0.length : Int) : Int).toNat 0) 0) else (none)) else (none)
theorem laws_toIntS.mono_l : ∀ k, (∀ y0 y1 y2, LeO (laws_toIntS.l0 k y0 y1 y2) (laws_toIntS.l0 (k + 1) y0 y1 y2))
 | 0 => fun _ _ _ r h => by simp [laws_toIntS.l0] at h
 | k + 1 => by
   have ih0 := laws_toIntS.mono_l k
   · intro y0 y1 y2
     unfold laws_toIntS.l0
     exact zm1 ih0
theorem laws_toIntS.mono : ∀ a0 k, LeO (laws_toIntS.f k a0) (laws_toIntS.f (k + 1) a0) := by
 intro a0 k
 have ih0 := laws_toIntS.mono_l k
 unfold laws_toIntS.f
 exact zm1 ih0
theorem laws_toIntS.calls (k : Nat) (A0 : Option Addr) (c0 : Nat) (l0 : List Int) (r : List Int) (w : World) (hr0 : Kd.C (Kd.int .i64) w A0 l0.length l0) (hc0 : l0.length ≤ c0) (h : laws_toIntS.f k l0 = some r) :
   Calls Try.prog 31 #[.slice A0 l0.length c0] w fun e w' => ∃ v0_ : Value, e = .returned (v0_) ∧ Kd.R (Kd.int .i64) 3 w' w.heap.size (fun _ => True) v0_ r ∧ Below w.heap.size w w' := by
 have HR0 := zA hr0
 have HC0 := zA hc0
 clear hr0 hc0
 have HB := zA (Below.refl w.heap.size w)
 have H : (if 0 ≤ (l0.length : Int) then (if ((l0.length : Int) : Int).toNat ≤ 35184372088832 then (laws_toIntS.l0 k l0 (List.replicate ((l0.length : Int) : Int).toNat 0) 0) else (none)) else (none)) = some r := h
 clear h
 by_cases c2 : 0 ≤ (l0.length : Int)
 rotate_left
 · rw [if_neg c2] at H
   exact absurd H (by simp)
 rw [if_pos c2] at H
 have c2b0 := eq_true c2
 have c2b1 := zdt c2
 clear c2
 by_cases c3 : ((l0.length : Int) : Int).toNat ≤ 35184372088832
 rotate_left
 · rw [if_neg c3] at H
   exact absurd H (by simp)
 rw [if_pos c3] at H
 have c3b0 := eq_true c3
 have c3b1 := zdt c3
 clear c3
 obtain ⟨y101, hy101⟩ : ∃ y_ : List Int, y_ = (List.replicate ((l0.length : Int) : Int).toNat 0) := ⟨_, rfl⟩
 replace H : (laws_toIntS.l0 k l0 y101 0) = some r := by first | (rw [hy101]; with_reducible exact H) | (have H2_ := (Option.bind_some _ _).symm.trans H; rw [hy101]; with_reducible exact H2_) | (have H2_ := (Option.bind_some _ _).symm.trans H; with_reducible exact H2_) | with_reducible exact H | (rw [hy101]; exact H) | exact H
 have Ny101 := zA hy101
 clear hy101
 have H' := zA H
 clear H
 go_enter Try.func31, Try.ntmps31
 go_wp2_with (first | ((with_reducible refine zgd 7 ?_); refine Kd.R_make (Kd.int .i64) _ 3 rfl (N := 7) rfl 24 _ _ rfl (l0.length : Int) rfl rfl Try.underlying24 (.int .i64 0) 8 info3 rfl (by decide) (by omega) 0 (ok := fun _ => True) (okp := fun _ => True) rfl (fun _ hk => hk) trivial (zde zq11) (Nat.le_trans (Nat.mul_le_mul_right _ (zde zq11 : (l0.length : Int).toNat ≤ 35184372088832)) (by omega)) (Below.refl _ _) (zlr _) ?_; intro v102 w4 ho5 hb hg_ hnew_; clear hg_ hnew_; (first | rw [← Ny101.out] at ho5 | (simp only [Int.reduceToNat] at ho5; rw [← Ny101.out] at ho5)); have HO103 := zA (Kd.R_lower ho5 (below_size zq2)); replace HB := zA (below_step zq2 hb); clear hb ho5))
 go_loopg [4] k (fun kq v4 w' => ∃ (x3_1 : List Int) (x4_1 : Int), v4 = .int .i64 x4_1 ∧ Aside0 (laws_toIntS.l0 kq l0 x3_1 x4_1 = some r) ∧ Aside0 (kq ≤ k) ∧ Aside0 (Kd.R (Kd.int .i64) 3 w' w.heap.size (fun _ => True) v102 x3_1) ∧ Aside0 (Below w.heap.size w w'))
 case atStart => exact ⟨(y101), (0), zq5, H', ⟨zlr _⟩, ⟨zq3 HO103⟩, ⟨zq2⟩⟩
 clear H'
 try clear c2
 try clear c2b0
 try clear c2b1
 try clear c3
 try clear c3b0
 try clear c3b1
 obtain ⟨x3_1, x4_1, rfl, HA, HK1, HO_3, HB⟩ := hrel
 cases gk with
 | zero => exact absurd HA.out (by simp [laws_toIntS.l0])
 | succ k1 =>
 have H := HA.out
 clear HA
 simp only [laws_toIntS.l0] at H
 revert H
 refine zit (fun c6 H => ?_) fun c6 H => ?_
 rotate_left
 · obtain rfl := zsi H
   go_wp2
   go_ret
   exact ⟨_, zq4, zq3 HO_3, zq2⟩
 revert H
 refine zin fun c7 H => ?_
 revert H
 refine zin fun c8 H => ?_
 obtain ⟨y105, hy105⟩ : ∃ y_ : List Int, y_ = (x3_1.set (x4_1 : Int).toNat (rd l0 x4_1)) := ⟨_, rfl⟩
 replace H : (laws_toIntS.l0 k1 l0 y105 (wrap64 (x4_1 + 1))) = some r := by first | (rw [hy105]; with_reducible exact H) | (have H2_ := (Option.bind_some _ _).symm.trans H; rw [hy105]; with_reducible exact H2_) | (have H2_ := (Option.bind_some _ _).symm.trans H; with_reducible exact H2_) | with_reducible exact H | (rw [hy105]; exact H) | exact H
 have Ny105 := zA hy105
 clear hy105
 have H' := zA H
 clear H
 obtain ⟨p104, q104⟩ := zpq x4_1 l0.length
 obtain ⟨ad104, e104, hx104_0⟩ := Kd.at_int HR0.out x4_1 (zoe p104) (zoe q104)
 cases e104
 replace hx104_0 := zkep HB.out hx104_0
 have p9 : 0 ≤ (x4_1 : Int) := zde zq11
 have q9 : (x4_1 : Int) < ((x3_1.length : Int) : Int) := zde zq11
 obtain ⟨go9, co9, eo9, gb9, gl9, cl9, HG9⟩ := Kd.R_form HO_3.out (by omega)
 (first | cases eo9 | (injection eo9 with ea_ en_ ec_; (first | subst ea_ | (injection ea_ with ea_; subst ea_)); subst ec_; clear en_))
 have GB9 := zA gb9
 have GG9 := zA HG9
 clear gb9 gl9 HG9
 obtain ⟨hx9_0, hf9_0⟩ := Kd.R_celln 0 HO_3.out (x4_1 : Int) p9 q9
 replace p9 := eq_true p9
 replace q9 := eq_true q9
 have HP10 := Kd.R_putg HO_3.out (x4_1 : Int) (rd l0 x4_1)
 go_wp2_with (first | ((with_reducible refine zgs 3 20 ?_); refine zse (wr.setCell ⟨go9, (x4_1 : Int).toNat, none⟩ (.int .i64 (rd l0 x4_1))) ?_; intro w11 hw; have hg : wr.grownBy w11 (some go9) := (by rw [hw]; exact HP10.2); have hp_ : Kd.R (Kd.int .i64) 3 w11 w.heap.size (fun _ => True) (.slice (some ⟨go9, 0, none⟩) x3_1.length co9) y105 := (by rw [hw, Ny105.out]; exact HP10.1); clear HP10; replace HO_3 := zA (hp_); replace HB := zA ((zq50 GB9 : Below w.heap.size w w11)); clear hg hw hp_))
 go_roundg k1
 case measure => have := HK1.out; omega
 case rel => exact ⟨(y105), (wrap64 (x4_1 + 1)), zq5, H', ⟨zq36 HK1⟩, ⟨zq3 HO_3⟩, ⟨zq2⟩⟩
def laws_toStringS.l0 : Nat → List ByteArray → List ByteArray → Int → Option (List ByteArray)
 | 0, _, _, _ => none
 | k + 1, x0, x3, x4 => if x4 < (x0.length : Int) then (if 0 ≤ x4 then (if x4 < (x3.length : Int) then (laws_toStringS.l0 k x0 (x3.set (x4 : Int).toNat (rdOf ByteArray.empty x0 x4)) (wrap64 (x4 + 1))) else (none)) else (none)) else (some x3)
def laws_toStringS.f (k : Nat) (l0 : List ByteArray) : Option (List ByteArray) := if 0 ≤ (l0.length : Int) then (if ((l0.length : Int) : Int).toNat ≤ 17592186044416 then (laws_toStringS.l0 k l0 (List.replicate ((l0.length : Int) : Int).toNat (⟨#[]⟩ : ByteArray)) 0) else (none)) else (none)
theorem laws_toStringS.mono_l : ∀ k, (∀ y0 y1 y2, LeO (laws_toStringS.l0 k y0 y1 y2) (laws_toStringS.l0 (k + 1) y0 y1 y2))
 | 0 => fun _ _ _ r h => by simp [laws_toStringS.l0] at h
 | k + 1 => by
   have ih0 := laws_toStringS.mono_l k
   · intro y0 y1 y2
     unfold laws_toStringS.l0
     exact zm1 ih0
theorem laws_toStringS.mono : ∀ a0 k, LeO (laws_toStringS.f k a0) (laws_toStringS.f (k + 1) a0) := by
 intro a0 k
 have ih0 := laws_toStringS.mono_l k
 unfold laws_toStringS.f
 exact zm1 ih0
theorem laws_toStringS.calls (k : Nat) (A0 : Option Addr) (c0 : Nat) (l0 : List ByteArray) (r : List ByteArray) (w : World) (hr0 : Kd.C Kd.string w A0 l0.length l0) (hc0 : l0.length ≤ c0) (h : laws_toStringS.f k l0 = some r) :
   Calls Try.prog 30 #[.slice A0 l0.length c0] w fun e w' => ∃ v0_ : Value, e = .returned (v0_) ∧ Kd.R Kd.string 9 w' w.heap.size (fun _ => True) v0_ r ∧ Below w.heap.size w w' := by
 have HR0 := zA hr0
 have HC0 := zA hc0
 clear hr0 hc0
 have HB := zA (Below.refl w.heap.size w)
 have H : (if 0 ≤ (l0.length : Int) then (if ((l0.length : Int) : Int).toNat ≤ 17592186044416 then (laws_toStringS.l0 k l0 (List.replicate ((l0.length : Int) : Int).toNat (⟨#[]⟩ : ByteArray)) 0) else (none)) else (none)) = some r := h
 clear h
 by_cases c2 : 0 ≤ (l0.length : Int)
 rotate_left
 · rw [if_neg c2] at H
   exact absurd H (by simp)
 rw [if_pos c2] at H
 have c2b0 := eq_true c2
 have c2b1 := zdt c2
 clear c2
 by_cases c3 : ((l0.length : Int) : Int).toNat ≤ 17592186044416
 rotate_left
 · rw [if_neg c3] at H
   exact absurd H (by simp)
 rw [if_pos c3] at H
 have c3b0 := eq_true c3
 have c3b1 := zdt c3
 clear c3
 obtain ⟨y101, hy101⟩ : ∃ y_ : List ByteArray, y_ = (List.replicate ((l0.length : Int) : Int).toNat (⟨#[]⟩ : ByteArray)) := ⟨_, rfl⟩
 replace H : (laws_toStringS.l0 k l0 y101 0) = some r := by first | (rw [hy101]; with_reducible exact H) | (have H2_ := (Option.bind_some _ _).symm.trans H; rw [hy101]; with_reducible exact H2_) | (have H2_ := (Option.bind_some _ _).symm.trans H; with_reducible exact H2_) | with_reducible exact H | (rw [hy101]; exact H) | exact H
 have Ny101 := zA hy101
 clear hy101
 have H' := zA H
 clear H
 go_enter Try.func30, Try.ntmps30
 go_wp2_with (first | ((with_reducible refine zgd 7 ?_); refine Kd.R_make Kd.string _ 9 rfl (N := 7) rfl 23 _ _ rfl (l0.length : Int) rfl rfl Try.underlying23 (.string ⟨#[]⟩) 16 info9 rfl (by decide) (by omega) (⟨#[]⟩ : ByteArray) (ok := fun _ => True) (okp := fun _ => True) rfl (fun _ hk => hk) trivial (zde zq11) (Nat.le_trans (Nat.mul_le_mul_right _ (zde zq11 : (l0.length : Int).toNat ≤ 17592186044416)) (by omega)) (Below.refl _ _) (zlr _) ?_; intro v102 w4 ho5 hb hg_ hnew_; clear hg_ hnew_; (first | rw [← Ny101.out] at ho5 | (simp only [Int.reduceToNat] at ho5; rw [← Ny101.out] at ho5)); have HO103 := zA (Kd.R_lower ho5 (below_size zq2)); replace HB := zA (below_step zq2 hb); clear hb ho5))
 go_loopg [4] k (fun kq v4 w' => ∃ (x3_1 : List ByteArray) (x4_1 : Int), v4 = .int .i64 x4_1 ∧ Aside0 (laws_toStringS.l0 kq l0 x3_1 x4_1 = some r) ∧ Aside0 (kq ≤ k) ∧ Aside0 (Kd.R Kd.string 9 w' w.heap.size (fun _ => True) v102 x3_1) ∧ Aside0 (Below w.heap.size w w'))
 case atStart => exact ⟨(y101), (0), zq5, H', ⟨zlr _⟩, ⟨zq3 HO103⟩, ⟨zq2⟩⟩
 clear H'
 try clear c2
 try clear c2b0
 try clear c2b1
 try clear c3
 try clear c3b0
 try clear c3b1
 obtain ⟨x3_1, x4_1, rfl, HA, HK1, HO_3, HB⟩ := hrel
 cases gk with
 | zero => exact absurd HA.out (by simp [laws_toStringS.l0])
 | succ k1 =>
 have H := HA.out
 clear HA
 simp only [laws_toStringS.l0] at H
 revert H
 refine zit (fun c6 H => ?_) fun c6 H => ?_
 rotate_left
 · obtain rfl := zsi H
   go_wp2
   go_ret
   exact ⟨_, zq4, zq3 HO_3, zq2⟩
 revert H
 refine zin fun c7 H => ?_
 revert H
 refine zin fun c8 H => ?_
 obtain ⟨y105, hy105⟩ : ∃ y_ : List ByteArray, y_ = (x3_1.set (x4_1 : Int).toNat (rdOf ByteArray.empty l0 x4_1)) := ⟨_, rfl⟩
 replace H : (laws_toStringS.l0 k1 l0 y105 (wrap64 (x4_1 + 1))) = some r := by first | (rw [hy105]; with_reducible exact H) | (have H2_ := (Option.bind_some _ _).symm.trans H; rw [hy105]; with_reducible exact H2_) | (have H2_ := (Option.bind_some _ _).symm.trans H; with_reducible exact H2_) | with_reducible exact H | (rw [hy105]; exact H) | exact H
 have Ny105 := zA hy105
 clear hy105
 have H' := zA H
 clear H
 obtain ⟨p104, q104⟩ := zpq x4_1 l0.length
 obtain ⟨ad104, e104, hx104_0⟩ := Kd.at_string HR0.out x4_1 (zoe p104) (zoe q104)
 cases e104
 replace hx104_0 := zkep HB.out hx104_0
 have p9 : 0 ≤ (x4_1 : Int) := zde zq11
 have q9 : (x4_1 : Int) < ((x3_1.length : Int) : Int) := zde zq11
 obtain ⟨go9, co9, eo9, gb9, gl9, cl9, HG9⟩ := Kd.R_form HO_3.out (by omega)
 (first | cases eo9 | (injection eo9 with ea_ en_ ec_; (first | subst ea_ | (injection ea_ with ea_; subst ea_)); subst ec_; clear en_))
 have GB9 := zA gb9
 have GG9 := zA HG9
 clear gb9 gl9 HG9
 obtain ⟨hx9_0, hf9_0⟩ := Kd.R_celln (⟨#[]⟩ : ByteArray) HO_3.out (x4_1 : Int) p9 q9
 replace p9 := eq_true p9
 replace q9 := eq_true q9
 have HP10 := Kd.R_putg HO_3.out (x4_1 : Int) (rdOf ByteArray.empty l0 x4_1)
 go_wp2_with (first | ((with_reducible refine zgs 9 20 ?_); refine zse (wr.setCell ⟨go9, (x4_1 : Int).toNat, none⟩ (.string (rdOf ByteArray.empty l0 x4_1))) ?_; intro w11 hw; have hg : wr.grownBy w11 (some go9) := (by rw [hw]; exact HP10.2); have hp_ : Kd.R Kd.string 9 w11 w.heap.size (fun _ => True) (.slice (some ⟨go9, 0, none⟩) x3_1.length co9) y105 := (by rw [hw, Ny105.out]; exact HP10.1); clear HP10; replace HO_3 := zA (hp_); replace HB := zA ((zq50 GB9 : Below w.heap.size w w11)); clear hg hw hp_))
 go_roundg k1
 case measure => have := HK1.out; omega
 case rel => exact ⟨(y105), (wrap64 (x4_1 + 1)), zq5, H', ⟨zq36 HK1⟩, ⟨zq3 HO_3⟩, ⟨zq2⟩⟩
def laws_toChoice.f (k : Nat) (l0_0 : List ByteArray) (l0_1 : List Int) : Option (List ByteArray × List Int) := (laws_toStringS.f k l0_0).bind fun t104 => ((laws_toIntS.f k l0_1).bind fun t107 => (some (t104, t107)))
theorem laws_toChoice.mono : ∀ a0 a1 k, LeO (laws_toChoice.f k a0 a1) (laws_toChoice.f (k + 1) a0 a1) := by
 intro a0 a1 k
 unfold laws_toChoice.f
 exact zm2 laws_toIntS.mono laws_toStringS.mono
theorem laws_toChoice.calls (k : Nat) (A0_0 : Option Addr) (c0_0 : Nat) (l0_0 : List ByteArray) (A0_1 : Option Addr) (c0_1 : Nat) (l0_1 : List Int) (r1 : List ByteArray) (r2 : List Int) (w : World) (hr0_0 : Kd.C Kd.string w A0_0 l0_0.length l0_0) (hc0_0 : l0_0.length ≤ c0_0) (hr0_1 : Kd.C (Kd.int .i64) w A0_1 l0_1.length l0_1) (hc0_1 : l0_1.length ≤ c0_1) (h : laws_toChoice.f k l0_0 l0_1 = some (r1, r2)) :
   Calls Try.prog 11 #[.agg #[.slice A0_0 l0_0.length c0_0, .slice A0_1 l0_1.length c0_1]] w fun e w' => ∃ v0_ v1_ : Value, e = .returned (.agg #[v0_, v1_]) ∧ Kd.R Kd.string 9 w' w.heap.size (fun _ => True) v0_ r1 ∧ Kd.R (Kd.int .i64) 3 w' w.heap.size (fun _ => True) v1_ r2 ∧ Below w.heap.size w w' := by
 have hu26 := Try.underlying26
 have hu35 := Try.underlying35
 have HR0_0 := zA hr0_0
 have HC0_0 := zA hc0_0
 clear hr0_0 hc0_0
 have HR0_1 := zA hr0_1
 have HC0_1 := zA hc0_1
 clear hr0_1 hc0_1
 have HB := zA (Below.refl w.heap.size w)
 have H : ((laws_toStringS.f k l0_0).bind fun t104 => ((laws_toIntS.f k l0_1).bind fun t107 => (some (t104, t107)))) = some (r1, r2) := h
 clear h
 replace H := zob H
 obtain ⟨t104, A20, H⟩ := H
 replace H : ((laws_toIntS.f k l0_1).bind fun t107 => (some (t104, t107))) = some (r1, r2) := H
 have A2 := zA A20
 clear A20
 replace H := zob H
 obtain ⟨t107, A30, H⟩ := H
 replace H : (some (t104, t107)) = some (r1, r2) := H
 have A3 := zA A30
 clear A30
 simp only [Option.some.injEq, Prod.mk.injEq] at H
 obtain ⟨rfl, rfl⟩ := H
 go_enter Try.func11, Try.ntmps11
 go_wp2_with (first | ((with_reducible refine zgd 1 ?_); refine zbx #[.slice A0_0 l0_0.length c0_0, .slice A0_1 l0_1.length c0_1] 26 ?_; intro gb101 hg w4 hbox hb; have zs := zpair zq2 hb; replace HB := zA (zs.1); have BK101 := zA (hbox); have GW101 := zA (zge hg zs.2); have GE101 := GW101; clear zs hb hbox hg) | ((with_reducible refine zgd 2 ?_); refine zbx #[.slice none 0 0, .slice none 0 0] 35 ?_; intro gb102 hg w5 hbox hb; have zs := zpair (zq1 GE101) hb; replace HB := zA (zs.1); have BK102 := zA (hbox); have GW102 := zA (zge hg zs.2); have GE102 := GW102; have NB101_102 := zA ((zq18 BK101 : gb101 ≠ gb102)); replace BK101 := zbb BK101 hb; have NB102_101 := zA (Ne.symm NB101_102.out); clear zs hb hbox hg) | ((with_reducible refine zgd 3 ?_); refine zbx #[.slice none 0 0, .slice none 0 0] 35 ?_; intro gb103 hg w6 hbox hb; have zs := zpair (zq7 GE101 GE102) hb; replace HB := zA (zs.1); have BK103 := zA (hbox); have GW103 := zA (zge hg zs.2); have GE103 := GW103; have NB101_103 := zA ((zq18 BK101 : gb101 ≠ gb103)); replace BK101 := zbb BK101 hb; have NB103_101 := zA (Ne.symm NB101_103.out); have NB102_103 := zA ((zq18 BK102 : gb102 ≠ gb103)); replace BK102 := zbb BK102 hb; have NB103_102 := zA (Ne.symm NB102_103.out); clear zs hb hbox hg; have hnb7 := NB101_102.out; have hnc7 := NB102_101.out; have hnb8 := NB101_103.out; have hnc8 := NB103_101.out; obtain ⟨hcz9_0, hcz9_1, hfz9_0, hfz9_1⟩ := zd2 BK101) | ((with_reducible refine zgc 30 ?_); refine zca 6 Try.func30 #[.slice A0_0 l0_0.length c0_0] (laws_toStringS.calls k _ _ l0_0 t104 _ (zq8 HR0_0) HC0_0.out A2.out) ?_; rintro e w10 ⟨v105, rfl, ho0, hb⟩; refine ⟨_, rfl, ?_⟩; have HO106 := zA (Kd.R_lower ho0 (below_size (zq25 GE101 GE102 GE103))); replace BK101 := zbb BK101 hb; replace BK102 := zbb BK102 hb; replace BK103 := zbb BK103 hb; replace HB := zA (below_step (zq25 GE101 GE102 GE103) hb); (try clear hb); (try clear ho0); obtain ⟨Ao11, co11, eo11⟩ := Kd.R_slice HO106.out; subst eo11; have hnb12 := NB103_102.out; have hnc12 := NB102_103.out; obtain ⟨hcz13_0, hcz13_1⟩ := zc2 w10 (.slice none 0 0) (.slice none 0 0) BK103.out; obtain ⟨hfz13_0, hfz13_1⟩ := zf2 BK103.out; obtain ⟨hcz14_0, hcz14_1⟩ := zc2 w10 (.slice A0_0 l0_0.length c0_0) (.slice A0_1 l0_1.length c0_1) BK101.out; obtain ⟨hfz14_0, hfz14_1⟩ := zf2 BK101.out) | ((with_reducible refine zgc 31 ?_); refine zca 10 Try.func31 #[.slice A0_1 l0_1.length c0_1] (laws_toIntS.calls k _ _ l0_1 t107 _ (by exact zCb HR0_1.out (zq25 GE101 GE102 GE103)) HC0_1.out A3.out) ?_; rintro e w15 ⟨v108, rfl, ho0, hb⟩; refine ⟨_, rfl, ?_⟩; replace HO106 := zA (zRb (by (with_reducible repeat (first | apply zRa | apply zRn | apply zRd)); exact (Kd.R_mono (Kd.R_far (p := ⟨gb103, 0, none⟩) (Kd.R_types HO106.out BK103.out (by decide)) (fun _ hk => hk.2) (.slice Ao11 t104.length co11)) (fun _ h_ => h_.1))) hb); have HO109 := zA (Kd.R_lower ho0 (below_size (zq25 GE101 GE102 GE103))); replace BK101 := zA (blk_below (g := gb101) (o := .cells #[.slice A0_0 l0_0.length c0_0, .slice A0_1 l0_1.length c0_1] 26 (0, 0)) (zq59 NB101_103 BK101) hb); replace BK102 := zA (blk_below (g := gb102) (o := .cells #[.slice none 0 0, .slice none 0 0] 35 (0, 0)) (zq59 NB102_103 BK102) hb); replace BK103 := zA (blk_below (g := gb103) (o := .cells #[.slice Ao11 t104.length co11, .slice none 0 0] 35 (0, 0)) (by (with_reducible repeat (first | refine zkn ?_ _ | refine zkd ?_ | refine zka ?_ _)); refine blk_put (cs := #[.slice none 0 0, .slice none 0 0]) ?_ 0 _ rfl; (with_reducible repeat (first | refine zkn ?_ _ | refine zkd ?_ | refine zka ?_ _)); exact BK103.out) hb); replace HB := zA (below_step (zq25 GE101 GE102 GE103) hb); (try clear hb); (try clear hk); (try clear ho0); obtain ⟨Ao16, co16, eo16⟩ := Kd.R_slice HO109.out; subst eo16; obtain ⟨hcz17_0, hcz17_1⟩ := zc2 w15 (.slice Ao11 t104.length co11) (.slice none 0 0) BK103.out; obtain ⟨hfz17_0, hfz17_1⟩ := zf2 BK103.out; obtain ⟨hcz18_0, hcz18_1⟩ := zc2 w15 (.slice none 0 0) (.slice none 0 0) BK102.out; obtain ⟨hfz18_0, hfz18_1⟩ := zf2 BK102.out))
 refine bodyPost_ret (results_cell_row rfl _ _ gb102 35 #[.slice Ao11 t104.length co11, .slice Ao16 t107.length co16] (0, 0) _ rfl (by (with_reducible repeat (first | refine zkn ?_ _ | refine zkd ?_ | refine zka ?_ _)); refine blk_put (cs := #[.slice Ao11 t104.length co11, .slice none 0 0]) ?_ 1 _ rfl; (with_reducible repeat (first | refine zkn ?_ _ | refine zkd ?_ | refine zka ?_ _)); refine blk_put (cs := #[.slice none 0 0, .slice none 0 0]) ?_ 0 _ rfl; (with_reducible repeat (first | refine zkn ?_ _ | refine zkd ?_ | refine zka ?_ _)); refine blk_far ?_ NB102_103.out _; (with_reducible repeat (first | refine zkn ?_ _ | refine zkd ?_ | refine zka ?_ _)); exact BK102.out) Try.underlying35 rfl zq23) rfl ?_
 exact ⟨_, _, zq4, zq46 HO106 BK103 BK102, zq46 HO109 BK103 BK102, zq25 GE101 GE102 GE103⟩
def laws_toNode.f (a0_0 : ByteArray) (a0_1 : Int) (a0_2 : Int) (a0_3 : Int) : Option (ByteArray × Int × Int × Int) := some (a0_0, a0_1, a0_2, a0_3)
theorem laws_toNode.calls (a0_0 : ByteArray) (a0_1 : Int) (a0_2 : Int) (a0_3 : Int) (r1 : ByteArray) (r2 : Int) (r3 : Int) (r4 : Int) (w : World) (h : laws_toNode.f a0_0 a0_1 a0_2 a0_3 = some (r1, r2, r3, r4)) :
   Calls Try.prog 29 #[.agg #[.string a0_0, .int .i64 a0_1, .int .i64 a0_2, .int .i64 a0_3]] w fun e w' => e = .returned (.agg #[.string r1, .int .i64 r2, .int .i64 r3, .int .i64 r4]) ∧ Below w.heap.size w w' := by
 have hu50 := Try.underlying50
 have hu60 := Try.underlying60
 have HB := zA (Below.refl w.heap.size w)
 have H : (some (a0_0, a0_1, a0_2, a0_3)) = some (r1, r2, r3, r4) := h
 clear h
 simp only [Option.some.injEq, Prod.mk.injEq] at H
 obtain ⟨rfl, rfl, rfl, rfl⟩ := H
 go_enter Try.func29, Try.ntmps29
 go_wp2_with (first | ((with_reducible refine zgd 1 ?_); refine zbx #[.string a0_0, .int .i64 a0_1, .int .i64 a0_2, .int .i64 a0_3] 50 ?_; intro gb101 hg w2 hbox hb; have zs := zpair zq2 hb; replace HB := zA (zs.1); have BK101 := zA (hbox); have GW101 := zA (zge hg zs.2); have GE101 := GW101; clear zs hb hbox hg) | ((with_reducible refine zgd 2 ?_); refine zbx #[.string (⟨#[]⟩ : ByteArray), .int .i64 0, .int .i64 0, .int .i64 0] 60 ?_; intro gb102 hg w3 hbox hb; have zs := zpair (zq1 GE101) hb; replace HB := zA (zs.1); have BK102 := zA (hbox); have GW102 := zA (zge hg zs.2); have GE102 := GW102; have NB101_102 := zA ((zq18 BK101 : gb101 ≠ gb102)); replace BK101 := zbb BK101 hb; have NB102_101 := zA (Ne.symm NB101_102.out); clear zs hb hbox hg) | ((with_reducible refine zgd 3 ?_); refine zbx #[.string (⟨#[]⟩ : ByteArray), .int .i64 0, .int .i64 0, .int .i64 0] 60 ?_; intro gb103 hg w4 hbox hb; have zs := zpair (zq7 GE101 GE102) hb; replace HB := zA (zs.1); have BK103 := zA (hbox); have GW103 := zA (zge hg zs.2); have GE103 := GW103; have NB101_103 := zA ((zq18 BK101 : gb101 ≠ gb103)); replace BK101 := zbb BK101 hb; have NB103_101 := zA (Ne.symm NB101_103.out); have NB102_103 := zA ((zq18 BK102 : gb102 ≠ gb103)); replace BK102 := zbb BK102 hb; have NB103_102 := zA (Ne.symm NB102_103.out); clear zs hb hbox hg; have hnb5 := NB101_102.out; have hnc5 := NB102_101.out; have hnb6 := NB101_103.out; have hnc6 := NB103_101.out; obtain ⟨hcz7_0, hcz7_1, hcz7_2, hcz7_3, hfz7_0, hfz7_1, hfz7_2, hfz7_3⟩ := zd4 BK101; have hnb8 := NB103_102.out; have hnc8 := NB102_103.out; obtain ⟨hcz9_0, hcz9_1, hcz9_2, hcz9_3, hfz9_0, hfz9_1, hfz9_2, hfz9_3⟩ := zd4 BK103; obtain ⟨hcz10_0, hcz10_1, hcz10_2, hcz10_3, hfz10_0, hfz10_1, hfz10_2, hfz10_3⟩ := zd4 BK102))
 refine bodyPost_ret (results_cell_row rfl _ _ gb102 60 #[.string a0_0, .int .i64 a0_1, .int .i64 a0_2, .int .i64 a0_3] (0, 0) _ rfl (by (with_reducible repeat (first | refine zkn ?_ _ | refine zkd ?_ | refine zka ?_ _)); refine blk_put (cs := #[.string a0_0, .int .i64 a0_1, .int .i64 a0_2, .int .i64 0]) ?_ 3 _ rfl; (with_reducible repeat (first | refine zkn ?_ _ | refine zkd ?_ | refine zka ?_ _)); refine blk_put (cs := #[.string a0_0, .int .i64 a0_1, .int .i64 0, .int .i64 0]) ?_ 2 _ rfl; (with_reducible repeat (first | refine zkn ?_ _ | refine zkd ?_ | refine zka ?_ _)); refine blk_put (cs := #[.string a0_0, .int .i64 0, .int .i64 0, .int .i64 0]) ?_ 1 _ rfl; (with_reducible repeat (first | refine zkn ?_ _ | refine zkd ?_ | refine zka ?_ _)); refine blk_put (cs := #[.string (⟨#[]⟩ : ByteArray), .int .i64 0, .int .i64 0, .int .i64 0]) ?_ 0 _ rfl; (with_reducible repeat (first | refine zkn ?_ _ | refine zkd ?_ | refine zka ?_ _)); refine blk_far ?_ NB102_103.out _; (with_reducible repeat (first | refine zkn ?_ _ | refine zkd ?_ | refine zka ?_ _)); refine blk_far ?_ NB102_103.out _; (with_reducible repeat (first | refine zkn ?_ _ | refine zkd ?_ | refine zka ?_ _)); refine blk_far ?_ NB102_103.out _; (with_reducible repeat (first | refine zkn ?_ _ | refine zkd ?_ | refine zka ?_ _)); refine blk_far ?_ NB102_103.out _; (with_reducible repeat (first | refine zkn ?_ _ | refine zkd ?_ | refine zka ?_ _)); exact BK102.out) Try.underlying60 rfl zq23) rfl ?_
 exact ⟨zq4, zq25 GE101 GE102 GE103⟩
def laws_toNodeS.l0 : Nat → List (S50) → List (S60) → Int → Option ((List (S60)))
 | 0, _, _, _ => none
 | k + 1, x0, x3, x4 => if x4 < (x0.length : Int) then (if 0 ≤ x4 then ((laws_toNode.f ((rd_T50 x0 x4).f0) ((rd_T50 x0 x4).f1) ((rd_T50 x0 x4).f2) ((rd_T50 x0 x4).f3)).bind fun bt105 => (if x4 < (x3.length : Int) then (laws_toNodeS.l0 k x0 (x3.set (x4 : Int).toNat (⟨bt105.1, bt105.2.1, bt105.2.2.1, bt105.2.2.2⟩ : S60)) (wrap64 (x4 + 1))) else (none))) else (none)) else (some x3)
def laws_toNodeS.f (k : Nat) (l0 : List (S50)) : Option ((List (S60))) := if 0 ≤ (l0.length : Int) then (if ((l0.length : Int) : Int).toNat ≤ 7036874417766 then (laws_toNodeS.l0 k l0 (List.replicate ((l0.length : Int) : Int).toNat z60) 0) else (none)) else (none)
theorem laws_toNodeS.mono_l : ∀ k, (∀ y0 y1 y2, LeO (laws_toNodeS.l0 k y0 y1 y2) (laws_toNodeS.l0 (k + 1) y0 y1 y2))
 | 0 => fun _ _ _ r h => by simp [laws_toNodeS.l0] at h
 | k + 1 => by
   have ih0 := laws_toNodeS.mono_l k
   · intro y0 y1 y2
     unfold laws_toNodeS.l0
     exact zm1 ih0
theorem laws_toNodeS.mono : ∀ a0 k, LeO (laws_toNodeS.f k a0) (laws_toNodeS.f (k + 1) a0) := by
 intro a0 k
 have ih0 := laws_toNodeS.mono_l k
 unfold laws_toNodeS.f
 exact zm1 ih0
theorem laws_toNodeS.calls (k : Nat) (A0 : Option Addr) (c0 : Nat) (l0 : List (S50)) (r : List (S60)) (w : World) (hr0 : Kd.C k50 w A0 l0.length l0) (hc0 : l0.length ≤ c0) (h : laws_toNodeS.f k l0 = some r) :
   Calls Try.prog 10 #[.slice A0 l0.length c0] w fun e w' => ∃ v0_ : Value, e = .returned (v0_) ∧ Kd.R k60 60 w' w.heap.size (fun _ => True) v0_ r ∧ Below w.heap.size w w' := by
 have hu50 := Try.underlying50
 have hu60 := Try.underlying60
 have HR0 := zA hr0
 have HC0 := zA hc0
 clear hr0 hc0
 have HB := zA (Below.refl w.heap.size w)
 have H : (if 0 ≤ (l0.length : Int) then (if ((l0.length : Int) : Int).toNat ≤ 7036874417766 then (laws_toNodeS.l0 k l0 (List.replicate ((l0.length : Int) : Int).toNat z60) 0) else (none)) else (none)) = some r := h
 clear h
 by_cases c2 : 0 ≤ (l0.length : Int)
 rotate_left
 · rw [if_neg c2] at H
   exact absurd H (by simp)
 rw [if_pos c2] at H
 have c2b0 := eq_true c2
 have c2b1 := zdt c2
 clear c2
 by_cases c3 : ((l0.length : Int) : Int).toNat ≤ 7036874417766
 rotate_left
 · rw [if_neg c3] at H
   exact absurd H (by simp)
 rw [if_pos c3] at H
 have c3b0 := eq_true c3
 have c3b1 := zdt c3
 clear c3
 obtain ⟨y101, hy101⟩ : ∃ y_ : List (S60), y_ = (List.replicate ((l0.length : Int) : Int).toNat z60) := ⟨_, rfl⟩
 replace H : (laws_toNodeS.l0 k l0 y101 0) = some r := by first | (rw [hy101]; with_reducible exact H) | (have H2_ := (Option.bind_some _ _).symm.trans H; rw [hy101]; with_reducible exact H2_) | (have H2_ := (Option.bind_some _ _).symm.trans H; with_reducible exact H2_) | with_reducible exact H | (rw [hy101]; exact H) | exact H
 have Ny101 := zA hy101
 clear hy101
 have H' := zA H
 clear H
 go_enter Try.func10, Try.ntmps10
 go_wp2_with (first | ((with_reducible refine zgd 7 ?_); refine Kd.R_make k60 _ 60 rfl (N := 7) rfl 33 _ _ rfl (l0.length : Int) rfl rfl Try.underlying33 (.agg #[(.string ⟨#[]⟩), (.int .i64 0), (.int .i64 0), (.int .i64 0)]) 40 info60 rfl (by decide) (by omega) z60 (ok := fun _ => True) (okp := fun _ => True) (k60_mkM _ _ _ z60 ) (fun _ hk => hk) trivial (zde zq11) (Nat.le_trans (Nat.mul_le_mul_right _ (zde zq11 : (l0.length : Int).toNat ≤ 7036874417766)) (by omega)) (Below.refl _ _) (zlr _) ?_; intro v102 w4 ho5 hb hg_ hnew_; clear hg_ hnew_; (first | rw [← Ny101.out] at ho5 | (simp only [Int.reduceToNat] at ho5; rw [← Ny101.out] at ho5)); have HO103 := zA (Kd.R_lower ho5 (below_size zq2)); replace HB := zA (below_step zq2 hb); clear hb ho5))
 go_loopg [4] k (fun kq v4 w' => ∃ (x3_1 : List (S60)) (x4_1 : Int), v4 = .int .i64 x4_1 ∧ Aside0 (laws_toNodeS.l0 kq l0 x3_1 x4_1 = some r) ∧ Aside0 (kq ≤ k) ∧ Aside0 (Kd.R k60 60 w' w.heap.size (fun _ => True) v102 x3_1) ∧ Aside0 (Below w.heap.size w w'))
 case atStart => exact ⟨(y101), (0), zq5, H', ⟨zlr _⟩, ⟨zq3 HO103⟩, ⟨zq2⟩⟩
 clear H'
 try clear c2
 try clear c2b0
 try clear c2b1
 try clear c3
 try clear c3b0
 try clear c3b1
 obtain ⟨x3_1, x4_1, rfl, HA, HK1, HO_3, HB⟩ := hrel
 cases gk with
 | zero => exact absurd HA.out (by simp [laws_toNodeS.l0])
 | succ k1 =>
 have H := HA.out
 clear HA
 simp only [laws_toNodeS.l0] at H
 revert H
 refine zit (fun c6 H => ?_) fun c6 H => ?_
 rotate_left
 · obtain rfl := zsi H
   go_wp2
   go_ret
   exact ⟨_, zq4, zq3 HO_3, zq2⟩
 revert H
 refine zin fun c7 H => ?_
 replace H := zob H
 obtain ⟨⟨t105, t106, t107, t108⟩, A80, H⟩ := H
 replace H : (if x4_1 < (x3_1.length : Int) then (laws_toNodeS.l0 k1 l0 (x3_1.set (x4_1 : Int).toNat (⟨t105, t106, t107, t108⟩ : S60)) (wrap64 (x4_1 + 1))) else (none)) = some r := H
 have A8 := zA A80
 clear A80
 revert H
 refine zin fun c9 H => ?_
 obtain ⟨y109, hy109⟩ : ∃ y_ : List (S60), y_ = (x3_1.set (x4_1 : Int).toNat (⟨t105, t106, t107, t108⟩ : S60)) := ⟨_, rfl⟩
 replace H : (laws_toNodeS.l0 k1 l0 y109 (wrap64 (x4_1 + 1))) = some r := by first | (rw [hy109]; with_reducible exact H) | (have H2_ := (Option.bind_some _ _).symm.trans H; rw [hy109]; with_reducible exact H2_) | (have H2_ := (Option.bind_some _ _).symm.trans H; with_reducible exact H2_) | with_reducible exact H | (rw [hy109]; exact H) | exact H
 have Ny109 := zA hy109
 clear hy109
 have H' := zA H
 clear H
 obtain ⟨p104, q104⟩ := zpq x4_1 l0.length
 obtain ⟨ad104, e104, hx104_0, hx104_1, hx104_2, hx104_3⟩ := at_T50 HR0.out x4_1 (zoe p104) (zoe q104)
 cases e104
 replace hx104_0 := zkep HB.out hx104_0
 replace hx104_1 := zkep HB.out hx104_1
 replace hx104_2 := zkep HB.out hx104_2
 replace hx104_3 := zkep HB.out hx104_3
 go_wp2_with (first | ((with_reducible refine zgc 29 ?_); refine zcl 20 Try.func29 (laws_toNode.calls ((rd_T50 l0 x4_1).f0) ((rd_T50 l0 x4_1).f1) ((rd_T50 l0 x4_1).f2) ((rd_T50 l0 x4_1).f3) t105 t106 t107 t108 _ A8.out) ?_; rintro e w11 ⟨rfl, hb⟩; refine ⟨_, rfl, ?_⟩; replace HO_3 := zA (zRb (zq3 HO_3) hb); replace HB := zA (below_step zq2 hb); (try clear hb); have p10 : 0 ≤ (x4_1 : Int) := zde zq11; have q10 : (x4_1 : Int) < ((x3_1.length : Int) : Int) := zde zq11; obtain ⟨go10, co10, eo10, gb10, gl10, cl10, HG10⟩ := Kd.R_form HO_3.out (by omega); (first | cases eo10 | (injection eo10 with ea_ en_ ec_; (first | subst ea_ | (injection ea_ with ea_; subst ea_)); subst ec_; clear en_)); have GB10 := zA gb10; have GG10 := zA HG10; clear gb10 gl10 HG10; obtain ⟨ce10, hcl10, hM10, hcc10, hfr10⟩ := Kd.R_elem HO_3.out z60 (x4_1 : Int) p10 q10; obtain rfl := k60_openM hM10; have hx10_0 : w11.cell? ⟨go10, (x4_1 : Int).toNat * 4, none⟩ = some (.string ((rd_T60 x3_1 x4_1).f0)) := hcc10 0 _ rfl; have hx10_1 : w11.cell? ⟨go10, (x4_1 : Int).toNat * 4 + 1, none⟩ = some (.int .i64 ((rd_T60 x3_1 x4_1).f1)) := hcc10 1 _ rfl; have hx10_2 : w11.cell? ⟨go10, (x4_1 : Int).toNat * 4 + 2, none⟩ = some (.int .i64 ((rd_T60 x3_1 x4_1).f2)) := hcc10 2 _ rfl; have hx10_3 : w11.cell? ⟨go10, (x4_1 : Int).toNat * 4 + 3, none⟩ = some (.int .i64 ((rd_T60 x3_1 x4_1).f3)) := hcc10 3 _ rfl; have hf10_0 : w11.frozen? ⟨go10, (x4_1 : Int).toNat * 4, none⟩ = false := hfr10 0; have hf10_1 : w11.frozen? ⟨go10, (x4_1 : Int).toNat * 4 + 1, none⟩ = false := hfr10 1; have hf10_2 : w11.frozen? ⟨go10, (x4_1 : Int).toNat * 4 + 2, none⟩ = false := hfr10 2; have hf10_3 : w11.frozen? ⟨go10, (x4_1 : Int).toNat * 4 + 3, none⟩ = false := hfr10 3; clear hcl10 hcc10 hfr10 hM10; replace p10 := eq_true p10; replace q10 := eq_true q10; have HX12 := zA (show Kd.R k60 60 w11 w.heap.size (fun _ => True) (.slice (some ⟨go10, 0, none⟩) x3_1.length co10) x3_1 from (zq3 HO_3)); obtain ⟨ce12, hcl12, hM12, hcc12, hfr12⟩ := Kd.R_elem HX12.out z60 (x4_1 : Int) (zde zq11) (by have h_ : (x4_1 : Int) < ((x3_1.length : Int) : Int) := zde zq11; first | exact h_ | (have e_ := (zRr HO_3.out).1; omega) | simpa using h_); obtain rfl := k60_openM hM12; have HP12 := Kd.R_seg HX12.out (x4_1 : Int) (zde zq11) (by have h_ : (x4_1 : Int) < ((x3_1.length : Int) : Int) := zde zq11; first | exact h_ | (have e_ := (zRr HO_3.out).1; omega) | simpa using h_) (seg := [.string t105, .int .i64 t106, .int .i64 t107, .int .i64 t108]) (j := 0) hcl12 hcc12 (show 4 ≤ 4 from by decide) (x' := (⟨t105, t106, t107, t108⟩ : S60)) (k60_mkM _ _ _ (⟨t105, t106, t107, t108⟩ : S60) ) (fun _ hk => hk); have hx12_0 := hcc12 0 _ rfl; (try simp only [show (k60).sz = 4 from rfl, Nat.mul_one, Nat.add_zero] at hx12_0); have hf12_0 := hfr12 0; (try simp only [show (k60).sz = 4 from rfl, Nat.mul_one, Nat.add_zero] at hf12_0); have hx12_1 := hcc12 1 _ rfl; (try simp only [show (k60).sz = 4 from rfl, Nat.mul_one, Nat.add_zero] at hx12_1); have hf12_1 := hfr12 1; (try simp only [show (k60).sz = 4 from rfl, Nat.mul_one, Nat.add_zero] at hf12_1); have hx12_2 := hcc12 2 _ rfl; (try simp only [show (k60).sz = 4 from rfl, Nat.mul_one, Nat.add_zero] at hx12_2); have hf12_2 := hfr12 2; (try simp only [show (k60).sz = 4 from rfl, Nat.mul_one, Nat.add_zero] at hf12_2); have hx12_3 := hcc12 3 _ rfl; (try simp only [show (k60).sz = 4 from rfl, Nat.mul_one, Nat.add_zero] at hx12_3); have hf12_3 := hfr12 3; (try simp only [show (k60).sz = 4 from rfl, Nat.mul_one, Nat.add_zero] at hf12_3); clear hcl12 hcc12 hfr12 hM12) | ((with_reducible refine zgs 60 21 ?_); refine zse ((((w11.setCell ⟨go10, (x4_1 : Int).toNat * 4, none⟩ (.string t105)).setCell ⟨go10, (x4_1 : Int).toNat * 4 + 1, none⟩ (.int .i64 t106)).setCell ⟨go10, (x4_1 : Int).toNat * 4 + 2, none⟩ (.int .i64 t107)).setCell ⟨go10, (x4_1 : Int).toNat * 4 + 3, none⟩ (.int .i64 t108)) ?_; intro w13 hw; have hg : w11.grownBy w13 (some go10) := (by rw [hw]; exact HP12.2); have hp_ : Kd.R k60 60 w13 w.heap.size (fun _ => True) (.slice (some ⟨go10, 0, none⟩) x3_1.length co10) y109 := (by rw [hw, Ny109.out]; exact HP12.1); clear HP12; replace HO_3 := zA (hp_); replace HB := zA ((by rw [hw]; exact below_set (below_set (below_set (below_set (HB.out) GB10.out) GB10.out) GB10.out) GB10.out : Below w.heap.size w w13)); clear hg hw hp_))
 go_roundg k1
 case measure => have := HK1.out; omega
 case rel => exact ⟨(y109), (wrap64 (x4_1 + 1)), zq5, H', ⟨zq36 HK1⟩, ⟨zq3 HO_3⟩, ⟨zq2⟩⟩
end Go.Proofs.Ytnaafcleafbejaa.Q
end
section
namespace Go.Proofs.Ytnaafcleafbejaa.Q
open Go.RowKit Go.Proofs.YtnaafcleafbejaaW.PrintWords Go.Proofs.YtnaafcleafbejaaW.PrintLast Go.Proofs.YtnaafcleafbejaaW.PrintMore
set_option maxHeartbeats 8000000
set_option maxRecDepth 100000
attribute [local go_sem] max2_int min2_int max_two min_two max_three min_three max_four min_four
set_option linter.unusedVariables false
set_option linter.unusedSimpArgs false
mutual
def spec_cdShape.j0 : Nat → ByteArray → Bool → Option (Bool × Bool × Bool × Int × Int)
 | 0, _, _ => none
 | k + 1, x7, x10 => if x10 = true then (some (true, true, false, 0, 0)) else (if x7.toList = ([97, 100, 100] : List UInt8) then (spec_cdShape.j1 k x7 (x7.toList == ([97, 100, 100] : List UInt8))) else (if x7.toList = ([115, 117, 98] : List UInt8) then (spec_cdShape.j1 k x7 (x7.toList == ([115, 117, 98] : List UInt8))) else (if x7.toList = ([97, 110, 100] : List UInt8) then (spec_cdShape.j1 k x7 (x7.toList == ([97, 110, 100] : List UInt8))) else (if x7.toList = ([111, 114] : List UInt8) then (spec_cdShape.j1 k x7 (x7.toList == ([111, 114] : List UInt8))) else (if x7.toList = ([120, 111, 114] : List UInt8) then (spec_cdShape.j1 k x7 (x7.toList == ([120, 111, 114] : List UInt8))) else (if x7.toList = ([115, 104, 108] : List UInt8) then (spec_cdShape.j1 k x7 (x7.toList == ([115, 104, 108] : List UInt8))) else (if x7.toList = ([115, 104, 114] : List UInt8) then (spec_cdShape.j1 k x7 (x7.toList == ([115, 104, 114] : List UInt8))) else (if x7.toList = ([108, 101, 115, 115] : List UInt8) then (spec_cdShape.j1 k x7 (x7.toList == ([108, 101, 115, 115] : List UInt8))) else (if x7.toList = ([101, 113] : List UInt8) then (spec_cdShape.j1 k x7 (x7.toList == ([101, 113] : List UInt8))) else (spec_cdShape.j1 k x7 (x7.toList == ([109, 117, 108] : List UInt8))))))))))))
def spec_cdShape.j1 : Nat → ByteArray → Bool → Option (Bool × Bool × Bool × Int × Int)
 | 0, _, _ => none
 | k + 1, x7, x14 => if x14 = true then (some (true, true, true, 0, 0)) else (if x7.toList = ([97, 100, 100, 105] : List UInt8) then (spec_cdShape.j2 k x7 (x7.toList == ([97, 100, 100, 105] : List UInt8))) else (if x7.toList = ([97, 110, 100, 105] : List UInt8) then (spec_cdShape.j2 k x7 (x7.toList == ([97, 110, 100, 105] : List UInt8))) else (spec_cdShape.j2 k x7 (x7.toList == ([120, 111, 114, 105] : List UInt8)))))
def spec_cdShape.j2 : Nat → ByteArray → Bool → Option (Bool × Bool × Bool × Int × Int)
 | 0, _, _ => none
 | k + 1, x7, x25 => if x25 = true then (some (true, true, false, 0, 63)) else (if x7.toList = ([115, 104, 108, 105] : List UInt8) then (spec_cdShape.j3 k x7 (x7.toList == ([115, 104, 108, 105] : List UInt8))) else (spec_cdShape.j3 k x7 (x7.toList == ([115, 104, 114, 105] : List UInt8))))
def spec_cdShape.j3 : Nat → ByteArray → Bool → Option (Bool × Bool × Bool × Int × Int)
 | 0, _, _ => none
 | k + 1, x7, x29 => if x29 = true then (some (true, true, false, 1, 5)) else (if x7.toList = ([108, 101, 97] : List UInt8) then (some (true, true, true, 1, 3)) else (some (false, false, false, 0, 0)))
end
def spec_cdShape.f (k : Nat) (a0 : ByteArray) : Option (Bool × Bool × Bool × Int × Int) := if a0.toList = ([115, 101, 116] : List UInt8) then (some (true, false, false, 0, 63)) else (if a0.toList = ([109, 111, 118] : List UInt8) then (spec_cdShape.j0 k a0 (a0.toList == ([109, 111, 118] : List UInt8))) else (if a0.toList = ([110, 111, 116] : List UInt8) then (spec_cdShape.j0 k a0 (a0.toList == ([110, 111, 116] : List UInt8))) else (spec_cdShape.j0 k a0 (a0.toList == ([110, 101, 103] : List UInt8)))))
theorem spec_cdShape.mono_l : ∀ k, (∀ y0 y1, LeO (spec_cdShape.j0 k y0 y1) (spec_cdShape.j0 (k + 1) y0 y1)) ∧ (∀ y0 y1, LeO (spec_cdShape.j1 k y0 y1) (spec_cdShape.j1 (k + 1) y0 y1)) ∧ (∀ y0 y1, LeO (spec_cdShape.j2 k y0 y1) (spec_cdShape.j2 (k + 1) y0 y1)) ∧ (∀ y0 y1, LeO (spec_cdShape.j3 k y0 y1) (spec_cdShape.j3 (k + 1) y0 y1))
 | 0 => ⟨fun _ _ r h => by simp [spec_cdShape.j0] at h, fun _ _ r h => by simp [spec_cdShape.j1] at h, fun _ _ r h => by simp [spec_cdShape.j2] at h, fun _ _ r h => by simp [spec_cdShape.j3] at h⟩
 | k + 1 => by
   obtain ⟨ih0, ih1, ih2, ih3⟩ := spec_cdShape.mono_l k
   refine ⟨?_, ?_, ?_, ?_⟩
   · intro y0 y1
     unfold spec_cdShape.j0
     exact zm4 ih0 ih1 ih2 ih3
   · intro y0 y1
     unfold spec_cdShape.j1
     exact zm4 ih0 ih1 ih2 ih3
   · intro y0 y1
     unfold spec_cdShape.j2
     exact zm4 ih0 ih1 ih2 ih3
   · intro y0 y1
     unfold spec_cdShape.j3
     exact zm4 ih0 ih1 ih2 ih3
theorem spec_cdShape.mono : ∀ a0 k, LeO (spec_cdShape.f k a0) (spec_cdShape.f (k + 1) a0) := by
 intro a0 k
 obtain ⟨ih0, ih1, ih2, ih3⟩ := spec_cdShape.mono_l k
 unfold spec_cdShape.f
 exact zm4 ih0 ih1 ih2 ih3
theorem spec_cdShape.calls (k : Nat) (a0 : ByteArray) (r1 : Bool) (r2 : Bool) (r3 : Bool) (r4 : Int) (r5 : Int) (w : World) (h : spec_cdShape.f k a0 = some (r1, r2, r3, r4, r5)) :
   Calls Try.prog 61 #[.string a0] w fun e w' => e = .returned (.tuple #[.bool r1, .bool r2, .bool r3, .int .i64 r4, .int .i64 r5]) ∧ Drawn0 w w' := by
 have H : (if a0.toList = ([115, 101, 116] : List UInt8) then (some (true, false, false, 0, 63)) else (if a0.toList = ([109, 111, 118] : List UInt8) then (spec_cdShape.j0 k a0 (a0.toList == ([109, 111, 118] : List UInt8))) else (if a0.toList = ([110, 111, 116] : List UInt8) then (spec_cdShape.j0 k a0 (a0.toList == ([110, 111, 116] : List UInt8))) else (spec_cdShape.j0 k a0 (a0.toList == ([110, 101, 103] : List UInt8)))))) = some (r1, r2, r3, r4, r5) := h
 clear h
 by_cases c2 : a0.toList = ([115, 101, 116] : List UInt8)
 · rw [if_pos c2] at H
   obtain ⟨c2b0, c2b1⟩ := zbe c2
   clear c2
   simp only [Option.some.injEq, Prod.mk.injEq] at H
   obtain ⟨rfl, rfl, rfl, rfl, rfl⟩ := H
   go_enter Try.func61, Try.ntmps61
   go_wp2
   refine bodyPost_ret (results_list (rs := [.tmp 2, .tmp 3, .tmp 4, .tmp 5, .tmp 6]) rfl (by simp) (.tmp (.tmp (.tmp (.tmp (.tmp .nil)))))) rfl ?_
   exact ⟨zq5, zq9⟩
 rw [if_neg c2] at H
 obtain ⟨c2b0, c2b1⟩ := zbq c2
 have HC3 := zA H
 clear H
 go_enter Try.func61, Try.ntmps61
 go_upto_if 10 with (fail)
 go_cut [10] (fun v10 wc => ∃ (kq : Nat) (x10_2 : Bool), v10 = .bool x10_2 ∧ Aside0 (spec_cdShape.j0 kq a0 x10_2 = some (r1, r2, r3, r4, r5)) ∧ Aside0 (kq ≤ k) ∧ Drawn0 w wc)
 case first =>
   have H := HC3.out
   clear HC3
   by_cases c4 : a0.toList = ([109, 111, 118] : List UInt8)
   · rw [if_pos c4] at H
     obtain ⟨c4b0, c4b1⟩ := zbe c4
     clear c4
     (first | rw [c4b0] | (simp only [i64_w, i32_w]; rw [c4b0]) | skip)
     have H' := zA H
     clear H
     go_wp2
     go_meet
     case rel => exact ⟨_, ((a0.toList == ([109, 111, 118] : List UInt8))), zq5, H', ⟨zq37⟩, zq9⟩
   rw [if_neg c4] at H
   obtain ⟨c4b0, c4b1⟩ := zbq c4
   (first | rw [c4b0] | (simp only [i64_w, i32_w]; rw [c4b0]) | skip)
   by_cases c5 : a0.toList = ([110, 111, 116] : List UInt8)
   rotate_left
   · rw [if_neg c5] at H
     obtain ⟨c5b0, c5b1⟩ := zbq c5
     have H' := zA H
     clear H
     go_wp2
     go_meet
     case rel => exact ⟨_, ((a0.toList == ([110, 101, 103] : List UInt8))), zq5, H', ⟨zq37⟩, zq9⟩
   rw [if_pos c5] at H
   obtain ⟨c5b0, c5b1⟩ := zbe c5
   clear c5
   have H' := zA H
   clear H
   go_wp2
   go_meet
   case rel => exact ⟨_, ((a0.toList == ([110, 111, 116] : List UInt8))), zq5, H', ⟨zq37⟩, zq9⟩
 clear HC3
 try clear c2
 try clear c2b0
 try clear c2b1
 try clear c4
 try clear c4b0
 try clear c4b1
 try clear c5
 try clear c5b0
 try clear c5b1
 obtain ⟨kq, x10_2, rfl, HA, HJ2, ⟨mc2, rfl⟩⟩ := hcut
 cases kq with
 | zero => exact absurd HA.out (by simp [spec_cdShape.j0])
 | succ kj2 =>
 have H := HA.out
 clear HA
 simp only [spec_cdShape.j0] at H
 by_cases c6 : x10_2 = true
 · subst c6
   replace H := zih H
   simp only [Option.some.injEq, Prod.mk.injEq] at H
   obtain ⟨rfl, rfl, rfl, rfl, rfl⟩ := H
   go_wp2
   refine bodyPost_ret (results_list (rs := [.tmp 2, .tmp 3, .tmp 4, .tmp 5, .tmp 6]) rfl (by simp) (.tmp (.tmp (.tmp (.tmp (.tmp .nil)))))) rfl ?_
   exact ⟨zq5, zq9⟩
 replace c6 := zbf c6
 subst c6
 replace H := zif H
 have HC7 := zA H
 clear H
 go_upto_if 14 with (fail)
 go_cut [14] (fun v14 wc => ∃ (kq : Nat) (x14_6 : Bool), v14 = .bool x14_6 ∧ Aside0 (spec_cdShape.j1 kq a0 x14_6 = some (r1, r2, r3, r4, r5)) ∧ Aside0 (kq ≤ kj2) ∧ Drawn0 w wc)
 case first =>
   have H := HC7.out
   clear HC7
   by_cases c8 : a0.toList = ([97, 100, 100] : List UInt8)
   · rw [if_pos c8] at H
     obtain ⟨c8b0, c8b1⟩ := zbe c8
     clear c8
     (first | rw [c8b0] | (simp only [i64_w, i32_w]; rw [c8b0]) | skip)
     have H' := zA H
     clear H
     go_wp2
     go_meet
     case rel => exact ⟨_, ((a0.toList == ([97, 100, 100] : List UInt8))), zq5, H', ⟨zq33 HJ2⟩, zq9⟩
   rw [if_neg c8] at H
   obtain ⟨c8b0, c8b1⟩ := zbq c8
   (first | rw [c8b0] | (simp only [i64_w, i32_w]; rw [c8b0]) | skip)
   by_cases c9 : a0.toList = ([115, 117, 98] : List UInt8)
   · rw [if_pos c9] at H
     obtain ⟨c9b0, c9b1⟩ := zbe c9
     clear c9
     have H' := zA H
     clear H
     go_wp2
     go_meet
     case rel => exact ⟨_, ((a0.toList == ([115, 117, 98] : List UInt8))), zq5, H', ⟨zq33 HJ2⟩, zq9⟩
   rw [if_neg c9] at H
   obtain ⟨c9b0, c9b1⟩ := zbq c9
   by_cases c10 : a0.toList = ([97, 110, 100] : List UInt8)
   · rw [if_pos c10] at H
     obtain ⟨c10b0, c10b1⟩ := zbe c10
     clear c10
     have H' := zA H
     clear H
     go_wp2
     go_meet
     case rel => exact ⟨_, ((a0.toList == ([97, 110, 100] : List UInt8))), zq5, H', ⟨zq33 HJ2⟩, zq9⟩
   rw [if_neg c10] at H
   obtain ⟨c10b0, c10b1⟩ := zbq c10
   by_cases c11 : a0.toList = ([111, 114] : List UInt8)
   · rw [if_pos c11] at H
     obtain ⟨c11b0, c11b1⟩ := zbe c11
     clear c11
     have H' := zA H
     clear H
     go_wp2
     go_meet
     case rel => exact ⟨_, ((a0.toList == ([111, 114] : List UInt8))), zq5, H', ⟨zq33 HJ2⟩, zq9⟩
   rw [if_neg c11] at H
   obtain ⟨c11b0, c11b1⟩ := zbq c11
   by_cases c12 : a0.toList = ([120, 111, 114] : List UInt8)
   · rw [if_pos c12] at H
     obtain ⟨c12b0, c12b1⟩ := zbe c12
     clear c12
     have H' := zA H
     clear H
     go_wp2
     go_meet
     case rel => exact ⟨_, ((a0.toList == ([120, 111, 114] : List UInt8))), zq5, H', ⟨zq33 HJ2⟩, zq9⟩
   rw [if_neg c12] at H
   obtain ⟨c12b0, c12b1⟩ := zbq c12
   by_cases c13 : a0.toList = ([115, 104, 108] : List UInt8)
   · rw [if_pos c13] at H
     obtain ⟨c13b0, c13b1⟩ := zbe c13
     clear c13
     have H' := zA H
     clear H
     go_wp2
     go_meet
     case rel => exact ⟨_, ((a0.toList == ([115, 104, 108] : List UInt8))), zq5, H', ⟨zq33 HJ2⟩, zq9⟩
   rw [if_neg c13] at H
   obtain ⟨c13b0, c13b1⟩ := zbq c13
   by_cases c14 : a0.toList = ([115, 104, 114] : List UInt8)
   · rw [if_pos c14] at H
     obtain ⟨c14b0, c14b1⟩ := zbe c14
     clear c14
     have H' := zA H
     clear H
     go_wp2
     go_meet
     case rel => exact ⟨_, ((a0.toList == ([115, 104, 114] : List UInt8))), zq5, H', ⟨zq33 HJ2⟩, zq9⟩
   rw [if_neg c14] at H
   obtain ⟨c14b0, c14b1⟩ := zbq c14
   by_cases c15 : a0.toList = ([108, 101, 115, 115] : List UInt8)
   · rw [if_pos c15] at H
     obtain ⟨c15b0, c15b1⟩ := zbe c15
     clear c15
     have H' := zA H
     clear H
     go_wp2
     go_meet
     case rel => exact ⟨_, ((a0.toList == ([108, 101, 115, 115] : List UInt8))), zq5, H', ⟨zq33 HJ2⟩, zq9⟩
   rw [if_neg c15] at H
   obtain ⟨c15b0, c15b1⟩ := zbq c15
   by_cases c16 : a0.toList = ([101, 113] : List UInt8)
   rotate_left
   · rw [if_neg c16] at H
     obtain ⟨c16b0, c16b1⟩ := zbq c16
     have H' := zA H
     clear H
     go_wp2
     go_meet
     case rel => exact ⟨_, ((a0.toList == ([109, 117, 108] : List UInt8))), zq5, H', ⟨zq33 HJ2⟩, zq9⟩
   rw [if_pos c16] at H
   obtain ⟨c16b0, c16b1⟩ := zbe c16
   clear c16
   have H' := zA H
   clear H
   go_wp2
   go_meet
   case rel => exact ⟨_, ((a0.toList == ([101, 113] : List UInt8))), zq5, H', ⟨zq33 HJ2⟩, zq9⟩
 clear HC7
 try clear c2
 try clear c2b0
 try clear c2b1
 try clear c4
 try clear c4b0
 try clear c4b1
 try clear c5
 try clear c5b0
 try clear c5b1
 try clear c6
 try clear c8
 try clear c8b0
 try clear c8b1
 try clear c9
 try clear c9b0
 try clear c9b1
 try clear c10
 try clear c10b0
 try clear c10b1
 try clear c11
 try clear c11b0
 try clear c11b1
 try clear c12
 try clear c12b0
 try clear c12b1
 try clear c13
 try clear c13b0
 try clear c13b1
 try clear c14
 try clear c14b0
 try clear c14b1
 try clear c15
 try clear c15b0
 try clear c15b1
 try clear c16
 try clear c16b0
 try clear c16b1
 obtain ⟨kq, x14_6, rfl, HA, HJ6, ⟨mc6, rfl⟩⟩ := hcut
 cases kq with
 | zero => exact absurd HA.out (by simp [spec_cdShape.j1])
 | succ kj6 =>
 have H := HA.out
 clear HA
 simp only [spec_cdShape.j1] at H
 by_cases c17 : x14_6 = true
 · subst c17
   replace H := zih H
   simp only [Option.some.injEq, Prod.mk.injEq] at H
   obtain ⟨rfl, rfl, rfl, rfl, rfl⟩ := H
   go_wp2
   refine bodyPost_ret (results_list (rs := [.tmp 2, .tmp 3, .tmp 4, .tmp 5, .tmp 6]) rfl (by simp) (.tmp (.tmp (.tmp (.tmp (.tmp .nil)))))) rfl ?_
   exact ⟨zq5, zq9⟩
 replace c17 := zbf c17
 subst c17
 replace H := zif H
 have HC18 := zA H
 clear H
 go_upto_if 25 with (fail)
 go_cut [25] (fun v25 wc => ∃ (kq : Nat) (x25_17 : Bool), v25 = .bool x25_17 ∧ Aside0 (spec_cdShape.j2 kq a0 x25_17 = some (r1, r2, r3, r4, r5)) ∧ Aside0 (kq ≤ kj6) ∧ Drawn0 w wc)
 case first =>
   have H := HC18.out
   clear HC18
   by_cases c19 : a0.toList = ([97, 100, 100, 105] : List UInt8)
   · rw [if_pos c19] at H
     obtain ⟨c19b0, c19b1⟩ := zbe c19
     clear c19
     (first | rw [c19b0] | (simp only [i64_w, i32_w]; rw [c19b0]) | skip)
     have H' := zA H
     clear H
     go_wp2
     go_meet
     case rel => exact ⟨_, ((a0.toList == ([97, 100, 100, 105] : List UInt8))), zq5, H', ⟨by have := HJ2.out; have := HJ6.out; first | omega | exact zlr _⟩, zq9⟩
   rw [if_neg c19] at H
   obtain ⟨c19b0, c19b1⟩ := zbq c19
   (first | rw [c19b0] | (simp only [i64_w, i32_w]; rw [c19b0]) | skip)
   by_cases c20 : a0.toList = ([97, 110, 100, 105] : List UInt8)
   rotate_left
   · rw [if_neg c20] at H
     obtain ⟨c20b0, c20b1⟩ := zbq c20
     have H' := zA H
     clear H
     go_wp2
     go_meet
     case rel => exact ⟨_, ((a0.toList == ([120, 111, 114, 105] : List UInt8))), zq5, H', ⟨by have := HJ2.out; have := HJ6.out; first | omega | exact zlr _⟩, zq9⟩
   rw [if_pos c20] at H
   obtain ⟨c20b0, c20b1⟩ := zbe c20
   clear c20
   have H' := zA H
   clear H
   go_wp2
   go_meet
   case rel => exact ⟨_, ((a0.toList == ([97, 110, 100, 105] : List UInt8))), zq5, H', ⟨by have := HJ2.out; have := HJ6.out; first | omega | exact zlr _⟩, zq9⟩
 clear HC18
 try clear c2
 try clear c2b0
 try clear c2b1
 try clear c4
 try clear c4b0
 try clear c4b1
 try clear c5
 try clear c5b0
 try clear c5b1
 try clear c6
 try clear c8
 try clear c8b0
 try clear c8b1
 try clear c9
 try clear c9b0
 try clear c9b1
 try clear c10
 try clear c10b0
 try clear c10b1
 try clear c11
 try clear c11b0
 try clear c11b1
 try clear c12
 try clear c12b0
 try clear c12b1
 try clear c13
 try clear c13b0
 try clear c13b1
 try clear c14
 try clear c14b0
 try clear c14b1
 try clear c15
 try clear c15b0
 try clear c15b1
 try clear c16
 try clear c16b0
 try clear c16b1
 try clear c17
 try clear c19
 try clear c19b0
 try clear c19b1
 try clear c20
 try clear c20b0
 try clear c20b1
 obtain ⟨kq, x25_17, rfl, HA, HJ17, ⟨mc17, rfl⟩⟩ := hcut
 cases kq with
 | zero => exact absurd HA.out (by simp [spec_cdShape.j2])
 | succ kj17 =>
 have H := HA.out
 clear HA
 simp only [spec_cdShape.j2] at H
 by_cases c21 : x25_17 = true
 · subst c21
   replace H := zih H
   simp only [Option.some.injEq, Prod.mk.injEq] at H
   obtain ⟨rfl, rfl, rfl, rfl, rfl⟩ := H
   go_wp2
   refine bodyPost_ret (results_list (rs := [.tmp 2, .tmp 3, .tmp 4, .tmp 5, .tmp 6]) rfl (by simp) (.tmp (.tmp (.tmp (.tmp (.tmp .nil)))))) rfl ?_
   exact ⟨zq5, zq9⟩
 replace c21 := zbf c21
 subst c21
 replace H := zif H
 have HC22 := zA H
 clear H
 go_upto_if 29 with (fail)
 go_cut [29] (fun v29 wc => ∃ (kq : Nat) (x29_21 : Bool), v29 = .bool x29_21 ∧ Aside0 (spec_cdShape.j3 kq a0 x29_21 = some (r1, r2, r3, r4, r5)) ∧ Aside0 (kq ≤ kj17) ∧ Drawn0 w wc)
 case first =>
   have H := HC22.out
   clear HC22
   by_cases c23 : a0.toList = ([115, 104, 108, 105] : List UInt8)
   rotate_left
   · rw [if_neg c23] at H
     obtain ⟨c23b0, c23b1⟩ := zbq c23
     (first | rw [c23b0] | (simp only [i64_w, i32_w]; rw [c23b0]) | skip)
     have H' := zA H
     clear H
     go_wp2
     go_meet
     case rel => exact ⟨_, ((a0.toList == ([115, 104, 114, 105] : List UInt8))), zq5, H', ⟨by have := HJ2.out; have := HJ6.out; have := HJ17.out; first | omega | exact zlr _⟩, zq9⟩
   rw [if_pos c23] at H
   obtain ⟨c23b0, c23b1⟩ := zbe c23
   clear c23
   (first | rw [c23b0] | (simp only [i64_w, i32_w]; rw [c23b0]) | skip)
   have H' := zA H
   clear H
   go_wp2
   go_meet
   case rel => exact ⟨_, ((a0.toList == ([115, 104, 108, 105] : List UInt8))), zq5, H', ⟨by have := HJ2.out; have := HJ6.out; have := HJ17.out; first | omega | exact zlr _⟩, zq9⟩
 clear HC22
 try clear c2
 try clear c2b0
 try clear c2b1
 try clear c4
 try clear c4b0
 try clear c4b1
 try clear c5
 try clear c5b0
 try clear c5b1
 try clear c6
 try clear c8
 try clear c8b0
 try clear c8b1
 try clear c9
 try clear c9b0
 try clear c9b1
 try clear c10
 try clear c10b0
 try clear c10b1
 try clear c11
 try clear c11b0
 try clear c11b1
 try clear c12
 try clear c12b0
 try clear c12b1
 try clear c13
 try clear c13b0
 try clear c13b1
 try clear c14
 try clear c14b0
 try clear c14b1
 try clear c15
 try clear c15b0
 try clear c15b1
 try clear c16
 try clear c16b0
 try clear c16b1
 try clear c17
 try clear c19
 try clear c19b0
 try clear c19b1
 try clear c20
 try clear c20b0
 try clear c20b1
 try clear c21
 try clear c23
 try clear c23b0
 try clear c23b1
 obtain ⟨kq, x29_21, rfl, HA, HJ21, ⟨mc21, rfl⟩⟩ := hcut
 cases kq with
 | zero => exact absurd HA.out (by simp [spec_cdShape.j3])
 | succ kj21 =>
 have H := HA.out
 clear HA
 simp only [spec_cdShape.j3] at H
 by_cases c24 : x29_21 = true
 · subst c24
   replace H := zih H
   simp only [Option.some.injEq, Prod.mk.injEq] at H
   obtain ⟨rfl, rfl, rfl, rfl, rfl⟩ := H
   go_wp2
   refine bodyPost_ret (results_list (rs := [.tmp 2, .tmp 3, .tmp 4, .tmp 5, .tmp 6]) rfl (by simp) (.tmp (.tmp (.tmp (.tmp (.tmp .nil)))))) rfl ?_
   exact ⟨zq5, zq9⟩
 replace c24 := zbf c24
 subst c24
 replace H := zif H
 by_cases c25 : a0.toList = ([108, 101, 97] : List UInt8)
 rotate_left
 · rw [if_neg c25] at H
   obtain ⟨c25b0, c25b1⟩ := zbq c25
   simp only [Option.some.injEq, Prod.mk.injEq] at H
   obtain ⟨rfl, rfl, rfl, rfl, rfl⟩ := H
   go_wp2
   refine bodyPost_ret (results_list (rs := [.tmp 2, .tmp 3, .tmp 4, .tmp 5, .tmp 6]) rfl (by simp) (.tmp (.tmp (.tmp (.tmp (.tmp .nil)))))) rfl ?_
   exact ⟨zq5, zq9⟩
 rw [if_pos c25] at H
 obtain ⟨c25b0, c25b1⟩ := zbe c25
 clear c25
 simp only [Option.some.injEq, Prod.mk.injEq] at H
 obtain ⟨rfl, rfl, rfl, rfl, rfl⟩ := H
 go_wp2
 refine bodyPost_ret (results_list (rs := [.tmp 2, .tmp 3, .tmp 4, .tmp 5, .tmp 6]) rfl (by simp) (.tmp (.tmp (.tmp (.tmp (.tmp .nil)))))) rfl ?_
 exact ⟨zq5, zq9⟩
end Go.Proofs.Ytnaafcleafbejaa.Q
end
section
namespace Go.Proofs.Ytnaafcleafbejaa.Q
open Go.RowKit Go.Proofs.YtnaafcleafbejaaW.PrintWords Go.Proofs.YtnaafcleafbejaaW.PrintLast Go.Proofs.YtnaafcleafbejaaW.PrintMore
set_option maxHeartbeats 8000000
set_option maxRecDepth 100000
attribute [local go_sem] max2_int min2_int max_two min_two max_three min_three max_four min_four
set_option linter.unusedVariables false
set_option linter.unusedSimpArgs false
def spec_l1HasS.l0 : Nat → ByteArray → List ByteArray → Int → Int → Option (Bool)
 | 0, _, _, _, _ => none
 | k + 1, x1, x7, x8, x9 => if x9 < x8 then (if 0 ≤ x9 then (if x9 < (x7.length : Int) then (if (rdOf ByteArray.empty x7 x9).toList = x1.toList then (some true) else (spec_l1HasS.l0 k x1 x7 x8 (wrap64 (x9 + 1)))) else (none)) else (none)) else (some false)
def spec_l1HasS.f (k : Nat) (l0 : List ByteArray) (a1 : ByteArray) : Option (Bool) := spec_l1HasS.l0 k a1 l0 (l0.length : Int) 0
theorem spec_l1HasS.mono_l : ∀ k, (∀ y0 y1 y2 y3, LeO (spec_l1HasS.l0 k y0 y1 y2 y3) (spec_l1HasS.l0 (k + 1) y0 y1 y2 y3))
 | 0 => fun _ _ _ _ r h => by simp [spec_l1HasS.l0] at h
 | k + 1 => by
   have ih0 := spec_l1HasS.mono_l k
   · intro y0 y1 y2 y3
     unfold spec_l1HasS.l0
     exact zm1 ih0
theorem spec_l1HasS.mono : ∀ a0 a1 k, LeO (spec_l1HasS.f k a0 a1) (spec_l1HasS.f (k + 1) a0 a1) := by
 intro a0 a1 k
 have ih0 := spec_l1HasS.mono_l k
 unfold spec_l1HasS.f
 exact zm1 ih0
theorem spec_l1HasS.calls (k : Nat) (A0 : Option Addr) (c0 : Nat) (l0 : List ByteArray) (a1 : ByteArray) (r : Bool) (w : World) (hr0 : Kd.C Kd.string w A0 l0.length l0) (hc0 : l0.length ≤ c0) (h : spec_l1HasS.f k l0 a1 = some r) :
   Calls Try.prog 62 #[.slice A0 l0.length c0, .string a1] w fun e w' => e = .returned (.bool r) ∧ Drawn0 w w' := by
 have HR0 := zA hr0
 have HC0 := zA hc0
 clear hr0 hc0
 have H : (spec_l1HasS.l0 k a1 l0 (l0.length : Int) 0) = some r := h
 clear h
 have H' := zA H
 clear H
 go_enter Try.func62, Try.ntmps62
 go_wp2
 go_loopg [9] k (fun kq v9 w' => ∃ (x9_1 : Int), v9 = .int .i64 x9_1 ∧ Aside0 (spec_l1HasS.l0 kq a1 l0 (l0.length : Int) x9_1 = some r) ∧ Aside0 (kq ≤ k) ∧ Drawn0 w w')
 case atStart => exact ⟨(0), zq5, H', ⟨zlr _⟩, zq9⟩
 clear H'
 obtain ⟨x9_1, rfl, HA, HK1, ⟨m1, rfl⟩⟩ := hrel
 cases gk with
 | zero => exact absurd HA.out (by simp [spec_l1HasS.l0])
 | succ k1 =>
 have H := HA.out
 clear HA
 simp only [spec_l1HasS.l0] at H
 revert H
 refine zit (fun c3 H => ?_) fun c3 H => ?_
 rotate_left
 · obtain rfl := zsi H
   exact zr_1
 revert H
 refine zin fun c4 H => ?_
 revert H
 refine zin fun c5 H => ?_
 by_cases c6 : (rdOf ByteArray.empty l0 x9_1).toList = a1.toList
 · rw [if_pos c6] at H
   obtain ⟨c6b0, c6b1⟩ := zbe c6
   clear c6
   obtain rfl := zsi H
   obtain ⟨p101, q101⟩ := zpq x9_1 l0.length
   obtain ⟨ad101, e101, hx101_0⟩ := Kd.at_string HR0.out x9_1 (zoe p101) (zoe q101)
   cases e101
   exact zr_1
 rw [if_neg c6] at H
 obtain ⟨c6b0, c6b1⟩ := zbq c6
 have H' := zA H
 clear H
 obtain ⟨p101, q101⟩ := zpq x9_1 l0.length
 obtain ⟨ad101, e101, hx101_0⟩ := Kd.at_string HR0.out x9_1 (zoe p101) (zoe q101)
 cases e101
 go_wp2
 go_roundg k1
 case measure => have := HK1.out; omega
 case rel => exact ⟨(wrap64 (x9_1 + 1)), zq5, H', ⟨zq36 HK1⟩, zq9⟩
def spec_cdImm.f (k : Nat) (a0 : ByteArray) : Option (Bool) := (spec_l1HasS.f k (([(⟨#[115, 101, 116]⟩ : ByteArray), (⟨#[97, 100, 100, 105]⟩ : ByteArray), (⟨#[97, 110, 100, 105]⟩ : ByteArray), (⟨#[120, 111, 114, 105]⟩ : ByteArray), (⟨#[115, 104, 108, 105]⟩ : ByteArray), (⟨#[115, 104, 114, 105]⟩ : ByteArray), (⟨#[108, 101, 97]⟩ : ByteArray)] : List ByteArray)) a0).bind fun t104 => (some t104)
theorem spec_cdImm.mono : ∀ a0 k, LeO (spec_cdImm.f k a0) (spec_cdImm.f (k + 1) a0) := by
 intro a0 k
 unfold spec_cdImm.f
 exact zm1 spec_l1HasS.mono
theorem spec_cdImm.calls (k : Nat) (a0 : ByteArray) (r : Bool) (w : World) (h : spec_cdImm.f k a0 = some r) :
   Calls Try.prog 63 #[.string a0] w fun e w' => e = .returned (.bool r) ∧ Below w.heap.size w w' := by
 have HB := zA (Below.refl w.heap.size w)
 have H : ((spec_l1HasS.f k (([(⟨#[115, 101, 116]⟩ : ByteArray), (⟨#[97, 100, 100, 105]⟩ : ByteArray), (⟨#[97, 110, 100, 105]⟩ : ByteArray), (⟨#[120, 111, 114, 105]⟩ : ByteArray), (⟨#[115, 104, 108, 105]⟩ : ByteArray), (⟨#[115, 104, 114, 105]⟩ : ByteArray), (⟨#[108, 101, 97]⟩ : ByteArray)] : List ByteArray)) a0).bind fun t104 => (some t104)) = some r := h
 clear h
 obtain ⟨y101, hy101⟩ : ∃ y_ : List ByteArray, y_ = (([(⟨#[115, 101, 116]⟩ : ByteArray), (⟨#[97, 100, 100, 105]⟩ : ByteArray), (⟨#[97, 110, 100, 105]⟩ : ByteArray), (⟨#[120, 111, 114, 105]⟩ : ByteArray), (⟨#[115, 104, 108, 105]⟩ : ByteArray), (⟨#[115, 104, 114, 105]⟩ : ByteArray), (⟨#[108, 101, 97]⟩ : ByteArray)] : List ByteArray)) := ⟨_, rfl⟩
 replace H : ((spec_l1HasS.f k y101 a0).bind fun t104 => (some t104)) = some r := by first | (rw [hy101]; with_reducible exact H) | (have H2_ := (Option.bind_some _ _).symm.trans H; rw [hy101]; with_reducible exact H2_) | (have H2_ := (Option.bind_some _ _).symm.trans H; with_reducible exact H2_) | with_reducible exact H | (rw [hy101]; exact H) | exact H
 have Ny101 := zA hy101
 clear hy101
 replace H := zob H
 obtain ⟨t104, A20, H⟩ := H
 replace H : (some t104) = some r := H
 have A2 := zA A20
 clear A20
 obtain rfl := zsi H
 go_enter Try.func63, Try.ntmps63
 go_wp2_with (first | ((with_reducible refine zgd 3 ?_); refine Kd.R_lit Kd.string _ 9 ?hg (N := 3) ?hd (xs := ([(⟨#[115, 101, 116]⟩ : ByteArray), (⟨#[97, 100, 100, 105]⟩ : ByteArray), (⟨#[97, 110, 100, 105]⟩ : ByteArray), (⟨#[120, 111, 114, 105]⟩ : ByteArray), (⟨#[115, 104, 108, 105]⟩ : ByteArray), (⟨#[115, 104, 114, 105]⟩ : ByteArray), (⟨#[108, 101, 97]⟩ : ByteArray)] : List ByteArray)) (inner := [.string (⟨#[115, 101, 116]⟩ : ByteArray), .string (⟨#[97, 100, 100, 105]⟩ : ByteArray), .string (⟨#[97, 110, 100, 105]⟩ : ByteArray), .string (⟨#[120, 111, 114, 105]⟩ : ByteArray), .string (⟨#[115, 104, 108, 105]⟩ : ByteArray), .string (⟨#[115, 104, 114, 105]⟩ : ByteArray), .string (⟨#[108, 101, 97]⟩ : ByteArray)]) (ok := fun _ => True) (okp := fun _ => True) ?hr ?hp (fun _ hk => hk) trivial (Below.refl _ _) (zlr _) (by simp) ?_; (case hd => rfl); (case hg => rfl); (case hr => go_simp <;> rfl); (case hp => exact (Reps.one (show Kd.M Kd.string _ _ _ (⟨#[115, 101, 116]⟩ : ByteArray) [.string (⟨#[115, 101, 116]⟩ : ByteArray)] from rfl) (Reps.one (show Kd.M Kd.string _ _ _ (⟨#[97, 100, 100, 105]⟩ : ByteArray) [.string (⟨#[97, 100, 100, 105]⟩ : ByteArray)] from rfl) (Reps.one (show Kd.M Kd.string _ _ _ (⟨#[97, 110, 100, 105]⟩ : ByteArray) [.string (⟨#[97, 110, 100, 105]⟩ : ByteArray)] from rfl) (Reps.one (show Kd.M Kd.string _ _ _ (⟨#[120, 111, 114, 105]⟩ : ByteArray) [.string (⟨#[120, 111, 114, 105]⟩ : ByteArray)] from rfl) (Reps.one (show Kd.M Kd.string _ _ _ (⟨#[115, 104, 108, 105]⟩ : ByteArray) [.string (⟨#[115, 104, 108, 105]⟩ : ByteArray)] from rfl) (Reps.one (show Kd.M Kd.string _ _ _ (⟨#[115, 104, 114, 105]⟩ : ByteArray) [.string (⟨#[115, 104, 114, 105]⟩ : ByteArray)] from rfl) (Reps.one (show Kd.M Kd.string _ _ _ (⟨#[108, 101, 97]⟩ : ByteArray) [.string (⟨#[108, 101, 97]⟩ : ByteArray)] from rfl) (Reps.none _ _))))))))); intro v102 w3 ho4 hb hg_ hnew_; clear hg_ hnew_; (first | rw [← Ny101.out] at ho4 | (simp only [Int.reduceToNat] at ho4; rw [← Ny101.out] at ho4)); have HO103 := zA (Kd.R_lower ho4 (below_size zq2)); replace HB := zA (below_step zq2 hb); clear hb ho4; obtain ⟨Ao5, co5, eo5⟩ := Kd.R_slice HO103.out; subst eo5) | ((with_reducible refine zgc 62 ?_); refine zca 5 Try.func62 #[.slice Ao5 y101.length co5, .string a0] (spec_l1HasS.calls k _ _ y101 a0 t104 _ (zq20 HO103) (zq51 HO103) A2.out) ?_; rintro e w' ⟨rfl, ⟨nd, rfl⟩⟩; refine ⟨_, rfl, ?_⟩))
 exact zr_5
def spec_suImms.f (k : Nat) (l0_0 : List ByteArray) (l0_1 : List Int) (a1 : ByteArray) : Option (List Int) := (spec_cdImm.f k a1).bind fun t102 => (if t102 = true then (some l0_1) else (some (([0] : List Int))))
theorem spec_suImms.mono : ∀ a0 a1 a2 k, LeO (spec_suImms.f k a0 a1 a2) (spec_suImms.f (k + 1) a0 a1 a2) := by
 intro a0 a1 a2 k
 unfold spec_suImms.f
 exact zm1 spec_cdImm.mono
theorem spec_suImms.calls (k : Nat) (A0_0 : Option Addr) (c0_0 : Nat) (l0_0 : List ByteArray) (P0_1_ : Nat → Prop) (A0_1 : Option Addr) (c0_1 : Nat) (l0_1 : List Int) (a1 : ByteArray) (r : List Int) (w : World) (hr0_0 : Kd.C Kd.string w A0_0 l0_0.length l0_0) (hc0_0 : l0_0.length ≤ c0_0) (hs0_1 : Kd.V (Kd.int .i64) 3 w w.heap.size (fun k_ => P0_1_ k_) (.slice A0_1 l0_1.length c0_1) l0_1) (h : spec_suImms.f k l0_0 l0_1 a1 = some r) :
   Calls Try.prog 99 #[.agg #[.slice A0_0 l0_0.length c0_0, .slice A0_1 l0_1.length c0_1], .string a1] w fun e w' => ∃ v0_ : Value, e = .returned (v0_) ∧ Kd.V (Kd.int .i64) 3 w' w.heap.size (fun k_ => (P0_1_ k_ ∨ w.heap.size ≤ k_)) v0_ r ∧ Below w.heap.size w w' := by
 have hu35 := Try.underlying35
 have HR0_0 := zA hr0_0
 have HC0_0 := zA hc0_0
 clear hr0_0 hc0_0
 have HO0_1 := zA (show Kd.V (Kd.int .i64) 3 w w.heap.size (fun k_ => (P0_1_ k_ ∨ w.heap.size ≤ k_)) (.slice A0_1 l0_1.length c0_1) l0_1 from Kd.V_mono hs0_1 (fun k_ hk => .inl hk))
 have HB := zA (Below.refl w.heap.size w)
 have H : ((spec_cdImm.f k a1).bind fun t102 => (if t102 = true then (some l0_1) else (some (([0] : List Int))))) = some r := h
 clear h
 replace H := zob H
 obtain ⟨t102, A30, H⟩ := H
 replace H : (if t102 = true then (some l0_1) else (some (([0] : List Int)))) = some r := H
 have A3 := zA A30
 clear A30
 by_cases c4 : t102 = true
 · subst c4
   replace H := zih H
   obtain rfl := zsi H
   go_enter Try.func99, Try.ntmps99
   go_wp2_with (first | ((with_reducible refine zgd 2 ?_); refine zbx #[.slice A0_0 l0_0.length c0_0, .slice A0_1 l0_1.length c0_1] 35 ?_; intro gb101 hg w5 hbox hb; have zs := zpair zq2 hb; replace HO0_1 := zA (Kd.V_below (Kd.V_elderB (zq13 HO0_1) gb101 (Nat.le_of_eq hg.symm)) hb); replace HB := zA (zs.1); have BK101 := zA (hbox); have GW101 := zA (zge hg zs.2); have GE101 := GW101; clear zs hb hbox hg) | ((with_reducible refine zgc 63 ?_); refine zcl 6 Try.func63 (spec_cdImm.calls k a1 true _ A3.out) ?_; rintro e w6 ⟨rfl, hb⟩; refine ⟨_, rfl, ?_⟩; replace HO0_1 := zA (Kd.V_below (zq13 HO0_1) hb); replace BK101 := zbb BK101 hb; replace HB := zA (below_step (zq1 GE101) hb); (try clear hb); obtain ⟨hcz7_0, hcz7_1⟩ := zc2 w6 (.slice A0_0 l0_0.length c0_0) (.slice A0_1 l0_1.length c0_1) BK101.out; obtain ⟨hfz7_0, hfz7_1⟩ := zf2 BK101.out))
   go_ret
   exact ⟨_, zq4, by (with_reducible repeat (first | apply Kd.V_alloc | apply Kd.V_drewN | apply Kd.V_drew)); exact Kd.V_mono HO0_1.out (fun _ hk => hk.1), zq1 GE101⟩
 replace c4 := zbf c4
 subst c4
 replace H := zif H
 obtain ⟨y103, hy103⟩ : ∃ y_ : List Int, y_ = (([0] : List Int)) := ⟨_, rfl⟩
 replace H : (some y103) = some r := by first | (rw [hy103]; with_reducible exact H) | (have H2_ := (Option.bind_some _ _).symm.trans H; rw [hy103]; with_reducible exact H2_) | (have H2_ := (Option.bind_some _ _).symm.trans H; with_reducible exact H2_) | with_reducible exact H | (rw [hy103]; exact H) | exact H
 have Ny103 := zA hy103
 clear hy103
 obtain rfl := zsi H
 go_enter Try.func99, Try.ntmps99
 go_wp2_with (first | ((with_reducible refine zgd 2 ?_); refine zbx #[.slice A0_0 l0_0.length c0_0, .slice A0_1 l0_1.length c0_1] 35 ?_; intro gb101 hg w8 hbox hb; have zs := zpair zq2 hb; replace HO0_1 := zA (Kd.V_below (Kd.V_elderB (zq13 HO0_1) gb101 (Nat.le_of_eq hg.symm)) hb); replace HB := zA (zs.1); have BK101 := zA (hbox); have GW101 := zA (zge hg zs.2); have GE101 := GW101; clear zs hb hbox hg) | ((with_reducible refine zgc 63 ?_); refine zcl 6 Try.func63 (spec_cdImm.calls k a1 false _ A3.out) ?_; rintro e w9 ⟨rfl, hb⟩; refine ⟨_, rfl, ?_⟩; replace HO0_1 := zA (Kd.V_below (zq13 HO0_1) hb); replace BK101 := zbb BK101 hb; replace HB := zA (below_step (zq1 GE101) hb); (try clear hb)) | ((with_reducible refine zgd 9 ?_); refine Kd.R_lit (Kd.int .i64) _ 3 ?hg (N := 9) ?hd (xs := ([0] : List Int)) (inner := [.int .i64 0]) (ok := fun _ => True) (okp := fun _ => True) ?hr ?hp (fun _ hk => hk) trivial (Below.refl _ _) (zlr _) (by simp) ?_; (case hd => rfl); (case hg => rfl); (case hr => go_simp <;> rfl); (case hp => exact (Reps.one (show Kd.M (Kd.int .i64) _ _ _ 0 [.int .i64 0] from rfl) (Reps.none _ _))); intro v104 w10 ho11 hb hg_ hnew_; clear hg_ hnew_; (first | rw [← Ny103.out] at ho11 | (simp only [Int.reduceToNat] at ho11; rw [← Ny103.out] at ho11)); replace HO0_1 := zA (Kd.V_elder' (zq13 HO0_1) (Kd.R_base ho11) hb); have HO105 := zA (Kd.R_lower (Kd.R_newM (M := fun k_ => (w.heap.size ≤ k_)) ho11 (below_size (zq1 GE101)) (fun k_ h_ => h_)) (below_size (zq1 GE101))); replace BK101 := zbb BK101 hb; replace HB := zA (below_step (zq1 GE101) hb); clear hb ho11))
 go_ret
 exact ⟨_, zq4, Kd.V_mono (Kd.R_V (zq49 HO105)) (fun k_ hk => by first | exact ⟨(.inr (hk.1)), hk.2⟩ | exact (.inr (hk))), zq1 GE101⟩
def spec_suRegs.l0 : Nat → Bool → Int → List Int → Int → Option (List Int)
 | 0, _, _, _, _ => none
 | k + 1, x0, x1, x5, x6 => if x0 = true then (if x6 < (wrap64 (2 + x1)) then (if x5.length < 17592186044416 then (spec_suRegs.l0 k x0 x1 (x5 ++ [x6]) (wrap64 (x6 + 1))) else (none)) else (some x5)) else (some x5)
def spec_suRegs.f (k : Nat) (a0 : Bool) (a1 : Int) : Option (List Int) := spec_suRegs.l0 k a0 a1 (([0] : List Int)) 1
theorem spec_suRegs.mono_l : ∀ k, (∀ y0 y1 y2 y3, LeO (spec_suRegs.l0 k y0 y1 y2 y3) (spec_suRegs.l0 (k + 1) y0 y1 y2 y3))
 | 0 => fun _ _ _ _ r h => by simp [spec_suRegs.l0] at h
 | k + 1 => by
   have ih0 := spec_suRegs.mono_l k
   · intro y0 y1 y2 y3
     unfold spec_suRegs.l0
     exact zm1 ih0
theorem spec_suRegs.mono : ∀ a0 a1 k, LeO (spec_suRegs.f k a0 a1) (spec_suRegs.f (k + 1) a0 a1) := by
 intro a0 a1 k
 have ih0 := spec_suRegs.mono_l k
 unfold spec_suRegs.f
 exact zm1 ih0
theorem spec_suRegs.calls (k : Nat) (a0 : Bool) (a1 : Int) (r : List Int) (w : World) (h : spec_suRegs.f k a0 a1 = some r) :
   Calls Try.prog 98 #[.bool a0, .int .i64 a1] w fun e w' => ∃ v0_ : Value, e = .returned (v0_) ∧ Kd.R (Kd.int .i64) 3 w' w.heap.size (fun _ => True) v0_ r ∧ Below w.heap.size w w' := by
 have HB := zA (Below.refl w.heap.size w)
 have H : (spec_suRegs.l0 k a0 a1 (([0] : List Int)) 1) = some r := h
 clear h
 obtain ⟨y101, hy101⟩ : ∃ y_ : List Int, y_ = (([0] : List Int)) := ⟨_, rfl⟩
 replace H : (spec_suRegs.l0 k a0 a1 y101 1) = some r := by first | (rw [hy101]; with_reducible exact H) | (have H2_ := (Option.bind_some _ _).symm.trans H; rw [hy101]; with_reducible exact H2_) | (have H2_ := (Option.bind_some _ _).symm.trans H; with_reducible exact H2_) | with_reducible exact H | (rw [hy101]; exact H) | exact H
 have Ny101 := zA hy101
 clear hy101
 have H' := zA H
 clear H
 go_enter Try.func98, Try.ntmps98
 go_wp2_with (first | ((with_reducible refine zgd 7 ?_); refine Kd.R_lit (Kd.int .i64) _ 3 ?hg (N := 7) ?hd (xs := ([0] : List Int)) (inner := [.int .i64 0]) (ok := fun _ => True) (okp := fun _ => True) ?hr ?hp (fun _ hk => hk) trivial (Below.refl _ _) (zlr _) (by simp) ?_; (case hd => rfl); (case hg => rfl); (case hr => go_simp <;> rfl); (case hp => exact (Reps.one (show Kd.M (Kd.int .i64) _ _ _ 0 [.int .i64 0] from rfl) (Reps.none _ _))); intro v102 w3 ho4 hb hg_ hnew_; clear hg_ hnew_; (first | rw [← Ny101.out] at ho4 | (simp only [Int.reduceToNat] at ho4; rw [← Ny101.out] at ho4)); have HO103 := zA (Kd.R_lower ho4 (below_size zq2)); replace HB := zA (below_step zq2 hb); clear hb ho4))
 go_loopg [5, 6] k (fun kq v5 v6 w' => ∃ (x5_1 : List Int) (x6_1 : Int), v6 = .int .i64 x6_1 ∧ Aside0 (spec_suRegs.l0 kq a0 a1 x5_1 x6_1 = some r) ∧ Aside0 (kq ≤ k) ∧ Aside0 (Kd.R (Kd.int .i64) 3 w' w.heap.size (fun _ => True) v5 x5_1) ∧ Aside0 (Below w.heap.size w w'))
 case atStart => exact ⟨(y101), (1), zq5, H', ⟨zlr _⟩, ⟨zq3 HO103⟩, ⟨zq2⟩⟩
 clear H'
 obtain ⟨x5_1, x6_1, rfl, HA, HK1, HO_5, HB⟩ := hrel
 cases gk with
 | zero => exact absurd HA.out (by simp [spec_suRegs.l0])
 | succ k1 =>
 have H := HA.out
 clear HA
 simp only [spec_suRegs.l0] at H
 by_cases c5 : a0 = true
 rotate_left
 · replace c5 := zbf c5
   subst c5
   replace H := zif H
   obtain rfl := zsi H
   go_wp2
   go_ret
   exact ⟨_, zq4, zq3 HO_5, zq2⟩
 subst c5
 replace H := zih H
 revert H
 refine zit (fun c6 H => ?_) fun c6 H => ?_
 rotate_left
 · obtain rfl := zsi H
   go_wp2
   go_ret
   exact ⟨_, zq4, zq3 HO_5, zq2⟩
 by_cases c7 : x5_1.length < 17592186044416
 rotate_left
 · rw [if_neg c7] at H
   exact absurd H (by simp)
 rw [if_pos c7] at H
 have LMc7 := zA c7
 clear c7
 obtain ⟨y104, hy104⟩ : ∃ y_ : List Int, y_ = (x5_1 ++ [x6_1]) := ⟨_, rfl⟩
 replace H : (spec_suRegs.l0 k1 true a1 y104 (wrap64 (x6_1 + 1))) = some r := by first | (rw [hy104]; with_reducible exact H) | (have H2_ := (Option.bind_some _ _).symm.trans H; rw [hy104]; with_reducible exact H2_) | (have H2_ := (Option.bind_some _ _).symm.trans H; with_reducible exact H2_) | with_reducible exact H | (rw [hy104]; exact H) | exact H
 have Ny104 := zA hy104
 clear hy104
 have H' := zA H
 clear H
 go_wp2_with (first | ((with_reducible refine gate_builtin (b := .append) (xs := #[.tmp 17, .tmp 19]) rfl ?_); at_builtin; refine Kd.R_append (Kd.int .i64) (w0 := w) w.heap.size rfl (.tmp 17) (.tmp 19) 24 3 (.int .i64 0) 8 rfl Try.underlying24 info3 rfl (by decide) (by omega) u5 x5_1 x6_1 [.int .i64 x6_1] (fun _ => True) (fun _ => False) rfl rfl ?aP (fun _ hk => hk.elim) ?aF ?aO ?aB ?aS ?aL ?_; (case aP => exact rfl); (case aB => exact zq2); (case aF => exact (fun _ _ => trivial)); (case aO => exact (zq3 HO_5)); (case aS => exact (below_size zq2)); (case aL => have := LMc7.out; omega); intro v105 w8 ho hb hg hat; rw [← Ny104.out] at ho; replace HB := zA (hb); have HO106 := zA (ho); clear HO_5; clear ho hb hg hat))
 go_roundg k1
 case measure => have := HK1.out; omega
 case rel => exact ⟨(y104), (wrap64 (x6_1 + 1)), zq5, H', ⟨zq36 HK1⟩, ⟨zq3 HO106⟩, ⟨zq2⟩⟩
end Go.Proofs.Ytnaafcleafbejaa.Q
end
section
namespace Go.Proofs.Ytnaafcleafbejaa.Q
open Go.RowKit Go.Proofs.YtnaafcleafbejaaW.PrintWords Go.Proofs.YtnaafcleafbejaaW.PrintLast Go.Proofs.YtnaafcleafbejaaW.PrintMore
set_option maxHeartbeats 8000000
set_option maxRecDepth 100000
attribute [local go_sem] max2_int min2_int max_two min_two max_three min_three max_four min_four
set_option linter.unusedVariables false
set_option linter.unusedSimpArgs false
mutual
def spec_suSteps.l0 : Nat → Int → List (S64) → List ByteArray → Int → Int → List ByteArray → List Int → Option ((List (S64)))
 | 0, _, _, _, _, _, _, _ => none
 | k + 1, x1, x5, x20, x21, x22, x102000, x102001 => if x22 < x21 then (if 0 ≤ x22 then (if x22 < (x20.length : Int) then ((spec_cdShape.f k (rdOf ByteArray.empty x20 x22)).bind fun bt103 => ((spec_suRegs.f k bt103.2.1 x1).bind fun t108 => (spec_suSteps.l1 k x1 x5 (rdOf ByteArray.empty x20 x22) bt103.2.2.1 x20 x21 x22 t108 (t108.length : Int) 0 x102000 x102001))) else (none)) else (none)) else (some x5)
def spec_suSteps.l1 : Nat → Int → List (S64) → ByteArray → Bool → List ByteArray → Int → Int → List Int → Int → Int → List ByteArray → List Int → Option ((List (S64)))
 | 0, _, _, _, _, _, _, _, _, _, _, _, _ => none
 | k + 1, x1, x5, x7, x10, x20, x21, x22, x36, x37, x38, x102000, x102001 => if x38 < x37 then (if 0 ≤ x38 then (if x38 < (x36.length : Int) then ((spec_suRegs.f k x10 x1).bind fun t112 => (spec_suSteps.l2 k x1 x5 x7 x10 (rd x36 x38) x20 x21 x22 x36 x37 x38 t112 (t112.length : Int) 0 x102000 x102001)) else (none)) else (none)) else (spec_suSteps.l0 k x1 x5 x20 x21 (wrap64 (x22 + 1)) x102000 x102001)
def spec_suSteps.l2 : Nat → Int → List (S64) → ByteArray → Bool → Int → List ByteArray → Int → Int → List Int → Int → Int → List Int → Int → Int → List ByteArray → List Int → Option ((List (S64)))
 | 0, _, _, _, _, _, _, _, _, _, _, _, _, _, _, _, _ => none
 | k + 1, x1, x5, x7, x10, x14, x20, x21, x22, x36, x37, x38, x44, x45, x46, x102000, x102001 => if x46 < x45 then (if 0 ≤ x46 then (if x46 < (x44.length : Int) then ((spec_suImms.f k x102000 x102001 x7).bind fun t116 => (spec_suSteps.l3 k x1 x5 x7 x10 x14 (rd x44 x46) x20 x21 x22 x36 x37 x38 x44 x45 x46 t116 (t116.length : Int) 0 x102000 x102001)) else (none)) else (none)) else (spec_suSteps.l1 k x1 x5 x7 x10 x20 x21 x22 x36 x37 (wrap64 (x38 + 1)) x102000 x102001)
def spec_suSteps.l3 : Nat → Int → List (S64) → ByteArray → Bool → Int → Int → List ByteArray → Int → Int → List Int → Int → Int → List Int → Int → Int → List Int → Int → Int → List ByteArray → List Int → Option ((List (S64)))
 | 0, _, _, _, _, _, _, _, _, _, _, _, _, _, _, _, _, _, _, _, _ => none
 | k + 1, x1, x5, x7, x10, x14, x16, x20, x21, x22, x36, x37, x38, x44, x45, x46, x52, x53, x54, x102000, x102001 => if x54 < x53 then (if 0 ≤ x54 then (if x54 < (x52.length : Int) then (if x5.length < 2932031007402 then (spec_suSteps.l3 k x1 (x5 ++ [(⟨x7, wrap64 (2 + x1), x14, x16, rd x52 x54⟩ : S64)]) x7 x10 x14 x16 x20 x21 x22 x36 x37 x38 x44 x45 x46 x52 x53 (wrap64 (x54 + 1)) x102000 x102001) else (none)) else (none)) else (none)) else (spec_suSteps.l2 k x1 x5 x7 x10 x14 x20 x21 x22 x36 x37 x38 x44 x45 (wrap64 (x46 + 1)) x102000 x102001)
end
def spec_suSteps.f (k : Nat) (l0_0 : List ByteArray) (l0_1 : List Int) (a1 : Int) : Option ((List (S64))) := spec_suSteps.l0 k a1 ([] : List (S64)) l0_0 (l0_0.length : Int) 0 l0_0 l0_1
theorem spec_suSteps.mono_l : ∀ k, (∀ y0 y1 y2 y3 y4 y5 y6, LeO (spec_suSteps.l0 k y0 y1 y2 y3 y4 y5 y6) (spec_suSteps.l0 (k + 1) y0 y1 y2 y3 y4 y5 y6)) ∧ (∀ y0 y1 y2 y3 y4 y5 y6 y7 y8 y9 y10 y11, LeO (spec_suSteps.l1 k y0 y1 y2 y3 y4 y5 y6 y7 y8 y9 y10 y11) (spec_suSteps.l1 (k + 1) y0 y1 y2 y3 y4 y5 y6 y7 y8 y9 y10 y11)) ∧ (∀ y0 y1 y2 y3 y4 y5 y6 y7 y8 y9 y10 y11 y12 y13 y14 y15, LeO (spec_suSteps.l2 k y0 y1 y2 y3 y4 y5 y6 y7 y8 y9 y10 y11 y12 y13 y14 y15) (spec_suSteps.l2 (k + 1) y0 y1 y2 y3 y4 y5 y6 y7 y8 y9 y10 y11 y12 y13 y14 y15)) ∧ (∀ y0 y1 y2 y3 y4 y5 y6 y7 y8 y9 y10 y11 y12 y13 y14 y15 y16 y17 y18 y19, LeO (spec_suSteps.l3 k y0 y1 y2 y3 y4 y5 y6 y7 y8 y9 y10 y11 y12 y13 y14 y15 y16 y17 y18 y19) (spec_suSteps.l3 (k + 1) y0 y1 y2 y3 y4 y5 y6 y7 y8 y9 y10 y11 y12 y13 y14 y15 y16 y17 y18 y19))
 | 0 => ⟨fun _ _ _ _ _ _ _ r h => by simp [spec_suSteps.l0] at h, fun _ _ _ _ _ _ _ _ _ _ _ _ r h => by simp [spec_suSteps.l1] at h, fun _ _ _ _ _ _ _ _ _ _ _ _ _ _ _ _ r h => by simp [spec_suSteps.l2] at h, fun _ _ _ _ _ _ _ _ _ _ _ _ _ _ _ _ _ _ _ _ r h => by simp [spec_suSteps.l3] at h⟩
 | k + 1 => by
   obtain ⟨ih0, ih1, ih2, ih3⟩ := spec_suSteps.mono_l k
   refine ⟨?_, ?_, ?_, ?_⟩
   · intro y0 y1 y2 y3 y4 y5 y6
     unfold spec_suSteps.l0
     exact zm7 ih0 ih1 ih2 ih3 spec_cdShape.mono spec_suImms.mono spec_suRegs.mono
   · intro y0 y1 y2 y3 y4 y5 y6 y7 y8 y9 y10 y11
     unfold spec_suSteps.l1
     exact zm7 ih0 ih1 ih2 ih3 spec_cdShape.mono spec_suImms.mono spec_suRegs.mono
   · intro y0 y1 y2 y3 y4 y5 y6 y7 y8 y9 y10 y11 y12 y13 y14 y15
     unfold spec_suSteps.l2
     exact zm7 ih0 ih1 ih2 ih3 spec_cdShape.mono spec_suImms.mono spec_suRegs.mono
   · intro y0 y1 y2 y3 y4 y5 y6 y7 y8 y9 y10 y11 y12 y13 y14 y15 y16 y17 y18 y19
     unfold spec_suSteps.l3
     exact zm7 ih0 ih1 ih2 ih3 spec_cdShape.mono spec_suImms.mono spec_suRegs.mono
theorem spec_suSteps.mono : ∀ a0 a1 a2 k, LeO (spec_suSteps.f k a0 a1 a2) (spec_suSteps.f (k + 1) a0 a1 a2) := by
 intro a0 a1 a2 k
 obtain ⟨ih0, ih1, ih2, ih3⟩ := spec_suSteps.mono_l k
 unfold spec_suSteps.f
 exact zm7 ih0 ih1 ih2 ih3 spec_cdShape.mono spec_suImms.mono spec_suRegs.mono
theorem spec_suSteps.calls (k : Nat) (A0_0 : Option Addr) (c0_0 : Nat) (l0_0 : List ByteArray) (A0_1 : Option Addr) (c0_1 : Nat) (l0_1 : List Int) (a1 : Int) (r : List (S64)) (w : World) (hr0_0 : Kd.C Kd.string w A0_0 l0_0.length l0_0) (hc0_0 : l0_0.length ≤ c0_0) (hr0_1 : Kd.C (Kd.int .i64) w A0_1 l0_1.length l0_1) (hc0_1 : l0_1.length ≤ c0_1) (h : spec_suSteps.f k l0_0 l0_1 a1 = some r) :
   Calls Try.prog 65 #[.agg #[.slice A0_0 l0_0.length c0_0, .slice A0_1 l0_1.length c0_1], .int .i64 a1] w fun e w' => ∃ v0_ : Value, e = .returned (v0_) ∧ Kd.R k64 64 w' w.heap.size (fun _ => True) v0_ r ∧ Below w.heap.size w w' := by
 have hu35 := Try.underlying35
 have hu64 := Try.underlying64
 have HR0_0 := zA hr0_0
 have HC0_0 := zA hc0_0
 clear hr0_0 hc0_0
 have HR0_1 := zA hr0_1
 have HC0_1 := zA hc0_1
 clear hr0_1 hc0_1
 have HB := zA (Below.refl w.heap.size w)
 have H : (spec_suSteps.l0 k a1 ([] : List (S64)) l0_0 (l0_0.length : Int) 0 l0_0 l0_1) = some r := h
 clear h
 have H' := zA H
 clear H
 go_enter Try.func65, Try.ntmps65
 go_wp2_with (first | ((with_reducible refine zgd 2 ?_); refine zbh zq2 #[.slice A0_0 l0_0.length c0_0, .slice A0_1 l0_1.length c0_1] 35 ?_; clear HB; intro gb101 w3 HB BK101 GW101; have GE101 := GW101; obtain ⟨hcz4_0, hcz4_1, hfz4_0, hfz4_1⟩ := zd2 BK101))
 go_loopg [5, 22] k (fun kq v5 v22 w' => ∃ (x5_1 : List (S64)) (x22_1 : Int), v22 = .int .i64 x22_1 ∧ Aside0 (spec_suSteps.l0 kq a1 x5_1 l0_0 (l0_0.length : Int) x22_1 l0_0 l0_1 = some r) ∧ Aside0 (kq ≤ k) ∧ Aside0 (Kd.R k64 64 w' w.heap.size (fun _ => True) v5 x5_1) ∧ Aside0 (w'.heap[gb101]? = some (.cells #[(.slice A0_0 l0_0.length c0_0), (.slice A0_1 l0_1.length c0_1)] 35 (0, 0))) ∧ Aside0 (Below w.heap.size w w'))
 case atStart => exact ⟨(([] : List (S64))), (0), zq5, H', ⟨zlr _⟩, ⟨zq41⟩, ⟨zq6 BK101⟩, ⟨zq1 GE101⟩⟩
 clear H'
 try clear hcz4_0
 try clear hcz4_1
 try clear hfz4_0
 try clear hfz4_1
 obtain ⟨x5_1, x22_1, rfl, HA, HK1, HO_5, BK101, HB⟩ := hrel
 cases gk with
 | zero => exact absurd HA.out (by simp [spec_suSteps.l0])
 | succ k1 =>
 have H := HA.out
 clear HA
 simp only [spec_suSteps.l0] at H
 revert H
 refine zit (fun c5 H => ?_) fun c5 H => ?_
 rotate_left
 · obtain rfl := zsi H
   go_wp2
   go_ret
   exact ⟨_, zq4, zq3 HO_5, zq1 GE101⟩
 revert H
 refine zin fun c6 H => ?_
 revert H
 refine zin fun c7 H => ?_
 replace H := zob H
 obtain ⟨⟨t103, t104, t105, t106, t107⟩, A80, H⟩ := H
 replace H : ((spec_suRegs.f k1 t104 a1).bind fun t108 => (spec_suSteps.l1 k1 a1 x5_1 (rdOf ByteArray.empty l0_0 x22_1) t105 l0_0 (l0_0.length : Int) x22_1 t108 (t108.length : Int) 0 l0_0 l0_1)) = some r := H
 have A8 := zA A80
 clear A80
 replace H := zob H
 obtain ⟨t108, A90, H⟩ := H
 replace H : (spec_suSteps.l1 k1 a1 x5_1 (rdOf ByteArray.empty l0_0 x22_1) t105 l0_0 (l0_0.length : Int) x22_1 t108 (t108.length : Int) 0 l0_0 l0_1) = some r := H
 have A9 := zA A90
 clear A90
 have H' := zA H
 clear H
 obtain ⟨p102, q102⟩ := zpq x22_1 l0_0.length
 obtain ⟨ad102, e102, hx102_0⟩ := Kd.at_string HR0_0.out x22_1 (zoe p102) (zoe q102)
 cases e102
 replace hx102_0 := zkep HB.out hx102_0
 go_wp2_with (first | ((with_reducible refine zgc 61 ?_); refine zcl 28 Try.func61 (spec_cdShape.calls k1 (rdOf ByteArray.empty l0_0 x22_1) t103 t104 t105 t106 t107 _ A8.out) ?_; rintro e w' ⟨rfl, ⟨nd, rfl⟩⟩; refine ⟨_, rfl, ?_⟩) | ((with_reducible refine zgc 98 ?_); refine zcl 36 Try.func98 (spec_suRegs.calls k1 t104 a1 t108 _ A9.out) ?_; rintro e w10 ⟨v109, rfl, ho0, hb⟩; refine ⟨_, rfl, ?_⟩; replace HO_5 := zA (zRb (zq3 HO_5) hb); have HO110 := zA (Kd.R_lower ho0 (below_size (zq1 GE101))); replace BK101 := zbb BK101 hb; replace HB := zA (below_step (zq1 GE101) hb); (try clear hb); (try clear ho0); obtain ⟨Ao11, co11, eo11⟩ := Kd.R_slice HO110.out; subst eo11))
 go_loopg [5, 38] k1 (fun kq v5 v38 w' => ∃ (x5_2 : List (S64)) (x38_2 : Int), v38 = .int .i64 x38_2 ∧ Aside0 (spec_suSteps.l1 kq a1 x5_2 (rdOf ByteArray.empty l0_0 x22_1) t105 l0_0 (l0_0.length : Int) x22_1 t108 (t108.length : Int) x38_2 l0_0 l0_1 = some r) ∧ Aside0 (kq ≤ k1) ∧ Aside0 (Kd.R k64 64 w' w.heap.size (fun _ => True) v5 x5_2) ∧ Aside0 (Kd.R (Kd.int .i64) 3 w' w.heap.size (fun _ => True) (.slice Ao11 t108.length co11) t108) ∧ Aside0 (w'.heap[gb101]? = some (.cells #[(.slice (some ad102) l0_0.length c0_0), (.slice A0_1 l0_1.length c0_1)] 35 (0, 0))) ∧ Aside0 (Below w.heap.size w w'))
 case atStart => exact ⟨(x5_1), (0), zq5, H', ⟨zlr _⟩, ⟨zq3 HO_5⟩, ⟨zq3 HO110⟩, ⟨zq6 BK101⟩, ⟨zq1 GE101⟩⟩
 clear H'
 try clear c5
 try clear c6
 try clear c7
 try clear hcz4_0
 try clear hcz4_1
 try clear hfz4_0
 try clear hfz4_1
 try clear hx102_0
 try clear p102
 try clear q102
 obtain ⟨x5_2, x38_2, rfl, HA, HK2, HO_5, HO_36, BK101, HB⟩ := hrel
 cases gk with
 | zero => exact absurd HA.out (by simp [spec_suSteps.l1])
 | succ k2 =>
 have H := HA.out
 clear HA
 simp only [spec_suSteps.l1] at H
 revert H
 refine zit (fun c12 H => ?_) fun c12 H => ?_
 rotate_left
 · have H' := zA H
   clear H
   go_wp2
   go_roundg k2
   case measure => have := HK1.out; have := HK2.out; omega
   case rel => exact ⟨(x5_2), (wrap64 (x22_1 + 1)), zq5, H', ⟨zq38 HK1 HK2⟩, ⟨zq3 HO_5⟩, ⟨zq6 BK101⟩, ⟨zq1 GE101⟩⟩
 revert H
 refine zin fun c13 H => ?_
 revert H
 refine zin fun c14 H => ?_
 replace H := zob H
 obtain ⟨t112, A150, H⟩ := H
 replace H : (spec_suSteps.l2 k2 a1 x5_2 (rdOf ByteArray.empty l0_0 x22_1) t105 (rd t108 x38_2) l0_0 (l0_0.length : Int) x22_1 t108 (t108.length : Int) x38_2 t112 (t112.length : Int) 0 l0_0 l0_1) = some r := H
 have A15 := zA A150
 clear A150
 have H' := zA H
 clear H
 obtain ⟨p111, q111⟩ := zpq x38_2 t108.length
 obtain ⟨ad111, e111, hx111_0⟩ := Kd.at_int (zRr HO_36.out).2.2 x38_2 (zoe p111) (zoe q111)
 cases e111
 go_wp2_with (first | ((with_reducible refine zgc 98 ?_); refine zcl 44 Try.func98 (spec_suRegs.calls k2 t105 a1 t112 _ A15.out) ?_; rintro e w16 ⟨v113, rfl, ho0, hb⟩; refine ⟨_, rfl, ?_⟩; replace HO_5 := zA (zRb (zq3 HO_5) hb); have HO114 := zA (Kd.R_lower (Kd.R_new' ho0 (Kd.R_lt (zq3 HO_36))) (below_size (zq1 GE101))); replace HO_36 := zA (Kd.R_elder' (zq3 HO_36) (Kd.R_base ho0) hb); replace BK101 := zbb BK101 hb; replace HB := zA (below_step (zq1 GE101) hb); (try clear hb); (try clear ho0); obtain ⟨Ao17, co17, eo17⟩ := Kd.R_slice HO114.out; subst eo17))
 go_loopg [5, 46] k2 (fun kq v5 v46 w' => ∃ (x5_3 : List (S64)) (x46_3 : Int), v46 = .int .i64 x46_3 ∧ Aside0 (spec_suSteps.l2 kq a1 x5_3 (rdOf ByteArray.empty l0_0 x22_1) t105 (rd t108 x38_2) l0_0 (l0_0.length : Int) x22_1 t108 (t108.length : Int) x38_2 t112 (t112.length : Int) x46_3 l0_0 l0_1 = some r) ∧ Aside0 (kq ≤ k2) ∧ Aside0 (Kd.R k64 64 w' w.heap.size (fun _ => True) v5 x5_3) ∧ Aside0 (Kd.R (Kd.int .i64) 3 w' w.heap.size (fun k_ => some k_ ≠ ((.slice Ao17 t112.length co17) : Value).ownBlock) (.slice (some ad111) t108.length co11) t108) ∧ Aside0 (Kd.R (Kd.int .i64) 3 w' w.heap.size (fun k_ => some k_ ≠ ((.slice (some ad111) t108.length co11) : Value).ownBlock) (.slice Ao17 t112.length co17) t112) ∧ Aside0 (w'.heap[gb101]? = some (.cells #[(.slice (some ad102) l0_0.length c0_0), (.slice A0_1 l0_1.length c0_1)] 35 (0, 0))) ∧ Aside0 (Below w.heap.size w w'))
 case atStart => exact ⟨(x5_2), (0), zq5, H', ⟨zlr _⟩, ⟨zq3 HO_5⟩, ⟨zq29 HO_36⟩, ⟨zq29 HO114⟩, ⟨zq6 BK101⟩, ⟨zq1 GE101⟩⟩
 clear H'
 try clear c5
 try clear c6
 try clear c7
 try clear c12
 try clear c13
 try clear c14
 try clear hcz4_0
 try clear hcz4_1
 try clear hfz4_0
 try clear hfz4_1
 try clear hx102_0
 try clear hx111_0
 try clear p102
 try clear p111
 try clear q102
 try clear q111
 obtain ⟨x5_3, x46_3, rfl, HA, HK3, HO_5, HO_36, HO_44, BK101, HB⟩ := hrel
 cases gk with
 | zero => exact absurd HA.out (by simp [spec_suSteps.l2])
 | succ k3 =>
 have H := HA.out
 clear HA
 simp only [spec_suSteps.l2] at H
 revert H
 refine zit (fun c18 H => ?_) fun c18 H => ?_
 rotate_left
 · have H' := zA H
   clear H
   go_wp2
   go_roundg k3
   case measure => have := HK1.out; have := HK2.out; have := HK3.out; omega
   case rel => exact ⟨(x5_3), (wrap64 (x38_2 + 1)), zq5, H', ⟨by have := HK1.out; have := HK2.out; have := HK3.out; omega⟩, ⟨zq3 HO_5⟩, ⟨zq22 HO_36⟩, ⟨zq6 BK101⟩, ⟨zq1 GE101⟩⟩
 revert H
 refine zin fun c19 H => ?_
 revert H
 refine zin fun c20 H => ?_
 replace H := zob H
 obtain ⟨t116, A210, H⟩ := H
 replace H : (spec_suSteps.l3 k3 a1 x5_3 (rdOf ByteArray.empty l0_0 x22_1) t105 (rd t108 x38_2) (rd t112 x46_3) l0_0 (l0_0.length : Int) x22_1 t108 (t108.length : Int) x38_2 t112 (t112.length : Int) x46_3 t116 (t116.length : Int) 0 l0_0 l0_1) = some r := H
 have A21 := zA A210
 clear A210
 have H' := zA H
 clear H
 obtain ⟨p115, q115⟩ := zpq x46_3 t112.length
 obtain ⟨ad115, e115, hx115_0⟩ := Kd.at_int (zRr HO_44.out).2.2 x46_3 (zoe p115) (zoe q115)
 cases e115
 obtain ⟨hcz22_0, hcz22_1⟩ := zc2 wr (.slice (some ad102) l0_0.length c0_0) (.slice A0_1 l0_1.length c0_1) BK101.out
 obtain ⟨hfz22_0, hfz22_1⟩ := zf2 BK101.out
 go_wp2_with (first | ((with_reducible refine zgc 99 ?_); refine zca 52 Try.func99 #[.agg #[.slice (some ad102) l0_0.length c0_0, .slice A0_1 l0_1.length c0_1], .string (rdOf ByteArray.empty l0_0 x22_1)] (spec_suImms.calls k3 _ _ l0_0 (fun k_ => k_ < w.heap.size) _ _ l0_1 (rdOf ByteArray.empty l0_0 x22_1) t116 _ (zq8 HR0_0) HC0_0.out (by exact Kd.V_mk HC0_1.out (Kd.F_below (Kd.C_F (Kd.heap_int .i64) HR0_1.out) (zq1 GE101))) A21.out) ?_; rintro e w23 ⟨v117, rfl, ho0, hb⟩; refine ⟨_, rfl, ?_⟩; have HO118 := zA (Kd.V_lower (Kd.V_mono (ok' := fun k_ => some k_ ≠ (u5 : Value).ownBlock ∧ some k_ ≠ (.slice (some ad111) t108.length co11 : Value).ownBlock ∧ some k_ ≠ (.slice (some ad115) t112.length co17 : Value).ownBlock ∧ k_ ≠ gb101) ho0 (fun k_ hk_ => ⟨Or.elim hk_ (fun hs_ => fun e_ => Nat.not_le.2 hs_ (Kd.R_base HO_5.out k_ e_.symm)) (fun hn_ => (Kd.fresh' (Kd.R_lt (zq3 HO_5)) k_ hn_)), Or.elim hk_ (fun hs_ => fun e_ => Nat.not_le.2 hs_ (Kd.R_base HO_36.out k_ e_.symm)) (fun hn_ => (Kd.fresh' (Kd.R_lt (zq3 HO_36)) k_ hn_)), Or.elim hk_ (fun hs_ => fun e_ => Nat.not_le.2 hs_ (Kd.R_base HO_44.out k_ e_.symm)) (fun hn_ => (Kd.fresh' (Kd.R_lt (zq3 HO_44)) k_ hn_)), Or.elim hk_ (fun hs_ => fun e_ => Nat.not_le.2 hs_ (by rw [e_]; exact GW101.out)) (fun hn_ => (Kd.freshB (g := gb101) (o := .cells #[.slice (some ad102) l0_0.length c0_0, .slice A0_1 l0_1.length c0_1] 35 (0, 0)) (zq6 BK101) k_ hn_))⟩)) (below_size (zq1 GE101))); replace HO_5 := zA (zRb (zq3 HO_5) hb); replace HO_36 := zA (zRb (zq3 HO_36) hb); replace HO_44 := zA (zRb (zq3 HO_44) hb); replace BK101 := zbb BK101 hb; replace HB := zA (below_step (zq1 GE101) hb); (try clear hb); (try clear ho0); obtain ⟨Ao24, co24, eo24⟩ := Kd.V_slice HO118.out; subst eo24))
 go_loopg [5, 54] k3 (fun kq v5 v54 w' => ∃ (x5_4 : List (S64)) (x54_4 : Int), v54 = .int .i64 x54_4 ∧ Aside0 (spec_suSteps.l3 kq a1 x5_4 (rdOf ByteArray.empty l0_0 x22_1) t105 (rd t108 x38_2) (rd t112 x46_3) l0_0 (l0_0.length : Int) x22_1 t108 (t108.length : Int) x38_2 t112 (t112.length : Int) x46_3 t116 (t116.length : Int) x54_4 l0_0 l0_1 = some r) ∧ Aside0 (kq ≤ k3) ∧ Aside0 (Kd.R k64 64 w' w.heap.size (fun _ => True) v5 x5_4) ∧ Aside0 (Kd.R (Kd.int .i64) 3 w' w.heap.size (fun k_ => some k_ ≠ ((.slice (some ad115) t112.length co17) : Value).ownBlock) (.slice (some ad111) t108.length co11) t108) ∧ Aside0 (Kd.R (Kd.int .i64) 3 w' w.heap.size (fun k_ => some k_ ≠ ((.slice (some ad111) t108.length co11) : Value).ownBlock) (.slice (some ad115) t112.length co17) t112) ∧ Aside0 (Kd.V (Kd.int .i64) 3 w' w.heap.size (fun k_ => some k_ ≠ (v5 : Value).ownBlock ∧ some k_ ≠ ((.slice (some ad111) t108.length co11) : Value).ownBlock ∧ some k_ ≠ ((.slice (some ad115) t112.length co17) : Value).ownBlock ∧ k_ ≠ gb101) (.slice Ao24 t116.length co24) t116) ∧ Aside0 (w'.heap[gb101]? = some (.cells #[(.slice (some ad102) l0_0.length c0_0), (.slice A0_1 l0_1.length c0_1)] 35 (0, 0))) ∧ Aside0 (Below w.heap.size w w'))
 case atStart => exact ⟨(x5_3), (0), zq5, H', ⟨zlr _⟩, ⟨zq3 HO_5⟩, ⟨zq3 HO_36⟩, ⟨zq3 HO_44⟩, ⟨zq13 HO118⟩, ⟨zq6 BK101⟩, ⟨zq1 GE101⟩⟩
 clear H'
 try clear c5
 try clear c6
 try clear c7
 try clear c12
 try clear c13
 try clear c14
 try clear c18
 try clear c19
 try clear c20
 try clear hcz22_0
 try clear hcz22_1
 try clear hcz4_0
 try clear hcz4_1
 try clear hfz22_0
 try clear hfz22_1
 try clear hfz4_0
 try clear hfz4_1
 try clear hx102_0
 try clear hx111_0
 try clear hx115_0
 try clear p102
 try clear p111
 try clear p115
 try clear q102
 try clear q111
 try clear q115
 obtain ⟨x5_4, x54_4, rfl, HA, HK4, HO_5, HO_36, HO_44, HO_52, BK101, HB⟩ := hrel
 cases gk with
 | zero => exact absurd HA.out (by simp [spec_suSteps.l3])
 | succ k4 =>
 have H := HA.out
 clear HA
 simp only [spec_suSteps.l3] at H
 revert H
 refine zit (fun c25 H => ?_) fun c25 H => ?_
 rotate_left
 · have H' := zA H
   clear H
   go_wp2
   go_roundg k4
   case measure => have := HK1.out; have := HK2.out; have := HK3.out; have := HK4.out; omega
   case rel => exact ⟨(x5_4), (wrap64 (x46_3 + 1)), zq5, H', ⟨by have := HK1.out; have := HK2.out; have := HK3.out; have := HK4.out; omega⟩, ⟨zq3 HO_5⟩, ⟨zq3 HO_36⟩, ⟨zq3 HO_44⟩, ⟨zq6 BK101⟩, ⟨zq1 GE101⟩⟩
 revert H
 refine zin fun c26 H => ?_
 revert H
 refine zin fun c27 H => ?_
 by_cases c28 : x5_4.length < 2932031007402
 rotate_left
 · rw [if_neg c28] at H
   exact absurd H (by simp)
 rw [if_pos c28] at H
 have LMc28 := zA c28
 clear c28
 obtain ⟨y120, hy120⟩ : ∃ y_ : List (S64), y_ = (x5_4 ++ [(⟨(rdOf ByteArray.empty l0_0 x22_1), wrap64 (2 + a1), (rd t108 x38_2), (rd t112 x46_3), rd t116 x54_4⟩ : S64)]) := ⟨_, rfl⟩
 replace H : (spec_suSteps.l3 k4 a1 y120 (rdOf ByteArray.empty l0_0 x22_1) t105 (rd t108 x38_2) (rd t112 x46_3) l0_0 (l0_0.length : Int) x22_1 t108 (t108.length : Int) x38_2 t112 (t112.length : Int) x46_3 t116 (t116.length : Int) (wrap64 (x54_4 + 1)) l0_0 l0_1) = some r := by first | (rw [hy120]; with_reducible exact H) | (have H2_ := (Option.bind_some _ _).symm.trans H; rw [hy120]; with_reducible exact H2_) | (have H2_ := (Option.bind_some _ _).symm.trans H; with_reducible exact H2_) | with_reducible exact H | (rw [hy120]; exact H) | exact H
 have Ny120 := zA hy120
 clear hy120
 have H' := zA H
 clear H
 obtain ⟨p119, q119⟩ := zpq x54_4 t116.length
 obtain ⟨ad119, e119, hx119_0⟩ := Kd.at_int (Kd.V_reads' HO_52.out).2.2 x54_4 (zoe p119) (zoe q119)
 cases e119
 go_wp2_with (first | ((with_reducible refine gate_builtin (b := .append) (xs := #[.tmp 58, .tmp 66]) rfl ?_); at_builtin; refine Kd.R_append k64 (w0 := w) w.heap.size rfl (.tmp 58) (.tmp 66) 37 64 (.agg #[(.string ⟨#[]⟩), (.int .i64 0), (.int .i64 0), (.int .i64 0), (.int .i64 0)]) 48 rfl Try.underlying37 info64 rfl (by decide) (by omega) u5 x5_4 (⟨(rdOf ByteArray.empty l0_0 x22_1), wrap64 (2 + a1), (rd t108 x38_2), (rd t112 x46_3), rd t116 x54_4⟩ : S64) [.string (rdOf ByteArray.empty l0_0 x22_1), .int .i64 (wrap64 (2 + a1)), .int .i64 (rd t108 x38_2), .int .i64 (rd t112 x46_3), .int .i64 (rd t116 x54_4)] (fun _ => True) (fun _ => False) rfl rfl ?aP (fun _ hk => hk.elim) ?aF ?aO ?aB ?aS ?aL ?_; (case aP => exact k64_mkM _ _ _ (⟨(rdOf ByteArray.empty l0_0 x22_1), wrap64 (2 + a1), (rd t108 x38_2), (rd t112 x46_3), rd t116 x54_4⟩ : S64)); (case aB => exact (zq1 GE101)); (case aF => exact (fun _ _ => trivial)); (case aO => exact (zq3 HO_5)); (case aS => exact (below_size (zq1 GE101))); (case aL => have := LMc28.out; omega); intro v121 w29 ho hb hg hat; rw [← Ny120.out] at ho; replace HO_36 := zA (Kd.R_over' (zq3 HO_36) (Kd.R_typed (zq3 HO_5)) (by decide) hg); replace HO_44 := zA (Kd.R_over' (zq3 HO_44) (Kd.R_typed (zq3 HO_5)) (by decide) hg); replace HO_52 := zA (Kd.V_afterv (ok := (fun k_ => some k_ ≠ (.slice (some ad111) t108.length co11 : Value).ownBlock ∧ some k_ ≠ (.slice (some ad115) t112.length co17 : Value).ownBlock ∧ k_ ≠ gb101)) (by (with_reducible repeat (first | apply Kd.V_alloc | apply Kd.V_drewN | apply Kd.V_drew)); exact Kd.V_mono HO_52.out (fun _ hk => ⟨⟨hk.2.1, ⟨hk.2.2.1, hk.2.2.2⟩⟩, hk.1⟩)) hg hat); replace BK101 := zA (blk_grown (g := gb101) (o := .cells #[.slice (some ad102) l0_0.length c0_0, .slice A0_1 l0_1.length c0_1] 35 (0, 0)) (zq6 BK101) hg (Kd.R_ne HO_5.out BK101.out (by decide))); replace HB := zA (hb); have HO122 := zA (ho); clear HO_5; clear ho hb hg hat))
 go_roundg k4
 case measure => have := HK1.out; have := HK2.out; have := HK3.out; have := HK4.out; omega
 case rel => exact ⟨(y120), (wrap64 (x54_4 + 1)), zq5, H', ⟨by have := HK1.out; have := HK2.out; have := HK3.out; have := HK4.out; omega⟩, ⟨zq3 HO122⟩, ⟨zq3 HO_36⟩, ⟨zq3 HO_44⟩, ⟨by (with_reducible repeat (first | apply Kd.V_alloc | apply Kd.V_drewN | apply Kd.V_drew)); exact Kd.V_mono HO_52.out (fun _ hk => ⟨hk.2, ⟨hk.1.1, ⟨hk.1.2.1, hk.1.2.2⟩⟩⟩)⟩, ⟨zq6 BK101⟩, ⟨zq1 GE101⟩⟩
end Go.Proofs.Ytnaafcleafbejaa.Q
end
section
namespace Go.Proofs.Ytnaafcleafbejaa.Q
open Go.RowKit Go.Proofs.YtnaafcleafbejaaW.PrintWords Go.Proofs.YtnaafcleafbejaaW.PrintLast Go.Proofs.YtnaafcleafbejaaW.PrintMore
set_option maxHeartbeats 8000000
set_option maxRecDepth 100000
attribute [local go_sem] max2_int min2_int max_two min_two max_three min_three max_four min_four
set_option linter.unusedVariables false
set_option linter.unusedSimpArgs false
def spec_suCount.l0 : Nat → Int → Int → Int → List ByteArray → List Int → Option (Int)
 | 0, _, _, _, _, _ => none
 | k + 1, x1, x5, x6, x102000, x102001 => if x6 < x1 then ((spec_suSteps.f k x102000 x102001 x6).bind fun t102 => (spec_suCount.l0 k x1 (wrap64 (x5 * (t102.length : Int))) (wrap64 (x6 + 1)) x102000 x102001)) else (some x5)
def spec_suCount.f (k : Nat) (l0_0 : List ByteArray) (l0_1 : List Int) (a1 : Int) : Option (Int) := spec_suCount.l0 k a1 1 0 l0_0 l0_1
theorem spec_suCount.mono_l : ∀ k, (∀ y0 y1 y2 y3 y4, LeO (spec_suCount.l0 k y0 y1 y2 y3 y4) (spec_suCount.l0 (k + 1) y0 y1 y2 y3 y4))
 | 0 => fun _ _ _ _ _ r h => by simp [spec_suCount.l0] at h
 | k + 1 => by
   have ih0 := spec_suCount.mono_l k
   · intro y0 y1 y2 y3 y4
     unfold spec_suCount.l0
     exact zm2 ih0 spec_suSteps.mono
theorem spec_suCount.mono : ∀ a0 a1 a2 k, LeO (spec_suCount.f k a0 a1 a2) (spec_suCount.f (k + 1) a0 a1 a2) := by
 intro a0 a1 a2 k
 have ih0 := spec_suCount.mono_l k
 unfold spec_suCount.f
 exact zm2 ih0 spec_suSteps.mono
theorem spec_suCount.calls (k : Nat) (A0_0 : Option Addr) (c0_0 : Nat) (l0_0 : List ByteArray) (A0_1 : Option Addr) (c0_1 : Nat) (l0_1 : List Int) (a1 : Int) (r : Int) (w : World) (hr0_0 : Kd.C Kd.string w A0_0 l0_0.length l0_0) (hc0_0 : l0_0.length ≤ c0_0) (hr0_1 : Kd.C (Kd.int .i64) w A0_1 l0_1.length l0_1) (hc0_1 : l0_1.length ≤ c0_1) (h : spec_suCount.f k l0_0 l0_1 a1 = some r) :
   Calls Try.prog 47 #[.agg #[.slice A0_0 l0_0.length c0_0, .slice A0_1 l0_1.length c0_1], .int .i64 a1] w fun e w' => e = .returned (.int .i64 r) ∧ Below w.heap.size w w' := by
 have hu35 := Try.underlying35
 have HR0_0 := zA hr0_0
 have HC0_0 := zA hc0_0
 clear hr0_0 hc0_0
 have HR0_1 := zA hr0_1
 have HC0_1 := zA hc0_1
 clear hr0_1 hc0_1
 have HB := zA (Below.refl w.heap.size w)
 have H : (spec_suCount.l0 k a1 1 0 l0_0 l0_1) = some r := h
 clear h
 have H' := zA H
 clear H
 go_enter Try.func47, Try.ntmps47
 go_wp2_with (first | ((with_reducible refine zgd 2 ?_); refine zbx #[.slice A0_0 l0_0.length c0_0, .slice A0_1 l0_1.length c0_1] 35 ?_; intro gb101 hg w3 hbox hb; have zs := zpair zq2 hb; replace HB := zA (zs.1); have BK101 := zA (hbox); have GW101 := zA (zge hg zs.2); have GE101 := GW101; clear zs hb hbox hg))
 go_loopg [5, 6] k (fun kq v5 v6 w' => ∃ (x5_1 : Int) (x6_1 : Int), v5 = .int .i64 x5_1 ∧ v6 = .int .i64 x6_1 ∧ Aside0 (spec_suCount.l0 kq a1 x5_1 x6_1 l0_0 l0_1 = some r) ∧ Aside0 (kq ≤ k) ∧ Aside0 (w'.heap[gb101]? = some (.cells #[(.slice A0_0 l0_0.length c0_0), (.slice A0_1 l0_1.length c0_1)] 35 (0, 0))) ∧ Aside0 (Below w.heap.size w w'))
 case atStart => exact ⟨(1), (0), zq5, zq5, H', ⟨zlr _⟩, ⟨zq6 BK101⟩, ⟨zq1 GE101⟩⟩
 clear H'
 obtain ⟨x5_1, x6_1, rfl, rfl, HA, HK1, BK101, HB⟩ := hrel
 cases gk with
 | zero => exact absurd HA.out (by simp [spec_suCount.l0])
 | succ k1 =>
 have H := HA.out
 clear HA
 simp only [spec_suCount.l0] at H
 revert H
 refine zit (fun c4 H => ?_) fun c4 H => ?_
 rotate_left
 · obtain rfl := zsi H
   go_wp2
   go_ret
   exact ⟨zq4, zq1 GE101⟩
 replace H := zob H
 obtain ⟨t102, A50, H⟩ := H
 replace H : (spec_suCount.l0 k1 a1 (wrap64 (x5_1 * (t102.length : Int))) (wrap64 (x6_1 + 1)) l0_0 l0_1) = some r := H
 have A5 := zA A50
 clear A50
 have H' := zA H
 clear H
 obtain ⟨hcz6_0, hcz6_1⟩ := zc2 wr (.slice A0_0 l0_0.length c0_0) (.slice A0_1 l0_1.length c0_1) BK101.out
 obtain ⟨hfz6_0, hfz6_1⟩ := zf2 BK101.out
 go_wp2_with (first | ((with_reducible refine zgc 65 ?_); refine zca 15 Try.func65 #[.agg #[.slice A0_0 l0_0.length c0_0, .slice A0_1 l0_1.length c0_1], .int .i64 x6_1] (spec_suSteps.calls k1 _ _ l0_0 _ _ l0_1 x6_1 t102 _ (zq8 HR0_0) HC0_0.out (zq8 HR0_1) HC0_1.out A5.out) ?_; rintro e w7 ⟨v103, rfl, ho0, hb⟩; refine ⟨_, rfl, ?_⟩; have HO104 := zA (Kd.R_lower ho0 (below_size (zq1 GE101))); replace BK101 := zbb BK101 hb; replace HB := zA (below_step (zq1 GE101) hb); (try clear hb); (try clear ho0); obtain ⟨Ao8, co8, eo8⟩ := Kd.R_slice HO104.out; subst eo8))
 go_roundg k1
 case measure => have := HK1.out; omega
 case rel => exact ⟨(wrap64 (x5_1 * (t102.length : Int))), (wrap64 (x6_1 + 1)), zq5, zq5, H', ⟨zq36 HK1⟩, ⟨zq6 BK101⟩, ⟨zq1 GE101⟩⟩
def spec_exApply.f (a0 : ByteArray) (a1 : Int) (a2 : Int) : Option (Int) := if a0.toList = ([110, 111, 116] : List UInt8) then (some (Go.bits .and .i64 (wrap64 (63 - a1)) 63)) else (if a0.toList = ([110, 101, 103] : List UInt8) then (some (Go.bits .and .i64 (wrap64 (-a1)) 63)) else (if a0.toList = ([97, 100, 100] : List UInt8) then (some (Go.bits .and .i64 (wrap64 (a1 + a2)) 63)) else (if a0.toList = ([115, 117, 98] : List UInt8) then (some (Go.bits .and .i64 (wrap64 (a1 - a2)) 63)) else (if a0.toList = ([109, 117, 108] : List UInt8) then (some (Go.bits .and .i64 (wrap64 (a1 * a2)) 63)) else (if a0.toList = ([97, 110, 100] : List UInt8) then (some (Go.bits .and .i64 (Go.bits .and .i64 a1 a2) 63)) else (if a0.toList = ([111, 114] : List UInt8) then (some (Go.bits .and .i64 (Go.bits .or .i64 a1 a2) 63)) else (if a0.toList = ([120, 111, 114] : List UInt8) then (some (Go.bits .and .i64 (Go.bits .xor .i64 a1 a2) 63)) else (if a0.toList = ([115, 104, 108] : List UInt8) then (if a2 < 6 then (if 0 ≤ a2 then (some (Go.bits .and .i64 (shl .i64 a1 a2) 63)) else (none)) else (some (Go.bits .and .i64 0 63))) else (if a0.toList = ([115, 104, 114] : List UInt8) then (if a2 < 6 then (if 0 ≤ a2 then (some (Go.bits .and .i64 (shr .i64 a1 a2) 63)) else (none)) else (some (Go.bits .and .i64 0 63))) else (if a0.toList = ([108, 101, 115, 115] : List UInt8) then (if a1 < a2 then (some (Go.bits .and .i64 1 63)) else (some (Go.bits .and .i64 0 63))) else (if a0.toList = ([101, 113] : List UInt8) then (if a1 = a2 then (some (Go.bits .and .i64 1 63)) else (some (Go.bits .and .i64 0 63))) else (some (Go.bits .and .i64 0 63)))))))))))))
theorem spec_exApply.calls (a0 : ByteArray) (a1 : Int) (a2 : Int) (r : Int) (w : World) (h : spec_exApply.f a0 a1 a2 = some r) :
   Calls Try.prog 117 #[.string a0, .int .i64 a1, .int .i64 a2] w fun e w' => e = .returned (.int .i64 r) ∧ Drawn0 w w' := by
 have H : (if a0.toList = ([110, 111, 116] : List UInt8) then (some (Go.bits .and .i64 (wrap64 (63 - a1)) 63)) else (if a0.toList = ([110, 101, 103] : List UInt8) then (some (Go.bits .and .i64 (wrap64 (-a1)) 63)) else (if a0.toList = ([97, 100, 100] : List UInt8) then (some (Go.bits .and .i64 (wrap64 (a1 + a2)) 63)) else (if a0.toList = ([115, 117, 98] : List UInt8) then (some (Go.bits .and .i64 (wrap64 (a1 - a2)) 63)) else (if a0.toList = ([109, 117, 108] : List UInt8) then (some (Go.bits .and .i64 (wrap64 (a1 * a2)) 63)) else (if a0.toList = ([97, 110, 100] : List UInt8) then (some (Go.bits .and .i64 (Go.bits .and .i64 a1 a2) 63)) else (if a0.toList = ([111, 114] : List UInt8) then (some (Go.bits .and .i64 (Go.bits .or .i64 a1 a2) 63)) else (if a0.toList = ([120, 111, 114] : List UInt8) then (some (Go.bits .and .i64 (Go.bits .xor .i64 a1 a2) 63)) else (if a0.toList = ([115, 104, 108] : List UInt8) then (if a2 < 6 then (if 0 ≤ a2 then (some (Go.bits .and .i64 (shl .i64 a1 a2) 63)) else (none)) else (some (Go.bits .and .i64 0 63))) else (if a0.toList = ([115, 104, 114] : List UInt8) then (if a2 < 6 then (if 0 ≤ a2 then (some (Go.bits .and .i64 (shr .i64 a1 a2) 63)) else (none)) else (some (Go.bits .and .i64 0 63))) else (if a0.toList = ([108, 101, 115, 115] : List UInt8) then (if a1 < a2 then (some (Go.bits .and .i64 1 63)) else (some (Go.bits .and .i64 0 63))) else (if a0.toList = ([101, 113] : List UInt8) then (if a1 = a2 then (some (Go.bits .and .i64 1 63)) else (some (Go.bits .and .i64 0 63))) else (some (Go.bits .and .i64 0 63)))))))))))))) = some r := h
 clear h
 by_cases c4 : a0.toList = ([110, 111, 116] : List UInt8)
 · rw [if_pos c4] at H
   obtain ⟨c4b0, c4b1⟩ := zbe c4
   clear c4
   exact zr_2
 rw [if_neg c4] at H
 obtain ⟨c4b0, c4b1⟩ := zbq c4
 by_cases c5 : a0.toList = ([110, 101, 103] : List UInt8)
 · rw [if_pos c5] at H
   obtain ⟨c5b0, c5b1⟩ := zbe c5
   clear c5
   exact zr_2
 rw [if_neg c5] at H
 obtain ⟨c5b0, c5b1⟩ := zbq c5
 by_cases c6 : a0.toList = ([97, 100, 100] : List UInt8)
 · rw [if_pos c6] at H
   obtain ⟨c6b0, c6b1⟩ := zbe c6
   clear c6
   exact zr_2
 rw [if_neg c6] at H
 obtain ⟨c6b0, c6b1⟩ := zbq c6
 by_cases c7 : a0.toList = ([115, 117, 98] : List UInt8)
 · rw [if_pos c7] at H
   obtain ⟨c7b0, c7b1⟩ := zbe c7
   clear c7
   exact zr_2
 rw [if_neg c7] at H
 obtain ⟨c7b0, c7b1⟩ := zbq c7
 by_cases c8 : a0.toList = ([109, 117, 108] : List UInt8)
 · rw [if_pos c8] at H
   obtain ⟨c8b0, c8b1⟩ := zbe c8
   clear c8
   exact zr_2
 rw [if_neg c8] at H
 obtain ⟨c8b0, c8b1⟩ := zbq c8
 by_cases c9 : a0.toList = ([97, 110, 100] : List UInt8)
 · rw [if_pos c9] at H
   obtain ⟨c9b0, c9b1⟩ := zbe c9
   clear c9
   exact zr_2
 rw [if_neg c9] at H
 obtain ⟨c9b0, c9b1⟩ := zbq c9
 by_cases c10 : a0.toList = ([111, 114] : List UInt8)
 · rw [if_pos c10] at H
   obtain ⟨c10b0, c10b1⟩ := zbe c10
   clear c10
   exact zr_2
 rw [if_neg c10] at H
 obtain ⟨c10b0, c10b1⟩ := zbq c10
 by_cases c11 : a0.toList = ([120, 111, 114] : List UInt8)
 · rw [if_pos c11] at H
   obtain ⟨c11b0, c11b1⟩ := zbe c11
   clear c11
   exact zr_2
 rw [if_neg c11] at H
 obtain ⟨c11b0, c11b1⟩ := zbq c11
 by_cases c12 : a0.toList = ([115, 104, 108] : List UInt8)
 · rw [if_pos c12] at H
   obtain ⟨c12b0, c12b1⟩ := zbe c12
   clear c12
   revert H
   refine zit (fun c13 H => ?_) fun c13 H => ?_
   rotate_left
   · obtain rfl := zsi H
     go_enter Try.func117, Try.ntmps117
     exact zr_1
   by_cases c14 : 0 ≤ a2
   rotate_left
   · rw [if_neg c14] at H
     exact absurd H (by simp)
   rw [if_pos c14] at H
   have c14b0 := eq_true c14
   have c14b1 := zdt c14
   clear c14
   obtain ⟨ji15, hji15⟩ : ∃ j_ : Int, (shl .i64 a1 a2) = j_ := ⟨_, rfl⟩
   replace H : (some (Go.bits .and .i64 (ji15) 63)) = some r := by first | (rw [hji15] at H; exact H) | (simp only [hji15] at H ⊢; exact H)
   have hji15_ : (IntKind.i64.wrap (a1 * 2 ^ min a2.toNat 64)) = ji15 := hji15
   have hji15z : a2 ≤ 64 → (IntKind.i64.wrap (a1 * 2 ^ a2.toNat)) = ji15 := shl_small hji15
   have hji15y : (wrap64 (a1 * 2 ^ min a2.toNat 64)) = ji15 := (i64_w _).symm.trans hji15_
   have hji15x : a2 ≤ 64 → (wrap64 (a1 * 2 ^ a2.toNat)) = ji15 := fun h_ => (i64_w _).symm.trans (hji15z h_)
   obtain rfl := zsi H
   go_enter Try.func117, Try.ntmps117
   go_wp2
   go_ret
   exact ⟨by first | rfl | (simp; done) | (simp only [← hji15] <;> (first | rfl | simp)) | (simp [*]; done), zq9⟩
 rw [if_neg c12] at H
 obtain ⟨c12b0, c12b1⟩ := zbq c12
 by_cases c16 : a0.toList = ([115, 104, 114] : List UInt8)
 · rw [if_pos c16] at H
   obtain ⟨c16b0, c16b1⟩ := zbe c16
   clear c16
   revert H
   refine zit (fun c17 H => ?_) fun c17 H => ?_
   rotate_left
   · obtain rfl := zsi H
     go_enter Try.func117, Try.ntmps117
     exact zr_1
   by_cases c18 : 0 ≤ a2
   rotate_left
   · rw [if_neg c18] at H
     exact absurd H (by simp)
   rw [if_pos c18] at H
   have c18b0 := eq_true c18
   have c18b1 := zdt c18
   clear c18
   obtain ⟨ji19, hji19⟩ : ∃ j_ : Int, (shr .i64 a1 a2) = j_ := ⟨_, rfl⟩
   replace H : (some (Go.bits .and .i64 (ji19) 63)) = some r := by first | (rw [hji19] at H; exact H) | (simp only [hji19] at H ⊢; exact H)
   have hji19_ : (a1 / 2 ^ min a2.toNat 64) = ji19 := hji19
   have hji19z : a2 ≤ 64 → (a1 / 2 ^ a2.toNat) = ji19 := shr_small hji19
   obtain rfl := zsi H
   go_enter Try.func117, Try.ntmps117
   go_wp2
   go_ret
   exact ⟨by first | rfl | (simp; done) | (simp only [← hji19] <;> (first | rfl | simp)) | (simp [*]; done), zq9⟩
 rw [if_neg c16] at H
 obtain ⟨c16b0, c16b1⟩ := zbq c16
 by_cases c20 : a0.toList = ([108, 101, 115, 115] : List UInt8)
 · rw [if_pos c20] at H
   obtain ⟨c20b0, c20b1⟩ := zbe c20
   clear c20
   by_cases c21 : a1 < a2
   · rw [if_pos c21] at H
     have c21b0 := zdt c21
     clear c21
     exact zr_2
   rw [if_neg c21] at H
   have c21b0 := zdf c21
   clear c21
   exact zr_2
 rw [if_neg c20] at H
 obtain ⟨c20b0, c20b1⟩ := zbq c20
 by_cases c22 : a0.toList = ([101, 113] : List UInt8)
 rotate_left
 · rw [if_neg c22] at H
   obtain ⟨c22b0, c22b1⟩ := zbq c22
   exact zr_2
 rw [if_pos c22] at H
 obtain ⟨c22b0, c22b1⟩ := zbe c22
 clear c22
 by_cases c23 : a1 = a2
 rotate_left
 · rw [if_neg c23] at H
   obtain ⟨c23b0, c23b1⟩ := zbq c23
   exact zr_2
 rw [if_pos c23] at H
 obtain ⟨c23b0, c23b1⟩ := zbe c23
 clear c23
 exact zr_2
def spec_cdValue.f (a0_0 : ByteArray) (a0_1 : Int) (a0_2 : Int) (a0_3 : Int) (a0_4 : Int) (l1 : List Int) : Option (Int) := if 0 ≤ a0_2 then (if a0_2 < (l1.length : Int) then (if 0 ≤ a0_3 then (if a0_3 < (l1.length : Int) then (if a0_0.toList = ([115, 101, 116] : List UInt8) then (some a0_4) else (if a0_0.toList = ([109, 111, 118] : List UInt8) then (some (rd l1 a0_2)) else (if a0_0.toList = ([97, 100, 100, 105] : List UInt8) then ((spec_exApply.f (⟨#[97, 100, 100]⟩ : ByteArray) (rd l1 a0_2) a0_4).bind fun t104 => (some t104)) else (if a0_0.toList = ([97, 110, 100, 105] : List UInt8) then ((spec_exApply.f (⟨#[97, 110, 100]⟩ : ByteArray) (rd l1 a0_2) a0_4).bind fun t105 => (some t105)) else (if a0_0.toList = ([120, 111, 114, 105] : List UInt8) then ((spec_exApply.f (⟨#[120, 111, 114]⟩ : ByteArray) (rd l1 a0_2) a0_4).bind fun t106 => (some t106)) else (if a0_0.toList = ([115, 104, 108, 105] : List UInt8) then ((spec_exApply.f (⟨#[115, 104, 108]⟩ : ByteArray) (rd l1 a0_2) a0_4).bind fun t107 => (some t107)) else (if a0_0.toList = ([115, 104, 114, 105] : List UInt8) then ((spec_exApply.f (⟨#[115, 104, 114]⟩ : ByteArray) (rd l1 a0_2) a0_4).bind fun t108 => (some t108)) else (if a0_0.toList = ([108, 101, 97] : List UInt8) then ((spec_exApply.f (⟨#[115, 104, 108]⟩ : ByteArray) (rd l1 a0_3) a0_4).bind fun t109 => ((spec_exApply.f (⟨#[97, 100, 100]⟩ : ByteArray) (rd l1 a0_2) t109).bind fun t110 => (some t110))) else ((spec_exApply.f a0_0 (rd l1 a0_2) (rd l1 a0_3)).bind fun t111 => (some t111)))))))))) else (none)) else (none)) else (none)) else (none)
theorem spec_cdValue.calls (a0_0 : ByteArray) (a0_1 : Int) (a0_2 : Int) (a0_3 : Int) (a0_4 : Int) (A1 : Option Addr) (c1 : Nat) (l1 : List Int) (r : Int) (w : World) (hr1 : Kd.C (Kd.int .i64) w A1 l1.length l1) (hc1 : l1.length ≤ c1) (h : spec_cdValue.f a0_0 a0_1 a0_2 a0_3 a0_4 l1 = some r) :
   Calls Try.prog 116 #[.agg #[.string a0_0, .int .i64 a0_1, .int .i64 a0_2, .int .i64 a0_3, .int .i64 a0_4], .slice A1 l1.length c1] w fun e w' => e = .returned (.int .i64 r) ∧ Below w.heap.size w w' := by
 have hu64 := Try.underlying64
 have HR1 := zA hr1
 have HC1 := zA hc1
 clear hr1 hc1
 have HB := zA (Below.refl w.heap.size w)
 have H : (if 0 ≤ a0_2 then (if a0_2 < (l1.length : Int) then (if 0 ≤ a0_3 then (if a0_3 < (l1.length : Int) then (if a0_0.toList = ([115, 101, 116] : List UInt8) then (some a0_4) else (if a0_0.toList = ([109, 111, 118] : List UInt8) then (some (rd l1 a0_2)) else (if a0_0.toList = ([97, 100, 100, 105] : List UInt8) then ((spec_exApply.f (⟨#[97, 100, 100]⟩ : ByteArray) (rd l1 a0_2) a0_4).bind fun t104 => (some t104)) else (if a0_0.toList = ([97, 110, 100, 105] : List UInt8) then ((spec_exApply.f (⟨#[97, 110, 100]⟩ : ByteArray) (rd l1 a0_2) a0_4).bind fun t105 => (some t105)) else (if a0_0.toList = ([120, 111, 114, 105] : List UInt8) then ((spec_exApply.f (⟨#[120, 111, 114]⟩ : ByteArray) (rd l1 a0_2) a0_4).bind fun t106 => (some t106)) else (if a0_0.toList = ([115, 104, 108, 105] : List UInt8) then ((spec_exApply.f (⟨#[115, 104, 108]⟩ : ByteArray) (rd l1 a0_2) a0_4).bind fun t107 => (some t107)) else (if a0_0.toList = ([115, 104, 114, 105] : List UInt8) then ((spec_exApply.f (⟨#[115, 104, 114]⟩ : ByteArray) (rd l1 a0_2) a0_4).bind fun t108 => (some t108)) else (if a0_0.toList = ([108, 101, 97] : List UInt8) then ((spec_exApply.f (⟨#[115, 104, 108]⟩ : ByteArray) (rd l1 a0_3) a0_4).bind fun t109 => ((spec_exApply.f (⟨#[97, 100, 100]⟩ : ByteArray) (rd l1 a0_2) t109).bind fun t110 => (some t110))) else ((spec_exApply.f a0_0 (rd l1 a0_2) (rd l1 a0_3)).bind fun t111 => (some t111)))))))))) else (none)) else (none)) else (none)) else (none)) = some r := h
 clear h
 revert H
 refine zin fun c3 H => ?_
 revert H
 refine zin fun c4 H => ?_
 revert H
 refine zin fun c5 H => ?_
 revert H
 refine zin fun c6 H => ?_
 by_cases c7 : a0_0.toList = ([115, 101, 116] : List UInt8)
 · rw [if_pos c7] at H
   obtain ⟨c7b0, c7b1⟩ := zbe c7
   clear c7
   obtain rfl := zsi H
   go_enter Try.func116, Try.ntmps116
   go_wp2_with (first | ((with_reducible refine zgd 2 ?_); refine zbh zq2 #[.string a0_0, .int .i64 a0_1, .int .i64 a0_2, .int .i64 a0_3, .int .i64 a0_4] 64 ?_; clear HB; intro gb101 w8 HB BK101 GW101; have GE101 := GW101; obtain ⟨hcz9_0, hcz9_1, hcz9_2, hcz9_3, hcz9_4, hfz9_0, hfz9_1, hfz9_2, hfz9_3, hfz9_4⟩ := zd5 BK101; have p102 : 0 ≤ (a0_2 : Int) := zde zq11; have q102 : a0_2 < (l1.length : Int) := zde zq11; obtain ⟨ad102, e102, hx102_0⟩ := Kd.at_int HR1.out a0_2 p102 q102; cases e102; replace hx102_0 := zkep HB.out hx102_0; replace p102 := eq_true p102; replace q102 := eq_true q102; have p103 : 0 ≤ (a0_3 : Int) := zde zq11; have q103 : a0_3 < (l1.length : Int) := zde zq11; obtain ⟨ad103, e103, hx103_0⟩ := Kd.at_int HR1.out a0_3 p103 q103; obtain rfl : ad102 = ad103 := zq44; replace hx103_0 := zkep HB.out hx103_0; replace p103 := eq_true p103; replace q103 := eq_true q103))
   repeat (go_quiet (first | ((with_reducible refine gate_dst (N := 2) rfl ?_); refine box_event ?hg (N := 2) ?hd (cs := #[.string a0_0, .int .i64 a0_1, .int .i64 a0_2, .int .i64 a0_3, .int .i64 a0_4]) (t := 64) ?hr ?_; (case hd => rfl); (case hg => rfl); (case hr => go_simp <;> rfl); intro gb101 hg w8 hbox hb; have zs := zpair zq2 hb; have n0_ := zA (zs.1); have n1_ := zA (hbox); have n2_ := zA (zge hg zs.2); have n3_ := n2_; clear HB; have HB := n0_; have BK101 := n1_; have GW101 := n2_; have GE101 := n3_; clear n0_ n1_ n2_ n3_; clear zs hb hbox hg; obtain ⟨hcz9_0, hcz9_1, hcz9_2, hcz9_3, hcz9_4⟩ := zc5 w8 (.string a0_0) (.int .i64 a0_1) (.int .i64 a0_2) (.int .i64 a0_3) (.int .i64 a0_4) BK101.out; obtain ⟨hfz9_0, hfz9_1, hfz9_2, hfz9_3, hfz9_4⟩ := zf5 BK101.out; have p102 : 0 ≤ (a0_2 : Int) := zde zq11; have q102 : a0_2 < (l1.length : Int) := zde zq11; obtain ⟨ad102, e102, hx102_0⟩ := Kd.at_int HR1.out a0_2 p102 q102; cases e102; replace hx102_0 := zkep HB.out hx102_0; replace p102 := eq_true p102; replace q102 := eq_true q102; have p103 : 0 ≤ (a0_3 : Int) := zde zq11; have q103 : a0_3 < (l1.length : Int) := zde zq11; obtain ⟨ad103, e103, hx103_0⟩ := Kd.at_int HR1.out a0_3 p103 q103; obtain rfl : ad102 = ad103 := zq44; replace hx103_0 := zkep HB.out hx103_0; replace p103 := eq_true p103; replace q103 := eq_true q103)); try go_wp2_with (first | ((with_reducible refine gate_dst (N := 2) rfl ?_); refine box_event ?hg (N := 2) ?hd (cs := #[.string a0_0, .int .i64 a0_1, .int .i64 a0_2, .int .i64 a0_3, .int .i64 a0_4]) (t := 64) ?hr ?_; (case hd => rfl); (case hg => rfl); (case hr => go_simp <;> rfl); intro gb101 hg w8 hbox hb; have zs := zpair zq2 hb; have n0_ := zA (zs.1); have n1_ := zA (hbox); have n2_ := zA (zge hg zs.2); have n3_ := n2_; clear HB; have HB := n0_; have BK101 := n1_; have GW101 := n2_; have GE101 := n3_; clear n0_ n1_ n2_ n3_; clear zs hb hbox hg; obtain ⟨hcz9_0, hcz9_1, hcz9_2, hcz9_3, hcz9_4⟩ := zc5 w8 (.string a0_0) (.int .i64 a0_1) (.int .i64 a0_2) (.int .i64 a0_3) (.int .i64 a0_4) BK101.out; obtain ⟨hfz9_0, hfz9_1, hfz9_2, hfz9_3, hfz9_4⟩ := zf5 BK101.out; have p102 : 0 ≤ (a0_2 : Int) := zde zq11; have q102 : a0_2 < (l1.length : Int) := zde zq11; obtain ⟨ad102, e102, hx102_0⟩ := Kd.at_int HR1.out a0_2 p102 q102; cases e102; replace hx102_0 := zkep HB.out hx102_0; replace p102 := eq_true p102; replace q102 := eq_true q102; have p103 : 0 ≤ (a0_3 : Int) := zde zq11; have q103 : a0_3 < (l1.length : Int) := zde zq11; obtain ⟨ad103, e103, hx103_0⟩ := Kd.at_int HR1.out a0_3 p103 q103; obtain rfl : ad102 = ad103 := zq44; replace hx103_0 := zkep HB.out hx103_0; replace p103 := eq_true p103; replace q103 := eq_true q103)))
   go_ret
   exact ⟨zq4, zq1 GE101⟩
 rw [if_neg c7] at H
 obtain ⟨c7b0, c7b1⟩ := zbq c7
 by_cases c10 : a0_0.toList = ([109, 111, 118] : List UInt8)
 · rw [if_pos c10] at H
   obtain ⟨c10b0, c10b1⟩ := zbe c10
   clear c10
   obtain rfl := zsi H
   go_enter Try.func116, Try.ntmps116
   go_wp2_with (first | ((with_reducible refine zgd 2 ?_); refine zbh zq2 #[.string a0_0, .int .i64 a0_1, .int .i64 a0_2, .int .i64 a0_3, .int .i64 a0_4] 64 ?_; clear HB; intro gb101 w11 HB BK101 GW101; have GE101 := GW101; obtain ⟨hcz12_0, hcz12_1, hcz12_2, hcz12_3, hcz12_4, hfz12_0, hfz12_1, hfz12_2, hfz12_3, hfz12_4⟩ := zd5 BK101; have p102 : 0 ≤ (a0_2 : Int) := zde zq11; have q102 : a0_2 < (l1.length : Int) := zde zq11; obtain ⟨ad102, e102, hx102_0⟩ := Kd.at_int HR1.out a0_2 p102 q102; cases e102; replace hx102_0 := zkep HB.out hx102_0; replace p102 := eq_true p102; replace q102 := eq_true q102; have p103 : 0 ≤ (a0_3 : Int) := zde zq11; have q103 : a0_3 < (l1.length : Int) := zde zq11; obtain ⟨ad103, e103, hx103_0⟩ := Kd.at_int HR1.out a0_3 p103 q103; obtain rfl : ad102 = ad103 := zq44; replace hx103_0 := zkep HB.out hx103_0; replace p103 := eq_true p103; replace q103 := eq_true q103))
   repeat (go_quiet (first | ((with_reducible refine gate_dst (N := 2) rfl ?_); refine box_event ?hg (N := 2) ?hd (cs := #[.string a0_0, .int .i64 a0_1, .int .i64 a0_2, .int .i64 a0_3, .int .i64 a0_4]) (t := 64) ?hr ?_; (case hd => rfl); (case hg => rfl); (case hr => go_simp <;> rfl); intro gb101 hg w11 hbox hb; have zs := zpair zq2 hb; have n0_ := zA (zs.1); have n1_ := zA (hbox); have n2_ := zA (zge hg zs.2); have n3_ := n2_; clear HB; have HB := n0_; have BK101 := n1_; have GW101 := n2_; have GE101 := n3_; clear n0_ n1_ n2_ n3_; clear zs hb hbox hg; obtain ⟨hcz12_0, hcz12_1, hcz12_2, hcz12_3, hcz12_4⟩ := zc5 w11 (.string a0_0) (.int .i64 a0_1) (.int .i64 a0_2) (.int .i64 a0_3) (.int .i64 a0_4) BK101.out; obtain ⟨hfz12_0, hfz12_1, hfz12_2, hfz12_3, hfz12_4⟩ := zf5 BK101.out; have p102 : 0 ≤ (a0_2 : Int) := zde zq11; have q102 : a0_2 < (l1.length : Int) := zde zq11; obtain ⟨ad102, e102, hx102_0⟩ := Kd.at_int HR1.out a0_2 p102 q102; cases e102; replace hx102_0 := zkep HB.out hx102_0; replace p102 := eq_true p102; replace q102 := eq_true q102; have p103 : 0 ≤ (a0_3 : Int) := zde zq11; have q103 : a0_3 < (l1.length : Int) := zde zq11; obtain ⟨ad103, e103, hx103_0⟩ := Kd.at_int HR1.out a0_3 p103 q103; obtain rfl : ad102 = ad103 := zq44; replace hx103_0 := zkep HB.out hx103_0; replace p103 := eq_true p103; replace q103 := eq_true q103)); try go_wp2_with (first | ((with_reducible refine gate_dst (N := 2) rfl ?_); refine box_event ?hg (N := 2) ?hd (cs := #[.string a0_0, .int .i64 a0_1, .int .i64 a0_2, .int .i64 a0_3, .int .i64 a0_4]) (t := 64) ?hr ?_; (case hd => rfl); (case hg => rfl); (case hr => go_simp <;> rfl); intro gb101 hg w11 hbox hb; have zs := zpair zq2 hb; have n0_ := zA (zs.1); have n1_ := zA (hbox); have n2_ := zA (zge hg zs.2); have n3_ := n2_; clear HB; have HB := n0_; have BK101 := n1_; have GW101 := n2_; have GE101 := n3_; clear n0_ n1_ n2_ n3_; clear zs hb hbox hg; obtain ⟨hcz12_0, hcz12_1, hcz12_2, hcz12_3, hcz12_4⟩ := zc5 w11 (.string a0_0) (.int .i64 a0_1) (.int .i64 a0_2) (.int .i64 a0_3) (.int .i64 a0_4) BK101.out; obtain ⟨hfz12_0, hfz12_1, hfz12_2, hfz12_3, hfz12_4⟩ := zf5 BK101.out; have p102 : 0 ≤ (a0_2 : Int) := zde zq11; have q102 : a0_2 < (l1.length : Int) := zde zq11; obtain ⟨ad102, e102, hx102_0⟩ := Kd.at_int HR1.out a0_2 p102 q102; cases e102; replace hx102_0 := zkep HB.out hx102_0; replace p102 := eq_true p102; replace q102 := eq_true q102; have p103 : 0 ≤ (a0_3 : Int) := zde zq11; have q103 : a0_3 < (l1.length : Int) := zde zq11; obtain ⟨ad103, e103, hx103_0⟩ := Kd.at_int HR1.out a0_3 p103 q103; obtain rfl : ad102 = ad103 := zq44; replace hx103_0 := zkep HB.out hx103_0; replace p103 := eq_true p103; replace q103 := eq_true q103)))
   go_ret
   exact ⟨zq4, zq1 GE101⟩
 rw [if_neg c10] at H
 obtain ⟨c10b0, c10b1⟩ := zbq c10
 by_cases c13 : a0_0.toList = ([97, 100, 100, 105] : List UInt8)
 · rw [if_pos c13] at H
   obtain ⟨c13b0, c13b1⟩ := zbe c13
   clear c13
   replace H := zob H
   obtain ⟨t104, A140, H⟩ := H
   replace H : (some t104) = some r := H
   have A14 := zA A140
   clear A140
   obtain rfl := zsi H
   go_enter Try.func116, Try.ntmps116
   go_wp2_with (first | ((with_reducible refine zgd 2 ?_); refine zbh zq2 #[.string a0_0, .int .i64 a0_1, .int .i64 a0_2, .int .i64 a0_3, .int .i64 a0_4] 64 ?_; clear HB; intro gb101 w15 HB BK101 GW101; have GE101 := GW101; obtain ⟨hcz16_0, hcz16_1, hcz16_2, hcz16_3, hcz16_4, hfz16_0, hfz16_1, hfz16_2, hfz16_3, hfz16_4⟩ := zd5 BK101; have p102 : 0 ≤ (a0_2 : Int) := zde zq11; have q102 : a0_2 < (l1.length : Int) := zde zq11; obtain ⟨ad102, e102, hx102_0⟩ := Kd.at_int HR1.out a0_2 p102 q102; cases e102; replace hx102_0 := zkep HB.out hx102_0; replace p102 := eq_true p102; replace q102 := eq_true q102; have p103 : 0 ≤ (a0_3 : Int) := zde zq11; have q103 : a0_3 < (l1.length : Int) := zde zq11; obtain ⟨ad103, e103, hx103_0⟩ := Kd.at_int HR1.out a0_3 p103 q103; obtain rfl : ad102 = ad103 := zq44; replace hx103_0 := zkep HB.out hx103_0; replace p103 := eq_true p103; replace q103 := eq_true q103) | (go_at_call 117; (with_reducible refine (spec_exApply.calls (⟨#[97, 100, 100]⟩ : ByteArray) (rd l1 a0_2) a0_4 t104 _ A14.out).mono ?_); rintro e w' ⟨rfl, ⟨nd, rfl⟩⟩; (try first | exact ⟨rfl, _, World.drewN_drewN _ _ _⟩ | exact ⟨rfl, _, Eq.trans (World.drewN_drewN _ _ _) (congrArg (World.drewN _) (Nat.add_assoc _ _ _))⟩)))
   repeat (go_quiet (first | ((with_reducible refine gate_dst (N := 2) rfl ?_); refine box_event ?hg (N := 2) ?hd (cs := #[.string a0_0, .int .i64 a0_1, .int .i64 a0_2, .int .i64 a0_3, .int .i64 a0_4]) (t := 64) ?hr ?_; (case hd => rfl); (case hg => rfl); (case hr => go_simp <;> rfl); intro gb101 hg w15 hbox hb; have zs := zpair zq2 hb; have n0_ := zA (zs.1); have n1_ := zA (hbox); have n2_ := zA (zge hg zs.2); have n3_ := n2_; clear HB; have HB := n0_; have BK101 := n1_; have GW101 := n2_; have GE101 := n3_; clear n0_ n1_ n2_ n3_; clear zs hb hbox hg; obtain ⟨hcz16_0, hcz16_1, hcz16_2, hcz16_3, hcz16_4⟩ := zc5 w15 (.string a0_0) (.int .i64 a0_1) (.int .i64 a0_2) (.int .i64 a0_3) (.int .i64 a0_4) BK101.out; obtain ⟨hfz16_0, hfz16_1, hfz16_2, hfz16_3, hfz16_4⟩ := zf5 BK101.out; have p102 : 0 ≤ (a0_2 : Int) := zde zq11; have q102 : a0_2 < (l1.length : Int) := zde zq11; obtain ⟨ad102, e102, hx102_0⟩ := Kd.at_int HR1.out a0_2 p102 q102; cases e102; replace hx102_0 := zkep HB.out hx102_0; replace p102 := eq_true p102; replace q102 := eq_true q102; have p103 : 0 ≤ (a0_3 : Int) := zde zq11; have q103 : a0_3 < (l1.length : Int) := zde zq11; obtain ⟨ad103, e103, hx103_0⟩ := Kd.at_int HR1.out a0_3 p103 q103; obtain rfl : ad102 = ad103 := zq44; replace hx103_0 := zkep HB.out hx103_0; replace p103 := eq_true p103; replace q103 := eq_true q103) | (go_at_call 117; (with_reducible refine (spec_exApply.calls (⟨#[97, 100, 100]⟩ : ByteArray) (rd l1 a0_2) a0_4 t104 _ A14.out).mono ?_); rintro e w' ⟨rfl, ⟨nd, rfl⟩⟩; (try first | exact ⟨rfl, _, World.drewN_drewN _ _ _⟩ | exact ⟨rfl, _, Eq.trans (World.drewN_drewN _ _ _) (congrArg (World.drewN _) (Nat.add_assoc _ _ _))⟩))); try go_wp2_with (first | ((with_reducible refine gate_dst (N := 2) rfl ?_); refine box_event ?hg (N := 2) ?hd (cs := #[.string a0_0, .int .i64 a0_1, .int .i64 a0_2, .int .i64 a0_3, .int .i64 a0_4]) (t := 64) ?hr ?_; (case hd => rfl); (case hg => rfl); (case hr => go_simp <;> rfl); intro gb101 hg w15 hbox hb; have zs := zpair zq2 hb; have n0_ := zA (zs.1); have n1_ := zA (hbox); have n2_ := zA (zge hg zs.2); have n3_ := n2_; clear HB; have HB := n0_; have BK101 := n1_; have GW101 := n2_; have GE101 := n3_; clear n0_ n1_ n2_ n3_; clear zs hb hbox hg; obtain ⟨hcz16_0, hcz16_1, hcz16_2, hcz16_3, hcz16_4⟩ := zc5 w15 (.string a0_0) (.int .i64 a0_1) (.int .i64 a0_2) (.int .i64 a0_3) (.int .i64 a0_4) BK101.out; obtain ⟨hfz16_0, hfz16_1, hfz16_2, hfz16_3, hfz16_4⟩ := zf5 BK101.out; have p102 : 0 ≤ (a0_2 : Int) := zde zq11; have q102 : a0_2 < (l1.length : Int) := zde zq11; obtain ⟨ad102, e102, hx102_0⟩ := Kd.at_int HR1.out a0_2 p102 q102; cases e102; replace hx102_0 := zkep HB.out hx102_0; replace p102 := eq_true p102; replace q102 := eq_true q102; have p103 : 0 ≤ (a0_3 : Int) := zde zq11; have q103 : a0_3 < (l1.length : Int) := zde zq11; obtain ⟨ad103, e103, hx103_0⟩ := Kd.at_int HR1.out a0_3 p103 q103; obtain rfl : ad102 = ad103 := zq44; replace hx103_0 := zkep HB.out hx103_0; replace p103 := eq_true p103; replace q103 := eq_true q103) | (go_at_call 117; (with_reducible refine (spec_exApply.calls (⟨#[97, 100, 100]⟩ : ByteArray) (rd l1 a0_2) a0_4 t104 _ A14.out).mono ?_); rintro e w' ⟨rfl, ⟨nd, rfl⟩⟩; (try first | exact ⟨rfl, _, World.drewN_drewN _ _ _⟩ | exact ⟨rfl, _, Eq.trans (World.drewN_drewN _ _ _) (congrArg (World.drewN _) (Nat.add_assoc _ _ _))⟩))))
   go_ret
   exact ⟨zq4, zq1 GE101⟩
 rw [if_neg c13] at H
 obtain ⟨c13b0, c13b1⟩ := zbq c13
 by_cases c17 : a0_0.toList = ([97, 110, 100, 105] : List UInt8)
 · rw [if_pos c17] at H
   obtain ⟨c17b0, c17b1⟩ := zbe c17
   clear c17
   replace H := zob H
   obtain ⟨t105, A180, H⟩ := H
   replace H : (some t105) = some r := H
   have A18 := zA A180
   clear A180
   obtain rfl := zsi H
   go_enter Try.func116, Try.ntmps116
   go_wp2_with (first | ((with_reducible refine zgd 2 ?_); refine zbh zq2 #[.string a0_0, .int .i64 a0_1, .int .i64 a0_2, .int .i64 a0_3, .int .i64 a0_4] 64 ?_; clear HB; intro gb101 w19 HB BK101 GW101; have GE101 := GW101; obtain ⟨hcz20_0, hcz20_1, hcz20_2, hcz20_3, hcz20_4, hfz20_0, hfz20_1, hfz20_2, hfz20_3, hfz20_4⟩ := zd5 BK101; have p102 : 0 ≤ (a0_2 : Int) := zde zq11; have q102 : a0_2 < (l1.length : Int) := zde zq11; obtain ⟨ad102, e102, hx102_0⟩ := Kd.at_int HR1.out a0_2 p102 q102; cases e102; replace hx102_0 := zkep HB.out hx102_0; replace p102 := eq_true p102; replace q102 := eq_true q102; have p103 : 0 ≤ (a0_3 : Int) := zde zq11; have q103 : a0_3 < (l1.length : Int) := zde zq11; obtain ⟨ad103, e103, hx103_0⟩ := Kd.at_int HR1.out a0_3 p103 q103; obtain rfl : ad102 = ad103 := zq44; replace hx103_0 := zkep HB.out hx103_0; replace p103 := eq_true p103; replace q103 := eq_true q103) | (go_at_call 117; (with_reducible refine (spec_exApply.calls (⟨#[97, 110, 100]⟩ : ByteArray) (rd l1 a0_2) a0_4 t105 _ A18.out).mono ?_); rintro e w' ⟨rfl, ⟨nd, rfl⟩⟩; (try first | exact ⟨rfl, _, World.drewN_drewN _ _ _⟩ | exact ⟨rfl, _, Eq.trans (World.drewN_drewN _ _ _) (congrArg (World.drewN _) (Nat.add_assoc _ _ _))⟩)))
   repeat (go_quiet (first | ((with_reducible refine gate_dst (N := 2) rfl ?_); refine box_event ?hg (N := 2) ?hd (cs := #[.string a0_0, .int .i64 a0_1, .int .i64 a0_2, .int .i64 a0_3, .int .i64 a0_4]) (t := 64) ?hr ?_; (case hd => rfl); (case hg => rfl); (case hr => go_simp <;> rfl); intro gb101 hg w19 hbox hb; have zs := zpair zq2 hb; have n0_ := zA (zs.1); have n1_ := zA (hbox); have n2_ := zA (zge hg zs.2); have n3_ := n2_; clear HB; have HB := n0_; have BK101 := n1_; have GW101 := n2_; have GE101 := n3_; clear n0_ n1_ n2_ n3_; clear zs hb hbox hg; obtain ⟨hcz20_0, hcz20_1, hcz20_2, hcz20_3, hcz20_4⟩ := zc5 w19 (.string a0_0) (.int .i64 a0_1) (.int .i64 a0_2) (.int .i64 a0_3) (.int .i64 a0_4) BK101.out; obtain ⟨hfz20_0, hfz20_1, hfz20_2, hfz20_3, hfz20_4⟩ := zf5 BK101.out; have p102 : 0 ≤ (a0_2 : Int) := zde zq11; have q102 : a0_2 < (l1.length : Int) := zde zq11; obtain ⟨ad102, e102, hx102_0⟩ := Kd.at_int HR1.out a0_2 p102 q102; cases e102; replace hx102_0 := zkep HB.out hx102_0; replace p102 := eq_true p102; replace q102 := eq_true q102; have p103 : 0 ≤ (a0_3 : Int) := zde zq11; have q103 : a0_3 < (l1.length : Int) := zde zq11; obtain ⟨ad103, e103, hx103_0⟩ := Kd.at_int HR1.out a0_3 p103 q103; obtain rfl : ad102 = ad103 := zq44; replace hx103_0 := zkep HB.out hx103_0; replace p103 := eq_true p103; replace q103 := eq_true q103) | (go_at_call 117; (with_reducible refine (spec_exApply.calls (⟨#[97, 110, 100]⟩ : ByteArray) (rd l1 a0_2) a0_4 t105 _ A18.out).mono ?_); rintro e w' ⟨rfl, ⟨nd, rfl⟩⟩; (try first | exact ⟨rfl, _, World.drewN_drewN _ _ _⟩ | exact ⟨rfl, _, Eq.trans (World.drewN_drewN _ _ _) (congrArg (World.drewN _) (Nat.add_assoc _ _ _))⟩))); try go_wp2_with (first | ((with_reducible refine gate_dst (N := 2) rfl ?_); refine box_event ?hg (N := 2) ?hd (cs := #[.string a0_0, .int .i64 a0_1, .int .i64 a0_2, .int .i64 a0_3, .int .i64 a0_4]) (t := 64) ?hr ?_; (case hd => rfl); (case hg => rfl); (case hr => go_simp <;> rfl); intro gb101 hg w19 hbox hb; have zs := zpair zq2 hb; have n0_ := zA (zs.1); have n1_ := zA (hbox); have n2_ := zA (zge hg zs.2); have n3_ := n2_; clear HB; have HB := n0_; have BK101 := n1_; have GW101 := n2_; have GE101 := n3_; clear n0_ n1_ n2_ n3_; clear zs hb hbox hg; obtain ⟨hcz20_0, hcz20_1, hcz20_2, hcz20_3, hcz20_4⟩ := zc5 w19 (.string a0_0) (.int .i64 a0_1) (.int .i64 a0_2) (.int .i64 a0_3) (.int .i64 a0_4) BK101.out; obtain ⟨hfz20_0, hfz20_1, hfz20_2, hfz20_3, hfz20_4⟩ := zf5 BK101.out; have p102 : 0 ≤ (a0_2 : Int) := zde zq11; have q102 : a0_2 < (l1.length : Int) := zde zq11; obtain ⟨ad102, e102, hx102_0⟩ := Kd.at_int HR1.out a0_2 p102 q102; cases e102; replace hx102_0 := zkep HB.out hx102_0; replace p102 := eq_true p102; replace q102 := eq_true q102; have p103 : 0 ≤ (a0_3 : Int) := zde zq11; have q103 : a0_3 < (l1.length : Int) := zde zq11; obtain ⟨ad103, e103, hx103_0⟩ := Kd.at_int HR1.out a0_3 p103 q103; obtain rfl : ad102 = ad103 := zq44; replace hx103_0 := zkep HB.out hx103_0; replace p103 := eq_true p103; replace q103 := eq_true q103) | (go_at_call 117; (with_reducible refine (spec_exApply.calls (⟨#[97, 110, 100]⟩ : ByteArray) (rd l1 a0_2) a0_4 t105 _ A18.out).mono ?_); rintro e w' ⟨rfl, ⟨nd, rfl⟩⟩; (try first | exact ⟨rfl, _, World.drewN_drewN _ _ _⟩ | exact ⟨rfl, _, Eq.trans (World.drewN_drewN _ _ _) (congrArg (World.drewN _) (Nat.add_assoc _ _ _))⟩))))
   go_ret
   exact ⟨zq4, zq1 GE101⟩
 rw [if_neg c17] at H
 obtain ⟨c17b0, c17b1⟩ := zbq c17
 by_cases c21 : a0_0.toList = ([120, 111, 114, 105] : List UInt8)
 · rw [if_pos c21] at H
   obtain ⟨c21b0, c21b1⟩ := zbe c21
   clear c21
   replace H := zob H
   obtain ⟨t106, A220, H⟩ := H
   replace H : (some t106) = some r := H
   have A22 := zA A220
   clear A220
   obtain rfl := zsi H
   go_enter Try.func116, Try.ntmps116
   go_wp2_with (first | ((with_reducible refine zgd 2 ?_); refine zbh zq2 #[.string a0_0, .int .i64 a0_1, .int .i64 a0_2, .int .i64 a0_3, .int .i64 a0_4] 64 ?_; clear HB; intro gb101 w23 HB BK101 GW101; have GE101 := GW101; obtain ⟨hcz24_0, hcz24_1, hcz24_2, hcz24_3, hcz24_4, hfz24_0, hfz24_1, hfz24_2, hfz24_3, hfz24_4⟩ := zd5 BK101; have p102 : 0 ≤ (a0_2 : Int) := zde zq11; have q102 : a0_2 < (l1.length : Int) := zde zq11; obtain ⟨ad102, e102, hx102_0⟩ := Kd.at_int HR1.out a0_2 p102 q102; cases e102; replace hx102_0 := zkep HB.out hx102_0; replace p102 := eq_true p102; replace q102 := eq_true q102; have p103 : 0 ≤ (a0_3 : Int) := zde zq11; have q103 : a0_3 < (l1.length : Int) := zde zq11; obtain ⟨ad103, e103, hx103_0⟩ := Kd.at_int HR1.out a0_3 p103 q103; obtain rfl : ad102 = ad103 := zq44; replace hx103_0 := zkep HB.out hx103_0; replace p103 := eq_true p103; replace q103 := eq_true q103) | (go_at_call 117; (with_reducible refine (spec_exApply.calls (⟨#[120, 111, 114]⟩ : ByteArray) (rd l1 a0_2) a0_4 t106 _ A22.out).mono ?_); rintro e w' ⟨rfl, ⟨nd, rfl⟩⟩; (try first | exact ⟨rfl, _, World.drewN_drewN _ _ _⟩ | exact ⟨rfl, _, Eq.trans (World.drewN_drewN _ _ _) (congrArg (World.drewN _) (Nat.add_assoc _ _ _))⟩)))
   repeat (go_quiet (first | ((with_reducible refine gate_dst (N := 2) rfl ?_); refine box_event ?hg (N := 2) ?hd (cs := #[.string a0_0, .int .i64 a0_1, .int .i64 a0_2, .int .i64 a0_3, .int .i64 a0_4]) (t := 64) ?hr ?_; (case hd => rfl); (case hg => rfl); (case hr => go_simp <;> rfl); intro gb101 hg w23 hbox hb; have zs := zpair zq2 hb; have n0_ := zA (zs.1); have n1_ := zA (hbox); have n2_ := zA (zge hg zs.2); have n3_ := n2_; clear HB; have HB := n0_; have BK101 := n1_; have GW101 := n2_; have GE101 := n3_; clear n0_ n1_ n2_ n3_; clear zs hb hbox hg; obtain ⟨hcz24_0, hcz24_1, hcz24_2, hcz24_3, hcz24_4⟩ := zc5 w23 (.string a0_0) (.int .i64 a0_1) (.int .i64 a0_2) (.int .i64 a0_3) (.int .i64 a0_4) BK101.out; obtain ⟨hfz24_0, hfz24_1, hfz24_2, hfz24_3, hfz24_4⟩ := zf5 BK101.out; have p102 : 0 ≤ (a0_2 : Int) := zde zq11; have q102 : a0_2 < (l1.length : Int) := zde zq11; obtain ⟨ad102, e102, hx102_0⟩ := Kd.at_int HR1.out a0_2 p102 q102; cases e102; replace hx102_0 := zkep HB.out hx102_0; replace p102 := eq_true p102; replace q102 := eq_true q102; have p103 : 0 ≤ (a0_3 : Int) := zde zq11; have q103 : a0_3 < (l1.length : Int) := zde zq11; obtain ⟨ad103, e103, hx103_0⟩ := Kd.at_int HR1.out a0_3 p103 q103; obtain rfl : ad102 = ad103 := zq44; replace hx103_0 := zkep HB.out hx103_0; replace p103 := eq_true p103; replace q103 := eq_true q103) | (go_at_call 117; (with_reducible refine (spec_exApply.calls (⟨#[120, 111, 114]⟩ : ByteArray) (rd l1 a0_2) a0_4 t106 _ A22.out).mono ?_); rintro e w' ⟨rfl, ⟨nd, rfl⟩⟩; (try first | exact ⟨rfl, _, World.drewN_drewN _ _ _⟩ | exact ⟨rfl, _, Eq.trans (World.drewN_drewN _ _ _) (congrArg (World.drewN _) (Nat.add_assoc _ _ _))⟩))); try go_wp2_with (first | ((with_reducible refine gate_dst (N := 2) rfl ?_); refine box_event ?hg (N := 2) ?hd (cs := #[.string a0_0, .int .i64 a0_1, .int .i64 a0_2, .int .i64 a0_3, .int .i64 a0_4]) (t := 64) ?hr ?_; (case hd => rfl); (case hg => rfl); (case hr => go_simp <;> rfl); intro gb101 hg w23 hbox hb; have zs := zpair zq2 hb; have n0_ := zA (zs.1); have n1_ := zA (hbox); have n2_ := zA (zge hg zs.2); have n3_ := n2_; clear HB; have HB := n0_; have BK101 := n1_; have GW101 := n2_; have GE101 := n3_; clear n0_ n1_ n2_ n3_; clear zs hb hbox hg; obtain ⟨hcz24_0, hcz24_1, hcz24_2, hcz24_3, hcz24_4⟩ := zc5 w23 (.string a0_0) (.int .i64 a0_1) (.int .i64 a0_2) (.int .i64 a0_3) (.int .i64 a0_4) BK101.out; obtain ⟨hfz24_0, hfz24_1, hfz24_2, hfz24_3, hfz24_4⟩ := zf5 BK101.out; have p102 : 0 ≤ (a0_2 : Int) := zde zq11; have q102 : a0_2 < (l1.length : Int) := zde zq11; obtain ⟨ad102, e102, hx102_0⟩ := Kd.at_int HR1.out a0_2 p102 q102; cases e102; replace hx102_0 := zkep HB.out hx102_0; replace p102 := eq_true p102; replace q102 := eq_true q102; have p103 : 0 ≤ (a0_3 : Int) := zde zq11; have q103 : a0_3 < (l1.length : Int) := zde zq11; obtain ⟨ad103, e103, hx103_0⟩ := Kd.at_int HR1.out a0_3 p103 q103; obtain rfl : ad102 = ad103 := zq44; replace hx103_0 := zkep HB.out hx103_0; replace p103 := eq_true p103; replace q103 := eq_true q103) | (go_at_call 117; (with_reducible refine (spec_exApply.calls (⟨#[120, 111, 114]⟩ : ByteArray) (rd l1 a0_2) a0_4 t106 _ A22.out).mono ?_); rintro e w' ⟨rfl, ⟨nd, rfl⟩⟩; (try first | exact ⟨rfl, _, World.drewN_drewN _ _ _⟩ | exact ⟨rfl, _, Eq.trans (World.drewN_drewN _ _ _) (congrArg (World.drewN _) (Nat.add_assoc _ _ _))⟩))))
   go_ret
   exact ⟨zq4, zq1 GE101⟩
 rw [if_neg c21] at H
 obtain ⟨c21b0, c21b1⟩ := zbq c21
 by_cases c25 : a0_0.toList = ([115, 104, 108, 105] : List UInt8)
 · rw [if_pos c25] at H
   obtain ⟨c25b0, c25b1⟩ := zbe c25
   clear c25
   replace H := zob H
   obtain ⟨t107, A260, H⟩ := H
   replace H : (some t107) = some r := H
   have A26 := zA A260
   clear A260
   obtain rfl := zsi H
   go_enter Try.func116, Try.ntmps116
   go_wp2_with (first | ((with_reducible refine zgd 2 ?_); refine zbh zq2 #[.string a0_0, .int .i64 a0_1, .int .i64 a0_2, .int .i64 a0_3, .int .i64 a0_4] 64 ?_; clear HB; intro gb101 w27 HB BK101 GW101; have GE101 := GW101; obtain ⟨hcz28_0, hcz28_1, hcz28_2, hcz28_3, hcz28_4, hfz28_0, hfz28_1, hfz28_2, hfz28_3, hfz28_4⟩ := zd5 BK101; have p102 : 0 ≤ (a0_2 : Int) := zde zq11; have q102 : a0_2 < (l1.length : Int) := zde zq11; obtain ⟨ad102, e102, hx102_0⟩ := Kd.at_int HR1.out a0_2 p102 q102; cases e102; replace hx102_0 := zkep HB.out hx102_0; replace p102 := eq_true p102; replace q102 := eq_true q102; have p103 : 0 ≤ (a0_3 : Int) := zde zq11; have q103 : a0_3 < (l1.length : Int) := zde zq11; obtain ⟨ad103, e103, hx103_0⟩ := Kd.at_int HR1.out a0_3 p103 q103; obtain rfl : ad102 = ad103 := zq44; replace hx103_0 := zkep HB.out hx103_0; replace p103 := eq_true p103; replace q103 := eq_true q103) | (go_at_call 117; (with_reducible refine (spec_exApply.calls (⟨#[115, 104, 108]⟩ : ByteArray) (rd l1 a0_2) a0_4 t107 _ A26.out).mono ?_); rintro e w' ⟨rfl, ⟨nd, rfl⟩⟩; (try first | exact ⟨rfl, _, World.drewN_drewN _ _ _⟩ | exact ⟨rfl, _, Eq.trans (World.drewN_drewN _ _ _) (congrArg (World.drewN _) (Nat.add_assoc _ _ _))⟩)))
   repeat (go_quiet (first | ((with_reducible refine gate_dst (N := 2) rfl ?_); refine box_event ?hg (N := 2) ?hd (cs := #[.string a0_0, .int .i64 a0_1, .int .i64 a0_2, .int .i64 a0_3, .int .i64 a0_4]) (t := 64) ?hr ?_; (case hd => rfl); (case hg => rfl); (case hr => go_simp <;> rfl); intro gb101 hg w27 hbox hb; have zs := zpair zq2 hb; have n0_ := zA (zs.1); have n1_ := zA (hbox); have n2_ := zA (zge hg zs.2); have n3_ := n2_; clear HB; have HB := n0_; have BK101 := n1_; have GW101 := n2_; have GE101 := n3_; clear n0_ n1_ n2_ n3_; clear zs hb hbox hg; obtain ⟨hcz28_0, hcz28_1, hcz28_2, hcz28_3, hcz28_4⟩ := zc5 w27 (.string a0_0) (.int .i64 a0_1) (.int .i64 a0_2) (.int .i64 a0_3) (.int .i64 a0_4) BK101.out; obtain ⟨hfz28_0, hfz28_1, hfz28_2, hfz28_3, hfz28_4⟩ := zf5 BK101.out; have p102 : 0 ≤ (a0_2 : Int) := zde zq11; have q102 : a0_2 < (l1.length : Int) := zde zq11; obtain ⟨ad102, e102, hx102_0⟩ := Kd.at_int HR1.out a0_2 p102 q102; cases e102; replace hx102_0 := zkep HB.out hx102_0; replace p102 := eq_true p102; replace q102 := eq_true q102; have p103 : 0 ≤ (a0_3 : Int) := zde zq11; have q103 : a0_3 < (l1.length : Int) := zde zq11; obtain ⟨ad103, e103, hx103_0⟩ := Kd.at_int HR1.out a0_3 p103 q103; obtain rfl : ad102 = ad103 := zq44; replace hx103_0 := zkep HB.out hx103_0; replace p103 := eq_true p103; replace q103 := eq_true q103) | (go_at_call 117; (with_reducible refine (spec_exApply.calls (⟨#[115, 104, 108]⟩ : ByteArray) (rd l1 a0_2) a0_4 t107 _ A26.out).mono ?_); rintro e w' ⟨rfl, ⟨nd, rfl⟩⟩; (try first | exact ⟨rfl, _, World.drewN_drewN _ _ _⟩ | exact ⟨rfl, _, Eq.trans (World.drewN_drewN _ _ _) (congrArg (World.drewN _) (Nat.add_assoc _ _ _))⟩))); try go_wp2_with (first | ((with_reducible refine gate_dst (N := 2) rfl ?_); refine box_event ?hg (N := 2) ?hd (cs := #[.string a0_0, .int .i64 a0_1, .int .i64 a0_2, .int .i64 a0_3, .int .i64 a0_4]) (t := 64) ?hr ?_; (case hd => rfl); (case hg => rfl); (case hr => go_simp <;> rfl); intro gb101 hg w27 hbox hb; have zs := zpair zq2 hb; have n0_ := zA (zs.1); have n1_ := zA (hbox); have n2_ := zA (zge hg zs.2); have n3_ := n2_; clear HB; have HB := n0_; have BK101 := n1_; have GW101 := n2_; have GE101 := n3_; clear n0_ n1_ n2_ n3_; clear zs hb hbox hg; obtain ⟨hcz28_0, hcz28_1, hcz28_2, hcz28_3, hcz28_4⟩ := zc5 w27 (.string a0_0) (.int .i64 a0_1) (.int .i64 a0_2) (.int .i64 a0_3) (.int .i64 a0_4) BK101.out; obtain ⟨hfz28_0, hfz28_1, hfz28_2, hfz28_3, hfz28_4⟩ := zf5 BK101.out; have p102 : 0 ≤ (a0_2 : Int) := zde zq11; have q102 : a0_2 < (l1.length : Int) := zde zq11; obtain ⟨ad102, e102, hx102_0⟩ := Kd.at_int HR1.out a0_2 p102 q102; cases e102; replace hx102_0 := zkep HB.out hx102_0; replace p102 := eq_true p102; replace q102 := eq_true q102; have p103 : 0 ≤ (a0_3 : Int) := zde zq11; have q103 : a0_3 < (l1.length : Int) := zde zq11; obtain ⟨ad103, e103, hx103_0⟩ := Kd.at_int HR1.out a0_3 p103 q103; obtain rfl : ad102 = ad103 := zq44; replace hx103_0 := zkep HB.out hx103_0; replace p103 := eq_true p103; replace q103 := eq_true q103) | (go_at_call 117; (with_reducible refine (spec_exApply.calls (⟨#[115, 104, 108]⟩ : ByteArray) (rd l1 a0_2) a0_4 t107 _ A26.out).mono ?_); rintro e w' ⟨rfl, ⟨nd, rfl⟩⟩; (try first | exact ⟨rfl, _, World.drewN_drewN _ _ _⟩ | exact ⟨rfl, _, Eq.trans (World.drewN_drewN _ _ _) (congrArg (World.drewN _) (Nat.add_assoc _ _ _))⟩))))
   go_ret
   exact ⟨zq4, zq1 GE101⟩
 rw [if_neg c25] at H
 obtain ⟨c25b0, c25b1⟩ := zbq c25
 by_cases c29 : a0_0.toList = ([115, 104, 114, 105] : List UInt8)
 · rw [if_pos c29] at H
   obtain ⟨c29b0, c29b1⟩ := zbe c29
   clear c29
   replace H := zob H
   obtain ⟨t108, A300, H⟩ := H
   replace H : (some t108) = some r := H
   have A30 := zA A300
   clear A300
   obtain rfl := zsi H
   go_enter Try.func116, Try.ntmps116
   go_wp2_with (first | ((with_reducible refine zgd 2 ?_); refine zbh zq2 #[.string a0_0, .int .i64 a0_1, .int .i64 a0_2, .int .i64 a0_3, .int .i64 a0_4] 64 ?_; clear HB; intro gb101 w31 HB BK101 GW101; have GE101 := GW101; obtain ⟨hcz32_0, hcz32_1, hcz32_2, hcz32_3, hcz32_4, hfz32_0, hfz32_1, hfz32_2, hfz32_3, hfz32_4⟩ := zd5 BK101; have p102 : 0 ≤ (a0_2 : Int) := zde zq11; have q102 : a0_2 < (l1.length : Int) := zde zq11; obtain ⟨ad102, e102, hx102_0⟩ := Kd.at_int HR1.out a0_2 p102 q102; cases e102; replace hx102_0 := zkep HB.out hx102_0; replace p102 := eq_true p102; replace q102 := eq_true q102; have p103 : 0 ≤ (a0_3 : Int) := zde zq11; have q103 : a0_3 < (l1.length : Int) := zde zq11; obtain ⟨ad103, e103, hx103_0⟩ := Kd.at_int HR1.out a0_3 p103 q103; obtain rfl : ad102 = ad103 := zq44; replace hx103_0 := zkep HB.out hx103_0; replace p103 := eq_true p103; replace q103 := eq_true q103) | (go_at_call 117; (with_reducible refine (spec_exApply.calls (⟨#[115, 104, 114]⟩ : ByteArray) (rd l1 a0_2) a0_4 t108 _ A30.out).mono ?_); rintro e w' ⟨rfl, ⟨nd, rfl⟩⟩; (try first | exact ⟨rfl, _, World.drewN_drewN _ _ _⟩ | exact ⟨rfl, _, Eq.trans (World.drewN_drewN _ _ _) (congrArg (World.drewN _) (Nat.add_assoc _ _ _))⟩)))
   repeat (go_quiet (first | ((with_reducible refine gate_dst (N := 2) rfl ?_); refine box_event ?hg (N := 2) ?hd (cs := #[.string a0_0, .int .i64 a0_1, .int .i64 a0_2, .int .i64 a0_3, .int .i64 a0_4]) (t := 64) ?hr ?_; (case hd => rfl); (case hg => rfl); (case hr => go_simp <;> rfl); intro gb101 hg w31 hbox hb; have zs := zpair zq2 hb; have n0_ := zA (zs.1); have n1_ := zA (hbox); have n2_ := zA (zge hg zs.2); have n3_ := n2_; clear HB; have HB := n0_; have BK101 := n1_; have GW101 := n2_; have GE101 := n3_; clear n0_ n1_ n2_ n3_; clear zs hb hbox hg; obtain ⟨hcz32_0, hcz32_1, hcz32_2, hcz32_3, hcz32_4⟩ := zc5 w31 (.string a0_0) (.int .i64 a0_1) (.int .i64 a0_2) (.int .i64 a0_3) (.int .i64 a0_4) BK101.out; obtain ⟨hfz32_0, hfz32_1, hfz32_2, hfz32_3, hfz32_4⟩ := zf5 BK101.out; have p102 : 0 ≤ (a0_2 : Int) := zde zq11; have q102 : a0_2 < (l1.length : Int) := zde zq11; obtain ⟨ad102, e102, hx102_0⟩ := Kd.at_int HR1.out a0_2 p102 q102; cases e102; replace hx102_0 := zkep HB.out hx102_0; replace p102 := eq_true p102; replace q102 := eq_true q102; have p103 : 0 ≤ (a0_3 : Int) := zde zq11; have q103 : a0_3 < (l1.length : Int) := zde zq11; obtain ⟨ad103, e103, hx103_0⟩ := Kd.at_int HR1.out a0_3 p103 q103; obtain rfl : ad102 = ad103 := zq44; replace hx103_0 := zkep HB.out hx103_0; replace p103 := eq_true p103; replace q103 := eq_true q103) | (go_at_call 117; (with_reducible refine (spec_exApply.calls (⟨#[115, 104, 114]⟩ : ByteArray) (rd l1 a0_2) a0_4 t108 _ A30.out).mono ?_); rintro e w' ⟨rfl, ⟨nd, rfl⟩⟩; (try first | exact ⟨rfl, _, World.drewN_drewN _ _ _⟩ | exact ⟨rfl, _, Eq.trans (World.drewN_drewN _ _ _) (congrArg (World.drewN _) (Nat.add_assoc _ _ _))⟩))); try go_wp2_with (first | ((with_reducible refine gate_dst (N := 2) rfl ?_); refine box_event ?hg (N := 2) ?hd (cs := #[.string a0_0, .int .i64 a0_1, .int .i64 a0_2, .int .i64 a0_3, .int .i64 a0_4]) (t := 64) ?hr ?_; (case hd => rfl); (case hg => rfl); (case hr => go_simp <;> rfl); intro gb101 hg w31 hbox hb; have zs := zpair zq2 hb; have n0_ := zA (zs.1); have n1_ := zA (hbox); have n2_ := zA (zge hg zs.2); have n3_ := n2_; clear HB; have HB := n0_; have BK101 := n1_; have GW101 := n2_; have GE101 := n3_; clear n0_ n1_ n2_ n3_; clear zs hb hbox hg; obtain ⟨hcz32_0, hcz32_1, hcz32_2, hcz32_3, hcz32_4⟩ := zc5 w31 (.string a0_0) (.int .i64 a0_1) (.int .i64 a0_2) (.int .i64 a0_3) (.int .i64 a0_4) BK101.out; obtain ⟨hfz32_0, hfz32_1, hfz32_2, hfz32_3, hfz32_4⟩ := zf5 BK101.out; have p102 : 0 ≤ (a0_2 : Int) := zde zq11; have q102 : a0_2 < (l1.length : Int) := zde zq11; obtain ⟨ad102, e102, hx102_0⟩ := Kd.at_int HR1.out a0_2 p102 q102; cases e102; replace hx102_0 := zkep HB.out hx102_0; replace p102 := eq_true p102; replace q102 := eq_true q102; have p103 : 0 ≤ (a0_3 : Int) := zde zq11; have q103 : a0_3 < (l1.length : Int) := zde zq11; obtain ⟨ad103, e103, hx103_0⟩ := Kd.at_int HR1.out a0_3 p103 q103; obtain rfl : ad102 = ad103 := zq44; replace hx103_0 := zkep HB.out hx103_0; replace p103 := eq_true p103; replace q103 := eq_true q103) | (go_at_call 117; (with_reducible refine (spec_exApply.calls (⟨#[115, 104, 114]⟩ : ByteArray) (rd l1 a0_2) a0_4 t108 _ A30.out).mono ?_); rintro e w' ⟨rfl, ⟨nd, rfl⟩⟩; (try first | exact ⟨rfl, _, World.drewN_drewN _ _ _⟩ | exact ⟨rfl, _, Eq.trans (World.drewN_drewN _ _ _) (congrArg (World.drewN _) (Nat.add_assoc _ _ _))⟩))))
   go_ret
   exact ⟨zq4, zq1 GE101⟩
 rw [if_neg c29] at H
 obtain ⟨c29b0, c29b1⟩ := zbq c29
 by_cases c33 : a0_0.toList = ([108, 101, 97] : List UInt8)
 rotate_left
 · rw [if_neg c33] at H
   obtain ⟨c33b0, c33b1⟩ := zbq c33
   replace H := zob H
   obtain ⟨t111, A380, H⟩ := H
   replace H : (some t111) = some r := H
   have A38 := zA A380
   clear A380
   obtain rfl := zsi H
   go_enter Try.func116, Try.ntmps116
   go_wp2_with (first | ((with_reducible refine zgd 2 ?_); refine zbh zq2 #[.string a0_0, .int .i64 a0_1, .int .i64 a0_2, .int .i64 a0_3, .int .i64 a0_4] 64 ?_; clear HB; intro gb101 w39 HB BK101 GW101; have GE101 := GW101; obtain ⟨hcz40_0, hcz40_1, hcz40_2, hcz40_3, hcz40_4, hfz40_0, hfz40_1, hfz40_2, hfz40_3, hfz40_4⟩ := zd5 BK101; have p102 : 0 ≤ (a0_2 : Int) := zde zq11; have q102 : a0_2 < (l1.length : Int) := zde zq11; obtain ⟨ad102, e102, hx102_0⟩ := Kd.at_int HR1.out a0_2 p102 q102; cases e102; replace hx102_0 := zkep HB.out hx102_0; replace p102 := eq_true p102; replace q102 := eq_true q102; have p103 : 0 ≤ (a0_3 : Int) := zde zq11; have q103 : a0_3 < (l1.length : Int) := zde zq11; obtain ⟨ad103, e103, hx103_0⟩ := Kd.at_int HR1.out a0_3 p103 q103; obtain rfl : ad102 = ad103 := zq44; replace hx103_0 := zkep HB.out hx103_0; replace p103 := eq_true p103; replace q103 := eq_true q103) | (go_at_call 117; (with_reducible refine (spec_exApply.calls a0_0 (rd l1 a0_2) (rd l1 a0_3) t111 _ A38.out).mono ?_); rintro e w' ⟨rfl, ⟨nd, rfl⟩⟩; (try first | exact ⟨rfl, _, World.drewN_drewN _ _ _⟩ | exact ⟨rfl, _, Eq.trans (World.drewN_drewN _ _ _) (congrArg (World.drewN _) (Nat.add_assoc _ _ _))⟩)))
   repeat (go_quiet (first | ((with_reducible refine gate_dst (N := 2) rfl ?_); refine box_event ?hg (N := 2) ?hd (cs := #[.string a0_0, .int .i64 a0_1, .int .i64 a0_2, .int .i64 a0_3, .int .i64 a0_4]) (t := 64) ?hr ?_; (case hd => rfl); (case hg => rfl); (case hr => go_simp <;> rfl); intro gb101 hg w39 hbox hb; have zs := zpair zq2 hb; have n0_ := zA (zs.1); have n1_ := zA (hbox); have n2_ := zA (zge hg zs.2); have n3_ := n2_; clear HB; have HB := n0_; have BK101 := n1_; have GW101 := n2_; have GE101 := n3_; clear n0_ n1_ n2_ n3_; clear zs hb hbox hg; obtain ⟨hcz40_0, hcz40_1, hcz40_2, hcz40_3, hcz40_4⟩ := zc5 w39 (.string a0_0) (.int .i64 a0_1) (.int .i64 a0_2) (.int .i64 a0_3) (.int .i64 a0_4) BK101.out; obtain ⟨hfz40_0, hfz40_1, hfz40_2, hfz40_3, hfz40_4⟩ := zf5 BK101.out; have p102 : 0 ≤ (a0_2 : Int) := zde zq11; have q102 : a0_2 < (l1.length : Int) := zde zq11; obtain ⟨ad102, e102, hx102_0⟩ := Kd.at_int HR1.out a0_2 p102 q102; cases e102; replace hx102_0 := zkep HB.out hx102_0; replace p102 := eq_true p102; replace q102 := eq_true q102; have p103 : 0 ≤ (a0_3 : Int) := zde zq11; have q103 : a0_3 < (l1.length : Int) := zde zq11; obtain ⟨ad103, e103, hx103_0⟩ := Kd.at_int HR1.out a0_3 p103 q103; obtain rfl : ad102 = ad103 := zq44; replace hx103_0 := zkep HB.out hx103_0; replace p103 := eq_true p103; replace q103 := eq_true q103) | (go_at_call 117; (with_reducible refine (spec_exApply.calls a0_0 (rd l1 a0_2) (rd l1 a0_3) t111 _ A38.out).mono ?_); rintro e w' ⟨rfl, ⟨nd, rfl⟩⟩; (try first | exact ⟨rfl, _, World.drewN_drewN _ _ _⟩ | exact ⟨rfl, _, Eq.trans (World.drewN_drewN _ _ _) (congrArg (World.drewN _) (Nat.add_assoc _ _ _))⟩))); try go_wp2_with (first | ((with_reducible refine gate_dst (N := 2) rfl ?_); refine box_event ?hg (N := 2) ?hd (cs := #[.string a0_0, .int .i64 a0_1, .int .i64 a0_2, .int .i64 a0_3, .int .i64 a0_4]) (t := 64) ?hr ?_; (case hd => rfl); (case hg => rfl); (case hr => go_simp <;> rfl); intro gb101 hg w39 hbox hb; have zs := zpair zq2 hb; have n0_ := zA (zs.1); have n1_ := zA (hbox); have n2_ := zA (zge hg zs.2); have n3_ := n2_; clear HB; have HB := n0_; have BK101 := n1_; have GW101 := n2_; have GE101 := n3_; clear n0_ n1_ n2_ n3_; clear zs hb hbox hg; obtain ⟨hcz40_0, hcz40_1, hcz40_2, hcz40_3, hcz40_4⟩ := zc5 w39 (.string a0_0) (.int .i64 a0_1) (.int .i64 a0_2) (.int .i64 a0_3) (.int .i64 a0_4) BK101.out; obtain ⟨hfz40_0, hfz40_1, hfz40_2, hfz40_3, hfz40_4⟩ := zf5 BK101.out; have p102 : 0 ≤ (a0_2 : Int) := zde zq11; have q102 : a0_2 < (l1.length : Int) := zde zq11; obtain ⟨ad102, e102, hx102_0⟩ := Kd.at_int HR1.out a0_2 p102 q102; cases e102; replace hx102_0 := zkep HB.out hx102_0; replace p102 := eq_true p102; replace q102 := eq_true q102; have p103 : 0 ≤ (a0_3 : Int) := zde zq11; have q103 : a0_3 < (l1.length : Int) := zde zq11; obtain ⟨ad103, e103, hx103_0⟩ := Kd.at_int HR1.out a0_3 p103 q103; obtain rfl : ad102 = ad103 := zq44; replace hx103_0 := zkep HB.out hx103_0; replace p103 := eq_true p103; replace q103 := eq_true q103) | (go_at_call 117; (with_reducible refine (spec_exApply.calls a0_0 (rd l1 a0_2) (rd l1 a0_3) t111 _ A38.out).mono ?_); rintro e w' ⟨rfl, ⟨nd, rfl⟩⟩; (try first | exact ⟨rfl, _, World.drewN_drewN _ _ _⟩ | exact ⟨rfl, _, Eq.trans (World.drewN_drewN _ _ _) (congrArg (World.drewN _) (Nat.add_assoc _ _ _))⟩))))
   go_ret
   exact ⟨zq4, zq1 GE101⟩
 rw [if_pos c33] at H
 obtain ⟨c33b0, c33b1⟩ := zbe c33
 clear c33
 replace H := zob H
 obtain ⟨t109, A340, H⟩ := H
 replace H : ((spec_exApply.f (⟨#[97, 100, 100]⟩ : ByteArray) (rd l1 a0_2) t109).bind fun t110 => (some t110)) = some r := H
 have A34 := zA A340
 clear A340
 replace H := zob H
 obtain ⟨t110, A350, H⟩ := H
 replace H : (some t110) = some r := H
 have A35 := zA A350
 clear A350
 obtain rfl := zsi H
 go_enter Try.func116, Try.ntmps116
 go_wp2_with (first | ((with_reducible refine zgd 2 ?_); refine zbh zq2 #[.string a0_0, .int .i64 a0_1, .int .i64 a0_2, .int .i64 a0_3, .int .i64 a0_4] 64 ?_; clear HB; intro gb101 w36 HB BK101 GW101; have GE101 := GW101; obtain ⟨hcz37_0, hcz37_1, hcz37_2, hcz37_3, hcz37_4, hfz37_0, hfz37_1, hfz37_2, hfz37_3, hfz37_4⟩ := zd5 BK101; have p102 : 0 ≤ (a0_2 : Int) := zde zq11; have q102 : a0_2 < (l1.length : Int) := zde zq11; obtain ⟨ad102, e102, hx102_0⟩ := Kd.at_int HR1.out a0_2 p102 q102; cases e102; replace hx102_0 := zkep HB.out hx102_0; replace p102 := eq_true p102; replace q102 := eq_true q102; have p103 : 0 ≤ (a0_3 : Int) := zde zq11; have q103 : a0_3 < (l1.length : Int) := zde zq11; obtain ⟨ad103, e103, hx103_0⟩ := Kd.at_int HR1.out a0_3 p103 q103; obtain rfl : ad102 = ad103 := zq44; replace hx103_0 := zkep HB.out hx103_0; replace p103 := eq_true p103; replace q103 := eq_true q103) | (go_at_call 117; (with_reducible refine (spec_exApply.calls (⟨#[115, 104, 108]⟩ : ByteArray) (rd l1 a0_3) a0_4 t109 _ A34.out).mono ?_); rintro e w' ⟨rfl, ⟨nd, rfl⟩⟩; (try first | exact ⟨rfl, _, World.drewN_drewN _ _ _⟩ | exact ⟨rfl, _, Eq.trans (World.drewN_drewN _ _ _) (congrArg (World.drewN _) (Nat.add_assoc _ _ _))⟩)) | (go_at_call 117; (with_reducible refine (spec_exApply.calls (⟨#[97, 100, 100]⟩ : ByteArray) (rd l1 a0_2) t109 t110 _ A35.out).mono ?_); rintro e w' ⟨rfl, ⟨nd, rfl⟩⟩; (try first | exact ⟨rfl, _, World.drewN_drewN _ _ _⟩ | exact ⟨rfl, _, Eq.trans (World.drewN_drewN _ _ _) (congrArg (World.drewN _) (Nat.add_assoc _ _ _))⟩)))
 repeat (go_quiet (first | ((with_reducible refine gate_dst (N := 2) rfl ?_); refine box_event ?hg (N := 2) ?hd (cs := #[.string a0_0, .int .i64 a0_1, .int .i64 a0_2, .int .i64 a0_3, .int .i64 a0_4]) (t := 64) ?hr ?_; (case hd => rfl); (case hg => rfl); (case hr => go_simp <;> rfl); intro gb101 hg w36 hbox hb; have zs := zpair zq2 hb; have n0_ := zA (zs.1); have n1_ := zA (hbox); have n2_ := zA (zge hg zs.2); have n3_ := n2_; clear HB; have HB := n0_; have BK101 := n1_; have GW101 := n2_; have GE101 := n3_; clear n0_ n1_ n2_ n3_; clear zs hb hbox hg; obtain ⟨hcz37_0, hcz37_1, hcz37_2, hcz37_3, hcz37_4⟩ := zc5 w36 (.string a0_0) (.int .i64 a0_1) (.int .i64 a0_2) (.int .i64 a0_3) (.int .i64 a0_4) BK101.out; obtain ⟨hfz37_0, hfz37_1, hfz37_2, hfz37_3, hfz37_4⟩ := zf5 BK101.out; have p102 : 0 ≤ (a0_2 : Int) := zde zq11; have q102 : a0_2 < (l1.length : Int) := zde zq11; obtain ⟨ad102, e102, hx102_0⟩ := Kd.at_int HR1.out a0_2 p102 q102; cases e102; replace hx102_0 := zkep HB.out hx102_0; replace p102 := eq_true p102; replace q102 := eq_true q102; have p103 : 0 ≤ (a0_3 : Int) := zde zq11; have q103 : a0_3 < (l1.length : Int) := zde zq11; obtain ⟨ad103, e103, hx103_0⟩ := Kd.at_int HR1.out a0_3 p103 q103; obtain rfl : ad102 = ad103 := zq44; replace hx103_0 := zkep HB.out hx103_0; replace p103 := eq_true p103; replace q103 := eq_true q103) | (go_at_call 117; (with_reducible refine (spec_exApply.calls (⟨#[115, 104, 108]⟩ : ByteArray) (rd l1 a0_3) a0_4 t109 _ A34.out).mono ?_); rintro e w' ⟨rfl, ⟨nd, rfl⟩⟩; (try first | exact ⟨rfl, _, World.drewN_drewN _ _ _⟩ | exact ⟨rfl, _, Eq.trans (World.drewN_drewN _ _ _) (congrArg (World.drewN _) (Nat.add_assoc _ _ _))⟩)) | (go_at_call 117; (with_reducible refine (spec_exApply.calls (⟨#[97, 100, 100]⟩ : ByteArray) (rd l1 a0_2) t109 t110 _ A35.out).mono ?_); rintro e w' ⟨rfl, ⟨nd, rfl⟩⟩; (try first | exact ⟨rfl, _, World.drewN_drewN _ _ _⟩ | exact ⟨rfl, _, Eq.trans (World.drewN_drewN _ _ _) (congrArg (World.drewN _) (Nat.add_assoc _ _ _))⟩))); try go_wp2_with (first | ((with_reducible refine gate_dst (N := 2) rfl ?_); refine box_event ?hg (N := 2) ?hd (cs := #[.string a0_0, .int .i64 a0_1, .int .i64 a0_2, .int .i64 a0_3, .int .i64 a0_4]) (t := 64) ?hr ?_; (case hd => rfl); (case hg => rfl); (case hr => go_simp <;> rfl); intro gb101 hg w36 hbox hb; have zs := zpair zq2 hb; have n0_ := zA (zs.1); have n1_ := zA (hbox); have n2_ := zA (zge hg zs.2); have n3_ := n2_; clear HB; have HB := n0_; have BK101 := n1_; have GW101 := n2_; have GE101 := n3_; clear n0_ n1_ n2_ n3_; clear zs hb hbox hg; obtain ⟨hcz37_0, hcz37_1, hcz37_2, hcz37_3, hcz37_4⟩ := zc5 w36 (.string a0_0) (.int .i64 a0_1) (.int .i64 a0_2) (.int .i64 a0_3) (.int .i64 a0_4) BK101.out; obtain ⟨hfz37_0, hfz37_1, hfz37_2, hfz37_3, hfz37_4⟩ := zf5 BK101.out; have p102 : 0 ≤ (a0_2 : Int) := zde zq11; have q102 : a0_2 < (l1.length : Int) := zde zq11; obtain ⟨ad102, e102, hx102_0⟩ := Kd.at_int HR1.out a0_2 p102 q102; cases e102; replace hx102_0 := zkep HB.out hx102_0; replace p102 := eq_true p102; replace q102 := eq_true q102; have p103 : 0 ≤ (a0_3 : Int) := zde zq11; have q103 : a0_3 < (l1.length : Int) := zde zq11; obtain ⟨ad103, e103, hx103_0⟩ := Kd.at_int HR1.out a0_3 p103 q103; obtain rfl : ad102 = ad103 := zq44; replace hx103_0 := zkep HB.out hx103_0; replace p103 := eq_true p103; replace q103 := eq_true q103) | (go_at_call 117; (with_reducible refine (spec_exApply.calls (⟨#[115, 104, 108]⟩ : ByteArray) (rd l1 a0_3) a0_4 t109 _ A34.out).mono ?_); rintro e w' ⟨rfl, ⟨nd, rfl⟩⟩; (try first | exact ⟨rfl, _, World.drewN_drewN _ _ _⟩ | exact ⟨rfl, _, Eq.trans (World.drewN_drewN _ _ _) (congrArg (World.drewN _) (Nat.add_assoc _ _ _))⟩)) | (go_at_call 117; (with_reducible refine (spec_exApply.calls (⟨#[97, 100, 100]⟩ : ByteArray) (rd l1 a0_2) t109 t110 _ A35.out).mono ?_); rintro e w' ⟨rfl, ⟨nd, rfl⟩⟩; (try first | exact ⟨rfl, _, World.drewN_drewN _ _ _⟩ | exact ⟨rfl, _, Eq.trans (World.drewN_drewN _ _ _) (congrArg (World.drewN _) (Nat.add_assoc _ _ _))⟩))))
 go_ret
 exact ⟨zq4, zq1 GE101⟩
def spec_l1Own.f (l0 : List Int) : Option (List Int) := (some (([] : List Int) : List Int)).bind fun y101 => (if y101.length + l0.length < 17592186044416 then (some (y101 ++ l0)) else (none))
theorem spec_l1Own.calls (A0 : Option Addr) (c0 : Nat) (l0 : List Int) (r : List Int) (w : World) (hr0 : Kd.C (Kd.int .i64) w A0 l0.length l0) (hc0 : l0.length ≤ c0) (h : spec_l1Own.f l0 = some r) :
   Calls Try.prog 100 #[.slice A0 l0.length c0] w fun e w' => ∃ v0_ : Value, e = .returned (v0_) ∧ Kd.R (Kd.int .i64) 3 w' w.heap.size (fun _ => True) v0_ r ∧ Below w.heap.size w w' := by
 have HR0 := zA hr0
 have HC0 := zA hc0
 clear hr0 hc0
 have HB := zA (Below.refl w.heap.size w)
 have H : ((some (([] : List Int) : List Int)).bind fun y101 => (if y101.length + l0.length < 17592186044416 then (some (y101 ++ l0)) else (none))) = some r := h
 clear h
 obtain ⟨y101, hy101⟩ : ∃ y_ : List Int, y_ = (([] : List Int)) := ⟨_, rfl⟩
 replace H : (if y101.length + l0.length < 17592186044416 then (some (y101 ++ l0)) else (none)) = some r := by first | (rw [hy101]; with_reducible exact H) | (have H2_ := (Option.bind_some _ _).symm.trans H; rw [hy101]; with_reducible exact H2_) | (have H2_ := (Option.bind_some _ _).symm.trans H; with_reducible exact H2_) | with_reducible exact H | (rw [hy101]; exact H) | exact H
 have Ny101 := zA hy101
 clear hy101
 by_cases c2 : y101.length + l0.length < 17592186044416
 · rw [if_pos c2] at H
   have LMc2 := zA c2
   clear c2
   obtain ⟨y104, hy104⟩ : ∃ y_ : List Int, y_ = (y101 ++ l0) := ⟨_, rfl⟩
   replace H : (some y104) = some r := by first | (rw [hy104]; with_reducible exact H) | (have H2_ := (Option.bind_some _ _).symm.trans H; rw [hy104]; with_reducible exact H2_) | (have H2_ := (Option.bind_some _ _).symm.trans H; with_reducible exact H2_) | with_reducible exact H | (rw [hy104]; exact H) | exact H
   have Ny104 := zA hy104
   clear hy104
   obtain rfl := zsi H
   go_enter Try.func100, Try.ntmps100
   go_wp2_with (first | ((with_reducible refine zgd 3 ?_); refine Kd.R_lit (Kd.int .i64) _ 3 ?hg (N := 3) ?hd (xs := ([] : List Int)) (inner := []) (ok := fun _ => True) (okp := fun _ => True) ?hr ?hp (fun _ hk => hk) trivial (Below.refl _ _) (zlr _) (by simp) ?_; (case hd => rfl); (case hg => rfl); (case hr => go_simp <;> rfl); (case hp => exact (Reps.none _ _)); intro v102 w3 ho4 hb hg_ hnew_; clear hg_ hnew_; (first | rw [← Ny101.out] at ho4 | (simp only [Int.reduceToNat] at ho4; rw [← Ny101.out] at ho4)); have HO103 := zA (Kd.R_lower ho4 (below_size zq2)); replace HB := zA (below_step zq2 hb); clear hb ho4) | ((with_reducible refine gate_builtin (b := .append) (xs := #[.tmp 3, .tmp 4]) rfl ?_); at_builtin; refine Kd.R_append_rows (Kd.int .i64) (w0 := w) w.heap.size rfl (.tmp 3) (.tmp 4) 24 3 (.int .i64 0) 8 rfl Try.underlying24 info3 rfl (by decide) (by omega) v102 y101 l0 _ _ _ (fun _ => True) (fun _ => False) rfl rfl ?aO ?aR (fun _ _ h => h) (fun _ h => h.elim) ?aF ?aB ?aS ?aL ?_; (case aR => repeat (first | exact (zCb HR0.out HB.out) | (with_reducible first | refine zCa ?_ _ | refine zCn ?_ _ | refine zCd ?_))); (case aB => exact zq2); (case aF => exact (fun _ _ => trivial)); (case aO => exact (zq3 HO103)); (case aS => exact (below_size zq2)); (case aL => have := LMc2.out; omega); intro v105 w5 ho hb hg hat; rw [← Ny104.out] at ho; replace HB := zA (hb); have HO106 := zA (ho); clear HO103; clear ho hb hg hat))
   go_ret
   exact ⟨_, zq4, zq3 HO106, zq2⟩
 · rw [if_neg c2] at H
   exact absurd H (by simp)
def spec_cdStep.f (a0_0 : ByteArray) (a0_1 : Int) (a0_2 : Int) (a0_3 : Int) (a0_4 : Int) (l1 : List Int) : Option (List Int) := (spec_l1Own.f l1).bind fun t102 => ((spec_cdValue.f a0_0 a0_1 a0_2 a0_3 a0_4 l1).bind fun t105 => (if 0 ≤ a0_1 then (if a0_1 < (t102.length : Int) then (some (t102.set (a0_1 : Int).toNat t105)) else (none)) else (none)))
def spec_cdStep.T2 : Bool × List (List Nat × List Nat) := (true, [([], []), ([], []), ([1], [1]), ([], []), ([], []), ([3, 4], [3, 4]), ([0, 2, 0, 1, 2, 3, 4, 5], [0, 2]), ([6, 5, 5, 0, 1, 2, 3, 4, 5], [5, 6])])
def spec_cdStep.B2 : List Nat := [0, 0, 2, 0, 0, 24, 63, 127]
theorem spec_cdStep.tab2 : rtab .any (opsOf Try.f101 2) = spec_cdStep.T2 := by kernel_rfl
theorem spec_cdStep.bits2 : waitsOk spec_cdStep.T2.2 spec_cdStep.B2 = true := by kernel_rfl
theorem spec_cdStep.calls (a0_0 : ByteArray) (a0_1 : Int) (a0_2 : Int) (a0_3 : Int) (a0_4 : Int) (A1 : Option Addr) (c1 : Nat) (l1 : List Int) (r : List Int) (w : World) (hr1 : Kd.C (Kd.int .i64) w A1 l1.length l1) (hc1 : l1.length ≤ c1) (h : spec_cdStep.f a0_0 a0_1 a0_2 a0_3 a0_4 l1 = some r) :
   Calls Try.prog 101 #[.agg #[.string a0_0, .int .i64 a0_1, .int .i64 a0_2, .int .i64 a0_3, .int .i64 a0_4], .slice A1 l1.length c1] w fun e w' => ∃ v0_ : Value, e = .returned (v0_) ∧ Kd.R (Kd.int .i64) 3 w' w.heap.size (fun _ => True) v0_ r ∧ Below w.heap.size w w' := by
 have hu64 := Try.underlying64
 have HR1 := zA hr1
 have HC1 := zA hc1
 clear hr1 hc1
 have HB := zA (Below.refl w.heap.size w)
 have H : ((spec_l1Own.f l1).bind fun t102 => ((spec_cdValue.f a0_0 a0_1 a0_2 a0_3 a0_4 l1).bind fun t105 => (if 0 ≤ a0_1 then (if a0_1 < (t102.length : Int) then (some (t102.set (a0_1 : Int).toNat t105)) else (none)) else (none)))) = some r := h
 clear h
 replace H := zob H
 obtain ⟨t102, A30, H⟩ := H
 replace H : ((spec_cdValue.f a0_0 a0_1 a0_2 a0_3 a0_4 l1).bind fun t105 => (if 0 ≤ a0_1 then (if a0_1 < (t102.length : Int) then (some (t102.set (a0_1 : Int).toNat t105)) else (none)) else (none))) = some r := H
 have A3 := zA A30
 clear A30
 replace H := zob H
 obtain ⟨t105, A40, H⟩ := H
 replace H : (if 0 ≤ a0_1 then (if a0_1 < (t102.length : Int) then (some (t102.set (a0_1 : Int).toNat t105)) else (none)) else (none)) = some r := H
 have A4 := zA A40
 clear A40
 revert H
 refine zin fun c5 H => ?_
 revert H
 refine zin fun c6 H => ?_
 obtain ⟨y106, hy106⟩ : ∃ y_ : List Int, y_ = (t102.set (a0_1 : Int).toNat t105) := ⟨_, rfl⟩
 replace H : (some y106) = some r := by first | (rw [hy106]; with_reducible exact H) | (have H2_ := (Option.bind_some _ _).symm.trans H; rw [hy106]; with_reducible exact H2_) | (have H2_ := (Option.bind_some _ _).symm.trans H; with_reducible exact H2_) | with_reducible exact H | (rw [hy106]; exact H) | exact H
 have Ny106 := zA hy106
 clear hy106
 obtain rfl := zsi H
 go_enter Try.func101, Try.ntmps101
 try go_wp2_with (first | ((with_reducible refine zgd 2 ?_); refine zbx #[.string a0_0, .int .i64 a0_1, .int .i64 a0_2, .int .i64 a0_3, .int .i64 a0_4] 64 ?_; intro gb101 hg w8 hbox hb; have zs := zpair zq2 hb; replace HB := zA (zs.1); have BK101 := zA (hbox); have GW101 := zA (zge hg zs.2); have GE101 := GW101; clear zs hb hbox hg) | ((with_reducible refine zgc 100 ?_); refine zca 7 Try.func100 #[.slice A1 l1.length c1] (spec_l1Own.calls _ _ l1 t102 _ (zq8 HR1) HC1.out A3.out) ?_; rintro e w9 ⟨v103, rfl, ho0, hb⟩; refine ⟨_, rfl, ?_⟩; have HO104 := zA (Kd.R_lower ho0 (below_size (zq1 GE101))); replace BK101 := zbb BK101 hb; replace HB := zA (below_step (zq1 GE101) hb); (try clear hb); (try clear ho0)))
 replace HO104 := zA (zRd HO104.out)
 replace BK101 := zA (zkd BK101.out)
 replace HB := zA (zbd HB.out)
 refine start_ (n := 8) (S := fun w' => w'.cell? ⟨gb101, 0, none⟩ = some (.string a0_0) ∧ w'.cell? ⟨gb101, 1, none⟩ = some (.int .i64 a0_1) ∧ w'.cell? ⟨gb101, 2, none⟩ = some (.int .i64 a0_2) ∧ w'.cell? ⟨gb101, 3, none⟩ = some (.int .i64 a0_3) ∧ w'.cell? ⟨gb101, 4, none⟩ = some (.int .i64 a0_4)) (ds := [7]) #[false, false, false, false, false, false, false, false] zq23 rfl rfl ⟨(blk_cell BK101.out 0).trans rfl, (blk_cell BK101.out 1).trans rfl, (blk_cell BK101.out 2).trans rfl, (blk_cell BK101.out 3).trans rfl, (blk_cell BK101.out 4).trans rfl⟩ (fun hHeld => ?_); refine with_tabW spec_cdStep.tab2 spec_cdStep.bits2 (fun HT_ HW_ => ?_)
 generalize w9.drew = w10 at HO104 BK101 HB hHeld ⊢
 refine zpu 0 8 HT_ ?_
 refine zpu 1 9 HT_ ?_
 refine zpu 4 12 HT_ ?_
 refine ztu 2 10 HT_ HW_ hHeld ?_
 refine ztu 3 11 HT_ HW_ hHeld ?_
 refine one_ (i := 5) (N := some 13) #[true, true, true, true, true, true, false, false] rfl rfl (one_of HT_.out zq23) (by decide) (fun K hK => ?_)
 refine goes_ Try.func116 zq23 rfl #[.agg #[.string a0_0, .int .i64 a0_1, .int .i64 a0_2, .int .i64 a0_3, .int .i64 a0_4], .slice A1 l1.length c1] (by rfl) rfl rfl zq14 ?_
 with_reducible refine (spec_cdValue.calls a0_0 a0_1 a0_2 a0_3 a0_4 _ _ l1 t105 _ ?side1 ?side2 A4.out).mono ?_
 (case side1 => repeat (first | exact (zCb HR1.out HB.out) | (with_reducible first | refine zCa ?_ _ | refine zCn ?_ _ | refine zCd ?_)))
 (case side2 => exact HC1.out)
 rintro e w11 ⟨rfl, hb⟩
 refine ⟨_, rfl, ?_⟩
 replace HO104 := zA (zRb (zq3 HO104) hb)
 replace BK101 := zA (blk_below (g := gb101) (o := .cells #[.string a0_0, .int .i64 a0_1, .int .i64 a0_2, .int .i64 a0_3, .int .i64 a0_4] 64 (0, 0)) (zq6 BK101) hb)
 replace HB := zA (below_step (zq1 GE101) hb)
 (try clear hb)
 (try clear hb2)
 (try clear hk)
 (try clear hi)
 have p7 : 0 ≤ (a0_1 : Int) := zde zq11
 have q7 : (a0_1 : Int) < ((t102.length : Int) : Int) := zde zq11
 obtain ⟨go7, co7, eo7, gb7, gl7, cl7, HG7⟩ := Kd.R_form HO104.out (by omega)
 (first | cases eo7 | (injection eo7 with ea_ en_ ec_; (first | subst ea_ | (injection ea_ with ea_; subst ea_)); subst ec_; clear en_))
 have GB7 := zA gb7
 have GG7 := zA HG7
 clear gb7 gl7 HG7
 obtain ⟨hx7_0, hf7_0⟩ := Kd.R_celln 0 HO104.out (a0_1 : Int) p7 q7
 replace p7 := eq_true p7
 replace q7 := eq_true q7
 have HP12 := Kd.R_putn HO104.out (a0_1 : Int) t105
 rw [← Ny106.out] at HP12
 have HQ12 := zA HP12
 clear HP12
 refine hK.out _ _ ⟨(blk_cell BK101.out 0).trans rfl, (blk_cell BK101.out 1).trans rfl, (blk_cell BK101.out 2).trans rfl, (blk_cell BK101.out 3).trans rfl, (blk_cell BK101.out 4).trans rfl⟩ (fun hHeld => ?_)
 clear hK K
 refine znm 13 ?_
 refine zpu 6 14 HT_ ?_
 refine last_ (i := 7) (N := none) #[true, true, true, true, true, true, true, true] rfl rfl (one_of HT_.out zq23) (by decide) (fun K hK => ?_)
 refine skip_ (w1 := ?_) (by rfl) rfl ?_ ?_
 rotate_left
 · go_simp
   rfl
 refine hK.out _ _ ?_
 clear hK K
 refine done_ (done_of HT_.out zq23) ?_
 try go_wp2
 go_ret
 exact ⟨_, zq4, zq3 HQ12, zq7 GB7 GE101⟩
def spec_cdRun.l0 : Nat → List Int → List (S64) → Int → Int → Option (List Int)
 | 0, _, _, _, _ => none
 | k + 1, x5, x10, x11, x12 => if x12 < x11 then (if 0 ≤ x12 then (if x12 < (x10.length : Int) then ((spec_cdStep.f ((rd_T64 x10 x12).f0) ((rd_T64 x10 x12).f1) ((rd_T64 x10 x12).f2) ((rd_T64 x10 x12).f3) ((rd_T64 x10 x12).f4) x5).bind fun t106 => (spec_cdRun.l0 k t106 x10 x11 (wrap64 (x12 + 1)))) else (none)) else (none)) else (some x5)
def spec_cdRun.f (k : Nat) (l0 : List (S64)) (l1 : List Int) : Option (List Int) := (spec_l1Own.f l1).bind fun t101 => (spec_cdRun.l0 k t101 l0 (l0.length : Int) 0)
theorem spec_cdRun.mono_l : ∀ k, (∀ y0 y1 y2 y3, LeO (spec_cdRun.l0 k y0 y1 y2 y3) (spec_cdRun.l0 (k + 1) y0 y1 y2 y3))
 | 0 => fun _ _ _ _ r h => by simp [spec_cdRun.l0] at h
 | k + 1 => by
   have ih0 := spec_cdRun.mono_l k
   · intro y0 y1 y2 y3
     unfold spec_cdRun.l0
     exact zm1 ih0
theorem spec_cdRun.mono : ∀ a0 a1 k, LeO (spec_cdRun.f k a0 a1) (spec_cdRun.f (k + 1) a0 a1) := by
 intro a0 a1 k
 have ih0 := spec_cdRun.mono_l k
 unfold spec_cdRun.f
 exact zm1 ih0
theorem spec_cdRun.calls (k : Nat) (A0 : Option Addr) (c0 : Nat) (l0 : List (S64)) (A1 : Option Addr) (c1 : Nat) (l1 : List Int) (r : List Int) (w : World) (hr0 : Kd.C k64 w A0 l0.length l0) (hc0 : l0.length ≤ c0) (hr1 : Kd.C (Kd.int .i64) w A1 l1.length l1) (hc1 : l1.length ≤ c1) (h : spec_cdRun.f k l0 l1 = some r) :
   Calls Try.prog 67 #[.slice A0 l0.length c0, .slice A1 l1.length c1] w fun e w' => ∃ v0_ : Value, e = .returned (v0_) ∧ Kd.R (Kd.int .i64) 3 w' w.heap.size (fun _ => True) v0_ r ∧ Below w.heap.size w w' := by
 have hu64 := Try.underlying64
 have HR0 := zA hr0
 have HC0 := zA hc0
 clear hr0 hc0
 have HR1 := zA hr1
 have HC1 := zA hc1
 clear hr1 hc1
 have HB := zA (Below.refl w.heap.size w)
 have H : ((spec_l1Own.f l1).bind fun t101 => (spec_cdRun.l0 k t101 l0 (l0.length : Int) 0)) = some r := h
 clear h
 replace H := zob H
 obtain ⟨t101, A30, H⟩ := H
 replace H : (spec_cdRun.l0 k t101 l0 (l0.length : Int) 0) = some r := H
 have A3 := zA A30
 clear A30
 have H' := zA H
 clear H
 go_enter Try.func67, Try.ntmps67
 go_wp2_with (first | ((with_reducible refine zgc 100 ?_); refine zca 9 Try.func100 #[.slice A1 l1.length c1] (spec_l1Own.calls _ _ l1 t101 _ (zq34 HR1) HC1.out A3.out) ?_; rintro e w4 ⟨v102, rfl, ho0, hb⟩; refine ⟨_, rfl, ?_⟩; have HO103 := zA (Kd.R_lower ho0 (below_size zq2)); replace HB := zA (below_step zq2 hb); (try clear hb); (try clear ho0)))
 go_loopg [5, 12] k (fun kq v5 v12 w' => ∃ (x5_1 : List Int) (x12_1 : Int), v12 = .int .i64 x12_1 ∧ Aside0 (spec_cdRun.l0 kq x5_1 l0 (l0.length : Int) x12_1 = some r) ∧ Aside0 (kq ≤ k) ∧ Aside0 (Kd.R (Kd.int .i64) 3 w' w.heap.size (fun _ => True) v5 x5_1) ∧ Aside0 (Below w.heap.size w w'))
 case atStart => exact ⟨(t101), (0), zq5, H', ⟨zlr _⟩, ⟨zq3 HO103⟩, ⟨zq2⟩⟩
 clear H'
 try clear c1
 obtain ⟨x5_1, x12_1, rfl, HA, HK1, HO_5, HB⟩ := hrel
 cases gk with
 | zero => exact absurd HA.out (by simp [spec_cdRun.l0])
 | succ k1 =>
 have H := HA.out
 clear HA
 simp only [spec_cdRun.l0] at H
 revert H
 refine zit (fun c5 H => ?_) fun c5 H => ?_
 rotate_left
 · obtain rfl := zsi H
   go_wp2
   go_ret
   exact ⟨_, zq4, zq3 HO_5, zq2⟩
 revert H
 refine zin fun c6 H => ?_
 revert H
 refine zin fun c7 H => ?_
 replace H := zob H
 obtain ⟨t106, A80, H⟩ := H
 replace H : (spec_cdRun.l0 k1 t106 l0 (l0.length : Int) (wrap64 (x12_1 + 1))) = some r := H
 have A8 := zA A80
 clear A80
 have H' := zA H
 clear H
 obtain ⟨p104, q104⟩ := zpq x12_1 l0.length
 obtain ⟨ad104, e104, hx104_0, hx104_1, hx104_2, hx104_3, hx104_4⟩ := at_T64 HR0.out x12_1 (zoe p104) (zoe q104)
 cases e104
 replace hx104_0 := zkep HB.out hx104_0
 replace hx104_1 := zkep HB.out hx104_1
 replace hx104_2 := zkep HB.out hx104_2
 replace hx104_3 := zkep HB.out hx104_3
 replace hx104_4 := zkep HB.out hx104_4
 go_wp2_with (first | ((with_reducible refine zgd 7 ?_); refine zbx #[.string (⟨#[]⟩ : ByteArray), .int .i64 0, .int .i64 0, .int .i64 0, .int .i64 0] 64 ?_; intro gb105 hg w9 hbox hb; have zs := zpair zq2 hb; replace HO_5 := zA (zRb (zq3 HO_5) hb); replace HB := zA (zs.1); have BK105 := zA (hbox); have GW105 := zA (zge hg zs.2); have GE105 := GW105; clear zs hb hbox hg; obtain ⟨hcz10_0, hcz10_1, hcz10_2, hcz10_3, hcz10_4, hfz10_0, hfz10_1, hfz10_2, hfz10_3, hfz10_4⟩ := zd5 BK105; obtain ⟨Ao11, co11, eo11⟩ := Kd.R_slice HO_5.out; subst eo11) | ((with_reducible refine zgc 101 ?_); refine zca 18 Try.func101 #[.agg #[.string ((rd_T64 l0 x12_1).f0), .int .i64 ((rd_T64 l0 x12_1).f1), .int .i64 ((rd_T64 l0 x12_1).f2), .int .i64 ((rd_T64 l0 x12_1).f3), .int .i64 ((rd_T64 l0 x12_1).f4)], .slice Ao11 x5_1.length co11] (spec_cdStep.calls ((rd_T64 l0 x12_1).f0) ((rd_T64 l0 x12_1).f1) ((rd_T64 l0 x12_1).f2) ((rd_T64 l0 x12_1).f3) ((rd_T64 l0 x12_1).f4) _ _ x5_1 t106 _ (by refine (zRr (e := 3) (base := w.heap.size) (ok := fun k_ => True) (n := x5_1.length) (c := co11) ?_).2.2; exact (zq24 HO_5 BK105)) (zq51 HO_5) A8.out) ?_; rintro e w12 ⟨v107, rfl, ho0, hb⟩; refine ⟨_, rfl, ?_⟩; have HO108 := zA (Kd.R_lower (Kd.R_new' ho0 (Kd.R_lt (zq24 HO_5 BK105))) (below_size (zq1 GE105))); replace HO_5 := zA (Kd.R_elder' (zq24 HO_5 BK105) (Kd.R_base ho0) hb); replace BK105 := zA (blk_below (g := gb105) (o := .cells #[.string ((rd_T64 l0 x12_1).f0), .int .i64 ((rd_T64 l0 x12_1).f1), .int .i64 ((rd_T64 l0 x12_1).f2), .int .i64 ((rd_T64 l0 x12_1).f3), .int .i64 ((rd_T64 l0 x12_1).f4)] 64 (0, 0)) (by (with_reducible repeat (first | refine zkn ?_ _ | refine zkd ?_ | refine zka ?_ _)); refine blk_put (cs := #[.string ((rd_T64 l0 x12_1).f0), .int .i64 ((rd_T64 l0 x12_1).f1), .int .i64 ((rd_T64 l0 x12_1).f2), .int .i64 ((rd_T64 l0 x12_1).f3), .int .i64 0]) ?_ 4 _ rfl; (with_reducible repeat (first | refine zkn ?_ _ | refine zkd ?_ | refine zka ?_ _)); refine blk_put (cs := #[.string ((rd_T64 l0 x12_1).f0), .int .i64 ((rd_T64 l0 x12_1).f1), .int .i64 ((rd_T64 l0 x12_1).f2), .int .i64 0, .int .i64 0]) ?_ 3 _ rfl; (with_reducible repeat (first | refine zkn ?_ _ | refine zkd ?_ | refine zka ?_ _)); refine blk_put (cs := #[.string ((rd_T64 l0 x12_1).f0), .int .i64 ((rd_T64 l0 x12_1).f1), .int .i64 0, .int .i64 0, .int .i64 0]) ?_ 2 _ rfl; (with_reducible repeat (first | refine zkn ?_ _ | refine zkd ?_ | refine zka ?_ _)); refine blk_put (cs := #[.string ((rd_T64 l0 x12_1).f0), .int .i64 0, .int .i64 0, .int .i64 0, .int .i64 0]) ?_ 1 _ rfl; (with_reducible repeat (first | refine zkn ?_ _ | refine zkd ?_ | refine zka ?_ _)); refine blk_put (cs := #[.string (⟨#[]⟩ : ByteArray), .int .i64 0, .int .i64 0, .int .i64 0, .int .i64 0]) ?_ 0 _ rfl; (with_reducible repeat (first | refine zkn ?_ _ | refine zkd ?_ | refine zka ?_ _)); exact BK105.out) hb); replace HB := zA (below_step (zq1 GE105) hb); (try clear hb); (try clear hk); (try clear ho0)))
 go_roundg k1
 case measure => have := HK1.out; omega
 case rel => exact ⟨(t106), (wrap64 (x12_1 + 1)), zq5, H', ⟨zq36 HK1⟩, ⟨zq22 HO108⟩, ⟨zq1 GE105⟩⟩
def spec_cdStart.f (a0 : Int) (a1 : Int) : Option (List Int) := if 6 ≤ 35184372088832 then ((some (List.replicate 6 0 : List Int)).bind fun y101 => (if 0 < (y101.length : Int) then (if 1 < (y101.length : Int) then (some ((y101.set (0 : Int).toNat a0).set (1 : Int).toNat a1)) else (none)) else (none))) else (none)
theorem spec_cdStart.calls (a0 : Int) (a1 : Int) (r : List Int) (w : World) (h : spec_cdStart.f a0 a1 = some r) :
   Calls Try.prog 68 #[.int .i64 a0, .int .i64 a1] w fun e w' => ∃ v0_ : Value, e = .returned (v0_) ∧ Kd.R (Kd.int .i64) 3 w' w.heap.size (fun _ => True) v0_ r ∧ Below w.heap.size w w' := by
 have HB := zA (Below.refl w.heap.size w)
 have H : (if 6 ≤ 35184372088832 then ((some (List.replicate 6 0 : List Int)).bind fun y101 => (if 0 < (y101.length : Int) then (if 1 < (y101.length : Int) then (some ((y101.set (0 : Int).toNat a0).set (1 : Int).toNat a1)) else (none)) else (none))) else (none)) = some r := h
 clear h
 by_cases c3 : 6 ≤ 35184372088832
 rotate_left
 · rw [if_neg c3] at H
   exact absurd H (by simp)
 rw [if_pos c3] at H
 have c3b0 := eq_true c3
 have c3b1 := zdt c3
 clear c3
 obtain ⟨y101, hy101⟩ : ∃ y_ : List Int, y_ = (List.replicate 6 0) := ⟨_, rfl⟩
 replace H : (if 0 < (y101.length : Int) then (if 1 < (y101.length : Int) then (some ((y101.set (0 : Int).toNat a0).set (1 : Int).toNat a1)) else (none)) else (none)) = some r := by first | (rw [hy101]; with_reducible exact H) | (have H2_ := (Option.bind_some _ _).symm.trans H; rw [hy101]; with_reducible exact H2_) | (have H2_ := (Option.bind_some _ _).symm.trans H; with_reducible exact H2_) | with_reducible exact H | (rw [hy101]; exact H) | exact H
 have Ny101 := zA hy101
 clear hy101
 by_cases c4 : 0 < (y101.length : Int)
 rotate_left
 · rw [if_neg c4] at H
   exact absurd H (by simp)
 rw [if_pos c4] at H
 have c4b0 := zdt c4
 have c4b1 : decide (0 < y101.length) = true := zdt (by omega)
 clear c4
 obtain ⟨y104, hy104⟩ : ∃ y_ : List Int, y_ = (y101.set (0 : Int).toNat a0) := ⟨_, rfl⟩
 replace H : (if 1 < (y101.length : Int) then (some (y104.set (1 : Int).toNat a1)) else (none)) = some r := by first | (rw [hy104]; with_reducible exact H) | (have H2_ := (Option.bind_some _ _).symm.trans H; rw [hy104]; with_reducible exact H2_) | (have H2_ := (Option.bind_some _ _).symm.trans H; with_reducible exact H2_) | with_reducible exact H | (rw [hy104]; exact H) | exact H
 have Ny104 := zA hy104
 clear hy104
 by_cases c6 : 1 < (y101.length : Int)
 rotate_left
 · rw [if_neg c6] at H
   exact absurd H (by simp)
 rw [if_pos c6] at H
 have c6b0 := zdt c6
 have c6b1 : decide (1 < y101.length) = true := zdt (by omega)
 clear c6
 obtain ⟨y105, hy105⟩ : ∃ y_ : List Int, y_ = (y104.set (1 : Int).toNat a1) := ⟨_, rfl⟩
 replace H : (some y105) = some r := by first | (rw [hy105]; with_reducible exact H) | (have H2_ := (Option.bind_some _ _).symm.trans H; rw [hy105]; with_reducible exact H2_) | (have H2_ := (Option.bind_some _ _).symm.trans H; with_reducible exact H2_) | with_reducible exact H | (rw [hy105]; exact H) | exact H
 have Ny105 := zA hy105
 clear hy105
 obtain rfl := zsi H
 go_enter Try.func68, Try.ntmps68
 go_wp2_with (first | ((with_reducible refine zgd 6 ?_); refine Kd.R_make (Kd.int .i64) _ 3 rfl (N := 6) rfl 24 _ _ rfl 6 rfl rfl Try.underlying24 (.int .i64 0) 8 info3 rfl (by decide) (by omega) 0 (ok := fun _ => True) (okp := fun _ => True) rfl (fun _ hk => hk) trivial (by omega) (by omega) (Below.refl _ _) (zlr _) ?_; intro v102 w8 ho9 hb hg_ hnew_; clear hg_ hnew_; (first | rw [← Ny101.out] at ho9 | (simp only [Int.reduceToNat] at ho9; rw [← Ny101.out] at ho9)); have HO103 := zA (Kd.R_lower ho9 (below_size zq2)); replace HB := zA (below_step zq2 hb); clear hb ho9; have p5 : 0 ≤ (0 : Int) := (by omega); have q5 : (0 : Int) < ((y101.length : Int) : Int) := zde zq11; have qi5 : (0 < y101.length) = True := eq_true (by omega); obtain ⟨go5, co5, eo5, gb5, gl5, cl5, HG5⟩ := Kd.R_form HO103.out (by omega); (first | cases eo5 | (injection eo5 with ea_ en_ ec_; (first | subst ea_ | (injection ea_ with ea_; subst ea_)); subst ec_; clear en_)); have GB5 := zA gb5; have GG5 := zA HG5; clear gb5 gl5 HG5; obtain ⟨hx5_0, hf5_0⟩ := Kd.R_celln 0 HO103.out (0 : Int) p5 q5; (try rw [show ((0 : Int)).toNat = 0 from rfl] at hx5_0); (try simp only [Nat.reduceMul, Nat.zero_mul, Nat.zero_add, Nat.reduceAdd] at hx5_0); (try rw [show ((0 : Int)).toNat = 0 from rfl] at hf5_0); (try simp only [Nat.reduceMul, Nat.zero_mul, Nat.zero_add, Nat.reduceAdd] at hf5_0); replace p5 := eq_true p5; replace q5 := eq_true q5; obtain ⟨hy10_, hz10_⟩ := Kd.R_celln 0 HO103.out (0 : Int) (by omega) (zde zq11); (try simp only [Int.reduceToNat, Int.toNat_zero, Int.toNat_ofNat, Nat.reduceMul, Nat.zero_mul, Nat.zero_add] at hy10_ hz10_); (try rw [show ((0 : Int)).toNat = 0 from rfl] at hy10_); (try rw [show ((0 : Int)).toNat = 0 from rfl] at hz10_); have HP10 := Kd.R_putg HO103.out (0 : Int) a0) | ((with_reducible refine zgs 3 9 ?_); refine zse (w8.setCell ⟨go5, (0 : Int).toNat, none⟩ (.int .i64 a0)) ?_; intro w11 hw; have hg : w8.grownBy w11 (some go5) := (by rw [hw]; exact HP10.2); have hp_ : Kd.R (Kd.int .i64) 3 w11 w.heap.size (fun _ => True) (.slice (some ⟨go5, 0, none⟩) y101.length co5) y104 := (by rw [hw, Ny104.out]; exact HP10.1); clear HP10; replace HO103 := zA (hp_); replace HB := zA ((zq50 GB5 : Below w.heap.size w w11)); clear hg hw hp_; have p7 : 0 ≤ (1 : Int) := (by omega); have q7 : (1 : Int) < ((y101.length : Int) : Int) := zde zq11; have qi7 : (1 < y101.length) = True := eq_true (by omega); obtain ⟨hx7_0, hf7_0⟩ := Kd.R_celln 0 HO103.out (1 : Int) p7 q7; (try rw [show ((1 : Int)).toNat = 1 from rfl] at hx7_0); (try simp only [Nat.reduceMul, Nat.zero_mul, Nat.zero_add, Nat.reduceAdd] at hx7_0); (try rw [show ((1 : Int)).toNat = 1 from rfl] at hf7_0); (try simp only [Nat.reduceMul, Nat.zero_mul, Nat.zero_add, Nat.reduceAdd] at hf7_0); replace p7 := eq_true p7; replace q7 := eq_true q7; obtain ⟨hy12_, hz12_⟩ := Kd.R_celln 0 HO103.out (1 : Int) (by omega) (zde zq11); (try simp only [Int.reduceToNat, Int.toNat_zero, Int.toNat_ofNat, Nat.reduceMul, Nat.zero_mul, Nat.zero_add] at hy12_ hz12_); (try rw [show ((1 : Int)).toNat = 1 from rfl] at hy12_); (try rw [show ((1 : Int)).toNat = 1 from rfl] at hz12_); have HP12 := Kd.R_putg HO103.out (1 : Int) a1) | ((with_reducible refine zgs 3 12 ?_); refine zse (w11.setCell ⟨go5, (1 : Int).toNat, none⟩ (.int .i64 a1)) ?_; intro w13 hw; have hg : w11.grownBy w13 (some go5) := (by rw [hw]; exact HP12.2); have hp_ : Kd.R (Kd.int .i64) 3 w13 w.heap.size (fun _ => True) (.slice (some ⟨go5, 0, none⟩) y101.length co5) y105 := (by rw [hw, Ny105.out]; exact HP12.1); clear HP12; replace HO103 := zA (hp_); replace HB := zA ((zq50 GB5 : Below w.heap.size w w13)); clear hg hw hp_))
 go_ret
 exact ⟨_, zq4, zq3 HO103, zq2⟩
def spec_exOne.f (a0 : ByteArray) : Option (Bool) := if a0.toList = ([110, 111, 116] : List UInt8) then (some true) else (some (a0.toList == ([110, 101, 103] : List UInt8)))
theorem spec_exOne.calls (a0 : ByteArray) (r : Bool) (w : World) (h : spec_exOne.f a0 = some r) :
   Calls Try.prog 95 #[.string a0] w fun e w' => e = .returned (.bool r) ∧ Drawn0 w w' := by
 have H : (if a0.toList = ([110, 111, 116] : List UInt8) then (some true) else (some (a0.toList == ([110, 101, 103] : List UInt8)))) = some r := h
 clear h
 by_cases c2 : a0.toList = ([110, 111, 116] : List UInt8)
 · rw [if_pos c2] at H
   obtain ⟨c2b0, c2b1⟩ := zbe c2
   clear c2
   obtain rfl := zsi H
   go_enter Try.func95, Try.ntmps95
   exact zr_1
 · rw [if_neg c2] at H
   obtain ⟨c2b0, c2b1⟩ := zbq c2
   obtain rfl := zsi H
   go_enter Try.func95, Try.ntmps95
   exact zr_1
end Go.Proofs.Ytnaafcleafbejaa.Q
end
