/- Proved here: contracts of functions that the law FnSchedules reaches, and lemmas on what they compute; texts of this session and the printed words of the kit that they lean on, cut down and put together by its program link.py. Conditions: as each states. -/
import Derived.Laws.BitsLemmas
import Derived.Test.YtabnafbgcpchdaaGreatZFnSchedules1
import Derived.Test.YtabnafbgcpchdaaGreatZFnSchedules2
import Derived.Test.YtabnafbgcpchdaaGreatZFnSchedules3
import Derived.Test.YtabnafbgcpchdaaGreatZFnSchedules4
import Derived.Test.YtabnafbgcpchdaaGreatZFnSchedules5
section
namespace Go.Proofs.YtabnafbgcpchdaaGreat.PL
open Go Go.RowKit Go.Proofs.YtabnafbgcpchdaaGreatW.PrintWords Go.Proofs.YtabnafbgcpchdaaGreatW.PrintLast Go.Proofs.YtabnafbgcpchdaaGreatW.PrintMore Go.Proofs.YtabnafbgcpchdaaGreat.Q
set_option linter.unusedSimpArgs false
set_option linter.unusedVariables false
def wbR (l : List Instr) (w : Int) : Int × Bool := if zfk l = true ∧ 1 ≤ w ∧ w ≤ 3 then (wbM l (eaL l l.length) w l.length, true) else (0, false)
theorem mn_eq (a b : Int) : mn a b = min a b := by unfold mn; omega
theorem zw0 (l : List Instr) (w : Int) (hl : l.length ≤ 1048576) : Ev (fun k => zfr k l w) (wbR l w) := by
  unfold zfr
  refine Ev.bind (zlk l) ?_
  unfold wbR
  by_cases h : zfk l = true
  · obtain ⟨h1, h2⟩ := zie h
    have hw : zf8 w = some (decide (1 ≤ w ∧ w ≤ 3)) := by
      unfold zf8
      rw [znr]
      rfl
    refine zac h (Ev.call hw (zai (fun k => by simp only [zd3]; rfl) ?_))
    by_cases hq : 1 ≤ w ∧ w ≤ 3
    · rw [if_pos ⟨h, hq⟩]
      refine zaq (by simp [hq]) (Ev.bind (ztx l h1) ?_)
      rw [zi7]
      have inner : ∀ (m : Int) (i : Nat) (c : Int) (T : Int × Bool), Ev (fun k => zcv k l w (max m (wbQ w c (wbC l (eaL l l.length) c l.length))) (eaL l l.length) (eaL l l.length) l.length (wrap64 ((i : Int) + 1))) T →
          ∀ (d u : Nat), u + d = l.length → Ev (fun k => zcw k l w m (eaL l l.length) c (wbC l (eaL l l.length) c u).1 (wbC l (eaL l l.length) c u).2 (eaL l l.length) l.length i l l.length u) T := by
        intro m i c T hc d
        induction d with
        | zero =>
          intro u hu
          obtain rfl : u = l.length := by omega
          refine zai (fun k => by simp only [zcw]; rfl) (zaq (by omega) (zaq (by omega) ?_))
          rw [yb0]
          exact hc
        | succ d ih =>
          intro u hu
          have next := ih (u + 1) (by omega)
          unfold wbC at next
          refine zai (fun k => by simp only [zcw]; rfl) (zac (by omega) (zac (by omega) (zac (by omega) (zac (by rw [zi7]; omega) ?_))))
          rw [ztw, w64n u (by omega)]
          by_cases hd : rd (eaL l l.length) u ≥ c
          · rw [if_pos hd] at next
            refine zac hd (Ev.call (zvh (l.getD u zI)) ?_)
            rw [mn_eq]
            exact next
          · rw [if_neg hd] at next
            exact zaq hd next
      have key : ∀ (d i : Nat), i + d = l.length → Ev (fun k => zcv k l w (wbM l (eaL l l.length) w i) (eaL l l.length) (eaL l l.length) l.length i) (wbM l (eaL l l.length) w l.length, true) := by
        intro d
        induction d with
        | zero =>
          intro i hi
          obtain rfl : i = l.length := by omega
          refine zai (f := fun _ => some (wbM l (eaL l l.length) w l.length, true)) (fun k => ?_) (Ev.now _)
          simp only [zcv]
          rw [if_neg (by omega)]
        | succ d ih =>
          intro i hi
          have next := ih (i + 1) (by omega)
          refine zai (fun k => by simp only [zcv]; rfl) (zac (by omega) (zac (by omega) (zac (by rw [zi7]; omega) ?_)))
          refine inner (wbM l (eaL l l.length) w i) i (rd (eaL l l.length) i) _ ?_ l.length 0 (by omega)
          rw [w64n i (by omega)]
          exact next
      exact key l.length 0 (by omega)
    · rw [if_neg (fun q => hq q.2)]
      exact zac (by simp [hq]) (Ev.now _)
  · rw [if_neg (fun q => h q.1)]
    refine zaq h (zai (fun k => by simp only [zd3]; rfl) ?_)
    exact zac trivial (Ev.now _)
theorem ya2 (l : List Instr) (w : Int) (hl : l.length ≤ 1048576) : Ev (fun k => zgm k l w) (wbR l w) := by
  unfold zgm
  refine Ev.bind (zr0 l) ?_
  unfold wbR
  by_cases h : zfk l = true
  · obtain ⟨h1, h2⟩ := zie h
    have hw : zgf w = some (decide (1 ≤ w ∧ w ≤ 3)) := by
      unfold zgf
      rw [zqu]
      rfl
    refine zac h (Ev.call hw ?_)
    by_cases hq : 1 ≤ w ∧ w ≤ 3
    · rw [if_pos ⟨h, hq⟩]
      refine zac (by simp [hq]) (Ev.bind (a := wbM l (eaL l l.length) w l.length) ?_ (Ev.now _))
      unfold ziy
      refine Ev.bind (zvl l h1 h2) ?_
      rw [zi7]
      have inner : ∀ (m : Int) (i : Nat) (c : Int) (T : Int), Ev (fun k => zd8 k l w (eaL l l.length) (max m (wbQ w c (wbC l (eaL l l.length) c l.length))) (eaL l l.length) l.length (wrap64 ((i : Int) + 1))) T →
          ∀ (d u : Nat), u + d = l.length → Ev (fun k => zd9 k l w (eaL l l.length) m c (wbC l (eaL l l.length) c u).1 (wbC l (eaL l l.length) c u).2 (eaL l l.length) l.length i l l.length u) T := by
        intro m i c T hc d
        induction d with
        | zero =>
          intro u hu
          obtain rfl : u = l.length := by omega
          exact zai (fun k => by simp only [zd9]; rfl) (zaq (by omega) (zaq (by omega) (Ev.call (zxw _ _) hc)))
        | succ d ih =>
          intro u hu
          have next := ih (u + 1) (by omega)
          unfold wbC at next
          refine zai (fun k => by simp only [zd9]; rfl) (zac (by omega) (zac (by omega) (zac (by omega) (zac (by rw [zi7]; omega) ?_))))
          rw [ztw, w64n u (by omega)]
          by_cases hd : rd (eaL l l.length) u ≥ c
          · rw [if_pos hd] at next
            have ho := okAt (P := okI) l u (by omega) h2
            exact zac hd (Ev.call (zry _ ho.1) (Ev.call (yb3 _ _) next))
          · rw [if_neg hd] at next
            exact zaq hd next
      have key : ∀ (d i : Nat), i + d = l.length → Ev (fun k => zd8 k l w (eaL l l.length) (wbM l (eaL l l.length) w i) (eaL l l.length) l.length i) (wbM l (eaL l l.length) w l.length) := by
        intro d
        induction d with
        | zero =>
          intro i hi
          obtain rfl : i = l.length := by omega
          refine zai (f := fun _ => some (wbM l (eaL l l.length) w l.length)) (fun k => ?_) (Ev.now _)
          simp only [zd8]
          rw [if_neg (by omega)]
        | succ d ih =>
          intro i hi
          have next := ih (i + 1) (by omega)
          refine zai (fun k => by simp only [zd8]; rfl) (zac (by omega) (zac (by omega) (zac (by rw [zi7]; omega) ?_)))
          refine inner (wbM l (eaL l l.length) w i) i (rd (eaL l l.length) i) _ ?_ l.length 0 (by omega)
          rw [w64n i (by omega)]
          exact next
      exact key l.length 0 (by omega)
    · rw [if_neg (fun q => hq q.2)]
      exact zaq (by simp [hq]) (Ev.now _)
  · rw [if_neg (fun q => h q.1)]
    exact zaq h (Ev.now _)
end Go.Proofs.YtabnafbgcpchdaaGreat.PL
end
section
namespace Go.Proofs.YtabnafbgcpchdaaGreat.PL
open Go Go.RowKit Go.Proofs.YtabnafbgcpchdaaGreatW.PrintWords Go.Proofs.YtabnafbgcpchdaaGreatW.PrintLast Go.Proofs.YtabnafbgcpchdaaGreatW.PrintMore Go.Proofs.YtabnafbgcpchdaaGreat.Q
set_option linter.unusedSimpArgs false
set_option linter.unusedVariables false
set_option linter.unusedSectionVars false
section
variable (l : List Instr) (hl : l.length ≤ 7) (w : Nat) (len : Int) (hlen : 0 ≤ len ∧ len ≤ 1000)
include hl hlen
end
end Go.Proofs.YtabnafbgcpchdaaGreat.PL
end
section
namespace Go.Proofs.YtabnafbgcpchdaaGreat.PL
open Go Go.RowKit Go.Proofs.YtabnafbgcpchdaaGreatW.PrintWords Go.Proofs.YtabnafbgcpchdaaGreatW.PrintLast Go.Proofs.YtabnafbgcpchdaaGreatW.PrintMore Go.Proofs.YtabnafbgcpchdaaGreat.Q
set_option linter.unusedSimpArgs false
set_option linter.unusedVariables false
theorem zx0 (l : List Instr) (c : List Int) (h1 : l.length ≤ 20) (h2 : ∀ x ∈ l, okI x) (h3 : c.length = l.length) (h4 : ∀ n ∈ c, 0 ≤ n ∧ n ≤ 100) : Ev (fun k => zhc k l c) (lenM l c 0) := by
  have key : ∀ (d i : Nat) (m : Int), i + d = l.length → Ev (fun k => zdn k c m l l.length i) (lenM (l.drop i) (c.drop i) m) := by
    intro d
    induction d with
    | zero =>
      intro i m hi
      refine zai (f := fun _ => some m) (fun k => ?_) (Ev.some ?_)
      · simp only [zdn]
        rw [if_neg (by omega)]
      · rw [List.drop_of_length_le (by omega)]
        rfl
    | succ d ih =>
      intro i m hi
      have hlt : i < l.length := by omega
      have hltc : i < c.length := by omega
      have e : l.drop i = l[i] :: l.drop (i + 1) := List.drop_eq_getElem_cons hlt
      have ec : c.drop i = c[i] :: c.drop (i + 1) := List.drop_eq_getElem_cons hltc
      have hx := zrx (zhm l i hlt)
      have hn := znq (zhm c i hltc)
      have hb := h4 c[i] (List.getElem_mem hltc)
      have hk := zp8 (cls l[i].f0)
      rw [e, ec]
      refine zai (fun k => ?_) (ih (i + 1) _ (by omega))
      simp only [zdn]
      rw [if_pos (by omega), if_pos (by omega), if_pos (by omega), if_pos (by omega), hx, hn, zvh, Option.bind_some, w64n i (by omega), w64 (by omega) (by omega)]
      rfl
  unfold zhc
  simpa using key l.length 0 0 (by omega)
theorem zx1 (l : List Instr) (c : List Int) (h1 : l.length ≤ 20) (h2 : ∀ x ∈ l, okI x) (h3 : c.length = l.length) (h4 : ∀ n ∈ c, 0 ≤ n ∧ n ≤ 100) : Ev (fun k => zhf k l c) (lenM l c 0) := by
  have key : ∀ (d i : Nat) (m : Int), i + d = l.length → Ev (fun k => zd2 k c m l l.length i) (lenM (l.drop i) (c.drop i) m) := by
    intro d
    induction d with
    | zero =>
      intro i m hi
      refine zai (f := fun _ => some m) (fun k => ?_) (Ev.some ?_)
      · simp only [zd2]
        rw [if_neg (by omega)]
      · rw [List.drop_of_length_le (by omega)]
        rfl
    | succ d ih =>
      intro i m hi
      have hlt : i < l.length := by omega
      have hltc : i < c.length := by omega
      have e : l.drop i = l[i] :: l.drop (i + 1) := List.drop_eq_getElem_cons hlt
      have ec : c.drop i = c[i] :: c.drop (i + 1) := List.drop_eq_getElem_cons hltc
      have hx := zrx (zhm l i hlt)
      have hn := znq (zhm c i hltc)
      have hb := h4 c[i] (List.getElem_mem hltc)
      have hk := zp8 (cls l[i].f0)
      rw [e, ec]
      refine zai (fun k => ?_) (ih (i + 1) _ (by omega))
      simp only [zd2]
      rw [if_pos (by omega), if_pos (by omega), if_pos (by omega), if_pos (by omega), hx, hn, zry _ (h2 l[i] (List.getElem_mem hlt)).1, Option.bind_some, w64n i (by omega), w64 (by omega) (by omega)]
      have hm : zfg m (c[i] + zjf (cls l[i].f0)) = some (if m < c[i] + zjf (cls l[i].f0) then c[i] + zjf (cls l[i].f0) else m) := by
        unfold zfg
        by_cases hq : m < c[i] + zjf (cls l[i].f0)
        · rw [if_pos hq, if_neg (by omega)]
        · rw [if_neg hq]
          by_cases hq' : m > c[i] + zjf (cls l[i].f0)
          · rw [if_pos hq']
          · rw [if_neg hq']
            congr 1
            omega
      rw [hm, Option.bind_some]
  unfold zhf
  simpa using key l.length 0 0 (by omega)
theorem zh2 {l : List Instr} {c : List Int} (h : zhv l c = true) : l.length ≤ 20 ∧ (∀ x ∈ l, okI x) ∧ c.length = l.length ∧ ∀ n ∈ c, 0 ≤ n ∧ n ≤ 100 := by
  unfold zhv zfk at h
  simp only [Bool.and_eq_true, decide_eq_true_eq, List.all_eq_true] at h
  exact ⟨h.1.1.1, h.1.1.2, h.1.2, h.2⟩
def lenR (l : List Instr) (c : List Int) : Int × Bool := if zhv l c = true then (lenM l c 0, true) else (0, false)
theorem zr3 (l : List Instr) (c : List Int) (hc : c.length ≤ 1048576) : Ev (fun k => zga k l c) (lenR l c) := by
  unfold zga lenR
  refine Ev.bind (zp1 l c hc) ?_
  by_cases h : zhv l c = true
  · rw [if_pos h]
    exact zac h (Ev.bind (zx0 l c (zh2 h).1 (zh2 h).2.1 (zh2 h).2.2.1 (zh2 h).2.2.2) (Ev.now _))
  · rw [if_neg h]
    exact zaq h (Ev.now _)
theorem zvs (l : List Instr) (c : List Int) (hc : c.length ≤ 1048576) : Ev (fun k => zhg k l c) (lenR l c) := by
  unfold zhg lenR
  refine Ev.bind (zt1 l c hc) ?_
  by_cases h : zhv l c = true
  · rw [if_pos h]
    exact zac h (Ev.bind (zx1 l c (zh2 h).1 (zh2 h).2.1 (zh2 h).2.2.1 (zh2 h).2.2.2) (Ev.now _))
  · rw [if_neg h]
    exact zaq h (Ev.now _)
def lsR (l : List Instr) (a : Int) : List Int × Bool := if zfk l = true ∧ (1 ≤ a ∧ a ≤ 3) then (lsL l a.toNat, true) else ([], false)
theorem ya3 (l : List Instr) (a : Int) : (lsR l a).1.length ≤ 20 := by
  unfold lsR
  split
  · rename_i h
    have := (zie h.1).1
    show (lsL l a.toNat).length ≤ 20
    rw [zvo]
    exact this
  · exact Nat.zero_le _
theorem ya4 (l : List Instr) (a : Int) (hl : l.length ≤ 1048576) : Ev (fun k => zez k l a) (lsR l a) := by
  have no : ∀ R, lsR l a = R → R = ([], false) → Ev (fun k => zcs k l a true) R := fun R _ h => by
    subst h
    exact zai (fun k => by simp only [zcs]; rfl) (zac trivial (Ev.now _))
  unfold zez
  refine Ev.bind (zlk l) ?_
  by_cases h : zfk l = true
  · obtain ⟨h1, h2⟩ := zie h
    refine zac h (Ev.call (show zf8 a = some (decide (1 ≤ a ∧ a ≤ 3)) from by unfold zf8; rw [znr]; rfl) ?_)
    by_cases ha : 1 ≤ a ∧ a ≤ 3
    · rw [decide_eq_true ha]
      refine zai (fun k => by simp only [zcs]; rfl) (zaq (by decide) (Ev.bind (zpy l (by omega)) (Ev.bind (zyt l h1) (Ev.call (zwj l.length (by omega)) ?_))))
      obtain ⟨n, rfl⟩ := Int.eq_ofNat_of_zero_le (show 0 ≤ a by omega)
      rw [show lsR l n = (lsL l n, true) from if_pos ⟨h, ha⟩]
      exact yfb l h1 _ (yaj l) n (by omega) 83 0 _ _ _ (zt0 l) (by omega) (by omega) (by omega)
    · rw [decide_eq_false ha]
      exact no _ rfl (if_neg (fun q => ha q.2))
  · exact zaq h (no _ rfl (if_neg (fun q => h q.1)))
theorem zw1 (l : List Instr) (a : Int) (hl : l.length ≤ 1048576) : Ev (fun k => zeh k l a) (lsR l a) := by
  unfold zeh
  refine Ev.bind (zr0 l) ?_
  by_cases h : zfk l = true
  · obtain ⟨h1, h2⟩ := zie h
    refine zac h (Ev.call (show zgf a = some (decide (1 ≤ a ∧ a ≤ 3)) from by unfold zgf; rw [zqu]; rfl) ?_)
    by_cases ha : 1 ≤ a ∧ a ≤ 3
    · obtain ⟨n, rfl⟩ := Int.eq_ofNat_of_zero_le (show 0 ≤ a by omega)
      rw [show lsR l n = (lsL l n, true) from if_pos ⟨h, ha⟩]
      exact zac (decide_eq_true ha) (Ev.bind (yak l h1 h2 n (by omega)) (Ev.now _))
    · rw [show lsR l a = ([], false) from if_neg (fun q => ha q.2)]
      exact zaq (by rw [decide_eq_false ha]; decide) (Ev.now _)
  · rw [show lsR l a = ([], false) from if_neg (fun q => h q.1)]
    exact zaq h (Ev.now _)
def ioR (l : List Instr) (o : List Int) : Bool × Bool := if zfk l = true then (ordB l o, true) else (false, false)
theorem ya5 (l : List Instr) (o : List Int) (hl : l.length ≤ 1048576) (ho : o.length ≤ 1048576) : Ev (fun k => zhx k l o) (ioR l o) := by
  unfold zhx
  refine Ev.bind (zlk l) ?_
  unfold ioR
  by_cases h : zfk l = true
  · rw [if_pos h]
    refine zac h (Ev.bind (zzj l hl o ho) (Ev.now _))
  · rw [if_neg h]
    exact zaq h (Ev.now _)
theorem zw2 {l : List Instr} {w : Nat} {C : List Int} (hb : zfk l = true) (h : Sch l w C) (h1 : ∀ j, j < l.length → C.getD j 0 ≤ 100) : zhv l C = true := by
  unfold zhv
  rw [hb, decide_eq_true h.len, Bool.true_and, Bool.true_and, List.all_eq_true]
  intro x hx
  obtain ⟨j, hj, rfl⟩ := List.getElem_of_mem hx
  have hl := h.len
  have h2 := h.nn j (by omega)
  have h3 := h1 j (by omega)
  rw [zhm C j hj 0] at h2 h3
  exact decide_eq_true ⟨h2, h3⟩
theorem ycd (l : List Instr) (n : Int) (h0 : 0 ≤ n) : negB (laL l n l.length l.length) = false ↔ (hts l l.length).foldl max 0 ≤ n := by
  unfold negB
  rw [List.any_eq_false]
  constructor
  · intro h
    refine yd1 l n h0 (fun j hj => ?_)
    have hlt : j < (laL l n l.length l.length).length := by rw [zlb]; exact hj
    have h1 := h _ (List.getElem_mem hlt)
    rw [← zhm (laL l n l.length l.length) j hlt 0, zp0 l n j hj, decide_eq_true_eq] at h1
    omega
  · intro h x hx
    obtain ⟨j, hj, rfl⟩ := List.getElem_of_mem hx
    rw [zlb] at hj
    have h1 := yd0 l j hj
    rw [← zhm (laL l n l.length l.length) j _ 0, zp0 l n j hj, decide_eq_true_eq]
    omega
end Go.Proofs.YtabnafbgcpchdaaGreat.PL
end
section
namespace Go.Proofs.YtabnafbgcpchdaaGreat.PL
open Go Go.RowKit Go.Proofs.YtabnafbgcpchdaaGreatW.PrintWords Go.Proofs.YtabnafbgcpchdaaGreatW.PrintLast Go.Proofs.YtabnafbgcpchdaaGreatW.PrintMore Go.Proofs.YtabnafbgcpchdaaGreat.Q
set_option linter.unusedSimpArgs false
set_option linter.unusedVariables false
set_option linter.unusedSectionVars false
theorem ya6 (n : Int) : bits .and .u64 n 255 = n % 256 := by
  have h255 : (BitVec.ofInt 64 255).toNat = 2 ^ 8 - 1 := by decide
  have key : (BitVec.ofInt 64 n &&& BitVec.ofInt 64 255).toNat = (n % ((2 ^ 64 : Nat) : Int)).toNat % 2 ^ 8 := by
    rw [BitVec.toNat_and, BitVec.toNat_ofInt, h255, Nat.and_two_pow_sub_one_eq_mod]
  show IntKind.u64.wrap ((BitVec.ofInt 64 n &&& BitVec.ofInt 64 255).toNat : Nat) = n % 256
  rw [key, IntKind.wrap_u64]
  omega
def okB (C : List Int) : Prop := ∀ x ∈ C, 0 ≤ x ∧ x ≤ 255
theorem yc6 {C : List Int} (h : Rd.okSl (Rd.okInt .u8) C) : okB C := fun x hx => by
  have h1 : (Lit.int .u8 x).wf = true := h.2 x hx
  unfold Lit.wf at h1
  rw [Bool.and_eq_true, decide_eq_true_eq, decide_eq_true_eq] at h1
  exact h1
theorem yfh {C : List Int} (h : okB C) (i : Int) : 0 ≤ rd C i ∧ rd C i ≤ 255 := by
  unfold rd
  rw [List.getD_eq_getElem?_getD]
  cases e : C[i.toNat]? with
  | none => exact ⟨Int.le_refl _, by decide⟩
  | some x => exact h x (List.mem_of_getElem? e)
section
variable {C : List Int} (hC : okB C)
include hC
theorem ya7 (a s : Int) (h0 : 0 ≤ a) (h1 : a ≤ 1152921504606846976) : ∃ v s', zh6 C a s = some (v, a + 1, s') ∧ 0 ≤ v ∧ v ≤ 255 := by
  have hb := yfh hC a
  unfold zh6
  rw [w64 (x := a + 1) (by omega) (by omega), w64 (x := rd C a) (by omega) (by omega)]
  simp only [ya6]
  by_cases q : a < (C.length : Int)
  · rw [if_pos q, if_pos h0]
    by_cases q2 : a + 1 ≤ (C.length : Int)
    · rw [if_pos q2]
      exact ⟨_, _, rfl, hb.1, hb.2⟩
    · omega
  · rw [if_neg q, if_neg (by omega)]
    refine ⟨_, _, rfl, ?_⟩
    generalize IntKind.u64.wrap _ / 1099511627776 = y
    rw [w64 (by omega) (by omega)]
    omega
theorem zkl (a s n : Int) (h0 : 0 ≤ a) (h1 : a ≤ 1152921504606846970) : ∃ v a' s', zbu C a s n = some (v, a', s') ∧ (0 ≤ v ∧ (v < n ∨ v = 0)) ∧ a ≤ a' ∧ a' ≤ a + 2 := by
  unfold zbu
  by_cases q : n ≤ 1
  · rw [if_pos q]
    exact ⟨0, a, s, rfl, ⟨Int.le_refl _, .inr rfl⟩, Int.le_refl _, by omega⟩
  · rw [if_neg q]
    obtain ⟨v, s1, e, v0, v1⟩ := ya7 hC a s h0 (by omega)
    rw [e, Option.bind_some]
    by_cases q2 : n > 200
    · obtain ⟨u, s2, e2, u0, u1⟩ := ya7 hC (a + 1) s1 (by omega) (by omega)
      rw [if_pos q2]
      simp only [e2, Option.bind_some]
      rw [if_neg (by omega), w64 (x := v * 256) (by omega) (by omega), w64 (x := v * 256 + u) (by omega) (by omega)]
      exact ⟨Int.tmod (v * 256 + u) n, a + 1 + 1, s2, rfl, ⟨Int.tmod_nonneg _ (by omega), .inl (Int.tmod_lt_of_pos _ (by omega))⟩, by omega, by omega⟩
    · rw [if_neg q2, if_neg (by omega)]
      exact ⟨Int.tmod v n, a + 1, s1, rfl, ⟨Int.tmod_nonneg _ v0, .inl (Int.tmod_lt_of_pos _ (by omega))⟩, by omega, by omega⟩
theorem zsu (a s n : Int) (h0 : 0 ≤ a) (h1 : a ≤ 1152921504606846970) : ∃ (v : Bool) (a' s' : Int), ze9 C a s n = some (v, a', s') ∧ a ≤ a' ∧ a' ≤ a + 2 := by
  obtain ⟨v, a', s', e, _, h2, h3⟩ := zkl hC a s n h0 h1
  unfold ze9
  rw [e]
  exact ⟨_, _, _, rfl, h2, h3⟩
theorem zo6 (a s : Int) (l : List Int) (hl : 0 < l.length) (h0 : 0 ≤ a) (h1 : a ≤ 1152921504606846970) : ∃ v a' s', zco C a s l = some (v, a', s') ∧ v ∈ l ∧ a ≤ a' ∧ a' ≤ a + 2 := by
  obtain ⟨v, a', s', e, ⟨v0, v1⟩, h2, h3⟩ := zkl hC a s l.length h0 h1
  unfold zco
  rw [e, Option.bind_some, if_pos v0, if_pos (by omega)]
  have hv : v.toNat < l.length := by omega
  refine ⟨_, _, _, rfl, ?_, h2, h3⟩
  show rd l v ∈ l
  unfold rd
  rw [zhm l _ hv]
  exact List.getElem_mem hv
theorem yfi (a s : Int) (l : List ByteArray) (hl : 0 < l.length) (h0 : 0 ≤ a) (h1 : a ≤ 1152921504606846970) : ∃ v a' s', zi4 C a s l = some (v, a', s') ∧ a ≤ a' ∧ a' ≤ a + 2 := by
  obtain ⟨v, a', s', e, ⟨v0, v1⟩, h2, h3⟩ := zkl hC a s l.length h0 h1
  unfold zi4
  rw [e, Option.bind_some, if_pos v0, if_pos (by omega)]
  exact ⟨_, _, _, rfl, h2, h3⟩
theorem yd7 (a s : Int) (h0 : 0 ≤ a) (h1 : a ≤ 1152921504606846960) : ∃ v a' s', zi5 C a s = some (v, a', s') ∧ a ≤ a' ∧ a' ≤ a + 4 := by
  obtain ⟨b, a1, s1, e1, h2, h3⟩ := zsu hC a s 2 h0 (by omega)
  unfold zi5
  rw [e1, Option.bind_some]
  cases b with
  | true =>
    obtain ⟨v, a2, s2, e2, _, h4, h5⟩ := zo6 hC a1 s1 [0, 1, 2, 3, 4, 5, 6, 7, 8, 16, 31, 32, 33, 62, 63] (by decide) (by omega) (by omega)
    refine ⟨v, a2, s2, ?_, by omega, by omega⟩
    show (if true = true then _ else _) = _
    rw [if_pos rfl, e2]
    rfl
  | false =>
    obtain ⟨v, a2, s2, e2, _, h4, h5⟩ := zkl hC a1 s1 64 (by omega) (by omega)
    refine ⟨v, a2, s2, ?_, by omega, by omega⟩
    show (if false = true then _ else _) = _
    rw [if_neg (by decide), e2]
    rfl
theorem zzo (s : ByteArray) : ∃ b, Ev (fun k => zi9 k s) b := by
  have h : ∀ l : List ByteArray, l.length ≤ 1048576 → Ev (fun k => zis k l s) (l.any fun y => decide (y = s)) := fun l hl => by
    unfold zis
    refine zrw (σ := Unit) l (fun k _ i => ze8 k s l l.length i) (fun r _ => r.any fun y => decide (y = s)) (fun _ => ?_) (fun i _ x rest hi hx ih => ?_) ()
    · refine zai (f := fun _ => some false) (fun k => ?_) (Ev.now _)
      simp only [ze8]
      rw [if_neg (by omega)]
    · refine zai (fun k => by simp only [ze8, ydt hx, ycq]; rfl) (zac (by omega) (zac (by omega) (zac (by omega) ?_)))
      by_cases q : x = s
      · exact zac q (Ev.some (by simp [q]))
      · refine zaq q ?_
        rw [w64n i (by omega)]
        refine zpi (ih ()) ?_
        simp [q]
  unfold zi9
  exact ⟨_, Ev.bind (h _ (by decide)) (Ev.now _)⟩
theorem zvt (a s r : Int) (h0 : 0 ≤ a) (h1 : a ≤ 1152921504606846900) : ∃ (o : ByteArray) (d x y m a' s' : Int), Ev (fun k => zeb k C a s r) (o, d, x, y, m, a', s') ∧ a ≤ a' ∧ a' ≤ a + 16 := by
  have last : ∀ (o u : ByteArray) (lo hi d x y m a s : Int), 0 ≤ a → a ≤ 1152921504606846950 → ∃ (o' : ByteArray) (d' x' y' m' a' s' : Int), Ev (fun k => zcq k o lo hi C a s u d x y m) (o', d', x', y', m', a', s') ∧ a ≤ a' ∧ a' ≤ a + 6 := by
    intro o u lo hi d x y m a s h0 h1
    obtain ⟨b, hb⟩ := zzo hC o
    cases b with
    | false => exact ⟨u, d, x, y, m, a, s, zai (fun k => by simp only [zcq]; rfl) (Ev.bind hb (zaq Bool.false_ne_true (Ev.now _))), Int.le_refl _, by omega⟩
    | true =>
      obtain ⟨v, a1, s1, e1, _, h2, h3⟩ := zkl hC a s (wrap64 ((wrap64 (hi - lo)) + 1)) h0 (by omega)
      by_cases q : hi = 63
      · obtain ⟨v2, a2, s2, e2, h4, h5⟩ := yd7 hC a1 s1 (by omega) (by omega)
        refine ⟨u, d, x, y, v2, a2, s2, zai (fun k => by simp only [zcq]; rfl) (Ev.bind hb (zac rfl (Ev.call e1 (zac q ?_)))), by omega, by omega⟩
        exact Ev.call e2 (Ev.some rfl)
      · exact ⟨u, d, x, y, wrap64 (lo + v), a1, s1, zai (fun k => by simp only [zcq]; rfl) (Ev.bind hb (zac rfl (Ev.call e1 (zaq q (Ev.some rfl))))), by omega, by omega⟩
  have mid : ∀ (r : Int) (o u : ByteArray) (b : Bool) (lo hi d x y m a s : Int), 0 ≤ a → a ≤ 1152921504606846940 → ∃ (o' : ByteArray) (d' x' y' m' a' s' : Int), Ev (fun k => zc2 k r o b lo hi C a s u d x y m) (o', d', x', y', m', a', s') ∧ a ≤ a' ∧ a' ≤ a + 8 := by
    intro r o u b lo hi d x y m a s h0 h1
    cases b with
    | false =>
      obtain ⟨o', d', x', y', m', a', s', h, h2, h3⟩ := last o u lo hi d x y m a s h0 (by omega)
      exact ⟨o', d', x', y', m', a', s', zai (fun k => by simp only [zc2]; rfl) (zaq Bool.false_ne_true h), h2, by omega⟩
    | true =>
      obtain ⟨v, a1, s1, e1, _, h4, h5⟩ := zkl hC a s r h0 (by omega)
      obtain ⟨o', d', x', y', m', a', s', h, h2, h3⟩ := last o u lo hi d x v m a1 s1 (by omega) (by omega)
      refine ⟨o', d', x', y', m', a', s', zai (fun k => by simp only [zc2]; rfl) ?_, by omega, by omega⟩
      exact zac trivial (Ev.call e1 h)
  unfold zeb
  have q21 : 0 < ([(⟨#[115, 101, 116]⟩ : ByteArray), (⟨#[109, 111, 118]⟩ : ByteArray), (⟨#[110, 111, 116]⟩ : ByteArray), (⟨#[110, 101, 103]⟩ : ByteArray), (⟨#[97, 100, 100]⟩ : ByteArray), (⟨#[97, 100, 100]⟩ : ByteArray), (⟨#[115, 117, 98]⟩ : ByteArray), (⟨#[97, 110, 100]⟩ : ByteArray), (⟨#[111, 114]⟩ : ByteArray), (⟨#[120, 111, 114]⟩ : ByteArray), (⟨#[115, 104, 108]⟩ : ByteArray), (⟨#[115, 104, 114]⟩ : ByteArray), (⟨#[108, 101, 115, 115]⟩ : ByteArray), (⟨#[101, 113]⟩ : ByteArray), (⟨#[109, 117, 108]⟩ : ByteArray), (⟨#[97, 100, 100, 105]⟩ : ByteArray), (⟨#[97, 110, 100, 105]⟩ : ByteArray), (⟨#[120, 111, 114, 105]⟩ : ByteArray), (⟨#[115, 104, 108, 105]⟩ : ByteArray), (⟨#[115, 104, 114, 105]⟩ : ByteArray), (⟨#[108, 101, 97]⟩ : ByteArray)] : List ByteArray).length := by decide
  obtain ⟨o, a1, s1, e1, h2, h3⟩ := yfi hC a s _ q21 h0 (by omega)
  obtain ⟨v, a2, s2, e2, _, h4, h5⟩ := zkl hC a1 s1 r (by omega) (by omega)
  by_cases q : (zi6 (cls o)).2.1 = true
  · obtain ⟨v3, a3, s3, e3, _, h6, h7⟩ := zkl hC a2 s2 r (by omega) (by omega)
    obtain ⟨o', d', x', y', m', a', s', h, h8, h9⟩ := mid r o o (zi6 (cls o)).2.2.1 (zi6 (cls o)).2.2.2.1 (zi6 (cls o)).2.2.2.2 v v3 0 0 a3 s3 (by omega) (by omega)
    refine ⟨o', d', x', y', m', a', s', Ev.call e1 (Ev.bind (zti o) (Ev.call e2 ?_)), by omega, by omega⟩
    exact zac q (Ev.call e3 h)
  · obtain ⟨o', d', x', y', m', a', s', h, h8, h9⟩ := mid r o o (zi6 (cls o)).2.2.1 (zi6 (cls o)).2.2.2.1 (zi6 (cls o)).2.2.2.2 v 0 0 0 a2 s2 (by omega) (by omega)
    refine ⟨o', d', x', y', m', a', s', Ev.call e1 (Ev.bind (zti o) (Ev.call e2 ?_)), by omega, by omega⟩
    exact zaq q h
theorem zx2 (a s : Int) (h0 : 0 ≤ a) (h1 : a ≤ 1152921504606846800) : ∃ (o : ByteArray) (d x y m a' s' : Int), Ev (fun k => zef k C a s) (o, d, x, y, m, a', s') ∧ a ≤ a' ∧ a' ≤ a + 20 := by
  unfold zef
  obtain ⟨o, d, x, y, m, a1, s1, e1, h2, h3⟩ := zvt hC a s 6 h0 (by omega)
  obtain ⟨v, a2, s2, e2, _, h4, h5⟩ := zkl hC a1 s1 14 (by omega) (by omega)
  have am := fun (l : List Int) (hl : 0 < l.length) => zo6 hC a2 s2 l hl (by omega) (by omega)
  by_cases q0 : v = 0
  · obtain ⟨u, a3, s3, e3, _, h6, h7⟩ := am [(-1), 6] (by decide)
    exact ⟨o, u, x, y, m, a3, s3, Ev.bind e1 (Ev.call e2 (zac q0 (Ev.call e3 (Ev.some rfl)))), by omega, by omega⟩
  by_cases q1 : v = 1
  · obtain ⟨u, a3, s3, e3, _, h6, h7⟩ := am [(-1), 0, 6, 4611686018427387904] (by decide)
    exact ⟨o, d, u, y, m, a3, s3, Ev.bind e1 (Ev.call e2 (zaq q0 (zac q1 (Ev.call e3 (Ev.some rfl))))), by omega, by omega⟩
  by_cases q2 : v = 2
  · obtain ⟨u, a3, s3, e3, _, h6, h7⟩ := am [(-1), 0, 1, 6] (by decide)
    exact ⟨o, d, x, u, m, a3, s3, Ev.bind e1 (Ev.call e2 (zaq q0 (zaq q1 (zac q2 (Ev.call e3 (Ev.some rfl)))))), by omega, by omega⟩
  by_cases q3 : v = 3
  · obtain ⟨u, a3, s3, e3, _, h6, h7⟩ := am [(-1), 0, 1, 3, 4, 5, 6, 63, 64] (by decide)
    exact ⟨o, d, x, y, u, a3, s3, Ev.bind e1 (Ev.call e2 (zaq q0 (zaq q1 (zaq q2 (zac q3 (Ev.call e3 (Ev.some rfl))))))), by omega, by omega⟩
  by_cases q4 : v = 4
  · obtain ⟨u, a3, s3, e3, h6, h7⟩ := yfi hC a2 s2 [(⟨#[]⟩ : ByteArray), (⟨#[99, 111, 110, 115, 116]⟩ : ByteArray), (⟨#[110, 111, 112]⟩ : ByteArray), (⟨#[115, 101, 116]⟩ : ByteArray), (⟨#[108, 101, 97]⟩ : ByteArray)] (by decide) (by omega) (by omega)
    exact ⟨u, d, x, y, m, a3, s3, Ev.bind e1 (Ev.call e2 (zaq q0 (zaq q1 (zaq q2 (zaq q3 (zac q4 (Ev.call e3 (Ev.some rfl)))))))), by omega, by omega⟩
  exact ⟨o, d, x, y, m, a2, s2, Ev.bind e1 (Ev.call e2 (zaq q0 (zaq q1 (zaq q2 (zaq q3 (zaq q4 (Ev.some rfl))))))), by omega, by omega⟩
theorem zy4 (a s : Int) (most : Nat) (hm : most ≤ 1000) (r : Int) (h0 : 0 ≤ a) (h1 : a ≤ 1152921504606800000) : ∃ l a' s', Ev (fun k => zeu k C a s most r) (l, a', s') ∧ l.length ≤ most ∧ a ≤ a' ∧ a' ≤ a + 2 + 16 * most := by
  unfold zeu
  obtain ⟨v, a1, s1, e1, ⟨v0, v1⟩, h2, h3⟩ := zkl hC a s (wrap64 ((most : Int) + 1)) h0 (by omega)
  rw [w64 (by omega) (by omega)] at v1
  have key : ∀ (d : Nat) (o : List Instr) (a s : Int), 0 ≤ a → a ≤ 1152921504606846000 - 16 * (d : Int) → o.length + d ≤ 2000 → ∃ l a' s', Ev (fun k => zc3 k r o (d : Int) C a s) (l, a', s') ∧ l.length = o.length + d ∧ a ≤ a' ∧ a' ≤ a + 16 * d := by
    intro d
    induction d with
    | zero =>
      intro o a s h0 h1 _
      exact ⟨o, a, s, zai (fun k => by simp only [zc3]; rfl) (zaq (by decide) (Ev.now _)), rfl, Int.le_refl _, by omega⟩
    | succ d ih =>
      intro o a s h0 h1 ho
      obtain ⟨o', d', x', y', m', a1, s1, e1, h2, h3⟩ := zvt hC a s r h0 (by omega)
      obtain ⟨l, a2, s2, e2, hl, h4, h5⟩ := ih (o ++ [⟨o', d', x', y', m'⟩]) a1 s1 (by omega) (by omega) (by rw [List.length_append, List.length_singleton]; omega)
      refine ⟨l, a2, s2, zai (fun k => by simp only [zc3]; rfl) (zac (by omega) (Ev.bind e1 (zac (show o.length < 2932031007402 by omega) ?_))), by rw [hl, List.length_append, List.length_singleton]; omega, by omega, by omega⟩
      rw [show wrap64 (((d + 1 : Nat) : Int) - 1) = (d : Int) by rw [w64 (by omega) (by omega)]; omega]
      exact e2
  obtain ⟨n, rfl⟩ := Int.eq_ofNat_of_zero_le v0
  obtain ⟨l, a2, s2, e2, hl, h4, h5⟩ := key n [] a1 s1 (by omega) (by omega) (by simp; omega)
  simp only [List.length_nil, Nat.zero_add] at hl
  exact ⟨l, a2, s2, Ev.call e1 e2, by omega, by omega, by omega⟩
theorem zzp (a s : Int) (most : Nat) (hm : most ≤ 40) (h0 : 0 ≤ a) (h1 : a ≤ 1152921504606700000) : ∃ l a' s', Ev (fun k => zet k C a s most) (l, a', s') ∧ l.length ≤ 41 ∧ a ≤ a' ∧ a' ≤ a + 2000 := by
  unfold zet
  obtain ⟨v, a1, s1, e1, ⟨v0, v1⟩, h2, h3⟩ := zkl hC a s 5 h0 (by omega)
  obtain ⟨l, a2, s2, e2, hl, h4, h5⟩ := zy4 hC a1 s1 most (by omega) (wrap64 (2 + v)) (by omega) (by omega)
  obtain ⟨u, a3, s3, e3, _, h6, h7⟩ := zkl hC a2 s2 14 (by omega) (by omega)
  have key : ∀ (d : Nat) (o : List Instr) (a s : Int), o.length + d = 41 → 0 ≤ a → a ≤ 1152921504606800000 - 18 * (d : Int) → ∃ l a' s', Ev (fun k => zcc k o C a s) (l, a', s') ∧ l.length ≤ 41 ∧ a ≤ a' ∧ a' ≤ a + 18 * d + 2 := by
    intro d
    induction d with
    | zero =>
      intro o a s ho h0 h1
      obtain ⟨v, a1, s1, e1, ⟨v0, v1⟩, h2, h3⟩ := zkl hC a s 2 h0 (by omega)
      refine ⟨o, a1, s1, zai (fun k => by simp only [zcc]; rfl) (Ev.call e1 (zaq ?_ (Ev.now _))), by omega, h2, by omega⟩
      rw [w64 (by omega) (by omega)]
      omega
    | succ d ih =>
      intro o a s ho h0 h1
      obtain ⟨v, a1, s1, e1, ⟨v0, v1⟩, h2, h3⟩ := zkl hC a s 2 h0 (by omega)
      by_cases q : (o.length : Int) < wrap64 (40 + v)
      · obtain ⟨o', d', x', y', m', a2, s2, e2, h4, h5⟩ := zvt hC a1 s1 3 (by omega) (by omega)
        obtain ⟨l, a3, s3, e3, hl, h6, h7⟩ := ih (o ++ [⟨o', d', x', y', m'⟩]) a2 s2 (by rw [List.length_append, List.length_singleton]; omega) (by omega) (by omega)
        exact ⟨l, a3, s3, zai (fun k => by simp only [zcc]; rfl) (Ev.call e1 (zac q (Ev.bind e2 (zac (show o.length < 2932031007402 by omega) e3)))), hl, by omega, by omega⟩
      · exact ⟨o, a1, s1, zai (fun k => by simp only [zcc]; rfl) (Ev.call e1 (zaq q (Ev.now _))), by omega, by omega, by omega⟩
  by_cases q0 : u = 0
  · obtain ⟨o', d', x', y', m', a4, s4, e4, h8, h9⟩ := zx2 hC a3 s3 (by omega) (by omega)
    exact ⟨l ++ [⟨o', d', x', y', m'⟩], a4, s4, Ev.call e1 (Ev.bind e2 (Ev.call e3 (zac q0 (Ev.bind e4 (zac (show l.length < 2932031007402 by omega) (Ev.some rfl)))))), by rw [List.length_append, List.length_singleton]; omega, by omega, by omega⟩
  by_cases q1 : u = 1
  · obtain ⟨l', a4, s4, e4, hl', h8, h9⟩ := key (41 - l.length) l a3 s3 (by omega) (by omega) (by omega)
    exact ⟨l', a4, s4, Ev.call e1 (Ev.bind e2 (Ev.call e3 (zaq q0 (zac q1 e4)))), hl', by omega, by omega⟩
  exact ⟨l, a3, s3, Ev.call e1 (Ev.bind e2 (Ev.call e3 (zaq q0 (zaq q1 (Ev.some rfl))))), by omega, by omega, by omega⟩
theorem zu0 (a s : Int) (most : Nat) (hm : most ≤ 40) (h0 : 0 ≤ a) (h1 : a ≤ 1152921504606600000) : ∃ l a' s', Ev (fun k => zd0 k C a s most) (l, a', s') ∧ l.length ≤ 41 ∧ a ≤ a' ∧ a' ≤ a + 3000 := by
  unfold zd0
  obtain ⟨b, a1, s1, e1, h2, h3⟩ := zsu hC a s 15 h0 (by omega)
  cases b with
  | true =>
    obtain ⟨l, a2, s2, e2, hl, h4, h5⟩ := zzp hC a1 s1 most hm (by omega) (by omega)
    exact ⟨l, a2, s2, Ev.call e1 (zac rfl (Ev.bind e2 (Ev.some rfl))), hl, by omega, by omega⟩
  | false =>
    obtain ⟨r, a2, s2, e2, _, h4, h5⟩ := zo6 hC a1 s1 [3, 4, 6] (by decide) (by omega) (by omega)
    obtain ⟨l, a3, s3, e3, hl, h6, h7⟩ := zy4 hC a2 s2 most (by omega) r (by omega) (by omega)
    exact ⟨l, a3, s3, Ev.call e1 (zaq Bool.false_ne_true (Ev.call e2 (Ev.bind e3 (Ev.some rfl)))), by omega, by omega, by omega⟩
end
section
variable {C : List Int} (hC : okB C)
include hC
theorem yc7 (l : List Instr) (w : Int) (c : List Int) (hc : c.length ≤ 60) (b : Bool) (hb : b = true → 0 < c.length) (a s : Int) (h0 : 0 ≤ a) (h1 : a ≤ 1152921504606000000) : ∃ c' a' s', Ev (fun k => zcf k l w c b C a s) (l, w, c', a', s') ∧ c'.length ≤ 61 := by
  cases b with
  | true =>
    have hl := hb rfl
    obtain ⟨v, a1, s1, e1, ⟨v0, v1⟩, h2, h3⟩ := zkl hC a s c.length h0 (by omega)
    obtain ⟨u, a2, s2, e2, _, h4, h5⟩ := zo6 hC a1 s1 [0, 1, 2, 5, 100, 101, (-1)] (by decide) (by omega) (by omega)
    obtain ⟨q, a3, s3, e3, h6, h7⟩ := zsu hC a2 s2 20 (by omega) (by omega)
    have hv : v < (c.length : Int) := by omega
    have hs : (c.set v.toNat u).length = c.length := List.length_set
    cases q with
    | true =>
      refine ⟨c.set v.toNat u ++ [0], a3, s3, zai (fun k => by simp only [zcf]; rfl) ?_, by rw [List.length_append, List.length_singleton]; omega⟩
      refine zac trivial (Ev.call e1 (Ev.call e2 ?_))
      exact zac v0 (zac hv (Ev.call rfl (Ev.call e3 (zac rfl (zac (show (c.set v.toNat u).length < 17592186044416 by omega) (Ev.some rfl))))))
    | false =>
      refine ⟨c.set v.toNat u, a3, s3, zai (fun k => by simp only [zcf]; rfl) ?_, by omega⟩
      refine zac trivial (Ev.call e1 (Ev.call e2 ?_))
      exact zac v0 (zac hv (Ev.call rfl (Ev.call e3 (zaq Bool.false_ne_true (Ev.some rfl)))))
  | false =>
    obtain ⟨q, a3, s3, e3, h6, h7⟩ := zsu hC a s 20 h0 (by omega)
    cases q with
    | true =>
      refine ⟨c ++ [0], a3, s3, zai (fun k => by simp only [zcf]; rfl) ?_, by rw [List.length_append, List.length_singleton]; omega⟩
      exact zaq Bool.false_ne_true (Ev.call e3 (zac rfl (zac (show c.length < 17592186044416 by omega) (Ev.some rfl))))
    | false =>
      refine ⟨c, a3, s3, zai (fun k => by simp only [zcf]; rfl) ?_, by omega⟩
      exact zaq Bool.false_ne_true (Ev.call e3 (zaq Bool.false_ne_true (Ev.some rfl)))
theorem yc8 (l : List Instr) (w : Int) (c : List Int) (hc : c.length ≤ 60) (a s : Int) (h0 : 0 ≤ a) (h1 : a ≤ 1152921504605000000) : ∃ c' a' s', Ev (fun k => zc7 k l w c C a s) (l, w, c', a', s') ∧ c'.length ≤ 61 := by
  by_cases hl : (c.length : Int) > 0
  · obtain ⟨q, a1, s1, e1, h2, h3⟩ := zsu hC a s 5 h0 (by omega)
    obtain ⟨c', a', s', h, hc'⟩ := yc7 hC l w c hc q (fun _ => by omega) a1 s1 (by omega) (by omega)
    refine ⟨c', a', s', zai (fun k => by simp only [zc7]; rfl) ?_, hc'⟩
    exact zac hl (Ev.call e1 h)
  · obtain ⟨c', a', s', h, hc'⟩ := yc7 hC l w c hc false (fun h => Bool.noConfusion h) a s h0 (by omega)
    exact ⟨c', a', s', zai (fun k => by simp only [zc7]; rfl) (zaq hl h), hc'⟩
theorem yfj (l : List Instr) (hl : l.length ≤ 60) (w : Int) : ∀ (d i : Nat) (c : List Int) (a s : Int), i + d = l.length → c.length = i → 0 ≤ a → a ≤ 1152921504604000000 - 2 * (d : Int) → ∃ c' a' s', Ev (fun k => zc8 k l w c (l.length : Int) (i : Int) C a s) (l, w, c', a', s') ∧ c'.length ≤ 61 := by
  intro d
  induction d with
  | zero =>
    intro i c a s hi hc h0 h1
    obtain ⟨c', a', s', h, hc'⟩ := yc8 hC l w c (by omega) a s h0 (by omega)
    exact ⟨c', a', s', zai (fun k => by simp only [zc8]; rfl) (zaq (by omega) h), hc'⟩
  | succ d ih =>
    intro i c a s hi hc h0 h1
    obtain ⟨v, a1, s1, e1, _, h2, h3⟩ := zkl hC a s 9 h0 (by omega)
    obtain ⟨c', a', s', h, hc'⟩ := ih (i + 1) (c ++ [v]) a1 s1 (by omega) (by rw [List.length_append, List.length_singleton]; omega) (by omega) (by omega)
    refine ⟨c', a', s', zai (fun k => by simp only [zc8]; rfl) (zac (by omega) (Ev.call e1 (zac (show c.length < 17592186044416 by omega) ?_))), hc'⟩
    rw [w64n i (by omega)]
    exact h
theorem yc9 (l : List Instr) (hl : l.length ≤ 60) (w : Int) (c : List Int) (hc : c.length ≤ 60) (b : Bool) (a s : Int) (h0 : 0 ≤ a) (h1 : a ≤ 1152921504603000000) : ∃ c' a' s', Ev (fun k => zc4 k l w c b C a s) (l, w, c', a', s') ∧ c'.length ≤ 61 := by
  cases b with
  | true =>
    obtain ⟨c', a', s', h, hc'⟩ := yfj hC l hl w l.length 0 [] a s (by omega) rfl h0 (by omega)
    exact ⟨c', a', s', zai (fun k => by simp only [zc4]; rfl) (zac trivial h), hc'⟩
  | false =>
    obtain ⟨c', a', s', h, hc'⟩ := yc8 hC l w c hc a s h0 (by omega)
    exact ⟨c', a', s', zai (fun k => by simp only [zc4]; rfl) (zaq Bool.false_ne_true h), hc'⟩
theorem zy5 : ∃ l w c a' s', Ev (fun k => zev k C 0 0) (l, w, c, a', s') ∧ l.length ≤ 41 ∧ c.length ≤ 61 := by
  unfold zev
  obtain ⟨l, a1, s1, e1, hl, h2, h3⟩ := zu0 hC 0 0 7 (by decide) (by decide) (by decide)
  obtain ⟨w, a2, s2, e2, _, h4, h5⟩ := zo6 hC a1 s1 [1, 1, 2, 3, 4, 0] (by decide) (by omega) (by omega)
  have e3 := zw1 l w (by omega)
  have h6 := ya3 l w
  generalize lsR l w = R at e3 h6
  obtain ⟨c, b⟩ := R
  replace h6 : c.length ≤ 20 := h6
  cases b with
  | true =>
    obtain ⟨q, a3, s3, e4, h7, h8⟩ := zsu hC a2 s2 4 (by omega) (by omega)
    obtain ⟨c', a', s', h, hc'⟩ := yc9 hC l (by omega) w c (by omega) q a3 s3 (by omega) (by omega)
    exact ⟨l, w, c', a', s', Ev.bind e1 (Ev.call e2 (Ev.bind e3 (zac rfl (Ev.call e4 h)))), hl, hc'⟩
  | false =>
    obtain ⟨c', a', s', h, hc'⟩ := yc9 hC l (by omega) w c (by omega) true a2 s2 (by omega) (by omega)
    exact ⟨l, w, c', a', s', Ev.bind e1 (Ev.call e2 (Ev.bind e3 (zaq Bool.false_ne_true h))), hl, hc'⟩
theorem ya8 : ∃ l w c, Ev (fun k => zeg k C) (l, w, c) ∧ l.length ≤ 41 ∧ c.length ≤ 61 := by
  obtain ⟨l, w, c, a', s', h, h1, h2⟩ := zy5 hC
  unfold zeg
  exact ⟨l, w, c, Ev.bind h (Ev.now _), h1, h2⟩
theorem ya9 : ∃ l c, Ev (fun k => zc9 k C) (l, c) ∧ l.length ≤ 41 ∧ c.length ≤ 61 := by
  obtain ⟨l, w, c, a', s', h, h1, h2⟩ := zy5 hC
  unfold zc9 zfw
  exact ⟨l, c, Ev.bind (Ev.bind h (Ev.now _)) (Ev.now _), h1, h2⟩
theorem yba : ∃ l w, Ev (fun k => zds k C) (l, w) ∧ l.length ≤ 41 := by
  unfold zds zfj
  obtain ⟨v, a1, s1, e1, hv, h2, h3⟩ := zo6 hC 0 0 [4, 8, 20] (by decide) (by decide) (by decide)
  obtain ⟨n, rfl, hn⟩ : ∃ n : Nat, v = (n : Int) ∧ n ≤ 40 := by
    simp only [List.mem_cons, List.not_mem_nil, or_false] at hv
    exact ⟨v.toNat, by omega, by omega⟩
  obtain ⟨l, a2, s2, e2, hl, h4, h5⟩ := zu0 hC a1 s1 n hn (by omega) (by omega)
  obtain ⟨w, a3, s3, e3, _, h6, h7⟩ := zo6 hC a2 s2 [1, 1, 2, 3, 4, 0] (by decide) (by omega) (by omega)
  exact ⟨l, w, Ev.bind (Ev.call e1 (Ev.bind e2 (Ev.call e3 (Ev.now _)))) (Ev.now _), hl⟩
end
end Go.Proofs.YtabnafbgcpchdaaGreat.PL
end
section
namespace Go.Proofs.YtabnafbgcpchdaaGreat.PL
open Go Go.RowKit Go.Proofs.YtabnafbgcpchdaaGreatW.PrintWords Go.Proofs.YtabnafbgcpchdaaGreatW.PrintLast Go.Proofs.YtabnafbgcpchdaaGreatW.PrintMore Go.Proofs.YtabnafbgcpchdaaGreat.Q
set_option linter.unusedSimpArgs false
set_option linter.unusedVariables false
theorem yce (l m : List Int) (hl : l.length ≤ 1048576) : Ev (fun k => zhy k l m) (decide (l = m)) := by
  unfold zhy
  by_cases h : l.length = m.length
  · refine zac (by omega) ?_
    have key : ∀ (d i : Nat), i + d = l.length → Ev (fun k => zfs k l m l.length i) (decide (l.drop i = m.drop i)) := by
      intro d
      induction d with
      | zero =>
        intro i hi
        rw [List.drop_of_length_le (by omega), List.drop_of_length_le (by omega)]
        exact zai (fun k => by simp only [zfs]; rfl) (zaq (by omega) (Ev.some (by simp)))
      | succ d ih =>
        intro i hi
        have next := ih (i + 1) (by omega)
        have h1 : i < l.length := by omega
        have h2 : i < m.length := by omega
        rw [List.drop_eq_getElem_cons h1, List.drop_eq_getElem_cons h2]
        refine zai (fun k => by simp only [zfs]; rfl) (zac (by omega) (zac (by omega) (zac (by omega) (zac (by omega) ?_))))
        rw [znq (zhm l i h1), znq (zhm m i h2), w64n i (by omega)]
        by_cases e : l[i] = m[i]
        · exact zac e (zpi next (by simp only [List.cons.injEq, e, true_and]))
        · exact zaq e (Ev.some (by simp only [List.cons.injEq, e, false_and, decide_false]))
    have := key l.length 0 (by omega)
    simpa using this
  · exact zaq (by omega) (Ev.some (by simp; intro e; exact h (by rw [e])))
theorem zu1 (l : List Int) (hl : l.length ≤ 1048576) : Ev (fun k => zhy k l l) true := zpi (yce l l hl) (by simp)
theorem ybb (l m : List Int) (hl : l.length ≤ maxLen) (hm : m.length ≤ maxLen) : zm9 l m = some true ∨ zm9 l m = some false ∧ l.length ≤ 1048576 ∧ m.length ≤ 1048576 := by
  unfold maxLen at hl hm
  unfold zm9
  by_cases h : (l.length : Int) > 1048576
  · rw [if_pos h]
    exact .inl rfl
  · rw [if_neg h, w64 (by omega) (by omega)]
    by_cases h2 : (m.length : Int) > 1048576 - l.length
    · rw [decide_eq_true h2]
      exact .inl rfl
    · rw [decide_eq_false h2]
      exact .inr ⟨rfl, by omega, by omega⟩
end Go.Proofs.YtabnafbgcpchdaaGreat.PL
end
section
namespace Go.Proofs.YtabnafbgcpchdaaGreat.PL
open Go Go.RowKit Go.Proofs.YtabnafbgcpchdaaGreatW.PrintWords Go.Proofs.YtabnafbgcpchdaaGreatW.PrintLast Go.Proofs.YtabnafbgcpchdaaGreatW.PrintMore Go.Proofs.YtabnafbgcpchdaaGreat.Q
set_option linter.unusedSimpArgs false
set_option linter.unusedVariables false
theorem fsT (C : List Int) (hC : okB C) : Ev (fun k => zhk k C) true := by
  obtain ⟨l, c, hd, h1, h2⟩ := ya9 hC
  have h3 := yb9 l c
  unfold zhk
  refine Ev.bind hd (Ev.bind (zuz l c (by omega)) (Ev.bind (zzn l c (by omega)) (Ev.bind (zr3 l c (by omega)) (Ev.bind (zvs l c (by omega)) (Ev.bind (zu1 _ (by omega)) ?_)))))
  exact zac ⟨rfl, rfl, rfl⟩ (Ev.now _)
theorem fsG (C : List Int) (hC : okB C) : Ev (fun k => zgh k C) true := by
  obtain ⟨l, w, hd, hl⟩ := yba hC
  have h1 := ya3 l w
  have j2 := fsT C hC
  unfold zgh
  refine Ev.bind hd (Ev.bind (ya4 l w (by omega)) (Ev.bind (zw1 l w (by omega)) (Ev.bind (zw0 l w (by omega)) (Ev.bind (ya2 l w (by omega)) (Ev.bind (zu1 _ (by omega)) ?_)))))
  by_cases h : zfk l = true ∧ (1 ≤ w ∧ w ≤ 3)
  · obtain ⟨n, rfl⟩ := Int.eq_ofNat_of_zero_le (show 0 ≤ w by omega)
    have hll := (zie h.1).1
    obtain ⟨t1, t2⟩ := yb7 l hll n (by omega)
    have e1 := zww l n (lsL l n) (by omega) (by have := t1.len; omega)
    rw [(yav l n _).2 ⟨h.1, h.2, t1, t2⟩] at e1
    rw [show lsR l n = (lsL l n, true) from if_pos h, show wbR l n = (wbM l (eaL l l.length) n l.length, true) from if_pos h]
    exact zac ⟨rfl, rfl, rfl, rfl⟩ (zac rfl (Ev.bind e1 (zac rfl j2)))
  · rw [show lsR l w = ([], false) from if_neg h, show wbR l w = (0, false) from if_neg h]
    exact zac ⟨rfl, rfl, rfl, rfl⟩ (zaq Bool.false_ne_true j2)
theorem fsA (E C : List Int) (hE : E.length = C.length) (hC : C.length ≤ 1048576) (h : ∀ i, i < C.length → E.getD i 0 ≤ C.getD i 0) : Ev (fun k => zew k E C 0) true := by
  have key : ∀ (d i : Nat), i + d = C.length → Ev (fun k => zew k E C i) true := by
    intro d
    induction d with
    | zero => intro i hi; exact zai (fun k => by simp only [zew]; rfl) (zaq (by omega) (Ev.now _))
    | succ d ih =>
      intro i hi
      have next := ih (i + 1) (by omega)
      have h3 := h i (by omega)
      refine zai (fun k => by simp only [zew]; rfl) (zac (by omega) (zac (by omega) (zac (by omega) ?_)))
      rw [rdB, rdB, w64n i (by omega)]
      exact zaq (by omega) next
  exact key C.length 0 (by omega)
theorem fsB (E C : List Int) (hE : E.length = C.length) (hC : C.length ≤ 1048576) (h : ∀ i, i < C.length → C.getD i 0 ≤ E.getD i 0) : Ev (fun k => zex k E C 0) true := by
  have key : ∀ (d i : Nat), i + d = C.length → Ev (fun k => zex k E C i) true := by
    intro d
    induction d with
    | zero => intro i hi; exact zai (fun k => by simp only [zex]; rfl) (zaq (by omega) (Ev.now _))
    | succ d ih =>
      intro i hi
      have next := ih (i + 1) (by omega)
      have h3 := h i (by omega)
      refine zai (fun k => by simp only [zex]; rfl) (zac (by omega) (zac (by omega) (zac (by omega) ?_)))
      rw [rdB, rdB, w64n i (by omega)]
      exact zaq (by omega) next
  exact key C.length 0 (by omega)
end Go.Proofs.YtabnafbgcpchdaaGreat.PL
namespace Go.Proofs.YtabnafbgcpchdaaGreat.Pure
open Go Go.RowKit Go.Proofs.YtabnafbgcpchdaaGreatW.PrintWords Go.Proofs.YtabnafbgcpchdaaGreatW.PrintLast Go.Proofs.YtabnafbgcpchdaaGreatW.PrintMore Go.Proofs.YtabnafbgcpchdaaGreat.Q Go.Proofs.YtabnafbgcpchdaaGreat.PL
set_option linter.unusedSimpArgs false
set_option linter.unusedVariables false
theorem FnSchedules : laws_FnSchedules.Pure := by
  intro a0 a1 h0 h1
  refine ybm (g := fun k => ziv k a0 a1) ?_
  unfold ziv
  rcases ybb a0 a1 h0.1 h1.1 with hb | ⟨hb, _, _⟩
  · exact Ev.call hb (zac rfl (Ev.now _))
  obtain ⟨l, w, c, hd, hl, hc⟩ := ya8 (yc6 h0)
  have j2 := fsG a1 (yc6 h1)
  refine Ev.call hb (zaq Bool.false_ne_true (Ev.bind hd (Ev.bind (zww l w c (by omega) (by omega)) (Ev.bind (yau l w c (by omega) (by omega)) (zac rfl ?_)))))
  by_cases h : (isR l w c).1 = true
  · have hi : isR l w c = (true, true) := by
      unfold isR at h ⊢
      split
      · rename_i q
        rw [if_pos q] at h
        exact Prod.ext h rfl
      · rename_i q
        rw [if_neg q] at h
        cases h
    obtain ⟨hb, hw, hs, h100⟩ := (yav l w c).1 hi
    obtain ⟨n, rfl⟩ := Int.eq_ofNat_of_zero_le (show 0 ≤ w by omega)
    have hll := (zie hb).1
    have hoc := zw2 hb hs h100
    have hlen := hs.len
    obtain ⟨g1, g2⟩ := zst l c 0 hlen
    have e1 := zuz l c (by omega)
    have e2 := ya5 l (zhh c c.length) (by omega) (by have := (zy3 hs).len; omega)
    have e3 := zr3 l c (by omega)
    have e4 := ya1 l (by omega)
    have e5 := zw0 l n (by omega)
    have e6 := ya0 l (by omega)
    rw [show ordR l c = (zhh c c.length, true) from if_pos hoc] at e1
    rw [show ioR l (zhh c c.length) = (ordB l (zhh c c.length), true) from if_pos hb, (ycc l _).2 (zy3 hs)] at e2
    rw [show lenR l c = (lenM l c 0, true) from if_pos hoc] at e3
    rw [show pbR l = ((hts l l.length).foldl max 0, true) from if_pos hb] at e4
    rw [show wbR l n = (wbM l (eaL l l.length) n l.length, true) from if_pos ⟨hb, hw⟩] at e5
    rw [show eoR l = (eaL l l.length, true) from if_pos hb] at e6
    have b1 := hs.path
    have b2 := hs.bound (by omega) hll
    refine zac h (Ev.bind e1 (Ev.bind e2 (Ev.bind e3 (Ev.bind e4 (Ev.bind e5 (Ev.bind e6 (zac ⟨rfl, rfl, rfl, rfl, rfl, rfl, b1, b2⟩ ?_)))))))
    refine Ev.bind (fsA (eaL l l.length) c (by rw [zi7, hlen]) (by omega) (fun i hi => hs.early i (by omega))) ?_
    by_cases h3 : lenM l c 0 ≤ 100
    · have e7 := yaz l (lenM l c 0) (by omega)
      rw [show loR l (lenM l c 0) = (laL l (lenM l c 0) l.length l.length, true) from if_pos ⟨hb, ⟨g1, h3⟩, (ycd l _ g1).2 b1⟩] at e7
      refine zac h3 (Ev.bind e7 (zac rfl ?_))
      exact Ev.bind (fsB (laL l (lenM l c 0) l.length l.length) c (by rw [zlb, hlen]) (by omega) (fun i hi => hs.latest i (by omega))) j2
    · exact zaq h3 j2
  · exact zaq h j2
end Go.Proofs.YtabnafbgcpchdaaGreat.Pure
end
