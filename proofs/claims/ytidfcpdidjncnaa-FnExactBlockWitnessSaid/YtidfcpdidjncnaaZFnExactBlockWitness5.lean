/- Proved here: contracts of functions that the law FnExactBlockWitness reaches, and lemmas on what they compute; texts of this session and the printed words of the kit that they lean on, cut down and put together by its program link.py. Conditions: as each states. -/
import Derived.Test.YtidfcpdidjncnaaZFnExactBlockWitness1
import Derived.Test.YtidfcpdidjncnaaZFnExactBlockWitness2
import Derived.Test.YtidfcpdidjncnaaZFnExactBlockWitness3
import Derived.Test.YtidfcpdidjncnaaZFnExactBlockWitness4
section
namespace Go.Proofs.Ytidfcpdidjncnaa.PL
open Go Go.RowKit Go.Proofs.YtidfcpdidjncnaaW.PrintWords Go.Proofs.YtidfcpdidjncnaaW.PrintLast Go.Proofs.YtidfcpdidjncnaaW.PrintMore Go.Proofs.Ytidfcpdidjncnaa.Q
set_option linter.unusedSimpArgs false
set_option linter.unusedVariables false
def risingL : List Int → Bool
  | a :: b :: r => decide (a < b) && risingL (b :: r)
  | _ => true
def inR (w : Int) : Bool := decide (0 ≤ w ∧ w ≤ 5)
def okWant (ws : List Int) : Bool := risingL ws && ws.all inR
def rngR (a b : Int) : Option Int → List Int → Bool
  | _, [] => true
  | p, y :: ys => decide (a ≤ y ∧ y ≤ b) && (match p with | none => true | some q => decide (q < y)) && rngR a b (some y) ys
theorem rngR_some (a b : Int) (ys : List Int) : ∀ p, rngR a b (some p) ys = (risingL (p :: ys) && ys.all (fun y => decide (a ≤ y ∧ y ≤ b))) := by
  induction ys with
  | nil => intro p; rfl
  | cons y ys ih =>
    intro p
    simp only [rngR, ih, risingL, List.all_cons]
    cases decide (a ≤ y ∧ y ≤ b) <;> cases decide (p < y) <;> simp
theorem rngR_none (a b : Int) (ys : List Int) : rngR a b none ys = (risingL ys && ys.all (fun y => decide (a ≤ y ∧ y ≤ b))) := by
  cases ys with
  | nil => rfl
  | cons y ys =>
    simp only [rngR, rngR_some, List.all_cons]
    cases decide (a ≤ y ∧ y ≤ b) <;> simp
theorem l1Rising_ev (ws : List Int) (a b : Int) (h : ws.length ≤ 1048576) : Ev (fun k => spec_l1Rising.f k ws a b) (risingL ws && ws.all (fun y => decide (a ≤ y ∧ y ≤ b))) := by
  rw [← rngR_none]
  unfold spec_l1Rising.f
  have key : ∀ (d i : Nat) (p : Option Int), (i = 0 → p = none) → (0 < i → p = some (rd ws ((i - 1 : Nat) : Int))) → i + d = ws.length → Ev (fun k => spec_l1Rising.l0 k ws a b ws ws.length i) (rngR a b p (ws.drop i)) := by
    intro d
    induction d with
    | zero =>
      intro i p hp hp' hi
      refine Ev.step (f := fun _ => some true) (fun k => ?_) (Ev.some ?_)
      · simp only [spec_l1Rising.l0]
        rw [if_neg (by omega)]
      · rw [List.drop_of_length_le (by omega)]
        rfl
    | succ d ih =>
      intro i p hp hp' hi
      have hlt : i < ws.length := by omega
      have e : ws.drop i = ws[i] :: ws.drop (i + 1) := List.drop_eq_getElem_cons hlt
      have hx := rd_eq (getD_eq ws i hlt)
      have next := ih (i + 1) (some ws[i]) (by omega) (fun _ => by rw [show ((i + 1 - 1 : Nat) : Int) = (i : Int) by omega, hx]) (by omega)
      rw [e]
      refine Ev.step (fun k => by simp only [spec_l1Rising.l0, hx]; rfl) (Ev.ifp (by omega) (Ev.ifp (by omega) (Ev.ifp (by omega) (Ev.call (l1In_eq _ _ _) ?_))))
      by_cases q : a ≤ ws[i] ∧ ws[i] ≤ b
      · refine Ev.ifp (by simpa using q) ?_
        by_cases hz : i = 0
        · subst hz
          rw [hp rfl]
          refine Ev.ifn (by omega) ?_
          rw [w64n 0 (by omega)]
          refine ev_eq next ?_
          simp only [rngR]
          rw [decide_eq_true q]
          rfl
        · refine Ev.ifp (by omega) ?_
          rw [show wrap64 ((i : Int) - 1) = ((i - 1 : Nat) : Int) by rw [w64 (by omega) (by omega)]; omega]
          refine Ev.ifp (by omega) (Ev.ifp (by omega) ?_)
          rw [hp' (by omega)]
          by_cases u : rd ws ((i - 1 : Nat) : Int) ≥ ws[i]
          · refine Ev.ifp u (Ev.some ?_)
            simp only [rngR]
            rw [decide_eq_false (show ¬ rd ws ((i - 1 : Nat) : Int) < ws[i] by omega)]
            simp
          · refine Ev.ifn u ?_
            rw [w64n i (by omega)]
            refine ev_eq next ?_
            simp only [rngR]
            rw [decide_eq_true q, decide_eq_true (show rd ws ((i - 1 : Nat) : Int) < ws[i] by omega)]
            rfl
      · refine Ev.ifn (by simpa using q) (Ev.some ?_)
        simp only [rngR]
        rw [decide_eq_false q]
        rfl
  simpa using key ws.length 0 none (fun _ => rfl) (by omega) (by omega)
theorem cdWanted_ev (ws : List Int) (h : ws.length ≤ 1048576) : Ev (fun k => spec_cdWanted.f k ws) (okWant ws) := by
  unfold spec_cdWanted.f
  exact Ev.bind (l1Rising_ev ws 0 5 h) (Ev.now _)
theorem isRising_ev (ws : List Int) (h : ws.length ≤ 1048576) : Ev (fun k => impl_isRising.f k ws) (risingL ws) := by
  unfold impl_isRising.f
  have key : ∀ (d i : Nat), i + 1 + d = ws.length → Ev (fun k => impl_isRising.l0 k ws ((i + 1 : Nat) : Int)) (risingL (ws.drop i)) := by
    intro d
    induction d with
    | zero =>
      intro i hi
      have hlt : i < ws.length := by omega
      have e : ws.drop i = ws[i] :: ws.drop (i + 1) := List.drop_eq_getElem_cons hlt
      refine Ev.step (f := fun _ => some true) (fun k => ?_) (Ev.some ?_)
      · simp only [impl_isRising.l0]
        rw [if_neg (by omega)]
      · rw [e, List.drop_of_length_le (by omega)]
        rfl
    | succ d ih =>
      intro i hi
      have hlt : i < ws.length := by omega
      have hlt' : i + 1 < ws.length := by omega
      have e : ws.drop i = ws[i] :: ws.drop (i + 1) := List.drop_eq_getElem_cons hlt
      have e' : ws.drop (i + 1) = ws[i + 1] :: ws.drop (i + 1 + 1) := List.drop_eq_getElem_cons hlt'
      refine Ev.step (fun k => by simp only [impl_isRising.l0, rd_eq (getD_eq ws (i + 1) hlt'), show wrap64 (((i + 1 : Nat) : Int) - 1) = (i : Int) by rw [w64 (by omega) (by omega)]; omega, rd_eq (getD_eq ws i hlt)]; rfl) (Ev.ifp (by omega) (Ev.ifp (by omega) (Ev.ifp (by omega) (Ev.ifp (by omega) ?_))))
      rw [e, e']
      by_cases q : ws[i + 1] ≤ ws[i]
      · refine Ev.ifp q (Ev.some ?_)
        simp only [risingL]
        rw [decide_eq_false (by omega)]
        rfl
      · refine Ev.ifn q ?_
        rw [w64n (i + 1) (by omega)]
        refine ev_eq (ih (i + 1) (by omega)) ?_
        rw [e']
        simp only [risingL]
        rw [decide_eq_true (show ws[i] < ws[i + 1] by omega)]
        rfl
  cases ws with
  | nil =>
    refine Ev.step (f := fun _ => some true) (fun k => ?_) (Ev.now _)
    simp only [impl_isRising.l0]
    rw [if_neg (by simp)]
  | cons w ws =>
    have := key ws.length 0 (by simp; omega)
    simpa using this
theorem areWanted_ev (ws : List Int) (h : ws.length ≤ 1048576) : Ev (fun k => impl_areWanted.f k ws) (okWant ws) := by
  unfold impl_areWanted.f okWant
  refine Ev.bind (isRising_ev ws h) ?_
  by_cases hr : risingL ws = true
  · refine Ev.ifp hr ?_
    rw [hr, Bool.true_and]
    have hs : Ev (fun k => slices_IndexFunc_impl_areWanted_1.f k ws) (idx (fun x => !inR x) ws) := by
      unfold slices_IndexFunc_impl_areWanted_1.f
      refine search_ev ws _ (fun k i => slices_IndexFunc_impl_areWanted_1.l0 k ws ws.length i) ?_ (fun i x hi hx hp => ?_) (fun i x r hi hx hp hr => ?_)
      · refine Ev.step (f := fun _ => some (-1)) (fun k => ?_) (Ev.now _)
        simp only [slices_IndexFunc_impl_areWanted_1.l0]
        rw [if_neg (by omega)]
      · refine Ev.step (f := fun _ => some (i : Int)) (fun k => ?_) (Ev.now _)
        simp only [slices_IndexFunc_impl_areWanted_1.l0, impl_areWanted_1.f, rd_eq hx, isRegister_eq, Option.bind_some]
        rw [if_pos (by omega), if_pos (by omega), if_pos (by omega), if_pos (show (!decide (0 ≤ x ∧ x ≤ 5)) = true from hp)]
      · refine Ev.step (fun k => ?_) hr
        simp only [slices_IndexFunc_impl_areWanted_1.l0, impl_areWanted_1.f, rd_eq hx, isRegister_eq, Option.bind_some]
        rw [if_pos (by omega), if_pos (by omega), if_pos (by omega), if_neg (show ¬ (!decide (0 ≤ x ∧ x ≤ 5)) = true from fun e => by rw [show (!decide (0 ≤ x ∧ x ≤ 5)) = false from hp] at e; cases e), w64n i (by omega)]
    unfold slices_ContainsFunc_impl_areWanted_1.f
    refine Ev.bind (Ev.bind hs (Ev.now _)) (Ev.some ?_)
    have e := idx_nonneg (fun x => !inR x) ws
    by_cases hc : 0 ≤ idx (fun x => !inR x) ws
    · obtain ⟨x, hx, hx'⟩ := e.1 hc
      rw [decide_eq_true (show idx (fun x => !inR x) ws ≥ 0 from hc)]
      symm
      simpa using ⟨x, hx, by simpa using hx'⟩
    · rw [decide_eq_false (show ¬ idx (fun x => !inR x) ws ≥ 0 from hc)]
      symm
      have := fun h => hc (e.2 h)
      simpa using this
  · refine Ev.ifn hr (Ev.some ?_)
    rw [Bool.eq_false_iff.2 hr]
    rfl
def okTask (l m : List Instr) (ws : List Int) : Bool := okBlock l && (okBlock m && okWant ws)
theorem areBlocks_ev (l m : List Instr) (ws : List Int) (h : ws.length ≤ 1048576) : Ev (fun k => impl_areBlocks.f k l m ws) (okTask l m ws) := by
  unfold impl_areBlocks.f okTask
  refine Ev.bind (isBlock_ev l) ?_
  cases okBlock l
  · exact Ev.ifn (by decide) (Ev.now _)
  refine Ev.ifp rfl (Ev.bind (isBlock_ev m) ?_)
  cases okBlock m
  · exact Ev.ifn (by decide) (Ev.now _)
  exact Ev.ifp rfl (Ev.bind (areWanted_ev ws h) (Ev.now _))
theorem vaTask_ev (l m : List Instr) (ws : List Int) (h : ws.length ≤ 1048576) : Ev (fun k => spec_vaTask.f k l m ws) (okTask l m ws) := by
  unfold spec_vaTask.f okTask
  refine Ev.bind (vaGood_ev l) ?_
  cases okBlock l
  · exact Ev.ifn (by decide) (Ev.now _)
  refine Ev.ifp rfl (Ev.bind (vaGood_ev m) ?_)
  cases okBlock m
  · exact Ev.ifn (by decide) (Ev.now _)
  exact Ev.ifp rfl (Ev.bind (cdWanted_ev ws h) (Ev.now _))
theorem okBlock_of {l : List Instr} (h : okBlock l = true) : l.length ≤ 20 ∧ ∀ x ∈ l, okI x := by
  unfold okBlock at h
  simp only [Bool.and_eq_true, decide_eq_true_eq, List.all_eq_true] at h
  exact h
theorem okTask_of {l m : List Instr} {ws : List Int} (h : okTask l m ws = true) (hw : ws.length ≤ 1048576) : (l.length ≤ 20 ∧ ∀ x ∈ l, okI x) ∧ (m.length ≤ 20 ∧ ∀ x ∈ m, okI x) ∧ okW ws := by
  unfold okTask okWant at h
  simp only [Bool.and_eq_true, List.all_eq_true] at h
  exact ⟨okBlock_of h.1, okBlock_of h.2.1, hw, fun w hq => by simpa [inR] using h.2.2.2 w hq⟩
theorem inputsAt_eq (i : Nat) (h : i < 4096) : impl_inputsAt.f (i : Int) = some (((i / 64 : Nat) : Int), ((i % 64 : Nat) : Int)) := by
  unfold impl_inputsAt.f
  rw [show Int.tdiv (i : Int) 64 = ((i / 64 : Nat) : Int) from rfl, show Int.tmod (i : Int) 64 = ((i % 64 : Nat) : Int) from rfl, w64 (by omega) (by omega)]
theorem implWit_ev (l m : List Instr) (hl : l.length ≤ 20 ∧ ∀ x ∈ l, okI x) (hm : m.length ≤ 20 ∧ ∀ x ∈ m, okI x) (ws : List Int) (hw : okW ws) : Ev (fun k => impl_BlockWitness.l0 k l m ws 0) (witM l m ws 4096 0) := by
  have key : ∀ (d i : Nat), i + d = 4096 → Ev (fun k => impl_BlockWitness.l0 k l m ws i) (witM l m ws d i) := by
    intro d
    induction d with
    | zero =>
      intro i hi
      refine Ev.step (f := fun _ => some ([], false)) (fun k => ?_) (Ev.now _)
      simp only [impl_BlockWitness.l0]
      rw [if_neg (by omega)]
    | succ d ih =>
      intro i hi
      have Hl := (endI_ok l hl.2 i (by omega)).1
      have Hm := (endI_ok m hm.2 i (by omega)).1
      refine Ev.step (fun k => by simp only [impl_BlockWitness.l0]; rfl) (Ev.ifp (by omega) (Ev.call (inputsAt_eq i (by omega)) ?_))
      refine Ev.bind (result_ev l (by omega) hl.2 (by unfold okV; omega) (by unfold okV; omega)) ?_
      refine Ev.bind (result_ev m (by omega) hm.2 (by unfold okV; omega) (by unfold okV; omega)) ?_
      refine ev_eq (s := witM l m ws (d + 1) i) (loop_list (σ := Unit) ws (fun k _ j => impl_BlockWitness.l1 k l m ws ((i / 64 : Nat) : Int) ((i % 64 : Nat) : Int) (endI l i) (endI m i) i ws ws.length j) (fun rest _ => match diffW (endI l i) (endI m i) rest with
        | some w => ([((i / 64 : Nat) : Int), ((i % 64 : Nat) : Int), w], true)
        | none => witM l m ws d (i + 1)) (fun _ => ?_) (fun j _ x rest hj hx H => ?_) ()) rfl
      · refine Ev.step (fun k => ?_) (ih (i + 1) (by omega))
        simp only [impl_BlockWitness.l1]
        rw [if_neg (by omega), w64n i (by omega)]
      · have hr := rd_eq hx
        have hb : 0 ≤ x ∧ x ≤ 5 := hw.2 x (by
          have := hx 0
          rw [getD_eq ws j hj] at this
          rw [← this]
          exact List.getElem_mem hj)
        have hlen := hw.1
        refine Ev.step (fun k => by simp only [impl_BlockWitness.l1, hr]; rfl) ?_
        refine Ev.ifp (by omega) (Ev.ifp (by omega) (Ev.ifp (by omega) (Ev.ifp hb.1 (Ev.ifp (by omega) (Ev.ifp (by omega) ?_)))))
        by_cases q : rd (endI l i) x = rd (endI m i) x
        · refine Ev.ifp q ?_
          rw [w64n j (by omega)]
          simp only [diffW, if_pos q]
          exact H ()
        · refine Ev.ifn q (Ev.some ?_)
          simp only [diffW, if_neg q]
  exact key 4096 0 (by omega)
def witR (l m : List Instr) (ws : List Int) : List Int × Bool := if okTask l m ws = true then witM l m ws 4096 0 else ([], false)
theorem witness_ev (l m : List Instr) (ws : List Int) (h : ws.length ≤ 1048576) : Ev (fun k => impl_BlockWitness.f k l m ws) (witR l m ws) := by
  unfold impl_BlockWitness.f witR
  refine Ev.bind (areBlocks_ev l m ws h) ?_
  by_cases q : okTask l m ws = true
  · rw [if_pos q]
    obtain ⟨hl, hm, hw⟩ := okTask_of q h
    exact Ev.ifp q (implWit_ev l m hl hm ws hw)
  · rw [if_neg q]
    exact Ev.ifn q (Ev.now _)
end Go.Proofs.Ytidfcpdidjncnaa.PL
end
section
namespace Go.Proofs.Ytidfcpdidjncnaa.Q
open Go.RowKit Go.Proofs.YtidfcpdidjncnaaW.PrintWords Go.Proofs.YtidfcpdidjncnaaW.PrintLast Go.Proofs.YtidfcpdidjncnaaW.PrintMore
attribute [local go_sem] max2_int min2_int max_two min_two max_three min_three max_four min_four
set_option linter.unusedVariables false
set_option linter.unusedSimpArgs false
end Go.Proofs.Ytidfcpdidjncnaa.Q
end
section
namespace Go.Proofs.Ytidfcpdidjncnaa.PL
open Go Go.RowKit Go.Proofs.YtidfcpdidjncnaaW.PrintWords Go.Proofs.YtidfcpdidjncnaaW.PrintLast Go.Proofs.YtidfcpdidjncnaaW.PrintMore Go.Proofs.Ytidfcpdidjncnaa.Q
set_option linter.unusedSimpArgs false
set_option linter.unusedVariables false
theorem markText_loop : ∀ (m : Nat) (n : Nat) (s : ByteArray), n ≤ m → s.size + n ≤ 4611686018427387904 → ∃ t, Ev (fun k => laws_markText.l0 k n s) t
  | 0, n, s, h, hs => by
    have e : n = 0 := by omega
    subst e
    refine ⟨(⟨#[109]⟩ : ByteArray) ++ s, Ev.step (f := fun _ => some ((⟨#[109]⟩ : ByteArray) ++ s)) (fun k => ?_) (Ev.now _)⟩
    have hz : (⟨#[109]⟩ : ByteArray).size = 1 := rfl
    simp only [laws_markText.l0]
    rw [if_neg (by decide), if_pos (by omega)]
  | m + 1, n, s, h, hs => by
    by_cases hn : n = 0
    · exact markText_loop m n s (by omega) hs
    · have hsz : (strOfNums [(wrap64 (48 + Int.tmod (n : Int) 10)) % 256]).size = 1 := by
        unfold strOfNums
        rfl
      obtain ⟨t, ht⟩ := markText_loop m (n / 10) (strOfNums [(wrap64 (48 + Int.tmod (n : Int) 10)) % 256] ++ s) (by omega) (by rw [ByteArray.size_append, hsz]; omega)
      refine ⟨t, Ev.step (fun k => ?_) ht⟩
      simp only [laws_markText.l0, Option.bind_some]
      rw [if_pos (by omega), if_pos (by rw [hsz]; omega)]
      congr 1
      have e : Int.tdiv (n : Int) 10 = ((n / 10 : Nat) : Int) := by
        rw [Int.tdiv_eq_ediv_of_nonneg (by omega)]
        omega
      rw [e, w64 (by omega) (by omega)]
theorem markText_ex (n : Nat) (h : n ≤ 4611686018427387903) : ∃ t, Ev (fun k => laws_markText.f k n) t := by
  unfold laws_markText.f
  by_cases hn : (n : Int) ≤ 0
  · exact ⟨_, Ev.ifp hn (Ev.now _)⟩
  · obtain ⟨t, ht⟩ := markText_loop n n ⟨#[]⟩ (Nat.le_refl _) (by show 0 + n ≤ _; omega)
    exact ⟨t, Ev.ifn hn ht⟩
open Classical in
noncomputable def mtx (n : Nat) : ByteArray := if h : ∃ t, Ev (fun k => laws_markText.f k n) t then Classical.choose h else ⟨#[]⟩
theorem mtx_ev (n : Nat) (h : n ≤ 4611686018427387903) : Ev (fun k => laws_markText.f k n) (mtx n) := by
  unfold mtx
  rw [dif_pos (markText_ex n h)]
  exact Classical.choose_spec (markText_ex n h)
def marksN : Nat → Nat → List Int
  | 0, _ => []
  | n + 1, a => (a : Int) :: marksN n (a + 1)
theorem marksN_len : ∀ n a, (marksN n a).length = n
  | 0, _ => rfl
  | n + 1, a => by simp [marksN, marksN_len n]
theorem set_mid {α : Type} (xs : List α) (y : α) (ys : List α) (v : α) : (xs ++ y :: ys).set xs.length v = (xs ++ [v]) ++ ys := by
  rw [List.set_append_right _ _ (Nat.le_refl _)]
  simp
theorem getD_mid {α : Type} (xs : List α) (y : α) (ys : List α) (d : α) : (xs ++ y :: ys).getD xs.length d = y := by simp [List.getD]
theorem markIntS_ev (l : List Int) (a : Nat) (hl : l.length ≤ 1048576) (ha : a ≤ 33554432) : Ev (fun k => laws_markIntS.f k l a) ((a : Int) + l.length, marksN l.length a) := by
  have key : ∀ (ys xs : List Int) (b : Nat), xs.length + ys.length ≤ 1048576 → b ≤ 67108864 - ys.length → Ev (fun k => laws_markIntS.l0 k (xs ++ ys) b xs.length) ((b : Int) + ys.length, xs ++ marksN ys.length b) := by
    intro ys
    induction ys with
    | nil =>
      intro xs b h h'
      refine Ev.step (f := fun _ => some (((b : Int), xs ++ []))) (fun k => ?_) (Ev.some ?_)
      · simp only [laws_markIntS.l0]
        rw [if_neg (by simp)]
      · simp [marksN]
    | cons y ys ih =>
      intro xs b h h'
      simp only [List.length_cons] at h h'
      have := ih (xs ++ [(b : Int)]) (b + 1) (by simp; omega) (by omega)
      rw [List.append_assoc] at this
      refine Ev.step (fun k => ?_) (ev_eq this ?_)
      · simp only [laws_markIntS.l0]
        rw [if_pos (by simp; omega), if_pos (by omega), Int.toNat_natCast, set_mid, w64n _ (by omega), w64n _ (by omega), List.append_assoc]
        congr 1
        simp
      · simp only [List.length_cons, marksN, Prod.mk.injEq]
        exact ⟨by omega, by simp⟩
  have := key l [] a (by simpa using hl) (by omega)
  unfold laws_markIntS.f
  simpa using this
theorem heldIntS_ev (n a : Nat) (hn : n ≤ 1048576) (ha : a ≤ 1048576) : Ev (fun k => laws_heldIntS.f k (marksN n a) a) ((a : Int) + n) := by
  have key : ∀ (d : Nat) (xs : List Int) (b : Nat), xs.length + d ≤ 1048576 → b ≤ 4194304 - d → Ev (fun k => laws_heldIntS.l0 k (xs ++ marksN d b) b xs.length) ((b : Int) + d) := by
    intro d
    induction d with
    | zero =>
      intro xs b h h'
      refine Ev.step (f := fun _ => some (b : Int)) (fun k => ?_) (Ev.some (by simp))
      simp only [laws_heldIntS.l0]
      rw [if_neg (by simp [marksN])]
    | succ d ih =>
      intro xs b h h'
      have := ih (xs ++ [(b : Int)]) (b + 1) (by simp; omega) (by omega)
      rw [List.append_assoc] at this
      refine Ev.step (fun k => ?_) (ev_eq this (by omega))
      have e : rd (xs ++ marksN (d + 1) b) (xs.length : Nat) = b := by
        unfold rd marksN
        rw [Int.toNat_natCast, getD_mid]
      simp only [laws_heldIntS.l0]
      rw [if_pos (by simp [marksN_len]; omega), if_pos (by omega), e, if_pos rfl, w64n _ (by omega), w64n _ (by omega)]
      congr 1
      simp
  have := key n [] a (by simpa using hn) (by omega)
  unfold laws_heldIntS.f
  simpa using this
noncomputable def marksI : Nat → Nat → List Instr
  | 0, _ => []
  | n + 1, a => ⟨mtx a, (a + 1 : Nat), (a + 2 : Nat), (a + 3 : Nat), (a + 4 : Nat)⟩ :: marksI n (a + 5)
theorem rdI_mid (xs : List Instr) (y : Instr) (ys : List Instr) : rd_T83 (xs ++ y :: ys) (xs.length : Nat) = y := by
  unfold rd_T83
  rw [Int.toNat_natCast, getD_mid]
theorem markInstrS_ev (l : List Instr) (a : Nat) (hl : l.length ≤ 1048576) (ha : a ≤ 11534336) : Ev (fun k => laws_markInstrS.f k l a) ((a : Int) + 5 * l.length, marksI l.length a) := by
  have key : ∀ (ys xs : List Instr) (b : Nat), xs.length + ys.length ≤ 1048576 → b ≤ 16777216 - 5 * ys.length → Ev (fun k => laws_markInstrS.l0 k (xs ++ ys) b xs.length) ((b : Int) + 5 * ys.length, xs ++ marksI ys.length b) := by
    intro ys
    induction ys with
    | nil =>
      intro xs b h h'
      refine Ev.step (f := fun _ => some (((b : Int), xs ++ []))) (fun k => ?_) (Ev.some ?_)
      · simp only [laws_markInstrS.l0]
        rw [if_neg (by simp)]
      · simp [marksI]
    | cons y ys ih =>
      intro xs b h h'
      simp only [List.length_cons] at h h'
      have := ih (xs ++ [⟨mtx b, (b + 1 : Nat), (b + 2 : Nat), (b + 3 : Nat), (b + 4 : Nat)⟩]) (b + 5) (by simp; omega) (by omega)
      rw [List.append_assoc] at this
      refine Ev.step (fun k => by simp only [laws_markInstrS.l0]; rfl) ?_
      refine Ev.ifp (by simp; omega) ?_
      refine Ev.bind (mtx_ev b (by omega)) ?_
      refine Ev.ifp (by omega) ?_
      refine Ev.congr (fun k => ?_) (ev_eq this ?_)
      · simp only [Option.bind_some, Int.toNat_natCast, set_mid, rdI_mid, List.append_assoc, List.singleton_append]
        rw [w64n b (by omega), w64n (b + 1) (by omega), w64n (b + 2) (by omega), w64n (b + 3) (by omega), w64n (b + 4) (by omega), w64n _ (by omega)]
        congr 1
        simp
      · simp only [List.length_cons, marksI, Prod.mk.injEq]
        exact ⟨by omega, by simp⟩
  have := key l [] a (by simpa using hl) (by omega)
  unfold laws_markInstrS.f
  simpa using this
end Go.Proofs.Ytidfcpdidjncnaa.PL
end
section
namespace Go.Proofs.Ytidfcpdidjncnaa.PL
open Go Go.RowKit Go.Proofs.YtidfcpdidjncnaaW.PrintWords Go.Proofs.YtidfcpdidjncnaaW.PrintLast Go.Proofs.YtidfcpdidjncnaaW.PrintMore Go.Proofs.Ytidfcpdidjncnaa.Q
set_option linter.unusedSimpArgs false
set_option linter.unusedVariables false
theorem markI_ev (l : List Instr) (a : Nat) (hl : l.length ≤ 1048576) (ha : a ≤ 11534336) : Ev (fun k => laws_markInstrS.f k l a) (((a + 5 * l.length : Nat) : Int), marksI l.length a) :=
  ev_eq (markInstrS_ev l a hl ha) (by rw [Prod.mk.injEq]; exact ⟨by omega, rfl⟩)
theorem markS_ev (l : List Int) (a : Nat) (hl : l.length ≤ 1048576) (ha : a ≤ 33554432) : Ev (fun k => laws_markIntS.f k l a) (((a + l.length : Nat) : Int), marksN l.length a) :=
  ev_eq (markIntS_ev l a hl ha) (by rw [Prod.mk.injEq]; exact ⟨by omega, rfl⟩)
theorem heldS_ev (n a : Nat) (hn : n ≤ 1048576) (ha : a ≤ 1048576) : Ev (fun k => laws_heldIntS.f k (marksN n a) a) ((a + n : Nat) : Int) :=
  ev_eq (heldIntS_ev n a hn ha) (by omega)
end Go.Proofs.Ytidfcpdidjncnaa.PL
end
section
namespace Go.Proofs.Ytidfcpdidjncnaa.PL
open Go Go.RowKit Go.Proofs.YtidfcpdidjncnaaW.PrintWords Go.Proofs.YtidfcpdidjncnaaW.PrintLast Go.Proofs.YtidfcpdidjncnaaW.PrintMore Go.Proofs.Ytidfcpdidjncnaa.Q
set_option linter.unusedSimpArgs false
set_option linter.unusedVariables false
theorem specWit_ev (l m : List Instr) (ws : List Int) (h : ws.length ≤ 1048576) : Ev (fun k => spec_BlockWitness.f k l m ws) (witR l m ws) := by
  unfold spec_BlockWitness.f witR
  refine Ev.bind (vaTask_ev l m ws h) ?_
  by_cases q : okTask l m ws = true
  · rw [if_pos q]
    obtain ⟨hl, hm, hw⟩ := okTask_of q h
    refine Ev.ifp q (Ev.bind (vaEnds_ev l (by omega) hl.2) (Ev.bind (vaEnds_ev m (by omega) hm.2) ?_))
    exact Ev.bind (vaWit_ev l m hl.2 hm.2 ws hw) (Ev.now _)
  · rw [if_neg q]
    exact Ev.ifn q (Ev.now _)
theorem witM_len (l m : List Instr) (ws : List Int) : ∀ d i, (witM l m ws d i).1.length ≤ 3 := by
  intro d
  induction d with
  | zero => intro i; simp [witM]
  | succ d ih =>
    intro i
    unfold witM
    split
    · simp
    · exact ih (i + 1)
theorem witR_len (l m : List Instr) (ws : List Int) : (witR l m ws).1.length ≤ 3 := by
  unfold witR
  split
  · exact witM_len l m ws _ _
  · simp
end Go.Proofs.Ytidfcpdidjncnaa.PL
namespace Go.Proofs.Ytidfcpdidjncnaa.Pure
open Go Go.RowKit Go.Proofs.YtidfcpdidjncnaaW.PrintWords Go.Proofs.YtidfcpdidjncnaaW.PrintLast Go.Proofs.YtidfcpdidjncnaaW.PrintMore Go.Proofs.Ytidfcpdidjncnaa.Q Go.Proofs.Ytidfcpdidjncnaa.PL
set_option linter.unusedSimpArgs false
set_option linter.unusedVariables false
theorem FnExactBlockWitness : laws_FnExactBlockWitness.Pure := by
  intro a0 a1 a2 h0 h1 h2
  refine Ev.rounds (g := fun k => laws_FnExactBlockWitness.f k a0 a1 a2) ?_
  unfold laws_FnExactBlockWitness.f
  by_cases hc : (a2.length : Int) > 1048576
  · exact Ev.ifp hc (Ev.now _)
  refine Ev.ifn hc ?_
  have b2 : a2.length ≤ 1048576 := by omega
  obtain ⟨r, hr, hr'⟩ := szInstrS_ev a0 1048576 h0 (by decide) (by decide)
  refine Ev.bind hr ?_
  by_cases hn : r < 0
  · exact Ev.ifp hn (Ev.now _)
  have hl := hr' (by omega)
  refine Ev.ifn hn ?_
  obtain ⟨r2, hr2, hr2'⟩ := szInstrS_ev a1 r h1 (by omega) (by have := hl.2.2; omega)
  refine Ev.bind hr2 ?_
  by_cases hn2 : r2 < 0
  · exact Ev.ifp hn2 (Ev.now _)
  have hl2 := hr2' (by omega)
  refine Ev.ifn hn2 ?_
  have b0 : a0.length ≤ 1048576 := by omega
  have b1 : a1.length ≤ 1048576 := by have := hl.2.2; omega
  obtain ⟨l, b, e⟩ : ∃ l b, witR (a0.map cvI) (a1.map cvI) a2 = (l, b) := ⟨_, _, rfl⟩
  have hll : l.length ≤ 3 := by
    have := witR_len (a0.map cvI) (a1.map cvI) a2
    rw [e] at this
    exact this
  refine Ev.bind (toInstrS_ev a0 b0) (Ev.bind (toInstrS_ev a1 b1) (Ev.bind (toIntS_ev a2 b2) ?_))
  refine Ev.bind (e ▸ specWit_ev _ _ _ b2) ?_
  refine Ev.bind (toInstrS_ev a0 b0) (Ev.bind (toInstrS_ev a1 b1) (Ev.bind (toIntS_ev a2 b2) ?_))
  refine Ev.bind (e ▸ witness_ev _ _ _ b2) ?_
  refine Ev.bind (eqIntS_refl l (by omega)) (Ev.ifp rfl ?_)
  rw [show ((l, b).2 != (l, b).2) = false by simp]
  refine Ev.step (fun k => by simp only [laws_FnExactBlockWitness.j0]; rfl) (Ev.ifn (by decide) ?_)
  refine Ev.bind (toInstrS_ev a0 b0) (Ev.bind (eqInstrS_refl _ (by simpa using b0)) (Ev.ifp rfl ?_))
  refine Ev.bind (toInstrS_ev a1 b1) (Ev.bind (eqInstrS_refl _ (by simpa using b1)) (Ev.ifp rfl ?_))
  refine Ev.bind (toIntS_ev a2 b2) (Ev.bind (eqIntS_refl _ b2) (Ev.ifp rfl ?_))
  refine Ev.bind (markI_ev _ 1 (by simpa using b0) (by decide)) ?_
  refine Ev.bind (markI_ev _ (1 + 5 * (a0.map cvI).length) (by simpa using b1) (by rw [List.length_map]; omega)) ?_
  refine Ev.bind (markS_ev _ (1 + 5 * (a0.map cvI).length + 5 * (a1.map cvI).length) b2 (by rw [List.length_map, List.length_map]; omega)) ?_
  refine Ev.ifn (by omega) ?_
  refine Ev.bind (eqIntS_refl l (by omega)) (Ev.ifp rfl ?_)
  rw [show ((l, b).2 != (l, b).2) = false by simp]
  refine Ev.step (fun k => by simp only [laws_FnExactBlockWitness.j1]; rfl) (Ev.ifn (by decide) ?_)
  refine Ev.bind (markS_ev l 1 (by omega) (by decide)) ?_
  refine Ev.bind (heldS_ev l.length 1 (by omega) (by decide)) ?_
  refine Ev.ifn (by omega) (Ev.ifp rfl ?_)
  refine Ev.bind (toInstrS_ev a0 b0) (Ev.bind (toInstrS_ev a1 b1) (Ev.bind (toIntS_ev a2 b2) ?_))
  refine Ev.bind (e ▸ witness_ev _ _ _ b2) ?_
  refine Ev.bind (eqIntS_refl l (by omega)) (Ev.ifp rfl ?_)
  rw [show ((l, b).2 != (l, b).2) = false by simp]
  refine Ev.step (fun k => by simp only [laws_FnExactBlockWitness.j2]; rfl) (Ev.ifn (by decide) ?_)
  refine Ev.bind (heldS_ev l.length 1 (by omega) (by decide)) ?_
  exact Ev.ifn (by omega) (Ev.ifp rfl (Ev.now _))
end Go.Proofs.Ytidfcpdidjncnaa.Pure
end
