/- Proved here: contracts of functions that the law FnExactOrderOfSchedule reaches, and lemmas on what they compute; texts of this session and the printed words of the kit that they lean on, cut down and put together by its program link.py. Conditions: as each states. -/
import Derived.Test.YtkmdlompgbnnkaaZFnExactOrderOfSchedule1
import Derived.Test.YtkmdlompgbnnkaaZFnExactOrderOfSchedule2
import Derived.Test.YtkmdlompgbnnkaaZFnExactOrderOfSchedule3
section
namespace Go.Proofs.Ytkmdlompgbnnkaa.PL
open Go Go.RowKit Go.Proofs.YtkmdlompgbnnkaaW.PrintWords Go.Proofs.YtkmdlompgbnnkaaW.PrintLast Go.Proofs.YtkmdlompgbnnkaaW.PrintMore Go.Proofs.Ytkmdlompgbnnkaa.Q
set_option linter.unusedSimpArgs false
set_option linter.unusedVariables false
def leC (c : List Int) (x o : Int) : Bool := decide (rd c o ≤ rd c x)
def insC (c : List Int) (s : List Int) (x : Int) : List Int := s.takeWhile (leC c x) ++ x :: s.dropWhile (leC c x)
def srt (c s : List Int) : Prop := s.Pairwise (fun a b => rd c a ≤ rd c b)
def bnd (n : Nat) (s : List Int) : Prop := ∀ o ∈ s, 0 ≤ o ∧ o < n
def sortC (c : List Int) : Nat → List Int
  | 0 => []
  | n + 1 => insC c (sortC c n) n
theorem take_le (c : List Int) (x : Int) (s : List Int) : ∀ o ∈ s.takeWhile (leC c x), rd c o ≤ rd c x := by
  induction s with
  | nil => intro o h; cases h
  | cons y s ih =>
    intro o h
    rw [List.takeWhile_cons] at h
    split at h
    · rename_i hy
      rcases List.mem_cons.1 h with rfl | h
      · exact of_decide_eq_true hy
      · exact ih o h
    · cases h
theorem drop_gt (c : List Int) (x : Int) (s : List Int) (hs : srt c s) : ∀ o ∈ s.dropWhile (leC c x), rd c x < rd c o := by
  induction s with
  | nil => intro o h; cases h
  | cons y s ih =>
    intro o h
    rw [List.dropWhile_cons] at h
    unfold srt at hs
    rw [List.pairwise_cons] at hs
    split at h
    · exact ih hs.2 o h
    · rename_i hy
      have hy' : ¬ rd c y ≤ rd c x := fun e => hy (decide_eq_true e)
      rcases List.mem_cons.1 h with rfl | h
      · omega
      · have := hs.1 o h
        omega
theorem ins_srt (c : List Int) (s : List Int) (x : Int) (hs : srt c s) : srt c (insC c s x) := by
  have h := hs
  unfold srt at h ⊢
  rw [← List.takeWhile_append_dropWhile (p := leC c x) (l := s), List.pairwise_append] at h
  unfold insC
  rw [List.pairwise_append, List.pairwise_cons]
  refine ⟨h.1, ⟨fun q hq => ?_, h.2.1⟩, fun p hp q hq => ?_⟩
  · have := drop_gt c x s hs q hq
    omega
  · rcases List.mem_cons.1 hq with rfl | hq
    · exact take_le c _ s p hp
    · exact h.2.2 p hp q hq
theorem ins_mem (c : List Int) (s : List Int) (x o : Int) (h : o ∈ insC c s x) : o = x ∨ o ∈ s := by
  unfold insC at h
  rcases List.mem_append.1 h with h | h
  · exact Or.inr ((List.takeWhile_sublist _).subset h)
  · rcases List.mem_cons.1 h with rfl | h
    · exact Or.inl rfl
    · exact Or.inr ((List.dropWhile_sublist _).subset h)
theorem ins_len (c : List Int) (s : List Int) (x : Int) : (insC c s x).length = s.length + 1 := by
  unfold insC
  have := congrArg List.length (List.takeWhile_append_dropWhile (p := leC c x) (l := s))
  rw [List.length_append] at this
  rw [List.length_append, List.length_cons]
  omega
theorem sortC_ok (c : List Int) : ∀ n, srt c (sortC c n) ∧ bnd n (sortC c n) ∧ (sortC c n).length = n
  | 0 => ⟨List.Pairwise.nil, ⟨fun o h => (List.not_mem_nil h).elim, rfl⟩⟩
  | n + 1 => by
    obtain ⟨h1, h2, h3⟩ := sortC_ok c n
    refine ⟨ins_srt c _ _ h1, fun o h => ?_, by unfold sortC; rw [ins_len, h3]⟩
    rcases ins_mem c _ _ o h with rfl | h
    · omega
    · have := h2 o h
      omega
theorem rd_mid (A : List Int) (x : Int) (B : List Int) : rd (A ++ x :: B) (A.length : Nat) = x := by
  unfold rd
  rw [Int.toNat_natCast, getD_mid]
theorem cmp_eq (c : List Int) (a b : Int) (ha : 0 ≤ a ∧ a < c.length) (hb : 0 ≤ b ∧ b < c.length) (hc : ∀ n ∈ c, 0 ≤ n ∧ n ≤ 100) : impl_OrderOfSchedule_1.f a b c = some (rd c a - rd c b) ∧ 0 ≤ rd c a ∧ rd c a ≤ 100 ∧ 0 ≤ rd c b ∧ rd c b ≤ 100 := by
  have g : ∀ i : Int, 0 ≤ i ∧ i < c.length → 0 ≤ rd c i ∧ rd c i ≤ 100 := fun i hi => by
    have hq : i.toNat < c.length := by omega
    unfold rd
    rw [getD_eq c _ hq]
    exact hc _ (List.getElem_mem hq)
  have h1 := g a ha
  have h2 := g b hb
  refine ⟨?_, h1.1, h1.2, h2.1, h2.2⟩
  unfold impl_OrderOfSchedule_1.f
  rw [if_pos ha.1, if_pos ha.2, if_pos hb.1, if_pos hb.2, w64 (by omega) (by omega)]
theorem bubble (c : List Int) (n : Nat) (hn : n = c.length) (hn2 : n ≤ 1048576) (hc : ∀ m ∈ c, 0 ≤ m ∧ m ≤ 100) (i : Nat) (x : Int) (hx : 0 ≤ x ∧ x < n) (P : List Int) (hP : ∀ p ∈ P, rd c p ≤ rd c x) (hPb : bnd n P) (r : List Int) (hi : i ≤ 1048576) :
    ∀ (m : Nat) (Q R : List Int), Q.length = m → (∀ q ∈ Q, rd c x < rd c q) → bnd n Q → P.length + Q.length ≤ 1048576 → Ev (fun k => slices_insertionSortCmpFunc_impl_OrderOfSchedule_1.l0 k (P ++ x :: (Q ++ R)) 0 n ((i + 1 : Nat) : Int) c) r →
      Ev (fun k => slices_insertionSortCmpFunc_impl_OrderOfSchedule_1.l1 k (P ++ (Q ++ x :: R)) 0 n i ((P.length + Q.length : Nat) : Int) c) r := by
  intro m
  induction m with
  | zero =>
    intro Q R hQ _ _ hl H
    have e : Q = [] := List.eq_nil_of_length_eq_zero hQ
    subst e
    simp only [List.nil_append, List.length_nil, Nat.add_zero] at H ⊢
    by_cases hp : P = []
    · subst hp
      refine Ev.step (fun k => ?_) H
      simp only [slices_insertionSortCmpFunc_impl_OrderOfSchedule_1.l1, List.length_nil]
      rw [if_neg (by decide), w64n i (by omega)]
    · obtain ⟨P', p, rfl⟩ : ∃ P' p, P = P' ++ [p] := ⟨P.dropLast, P.getLast hp, (List.dropLast_concat_getLast hp).symm⟩
      have hpp := hPb p (by simp)
      obtain ⟨e1, b1, b2, b3, b4⟩ := cmp_eq c x p ⟨hx.1, by omega⟩ ⟨hpp.1, by omega⟩ hc
      have hle := hP p (by simp)
      have hl2 : (P' ++ [p]).length = P'.length + 1 := by simp
      have r1 : rd ((P' ++ [p]) ++ x :: R) ((P' ++ [p]).length : Nat) = x := rd_mid _ _ _
      have r2 : rd ((P' ++ [p]) ++ x :: R) (P'.length : Nat) = p := by rw [List.append_assoc]; exact rd_mid _ _ _
      have ew : wrap64 (((P' ++ [p]).length : Nat) - 1 : Int) = (P'.length : Nat) := by rw [hl2, w64 (by omega) (by omega)]; omega
      refine Ev.step (fun k => by simp only [slices_insertionSortCmpFunc_impl_OrderOfSchedule_1.l1, ew, r1, r2, e1, Option.bind_some]; rfl) ?_
      have hL : ((P' ++ [p]) ++ x :: R).length = P'.length + 1 + (R.length + 1) := by simp; try omega
      refine Ev.ifp (by omega) (Ev.ifp (by omega) (Ev.ifp (by omega) (Ev.ifp (by omega) (Ev.ifp (by omega) (Ev.ifn (by omega) ?_)))))
      rw [w64n i (by omega)]
      exact H
  | succ m ih =>
    intro Q R hQ hq hb hl H
    have hne : Q ≠ [] := fun e => by rw [e] at hQ; cases hQ
    obtain ⟨Q', q, rfl⟩ : ∃ Q' q, Q = Q' ++ [q] := ⟨Q.dropLast, Q.getLast hne, (List.dropLast_concat_getLast hne).symm⟩
    have hl2 : (Q' ++ [q]).length = Q'.length + 1 := by simp
    have hqq := hb q (by simp)
    have hgt := hq q (by simp)
    obtain ⟨e1, b1, b2, b3, b4⟩ := cmp_eq c x q ⟨hx.1, by omega⟩ ⟨hqq.1, by omega⟩ hc
    have A1 : (P ++ ((Q' ++ [q]) ++ x :: R)) = (P ++ Q' ++ [q]) ++ x :: R := by simp
    have A2 : (P ++ ((Q' ++ [q]) ++ x :: R)) = (P ++ Q') ++ q :: (x :: R) := by simp
    have L1 : (P ++ Q' ++ [q]).length = P.length + (Q' ++ [q]).length := by simp; try omega
    have L2 : (P ++ Q').length = P.length + Q'.length := by simp
    have r1 : rd (P ++ ((Q' ++ [q]) ++ x :: R)) ((P.length + (Q' ++ [q]).length : Nat) : Int) = x := by rw [A1, ← L1]; exact rd_mid _ _ _
    have r2 : rd (P ++ ((Q' ++ [q]) ++ x :: R)) ((P.length + Q'.length : Nat) : Int) = q := by rw [A2, ← L2]; exact rd_mid _ _ _
    have ew : wrap64 (((P.length + (Q' ++ [q]).length : Nat) : Int) - 1) = ((P.length + Q'.length : Nat) : Int) := by rw [hl2, w64 (by omega) (by omega)]; omega
    have hL : (P ++ ((Q' ++ [q]) ++ x :: R)).length = P.length + Q'.length + 1 + (R.length + 1) := by simp; try omega
    have sw : ((P ++ ((Q' ++ [q]) ++ x :: R)).set (P.length + (Q' ++ [q]).length) q).set (P.length + Q'.length) x = P ++ (Q' ++ x :: (q :: R)) := by
      rw [A1, ← L1, set_mid, ← L2]
      have : (P ++ Q' ++ [q] ++ [q]) ++ R = (P ++ Q') ++ q :: (q :: R) := by simp
      rw [this, set_mid]
      simp
    refine Ev.step (fun k => by simp only [slices_insertionSortCmpFunc_impl_OrderOfSchedule_1.l1, ew, r1, r2, e1, Option.bind_some, Int.toNat_natCast, sw]; rfl) ?_
    refine Ev.ifp (by omega) (Ev.ifp (by omega) (Ev.ifp (by omega) (Ev.ifp (by omega) (Ev.ifp (by omega) (Ev.ifp (by omega) ?_)))))
    exact ih Q' (q :: R) (by omega) (fun z hz => hq z (by simp [hz])) (fun z hz => hb z (by simp [hz])) (by omega) (by
      have : x :: (Q' ++ q :: R) = x :: ((Q' ++ [q]) ++ R) := by simp
      rw [this]
      exact H)
theorem sortI_ev (c : List Int) (n : Nat) (hn : n = c.length) (hn2 : n ≤ 1048576) (hc : ∀ m ∈ c, 0 ≤ m ∧ m ≤ 100) : Ev (fun k => slices_insertionSortCmpFunc_impl_OrderOfSchedule_1.f k (marksN n 0) 0 n c) (sortC c n) := by
  unfold slices_insertionSortCmpFunc_impl_OrderOfSchedule_1.f
  have key : ∀ (d i : Nat), 1 ≤ i → i + d = n → Ev (fun k => slices_insertionSortCmpFunc_impl_OrderOfSchedule_1.l0 k (sortC c i ++ marksN d i) 0 n (i : Nat) c) (sortC c n) := by
    intro d
    induction d with
    | zero =>
      intro i h1 hi
      have e : i = n := by omega
      subst e
      refine Ev.step (f := fun _ => some (sortC c i ++ [])) (fun k => ?_) (Ev.some (List.append_nil _))
      simp only [slices_insertionSortCmpFunc_impl_OrderOfSchedule_1.l0, marksN]
      rw [if_neg (by omega)]
    | succ d ih =>
      intro i h1 hi
      obtain ⟨s1, s2, s3⟩ := sortC_ok c i
      have hsp := List.takeWhile_append_dropWhile (p := leC c (i : Int)) (l := sortC c i)
      have hlen := congrArg List.length hsp
      rw [List.length_append, s3] at hlen
      refine Ev.step (fun k => by simp only [slices_insertionSortCmpFunc_impl_OrderOfSchedule_1.l0]; rfl) (Ev.ifp (by omega) ?_)
      have H := ih (i + 1) (by omega) (by omega)
      have e1 : sortC c (i + 1) ++ marksN d (i + 1) = (sortC c i).takeWhile (leC c i) ++ (i : Int) :: ((sortC c i).dropWhile (leC c i) ++ marksN d (i + 1)) := by
        rw [sortC, insC]
        simp
      rw [e1] at H
      have := bubble c n hn hn2 hc i i (by omega) ((sortC c i).takeWhile (leC c i)) (take_le c i _) (fun o h => by have := s2 o ((List.takeWhile_sublist _).subset h); omega) (sortC c n) (by omega) _ ((sortC c i).dropWhile (leC c i)) (marksN d (i + 1)) rfl (drop_gt c i _ s1) (fun o h => by have := s2 o ((List.dropWhile_sublist _).subset h); omega) (by omega) H
      rw [hlen, ← List.append_assoc, hsp] at this
      exact this
  by_cases h0 : n = 0
  · subst h0
    refine Ev.step (f := fun _ => some []) (fun k => ?_) (Ev.now _)
    simp only [slices_insertionSortCmpFunc_impl_OrderOfSchedule_1.l0, marksN]
    rw [if_neg (by rw [w64 (by omega) (by omega)]; omega)]
  · obtain ⟨m, rfl⟩ : ∃ m, n = m + 1 := ⟨n - 1, by omega⟩
    have := key m 1 (by omega) (by omega)
    rw [show wrap64 (0 + 1) = ((1 : Nat) : Int) from w64 (by decide) (by decide)]
    exact this
theorem sortI_end (c x : List Int) (a b : Int) (h : b ≤ a) (h0 : 0 ≤ a) (h1 : a ≤ 1048576) : Ev (fun k => slices_insertionSortCmpFunc_impl_OrderOfSchedule_1.f k x a b c) x := by
  unfold slices_insertionSortCmpFunc_impl_OrderOfSchedule_1.f
  refine Ev.step (f := fun _ => some x) (fun k => ?_) (Ev.now _)
  simp only [slices_insertionSortCmpFunc_impl_OrderOfSchedule_1.l0]
  rw [if_neg (by rw [w64 (by omega) (by omega)]; omega)]
theorem stable_ev (c : List Int) (n : Nat) (hn : n = c.length) (hn2 : n ≤ 20) (hc : ∀ m ∈ c, 0 ≤ m ∧ m ≤ 100) : Ev (fun k => slices_SortStableFunc_impl_OrderOfSchedule_1.f k (marksN n 0) c) (sortC c n) := by
  unfold slices_SortStableFunc_impl_OrderOfSchedule_1.f slices_stableCmpFunc_impl_OrderOfSchedule_1.f
  rw [marksN_len]
  have last : Ev (fun k => slices_stableCmpFunc_impl_OrderOfSchedule_1.l1 k (sortC c n) n 20) (sortC c n) := by
    refine Ev.step (f := fun _ => some (sortC c n)) (fun k => ?_) (Ev.now _)
    simp only [slices_stableCmpFunc_impl_OrderOfSchedule_1.l1]
    rw [if_neg (by omega)]
  refine Ev.bind ?_ (Ev.now _)
  refine Ev.step (fun k => by simp only [slices_stableCmpFunc_impl_OrderOfSchedule_1.l0]; rfl) ?_
  by_cases h : n = 20
  · subst h
    refine Ev.ifp (by omega) (Ev.bind (sortI_ev c 20 hn (by omega) hc) ?_)
    rw [show wrap64 (20 + 20) = 40 from w64 (by decide) (by decide)]
    refine Ev.step (fun k => by simp only [slices_stableCmpFunc_impl_OrderOfSchedule_1.l0]; rfl) (Ev.ifn (by omega) ?_)
    exact Ev.bind (sortI_end c _ _ _ (by omega) (by omega) (by omega)) last
  · refine Ev.ifn (by omega) (Ev.bind (sortI_ev c n hn (by omega) hc) last)
theorem own_eq' (l : List Int) (h : l.length ≤ 1048576) : spec_l1Own.f l = some l := by
  unfold spec_l1Own.f
  rw [Option.bind_some, if_pos (by simp; omega)]
  rfl
theorem specSort_ev (c : List Int) (hn2 : c.length ≤ 20) : Ev (fun k => spec_OrderOfSchedule.l0 k c [] c c.length 0) (sortC c c.length, true) := by
  have key : ∀ (d i : Nat), i + d = c.length → Ev (fun k => spec_OrderOfSchedule.l0 k c (sortC c i) c c.length (i : Nat)) (sortC c c.length, true) := by
    intro d
    induction d with
    | zero =>
      intro i hi
      have e : i = c.length := by omega
      rw [e]
      refine Ev.step (f := fun _ => some _) (fun k => ?_) (Ev.now _)
      simp only [spec_OrderOfSchedule.l0]
      rw [if_neg (by omega)]
    | succ d ih =>
      intro i hi
      obtain ⟨s1, s2, s3⟩ := sortC_ok c i
      have hsp := List.takeWhile_append_dropWhile (p := leC c (i : Int)) (l := sortC c i)
      refine Ev.step (fun k => by simp only [spec_OrderOfSchedule.l0]; rfl) (Ev.ifp (by omega) (Ev.ifp (by omega) (Ev.ifp (by omega) ?_)))
      have H := ih (i + 1) (by omega)
      have eS : sortC c (i + 1) = ((sortC c i).takeWhile (leC c i) ++ [(i : Int)]) ++ (sortC c i).dropWhile (leC c i) := by rw [sortC, insC]; simp
      have hP := take_le c i (sortC c i)
      have hQ := drop_gt c i (sortC c i) s1
      have inner : ∀ (B A : List Int), A ++ B = (sortC c i).takeWhile (leC c i) → Ev (fun k => spec_OrderOfSchedule.l1 k c (sortC c i) i (rd c i) (A.length : Nat) c c.length i) (sortC c c.length, true) := by
        intro B
        induction B with
        | nil =>
          intro A hA
          rw [List.append_nil] at hA
          have hlen := congrArg List.length hsp
          rw [List.length_append, ← hA, s3] at hlen
          have tk : (sortC c i).take A.length = A := by rw [← hsp, ← hA]; exact List.take_left' rfl
          have dr : (sortC c i).drop A.length = (sortC c i).dropWhile (leC c i) := by
            have : (sortC c i).drop A.length = ((sortC c i).takeWhile (leC c i) ++ (sortC c i).dropWhile (leC c i)).drop A.length := by rw [hsp]
            rw [this, ← hA]
            exact List.drop_left' rfl
          rw [eS, ← hA] at H
          cases hd : (sortC c i).dropWhile (leC c i) with
          | nil =>
            rw [hd] at H dr hlen
            simp only [List.length_nil] at hlen
            refine Ev.step (fun k => by simp only [spec_OrderOfSchedule.l1, Int.toNat_natCast, tk, dr]; rfl) (Ev.ifn (by omega) (Ev.ifp (by omega) (Ev.ifp (by omega) ?_)))
            refine Ev.call (own_eq' A (by omega)) (Ev.ifp (by omega) (Ev.call rfl (Ev.call rfl (Ev.ifp (by simp; omega) ?_))))
            rw [w64n i (by omega)]
            exact H
          | cons q Q =>
            have hgt := hQ q (by rw [hd]; simp)
            have hqb := s2 q (by rw [← hsp, hd]; simp)
            have rq : rd (sortC c i) (A.length : Nat) = q := by rw [← hsp, ← hA, hd]; exact rd_mid _ _ _
            rw [hd] at H dr hlen
            simp only [List.length_cons] at hlen
            refine Ev.step (fun k => by simp only [spec_OrderOfSchedule.l1, rq, Int.toNat_natCast, tk, dr]; rfl) (Ev.ifp (by omega) (Ev.ifp (by omega) (Ev.ifp hqb.1 (Ev.ifp (by omega) (Ev.ifn (by omega) (Ev.ifp (by omega) ?_))))))
            refine Ev.call (own_eq' A (by omega)) (Ev.ifp (by omega) (Ev.call rfl (Ev.call rfl (Ev.ifp (by simp; omega) ?_))))
            rw [w64n i (by omega)]
            exact H
        | cons b B ihB =>
          intro A hA
          have hb : b ∈ (sortC c i).takeWhile (leC c i) := by rw [← hA]; simp
          have hle := hP b hb
          have hbb := s2 b ((List.takeWhile_sublist _).subset hb)
          have hlen := congrArg List.length hsp
          rw [List.length_append, ← hA, s3, List.length_append, List.length_cons] at hlen
          have rb : rd (sortC c i) (A.length : Nat) = b := by
            rw [← hsp, ← hA, List.append_assoc]
            exact rd_mid _ _ _
          refine Ev.step (fun k => by simp only [spec_OrderOfSchedule.l1, rb]; rfl) (Ev.ifp (by omega) (Ev.ifp (by omega) (Ev.ifp hbb.1 (Ev.ifp (by omega) (Ev.ifp hle ?_)))))
          rw [w64n A.length (by omega)]
          have := ihB (A ++ [b]) (by rw [← hA]; simp)
          rw [List.length_append, List.length_singleton] at this
          exact this
      exact inner ((sortC c i).takeWhile (leC c i)) [] (List.nil_append _)
  exact key c.length 0 (by omega)
def ordR (l : List Instr) (c : List Int) : List Int × Bool := if okCycles l c = true then (sortC c c.length, true) else ([], false)
theorem ordR_len (l : List Instr) (c : List Int) : (ordR l c).1.length ≤ 1048576 := by
  unfold ordR
  split
  · rename_i h
    unfold okCycles okBlock at h
    simp only [Bool.and_eq_true, decide_eq_true_eq] at h
    show (sortC c c.length).length ≤ _
    rw [(sortC_ok c c.length).2.2]
    have := h.1.1.1
    have := h.1.2
    omega
  · simp
theorem upTo_ev' (n : Nat) (hn : n ≤ 1048576) : Ev (fun k => impl_upTo.f k true (n : Int)) (marksN n 0) := by
  have key : ∀ (d : Nat) (xs : List Int) (b : Nat), xs.length + d ≤ 1048576 → b + d = n → Ev (fun k => impl_upTo.l0 k xs n b) (xs ++ marksN d b) := by
    intro d
    induction d with
    | zero =>
      intro xs b h h'
      refine Ev.step (f := fun _ => some xs) (fun k => ?_) (Ev.some (by simp [marksN]))
      simp only [impl_upTo.l0]
      rw [if_neg (by omega)]
    | succ d ih =>
      intro xs b h h'
      refine Ev.step (fun k => ?_) (ev_eq (ih (xs ++ [(b : Int)]) (b + 1) (by simp; omega) (by omega)) (by simp [marksN]))
      simp only [impl_upTo.l0]
      rw [if_pos (by omega), if_pos (by omega), w64n _ (by omega)]
  unfold impl_upTo.f
  exact Ev.ifp rfl (by simpa using key n [] 0 (by simpa using hn) (by omega))
theorem okCyc_of {l : List Instr} {c : List Int} (h : okCycles l c = true) : l.length ≤ 20 ∧ c.length = l.length ∧ ∀ n ∈ c, 0 ≤ n ∧ n ≤ 100 := by
  unfold okCycles okBlock at h
  simp only [Bool.and_eq_true, decide_eq_true_eq, List.all_eq_true] at h
  exact ⟨h.1.1.1, h.1.2, h.2⟩
theorem implOrd_ev (l : List Instr) (c : List Int) (hc : c.length ≤ 1048576) : Ev (fun k => impl_OrderOfSchedule.f k l c) (ordR l c) := by
  unfold impl_OrderOfSchedule.f ordR
  refine Ev.bind (areCycles_ev l c hc) ?_
  by_cases h : okCycles l c = true
  · obtain ⟨h1, h2, h3⟩ := okCyc_of h
    rw [if_pos h, h2]
    exact Ev.ifp h (Ev.bind (upTo_ev' l.length (by omega)) (Ev.bind (stable_ev c l.length h2.symm h1 h3) (Ev.now _)))
  · rw [if_neg h]
    exact Ev.ifn h (Ev.now _)
theorem specOrd_ev (l : List Instr) (c : List Int) (hc : c.length ≤ 1048576) : Ev (fun k => spec_OrderOfSchedule.f k l c) (ordR l c) := by
  unfold spec_OrderOfSchedule.f ordR
  refine Ev.bind (orCycles_ev l c hc) ?_
  by_cases h : okCycles l c = true
  · obtain ⟨h1, h2, h3⟩ := okCyc_of h
    rw [if_pos h]
    exact Ev.ifp h (specSort_ev c (by omega))
  · rw [if_neg h]
    exact Ev.ifn h (Ev.now _)
theorem ordJ2 (l : List Int) (hl : l.length ≤ 1048576) : Ev (fun k => laws_FnExactOrderOfSchedule.j2 k (marksN l.length 1) (((1 : Nat) : Int) + l.length) false) true := by
  refine Ev.step (fun k => by simp only [laws_FnExactOrderOfSchedule.j2]; rfl) (Ev.ifn (by decide) ?_)
  refine Ev.bind (heldIntS_ev l.length 1 hl (by decide)) ?_
  refine Ev.ifn (by omega) ?_
  exact Ev.ifp rfl (Ev.now _)
theorem ordJ1 (x0 : List LInstr) (x1 : List Int) (h0 : x0.length ≤ 1048576) (h1 : x1.length ≤ 1048576) (l : List Int) (b : Bool) (hl : l.length ≤ 1048576) (e : ordR (x0.map cvI) x1 = (l, b)) : Ev (fun k => laws_FnExactOrderOfSchedule.j1 k x0 x1 l b l false) true := by
  refine Ev.step (fun k => by simp only [laws_FnExactOrderOfSchedule.j1]; rfl) (Ev.ifn (by decide) ?_)
  refine Ev.bind (markIntS_ev l 1 hl (by decide)) ?_
  refine Ev.bind (heldIntS_ev l.length 1 hl (by decide)) ?_
  refine Ev.ifn (by omega) ?_
  refine Ev.ifp rfl ?_
  refine Ev.bind (toInstrS_ev x0 h0) ?_
  refine Ev.bind (toIntS_ev x1 h1) ?_
  refine Ev.bind (implOrd_ev _ _ h1) ?_
  rw [e]
  refine Ev.bind (eqIntS_refl l hl) ?_
  refine Ev.ifp rfl ?_
  rw [show (b != b) = false by simp]
  exact ordJ2 l hl
theorem ordJ0 (x0 : List LInstr) (x1 : List Int) (h0 : x0.length ≤ 1048576) (h1 : x1.length ≤ 1048576) (l : List Int) (b : Bool) (hl : l.length ≤ 1048576) (e : ordR (x0.map cvI) x1 = (l, b)) : Ev (fun k => laws_FnExactOrderOfSchedule.j0 k x0 x1 l b (x0.map cvI) x1 l b false) true := by
  refine Ev.step (fun k => by simp only [laws_FnExactOrderOfSchedule.j0]; rfl) (Ev.ifn (by decide) ?_)
  refine Ev.bind (toInstrS_ev x0 h0) ?_
  refine Ev.bind (eqInstrS_refl _ (by simpa using h0)) ?_
  refine Ev.ifp rfl ?_
  refine Ev.bind (toIntS_ev x1 h1) ?_
  refine Ev.bind (eqIntS_refl x1 h1) ?_
  refine Ev.ifp rfl ?_
  refine Ev.bind (markInstrS_ev _ 1 (by simpa using h0) (by decide)) ?_
  have em : (((1 : Nat) : Int) + 5 * ((x0.map cvI).length : Int)) = ((1 + 5 * x0.length : Nat) : Int) := by rw [List.length_map]; omega
  rw [em]
  refine Ev.bind (markIntS_ev x1 (1 + 5 * x0.length) h1 (by omega)) ?_
  refine Ev.ifn (by omega) ?_
  refine Ev.bind (eqIntS_refl l hl) ?_
  refine Ev.ifp rfl ?_
  rw [show (b != b) = false by simp]
  exact ordJ1 x0 x1 h0 h1 l b hl e
end Go.Proofs.Ytkmdlompgbnnkaa.PL
namespace Go.Proofs.Ytkmdlompgbnnkaa.Pure
open Go Go.RowKit Go.Proofs.YtkmdlompgbnnkaaW.PrintWords Go.Proofs.YtkmdlompgbnnkaaW.PrintLast Go.Proofs.YtkmdlompgbnnkaaW.PrintMore Go.Proofs.Ytkmdlompgbnnkaa.Q Go.Proofs.Ytkmdlompgbnnkaa.PL
set_option linter.unusedSimpArgs false
set_option linter.unusedVariables false
theorem FnExactOrderOfSchedule : laws_FnExactOrderOfSchedule.Pure := by
  intro a0 a1 h0 h1
  refine Ev.rounds (g := fun k => laws_FnExactOrderOfSchedule.f k a0 a1) ?_
  unfold laws_FnExactOrderOfSchedule.f
  by_cases hc : (a1.length : Int) > 1048576
  · exact Ev.ifp hc (Ev.now _)
  refine Ev.ifn hc ?_
  have hc' : a1.length ≤ 1048576 := by omega
  obtain ⟨r, hr, hr'⟩ := szInstrS_ev a0 1048576 h0 (by decide) (by decide)
  refine Ev.bind hr ?_
  by_cases hn : r < 0
  · exact Ev.ifp hn (Ev.now _)
  have hl : a0.length ≤ 1048576 := by have := (hr' (by omega)).1; omega
  obtain ⟨l, b, e⟩ : ∃ l b, ordR (a0.map cvI) a1 = (l, b) := ⟨_, _, rfl⟩
  have hll : l.length ≤ 1048576 := by
    have := ordR_len (a0.map cvI) a1
    rw [e] at this
    exact this
  have ti := toInstrS_ev a0 hl
  have tj := toIntS_ev a1 hc'
  refine Ev.ifn hn (Ev.bind ti (Ev.bind tj ?_))
  refine Ev.bind (e ▸ specOrd_ev _ _ hc') ?_
  refine Ev.bind ti (Ev.bind tj ?_)
  refine Ev.bind (e ▸ implOrd_ev _ _ hc') ?_
  refine Ev.bind (eqIntS_refl l hll) ?_
  refine Ev.ifp rfl ?_
  rw [show ((l, b).2 != (l, b).2) = false by simp]
  exact ordJ0 a0 a1 hl hc' l b hll e
end Go.Proofs.Ytkmdlompgbnnkaa.Pure
end
