/- Proved here: contracts of functions that the law FnExactSwapPath reaches, and lemmas on what they compute; texts of this session and the printed words of the kit that they lean on, cut down and put together by its program link.py. Conditions: as each states. -/
import Derived.Laws.Strings
import Derived.WideShapes
import Derived.Test.YtidfcpdidjncnaaZFnExactSwapPath1
import Derived.Test.YtidfcpdidjncnaaZFnExactSwapPath2
import Derived.Test.YtidfcpdidjncnaaZFnExactSwapPath3
import Derived.Test.YtidfcpdidjncnaaZFnExactSwapPath4
import Derived.Test.YtidfcpdidjncnaaZFnExactSwapPath5
section
namespace Go.Proofs.Ytidfcpdidjncnaa.PL
open Go Go.RowKit Go.Proofs.YtidfcpdidjncnaaW.PrintWords Go.Proofs.YtidfcpdidjncnaaW.PrintLast Go.Proofs.YtidfcpdidjncnaaW.PrintMore Go.Proofs.Ytidfcpdidjncnaa.Q
set_option linter.unusedSimpArgs false
set_option linter.unusedVariables false
def eqB (x y : Instr) : Bool := x.f0.toList == y.f0.toList && (x.f1 == y.f1 && (x.f2 == y.f2 && (x.f3 == y.f3 && x.f4 == y.f4)))
def place (l : List Instr) (x : Instr) : Int := idx (eqB x) l
theorem place_ev (l : List Instr) (x : Instr) (hl : l.length ≤ 1048576) : Ev (fun k => impl_Instr_105.f k l x.f0 x.f1 x.f2 x.f3 x.f4) (place l x) := by
  unfold impl_Instr_105.f place
  refine search_ev l _ (fun k i => impl_Instr_105.l0 k l l.length i x.f0 x.f1 x.f2 x.f3 x.f4) ?_ (fun i y hi hx hp => ?_) (fun i y r hi hx hp hr => ?_)
  · refine Ev.step (f := fun _ => some (-1)) (fun k => ?_) (Ev.now _)
    simp only [impl_Instr_105.l0]
    rw [if_neg (by omega)]
  · refine Ev.step (fun k => by simp only [impl_Instr_105.l0, rdI_eq hx]; rfl) (Ev.ifp (by omega) (Ev.ifp (by omega) (Ev.ifp (by omega) (Ev.ifp hp (Ev.now _)))))
  · refine Ev.step (fun k => by simp only [impl_Instr_105.l0, rdI_eq hx]; rfl) (Ev.ifp (by omega) (Ev.ifp (by omega) (Ev.ifp (by omega) (Ev.ifn (fun e => by rw [show eqB x y = true from e] at hp; cases hp) ?_))))
    rw [w64n i (by omega)]
    exact hr
theorem clone_eq (l : List Instr) (hl : l.length ≤ 1048576) : impl_Instr_104.f l = some l := by
  unfold impl_Instr_104.f
  rw [Option.bind_some, if_pos (by simp; omega)]
  rfl
end Go.Proofs.Ytidfcpdidjncnaa.PL
end
section
namespace Go.Proofs.Ytidfcpdidjncnaa.PL
open Go Go.RowKit Go.Proofs.YtidfcpdidjncnaaW.PrintWords Go.Proofs.YtidfcpdidjncnaaW.PrintLast Go.Proofs.YtidfcpdidjncnaaW.PrintMore Go.Proofs.Ytidfcpdidjncnaa.Q
set_option linter.unusedSimpArgs false
set_option linter.unusedVariables false
def downM (k : Nat) : Nat → List Instr → List Int → Option (List Instr × List Int)
  | 0, now, path => some (now, path)
  | j + 1, now, path => if indep (now.getD (k + j) zI) (now.getD (k + j + 1) zI) = true ∧ path.length ≠ 100 then downM k j (swapAt now (k + j)) (path ++ [((k + j : Nat) : Int)]) else none
def pathM : List Instr → Nat → List Instr → List Int → Option (List Int)
  | [], _, _, path => some path
  | x :: bs, k, now, path => if place (now.drop k) x < 0 then none else match downM k (place (now.drop k) x).toNat now path with
    | none => none
    | some r => pathM bs (k + 1) r.1 r.2
theorem downM_len (k : Nat) : ∀ j now path r, downM k j now path = some r → r.1.length = now.length ∧ (path.length ≤ 100 → r.2.length ≤ 100) := by
  intro j
  induction j with
  | zero =>
    intro now path r h
    obtain rfl := Option.some.inj h
    exact ⟨rfl, id⟩
  | succ j ih =>
    intro now path r h
    unfold downM at h
    split at h
    · rename_i hc
      obtain ⟨h1, h2⟩ := ih _ _ _ h
      exact ⟨by rw [h1, swapAt_len], fun hp => h2 (by rw [List.length_append, List.length_singleton]; have := hc.2; omega)⟩
    · cases h
def pathR (o : Option (List Int)) : List Int × Bool := match o with | some p => (p, true) | none => ([], false)
theorem pathM_len : ∀ bs k now path p, pathM bs k now path = some p → path.length ≤ 100 → p.length ≤ 100 := by
  intro bs
  induction bs with
  | nil => intro k now path p h hp; obtain rfl := Option.some.inj h; exact hp
  | cons x bs ih =>
    intro k now path p h hp
    unfold pathM at h
    split at h
    · cases h
    · split at h
      · cases h
      · rename_i r hr
        exact ih _ _ _ _ h ((downM_len _ _ _ _ _ hr).2 hp)
theorem implDown_ev (b : List Instr) (i0 : Nat) (n : Nat) (k : Nat) (cont : List Instr → List Int → Option (List Int))
    (hc : ∀ now path, now.length = n → path.length ≤ 100 → Ev (fun f => impl_SwapPath.l0 f now path b b.length (wrap64 ((i0 : Int) + 1))) (pathR (cont now path))) (hn : n ≤ 1048576) :
    ∀ (j : Nat) (now : List Instr) (path : List Int), now.length = n → path.length ≤ 100 → k + j < n → Ev (fun f => impl_SwapPath.l1 f now path k ((k : Int) + j - 1) b b.length i0) (pathR (match downM k j now path with | none => none | some r => cont r.1 r.2)) := by
  intro j
  induction j with
  | zero =>
    intro now path h1 h2 h3
    refine Ev.step (fun f => by simp only [impl_SwapPath.l1]; rfl) (Ev.ifn (by omega) (hc now path h1 h2))
  | succ j ih =>
    intro now path h1 h2 h3
    have e : ((k : Int) + ((j + 1 : Nat) : Int) - 1) = ((k + j : Nat) : Int) := by omega
    rw [e]
    refine Ev.step (fun f => by simp only [impl_SwapPath.l1]; rfl) ?_
    rw [w64n (k + j) (by omega), rdI_at, rdI_at]
    refine Ev.ifp (by omega) (Ev.ifp (by omega) (Ev.ifp (by omega) (Ev.ifp (by omega) (Ev.ifp (by omega) (Ev.bind (independent_ev _ _) ?_)))))
    unfold downM
    by_cases hi : indep (now.getD (k + j) zI) (now.getD (k + j + 1) zI) = true
    · refine Ev.ifp hi ?_
      by_cases hp : path.length = 100
      · rw [if_neg (fun q => q.2 hp)]
        exact Ev.ifp (by omega) (Ev.now _)
      · rw [if_pos ⟨hi, hp⟩]
        refine Ev.ifn (by omega) (Ev.ifp (by omega) ?_)
        rw [Int.toNat_natCast, Int.toNat_natCast]
        have e2 : wrap64 (((k + j : Nat) : Int) - 1) = (k : Int) + j - 1 := by unfold wrap64; omega
        rw [e2]
        exact ih (swapAt now (k + j)) (path ++ [((k + j : Nat) : Int)]) (by rw [swapAt_len]; exact h1) (by rw [List.length_append, List.length_singleton]; omega) (by omega)
    · rw [if_neg (fun q => hi q.1)]
      exact Ev.ifn hi (Ev.now _)
theorem place_at (l : List Instr) (x : Instr) (h : ¬ place l x < 0) : (place l x).toNat < l.length ∧ ((place l x).toNat : Int) = place l x := by
  have := idx_lt (eqB x) l
  unfold place at *
  omega
theorem implPath_ev (b : List Instr) (n : Nat) (hb : b.length = n) (hn : n ≤ 1048576) : ∀ (d i : Nat) (now : List Instr) (path : List Int), i + d = b.length → now.length = n → path.length ≤ 100 →
    Ev (fun f => impl_SwapPath.l0 f now path b b.length i) (pathR (pathM (b.drop i) i now path)) := by
  intro d
  induction d with
  | zero =>
    intro i now path hi h1 h2
    rw [List.drop_of_length_le (by omega)]
    refine Ev.step (f := fun _ => some (path, true)) (fun f => ?_) (Ev.now _)
    simp only [impl_SwapPath.l0]
    rw [if_neg (by omega)]
  | succ d ih =>
    intro i now path hi h1 h2
    have hlt : i < b.length := by omega
    have e : b.drop i = b[i] :: b.drop (i + 1) := List.drop_eq_getElem_cons hlt
    have hx := rdI_eq (getD_eq b i hlt)
    refine Ev.step (fun f => by simp only [impl_SwapPath.l0, hx]; rfl) (Ev.ifp (by omega) (Ev.ifp (by omega) (Ev.ifp (by omega) (Ev.ifp (by omega) ?_))))
    rw [Int.toNat_natCast]
    refine Ev.bind (place_ev (now.drop i) b[i] (by rw [List.length_drop]; omega)) ?_
    rw [e]
    unfold pathM
    by_cases hp : place (now.drop i) b[i] < 0
    · rw [if_pos hp]
      exact Ev.ifp hp (Ev.now _)
    · rw [if_neg hp]
      refine Ev.ifn hp ?_
      obtain ⟨p1, p2⟩ := place_at _ _ hp
      rw [List.length_drop] at p1
      have e2 : ∀ q : Int, ((q.toNat : Nat) : Int) = q → q.toNat < now.length - i → wrap64 (wrap64 ((i : Int) + q) - 1) = (i : Int) + (q.toNat : Int) - 1 := fun q h1 h2 => by
        unfold wrap64; omega
      rw [e2 _ p2 p1]
      refine implDown_ev b i n i (fun now path => pathM (b.drop (i + 1)) (i + 1) now path) (fun now path q1 q2 => ?_) hn _ now path h1 h2 (by omega)
      rw [w64n i (by omega)]
      exact ih (i + 1) now path (by omega) q1 q2
def spR (a b : List Instr) : List Int × Bool := if (okBlock a = true ∧ okBlock b = true) ∧ a.length = b.length then pathR (pathM b 0 a []) else ([], false)
theorem spR_len (a b : List Instr) : (spR a b).1.length ≤ 100 := by
  unfold spR
  split
  · unfold pathR
    split
    · rename_i p hp
      exact pathM_len _ _ _ _ _ hp (by simp)
    · simp
  · simp
theorem implSwap_ev (a b : List Instr) : Ev (fun k => impl_SwapPath.f k a b) (spR a b) := by
  unfold impl_SwapPath.f
  have no : Ev (fun k => impl_SwapPath.j0 k a b true) ([], false) := Ev.step (fun k => by simp only [impl_SwapPath.j0]; rfl) (Ev.ifp (by decide) (Ev.now _))
  refine Ev.bind (areBlocks_ev a b [] (by simp)) ?_
  have task : okTask a b [] = (okBlock a && okBlock b) := by
    unfold okTask
    rw [show okWant [] = true from rfl, Bool.and_true]
  rw [task]
  unfold spR
  by_cases h : (okBlock a && okBlock b) = true
  · have h' : okBlock a = true ∧ okBlock b = true := by simpa using h
    refine Ev.ifp h ?_
    by_cases hl : a.length = b.length
    · rw [if_pos ⟨h', hl⟩, show (((a.length : Int) != (b.length : Int))) = false by rw [hl]; simp]
      refine Ev.step (fun k => by simp only [impl_SwapPath.j0]; rfl) (Ev.ifn (by decide) ?_)
      have ha := (okBlock_of h'.1).1
      refine Ev.call (clone_eq a (by omega)) ?_
      have := implPath_ev b a.length hl.symm (by omega) b.length 0 a [] (by omega) rfl (by simp)
      simpa using this
    · rw [if_neg (fun q => hl q.2), show (((a.length : Int) != (b.length : Int))) = true by simp; omega]
      exact no
  · rw [if_neg (fun q => h (by rw [q.1.1, q.1.2]; rfl))]
    exact Ev.ifn h no
theorem specDown_ev (b : List Instr) (i0 : Nat) (n : Nat) (k : Nat) (cont : List Instr → List Int → Option (List Int))
    (hc : ∀ now path, now.length = n → path.length ≤ 100 → Ev (fun f => spec_SwapPath.l0 f now path b b.length (wrap64 ((i0 : Int) + 1))) (pathR (cont now path))) (hn : n ≤ 1048576) :
    ∀ (j : Nat) (now : List Instr) (path : List Int), now.length = n → path.length ≤ 100 → k + j < n → Ev (fun f => spec_SwapPath.l2 f now path k ((k + j : Nat) : Int) b b.length i0) (pathR (match downM k j now path with | none => none | some r => cont r.1 r.2)) := by
  intro j
  induction j with
  | zero =>
    intro now path h1 h2 h3
    exact Ev.step (fun f => by simp only [spec_SwapPath.l2]; rfl) (Ev.ifn (by omega) (hc now path h1 h2))
  | succ j ih =>
    intro now path h1 h2 h3
    refine Ev.step (fun f => by simp only [spec_SwapPath.l2]; rfl) ?_
    rw [w64s (k + (j + 1)) (by omega) (by omega), show k + (j + 1) - 1 = k + j by omega]
    refine Ev.ifp (by omega) (Ev.bind (vaSwap_ev now (k + j) (by omega) (by omega)) ?_)
    unfold downM
    by_cases hi : indep (now.getD (k + j) zI) (now.getD (k + j + 1) zI) = true
    · rw [if_pos hi]
      refine Ev.ifp rfl ?_
      by_cases hp : path.length = 100
      · rw [if_neg (fun q => q.2 hp)]
        exact Ev.ifp (by omega) (Ev.now _)
      · rw [if_pos ⟨hi, hp⟩]
        refine Ev.ifn (by omega) (Ev.ifp (by omega) ?_)
        exact ih (swapAt now (k + j)) (path ++ [((k + j : Nat) : Int)]) (by rw [swapAt_len]; exact h1) (by rw [List.length_append, List.length_singleton]; omega) (by omega)
    · rw [if_neg hi, if_neg (fun q => hi q.1)]
      exact Ev.ifn (by decide) (Ev.now _)
theorem neB_iff (x y : Instr) : ((!((x.f0).toList == y.f0.toList) || (!((x.f1) == y.f1) || (!((x.f2) == y.f2) || (!((x.f3) == y.f3) || (!((x.f4) == y.f4)))))) = true) ↔ ¬ eqB y x = true := by
  unfold eqB
  simp only [Bool.or_eq_true, Bool.not_eq_true', Bool.and_eq_true, beq_iff_eq, beq_eq_false_iff_ne, ne_eq]
  constructor
  · rintro h ⟨h0, h1, h2, h3, h4⟩
    rcases h with h | h | h | h | h
    · exact h h0.symm
    · exact h h1.symm
    · exact h h2.symm
    · exact h h3.symm
    · exact h h4.symm
  · intro h
    by_cases h0 : x.f0.toList = y.f0.toList
    · by_cases h1 : x.f1 = y.f1
      · by_cases h2 : x.f2 = y.f2
        · by_cases h3 : x.f3 = y.f3
          · by_cases h4 : x.f4 = y.f4
            · exact absurd ⟨h0.symm, h1.symm, h2.symm, h3.symm, h4.symm⟩ h
            · exact .inr (.inr (.inr (.inr h4)))
          · exact .inr (.inr (.inr (.inl h3)))
        · exact .inr (.inr (.inl h2))
      · exact .inr (.inl h1)
    · exact .inl h0
theorem specFind_ev (b : List Instr) (i0 k : Nat) (now : List Instr) (path : List Int) (x : Instr) (T : List Int × Bool) (hn : now.length ≤ 1048576) (hk : k < now.length)
    (hno : place (now.drop k) x < 0 → T = ([], false)) (hyes : ¬ place (now.drop k) x < 0 → Ev (fun f => spec_SwapPath.l2 f now path k ((k + (place (now.drop k) x).toNat : Nat) : Int) b b.length i0) T) :
    Ev (fun f => spec_SwapPath.l1 f now path k (k : Int) b b.length i0 x.f0 x.f1 x.f2 x.f3 x.f4) T := by
  have key : ∀ (d j : Nat), k + j + d = now.length → (place (now.drop (k + j)) x < 0 → T = ([], false)) → (¬ place (now.drop (k + j)) x < 0 → Ev (fun f => spec_SwapPath.l2 f now path k ((k + j + (place (now.drop (k + j)) x).toNat : Nat) : Int) b b.length i0) T) →
      Ev (fun f => spec_SwapPath.l1 f now path k ((k + j : Nat) : Int) b b.length i0 x.f0 x.f1 x.f2 x.f3 x.f4) T := by
    intro d
    induction d with
    | zero =>
      intro j hj h1 h2
      have e : place (now.drop (k + j)) x < 0 := by
        rw [List.drop_of_length_le (by omega)]
        show (-1 : Int) < 0
        decide
      refine Ev.step (fun f => by simp only [spec_SwapPath.l1]; rfl) (Ev.ifn (by omega) (Ev.step (fun f => by simp only [spec_SwapPath.j3]; rfl) (Ev.ifp (by omega) (Ev.some (h1 e).symm))))
    | succ d ih =>
      intro j hj h1 h2
      have hlt : k + j < now.length := by omega
      have e : now.drop (k + j) = now[k + j] :: now.drop (k + j + 1) := List.drop_eq_getElem_cons hlt
      have hx := rdI_eq (getD_eq now (k + j) hlt)
      have pl : place (now.drop (k + j)) x = if eqB x now[k + j] = true then 0 else if place (now.drop (k + j + 1)) x < 0 then -1 else place (now.drop (k + j + 1)) x + 1 := by
        rw [e]; rfl
      refine Ev.step (fun f => by simp only [spec_SwapPath.l1, hx]; rfl) (Ev.ifp (by omega) (Ev.ifp (by omega) ?_))
      by_cases q : eqB x now[k + j] = true
      · refine Ev.ifn (fun h => (neB_iff _ _).1 h q) (Ev.step (fun f => by simp only [spec_SwapPath.j3]; rfl) (Ev.ifn (by omega) ?_))
        rw [if_pos q] at pl
        have := h2 (by rw [pl]; decide)
        rw [pl] at this
        exact this
      · refine Ev.ifp ((neB_iff _ _).2 q) ?_
        rw [w64n _ (by omega), show k + j + 1 = k + (j + 1) by omega]
        rw [if_neg q] at pl
        refine ih (j + 1) (by omega) (fun h => h1 ?_) (fun h => ?_)
        · rw [pl, if_pos (by rw [show k + j + 1 = k + (j + 1) by omega]; exact h)]
          decide
        · have p2 : place (now.drop (k + j)) x = place (now.drop (k + (j + 1))) x + 1 := by
            rw [pl, if_neg (by rw [show k + j + 1 = k + (j + 1) by omega]; exact h)]
            rfl
          have := h2 (by omega)
          rw [p2, show k + j + (place (now.drop (k + (j + 1))) x + 1).toNat = k + (j + 1) + (place (now.drop (k + (j + 1))) x).toNat by omega] at this
          exact this
  exact key (now.length - k) 0 (by omega) hno hyes
theorem specPath_ev (b : List Instr) (n : Nat) (hb : b.length = n) (hn : n ≤ 1048576) : ∀ (d i : Nat) (now : List Instr) (path : List Int), i + d = b.length → now.length = n → path.length ≤ 100 →
    Ev (fun f => spec_SwapPath.l0 f now path b b.length i) (pathR (pathM (b.drop i) i now path)) := by
  intro d
  induction d with
  | zero =>
    intro i now path hi h1 h2
    rw [List.drop_of_length_le (by omega)]
    refine Ev.step (f := fun _ => some (path, true)) (fun f => ?_) (Ev.now _)
    simp only [spec_SwapPath.l0]
    rw [if_neg (by omega)]
  | succ d ih =>
    intro i now path hi h1 h2
    have hlt : i < b.length := by omega
    have e : b.drop i = b[i] :: b.drop (i + 1) := List.drop_eq_getElem_cons hlt
    have hx := rdI_eq (getD_eq b i hlt)
    refine Ev.step (fun f => by simp only [spec_SwapPath.l0, hx]; rfl) (Ev.ifp (by omega) (Ev.ifp (by omega) (Ev.ifp (by omega) ?_)))
    rw [e]
    unfold pathM
    refine specFind_ev b i i now path b[i] _ (by omega) (by omega) (fun hp => ?_) (fun hp => ?_)
    · rw [if_pos hp]; rfl
    · rw [if_neg hp]
      obtain ⟨p1, p2⟩ := place_at _ _ hp
      rw [List.length_drop] at p1
      refine specDown_ev b i n i (fun now path => pathM (b.drop (i + 1)) (i + 1) now path) (fun now path q1 q2 => ?_) hn _ now path h1 h2 (by omega)
      rw [w64n i (by omega)]
      exact ih (i + 1) now path (by omega) q1 q2
theorem specSwap_ev (a b : List Instr) : Ev (fun k => spec_SwapPath.f k a b) (spR a b) := by
  unfold spec_SwapPath.f
  have no : Ev (fun k => spec_SwapPath.j0 k a b true) ([], false) := Ev.step (fun k => by simp only [spec_SwapPath.j0]; rfl) (Ev.ifp (by decide) (Ev.now _))
  refine Ev.bind (vaGood_ev a) ?_
  unfold spR
  by_cases ha : okBlock a = true
  · refine Ev.ifp ha (Ev.bind (vaGood_ev b) ?_)
    by_cases hb : okBlock b = true
    · refine Ev.ifp hb ?_
      by_cases hl : a.length = b.length
      · rw [if_pos ⟨⟨ha, hb⟩, hl⟩, show (((a.length : Int) != (b.length : Int))) = false by rw [hl]; simp]
        refine Ev.step (fun k => by simp only [spec_SwapPath.j0]; rfl) (Ev.ifn (by decide) ?_)
        have h20 := (okBlock_of ha).1
        refine Ev.call rfl (Ev.ifp (by simp; omega) ?_)
        have := specPath_ev b a.length hl.symm (by omega) b.length 0 a [] (by omega) rfl (by simp)
        simpa using this
      · rw [if_neg (fun q => hl q.2), show (((a.length : Int) != (b.length : Int))) = true by simp; omega]
        exact no
    · rw [if_neg (fun q => hb q.1.2)]
      exact Ev.ifn hb no
  · rw [if_neg (fun q => ha q.1.1)]
    exact Ev.ifn ha no
end Go.Proofs.Ytidfcpdidjncnaa.PL
end
section
namespace Go.Proofs.Ytidfcpdidjncnaa.Q
open Go.RowKit Go.Proofs.YtidfcpdidjncnaaW.PrintWords Go.Proofs.YtidfcpdidjncnaaW.PrintLast Go.Proofs.YtidfcpdidjncnaaW.PrintMore
attribute [local go_sem] max2_int min2_int max_two min_two max_three min_three max_four min_four
set_option linter.unusedVariables false
set_option linter.unusedSimpArgs false
end Go.Proofs.Ytidfcpdidjncnaa.Q
end
section
namespace Go.Proofs.Ytidfcpdidjncnaa.PL
open Go Go.RowKit Go.Proofs.YtidfcpdidjncnaaW.PrintWords Go.Proofs.YtidfcpdidjncnaaW.PrintLast Go.Proofs.YtidfcpdidjncnaaW.PrintMore Go.Proofs.Ytidfcpdidjncnaa.Q
set_option linter.unusedSimpArgs false
set_option linter.unusedVariables false
theorem markText_loop : ∀ (m : Nat) (n : Nat) (s : ByteArray), n ≤ m → s.size + n ≤ 4611686018427387904 → ∃ t, Ev (fun k => laws_markText.l0 k n s) t
  | 0, n, s, h, hs => by
    have e : n = 0 := by omega
    subst e
    refine ⟨(⟨#[109]⟩ : ByteArray) ++ s, Ev.step (f := fun _ => some ((⟨#[109]⟩ : ByteArray) ++ s)) (fun k => ?_) (Ev.now _)⟩
    have hz : (⟨#[109]⟩ : ByteArray).size = 1 := rfl
    simp only [laws_markText.l0]
    rw [if_neg (by decide), if_pos (by omega)]
  | m + 1, n, s, h, hs => by
    by_cases hn : n = 0
    · exact markText_loop m n s (by omega) hs
    · have hsz : (strOfNums [(wrap64 (48 + Int.tmod (n : Int) 10)) % 256]).size = 1 := by
        unfold strOfNums
        rfl
      obtain ⟨t, ht⟩ := markText_loop m (n / 10) (strOfNums [(wrap64 (48 + Int.tmod (n : Int) 10)) % 256] ++ s) (by omega) (by rw [ByteArray.size_append, hsz]; omega)
      refine ⟨t, Ev.step (fun k => ?_) ht⟩
      simp only [laws_markText.l0, Option.bind_some]
      rw [if_pos (by omega), if_pos (by rw [hsz]; omega)]
      congr 1
      have e : Int.tdiv (n : Int) 10 = ((n / 10 : Nat) : Int) := by
        rw [Int.tdiv_eq_ediv_of_nonneg (by omega)]
        omega
      rw [e, w64 (by omega) (by omega)]
theorem markText_ex (n : Nat) (h : n ≤ 4611686018427387903) : ∃ t, Ev (fun k => laws_markText.f k n) t := by
  unfold laws_markText.f
  by_cases hn : (n : Int) ≤ 0
  · exact ⟨_, Ev.ifp hn (Ev.now _)⟩
  · obtain ⟨t, ht⟩ := markText_loop n n ⟨#[]⟩ (Nat.le_refl _) (by show 0 + n ≤ _; omega)
    exact ⟨t, Ev.ifn hn ht⟩
open Classical in
noncomputable def mtx (n : Nat) : ByteArray := if h : ∃ t, Ev (fun k => laws_markText.f k n) t then Classical.choose h else ⟨#[]⟩
theorem mtx_ev (n : Nat) (h : n ≤ 4611686018427387903) : Ev (fun k => laws_markText.f k n) (mtx n) := by
  unfold mtx
  rw [dif_pos (markText_ex n h)]
  exact Classical.choose_spec (markText_ex n h)
def marksN : Nat → Nat → List Int
  | 0, _ => []
  | n + 1, a => (a : Int) :: marksN n (a + 1)
theorem marksN_len : ∀ n a, (marksN n a).length = n
  | 0, _ => rfl
  | n + 1, a => by simp [marksN, marksN_len n]
theorem set_mid {α : Type} (xs : List α) (y : α) (ys : List α) (v : α) : (xs ++ y :: ys).set xs.length v = (xs ++ [v]) ++ ys := by
  rw [List.set_append_right _ _ (Nat.le_refl _)]
  simp
theorem getD_mid {α : Type} (xs : List α) (y : α) (ys : List α) (d : α) : (xs ++ y :: ys).getD xs.length d = y := by simp [List.getD]
theorem markIntS_ev (l : List Int) (a : Nat) (hl : l.length ≤ 1048576) (ha : a ≤ 33554432) : Ev (fun k => laws_markIntS.f k l a) ((a : Int) + l.length, marksN l.length a) := by
  have key : ∀ (ys xs : List Int) (b : Nat), xs.length + ys.length ≤ 1048576 → b ≤ 67108864 - ys.length → Ev (fun k => laws_markIntS.l0 k (xs ++ ys) b xs.length) ((b : Int) + ys.length, xs ++ marksN ys.length b) := by
    intro ys
    induction ys with
    | nil =>
      intro xs b h h'
      refine Ev.step (f := fun _ => some (((b : Int), xs ++ []))) (fun k => ?_) (Ev.some ?_)
      · simp only [laws_markIntS.l0]
        rw [if_neg (by simp)]
      · simp [marksN]
    | cons y ys ih =>
      intro xs b h h'
      simp only [List.length_cons] at h h'
      have := ih (xs ++ [(b : Int)]) (b + 1) (by simp; omega) (by omega)
      rw [List.append_assoc] at this
      refine Ev.step (fun k => ?_) (ev_eq this ?_)
      · simp only [laws_markIntS.l0]
        rw [if_pos (by simp; omega), if_pos (by omega), Int.toNat_natCast, set_mid, w64n _ (by omega), w64n _ (by omega), List.append_assoc]
        congr 1
        simp
      · simp only [List.length_cons, marksN, Prod.mk.injEq]
        exact ⟨by omega, by simp⟩
  have := key l [] a (by simpa using hl) (by omega)
  unfold laws_markIntS.f
  simpa using this
theorem heldIntS_ev (n a : Nat) (hn : n ≤ 1048576) (ha : a ≤ 1048576) : Ev (fun k => laws_heldIntS.f k (marksN n a) a) ((a : Int) + n) := by
  have key : ∀ (d : Nat) (xs : List Int) (b : Nat), xs.length + d ≤ 1048576 → b ≤ 4194304 - d → Ev (fun k => laws_heldIntS.l0 k (xs ++ marksN d b) b xs.length) ((b : Int) + d) := by
    intro d
    induction d with
    | zero =>
      intro xs b h h'
      refine Ev.step (f := fun _ => some (b : Int)) (fun k => ?_) (Ev.some (by simp))
      simp only [laws_heldIntS.l0]
      rw [if_neg (by simp [marksN])]
    | succ d ih =>
      intro xs b h h'
      have := ih (xs ++ [(b : Int)]) (b + 1) (by simp; omega) (by omega)
      rw [List.append_assoc] at this
      refine Ev.step (fun k => ?_) (ev_eq this (by omega))
      have e : rd (xs ++ marksN (d + 1) b) (xs.length : Nat) = b := by
        unfold rd marksN
        rw [Int.toNat_natCast, getD_mid]
      simp only [laws_heldIntS.l0]
      rw [if_pos (by simp [marksN_len]; omega), if_pos (by omega), e, if_pos rfl, w64n _ (by omega), w64n _ (by omega)]
      congr 1
      simp
  have := key n [] a (by simpa using hn) (by omega)
  unfold laws_heldIntS.f
  simpa using this
noncomputable def marksI : Nat → Nat → List Instr
  | 0, _ => []
  | n + 1, a => ⟨mtx a, (a + 1 : Nat), (a + 2 : Nat), (a + 3 : Nat), (a + 4 : Nat)⟩ :: marksI n (a + 5)
theorem rdI_mid (xs : List Instr) (y : Instr) (ys : List Instr) : rd_T83 (xs ++ y :: ys) (xs.length : Nat) = y := by
  unfold rd_T83
  rw [Int.toNat_natCast, getD_mid]
theorem markInstrS_ev (l : List Instr) (a : Nat) (hl : l.length ≤ 1048576) (ha : a ≤ 11534336) : Ev (fun k => laws_markInstrS.f k l a) ((a : Int) + 5 * l.length, marksI l.length a) := by
  have key : ∀ (ys xs : List Instr) (b : Nat), xs.length + ys.length ≤ 1048576 → b ≤ 16777216 - 5 * ys.length → Ev (fun k => laws_markInstrS.l0 k (xs ++ ys) b xs.length) ((b : Int) + 5 * ys.length, xs ++ marksI ys.length b) := by
    intro ys
    induction ys with
    | nil =>
      intro xs b h h'
      refine Ev.step (f := fun _ => some (((b : Int), xs ++ []))) (fun k => ?_) (Ev.some ?_)
      · simp only [laws_markInstrS.l0]
        rw [if_neg (by simp)]
      · simp [marksI]
    | cons y ys ih =>
      intro xs b h h'
      simp only [List.length_cons] at h h'
      have := ih (xs ++ [⟨mtx b, (b + 1 : Nat), (b + 2 : Nat), (b + 3 : Nat), (b + 4 : Nat)⟩]) (b + 5) (by simp; omega) (by omega)
      rw [List.append_assoc] at this
      refine Ev.step (fun k => by simp only [laws_markInstrS.l0]; rfl) ?_
      refine Ev.ifp (by simp; omega) ?_
      refine Ev.bind (mtx_ev b (by omega)) ?_
      refine Ev.ifp (by omega) ?_
      refine Ev.congr (fun k => ?_) (ev_eq this ?_)
      · simp only [Option.bind_some, Int.toNat_natCast, set_mid, rdI_mid, List.append_assoc, List.singleton_append]
        rw [w64n b (by omega), w64n (b + 1) (by omega), w64n (b + 2) (by omega), w64n (b + 3) (by omega), w64n (b + 4) (by omega), w64n _ (by omega)]
        congr 1
        simp
      · simp only [List.length_cons, marksI, Prod.mk.injEq]
        exact ⟨by omega, by simp⟩
  have := key l [] a (by simpa using hl) (by omega)
  unfold laws_markInstrS.f
  simpa using this
end Go.Proofs.Ytidfcpdidjncnaa.PL
end
section
namespace Go.Proofs.Ytidfcpdidjncnaa.PL
open Go Go.RowKit Go.Proofs.YtidfcpdidjncnaaW.PrintWords Go.Proofs.YtidfcpdidjncnaaW.PrintLast Go.Proofs.YtidfcpdidjncnaaW.PrintMore Go.Proofs.Ytidfcpdidjncnaa.Q
set_option linter.unusedSimpArgs false
set_option linter.unusedVariables false
theorem markI_ev (l : List Instr) (a : Nat) (hl : l.length ≤ 1048576) (ha : a ≤ 11534336) : Ev (fun k => laws_markInstrS.f k l a) (((a + 5 * l.length : Nat) : Int), marksI l.length a) :=
  ev_eq (markInstrS_ev l a hl ha) (by rw [Prod.mk.injEq]; exact ⟨by omega, rfl⟩)
theorem markS_ev (l : List Int) (a : Nat) (hl : l.length ≤ 1048576) (ha : a ≤ 33554432) : Ev (fun k => laws_markIntS.f k l a) (((a + l.length : Nat) : Int), marksN l.length a) :=
  ev_eq (markIntS_ev l a hl ha) (by rw [Prod.mk.injEq]; exact ⟨by omega, rfl⟩)
theorem heldS_ev (n a : Nat) (hn : n ≤ 1048576) (ha : a ≤ 1048576) : Ev (fun k => laws_heldIntS.f k (marksN n a) a) ((a + n : Nat) : Int) :=
  ev_eq (heldIntS_ev n a hn ha) (by omega)
theorem bne_self' (b : Bool) : (b != b) = false := by simp
end Go.Proofs.Ytidfcpdidjncnaa.PL
end
section
namespace Go.Proofs.Ytidfcpdidjncnaa.Pure
open Go Go.RowKit Go.Proofs.YtidfcpdidjncnaaW.PrintWords Go.Proofs.YtidfcpdidjncnaaW.PrintLast Go.Proofs.YtidfcpdidjncnaaW.PrintMore Go.Proofs.Ytidfcpdidjncnaa.Q Go.Proofs.Ytidfcpdidjncnaa.PL
set_option linter.unusedSimpArgs false
set_option linter.unusedVariables false
theorem FnExactSwapPath : laws_FnExactSwapPath.Pure := by
  intro a0 a1 h0 h1
  refine Ev.rounds (g := fun k => laws_FnExactSwapPath.f k a0 a1) ?_
  unfold laws_FnExactSwapPath.f
  obtain ⟨r0, hr0, hr0'⟩ := szInstrS_ev a0 1048576 h0 (by decide) (by decide)
  refine Ev.bind hr0 ?_
  by_cases hn0 : r0 < 0
  · exact Ev.ifp hn0 (Ev.now _)
  have hl0 := hr0' (by omega)
  have q0 := hl0.2.2
  refine Ev.ifn hn0 ?_
  have b0 : a0.length ≤ 1048576 := by have := hl0.1; omega
  obtain ⟨r1, hr1, hr1'⟩ := szInstrS_ev a1 r0 h1 (by omega) (by omega)
  refine Ev.bind hr1 ?_
  by_cases hn1 : r1 < 0
  · exact Ev.ifp hn1 (Ev.now _)
  have hl1 := hr1' (by omega)
  have q1 := hl1.2.2
  refine Ev.ifn hn1 ?_
  have b1 : a1.length ≤ 1048576 := by have := hl1.1; omega
  obtain ⟨l, t1, e⟩ : ∃ l t1, spR (a0.map cvI) (a1.map cvI) = (l, t1) := ⟨_, _, rfl⟩
  have hll0 : l.length ≤ 100 := by
    have := spR_len (a0.map cvI) (a1.map cvI)
    rw [e] at this
    exact this
  refine Ev.bind (toInstrS_ev a0 b0) (Ev.bind (toInstrS_ev a1 b1) (?_))
  refine Ev.bind (e ▸ specSwap_ev (a0.map cvI) (a1.map cvI)) ?_
  refine Ev.bind (toInstrS_ev a0 b0) (Ev.bind (toInstrS_ev a1 b1) (?_))
  refine Ev.bind (e ▸ implSwap_ev (a0.map cvI) (a1.map cvI)) ?_
  refine Ev.bind (eqIntS_refl l (by omega)) (Ev.ifp rfl ?_)
  rw [bne_self' _]
  refine Ev.step (fun k => by simp only [laws_FnExactSwapPath.j0]; rfl) (Ev.ifn (by decide) ?_)
  refine Ev.bind (toInstrS_ev a0 b0) (Ev.bind (eqInstrS_refl _ (by simpa using b0)) (Ev.ifp rfl ?_))
  refine Ev.bind (toInstrS_ev a1 b1) (Ev.bind (eqInstrS_refl _ (by simpa using b1)) (Ev.ifp rfl ?_))
  refine Ev.bind (markI_ev _ (1) (by simpa using b0) (by decide)) ?_
  refine Ev.bind (markI_ev _ (1 + 5 * (a0.map cvI).length) (by simpa using b1) (by simp only [List.length_map]; omega)) ?_
  refine Ev.ifn (by omega) ?_
  refine Ev.bind (eqIntS_refl l (by omega)) (Ev.ifp rfl ?_)
  rw [bne_self' _]
  refine Ev.step (fun k => by simp only [laws_FnExactSwapPath.j1]; rfl) (Ev.ifn (by decide) ?_)
  refine Ev.bind (markS_ev l (1) (by omega) (by decide)) ?_
  refine Ev.bind (heldS_ev l.length (1) (by omega) (by decide)) ?_
  refine Ev.ifn (by omega) (Ev.ifp rfl ?_)
  refine Ev.bind (toInstrS_ev a0 b0) (Ev.bind (toInstrS_ev a1 b1) (?_))
  refine Ev.bind (e ▸ implSwap_ev (a0.map cvI) (a1.map cvI)) ?_
  refine Ev.bind (eqIntS_refl l (by omega)) (Ev.ifp rfl ?_)
  rw [bne_self' _]
  refine Ev.step (fun k => by simp only [laws_FnExactSwapPath.j2]; rfl) (Ev.ifn (by decide) ?_)
  refine Ev.bind (heldS_ev l.length (1) (by omega) (by decide)) ?_
  exact Ev.ifn (by omega) (Ev.ifp rfl (Ev.now _))
end Go.Proofs.Ytidfcpdidjncnaa.Pure
end
