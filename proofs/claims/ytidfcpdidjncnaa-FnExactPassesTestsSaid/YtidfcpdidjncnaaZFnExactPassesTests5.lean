/- Proved here: contracts of functions that the law FnExactPassesTests reaches, and lemmas on what they compute; texts of this session and the printed words of the kit that they lean on, cut down and put together by its program link.py. Conditions: as each states. -/
import Derived.Deep.RegionWith
import Derived.Laws.BitsLemmas
import Derived.Test.YtidfcpdidjncnaaZFnExactPassesTests1
import Derived.Test.YtidfcpdidjncnaaZFnExactPassesTests2
import Derived.Test.YtidfcpdidjncnaaZFnExactPassesTests3
import Derived.Test.YtidfcpdidjncnaaZFnExactPassesTests4
section
namespace Go.Proofs.Ytidfcpdidjncnaa.Q
open Go.RowKit Go.Proofs.YtidfcpdidjncnaaW.PrintWords Go.Proofs.YtidfcpdidjncnaaW.PrintLast Go.Proofs.YtidfcpdidjncnaaW.PrintMore
attribute [local go_sem] max2_int min2_int max_two min_two max_three min_three max_four min_four
set_option linter.unusedVariables false
set_option linter.unusedSimpArgs false
def laws_FnExactPassesTests.Pure : Prop := ∀ (a0 : List (S77)) (a1 : List (S77)) (a2 : Int) (a3 : List (List Int)), (Rd.okSl good77) a0 → (Rd.okSl good77) a1 → (Rd.okInt .i64) a2 → (Rd.okSl (Rd.okSl (Rd.okInt .i64))) a3 → ∃ k, laws_FnExactPassesTests.f k a0 a1 a2 a3 = some true
end Go.Proofs.Ytidfcpdidjncnaa.Q
end
section
namespace Go.Proofs.Ytidfcpdidjncnaa.PL
open Go Go.RowKit Go.Proofs.YtidfcpdidjncnaaW.PrintWords Go.Proofs.YtidfcpdidjncnaaW.PrintLast Go.Proofs.YtidfcpdidjncnaaW.PrintMore Go.Proofs.Ytidfcpdidjncnaa.Q
set_option linter.unusedSimpArgs false
set_option linter.unusedVariables false
theorem w64 {x : Int} (h1 : -9223372036854775808 ≤ x) (h2 : x < 9223372036854775808) : wrap64 x = x := by unfold wrap64; omega
theorem w64n (i : Nat) (h : i < 4611686018427387904) : wrap64 ((i : Int) + 1) = ((i + 1 : Nat) : Int) := by unfold wrap64; omega
theorem Ev.some {α : Type} {a r : α} (h : a = r) : Ev (fun _ => some a) r := h ▸ Ev.now a
theorem Ev.const {α : Type} {g : Option α} {r : α} (h : g = Option.some r) : Ev (fun _ => g) r := by rw [h]; exact Ev.now r
theorem ev_eq {α : Type} {g : Nat → Option α} {r s : α} (h : Ev g r) (e : r = s) : Ev g s := e ▸ h
theorem Ev.ifp {α : Type} {c : Prop} [Decidable c] {g g' : Nat → Option α} {r : α} (h : c) (H : Ev g r) : Ev (fun k => if c then g k else g' k) r := Ev.congr (fun _ => if_pos h) H
theorem Ev.ifn {α : Type} {c : Prop} [Decidable c] {g g' : Nat → Option α} {r : α} (h : ¬ c) (H : Ev g' r) : Ev (fun k => if c then g k else g' k) r := Ev.congr (fun _ => if_neg h) H
theorem Ev.call {α β : Type} {g : Option α} {f : Nat → α → Option β} {a : α} {r : β} (h : g = Option.some a) (k : Ev (fun n => f n a) r) : Ev (fun n => g.bind (f n)) r := by
  rw [h]; exact k
theorem loop_up {σ ρ : Type} (n : Nat) (L : Nat → σ → Int → Option ρ) (M : Nat → σ → ρ) (hend : ∀ s, Ev (fun k => L k s n) (M n s))
    (hstep : ∀ (i : Nat) s, i < n → (∀ s', Ev (fun k => L k s' ((i + 1 : Nat) : Int)) (M (i + 1) s')) → Ev (fun k => L k s i) (M i s)) :
    ∀ (d i : Nat) s, i + d = n → Ev (fun k => L k s i) (M i s)
  | 0, i, s, h => by
    have e : i = n := by omega
    rw [e]
    exact hend s
  | d + 1, i, s, h => hstep i s (by omega) (fun s' => loop_up n L M hend hstep d (i + 1) s' (by omega))
theorem loop_list {α σ ρ : Type} (xs : List α) (L : Nat → σ → Int → Option ρ) (m : List α → σ → ρ) (hend : ∀ s, Ev (fun k => L k s (xs.length : Nat)) (m [] s))
    (hstep : ∀ (i : Nat) s x rest, i < xs.length → (∀ d, xs.getD i d = x) → (∀ s', Ev (fun k => L k s' ((i + 1 : Nat) : Int)) (m rest s')) → Ev (fun k => L k s i) (m (x :: rest) s)) (s : σ) :
    Ev (fun k => L k s 0) (m xs s) := by
  have := loop_up xs.length L (fun i s => m (xs.drop i) s) (fun s => by simpa using hend s) (fun i s hi ih => by
    have e : xs.drop i = xs[i] :: xs.drop (i + 1) := List.drop_eq_getElem_cons hi
    show Ev (fun k => L k s i) (m (xs.drop i) s)
    rw [e]
    exact hstep i s xs[i] _ hi (fun d => by simp [List.getD, List.getElem?_eq_getElem hi]) ih) xs.length 0 s (by omega)
  simpa using this
def idx {α : Type} (p : α → Bool) : List α → Int
  | [] => -1
  | x :: xs => if p x = true then 0 else if idx p xs < 0 then -1 else idx p xs + 1
theorem idx_nonneg {α : Type} (p : α → Bool) (xs : List α) : 0 ≤ idx p xs ↔ ∃ x ∈ xs, p x = true := by
  induction xs with
  | nil => simp [idx]
  | cons x xs ih =>
    unfold idx
    by_cases h : p x = true
    · simp [h]
    · by_cases h2 : idx p xs < 0
      · rw [if_neg h, if_pos h2]
        have : ¬ ∃ x ∈ xs, p x = true := fun e => by have := ih.2 e; omega
        simp [h]
        simpa using this
      · rw [if_neg h, if_neg h2]
        have := ih.1 (by omega)
        simp [h]
        exact ⟨fun _ => this, fun _ => by omega⟩
theorem idx_ge {α : Type} (p : α → Bool) (xs : List α) : -1 ≤ idx p xs := by
  induction xs with
  | nil => unfold idx; simp
  | cons x xs ih => unfold idx; split; · decide
                    · split <;> omega
theorem search_ev {α : Type} (xs : List α) (p : α → Bool) (L : Nat → Int → Option Int) (hend : Ev (fun k => L k (xs.length : Nat)) (-1))
    (hyes : ∀ (i : Nat) x, i < xs.length → (∀ d, xs.getD i d = x) → p x = true → Ev (fun k => L k i) (i : Int))
    (hno : ∀ (i : Nat) x r, i < xs.length → (∀ d, xs.getD i d = x) → p x = false → Ev (fun k => L k ((i + 1 : Nat) : Int)) r → Ev (fun k => L k i) r) : Ev (fun k => L k 0) (idx p xs) := by
  have key : ∀ (d i : Nat), i + d = xs.length → Ev (fun k => L k i) (if idx p (xs.drop i) < 0 then -1 else idx p (xs.drop i) + i) := by
    intro d
    induction d with
    | zero =>
      intro i hi
      rw [List.drop_of_length_le (by omega), if_pos (show idx p [] < 0 by unfold idx; decide)]
      have e : i = xs.length := by omega
      rw [e]; exact hend
    | succ d ih =>
      intro i hi
      have hlt : i < xs.length := by omega
      have e : xs.drop i = xs[i] :: xs.drop (i + 1) := List.drop_eq_getElem_cons hlt
      have hg : ∀ d, xs.getD i d = xs[i] := fun d => by simp [List.getD, List.getElem?_eq_getElem hlt]
      rw [e]
      unfold idx
      by_cases h : p xs[i] = true
      · rw [if_pos h, if_neg (by decide)]
        simpa using hyes i _ hlt hg h
      · refine hno i _ _ hlt hg (by simpa using h) (ev_eq (ih (i + 1) (by omega)) ?_)
        rw [if_neg h]
        by_cases h2 : idx p (xs.drop (i + 1)) < 0
        · rw [if_pos h2, if_pos h2, if_pos (by decide)]
        · rw [if_neg h2, if_neg h2, if_neg (by omega)]
          omega
  have := key xs.length 0 (by omega)
  simp only [List.drop_zero, Int.natCast_zero, Int.add_zero] at this
  refine ev_eq this ?_
  have := idx_ge p xs
  split <;> omega
theorem all_ev {α : Type} (xs : List α) (p : α → Bool) (L : Nat → Int → Option Bool) (hend : Ev (fun k => L k (xs.length : Nat)) true)
    (hno : ∀ (i : Nat) x, i < xs.length → (∀ d, xs.getD i d = x) → p x = false → Ev (fun k => L k i) false)
    (hyes : ∀ (i : Nat) x r, i < xs.length → (∀ d, xs.getD i d = x) → p x = true → Ev (fun k => L k ((i + 1 : Nat) : Int)) r → Ev (fun k => L k i) r) : Ev (fun k => L k 0) (xs.all p) := by
  refine loop_list (σ := Unit) xs (fun k _ i => L k i) (fun l _ => l.all p) (fun _ => hend) (fun i _ x rest hi hx ih => ?_) ()
  by_cases h : p x = true
  · exact hyes i x _ hi hx h (ev_eq (ih ()) (by simp [h]))
  · have h' : p x = false := by simpa using h
    exact ev_eq (hno i x hi hx h') (by simp [h'])
theorem rd_eq {xs : List Int} {i : Nat} {x : Int} (h : ∀ d, xs.getD i d = x) : rd xs i = x := by unfold rd; rw [Int.toNat_natCast]; exact h 0
theorem rdI_eq {xs : List S83} {i : Nat} {x : S83} (h : ∀ d, xs.getD i d = x) : rd_T83 xs i = x := by unfold rd_T83; rw [Int.toNat_natCast]; exact h _
theorem rdJ_eq {xs : List S77} {i : Nat} {x : S77} (h : ∀ d, xs.getD i d = x) : rd_T77 xs i = x := by unfold rd_T77; rw [Int.toNat_natCast]; exact h _
theorem getD_eq {α : Type} (xs : List α) (i : Nat) (h : i < xs.length) : ∀ d, xs.getD i d = xs[i] := fun d => by simp [List.getD, List.getElem?_eq_getElem h]
theorem set_fill {α : Type} (xs ys : List α) (z : α) (v : α) : (xs ++ List.replicate (ys.length + 1) z).set xs.length v = (xs ++ [v]) ++ List.replicate ys.length z := by
  rw [List.set_append_right _ _ (Nat.le_refl _)]
  simp [List.replicate_succ]
end Go.Proofs.Ytidfcpdidjncnaa.PL
end
section
namespace Go.Proofs.Ytidfcpdidjncnaa.PL
open Go Go.RowKit Go.Proofs.YtidfcpdidjncnaaW.PrintWords Go.Proofs.YtidfcpdidjncnaaW.PrintLast Go.Proofs.YtidfcpdidjncnaaW.PrintMore Go.Proofs.Ytidfcpdidjncnaa.Q
set_option linter.unusedSimpArgs false
set_option linter.unusedVariables false
abbrev Instr := S83
abbrev LInstr := S77
def cvI (x : LInstr) : Instr := ⟨x.f0, x.f1, x.f2, x.f3, x.f4⟩
theorem szInstr_eq (s : ByteArray) (a b c d r : Int) (hs : s.size ≤ maxLen) (h0 : 0 ≤ r) (h1 : r ≤ 1048576) : laws_szInstr.f s a b c d r = some (if r < s.size then -1 else r - s.size) := by
  unfold maxLen at hs
  unfold laws_szInstr.f
  rw [w64 (by omega) (by omega)]
  by_cases h : r < s.size
  · rw [if_pos (by omega), if_pos h]
  · rw [if_neg (by omega), if_neg h]
theorem szInstrS_ev (l : List LInstr) (a : Int) (hl : Rd.okSl good77 l) (h0 : 0 ≤ a) (h1 : a ≤ 1048576) :
    ∃ r, Ev (fun k => laws_szInstrS.f k l a) r ∧ (0 ≤ r → (l.length : Int) ≤ a ∧ (∀ x ∈ l, (x.f0.size : Int) ≤ a) ∧ r ≤ a) := by
  obtain ⟨hl1, hl2⟩ := hl
  unfold maxLen at hl1
  by_cases h : a < l.length
  · refine ⟨-1, ?_, fun h => absurd h (by decide)⟩
    unfold laws_szInstrS.f
    rw [w64 (by omega) (by omega)]
    simp only [show a - (l.length : Int) < 0 by omega, if_true]
    exact Ev.now _
  · have key : ∀ (d i : Nat) (r : Int), i + d = l.length → 0 ≤ r → r ≤ a → ∃ q, Ev (fun k => laws_szInstrS.l0 k l r i) q ∧ q ≤ a ∧ (0 ≤ q → ∀ x ∈ l.drop i, (x.f0.size : Int) ≤ a) := by
      intro d
      induction d with
      | zero =>
        intro i r hi hr _
        refine ⟨r, Ev.step (f := fun _ => some r) (fun k => ?_) (Ev.now _), by omega, fun _ x hx => ?_⟩
        · simp only [laws_szInstrS.l0]
          rw [if_neg (by omega)]
        · rw [List.drop_of_length_le (by omega)] at hx
          cases hx
      | succ d ih =>
        intro i r hi hr hra
        have hlt : i < l.length := by omega
        have e : l.drop i = l[i] :: l.drop (i + 1) := List.drop_eq_getElem_cons hlt
        have hx := rdJ_eq (getD_eq l i hlt)
        have hsz := (hl2 l[i] (List.getElem_mem hlt)).1
        by_cases hb : r < l[i].f0.size
        · refine ⟨-1, Ev.step (f := fun _ => some (-1)) (fun k => ?_) (Ev.now _), by omega, fun h => absurd h (by decide)⟩
          simp only [laws_szInstrS.l0]
          rw [if_pos (by omega), if_pos (by omega), hx, szInstr_eq _ _ _ _ _ _ hsz hr (by omega), if_pos hb]
          rfl
        · obtain ⟨q, hq, hqa, hq'⟩ := ih (i + 1) (r - l[i].f0.size) (by omega) (by omega) (by omega)
          refine ⟨q, Ev.step (f := fun k => laws_szInstrS.l0 k l (r - l[i].f0.size) ((i + 1 : Nat) : Int)) (fun k => ?_) hq, hqa, fun h x hx' => ?_⟩
          · simp only [laws_szInstrS.l0]
            rw [if_pos (by omega), if_pos (by omega), hx, szInstr_eq _ _ _ _ _ _ hsz hr (by omega), if_neg hb, Option.bind_some, if_neg (by omega), w64n i (by omega)]
          · rw [e] at hx'
            rcases List.mem_cons.1 hx' with rfl | hx'
            · omega
            · exact hq' h x hx'
    obtain ⟨q, hq, hqa, hq'⟩ := key l.length 0 (a - l.length) (by omega) (by omega) (by omega)
    refine ⟨q, ?_, fun h' => ⟨by omega, by simpa using hq' h', hqa⟩⟩
    unfold laws_szInstrS.f
    rw [w64 (by omega) (by omega)]
    simp only [show ¬ (a - (l.length : Int) < 0) by omega, if_false]
    simpa using hq
theorem toInstrS_ev (l : List LInstr) (hl : l.length ≤ 1048576) : Ev (fun k => laws_toInstrS.f k l) (l.map cvI) := by
  have key : ∀ (d i : Nat), i + d = l.length → Ev (fun k => laws_toInstrS.l0 k l ((l.take i).map cvI ++ List.replicate d z83) i) (l.map cvI) := by
    intro d
    induction d with
    | zero =>
      intro i hi
      refine Ev.step (f := fun _ => some _) (fun k => ?_) (Ev.now _)
      simp only [laws_toInstrS.l0]
      rw [if_neg (by omega), List.take_of_length_le (by omega)]
      simp
    | succ d ih =>
      intro i hi
      have hlt : i < l.length := by omega
      have hx := rdJ_eq (getD_eq l i hlt)
      refine Ev.step (fun k => ?_) (ih (i + 1) (by omega))
      simp only [laws_toInstrS.l0, laws_toInstr.f, Option.bind_some]
      rw [if_pos (by omega), if_pos (by omega), if_pos (by simp; omega), hx, w64n i (by omega)]
      congr 1
      have e : ((i : Int)).toNat = ((l.take i).map cvI).length := by simp; omega
      rw [e]
      have := set_fill ((l.take i).map cvI) (List.replicate d z83) z83 (cvI l[i])
      simp only [List.length_replicate] at this
      rw [show (⟨l[i].f0, l[i].f1, l[i].f2, l[i].f3, l[i].f4⟩ : Instr) = cvI l[i] from rfl, this]
      congr 1
      rw [List.take_succ_eq_append_getElem hlt, List.map_append]
      rfl
  unfold laws_toInstrS.f
  refine Ev.ifp (by omega) (Ev.ifp (by simp; omega) ?_)
  simpa using key l.length 0 (by omega)
theorem toIntS_ev (l : List Int) (hl : l.length ≤ 1048576) : Ev (fun k => laws_toIntS.f k l) l := by
  have key : ∀ (d i : Nat), i + d = l.length → Ev (fun k => laws_toIntS.l0 k l (l.take i ++ List.replicate d 0) i) l := by
    intro d
    induction d with
    | zero =>
      intro i hi
      refine Ev.step (f := fun _ => some _) (fun k => ?_) (Ev.now _)
      simp only [laws_toIntS.l0]
      rw [if_neg (by omega), List.take_of_length_le (by omega)]
      simp
    | succ d ih =>
      intro i hi
      have hlt : i < l.length := by omega
      have hx := rd_eq (getD_eq l i hlt)
      refine Ev.step (fun k => ?_) (ih (i + 1) (by omega))
      simp only [laws_toIntS.l0]
      rw [if_pos (by omega), if_pos (by omega), if_pos (by simp; omega), hx, w64n i (by omega)]
      congr 1
      have e : ((i : Int)).toNat = (l.take i).length := by simp; omega
      rw [e]
      have := set_fill (l.take i) (List.replicate d (0 : Int)) 0 l[i]
      simp only [List.length_replicate] at this
      rw [this]
      congr 1
      rw [List.take_succ_eq_append_getElem hlt]
  unfold laws_toIntS.f
  refine Ev.ifp (by omega) (Ev.ifp (by simp; omega) ?_)
  simpa using key l.length 0 (by omega)
theorem eqInstrS_refl (l : List Instr) (hl : l.length ≤ 1048576) : Ev (fun k => laws_eqInstrS.f k l l) true := by
  unfold laws_eqInstrS.f
  simp only [if_true]
  refine loop_list (σ := Unit) l (fun k _ i => laws_eqInstrS.l0 k l l i) (fun _ _ => true) (fun _ => ?_) (fun i _ x rest hi hx ih => ?_) ()
  · refine Ev.step (f := fun _ => some true) (fun k => ?_) (Ev.now _)
    simp only [laws_eqInstrS.l0]
    rw [if_neg (by omega)]
  · refine Ev.step (fun k => ?_) (ih ())
    simp only [laws_eqInstrS.l0, laws_eqInstr.f, reduceIte, Option.bind_some]
    rw [if_pos (by omega), if_pos (by omega), w64n i (by omega), if_pos (by omega)]
theorem eqIntS_refl (l : List Int) (hl : l.length ≤ 1048576) : Ev (fun k => laws_eqIntS.f k l l) true := by
  unfold laws_eqIntS.f
  simp only [if_true]
  refine loop_list (σ := Unit) l (fun k _ i => laws_eqIntS.l0 k l l i) (fun _ _ => true) (fun _ => ?_) (fun i _ x rest hi hx ih => ?_) ()
  · refine Ev.step (f := fun _ => some true) (fun k => ?_) (Ev.now _)
    simp only [laws_eqIntS.l0]
    rw [if_neg (by omega)]
  · refine Ev.step (fun k => ?_) (ih ())
    simp only [laws_eqIntS.l0, if_true]
    rw [if_pos (by omega), if_pos (by omega), w64n i (by omega), if_pos (by omega)]
end Go.Proofs.Ytidfcpdidjncnaa.PL
end
section
namespace Go.Proofs.Ytidfcpdidjncnaa.PL
open Go Go.RowKit Go.Proofs.YtidfcpdidjncnaaW.PrintWords Go.Proofs.YtidfcpdidjncnaaW.PrintLast Go.Proofs.YtidfcpdidjncnaaW.PrintMore Go.Proofs.Ytidfcpdidjncnaa.Q
set_option linter.unusedSimpArgs false
set_option linter.unusedVariables false
def shapeC (c : Nat) : Bool × Bool × Bool × Int × Int :=
  match c with
  | 0 => (true, false, false, 0, 63)
  | 1 => (true, true, false, 0, 0)
  | 2 => (true, true, true, 0, 0)
  | 3 => (true, true, true, 0, 0)
  | 4 => (true, true, true, 0, 0)
  | 5 => (true, true, false, 0, 63)
  | 6 => (true, true, false, 1, 5)
  | 7 => (true, true, true, 1, 3)
  | _ => (false, false, false, 0, 0)
theorem shape_closed : ∀ p ∈ ops, spec_cdShape.f 20 p.1 = some (shapeC p.2) := by decide +kernel
theorem shape_ev (s : ByteArray) : Ev (fun k => spec_cdShape.f k s) (shapeC (cls s)) := by
  refine op_cases (P := fun s => Ev (fun k => spec_cdShape.f k s) (shapeC (cls s))) s (fun p hp => ?_) (fun h => ?_)
  · rw [cls_op p hp]
    exact Ev.of (spec_cdShape.mono _) (shape_closed p hp)
  · rw [cls_none h]
    obtain ⟨h0, h1, h2, h3, h4, h5, h6, h7, h8, h9, h10, h11, h12, h13, h14, h15, h16, h17, h18, h19⟩ := not_ops h
    refine Ev.of (spec_cdShape.mono _) (k := 5) ?_
    simp only [spec_cdShape.f, spec_cdShape.j0, spec_cdShape.j1, spec_cdShape.j2, spec_cdShape.j3, h0, h1, h2, h3, h4, h5, h6, h7, h8, h9, h10, h11, h12, h13, h14, h15, h16, h17, h18, h19, if_false, beq_iff_eq]
    rfl
theorem within_eq (a b c : Int) : impl_within.f a b c = some (decide (b ≤ a ∧ a ≤ c)) := by
  unfold impl_within.f
  by_cases h : b ≤ a <;> simp [h]
theorem l1In_eq (a b c : Int) : spec_l1In.f a b c = some (decide (b ≤ a ∧ a ≤ c)) := by
  unfold spec_l1In.f
  by_cases h : a ≥ b
  · rw [if_pos h]; congr 1; rw [decide_eq_decide]; omega
  · rw [if_neg h]; congr 1; symm; rw [decide_eq_false_iff_not]; omega
theorem isRegister_eq (a : Int) : impl_isRegister.f a = some (decide (0 ≤ a ∧ a ≤ 5)) := by
  unfold impl_isRegister.f
  rw [within_eq]; rfl
theorem cdReg_eq (a : Int) : spec_cdReg.f a = some (decide (0 ≤ a ∧ a ≤ 5)) := by
  unfold spec_cdReg.f
  rw [l1In_eq]; rfl
def okI (x : Instr) : Prop := cls x.f0 ≠ 8 ∧ (0 ≤ x.f1 ∧ x.f1 ≤ 5) ∧ ((shapeC (cls x.f0)).2.1 = true ∧ 0 ≤ x.f2 ∧ x.f2 ≤ 5 ∨ x.f2 = 0) ∧ ((shapeC (cls x.f0)).2.2.1 = true ∧ 0 ≤ x.f3 ∧ x.f3 ≤ 5 ∨ x.f3 = 0) ∧ (shapeC (cls x.f0)).2.2.2.1 ≤ x.f4 ∧ x.f4 ≤ (shapeC (cls x.f0)).2.2.2.2
instance (x : Instr) : Decidable (okI x) := by unfold okI; infer_instance
theorem cls_le (s : ByteArray) : cls s ≤ 8 := by
  refine op_cases (P := fun s => cls s ≤ 8) s (by decide +kernel) (fun h => by rw [cls_none h]; exact Nat.le_refl _)
theorem cls_cases (s : ByteArray) : cls s = 0 ∨ cls s = 1 ∨ cls s = 2 ∨ cls s = 3 ∨ cls s = 4 ∨ cls s = 5 ∨ cls s = 6 ∨ cls s = 7 ∨ cls s = 8 := by have := cls_le s; omega
theorem isInstr_eq (x : Instr) : impl_IsInstr.f x.f0 x.f1 x.f2 x.f3 x.f4 = some (decide (okI x)) := by
  unfold impl_IsInstr.f
  congr 1
  obtain ⟨s, d, a, b, m⟩ := x
  simp only [okI]
  rw [Bool.eq_iff_iff]
  simp only [okF, Bool.and_eq_true, Bool.or_eq_true, decide_eq_true_eq, Bool.not_eq_true', decide_eq_false_iff_not]
  rcases cls_cases s with h | h | h | h | h | h | h | h | h <;> simp only [h, formC, shapeC] <;> simp <;> omega
theorem cdGood_ev (x : Instr) : Ev (fun k => spec_cdGood.f k x.f0 x.f1 x.f2 x.f3 x.f4) (decide (okI x)) := by
  unfold spec_cdGood.f
  refine Ev.bind (shape_ev x.f0) (Ev.const ?_)
  obtain ⟨s, d, a, b, m⟩ := x
  simp only [l1In_eq, cdReg_eq, Option.bind_some, okI]
  rcases cls_cases s with h | h | h | h | h | h | h | h | h <;> simp only [h, shapeC] <;> by_cases h1 : 0 ≤ d ∧ d ≤ 5 <;> by_cases h2 : 0 ≤ a ∧ a ≤ 5 <;> by_cases h3 : 0 ≤ b ∧ b ≤ 5 <;> (try simp [h1, h2, h3]) <;> (repeat' split) <;> (try (rw [Bool.eq_iff_iff]; simp only [Bool.and_eq_true, decide_eq_true_eq, beq_iff_eq, true_iff, false_iff, Bool.false_eq_true, iff_false, iff_true])) <;> (try simp only [Option.some.injEq]) <;> (try (rw [Bool.eq_iff_iff]; simp only [Bool.and_eq_true, decide_eq_true_eq, beq_iff_eq, true_iff, false_iff, Bool.false_eq_true, iff_false, iff_true])) <;> (try omega)
end Go.Proofs.Ytidfcpdidjncnaa.PL
end
section
namespace Go.Proofs.Ytidfcpdidjncnaa.PL
open Go Go.RowKit Go.Proofs.YtidfcpdidjncnaaW.PrintWords Go.Proofs.YtidfcpdidjncnaaW.PrintLast Go.Proofs.YtidfcpdidjncnaaW.PrintMore Go.Proofs.Ytidfcpdidjncnaa.Q
set_option linter.unusedSimpArgs false
set_option linter.unusedVariables false
def okCode (l : List Instr) : Bool := decide (l.length ≤ 40) && l.all (fun x => decide (okI x))
def okBlock (l : List Instr) : Bool := decide (l.length ≤ 20) && l.all (fun x => decide (okI x))
theorem isCode_ev (l : List Instr) : Ev (fun k => impl_IsCode.f k l) (okCode l) := by
  unfold impl_IsCode.f
  by_cases hl : l.length ≤ 40
  · refine Ev.ifp (by omega) ?_
    have h : Ev (fun k => slices_IndexFunc_impl_IsCode_1.f k l) (idx (fun x => !decide (okI x)) l) := by
      unfold slices_IndexFunc_impl_IsCode_1.f
      refine search_ev l _ (fun k i => slices_IndexFunc_impl_IsCode_1.l0 k l l.length i) ?_ (fun i x hi hx hp => ?_) (fun i x r hi hx hp hr => ?_)
      · refine Ev.step (f := fun _ => some (-1)) (fun k => ?_) (Ev.now _)
        simp only [slices_IndexFunc_impl_IsCode_1.l0]
        rw [if_neg (by omega)]
      · refine Ev.step (f := fun _ => some (i : Int)) (fun k => ?_) (Ev.now _)
        simp only [slices_IndexFunc_impl_IsCode_1.l0, impl_IsCode_1.f, rdI_eq hx, isInstr_eq, Option.bind_some, hp]
        rw [if_pos (by omega), if_pos (by omega), if_pos (by omega), if_pos trivial]
      · refine Ev.step (fun k => ?_) hr
        simp only [slices_IndexFunc_impl_IsCode_1.l0, impl_IsCode_1.f, rdI_eq hx, isInstr_eq, Option.bind_some, hp]
        rw [if_pos (by omega), if_pos (by omega), if_pos (by omega), if_neg (by simp), w64n i (by omega)]
    unfold slices_ContainsFunc_impl_IsCode_1.f
    refine Ev.bind (Ev.bind h (Ev.now _)) (Ev.some ?_)
    have e := idx_nonneg (fun x => !decide (okI x)) l
    unfold okCode
    rw [show decide (l.length ≤ 40) = true by simpa using hl, Bool.true_and]
    by_cases hc : 0 ≤ idx (fun x => !decide (okI x)) l
    · obtain ⟨x, hx, hx'⟩ := e.1 hc
      rw [decide_eq_true (show idx (fun x => !decide (okI x)) l ≥ 0 from hc)]
      symm
      simpa using ⟨x, hx, by simpa using hx'⟩
    · rw [decide_eq_false (show ¬ idx (fun x => !decide (okI x)) l ≥ 0 from hc)]
      symm
      have := fun h => hc (e.2 h)
      simpa using this
  · refine Ev.ifn (by omega) (Ev.some ?_)
    unfold okCode
    rw [show decide (l.length ≤ 40) = false by simpa using hl]
    rfl
theorem cdCode_ev (l : List Instr) : Ev (fun k => spec_cdCode.f k l) (okCode l) := by
  unfold spec_cdCode.f
  by_cases hl : l.length ≤ 40
  · refine Ev.ifn (by omega) ?_
    unfold okCode
    rw [show decide (l.length ≤ 40) = true by simpa using hl, Bool.true_and]
    refine all_ev l _ (fun k i => spec_cdCode.l0 k l l.length i) ?_ (fun i x hi hx hp => ?_) (fun i x r hi hx hp hr => ?_)
    · refine Ev.step (f := fun _ => some true) (fun k => ?_) (Ev.now _)
      simp only [spec_cdCode.l0]
      rw [if_neg (by omega)]
    · refine Ev.step (fun k => by simp only [spec_cdCode.l0, rdI_eq hx]; rfl) ?_
      refine Ev.ifp (by omega) (Ev.ifp (by omega) (Ev.ifp (by omega) ?_))
      exact Ev.bind (cdGood_ev x) (Ev.ifn (by simpa using hp) (Ev.now _))
    · refine Ev.step (fun k => by simp only [spec_cdCode.l0, rdI_eq hx, w64n i (show i < 4611686018427387904 by omega)]; rfl) ?_
      refine Ev.ifp (by omega) (Ev.ifp (by omega) (Ev.ifp (by omega) ?_))
      exact Ev.bind (cdGood_ev x) (Ev.ifp (by simpa using hp) hr)
  · refine Ev.ifp (by omega) (Ev.some ?_)
    unfold okCode
    rw [show decide (l.length ≤ 40) = false by simpa using hl]
    rfl
theorem okBlock_eq (l : List Instr) : okBlock l = (okCode l && decide (l.length ≤ 20)) := by
  unfold okBlock okCode
  by_cases h : l.length ≤ 20
  · simp [h, show l.length ≤ 40 by omega]
  · simp [h]
theorem isBlock_ev (l : List Instr) : Ev (fun k => impl_isBlock.f k l) (okBlock l) := by
  unfold impl_isBlock.f
  refine Ev.bind (isCode_ev l) ?_
  rw [okBlock_eq]
  cases h : okCode l
  · exact Ev.ifn (by simp) (Ev.some rfl)
  · refine Ev.ifp rfl (Ev.some ?_)
    rw [Bool.true_and, decide_eq_decide]
    omega
end Go.Proofs.Ytidfcpdidjncnaa.PL
end
section
namespace Go.Proofs.Ytidfcpdidjncnaa.Q
open Go.RowKit Go.Proofs.YtidfcpdidjncnaaW.PrintWords Go.Proofs.YtidfcpdidjncnaaW.PrintLast Go.Proofs.YtidfcpdidjncnaaW.PrintMore
attribute [local go_sem] max2_int min2_int max_two min_two max_three min_three max_four min_four
set_option linter.unusedVariables false
set_option linter.unusedSimpArgs false
end Go.Proofs.Ytidfcpdidjncnaa.Q
end
section
namespace Go.Proofs.Ytidfcpdidjncnaa.Q
open Go.RowKit Go.Proofs.YtidfcpdidjncnaaW.PrintWords Go.Proofs.YtidfcpdidjncnaaW.PrintLast Go.Proofs.YtidfcpdidjncnaaW.PrintMore
attribute [local go_sem] max2_int min2_int max_two min_two max_three min_three max_four min_four
set_option linter.unusedVariables false
set_option linter.unusedSimpArgs false
end Go.Proofs.Ytidfcpdidjncnaa.Q
end
section
namespace Go.Proofs.Ytidfcpdidjncnaa.Q
open Go.RowKit Go.Proofs.YtidfcpdidjncnaaW.PrintWords Go.Proofs.YtidfcpdidjncnaaW.PrintLast Go.Proofs.YtidfcpdidjncnaaW.PrintMore
attribute [local go_sem] max2_int min2_int max_two min_two max_three min_three max_four min_four
set_option linter.unusedVariables false
set_option linter.unusedSimpArgs false
end Go.Proofs.Ytidfcpdidjncnaa.Q
end
section
namespace Go.Proofs.Ytidfcpdidjncnaa.PL
open Go Go.RowKit Go.Proofs.YtidfcpdidjncnaaW.PrintWords Go.Proofs.YtidfcpdidjncnaaW.PrintLast Go.Proofs.YtidfcpdidjncnaaW.PrintMore Go.Proofs.Ytidfcpdidjncnaa.Q
set_option linter.unusedSimpArgs false
set_option linter.unusedVariables false
theorem and63_eq (n : Int) : bits .and .i64 n 63 = n % 64 := by
  have h63 : (BitVec.ofInt 64 63).toNat = 2 ^ 6 - 1 := by decide
  have key : (BitVec.ofInt 64 n &&& BitVec.ofInt 64 63).toNat = (n % ((2 ^ 64 : Nat) : Int)).toNat % 2 ^ 6 := by
    rw [BitVec.toNat_and, BitVec.toNat_ofInt, h63, Nat.and_two_pow_sub_one_eq_mod]
  show IntKind.i64.wrap ((BitVec.ofInt 64 n &&& BitVec.ofInt 64 63).toNat : Nat) = n % 64
  rw [key, IntKind.wrap_i64]
  omega
def okV (v : Int) : Prop := 0 ≤ v ∧ v ≤ 63
theorem okV_and (n : Int) : okV (bits .and .i64 n 63) := by
  rw [and63_eq]
  unfold okV
  omega
theorem bit_eq (b : Bool) : impl_bit.f b = some (if b = true then 1 else 0) := by
  cases b <;> rfl
theorem apply_eq (s : ByteArray) (a b : Int) : impl_apply.f s a b = spec_exApply.f s a b := by
  unfold impl_apply.f spec_exApply.f
  simp only [bit_eq, Option.bind_some]
  repeat refine ite_congr rfl (fun _ => rfl) (fun _ => ?_)
  refine ite_congr rfl (fun _ => ?_) (fun _ => ite_congr rfl (fun _ => ?_) (fun _ => rfl))
  · by_cases h : a < b
    · rw [if_pos h, if_pos (by simpa using h)]
    · rw [if_neg h, if_neg (by simpa using h)]
  · by_cases h : a = b
    · rw [if_pos h, if_pos (by simpa using h)]
    · rw [if_neg h, if_neg (by simpa using h)]
theorem ex_ite {c : Prop} [Decidable c] {x y : Option Int} {P : Int → Prop} (hx : ∃ v, x = some v ∧ P v) (hy : ∃ v, y = some v ∧ P v) : ∃ v, (if c then x else y) = some v ∧ P v := by
  by_cases h : c
  · rw [if_pos h]; exact hx
  · rw [if_neg h]; exact hy
theorem exApply_ok (s : ByteArray) (a b : Int) (hb : 0 ≤ b) : ∃ v, spec_exApply.f s a b = some v ∧ okV v := by
  unfold spec_exApply.f
  rw [if_pos hb, if_pos hb]
  repeat' refine ex_ite ?_ ?_
  all_goals exact ⟨_, rfl, okV_and _⟩
def okS (s : List Int) : Prop := s.length = 6 ∧ ∀ v ∈ s, okV v
theorem okS_rd {s : List Int} (h : okS s) {i : Int} (h0 : 0 ≤ i) (h1 : i ≤ 5) : okV (rd s i) := by
  have hi : i.toNat < s.length := by rw [h.1]; omega
  unfold rd
  rw [getD_eq s _ hi]
  exact h.2 _ (List.getElem_mem hi)
theorem okS_set {s : List Int} (h : okS s) (i : Nat) {v : Int} (hv : okV v) : okS (s.set i v) := by
  refine ⟨by rw [List.length_set]; exact h.1, fun u hu => ?_⟩
  rcases List.mem_or_eq_of_mem_set hu with hu | rfl
  · exact h.2 u hu
  · exact hv
theorem okI_regs {x : Instr} (h : okI x) : 0 ≤ x.f1 ∧ x.f1 ≤ 5 ∧ 0 ≤ x.f2 ∧ x.f2 ≤ 5 ∧ 0 ≤ x.f3 ∧ x.f3 ≤ 5 ∧ 0 ≤ x.f4 ∧ x.f4 ≤ 63 := by
  obtain ⟨hc, h1, h2, h3, h4⟩ := h
  rcases cls_cases x.f0 with e | e | e | e | e | e | e | e | e <;> simp only [e, shapeC] at h2 h3 h4 <;> simp at h2 h3 h4 <;> first | omega | exact absurd e hc
theorem value_ok (x : Instr) (s : List Int) (h : okI x) (hs : okS s) : ∃ v, spec_cdValue.f x.f0 x.f1 x.f2 x.f3 x.f4 s = some v ∧ okV v := by
  obtain ⟨h1, h1', h2, h2', h3, h3', h4, h4'⟩ := okI_regs h
  have hl := hs.1
  have ha := okS_rd hs h2 h2'
  have hb := okS_rd hs h3 h3'
  unfold spec_cdValue.f
  rw [if_pos h2, if_pos (by omega), if_pos h3, if_pos (by omega)]
  have one : ∀ t a b, 0 ≤ b → ∃ v, ((spec_exApply.f t a b).bind fun v => some v) = some v ∧ okV v := fun t a b hb => by
    obtain ⟨v, e, hv⟩ := exApply_ok t a b hb
    exact ⟨v, by rw [e]; rfl, hv⟩
  by_cases qset : x.f0.toList = ([115, 101, 116] : List UInt8)
  · rw [if_pos qset]
    exact ⟨_, rfl, h4, h4'⟩
  rw [if_neg qset]
  by_cases qmov : x.f0.toList = ([109, 111, 118] : List UInt8)
  · rw [if_pos qmov]
    exact ⟨_, rfl, ha⟩
  rw [if_neg qmov]
  by_cases qaddi : x.f0.toList = ([97, 100, 100, 105] : List UInt8)
  · rw [if_pos qaddi]
    exact one _ _ _ h4
  rw [if_neg qaddi]
  by_cases qandi : x.f0.toList = ([97, 110, 100, 105] : List UInt8)
  · rw [if_pos qandi]
    exact one _ _ _ h4
  rw [if_neg qandi]
  by_cases qxori : x.f0.toList = ([120, 111, 114, 105] : List UInt8)
  · rw [if_pos qxori]
    exact one _ _ _ h4
  rw [if_neg qxori]
  by_cases qshli : x.f0.toList = ([115, 104, 108, 105] : List UInt8)
  · rw [if_pos qshli]
    exact one _ _ _ h4
  rw [if_neg qshli]
  by_cases qshri : x.f0.toList = ([115, 104, 114, 105] : List UInt8)
  · rw [if_pos qshri]
    exact one _ _ _ h4
  rw [if_neg qshri]
  by_cases qlea : x.f0.toList = ([108, 101, 97] : List UInt8)
  · rw [if_pos qlea]
    obtain ⟨v, e, hv⟩ := exApply_ok (⟨#[115, 104, 108]⟩ : ByteArray) (rd s x.f3) x.f4 h4
    obtain ⟨v', e', hv'⟩ := exApply_ok (⟨#[97, 100, 100]⟩ : ByteArray) (rd s x.f2) v hv.1
    exact ⟨v', by rw [e, Option.bind_some, e']; rfl, hv'⟩
  rw [if_neg qlea]
  exact one _ _ _ hb.1
def valM (x : Instr) (s : List Int) : Int := (spec_cdValue.f x.f0 x.f1 x.f2 x.f3 x.f4 s).getD 0
def stepM (s : List Int) (x : Instr) : List Int := s.set x.f1.toNat (valM x s)
theorem valM_eq (x : Instr) (s : List Int) (h : okI x) (hs : okS s) : spec_cdValue.f x.f0 x.f1 x.f2 x.f3 x.f4 s = some (valM x s) ∧ okV (valM x s) := by
  obtain ⟨v, e, hv⟩ := value_ok x s h hs
  unfold valM
  rw [e]
  exact ⟨rfl, hv⟩
theorem stepM_ok (x : Instr) (s : List Int) (h : okI x) (hs : okS s) : okS (stepM s x) := okS_set hs _ (valM_eq x s h hs).2
theorem cut3 {s : ByteArray} {a b c d : UInt8} (h : s.toList = [a, b, c, d]) : (3 : Int) ≤ (s.size : Int) ∧ s.extract 0 3 = ⟨#[a, b, c]⟩ := by
  have e : s = ⟨#[a, b, c, d]⟩ := str_lit.1 h
  rw [e]
  exact ⟨by show (3 : Int) ≤ ((4 : Nat) : Int); decide, rfl⟩
theorem word_ev (x : Instr) (s : List Int) (h : okI x) (hs : okS s) : Ev (fun k => impl_Instr_word.f k x.f0 x.f1 x.f2 x.f3 x.f4 (rd s x.f2) (rd s x.f3)) (valM x s) := by
  obtain ⟨h1, h1', h2, h2', h3, h3', h4, h4'⟩ := okI_regs h
  have hl := hs.1
  have e := (valM_eq x s h hs).1
  generalize valM x s = v at e
  unfold spec_cdValue.f at e
  rw [if_pos h2, if_pos (by omega), if_pos h3, if_pos (by omega)] at e
  have bs : ∀ (o : Option Int) r, (o.bind fun v => some v) = some r → o = some r := fun o r h => by
    cases o with
    | none => cases h
    | some y => exact h
  unfold impl_Instr_word.f
  by_cases q1 : x.f0.toList = [115, 101, 116]
  · rw [if_pos q1] at e
    exact Ev.ifp q1 (Ev.const e)
  refine Ev.ifn q1 ?_
  rw [if_neg q1] at e
  by_cases q2 : x.f0.toList = [109, 111, 118]
  · rw [if_pos q2] at e
    exact Ev.ifp q2 (Ev.const e)
  refine Ev.ifn q2 ?_
  rw [if_neg q2] at e
  by_cases q3 : x.f0.toList = [108, 101, 97]
  · refine Ev.ifp q3 (Ev.const ?_)
    rw [if_neg (by rw [q3]; decide), if_neg (by rw [q3]; decide), if_neg (by rw [q3]; decide), if_neg (by rw [q3]; decide), if_neg (by rw [q3]; decide), if_pos q3] at e
    simp only [apply_eq]
    exact e
  refine Ev.ifn q3 ?_
  have imm : ∀ a b c d : UInt8, x.f0.toList = [a, b, c, d] → spec_exApply.f ⟨#[a, b, c]⟩ (rd s x.f2) x.f4 = some v → Ev (fun k => impl_Instr_word.j0 k (rd s x.f2) (rd s x.f3) (x.f0.toList == ([a, b, c, d] : List UInt8)) x.f0 x.f1 x.f2 x.f3 x.f4) v := fun a b c d q hv => by
    obtain ⟨hc, hc'⟩ := cut3 q
    refine Ev.step (fun k => by simp only [impl_Instr_word.j0]; rfl) (Ev.ifp (by rw [q]; simp) (Ev.ifp (by decide) (Ev.ifp hc (Ev.const ?_))))
    rw [apply_eq, hc', hv]
    rfl
  by_cases q4 : x.f0.toList = [97, 100, 100, 105]
  · rw [if_pos q4] at e
    exact Ev.ifp q4 (imm _ _ _ _ q4 (bs _ _ e))
  refine Ev.ifn q4 ?_
  rw [if_neg q4] at e
  by_cases q5 : x.f0.toList = [97, 110, 100, 105]
  · rw [if_pos q5] at e
    exact Ev.ifp q5 (imm _ _ _ _ q5 (bs _ _ e))
  refine Ev.ifn q5 ?_
  rw [if_neg q5] at e
  by_cases q6 : x.f0.toList = [120, 111, 114, 105]
  · rw [if_pos q6] at e
    exact Ev.ifp q6 (imm _ _ _ _ q6 (bs _ _ e))
  refine Ev.ifn q6 ?_
  rw [if_neg q6] at e
  by_cases q7 : x.f0.toList = [115, 104, 108, 105]
  · rw [if_pos q7] at e
    exact Ev.ifp q7 (imm _ _ _ _ q7 (bs _ _ e))
  refine Ev.ifn q7 ?_
  rw [if_neg q7] at e
  by_cases q8 : x.f0.toList = [115, 104, 114, 105]
  · rw [if_pos q8] at e
    exact imm _ _ _ _ q8 (bs _ _ e)
  rw [if_neg q8, if_neg q3] at e
  refine Ev.step (fun k => by simp only [impl_Instr_word.j0]; rfl) (Ev.ifn (by simpa using q8) (Ev.const ?_))
  rw [apply_eq, bs _ _ e]
  rfl
def runM (l : List Instr) (s : List Int) : List Int := l.foldl stepM s
theorem runM_ok (l : List Instr) (h : ∀ x ∈ l, okI x) : ∀ s, okS s → okS (runM l s) := by
  induction l with
  | nil => exact fun s hs => hs
  | cons x l ih => exact fun s hs => ih (fun y hy => h y (List.mem_cons_of_mem _ hy)) _ (stepM_ok x s (h x (List.mem_cons_self)) hs)
theorem run_ev (l : List Instr) (hl : l.length ≤ 40) (h : ∀ x ∈ l, okI x) (s : List Int) (hs : okS s) : Ev (fun k => impl_run.f k l s) (runM l s) := by
  unfold impl_run.f
  have key : ∀ (d i : Nat) (s : List Int), okS s → i + d = l.length → Ev (fun k => impl_run.l0 k s l l.length i) (runM (l.drop i) s) := by
    intro d
    induction d with
    | zero =>
      intro i s hs hi
      refine Ev.step (f := fun _ => some s) (fun k => ?_) (Ev.some ?_)
      · simp only [impl_run.l0]
        rw [if_neg (by omega)]
      · rw [List.drop_of_length_le (by omega)]
        rfl
    | succ d ih =>
      intro i s hs hi
      have hlt : i < l.length := by omega
      have e : l.drop i = l[i] :: l.drop (i + 1) := List.drop_eq_getElem_cons hlt
      have hx := rdI_eq (getD_eq l i hlt)
      have ok := h l[i] (List.getElem_mem hlt)
      obtain ⟨h1, h1', h2, h2', h3, h3', h4, h4'⟩ := okI_regs ok
      have hq := hs.1
      rw [e]
      refine Ev.step (fun k => by simp only [impl_run.l0, hx]; rfl) ?_
      refine Ev.ifp (by omega) (Ev.ifp (by omega) (Ev.ifp (by omega) (Ev.ifp h2 (Ev.ifp (by omega) (Ev.ifp h3 (Ev.ifp (by omega) ?_))))))
      refine Ev.bind (word_ev l[i] s ok hs) ?_
      refine Ev.ifp h1 (Ev.ifp (by omega) ?_)
      rw [w64n i (by omega)]
      exact ih (i + 1) _ (stepM_ok _ s ok hs) (by omega)
  simpa using key l.length 0 s hs (by omega)
theorem own_eq (l : List Int) (h : l.length ≤ 1048576) : spec_l1Own.f l = some l := by
  unfold spec_l1Own.f
  rw [Option.bind_some, if_pos (by simp; omega)]
  rfl
theorem cdStep_eq (x : Instr) (s : List Int) (h : okI x) (hs : okS s) : spec_cdStep.f x.f0 x.f1 x.f2 x.f3 x.f4 s = some (stepM s x) := by
  obtain ⟨h1, h1', h2, h2', h3, h3', h4, h4'⟩ := okI_regs h
  have hq := hs.1
  unfold spec_cdStep.f
  rw [own_eq s (by omega), Option.bind_some, (valM_eq x s h hs).1, Option.bind_some, if_pos h1, if_pos (by omega)]
  rfl
theorem cdRun_ev (l : List Instr) (hl : l.length ≤ 40) (h : ∀ x ∈ l, okI x) (s : List Int) (hs : okS s) : Ev (fun k => spec_cdRun.f k l s) (runM l s) := by
  unfold spec_cdRun.f
  refine Ev.call (own_eq s (by rw [hs.1]; decide)) ?_
  have key : ∀ (d i : Nat) (s : List Int), okS s → i + d = l.length → Ev (fun k => spec_cdRun.l0 k s l l.length i) (runM (l.drop i) s) := by
    intro d
    induction d with
    | zero =>
      intro i s hs hi
      refine Ev.step (f := fun _ => some s) (fun k => ?_) (Ev.some ?_)
      · simp only [spec_cdRun.l0]
        rw [if_neg (by omega)]
      · rw [List.drop_of_length_le (by omega)]
        rfl
    | succ d ih =>
      intro i s hs hi
      have hlt : i < l.length := by omega
      have e : l.drop i = l[i] :: l.drop (i + 1) := List.drop_eq_getElem_cons hlt
      have hx := rdI_eq (getD_eq l i hlt)
      have ok := h l[i] (List.getElem_mem hlt)
      rw [e]
      refine Ev.step (fun k => ?_) (ih (i + 1) _ (stepM_ok _ s ok hs) (by omega))
      simp only [spec_cdRun.l0, hx]
      rw [if_pos (by omega), if_pos (by omega), if_pos (by omega), cdStep_eq _ s ok hs, Option.bind_some, w64n i (by omega)]
  simpa using key l.length 0 s hs (by omega)
def st0 (a b : Int) : List Int := [a, b, 0, 0, 0, 0]
theorem st0_ok {a b : Int} (ha : okV a) (hb : okV b) : okS (st0 a b) := by
  refine ⟨rfl, fun v hv => ?_⟩
  have hz : okV 0 := by unfold okV; decide
  simp only [st0, List.mem_cons, List.not_mem_nil, or_false] at hv
  rcases hv with rfl | rfl | rfl | rfl | rfl | rfl <;> assumption
def endM (l : List Instr) (a b : Int) : List Int := runM l (st0 a b)
theorem result_ev (l : List Instr) (hl : l.length ≤ 40) (h : ∀ x ∈ l, okI x) {a b : Int} (ha : okV a) (hb : okV b) : Ev (fun k => impl_result.f k l a b) (endM l a b) := by
  unfold impl_result.f
  refine Ev.ifp (by decide) (Ev.call rfl (Ev.ifp (by decide) (Ev.ifp (by decide) ?_)))
  exact Ev.bind (run_ev l hl h (st0 a b) (st0_ok ha hb)) (Ev.now _)
theorem cdStart_eq (a b : Int) : spec_cdStart.f a b = some (st0 a b) := rfl
theorem vaGood_ev (l : List Instr) : Ev (fun k => spec_vaGood.f k l) (okBlock l) := by
  unfold spec_vaGood.f
  rw [okBlock_eq]
  by_cases h : (l.length : Int) ≤ 20
  · refine Ev.ifp h (Ev.bind (cdCode_ev l) (Ev.some ?_))
    rw [decide_eq_true (show l.length ≤ 20 by omega), Bool.and_true]
  · refine Ev.ifn h (Ev.some ?_)
    rw [decide_eq_false (show ¬ l.length ≤ 20 by omega), Bool.and_false]
end Go.Proofs.Ytidfcpdidjncnaa.PL
end
section
namespace Go.Proofs.Ytidfcpdidjncnaa.PL
open Go Go.RowKit Go.Proofs.YtidfcpdidjncnaaW.PrintWords Go.Proofs.YtidfcpdidjncnaaW.PrintLast Go.Proofs.YtidfcpdidjncnaaW.PrintMore Go.Proofs.Ytidfcpdidjncnaa.Q
set_option linter.unusedSimpArgs false
set_option linter.unusedVariables false
end Go.Proofs.Ytidfcpdidjncnaa.PL
end
section
namespace Go.Proofs.Ytidfcpdidjncnaa.Q
open Go.RowKit Go.Proofs.YtidfcpdidjncnaaW.PrintWords Go.Proofs.YtidfcpdidjncnaaW.PrintLast Go.Proofs.YtidfcpdidjncnaaW.PrintMore
attribute [local go_sem] max2_int min2_int max_two min_two max_three min_three max_four min_four
set_option linter.unusedVariables false
set_option linter.unusedSimpArgs false
end Go.Proofs.Ytidfcpdidjncnaa.Q
end
section
namespace Go.Proofs.Ytidfcpdidjncnaa.Q
open Go.RowKit Go.Proofs.YtidfcpdidjncnaaW.PrintWords Go.Proofs.YtidfcpdidjncnaaW.PrintLast Go.Proofs.YtidfcpdidjncnaaW.PrintMore
attribute [local go_sem] max2_int min2_int max_two min_two max_three min_three max_four min_four
set_option linter.unusedVariables false
set_option linter.unusedSimpArgs false
end Go.Proofs.Ytidfcpdidjncnaa.Q
end
section
namespace Go.Proofs.Ytidfcpdidjncnaa.Q
open Go.RowKit Go.Proofs.YtidfcpdidjncnaaW.PrintWords Go.Proofs.YtidfcpdidjncnaaW.PrintLast Go.Proofs.YtidfcpdidjncnaaW.PrintMore
attribute [local go_sem] max2_int min2_int max_two min_two max_three min_three max_four min_four
set_option linter.unusedVariables false
set_option linter.unusedSimpArgs false
end Go.Proofs.Ytidfcpdidjncnaa.Q
end
section
namespace Go.Proofs.Ytidfcpdidjncnaa.Q
open Go.RowKit Go.Proofs.YtidfcpdidjncnaaW.PrintWords Go.Proofs.YtidfcpdidjncnaaW.PrintLast Go.Proofs.YtidfcpdidjncnaaW.PrintMore
attribute [local go_sem] max2_int min2_int max_two min_two max_three min_three max_four min_four
set_option linter.unusedVariables false
set_option linter.unusedSimpArgs false
end Go.Proofs.Ytidfcpdidjncnaa.Q
end
section
namespace Go.Proofs.Ytidfcpdidjncnaa.Q
open Go.RowKit Go.Proofs.YtidfcpdidjncnaaW.PrintWords Go.Proofs.YtidfcpdidjncnaaW.PrintLast Go.Proofs.YtidfcpdidjncnaaW.PrintMore
attribute [local go_sem] max2_int min2_int max_two min_two max_three min_three max_four min_four
set_option linter.unusedVariables false
set_option linter.unusedSimpArgs false
end Go.Proofs.Ytidfcpdidjncnaa.Q
end
section
namespace Go.Proofs.Ytidfcpdidjncnaa.PL
open Go Go.RowKit Go.Proofs.YtidfcpdidjncnaaW.PrintWords Go.Proofs.YtidfcpdidjncnaaW.PrintLast Go.Proofs.YtidfcpdidjncnaaW.PrintMore Go.Proofs.Ytidfcpdidjncnaa.Q
set_option linter.unusedSimpArgs false
set_option linter.unusedVariables false
def risingL : List Int → Bool
  | a :: b :: r => decide (a < b) && risingL (b :: r)
  | _ => true
def inR (w : Int) : Bool := decide (0 ≤ w ∧ w ≤ 5)
def okWant (ws : List Int) : Bool := risingL ws && ws.all inR
theorem isRising_ev (ws : List Int) (h : ws.length ≤ 1048576) : Ev (fun k => impl_isRising.f k ws) (risingL ws) := by
  unfold impl_isRising.f
  have key : ∀ (d i : Nat), i + 1 + d = ws.length → Ev (fun k => impl_isRising.l0 k ws ((i + 1 : Nat) : Int)) (risingL (ws.drop i)) := by
    intro d
    induction d with
    | zero =>
      intro i hi
      have hlt : i < ws.length := by omega
      have e : ws.drop i = ws[i] :: ws.drop (i + 1) := List.drop_eq_getElem_cons hlt
      refine Ev.step (f := fun _ => some true) (fun k => ?_) (Ev.some ?_)
      · simp only [impl_isRising.l0]
        rw [if_neg (by omega)]
      · rw [e, List.drop_of_length_le (by omega)]
        rfl
    | succ d ih =>
      intro i hi
      have hlt : i < ws.length := by omega
      have hlt' : i + 1 < ws.length := by omega
      have e : ws.drop i = ws[i] :: ws.drop (i + 1) := List.drop_eq_getElem_cons hlt
      have e' : ws.drop (i + 1) = ws[i + 1] :: ws.drop (i + 1 + 1) := List.drop_eq_getElem_cons hlt'
      refine Ev.step (fun k => by simp only [impl_isRising.l0, rd_eq (getD_eq ws (i + 1) hlt'), show wrap64 (((i + 1 : Nat) : Int) - 1) = (i : Int) by rw [w64 (by omega) (by omega)]; omega, rd_eq (getD_eq ws i hlt)]; rfl) (Ev.ifp (by omega) (Ev.ifp (by omega) (Ev.ifp (by omega) (Ev.ifp (by omega) ?_))))
      rw [e, e']
      by_cases q : ws[i + 1] ≤ ws[i]
      · refine Ev.ifp q (Ev.some ?_)
        simp only [risingL]
        rw [decide_eq_false (by omega)]
        rfl
      · refine Ev.ifn q ?_
        rw [w64n (i + 1) (by omega)]
        refine ev_eq (ih (i + 1) (by omega)) ?_
        rw [e']
        simp only [risingL]
        rw [decide_eq_true (show ws[i] < ws[i + 1] by omega)]
        rfl
  cases ws with
  | nil =>
    refine Ev.step (f := fun _ => some true) (fun k => ?_) (Ev.now _)
    simp only [impl_isRising.l0]
    rw [if_neg (by simp)]
  | cons w ws =>
    have := key ws.length 0 (by simp; omega)
    simpa using this
theorem areWanted_ev (ws : List Int) (h : ws.length ≤ 1048576) : Ev (fun k => impl_areWanted.f k ws) (okWant ws) := by
  unfold impl_areWanted.f okWant
  refine Ev.bind (isRising_ev ws h) ?_
  by_cases hr : risingL ws = true
  · refine Ev.ifp hr ?_
    rw [hr, Bool.true_and]
    have hs : Ev (fun k => slices_IndexFunc_impl_areWanted_1.f k ws) (idx (fun x => !inR x) ws) := by
      unfold slices_IndexFunc_impl_areWanted_1.f
      refine search_ev ws _ (fun k i => slices_IndexFunc_impl_areWanted_1.l0 k ws ws.length i) ?_ (fun i x hi hx hp => ?_) (fun i x r hi hx hp hr => ?_)
      · refine Ev.step (f := fun _ => some (-1)) (fun k => ?_) (Ev.now _)
        simp only [slices_IndexFunc_impl_areWanted_1.l0]
        rw [if_neg (by omega)]
      · refine Ev.step (f := fun _ => some (i : Int)) (fun k => ?_) (Ev.now _)
        simp only [slices_IndexFunc_impl_areWanted_1.l0, impl_areWanted_1.f, rd_eq hx, isRegister_eq, Option.bind_some]
        rw [if_pos (by omega), if_pos (by omega), if_pos (by omega), if_pos (show (!decide (0 ≤ x ∧ x ≤ 5)) = true from hp)]
      · refine Ev.step (fun k => ?_) hr
        simp only [slices_IndexFunc_impl_areWanted_1.l0, impl_areWanted_1.f, rd_eq hx, isRegister_eq, Option.bind_some]
        rw [if_pos (by omega), if_pos (by omega), if_pos (by omega), if_neg (show ¬ (!decide (0 ≤ x ∧ x ≤ 5)) = true from fun e => by rw [show (!decide (0 ≤ x ∧ x ≤ 5)) = false from hp] at e; cases e), w64n i (by omega)]
    unfold slices_ContainsFunc_impl_areWanted_1.f
    refine Ev.bind (Ev.bind hs (Ev.now _)) (Ev.some ?_)
    have e := idx_nonneg (fun x => !inR x) ws
    by_cases hc : 0 ≤ idx (fun x => !inR x) ws
    · obtain ⟨x, hx, hx'⟩ := e.1 hc
      rw [decide_eq_true (show idx (fun x => !inR x) ws ≥ 0 from hc)]
      symm
      simpa using ⟨x, hx, by simpa using hx'⟩
    · rw [decide_eq_false (show ¬ idx (fun x => !inR x) ws ≥ 0 from hc)]
      symm
      have := fun h => hc (e.2 h)
      simpa using this
  · refine Ev.ifn hr (Ev.some ?_)
    rw [Bool.eq_false_iff.2 hr]
    rfl
def okTask (l m : List Instr) (ws : List Int) : Bool := okBlock l && (okBlock m && okWant ws)
theorem areBlocks_ev (l m : List Instr) (ws : List Int) (h : ws.length ≤ 1048576) : Ev (fun k => impl_areBlocks.f k l m ws) (okTask l m ws) := by
  unfold impl_areBlocks.f okTask
  refine Ev.bind (isBlock_ev l) ?_
  cases okBlock l
  · exact Ev.ifn (by decide) (Ev.now _)
  refine Ev.ifp rfl (Ev.bind (isBlock_ev m) ?_)
  cases okBlock m
  · exact Ev.ifn (by decide) (Ev.now _)
  exact Ev.ifp rfl (Ev.bind (areWanted_ev ws h) (Ev.now _))
theorem okBlock_of {l : List Instr} (h : okBlock l = true) : l.length ≤ 20 ∧ ∀ x ∈ l, okI x := by
  unfold okBlock at h
  simp only [Bool.and_eq_true, decide_eq_true_eq, List.all_eq_true] at h
  exact h
end Go.Proofs.Ytidfcpdidjncnaa.PL
end
section
namespace Go.Proofs.Ytidfcpdidjncnaa.PL
open Go Go.RowKit Go.Proofs.YtidfcpdidjncnaaW.PrintWords Go.Proofs.YtidfcpdidjncnaaW.PrintLast Go.Proofs.YtidfcpdidjncnaaW.PrintMore Go.Proofs.Ytidfcpdidjncnaa.Q
set_option linter.unusedSimpArgs false
set_option linter.unusedVariables false
theorem l1All_ev (c : List Int) (a b : Int) (hc : c.length ≤ 1048576) : Ev (fun k => spec_l1All.f k c a b) (c.all (fun n => decide (a ≤ n ∧ n ≤ b))) := by
  unfold spec_l1All.f
  refine all_ev c _ (fun k i => spec_l1All.l0 k a b c c.length i) ?_ (fun i x hi hx hp => ?_) (fun i x r hi hx hp hr => ?_)
  · refine Ev.step (f := fun _ => some true) (fun k => ?_) (Ev.now _)
    simp only [spec_l1All.l0]
    rw [if_neg (by omega)]
  · refine Ev.step (f := fun _ => some false) (fun k => ?_) (Ev.now _)
    simp only [spec_l1All.l0, rd_eq hx, l1In_eq, Option.bind_some, hp]
    rw [if_pos (by omega), if_pos (by omega), if_pos (by omega), if_neg (by simp)]
  · refine Ev.step (fun k => ?_) hr
    simp only [spec_l1All.l0, rd_eq hx, l1In_eq, Option.bind_some, hp]
    rw [if_pos (by omega), if_pos (by omega), if_pos (by omega), if_pos trivial, w64n i (by omega)]
end Go.Proofs.Ytidfcpdidjncnaa.PL
end
section
namespace Go.Proofs.Ytidfcpdidjncnaa.PL
open Go Go.RowKit Go.Proofs.YtidfcpdidjncnaaW.PrintWords Go.Proofs.YtidfcpdidjncnaaW.PrintLast Go.Proofs.YtidfcpdidjncnaaW.PrintMore Go.Proofs.Ytidfcpdidjncnaa.Q
set_option linter.unusedSimpArgs false
set_option linter.unusedVariables false
theorem rdW_eq {xs : List (List Int)} {i : Nat} {x : List Int} (h : ∀ d, xs.getD i d = x) : rd_L3 xs i = x := by unfold rd_L3; rw [Int.toNat_natCast]; exact h _
theorem szIntS_eq (l : List Int) (r : Int) (hs : l.length ≤ maxLen) (h0 : 0 ≤ r) (h1 : r ≤ 1048576) : laws_szIntS.f l r = some (if r < l.length then -1 else r - l.length) := by
  unfold maxLen at hs
  unfold laws_szIntS.f
  rw [w64 (by omega) (by omega)]
  by_cases h : r < l.length
  · rw [if_pos (by omega), if_pos h]
  · rw [if_neg (by omega), if_neg h]
theorem szIntSS_ev (l : List (List Int)) (a : Int) (hl : Rd.okSl (Rd.okSl (Rd.okInt .i64)) l) (h0 : 0 ≤ a) (h1 : a ≤ 1048576) :
    ∃ r, Ev (fun k => laws_szIntSS.f k l a) r ∧ (0 ≤ r → (l.length : Int) ≤ a ∧ (∀ x ∈ l, (x.length : Int) ≤ a) ∧ r ≤ a) := by
  obtain ⟨hl1, hl2⟩ := hl
  unfold maxLen at hl1
  by_cases h : a < l.length
  · refine ⟨-1, ?_, fun h => absurd h (by decide)⟩
    unfold laws_szIntSS.f
    rw [w64 (by omega) (by omega)]
    exact Ev.ifp (by omega) (Ev.now _)
  · have key : ∀ (d i : Nat) (r : Int), i + d = l.length → 0 ≤ r → r ≤ a → ∃ q, Ev (fun k => laws_szIntSS.l0 k l r i) q ∧ q ≤ a ∧ (0 ≤ q → ∀ x ∈ l.drop i, (x.length : Int) ≤ a) := by
      intro d
      induction d with
      | zero =>
        intro i r hi hr _
        refine ⟨r, Ev.step (f := fun _ => some r) (fun k => ?_) (Ev.now _), by omega, fun _ x hx => ?_⟩
        · simp only [laws_szIntSS.l0]
          rw [if_neg (by omega)]
        · rw [List.drop_of_length_le (by omega)] at hx
          cases hx
      | succ d ih =>
        intro i r hi hr hra
        have hlt : i < l.length := by omega
        have e : l.drop i = l[i] :: l.drop (i + 1) := List.drop_eq_getElem_cons hlt
        have hx := rdW_eq (getD_eq l i hlt)
        have hsz := (hl2 l[i] (List.getElem_mem hlt)).1
        by_cases hb : r < l[i].length
        · refine ⟨-1, Ev.step (fun k => by simp only [laws_szIntSS.l0, hx, szIntS_eq l[i] r hsz hr (by omega), if_pos hb, Option.bind_some]; rfl) (Ev.ifp (by omega) (Ev.ifp (by omega) (Ev.ifp (by decide) (Ev.now _)))), by omega, fun h => absurd h (by decide)⟩
        · obtain ⟨q, hq, hqa, hq'⟩ := ih (i + 1) (r - l[i].length) (by omega) (by omega) (by omega)
          refine ⟨q, Ev.step (fun k => by simp only [laws_szIntSS.l0, hx, szIntS_eq l[i] r hsz hr (by omega), if_neg hb, Option.bind_some]; rfl) (Ev.ifp (by omega) (Ev.ifp (by omega) (Ev.ifn (by omega) ?_))), hqa, fun h x hx' => ?_⟩
          · rw [w64n i (by omega)]; exact hq
          · rw [e] at hx'
            rcases List.mem_cons.1 hx' with rfl | hx'
            · omega
            · exact hq' h x hx'
    obtain ⟨q, hq, hqa, hq'⟩ := key l.length 0 (a - l.length) (by omega) (by omega) (by omega)
    refine ⟨q, ?_, fun h' => ⟨by omega, by simpa using hq' h', hqa⟩⟩
    unfold laws_szIntSS.f
    rw [w64 (by omega) (by omega)]
    exact Ev.ifn (by omega) (by simpa using hq)
theorem toIntSS_ev (l : List (List Int)) (hl : l.length ≤ 1048576) (hb : ∀ x ∈ l, x.length ≤ 1048576) : Ev (fun k => laws_toIntSS.f k l) l := by
  have key : ∀ (d i : Nat), i + d = l.length → Ev (fun k => laws_toIntSS.l0 k l (l.take i ++ List.replicate d []) i) l := by
    intro d
    induction d with
    | zero =>
      intro i hi
      refine Ev.step (f := fun _ => some _) (fun k => ?_) (Ev.now _)
      simp only [laws_toIntSS.l0]
      rw [if_neg (by omega), List.take_of_length_le (by omega)]
      simp
    | succ d ih =>
      intro i hi
      have hlt : i < l.length := by omega
      have hx := rdW_eq (getD_eq l i hlt)
      refine Ev.step (fun k => by simp only [laws_toIntSS.l0, hx]; rfl) (Ev.ifp (by omega) (Ev.ifp (by omega) (Ev.bind (toIntS_ev l[i] (hb _ (List.getElem_mem hlt))) ?_)))
      refine Ev.ifp (by simp; omega) ?_
      rw [w64n i (by omega)]
      refine Ev.congr (fun k => ?_) (ih (i + 1) (by omega))
      congr 1
      have e : ((i : Int)).toNat = (l.take i).length := by simp; omega
      rw [e]
      have := set_fill (l.take i) (List.replicate d ([] : List Int)) [] l[i]
      simp only [List.length_replicate] at this
      rw [this]
      congr 1
      rw [List.take_succ_eq_append_getElem hlt]
  unfold laws_toIntSS.f
  refine Ev.ifp (by omega) (Ev.ifp (by simp; omega) ?_)
  simpa using key l.length 0 (by omega)
theorem eqIntSS_refl (l : List (List Int)) (hl : l.length ≤ 1048576) (hb : ∀ x ∈ l, x.length ≤ 1048576) : Ev (fun k => laws_eqIntSS.f k l l) true := by
  unfold laws_eqIntSS.f
  refine Ev.ifp rfl ?_
  have key : ∀ (d i : Nat), i + d = l.length → Ev (fun k => laws_eqIntSS.l0 k l l i) true := by
    intro d
    induction d with
    | zero =>
      intro i hi
      refine Ev.step (f := fun _ => some true) (fun k => ?_) (Ev.now _)
      simp only [laws_eqIntSS.l0]
      rw [if_neg (by omega)]
    | succ d ih =>
      intro i hi
      have hlt : i < l.length := by omega
      have hx := rdW_eq (getD_eq l i hlt)
      refine Ev.step (fun k => by simp only [laws_eqIntSS.l0, hx]; rfl) (Ev.ifp (by omega) (Ev.ifp (by omega) (Ev.ifp (by omega) (Ev.bind (eqIntS_refl _ (hb _ (List.getElem_mem hlt))) (Ev.ifp rfl ?_)))))
      rw [w64n i (by omega)]
      exact ih (i + 1) (by omega)
  exact key l.length 0 (by omega)
end Go.Proofs.Ytidfcpdidjncnaa.PL
end
section
namespace Go.Proofs.Ytidfcpdidjncnaa.PL
open Go Go.RowKit Go.Proofs.YtidfcpdidjncnaaW.PrintWords Go.Proofs.YtidfcpdidjncnaaW.PrintLast Go.Proofs.YtidfcpdidjncnaaW.PrintMore Go.Proofs.Ytidfcpdidjncnaa.Q
set_option linter.unusedSimpArgs false
set_option linter.unusedVariables false
theorem isWord_eq (a : Int) : impl_isWord.f a = some (decide (0 ≤ a ∧ a ≤ 63)) := by
  unfold impl_isWord.f
  rw [within_eq]; rfl
def okT (t : List Int) : Bool := decide (t.length = 2) && t.all (fun n => decide (0 ≤ n ∧ n ≤ 63))
theorem okT_of {t : List Int} (h : okT t = true) : t.length = 2 ∧ okV (rd t 0) ∧ okV (rd t 1) := by
  unfold okT at h
  simp only [Bool.and_eq_true, decide_eq_true_eq, List.all_eq_true] at h
  obtain ⟨h1, h2⟩ := h
  match t, h1 with
  | [a, b], _ => exact ⟨rfl, h2 a (by simp), h2 b (by simp)⟩
theorem wrong_eq (t : List Int) : impl_PassesTests_1.f t = some (!okT t) := by
  unfold impl_PassesTests_1.f
  by_cases h : t.length = 2
  · rw [if_pos (by omega), if_pos (by omega), isWord_eq, Option.bind_some]
    match t, h with
    | [a, b], _ =>
      have e : okT [a, b] = (decide (0 ≤ a ∧ a ≤ 63) && decide (0 ≤ b ∧ b ≤ 63)) := by
        unfold okT
        simp
      rw [e, show rd [a, b] 0 = a from rfl, show rd [a, b] 1 = b from rfl]
      by_cases ha : 0 ≤ a ∧ a ≤ 63
      · rw [decide_eq_true ha, if_pos rfl, if_pos (by simp), isWord_eq, Option.bind_some, Bool.true_and]
      · rw [decide_eq_false ha, if_neg (by decide), Bool.false_and]
        rfl
  · rw [if_neg (by omega)]
    unfold okT
    rw [decide_eq_false h]
    rfl
theorem has_all {α : Type} (p q : α → Bool) (l : List α) (h : ∀ x ∈ l, p x = !q x) : decide (idx p l ≥ 0) = !l.all q := by
  have e := idx_nonneg p l
  by_cases hc : 0 ≤ idx p l
  · obtain ⟨x, hx, hx'⟩ := e.1 hc
    rw [decide_eq_true (show idx p l ≥ 0 from hc)]
    symm
    rw [Bool.not_eq_true', List.all_eq_false]
    refine ⟨x, hx, fun hq => ?_⟩
    rw [h x hx, hq] at hx'
    cases hx'
  · rw [decide_eq_false (show ¬ idx p l ≥ 0 from hc)]
    symm
    rw [Bool.not_eq_false', List.all_eq_true]
    intro x hx
    cases hq : q x with
    | true => rfl
    | false => exact absurd (e.2 ⟨x, hx, by rw [h x hx, hq]; rfl⟩) hc
theorem wrong_ev (ts : List (List Int)) (h : ts.length ≤ 1048576) : Ev (fun k => slices_ContainsFunc_impl_PassesTests_1.f k ts) (!ts.all okT) := by
  have hs : Ev (fun k => slices_IndexFunc_impl_PassesTests_1.f k ts) (idx (fun t => !okT t) ts) := by
    unfold slices_IndexFunc_impl_PassesTests_1.f
    refine search_ev ts _ (fun k i => slices_IndexFunc_impl_PassesTests_1.l0 k ts ts.length i) ?_ (fun i x hi hx hp => ?_) (fun i x r hi hx hp hr => ?_)
    · refine Ev.step (f := fun _ => some (-1)) (fun k => ?_) (Ev.now _)
      simp only [slices_IndexFunc_impl_PassesTests_1.l0]
      rw [if_neg (by omega)]
    · exact Ev.step (fun k => by simp only [slices_IndexFunc_impl_PassesTests_1.l0, rdW_eq hx, wrong_eq, Option.bind_some]; rfl) (Ev.ifp (by omega) (Ev.ifp (by omega) (Ev.ifp (by omega) (Ev.ifp hp (Ev.now _)))))
    · refine Ev.step (fun k => by simp only [slices_IndexFunc_impl_PassesTests_1.l0, rdW_eq hx, wrong_eq, Option.bind_some]; rfl) (Ev.ifp (by omega) (Ev.ifp (by omega) (Ev.ifp (by omega) (Ev.ifn (by rw [hp]; decide) ?_))))
      rw [w64n i (by omega)]
      exact hr
  unfold slices_ContainsFunc_impl_PassesTests_1.f
  exact Ev.bind hs (Ev.some (has_all _ _ _ (fun _ _ => rfl)))
def sameT (l m : List Instr) (r : Int) (t : List Int) : Bool := decide (rd (endM l (rd t 0) (rd t 1)) r = rd (endM m (rd t 0) (rd t 1)) r)
theorem endM_len (l : List Instr) (h : ∀ x ∈ l, okI x) {a b : Int} (ha : okV a) (hb : okV b) : (endM l a b).length = 6 := (runM_ok l h _ (st0_ok ha hb)).1
theorem differ_ev (l m : List Instr) (hl : l.length ≤ 20 ∧ ∀ x ∈ l, okI x) (hm : m.length ≤ 20 ∧ ∀ x ∈ m, okI x) (r : Int) (h0 : 0 ≤ r) (h1 : r ≤ 5) (t : List Int) (ht : okT t = true) :
    Ev (fun k => impl_PassesTests_2.f k t [l] [r] [m]) (!sameT l m r t) := by
  obtain ⟨t2, ta, tb⟩ := okT_of ht
  unfold impl_PassesTests_2.f
  have el := endM_len l hl.2 ta tb
  have em := endM_len m hm.2 ta tb
  refine Ev.ifp (by simp) (Ev.ifp (by omega) (Ev.ifp (by omega) (Ev.bind (result_ev l (by omega) hl.2 ta tb) ?_)))
  refine Ev.ifp (by simp) (Ev.ifp h0 (Ev.ifp (by show r < _; omega) (Ev.ifp (by simp) (Ev.bind (result_ev m (by omega) hm.2 ta tb) (Ev.ifp (by show r < _; omega) (Ev.some ?_))))))
  unfold sameT
  show (rd (endM l (rd t 0) (rd t 1)) r != rd (endM m (rd t 0) (rd t 1)) r) = _
  by_cases q : rd (endM l (rd t 0) (rd t 1)) r = rd (endM m (rd t 0) (rd t 1)) r
  · rw [q]; simp
  · rw [decide_eq_false q]; simpa using q
theorem differs_ev (l m : List Instr) (hl : l.length ≤ 20 ∧ ∀ x ∈ l, okI x) (hm : m.length ≤ 20 ∧ ∀ x ∈ m, okI x) (r : Int) (h0 : 0 ≤ r) (h1 : r ≤ 5) (ts : List (List Int)) (h : ts.length ≤ 1048576) (ht : ∀ t ∈ ts, okT t = true) :
    Ev (fun k => slices_ContainsFunc_impl_PassesTests_2.f k ts [l] [r] [m]) (!ts.all (sameT l m r)) := by
  have hs : Ev (fun k => slices_IndexFunc_impl_PassesTests_2.f k ts [l] [r] [m]) (idx (fun t => !sameT l m r t) ts) := by
    unfold slices_IndexFunc_impl_PassesTests_2.f
    have mem : ∀ (i : Nat) x, i < ts.length → (∀ d, ts.getD i d = x) → x ∈ ts := fun i x hi hx => by
      have := hx []
      rw [getD_eq ts i hi] at this
      rw [← this]
      exact List.getElem_mem hi
    refine search_ev ts _ (fun k i => slices_IndexFunc_impl_PassesTests_2.l0 k ts ts.length i [l] [r] [m]) ?_ (fun i x hi hx hp => ?_) (fun i x r' hi hx hp hr => ?_)
    · refine Ev.step (f := fun _ => some (-1)) (fun k => ?_) (Ev.now _)
      simp only [slices_IndexFunc_impl_PassesTests_2.l0]
      rw [if_neg (by omega)]
    · exact Ev.step (fun k => by simp only [slices_IndexFunc_impl_PassesTests_2.l0, rdW_eq hx]; rfl) (Ev.ifp (by omega) (Ev.ifp (by omega) (Ev.ifp (by omega) (Ev.bind (differ_ev l m hl hm r h0 h1 x (ht x (mem i x hi hx))) (Ev.ifp hp (Ev.now _))))))
    · refine Ev.step (fun k => by simp only [slices_IndexFunc_impl_PassesTests_2.l0, rdW_eq hx]; rfl) (Ev.ifp (by omega) (Ev.ifp (by omega) (Ev.ifp (by omega) (Ev.bind (differ_ev l m hl hm r h0 h1 x (ht x (mem i x hi hx))) (Ev.ifn (show ¬ ((!sameT l m r x) = true) by rw [hp]; decide) ?_)))))
      rw [w64n i (by omega)]
      exact hr
  unfold slices_ContainsFunc_impl_PassesTests_2.f
  exact Ev.bind hs (Ev.some (has_all _ _ _ (fun _ _ => rfl)))
def ptR (l m : List Instr) (r : Int) (ts : List (List Int)) : Bool × Bool :=
  if (okBlock l = true ∧ okBlock m = true) ∧ (0 ≤ r ∧ r ≤ 5) ∧ ts.length ≤ 100 ∧ ts.all okT = true then (ts.all (sameT l m r), true) else (false, false)
theorem implPT_ev (l m : List Instr) (r : Int) (ts : List (List Int)) (h : ts.length ≤ 1048576) : Ev (fun k => impl_PassesTests.f k l m r ts) (ptR l m r ts) := by
  unfold impl_PassesTests.f
  refine Ev.bind (wrong_ev ts h) (Ev.bind (areBlocks_ev l m [] (by simp)) ?_)
  have task : okTask l m [] = (okBlock l && okBlock m) := by
    unfold okTask
    rw [show okWant [] = true from rfl, Bool.and_true]
  rw [task]
  unfold ptR
  by_cases hb : (okBlock l && okBlock m) = true
  · have hb' : okBlock l = true ∧ okBlock m = true := by simpa using hb
    refine Ev.ifp hb (Ev.call (isRegister_eq r) ?_)
    by_cases hr : 0 ≤ r ∧ r ≤ 5
    · refine Ev.ifp (decide_eq_true hr) ?_
      by_cases hn : ts.length ≤ 100
      · refine Ev.ifn (by omega) ?_
        by_cases hw : ts.all okT = true
        · rw [if_pos ⟨hb', hr, hn, hw⟩]
          refine Ev.ifn (by rw [hw]; decide) ?_
          refine Ev.bind (differs_ev l m (okBlock_of hb'.1) (okBlock_of hb'.2) r hr.1 hr.2 ts h (fun t ht => List.all_eq_true.1 hw t ht)) (Ev.some ?_)
          rw [Bool.not_not]
        · rw [if_neg (fun e => hw e.2.2.2)]
          exact Ev.ifp (by simpa using hw) (Ev.now _)
      · rw [if_neg (fun e => hn e.2.2.1)]
        exact Ev.ifp (by omega) (Ev.now _)
    · rw [if_neg (fun e => hr e.2.1)]
      exact Ev.ifn (by simpa using hr) (Ev.now _)
  · rw [if_neg (fun e => hb (by rw [e.1.1, e.1.2]; rfl))]
    exact Ev.ifn hb (Ev.now _)
theorem specPT_ev (l m : List Instr) (r : Int) (ts : List (List Int)) (h : ts.length ≤ 1048576) : Ev (fun k => spec_PassesTests.f k l m r ts) (ptR l m r ts) := by
  unfold spec_PassesTests.f
  have no : Ev (fun k => spec_PassesTests.j0 k l m r ts true) (false, false) := Ev.step (fun k => by simp only [spec_PassesTests.j0]; rfl) (Ev.ifp (by decide) (Ev.now _))
  refine Ev.bind (vaGood_ev l) ?_
  unfold ptR
  by_cases hl : okBlock l = true
  · refine Ev.ifp hl (Ev.bind (vaGood_ev m) ?_)
    by_cases hm : okBlock m = true
    · refine Ev.ifp hm (Ev.call (cdReg_eq r) ?_)
      by_cases hr : 0 ≤ r ∧ r ≤ 5
      · refine Ev.ifp (decide_eq_true hr) ?_
        by_cases hn : ts.length ≤ 100
        · rw [decide_eq_false (by omega : ¬ (ts.length : Int) > 100)]
          refine Ev.step (fun k => by simp only [spec_PassesTests.j0]; rfl) (Ev.ifn (by decide) ?_)
          obtain ⟨l1, l2⟩ := okBlock_of hl
          obtain ⟨m1, m2⟩ := okBlock_of hm
          have second : (∀ t ∈ ts, okT t = true) → Ev (fun k => spec_PassesTests.l1 k l m r ts ts.length 0) (ts.all (sameT l m r), true) := by
            intro ht
            refine loop_list (σ := Unit) ts (fun k _ i => spec_PassesTests.l1 k l m r ts ts.length i) (fun rest _ => (rest.all (sameT l m r), true)) (fun _ => ?_) (fun i _ x rest hi hx ih => ?_) ()
            · refine Ev.step (f := fun _ => some (true, true)) (fun k => ?_) (Ev.now _)
              simp only [spec_PassesTests.l1]
              rw [if_neg (by omega)]
            · have hxm : x ∈ ts := by
                have := hx []
                rw [getD_eq ts i hi] at this
                rw [← this]
                exact List.getElem_mem hi
              obtain ⟨t2, ta, tb⟩ := okT_of (ht x hxm)
              have el := endM_len l l2 ta tb
              have em := endM_len m m2 ta tb
              refine Ev.step (fun k => by simp only [spec_PassesTests.l1, rdW_eq hx]; rfl) (Ev.ifp (by omega) (Ev.ifp (by omega) (Ev.ifp (by omega) (Ev.ifp (by omega) (Ev.ifp (by omega) ?_)))))
              refine Ev.call (cdStart_eq _ _) (Ev.bind (cdRun_ev l (by omega) l2 _ (st0_ok ta tb)) (Ev.ifp hr.1 (Ev.ifp (by show r < ((endM l _ _).length : Int); omega) ?_)))
              refine Ev.call (cdStart_eq _ _) (Ev.bind (cdRun_ev m (by omega) m2 _ (st0_ok ta tb)) (Ev.ifp (by show r < ((endM m _ _).length : Int); omega) ?_))
              by_cases q : rd (endM l (rd x 0) (rd x 1)) r = rd (endM m (rd x 0) (rd x 1)) r
              · refine Ev.ifp q ?_
                rw [w64n i (by omega)]
                refine ev_eq (ih ()) ?_
                rw [List.all_cons, show sameT l m r x = true from decide_eq_true q, Bool.true_and]
              · refine Ev.ifn q (Ev.some ?_)
                rw [List.all_cons, show sameT l m r x = false from decide_eq_false q, Bool.false_and]
          have first : Ev (fun k => spec_PassesTests.l0 k l m r ts ts ts.length 0) (if ts.all okT = true then (ts.all (sameT l m r), true) else (false, false)) := by
            have key : ∀ (d i : Nat), i + d = ts.length → (∀ t ∈ ts.take i, okT t = true) → Ev (fun k => spec_PassesTests.l0 k l m r ts ts ts.length i) (if (ts.drop i).all okT = true then (ts.all (sameT l m r), true) else (false, false)) := by
              intro d
              induction d with
              | zero =>
                intro i hi hd
                rw [List.drop_of_length_le (by omega), if_pos (show ([] : List (List Int)).all okT = true from rfl)]
                rw [List.take_of_length_le (by omega)] at hd
                refine Ev.step (fun k => by simp only [spec_PassesTests.l0]; rfl) (Ev.ifn (by omega) (second hd))
              | succ d ih =>
                intro i hi hd
                have hlt : i < ts.length := by omega
                have e : ts.drop i = ts[i] :: ts.drop (i + 1) := List.drop_eq_getElem_cons hlt
                have hx := rdW_eq (getD_eq ts i hlt)
                refine Ev.step (fun k => by simp only [spec_PassesTests.l0, hx]; rfl) (Ev.ifp (by omega) (Ev.ifp (by omega) (Ev.ifp (by omega) ?_)))
                rw [e, List.all_cons]
                by_cases h2 : ts[i].length = 2
                · refine Ev.ifp (by omega) (Ev.bind (l1All_ev ts[i] 0 63 (by omega)) ?_)
                  by_cases ha : ts[i].all (fun n => decide (0 ≤ n ∧ n ≤ 63)) = true
                  · have ok : okT ts[i] = true := by
                      unfold okT
                      rw [ha, decide_eq_true h2]
                      rfl
                    rw [ok, Bool.true_and]
                    refine Ev.ifp ha ?_
                    rw [w64n i (by omega)]
                    refine ih (i + 1) (by omega) (fun t ht => ?_)
                    rw [List.take_succ_eq_append_getElem hlt, List.mem_append] at ht
                    rcases ht with ht | ht
                    · exact hd t ht
                    · rw [List.mem_singleton.1 ht]; exact ok
                  · have ok : okT ts[i] = false := by
                      unfold okT
                      rw [Bool.eq_false_iff.2 ha, Bool.and_false]
                    rw [ok, Bool.false_and, if_neg (by decide)]
                    exact Ev.ifn ha (Ev.now _)
                · have ok : okT ts[i] = false := by
                    unfold okT
                    rw [decide_eq_false h2, Bool.false_and]
                  rw [ok, Bool.false_and, if_neg (by decide)]
                  exact Ev.ifn (by omega) (Ev.now _)
            simpa using key ts.length 0 (by omega) (fun t ht => by simp at ht)
          refine ev_eq first ?_
          by_cases hw : ts.all okT = true
          · rw [if_pos hw, if_pos ⟨⟨hl, hm⟩, hr, hn, hw⟩]
          · rw [if_neg hw, if_neg (fun e => hw e.2.2.2)]
        · rw [if_neg (fun e => hn e.2.2.1), decide_eq_true (by omega : (ts.length : Int) > 100)]
          exact no
      · rw [if_neg (fun e => hr e.2.1)]
        exact Ev.ifn (by simpa using hr) no
    · rw [if_neg (fun e => hm e.1.2)]
      exact Ev.ifn hm no
  · rw [if_neg (fun e => hl e.1.1)]
    exact Ev.ifn hl no
end Go.Proofs.Ytidfcpdidjncnaa.PL
namespace Go.Proofs.Ytidfcpdidjncnaa.Pure
open Go Go.RowKit Go.Proofs.YtidfcpdidjncnaaW.PrintWords Go.Proofs.YtidfcpdidjncnaaW.PrintLast Go.Proofs.YtidfcpdidjncnaaW.PrintMore Go.Proofs.Ytidfcpdidjncnaa.Q Go.Proofs.Ytidfcpdidjncnaa.PL
set_option linter.unusedSimpArgs false
set_option linter.unusedVariables false
theorem FnExactPassesTests : laws_FnExactPassesTests.Pure := by
  intro a0 a1 a2 a3 h0 h1 h2 h3
  refine Ev.rounds (g := fun k => laws_FnExactPassesTests.f k a0 a1 a2 a3) ?_
  unfold laws_FnExactPassesTests.f
  obtain ⟨r, hr, hr'⟩ := szInstrS_ev a0 1048576 h0 (by decide) (by decide)
  refine Ev.bind hr ?_
  by_cases hn : r < 0
  · exact Ev.ifp hn (Ev.now _)
  have hl := hr' (by omega)
  refine Ev.ifn hn ?_
  obtain ⟨r2, hr2, hr2'⟩ := szInstrS_ev a1 r h1 (by omega) (by have := hl.2.2; omega)
  refine Ev.bind hr2 ?_
  by_cases hn2 : r2 < 0
  · exact Ev.ifp hn2 (Ev.now _)
  have hl2 := hr2' (by omega)
  refine Ev.ifn hn2 ?_
  obtain ⟨r3, hr3, hr3'⟩ := szIntSS_ev a3 r2 h3 (by omega) (by have := hl.2.2; have := hl2.2.2; omega)
  refine Ev.bind hr3 ?_
  by_cases hn3 : r3 < 0
  · exact Ev.ifp hn3 (Ev.now _)
  have hl3 := hr3' (by omega)
  refine Ev.ifn hn3 ?_
  have q1 := hl.2.2
  have q2 := hl2.2.2
  have b0 : a0.length ≤ 1048576 := by omega
  have b1 : a1.length ≤ 1048576 := by omega
  have b3 : a3.length ≤ 1048576 := by omega
  have c3 : ∀ x ∈ a3, x.length ≤ 1048576 := fun x hx => by have := hl3.2.1 x hx; omega
  refine Ev.bind (toInstrS_ev a0 b0) (Ev.bind (toInstrS_ev a1 b1) (Ev.bind (toIntSS_ev a3 b3 c3) ?_))
  refine Ev.bind (specPT_ev _ _ _ _ b3) ?_
  refine Ev.bind (toInstrS_ev a0 b0) (Ev.bind (toInstrS_ev a1 b1) (Ev.bind (toIntSS_ev a3 b3 c3) ?_))
  refine Ev.bind (implPT_ev _ _ _ _ b3) ?_
  refine Ev.ifn (by simp) ?_
  rw [show ((ptR (a0.map cvI) (a1.map cvI) a2 a3).2 != (ptR (a0.map cvI) (a1.map cvI) a2 a3).2) = false by simp]
  refine Ev.step (fun k => by simp only [laws_FnExactPassesTests.j0]; rfl) (Ev.ifn (by decide) ?_)
  refine Ev.bind (toInstrS_ev a0 b0) (Ev.bind (eqInstrS_refl _ (by simpa using b0)) (Ev.ifp rfl ?_))
  refine Ev.bind (toInstrS_ev a1 b1) (Ev.bind (eqInstrS_refl _ (by simpa using b1)) (Ev.ifp rfl ?_))
  exact Ev.bind (toIntSS_ev a3 b3 c3) (Ev.bind (eqIntSS_refl _ b3 c3) (Ev.ifp rfl (Ev.now _)))
end Go.Proofs.Ytidfcpdidjncnaa.Pure
end
