/- Proved here: contracts of functions that the law FnExactOrderedExpr reaches, and lemmas on what they compute; texts of this session and the printed words of the kit that they lean on, cut down and put together by its program link.py. Conditions: as each states. -/
import Derived.Test.YtkfkbmlbpeojaaaZFnExactOrderedExpr1
import Derived.Test.YtkfkbmlbpeojaaaZFnExactOrderedExpr2
import Derived.Test.YtkfkbmlbpeojaaaZFnExactOrderedExpr3
import Derived.Test.YtkfkbmlbpeojaaaZFnExactOrderedExpr4
section
namespace Go.Proofs.Ytkfkbmlbpeojaaa.PL
open Go Go.RowKit Go.Proofs.YtkfkbmlbpeojaaaW.PrintWords Go.Proofs.YtkfkbmlbpeojaaaW.PrintLast Go.Proofs.YtkfkbmlbpeojaaaW.PrintMore Go.Proofs.Ytkfkbmlbpeojaaa.Q
set_option linter.unusedSimpArgs false
set_option linter.unusedVariables false
theorem w64 {x : Int} (h1 : -9223372036854775808 ≤ x) (h2 : x < 9223372036854775808) : wrap64 x = x := by unfold wrap64; omega
theorem w64n (i : Nat) (h : i < 4611686018427387904) : wrap64 ((i : Int) + 1) = ((i + 1 : Nat) : Int) := by unfold wrap64; omega
theorem Ev.some {α : Type} {a r : α} (h : a = r) : Ev (fun _ => some a) r := h ▸ Ev.now a
theorem Ev.const {α : Type} {g : Option α} {r : α} (h : g = Option.some r) : Ev (fun _ => g) r := by rw [h]; exact Ev.now r
theorem ev_eq {α : Type} {g : Nat → Option α} {r s : α} (h : Ev g r) (e : r = s) : Ev g s := e ▸ h
theorem Ev.uniq {α : Type} {g : Nat → Option α} {r s : α} (h : Ev g r) (h' : Ev g s) : r = s := by
  obtain ⟨K, h⟩ := h
  obtain ⟨K', h'⟩ := h'
  have h1 := h (max K K') (by omega)
  have h2 := h' (max K K') (by omega)
  rw [h1] at h2
  exact Option.some.inj h2
theorem Ev.ifp {α : Type} {c : Prop} [Decidable c] {g g' : Nat → Option α} {r : α} (h : c) (H : Ev g r) : Ev (fun k => if c then g k else g' k) r := Ev.congr (fun _ => if_pos h) H
theorem Ev.ifn {α : Type} {c : Prop} [Decidable c] {g g' : Nat → Option α} {r : α} (h : ¬ c) (H : Ev g' r) : Ev (fun k => if c then g k else g' k) r := Ev.congr (fun _ => if_neg h) H
theorem Ev.call {α β : Type} {g : Option α} {f : Nat → α → Option β} {a : α} {r : β} (h : g = Option.some a) (k : Ev (fun n => f n a) r) : Ev (fun n => g.bind (f n)) r := by
  rw [h]; exact k
theorem loop_up {σ ρ : Type} (n : Nat) (L : Nat → σ → Int → Option ρ) (M : Nat → σ → ρ) (hend : ∀ s, Ev (fun k => L k s n) (M n s))
    (hstep : ∀ (i : Nat) s, i < n → (∀ s', Ev (fun k => L k s' ((i + 1 : Nat) : Int)) (M (i + 1) s')) → Ev (fun k => L k s i) (M i s)) :
    ∀ (d i : Nat) s, i + d = n → Ev (fun k => L k s i) (M i s)
  | 0, i, s, h => by
    have e : i = n := by omega
    rw [e]
    exact hend s
  | d + 1, i, s, h => hstep i s (by omega) (fun s' => loop_up n L M hend hstep d (i + 1) s' (by omega))
theorem loop_list {α σ ρ : Type} (xs : List α) (L : Nat → σ → Int → Option ρ) (m : List α → σ → ρ) (hend : ∀ s, Ev (fun k => L k s (xs.length : Nat)) (m [] s))
    (hstep : ∀ (i : Nat) s x rest, i < xs.length → (∀ d, xs.getD i d = x) → (∀ s', Ev (fun k => L k s' ((i + 1 : Nat) : Int)) (m rest s')) → Ev (fun k => L k s i) (m (x :: rest) s)) (s : σ) :
    Ev (fun k => L k s 0) (m xs s) := by
  have := loop_up xs.length L (fun i s => m (xs.drop i) s) (fun s => by simpa using hend s) (fun i s hi ih => by
    have e : xs.drop i = xs[i] :: xs.drop (i + 1) := List.drop_eq_getElem_cons hi
    show Ev (fun k => L k s i) (m (xs.drop i) s)
    rw [e]
    exact hstep i s xs[i] _ hi (fun d => by simp [List.getD, List.getElem?_eq_getElem hi]) ih) xs.length 0 s (by omega)
  simpa using this
def idx {α : Type} (p : α → Bool) : List α → Int
  | [] => -1
  | x :: xs => if p x = true then 0 else if idx p xs < 0 then -1 else idx p xs + 1
theorem idx_nonneg {α : Type} (p : α → Bool) (xs : List α) : 0 ≤ idx p xs ↔ ∃ x ∈ xs, p x = true := by
  induction xs with
  | nil => simp [idx]
  | cons x xs ih =>
    unfold idx
    by_cases h : p x = true
    · simp [h]
    · by_cases h2 : idx p xs < 0
      · rw [if_neg h, if_pos h2]
        have : ¬ ∃ x ∈ xs, p x = true := fun e => by have := ih.2 e; omega
        simp [h]
        simpa using this
      · rw [if_neg h, if_neg h2]
        have := ih.1 (by omega)
        simp [h]
        exact ⟨fun _ => this, fun _ => by omega⟩
theorem idx_ge {α : Type} (p : α → Bool) (xs : List α) : -1 ≤ idx p xs := by
  induction xs with
  | nil => unfold idx; simp
  | cons x xs ih => unfold idx; split; · decide
                    · split <;> omega
theorem idx_lt {α : Type} (p : α → Bool) (xs : List α) : idx p xs < xs.length := by
  induction xs with
  | nil => unfold idx; simp
  | cons x xs ih => unfold idx; simp only [List.length_cons]; split; · omega
                    · split <;> omega
theorem search_ev {α : Type} (xs : List α) (p : α → Bool) (L : Nat → Int → Option Int) (hend : Ev (fun k => L k (xs.length : Nat)) (-1))
    (hyes : ∀ (i : Nat) x, i < xs.length → (∀ d, xs.getD i d = x) → p x = true → Ev (fun k => L k i) (i : Int))
    (hno : ∀ (i : Nat) x r, i < xs.length → (∀ d, xs.getD i d = x) → p x = false → Ev (fun k => L k ((i + 1 : Nat) : Int)) r → Ev (fun k => L k i) r) : Ev (fun k => L k 0) (idx p xs) := by
  have key : ∀ (d i : Nat), i + d = xs.length → Ev (fun k => L k i) (if idx p (xs.drop i) < 0 then -1 else idx p (xs.drop i) + i) := by
    intro d
    induction d with
    | zero =>
      intro i hi
      rw [List.drop_of_length_le (by omega), if_pos (show idx p [] < 0 by unfold idx; decide)]
      have e : i = xs.length := by omega
      rw [e]; exact hend
    | succ d ih =>
      intro i hi
      have hlt : i < xs.length := by omega
      have e : xs.drop i = xs[i] :: xs.drop (i + 1) := List.drop_eq_getElem_cons hlt
      have hg : ∀ d, xs.getD i d = xs[i] := fun d => by simp [List.getD, List.getElem?_eq_getElem hlt]
      rw [e]
      unfold idx
      by_cases h : p xs[i] = true
      · rw [if_pos h, if_neg (by decide)]
        simpa using hyes i _ hlt hg h
      · refine hno i _ _ hlt hg (by simpa using h) (ev_eq (ih (i + 1) (by omega)) ?_)
        rw [if_neg h]
        by_cases h2 : idx p (xs.drop (i + 1)) < 0
        · rw [if_pos h2, if_pos h2, if_pos (by decide)]
        · rw [if_neg h2, if_neg h2, if_neg (by omega)]
          omega
  have := key xs.length 0 (by omega)
  simp only [List.drop_zero, Int.natCast_zero, Int.add_zero] at this
  refine ev_eq this ?_
  have := idx_ge p xs
  split <;> omega
theorem rd_eq {xs : List Int} {i : Nat} {x : Int} (h : ∀ d, xs.getD i d = x) : rd xs i = x := by unfold rd; rw [Int.toNat_natCast]; exact h 0
theorem rdOf_eq {α : Type} {d0 : α} {xs : List α} {i : Nat} {x : α} (h : ∀ d, xs.getD i d = x) : rdOf d0 xs i = x := by unfold rdOf; rw [Int.toNat_natCast]; exact h d0
theorem getD_eq {α : Type} (xs : List α) (i : Nat) (h : i < xs.length) : ∀ d, xs.getD i d = xs[i] := fun d => by simp [List.getD, List.getElem?_eq_getElem h]
theorem set_fill {α : Type} (xs ys : List α) (z : α) (v : α) : (xs ++ List.replicate (ys.length + 1) z).set xs.length v = (xs ++ [v]) ++ List.replicate ys.length z := by
  rw [List.set_append_right _ _ (Nat.le_refl _)]
  simp [List.replicate_succ]
end Go.Proofs.Ytkfkbmlbpeojaaa.PL
end
section
namespace Go.Proofs.Ytkfkbmlbpeojaaa.Q
open Go.RowKit Go.Proofs.YtkfkbmlbpeojaaaW.PrintWords Go.Proofs.YtkfkbmlbpeojaaaW.PrintLast Go.Proofs.YtkfkbmlbpeojaaaW.PrintMore
attribute [local go_sem] max2_int min2_int max_two min_two max_three min_three max_four min_four
set_option linter.unusedVariables false
set_option linter.unusedSimpArgs false
end Go.Proofs.Ytkfkbmlbpeojaaa.Q
end
section
namespace Go.Proofs.Ytkfkbmlbpeojaaa.PL
open Go Go.RowKit Go.Proofs.YtkfkbmlbpeojaaaW.PrintWords Go.Proofs.YtkfkbmlbpeojaaaW.PrintLast Go.Proofs.YtkfkbmlbpeojaaaW.PrintMore Go.Proofs.Ytkfkbmlbpeojaaa.Q
set_option linter.unusedSimpArgs false
set_option linter.unusedVariables false
abbrev Instr := S94
end Go.Proofs.Ytkfkbmlbpeojaaa.PL
end
section
namespace Go.Proofs.Ytkfkbmlbpeojaaa.Q
open Go.RowKit Go.Proofs.YtkfkbmlbpeojaaaW.PrintWords Go.Proofs.YtkfkbmlbpeojaaaW.PrintLast Go.Proofs.YtkfkbmlbpeojaaaW.PrintMore
attribute [local go_sem] max2_int min2_int max_two min_two max_three min_three max_four min_four
set_option linter.unusedVariables false
set_option linter.unusedSimpArgs false
def ops : List (ByteArray × Nat) := [(⟨#[115, 101, 116]⟩, 0), (⟨#[109, 111, 118]⟩, 1), (⟨#[110, 111, 116]⟩, 1), (⟨#[110, 101, 103]⟩, 1), (⟨#[97, 100, 100]⟩, 2), (⟨#[115, 117, 98]⟩, 2), (⟨#[97, 110, 100]⟩, 2), (⟨#[111, 114]⟩, 2), (⟨#[120, 111, 114]⟩, 2), (⟨#[108, 101, 115, 115]⟩, 2), (⟨#[101, 113]⟩, 2), (⟨#[115, 104, 108]⟩, 3), (⟨#[115, 104, 114]⟩, 3), (⟨#[109, 117, 108]⟩, 4), (⟨#[97, 100, 100, 105]⟩, 5), (⟨#[97, 110, 100, 105]⟩, 5), (⟨#[120, 111, 114, 105]⟩, 5), (⟨#[115, 104, 108, 105]⟩, 6), (⟨#[115, 104, 114, 105]⟩, 6), (⟨#[108, 101, 97]⟩, 7)]
def cls (s : ByteArray) : Nat := ((ops.find? (fun p => decide (p.1 = s))).map (·.2)).getD 8
theorem str_lit {s : ByteArray} {l : List UInt8} : s.toList = l ↔ s = ⟨l.toArray⟩ := by
 constructor
 · intro h
   rw [ByteArray.toList_eq] at h
   cases s
   congr 1
   rw [← h]
 · rintro rfl; rw [ByteArray.toList_eq]
theorem str_eq {s t : ByteArray} : s.toList = t.toList ↔ s = t := by
 constructor
 · intro h
   rw [ByteArray.toList_eq, ByteArray.toList_eq] at h
   cases s; cases t
   congr 1
   exact Array.toList_inj.1 h
 · rintro rfl; rfl
end Go.Proofs.Ytkfkbmlbpeojaaa.Q
end
section
namespace Go.Proofs.Ytkfkbmlbpeojaaa.PL
open Go Go.RowKit Go.Proofs.YtkfkbmlbpeojaaaW.PrintWords Go.Proofs.YtkfkbmlbpeojaaaW.PrintLast Go.Proofs.YtkfkbmlbpeojaaaW.PrintMore Go.Proofs.Ytkfkbmlbpeojaaa.Q
set_option linter.unusedSimpArgs false
set_option linter.unusedVariables false
def shapeC (c : Nat) : Bool × Bool × Bool × Int × Int :=
  match c with
  | 0 => (true, false, false, 0, 63)
  | 1 => (true, true, false, 0, 0)
  | 2 => (true, true, true, 0, 0)
  | 3 => (true, true, true, 0, 0)
  | 4 => (true, true, true, 0, 0)
  | 5 => (true, true, false, 0, 63)
  | 6 => (true, true, false, 1, 5)
  | 7 => (true, true, true, 1, 3)
  | _ => (false, false, false, 0, 0)
theorem within_eq (a b c : Int) : impl_within.f a b c = some (decide (b ≤ a ∧ a ≤ c)) := by
  unfold impl_within.f
  by_cases h : b ≤ a <;> simp [h]
theorem l1In_eq (a b c : Int) : spec_l1In.f a b c = some (decide (b ≤ a ∧ a ≤ c)) := by
  unfold spec_l1In.f
  by_cases h : a ≥ b
  · rw [if_pos h]; congr 1; rw [decide_eq_decide]; omega
  · rw [if_neg h]; congr 1; symm; rw [decide_eq_false_iff_not]; omega
def okI (x : Instr) : Prop := cls x.f0 ≠ 8 ∧ (0 ≤ x.f1 ∧ x.f1 ≤ 5) ∧ ((shapeC (cls x.f0)).2.1 = true ∧ 0 ≤ x.f2 ∧ x.f2 ≤ 5 ∨ x.f2 = 0) ∧ ((shapeC (cls x.f0)).2.2.1 = true ∧ 0 ≤ x.f3 ∧ x.f3 ≤ 5 ∨ x.f3 = 0) ∧ (shapeC (cls x.f0)).2.2.2.1 ≤ x.f4 ∧ x.f4 ≤ (shapeC (cls x.f0)).2.2.2.2
instance (x : Instr) : Decidable (okI x) := by unfold okI; infer_instance
end Go.Proofs.Ytkfkbmlbpeojaaa.PL
end
section
namespace Go.Proofs.Ytkfkbmlbpeojaaa.Q
open Go.RowKit Go.Proofs.YtkfkbmlbpeojaaaW.PrintWords Go.Proofs.YtkfkbmlbpeojaaaW.PrintLast Go.Proofs.YtkfkbmlbpeojaaaW.PrintMore
attribute [local go_sem] max2_int min2_int max_two min_two max_three min_three max_four min_four
set_option linter.unusedVariables false
set_option linter.unusedSimpArgs false
end Go.Proofs.Ytkfkbmlbpeojaaa.Q
end
section
namespace Go.Proofs.Ytkfkbmlbpeojaaa.PL
open Go Go.RowKit Go.Proofs.YtkfkbmlbpeojaaaW.PrintWords Go.Proofs.YtkfkbmlbpeojaaaW.PrintLast Go.Proofs.YtkfkbmlbpeojaaaW.PrintMore Go.Proofs.Ytkfkbmlbpeojaaa.Q
set_option linter.unusedSimpArgs false
set_option linter.unusedVariables false
theorem rdN_eq {xs : List S72} {i : Nat} {x : S72} (h : ∀ d, xs.getD i d = x) : rd_T72 xs i = x := by unfold rd_T72; rw [Int.toNat_natCast]; exact h _
theorem rdM_eq {xs : List S69} {i : Nat} {x : S69} (h : ∀ d, xs.getD i d = x) : rd_T69 xs i = x := by unfold rd_T69; rw [Int.toNat_natCast]; exact h _
abbrev Node := S72
abbrev LNode := S69
def cvN (x : LNode) : Node := ⟨x.f0, x.f1, x.f2, x.f3⟩
theorem szNode_eq (s : ByteArray) (a b c r : Int) (hs : s.size ≤ maxLen) (h0 : 0 ≤ r) (h1 : r ≤ 1048576) : laws_szNode.f s a b c r = some (if r < s.size then -1 else r - s.size) := by
  unfold maxLen at hs
  unfold laws_szNode.f
  rw [w64 (by omega) (by omega)]
  by_cases h : r < s.size
  · rw [if_pos (by omega), if_pos h]
  · rw [if_neg (by omega), if_neg h]
theorem szNodeS_ev (l : List LNode) (a : Int) (hl : Rd.okSl good69 l) (h0 : 0 ≤ a) (h1 : a ≤ 1048576) :
    ∃ r, Ev (fun k => laws_szNodeS.f k l a) r ∧ (0 ≤ r → (l.length : Int) ≤ a ∧ (∀ x ∈ l, (x.f0.size : Int) ≤ a) ∧ r ≤ a) := by
  obtain ⟨hl1, hl2⟩ := hl
  unfold maxLen at hl1
  by_cases h : a < l.length
  · refine ⟨-1, ?_, fun h => absurd h (by decide)⟩
    unfold laws_szNodeS.f
    rw [w64 (by omega) (by omega)]
    simp only [show a - (l.length : Int) < 0 by omega, if_true]
    exact Ev.now _
  · have key : ∀ (d i : Nat) (r : Int), i + d = l.length → 0 ≤ r → r ≤ a → ∃ q, Ev (fun k => laws_szNodeS.l0 k l r i) q ∧ q ≤ a ∧ (0 ≤ q → ∀ x ∈ l.drop i, (x.f0.size : Int) ≤ a) := by
      intro d
      induction d with
      | zero =>
        intro i r hi hr _
        refine ⟨r, Ev.step (f := fun _ => some r) (fun k => ?_) (Ev.now _), by omega, fun _ x hx => ?_⟩
        · simp only [laws_szNodeS.l0]
          rw [if_neg (by omega)]
        · rw [List.drop_of_length_le (by omega)] at hx
          cases hx
      | succ d ih =>
        intro i r hi hr hra
        have hlt : i < l.length := by omega
        have e : l.drop i = l[i] :: l.drop (i + 1) := List.drop_eq_getElem_cons hlt
        have hx := rdM_eq (getD_eq l i hlt)
        have hsz := (hl2 l[i] (List.getElem_mem hlt)).1
        by_cases hb : r < l[i].f0.size
        · refine ⟨-1, Ev.step (f := fun _ => some (-1)) (fun k => ?_) (Ev.now _), by omega, fun h => absurd h (by decide)⟩
          simp only [laws_szNodeS.l0]
          rw [if_pos (by omega), if_pos (by omega), hx, szNode_eq _ _ _ _ _ hsz hr (by omega), if_pos hb]
          rfl
        · obtain ⟨q, hq, hqa, hq'⟩ := ih (i + 1) (r - l[i].f0.size) (by omega) (by omega) (by omega)
          refine ⟨q, Ev.step (f := fun k => laws_szNodeS.l0 k l (r - l[i].f0.size) ((i + 1 : Nat) : Int)) (fun k => ?_) hq, hqa, fun h x hx' => ?_⟩
          · simp only [laws_szNodeS.l0]
            rw [if_pos (by omega), if_pos (by omega), hx, szNode_eq _ _ _ _ _ hsz hr (by omega), if_neg hb, Option.bind_some, if_neg (by omega), w64n i (by omega)]
          · rw [e] at hx'
            rcases List.mem_cons.1 hx' with rfl | hx'
            · omega
            · exact hq' h x hx'
    obtain ⟨q, hq, hqa, hq'⟩ := key l.length 0 (a - l.length) (by omega) (by omega) (by omega)
    refine ⟨q, ?_, fun h' => ⟨by omega, by simpa using hq' h', hqa⟩⟩
    unfold laws_szNodeS.f
    rw [w64 (by omega) (by omega)]
    simp only [show ¬ (a - (l.length : Int) < 0) by omega, if_false]
    simpa using hq
theorem toNodeS_ev (l : List LNode) (hl : l.length ≤ 1048576) : Ev (fun k => laws_toNodeS.f k l) (l.map cvN) := by
  have key : ∀ (d i : Nat), i + d = l.length → Ev (fun k => laws_toNodeS.l0 k l ((l.take i).map cvN ++ List.replicate d z72) i) (l.map cvN) := by
    intro d
    induction d with
    | zero =>
      intro i hi
      refine Ev.step (f := fun _ => some _) (fun k => ?_) (Ev.now _)
      simp only [laws_toNodeS.l0]
      rw [if_neg (by omega), List.take_of_length_le (by omega)]
      simp
    | succ d ih =>
      intro i hi
      have hlt : i < l.length := by omega
      have hx := rdM_eq (getD_eq l i hlt)
      refine Ev.step (fun k => ?_) (ih (i + 1) (by omega))
      simp only [laws_toNodeS.l0, laws_toNode.f, Option.bind_some]
      rw [if_pos (by omega), if_pos (by omega), if_pos (by simp; omega), hx, w64n i (by omega)]
      congr 1
      have e : ((i : Int)).toNat = ((l.take i).map cvN).length := by simp; omega
      rw [e]
      have := set_fill ((l.take i).map cvN) (List.replicate d z72) z72 (cvN l[i])
      simp only [List.length_replicate] at this
      rw [show (⟨l[i].f0, l[i].f1, l[i].f2, l[i].f3⟩ : Node) = cvN l[i] from rfl, this]
      congr 1
      rw [List.take_succ_eq_append_getElem hlt, List.map_append]
      rfl
  unfold laws_toNodeS.f
  refine Ev.ifp (by omega) (Ev.ifp (by simp; omega) ?_)
  simpa using key l.length 0 (by omega)
theorem eqNodeS_refl (l : List Node) (hl : l.length ≤ 1048576) : Ev (fun k => laws_eqNodeS.f k l l) true := by
  unfold laws_eqNodeS.f
  simp only [if_true]
  refine loop_list (σ := Unit) l (fun k _ i => laws_eqNodeS.l0 k l l i) (fun _ _ => true) (fun _ => ?_) (fun i _ x rest hi hx ih => ?_) ()
  · refine Ev.step (f := fun _ => some true) (fun k => ?_) (Ev.now _)
    simp only [laws_eqNodeS.l0]
    rw [if_neg (by omega)]
  · refine Ev.step (fun k => ?_) (ih ())
    simp only [laws_eqNodeS.l0, laws_eqNode.f, reduceIte, Option.bind_some]
    rw [if_pos (by omega), if_pos (by omega), w64n i (by omega), if_pos (by omega)]
theorem idx_mem {α : Type} (p : α → Bool) (xs : List α) (q : Prop) [Decidable q] (h : q ↔ ∃ x ∈ xs, p x = true) : decide (idx p xs ≥ 0) = decide q := by
  rw [decide_eq_decide]
  exact (idx_nonneg p xs).trans h.symm
def hasS (l : List ByteArray) (s : ByteArray) : Bool := l.any fun y => decide (y = s)
theorem hasS_iff (l : List ByteArray) (s : ByteArray) : hasS l s = true ↔ s ∈ l := by
  unfold hasS
  rw [List.any_eq_true]
  exact ⟨fun ⟨x, hx, h⟩ => of_decide_eq_true h ▸ hx, fun h => ⟨s, h, decide_eq_true rfl⟩⟩
theorem containsS_ev (l : List ByteArray) (s : ByteArray) (hl : l.length ≤ 1048576) : Ev (fun k => slices_Contains_string_string.f k l s) (hasS l s) := by
  have h : Ev (fun k => slices_Index_string_string.f k l s) (idx (fun y => decide (s = y)) l) := by
    unfold slices_Index_string_string.f
    refine search_ev l _ (fun k i => slices_Index_string_string.l0 k l s l.length i) ?_ (fun i x hi hx hp => ?_) (fun i x r hi hx hp hr => ?_)
    · refine Ev.step (f := fun _ => some (-1)) (fun k => ?_) (Ev.now _)
      simp only [slices_Index_string_string.l0]
      rw [if_neg (by omega)]
    · refine Ev.step (f := fun _ => some (i : Int)) (fun k => ?_) (Ev.now _)
      simp only [slices_Index_string_string.l0, rdOf_eq hx, str_eq]
      rw [if_pos (by omega), if_pos (by omega), if_pos (by omega), if_pos (of_decide_eq_true hp)]
    · refine Ev.step (fun k => ?_) hr
      simp only [slices_Index_string_string.l0, rdOf_eq hx, str_eq]
      rw [if_pos (by omega), if_pos (by omega), if_pos (by omega), if_neg (of_decide_eq_false hp), w64n i (by omega)]
  unfold slices_Contains_string_string.f
  refine Ev.bind h (Ev.some ?_)
  rw [Bool.eq_iff_iff, decide_eq_true_eq, hasS_iff]
  refine (idx_nonneg _ l).trans ⟨?_, fun h => ⟨s, h, decide_eq_true rfl⟩⟩
  rintro ⟨x, hx, h⟩
  rw [of_decide_eq_true h]
  exact hx
theorem l1HasS_ev (l : List ByteArray) (s : ByteArray) (hl : l.length ≤ 1048576) : Ev (fun k => spec_l1HasS.f k l s) (hasS l s) := by
  unfold spec_l1HasS.f
  refine loop_list (σ := Unit) l (fun k _ i => spec_l1HasS.l0 k s l l.length i) (fun r _ => hasS r s) (fun _ => ?_) (fun i _ x rest hi hx ih => ?_) ()
  · refine Ev.step (f := fun _ => some false) (fun k => ?_) (Ev.now _)
    simp only [spec_l1HasS.l0]
    rw [if_neg (by omega)]
  · refine Ev.step (fun k => by simp only [spec_l1HasS.l0, rdOf_eq hx, str_eq]; rfl) (Ev.ifp (by omega) (Ev.ifp (by omega) (Ev.ifp (by omega) ?_)))
    by_cases q : x = s
    · exact Ev.ifp q (Ev.some (by simp [hasS, q]))
    · refine Ev.ifn q ?_
      rw [w64n i (by omega)]
      refine ev_eq (ih ()) ?_
      simp [hasS, q]
theorem containsI_ev (l : List Int) (s : Int) (hl : l.length ≤ 1048576) : Ev (fun k => slices_Contains_int_int.f k l s) (decide (s ∈ l)) := by
  have h : Ev (fun k => slices_Index_int_int.f k l s) (idx (fun y => decide (s = y)) l) := by
    unfold slices_Index_int_int.f
    refine search_ev l _ (fun k i => slices_Index_int_int.l0 k l s l.length i) ?_ (fun i x hi hx hp => ?_) (fun i x r hi hx hp hr => ?_)
    · refine Ev.step (f := fun _ => some (-1)) (fun k => ?_) (Ev.now _)
      simp only [slices_Index_int_int.l0]
      rw [if_neg (by omega)]
    · refine Ev.step (f := fun _ => some (i : Int)) (fun k => ?_) (Ev.now _)
      simp only [slices_Index_int_int.l0, rd_eq hx]
      rw [if_pos (by omega), if_pos (by omega), if_pos (by omega), if_pos (of_decide_eq_true hp)]
    · refine Ev.step (fun k => ?_) hr
      simp only [slices_Index_int_int.l0, rd_eq hx]
      rw [if_pos (by omega), if_pos (by omega), if_pos (by omega), if_neg (of_decide_eq_false hp), w64n i (by omega)]
  unfold slices_Contains_int_int.f
  refine Ev.bind h (Ev.some (idx_mem _ _ _ ?_))
  constructor
  · exact fun h => ⟨s, h, decide_eq_true rfl⟩
  · rintro ⟨x, hx, h⟩
    rw [of_decide_eq_true h]
    exact hx
theorem l1Has_ev (l : List Int) (s : Int) (hl : l.length ≤ 1048576) : Ev (fun k => spec_l1Has.f k l s) (decide (s ∈ l)) := by
  unfold spec_l1Has.f
  refine loop_list (σ := Unit) l (fun k _ i => spec_l1Has.l0 k s l l.length i) (fun r _ => decide (s ∈ r)) (fun _ => ?_) (fun i _ x rest hi hx ih => ?_) ()
  · refine Ev.step (f := fun _ => some false) (fun k => ?_) (Ev.some (by simp))
    simp only [spec_l1Has.l0]
    rw [if_neg (by omega)]
  · refine Ev.step (fun k => by simp only [spec_l1Has.l0, rd_eq hx]; rfl) (Ev.ifp (by omega) (Ev.ifp (by omega) (Ev.ifp (by omega) ?_)))
    by_cases q : x = s
    · exact Ev.ifp q (Ev.some (by simp [q]))
    · refine Ev.ifn q ?_
      rw [w64n i (by omega)]
      refine ev_eq (ih ()) ?_
      rw [decide_eq_decide, List.mem_cons]
      exact ⟨Or.inr, fun h => h.resolve_left fun e => q e.symm⟩
def bops : List ByteArray := [⟨#[97, 100, 100]⟩, ⟨#[115, 117, 98]⟩, ⟨#[109, 117, 108]⟩, ⟨#[97, 110, 100]⟩, ⟨#[111, 114]⟩, ⟨#[120, 111, 114]⟩, ⟨#[115, 104, 108]⟩, ⟨#[115, 104, 114]⟩, ⟨#[108, 101, 115, 115]⟩, ⟨#[101, 113]⟩]
theorem binary_eq : impl_binary.f = some bops := rfl
theorem exOps_eq : spec_exOps.f = some bops := rfl
def isIn (s : ByteArray) : Prop := s.toList = ([105, 110] : List UInt8)
def isConst (s : ByteArray) : Prop := s.toList = ([99, 111, 110, 115, 116] : List UInt8)
def isNot (s : ByteArray) : Prop := s.toList = ([110, 111, 116] : List UInt8)
def isNeg (s : ByteArray) : Prop := s.toList = ([110, 101, 103] : List UInt8)
instance (s : ByteArray) : Decidable (isIn s) := by unfold isIn; infer_instance
instance (s : ByteArray) : Decidable (isConst s) := by unfold isConst; infer_instance
instance (s : ByteArray) : Decidable (isNot s) := by unfold isNot; infer_instance
instance (s : ByteArray) : Decidable (isNeg s) := by unfold isNeg; infer_instance
def kN (s : ByteArray) : Nat := if isIn s then 0 else if isConst s then 1 else if isNot s ∨ isNeg s then 2 else if hasS bops s = true then 3 else 4
def opndC (c : Nat) : Int := match c with | 0 => 0 | 1 => 0 | 2 => 1 | 3 => 2 | _ => -1
theorem kN_le (s : ByteArray) : kN s = 0 ∨ kN s = 1 ∨ kN s = 2 ∨ kN s = 3 ∨ kN s = 4 := by
  unfold kN
  split
  · simp
  split
  · simp
  split
  · simp
  split <;> simp
theorem operands_ev (s : ByteArray) : Ev (fun k => impl_operands.f k s) (opndC (kN s)) := by
  unfold impl_operands.f kN
  by_cases h1 : isIn s
  · rw [if_pos h1]
    refine Ev.ifp h1 (Ev.step (fun k => by simp only [impl_operands.j0]; rfl) (Ev.ifp (show true = true from rfl) (Ev.now _)))
  rw [if_neg h1]
  refine Ev.ifn h1 ?_
  by_cases h2 : isConst s
  · rw [if_pos h2]
    exact Ev.step (fun k => by simp only [impl_operands.j0]; rfl) (Ev.ifp (beq_iff_eq.2 h2) (Ev.now _))
  rw [if_neg h2]
  refine Ev.step (fun k => by simp only [impl_operands.j0]; rfl) (Ev.ifn (fun e => h2 (beq_iff_eq.1 e)) ?_)
  by_cases h3 : isNot s
  · rw [if_pos (Or.inl h3)]
    exact Ev.ifp h3 (Ev.step (fun k => by simp only [impl_operands.j1]; rfl) (Ev.ifp (show true = true from rfl) (Ev.now _)))
  refine Ev.ifn h3 ?_
  by_cases h4 : isNeg s
  · rw [if_pos (Or.inr h4)]
    exact Ev.step (fun k => by simp only [impl_operands.j1]; rfl) (Ev.ifp (beq_iff_eq.2 h4) (Ev.now _))
  rw [if_neg (fun e => e.elim h3 h4)]
  refine Ev.step (fun k => by simp only [impl_operands.j1]; rfl) (Ev.ifn (fun e => h4 (beq_iff_eq.1 e)) ?_)
  refine Ev.call binary_eq (Ev.bind (containsS_ev bops s (by decide)) ?_)
  by_cases h5 : hasS bops s = true
  · simp only [if_pos h5]
    exact Ev.now _
  · simp only [if_neg h5]
    exact Ev.now _
theorem exOne_eq (s : ByteArray) : spec_exOne.f s = some (decide (isNot s ∨ isNeg s)) := by
  unfold spec_exOne.f
  by_cases h3 : isNot s
  · rw [if_pos (show s.toList = _ from h3), decide_eq_true (Or.inl h3)]
  · rw [if_neg (show ¬ s.toList = _ from h3)]
    congr 1
    rw [Bool.eq_iff_iff, beq_iff_eq, decide_eq_true_eq]
    exact ⟨Or.inr, fun h => h.resolve_left h3⟩
theorem exTwo_ev (s : ByteArray) : Ev (fun k => spec_exTwo.f k s) (hasS bops s) := by
  unfold spec_exTwo.f
  exact Ev.call exOps_eq (Ev.bind (l1HasS_ev bops s (by decide)) (Ev.now _))
def partsC (c : Nat) (a b : Int) : List Int := match c with | 2 => [a] | 3 => [a, b] | _ => []
theorem of_ev (x : Node) : Ev (fun k => impl_Node_of.f k x.f0 x.f1 x.f2 x.f3) (partsC (kN x.f0) x.f1 x.f2) := by
  unfold impl_Node_of.f
  refine Ev.call rfl (Ev.bind (operands_ev x.f0) (Ev.const ?_))
  rcases kN_le x.f0 with h | h | h | h | h <;> rw [h] <;> rfl
theorem exParts_ev (x : Node) : Ev (fun k => spec_exParts.f k x.f0 x.f1 x.f2 x.f3) (partsC (kN x.f0) x.f1 x.f2) := by
  unfold spec_exParts.f
  refine Ev.call (exOne_eq _) ?_
  have d1 : ∀ s, isIn s → ¬ (isNot s ∨ isNeg s) := fun s h e => by unfold isIn at h; unfold isNot isNeg at e; rw [h] at e; revert e; decide
  have d2 : ∀ s, isConst s → ¬ (isNot s ∨ isNeg s) := fun s h e => by unfold isConst at h; unfold isNot isNeg at e; rw [h] at e; revert e; decide
  have d3 : ∀ s, isIn s → ¬ hasS bops s = true := fun s h => by rw [str_lit.1 h]; decide +kernel
  have d4 : ∀ s, isConst s → ¬ hasS bops s = true := fun s h => by rw [str_lit.1 h]; decide +kernel
  unfold kN
  by_cases h1 : isIn x.f0
  · rw [if_pos h1]
    exact Ev.ifn (by simpa using d1 _ h1) (Ev.bind (exTwo_ev _) (Ev.ifn (d3 _ h1) (Ev.now _)))
  rw [if_neg h1]
  by_cases h2 : isConst x.f0
  · rw [if_pos h2]
    exact Ev.ifn (by simpa using d2 _ h2) (Ev.bind (exTwo_ev _) (Ev.ifn (d4 _ h2) (Ev.now _)))
  rw [if_neg h2]
  by_cases h3 : isNot x.f0 ∨ isNeg x.f0
  · rw [if_pos h3]
    exact Ev.ifp (by simpa using h3) (Ev.now _)
  rw [if_neg h3]
  refine Ev.ifn (by simpa using h3) (Ev.bind (exTwo_ev _) ?_)
  by_cases h5 : hasS bops x.f0 = true
  · simp only [if_pos h5]
    exact Ev.now _
  · simp only [if_neg h5]
    exact Ev.now _
def okNd (c : Nat) (a b m i : Int) : Bool := match c with
  | 0 => decide (a = 0 ∧ b = 0 ∧ 0 ≤ m ∧ m ≤ 1)
  | 1 => decide (a = 0 ∧ b = 0 ∧ 0 ≤ m ∧ m ≤ 63)
  | 2 => decide ((0 ≤ a ∧ a ≤ i - 1) ∧ b = 0 ∧ m = 0)
  | 3 => decide ((0 ≤ a ∧ a ≤ i - 1) ∧ (0 ≤ b ∧ b ≤ i - 1) ∧ m = 0)
  | _ => false
def okNx (x : Node) (i : Int) : Bool := okNd (kN x.f0) x.f1 x.f2 x.f3 i
theorem exNode_ev (x : Node) (i : Nat) (hi : i ≤ 1048576) : Ev (fun k => spec_exNode.f k x.f0 x.f1 x.f2 x.f3 i) (okNx x i) := by
  obtain ⟨s, a, b, m⟩ := x
  simp only [okNx]
  unfold spec_exNode.f kN
  have e1 : wrap64 ((i : Int) - 1) = (i : Int) - 1 := w64 (by omega) (by omega)
  by_cases h1 : isIn s
  · rw [if_pos h1]
    refine Ev.ifp h1 (Ev.const ?_)
    simp only [l1In_eq, Option.bind_some, okNd]
    by_cases q1 : a = 0 <;> by_cases q2 : b = 0 <;> simp [q1, q2]
  rw [if_neg h1]
  refine Ev.ifn h1 ?_
  by_cases h2 : isConst s
  · rw [if_pos h2]
    refine Ev.ifp h2 (Ev.const ?_)
    simp only [spec_exWord.f, l1In_eq, Option.bind_some, okNd]
    by_cases q1 : a = 0 <;> by_cases q2 : b = 0 <;> simp [q1, q2]
  rw [if_neg h2]
  refine Ev.ifn h2 (Ev.call (exOne_eq _) ?_)
  rw [e1]
  by_cases h3 : isNot s ∨ isNeg s
  · rw [if_pos h3]
    refine Ev.ifp (by simpa using h3) (Ev.const ?_)
    simp only [l1In_eq, Option.bind_some, okNd]
    by_cases q1 : 0 ≤ a ∧ a ≤ (i : Int) - 1 <;> by_cases q2 : b = 0 <;> by_cases q3 : m = 0 <;> simp [q1, q2, q3]
  rw [if_neg h3]
  refine Ev.ifn (by simpa using h3) (Ev.bind (exTwo_ev _) ?_)
  by_cases h5 : hasS bops s = true
  · simp only [if_pos h5]
    refine Ev.const ?_
    simp only [l1In_eq, Option.bind_some, okNd]
    by_cases q1 : 0 ≤ a ∧ a ≤ (i : Int) - 1 <;> by_cases q2 : 0 ≤ b ∧ b ≤ (i : Int) - 1 <;> by_cases q3 : m = 0 <;> simp [q1, q2, q3]
  · simp only [if_neg h5]
    exact Ev.now _
theorem isNode_ev (x : Node) (i : Nat) (hi : i ≤ 1048576) : Ev (fun k => impl_Node_isNode.f k x.f0 x.f1 x.f2 x.f3 i) (okNx x i) := by
  obtain ⟨s, a, b, m⟩ := x
  simp only [okNx]
  unfold impl_Node_isNode.f
  refine Ev.bind (operands_ev s) (Ev.call rfl ?_)
  have e1 : wrap64 ((i : Int) - 1) = (i : Int) - 1 := w64 (by omega) (by omega)
  have r0 : rd [a, b] 0 = a := rfl
  have r1 : rd [a, b] 1 = b := rfl
  have fin : ∀ r : Bool, (isIn s → decide (0 ≤ m ∧ m ≤ 1) = r) → (isConst s → decide (0 ≤ m ∧ m ≤ 63) = r) → (¬ isIn s → ¬ isConst s → (if opndC (kN s) > 0 then (m == 0) else false) = r) → Ev (fun k => impl_Node_isNode.l0 k i (opndC (kN s)) [a, b] 2 2 s a b m) r := by
    intro r f1 f2 f3
    refine Ev.step (fun k => by simp only [impl_Node_isNode.l0]; rfl) (Ev.ifn (by decide) ?_)
    by_cases h1 : isIn s
    · refine Ev.ifp h1 (Ev.const ?_)
      rw [within_eq, f1 h1]
      rfl
    refine Ev.ifn h1 ?_
    by_cases h2 : isConst s
    · refine Ev.ifp h2 (Ev.const ?_)
      simp only [impl_isWord.f, within_eq, Option.bind_some]
      rw [f2 h2]
    refine Ev.ifn h2 (Ev.const ?_)
    rw [← f3 h1 h2]
    split <;> rfl
  have one : ∀ r : Bool, ((if 1 < opndC (kN s) then decide (0 ≤ b ∧ b ≤ (i : Int) - 1) else decide (b = 0)) = false → r = false) → ((if 1 < opndC (kN s) then decide (0 ≤ b ∧ b ≤ (i : Int) - 1) else decide (b = 0)) = true → Ev (fun k => impl_Node_isNode.l0 k i (opndC (kN s)) [a, b] 2 2 s a b m) r) → Ev (fun k => impl_Node_isNode.l0 k i (opndC (kN s)) [a, b] 2 1 s a b m) r := by
    intro r f1 f2
    refine Ev.step (fun k => by simp only [impl_Node_isNode.l0, r1, e1, within_eq, Option.bind_some, show wrap64 (1 + 1) = 2 from w64 (by decide) (by decide)]; rfl) (Ev.ifp (by decide) (Ev.ifp (by decide) (Ev.ifp (by simp) ?_)))
    by_cases h : 1 < opndC (kN s)
    · rw [if_pos h] at f1 f2
      refine Ev.ifp h ?_
      by_cases q : 0 ≤ b ∧ b ≤ (i : Int) - 1
      · exact Ev.ifp (by simpa using q) (Ev.ifn (by omega) (f2 (by simpa using q)))
      · exact Ev.ifn (by simpa using q) (Ev.some (f1 (by simpa using q)).symm)
    · rw [if_neg h] at f1 f2
      refine Ev.ifn h (Ev.ifp (by omega) ?_)
      by_cases q : b = 0
      · exact Ev.ifp q (f2 (by simpa using q))
      · exact Ev.ifn q (Ev.some (f1 (by simpa using q)).symm)
  have zero : ∀ r : Bool, ((if 0 < opndC (kN s) then decide (0 ≤ a ∧ a ≤ (i : Int) - 1) else decide (a = 0)) = false → r = false) → ((if 0 < opndC (kN s) then decide (0 ≤ a ∧ a ≤ (i : Int) - 1) else decide (a = 0)) = true → Ev (fun k => impl_Node_isNode.l0 k i (opndC (kN s)) [a, b] 2 1 s a b m) r) → Ev (fun k => impl_Node_isNode.l0 k i (opndC (kN s)) [a, b] 2 0 s a b m) r := by
    intro r f1 f2
    refine Ev.step (fun k => by simp only [impl_Node_isNode.l0, r0, e1, within_eq, Option.bind_some, show wrap64 (0 + 1) = 1 from w64 (by decide) (by decide)]; rfl) (Ev.ifp (by decide) (Ev.ifp (by decide) (Ev.ifp (by simp) ?_)))
    by_cases h : 0 < opndC (kN s)
    · rw [if_pos h] at f1 f2
      refine Ev.ifp h ?_
      by_cases q : 0 ≤ a ∧ a ≤ (i : Int) - 1
      · exact Ev.ifp (by simpa using q) (Ev.ifn (by omega) (f2 (by simpa using q)))
      · exact Ev.ifn (by simpa using q) (Ev.some (f1 (by simpa using q)).symm)
    · rw [if_neg h] at f1 f2
      refine Ev.ifn h (Ev.ifp (by omega) ?_)
      by_cases q : a = 0
      · exact Ev.ifp q (f2 (by simpa using q))
      · exact Ev.ifn q (Ev.some (f1 (by simpa using q)).symm)
  show Ev (fun k => impl_Node_isNode.l0 k i (opndC (kN s)) [a, b] 2 0 s a b m) _
  have hin : isIn s ↔ kN s = 0 := by
    unfold kN
    by_cases h : isIn s
    · simp [h]
    · simp only [h, if_false, false_iff]
      repeat' split
      all_goals decide
  have hco : ¬ isIn s → (isConst s ↔ kN s = 1) := fun h0 => by
    unfold kN
    by_cases h : isConst s
    · simp [h, h0]
    · simp only [h, h0, if_false, false_iff]
      repeat' split
      all_goals decide
  have hdis : isConst s → ¬ isIn s := fun h e => by unfold isConst at h; unfold isIn at e; rw [h] at e; revert e; decide
  refine zero _ (fun q => ?_) (fun q0 => one _ (fun q => ?_) (fun q1 => fin _ (fun h => ?_) (fun h => ?_) (fun h h' => ?_)))
  · rcases kN_le s with c | c | c | c | c <;> rw [c] at q ⊢ <;> simp [opndC, okNd] at q ⊢ <;> omega
  · rcases kN_le s with c | c | c | c | c <;> rw [c] at q ⊢ <;> simp [opndC, okNd] at q ⊢ <;> omega
  · have c := hin.1 h
    rw [c] at q0 q1 ⊢
    simp [opndC] at q0 q1
    simp [okNd, q0, q1]
  · have c := (hco (hdis h)).1 h
    rw [c] at q0 q1 ⊢
    simp [opndC] at q0 q1
    simp [okNd, q0, q1]
  · rcases kN_le s with c | c | c | c | c
    · exact absurd (hin.2 c) h
    · exact absurd ((hco h).2 c) h'
    · rw [c] at q0 q1 ⊢
      simp [opndC] at q0 q1
      simp [okNd, opndC, q0, q1]
      rw [Bool.eq_iff_iff]
      simp
    · rw [c] at q0 q1 ⊢
      simp [opndC] at q0 q1
      simp [okNd, opndC, q0, q1]
      rw [Bool.eq_iff_iff]
      simp
    · rw [c]
      simp [okNd, opndC]
def okNs : Nat → List Node → Bool
  | _, [] => true
  | i, x :: xs => okNx x i && okNs (i + 1) xs
theorem okNs_get : ∀ (xs : List Node) (i j : Nat) (h : j < xs.length), okNs i xs = true → okNx xs[j] ((i + j : Nat) : Int) = true
  | [], _, _, h, _ => absurd h (by simp)
  | x :: xs, i, 0, _, ho => by
    simp only [okNs, Bool.and_eq_true] at ho
    exact ho.1
  | x :: xs, i, j + 1, h, ho => by
    simp only [okNs, Bool.and_eq_true] at ho
    have := okNs_get xs (i + 1) j (by simpa using h) ho.2
    rw [show i + 1 + j = i + (j + 1) by omega] at this
    exact this
def incr (u : List Int) (p : Int) : List Int := u.set p.toNat (wrap64 (rd u p + 1))
def usesN (u : List Int) (x : Node) : List Int := (partsC (kN x.f0) x.f1 x.f2).foldl incr u
def usesL (l : List Node) : List Int := l.foldl usesN (List.replicate l.length 0)
theorem incr_len (u : List Int) (p : Int) : (incr u p).length = u.length := List.length_set
theorem foldl_incr_len (ps : List Int) : ∀ u, (ps.foldl incr u).length = u.length := by
  induction ps with
  | nil => exact fun u => rfl
  | cons p ps ih => exact fun u => (ih _).trans (incr_len u p)
theorem usesN_len (u : List Int) (x : Node) : (usesN u x).length = u.length := foldl_incr_len _ u
theorem foldl_usesN_len (l : List Node) : ∀ u, (l.foldl usesN u).length = u.length := by
  induction l with
  | nil => exact fun u => rfl
  | cons x l ih => exact fun u => (ih _).trans (usesN_len u x)
theorem usesL_len (l : List Node) : (usesL l).length = l.length := by
  unfold usesL
  rw [foldl_usesN_len, List.length_replicate]
theorem parts_ok {x : Node} {i : Int} (h : okNx x i = true) : (partsC (kN x.f0) x.f1 x.f2).length ≤ 2 ∧ ∀ p ∈ partsC (kN x.f0) x.f1 x.f2, 0 ≤ p ∧ p ≤ i - 1 := by
  unfold okNx at h
  rcases kN_le x.f0 with c | c | c | c | c <;> rw [c] at h ⊢ <;> simp [okNd] at h <;> simp [partsC] <;> omega
theorem uses_loop (L0 : Nat → List Int → Int → Option (List Int)) (L1 : Nat → List Int → Int → List Int → Int → Int → Option (List Int)) (i : Nat) (n : Nat) (r : List Int)
    (h0 : ∀ k u ps j, L1 (k + 1) u i ps (ps.length : Nat) (j : Nat) = if (j : Int) < (ps.length : Nat) then (if (0 : Int) ≤ (j : Nat) then (if ((j : Nat) : Int) < (ps.length : Nat) then (if 0 ≤ rd ps (j : Nat) then (if rd ps (j : Nat) < (u.length : Int) then L1 k (u.set (rd ps (j : Nat) : Int).toNat (wrap64 (rd u (rd ps (j : Nat)) + 1))) i ps (ps.length : Nat) (wrap64 ((j : Nat) + 1)) else none) else none) else none) else none) else L0 k u (wrap64 ((i : Nat) + 1)))
    (ps : List Int) (hps : ps.length ≤ 2) (hp : ∀ p ∈ ps, 0 ≤ p ∧ p < n) (u : List Int) (hu : u.length = n) (hi : i ≤ 1048576) (H : Ev (fun k => L0 k (ps.foldl incr u) ((i + 1 : Nat) : Int)) r) : Ev (fun k => L1 k u i ps ps.length 0) r := by
  have key : ∀ (d j : Nat) (u : List Int), u.length = n → j + d = ps.length → Ev (fun k => L0 k ((ps.drop j).foldl incr u) ((i + 1 : Nat) : Int)) r → Ev (fun k => L1 k u i ps ps.length (j : Nat)) r := by
    intro d
    induction d with
    | zero =>
      intro j u hu hj H
      refine Ev.step (fun k => h0 k u ps j) (Ev.ifn (by omega) ?_)
      rw [w64n i (by omega)]
      rw [List.drop_of_length_le (by omega)] at H
      exact H
    | succ d ih =>
      intro j u hu hj H
      have hlt : j < ps.length := by omega
      have e : ps.drop j = ps[j] :: ps.drop (j + 1) := List.drop_eq_getElem_cons hlt
      have hx := rd_eq (getD_eq ps j hlt)
      have hb := hp ps[j] (List.getElem_mem hlt)
      refine Ev.step (fun k => h0 k u ps j) (Ev.ifp (by omega) (Ev.ifp (by omega) (Ev.ifp (by omega) (Ev.ifp (by rw [hx]; exact hb.1) (Ev.ifp (by rw [hx]; omega) ?_)))))
      rw [hx, w64n j (by omega)]
      rw [e] at H
      exact ih (j + 1) (incr u ps[j]) (by rw [incr_len]; exact hu) (by omega) H
  exact key ps.length 0 u hu (by omega) H
theorem uses_ev (l : List Node) (h : okNs 0 l = true) (hl : l.length ≤ 1000) : Ev (fun k => impl_uses.f k l) (usesL l) := by
  unfold impl_uses.f
  refine Ev.ifp (by omega) (Ev.ifp (by simp; omega) ?_)
  have key : ∀ (d i : Nat) (u : List Int), u.length = l.length → i + d = l.length → Ev (fun k => impl_uses.l0 k u l l.length i) ((l.drop i).foldl usesN u) := by
    intro d
    induction d with
    | zero =>
      intro i u hu hi
      refine Ev.step (f := fun _ => some u) (fun k => ?_) (Ev.some ?_)
      · simp only [impl_uses.l0]
        rw [if_neg (by omega)]
      · rw [List.drop_of_length_le (by omega)]
        rfl
    | succ d ih =>
      intro i u hu hi
      have hlt : i < l.length := by omega
      have e : l.drop i = l[i] :: l.drop (i + 1) := List.drop_eq_getElem_cons hlt
      have hx := rdN_eq (getD_eq l i hlt)
      have ok := okNs_get l 0 i hlt h
      rw [Nat.zero_add] at ok
      obtain ⟨p1, p2⟩ := parts_ok ok
      rw [e]
      refine Ev.step (fun k => by simp only [impl_uses.l0, hx]; rfl) (Ev.ifp (by omega) (Ev.ifp (by omega) (Ev.ifp (by omega) (Ev.bind (of_ev l[i]) ?_))))
      exact uses_loop (fun k u j => impl_uses.l0 k u l l.length j) (fun k u i ps n j => impl_uses.l1 k u l l.length i ps n j) i l.length _ (fun k u ps j => by simp only [impl_uses.l1]) _ p1 (fun p hp => by have := p2 p hp; omega) u hu (by omega) (ih (i + 1) _ (by rw [foldl_incr_len]; exact hu) (by omega))
  simpa [usesL] using key l.length 0 (List.replicate l.length 0) (by simp) (by omega)
theorem exUses_ev (l : List Node) (h : okNs 0 l = true) (hl : l.length ≤ 1000) : Ev (fun k => spec_exUses.f k l) (usesL l) := by
  unfold spec_exUses.f
  refine Ev.ifp (by omega) (Ev.ifp (by simp; omega) ?_)
  have key : ∀ (d i : Nat) (u : List Int), u.length = l.length → i + d = l.length → Ev (fun k => spec_exUses.l0 k u l l.length i) ((l.drop i).foldl usesN u) := by
    intro d
    induction d with
    | zero =>
      intro i u hu hi
      refine Ev.step (f := fun _ => some u) (fun k => ?_) (Ev.some ?_)
      · simp only [spec_exUses.l0]
        rw [if_neg (by omega)]
      · rw [List.drop_of_length_le (by omega)]
        rfl
    | succ d ih =>
      intro i u hu hi
      have hlt : i < l.length := by omega
      have e : l.drop i = l[i] :: l.drop (i + 1) := List.drop_eq_getElem_cons hlt
      have hx := rdN_eq (getD_eq l i hlt)
      have ok := okNs_get l 0 i hlt h
      rw [Nat.zero_add] at ok
      obtain ⟨p1, p2⟩ := parts_ok ok
      rw [e]
      refine Ev.step (fun k => by simp only [spec_exUses.l0, hx]; rfl) (Ev.ifp (by omega) (Ev.ifp (by omega) (Ev.ifp (by omega) (Ev.bind (exParts_ev l[i]) ?_))))
      exact uses_loop (fun k u j => spec_exUses.l0 k u l l.length j) (fun k u i ps n j => spec_exUses.l1 k u l l.length i ps n j) i l.length _ (fun k u ps j => by simp only [spec_exUses.l1]) _ p1 (fun p hp => by have := p2 p hp; omega) u hu (by omega) (ih (i + 1) _ (by rw [foldl_incr_len]; exact hu) (by omega))
  simpa [usesL] using key l.length 0 (List.replicate l.length 0) (by simp) (by omega)
def okExpr (l : List Node) : Bool := decide (1 ≤ l.length ∧ l.length ≤ 24) && (okNs 0 l && !decide ((0 : Int) ∈ (usesL l).take (l.length - 1)))
theorem isExpr_ev (l : List Node) : Ev (fun k => impl_IsExpr.f k l) (okExpr l) := by
  unfold impl_IsExpr.f okExpr
  refine Ev.call (within_eq _ _ _) ?_
  by_cases hl : 1 ≤ l.length ∧ l.length ≤ 24
  · rw [decide_eq_true hl, Bool.true_and]
    refine Ev.ifp (by simp; omega) ?_
    have key : ∀ (d i : Nat), i + d = l.length → (okNs 0 l = true → okNs i (l.drop i) = true) → (okNs 0 l = false → okNs i (l.drop i) = false) → Ev (fun k => impl_IsExpr.l0 k l l l.length i) (okNs 0 l && !decide ((0 : Int) ∈ (usesL l).take (l.length - 1))) := by
      intro d
      induction d with
      | zero =>
        intro i hi _ hf
        have ok : okNs 0 l = true := by
          cases h : okNs 0 l
          · have := hf h
            rw [List.drop_of_length_le (by omega)] at this
            cases this
          · rfl
        rw [ok, Bool.true_and]
        refine Ev.step (fun k => by simp only [impl_IsExpr.l0]; rfl) (Ev.ifn (by omega) (Ev.bind (uses_ev l ok (by omega)) ?_))
        have e1 : wrap64 ((l.length : Int) - 1) = ((l.length - 1 : Nat) : Int) := by rw [w64 (by omega) (by omega)]; omega
        rw [e1]
        refine Ev.ifp (by omega) (Ev.ifp (by rw [usesL_len]; omega) ?_)
        rw [Int.toNat_natCast]
        exact Ev.bind (containsI_ev _ 0 (by rw [List.length_take, usesL_len]; omega)) (Ev.now _)
      | succ d ih =>
        intro i hi ht hf
        have hlt : i < l.length := by omega
        have e : l.drop i = l[i] :: l.drop (i + 1) := List.drop_eq_getElem_cons hlt
        have hx := rdN_eq (getD_eq l i hlt)
        rw [e] at ht hf
        simp only [okNs] at ht hf
        refine Ev.step (fun k => by simp only [impl_IsExpr.l0, hx]; rfl) (Ev.ifp (by omega) (Ev.ifp (by omega) (Ev.ifp (by omega) (Ev.bind (isNode_ev l[i] i (by omega)) ?_))))
        cases h : okNx l[i] i
        · refine Ev.ifn (by decide) (Ev.some ?_)
          rw [h] at ht
          cases h0 : okNs 0 l
          · rfl
          · exact absurd (ht h0) (by simp)
        · rw [h] at ht hf
          refine Ev.ifp rfl ?_
          rw [w64n i (by omega)]
          exact ih (i + 1) (by omega) (by simpa using ht) (by simpa using hf)
    simpa using key l.length 0 (by omega) (fun h => h) (fun h => h)
  · rw [decide_eq_false hl, Bool.false_and]
    exact Ev.ifn (by simp; omega) (Ev.now _)
theorem exGood_ev (l : List Node) : Ev (fun k => spec_exGood.f k l) (okExpr l) := by
  unfold spec_exGood.f okExpr
  refine Ev.call (l1In_eq _ _ _) ?_
  by_cases hl : 1 ≤ l.length ∧ l.length ≤ 24
  · rw [decide_eq_true hl, Bool.true_and]
    refine Ev.ifp (by simp; omega) ?_
    have key : ∀ (d i : Nat), i + d = l.length → (okNs 0 l = true → okNs i (l.drop i) = true) → (okNs 0 l = false → okNs i (l.drop i) = false) → Ev (fun k => spec_exGood.l0 k l l l.length i) (okNs 0 l && !decide ((0 : Int) ∈ (usesL l).take (l.length - 1))) := by
      intro d
      induction d with
      | zero =>
        intro i hi _ hf
        have ok : okNs 0 l = true := by
          cases h : okNs 0 l
          · have := hf h
            rw [List.drop_of_length_le (by omega)] at this
            cases this
          · rfl
        rw [ok, Bool.true_and]
        refine Ev.step (fun k => by simp only [spec_exGood.l0]; rfl) (Ev.ifn (by omega) (Ev.bind (exUses_ev l ok (by omega)) ?_))
        have e1 : wrap64 ((l.length : Int) - 1) = ((l.length - 1 : Nat) : Int) := by rw [w64 (by omega) (by omega)]; omega
        rw [e1]
        refine Ev.ifp (by omega) (Ev.ifp (by rw [usesL_len]; omega) ?_)
        rw [Int.toNat_natCast]
        exact Ev.bind (l1Has_ev _ 0 (by rw [List.length_take, usesL_len]; omega)) (Ev.now _)
      | succ d ih =>
        intro i hi ht hf
        have hlt : i < l.length := by omega
        have e : l.drop i = l[i] :: l.drop (i + 1) := List.drop_eq_getElem_cons hlt
        have hx := rdN_eq (getD_eq l i hlt)
        rw [e] at ht hf
        simp only [okNs] at ht hf
        refine Ev.step (fun k => by simp only [spec_exGood.l0, hx]; rfl) (Ev.ifp (by omega) (Ev.ifp (by omega) (Ev.ifp (by omega) (Ev.bind (exNode_ev l[i] i (by omega)) ?_))))
        cases h : okNx l[i] i
        · refine Ev.ifn (by decide) (Ev.some ?_)
          rw [h] at ht
          cases h0 : okNs 0 l
          · rfl
          · exact absurd (ht h0) (by simp)
        · rw [h] at ht hf
          refine Ev.ifp rfl ?_
          rw [w64n i (by omega)]
          exact ih (i + 1) (by omega) (by simpa using ht) (by simpa using hf)
    simpa using key l.length 0 (by omega) (fun h => h) (fun h => h)
  · rw [decide_eq_false hl, Bool.false_and]
    exact Ev.ifn (by simp; omega) (Ev.now _)
theorem okExpr_of {l : List Node} (h : okExpr l = true) : (1 ≤ l.length ∧ l.length ≤ 24) ∧ okNs 0 l = true := by
  unfold okExpr at h
  simp only [Bool.and_eq_true, decide_eq_true_eq] at h
  exact ⟨h.1, h.2.1⟩
abbrev ShSt := List Node × List Int
theorem shL_leo (g g' : Int → ShSt → Option ShSt) (h : ∀ x s, LeO (g x s) (g' x s)) : ∀ ks s, LeO (shL g ks s) (shL g' ks s)
  | [], _ => LeO.refl _
  | x :: xs, s => LeO.bind (h x s) (fun s1 => shL_leo g g' h xs s1)
theorem shW_deep (k : Nat) (e : List Node) : ∀ (d : Nat) (i : Int) (s : ShSt), LeO (shW k e d i s) (shW k e (d + 1) i s)
  | 0, _, _ => LeO.none _
  | d + 1, i, s => by
    unfold shW
    exact LeO.ite (LeO.ite (LeO.refl _) (LeO.bind (LeO.refl _) (fun ks => LeO.ite (LeO.bind (shL_leo _ _ (shW_deep k e d) _ _) (fun s1 => LeO.refl _)) (LeO.refl _)))) (LeO.refl _)
theorem exW_deep (k : Nat) (e : List Node) : ∀ (d : Nat) (i : Int) (s : ShSt), LeO (exW k e d i s) (exW k e (d + 1) i s)
  | 0, _, _ => LeO.none _
  | d + 1, i, s => by
    unfold exW
    exact LeO.ite (LeO.ite (LeO.refl _) (LeO.bind (LeO.refl _) (fun ps => LeO.ite (LeO.bind (LeO.ite (exW_deep k e d _ _) (LeO.refl _)) (fun r1 => LeO.bind (LeO.ite (exW_deep k e d _ _) (LeO.refl _)) (fun r2 => LeO.refl _))) (LeO.refl _)))) (LeO.refl _)
theorem shW_deeper (k : Nat) (e : List Node) (d : Nat) (i : Int) (s R : ShSt) (h : shW k e d i s = some R) : ∀ m, shW k e (d + m) i s = some R
  | 0 => h
  | m + 1 => shW_deep k e (d + m) i s R (shW_deeper k e d i s R h m)
theorem exW_deeper (k : Nat) (e : List Node) (d : Nat) (i : Int) (s : ShSt) (R : ShSt × Int) (h : exW k e d i s = some R) : ∀ m, exW k e (d + m) i s = some R
  | 0 => h
  | m + 1 => exW_deep k e (d + m) i s R (exW_deeper k e d i s R h m)
theorem shW_ev (e : List Node) (d : Nat) (i : Int) (s R : ShSt) (h : Ev (fun k => shW k e d i s) R) : Ev (fun k => shW k e k i s) R := by
  obtain ⟨K, hK⟩ := h
  exact ⟨max K d, fun k hk => by have := shW_deeper k e d i s R (hK k (by omega)) (k - d); rwa [show d + (k - d) = k by omega] at this⟩
theorem exW_ev (e : List Node) (d : Nat) (i : Int) (s : ShSt) (R : ShSt × Int) (h : Ev (fun k => exW k e d i s) R) : Ev (fun k => exW k e k i s) R := by
  obtain ⟨K, hK⟩ := h
  exact ⟨max K d, fun k hk => by have := exW_deeper k e d i s R (hK k (by omega)) (k - d); rwa [show d + (k - d) = k by omega] at this⟩
def nodeP (x : Node) (s : ShSt) : Node := match kN x.f0 with
  | 2 => ⟨x.f0, rd s.2 x.f1, x.f2, x.f3⟩
  | 3 => ⟨x.f0, rd s.2 x.f1, rd s.2 x.f2, x.f3⟩
  | _ => x
def putP (n : Node) (i : Int) (s : ShSt) : ShSt := ((exPut n s.1).1, s.2.set i.toNat (exPut n s.1).2)
def shD (l : List Node) : Nat → Int → ShSt → ShSt
  | 0, _, s => s
  | d + 1, i, s => if 0 ≤ rd s.2 i then s else
    putP (nodeP (l.getD i.toNat ⟨⟨#[]⟩, 0, 0, 0⟩) ((partsC (kN (l.getD i.toNat ⟨⟨#[]⟩, 0, 0, 0⟩).f0) (l.getD i.toNat ⟨⟨#[]⟩, 0, 0, 0⟩).f1 (l.getD i.toNat ⟨⟨#[]⟩, 0, 0, 0⟩).f2).foldl (fun s p => shD l d p s) s)) i
      ((partsC (kN (l.getD i.toNat ⟨⟨#[]⟩, 0, 0, 0⟩).f0) (l.getD i.toNat ⟨⟨#[]⟩, 0, 0, 0⟩).f1 (l.getD i.toNat ⟨⟨#[]⟩, 0, 0, 0⟩).f2).foldl (fun s p => shD l d p s) s)
def nmd (ns : List Int) : Nat := ns.countP fun x => decide (0 ≤ x)
theorem exPut_nn (n : Node) (out : List Node) : 0 ≤ (exPut n out).2 := by
  unfold exPut
  split
  · exact Int.natCast_nonneg _
  · rename_i h
    show 0 ≤ exIx n out 0
    omega
theorem exPut_len (n : Node) (out : List Node) : (exPut n out).1.length ≤ out.length + 1 := by
  unfold exPut
  split
  · simp
  · exact Nat.le_succ _
theorem nmd_set (ns : List Int) (i : Nat) (x : Int) (hi : i < ns.length) (h : ns.getD i 0 < 0) (hx : 0 ≤ x) : nmd (ns.set i x) = nmd ns + 1 := by
  induction ns generalizing i with
  | nil => simp at hi
  | cons y ys ih =>
    unfold nmd at ih ⊢
    cases i with
    | zero =>
      have hy : ¬ 0 ≤ y := by simpa using h
      simp [List.countP_cons, hx, hy]
    | succ i =>
      have := ih i (by simpa using hi) (by simpa using h)
      simp only [List.set_cons_succ, List.countP_cons]
      omega
theorem nmd_le (ns : List Int) : nmd ns ≤ ns.length := List.countP_le_length
structure Kp (n i : Nat) (s s' : ShSt) : Prop where
  len : s'.2.length = n
  cnt : s'.1.length ≤ nmd s'.2
  keep : ∀ j : Nat, 0 ≤ rd s.2 (j : Int) → rd s'.2 (j : Int) = rd s.2 (j : Int)
  far : ∀ j : Nat, i ≤ j → rd s'.2 (j : Int) = rd s.2 (j : Int)
theorem Kp.trans {n i : Nat} {s s1 s2 : ShSt} (h : Kp n i s s1) (h' : Kp n i s1 s2) : Kp n i s s2 :=
  ⟨h'.len, h'.cnt, fun j hj => by rw [h'.keep j (by rw [h.keep j hj]; exact hj), h.keep j hj], fun j hj => by rw [h'.far j hj, h.far j hj]⟩
theorem Kp.wide {n i m : Nat} {s s' : ShSt} (h : Kp n i s s') (hm : i ≤ m) : Kp n m s s' := ⟨h.len, h.cnt, h.keep, fun j hj => h.far j (by omega)⟩
theorem fold_ok (n i : Nat) (g : ShSt → Int → ShSt) (hg : ∀ (p : Nat) s, p < i → s.2.length = n → s.1.length ≤ nmd s.2 → Kp n i s (g s p) ∧ 0 ≤ rd (g s p).2 (p : Int)) : ∀ (ps : List Int) (s : ShSt), (∀ p ∈ ps, 0 ≤ p ∧ p < (i : Int)) → s.2.length = n → s.1.length ≤ nmd s.2 → Kp n i s (ps.foldl g s) ∧ ∀ p ∈ ps, 0 ≤ rd (ps.foldl g s).2 p
  | [], s, _, h1, h2 => ⟨⟨h1, h2, fun _ _ => rfl, fun _ _ => rfl⟩, fun p hp => absurd hp (by simp)⟩
  | q :: ps, s, hps, h1, h2 => by
    obtain ⟨q0, q1⟩ := hps q (by simp)
    obtain ⟨p, rfl⟩ := Int.eq_ofNat_of_zero_le q0
    obtain ⟨a, b⟩ := hg p s (by omega) h1 h2
    obtain ⟨c, e⟩ := fold_ok n i g hg ps (g s p) (fun x hx => hps x (by simp [hx])) a.len a.cnt
    refine ⟨a.trans c, fun x hx => ?_⟩
    rcases List.mem_cons.1 hx with rfl | hx
    · show 0 ≤ rd (ps.foldl g (g s p)).2 (p : Int)
      rw [c.keep p b]
      exact b
    · exact e x hx
theorem rd_set (ns : List Int) (i j : Nat) (x : Int) (hi : i < ns.length) : rd (ns.set i x) (j : Int) = if i = j then x else rd ns (j : Int) := by
  unfold rd
  rw [Int.toNat_natCast, List.getD_eq_getElem?_getD, List.getD_eq_getElem?_getD, List.getElem?_set]
  split
  · rename_i h
    subst h
    simp [hi]
  · rfl
theorem put_ok (n i : Nat) (x : Node) (s : ShSt) (hi : i < n) (h1 : s.2.length = n) (h2 : s.1.length ≤ nmd s.2) (h3 : rd s.2 (i : Int) < 0) : Kp n (i + 1) s (putP x i s) ∧ 0 ≤ rd (putP x i s).2 (i : Int) := by
  have e1 := exPut_nn x s.1
  have e2 := exPut_len x s.1
  have e3 : nmd (s.2.set i (exPut x s.1).2) = nmd s.2 + 1 := nmd_set s.2 i _ (by omega) (by unfold rd at h3; rwa [Int.toNat_natCast] at h3) e1
  unfold putP
  rw [Int.toNat_natCast]
  refine ⟨⟨by simp [h1], by simp only; omega, fun j hj => ?_, fun j hj => ?_⟩, ?_⟩
  · simp only
    rw [rd_set _ _ _ _ (by omega), if_neg (by rintro rfl; omega)]
  · simp only
    rw [rd_set _ _ _ _ (by omega), if_neg (by omega)]
  · simp only
    rw [rd_set _ _ _ _ (by omega), if_pos rfl]
    exact e1
theorem shD_ok (l : List Node) (ok : okNs 0 l = true) : ∀ (d i : Nat) (s : ShSt), i < d → i < l.length → s.2.length = l.length → s.1.length ≤ nmd s.2 → Kp l.length (i + 1) s (shD l d i s) ∧ 0 ≤ rd (shD l d i s).2 (i : Int)
  | 0, _, _, h, _, _, _ => absurd h (by omega)
  | d + 1, i, s, hd, hi, h1, h2 => by
    unfold shD
    by_cases q : 0 ≤ rd s.2 (i : Int)
    · rw [if_pos q]
      exact ⟨⟨h1, h2, fun _ _ => rfl, fun _ _ => rfl⟩, q⟩
    · rw [if_neg q, Int.toNat_natCast]
      have hx : l.getD i ⟨⟨#[]⟩, 0, 0, 0⟩ = l[i] := by rw [List.getD_eq_getElem?_getD, List.getElem?_eq_getElem hi]; rfl
      rw [hx]
      have hok := okNs_get l 0 i hi ok
      rw [Nat.zero_add] at hok
      have hp := (parts_ok hok).2
      obtain ⟨a, _⟩ := fold_ok l.length i (fun s p => shD l d p s) (fun p s hp h1 h2 => by
        obtain ⟨b, c⟩ := shD_ok l ok d p s (by omega) (by omega) h1 h2
        exact ⟨b.wide (by omega), c⟩) (partsC (kN l[i].f0) l[i].f1 l[i].f2) s (fun p hq => by have := hp p hq; omega) h1 h2
      obtain ⟨b, c⟩ := put_ok l.length i (nodeP l[i] ((partsC (kN l[i].f0) l[i].f1 l[i].f2).foldl (fun s p => shD l d p s) s)) _ hi a.len a.cnt (by rw [a.far i (Nat.le_refl _)]; omega)
      exact ⟨(a.wide (by omega)).trans b, c⟩
theorem getN_eq {l : List Node} {i : Nat} (hi : i < l.length) : l.getD (i : Int).toNat ⟨⟨#[]⟩, 0, 0, 0⟩ = l[i] := by rw [Int.toNat_natCast, List.getD_eq_getElem?_getD, List.getElem?_eq_getElem hi]; rfl
theorem okN_leaf {x : Node} {i : Int} (h : okNx x i = true) (c : kN x.f0 = 0 ∨ kN x.f0 = 1) : x.f1 = 0 ∧ x.f2 = 0 := by
  unfold okNx at h
  rcases c with c | c <;> rw [c] at h <;> simp [okNd] at h <;> exact ⟨h.1, h.2.1⟩
theorem okN_un {x : Node} {i : Int} (h : okNx x i = true) (c : kN x.f0 = 2) : x.f2 = 0 ∧ 0 ≤ x.f1 ∧ x.f1 ≤ i - 1 := by
  unfold okNx at h
  rw [c] at h
  simp [okNd] at h
  omega
theorem okN_bi {x : Node} {i : Int} (h : okNx x i = true) (c : kN x.f0 = 3) : (0 ≤ x.f1 ∧ x.f1 ≤ i - 1) ∧ 0 ≤ x.f2 ∧ x.f2 ≤ i - 1 := by
  unfold okNx at h
  rw [c] at h
  simp [okNd] at h
  omega
theorem okN_none {x : Node} {i : Int} (h : okNx x i = true) (c : kN x.f0 = 4) : False := by
  unfold okNx at h
  rw [c] at h
  simp [okNd] at h
theorem leafN {x : Node} {i : Int} (h : okNx x i = true) (c : kN x.f0 = 0 ∨ kN x.f0 = 1) : x = ⟨x.f0, 0, 0, x.f3⟩ := by
  obtain ⟨e1, e2⟩ := okN_leaf h c
  obtain ⟨a, b, c, d⟩ := x
  simp only at e1 e2
  rw [e1, e2]
theorem nodeP_leaf {x : Node} (s : ShSt) (c : kN x.f0 = 0 ∨ kN x.f0 = 1) : nodeP x s = x := by
  unfold nodeP
  rcases c with c | c <;> rw [c] <;> rfl
theorem nodeP_un {x : Node} (s : ShSt) (c : kN x.f0 = 2) : nodeP x s = ⟨x.f0, rd s.2 x.f1, x.f2, x.f3⟩ := by
  unfold nodeP
  rw [c]
  rfl
theorem nodeP_bi {x : Node} (s : ShSt) (c : kN x.f0 = 3) : nodeP x s = ⟨x.f0, rd s.2 x.f1, rd s.2 x.f2, x.f3⟩ := by
  unfold nodeP
  rw [c]
  rfl
theorem partsC_leaf {c : Nat} (h : c = 0 ∨ c = 1) (a b : Int) : partsC c a b = [] := by rcases h with rfl | rfl <;> rfl
theorem exW_fix (l : List Node) (hl : l.length ≤ 1000) (ok : okNs 0 l = true) : ∀ (d i : Nat) (s : ShSt), i < d → i < l.length → s.2.length = l.length → s.1.length ≤ nmd s.2 → Ev (fun k => exW k l d i s) (shD l d i s, rd (shD l d i s).2 (i : Int))
  | 0, _, _, h, _, _, _ => absurd h (by omega)
  | d + 1, i, s, hd, hi, h1, h2 => by
    have hr : rd_T72 l (i : Int) = l[i] := rdN_eq (getD_eq l i hi)
    have hok := okNs_get l 0 i hi ok
    rw [Nat.zero_add] at hok
    have fin : ∀ (n : Node) (S : ShSt), S.2.length = l.length → S.1.length ≤ nmd S.2 → Ev (fun _ : Nat => if S.1.length < 1048576 then some (((exPut n S.1).1, S.2.set (i : Int).toNat (exPut n S.1).2), (exPut n S.1).2) else none) (putP n i S, rd (putP n i S).2 (i : Int)) := fun n S a b => by
      have := nmd_le S.2
      refine Ev.ifp (by omega) (Ev.some ?_)
      unfold putP
      simp only
      rw [Int.toNat_natCast, rd_set _ _ _ _ (by omega), if_pos rfl]
    simp only [exW, shD]
    rw [hr, getN_eq hi]
    refine Ev.ifp ⟨by omega, by omega⟩ ?_
    by_cases q : 0 ≤ rd s.2 (i : Int)
    · rw [if_pos q]
      exact Ev.ifp q (Ev.some rfl)
    rw [if_neg q]
    refine Ev.ifn q (Ev.bind (exParts_ev l[i]) (Ev.ifp (by have := (parts_ok hok).1; omega) ?_))
    generalize l[i] = x at hok ⊢
    rcases kN_le x.f0 with c | c | c | c | c
    · rw [partsC_leaf (.inl c), List.foldl_nil, nodeP_leaf s (.inl c)]
      refine Ev.bind (Ev.ifn (by simp) (Ev.now _)) (Ev.bind (Ev.ifn (by simp) (Ev.now _)) (ev_eq (fin ⟨x.f0, 0, 0, x.f3⟩ s h1 h2) (congrArg (fun n => (putP n i s, rd (putP n i s).2 (i : Int))) (leafN hok (.inl c)).symm)))
    · rw [partsC_leaf (.inr c), List.foldl_nil, nodeP_leaf s (.inr c)]
      refine Ev.bind (Ev.ifn (by simp) (Ev.now _)) (Ev.bind (Ev.ifn (by simp) (Ev.now _)) (ev_eq (fin ⟨x.f0, 0, 0, x.f3⟩ s h1 h2) (congrArg (fun n => (putP n i s, rd (putP n i s).2 (i : Int))) (leafN hok (.inr c)).symm)))
    · obtain ⟨e0, e1, e2⟩ := okN_un hok c
      rw [show partsC (kN x.f0) x.f1 x.f2 = [x.f1] by rw [c]; rfl, List.foldl_cons, List.foldl_nil, nodeP_un _ c, e0]
      obtain ⟨p, hp⟩ := Int.eq_ofNat_of_zero_le e1
      rw [hp] at e2 ⊢
      obtain ⟨m1, m2⟩ := shD_ok l ok d p s (by omega) (by omega) h1 h2
      refine Ev.bind (Ev.ifp (by simp) (exW_fix l hl ok d p s (by omega) (by omega) h1 h2)) (Ev.bind (Ev.ifn (by simp) (Ev.now _)) ?_)
      exact fin ⟨x.f0, rd (shD l d p s).2 (p : Int), 0, x.f3⟩ (shD l d p s) m1.len m1.cnt
    · obtain ⟨⟨e1, e2⟩, e4, e5⟩ := okN_bi hok c
      rw [show partsC (kN x.f0) x.f1 x.f2 = [x.f1, x.f2] by rw [c]; rfl, List.foldl_cons, List.foldl_cons, List.foldl_nil, nodeP_bi _ c]
      obtain ⟨p, hp⟩ := Int.eq_ofNat_of_zero_le e1
      obtain ⟨p', hp'⟩ := Int.eq_ofNat_of_zero_le e4
      rw [hp] at e2 ⊢
      rw [hp'] at e5 ⊢
      obtain ⟨m1, m2⟩ := shD_ok l ok d p s (by omega) (by omega) h1 h2
      obtain ⟨n1, n2⟩ := shD_ok l ok d p' (shD l d p s) (by omega) (by omega) m1.len m1.cnt
      refine Ev.bind (Ev.ifp (by simp) (exW_fix l hl ok d p s (by omega) (by omega) h1 h2)) (Ev.bind (Ev.ifp (by simp) (exW_fix l hl ok d p' _ (by omega) (by omega) m1.len m1.cnt)) ?_)
      rw [n1.keep p m2]
      exact fin ⟨x.f0, rd (shD l d p s).2 (p : Int), rd (shD l d p' (shD l d p s)).2 (p' : Int), x.f3⟩ (shD l d p' (shD l d p s)) n1.len n1.cnt
    · exact (okN_none hok c).elim
def shP (l : List Node) : List Node := (shD l l.length ((l.length - 1 : Nat) : Int) ([], List.replicate l.length (-1))).1
theorem exShare_ev (l : List Node) (h0 : 0 < l.length) (hl : l.length ≤ 1000) (ok : okNs 0 l = true) : Ev (fun k => spec_exShare.f k l) (shP l) := by
  unfold spec_exShare.f
  refine Ev.ifp (by omega) ?_
  have := exW_ev l l.length ((l.length - 1 : Nat) : Int) ([], List.replicate l.length (-1)) _ (exW_fix l hl ok l.length (l.length - 1) _ (by omega) (by omega) (by simp) (by simp))
  rw [show ((l.length - 1 : Nat) : Int) = (l.length : Int) - 1 by omega] at this
  refine Ev.bind this (Ev.some ?_)
  unfold shP
  rw [show ((l.length - 1 : Nat) : Int) = (l.length : Int) - 1 by omega]
theorem exEq_iff (x y : Node) : exEq x y = true ↔ x = y := by
  obtain ⟨a, b, c, d⟩ := x
  obtain ⟨a', b', c', d'⟩ := y
  unfold exEq
  simp only [Bool.and_eq_true, beq_iff_eq, str_eq, S72.mk.injEq]
theorem exEq_comm (x y : Node) : exEq x y = exEq y x := by
  rw [Bool.eq_iff_iff, exEq_iff, exEq_iff]
  exact eq_comm
theorem exIx_off (n : Node) : ∀ (xs : List Node) (i : Int), 0 ≤ i → exIx n xs i = if idx (exEq n) xs < 0 then -1 else i + idx (exEq n) xs
  | [], i, _ => by simp [exIx, idx]
  | x :: xs, i, h => by
    unfold exIx idx
    by_cases q : exEq n x = true
    · rw [if_pos (by rw [exEq_comm]; exact q), if_pos q, if_neg (by decide)]
      omega
    · rw [if_neg (by rw [exEq_comm]; exact q), if_neg q, exIx_off n xs (i + 1) (by omega)]
      by_cases r : idx (exEq n) xs < 0
      · rw [if_pos r, if_pos r, if_pos (by decide)]
      · rw [if_neg r, if_neg r, if_neg (by omega)]
        omega
theorem exIx_idx (n : Node) (xs : List Node) : exIx n xs 0 = idx (exEq n) xs := by
  rw [exIx_off n xs 0 (by omega)]
  have := idx_ge (exEq n) xs
  split <;> omega
theorem nodeIdx_ev (l : List Node) (n : Node) (hl : l.length ≤ 1048576) : Ev (fun k => impl_Node_152.f k l n.f0 n.f1 n.f2 n.f3) (idx (exEq n) l) := by
  unfold impl_Node_152.f
  refine search_ev l _ (fun k i => impl_Node_152.l0 k l l.length i n.f0 n.f1 n.f2 n.f3) ?_ (fun i x hi hx hp => ?_) (fun i x r hi hx hp hr => ?_)
  · refine Ev.step (f := fun _ => some (-1)) (fun k => ?_) (Ev.now _)
    simp only [impl_Node_152.l0]
    rw [if_neg (by omega)]
  · refine Ev.step (f := fun _ => some (i : Int)) (fun k => ?_) (Ev.now _)
    unfold exEq at hp
    simp only [impl_Node_152.l0, rdN_eq hx]
    rw [if_pos (by omega), if_pos (by omega), if_pos (by omega), if_pos hp]
  · refine Ev.step (fun k => ?_) hr
    unfold exEq at hp
    simp only [impl_Node_152.l0, rdN_eq hx]
    rw [if_pos (by omega), if_pos (by omega), if_pos (by omega), if_neg (by rw [hp]; decide), w64n i (by omega)]
theorem ren_ev (x : Node) (i : Int) (h : okNx x i = true) (s : ShSt) (hi : i ≤ s.2.length) : Ev (fun k => impl_Node_renamed.f k x.f0 x.f1 x.f2 x.f3 s.2) ((nodeP x s).f0, (nodeP x s).f1, (nodeP x s).f2, (nodeP x s).f3) := by
  unfold impl_Node_renamed.f
  refine Ev.bind (operands_ev x.f0) ?_
  rcases kN_le x.f0 with c | c | c | c | c
  · rw [nodeP_leaf s (.inl c), c]
    exact Ev.ifn (by decide) (Ev.ifn (by decide) (Ev.now _))
  · rw [nodeP_leaf s (.inr c), c]
    exact Ev.ifn (by decide) (Ev.ifn (by decide) (Ev.now _))
  · obtain ⟨e0, e1, e2⟩ := okN_un h c
    rw [nodeP_un s c, c]
    exact Ev.ifp (by decide) (Ev.ifp e1 (Ev.ifp (by omega) (Ev.ifn (by decide) (Ev.now _))))
  · obtain ⟨⟨e1, e2⟩, e4, e5⟩ := okN_bi h c
    rw [nodeP_bi s c, c]
    exact Ev.ifp (by decide) (Ev.ifp e1 (Ev.ifp (by omega) (Ev.ifp (by decide) (Ev.ifp e4 (Ev.ifp (by omega) (Ev.now _))))))
  · exact (okN_none h c).elim
theorem shPut_ev (n : Node) (i : Int) (s : ShSt) (hs : s.1.length ≤ 1000) : Ev (fun k => shPut k i n s) (putP n i s) := by
  unfold shPut putP exPut
  refine Ev.ifp (by omega) (Ev.bind (nodeIdx_ev s.1 n (by omega)) (Ev.some ?_))
  rw [exIx_idx]
  split <;> rfl
theorem shW_fix (l : List Node) (hl : l.length ≤ 1000) (ok : okNs 0 l = true) : ∀ (d i : Nat) (s : ShSt), i < d → i < l.length → s.2.length = l.length → s.1.length ≤ nmd s.2 → Ev (fun k => shW k l d i s) (shD l d i s)
  | 0, _, _, h, _, _, _ => absurd h (by omega)
  | d + 1, i, s, hd, hi, h1, h2 => by
    have hr : rd_T72 l (i : Int) = l[i] := rdN_eq (getD_eq l i hi)
    have hok := okNs_get l 0 i hi ok
    rw [Nat.zero_add] at hok
    simp only [shW, shD]
    rw [hr, getN_eq hi]
    refine Ev.ifp ⟨by omega, by omega⟩ ?_
    by_cases q : 0 ≤ rd s.2 (i : Int)
    · rw [if_pos q]
      exact Ev.ifp q (Ev.some rfl)
    rw [if_neg q]
    refine Ev.ifn q (Ev.bind (of_ev l[i]) (Ev.ifp (by have := (parts_ok hok).1; omega) ?_))
    generalize l[i] = x at hok ⊢
    have fin : ∀ S : ShSt, S.2.length = l.length → S.1.length ≤ nmd S.2 → Ev (fun k => (impl_Node_renamed.f k x.f0 x.f1 x.f2 x.f3 S.2).bind fun n => shPut k i ⟨n.1, n.2.1, n.2.2.1, n.2.2.2⟩ S) (putP (nodeP x S) i S) := fun S a b => by
      have := nmd_le S.2
      exact Ev.bind (ren_ev x i hok S (by omega)) (shPut_ev (nodeP x S) i S (by omega))
    rcases kN_le x.f0 with c | c | c | c | c
    · rw [partsC_leaf (.inl c), List.foldl_nil]
      exact Ev.bind (Ev.now s) (fin s h1 h2)
    · rw [partsC_leaf (.inr c), List.foldl_nil]
      exact Ev.bind (Ev.now s) (fin s h1 h2)
    · obtain ⟨e0, e1, e2⟩ := okN_un hok c
      rw [show partsC (kN x.f0) x.f1 x.f2 = [x.f1] by rw [c]; rfl, List.foldl_cons, List.foldl_nil]
      obtain ⟨p, hp⟩ := Int.eq_ofNat_of_zero_le e1
      rw [hp] at e2 ⊢
      obtain ⟨m1, m2⟩ := shD_ok l ok d p s (by omega) (by omega) h1 h2
      refine Ev.bind (Ev.bind (shW_fix l hl ok d p s (by omega) (by omega) h1 h2) (Ev.now _)) ?_
      rw [← hp]
      exact fin _ (by rw [hp]; exact m1.len) (by rw [hp]; exact m1.cnt)
    · obtain ⟨⟨e1, e2⟩, e4, e5⟩ := okN_bi hok c
      rw [show partsC (kN x.f0) x.f1 x.f2 = [x.f1, x.f2] by rw [c]; rfl, List.foldl_cons, List.foldl_cons, List.foldl_nil]
      obtain ⟨p, hp⟩ := Int.eq_ofNat_of_zero_le e1
      obtain ⟨p', hp'⟩ := Int.eq_ofNat_of_zero_le e4
      rw [hp] at e2 ⊢
      rw [hp'] at e5 ⊢
      obtain ⟨m1, m2⟩ := shD_ok l ok d p s (by omega) (by omega) h1 h2
      obtain ⟨n1, n2⟩ := shD_ok l ok d p' (shD l d p s) (by omega) (by omega) m1.len m1.cnt
      refine Ev.bind (Ev.bind (shW_fix l hl ok d p s (by omega) (by omega) h1 h2) (Ev.bind (shW_fix l hl ok d p' _ (by omega) (by omega) m1.len m1.cnt) (Ev.now _))) ?_
      rw [← hp, ← hp']
      exact fin _ (by rw [hp, hp']; exact n1.len) (by rw [hp, hp']; exact n1.cnt)
    · exact (okN_none hok c).elim
theorem share_ev (l : List Node) (h0 : 0 < l.length) (hl : l.length ≤ 1000) (ok : okNs 0 l = true) : Ev (fun k => impl_share.f k l) (shP l) := by
  unfold impl_share.f
  refine Ev.ifp (by omega) (Ev.call (a := List.replicate l.length (-1)) ?_ ?_)
  · unfold slices_Repeat_int_int.f
    rw [if_pos ⟨rfl, by omega, by omega⟩, Int.toNat_natCast]
    rfl
  have := shW_ev l l.length ((l.length - 1 : Nat) : Int) ([], List.replicate l.length (-1)) _ (shW_fix l hl ok l.length (l.length - 1) _ (by omega) (by omega) (by simp) (by simp))
  rw [show ((l.length - 1 : Nat) : Int) = (l.length : Int) - 1 by omega] at this
  refine Ev.ifp (by simp) (Ev.bind this (Ev.some ?_))
  unfold shP
  rw [show ((l.length - 1 : Nat) : Int) = (l.length : Int) - 1 by omega]
theorem okNs_app (x : Node) : ∀ (xs : List Node) (i : Nat), okNs i (xs ++ [x]) = (okNs i xs && okNx x ((i + xs.length : Nat) : Int))
  | [], i => by simp [okNs]
  | y :: ys, i => by
    simp only [List.cons_append, okNs, okNs_app x ys (i + 1), List.length_cons, Bool.and_assoc]
    rw [show i + 1 + ys.length = i + (ys.length + 1) by omega]
structure Gd (s : ShSt) : Prop where
  ok : okNs 0 s.1 = true
  lt : ∀ j : Nat, j < s.2.length → 0 ≤ rd s.2 (j : Int) → rd s.2 (j : Int) < s.1.length
theorem gd_put {x : Node} {s : ShSt} {i : Nat} (hi : i < s.2.length) (g : Gd s) (hx : okNx x (s.1.length : Int) = true) : Gd (putP x i s) := by
  have e2 : ∀ j : Nat, rd (putP x i s).2 (j : Int) = if i = j then (exPut x s.1).2 else rd s.2 (j : Int) := fun j => by
    unfold putP
    simp only
    rw [Int.toNat_natCast, rd_set _ _ _ _ hi]
  have e1 : (putP x i s).1 = (exPut x s.1).1 := rfl
  have e3 := exPut_nn x s.1
  have e4 : (putP x i s).2.length = s.2.length := by unfold putP; simp
  by_cases q : exIx x s.1 0 < 0
  · have e : exPut x s.1 = (s.1 ++ [x], (s.1.length : Int)) := by unfold exPut; rw [if_pos q]
    refine ⟨?_, fun j hj h0 => ?_⟩
    · rw [e1, e]
      simp only
      rw [okNs_app, g.ok, Nat.zero_add, hx]
      rfl
    · rw [e2] at h0 ⊢
      rw [e1, e]
      simp only [List.length_append, List.length_cons, List.length_nil]
      split
      · omega
      · rename_i h
        rw [if_neg h] at h0
        have := g.lt j (by omega) h0
        omega
  · have e : exPut x s.1 = (s.1, exIx x s.1 0) := by unfold exPut; rw [if_neg q]
    refine ⟨?_, fun j hj h0 => ?_⟩
    · rw [e1, e]
      exact g.ok
    · rw [e2] at h0 ⊢
      rw [e1, e]
      simp only
      split
      · rw [exIx_idx]
        exact idx_lt _ _
      · rename_i h
        rw [if_neg h] at h0
        exact g.lt j (by omega) h0
theorem okN_node {x : Node} {i m : Int} (h : okNx x i = true) {s : ShSt} (hp : ∀ p ∈ partsC (kN x.f0) x.f1 x.f2, 0 ≤ rd s.2 p ∧ rd s.2 p < m) : okNx (nodeP x s) m = true := by
  rcases kN_le x.f0 with c | c | c | c | c
  · rw [nodeP_leaf s (.inl c)]
    unfold okNx at h ⊢
    rw [c] at h ⊢
    exact h
  · rw [nodeP_leaf s (.inr c)]
    unfold okNx at h ⊢
    rw [c] at h ⊢
    exact h
  · rw [nodeP_un s c]
    rw [c] at hp
    have := hp x.f1 (by simp [partsC])
    unfold okNx at h ⊢
    simp only
    rw [c] at h ⊢
    simp [okNd] at h ⊢
    omega
  · rw [nodeP_bi s c]
    rw [c] at hp
    have := hp x.f1 (by simp [partsC])
    have := hp x.f2 (by simp [partsC])
    unfold okNx at h ⊢
    simp only
    rw [c] at h ⊢
    simp [okNd] at h ⊢
    omega
  · exact (okN_none h c).elim
theorem fold_gd (n i : Nat) (g : ShSt → Int → ShSt) (hg : ∀ (p : Nat) s, p < i → s.2.length = n → s.1.length ≤ nmd s.2 → Kp n i s (g s p) ∧ (Gd s → Gd (g s p))) : ∀ (ps : List Int) (s : ShSt), (∀ p ∈ ps, 0 ≤ p ∧ p < (i : Int)) → s.2.length = n → s.1.length ≤ nmd s.2 → Gd s → Gd (ps.foldl g s)
  | [], s, _, _, _, h => h
  | q :: ps, s, hps, h1, h2, h => by
    obtain ⟨q0, q1⟩ := hps q (by simp)
    obtain ⟨p, rfl⟩ := Int.eq_ofNat_of_zero_le q0
    obtain ⟨a, b⟩ := hg p s (by omega) h1 h2
    exact fold_gd n i g hg ps (g s p) (fun x hx => hps x (by simp [hx])) a.len a.cnt (b h)
theorem shD_gd (l : List Node) (ok : okNs 0 l = true) : ∀ (d i : Nat) (s : ShSt), i < d → i < l.length → s.2.length = l.length → s.1.length ≤ nmd s.2 → Gd s → Gd (shD l d i s)
  | 0, _, _, h, _, _, _, _ => absurd h (by omega)
  | d + 1, i, s, hd, hi, h1, h2, hG => by
    unfold shD
    by_cases q : 0 ≤ rd s.2 (i : Int)
    · rw [if_pos q]
      exact hG
    · rw [if_neg q, getN_eq hi]
      have hok := okNs_get l 0 i hi ok
      rw [Nat.zero_add] at hok
      have hp := (parts_ok hok).2
      obtain ⟨a, a'⟩ := fold_ok l.length i (fun s p => shD l d p s) (fun p s hp h1 h2 => by
        obtain ⟨b, c⟩ := shD_ok l ok d p s (by omega) (by omega) h1 h2
        exact ⟨b.wide (by omega), c⟩) (partsC (kN l[i].f0) l[i].f1 l[i].f2) s (fun p hq => by have := hp p hq; omega) h1 h2
      have b := fold_gd l.length i (fun s p => shD l d p s) (fun p s hp h1 h2 => by
        obtain ⟨b, c⟩ := shD_ok l ok d p s (by omega) (by omega) h1 h2
        exact ⟨b.wide (by omega), shD_gd l ok d p s (by omega) (by omega) h1 h2⟩) (partsC (kN l[i].f0) l[i].f1 l[i].f2) s (fun p hq => by have := hp p hq; omega) h1 h2 hG
      refine gd_put (by rw [a.len]; exact hi) b (okN_node hok (fun p hq => ⟨a' p hq, ?_⟩))
      obtain ⟨p, rfl⟩ := Int.eq_ofNat_of_zero_le (hp p hq).1
      exact b.lt p (by rw [a.len]; have := (hp _ hq).2; omega) (a' _ hq)
theorem shP_ok {l : List Node} (h0 : 0 < l.length) (ok : okNs 0 l = true) : okNs 0 (shP l) = true ∧ 0 < (shP l).length ∧ (shP l).length ≤ l.length := by
  have hn : ∀ j : Nat, j < l.length → ¬ 0 ≤ rd (List.replicate l.length (-1)) (j : Int) := fun j hj h => by
    unfold rd at h
    rw [Int.toNat_natCast, getD_eq _ j (by simpa using hj)] at h
    simp at h
  have G := shD_gd l ok l.length (l.length - 1) ([], List.replicate l.length (-1)) (by omega) (by omega) (by simp) (by simp) ⟨rfl, fun j hj h => absurd h (hn j (by simpa using hj))⟩
  obtain ⟨K, k⟩ := shD_ok l ok l.length (l.length - 1) ([], List.replicate l.length (-1)) (by omega) (by omega) (by simp) (by simp)
  have := G.lt _ (by rw [K.len]; omega) k
  have c := K.cnt
  have c2 := nmd_le (shD l l.length ((l.length - 1 : Nat) : Int) ([], List.replicate l.length (-1))).2
  rw [K.len] at c2
  exact ⟨G.ok, by unfold shP; omega, by unfold shP; omega⟩
def rops : List ByteArray := [(⟨#[105, 110]⟩ : ByteArray), ⟨#[99, 111, 110, 115, 116]⟩, ⟨#[110, 111, 116]⟩, ⟨#[110, 101, 103]⟩] ++ bops
def rk (s : ByteArray) : Int := idx (fun y => decide (s = y)) rops
theorem indexS_ev (l : List ByteArray) (s : ByteArray) (hl : l.length ≤ 1048576) : Ev (fun k => slices_Index_string_string.f k l s) (idx (fun y => decide (s = y)) l) := by
  unfold slices_Index_string_string.f
  refine search_ev l _ (fun k i => slices_Index_string_string.l0 k l s l.length i) ?_ (fun i x hi hx hp => ?_) (fun i x r hi hx hp hr => ?_)
  · refine Ev.step (f := fun _ => some (-1)) (fun k => ?_) (Ev.now _)
    simp only [slices_Index_string_string.l0]
    rw [if_neg (by omega)]
  · refine Ev.step (f := fun _ => some (i : Int)) (fun k => ?_) (Ev.now _)
    simp only [slices_Index_string_string.l0, rdOf_eq hx, str_eq]
    rw [if_pos (by omega), if_pos (by omega), if_pos (by omega), if_pos (of_decide_eq_true hp)]
  · refine Ev.step (fun k => ?_) hr
    simp only [slices_Index_string_string.l0, rdOf_eq hx, str_eq]
    rw [if_pos (by omega), if_pos (by omega), if_pos (by omega), if_neg (of_decide_eq_false hp), w64n i (by omega)]
theorem rank_ev (s : ByteArray) : Ev (fun k => impl_rank.f k s) (rk s) := by
  unfold impl_rank.f
  refine Ev.call rfl (Ev.call binary_eq (Ev.ifp (by decide) (Ev.bind (indexS_ev rops s (by decide)) (Ev.now _))))
theorem vaRank_ev (s : ByteArray) (h : s ∈ rops) : Ev (fun k => spec_vaRank.f k s) (rk s) := by
  have hge : 0 ≤ rk s := (idx_nonneg _ _).2 ⟨s, h, decide_eq_true rfl⟩
  have key : ∀ (d i : Nat), i + d = rops.length → 0 ≤ idx (fun y => decide (s = y)) (rops.drop i) → Ev (fun k => spec_vaRank.l0 k s rops i) (i + idx (fun y => decide (s = y)) (rops.drop i)) := by
    intro d
    induction d with
    | zero =>
      intro i hi h0
      rw [List.drop_of_length_le (by omega)] at h0
      simp [idx] at h0
    | succ d ih =>
      intro i hi h0
      have hlt : i < rops.length := by omega
      have e : rops.drop i = rops[i] :: rops.drop (i + 1) := List.drop_eq_getElem_cons hlt
      have hb : rops.length ≤ 1000 := by decide
      rw [e] at h0 ⊢
      refine Ev.step (fun k => by simp only [spec_vaRank.l0, rdOf_eq (getD_eq rops i hlt), str_eq]; rfl) (Ev.ifp (by omega) (Ev.ifp (by omega) ?_))
      by_cases q : s = rops[i]
      · refine Ev.ifp q.symm (Ev.some ?_)
        unfold idx
        rw [if_pos (by simpa using q)]
        omega
      · refine Ev.ifn (fun h => q h.symm) ?_
        have f : idx (fun y => decide (s = y)) (rops[i] :: rops.drop (i + 1)) = if idx (fun y => decide (s = y)) (rops.drop (i + 1)) < 0 then -1 else idx (fun y => decide (s = y)) (rops.drop (i + 1)) + 1 := by
          rw [idx, if_neg (by simpa using q)]
        rw [f] at h0 ⊢
        by_cases r : idx (fun y => decide (s = y)) (rops.drop (i + 1)) < 0
        · rw [if_pos r] at h0
          omega
        · rw [if_neg r, w64n i (by omega)]
          refine ev_eq (ih (i + 1) (by omega) (by omega)) ?_
          omega
  have := key rops.length 0 (by omega) (by rw [List.drop_zero]; exact hge)
  unfold spec_vaRank.f
  refine ev_eq this ?_
  simp [rk]
theorem idx_at {s : ByteArray} : ∀ (l : List ByteArray), 0 ≤ idx (fun y => decide (s = y)) l → l[(idx (fun y => decide (s = y)) l).toNat]? = some s
  | [], h => by simp [idx] at h
  | x :: xs, h => by
    by_cases q : s = x
    · rw [idx, if_pos (by simpa using q)]
      simp [q]
    · rw [idx, if_neg (by simpa using q)] at h ⊢
      by_cases r : idx (fun y => decide (s = y)) xs < 0
      · rw [if_pos r] at h
        omega
      · rw [if_neg r] at h ⊢
        have := idx_at (s := s) xs (by omega)
        rw [show (idx (fun y => decide (s = y)) xs + 1).toNat = (idx (fun y => decide (s = y)) xs).toNat + 1 by omega, List.getElem?_cons_succ]
        exact this
theorem rk_inj {s t : ByteArray} (h : s ∈ rops) (h' : t ∈ rops) (e : rk s = rk t) : s = t := by
  have a := idx_at (s := s) rops ((idx_nonneg _ _).2 ⟨s, h, decide_eq_true rfl⟩)
  have b := idx_at (s := t) rops ((idx_nonneg _ _).2 ⟨t, h', decide_eq_true rfl⟩)
  unfold rk at e
  rw [e, b] at a
  exact (Option.some.inj a).symm
theorem rk_lt (s : ByteArray) : -1 ≤ rk s ∧ rk s < 14 := ⟨idx_ge _ _, idx_lt _ rops⟩
theorem mem_rops {s : ByteArray} (h : kN s ≠ 4) : s ∈ rops := by
  unfold kN at h
  split at h
  · rename_i q
    rw [str_lit.1 q]
    exact (hasS_iff _ _).1 (by decide +kernel)
  split at h
  · rename_i q
    rw [str_lit.1 q]
    exact (hasS_iff _ _).1 (by decide +kernel)
  split at h
  · rename_i q
    rcases q with q | q <;> rw [str_lit.1 q] <;> exact (hasS_iff _ _).1 (by decide +kernel)
  split at h
  · rename_i q
    exact List.mem_append_right _ ((hasS_iff _ _).1 q)
  · exact absurd rfl h
def Sg (c c' : Int) : Prop := (c < 0 ↔ c' < 0) ∧ (c = 0 ↔ c' = 0)
theorem compare_eq (a b : Int) : cmp_Compare_int.f a b = some (if a < b then -1 else if a > b then 1 else 0) := by
  unfold cmp_Compare_int.f cmp_isNaN_int.f
  simp
  split
  · rfl
  · split <;> rfl
theorem or_ev (a b : Int) : Ev (fun k => cmp_Or_int.f k [a, b]) (if a = 0 then b else a) := by
  have w1 : wrap64 ((0 : Int) + 1) = 1 := by unfold wrap64; omega
  have w2 : wrap64 ((1 : Int) + 1) = 2 := by unfold wrap64; omega
  unfold cmp_Or_int.f
  refine Ev.step (fun k => by simp only [cmp_Or_int.l0, w1]; rfl) (Ev.ifp (by simp) (Ev.ifp (by omega) (Ev.ifp (by simp) ?_)))
  by_cases q : a = 0
  · refine Ev.ifp q ?_
    rw [if_pos q]
    refine Ev.step (fun k => by simp only [cmp_Or_int.l0, w2]; rfl) (Ev.ifp (by simp) (Ev.ifp (by omega) (Ev.ifp (by simp) ?_)))
    by_cases r : b = 0
    · refine Ev.ifp r ?_
      rw [r]
      exact Ev.step (fun k => by simp only [cmp_Or_int.l0]; rfl) (Ev.ifn (by simp) (Ev.now _))
    · exact Ev.ifn r (Ev.now _)
  · rw [if_neg q]
    exact Ev.ifn q (Ev.now _)
theorem orLoop (l : List Node) (pa pb : List Int) (y : Node) (hb : partsC (kN y.f0) y.f1 y.f2 = pb) (hlen : pa.length = pb.length) (hpl : pa.length ≤ 2)
    (H : ∀ t : Nat, t < pa.length → ∃ c c', Ev (fun k => spec_vaCmp.f k l (rd pa t) (rd pb t)) c ∧ Ev (fun k => impl_compareNodes.f k l (rd pa t) (rd pb t)) c' ∧ Sg c c') :
    ∀ (d t : Nat), t + d = pa.length → ∃ c c', Ev (fun k => spec_vaCmp.l0 k l pb pa pa.length t) c ∧ Ev (fun k => impl_compareNodes.l0 k l pa pa.length t y.f0 y.f1 y.f2 y.f3) c' ∧ Sg c c'
  | 0, t, h => ⟨0, 0, Ev.step (fun k => by simp only [spec_vaCmp.l0]; rfl) (Ev.ifn (by omega) (Ev.now _)), Ev.step (fun k => by simp only [impl_compareNodes.l0]; rfl) (Ev.ifn (by omega) (Ev.now _)), Iff.rfl, Iff.rfl⟩
  | d + 1, t, h => by
    obtain ⟨c, c', h1, h2, h3⟩ := H t (by omega)
    have hy := of_ev y
    rw [hb] at hy
    by_cases q : c = 0
    · obtain ⟨e, e', g1, g2, g3⟩ := orLoop l pa pb y hb hlen hpl H d (t + 1) (by omega)
      rw [← w64n t (by omega)] at g1 g2
      refine ⟨e, e', Ev.step (fun k => by simp only [spec_vaCmp.l0]; rfl) (Ev.ifp (by omega) (Ev.ifp (by omega) (Ev.ifp (by omega) (Ev.ifp (by omega) (Ev.bind h1 (Ev.ifp q g1)))))), ?_, g3⟩
      refine Ev.step (fun k => by simp only [impl_compareNodes.l0]; rfl) (Ev.ifp (by omega) (Ev.ifp (by omega) (Ev.ifp (by omega) (Ev.bind hy ?_))))
      exact Ev.ifp (by omega) (Ev.bind h2 (Ev.ifp (h3.2.1 q) g2))
    · refine ⟨c, c', Ev.step (fun k => by simp only [spec_vaCmp.l0]; rfl) (Ev.ifp (by omega) (Ev.ifp (by omega) (Ev.ifp (by omega) (Ev.ifp (by omega) (Ev.bind h1 (Ev.ifn q (Ev.now _))))))), ?_, h3⟩
      refine Ev.step (fun k => by simp only [impl_compareNodes.l0]; rfl) (Ev.ifp (by omega) (Ev.ifp (by omega) (Ev.ifp (by omega) (Ev.bind hy ?_))))
      exact Ev.ifp (by omega) (Ev.bind h2 (Ev.ifn (fun e => q (h3.2.2 e)) (Ev.now _)))
theorem okN_val {x : Node} {i : Int} (h : okNx x i = true) : 0 ≤ x.f3 ∧ x.f3 ≤ 63 := by
  unfold okNx at h
  rcases kN_le x.f0 with c | c | c | c | c <;> rw [c] at h <;> simp [okNd] at h <;> omega
theorem partsC_rd {x : Node} {i : Int} (h : okNx x i = true) (t : Nat) (ht : t < (partsC (kN x.f0) x.f1 x.f2).length) : ∃ p : Nat, rd (partsC (kN x.f0) x.f1 x.f2) (t : Int) = (p : Int) ∧ (p : Int) ≤ i - 1 := by
  have hp := (parts_ok h).2
  unfold rd
  rw [Int.toNat_natCast, getD_eq _ t ht]
  obtain ⟨a, b⟩ := hp _ (List.getElem_mem ht)
  obtain ⟨p, hp⟩ := Int.eq_ofNat_of_zero_le a
  exact ⟨p, hp, by omega⟩
theorem partsC_len (c : Nat) (a b a' b' : Int) : (partsC c a b).length = (partsC c a' b').length := by
  rcases c with _ | _ | _ | _ | c <;> rfl
theorem cmp_fix (l : List Node) (hl : l.length ≤ 1000) (ok : okNs 0 l = true) : ∀ (n i j : Nat), i + j < n → i < l.length → j < l.length → ∃ c c', Ev (fun k => spec_vaCmp.f k l i j) c ∧ Ev (fun k => impl_compareNodes.f k l i j) c' ∧ Sg c c'
  | 0, _, _, h, _, _ => absurd h (by omega)
  | n + 1, i, j, hn, hi, hj => by
    by_cases q : i = j
    · subst q
      exact ⟨0, 0, Ev.step (f := fun _ => some 0) (fun k => by simp only [spec_vaCmp.f, if_true]) (Ev.now _), Ev.step (f := fun _ => some 0) (fun k => by simp only [impl_compareNodes.f, if_true]) (Ev.now _), Iff.rfl, Iff.rfl⟩
    have hx : rd_T72 l (i : Int) = l[i] := rdN_eq (getD_eq l i hi)
    have hy : rd_T72 l (j : Int) = l[j] := rdN_eq (getD_eq l j hj)
    have okx := okNs_get l 0 i hi ok
    have oky := okNs_get l 0 j hj ok
    rw [Nat.zero_add] at okx oky
    have qi : ¬ ((i : Int) = j) := by omega
    generalize l[i] = x at hx okx
    generalize l[j] = y at hy oky
    have mx := mem_rops (fun c => okN_none okx c)
    have my := mem_rops (fun c => okN_none oky c)
    have vx := okN_val okx
    have vy := okN_val oky
    have rx := rk_lt x.f0
    have ry := rk_lt y.f0
    by_cases o : x.f0 = y.f0
    · by_cases v : x.f3 = y.f3
      · have hpx := exParts_ev x
        have hpy := exParts_ev y
        have hox := of_ev x
        have hl2 := (parts_ok okx).1
        have hlen : (partsC (kN x.f0) x.f1 x.f2).length = (partsC (kN y.f0) y.f1 y.f2).length := by rw [o]; exact partsC_len _ _ _ _ _
        obtain ⟨c, c', g1, g2, g3⟩ := orLoop l (partsC (kN x.f0) x.f1 x.f2) (partsC (kN y.f0) y.f1 y.f2) y rfl hlen hl2 (fun t ht => by
          obtain ⟨p, hp, hp'⟩ := partsC_rd okx t ht
          obtain ⟨p2, hp2, hp2'⟩ := partsC_rd oky t (by omega)
          rw [hp, hp2]
          exact cmp_fix l hl ok n p p2 (by omega) (by omega) (by omega)) (partsC (kN x.f0) x.f1 x.f2).length 0 (by omega)
        refine ⟨c, c', Ev.step (fun k => by simp only [spec_vaCmp.f, hx, hy, str_eq]; rfl) (Ev.ifn qi (Ev.ifp (by omega) (Ev.ifp (by omega) (Ev.ifp (by omega) (Ev.ifp (by omega) (Ev.ifp o (Ev.ifp v (Ev.bind hpy (Ev.bind hpx g1))))))))), ?_, g3⟩
        refine Ev.step (fun k => by simp only [impl_compareNodes.f, hx, hy]; rfl) (Ev.ifn qi (Ev.ifp (by omega) (Ev.ifp (by omega) (Ev.ifp (by omega) (Ev.ifp (by omega) (Ev.bind (rank_ev x.f0) (Ev.bind (rank_ev y.f0) (Ev.call (compare_eq _ _) (Ev.call (compare_eq _ _) (Ev.bind (or_ev _ _) (Ev.ifp ?_ (Ev.bind hox g2))))))))))))
        rw [o, v]
        simp
      · refine ⟨wrap64 (x.f3 - y.f3), _, Ev.step (fun k => by simp only [spec_vaCmp.f, hx, hy, str_eq]; rfl) (Ev.ifn qi (Ev.ifp (by omega) (Ev.ifp (by omega) (Ev.ifp (by omega) (Ev.ifp (by omega) (Ev.ifp o (Ev.ifn v (Ev.now _)))))))), Ev.step (fun k => by simp only [impl_compareNodes.f, hx, hy]; rfl) (Ev.ifn qi (Ev.ifp (by omega) (Ev.ifp (by omega) (Ev.ifp (by omega) (Ev.ifp (by omega) (Ev.bind (rank_ev x.f0) (Ev.bind (rank_ev y.f0) (Ev.call (compare_eq _ _) (Ev.call (compare_eq _ _) (Ev.bind (or_ev _ _) (Ev.ifn ?_ (Ev.now _)))))))))))), ?_⟩
        · rw [o]
          simp
          split
          · omega
          · split <;> omega
        · rw [w64 (by omega) (by omega), o]
          simp only [Int.lt_irrefl, gt_iff_lt, if_false, if_true]
          unfold Sg
          split
          · omega
          · split <;> omega
    · have hr : rk x.f0 ≠ rk y.f0 := fun e => o (rk_inj mx my e)
      refine ⟨wrap64 (rk x.f0 - rk y.f0), _, Ev.step (fun k => by simp only [spec_vaCmp.f, hx, hy, str_eq]; rfl) (Ev.ifn qi (Ev.ifp (by omega) (Ev.ifp (by omega) (Ev.ifp (by omega) (Ev.ifp (by omega) (Ev.ifn o (Ev.bind (vaRank_ev _ mx) (Ev.bind (vaRank_ev _ my) (Ev.now (wrap64 (rk x.f0 - rk y.f0))))))))))), Ev.step (fun k => by simp only [impl_compareNodes.f, hx, hy]; rfl) (Ev.ifn qi (Ev.ifp (by omega) (Ev.ifp (by omega) (Ev.ifp (by omega) (Ev.ifp (by omega) (Ev.bind (rank_ev x.f0) (Ev.bind (rank_ev y.f0) (Ev.call (compare_eq _ _) (Ev.call (compare_eq _ _) (Ev.bind (or_ev _ _) (Ev.ifn ?_ (Ev.now _)))))))))))), ?_⟩
      · split
        · split at * <;> omega
        · split at * <;> omega
      · rw [w64 (by omega) (by omega)]
        unfold Sg
        split
        · split at * <;> omega
        · split at * <;> omega
theorem kN_io {s : ByteArray} (h : hasS ioOps s = true) : kN s = 3 := by
  have := (hasS_iff _ _).1 h
  unfold ioOps at this
  simp only [List.mem_cons, List.not_mem_nil, or_false] at this
  rcases this with rfl | rfl | rfl | rfl | rfl | rfl <;> decide +kernel
theorem okNs_set : ∀ (xs : List Node) (i j : Nat) (y : Node), okNs i xs = true → okNx y ((i + j : Nat) : Int) = true → okNs i (xs.set j y) = true
  | [], _, _, _, h, _ => by simpa using h
  | x :: xs, i, 0, y, h, hy => by
    simp only [okNs, Bool.and_eq_true, List.set_cons_zero] at h ⊢
    exact ⟨hy, h.2⟩
  | x :: xs, i, j + 1, y, h, hy => by
    simp only [okNs, Bool.and_eq_true, List.set_cons_succ] at h ⊢
    exact ⟨h.1, okNs_set xs (i + 1) j y h.2 (by rw [show i + 1 + j = i + (j + 1) by omega]; exact hy)⟩
theorem st_both (out : List Node) (u : Nat) (hu : u < out.length) (hl : out.length ≤ 1000) (ok : okNs 0 out = true) : ∃ o, Ev (fun k => ioSt k out u) o ∧ Ev (fun k => vaSt k out u) o ∧ okNs 0 o = true ∧ o.length = out.length := by
  have hx : rd_T72 out (u : Int) = out[u] := rdN_eq (getD_eq out u hu)
  have okx := okNs_get out 0 u hu ok
  rw [Nat.zero_add] at okx
  unfold ioSt vaSt
  rw [hx]
  generalize out[u] = x at okx
  have ht : Ev (fun k => spec_vaTurned.f k x.f0) (hasS ioOps x.f0) := by
    unfold spec_vaTurned.f
    exact Ev.bind (l1HasS_ev ioOps x.f0 (by decide)) (Ev.now _)
  by_cases q : hasS ioOps x.f0 = true
  · have c3 := kN_io q
    obtain ⟨⟨e1, e2⟩, e4, e5⟩ := okN_bi okx c3
    obtain ⟨p, hp⟩ := Int.eq_ofNat_of_zero_le e1
    obtain ⟨p', hp'⟩ := Int.eq_ofNat_of_zero_le e4
    obtain ⟨c, c', g1, g2, g3⟩ := cmp_fix out hl ok (p' + p + 1) p' p (by omega) (by omega) (by omega)
    rw [← hp, ← hp'] at g1 g2
    refine ⟨if c < 0 then out.set (u : Int).toNat ⟨x.f0, x.f2, x.f1, x.f3⟩ else out, Ev.bind (containsS_ev ioOps x.f0 (by decide)) (Ev.ifp q (Ev.bind g2 (Ev.some ?_))), Ev.bind ht (Ev.ifp q (Ev.bind g1 (Ev.now _))), ?_, ?_⟩
    · by_cases r : c < 0
      · rw [if_pos r, if_pos (g3.1.1 r)]
      · rw [if_neg r, if_neg (fun e => r (g3.1.2 e))]
    · split
      · rw [Int.toNat_natCast]
        refine okNs_set out 0 u _ ok ?_
        rw [Nat.zero_add]
        unfold okNx at okx ⊢
        simp only
        rw [c3] at okx ⊢
        simp [okNd] at okx ⊢
        omega
      · exact ok
    · split <;> simp
  · exact ⟨out, Ev.bind (containsS_ev ioOps x.f0 (by decide)) (Ev.ifn q (Ev.now _)), Ev.bind ht (Ev.ifn q (Ev.now _)), ok, rfl⟩
theorem loop_both : ∀ (d u : Nat) (out : List Node), u + d = out.length → out.length ≤ 1000 → okNs 0 out = true → ∃ o, Ev (fun k => ioL k d u out) o ∧ Ev (fun k => vaL k d u out) o ∧ okNs 0 o = true ∧ o.length = out.length
  | 0, u, out, _, _, ok => ⟨out, Ev.now _, Ev.now _, ok, rfl⟩
  | d + 1, u, out, h, hl, ok => by
    obtain ⟨o, a, b, c, e⟩ := st_both out u (by omega) hl ok
    obtain ⟨o2, a2, b2, c2, e2⟩ := loop_both d (u + 1) o (by omega) (by omega) c
    exact ⟨o2, Ev.bind a a2, Ev.bind b b2, c2, by omega⟩
theorem order_both (l : List Node) (h0 : 0 < l.length) (hl : l.length ≤ 1000) (ok : okNs 0 l = true) : ∃ R, Ev (fun k => impl_inOrder.f k l) R ∧ Ev (fun k => spec_vaOrder.f k l) R ∧ okNs 0 R = true ∧ 0 < R.length ∧ R.length ≤ l.length := by
  obtain ⟨a, b, c⟩ := shP_ok h0 ok
  obtain ⟨o, d, e, f, g⟩ := loop_both (shP l).length 0 (shP l) (by omega) (by omega) a
  obtain ⟨a', b', c'⟩ := shP_ok (l := o) (by omega) f
  refine ⟨shP o, ?_, ?_, a', b', by omega⟩
  · unfold impl_inOrder.f
    exact Ev.bind (share_ev l h0 hl ok) (Ev.ifp (by omega) (Ev.bind d (share_ev o (by omega) (by omega) f)))
  · unfold spec_vaOrder.f
    exact Ev.bind (exShare_ev l h0 hl ok) (Ev.ifp (by omega) (Ev.bind e (exShare_ev o (by omega) (by omega) f)))
open Classical in
noncomputable def ordR (l : List Node) : List Node := if h : ∃ R, Ev (fun k => impl_inOrder.f k l) R then Classical.choose h else []
theorem ordR_ev (l : List Node) (h0 : 0 < l.length) (hl : l.length ≤ 1000) (ok : okNs 0 l = true) : Ev (fun k => impl_inOrder.f k l) (ordR l) ∧ Ev (fun k => spec_vaOrder.f k l) (ordR l) ∧ okNs 0 (ordR l) = true ∧ 0 < (ordR l).length ∧ (ordR l).length ≤ l.length := by
  obtain ⟨R, a, b, c⟩ := order_both l h0 hl ok
  have h : ∃ R, Ev (fun k => impl_inOrder.f k l) R := ⟨R, a⟩
  have e : ordR l = R := by
    unfold ordR
    rw [dif_pos h]
    exact Ev.uniq (Classical.choose_spec h) a
  rw [e]
  exact ⟨a, b, c⟩
end Go.Proofs.Ytkfkbmlbpeojaaa.PL
end
section
namespace Go.Proofs.Ytkfkbmlbpeojaaa.Q
open Go.RowKit Go.Proofs.YtkfkbmlbpeojaaaW.PrintWords Go.Proofs.YtkfkbmlbpeojaaaW.PrintLast Go.Proofs.YtkfkbmlbpeojaaaW.PrintMore
attribute [local go_sem] max2_int min2_int max_two min_two max_three min_three max_four min_four
set_option linter.unusedVariables false
set_option linter.unusedSimpArgs false
end Go.Proofs.Ytkfkbmlbpeojaaa.Q
end
section
namespace Go.Proofs.Ytkfkbmlbpeojaaa.PL
open Go Go.RowKit Go.Proofs.YtkfkbmlbpeojaaaW.PrintWords Go.Proofs.YtkfkbmlbpeojaaaW.PrintLast Go.Proofs.YtkfkbmlbpeojaaaW.PrintMore Go.Proofs.Ytkfkbmlbpeojaaa.Q
set_option linter.unusedSimpArgs false
set_option linter.unusedVariables false
theorem markText_loop : ∀ (m : Nat) (n : Nat) (s : ByteArray), n ≤ m → s.size + n ≤ 4611686018427387904 → ∃ t, Ev (fun k => laws_markText.l0 k n s) t
  | 0, n, s, h, hs => by
    have e : n = 0 := by omega
    subst e
    refine ⟨(⟨#[109]⟩ : ByteArray) ++ s, Ev.step (f := fun _ => some ((⟨#[109]⟩ : ByteArray) ++ s)) (fun k => ?_) (Ev.now _)⟩
    have hz : (⟨#[109]⟩ : ByteArray).size = 1 := rfl
    simp only [laws_markText.l0]
    rw [if_neg (by decide), if_pos (by omega)]
  | m + 1, n, s, h, hs => by
    by_cases hn : n = 0
    · exact markText_loop m n s (by omega) hs
    · have hsz : (strOfNums [(wrap64 (48 + Int.tmod (n : Int) 10)) % 256]).size = 1 := by
        unfold strOfNums
        rfl
      obtain ⟨t, ht⟩ := markText_loop m (n / 10) (strOfNums [(wrap64 (48 + Int.tmod (n : Int) 10)) % 256] ++ s) (by omega) (by rw [ByteArray.size_append, hsz]; omega)
      refine ⟨t, Ev.step (fun k => ?_) ht⟩
      simp only [laws_markText.l0, Option.bind_some]
      rw [if_pos (by omega), if_pos (by rw [hsz]; omega)]
      congr 1
      have e : Int.tdiv (n : Int) 10 = ((n / 10 : Nat) : Int) := by
        rw [Int.tdiv_eq_ediv_of_nonneg (by omega)]
        omega
      rw [e, w64 (by omega) (by omega)]
theorem markText_ex (n : Nat) (h : n ≤ 4611686018427387903) : ∃ t, Ev (fun k => laws_markText.f k n) t := by
  unfold laws_markText.f
  by_cases hn : (n : Int) ≤ 0
  · exact ⟨_, Ev.ifp hn (Ev.now _)⟩
  · obtain ⟨t, ht⟩ := markText_loop n n ⟨#[]⟩ (Nat.le_refl _) (by show 0 + n ≤ _; omega)
    exact ⟨t, Ev.ifn hn ht⟩
open Classical in
noncomputable def mtx (n : Nat) : ByteArray := if h : ∃ t, Ev (fun k => laws_markText.f k n) t then Classical.choose h else ⟨#[]⟩
theorem mtx_ev (n : Nat) (h : n ≤ 4611686018427387903) : Ev (fun k => laws_markText.f k n) (mtx n) := by
  unfold mtx
  rw [dif_pos (markText_ex n h)]
  exact Classical.choose_spec (markText_ex n h)
theorem set_mid {α : Type} (xs : List α) (y : α) (ys : List α) (v : α) : (xs ++ y :: ys).set xs.length v = (xs ++ [v]) ++ ys := by
  rw [List.set_append_right _ _ (Nat.le_refl _)]
  simp
theorem getD_mid {α : Type} (xs : List α) (y : α) (ys : List α) (d : α) : (xs ++ y :: ys).getD xs.length d = y := by simp [List.getD]
theorem bne_self' (b : Bool) : (b != b) = false := by simp
noncomputable def marksD : Nat → Nat → List Node
  | 0, _ => []
  | n + 1, a => ⟨mtx a, (a + 1 : Nat), (a + 2 : Nat), (a + 3 : Nat)⟩ :: marksD n (a + 4)
theorem marksD_len : ∀ n a, (marksD n a).length = n
  | 0, _ => rfl
  | n + 1, a => by simp [marksD, marksD_len n]
theorem rdD_mid (xs : List Node) (y : Node) (ys : List Node) : rd_T72 (xs ++ y :: ys) (xs.length : Nat) = y := by
  unfold rd_T72
  rw [Int.toNat_natCast, getD_mid]
theorem markD_ev (l : List Node) (a : Nat) (hl : l.length ≤ 1048576) (ha : a ≤ 11534336) : Ev (fun k => laws_markNodeS.f k l a) (((a + 4 * l.length : Nat) : Int), marksD l.length a) := by
  have key : ∀ (ys xs : List Node) (b : Nat), xs.length + ys.length ≤ 1048576 → b ≤ 16777216 - 4 * ys.length → Ev (fun k => laws_markNodeS.l0 k (xs ++ ys) b xs.length) (((b + 4 * ys.length : Nat) : Int), xs ++ marksD ys.length b) := by
    intro ys
    induction ys with
    | nil =>
      intro xs b h h'
      refine Ev.step (f := fun _ => some (((b : Int), xs ++ []))) (fun k => ?_) (Ev.some ?_)
      · simp only [laws_markNodeS.l0]
        rw [if_neg (by simp)]
      · simp [marksD]
    | cons y ys ih =>
      intro xs b h h'
      simp only [List.length_cons] at h h'
      have := ih (xs ++ [⟨mtx b, (b + 1 : Nat), (b + 2 : Nat), (b + 3 : Nat)⟩]) (b + 4) (by simp; omega) (by omega)
      rw [List.append_assoc] at this
      refine Ev.step (fun k => by simp only [laws_markNodeS.l0]; rfl) ?_
      refine Ev.ifp (by simp; omega) ?_
      refine Ev.bind (mtx_ev b (by omega)) ?_
      refine Ev.ifp (by omega) ?_
      refine Ev.congr (fun k => ?_) (ev_eq this ?_)
      · simp only [Option.bind_some, Int.toNat_natCast, set_mid, rdD_mid, List.append_assoc, List.singleton_append]
        rw [w64n b (by omega), w64n (b + 1) (by omega), w64n (b + 2) (by omega), w64n (b + 3) (by omega), w64n _ (by omega)]
        congr 1
        simp
      · simp only [List.length_cons, marksD, Prod.mk.injEq]
        exact ⟨by omega, by simp⟩
  have := key l [] a (by simpa using hl) (by omega)
  unfold laws_markNodeS.f
  simpa using this
theorem heldD_ev (n a : Nat) (hn : n ≤ 1048576) (ha : a ≤ 11534336) : Ev (fun k => laws_heldNodeS.f k (marksD n a) a) ((a + 4 * n : Nat) : Int) := by
  have key : ∀ (d : Nat) (xs : List Node) (b : Nat), xs.length + d ≤ 1048576 → b ≤ 16777216 - 4 * d → Ev (fun k => laws_heldNodeS.l0 k (xs ++ marksD d b) b xs.length) ((b + 4 * d : Nat) : Int) := by
    intro d
    induction d with
    | zero =>
      intro xs b h h'
      refine Ev.step (f := fun _ => some (b : Int)) (fun k => ?_) (Ev.some (by omega))
      simp only [laws_heldNodeS.l0]
      rw [if_neg (by simp [marksD])]
    | succ d ih =>
      intro xs b h h'
      have := ih (xs ++ [⟨mtx b, (b + 1 : Nat), (b + 2 : Nat), (b + 3 : Nat)⟩]) (b + 4) (by simp; omega) (by omega)
      rw [List.append_assoc] at this
      have e : rd_T72 (xs ++ marksD (d + 1) b) (xs.length : Nat) = ⟨mtx b, (b + 1 : Nat), (b + 2 : Nat), (b + 3 : Nat)⟩ := rdD_mid xs _ _
      refine Ev.step (fun k => by simp only [laws_heldNodeS.l0, e]; rfl) ?_
      refine Ev.ifp (by simp [marksD_len]; omega) (Ev.ifp (by omega) (Ev.bind (mtx_ev b (by omega)) (Ev.ifp rfl (Ev.ifp ?_ (Ev.ifp ?_ (Ev.ifp ?_ ?_))))))
      · rw [w64n b (by omega)]
      · rw [w64n b (by omega), w64n (b + 1) (by omega)]
      · rw [w64n b (by omega), w64n (b + 1) (by omega), w64n (b + 2) (by omega)]
      · rw [w64n b (by omega), w64n (b + 1) (by omega), w64n (b + 2) (by omega), w64n (b + 3) (by omega), w64n _ (by omega)]
        refine Ev.congr (fun k => ?_) (ev_eq this (by omega))
        congr 1
        simp
  have := key n [] a (by simpa using hn) (by omega)
  unfold laws_heldNodeS.f
  simpa using this
end Go.Proofs.Ytkfkbmlbpeojaaa.PL
end
section
namespace Go.Proofs.Ytkfkbmlbpeojaaa.PL
open Go Go.RowKit Go.Proofs.YtkfkbmlbpeojaaaW.PrintWords Go.Proofs.YtkfkbmlbpeojaaaW.PrintLast Go.Proofs.YtkfkbmlbpeojaaaW.PrintMore Go.Proofs.Ytkfkbmlbpeojaaa.Q
set_option linter.unusedSimpArgs false
set_option linter.unusedVariables false
noncomputable def oeR (l : List Node) : List Node × Bool := if okExpr l = true then (ordR l, true) else ([], false)
theorem oeR_len (l : List Node) : (oeR l).1.length ≤ 24 := by
  unfold oeR
  split
  · rename_i h
    obtain ⟨⟨a, b⟩, c⟩ := okExpr_of h
    have := (ordR_ev l (by omega) (by omega) c).2.2.2.2
    show (ordR l).length ≤ 24
    omega
  · exact Nat.zero_le _
theorem implOE_ev (l : List Node) : Ev (fun k => impl_OrderedExpr.f k l) (oeR l) := by
  unfold impl_OrderedExpr.f
  refine Ev.bind (isExpr_ev l) ?_
  unfold oeR
  by_cases h : okExpr l = true
  · obtain ⟨⟨a, b⟩, c⟩ := okExpr_of h
    rw [if_pos h]
    exact Ev.ifp h (Ev.bind (ordR_ev l (by omega) (by omega) c).1 (Ev.now _))
  · rw [if_neg h]
    exact Ev.ifn h (Ev.now _)
theorem specOE_ev (l : List Node) : Ev (fun k => spec_OrderedExpr.f k l) (oeR l) := by
  unfold spec_OrderedExpr.f
  refine Ev.bind (exGood_ev l) ?_
  unfold oeR
  by_cases h : okExpr l = true
  · obtain ⟨⟨a, b⟩, c⟩ := okExpr_of h
    rw [if_pos h]
    exact Ev.ifp h (Ev.bind (ordR_ev l (by omega) (by omega) c).2.1 (Ev.now _))
  · rw [if_neg h]
    exact Ev.ifn h (Ev.now _)
end Go.Proofs.Ytkfkbmlbpeojaaa.PL
namespace Go.Proofs.Ytkfkbmlbpeojaaa.Pure
open Go Go.RowKit Go.Proofs.YtkfkbmlbpeojaaaW.PrintWords Go.Proofs.YtkfkbmlbpeojaaaW.PrintLast Go.Proofs.YtkfkbmlbpeojaaaW.PrintMore Go.Proofs.Ytkfkbmlbpeojaaa.Q Go.Proofs.Ytkfkbmlbpeojaaa.PL
set_option linter.unusedSimpArgs false
set_option linter.unusedVariables false
theorem FnExactOrderedExpr : laws_FnExactOrderedExpr.Pure := by
  intro a0 h0
  refine Ev.rounds (g := fun k => laws_FnExactOrderedExpr.f k a0) ?_
  unfold laws_FnExactOrderedExpr.f
  obtain ⟨r0, hr0, hr0'⟩ := szNodeS_ev a0 1048576 h0 (by decide) (by decide)
  refine Ev.bind hr0 ?_
  by_cases hn0 : r0 < 0
  · exact Ev.ifp hn0 (Ev.now _)
  have hl0 := hr0' (by omega)
  have q0 := hl0.2.2
  refine Ev.ifn hn0 ?_
  have b0 : a0.length ≤ 1048576 := by have := hl0.1; omega
  obtain ⟨l, t1, e⟩ : ∃ l t1, oeR (a0.map cvN) = (l, t1) := ⟨_, _, rfl⟩
  have hll0 : l.length ≤ 24 := by
    have := oeR_len (a0.map cvN)
    rw [e] at this
    exact this
  refine Ev.bind (toNodeS_ev a0 b0) (?_)
  refine Ev.bind (e ▸ specOE_ev (a0.map cvN)) ?_
  refine Ev.bind (toNodeS_ev a0 b0) (?_)
  refine Ev.bind (e ▸ implOE_ev (a0.map cvN)) ?_
  refine Ev.bind (eqNodeS_refl l (by omega)) (Ev.ifp rfl ?_)
  rw [bne_self' _]
  refine Ev.step (fun k => by simp only [laws_FnExactOrderedExpr.j0]; rfl) (Ev.ifn (by decide) ?_)
  refine Ev.bind (toNodeS_ev a0 b0) (Ev.bind (eqNodeS_refl _ (by simpa using b0)) (Ev.ifp rfl ?_))
  refine Ev.bind (markD_ev _ (1) (by simpa using b0) (by decide)) ?_
  refine Ev.ifn (by omega) ?_
  refine Ev.bind (eqNodeS_refl l (by omega)) (Ev.ifp rfl ?_)
  rw [bne_self' _]
  refine Ev.step (fun k => by simp only [laws_FnExactOrderedExpr.j1]; rfl) (Ev.ifn (by decide) ?_)
  refine Ev.bind (markD_ev l (1) (by omega) (by decide)) ?_
  refine Ev.bind (heldD_ev l.length (1) (by omega) (by decide)) ?_
  refine Ev.ifn (by omega) (Ev.ifp rfl ?_)
  refine Ev.bind (toNodeS_ev a0 b0) (?_)
  refine Ev.bind (e ▸ implOE_ev (a0.map cvN)) ?_
  refine Ev.bind (eqNodeS_refl l (by omega)) (Ev.ifp rfl ?_)
  rw [bne_self' _]
  refine Ev.step (fun k => by simp only [laws_FnExactOrderedExpr.j2]; rfl) (Ev.ifn (by decide) ?_)
  refine Ev.bind (heldD_ev l.length (1) (by omega) (by decide)) ?_
  exact Ev.ifn (by omega) (Ev.ifp rfl (Ev.now _))
end Go.Proofs.Ytkfkbmlbpeojaaa.Pure
end
