/- Proved here: contracts of functions that the law FnExactAllShortest reaches, and lemmas on what they compute; texts of this session and the printed words of the kit that they lean on, cut down and put together by its program link.py. Conditions: as each states. -/
import Derived.Laws.BitsLemmas
import Derived.Test.YtnaafcleafbejaaGreatZFnExactAllShortest1
import Derived.Test.YtnaafcleafbejaaGreatZFnExactAllShortest2
import Derived.Test.YtnaafcleafbejaaGreatZFnExactAllShortest3
import Derived.Test.YtnaafcleafbejaaGreatZFnExactAllShortest4
section
namespace Go.Proofs.YtnaafcleafbejaaGreat.PL
open Go Go.RowKit Go.Proofs.YtnaafcleafbejaaGreatW.PrintWords Go.Proofs.YtnaafcleafbejaaGreatW.PrintLast Go.Proofs.YtnaafcleafbejaaGreatW.PrintMore Go.Proofs.YtnaafcleafbejaaGreat.Q
set_option linter.unusedSimpArgs false
set_option linter.unusedVariables false
abbrev Instr := S69
theorem zz0 (l : List Int) (hl : l.length ≤ 1048576) : Ev (fun k => zg5 k l) l := by
  have key : ∀ (d i : Nat), i + d = l.length → Ev (fun k => zdy k l (l.take i ++ List.replicate d 0) i) l := by
    intro d
    induction d with
    | zero =>
      intro i hi
      refine Ev.step (f := fun _ => some _) (fun k => ?_) (Ev.now _)
      simp only [zdy]
      rw [if_neg (by omega), List.take_of_length_le (by omega)]
      simp
    | succ d ih =>
      intro i hi
      have hlt : i < l.length := by omega
      have hx := zlg (zcj l i hlt)
      refine Ev.step (fun k => ?_) (ih (i + 1) (by omega))
      simp only [zdy]
      rw [if_pos (by omega), if_pos (by omega), if_pos (by simp; omega), hx, w64n i (by omega)]
      congr 1
      have e : ((i : Int)).toNat = (l.take i).length := by simp; omega
      rw [e]
      have := zpb (l.take i) (List.replicate d (0 : Int)) 0 l[i]
      simp only [List.length_replicate] at this
      rw [this]
      congr 1
      rw [List.take_succ_eq_append_getElem hlt]
  unfold zg5
  refine zad (by omega) (zad (by simp; omega) ?_)
  simpa using key l.length 0 (by omega)
theorem zu7 (l : List Instr) (hl : l.length ≤ 1048576) : Ev (fun k => zfs k l l) true := by
  unfold zfs
  simp only [if_true]
  refine zk7 (σ := Unit) l (fun k _ i => zcs k l l i) (fun _ _ => true) (fun _ => ?_) (fun i _ x rest hi hx ih => ?_) ()
  · refine Ev.step (f := fun _ => some true) (fun k => ?_) (Ev.now _)
    simp only [zcs]
    rw [if_neg (by omega)]
  · refine Ev.step (fun k => ?_) (ih ())
    simp only [zcs, zkw, reduceIte, Option.bind_some]
    rw [if_pos (by omega), if_pos (by omega), w64n i (by omega), if_pos (by omega)]
theorem zw7 (l : List Int) (hl : l.length ≤ 1048576) : Ev (fun k => zg4 k l l) true := by
  unfold zg4
  simp only [if_true]
  refine zk7 (σ := Unit) l (fun k _ i => zdx k l l i) (fun _ _ => true) (fun _ => ?_) (fun i _ x rest hi hx ih => ?_) ()
  · refine Ev.step (f := fun _ => some true) (fun k => ?_) (Ev.now _)
    simp only [zdx]
    rw [if_neg (by omega)]
  · refine Ev.step (fun k => ?_) (ih ())
    simp only [zdx, if_true]
    rw [if_pos (by omega), if_pos (by omega), w64n i (by omega), if_pos (by omega)]
theorem zv5 (l : List ByteArray) (a : Int) (hl : Rd.okSl Rd.okStr l) (h0 : 0 ≤ a) (h1 : a ≤ 1048576) :
    ∃ r, Ev (fun k => zeq k l a) r ∧ (0 ≤ r → (l.length : Int) ≤ a ∧ r ≤ a) := by
  obtain ⟨hl1, hl2⟩ := hl
  unfold maxLen at hl1
  by_cases h : a < l.length
  · refine ⟨-1, ?_, fun h => absurd h (by decide)⟩
    unfold zeq
    rw [w64 (by omega) (by omega)]
    simp only [show a - (l.length : Int) < 0 by omega, if_true]
    exact Ev.now _
  · have key : ∀ (d i : Nat) (r : Int), i + d = l.length → 0 ≤ r → r ≤ a → ∃ q, Ev (fun k => zb2 k l r i) q ∧ q ≤ a := by
      intro d
      induction d with
      | zero =>
        intro i r hi hr hra
        refine ⟨r, Ev.step (f := fun _ => some r) (fun k => ?_) (Ev.now _), hra⟩
        simp only [zb2]
        rw [if_neg (by omega)]
      | succ d ih =>
        intro i r hi hr hra
        have hlt : i < l.length := by omega
        have hx : rdOf ByteArray.empty l i = l[i] := zlh (zcj l i hlt)
        have hsz : l[i].size ≤ maxLen := hl2 l[i] (List.getElem_mem hlt)
        unfold maxLen at hsz
        by_cases hb : r < l[i].size
        · refine ⟨-1, Ev.step (f := fun _ => some (-1)) (fun k => ?_) (Ev.now _), by omega⟩
          simp only [zb2, hx]
          rw [if_pos (by omega), if_pos (by omega), w64 (by omega) (by omega), if_pos (by omega)]
        · obtain ⟨q, hq, hqa⟩ := ih (i + 1) (r - l[i].size) (by omega) (by omega) (by omega)
          refine ⟨q, Ev.step (fun k => ?_) hq, hqa⟩
          simp only [zb2, hx]
          rw [if_pos (by omega), if_pos (by omega), w64 (by omega) (by omega), if_neg (by omega), w64n i (by omega)]
    obtain ⟨q, hq, hqa⟩ := key l.length 0 (a - l.length) (by omega) (by omega) (by omega)
    refine ⟨q, ?_, fun h' => ⟨by omega, hqa⟩⟩
    unfold zeq
    rw [w64 (by omega) (by omega)]
    simp only [show ¬ (a - (l.length : Int) < 0) by omega, if_false]
    simpa using hq
theorem zz1 (l : List Int) (a : Int) (hl : l.length ≤ maxLen) (h0 : 0 ≤ a) (h1 : a ≤ 1048576) : zjv l a = some (if a < l.length then -1 else a - l.length) := by
  unfold maxLen at hl
  unfold zjv
  rw [w64 (by omega) (by omega)]
  by_cases h : a < l.length
  · rw [if_pos (by omega), if_pos h]
  · rw [if_neg (by omega), if_neg h]
theorem zv6 (l : List ByteArray) (hl : l.length ≤ 1048576) : Ev (fun k => zfe k l) l := by
  have key : ∀ (d i : Nat), i + d = l.length → Ev (fun k => zcg k l (l.take i ++ List.replicate d ⟨#[]⟩) i) l := by
    intro d
    induction d with
    | zero =>
      intro i hi
      refine Ev.step (f := fun _ => some l) (fun k => ?_) (Ev.now _)
      simp only [zcg]
      rw [if_neg (by omega), List.take_of_length_le (by omega)]
      simp
    | succ d ih =>
      intro i hi
      have hlt : i < l.length := by omega
      have hx : rdOf ByteArray.empty l i = l[i] := zlh (zcj l i hlt)
      refine Ev.step (fun k => ?_) (ih (i + 1) (by omega))
      simp only [zcg]
      rw [if_pos (by omega), if_pos (by omega), if_pos (by simp; omega), hx, w64n i (by omega)]
      congr 1
      have e : ((i : Int)).toNat = (l.take i).length := by simp; omega
      rw [e]
      have := zpb (l.take i) (List.replicate d (⟨#[]⟩ : ByteArray)) ⟨#[]⟩ l[i]
      simp only [List.length_replicate] at this
      rw [this]
      congr 1
      rw [List.take_succ_eq_append_getElem hlt]
  unfold zfe
  refine zad (by omega) (zad (by simp; omega) ?_)
  simpa using key l.length 0 (by omega)
theorem zt7 (l : List ByteArray) (hl : l.length ≤ 1048576) : Ev (fun k => zfb k l l) true := by
  unfold zfb
  simp only [if_true]
  refine zk7 (σ := Unit) l (fun k _ i => zcd k l l i) (fun _ _ => true) (fun _ => ?_) (fun i _ x rest hi hx ih => ?_) ()
  · refine Ev.step (f := fun _ => some true) (fun k => ?_) (Ev.now _)
    simp only [zcd]
    rw [if_neg (by omega)]
  · refine Ev.step (fun k => ?_) (ih ())
    simp only [zcd, if_true]
    rw [if_pos (by omega), if_pos (by omega), w64n i (by omega), if_pos (by omega)]
theorem zw8 (l : List ByteArray) (m : List Int) (a : Int) (hl : Rd.okSl Rd.okStr l) (hm : m.length ≤ maxLen) (h0 : 0 ≤ a) (h1 : a ≤ 1048576) :
    ∃ r, Ev (fun k => zfu k l m a) r ∧ (0 ≤ r → (l.length : Int) ≤ a ∧ (m.length : Int) ≤ a ∧ r ≤ a) := by
  unfold zfu
  obtain ⟨r, hr, hr'⟩ := zv5 l a hl h0 h1
  by_cases hn : r < 0
  · exact ⟨-1, Ev.bind hr (zad hn (Ev.now _)), fun h => absurd h (by decide)⟩
  obtain ⟨q1, q2⟩ := hr' (by omega)
  have e := zz1 m r hm (by omega) (by omega)
  by_cases hn2 : r < m.length
  · rw [if_pos hn2] at e
    exact ⟨-1, Ev.bind hr (zao hn (Ev.call e (zad (by decide) (Ev.now _)))), fun h => absurd h (by decide)⟩
  · rw [if_neg hn2] at e
    exact ⟨r - m.length, Ev.bind hr (zao hn (Ev.call e (zao (by omega) (Ev.now _)))), fun h => ⟨by omega, by omega, by omega⟩⟩
theorem zw9 (l : List ByteArray) (m : List Int) (hl : l.length ≤ 1048576) (hm : m.length ≤ 1048576) : Ev (fun k => zfv k l m) (l, m) := by
  unfold zfv
  exact Ev.bind (zv6 l hl) (Ev.bind (zz0 m hm) (Ev.now _))
theorem zu8 (l : List ByteArray) (m : List Int) (hl : l.length ≤ 1048576) (hm : m.length ≤ 1048576) : Ev (fun k => zfr k l m l m) true := by
  unfold zfr
  exact Ev.bind (zt7 l hl) (zad rfl (Ev.bind (zw7 m hm) (zad rfl (Ev.now _))))
theorem zn9 : ∀ (m : Nat) (n : Nat) (s : ByteArray), n ≤ m → s.size + n ≤ 4611686018427387904 → ∃ t, Ev (fun k => zct k n s) t
  | 0, n, s, h, hs => by
    have e : n = 0 := by omega
    subst e
    refine ⟨(⟨#[109]⟩ : ByteArray) ++ s, Ev.step (f := fun _ => some ((⟨#[109]⟩ : ByteArray) ++ s)) (fun k => ?_) (Ev.now _)⟩
    have hz : (⟨#[109]⟩ : ByteArray).size = 1 := rfl
    simp only [zct]
    rw [if_neg (by decide), if_pos (by omega)]
  | m + 1, n, s, h, hs => by
    by_cases hn : n = 0
    · exact zn9 m n s (by omega) hs
    · have hsz : (strOfNums [(wrap64 (48 + Int.tmod (n : Int) 10)) % 256]).size = 1 := by
        unfold strOfNums
        rfl
      obtain ⟨t, ht⟩ := zn9 m (n / 10) (strOfNums [(wrap64 (48 + Int.tmod (n : Int) 10)) % 256] ++ s) (by omega) (by rw [ByteArray.size_append, hsz]; omega)
      refine ⟨t, Ev.step (fun k => ?_) ht⟩
      simp only [zct, Option.bind_some]
      rw [if_pos (by omega), if_pos (by rw [hsz]; omega)]
      congr 1
      have e : Int.tdiv (n : Int) 10 = ((n / 10 : Nat) : Int) := by
        rw [Int.tdiv_eq_ediv_of_nonneg (by omega)]
        omega
      rw [e, w64 (by omega) (by omega)]
theorem ztl (n : Nat) (h : n ≤ 4611686018427387903) : ∃ t, Ev (fun k => zcx k n) t := by
  unfold zcx
  by_cases hn : (n : Int) ≤ 0
  · exact ⟨_, zad hn (Ev.now _)⟩
  · obtain ⟨t, ht⟩ := zn9 n n ⟨#[]⟩ (Nat.le_refl _) (by show 0 + n ≤ _; omega)
    exact ⟨t, zao hn ht⟩
open Classical in
noncomputable def mtx (n : Nat) : ByteArray := if h : ∃ t, Ev (fun k => zcx k n) t then Classical.choose h else ⟨#[]⟩
theorem zx9 (n : Nat) (h : n ≤ 4611686018427387903) : Ev (fun k => zcx k n) (mtx n) := by
  unfold mtx
  rw [dif_pos (ztl n h)]
  exact Classical.choose_spec (ztl n h)
def zkj : Nat → Nat → List Int
  | 0, _ => []
  | n + 1, a => (a : Int) :: zkj n (a + 1)
theorem zui : ∀ n a, (zkj n a).length = n
  | 0, _ => rfl
  | n + 1, a => by simp [zkj, zui n]
theorem zxa {α : Type} (xs : List α) (y : α) (ys : List α) (v : α) : (xs ++ y :: ys).set xs.length v = (xs ++ [v]) ++ ys := by
  rw [List.set_append_right _ _ (Nat.le_refl _)]
  simp
theorem zu9 {α : Type} (xs : List α) (y : α) (ys : List α) (d : α) : (xs ++ y :: ys).getD xs.length d = y := by simp [List.getD]
theorem zxb (l : List Int) (a : Nat) (hl : l.length ≤ 1048576) (ha : a ≤ 33554432) : Ev (fun k => zft k l a) ((a : Int) + l.length, zkj l.length a) := by
  have key : ∀ (ys xs : List Int) (b : Nat), xs.length + ys.length ≤ 1048576 → b ≤ 67108864 - ys.length → Ev (fun k => zcu k (xs ++ ys) b xs.length) ((b : Int) + ys.length, xs ++ zkj ys.length b) := by
    intro ys
    induction ys with
    | nil =>
      intro xs b h h'
      refine Ev.step (f := fun _ => some (((b : Int), xs ++ []))) (fun k => ?_) (Ev.some ?_)
      · simp only [zcu]
        rw [if_neg (by simp)]
      · simp [zkj]
    | cons y ys ih =>
      intro xs b h h'
      simp only [List.length_cons] at h h'
      have := ih (xs ++ [(b : Int)]) (b + 1) (by simp; omega) (by omega)
      rw [List.append_assoc] at this
      refine Ev.step (fun k => ?_) (zku this ?_)
      · simp only [zcu]
        rw [if_pos (by simp; omega), if_pos (by omega), Int.toNat_natCast, zxa, w64n _ (by omega), w64n _ (by omega), List.append_assoc]
        congr 1
        simp
      · simp only [List.length_cons, zkj, Prod.mk.injEq]
        exact ⟨by omega, by simp⟩
  have := key l [] a (by simpa using hl) (by omega)
  unfold zft
  simpa using this
noncomputable def zlw : Nat → Nat → List Instr
  | 0, _ => []
  | n + 1, a => ⟨mtx a, (a + 1 : Nat), (a + 2 : Nat), (a + 3 : Nat), (a + 4 : Nat)⟩ :: zlw n (a + 5)
theorem zuj : ∀ n a, (zlw n a).length = n
  | 0, _ => rfl
  | n + 1, a => by simp [zlw, zuj n]
theorem zz2 (xs : List Instr) (y : Instr) (ys : List Instr) : zag (xs ++ y :: ys) (xs.length : Nat) = y := by
  unfold zag
  rw [Int.toNat_natCast, zu9]
theorem zva (l : List Instr) (a : Nat) (hl : l.length ≤ 1048576) (ha : a ≤ 11534336) : Ev (fun k => zey k l a) ((a : Int) + 5 * l.length, zlw l.length a) := by
  have key : ∀ (ys xs : List Instr) (b : Nat), xs.length + ys.length ≤ 1048576 → b ≤ 16777216 - 5 * ys.length → Ev (fun k => zb6 k (xs ++ ys) b xs.length) ((b : Int) + 5 * ys.length, xs ++ zlw ys.length b) := by
    intro ys
    induction ys with
    | nil =>
      intro xs b h h'
      refine Ev.step (f := fun _ => some (((b : Int), xs ++ []))) (fun k => ?_) (Ev.some ?_)
      · simp only [zb6]
        rw [if_neg (by simp)]
      · simp [zlw]
    | cons y ys ih =>
      intro xs b h h'
      simp only [List.length_cons] at h h'
      have := ih (xs ++ [⟨mtx b, (b + 1 : Nat), (b + 2 : Nat), (b + 3 : Nat), (b + 4 : Nat)⟩]) (b + 5) (by simp; omega) (by omega)
      rw [List.append_assoc] at this
      refine Ev.step (fun k => by simp only [zb6]; rfl) ?_
      refine zad (by simp; omega) ?_
      refine Ev.bind (zx9 b (by omega)) ?_
      refine zad (by omega) ?_
      refine zri (fun k => ?_) (zku this ?_)
      · simp only [Option.bind_some, Int.toNat_natCast, zxa, zz2, List.append_assoc, List.singleton_append]
        rw [w64n b (by omega), w64n (b + 1) (by omega), w64n (b + 2) (by omega), w64n (b + 3) (by omega), w64n (b + 4) (by omega), w64n _ (by omega)]
        congr 1
        simp
      · simp only [List.length_cons, zlw, Prod.mk.injEq]
        exact ⟨by omega, by simp⟩
  have := key l [] a (by simpa using hl) (by omega)
  unfold zey
  simpa using this
theorem zvb (n a : Nat) (hn : n ≤ 1048576) (ha : a ≤ 11534336) : Ev (fun k => zew k (zlw n a) a) ((a : Int) + 5 * n) := by
  have key : ∀ (d : Nat) (xs : List Instr) (b : Nat), xs.length + d ≤ 1048576 → b ≤ 16777216 - 5 * d → Ev (fun k => zb5 k (xs ++ zlw d b) b xs.length) ((b : Int) + 5 * d) := by
    intro d
    induction d with
    | zero =>
      intro xs b h h'
      refine Ev.step (f := fun _ => some (b : Int)) (fun k => ?_) (Ev.some (by simp))
      simp only [zb5]
      rw [if_neg (by simp [zlw])]
    | succ d ih =>
      intro xs b h h'
      have := ih (xs ++ [⟨mtx b, (b + 1 : Nat), (b + 2 : Nat), (b + 3 : Nat), (b + 4 : Nat)⟩]) (b + 5) (by simp; omega) (by omega)
      rw [List.append_assoc] at this
      have e : zag (xs ++ zlw (d + 1) b) (xs.length : Nat) = ⟨mtx b, (b + 1 : Nat), (b + 2 : Nat), (b + 3 : Nat), (b + 4 : Nat)⟩ := zz2 _ _ _
      refine Ev.step (fun k => by simp only [zb5, e]; rfl) ?_
      refine zad (by simp [zuj]; omega) ?_
      refine zad (by omega) ?_
      refine Ev.bind (zx9 b (by omega)) ?_
      refine zad rfl ?_
      refine zri (fun k => ?_) (zku this (by omega))
      rw [w64n b (by omega), w64n (b + 1) (by omega), w64n (b + 2) (by omega), w64n (b + 3) (by omega), w64n (b + 4) (by omega), w64n _ (by omega)]
      rw [if_pos rfl, if_pos rfl, if_pos rfl, if_pos rfl]
      congr 1
      simp
  have := key n [] a (by simpa using hn) (by omega)
  unfold zew
  simpa using this
def zgl (c : Nat) : Bool × Bool × Bool × Int × Int :=
  match c with
  | 0 => (true, false, false, 0, 63)
  | 1 => (true, true, false, 0, 0)
  | 2 => (true, true, true, 0, 0)
  | 3 => (true, true, true, 0, 0)
  | 4 => (true, true, true, 0, 0)
  | 5 => (true, true, false, 0, 63)
  | 6 => (true, true, false, 1, 5)
  | 7 => (true, true, true, 1, 3)
  | _ => (false, false, false, 0, 0)
theorem zv7 : ∀ p ∈ ops, zei 20 p.1 = some (zgl p.2) := by decide +kernel
theorem zv8 (s : ByteArray) : zjp s = some (zgm (cls s) s) := rfl
theorem zvc (s : ByteArray) : Ev (fun k => zei k s) (zgl (cls s)) := by
  refine zs4 (P := fun s => Ev (fun k => zei k s) (zgl (cls s))) s (fun p hp => ?_) (fun h => ?_)
  · rw [zzs p hp]
    exact yf4 (zcy _) (zv7 p hp)
  · rw [zs5 h]
    obtain ⟨h0, h1, h2, h3, h4, h5, h6, h7, h8, h9, h10, h11, h12, h13, h14, h15, h16, h17, h18, h19⟩ := zw3 h
    refine yf4 (zcy _) (k := 5) ?_
    simp only [zei, zdr, zbl, zds, zeh, h0, h1, h2, h3, h4, h5, h6, h7, h8, h9, h10, h11, h12, h13, h14, h15, h16, h17, h18, h19, if_false, beq_iff_eq]
    rfl
theorem zk8 (a b c : Int) : zd3 a b c = some (decide (b ≤ a ∧ a ≤ c)) := by
  unfold zd3
  by_cases h : b ≤ a <;> simp [h]
theorem zo4 (a b c : Int) : zet a b c = some (decide (b ≤ a ∧ a ≤ c)) := by
  unfold zet
  by_cases h : a ≥ b
  · rw [if_pos h]; congr 1; rw [decide_eq_decide]; omega
  · rw [if_neg h]; congr 1; symm; rw [decide_eq_false_iff_not]; omega
def okI (x : Instr) : Prop := cls x.f0 ≠ 8 ∧ (0 ≤ x.f1 ∧ x.f1 ≤ 5) ∧ ((zgl (cls x.f0)).2.1 = true ∧ 0 ≤ x.f2 ∧ x.f2 ≤ 5 ∨ x.f2 = 0) ∧ ((zgl (cls x.f0)).2.2.1 = true ∧ 0 ≤ x.f3 ∧ x.f3 ≤ 5 ∨ x.f3 = 0) ∧ (zgl (cls x.f0)).2.2.2.1 ≤ x.f4 ∧ x.f4 ≤ (zgl (cls x.f0)).2.2.2.2
instance (x : Instr) : Decidable (okI x) := by unfold okI; infer_instance
theorem zuk (s : ByteArray) : cls s ≤ 8 := by
  refine zs4 (P := fun s => cls s ≤ 8) s (by decide +kernel) (fun h => by rw [zs5 h]; exact Nat.le_refl _)
theorem zz3 (s : ByteArray) : cls s = 0 ∨ cls s = 1 ∨ cls s = 2 ∨ cls s = 3 ∨ cls s = 4 ∨ cls s = 5 ∨ cls s = 6 ∨ cls s = 7 ∨ cls s = 8 := by have := zuk s; omega
theorem zul {xs : List S62} {i : Nat} {x : S62} (h : ∀ d, xs.getD i d = x) : zab xs i = x := by unfold zab; rw [Int.toNat_natCast]; exact h _
theorem ycw {xs : List S58} {i : Nat} {x : S58} (h : ∀ d, xs.getD i d = x) : zhq xs i = x := by unfold zhq; rw [Int.toNat_natCast]; exact h _
abbrev Node := S62
abbrev ydm := S58
def cvN (x : ydm) : Node := ⟨x.f0, x.f1, x.f2, x.f3⟩
theorem zv9 (s : ByteArray) (a b c r : Int) (hs : s.size ≤ maxLen) (h0 : 0 ≤ r) (h1 : r ≤ 1048576) : zjw s a b c r = some (if r < s.size then -1 else r - s.size) := by
  unfold maxLen at hs
  unfold zjw
  rw [w64 (by omega) (by omega)]
  by_cases h : r < s.size
  · rw [if_pos (by omega), if_pos h]
  · rw [if_neg (by omega), if_neg h]
theorem zy6 (l : List ydm) (a : Int) (hl : Rd.okSl zzy l) (h0 : 0 ≤ a) (h1 : a ≤ 1048576) :
    ∃ r, Ev (fun k => zfj k l a) r ∧ (0 ≤ r → (l.length : Int) ≤ a ∧ (∀ x ∈ l, (x.f0.size : Int) ≤ a) ∧ r ≤ a) := by
  obtain ⟨hl1, hl2⟩ := hl
  unfold maxLen at hl1
  by_cases h : a < l.length
  · refine ⟨-1, ?_, fun h => absurd h (by decide)⟩
    unfold zfj
    rw [w64 (by omega) (by omega)]
    simp only [show a - (l.length : Int) < 0 by omega, if_true]
    exact Ev.now _
  · have key : ∀ (d i : Nat) (r : Int), i + d = l.length → 0 ≤ r → r ≤ a → ∃ q, Ev (fun k => zci k l r i) q ∧ q ≤ a ∧ (0 ≤ q → ∀ x ∈ l.drop i, (x.f0.size : Int) ≤ a) := by
      intro d
      induction d with
      | zero =>
        intro i r hi hr _
        refine ⟨r, Ev.step (f := fun _ => some r) (fun k => ?_) (Ev.now _), by omega, fun _ x hx => ?_⟩
        · simp only [zci]
          rw [if_neg (by omega)]
        · rw [List.drop_of_length_le (by omega)] at hx
          cases hx
      | succ d ih =>
        intro i r hi hr hra
        have hlt : i < l.length := by omega
        have e : l.drop i = l[i] :: l.drop (i + 1) := List.drop_eq_getElem_cons hlt
        have hx := ycw (zcj l i hlt)
        have hsz := (hl2 l[i] (List.getElem_mem hlt)).1
        by_cases hb : r < l[i].f0.size
        · refine ⟨-1, Ev.step (f := fun _ => some (-1)) (fun k => ?_) (Ev.now _), by omega, fun h => absurd h (by decide)⟩
          simp only [zci]
          rw [if_pos (by omega), if_pos (by omega), hx, zv9 _ _ _ _ _ hsz hr (by omega), if_pos hb]
          rfl
        · obtain ⟨q, hq, hqa, hq'⟩ := ih (i + 1) (r - l[i].f0.size) (by omega) (by omega) (by omega)
          refine ⟨q, Ev.step (f := fun k => zci k l (r - l[i].f0.size) ((i + 1 : Nat) : Int)) (fun k => ?_) hq, hqa, fun h x hx' => ?_⟩
          · simp only [zci]
            rw [if_pos (by omega), if_pos (by omega), hx, zv9 _ _ _ _ _ hsz hr (by omega), if_neg hb, Option.bind_some, if_neg (by omega), w64n i (by omega)]
          · rw [e] at hx'
            rcases List.mem_cons.1 hx' with rfl | hx'
            · omega
            · exact hq' h x hx'
    obtain ⟨q, hq, hqa, hq'⟩ := key l.length 0 (a - l.length) (by omega) (by omega) (by omega)
    refine ⟨q, ?_, fun h' => ⟨by omega, by simpa using hq' h', hqa⟩⟩
    unfold zfj
    rw [w64 (by omega) (by omega)]
    simp only [show ¬ (a - (l.length : Int) < 0) by omega, if_false]
    simpa using hq
theorem zy7 (l : List ydm) (hl : l.length ≤ 1048576) : Ev (fun k => zgf k l) (l.map cvN) := by
  have key : ∀ (d i : Nat), i + d = l.length → Ev (fun k => zdb k l ((l.take i).map cvN ++ List.replicate d z62) i) (l.map cvN) := by
    intro d
    induction d with
    | zero =>
      intro i hi
      refine Ev.step (f := fun _ => some _) (fun k => ?_) (Ev.now _)
      simp only [zdb]
      rw [if_neg (by omega), List.take_of_length_le (by omega)]
      simp
    | succ d ih =>
      intro i hi
      have hlt : i < l.length := by omega
      have hx := ycw (zcj l i hlt)
      refine Ev.step (fun k => ?_) (ih (i + 1) (by omega))
      simp only [zdb, zl1, Option.bind_some]
      rw [if_pos (by omega), if_pos (by omega), if_pos (by simp; omega), hx, w64n i (by omega)]
      congr 1
      have e : ((i : Int)).toNat = ((l.take i).map cvN).length := by simp; omega
      rw [e]
      have := zpb ((l.take i).map cvN) (List.replicate d z62) z62 (cvN l[i])
      simp only [List.length_replicate] at this
      rw [show (⟨l[i].f0, l[i].f1, l[i].f2, l[i].f3⟩ : Node) = cvN l[i] from rfl, this]
      congr 1
      rw [List.take_succ_eq_append_getElem hlt, List.map_append]
      rfl
  unfold zgf
  refine zad (by omega) (zad (by simp; omega) ?_)
  simpa using key l.length 0 (by omega)
theorem zwa (l : List Node) (hl : l.length ≤ 1048576) : Ev (fun k => zgb k l l) true := by
  unfold zgb
  simp only [if_true]
  refine zk7 (σ := Unit) l (fun k _ i => zda k l l i) (fun _ _ => true) (fun _ => ?_) (fun i _ x rest hi hx ih => ?_) ()
  · refine Ev.step (f := fun _ => some true) (fun k => ?_) (Ev.now _)
    simp only [zda]
    rw [if_neg (by omega)]
  · refine Ev.step (fun k => ?_) (ih ())
    simp only [zda, zl0, reduceIte, Option.bind_some]
    rw [if_pos (by omega), if_pos (by omega), w64n i (by omega), if_pos (by omega)]
theorem zxc {α : Type} {xs : List α} {i : Nat} {x : α} (hi : i < xs.length) (hx : ∀ d, xs.getD i d = x) : x ∈ xs := by
  have := hx x
  rw [zcj xs i hi] at this
  rw [← this]
  exact List.getElem_mem hi
theorem ydn {α : Type} (p : α → Bool) (xs : List α) (q : Prop) [Decidable q] (h : q ↔ ∃ x ∈ xs, p x = true) : decide (idx p xs ≥ 0) = decide q := by
  rw [decide_eq_decide]
  exact (zuh p xs).trans h.symm
def hasS (l : List ByteArray) (s : ByteArray) : Bool := l.any fun y => decide (y = s)
theorem zya (l : List ByteArray) (s : ByteArray) : hasS l s = true ↔ s ∈ l := by
  unfold hasS
  rw [List.any_eq_true]
  exact ⟨fun ⟨x, hx, h⟩ => of_decide_eq_true h ▸ hx, fun h => ⟨s, h, decide_eq_true rfl⟩⟩
theorem zo5 (l : List ByteArray) (s : ByteArray) (hl : l.length ≤ 1048576) : Ev (fun k => zan k l s) (hasS l s) := by
  have h : Ev (fun k => za7 k l s) (idx (fun y => decide (s = y)) l) := by
    unfold za7
    refine zv4 l _ (fun k i => zam k l s l.length i) ?_ (fun i x hi hx hp => ?_) (fun i x r hi hx hp hr => ?_)
    · refine Ev.step (f := fun _ => some (-1)) (fun k => ?_) (Ev.now _)
      simp only [zam]
      rw [if_neg (by omega)]
    · refine Ev.step (f := fun _ => some (i : Int)) (fun k => ?_) (Ev.now _)
      simp only [zam, zlh hx, zx2]
      rw [if_pos (by omega), if_pos (by omega), if_pos (by omega), if_pos (of_decide_eq_true hp)]
    · refine Ev.step (fun k => ?_) hr
      simp only [zam, zlh hx, zx2]
      rw [if_pos (by omega), if_pos (by omega), if_pos (by omega), if_neg (of_decide_eq_false hp), w64n i (by omega)]
  unfold zan
  refine Ev.bind h (Ev.some ?_)
  rw [Bool.eq_iff_iff, decide_eq_true_eq, zya]
  refine (zuh _ l).trans ⟨?_, fun h => ⟨s, h, decide_eq_true rfl⟩⟩
  rintro ⟨x, hx, h⟩
  rw [of_decide_eq_true h]
  exact hx
theorem zqw (l : List ByteArray) (s : ByteArray) (hl : l.length ≤ 1048576) : Ev (fun k => zfk k l s) (hasS l s) := by
  unfold zfk
  refine zk7 (σ := Unit) l (fun k _ i => zdz k s l l.length i) (fun r _ => hasS r s) (fun _ => ?_) (fun i _ x rest hi hx ih => ?_) ()
  · refine Ev.step (f := fun _ => some false) (fun k => ?_) (Ev.now _)
    simp only [zdz]
    rw [if_neg (by omega)]
  · refine Ev.step (fun k => by simp only [zdz, zlh hx, zx2]; rfl) (zad (by omega) (zad (by omega) (zad (by omega) ?_)))
    by_cases q : x = s
    · exact zad q (Ev.some (by simp [hasS, q]))
    · refine zao q ?_
      rw [w64n i (by omega)]
      refine zku (ih ()) ?_
      simp [hasS, q]
theorem zo6 (l : List Int) (s : Int) (hl : l.length ≤ 1048576) : Ev (fun k => za8 k l s) (decide (s ∈ l)) := by
  have h : Ev (fun k => zcn k l s) (idx (fun y => decide (s = y)) l) := by
    unfold zcn
    refine zv4 l _ (fun k i => za4 k l s l.length i) ?_ (fun i x hi hx hp => ?_) (fun i x r hi hx hp hr => ?_)
    · refine Ev.step (f := fun _ => some (-1)) (fun k => ?_) (Ev.now _)
      simp only [za4]
      rw [if_neg (by omega)]
    · refine Ev.step (f := fun _ => some (i : Int)) (fun k => ?_) (Ev.now _)
      simp only [za4, zlg hx]
      rw [if_pos (by omega), if_pos (by omega), if_pos (by omega), if_pos (of_decide_eq_true hp)]
    · refine Ev.step (fun k => ?_) hr
      simp only [za4, zlg hx]
      rw [if_pos (by omega), if_pos (by omega), if_pos (by omega), if_neg (of_decide_eq_false hp), w64n i (by omega)]
  unfold za8
  refine Ev.bind h (Ev.some (ydn _ _ _ ?_))
  constructor
  · exact fun h => ⟨s, h, decide_eq_true rfl⟩
  · rintro ⟨x, hx, h⟩
    rw [of_decide_eq_true h]
    exact hx
theorem zvd (l : List Int) (s : Int) (hl : l.length ≤ 1048576) : Ev (fun k => zgk k l s) (decide (s ∈ l)) := by
  unfold zgk
  refine zk7 (σ := Unit) l (fun k _ i => zes k s l l.length i) (fun r _ => decide (s ∈ r)) (fun _ => ?_) (fun i _ x rest hi hx ih => ?_) ()
  · refine Ev.step (f := fun _ => some false) (fun k => ?_) (Ev.some (by simp))
    simp only [zes]
    rw [if_neg (by omega)]
  · refine Ev.step (fun k => by simp only [zes, zlg hx]; rfl) (zad (by omega) (zad (by omega) (zad (by omega) ?_)))
    by_cases q : x = s
    · exact zad q (Ev.some (by simp [q]))
    · refine zao q ?_
      rw [w64n i (by omega)]
      refine zku (ih ()) ?_
      rw [decide_eq_decide, List.mem_cons]
      exact ⟨Or.inr, fun h => h.resolve_left fun e => q e.symm⟩
def bops : List ByteArray := [⟨#[97, 100, 100]⟩, ⟨#[115, 117, 98]⟩, ⟨#[109, 117, 108]⟩, ⟨#[97, 110, 100]⟩, ⟨#[111, 114]⟩, ⟨#[120, 111, 114]⟩, ⟨#[115, 104, 108]⟩, ⟨#[115, 104, 114]⟩, ⟨#[108, 101, 115, 115]⟩, ⟨#[101, 113]⟩]
theorem zz4 : zlx = some bops := rfl
theorem yb1 : zm0 = some bops := rfl
def isIn (s : ByteArray) : Prop := s.toList = ([105, 110] : List UInt8)
def zgu (s : ByteArray) : Prop := s.toList = ([99, 111, 110, 115, 116] : List UInt8)
def zo7 (s : ByteArray) : Prop := s.toList = ([110, 111, 116] : List UInt8)
def zpn (s : ByteArray) : Prop := s.toList = ([110, 101, 103] : List UInt8)
instance (s : ByteArray) : Decidable (isIn s) := by unfold isIn; infer_instance
instance (s : ByteArray) : Decidable (zgu s) := by unfold zgu; infer_instance
instance (s : ByteArray) : Decidable (zo7 s) := by unfold zo7; infer_instance
instance (s : ByteArray) : Decidable (zpn s) := by unfold zpn; infer_instance
def kN (s : ByteArray) : Nat := if isIn s then 0 else if zgu s then 1 else if zo7 s ∨ zpn s then 2 else if hasS bops s = true then 3 else 4
def zmj (c : Nat) : Int := match c with | 0 => 0 | 1 => 0 | 2 => 1 | 3 => 2 | _ => -1
theorem zz5 (s : ByteArray) : kN s = 0 ∨ kN s = 1 ∨ kN s = 2 ∨ kN s = 3 ∨ kN s = 4 := by
  unfold kN
  split
  · simp
  split
  · simp
  split
  · simp
  split <;> simp
theorem ztm (s : ByteArray) : Ev (fun k => ze3 k s) (zmj (kN s)) := by
  unfold ze3 kN
  by_cases h1 : isIn s
  · rw [if_pos h1]
    refine zad h1 (Ev.step (fun k => by simp only [zcq]; rfl) (zad (show true = true from rfl) (Ev.now _)))
  rw [if_neg h1]
  refine zao h1 ?_
  by_cases h2 : zgu s
  · rw [if_pos h2]
    exact Ev.step (fun k => by simp only [zcq]; rfl) (zad (beq_iff_eq.2 h2) (Ev.now _))
  rw [if_neg h2]
  refine Ev.step (fun k => by simp only [zcq]; rfl) (zao (fun e => h2 (beq_iff_eq.1 e)) ?_)
  by_cases h3 : zo7 s
  · rw [if_pos (Or.inl h3)]
    exact zad h3 (Ev.step (fun k => by simp only [zcr]; rfl) (zad (show true = true from rfl) (Ev.now _)))
  refine zao h3 ?_
  by_cases h4 : zpn s
  · rw [if_pos (Or.inr h4)]
    exact Ev.step (fun k => by simp only [zcr]; rfl) (zad (beq_iff_eq.2 h4) (Ev.now _))
  rw [if_neg (fun e => e.elim h3 h4)]
  refine Ev.step (fun k => by simp only [zcr]; rfl) (zao (fun e => h4 (beq_iff_eq.1 e)) ?_)
  refine Ev.call zz4 (Ev.bind (zo5 bops s (by decide)) ?_)
  by_cases h5 : hasS bops s = true
  · simp only [if_pos h5]
    exact Ev.now _
  · simp only [if_neg h5]
    exact Ev.now _
theorem zve (s : ByteArray) : zir s = some (decide (zo7 s ∨ zpn s)) := by
  unfold zir
  by_cases h3 : zo7 s
  · rw [if_pos (show s.toList = _ from h3), decide_eq_true (Or.inl h3)]
  · rw [if_neg (show ¬ s.toList = _ from h3)]
    congr 1
    rw [Bool.eq_iff_iff, beq_iff_eq, decide_eq_true_eq]
    exact ⟨Or.inr, fun h => h.resolve_left h3⟩
theorem zs6 (s : ByteArray) : Ev (fun k => zhb k s) (hasS bops s) := by
  unfold zhb
  exact Ev.call yb1 (Ev.bind (zqw bops s (by decide)) (Ev.now _))
def zum (c : Nat) (a b : Int) : List Int := match c with | 2 => [a] | 3 => [a, b] | _ => []
theorem of_ev (x : Node) : Ev (fun k => zga k x.f0 x.f1 x.f2 x.f3) (zum (kN x.f0) x.f1 x.f2) := by
  unfold zga
  refine Ev.call rfl (Ev.bind (ztm x.f0) (ziy ?_))
  rcases zz5 x.f0 with h | h | h | h | h <;> rw [h] <;> rfl
theorem zy8 (x : Node) : Ev (fun k => zgj k x.f0 x.f1 x.f2 x.f3) (zum (kN x.f0) x.f1 x.f2) := by
  unfold zgj
  refine Ev.call (zve _) ?_
  have d1 : ∀ s, isIn s → ¬ (zo7 s ∨ zpn s) := fun s h e => by unfold isIn at h; unfold zo7 zpn at e; rw [h] at e; revert e; decide
  have d2 : ∀ s, zgu s → ¬ (zo7 s ∨ zpn s) := fun s h e => by unfold zgu at h; unfold zo7 zpn at e; rw [h] at e; revert e; decide
  have d3 : ∀ s, isIn s → ¬ hasS bops s = true := fun s h => by rw [str_lit.1 h]; decide +kernel
  have d4 : ∀ s, zgu s → ¬ hasS bops s = true := fun s h => by rw [str_lit.1 h]; decide +kernel
  unfold kN
  by_cases h1 : isIn x.f0
  · rw [if_pos h1]
    exact zao (by simpa using d1 _ h1) (Ev.bind (zs6 _) (zao (d3 _ h1) (Ev.now _)))
  rw [if_neg h1]
  by_cases h2 : zgu x.f0
  · rw [if_pos h2]
    exact zao (by simpa using d2 _ h2) (Ev.bind (zs6 _) (zao (d4 _ h2) (Ev.now _)))
  rw [if_neg h2]
  by_cases h3 : zo7 x.f0 ∨ zpn x.f0
  · rw [if_pos h3]
    exact zad (by simpa using h3) (Ev.now _)
  rw [if_neg h3]
  refine zao (by simpa using h3) (Ev.bind (zs6 _) ?_)
  by_cases h5 : hasS bops x.f0 = true
  · simp only [if_pos h5]
    exact Ev.now _
  · simp only [if_neg h5]
    exact Ev.now _
def okNd (c : Nat) (a b m i : Int) : Bool := match c with
  | 0 => decide (a = 0 ∧ b = 0 ∧ 0 ≤ m ∧ m ≤ 1)
  | 1 => decide (a = 0 ∧ b = 0 ∧ 0 ≤ m ∧ m ≤ 63)
  | 2 => decide ((0 ≤ a ∧ a ≤ i - 1) ∧ b = 0 ∧ m = 0)
  | 3 => decide ((0 ≤ a ∧ a ≤ i - 1) ∧ (0 ≤ b ∧ b ≤ i - 1) ∧ m = 0)
  | _ => false
def okNx (x : Node) (i : Int) : Bool := okNd (kN x.f0) x.f1 x.f2 x.f3 i
theorem zz6 (x : Node) (i : Nat) (hi : i ≤ 1048576) : Ev (fun k => zhc k x.f0 x.f1 x.f2 x.f3 i) (okNx x i) := by
  obtain ⟨s, a, b, m⟩ := x
  simp only [okNx]
  unfold zhc kN
  have e1 : wrap64 ((i : Int) - 1) = (i : Int) - 1 := w64 (by omega) (by omega)
  by_cases h1 : isIn s
  · rw [if_pos h1]
    refine zad h1 (ziy ?_)
    simp only [zo4, Option.bind_some, okNd]
    by_cases q1 : a = 0 <;> by_cases q2 : b = 0 <;> simp [q1, q2]
  rw [if_neg h1]
  refine zao h1 ?_
  by_cases h2 : zgu s
  · rw [if_pos h2]
    refine zad h2 (ziy ?_)
    simp only [zl2, zo4, Option.bind_some, okNd]
    by_cases q1 : a = 0 <;> by_cases q2 : b = 0 <;> simp [q1, q2]
  rw [if_neg h2]
  refine zao h2 (Ev.call (zve _) ?_)
  rw [e1]
  by_cases h3 : zo7 s ∨ zpn s
  · rw [if_pos h3]
    refine zad (by simpa using h3) (ziy ?_)
    simp only [zo4, Option.bind_some, okNd]
    by_cases q1 : 0 ≤ a ∧ a ≤ (i : Int) - 1 <;> by_cases q2 : b = 0 <;> by_cases q3 : m = 0 <;> simp [q1, q2, q3]
  rw [if_neg h3]
  refine zao (by simpa using h3) (Ev.bind (zs6 _) ?_)
  by_cases h5 : hasS bops s = true
  · simp only [if_pos h5]
    refine ziy ?_
    simp only [zo4, Option.bind_some, okNd]
    by_cases q1 : 0 ≤ a ∧ a ≤ (i : Int) - 1 <;> by_cases q2 : 0 ≤ b ∧ b ≤ (i : Int) - 1 <;> by_cases q3 : m = 0 <;> simp [q1, q2, q3]
  · simp only [if_neg h5]
    exact Ev.now _
theorem zz7 (x : Node) (i : Nat) (hi : i ≤ 1048576) : Ev (fun k => zeb k x.f0 x.f1 x.f2 x.f3 i) (okNx x i) := by
  obtain ⟨s, a, b, m⟩ := x
  simp only [okNx]
  unfold zeb
  refine Ev.bind (ztm s) (Ev.call rfl ?_)
  have e1 : wrap64 ((i : Int) - 1) = (i : Int) - 1 := w64 (by omega) (by omega)
  have r0 : rd [a, b] 0 = a := rfl
  have r1 : rd [a, b] 1 = b := rfl
  have fin : ∀ r : Bool, (isIn s → decide (0 ≤ m ∧ m ≤ 1) = r) → (zgu s → decide (0 ≤ m ∧ m ≤ 63) = r) → (¬ isIn s → ¬ zgu s → (if zmj (kN s) > 0 then (m == 0) else false) = r) → Ev (fun k => zap k i (zmj (kN s)) [a, b] 2 2 s a b m) r := by
    intro r f1 f2 f3
    refine Ev.step (fun k => by simp only [zap]; rfl) (zao (by decide) ?_)
    by_cases h1 : isIn s
    · refine zad h1 (ziy ?_)
      rw [zk8, f1 h1]
      rfl
    refine zao h1 ?_
    by_cases h2 : zgu s
    · refine zad h2 (ziy ?_)
      simp only [zhz, zk8, Option.bind_some]
      rw [f2 h2]
    refine zao h2 (ziy ?_)
    rw [← f3 h1 h2]
    split <;> rfl
  have one : ∀ r : Bool, ((if 1 < zmj (kN s) then decide (0 ≤ b ∧ b ≤ (i : Int) - 1) else decide (b = 0)) = false → r = false) → ((if 1 < zmj (kN s) then decide (0 ≤ b ∧ b ≤ (i : Int) - 1) else decide (b = 0)) = true → Ev (fun k => zap k i (zmj (kN s)) [a, b] 2 2 s a b m) r) → Ev (fun k => zap k i (zmj (kN s)) [a, b] 2 1 s a b m) r := by
    intro r f1 f2
    refine Ev.step (fun k => by simp only [zap, r1, e1, zk8, Option.bind_some, show wrap64 (1 + 1) = 2 from w64 (by decide) (by decide)]; rfl) (zad (by decide) (zad (by decide) (zad (by simp) ?_)))
    by_cases h : 1 < zmj (kN s)
    · rw [if_pos h] at f1 f2
      refine zad h ?_
      by_cases q : 0 ≤ b ∧ b ≤ (i : Int) - 1
      · exact zad (by simpa using q) (zao (by omega) (f2 (by simpa using q)))
      · exact zao (by simpa using q) (Ev.some (f1 (by simpa using q)).symm)
    · rw [if_neg h] at f1 f2
      refine zao h (zad (by omega) ?_)
      by_cases q : b = 0
      · exact zad q (f2 (by simpa using q))
      · exact zao q (Ev.some (f1 (by simpa using q)).symm)
  have zero : ∀ r : Bool, ((if 0 < zmj (kN s) then decide (0 ≤ a ∧ a ≤ (i : Int) - 1) else decide (a = 0)) = false → r = false) → ((if 0 < zmj (kN s) then decide (0 ≤ a ∧ a ≤ (i : Int) - 1) else decide (a = 0)) = true → Ev (fun k => zap k i (zmj (kN s)) [a, b] 2 1 s a b m) r) → Ev (fun k => zap k i (zmj (kN s)) [a, b] 2 0 s a b m) r := by
    intro r f1 f2
    refine Ev.step (fun k => by simp only [zap, r0, e1, zk8, Option.bind_some, show wrap64 (0 + 1) = 1 from w64 (by decide) (by decide)]; rfl) (zad (by decide) (zad (by decide) (zad (by simp) ?_)))
    by_cases h : 0 < zmj (kN s)
    · rw [if_pos h] at f1 f2
      refine zad h ?_
      by_cases q : 0 ≤ a ∧ a ≤ (i : Int) - 1
      · exact zad (by simpa using q) (zao (by omega) (f2 (by simpa using q)))
      · exact zao (by simpa using q) (Ev.some (f1 (by simpa using q)).symm)
    · rw [if_neg h] at f1 f2
      refine zao h (zad (by omega) ?_)
      by_cases q : a = 0
      · exact zad q (f2 (by simpa using q))
      · exact zao q (Ev.some (f1 (by simpa using q)).symm)
  show Ev (fun k => zap k i (zmj (kN s)) [a, b] 2 0 s a b m) _
  have hin : isIn s ↔ kN s = 0 := by
    unfold kN
    by_cases h : isIn s
    · simp [h]
    · simp only [h, if_false, false_iff]
      repeat' split
      all_goals decide
  have hco : ¬ isIn s → (zgu s ↔ kN s = 1) := fun h0 => by
    unfold kN
    by_cases h : zgu s
    · simp [h, h0]
    · simp only [h, h0, if_false, false_iff]
      repeat' split
      all_goals decide
  have hdis : zgu s → ¬ isIn s := fun h e => by unfold zgu at h; unfold isIn at e; rw [h] at e; revert e; decide
  refine zero _ (fun q => ?_) (fun q0 => one _ (fun q => ?_) (fun q1 => fin _ (fun h => ?_) (fun h => ?_) (fun h h' => ?_)))
  · rcases zz5 s with c | c | c | c | c <;> rw [c] at q ⊢ <;> simp [zmj, okNd] at q ⊢ <;> omega
  · rcases zz5 s with c | c | c | c | c <;> rw [c] at q ⊢ <;> simp [zmj, okNd] at q ⊢ <;> omega
  · have c := hin.1 h
    rw [c] at q0 q1 ⊢
    simp [zmj] at q0 q1
    simp [okNd, q0, q1]
  · have c := (hco (hdis h)).1 h
    rw [c] at q0 q1 ⊢
    simp [zmj] at q0 q1
    simp [okNd, q0, q1]
  · rcases zz5 s with c | c | c | c | c
    · exact absurd (hin.2 c) h
    · exact absurd ((hco h).2 c) h'
    · rw [c] at q0 q1 ⊢
      simp [zmj] at q0 q1
      simp [okNd, zmj, q0, q1]
      rw [Bool.eq_iff_iff]
      simp
    · rw [c] at q0 q1 ⊢
      simp [zmj] at q0 q1
      simp [okNd, zmj, q0, q1]
      rw [Bool.eq_iff_iff]
      simp
    · rw [c]
      simp [okNd, zmj]
def okNs : Nat → List Node → Bool
  | _, [] => true
  | i, x :: xs => okNx x i && okNs (i + 1) xs
theorem zpc : ∀ (xs : List Node) (i j : Nat) (h : j < xs.length), okNs i xs = true → okNx xs[j] ((i + j : Nat) : Int) = true
  | [], _, _, h, _ => absurd h (by simp)
  | x :: xs, i, 0, _, ho => by
    simp only [okNs, Bool.and_eq_true] at ho
    exact ho.1
  | x :: xs, i, j + 1, h, ho => by
    simp only [okNs, Bool.and_eq_true] at ho
    have := zpc xs (i + 1) j (by simpa using h) ho.2
    rw [show i + 1 + j = i + (j + 1) by omega] at this
    exact this
def incr (u : List Int) (p : Int) : List Int := u.set p.toNat (wrap64 (rd u p + 1))
def zz8 (u : List Int) (x : Node) : List Int := (zum (kN x.f0) x.f1 x.f2).foldl incr u
def zvf (l : List Node) : List Int := l.foldl zz8 (List.replicate l.length 0)
theorem zyb (u : List Int) (p : Int) : (incr u p).length = u.length := List.length_set
theorem znk (ps : List Int) : ∀ u, (ps.foldl incr u).length = u.length := by
  induction ps with
  | nil => exact fun u => rfl
  | cons p ps ih => exact fun u => (ih _).trans (zyb u p)
theorem zz9 (u : List Int) (x : Node) : (zz8 u x).length = u.length := znk _ u
theorem ztn (l : List Node) : ∀ u, (l.foldl zz8 u).length = u.length := by
  induction l with
  | nil => exact fun u => rfl
  | cons x l ih => exact fun u => (ih _).trans (zz9 u x)
theorem zqx (l : List Node) : (zvf l).length = l.length := by
  unfold zvf
  rw [ztn, List.length_replicate]
theorem zyc {x : Node} {i : Int} (h : okNx x i = true) : (zum (kN x.f0) x.f1 x.f2).length ≤ 2 ∧ ∀ p ∈ zum (kN x.f0) x.f1 x.f2, 0 ≤ p ∧ p ≤ i - 1 := by
  unfold okNx at h
  rcases zz5 x.f0 with c | c | c | c | c <;> rw [c] at h ⊢ <;> simp [okNd] at h <;> simp [zum] <;> omega
theorem zwb (L0 : Nat → List Int → Int → Option (List Int)) (L1 : Nat → List Int → Int → List Int → Int → Int → Option (List Int)) (i : Nat) (n : Nat) (r : List Int)
    (h0 : ∀ k u ps j, L1 (k + 1) u i ps (ps.length : Nat) (j : Nat) = if (j : Int) < (ps.length : Nat) then (if (0 : Int) ≤ (j : Nat) then (if ((j : Nat) : Int) < (ps.length : Nat) then (if 0 ≤ rd ps (j : Nat) then (if rd ps (j : Nat) < (u.length : Int) then L1 k (u.set (rd ps (j : Nat) : Int).toNat (wrap64 (rd u (rd ps (j : Nat)) + 1))) i ps (ps.length : Nat) (wrap64 ((j : Nat) + 1)) else none) else none) else none) else none) else L0 k u (wrap64 ((i : Nat) + 1)))
    (ps : List Int) (hps : ps.length ≤ 2) (hp : ∀ p ∈ ps, 0 ≤ p ∧ p < n) (u : List Int) (hu : u.length = n) (hi : i ≤ 1048576) (H : Ev (fun k => L0 k (ps.foldl incr u) ((i + 1 : Nat) : Int)) r) : Ev (fun k => L1 k u i ps ps.length 0) r := by
  have key : ∀ (d j : Nat) (u : List Int), u.length = n → j + d = ps.length → Ev (fun k => L0 k ((ps.drop j).foldl incr u) ((i + 1 : Nat) : Int)) r → Ev (fun k => L1 k u i ps ps.length (j : Nat)) r := by
    intro d
    induction d with
    | zero =>
      intro j u hu hj H
      refine Ev.step (fun k => h0 k u ps j) (zao (by omega) ?_)
      rw [w64n i (by omega)]
      rw [List.drop_of_length_le (by omega)] at H
      exact H
    | succ d ih =>
      intro j u hu hj H
      have hlt : j < ps.length := by omega
      have e : ps.drop j = ps[j] :: ps.drop (j + 1) := List.drop_eq_getElem_cons hlt
      have hx := zlg (zcj ps j hlt)
      have hb := hp ps[j] (List.getElem_mem hlt)
      refine Ev.step (fun k => h0 k u ps j) (zad (by omega) (zad (by omega) (zad (by omega) (zad (by rw [hx]; exact hb.1) (zad (by rw [hx]; omega) ?_)))))
      rw [hx, w64n j (by omega)]
      rw [e] at H
      exact ih (j + 1) (incr u ps[j]) (by rw [zyb]; exact hu) (by omega) H
  exact key ps.length 0 u hu (by omega) H
theorem ydo (l : List Node) (h : okNs 0 l = true) (hl : l.length ≤ 1000) : Ev (fun k => zio k l) (zvf l) := by
  unfold zio
  refine zad (by omega) (zad (by simp; omega) ?_)
  have key : ∀ (d i : Nat) (u : List Int), u.length = l.length → i + d = l.length → Ev (fun k => zev k u l l.length i) ((l.drop i).foldl zz8 u) := by
    intro d
    induction d with
    | zero =>
      intro i u hu hi
      refine Ev.step (f := fun _ => some u) (fun k => ?_) (Ev.some ?_)
      · simp only [zev]
        rw [if_neg (by omega)]
      · rw [List.drop_of_length_le (by omega)]
        rfl
    | succ d ih =>
      intro i u hu hi
      have hlt : i < l.length := by omega
      have e : l.drop i = l[i] :: l.drop (i + 1) := List.drop_eq_getElem_cons hlt
      have hx := zul (zcj l i hlt)
      have ok := zpc l 0 i hlt h
      rw [Nat.zero_add] at ok
      obtain ⟨p1, p2⟩ := zyc ok
      rw [e]
      refine Ev.step (fun k => by simp only [zev, hx]; rfl) (zad (by omega) (zad (by omega) (zad (by omega) (Ev.bind (of_ev l[i]) ?_))))
      exact zwb (fun k u j => zev k u l l.length j) (fun k u i ps n j => zfp k u l l.length i ps n j) i l.length _ (fun k u ps j => by simp only [zfp]) _ p1 (fun p hp => by have := p2 p hp; omega) u hu (by omega) (ih (i + 1) _ (by rw [znk]; exact hu) (by omega))
  simpa [zvf] using key l.length 0 (List.replicate l.length 0) (by simp) (by omega)
theorem yaa (l : List Node) (h : okNs 0 l = true) (hl : l.length ≤ 1000) : Ev (fun k => zhd k l) (zvf l) := by
  unfold zhd
  refine zad (by omega) (zad (by simp; omega) ?_)
  have key : ∀ (d i : Nat) (u : List Int), u.length = l.length → i + d = l.length → Ev (fun k => zdm k u l l.length i) ((l.drop i).foldl zz8 u) := by
    intro d
    induction d with
    | zero =>
      intro i u hu hi
      refine Ev.step (f := fun _ => some u) (fun k => ?_) (Ev.some ?_)
      · simp only [zdm]
        rw [if_neg (by omega)]
      · rw [List.drop_of_length_le (by omega)]
        rfl
    | succ d ih =>
      intro i u hu hi
      have hlt : i < l.length := by omega
      have e : l.drop i = l[i] :: l.drop (i + 1) := List.drop_eq_getElem_cons hlt
      have hx := zul (zcj l i hlt)
      have ok := zpc l 0 i hlt h
      rw [Nat.zero_add] at ok
      obtain ⟨p1, p2⟩ := zyc ok
      rw [e]
      refine Ev.step (fun k => by simp only [zdm, hx]; rfl) (zad (by omega) (zad (by omega) (zad (by omega) (Ev.bind (zy8 l[i]) ?_))))
      exact zwb (fun k u j => zdm k u l l.length j) (fun k u i ps n j => zej k u l l.length i ps n j) i l.length _ (fun k u ps j => by simp only [zej]) _ p1 (fun p hp => by have := p2 p hp; omega) u hu (by omega) (ih (i + 1) _ (by rw [znk]; exact hu) (by omega))
  simpa [zvf] using key l.length 0 (List.replicate l.length 0) (by simp) (by omega)
def zpr (l : List Node) : Bool := decide (1 ≤ l.length ∧ l.length ≤ 24) && (okNs 0 l && !decide ((0 : Int) ∈ (zvf l).take (l.length - 1)))
theorem yab (l : List Node) : Ev (fun k => zg2 k l) (zpr l) := by
  unfold zg2 zpr
  refine Ev.call (zk8 _ _ _) ?_
  by_cases hl : 1 ≤ l.length ∧ l.length ≤ 24
  · rw [decide_eq_true hl, Bool.true_and]
    refine zad (by simp; omega) ?_
    have key : ∀ (d i : Nat), i + d = l.length → (okNs 0 l = true → okNs i (l.drop i) = true) → (okNs 0 l = false → okNs i (l.drop i) = false) → Ev (fun k => zdw k l l l.length i) (okNs 0 l && !decide ((0 : Int) ∈ (zvf l).take (l.length - 1))) := by
      intro d
      induction d with
      | zero =>
        intro i hi _ hf
        have ok : okNs 0 l = true := by
          cases h : okNs 0 l
          · have := hf h
            rw [List.drop_of_length_le (by omega)] at this
            cases this
          · rfl
        rw [ok, Bool.true_and]
        refine Ev.step (fun k => by simp only [zdw]; rfl) (zao (by omega) (Ev.bind (ydo l ok (by omega)) ?_))
        have e1 : wrap64 ((l.length : Int) - 1) = ((l.length - 1 : Nat) : Int) := by rw [w64 (by omega) (by omega)]; omega
        rw [e1]
        refine zad (by omega) (zad (by rw [zqx]; omega) ?_)
        rw [Int.toNat_natCast]
        exact Ev.bind (zo6 _ 0 (by rw [List.length_take, zqx]; omega)) (Ev.now _)
      | succ d ih =>
        intro i hi ht hf
        have hlt : i < l.length := by omega
        have e : l.drop i = l[i] :: l.drop (i + 1) := List.drop_eq_getElem_cons hlt
        have hx := zul (zcj l i hlt)
        rw [e] at ht hf
        simp only [okNs] at ht hf
        refine Ev.step (fun k => by simp only [zdw, hx]; rfl) (zad (by omega) (zad (by omega) (zad (by omega) (Ev.bind (zz7 l[i] i (by omega)) ?_))))
        cases h : okNx l[i] i
        · refine zao (by decide) (Ev.some ?_)
          rw [h] at ht
          cases h0 : okNs 0 l
          · rfl
          · exact absurd (ht h0) (by simp)
        · rw [h] at ht hf
          refine zad rfl ?_
          rw [w64n i (by omega)]
          exact ih (i + 1) (by omega) (by simpa using ht) (by simpa using hf)
    simpa using key l.length 0 (by omega) (fun h => h) (fun h => h)
  · rw [decide_eq_false hl, Bool.false_and]
    exact zao (by simp; omega) (Ev.now _)
theorem yac (l : List Node) : Ev (fun k => zhe k l) (zpr l) := by
  unfold zhe zpr
  refine Ev.call (zo4 _ _ _) ?_
  by_cases hl : 1 ≤ l.length ∧ l.length ≤ 24
  · rw [decide_eq_true hl, Bool.true_and]
    refine zad (by simp; omega) ?_
    have key : ∀ (d i : Nat), i + d = l.length → (okNs 0 l = true → okNs i (l.drop i) = true) → (okNs 0 l = false → okNs i (l.drop i) = false) → Ev (fun k => zd0 k l l l.length i) (okNs 0 l && !decide ((0 : Int) ∈ (zvf l).take (l.length - 1))) := by
      intro d
      induction d with
      | zero =>
        intro i hi _ hf
        have ok : okNs 0 l = true := by
          cases h : okNs 0 l
          · have := hf h
            rw [List.drop_of_length_le (by omega)] at this
            cases this
          · rfl
        rw [ok, Bool.true_and]
        refine Ev.step (fun k => by simp only [zd0]; rfl) (zao (by omega) (Ev.bind (yaa l ok (by omega)) ?_))
        have e1 : wrap64 ((l.length : Int) - 1) = ((l.length - 1 : Nat) : Int) := by rw [w64 (by omega) (by omega)]; omega
        rw [e1]
        refine zad (by omega) (zad (by rw [zqx]; omega) ?_)
        rw [Int.toNat_natCast]
        exact Ev.bind (zvd _ 0 (by rw [List.length_take, zqx]; omega)) (Ev.now _)
      | succ d ih =>
        intro i hi ht hf
        have hlt : i < l.length := by omega
        have e : l.drop i = l[i] :: l.drop (i + 1) := List.drop_eq_getElem_cons hlt
        have hx := zul (zcj l i hlt)
        rw [e] at ht hf
        simp only [okNs] at ht hf
        refine Ev.step (fun k => by simp only [zd0, hx]; rfl) (zad (by omega) (zad (by omega) (zad (by omega) (Ev.bind (zz6 l[i] i (by omega)) ?_))))
        cases h : okNx l[i] i
        · refine zao (by decide) (Ev.some ?_)
          rw [h] at ht
          cases h0 : okNs 0 l
          · rfl
          · exact absurd (ht h0) (by simp)
        · rw [h] at ht hf
          refine zad rfl ?_
          rw [w64n i (by omega)]
          exact ih (i + 1) (by omega) (by simpa using ht) (by simpa using hf)
    simpa using key l.length 0 (by omega) (fun h => h) (fun h => h)
  · rw [decide_eq_false hl, Bool.false_and]
    exact zao (by simp; omega) (Ev.now _)
theorem zto {l : List Node} (h : zpr l = true) : (1 ≤ l.length ∧ l.length ≤ 24) ∧ okNs 0 l = true := by
  unfold zpr at h
  simp only [Bool.and_eq_true, decide_eq_true_eq] at h
  exact ⟨h.1, h.2.1⟩
theorem zvg (c : List Int) (a b : Int) (hc : c.length ≤ 1048576) : Ev (fun k => zhf k c a b) (c.all (fun n => decide (a ≤ n ∧ n ≤ b))) := by
  unfold zhf
  refine yfi c _ (fun k i => zd8 k a b c c.length i) ?_ (fun i x hi hx hp => ?_) (fun i x r hi hx hp hr => ?_)
  · refine Ev.step (f := fun _ => some true) (fun k => ?_) (Ev.now _)
    simp only [zd8]
    rw [if_neg (by omega)]
  · refine Ev.step (f := fun _ => some false) (fun k => ?_) (Ev.now _)
    simp only [zd8, zlg hx, zo4, Option.bind_some, hp]
    rw [if_pos (by omega), if_pos (by omega), if_pos (by omega), if_neg (by simp)]
  · refine Ev.step (fun k => ?_) hr
    simp only [zd8, zlg hx, zo4, Option.bind_some, hp]
    rw [if_pos (by omega), if_pos (by omega), if_pos (by omega), if_pos trivial, w64n i (by omega)]
theorem zqy (n : Nat) (Q : Nat → Bool) (fin : Bool) (L : Nat → Int → Option Bool) (hend : Ev (fun k => L k (n : Nat)) fin)
    (hno : ∀ i : Nat, i < n → Q i = false → Ev (fun k => L k (i : Nat)) false) (hyes : ∀ (i : Nat) r, i < n → Q i = true → Ev (fun k => L k ((i + 1 : Nat) : Int)) r → Ev (fun k => L k (i : Nat)) r) : Ev (fun k => L k 0) ((List.range n).all Q && fin) := by
  have key : ∀ (d i : Nat), i + d = n → Ev (fun k => L k (i : Nat)) ((List.range' i d).all Q && fin) := by
    intro d
    induction d with
    | zero =>
      intro i hi
      have e : i = n := by omega
      subst e
      simpa using hend
    | succ d ih =>
      intro i hi
      rw [List.range'_succ, List.all_cons]
      cases h : Q i
      · simpa using hno i (by omega) h
      · simpa using hyes i _ (by omega) h (ih (i + 1) (by omega))
  rw [List.range_eq_range']
  exact key n 0 (by omega)
theorem yb2 {α : Type} (xs : List α) (p : α → Bool) (fin : Bool) (L : Nat → Int → Option Bool) (hend : Ev (fun k => L k (xs.length : Nat)) fin)
    (hno : ∀ (i : Nat) x, i < xs.length → (∀ d, xs.getD i d = x) → p x = false → Ev (fun k => L k i) false)
    (hyes : ∀ (i : Nat) x r, i < xs.length → (∀ d, xs.getD i d = x) → p x = true → Ev (fun k => L k ((i + 1 : Nat) : Int)) r → Ev (fun k => L k i) r) : Ev (fun k => L k 0) (xs.all p && fin) := by
  refine zk7 (σ := Unit) xs (fun k _ i => L k i) (fun l _ => l.all p && fin) (fun _ => by simpa using hend) (fun i _ x rest hi hx ih => ?_) ()
  cases h : p x
  · exact zku (hno i x hi hx h) (by simp [h])
  · exact hyes i x _ hi hx h (zku (ih ()) (by simp [h]))
theorem znc {α β : Type} (xs : List α) (g : α → List β) (N : Nat) (L : Nat → List β → Int → Option (List β)) (T : List β)
    (hend : ∀ s, (s ++ T).length ≤ N → Ev (fun k => L k s (xs.length : Nat)) (s ++ T))
    (hstep : ∀ (i : Nat) s x U, i < xs.length → (∀ d, xs.getD i d = x) → (s ++ (g x ++ U)).length ≤ N → (∀ s', (s' ++ U).length ≤ N → Ev (fun k => L k s' ((i + 1 : Nat) : Int)) (s' ++ U)) → Ev (fun k => L k s (i : Nat)) (s ++ (g x ++ U)))
    (s : List β) (hs : (s ++ (xs.flatMap g ++ T)).length ≤ N) : Ev (fun k => L k s 0) (s ++ (xs.flatMap g ++ T)) := by
  have key : ∀ (d i : Nat), i + d = xs.length → ∀ s, (s ++ ((xs.drop i).flatMap g ++ T)).length ≤ N → Ev (fun k => L k s (i : Nat)) (s ++ ((xs.drop i).flatMap g ++ T)) := by
    intro d
    induction d with
    | zero =>
      intro i hi s hs
      have e : i = xs.length := by omega
      subst e
      rw [List.drop_of_length_le (Nat.le_refl _), List.flatMap_nil, List.nil_append] at hs ⊢
      exact hend s hs
    | succ d ih =>
      intro i hi s hs
      have hlt : i < xs.length := by omega
      have e : xs.drop i = xs[i] :: xs.drop (i + 1) := List.drop_eq_getElem_cons hlt
      rw [e, List.flatMap_cons, List.append_assoc] at hs ⊢
      exact hstep i s xs[i] _ hlt (zcj xs i hlt) hs (ih (i + 1) (by omega))
  have := key xs.length 0 (by omega) s (by simpa using hs)
  simpa using this
def immC (c : Nat) : Bool := match c with | 0 => true | 5 => true | 6 => true | 7 => true | _ => false
def imm7 : List ByteArray := [⟨#[115, 101, 116]⟩, ⟨#[97, 100, 100, 105]⟩, ⟨#[97, 110, 100, 105]⟩, ⟨#[120, 111, 114, 105]⟩, ⟨#[115, 104, 108, 105]⟩, ⟨#[115, 104, 114, 105]⟩, ⟨#[108, 101, 97]⟩]
theorem zy9 : ∀ p ∈ ops, hasS imm7 p.1 = immC p.2 := by decide +kernel
theorem yb3 : ∀ t ∈ imm7, (ops.any fun p => decide (t = p.1)) = true := by decide +kernel
theorem yfj (s : ByteArray) : hasS imm7 s = immC (cls s) := by
  refine zs4 (P := fun s => hasS imm7 s = immC (cls s)) s (fun p hp => by rw [zy9 p hp, zzs p hp]) (fun h => ?_)
  rw [zs5 h, Bool.eq_iff_iff, zya]
  constructor
  · intro hm
    have := yb3 s hm
    rw [List.any_eq_true] at this
    obtain ⟨p, hp, he⟩ := this
    exact absurd (of_decide_eq_true he) (h p hp)
  · intro h
    cases h
theorem zvh (s : ByteArray) : Ev (fun k => zg6 k s) (immC (cls s)) := by
  unfold zg6
  rw [← yfj]
  exact Ev.bind (zqw imm7 s (by decide)) (Ev.now _)
def inB (c : Nat) (m : Int) : Bool := decide ((zgl c).2.2.2.1 ≤ m ∧ m ≤ (zgl c).2.2.2.2)
def inW (m : Int) : Bool := decide (0 ≤ m ∧ m ≤ 63)
theorem ydp (c : Nat) (s : ByteArray) (h : c ≤ 8) : (zgm c s).1 = (zgl c).2.1 := by
  rcases (show c = 0 ∨ c = 1 ∨ c = 2 ∨ c = 3 ∨ c = 4 ∨ c = 5 ∨ c = 6 ∨ c = 7 ∨ c = 8 by omega) with h | h | h | h | h | h | h | h | h <;> subst h <;> rfl
theorem ydq (c : Nat) (s : ByteArray) (h : c ≤ 8) : (zgm c s).2.1 = (zgl c).2.2.1 := by
  rcases (show c = 0 ∨ c = 1 ∨ c = 2 ∨ c = 3 ∨ c = 4 ∨ c = 5 ∨ c = 6 ∨ c = 7 ∨ c = 8 by omega) with h | h | h | h | h | h | h | h | h <;> subst h <;> rfl
theorem ydr (c : Nat) (s : ByteArray) (h : c ≤ 8) : (zgm c s).2.2.2.2.2.2 = decide (c ≠ 8) := by
  rcases (show c = 0 ∨ c = 1 ∨ c = 2 ∨ c = 3 ∨ c = 4 ∨ c = 5 ∨ c = 6 ∨ c = 7 ∨ c = 8 by omega) with h | h | h | h | h | h | h | h | h <;> subst h <;> rfl
theorem zyd (c : Nat) (h : c ≤ 8) : (zgl c).1 = decide (c ≠ 8) := by
  rcases (show c = 0 ∨ c = 1 ∨ c = 2 ∨ c = 3 ∨ c = 4 ∨ c = 5 ∨ c = 6 ∨ c = 7 ∨ c = 8 by omega) with h | h | h | h | h | h | h | h | h <;> subst h <;> rfl
theorem zvi (c : Nat) (s : ByteArray) (h : c ≤ 8) (h8 : c ≠ 8) : decide ((zgm c s).2.2.1 ≤ (zgm c s).2.2.2.1) = immC c := by
  rcases (show c = 0 ∨ c = 1 ∨ c = 2 ∨ c = 3 ∨ c = 4 ∨ c = 5 ∨ c = 6 ∨ c = 7 ∨ c = 8 by omega) with h | h | h | h | h | h | h | h | h <;> subst h <;> first | rfl | exact absurd rfl h8
theorem yad (c : Nat) (s : ByteArray) (h : c ≤ 8) (h8 : immC c = true) (m : Int) : decide ((zgm c s).2.2.1 ≤ m ∧ m ≤ (zgm c s).2.2.2.1) = inB c m := by
  rcases (show c = 0 ∨ c = 1 ∨ c = 2 ∨ c = 3 ∨ c = 4 ∨ c = 5 ∨ c = 6 ∨ c = 7 ∨ c = 8 by omega) with h | h | h | h | h | h | h | h | h <;> subst h <;> first | rfl | cases h8
def okOp (ims : List Int) (s : ByteArray) : Bool := decide (cls s ≠ 8) && (!immC (cls s) || ims.all (inB (cls s)))
def difS (l : List ByteArray) : Bool := (List.range l.length).all fun i => !hasS (l.take i) (l.getD i ByteArray.empty)
def difI (l : List Int) : Bool := (List.range l.length).all fun i => !decide (l.getD i 0 ∈ l.take i)
def zf7 (os : List ByteArray) (ims : List Int) : Bool := decide (1 ≤ os.length ∧ os.length ≤ 4) && (decide (ims.length ≤ 2) && (ims.all inW && (difS os && (difI ims && (List.range os.length).all fun i => okOp ims (os.getD i ByteArray.empty)))))
theorem yds (l : List ByteArray) (hl : l.length ≤ 1048576) : Ev (fun k => zbz k l) (difS l) := by
  unfold zbz difS
  refine zku (zqy l.length _ true (fun k i => zaq k l l l.length i) ?_ (fun i hi hq => ?_) (fun i r hi hq hr => ?_)) (Bool.and_true _)
  · refine Ev.step (f := fun _ => some true) (fun k => ?_) (Ev.now _)
    simp only [zaq]
    rw [if_neg (by omega)]
  · refine Ev.step (fun k => by simp only [zaq, zlh (d0 := ByteArray.empty) (fun d => (zcj l i hi d).trans (zcj l i hi ByteArray.empty).symm), Int.toNat_natCast]; rfl) (zad (by omega) (zad (by omega) (zad (by omega) (zad (by omega) ?_))))
    exact Ev.bind (zo5 _ _ (by rw [List.length_take]; omega)) (zad (by simpa using hq) (Ev.now _))
  · refine Ev.step (fun k => by simp only [zaq, zlh (d0 := ByteArray.empty) (fun d => (zcj l i hi d).trans (zcj l i hi ByteArray.empty).symm), Int.toNat_natCast]; rfl) (zad (by omega) (zad (by omega) (zad (by omega) (zad (by omega) ?_))))
    refine Ev.bind (zo5 _ _ (by rw [List.length_take]; omega)) (zao (by simpa using hq) ?_)
    rw [w64n i (by omega)]
    exact hr
theorem ydt (l : List Int) (hl : l.length ≤ 1048576) : Ev (fun k => zch k l) (difI l) := by
  unfold zch difI
  refine zku (zqy l.length _ true (fun k i => zay k l l l.length i) ?_ (fun i hi hq => ?_) (fun i r hi hq hr => ?_)) (Bool.and_true _)
  · refine Ev.step (f := fun _ => some true) (fun k => ?_) (Ev.now _)
    simp only [zay]
    rw [if_neg (by omega)]
  · refine Ev.step (fun k => by simp only [zay, zlg (fun d => (zcj l i hi d).trans (zcj l i hi 0).symm), Int.toNat_natCast]; rfl) (zad (by omega) (zad (by omega) (zad (by omega) (zad (by omega) ?_))))
    exact Ev.bind (zo6 _ _ (by rw [List.length_take]; omega)) (zad (by simpa using hq) (Ev.now _))
  · refine Ev.step (fun k => by simp only [zay, zlg (fun d => (zcj l i hi d).trans (zcj l i hi 0).symm), Int.toNat_natCast]; rfl) (zad (by omega) (zad (by omega) (zad (by omega) (zad (by omega) ?_))))
    refine Ev.bind (zo6 _ _ (by rw [List.length_take]; omega)) (zao (by simpa using hq) ?_)
    rw [w64n i (by omega)]
    exact hr
def opI (ims : List Int) (s : ByteArray) : Bool := decide (cls s ≠ 8) && ims.all fun m => inW m && (!immC (cls s) || inB (cls s) m)
theorem zxd (os : List ByteArray) (ims : List Int) (ho : os.length ≤ 4) (hi : ims.length ≤ 1048576) : Ev (fun k => zb4 k os os.length 0 os ims) ((List.range os.length).all fun i => opI ims (os.getD i ByteArray.empty)) := by
  have inner : ∀ (i : Nat) (s : ByteArray) r, i < os.length → cls s ≠ 8 → Ev (fun k => zb4 k os os.length ((i + 1 : Nat) : Int) os ims) r → Ev (fun k => zbv k os os.length i ims ims.length 0 os ims (zgm (cls s) s).1 (zgm (cls s) s).2.1 (zgm (cls s) s).2.2.1 (zgm (cls s) s).2.2.2.1 (zgm (cls s) s).2.2.2.2.1 (zgm (cls s) s).2.2.2.2.2.1) ((ims.all fun m => inW m && (!immC (cls s) || inB (cls s) m)) && r) := by
    intro i s r hlt h8 hr
    have hc := zuk s
    refine yb2 ims _ r (fun k j => zbv k os os.length i ims ims.length j os ims (zgm (cls s) s).1 (zgm (cls s) s).2.1 (zgm (cls s) s).2.2.1 (zgm (cls s) s).2.2.2.1 (zgm (cls s) s).2.2.2.2.1 (zgm (cls s) s).2.2.2.2.2.1) ?_ (fun j x hj hx hp => ?_) (fun j x r' hj hx hp hr' => ?_)
    · refine Ev.step (fun k => ?_) hr
      simp only [zbv]
      rw [if_neg (by omega), w64n i (by omega)]
    · refine Ev.step (fun k => by simp only [zbv, zlg hx, zhz, zk8, zgp, Option.bind_some, zvi _ s hc h8]; rfl) (zad (by omega) (zad (by omega) (zad (by omega) ?_)))
      by_cases q : 0 ≤ x ∧ x ≤ 63
      · refine zad (by simpa using q) ?_
        cases hm : immC (cls s)
        · simp [inW, hm, q] at hp
        · refine zad rfl (zao ?_ (Ev.now _))
          rw [yad _ s hc hm]
          simpa [inW, hm, q] using hp
      · exact zao (by simpa using q) (Ev.now _)
    · refine Ev.step (fun k => by simp only [zbv, zlg hx, zhz, zk8, zgp, Option.bind_some, zvi _ s hc h8]; rfl) (zad (by omega) (zad (by omega) (zad (by omega) ?_)))
      simp only [Bool.and_eq_true] at hp
      refine zad hp.1 ?_
      rw [w64n j (by omega)]
      cases hm : immC (cls s)
      · exact zao (by simp) hr'
      · refine zad rfl (zad ?_ hr')
        rw [yad _ s hc hm]
        simpa [hm] using hp.2
  have main : ∀ (d i : Nat), i + d = os.length → Ev (fun k => zb4 k os os.length (i : Nat) os ims) ((List.range' i d).all fun i => opI ims (os.getD i ByteArray.empty)) := by
    intro d
    induction d with
    | zero =>
      intro i hi
      refine Ev.step (f := fun _ => some true) (fun k => ?_) (Ev.some rfl)
      simp only [zb4]
      rw [if_neg (by omega)]
    | succ d ih =>
      intro i hi
      have hlt : i < os.length := by omega
      have hx : rdOf ByteArray.empty os i = os.getD i ByteArray.empty := zlh (fun d => (zcj os i hlt d).trans (zcj os i hlt ByteArray.empty).symm)
      rw [List.range'_succ, List.all_cons]
      obtain ⟨s, es⟩ : ∃ s, s = os.getD i ByteArray.empty := ⟨_, rfl⟩
      rw [← es] at hx ⊢
      refine Ev.step (fun k => by simp only [zb4, hx, zv8, Option.bind_some, ydr _ _ (zuk _)]; rfl) (zad (by omega) (zad (by omega) (zad (by omega) ?_)))
      by_cases h8 : cls s = 8
      · refine zao (by simpa using h8) (Ev.some ?_)
        rw [show opI ims s = false by simp [opI, h8]]
        rfl
      · refine zad (by simpa using h8) (zku (inner i _ _ hlt h8 (ih (i + 1) (by omega))) ?_)
        rw [show opI ims s = ims.all fun m => inW m && (!immC (cls s) || inB (cls s) m) by simp [opI, h8]]
  rw [List.range_eq_range']
  exact main os.length 0 (by omega)
theorem yae (os : List ByteArray) (ims : List Int) (ho : 1 ≤ os.length) : ((List.range os.length).all fun i => opI ims (os.getD i ByteArray.empty)) = (ims.all inW && (List.range os.length).all fun i => okOp ims (os.getD i ByteArray.empty)) := by
  rw [Bool.eq_iff_iff]
  simp only [Bool.and_eq_true, List.all_eq_true, List.mem_range, opI, okOp, Bool.or_eq_true, Bool.not_eq_true']
  constructor
  · exact fun h => ⟨fun m hm => ((h 0 ho).2 m hm).1, fun i hi => ⟨(h i hi).1, by
      cases hc : immC (cls (os.getD i ByteArray.empty))
      · exact Or.inl rfl
      · refine Or.inr fun m hm => ?_
        have := ((h i hi).2 m hm).2
        rw [hc] at this
        exact this.resolve_left (by simp)⟩⟩
  · exact fun h i hi => ⟨(h.2 i hi).1, fun m hm => ⟨h.1 m hm, (h.2 i hi).2.imp id (fun g => g m hm)⟩⟩
theorem zxe (os : List ByteArray) (ims : List Int) (ho : os.length ≤ 1048576) (hi : ims.length ≤ 1048576) : Ev (fun k => zfo k os ims) (zf7 os ims) := by
  unfold zfo zf7
  refine Ev.call (zk8 _ _ _) ?_
  by_cases h1 : 1 ≤ os.length ∧ os.length ≤ 4
  · rw [decide_eq_true h1, Bool.true_and]
    refine zad (by simp; omega) ?_
    by_cases h2 : ims.length ≤ 2
    · rw [decide_eq_true h2, Bool.true_and]
      refine zao (by omega) (Ev.bind (yds os ho) ?_)
      cases hd : difS os
      · refine zao (by decide) (Ev.step (fun k => by simp only [zbr]; rfl) (zad (show true = true from rfl) (Ev.some ?_)))
        simp
      · refine zad rfl (Ev.bind (ydt ims hi) ?_)
        cases hd2 : difI ims
        · refine Ev.step (fun k => by simp only [zbr]; rfl) (zad (by decide) (Ev.some ?_))
          simp
        · refine Ev.step (fun k => by simp only [zbr]; rfl) (zao (by decide) ?_)
          refine zku (zxd os ims h1.2 hi) ?_
          rw [yae os ims h1.1, Bool.true_and, Bool.true_and]
    · rw [decide_eq_false h2, Bool.false_and]
      refine zad (by omega) (Ev.step (fun k => by simp only [zbr]; rfl) (zad (show true = true from rfl) (Ev.now _)))
  · rw [decide_eq_false h1, Bool.false_and]
    exact zao (by simp; omega) (Ev.step (fun k => by simp only [zbr]; rfl) (zad (show true = true from rfl) (Ev.now _)))
theorem yaf (os : List ByteArray) (ims : List Int) (ho : os.length ≤ 1048576) (hi : ims.length ≤ 1048576) : Ev (fun k => zhg k os ims) (zf7 os ims) := by
  unfold zhg zf7
  refine Ev.call (zo4 _ _ _) ?_
  by_cases h1 : 1 ≤ os.length ∧ os.length ≤ 4
  · rw [decide_eq_true h1, Bool.true_and]
    refine zad (by simp; omega) ?_
    by_cases h2 : ims.length ≤ 2
    · rw [decide_eq_true h2, Bool.true_and]
      refine zao (by omega) (Ev.bind (zvg ims 0 63 hi) ?_)
      cases hw : ims.all (fun n => decide (0 ≤ n ∧ n ≤ 63))
      · rw [show ims.all inW = false from hw]
        exact Ev.step (fun k => by simp only [zc3]; rfl) (zad (by decide) (Ev.now _))
      · rw [show ims.all inW = true from hw, Bool.true_and]
        refine Ev.step (fun k => by simp only [zc3]; rfl) (zao (by decide) ?_)
        have last : Ev (fun k => zc8 k ims ims.length 0 os ims) (difI ims) := by
          unfold difI
          refine zku (zqy ims.length _ true (fun k i => zc8 k ims ims.length i os ims) ?_ (fun i hi hq => ?_) (fun i r hi hq hr => ?_)) (Bool.and_true _)
          · refine Ev.step (f := fun _ => some true) (fun k => ?_) (Ev.now _)
            simp only [zc8]
            rw [if_neg (by omega)]
          · refine Ev.step (fun k => by simp only [zc8, zlg (fun d => (zcj ims i hi d).trans (zcj ims i hi 0).symm), Int.toNat_natCast]; rfl) (zad (by omega) (zad (by omega) (zad (by omega) (zad (by omega) ?_))))
            exact Ev.bind (zvd _ _ (by rw [List.length_take]; omega)) (zad (by simpa using hq) (Ev.now _))
          · refine Ev.step (fun k => by simp only [zc8, zlg (fun d => (zcj ims i hi d).trans (zcj ims i hi 0).symm), Int.toNat_natCast]; rfl) (zad (by omega) (zad (by omega) (zad (by omega) (zad (by omega) ?_))))
            refine Ev.bind (zvd _ _ (by rw [List.length_take]; omega)) (zao (by simpa using hq) ?_)
            rw [w64n i (by omega)]
            exact hr
        have first := zqy os.length (fun i => okOp ims (os.getD i ByteArray.empty) && !hasS (os.take i) (os.getD i ByteArray.empty)) (difI ims) (fun k i => zc7 k os os.length i os ims) (by
          refine Ev.step (fun k => ?_) last
          simp only [zc7]
          rw [if_neg (by omega)]) (fun i hlt hq => by
          have hx : rdOf ByteArray.empty os i = os.getD i ByteArray.empty := zlh (fun d => (zcj os i hlt d).trans (zcj os i hlt ByteArray.empty).symm)
          obtain ⟨s, es⟩ : ∃ s, s = os.getD i ByteArray.empty := ⟨_, rfl⟩
          rw [← es] at hx hq
          refine Ev.step (fun k => by simp only [zc7, hx, Int.toNat_natCast]; rfl) (zad (by omega) (zad (by omega) (zad (by omega) (Ev.bind (zvc _) ?_))))
          rw [zyd _ (zuk _)]
          by_cases h8 : cls s = 8
          · exact zao (by simpa using h8) (Ev.now _)
          refine zad (by simpa using h8) (zad (by omega) (Ev.bind (zqw _ _ (by rw [List.length_take]; omega)) ?_))
          cases hh : hasS (os.take i) s
          · refine zao (by decide) (Ev.bind (zvh _) ?_)
            rw [hh] at hq
            cases hm : immC (cls s)
            · simp [okOp, h8, hm] at hq
            · refine zad rfl (Ev.bind (zvg ims _ _ hi) (zao ?_ (Ev.now _)))
              simpa [okOp, h8, hm, inB] using hq
          · exact zad rfl (Ev.now _)) (fun i r hlt hq hr => by
          have hx : rdOf ByteArray.empty os i = os.getD i ByteArray.empty := zlh (fun d => (zcj os i hlt d).trans (zcj os i hlt ByteArray.empty).symm)
          obtain ⟨s, es⟩ : ∃ s, s = os.getD i ByteArray.empty := ⟨_, rfl⟩
          rw [← es] at hx hq
          simp only [okOp, Bool.and_eq_true, decide_eq_true_eq, Bool.not_eq_true', Bool.or_eq_true] at hq
          refine Ev.step (fun k => by simp only [zc7, hx, Int.toNat_natCast]; rfl) (zad (by omega) (zad (by omega) (zad (by omega) (Ev.bind (zvc _) ?_))))
          rw [zyd _ (zuk _)]
          refine zad (by simpa using hq.1.1) (zad (by omega) (Ev.bind (zqw _ _ (by rw [List.length_take]; omega)) ?_))
          refine zao (by simp [hq.2]) (Ev.bind (zvh _) ?_)
          rw [w64n i (by omega)]
          cases hm : immC (cls s)
          · exact zao (by decide) hr
          · have := hq.1.2.resolve_left (by simp [hm])
            exact zad rfl (Ev.bind (zvg ims _ _ hi) (zad this hr)))
        refine zku first ?_
        rw [Bool.eq_iff_iff]
        simp only [difS, Bool.and_eq_true, List.all_eq_true, List.mem_range]
        exact ⟨fun h => ⟨fun i hi => (h.1 i hi).2, h.2, fun i hi => (h.1 i hi).1⟩, fun h => ⟨fun i hi => ⟨h.2.2 i hi, h.1 i hi⟩, h.2.1⟩⟩
    · rw [decide_eq_false h2, Bool.false_and]
      refine zad (by omega) (Ev.step (fun k => by simp only [zc3]; rfl) (zad (show true = true from rfl) (Ev.now _)))
  · rw [decide_eq_false h1, Bool.false_and]
    exact zao (by simp; omega) (Ev.step (fun k => by simp only [zc3]; rfl) (zad (show true = true from rfl) (Ev.now _)))
theorem zoa {α β : Type} (xs : List α) (g : α → List β) (c : Nat) (h : ∀ x ∈ xs, (g x).length ≤ c) : (xs.flatMap g).length ≤ xs.length * c := by
  induction xs with
  | nil => simp
  | cons x xs ih =>
    rw [List.flatMap_cons, List.length_append, List.length_cons]
    have a := h x (by simp)
    have b := ih (fun y hy => h y (List.mem_cons_of_mem _ hy))
    rw [Nat.succ_mul]
    omega
def zo8 (u : Bool) (n : Nat) : List Int := if u = true then zkj n 0 else [0]
def imsM (c : Nat) (ims : List Int) : List Int := if immC c = true then ims else [0]
def znl (ims : List Int) (t : Nat) (s : ByteArray) : List Instr := (zo8 (zgl (cls s)).2.1 (2 + t)).flatMap fun a => (zo8 (zgl (cls s)).2.2.1 (2 + t)).flatMap fun b => (imsM (cls s) ims).flatMap fun m => [⟨s, ((2 + t : Nat) : Int), a, b, m⟩]
def zcz (os : List ByteArray) (ims : List Int) (t : Nat) : List Instr := os.flatMap (znl ims t)
theorem zn2 (u : Bool) (n : Nat) (h : 1 ≤ n) : (zo8 u n).length ≤ n := by
  unfold zo8
  split
  · rw [zui]; exact Nat.le_refl _
  · simpa using h
theorem zxf (ims : List Int) (t : Nat) (s : ByteArray) (h : ims.length ≤ 2) (ht : t ≤ 3) : (znl ims t s).length ≤ 50 := by
  have hi : (imsM (cls s) ims).length ≤ 2 := by
    unfold imsM
    split
    · exact h
    · simp
  have a := zn2 (zgl (cls s)).2.1 (2 + t) (by omega)
  have b := zn2 (zgl (cls s)).2.2.1 (2 + t) (by omega)
  have e1 : ∀ x y : Int, ((imsM (cls s) ims).flatMap fun m => [(⟨s, ((2 + t : Nat) : Int), x, y, m⟩ : Instr)]).length ≤ 2 := fun x y => by
    have := zoa (imsM (cls s) ims) (fun m => [(⟨s, ((2 + t : Nat) : Int), x, y, m⟩ : Instr)]) 1 (by simp)
    omega
  have e2 : ∀ x : Int, ((zo8 (zgl (cls s)).2.2.1 (2 + t)).flatMap fun y => (imsM (cls s) ims).flatMap fun m => [(⟨s, ((2 + t : Nat) : Int), x, y, m⟩ : Instr)]).length ≤ 10 := fun x => by
    have := zoa (zo8 (zgl (cls s)).2.2.1 (2 + t)) (fun y => (imsM (cls s) ims).flatMap fun m => [(⟨s, ((2 + t : Nat) : Int), x, y, m⟩ : Instr)]) 2 (fun y _ => e1 x y)
    omega
  have := zoa (zo8 (zgl (cls s)).2.1 (2 + t)) _ 10 (fun x _ => e2 x)
  unfold znl
  omega
theorem zr8 (os : List ByteArray) (ims : List Int) (t : Nat) (ho : os.length ≤ 4) (h : ims.length ≤ 2) (ht : t ≤ 3) : (zcz os ims t).length ≤ 200 := by
  have := zoa os (znl ims t) 50 (fun s _ => zxf ims t s h ht)
  unfold zcz
  omega
theorem yag (u : Bool) (n : Nat) (hn : n ≤ 1048576) : Ev (fun k => zhx k u (n : Int)) (zo8 u n) := by
  have key : ∀ (d : Nat) (xs : List Int) (b : Nat), xs.length + d ≤ 1048576 → b + d = n → Ev (fun k => ze9 k xs n b) (xs ++ zkj d b) := by
    intro d
    induction d with
    | zero =>
      intro xs b h h'
      refine Ev.step (f := fun _ => some xs) (fun k => ?_) (Ev.some (by simp [zkj]))
      simp only [ze9]
      rw [if_neg (by omega)]
    | succ d ih =>
      intro xs b h h'
      refine Ev.step (fun k => ?_) (zku (ih (xs ++ [(b : Int)]) (b + 1) (by simp; omega) (by omega)) (by simp [zkj]))
      simp only [ze9]
      rw [if_pos (by omega), if_pos (by omega), w64n _ (by omega)]
  unfold zhx zo8
  cases u
  · exact zao (by decide) (Ev.now _)
  · exact zad rfl (by simpa using key n [] 0 (by simpa using hn) (by omega))
theorem zwc (u : Bool) (t : Nat) (ht : t ≤ 1000) : Ev (fun k => zf3 k u (t : Int)) (zo8 u (2 + t)) := by
  have e2 : wrap64 (2 + (t : Int)) = ((2 + t : Nat) : Int) := by rw [w64 (by omega) (by omega)]; omega
  unfold zf3 zo8
  cases u
  · refine Ev.step (f := fun _ => some [0]) (fun k => ?_) (Ev.now _)
    simp only [zdk]
    rw [if_neg (by decide)]
  have key : ∀ (d : Nat) (xs : List Int) (b : Nat), xs.length + d ≤ 1048576 → b + d = 2 + t → Ev (fun k => zdk k true (t : Int) xs b) (xs ++ zkj d b) := by
    intro d
    induction d with
    | zero =>
      intro xs b h h'
      refine Ev.step (f := fun _ => some xs) (fun k => ?_) (Ev.some (by simp [zkj]))
      simp only [zdk, e2]
      rw [if_pos trivial, if_neg (by omega)]
    | succ d ih =>
      intro xs b h h'
      refine Ev.step (fun k => ?_) (zku (ih (xs ++ [(b : Int)]) (b + 1) (by simp; omega) (by omega)) (by simp [zkj]))
      simp only [zdk, e2]
      rw [if_pos trivial, if_pos (by omega), if_pos (by omega), w64n _ (by omega)]
  have := key (1 + t) [0] 1 (by simp; omega) (by omega)
  refine zku this ?_
  rw [if_pos rfl, show 2 + t = (1 + t) + 1 by omega]
  rfl
theorem yah (os : List ByteArray) (ims : List Int) (s : ByteArray) : Ev (fun k => zg7 k os ims s) (imsM (cls s) ims) := by
  unfold zg7 imsM
  refine Ev.bind (zvh s) ?_
  cases immC (cls s)
  · exact zao (by decide) (Ev.now _)
  · exact zad rfl (Ev.now _)
theorem yb4 (os : List ByteArray) (ims : List Int) (t : Nat) (ho : os.length ≤ 4) (hi : ims.length ≤ 2) (ht : t ≤ 3) (hc : ∀ s ∈ os, cls s ≠ 8) : Ev (fun k => zgy k os ims t) (zcz os ims t) := by
  have e2 : wrap64 (2 + (t : Int)) = ((2 + t : Nat) : Int) := by rw [w64 (by omega) (by omega)]; omega
  unfold zgy zcz
  have hb := zr8 os ims t ho hi ht
  unfold zcz at hb
  refine zku (znc os (znl ims t) 200 (fun k x i => zek k t x os os.length i os ims) [] (fun s hs => ?_) (fun i x5 s U hio hx hN H => ?_) [] (by simpa using hb)) (by simp)
  · refine Ev.step (f := fun _ => some s) (fun k => ?_) (Ev.some (by simp))
    simp only [zek]
    rw [if_neg (by omega)]
  have hcl := zuk s
  have h8 := hc s (zxc hio hx)
  refine Ev.step (fun k => by simp only [zek, zlh (d0 := ByteArray.empty) hx, zv8, zgp, Option.bind_some, zvi _ s hcl h8]; rfl) (zad (by omega) (zad (by omega) (zad (by omega) ?_)))
  have body : Ev (fun k => ze2 k t x5 s (imsM (cls s) ims) os os.length i os ims (zgm (cls s) s).1 (zgm (cls s) s).2.1 (zgm (cls s) s).2.2.1 (zgm (cls s) s).2.2.2.1 (zgm (cls s) s).2.2.2.2.1 (zgm (cls s) s).2.2.2.2.2.1) (x5 ++ (znl ims t s ++ U)) := by
    have r1 := yag (zgm (cls s) s).1 (2 + t) (by omega)
    have r2 := yag (zgm (cls s) s).2.1 (2 + t) (by omega)
    have l1 := zn2 (zgm (cls s) s).1 (2 + t) (by omega)
    have l2 := zn2 (zgm (cls s) s).2.1 (2 + t) (by omega)
    have l3 : (imsM (cls s) ims).length ≤ 2 := by
      unfold imsM
      split
      · exact hi
      · simp
    unfold znl at hN ⊢
    rw [← ydp _ s hcl, ← ydq _ s hcl] at hN ⊢
    refine Ev.step (fun k => by simp only [ze2, e2]; rfl) (Ev.bind r1 ?_)
    generalize imsM (cls s) ims = M at *
    generalize zo8 (zgm (cls s) s).1 (2 + t) = A at *
    generalize zo8 (zgm (cls s) s).2.1 (2 + t) = B at *
    generalize (zgm (cls s) s) = F at *
    refine znc A _ 200 (fun k x j => zel k t x s M os os.length i A A.length j os ims F.1 F.2.1 F.2.2.1 F.2.2.2.1 F.2.2.2.2.1 F.2.2.2.2.2.1) U (fun x hs => ?_) (fun j x5 a U' hj hxa hN' H' => ?_) x5 hN
    · refine Ev.step (fun k => ?_) (H x hs)
      simp only [zel]
      rw [if_neg (by omega), w64n i (by omega)]
    refine Ev.step (fun k => by simp only [zel, zlg hxa, e2]; rfl) (zad (by omega) (zad (by omega) (zad (by omega) (Ev.bind r2 ?_))))
    refine znc B _ 200 (fun k x q => zem k t x s M a os os.length i A A.length j B B.length q os ims F.1 F.2.1 F.2.2.1 F.2.2.2.1 F.2.2.2.2.1 F.2.2.2.2.2.1) U' (fun x hs => ?_) (fun q x5 b U2 hq hxb hN2 H2 => ?_) x5 hN'
    · refine Ev.step (fun k => ?_) (H' x hs)
      simp only [zem]
      rw [if_neg (by omega), w64n j (by omega)]
    refine Ev.step (fun k => by simp only [zem, zlg hxb]; rfl) (zad (by omega) (zad (by omega) (zad (by omega) ?_)))
    refine znc M _ 200 (fun k x p => zen k t x s M a b os os.length i A A.length j B B.length q M M.length p os ims F.1 F.2.1 F.2.2.1 F.2.2.2.1 F.2.2.2.2.1 F.2.2.2.2.2.1) U2 (fun x hs => ?_) (fun p x5 m U3 hp hxm hN3 H3 => ?_) x5 hN2
    · refine Ev.step (fun k => ?_) (H2 x hs)
      simp only [zen]
      rw [if_neg (by omega), w64n q (by omega)]
    have hlen : x5.length < 2932031007402 := by
      rw [List.length_append] at hN3
      omega
    have := H3 (x5 ++ [⟨s, ((2 + t : Nat) : Int), a, b, m⟩]) (by rw [List.append_assoc]; exact hN3)
    rw [List.append_assoc] at this
    refine Ev.step (fun k => ?_) this
    simp only [zen, zlg hxm, e2]
    rw [if_pos (by omega), if_pos (by omega), if_pos (by omega), if_pos hlen, w64n p (by omega)]
  unfold imsM at body
  cases h : immC (cls s)
  · rw [h] at body
    exact zao (by decide) (by simpa using body)
  · rw [h] at body
    exact zad rfl (by simpa using body)
theorem zun (os : List ByteArray) (ims : List Int) (t : Nat) (ho : os.length ≤ 4) (hi : ims.length ≤ 2) (ht : t ≤ 3) : Ev (fun k => zfl k os ims t) (zcz os ims t) := by
  have e2 : wrap64 (2 + (t : Int)) = ((2 + t : Nat) : Int) := by rw [w64 (by omega) (by omega)]; omega
  unfold zfl zcz
  have hb := zr8 os ims t ho hi ht
  unfold zcz at hb
  refine zku (znc os (znl ims t) 200 (fun k x i => zdc k t x os os.length i os ims) [] (fun s hs => ?_) (fun i x5 s U hio hx hN H => ?_) [] (by simpa using hb)) (by simp)
  · refine Ev.step (f := fun _ => some s) (fun k => ?_) (Ev.some (by simp))
    simp only [zdc]
    rw [if_neg (by omega)]
  refine Ev.step (fun k => by simp only [zdc, zlh (d0 := ByteArray.empty) hx]; rfl) (zad (by omega) (zad (by omega) (zad (by omega) (Ev.bind (zvc s) ?_))))
  have r1 := zwc (zgl (cls s)).2.1 t (by omega)
  have r2 := zwc (zgl (cls s)).2.2.1 t (by omega)
  have r3 := yah os ims s
  have l1 := zn2 (zgl (cls s)).2.1 (2 + t) (by omega)
  have l2 := zn2 (zgl (cls s)).2.2.1 (2 + t) (by omega)
  have l3 : (imsM (cls s) ims).length ≤ 2 := by
    unfold imsM
    split
    · exact hi
    · simp
  unfold znl at hN ⊢
  refine Ev.bind r1 ?_
  generalize imsM (cls s) ims = M at *
  generalize zo8 (zgl (cls s)).2.1 (2 + t) = A at *
  generalize zo8 (zgl (cls s)).2.2.1 (2 + t) = B at *
  generalize (zgl (cls s)).2.2.1 = F at *
  refine znc A _ 200 (fun k x j => zdd k t x s F os os.length i A A.length j os ims) U (fun x hs => ?_) (fun j x5 a U' hj hxa hN' H' => ?_) x5 hN
  · refine Ev.step (fun k => ?_) (H x hs)
    simp only [zdd]
    rw [if_neg (by omega), w64n i (by omega)]
  refine Ev.step (fun k => by simp only [zdd, zlg hxa]; rfl) (zad (by omega) (zad (by omega) (zad (by omega) (Ev.bind r2 ?_))))
  refine znc B _ 200 (fun k x q => zdg k t x s F a os os.length i A A.length j B B.length q os ims) U' (fun x hs => ?_) (fun q x5 b U2 hq hxb hN2 H2 => ?_) x5 hN'
  · refine Ev.step (fun k => ?_) (H' x hs)
    simp only [zdg]
    rw [if_neg (by omega), w64n j (by omega)]
  refine Ev.step (fun k => by simp only [zdg, zlg hxb]; rfl) (zad (by omega) (zad (by omega) (zad (by omega) (Ev.bind r3 ?_))))
  refine znc M _ 200 (fun k x p => zdh k t x s F a b os os.length i A A.length j B B.length q M M.length p os ims) U2 (fun x hs => ?_) (fun p x5 m U3 hp hxm hN3 H3 => ?_) x5 hN2
  · refine Ev.step (fun k => ?_) (H2 x hs)
    simp only [zdh]
    rw [if_neg (by omega), w64n q (by omega)]
  have hlen : x5.length < 2932031007402 := by
    rw [List.length_append] at hN3
    omega
  have := H3 (x5 ++ [⟨s, ((2 + t : Nat) : Int), a, b, m⟩]) (by rw [List.append_assoc]; exact hN3)
  rw [List.append_assoc] at this
  refine Ev.step (fun k => ?_) this
  simp only [zdh, zlg hxm, e2]
  rw [if_pos (by omega), if_pos (by omega), if_pos (by omega), if_pos hlen, w64n p (by omega)]
theorem zoc {os : List ByteArray} {ims : List Int} (h : zf7 os ims = true) : os.length ≤ 4 ∧ ims.length ≤ 2 ∧ ∀ s ∈ os, cls s ≠ 8 := by
  unfold zf7 at h
  simp only [Bool.and_eq_true, decide_eq_true_eq, List.all_eq_true (l := List.range os.length), List.mem_range, okOp] at h
  refine ⟨h.1.2, h.2.1, fun s hs => ?_⟩
  obtain ⟨i, hi, rfl⟩ := List.getElem_of_mem hs
  have := (h.2.2.2.2.2 i hi).1
  rw [zcj os i hi] at this
  exact this
theorem yb5 (l : List Instr) (i : Nat) (h : i < l.length) : zag l i = l.getD i z69 := ycv (fun d => (zcj l i h d).trans (zcj l i h _).symm)
theorem yb6 (n : Int) : bits .and .i64 n 63 = n % 64 := by
  have h63 : (BitVec.ofInt 64 63).toNat = 2 ^ 6 - 1 := by decide
  have key : (BitVec.ofInt 64 n &&& BitVec.ofInt 64 63).toNat = (n % ((2 ^ 64 : Nat) : Int)).toNat % 2 ^ 6 := by
    rw [BitVec.toNat_and, BitVec.toNat_ofInt, h63, Nat.and_two_pow_sub_one_eq_mod]
  show IntKind.i64.wrap ((BitVec.ofInt 64 n &&& BitVec.ofInt 64 63).toNat : Nat) = n % 64
  rw [key, IntKind.wrap_i64]
  omega
def okV (v : Int) : Prop := 0 ≤ v ∧ v ≤ 63
theorem ydu (n : Int) : okV (bits .and .i64 n 63) := by
  rw [yb6]
  unfold okV
  omega
theorem yfk (b : Bool) : znq b = some (if b = true then 1 else 0) := by
  cases b <;> rfl
theorem zqz (s : ByteArray) (a b : Int) : zgz s a b = za5 s a b := by
  unfold zgz za5
  simp only [yfk, Option.bind_some]
  repeat refine ite_congr rfl (fun _ => rfl) (fun _ => ?_)
  refine ite_congr rfl (fun _ => ?_) (fun _ => ite_congr rfl (fun _ => ?_) (fun _ => rfl))
  · by_cases h : a < b
    · rw [if_pos h, if_pos (by simpa using h)]
    · rw [if_neg h, if_neg (by simpa using h)]
  · by_cases h : a = b
    · rw [if_pos h, if_pos (by simpa using h)]
    · rw [if_neg h, if_neg (by simpa using h)]
theorem yfl {c : Prop} [Decidable c] {x y : Option Int} {P : Int → Prop} (hx : ∃ v, x = some v ∧ P v) (hy : ∃ v, y = some v ∧ P v) : ∃ v, (if c then x else y) = some v ∧ P v := by
  by_cases h : c
  · rw [if_pos h]; exact hx
  · rw [if_neg h]; exact hy
theorem zn3 (s : ByteArray) (a b : Int) (hb : 0 ≤ b) : ∃ v, za5 s a b = some v ∧ okV v := by
  unfold za5
  rw [if_pos hb, if_pos hb]
  repeat' refine yfl ?_ ?_
  all_goals exact ⟨_, rfl, ydu _⟩
def okS (s : List Int) : Prop := s.length = 6 ∧ ∀ v ∈ s, okV v
theorem zye {s : List Int} (h : okS s) {i : Int} (h0 : 0 ≤ i) (h1 : i ≤ 5) : okV (rd s i) := by
  have hi : i.toNat < s.length := by rw [h.1]; omega
  unfold rd
  rw [zcj s _ hi]
  exact h.2 _ (List.getElem_mem hi)
theorem ydv {s : List Int} (h : okS s) (i : Nat) {v : Int} (hv : okV v) : okS (s.set i v) := by
  refine ⟨by rw [List.length_set]; exact h.1, fun u hu => ?_⟩
  rcases List.mem_or_eq_of_mem_set hu with hu | rfl
  · exact h.2 u hu
  · exact hv
theorem zvj {x : Instr} (h : okI x) : 0 ≤ x.f1 ∧ x.f1 ≤ 5 ∧ 0 ≤ x.f2 ∧ x.f2 ≤ 5 ∧ 0 ≤ x.f3 ∧ x.f3 ≤ 5 ∧ 0 ≤ x.f4 ∧ x.f4 ≤ 63 := by
  obtain ⟨hc, h1, h2, h3, h4⟩ := h
  rcases zz3 x.f0 with e | e | e | e | e | e | e | e | e <;> simp only [e, zgl] at h2 h3 h4 <;> simp at h2 h3 h4 <;> first | omega | exact absurd e hc
theorem yb7 (x : Instr) (s : List Int) (h : okI x) (hs : okS s) : ∃ v, zgh x.f0 x.f1 x.f2 x.f3 x.f4 s = some v ∧ okV v := by
  obtain ⟨h1, h1', h2, h2', h3, h3', h4, h4'⟩ := zvj h
  have hl := hs.1
  have ha := zye hs h2 h2'
  have hb := zye hs h3 h3'
  unfold zgh
  rw [if_pos h2, if_pos (by omega), if_pos h3, if_pos (by omega)]
  have one : ∀ t a b, 0 ≤ b → ∃ v, ((za5 t a b).bind fun v => some v) = some v ∧ okV v := fun t a b hb => by
    obtain ⟨v, e, hv⟩ := zn3 t a b hb
    exact ⟨v, by rw [e]; rfl, hv⟩
  by_cases qset : x.f0.toList = ([115, 101, 116] : List UInt8)
  · rw [if_pos qset]
    exact ⟨_, rfl, h4, h4'⟩
  rw [if_neg qset]
  by_cases qmov : x.f0.toList = ([109, 111, 118] : List UInt8)
  · rw [if_pos qmov]
    exact ⟨_, rfl, ha⟩
  rw [if_neg qmov]
  by_cases qaddi : x.f0.toList = ([97, 100, 100, 105] : List UInt8)
  · rw [if_pos qaddi]
    exact one _ _ _ h4
  rw [if_neg qaddi]
  by_cases qandi : x.f0.toList = ([97, 110, 100, 105] : List UInt8)
  · rw [if_pos qandi]
    exact one _ _ _ h4
  rw [if_neg qandi]
  by_cases qxori : x.f0.toList = ([120, 111, 114, 105] : List UInt8)
  · rw [if_pos qxori]
    exact one _ _ _ h4
  rw [if_neg qxori]
  by_cases qshli : x.f0.toList = ([115, 104, 108, 105] : List UInt8)
  · rw [if_pos qshli]
    exact one _ _ _ h4
  rw [if_neg qshli]
  by_cases qshri : x.f0.toList = ([115, 104, 114, 105] : List UInt8)
  · rw [if_pos qshri]
    exact one _ _ _ h4
  rw [if_neg qshri]
  by_cases qlea : x.f0.toList = ([108, 101, 97] : List UInt8)
  · rw [if_pos qlea]
    obtain ⟨v, e, hv⟩ := zn3 (⟨#[115, 104, 108]⟩ : ByteArray) (rd s x.f3) x.f4 h4
    obtain ⟨v', e', hv'⟩ := zn3 (⟨#[97, 100, 100]⟩ : ByteArray) (rd s x.f2) v hv.1
    exact ⟨v', by rw [e, Option.bind_some, e']; rfl, hv'⟩
  rw [if_neg qlea]
  exact one _ _ _ hb.1
def valM (x : Instr) (s : List Int) : Int := (zgh x.f0 x.f1 x.f2 x.f3 x.f4 s).getD 0
def zza (s : List Int) (x : Instr) : List Int := s.set x.f1.toNat (valM x s)
theorem zvk (x : Instr) (s : List Int) (h : okI x) (hs : okS s) : zgh x.f0 x.f1 x.f2 x.f3 x.f4 s = some (valM x s) ∧ okV (valM x s) := by
  obtain ⟨v, e, hv⟩ := yb7 x s h hs
  unfold valM
  rw [e]
  exact ⟨rfl, hv⟩
theorem zyf (x : Instr) (s : List Int) (h : okI x) (hs : okS s) : okS (zza s x) := ydv hs _ (zvk x s h hs).2
theorem cut3 {s : ByteArray} {a b c d : UInt8} (h : s.toList = [a, b, c, d]) : (3 : Int) ≤ (s.size : Int) ∧ s.extract 0 3 = ⟨#[a, b, c]⟩ := by
  have e : s = ⟨#[a, b, c, d]⟩ := str_lit.1 h
  rw [e]
  exact ⟨by show (3 : Int) ≤ ((4 : Nat) : Int); decide, rfl⟩
theorem ydw (x : Instr) (s : List Int) (h : okI x) (hs : okS s) : Ev (fun k => zeu k x.f0 x.f1 x.f2 x.f3 x.f4 (rd s x.f2) (rd s x.f3)) (valM x s) := by
  obtain ⟨h1, h1', h2, h2', h3, h3', h4, h4'⟩ := zvj h
  have hl := hs.1
  have e := (zvk x s h hs).1
  generalize valM x s = v at e
  unfold zgh at e
  rw [if_pos h2, if_pos (by omega), if_pos h3, if_pos (by omega)] at e
  have bs : ∀ (o : Option Int) r, (o.bind fun v => some v) = some r → o = some r := fun o r h => by
    cases o with
    | none => cases h
    | some y => exact h
  unfold zeu
  by_cases q1 : x.f0.toList = [115, 101, 116]
  · rw [if_pos q1] at e
    exact zad q1 (ziy e)
  refine zao q1 ?_
  rw [if_neg q1] at e
  by_cases q2 : x.f0.toList = [109, 111, 118]
  · rw [if_pos q2] at e
    exact zad q2 (ziy e)
  refine zao q2 ?_
  rw [if_neg q2] at e
  by_cases q3 : x.f0.toList = [108, 101, 97]
  · refine zad q3 (ziy ?_)
    rw [if_neg (by rw [q3]; decide), if_neg (by rw [q3]; decide), if_neg (by rw [q3]; decide), if_neg (by rw [q3]; decide), if_neg (by rw [q3]; decide), if_pos q3] at e
    simp only [zqz]
    exact e
  refine zao q3 ?_
  have imm : ∀ a b c d : UInt8, x.f0.toList = [a, b, c, d] → za5 ⟨#[a, b, c]⟩ (rd s x.f2) x.f4 = some v → Ev (fun k => za9 k (rd s x.f2) (rd s x.f3) (x.f0.toList == ([a, b, c, d] : List UInt8)) x.f0 x.f1 x.f2 x.f3 x.f4) v := fun a b c d q hv => by
    obtain ⟨hc, hc'⟩ := cut3 q
    refine Ev.step (fun k => by simp only [za9]; rfl) (zad (by rw [q]; simp) (zad (by decide) (zad hc (ziy ?_))))
    rw [zqz, hc', hv]
    rfl
  by_cases q4 : x.f0.toList = [97, 100, 100, 105]
  · rw [if_pos q4] at e
    exact zad q4 (imm _ _ _ _ q4 (bs _ _ e))
  refine zao q4 ?_
  rw [if_neg q4] at e
  by_cases q5 : x.f0.toList = [97, 110, 100, 105]
  · rw [if_pos q5] at e
    exact zad q5 (imm _ _ _ _ q5 (bs _ _ e))
  refine zao q5 ?_
  rw [if_neg q5] at e
  by_cases q6 : x.f0.toList = [120, 111, 114, 105]
  · rw [if_pos q6] at e
    exact zad q6 (imm _ _ _ _ q6 (bs _ _ e))
  refine zao q6 ?_
  rw [if_neg q6] at e
  by_cases q7 : x.f0.toList = [115, 104, 108, 105]
  · rw [if_pos q7] at e
    exact zad q7 (imm _ _ _ _ q7 (bs _ _ e))
  refine zao q7 ?_
  rw [if_neg q7] at e
  by_cases q8 : x.f0.toList = [115, 104, 114, 105]
  · rw [if_pos q8] at e
    exact imm _ _ _ _ q8 (bs _ _ e)
  rw [if_neg q8, if_neg q3] at e
  refine Ev.step (fun k => by simp only [za9]; rfl) (zao (by simpa using q8) (ziy ?_))
  rw [zqz, bs _ _ e]
  rfl
def runM (l : List Instr) (s : List Int) : List Int := l.foldl zza s
theorem zxg (l : List Instr) (h : ∀ x ∈ l, okI x) : ∀ s, okS s → okS (runM l s) := by
  induction l with
  | nil => exact fun s hs => hs
  | cons x l ih => exact fun s hs => ih (fun y hy => h y (List.mem_cons_of_mem _ hy)) _ (zyf x s (h x (List.mem_cons_self)) hs)
theorem ycx (l : List Int) (h : l.length ≤ 1048576) : zjl l = some l := by
  unfold zjl
  rw [Option.bind_some, if_pos (by simp; omega)]
  rfl
theorem yai (x : Instr) (s : List Int) (h : okI x) (hs : okS s) : zjx x.f0 x.f1 x.f2 x.f3 x.f4 s = some (zza s x) := by
  obtain ⟨h1, h1', h2, h2', h3, h3', h4, h4'⟩ := zvj h
  have hq := hs.1
  unfold zjx
  rw [ycx s (by omega), Option.bind_some, (zvk x s h hs).1, Option.bind_some, if_pos h1, if_pos (by omega)]
  rfl
theorem zyg (l : List Instr) (hl : l.length ≤ 40) (h : ∀ x ∈ l, okI x) (s : List Int) (hs : okS s) : Ev (fun k => zg8 k l s) (runM l s) := by
  unfold zg8
  refine Ev.call (ycx s (by rw [hs.1]; decide)) ?_
  have key : ∀ (d i : Nat) (s : List Int), okS s → i + d = l.length → Ev (fun k => zer k s l l.length i) (runM (l.drop i) s) := by
    intro d
    induction d with
    | zero =>
      intro i s hs hi
      refine Ev.step (f := fun _ => some s) (fun k => ?_) (Ev.some ?_)
      · simp only [zer]
        rw [if_neg (by omega)]
      · rw [List.drop_of_length_le (by omega)]
        rfl
    | succ d ih =>
      intro i s hs hi
      have hlt : i < l.length := by omega
      have e : l.drop i = l[i] :: l.drop (i + 1) := List.drop_eq_getElem_cons hlt
      have hx := ycv (zcj l i hlt)
      have ok := h l[i] (List.getElem_mem hlt)
      rw [e]
      refine Ev.step (fun k => ?_) (ih (i + 1) _ (zyf _ s ok hs) (by omega))
      simp only [zer, hx]
      rw [if_pos (by omega), if_pos (by omega), if_pos (by omega), yai _ s ok hs, Option.bind_some, w64n i (by omega)]
  simpa using key l.length 0 s hs (by omega)
def st0 (a b : Int) : List Int := [a, b, 0, 0, 0, 0]
theorem yaj {a b : Int} (ha : okV a) (hb : okV b) : okS (st0 a b) := by
  refine ⟨rfl, fun v hv => ?_⟩
  have hz : okV 0 := by unfold okV; decide
  simp only [st0, List.mem_cons, List.not_mem_nil, or_false] at hv
  rcases hv with rfl | rfl | rfl | rfl | rfl | rfl <;> assumption
def endM (l : List Instr) (a b : Int) : List Int := runM l (st0 a b)
theorem zuo (a b : Int) : zi6 a b = some (st0 a b) := rfl
abbrev zN : Instr := z69
theorem zwd : ∀ (n a : Nat) (x : Int), x ∈ zkj n a → (a : Int) ≤ x ∧ x < (a : Int) + n
  | 0, _, x, h => by simp [zkj] at h
  | n + 1, a, x, h => by
    unfold zkj at h
    rcases List.mem_cons.1 h with h | h
    · omega
    · have := zwd n (a + 1) x h
      omega
theorem zyh {u : Bool} {n : Nat} {x : Int} (h : x ∈ zo8 u n) (hn : 1 ≤ n) : (0 ≤ x ∧ x < (n : Int)) ∧ (u = true ∨ x = 0) := by
  unfold zo8 at h
  split at h
  · rename_i hu
    have := zwd n 0 x h
    exact ⟨by omega, .inl hu⟩
  · rw [List.mem_singleton.1 h]
    exact ⟨by omega, .inr rfl⟩
theorem yfm (c : Nat) (h : immC c = false) : (zgl c).2.2.2.1 ≤ 0 ∧ 0 ≤ (zgl c).2.2.2.2 := by
  unfold immC at h
  split at h
  · cases h
  · cases h
  · cases h
  · cases h
  · rename_i h0 h5 h6 h7
    unfold zgl
    split
    all_goals first | exact ⟨by decide, by decide⟩ | exact absurd rfl h0 | exact absurd rfl h5 | exact absurd rfl h6 | exact absurd rfl h7
def okPI (x : Instr) (t : Nat) : Prop := okI x ∧ x.f1 = ((2 + t : Nat) : Int) ∧ (0 ≤ x.f2 ∧ x.f2 < ((2 + t : Nat) : Int)) ∧ 0 ≤ x.f3 ∧ x.f3 < ((2 + t : Nat) : Int)
theorem ydx {os : List ByteArray} {ims : List Int} {t : Nat} (ho : zf7 os ims = true) (ht : t ≤ 2) {x : Instr} (h : x ∈ zcz os ims t) : okPI x t := by
  unfold zcz at h
  obtain ⟨s, hs, h⟩ := List.mem_flatMap.1 h
  unfold znl at h
  obtain ⟨a, ha, h⟩ := List.mem_flatMap.1 h
  obtain ⟨b, hb, h⟩ := List.mem_flatMap.1 h
  obtain ⟨m, hm, h⟩ := List.mem_flatMap.1 h
  obtain rfl := List.mem_singleton.1 h
  obtain ⟨a1, a2⟩ := zyh ha (by omega)
  obtain ⟨b1, b2⟩ := zyh hb (by omega)
  have hop : okOp ims s = true := by
    unfold zf7 at ho
    simp only [Bool.and_eq_true, List.all_eq_true (l := List.range os.length), List.mem_range] at ho
    obtain ⟨i, hi, rfl⟩ := List.getElem_of_mem hs
    have := ho.2.2.2.2.2 i hi
    rw [zcj os i hi] at this
    exact this
  unfold okOp at hop
  rw [Bool.and_eq_true, decide_eq_true_eq] at hop
  refine ⟨⟨hop.1, ⟨by show (0 : Int) ≤ ((2 + t : Nat) : Int); omega, by show ((2 + t : Nat) : Int) ≤ 5; omega⟩, ?_, ?_, ?_⟩, rfl, a1, b1⟩
  · exact a2.elim (fun u => .inl ⟨u, a1.1, by show a ≤ 5; omega⟩) (fun z => .inr z)
  · exact b2.elim (fun u => .inl ⟨u, b1.1, by show b ≤ 5; omega⟩) (fun z => .inr z)
  · show (zgl (cls s)).2.2.2.1 ≤ m ∧ m ≤ (zgl (cls s)).2.2.2.2
    unfold imsM at hm
    by_cases hi : immC (cls s) = true
    · rw [if_pos hi] at hm
      have h2 := hop.2
      rw [hi, Bool.not_true, Bool.false_or, List.all_eq_true] at h2
      have := h2 m hm
      unfold inB at this
      exact of_decide_eq_true this
    · rw [if_neg hi] at hm
      rw [List.mem_singleton.1 hm]
      exact yfm _ (Bool.eq_false_iff.2 hi)
def okP (l : List Instr) : Prop := l.length ≤ 3 ∧ ∀ i, i < l.length → okPI (l.getD i zN) i
theorem ztp {l : List Instr} (h : okP l) (x : Instr) (hx : x ∈ l) : okI x := by
  obtain ⟨i, hi, rfl⟩ := List.getElem_of_mem hx
  have := (h.2 i hi).1
  rwa [zcj l i hi] at this
theorem zyi {l : List Instr} (h : okP l) (k : Nat) (x : Instr) (hx : x ∈ l.take k) : okI x := ztp h x (List.mem_of_mem_take hx)
theorem zwe (l : List Instr) (k : Nat) (h : k < l.length) : l.take (k + 1) = l.take k ++ [l.getD k zN] := by
  rw [List.take_succ_eq_append_getElem h, zcj l k h]
def atI (l : List Instr) (i : Nat) : List Int := endM l ((i / 64 : Nat) : Int) ((i % 64 : Nat) : Int)
theorem ycy (l : List Instr) (h : ∀ x ∈ l, okI x) (i : Nat) (hi : i < 4096) : okS (atI l i) := zxg l h _ (yaj (by unfold okV; omega) (by unfold okV; omega))
theorem zyj (l : List Instr) (x : Instr) (i : Nat) : atI (l ++ [x]) i = zza (atI l i) x := by
  unfold atI endM runM
  rw [List.foldl_append]
  rfl
def colN (l : List Instr) (r : Int) (n : Nat) : List Int := (List.range n).map fun i => rd (atI l i) r
theorem zvl (l : List Instr) (r : Int) (n : Nat) : (colN l r n).length = n := by simp [colN]
theorem yak (l : List Instr) (r : Int) (n i : Nat) (h : i < n) : rd (colN l r n) (i : Int) = rd (atI l i) r := zlg (fun d => by simp [colN, List.getD, h])
theorem yal (s : List Int) (j : Nat) (v : Int) (r : Nat) (h : r ≠ j) : rd (s.set j v) (r : Int) = rd s (r : Int) := by
  unfold rd
  rw [Int.toNat_natCast, List.getD_eq_getElem?_getD, List.getD_eq_getElem?_getD, List.getElem?_set_ne (Ne.symm h)]
theorem yam (s : List Int) (j : Nat) (v : Int) (h : j < s.length) : rd (s.set j v) (j : Int) = v := by
  unfold rd
  rw [Int.toNat_natCast, List.getD_eq_getElem?_getD, List.getElem?_set_self h]
  rfl
theorem yb8 {l : List Instr} (h : okP l) (k : Nat) (hk : k < l.length) (r n : Nat) (hr : r < 2 + k) : colN (l.take (k + 1)) r n = colN (l.take k) r n := by
  unfold colN
  refine List.map_congr_left fun i _ => ?_
  rw [zwe l k hk, zyj]
  unfold zza
  rw [(h.2 k hk).2.1, Int.toNat_natCast, yal _ _ _ _ (by omega)]
theorem yan {l : List Instr} (h : okP l) (k : Nat) (hk : k < l.length) (n : Nat) (hn : n ≤ 4096) : colN (l.take (k + 1)) ((2 + k : Nat) : Int) n = (List.range n).map fun i => valM (l.getD k zN) (atI (l.take k) i) := by
  unfold colN
  refine List.map_congr_left fun i hi => ?_
  have hi' := List.mem_range.1 hi
  rw [zwe l k hk, zyj]
  unfold zza
  have hs := (ycy (l.take k) (zyi h k) i (by omega)).1
  have := h.1
  rw [(h.2 k hk).2.1, Int.toNat_natCast, yam _ _ _ (by omega)]
def cols (l : List Instr) (k : Nat) : List (List Int) := (List.range (2 + k)).map fun r : Nat => colN (l.take k) r 4096
theorem zq0 (l : List Instr) (k : Nat) : (cols l k).length = 2 + k := by simp [cols]
theorem zxh (l : List Instr) (k r : Nat) (h : r < 2 + k) : zjh (cols l k) (r : Int) = colN (l.take k) r 4096 := by
  unfold zjh cols
  rw [Int.toNat_natCast]
  simp [List.getD, h]
theorem yao {l : List Instr} (h : okP l) (k : Nat) (hk : k < l.length) : cols l (k + 1) = cols l k ++ [(List.range 4096).map fun i => valM (l.getD k zN) (atI (l.take k) i)] := by
  unfold cols
  rw [show 2 + (k + 1) = (2 + k) + 1 by omega, List.range_succ, List.map_append, List.map_singleton, yan h k hk 4096 (Nat.le_refl _)]
  rw [List.map_congr_left (l := List.range (2 + k)) fun r hr => yb8 h k hk r 4096 (List.mem_range.1 hr)]
theorem zwf {l : List Instr} (h : okP l) (k : Nat) (x : Instr) (hx : okPI x k) (hk : k ≤ l.length) (i : Nat) (hi : i < 4096) : Ev (fun q => zf1 q x.f0 x.f1 x.f2 x.f3 x.f4 (cols l k) (i : Int)) (valM x (atI (l.take k) i)) := by
  obtain ⟨ho, h1, ⟨h2, h2'⟩, h3, h3'⟩ := hx
  have hs := ycy (l.take k) (zyi h k) i hi
  have hl := h.1
  obtain ⟨a, ha⟩ := Int.eq_ofNat_of_zero_le h2
  obtain ⟨b, hb⟩ := Int.eq_ofNat_of_zero_le h3
  have ca : zjh (cols l k) x.f2 = colN (l.take k) x.f2 4096 := by rw [ha]; exact zxh l k a (by omega)
  have cb : zjh (cols l k) x.f3 = colN (l.take k) x.f3 4096 := by rw [hb]; exact zxh l k b (by omega)
  have va := zye hs h2 (by omega)
  have vb := zye hs h3 (by omega)
  have hv := (zvk x _ ho hs).2
  unfold okV at va vb hv
  unfold zf1
  refine zad h2 (zad (by rw [zq0]; omega) (zad (by omega) (zad (by rw [ca, zvl]; omega) (zad h3 (zad (by rw [zq0]; omega) (zad (by rw [cb, zvl]; omega) ?_))))))
  rw [ca, cb, yak _ _ _ _ hi, yak _ _ _ _ hi, w64 (by omega) (by omega), w64 (by omega) (by omega)]
  refine Ev.bind (ydw x _ ho hs) (Ev.some ?_)
  omega
theorem yap {l : List Instr} (h : okP l) (k : Nat) (x : Instr) (hx : okPI x k) (hk : k ≤ l.length) : Ev (fun q => zg1 q x.f0 x.f1 x.f2 x.f3 x.f4 (cols l k)) ((List.range 4096).map fun i => valM x (atI (l.take k) i)) := by
  have key : ∀ (d i : Nat), i + d = 4096 → Ev (fun q => zdv q (cols l k) (((List.range i).map fun i => valM x (atI (l.take k) i)) ++ List.replicate d 0) 4096 i x.f0 x.f1 x.f2 x.f3 x.f4) ((List.range 4096).map fun i => valM x (atI (l.take k) i)) := by
    intro d
    induction d with
    | zero =>
      intro i hi
      obtain rfl : i = 4096 := by omega
      rw [List.replicate_zero, List.append_nil]
      refine Ev.step (f := fun _ => some ((List.range 4096).map fun i => valM x (atI (l.take k) i))) (fun q => ?_) (Ev.now _)
      simp only [zdv]
      rw [if_neg (by omega)]
    | succ d ih =>
      intro i hi
      have next := ih (i + 1) (by omega)
      rw [List.range_succ, List.map_append, List.map_singleton] at next
      have hlen : (i : Int) < ((((List.range i).map fun i => valM x (atI (l.take k) i)) ++ List.replicate (d + 1) 0).length : Int) := by
        rw [List.length_append, List.length_replicate, List.length_map, List.length_range]
        omega
      refine Ev.step (fun q => by simp only [zdv]; rfl) (zad (by omega) (Ev.bind (zwf h k x hx hk i (by omega)) ?_))
      refine zad (Int.natCast_nonneg i) (zad hlen ?_)
      have e := zpb ((List.range i).map fun i => valM x (atI (l.take k) i)) (List.replicate d (0 : Int)) 0 (valM x (atI (l.take k) i))
      rw [List.length_replicate, List.length_map, List.length_range] at e
      rw [Int.toNat_natCast, e, w64n i (by omega)]
      exact next
  unfold zg1
  refine zad (by decide) (Ev.call rfl ?_)
  rw [List.length_replicate]
  exact key 4096 0 (by omega)
theorem zxi {l : List Instr} (h : okP l) (k : Nat) (x : Instr) (hx : okPI x k) (hk : k ≤ l.length) (g : List Int) (hg : g.length = 4096) : Ev (fun q => zfn q x.f0 x.f1 x.f2 x.f3 x.f4 (cols l k) g) ((List.range 4096).all fun i => decide (valM x (atI (l.take k) i) = rd g i)) := by
  have key : ∀ (d i : Nat), i + d = 4096 → Ev (fun q => zcp q (cols l k) g 4096 i x.f0 x.f1 x.f2 x.f3 x.f4) ((List.range' i d).all fun i => decide (valM x (atI (l.take k) i) = rd g i)) := by
    intro d
    induction d with
    | zero =>
      intro i hi
      refine Ev.step (f := fun _ => some true) (fun q => ?_) (Ev.now _)
      simp only [zcp]
      rw [if_neg (by omega)]
    | succ d ih =>
      intro i hi
      rw [List.range'_succ, List.all_cons]
      refine Ev.step (fun q => by simp only [zcp]; rfl) (zad (by omega) (zad (by omega) (zad (by omega) (Ev.bind (zwf h k x hx hk i (by omega)) ?_))))
      by_cases e : valM x (atI (l.take k) i) = rd g i
      · rw [decide_eq_true e, Bool.true_and]
        refine zad e ?_
        rw [w64n i (by omega)]
        exact ih (i + 1) (by omega)
      · rw [decide_eq_false e, Bool.false_and]
        exact zao e (Ev.now _)
  unfold zfn
  rw [hg]
  have := key 4096 0 (by omega)
  rw [← List.range_eq_range'] at this
  exact this
theorem zp9 (xs : List Int) (hl : xs.length ≤ 1048576) (hv : ∀ v ∈ xs, 0 ≤ v ∧ v ≤ 63) : Ev (fun q => zc9 q xs) xs := by
  have key : ∀ (d i : Nat), i + d = xs.length → Ev (fun q => zco q (xs.take i ++ List.replicate d 0) xs xs.length i) xs := by
    intro d
    induction d with
    | zero =>
      intro i hi
      obtain rfl : i = xs.length := by omega
      rw [List.replicate_zero, List.append_nil, List.take_length]
      refine Ev.step (f := fun _ => some xs) (fun q => ?_) (Ev.now _)
      simp only [zco]
      rw [if_neg (by omega)]
    | succ d ih =>
      intro i hi
      have hlt : i < xs.length := by omega
      have next := ih (i + 1) (by omega)
      rw [List.take_succ_eq_append_getElem hlt] at next
      have hb := hv _ (List.getElem_mem hlt)
      refine Ev.step (fun q => by simp only [zco]; rfl) (zad (by omega) (zad (by omega) (zad (by omega) (zad (by rw [List.length_append, List.length_replicate, List.length_take]; omega) ?_))))
      have e := zpb (xs.take i) (List.replicate d (0 : Int)) 0 xs[i]
      rw [List.length_replicate, List.length_take, Nat.min_eq_left (by omega)] at e
      rw [zlg (zcj xs i hlt), show xs[i] % 256 = xs[i] by omega, Int.toNat_natCast, e, w64n i (by omega)]
      exact next
  unfold zc9
  refine zad (by omega) (zad (by rw [Int.toNat_natCast]; omega) ?_)
  rw [Int.toNat_natCast]
  have := key xs.length 0 (by omega)
  simpa using this
def tbN (g : Nat → Nat → Int) (n : Nat) : List Int := (List.range n).map fun i => g (i / 64) (i % 64)
theorem zvm (g : Nat → Nat → Int) (n : Nat) : (tbN g n).length = n := by simp [tbN]
theorem yb9 (g : Nat → Nat → Int) (a b : Nat) (h : b < 64) : tbN g (64 * a + (b + 1)) = tbN g (64 * a + b) ++ [g a b] := by
  unfold tbN
  rw [← Nat.add_assoc, List.range_succ, List.map_append, List.map_singleton, show (64 * a + b) / 64 = a by omega, show (64 * a + b) % 64 = b by omega]
theorem zvn (g : Nat → Nat → Int) (L0 : Nat → List Int → Int → Option (List Int)) (L1 : Nat → List Int → Int → Int → Int → Option (List Int))
    (h0 : ∀ (a : Nat) xs T, a < 64 → Ev (fun k => L1 k xs a a 0) T → Ev (fun k => L0 k xs a) T) (he : ∀ xs, Ev (fun k => L0 k xs 64) xs)
    (h1 : ∀ (a b : Nat) xs T, a < 64 → b < 64 → xs.length ≤ 4096 → Ev (fun k => L1 k (xs ++ [g a b]) a a ((b + 1 : Nat) : Int)) T → Ev (fun k => L1 k xs a a b) T)
    (h2 : ∀ (a : Nat) xs T, a < 64 → Ev (fun k => L0 k xs ((a + 1 : Nat) : Int)) T → Ev (fun k => L1 k xs a a 64) T) : Ev (fun k => L0 k [] 0) (tbN g 4096) := by
  have row : ∀ (a : Nat), a < 64 → ∀ T, Ev (fun k => L0 k (tbN g (64 * (a + 1))) ((a + 1 : Nat) : Int)) T → ∀ (d b : Nat), b + d = 64 → Ev (fun k => L1 k (tbN g (64 * a + b)) a a b) T := by
    intro a ha T hT d
    induction d with
    | zero =>
      intro b hb
      obtain rfl : b = 64 := by omega
      refine h2 a _ T ha ?_
      rw [show 64 * a + 64 = 64 * (a + 1) by omega]
      exact hT
    | succ d ih =>
      intro b hb
      refine h1 a b _ T ha (by omega) (by rw [zvm]; omega) ?_
      rw [← yb9 g a b (by omega)]
      exact ih (b + 1) (by omega)
  have key : ∀ (d a : Nat), a + d = 64 → Ev (fun k => L0 k (tbN g (64 * a)) a) (tbN g 4096) := by
    intro d
    induction d with
    | zero =>
      intro a ha
      obtain rfl : a = 64 := by omega
      exact he _
    | succ d ih =>
      intro a ha
      have := row a (by omega) _ (ih (a + 1) (by omega)) 64 0 (by omega)
      exact h0 a _ _ (by omega) this
  exact key 64 0 (by omega)
theorem yaq : Ev (fun k => zb0 k) (tbN (fun a _ => (a : Int)) 4096) := by
  unfold zb0
  refine zvn (fun a _ => (a : Int)) zau zav (fun a xs T ha h => ?_) (fun xs => ?_) (fun a b xs T ha hb hx h => ?_) (fun a xs T ha h => ?_)
  · exact Ev.step (fun k => by simp only [zau]; rfl) (zad (by omega) h)
  · refine Ev.step (f := fun _ => some xs) (fun k => ?_) (Ev.now _)
    simp only [zau]
    rw [if_neg (by omega)]
  · refine Ev.step (fun k => by simp only [zav]; rfl) (zad (by omega) (Ev.call rfl (zad (by omega) ?_)))
    rw [w64n b (by omega)]
    exact h
  · refine Ev.step (fun k => by simp only [zav]; rfl) (zao (by omega) ?_)
    rw [w64n a (by omega)]
    exact h
theorem yar : Ev (fun k => zb1 k) (tbN (fun _ b => (b : Int)) 4096) := by
  unfold zb1
  refine zvn (fun _ b => (b : Int)) zaw zax (fun a xs T ha h => ?_) (fun xs => ?_) (fun a b xs T ha hb hx h => ?_) (fun a xs T ha h => ?_)
  · exact Ev.step (fun k => by simp only [zaw]; rfl) (zad (by omega) h)
  · refine Ev.step (f := fun _ => some xs) (fun k => ?_) (Ev.now _)
    simp only [zaw]
    rw [if_neg (by omega)]
  · refine Ev.step (fun k => by simp only [zax]; rfl) (zad (by omega) (Ev.call rfl (zad (by omega) ?_)))
    rw [w64n b (by omega)]
    exact h
  · refine Ev.step (fun k => by simp only [zax]; rfl) (zao (by omega) ?_)
    rw [w64n a (by omega)]
    exact h
theorem yca (l : List Instr) : Ev (fun k => zht k) (cols l 0) := by
  have bd : ∀ (g : Nat → Nat → Int), (∀ a b, a < 64 → b < 64 → 0 ≤ g a b ∧ g a b ≤ 63) → ∀ v ∈ tbN g 4096, 0 ≤ v ∧ v ≤ 63 := fun g hg v hv => by
    obtain ⟨i, hi, rfl⟩ := List.mem_map.1 hv
    have := List.mem_range.1 hi
    exact hg _ _ (by omega) (by omega)
  unfold zht
  refine Ev.bind yaq (Ev.bind (zp9 _ (by rw [zvm]; decide) (bd _ (fun a b ha hb => by omega))) (Ev.bind yar (Ev.bind (zp9 _ (by rw [zvm]; decide) (bd _ (fun a b ha hb => by omega))) (Ev.some ?_))))
  rfl
end Go.Proofs.YtnaafcleafbejaaGreat.PL
end
section
namespace Go.Proofs.YtnaafcleafbejaaGreat.PL
open Go Go.RowKit Go.Proofs.YtnaafcleafbejaaGreatW.PrintWords Go.Proofs.YtnaafcleafbejaaGreatW.PrintLast Go.Proofs.YtnaafcleafbejaaGreatW.PrintMore Go.Proofs.YtnaafcleafbejaaGreat.Q
set_option linter.unusedSimpArgs false
set_option linter.unusedVariables false
def cntM (os : List ByteArray) (ims : List Int) : Nat → Nat
  | 0 => 1
  | n + 1 => cntM os ims n * (zcz os ims n).length
theorem yas (os : List ByteArray) (ims : List Int) (ho : os.length ≤ 4) (hi : ims.length ≤ 2) : ∀ n, n ≤ 3 → cntM os ims n ≤ 200 ^ n
  | 0, _ => Nat.le_refl _
  | n + 1, h => by
    have a := yas os ims ho hi n (by omega)
    have b := zr8 os ims n ho hi (by omega)
    unfold cntM
    rw [Nat.pow_succ]
    exact Nat.mul_le_mul a b
theorem zvo (os : List ByteArray) (ims : List Int) (ho : os.length ≤ 4) (hi : ims.length ≤ 2) (n : Nat) (h : n ≤ 3) : cntM os ims n ≤ 8000000 := by
  have := yas os ims ho hi n h
  have : 200 ^ n ≤ 200 ^ 3 := Nat.pow_le_pow_right (by decide) h
  omega
theorem ycb (os : List ByteArray) (ims : List Int) (ho : os.length ≤ 4) (hi : ims.length ≤ 2) (i : Nat) (h : i < 3) : wrap64 ((cntM os ims i : Int) * ((zcz os ims i).length : Int)) = (cntM os ims (i + 1) : Nat) := by
  have := zvo os ims ho hi (i + 1) (by omega)
  have e : (cntM os ims i : Int) * ((zcz os ims i).length : Int) = (cntM os ims (i + 1) : Nat) := by rw [show cntM os ims (i + 1) = cntM os ims i * (zcz os ims i).length from rfl, Int.natCast_mul]
  rw [e, w64 (by omega) (by omega)]
theorem zup (os : List ByteArray) (ims : List Int) (h : zf7 os ims = true) (n : Nat) (hn : n ≤ 3) : Ev (fun k => zgg k os ims n) (cntM os ims n : Nat) := by
  obtain ⟨ho, hi, hc⟩ := zoc h
  unfold zgg
  have key : ∀ (d i : Nat), i + d = n → Ev (fun k => zdi k n (cntM os ims i : Nat) i os ims) (cntM os ims n : Nat) := by
    intro d
    induction d with
    | zero =>
      intro i hi'
      have e : i = n := by omega
      subst e
      refine Ev.step (f := fun _ => some _) (fun k => ?_) (Ev.now _)
      simp only [zdi]
      rw [if_neg (by omega)]
    | succ d ih =>
      intro i hi'
      refine Ev.step (fun k => by simp only [zdi]; rfl) (zad (by omega) (Ev.bind (zun os ims i ho hi (by omega)) ?_))
      rw [ycb os ims ho hi i (by omega), w64n i (by omega)]
      exact ih (i + 1) (by omega)
  exact key n 0 (by omega)
def zzb (os : List ByteArray) (ims : List Int) : Nat → Int → List Instr → List Instr
  | 0, _, acc => acc
  | d + 1, a, acc => zzb os ims d (Int.tdiv a ((zcz os ims d).length : Int)) (acc.set d (zag (zcz os ims d) (Int.tmod a ((zcz os ims d).length : Int))))
theorem zyk {os : List ByteArray} {ims : List Int} : ∀ {n i : Nat}, 0 < cntM os ims n → i < n → 0 < (zcz os ims i).length
  | 0, i, _, hi => by omega
  | n + 1, i, h, hi => by
    unfold cntM at h
    have h1 : 0 < cntM os ims n := Nat.pos_of_ne_zero fun e => by rw [e, Nat.zero_mul] at h; omega
    have h2 : 0 < (zcz os ims n).length := Nat.pos_of_ne_zero fun e => by rw [e, Nat.mul_zero] at h; omega
    by_cases e : i = n
    · rw [e]; exact h2
    · exact zyk h1 (by omega)
theorem ycc (a : Int) (n : Nat) (h0 : 0 ≤ a) (h1 : a ≤ 8000000) (hn : 0 < n) : 0 ≤ Int.tmod a (n : Int) ∧ Int.tmod a (n : Int) < (n : Int) ∧ 0 ≤ Int.tdiv a (n : Int) ∧ Int.tdiv a (n : Int) ≤ 8000000 := by
  rw [Int.tmod_eq_emod_of_nonneg h0, Int.tdiv_eq_ediv_of_nonneg h0]
  have := Int.emod_nonneg a (show (n : Int) ≠ 0 by omega)
  have := Int.emod_lt_of_pos a (show (0 : Int) < n by omega)
  have := Int.ediv_nonneg h0 (show (0 : Int) ≤ n by omega)
  have := Int.ediv_le_self (n : Int) h0
  omega
theorem yat (os : List ByteArray) (ims : List Int) (h : zf7 os ims = true) (n : Nat) (hn : n ≤ 3) (a : Int) (h0 : 0 ≤ a) (h1 : a < (cntM os ims n : Nat)) : Ev (fun k => zg9 k os ims n a) (zzb os ims n a (List.replicate n zN)) := by
  obtain ⟨ho', hi', hc⟩ := zoc h
  have hle := zvo os ims ho' hi' n hn
  have hpos : 0 < cntM os ims n := by omega
  unfold zg9
  refine zad (by omega) (zad (by omega) ?_)
  have key : ∀ (d : Nat) (b : Int) (acc : List Instr), d ≤ n → acc.length = n → 0 ≤ b → b ≤ 8000000 → Ev (fun k => zdl k b acc ((d : Int) - 1) os ims) (zzb os ims d b acc) := by
    intro d
    induction d with
    | zero =>
      intro b acc hd hacc hb0 hb1
      refine Ev.step (f := fun _ => some acc) (fun k => ?_) (Ev.now _)
      simp only [zdl]
      rw [if_neg (by omega)]
    | succ d ih =>
      intro b acc hd hacc hb0 hb1
      have hp := zyk hpos (show d < n by omega)
      obtain ⟨f1, f2, f3, f4⟩ := ycc b _ hb0 hb1 hp
      rw [show ((d + 1 : Nat) : Int) - 1 = (d : Int) by omega]
      refine Ev.step (fun k => by simp only [zdl]; rfl) (zad (by omega) (Ev.bind (zun os ims d ho' hi' (by omega)) ?_))
      refine zao (by omega) (zad f1 (zad f2 (zad (by omega) (zad (by omega) ?_))))
      rw [w64 (by omega) (by omega), w64 (by omega) (by omega), Int.toNat_natCast]
      exact ih _ _ (by omega) (by rw [List.length_set]; exact hacc) f3 f4
  have := key n a (List.replicate n zN) (Nat.le_refl _) List.length_replicate h0 (by omega)
  rw [w64 (by omega) (by omega), Int.toNat_natCast]
  exact this
section
variable (os : List ByteArray) (ims : List Int)
def wthN : Nat → Nat → List Instr
  | 0, _ => []
  | n + 1, a => wthN n (a / (zcz os ims n).length) ++ [(zcz os ims n).getD (a % (zcz os ims n).length) zN]
theorem zyl : ∀ n a, (wthN os ims n a).length = n
  | 0, _ => rfl
  | n + 1, a => by unfold wthN; rw [List.length_append, zyl n]; rfl
theorem zwg : ∀ (d : Nat) (a : Nat) (acc : List Instr), d ≤ acc.length → zzb os ims d (a : Int) acc = wthN os ims d a ++ acc.drop d
  | 0, _, _, _ => rfl
  | d + 1, a, acc, h => by
    have e1 : Int.tdiv (a : Int) ((zcz os ims d).length : Int) = ((a / (zcz os ims d).length : Nat) : Int) := by
      rw [Int.tdiv_eq_ediv_of_nonneg (by omega)]
      exact (Int.natCast_ediv _ _).symm
    have e2 : Int.tmod (a : Int) ((zcz os ims d).length : Int) = ((a % (zcz os ims d).length : Nat) : Int) := by
      rw [Int.tmod_eq_emod_of_nonneg (by omega)]
      exact (Int.natCast_emod _ _).symm
    unfold zzb wthN
    rw [e1, e2, zwg d _ _ (by rw [List.length_set]; omega), List.append_assoc]
    congr 1
    rw [List.drop_eq_getElem_cons (by rw [List.length_set]; omega), List.getElem_set_self, List.drop_set_of_lt (by omega)]
    unfold zag
    rw [Int.toNat_natCast]
    rfl
theorem yau (n a : Nat) : zzb os ims n (a : Int) (List.replicate n zN) = wthN os ims n a := by
  rw [zwg os ims n a _ (by simp)]
  simp
def zh8 : Nat → List Instr → List (List Instr)
  | 0, p => [p]
  | d + 1, p => (zcz os ims p.length).flatMap fun x => zh8 d (p ++ [x])
theorem zvp : ∀ (d : Nat) (p l : List Instr), l ∈ zh8 os ims d p → l.length = p.length + d ∧ l.take p.length = p
  | 0, p, l, h => by
    obtain rfl := List.mem_singleton.1 h
    exact ⟨rfl, List.take_length⟩
  | d + 1, p, l, h => by
    unfold zh8 at h
    obtain ⟨x, _, hl⟩ := List.mem_flatMap.1 h
    obtain ⟨h1, h2⟩ := zvp d (p ++ [x]) l hl
    rw [List.length_append, List.length_singleton] at h1 h2
    refine ⟨by omega, ?_⟩
    have := congrArg (List.take p.length) h2
    rwa [List.take_take, Nat.min_eq_left (by omega), List.take_left] at this
theorem zuq : ∀ (d : Nat) (p : List Instr), zh8 os ims (d + 1) p = (zh8 os ims d p).flatMap fun q => (zcz os ims q.length).map fun x => q ++ [x]
  | 0, p => by
    have e : zh8 os ims 1 p = (zcz os ims p.length).flatMap fun x => [p ++ [x]] := rfl
    rw [e]
    show _ = List.flatMap _ [p]
    rw [List.flatMap_cons, List.flatMap_nil, List.append_nil]
    induction zcz os ims p.length with
    | nil => rfl
    | cons x xs ih => rw [List.flatMap_cons, List.map_cons, ih]; rfl
  | d + 1, p => by
    have e : zh8 os ims (d + 1 + 1) p = (zcz os ims p.length).flatMap fun x => zh8 os ims (d + 1) (p ++ [x]) := rfl
    have e' : zh8 os ims (d + 1) p = (zcz os ims p.length).flatMap fun x => zh8 os ims d (p ++ [x]) := rfl
    rw [e, e', List.flatMap_assoc]
    congr 1
    funext x
    exact zuq d (p ++ [x])
theorem zwh {α : Type} (f : Nat → α) (L : Nat) : ∀ m, (List.range (m * L)).map f = (List.range m).flatMap fun q => (List.range L).map fun r => f (q * L + r)
  | 0 => by simp
  | m + 1 => by
    rw [Nat.succ_mul, List.range_add, List.map_append, zwh f L m, List.range_succ, List.flatMap_append, List.flatMap_singleton, List.map_map]
    rfl
theorem zt8 {α β : Type} (S : List α) (z : α) (f : α → β) : (List.range S.length).map (fun r => f (S.getD r z)) = S.map f := by
  apply List.ext_getElem
  · simp
  · intro i h1 h2
    simp only [List.length_map, List.length_range] at h1 h2
    simp [List.getD, h2]
theorem zxj : ∀ n, (List.range (cntM os ims n)).map (wthN os ims n) = zh8 os ims n []
  | 0 => rfl
  | n + 1 => by
    rw [zuq, ← zxj n, List.flatMap_map]
    show (List.range (cntM os ims n * (zcz os ims n).length)).map _ = _
    rw [zwh]
    congr 1
    funext q
    rw [zyl, ← zt8 (zcz os ims n) zN]
    refine List.map_congr_left fun r hr => ?_
    have hr' := List.mem_range.1 hr
    have hpos : 0 < (zcz os ims n).length := by omega
    show wthN os ims n ((q * (zcz os ims n).length + r) / (zcz os ims n).length) ++ [(zcz os ims n).getD ((q * (zcz os ims n).length + r) % (zcz os ims n).length) zN] = _
    rw [Nat.mul_comm q, Nat.mul_add_div hpos, Nat.div_eq_of_lt hr', Nat.add_zero, Nat.mul_add_mod, Nat.mod_eq_of_lt hr']
theorem zxk (n : Nat) : (zh8 os ims n []).length = cntM os ims n := by rw [← zxj]; simp
theorem ycd (n a : Nat) (h : a < cntM os ims n) : (zh8 os ims n [])[a]? = some (wthN os ims n a) := by rw [← zxj]; simp [h]
theorem zym (ho : zf7 os ims = true) {p : List Instr} (h : okP p) (hp : p.length ≤ 2) {x : Instr} (hx : x ∈ zcz os ims p.length) : okP (p ++ [x]) := by
  refine ⟨by rw [List.length_append, List.length_singleton]; omega, fun i hi => ?_⟩
  rw [List.length_append, List.length_singleton] at hi
  by_cases q : i < p.length
  · have := h.2 i q
    rwa [show (p ++ [x]).getD i zN = p.getD i zN by simp [List.getD, List.getElem?_append_left q]]
  · obtain rfl : i = p.length := by omega
    rw [show (p ++ [x]).getD p.length zN = x by simp [List.getD]]
    exact ydx ho hp hx
theorem yav : okP [] := ⟨by simp, fun i hi => by simp at hi⟩
theorem zyn (ho : zf7 os ims = true) : ∀ (d : Nat) (p l : List Instr), p.length + d ≤ 3 → okP p → l ∈ zh8 os ims d p → okP l
  | 0, p, l, _, h, hl => by
    obtain rfl := List.mem_singleton.1 hl
    exact h
  | d + 1, p, l, hd, h, hl => by
    unfold zh8 at hl
    obtain ⟨x, hx, hl⟩ := List.mem_flatMap.1 hl
    exact zyn ho d (p ++ [x]) l (by rw [List.length_append, List.length_singleton]; omega) (zym os ims ho h (by omega) hx) hl
end
end Go.Proofs.YtnaafcleafbejaaGreat.PL
end
section
namespace Go.Proofs.YtnaafcleafbejaaGreat.PL
open Go Go.RowKit Go.Proofs.YtnaafcleafbejaaGreatW.PrintWords Go.Proofs.YtnaafcleafbejaaGreatW.PrintLast Go.Proofs.YtnaafcleafbejaaGreatW.PrintMore Go.Proofs.YtnaafcleafbejaaGreat.Q
set_option linter.unusedSimpArgs false
set_option linter.unusedVariables false
def zmn (l : List Instr) : Int := if l.length = 0 then 0 else ((1 + l.length : Nat) : Int)
theorem ycz {l : List Instr} (h : okP l) : l.length ≤ 40 := by have := h.1; omega
theorem zyo {l : List Instr} (h : okP l) : 0 ≤ zmn l ∧ zmn l ≤ 5 := by
  have := h.1
  unfold zmn
  split <;> omega
theorem yaw {l : List Instr} (h : okP l) : zj0 l = some (zmn l) := by
  have := h.1
  unfold zj0 zmn
  by_cases h0 : l.length = 0
  · rw [if_pos (by omega), if_pos h0]
  · rw [if_neg (by omega), if_neg h0, w64 (by omega) (by omega)]
    rfl
end Go.Proofs.YtnaafcleafbejaaGreat.PL
end
section
namespace Go.Proofs.YtnaafcleafbejaaGreat.PL
open Go Go.RowKit Go.Proofs.YtnaafcleafbejaaGreatW.PrintWords Go.Proofs.YtnaafcleafbejaaGreatW.PrintLast Go.Proofs.YtnaafcleafbejaaGreatW.PrintMore Go.Proofs.YtnaafcleafbejaaGreat.Q
set_option linter.unusedSimpArgs false
set_option linter.unusedVariables false
theorem zxl {s : ByteArray} (h : zo7 s ∨ zpn s) (a b : Int) : za5 s a b = za5 s a 0 := by
  unfold zo7 zpn at h
  unfold za5
  by_cases q : s.toList = ([110, 111, 116] : List UInt8)
  · rw [if_pos q, if_pos q]
  · have q2 := h.resolve_left q
    rw [if_neg q, if_neg q, if_pos q2, if_pos q2]
def apV (s : ByteArray) (a b : Int) : Int := (za5 s a b).getD 0
theorem zyp (s : ByteArray) (a b : Int) (hb : 0 ≤ b) : za5 s a b = some (apV s a b) := by
  obtain ⟨v, e, _⟩ := zn3 s a b hb
  unfold apV
  rw [e]
  rfl
theorem yc0 (s : ByteArray) (a b : Int) (hb : 0 ≤ b) : okV (apV s a b) := by
  obtain ⟨v, e, h⟩ := zn3 s a b hb
  unfold apV
  rw [e]
  exact h
def ndV (x : Node) (a b : Int) (out : List Int) : Int := match kN x.f0 with
  | 0 => if x.f3 = 0 then a else b
  | 1 => x.f3
  | 2 => apV x.f0 (rd out x.f1) 0
  | _ => apV x.f0 (rd out x.f1) (rd out x.f2)
section
variable {x : Node} {a b : Int} {o : List Int}
theorem ydy (e : kN x.f0 = 0) : ndV x a b o = if x.f3 = 0 then a else b := by unfold ndV; rw [e]; rfl
theorem ydz (e : kN x.f0 = 1) : ndV x a b o = x.f3 := by unfold ndV; rw [e]; rfl
theorem yd0 (e : kN x.f0 = 2) : ndV x a b o = apV x.f0 (rd o x.f1) 0 := by unfold ndV; rw [e]; rfl
theorem yd1 (e : kN x.f0 = 3) : ndV x a b o = apV x.f0 (rd o x.f1) (rd o x.f2) := by unfold ndV; rw [e]; rfl
end
def vlL (a b : Int) (l : List Node) : List Int := l.foldl (fun out x => out ++ [ndV x a b out]) []
theorem zvq (a b : Int) (l : List Node) (i : Nat) (h : i < l.length) : vlL a b (l.take (i + 1)) = vlL a b (l.take i) ++ [ndV l[i] a b (vlL a b (l.take i))] := by
  unfold vlL
  rw [List.take_succ_eq_append_getElem h, List.foldl_append]
  rfl
theorem ztq (a b : Int) (l : List Node) : (vlL a b l).length = l.length := by
  have key : ∀ (l : List Node) (o : List Int), (l.foldl (fun out x => out ++ [ndV x a b out]) o).length = o.length + l.length := by
    intro l
    induction l with
    | nil => intro o; rfl
    | cons x l ih =>
      intro o
      rw [List.foldl_cons, ih]
      simp only [List.length_append, List.length_cons, List.length_nil]
      omega
  unfold vlL
  rw [key]
  simp
theorem yd2 (xs ys : List Int) (p : Int) (h0 : 0 ≤ p) (h1 : p < xs.length) : rd (xs ++ ys) p = rd xs p := by
  unfold rd
  rw [List.getD_eq_getElem?_getD, List.getD_eq_getElem?_getD, List.getElem?_append_left (by omega)]
theorem zxm {x : Node} {i : Int} (h : okNx x i = true) : (kN x.f0 = 0 ∧ isIn x.f0 ∧ x.f1 = 0 ∧ x.f2 = 0 ∧ 0 ≤ x.f3 ∧ x.f3 ≤ 1) ∨ (kN x.f0 = 1 ∧ ¬ isIn x.f0 ∧ zgu x.f0 ∧ 0 ≤ x.f3 ∧ x.f3 ≤ 63) ∨
    (kN x.f0 = 2 ∧ ¬ isIn x.f0 ∧ ¬ zgu x.f0 ∧ (zo7 x.f0 ∨ zpn x.f0) ∧ 0 ≤ x.f1 ∧ x.f1 ≤ i - 1 ∧ x.f2 = 0) ∨ (kN x.f0 = 3 ∧ ¬ isIn x.f0 ∧ ¬ zgu x.f0 ∧ ¬ (zo7 x.f0 ∨ zpn x.f0) ∧ 0 ≤ x.f1 ∧ x.f1 ≤ i - 1 ∧ 0 ≤ x.f2 ∧ x.f2 ≤ i - 1) := by
  unfold okNx kN at h
  unfold kN
  by_cases h0 : isIn x.f0
  · rw [if_pos h0] at h
    have := of_decide_eq_true h
    exact .inl ⟨if_pos h0, h0, this.1, this.2.1, this.2.2.1, this.2.2.2⟩
  · rw [if_neg h0] at h
    by_cases h1 : zgu x.f0
    · rw [if_pos h1] at h
      have := of_decide_eq_true h
      exact .inr (.inl ⟨by rw [if_neg h0, if_pos h1], h0, h1, this.2.2.1, this.2.2.2⟩)
    · rw [if_neg h1] at h
      by_cases h2 : zo7 x.f0 ∨ zpn x.f0
      · rw [if_pos h2] at h
        have := of_decide_eq_true h
        exact .inr (.inr (.inl ⟨by rw [if_neg h0, if_neg h1, if_pos h2], h0, h1, h2, this.1.1, this.1.2, this.2.1⟩))
      · rw [if_neg h2] at h
        by_cases h3 : hasS bops x.f0 = true
        · rw [if_pos h3] at h
          have := of_decide_eq_true h
          exact .inr (.inr (.inr ⟨by rw [if_neg h0, if_neg h1, if_neg h2, if_pos h3], h0, h1, h2, this.1.1, this.1.2, this.2.1.1, this.2.1.2⟩))
        · rw [if_neg h3] at h
          cases h
theorem yfn {x : Node} {i : Nat} (h : okNx x i = true) {a b : Int} (ha : okV a) (hb : okV b) {o : List Int} (ho : ∀ v ∈ o, okV v) : okV (ndV x a b o) := by
  have hrd : ∀ p : Int, okV (rd o p) := fun p => by
    unfold rd
    rw [List.getD_eq_getElem?_getD]
    cases e : o[p.toNat]? with
    | none => simp; unfold okV; omega
    | some v => exact ho v (List.mem_of_getElem? e)
  rcases zxm h with ⟨e, _, _, _, h3⟩ | ⟨e, _, _, h3⟩ | ⟨e, _⟩ | ⟨e, _⟩
  · rw [ydy e]
    split
    · exact ha
    · exact hb
  · rw [ydz e]
    exact h3
  · rw [yd0 e]
    exact yc0 _ _ _ (Int.le_refl 0)
  · rw [yd1 e]
    exact yc0 _ _ _ (hrd _).1
theorem zwi {l : List Node} (ok : okNs 0 l = true) {a b : Int} (ha : okV a) (hb : okV b) : ∀ i, i ≤ l.length → ∀ v ∈ vlL a b (l.take i), okV v
  | 0, _, v, h => by simp [vlL] at h
  | i + 1, hi, v, h => by
    rw [zvq a b l i (by omega)] at h
    rcases List.mem_append.1 h with h | h
    · exact zwi ok ha hb i (by omega) v h
    · rw [List.mem_singleton.1 h]
      have hx := zpc l 0 i (by omega) ok
      rw [Nat.zero_add] at hx
      exact yfn hx ha hb (zwi ok ha hb i (by omega))
section
variable (l : List Node) (ok : okNs 0 l = true) (hl : l.length ≤ 1000) (a b : Int) (ha : okV a) (hb : okV b)
include ok hl ha hb
theorem yax : Ev (fun k => zg3 k l a b) (vlL a b l) := by
  have key : ∀ (d i : Nat), i + d = l.length → Ev (fun k => zc0 k a b (vlL a b (l.take i) ++ List.replicate d 0) l l.length i) (vlL a b l) := by
    intro d
    induction d with
    | zero =>
      intro i hi
      refine Ev.step (f := fun _ => some (vlL a b l)) (fun k => ?_) (Ev.now _)
      simp only [zc0]
      rw [if_neg (by omega), List.take_of_length_le (by omega), List.replicate_zero, List.append_nil]
    | succ d ih =>
      intro i hi
      have hlt : i < l.length := by omega
      have next := ih (i + 1) (by omega)
      have hx := zul (zcj l i hlt)
      have hok := zpc l 0 i hlt ok
      rw [Nat.zero_add] at hok
      have hv := zwi ok ha hb i (by omega)
      have hlen : (vlL a b (l.take i)).length = i := by rw [ztq, List.length_take]; omega
      rw [zvq a b l i hlt] at next
      obtain ⟨xs, hxs⟩ : ∃ xs, xs = vlL a b (l.take i) := ⟨_, rfl⟩
      rw [← hxs] at next hlen hv ⊢
      have hi7 : (i : Int) < ((xs ++ List.replicate (d + 1) (0 : Int)).length : Int) := by rw [List.length_append, List.length_replicate]; omega
      have e := fun v => zpb xs (List.replicate d (0 : Int)) 0 v
      rw [List.length_replicate, hlen] at e
      have rdx : ∀ p : Int, 0 ≤ p → p ≤ (i : Int) - 1 → rd (xs ++ List.replicate (d + 1) 0) p = rd xs p := fun p h0 h1 => yd2 _ _ p h0 (by omega)
      have hrd : ∀ p : Int, 0 ≤ rd xs p := fun p => by
        unfold rd
        rw [List.getD_eq_getElem?_getD]
        cases q : xs[p.toNat]? with
        | none => simp
        | some v => exact (hv v (List.mem_of_getElem? q)).1
      have hle : ((xs ++ List.replicate (d + 1) (0 : Int)).length : Int) = (i : Int) + (d + 1) := by rw [List.length_append, List.length_replicate]; omega
      refine Ev.step (fun k => by simp only [zc0]; rfl) (zad (by omega) (zad (by omega) (zad (by omega) ?_)))
      rw [hx]
      obtain ⟨x, hxx⟩ : ∃ x, x = l[i] := ⟨_, rfl⟩
      rw [← hxx] at next hok ⊢
      rcases zxm hok with ⟨c, h0, _, _, h3, h3'⟩ | ⟨c, h0, h1, _⟩ | ⟨c, h0, h1, h2, g1, g1', g2⟩ | ⟨c, h0, h1, h2, g1, g1', g2, g2'⟩
      · rw [ydy c] at next
        refine zad h0 (Ev.call rfl (zad h3 (zad (by show x.f3 < ((2 : Nat) : Int); omega) (zad hi7 ?_))))
        rw [Int.toNat_natCast, e, w64n i (by omega)]
        have : rd [a, b] x.f3 = if x.f3 = 0 then a else b := by
          rcases (show x.f3 = 0 ∨ x.f3 = 1 by omega) with q | q <;> rw [q] <;> rfl
        rw [this]
        exact next
      · rw [ydz c] at next
        refine zao h0 (zad h1 (zad hi7 ?_))
        rw [Int.toNat_natCast, e, w64n i (by omega)]
        exact next
      · rw [yd0 c] at next
        refine zao h0 (zao h1 (zad g1 (zad (by omega) (zad (by omega) (zad (by omega) ?_)))))
        rw [rdx _ g1 g1', zqz, zxl h2]
        refine Ev.call (zyp _ _ _ (Int.le_refl 0)) (zad hi7 ?_)
        rw [Int.toNat_natCast, e, w64n i (by omega)]
        exact next
      · rw [yd1 c] at next
        refine zao h0 (zao h1 (zad g1 (zad (by omega) (zad g2 (zad (by omega) ?_)))))
        rw [rdx _ g1 g1', rdx _ g2 g2', zqz]
        refine Ev.call (zyp _ _ _ (hrd _)) (zad hi7 ?_)
        rw [Int.toNat_natCast, e, w64n i (by omega)]
        exact next
  unfold zg3
  refine zad (by omega) (zad (by omega) ?_)
  rw [Int.toNat_natCast]
  exact key l.length 0 (by omega)
theorem zxn : Ev (fun k => zfw k l a b) (vlL a b l) := by
  have key : ∀ (d i : Nat), i + d = l.length → Ev (fun k => zbt k a b (vlL a b (l.take i)) l l.length i) (vlL a b l) := by
    intro d
    induction d with
    | zero =>
      intro i hi
      refine Ev.step (f := fun _ => some (vlL a b l)) (fun k => ?_) (Ev.now _)
      simp only [zbt]
      rw [if_neg (by omega), List.take_of_length_le (by omega)]
    | succ d ih =>
      intro i hi
      have hlt : i < l.length := by omega
      have next := ih (i + 1) (by omega)
      have hx := zul (zcj l i hlt)
      have hok := zpc l 0 i hlt ok
      rw [Nat.zero_add] at hok
      have hv := zwi ok ha hb i (by omega)
      have hlen : (vlL a b (l.take i)).length = i := by rw [ztq, List.length_take]; omega
      rw [zvq a b l i hlt] at next
      obtain ⟨xs, hxs⟩ : ∃ xs, xs = vlL a b (l.take i) := ⟨_, rfl⟩
      rw [← hxs] at next hlen hv ⊢
      have hrd : ∀ p : Int, 0 ≤ rd xs p := fun p => by
        unfold rd
        rw [List.getD_eq_getElem?_getD]
        cases q : xs[p.toNat]? with
        | none => simp
        | some v => exact (hv v (List.mem_of_getElem? q)).1
      have hcap : xs.length < 17592186044416 := by omega
      refine Ev.step (fun k => by simp only [zbt]; rfl) (zad (by omega) (zad (by omega) (zad (by omega) ?_)))
      rw [hx, w64n i (by omega)]
      obtain ⟨x, hxx⟩ : ∃ x, x = l[i] := ⟨_, rfl⟩
      rw [← hxx] at next hok ⊢
      have one := zve x.f0
      rcases zxm hok with ⟨c, h0, _, _, h3, h3'⟩ | ⟨c, h0, h1, _⟩ | ⟨c, h0, h1, h2, g1, g1', g2⟩ | ⟨c, h0, h1, h2, g1, g1', g2, g2'⟩
      · rw [ydy c] at next
        have h1 : ¬ zgu x.f0 := fun q => by
          unfold zgu at q
          unfold isIn at h0
          rw [h0] at q
          cases q
        refine zao h1 (zad h0 (Ev.step (fun k => by simp only [zcw]; rfl) ?_))
        by_cases q : x.f3 = 0
        · rw [if_pos q] at next
          exact zad (by rw [q]; rfl) (zad hcap (by rw [w64n i (by omega)]; exact next))
        · rw [if_neg q] at next
          exact zao (by rw [beq_iff_eq]; exact q) (zad h0 (zad hcap (by rw [w64n i (by omega)]; exact next)))
      · rw [ydz c] at next
        exact zad h1 (zad hcap next)
      · rw [yd0 c] at next
        refine zao h1 (zao h0 (Ev.step (fun k => by simp only [zcw]; rfl) (zao (by decide) (zao h0 (Ev.call one ?_)))))
        refine zad (decide_eq_true h2) (zad g1 (zad (by omega) ?_))
        refine Ev.call (zyp _ _ _ (Int.le_refl 0)) (zad hcap ?_)
        rw [w64n i (by omega)]
        exact next
      · rw [yd1 c] at next
        refine zao h1 (zao h0 (Ev.step (fun k => by simp only [zcw]; rfl) (zao (by decide) (zao h0 (Ev.call one ?_)))))
        refine zao (by rw [decide_eq_false h2]; decide) (zad g1 (zad (by omega) (zad g2 (zad (by omega) ?_))))
        refine Ev.call (zyp _ _ _ (hrd _)) (zad hcap ?_)
        rw [w64n i (by omega)]
        exact next
  unfold zfw
  exact key l.length 0 (by omega)
end
def evE (l : List Node) (a b : Int) : Int := rd (vlL a b l) ((l.length - 1 : Nat) : Int)
section
variable (l : List Node) (ok : okNs 0 l = true) (h0 : 0 < l.length) (hl : l.length ≤ 1000) (a b : Int) (ha : okV a) (hb : okV b)
include ok h0 hl ha hb
theorem yd3 : Ev (fun k => zh0 k l a b) (evE l a b) := by
  unfold zh0 evE
  have e : wrap64 ((l.length : Int) - 1) = ((l.length - 1 : Nat) : Int) := by rw [w64 (by omega) (by omega)]; omega
  rw [e]
  exact Ev.bind (yax l ok hl a b ha hb) (zad (by omega) (zad (by rw [ztq]; omega) (Ev.now _)))
theorem yd4 : Ev (fun k => zhl k l a b) (evE l a b) := by
  unfold zhl evE
  have e : wrap64 ((l.length : Int) - 1) = ((l.length - 1 : Nat) : Int) := by rw [w64 (by omega) (by omega)]; omega
  rw [e]
  exact Ev.bind (zxn l ok hl a b ha hb) (zad (by omega) (zad (by rw [ztq]; omega) (Ev.now _)))
theorem yfo : okV (evE l a b) := by
  unfold evE
  have h := zwi ok ha hb l.length (Nat.le_refl _)
  rw [List.take_length] at h
  unfold rd
  rw [List.getD_eq_getElem?_getD, Int.toNat_natCast, List.getElem?_eq_getElem (by rw [ztq]; omega)]
  exact h _ (List.getElem_mem _)
end
end Go.Proofs.YtnaafcleafbejaaGreat.PL
end
section
namespace Go.Proofs.YtnaafcleafbejaaGreat.PL
open Go Go.RowKit Go.Proofs.YtnaafcleafbejaaGreatW.PrintWords Go.Proofs.YtnaafcleafbejaaGreatW.PrintLast Go.Proofs.YtnaafcleafbejaaGreatW.PrintMore Go.Proofs.YtnaafcleafbejaaGreat.Q
set_option linter.unusedSimpArgs false
set_option linter.unusedVariables false
def allF (ok : Nat → Bool) (n i : Nat) : Bool := (List.range' i (n - i)).all ok
theorem yce (ok : Nat → Bool) (n : Nat) : allF ok n n = true := by unfold allF; rw [Nat.sub_self]; rfl
theorem yay (ok : Nat → Bool) (n i : Nat) (h : i < n) : allF ok n i = (ok i && allF ok n (i + 1)) := by
  unfold allF
  rw [show n - i = (n - (i + 1)) + 1 by omega, List.range'_succ, List.all_cons]
theorem zyq (ok : Nat → Bool) (n : Nat) : allF ok n 0 = true ↔ ∀ i, i < n → ok i = true := by
  unfold allF
  rw [List.all_eq_true, Nat.sub_zero]
  constructor
  · intro h i hi
    exact h i (List.mem_range'_1.2 ⟨Nat.zero_le _, by omega⟩)
  · intro h i hi
    have := List.mem_range'_1.1 hi
    exact h i (by omega)
def okAt (e : List Node) (l : List Instr) (i : Nat) : Bool := decide (rd (atI l i) (zmn l) = evE e ((i / 64 : Nat) : Int) ((i % 64 : Nat) : Int))
def reachB (e : List Node) (l : List Instr) : Bool := allF (okAt e l) 4096 0
def tabE (e : List Node) (n : Nat) : List Int := tbN (fun a b => evE e (a : Int) (b : Int)) n
theorem zur (e : List Node) (l : List Instr) : colN l (zmn l) 4096 = tabE e 4096 ↔ reachB e l = true := by
  have key : ∀ n, colN l (zmn l) n = tabE e n ↔ ∀ i, i < n → okAt e l i = true := fun n => by
    unfold colN tabE tbN okAt
    rw [List.map_inj_left]
    constructor
    · intro h i hi
      exact decide_eq_true (h i (List.mem_range.2 hi))
    · intro h i hi
      exact of_decide_eq_true (h i (List.mem_range.1 hi))
  unfold reachB
  rw [key, zyq]
theorem yaz (xs ys : List Int) (hx : xs.length ≤ 1048576) : Ev (fun k => zdq k xs ys) (decide (xs = ys)) := by
  unfold zdq
  by_cases hl : xs.length = ys.length
  · refine zad (by omega) ?_
    have key : ∀ (d i : Nat), i + d = xs.length → Ev (fun k => zbp k xs ys xs.length i) (decide (xs.drop i = ys.drop i)) := by
      intro d
      induction d with
      | zero =>
        intro i hi
        refine Ev.step (f := fun _ => some (decide (xs.drop i = ys.drop i))) (fun k => ?_) (Ev.now _)
        simp only [zbp]
        rw [if_neg (by omega), List.drop_of_length_le (by omega), List.drop_of_length_le (by omega)]
        simp
      | succ d ih =>
        intro i hi
        have h1 : i < xs.length := by omega
        have h2 : i < ys.length := by omega
        refine Ev.step (fun k => by simp only [zbp]; rfl) (zad (by omega) (zad (by omega) (zad (by omega) (zad (by omega) ?_))))
        rw [zlg (zcj xs i h1), zlg (zcj ys i h2), w64n i (by omega)]
        have e1 := List.drop_eq_getElem_cons h1
        have e2 := List.drop_eq_getElem_cons h2
        by_cases q : xs[i] = ys[i]
        · refine zad q (zku (ih (i + 1) (by omega)) ?_)
          rw [e1, e2, q]
          simp only [List.cons.injEq, true_and]
        · refine zao q (Ev.some ?_)
          rw [e1, e2]
          exact (decide_eq_false (fun e => q (List.cons.inj e).1)).symm
    have := key xs.length 0 (by omega)
    simpa using this
  · refine zao (by omega) (Ev.some ?_)
    rw [decide_eq_false (fun e => hl (by rw [e]))]
section
variable (e : List Node) (ok : okNs 0 e = true) (h0 : 0 < e.length) (hl : e.length ≤ 1000)
include ok h0 hl
theorem zyr (a b : Nat) (ha : a < 64) (hb : b < 64) : Ev (fun k => zh0 k e a b) (evE e (a : Int) (b : Int)) ∧ Ev (fun k => zhl k e a b) (evE e (a : Int) (b : Int)) ∧ okV (evE e (a : Int) (b : Int)) :=
  have oa : okV (a : Int) := by unfold okV; omega
  have ob : okV (b : Int) := by unfold okV; omega
  ⟨yd3 e ok h0 hl _ _ oa ob, yd4 e ok h0 hl _ _ oa ob, yfo e ok h0 hl _ _ oa ob⟩
theorem zus : Ev (fun k => zfi k e) (tabE e 4096) := by
  have one : ∀ a b : Nat, a < 64 → b < 64 → Ev (fun k => zfa k a b [e]) (evE e (a : Int) (b : Int)) := fun a b ha hb => by
    unfold zfa
    refine zad (by simp) ?_
    exact Ev.bind (zyr e ok h0 hl a b ha hb).1 (Ev.now _)
  unfold zfi
  refine Ev.bind ?_ (Ev.now _)
  unfold zb7 tabE
  refine zvn (fun a b => evE e (a : Int) (b : Int)) (fun k xs i => zar k xs i [e]) (fun k xs a c b => zas k xs a c b [e]) (fun a xs T ha h => ?_) (fun xs => ?_) (fun a b xs T ha hb hx h => ?_) (fun a xs T ha h => ?_)
  · exact Ev.step (fun k => by simp only [zar]; rfl) (zad (by omega) h)
  · refine Ev.step (f := fun _ => some xs) (fun k => ?_) (Ev.now _)
    simp only [zar]
    rw [if_neg (by omega)]
  · refine Ev.step (fun k => by simp only [zas]; rfl) (zad (by omega) (Ev.bind (one a b ha hb) ?_))
    refine zad (by omega) ?_
    rw [w64n b (by omega)]
    exact h
  · refine Ev.step (fun k => by simp only [zas]; rfl) (zao (by omega) ?_)
    rw [w64n a (by omega)]
    exact h
omit ok h0 hl in
theorem zys (n : Nat) : (tabE e n).length = n := zvm _ n
theorem yd5 : ∀ v ∈ tabE e 4096, 0 ≤ v ∧ v ≤ 63 := by
  have key : ∀ n, n ≤ 4096 → ∀ v ∈ tabE e n, 0 ≤ v ∧ v ≤ 63 := fun n hn v hv => by
    unfold tabE tbN at hv
    obtain ⟨i, hi, rfl⟩ := List.mem_map.1 hv
    have := List.mem_range.1 hi
    exact (zyr e ok h0 hl (i / 64) (i % 64) (by omega) (by omega)).2.2
  exact key 4096 (Nat.le_refl _)
theorem ya0 : Ev (fun k => zc9 k (tabE e 4096)) (tabE e 4096) := zp9 _ (by rw [zys e]; decide) (yd5 e ok h0 hl)
variable {l : List Instr} (h : okP l)
include h
omit ok h0 hl h in
theorem at_ab (a b : Nat) (hb : b < 64) : atI l (64 * a + b) = runM l (st0 a b) := by
  unfold atI endM
  rw [show (64 * a + b) / 64 = a by omega, show (64 * a + b) % 64 = b by omega]
omit ok h0 hl h in
theorem ya1 (a b : Nat) (hb : b < 64) : okAt e l (64 * a + b) = decide (rd (runM l (st0 a b)) (zmn l) = evE e (a : Int) (b : Int)) := by
  unfold okAt
  rw [at_ab (l := l) a b hb, show (64 * a + b) / 64 = a by omega, show (64 * a + b) % 64 = b by omega]
theorem ztr : ∃ t, Ev (fun k => zdu k e l (zmn l)) t ∧ t.2.2 = !reachB e l := by
  have hr := zyo h
  have key : ∀ (d a : Nat), a + d = 64 → ∃ t, Ev (fun k => zbu k e l (zmn l) a) t ∧ t.2.2 = !allF (okAt e l) 4096 (64 * a) := by
    intro d
    induction d with
    | zero =>
      intro a ha
      obtain rfl : a = 64 := by omega
      refine ⟨(0, 0, false), Ev.step (f := fun _ => some (0, 0, false)) (fun k => ?_) (Ev.now _), ?_⟩
      · simp only [zbu]
        rw [if_neg (by omega)]
      · rw [show 64 * 64 = 4096 by decide, yce]
        rfl
    | succ d ih =>
      intro a ha
      have next := ih (a + 1) (by omega)
      have row : ∀ (q b : Nat), b + q = 64 → ∃ t, Ev (fun k => za6 k e l (zmn l) a b) t ∧ t.2.2 = !allF (okAt e l) 4096 (64 * a + b) := by
        intro q
        induction q with
        | zero =>
          intro b hb
          obtain rfl : b = 64 := by omega
          obtain ⟨t, ht, ht'⟩ := next
          refine ⟨t, Ev.step (fun k => by simp only [za6]; rfl) (zao (by omega) ?_), ?_⟩
          · rw [w64n a (by omega)]
            exact ht
          · rw [ht', show 64 * (a + 1) = 64 * a + 64 by omega]
        | succ q ih2 =>
          intro b hb
          have hs := yaj (a := (a : Int)) (b := (b : Int)) (by unfold okV; omega) (by unfold okV; omega)
          have hk := (zxg l (ztp h) _ hs).1
          have ho := ya1 e (l := l) a b (by omega)
          rw [yay _ _ _ (by omega), ho]
          have pre : ∀ t, Ev (fun k => if rd (runM l (st0 a b)) (zmn l) = evE e (a : Int) (b : Int) then za6 k e l (zmn l) a (wrap64 ((b : Int) + 1)) else some ((a : Int), (b : Int), true)) t → Ev (fun k => za6 k e l (zmn l) a b) t := fun t ht => by
            refine Ev.step (fun k => by simp only [za6]; rfl) (zad (by omega) (Ev.call (zuo _ _) (Ev.bind (zyg l (ycz h) (ztp h) _ hs) ?_)))
            refine zad hr.1 ?_
            refine zad (by omega) ?_
            exact Ev.bind (zyr e ok h0 hl a b (by omega) (by omega)).2.1 ht
          by_cases q2 : rd (runM l (st0 a b)) (zmn l) = evE e (a : Int) (b : Int)
          · obtain ⟨t, ht, ht'⟩ := ih2 (b + 1) (by omega)
            refine ⟨t, pre t (zad q2 ?_), ?_⟩
            · rw [w64n b (by omega)]
              exact ht
            · rw [ht', decide_eq_true q2, Bool.true_and, Nat.add_assoc]
          · refine ⟨_, pre _ (zao q2 (Ev.now _)), ?_⟩
            rw [decide_eq_false q2, Bool.false_and]
            rfl
      obtain ⟨t, ht, ht'⟩ := row 64 0 (by omega)
      refine ⟨t, Ev.step (fun k => by simp only [zbu]; rfl) (zad (by omega) ht), ?_⟩
      rw [ht', Nat.add_zero]
  unfold zdu
  exact key 64 0 (by omega)
theorem zwj : Ev (fun k => zff k e l) (reachB e l) := by
  have hr := zyo h
  obtain ⟨t, ht, ht'⟩ := ztr e ok h0 hl h
  have step : ∀ (Y : List (List Int)) (i a b : Nat), Y.length = 4 → i < 4 → a < 64 → b < 64 → ze1 Y (i : Int) = [(a : Int), (b : Int)] → Ev (fun k => zb3 k e l (zmn l) Y 4 ((i + 1 : Nat) : Int)) (reachB e l) → Ev (fun k => zb3 k e l (zmn l) Y 4 (i : Int)) (reachB e l) := by
    intro Y i a b hY hi ha hb hrow next
    have hs := yaj (a := (a : Int)) (b := (b : Int)) (by unfold okV; omega) (by unfold okV; omega)
    have hk := (zxg l (ztp h) _ hs).1
    refine Ev.step (fun k => by simp only [zb3]; rfl) (zad (by omega) (zad (by omega) (zad (by omega) ?_)))
    rw [hrow]
    refine zad (by simp) (zad (by simp) ?_)
    rw [show rd [(a : Int), (b : Int)] 0 = (a : Int) from rfl, show rd [(a : Int), (b : Int)] 1 = (b : Int) from rfl]
    refine Ev.call (zuo _ _) (Ev.bind (zyg l (ycz h) (ztp h) _ hs) ?_)
    refine zad hr.1 ?_
    refine zad (by omega) ?_
    refine Ev.bind (zyr e ok h0 hl a b ha hb).2.1 ?_
    by_cases q2 : rd (runM l (st0 a b)) (zmn l) = evE e (a : Int) (b : Int)
    · refine zad q2 ?_
      rw [w64n i (by omega)]
      exact next
    · refine zao q2 (Ev.some ?_)
      cases hB : reachB e l
      · rfl
      · unfold reachB at hB
        have := (zyq _ _).1 hB (64 * a + b) (by omega)
        rw [ya1 e (l := l) a b hb, decide_eq_false q2] at this
        cases this
  unfold zff
  refine Ev.call (yaw h) (Ev.call rfl ?_)
  refine step _ 0 37 22 rfl (by decide) (by decide) (by decide) rfl ?_
  refine step _ 1 5 63 rfl (by decide) (by decide) (by decide) rfl ?_
  refine step _ 2 62 3 rfl (by decide) (by decide) (by decide) rfl ?_
  refine step _ 3 1 1 rfl (by decide) (by decide) (by decide) rfl ?_
  refine Ev.step (fun k => by simp only [zb3]; rfl) (zao (by decide) (Ev.bind ht (Ev.some ?_)))
  rw [ht', Bool.not_not]
end
end Go.Proofs.YtnaafcleafbejaaGreat.PL
end
section
namespace Go.Proofs.YtnaafcleafbejaaGreat.PL
open Go Go.RowKit Go.Proofs.YtnaafcleafbejaaGreatW.PrintWords Go.Proofs.YtnaafcleafbejaaGreatW.PrintLast Go.Proofs.YtnaafcleafbejaaGreatW.PrintMore Go.Proofs.YtnaafcleafbejaaGreat.Q
set_option linter.unusedSimpArgs false
set_option linter.unusedVariables false
section
variable {σ α β : Type}
def fuL (h : α → σ → Bool × σ) : List α → σ → Bool × σ
  | [], s => (true, s)
  | x :: xs, s => if (h x s).1 = true then fuL h xs (h x s).2 else (false, (h x s).2)
theorem yd6 (h : α → σ → Bool × σ) (x : α) (s : σ) : fuL h [x] s = h x s := by
  simp only [fuL]
  obtain ⟨b, t⟩ := h x s
  cases b <;> rfl
theorem zut (h : α → σ → Bool × σ) : ∀ (xs ys : List α) (s : σ), fuL h (xs ++ ys) s = if (fuL h xs s).1 = true then fuL h ys (fuL h xs s).2 else (false, (fuL h xs s).2)
  | [], ys, s => by simp [fuL]
  | x :: xs, ys, s => by
    rw [List.cons_append]
    by_cases q : (h x s).1 = true
    · have e1 : ∀ zs, fuL h (x :: zs) s = fuL h zs (h x s).2 := fun zs => by simp only [fuL]; exact if_pos q
      rw [e1, e1]
      exact zut h xs ys _
    · have e1 : ∀ zs, fuL h (x :: zs) s = (false, (h x s).2) := fun zs => by simp only [fuL]; exact if_neg q
      rw [e1, e1]
      rfl
theorem zyt (h : β → σ → Bool × σ) (f : α → List β) : ∀ (xs : List α) (s : σ), fuL h (xs.flatMap f) s = fuL (fun x s => fuL h (f x) s) xs s
  | [], s => rfl
  | x :: xs, s => by
    rw [List.flatMap_cons, zut]
    simp only [fuL]
    by_cases q : (fuL h (f x) s).1 = true
    · rw [if_pos q, if_pos q, zyt h f xs]
    · rw [if_neg q, if_neg q]
theorem yc1 (g : Nat → Instr → σ → Option (Bool × σ)) (h : Instr → σ → Bool × σ) (I : σ → Prop) : ∀ (xs : List Instr), (∀ x ∈ xs, ∀ s, I s → Ev (fun k => g k x s) (h x s) ∧ ((h x s).1 = true → I (h x s).2)) → ∀ s, I s → Ev (fun k => pgL (g k) xs s) (fuL h xs s) ∧ ((fuL h xs s).1 = true → I (fuL h xs s).2)
  | [], _, s, hs => ⟨Ev.now _, fun _ => hs⟩
  | x :: xs, hx, s, hs => by
    obtain ⟨h1, h2⟩ := hx x (List.mem_cons_self ..) s hs
    show Ev (fun k => (g k x s).bind fun r => if r.1 = true then pgL (g k) xs r.2 else some (false, r.2)) _ ∧ _
    simp only [fuL]
    by_cases q : (h x s).1 = true
    · obtain ⟨h3, h4⟩ := yc1 g h I xs (fun y hy => hx y (List.mem_cons_of_mem _ hy)) _ (h2 q)
      rw [if_pos q]
      exact ⟨Ev.bind h1 (zad q h3), h4⟩
    · rw [if_neg q]
      exact ⟨Ev.bind h1 (zao q (Ev.now _)), fun h => Bool.noConfusion h⟩
theorem yc2 (k : Nat) (lists : List (List Instr)) (n : Int) (st : List Instr → List (List Int) → σ → Option (Bool × σ)) : ∀ d code cs s, LeO (pgM k lists n st d code cs s) (pgM k lists n st (d + 1) code cs s)
  | 0, _, _, _ => LeO.none _
  | d + 1, code, cs, s => zea (LeO.refl _) (zea (zu6 _ _ (fun x s => LeO.bind (LeO.refl _) (fun nx => yc2 k lists n st d _ nx s)) _ s) (LeO.refl _))
theorem yc3 (k : Nat) (lists : List (List Instr)) (n : Int) (st : List Instr → List (List Int) → σ → Option (Bool × σ)) (d : Nat) (code : List Instr) (cs : List (List Int)) (s : σ) (r : Bool × σ) (h : pgM k lists n st d code cs s = some r) : ∀ e, pgM k lists n st (d + e) code cs s = some r
  | 0 => h
  | e + 1 => yc2 k lists n st (d + e) code cs s r (yc3 k lists n st d code cs s r h e)
theorem ycf {lists : List (List Instr)} {n : Int} {st : Nat → List Instr → List (List Int) → σ → Option (Bool × σ)} {D : Nat} {code : List Instr} {cs : List (List Int)} {s : σ} {r : Bool × σ} (h : Ev (fun k => pgM k lists n (st k) D code cs s) r) : Ev (fun k => pgM k lists n (st k) k code cs s) r := by
  obtain ⟨K, hK⟩ := h
  refine ⟨max K D, fun k hk => ?_⟩
  have := yc3 k lists n (st k) D code cs s r (hK k (by omega)) (k - D)
  rwa [show D + (k - D) = k by omega] at this
end
section
variable {σ : Type} (os : List ByteArray) (ims : List Int) (ho : zf7 os ims = true) (n : Nat) (hn : n ≤ 3) (st : Nat → List Instr → List (List Int) → σ → Option (Bool × σ)) (step : List Instr → σ → Bool × σ) (I : σ → Prop)
  (hst : ∀ l, okP l → l.length = n → ∀ s, I s → Ev (fun k => st k l (cols l (n - 1)) s) (step l s) ∧ ((step l s).1 = true → I (step l s).2))
include ho hn hst
theorem yfp : ∀ (d : Nat) (p : List Instr), okP p → p.length + d = n → ∀ s, I s → Ev (fun k => pgM k ((List.range n).map (zcz os ims)) (n : Int) (st k) (d + 1) p (cols p (min p.length (n - 1))) s) (fuL step (zh8 os ims d p) s) ∧ ((fuL step (zh8 os ims d p) s).1 = true → I (fuL step (zh8 os ims d p) s).2) := by
  intro d
  induction d with
  | zero =>
    intro p hp hl s hs
    obtain ⟨h1, h2⟩ := hst p hp (by omega) s hs
    rw [show zh8 os ims 0 p = [p] from rfl, yd6, Nat.min_eq_right (by omega)]
    refine ⟨?_, h2⟩
    show Ev (fun k => if (p.length : Int) = (n : Int) then st k p (cols p (n - 1)) s else _) _
    exact zad (by omega) h1
  | succ d ih =>
    intro p hp hl s hs
    have eL : ((List.range n).map (zcz os ims)).getD p.length [] = zcz os ims p.length := by
      simp [List.getD, List.getElem?_range (show p.length < n by omega)]
    rw [Nat.min_eq_left (show p.length ≤ n - 1 by omega), show zh8 os ims (d + 1) p = (zcz os ims p.length).flatMap fun x => zh8 os ims d (p ++ [x]) from rfl, zyt]
    have key := yc1 (fun k x s => (zqf k (n : Int) p.length (cols p p.length) x).bind fun nx => pgM k ((List.range n).map (zcz os ims)) (n : Int) (st k) (d + 1) (p ++ [x]) nx s) (fun x s => fuL step (zh8 os ims d (p ++ [x])) s) I (zcz os ims p.length) (fun x hx s hs => ?_) s hs
    · refine ⟨?_, key.2⟩
      show Ev (fun k => if (p.length : Int) = (n : Int) then st k p (cols p p.length) s else if p.length < ((List.range n).map (zcz os ims)).length ∧ (cols p p.length).length < 1048576 ∧ p.length < 1048576 then pgL (fun x s => (zqf k (n : Int) p.length (cols p p.length) x).bind fun nx => pgM k ((List.range n).map (zcz os ims)) (n : Int) (st k) (d + 1) (p ++ [x]) nx s) (((List.range n).map (zcz os ims)).getD p.length []) s else none) _
      rw [eL]
      exact zao (by omega) (zad ⟨by rw [List.length_map, List.length_range]; omega, by rw [zq0]; omega, by omega⟩ key.1)
    · have hq := zym os ims ho hp (by omega) hx
      have hql : (p ++ [x]).length = p.length + 1 := by rw [List.length_append, List.length_singleton]
      have hk : p.length < (p ++ [x]).length := by omega
      have ex : (p ++ [x]).getD p.length zN = x := by simp [List.getD]
      have ecols : cols (p ++ [x]) p.length = cols p p.length := by
        unfold cols
        rw [List.take_left, List.take_length]
      have next := ih (p ++ [x]) hq (by omega) s hs
      refine ⟨?_, next.2⟩
      unfold zqf
      by_cases q : p.length + 1 < n
      · have hw := yap hq p.length x (by have := hq.2 p.length hk; rwa [ex] at this) (by omega)
        have hcs := yao hq p.length hk
        rw [ex, ecols] at hcs
        rw [ecols] at hw
        refine Ev.bind (zad (by rw [w64 (by omega) (by omega)]; omega) (Ev.bind hw (Ev.now _))) ?_
        rw [hql, Nat.min_eq_left (by omega), hcs] at next
        exact next.1
      · refine Ev.bind (zao (by rw [w64 (by omega) (by omega)]; omega) (Ev.now _)) ?_
        rw [hql, Nat.min_eq_right (by omega), show n - 1 = p.length by omega, ecols] at next
        exact next.1
omit hst in
theorem yd7 : ∀ (m i : Nat), i + m = n → Ev (fun k => pgGo k os ims m ((List.range i).map (zcz os ims))) ((List.range n).map (zcz os ims)) := by
  obtain ⟨ho', hi', hc⟩ := zoc ho
  intro m
  induction m with
  | zero =>
    intro i hi
    obtain rfl : i = n := by omega
    exact Ev.now _
  | succ m ih =>
    intro i hi
    have next := ih (i + 1) (by omega)
    rw [List.range_succ, List.map_append, List.map_singleton] at next
    show Ev (fun k => if ((List.range i).map (zcz os ims)).length < 1048576 then (zgy k os ims (((List.range i).map (zcz os ims)).length : Int)).bind fun xs => pgGo k os ims m ((List.range i).map (zcz os ims) ++ [xs]) else none) _
    rw [List.length_map, List.length_range]
    exact zad (by omega) (Ev.bind (yb4 os ims i ho' hi' (by omega) hc) next)
theorem yc4 (s : σ) (hs : I s) : Ev (fun k => pgP k os ims (n : Int) (st k) s) (fuL step (zh8 os ims n []) s) ∧ ((fuL step (zh8 os ims n []) s).1 = true → I (fuL step (zh8 os ims n []) s).2) := by
  have h := yfp os ims ho n hn st step I hst n [] yav (by simp) s hs
  refine ⟨?_, h.2⟩
  have h1 := h.1
  rw [List.length_nil, Nat.min_eq_left (Nat.zero_le _)] at h1
  unfold pgP
  have hg := yd7 os ims ho n hn n 0 (by omega)
  rw [Int.toNat_natCast]
  exact Ev.bind hg (Ev.bind (yca []) (zad (by rw [zq0]; omega) (ycf h1)))
end
theorem ya2 (e : List Node) {l : List Instr} (h : okP l) (n : Nat) (hn : l.length = n) : Ev (fun k => rcIs k (n : Int) (tabE e 4096) l (cols l (n - 1))) (reachB e l) := by
  have h3 := h.1
  unfold rcIs
  by_cases q : n = 0
  · subst q
    obtain rfl := List.eq_nil_of_length_eq_zero hn
    refine zad rfl (zad (by rw [zq0]; omega) ?_)
    have e1 : (cols [] (0 - 1)).getD 0 [] = colN [] (zmn []) 4096 := by
      have := zxh [] 0 0 (by omega)
      exact this
    rw [e1]
    refine zku (yaz _ _ (by rw [zvl]; decide)) ?_
    have := zur e ([] : List Instr)
    cases hB : reachB e []
    · exact decide_eq_false (fun q => by have := this.1 q; rw [hB] at this; cases this)
    · exact decide_eq_true (this.2 hB)
  · obtain ⟨m, rfl⟩ : ∃ m, n = m + 1 := ⟨n - 1, by omega⟩
    have hk : m < l.length := by omega
    have ew : wrap64 (((m + 1 : Nat) : Int) - 1) = (m : Int) := by rw [w64 (by omega) (by omega)]; omega
    rw [ew, yb5 l m hk, show m + 1 - 1 = m by omega]
    refine zao (by omega) (zad (by omega) (zku (zxi h m _ (h.2 m hk) (by omega) (tabE e 4096) (zys e 4096)) ?_))
    have ec := yan h m hk 4096 (Nat.le_refl _)
    rw [List.take_of_length_le (by omega)] at ec
    have er : zmn l = ((2 + m : Nat) : Int) := by
      unfold zmn
      rw [if_neg (by omega), hn]
      omega
    have hi := zur e l
    rw [er, ec] at hi
    have ha : ((List.range 4096).all fun i => decide (valM (l.getD m zN) (atI (l.take m) i) = rd (tabE e 4096) (i : Int))) = true ↔ (List.range 4096).map (fun i => valM (l.getD m zN) (atI (l.take m) i)) = tabE e 4096 := by
      rw [List.all_eq_true]
      constructor
      · intro q
        unfold tabE tbN
        refine List.map_congr_left fun i hi => ?_
        have := of_decide_eq_true (q i hi)
        rw [this]
        exact zlg (fun d => by simp [tabE, tbN, List.getD, List.mem_range.1 hi])
      · intro q i hi
        refine decide_eq_true ?_
        rw [← q]
        exact (zlg (fun d => by simp [List.getD, List.mem_range.1 hi])).symm
    rw [Bool.eq_iff_iff, ha, hi]
def zps {σ : Type} (e : List Node) (step : List Instr → σ → Bool × σ) (l : List Instr) (s : σ) : Bool × σ := if reachB e l = true then step l s else (true, s)
def zyu (acB : List Instr → Bool) (l : List Instr) (s : List Instr × Bool) : Bool × (List Instr × Bool) := if acB l = true then (false, (l, true)) else (!s.2, s)
theorem ya3 (e : List Node) (acB : List Instr → Bool) : ∀ ls : List (List Instr), fuL (zps e (zyu acB)) ls ([], false) = match ls.find? (fun l => reachB e l && acB l) with
    | some l => (false, (l, true))
    | none => (true, ([], false))
  | [] => rfl
  | l :: ls => by
    have ih := ya3 e acB ls
    simp only [fuL, zps, zyu]
    cases h1 : reachB e l with
    | false =>
      rw [List.find?_cons_of_neg (by rw [h1, Bool.false_and]; decide)]
      exact ih
    | true =>
      cases h2 : acB l with
      | false =>
        rw [List.find?_cons_of_neg (by rw [h1, h2]; decide)]
        exact ih
      | true =>
        rw [List.find?_cons_of_pos (by rw [h1, h2]; rfl)]
        rfl
def zpt (os : List ByteArray) (ims : List Int) (p : List Instr → Bool) : Nat → Nat → List Instr × Bool
  | 0, _ => ([], false)
  | m + 1, i => match (zh8 os ims i []).find? p with
    | some l => (l, true)
    | none => zpt os ims p m (i + 1)
section
variable (e : List Node) (ok : okNs 0 e = true) (h0 : 0 < e.length) (hl : e.length ≤ 24) (os : List ByteArray) (ims : List Int) (ho : zf7 os ims = true)
include ok h0 hl ho
omit ok h0 hl in
theorem yfq (ac : Nat → List Instr → List (List Int) → Option Bool) (acB : List Instr → Bool) (hac : ∀ l, okP l → Ev (fun k => ac k l (cols l (l.length - 1))) (acB l)) : ∀ (m i : Nat), i + m ≤ 4 → Ev (fun k => shL k os ims (tabE e 4096) (ac k) m i) (zpt os ims (fun l => reachB e l && acB l) m i) := by
  intro m
  induction m with
  | zero => exact fun i _ => Ev.now _
  | succ m ih =>
    intro i hi
    show Ev (fun k => (pgP k os ims (i : Int) (rcSt k (i : Int) (tabE e 4096) (shSt (ac k))) (([] : List Instr), false)).bind fun r => if r.2.2 = true then some (r.2.1, true) else shL k os ims (tabE e 4096) (ac k) m (i + 1)) _
    have hp := (yc4 os ims ho i (by omega) (fun k => rcSt k (i : Int) (tabE e 4096) (shSt (ac k))) (zps e (zyu acB)) (fun _ => True) (fun l hlp hln s _ => ⟨?_, fun _ => trivial⟩) (([] : List Instr), false) trivial).1
    · rw [ya3] at hp
      refine Ev.bind hp ?_
      simp only [zpt]
      cases hf : (zh8 os ims i []).find? (fun l => reachB e l && acB l) with
      | some l => exact zad rfl (Ev.now _)
      | none => exact zao (by decide) (ih (i + 1) (by omega))
    · unfold rcSt zps
      refine Ev.bind (ya2 e hlp i hln) ?_
      by_cases q : reachB e l = true
      · rw [if_pos q]
        refine zad q ?_
        unfold shSt zyu
        have ha := hac l hlp
        rw [hln] at ha
        refine Ev.bind ha ?_
        by_cases q2 : acB l = true
        · refine zad q2 (zad (by have := hlp.1; omega) (Ev.some ?_))
          rw [if_pos q2]
        · refine zao q2 (Ev.some ?_)
          rw [if_neg q2]
      · rw [if_neg q]
        exact zao q (Ev.now _)
theorem zyv (n many : Nat) (hn : n ≤ 3) (hm : many ≤ 1048576) : Ev (fun k => zha k e os ims (n : Int) (many : Int)) (((zh8 os ims n []).filter (reachB e)).take many) := by
  obtain ⟨ho', hi', hc⟩ := zoc ho
  have hle := zvo os ims ho' hi' n hn
  have hct := zxk os ims n
  have key : ∀ (d a : Nat) (out : List (List Instr)), a + d = cntM os ims n → out.length ≤ many → Ev (fun k => zd7 k e (n : Int) (many : Int) out (a : Int) os ims) ((out ++ ((zh8 os ims n []).drop a).filter (reachB e)).take many) := by
    intro d
    induction d with
    | zero =>
      intro a out ha hout
      refine Ev.step (fun k => by simp only [zd7]; rfl) (Ev.bind (zup os ims ho n hn) ?_)
      refine zao (by omega) (Ev.step (fun k => by simp only [ze5]; rfl) ?_)
      refine zao (by decide) (Ev.some ?_)
      rw [List.drop_of_length_le (by omega), List.filter_nil, List.append_nil, List.take_of_length_le hout]
    | succ d ih =>
      intro a out ha hout
      have hin := ycd os ims n a (by omega)
      have hd : (zh8 os ims n []).drop a = wthN os ims n a :: (zh8 os ims n []).drop (a + 1) := by
        obtain ⟨h1, h2⟩ := List.getElem?_eq_some_iff.1 hin
        rw [List.drop_eq_getElem_cons h1, h2]
      rw [hd]
      refine Ev.step (fun k => by simp only [zd7]; rfl) (Ev.bind (zup os ims ho n hn) ?_)
      refine zad (by omega) (Ev.step (fun k => by simp only [ze5]; rfl) ?_)
      by_cases q : out.length < many
      · have hw := yat os ims ho n hn (a : Int) (by omega) (by omega)
        rw [yau] at hw
        have hok : okP (wthN os ims n a) := zyn os ims ho n [] _ (by simpa using hn) yav (List.mem_of_getElem? hin)
        refine zad (decide_eq_true (by omega)) (Ev.bind hw (Ev.bind (zwj e ok h0 (by omega) hok) ?_))
        rw [w64n a (by omega)]
        by_cases q2 : reachB e (wthN os ims n a) = true
        · have next := ih (a + 1) (out ++ [wthN os ims n a]) (by omega) (by rw [List.length_append, List.length_singleton]; omega)
          rw [List.append_assoc, List.singleton_append] at next
          rw [List.filter_cons_of_pos q2]
          exact zad q2 (zad (by omega) next)
        · rw [List.filter_cons_of_neg q2]
          exact zao q2 (ih (a + 1) out (by omega) hout)
      · refine zao (by simp; omega) (Ev.some ?_)
        rw [List.take_append_of_le_length (by omega), List.take_of_length_le hout]
  unfold zha
  have := key (cntM os ims n) 0 [] (by omega) (by simp)
  rw [List.nil_append, List.drop_zero] at this
  exact this
end
theorem zuu {α : Type} (p : α → Bool) : ∀ ls : List α, (ls.filter p).take 1 = (ls.find? p).toList
  | [] => rfl
  | x :: ls => by
    cases h : p x with
    | true => rw [List.filter_cons_of_pos h, List.find?_cons_of_pos h]; rfl
    | false => rw [List.filter_cons_of_neg (by rw [h]; decide), List.find?_cons_of_neg (by rw [h]; decide)]; exact zuu p ls
end Go.Proofs.YtnaafcleafbejaaGreat.PL
end
section
namespace Go.Proofs.YtnaafcleafbejaaGreat.PL
open Go Go.RowKit Go.Proofs.YtnaafcleafbejaaGreatW.PrintWords Go.Proofs.YtnaafcleafbejaaGreatW.PrintLast Go.Proofs.YtnaafcleafbejaaGreatW.PrintMore Go.Proofs.YtnaafcleafbejaaGreat.Q
set_option linter.unusedSimpArgs false
set_option linter.unusedVariables false
def zs1 (e : List Node) (os : List ByteArray) (ims : List Int) (most : Int) : Bool := zpr e && (zf7 os ims && decide (0 ≤ most ∧ most ≤ 3))
theorem zzc (a b c : Int) : zd3 a b c = some (decide (b ≤ a ∧ a ≤ c)) := by
  unfold zd3
  by_cases h : b ≤ a
  · rw [if_pos h]
    simp [h]
  · rw [if_neg h]
    simp [h]
theorem ycg (a b c : Int) : zet a b c = some (decide (b ≤ a ∧ a ≤ c)) := by
  unfold zet
  by_cases h : b ≤ a
  · rw [if_pos h]
    simp [h]
  · rw [if_neg h]
    simp [h]
theorem zxo (e : List Node) (os : List ByteArray) (ims : List Int) (most : Int) (ho : os.length ≤ 1048576) (hi : ims.length ≤ 1048576) : Ev (fun k => zfq k e os ims most) (zs1 e os ims most) := by
  unfold zfq zs1
  refine Ev.bind (yab e) ?_
  cases h1 : zpr e with
  | false => exact zao (by decide) (Ev.now _)
  | true =>
    refine zad rfl (Ev.bind (zxe os ims ho hi) ?_)
    cases h2 : zf7 os ims with
    | false => exact zao (by decide) (Ev.now _)
    | true => exact zad rfl (Ev.call (zzc _ _ _) (Ev.now _))
theorem ya4 (e : List Node) (os : List ByteArray) (ims : List Int) (most : Int) (ho : os.length ≤ 1048576) (hi : ims.length ≤ 1048576) : Ev (fun k => zhh k e os ims most) (zs1 e os ims most) := by
  unfold zhh zs1
  refine Ev.bind (yac e) ?_
  cases h1 : zpr e with
  | false => exact zao (by decide) (Ev.now _)
  | true =>
    refine zad rfl (Ev.bind (yaf os ims ho hi) ?_)
    cases h2 : zf7 os ims with
    | false => exact zao (by decide) (Ev.now _)
    | true => exact zad rfl (Ev.call (ycg _ _ _) (Ev.now _))
theorem zs7 {e : List Node} {os : List ByteArray} {ims : List Int} {most : Int} (h : zs1 e os ims most = true) : zpr e = true ∧ zf7 os ims = true ∧ 0 ≤ most ∧ most ≤ 3 := by
  unfold zs1 at h
  simp only [Bool.and_eq_true, decide_eq_true_eq] at h
  exact ⟨h.1, h.2.1, h.2.2.1, h.2.2.2⟩
theorem zzd (e : List Node) (ok : okNs 0 e = true) (h0 : 0 < e.length) (hl : e.length ≤ 24) (os : List ByteArray) (ims : List Int) (ho : zf7 os ims = true) (N : Nat) (hN : N ≤ 3) : Ev (fun k => zgi k e os ims (N : Int)) (zpt os ims (reachB e) (N + 1) 0) := by
  unfold zgi
  have key : ∀ (m i : Nat), i + m = N + 1 → Ev (fun k => zdj k e (N : Int) (i : Int) os ims) (zpt os ims (reachB e) m i) := by
    intro m
    induction m with
    | zero =>
      intro i hi
      refine Ev.step (fun k => by simp only [zdj]; rfl) ?_
      exact zao (by omega) (Ev.now _)
    | succ m ih =>
      intro i hi
      refine Ev.step (fun k => by simp only [zdj]; rfl) ?_
      have ha := zyv e ok h0 hl os ims ho i 1 (by omega) (by omega)
      rw [zuu] at ha
      refine zad (by omega) (Ev.bind ha ?_)
      simp only [zpt]
      cases hf : (zh8 os ims i []).find? (reachB e) with
      | none =>
        refine zao (by simp) ?_
        rw [w64n i (by omega)]
        exact ih (i + 1) (by omega)
      | some l => exact zad (by simp) (zad (by simp) (Ev.now _))
  exact key (N + 1) 0 (by omega)
def zj3 (e : List Node) (os : List ByteArray) (ims : List Int) (most : Int) : List Instr × Bool := if zs1 e os ims most = true then zpt os ims (reachB e) (most.toNat + 1) 0 else ([], false)
theorem zwk (e : List Node) (os : List ByteArray) (ims : List Int) (most : Int) (ho : os.length ≤ 1048576) (hi : ims.length ≤ 1048576) : Ev (fun k => zfx k e os ims most) (zj3 e os ims most) := by
  unfold zfx shF zj3
  refine Ev.bind (zxo e os ims most ho hi) ?_
  by_cases h : zs1 e os ims most = true
  · obtain ⟨h1, h2, h3, h4⟩ := zs7 h
    obtain ⟨⟨e1, e2⟩, e3⟩ := zto h1
    have hs := yfq e os ims h2 (fun _ _ _ => some true) (fun _ => true) (fun l _ => Ev.now _) (most.toNat + 1) 0 (by omega)
    simp only [Bool.and_true] at hs
    refine zad h (zad ⟨h3, by omega⟩ (Ev.bind (zus e e3 (by omega) (by omega)) (Ev.bind (ya0 e e3 (by omega) (by omega)) ?_)))
    rw [if_pos h, show (most + 1).toNat = most.toNat + 1 by omega]
    exact hs
  · rw [if_neg h]
    exact zao h (Ev.now _)
theorem zuv (os : List ByteArray) (ims : List Int) (p : List Instr → Bool) : ∀ m i, i + m ≤ 4 → (zpt os ims p m i).1.length ≤ 3
  | 0, _, _ => Nat.zero_le _
  | m + 1, i, h => by
    simp only [zpt]
    cases hf : (zh8 os ims i []).find? p with
    | none => exact zuv os ims p m (i + 1) (by omega)
    | some l =>
      have := (zvp os ims i [] l (List.mem_of_find?_eq_some hf)).1
      show l.length ≤ 3
      rw [this, List.length_nil]
      omega
theorem zr9 (e : List Node) (os : List ByteArray) (ims : List Int) (most : Int) : (zj3 e os ims most).1.length ≤ 3 := by
  unfold zj3
  by_cases h : zs1 e os ims most = true
  · obtain ⟨h1, h2, h3, h4⟩ := zs7 h
    rw [if_pos h]
    exact zuv os ims _ _ 0 (by omega)
  · rw [if_neg h]
    exact Nat.zero_le _
def zwl (l : List Instr) (s : List (List Instr)) : Bool × List (List Instr) := (decide (((s ++ [l]).length : Int) ≤ 50), s ++ [l])
theorem ya5 (e : List Node) : ∀ (ls : List (List Instr)) (s : List (List Instr)), s.length ≤ 50 → (fuL (zps e zwl) ls s).2 = s ++ (ls.filter (reachB e)).take (51 - s.length)
  | [], s, _ => by simp [fuL]
  | x :: xs, s, h => by
    cases hx : reachB e x with
    | false =>
      have ih := ya5 e xs s h
      simp only [fuL, zps, hx, List.filter_cons]
      simpa using ih
    | true =>
      simp only [fuL, zps, hx, List.filter_cons, zwl, if_true]
      by_cases hl : s.length + 1 ≤ 50
      · have ih := ya5 e xs (s ++ [x]) (by simpa using hl)
        rw [if_pos (by simp; omega)]
        rw [ih]
        simp only [List.length_append, List.length_singleton]
        rw [show 51 - s.length = (51 - (s.length + 1)) + 1 by omega, List.take_succ_cons]
        simp
      · rw [if_neg (by simp; omega)]
        have : s.length = 50 := by omega
        rw [this]
        simp
def allR (e : List Node) (os : List ByteArray) (ims : List Int) (most : Int) : List (List Instr) × Bool :=
  if (zj3 e os ims most).2 = true then
    if ((((zh8 os ims (zj3 e os ims most).1.length []).filter (reachB e)).take 51).length : Int) > 50 then ([], false) else (((zh8 os ims (zj3 e os ims most).1.length []).filter (reachB e)).take 51, true)
  else ([], false)
theorem zze (e : List Node) (os : List ByteArray) (ims : List Int) (most : Int) (ho : os.length ≤ 1048576) (hi : ims.length ≤ 1048576) : Ev (fun k => zfy k e os ims most) (allR e os ims most) := by
  unfold zfy alF allR
  have hf : Ev (fun k => zec k e os ims most) (((zj3 e os ims most).1.length : Int), (zj3 e os ims most).2) := by
    unfold zec
    exact Ev.bind (zwk e os ims most ho hi) (Ev.now _)
  refine Ev.bind hf ?_
  by_cases hb : (zj3 e os ims most).2 = true
  · rw [if_pos hb]
    have h : zs1 e os ims most = true := by
      by_cases q : zs1 e os ims most = true
      · exact q
      · unfold zj3 at hb
        rw [if_neg q] at hb
        exact absurd hb (by decide)
    obtain ⟨h1, h2, h3, h4⟩ := zs7 h
    obtain ⟨⟨e1, e2⟩, e3⟩ := zto h1
    have hn := zr9 e os ims most
    generalize (zj3 e os ims most).1.length = n at hn ⊢
    refine zad hb (Ev.bind (zus e e3 (by omega) (by omega)) (Ev.bind (ya0 e e3 (by omega) (by omega)) ?_))
    have hp := yc4 os ims h2 n hn (fun k => rcSt k (n : Int) (tabE e 4096) alSt) (zps e zwl) (fun s => s.length ≤ 50) (fun l hl hln s hs => by
      constructor
      · unfold rcSt
        refine Ev.bind (ya2 e hl n hln) ?_
        unfold zps
        cases hr : reachB e l with
        | false => exact zao (by decide) (Ev.now _)
        | true =>
          refine zad rfl ?_
          unfold alSt zwl
          rw [if_pos rfl]
          have := hl.1
          exact zad ⟨by omega, by omega⟩ (Ev.now _)
      · intro h
        unfold zps at h ⊢
        cases hr : reachB e l with
        | false => exact hs
        | true =>
          rw [hr] at h
          simp only [if_true, zwl, decide_eq_true_eq] at h ⊢
          omega) [] (by simp)
    refine Ev.bind hp.1 ?_
    have hall := ya5 e (zh8 os ims n []) [] (by simp)
    rw [List.nil_append, List.length_nil, Nat.sub_zero] at hall
    rw [hall]
    by_cases hq : ((((zh8 os ims n []).filter (reachB e)).take 51).length : Int) > 50
    · refine zad hq ?_
      rw [if_pos hq]
      exact Ev.now _
    · refine zao hq ?_
      rw [if_neg hq]
      exact Ev.now _
  · rw [if_neg hb]
    exact zao hb (Ev.now _)
theorem zzf (e : List Node) (os : List ByteArray) (ims : List Int) (most : Int) (ho : os.length ≤ 1048576) (hi : ims.length ≤ 1048576) : Ev (fun k => zeg k e os ims most) (allR e os ims most) := by
  unfold zeg allR
  refine Ev.bind (ya4 e os ims most ho hi) ?_
  by_cases h : zs1 e os ims most = true
  · obtain ⟨h1, h2, h3, h4⟩ := zs7 h
    obtain ⟨⟨e1, e2⟩, e3⟩ := zto h1
    have hn := zr9 e os ims most
    have hs := zzd e e3 (by omega) e2 os ims h2 most.toNat (by omega)
    rw [Int.toNat_of_nonneg h3] at hs
    have es : zj3 e os ims most = zpt os ims (reachB e) (most.toNat + 1) 0 := by unfold zj3; rw [if_pos h]
    rw [← es] at hs
    refine zad h (Ev.bind hs ?_)
    by_cases hb : (zj3 e os ims most).2 = true
    · rw [if_pos hb]
      refine zad hb ?_
      have ha := zyv e e3 (by omega) e2 os ims h2 (zj3 e os ims most).1.length 51 hn (by omega)
      refine Ev.bind ha ?_
      by_cases hq : ((((zh8 os ims (zj3 e os ims most).1.length []).filter (reachB e)).take 51).length : Int) > 50
      · refine zad hq ?_
        rw [if_pos hq]
        exact Ev.now _
      · refine zao hq ?_
        rw [if_neg hq]
        exact Ev.now _
    · rw [if_neg hb]
      exact zao hb (Ev.now _)
  · have hb : ¬ (zj3 e os ims most).2 = true := by
      unfold zj3
      rw [if_neg h]
      decide
    rw [if_neg hb]
    exact zao h (Ev.now _)
theorem yd8 (e : List Node) (os : List ByteArray) (ims : List Int) (most : Int) : (allR e os ims most).1.length ≤ 50 ∧ ∀ x ∈ (allR e os ims most).1, x.length ≤ 3 := by
  have hn := zr9 e os ims most
  unfold allR
  split
  · split
    · exact ⟨Nat.zero_le _, fun x hx => by simp at hx⟩
    · rename_i h
      refine ⟨by simp only []; omega, fun x hx => ?_⟩
      have h1 := List.mem_of_mem_take hx
      have h2 := (zvp os ims _ _ _ (List.mem_filter.1 h1).1).1
      simp only [List.length_nil] at h2
      omega
  · exact ⟨Nat.zero_le _, fun x hx => by simp at hx⟩
theorem ya6 {xs : List (List Instr)} {i : Nat} {x : List Instr} (h : ∀ d, xs.getD i d = x) : zji xs i = x := by
  unfold zji
  rw [Int.toNat_natCast]
  exact h _
theorem ya7 (l : List (List Instr)) (hl : l.length ≤ 1048576) (hb : ∀ x ∈ l, x.length ≤ 1048576) : Ev (fun k => zfc k l l) true := by
  unfold zfc
  refine zad rfl ?_
  have key : ∀ (d i : Nat), i + d = l.length → Ev (fun k => zce k l l i) true := by
    intro d
    induction d with
    | zero =>
      intro i hi
      refine Ev.step (f := fun _ => some true) (fun k => ?_) (Ev.now _)
      simp only [zce]
      rw [if_neg (by omega)]
    | succ d ih =>
      intro i hi
      have hlt : i < l.length := by omega
      refine Ev.step (fun k => by simp only [zce, ya6 (zcj l i hlt)]; rfl) (zad (by omega) (zad (by omega) (zad (by omega) (Ev.bind (zu7 _ (hb _ (List.getElem_mem hlt))) (zad rfl ?_)))))
      rw [w64n i (by omega)]
      exact ih (i + 1) (by omega)
  exact key l.length 0 (by omega)
noncomputable def zod : List (List Instr) → Nat → List (List Instr)
  | [], _ => []
  | x :: xs, a => zlw x.length a :: zod xs (a + 5 * x.length)
def cntI : List (List Instr) → Nat
  | [] => 0
  | x :: xs => 5 * x.length + cntI xs
theorem zo9 (x : List Instr) (xs : List (List Instr)) : cntI (x :: xs) = 5 * x.length + cntI xs := rfl
theorem yd9 (l : List (List Instr)) (m : Nat) (h : ∀ x ∈ l, x.length ≤ m) : cntI l ≤ 5 * m * l.length := by
  induction l with
  | nil => simp [cntI]
  | cons x xs ih =>
    have := ih (fun y hy => h y (List.mem_cons_of_mem _ hy))
    have := h x (List.mem_cons_self ..)
    rw [zo9, List.length_cons, Nat.mul_succ, Nat.mul_assoc]
    rw [Nat.mul_assoc] at *
    omega
theorem zsg (x : List Instr) (xs : List (List Instr)) (a : Nat) : zod (x :: xs) a = zlw x.length a :: zod xs (a + 5 * x.length) := rfl
theorem ya8 (l : List (List Instr)) (a : Nat) (hl : l.length ≤ 1048576) (h : a + cntI l ≤ 1048576) : Ev (fun k => zef k l a) (((a + cntI l : Nat) : Int), zod l a) := by
  have key : ∀ (l : List (List Instr)) (a : Nat), a + cntI l ≤ 1048576 → Ev (fun k => zc1 k l a) (((a + cntI l : Nat) : Int), zod l a) := by
    intro l
    induction l with
    | nil => intro a h; exact Ev.now _
    | cons x xs ih =>
      intro a h
      rw [zo9] at h
      refine Ev.bind (zva x a (by omega) (by omega)) ?_
      have := ih (a + 5 * x.length) (by omega)
      rw [show ((a + 5 * x.length : Nat) : Int) = (a : Int) + 5 * x.length by omega] at this
      refine Ev.bind this (Ev.some ?_)
      rw [zo9, zsg, Nat.add_assoc]
  unfold zef
  exact zad hl (key l a h)
theorem ya9 (l : List (List Instr)) (a : Nat) (hl : l.length ≤ 1048576) (h : a + cntI l ≤ 1048576) : Ev (fun k => zee k (zod l a) a) ((a + cntI l : Nat) : Int) := by
  unfold zee
  have key : ∀ (r : List (List Instr)) (pre : List (List Instr)) (b : Nat), pre.length + r.length ≤ 1048576 → b + cntI r ≤ 1048576 → Ev (fun k => zbw k (pre ++ zod r b) b pre.length) ((b + cntI r : Nat) : Int) := by
    intro r
    induction r with
    | nil =>
      intro pre b h1 h2
      refine Ev.step (f := fun _ => some (b : Int)) (fun k => ?_) (Ev.some rfl)
      simp only [zbw]
      rw [if_neg (by simp [zod])]
    | cons x xs ih =>
      intro pre b h1 h2
      rw [zo9] at h2
      simp only [List.length_cons] at h1
      have next := ih (pre ++ [zlw x.length b]) (b + 5 * x.length) (by rw [List.length_append, List.length_singleton]; omega) (by omega)
      rw [List.append_assoc, List.length_append, List.length_singleton] at next
      rw [zsg]
      have e : zji (pre ++ zlw x.length b :: zod xs (b + 5 * x.length)) (pre.length : Nat) = zlw x.length b := ya6 (fun d => zu9 _ _ _ _)
      refine Ev.step (fun k => by simp only [zbw]; rfl) (zad (by rw [List.length_append, List.length_cons]; omega) (zad (by omega) ?_))
      rw [e]
      refine Ev.bind (zvb x.length b (by omega) (by omega)) (zao (by omega) ?_)
      rw [w64n _ (by omega), show (b : Int) + 5 * (x.length : Int) = ((b + 5 * x.length : Nat) : Int) by omega]
      refine zku next ?_
      rw [zo9, Nat.add_assoc]
  exact key l [] a (by simpa using hl) h
noncomputable def zwm : Nat → Nat → List Node
  | 0, _ => []
  | n + 1, a => ⟨mtx a, (a + 1 : Nat), (a + 2 : Nat), (a + 3 : Nat)⟩ :: zwm n (a + 4)
theorem yea (xs : List Node) (y : Node) (ys : List Node) : zab (xs ++ y :: ys) (xs.length : Nat) = y := by
  unfold zab
  rw [Int.toNat_natCast, zu9]
theorem ych (l : List Node) (a : Nat) (hl : l.length ≤ 1048576) (ha : a ≤ 11534336) : Ev (fun k => zfd k l a) (((a + 4 * l.length : Nat) : Int), zwm l.length a) := by
  have key : ∀ (ys xs : List Node) (b : Nat), xs.length + ys.length ≤ 1048576 → b ≤ 16777216 - 4 * ys.length → Ev (fun k => zcf k (xs ++ ys) b xs.length) (((b + 4 * ys.length : Nat) : Int), xs ++ zwm ys.length b) := by
    intro ys
    induction ys with
    | nil =>
      intro xs b h h'
      refine Ev.step (f := fun _ => some (((b : Int), xs ++ []))) (fun k => ?_) (Ev.some ?_)
      · simp only [zcf]
        rw [if_neg (by simp)]
      · simp [zwm]
    | cons y ys ih =>
      intro xs b h h'
      simp only [List.length_cons] at h h'
      have := ih (xs ++ [⟨mtx b, (b + 1 : Nat), (b + 2 : Nat), (b + 3 : Nat)⟩]) (b + 4) (by simp; omega) (by omega)
      rw [List.append_assoc] at this
      refine Ev.step (fun k => by simp only [zcf]; rfl) ?_
      refine zad (by simp; omega) ?_
      refine Ev.bind (zx9 b (by omega)) ?_
      refine zad (by omega) ?_
      refine zri (fun k => ?_) (zku this ?_)
      · simp only [Option.bind_some, Int.toNat_natCast, zxa, yea, List.append_assoc, List.singleton_append]
        rw [w64n b (by omega), w64n (b + 1) (by omega), w64n (b + 2) (by omega), w64n (b + 3) (by omega), w64n _ (by omega)]
        congr 1
        simp
      · simp only [List.length_cons, zwm, Prod.mk.injEq]
        exact ⟨by omega, by simp⟩
  have := key l [] a (by simpa using hl) (by omega)
  unfold zfd
  simpa using this
theorem zt9 (l : List ByteArray) (a : Nat) (hl : l.length ≤ 1048576) (ha : a ≤ 8388608) : ∃ l', Ev (fun k => ze4 k l a) (((a + l.length : Nat) : Int), l') := by
  have key : ∀ (d i : Nat) (x : List ByteArray) (b : Nat), x.length ≤ 1048576 → i + d = x.length → b + d ≤ 16777216 → ∃ l', Ev (fun k => zby k x (b : Int) i) (((b + d : Nat) : Int), l') := by
    intro d
    induction d with
    | zero =>
      intro i x b hxl hi hb
      refine ⟨x, Ev.step (f := fun _ => some ((b : Int), x)) (fun k => ?_) (Ev.now _)⟩
      simp only [zby]
      rw [if_neg (by omega)]
    | succ d ih =>
      intro i x b hxl hi hb
      obtain ⟨l', h⟩ := ih (i + 1) (x.set i (mtx b)) (b + 1) (by rw [List.length_set]; exact hxl) (by rw [List.length_set]; omega) (by omega)
      refine ⟨l', ?_⟩
      refine Ev.step (fun k => by simp only [zby, Int.toNat_natCast]; rfl) ?_
      refine zad (by omega) ?_
      refine Ev.bind (zx9 b (by omega)) ?_
      refine zad (by omega) ?_
      rw [w64n b (by omega), w64n i (by omega), show b + (d + 1) = b + 1 + d by omega]
      exact h
  obtain ⟨l', h⟩ := key l.length 0 l a hl (by omega) (by omega)
  exact ⟨l', h⟩
theorem zvr (l : List ByteArray) (m : List Int) (a : Nat) (hl : l.length ≤ 1048576) (hm : m.length ≤ 1048576) (ha : a ≤ 8388608) : ∃ r, Ev (fun k => zex k l m a) r ∧ 0 ≤ r.1 := by
  obtain ⟨l', h⟩ := zt9 l a hl ha
  refine ⟨(((a + l.length : Nat) : Int) + m.length, l', zkj m.length (a + l.length)), ?_, by show 0 ≤ ((a + l.length : Nat) : Int) + m.length; omega⟩
  unfold zex
  exact Ev.bind h (Ev.bind (zxb m (a + l.length) hm (by omega)) (Ev.now _))
end Go.Proofs.YtnaafcleafbejaaGreat.PL
end
section
namespace Go.Proofs.YtnaafcleafbejaaGreat.PL
open Go Go.RowKit Go.Proofs.YtnaafcleafbejaaGreatW.PrintWords Go.Proofs.YtnaafcleafbejaaGreatW.PrintLast Go.Proofs.YtnaafcleafbejaaGreatW.PrintMore Go.Proofs.YtnaafcleafbejaaGreat.Q
set_option linter.unusedSimpArgs false
set_option linter.unusedVariables false
end Go.Proofs.YtnaafcleafbejaaGreat.PL
namespace Go.Proofs.YtnaafcleafbejaaGreat.Pure
open Go Go.RowKit Go.Proofs.YtnaafcleafbejaaGreatW.PrintWords Go.Proofs.YtnaafcleafbejaaGreatW.PrintLast Go.Proofs.YtnaafcleafbejaaGreatW.PrintMore Go.Proofs.YtnaafcleafbejaaGreat.Q Go.Proofs.YtnaafcleafbejaaGreat.PL
set_option linter.unusedSimpArgs false
set_option linter.unusedVariables false
theorem FnExactAllShortest : laws_FnExactAllShortest.Pure := by
  rintro e ⟨os, ims⟩ n h0 h1 h2
  show ∃ k, zdn k e os ims n = some true
  refine ybl (g := fun k => zdn k e os ims n) ?_
  unfold zdn
  obtain ⟨r, hr, hr'⟩ := zy6 e 1048576 h0 (by decide) (by decide)
  refine Ev.bind hr ?_
  by_cases hn : r < 0
  · exact zad hn (Ev.now _)
  have be : e.length ≤ 1048576 := by have := (hr' (by omega)).1; omega
  have br := (hr' (by omega)).2.2
  refine zao hn ?_
  obtain ⟨r1, hr1, hr1'⟩ := zw8 os ims r h1.1 h1.2.1 (by omega) (by omega)
  refine Ev.bind hr1 ?_
  by_cases hn1 : r1 < 0
  · exact zad hn1 (Ev.now _)
  obtain ⟨q1, q2, q3⟩ := hr1' (by omega)
  have b0 : os.length ≤ 1048576 := by omega
  have b1 : ims.length ≤ 1048576 := by omega
  have tn := zy7 e be
  have tc := zw9 os ims b0 b1
  have bme : (e.map cvN).length ≤ 1048576 := by simpa using be
  obtain ⟨l, b, q⟩ : ∃ l b, allR (e.map cvN) os ims n = (l, b) := ⟨_, _, rfl⟩
  have hq := yd8 (e.map cvN) os ims n
  rw [q] at hq
  obtain ⟨hl, hb⟩ : l.length ≤ 50 ∧ ∀ x ∈ l, x.length ≤ 3 := hq
  have hc := yd9 l 3 hb
  have sp := zzf (e.map cvN) os ims n b0 b1
  have im := zze (e.map cvN) os ims n b0 b1
  rw [q] at sp im
  have eqr := ya7 l (by omega) (fun x hx => by have := hb x hx; omega)
  refine zao hn1 (Ev.bind tn (Ev.bind tc (Ev.bind sp (Ev.bind im (Ev.bind eqr (Ev.bind (zwa _ bme) (Ev.bind (zu8 os ims b0 b1) ?_)))))))
  refine Ev.bind (ych _ 1 bme (by decide)) ?_
  obtain ⟨r2, hr2, hr20⟩ := zvr os ims (1 + 4 * (e.map cvN).length) b0 b1 (by omega)
  refine Ev.bind hr2 ?_
  refine Ev.bind (ya8 l 1 (by omega) (by omega)) ?_
  refine Ev.bind (ya9 l 1 (by omega) (by omega)) ?_
  exact zad ⟨rfl, rfl, rfl, rfl, hr20, rfl, by omega⟩ (Ev.now _)
end Go.Proofs.YtnaafcleafbejaaGreat.Pure
end
