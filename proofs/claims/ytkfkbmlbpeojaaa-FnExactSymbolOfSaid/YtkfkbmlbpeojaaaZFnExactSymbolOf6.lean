/- Proved here: contracts of functions that the law FnExactSymbolOf reaches, and lemmas on what they compute; texts of this session and the printed words of the kit that they lean on, cut down and put together by its program link.py. Conditions: as each states. -/
import Derived.Test.YtkfkbmlbpeojaaaZFnExactSymbolOf1
import Derived.Test.YtkfkbmlbpeojaaaZFnExactSymbolOf2
import Derived.Test.YtkfkbmlbpeojaaaZFnExactSymbolOf3
import Derived.Test.YtkfkbmlbpeojaaaZFnExactSymbolOf4
import Derived.Test.YtkfkbmlbpeojaaaZFnExactSymbolOf5
section
namespace Go.Proofs.Ytkfkbmlbpeojaaa.PL
open Go Go.RowKit Go.Proofs.YtkfkbmlbpeojaaaW.PrintWords Go.Proofs.YtkfkbmlbpeojaaaW.PrintLast Go.Proofs.YtkfkbmlbpeojaaaW.PrintMore Go.Proofs.Ytkfkbmlbpeojaaa.Q
set_option linter.unusedSimpArgs false
set_option linter.unusedVariables false
abbrev ShSt := List Node × List Int
theorem zrc (g g' : Int → ShSt → Option ShSt) (h : ∀ x s, LeO (g x s) (g' x s)) : ∀ ks s, LeO (shL g ks s) (shL g' ks s)
  | [], _ => LeO.refl _
  | x :: xs, s => LeO.bind (h x s) (fun s1 => zrc g g' h xs s1)
theorem zp3 (k : Nat) (e : List Node) : ∀ (d : Nat) (i : Int) (s : ShSt), LeO (shW k e d i s) (shW k e (d + 1) i s)
  | 0, _, _ => LeO.none _
  | d + 1, i, s => by
    unfold shW
    exact zai (zai (LeO.refl _) (LeO.bind (LeO.refl _) (fun ks => zai (LeO.bind (zrc _ _ (zp3 k e d) _ _) (fun s1 => LeO.refl _)) (LeO.refl _)))) (LeO.refl _)
theorem znx (k : Nat) (e : List Node) : ∀ (d : Nat) (i : Int) (s : ShSt), LeO (exW k e d i s) (exW k e (d + 1) i s)
  | 0, _, _ => LeO.none _
  | d + 1, i, s => by
    unfold exW
    exact zai (zai (LeO.refl _) (LeO.bind (LeO.refl _) (fun ps => zai (LeO.bind (zai (znx k e d _ _) (LeO.refl _)) (fun r1 => LeO.bind (zai (znx k e d _ _) (LeO.refl _)) (fun r2 => LeO.refl _))) (LeO.refl _)))) (LeO.refl _)
theorem znh (k : Nat) (e : List Node) (d : Nat) (i : Int) (s R : ShSt) (h : shW k e d i s = some R) : ∀ m, shW k e (d + m) i s = some R
  | 0 => h
  | m + 1 => zp3 k e (d + m) i s R (znh k e d i s R h m)
theorem zni (k : Nat) (e : List Node) (d : Nat) (i : Int) (s : ShSt) (R : ShSt × Int) (h : exW k e d i s = some R) : ∀ m, exW k e (d + m) i s = some R
  | 0 => h
  | m + 1 => znx k e (d + m) i s R (zni k e d i s R h m)
theorem zu7 (e : List Node) (d : Nat) (i : Int) (s R : ShSt) (h : Ev (fun k => shW k e d i s) R) : Ev (fun k => shW k e k i s) R := by
  obtain ⟨K, hK⟩ := h
  exact ⟨max K d, fun k hk => by have := znh k e d i s R (hK k (by omega)) (k - d); rwa [show d + (k - d) = k by omega] at this⟩
theorem zu8 (e : List Node) (d : Nat) (i : Int) (s : ShSt) (R : ShSt × Int) (h : Ev (fun k => exW k e d i s) R) : Ev (fun k => exW k e k i s) R := by
  obtain ⟨K, hK⟩ := h
  exact ⟨max K d, fun k hk => by have := zni k e d i s R (hK k (by omega)) (k - d); rwa [show d + (k - d) = k by omega] at this⟩
def zgd (x : Node) (s : ShSt) : Node := match kN x.f0 with
  | 2 => ⟨x.f0, rd s.2 x.f1, x.f2, x.f3⟩
  | 3 => ⟨x.f0, rd s.2 x.f1, rd s.2 x.f2, x.f3⟩
  | _ => x
def putP (n : Node) (i : Int) (s : ShSt) : ShSt := ((zd8 n s.1).1, s.2.set i.toNat (zd8 n s.1).2)
def shD (l : List Node) : Nat → Int → ShSt → ShSt
  | 0, _, s => s
  | d + 1, i, s => if 0 ≤ rd s.2 i then s else
    putP (zgd (l.getD i.toNat ⟨⟨#[]⟩, 0, 0, 0⟩) ((ze1 (kN (l.getD i.toNat ⟨⟨#[]⟩, 0, 0, 0⟩).f0) (l.getD i.toNat ⟨⟨#[]⟩, 0, 0, 0⟩).f1 (l.getD i.toNat ⟨⟨#[]⟩, 0, 0, 0⟩).f2).foldl (fun s p => shD l d p s) s)) i
      ((ze1 (kN (l.getD i.toNat ⟨⟨#[]⟩, 0, 0, 0⟩).f0) (l.getD i.toNat ⟨⟨#[]⟩, 0, 0, 0⟩).f1 (l.getD i.toNat ⟨⟨#[]⟩, 0, 0, 0⟩).f2).foldl (fun s p => shD l d p s) s)
def nmd (ns : List Int) : Nat := ns.countP fun x => decide (0 ≤ x)
theorem zl8 (n : Node) (out : List Node) : 0 ≤ (zd8 n out).2 := by
  unfold zd8
  split
  · exact Int.natCast_nonneg _
  · rename_i h
    show 0 ≤ exIx n out 0
    omega
theorem zrd (n : Node) (out : List Node) : (zd8 n out).1.length ≤ out.length + 1 := by
  unfold zd8
  split
  · simp
  · exact Nat.le_succ _
theorem ztz (ns : List Int) (i : Nat) (x : Int) (hi : i < ns.length) (h : ns.getD i 0 < 0) (hx : 0 ≤ x) : nmd (ns.set i x) = nmd ns + 1 := by
  induction ns generalizing i with
  | nil => simp at hi
  | cons y ys ih =>
    unfold nmd at ih ⊢
    cases i with
    | zero =>
      have hy : ¬ 0 ≤ y := by simpa using h
      simp [List.countP_cons, hx, hy]
    | succ i =>
      have := ih i (by simpa using hi) (by simpa using h)
      simp only [List.set_cons_succ, List.countP_cons]
      omega
theorem zs9 (ns : List Int) : nmd ns ≤ ns.length := List.countP_le_length
structure Kp (n i : Nat) (s s' : ShSt) : Prop where
  len : s'.2.length = n
  cnt : s'.1.length ≤ nmd s'.2
  keep : ∀ j : Nat, 0 ≤ rd s.2 (j : Int) → rd s'.2 (j : Int) = rd s.2 (j : Int)
  far : ∀ j : Nat, i ≤ j → rd s'.2 (j : Int) = rd s.2 (j : Int)
theorem Kp.trans {n i : Nat} {s s1 s2 : ShSt} (h : Kp n i s s1) (h' : Kp n i s1 s2) : Kp n i s s2 :=
  ⟨h'.len, h'.cnt, fun j hj => by rw [h'.keep j (by rw [h.keep j hj]; exact hj), h.keep j hj], fun j hj => by rw [h'.far j hj, h.far j hj]⟩
theorem Kp.wide {n i m : Nat} {s s' : ShSt} (h : Kp n i s s') (hm : i ≤ m) : Kp n m s s' := ⟨h.len, h.cnt, h.keep, fun j hj => h.far j (by omega)⟩
theorem zre (n i : Nat) (g : ShSt → Int → ShSt) (hg : ∀ (p : Nat) s, p < i → s.2.length = n → s.1.length ≤ nmd s.2 → Kp n i s (g s p) ∧ 0 ≤ rd (g s p).2 (p : Int)) : ∀ (ps : List Int) (s : ShSt), (∀ p ∈ ps, 0 ≤ p ∧ p < (i : Int)) → s.2.length = n → s.1.length ≤ nmd s.2 → Kp n i s (ps.foldl g s) ∧ ∀ p ∈ ps, 0 ≤ rd (ps.foldl g s).2 p
  | [], s, _, h1, h2 => ⟨⟨h1, h2, fun _ _ => rfl, fun _ _ => rfl⟩, fun p hp => absurd hp (by simp)⟩
  | q :: ps, s, hps, h1, h2 => by
    obtain ⟨q0, q1⟩ := hps q (by simp)
    obtain ⟨p, rfl⟩ := Int.eq_ofNat_of_zero_le q0
    obtain ⟨a, b⟩ := hg p s (by omega) h1 h2
    obtain ⟨c, e⟩ := zre n i g hg ps (g s p) (fun x hx => hps x (by simp [hx])) a.len a.cnt
    refine ⟨a.trans c, fun x hx => ?_⟩
    rcases List.mem_cons.1 hx with rfl | hx
    · show 0 ≤ rd (ps.foldl g (g s p)).2 (p : Int)
      rw [c.keep p b]
      exact b
    · exact e x hx
theorem zln (ns : List Int) (i j : Nat) (x : Int) (hi : i < ns.length) : rd (ns.set i x) (j : Int) = if i = j then x else rd ns (j : Int) := by
  unfold rd
  rw [Int.toNat_natCast, List.getD_eq_getElem?_getD, List.getD_eq_getElem?_getD, List.getElem?_set]
  split
  · rename_i h
    subst h
    simp [hi]
  · rfl
theorem zu9 (n i : Nat) (x : Node) (s : ShSt) (hi : i < n) (h1 : s.2.length = n) (h2 : s.1.length ≤ nmd s.2) (h3 : rd s.2 (i : Int) < 0) : Kp n (i + 1) s (putP x i s) ∧ 0 ≤ rd (putP x i s).2 (i : Int) := by
  have e1 := zl8 x s.1
  have e2 := zrd x s.1
  have e3 : nmd (s.2.set i (zd8 x s.1).2) = nmd s.2 + 1 := ztz s.2 i _ (by omega) (by unfold rd at h3; rwa [Int.toNat_natCast] at h3) e1
  unfold putP
  rw [Int.toNat_natCast]
  refine ⟨⟨by simp [h1], by simp only; omega, fun j hj => ?_, fun j hj => ?_⟩, ?_⟩
  · simp only
    rw [zln _ _ _ _ (by omega), if_neg (by rintro rfl; omega)]
  · simp only
    rw [zln _ _ _ _ (by omega), if_neg (by omega)]
  · simp only
    rw [zln _ _ _ _ (by omega), if_pos rfl]
    exact e1
theorem zmr (l : List Node) (ok : okNs 0 l = true) : ∀ (d i : Nat) (s : ShSt), i < d → i < l.length → s.2.length = l.length → s.1.length ≤ nmd s.2 → Kp l.length (i + 1) s (shD l d i s) ∧ 0 ≤ rd (shD l d i s).2 (i : Int)
  | 0, _, _, h, _, _, _ => absurd h (by omega)
  | d + 1, i, s, hd, hi, h1, h2 => by
    unfold shD
    by_cases q : 0 ≤ rd s.2 (i : Int)
    · rw [if_pos q]
      exact ⟨⟨h1, h2, fun _ _ => rfl, fun _ _ => rfl⟩, q⟩
    · rw [if_neg q, Int.toNat_natCast]
      have hx : l.getD i ⟨⟨#[]⟩, 0, 0, 0⟩ = l[i] := by rw [List.getD_eq_getElem?_getD, List.getElem?_eq_getElem hi]; rfl
      rw [hx]
      have hok := ze2 l 0 i hi ok
      rw [Nat.zero_add] at hok
      have hp := (zfv hok).2
      obtain ⟨a, _⟩ := zre l.length i (fun s p => shD l d p s) (fun p s hp h1 h2 => by
        obtain ⟨b, c⟩ := zmr l ok d p s (by omega) (by omega) h1 h2
        exact ⟨b.wide (by omega), c⟩) (ze1 (kN l[i].f0) l[i].f1 l[i].f2) s (fun p hq => by have := hp p hq; omega) h1 h2
      obtain ⟨b, c⟩ := zu9 l.length i (zgd l[i] ((ze1 (kN l[i].f0) l[i].f1 l[i].f2).foldl (fun s p => shD l d p s) s)) _ hi a.len a.cnt (by rw [a.far i (Nat.le_refl _)]; omega)
      exact ⟨(a.wide (by omega)).trans b, c⟩
theorem zip {l : List Node} {i : Nat} (hi : i < l.length) : l.getD (i : Int).toNat ⟨⟨#[]⟩, 0, 0, 0⟩ = l[i] := by rw [Int.toNat_natCast, List.getD_eq_getElem?_getD, List.getElem?_eq_getElem hi]; rfl
theorem zny {x : Node} {i : Int} (h : okNx x i = true) (c : kN x.f0 = 0 ∨ kN x.f0 = 1) : x.f1 = 0 ∧ x.f2 = 0 := by
  unfold okNx at h
  rcases c with c | c <;> rw [c] at h <;> simp [okNd] at h <;> exact ⟨h.1, h.2.1⟩
theorem zos {x : Node} {i : Int} (h : okNx x i = true) (c : kN x.f0 = 2) : x.f2 = 0 ∧ 0 ≤ x.f1 ∧ x.f1 ≤ i - 1 := by
  unfold okNx at h
  rw [c] at h
  simp [okNd] at h
  omega
theorem zot {x : Node} {i : Int} (h : okNx x i = true) (c : kN x.f0 = 3) : (0 ≤ x.f1 ∧ x.f1 ≤ i - 1) ∧ 0 ≤ x.f2 ∧ x.f2 ≤ i - 1 := by
  unfold okNx at h
  rw [c] at h
  simp [okNd] at h
  omega
theorem zjh {x : Node} {i : Int} (h : okNx x i = true) (c : kN x.f0 = 4) : False := by
  unfold okNx at h
  rw [c] at h
  simp [okNd] at h
theorem zt0 {x : Node} {i : Int} (h : okNx x i = true) (c : kN x.f0 = 0 ∨ kN x.f0 = 1) : x = ⟨x.f0, 0, 0, x.f3⟩ := by
  obtain ⟨e1, e2⟩ := zny h c
  obtain ⟨a, b, c, d⟩ := x
  simp only at e1 e2
  rw [e1, e2]
theorem zfe {x : Node} (s : ShSt) (c : kN x.f0 = 0 ∨ kN x.f0 = 1) : zgd x s = x := by
  unfold zgd
  rcases c with c | c <;> rw [c] <;> rfl
theorem zkm {x : Node} (s : ShSt) (c : kN x.f0 = 2) : zgd x s = ⟨x.f0, rd s.2 x.f1, x.f2, x.f3⟩ := by
  unfold zgd
  rw [c]
  rfl
theorem zko {x : Node} (s : ShSt) (c : kN x.f0 = 3) : zgd x s = ⟨x.f0, rd s.2 x.f1, rd s.2 x.f2, x.f3⟩ := by
  unfold zgd
  rw [c]
  rfl
theorem zgm {c : Nat} (h : c = 0 ∨ c = 1) (a b : Int) : ze1 c a b = [] := by rcases h with rfl | rfl <;> rfl
theorem znz (l : List Node) (hl : l.length ≤ 1000) (ok : okNs 0 l = true) : ∀ (d i : Nat) (s : ShSt), i < d → i < l.length → s.2.length = l.length → s.1.length ≤ nmd s.2 → Ev (fun k => exW k l d i s) (shD l d i s, rd (shD l d i s).2 (i : Int))
  | 0, _, _, h, _, _, _ => absurd h (by omega)
  | d + 1, i, s, hd, hi, h1, h2 => by
    have hr : zac l (i : Int) = l[i] := zi3 (zfl l i hi)
    have hok := ze2 l 0 i hi ok
    rw [Nat.zero_add] at hok
    have fin : ∀ (n : Node) (S : ShSt), S.2.length = l.length → S.1.length ≤ nmd S.2 → Ev (fun _ : Nat => if S.1.length < 1048576 then some (((zd8 n S.1).1, S.2.set (i : Int).toNat (zd8 n S.1).2), (zd8 n S.1).2) else none) (putP n i S, rd (putP n i S).2 (i : Int)) := fun n S a b => by
      have := zs9 S.2
      refine zak (by omega) (Ev.some ?_)
      unfold putP
      simp only
      rw [Int.toNat_natCast, zln _ _ _ _ (by omega), if_pos rfl]
    simp only [exW, shD]
    rw [hr, zip hi]
    refine zak ⟨by omega, by omega⟩ ?_
    by_cases q : 0 ≤ rd s.2 (i : Int)
    · rw [if_pos q]
      exact zak q (Ev.some rfl)
    rw [if_neg q]
    refine za7 q (Ev.bind (zjg l[i]) (zak (by have := (zfv hok).1; omega) ?_))
    generalize l[i] = x at hok ⊢
    rcases zkk x.f0 with c | c | c | c | c
    · rw [zgm (.inl c), List.foldl_nil, zfe s (.inl c)]
      refine Ev.bind (za7 (by simp) (zb3 _)) (Ev.bind (za7 (by simp) (zb3 _)) (zl4 (fin ⟨x.f0, 0, 0, x.f3⟩ s h1 h2) (congrArg (fun n => (putP n i s, rd (putP n i s).2 (i : Int))) (zt0 hok (.inl c)).symm)))
    · rw [zgm (.inr c), List.foldl_nil, zfe s (.inr c)]
      refine Ev.bind (za7 (by simp) (zb3 _)) (Ev.bind (za7 (by simp) (zb3 _)) (zl4 (fin ⟨x.f0, 0, 0, x.f3⟩ s h1 h2) (congrArg (fun n => (putP n i s, rd (putP n i s).2 (i : Int))) (zt0 hok (.inr c)).symm)))
    · obtain ⟨e0, e1, e2⟩ := zos hok c
      rw [show ze1 (kN x.f0) x.f1 x.f2 = [x.f1] by rw [c]; rfl, List.foldl_cons, List.foldl_nil, zkm _ c, e0]
      obtain ⟨p, hp⟩ := Int.eq_ofNat_of_zero_le e1
      rw [hp] at e2 ⊢
      obtain ⟨m1, m2⟩ := zmr l ok d p s (by omega) (by omega) h1 h2
      refine Ev.bind (zak (by simp) (znz l hl ok d p s (by omega) (by omega) h1 h2)) (Ev.bind (za7 (by simp) (zb3 _)) ?_)
      exact fin ⟨x.f0, rd (shD l d p s).2 (p : Int), 0, x.f3⟩ (shD l d p s) m1.len m1.cnt
    · obtain ⟨⟨e1, e2⟩, e4, e5⟩ := zot hok c
      rw [show ze1 (kN x.f0) x.f1 x.f2 = [x.f1, x.f2] by rw [c]; rfl, List.foldl_cons, List.foldl_cons, List.foldl_nil, zko _ c]
      obtain ⟨p, hp⟩ := Int.eq_ofNat_of_zero_le e1
      obtain ⟨p', hp'⟩ := Int.eq_ofNat_of_zero_le e4
      rw [hp] at e2 ⊢
      rw [hp'] at e5 ⊢
      obtain ⟨m1, m2⟩ := zmr l ok d p s (by omega) (by omega) h1 h2
      obtain ⟨n1, n2⟩ := zmr l ok d p' (shD l d p s) (by omega) (by omega) m1.len m1.cnt
      refine Ev.bind (zak (by simp) (znz l hl ok d p s (by omega) (by omega) h1 h2)) (Ev.bind (zak (by simp) (znz l hl ok d p' _ (by omega) (by omega) m1.len m1.cnt)) ?_)
      rw [n1.keep p m2]
      exact fin ⟨x.f0, rd (shD l d p s).2 (p : Int), rd (shD l d p' (shD l d p s)).2 (p' : Int), x.f3⟩ (shD l d p' (shD l d p s)) n1.len n1.cnt
    · exact (zjh hok c).elim
def shP (l : List Node) : List Node := (shD l l.length ((l.length - 1 : Nat) : Int) ([], List.replicate l.length (-1))).1
theorem zqh (l : List Node) (h0 : 0 < l.length) (hl : l.length ≤ 1000) (ok : okNs 0 l = true) : Ev (fun k => zdj k l) (shP l) := by
  unfold zdj
  refine zak (by omega) ?_
  have := zu8 l l.length ((l.length - 1 : Nat) : Int) ([], List.replicate l.length (-1)) _ (znz l hl ok l.length (l.length - 1) _ (by omega) (by omega) (by simp) (by simp))
  rw [show ((l.length - 1 : Nat) : Int) = (l.length : Int) - 1 by omega] at this
  refine Ev.bind this (Ev.some ?_)
  unfold shP
  rw [show ((l.length - 1 : Nat) : Int) = (l.length : Int) - 1 by omega]
theorem zp4 (x y : Node) : exEq x y = true ↔ x = y := by
  obtain ⟨a, b, c, d⟩ := x
  obtain ⟨a', b', c', d'⟩ := y
  unfold exEq
  simp only [Bool.and_eq_true, beq_iff_eq, zog, S72.mk.injEq]
theorem zou (x y : Node) : exEq x y = exEq y x := by
  rw [Bool.eq_iff_iff, zp4, zp4]
  exact eq_comm
theorem zp5 (n : Node) : ∀ (xs : List Node) (i : Int), 0 ≤ i → exIx n xs i = if idx (exEq n) xs < 0 then -1 else i + idx (exEq n) xs
  | [], i, _ => by simp [exIx, idx]
  | x :: xs, i, h => by
    unfold exIx idx
    by_cases q : exEq n x = true
    · rw [if_pos (by rw [zou]; exact q), if_pos q, if_neg (by decide)]
      omega
    · rw [if_neg (by rw [zou]; exact q), if_neg q, zp5 n xs (i + 1) (by omega)]
      by_cases r : idx (exEq n) xs < 0
      · rw [if_pos r, if_pos r, if_pos (by decide)]
      · rw [if_neg r, if_neg r, if_neg (by omega)]
        omega
theorem zsj (n : Node) (xs : List Node) : exIx n xs 0 = idx (exEq n) xs := by
  rw [zp5 n xs 0 (by omega)]
  have := zs6 (exEq n) xs
  split <;> omega
theorem zqi (l : List Node) (n : Node) (hl : l.length ≤ 1048576) : Ev (fun k => zeo k l n.f0 n.f1 n.f2 n.f3) (idx (exEq n) l) := by
  unfold zeo
  refine zki l _ (fun k i => zb9 k l l.length i n.f0 n.f1 n.f2 n.f3) ?_ (fun i x hi hx hp => ?_) (fun i x r hi hx hp hr => ?_)
  · refine Ev.step (f := fun _ => some (-1)) (fun k => ?_) (zb3 _)
    simp only [zb9]
    rw [if_neg (by omega)]
  · refine Ev.step (f := fun _ => some (i : Int)) (fun k => ?_) (zb3 _)
    unfold exEq at hp
    simp only [zb9, zi3 hx]
    rw [if_pos (by omega), if_pos (by omega), if_pos (by omega), if_pos hp]
  · refine Ev.step (fun k => ?_) hr
    unfold exEq at hp
    simp only [zb9, zi3 hx]
    rw [if_pos (by omega), if_pos (by omega), if_pos (by omega), if_neg (by rw [hp]; decide), w64n i (by omega)]
theorem zta (x : Node) (i : Int) (h : okNx x i = true) (s : ShSt) (hi : i ≤ s.2.length) : Ev (fun k => zb0 k x.f0 x.f1 x.f2 x.f3 s.2) ((zgd x s).f0, (zgd x s).f1, (zgd x s).f2, (zgd x s).f3) := by
  unfold zb0
  refine Ev.bind (zj2 x.f0) ?_
  rcases zkk x.f0 with c | c | c | c | c
  · rw [zfe s (.inl c), c]
    exact za7 (by decide) (za7 (by decide) (zb3 _))
  · rw [zfe s (.inr c), c]
    exact za7 (by decide) (za7 (by decide) (zb3 _))
  · obtain ⟨e0, e1, e2⟩ := zos h c
    rw [zkm s c, c]
    exact zak (by decide) (zak e1 (zak (by omega) (za7 (by decide) (zb3 _))))
  · obtain ⟨⟨e1, e2⟩, e4, e5⟩ := zot h c
    rw [zko s c, c]
    exact zak (by decide) (zak e1 (zak (by omega) (zak (by decide) (zak e4 (zak (by omega) (zb3 _))))))
  · exact (zjh h c).elim
theorem zsk (n : Node) (i : Int) (s : ShSt) (hs : s.1.length ≤ 1000) : Ev (fun k => zoj k i n s) (putP n i s) := by
  unfold zoj putP zd8
  refine zak (by omega) (Ev.bind (zqi s.1 n (by omega)) (Ev.some ?_))
  rw [zsj]
  split <;> rfl
theorem zn0 (l : List Node) (hl : l.length ≤ 1000) (ok : okNs 0 l = true) : ∀ (d i : Nat) (s : ShSt), i < d → i < l.length → s.2.length = l.length → s.1.length ≤ nmd s.2 → Ev (fun k => shW k l d i s) (shD l d i s)
  | 0, _, _, h, _, _, _ => absurd h (by omega)
  | d + 1, i, s, hd, hi, h1, h2 => by
    have hr : zac l (i : Int) = l[i] := zi3 (zfl l i hi)
    have hok := ze2 l 0 i hi ok
    rw [Nat.zero_add] at hok
    simp only [shW, shD]
    rw [hr, zip hi]
    refine zak ⟨by omega, by omega⟩ ?_
    by_cases q : 0 ≤ rd s.2 (i : Int)
    · rw [if_pos q]
      exact zak q (Ev.some rfl)
    rw [if_neg q]
    refine za7 q (Ev.bind (ztx l[i]) (zak (by have := (zfv hok).1; omega) ?_))
    generalize l[i] = x at hok ⊢
    have fin : ∀ S : ShSt, S.2.length = l.length → S.1.length ≤ nmd S.2 → Ev (fun k => (zb0 k x.f0 x.f1 x.f2 x.f3 S.2).bind fun n => zoj k i ⟨n.1, n.2.1, n.2.2.1, n.2.2.2⟩ S) (putP (zgd x S) i S) := fun S a b => by
      have := zs9 S.2
      exact Ev.bind (zta x i hok S (by omega)) (zsk (zgd x S) i S (by omega))
    rcases zkk x.f0 with c | c | c | c | c
    · rw [zgm (.inl c), List.foldl_nil]
      exact Ev.bind (zb3 s) (fin s h1 h2)
    · rw [zgm (.inr c), List.foldl_nil]
      exact Ev.bind (zb3 s) (fin s h1 h2)
    · obtain ⟨e0, e1, e2⟩ := zos hok c
      rw [show ze1 (kN x.f0) x.f1 x.f2 = [x.f1] by rw [c]; rfl, List.foldl_cons, List.foldl_nil]
      obtain ⟨p, hp⟩ := Int.eq_ofNat_of_zero_le e1
      rw [hp] at e2 ⊢
      obtain ⟨m1, m2⟩ := zmr l ok d p s (by omega) (by omega) h1 h2
      refine Ev.bind (Ev.bind (zn0 l hl ok d p s (by omega) (by omega) h1 h2) (zb3 _)) ?_
      rw [← hp]
      exact fin _ (by rw [hp]; exact m1.len) (by rw [hp]; exact m1.cnt)
    · obtain ⟨⟨e1, e2⟩, e4, e5⟩ := zot hok c
      rw [show ze1 (kN x.f0) x.f1 x.f2 = [x.f1, x.f2] by rw [c]; rfl, List.foldl_cons, List.foldl_cons, List.foldl_nil]
      obtain ⟨p, hp⟩ := Int.eq_ofNat_of_zero_le e1
      obtain ⟨p', hp'⟩ := Int.eq_ofNat_of_zero_le e4
      rw [hp] at e2 ⊢
      rw [hp'] at e5 ⊢
      obtain ⟨m1, m2⟩ := zmr l ok d p s (by omega) (by omega) h1 h2
      obtain ⟨n1, n2⟩ := zmr l ok d p' (shD l d p s) (by omega) (by omega) m1.len m1.cnt
      refine Ev.bind (Ev.bind (zn0 l hl ok d p s (by omega) (by omega) h1 h2) (Ev.bind (zn0 l hl ok d p' _ (by omega) (by omega) m1.len m1.cnt) (zb3 _))) ?_
      rw [← hp, ← hp']
      exact fin _ (by rw [hp, hp']; exact n1.len) (by rw [hp, hp']; exact n1.cnt)
    · exact (zjh hok c).elim
theorem zsl (l : List Node) (h0 : 0 < l.length) (hl : l.length ≤ 1000) (ok : okNs 0 l = true) : Ev (fun k => ze4 k l) (shP l) := by
  unfold ze4
  refine zak (by omega) (Ev.call (a := List.replicate l.length (-1)) ?_ ?_)
  · unfold zei
    rw [if_pos ⟨rfl, by omega, by omega⟩, Int.toNat_natCast]
    rfl
  have := zu7 l l.length ((l.length - 1 : Nat) : Int) ([], List.replicate l.length (-1)) _ (zn0 l hl ok l.length (l.length - 1) _ (by omega) (by omega) (by simp) (by simp))
  rw [show ((l.length - 1 : Nat) : Int) = (l.length : Int) - 1 by omega] at this
  refine zak (by simp) (Ev.bind this (Ev.some ?_))
  unfold shP
  rw [show ((l.length - 1 : Nat) : Int) = (l.length : Int) - 1 by omega]
theorem zl9 (x : Node) : ∀ (xs : List Node) (i : Nat), okNs i (xs ++ [x]) = (okNs i xs && okNx x ((i + xs.length : Nat) : Int))
  | [], i => by simp [okNs]
  | y :: ys, i => by
    simp only [List.cons_append, okNs, zl9 x ys (i + 1), List.length_cons, Bool.and_assoc]
    rw [show i + 1 + ys.length = i + (ys.length + 1) by omega]
theorem zsm {x : Node} {i m : Int} (h : okNx x i = true) {s : ShSt} (hp : ∀ p ∈ ze1 (kN x.f0) x.f1 x.f2, 0 ≤ rd s.2 p ∧ rd s.2 p < m) : okNx (zgd x s) m = true := by
  rcases zkk x.f0 with c | c | c | c | c
  · rw [zfe s (.inl c)]
    unfold okNx at h ⊢
    rw [c] at h ⊢
    exact h
  · rw [zfe s (.inr c)]
    unfold okNx at h ⊢
    rw [c] at h ⊢
    exact h
  · rw [zkm s c]
    rw [c] at hp
    have := hp x.f1 (by simp [ze1])
    unfold okNx at h ⊢
    simp only
    rw [c] at h ⊢
    simp [okNd] at h ⊢
    omega
  · rw [zko s c]
    rw [c] at hp
    have := hp x.f1 (by simp [ze1])
    have := hp x.f2 (by simp [ze1])
    unfold okNx at h ⊢
    simp only
    rw [c] at h ⊢
    simp [okNd] at h ⊢
    omega
  · exact (zjh h c).elim
inductive Tr where
  | lf (op : ByteArray) (v : Int) : Tr
  | un (op : ByteArray) (v : Int) (t : Tr) : Tr
  | bi (op : ByteArray) (v : Int) (t u : Tr) : Tr
def trN (x : Node) (g : Int → Tr) : Tr := match kN x.f0 with
  | 2 => .un x.f0 x.f3 (g x.f1)
  | 3 => .bi x.f0 x.f3 (g x.f1) (g x.f2)
  | _ => .lf x.f0 x.f3
def trOf (l : List Node) : Nat → Int → Tr
  | 0, _ => .lf ⟨#[]⟩ 0
  | d + 1, i => trN (l.getD i.toNat ⟨⟨#[]⟩, 0, 0, 0⟩) (trOf l d)
theorem zhz {x : Node} (g : Int → Tr) (c : kN x.f0 = 0 ∨ kN x.f0 = 1) : trN x g = .lf x.f0 x.f3 := by
  unfold trN
  rcases c with c | c <;> rw [c] <;> rfl
theorem zp6 {x : Node} (g : Int → Tr) (c : kN x.f0 = 2) : trN x g = .un x.f0 x.f3 (g x.f1) := by
  unfold trN
  rw [c]
  rfl
theorem zms {x : Node} (g : Int → Tr) (c : kN x.f0 = 3) : trN x g = .bi x.f0 x.f3 (g x.f1) (g x.f2) := by
  unfold trN
  rw [c]
  rfl
theorem zkp {x : Node} {i : Int} (h : okNx x i = true) {g g' : Int → Tr} (hg : ∀ p, 0 ≤ p → p ≤ i - 1 → g p = g' p) : trN x g = trN x g' := by
  obtain ⟨_, hp⟩ := zfv h
  unfold trN
  rcases zkk x.f0 with c | c | c | c | c <;> rw [c] at hp ⊢ <;> simp only [ze1] at hp ⊢
  · rw [hg _ (hp _ (by simp)).1 (hp _ (by simp)).2]
  · rw [hg _ (hp _ (by simp)).1 (hp _ (by simp)).2, hg x.f2 (hp _ (by simp)).1 (hp _ (by simp)).2]
theorem zhi {l : List Node} (ok : okNs 0 l = true) : ∀ (d d' i : Nat), i < d → i < d' → i < l.length → trOf l d i = trOf l d' i
  | 0, _, _, h, _, _ => absurd h (by omega)
  | _ + 1, 0, _, _, h, _ => absurd h (by omega)
  | d + 1, d' + 1, i, h, h', hi => by
    unfold trOf
    rw [zip hi]
    have hok := ze2 l 0 i hi ok
    rw [Nat.zero_add] at hok
    refine zkp hok (fun p p0 p1 => ?_)
    obtain ⟨p, rfl⟩ := Int.eq_ofNat_of_zero_le p0
    exact zhi ok d d' p (by omega) (by omega) (by omega)
def wT : Tr → List Node → List Node × Int
  | .lf op v, out => zd8 ⟨op, 0, 0, v⟩ out
  | .un op v t, out => zd8 ⟨op, (wT t out).2, 0, v⟩ (wT t out).1
  | .bi op v t u, out => zd8 ⟨op, (wT t out).2, (wT u (wT t out).1).2, v⟩ (wT u (wT t out).1).1
theorem zrf (x : Node) : exEq x x = true := by unfold exEq; simp
theorem zn1 {x n : Node} (q : exEq x n = true) (xs : List Node) (i : Int) : exIx n (x :: xs) i = i := by rw [exIx, if_pos q]
theorem zp7 {x n : Node} (q : ¬ exEq x n = true) (xs : List Node) (i : Int) : exIx n (x :: xs) i = exIx n xs (i + 1) := by rw [exIx, if_neg q]
theorem zn2 (n : Node) (ys : List Node) : ∀ (xs : List Node) (i : Int), 0 ≤ i → exIx n (xs ++ ys) i = if exIx n xs i < 0 then exIx n ys (i + xs.length) else exIx n xs i
  | [], i, h => by simp [exIx]
  | x :: xs, i, h => by
    rw [List.cons_append]
    by_cases q : exEq x n = true
    · rw [zn1 q, zn1 q, if_neg (by omega)]
    · rw [zp7 q, zp7 q, zn2 n ys xs (i + 1) (by omega)]
      simp only [List.length_cons]
      rw [show i + 1 + (xs.length : Int) = i + ((xs.length + 1 : Nat) : Int) by omega]
theorem zjc (n : Node) (out : List Node) : ∃ ys, (zd8 n out).1 = out ++ ys := by
  unfold zd8
  split
  · exact ⟨[n], rfl⟩
  · exact ⟨[], by simp⟩
theorem zlj (n : Node) (out ys : List Node) : zd8 n ((zd8 n out).1 ++ ys) = ((zd8 n out).1 ++ ys, (zd8 n out).2) := by
  by_cases q : exIx n out 0 < 0
  · have e : zd8 n out = (out ++ [n], (out.length : Int)) := by unfold zd8; rw [if_pos q]
    rw [e]
    have e2 : exIx n (out ++ [n] ++ ys) 0 = out.length := by
      rw [List.append_assoc, zn2 n _ out 0 (by omega), if_pos q]
      rw [List.cons_append, zn1 (zrf n)]
      omega
    unfold zd8
    rw [e2, if_neg (by omega)]
  · have e : zd8 n out = (out, exIx n out 0) := by unfold zd8; rw [if_neg q]
    rw [e]
    have e2 : exIx n (out ++ ys) 0 = exIx n out 0 := by rw [zn2 n _ out 0 (by omega), if_neg q]
    unfold zd8
    rw [e2, if_neg q]
theorem zov : ∀ (t : Tr) (out : List Node), ∃ ys, (wT t out).1 = out ++ ys
  | .lf op v, out => zjc _ _
  | .un op v t, out => by
    obtain ⟨ys, h⟩ := zov t out
    obtain ⟨zs, h'⟩ := zjc ⟨op, (wT t out).2, 0, v⟩ (wT t out).1
    exact ⟨ys ++ zs, by unfold wT; rw [h', h, List.append_assoc]⟩
  | .bi op v t u, out => by
    obtain ⟨ys, h⟩ := zov t out
    obtain ⟨ys', h2⟩ := zov u (wT t out).1
    obtain ⟨zs, h'⟩ := zjc ⟨op, (wT t out).2, (wT u (wT t out).1).2, v⟩ (wT u (wT t out).1).1
    exact ⟨ys ++ (ys' ++ zs), by unfold wT; rw [h', h2, h]; simp only [List.append_assoc]⟩
theorem zt1 : ∀ (t : Tr) (out : List Node), 0 ≤ (wT t out).2
  | .lf op v, out => zl8 _ _
  | .un op v t, out => zl8 _ _
  | .bi op v t u, out => zl8 _ _
theorem zmt : ∀ (t : Tr) (out ys : List Node), wT t ((wT t out).1 ++ ys) = ((wT t out).1 ++ ys, (wT t out).2)
  | .lf op v, out, ys => zlj _ _ _
  | .un op v t, out, ys => by
    obtain ⟨zs, h'⟩ := zjc ⟨op, (wT t out).2, 0, v⟩ (wT t out).1
    have e : (wT (.un op v t) out).1 ++ ys = (wT t out).1 ++ (zs ++ ys) := by
      show (zd8 ⟨op, (wT t out).2, 0, v⟩ (wT t out).1).1 ++ ys = _
      rw [h', List.append_assoc]
    have e2 := zmt t out (zs ++ ys)
    rw [e]
    show zd8 ⟨op, (wT t ((wT t out).1 ++ (zs ++ ys))).2, 0, v⟩ (wT t ((wT t out).1 ++ (zs ++ ys))).1 = _
    rw [e2, ← e]
    exact zlj _ _ _
  | .bi op v t u, out, ys => by
    obtain ⟨ws, h⟩ := zov u (wT t out).1
    obtain ⟨zs, h'⟩ := zjc ⟨op, (wT t out).2, (wT u (wT t out).1).2, v⟩ (wT u (wT t out).1).1
    have e1 : (wT (.bi op v t u) out).1 ++ ys = (wT u (wT t out).1).1 ++ (zs ++ ys) := by
      show (zd8 ⟨op, (wT t out).2, (wT u (wT t out).1).2, v⟩ (wT u (wT t out).1).1).1 ++ ys = _
      rw [h', List.append_assoc]
    have e : (wT (.bi op v t u) out).1 ++ ys = (wT t out).1 ++ (ws ++ (zs ++ ys)) := by rw [e1, h, List.append_assoc]
    have e2 := zmt t out (ws ++ (zs ++ ys))
    rw [← e] at e2
    have e3 := zmt u (wT t out).1 (zs ++ ys)
    rw [← e1] at e3
    show zd8 ⟨op, (wT t ((wT (.bi op v t u) out).1 ++ ys)).2, (wT u (wT t ((wT (.bi op v t u) out).1 ++ ys)).1).2, v⟩ (wT u (wT t ((wT (.bi op v t u) out).1 ++ ys)).1).1 = _
    rw [e2]
    simp only
    rw [e3]
    exact zlj _ _ _
theorem zt2 {t : Tr} {out : List Node} {r : Int} (h : wT t out = (out, r)) (ys : List Node) : wT t (out ++ ys) = (out ++ ys, r) := by
  have := zmt t out ys
  rwa [h] at this
structure Mem (l : List Node) (s : ShSt) : Prop where
  len : s.2.length = l.length
  mem : ∀ j : Nat, j < l.length → 0 ≤ rd s.2 (j : Int) → wT (trOf l (j + 1) j) s.1 = (s.1, rd s.2 (j : Int))
theorem zn3 {l : List Node} {i : Nat} {n : Node} {s : ShSt} (hi : i < l.length) (h : Mem l s) (hn : zd8 n s.1 = wT (trOf l (i + 1) i) s.1) : Mem l (putP n i s) ∧ (putP n i s).1 = (wT (trOf l (i + 1) i) s.1).1 ∧ rd (putP n i s).2 (i : Int) = (wT (trOf l (i + 1) i) s.1).2 := by
  have hl : i < s.2.length := by rw [h.len]; exact hi
  have e1 : (putP n i s).1 = (wT (trOf l (i + 1) i) s.1).1 := by unfold putP; rw [hn]
  have e2 : ∀ j : Nat, rd (putP n i s).2 (j : Int) = if i = j then (wT (trOf l (i + 1) i) s.1).2 else rd s.2 (j : Int) := fun j => by
    unfold putP
    simp only
    rw [Int.toNat_natCast, zln _ _ _ _ hl, hn]
  refine ⟨⟨by unfold putP; simp [h.len], fun j hj h0 => ?_⟩, e1, by rw [e2, if_pos rfl]⟩
  rw [e1, e2]
  rw [e2] at h0
  by_cases q : i = j
  · subst q
    rw [if_pos rfl]
    have := zmt (trOf l (i + 1) i) s.1 []
    rwa [List.append_nil] at this
  · rw [if_neg q] at h0 ⊢
    obtain ⟨ys, hy⟩ := zov (trOf l (i + 1) i) s.1
    rw [hy]
    exact zt2 (h.mem j hj h0) ys
theorem zp8 {l : List Node} (ok : okNs 0 l = true) : ∀ (d i : Nat) (s : ShSt), i < d → i < l.length → Mem l s → Mem l (shD l d i s) ∧ (shD l d i s).1 = (wT (trOf l (i + 1) i) s.1).1 ∧ rd (shD l d i s).2 (i : Int) = (wT (trOf l (i + 1) i) s.1).2 ∧ ∀ j : Nat, 0 ≤ rd s.2 (j : Int) ∨ i < j → rd (shD l d i s).2 (j : Int) = rd s.2 (j : Int)
  | 0, _, _, h, _, _ => absurd h (by omega)
  | d + 1, i, s, hd, hi, hm => by
    have hok := ze2 l 0 i hi ok
    rw [Nat.zero_add] at hok
    have hq : ∀ (s1 : ShSt) (n : Node), s1.2.length = l.length → ∀ j : Nat, i ≠ j → rd (putP n i s1).2 (j : Int) = rd s1.2 (j : Int) := fun s1 n h1 j h3 => by
      unfold putP
      simp only
      rw [Int.toNat_natCast, zln _ _ _ _ (by omega), if_neg h3]
    unfold shD
    by_cases q : 0 ≤ rd s.2 (i : Int)
    · rw [if_pos q]
      have := hm.mem i hi q
      exact ⟨hm, by rw [this], by rw [this], fun _ _ => rfl⟩
    have hne : ∀ j : Nat, 0 ≤ rd s.2 (j : Int) ∨ i < j → i ≠ j := fun j h e => by subst e; omega
    rw [if_neg q, zip hi]
    have ht : trOf l (i + 1) i = trN l[i] (trOf l i) := by
      show trN (l.getD (i : Int).toNat ⟨⟨#[]⟩, 0, 0, 0⟩) (trOf l i) = _
      rw [zip hi]
    have hx : l[i] = ⟨l[i].f0, l[i].f1, l[i].f2, l[i].f3⟩ := rfl
    generalize l[i] = x at hok ht hx ⊢
    have leaf : kN x.f0 = 0 ∨ kN x.f0 = 1 → trOf l (i + 1) i = .lf x.f0 x.f3 ∧ x = ⟨x.f0, 0, 0, x.f3⟩ := fun c => ⟨by rw [ht, zhz _ c], zt0 hok c⟩
    rcases zkk x.f0 with c | c | c | c | c
    · obtain ⟨t, e⟩ := leaf (.inl c)
      simp only [c, ze1, List.foldl_nil, zgd]
      obtain ⟨h1, h2, h3⟩ := zn3 (n := x) hi hm (by rw [t]; exact congrArg (fun y => zd8 y s.1) e)
      exact ⟨h1, h2, h3, fun j h0 => hq s x hm.len j (hne j h0)⟩
    · obtain ⟨t, e⟩ := leaf (.inr c)
      simp only [c, ze1, List.foldl_nil, zgd]
      obtain ⟨h1, h2, h3⟩ := zn3 (n := x) hi hm (by rw [t]; exact congrArg (fun y => zd8 y s.1) e)
      exact ⟨h1, h2, h3, fun j h0 => hq s x hm.len j (hne j h0)⟩
    · obtain ⟨e0, e1, e2⟩ := zos hok c
      simp only [c, ze1, List.foldl_nil, List.foldl_cons, zgd]
      have e3 : trOf l (i + 1) i = .un x.f0 x.f3 (trOf l i x.f1) := by rw [ht, zp6 _ c]
      rw [e0]
      obtain ⟨p, hp⟩ := Int.eq_ofNat_of_zero_le e1
      rw [hp] at e2 e3 ⊢
      rw [zhi ok i (p + 1) p (by omega) (by omega) (by omega)] at e3
      obtain ⟨m1, m2, m3, m4⟩ := zp8 ok d p s (by omega) (by omega) hm
      have m5 : 0 ≤ rd (shD l d p s).2 (p : Int) := by rw [m3]; exact zt1 _ _
      have m6 := m1.mem p (by omega) m5
      have w1 : wT (trOf l (i + 1) i) (shD l d p s).1 = zd8 ⟨x.f0, rd (shD l d p s).2 (p : Int), 0, x.f3⟩ (shD l d p s).1 := by
        rw [e3]
        simp only [wT]
        rw [m6]
      have w0 : wT (trOf l (i + 1) i) s.1 = zd8 ⟨x.f0, rd (shD l d p s).2 (p : Int), 0, x.f3⟩ (shD l d p s).1 := by
        rw [e3]
        simp only [wT]
        rw [m2, m3]
      obtain ⟨h1, h2, h3⟩ := zn3 hi m1 w1.symm
      rw [w1] at h2 h3
      rw [w0]
      exact ⟨h1, h2, h3, fun j h0 => by rw [hq _ _ m1.len j (hne j h0), m4 j (h0.imp id (fun _ => by omega))]⟩
    · obtain ⟨⟨e1, e2⟩, e4, e5⟩ := zot hok c
      simp only [c, ze1, List.foldl_nil, List.foldl_cons, zgd]
      have e3 : trOf l (i + 1) i = .bi x.f0 x.f3 (trOf l i x.f1) (trOf l i x.f2) := by rw [ht, zms _ c]
      obtain ⟨p, hp⟩ := Int.eq_ofNat_of_zero_le e1
      obtain ⟨p', hp'⟩ := Int.eq_ofNat_of_zero_le e4
      rw [hp] at e2 e3 ⊢
      rw [hp'] at e5 e3 ⊢
      rw [zhi ok i (p + 1) p (by omega) (by omega) (by omega), zhi ok i (p' + 1) p' (by omega) (by omega) (by omega)] at e3
      obtain ⟨m1, m2, m3, m4⟩ := zp8 ok d p s (by omega) (by omega) hm
      generalize shD l d p s = s1 at *
      have m5 : 0 ≤ rd s1.2 (p : Int) := by rw [m3]; exact zt1 _ _
      obtain ⟨n1, n2, n3, n4⟩ := zp8 ok d p' s1 (by omega) (by omega) m1
      generalize shD l d p' s1 = s2 at *
      have n5 : 0 ≤ rd s2.2 (p' : Int) := by rw [n3]; exact zt1 _ _
      have n6 := n4 p (.inl m5)
      have n7 := n1.mem p (by omega) (by omega)
      have n8 := n1.mem p' (by omega) n5
      have w1 : wT (trOf l (i + 1) i) s2.1 = zd8 ⟨x.f0, rd s2.2 (p : Int), rd s2.2 (p' : Int), x.f3⟩ s2.1 := by
        rw [e3]
        simp only [wT]
        rw [n7]
        simp only
        rw [n8]
      have w0 : wT (trOf l (i + 1) i) s.1 = zd8 ⟨x.f0, rd s2.2 (p : Int), rd s2.2 (p' : Int), x.f3⟩ s2.1 := by
        rw [e3]
        simp only [wT]
        rw [← m2, ← m3, ← n2, ← n3, n6]
      obtain ⟨h1, h2, h3⟩ := zn3 hi n1 w1.symm
      rw [w1] at h2 h3
      rw [w0]
      exact ⟨h1, h2, h3, fun j h0 => by rw [hq _ _ n1.len j (hne j h0), n4 j (by rcases h0 with h0 | h0; · exact .inl (by rw [m4 j (.inl h0)]; exact h0)
                                                                                 · exact .inr (by omega)), m4 j (h0.imp id (fun _ => by omega))]⟩
    · exact (zjh hok c).elim
theorem ztb {l : List Node} (ok : okNs 0 l = true) (h : 0 < l.length) : shP l = (wT (trOf l l.length ((l.length - 1 : Nat) : Int)) []).1 := by
  have hm : Mem l ([], List.replicate l.length (-1)) := ⟨by simp, fun j hj h0 => by
    exfalso
    unfold rd at h0
    rw [Int.toNat_natCast, zfl _ j (by simpa using hj)] at h0
    simp at h0⟩
  have := (zp8 ok l.length (l.length - 1) _ (by omega) (by omega) hm).2.1
  unfold shP
  rw [this, show l.length - 1 + 1 = l.length by omega]
def TRN (ns : List Node) (i : Int) : Tr := trOf ns ns.length i
theorem zow : ∀ (xs ys : List Node) (i : Nat), okNs i (xs ++ ys) = true → okNs i xs = true
  | [], _, _, _ => rfl
  | x :: xs, ys, i, h => by
    simp only [List.cons_append, okNs, Bool.and_eq_true] at h ⊢
    exact ⟨h.1, zow xs ys (i + 1) h.2⟩
theorem zn4 {ns ys : List Node} (ok : okNs 0 (ns ++ ys) = true) : ∀ (d i : Nat), i < d → i < ns.length → trOf (ns ++ ys) d i = trOf ns d i
  | 0, _, h, _ => absurd h (by omega)
  | d + 1, i, h, hi => by
    unfold trOf
    rw [zip hi, zip (show i < (ns ++ ys).length by simp; omega), List.getElem_append_left hi]
    have hok := ze2 ns 0 i hi (zow ns ys 0 ok)
    rw [Nat.zero_add] at hok
    refine zkp hok (fun p p0 p1 => ?_)
    obtain ⟨p, rfl⟩ := Int.eq_ofNat_of_zero_le p0
    exact zn4 ok d p (by omega) (by omega)
theorem zrg {ns : List Node} {n : Node} (ok : okNs 0 (ns ++ [n]) = true) (i : Nat) (hi : i < ns.length) : TRN (ns ++ [n]) (i : Int) = TRN ns (i : Int) := by
  unfold TRN
  rw [zhi ok _ ns.length i (by simp; omega) hi (by simp; omega), zn4 ok _ i hi hi]
theorem zrh {ns : List Node} {n : Node} (ok : okNs 0 (ns ++ [n]) = true) : TRN (ns ++ [n]) (ns.length : Int) = trN n (TRN ns) := by
  have hn : okNx n (ns.length : Int) = true := by
    have := zl9 n ns 0
    rw [ok, Nat.zero_add] at this
    exact (Bool.and_eq_true _ _ ▸ this.symm : (okNs 0 ns && okNx n (ns.length : Int)) = true) |> fun h => (Bool.and_eq_true _ _ ▸ h : okNs 0 ns = true ∧ okNx n (ns.length : Int) = true).2
  unfold TRN
  rw [show (ns ++ [n]).length = ns.length + 1 by simp]
  show trN ((ns ++ [n]).getD (ns.length : Int).toNat ⟨⟨#[]⟩, 0, 0, 0⟩) (trOf (ns ++ [n]) ns.length) = trN n (trOf ns ns.length)
  rw [zip (show ns.length < (ns ++ [n]).length by simp), List.getElem_concat_length rfl]
  refine zkp hn (fun p p0 p1 => ?_)
  obtain ⟨p, rfl⟩ := Int.eq_ofNat_of_zero_le p0
  exact zn4 ok ns.length p (by omega) (by omega)
theorem zsn (x : Node) (s : ShSt) (g : Int → Tr) : trN (zgd x s) g = trN x (fun p => g (rd s.2 p)) := by
  rcases zkk x.f0 with c | c | c | c | c
  · rw [zfe s (.inl c), zhz _ (.inl c), zhz _ (.inl c)]
  · rw [zfe s (.inr c), zhz _ (.inr c), zhz _ (.inr c)]
  · rw [zkm s c, zp6 (x := x) _ c, zp6 _ (by exact c)]
  · rw [zko s c, zms (x := x) _ c, zms _ (by exact c)]
  · have e : zgd x s = x := by unfold zgd; rw [c]; rfl
    rw [e]
    unfold trN
    rw [c]
    rfl
def prt (x : Node) : List Int := ze1 (kN x.f0) x.f1 x.f2
theorem rdB (u : List Bool) (j : Nat) : rdOf false u (j : Int) = u.getD j false := by unfold rdOf; rw [Int.toNat_natCast]
def mk1 (k : Int) (u : List Bool) (p : Int) : List Bool := if rdOf false u p = true then u.set p.toNat true else u.set p.toNat (rdOf false u k)
theorem zpd (k : Int) (u : List Bool) (p : Int) : (mk1 k u p).length = u.length := by unfold mk1; split <;> simp
theorem zt3 (k : Int) (u : List Bool) (p j : Nat) (hp : p < u.length) : (mk1 k u p).getD j false = if p = j then (u.getD p false || rdOf false u k) else u.getD j false := by
  unfold mk1
  rw [rdB, Int.toNat_natCast]
  by_cases h : u.getD p false = true
  · rw [if_pos h, List.getD_eq_getElem?_getD, List.getElem?_set]
    split
    · rw [h]; rfl
    · rw [← List.getD_eq_getElem?_getD]
  · rw [if_neg h, List.getD_eq_getElem?_getD, List.getElem?_set]
    split
    · rw [show u.getD p false = false by simpa using h]; rfl
    · rw [← List.getD_eq_getElem?_getD]
theorem mkF (k m : Nat) : ∀ (ps : List Int) (u : List Bool), (∀ p ∈ ps, 0 ≤ p ∧ p ≤ (k : Int) - 1) → u.length = m → k < m →
    (ps.foldl (mk1 k) u).length = m ∧ (∀ j : Nat, k ≤ j → (ps.foldl (mk1 k) u).getD j false = u.getD j false) ∧ (∀ j : Nat, u.getD j false = true → (ps.foldl (mk1 k) u).getD j false = true) ∧ (u.getD k false = true → ∀ p ∈ ps, (ps.foldl (mk1 k) u).getD p.toNat false = true)
  | [], u, _, h, _ => ⟨h, fun _ _ => rfl, fun _ h => h, fun _ p hp => absurd hp (by simp)⟩
  | q :: ps, u, hps, h, hk => by
    obtain ⟨q0, q1⟩ := hps q (by simp)
    obtain ⟨p, rfl⟩ := Int.eq_ofNat_of_zero_le q0
    have g := fun j => zt3 (k : Int) u p j (by omega)
    obtain ⟨a, b, c, d⟩ := mkF k m ps (mk1 k u p) (fun x hx => hps x (by simp [hx])) (by rw [zpd, h]) hk
    refine ⟨a, fun j hj => ?_, fun j hj => ?_, fun hu x hx => ?_⟩
    · show (ps.foldl (mk1 k) (mk1 k u p)).getD j false = _
      rw [b j hj, g, if_neg (by omega)]
    · refine c j ?_
      rw [g]
      split
      · rename_i e
        subst e
        rw [hj]
        rfl
      · exact hj
    · show (ps.foldl (mk1 k) (mk1 k u p)).getD x.toNat false = true
      rcases List.mem_cons.1 hx with rfl | hx
      · refine c _ ?_
        rw [Int.toNat_natCast, g, if_pos rfl, rdB, hu]
        simp
      · refine d ?_ x hx
        rw [g, if_neg (by omega)]
        exact hu
structure Nd (ns : List Node) (i0 m : Nat) (k : Int) (u : List Bool) : Prop where
  len : u.length = m
  top : u.getD i0 false = true
  hi : ∀ j : Nat, i0 < j → u.getD j false = false
  cl : ∀ (j : Nat) (hj : j < ns.length), k < (j : Int) → u.getD j false = true → ∀ p ∈ prt ns[j], u.getD p.toNat false = true
theorem Nd.step {ns : List Node} {i0 m k : Nat} {u : List Bool} (h : Nd ns i0 m (k : Int) u) (ok : okNs 0 ns = true) (hk : k < ns.length) (hi : k ≤ i0) (hm : i0 < m) : Nd ns i0 m ((k : Int) - 1) ((prt ns[k]).foldl (mk1 k) u) := by
  have hok := ze2 ns 0 k hk ok
  rw [Nat.zero_add] at hok
  obtain ⟨a, b, c, d⟩ := mkF k m (prt ns[k]) u (zfv hok).2 h.len (by omega)
  refine ⟨a, c i0 h.top, fun j hj => by rw [b j (by omega), h.hi j hj], fun j hj hkj hu p hp => ?_⟩
  have hu' : u.getD j false = true := by rw [← b j (by omega)]; exact hu
  by_cases e : j = k
  · subst e
    exact d hu' p hp
  · exact c _ (h.cl j hj (by omega) hu' p hp)
structure Kq (ns : List Node) (i0 m : Nat) (u : List Bool) (j : Nat) (out : List Node) (names : List Int) : Prop where
  ok : okNs 0 out = true
  le : out.length ≤ j
  nl : names.length = m
  mp : ∀ q : Nat, q < j → u.getD q false = true → 0 ≤ rd names (q : Int) ∧ rd names (q : Int) < out.length ∧ TRN out (rd names (q : Int)) = TRN ns (q : Int)
  last : i0 < j → rd names (i0 : Int) = (out.length : Int) - 1
theorem Kq.skip {ns : List Node} {i0 m : Nat} {u : List Bool} {j : Nat} {out : List Node} {names : List Int} (h : Kq ns i0 m u j out names) (hu : u.getD j false = false) (ht : u.getD i0 false = true) : Kq ns i0 m u (j + 1) out names := by
  have ne : ∀ q : Nat, u.getD q false = true → q ≠ j := fun q hq e => by rw [e, hu] at hq; cases hq
  refine ⟨h.ok, by have := h.le; omega, h.nl, fun q hq hq' => h.mp q (by have := ne q hq'; omega) hq', fun hi => h.last (by have := ne i0 ht; omega)⟩
theorem zva {ns : List Node} (ok : okNs 0 ns = true) (j : Nat) (hj : j < ns.length) : TRN ns (j : Int) = trN ns[j] (TRN ns) := by
  have hok := ze2 ns 0 j hj ok
  rw [Nat.zero_add] at hok
  unfold TRN
  rw [zhi ok ns.length (j + 1) j hj (by omega) hj]
  show trN (ns.getD (j : Int).toNat ⟨⟨#[]⟩, 0, 0, 0⟩) (trOf ns j) = _
  rw [zip hj]
  refine zkp hok (fun p p0 p1 => ?_)
  obtain ⟨p, rfl⟩ := Int.eq_ofNat_of_zero_le p0
  exact zhi ok j ns.length p (by omega) (by omega) (by omega)
theorem Kq.put {ns : List Node} {i0 m : Nat} {u : List Bool} {j : Nat} {out : List Node} {names : List Int} (h : Kq ns i0 m u j out names) (ok : okNs 0 ns = true) (hN : Nd ns i0 m (-1) u) (hj : j < ns.length) (hjm : j < m) (hu : u.getD j false = true) :
    Kq ns i0 m u (j + 1) (out ++ [zgd ns[j] (out, names.set j (out.length : Int))]) (names.set j (out.length : Int)) := by
  have hok := ze2 ns 0 j hj ok
  rw [Nat.zero_add] at hok
  have hnl : j < names.length := by rw [h.nl]; exact hjm
  have hr : ∀ q : Nat, rd (names.set j (out.length : Int)) (q : Int) = if j = q then (out.length : Int) else rd names (q : Int) := fun q => zln _ _ _ _ hnl
  have hi0 : j ≤ i0 := by
    rcases Nat.lt_or_ge i0 j with a | a
    · rw [hN.hi j a] at hu
      cases hu
    · exact a
  have hp : ∀ p ∈ prt ns[j], 0 ≤ rd (names.set j (out.length : Int)) p ∧ rd (names.set j (out.length : Int)) p < out.length ∧ TRN out (rd (names.set j (out.length : Int)) p) = TRN ns p := fun p hp => by
    obtain ⟨a, b⟩ := (zfv hok).2 p hp
    obtain ⟨p', rfl⟩ := Int.eq_ofNat_of_zero_le a
    have := hN.cl j hj (by omega) hu _ hp
    rw [Int.toNat_natCast] at this
    rw [hr, if_neg (by omega)]
    exact h.mp p' (by omega) this
  have hn : okNx (zgd ns[j] (out, names.set j (out.length : Int))) (out.length : Int) = true := zsm hok (fun p hq => ⟨(hp p hq).1, (hp p hq).2.1⟩)
  have ok' : okNs 0 (out ++ [zgd ns[j] (out, names.set j (out.length : Int))]) = true := by rw [zl9, h.ok, Nat.zero_add, hn]; rfl
  refine ⟨ok', by have := h.le; simp only [List.length_append, List.length_cons, List.length_nil]; omega, by simp [h.nl], fun q hq hq' => ?_, fun hi => ?_⟩
  · rw [hr]
    by_cases e : j = q
    · subst e
      rw [if_pos rfl]
      refine ⟨by omega, by simp; omega, ?_⟩
      rw [zrh ok', zsn, zva ok j hj]
      unfold trN
      have hh := hp
      unfold prt at hh
      rcases zkk ns[j].f0 with c | c | c | c | c <;> rw [c] at hh ⊢ <;> simp only [ze1] at hh ⊢
      · rw [(hh _ (by simp)).2.2]
      · rw [(hh _ (by simp)).2.2, (hh ns[j].f2 (by simp)).2.2]
    · rw [if_neg e]
      obtain ⟨a, b, c⟩ := h.mp q (by omega) hq'
      obtain ⟨z, hz⟩ := Int.eq_ofNat_of_zero_le a
      rw [hz] at b c ⊢
      exact ⟨by omega, by simp; omega, by rw [zrg ok' z (by omega), c]⟩
  · have : i0 = j := by omega
    subst this
    rw [hr, if_pos rfl]
    simp
def zn5 (ns : List Node) (i : Nat) (e : List Node) : Prop := okNs 0 e = true ∧ 0 < e.length ∧ e.length ≤ ns.length ∧ TRN e ((e.length : Int) - 1) = TRN ns (i : Int)
theorem Kq.kept {ns : List Node} {i0 m : Nat} {u : List Bool} {j : Nat} {out : List Node} {names : List Int} (h : Kq ns i0 m u j out names) (hN : Nd ns i0 m (-1) u) (hj : i0 < j) (hl : j ≤ ns.length) : zn5 ns i0 out := by
  obtain ⟨a, b, c⟩ := h.mp i0 hj hN.top
  have d := h.last hj
  have := h.le
  exact ⟨h.ok, by omega, by omega, by rw [← d]; exact c⟩
theorem zpe (ns : List Node) (ok : okNs 0 ns = true) (hl : ns.length ≤ 1000) (i0 : Nat) (hi : i0 < ns.length) (u : List Bool) (hN : Nd ns i0 ns.length (-1) u) : ∀ (d j : Nat) (out : List Node) (names : List Int), j + d = ns.length → Kq ns i0 ns.length u j out names → ∃ e, Ev (fun k => zbx k u out names ns ns.length j) e ∧ zn5 ns i0 e
  | 0, j, out, names, h, hK => ⟨out, Ev.step (fun k => by simp only [zbx]; rfl) (za7 (by omega) (zb3 _)), hK.kept hN (by omega) (by omega)⟩
  | d + 1, j, out, names, h, hK => by
    have hj : j < ns.length := by omega
    have hx : zac ns (j : Int) = ns[j] := zi3 (zfl ns j hj)
    have hok := ze2 ns 0 j hj ok
    rw [Nat.zero_add] at hok
    have hul := hN.len
    have hnl := hK.nl
    have hle := hK.le
    by_cases q : u.getD j false = true
    · obtain ⟨e, a, b⟩ := zpe ns ok hl i0 hi u hN d (j + 1) _ _ (by omega) (hK.put ok hN hj hj q)
      rw [← w64n j (by omega)] at a
      have hrn := zta ns[j] (j : Int) hok (out, names.set j (out.length : Int)) (by simp; omega)
      refine ⟨e, Ev.step (fun k => by simp only [zbx, rdB, hx, Int.toNat_natCast, Option.bind_some]; rfl) (zak (by omega) (zak (by omega) (zak (by omega) (zak (by omega) (zak q (zak (by omega) (Ev.bind hrn ?_))))))), b⟩
      exact zak (by omega) a
    · obtain ⟨e, a, b⟩ := zpe ns ok hl i0 hi u hN d (j + 1) _ _ (by omega) (hK.skip (by simpa using q) hN.top)
      rw [← w64n j (by omega)] at a
      exact ⟨e, Ev.step (fun k => by simp only [zbx, rdB, hx, Int.toNat_natCast]; rfl) (zak (by omega) (zak (by omega) (zak (by omega) (zak (by omega) (za7 q a))))), b⟩
theorem zri (ns : List Node) (i j : Nat) (ps : List Int) (hps : ∀ p ∈ ps, 0 ≤ p ∧ p ≤ (j : Int) - 1) (hpl : ps.length ≤ 2) (m : Nat) (hjm : j < m) (e : List Node) : ∀ (d t : Nat) (u : List Bool), t + d = ps.length → u.length = m →
    Ev (fun k => zcy k ns ((ps.drop t).foldl (mk1 j) u) (wrap64 ((j : Int) - 1))) e → Ev (fun k => zcd k ns u j ps ps.length t) e
  | 0, t, u, h, hu, H => by
    rw [List.drop_of_length_le (by omega)] at H
    exact Ev.step (fun k => by simp only [zcd]; rfl) (za7 (by omega) H)
  | d + 1, t, u, h, hu, H => by
    have ht : t < ps.length := by omega
    rw [List.drop_eq_getElem_cons ht, List.foldl_cons] at H
    obtain ⟨p0, p1⟩ := hps _ (List.getElem_mem ht)
    have hr : rd ps (t : Int) = ps[t] := zqf (zfl ps t ht)
    have ih := zri ns i j ps hps hpl m hjm e d (t + 1) (mk1 j u ps[t]) (by omega) (by rw [zpd, hu]) H
    rw [← w64n t (by omega)] at ih
    refine Ev.step (fun k => by simp only [zcd, hr]; rfl) (zak (by omega) (zak (by omega) (zak (by omega) (zak p0 (zak (by omega) ?_)))))
    unfold mk1 at ih
    by_cases q : rdOf false u ps[t] = true
    · rw [if_pos q] at ih
      exact zak q ih
    · rw [if_neg q] at ih
      exact za7 q (zak (by omega) (zak (by omega) ih))
theorem zrj (ns : List Node) (ok : okNs 0 ns = true) (hl : ns.length ≤ 1000) (i0 : Nat) (hi : i0 < ns.length) : ∀ (j : Nat) (u : List Bool), j ≤ i0 + 1 → Nd ns i0 ns.length ((j : Int) - 1) u → ∃ e, Ev (fun k => zcy k ns u ((j : Int) - 1)) e ∧ zn5 ns i0 e
  | 0, u, _, hN => by
    obtain ⟨e, a, b⟩ := zpe ns ok hl i0 hi u hN ns.length 0 [] (List.replicate ns.length 0) (by omega) ⟨rfl, Nat.le_refl _, by simp, fun q hq => absurd hq (by omega), fun hq => absurd hq (by omega)⟩
    refine ⟨e, Ev.step (fun k => by simp only [zcy]; rfl) (za7 (by omega) (zak (by omega) (zak (by omega) ?_))), b⟩
    simpa using a
  | j + 1, u, hj, hN => by
    have e1 : (((j + 1 : Nat) : Int) - 1) = (j : Int) := by omega
    rw [e1] at hN ⊢
    have hjl : j < ns.length := by omega
    have hx : zac ns (j : Int) = ns[j] := zi3 (zfl ns j hjl)
    have hok := ze2 ns 0 j hjl ok
    rw [Nat.zero_add] at hok
    obtain ⟨e, a, b⟩ := zrj ns ok hl i0 hi j _ (by omega) (hN.step ok hjl (by omega) hi)
    rw [← w64 (x := (j : Int) - 1) (by omega) (by omega)] at a
    exact ⟨e, Ev.step (fun k => by simp only [zcy, hx]; rfl) (zak (by omega) (zak (by omega) (zak (by omega) (Ev.bind (ztx ns[j]) (zri ns i0 j (prt ns[j]) (zfv hok).2 (zfv hok).1 ns.length hjl e (prt ns[j]).length 0 u (by omega) hN.len (by rw [List.drop_zero]; exact a)))))), b⟩
theorem ztc (ns : List Node) (i0 m : Nat) (h : i0 < m) : Nd ns i0 m (i0 : Int) ((List.replicate m false).set i0 true) := by
  have g : ∀ j : Nat, ((List.replicate m false).set i0 true).getD j false = if i0 = j then true else false := fun j => by
    rw [List.getD_eq_getElem?_getD, List.getElem?_set]
    split
    · simp [h]
    · rw [List.getElem?_replicate]
      split <;> rfl
  refine ⟨by simp, by rw [g, if_pos rfl], fun j hj => by rw [g, if_neg (by omega)], fun j hj hk hu => ?_⟩
  rw [g, if_neg (by omega)] at hu
  cases hu
theorem zt4 (ns : List Node) (ok : okNs 0 ns = true) (hl : ns.length ≤ 1000) (i0 : Nat) (hi : i0 < ns.length) : ∃ e, Ev (fun k => zfy k ns i0) e ∧ zn5 ns i0 e := by
  have hN := ztc ns i0 ns.length hi
  rw [show (i0 : Int) = ((i0 + 1 : Nat) : Int) - 1 by omega] at hN
  obtain ⟨e, a, b⟩ := zrj ns ok hl i0 hi (i0 + 1) _ (Nat.le_refl _) hN
  rw [show ((i0 + 1 : Nat) : Int) - 1 = (i0 : Int) by omega] at a
  refine ⟨e, ?_, b⟩
  unfold zfy
  refine zak (by omega) (zak (by omega) ?_)
  rw [Int.toNat_natCast]
  exact Ev.call rfl (zak (by omega) (zak (by simp; omega) (by rw [Int.toNat_natCast]; exact a)))
theorem zso (x : Node) (i : Int) (h : okNx x i = true) (s : ShSt) (hi : i ≤ s.2.length) : Ev (fun k => zdi k x.f0 x.f1 x.f2 x.f3 s.2) ((zgd x s).f0, (zgd x s).f1, (zgd x s).f2, (zgd x s).f3) := by
  unfold zdi
  refine Ev.bind (zjg x) ?_
  rcases zkk x.f0 with c | c | c | c | c
  · obtain ⟨e1, e2⟩ := zny h (.inl c)
    rw [zfe s (.inl c), zgm (.inl c)]
    refine zak ⟨by simp, by simp⟩ (Ev.some ?_)
    rw [e1, e2]
    rfl
  · obtain ⟨e1, e2⟩ := zny h (.inr c)
    rw [zfe s (.inr c), zgm (.inr c)]
    refine zak ⟨by simp, by simp⟩ (Ev.some ?_)
    rw [e1, e2]
    rfl
  · obtain ⟨e0, e1, e2⟩ := zos h c
    rw [zkm s c, show ze1 (kN x.f0) x.f1 x.f2 = [x.f1] by rw [c]; rfl]
    refine zak ⟨fun _ => ⟨e1, by omega⟩, by simp⟩ (Ev.some ?_)
    rw [e0]
    rfl
  · obtain ⟨⟨e1, e2⟩, e4, e5⟩ := zot h c
    rw [zko s c, show ze1 (kN x.f0) x.f1 x.f2 = [x.f1, x.f2] by rw [c]; rfl]
    exact zak ⟨fun _ => ⟨e1, by omega⟩, fun _ => ⟨e4, by omega⟩⟩ (zb3 _)
  · exact (zjh h c).elim
theorem zpf (ns : List Node) (ok : okNs 0 ns = true) (hl : ns.length ≤ 1000) (i0 : Nat) (hi : i0 < ns.length) (u : List Bool) (hN : Nd ns i0 (i0 + 1) (-1) u) : ∀ (d j : Nat) (out : List Node) (names : List Int), j + d = i0 + 1 → Kq ns i0 (i0 + 1) u j out names → ∃ e, Ev (fun k => zbb k ns i0 u names out j) e ∧ zn5 ns i0 e
  | 0, j, out, names, h, hK => ⟨out, Ev.step (fun k => by simp only [zbb]; rfl) (za7 (by omega) (zb3 _)), hK.kept hN (by omega) (by omega)⟩
  | d + 1, j, out, names, h, hK => by
    have hj : j < ns.length := by omega
    have hx : zac ns (j : Int) = ns[j] := zi3 (zfl ns j hj)
    have hok := ze2 ns 0 j hj ok
    rw [Nat.zero_add] at hok
    have hul := hN.len
    have hnl := hK.nl
    have hle := hK.le
    by_cases q : u.getD j false = true
    · obtain ⟨e, a, b⟩ := zpf ns ok hl i0 hi u hN d (j + 1) _ _ (by omega) (hK.put ok hN hj (by omega) q)
      rw [← w64n j (by omega)] at a
      have hrn := zso ns[j] (j : Int) hok (out, names.set j (out.length : Int)) (by simp; omega)
      refine ⟨e, Ev.step (fun k => by simp only [zbb, rdB, hx, Int.toNat_natCast, Option.bind_some]; rfl) (zak (by omega) (zak (by omega) (zak (by omega) (zak q (zak (by omega) (zak (by omega) (Ev.bind hrn ?_))))))), b⟩
      exact zak (by omega) a
    · obtain ⟨e, a, b⟩ := zpf ns ok hl i0 hi u hN d (j + 1) _ _ (by omega) (hK.skip (by simpa using q) hN.top)
      rw [← w64n j (by omega)] at a
      exact ⟨e, Ev.step (fun k => by simp only [zbb, rdB, hx, Int.toNat_natCast]; rfl) (zak (by omega) (zak (by omega) (zak (by omega) (za7 q a)))), b⟩
theorem zrk (ns : List Node) (i0 j : Nat) (ps : List Int) (hps : ∀ p ∈ ps, 0 ≤ p ∧ p ≤ (j : Int) - 1) (hpl : ps.length ≤ 2) (m : Nat) (hjm : j < m) (e : List Node) : ∀ (d t : Nat) (u : List Bool), t + d = ps.length → u.length = m →
    Ev (fun k => zb6 k ns i0 ((ps.drop t).foldl (mk1 j) u) (wrap64 ((j : Int) - 1))) e → Ev (fun k => zbr k ns i0 u j ps ps.length t) e
  | 0, t, u, h, hu, H => by
    rw [List.drop_of_length_le (by omega)] at H
    exact Ev.step (fun k => by simp only [zbr]; rfl) (za7 (by omega) H)
  | d + 1, t, u, h, hu, H => by
    have ht : t < ps.length := by omega
    rw [List.drop_eq_getElem_cons ht, List.foldl_cons] at H
    obtain ⟨p0, p1⟩ := hps _ (List.getElem_mem ht)
    have hr : rd ps (t : Int) = ps[t] := zqf (zfl ps t ht)
    have ih := zrk ns i0 j ps hps hpl m hjm e d (t + 1) (mk1 j u ps[t]) (by omega) (by rw [zpd, hu]) H
    rw [← w64n t (by omega)] at ih
    refine Ev.step (fun k => by simp only [zbr, hr]; rfl) (zak (by omega) (zak (by omega) (zak (by omega) (zak p0 (zak (by omega) ?_)))))
    unfold mk1 at ih
    by_cases q : rdOf false u ps[t] = true
    · rw [if_pos q] at ih
      exact zak q ih
    · rw [if_neg q] at ih
      exact za7 q (zak (by omega) (zak (by omega) ih))
theorem zrl (ns : List Node) (ok : okNs 0 ns = true) (hl : ns.length ≤ 1000) (i0 : Nat) (hi : i0 < ns.length) : ∀ (j : Nat) (u : List Bool), j ≤ i0 + 1 → Nd ns i0 (i0 + 1) ((j : Int) - 1) u → ∃ e, Ev (fun k => zb6 k ns i0 u ((j : Int) - 1)) e ∧ zn5 ns i0 e
  | 0, u, _, hN => by
    obtain ⟨e, a, b⟩ := zpf ns ok hl i0 hi u hN (i0 + 1) 0 [] (List.replicate (i0 + 1) 0) (by omega) ⟨rfl, Nat.le_refl _, by simp, fun q hq => absurd hq (by omega), fun hq => absurd hq (by omega)⟩
    have ew : wrap64 ((i0 : Int) + 1) = ((i0 + 1 : Nat) : Int) := w64n i0 (by omega)
    refine ⟨e, Ev.step (fun k => by simp only [zb6, ew]; rfl) (za7 (by omega) (zak (by omega) (zak (by omega) ?_))), b⟩
    simpa using a
  | j + 1, u, hj, hN => by
    have e1 : (((j + 1 : Nat) : Int) - 1) = (j : Int) := by omega
    rw [e1] at hN ⊢
    have hjl : j < ns.length := by omega
    have hx : zac ns (j : Int) = ns[j] := zi3 (zfl ns j hjl)
    have hok := ze2 ns 0 j hjl ok
    rw [Nat.zero_add] at hok
    obtain ⟨e, a, b⟩ := zrl ns ok hl i0 hi j _ (by omega) (hN.step ok hjl (by omega) (by omega))
    rw [← w64 (x := (j : Int) - 1) (by omega) (by omega)] at a
    exact ⟨e, Ev.step (fun k => by simp only [zb6, hx]; rfl) (zak (by omega) (zak (by omega) (zak (by omega) (Ev.bind (zjg ns[j]) (zrk ns i0 j (prt ns[j]) (zfv hok).2 (zfv hok).1 (i0 + 1) (by omega) e (prt ns[j]).length 0 u (by omega) hN.len (by rw [List.drop_zero]; exact a)))))), b⟩
theorem zt5 (ns : List Node) (ok : okNs 0 ns = true) (hl : ns.length ≤ 1000) (i0 : Nat) (hi : i0 < ns.length) : ∃ e, Ev (fun k => zek k ns i0) e ∧ zn5 ns i0 e := by
  have hN := ztc ns i0 (i0 + 1) (by omega)
  rw [show (i0 : Int) = ((i0 + 1 : Nat) : Int) - 1 by omega] at hN
  obtain ⟨e, a, b⟩ := zrl ns ok hl i0 hi (i0 + 1) _ (Nat.le_refl _) hN
  rw [show ((i0 + 1 : Nat) : Int) - 1 = (i0 : Int) by omega] at a
  refine ⟨e, ?_, b⟩
  unfold zek
  rw [w64n i0 (by omega), Int.toNat_natCast]
  refine zak (by omega) (zak (by omega) ?_)
  exact Ev.call rfl (zak (by omega) (zak (by simp; omega) (by rw [Int.toNat_natCast]; exact a)))
theorem zqj {ns ms : List Node} {i j : Nat} {e e' : List Node} (h : zn5 ns i e) (h' : zn5 ms j e') (ht : TRN ns (i : Int) = TRN ms (j : Int)) : shP e = shP e' := by
  obtain ⟨a, b, c, d⟩ := h
  obtain ⟨a', b', c', d'⟩ := h'
  rw [ztb a b, ztb a' b']
  unfold TRN at d d' ht
  rw [show ((e.length - 1 : Nat) : Int) = (e.length : Int) - 1 by omega, show ((e'.length - 1 : Nat) : Int) = (e'.length : Int) - 1 by omega, d, d', ht]
end Go.Proofs.Ytkfkbmlbpeojaaa.PL
end
section
namespace Go.Proofs.Ytkfkbmlbpeojaaa.PL
open Go Go.RowKit Go.Proofs.YtkfkbmlbpeojaaaW.PrintWords Go.Proofs.YtkfkbmlbpeojaaaW.PrintLast Go.Proofs.YtkfkbmlbpeojaaaW.PrintMore Go.Proofs.Ytkfkbmlbpeojaaa.Q
set_option linter.unusedSimpArgs false
set_option linter.unusedVariables false
def nC : ByteArray := ⟨#[99, 111, 110, 115, 116]⟩
def nAdd : ByteArray := ⟨#[97, 100, 100]⟩
def nShl : ByteArray := ⟨#[115, 104, 108]⟩
def opK (s : ByteArray) : Nat := match cls s with
  | 0 => 0
  | 1 => if s.toList = ([109, 111, 118] : List UInt8) then 1 else 2
  | 2 => 3
  | 3 => 3
  | 4 => 3
  | 5 => 4
  | 6 => 4
  | 7 => 5
  | _ => 6
def zvb (s : ByteArray) : Bool :=
  decide (opK s ≤ 5) && decide (s.toList = ([115, 101, 116] : List UInt8) ↔ opK s = 0) && decide (s.toList = ([109, 111, 118] : List UInt8) ↔ opK s = 1) && decide (s.toList = ([108, 101, 97] : List UInt8) ↔ opK s = 5) &&
  decide (opK s = 2 → kN s = 2) && decide (opK s = 3 → kN s = 3) && decide (opK s = 4 → kN (s.extract 0 3) = 3 ∧ s.size = 4) &&
  decide ((zfh (cls s) s).2.2.1 ≤ (zfh (cls s) s).2.2.2.1 ↔ opK s = 0 ∨ opK s = 4 ∨ opK s = 5) && decide (opK s = 2 → (zfh (cls s) s).2.1 = false ∧ (zfh (cls s) s).2.2.2.2.2.1 = s) && decide (opK s = 3 → (zfh (cls s) s).2.1 = true ∧ (zfh (cls s) s).2.2.2.2.2.1 = s) && decide (opK s = 4 → (zfh (cls s) s).2.2.2.2.2.1 = s.extract 0 3) &&
  decide (opK s = 4 ↔ s.toList = ([97, 100, 100, 105] : List UInt8) ∨ s.toList = ([97, 110, 100, 105] : List UInt8) ∨ s.toList = ([120, 111, 114, 105] : List UInt8) ∨ s.toList = ([115, 104, 108, 105] : List UInt8) ∨ s.toList = ([115, 104, 114, 105] : List UInt8)) &&
  decide (opK s = 2 ↔ s.toList = ([110, 111, 116] : List UInt8) ∨ s.toList = ([110, 101, 103] : List UInt8))
theorem zt6 : (ops.all fun p => zvb p.1) = true := by decide +kernel
theorem zvc {x : Instr} (h : okI x) : ∃ p ∈ ops, x.f0 = p.1 := Classical.byContradiction fun e => h.1 (zl6 fun p hp he => e ⟨p, hp, he⟩)
structure OpT (s : ByteArray) : Prop where
  le : opK s ≤ 5
  set : s.toList = ([115, 101, 116] : List UInt8) ↔ opK s = 0
  mov : s.toList = ([109, 111, 118] : List UInt8) ↔ opK s = 1
  lea : s.toList = ([108, 101, 97] : List UInt8) ↔ opK s = 5
  k2 : opK s = 2 → kN s = 2
  k3 : opK s = 3 → kN s = 3
  k4 : opK s = 4 → kN (s.extract 0 3) = 3 ∧ s.size = 4
  imm : (zfh (cls s) s).2.2.1 ≤ (zfh (cls s) s).2.2.2.1 ↔ opK s = 0 ∨ opK s = 4 ∨ opK s = 5
  f2 : opK s = 2 → (zfh (cls s) s).2.1 = false ∧ (zfh (cls s) s).2.2.2.2.2.1 = s
  f3 : opK s = 3 → (zfh (cls s) s).2.1 = true ∧ (zfh (cls s) s).2.2.2.2.2.1 = s
  f4 : opK s = 4 → (zfh (cls s) s).2.2.2.2.2.1 = s.extract 0 3
  s4 : opK s = 4 ↔ s.toList = ([97, 100, 100, 105] : List UInt8) ∨ s.toList = ([97, 110, 100, 105] : List UInt8) ∨ s.toList = ([120, 111, 114, 105] : List UInt8) ∨ s.toList = ([115, 104, 108, 105] : List UInt8) ∨ s.toList = ([115, 104, 114, 105] : List UInt8)
  s2 : opK s = 2 ↔ s.toList = ([110, 111, 116] : List UInt8) ∨ s.toList = ([110, 101, 103] : List UInt8)
theorem zj3 {x : Instr} (h : okI x) : OpT x.f0 := by
  obtain ⟨p, hp, e⟩ := zvc h
  have := List.all_eq_true.1 zt6 p hp
  unfold zvb at this
  simp only [Bool.and_eq_true, decide_eq_true_eq] at this
  rw [e]
  obtain ⟨⟨⟨⟨⟨⟨⟨⟨⟨⟨⟨⟨a, b⟩, c⟩, d⟩, e⟩, f⟩, g⟩, h⟩, i⟩, j⟩, k⟩, l⟩, m⟩ := this
  exact ⟨a, b, c, d, e, f, g, h, i, j, k, l, m⟩
def cN (x : Instr) : Node := ⟨nC, 0, 0, x.f4⟩
def stp (x : Instr) (s : ShSt) : ShSt := match opK x.f0 with
  | 0 => (s.1 ++ [cN x], s.2.set x.f1.toNat s.1.length)
  | 1 => (s.1, s.2.set x.f1.toNat (rd s.2 x.f2))
  | 2 => (s.1 ++ [⟨x.f0, rd s.2 x.f2, 0, 0⟩], s.2.set x.f1.toNat s.1.length)
  | 3 => (s.1 ++ [⟨x.f0, rd s.2 x.f2, rd s.2 x.f3, 0⟩], s.2.set x.f1.toNat s.1.length)
  | 4 => (s.1 ++ [cN x] ++ [⟨x.f0.extract 0 3, rd s.2 x.f2, s.1.length, 0⟩], s.2.set x.f1.toNat ((s.1 ++ [cN x]).length : Int))
  | _ => (s.1 ++ [cN x] ++ [⟨nShl, rd s.2 x.f3, s.1.length, 0⟩] ++ [⟨nAdd, rd s.2 x.f2, ((s.1 ++ [cN x]).length : Int), 0⟩], s.2.set x.f1.toNat ((s.1 ++ [cN x] ++ [(⟨nShl, rd s.2 x.f3, s.1.length, 0⟩ : Node)]).length : Int))
theorem zt7 {x : Instr} (h : okI x) (s : ShSt) : syDo x (zfh (cls x.f0) x.f0) s = stp x s := by
  have t := zj3 h
  unfold syDo stp
  have hle := t.le
  simp only
  rcases Nat.lt_or_ge (opK x.f0) 1 with c | c
  · have c0 : opK x.f0 = 0 := by omega
    rw [if_pos (t.set.2 c0), c0, if_pos (t.imm.2 (.inl c0)), if_pos (t.imm.2 (.inl c0))]
    rfl
  rw [if_neg (fun e => by have := t.set.1 e; omega)]
  by_cases c1 : opK x.f0 = 1
  · rw [if_pos (t.mov.2 c1), c1, if_neg (fun e => by have := t.imm.1 e; omega)]
    rfl
  rw [if_neg (fun e => c1 (t.mov.1 e))]
  by_cases c5 : opK x.f0 = 5
  · rw [if_pos (t.lea.2 c5), c5, if_pos (t.imm.2 (.inr (.inr c5))), if_pos (t.imm.2 (.inr (.inr c5)))]
    rfl
  rw [if_neg (fun e => c5 (t.lea.1 e))]
  by_cases c4 : opK x.f0 = 4
  · have im := t.imm.2 (.inr (.inl c4))
    rw [if_pos im, if_pos im, if_pos im, c4, t.f4 c4]
    rfl
  have im : ¬ (zfh (cls x.f0) x.f0).2.2.1 ≤ (zfh (cls x.f0) x.f0).2.2.2.1 := fun e => by have := t.imm.1 e; omega
  rw [if_neg im, if_neg im]
  by_cases c2 : opK x.f0 = 2
  · rw [if_neg (by rw [(t.f2 c2).1]; decide), c2, (t.f2 c2).2]
    rfl
  · have c3 : opK x.f0 = 3 := by omega
    rw [if_pos (t.f3 c3).1, c3, (t.f3 c3).2]
    rfl
theorem zpg {x : Instr} (h : okI x) (s : ShSt) : (stp x s).1.length ≤ s.1.length + 3 ∧ (stp x s).2.length = s.2.length := by
  have hle := (zj3 h).le
  unfold stp
  split <;> simp
structure Rp (s : ShSt) (T : Nat → Tr) : Prop where
  ok : okNs 0 s.1 = true
  len : s.2.length = 6
  reg : ∀ j : Nat, j < 6 → 0 ≤ rd s.2 (j : Int) ∧ rd s.2 (j : Int) < s.1.length ∧ TRN s.1 (rd s.2 (j : Int)) = T j
def stT (x : Instr) (T : Nat → Tr) : Tr := match opK x.f0 with
  | 0 => .lf nC x.f4
  | 1 => T x.f2.toNat
  | 2 => .un x.f0 0 (T x.f2.toNat)
  | 3 => .bi x.f0 0 (T x.f2.toNat) (T x.f3.toNat)
  | 4 => .bi (x.f0.extract 0 3) 0 (T x.f2.toNat) (.lf nC x.f4)
  | _ => .bi nAdd 0 (T x.f2.toNat) (.bi nShl 0 (T x.f3.toNat) (.lf nC x.f4))
def updT (T : Nat → Tr) (i : Nat) (t : Tr) : Nat → Tr := fun j => if i = j then t else T j
structure Up (ns ns' : List Node) : Prop where
  ok : okNs 0 ns' = true
  le : ns.length ≤ ns'.length
  old : ∀ i : Nat, i < ns.length → TRN ns' (i : Int) = TRN ns (i : Int)
theorem Up.refl {ns : List Node} (h : okNs 0 ns = true) : Up ns ns := ⟨h, Nat.le_refl _, fun _ _ => rfl⟩
theorem Up.add {ns ns' : List Node} (h : Up ns ns') {n : Node} (hn : okNx n (ns'.length : Int) = true) : Up ns (ns' ++ [n]) ∧ TRN (ns' ++ [n]) (ns'.length : Int) = trN n (TRN ns') := by
  have ok' : okNs 0 (ns' ++ [n]) = true := by rw [zl9, h.ok, Nat.zero_add, hn]; rfl
  exact ⟨⟨ok', by have := h.le; simp; omega, fun i hi => by rw [zrg ok' i (by have := h.le; omega), h.old i hi]⟩, zrh ok'⟩
theorem Rp.put {s : ShSt} {T : Nat → Tr} (h : Rp s T) {ns' : List Node} (u : Up s.1 ns') (i : Nat) (hi : i < 6) {v : Int} {t : Tr} (h0 : 0 ≤ v) (h1 : v < ns'.length) (ht : TRN ns' v = t) : Rp (ns', s.2.set i v) (updT T i t) := by
  refine ⟨u.ok, by simp [h.len], fun j hj => ?_⟩
  rw [zln _ _ _ _ (by rw [h.len]; exact hi)]
  unfold updT
  split
  · exact ⟨h0, h1, ht⟩
  · obtain ⟨a, b, c⟩ := h.reg j hj
    obtain ⟨p, hp⟩ := Int.eq_ofNat_of_zero_le a
    rw [hp] at b c ⊢
    have := u.le
    exact ⟨by omega, by simp only; omega, by simp only; rw [u.old p (by omega), c]⟩
theorem ziq {x : Instr} (h : okI x) : (0 ≤ x.f1 ∧ x.f1 < 6) ∧ (0 ≤ x.f2 ∧ x.f2 < 6) ∧ (0 ≤ x.f3 ∧ x.f3 < 6) := by
  obtain ⟨_, a, b, c, _⟩ := h
  refine ⟨by omega, ?_, ?_⟩
  · rcases b with b | b <;> omega
  · rcases c with c | c <;> omega
theorem zph {x : Instr} (h : okI x) (k : opK x.f0 = 0 ∨ opK x.f0 = 4 ∨ opK x.f0 = 5) : 0 ≤ x.f4 ∧ x.f4 ≤ 63 := by
  obtain ⟨a, _, _, _, b, c⟩ := h
  have hc := zs8 x.f0
  have : cls x.f0 = 0 ∨ cls x.f0 = 1 ∨ cls x.f0 = 2 ∨ cls x.f0 = 3 ∨ cls x.f0 = 4 ∨ cls x.f0 = 5 ∨ cls x.f0 = 6 ∨ cls x.f0 = 7 := by omega
  rcases this with e | e | e | e | e | e | e | e <;> rw [e] at b c <;> simp only [zjp] at b c <;> omega
theorem kN_c : kN nC = 1 := by decide +kernel
theorem ztd : kN nAdd = 3 := by decide +kernel
theorem zte : kN nShl = 3 := by decide +kernel
theorem okc {x : Instr} (h : 0 ≤ x.f4 ∧ x.f4 ≤ 63) (i : Int) : okNx (cN x) i = true := by
  unfold okNx cN
  simp only
  rw [kN_c]
  simp [okNd]
  omega
theorem ok3 {s : ByteArray} (c : kN s = 3) {a b i : Int} (h : (0 ≤ a ∧ a < i) ∧ 0 ≤ b ∧ b < i) : okNx ⟨s, a, b, 0⟩ i = true := by
  unfold okNx
  simp only
  rw [c]
  simp [okNd]
  omega
theorem ok2 {s : ByteArray} (c : kN s = 2) {a i : Int} (h : 0 ≤ a ∧ a < i) : okNx ⟨s, a, 0, 0⟩ i = true := by
  unfold okNx
  simp only
  rw [c]
  simp [okNd]
  omega
theorem zvd {x : Instr} (hx : okI x) {s : ShSt} {T : Nat → Tr} (h : Rp s T) : Rp (stp x s) (updT T x.f1.toNat (stT x T)) := by
  have t := zj3 hx
  have hle := t.le
  obtain ⟨r1, r2, r3⟩ := ziq hx
  obtain ⟨a, ha⟩ := Int.eq_ofNat_of_zero_le r2.1
  obtain ⟨b, hb⟩ := Int.eq_ofNat_of_zero_le r3.1
  obtain ⟨a1, a2, a3⟩ := h.reg a (by omega)
  obtain ⟨b1, b2, b3⟩ := h.reg b (by omega)
  obtain ⟨pa, hpa⟩ := Int.eq_ofNat_of_zero_le a1
  obtain ⟨pb, hpb⟩ := Int.eq_ofNat_of_zero_le b1
  have hi : x.f1.toNat < 6 := by omega
  have u0 := Up.refl h.ok
  unfold stp stT
  rw [ha, hb, Int.toNat_natCast, Int.toNat_natCast, ← a3, ← b3, hpa, hpb]
  rw [hpa] at a2
  rw [hpb] at b2
  have c : opK x.f0 = 0 ∨ opK x.f0 = 1 ∨ opK x.f0 = 2 ∨ opK x.f0 = 3 ∨ opK x.f0 = 4 ∨ opK x.f0 = 5 := by omega
  rcases c with c | c | c | c | c | c <;> rw [c] <;> simp only
  · obtain ⟨u, e⟩ := u0.add (okc (zph hx (.inl c)) _)
    exact h.put u _ hi (by omega) (by simp; omega) (by rw [e, zhz _ (.inr kN_c)]; rfl)
  · exact h.put u0 _ hi (by omega) a2 rfl
  · obtain ⟨u, e⟩ := u0.add (n := ⟨x.f0, pa, 0, 0⟩) (ok2 (t.k2 c) (by omega))
    exact h.put u _ hi (by omega) (by simp; omega) (by rw [e, zp6 _ (by exact t.k2 c)])
  · obtain ⟨u, e⟩ := u0.add (n := ⟨x.f0, pa, pb, 0⟩) (ok3 (t.k3 c) (by omega))
    exact h.put u _ hi (by omega) (by simp; omega) (by rw [e, zms _ (by exact t.k3 c)])
  · obtain ⟨u, e⟩ := u0.add (okc (zph hx (.inr (.inl c))) _)
    obtain ⟨u', e'⟩ := u.add (n := ⟨x.f0.extract 0 3, pa, (s.1.length : Int), 0⟩) (ok3 (t.k4 c).1 (by simp; omega))
    refine h.put u' _ hi (by omega) (by simp) ?_
    rw [e', zms _ (by exact (t.k4 c).1)]
    simp only
    rw [u.old pa (by omega), e, zhz _ (.inr kN_c)]
    rfl
  · obtain ⟨u, e⟩ := u0.add (okc (zph hx (.inr (.inr c))) _)
    obtain ⟨u', e'⟩ := u.add (n := ⟨nShl, pb, (s.1.length : Int), 0⟩) (ok3 zte (by simp; omega))
    obtain ⟨u'', e''⟩ := u'.add (n := ⟨nAdd, pa, ((s.1 ++ [cN x]).length : Int), 0⟩) (ok3 ztd (by simp; omega))
    refine h.put u'' _ hi (by omega) (by simp) ?_
    rw [e'', zms _ (by exact ztd)]
    simp only
    rw [u'.old pa (by omega), e', zms _ (by exact zte)]
    simp only
    rw [u.old pb (by omega), e, zhz _ (.inr kN_c)]
    rfl
theorem ztf : ∀ (l : List Instr) (s : ShSt), (∀ x ∈ l, okI x) → s.1.length + 3 * l.length < 1000000 → s.2.length = 6 → syL l s = some (l.foldl (fun s x => stp x s) s)
  | [], s, _, _, _ => rfl
  | x :: xs, s, h, hl, h6 => by
    have hx := h x (by simp)
    obtain ⟨r1, r2, r3⟩ := ziq hx
    obtain ⟨l1, l2⟩ := zpg hx s
    simp only [List.length_cons] at hl
    unfold syL
    rw [if_pos ⟨r1, r2, r3, by omega, h6⟩, zqz, Option.bind_some, zt7 hx]
    exact ztf xs (stp x s) (fun y hy => h y (by simp [hy])) (by omega) (by rw [l2, h6])
theorem zpi : ∀ (l : List Instr) (s : ShSt) (T : Nat → Tr), (∀ x ∈ l, okI x) → Rp s T → Rp (l.foldl (fun s x => stp x s) s) (l.foldl (fun T x => updT T x.f1.toNat (stT x T)) T) ∧ (l.foldl (fun s x => stp x s) s).1.length ≤ s.1.length + 3 * l.length
  | [], s, T, _, h => ⟨h, Nat.le_refl _⟩
  | x :: xs, s, T, hx, h => by
    obtain ⟨a, b⟩ := zpi xs (stp x s) _ (fun y hy => hx y (by simp [hy])) (zvd (hx x (by simp)) h)
    have := (zpg (hx x (by simp)) s).1
    refine ⟨a, ?_⟩
    simp only [List.foldl_cons, List.length_cons]
    omega
def T0 (j : Nat) : Tr := if j = 0 then .lf ⟨#[105, 110]⟩ 0 else if j = 1 then .lf ⟨#[105, 110]⟩ 1 else .lf nC 0
theorem zt8 : Rp (syU 6) T0 := by
  refine ⟨by decide +kernel, rfl, fun j hj => ?_⟩
  have : j = 0 ∨ j = 1 ∨ j = 2 ∨ j = 3 ∨ j = 4 ∨ j = 5 := by omega
  rcases this with rfl | rfl | rfl | rfl | rfl | rfl <;> exact ⟨by decide, by decide, by kernel_rfl⟩
def vaIni : ShSt := ([(⟨(⟨#[105, 110]⟩ : ByteArray), 0, 0, 0⟩ : Node), ⟨⟨#[105, 110]⟩, 0, 0, 1⟩, ⟨⟨#[99, 111, 110, 115, 116]⟩, 0, 0, 0⟩], [0, 1, 2, 2, 2, 2])
theorem zt9 : Rp vaIni T0 := by
  refine ⟨by decide +kernel, rfl, fun j hj => ?_⟩
  have : j = 0 ∨ j = 1 ∨ j = 2 ∨ j = 3 ∨ j = 4 ∨ j = 5 := by omega
  rcases this with rfl | rfl | rfl | rfl | rfl | rfl <;> exact ⟨by decide, by decide, by kernel_rfl⟩
theorem zgt (xs : List Node) (a : ByteArray) (b c d : Int) (h : xs.length < 1000000) : zbo xs a b c d = some (xs ++ [⟨a, b, c, d⟩], (xs.length : Int)) := by
  unfold zbo
  rw [if_pos (by omega)]
section
variable {l : List Instr} {n i : Int} {x : Instr} {s : ShSt} {R : List Node × List Int}
theorem zve (hx : okI x) (c : opK x.f0 = 4) (hs : s.1.length < 900000) (h6 : s.2.length = 6) (H : Ev (fun k => zam k (stp x s).1 (stp x s).2 l n (wrap64 (i + 1))) R) :
    Ev (fun k => za9 k s.1 s.2 l n i x.f0 true x.f0 x.f1 x.f2 x.f3 x.f4 nC 0 0 x.f4) R := by
  have t := zj3 hx
  obtain ⟨r1, r2, r3⟩ := ziq hx
  have hsz := (t.k4 c).2
  have ew : wrap64 ((x.f0.size : Int) - 1) = 3 := by rw [hsz]; unfold wrap64; omega
  have e : stp x s = (s.1 ++ [cN x] ++ [⟨x.f0.extract 0 3, rd s.2 x.f2, s.1.length, 0⟩], s.2.set x.f1.toNat ((s.1 ++ [cN x]).length : Int)) := by unfold stp; rw [c]; rfl
  rw [e] at H
  refine Ev.step (fun k => by simp only [za9, ew]; rfl) (zak (show (true : Bool) = true from rfl) (Ev.call (zgt s.1 nC 0 0 x.f4 (by omega)) ?_))
  refine zak (by omega) (zak (by omega) (zak r2.1 (zak (by omega) (Ev.call (zgt (s.1 ++ [cN x]) (x.f0.extract 0 3) (rd s.2 x.f2) s.1.length 0 (by simp; omega)) ?_))))
  exact zak r1.1 (zak (by omega) H)
theorem zvf (hx : okI x) (c : opK x.f0 = 5) (hs : s.1.length < 900000) (h6 : s.2.length = 6) (H : Ev (fun k => zam k (stp x s).1 (stp x s).2 l n (wrap64 (i + 1))) R) :
    Ev (fun k => za9 k s.1 s.2 l n i x.f0 false x.f0 x.f1 x.f2 x.f3 x.f4 nC 0 0 x.f4) R := by
  have t := zj3 hx
  obtain ⟨r1, r2, r3⟩ := ziq hx
  have e : stp x s = (s.1 ++ [cN x] ++ [⟨nShl, rd s.2 x.f3, s.1.length, 0⟩] ++ [⟨nAdd, rd s.2 x.f2, ((s.1 ++ [cN x]).length : Int), 0⟩], s.2.set x.f1.toNat ((s.1 ++ [cN x] ++ [(⟨nShl, rd s.2 x.f3, s.1.length, 0⟩ : Node)]).length : Int)) := by unfold stp; rw [c]; rfl
  rw [e] at H
  refine Ev.step (fun k => by simp only [za9]; rfl) (za7 (by decide) (zak (t.lea.2 c) (Ev.call (zgt s.1 nC 0 0 x.f4 (by omega)) ?_)))
  refine zak r3.1 (zak (by omega) (Ev.call (zgt (s.1 ++ [cN x]) nShl (rd s.2 x.f3) s.1.length 0 (by simp; omega)) ?_))
  refine zak r2.1 (zak (by omega) (Ev.call (zgt (s.1 ++ [cN x] ++ [⟨nShl, rd s.2 x.f3, s.1.length, 0⟩]) nAdd (rd s.2 x.f2) ((s.1 ++ [cN x]).length : Int) 0 (by simp; omega)) ?_))
  exact zak r1.1 (zak (by omega) H)
theorem zvg (hx : okI x) (c : opK x.f0 = 2) (hs : s.1.length < 900000) (h6 : s.2.length = 6) (H : Ev (fun k => zam k (stp x s).1 (stp x s).2 l n (wrap64 (i + 1))) R) :
    Ev (fun k => zbt k s.1 s.2 l n i true x.f0 x.f1 x.f2 x.f3 x.f4) R := by
  obtain ⟨r1, r2, r3⟩ := ziq hx
  have e : stp x s = (s.1 ++ [⟨x.f0, rd s.2 x.f2, 0, 0⟩], s.2.set x.f1.toNat s.1.length) := by unfold stp; rw [c]; rfl
  rw [e] at H
  refine Ev.step (fun k => by simp only [zbt]; rfl) (zak (show (true : Bool) = true from rfl) (zak r2.1 (zak (by omega) (Ev.call (zgt s.1 x.f0 (rd s.2 x.f2) 0 0 (by omega)) ?_))))
  exact zak r1.1 (zak (by omega) H)
theorem zvh (hx : okI x) (c : opK x.f0 = 3) (hs : s.1.length < 900000) (h6 : s.2.length = 6) (H : Ev (fun k => zam k (stp x s).1 (stp x s).2 l n (wrap64 (i + 1))) R) :
    Ev (fun k => zbt k s.1 s.2 l n i false x.f0 x.f1 x.f2 x.f3 x.f4) R := by
  obtain ⟨r1, r2, r3⟩ := ziq hx
  have e : stp x s = (s.1 ++ [⟨x.f0, rd s.2 x.f2, rd s.2 x.f3, 0⟩], s.2.set x.f1.toNat s.1.length) := by unfold stp; rw [c]; rfl
  rw [e] at H
  refine Ev.step (fun k => by simp only [zbt]; rfl) (za7 (by decide) (zak r2.1 (zak (by omega) (zak r3.1 (zak (by omega) (Ev.call (zgt s.1 x.f0 (rd s.2 x.f2) (rd s.2 x.f3) 0 (by omega)) ?_))))))
  exact zak r1.1 (zak (by omega) H)
theorem zua (hx : okI x) (c : opK x.f0 = 2 ∨ opK x.f0 = 3 ∨ opK x.f0 = 5) (hs : s.1.length < 900000) (h6 : s.2.length = 6) (H : Ev (fun k => zam k (stp x s).1 (stp x s).2 l n (wrap64 (i + 1))) R) :
    Ev (fun k => za9 k s.1 s.2 l n i x.f0 false x.f0 x.f1 x.f2 x.f3 x.f4 nC 0 0 x.f4) R := by
  have t := zj3 hx
  by_cases c5 : opK x.f0 = 5
  · exact zvf hx c5 hs h6 H
  refine Ev.step (fun k => by simp only [za9]; rfl) (za7 (by decide) (za7 (fun e => c5 (t.lea.1 e)) ?_))
  by_cases c2 : opK x.f0 = 2
  · rcases t.s2.1 c2 with e | e
    · refine zak e ?_
      rw [show (x.f0.toList == ([110, 111, 116] : List UInt8)) = true from beq_iff_eq.2 e]
      exact zvg hx c2 hs h6 H
    · refine za7 (fun h => by rw [e] at h; exact absurd h (by decide)) ?_
      rw [show (x.f0.toList == ([110, 101, 103] : List UInt8)) = true from beq_iff_eq.2 e]
      exact zvg hx c2 hs h6 H
  · refine za7 (fun h => c2 (t.s2.2 (.inl h))) ?_
    rw [show (x.f0.toList == ([110, 101, 103] : List UInt8)) = false from Bool.eq_false_iff.2 (fun h => c2 (t.s2.2 (.inr (beq_iff_eq.1 h))))]
    exact zvh hx (by omega) hs h6 H
end
theorem zp9 (l : List Instr) (hl : l.length ≤ 1000) (hok : ∀ x ∈ l, okI x) : ∀ (d i : Nat) (s : ShSt), i + d = l.length → s.1.length ≤ 3 + 3 * i → s.2.length = 6 → Ev (fun k => zam k s.1 s.2 l l.length i) ((l.drop i).foldl (fun s x => stp x s) s)
  | 0, i, s, h, hs, h6 => by
    rw [List.drop_of_length_le (by omega)]
    exact Ev.step (fun k => by simp only [zam]; rfl) (za7 (by omega) (zb3 _))
  | d + 1, i, s, h, hs, h6 => by
    have hi : i < l.length := by omega
    have hx : zaa l (i : Int) = l[i] := zok (zfl l i hi)
    have hxo := hok _ (List.getElem_mem hi)
    rw [List.drop_eq_getElem_cons hi, List.foldl_cons]
    obtain ⟨l1, l2⟩ := zpg hxo s
    have H := zp9 l hl hok d (i + 1) (stp l[i] s) (by omega) (by omega) (by omega)
    rw [← w64n i (by omega)] at H
    generalize l[i] = x at hx hxo H l1 l2 ⊢
    have t := zj3 hxo
    obtain ⟨r1, r2, r3⟩ := ziq hxo
    have hle := t.le
    refine Ev.step (fun k => by simp only [zam, hx]; rfl) (zak (by omega) (zak (by omega) (zak (by omega) ?_)))
    by_cases c0 : opK x.f0 = 0
    · have e : stp x s = (s.1 ++ [cN x], s.2.set x.f1.toNat s.1.length) := by unfold stp; rw [c0]; rfl
      rw [e] at H ⊢
      exact zak (t.set.2 c0) (Ev.call (zgt s.1 nC 0 0 x.f4 (by omega)) (zak r1.1 (zak (by omega) H)))
    refine za7 (fun e => c0 (t.set.1 e)) ?_
    by_cases c1 : opK x.f0 = 1
    · have e : stp x s = (s.1, s.2.set x.f1.toNat (rd s.2 x.f2)) := by unfold stp; rw [c1]; rfl
      rw [e] at H ⊢
      exact zak (t.mov.2 c1) (zak r2.1 (zak (by omega) (zak r1.1 (zak (by omega) H))))
    refine za7 (fun e => c1 (t.mov.1 e)) ?_
    by_cases c4 : opK x.f0 = 4
    · have J := zve (l := l) (n := l.length) (i := i) hxo c4 (by omega) h6 H
      rcases t.s4.1 c4 with e | e | e | e | e
      · refine zak e ?_
        rw [show (x.f0.toList == ([97, 100, 100, 105] : List UInt8)) = true from beq_iff_eq.2 e]
        exact J
      · refine za7 (fun h => by rw [e] at h; exact absurd h (by decide)) (zak e ?_)
        rw [show (x.f0.toList == ([97, 110, 100, 105] : List UInt8)) = true from beq_iff_eq.2 e]
        exact J
      · refine za7 (fun h => by rw [e] at h; exact absurd h (by decide)) (za7 (fun h => by rw [e] at h; exact absurd h (by decide)) (zak e ?_))
        rw [show (x.f0.toList == ([120, 111, 114, 105] : List UInt8)) = true from beq_iff_eq.2 e]
        exact J
      · refine za7 (fun h => by rw [e] at h; exact absurd h (by decide)) (za7 (fun h => by rw [e] at h; exact absurd h (by decide)) (za7 (fun h => by rw [e] at h; exact absurd h (by decide)) (zak e ?_)))
        rw [show (x.f0.toList == ([115, 104, 108, 105] : List UInt8)) = true from beq_iff_eq.2 e]
        exact J
      · refine za7 (fun h => by rw [e] at h; exact absurd h (by decide)) (za7 (fun h => by rw [e] at h; exact absurd h (by decide)) (za7 (fun h => by rw [e] at h; exact absurd h (by decide)) (za7 (fun h => by rw [e] at h; exact absurd h (by decide)) ?_)))
        rw [show (x.f0.toList == ([115, 104, 114, 105] : List UInt8)) = true from beq_iff_eq.2 e]
        exact J
    · refine za7 (fun h => c4 (t.s4.2 (.inl h))) (za7 (fun h => c4 (t.s4.2 (.inr (.inl h)))) (za7 (fun h => c4 (t.s4.2 (.inr (.inr (.inl h))))) (za7 (fun h => c4 (t.s4.2 (.inr (.inr (.inr (.inl h)))))) ?_)))
      rw [show (x.f0.toList == ([115, 104, 114, 105] : List UInt8)) = false from Bool.eq_false_iff.2 (fun h => c4 (t.s4.2 (.inr (.inr (.inr (.inr (beq_iff_eq.1 h)))))))]
      exact zua hxo (by omega) (by omega) h6 H
theorem zsp (l : List Instr) (hl : l.length ≤ 100) (hok : ∀ x ∈ l, okI x) (r : Int) (h0 : 0 ≤ r) (h1 : r < 6) : ∃ e e' : List Node, okNs 0 e = true ∧ 0 < e.length ∧ e.length ≤ 1000 ∧ okNs 0 e' = true ∧ 0 < e'.length ∧ e'.length ≤ 1000 ∧ shP e = shP e' ∧
    Ev (fun k => zdm k l r) (shP e, zjq (shP e)) ∧ Ev (fun k => zdz k l r) (shP e', zjq (shP e')) := by
  obtain ⟨p1, p2⟩ := zpi l (syU 6) T0 hok zt8
  obtain ⟨q1, q2⟩ := zpi l vaIni T0 hok zt9
  have s1 := ztf l (syU 6) hok (by have := (zns 6 (by decide)).1; omega) (zns 6 (by decide)).2
  have s2 := zp9 l (by omega) hok l.length 0 vaIni (by omega) (by decide) rfl
  rw [List.drop_zero] at s2
  have z1 : (syU 6).1.length = 6 := (zns 6 (by decide)).1
  have z2 : vaIni.1.length = 3 := rfl
  rw [z1] at p2
  rw [z2] at q2
  generalize l.foldl (fun s x => stp x s) (syU 6) = S at p1 p2 s1
  generalize l.foldl (fun s x => stp x s) vaIni = S' at q1 q2 s2
  generalize l.foldl (fun T x => updT T x.f1.toNat (stT x T)) T0 = T at p1 q1
  obtain ⟨j, rfl⟩ := Int.eq_ofNat_of_zero_le h0
  obtain ⟨a1, a2, a3⟩ := p1.reg j (by omega)
  obtain ⟨b1, b2, b3⟩ := q1.reg j (by omega)
  have hl6 := p1.len
  have hl6' := q1.len
  obtain ⟨u, hu⟩ := Int.eq_ofNat_of_zero_le a1
  obtain ⟨v, hv⟩ := Int.eq_ofNat_of_zero_le b1
  rw [hu] at a2 a3
  rw [hv] at b2 b3
  obtain ⟨e, ke, kk⟩ := zt4 S.1 p1.ok (by omega) u (by omega)
  obtain ⟨e', ke', kk'⟩ := zt5 S'.1 q1.ok (by omega) v (by omega)
  have hs := zqj kk kk' (by rw [a3, b3])
  refine ⟨e, e', kk.1, kk.2.1, by have := kk.2.2.1; omega, kk'.1, kk'.2.1, by have := kk'.2.2.1; omega, hs, ?_, ?_⟩
  · unfold zdm
    refine zak ⟨by omega, h0, h1⟩ (Ev.call s1 (zak hl6 ?_))
    rw [hu]
    exact Ev.bind ke (Ev.bind (zsl e kk.2.1 (by have := kk.2.2.1; omega) kk.1) (Ev.bind (zq9 _) (zb3 _)))
  · unfold zdz zeg
    refine Ev.bind s2 (zak h0 (zak (by omega) ?_))
    rw [hv]
    exact Ev.bind ke' (Ev.bind (zqh e' kk'.2.1 (by have := kk'.2.2.1; omega) kk'.1) (Ev.bind (zra _) (zb3 _)))
open Classical in
noncomputable def symR (l : List Instr) (r : Int) : List Node × Bool := if h : ∃ R, Ev (fun k => zdm k l r) R then Classical.choose h else ([], false)
theorem zpj (l : List Instr) (hl : l.length ≤ 100) (hok : ∀ x ∈ l, okI x) (r : Int) (h0 : 0 ≤ r) (h1 : r < 6) : Ev (fun k => zdm k l r) (symR l r) ∧ Ev (fun k => zdz k l r) (symR l r) ∧ (symR l r).2 = zjq (symR l r).1 := by
  obtain ⟨e, e', _, _, _, _, _, _, hs, a, b⟩ := zsp l hl hok r h0 h1
  have h : ∃ R, Ev (fun k => zdm k l r) R := ⟨_, a⟩
  have q : symR l r = (shP e, zjq (shP e)) := by
    unfold symR
    rw [dif_pos h]
    exact ztv (Classical.choose_spec h) a
  rw [q]
  exact ⟨a, by rw [hs]; exact b, rfl⟩
theorem zqk (l : List Instr) : Ev (fun k => zez k l) (zio l) := by
  unfold zez
  rw [zng]
  by_cases h : (l.length : Int) ≤ 20
  · refine zak h (Ev.bind (zq1 l) (Ev.some ?_))
    rw [decide_eq_true (show l.length ≤ 20 by omega), Bool.and_true]
  · refine za7 h (Ev.some ?_)
    rw [decide_eq_false (show ¬ l.length ≤ 20 by omega), Bool.and_false]
end Go.Proofs.Ytkfkbmlbpeojaaa.PL
end
section
namespace Go.Proofs.Ytkfkbmlbpeojaaa.Q
open Go.RowKit Go.Proofs.YtkfkbmlbpeojaaaW.PrintWords Go.Proofs.YtkfkbmlbpeojaaaW.PrintLast Go.Proofs.YtkfkbmlbpeojaaaW.PrintMore
attribute [local go_sem] zcz zc0 zd1 zd2 zcl zcm zc1 zc2
set_option linter.unusedVariables false
set_option linter.unusedSimpArgs false
end Go.Proofs.Ytkfkbmlbpeojaaa.Q
end
section
namespace Go.Proofs.Ytkfkbmlbpeojaaa.PL
open Go Go.RowKit Go.Proofs.YtkfkbmlbpeojaaaW.PrintWords Go.Proofs.YtkfkbmlbpeojaaaW.PrintLast Go.Proofs.YtkfkbmlbpeojaaaW.PrintMore Go.Proofs.Ytkfkbmlbpeojaaa.Q
set_option linter.unusedSimpArgs false
set_option linter.unusedVariables false
theorem zir : ∀ (m : Nat) (n : Nat) (s : ByteArray), n ≤ m → s.size + n ≤ 4611686018427387904 → ∃ t, Ev (fun k => zca k n s) t
  | 0, n, s, h, hs => by
    have e : n = 0 := by omega
    subst e
    refine ⟨(⟨#[109]⟩ : ByteArray) ++ s, Ev.step (f := fun _ => some ((⟨#[109]⟩ : ByteArray) ++ s)) (fun k => ?_) (zb3 _)⟩
    have hz : (⟨#[109]⟩ : ByteArray).size = 1 := rfl
    simp only [zca]
    rw [if_neg (by decide), if_pos (by omega)]
  | m + 1, n, s, h, hs => by
    by_cases hn : n = 0
    · exact zir m n s (by omega) hs
    · have hsz : (strOfNums [(wrap64 (48 + Int.tmod (n : Int) 10)) % 256]).size = 1 := by
        unfold strOfNums
        rfl
      obtain ⟨t, ht⟩ := zir m (n / 10) (strOfNums [(wrap64 (48 + Int.tmod (n : Int) 10)) % 256] ++ s) (by omega) (by rw [ByteArray.size_append, hsz]; omega)
      refine ⟨t, Ev.step (fun k => ?_) ht⟩
      simp only [zca, Option.bind_some]
      rw [if_pos (by omega), if_pos (by rw [hsz]; omega)]
      congr 1
      have e : Int.tdiv (n : Int) 10 = ((n / 10 : Nat) : Int) := by
        rw [Int.tdiv_eq_ediv_of_nonneg (by omega)]
        omega
      rw [e, w64 (by omega) (by omega)]
theorem zmu (n : Nat) (h : n ≤ 4611686018427387903) : ∃ t, Ev (fun k => zc9 k n) t := by
  unfold zc9
  by_cases hn : (n : Int) ≤ 0
  · exact ⟨_, zak hn (zb3 _)⟩
  · obtain ⟨t, ht⟩ := zir n n ⟨#[]⟩ (Nat.le_refl _) (by show 0 + n ≤ _; omega)
    exact ⟨t, za7 hn ht⟩
open Classical in
noncomputable def mtx (n : Nat) : ByteArray := if h : ∃ t, Ev (fun k => zc9 k n) t then Classical.choose h else ⟨#[]⟩
theorem zrm (n : Nat) (h : n ≤ 4611686018427387903) : Ev (fun k => zc9 k n) (mtx n) := by
  unfold mtx
  rw [dif_pos (zmu n h)]
  exact Classical.choose_spec (zmu n h)
theorem zrn {α : Type} (xs : List α) (y : α) (ys : List α) (v : α) : (xs ++ y :: ys).set xs.length v = (xs ++ [v]) ++ ys := by
  rw [List.set_append_right _ _ (Nat.le_refl _)]
  simp
theorem zqa {α : Type} (xs : List α) (y : α) (ys : List α) (d : α) : (xs ++ y :: ys).getD xs.length d = y := by simp [List.getD]
noncomputable def znj : Nat → Nat → List Instr
  | 0, _ => []
  | n + 1, a => ⟨mtx a, (a + 1 : Nat), (a + 2 : Nat), (a + 3 : Nat), (a + 4 : Nat)⟩ :: znj n (a + 5)
theorem zub (xs : List Instr) (y : Instr) (ys : List Instr) : zaa (xs ++ y :: ys) (xs.length : Nat) = y := by
  unfold zaa
  rw [Int.toNat_natCast, zqa]
theorem zn6 (l : List Instr) (a : Nat) (hl : l.length ≤ 1048576) (ha : a ≤ 11534336) : Ev (fun k => zdq k l a) ((a : Int) + 5 * l.length, znj l.length a) := by
  have key : ∀ (ys xs : List Instr) (b : Nat), xs.length + ys.length ≤ 1048576 → b ≤ 16777216 - 5 * ys.length → Ev (fun k => za2 k (xs ++ ys) b xs.length) ((b : Int) + 5 * ys.length, xs ++ znj ys.length b) := by
    intro ys
    induction ys with
    | nil =>
      intro xs b h h'
      refine Ev.step (f := fun _ => some (((b : Int), xs ++ []))) (fun k => ?_) (Ev.some ?_)
      · simp only [za2]
        rw [if_neg (by simp)]
      · simp [znj]
    | cons y ys ih =>
      intro xs b h h'
      simp only [List.length_cons] at h h'
      have := ih (xs ++ [⟨mtx b, (b + 1 : Nat), (b + 2 : Nat), (b + 3 : Nat), (b + 4 : Nat)⟩]) (b + 5) (by simp; omega) (by omega)
      rw [List.append_assoc] at this
      refine Ev.step (fun k => by simp only [za2]; rfl) ?_
      refine zak (by simp; omega) ?_
      refine Ev.bind (zrm b (by omega)) ?_
      refine zak (by omega) ?_
      refine zmc (fun k => ?_) (zl4 this ?_)
      · simp only [Option.bind_some, Int.toNat_natCast, zrn, zub, List.append_assoc, List.singleton_append]
        rw [w64n b (by omega), w64n (b + 1) (by omega), w64n (b + 2) (by omega), w64n (b + 3) (by omega), w64n (b + 4) (by omega), w64n _ (by omega)]
        congr 1
        simp
      · simp only [List.length_cons, znj, Prod.mk.injEq]
        exact ⟨by omega, by simp⟩
  have := key l [] a (by simpa using hl) (by omega)
  unfold zdq
  simpa using this
theorem zsq (l : List Instr) (a : Nat) (hl : l.length ≤ 1048576) (ha : a ≤ 11534336) : Ev (fun k => zdq k l a) (((a + 5 * l.length : Nat) : Int), znj l.length a) :=
  zl4 (zn6 l a hl ha) (by rw [Prod.mk.injEq]; exact ⟨by omega, rfl⟩)
noncomputable def zjr : Nat → Nat → List Node
  | 0, _ => []
  | n + 1, a => ⟨mtx a, (a + 1 : Nat), (a + 2 : Nat), (a + 3 : Nat)⟩ :: zjr n (a + 4)
theorem znk : ∀ n a, (zjr n a).length = n
  | 0, _ => rfl
  | n + 1, a => by simp [zjr, znk n]
theorem zuc (xs : List Node) (y : Node) (ys : List Node) : zac (xs ++ y :: ys) (xs.length : Nat) = y := by
  unfold zac
  rw [Int.toNat_natCast, zqa]
theorem zsr (l : List Node) (a : Nat) (hl : l.length ≤ 1048576) (ha : a ≤ 11534336) : Ev (fun k => zef k l a) (((a + 4 * l.length : Nat) : Int), zjr l.length a) := by
  have key : ∀ (ys xs : List Node) (b : Nat), xs.length + ys.length ≤ 1048576 → b ≤ 16777216 - 4 * ys.length → Ev (fun k => za8 k (xs ++ ys) b xs.length) (((b + 4 * ys.length : Nat) : Int), xs ++ zjr ys.length b) := by
    intro ys
    induction ys with
    | nil =>
      intro xs b h h'
      refine Ev.step (f := fun _ => some (((b : Int), xs ++ []))) (fun k => ?_) (Ev.some ?_)
      · simp only [za8]
        rw [if_neg (by simp)]
      · simp [zjr]
    | cons y ys ih =>
      intro xs b h h'
      simp only [List.length_cons] at h h'
      have := ih (xs ++ [⟨mtx b, (b + 1 : Nat), (b + 2 : Nat), (b + 3 : Nat)⟩]) (b + 4) (by simp; omega) (by omega)
      rw [List.append_assoc] at this
      refine Ev.step (fun k => by simp only [za8]; rfl) ?_
      refine zak (by simp; omega) ?_
      refine Ev.bind (zrm b (by omega)) ?_
      refine zak (by omega) ?_
      refine zmc (fun k => ?_) (zl4 this ?_)
      · simp only [Option.bind_some, Int.toNat_natCast, zrn, zuc, List.append_assoc, List.singleton_append]
        rw [w64n b (by omega), w64n (b + 1) (by omega), w64n (b + 2) (by omega), w64n (b + 3) (by omega), w64n _ (by omega)]
        congr 1
        simp
      · simp only [List.length_cons, zjr, Prod.mk.injEq]
        exact ⟨by omega, by simp⟩
  have := key l [] a (by simpa using hl) (by omega)
  unfold zef
  simpa using this
theorem zss (n a : Nat) (hn : n ≤ 1048576) (ha : a ≤ 11534336) : Ev (fun k => zd4 k (zjr n a) a) ((a + 4 * n : Nat) : Int) := by
  have key : ∀ (d b : Nat), b ≤ 16777216 - 4 * d → d ≤ 1048576 → Ev (fun k => hnL k (zjr d b) b) ((b + 4 * d : Nat) : Int) := by
    intro d
    induction d with
    | zero => exact fun b _ _ => Ev.some (by omega)
    | succ d ih =>
      intro b h h'
      have := ih (b + 4) (by omega) (by omega)
      have e1 : wrap64 ((b : Int) + 1) = ((b + 1 : Nat) : Int) := w64n b (by omega)
      have e2 : wrap64 (((b + 1 : Nat) : Int) + 1) = ((b + 2 : Nat) : Int) := w64n (b + 1) (by omega)
      have e3 : wrap64 (((b + 2 : Nat) : Int) + 1) = ((b + 3 : Nat) : Int) := w64n (b + 2) (by omega)
      have e4 : wrap64 (((b + 3 : Nat) : Int) + 1) = ((b + 4 : Nat) : Int) := w64n (b + 3) (by omega)
      simp only [zjr, hnL, e1, e2, e3, e4]
      exact Ev.bind (zrm b (by omega)) (zak (by simp) (zl4 this (by omega)))
  unfold zd4
  exact zak (by rw [znk]; omega) (key n a (by omega) (by omega))
end Go.Proofs.Ytkfkbmlbpeojaaa.PL
end
section
namespace Go.Proofs.Ytkfkbmlbpeojaaa.PL
open Go Go.RowKit Go.Proofs.YtkfkbmlbpeojaaaW.PrintWords Go.Proofs.YtkfkbmlbpeojaaaW.PrintLast Go.Proofs.YtkfkbmlbpeojaaaW.PrintMore Go.Proofs.Ytkfkbmlbpeojaaa.Q
set_option linter.unusedSimpArgs false
set_option linter.unusedVariables false
noncomputable def soR (l : List Instr) (r : Int) : List Node × Bool := if zio l = true ∧ 0 ≤ r ∧ r ≤ 5 then (if (symR l r).2 = true then ((symR l r).1, true) else ([], false)) else ([], false)
theorem zud (l : List Instr) (r : Int) : (soR l r).1.length ≤ 24 := by
  unfold soR
  split
  · rename_i h
    obtain ⟨hl, hk⟩ := zli h.1
    split
    · rename_i q
      rw [(zpj l (by omega) hk r h.2.1 (by omega)).2.2] at q
      exact (zrb q).1.2
    · exact Nat.zero_le _
  · exact Nat.zero_le _
theorem zro (l : List Instr) (r : Int) : Ev (fun k => zep k l r) (soR l r) := by
  unfold zep soR
  refine Ev.bind (zqg l) ?_
  by_cases h : zio l = true
  · refine zak h (Ev.call (znv r) ?_)
    obtain ⟨hl, hk⟩ := zli h
    by_cases q : 0 ≤ r ∧ r ≤ 5
    · rw [if_pos ⟨h, q⟩, decide_eq_true q]
      have e := (zpj l (by omega) hk r q.1 (by omega)).1
      refine Ev.step (fun k => by simp only [zbe]; rfl) (za7 (by decide) (Ev.bind e ?_))
      by_cases z : (symR l r).2 = true
      · simp only [if_pos z]
        exact zb3 _
      · simp only [if_neg z]
        exact zb3 _
    · rw [if_neg (fun e => q e.2), decide_eq_false q]
      exact Ev.step (fun k => by simp only [zbe]; rfl) (zak (by decide) (zb3 _))
  · rw [if_neg (fun e => h e.1)]
    exact za7 h (Ev.step (fun k => by simp only [zbe]; rfl) (zak (show (true : Bool) = true from rfl) (zb3 _)))
theorem zrp (l : List Instr) (r : Int) : Ev (fun k => zes k l r) (soR l r) := by
  unfold zes soR
  refine Ev.bind (zqk l) ?_
  by_cases h : zio l = true
  · refine zak h (Ev.call (zp0 r) ?_)
    obtain ⟨hl, hk⟩ := zli h
    by_cases q : 0 ≤ r ∧ r ≤ 5
    · rw [if_pos ⟨h, q⟩, decide_eq_true q]
      have e := (zpj l (by omega) hk r q.1 (by omega)).2.1
      refine Ev.step (fun k => by simp only [zbg]; rfl) (za7 (by decide) (Ev.bind e ?_))
      by_cases z : (symR l r).2 = true
      · simp only [if_pos z]
        exact zb3 _
      · simp only [if_neg z]
        exact zb3 _
    · rw [if_neg (fun e => q e.2), decide_eq_false q]
      exact Ev.step (fun k => by simp only [zbg]; rfl) (zak (by decide) (zb3 _))
  · rw [if_neg (fun e => h e.1)]
    exact za7 h (Ev.step (fun k => by simp only [zbg]; rfl) (zak (show (true : Bool) = true from rfl) (zb3 _)))
end Go.Proofs.Ytkfkbmlbpeojaaa.PL
namespace Go.Proofs.Ytkfkbmlbpeojaaa.Pure
open Go Go.RowKit Go.Proofs.YtkfkbmlbpeojaaaW.PrintWords Go.Proofs.YtkfkbmlbpeojaaaW.PrintLast Go.Proofs.YtkfkbmlbpeojaaaW.PrintMore Go.Proofs.Ytkfkbmlbpeojaaa.Q Go.Proofs.Ytkfkbmlbpeojaaa.PL
set_option linter.unusedSimpArgs false
set_option linter.unusedVariables false
theorem FnExactSymbolOf : laws_FnExactSymbolOf.Pure := by
  intro a0 a1 h0 h1
  refine zr1 (g := fun k => zd6 k a0 a1) ?_
  unfold zd6
  obtain ⟨r0, hr0, hr0'⟩ := zpb a0 1048576 h0 (by decide) (by decide)
  refine Ev.bind hr0 ?_
  by_cases hn0 : r0 < 0
  · exact zak hn0 (zb3 _)
  have hl0 := hr0' (by omega)
  have q0 := hl0.2.2
  refine za7 hn0 ?_
  have b0 : a0.length ≤ 1048576 := by have := hl0.1; omega
  obtain ⟨l, t1, e⟩ : ∃ l t1, soR (a0.map cvI) a1 = (l, t1) := ⟨_, _, rfl⟩
  have hll : l.length ≤ 24 := by
    have := zud (a0.map cvI) a1
    rw [e] at this
    exact this
  refine Ev.bind (zpc a0 b0) (Ev.bind (e ▸ zrp (a0.map cvI) a1) (Ev.bind (e ▸ zro (a0.map cvI) a1) (Ev.bind (zoo l (by omega)) (Ev.bind (znu _ (by simpa using b0)) (Ev.bind (zsq _ 1 (by simpa using b0) (by decide)) (Ev.bind (zsr l 1 (by omega) (by decide)) (Ev.bind (zss l.length 1 (by omega) (by decide)) (?_))))))))
  exact zak ⟨rfl, rfl, rfl, by omega, rfl, by omega⟩ (zb3 _)
end Go.Proofs.Ytkfkbmlbpeojaaa.Pure
end
