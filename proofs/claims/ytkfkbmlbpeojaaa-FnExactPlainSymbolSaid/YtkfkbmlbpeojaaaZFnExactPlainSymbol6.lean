/- Proved here: contracts of functions that the law FnExactPlainSymbol reaches, and lemmas on what they compute; texts of this session and the printed words of the kit that they lean on, cut down and put together by its program link.py. Conditions: as each states. -/
import Derived.Laws.BitsLemmas
import Derived.Test.YtkfkbmlbpeojaaaZFnExactPlainSymbol1
import Derived.Test.YtkfkbmlbpeojaaaZFnExactPlainSymbol2
import Derived.Test.YtkfkbmlbpeojaaaZFnExactPlainSymbol3
import Derived.Test.YtkfkbmlbpeojaaaZFnExactPlainSymbol4
import Derived.Test.YtkfkbmlbpeojaaaZFnExactPlainSymbol5
section
namespace Go.Proofs.Ytkfkbmlbpeojaaa.PL
open Go Go.RowKit Go.Proofs.YtkfkbmlbpeojaaaW.PrintWords Go.Proofs.YtkfkbmlbpeojaaaW.PrintLast Go.Proofs.YtkfkbmlbpeojaaaW.PrintMore Go.Proofs.Ytkfkbmlbpeojaaa.Q
set_option linter.unusedSimpArgs false
set_option linter.unusedVariables false
structure Gd (s : ShSt) : Prop where
  ok : okNs 0 s.1 = true
  lt : ∀ j : Nat, j < s.2.length → 0 ≤ rd s.2 (j : Int) → rd s.2 (j : Int) < s.1.length
theorem zzn {x : Node} {s : ShSt} {i : Nat} (hi : i < s.2.length) (g : Gd s) (hx : okNx x (s.1.length : Int) = true) : Gd (putP x i s) := by
  have e2 : ∀ j : Nat, rd (putP x i s).2 (j : Int) = if i = j then (zdz x s.1).2 else rd s.2 (j : Int) := fun j => by
    unfold putP
    simp only
    rw [Int.toNat_natCast, zmi _ _ _ _ hi]
  have e1 : (putP x i s).1 = (zdz x s.1).1 := rfl
  have e3 := zmh x s.1
  have e4 : (putP x i s).2.length = s.2.length := by unfold putP; simp
  by_cases q : exIx x s.1 0 < 0
  · have e : zdz x s.1 = (s.1 ++ [x], (s.1.length : Int)) := by unfold zdz; rw [if_pos q]
    refine ⟨?_, fun j hj h0 => ?_⟩
    · rw [e1, e]
      simp only
      rw [zml, g.ok, Nat.zero_add, hx]
      rfl
    · rw [e2] at h0 ⊢
      rw [e1, e]
      simp only [List.length_append, List.length_cons, List.length_nil]
      split
      · omega
      · rename_i h
        rw [if_neg h] at h0
        have := g.lt j (by omega) h0
        omega
  · have e : zdz x s.1 = (s.1, exIx x s.1 0) := by unfold zdz; rw [if_neg q]
    refine ⟨?_, fun j hj h0 => ?_⟩
    · rw [e1, e]
      exact g.ok
    · rw [e2] at h0 ⊢
      rw [e1, e]
      simp only
      split
      · rw [ztc]
        exact zw3 _ _
      · rename_i h
        rw [if_neg h] at h0
        exact g.lt j (by omega) h0
theorem zu6 (n i : Nat) (g : ShSt → Int → ShSt) (hg : ∀ (p : Nat) s, p < i → s.2.length = n → s.1.length ≤ nmd s.2 → Kp n i s (g s p) ∧ (Gd s → Gd (g s p))) : ∀ (ps : List Int) (s : ShSt), (∀ p ∈ ps, 0 ≤ p ∧ p < (i : Int)) → s.2.length = n → s.1.length ≤ nmd s.2 → Gd s → Gd (ps.foldl g s)
  | [], s, _, _, _, h => h
  | q :: ps, s, hps, h1, h2, h => by
    obtain ⟨q0, q1⟩ := hps q (by simp)
    obtain ⟨p, rfl⟩ := Int.eq_ofNat_of_zero_le q0
    obtain ⟨a, b⟩ := hg p s (by omega) h1 h2
    exact zu6 n i g hg ps (g s p) (fun x hx => hps x (by simp [hx])) a.len a.cnt (b h)
theorem zxc (l : List Node) (ok : okNs 0 l = true) : ∀ (d i : Nat) (s : ShSt), i < d → i < l.length → s.2.length = l.length → s.1.length ≤ nmd s.2 → Gd s → Gd (shD l d i s)
  | 0, _, _, h, _, _, _, _ => absurd h (by omega)
  | d + 1, i, s, hd, hi, h1, h2, hG => by
    unfold shD
    by_cases q : 0 ≤ rd s.2 (i : Int)
    · rw [if_pos q]
      exact hG
    · rw [if_neg q, zjf hi]
      have hok := zeb l 0 i hi ok
      rw [Nat.zero_add] at hok
      have hp := (zfg hok).2
      obtain ⟨a, a'⟩ := zr8 l.length i (fun s p => shD l d p s) (fun p s hp h1 h2 => by
        obtain ⟨b, c⟩ := zlf l ok d p s (by omega) (by omega) h1 h2
        exact ⟨b.wide (by omega), c⟩) (zdy (kN l[i].f0) l[i].f1 l[i].f2) s (fun p hq => by have := hp p hq; omega) h1 h2
      have b := zu6 l.length i (fun s p => shD l d p s) (fun p s hp h1 h2 => by
        obtain ⟨b, c⟩ := zlf l ok d p s (by omega) (by omega) h1 h2
        exact ⟨b.wide (by omega), zxc l ok d p s (by omega) (by omega) h1 h2⟩) (zdy (kN l[i].f0) l[i].f1 l[i].f2) s (fun p hq => by have := hp p hq; omega) h1 h2 hG
      refine zzn (by rw [a.len]; exact hi) b (ztd hok (fun p hq => ⟨a' p hq, ?_⟩))
      obtain ⟨p, rfl⟩ := Int.eq_ofNat_of_zero_le (hp p hq).1
      exact b.lt p (by rw [a.len]; have := (hp _ hq).2; omega) (a' _ hq)
theorem zu7 {l : List Node} (h0 : 0 < l.length) (ok : okNs 0 l = true) : okNs 0 (shP l) = true ∧ 0 < (shP l).length ∧ (shP l).length ≤ l.length := by
  have hn : ∀ j : Nat, j < l.length → ¬ 0 ≤ rd (List.replicate l.length (-1)) (j : Int) := fun j hj h => by
    unfold rd at h
    rw [Int.toNat_natCast, zen _ j (by simpa using hj)] at h
    simp at h
  have G := zxc l ok l.length (l.length - 1) ([], List.replicate l.length (-1)) (by omega) (by omega) (by simp) (by simp) ⟨rfl, fun j hj h => absurd h (hn j (by simpa using hj))⟩
  obtain ⟨K, k⟩ := zlf l ok l.length (l.length - 1) ([], List.replicate l.length (-1)) (by omega) (by omega) (by simp) (by simp)
  have := G.lt _ (by rw [K.len]; omega) k
  have c := K.cnt
  have c2 := zuw (shD l l.length ((l.length - 1 : Nat) : Int) ([], List.replicate l.length (-1))).2
  rw [K.len] at c2
  exact ⟨G.ok, by unfold shP; omega, by unfold shP; omega⟩
def rops : List ByteArray := [(⟨#[105, 110]⟩ : ByteArray), ⟨#[99, 111, 110, 115, 116]⟩, ⟨#[110, 111, 116]⟩, ⟨#[110, 101, 103]⟩] ++ bops
def rk (s : ByteArray) : Int := idx (fun y => decide (s = y)) rops
theorem zu8 (l : List ByteArray) (s : ByteArray) (hl : l.length ≤ 1048576) : Ev (fun k => zao k l s) (idx (fun y => decide (s = y)) l) := by
  unfold zao
  refine zkt l _ (fun k i => zak k l s l.length i) ?_ (fun i x hi hx hp => ?_) (fun i x r hi hx hp hr => ?_)
  · refine Ev.step (f := fun _ => some (-1)) (fun k => ?_) (za4 _)
    simp only [zak]
    rw [if_neg (by omega)]
  · refine Ev.step (f := fun _ => some (i : Int)) (fun k => ?_) (za4 _)
    simp only [zak, zni hx, zly]
    rw [if_pos (by omega), if_pos (by omega), if_pos (by omega), if_pos (of_decide_eq_true hp)]
  · refine Ev.step (fun k => ?_) hr
    simp only [zak, zni hx, zly]
    rw [if_pos (by omega), if_pos (by omega), if_pos (by omega), if_neg (of_decide_eq_false hp), w64n i (by omega)]
theorem znn (s : ByteArray) : Ev (fun k => zf9 k s) (rk s) := by
  unfold zf9
  refine Ev.call rfl (Ev.call zre (zah (by decide) (Ev.bind (zu8 rops s (by decide)) (za4 _))))
theorem zrk (s : ByteArray) (h : s ∈ rops) : Ev (fun k => zfa k s) (rk s) := by
  have hge : 0 ≤ rk s := (zia _ _).2 ⟨s, h, decide_eq_true rfl⟩
  have key : ∀ (d i : Nat), i + d = rops.length → 0 ≤ idx (fun y => decide (s = y)) (rops.drop i) → Ev (fun k => zc3 k s rops i) (i + idx (fun y => decide (s = y)) (rops.drop i)) := by
    intro d
    induction d with
    | zero =>
      intro i hi h0
      rw [List.drop_of_length_le (by omega)] at h0
      simp [idx] at h0
    | succ d ih =>
      intro i hi h0
      have hlt : i < rops.length := by omega
      have e : rops.drop i = rops[i] :: rops.drop (i + 1) := List.drop_eq_getElem_cons hlt
      have hb : rops.length ≤ 1000 := by decide
      rw [e] at h0 ⊢
      refine Ev.step (fun k => by simp only [zc3, zni (zen rops i hlt), zly]; rfl) (zah (by omega) (zah (by omega) ?_))
      by_cases q : s = rops[i]
      · refine zah q.symm (Ev.some ?_)
        unfold idx
        rw [if_pos (by simpa using q)]
        omega
      · refine za1 (fun h => q h.symm) ?_
        have f : idx (fun y => decide (s = y)) (rops[i] :: rops.drop (i + 1)) = if idx (fun y => decide (s = y)) (rops.drop (i + 1)) < 0 then -1 else idx (fun y => decide (s = y)) (rops.drop (i + 1)) + 1 := by
          rw [idx, if_neg (by simpa using q)]
        rw [f] at h0 ⊢
        by_cases r : idx (fun y => decide (s = y)) (rops.drop (i + 1)) < 0
        · rw [if_pos r] at h0
          omega
        · rw [if_neg r, w64n i (by omega)]
          refine zme (ih (i + 1) (by omega) (by omega)) ?_
          omega
  have := key rops.length 0 (by omega) (by rw [List.drop_zero]; exact hge)
  unfold zfa
  refine zme this ?_
  simp [rk]
theorem zu9 {s : ByteArray} : ∀ (l : List ByteArray), 0 ≤ idx (fun y => decide (s = y)) l → l[(idx (fun y => decide (s = y)) l).toNat]? = some s
  | [], h => by simp [idx] at h
  | x :: xs, h => by
    by_cases q : s = x
    · rw [idx, if_pos (by simpa using q)]
      simp [q]
    · rw [idx, if_neg (by simpa using q)] at h ⊢
      by_cases r : idx (fun y => decide (s = y)) xs < 0
      · rw [if_pos r] at h
        omega
      · rw [if_neg r] at h ⊢
        have := zu9 (s := s) xs (by omega)
        rw [show (idx (fun y => decide (s = y)) xs + 1).toNat = (idx (fun y => decide (s = y)) xs).toNat + 1 by omega, List.getElem?_cons_succ]
        exact this
theorem zzo {s t : ByteArray} (h : s ∈ rops) (h' : t ∈ rops) (e : rk s = rk t) : s = t := by
  have a := zu9 (s := s) rops ((zia _ _).2 ⟨s, h, decide_eq_true rfl⟩)
  have b := zu9 (s := t) rops ((zia _ _).2 ⟨t, h', decide_eq_true rfl⟩)
  unfold rk at e
  rw [e, b] at a
  exact (Option.some.inj a).symm
theorem zzp (s : ByteArray) : -1 ≤ rk s ∧ rk s < 14 := ⟨zuh _ _, zw3 _ rops⟩
theorem zti {s : ByteArray} (h : kN s ≠ 4) : s ∈ rops := by
  unfold kN at h
  split at h
  · rename_i q
    rw [str_lit.1 q]
    exact (zk1 _ _).1 (by decide +kernel)
  split at h
  · rename_i q
    rw [str_lit.1 q]
    exact (zk1 _ _).1 (by decide +kernel)
  split at h
  · rename_i q
    rcases q with q | q <;> rw [str_lit.1 q] <;> exact (zk1 _ _).1 (by decide +kernel)
  split at h
  · rename_i q
    exact List.mem_append_right _ ((zk1 _ _).1 q)
  · exact absurd rfl h
def Sg (c c' : Int) : Prop := (c < 0 ↔ c' < 0) ∧ (c = 0 ↔ c' = 0)
theorem zib (a b : Int) : zfk a b = some (if a < b then -1 else if a > b then 1 else 0) := by
  unfold zfk zew
  simp
  split
  · rfl
  · split <;> rfl
theorem zx7 (a b : Int) : Ev (fun k => zf8 k [a, b]) (if a = 0 then b else a) := by
  have w1 : wrap64 ((0 : Int) + 1) = 1 := by unfold wrap64; omega
  have w2 : wrap64 ((1 : Int) + 1) = 2 := by unfold wrap64; omega
  unfold zf8
  refine Ev.step (fun k => by simp only [zdj, w1]; rfl) (zah (by simp) (zah (by omega) (zah (by simp) ?_)))
  by_cases q : a = 0
  · refine zah q ?_
    rw [if_pos q]
    refine Ev.step (fun k => by simp only [zdj, w2]; rfl) (zah (by simp) (zah (by omega) (zah (by simp) ?_)))
    by_cases r : b = 0
    · refine zah r ?_
      rw [r]
      exact Ev.step (fun k => by simp only [zdj]; rfl) (za1 (by simp) (za4 _))
    · exact za1 r (za4 _)
  · rw [if_neg q]
    exact za1 q (za4 _)
theorem zxd (G G' : Nat → Int → Int → Option Int) : ∀ (pa pb : List Int), pa.length = pb.length → (∀ t : Nat, t < pa.length → ∃ c c', Ev (fun k => G k (pa.getD t 0) (pb.getD t 0)) c ∧ Ev (fun k => G' k (pa.getD t 0) (pb.getD t 0)) c' ∧ Sg c c') →
    ∃ c c', Ev (fun k => scL (G k) pa pb) c ∧ Ev (fun k => icL (G' k) pa pb) c' ∧ Sg c c'
  | [], _, _, _ => ⟨0, 0, za4 _, za4 _, Iff.rfl, Iff.rfl⟩
  | _ :: _, [], h, _ => by simp at h
  | a :: pa, b :: pb, h, H => by
    obtain ⟨c, c', h1, h2, h3⟩ := H 0 (by simp)
    by_cases q : c = 0
    · obtain ⟨e, e', g1, g2, g3⟩ := zxd G G' pa pb (by simpa using h) (fun t ht => H (t + 1) (by simp; omega))
      exact ⟨e, e', Ev.bind h1 (zah q g1), Ev.bind h2 (zah (h3.2.1 q) g2), g3⟩
    · exact ⟨c, c', Ev.bind h1 (za1 q (za4 _)), Ev.bind h2 (za1 (fun e => q (h3.2.2 e)) (za4 _)), h3⟩
theorem zpq (k : Nat) (e : List Node) (d : Nat) (i j R : Int) (h : scW k e d i j = some R) : ∀ m, scW k e (d + m) i j = some R
  | 0 => h
  | m + 1 => zs4 k e (d + m) i j R (zpq k e d i j R h m)
theorem zpr (k : Nat) (e : List Node) (d : Nat) (i j R : Int) (h : icW k e d i j = some R) : ∀ m, icW k e (d + m) i j = some R
  | 0 => h
  | m + 1 => zsu k e (d + m) i j R (zpr k e d i j R h m)
theorem zzq (e : List Node) (d : Nat) (i j R : Int) (h : Ev (fun k => scW k e d i j) R) : Ev (fun k => zhq k e i j) R := by
  obtain ⟨K, hK⟩ := h
  exact ⟨max K d, fun k hk => by have := zpq k e d i j R (hK k (by omega)) (k - d); rwa [show d + (k - d) = k by omega] at this⟩
theorem zzr (e : List Node) (d : Nat) (i j R : Int) (h : Ev (fun k => icW k e d i j) R) : Ev (fun k => zex k e i j) R := by
  obtain ⟨K, hK⟩ := h
  exact ⟨max K d, fun k hk => by have := zpr k e d i j R (hK k (by omega)) (k - d); rwa [show d + (k - d) = k by omega] at this⟩
theorem zsg {x : Node} {i : Int} (h : okNx x i = true) : 0 ≤ x.f3 ∧ x.f3 ≤ 63 := by
  unfold okNx at h
  rcases zkf x.f0 with c | c | c | c | c <;> rw [c] at h <;> simp [okNd] at h <;> omega
theorem zrl {x : Node} {i : Int} (h : okNx x i = true) (t : Nat) (ht : t < (zdy (kN x.f0) x.f1 x.f2).length) : ∃ p : Nat, (zdy (kN x.f0) x.f1 x.f2).getD t 0 = (p : Int) ∧ (p : Int) ≤ i - 1 := by
  have hp := (zfg h).2
  rw [zen _ t ht]
  obtain ⟨a, b⟩ := hp _ (List.getElem_mem ht)
  obtain ⟨p, hp⟩ := Int.eq_ofNat_of_zero_le a
  exact ⟨p, hp, by omega⟩
theorem ztv (c : Nat) (a b a' b' : Int) : (zdy c a b).length = (zdy c a' b').length := by
  rcases c with _ | _ | _ | _ | c <;> rfl
theorem zva (l : List Node) (hl : l.length ≤ 1000) (ok : okNs 0 l = true) : ∀ (d i j : Nat), i < d → i < l.length → j < l.length → ∃ c c', Ev (fun k => scW k l d i j) c ∧ Ev (fun k => icW k l d i j) c' ∧ Sg c c'
  | 0, _, _, h, _, _ => absurd h (by omega)
  | d + 1, i, j, hn, hi, hj => by
    simp only [scW, icW]
    by_cases q : i = j
    · subst q
      simp only [if_true]
      exact ⟨0, 0, za4 _, za4 _, Iff.rfl, Iff.rfl⟩
    have hx : zab l (i : Int) = l[i] := zhs (zen l i hi)
    have hy : zab l (j : Int) = l[j] := zhs (zen l j hj)
    have okx := zeb l 0 i hi ok
    have oky := zeb l 0 j hj ok
    rw [Nat.zero_add] at okx oky
    have qi : ¬ ((i : Int) = j) := by omega
    have qin : (0 ≤ (i : Int) ∧ (i : Int) < (l.length : Int)) ∧ 0 ≤ (j : Int) ∧ (j : Int) < (l.length : Int) := by omega
    simp only [if_neg qi, if_pos qin]
    rw [hx, hy]
    generalize l[i] = x at okx
    generalize l[j] = y at oky
    have mx := zti (fun c => zi6 okx c)
    have my := zti (fun c => zi6 oky c)
    have vx := zsg okx
    have vy := zsg oky
    have rx := zzp x.f0
    have ry := zzp y.f0
    simp only [zly]
    by_cases o : x.f0 = y.f0
    · by_cases v : x.f3 = y.f3
      · have hl2 := (zfg okx).1
        have hlen : (zdy (kN x.f0) x.f1 x.f2).length = (zdy (kN y.f0) y.f1 y.f2).length := by rw [o]; exact ztv _ _ _ _ _
        obtain ⟨c, c', g1, g2, g3⟩ := zxd (fun k => scW k l d) (fun k => icW k l d) (zdy (kN x.f0) x.f1 x.f2) (zdy (kN y.f0) y.f1 y.f2) hlen (fun t ht => by
          obtain ⟨p, hp, hp'⟩ := zrl okx t ht
          obtain ⟨p2, hp2, hp2'⟩ := zrl oky t (by omega)
          rw [hp, hp2]
          exact zva l hl ok d p p2 (by omega) (by omega) (by omega))
        refine ⟨c, c', zah o (zah v (Ev.bind (zgw y) (Ev.bind (zgw x) (zah (by omega) g1)))), ?_, g3⟩
        refine Ev.bind (znn x.f0) (Ev.bind (znn y.f0) (Ev.call (zib _ _) (Ev.call (zib _ _) (Ev.bind (zx7 _ _) (zah ?_ (Ev.bind (zr7 x) (Ev.bind (zr7 y) (zah (by omega) g2))))))))
        rw [o, v]
        simp
      · refine ⟨wrap64 (x.f3 - y.f3), _, zah o (za1 v (za4 _)), Ev.bind (znn x.f0) (Ev.bind (znn y.f0) (Ev.call (zib _ _) (Ev.call (zib _ _) (Ev.bind (zx7 _ _) (za1 ?_ (za4 _)))))), ?_⟩
        · rw [o]
          simp
          split
          · omega
          · split <;> omega
        · rw [w64 (by omega) (by omega), o]
          simp only [Int.lt_irrefl, gt_iff_lt, if_false, if_true]
          unfold Sg
          split
          · omega
          · split <;> omega
    · have hr : rk x.f0 ≠ rk y.f0 := fun e => o (zzo mx my e)
      refine ⟨wrap64 (rk x.f0 - rk y.f0), _, za1 o (Ev.bind (zrk _ mx) (Ev.bind (zrk _ my) (za4 (wrap64 (rk x.f0 - rk y.f0))))), Ev.bind (znn x.f0) (Ev.bind (znn y.f0) (Ev.call (zib _ _) (Ev.call (zib _ _) (Ev.bind (zx7 _ _) (za1 ?_ (za4 _)))))), ?_⟩
      · split
        · split at * <;> omega
        · split at * <;> omega
      · rw [w64 (by omega) (by omega)]
        unfold Sg
        split
        · split at * <;> omega
        · split at * <;> omega
theorem kN_io {s : ByteArray} (h : hasS ioOps s = true) : kN s = 3 := by
  have := (zk1 _ _).1 h
  unfold ioOps at this
  simp only [List.mem_cons, List.not_mem_nil, or_false] at this
  rcases this with rfl | rfl | rfl | rfl | rfl | rfl <;> decide +kernel
theorem zqi : ∀ (xs : List Node) (i j : Nat) (y : Node), okNs i xs = true → okNx y ((i + j : Nat) : Int) = true → okNs i (xs.set j y) = true
  | [], _, _, _, h, _ => by simpa using h
  | x :: xs, i, 0, y, h, hy => by
    simp only [okNs, Bool.and_eq_true, List.set_cons_zero] at h ⊢
    exact ⟨hy, h.2⟩
  | x :: xs, i, j + 1, y, h, hy => by
    simp only [okNs, Bool.and_eq_true, List.set_cons_succ] at h ⊢
    exact ⟨h.1, zqi xs (i + 1) j y h.2 (by rw [show i + 1 + j = i + (j + 1) by omega]; exact hy)⟩
theorem zx8 (out : List Node) (u : Nat) (hu : u < out.length) (hl : out.length ≤ 1000) (ok : okNs 0 out = true) : ∃ o, Ev (fun k => ioSt k out u) o ∧ Ev (fun k => vaSt k out u) o ∧ okNs 0 o = true ∧ o.length = out.length := by
  have hx : zab out (u : Int) = out[u] := zhs (zen out u hu)
  have okx := zeb out 0 u hu ok
  rw [Nat.zero_add] at okx
  unfold ioSt vaSt
  rw [hx]
  generalize out[u] = x at okx
  have ht : Ev (fun k => ze1 k x.f0) (hasS ioOps x.f0) := by
    unfold ze1
    exact Ev.bind (zrc ioOps x.f0 (by decide)) (za4 _)
  by_cases q : hasS ioOps x.f0 = true
  · have c3 := kN_io q
    obtain ⟨⟨e1, e2⟩, e4, e5⟩ := zpo okx c3
    obtain ⟨p, hp⟩ := Int.eq_ofNat_of_zero_le e1
    obtain ⟨p', hp'⟩ := Int.eq_ofNat_of_zero_le e4
    obtain ⟨c, c', g1, g2, g3⟩ := zva out hl ok (p' + 1) p' p (by omega) (by omega) (by omega)
    replace g1 := zzq _ _ _ _ _ g1
    replace g2 := zzr _ _ _ _ _ g2
    rw [← hp, ← hp'] at g1 g2
    refine ⟨if c < 0 then out.set (u : Int).toNat ⟨x.f0, x.f2, x.f1, x.f3⟩ else out, Ev.bind (zku ioOps x.f0 (by decide)) (zah q (Ev.bind g2 (Ev.some ?_))), Ev.bind ht (zah q (Ev.bind g1 (za4 _))), ?_, ?_⟩
    · by_cases r : c < 0
      · rw [if_pos r, if_pos (g3.1.1 r)]
      · rw [if_neg r, if_neg (fun e => r (g3.1.2 e))]
    · split
      · rw [Int.toNat_natCast]
        refine zqi out 0 u _ ok ?_
        rw [Nat.zero_add]
        unfold okNx at okx ⊢
        simp only
        rw [c3] at okx ⊢
        simp [okNd] at okx ⊢
        omega
      · exact ok
    · split <;> simp
  · exact ⟨out, Ev.bind (zku ioOps x.f0 (by decide)) (za1 q (za4 _)), Ev.bind ht (za1 q (za4 _)), ok, rfl⟩
theorem zow : ∀ (d u : Nat) (out : List Node), u + d = out.length → out.length ≤ 1000 → okNs 0 out = true → ∃ o, Ev (fun k => ioL k d u out) o ∧ Ev (fun k => vaL k d u out) o ∧ okNs 0 o = true ∧ o.length = out.length
  | 0, u, out, _, _, ok => ⟨out, za4 _, za4 _, ok, rfl⟩
  | d + 1, u, out, h, hl, ok => by
    obtain ⟨o, a, b, c, e⟩ := zx8 out u (by omega) hl ok
    obtain ⟨o2, a2, b2, c2, e2⟩ := zow d (u + 1) o (by omega) (by omega) c
    exact ⟨o2, Ev.bind a a2, Ev.bind b b2, c2, by omega⟩
theorem ztw (l : List Node) (h0 : 0 < l.length) (hl : l.length ≤ 1000) (ok : okNs 0 l = true) : ∃ R, Ev (fun k => za9 k l) R ∧ Ev (fun k => zcj k l) R ∧ okNs 0 R = true ∧ 0 < R.length ∧ R.length ≤ l.length := by
  obtain ⟨a, b, c⟩ := zu7 h0 ok
  obtain ⟨o, d, e, f, g⟩ := zow (shP l).length 0 (shP l) (by omega) (by omega) a
  obtain ⟨a', b', c'⟩ := zu7 (l := o) (by omega) f
  refine ⟨shP o, ?_, ?_, a', b', by omega⟩
  · unfold za9
    exact Ev.bind (zjy l h0 hl ok) (zah (by omega) (Ev.bind d (zjy o (by omega) (by omega) f)))
  · unfold zcj
    exact Ev.bind (znk l h0 hl ok) (zah (by omega) (Ev.bind e (znk o (by omega) (by omega) f)))
open Classical in
noncomputable def ordR (l : List Node) : List Node := if h : ∃ R, Ev (fun k => za9 k l) R then Classical.choose h else []
theorem zsh (l : List Node) (h0 : 0 < l.length) (hl : l.length ≤ 1000) (ok : okNs 0 l = true) : Ev (fun k => za9 k l) (ordR l) ∧ Ev (fun k => zcj k l) (ordR l) ∧ okNs 0 (ordR l) = true ∧ 0 < (ordR l).length ∧ (ordR l).length ≤ l.length := by
  obtain ⟨R, a, b, c⟩ := ztw l h0 hl ok
  have h : ∃ R, Ev (fun k => za9 k l) R := ⟨R, a⟩
  have e : ordR l = R := by
    unfold ordR
    rw [dif_pos h]
    exact zp5 (Classical.choose_spec h) a
  rw [e]
  exact ⟨a, b, c⟩
theorem zwg (n : Int) : bits .and .i64 n 63 = n % 64 := by
  have h63 : (BitVec.ofInt 64 63).toNat = 2 ^ 6 - 1 := by decide
  have key : (BitVec.ofInt 64 n &&& BitVec.ofInt 64 63).toNat = (n % ((2 ^ 64 : Nat) : Int)).toNat % 2 ^ 6 := by
    rw [BitVec.toNat_and, BitVec.toNat_ofInt, h63, Nat.and_two_pow_sub_one_eq_mod]
  show IntKind.i64.wrap ((BitVec.ofInt 64 n &&& BitVec.ofInt 64 63).toNat : Nat) = n % 64
  rw [key, IntKind.wrap_i64]
  omega
def okV (v : Int) : Prop := 0 ≤ v ∧ v ≤ 63
theorem zx9 (n : Int) : okV (bits .and .i64 n 63) := by
  rw [zwg]
  unfold okV
  omega
theorem zzs (b : Bool) : zh9 b = some (if b = true then 1 else 0) := by
  cases b <;> rfl
theorem zwh (s : ByteArray) (a b : Int) : zir s a b = zet s a b := by
  unfold zir zet
  simp only [zzs, Option.bind_some]
  repeat refine ite_congr rfl (fun _ => rfl) (fun _ => ?_)
  refine ite_congr rfl (fun _ => ?_) (fun _ => ite_congr rfl (fun _ => ?_) (fun _ => rfl))
  · by_cases h : a < b
    · rw [if_pos h, if_pos (by simpa using h)]
    · rw [if_neg h, if_neg (by simpa using h)]
  · by_cases h : a = b
    · rw [if_pos h, if_pos (by simpa using h)]
    · rw [if_neg h, if_neg (by simpa using h)]
theorem zzt {c : Prop} [Decidable c] {x y : Option Int} {P : Int → Prop} (hx : ∃ v, x = some v ∧ P v) (hy : ∃ v, y = some v ∧ P v) : ∃ v, (if c then x else y) = some v ∧ P v := by
  by_cases h : c
  · rw [if_pos h]; exact hx
  · rw [if_neg h]; exact hy
theorem ztx (s : ByteArray) (a b : Int) (hb : 0 ≤ b) : ∃ v, zet s a b = some v ∧ okV v := by
  unfold zet
  rw [if_pos hb, if_pos hb]
  repeat' refine zzt ?_ ?_
  all_goals exact ⟨_, rfl, zx9 _⟩
def isC (s : ByteArray) : Bool := s.toList == ([99, 111, 110, 115, 116] : List UInt8)
def foV (x : Node) (out : List Node) : Int := (zet x.f0 (zab out x.f1).f3 (if 1 < (prt x).length then (zab out x.f2).f3 else 0)).getD 0
def foC (x : Node) (out : List Node) : Bool := decide (0 < (prt x).length) && (prt x).all fun p => isC (zab out p).f0
def foSt (out : List Node) (u : Nat) : List Node := if foC (zab out (u : Int)) out = true then out.set u (fdC (foV (zab out (u : Int)) out)) else out
theorem ztj (out : List Node) (u : Nat) : (foSt out u).length = out.length := by
  unfold foSt
  split <;> simp
theorem zqj (out : List Node) : ∀ (ps : List Int) (b : Bool), (∀ p ∈ ps, 0 ≤ p ∧ p < (out.length : Int)) → efIn out ps b = some (b && ps.all fun p => isC (zab out p).f0)
  | [], b, _ => by simp [efIn]
  | p :: ps, b, h => by
    unfold efIn
    cases b with
    | true => rw [if_pos rfl, if_pos (h p (by simp)), zqj out ps _ (fun q hq => h q (by simp [hq]))]; simp [isC]
    | false => rw [if_neg Bool.false_ne_true, zqj out ps _ (fun q hq => h q (by simp [hq]))]; simp
theorem ifb (b c : Bool) : (if b = true then c else false) = (b && c) := by cases b <;> simp
theorem zwi (x : Node) (out : List Node) (hp : ∀ p ∈ prt x, 0 ≤ p ∧ p < (out.length : Int)) : ∃ s, fdIn out (prt x) 0 [0, 0] (decide (0 < zhy (kN x.f0))) = some (s, foC x out) ∧ (foC x out = true → rdOf 0 s 0 = (zab out x.f1).f3 ∧ rdOf 0 s 1 = if 1 < (prt x).length then (zab out x.f2).f3 else 0) := by
  unfold foC
  unfold prt at hp ⊢
  rcases zkf x.f0 with c | c | c | c | c <;> rw [c] at hp ⊢ <;> simp only [zdy, zhy] at hp ⊢
  · exact ⟨[0, 0], by simp [fdIn], by simp⟩
  · exact ⟨[0, 0], by simp [fdIn], by simp⟩
  · have h1 := hp x.f1 (by simp)
    refine ⟨[(zab out x.f1).f3, 0], ?_, fun _ => ⟨rfl, rfl⟩⟩
    simp only [fdIn]
    rw [if_pos ⟨h1.1, h1.2, by omega⟩, ifb]
    simp [isC]
  · have h1 := hp x.f1 (by simp)
    have h2 := hp x.f2 (by simp)
    refine ⟨[(zab out x.f1).f3, (zab out x.f2).f3], ?_, fun _ => ⟨rfl, rfl⟩⟩
    simp only [fdIn]
    rw [if_pos ⟨h1.1, h1.2, by omega⟩, if_pos ⟨h2.1, h2.2, by omega⟩, ifb, ifb]
    simp [isC]
  · exact ⟨[0, 0], by simp [fdIn], by simp⟩
theorem zzu (v : Int) : kN (fdC v).f0 = 1 := by
  show kN (⟨#[99, 111, 110, 115, 116]⟩ : ByteArray) = 1
  decide +kernel
theorem zya (out : List Node) (u : Nat) (hu : u < out.length) (ok : okNs 0 out = true) : Ev (fun k => fdSt k out u) (foSt out u) ∧ Ev (fun k => efSt k out u) (foSt out u) ∧ okNs 0 (foSt out u) = true := by
  have hx : zab out (u : Int) = out[u] := zhs (zen out u hu)
  have hok := zeb out 0 u hu ok
  rw [Nat.zero_add] at hok
  unfold fdSt efSt foSt
  rw [hx]
  obtain ⟨x, ex⟩ : ∃ x, x = out[u] := ⟨_, rfl⟩
  rw [← ex] at hok ⊢
  have hp0 := (zfg hok).2
  have hp : ∀ p ∈ prt x, 0 ≤ p ∧ p < (out.length : Int) := fun p h => by have := hp0 p h; omega
  obtain ⟨s, hs, hv⟩ := zwi x out hp
  have he := zqj out (prt x) (decide (0 < (prt x).length)) hp
  have hval : ∀ p ∈ prt x, 0 ≤ (zab out p).f3 := fun p h => by
    obtain ⟨a, b⟩ := hp p h
    obtain ⟨q, rfl⟩ := Int.eq_ofNat_of_zero_le a
    have hq : q < out.length := by omega
    rw [zhs (zen out q hq)]
    exact (zsg (zeb out 0 q hq ok)).1
  by_cases hc : foC x out = true
  · have hc0 : 0 < (prt x).length := by
      unfold foC at hc
      simp only [Bool.and_eq_true, decide_eq_true_eq] at hc
      exact hc.1
    have hm1 : x.f1 ∈ prt x := by
      unfold prt at hc0 ⊢
      rcases zkf x.f0 with c | c | c | c | c <;> rw [c] at hc0 ⊢ <;> simp [zdy] at hc0 ⊢
    have hm2 : 1 < (prt x).length → x.f2 ∈ prt x := fun h => by
      unfold prt at h ⊢
      rcases zkf x.f0 with c | c | c | c | c <;> rw [c] at h ⊢ <;> simp [zdy] at h ⊢
    obtain ⟨v, ev, hvv⟩ := ztx x.f0 (zab out x.f1).f3 (if 1 < (prt x).length then (zab out x.f2).f3 else 0) (by
      split
      · rename_i h
        exact hval _ (hm2 h)
      · omega)
    have hV : foV x out = v := by unfold foV; rw [ev]; rfl
    rw [if_pos hc, hV]
    refine ⟨?_, ?_, ?_⟩
    · refine Ev.bind (zik x.f0) (Ev.bind (zr7 x) (Ev.call hs (zah hc (Ev.call (a := v) ?_ (za4 _)))))
      obtain ⟨e0, e1⟩ := hv hc
      rw [e0, e1, zwh]
      exact ev
    · refine Ev.bind (zgw x) (Ev.call he (zah hc (zah ⟨hp _ hm1, fun h => hp _ (hm2 h)⟩ (Ev.call ev (za4 _)))))
    · refine zqi out 0 u (fdC v) ok ?_
      unfold okNx
      rw [zzu]
      obtain ⟨a, b⟩ := hvv
      simp [okNd, fdC, a, b]
  · rw [if_neg hc]
    exact ⟨Ev.bind (zik x.f0) (Ev.bind (zr7 x) (Ev.call hs (za1 hc (za4 _)))), Ev.bind (zgw x) (Ev.call he (za1 hc (za4 _))), ok⟩
def foL : Nat → Nat → List Node → List Node
  | 0, _, out => out
  | d + 1, u, out => foL d (u + 1) (foSt out u)
theorem ztk : ∀ (d u : Nat) (out : List Node), u + d = out.length → okNs 0 out = true → Ev (fun k => fdL k d u out) (foL d u out) ∧ Ev (fun k => efL k d u out) (foL d u out) ∧ okNs 0 (foL d u out) = true ∧ (foL d u out).length = out.length
  | 0, _, out, _, ok => ⟨za4 _, za4 _, ok, rfl⟩
  | d + 1, u, out, h, ok => by
    obtain ⟨a, b, c⟩ := zya out u (by omega) ok
    obtain ⟨a', b', c', d'⟩ := ztk d (u + 1) (foSt out u) (by rw [ztj]; omega) c
    exact ⟨Ev.bind a a', Ev.bind b b', c', d'.trans (ztj _ _)⟩
theorem zwj (l : List Node) (hl : l.length ≤ 1000) : zfj l = some l := by
  unfold zfj
  rw [Option.bind_some, if_pos (by simp; omega)]
  simp
theorem zvb (l : List Node) (h0 : 0 < l.length) (hl : l.length ≤ 1000) (ok : okNs 0 l = true) : ∃ e e', Ev (fun k => zd3 k l) e ∧ Ev (fun k => zds k l) e' ∧ (okNs 0 e = true ∧ 0 < e.length ∧ e.length ≤ l.length) ∧ (okNs 0 e' = true ∧ 0 < e'.length ∧ e'.length ≤ l.length) ∧ shP e = shP e' := by
  obtain ⟨a, b, c, d⟩ := ztk l.length 0 l (by omega) ok
  obtain ⟨e, he, hk⟩ := zu2 (foL l.length 0 l) c (by omega) (l.length - 1) (by omega)
  obtain ⟨e', he', hk'⟩ := zu5 (foL l.length 0 l) c (by omega) (l.length - 1) (by omega)
  have hi : (l.length : Int) - 1 = ((l.length - 1 : Nat) : Int) := by omega
  rw [← hi] at he he'
  refine ⟨e, e', ?_, ?_, ⟨hk.1, hk.2.1, by have := hk.2.2.1; omega⟩, ⟨hk'.1, hk'.2.1, by have := hk'.2.2.1; omega⟩, zpp hk hk' rfl⟩
  · unfold zd3
    exact Ev.call (zwj l hl) (zah (by omega) (Ev.bind a (zah d he)))
  · unfold zds
    exact zah (by omega) (Ev.bind b (zah d he'))
theorem zvc {l m : List Node} (h0 : 0 < l.length) (hl : l.length ≤ 1000) (ok : okNs 0 l = true) (h0' : 0 < m.length) (hl' : m.length ≤ 1000) (ok' : okNs 0 m = true) (hs : shP l = shP m) : Ev (fun k => za9 k l) (ordR m) ∧ Ev (fun k => zcj k m) (ordR m) := by
  refine ⟨?_, (zsh m h0' hl' ok').2.1⟩
  obtain ⟨a, b, c⟩ := zu7 h0 ok
  obtain ⟨o, d, e, f, g⟩ := zow (shP l).length 0 (shP l) (by omega) (by omega) a
  have k1 : Ev (fun k => za9 k l) (shP o) := by
    unfold za9
    exact Ev.bind (zjy l h0 hl ok) (zah (by omega) (Ev.bind d (zjy o (by omega) (by omega) f)))
  have k2 : Ev (fun k => za9 k m) (shP o) := by
    unfold za9
    rw [hs] at b c d g
    exact Ev.bind (zjy m h0' hl' ok') (zah (by omega) (Ev.bind d (zjy o (by omega) (by omega) f)))
  rw [zp5 (zsh m h0' hl' ok').1 k2]
  exact k1
open Classical in
noncomputable def plR (l : List Node) : List Node := if h : ∃ R, Ev (fun k => (zd3 k l).bind fun e => za9 k e) R then Classical.choose h else []
theorem zzv (l : List Node) (h0 : 0 < l.length) (hl : l.length ≤ 1000) (ok : okNs 0 l = true) : ∃ e e', Ev (fun k => zd3 k l) e ∧ Ev (fun k => zds k l) e' ∧ Ev (fun k => za9 k e) (plR l) ∧ Ev (fun k => zcj k e') (plR l) ∧ (plR l).length ≤ l.length := by
  obtain ⟨e, e', h, h', ⟨a, b, c⟩, ⟨a', b', c'⟩, hs⟩ := zvb l h0 hl ok
  obtain ⟨p, q⟩ := zvc b (by omega) a b' (by omega) a' hs
  have hR : plR l = ordR e' := by
    have hx : ∃ R, Ev (fun k => (zd3 k l).bind fun e => za9 k e) R := ⟨_, Ev.bind h p⟩
    unfold plR
    rw [dif_pos hx]
    exact zp5 (Classical.choose_spec hx) (Ev.bind h p)
  rw [hR]
  exact ⟨e, e', h, h', p, q, by have := (zsh e' b' (by omega) a').2.2.2.2; omega⟩
noncomputable def plS (l : List Instr) (r : Int) : List Node × Bool := if (symR l r).2 = true then (plR (symR l r).1, true) else ([], false)
theorem zvd (l : List Instr) (hl : l.length ≤ 100) (hok : ∀ x ∈ l, okI x) (r : Int) (h0 : 0 ≤ r) (h1 : r < 6) : Ev (fun k => zd9 k l r) (plS l r) ∧ Ev (fun k => zdh k l r) (plS l r) ∧ (plS l r).1.length ≤ 24 := by
  obtain ⟨a, b, c⟩ := zx6 l hl hok r h0 h1
  unfold zd9 zdh plS
  by_cases h : (symR l r).2 = true
  · obtain ⟨⟨p, q⟩, ok⟩ := zut (c.symm.trans h)
    obtain ⟨e, e', f, f', g, g', hlen⟩ := zzv (symR l r).1 (by omega) (by omega) ok
    simp only [if_pos h]
    exact ⟨Ev.bind a (zah h (Ev.bind f (Ev.bind g (za4 _)))), Ev.bind b (zah h (Ev.bind f' (Ev.bind g' (za4 _)))), by omega⟩
  · simp only [if_neg h]
    exact ⟨Ev.bind a (za1 h (za4 _)), Ev.bind b (za1 h (za4 _)), Nat.zero_le _⟩
end Go.Proofs.Ytkfkbmlbpeojaaa.PL
end
section
namespace Go.Proofs.Ytkfkbmlbpeojaaa.Q
open Go.RowKit Go.Proofs.YtkfkbmlbpeojaaaW.PrintWords Go.Proofs.YtkfkbmlbpeojaaaW.PrintLast Go.Proofs.YtkfkbmlbpeojaaaW.PrintMore
attribute [local go_sem] zcs zct zdo zdp zb2 zb3 zcu zcv
set_option linter.unusedVariables false
set_option linter.unusedSimpArgs false
end Go.Proofs.Ytkfkbmlbpeojaaa.Q
end
section
namespace Go.Proofs.Ytkfkbmlbpeojaaa.PL
open Go Go.RowKit Go.Proofs.YtkfkbmlbpeojaaaW.PrintWords Go.Proofs.YtkfkbmlbpeojaaaW.PrintLast Go.Proofs.YtkfkbmlbpeojaaaW.PrintMore Go.Proofs.Ytkfkbmlbpeojaaa.Q
set_option linter.unusedSimpArgs false
set_option linter.unusedVariables false
theorem zj0 : ∀ (m : Nat) (n : Nat) (s : ByteArray), n ≤ m → s.size + n ≤ 4611686018427387904 → ∃ t, Ev (fun k => zb7 k n s) t
  | 0, n, s, h, hs => by
    have e : n = 0 := by omega
    subst e
    refine ⟨(⟨#[109]⟩ : ByteArray) ++ s, Ev.step (f := fun _ => some ((⟨#[109]⟩ : ByteArray) ++ s)) (fun k => ?_) (za4 _)⟩
    have hz : (⟨#[109]⟩ : ByteArray).size = 1 := rfl
    simp only [zb7]
    rw [if_neg (by decide), if_pos (by omega)]
  | m + 1, n, s, h, hs => by
    by_cases hn : n = 0
    · exact zj0 m n s (by omega) hs
    · have hsz : (strOfNums [(wrap64 (48 + Int.tmod (n : Int) 10)) % 256]).size = 1 := by
        unfold strOfNums
        rfl
      obtain ⟨t, ht⟩ := zj0 m (n / 10) (strOfNums [(wrap64 (48 + Int.tmod (n : Int) 10)) % 256] ++ s) (by omega) (by rw [ByteArray.size_append, hsz]; omega)
      refine ⟨t, Ev.step (fun k => ?_) ht⟩
      simp only [zb7, Option.bind_some]
      rw [if_pos (by omega), if_pos (by rw [hsz]; omega)]
      congr 1
      have e : Int.tdiv (n : Int) 10 = ((n / 10 : Nat) : Int) := by
        rw [Int.tdiv_eq_ediv_of_nonneg (by omega)]
        omega
      rw [e, w64 (by omega) (by omega)]
theorem zox (n : Nat) (h : n ≤ 4611686018427387903) : ∃ t, Ev (fun k => zdc k n) t := by
  unfold zdc
  by_cases hn : (n : Int) ≤ 0
  · exact ⟨_, zah hn (za4 _)⟩
  · obtain ⟨t, ht⟩ := zj0 n n ⟨#[]⟩ (Nat.le_refl _) (by show 0 + n ≤ _; omega)
    exact ⟨t, za1 hn ht⟩
open Classical in
noncomputable def mtx (n : Nat) : ByteArray := if h : ∃ t, Ev (fun k => zdc k n) t then Classical.choose h else ⟨#[]⟩
theorem zve (n : Nat) (h : n ≤ 4611686018427387903) : Ev (fun k => zdc k n) (mtx n) := by
  unfold mtx
  rw [dif_pos (zox n h)]
  exact Classical.choose_spec (zox n h)
theorem zvf {α : Type} (xs : List α) (y : α) (ys : List α) (v : α) : (xs ++ y :: ys).set xs.length v = (xs ++ [v]) ++ ys := by
  rw [List.set_append_right _ _ (Nat.le_refl _)]
  simp
theorem ztl {α : Type} (xs : List α) (y : α) (ys : List α) (d : α) : (xs ++ y :: ys).getD xs.length d = y := by simp [List.getD]
noncomputable def zps : Nat → Nat → List Instr
  | 0, _ => []
  | n + 1, a => ⟨mtx a, (a + 1 : Nat), (a + 2 : Nat), (a + 3 : Nat), (a + 4 : Nat)⟩ :: zps n (a + 5)
theorem zyb (xs : List Instr) (y : Instr) (ys : List Instr) : zaa (xs ++ y :: ys) (xs.length : Nat) = y := by
  unfold zaa
  rw [Int.toNat_natCast, ztl]
theorem zqk (l : List Instr) (a : Nat) (hl : l.length ≤ 1048576) (ha : a ≤ 11534336) : Ev (fun k => zdw k l a) ((a : Int) + 5 * l.length, zps l.length a) := by
  have key : ∀ (ys xs : List Instr) (b : Nat), xs.length + ys.length ≤ 1048576 → b ≤ 16777216 - 5 * ys.length → Ev (fun k => za3 k (xs ++ ys) b xs.length) ((b : Int) + 5 * ys.length, xs ++ zps ys.length b) := by
    intro ys
    induction ys with
    | nil =>
      intro xs b h h'
      refine Ev.step (f := fun _ => some (((b : Int), xs ++ []))) (fun k => ?_) (Ev.some ?_)
      · simp only [za3]
        rw [if_neg (by simp)]
      · simp [zps]
    | cons y ys ih =>
      intro xs b h h'
      simp only [List.length_cons] at h h'
      have := ih (xs ++ [⟨mtx b, (b + 1 : Nat), (b + 2 : Nat), (b + 3 : Nat), (b + 4 : Nat)⟩]) (b + 5) (by simp; omega) (by omega)
      rw [List.append_assoc] at this
      refine Ev.step (fun k => by simp only [za3]; rfl) ?_
      refine zah (by simp; omega) ?_
      refine Ev.bind (zve b (by omega)) ?_
      refine zah (by omega) ?_
      refine zoe (fun k => ?_) (zme this ?_)
      · simp only [Option.bind_some, Int.toNat_natCast, zvf, zyb, List.append_assoc, List.singleton_append]
        rw [w64n b (by omega), w64n (b + 1) (by omega), w64n (b + 2) (by omega), w64n (b + 3) (by omega), w64n (b + 4) (by omega), w64n _ (by omega)]
        congr 1
        simp
      · simp only [List.length_cons, zps, Prod.mk.injEq]
        exact ⟨by omega, by simp⟩
  have := key l [] a (by simpa using hl) (by omega)
  unfold zdw
  simpa using this
theorem zwk (l : List Instr) (a : Nat) (hl : l.length ≤ 1048576) (ha : a ≤ 11534336) : Ev (fun k => zdw k l a) (((a + 5 * l.length : Nat) : Int), zps l.length a) :=
  zme (zqk l a hl ha) (by rw [Prod.mk.injEq]; exact ⟨by omega, rfl⟩)
noncomputable def zlg : Nat → Nat → List Node
  | 0, _ => []
  | n + 1, a => ⟨mtx a, (a + 1 : Nat), (a + 2 : Nat), (a + 3 : Nat)⟩ :: zlg n (a + 4)
theorem zpt : ∀ n a, (zlg n a).length = n
  | 0, _ => rfl
  | n + 1, a => by simp [zlg, zpt n]
theorem zyc (xs : List Node) (y : Node) (ys : List Node) : zab (xs ++ y :: ys) (xs.length : Nat) = y := by
  unfold zab
  rw [Int.toNat_natCast, ztl]
theorem zwl (l : List Node) (a : Nat) (hl : l.length ≤ 1048576) (ha : a ≤ 11534336) : Ev (fun k => zel k l a) (((a + 4 * l.length : Nat) : Int), zlg l.length a) := by
  have key : ∀ (ys xs : List Node) (b : Nat), xs.length + ys.length ≤ 1048576 → b ≤ 16777216 - 4 * ys.length → Ev (fun k => za7 k (xs ++ ys) b xs.length) (((b + 4 * ys.length : Nat) : Int), xs ++ zlg ys.length b) := by
    intro ys
    induction ys with
    | nil =>
      intro xs b h h'
      refine Ev.step (f := fun _ => some (((b : Int), xs ++ []))) (fun k => ?_) (Ev.some ?_)
      · simp only [za7]
        rw [if_neg (by simp)]
      · simp [zlg]
    | cons y ys ih =>
      intro xs b h h'
      simp only [List.length_cons] at h h'
      have := ih (xs ++ [⟨mtx b, (b + 1 : Nat), (b + 2 : Nat), (b + 3 : Nat)⟩]) (b + 4) (by simp; omega) (by omega)
      rw [List.append_assoc] at this
      refine Ev.step (fun k => by simp only [za7]; rfl) ?_
      refine zah (by simp; omega) ?_
      refine Ev.bind (zve b (by omega)) ?_
      refine zah (by omega) ?_
      refine zoe (fun k => ?_) (zme this ?_)
      · simp only [Option.bind_some, Int.toNat_natCast, zvf, zyc, List.append_assoc, List.singleton_append]
        rw [w64n b (by omega), w64n (b + 1) (by omega), w64n (b + 2) (by omega), w64n (b + 3) (by omega), w64n _ (by omega)]
        congr 1
        simp
      · simp only [List.length_cons, zlg, Prod.mk.injEq]
        exact ⟨by omega, by simp⟩
  have := key l [] a (by simpa using hl) (by omega)
  unfold zel
  simpa using this
theorem zwm (n a : Nat) (hn : n ≤ 1048576) (ha : a ≤ 11534336) : Ev (fun k => zea k (zlg n a) a) ((a + 4 * n : Nat) : Int) := by
  have key : ∀ (d b : Nat), b ≤ 16777216 - 4 * d → d ≤ 1048576 → Ev (fun k => hnL k (zlg d b) b) ((b + 4 * d : Nat) : Int) := by
    intro d
    induction d with
    | zero => exact fun b _ _ => Ev.some (by omega)
    | succ d ih =>
      intro b h h'
      have := ih (b + 4) (by omega) (by omega)
      have e1 : wrap64 ((b : Int) + 1) = ((b + 1 : Nat) : Int) := w64n b (by omega)
      have e2 : wrap64 (((b + 1 : Nat) : Int) + 1) = ((b + 2 : Nat) : Int) := w64n (b + 1) (by omega)
      have e3 : wrap64 (((b + 2 : Nat) : Int) + 1) = ((b + 3 : Nat) : Int) := w64n (b + 2) (by omega)
      have e4 : wrap64 (((b + 3 : Nat) : Int) + 1) = ((b + 4 : Nat) : Int) := w64n (b + 3) (by omega)
      simp only [zlg, hnL, e1, e2, e3, e4]
      exact Ev.bind (zve b (by omega)) (zah (by simp) (zme this (by omega)))
  unfold zea
  exact zah (by rw [zpt]; omega) (key n a (by omega) (by omega))
end Go.Proofs.Ytkfkbmlbpeojaaa.PL
end
section
namespace Go.Proofs.Ytkfkbmlbpeojaaa.PL
open Go Go.RowKit Go.Proofs.YtkfkbmlbpeojaaaW.PrintWords Go.Proofs.YtkfkbmlbpeojaaaW.PrintLast Go.Proofs.YtkfkbmlbpeojaaaW.PrintMore Go.Proofs.Ytkfkbmlbpeojaaa.Q
set_option linter.unusedSimpArgs false
set_option linter.unusedVariables false
noncomputable def psR (l : List Instr) (r : Int) : List Node × Bool := if zjx l = true ∧ 0 ≤ r ∧ r ≤ 5 then ((plS l r).1, (plS l r).2) else ([], false)
theorem zyd (l : List Instr) (r : Int) : (psR l r).1.length ≤ 24 := by
  unfold psR
  split
  · rename_i h
    obtain ⟨hl, hk⟩ := znj h.1
    exact (zvd l (by omega) hk r h.2.1 (by omega)).2.2
  · exact Nat.zero_le _
theorem zvg (l : List Instr) (r : Int) : Ev (fun k => zd5 k l r) (psR l r) := by
  unfold zd5 psR
  refine Ev.bind (ztr l) ?_
  by_cases h : zjx l = true
  · refine zah h (Ev.call (zp7 r) ?_)
    obtain ⟨hl, hk⟩ := znj h
    by_cases q : 0 ≤ r ∧ r ≤ 5
    · rw [if_pos ⟨h, q⟩, decide_eq_true q]
      exact zah rfl (Ev.bind (zvd l (by omega) hk r q.1 (by omega)).1 (za4 _))
    · rw [if_neg (fun e => q e.2), decide_eq_false q]
      exact za1 (by decide) (za4 _)
  · rw [if_neg (fun e => h e.1)]
    exact za1 h (za4 _)
theorem zvh (l : List Instr) (r : Int) : Ev (fun k => zd8 k l r) (psR l r) := by
  unfold zd8 psR
  refine Ev.bind (ztt l) ?_
  by_cases h : zjx l = true
  · refine zah h (Ev.call (zs6 r) ?_)
    obtain ⟨hl, hk⟩ := znj h
    by_cases q : 0 ≤ r ∧ r ≤ 5
    · rw [if_pos ⟨h, q⟩, decide_eq_true q]
      exact zah rfl (Ev.bind (zvd l (by omega) hk r q.1 (by omega)).2.1 (za4 _))
    · rw [if_neg (fun e => q e.2), decide_eq_false q]
      exact za1 (by decide) (za4 _)
  · rw [if_neg (fun e => h e.1)]
    exact za1 h (za4 _)
end Go.Proofs.Ytkfkbmlbpeojaaa.PL
namespace Go.Proofs.Ytkfkbmlbpeojaaa.Pure
open Go Go.RowKit Go.Proofs.YtkfkbmlbpeojaaaW.PrintWords Go.Proofs.YtkfkbmlbpeojaaaW.PrintLast Go.Proofs.YtkfkbmlbpeojaaaW.PrintMore Go.Proofs.Ytkfkbmlbpeojaaa.Q Go.Proofs.Ytkfkbmlbpeojaaa.PL
set_option linter.unusedSimpArgs false
set_option linter.unusedVariables false
theorem FnExactPlainSymbol : laws_FnExactPlainSymbol.Pure := by
  intro a0 a1 h0 h1
  refine zvs (g := fun k => zdn k a0 a1) ?_
  unfold zdn
  obtain ⟨r0, hr0, hr0'⟩ := zr5 a0 1048576 h0 (by decide) (by decide)
  refine Ev.bind hr0 ?_
  by_cases hn0 : r0 < 0
  · exact zah hn0 (za4 _)
  have hl0 := hr0' (by omega)
  have q0 := hl0.2.2
  refine za1 hn0 ?_
  have b0 : a0.length ≤ 1048576 := by have := hl0.1; omega
  obtain ⟨l, t1, e⟩ : ∃ l t1, psR (a0.map cvI) a1 = (l, t1) := ⟨_, _, rfl⟩
  have hll : l.length ≤ 24 := by
    have := zyd (a0.map cvI) a1
    rw [e] at this
    exact this
  refine Ev.bind (zr6 a0 b0) (Ev.bind (e ▸ zvh (a0.map cvI) a1) (Ev.bind (e ▸ zvg (a0.map cvI) a1) (Ev.bind (zrb l (by omega)) (Ev.bind (zp6 _ (by simpa using b0)) (Ev.bind (zwk _ 1 (by simpa using b0) (by decide)) (Ev.bind (zwl l 1 (by omega) (by decide)) (Ev.bind (zwm l.length 1 (by omega) (by decide)) (?_))))))))
  exact zah ⟨rfl, rfl, rfl, by omega, rfl, by omega⟩ (za4 _)
end Go.Proofs.Ytkfkbmlbpeojaaa.Pure
end
