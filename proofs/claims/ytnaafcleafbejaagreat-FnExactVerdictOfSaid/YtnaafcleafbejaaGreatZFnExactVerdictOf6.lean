/- Proved here: contracts of functions that the law FnExactVerdictOf reaches, and lemmas on what they compute; texts of this session and the printed words of the kit that they lean on, cut down and put together by its program link.py. Conditions: as each states. -/
import Derived.Laws.BitsLemmas
import Derived.Test.YtnaafcleafbejaaGreatZFnExactVerdictOf1
import Derived.Test.YtnaafcleafbejaaGreatZFnExactVerdictOf2
import Derived.Test.YtnaafcleafbejaaGreatZFnExactVerdictOf3
import Derived.Test.YtnaafcleafbejaaGreatZFnExactVerdictOf4
import Derived.Test.YtnaafcleafbejaaGreatZFnExactVerdictOf5
section
namespace Go.Proofs.YtnaafcleafbejaaGreat.PL
open Go Go.RowKit Go.Proofs.YtnaafcleafbejaaGreatW.PrintWords Go.Proofs.YtnaafcleafbejaaGreatW.PrintLast Go.Proofs.YtnaafcleafbejaaGreatW.PrintMore Go.Proofs.YtnaafcleafbejaaGreat.Q
set_option linter.unusedSimpArgs false
set_option linter.unusedVariables false
structure Gd (s : ShSt) : Prop where
  ok : okNs 0 s.1 = true
  lt : ∀ j : Nat, j < s.2.length → 0 ≤ rd s.2 (j : Int) → rd s.2 (j : Int) < s.1.length
theorem yds {x : Node} {s : ShSt} {i : Nat} (hi : i < s.2.length) (g : Gd s) (hx : okNx x (s.1.length : Int) = true) : Gd (putP x i s) := by
  have e2 : ∀ j : Nat, rd (putP x i s).2 (j : Int) = if i = j then (zef x s.1).2 else rd s.2 (j : Int) := fun j => by
    unfold putP
    simp only
    rw [Int.toNat_natCast, zpz _ _ _ _ hi]
  have e1 : (putP x i s).1 = (zef x s.1).1 := rfl
  have e3 := zpy x s.1
  have e4 : (putP x i s).2.length = s.2.length := by unfold putP; simp
  by_cases q : exIx x s.1 0 < 0
  · have e : zef x s.1 = (s.1 ++ [x], (s.1.length : Int)) := by unfold zef; rw [if_pos q]
    refine ⟨?_, fun j hj h0 => ?_⟩
    · rw [e1, e]
      simp only
      rw [zp2, g.ok, Nat.zero_add, hx]
      rfl
    · rw [e2] at h0 ⊢
      rw [e1, e]
      simp only [List.length_append, List.length_cons, List.length_nil]
      split
      · omega
      · rename_i h
        rw [if_neg h] at h0
        have := g.lt j (by omega) h0
        omega
  · have e : zef x s.1 = (s.1, exIx x s.1 0) := by unfold zef; rw [if_neg q]
    refine ⟨?_, fun j hj h0 => ?_⟩
    · rw [e1, e]
      exact g.ok
    · rw [e2] at h0 ⊢
      rw [e1, e]
      simp only
      split
      · rw [zw2]
        exact ya0 _ _
      · rename_i h
        rw [if_neg h] at h0
        exact g.lt j (by omega) h0
theorem zyx (n i : Nat) (g : ShSt → Int → ShSt) (hg : ∀ (p : Nat) s, p < i → s.2.length = n → s.1.length ≤ nmd s.2 → Kp n i s (g s p) ∧ (Gd s → Gd (g s p))) : ∀ (ps : List Int) (s : ShSt), (∀ p ∈ ps, 0 ≤ p ∧ p < (i : Int)) → s.2.length = n → s.1.length ≤ nmd s.2 → Gd s → Gd (ps.foldl g s)
  | [], s, _, _, _, h => h
  | q :: ps, s, hps, h1, h2, h => by
    obtain ⟨q0, q1⟩ := hps q (by simp)
    obtain ⟨p, rfl⟩ := Int.eq_ofNat_of_zero_le q0
    obtain ⟨a, b⟩ := hg p s (by omega) h1 h2
    exact zyx n i g hg ps (g s p) (fun x hx => hps x (by simp [hx])) a.len a.cnt (b h)
theorem ya9 (l : List Node) (ok : okNs 0 l = true) : ∀ (d i : Nat) (s : ShSt), i < d → i < l.length → s.2.length = l.length → s.1.length ≤ nmd s.2 → Gd s → Gd (shD l d i s)
  | 0, _, _, h, _, _, _, _ => absurd h (by omega)
  | d + 1, i, s, hd, hi, h1, h2, hG => by
    unfold shD
    by_cases q : 0 ≤ rd s.2 (i : Int)
    · rw [if_pos q]
      exact hG
    · rw [if_neg q, zlx hi]
      have hok := zes l 0 i hi ok
      rw [Nat.zero_add] at hok
      have hp := (zgz hok).2
      obtain ⟨a, a'⟩ := zvu l.length i (fun s p => shD l d p s) (fun p s hp h1 h2 => by
        obtain ⟨b, c⟩ := zoi l ok d p s (by omega) (by omega) h1 h2
        exact ⟨b.wide (by omega), c⟩) (zed (kN l[i].f0) l[i].f1 l[i].f2) s (fun p hq => by have := hp p hq; omega) h1 h2
      have b := zyx l.length i (fun s p => shD l d p s) (fun p s hp h1 h2 => by
        obtain ⟨b, c⟩ := zoi l ok d p s (by omega) (by omega) h1 h2
        exact ⟨b.wide (by omega), ya9 l ok d p s (by omega) (by omega) h1 h2⟩) (zed (kN l[i].f0) l[i].f1 l[i].f2) s (fun p hq => by have := hp p hq; omega) h1 h2 hG
      refine yds (by rw [a.len]; exact hi) b (zw3 hok (fun p hq => ⟨a' p hq, ?_⟩))
      obtain ⟨p, rfl⟩ := Int.eq_ofNat_of_zero_le (hp p hq).1
      exact b.lt p (by rw [a.len]; have := (hp _ hq).2; omega) (a' _ hq)
theorem zyy {l : List Node} (h0 : 0 < l.length) (ok : okNs 0 l = true) : okNs 0 (shP l) = true ∧ 0 < (shP l).length ∧ (shP l).length ≤ l.length := by
  have hn : ∀ j : Nat, j < l.length → ¬ 0 ≤ rd (List.replicate l.length (-1)) (j : Int) := fun j hj h => by
    unfold rd at h
    rw [Int.toNat_natCast, zcy _ j (by simpa using hj)] at h
    simp at h
  have G := ya9 l ok l.length (l.length - 1) ([], List.replicate l.length (-1)) (by omega) (by omega) (by simp) (by simp) ⟨rfl, fun j hj h => absurd h (hn j (by simpa using hj))⟩
  obtain ⟨K, k⟩ := zoi l ok l.length (l.length - 1) ([], List.replicate l.length (-1)) (by omega) (by omega) (by simp) (by simp)
  have := G.lt _ (by rw [K.len]; omega) k
  have c := K.cnt
  have c2 := zyn (shD l l.length ((l.length - 1 : Nat) : Int) ([], List.replicate l.length (-1))).2
  rw [K.len] at c2
  exact ⟨G.ok, by unfold shP; omega, by unfold shP; omega⟩
def rops : List ByteArray := [(⟨#[105, 110]⟩ : ByteArray), ⟨#[99, 111, 110, 115, 116]⟩, ⟨#[110, 111, 116]⟩, ⟨#[110, 101, 103]⟩] ++ bops
def rk (s : ByteArray) : Int := idx (fun y => decide (s = y)) rops
theorem zyz (l : List ByteArray) (s : ByteArray) (hl : l.length ≤ 1048576) : Ev (fun k => zax k l s) (idx (fun y => decide (s = y)) l) := by
  unfold zax
  refine zme l _ (fun k i => zak k l s l.length i) ?_ (fun i x hi hx hp => ?_) (fun i x r hi hx hp hr => ?_)
  · refine Ev.step (f := fun _ => some (-1)) (fun k => ?_) (zaq _)
    simp only [zak]
    rw [if_neg (by omega)]
  · refine Ev.step (f := fun _ => some (i : Int)) (fun k => ?_) (zaq _)
    simp only [zak, zqu hx, zo4]
    rw [if_pos (by omega), if_pos (by omega), if_pos (by omega), if_pos (of_decide_eq_true hp)]
  · refine Ev.step (fun k => ?_) hr
    simp only [zak, zqu hx, zo4]
    rw [if_pos (by omega), if_pos (by omega), if_pos (by omega), if_neg (of_decide_eq_false hp), w64n i (by omega)]
theorem zqx (s : ByteArray) : Ev (fun k => zg8 k s) (rk s) := by
  unfold zg8
  refine Ev.call rfl (Ev.call zuy (zae (by decide) (Ev.bind (zyz rops s (by decide)) (zaq _))))
theorem zu4 (s : ByteArray) (h : s ∈ rops) : Ev (fun k => zfn k s) (rk s) := by
  have hge : 0 ≤ rk s := (zi9 _ _).2 ⟨s, h, decide_eq_true rfl⟩
  have key : ∀ (d i : Nat), i + d = rops.length → 0 ≤ idx (fun y => decide (s = y)) (rops.drop i) → Ev (fun k => zdw k s rops i) (i + idx (fun y => decide (s = y)) (rops.drop i)) := by
    intro d
    induction d with
    | zero =>
      intro i hi h0
      rw [List.drop_of_length_le (by omega)] at h0
      simp [idx] at h0
    | succ d ih =>
      intro i hi h0
      have hlt : i < rops.length := by omega
      have e : rops.drop i = rops[i] :: rops.drop (i + 1) := List.drop_eq_getElem_cons hlt
      have hb : rops.length ≤ 1000 := by decide
      rw [e] at h0 ⊢
      refine Ev.step (fun k => by simp only [zdw, zqu (zcy rops i hlt), zo4]; rfl) (zae (by omega) (zae (by omega) ?_))
      by_cases q : s = rops[i]
      · refine zae q.symm (Ev.some ?_)
        unfold idx
        rw [if_pos (by simpa using q)]
        omega
      · refine zao (fun h => q h.symm) ?_
        have f : idx (fun y => decide (s = y)) (rops[i] :: rops.drop (i + 1)) = if idx (fun y => decide (s = y)) (rops.drop (i + 1)) < 0 then -1 else idx (fun y => decide (s = y)) (rops.drop (i + 1)) + 1 := by
          rw [idx, if_neg (by simpa using q)]
        rw [f] at h0 ⊢
        by_cases r : idx (fun y => decide (s = y)) (rops.drop (i + 1)) < 0
        · rw [if_pos r] at h0
          omega
        · rw [if_neg r, w64n i (by omega)]
          refine zox (ih (i + 1) (by omega) (by omega)) ?_
          omega
  have := key rops.length 0 (by omega) (by rw [List.drop_zero]; exact hge)
  unfold zfn
  refine zox this ?_
  simp [rk]
theorem zy0 {s : ByteArray} : ∀ (l : List ByteArray), 0 ≤ idx (fun y => decide (s = y)) l → l[(idx (fun y => decide (s = y)) l).toNat]? = some s
  | [], h => by simp [idx] at h
  | x :: xs, h => by
    by_cases q : s = x
    · rw [idx, if_pos (by simpa using q)]
      simp [q]
    · rw [idx, if_neg (by simpa using q)] at h ⊢
      by_cases r : idx (fun y => decide (s = y)) xs < 0
      · rw [if_pos r] at h
        omega
      · rw [if_neg r] at h ⊢
        have := zy0 (s := s) xs (by omega)
        rw [show (idx (fun y => decide (s = y)) xs + 1).toNat = (idx (fun y => decide (s = y)) xs).toNat + 1 by omega, List.getElem?_cons_succ]
        exact this
theorem ydt {s t : ByteArray} (h : s ∈ rops) (h' : t ∈ rops) (e : rk s = rk t) : s = t := by
  have a := zy0 (s := s) rops ((zi9 _ _).2 ⟨s, h, decide_eq_true rfl⟩)
  have b := zy0 (s := t) rops ((zi9 _ _).2 ⟨t, h', decide_eq_true rfl⟩)
  unfold rk at e
  rw [e, b] at a
  exact (Option.some.inj a).symm
theorem ydu (s : ByteArray) : -1 ≤ rk s ∧ rk s < 14 := ⟨zx8 _ _, ya0 _ rops⟩
theorem zw8 {s : ByteArray} (h : kN s ≠ 4) : s ∈ rops := by
  unfold kN at h
  split at h
  · rename_i q
    rw [str_lit.1 q]
    exact (znz _ _).1 (by decide +kernel)
  split at h
  · rename_i q
    rw [str_lit.1 q]
    exact (znz _ _).1 (by decide +kernel)
  split at h
  · rename_i q
    rcases q with q | q <;> rw [str_lit.1 q] <;> exact (znz _ _).1 (by decide +kernel)
  split at h
  · rename_i q
    exact List.mem_append_right _ ((znz _ _).1 q)
  · exact absurd rfl h
def Sg (c c' : Int) : Prop := (c < 0 ↔ c' < 0) ∧ (c = 0 ↔ c' = 0)
theorem zkf (a b : Int) : zfv a b = some (if a < b then -1 else if a > b then 1 else 0) := by
  unfold zfv zhq
  simp
  split
  · rfl
  · split <;> rfl
theorem yb9 (a b : Int) : Ev (fun k => zg5 k [a, b]) (if a = 0 then b else a) := by
  have w1 : wrap64 ((0 : Int) + 1) = 1 := by unfold wrap64; omega
  have w2 : wrap64 ((1 : Int) + 1) = 2 := by unfold wrap64; omega
  unfold zg5
  refine Ev.step (fun k => by simp only [zd1, w1]; rfl) (zae (by simp) (zae (by omega) (zae (by simp) ?_)))
  by_cases q : a = 0
  · refine zae q ?_
    rw [if_pos q]
    refine Ev.step (fun k => by simp only [zd1, w2]; rfl) (zae (by simp) (zae (by omega) (zae (by simp) ?_)))
    by_cases r : b = 0
    · refine zae r ?_
      rw [r]
      exact Ev.step (fun k => by simp only [zd1]; rfl) (zao (by simp) (zaq _))
    · exact zao r (zaq _)
  · rw [if_neg q]
    exact zao q (zaq _)
theorem yba (G G' : Nat → Int → Int → Option Int) : ∀ (pa pb : List Int), pa.length = pb.length → (∀ t : Nat, t < pa.length → ∃ c c', Ev (fun k => G k (pa.getD t 0) (pb.getD t 0)) c ∧ Ev (fun k => G' k (pa.getD t 0) (pb.getD t 0)) c' ∧ Sg c c') →
    ∃ c c', Ev (fun k => scL (G k) pa pb) c ∧ Ev (fun k => icL (G' k) pa pb) c' ∧ Sg c c'
  | [], _, _, _ => ⟨0, 0, zaq _, zaq _, Iff.rfl, Iff.rfl⟩
  | _ :: _, [], h, _ => by simp at h
  | a :: pa, b :: pb, h, H => by
    obtain ⟨c, c', h1, h2, h3⟩ := H 0 (by simp)
    by_cases q : c = 0
    · obtain ⟨e, e', g1, g2, g3⟩ := yba G G' pa pb (by simpa using h) (fun t ht => H (t + 1) (by simp; omega))
      exact ⟨e, e', Ev.bind h1 (zae q g1), Ev.bind h2 (zae (h3.2.1 q) g2), g3⟩
    · exact ⟨c, c', Ev.bind h1 (zao q (zaq _)), Ev.bind h2 (zao (fun e => q (h3.2.2 e)) (zaq _)), h3⟩
theorem ztk (k : Nat) (e : List Node) (d : Nat) (i j R : Int) (h : scW k e d i j = some R) : ∀ m, scW k e (d + m) i j = some R
  | 0 => h
  | m + 1 => zwt k e (d + m) i j R (ztk k e d i j R h m)
theorem ztl (k : Nat) (e : List Node) (d : Nat) (i j R : Int) (h : icW k e d i j = some R) : ∀ m, icW k e (d + m) i j = some R
  | 0 => h
  | m + 1 => zwn k e (d + m) i j R (ztl k e d i j R h m)
theorem ydv (e : List Node) (d : Nat) (i j R : Int) (h : Ev (fun k => scW k e d i j) R) : Ev (fun k => zjl k e i j) R := by
  obtain ⟨K, hK⟩ := h
  exact ⟨max K d, fun k hk => by have := ztk k e d i j R (hK k (by omega)) (k - d); rwa [show d + (k - d) = k by omega] at this⟩
theorem ydw (e : List Node) (d : Nat) (i j R : Int) (h : Ev (fun k => icW k e d i j) R) : Ev (fun k => zfz k e i j) R := by
  obtain ⟨K, hK⟩ := h
  exact ⟨max K d, fun k hk => by have := ztl k e d i j R (hK k (by omega)) (k - d); rwa [show d + (k - d) = k by omega] at this⟩
theorem zv1 {x : Node} {i : Int} (h : okNx x i = true) : 0 ≤ x.f3 ∧ x.f3 ≤ 63 := by
  unfold okNx at h
  rcases zna x.f0 with c | c | c | c | c <;> rw [c] at h <;> simp [okNd] at h <;> omega
theorem zu5 {x : Node} {i : Int} (h : okNx x i = true) (t : Nat) (ht : t < (zed (kN x.f0) x.f1 x.f2).length) : ∃ p : Nat, (zed (kN x.f0) x.f1 x.f2).getD t 0 = (p : Int) ∧ (p : Int) ≤ i - 1 := by
  have hp := (zgz h).2
  rw [zcy _ t ht]
  obtain ⟨a, b⟩ := hp _ (List.getElem_mem ht)
  obtain ⟨p, hp⟩ := Int.eq_ofNat_of_zero_le a
  exact ⟨p, hp, by omega⟩
theorem zxh (c : Nat) (a b a' b' : Int) : (zed c a b).length = (zed c a' b').length := by
  rcases c with _ | _ | _ | _ | c <;> rfl
theorem zy1 (l : List Node) (hl : l.length ≤ 1000) (ok : okNs 0 l = true) : ∀ (d i j : Nat), i < d → i < l.length → j < l.length → ∃ c c', Ev (fun k => scW k l d i j) c ∧ Ev (fun k => icW k l d i j) c' ∧ Sg c c'
  | 0, _, _, h, _, _ => absurd h (by omega)
  | d + 1, i, j, hn, hi, hj => by
    simp only [scW, icW]
    by_cases q : i = j
    · subst q
      simp only [if_true]
      exact ⟨0, 0, zaq _, zaq _, Iff.rfl, Iff.rfl⟩
    have hx : zac l (i : Int) = l[i] := zh8 (zcy l i hi)
    have hy : zac l (j : Int) = l[j] := zh8 (zcy l j hj)
    have okx := zes l 0 i hi ok
    have oky := zes l 0 j hj ok
    rw [Nat.zero_add] at okx oky
    have qi : ¬ ((i : Int) = j) := by omega
    have qin : (0 ≤ (i : Int) ∧ (i : Int) < (l.length : Int)) ∧ 0 ≤ (j : Int) ∧ (j : Int) < (l.length : Int) := by omega
    simp only [if_neg qi, if_pos qin]
    rw [hx, hy]
    generalize l[i] = x at okx
    generalize l[j] = y at oky
    have mx := zw8 (fun c => zll okx c)
    have my := zw8 (fun c => zll oky c)
    have vx := zv1 okx
    have vy := zv1 oky
    have rx := ydu x.f0
    have ry := ydu y.f0
    simp only [zo4]
    by_cases o : x.f0 = y.f0
    · by_cases v : x.f3 = y.f3
      · have hl2 := (zgz okx).1
        have hlen : (zed (kN x.f0) x.f1 x.f2).length = (zed (kN y.f0) y.f1 y.f2).length := by rw [o]; exact zxh _ _ _ _ _
        obtain ⟨c, c', g1, g2, g3⟩ := yba (fun k => scW k l d) (fun k => icW k l d) (zed (kN x.f0) x.f1 x.f2) (zed (kN y.f0) y.f1 y.f2) hlen (fun t ht => by
          obtain ⟨p, hp, hp'⟩ := zu5 okx t ht
          obtain ⟨p2, hp2, hp2'⟩ := zu5 oky t (by omega)
          rw [hp, hp2]
          exact zy1 l hl ok d p p2 (by omega) (by omega) (by omega))
        refine ⟨c, c', zae o (zae v (Ev.bind (zio y) (Ev.bind (zio x) (zae (by omega) g1)))), ?_, g3⟩
        refine Ev.bind (zqx x.f0) (Ev.bind (zqx y.f0) (Ev.call (zkf _ _) (Ev.call (zkf _ _) (Ev.bind (yb9 _ _) (zae ?_ (Ev.bind (zvt x) (Ev.bind (zvt y) (zae (by omega) g2))))))))
        rw [o, v]
        simp
      · refine ⟨wrap64 (x.f3 - y.f3), _, zae o (zao v (zaq _)), Ev.bind (zqx x.f0) (Ev.bind (zqx y.f0) (Ev.call (zkf _ _) (Ev.call (zkf _ _) (Ev.bind (yb9 _ _) (zao ?_ (zaq _)))))), ?_⟩
        · rw [o]
          simp
          split
          · omega
          · split <;> omega
        · rw [w64 (by omega) (by omega), o]
          simp only [Int.lt_irrefl, gt_iff_lt, if_false, if_true]
          unfold Sg
          split
          · omega
          · split <;> omega
    · have hr : rk x.f0 ≠ rk y.f0 := fun e => o (ydt mx my e)
      refine ⟨wrap64 (rk x.f0 - rk y.f0), _, zao o (Ev.bind (zu4 _ mx) (Ev.bind (zu4 _ my) (zaq (wrap64 (rk x.f0 - rk y.f0))))), Ev.bind (zqx x.f0) (Ev.bind (zqx y.f0) (Ev.call (zkf _ _) (Ev.call (zkf _ _) (Ev.bind (yb9 _ _) (zao ?_ (zaq _)))))), ?_⟩
      · split
        · split at * <;> omega
        · split at * <;> omega
      · rw [w64 (by omega) (by omega)]
        unfold Sg
        split
        · split at * <;> omega
        · split at * <;> omega
theorem kN_io {s : ByteArray} (h : hasS ioOps s = true) : kN s = 3 := by
  have := (znz _ _).1 h
  unfold ioOps at this
  simp only [List.mem_cons, List.not_mem_nil, or_false] at this
  rcases this with rfl | rfl | rfl | rfl | rfl | rfl <;> decide +kernel
theorem zud : ∀ (xs : List Node) (i j : Nat) (y : Node), okNs i xs = true → okNx y ((i + j : Nat) : Int) = true → okNs i (xs.set j y) = true
  | [], _, _, _, h, _ => by simpa using h
  | x :: xs, i, 0, y, h, hy => by
    simp only [okNs, Bool.and_eq_true, List.set_cons_zero] at h ⊢
    exact ⟨hy, h.2⟩
  | x :: xs, i, j + 1, y, h, hy => by
    simp only [okNs, Bool.and_eq_true, List.set_cons_succ] at h ⊢
    exact ⟨h.1, zud xs (i + 1) j y h.2 (by rw [show i + 1 + j = i + (j + 1) by omega]; exact hy)⟩
theorem yca (out : List Node) (u : Nat) (hu : u < out.length) (hl : out.length ≤ 1000) (ok : okNs 0 out = true) : ∃ o, Ev (fun k => ioSt k out u) o ∧ Ev (fun k => vaSt k out u) o ∧ okNs 0 o = true ∧ o.length = out.length := by
  have hx : zac out (u : Int) = out[u] := zh8 (zcy out u hu)
  have okx := zes out 0 u hu ok
  rw [Nat.zero_add] at okx
  unfold ioSt vaSt
  rw [hx]
  generalize out[u] = x at okx
  have ht : Ev (fun k => zfb k x.f0) (hasS ioOps x.f0) := by
    unfold zfb
    exact Ev.bind (zuw ioOps x.f0 (by decide)) (zaq _)
  by_cases q : hasS ioOps x.f0 = true
  · have c3 := kN_io q
    obtain ⟨⟨e1, e2⟩, e4, e5⟩ := zth okx c3
    obtain ⟨p, hp⟩ := Int.eq_ofNat_of_zero_le e1
    obtain ⟨p', hp'⟩ := Int.eq_ofNat_of_zero_le e4
    obtain ⟨c, c', g1, g2, g3⟩ := zy1 out hl ok (p' + 1) p' p (by omega) (by omega) (by omega)
    replace g1 := ydv _ _ _ _ _ g1
    replace g2 := ydw _ _ _ _ _ g2
    rw [← hp, ← hp'] at g1 g2
    refine ⟨if c < 0 then out.set (u : Int).toNat ⟨x.f0, x.f2, x.f1, x.f3⟩ else out, Ev.bind (znt ioOps x.f0 (by decide)) (zae q (Ev.bind g2 (Ev.some ?_))), Ev.bind ht (zae q (Ev.bind g1 (zaq _))), ?_, ?_⟩
    · by_cases r : c < 0
      · rw [if_pos r, if_pos (g3.1.1 r)]
      · rw [if_neg r, if_neg (fun e => r (g3.1.2 e))]
    · split
      · rw [Int.toNat_natCast]
        refine zud out 0 u _ ok ?_
        rw [Nat.zero_add]
        unfold okNx at okx ⊢
        simp only
        rw [c3] at okx ⊢
        simp [okNd] at okx ⊢
        omega
      · exact ok
    · split <;> simp
  · exact ⟨out, Ev.bind (znt ioOps x.f0 (by decide)) (zao q (zaq _)), Ev.bind ht (zao q (zaq _)), ok, rfl⟩
theorem zsf : ∀ (d u : Nat) (out : List Node), u + d = out.length → out.length ≤ 1000 → okNs 0 out = true → ∃ o, Ev (fun k => ioL k d u out) o ∧ Ev (fun k => vaL k d u out) o ∧ okNs 0 o = true ∧ o.length = out.length
  | 0, u, out, _, _, ok => ⟨out, zaq _, zaq _, ok, rfl⟩
  | d + 1, u, out, h, hl, ok => by
    obtain ⟨o, a, b, c, e⟩ := yca out u (by omega) hl ok
    obtain ⟨o2, a2, b2, c2, e2⟩ := zsf d (u + 1) o (by omega) (by omega) c
    exact ⟨o2, Ev.bind a a2, Ev.bind b b2, c2, by omega⟩
theorem zxi (l : List Node) (h0 : 0 < l.length) (hl : l.length ≤ 1000) (ok : okNs 0 l = true) : ∃ R, Ev (fun k => zbo k l) R ∧ Ev (fun k => zdx k l) R ∧ okNs 0 R = true ∧ 0 < R.length ∧ R.length ≤ l.length := by
  obtain ⟨a, b, c⟩ := zyy h0 ok
  obtain ⟨o, d, e, f, g⟩ := zsf (shP l).length 0 (shP l) (by omega) (by omega) a
  obtain ⟨a', b', c'⟩ := zyy (l := o) (by omega) f
  refine ⟨shP o, ?_, ?_, a', b', by omega⟩
  · unfold zbo
    exact Ev.bind (zmk l h0 hl ok) (zae (by omega) (Ev.bind d (zmk o (by omega) (by omega) f)))
  · unfold zdx
    exact Ev.bind (zqv l h0 hl ok) (zae (by omega) (Ev.bind e (zqv o (by omega) (by omega) f)))
open Classical in
noncomputable def ordR (l : List Node) : List Node := if h : ∃ R, Ev (fun k => zbo k l) R then Classical.choose h else []
theorem zv2 (l : List Node) (h0 : 0 < l.length) (hl : l.length ≤ 1000) (ok : okNs 0 l = true) : Ev (fun k => zbo k l) (ordR l) ∧ Ev (fun k => zdx k l) (ordR l) ∧ okNs 0 (ordR l) = true ∧ 0 < (ordR l).length ∧ (ordR l).length ≤ l.length := by
  obtain ⟨R, a, b, c⟩ := zxi l h0 hl ok
  have h : ∃ R, Ev (fun k => zbo k l) R := ⟨R, a⟩
  have e : ordR l = R := by
    unfold ordR
    rw [dif_pos h]
    exact zt2 (Classical.choose_spec h) a
  rw [e]
  exact ⟨a, b, c⟩
theorem yac (n : Int) : bits .and .i64 n 63 = n % 64 := by
  have h63 : (BitVec.ofInt 64 63).toNat = 2 ^ 6 - 1 := by decide
  have key : (BitVec.ofInt 64 n &&& BitVec.ofInt 64 63).toNat = (n % ((2 ^ 64 : Nat) : Int)).toNat % 2 ^ 6 := by
    rw [BitVec.toNat_and, BitVec.toNat_ofInt, h63, Nat.and_two_pow_sub_one_eq_mod]
  show IntKind.i64.wrap ((BitVec.ofInt 64 n &&& BitVec.ofInt 64 63).toNat : Nat) = n % 64
  rw [key, IntKind.wrap_i64]
  omega
def okV (v : Int) : Prop := 0 ≤ v ∧ v ≤ 63
theorem ycb (n : Int) : okV (bits .and .i64 n 63) := by
  rw [yac]
  unfold okV
  omega
theorem ydx (b : Bool) : zl1 b = some (if b = true then 1 else 0) := by
  cases b <;> rfl
theorem zru (s : ByteArray) (a b : Int) : zgh s a b = zbr s a b := by
  unfold zgh zbr
  simp only [ydx, Option.bind_some]
  repeat refine ite_congr rfl (fun _ => rfl) (fun _ => ?_)
  refine ite_congr rfl (fun _ => ?_) (fun _ => ite_congr rfl (fun _ => ?_) (fun _ => rfl))
  · by_cases h : a < b
    · rw [if_pos h, if_pos (by simpa using h)]
    · rw [if_neg h, if_neg (by simpa using h)]
  · by_cases h : a = b
    · rw [if_pos h, if_pos (by simpa using h)]
    · rw [if_neg h, if_neg (by simpa using h)]
theorem ydy {c : Prop} [Decidable c] {x y : Option Int} {P : Int → Prop} (hx : ∃ v, x = some v ∧ P v) (hy : ∃ v, y = some v ∧ P v) : ∃ v, (if c then x else y) = some v ∧ P v := by
  by_cases h : c
  · rw [if_pos h]; exact hx
  · rw [if_neg h]; exact hy
theorem zn0 (s : ByteArray) (a b : Int) (hb : 0 ≤ b) : ∃ v, zbr s a b = some v ∧ okV v := by
  unfold zbr
  rw [if_pos hb, if_pos hb]
  repeat' refine ydy ?_ ?_
  all_goals exact ⟨_, rfl, ycb _⟩
def isC (s : ByteArray) : Bool := s.toList == ([99, 111, 110, 115, 116] : List UInt8)
def foV (x : Node) (out : List Node) : Int := (zbr x.f0 (zac out x.f1).f3 (if 1 < (prt x).length then (zac out x.f2).f3 else 0)).getD 0
def foC (x : Node) (out : List Node) : Bool := decide (0 < (prt x).length) && (prt x).all fun p => isC (zac out p).f0
def foSt (out : List Node) (u : Nat) : List Node := if foC (zac out (u : Int)) out = true then out.set u (fdC (foV (zac out (u : Int)) out)) else out
theorem zw9 (out : List Node) (u : Nat) : (foSt out u).length = out.length := by
  unfold foSt
  split <;> simp
theorem zue (out : List Node) : ∀ (ps : List Int) (b : Bool), (∀ p ∈ ps, 0 ≤ p ∧ p < (out.length : Int)) → efIn out ps b = some (b && ps.all fun p => isC (zac out p).f0)
  | [], b, _ => by simp [efIn]
  | p :: ps, b, h => by
    unfold efIn
    cases b with
    | true => rw [if_pos rfl, if_pos (h p (by simp)), zue out ps _ (fun q hq => h q (by simp [hq]))]; simp [isC]
    | false => rw [if_neg Bool.false_ne_true, zue out ps _ (fun q hq => h q (by simp [hq]))]; simp
theorem ifb (b c : Bool) : (if b = true then c else false) = (b && c) := by cases b <;> simp
theorem yad (x : Node) (out : List Node) (hp : ∀ p ∈ prt x, 0 ≤ p ∧ p < (out.length : Int)) : ∃ s, fdIn out (prt x) 0 [0, 0] (decide (0 < zju (kN x.f0))) = some (s, foC x out) ∧ (foC x out = true → rdOf 0 s 0 = (zac out x.f1).f3 ∧ rdOf 0 s 1 = if 1 < (prt x).length then (zac out x.f2).f3 else 0) := by
  unfold foC
  unfold prt at hp ⊢
  rcases zna x.f0 with c | c | c | c | c <;> rw [c] at hp ⊢ <;> simp only [zed, zju] at hp ⊢
  · exact ⟨[0, 0], by simp [fdIn], by simp⟩
  · exact ⟨[0, 0], by simp [fdIn], by simp⟩
  · have h1 := hp x.f1 (by simp)
    refine ⟨[(zac out x.f1).f3, 0], ?_, fun _ => ⟨rfl, rfl⟩⟩
    simp only [fdIn]
    rw [if_pos ⟨h1.1, h1.2, by omega⟩, ifb]
    simp [isC]
  · have h1 := hp x.f1 (by simp)
    have h2 := hp x.f2 (by simp)
    refine ⟨[(zac out x.f1).f3, (zac out x.f2).f3], ?_, fun _ => ⟨rfl, rfl⟩⟩
    simp only [fdIn]
    rw [if_pos ⟨h1.1, h1.2, by omega⟩, if_pos ⟨h2.1, h2.2, by omega⟩, ifb, ifb]
    simp [isC]
  · exact ⟨[0, 0], by simp [fdIn], by simp⟩
theorem ydz (v : Int) : kN (fdC v).f0 = 1 := by
  show kN (⟨#[99, 111, 110, 115, 116]⟩ : ByteArray) = 1
  decide +kernel
theorem ycc (out : List Node) (u : Nat) (hu : u < out.length) (ok : okNs 0 out = true) : Ev (fun k => fdSt k out u) (foSt out u) ∧ Ev (fun k => efSt k out u) (foSt out u) ∧ okNs 0 (foSt out u) = true := by
  have hx : zac out (u : Int) = out[u] := zh8 (zcy out u hu)
  have hok := zes out 0 u hu ok
  rw [Nat.zero_add] at hok
  unfold fdSt efSt foSt
  rw [hx]
  obtain ⟨x, ex⟩ : ∃ x, x = out[u] := ⟨_, rfl⟩
  rw [← ex] at hok ⊢
  have hp0 := (zgz hok).2
  have hp : ∀ p ∈ prt x, 0 ≤ p ∧ p < (out.length : Int) := fun p h => by have := hp0 p h; omega
  obtain ⟨s, hs, hv⟩ := yad x out hp
  have he := zue out (prt x) (decide (0 < (prt x).length)) hp
  have hval : ∀ p ∈ prt x, 0 ≤ (zac out p).f3 := fun p h => by
    obtain ⟨a, b⟩ := hp p h
    obtain ⟨q, rfl⟩ := Int.eq_ofNat_of_zero_le a
    have hq : q < out.length := by omega
    rw [zh8 (zcy out q hq)]
    exact (zv1 (zes out 0 q hq ok)).1
  by_cases hc : foC x out = true
  · have hc0 : 0 < (prt x).length := by
      unfold foC at hc
      simp only [Bool.and_eq_true, decide_eq_true_eq] at hc
      exact hc.1
    have hm1 : x.f1 ∈ prt x := by
      unfold prt at hc0 ⊢
      rcases zna x.f0 with c | c | c | c | c <;> rw [c] at hc0 ⊢ <;> simp [zed] at hc0 ⊢
    have hm2 : 1 < (prt x).length → x.f2 ∈ prt x := fun h => by
      unfold prt at h ⊢
      rcases zna x.f0 with c | c | c | c | c <;> rw [c] at h ⊢ <;> simp [zed] at h ⊢
    obtain ⟨v, ev, hvv⟩ := zn0 x.f0 (zac out x.f1).f3 (if 1 < (prt x).length then (zac out x.f2).f3 else 0) (by
      split
      · rename_i h
        exact hval _ (hm2 h)
      · omega)
    have hV : foV x out = v := by unfold foV; rw [ev]; rfl
    rw [if_pos hc, hV]
    refine ⟨?_, ?_, ?_⟩
    · refine Ev.bind (zkv x.f0) (Ev.bind (zvt x) (Ev.call hs (zae hc (Ev.call (a := v) ?_ (zaq _)))))
      obtain ⟨e0, e1⟩ := hv hc
      rw [e0, e1, zru]
      exact ev
    · refine Ev.bind (zio x) (Ev.call he (zae hc (zae ⟨hp _ hm1, fun h => hp _ (hm2 h)⟩ (Ev.call ev (zaq _)))))
    · refine zud out 0 u (fdC v) ok ?_
      unfold okNx
      rw [ydz]
      obtain ⟨a, b⟩ := hvv
      simp [okNd, fdC, a, b]
  · rw [if_neg hc]
    exact ⟨Ev.bind (zkv x.f0) (Ev.bind (zvt x) (Ev.call hs (zao hc (zaq _)))), Ev.bind (zio x) (Ev.call he (zao hc (zaq _))), ok⟩
def foL : Nat → Nat → List Node → List Node
  | 0, _, out => out
  | d + 1, u, out => foL d (u + 1) (foSt out u)
theorem zxa : ∀ (d u : Nat) (out : List Node), u + d = out.length → okNs 0 out = true → Ev (fun k => fdL k d u out) (foL d u out) ∧ Ev (fun k => efL k d u out) (foL d u out) ∧ okNs 0 (foL d u out) = true ∧ (foL d u out).length = out.length
  | 0, _, out, _, ok => ⟨zaq _, zaq _, ok, rfl⟩
  | d + 1, u, out, h, ok => by
    obtain ⟨a, b, c⟩ := ycc out u (by omega) ok
    obtain ⟨a', b', c', d'⟩ := zxa d (u + 1) (foSt out u) (by rw [zw9]; omega) c
    exact ⟨Ev.bind a a', Ev.bind b b', c', d'.trans (zw9 _ _)⟩
theorem yae (l : List Node) (hl : l.length ≤ 1000) : zfx l = some l := by
  unfold zfx
  rw [Option.bind_some, if_pos (by simp; omega)]
  simp
theorem zy2 (l : List Node) (h0 : 0 < l.length) (hl : l.length ≤ 1000) (ok : okNs 0 l = true) : ∃ e e', Ev (fun k => zfy k l) e ∧ Ev (fun k => zfm k l) e' ∧ (okNs 0 e = true ∧ 0 < e.length ∧ e.length ≤ l.length) ∧ (okNs 0 e' = true ∧ 0 < e'.length ∧ e'.length ≤ l.length) ∧ shP e = shP e' := by
  obtain ⟨a, b, c, d⟩ := zxa l.length 0 l (by omega) ok
  obtain ⟨e, he, hk⟩ := zyt (foL l.length 0 l) c (by omega) (l.length - 1) (by omega)
  obtain ⟨e', he', hk'⟩ := zyw (foL l.length 0 l) c (by omega) (l.length - 1) (by omega)
  have hi : (l.length : Int) - 1 = ((l.length - 1 : Nat) : Int) := by omega
  rw [← hi] at he he'
  refine ⟨e, e', ?_, ?_, ⟨hk.1, hk.2.1, by have := hk.2.2.1; omega⟩, ⟨hk'.1, hk'.2.1, by have := hk'.2.2.1; omega⟩, zti hk hk' rfl⟩
  · unfold zfy
    exact Ev.call (yae l hl) (zae (by omega) (Ev.bind a (zae d he)))
  · unfold zfm
    exact zae (by omega) (Ev.bind b (zae d he'))
theorem zy3 {l m : List Node} (h0 : 0 < l.length) (hl : l.length ≤ 1000) (ok : okNs 0 l = true) (h0' : 0 < m.length) (hl' : m.length ≤ 1000) (ok' : okNs 0 m = true) (hs : shP l = shP m) : Ev (fun k => zbo k l) (ordR m) ∧ Ev (fun k => zdx k m) (ordR m) := by
  refine ⟨?_, (zv2 m h0' hl' ok').2.1⟩
  obtain ⟨a, b, c⟩ := zyy h0 ok
  obtain ⟨o, d, e, f, g⟩ := zsf (shP l).length 0 (shP l) (by omega) (by omega) a
  have k1 : Ev (fun k => zbo k l) (shP o) := by
    unfold zbo
    exact Ev.bind (zmk l h0 hl ok) (zae (by omega) (Ev.bind d (zmk o (by omega) (by omega) f)))
  have k2 : Ev (fun k => zbo k m) (shP o) := by
    unfold zbo
    rw [hs] at b c d g
    exact Ev.bind (zmk m h0' hl' ok') (zae (by omega) (Ev.bind d (zmk o (by omega) (by omega) f)))
  rw [zt2 (zv2 m h0' hl' ok').1 k2]
  exact k1
open Classical in
noncomputable def plR (l : List Node) : List Node := if h : ∃ R, Ev (fun k => (zfy k l).bind fun e => zbo k e) R then Classical.choose h else []
theorem yd0 (l : List Node) (h0 : 0 < l.length) (hl : l.length ≤ 1000) (ok : okNs 0 l = true) : ∃ e e', Ev (fun k => zfy k l) e ∧ Ev (fun k => zfm k l) e' ∧ Ev (fun k => zbo k e) (plR l) ∧ Ev (fun k => zdx k e') (plR l) ∧ (plR l).length ≤ l.length := by
  obtain ⟨e, e', h, h', ⟨a, b, c⟩, ⟨a', b', c'⟩, hs⟩ := zy2 l h0 hl ok
  obtain ⟨p, q⟩ := zy3 b (by omega) a b' (by omega) a' hs
  have hR : plR l = ordR e' := by
    have hx : ∃ R, Ev (fun k => (zfy k l).bind fun e => zbo k e) R := ⟨_, Ev.bind h p⟩
    unfold plR
    rw [dif_pos hx]
    exact zt2 (Classical.choose_spec hx) (Ev.bind h p)
  rw [hR]
  exact ⟨e, e', h, h', p, q, by have := (zv2 e' b' (by omega) a').2.2.2.2; omega⟩
noncomputable def plS (l : List Instr) (r : Int) : List Node × Bool := if (symR l r).2 = true then (plR (symR l r).1, true) else ([], false)
theorem ybb (l : List Instr) (hl : l.length ≤ 100) (hok : ∀ x ∈ l, okI x) (r : Int) (h0 : 0 ≤ r) (h1 : r < 6) : Ev (fun k => zgj k l r) (plS l r) ∧ Ev (fun k => ze5 k l r) (plS l r) ∧ (plS l r).1.length ≤ 24 := by
  obtain ⟨a, b, c⟩ := yb8 l hl hok r h0 h1
  unfold zgj ze5 plS
  by_cases h : (symR l r).2 = true
  · obtain ⟨⟨p, q⟩, ok⟩ := zyk (c.symm.trans h)
    obtain ⟨e, e', f, f', g, g', hlen⟩ := yd0 (symR l r).1 (by omega) (by omega) ok
    simp only [if_pos h]
    exact ⟨Ev.bind a (zae h (Ev.bind f (Ev.bind g (zaq _)))), Ev.bind b (zae h (Ev.bind f' (Ev.bind g' (zaq _)))), by omega⟩
  · simp only [if_neg h]
    exact ⟨Ev.bind a (zao h (zaq _)), Ev.bind b (zao h (zaq _)), Nat.zero_le _⟩
def okS (s : List Int) : Prop := s.length = 6 ∧ ∀ v ∈ s, okV v
theorem zp4 {x : Instr} (h : okI x) : 0 ≤ x.f1 ∧ x.f1 ≤ 5 ∧ 0 ≤ x.f2 ∧ x.f2 ≤ 5 ∧ 0 ≤ x.f3 ∧ x.f3 ≤ 5 ∧ 0 ≤ x.f4 ∧ x.f4 ≤ 63 := by
  obtain ⟨hc, h1, h2, h3, h4⟩ := h
  rcases zr9 x.f0 with e | e | e | e | e | e | e | e | e <;> simp only [e, znr] at h2 h3 h4 <;> simp at h2 h3 h4 <;> first | omega | exact absurd e hc
theorem ybc {s : List Int} (h : okS s) {i : Int} (h0 : 0 ≤ i) (h1 : i ≤ 5) : okV (rd s i) := by
  have hi : i.toNat < s.length := by rw [h.1]; omega
  unfold rd
  rw [zcy s _ hi]
  exact h.2 _ (List.getElem_mem hi)
theorem ycd {s : List Int} (h : okS s) (i : Nat) {v : Int} (hv : okV v) : okS (s.set i v) := by
  refine ⟨by rw [List.length_set]; exact h.1, fun u hu => ?_⟩
  rcases List.mem_or_eq_of_mem_set hu with hu | rfl
  · exact h.2 u hu
  · exact hv
theorem yaf (x : Instr) (s : List Int) (h : okI x) (hs : okS s) : ∃ v, zft x.f0 x.f1 x.f2 x.f3 x.f4 s = some v ∧ okV v := by
  obtain ⟨h1, h1', h2, h2', h3, h3', h4, h4'⟩ := zp4 h
  have hl := hs.1
  have ha := ybc hs h2 h2'
  have hb := ybc hs h3 h3'
  unfold zft
  rw [if_pos h2, if_pos (by omega), if_pos h3, if_pos (by omega)]
  have one : ∀ t a b, 0 ≤ b → ∃ v, ((zbr t a b).bind fun v => some v) = some v ∧ okV v := fun t a b hb => by
    obtain ⟨v, e, hv⟩ := zn0 t a b hb
    exact ⟨v, by rw [e]; rfl, hv⟩
  by_cases qset : x.f0.toList = ([115, 101, 116] : List UInt8)
  · rw [if_pos qset]
    exact ⟨_, rfl, h4, h4'⟩
  rw [if_neg qset]
  by_cases qmov : x.f0.toList = ([109, 111, 118] : List UInt8)
  · rw [if_pos qmov]
    exact ⟨_, rfl, ha⟩
  rw [if_neg qmov]
  by_cases qaddi : x.f0.toList = ([97, 100, 100, 105] : List UInt8)
  · rw [if_pos qaddi]
    exact one _ _ _ h4
  rw [if_neg qaddi]
  by_cases qandi : x.f0.toList = ([97, 110, 100, 105] : List UInt8)
  · rw [if_pos qandi]
    exact one _ _ _ h4
  rw [if_neg qandi]
  by_cases qxori : x.f0.toList = ([120, 111, 114, 105] : List UInt8)
  · rw [if_pos qxori]
    exact one _ _ _ h4
  rw [if_neg qxori]
  by_cases qshli : x.f0.toList = ([115, 104, 108, 105] : List UInt8)
  · rw [if_pos qshli]
    exact one _ _ _ h4
  rw [if_neg qshli]
  by_cases qshri : x.f0.toList = ([115, 104, 114, 105] : List UInt8)
  · rw [if_pos qshri]
    exact one _ _ _ h4
  rw [if_neg qshri]
  by_cases qlea : x.f0.toList = ([108, 101, 97] : List UInt8)
  · rw [if_pos qlea]
    obtain ⟨v, e, hv⟩ := zn0 (⟨#[115, 104, 108]⟩ : ByteArray) (rd s x.f3) x.f4 h4
    obtain ⟨v', e', hv'⟩ := zn0 (⟨#[97, 100, 100]⟩ : ByteArray) (rd s x.f2) v hv.1
    exact ⟨v', by rw [e, Option.bind_some, e']; rfl, hv'⟩
  rw [if_neg qlea]
  exact one _ _ _ hb.1
def valM (x : Instr) (s : List Int) : Int := (zft x.f0 x.f1 x.f2 x.f3 x.f4 s).getD 0
def yce (s : List Int) (x : Instr) : List Int := s.set x.f1.toNat (valM x s)
theorem zv3 (x : Instr) (s : List Int) (h : okI x) (hs : okS s) : zft x.f0 x.f1 x.f2 x.f3 x.f4 s = some (valM x s) ∧ okV (valM x s) := by
  obtain ⟨v, e, hv⟩ := yaf x s h hs
  unfold valM
  rw [e]
  exact ⟨rfl, hv⟩
theorem zuf (x : Instr) (s : List Int) (h : okI x) (hs : okS s) : okS (yce s x) := ycd hs _ (zv3 x s h hs).2
theorem cut3 {s : ByteArray} {a b c d : UInt8} (h : s.toList = [a, b, c, d]) : (3 : Int) ≤ (s.size : Int) ∧ s.extract 0 3 = ⟨#[a, b, c]⟩ := by
  have e : s = ⟨#[a, b, c, d]⟩ := str_lit.1 h
  rw [e]
  exact ⟨by show (3 : Int) ≤ ((4 : Nat) : Int); decide, rfl⟩
theorem ycf (x : Instr) (s : List Int) (h : okI x) (hs : okS s) : Ev (fun k => zeb k x.f0 x.f1 x.f2 x.f3 x.f4 (rd s x.f2) (rd s x.f3)) (valM x s) := by
  obtain ⟨h1, h1', h2, h2', h3, h3', h4, h4'⟩ := zp4 h
  have hl := hs.1
  have e := (zv3 x s h hs).1
  generalize valM x s = v at e
  unfold zft at e
  rw [if_pos h2, if_pos (by omega), if_pos h3, if_pos (by omega)] at e
  have bs : ∀ (o : Option Int) r, (o.bind fun v => some v) = some r → o = some r := fun o r h => by
    cases o with
    | none => cases h
    | some y => exact h
  unfold zeb
  by_cases q1 : x.f0.toList = [115, 101, 116]
  · rw [if_pos q1] at e
    exact zae q1 (Ev.const e)
  refine zao q1 ?_
  rw [if_neg q1] at e
  by_cases q2 : x.f0.toList = [109, 111, 118]
  · rw [if_pos q2] at e
    exact zae q2 (Ev.const e)
  refine zao q2 ?_
  rw [if_neg q2] at e
  by_cases q3 : x.f0.toList = [108, 101, 97]
  · refine zae q3 (Ev.const ?_)
    rw [if_neg (by rw [q3]; decide), if_neg (by rw [q3]; decide), if_neg (by rw [q3]; decide), if_neg (by rw [q3]; decide), if_neg (by rw [q3]; decide), if_pos q3] at e
    simp only [zru]
    exact e
  refine zao q3 ?_
  have imm : ∀ a b c d : UInt8, x.f0.toList = [a, b, c, d] → zbr ⟨#[a, b, c]⟩ (rd s x.f2) x.f4 = some v → Ev (fun k => zbj k (rd s x.f2) (rd s x.f3) (x.f0.toList == ([a, b, c, d] : List UInt8)) x.f0 x.f1 x.f2 x.f3 x.f4) v := fun a b c d q hv => by
    obtain ⟨hc, hc'⟩ := cut3 q
    refine Ev.step (fun k => by simp only [zbj]; rfl) (zae (by rw [q]; simp) (zae (by decide) (zae hc (Ev.const ?_))))
    rw [zru, hc', hv]
    rfl
  by_cases q4 : x.f0.toList = [97, 100, 100, 105]
  · rw [if_pos q4] at e
    exact zae q4 (imm _ _ _ _ q4 (bs _ _ e))
  refine zao q4 ?_
  rw [if_neg q4] at e
  by_cases q5 : x.f0.toList = [97, 110, 100, 105]
  · rw [if_pos q5] at e
    exact zae q5 (imm _ _ _ _ q5 (bs _ _ e))
  refine zao q5 ?_
  rw [if_neg q5] at e
  by_cases q6 : x.f0.toList = [120, 111, 114, 105]
  · rw [if_pos q6] at e
    exact zae q6 (imm _ _ _ _ q6 (bs _ _ e))
  refine zao q6 ?_
  rw [if_neg q6] at e
  by_cases q7 : x.f0.toList = [115, 104, 108, 105]
  · rw [if_pos q7] at e
    exact zae q7 (imm _ _ _ _ q7 (bs _ _ e))
  refine zao q7 ?_
  rw [if_neg q7] at e
  by_cases q8 : x.f0.toList = [115, 104, 114, 105]
  · rw [if_pos q8] at e
    exact imm _ _ _ _ q8 (bs _ _ e)
  rw [if_neg q8, if_neg q3] at e
  refine Ev.step (fun k => by simp only [zbj]; rfl) (zao (by simpa using q8) (Ev.const ?_))
  rw [zru, bs _ _ e]
  rfl
def runM (l : List Instr) (s : List Int) : List Int := l.foldl yce s
theorem ycg (l : List Instr) (h : ∀ x ∈ l, okI x) : ∀ s, okS s → okS (runM l s) := by
  induction l with
  | nil => exact fun s hs => hs
  | cons x l ih => exact fun s hs => ih (fun y hy => h y (List.mem_cons_of_mem _ hy)) _ (zuf x s (h x (List.mem_cons_self)) hs)
theorem yd1 (l : List Instr) (hl : l.length ≤ 40) (h : ∀ x ∈ l, okI x) (s : List Int) (hs : okS s) : Ev (fun k => zii k l s) (runM l s) := by
  unfold zii
  have key : ∀ (d i : Nat) (s : List Int), okS s → i + d = l.length → Ev (fun k => zff k s l l.length i) (runM (l.drop i) s) := by
    intro d
    induction d with
    | zero =>
      intro i s hs hi
      refine Ev.step (f := fun _ => some s) (fun k => ?_) (Ev.some ?_)
      · simp only [zff]
        rw [if_neg (by omega)]
      · rw [List.drop_of_length_le (by omega)]
        rfl
    | succ d ih =>
      intro i s hs hi
      have hlt : i < l.length := by omega
      have e : l.drop i = l[i] :: l.drop (i + 1) := List.drop_eq_getElem_cons hlt
      have hx := zr6 (zcy l i hlt)
      have ok := h l[i] (List.getElem_mem hlt)
      obtain ⟨h1, h1', h2, h2', h3, h3', h4, h4'⟩ := zp4 ok
      have hq := hs.1
      rw [e]
      refine Ev.step (fun k => by simp only [zff, hx]; rfl) ?_
      refine zae (by omega) (zae (by omega) (zae (by omega) (zae h2 (zae (by omega) (zae h3 (zae (by omega) ?_))))))
      refine Ev.bind (ycf l[i] s ok hs) ?_
      refine zae h1 (zae (by omega) ?_)
      rw [w64n i (by omega)]
      exact ih (i + 1) _ (zuf _ s ok hs) (by omega)
  simpa using key l.length 0 s hs (by omega)
theorem ybd (l : List Int) (h : l.length ≤ 1048576) : zim l = some l := by
  unfold zim
  rw [Option.bind_some, if_pos (by simp; omega)]
  rfl
theorem zy4 (x : Instr) (s : List Int) (h : okI x) (hs : okS s) : ziy x.f0 x.f1 x.f2 x.f3 x.f4 s = some (yce s x) := by
  obtain ⟨h1, h1', h2, h2', h3, h3', h4, h4'⟩ := zp4 h
  have hq := hs.1
  unfold ziy
  rw [ybd s (by omega), Option.bind_some, (zv3 x s h hs).1, Option.bind_some, if_pos h1, if_pos (by omega)]
  rfl
theorem yag (l : List Instr) (hl : l.length ≤ 40) (h : ∀ x ∈ l, okI x) (s : List Int) (hs : okS s) : Ev (fun k => zg6 k l s) (runM l s) := by
  unfold zg6
  refine Ev.call (ybd s (by rw [hs.1]; decide)) ?_
  have key : ∀ (d i : Nat) (s : List Int), okS s → i + d = l.length → Ev (fun k => zd3 k s l l.length i) (runM (l.drop i) s) := by
    intro d
    induction d with
    | zero =>
      intro i s hs hi
      refine Ev.step (f := fun _ => some s) (fun k => ?_) (Ev.some ?_)
      · simp only [zd3]
        rw [if_neg (by omega)]
      · rw [List.drop_of_length_le (by omega)]
        rfl
    | succ d ih =>
      intro i s hs hi
      have hlt : i < l.length := by omega
      have e : l.drop i = l[i] :: l.drop (i + 1) := List.drop_eq_getElem_cons hlt
      have hx := zr6 (zcy l i hlt)
      have ok := h l[i] (List.getElem_mem hlt)
      rw [e]
      refine Ev.step (fun k => ?_) (ih (i + 1) _ (zuf _ s ok hs) (by omega))
      simp only [zd3, hx]
      rw [if_pos (by omega), if_pos (by omega), if_pos (by omega), zy4 _ s ok hs, Option.bind_some, w64n i (by omega)]
  simpa using key l.length 0 s hs (by omega)
def st0 (a b : Int) : List Int := [a, b, 0, 0, 0, 0]
theorem zy5 {a b : Int} (ha : okV a) (hb : okV b) : okS (st0 a b) := by
  refine ⟨rfl, fun v hv => ?_⟩
  have hz : okV 0 := by unfold okV; decide
  simp only [st0, List.mem_cons, List.not_mem_nil, or_false] at hv
  rcases hv with rfl | rfl | rfl | rfl | rfl | rfl <;> assumption
def endM (l : List Instr) (a b : Int) : List Int := runM l (st0 a b)
theorem zu6 (l : List Instr) (hl : l.length ≤ 40) (h : ∀ x ∈ l, okI x) {a b : Int} (ha : okV a) (hb : okV b) : Ev (fun k => zfj k l a b) (endM l a b) := by
  unfold zfj
  refine zae (by decide) (Ev.call rfl (zae (by decide) (zae (by decide) ?_)))
  exact Ev.bind (yd1 l hl h (st0 a b) (zy5 ha hb)) (zaq _)
theorem zxj (a b : Int) : zjf a b = some (st0 a b) := rfl
def zug (l : List Instr) (x0 n : Nat) : List (List Int) := (List.range n).map fun x1 : Nat => endM l x0 x1
def zjv (l : List Instr) (n : Nat) : List (List Int) := (List.range n).flatMap fun x0 => zug l x0 64
theorem zxk (l : List Instr) (x0 n : Nat) : zug l x0 (n + 1) = zug l x0 n ++ [endM l x0 n] := by simp [zug, List.range_succ]
theorem ztm (l : List Instr) (n : Nat) : zjv l (n + 1) = zjv l n ++ zug l n 64 := by simp [zjv, List.range_succ]
theorem zu7 (l : List Instr) (x0 n : Nat) : (zug l x0 n).length = n := by simp [zug]
theorem zp5 (l : List Instr) (n : Nat) : (zjv l n).length = 64 * n := by
  induction n with
  | zero => rfl
  | succ n ih => rw [ztm, List.length_append, ih, zu7]; omega
theorem zu8 (l : List Instr) (hl : l.length ≤ 40) (h : ∀ x ∈ l, okI x) : Ev (fun k => zfo k l) (zjv l 64) := by
  unfold zfo
  have inner : ∀ (i : Nat), i < 64 → (Ev (fun k => zc3 k l (zjv l (i + 1)) ((i + 1 : Nat) : Int)) (zjv l 64)) → ∀ (d j : Nat), j + d = 64 → Ev (fun k => zdp k l (zjv l i ++ zug l i j) i j) (zjv l 64) := by
    intro i hi H d
    induction d with
    | zero =>
      intro j hj
      have e : j = 64 := by omega
      subst e
      refine Ev.step (fun k => ?_) H
      simp only [zdp]
      rw [if_neg (by omega), w64n i (by omega), ztm]
    | succ d ih =>
      intro j hj
      refine Ev.step (fun k => by simp only [zdp]; rfl) (zae (by omega) (Ev.call (zxj _ _) ?_))
      refine Ev.bind (yag l hl h _ (zy5 (by unfold okV; omega) (by unfold okV; omega))) ?_
      refine zae (by rw [List.length_append, zp5, zu7]; omega) ?_
      have := ih (j + 1) (by omega)
      rw [zxk, ← List.append_assoc] at this
      rw [w64n j (by omega)]
      exact this
  have outer : ∀ (d i : Nat), i + d = 64 → Ev (fun k => zc3 k l (zjv l i) i) (zjv l 64) := by
    intro d
    induction d with
    | zero =>
      intro i hi
      have e : i = 64 := by omega
      subst e
      refine Ev.step (f := fun _ => some (zjv l 64)) (fun k => ?_) (zaq _)
      simp only [zc3]
      rw [if_neg (by omega)]
    | succ d ih =>
      intro i hi
      have := inner i (by omega) (ih (i + 1) (by omega)) 64 0 (by omega)
      refine Ev.step (fun k => ?_) this
      simp only [zc3]
      rw [if_pos (by omega)]
      simp [zug]
  simpa [zjv] using outer 64 0 (by omega)
theorem zu9 {α : Type} (f : Nat → Nat → α) (n : Nat) : (List.range n).flatMap (fun i => (List.range 64).map (fun j => f i j)) = (List.range (64 * n)).map (fun i => f (i / 64) (i % 64)) := by
  induction n with
  | zero => rfl
  | succ n ih =>
    rw [show List.range (n + 1) = List.range n ++ [n] from List.range_succ, List.flatMap_append, ih, show 64 * (n + 1) = 64 * n + 64 by omega, List.range_add, List.map_append, List.map_map]
    congr 1
    rw [List.flatMap_singleton]
    refine List.map_congr_left fun j hj => ?_
    have := List.mem_range.1 hj
    show f n j = f ((64 * n + j) / 64) ((64 * n + j) % 64)
    rw [show (64 * n + j) / 64 = n by omega, show (64 * n + j) % 64 = j by omega]
def endI (l : List Instr) (i : Nat) : List Int := endM l ((i / 64 : Nat) : Int) ((i % 64 : Nat) : Int)
theorem yah (l : List Instr) : zjv l 64 = (List.range 4096).map (endI l) := zu9 (fun x0 x1 => endM l x0 x1) 64
theorem zuh (l : List Instr) (h : ∀ x ∈ l, okI x) (i : Nat) (hi : i < 4096) : okS (endI l i) := ycg l h _ (zy5 (by unfold okV; omega) (by unfold okV; omega))
def zva (s t : List Int) : List Int → Option Int
  | [] => none
  | w :: ws => if rd s w = rd t w then zva s t ws else some w
def witM (l m : List Instr) (ws : List Int) : Nat → Nat → List Int × Bool
  | 0, _ => ([], false)
  | d + 1, i => match zva (endI l i) (endI m i) ws with
    | some w => ([((i / 64 : Nat) : Int), ((i % 64 : Nat) : Int), w], true)
    | none => witM l m ws d (i + 1)
def okW (ws : List Int) : Prop := ws.length ≤ 1048576 ∧ ∀ w ∈ ws, 0 ≤ w ∧ w ≤ 5
theorem yd2 {xs : List (List Int)} {i : Nat} {x : List Int} (h : ∀ d, xs.getD i d = x) : znc xs i = x := by unfold znc; rw [Int.toNat_natCast]; exact h _
theorem zxb (l : List Instr) (i : Nat) (hi : i < 4096) : znc (zjv l 64) i = endI l i := by
  refine yd2 fun d => ?_
  rw [yah]
  simp [List.getD, List.getElem?_map, List.getElem?_range hi]
theorem yai (l m : List Instr) (hl : ∀ x ∈ l, okI x) (hm : ∀ x ∈ m, okI x) (ws : List Int) (hw : okW ws) : Ev (fun k => zeq k (zjv l 64) (zjv m 64) ws) (witM l m ws 4096 0) := by
  unfold zeq
  have key : ∀ (d i : Nat), i + d = 4096 → Ev (fun k => zb9 k (zjv m 64) ws (zjv l 64) ((zjv l 64).length : Nat) i) (witM l m ws d i) := by
    intro d
    induction d with
    | zero =>
      intro i hi
      refine Ev.step (f := fun _ => some ([], false)) (fun k => ?_) (zaq _)
      simp only [zb9]
      rw [if_neg (by rw [zp5]; omega)]
    | succ d ih =>
      intro i hi
      have Hl := (zuh l hl i (by omega)).1
      have Hm := (zuh m hm i (by omega)).1
      have L1 : (zjv l 64).length = 4096 := zp5 l 64
      have L2 : (zjv m 64).length = 4096 := zp5 m 64
      refine Ev.step (fun k => by simp only [zb9, zxb l i (by omega)]; rfl) (zae (by omega) (zae (by omega) (zae (by omega) ?_)))
      refine zox (s := witM l m ws (d + 1) i) (zku (σ := Unit) ws (fun k _ j => zcb k (zjv m 64) ws i (endI l i) (zjv l 64) ((zjv l 64).length : Nat) i ws ws.length j) (fun rest _ => match zva (endI l i) (endI m i) rest with
        | some w => ([((i / 64 : Nat) : Int), ((i % 64 : Nat) : Int), w], true)
        | none => witM l m ws d (i + 1)) (fun _ => ?_) (fun j _ x rest hj hx H => ?_) ()) rfl
      · refine Ev.step (fun k => ?_) (ih (i + 1) (by omega))
        simp only [zcb]
        rw [if_neg (by omega), w64n i (by omega)]
      · have hr := zps hx
        have hb : 0 ≤ x ∧ x ≤ 5 := hw.2 x (by
          have := hx 0
          rw [zcy ws j hj] at this
          rw [← this]
          exact List.getElem_mem hj)
        have hlen := hw.1
        refine Ev.step (fun k => by simp only [zcb, hr, zxb m i (by omega)]; rfl) ?_
        refine zae (by omega) (zae (by omega) (zae (by omega) (zae hb.1 (zae (by omega) (zae (by omega) (zae (by omega) (zae (by omega) ?_)))))))
        by_cases q : rd (endI l i) x = rd (endI m i) x
        · refine zae q ?_
          rw [w64n j (by omega)]
          simp only [zva, if_pos q]
          exact H ()
        · refine zao q (Ev.some ?_)
          simp only [zva, if_neg q]
          rw [show Int.tdiv (i : Int) 64 = ((i / 64 : Nat) : Int) from rfl, show Int.tmod (i : Int) 64 = ((i % 64 : Nat) : Int) from rfl, w64 (by omega) (by omega)]
  simpa using key 4096 0 (by omega)
def zkx : List Int → Bool
  | a :: b :: r => decide (a < b) && zkx (b :: r)
  | _ => true
def inR (w : Int) : Bool := decide (0 ≤ w ∧ w ≤ 5)
def zvb (ws : List Int) : Bool := zkx ws && ws.all inR
def rngR (a b : Int) : Option Int → List Int → Bool
  | _, [] => true
  | p, y :: ys => decide (a ≤ y ∧ y ≤ b) && (match p with | none => true | some q => decide (q < y)) && rngR a b (some y) ys
theorem zy6 (a b : Int) (ys : List Int) : ∀ p, rngR a b (some p) ys = (zkx (p :: ys) && ys.all (fun y => decide (a ≤ y ∧ y ≤ b))) := by
  induction ys with
  | nil => intro p; rfl
  | cons y ys ih =>
    intro p
    simp only [rngR, ih, zkx, List.all_cons]
    cases decide (a ≤ y ∧ y ≤ b) <;> cases decide (p < y) <;> simp
theorem zy7 (a b : Int) (ys : List Int) : rngR a b none ys = (zkx ys && ys.all (fun y => decide (a ≤ y ∧ y ≤ b))) := by
  cases ys with
  | nil => rfl
  | cons y ys =>
    simp only [rngR, zy6, List.all_cons]
    cases decide (a ≤ y ∧ y ≤ b) <;> simp
theorem zv4 (ws : List Int) (a b : Int) (h : ws.length ≤ 1048576) : Ev (fun k => zfc k ws a b) (zkx ws && ws.all (fun y => decide (a ≤ y ∧ y ≤ b))) := by
  rw [← zy7]
  unfold zfc
  have key : ∀ (d i : Nat) (p : Option Int), (i = 0 → p = none) → (0 < i → p = some (rd ws ((i - 1 : Nat) : Int))) → i + d = ws.length → Ev (fun k => zb0 k ws a b ws ws.length i) (rngR a b p (ws.drop i)) := by
    intro d
    induction d with
    | zero =>
      intro i p hp hp' hi
      refine Ev.step (f := fun _ => some true) (fun k => ?_) (Ev.some ?_)
      · simp only [zb0]
        rw [if_neg (by omega)]
      · rw [List.drop_of_length_le (by omega)]
        rfl
    | succ d ih =>
      intro i p hp hp' hi
      have hlt : i < ws.length := by omega
      have e : ws.drop i = ws[i] :: ws.drop (i + 1) := List.drop_eq_getElem_cons hlt
      have hx := zps (zcy ws i hlt)
      have next := ih (i + 1) (some ws[i]) (by omega) (fun _ => by rw [show ((i + 1 - 1 : Nat) : Int) = (i : Int) by omega, hx]) (by omega)
      rw [e]
      refine Ev.step (fun k => by simp only [zb0, hx]; rfl) (zae (by omega) (zae (by omega) (zae (by omega) (Ev.call (zns _ _ _) ?_))))
      by_cases q : a ≤ ws[i] ∧ ws[i] ≤ b
      · refine zae (by simpa using q) ?_
        by_cases hz : i = 0
        · subst hz
          rw [hp rfl]
          refine zao (by omega) ?_
          rw [w64n 0 (by omega)]
          refine zox next ?_
          simp only [rngR]
          rw [decide_eq_true q]
          rfl
        · refine zae (by omega) ?_
          rw [show wrap64 ((i : Int) - 1) = ((i - 1 : Nat) : Int) by rw [w64 (by omega) (by omega)]; omega]
          refine zae (by omega) (zae (by omega) ?_)
          rw [hp' (by omega)]
          by_cases u : rd ws ((i - 1 : Nat) : Int) ≥ ws[i]
          · refine zae u (Ev.some ?_)
            simp only [rngR]
            rw [decide_eq_false (show ¬ rd ws ((i - 1 : Nat) : Int) < ws[i] by omega)]
            simp
          · refine zao u ?_
            rw [w64n i (by omega)]
            refine zox next ?_
            simp only [rngR]
            rw [decide_eq_true q, decide_eq_true (show rd ws ((i - 1 : Nat) : Int) < ws[i] by omega)]
            rfl
      · refine zao (by simpa using q) (Ev.some ?_)
        simp only [rngR]
        rw [decide_eq_false q]
        rfl
  simpa using key ws.length 0 none (fun _ => rfl) (by omega) (by omega)
theorem zv5 (ws : List Int) (h : ws.length ≤ 1048576) : Ev (fun k => zfd k ws) (zvb ws) := by
  unfold zfd
  exact Ev.bind (zv4 ws 0 5 h) (zaq _)
theorem zv6 (ws : List Int) (h : ws.length ≤ 1048576) : Ev (fun k => ze7 k ws) (zkx ws) := by
  unfold ze7
  have key : ∀ (d i : Nat), i + 1 + d = ws.length → Ev (fun k => zby k ws ((i + 1 : Nat) : Int)) (zkx (ws.drop i)) := by
    intro d
    induction d with
    | zero =>
      intro i hi
      have hlt : i < ws.length := by omega
      have e : ws.drop i = ws[i] :: ws.drop (i + 1) := List.drop_eq_getElem_cons hlt
      refine Ev.step (f := fun _ => some true) (fun k => ?_) (Ev.some ?_)
      · simp only [zby]
        rw [if_neg (by omega)]
      · rw [e, List.drop_of_length_le (by omega)]
        rfl
    | succ d ih =>
      intro i hi
      have hlt : i < ws.length := by omega
      have hlt' : i + 1 < ws.length := by omega
      have e : ws.drop i = ws[i] :: ws.drop (i + 1) := List.drop_eq_getElem_cons hlt
      have e' : ws.drop (i + 1) = ws[i + 1] :: ws.drop (i + 1 + 1) := List.drop_eq_getElem_cons hlt'
      refine Ev.step (fun k => by simp only [zby, zps (zcy ws (i + 1) hlt'), show wrap64 (((i + 1 : Nat) : Int) - 1) = (i : Int) by rw [w64 (by omega) (by omega)]; omega, zps (zcy ws i hlt)]; rfl) (zae (by omega) (zae (by omega) (zae (by omega) (zae (by omega) ?_))))
      rw [e, e']
      by_cases q : ws[i + 1] ≤ ws[i]
      · refine zae q (Ev.some ?_)
        simp only [zkx]
        rw [decide_eq_false (by omega)]
        rfl
      · refine zao q ?_
        rw [w64n (i + 1) (by omega)]
        refine zox (ih (i + 1) (by omega)) ?_
        rw [e']
        simp only [zkx]
        rw [decide_eq_true (show ws[i] < ws[i + 1] by omega)]
        rfl
  cases ws with
  | nil =>
    refine Ev.step (f := fun _ => some true) (fun k => ?_) (zaq _)
    simp only [zby]
    rw [if_neg (by simp)]
  | cons w ws =>
    have := key ws.length 0 (by simp; omega)
    simpa using this
theorem zvc (ws : List Int) (h : ws.length ≤ 1048576) : Ev (fun k => zen k ws) (zvb ws) := by
  unfold zen zvb
  refine Ev.bind (zv6 ws h) ?_
  by_cases hr : zkx ws = true
  · refine zae hr ?_
    rw [hr, Bool.true_and]
    have hs : Ev (fun k => za2 k ws) (idx (fun x => !inR x) ws) := by
      unfold za2
      refine zme ws _ (fun k i => zal k ws ws.length i) ?_ (fun i x hi hx hp => ?_) (fun i x r hi hx hp hr => ?_)
      · refine Ev.step (f := fun _ => some (-1)) (fun k => ?_) (zaq _)
        simp only [zal]
        rw [if_neg (by omega)]
      · refine Ev.step (f := fun _ => some (i : Int)) (fun k => ?_) (zaq _)
        simp only [zal, zf9, zps hx, zpv, Option.bind_some]
        rw [if_pos (by omega), if_pos (by omega), if_pos (by omega), if_pos (show (!decide (0 ≤ x ∧ x ≤ 5)) = true from hp)]
      · refine Ev.step (fun k => ?_) hr
        simp only [zal, zf9, zps hx, zpv, Option.bind_some]
        rw [if_pos (by omega), if_pos (by omega), if_pos (by omega), if_neg (show ¬ (!decide (0 ≤ x ∧ x ≤ 5)) = true from fun e => by rw [show (!decide (0 ≤ x ∧ x ≤ 5)) = false from hp] at e; cases e), w64n i (by omega)]
    unfold za4
    refine Ev.bind (Ev.bind hs (zaq _)) (Ev.some ?_)
    have e := zi9 (fun x => !inR x) ws
    by_cases hc : 0 ≤ idx (fun x => !inR x) ws
    · obtain ⟨x, hx, hx'⟩ := e.1 hc
      rw [decide_eq_true (show idx (fun x => !inR x) ws ≥ 0 from hc)]
      symm
      simpa using ⟨x, hx, by simpa using hx'⟩
    · rw [decide_eq_false (show ¬ idx (fun x => !inR x) ws ≥ 0 from hc)]
      symm
      have := fun h => hc (e.2 h)
      simpa using this
  · refine zao hr (Ev.some ?_)
    rw [Bool.eq_false_iff.2 hr]
    rfl
def zky (l m : List Instr) (ws : List Int) : Bool := zjt l && (zjt m && zvb ws)
theorem zln (l m : List Instr) (ws : List Int) (h : ws.length ≤ 1048576) : Ev (fun k => zcx k l m ws) (zky l m ws) := by
  unfold zcx zky
  refine Ev.bind (zte l) ?_
  cases zjt l
  · exact zao (by decide) (zaq _)
  refine zae rfl (Ev.bind (zte m) ?_)
  cases zjt m
  · exact zao (by decide) (zaq _)
  exact zae rfl (Ev.bind (zvc ws h) (zaq _))
theorem zy8 (l m : List Instr) (ws : List Int) (h : ws.length ≤ 1048576) : Ev (fun k => zgv k l m ws) (zky l m ws) := by
  unfold zgv zky
  refine Ev.bind (ztj l) ?_
  cases zjt l
  · exact zao (by decide) (zaq _)
  refine zae rfl (Ev.bind (ztj m) ?_)
  cases zjt m
  · exact zao (by decide) (zaq _)
  exact zae rfl (Ev.bind (zv5 ws h) (zaq _))
theorem zsg {l m : List Instr} {ws : List Int} (h : zky l m ws = true) (hw : ws.length ≤ 1048576) : (l.length ≤ 20 ∧ ∀ x ∈ l, okI x) ∧ (m.length ≤ 20 ∧ ∀ x ∈ m, okI x) ∧ okW ws := by
  unfold zky zvb at h
  simp only [Bool.and_eq_true, List.all_eq_true] at h
  exact ⟨ztd h.1, ztd h.2.1, hw, fun w hq => by simpa [inR] using h.2.2.2 w hq⟩
def neN (x y : Node) : Bool := !((x.f0.toList == y.f0.toList)) || (!((x.f1 == y.f1)) || (!((x.f2 == y.f2)) || (!((x.f3 == y.f3)))))
def smL : List Node → List Node → Bool
  | [], [] => true
  | x :: xs, y :: ys => if neN x y = true then false else smL xs ys
  | _, _ => false
def smN (l m : List Node) : Bool := if l.length = m.length then smL l m else false
theorem zy9 (l m : List Node) (hl : l.length ≤ 1000) (hm : l.length = m.length) : ∀ (d i : Nat), i + d = l.length → Ev (fun k => zci k l m l.length i) (smL (l.drop i) (m.drop i))
  | 0, i, h => by
    rw [List.drop_of_length_le (by omega), List.drop_of_length_le (by omega)]
    exact Ev.step (fun k => by simp only [zci]; rfl) (zao (by omega) (zaq _))
  | d + 1, i, h => by
    have hi : i < l.length := by omega
    have hj : i < m.length := by omega
    have H := zy9 l m hl hm d (i + 1) (by omega)
    rw [← w64n i (by omega)] at H
    rw [List.drop_eq_getElem_cons hi, List.drop_eq_getElem_cons hj]
    refine Ev.step (fun k => by simp only [zci, zh8 (zcy l i hi), zh8 (zcy m i hj)]; rfl) (zae (by omega) (zae (by omega) (zae (by omega) (zae (by omega) ?_))))
    unfold smL
    by_cases q : neN l[i] m[i] = true
    · rw [if_pos q]
      exact zae q (zaq _)
    · rw [if_neg q]
      exact zao q H
theorem zza (l m : List Node) (hl : l.length ≤ 1000) (hm : l.length = m.length) : ∀ (d i : Nat), i + d = l.length → Ev (fun k => zdl k m l l.length i) (smL (l.drop i) (m.drop i))
  | 0, i, h => by
    rw [List.drop_of_length_le (by omega), List.drop_of_length_le (by omega)]
    exact Ev.step (fun k => by simp only [zdl]; rfl) (zao (by omega) (zaq _))
  | d + 1, i, h => by
    have hi : i < l.length := by omega
    have hj : i < m.length := by omega
    have H := zza l m hl hm d (i + 1) (by omega)
    rw [← w64n i (by omega)] at H
    rw [List.drop_eq_getElem_cons hi, List.drop_eq_getElem_cons hj]
    refine Ev.step (fun k => by simp only [zdl, zh8 (zcy l i hi), zh8 (zcy m i hj)]; rfl) (zae (by omega) (zae (by omega) (zae (by omega) (zae (by omega) ?_))))
    unfold smL
    by_cases q : neN l[i] m[i] = true
    · rw [if_pos q]
      exact zae q (zaq _)
    · rw [if_neg q]
      exact zao q H
theorem yd3 (l m : List Node) (hl : l.length ≤ 1000) : Ev (fun k => ze6 k l m) (smN l m) ∧ Ev (fun k => zgl k l m) (smN l m) := by
  unfold ze6 zgl smN
  by_cases h : l.length = m.length
  · rw [if_pos h]
    exact ⟨zae (by omega) (by simpa using zy9 l m hl h l.length 0 (by omega)), zae (by omega) (by simpa using zza l m hl h l.length 0 (by omega))⟩
  · rw [if_neg h]
    exact ⟨zao (by omega) (zaq _), zao (by omega) (zaq _)⟩
noncomputable def aaL (a b : List Instr) : List Int → Bool → Bool × Bool
  | [], al => (al, true)
  | r :: rs, al => if (plS a r).2 = true then (if (plS b r).2 = true then aaL a b rs (if al = true then smN (plS a r).1 (plS b r).1 else false) else (false, false)) else (false, false)
theorem zv7 (a b : List Instr) (la : a.length ≤ 100) (lb : b.length ≤ 100) (ha : ∀ x ∈ a, okI x) (hb : ∀ x ∈ b, okI x) (ws : List Int) (hl : ws.length ≤ 1048576) (hw : ∀ w ∈ ws, 0 ≤ w ∧ w ≤ 5) : ∀ (d i : Nat) (al : Bool), i + d = ws.length →
    Ev (fun k => zb7 k a b al ws ws.length i) (aaL a b (ws.drop i) al) ∧ Ev (fun k => zcq k a b al ws ws.length i) (aaL a b (ws.drop i) al)
  | 0, i, al, h => by
    rw [List.drop_of_length_le (by omega)]
    exact ⟨Ev.step (fun k => by simp only [zb7]; rfl) (zao (by omega) (zaq _)), Ev.step (fun k => by simp only [zcq]; rfl) (zao (by omega) (zaq _))⟩
  | d + 1, i, al, h => by
    have hi : i < ws.length := by omega
    have hv : rd ws (i : Int) = ws[i] := by
      unfold rd
      rw [Int.toNat_natCast, List.getD_eq_getElem?_getD, List.getElem?_eq_getElem hi]
      rfl
    have H := fun al => zv7 a b la lb ha hb ws hl hw d (i + 1) al (by omega)
    rw [← w64n i (by omega)] at H
    rw [List.drop_eq_getElem_cons hi]
    obtain ⟨h0, h1⟩ := hw _ (List.getElem_mem hi)
    generalize ws[i] = r at hv h0 h1 ⊢
    obtain ⟨p1, p2, p3⟩ := ybb a la ha r h0 (by omega)
    obtain ⟨q1, q2, q3⟩ := ybb b lb hb r h0 (by omega)
    obtain ⟨s1, s2⟩ := yd3 (plS a r).1 (plS b r).1 (by omega)
    unfold aaL
    refine ⟨Ev.step (fun k => by simp only [zb7, hv]; rfl) (zae (by omega) (zae (by omega) (zae (by omega) (Ev.bind p1 (Ev.bind q1 ?_))))), Ev.step (fun k => by simp only [zcq, hv]; rfl) (zae (by omega) (zae (by omega) (zae (by omega) (Ev.bind p2 (Ev.bind q2 ?_)))))⟩
    · by_cases c : (plS a r).2 = true
      · rw [if_pos c]
        refine zae c ?_
        by_cases e : (plS b r).2 = true
        · rw [if_pos e]
          refine zae e ?_
          by_cases z : al = true
          · rw [if_pos z]
            exact zae z (Ev.bind s1 (H _).1)
          · rw [if_neg z]
            exact zao z (H _).1
        · rw [if_neg e]
          exact zao e (zaq _)
      · rw [if_neg c]
        exact zao c (zaq _)
    · by_cases c : (plS a r).2 = true
      · rw [if_pos c]
        refine zae c ?_
        by_cases e : (plS b r).2 = true
        · rw [if_pos e]
          refine zae e ?_
          by_cases z : al = true
          · rw [if_pos z]
            exact zae z (Ev.bind s2 (H _).2)
          · rw [if_neg z]
            exact zao z (H _).2
        · rw [if_neg e]
          exact zao e (zaq _)
      · rw [if_neg c]
        exact zao c (zaq _)
theorem zv8 (i : Nat) (h : i < 4096) : zht (i : Int) = some (((i / 64 : Nat) : Int), ((i % 64 : Nat) : Int)) := by
  unfold zht
  rw [show Int.tdiv (i : Int) 64 = ((i / 64 : Nat) : Int) from rfl, show Int.tmod (i : Int) 64 = ((i % 64 : Nat) : Int) from rfl, w64 (by omega) (by omega)]
theorem zxl (l m : List Instr) (hl : l.length ≤ 20 ∧ ∀ x ∈ l, okI x) (hm : m.length ≤ 20 ∧ ∀ x ∈ m, okI x) (ws : List Int) (hw : okW ws) : Ev (fun k => zbk k l m ws 0) (witM l m ws 4096 0) := by
  have key : ∀ (d i : Nat), i + d = 4096 → Ev (fun k => zbk k l m ws i) (witM l m ws d i) := by
    intro d
    induction d with
    | zero =>
      intro i hi
      refine Ev.step (f := fun _ => some ([], false)) (fun k => ?_) (zaq _)
      simp only [zbk]
      rw [if_neg (by omega)]
    | succ d ih =>
      intro i hi
      have Hl := (zuh l hl.2 i (by omega)).1
      have Hm := (zuh m hm.2 i (by omega)).1
      refine Ev.step (fun k => by simp only [zbk]; rfl) (zae (by omega) (Ev.call (zv8 i (by omega)) ?_))
      refine Ev.bind (zu6 l (by omega) hl.2 (by unfold okV; omega) (by unfold okV; omega)) ?_
      refine Ev.bind (zu6 m (by omega) hm.2 (by unfold okV; omega) (by unfold okV; omega)) ?_
      refine zox (s := witM l m ws (d + 1) i) (zku (σ := Unit) ws (fun k _ j => zbm k l m ws ((i / 64 : Nat) : Int) ((i % 64 : Nat) : Int) (endI l i) (endI m i) i ws ws.length j) (fun rest _ => match zva (endI l i) (endI m i) rest with
        | some w => ([((i / 64 : Nat) : Int), ((i % 64 : Nat) : Int), w], true)
        | none => witM l m ws d (i + 1)) (fun _ => ?_) (fun j _ x rest hj hx H => ?_) ()) rfl
      · refine Ev.step (fun k => ?_) (ih (i + 1) (by omega))
        simp only [zbm]
        rw [if_neg (by omega), w64n i (by omega)]
      · have hr := zps hx
        have hb : 0 ≤ x ∧ x ≤ 5 := hw.2 x (by
          have := hx 0
          rw [zcy ws j hj] at this
          rw [← this]
          exact List.getElem_mem hj)
        have hlen := hw.1
        refine Ev.step (fun k => by simp only [zbm, hr]; rfl) ?_
        refine zae (by omega) (zae (by omega) (zae (by omega) (zae hb.1 (zae (by omega) (zae (by omega) ?_)))))
        by_cases q : rd (endI l i) x = rd (endI m i) x
        · refine zae q ?_
          rw [w64n j (by omega)]
          simp only [zva, if_pos q]
          exact H ()
        · refine zao q (Ev.some ?_)
          simp only [zva, if_neg q]
  exact key 4096 0 (by omega)
def witR (l m : List Instr) (ws : List Int) : List Int × Bool := if zky l m ws = true then witM l m ws 4096 0 else ([], false)
theorem zxm (l m : List Instr) (ws : List Int) (h : ws.length ≤ 1048576) : Ev (fun k => zdd k l m ws) (witR l m ws) := by
  unfold zdd witR
  refine Ev.bind (zln l m ws h) ?_
  by_cases q : zky l m ws = true
  · rw [if_pos q]
    obtain ⟨hl, hm, hw⟩ := zsg q h
    exact zae q (zxl l m hl hm ws hw)
  · rw [if_neg q]
    exact zao q (zaq _)
end Go.Proofs.YtnaafcleafbejaaGreat.PL
end
section
namespace Go.Proofs.YtnaafcleafbejaaGreat.PL
open Go Go.RowKit Go.Proofs.YtnaafcleafbejaaGreatW.PrintWords Go.Proofs.YtnaafcleafbejaaGreatW.PrintLast Go.Proofs.YtnaafcleafbejaaGreatW.PrintMore Go.Proofs.YtnaafcleafbejaaGreat.Q
set_option linter.unusedSimpArgs false
set_option linter.unusedVariables false
noncomputable def alR (l m : List Instr) (ws : List Int) : Bool × Bool := if zky l m ws = true then ((aaL l m ws true).1, (aaL l m ws true).2) else (false, false)
theorem zzb (l m : List Instr) (ws : List Int) (h : ws.length ≤ 1048576) : Ev (fun k => zfa k l m ws) (alR l m ws) := by
  unfold zfa alR
  refine Ev.bind (zln l m ws h) ?_
  by_cases q : zky l m ws = true
  · rw [if_pos q]
    obtain ⟨hl, hm, hw⟩ := zsg q h
    have := (zv7 l m (by omega) (by omega) hl.2 hm.2 ws h hw.2 ws.length 0 true (by omega)).1
    rw [List.drop_zero] at this
    exact zae q this
  · rw [if_neg q]
    exact zao q (zaq _)
def ych (l m : List Instr) (ws : List Int) : Bool × Bool := if zky l m ws = true then (!(witM l m ws 4096 0).2, true) else (false, false)
theorem zv9 (l m : List Instr) (ws : List Int) (h : ws.length ≤ 1048576) : Ev (fun k => zc9 k l m ws) (ych l m ws) := by
  unfold zc9 ych
  refine Ev.bind (zln l m ws h) ?_
  by_cases q : zky l m ws = true
  · rw [if_pos q]
    refine zae q (Ev.bind (zxm l m ws h) (Ev.some ?_))
    unfold witR
    rw [if_pos q]
  · rw [if_neg q]
    exact zao q (zaq _)
noncomputable def verR (l m : List Instr) (ws : List Int) : ByteArray × Bool :=
  if zky l m ws = true then (if (aaL l m ws true).1 = true then (⟨#[97, 108, 105, 107, 101]⟩, true) else if (witM l m ws 4096 0).2 = true then (⟨#[111, 116, 104, 101, 114]⟩, true) else (⟨#[115, 97, 109, 101]⟩, true)) else (⟨#[]⟩, false)
theorem ybe (a b : List Instr) : ∀ (ws : List Int) (al : Bool), (aaL a b ws al).2 = false → (aaL a b ws al).1 = false
  | [], al, h => by simp [aaL] at h
  | r :: rs, al, h => by
    unfold aaL at h ⊢
    split
    · rename_i q
      rw [if_pos q] at h
      split
      · rename_i q2
        rw [if_pos q2] at h
        exact ybe a b rs _ h
      · rfl
    · rfl
theorem zxn (l m : List Instr) (ws : List Int) (h : ws.length ≤ 1048576) : Ev (fun k => zep k l m ws) (verR l m ws) := by
  unfold zep verR
  refine Ev.bind (zln l m ws h) ?_
  by_cases q : zky l m ws = true
  · rw [if_pos q]
    refine zae q (Ev.bind (zzb l m ws h) ?_)
    unfold alR
    rw [if_pos q]
    by_cases q1 : (aaL l m ws true).1 = true
    · rw [if_pos q1]
      exact zae q1 (zaq _)
    · rw [if_neg q1]
      refine zao q1 (Ev.bind (zv9 l m ws h) ?_)
      unfold ych
      rw [if_pos q]
      by_cases q2 : (witM l m ws 4096 0).2 = true
      · rw [if_pos q2]
        exact zao (by simp [q2]) (zaq _)
      · rw [if_neg q2]
        exact zae (by simpa using q2) (zaq _)
  · rw [if_neg q]
    exact zao q (zaq _)
theorem zxo (l m : List Instr) (ws : List Int) (h : ws.length ≤ 1048576) : Ev (fun k => zer k l m ws) (verR l m ws) := by
  unfold zer verR
  refine Ev.bind (zy8 l m ws h) ?_
  by_cases q : zky l m ws = true
  · rw [if_pos q]
    obtain ⟨hl, hm, hw⟩ := zsg q h
    have ha := (zv7 l m (by omega) (by omega) hl.2 hm.2 ws h hw.2 ws.length 0 true (by omega)).2
    rw [List.drop_zero] at ha
    have key : ∀ b, b = (aaL l m ws true).1 → Ev (fun k => zcr k l m ws b) (if (aaL l m ws true).1 = true then (⟨#[97, 108, 105, 107, 101]⟩, true) else if (witM l m ws 4096 0).2 = true then (⟨#[111, 116, 104, 101, 114]⟩, true) else (⟨#[115, 97, 109, 101]⟩, true)) := by
      intro b hb
      subst hb
      refine Ev.step (fun k => by simp only [zcr]; rfl) ?_
      by_cases q1 : (aaL l m ws true).1 = true
      · rw [if_pos q1]
        exact zae q1 (zaq _)
      · rw [if_neg q1]
        refine zao q1 (Ev.bind (zu8 l (by omega) hl.2) (Ev.bind (zu8 m (by omega) hm.2) (Ev.bind (yai l m hl.2 hm.2 ws hw) ?_)))
        by_cases q2 : (witM l m ws 4096 0).2 = true
        · refine zae q2 ?_
          rw [if_pos q2]
          exact zaq _
        · refine zao q2 ?_
          rw [if_neg q2]
          exact zaq _
    refine zae q (Ev.bind (show Ev (fun k => zfs k l m ws) (aaL l m ws true) by unfold zfs; exact ha) ?_)
    by_cases q3 : (aaL l m ws true).2 = true
    · exact zae q3 (key _ rfl)
    · exact zao q3 (key _ (ybe l m ws true (by simpa using q3)).symm)
  · rw [if_neg q]
    exact zao q (zaq _)
end Go.Proofs.YtnaafcleafbejaaGreat.PL
namespace Go.Proofs.YtnaafcleafbejaaGreat.Pure
open Go Go.RowKit Go.Proofs.YtnaafcleafbejaaGreatW.PrintWords Go.Proofs.YtnaafcleafbejaaGreatW.PrintLast Go.Proofs.YtnaafcleafbejaaGreatW.PrintMore Go.Proofs.YtnaafcleafbejaaGreat.Q Go.Proofs.YtnaafcleafbejaaGreat.PL
set_option linter.unusedSimpArgs false
set_option linter.unusedVariables false
theorem FnExactVerdictOf : laws_FnExactVerdictOf.Pure := by
  intro a0 a1 a2 h0 h1 h2
  refine zzm (g := fun k => zcc k a0 a1 a2) ?_
  unfold zcc
  by_cases hc : (a2.length : Int) > 1048576
  · exact zae hc (zaq _)
  refine zao hc ?_
  have hc' : a2.length ≤ 1048576 := by omega
  obtain ⟨r, hr, hr'⟩ := zr7 a0 1048576 h0 (by decide) (by decide)
  refine Ev.bind hr ?_
  by_cases hn : r < 0
  · exact zae hn (zaq _)
  have hl := hr' (by omega)
  refine zao hn ?_
  obtain ⟨r2, hr2, hr2'⟩ := zr7 a1 r h1 (by omega) (by have := hl.2.2; omega)
  refine Ev.bind hr2 ?_
  by_cases hn2 : r2 < 0
  · exact zae hn2 (zaq _)
  have hl2 := hr2' (by omega)
  refine zao hn2 ?_
  have b0 : a0.length ≤ 1048576 := by omega
  have b1 : a1.length ≤ 1048576 := by have := hl.2.2; omega
  refine Ev.bind (zja a0 b0) (Ev.bind (zja a1 b1) (Ev.bind (zr8 a2 hc') ?_))
  refine Ev.bind (zxo _ _ _ hc') ?_
  refine Ev.bind (zja a0 b0) (Ev.bind (zja a1 b1) (Ev.bind (zr8 a2 hc') ?_))
  refine Ev.bind (zxn _ _ _ hc') ?_
  refine zae rfl ?_
  rw [show ((verR (a0.map cvI) (a1.map cvI) a2).2 != (verR (a0.map cvI) (a1.map cvI) a2).2) = false by simp]
  refine Ev.step (fun k => by simp only [zbt]; rfl) (zao (by decide) ?_)
  refine Ev.bind (zja a0 b0) (Ev.bind (zpt _ (by simpa using b0)) (zae rfl ?_))
  refine Ev.bind (zja a1 b1) (Ev.bind (zpt _ (by simpa using b1)) (zae rfl ?_))
  exact Ev.bind (zr8 a2 hc') (Ev.bind (zvs _ hc') (zae rfl (zaq _)))
end Go.Proofs.YtnaafcleafbejaaGreat.Pure
end
