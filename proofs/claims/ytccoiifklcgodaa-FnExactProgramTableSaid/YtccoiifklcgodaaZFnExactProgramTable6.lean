/- Proved here: contracts of functions that the law FnExactProgramTable reaches, and lemmas on what they compute; texts of this session and the printed words of the kit that they lean on, cut down and put together by its program link.py. Conditions: as each states. -/
import Derived.Test.YtccoiifklcgodaaZFnExactProgramTable1
import Derived.Test.YtccoiifklcgodaaZFnExactProgramTable2
import Derived.Test.YtccoiifklcgodaaZFnExactProgramTable3
import Derived.Test.YtccoiifklcgodaaZFnExactProgramTable4
import Derived.Test.YtccoiifklcgodaaZFnExactProgramTable5
section
namespace Go.Proofs.Ytccoiifklcgodaa.PL
open Go Go.RowKit Go.Proofs.YtccoiifklcgodaaW.PrintWords Go.Proofs.YtccoiifklcgodaaW.PrintLast Go.Proofs.YtccoiifklcgodaaW.PrintMore Go.Proofs.Ytccoiifklcgodaa.Q
set_option linter.unusedSimpArgs false
set_option linter.unusedVariables false
abbrev zN : Instr := z102
theorem zo9 : ∀ (n a : Nat) (x : Int), x ∈ zf7 n a → (a : Int) ≤ x ∧ x < (a : Int) + n
  | 0, _, x, h => by simp [zf7] at h
  | n + 1, a, x, h => by
    unfold zf7 at h
    rcases List.mem_cons.1 h with h | h
    · omega
    · have := zo9 n (a + 1) x h
      omega
theorem zqk {u : Bool} {n : Nat} {x : Int} (h : x ∈ zkv u n) (hn : 1 ≤ n) : (0 ≤ x ∧ x < (n : Int)) ∧ (u = true ∨ x = 0) := by
  unfold zkv at h
  split at h
  · rename_i hu
    have := zo9 n 0 x h
    exact ⟨by omega, .inl hu⟩
  · rw [List.mem_singleton.1 h]
    exact ⟨by omega, .inr rfl⟩
theorem zus (c : Nat) (h : immC c = false) : (ze3 c).2.2.2.1 ≤ 0 ∧ 0 ≤ (ze3 c).2.2.2.2 := by
  unfold immC at h
  split at h
  · cases h
  · cases h
  · cases h
  · cases h
  · rename_i h0 h5 h6 h7
    unfold ze3
    split
    all_goals first | exact ⟨by decide, by decide⟩ | exact absurd rfl h0 | exact absurd rfl h5 | exact absurd rfl h6 | exact absurd rfl h7
def okPI (x : Instr) (t : Nat) : Prop := okI x ∧ x.f1 = ((2 + t : Nat) : Int) ∧ (0 ≤ x.f2 ∧ x.f2 < ((2 + t : Nat) : Int)) ∧ 0 ≤ x.f3 ∧ x.f3 < ((2 + t : Nat) : Int)
theorem ztq {os : List ByteArray} {ims : List Int} {t : Nat} (ho : zgj os ims = true) (ht : t ≤ 2) {x : Instr} (h : x ∈ zki os ims t) : okPI x t := by
  unfold zki at h
  obtain ⟨s, hs, h⟩ := List.mem_flatMap.1 h
  unfold zjl at h
  obtain ⟨a, ha, h⟩ := List.mem_flatMap.1 h
  obtain ⟨b, hb, h⟩ := List.mem_flatMap.1 h
  obtain ⟨m, hm, h⟩ := List.mem_flatMap.1 h
  obtain rfl := List.mem_singleton.1 h
  obtain ⟨a1, a2⟩ := zqk ha (by omega)
  obtain ⟨b1, b2⟩ := zqk hb (by omega)
  have hop : okOp ims s = true := by
    unfold zgj at ho
    simp only [Bool.and_eq_true, List.all_eq_true (l := List.range os.length), List.mem_range] at ho
    obtain ⟨i, hi, rfl⟩ := List.getElem_of_mem hs
    have := ho.2.2.2.2.2 i hi
    rw [zdv os i hi] at this
    exact this
  unfold okOp at hop
  rw [Bool.and_eq_true, decide_eq_true_eq] at hop
  refine ⟨⟨hop.1, ⟨by show (0 : Int) ≤ ((2 + t : Nat) : Int); omega, by show ((2 + t : Nat) : Int) ≤ 5; omega⟩, ?_, ?_, ?_⟩, rfl, a1, b1⟩
  · exact a2.elim (fun u => .inl ⟨u, a1.1, by show a ≤ 5; omega⟩) (fun z => .inr z)
  · exact b2.elim (fun u => .inl ⟨u, b1.1, by show b ≤ 5; omega⟩) (fun z => .inr z)
  · show (ze3 (cls s)).2.2.2.1 ≤ m ∧ m ≤ (ze3 (cls s)).2.2.2.2
    unfold imsM at hm
    by_cases hi : immC (cls s) = true
    · rw [if_pos hi] at hm
      have h2 := hop.2
      rw [hi, Bool.not_true, Bool.false_or, List.all_eq_true] at h2
      have := h2 m hm
      unfold inB at this
      exact of_decide_eq_true this
    · rw [if_neg hi] at hm
      rw [List.mem_singleton.1 hm]
      exact zus _ (Bool.eq_false_iff.2 hi)
theorem zut {x y : Instr} (h : eqB x y = true) : x = y := by
  unfold eqB at h
  simp only [Bool.and_eq_true, beq_iff_eq] at h
  obtain ⟨h0, h1, h2, h3, h4⟩ := h
  have e : x.f0 = y.f0 := by
    have := str_lit.1 h0
    rw [this]
    exact (str_lit.1 rfl).symm
  cases x
  cases y
  simp_all
def okP (l : List Instr) : Prop := l.length ≤ 3 ∧ ∀ i, i < l.length → okPI (l.getD i zN) i
theorem zrk {os : List ByteArray} {ims : List Int} {l : List Instr} (ho : zgj os ims = true) (h : zj3 os ims l = true) : okP l := by
  unfold zj3 at h
  simp only [Bool.and_eq_true, decide_eq_true_eq, List.all_eq_true, List.mem_range] at h
  refine ⟨h.1, fun i hi => ?_⟩
  have hp := h.2 i hi
  unfold zp4 at hp
  obtain ⟨y, hy, e⟩ := (zmo _ _).1 hp
  rw [zut e]
  exact ztq ho (by omega) hy
theorem zop {l : List Instr} (h : okP l) (x : Instr) (hx : x ∈ l) : okI x := by
  obtain ⟨i, hi, rfl⟩ := List.getElem_of_mem hx
  have := (h.2 i hi).1
  rwa [zdv l i hi] at this
theorem zql {l : List Instr} (h : okP l) (k : Nat) (x : Instr) (hx : x ∈ l.take k) : okI x := zop h x (List.mem_of_mem_take hx)
theorem zpa (l : List Instr) (k : Nat) (h : k < l.length) : l.take (k + 1) = l.take k ++ [l.getD k zN] := by
  rw [List.take_succ_eq_append_getElem h, zdv l k h]
def atI (l : List Instr) (i : Nat) : List Int := endM l ((i / 64 : Nat) : Int) ((i % 64 : Nat) : Int)
theorem zrl (l : List Instr) (h : ∀ x ∈ l, okI x) (i : Nat) (hi : i < 4096) : okS (atI l i) := zri l h _ (zs2 (by unfold okV; omega) (by unfold okV; omega))
theorem zqm (l : List Instr) (x : Instr) (i : Nat) : atI (l ++ [x]) i = zqu (atI l i) x := by
  unfold atI endM runM
  rw [List.foldl_append]
  rfl
def colN (l : List Instr) (r : Int) (n : Nat) : List Int := (List.range n).map fun i => rd (atI l i) r
theorem zpb (l : List Instr) (r : Int) (n : Nat) : colN l r (n + 1) = colN l r n ++ [rd (atI l n) r] := by simp [colN, List.range_succ]
theorem zj4 (l : List Instr) (r : Int) (n : Nat) : (colN l r n).length = n := by simp [colN]
theorem zp5 (l : List Instr) (r : Int) (n i : Nat) (h : i < n) : rd (colN l r n) (i : Int) = rd (atI l i) r := zjw (fun d => by simp [colN, List.getD, h])
theorem zrm (s : List Int) (j : Nat) (v : Int) (r : Nat) (h : r ≠ j) : rd (s.set j v) (r : Int) = rd s (r : Int) := by
  unfold rd
  rw [Int.toNat_natCast, List.getD_eq_getElem?_getD, List.getD_eq_getElem?_getD, List.getElem?_set_ne (Ne.symm h)]
theorem zrn (s : List Int) (j : Nat) (v : Int) (h : j < s.length) : rd (s.set j v) (j : Int) = v := by
  unfold rd
  rw [Int.toNat_natCast, List.getD_eq_getElem?_getD, List.getElem?_set_self h]
  rfl
theorem zsh {l : List Instr} (h : okP l) (k : Nat) (hk : k < l.length) (r n : Nat) (hr : r < 2 + k) : colN (l.take (k + 1)) r n = colN (l.take k) r n := by
  unfold colN
  refine List.map_congr_left fun i _ => ?_
  rw [zpa l k hk, zqm]
  unfold zqu
  rw [(h.2 k hk).2.1, Int.toNat_natCast, zrm _ _ _ _ (by omega)]
theorem ztr {l : List Instr} (h : okP l) (k : Nat) (hk : k < l.length) (n : Nat) (hn : n ≤ 4096) : colN (l.take (k + 1)) ((2 + k : Nat) : Int) n = (List.range n).map fun i => valM (l.getD k zN) (atI (l.take k) i) := by
  unfold colN
  refine List.map_congr_left fun i hi => ?_
  have hi' := List.mem_range.1 hi
  rw [zpa l k hk, zqm]
  unfold zqu
  have hs := (zrl (l.take k) (zql h k) i (by omega)).1
  have := h.1
  rw [(h.2 k hk).2.1, Int.toNat_natCast, zrn _ _ _ (by omega)]
def cols (l : List Instr) (k : Nat) : List (List Int) := (List.range (2 + k)).map fun r : Nat => colN (l.take k) r 4096
theorem zl5 (l : List Instr) (k : Nat) : (cols l k).length = 2 + k := by simp [cols]
theorem zoq (l : List Instr) (k r : Nat) (h : r < 2 + k) : zea (cols l k) (r : Int) = colN (l.take k) r 4096 := by
  unfold zea cols
  rw [Int.toNat_natCast]
  simp [List.getD, h]
theorem zro {l : List Instr} (h : okP l) (k : Nat) (hk : k < l.length) : cols l (k + 1) = cols l k ++ [(List.range 4096).map fun i => valM (l.getD k zN) (atI (l.take k) i)] := by
  unfold cols
  rw [show 2 + (k + 1) = (2 + k) + 1 by omega, List.range_succ, List.map_append, List.map_singleton, ztr h k hk 4096 (Nat.le_refl _)]
  rw [List.map_congr_left (l := List.range (2 + k)) fun r hr => zsh h k hk r 4096 (List.mem_range.1 hr)]
theorem zrp {l : List Instr} (h : okP l) (k : Nat) (x : Instr) (hx : okPI x k) (hk : k ≤ l.length) (i : Nat) (hi : i < 4096) : Ev (fun q => zft q x.f0 x.f1 x.f2 x.f3 x.f4 (cols l k) (i : Int)) (valM x (atI (l.take k) i)) := by
  obtain ⟨ho, h1, ⟨h2, h2'⟩, h3, h3'⟩ := hx
  have hs := zrl (l.take k) (zql h k) i hi
  have hl := h.1
  obtain ⟨a, ha⟩ := Int.eq_ofNat_of_zero_le h2
  obtain ⟨b, hb⟩ := Int.eq_ofNat_of_zero_le h3
  have ca : zea (cols l k) x.f2 = colN (l.take k) x.f2 4096 := by rw [ha]; exact zoq l k a (by omega)
  have cb : zea (cols l k) x.f3 = colN (l.take k) x.f3 4096 := by rw [hb]; exact zoq l k b (by omega)
  have va := zo8 hs h2 (by omega)
  have vb := zo8 hs h3 (by omega)
  have hv := (zoo x _ ho hs).2
  unfold okV at va vb hv
  unfold zft
  refine zao h2 (zao (by rw [zl5]; omega) (zao (by omega) (zao (by rw [ca, zj4]; omega) (zao h3 (zao (by rw [zl5]; omega) (zao (by rw [cb, zj4]; omega) ?_))))))
  rw [ca, cb, zp5 _ _ _ _ hi, zp5 _ _ _ _ hi, w64 (by omega) (by omega), w64 (by omega) (by omega)]
  refine Ev.bind (ztp x _ ho hs) (Ev.some ?_)
  omega
theorem zrq {l : List Instr} (h : okP l) (k : Nat) (x : Instr) (hx : okPI x k) (hk : k ≤ l.length) : Ev (fun q => zfu q x.f0 x.f1 x.f2 x.f3 x.f4 (cols l k)) ((List.range 4096).map fun i => valM x (atI (l.take k) i)) := by
  have key : ∀ (d i : Nat), i + d = 4096 → Ev (fun q => zcf q (cols l k) (((List.range i).map fun i => valM x (atI (l.take k) i)) ++ List.replicate d 0) 4096 i x.f0 x.f1 x.f2 x.f3 x.f4) ((List.range 4096).map fun i => valM x (atI (l.take k) i)) := by
    intro d
    induction d with
    | zero =>
      intro i hi
      obtain rfl : i = 4096 := by omega
      rw [List.replicate_zero, List.append_nil]
      refine Ev.step (f := fun _ => some ((List.range 4096).map fun i => valM x (atI (l.take k) i))) (fun q => ?_) (Ev.now _)
      simp only [zcf]
      rw [if_neg (by omega)]
    | succ d ih =>
      intro i hi
      have next := ih (i + 1) (by omega)
      rw [List.range_succ, List.map_append, List.map_singleton] at next
      have hlen : (i : Int) < ((((List.range i).map fun i => valM x (atI (l.take k) i)) ++ List.replicate (d + 1) 0).length : Int) := by
        rw [List.length_append, List.length_replicate, List.length_map, List.length_range]
        omega
      refine Ev.step (fun q => by simp only [zcf]; rfl) (zao (by omega) (Ev.bind (zrp h k x hx hk i (by omega)) ?_))
      refine zao (Int.natCast_nonneg i) (zao hlen ?_)
      have e := zl3 ((List.range i).map fun i => valM x (atI (l.take k) i)) (List.replicate d (0 : Int)) 0 (valM x (atI (l.take k) i))
      rw [List.length_replicate, List.length_map, List.length_range] at e
      rw [Int.toNat_natCast, e, w64n i (by omega)]
      exact next
  unfold zfu
  refine zao (by decide) (Ev.call rfl ?_)
  rw [List.length_replicate]
  exact key 4096 0 (by omega)
theorem znk (xs : List Int) (hl : xs.length ≤ 1048576) (hv : ∀ v ∈ xs, 0 ≤ v ∧ v ≤ 63) : Ev (fun q => zck q xs) xs := by
  have key : ∀ (d i : Nat), i + d = xs.length → Ev (fun q => zb3 q (xs.take i ++ List.replicate d 0) xs xs.length i) xs := by
    intro d
    induction d with
    | zero =>
      intro i hi
      obtain rfl : i = xs.length := by omega
      rw [List.replicate_zero, List.append_nil, List.take_length]
      refine Ev.step (f := fun _ => some xs) (fun q => ?_) (Ev.now _)
      simp only [zb3]
      rw [if_neg (by omega)]
    | succ d ih =>
      intro i hi
      have hlt : i < xs.length := by omega
      have next := ih (i + 1) (by omega)
      rw [List.take_succ_eq_append_getElem hlt] at next
      have hb := hv _ (List.getElem_mem hlt)
      refine Ev.step (fun q => by simp only [zb3]; rfl) (zao (by omega) (zao (by omega) (zao (by omega) (zao (by rw [List.length_append, List.length_replicate, List.length_take]; omega) ?_))))
      have e := zl3 (xs.take i) (List.replicate d (0 : Int)) 0 xs[i]
      rw [List.length_replicate, List.length_take, Nat.min_eq_left (by omega)] at e
      rw [zjw (zdv xs i hlt), show xs[i] % 256 = xs[i] by omega, Int.toNat_natCast, e, w64n i (by omega)]
      exact next
  unfold zck
  refine zao (by omega) (zao (by rw [Int.toNat_natCast]; omega) ?_)
  rw [Int.toNat_natCast]
  have := key xs.length 0 (by omega)
  simpa using this
def tbN (g : Nat → Nat → Int) (n : Nat) : List Int := (List.range n).map fun i => g (i / 64) (i % 64)
theorem zp6 (g : Nat → Nat → Int) (n : Nat) : (tbN g n).length = n := by simp [tbN]
theorem zsj (g : Nat → Nat → Int) (a b : Nat) (h : b < 64) : tbN g (64 * a + (b + 1)) = tbN g (64 * a + b) ++ [g a b] := by
  unfold tbN
  rw [← Nat.add_assoc, List.range_succ, List.map_append, List.map_singleton, show (64 * a + b) / 64 = a by omega, show (64 * a + b) % 64 = b by omega]
theorem zqn (g : Nat → Nat → Int) (L0 : Nat → List Int → Int → Option (List Int)) (L1 : Nat → List Int → Int → Int → Int → Option (List Int))
    (h0 : ∀ (a : Nat) xs T, a < 64 → Ev (fun k => L1 k xs a a 0) T → Ev (fun k => L0 k xs a) T) (he : ∀ xs, Ev (fun k => L0 k xs 64) xs)
    (h1 : ∀ (a b : Nat) xs T, a < 64 → b < 64 → xs.length ≤ 4096 → Ev (fun k => L1 k (xs ++ [g a b]) a a ((b + 1 : Nat) : Int)) T → Ev (fun k => L1 k xs a a b) T)
    (h2 : ∀ (a : Nat) xs T, a < 64 → Ev (fun k => L0 k xs ((a + 1 : Nat) : Int)) T → Ev (fun k => L1 k xs a a 64) T) : Ev (fun k => L0 k [] 0) (tbN g 4096) := by
  have row : ∀ (a : Nat), a < 64 → ∀ T, Ev (fun k => L0 k (tbN g (64 * (a + 1))) ((a + 1 : Nat) : Int)) T → ∀ (d b : Nat), b + d = 64 → Ev (fun k => L1 k (tbN g (64 * a + b)) a a b) T := by
    intro a ha T hT d
    induction d with
    | zero =>
      intro b hb
      obtain rfl : b = 64 := by omega
      refine h2 a _ T ha ?_
      rw [show 64 * a + 64 = 64 * (a + 1) by omega]
      exact hT
    | succ d ih =>
      intro b hb
      refine h1 a b _ T ha (by omega) (by rw [zp6]; omega) ?_
      rw [← zsj g a b (by omega)]
      exact ih (b + 1) (by omega)
  have key : ∀ (d a : Nat), a + d = 64 → Ev (fun k => L0 k (tbN g (64 * a)) a) (tbN g 4096) := by
    intro d
    induction d with
    | zero =>
      intro a ha
      obtain rfl : a = 64 := by omega
      exact he _
    | succ d ih =>
      intro a ha
      have := row a (by omega) _ (ih (a + 1) (by omega)) 64 0 (by omega)
      exact h0 a _ _ (by omega) this
  exact key 64 0 (by omega)
theorem zrr : Ev (fun k => zb8 k) (tbN (fun a _ => (a : Int)) 4096) := by
  unfold zb8
  refine zqn (fun a _ => (a : Int)) za2 za3 (fun a xs T ha h => ?_) (fun xs => ?_) (fun a b xs T ha hb hx h => ?_) (fun a xs T ha h => ?_)
  · exact Ev.step (fun k => by simp only [za2]; rfl) (zao (by omega) h)
  · refine Ev.step (f := fun _ => some xs) (fun k => ?_) (Ev.now _)
    simp only [za2]
    rw [if_neg (by omega)]
  · refine Ev.step (fun k => by simp only [za3]; rfl) (zao (by omega) (Ev.call rfl (zao (by omega) ?_)))
    rw [w64n b (by omega)]
    exact h
  · refine Ev.step (fun k => by simp only [za3]; rfl) (zci (by omega) ?_)
    rw [w64n a (by omega)]
    exact h
theorem zrs : Ev (fun k => zbs k) (tbN (fun _ b => (b : Int)) 4096) := by
  unfold zbs
  refine zqn (fun _ b => (b : Int)) za4 za5 (fun a xs T ha h => ?_) (fun xs => ?_) (fun a b xs T ha hb hx h => ?_) (fun a xs T ha h => ?_)
  · exact Ev.step (fun k => by simp only [za4]; rfl) (zao (by omega) h)
  · refine Ev.step (f := fun _ => some xs) (fun k => ?_) (Ev.now _)
    simp only [za4]
    rw [if_neg (by omega)]
  · refine Ev.step (fun k => by simp only [za5]; rfl) (zao (by omega) (Ev.call rfl (zao (by omega) ?_)))
    rw [w64n b (by omega)]
    exact h
  · refine Ev.step (fun k => by simp only [za5]; rfl) (zci (by omega) ?_)
    rw [w64n a (by omega)]
    exact h
theorem zqo (l : List Instr) : Ev (fun k => ze1 k) (cols l 0) := by
  have bd : ∀ (g : Nat → Nat → Int), (∀ a b, a < 64 → b < 64 → 0 ≤ g a b ∧ g a b ≤ 63) → ∀ v ∈ tbN g 4096, 0 ≤ v ∧ v ≤ 63 := fun g hg v hv => by
    obtain ⟨i, hi, rfl⟩ := List.mem_map.1 hv
    have := List.mem_range.1 hi
    exact hg _ _ (by omega) (by omega)
  unfold ze1
  refine Ev.bind zrr (Ev.bind (znk _ (by rw [zp6]; decide) (bd _ (fun a b ha hb => by omega))) (Ev.bind zrs (Ev.bind (znk _ (by rw [zp6]; decide) (bd _ (fun a b ha hb => by omega))) (Ev.some ?_))))
  rfl
theorem zpc {l : List Instr} (h : okP l) : Ev (fun q => zej q l) (cols l l.length) := by
  have key : ∀ (d k : Nat), k + d = l.length → Ev (fun q => zbt q (cols l k) l l.length k) (cols l l.length) := by
    intro d
    induction d with
    | zero =>
      intro k hk
      obtain rfl : k = l.length := by omega
      refine Ev.step (f := fun _ => some (cols l l.length)) (fun q => ?_) (Ev.now _)
      simp only [zbt]
      rw [if_neg (by omega)]
    | succ d ih =>
      intro k hk
      have hl := h.1
      refine Ev.step (fun q => by simp only [zbt]; rfl) (zao (by omega) (zao (by omega) (zao (by omega) ?_)))
      rw [zl4 l k (by omega)]
      refine Ev.bind (zrq h k _ (h.2 k (by omega)) (by omega)) (zao (by rw [zl5]; omega) ?_)
      rw [w64n k (by omega), ← zro h k (by omega)]
      exact ih (k + 1) (by omega)
  unfold zej
  exact Ev.bind (zqo l) (key l.length 0 (by omega))
theorem zsk (l : List Instr) (a : Nat) (hl : l.length ≤ 1048576) (ha : a ≤ 11534336) : Ev (fun k => zbu k l a) (((a + 5 * l.length : Nat) : Int), zn6 l.length a) :=
  zhl (zoh l a hl ha) (by rw [Prod.mk.injEq]; exact ⟨by omega, rfl⟩)
theorem zsl (l : List Int) (a : Nat) (hl : l.length ≤ 1048576) (ha : a ≤ 33554432) : Ev (fun k => zda k l a) (((a + l.length : Nat) : Int), zf7 l.length a) :=
  zhl (znf l a hl ha) (by rw [Prod.mk.injEq]; exact ⟨by omega, rfl⟩)
theorem zqp (n a : Nat) (hn : n ≤ 1048576) (ha : a ≤ 1048576) : Ev (fun k => zc9 k (zf7 n a) a) ((a + n : Nat) : Int) :=
  zhl (zpz n a hn ha) (by omega)
end Go.Proofs.Ytccoiifklcgodaa.PL
end
section
namespace Go.Proofs.Ytccoiifklcgodaa.PL
open Go Go.RowKit Go.Proofs.YtccoiifklcgodaaW.PrintWords Go.Proofs.YtccoiifklcgodaaW.PrintLast Go.Proofs.YtccoiifklcgodaaW.PrintMore Go.Proofs.Ytccoiifklcgodaa.Q
set_option linter.unusedSimpArgs false
set_option linter.unusedVariables false
def zh1 (l : List Instr) : Int := if l.length = 0 then 0 else ((1 + l.length : Nat) : Int)
theorem zrt {l : List Instr} (h : okP l) : Ev (fun q => zeb q l) (colN l (zh1 l) 4096) := by
  have hl := h.1
  unfold zeb zh1
  by_cases h0 : l.length = 0
  · rw [if_pos h0]
    obtain rfl := List.eq_nil_of_length_eq_zero h0
    refine zao (by omega) (Ev.bind (zqo []) (zao (by rw [zl5]; omega) (Ev.some ?_)))
    exact zoq [] 0 0 (by omega)
  · rw [if_neg h0]
    refine zci (by omega) (Ev.bind (zpc h) ?_)
    rw [zl5, w64 (by omega) (by omega), show ((2 + l.length : Nat) : Int) - 1 = ((1 + l.length : Nat) : Int) by omega]
    refine zao (by omega) (zao (by omega) (Ev.some ?_))
    rw [zoq l l.length (1 + l.length) (by omega), List.take_length]
theorem zuu {l : List Instr} (h : okP l) : l.length ≤ 40 := by have := h.1; omega
theorem zor {l : List Instr} (h : okP l) : 0 ≤ zh1 l ∧ zh1 l ≤ 5 := by
  have := h.1
  unfold zh1
  split <;> omega
theorem zts {l : List Instr} (h : okP l) (i : Nat) (hi : i < 4096) : 0 ≤ rd (atI l i) (zh1 l) ∧ rd (atI l i) (zh1 l) ≤ 63 := by
  have := zo8 (zrl l (zop h) i hi) (zor h).1 (zor h).2
  exact this
theorem zqw {l : List Instr} (h : okP l) : Ev (fun k => zet k l (zh1 l)) (colN l (zh1 l) 4096) := by
  have key : ∀ (d a : Nat), a + d = 64 → Ev (fun k => zc1 k l (zh1 l) (colN l (zh1 l) (64 * a)) a) (colN l (zh1 l) 4096) := by
    intro d
    induction d with
    | zero =>
      intro a ha
      obtain rfl : a = 64 := by omega
      refine Ev.step (f := fun _ => some (colN l (zh1 l) 4096)) (fun k => ?_) (Ev.now _)
      simp only [zc1]
      rw [if_neg (by omega)]
    | succ d ih =>
      intro a ha
      have next := ih (a + 1) (by omega)
      have row : ∀ (e b : Nat), b + e = 64 → Ev (fun k => zce k l (zh1 l) (colN l (zh1 l) (64 * a + b)) a b) (colN l (zh1 l) 4096) := by
        intro e
        induction e with
        | zero =>
          intro b hb
          obtain rfl : b = 64 := by omega
          refine Ev.step (fun k => by simp only [zce]; rfl) (zci (by omega) ?_)
          rw [w64n a (by omega), show 64 * a + 64 = 64 * (a + 1) by omega]
          exact next
        | succ e ih2 =>
          intro b hb
          have next2 := ih2 (b + 1) (by omega)
          have hs := zs2 (a := (a : Int)) (b := (b : Int)) (by unfold okV; omega) (by unfold okV; omega)
          have hat : atI l (64 * a + b) = runM l (st0 a b) := by
            unfold atI endM
            rw [show (64 * a + b) / 64 = a by omega, show (64 * a + b) % 64 = b by omega]
          have hr := zor h
          have hk := (zri l (zop h) _ hs).1
          rw [← Nat.add_assoc, zpb, hat] at next2
          refine Ev.step (fun k => by simp only [zce]; rfl) (zao (by omega) (Ev.call (zqv _ _) (Ev.bind (zsg l (zuu h) (zop h) _ hs) ?_)))
          have hcl := zj4 l (zh1 l) (64 * a + b)
          refine zao hr.1 (zao (by omega) (zao (by omega) ?_))
          rw [w64n b (by omega)]
          exact next2
      refine Ev.step (fun k => by simp only [zc1]; rfl) (zao (by omega) ?_)
      exact row 64 0 (by omega)
  unfold zet
  exact key 64 0 (by omega)
def ptR (os : List ByteArray) (ims : List Int) (l : List Instr) : List Int × Bool := if zgj os ims = true ∧ zj3 os ims l = true then (colN l (zh1 l) 4096, true) else ([], false)
theorem ztt (os : List ByteArray) (ims : List Int) (l : List Instr) : (ptR os ims l).1.length ≤ 4096 := by
  have aux : ∀ n, (colN l (zh1 l) n).length ≤ n := fun n => Nat.le_of_eq (zj4 _ _ _)
  unfold ptR
  split
  · dsimp only
    exact aux 4096
  · exact Nat.zero_le _
theorem zru (os : List ByteArray) (ims : List Int) (l : List Instr) (ho : os.length ≤ 1048576) (hi : ims.length ≤ 1048576) (hl : l.length ≤ 1048576) : Ev (fun k => za0 k os ims l) (ptR os ims l) := by
  unfold za0 zeo ptR
  by_cases hc : zgj os ims = true
  · refine Ev.bind (Ev.bind (zni os ims ho hi) (zao hc (Ev.bind (zo7 os ims l hc hl) (Ev.now _)))) ?_
    by_cases hp : zj3 os ims l = true
    · rw [if_pos ⟨hc, hp⟩]
      have h := zrk hc hp
      refine zao hp (Ev.bind (zrt h) ?_)
      rw [zj4]
      have key : ∀ (d i : Nat), i + d = 4096 → Ev (fun k => za7 k (colN l (zh1 l) i) (colN l (zh1 l) 4096) 4096 i) (colN l (zh1 l) 4096, true) := by
        intro d
        induction d with
        | zero =>
          intro i hi
          obtain rfl : i = 4096 := by omega
          refine Ev.step (f := fun _ => some (colN l (zh1 l) 4096, true)) (fun k => ?_) (Ev.now _)
          simp only [za7]
          rw [if_neg (by omega)]
        | succ d ih =>
          intro i hi
          have next := ih (i + 1) (by omega)
          have hb := zts h i (by omega)
          rw [zpb] at next
          refine Ev.step (fun k => by simp only [za7]; rfl) (zao (by omega) (zao (by omega) (zao (by rw [zj4]; omega) (zao (by rw [zj4]; omega) ?_))))
          rw [zp5 _ _ _ _ (by omega), w64 (by omega) (by omega), w64n i (by omega)]
          exact next
      exact key 4096 0 (by omega)
    · rw [if_neg (fun q => hp q.2)]
      exact zci hp (Ev.now _)
  · rw [if_neg (fun q => hc q.1)]
    exact Ev.bind (Ev.bind (zni os ims ho hi) (zci hc (Ev.now _))) (zci (by decide) (Ev.now _))
theorem zrv (os : List ByteArray) (ims : List Int) (l : List Instr) (ho : os.length ≤ 1048576) (hi : ims.length ≤ 1048576) : Ev (fun k => zb5 k os ims l) (ptR os ims l) := by
  unfold zb5 ptR
  refine Ev.bind (zrf os ims ho hi) ?_
  by_cases hc : zgj os ims = true
  · refine zao hc (Ev.bind (ztm os ims l hc) (Ev.step (fun k => by simp only [za8]; rfl) ?_))
    by_cases hp : zj3 os ims l = true
    · rw [if_pos ⟨hc, hp⟩]
      have h := zrk hc hp
      have hl : zhe l = some (zh1 l) := by
        have := h.1
        unfold zhe zh1
        by_cases h0 : l.length = 0
        · rw [if_pos (by omega), if_pos h0]
        · rw [if_neg (by omega), if_neg h0, w64 (by omega) (by omega)]
          rfl
      exact zci (by rw [hp]; decide) (Ev.call hl (Ev.bind (zqw h) (Ev.now _)))
    · rw [if_neg (fun q => hp q.2)]
      exact zao (by rw [Bool.eq_false_iff.2 hp]; rfl) (Ev.now _)
  · rw [if_neg (fun q => hc q.1)]
    exact zci hc (Ev.step (fun k => by simp only [za8]; rfl) (zao trivial (Ev.now _)))
theorem znx (l : List ByteArray) (m : List Int) (hl : l.length ≤ 1048576) (hm : m.length ≤ 1048576) : ∃ r, Ev (fun k => zb0 k l m 1) r ∧ r.1 = ((1 + l.length + m.length : Nat) : Int) := by
  obtain ⟨l', h⟩ := znw l 1 hl (by decide)
  refine ⟨(((1 + l.length : Nat) : Int) + m.length, l', zf7 m.length (1 + l.length)), ?_, by show ((1 + l.length : Nat) : Int) + m.length = _; omega⟩
  unfold zb0
  exact Ev.bind h (Ev.bind (znf m (1 + l.length) hm (by omega)) (Ev.now _))
end Go.Proofs.Ytccoiifklcgodaa.PL
namespace Go.Proofs.Ytccoiifklcgodaa.Pure
open Go Go.RowKit Go.Proofs.YtccoiifklcgodaaW.PrintWords Go.Proofs.YtccoiifklcgodaaW.PrintLast Go.Proofs.YtccoiifklcgodaaW.PrintMore Go.Proofs.Ytccoiifklcgodaa.Q Go.Proofs.Ytccoiifklcgodaa.PL
set_option linter.unusedSimpArgs false
set_option linter.unusedVariables false
theorem FnExactProgramTable : laws_FnExactProgramTable.Pure := by
  rintro ⟨os, ims⟩ l h0 h1
  show ∃ k, zb6 k os ims l = some true
  refine zr9 (g := fun k => zb6 k os ims l) ?_
  unfold zb6
  obtain ⟨r, hr, hr'⟩ := zpx os ims 1048576 h0.1 h0.2.1 (by decide) (by decide)
  refine Ev.bind hr ?_
  by_cases hn : r < 0
  · exact zao hn (Ev.now _)
  obtain ⟨q1, q2, q3⟩ := hr' (by omega)
  have b0 : os.length ≤ 1048576 := by omega
  have b1 : ims.length ≤ 1048576 := by omega
  refine zci hn ?_
  obtain ⟨r2, hr2, hr2'⟩ := zpv l r h1 (by omega) (by omega)
  refine Ev.bind hr2 ?_
  by_cases hn2 : r2 < 0
  · exact zao hn2 (Ev.now _)
  have bl : l.length ≤ 1048576 := by have := (hr2' (by omega)).1; omega
  have bm : (l.map cvI).length ≤ 1048576 := by simpa using bl
  have tc := zpy os ims b0 b1
  have ti := zpw l bl
  obtain ⟨L, b, e⟩ : ∃ L b, ptR os ims (l.map cvI) = (L, b) := ⟨_, _, rfl⟩
  have hL : L.length ≤ 4096 := by
    have := ztt os ims (l.map cvI)
    rw [e] at this
    exact this
  have sp := zrv os ims (l.map cvI) b0 b1
  have im := zru os ims (l.map cvI) b0 b1 bm
  rw [e] at sp im
  have eqL := znd L (by omega)
  refine zci hn2 (Ev.bind tc (Ev.bind ti (Ev.bind sp (Ev.bind tc (Ev.bind ti (Ev.bind im (Ev.bind eqL (zao rfl ?_))))))))
  rw [show ((L, b).2 != (L, b).2) = false by simp]
  refine Ev.step (fun k => by simp only [zah]; rfl) (zci (by decide) ?_)
  obtain ⟨r3, hr3, hr3'⟩ := znx os ims b0 b1
  refine Ev.bind tc (Ev.bind (zog os ims b0 b1) (zao rfl (Ev.bind ti (Ev.bind (zof _ bm) (zao rfl (Ev.bind hr3 ?_))))))
  rw [hr3']
  refine Ev.bind (zsk _ (1 + os.length + ims.length) bm (by omega)) (zci (by show ¬ ((_ : Nat) : Int) < 0; omega) (Ev.bind eqL (zao rfl ?_)))
  rw [show ((L, b).2 != (L, b).2) = false by simp]
  refine Ev.step (fun k => by simp only [zac]; rfl) (zci (by decide) ?_)
  refine Ev.bind (zsl L 1 (by omega) (by decide)) (Ev.bind (zqp L.length 1 (by omega) (by decide)) (zci (by omega) (zao rfl ?_)))
  refine Ev.bind tc (Ev.bind ti (Ev.bind im (Ev.bind eqL (zao rfl ?_))))
  rw [show ((L, b).2 != (L, b).2) = false by simp]
  refine Ev.step (fun k => by simp only [zal]; rfl) (zci (by decide) ?_)
  exact Ev.bind (zqp L.length 1 (by omega) (by decide)) (zci (by omega) (zao rfl (Ev.now _)))
end Go.Proofs.Ytccoiifklcgodaa.Pure
end
