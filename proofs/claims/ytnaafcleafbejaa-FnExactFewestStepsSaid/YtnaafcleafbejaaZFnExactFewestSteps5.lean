/- Proved here: contracts of functions that the law FnExactFewestSteps reaches, and lemmas on what they compute; texts of this session and the printed words of the kit that they lean on, cut down and put together by its program link.py. Conditions: as each states. -/
import Derived.Carry
import Derived.Deep.Slices
import Derived.Laws.BitsLemmas
import Derived.ProofKit
import Derived.Test.YtnaafcleafbejaaZFnExactFewestSteps1
import Derived.Test.YtnaafcleafbejaaZFnExactFewestSteps2
import Derived.Test.YtnaafcleafbejaaZFnExactFewestSteps3
import Derived.Test.YtnaafcleafbejaaZFnExactFewestSteps4
section
namespace Go.Proofs.Ytnaafcleafbejaa.Rd
open Go Go.RowKit Go.Proofs.YtnaafcleafbejaaW.PrintWords Go.Proofs.YtnaafcleafbejaaW.PrintLast Go.ChangeShapes Go.WideShapes Go.Deep
set_option linter.unusedSimpArgs false
set_option linter.unusedVariables false
structure RdK {α : Type} (d : Kd α) (P : Program) (t : TypeId) (Good : α → Prop) : Prop where
  size : P.cellsOf t = d.sz
  get : ∀ {H : Type} {enc : TypeId × Value → H} {w : World} {n : Nat} {cs : List Value} {x : DataW H × List MemPlace}, DataW.trod enc P w 0 (fun _ => true) true n t cs = some x → ∃ a, d.K w a cs ∧ Good a
def okInt (k : IntKind) (n : Int) : Prop := (Lit.int k n).wf = true
def okStr (s : ByteArray) : Prop := s.size ≤ maxLen
def okSl {α : Type} (G : α → Prop) (xs : List α) : Prop := xs.length ≤ maxLen ∧ ∀ x ∈ xs, G x
theorem rk_int {P : Program} {t : TypeId} {k : IntKind} (ht : P.underlying t = some (.int k)) (hs : P.cellsOf t = 1) : RdK (Kd.int k) P t (okInt k) :=
  ⟨hs, fun h => by obtain ⟨n, rfl, _, hw⟩ := DataW.trod_int ht h; exact ⟨n, rfl, hw⟩⟩
theorem rk_string {P : Program} {t : TypeId} (ht : P.underlying t = some .string) (hs : P.cellsOf t = 1) : RdK Kd.string P t okStr :=
  ⟨hs, fun h => by obtain ⟨n, rfl, _, hw⟩ := DataW.trod_string ht h; exact ⟨n, rfl, hw⟩⟩
theorem rk_slice {α : Type} {d : Kd α} {P : Program} {t e : TypeId} {G : α → Prop} (hd : RdK d P e G) (ht : P.underlying t = some (.slice e)) (hs : P.cellsOf t = 1) : RdK (Kd.slice e d) P t (okSl G) := by
  refine ⟨hs, fun {H enc w n cs x} h => ?_⟩
  rcases open_slice ht h with ⟨rfl, _⟩ | ⟨a, len, cap, m, n', D, Pl, rfl, _, hl, hm, hmm, _, hx⟩
  · exact ⟨[], ⟨none, 0, rfl, Nat.le_refl _, rfl, Nat.zero_le _, fun h => absurd h (Nat.lt_irrefl 0)⟩, Nat.zero_le _, fun _ h => by cases h⟩
  · have hc : m = cap := by simpa using hmm
    subst hc
    have key : ∀ i : Fin len, ∃ a' : α, ∃ cs', d.K w a' cs' ∧ G a' ∧ w.cells? 0 (a.add (i * P.cellsOf e)) (P.cellsOf e) = some cs' := fun i => by
      obtain ⟨cs', h1, h2⟩ := hx i (by omega)
      obtain ⟨a', h3, h4⟩ := hd.get h2
      exact ⟨a', cs', h3, h4, h1⟩
    have hlen : (List.ofFn fun i => Classical.choose (key i)).length = len := List.length_ofFn
    refine ⟨List.ofFn fun i => Classical.choose (key i), ⟨some a, m, by rw [hlen], by omega, hlen.trans hlen.symm, ?_, fun _ => ⟨a, rfl, fun j p hj => ?_⟩⟩, by rw [hlen]; omega, fun y hy => ?_⟩
    · rw [hlen]; unfold maxLen at hm; omega
    · have hjl : j < len := by
        have := (List.getElem?_eq_some_iff.1 hj).1
        rwa [hlen] at this
      rw [List.getElem?_ofFn, dif_pos hjl, Option.some.injEq] at hj
      obtain ⟨cs', h1, h2, h3⟩ := Classical.choose_spec (key ⟨j, hjl⟩)
      rw [hj] at h1 h2
      obtain ⟨_, h5, h6⟩ := World.cells?_some h3
      refine ⟨cs', d.K_len h1, h1, fun i u hi => ?_⟩
      have hil : i < P.cellsOf e := by
        have := (List.getElem?_eq_some_iff.1 hi).1
        omega
      have := h6 i hil
      rw [Go.Deep.add_add] at this
      rw [← hd.size]
      exact this.trans hi
    · obtain ⟨i, rfl⟩ := List.mem_ofFn.1 hy
      obtain ⟨cs', h1, h2, h3⟩ := Classical.choose_spec (key i)
      exact h2
structure RdF {α : Type} (d : Kd α) (P : Program) (fs : List Field) (off : Nat) (Good : α → Prop) : Prop where
  get : ∀ {H : Type} {enc : TypeId × Value → H} {w : World} {n : Nat} {cs : List Value}, cs.length = off + d.sz →
    (∀ f ∈ fs, ∃ y, DataW.trod enc P w 0 (fun _ => true) true n f.type ((cs.drop f.offset).take (P.cellsOf f.type)) = some y) → ∃ a, d.K w a (cs.drop off) ∧ Good a
theorem rf_one {α : Type} {d : Kd α} {P : Program} {f : Field} {G : α → Prop} (hd : RdK d P f.type G) : RdF d P [f] f.offset G := by
  refine ⟨fun {H enc w n cs} hl h => ?_⟩
  obtain ⟨y, hy⟩ := h f (List.mem_singleton.2 rfl)
  rw [hd.size, List.take_of_length_le (by rw [List.length_drop]; omega)] at hy
  exact hd.get hy
theorem rf_cons {α β : Type} {d : Kd α} {d' : Kd β} {P : Program} {f : Field} {fs : List Field} {G : α → Prop} {G' : β → Prop} {off' : Nat} (hd : RdK d P f.type G) (ho : off' = f.offset + d.sz) (hf : RdF d' P fs off' G') :
    RdF (Kd.pair d d') P (f :: fs) f.offset (fun x => G x.1 ∧ G' x.2) := by
  refine ⟨fun {H enc w n cs} hl h => ?_⟩
  have hl' : cs.length = f.offset + (d.sz + d'.sz) := hl
  obtain ⟨y, hy⟩ := h f List.mem_cons_self
  rw [hd.size] at hy
  obtain ⟨a, h1, h2⟩ := hd.get hy
  obtain ⟨b, h3, h4⟩ := hf.get (cs := cs) (by omega) (fun g hg => h g (List.mem_cons_of_mem _ hg))
  refine ⟨(a, b), ⟨_, _, ?_, h1, h3⟩, h2, h4⟩
  rw [ho, ← List.drop_drop, List.take_append_drop]
theorem rk_struct {α : Type} {d : Kd α} {P : Program} {t : TypeId} {fs : Array Field} {G : α → Prop} (ht : P.underlying t = some (.struct fs)) (hs : P.cellsOf t = d.sz) (hf : RdF d P fs.toList 0 G) : RdK d P t G := by
  refine ⟨hs, fun {H enc w n cs x} h => ?_⟩
  obtain ⟨xs, n', _, _, hl, hlen, hg⟩ := DataW.trod_struct ht h
  have := hf.get (cs := cs) (enc := enc) (w := w) (n := n') (by omega) (fun f hf' => by
    obtain ⟨i, hi, he⟩ := List.getElem_of_mem hf'
    have h1 : fs[i]? = some f := by rw [← Array.getElem?_toList, List.getElem?_eq_getElem hi, he]
    have h2 := hg i f h1
    rw [List.getElem?_eq_getElem (by rw [hlen]; simpa using hi)] at h2
    exact ⟨_, h2⟩)
  simpa using this
theorem rk_iso {α β : Type} {d : Kd α} {P : Program} {t : TypeId} {G : α → Prop} (hd : RdK d P t G) (f : β → α) (g : α → β) (hfg : ∀ a, f (g a) = a) : RdK (Kd.iso d f) P t (fun b => G (f b)) := by
  refine ⟨hd.size, fun {H enc w n cs x} h => ?_⟩
  obtain ⟨a, h1, h2⟩ := hd.get h
  exact ⟨g a, by show d.K w (f (g a)) cs; rw [hfg]; exact h1, by rw [hfg]; exact h2⟩
theorem arg_slice {α : Type} {d : Kd α} {P : Program} {t e : TypeId} {G : α → Prop} (hd : RdK (Kd.slice e d) P t (okSl G)) {H : Type} {enc : TypeId × Value → H} {w : World} {a : Option Addr} {len cap : Nat} {x : DataW H} {ps : List MemPlace}
    (h : DataW.Trod enc P w 0 (fun _ => true) true t (.slice a len cap) x ps) : ∃ xs : List α, len = xs.length ∧ xs.length ≤ cap ∧ Kd.C d w a xs.length xs ∧ okSl G xs := by
  obtain ⟨n, hn⟩ := h
  obtain ⟨xs, ⟨A, c, he, hl, hc⟩, hg⟩ := hd.get hn
  simp [Value.cells] at he
  obtain ⟨rfl, rfl, rfl⟩ := he
  exact ⟨xs, rfl, hl, hc, hg⟩
theorem arg_struct {α : Type} {d : Kd α} {P : Program} {t : TypeId} {G : α → Prop} (hd : RdK d P t G) {H : Type} {enc : TypeId × Value → H} {w : World} {cs : Array Value} {x : DataW H} {ps : List MemPlace}
    (h : DataW.Trod enc P w 0 (fun _ => true) true t (.agg cs) x ps) : ∃ a : α, d.K w a cs.toList ∧ G a := by
  obtain ⟨n, hn⟩ := h
  exact hd.get hn
end Go.Proofs.Ytnaafcleafbejaa.Rd
end
section
namespace Go.Proofs.Ytnaafcleafbejaa.Q
open Go.RowKit Go.Proofs.YtnaafcleafbejaaW.PrintWords Go.Proofs.YtnaafcleafbejaaW.PrintLast Go.Proofs.YtnaafcleafbejaaW.PrintMore
attribute [local go_sem] max2_int min2_int max_two min_two max_three min_three max_four min_four
set_option linter.unusedVariables false
set_option linter.unusedSimpArgs false
def good50 (x : S50) : Prop := Rd.okStr x.f0 ∧ (Rd.okInt .i64) x.f1 ∧ (Rd.okInt .i64) x.f2 ∧ (Rd.okInt .i64) x.f3
theorem rd50 : Rd.RdK k50 Try.prog 50 good50 :=
  Rd.rk_iso (Rd.rk_struct Try.underlying50 (by kernel_rfl) (Rd.rf_cons (Rd.rk_string Try.underlying9 (by kernel_rfl)) rfl (Rd.rf_cons (Rd.rk_int Try.underlying3 (by kernel_rfl)) rfl (Rd.rf_cons (Rd.rk_int Try.underlying3 (by kernel_rfl)) rfl (Rd.rf_one (Rd.rk_int Try.underlying3 (by kernel_rfl))))))) (fun x : S50 => (x.f0, x.f1, x.f2, x.f3)) (fun p => ⟨p.1, p.2.1, p.2.2.1, p.2.2.2⟩) (fun _ => rfl)
def good26 (x : S26) : Prop := (Rd.okSl Rd.okStr) x.f0 ∧ (Rd.okSl (Rd.okInt .i64)) x.f1
theorem rd26 : Rd.RdK k26 Try.prog 26 good26 :=
  Rd.rk_iso (Rd.rk_struct Try.underlying26 (by kernel_rfl) (Rd.rf_cons (Rd.rk_slice (Rd.rk_string Try.underlying9 (by kernel_rfl)) Try.underlying23 (by kernel_rfl)) rfl (Rd.rf_one (Rd.rk_slice (Rd.rk_int Try.underlying3 (by kernel_rfl)) Try.underlying24 (by kernel_rfl))))) (fun x : S26 => (x.f0, x.f1)) (fun p => ⟨p.1, p.2⟩) (fun _ => rfl)
def laws_FnExactFewestSteps.Pure : Prop := ∀ (a0 : List (S50)) (a1 : S26) (a2 : Int), (Rd.okSl good50) a0 → good26 a1 → (Rd.okInt .i64) a2 → ∃ k, laws_FnExactFewestSteps.f k a0 a1.f0 a1.f1 a2 = some true
theorem eqA64 (d : Nat) (w : World) (x0 y0 : ByteArray) (x1 y1 : Int) (x2 y2 : Int) (x3 y3 : Int) (x4 y4 : Int) :
   (Op.equalIn (d + 2) 64 (.agg #[.string x0, .int .i64 x1, .int .i64 x2, .int .i64 x3, .int .i64 x4]) (.agg #[.string y0, .int .i64 y1, .int .i64 y2, .int .i64 y3, .int .i64 y4])).run Try.prog w = .ok (x0.toList == y0.toList && (x1 == y1 && (x2 == y2 && (x3 == y3 && (x4 == y4))))) w := by
 refine eqA_of Try.underlying64 zq23 ?_
 refine eqf_cons (by rfl) (by go_simp; rfl) (by go_simp; rfl) (by go_simp) ?_
 refine eqf_cons (by rfl) (by go_simp; rfl) (by go_simp; rfl) (by go_simp) ?_
 refine eqf_cons (by rfl) (by go_simp; rfl) (by go_simp; rfl) (by go_simp) ?_
 refine eqf_cons (by rfl) (by go_simp; rfl) (by go_simp; rfl) (by go_simp) ?_
 exact eqf_last (by rfl) (by go_simp; rfl) (by go_simp; rfl) (by go_simp)
end Go.Proofs.Ytnaafcleafbejaa.Q
end
section
namespace Go.Proofs.Ytnaafcleafbejaa.Q
open Go.RowKit Go.Proofs.YtnaafcleafbejaaW.PrintWords Go.Proofs.YtnaafcleafbejaaW.PrintLast Go.Proofs.YtnaafcleafbejaaW.PrintMore
attribute [local go_sem] max2_int min2_int max_two min_two max_three min_three max_four min_four
set_option linter.unusedVariables false
set_option linter.unusedSimpArgs false
attribute [local go_sem high] eqA64
end Go.Proofs.Ytnaafcleafbejaa.Q
end
section
namespace Go.Proofs.Ytnaafcleafbejaa.Q
open Go.RowKit Go.Proofs.YtnaafcleafbejaaW.PrintWords Go.Proofs.YtnaafcleafbejaaW.PrintLast Go.Proofs.YtnaafcleafbejaaW.PrintMore
attribute [local go_sem] max2_int min2_int max_two min_two max_three min_three max_four min_four
set_option linter.unusedVariables false
set_option linter.unusedSimpArgs false
end Go.Proofs.Ytnaafcleafbejaa.Q
end
section
namespace Go.Proofs.Ytnaafcleafbejaa.Q
open Go.RowKit Go.Proofs.YtnaafcleafbejaaW.PrintWords Go.Proofs.YtnaafcleafbejaaW.PrintLast Go.Proofs.YtnaafcleafbejaaW.PrintMore
attribute [local go_sem] max2_int min2_int max_two min_two max_three min_three max_four min_four
set_option linter.unusedVariables false
set_option linter.unusedSimpArgs false
attribute [local go_sem high] eqA64
end Go.Proofs.Ytnaafcleafbejaa.Q
end
section
namespace Go.Proofs.Ytnaafcleafbejaa.Q
open Go.RowKit Go.Proofs.YtnaafcleafbejaaW.PrintWords Go.Proofs.YtnaafcleafbejaaW.PrintLast Go.Proofs.YtnaafcleafbejaaW.PrintMore
attribute [local go_sem] max2_int min2_int max_two min_two max_three min_three max_four min_four
set_option linter.unusedVariables false
set_option linter.unusedSimpArgs false
end Go.Proofs.Ytnaafcleafbejaa.Q
end
section
namespace Go.Proofs.Ytnaafcleafbejaa.PL
open Go Go.RowKit Go.Proofs.YtnaafcleafbejaaW.PrintWords Go.Proofs.YtnaafcleafbejaaW.PrintLast Go.Proofs.YtnaafcleafbejaaW.PrintMore Go.Proofs.Ytnaafcleafbejaa.Q
set_option linter.unusedSimpArgs false
set_option linter.unusedVariables false
theorem w64 {x : Int} (h1 : -9223372036854775808 ≤ x) (h2 : x < 9223372036854775808) : wrap64 x = x := by unfold wrap64; omega
theorem w64n (i : Nat) (h : i < 4611686018427387904) : wrap64 ((i : Int) + 1) = ((i + 1 : Nat) : Int) := by unfold wrap64; omega
theorem Ev.some {α : Type} {a r : α} (h : a = r) : Ev (fun _ => some a) r := h ▸ Ev.now a
theorem Ev.const {α : Type} {g : Option α} {r : α} (h : g = Option.some r) : Ev (fun _ => g) r := by rw [h]; exact Ev.now r
theorem ev_eq {α : Type} {g : Nat → Option α} {r s : α} (h : Ev g r) (e : r = s) : Ev g s := e ▸ h
theorem Ev.ifp {α : Type} {c : Prop} [Decidable c] {g g' : Nat → Option α} {r : α} (h : c) (H : Ev g r) : Ev (fun k => if c then g k else g' k) r := Ev.congr (fun _ => if_pos h) H
theorem Ev.ifn {α : Type} {c : Prop} [Decidable c] {g g' : Nat → Option α} {r : α} (h : ¬ c) (H : Ev g' r) : Ev (fun k => if c then g k else g' k) r := Ev.congr (fun _ => if_neg h) H
theorem Ev.call {α β : Type} {g : Option α} {f : Nat → α → Option β} {a : α} {r : β} (h : g = Option.some a) (k : Ev (fun n => f n a) r) : Ev (fun n => g.bind (f n)) r := by
  rw [h]; exact k
theorem loop_up {σ ρ : Type} (n : Nat) (L : Nat → σ → Int → Option ρ) (M : Nat → σ → ρ) (hend : ∀ s, Ev (fun k => L k s n) (M n s))
    (hstep : ∀ (i : Nat) s, i < n → (∀ s', Ev (fun k => L k s' ((i + 1 : Nat) : Int)) (M (i + 1) s')) → Ev (fun k => L k s i) (M i s)) :
    ∀ (d i : Nat) s, i + d = n → Ev (fun k => L k s i) (M i s)
  | 0, i, s, h => by
    have e : i = n := by omega
    rw [e]
    exact hend s
  | d + 1, i, s, h => hstep i s (by omega) (fun s' => loop_up n L M hend hstep d (i + 1) s' (by omega))
theorem loop_list {α σ ρ : Type} (xs : List α) (L : Nat → σ → Int → Option ρ) (m : List α → σ → ρ) (hend : ∀ s, Ev (fun k => L k s (xs.length : Nat)) (m [] s))
    (hstep : ∀ (i : Nat) s x rest, i < xs.length → (∀ d, xs.getD i d = x) → (∀ s', Ev (fun k => L k s' ((i + 1 : Nat) : Int)) (m rest s')) → Ev (fun k => L k s i) (m (x :: rest) s)) (s : σ) :
    Ev (fun k => L k s 0) (m xs s) := by
  have := loop_up xs.length L (fun i s => m (xs.drop i) s) (fun s => by simpa using hend s) (fun i s hi ih => by
    have e : xs.drop i = xs[i] :: xs.drop (i + 1) := List.drop_eq_getElem_cons hi
    show Ev (fun k => L k s i) (m (xs.drop i) s)
    rw [e]
    exact hstep i s xs[i] _ hi (fun d => by simp [List.getD, List.getElem?_eq_getElem hi]) ih) xs.length 0 s (by omega)
  simpa using this
def idx {α : Type} (p : α → Bool) : List α → Int
  | [] => -1
  | x :: xs => if p x = true then 0 else if idx p xs < 0 then -1 else idx p xs + 1
theorem idx_nonneg {α : Type} (p : α → Bool) (xs : List α) : 0 ≤ idx p xs ↔ ∃ x ∈ xs, p x = true := by
  induction xs with
  | nil => simp [idx]
  | cons x xs ih =>
    unfold idx
    by_cases h : p x = true
    · simp [h]
    · by_cases h2 : idx p xs < 0
      · rw [if_neg h, if_pos h2]
        have : ¬ ∃ x ∈ xs, p x = true := fun e => by have := ih.2 e; omega
        simp [h]
        simpa using this
      · rw [if_neg h, if_neg h2]
        have := ih.1 (by omega)
        simp [h]
        exact ⟨fun _ => this, fun _ => by omega⟩
theorem idx_ge {α : Type} (p : α → Bool) (xs : List α) : -1 ≤ idx p xs := by
  induction xs with
  | nil => unfold idx; simp
  | cons x xs ih => unfold idx; split; · decide
                    · split <;> omega
theorem search_ev {α : Type} (xs : List α) (p : α → Bool) (L : Nat → Int → Option Int) (hend : Ev (fun k => L k (xs.length : Nat)) (-1))
    (hyes : ∀ (i : Nat) x, i < xs.length → (∀ d, xs.getD i d = x) → p x = true → Ev (fun k => L k i) (i : Int))
    (hno : ∀ (i : Nat) x r, i < xs.length → (∀ d, xs.getD i d = x) → p x = false → Ev (fun k => L k ((i + 1 : Nat) : Int)) r → Ev (fun k => L k i) r) : Ev (fun k => L k 0) (idx p xs) := by
  have key : ∀ (d i : Nat), i + d = xs.length → Ev (fun k => L k i) (if idx p (xs.drop i) < 0 then -1 else idx p (xs.drop i) + i) := by
    intro d
    induction d with
    | zero =>
      intro i hi
      rw [List.drop_of_length_le (by omega), if_pos (show idx p [] < 0 by unfold idx; decide)]
      have e : i = xs.length := by omega
      rw [e]; exact hend
    | succ d ih =>
      intro i hi
      have hlt : i < xs.length := by omega
      have e : xs.drop i = xs[i] :: xs.drop (i + 1) := List.drop_eq_getElem_cons hlt
      have hg : ∀ d, xs.getD i d = xs[i] := fun d => by simp [List.getD, List.getElem?_eq_getElem hlt]
      rw [e]
      unfold idx
      by_cases h : p xs[i] = true
      · rw [if_pos h, if_neg (by decide)]
        simpa using hyes i _ hlt hg h
      · refine hno i _ _ hlt hg (by simpa using h) (ev_eq (ih (i + 1) (by omega)) ?_)
        rw [if_neg h]
        by_cases h2 : idx p (xs.drop (i + 1)) < 0
        · rw [if_pos h2, if_pos h2, if_pos (by decide)]
        · rw [if_neg h2, if_neg h2, if_neg (by omega)]
          omega
  have := key xs.length 0 (by omega)
  simp only [List.drop_zero, Int.natCast_zero, Int.add_zero] at this
  refine ev_eq this ?_
  have := idx_ge p xs
  split <;> omega
theorem all_ev {α : Type} (xs : List α) (p : α → Bool) (L : Nat → Int → Option Bool) (hend : Ev (fun k => L k (xs.length : Nat)) true)
    (hno : ∀ (i : Nat) x, i < xs.length → (∀ d, xs.getD i d = x) → p x = false → Ev (fun k => L k i) false)
    (hyes : ∀ (i : Nat) x r, i < xs.length → (∀ d, xs.getD i d = x) → p x = true → Ev (fun k => L k ((i + 1 : Nat) : Int)) r → Ev (fun k => L k i) r) : Ev (fun k => L k 0) (xs.all p) := by
  refine loop_list (σ := Unit) xs (fun k _ i => L k i) (fun l _ => l.all p) (fun _ => hend) (fun i _ x rest hi hx ih => ?_) ()
  by_cases h : p x = true
  · exact hyes i x _ hi hx h (ev_eq (ih ()) (by simp [h]))
  · have h' : p x = false := by simpa using h
    exact ev_eq (hno i x hi hx h') (by simp [h'])
theorem rd_eq {xs : List Int} {i : Nat} {x : Int} (h : ∀ d, xs.getD i d = x) : rd xs i = x := by unfold rd; rw [Int.toNat_natCast]; exact h 0
theorem rdOf_eq {α : Type} {d0 : α} {xs : List α} {i : Nat} {x : α} (h : ∀ d, xs.getD i d = x) : rdOf d0 xs i = x := by unfold rdOf; rw [Int.toNat_natCast]; exact h d0
theorem rdI_eq {xs : List S64} {i : Nat} {x : S64} (h : ∀ d, xs.getD i d = x) : rd_T64 xs i = x := by unfold rd_T64; rw [Int.toNat_natCast]; exact h _
theorem getD_eq {α : Type} (xs : List α) (i : Nat) (h : i < xs.length) : ∀ d, xs.getD i d = xs[i] := fun d => by simp [List.getD, List.getElem?_eq_getElem h]
theorem set_fill {α : Type} (xs ys : List α) (z : α) (v : α) : (xs ++ List.replicate (ys.length + 1) z).set xs.length v = (xs ++ [v]) ++ List.replicate ys.length z := by
  rw [List.set_append_right _ _ (Nat.le_refl _)]
  simp [List.replicate_succ]
abbrev Instr := S64
theorem toIntS_ev (l : List Int) (hl : l.length ≤ 1048576) : Ev (fun k => laws_toIntS.f k l) l := by
  have key : ∀ (d i : Nat), i + d = l.length → Ev (fun k => laws_toIntS.l0 k l (l.take i ++ List.replicate d 0) i) l := by
    intro d
    induction d with
    | zero =>
      intro i hi
      refine Ev.step (f := fun _ => some _) (fun k => ?_) (Ev.now _)
      simp only [laws_toIntS.l0]
      rw [if_neg (by omega), List.take_of_length_le (by omega)]
      simp
    | succ d ih =>
      intro i hi
      have hlt : i < l.length := by omega
      have hx := rd_eq (getD_eq l i hlt)
      refine Ev.step (fun k => ?_) (ih (i + 1) (by omega))
      simp only [laws_toIntS.l0]
      rw [if_pos (by omega), if_pos (by omega), if_pos (by simp; omega), hx, w64n i (by omega)]
      congr 1
      have e : ((i : Int)).toNat = (l.take i).length := by simp; omega
      rw [e]
      have := set_fill (l.take i) (List.replicate d (0 : Int)) 0 l[i]
      simp only [List.length_replicate] at this
      rw [this]
      congr 1
      rw [List.take_succ_eq_append_getElem hlt]
  unfold laws_toIntS.f
  refine Ev.ifp (by omega) (Ev.ifp (by simp; omega) ?_)
  simpa using key l.length 0 (by omega)
theorem eqIntS_refl (l : List Int) (hl : l.length ≤ 1048576) : Ev (fun k => laws_eqIntS.f k l l) true := by
  unfold laws_eqIntS.f
  simp only [if_true]
  refine loop_list (σ := Unit) l (fun k _ i => laws_eqIntS.l0 k l l i) (fun _ _ => true) (fun _ => ?_) (fun i _ x rest hi hx ih => ?_) ()
  · refine Ev.step (f := fun _ => some true) (fun k => ?_) (Ev.now _)
    simp only [laws_eqIntS.l0]
    rw [if_neg (by omega)]
  · refine Ev.step (fun k => ?_) (ih ())
    simp only [laws_eqIntS.l0, if_true]
    rw [if_pos (by omega), if_pos (by omega), w64n i (by omega), if_pos (by omega)]
theorem szStringS_ev (l : List ByteArray) (a : Int) (hl : Rd.okSl Rd.okStr l) (h0 : 0 ≤ a) (h1 : a ≤ 1048576) :
    ∃ r, Ev (fun k => laws_szStringS.f k l a) r ∧ (0 ≤ r → (l.length : Int) ≤ a ∧ r ≤ a) := by
  obtain ⟨hl1, hl2⟩ := hl
  unfold maxLen at hl1
  by_cases h : a < l.length
  · refine ⟨-1, ?_, fun h => absurd h (by decide)⟩
    unfold laws_szStringS.f
    rw [w64 (by omega) (by omega)]
    simp only [show a - (l.length : Int) < 0 by omega, if_true]
    exact Ev.now _
  · have key : ∀ (d i : Nat) (r : Int), i + d = l.length → 0 ≤ r → r ≤ a → ∃ q, Ev (fun k => laws_szStringS.l0 k l r i) q ∧ q ≤ a := by
      intro d
      induction d with
      | zero =>
        intro i r hi hr hra
        refine ⟨r, Ev.step (f := fun _ => some r) (fun k => ?_) (Ev.now _), hra⟩
        simp only [laws_szStringS.l0]
        rw [if_neg (by omega)]
      | succ d ih =>
        intro i r hi hr hra
        have hlt : i < l.length := by omega
        have hx : rdOf ByteArray.empty l i = l[i] := rdOf_eq (getD_eq l i hlt)
        have hsz : l[i].size ≤ maxLen := hl2 l[i] (List.getElem_mem hlt)
        unfold maxLen at hsz
        by_cases hb : r < l[i].size
        · refine ⟨-1, Ev.step (f := fun _ => some (-1)) (fun k => ?_) (Ev.now _), by omega⟩
          simp only [laws_szStringS.l0, hx]
          rw [if_pos (by omega), if_pos (by omega), w64 (by omega) (by omega), if_pos (by omega)]
        · obtain ⟨q, hq, hqa⟩ := ih (i + 1) (r - l[i].size) (by omega) (by omega) (by omega)
          refine ⟨q, Ev.step (fun k => ?_) hq, hqa⟩
          simp only [laws_szStringS.l0, hx]
          rw [if_pos (by omega), if_pos (by omega), w64 (by omega) (by omega), if_neg (by omega), w64n i (by omega)]
    obtain ⟨q, hq, hqa⟩ := key l.length 0 (a - l.length) (by omega) (by omega) (by omega)
    refine ⟨q, ?_, fun h' => ⟨by omega, hqa⟩⟩
    unfold laws_szStringS.f
    rw [w64 (by omega) (by omega)]
    simp only [show ¬ (a - (l.length : Int) < 0) by omega, if_false]
    simpa using hq
theorem szIntS_eq (l : List Int) (a : Int) (hl : l.length ≤ maxLen) (h0 : 0 ≤ a) (h1 : a ≤ 1048576) : laws_szIntS.f l a = some (if a < l.length then -1 else a - l.length) := by
  unfold maxLen at hl
  unfold laws_szIntS.f
  rw [w64 (by omega) (by omega)]
  by_cases h : a < l.length
  · rw [if_pos (by omega), if_pos h]
  · rw [if_neg (by omega), if_neg h]
theorem toStringS_ev (l : List ByteArray) (hl : l.length ≤ 1048576) : Ev (fun k => laws_toStringS.f k l) l := by
  have key : ∀ (d i : Nat), i + d = l.length → Ev (fun k => laws_toStringS.l0 k l (l.take i ++ List.replicate d ⟨#[]⟩) i) l := by
    intro d
    induction d with
    | zero =>
      intro i hi
      refine Ev.step (f := fun _ => some l) (fun k => ?_) (Ev.now _)
      simp only [laws_toStringS.l0]
      rw [if_neg (by omega), List.take_of_length_le (by omega)]
      simp
    | succ d ih =>
      intro i hi
      have hlt : i < l.length := by omega
      have hx : rdOf ByteArray.empty l i = l[i] := rdOf_eq (getD_eq l i hlt)
      refine Ev.step (fun k => ?_) (ih (i + 1) (by omega))
      simp only [laws_toStringS.l0]
      rw [if_pos (by omega), if_pos (by omega), if_pos (by simp; omega), hx, w64n i (by omega)]
      congr 1
      have e : ((i : Int)).toNat = (l.take i).length := by simp; omega
      rw [e]
      have := set_fill (l.take i) (List.replicate d (⟨#[]⟩ : ByteArray)) ⟨#[]⟩ l[i]
      simp only [List.length_replicate] at this
      rw [this]
      congr 1
      rw [List.take_succ_eq_append_getElem hlt]
  unfold laws_toStringS.f
  refine Ev.ifp (by omega) (Ev.ifp (by simp; omega) ?_)
  simpa using key l.length 0 (by omega)
theorem eqStringS_refl (l : List ByteArray) (hl : l.length ≤ 1048576) : Ev (fun k => laws_eqStringS.f k l l) true := by
  unfold laws_eqStringS.f
  simp only [if_true]
  refine loop_list (σ := Unit) l (fun k _ i => laws_eqStringS.l0 k l l i) (fun _ _ => true) (fun _ => ?_) (fun i _ x rest hi hx ih => ?_) ()
  · refine Ev.step (f := fun _ => some true) (fun k => ?_) (Ev.now _)
    simp only [laws_eqStringS.l0]
    rw [if_neg (by omega)]
  · refine Ev.step (fun k => ?_) (ih ())
    simp only [laws_eqStringS.l0, if_true]
    rw [if_pos (by omega), if_pos (by omega), w64n i (by omega), if_pos (by omega)]
theorem szChoice_ev (l : List ByteArray) (m : List Int) (a : Int) (hl : Rd.okSl Rd.okStr l) (hm : m.length ≤ maxLen) (h0 : 0 ≤ a) (h1 : a ≤ 1048576) :
    ∃ r, Ev (fun k => laws_szChoice.f k l m a) r ∧ (0 ≤ r → (l.length : Int) ≤ a ∧ (m.length : Int) ≤ a ∧ r ≤ a) := by
  unfold laws_szChoice.f
  obtain ⟨r, hr, hr'⟩ := szStringS_ev l a hl h0 h1
  by_cases hn : r < 0
  · exact ⟨-1, Ev.bind hr (Ev.ifp hn (Ev.now _)), fun h => absurd h (by decide)⟩
  obtain ⟨q1, q2⟩ := hr' (by omega)
  have e := szIntS_eq m r hm (by omega) (by omega)
  by_cases hn2 : r < m.length
  · rw [if_pos hn2] at e
    exact ⟨-1, Ev.bind hr (Ev.ifn hn (Ev.call e (Ev.ifp (by decide) (Ev.now _)))), fun h => absurd h (by decide)⟩
  · rw [if_neg hn2] at e
    exact ⟨r - m.length, Ev.bind hr (Ev.ifn hn (Ev.call e (Ev.ifn (by omega) (Ev.now _)))), fun h => ⟨by omega, by omega, by omega⟩⟩
theorem toChoice_ev (l : List ByteArray) (m : List Int) (hl : l.length ≤ 1048576) (hm : m.length ≤ 1048576) : Ev (fun k => laws_toChoice.f k l m) (l, m) := by
  unfold laws_toChoice.f
  exact Ev.bind (toStringS_ev l hl) (Ev.bind (toIntS_ev m hm) (Ev.now _))
theorem eqChoice_refl (l : List ByteArray) (m : List Int) (hl : l.length ≤ 1048576) (hm : m.length ≤ 1048576) : Ev (fun k => laws_eqChoice.f k l m l m) true := by
  unfold laws_eqChoice.f
  exact Ev.bind (eqStringS_refl l hl) (Ev.ifp rfl (Ev.bind (eqIntS_refl m hm) (Ev.ifp rfl (Ev.now _))))
open Classical in
def marksN : Nat → Nat → List Int
  | 0, _ => []
  | n + 1, a => (a : Int) :: marksN n (a + 1)
theorem marksN_len : ∀ n a, (marksN n a).length = n
  | 0, _ => rfl
  | n + 1, a => by simp [marksN, marksN_len n]
def shapeC (c : Nat) : Bool × Bool × Bool × Int × Int :=
  match c with
  | 0 => (true, false, false, 0, 63)
  | 1 => (true, true, false, 0, 0)
  | 2 => (true, true, true, 0, 0)
  | 3 => (true, true, true, 0, 0)
  | 4 => (true, true, true, 0, 0)
  | 5 => (true, true, false, 0, 63)
  | 6 => (true, true, false, 1, 5)
  | 7 => (true, true, true, 1, 3)
  | _ => (false, false, false, 0, 0)
theorem shape_closed : ∀ p ∈ ops, spec_cdShape.f 20 p.1 = some (shapeC p.2) := by decide +kernel
theorem formOf_eq (s : ByteArray) : impl_formOf.f s = some (formC (cls s) s) := rfl
theorem shape_ev (s : ByteArray) : Ev (fun k => spec_cdShape.f k s) (shapeC (cls s)) := by
  refine op_cases (P := fun s => Ev (fun k => spec_cdShape.f k s) (shapeC (cls s))) s (fun p hp => ?_) (fun h => ?_)
  · rw [cls_op p hp]
    exact Ev.of (spec_cdShape.mono _) (shape_closed p hp)
  · rw [cls_none h]
    obtain ⟨h0, h1, h2, h3, h4, h5, h6, h7, h8, h9, h10, h11, h12, h13, h14, h15, h16, h17, h18, h19⟩ := not_ops h
    refine Ev.of (spec_cdShape.mono _) (k := 5) ?_
    simp only [spec_cdShape.f, spec_cdShape.j0, spec_cdShape.j1, spec_cdShape.j2, spec_cdShape.j3, h0, h1, h2, h3, h4, h5, h6, h7, h8, h9, h10, h11, h12, h13, h14, h15, h16, h17, h18, h19, if_false, beq_iff_eq]
    rfl
theorem within_eq (a b c : Int) : impl_within.f a b c = some (decide (b ≤ a ∧ a ≤ c)) := by
  unfold impl_within.f
  by_cases h : b ≤ a <;> simp [h]
theorem l1In_eq (a b c : Int) : spec_l1In.f a b c = some (decide (b ≤ a ∧ a ≤ c)) := by
  unfold spec_l1In.f
  by_cases h : a ≥ b
  · rw [if_pos h]; congr 1; rw [decide_eq_decide]; omega
  · rw [if_neg h]; congr 1; symm; rw [decide_eq_false_iff_not]; omega
def okI (x : Instr) : Prop := cls x.f0 ≠ 8 ∧ (0 ≤ x.f1 ∧ x.f1 ≤ 5) ∧ ((shapeC (cls x.f0)).2.1 = true ∧ 0 ≤ x.f2 ∧ x.f2 ≤ 5 ∨ x.f2 = 0) ∧ ((shapeC (cls x.f0)).2.2.1 = true ∧ 0 ≤ x.f3 ∧ x.f3 ≤ 5 ∨ x.f3 = 0) ∧ (shapeC (cls x.f0)).2.2.2.1 ≤ x.f4 ∧ x.f4 ≤ (shapeC (cls x.f0)).2.2.2.2
instance (x : Instr) : Decidable (okI x) := by unfold okI; infer_instance
theorem cls_le (s : ByteArray) : cls s ≤ 8 := by
  refine op_cases (P := fun s => cls s ≤ 8) s (by decide +kernel) (fun h => by rw [cls_none h]; exact Nat.le_refl _)
theorem cls_cases (s : ByteArray) : cls s = 0 ∨ cls s = 1 ∨ cls s = 2 ∨ cls s = 3 ∨ cls s = 4 ∨ cls s = 5 ∨ cls s = 6 ∨ cls s = 7 ∨ cls s = 8 := by have := cls_le s; omega
theorem rdN_eq {xs : List S60} {i : Nat} {x : S60} (h : ∀ d, xs.getD i d = x) : rd_T60 xs i = x := by unfold rd_T60; rw [Int.toNat_natCast]; exact h _
theorem rdM_eq {xs : List S50} {i : Nat} {x : S50} (h : ∀ d, xs.getD i d = x) : rd_T50 xs i = x := by unfold rd_T50; rw [Int.toNat_natCast]; exact h _
abbrev Node := S60
abbrev LNode := S50
def cvN (x : LNode) : Node := ⟨x.f0, x.f1, x.f2, x.f3⟩
theorem szNode_eq (s : ByteArray) (a b c r : Int) (hs : s.size ≤ maxLen) (h0 : 0 ≤ r) (h1 : r ≤ 1048576) : laws_szNode.f s a b c r = some (if r < s.size then -1 else r - s.size) := by
  unfold maxLen at hs
  unfold laws_szNode.f
  rw [w64 (by omega) (by omega)]
  by_cases h : r < s.size
  · rw [if_pos (by omega), if_pos h]
  · rw [if_neg (by omega), if_neg h]
theorem szNodeS_ev (l : List LNode) (a : Int) (hl : Rd.okSl good50 l) (h0 : 0 ≤ a) (h1 : a ≤ 1048576) :
    ∃ r, Ev (fun k => laws_szNodeS.f k l a) r ∧ (0 ≤ r → (l.length : Int) ≤ a ∧ (∀ x ∈ l, (x.f0.size : Int) ≤ a) ∧ r ≤ a) := by
  obtain ⟨hl1, hl2⟩ := hl
  unfold maxLen at hl1
  by_cases h : a < l.length
  · refine ⟨-1, ?_, fun h => absurd h (by decide)⟩
    unfold laws_szNodeS.f
    rw [w64 (by omega) (by omega)]
    simp only [show a - (l.length : Int) < 0 by omega, if_true]
    exact Ev.now _
  · have key : ∀ (d i : Nat) (r : Int), i + d = l.length → 0 ≤ r → r ≤ a → ∃ q, Ev (fun k => laws_szNodeS.l0 k l r i) q ∧ q ≤ a ∧ (0 ≤ q → ∀ x ∈ l.drop i, (x.f0.size : Int) ≤ a) := by
      intro d
      induction d with
      | zero =>
        intro i r hi hr _
        refine ⟨r, Ev.step (f := fun _ => some r) (fun k => ?_) (Ev.now _), by omega, fun _ x hx => ?_⟩
        · simp only [laws_szNodeS.l0]
          rw [if_neg (by omega)]
        · rw [List.drop_of_length_le (by omega)] at hx
          cases hx
      | succ d ih =>
        intro i r hi hr hra
        have hlt : i < l.length := by omega
        have e : l.drop i = l[i] :: l.drop (i + 1) := List.drop_eq_getElem_cons hlt
        have hx := rdM_eq (getD_eq l i hlt)
        have hsz := (hl2 l[i] (List.getElem_mem hlt)).1
        by_cases hb : r < l[i].f0.size
        · refine ⟨-1, Ev.step (f := fun _ => some (-1)) (fun k => ?_) (Ev.now _), by omega, fun h => absurd h (by decide)⟩
          simp only [laws_szNodeS.l0]
          rw [if_pos (by omega), if_pos (by omega), hx, szNode_eq _ _ _ _ _ hsz hr (by omega), if_pos hb]
          rfl
        · obtain ⟨q, hq, hqa, hq'⟩ := ih (i + 1) (r - l[i].f0.size) (by omega) (by omega) (by omega)
          refine ⟨q, Ev.step (f := fun k => laws_szNodeS.l0 k l (r - l[i].f0.size) ((i + 1 : Nat) : Int)) (fun k => ?_) hq, hqa, fun h x hx' => ?_⟩
          · simp only [laws_szNodeS.l0]
            rw [if_pos (by omega), if_pos (by omega), hx, szNode_eq _ _ _ _ _ hsz hr (by omega), if_neg hb, Option.bind_some, if_neg (by omega), w64n i (by omega)]
          · rw [e] at hx'
            rcases List.mem_cons.1 hx' with rfl | hx'
            · omega
            · exact hq' h x hx'
    obtain ⟨q, hq, hqa, hq'⟩ := key l.length 0 (a - l.length) (by omega) (by omega) (by omega)
    refine ⟨q, ?_, fun h' => ⟨by omega, by simpa using hq' h', hqa⟩⟩
    unfold laws_szNodeS.f
    rw [w64 (by omega) (by omega)]
    simp only [show ¬ (a - (l.length : Int) < 0) by omega, if_false]
    simpa using hq
theorem toNodeS_ev (l : List LNode) (hl : l.length ≤ 1048576) : Ev (fun k => laws_toNodeS.f k l) (l.map cvN) := by
  have key : ∀ (d i : Nat), i + d = l.length → Ev (fun k => laws_toNodeS.l0 k l ((l.take i).map cvN ++ List.replicate d z60) i) (l.map cvN) := by
    intro d
    induction d with
    | zero =>
      intro i hi
      refine Ev.step (f := fun _ => some _) (fun k => ?_) (Ev.now _)
      simp only [laws_toNodeS.l0]
      rw [if_neg (by omega), List.take_of_length_le (by omega)]
      simp
    | succ d ih =>
      intro i hi
      have hlt : i < l.length := by omega
      have hx := rdM_eq (getD_eq l i hlt)
      refine Ev.step (fun k => ?_) (ih (i + 1) (by omega))
      simp only [laws_toNodeS.l0, laws_toNode.f, Option.bind_some]
      rw [if_pos (by omega), if_pos (by omega), if_pos (by simp; omega), hx, w64n i (by omega)]
      congr 1
      have e : ((i : Int)).toNat = ((l.take i).map cvN).length := by simp; omega
      rw [e]
      have := set_fill ((l.take i).map cvN) (List.replicate d z60) z60 (cvN l[i])
      simp only [List.length_replicate] at this
      rw [show (⟨l[i].f0, l[i].f1, l[i].f2, l[i].f3⟩ : Node) = cvN l[i] from rfl, this]
      congr 1
      rw [List.take_succ_eq_append_getElem hlt, List.map_append]
      rfl
  unfold laws_toNodeS.f
  refine Ev.ifp (by omega) (Ev.ifp (by simp; omega) ?_)
  simpa using key l.length 0 (by omega)
theorem eqNodeS_refl (l : List Node) (hl : l.length ≤ 1048576) : Ev (fun k => laws_eqNodeS.f k l l) true := by
  unfold laws_eqNodeS.f
  simp only [if_true]
  refine loop_list (σ := Unit) l (fun k _ i => laws_eqNodeS.l0 k l l i) (fun _ _ => true) (fun _ => ?_) (fun i _ x rest hi hx ih => ?_) ()
  · refine Ev.step (f := fun _ => some true) (fun k => ?_) (Ev.now _)
    simp only [laws_eqNodeS.l0]
    rw [if_neg (by omega)]
  · refine Ev.step (fun k => ?_) (ih ())
    simp only [laws_eqNodeS.l0, laws_eqNode.f, reduceIte, Option.bind_some]
    rw [if_pos (by omega), if_pos (by omega), w64n i (by omega), if_pos (by omega)]
theorem mem_of_getD {α : Type} {xs : List α} {i : Nat} {x : α} (hi : i < xs.length) (hx : ∀ d, xs.getD i d = x) : x ∈ xs := by
  have := hx x
  rw [getD_eq xs i hi] at this
  rw [← this]
  exact List.getElem_mem hi
theorem idx_mem {α : Type} (p : α → Bool) (xs : List α) (q : Prop) [Decidable q] (h : q ↔ ∃ x ∈ xs, p x = true) : decide (idx p xs ≥ 0) = decide q := by
  rw [decide_eq_decide]
  exact (idx_nonneg p xs).trans h.symm
def hasS (l : List ByteArray) (s : ByteArray) : Bool := l.any fun y => decide (y = s)
theorem hasS_iff (l : List ByteArray) (s : ByteArray) : hasS l s = true ↔ s ∈ l := by
  unfold hasS
  rw [List.any_eq_true]
  exact ⟨fun ⟨x, hx, h⟩ => of_decide_eq_true h ▸ hx, fun h => ⟨s, h, decide_eq_true rfl⟩⟩
theorem containsS_ev (l : List ByteArray) (s : ByteArray) (hl : l.length ≤ 1048576) : Ev (fun k => slices_Contains_string_string.f k l s) (hasS l s) := by
  have h : Ev (fun k => slices_Index_string_string.f k l s) (idx (fun y => decide (s = y)) l) := by
    unfold slices_Index_string_string.f
    refine search_ev l _ (fun k i => slices_Index_string_string.l0 k l s l.length i) ?_ (fun i x hi hx hp => ?_) (fun i x r hi hx hp hr => ?_)
    · refine Ev.step (f := fun _ => some (-1)) (fun k => ?_) (Ev.now _)
      simp only [slices_Index_string_string.l0]
      rw [if_neg (by omega)]
    · refine Ev.step (f := fun _ => some (i : Int)) (fun k => ?_) (Ev.now _)
      simp only [slices_Index_string_string.l0, rdOf_eq hx, str_eq]
      rw [if_pos (by omega), if_pos (by omega), if_pos (by omega), if_pos (of_decide_eq_true hp)]
    · refine Ev.step (fun k => ?_) hr
      simp only [slices_Index_string_string.l0, rdOf_eq hx, str_eq]
      rw [if_pos (by omega), if_pos (by omega), if_pos (by omega), if_neg (of_decide_eq_false hp), w64n i (by omega)]
  unfold slices_Contains_string_string.f
  refine Ev.bind h (Ev.some ?_)
  rw [Bool.eq_iff_iff, decide_eq_true_eq, hasS_iff]
  refine (idx_nonneg _ l).trans ⟨?_, fun h => ⟨s, h, decide_eq_true rfl⟩⟩
  rintro ⟨x, hx, h⟩
  rw [of_decide_eq_true h]
  exact hx
theorem l1HasS_ev (l : List ByteArray) (s : ByteArray) (hl : l.length ≤ 1048576) : Ev (fun k => spec_l1HasS.f k l s) (hasS l s) := by
  unfold spec_l1HasS.f
  refine loop_list (σ := Unit) l (fun k _ i => spec_l1HasS.l0 k s l l.length i) (fun r _ => hasS r s) (fun _ => ?_) (fun i _ x rest hi hx ih => ?_) ()
  · refine Ev.step (f := fun _ => some false) (fun k => ?_) (Ev.now _)
    simp only [spec_l1HasS.l0]
    rw [if_neg (by omega)]
  · refine Ev.step (fun k => by simp only [spec_l1HasS.l0, rdOf_eq hx, str_eq]; rfl) (Ev.ifp (by omega) (Ev.ifp (by omega) (Ev.ifp (by omega) ?_)))
    by_cases q : x = s
    · exact Ev.ifp q (Ev.some (by simp [hasS, q]))
    · refine Ev.ifn q ?_
      rw [w64n i (by omega)]
      refine ev_eq (ih ()) ?_
      simp [hasS, q]
theorem containsI_ev (l : List Int) (s : Int) (hl : l.length ≤ 1048576) : Ev (fun k => slices_Contains_int_int.f k l s) (decide (s ∈ l)) := by
  have h : Ev (fun k => slices_Index_int_int.f k l s) (idx (fun y => decide (s = y)) l) := by
    unfold slices_Index_int_int.f
    refine search_ev l _ (fun k i => slices_Index_int_int.l0 k l s l.length i) ?_ (fun i x hi hx hp => ?_) (fun i x r hi hx hp hr => ?_)
    · refine Ev.step (f := fun _ => some (-1)) (fun k => ?_) (Ev.now _)
      simp only [slices_Index_int_int.l0]
      rw [if_neg (by omega)]
    · refine Ev.step (f := fun _ => some (i : Int)) (fun k => ?_) (Ev.now _)
      simp only [slices_Index_int_int.l0, rd_eq hx]
      rw [if_pos (by omega), if_pos (by omega), if_pos (by omega), if_pos (of_decide_eq_true hp)]
    · refine Ev.step (fun k => ?_) hr
      simp only [slices_Index_int_int.l0, rd_eq hx]
      rw [if_pos (by omega), if_pos (by omega), if_pos (by omega), if_neg (of_decide_eq_false hp), w64n i (by omega)]
  unfold slices_Contains_int_int.f
  refine Ev.bind h (Ev.some (idx_mem _ _ _ ?_))
  constructor
  · exact fun h => ⟨s, h, decide_eq_true rfl⟩
  · rintro ⟨x, hx, h⟩
    rw [of_decide_eq_true h]
    exact hx
theorem l1Has_ev (l : List Int) (s : Int) (hl : l.length ≤ 1048576) : Ev (fun k => spec_l1Has.f k l s) (decide (s ∈ l)) := by
  unfold spec_l1Has.f
  refine loop_list (σ := Unit) l (fun k _ i => spec_l1Has.l0 k s l l.length i) (fun r _ => decide (s ∈ r)) (fun _ => ?_) (fun i _ x rest hi hx ih => ?_) ()
  · refine Ev.step (f := fun _ => some false) (fun k => ?_) (Ev.some (by simp))
    simp only [spec_l1Has.l0]
    rw [if_neg (by omega)]
  · refine Ev.step (fun k => by simp only [spec_l1Has.l0, rd_eq hx]; rfl) (Ev.ifp (by omega) (Ev.ifp (by omega) (Ev.ifp (by omega) ?_)))
    by_cases q : x = s
    · exact Ev.ifp q (Ev.some (by simp [q]))
    · refine Ev.ifn q ?_
      rw [w64n i (by omega)]
      refine ev_eq (ih ()) ?_
      rw [decide_eq_decide, List.mem_cons]
      exact ⟨Or.inr, fun h => h.resolve_left fun e => q e.symm⟩
def bops : List ByteArray := [⟨#[97, 100, 100]⟩, ⟨#[115, 117, 98]⟩, ⟨#[109, 117, 108]⟩, ⟨#[97, 110, 100]⟩, ⟨#[111, 114]⟩, ⟨#[120, 111, 114]⟩, ⟨#[115, 104, 108]⟩, ⟨#[115, 104, 114]⟩, ⟨#[108, 101, 115, 115]⟩, ⟨#[101, 113]⟩]
theorem binary_eq : impl_binary.f = some bops := rfl
theorem exOps_eq : spec_exOps.f = some bops := rfl
def isIn (s : ByteArray) : Prop := s.toList = ([105, 110] : List UInt8)
def isConst (s : ByteArray) : Prop := s.toList = ([99, 111, 110, 115, 116] : List UInt8)
def isNot (s : ByteArray) : Prop := s.toList = ([110, 111, 116] : List UInt8)
def isNeg (s : ByteArray) : Prop := s.toList = ([110, 101, 103] : List UInt8)
instance (s : ByteArray) : Decidable (isIn s) := by unfold isIn; infer_instance
instance (s : ByteArray) : Decidable (isConst s) := by unfold isConst; infer_instance
instance (s : ByteArray) : Decidable (isNot s) := by unfold isNot; infer_instance
instance (s : ByteArray) : Decidable (isNeg s) := by unfold isNeg; infer_instance
def kN (s : ByteArray) : Nat := if isIn s then 0 else if isConst s then 1 else if isNot s ∨ isNeg s then 2 else if hasS bops s = true then 3 else 4
def opndC (c : Nat) : Int := match c with | 0 => 0 | 1 => 0 | 2 => 1 | 3 => 2 | _ => -1
theorem kN_le (s : ByteArray) : kN s = 0 ∨ kN s = 1 ∨ kN s = 2 ∨ kN s = 3 ∨ kN s = 4 := by
  unfold kN
  split
  · simp
  split
  · simp
  split
  · simp
  split <;> simp
theorem operands_ev (s : ByteArray) : Ev (fun k => impl_operands.f k s) (opndC (kN s)) := by
  unfold impl_operands.f kN
  by_cases h1 : isIn s
  · rw [if_pos h1]
    refine Ev.ifp h1 (Ev.step (fun k => by simp only [impl_operands.j0]; rfl) (Ev.ifp (show true = true from rfl) (Ev.now _)))
  rw [if_neg h1]
  refine Ev.ifn h1 ?_
  by_cases h2 : isConst s
  · rw [if_pos h2]
    exact Ev.step (fun k => by simp only [impl_operands.j0]; rfl) (Ev.ifp (beq_iff_eq.2 h2) (Ev.now _))
  rw [if_neg h2]
  refine Ev.step (fun k => by simp only [impl_operands.j0]; rfl) (Ev.ifn (fun e => h2 (beq_iff_eq.1 e)) ?_)
  by_cases h3 : isNot s
  · rw [if_pos (Or.inl h3)]
    exact Ev.ifp h3 (Ev.step (fun k => by simp only [impl_operands.j1]; rfl) (Ev.ifp (show true = true from rfl) (Ev.now _)))
  refine Ev.ifn h3 ?_
  by_cases h4 : isNeg s
  · rw [if_pos (Or.inr h4)]
    exact Ev.step (fun k => by simp only [impl_operands.j1]; rfl) (Ev.ifp (beq_iff_eq.2 h4) (Ev.now _))
  rw [if_neg (fun e => e.elim h3 h4)]
  refine Ev.step (fun k => by simp only [impl_operands.j1]; rfl) (Ev.ifn (fun e => h4 (beq_iff_eq.1 e)) ?_)
  refine Ev.call binary_eq (Ev.bind (containsS_ev bops s (by decide)) ?_)
  by_cases h5 : hasS bops s = true
  · simp only [if_pos h5]
    exact Ev.now _
  · simp only [if_neg h5]
    exact Ev.now _
theorem exOne_eq (s : ByteArray) : spec_exOne.f s = some (decide (isNot s ∨ isNeg s)) := by
  unfold spec_exOne.f
  by_cases h3 : isNot s
  · rw [if_pos (show s.toList = _ from h3), decide_eq_true (Or.inl h3)]
  · rw [if_neg (show ¬ s.toList = _ from h3)]
    congr 1
    rw [Bool.eq_iff_iff, beq_iff_eq, decide_eq_true_eq]
    exact ⟨Or.inr, fun h => h.resolve_left h3⟩
theorem exTwo_ev (s : ByteArray) : Ev (fun k => spec_exTwo.f k s) (hasS bops s) := by
  unfold spec_exTwo.f
  exact Ev.call exOps_eq (Ev.bind (l1HasS_ev bops s (by decide)) (Ev.now _))
def partsC (c : Nat) (a b : Int) : List Int := match c with | 2 => [a] | 3 => [a, b] | _ => []
theorem of_ev (x : Node) : Ev (fun k => impl_Node_of.f k x.f0 x.f1 x.f2 x.f3) (partsC (kN x.f0) x.f1 x.f2) := by
  unfold impl_Node_of.f
  refine Ev.call rfl (Ev.bind (operands_ev x.f0) (Ev.const ?_))
  rcases kN_le x.f0 with h | h | h | h | h <;> rw [h] <;> rfl
theorem exParts_ev (x : Node) : Ev (fun k => spec_exParts.f k x.f0 x.f1 x.f2 x.f3) (partsC (kN x.f0) x.f1 x.f2) := by
  unfold spec_exParts.f
  refine Ev.call (exOne_eq _) ?_
  have d1 : ∀ s, isIn s → ¬ (isNot s ∨ isNeg s) := fun s h e => by unfold isIn at h; unfold isNot isNeg at e; rw [h] at e; revert e; decide
  have d2 : ∀ s, isConst s → ¬ (isNot s ∨ isNeg s) := fun s h e => by unfold isConst at h; unfold isNot isNeg at e; rw [h] at e; revert e; decide
  have d3 : ∀ s, isIn s → ¬ hasS bops s = true := fun s h => by rw [str_lit.1 h]; decide +kernel
  have d4 : ∀ s, isConst s → ¬ hasS bops s = true := fun s h => by rw [str_lit.1 h]; decide +kernel
  unfold kN
  by_cases h1 : isIn x.f0
  · rw [if_pos h1]
    exact Ev.ifn (by simpa using d1 _ h1) (Ev.bind (exTwo_ev _) (Ev.ifn (d3 _ h1) (Ev.now _)))
  rw [if_neg h1]
  by_cases h2 : isConst x.f0
  · rw [if_pos h2]
    exact Ev.ifn (by simpa using d2 _ h2) (Ev.bind (exTwo_ev _) (Ev.ifn (d4 _ h2) (Ev.now _)))
  rw [if_neg h2]
  by_cases h3 : isNot x.f0 ∨ isNeg x.f0
  · rw [if_pos h3]
    exact Ev.ifp (by simpa using h3) (Ev.now _)
  rw [if_neg h3]
  refine Ev.ifn (by simpa using h3) (Ev.bind (exTwo_ev _) ?_)
  by_cases h5 : hasS bops x.f0 = true
  · simp only [if_pos h5]
    exact Ev.now _
  · simp only [if_neg h5]
    exact Ev.now _
def okNd (c : Nat) (a b m i : Int) : Bool := match c with
  | 0 => decide (a = 0 ∧ b = 0 ∧ 0 ≤ m ∧ m ≤ 1)
  | 1 => decide (a = 0 ∧ b = 0 ∧ 0 ≤ m ∧ m ≤ 63)
  | 2 => decide ((0 ≤ a ∧ a ≤ i - 1) ∧ b = 0 ∧ m = 0)
  | 3 => decide ((0 ≤ a ∧ a ≤ i - 1) ∧ (0 ≤ b ∧ b ≤ i - 1) ∧ m = 0)
  | _ => false
def okNx (x : Node) (i : Int) : Bool := okNd (kN x.f0) x.f1 x.f2 x.f3 i
theorem exNode_ev (x : Node) (i : Nat) (hi : i ≤ 1048576) : Ev (fun k => spec_exNode.f k x.f0 x.f1 x.f2 x.f3 i) (okNx x i) := by
  obtain ⟨s, a, b, m⟩ := x
  simp only [okNx]
  unfold spec_exNode.f kN
  have e1 : wrap64 ((i : Int) - 1) = (i : Int) - 1 := w64 (by omega) (by omega)
  by_cases h1 : isIn s
  · rw [if_pos h1]
    refine Ev.ifp h1 (Ev.const ?_)
    simp only [l1In_eq, Option.bind_some, okNd]
    by_cases q1 : a = 0 <;> by_cases q2 : b = 0 <;> simp [q1, q2]
  rw [if_neg h1]
  refine Ev.ifn h1 ?_
  by_cases h2 : isConst s
  · rw [if_pos h2]
    refine Ev.ifp h2 (Ev.const ?_)
    simp only [spec_exWord.f, l1In_eq, Option.bind_some, okNd]
    by_cases q1 : a = 0 <;> by_cases q2 : b = 0 <;> simp [q1, q2]
  rw [if_neg h2]
  refine Ev.ifn h2 (Ev.call (exOne_eq _) ?_)
  rw [e1]
  by_cases h3 : isNot s ∨ isNeg s
  · rw [if_pos h3]
    refine Ev.ifp (by simpa using h3) (Ev.const ?_)
    simp only [l1In_eq, Option.bind_some, okNd]
    by_cases q1 : 0 ≤ a ∧ a ≤ (i : Int) - 1 <;> by_cases q2 : b = 0 <;> by_cases q3 : m = 0 <;> simp [q1, q2, q3]
  rw [if_neg h3]
  refine Ev.ifn (by simpa using h3) (Ev.bind (exTwo_ev _) ?_)
  by_cases h5 : hasS bops s = true
  · simp only [if_pos h5]
    refine Ev.const ?_
    simp only [l1In_eq, Option.bind_some, okNd]
    by_cases q1 : 0 ≤ a ∧ a ≤ (i : Int) - 1 <;> by_cases q2 : 0 ≤ b ∧ b ≤ (i : Int) - 1 <;> by_cases q3 : m = 0 <;> simp [q1, q2, q3]
  · simp only [if_neg h5]
    exact Ev.now _
theorem isNode_ev (x : Node) (i : Nat) (hi : i ≤ 1048576) : Ev (fun k => impl_Node_isNode.f k x.f0 x.f1 x.f2 x.f3 i) (okNx x i) := by
  obtain ⟨s, a, b, m⟩ := x
  simp only [okNx]
  unfold impl_Node_isNode.f
  refine Ev.bind (operands_ev s) (Ev.call rfl ?_)
  have e1 : wrap64 ((i : Int) - 1) = (i : Int) - 1 := w64 (by omega) (by omega)
  have r0 : rd [a, b] 0 = a := rfl
  have r1 : rd [a, b] 1 = b := rfl
  have fin : ∀ r : Bool, (isIn s → decide (0 ≤ m ∧ m ≤ 1) = r) → (isConst s → decide (0 ≤ m ∧ m ≤ 63) = r) → (¬ isIn s → ¬ isConst s → (if opndC (kN s) > 0 then (m == 0) else false) = r) → Ev (fun k => impl_Node_isNode.l0 k i (opndC (kN s)) [a, b] 2 2 s a b m) r := by
    intro r f1 f2 f3
    refine Ev.step (fun k => by simp only [impl_Node_isNode.l0]; rfl) (Ev.ifn (by decide) ?_)
    by_cases h1 : isIn s
    · refine Ev.ifp h1 (Ev.const ?_)
      rw [within_eq, f1 h1]
      rfl
    refine Ev.ifn h1 ?_
    by_cases h2 : isConst s
    · refine Ev.ifp h2 (Ev.const ?_)
      simp only [impl_isWord.f, within_eq, Option.bind_some]
      rw [f2 h2]
    refine Ev.ifn h2 (Ev.const ?_)
    rw [← f3 h1 h2]
    split <;> rfl
  have one : ∀ r : Bool, ((if 1 < opndC (kN s) then decide (0 ≤ b ∧ b ≤ (i : Int) - 1) else decide (b = 0)) = false → r = false) → ((if 1 < opndC (kN s) then decide (0 ≤ b ∧ b ≤ (i : Int) - 1) else decide (b = 0)) = true → Ev (fun k => impl_Node_isNode.l0 k i (opndC (kN s)) [a, b] 2 2 s a b m) r) → Ev (fun k => impl_Node_isNode.l0 k i (opndC (kN s)) [a, b] 2 1 s a b m) r := by
    intro r f1 f2
    refine Ev.step (fun k => by simp only [impl_Node_isNode.l0, r1, e1, within_eq, Option.bind_some, show wrap64 (1 + 1) = 2 from w64 (by decide) (by decide)]; rfl) (Ev.ifp (by decide) (Ev.ifp (by decide) (Ev.ifp (by simp) ?_)))
    by_cases h : 1 < opndC (kN s)
    · rw [if_pos h] at f1 f2
      refine Ev.ifp h ?_
      by_cases q : 0 ≤ b ∧ b ≤ (i : Int) - 1
      · exact Ev.ifp (by simpa using q) (Ev.ifn (by omega) (f2 (by simpa using q)))
      · exact Ev.ifn (by simpa using q) (Ev.some (f1 (by simpa using q)).symm)
    · rw [if_neg h] at f1 f2
      refine Ev.ifn h (Ev.ifp (by omega) ?_)
      by_cases q : b = 0
      · exact Ev.ifp q (f2 (by simpa using q))
      · exact Ev.ifn q (Ev.some (f1 (by simpa using q)).symm)
  have zero : ∀ r : Bool, ((if 0 < opndC (kN s) then decide (0 ≤ a ∧ a ≤ (i : Int) - 1) else decide (a = 0)) = false → r = false) → ((if 0 < opndC (kN s) then decide (0 ≤ a ∧ a ≤ (i : Int) - 1) else decide (a = 0)) = true → Ev (fun k => impl_Node_isNode.l0 k i (opndC (kN s)) [a, b] 2 1 s a b m) r) → Ev (fun k => impl_Node_isNode.l0 k i (opndC (kN s)) [a, b] 2 0 s a b m) r := by
    intro r f1 f2
    refine Ev.step (fun k => by simp only [impl_Node_isNode.l0, r0, e1, within_eq, Option.bind_some, show wrap64 (0 + 1) = 1 from w64 (by decide) (by decide)]; rfl) (Ev.ifp (by decide) (Ev.ifp (by decide) (Ev.ifp (by simp) ?_)))
    by_cases h : 0 < opndC (kN s)
    · rw [if_pos h] at f1 f2
      refine Ev.ifp h ?_
      by_cases q : 0 ≤ a ∧ a ≤ (i : Int) - 1
      · exact Ev.ifp (by simpa using q) (Ev.ifn (by omega) (f2 (by simpa using q)))
      · exact Ev.ifn (by simpa using q) (Ev.some (f1 (by simpa using q)).symm)
    · rw [if_neg h] at f1 f2
      refine Ev.ifn h (Ev.ifp (by omega) ?_)
      by_cases q : a = 0
      · exact Ev.ifp q (f2 (by simpa using q))
      · exact Ev.ifn q (Ev.some (f1 (by simpa using q)).symm)
  show Ev (fun k => impl_Node_isNode.l0 k i (opndC (kN s)) [a, b] 2 0 s a b m) _
  have hin : isIn s ↔ kN s = 0 := by
    unfold kN
    by_cases h : isIn s
    · simp [h]
    · simp only [h, if_false, false_iff]
      repeat' split
      all_goals decide
  have hco : ¬ isIn s → (isConst s ↔ kN s = 1) := fun h0 => by
    unfold kN
    by_cases h : isConst s
    · simp [h, h0]
    · simp only [h, h0, if_false, false_iff]
      repeat' split
      all_goals decide
  have hdis : isConst s → ¬ isIn s := fun h e => by unfold isConst at h; unfold isIn at e; rw [h] at e; revert e; decide
  refine zero _ (fun q => ?_) (fun q0 => one _ (fun q => ?_) (fun q1 => fin _ (fun h => ?_) (fun h => ?_) (fun h h' => ?_)))
  · rcases kN_le s with c | c | c | c | c <;> rw [c] at q ⊢ <;> simp [opndC, okNd] at q ⊢ <;> omega
  · rcases kN_le s with c | c | c | c | c <;> rw [c] at q ⊢ <;> simp [opndC, okNd] at q ⊢ <;> omega
  · have c := hin.1 h
    rw [c] at q0 q1 ⊢
    simp [opndC] at q0 q1
    simp [okNd, q0, q1]
  · have c := (hco (hdis h)).1 h
    rw [c] at q0 q1 ⊢
    simp [opndC] at q0 q1
    simp [okNd, q0, q1]
  · rcases kN_le s with c | c | c | c | c
    · exact absurd (hin.2 c) h
    · exact absurd ((hco h).2 c) h'
    · rw [c] at q0 q1 ⊢
      simp [opndC] at q0 q1
      simp [okNd, opndC, q0, q1]
      rw [Bool.eq_iff_iff]
      simp
    · rw [c] at q0 q1 ⊢
      simp [opndC] at q0 q1
      simp [okNd, opndC, q0, q1]
      rw [Bool.eq_iff_iff]
      simp
    · rw [c]
      simp [okNd, opndC]
def okNs : Nat → List Node → Bool
  | _, [] => true
  | i, x :: xs => okNx x i && okNs (i + 1) xs
theorem okNs_get : ∀ (xs : List Node) (i j : Nat) (h : j < xs.length), okNs i xs = true → okNx xs[j] ((i + j : Nat) : Int) = true
  | [], _, _, h, _ => absurd h (by simp)
  | x :: xs, i, 0, _, ho => by
    simp only [okNs, Bool.and_eq_true] at ho
    exact ho.1
  | x :: xs, i, j + 1, h, ho => by
    simp only [okNs, Bool.and_eq_true] at ho
    have := okNs_get xs (i + 1) j (by simpa using h) ho.2
    rw [show i + 1 + j = i + (j + 1) by omega] at this
    exact this
def incr (u : List Int) (p : Int) : List Int := u.set p.toNat (wrap64 (rd u p + 1))
def usesN (u : List Int) (x : Node) : List Int := (partsC (kN x.f0) x.f1 x.f2).foldl incr u
def usesL (l : List Node) : List Int := l.foldl usesN (List.replicate l.length 0)
theorem incr_len (u : List Int) (p : Int) : (incr u p).length = u.length := List.length_set
theorem foldl_incr_len (ps : List Int) : ∀ u, (ps.foldl incr u).length = u.length := by
  induction ps with
  | nil => exact fun u => rfl
  | cons p ps ih => exact fun u => (ih _).trans (incr_len u p)
theorem usesN_len (u : List Int) (x : Node) : (usesN u x).length = u.length := foldl_incr_len _ u
theorem foldl_usesN_len (l : List Node) : ∀ u, (l.foldl usesN u).length = u.length := by
  induction l with
  | nil => exact fun u => rfl
  | cons x l ih => exact fun u => (ih _).trans (usesN_len u x)
theorem usesL_len (l : List Node) : (usesL l).length = l.length := by
  unfold usesL
  rw [foldl_usesN_len, List.length_replicate]
theorem parts_ok {x : Node} {i : Int} (h : okNx x i = true) : (partsC (kN x.f0) x.f1 x.f2).length ≤ 2 ∧ ∀ p ∈ partsC (kN x.f0) x.f1 x.f2, 0 ≤ p ∧ p ≤ i - 1 := by
  unfold okNx at h
  rcases kN_le x.f0 with c | c | c | c | c <;> rw [c] at h ⊢ <;> simp [okNd] at h <;> simp [partsC] <;> omega
theorem uses_loop (L0 : Nat → List Int → Int → Option (List Int)) (L1 : Nat → List Int → Int → List Int → Int → Int → Option (List Int)) (i : Nat) (n : Nat) (r : List Int)
    (h0 : ∀ k u ps j, L1 (k + 1) u i ps (ps.length : Nat) (j : Nat) = if (j : Int) < (ps.length : Nat) then (if (0 : Int) ≤ (j : Nat) then (if ((j : Nat) : Int) < (ps.length : Nat) then (if 0 ≤ rd ps (j : Nat) then (if rd ps (j : Nat) < (u.length : Int) then L1 k (u.set (rd ps (j : Nat) : Int).toNat (wrap64 (rd u (rd ps (j : Nat)) + 1))) i ps (ps.length : Nat) (wrap64 ((j : Nat) + 1)) else none) else none) else none) else none) else L0 k u (wrap64 ((i : Nat) + 1)))
    (ps : List Int) (hps : ps.length ≤ 2) (hp : ∀ p ∈ ps, 0 ≤ p ∧ p < n) (u : List Int) (hu : u.length = n) (hi : i ≤ 1048576) (H : Ev (fun k => L0 k (ps.foldl incr u) ((i + 1 : Nat) : Int)) r) : Ev (fun k => L1 k u i ps ps.length 0) r := by
  have key : ∀ (d j : Nat) (u : List Int), u.length = n → j + d = ps.length → Ev (fun k => L0 k ((ps.drop j).foldl incr u) ((i + 1 : Nat) : Int)) r → Ev (fun k => L1 k u i ps ps.length (j : Nat)) r := by
    intro d
    induction d with
    | zero =>
      intro j u hu hj H
      refine Ev.step (fun k => h0 k u ps j) (Ev.ifn (by omega) ?_)
      rw [w64n i (by omega)]
      rw [List.drop_of_length_le (by omega)] at H
      exact H
    | succ d ih =>
      intro j u hu hj H
      have hlt : j < ps.length := by omega
      have e : ps.drop j = ps[j] :: ps.drop (j + 1) := List.drop_eq_getElem_cons hlt
      have hx := rd_eq (getD_eq ps j hlt)
      have hb := hp ps[j] (List.getElem_mem hlt)
      refine Ev.step (fun k => h0 k u ps j) (Ev.ifp (by omega) (Ev.ifp (by omega) (Ev.ifp (by omega) (Ev.ifp (by rw [hx]; exact hb.1) (Ev.ifp (by rw [hx]; omega) ?_)))))
      rw [hx, w64n j (by omega)]
      rw [e] at H
      exact ih (j + 1) (incr u ps[j]) (by rw [incr_len]; exact hu) (by omega) H
  exact key ps.length 0 u hu (by omega) H
theorem uses_ev (l : List Node) (h : okNs 0 l = true) (hl : l.length ≤ 1000) : Ev (fun k => impl_uses.f k l) (usesL l) := by
  unfold impl_uses.f
  refine Ev.ifp (by omega) (Ev.ifp (by simp; omega) ?_)
  have key : ∀ (d i : Nat) (u : List Int), u.length = l.length → i + d = l.length → Ev (fun k => impl_uses.l0 k u l l.length i) ((l.drop i).foldl usesN u) := by
    intro d
    induction d with
    | zero =>
      intro i u hu hi
      refine Ev.step (f := fun _ => some u) (fun k => ?_) (Ev.some ?_)
      · simp only [impl_uses.l0]
        rw [if_neg (by omega)]
      · rw [List.drop_of_length_le (by omega)]
        rfl
    | succ d ih =>
      intro i u hu hi
      have hlt : i < l.length := by omega
      have e : l.drop i = l[i] :: l.drop (i + 1) := List.drop_eq_getElem_cons hlt
      have hx := rdN_eq (getD_eq l i hlt)
      have ok := okNs_get l 0 i hlt h
      rw [Nat.zero_add] at ok
      obtain ⟨p1, p2⟩ := parts_ok ok
      rw [e]
      refine Ev.step (fun k => by simp only [impl_uses.l0, hx]; rfl) (Ev.ifp (by omega) (Ev.ifp (by omega) (Ev.ifp (by omega) (Ev.bind (of_ev l[i]) ?_))))
      exact uses_loop (fun k u j => impl_uses.l0 k u l l.length j) (fun k u i ps n j => impl_uses.l1 k u l l.length i ps n j) i l.length _ (fun k u ps j => by simp only [impl_uses.l1]) _ p1 (fun p hp => by have := p2 p hp; omega) u hu (by omega) (ih (i + 1) _ (by rw [foldl_incr_len]; exact hu) (by omega))
  simpa [usesL] using key l.length 0 (List.replicate l.length 0) (by simp) (by omega)
theorem exUses_ev (l : List Node) (h : okNs 0 l = true) (hl : l.length ≤ 1000) : Ev (fun k => spec_exUses.f k l) (usesL l) := by
  unfold spec_exUses.f
  refine Ev.ifp (by omega) (Ev.ifp (by simp; omega) ?_)
  have key : ∀ (d i : Nat) (u : List Int), u.length = l.length → i + d = l.length → Ev (fun k => spec_exUses.l0 k u l l.length i) ((l.drop i).foldl usesN u) := by
    intro d
    induction d with
    | zero =>
      intro i u hu hi
      refine Ev.step (f := fun _ => some u) (fun k => ?_) (Ev.some ?_)
      · simp only [spec_exUses.l0]
        rw [if_neg (by omega)]
      · rw [List.drop_of_length_le (by omega)]
        rfl
    | succ d ih =>
      intro i u hu hi
      have hlt : i < l.length := by omega
      have e : l.drop i = l[i] :: l.drop (i + 1) := List.drop_eq_getElem_cons hlt
      have hx := rdN_eq (getD_eq l i hlt)
      have ok := okNs_get l 0 i hlt h
      rw [Nat.zero_add] at ok
      obtain ⟨p1, p2⟩ := parts_ok ok
      rw [e]
      refine Ev.step (fun k => by simp only [spec_exUses.l0, hx]; rfl) (Ev.ifp (by omega) (Ev.ifp (by omega) (Ev.ifp (by omega) (Ev.bind (exParts_ev l[i]) ?_))))
      exact uses_loop (fun k u j => spec_exUses.l0 k u l l.length j) (fun k u i ps n j => spec_exUses.l1 k u l l.length i ps n j) i l.length _ (fun k u ps j => by simp only [spec_exUses.l1]) _ p1 (fun p hp => by have := p2 p hp; omega) u hu (by omega) (ih (i + 1) _ (by rw [foldl_incr_len]; exact hu) (by omega))
  simpa [usesL] using key l.length 0 (List.replicate l.length 0) (by simp) (by omega)
def okExpr (l : List Node) : Bool := decide (1 ≤ l.length ∧ l.length ≤ 24) && (okNs 0 l && !decide ((0 : Int) ∈ (usesL l).take (l.length - 1)))
theorem isExpr_ev (l : List Node) : Ev (fun k => impl_IsExpr.f k l) (okExpr l) := by
  unfold impl_IsExpr.f okExpr
  refine Ev.call (within_eq _ _ _) ?_
  by_cases hl : 1 ≤ l.length ∧ l.length ≤ 24
  · rw [decide_eq_true hl, Bool.true_and]
    refine Ev.ifp (by simp; omega) ?_
    have key : ∀ (d i : Nat), i + d = l.length → (okNs 0 l = true → okNs i (l.drop i) = true) → (okNs 0 l = false → okNs i (l.drop i) = false) → Ev (fun k => impl_IsExpr.l0 k l l l.length i) (okNs 0 l && !decide ((0 : Int) ∈ (usesL l).take (l.length - 1))) := by
      intro d
      induction d with
      | zero =>
        intro i hi _ hf
        have ok : okNs 0 l = true := by
          cases h : okNs 0 l
          · have := hf h
            rw [List.drop_of_length_le (by omega)] at this
            cases this
          · rfl
        rw [ok, Bool.true_and]
        refine Ev.step (fun k => by simp only [impl_IsExpr.l0]; rfl) (Ev.ifn (by omega) (Ev.bind (uses_ev l ok (by omega)) ?_))
        have e1 : wrap64 ((l.length : Int) - 1) = ((l.length - 1 : Nat) : Int) := by rw [w64 (by omega) (by omega)]; omega
        rw [e1]
        refine Ev.ifp (by omega) (Ev.ifp (by rw [usesL_len]; omega) ?_)
        rw [Int.toNat_natCast]
        exact Ev.bind (containsI_ev _ 0 (by rw [List.length_take, usesL_len]; omega)) (Ev.now _)
      | succ d ih =>
        intro i hi ht hf
        have hlt : i < l.length := by omega
        have e : l.drop i = l[i] :: l.drop (i + 1) := List.drop_eq_getElem_cons hlt
        have hx := rdN_eq (getD_eq l i hlt)
        rw [e] at ht hf
        simp only [okNs] at ht hf
        refine Ev.step (fun k => by simp only [impl_IsExpr.l0, hx]; rfl) (Ev.ifp (by omega) (Ev.ifp (by omega) (Ev.ifp (by omega) (Ev.bind (isNode_ev l[i] i (by omega)) ?_))))
        cases h : okNx l[i] i
        · refine Ev.ifn (by decide) (Ev.some ?_)
          rw [h] at ht
          cases h0 : okNs 0 l
          · rfl
          · exact absurd (ht h0) (by simp)
        · rw [h] at ht hf
          refine Ev.ifp rfl ?_
          rw [w64n i (by omega)]
          exact ih (i + 1) (by omega) (by simpa using ht) (by simpa using hf)
    simpa using key l.length 0 (by omega) (fun h => h) (fun h => h)
  · rw [decide_eq_false hl, Bool.false_and]
    exact Ev.ifn (by simp; omega) (Ev.now _)
theorem exGood_ev (l : List Node) : Ev (fun k => spec_exGood.f k l) (okExpr l) := by
  unfold spec_exGood.f okExpr
  refine Ev.call (l1In_eq _ _ _) ?_
  by_cases hl : 1 ≤ l.length ∧ l.length ≤ 24
  · rw [decide_eq_true hl, Bool.true_and]
    refine Ev.ifp (by simp; omega) ?_
    have key : ∀ (d i : Nat), i + d = l.length → (okNs 0 l = true → okNs i (l.drop i) = true) → (okNs 0 l = false → okNs i (l.drop i) = false) → Ev (fun k => spec_exGood.l0 k l l l.length i) (okNs 0 l && !decide ((0 : Int) ∈ (usesL l).take (l.length - 1))) := by
      intro d
      induction d with
      | zero =>
        intro i hi _ hf
        have ok : okNs 0 l = true := by
          cases h : okNs 0 l
          · have := hf h
            rw [List.drop_of_length_le (by omega)] at this
            cases this
          · rfl
        rw [ok, Bool.true_and]
        refine Ev.step (fun k => by simp only [spec_exGood.l0]; rfl) (Ev.ifn (by omega) (Ev.bind (exUses_ev l ok (by omega)) ?_))
        have e1 : wrap64 ((l.length : Int) - 1) = ((l.length - 1 : Nat) : Int) := by rw [w64 (by omega) (by omega)]; omega
        rw [e1]
        refine Ev.ifp (by omega) (Ev.ifp (by rw [usesL_len]; omega) ?_)
        rw [Int.toNat_natCast]
        exact Ev.bind (l1Has_ev _ 0 (by rw [List.length_take, usesL_len]; omega)) (Ev.now _)
      | succ d ih =>
        intro i hi ht hf
        have hlt : i < l.length := by omega
        have e : l.drop i = l[i] :: l.drop (i + 1) := List.drop_eq_getElem_cons hlt
        have hx := rdN_eq (getD_eq l i hlt)
        rw [e] at ht hf
        simp only [okNs] at ht hf
        refine Ev.step (fun k => by simp only [spec_exGood.l0, hx]; rfl) (Ev.ifp (by omega) (Ev.ifp (by omega) (Ev.ifp (by omega) (Ev.bind (exNode_ev l[i] i (by omega)) ?_))))
        cases h : okNx l[i] i
        · refine Ev.ifn (by decide) (Ev.some ?_)
          rw [h] at ht
          cases h0 : okNs 0 l
          · rfl
          · exact absurd (ht h0) (by simp)
        · rw [h] at ht hf
          refine Ev.ifp rfl ?_
          rw [w64n i (by omega)]
          exact ih (i + 1) (by omega) (by simpa using ht) (by simpa using hf)
    simpa using key l.length 0 (by omega) (fun h => h) (fun h => h)
  · rw [decide_eq_false hl, Bool.false_and]
    exact Ev.ifn (by simp; omega) (Ev.now _)
theorem okExpr_of {l : List Node} (h : okExpr l = true) : (1 ≤ l.length ∧ l.length ≤ 24) ∧ okNs 0 l = true := by
  unfold okExpr at h
  simp only [Bool.and_eq_true, decide_eq_true_eq] at h
  exact ⟨h.1, h.2.1⟩
theorem l1All_ev (c : List Int) (a b : Int) (hc : c.length ≤ 1048576) : Ev (fun k => spec_l1All.f k c a b) (c.all (fun n => decide (a ≤ n ∧ n ≤ b))) := by
  unfold spec_l1All.f
  refine all_ev c _ (fun k i => spec_l1All.l0 k a b c c.length i) ?_ (fun i x hi hx hp => ?_) (fun i x r hi hx hp hr => ?_)
  · refine Ev.step (f := fun _ => some true) (fun k => ?_) (Ev.now _)
    simp only [spec_l1All.l0]
    rw [if_neg (by omega)]
  · refine Ev.step (f := fun _ => some false) (fun k => ?_) (Ev.now _)
    simp only [spec_l1All.l0, rd_eq hx, l1In_eq, Option.bind_some, hp]
    rw [if_pos (by omega), if_pos (by omega), if_pos (by omega), if_neg (by simp)]
  · refine Ev.step (fun k => ?_) hr
    simp only [spec_l1All.l0, rd_eq hx, l1In_eq, Option.bind_some, hp]
    rw [if_pos (by omega), if_pos (by omega), if_pos (by omega), if_pos trivial, w64n i (by omega)]
theorem all_range (n : Nat) (Q : Nat → Bool) (fin : Bool) (L : Nat → Int → Option Bool) (hend : Ev (fun k => L k (n : Nat)) fin)
    (hno : ∀ i : Nat, i < n → Q i = false → Ev (fun k => L k (i : Nat)) false) (hyes : ∀ (i : Nat) r, i < n → Q i = true → Ev (fun k => L k ((i + 1 : Nat) : Int)) r → Ev (fun k => L k (i : Nat)) r) : Ev (fun k => L k 0) ((List.range n).all Q && fin) := by
  have key : ∀ (d i : Nat), i + d = n → Ev (fun k => L k (i : Nat)) ((List.range' i d).all Q && fin) := by
    intro d
    induction d with
    | zero =>
      intro i hi
      have e : i = n := by omega
      subst e
      simpa using hend
    | succ d ih =>
      intro i hi
      rw [List.range'_succ, List.all_cons]
      cases h : Q i
      · simpa using hno i (by omega) h
      · simpa using hyes i _ (by omega) h (ih (i + 1) (by omega))
  rw [List.range_eq_range']
  exact key n 0 (by omega)
theorem all_then {α : Type} (xs : List α) (p : α → Bool) (fin : Bool) (L : Nat → Int → Option Bool) (hend : Ev (fun k => L k (xs.length : Nat)) fin)
    (hno : ∀ (i : Nat) x, i < xs.length → (∀ d, xs.getD i d = x) → p x = false → Ev (fun k => L k i) false)
    (hyes : ∀ (i : Nat) x r, i < xs.length → (∀ d, xs.getD i d = x) → p x = true → Ev (fun k => L k ((i + 1 : Nat) : Int)) r → Ev (fun k => L k i) r) : Ev (fun k => L k 0) (xs.all p && fin) := by
  refine loop_list (σ := Unit) xs (fun k _ i => L k i) (fun l _ => l.all p && fin) (fun _ => by simpa using hend) (fun i _ x rest hi hx ih => ?_) ()
  cases h : p x
  · exact ev_eq (hno i x hi hx h) (by simp [h])
  · exact hyes i x _ hi hx h (ev_eq (ih ()) (by simp [h]))
theorem loop_app {α β : Type} (xs : List α) (g : α → List β) (N : Nat) (L : Nat → List β → Int → Option (List β)) (T : List β)
    (hend : ∀ s, (s ++ T).length ≤ N → Ev (fun k => L k s (xs.length : Nat)) (s ++ T))
    (hstep : ∀ (i : Nat) s x U, i < xs.length → (∀ d, xs.getD i d = x) → (s ++ (g x ++ U)).length ≤ N → (∀ s', (s' ++ U).length ≤ N → Ev (fun k => L k s' ((i + 1 : Nat) : Int)) (s' ++ U)) → Ev (fun k => L k s (i : Nat)) (s ++ (g x ++ U)))
    (s : List β) (hs : (s ++ (xs.flatMap g ++ T)).length ≤ N) : Ev (fun k => L k s 0) (s ++ (xs.flatMap g ++ T)) := by
  have key : ∀ (d i : Nat), i + d = xs.length → ∀ s, (s ++ ((xs.drop i).flatMap g ++ T)).length ≤ N → Ev (fun k => L k s (i : Nat)) (s ++ ((xs.drop i).flatMap g ++ T)) := by
    intro d
    induction d with
    | zero =>
      intro i hi s hs
      have e : i = xs.length := by omega
      subst e
      rw [List.drop_of_length_le (Nat.le_refl _), List.flatMap_nil, List.nil_append] at hs ⊢
      exact hend s hs
    | succ d ih =>
      intro i hi s hs
      have hlt : i < xs.length := by omega
      have e : xs.drop i = xs[i] :: xs.drop (i + 1) := List.drop_eq_getElem_cons hlt
      rw [e, List.flatMap_cons, List.append_assoc] at hs ⊢
      exact hstep i s xs[i] _ hlt (getD_eq xs i hlt) hs (ih (i + 1) (by omega))
  have := key xs.length 0 (by omega) s (by simpa using hs)
  simpa using this
def immC (c : Nat) : Bool := match c with | 0 => true | 5 => true | 6 => true | 7 => true | _ => false
def imm7 : List ByteArray := [⟨#[115, 101, 116]⟩, ⟨#[97, 100, 100, 105]⟩, ⟨#[97, 110, 100, 105]⟩, ⟨#[120, 111, 114, 105]⟩, ⟨#[115, 104, 108, 105]⟩, ⟨#[115, 104, 114, 105]⟩, ⟨#[108, 101, 97]⟩]
theorem imm_closed : ∀ p ∈ ops, hasS imm7 p.1 = immC p.2 := by decide +kernel
theorem imm7_ops : ∀ t ∈ imm7, (ops.any fun p => decide (t = p.1)) = true := by decide +kernel
theorem imm_eq (s : ByteArray) : hasS imm7 s = immC (cls s) := by
  refine op_cases (P := fun s => hasS imm7 s = immC (cls s)) s (fun p hp => by rw [imm_closed p hp, cls_op p hp]) (fun h => ?_)
  rw [cls_none h, Bool.eq_iff_iff, hasS_iff]
  constructor
  · intro hm
    have := imm7_ops s hm
    rw [List.any_eq_true] at this
    obtain ⟨p, hp, he⟩ := this
    exact absurd (of_decide_eq_true he) (h p hp)
  · intro h
    cases h
theorem cdImm_ev (s : ByteArray) : Ev (fun k => spec_cdImm.f k s) (immC (cls s)) := by
  unfold spec_cdImm.f
  rw [← imm_eq]
  exact Ev.bind (l1HasS_ev imm7 s (by decide)) (Ev.now _)
def inB (c : Nat) (m : Int) : Bool := decide ((shapeC c).2.2.2.1 ≤ m ∧ m ≤ (shapeC c).2.2.2.2)
def inW (m : Int) : Bool := decide (0 ≤ m ∧ m ≤ 63)
theorem form_u1 (c : Nat) (s : ByteArray) (h : c ≤ 8) : (formC c s).1 = (shapeC c).2.1 := by
  rcases (show c = 0 ∨ c = 1 ∨ c = 2 ∨ c = 3 ∨ c = 4 ∨ c = 5 ∨ c = 6 ∨ c = 7 ∨ c = 8 by omega) with h | h | h | h | h | h | h | h | h <;> subst h <;> rfl
theorem form_u2 (c : Nat) (s : ByteArray) (h : c ≤ 8) : (formC c s).2.1 = (shapeC c).2.2.1 := by
  rcases (show c = 0 ∨ c = 1 ∨ c = 2 ∨ c = 3 ∨ c = 4 ∨ c = 5 ∨ c = 6 ∨ c = 7 ∨ c = 8 by omega) with h | h | h | h | h | h | h | h | h <;> subst h <;> rfl
theorem form_ok (c : Nat) (s : ByteArray) (h : c ≤ 8) : (formC c s).2.2.2.2.2.2 = decide (c ≠ 8) := by
  rcases (show c = 0 ∨ c = 1 ∨ c = 2 ∨ c = 3 ∨ c = 4 ∨ c = 5 ∨ c = 6 ∨ c = 7 ∨ c = 8 by omega) with h | h | h | h | h | h | h | h | h <;> subst h <;> rfl
theorem shape_ok (c : Nat) (h : c ≤ 8) : (shapeC c).1 = decide (c ≠ 8) := by
  rcases (show c = 0 ∨ c = 1 ∨ c = 2 ∨ c = 3 ∨ c = 4 ∨ c = 5 ∨ c = 6 ∨ c = 7 ∨ c = 8 by omega) with h | h | h | h | h | h | h | h | h <;> subst h <;> rfl
theorem form_imm (c : Nat) (s : ByteArray) (h : c ≤ 8) (h8 : c ≠ 8) : decide ((formC c s).2.2.1 ≤ (formC c s).2.2.2.1) = immC c := by
  rcases (show c = 0 ∨ c = 1 ∨ c = 2 ∨ c = 3 ∨ c = 4 ∨ c = 5 ∨ c = 6 ∨ c = 7 ∨ c = 8 by omega) with h | h | h | h | h | h | h | h | h <;> subst h <;> first | rfl | exact absurd rfl h8
theorem form_in (c : Nat) (s : ByteArray) (h : c ≤ 8) (h8 : immC c = true) (m : Int) : decide ((formC c s).2.2.1 ≤ m ∧ m ≤ (formC c s).2.2.2.1) = inB c m := by
  rcases (show c = 0 ∨ c = 1 ∨ c = 2 ∨ c = 3 ∨ c = 4 ∨ c = 5 ∨ c = 6 ∨ c = 7 ∨ c = 8 by omega) with h | h | h | h | h | h | h | h | h <;> subst h <;> first | rfl | cases h8
def okOp (ims : List Int) (s : ByteArray) : Bool := decide (cls s ≠ 8) && (!immC (cls s) || ims.all (inB (cls s)))
def difS (l : List ByteArray) : Bool := (List.range l.length).all fun i => !hasS (l.take i) (l.getD i ByteArray.empty)
def difI (l : List Int) : Bool := (List.range l.length).all fun i => !decide (l.getD i 0 ∈ l.take i)
def okChoice (os : List ByteArray) (ims : List Int) : Bool := decide (1 ≤ os.length ∧ os.length ≤ 4) && (decide (ims.length ≤ 2) && (ims.all inW && (difS os && (difI ims && (List.range os.length).all fun i => okOp ims (os.getD i ByteArray.empty)))))
theorem difS_ev (l : List ByteArray) (hl : l.length ≤ 1048576) : Ev (fun k => impl_areDifferent_string.f k l) (difS l) := by
  unfold impl_areDifferent_string.f difS
  refine ev_eq (all_range l.length _ true (fun k i => impl_areDifferent_string.l0 k l l l.length i) ?_ (fun i hi hq => ?_) (fun i r hi hq hr => ?_)) (Bool.and_true _)
  · refine Ev.step (f := fun _ => some true) (fun k => ?_) (Ev.now _)
    simp only [impl_areDifferent_string.l0]
    rw [if_neg (by omega)]
  · refine Ev.step (fun k => by simp only [impl_areDifferent_string.l0, rdOf_eq (d0 := ByteArray.empty) (fun d => (getD_eq l i hi d).trans (getD_eq l i hi ByteArray.empty).symm), Int.toNat_natCast]; rfl) (Ev.ifp (by omega) (Ev.ifp (by omega) (Ev.ifp (by omega) (Ev.ifp (by omega) ?_))))
    exact Ev.bind (containsS_ev _ _ (by rw [List.length_take]; omega)) (Ev.ifp (by simpa using hq) (Ev.now _))
  · refine Ev.step (fun k => by simp only [impl_areDifferent_string.l0, rdOf_eq (d0 := ByteArray.empty) (fun d => (getD_eq l i hi d).trans (getD_eq l i hi ByteArray.empty).symm), Int.toNat_natCast]; rfl) (Ev.ifp (by omega) (Ev.ifp (by omega) (Ev.ifp (by omega) (Ev.ifp (by omega) ?_))))
    refine Ev.bind (containsS_ev _ _ (by rw [List.length_take]; omega)) (Ev.ifn (by simpa using hq) ?_)
    rw [w64n i (by omega)]
    exact hr
theorem difI_ev (l : List Int) (hl : l.length ≤ 1048576) : Ev (fun k => impl_areDifferent_int.f k l) (difI l) := by
  unfold impl_areDifferent_int.f difI
  refine ev_eq (all_range l.length _ true (fun k i => impl_areDifferent_int.l0 k l l l.length i) ?_ (fun i hi hq => ?_) (fun i r hi hq hr => ?_)) (Bool.and_true _)
  · refine Ev.step (f := fun _ => some true) (fun k => ?_) (Ev.now _)
    simp only [impl_areDifferent_int.l0]
    rw [if_neg (by omega)]
  · refine Ev.step (fun k => by simp only [impl_areDifferent_int.l0, rd_eq (fun d => (getD_eq l i hi d).trans (getD_eq l i hi 0).symm), Int.toNat_natCast]; rfl) (Ev.ifp (by omega) (Ev.ifp (by omega) (Ev.ifp (by omega) (Ev.ifp (by omega) ?_))))
    exact Ev.bind (containsI_ev _ _ (by rw [List.length_take]; omega)) (Ev.ifp (by simpa using hq) (Ev.now _))
  · refine Ev.step (fun k => by simp only [impl_areDifferent_int.l0, rd_eq (fun d => (getD_eq l i hi d).trans (getD_eq l i hi 0).symm), Int.toNat_natCast]; rfl) (Ev.ifp (by omega) (Ev.ifp (by omega) (Ev.ifp (by omega) (Ev.ifp (by omega) ?_))))
    refine Ev.bind (containsI_ev _ _ (by rw [List.length_take]; omega)) (Ev.ifn (by simpa using hq) ?_)
    rw [w64n i (by omega)]
    exact hr
def opI (ims : List Int) (s : ByteArray) : Bool := decide (cls s ≠ 8) && ims.all fun m => inW m && (!immC (cls s) || inB (cls s) m)
theorem isChoice_l0 (os : List ByteArray) (ims : List Int) (ho : os.length ≤ 4) (hi : ims.length ≤ 1048576) : Ev (fun k => impl_IsChoice.l0 k os os.length 0 os ims) ((List.range os.length).all fun i => opI ims (os.getD i ByteArray.empty)) := by
  have inner : ∀ (i : Nat) (s : ByteArray) r, i < os.length → cls s ≠ 8 → Ev (fun k => impl_IsChoice.l0 k os os.length ((i + 1 : Nat) : Int) os ims) r → Ev (fun k => impl_IsChoice.l1 k os os.length i ims ims.length 0 os ims (formC (cls s) s).1 (formC (cls s) s).2.1 (formC (cls s) s).2.2.1 (formC (cls s) s).2.2.2.1 (formC (cls s) s).2.2.2.2.1 (formC (cls s) s).2.2.2.2.2.1) ((ims.all fun m => inW m && (!immC (cls s) || inB (cls s) m)) && r) := by
    intro i s r hlt h8 hr
    have hc := cls_le s
    refine all_then ims _ r (fun k j => impl_IsChoice.l1 k os os.length i ims ims.length j os ims (formC (cls s) s).1 (formC (cls s) s).2.1 (formC (cls s) s).2.2.1 (formC (cls s) s).2.2.2.1 (formC (cls s) s).2.2.2.2.1 (formC (cls s) s).2.2.2.2.2.1) ?_ (fun j x hj hx hp => ?_) (fun j x r' hj hx hp hr' => ?_)
    · refine Ev.step (fun k => ?_) hr
      simp only [impl_IsChoice.l1]
      rw [if_neg (by omega), w64n i (by omega)]
    · refine Ev.step (fun k => by simp only [impl_IsChoice.l1, rd_eq hx, impl_isWord.f, within_eq, impl_form_imm.f, Option.bind_some, form_imm _ s hc h8]; rfl) (Ev.ifp (by omega) (Ev.ifp (by omega) (Ev.ifp (by omega) ?_)))
      by_cases q : 0 ≤ x ∧ x ≤ 63
      · refine Ev.ifp (by simpa using q) ?_
        cases hm : immC (cls s)
        · simp [inW, hm, q] at hp
        · refine Ev.ifp rfl (Ev.ifn ?_ (Ev.now _))
          rw [form_in _ s hc hm]
          simpa [inW, hm, q] using hp
      · exact Ev.ifn (by simpa using q) (Ev.now _)
    · refine Ev.step (fun k => by simp only [impl_IsChoice.l1, rd_eq hx, impl_isWord.f, within_eq, impl_form_imm.f, Option.bind_some, form_imm _ s hc h8]; rfl) (Ev.ifp (by omega) (Ev.ifp (by omega) (Ev.ifp (by omega) ?_)))
      simp only [Bool.and_eq_true] at hp
      refine Ev.ifp hp.1 ?_
      rw [w64n j (by omega)]
      cases hm : immC (cls s)
      · exact Ev.ifn (by simp) hr'
      · refine Ev.ifp rfl (Ev.ifp ?_ hr')
        rw [form_in _ s hc hm]
        simpa [hm] using hp.2
  have main : ∀ (d i : Nat), i + d = os.length → Ev (fun k => impl_IsChoice.l0 k os os.length (i : Nat) os ims) ((List.range' i d).all fun i => opI ims (os.getD i ByteArray.empty)) := by
    intro d
    induction d with
    | zero =>
      intro i hi
      refine Ev.step (f := fun _ => some true) (fun k => ?_) (Ev.some rfl)
      simp only [impl_IsChoice.l0]
      rw [if_neg (by omega)]
    | succ d ih =>
      intro i hi
      have hlt : i < os.length := by omega
      have hx : rdOf ByteArray.empty os i = os.getD i ByteArray.empty := rdOf_eq (fun d => (getD_eq os i hlt d).trans (getD_eq os i hlt ByteArray.empty).symm)
      rw [List.range'_succ, List.all_cons]
      obtain ⟨s, es⟩ : ∃ s, s = os.getD i ByteArray.empty := ⟨_, rfl⟩
      rw [← es] at hx ⊢
      refine Ev.step (fun k => by simp only [impl_IsChoice.l0, hx, formOf_eq, Option.bind_some, form_ok _ _ (cls_le _)]; rfl) (Ev.ifp (by omega) (Ev.ifp (by omega) (Ev.ifp (by omega) ?_)))
      by_cases h8 : cls s = 8
      · refine Ev.ifn (by simpa using h8) (Ev.some ?_)
        rw [show opI ims s = false by simp [opI, h8]]
        rfl
      · refine Ev.ifp (by simpa using h8) (ev_eq (inner i _ _ hlt h8 (ih (i + 1) (by omega))) ?_)
        rw [show opI ims s = ims.all fun m => inW m && (!immC (cls s) || inB (cls s) m) by simp [opI, h8]]
  rw [List.range_eq_range']
  exact main os.length 0 (by omega)
theorem choice_eq (os : List ByteArray) (ims : List Int) (ho : 1 ≤ os.length) : ((List.range os.length).all fun i => opI ims (os.getD i ByteArray.empty)) = (ims.all inW && (List.range os.length).all fun i => okOp ims (os.getD i ByteArray.empty)) := by
  rw [Bool.eq_iff_iff]
  simp only [Bool.and_eq_true, List.all_eq_true, List.mem_range, opI, okOp, Bool.or_eq_true, Bool.not_eq_true']
  constructor
  · exact fun h => ⟨fun m hm => ((h 0 ho).2 m hm).1, fun i hi => ⟨(h i hi).1, by
      cases hc : immC (cls (os.getD i ByteArray.empty))
      · exact Or.inl rfl
      · refine Or.inr fun m hm => ?_
        have := ((h i hi).2 m hm).2
        rw [hc] at this
        exact this.resolve_left (by simp)⟩⟩
  · exact fun h i hi => ⟨(h.2 i hi).1, fun m hm => ⟨h.1 m hm, (h.2 i hi).2.imp id (fun g => g m hm)⟩⟩
theorem isChoice_ev (os : List ByteArray) (ims : List Int) (ho : os.length ≤ 1048576) (hi : ims.length ≤ 1048576) : Ev (fun k => impl_IsChoice.f k os ims) (okChoice os ims) := by
  unfold impl_IsChoice.f okChoice
  refine Ev.call (within_eq _ _ _) ?_
  by_cases h1 : 1 ≤ os.length ∧ os.length ≤ 4
  · rw [decide_eq_true h1, Bool.true_and]
    refine Ev.ifp (by simp; omega) ?_
    by_cases h2 : ims.length ≤ 2
    · rw [decide_eq_true h2, Bool.true_and]
      refine Ev.ifn (by omega) (Ev.bind (difS_ev os ho) ?_)
      cases hd : difS os
      · refine Ev.ifn (by decide) (Ev.step (fun k => by simp only [impl_IsChoice.j0]; rfl) (Ev.ifp (show true = true from rfl) (Ev.some ?_)))
        simp
      · refine Ev.ifp rfl (Ev.bind (difI_ev ims hi) ?_)
        cases hd2 : difI ims
        · refine Ev.step (fun k => by simp only [impl_IsChoice.j0]; rfl) (Ev.ifp (by decide) (Ev.some ?_))
          simp
        · refine Ev.step (fun k => by simp only [impl_IsChoice.j0]; rfl) (Ev.ifn (by decide) ?_)
          refine ev_eq (isChoice_l0 os ims h1.2 hi) ?_
          rw [choice_eq os ims h1.1, Bool.true_and, Bool.true_and]
    · rw [decide_eq_false h2, Bool.false_and]
      refine Ev.ifp (by omega) (Ev.step (fun k => by simp only [impl_IsChoice.j0]; rfl) (Ev.ifp (show true = true from rfl) (Ev.now _)))
  · rw [decide_eq_false h1, Bool.false_and]
    exact Ev.ifn (by simp; omega) (Ev.step (fun k => by simp only [impl_IsChoice.j0]; rfl) (Ev.ifp (show true = true from rfl) (Ev.now _)))
theorem suGood_ev (os : List ByteArray) (ims : List Int) (ho : os.length ≤ 1048576) (hi : ims.length ≤ 1048576) : Ev (fun k => spec_suGood.f k os ims) (okChoice os ims) := by
  unfold spec_suGood.f okChoice
  refine Ev.call (l1In_eq _ _ _) ?_
  by_cases h1 : 1 ≤ os.length ∧ os.length ≤ 4
  · rw [decide_eq_true h1, Bool.true_and]
    refine Ev.ifp (by simp; omega) ?_
    by_cases h2 : ims.length ≤ 2
    · rw [decide_eq_true h2, Bool.true_and]
      refine Ev.ifn (by omega) (Ev.bind (l1All_ev ims 0 63 hi) ?_)
      cases hw : ims.all (fun n => decide (0 ≤ n ∧ n ≤ 63))
      · rw [show ims.all inW = false from hw]
        exact Ev.step (fun k => by simp only [spec_suGood.j0]; rfl) (Ev.ifp (by decide) (Ev.now _))
      · rw [show ims.all inW = true from hw, Bool.true_and]
        refine Ev.step (fun k => by simp only [spec_suGood.j0]; rfl) (Ev.ifn (by decide) ?_)
        have last : Ev (fun k => spec_suGood.l1 k ims ims.length 0 os ims) (difI ims) := by
          unfold difI
          refine ev_eq (all_range ims.length _ true (fun k i => spec_suGood.l1 k ims ims.length i os ims) ?_ (fun i hi hq => ?_) (fun i r hi hq hr => ?_)) (Bool.and_true _)
          · refine Ev.step (f := fun _ => some true) (fun k => ?_) (Ev.now _)
            simp only [spec_suGood.l1]
            rw [if_neg (by omega)]
          · refine Ev.step (fun k => by simp only [spec_suGood.l1, rd_eq (fun d => (getD_eq ims i hi d).trans (getD_eq ims i hi 0).symm), Int.toNat_natCast]; rfl) (Ev.ifp (by omega) (Ev.ifp (by omega) (Ev.ifp (by omega) (Ev.ifp (by omega) ?_))))
            exact Ev.bind (l1Has_ev _ _ (by rw [List.length_take]; omega)) (Ev.ifp (by simpa using hq) (Ev.now _))
          · refine Ev.step (fun k => by simp only [spec_suGood.l1, rd_eq (fun d => (getD_eq ims i hi d).trans (getD_eq ims i hi 0).symm), Int.toNat_natCast]; rfl) (Ev.ifp (by omega) (Ev.ifp (by omega) (Ev.ifp (by omega) (Ev.ifp (by omega) ?_))))
            refine Ev.bind (l1Has_ev _ _ (by rw [List.length_take]; omega)) (Ev.ifn (by simpa using hq) ?_)
            rw [w64n i (by omega)]
            exact hr
        have first := all_range os.length (fun i => okOp ims (os.getD i ByteArray.empty) && !hasS (os.take i) (os.getD i ByteArray.empty)) (difI ims) (fun k i => spec_suGood.l0 k os os.length i os ims) (by
          refine Ev.step (fun k => ?_) last
          simp only [spec_suGood.l0]
          rw [if_neg (by omega)]) (fun i hlt hq => by
          have hx : rdOf ByteArray.empty os i = os.getD i ByteArray.empty := rdOf_eq (fun d => (getD_eq os i hlt d).trans (getD_eq os i hlt ByteArray.empty).symm)
          obtain ⟨s, es⟩ : ∃ s, s = os.getD i ByteArray.empty := ⟨_, rfl⟩
          rw [← es] at hx hq
          refine Ev.step (fun k => by simp only [spec_suGood.l0, hx, Int.toNat_natCast]; rfl) (Ev.ifp (by omega) (Ev.ifp (by omega) (Ev.ifp (by omega) (Ev.bind (shape_ev _) ?_))))
          rw [shape_ok _ (cls_le _)]
          by_cases h8 : cls s = 8
          · exact Ev.ifn (by simpa using h8) (Ev.now _)
          refine Ev.ifp (by simpa using h8) (Ev.ifp (by omega) (Ev.bind (l1HasS_ev _ _ (by rw [List.length_take]; omega)) ?_))
          cases hh : hasS (os.take i) s
          · refine Ev.ifn (by decide) (Ev.bind (cdImm_ev _) ?_)
            rw [hh] at hq
            cases hm : immC (cls s)
            · simp [okOp, h8, hm] at hq
            · refine Ev.ifp rfl (Ev.bind (l1All_ev ims _ _ hi) (Ev.ifn ?_ (Ev.now _)))
              simpa [okOp, h8, hm, inB] using hq
          · exact Ev.ifp rfl (Ev.now _)) (fun i r hlt hq hr => by
          have hx : rdOf ByteArray.empty os i = os.getD i ByteArray.empty := rdOf_eq (fun d => (getD_eq os i hlt d).trans (getD_eq os i hlt ByteArray.empty).symm)
          obtain ⟨s, es⟩ : ∃ s, s = os.getD i ByteArray.empty := ⟨_, rfl⟩
          rw [← es] at hx hq
          simp only [okOp, Bool.and_eq_true, decide_eq_true_eq, Bool.not_eq_true', Bool.or_eq_true] at hq
          refine Ev.step (fun k => by simp only [spec_suGood.l0, hx, Int.toNat_natCast]; rfl) (Ev.ifp (by omega) (Ev.ifp (by omega) (Ev.ifp (by omega) (Ev.bind (shape_ev _) ?_))))
          rw [shape_ok _ (cls_le _)]
          refine Ev.ifp (by simpa using hq.1.1) (Ev.ifp (by omega) (Ev.bind (l1HasS_ev _ _ (by rw [List.length_take]; omega)) ?_))
          refine Ev.ifn (by simp [hq.2]) (Ev.bind (cdImm_ev _) ?_)
          rw [w64n i (by omega)]
          cases hm : immC (cls s)
          · exact Ev.ifn (by decide) hr
          · have := hq.1.2.resolve_left (by simp [hm])
            exact Ev.ifp rfl (Ev.bind (l1All_ev ims _ _ hi) (Ev.ifp this hr)))
        refine ev_eq first ?_
        rw [Bool.eq_iff_iff]
        simp only [difS, Bool.and_eq_true, List.all_eq_true, List.mem_range]
        exact ⟨fun h => ⟨fun i hi => (h.1 i hi).2, h.2, fun i hi => (h.1 i hi).1⟩, fun h => ⟨fun i hi => ⟨h.2.2 i hi, h.1 i hi⟩, h.2.1⟩⟩
    · rw [decide_eq_false h2, Bool.false_and]
      refine Ev.ifp (by omega) (Ev.step (fun k => by simp only [spec_suGood.j0]; rfl) (Ev.ifp (show true = true from rfl) (Ev.now _)))
  · rw [decide_eq_false h1, Bool.false_and]
    exact Ev.ifn (by simp; omega) (Ev.step (fun k => by simp only [spec_suGood.j0]; rfl) (Ev.ifp (show true = true from rfl) (Ev.now _)))
theorem flatMap_len {α β : Type} (xs : List α) (g : α → List β) (c : Nat) (h : ∀ x ∈ xs, (g x).length ≤ c) : (xs.flatMap g).length ≤ xs.length * c := by
  induction xs with
  | nil => simp
  | cons x xs ih =>
    rw [List.flatMap_cons, List.length_append, List.length_cons]
    have a := h x (by simp)
    have b := ih (fun y hy => h y (List.mem_cons_of_mem _ hy))
    rw [Nat.succ_mul]
    omega
def regsM (u : Bool) (n : Nat) : List Int := if u = true then marksN n 0 else [0]
def imsM (c : Nat) (ims : List Int) : List Int := if immC c = true then ims else [0]
def stepsOp (ims : List Int) (t : Nat) (s : ByteArray) : List Instr := (regsM (shapeC (cls s)).2.1 (2 + t)).flatMap fun a => (regsM (shapeC (cls s)).2.2.1 (2 + t)).flatMap fun b => (imsM (cls s) ims).flatMap fun m => [⟨s, ((2 + t : Nat) : Int), a, b, m⟩]
def stepsM (os : List ByteArray) (ims : List Int) (t : Nat) : List Instr := os.flatMap (stepsOp ims t)
theorem regsM_len (u : Bool) (n : Nat) (h : 1 ≤ n) : (regsM u n).length ≤ n := by
  unfold regsM
  split
  · rw [marksN_len]; exact Nat.le_refl _
  · simpa using h
theorem stepsOp_len (ims : List Int) (t : Nat) (s : ByteArray) (h : ims.length ≤ 2) (ht : t ≤ 3) : (stepsOp ims t s).length ≤ 50 := by
  have hi : (imsM (cls s) ims).length ≤ 2 := by
    unfold imsM
    split
    · exact h
    · simp
  have a := regsM_len (shapeC (cls s)).2.1 (2 + t) (by omega)
  have b := regsM_len (shapeC (cls s)).2.2.1 (2 + t) (by omega)
  have e1 : ∀ x y : Int, ((imsM (cls s) ims).flatMap fun m => [(⟨s, ((2 + t : Nat) : Int), x, y, m⟩ : Instr)]).length ≤ 2 := fun x y => by
    have := flatMap_len (imsM (cls s) ims) (fun m => [(⟨s, ((2 + t : Nat) : Int), x, y, m⟩ : Instr)]) 1 (by simp)
    omega
  have e2 : ∀ x : Int, ((regsM (shapeC (cls s)).2.2.1 (2 + t)).flatMap fun y => (imsM (cls s) ims).flatMap fun m => [(⟨s, ((2 + t : Nat) : Int), x, y, m⟩ : Instr)]).length ≤ 10 := fun x => by
    have := flatMap_len (regsM (shapeC (cls s)).2.2.1 (2 + t)) (fun y => (imsM (cls s) ims).flatMap fun m => [(⟨s, ((2 + t : Nat) : Int), x, y, m⟩ : Instr)]) 2 (fun y _ => e1 x y)
    omega
  have := flatMap_len (regsM (shapeC (cls s)).2.1 (2 + t)) _ 10 (fun x _ => e2 x)
  unfold stepsOp
  omega
theorem stepsM_len (os : List ByteArray) (ims : List Int) (t : Nat) (ho : os.length ≤ 4) (h : ims.length ≤ 2) (ht : t ≤ 3) : (stepsM os ims t).length ≤ 200 := by
  have := flatMap_len os (stepsOp ims t) 50 (fun s _ => stepsOp_len ims t s h ht)
  unfold stepsM
  omega
theorem regs_ev (u : Bool) (n : Nat) (hn : n ≤ 1048576) : Ev (fun k => impl_upTo.f k u (n : Int)) (regsM u n) := by
  have key : ∀ (d : Nat) (xs : List Int) (b : Nat), xs.length + d ≤ 1048576 → b + d = n → Ev (fun k => impl_upTo.l0 k xs n b) (xs ++ marksN d b) := by
    intro d
    induction d with
    | zero =>
      intro xs b h h'
      refine Ev.step (f := fun _ => some xs) (fun k => ?_) (Ev.some (by simp [marksN]))
      simp only [impl_upTo.l0]
      rw [if_neg (by omega)]
    | succ d ih =>
      intro xs b h h'
      refine Ev.step (fun k => ?_) (ev_eq (ih (xs ++ [(b : Int)]) (b + 1) (by simp; omega) (by omega)) (by simp [marksN]))
      simp only [impl_upTo.l0]
      rw [if_pos (by omega), if_pos (by omega), w64n _ (by omega)]
  unfold impl_upTo.f regsM
  cases u
  · exact Ev.ifn (by decide) (Ev.now _)
  · exact Ev.ifp rfl (by simpa using key n [] 0 (by simpa using hn) (by omega))
theorem suRegs_ev (u : Bool) (t : Nat) (ht : t ≤ 1000) : Ev (fun k => spec_suRegs.f k u (t : Int)) (regsM u (2 + t)) := by
  have e2 : wrap64 (2 + (t : Int)) = ((2 + t : Nat) : Int) := by rw [w64 (by omega) (by omega)]; omega
  unfold spec_suRegs.f regsM
  cases u
  · refine Ev.step (f := fun _ => some [0]) (fun k => ?_) (Ev.now _)
    simp only [spec_suRegs.l0]
    rw [if_neg (by decide)]
  have key : ∀ (d : Nat) (xs : List Int) (b : Nat), xs.length + d ≤ 1048576 → b + d = 2 + t → Ev (fun k => spec_suRegs.l0 k true (t : Int) xs b) (xs ++ marksN d b) := by
    intro d
    induction d with
    | zero =>
      intro xs b h h'
      refine Ev.step (f := fun _ => some xs) (fun k => ?_) (Ev.some (by simp [marksN]))
      simp only [spec_suRegs.l0, e2]
      rw [if_pos trivial, if_neg (by omega)]
    | succ d ih =>
      intro xs b h h'
      refine Ev.step (fun k => ?_) (ev_eq (ih (xs ++ [(b : Int)]) (b + 1) (by simp; omega) (by omega)) (by simp [marksN]))
      simp only [spec_suRegs.l0, e2]
      rw [if_pos trivial, if_pos (by omega), if_pos (by omega), w64n _ (by omega)]
  have := key (1 + t) [0] 1 (by simp; omega) (by omega)
  refine ev_eq this ?_
  rw [if_pos rfl, show 2 + t = (1 + t) + 1 by omega]
  rfl
theorem suImms_ev (os : List ByteArray) (ims : List Int) (s : ByteArray) : Ev (fun k => spec_suImms.f k os ims s) (imsM (cls s) ims) := by
  unfold spec_suImms.f imsM
  refine Ev.bind (cdImm_ev s) ?_
  cases immC (cls s)
  · exact Ev.ifn (by decide) (Ev.now _)
  · exact Ev.ifp rfl (Ev.now _)
theorem steps_ev (os : List ByteArray) (ims : List Int) (t : Nat) (ho : os.length ≤ 4) (hi : ims.length ≤ 2) (ht : t ≤ 3) (hc : ∀ s ∈ os, cls s ≠ 8) : Ev (fun k => impl_steps.f k os ims t) (stepsM os ims t) := by
  have e2 : wrap64 (2 + (t : Int)) = ((2 + t : Nat) : Int) := by rw [w64 (by omega) (by omega)]; omega
  unfold impl_steps.f stepsM
  have hb := stepsM_len os ims t ho hi ht
  unfold stepsM at hb
  refine ev_eq (loop_app os (stepsOp ims t) 200 (fun k x i => impl_steps.l0 k t x os os.length i os ims) [] (fun s hs => ?_) (fun i x5 s U hio hx hN H => ?_) [] (by simpa using hb)) (by simp)
  · refine Ev.step (f := fun _ => some s) (fun k => ?_) (Ev.some (by simp))
    simp only [impl_steps.l0]
    rw [if_neg (by omega)]
  have hcl := cls_le s
  have h8 := hc s (mem_of_getD hio hx)
  refine Ev.step (fun k => by simp only [impl_steps.l0, rdOf_eq (d0 := ByteArray.empty) hx, formOf_eq, impl_form_imm.f, Option.bind_some, form_imm _ s hcl h8]; rfl) (Ev.ifp (by omega) (Ev.ifp (by omega) (Ev.ifp (by omega) ?_)))
  have body : Ev (fun k => impl_steps.j1 k t x5 s (imsM (cls s) ims) os os.length i os ims (formC (cls s) s).1 (formC (cls s) s).2.1 (formC (cls s) s).2.2.1 (formC (cls s) s).2.2.2.1 (formC (cls s) s).2.2.2.2.1 (formC (cls s) s).2.2.2.2.2.1) (x5 ++ (stepsOp ims t s ++ U)) := by
    have r1 := regs_ev (formC (cls s) s).1 (2 + t) (by omega)
    have r2 := regs_ev (formC (cls s) s).2.1 (2 + t) (by omega)
    have l1 := regsM_len (formC (cls s) s).1 (2 + t) (by omega)
    have l2 := regsM_len (formC (cls s) s).2.1 (2 + t) (by omega)
    have l3 : (imsM (cls s) ims).length ≤ 2 := by
      unfold imsM
      split
      · exact hi
      · simp
    unfold stepsOp at hN ⊢
    rw [← form_u1 _ s hcl, ← form_u2 _ s hcl] at hN ⊢
    refine Ev.step (fun k => by simp only [impl_steps.j1, e2]; rfl) (Ev.bind r1 ?_)
    generalize imsM (cls s) ims = M at *
    generalize regsM (formC (cls s) s).1 (2 + t) = A at *
    generalize regsM (formC (cls s) s).2.1 (2 + t) = B at *
    generalize (formC (cls s) s) = F at *
    refine loop_app A _ 200 (fun k x j => impl_steps.l1 k t x s M os os.length i A A.length j os ims F.1 F.2.1 F.2.2.1 F.2.2.2.1 F.2.2.2.2.1 F.2.2.2.2.2.1) U (fun x hs => ?_) (fun j x5 a U' hj hxa hN' H' => ?_) x5 hN
    · refine Ev.step (fun k => ?_) (H x hs)
      simp only [impl_steps.l1]
      rw [if_neg (by omega), w64n i (by omega)]
    refine Ev.step (fun k => by simp only [impl_steps.l1, rd_eq hxa, e2]; rfl) (Ev.ifp (by omega) (Ev.ifp (by omega) (Ev.ifp (by omega) (Ev.bind r2 ?_))))
    refine loop_app B _ 200 (fun k x q => impl_steps.l2 k t x s M a os os.length i A A.length j B B.length q os ims F.1 F.2.1 F.2.2.1 F.2.2.2.1 F.2.2.2.2.1 F.2.2.2.2.2.1) U' (fun x hs => ?_) (fun q x5 b U2 hq hxb hN2 H2 => ?_) x5 hN'
    · refine Ev.step (fun k => ?_) (H' x hs)
      simp only [impl_steps.l2]
      rw [if_neg (by omega), w64n j (by omega)]
    refine Ev.step (fun k => by simp only [impl_steps.l2, rd_eq hxb]; rfl) (Ev.ifp (by omega) (Ev.ifp (by omega) (Ev.ifp (by omega) ?_)))
    refine loop_app M _ 200 (fun k x p => impl_steps.l3 k t x s M a b os os.length i A A.length j B B.length q M M.length p os ims F.1 F.2.1 F.2.2.1 F.2.2.2.1 F.2.2.2.2.1 F.2.2.2.2.2.1) U2 (fun x hs => ?_) (fun p x5 m U3 hp hxm hN3 H3 => ?_) x5 hN2
    · refine Ev.step (fun k => ?_) (H2 x hs)
      simp only [impl_steps.l3]
      rw [if_neg (by omega), w64n q (by omega)]
    have hlen : x5.length < 2932031007402 := by
      rw [List.length_append] at hN3
      omega
    have := H3 (x5 ++ [⟨s, ((2 + t : Nat) : Int), a, b, m⟩]) (by rw [List.append_assoc]; exact hN3)
    rw [List.append_assoc] at this
    refine Ev.step (fun k => ?_) this
    simp only [impl_steps.l3, rd_eq hxm, e2]
    rw [if_pos (by omega), if_pos (by omega), if_pos (by omega), if_pos hlen, w64n p (by omega)]
  unfold imsM at body
  cases h : immC (cls s)
  · rw [h] at body
    exact Ev.ifn (by decide) (by simpa using body)
  · rw [h] at body
    exact Ev.ifp rfl (by simpa using body)
theorem suSteps_ev (os : List ByteArray) (ims : List Int) (t : Nat) (ho : os.length ≤ 4) (hi : ims.length ≤ 2) (ht : t ≤ 3) : Ev (fun k => spec_suSteps.f k os ims t) (stepsM os ims t) := by
  have e2 : wrap64 (2 + (t : Int)) = ((2 + t : Nat) : Int) := by rw [w64 (by omega) (by omega)]; omega
  unfold spec_suSteps.f stepsM
  have hb := stepsM_len os ims t ho hi ht
  unfold stepsM at hb
  refine ev_eq (loop_app os (stepsOp ims t) 200 (fun k x i => spec_suSteps.l0 k t x os os.length i os ims) [] (fun s hs => ?_) (fun i x5 s U hio hx hN H => ?_) [] (by simpa using hb)) (by simp)
  · refine Ev.step (f := fun _ => some s) (fun k => ?_) (Ev.some (by simp))
    simp only [spec_suSteps.l0]
    rw [if_neg (by omega)]
  refine Ev.step (fun k => by simp only [spec_suSteps.l0, rdOf_eq (d0 := ByteArray.empty) hx]; rfl) (Ev.ifp (by omega) (Ev.ifp (by omega) (Ev.ifp (by omega) (Ev.bind (shape_ev s) ?_))))
  have r1 := suRegs_ev (shapeC (cls s)).2.1 t (by omega)
  have r2 := suRegs_ev (shapeC (cls s)).2.2.1 t (by omega)
  have r3 := suImms_ev os ims s
  have l1 := regsM_len (shapeC (cls s)).2.1 (2 + t) (by omega)
  have l2 := regsM_len (shapeC (cls s)).2.2.1 (2 + t) (by omega)
  have l3 : (imsM (cls s) ims).length ≤ 2 := by
    unfold imsM
    split
    · exact hi
    · simp
  unfold stepsOp at hN ⊢
  refine Ev.bind r1 ?_
  generalize imsM (cls s) ims = M at *
  generalize regsM (shapeC (cls s)).2.1 (2 + t) = A at *
  generalize regsM (shapeC (cls s)).2.2.1 (2 + t) = B at *
  generalize (shapeC (cls s)).2.2.1 = F at *
  refine loop_app A _ 200 (fun k x j => spec_suSteps.l1 k t x s F os os.length i A A.length j os ims) U (fun x hs => ?_) (fun j x5 a U' hj hxa hN' H' => ?_) x5 hN
  · refine Ev.step (fun k => ?_) (H x hs)
    simp only [spec_suSteps.l1]
    rw [if_neg (by omega), w64n i (by omega)]
  refine Ev.step (fun k => by simp only [spec_suSteps.l1, rd_eq hxa]; rfl) (Ev.ifp (by omega) (Ev.ifp (by omega) (Ev.ifp (by omega) (Ev.bind r2 ?_))))
  refine loop_app B _ 200 (fun k x q => spec_suSteps.l2 k t x s F a os os.length i A A.length j B B.length q os ims) U' (fun x hs => ?_) (fun q x5 b U2 hq hxb hN2 H2 => ?_) x5 hN'
  · refine Ev.step (fun k => ?_) (H' x hs)
    simp only [spec_suSteps.l2]
    rw [if_neg (by omega), w64n j (by omega)]
  refine Ev.step (fun k => by simp only [spec_suSteps.l2, rd_eq hxb]; rfl) (Ev.ifp (by omega) (Ev.ifp (by omega) (Ev.ifp (by omega) (Ev.bind r3 ?_))))
  refine loop_app M _ 200 (fun k x p => spec_suSteps.l3 k t x s F a b os os.length i A A.length j B B.length q M M.length p os ims) U2 (fun x hs => ?_) (fun p x5 m U3 hp hxm hN3 H3 => ?_) x5 hN2
  · refine Ev.step (fun k => ?_) (H2 x hs)
    simp only [spec_suSteps.l3]
    rw [if_neg (by omega), w64n q (by omega)]
  have hlen : x5.length < 2932031007402 := by
    rw [List.length_append] at hN3
    omega
  have := H3 (x5 ++ [⟨s, ((2 + t : Nat) : Int), a, b, m⟩]) (by rw [List.append_assoc]; exact hN3)
  rw [List.append_assoc] at this
  refine Ev.step (fun k => ?_) this
  simp only [spec_suSteps.l3, rd_eq hxm, e2]
  rw [if_pos (by omega), if_pos (by omega), if_pos (by omega), if_pos hlen, w64n p (by omega)]
theorem okChoice_of {os : List ByteArray} {ims : List Int} (h : okChoice os ims = true) : os.length ≤ 4 ∧ ims.length ≤ 2 ∧ ∀ s ∈ os, cls s ≠ 8 := by
  unfold okChoice at h
  simp only [Bool.and_eq_true, decide_eq_true_eq, List.all_eq_true (l := List.range os.length), List.mem_range, okOp] at h
  refine ⟨h.1.2, h.2.1, fun s hs => ?_⟩
  obtain ⟨i, hi, rfl⟩ := List.getElem_of_mem hs
  have := (h.2.2.2.2.2 i hi).1
  rw [getD_eq os i hi] at this
  exact this
theorem rdI_getD (l : List Instr) (i : Nat) (h : i < l.length) : rd_T64 l i = l.getD i z64 := rdI_eq (fun d => (getD_eq l i h d).trans (getD_eq l i h _).symm)
theorem and63_eq (n : Int) : bits .and .i64 n 63 = n % 64 := by
  have h63 : (BitVec.ofInt 64 63).toNat = 2 ^ 6 - 1 := by decide
  have key : (BitVec.ofInt 64 n &&& BitVec.ofInt 64 63).toNat = (n % ((2 ^ 64 : Nat) : Int)).toNat % 2 ^ 6 := by
    rw [BitVec.toNat_and, BitVec.toNat_ofInt, h63, Nat.and_two_pow_sub_one_eq_mod]
  show IntKind.i64.wrap ((BitVec.ofInt 64 n &&& BitVec.ofInt 64 63).toNat : Nat) = n % 64
  rw [key, IntKind.wrap_i64]
  omega
def okV (v : Int) : Prop := 0 ≤ v ∧ v ≤ 63
theorem okV_and (n : Int) : okV (bits .and .i64 n 63) := by
  rw [and63_eq]
  unfold okV
  omega
theorem bit_eq (b : Bool) : impl_bit.f b = some (if b = true then 1 else 0) := by
  cases b <;> rfl
theorem apply_eq (s : ByteArray) (a b : Int) : impl_apply.f s a b = spec_exApply.f s a b := by
  unfold impl_apply.f spec_exApply.f
  simp only [bit_eq, Option.bind_some]
  repeat refine ite_congr rfl (fun _ => rfl) (fun _ => ?_)
  refine ite_congr rfl (fun _ => ?_) (fun _ => ite_congr rfl (fun _ => ?_) (fun _ => rfl))
  · by_cases h : a < b
    · rw [if_pos h, if_pos (by simpa using h)]
    · rw [if_neg h, if_neg (by simpa using h)]
  · by_cases h : a = b
    · rw [if_pos h, if_pos (by simpa using h)]
    · rw [if_neg h, if_neg (by simpa using h)]
theorem ex_ite {c : Prop} [Decidable c] {x y : Option Int} {P : Int → Prop} (hx : ∃ v, x = some v ∧ P v) (hy : ∃ v, y = some v ∧ P v) : ∃ v, (if c then x else y) = some v ∧ P v := by
  by_cases h : c
  · rw [if_pos h]; exact hx
  · rw [if_neg h]; exact hy
theorem exApply_ok (s : ByteArray) (a b : Int) (hb : 0 ≤ b) : ∃ v, spec_exApply.f s a b = some v ∧ okV v := by
  unfold spec_exApply.f
  rw [if_pos hb, if_pos hb]
  repeat' refine ex_ite ?_ ?_
  all_goals exact ⟨_, rfl, okV_and _⟩
def okS (s : List Int) : Prop := s.length = 6 ∧ ∀ v ∈ s, okV v
theorem okS_rd {s : List Int} (h : okS s) {i : Int} (h0 : 0 ≤ i) (h1 : i ≤ 5) : okV (rd s i) := by
  have hi : i.toNat < s.length := by rw [h.1]; omega
  unfold rd
  rw [getD_eq s _ hi]
  exact h.2 _ (List.getElem_mem hi)
theorem okS_set {s : List Int} (h : okS s) (i : Nat) {v : Int} (hv : okV v) : okS (s.set i v) := by
  refine ⟨by rw [List.length_set]; exact h.1, fun u hu => ?_⟩
  rcases List.mem_or_eq_of_mem_set hu with hu | rfl
  · exact h.2 u hu
  · exact hv
theorem okI_regs {x : Instr} (h : okI x) : 0 ≤ x.f1 ∧ x.f1 ≤ 5 ∧ 0 ≤ x.f2 ∧ x.f2 ≤ 5 ∧ 0 ≤ x.f3 ∧ x.f3 ≤ 5 ∧ 0 ≤ x.f4 ∧ x.f4 ≤ 63 := by
  obtain ⟨hc, h1, h2, h3, h4⟩ := h
  rcases cls_cases x.f0 with e | e | e | e | e | e | e | e | e <;> simp only [e, shapeC] at h2 h3 h4 <;> simp at h2 h3 h4 <;> first | omega | exact absurd e hc
theorem value_ok (x : Instr) (s : List Int) (h : okI x) (hs : okS s) : ∃ v, spec_cdValue.f x.f0 x.f1 x.f2 x.f3 x.f4 s = some v ∧ okV v := by
  obtain ⟨h1, h1', h2, h2', h3, h3', h4, h4'⟩ := okI_regs h
  have hl := hs.1
  have ha := okS_rd hs h2 h2'
  have hb := okS_rd hs h3 h3'
  unfold spec_cdValue.f
  rw [if_pos h2, if_pos (by omega), if_pos h3, if_pos (by omega)]
  have one : ∀ t a b, 0 ≤ b → ∃ v, ((spec_exApply.f t a b).bind fun v => some v) = some v ∧ okV v := fun t a b hb => by
    obtain ⟨v, e, hv⟩ := exApply_ok t a b hb
    exact ⟨v, by rw [e]; rfl, hv⟩
  by_cases qset : x.f0.toList = ([115, 101, 116] : List UInt8)
  · rw [if_pos qset]
    exact ⟨_, rfl, h4, h4'⟩
  rw [if_neg qset]
  by_cases qmov : x.f0.toList = ([109, 111, 118] : List UInt8)
  · rw [if_pos qmov]
    exact ⟨_, rfl, ha⟩
  rw [if_neg qmov]
  by_cases qaddi : x.f0.toList = ([97, 100, 100, 105] : List UInt8)
  · rw [if_pos qaddi]
    exact one _ _ _ h4
  rw [if_neg qaddi]
  by_cases qandi : x.f0.toList = ([97, 110, 100, 105] : List UInt8)
  · rw [if_pos qandi]
    exact one _ _ _ h4
  rw [if_neg qandi]
  by_cases qxori : x.f0.toList = ([120, 111, 114, 105] : List UInt8)
  · rw [if_pos qxori]
    exact one _ _ _ h4
  rw [if_neg qxori]
  by_cases qshli : x.f0.toList = ([115, 104, 108, 105] : List UInt8)
  · rw [if_pos qshli]
    exact one _ _ _ h4
  rw [if_neg qshli]
  by_cases qshri : x.f0.toList = ([115, 104, 114, 105] : List UInt8)
  · rw [if_pos qshri]
    exact one _ _ _ h4
  rw [if_neg qshri]
  by_cases qlea : x.f0.toList = ([108, 101, 97] : List UInt8)
  · rw [if_pos qlea]
    obtain ⟨v, e, hv⟩ := exApply_ok (⟨#[115, 104, 108]⟩ : ByteArray) (rd s x.f3) x.f4 h4
    obtain ⟨v', e', hv'⟩ := exApply_ok (⟨#[97, 100, 100]⟩ : ByteArray) (rd s x.f2) v hv.1
    exact ⟨v', by rw [e, Option.bind_some, e']; rfl, hv'⟩
  rw [if_neg qlea]
  exact one _ _ _ hb.1
def valM (x : Instr) (s : List Int) : Int := (spec_cdValue.f x.f0 x.f1 x.f2 x.f3 x.f4 s).getD 0
def stepM (s : List Int) (x : Instr) : List Int := s.set x.f1.toNat (valM x s)
theorem valM_eq (x : Instr) (s : List Int) (h : okI x) (hs : okS s) : spec_cdValue.f x.f0 x.f1 x.f2 x.f3 x.f4 s = some (valM x s) ∧ okV (valM x s) := by
  obtain ⟨v, e, hv⟩ := value_ok x s h hs
  unfold valM
  rw [e]
  exact ⟨rfl, hv⟩
theorem stepM_ok (x : Instr) (s : List Int) (h : okI x) (hs : okS s) : okS (stepM s x) := okS_set hs _ (valM_eq x s h hs).2
theorem cut3 {s : ByteArray} {a b c d : UInt8} (h : s.toList = [a, b, c, d]) : (3 : Int) ≤ (s.size : Int) ∧ s.extract 0 3 = ⟨#[a, b, c]⟩ := by
  have e : s = ⟨#[a, b, c, d]⟩ := str_lit.1 h
  rw [e]
  exact ⟨by show (3 : Int) ≤ ((4 : Nat) : Int); decide, rfl⟩
theorem word_ev (x : Instr) (s : List Int) (h : okI x) (hs : okS s) : Ev (fun k => impl_Instr_word.f k x.f0 x.f1 x.f2 x.f3 x.f4 (rd s x.f2) (rd s x.f3)) (valM x s) := by
  obtain ⟨h1, h1', h2, h2', h3, h3', h4, h4'⟩ := okI_regs h
  have hl := hs.1
  have e := (valM_eq x s h hs).1
  generalize valM x s = v at e
  unfold spec_cdValue.f at e
  rw [if_pos h2, if_pos (by omega), if_pos h3, if_pos (by omega)] at e
  have bs : ∀ (o : Option Int) r, (o.bind fun v => some v) = some r → o = some r := fun o r h => by
    cases o with
    | none => cases h
    | some y => exact h
  unfold impl_Instr_word.f
  by_cases q1 : x.f0.toList = [115, 101, 116]
  · rw [if_pos q1] at e
    exact Ev.ifp q1 (Ev.const e)
  refine Ev.ifn q1 ?_
  rw [if_neg q1] at e
  by_cases q2 : x.f0.toList = [109, 111, 118]
  · rw [if_pos q2] at e
    exact Ev.ifp q2 (Ev.const e)
  refine Ev.ifn q2 ?_
  rw [if_neg q2] at e
  by_cases q3 : x.f0.toList = [108, 101, 97]
  · refine Ev.ifp q3 (Ev.const ?_)
    rw [if_neg (by rw [q3]; decide), if_neg (by rw [q3]; decide), if_neg (by rw [q3]; decide), if_neg (by rw [q3]; decide), if_neg (by rw [q3]; decide), if_pos q3] at e
    simp only [apply_eq]
    exact e
  refine Ev.ifn q3 ?_
  have imm : ∀ a b c d : UInt8, x.f0.toList = [a, b, c, d] → spec_exApply.f ⟨#[a, b, c]⟩ (rd s x.f2) x.f4 = some v → Ev (fun k => impl_Instr_word.j0 k (rd s x.f2) (rd s x.f3) (x.f0.toList == ([a, b, c, d] : List UInt8)) x.f0 x.f1 x.f2 x.f3 x.f4) v := fun a b c d q hv => by
    obtain ⟨hc, hc'⟩ := cut3 q
    refine Ev.step (fun k => by simp only [impl_Instr_word.j0]; rfl) (Ev.ifp (by rw [q]; simp) (Ev.ifp (by decide) (Ev.ifp hc (Ev.const ?_))))
    rw [apply_eq, hc', hv]
    rfl
  by_cases q4 : x.f0.toList = [97, 100, 100, 105]
  · rw [if_pos q4] at e
    exact Ev.ifp q4 (imm _ _ _ _ q4 (bs _ _ e))
  refine Ev.ifn q4 ?_
  rw [if_neg q4] at e
  by_cases q5 : x.f0.toList = [97, 110, 100, 105]
  · rw [if_pos q5] at e
    exact Ev.ifp q5 (imm _ _ _ _ q5 (bs _ _ e))
  refine Ev.ifn q5 ?_
  rw [if_neg q5] at e
  by_cases q6 : x.f0.toList = [120, 111, 114, 105]
  · rw [if_pos q6] at e
    exact Ev.ifp q6 (imm _ _ _ _ q6 (bs _ _ e))
  refine Ev.ifn q6 ?_
  rw [if_neg q6] at e
  by_cases q7 : x.f0.toList = [115, 104, 108, 105]
  · rw [if_pos q7] at e
    exact Ev.ifp q7 (imm _ _ _ _ q7 (bs _ _ e))
  refine Ev.ifn q7 ?_
  rw [if_neg q7] at e
  by_cases q8 : x.f0.toList = [115, 104, 114, 105]
  · rw [if_pos q8] at e
    exact imm _ _ _ _ q8 (bs _ _ e)
  rw [if_neg q8, if_neg q3] at e
  refine Ev.step (fun k => by simp only [impl_Instr_word.j0]; rfl) (Ev.ifn (by simpa using q8) (Ev.const ?_))
  rw [apply_eq, bs _ _ e]
  rfl
def runM (l : List Instr) (s : List Int) : List Int := l.foldl stepM s
theorem runM_ok (l : List Instr) (h : ∀ x ∈ l, okI x) : ∀ s, okS s → okS (runM l s) := by
  induction l with
  | nil => exact fun s hs => hs
  | cons x l ih => exact fun s hs => ih (fun y hy => h y (List.mem_cons_of_mem _ hy)) _ (stepM_ok x s (h x (List.mem_cons_self)) hs)
theorem own_eq (l : List Int) (h : l.length ≤ 1048576) : spec_l1Own.f l = some l := by
  unfold spec_l1Own.f
  rw [Option.bind_some, if_pos (by simp; omega)]
  rfl
theorem cdStep_eq (x : Instr) (s : List Int) (h : okI x) (hs : okS s) : spec_cdStep.f x.f0 x.f1 x.f2 x.f3 x.f4 s = some (stepM s x) := by
  obtain ⟨h1, h1', h2, h2', h3, h3', h4, h4'⟩ := okI_regs h
  have hq := hs.1
  unfold spec_cdStep.f
  rw [own_eq s (by omega), Option.bind_some, (valM_eq x s h hs).1, Option.bind_some, if_pos h1, if_pos (by omega)]
  rfl
theorem cdRun_ev (l : List Instr) (hl : l.length ≤ 40) (h : ∀ x ∈ l, okI x) (s : List Int) (hs : okS s) : Ev (fun k => spec_cdRun.f k l s) (runM l s) := by
  unfold spec_cdRun.f
  refine Ev.call (own_eq s (by rw [hs.1]; decide)) ?_
  have key : ∀ (d i : Nat) (s : List Int), okS s → i + d = l.length → Ev (fun k => spec_cdRun.l0 k s l l.length i) (runM (l.drop i) s) := by
    intro d
    induction d with
    | zero =>
      intro i s hs hi
      refine Ev.step (f := fun _ => some s) (fun k => ?_) (Ev.some ?_)
      · simp only [spec_cdRun.l0]
        rw [if_neg (by omega)]
      · rw [List.drop_of_length_le (by omega)]
        rfl
    | succ d ih =>
      intro i s hs hi
      have hlt : i < l.length := by omega
      have e : l.drop i = l[i] :: l.drop (i + 1) := List.drop_eq_getElem_cons hlt
      have hx := rdI_eq (getD_eq l i hlt)
      have ok := h l[i] (List.getElem_mem hlt)
      rw [e]
      refine Ev.step (fun k => ?_) (ih (i + 1) _ (stepM_ok _ s ok hs) (by omega))
      simp only [spec_cdRun.l0, hx]
      rw [if_pos (by omega), if_pos (by omega), if_pos (by omega), cdStep_eq _ s ok hs, Option.bind_some, w64n i (by omega)]
  simpa using key l.length 0 s hs (by omega)
def st0 (a b : Int) : List Int := [a, b, 0, 0, 0, 0]
theorem st0_ok {a b : Int} (ha : okV a) (hb : okV b) : okS (st0 a b) := by
  refine ⟨rfl, fun v hv => ?_⟩
  have hz : okV 0 := by unfold okV; decide
  simp only [st0, List.mem_cons, List.not_mem_nil, or_false] at hv
  rcases hv with rfl | rfl | rfl | rfl | rfl | rfl <;> assumption
def endM (l : List Instr) (a b : Int) : List Int := runM l (st0 a b)
theorem cdStart_eq (a b : Int) : spec_cdStart.f a b = some (st0 a b) := rfl
abbrev zN : Instr := z64
theorem mem_marks : ∀ (n a : Nat) (x : Int), x ∈ marksN n a → (a : Int) ≤ x ∧ x < (a : Int) + n
  | 0, _, x, h => by simp [marksN] at h
  | n + 1, a, x, h => by
    unfold marksN at h
    rcases List.mem_cons.1 h with h | h
    · omega
    · have := mem_marks n (a + 1) x h
      omega
theorem mem_regs {u : Bool} {n : Nat} {x : Int} (h : x ∈ regsM u n) (hn : 1 ≤ n) : (0 ≤ x ∧ x < (n : Int)) ∧ (u = true ∨ x = 0) := by
  unfold regsM at h
  split at h
  · rename_i hu
    have := mem_marks n 0 x h
    exact ⟨by omega, .inl hu⟩
  · rw [List.mem_singleton.1 h]
    exact ⟨by omega, .inr rfl⟩
theorem no_imm (c : Nat) (h : immC c = false) : (shapeC c).2.2.2.1 ≤ 0 ∧ 0 ≤ (shapeC c).2.2.2.2 := by
  unfold immC at h
  split at h
  · cases h
  · cases h
  · cases h
  · cases h
  · rename_i h0 h5 h6 h7
    unfold shapeC
    split
    all_goals first | exact ⟨by decide, by decide⟩ | exact absurd rfl h0 | exact absurd rfl h5 | exact absurd rfl h6 | exact absurd rfl h7
def okPI (x : Instr) (t : Nat) : Prop := okI x ∧ x.f1 = ((2 + t : Nat) : Int) ∧ (0 ≤ x.f2 ∧ x.f2 < ((2 + t : Nat) : Int)) ∧ 0 ≤ x.f3 ∧ x.f3 < ((2 + t : Nat) : Int)
theorem step_in {os : List ByteArray} {ims : List Int} {t : Nat} (ho : okChoice os ims = true) (ht : t ≤ 2) {x : Instr} (h : x ∈ stepsM os ims t) : okPI x t := by
  unfold stepsM at h
  obtain ⟨s, hs, h⟩ := List.mem_flatMap.1 h
  unfold stepsOp at h
  obtain ⟨a, ha, h⟩ := List.mem_flatMap.1 h
  obtain ⟨b, hb, h⟩ := List.mem_flatMap.1 h
  obtain ⟨m, hm, h⟩ := List.mem_flatMap.1 h
  obtain rfl := List.mem_singleton.1 h
  obtain ⟨a1, a2⟩ := mem_regs ha (by omega)
  obtain ⟨b1, b2⟩ := mem_regs hb (by omega)
  have hop : okOp ims s = true := by
    unfold okChoice at ho
    simp only [Bool.and_eq_true, List.all_eq_true (l := List.range os.length), List.mem_range] at ho
    obtain ⟨i, hi, rfl⟩ := List.getElem_of_mem hs
    have := ho.2.2.2.2.2 i hi
    rw [getD_eq os i hi] at this
    exact this
  unfold okOp at hop
  rw [Bool.and_eq_true, decide_eq_true_eq] at hop
  refine ⟨⟨hop.1, ⟨by show (0 : Int) ≤ ((2 + t : Nat) : Int); omega, by show ((2 + t : Nat) : Int) ≤ 5; omega⟩, ?_, ?_, ?_⟩, rfl, a1, b1⟩
  · exact a2.elim (fun u => .inl ⟨u, a1.1, by show a ≤ 5; omega⟩) (fun z => .inr z)
  · exact b2.elim (fun u => .inl ⟨u, b1.1, by show b ≤ 5; omega⟩) (fun z => .inr z)
  · show (shapeC (cls s)).2.2.2.1 ≤ m ∧ m ≤ (shapeC (cls s)).2.2.2.2
    unfold imsM at hm
    by_cases hi : immC (cls s) = true
    · rw [if_pos hi] at hm
      have h2 := hop.2
      rw [hi, Bool.not_true, Bool.false_or, List.all_eq_true] at h2
      have := h2 m hm
      unfold inB at this
      exact of_decide_eq_true this
    · rw [if_neg hi] at hm
      rw [List.mem_singleton.1 hm]
      exact no_imm _ (Bool.eq_false_iff.2 hi)
def okP (l : List Instr) : Prop := l.length ≤ 3 ∧ ∀ i, i < l.length → okPI (l.getD i zN) i
theorem okP_all {l : List Instr} (h : okP l) (x : Instr) (hx : x ∈ l) : okI x := by
  obtain ⟨i, hi, rfl⟩ := List.getElem_of_mem hx
  have := (h.2 i hi).1
  rwa [getD_eq l i hi] at this
theorem okP_take {l : List Instr} (h : okP l) (k : Nat) (x : Instr) (hx : x ∈ l.take k) : okI x := okP_all h x (List.mem_of_mem_take hx)
theorem take_next (l : List Instr) (k : Nat) (h : k < l.length) : l.take (k + 1) = l.take k ++ [l.getD k zN] := by
  rw [List.take_succ_eq_append_getElem h, getD_eq l k h]
def atI (l : List Instr) (i : Nat) : List Int := endM l ((i / 64 : Nat) : Int) ((i % 64 : Nat) : Int)
theorem atI_ok (l : List Instr) (h : ∀ x ∈ l, okI x) (i : Nat) (hi : i < 4096) : okS (atI l i) := runM_ok l h _ (st0_ok (by unfold okV; omega) (by unfold okV; omega))
theorem atI_snoc (l : List Instr) (x : Instr) (i : Nat) : atI (l ++ [x]) i = stepM (atI l i) x := by
  unfold atI endM runM
  rw [List.foldl_append]
  rfl
def colN (l : List Instr) (r : Int) (n : Nat) : List Int := (List.range n).map fun i => rd (atI l i) r
theorem colN_len (l : List Instr) (r : Int) (n : Nat) : (colN l r n).length = n := by simp [colN]
theorem colN_at (l : List Instr) (r : Int) (n i : Nat) (h : i < n) : rd (colN l r n) (i : Int) = rd (atI l i) r := rd_eq (fun d => by simp [colN, List.getD, h])
theorem rd_set_ne (s : List Int) (j : Nat) (v : Int) (r : Nat) (h : r ≠ j) : rd (s.set j v) (r : Int) = rd s (r : Int) := by
  unfold rd
  rw [Int.toNat_natCast, List.getD_eq_getElem?_getD, List.getD_eq_getElem?_getD, List.getElem?_set_ne (Ne.symm h)]
theorem rd_set_eq (s : List Int) (j : Nat) (v : Int) (h : j < s.length) : rd (s.set j v) (j : Int) = v := by
  unfold rd
  rw [Int.toNat_natCast, List.getD_eq_getElem?_getD, List.getElem?_set_self h]
  rfl
theorem col_keep {l : List Instr} (h : okP l) (k : Nat) (hk : k < l.length) (r n : Nat) (hr : r < 2 + k) : colN (l.take (k + 1)) r n = colN (l.take k) r n := by
  unfold colN
  refine List.map_congr_left fun i _ => ?_
  rw [take_next l k hk, atI_snoc]
  unfold stepM
  rw [(h.2 k hk).2.1, Int.toNat_natCast, rd_set_ne _ _ _ _ (by omega)]
theorem col_new {l : List Instr} (h : okP l) (k : Nat) (hk : k < l.length) (n : Nat) (hn : n ≤ 4096) : colN (l.take (k + 1)) ((2 + k : Nat) : Int) n = (List.range n).map fun i => valM (l.getD k zN) (atI (l.take k) i) := by
  unfold colN
  refine List.map_congr_left fun i hi => ?_
  have hi' := List.mem_range.1 hi
  rw [take_next l k hk, atI_snoc]
  unfold stepM
  have hs := (atI_ok (l.take k) (okP_take h k) i (by omega)).1
  have := h.1
  rw [(h.2 k hk).2.1, Int.toNat_natCast, rd_set_eq _ _ _ (by omega)]
def cols (l : List Instr) (k : Nat) : List (List Int) := (List.range (2 + k)).map fun r : Nat => colN (l.take k) r 4096
theorem cols_len (l : List Instr) (k : Nat) : (cols l k).length = 2 + k := by simp [cols]
theorem cols_at (l : List Instr) (k r : Nat) (h : r < 2 + k) : rd_L10 (cols l k) (r : Int) = colN (l.take k) r 4096 := by
  unfold rd_L10 cols
  rw [Int.toNat_natCast]
  simp [List.getD, h]
theorem cols_succ {l : List Instr} (h : okP l) (k : Nat) (hk : k < l.length) : cols l (k + 1) = cols l k ++ [(List.range 4096).map fun i => valM (l.getD k zN) (atI (l.take k) i)] := by
  unfold cols
  rw [show 2 + (k + 1) = (2 + k) + 1 by omega, List.range_succ, List.map_append, List.map_singleton, col_new h k hk 4096 (Nat.le_refl _)]
  rw [List.map_congr_left (l := List.range (2 + k)) fun r hr => col_keep h k hk r 4096 (List.mem_range.1 hr)]
theorem wordAt_ev {l : List Instr} (h : okP l) (k : Nat) (x : Instr) (hx : okPI x k) (hk : k ≤ l.length) (i : Nat) (hi : i < 4096) : Ev (fun q => impl_wordAt.f q x.f0 x.f1 x.f2 x.f3 x.f4 (cols l k) (i : Int)) (valM x (atI (l.take k) i)) := by
  obtain ⟨ho, h1, ⟨h2, h2'⟩, h3, h3'⟩ := hx
  have hs := atI_ok (l.take k) (okP_take h k) i hi
  have hl := h.1
  obtain ⟨a, ha⟩ := Int.eq_ofNat_of_zero_le h2
  obtain ⟨b, hb⟩ := Int.eq_ofNat_of_zero_le h3
  have ca : rd_L10 (cols l k) x.f2 = colN (l.take k) x.f2 4096 := by rw [ha]; exact cols_at l k a (by omega)
  have cb : rd_L10 (cols l k) x.f3 = colN (l.take k) x.f3 4096 := by rw [hb]; exact cols_at l k b (by omega)
  have va := okS_rd hs h2 (by omega)
  have vb := okS_rd hs h3 (by omega)
  have hv := (valM_eq x _ ho hs).2
  unfold okV at va vb hv
  unfold impl_wordAt.f
  refine Ev.ifp h2 (Ev.ifp (by rw [cols_len]; omega) (Ev.ifp (by omega) (Ev.ifp (by rw [ca, colN_len]; omega) (Ev.ifp h3 (Ev.ifp (by rw [cols_len]; omega) (Ev.ifp (by rw [cb, colN_len]; omega) ?_))))))
  rw [ca, cb, colN_at _ _ _ _ hi, colN_at _ _ _ _ hi, w64 (by omega) (by omega), w64 (by omega) (by omega)]
  refine Ev.bind (word_ev x _ ho hs) (Ev.some ?_)
  omega
theorem writes_ev {l : List Instr} (h : okP l) (k : Nat) (x : Instr) (hx : okPI x k) (hk : k ≤ l.length) : Ev (fun q => impl_writes.f q x.f0 x.f1 x.f2 x.f3 x.f4 (cols l k)) ((List.range 4096).map fun i => valM x (atI (l.take k) i)) := by
  have key : ∀ (d i : Nat), i + d = 4096 → Ev (fun q => impl_writes.l0 q (cols l k) (((List.range i).map fun i => valM x (atI (l.take k) i)) ++ List.replicate d 0) 4096 i x.f0 x.f1 x.f2 x.f3 x.f4) ((List.range 4096).map fun i => valM x (atI (l.take k) i)) := by
    intro d
    induction d with
    | zero =>
      intro i hi
      obtain rfl : i = 4096 := by omega
      rw [List.replicate_zero, List.append_nil]
      refine Ev.step (f := fun _ => some ((List.range 4096).map fun i => valM x (atI (l.take k) i))) (fun q => ?_) (Ev.now _)
      simp only [impl_writes.l0]
      rw [if_neg (by omega)]
    | succ d ih =>
      intro i hi
      have next := ih (i + 1) (by omega)
      rw [List.range_succ, List.map_append, List.map_singleton] at next
      have hlen : (i : Int) < ((((List.range i).map fun i => valM x (atI (l.take k) i)) ++ List.replicate (d + 1) 0).length : Int) := by
        rw [List.length_append, List.length_replicate, List.length_map, List.length_range]
        omega
      refine Ev.step (fun q => by simp only [impl_writes.l0]; rfl) (Ev.ifp (by omega) (Ev.bind (wordAt_ev h k x hx hk i (by omega)) ?_))
      refine Ev.ifp (Int.natCast_nonneg i) (Ev.ifp hlen ?_)
      have e := set_fill ((List.range i).map fun i => valM x (atI (l.take k) i)) (List.replicate d (0 : Int)) 0 (valM x (atI (l.take k) i))
      rw [List.length_replicate, List.length_map, List.length_range] at e
      rw [Int.toNat_natCast, e, w64n i (by omega)]
      exact next
  unfold impl_writes.f
  refine Ev.ifp (by decide) (Ev.call rfl ?_)
  rw [List.length_replicate]
  exact key 4096 0 (by omega)
theorem isColumn_ev {l : List Instr} (h : okP l) (k : Nat) (x : Instr) (hx : okPI x k) (hk : k ≤ l.length) (g : List Int) (hg : g.length = 4096) : Ev (fun q => impl_isColumn.f q x.f0 x.f1 x.f2 x.f3 x.f4 (cols l k) g) ((List.range 4096).all fun i => decide (valM x (atI (l.take k) i) = rd g i)) := by
  have key : ∀ (d i : Nat), i + d = 4096 → Ev (fun q => impl_isColumn.l0 q (cols l k) g 4096 i x.f0 x.f1 x.f2 x.f3 x.f4) ((List.range' i d).all fun i => decide (valM x (atI (l.take k) i) = rd g i)) := by
    intro d
    induction d with
    | zero =>
      intro i hi
      refine Ev.step (f := fun _ => some true) (fun q => ?_) (Ev.now _)
      simp only [impl_isColumn.l0]
      rw [if_neg (by omega)]
    | succ d ih =>
      intro i hi
      rw [List.range'_succ, List.all_cons]
      refine Ev.step (fun q => by simp only [impl_isColumn.l0]; rfl) (Ev.ifp (by omega) (Ev.ifp (by omega) (Ev.ifp (by omega) (Ev.bind (wordAt_ev h k x hx hk i (by omega)) ?_))))
      by_cases e : valM x (atI (l.take k) i) = rd g i
      · rw [decide_eq_true e, Bool.true_and]
        refine Ev.ifp e ?_
        rw [w64n i (by omega)]
        exact ih (i + 1) (by omega)
      · rw [decide_eq_false e, Bool.false_and]
        exact Ev.ifn e (Ev.now _)
  unfold impl_isColumn.f
  rw [hg]
  have := key 4096 0 (by omega)
  rw [← List.range_eq_range'] at this
  exact this
theorem columnOf_ev (xs : List Int) (hl : xs.length ≤ 1048576) (hv : ∀ v ∈ xs, 0 ≤ v ∧ v ≤ 63) : Ev (fun q => impl_columnOf.f q xs) xs := by
  have key : ∀ (d i : Nat), i + d = xs.length → Ev (fun q => impl_columnOf.l0 q (xs.take i ++ List.replicate d 0) xs xs.length i) xs := by
    intro d
    induction d with
    | zero =>
      intro i hi
      obtain rfl : i = xs.length := by omega
      rw [List.replicate_zero, List.append_nil, List.take_length]
      refine Ev.step (f := fun _ => some xs) (fun q => ?_) (Ev.now _)
      simp only [impl_columnOf.l0]
      rw [if_neg (by omega)]
    | succ d ih =>
      intro i hi
      have hlt : i < xs.length := by omega
      have next := ih (i + 1) (by omega)
      rw [List.take_succ_eq_append_getElem hlt] at next
      have hb := hv _ (List.getElem_mem hlt)
      refine Ev.step (fun q => by simp only [impl_columnOf.l0]; rfl) (Ev.ifp (by omega) (Ev.ifp (by omega) (Ev.ifp (by omega) (Ev.ifp (by rw [List.length_append, List.length_replicate, List.length_take]; omega) ?_))))
      have e := set_fill (xs.take i) (List.replicate d (0 : Int)) 0 xs[i]
      rw [List.length_replicate, List.length_take, Nat.min_eq_left (by omega)] at e
      rw [rd_eq (getD_eq xs i hlt), show xs[i] % 256 = xs[i] by omega, Int.toNat_natCast, e, w64n i (by omega)]
      exact next
  unfold impl_columnOf.f
  refine Ev.ifp (by omega) (Ev.ifp (by rw [Int.toNat_natCast]; omega) ?_)
  rw [Int.toNat_natCast]
  have := key xs.length 0 (by omega)
  simpa using this
def tbN (g : Nat → Nat → Int) (n : Nat) : List Int := (List.range n).map fun i => g (i / 64) (i % 64)
theorem tbN_len (g : Nat → Nat → Int) (n : Nat) : (tbN g n).length = n := by simp [tbN]
theorem tbN_next (g : Nat → Nat → Int) (a b : Nat) (h : b < 64) : tbN g (64 * a + (b + 1)) = tbN g (64 * a + b) ++ [g a b] := by
  unfold tbN
  rw [← Nat.add_assoc, List.range_succ, List.map_append, List.map_singleton, show (64 * a + b) / 64 = a by omega, show (64 * a + b) % 64 = b by omega]
theorem table_ev (g : Nat → Nat → Int) (L0 : Nat → List Int → Int → Option (List Int)) (L1 : Nat → List Int → Int → Int → Int → Option (List Int))
    (h0 : ∀ (a : Nat) xs T, a < 64 → Ev (fun k => L1 k xs a a 0) T → Ev (fun k => L0 k xs a) T) (he : ∀ xs, Ev (fun k => L0 k xs 64) xs)
    (h1 : ∀ (a b : Nat) xs T, a < 64 → b < 64 → xs.length ≤ 4096 → Ev (fun k => L1 k (xs ++ [g a b]) a a ((b + 1 : Nat) : Int)) T → Ev (fun k => L1 k xs a a b) T)
    (h2 : ∀ (a : Nat) xs T, a < 64 → Ev (fun k => L0 k xs ((a + 1 : Nat) : Int)) T → Ev (fun k => L1 k xs a a 64) T) : Ev (fun k => L0 k [] 0) (tbN g 4096) := by
  have row : ∀ (a : Nat), a < 64 → ∀ T, Ev (fun k => L0 k (tbN g (64 * (a + 1))) ((a + 1 : Nat) : Int)) T → ∀ (d b : Nat), b + d = 64 → Ev (fun k => L1 k (tbN g (64 * a + b)) a a b) T := by
    intro a ha T hT d
    induction d with
    | zero =>
      intro b hb
      obtain rfl : b = 64 := by omega
      refine h2 a _ T ha ?_
      rw [show 64 * a + 64 = 64 * (a + 1) by omega]
      exact hT
    | succ d ih =>
      intro b hb
      refine h1 a b _ T ha (by omega) (by rw [tbN_len]; omega) ?_
      rw [← tbN_next g a b (by omega)]
      exact ih (b + 1) (by omega)
  have key : ∀ (d a : Nat), a + d = 64 → Ev (fun k => L0 k (tbN g (64 * a)) a) (tbN g 4096) := by
    intro d
    induction d with
    | zero =>
      intro a ha
      obtain rfl : a = 64 := by omega
      exact he _
    | succ d ih =>
      intro a ha
      have := row a (by omega) _ (ih (a + 1) (by omega)) 64 0 (by omega)
      exact h0 a _ _ (by omega) this
  exact key 64 0 (by omega)
theorem table1_ev : Ev (fun k => impl_table_impl_begun_1.f k) (tbN (fun a _ => (a : Int)) 4096) := by
  unfold impl_table_impl_begun_1.f
  refine table_ev (fun a _ => (a : Int)) impl_table_impl_begun_1.l0 impl_table_impl_begun_1.l1 (fun a xs T ha h => ?_) (fun xs => ?_) (fun a b xs T ha hb hx h => ?_) (fun a xs T ha h => ?_)
  · exact Ev.step (fun k => by simp only [impl_table_impl_begun_1.l0]; rfl) (Ev.ifp (by omega) h)
  · refine Ev.step (f := fun _ => some xs) (fun k => ?_) (Ev.now _)
    simp only [impl_table_impl_begun_1.l0]
    rw [if_neg (by omega)]
  · refine Ev.step (fun k => by simp only [impl_table_impl_begun_1.l1]; rfl) (Ev.ifp (by omega) (Ev.call rfl (Ev.ifp (by omega) ?_)))
    rw [w64n b (by omega)]
    exact h
  · refine Ev.step (fun k => by simp only [impl_table_impl_begun_1.l1]; rfl) (Ev.ifn (by omega) ?_)
    rw [w64n a (by omega)]
    exact h
theorem table2_ev : Ev (fun k => impl_table_impl_begun_2.f k) (tbN (fun _ b => (b : Int)) 4096) := by
  unfold impl_table_impl_begun_2.f
  refine table_ev (fun _ b => (b : Int)) impl_table_impl_begun_2.l0 impl_table_impl_begun_2.l1 (fun a xs T ha h => ?_) (fun xs => ?_) (fun a b xs T ha hb hx h => ?_) (fun a xs T ha h => ?_)
  · exact Ev.step (fun k => by simp only [impl_table_impl_begun_2.l0]; rfl) (Ev.ifp (by omega) h)
  · refine Ev.step (f := fun _ => some xs) (fun k => ?_) (Ev.now _)
    simp only [impl_table_impl_begun_2.l0]
    rw [if_neg (by omega)]
  · refine Ev.step (fun k => by simp only [impl_table_impl_begun_2.l1]; rfl) (Ev.ifp (by omega) (Ev.call rfl (Ev.ifp (by omega) ?_)))
    rw [w64n b (by omega)]
    exact h
  · refine Ev.step (fun k => by simp only [impl_table_impl_begun_2.l1]; rfl) (Ev.ifn (by omega) ?_)
    rw [w64n a (by omega)]
    exact h
theorem begun_ev (l : List Instr) : Ev (fun k => impl_begun.f k) (cols l 0) := by
  have bd : ∀ (g : Nat → Nat → Int), (∀ a b, a < 64 → b < 64 → 0 ≤ g a b ∧ g a b ≤ 63) → ∀ v ∈ tbN g 4096, 0 ≤ v ∧ v ≤ 63 := fun g hg v hv => by
    obtain ⟨i, hi, rfl⟩ := List.mem_map.1 hv
    have := List.mem_range.1 hi
    exact hg _ _ (by omega) (by omega)
  unfold impl_begun.f
  refine Ev.bind table1_ev (Ev.bind (columnOf_ev _ (by rw [tbN_len]; decide) (bd _ (fun a b ha hb => by omega))) (Ev.bind table2_ev (Ev.bind (columnOf_ev _ (by rw [tbN_len]; decide) (bd _ (fun a b ha hb => by omega))) (Ev.some ?_))))
  rfl
end Go.Proofs.Ytnaafcleafbejaa.PL
end
section
namespace Go.Proofs.Ytnaafcleafbejaa.PL
open Go Go.RowKit Go.Proofs.YtnaafcleafbejaaW.PrintWords Go.Proofs.YtnaafcleafbejaaW.PrintLast Go.Proofs.YtnaafcleafbejaaW.PrintMore Go.Proofs.Ytnaafcleafbejaa.Q
set_option linter.unusedSimpArgs false
set_option linter.unusedVariables false
def cntM (os : List ByteArray) (ims : List Int) : Nat → Nat
  | 0 => 1
  | n + 1 => cntM os ims n * (stepsM os ims n).length
theorem cntM_le (os : List ByteArray) (ims : List Int) (ho : os.length ≤ 4) (hi : ims.length ≤ 2) : ∀ n, n ≤ 3 → cntM os ims n ≤ 200 ^ n
  | 0, _ => Nat.le_refl _
  | n + 1, h => by
    have a := cntM_le os ims ho hi n (by omega)
    have b := stepsM_len os ims n ho hi (by omega)
    unfold cntM
    rw [Nat.pow_succ]
    exact Nat.mul_le_mul a b
theorem cntM_le' (os : List ByteArray) (ims : List Int) (ho : os.length ≤ 4) (hi : ims.length ≤ 2) (n : Nat) (h : n ≤ 3) : cntM os ims n ≤ 8000000 := by
  have := cntM_le os ims ho hi n h
  have : 200 ^ n ≤ 200 ^ 3 := Nat.pow_le_pow_right (by decide) h
  omega
theorem cnt_step (os : List ByteArray) (ims : List Int) (ho : os.length ≤ 4) (hi : ims.length ≤ 2) (i : Nat) (h : i < 3) : wrap64 ((cntM os ims i : Int) * ((stepsM os ims i).length : Int)) = (cntM os ims (i + 1) : Nat) := by
  have := cntM_le' os ims ho hi (i + 1) (by omega)
  have e : (cntM os ims i : Int) * ((stepsM os ims i).length : Int) = (cntM os ims (i + 1) : Nat) := by rw [show cntM os ims (i + 1) = cntM os ims i * (stepsM os ims i).length from rfl, Int.natCast_mul]
  rw [e, w64 (by omega) (by omega)]
theorem suCount_ev (os : List ByteArray) (ims : List Int) (h : okChoice os ims = true) (n : Nat) (hn : n ≤ 3) : Ev (fun k => spec_suCount.f k os ims n) (cntM os ims n : Nat) := by
  obtain ⟨ho, hi, hc⟩ := okChoice_of h
  unfold spec_suCount.f
  have key : ∀ (d i : Nat), i + d = n → Ev (fun k => spec_suCount.l0 k n (cntM os ims i : Nat) i os ims) (cntM os ims n : Nat) := by
    intro d
    induction d with
    | zero =>
      intro i hi'
      have e : i = n := by omega
      subst e
      refine Ev.step (f := fun _ => some _) (fun k => ?_) (Ev.now _)
      simp only [spec_suCount.l0]
      rw [if_neg (by omega)]
    | succ d ih =>
      intro i hi'
      refine Ev.step (fun k => by simp only [spec_suCount.l0]; rfl) (Ev.ifp (by omega) (Ev.bind (suSteps_ev os ims i ho hi (by omega)) ?_))
      rw [cnt_step os ims ho hi i (by omega), w64n i (by omega)]
      exact ih (i + 1) (by omega)
  exact key n 0 (by omega)
def progM (os : List ByteArray) (ims : List Int) : Nat → Int → List Instr → List Instr
  | 0, _, acc => acc
  | d + 1, a, acc => progM os ims d (Int.tdiv a ((stepsM os ims d).length : Int)) (acc.set d (rd_T64 (stepsM os ims d) (Int.tmod a ((stepsM os ims d).length : Int))))
theorem cntM_pos {os : List ByteArray} {ims : List Int} : ∀ {n i : Nat}, 0 < cntM os ims n → i < n → 0 < (stepsM os ims i).length
  | 0, i, _, hi => by omega
  | n + 1, i, h, hi => by
    unfold cntM at h
    have h1 : 0 < cntM os ims n := Nat.pos_of_ne_zero fun e => by rw [e, Nat.zero_mul] at h; omega
    have h2 : 0 < (stepsM os ims n).length := Nat.pos_of_ne_zero fun e => by rw [e, Nat.mul_zero] at h; omega
    by_cases e : i = n
    · rw [e]; exact h2
    · exact cntM_pos h1 (by omega)
theorem tm_facts (a : Int) (n : Nat) (h0 : 0 ≤ a) (h1 : a ≤ 8000000) (hn : 0 < n) : 0 ≤ Int.tmod a (n : Int) ∧ Int.tmod a (n : Int) < (n : Int) ∧ 0 ≤ Int.tdiv a (n : Int) ∧ Int.tdiv a (n : Int) ≤ 8000000 := by
  rw [Int.tmod_eq_emod_of_nonneg h0, Int.tdiv_eq_ediv_of_nonneg h0]
  have := Int.emod_nonneg a (show (n : Int) ≠ 0 by omega)
  have := Int.emod_lt_of_pos a (show (0 : Int) < n by omega)
  have := Int.ediv_nonneg h0 (show (0 : Int) ≤ n by omega)
  have := Int.ediv_le_self (n : Int) h0
  omega
theorem suWith_ev (os : List ByteArray) (ims : List Int) (h : okChoice os ims = true) (n : Nat) (hn : n ≤ 3) (a : Int) (h0 : 0 ≤ a) (h1 : a < (cntM os ims n : Nat)) : Ev (fun k => spec_suWith.f k os ims n a) (progM os ims n a (List.replicate n zN)) := by
  obtain ⟨ho', hi', hc⟩ := okChoice_of h
  have hle := cntM_le' os ims ho' hi' n hn
  have hpos : 0 < cntM os ims n := by omega
  unfold spec_suWith.f
  refine Ev.ifp (by omega) (Ev.ifp (by omega) ?_)
  have key : ∀ (d : Nat) (b : Int) (acc : List Instr), d ≤ n → acc.length = n → 0 ≤ b → b ≤ 8000000 → Ev (fun k => spec_suWith.l0 k b acc ((d : Int) - 1) os ims) (progM os ims d b acc) := by
    intro d
    induction d with
    | zero =>
      intro b acc hd hacc hb0 hb1
      refine Ev.step (f := fun _ => some acc) (fun k => ?_) (Ev.now _)
      simp only [spec_suWith.l0]
      rw [if_neg (by omega)]
    | succ d ih =>
      intro b acc hd hacc hb0 hb1
      have hp := cntM_pos hpos (show d < n by omega)
      obtain ⟨f1, f2, f3, f4⟩ := tm_facts b _ hb0 hb1 hp
      rw [show ((d + 1 : Nat) : Int) - 1 = (d : Int) by omega]
      refine Ev.step (fun k => by simp only [spec_suWith.l0]; rfl) (Ev.ifp (by omega) (Ev.bind (suSteps_ev os ims d ho' hi' (by omega)) ?_))
      refine Ev.ifn (by omega) (Ev.ifp f1 (Ev.ifp f2 (Ev.ifp (by omega) (Ev.ifp (by omega) ?_))))
      rw [w64 (by omega) (by omega), w64 (by omega) (by omega), Int.toNat_natCast]
      exact ih _ _ (by omega) (by rw [List.length_set]; exact hacc) f3 f4
  have := key n a (List.replicate n zN) (Nat.le_refl _) List.length_replicate h0 (by omega)
  rw [w64 (by omega) (by omega), Int.toNat_natCast]
  exact this
section
variable (os : List ByteArray) (ims : List Int)
def wthN : Nat → Nat → List Instr
  | 0, _ => []
  | n + 1, a => wthN n (a / (stepsM os ims n).length) ++ [(stepsM os ims n).getD (a % (stepsM os ims n).length) zN]
theorem wthN_len : ∀ n a, (wthN os ims n a).length = n
  | 0, _ => rfl
  | n + 1, a => by unfold wthN; rw [List.length_append, wthN_len n]; rfl
theorem progM_wth : ∀ (d : Nat) (a : Nat) (acc : List Instr), d ≤ acc.length → progM os ims d (a : Int) acc = wthN os ims d a ++ acc.drop d
  | 0, _, _, _ => rfl
  | d + 1, a, acc, h => by
    have e1 : Int.tdiv (a : Int) ((stepsM os ims d).length : Int) = ((a / (stepsM os ims d).length : Nat) : Int) := by
      rw [Int.tdiv_eq_ediv_of_nonneg (by omega)]
      exact (Int.natCast_ediv _ _).symm
    have e2 : Int.tmod (a : Int) ((stepsM os ims d).length : Int) = ((a % (stepsM os ims d).length : Nat) : Int) := by
      rw [Int.tmod_eq_emod_of_nonneg (by omega)]
      exact (Int.natCast_emod _ _).symm
    unfold progM wthN
    rw [e1, e2, progM_wth d _ _ (by rw [List.length_set]; omega), List.append_assoc]
    congr 1
    rw [List.drop_eq_getElem_cons (by rw [List.length_set]; omega), List.getElem_set_self, List.drop_set_of_lt (by omega)]
    unfold rd_T64
    rw [Int.toNat_natCast]
    rfl
theorem progM_all (n a : Nat) : progM os ims n (a : Int) (List.replicate n zN) = wthN os ims n a := by
  rw [progM_wth os ims n a _ (by simp)]
  simp
def compM : Nat → List Instr → List (List Instr)
  | 0, p => [p]
  | d + 1, p => (stepsM os ims p.length).flatMap fun x => compM d (p ++ [x])
theorem compM_snoc : ∀ (d : Nat) (p : List Instr), compM os ims (d + 1) p = (compM os ims d p).flatMap fun q => (stepsM os ims q.length).map fun x => q ++ [x]
  | 0, p => by
    have e : compM os ims 1 p = (stepsM os ims p.length).flatMap fun x => [p ++ [x]] := rfl
    rw [e]
    show _ = List.flatMap _ [p]
    rw [List.flatMap_cons, List.flatMap_nil, List.append_nil]
    induction stepsM os ims p.length with
    | nil => rfl
    | cons x xs ih => rw [List.flatMap_cons, List.map_cons, ih]; rfl
  | d + 1, p => by
    have e : compM os ims (d + 1 + 1) p = (stepsM os ims p.length).flatMap fun x => compM os ims (d + 1) (p ++ [x]) := rfl
    have e' : compM os ims (d + 1) p = (stepsM os ims p.length).flatMap fun x => compM os ims d (p ++ [x]) := rfl
    rw [e, e', List.flatMap_assoc]
    congr 1
    funext x
    exact compM_snoc d (p ++ [x])
theorem range_mul {α : Type} (f : Nat → α) (L : Nat) : ∀ m, (List.range (m * L)).map f = (List.range m).flatMap fun q => (List.range L).map fun r => f (q * L + r)
  | 0 => by simp
  | m + 1 => by
    rw [Nat.succ_mul, List.range_add, List.map_append, range_mul f L m, List.range_succ, List.flatMap_append, List.flatMap_singleton, List.map_map]
    rfl
theorem map_getD_range {α β : Type} (S : List α) (z : α) (f : α → β) : (List.range S.length).map (fun r => f (S.getD r z)) = S.map f := by
  apply List.ext_getElem
  · simp
  · intro i h1 h2
    simp only [List.length_map, List.length_range] at h1 h2
    simp [List.getD, h2]
theorem wth_all : ∀ n, (List.range (cntM os ims n)).map (wthN os ims n) = compM os ims n []
  | 0 => rfl
  | n + 1 => by
    rw [compM_snoc, ← wth_all n, List.flatMap_map]
    show (List.range (cntM os ims n * (stepsM os ims n).length)).map _ = _
    rw [range_mul]
    congr 1
    funext q
    rw [wthN_len, ← map_getD_range (stepsM os ims n) zN]
    refine List.map_congr_left fun r hr => ?_
    have hr' := List.mem_range.1 hr
    have hpos : 0 < (stepsM os ims n).length := by omega
    show wthN os ims n ((q * (stepsM os ims n).length + r) / (stepsM os ims n).length) ++ [(stepsM os ims n).getD ((q * (stepsM os ims n).length + r) % (stepsM os ims n).length) zN] = _
    rw [Nat.mul_comm q, Nat.mul_add_div hpos, Nat.div_eq_of_lt hr', Nat.add_zero, Nat.mul_add_mod, Nat.mod_eq_of_lt hr']
theorem compM_count (n : Nat) : (compM os ims n []).length = cntM os ims n := by rw [← wth_all]; simp
theorem compM_at (n a : Nat) (h : a < cntM os ims n) : (compM os ims n [])[a]? = some (wthN os ims n a) := by rw [← wth_all]; simp [h]
theorem okP_snoc (ho : okChoice os ims = true) {p : List Instr} (h : okP p) (hp : p.length ≤ 2) {x : Instr} (hx : x ∈ stepsM os ims p.length) : okP (p ++ [x]) := by
  refine ⟨by rw [List.length_append, List.length_singleton]; omega, fun i hi => ?_⟩
  rw [List.length_append, List.length_singleton] at hi
  by_cases q : i < p.length
  · have := h.2 i q
    rwa [show (p ++ [x]).getD i zN = p.getD i zN by simp [List.getD, List.getElem?_append_left q]]
  · obtain rfl : i = p.length := by omega
    rw [show (p ++ [x]).getD p.length zN = x by simp [List.getD]]
    exact step_in ho hp hx
theorem okP_nil : okP [] := ⟨by simp, fun i hi => by simp at hi⟩
theorem compM_ok (ho : okChoice os ims = true) : ∀ (d : Nat) (p l : List Instr), p.length + d ≤ 3 → okP p → l ∈ compM os ims d p → okP l
  | 0, p, l, _, h, hl => by
    obtain rfl := List.mem_singleton.1 hl
    exact h
  | d + 1, p, l, hd, h, hl => by
    unfold compM at hl
    obtain ⟨x, hx, hl⟩ := List.mem_flatMap.1 hl
    exact compM_ok ho d (p ++ [x]) l (by rw [List.length_append, List.length_singleton]; omega) (okP_snoc os ims ho h (by omega) hx) hl
end
end Go.Proofs.Ytnaafcleafbejaa.PL
end
section
namespace Go.Proofs.Ytnaafcleafbejaa.PL
open Go Go.RowKit Go.Proofs.YtnaafcleafbejaaW.PrintWords Go.Proofs.YtnaafcleafbejaaW.PrintLast Go.Proofs.YtnaafcleafbejaaW.PrintMore Go.Proofs.Ytnaafcleafbejaa.Q
set_option linter.unusedSimpArgs false
set_option linter.unusedVariables false
def lastR (l : List Instr) : Int := if l.length = 0 then 0 else ((1 + l.length : Nat) : Int)
theorem okP_le {l : List Instr} (h : okP l) : l.length ≤ 40 := by have := h.1; omega
theorem lastR_bd {l : List Instr} (h : okP l) : 0 ≤ lastR l ∧ lastR l ≤ 5 := by
  have := h.1
  unfold lastR
  split <;> omega
theorem suLast_eq {l : List Instr} (h : okP l) : spec_suLast.f l = some (lastR l) := by
  have := h.1
  unfold spec_suLast.f lastR
  by_cases h0 : l.length = 0
  · rw [if_pos (by omega), if_pos h0]
  · rw [if_neg (by omega), if_neg h0, w64 (by omega) (by omega)]
    rfl
end Go.Proofs.Ytnaafcleafbejaa.PL
end
section
namespace Go.Proofs.Ytnaafcleafbejaa.PL
open Go Go.RowKit Go.Proofs.YtnaafcleafbejaaW.PrintWords Go.Proofs.YtnaafcleafbejaaW.PrintLast Go.Proofs.YtnaafcleafbejaaW.PrintMore Go.Proofs.Ytnaafcleafbejaa.Q
set_option linter.unusedSimpArgs false
set_option linter.unusedVariables false
theorem exApply_one {s : ByteArray} (h : isNot s ∨ isNeg s) (a b : Int) : spec_exApply.f s a b = spec_exApply.f s a 0 := by
  unfold isNot isNeg at h
  unfold spec_exApply.f
  by_cases q : s.toList = ([110, 111, 116] : List UInt8)
  · rw [if_pos q, if_pos q]
  · have q2 := h.resolve_left q
    rw [if_neg q, if_neg q, if_pos q2, if_pos q2]
def apV (s : ByteArray) (a b : Int) : Int := (spec_exApply.f s a b).getD 0
theorem apV_eq (s : ByteArray) (a b : Int) (hb : 0 ≤ b) : spec_exApply.f s a b = some (apV s a b) := by
  obtain ⟨v, e, _⟩ := exApply_ok s a b hb
  unfold apV
  rw [e]
  rfl
theorem apV_ok (s : ByteArray) (a b : Int) (hb : 0 ≤ b) : okV (apV s a b) := by
  obtain ⟨v, e, h⟩ := exApply_ok s a b hb
  unfold apV
  rw [e]
  exact h
def ndV (x : Node) (a b : Int) (out : List Int) : Int := match kN x.f0 with
  | 0 => if x.f3 = 0 then a else b
  | 1 => x.f3
  | 2 => apV x.f0 (rd out x.f1) 0
  | _ => apV x.f0 (rd out x.f1) (rd out x.f2)
section
variable {x : Node} {a b : Int} {o : List Int}
theorem ndV_0 (e : kN x.f0 = 0) : ndV x a b o = if x.f3 = 0 then a else b := by unfold ndV; rw [e]; rfl
theorem ndV_1 (e : kN x.f0 = 1) : ndV x a b o = x.f3 := by unfold ndV; rw [e]; rfl
theorem ndV_2 (e : kN x.f0 = 2) : ndV x a b o = apV x.f0 (rd o x.f1) 0 := by unfold ndV; rw [e]; rfl
theorem ndV_3 (e : kN x.f0 = 3) : ndV x a b o = apV x.f0 (rd o x.f1) (rd o x.f2) := by unfold ndV; rw [e]; rfl
end
def vlL (a b : Int) (l : List Node) : List Int := l.foldl (fun out x => out ++ [ndV x a b out]) []
theorem vlL_next (a b : Int) (l : List Node) (i : Nat) (h : i < l.length) : vlL a b (l.take (i + 1)) = vlL a b (l.take i) ++ [ndV l[i] a b (vlL a b (l.take i))] := by
  unfold vlL
  rw [List.take_succ_eq_append_getElem h, List.foldl_append]
  rfl
theorem vlL_len (a b : Int) (l : List Node) : (vlL a b l).length = l.length := by
  have key : ∀ (l : List Node) (o : List Int), (l.foldl (fun out x => out ++ [ndV x a b out]) o).length = o.length + l.length := by
    intro l
    induction l with
    | nil => intro o; rfl
    | cons x l ih =>
      intro o
      rw [List.foldl_cons, ih]
      simp only [List.length_append, List.length_cons, List.length_nil]
      omega
  unfold vlL
  rw [key]
  simp
theorem rd_left (xs ys : List Int) (p : Int) (h0 : 0 ≤ p) (h1 : p < xs.length) : rd (xs ++ ys) p = rd xs p := by
  unfold rd
  rw [List.getD_eq_getElem?_getD, List.getD_eq_getElem?_getD, List.getElem?_append_left (by omega)]
theorem nd_case {x : Node} {i : Int} (h : okNx x i = true) : (kN x.f0 = 0 ∧ isIn x.f0 ∧ x.f1 = 0 ∧ x.f2 = 0 ∧ 0 ≤ x.f3 ∧ x.f3 ≤ 1) ∨ (kN x.f0 = 1 ∧ ¬ isIn x.f0 ∧ isConst x.f0 ∧ 0 ≤ x.f3 ∧ x.f3 ≤ 63) ∨
    (kN x.f0 = 2 ∧ ¬ isIn x.f0 ∧ ¬ isConst x.f0 ∧ (isNot x.f0 ∨ isNeg x.f0) ∧ 0 ≤ x.f1 ∧ x.f1 ≤ i - 1 ∧ x.f2 = 0) ∨ (kN x.f0 = 3 ∧ ¬ isIn x.f0 ∧ ¬ isConst x.f0 ∧ ¬ (isNot x.f0 ∨ isNeg x.f0) ∧ 0 ≤ x.f1 ∧ x.f1 ≤ i - 1 ∧ 0 ≤ x.f2 ∧ x.f2 ≤ i - 1) := by
  unfold okNx kN at h
  unfold kN
  by_cases h0 : isIn x.f0
  · rw [if_pos h0] at h
    have := of_decide_eq_true h
    exact .inl ⟨if_pos h0, h0, this.1, this.2.1, this.2.2.1, this.2.2.2⟩
  · rw [if_neg h0] at h
    by_cases h1 : isConst x.f0
    · rw [if_pos h1] at h
      have := of_decide_eq_true h
      exact .inr (.inl ⟨by rw [if_neg h0, if_pos h1], h0, h1, this.2.2.1, this.2.2.2⟩)
    · rw [if_neg h1] at h
      by_cases h2 : isNot x.f0 ∨ isNeg x.f0
      · rw [if_pos h2] at h
        have := of_decide_eq_true h
        exact .inr (.inr (.inl ⟨by rw [if_neg h0, if_neg h1, if_pos h2], h0, h1, h2, this.1.1, this.1.2, this.2.1⟩))
      · rw [if_neg h2] at h
        by_cases h3 : hasS bops x.f0 = true
        · rw [if_pos h3] at h
          have := of_decide_eq_true h
          exact .inr (.inr (.inr ⟨by rw [if_neg h0, if_neg h1, if_neg h2, if_pos h3], h0, h1, h2, this.1.1, this.1.2, this.2.1.1, this.2.1.2⟩))
        · rw [if_neg h3] at h
          cases h
theorem ndV_ok {x : Node} {i : Nat} (h : okNx x i = true) {a b : Int} (ha : okV a) (hb : okV b) {o : List Int} (ho : ∀ v ∈ o, okV v) : okV (ndV x a b o) := by
  have hrd : ∀ p : Int, okV (rd o p) := fun p => by
    unfold rd
    rw [List.getD_eq_getElem?_getD]
    cases e : o[p.toNat]? with
    | none => simp; unfold okV; omega
    | some v => exact ho v (List.mem_of_getElem? e)
  rcases nd_case h with ⟨e, _, _, _, h3⟩ | ⟨e, _, _, h3⟩ | ⟨e, _⟩ | ⟨e, _⟩
  · rw [ndV_0 e]
    split
    · exact ha
    · exact hb
  · rw [ndV_1 e]
    exact h3
  · rw [ndV_2 e]
    exact apV_ok _ _ _ (Int.le_refl 0)
  · rw [ndV_3 e]
    exact apV_ok _ _ _ (hrd _).1
theorem vlL_ok {l : List Node} (ok : okNs 0 l = true) {a b : Int} (ha : okV a) (hb : okV b) : ∀ i, i ≤ l.length → ∀ v ∈ vlL a b (l.take i), okV v
  | 0, _, v, h => by simp [vlL] at h
  | i + 1, hi, v, h => by
    rw [vlL_next a b l i (by omega)] at h
    rcases List.mem_append.1 h with h | h
    · exact vlL_ok ok ha hb i (by omega) v h
    · rw [List.mem_singleton.1 h]
      have hx := okNs_get l 0 i (by omega) ok
      rw [Nat.zero_add] at hx
      exact ndV_ok hx ha hb (vlL_ok ok ha hb i (by omega))
section
variable (l : List Node) (ok : okNs 0 l = true) (hl : l.length ≤ 1000) (a b : Int) (ha : okV a) (hb : okV b)
include ok hl ha hb
theorem values_ev : Ev (fun k => impl_values.f k l a b) (vlL a b l) := by
  have key : ∀ (d i : Nat), i + d = l.length → Ev (fun k => impl_values.l0 k a b (vlL a b (l.take i) ++ List.replicate d 0) l l.length i) (vlL a b l) := by
    intro d
    induction d with
    | zero =>
      intro i hi
      refine Ev.step (f := fun _ => some (vlL a b l)) (fun k => ?_) (Ev.now _)
      simp only [impl_values.l0]
      rw [if_neg (by omega), List.take_of_length_le (by omega), List.replicate_zero, List.append_nil]
    | succ d ih =>
      intro i hi
      have hlt : i < l.length := by omega
      have next := ih (i + 1) (by omega)
      have hx := rdN_eq (getD_eq l i hlt)
      have hok := okNs_get l 0 i hlt ok
      rw [Nat.zero_add] at hok
      have hv := vlL_ok ok ha hb i (by omega)
      have hlen : (vlL a b (l.take i)).length = i := by rw [vlL_len, List.length_take]; omega
      rw [vlL_next a b l i hlt] at next
      obtain ⟨xs, hxs⟩ : ∃ xs, xs = vlL a b (l.take i) := ⟨_, rfl⟩
      rw [← hxs] at next hlen hv ⊢
      have hi7 : (i : Int) < ((xs ++ List.replicate (d + 1) (0 : Int)).length : Int) := by rw [List.length_append, List.length_replicate]; omega
      have e := fun v => set_fill xs (List.replicate d (0 : Int)) 0 v
      rw [List.length_replicate, hlen] at e
      have rdx : ∀ p : Int, 0 ≤ p → p ≤ (i : Int) - 1 → rd (xs ++ List.replicate (d + 1) 0) p = rd xs p := fun p h0 h1 => rd_left _ _ p h0 (by omega)
      have hrd : ∀ p : Int, 0 ≤ rd xs p := fun p => by
        unfold rd
        rw [List.getD_eq_getElem?_getD]
        cases q : xs[p.toNat]? with
        | none => simp
        | some v => exact (hv v (List.mem_of_getElem? q)).1
      have hle : ((xs ++ List.replicate (d + 1) (0 : Int)).length : Int) = (i : Int) + (d + 1) := by rw [List.length_append, List.length_replicate]; omega
      refine Ev.step (fun k => by simp only [impl_values.l0]; rfl) (Ev.ifp (by omega) (Ev.ifp (by omega) (Ev.ifp (by omega) ?_)))
      rw [hx]
      obtain ⟨x, hxx⟩ : ∃ x, x = l[i] := ⟨_, rfl⟩
      rw [← hxx] at next hok ⊢
      rcases nd_case hok with ⟨c, h0, _, _, h3, h3'⟩ | ⟨c, h0, h1, _⟩ | ⟨c, h0, h1, h2, g1, g1', g2⟩ | ⟨c, h0, h1, h2, g1, g1', g2, g2'⟩
      · rw [ndV_0 c] at next
        refine Ev.ifp h0 (Ev.call rfl (Ev.ifp h3 (Ev.ifp (by show x.f3 < ((2 : Nat) : Int); omega) (Ev.ifp hi7 ?_))))
        rw [Int.toNat_natCast, e, w64n i (by omega)]
        have : rd [a, b] x.f3 = if x.f3 = 0 then a else b := by
          rcases (show x.f3 = 0 ∨ x.f3 = 1 by omega) with q | q <;> rw [q] <;> rfl
        rw [this]
        exact next
      · rw [ndV_1 c] at next
        refine Ev.ifn h0 (Ev.ifp h1 (Ev.ifp hi7 ?_))
        rw [Int.toNat_natCast, e, w64n i (by omega)]
        exact next
      · rw [ndV_2 c] at next
        refine Ev.ifn h0 (Ev.ifn h1 (Ev.ifp g1 (Ev.ifp (by omega) (Ev.ifp (by omega) (Ev.ifp (by omega) ?_)))))
        rw [rdx _ g1 g1', apply_eq, exApply_one h2]
        refine Ev.call (apV_eq _ _ _ (Int.le_refl 0)) (Ev.ifp hi7 ?_)
        rw [Int.toNat_natCast, e, w64n i (by omega)]
        exact next
      · rw [ndV_3 c] at next
        refine Ev.ifn h0 (Ev.ifn h1 (Ev.ifp g1 (Ev.ifp (by omega) (Ev.ifp g2 (Ev.ifp (by omega) ?_)))))
        rw [rdx _ g1 g1', rdx _ g2 g2', apply_eq]
        refine Ev.call (apV_eq _ _ _ (hrd _)) (Ev.ifp hi7 ?_)
        rw [Int.toNat_natCast, e, w64n i (by omega)]
        exact next
  unfold impl_values.f
  refine Ev.ifp (by omega) (Ev.ifp (by omega) ?_)
  rw [Int.toNat_natCast]
  exact key l.length 0 (by omega)
theorem exValues_ev : Ev (fun k => spec_exValues.f k l a b) (vlL a b l) := by
  have key : ∀ (d i : Nat), i + d = l.length → Ev (fun k => spec_exValues.l0 k a b (vlL a b (l.take i)) l l.length i) (vlL a b l) := by
    intro d
    induction d with
    | zero =>
      intro i hi
      refine Ev.step (f := fun _ => some (vlL a b l)) (fun k => ?_) (Ev.now _)
      simp only [spec_exValues.l0]
      rw [if_neg (by omega), List.take_of_length_le (by omega)]
    | succ d ih =>
      intro i hi
      have hlt : i < l.length := by omega
      have next := ih (i + 1) (by omega)
      have hx := rdN_eq (getD_eq l i hlt)
      have hok := okNs_get l 0 i hlt ok
      rw [Nat.zero_add] at hok
      have hv := vlL_ok ok ha hb i (by omega)
      have hlen : (vlL a b (l.take i)).length = i := by rw [vlL_len, List.length_take]; omega
      rw [vlL_next a b l i hlt] at next
      obtain ⟨xs, hxs⟩ : ∃ xs, xs = vlL a b (l.take i) := ⟨_, rfl⟩
      rw [← hxs] at next hlen hv ⊢
      have hrd : ∀ p : Int, 0 ≤ rd xs p := fun p => by
        unfold rd
        rw [List.getD_eq_getElem?_getD]
        cases q : xs[p.toNat]? with
        | none => simp
        | some v => exact (hv v (List.mem_of_getElem? q)).1
      have hcap : xs.length < 17592186044416 := by omega
      refine Ev.step (fun k => by simp only [spec_exValues.l0]; rfl) (Ev.ifp (by omega) (Ev.ifp (by omega) (Ev.ifp (by omega) ?_)))
      rw [hx, w64n i (by omega)]
      obtain ⟨x, hxx⟩ : ∃ x, x = l[i] := ⟨_, rfl⟩
      rw [← hxx] at next hok ⊢
      have one := exOne_eq x.f0
      rcases nd_case hok with ⟨c, h0, _, _, h3, h3'⟩ | ⟨c, h0, h1, _⟩ | ⟨c, h0, h1, h2, g1, g1', g2⟩ | ⟨c, h0, h1, h2, g1, g1', g2, g2'⟩
      · rw [ndV_0 c] at next
        have h1 : ¬ isConst x.f0 := fun q => by
          unfold isConst at q
          unfold isIn at h0
          rw [h0] at q
          cases q
        refine Ev.ifn h1 (Ev.ifp h0 (Ev.step (fun k => by simp only [spec_exValues.j1]; rfl) ?_))
        by_cases q : x.f3 = 0
        · rw [if_pos q] at next
          exact Ev.ifp (by rw [q]; rfl) (Ev.ifp hcap (by rw [w64n i (by omega)]; exact next))
        · rw [if_neg q] at next
          exact Ev.ifn (by rw [beq_iff_eq]; exact q) (Ev.ifp h0 (Ev.ifp hcap (by rw [w64n i (by omega)]; exact next)))
      · rw [ndV_1 c] at next
        exact Ev.ifp h1 (Ev.ifp hcap next)
      · rw [ndV_2 c] at next
        refine Ev.ifn h1 (Ev.ifn h0 (Ev.step (fun k => by simp only [spec_exValues.j1]; rfl) (Ev.ifn (by decide) (Ev.ifn h0 (Ev.call one ?_)))))
        refine Ev.ifp (decide_eq_true h2) (Ev.ifp g1 (Ev.ifp (by omega) ?_))
        refine Ev.call (apV_eq _ _ _ (Int.le_refl 0)) (Ev.ifp hcap ?_)
        rw [w64n i (by omega)]
        exact next
      · rw [ndV_3 c] at next
        refine Ev.ifn h1 (Ev.ifn h0 (Ev.step (fun k => by simp only [spec_exValues.j1]; rfl) (Ev.ifn (by decide) (Ev.ifn h0 (Ev.call one ?_)))))
        refine Ev.ifn (by rw [decide_eq_false h2]; decide) (Ev.ifp g1 (Ev.ifp (by omega) (Ev.ifp g2 (Ev.ifp (by omega) ?_))))
        refine Ev.call (apV_eq _ _ _ (hrd _)) (Ev.ifp hcap ?_)
        rw [w64n i (by omega)]
        exact next
  unfold spec_exValues.f
  exact key l.length 0 (by omega)
end
def evE (l : List Node) (a b : Int) : Int := rd (vlL a b l) ((l.length - 1 : Nat) : Int)
section
variable (l : List Node) (ok : okNs 0 l = true) (h0 : 0 < l.length) (hl : l.length ≤ 1000) (a b : Int) (ha : okV a) (hb : okV b)
include ok h0 hl ha hb
theorem eval_ev : Ev (fun k => impl_eval.f k l a b) (evE l a b) := by
  unfold impl_eval.f evE
  have e : wrap64 ((l.length : Int) - 1) = ((l.length - 1 : Nat) : Int) := by rw [w64 (by omega) (by omega)]; omega
  rw [e]
  exact Ev.bind (values_ev l ok hl a b ha hb) (Ev.ifp (by omega) (Ev.ifp (by rw [vlL_len]; omega) (Ev.now _)))
theorem exAt_ev : Ev (fun k => spec_exAt.f k l a b) (evE l a b) := by
  unfold spec_exAt.f evE
  have e : wrap64 ((l.length : Int) - 1) = ((l.length - 1 : Nat) : Int) := by rw [w64 (by omega) (by omega)]; omega
  rw [e]
  exact Ev.bind (exValues_ev l ok hl a b ha hb) (Ev.ifp (by omega) (Ev.ifp (by rw [vlL_len]; omega) (Ev.now _)))
theorem evE_ok : okV (evE l a b) := by
  unfold evE
  have h := vlL_ok ok ha hb l.length (Nat.le_refl _)
  rw [List.take_length] at h
  unfold rd
  rw [List.getD_eq_getElem?_getD, Int.toNat_natCast, List.getElem?_eq_getElem (by rw [vlL_len]; omega)]
  exact h _ (List.getElem_mem _)
end
end Go.Proofs.Ytnaafcleafbejaa.PL
end
section
namespace Go.Proofs.Ytnaafcleafbejaa.PL
open Go Go.RowKit Go.Proofs.YtnaafcleafbejaaW.PrintWords Go.Proofs.YtnaafcleafbejaaW.PrintLast Go.Proofs.YtnaafcleafbejaaW.PrintMore Go.Proofs.Ytnaafcleafbejaa.Q
set_option linter.unusedSimpArgs false
set_option linter.unusedVariables false
def allF (ok : Nat → Bool) (n i : Nat) : Bool := (List.range' i (n - i)).all ok
theorem allF_end (ok : Nat → Bool) (n : Nat) : allF ok n n = true := by unfold allF; rw [Nat.sub_self]; rfl
theorem allF_step (ok : Nat → Bool) (n i : Nat) (h : i < n) : allF ok n i = (ok i && allF ok n (i + 1)) := by
  unfold allF
  rw [show n - i = (n - (i + 1)) + 1 by omega, List.range'_succ, List.all_cons]
theorem allF_iff (ok : Nat → Bool) (n : Nat) : allF ok n 0 = true ↔ ∀ i, i < n → ok i = true := by
  unfold allF
  rw [List.all_eq_true, Nat.sub_zero]
  constructor
  · intro h i hi
    exact h i (List.mem_range'_1.2 ⟨Nat.zero_le _, by omega⟩)
  · intro h i hi
    have := List.mem_range'_1.1 hi
    exact h i (by omega)
def okAt (e : List Node) (l : List Instr) (i : Nat) : Bool := decide (rd (atI l i) (lastR l) = evE e ((i / 64 : Nat) : Int) ((i % 64 : Nat) : Int))
def reachB (e : List Node) (l : List Instr) : Bool := allF (okAt e l) 4096 0
def tabE (e : List Node) (n : Nat) : List Int := tbN (fun a b => evE e (a : Int) (b : Int)) n
theorem reachB_iff (e : List Node) (l : List Instr) : colN l (lastR l) 4096 = tabE e 4096 ↔ reachB e l = true := by
  have key : ∀ n, colN l (lastR l) n = tabE e n ↔ ∀ i, i < n → okAt e l i = true := fun n => by
    unfold colN tabE tbN okAt
    rw [List.map_inj_left]
    constructor
    · intro h i hi
      exact decide_eq_true (h i (List.mem_range.2 hi))
    · intro h i hi
      exact of_decide_eq_true (h i (List.mem_range.1 hi))
  unfold reachB
  rw [key, allF_iff]
theorem column_ev (xs ys : List Int) (hx : xs.length ≤ 1048576) : Ev (fun k => impl_column_uint8.f k xs ys) (decide (xs = ys)) := by
  unfold impl_column_uint8.f
  by_cases hl : xs.length = ys.length
  · refine Ev.ifp (by omega) ?_
    have key : ∀ (d i : Nat), i + d = xs.length → Ev (fun k => impl_column_uint8.l0 k xs ys xs.length i) (decide (xs.drop i = ys.drop i)) := by
      intro d
      induction d with
      | zero =>
        intro i hi
        refine Ev.step (f := fun _ => some (decide (xs.drop i = ys.drop i))) (fun k => ?_) (Ev.now _)
        simp only [impl_column_uint8.l0]
        rw [if_neg (by omega), List.drop_of_length_le (by omega), List.drop_of_length_le (by omega)]
        simp
      | succ d ih =>
        intro i hi
        have h1 : i < xs.length := by omega
        have h2 : i < ys.length := by omega
        refine Ev.step (fun k => by simp only [impl_column_uint8.l0]; rfl) (Ev.ifp (by omega) (Ev.ifp (by omega) (Ev.ifp (by omega) (Ev.ifp (by omega) ?_))))
        rw [rd_eq (getD_eq xs i h1), rd_eq (getD_eq ys i h2), w64n i (by omega)]
        have e1 := List.drop_eq_getElem_cons h1
        have e2 := List.drop_eq_getElem_cons h2
        by_cases q : xs[i] = ys[i]
        · refine Ev.ifp q (ev_eq (ih (i + 1) (by omega)) ?_)
          rw [e1, e2, q]
          simp only [List.cons.injEq, true_and]
        · refine Ev.ifn q (Ev.some ?_)
          rw [e1, e2]
          exact (decide_eq_false (fun e => q (List.cons.inj e).1)).symm
    have := key xs.length 0 (by omega)
    simpa using this
  · refine Ev.ifn (by omega) (Ev.some ?_)
    rw [decide_eq_false (fun e => hl (by rw [e]))]
section
variable (e : List Node) (ok : okNs 0 e = true) (h0 : 0 < e.length) (hl : e.length ≤ 1000)
include ok h0 hl
theorem evE_in (a b : Nat) (ha : a < 64) (hb : b < 64) : Ev (fun k => impl_eval.f k e a b) (evE e (a : Int) (b : Int)) ∧ Ev (fun k => spec_exAt.f k e a b) (evE e (a : Int) (b : Int)) ∧ okV (evE e (a : Int) (b : Int)) :=
  have oa : okV (a : Int) := by unfold okV; omega
  have ob : okV (b : Int) := by unfold okV; omega
  ⟨eval_ev e ok h0 hl _ _ oa ob, exAt_ev e ok h0 hl _ _ oa ob, evE_ok e ok h0 hl _ _ oa ob⟩
theorem tableOf_ev : Ev (fun k => impl_tableOf.f k e) (tabE e 4096) := by
  have one : ∀ a b : Nat, a < 64 → b < 64 → Ev (fun k => impl_tableOf_1.f k a b [e]) (evE e (a : Int) (b : Int)) := fun a b ha hb => by
    unfold impl_tableOf_1.f
    refine Ev.ifp (by simp) ?_
    exact Ev.bind (evE_in e ok h0 hl a b ha hb).1 (Ev.now _)
  unfold impl_tableOf.f
  refine Ev.bind ?_ (Ev.now _)
  unfold impl_table_impl_tableOf_1.f tabE
  refine table_ev (fun a b => evE e (a : Int) (b : Int)) (fun k xs i => impl_table_impl_tableOf_1.l0 k xs i [e]) (fun k xs a c b => impl_table_impl_tableOf_1.l1 k xs a c b [e]) (fun a xs T ha h => ?_) (fun xs => ?_) (fun a b xs T ha hb hx h => ?_) (fun a xs T ha h => ?_)
  · exact Ev.step (fun k => by simp only [impl_table_impl_tableOf_1.l0]; rfl) (Ev.ifp (by omega) h)
  · refine Ev.step (f := fun _ => some xs) (fun k => ?_) (Ev.now _)
    simp only [impl_table_impl_tableOf_1.l0]
    rw [if_neg (by omega)]
  · refine Ev.step (fun k => by simp only [impl_table_impl_tableOf_1.l1]; rfl) (Ev.ifp (by omega) (Ev.bind (one a b ha hb) ?_))
    refine Ev.ifp (by omega) ?_
    rw [w64n b (by omega)]
    exact h
  · refine Ev.step (fun k => by simp only [impl_table_impl_tableOf_1.l1]; rfl) (Ev.ifn (by omega) ?_)
    rw [w64n a (by omega)]
    exact h
omit ok h0 hl in
theorem tabE_len (n : Nat) : (tabE e n).length = n := tbN_len _ n
theorem tabE_bd : ∀ v ∈ tabE e 4096, 0 ≤ v ∧ v ≤ 63 := by
  have key : ∀ n, n ≤ 4096 → ∀ v ∈ tabE e n, 0 ≤ v ∧ v ≤ 63 := fun n hn v hv => by
    unfold tabE tbN at hv
    obtain ⟨i, hi, rfl⟩ := List.mem_map.1 hv
    have := List.mem_range.1 hi
    exact (evE_in e ok h0 hl (i / 64) (i % 64) (by omega) (by omega)).2.2
  exact key 4096 (Nat.le_refl _)
theorem goal_ev : Ev (fun k => impl_columnOf.f k (tabE e 4096)) (tabE e 4096) := columnOf_ev _ (by rw [tabE_len e]; decide) (tabE_bd e ok h0 hl)
variable {l : List Instr} (h : okP l)
include h
omit ok h0 hl h in
theorem at_ab (a b : Nat) (hb : b < 64) : atI l (64 * a + b) = runM l (st0 a b) := by
  unfold atI endM
  rw [show (64 * a + b) / 64 = a by omega, show (64 * a + b) % 64 = b by omega]
omit ok h0 hl h in
theorem okAt_ab (a b : Nat) (hb : b < 64) : okAt e l (64 * a + b) = decide (rd (runM l (st0 a b)) (lastR l) = evE e (a : Int) (b : Int)) := by
  unfold okAt
  rw [at_ab (l := l) a b hb, show (64 * a + b) / 64 = a by omega, show (64 * a + b) % 64 = b by omega]
theorem seDifference_ev : ∃ t, Ev (fun k => spec_seDifference.f k e l (lastR l)) t ∧ t.2.2 = !reachB e l := by
  have hr := lastR_bd h
  have key : ∀ (d a : Nat), a + d = 64 → ∃ t, Ev (fun k => spec_seDifference.l0 k e l (lastR l) a) t ∧ t.2.2 = !allF (okAt e l) 4096 (64 * a) := by
    intro d
    induction d with
    | zero =>
      intro a ha
      obtain rfl : a = 64 := by omega
      refine ⟨(0, 0, false), Ev.step (f := fun _ => some (0, 0, false)) (fun k => ?_) (Ev.now _), ?_⟩
      · simp only [spec_seDifference.l0]
        rw [if_neg (by omega)]
      · rw [show 64 * 64 = 4096 by decide, allF_end]
        rfl
    | succ d ih =>
      intro a ha
      have next := ih (a + 1) (by omega)
      have row : ∀ (q b : Nat), b + q = 64 → ∃ t, Ev (fun k => spec_seDifference.l1 k e l (lastR l) a b) t ∧ t.2.2 = !allF (okAt e l) 4096 (64 * a + b) := by
        intro q
        induction q with
        | zero =>
          intro b hb
          obtain rfl : b = 64 := by omega
          obtain ⟨t, ht, ht'⟩ := next
          refine ⟨t, Ev.step (fun k => by simp only [spec_seDifference.l1]; rfl) (Ev.ifn (by omega) ?_), ?_⟩
          · rw [w64n a (by omega)]
            exact ht
          · rw [ht', show 64 * (a + 1) = 64 * a + 64 by omega]
        | succ q ih2 =>
          intro b hb
          have hs := st0_ok (a := (a : Int)) (b := (b : Int)) (by unfold okV; omega) (by unfold okV; omega)
          have hk := (runM_ok l (okP_all h) _ hs).1
          have ho := okAt_ab e (l := l) a b (by omega)
          rw [allF_step _ _ _ (by omega), ho]
          have pre : ∀ t, Ev (fun k => if rd (runM l (st0 a b)) (lastR l) = evE e (a : Int) (b : Int) then spec_seDifference.l1 k e l (lastR l) a (wrap64 ((b : Int) + 1)) else some ((a : Int), (b : Int), true)) t → Ev (fun k => spec_seDifference.l1 k e l (lastR l) a b) t := fun t ht => by
            refine Ev.step (fun k => by simp only [spec_seDifference.l1]; rfl) (Ev.ifp (by omega) (Ev.call (cdStart_eq _ _) (Ev.bind (cdRun_ev l (okP_le h) (okP_all h) _ hs) ?_)))
            refine Ev.ifp hr.1 ?_
            refine Ev.ifp (by omega) ?_
            exact Ev.bind (evE_in e ok h0 hl a b (by omega) (by omega)).2.1 ht
          by_cases q2 : rd (runM l (st0 a b)) (lastR l) = evE e (a : Int) (b : Int)
          · obtain ⟨t, ht, ht'⟩ := ih2 (b + 1) (by omega)
            refine ⟨t, pre t (Ev.ifp q2 ?_), ?_⟩
            · rw [w64n b (by omega)]
              exact ht
            · rw [ht', decide_eq_true q2, Bool.true_and, Nat.add_assoc]
          · refine ⟨_, pre _ (Ev.ifn q2 (Ev.now _)), ?_⟩
            rw [decide_eq_false q2, Bool.false_and]
            rfl
      obtain ⟨t, ht, ht'⟩ := row 64 0 (by omega)
      refine ⟨t, Ev.step (fun k => by simp only [spec_seDifference.l0]; rfl) (Ev.ifp (by omega) ht), ?_⟩
      rw [ht', Nat.add_zero]
  unfold spec_seDifference.f
  exact key 64 0 (by omega)
theorem suReaches_ev : Ev (fun k => spec_suReaches.f k e l) (reachB e l) := by
  have hr := lastR_bd h
  obtain ⟨t, ht, ht'⟩ := seDifference_ev e ok h0 hl h
  have step : ∀ (Y : List (List Int)) (i a b : Nat), Y.length = 4 → i < 4 → a < 64 → b < 64 → rd_L6 Y (i : Int) = [(a : Int), (b : Int)] → Ev (fun k => spec_suReaches.l0 k e l (lastR l) Y 4 ((i + 1 : Nat) : Int)) (reachB e l) → Ev (fun k => spec_suReaches.l0 k e l (lastR l) Y 4 (i : Int)) (reachB e l) := by
    intro Y i a b hY hi ha hb hrow next
    have hs := st0_ok (a := (a : Int)) (b := (b : Int)) (by unfold okV; omega) (by unfold okV; omega)
    have hk := (runM_ok l (okP_all h) _ hs).1
    refine Ev.step (fun k => by simp only [spec_suReaches.l0]; rfl) (Ev.ifp (by omega) (Ev.ifp (by omega) (Ev.ifp (by omega) ?_)))
    rw [hrow]
    refine Ev.ifp (by simp) (Ev.ifp (by simp) ?_)
    rw [show rd [(a : Int), (b : Int)] 0 = (a : Int) from rfl, show rd [(a : Int), (b : Int)] 1 = (b : Int) from rfl]
    refine Ev.call (cdStart_eq _ _) (Ev.bind (cdRun_ev l (okP_le h) (okP_all h) _ hs) ?_)
    refine Ev.ifp hr.1 ?_
    refine Ev.ifp (by omega) ?_
    refine Ev.bind (evE_in e ok h0 hl a b ha hb).2.1 ?_
    by_cases q2 : rd (runM l (st0 a b)) (lastR l) = evE e (a : Int) (b : Int)
    · refine Ev.ifp q2 ?_
      rw [w64n i (by omega)]
      exact next
    · refine Ev.ifn q2 (Ev.some ?_)
      cases hB : reachB e l
      · rfl
      · unfold reachB at hB
        have := (allF_iff _ _).1 hB (64 * a + b) (by omega)
        rw [okAt_ab e (l := l) a b hb, decide_eq_false q2] at this
        cases this
  unfold spec_suReaches.f
  refine Ev.call (suLast_eq h) (Ev.call rfl ?_)
  refine step _ 0 37 22 rfl (by decide) (by decide) (by decide) rfl ?_
  refine step _ 1 5 63 rfl (by decide) (by decide) (by decide) rfl ?_
  refine step _ 2 62 3 rfl (by decide) (by decide) (by decide) rfl ?_
  refine step _ 3 1 1 rfl (by decide) (by decide) (by decide) rfl ?_
  refine Ev.step (fun k => by simp only [spec_suReaches.l0]; rfl) (Ev.ifn (by decide) (Ev.bind ht (Ev.some ?_)))
  rw [ht', Bool.not_not]
end
end Go.Proofs.Ytnaafcleafbejaa.PL
end
section
namespace Go.Proofs.Ytnaafcleafbejaa.PL
open Go Go.RowKit Go.Proofs.YtnaafcleafbejaaW.PrintWords Go.Proofs.YtnaafcleafbejaaW.PrintLast Go.Proofs.YtnaafcleafbejaaW.PrintMore Go.Proofs.Ytnaafcleafbejaa.Q
set_option linter.unusedSimpArgs false
set_option linter.unusedVariables false
section
variable {σ α β : Type}
def fuL (h : α → σ → Bool × σ) : List α → σ → Bool × σ
  | [], s => (true, s)
  | x :: xs, s => if (h x s).1 = true then fuL h xs (h x s).2 else (false, (h x s).2)
theorem fuL_one (h : α → σ → Bool × σ) (x : α) (s : σ) : fuL h [x] s = h x s := by
  simp only [fuL]
  obtain ⟨b, t⟩ := h x s
  cases b <;> rfl
theorem fuL_append (h : α → σ → Bool × σ) : ∀ (xs ys : List α) (s : σ), fuL h (xs ++ ys) s = if (fuL h xs s).1 = true then fuL h ys (fuL h xs s).2 else (false, (fuL h xs s).2)
  | [], ys, s => by simp [fuL]
  | x :: xs, ys, s => by
    rw [List.cons_append]
    by_cases q : (h x s).1 = true
    · have e1 : ∀ zs, fuL h (x :: zs) s = fuL h zs (h x s).2 := fun zs => by simp only [fuL]; exact if_pos q
      rw [e1, e1]
      exact fuL_append h xs ys _
    · have e1 : ∀ zs, fuL h (x :: zs) s = (false, (h x s).2) := fun zs => by simp only [fuL]; exact if_neg q
      rw [e1, e1]
      rfl
theorem fuL_flat (h : β → σ → Bool × σ) (f : α → List β) : ∀ (xs : List α) (s : σ), fuL h (xs.flatMap f) s = fuL (fun x s => fuL h (f x) s) xs s
  | [], s => rfl
  | x :: xs, s => by
    rw [List.flatMap_cons, fuL_append]
    simp only [fuL]
    by_cases q : (fuL h (f x) s).1 = true
    · rw [if_pos q, if_pos q, fuL_flat h f xs]
    · rw [if_neg q, if_neg q]
theorem pgL_ev (g : Nat → Instr → σ → Option (Bool × σ)) (h : Instr → σ → Bool × σ) (I : σ → Prop) : ∀ (xs : List Instr), (∀ x ∈ xs, ∀ s, I s → Ev (fun k => g k x s) (h x s) ∧ I (h x s).2) → ∀ s, I s → Ev (fun k => pgL (g k) xs s) (fuL h xs s) ∧ I (fuL h xs s).2
  | [], _, s, hs => ⟨Ev.now _, hs⟩
  | x :: xs, hx, s, hs => by
    obtain ⟨h1, h2⟩ := hx x (List.mem_cons_self ..) s hs
    obtain ⟨h3, h4⟩ := pgL_ev g h I xs (fun y hy => hx y (List.mem_cons_of_mem _ hy)) _ h2
    show Ev (fun k => (g k x s).bind fun r => if r.1 = true then pgL (g k) xs r.2 else some (false, r.2)) _ ∧ _
    simp only [fuL]
    by_cases q : (h x s).1 = true
    · rw [if_pos q]
      exact ⟨Ev.bind h1 (Ev.ifp q h3), h4⟩
    · rw [if_neg q]
      exact ⟨Ev.bind h1 (Ev.ifn q (Ev.now _)), h2⟩
theorem pgM_up (k : Nat) (lists : List (List Instr)) (n : Int) (st : List Instr → List (List Int) → σ → Option (Bool × σ)) : ∀ d code cs s, LeO (pgM k lists n st d code cs s) (pgM k lists n st (d + 1) code cs s)
  | 0, _, _, _ => LeO.none _
  | d + 1, code, cs, s => LeO.ite (LeO.refl _) (LeO.ite (pgL_mono _ _ (fun x s => LeO.bind (LeO.refl _) (fun nx => pgM_up k lists n st d _ nx s)) _ s) (LeO.refl _))
theorem pgM_le (k : Nat) (lists : List (List Instr)) (n : Int) (st : List Instr → List (List Int) → σ → Option (Bool × σ)) (d : Nat) (code : List Instr) (cs : List (List Int)) (s : σ) (r : Bool × σ) (h : pgM k lists n st d code cs s = some r) : ∀ e, pgM k lists n st (d + e) code cs s = some r
  | 0 => h
  | e + 1 => pgM_up k lists n st (d + e) code cs s r (pgM_le k lists n st d code cs s r h e)
theorem pgM_deep {lists : List (List Instr)} {n : Int} {st : Nat → List Instr → List (List Int) → σ → Option (Bool × σ)} {D : Nat} {code : List Instr} {cs : List (List Int)} {s : σ} {r : Bool × σ} (h : Ev (fun k => pgM k lists n (st k) D code cs s) r) : Ev (fun k => pgM k lists n (st k) k code cs s) r := by
  obtain ⟨K, hK⟩ := h
  refine ⟨max K D, fun k hk => ?_⟩
  have := pgM_le k lists n (st k) D code cs s r (hK k (by omega)) (k - D)
  rwa [show D + (k - D) = k by omega] at this
end
section
variable {σ : Type} (os : List ByteArray) (ims : List Int) (ho : okChoice os ims = true) (n : Nat) (hn : n ≤ 3) (st : Nat → List Instr → List (List Int) → σ → Option (Bool × σ)) (step : List Instr → σ → Bool × σ) (I : σ → Prop)
  (hst : ∀ l, okP l → l.length = n → ∀ s, I s → Ev (fun k => st k l (cols l (n - 1)) s) (step l s) ∧ I (step l s).2)
include ho hn hst
theorem pgM_ev : ∀ (d : Nat) (p : List Instr), okP p → p.length + d = n → ∀ s, I s → Ev (fun k => pgM k ((List.range n).map (stepsM os ims)) (n : Int) (st k) (d + 1) p (cols p (min p.length (n - 1))) s) (fuL step (compM os ims d p) s) ∧ I (fuL step (compM os ims d p) s).2 := by
  intro d
  induction d with
  | zero =>
    intro p hp hl s hs
    obtain ⟨h1, h2⟩ := hst p hp (by omega) s hs
    rw [show compM os ims 0 p = [p] from rfl, fuL_one, Nat.min_eq_right (by omega)]
    refine ⟨?_, h2⟩
    show Ev (fun k => if (p.length : Int) = (n : Int) then st k p (cols p (n - 1)) s else _) _
    exact Ev.ifp (by omega) h1
  | succ d ih =>
    intro p hp hl s hs
    have eL : ((List.range n).map (stepsM os ims)).getD p.length [] = stepsM os ims p.length := by
      simp [List.getD, List.getElem?_range (show p.length < n by omega)]
    rw [Nat.min_eq_left (show p.length ≤ n - 1 by omega), show compM os ims (d + 1) p = (stepsM os ims p.length).flatMap fun x => compM os ims d (p ++ [x]) from rfl, fuL_flat]
    have key := pgL_ev (fun k x s => (pgNext k (n : Int) p.length (cols p p.length) x).bind fun nx => pgM k ((List.range n).map (stepsM os ims)) (n : Int) (st k) (d + 1) (p ++ [x]) nx s) (fun x s => fuL step (compM os ims d (p ++ [x])) s) I (stepsM os ims p.length) (fun x hx s hs => ?_) s hs
    · refine ⟨?_, key.2⟩
      show Ev (fun k => if (p.length : Int) = (n : Int) then st k p (cols p p.length) s else if p.length < ((List.range n).map (stepsM os ims)).length ∧ (cols p p.length).length < 1048576 ∧ p.length < 1048576 then pgL (fun x s => (pgNext k (n : Int) p.length (cols p p.length) x).bind fun nx => pgM k ((List.range n).map (stepsM os ims)) (n : Int) (st k) (d + 1) (p ++ [x]) nx s) (((List.range n).map (stepsM os ims)).getD p.length []) s else none) _
      rw [eL]
      exact Ev.ifn (by omega) (Ev.ifp ⟨by rw [List.length_map, List.length_range]; omega, by rw [cols_len]; omega, by omega⟩ key.1)
    · have hq := okP_snoc os ims ho hp (by omega) hx
      have hql : (p ++ [x]).length = p.length + 1 := by rw [List.length_append, List.length_singleton]
      have hk : p.length < (p ++ [x]).length := by omega
      have ex : (p ++ [x]).getD p.length zN = x := by simp [List.getD]
      have ecols : cols (p ++ [x]) p.length = cols p p.length := by
        unfold cols
        rw [List.take_left, List.take_length]
      have next := ih (p ++ [x]) hq (by omega) s hs
      refine ⟨?_, next.2⟩
      unfold pgNext
      by_cases q : p.length + 1 < n
      · have hw := writes_ev hq p.length x (by have := hq.2 p.length hk; rwa [ex] at this) (by omega)
        have hcs := cols_succ hq p.length hk
        rw [ex, ecols] at hcs
        rw [ecols] at hw
        refine Ev.bind (Ev.ifp (by rw [w64 (by omega) (by omega)]; omega) (Ev.bind hw (Ev.now _))) ?_
        rw [hql, Nat.min_eq_left (by omega), hcs] at next
        exact next.1
      · refine Ev.bind (Ev.ifn (by rw [w64 (by omega) (by omega)]; omega) (Ev.now _)) ?_
        rw [hql, Nat.min_eq_right (by omega), show n - 1 = p.length by omega, ecols] at next
        exact next.1
omit hst in
theorem pgGo_ev : ∀ (m i : Nat), i + m = n → Ev (fun k => pgGo k os ims m ((List.range i).map (stepsM os ims))) ((List.range n).map (stepsM os ims)) := by
  obtain ⟨ho', hi', hc⟩ := okChoice_of ho
  intro m
  induction m with
  | zero =>
    intro i hi
    obtain rfl : i = n := by omega
    exact Ev.now _
  | succ m ih =>
    intro i hi
    have next := ih (i + 1) (by omega)
    rw [List.range_succ, List.map_append, List.map_singleton] at next
    show Ev (fun k => if ((List.range i).map (stepsM os ims)).length < 1048576 then (impl_steps.f k os ims (((List.range i).map (stepsM os ims)).length : Int)).bind fun xs => pgGo k os ims m ((List.range i).map (stepsM os ims) ++ [xs]) else none) _
    rw [List.length_map, List.length_range]
    exact Ev.ifp (by omega) (Ev.bind (steps_ev os ims i ho' hi' (by omega) hc) next)
theorem pgP_ev (s : σ) (hs : I s) : Ev (fun k => pgP k os ims (n : Int) (st k) s) (fuL step (compM os ims n []) s) ∧ I (fuL step (compM os ims n []) s).2 := by
  have h := pgM_ev os ims ho n hn st step I hst n [] okP_nil (by simp) s hs
  refine ⟨?_, h.2⟩
  have h1 := h.1
  rw [List.length_nil, Nat.min_eq_left (Nat.zero_le _)] at h1
  unfold pgP
  have hg := pgGo_ev os ims ho n hn n 0 (by omega)
  rw [Int.toNat_natCast]
  exact Ev.bind hg (Ev.bind (begun_ev []) (Ev.ifp (by rw [cols_len]; omega) (pgM_deep h1)))
end
theorem rcIs_ev (e : List Node) {l : List Instr} (h : okP l) (n : Nat) (hn : l.length = n) : Ev (fun k => rcIs k (n : Int) (tabE e 4096) l (cols l (n - 1))) (reachB e l) := by
  have h3 := h.1
  unfold rcIs
  by_cases q : n = 0
  · subst q
    obtain rfl := List.eq_nil_of_length_eq_zero hn
    refine Ev.ifp rfl (Ev.ifp (by rw [cols_len]; omega) ?_)
    have e1 : (cols [] (0 - 1)).getD 0 [] = colN [] (lastR []) 4096 := by
      have := cols_at [] 0 0 (by omega)
      exact this
    rw [e1]
    refine ev_eq (column_ev _ _ (by rw [colN_len]; decide)) ?_
    have := reachB_iff e ([] : List Instr)
    cases hB : reachB e []
    · exact decide_eq_false (fun q => by have := this.1 q; rw [hB] at this; cases this)
    · exact decide_eq_true (this.2 hB)
  · obtain ⟨m, rfl⟩ : ∃ m, n = m + 1 := ⟨n - 1, by omega⟩
    have hk : m < l.length := by omega
    have ew : wrap64 (((m + 1 : Nat) : Int) - 1) = (m : Int) := by rw [w64 (by omega) (by omega)]; omega
    rw [ew, rdI_getD l m hk, show m + 1 - 1 = m by omega]
    refine Ev.ifn (by omega) (Ev.ifp (by omega) (ev_eq (isColumn_ev h m _ (h.2 m hk) (by omega) (tabE e 4096) (tabE_len e 4096)) ?_))
    have ec := col_new h m hk 4096 (Nat.le_refl _)
    rw [List.take_of_length_le (by omega)] at ec
    have er : lastR l = ((2 + m : Nat) : Int) := by
      unfold lastR
      rw [if_neg (by omega), hn]
      omega
    have hi := reachB_iff e l
    rw [er, ec] at hi
    have ha : ((List.range 4096).all fun i => decide (valM (l.getD m zN) (atI (l.take m) i) = rd (tabE e 4096) (i : Int))) = true ↔ (List.range 4096).map (fun i => valM (l.getD m zN) (atI (l.take m) i)) = tabE e 4096 := by
      rw [List.all_eq_true]
      constructor
      · intro q
        unfold tabE tbN
        refine List.map_congr_left fun i hi => ?_
        have := of_decide_eq_true (q i hi)
        rw [this]
        exact rd_eq (fun d => by simp [tabE, tbN, List.getD, List.mem_range.1 hi])
      · intro q i hi
        refine decide_eq_true ?_
        rw [← q]
        exact (rd_eq (fun d => by simp [List.getD, List.mem_range.1 hi])).symm
    rw [Bool.eq_iff_iff, ha, hi]
def rcStep {σ : Type} (e : List Node) (step : List Instr → σ → Bool × σ) (l : List Instr) (s : σ) : Bool × σ := if reachB e l = true then step l s else (true, s)
def shStep (acB : List Instr → Bool) (l : List Instr) (s : List Instr × Bool) : Bool × (List Instr × Bool) := if acB l = true then (false, (l, true)) else (!s.2, s)
theorem find_fu (e : List Node) (acB : List Instr → Bool) : ∀ ls : List (List Instr), fuL (rcStep e (shStep acB)) ls ([], false) = match ls.find? (fun l => reachB e l && acB l) with
    | some l => (false, (l, true))
    | none => (true, ([], false))
  | [] => rfl
  | l :: ls => by
    have ih := find_fu e acB ls
    simp only [fuL, rcStep, shStep]
    cases h1 : reachB e l with
    | false =>
      rw [List.find?_cons_of_neg (by rw [h1, Bool.false_and]; decide)]
      exact ih
    | true =>
      cases h2 : acB l with
      | false =>
        rw [List.find?_cons_of_neg (by rw [h1, h2]; decide)]
        exact ih
      | true =>
        rw [List.find?_cons_of_pos (by rw [h1, h2]; rfl)]
        rfl
def firstM (os : List ByteArray) (ims : List Int) (p : List Instr → Bool) : Nat → Nat → List Instr × Bool
  | 0, _ => ([], false)
  | m + 1, i => match (compM os ims i []).find? p with
    | some l => (l, true)
    | none => firstM os ims p m (i + 1)
section
variable (e : List Node) (ok : okNs 0 e = true) (h0 : 0 < e.length) (hl : e.length ≤ 24) (os : List ByteArray) (ims : List Int) (ho : okChoice os ims = true)
include ok h0 hl ho
omit ok h0 hl in
theorem shL_ev (ac : Nat → List Instr → List (List Int) → Option Bool) (acB : List Instr → Bool) (hac : ∀ l, okP l → Ev (fun k => ac k l (cols l (l.length - 1))) (acB l)) : ∀ (m i : Nat), i + m ≤ 4 → Ev (fun k => shL k os ims (tabE e 4096) (ac k) m i) (firstM os ims (fun l => reachB e l && acB l) m i) := by
  intro m
  induction m with
  | zero => exact fun i _ => Ev.now _
  | succ m ih =>
    intro i hi
    show Ev (fun k => (pgP k os ims (i : Int) (rcSt k (i : Int) (tabE e 4096) (shSt (ac k))) (([] : List Instr), false)).bind fun r => if r.2.2 = true then some (r.2.1, true) else shL k os ims (tabE e 4096) (ac k) m (i + 1)) _
    have hp := (pgP_ev os ims ho i (by omega) (fun k => rcSt k (i : Int) (tabE e 4096) (shSt (ac k))) (rcStep e (shStep acB)) (fun _ => True) (fun l hlp hln s _ => ⟨?_, trivial⟩) (([] : List Instr), false) trivial).1
    · rw [find_fu] at hp
      refine Ev.bind hp ?_
      simp only [firstM]
      cases hf : (compM os ims i []).find? (fun l => reachB e l && acB l) with
      | some l => exact Ev.ifp rfl (Ev.now _)
      | none => exact Ev.ifn (by decide) (ih (i + 1) (by omega))
    · unfold rcSt rcStep
      refine Ev.bind (rcIs_ev e hlp i hln) ?_
      by_cases q : reachB e l = true
      · rw [if_pos q]
        refine Ev.ifp q ?_
        unfold shSt shStep
        have ha := hac l hlp
        rw [hln] at ha
        refine Ev.bind ha ?_
        by_cases q2 : acB l = true
        · refine Ev.ifp q2 (Ev.ifp (by have := hlp.1; omega) (Ev.some ?_))
          rw [if_pos q2]
        · refine Ev.ifn q2 (Ev.some ?_)
          rw [if_neg q2]
      · rw [if_neg q]
        exact Ev.ifn q (Ev.now _)
theorem suAll_ev (n many : Nat) (hn : n ≤ 3) (hm : many ≤ 1048576) : Ev (fun k => spec_suAll.f k e os ims (n : Int) (many : Int)) (((compM os ims n []).filter (reachB e)).take many) := by
  obtain ⟨ho', hi', hc⟩ := okChoice_of ho
  have hle := cntM_le' os ims ho' hi' n hn
  have hct := compM_count os ims n
  have key : ∀ (d a : Nat) (out : List (List Instr)), a + d = cntM os ims n → out.length ≤ many → Ev (fun k => spec_suAll.l0 k e (n : Int) (many : Int) out (a : Int) os ims) ((out ++ ((compM os ims n []).drop a).filter (reachB e)).take many) := by
    intro d
    induction d with
    | zero =>
      intro a out ha hout
      refine Ev.step (fun k => by simp only [spec_suAll.l0]; rfl) (Ev.bind (suCount_ev os ims ho n hn) ?_)
      refine Ev.ifn (by omega) (Ev.step (fun k => by simp only [spec_suAll.j1]; rfl) ?_)
      refine Ev.ifn (by decide) (Ev.some ?_)
      rw [List.drop_of_length_le (by omega), List.filter_nil, List.append_nil, List.take_of_length_le hout]
    | succ d ih =>
      intro a out ha hout
      have hin := compM_at os ims n a (by omega)
      have hd : (compM os ims n []).drop a = wthN os ims n a :: (compM os ims n []).drop (a + 1) := by
        obtain ⟨h1, h2⟩ := List.getElem?_eq_some_iff.1 hin
        rw [List.drop_eq_getElem_cons h1, h2]
      rw [hd]
      refine Ev.step (fun k => by simp only [spec_suAll.l0]; rfl) (Ev.bind (suCount_ev os ims ho n hn) ?_)
      refine Ev.ifp (by omega) (Ev.step (fun k => by simp only [spec_suAll.j1]; rfl) ?_)
      by_cases q : out.length < many
      · have hw := suWith_ev os ims ho n hn (a : Int) (by omega) (by omega)
        rw [progM_all] at hw
        have hok : okP (wthN os ims n a) := compM_ok os ims ho n [] _ (by simpa using hn) okP_nil (List.mem_of_getElem? hin)
        refine Ev.ifp (decide_eq_true (by omega)) (Ev.bind hw (Ev.bind (suReaches_ev e ok h0 (by omega) hok) ?_))
        rw [w64n a (by omega)]
        by_cases q2 : reachB e (wthN os ims n a) = true
        · have next := ih (a + 1) (out ++ [wthN os ims n a]) (by omega) (by rw [List.length_append, List.length_singleton]; omega)
          rw [List.append_assoc, List.singleton_append] at next
          rw [List.filter_cons_of_pos q2]
          exact Ev.ifp q2 (Ev.ifp (by omega) next)
        · rw [List.filter_cons_of_neg q2]
          exact Ev.ifn q2 (ih (a + 1) out (by omega) hout)
      · refine Ev.ifn (by simp; omega) (Ev.some ?_)
        rw [List.take_append_of_le_length (by omega), List.take_of_length_le hout]
  unfold spec_suAll.f
  have := key (cntM os ims n) 0 [] (by omega) (by simp)
  rw [List.nil_append, List.drop_zero] at this
  exact this
end
theorem take1_find {α : Type} (p : α → Bool) : ∀ ls : List α, (ls.filter p).take 1 = (ls.find? p).toList
  | [] => rfl
  | x :: ls => by
    cases h : p x with
    | true => rw [List.filter_cons_of_pos h, List.find?_cons_of_pos h]; rfl
    | false => rw [List.filter_cons_of_neg (by rw [h]; decide), List.find?_cons_of_neg (by rw [h]; decide)]; exact take1_find p ls
end Go.Proofs.Ytnaafcleafbejaa.PL
end
section
namespace Go.Proofs.Ytnaafcleafbejaa.PL
open Go Go.RowKit Go.Proofs.YtnaafcleafbejaaW.PrintWords Go.Proofs.YtnaafcleafbejaaW.PrintLast Go.Proofs.YtnaafcleafbejaaW.PrintMore Go.Proofs.Ytnaafcleafbejaa.Q
set_option linter.unusedSimpArgs false
set_option linter.unusedVariables false
def taskB (e : List Node) (os : List ByteArray) (ims : List Int) (most : Int) : Bool := okExpr e && (okChoice os ims && decide (0 ≤ most ∧ most ≤ 3))
theorem within_dec (a b c : Int) : impl_within.f a b c = some (decide (b ≤ a ∧ a ≤ c)) := by
  unfold impl_within.f
  by_cases h : b ≤ a
  · rw [if_pos h]
    simp [h]
  · rw [if_neg h]
    simp [h]
theorem l1In_dec (a b c : Int) : spec_l1In.f a b c = some (decide (b ≤ a ∧ a ≤ c)) := by
  unfold spec_l1In.f
  by_cases h : b ≤ a
  · rw [if_pos h]
    simp [h]
  · rw [if_neg h]
    simp [h]
theorem isSearch_ev (e : List Node) (os : List ByteArray) (ims : List Int) (most : Int) (ho : os.length ≤ 1048576) (hi : ims.length ≤ 1048576) : Ev (fun k => impl_isSearch.f k e os ims most) (taskB e os ims most) := by
  unfold impl_isSearch.f taskB
  refine Ev.bind (isExpr_ev e) ?_
  cases h1 : okExpr e with
  | false => exact Ev.ifn (by decide) (Ev.now _)
  | true =>
    refine Ev.ifp rfl (Ev.bind (isChoice_ev os ims ho hi) ?_)
    cases h2 : okChoice os ims with
    | false => exact Ev.ifn (by decide) (Ev.now _)
    | true => exact Ev.ifp rfl (Ev.call (within_dec _ _ _) (Ev.now _))
theorem suTask_ev (e : List Node) (os : List ByteArray) (ims : List Int) (most : Int) (ho : os.length ≤ 1048576) (hi : ims.length ≤ 1048576) : Ev (fun k => spec_suTask.f k e os ims most) (taskB e os ims most) := by
  unfold spec_suTask.f taskB
  refine Ev.bind (exGood_ev e) ?_
  cases h1 : okExpr e with
  | false => exact Ev.ifn (by decide) (Ev.now _)
  | true =>
    refine Ev.ifp rfl (Ev.bind (suGood_ev os ims ho hi) ?_)
    cases h2 : okChoice os ims with
    | false => exact Ev.ifn (by decide) (Ev.now _)
    | true => exact Ev.ifp rfl (Ev.call (l1In_dec _ _ _) (Ev.now _))
theorem taskB_of {e : List Node} {os : List ByteArray} {ims : List Int} {most : Int} (h : taskB e os ims most = true) : okExpr e = true ∧ okChoice os ims = true ∧ 0 ≤ most ∧ most ≤ 3 := by
  unfold taskB at h
  simp only [Bool.and_eq_true, decide_eq_true_eq] at h
  exact ⟨h.1, h.2.1, h.2.2.1, h.2.2.2⟩
theorem suFirst_ev (e : List Node) (ok : okNs 0 e = true) (h0 : 0 < e.length) (hl : e.length ≤ 24) (os : List ByteArray) (ims : List Int) (ho : okChoice os ims = true) (N : Nat) (hN : N ≤ 3) : Ev (fun k => spec_suFirst.f k e os ims (N : Int)) (firstM os ims (reachB e) (N + 1) 0) := by
  unfold spec_suFirst.f
  have key : ∀ (m i : Nat), i + m = N + 1 → Ev (fun k => spec_suFirst.l0 k e (N : Int) (i : Int) os ims) (firstM os ims (reachB e) m i) := by
    intro m
    induction m with
    | zero =>
      intro i hi
      refine Ev.step (fun k => by simp only [spec_suFirst.l0]; rfl) ?_
      exact Ev.ifn (by omega) (Ev.now _)
    | succ m ih =>
      intro i hi
      refine Ev.step (fun k => by simp only [spec_suFirst.l0]; rfl) ?_
      have ha := suAll_ev e ok h0 hl os ims ho i 1 (by omega) (by omega)
      rw [take1_find] at ha
      refine Ev.ifp (by omega) (Ev.bind ha ?_)
      simp only [firstM]
      cases hf : (compM os ims i []).find? (reachB e) with
      | none =>
        refine Ev.ifn (by simp) ?_
        rw [w64n i (by omega)]
        exact ih (i + 1) (by omega)
      | some l => exact Ev.ifp (by simp) (Ev.ifp (by simp) (Ev.now _))
  exact key (N + 1) 0 (by omega)
def shortR (e : List Node) (os : List ByteArray) (ims : List Int) (most : Int) : List Instr × Bool := if taskB e os ims most = true then firstM os ims (reachB e) (most.toNat + 1) 0 else ([], false)
theorem implShort_ev (e : List Node) (os : List ByteArray) (ims : List Int) (most : Int) (ho : os.length ≤ 1048576) (hi : ims.length ≤ 1048576) : Ev (fun k => impl_ShortestFor.f k e os ims most) (shortR e os ims most) := by
  unfold impl_ShortestFor.f shF shortR
  refine Ev.bind (isSearch_ev e os ims most ho hi) ?_
  by_cases h : taskB e os ims most = true
  · obtain ⟨h1, h2, h3, h4⟩ := taskB_of h
    obtain ⟨⟨e1, e2⟩, e3⟩ := okExpr_of h1
    have hs := shL_ev e os ims h2 (fun _ _ _ => some true) (fun _ => true) (fun l _ => Ev.now _) (most.toNat + 1) 0 (by omega)
    simp only [Bool.and_true] at hs
    refine Ev.ifp h (Ev.ifp ⟨h3, by omega⟩ (Ev.bind (tableOf_ev e e3 (by omega) (by omega)) (Ev.bind (goal_ev e e3 (by omega) (by omega)) ?_)))
    rw [if_pos h, show (most + 1).toNat = most.toNat + 1 by omega]
    exact hs
  · rw [if_neg h]
    exact Ev.ifn h (Ev.now _)
end Go.Proofs.Ytnaafcleafbejaa.PL
end
section
namespace Go.Proofs.Ytnaafcleafbejaa.PL
open Go Go.RowKit Go.Proofs.YtnaafcleafbejaaW.PrintWords Go.Proofs.YtnaafcleafbejaaW.PrintLast Go.Proofs.YtnaafcleafbejaaW.PrintMore Go.Proofs.Ytnaafcleafbejaa.Q
set_option linter.unusedSimpArgs false
set_option linter.unusedVariables false
def fewR (e : List Node) (os : List ByteArray) (ims : List Int) (most : Int) : Int × Bool := (((shortR e os ims most).1.length : Int), (shortR e os ims most).2)
theorem implFew_ev (e : List Node) (os : List ByteArray) (ims : List Int) (most : Int) (ho : os.length ≤ 1048576) (hi : ims.length ≤ 1048576) : Ev (fun k => impl_FewestSteps.f k e os ims most) (fewR e os ims most) := by
  unfold impl_FewestSteps.f fewR
  exact Ev.bind (implShort_ev e os ims most ho hi) (Ev.now _)
theorem specFew_ev (e : List Node) (os : List ByteArray) (ims : List Int) (most : Int) (ho : os.length ≤ 1048576) (hi : ims.length ≤ 1048576) : Ev (fun k => spec_FewestSteps.f k e os ims most) (fewR e os ims most) := by
  unfold spec_FewestSteps.f fewR shortR
  refine Ev.bind (suTask_ev e os ims most ho hi) ?_
  by_cases h : taskB e os ims most = true
  · obtain ⟨h1, h2, h3, h4⟩ := taskB_of h
    obtain ⟨⟨e1, e2⟩, e3⟩ := okExpr_of h1
    have hs := suFirst_ev e e3 (by omega) e2 os ims h2 most.toNat (by omega)
    rw [Int.toNat_of_nonneg h3] at hs
    refine Ev.ifp h (Ev.bind hs (Ev.some ?_))
    rw [if_pos h]
  · refine Ev.ifn h (Ev.some ?_)
    rw [if_neg h]
    rfl
end Go.Proofs.Ytnaafcleafbejaa.PL
namespace Go.Proofs.Ytnaafcleafbejaa.Pure
open Go Go.RowKit Go.Proofs.YtnaafcleafbejaaW.PrintWords Go.Proofs.YtnaafcleafbejaaW.PrintLast Go.Proofs.YtnaafcleafbejaaW.PrintMore Go.Proofs.Ytnaafcleafbejaa.Q Go.Proofs.Ytnaafcleafbejaa.PL
set_option linter.unusedSimpArgs false
set_option linter.unusedVariables false
theorem FnExactFewestSteps : laws_FnExactFewestSteps.Pure := by
  rintro e ⟨os, ims⟩ n h0 h1 h2
  show ∃ k, laws_FnExactFewestSteps.f k e os ims n = some true
  refine Ev.rounds (g := fun k => laws_FnExactFewestSteps.f k e os ims n) ?_
  unfold laws_FnExactFewestSteps.f
  obtain ⟨r, hr, hr'⟩ := szNodeS_ev e 1048576 h0 (by decide) (by decide)
  refine Ev.bind hr ?_
  by_cases hn : r < 0
  · exact Ev.ifp hn (Ev.now _)
  have be : e.length ≤ 1048576 := by have := (hr' (by omega)).1; omega
  have br := (hr' (by omega)).2.2
  refine Ev.ifn hn ?_
  obtain ⟨r1, hr1, hr1'⟩ := szChoice_ev os ims r h1.1 h1.2.1 (by omega) (by omega)
  refine Ev.bind hr1 ?_
  by_cases hn1 : r1 < 0
  · exact Ev.ifp hn1 (Ev.now _)
  obtain ⟨q1, q2, q3⟩ := hr1' (by omega)
  have b0 : os.length ≤ 1048576 := by omega
  have b1 : ims.length ≤ 1048576 := by omega
  have tn := toNodeS_ev e be
  have tc := toChoice_ev os ims b0 b1
  have bme : (e.map cvN).length ≤ 1048576 := by simpa using be
  have sp := specFew_ev (e.map cvN) os ims n b0 b1
  have im := implFew_ev (e.map cvN) os ims n b0 b1
  obtain ⟨x, y, exy⟩ : ∃ x y, fewR (e.map cvN) os ims n = (x, y) := ⟨_, _, rfl⟩
  rw [exy] at sp im
  refine Ev.ifn hn1 (Ev.bind tn (Ev.bind tc (Ev.bind sp (Ev.bind tn (Ev.bind tc (Ev.bind im ?_))))))
  refine Ev.ifp rfl ?_
  rw [show ((x, y).2 != (x, y).2) = false by simp]
  refine Ev.step (fun k => by simp only [laws_FnExactFewestSteps.j0]; rfl) (Ev.ifn (by decide) ?_)
  exact Ev.bind tn (Ev.bind (eqNodeS_refl _ bme) (Ev.ifp rfl (Ev.bind tc (Ev.bind (eqChoice_refl os ims b0 b1) (Ev.ifp rfl (Ev.now _))))))
end Go.Proofs.Ytnaafcleafbejaa.Pure
end
