/- Proved here: contracts of functions that the law FnExactPrunedFor reaches, and lemmas on what they compute; texts of this session and the printed words of the kit that they lean on, cut down and put together by its program link.py. Conditions: as each states. -/
import Derived.Test.YtnaafcleafbejaaGreatZFnExactPrunedFor1
import Derived.Test.YtnaafcleafbejaaGreatZFnExactPrunedFor2
import Derived.Test.YtnaafcleafbejaaGreatZFnExactPrunedFor3
import Derived.Test.YtnaafcleafbejaaGreatZFnExactPrunedFor4
import Derived.Test.YtnaafcleafbejaaGreatZFnExactPrunedFor5
section
namespace Go.Proofs.YtnaafcleafbejaaGreat.PL
open Go Go.RowKit Go.Proofs.YtnaafcleafbejaaGreatW.PrintWords Go.Proofs.YtnaafcleafbejaaGreatW.PrintLast Go.Proofs.YtnaafcleafbejaaGreatW.PrintMore Go.Proofs.YtnaafcleafbejaaGreat.Q
set_option linter.unusedSimpArgs false
set_option linter.unusedVariables false
noncomputable def zw8 : Nat → Nat → List Node
  | 0, _ => []
  | n + 1, a => ⟨mtx a, (a + 1 : Nat), (a + 2 : Nat), (a + 3 : Nat)⟩ :: zw8 n (a + 4)
theorem yeb (xs : List Node) (y : Node) (ys : List Node) : zab (xs ++ y :: ys) (xs.length : Nat) = y := by
  unfold zab
  rw [Int.toNat_natCast, zyt]
theorem yck (l : List Node) (a : Nat) (hl : l.length ≤ 1048576) (ha : a ≤ 11534336) : Ev (fun k => zfm k l a) (((a + 4 * l.length : Nat) : Int), zw8 l.length a) := by
  have key : ∀ (ys xs : List Node) (b : Nat), xs.length + ys.length ≤ 1048576 → b ≤ 16777216 - 4 * ys.length → Ev (fun k => zco k (xs ++ ys) b xs.length) (((b + 4 * ys.length : Nat) : Int), xs ++ zw8 ys.length b) := by
    intro ys
    induction ys with
    | nil =>
      intro xs b h h'
      refine Ev.step (f := fun _ => some (((b : Int), xs ++ []))) (fun k => ?_) (Ev.some ?_)
      · simp only [zco]
        rw [if_neg (by simp)]
      · simp [zw8]
    | cons y ys ih =>
      intro xs b h h'
      simp only [List.length_cons] at h h'
      have := ih (xs ++ [⟨mtx b, (b + 1 : Nat), (b + 2 : Nat), (b + 3 : Nat)⟩]) (b + 4) (by simp; omega) (by omega)
      rw [List.append_assoc] at this
      refine Ev.step (fun k => by simp only [zco]; rfl) ?_
      refine zad (by simp; omega) ?_
      refine Ev.bind (zys b (by omega)) ?_
      refine zad (by omega) ?_
      refine zr2 (fun k => ?_) (zjh this ?_)
      · simp only [Option.bind_some, Int.toNat_natCast, zxw, yeb, List.append_assoc, List.singleton_append]
        rw [w64n b (by omega), w64n (b + 1) (by omega), w64n (b + 2) (by omega), w64n (b + 3) (by omega), w64n _ (by omega)]
        congr 1
        simp
      · simp only [List.length_cons, zw8, Prod.mk.injEq]
        exact ⟨by omega, by simp⟩
  have := key l [] a (by simpa using hl) (by omega)
  unfold zfm
  simpa using this
theorem zu0 (l : List ByteArray) (a : Nat) (hl : l.length ≤ 1048576) (ha : a ≤ 8388608) : ∃ l', Ev (fun k => zfg k l a) (((a + l.length : Nat) : Int), l') := by
  have key : ∀ (d i : Nat) (x : List ByteArray) (b : Nat), x.length ≤ 1048576 → i + d = x.length → b + d ≤ 16777216 → ∃ l', Ev (fun k => zb3 k x (b : Int) i) (((b + d : Nat) : Int), l') := by
    intro d
    induction d with
    | zero =>
      intro i x b hxl hi hb
      refine ⟨x, Ev.step (f := fun _ => some ((b : Int), x)) (fun k => ?_) (Ev.now _)⟩
      simp only [zb3]
      rw [if_neg (by omega)]
    | succ d ih =>
      intro i x b hxl hi hb
      obtain ⟨l', h⟩ := ih (i + 1) (x.set i (mtx b)) (b + 1) (by rw [List.length_set]; exact hxl) (by rw [List.length_set]; omega) (by omega)
      refine ⟨l', ?_⟩
      refine Ev.step (fun k => by simp only [zb3, Int.toNat_natCast]; rfl) ?_
      refine zad (by omega) ?_
      refine Ev.bind (zys b (by omega)) ?_
      refine zad (by omega) ?_
      rw [w64n b (by omega), w64n i (by omega), show b + (d + 1) = b + 1 + d by omega]
      exact h
  obtain ⟨l', h⟩ := key l.length 0 l a hl (by omega) (by omega)
  exact ⟨l', h⟩
theorem zwg (l : List ByteArray) (m : List Int) (a : Nat) (hl : l.length ≤ 1048576) (hm : m.length ≤ 1048576) (ha : a ≤ 8388608) : ∃ r, Ev (fun k => zfa k l m a) r ∧ 0 ≤ r.1 := by
  obtain ⟨l', h⟩ := zu0 l a hl ha
  refine ⟨(((a + l.length : Nat) : Int) + m.length, l', zkv m.length (a + l.length)), ?_, by show 0 ≤ ((a + l.length : Nat) : Int) + m.length; omega⟩
  unfold zfa
  exact Ev.bind h (Ev.bind (zxx m (a + l.length) hm (by omega)) (Ev.now _))
end Go.Proofs.YtnaafcleafbejaaGreat.PL
end
section
namespace Go.Proofs.YtnaafcleafbejaaGreat.PL
open Go Go.RowKit Go.Proofs.YtnaafcleafbejaaGreatW.PrintWords Go.Proofs.YtnaafcleafbejaaGreatW.PrintLast Go.Proofs.YtnaafcleafbejaaGreatW.PrintMore Go.Proofs.YtnaafcleafbejaaGreat.Q
set_option linter.unusedSimpArgs false
set_option linter.unusedVariables false
theorem zw9 (l : List Instr) (hl : l.length ≤ 1048576) : Ev (fun k => zbp k (zpc l.length 1) (((1 : Nat) : Int) + 5 * l.length) false) true := by
  refine Ev.step (fun k => by simp only [zbp]; rfl) (zal (by decide) ?_)
  refine Ev.bind (zrp l.length 1 hl (by decide)) ?_
  refine zal (by omega) ?_
  exact zad rfl (Ev.now _)
theorem zxa (e : List yal) (be : e.length ≤ 1048576) (os : List ByteArray) (ims : List Int) (n : Int) (b0 : os.length ≤ 1048576) (b1 : ims.length ≤ 1048576) (l : List Instr) (b : Bool) (hl : l.length ≤ 1048576) (q : zwf (e.map cvN) os ims n = (l, b)) : Ev (fun k => zbo k e n l b l false os ims) true := by
  refine Ev.step (fun k => by simp only [zbo]; rfl) (zal (by decide) ?_)
  refine Ev.bind (zvv l 1 hl (by decide)) ?_
  refine Ev.bind (zrp l.length 1 hl (by decide)) ?_
  refine zal (by omega) ?_
  refine zad rfl ?_
  refine Ev.bind (zsu e be) ?_
  refine Ev.bind (zqo os ims b0 b1) ?_
  refine Ev.bind (zug (e.map cvN) os ims n b0 b1) ?_
  rw [q]
  refine Ev.bind (zo2 l hl) ?_
  refine zad rfl ?_
  rw [show (b != b) = false by simp]
  exact zw9 l hl
theorem zxb (e : List yal) (be : e.length ≤ 1048576) (os : List ByteArray) (ims : List Int) (n : Int) (b0 : os.length ≤ 1048576) (b1 : ims.length ≤ 1048576) (l : List Instr) (b : Bool) (hl : l.length ≤ 1048576) (q : zwf (e.map cvN) os ims n = (l, b)) : Ev (fun k => zbm k e n l b (e.map cvN) l b false os ims os ims) true := by
  have bme : (e.map cvN).length ≤ 1048576 := by simpa using be
  refine Ev.step (fun k => by simp only [zbm]; rfl) (zal (by decide) ?_)
  refine Ev.bind (zsu e be) ?_
  refine Ev.bind (zwu _ bme) ?_
  refine zad rfl ?_
  refine Ev.bind (zqo os ims b0 b1) ?_
  refine Ev.bind (zvu os ims b0 b1) ?_
  refine zad rfl ?_
  refine Ev.bind (yck _ 1 bme (by decide)) ?_
  obtain ⟨r, hr, hr0⟩ := zwg os ims (1 + 4 * (e.map cvN).length) b0 b1 (by omega)
  refine Ev.bind hr ?_
  refine zal (by omega) ?_
  refine Ev.bind (zo2 l hl) ?_
  refine zad rfl ?_
  rw [show (b != b) = false by simp]
  exact zxa e be os ims n b0 b1 l b hl q
end Go.Proofs.YtnaafcleafbejaaGreat.PL
namespace Go.Proofs.YtnaafcleafbejaaGreat.Pure
open Go Go.RowKit Go.Proofs.YtnaafcleafbejaaGreatW.PrintWords Go.Proofs.YtnaafcleafbejaaGreatW.PrintLast Go.Proofs.YtnaafcleafbejaaGreatW.PrintMore Go.Proofs.YtnaafcleafbejaaGreat.Q Go.Proofs.YtnaafcleafbejaaGreat.PL
set_option linter.unusedSimpArgs false
set_option linter.unusedVariables false
theorem FnExactPrunedFor : laws_FnExactPrunedFor.Pure := by
  rintro e ⟨os, ims⟩ n h0 h1 h2
  show ∃ k, zb5 k e os ims n = some true
  refine ybs (g := fun k => zb5 k e os ims n) ?_
  unfold zb5
  obtain ⟨r, hr, hr'⟩ := zzm e 1048576 h0 (by decide) (by decide)
  refine Ev.bind hr ?_
  by_cases hn : r < 0
  · exact zad hn (Ev.now _)
  have be : e.length ≤ 1048576 := by have := (hr' (by omega)).1; omega
  have br := (hr' (by omega)).2.2
  refine zal hn ?_
  obtain ⟨r1, hr1, hr1'⟩ := zxv os ims r h1.1 h1.2.1 (by omega) (by omega)
  refine Ev.bind hr1 ?_
  by_cases hn1 : r1 < 0
  · exact zad hn1 (Ev.now _)
  obtain ⟨q1, q2, q3⟩ := hr1' (by omega)
  have b0 : os.length ≤ 1048576 := by omega
  have b1 : ims.length ≤ 1048576 := by omega
  have tn := zsu e be
  have tc := zqo os ims b0 b1
  obtain ⟨l, b, q⟩ : ∃ l b, zwf (e.map cvN) os ims n = (l, b) := ⟨_, _, rfl⟩
  have hl : l.length ≤ 1048576 := by
    have := ybh (e.map cvN) os ims n
    rw [q] at this
    exact Nat.le_trans this (by decide)
  have sp := zyd (e.map cvN) os ims n b0 b1
  have im := zug (e.map cvN) os ims n b0 b1
  rw [q] at sp im
  refine zal hn1 (Ev.bind tn (Ev.bind tc (Ev.bind sp (Ev.bind tn (Ev.bind tc (Ev.bind im ?_))))))
  refine Ev.bind (zo2 l hl) ?_
  refine zad rfl ?_
  rw [show ((l, b).2 != (l, b).2) = false by simp]
  exact zxb e be os ims n b0 b1 l b hl q
end Go.Proofs.YtnaafcleafbejaaGreat.Pure
end
