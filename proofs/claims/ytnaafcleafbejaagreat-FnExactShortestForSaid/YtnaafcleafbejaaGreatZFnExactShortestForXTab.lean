/- Proved here: printed words of the kit (Tab), cut down to what the law FnExactShortestFor leans on. Conditions: as each states. -/
import Derived.Test.YtnaafcleafbejaaGreatZFnExactShortestForXLast
import Derived.Test.YtnaafcleafbejaaGreatZFnExactShortestForXWords
namespace Go.Proofs.YtnaafcleafbejaaGreatW.PrintLast
open Go.Proofs.YtnaafcleafbejaaGreatW.PrintWords (Aside0)
def zr4 (md : Region.Mode) (o : Oper) : List Nat := (o.after.toList.filter (fun e => Region.binds md e)).map (fun e => e.on)
def zw8 (md : Region.Mode) (ops : Array Oper) (i : Nat) (oi : Oper) : List Nat := (List.range ops.size).filter fun j => !(j == i) && match ops[j]? with
  | some oj => !(oj.after.any (fun e => Region.binds md e && e.on == i) || oi.apart ops oj)
  | none => false
def rtab (md : Region.Mode) (ops : Array Oper) : Bool × List (List Nat × List Nat) := (Region.noSelect ops, (List.range ops.size).map fun i => match ops[i]? with
  | some o => (zr4 md o, zw8 md ops i o)
  | none => ([], []))
def zoz (T : List (List Nat × List Nat)) (l : List Bool) (i : Nat) : Bool := !l.getD i true && match T[i]? with
  | some r => r.1.all (fun j => l.getD j false)
  | none => false
def zut (T : List (List Nat × List Nat)) (l : List Bool) : List Nat := (List.range T.length).filter (zoz T l)
def yaf (T : List (List Nat × List Nat)) (l : List Bool) (i : Nat) : Bool := match T[i]? with
  | some r => r.2.all (fun j => l.getD j true)
  | none => false
def zvm (T : List (List Nat × List Nat)) (l : List Bool) : Bool := (List.range T.length).all fun j => !l.getD j false || match T[j]? with
  | some r => r.1.all (fun k => l.getD k false)
  | none => true
def zuu (T : List (List Nat × List Nat)) (i : Nat) : Nat → Nat → Bool
  | 0, _ => false
  | fuel + 1, d => match T[d]? with
    | some r => r.1.any fun j => j == i || zuu T i fuel j
    | none => false
def ybn (T : List (List Nat × List Nat)) (l : List Bool) (ds : List Nat) (i : Nat) : Bool := ds.all fun d => l.getD d true || zuu T i T.length d
section
variable {md : Region.Mode} {ops : Array Oper} {T : Bool × List (List Nat × List Nat)} {l l' li lj lk : Array Bool} {ds : List Nat} {i j k : Nat}
theorem gd (l : Array Bool) (j : Nat) (b : Bool) : l.getD j b = l.toList.getD j b := by simp [Array.getD_eq_getD_getElem?, List.getD_eq_getElem?_getD]
theorem zwc (o : Oper) (p : Nat → Bool) : o.after.all (fun e => !Region.binds md e || p e.on) = (zr4 md o).all p := by
  unfold zr4
  rw [← Array.all_toList]
  induction o.after.toList with
  | nil => rfl
  | cons e r ih =>
    rw [List.all_cons, ih, List.filter_cons]
    cases h : Region.binds md e <;> simp
theorem yag (o : Oper) (p : Nat → Bool) : o.after.any (fun e => Region.binds md e && p e.on) = (zr4 md o).any p := by
  unfold zr4
  rw [← Array.any_toList]
  induction o.after.toList with
  | nil => rfl
  | cons e r ih =>
    rw [List.any_cons, ih, List.filter_cons]
    cases h : Region.binds md e <;> simp
theorem zn7 : (rtab md ops).2.length = ops.size := by simp [rtab]
theorem zqv {o : Oper} (h : ops[i]? = some o) : (rtab md ops).2[i]? = some (zr4 md o, zw8 md ops i o) := by
  have hi := (Array.getElem?_eq_some_iff.1 h).1
  unfold rtab
  rw [List.getElem?_map, List.getElem?_range hi, Option.map_some, h]
theorem zqw (h : ops[i]? = none) : (rtab md ops).2[i]? = none := by
  have hi : ops.size ≤ i := Array.getElem?_eq_none_iff.1 h
  exact List.getElem?_eq_none (by rw [zn7]; exact hi)
theorem zyt : zoz (rtab md ops).2 l.toList i = (!l.getD i true && ((ops[i]?).map (·.after.all fun e => !Region.binds md e || l.getD e.on false)).getD false) := by
  unfold zoz
  rw [gd]
  cases h : ops[i]? with
  | none => rw [zqw h]; rfl
  | some o =>
    rw [zqv h]
    simp only [Option.map_some, Option.getD_some]
    rw [← zwc]
    simp only [gd]
theorem zsy : Region.ready md ops l = zut (rtab md ops).2 l.toList := by
  unfold Region.ready zut
  rw [zn7]
  refine List.filter_congr (fun i _ => ?_)
  rw [zyt]
theorem yah : Region.free md ops l i = yaf (rtab md ops).2 l.toList i := by
  unfold Region.free yaf
  cases h : ops[i]? with
  | none => rw [zqw h]
  | some oi =>
    rw [zqv h]
    simp only [zw8]
    rw [List.all_filter]
    congr 1
    funext j
    rw [gd]
    cases hj : ops[j]? with
    | none => cases (j == i) <;> cases (l.toList.getD j true) <;> simp
    | some oj =>
      cases (j == i) <;> cases (l.toList.getD j true) <;> cases (oj.after.any (fun e => Region.binds md e && e.on == i) || oi.apart ops oj) <;> simp_all
theorem yai : zi4 md ops l = zvm (rtab md ops).2 l.toList := by
  unfold zi4 zvm
  rw [zn7]
  congr 1
  funext j
  rw [gd]
  cases h : ops[j]? with
  | none => rw [zqw h]
  | some o =>
    rw [zqv h]
    simp only
    rw [← zwc]
    simp only [gd]
theorem zyc : ∀ (fuel d : Nat), zdm md ops i fuel d = zuu (rtab md ops).2 i fuel d
  | 0, _ => rfl
  | fuel + 1, d => by
    unfold zdm zuu
    cases h : ops[d]? with
    | none => rw [zqw h]
    | some o =>
      rw [zqv h]
      simp only
      rw [← yag]
      congr 1
      funext e
      rw [zyc fuel]
theorem ydo : zm0 md ops l ds i = ybn (rtab md ops).2 l.toList ds i := by
  unfold zm0 ybn
  rw [zn7]
  congr 1
  funext d
  rw [gd, zyc]
theorem zti (h : zoz T.2 l.toList i = true) (hT : rtab md ops = T) : (Region.ready md ops l).contains i = true := by
  subst hT
  rw [zsy]
  unfold zut
  rw [List.contains_iff_mem, List.mem_filter, List.mem_range]
  refine ⟨?_, h⟩
  unfold zoz at h
  rw [Bool.and_eq_true] at h
  cases hq : (rtab md ops).2[i]? with
  | none => rw [hq] at h; simp at h
  | some r => exact (List.getElem?_eq_some_iff.1 hq).1
theorem zwd (h : (l.toList.set i true == l'.toList) = true) : (l.setIfInBounds i true == l') = true := by
  rw [beq_iff_eq] at h ⊢
  apply Array.ext'
  rw [Array.toList_setIfInBounds]
  exact h
def anyT (T : Bool × List (List Nat × List Nat)) (l l' : List Bool) (i : Nat) : Bool := T.1 && yaf T.2 l i && zoz T.2 l i && (l.set i true == l')
theorem yb8 (hT : rtab md ops = T) (h : anyT T l.toList l'.toList i = true) : anyB md ops l l' i = true := by
  simp only [anyT, Bool.and_eq_true] at h
  obtain ⟨⟨⟨h1, h2⟩, h3⟩, h4⟩ := h
  have h5 := zti h3 hT
  have h6 := zwd h4
  subst hT
  simp only [anyB, Bool.and_eq_true]
  exact ⟨⟨⟨h1, by rw [yah]; exact h2⟩, h5⟩, h6⟩
def ydp (T : Bool × List (List Nat × List Nat)) (ds : List Nat) (l l' : List Bool) (i : Nat) : Bool := T.1 && yaf T.2 l i && zoz T.2 l i && zvm T.2 l && ybn T.2 l ds i && (l.set i true == l')
theorem ydq (hT : rtab md ops = T) (h : ydp T ds l.toList l'.toList i = true) : zyq md ops ds l l' i = true := by
  simp only [ydp, Bool.and_eq_true] at h
  obtain ⟨⟨⟨⟨⟨h1, h2⟩, h3⟩, h4⟩, h5⟩, h6⟩ := h
  have h7 := zti h3 hT
  have h8 := zwd h6
  subst hT
  simp only [zyq, Bool.and_eq_true]
  exact ⟨⟨⟨⟨⟨h1, by rw [yah]; exact h2⟩, h7⟩, by rw [yai]; exact h4⟩, by rw [ydo]; exact h5⟩, h8⟩
theorem zfx (hT : rtab md ops = T) (h : (zut T.2 l.toList == [i] && l.toList.set i true == l'.toList) = true) : zup md ops l l' i = true := by
  simp only [Bool.and_eq_true] at h
  obtain ⟨h1, h2⟩ := h
  subst hT
  simp only [zup, Bool.and_eq_true]
  exact ⟨by rw [zsy]; exact h1, zwd h2⟩
theorem ye3 (hT : rtab md ops = T) (h : (zut T.2 l.toList == [i, j] && l.toList.set i true == li.toList && l.toList.set j true == lj.toList) = true) : (Region.ready md ops l == [i, j] && l.setIfInBounds i true == li && l.setIfInBounds j true == lj) = true := by
  simp only [Bool.and_eq_true] at h ⊢
  obtain ⟨⟨h1, h2⟩, h3⟩ := h
  subst hT
  exact ⟨⟨by rw [zsy]; exact h1, zwd h2⟩, zwd h3⟩
theorem zji (hT : rtab md ops = T) (h : (zut T.2 l.toList == []) = true) : (Region.ready md ops l == []) = true := by
  subst hT
  rw [zsy]
  exact h
def upM (B : List Nat) (d : Nat) : List Nat → Nat
  | [] => 0
  | n :: r => (2 ^ n ||| (if n < d then B.getD n 0 else 0)) ||| upM B d r
def zh6 (T : List (List Nat × List Nat)) (B : List Nat) : Bool := (List.range T.length).all fun d => match T[d]? with
  | some r => (B.getD d 0 ||| upM B d r.1) == upM B d r.1
  | none => false
theorem yaj {B : List Nat} {d i : Nat} : ∀ {ns : List Nat}, (upM B d ns).testBit i = true → ∃ n ∈ ns, n = i ∨ (n < d ∧ (B.getD n 0).testBit i = true)
  | [], h => by simp [upM] at h
  | n :: r, h => by
    unfold upM at h
    rw [Nat.testBit_or, Nat.testBit_or, Bool.or_eq_true, Bool.or_eq_true] at h
    rcases h with (h | h) | h
    · rw [Nat.testBit_two_pow] at h
      exact ⟨n, List.mem_cons_self, .inl (by simpa using h)⟩
    · by_cases hn : n < d
      · rw [if_pos hn] at h
        exact ⟨n, List.mem_cons_self, .inr ⟨hn, h⟩⟩
      · rw [if_neg hn] at h
        simp at h
    · obtain ⟨m, hm, h2⟩ := yaj h
      exact ⟨m, List.mem_cons_of_mem _ hm, h2⟩
theorem zwe {T : List (List Nat × List Nat)} {B : List Nat} (hB : zh6 T B = true) : ∀ (fuel d : Nat), d < fuel → d < T.length → (B.getD d 0).testBit i = true → zuu T i fuel d = true
  | 0, d, h, _, _ => by omega
  | fuel + 1, d, h, hd, hb => by
    have h1 := List.all_eq_true.1 hB d (List.mem_range.2 hd)
    cases hr : T[d]? with
    | none => rw [hr] at h1; simp at h1
    | some r =>
      rw [hr] at h1
      simp only [beq_iff_eq] at h1
      have h2 : (upM B d r.1).testBit i = true := by rw [← h1, Nat.testBit_or, hb, Bool.true_or]
      obtain ⟨n, hn, h3⟩ := yaj h2
      unfold zuu
      rw [hr]
      simp only
      rw [List.any_eq_true]
      refine ⟨n, hn, ?_⟩
      rcases h3 with rfl | ⟨h4, h5⟩
      · simp
      · rw [zwe hB fuel n (by omega) (by omega) h5, Bool.or_true]
def ye4 (T : List (List Nat × List Nat)) (B : List Nat) (l : List Bool) (ds : List Nat) (i : Nat) : Bool := ds.all fun d => l.getD d true || (decide (d < T.length) && (B.getD d 0).testBit i)
def ydr (T : Bool × List (List Nat × List Nat)) (B : List Nat) (ds : List Nat) (l l' : List Bool) (i : Nat) : Bool := T.1 && yaf T.2 l i && zoz T.2 l i && zvm T.2 l && ye4 T.2 B l ds i && (l.set i true == l')
theorem zvn {B : List Nat} (hT : rtab md ops = T) (hB : zh6 T.2 B = true) (h : ydr T B ds l.toList l'.toList i = true) : zyq md ops ds l l' i = true := by
  refine ydq hT ?_
  simp only [ydr, ydp, Bool.and_eq_true] at h ⊢
  obtain ⟨⟨⟨⟨⟨h1, h2⟩, h3⟩, h4⟩, h5⟩, h6⟩ := h
  refine ⟨⟨⟨⟨⟨h1, h2⟩, h3⟩, h4⟩, ?_⟩, h6⟩
  unfold ye4 at h5
  unfold ybn
  rw [List.all_eq_true] at h5 ⊢
  intro d hd
  have h7 := h5 d hd
  rw [Bool.or_eq_true, Bool.and_eq_true, decide_eq_true_eq] at h7
  rcases h7 with h7 | ⟨h8, h9⟩
  · rw [h7, Bool.true_or]
  · rw [zwe hB _ d h8 h8 h9, Bool.or_true]
theorem zgl {P : Program} {Q : Exit → Act → World → Prop} {S : World → Prop} {n : Nat} {a : Act} {w : World} {B : List Nat} (hT : rtab md ops = T) (hB : zh6 T.2 B = true) (h : Aside0 (rtab md ops = T) → Aside0 (zh6 T.2 B = true) → za7 P md ops Q S ds n l a w) : za7 P md ops Q S ds n l a w := h ⟨hT⟩ ⟨hB⟩
end
def zt6 : Code → Nat → Option (Array Oper)
  | .region id ops _, k => if id == k then some ops else none
  | .seq a b, k => match zt6 a k with
    | some o => some o
    | none => zt6 b k
  | .cond _ a b, k => match zt6 a k with
    | some o => some o
    | none => zt6 b k
  | .block _ c, k => zt6 c k
  | .loop c, k => zt6 c k
  | .scope c, k => zt6 c k
  | .rangeFunc _ _ a b, k => match zt6 a k with
    | some o => some o
    | none => zt6 b k
  | _, _ => none
def zr5 (f : Func) (k : Nat) : Array Oper := ((f.body.bind fun c => zt6 c k)).getD #[]
end Go.Proofs.YtnaafcleafbejaaGreatW.PrintLast

