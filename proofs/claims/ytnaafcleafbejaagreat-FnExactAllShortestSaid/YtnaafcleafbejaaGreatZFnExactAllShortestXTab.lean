/- Proved here: printed words of the kit (Tab), cut down to what the law FnExactAllShortest leans on. Conditions: as each states. -/
import Derived.Test.YtnaafcleafbejaaGreatZFnExactAllShortestXLast
import Derived.Test.YtnaafcleafbejaaGreatZFnExactAllShortestXWords
namespace Go.Proofs.YtnaafcleafbejaaGreatW.PrintLast
open Go.Proofs.YtnaafcleafbejaaGreatW.PrintWords (Aside0)
def zsc (md : Region.Mode) (o : Oper) : List Nat := (o.after.toList.filter (fun e => Region.binds md e)).map (fun e => e.on)
def zxr (md : Region.Mode) (ops : Array Oper) (i : Nat) (oi : Oper) : List Nat := (List.range ops.size).filter fun j => !(j == i) && match ops[j]? with
  | some oj => !(oj.after.any (fun e => Region.binds md e && e.on == i) || oi.apart ops oj)
  | none => false
def rtab (md : Region.Mode) (ops : Array Oper) : Bool × List (List Nat × List Nat) := (Region.noSelect ops, (List.range ops.size).map fun i => match ops[i]? with
  | some o => (zsc md o, zxr md ops i o)
  | none => ([], []))
def zpa (T : List (List Nat × List Nat)) (l : List Bool) (i : Nat) : Bool := !l.getD i true && match T[i]? with
  | some r => r.1.all (fun j => l.getD j false)
  | none => false
def zu0 (T : List (List Nat × List Nat)) (l : List Bool) : List Nat := (List.range T.length).filter (zpa T l)
def ybe (T : List (List Nat × List Nat)) (l : List Bool) (i : Nat) : Bool := match T[i]? with
  | some r => r.2.all (fun j => l.getD j true)
  | none => false
def zvw (T : List (List Nat × List Nat)) (l : List Bool) : Bool := (List.range T.length).all fun j => !l.getD j false || match T[j]? with
  | some r => r.1.all (fun k => l.getD k false)
  | none => true
def zu1 (T : List (List Nat × List Nat)) (i : Nat) : Nat → Nat → Bool
  | 0, _ => false
  | fuel + 1, d => match T[d]? with
    | some r => r.1.any fun j => j == i || zu1 T i fuel j
    | none => false
def ycl (T : List (List Nat × List Nat)) (l : List Bool) (ds : List Nat) (i : Nat) : Bool := ds.all fun d => l.getD d true || zu1 T i T.length d
section
variable {md : Region.Mode} {ops : Array Oper} {T : Bool × List (List Nat × List Nat)} {l l' li lj lk : Array Bool} {ds : List Nat} {i j k : Nat}
theorem gd (l : Array Bool) (j : Nat) (b : Bool) : l.getD j b = l.toList.getD j b := by simp [Array.getD_eq_getD_getElem?, List.getD_eq_getElem?_getD]
theorem zwr (o : Oper) (p : Nat → Bool) : o.after.all (fun e => !Region.binds md e || p e.on) = (zsc md o).all p := by
  unfold zsc
  rw [← Array.all_toList]
  induction o.after.toList with
  | nil => rfl
  | cons e r ih =>
    rw [List.all_cons, ih, List.filter_cons]
    cases h : Region.binds md e <;> simp
theorem ybf (o : Oper) (p : Nat → Bool) : o.after.any (fun e => Region.binds md e && p e.on) = (zsc md o).any p := by
  unfold zsc
  rw [← Array.any_toList]
  induction o.after.toList with
  | nil => rfl
  | cons e r ih =>
    rw [List.any_cons, ih, List.filter_cons]
    cases h : Region.binds md e <;> simp
theorem zof : (rtab md ops).2.length = ops.size := by simp [rtab]
theorem zrc {o : Oper} (h : ops[i]? = some o) : (rtab md ops).2[i]? = some (zsc md o, zxr md ops i o) := by
  have hi := (Array.getElem?_eq_some_iff.1 h).1
  unfold rtab
  rw [List.getElem?_map, List.getElem?_range hi, Option.map_some, h]
theorem zrd (h : ops[i]? = none) : (rtab md ops).2[i]? = none := by
  have hi : ops.size ≤ i := Array.getElem?_eq_none_iff.1 h
  exact List.getElem?_eq_none (by rw [zof]; exact hi)
theorem zzj : zpa (rtab md ops).2 l.toList i = (!l.getD i true && ((ops[i]?).map (·.after.all fun e => !Region.binds md e || l.getD e.on false)).getD false) := by
  unfold zpa
  rw [gd]
  cases h : ops[i]? with
  | none => rw [zrd h]; rfl
  | some o =>
    rw [zrc h]
    simp only [Option.map_some, Option.getD_some]
    rw [← zwr]
    simp only [gd]
theorem zs9 : Region.ready md ops l = zu0 (rtab md ops).2 l.toList := by
  unfold Region.ready zu0
  rw [zof]
  refine List.filter_congr (fun i _ => ?_)
  rw [zzj]
theorem ybg : Region.free md ops l i = ybe (rtab md ops).2 l.toList i := by
  unfold Region.free ybe
  cases h : ops[i]? with
  | none => rw [zrd h]
  | some oi =>
    rw [zrc h]
    simp only [zxr]
    rw [List.all_filter]
    congr 1
    funext j
    rw [gd]
    cases hj : ops[j]? with
    | none => cases (j == i) <;> cases (l.toList.getD j true) <;> simp
    | some oj =>
      cases (j == i) <;> cases (l.toList.getD j true) <;> cases (oj.after.any (fun e => Region.binds md e && e.on == i) || oi.apart ops oj) <;> simp_all
theorem ybh : zi8 md ops l = zvw (rtab md ops).2 l.toList := by
  unfold zi8 zvw
  rw [zof]
  congr 1
  funext j
  rw [gd]
  cases h : ops[j]? with
  | none => rw [zrd h]
  | some o =>
    rw [zrc h]
    simp only
    rw [← zwr]
    simp only [gd]
theorem zy0 : ∀ (fuel d : Nat), zck md ops i fuel d = zu1 (rtab md ops).2 i fuel d
  | 0, _ => rfl
  | fuel + 1, d => by
    unfold zck zu1
    cases h : ops[d]? with
    | none => rw [zrd h]
    | some o =>
      rw [zrc h]
      simp only
      rw [← ybf]
      congr 1
      funext e
      rw [zy0 fuel]
theorem yek : znd md ops l ds i = ycl (rtab md ops).2 l.toList ds i := by
  unfold znd ycl
  rw [zof]
  congr 1
  funext d
  rw [gd, zy0]
theorem ztv (h : zpa T.2 l.toList i = true) (hT : rtab md ops = T) : (Region.ready md ops l).contains i = true := by
  subst hT
  rw [zs9]
  unfold zu0
  rw [List.contains_iff_mem, List.mem_filter, List.mem_range]
  refine ⟨?_, h⟩
  unfold zpa at h
  rw [Bool.and_eq_true] at h
  cases hq : (rtab md ops).2[i]? with
  | none => rw [hq] at h; simp at h
  | some r => exact (List.getElem?_eq_some_iff.1 hq).1
theorem zws (h : (l.toList.set i true == l'.toList) = true) : (l.setIfInBounds i true == l') = true := by
  rw [beq_iff_eq] at h ⊢
  apply Array.ext'
  rw [Array.toList_setIfInBounds]
  exact h
def anyT (T : Bool × List (List Nat × List Nat)) (l l' : List Bool) (i : Nat) : Bool := T.1 && ybe T.2 l i && zpa T.2 l i && (l.set i true == l')
theorem yc7 (hT : rtab md ops = T) (h : anyT T l.toList l'.toList i = true) : anyB md ops l l' i = true := by
  simp only [anyT, Bool.and_eq_true] at h
  obtain ⟨⟨⟨h1, h2⟩, h3⟩, h4⟩ := h
  have h5 := ztv h3 hT
  have h6 := zws h4
  subst hT
  simp only [anyB, Bool.and_eq_true]
  exact ⟨⟨⟨h1, by rw [ybg]; exact h2⟩, h5⟩, h6⟩
def yel (T : Bool × List (List Nat × List Nat)) (ds : List Nat) (l l' : List Bool) (i : Nat) : Bool := T.1 && ybe T.2 l i && zpa T.2 l i && zvw T.2 l && ycl T.2 l ds i && (l.set i true == l')
theorem yem (hT : rtab md ops = T) (h : yel T ds l.toList l'.toList i = true) : ybb md ops ds l l' i = true := by
  simp only [yel, Bool.and_eq_true] at h
  obtain ⟨⟨⟨⟨⟨h1, h2⟩, h3⟩, h4⟩, h5⟩, h6⟩ := h
  have h7 := ztv h3 hT
  have h8 := zws h6
  subst hT
  simp only [ybb, Bool.and_eq_true]
  exact ⟨⟨⟨⟨⟨h1, by rw [ybg]; exact h2⟩, h7⟩, by rw [ybh]; exact h4⟩, by rw [yek]; exact h5⟩, h8⟩
theorem zhj (hT : rtab md ops = T) (h : (zu0 T.2 l.toList == [i] && l.toList.set i true == l'.toList) = true) : zuw md ops l l' i = true := by
  simp only [Bool.and_eq_true] at h
  obtain ⟨h1, h2⟩ := h
  subst hT
  simp only [zuw, Bool.and_eq_true]
  exact ⟨by rw [zs9]; exact h1, zws h2⟩
theorem yf1 (hT : rtab md ops = T) (h : (zu0 T.2 l.toList == [i, j] && l.toList.set i true == li.toList && l.toList.set j true == lj.toList) = true) : (Region.ready md ops l == [i, j] && l.setIfInBounds i true == li && l.setIfInBounds j true == lj) = true := by
  simp only [Bool.and_eq_true] at h ⊢
  obtain ⟨⟨h1, h2⟩, h3⟩ := h
  subst hT
  exact ⟨⟨by rw [zs9]; exact h1, zws h2⟩, zws h3⟩
theorem zj4 (hT : rtab md ops = T) (h : (zu0 T.2 l.toList == []) = true) : (Region.ready md ops l == []) = true := by
  subst hT
  rw [zs9]
  exact h
def upM (B : List Nat) (d : Nat) : List Nat → Nat
  | [] => 0
  | n :: r => (2 ^ n ||| (if n < d then B.getD n 0 else 0)) ||| upM B d r
def zis (T : List (List Nat × List Nat)) (B : List Nat) : Bool := (List.range T.length).all fun d => match T[d]? with
  | some r => (B.getD d 0 ||| upM B d r.1) == upM B d r.1
  | none => false
theorem ybi {B : List Nat} {d i : Nat} : ∀ {ns : List Nat}, (upM B d ns).testBit i = true → ∃ n ∈ ns, n = i ∨ (n < d ∧ (B.getD n 0).testBit i = true)
  | [], h => by simp [upM] at h
  | n :: r, h => by
    unfold upM at h
    rw [Nat.testBit_or, Nat.testBit_or, Bool.or_eq_true, Bool.or_eq_true] at h
    rcases h with (h | h) | h
    · rw [Nat.testBit_two_pow] at h
      exact ⟨n, List.mem_cons_self, .inl (by simpa using h)⟩
    · by_cases hn : n < d
      · rw [if_pos hn] at h
        exact ⟨n, List.mem_cons_self, .inr ⟨hn, h⟩⟩
      · rw [if_neg hn] at h
        simp at h
    · obtain ⟨m, hm, h2⟩ := ybi h
      exact ⟨m, List.mem_cons_of_mem _ hm, h2⟩
theorem zwt {T : List (List Nat × List Nat)} {B : List Nat} (hB : zis T B = true) : ∀ (fuel d : Nat), d < fuel → d < T.length → (B.getD d 0).testBit i = true → zu1 T i fuel d = true
  | 0, d, h, _, _ => by omega
  | fuel + 1, d, h, hd, hb => by
    have h1 := List.all_eq_true.1 hB d (List.mem_range.2 hd)
    cases hr : T[d]? with
    | none => rw [hr] at h1; simp at h1
    | some r =>
      rw [hr] at h1
      simp only [beq_iff_eq] at h1
      have h2 : (upM B d r.1).testBit i = true := by rw [← h1, Nat.testBit_or, hb, Bool.true_or]
      obtain ⟨n, hn, h3⟩ := ybi h2
      unfold zu1
      rw [hr]
      simp only
      rw [List.any_eq_true]
      refine ⟨n, hn, ?_⟩
      rcases h3 with rfl | ⟨h4, h5⟩
      · simp
      · rw [zwt hB fuel n (by omega) (by omega) h5, Bool.or_true]
def yf2 (T : List (List Nat × List Nat)) (B : List Nat) (l : List Bool) (ds : List Nat) (i : Nat) : Bool := ds.all fun d => l.getD d true || (decide (d < T.length) && (B.getD d 0).testBit i)
def yen (T : Bool × List (List Nat × List Nat)) (B : List Nat) (ds : List Nat) (l l' : List Bool) (i : Nat) : Bool := T.1 && ybe T.2 l i && zpa T.2 l i && zvw T.2 l && yf2 T.2 B l ds i && (l.set i true == l')
theorem zvx {B : List Nat} (hT : rtab md ops = T) (hB : zis T.2 B = true) (h : yen T B ds l.toList l'.toList i = true) : ybb md ops ds l l' i = true := by
  refine yem hT ?_
  simp only [yen, yel, Bool.and_eq_true] at h ⊢
  obtain ⟨⟨⟨⟨⟨h1, h2⟩, h3⟩, h4⟩, h5⟩, h6⟩ := h
  refine ⟨⟨⟨⟨⟨h1, h2⟩, h3⟩, h4⟩, ?_⟩, h6⟩
  unfold yf2 at h5
  unfold ycl
  rw [List.all_eq_true] at h5 ⊢
  intro d hd
  have h7 := h5 d hd
  rw [Bool.or_eq_true, Bool.and_eq_true, decide_eq_true_eq] at h7
  rcases h7 with h7 | ⟨h8, h9⟩
  · rw [h7, Bool.true_or]
  · rw [zwt hB _ d h8 h8 h9, Bool.or_true]
theorem zhk {P : Program} {Q : Exit → Act → World → Prop} {S : World → Prop} {n : Nat} {a : Act} {w : World} {B : List Nat} (hT : rtab md ops = T) (hB : zis T.2 B = true) (h : Aside0 (rtab md ops = T) → Aside0 (zis T.2 B = true) → za0 P md ops Q S ds n l a w) : za0 P md ops Q S ds n l a w := h ⟨hT⟩ ⟨hB⟩
end
def zud : Code → Nat → Option (Array Oper)
  | .region id ops _, k => if id == k then some ops else none
  | .seq a b, k => match zud a k with
    | some o => some o
    | none => zud b k
  | .cond _ a b, k => match zud a k with
    | some o => some o
    | none => zud b k
  | .block _ c, k => zud c k
  | .loop c, k => zud c k
  | .scope c, k => zud c k
  | .rangeFunc _ _ a b, k => match zud a k with
    | some o => some o
    | none => zud b k
  | _, _ => none
def zs3 (f : Func) (k : Nat) : Array Oper := ((f.body.bind fun c => zud c k)).getD #[]
end Go.Proofs.YtnaafcleafbejaaGreatW.PrintLast

