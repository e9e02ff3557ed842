/- Proved here: printed words of the kit (Tab), cut down to what the law FnBestSchedules leans on. Conditions: as each states. -/
import Derived.Test.YtabnafbgcpchdaaGreatZFnBestSchedulesXLast
import Derived.Test.YtabnafbgcpchdaaGreatZFnBestSchedulesXWords
namespace Go.Proofs.YtabnafbgcpchdaaGreatW.PrintLast
open Go.Proofs.YtabnafbgcpchdaaGreatW.PrintWords (Aside0)
def zq0 (md : Region.Mode) (o : Oper) : List Nat := (o.after.toList.filter (fun e => Region.binds md e)).map (fun e => e.on)
def zws (md : Region.Mode) (ops : Array Oper) (i : Nat) (oi : Oper) : List Nat := (List.range ops.size).filter fun j => !(j == i) && match ops[j]? with
  | some oj => !(oj.after.any (fun e => Region.binds md e && e.on == i) || oi.apart ops oj)
  | none => false
def rtab (md : Region.Mode) (ops : Array Oper) : Bool × List (List Nat × List Nat) := (Region.noSelect ops, (List.range ops.size).map fun i => match ops[i]? with
  | some o => (zq0 md o, zws md ops i o)
  | none => ([], []))
def zov (T : List (List Nat × List Nat)) (l : List Bool) (i : Nat) : Bool := !l.getD i true && match T[i]? with
  | some r => r.1.all (fun j => l.getD j false)
  | none => false
def ztg (T : List (List Nat × List Nat)) (l : List Bool) : List Nat := (List.range T.length).filter (zov T l)
def zz3 (T : List (List Nat × List Nat)) (l : List Bool) (i : Nat) : Bool := match T[i]? with
  | some r => r.2.all (fun j => l.getD j true)
  | none => false
def zue (T : List (List Nat × List Nat)) (l : List Bool) : Bool := (List.range T.length).all fun j => !l.getD j false || match T[j]? with
  | some r => r.1.all (fun k => l.getD k false)
  | none => true
def zth (T : List (List Nat × List Nat)) (i : Nat) : Nat → Nat → Bool
  | 0, _ => false
  | fuel + 1, d => match T[d]? with
    | some r => r.1.any fun j => j == i || zth T i fuel j
    | none => false
def ya2 (T : List (List Nat × List Nat)) (l : List Bool) (ds : List Nat) (i : Nat) : Bool := ds.all fun d => l.getD d true || zth T i T.length d
section
variable {md : Region.Mode} {ops : Array Oper} {T : Bool × List (List Nat × List Nat)} {l l' li lj lk : Array Bool} {ds : List Nat} {i j k : Nat}
theorem gd (l : Array Bool) (j : Nat) (b : Bool) : l.getD j b = l.toList.getD j b := by simp [Array.getD_eq_getD_getElem?, List.getD_eq_getElem?_getD]
theorem zvu (o : Oper) (p : Nat → Bool) : o.after.all (fun e => !Region.binds md e || p e.on) = (zq0 md o).all p := by
  unfold zq0
  rw [← Array.all_toList]
  induction o.after.toList with
  | nil => rfl
  | cons e r ih =>
    rw [List.all_cons, ih, List.filter_cons]
    cases h : Region.binds md e <;> simp
theorem zz4 (o : Oper) (p : Nat → Bool) : o.after.any (fun e => Region.binds md e && p e.on) = (zq0 md o).any p := by
  unfold zq0
  rw [← Array.any_toList]
  induction o.after.toList with
  | nil => rfl
  | cons e r ih =>
    rw [List.any_cons, ih, List.filter_cons]
    cases h : Region.binds md e <;> simp
theorem zn5 : (rtab md ops).2.length = ops.size := by simp [rtab]
theorem zqi {o : Oper} (h : ops[i]? = some o) : (rtab md ops).2[i]? = some (zq0 md o, zws md ops i o) := by
  have hi := (Array.getElem?_eq_some_iff.1 h).1
  unfold rtab
  rw [List.getElem?_map, List.getElem?_range hi, Option.map_some, h]
theorem zqj (h : ops[i]? = none) : (rtab md ops).2[i]? = none := by
  have hi : ops.size ≤ i := Array.getElem?_eq_none_iff.1 h
  exact List.getElem?_eq_none (by rw [zn5]; exact hi)
theorem zyg : zov (rtab md ops).2 l.toList i = (!l.getD i true && ((ops[i]?).map (·.after.all fun e => !Region.binds md e || l.getD e.on false)).getD false) := by
  unfold zov
  rw [gd]
  cases h : ops[i]? with
  | none => rw [zqj h]; rfl
  | some o =>
    rw [zqi h]
    simp only [Option.map_some, Option.getD_some]
    rw [← zvu]
    simp only [gd]
theorem zru : Region.ready md ops l = ztg (rtab md ops).2 l.toList := by
  unfold Region.ready ztg
  rw [zn5]
  refine List.filter_congr (fun i _ => ?_)
  rw [zyg]
theorem zz5 : Region.free md ops l i = zz3 (rtab md ops).2 l.toList i := by
  unfold Region.free zz3
  cases h : ops[i]? with
  | none => rw [zqj h]
  | some oi =>
    rw [zqi h]
    simp only [zws]
    rw [List.all_filter]
    congr 1
    funext j
    rw [gd]
    cases hj : ops[j]? with
    | none => cases (j == i) <;> cases (l.toList.getD j true) <;> simp
    | some oj =>
      cases (j == i) <;> cases (l.toList.getD j true) <;> cases (oj.after.any (fun e => Region.binds md e && e.on == i) || oi.apart ops oj) <;> simp_all
theorem zz6 : zjg md ops l = zue (rtab md ops).2 l.toList := by
  unfold zjg zue
  rw [zn5]
  congr 1
  funext j
  rw [gd]
  cases h : ops[j]? with
  | none => rw [zqj h]
  | some o =>
    rw [zqi h]
    simp only
    rw [← zvu]
    simp only [gd]
theorem zxu : ∀ (fuel d : Nat), zb4 md ops i fuel d = zth (rtab md ops).2 i fuel d
  | 0, _ => rfl
  | fuel + 1, d => by
    unfold zb4 zth
    cases h : ops[d]? with
    | none => rw [zqj h]
    | some o =>
      rw [zqi h]
      simp only
      rw [← zz4]
      congr 1
      funext e
      rw [zxu fuel]
theorem ycx : zmw md ops l ds i = ya2 (rtab md ops).2 l.toList ds i := by
  unfold zmw ya2
  rw [zn5]
  congr 1
  funext d
  rw [gd, zxu]
theorem zso (h : zov T.2 l.toList i = true) (hT : rtab md ops = T) : (Region.ready md ops l).contains i = true := by
  subst hT
  rw [zru]
  unfold ztg
  rw [List.contains_iff_mem, List.mem_filter, List.mem_range]
  refine ⟨?_, h⟩
  unfold zov at h
  rw [Bool.and_eq_true] at h
  cases hq : (rtab md ops).2[i]? with
  | none => rw [hq] at h; simp at h
  | some r => exact (List.getElem?_eq_some_iff.1 hq).1
theorem zvv (h : (l.toList.set i true == l'.toList) = true) : (l.setIfInBounds i true == l') = true := by
  rw [beq_iff_eq] at h ⊢
  apply Array.ext'
  rw [Array.toList_setIfInBounds]
  exact h
def anyT (T : Bool × List (List Nat × List Nat)) (l l' : List Bool) (i : Nat) : Bool := T.1 && zz3 T.2 l i && zov T.2 l i && (l.set i true == l')
theorem zz7 (hT : rtab md ops = T) (h : anyT T l.toList l'.toList i = true) : anyB md ops l l' i = true := by
  simp only [anyT, Bool.and_eq_true] at h
  obtain ⟨⟨⟨h1, h2⟩, h3⟩, h4⟩ := h
  have h5 := zso h3 hT
  have h6 := zvv h4
  subst hT
  simp only [anyB, Bool.and_eq_true]
  exact ⟨⟨⟨h1, by rw [zz5]; exact h2⟩, h5⟩, h6⟩
def ycy (T : Bool × List (List Nat × List Nat)) (ds : List Nat) (l l' : List Bool) (i : Nat) : Bool := T.1 && zz3 T.2 l i && zov T.2 l i && zue T.2 l && ya2 T.2 l ds i && (l.set i true == l')
theorem ycz (hT : rtab md ops = T) (h : ycy T ds l.toList l'.toList i = true) : zye md ops ds l l' i = true := by
  simp only [ycy, Bool.and_eq_true] at h
  obtain ⟨⟨⟨⟨⟨h1, h2⟩, h3⟩, h4⟩, h5⟩, h6⟩ := h
  have h7 := zso h3 hT
  have h8 := zvv h6
  subst hT
  simp only [zye, Bool.and_eq_true]
  exact ⟨⟨⟨⟨⟨h1, by rw [zz5]; exact h2⟩, h7⟩, by rw [zz6]; exact h4⟩, by rw [ycx]; exact h5⟩, h8⟩
theorem zj2 (hT : rtab md ops = T) (h : (ztg T.2 l.toList == [i] && l.toList.set i true == l'.toList) = true) : ztd md ops l l' i = true := by
  simp only [Bool.and_eq_true] at h
  obtain ⟨h1, h2⟩ := h
  subst hT
  simp only [ztd, Bool.and_eq_true]
  exact ⟨by rw [zru]; exact h1, zvv h2⟩
theorem yea (hT : rtab md ops = T) (h : (ztg T.2 l.toList == [i, j] && l.toList.set i true == li.toList && l.toList.set j true == lj.toList) = true) : (Region.ready md ops l == [i, j] && l.setIfInBounds i true == li && l.setIfInBounds j true == lj) = true := by
  simp only [Bool.and_eq_true] at h ⊢
  obtain ⟨⟨h1, h2⟩, h3⟩ := h
  subst hT
  exact ⟨⟨by rw [zru]; exact h1, zvv h2⟩, zvv h3⟩
theorem zlc (hT : rtab md ops = T) (h : (ztg T.2 l.toList == []) = true) : (Region.ready md ops l == []) = true := by
  subst hT
  rw [zru]
  exact h
def upM (B : List Nat) (d : Nat) : List Nat → Nat
  | [] => 0
  | n :: r => (2 ^ n ||| (if n < d then B.getD n 0 else 0)) ||| upM B d r
def zke (T : List (List Nat × List Nat)) (B : List Nat) : Bool := (List.range T.length).all fun d => match T[d]? with
  | some r => (B.getD d 0 ||| upM B d r.1) == upM B d r.1
  | none => false
theorem zz8 {B : List Nat} {d i : Nat} : ∀ {ns : List Nat}, (upM B d ns).testBit i = true → ∃ n ∈ ns, n = i ∨ (n < d ∧ (B.getD n 0).testBit i = true)
  | [], h => by simp [upM] at h
  | n :: r, h => by
    unfold upM at h
    rw [Nat.testBit_or, Nat.testBit_or, Bool.or_eq_true, Bool.or_eq_true] at h
    rcases h with (h | h) | h
    · rw [Nat.testBit_two_pow] at h
      exact ⟨n, List.mem_cons_self, .inl (by simpa using h)⟩
    · by_cases hn : n < d
      · rw [if_pos hn] at h
        exact ⟨n, List.mem_cons_self, .inr ⟨hn, h⟩⟩
      · rw [if_neg hn] at h
        simp at h
    · obtain ⟨m, hm, h2⟩ := zz8 h
      exact ⟨m, List.mem_cons_of_mem _ hm, h2⟩
theorem zvw {T : List (List Nat × List Nat)} {B : List Nat} (hB : zke T B = true) : ∀ (fuel d : Nat), d < fuel → d < T.length → (B.getD d 0).testBit i = true → zth T i fuel d = true
  | 0, d, h, _, _ => by omega
  | fuel + 1, d, h, hd, hb => by
    have h1 := List.all_eq_true.1 hB d (List.mem_range.2 hd)
    cases hr : T[d]? with
    | none => rw [hr] at h1; simp at h1
    | some r =>
      rw [hr] at h1
      simp only [beq_iff_eq] at h1
      have h2 : (upM B d r.1).testBit i = true := by rw [← h1, Nat.testBit_or, hb, Bool.true_or]
      obtain ⟨n, hn, h3⟩ := zz8 h2
      unfold zth
      rw [hr]
      simp only
      rw [List.any_eq_true]
      refine ⟨n, hn, ?_⟩
      rcases h3 with rfl | ⟨h4, h5⟩
      · simp
      · rw [zvw hB fuel n (by omega) (by omega) h5, Bool.or_true]
def yeb (T : List (List Nat × List Nat)) (B : List Nat) (l : List Bool) (ds : List Nat) (i : Nat) : Bool := ds.all fun d => l.getD d true || (decide (d < T.length) && (B.getD d 0).testBit i)
def yc0 (T : Bool × List (List Nat × List Nat)) (B : List Nat) (ds : List Nat) (l l' : List Bool) (i : Nat) : Bool := T.1 && zz3 T.2 l i && zov T.2 l i && zue T.2 l && yeb T.2 B l ds i && (l.set i true == l')
theorem ya3 {B : List Nat} (hT : rtab md ops = T) (hB : zke T.2 B = true) (h : yc0 T B ds l.toList l'.toList i = true) : zye md ops ds l l' i = true := by
  refine ycz hT ?_
  simp only [yc0, ycy, Bool.and_eq_true] at h ⊢
  obtain ⟨⟨⟨⟨⟨h1, h2⟩, h3⟩, h4⟩, h5⟩, h6⟩ := h
  refine ⟨⟨⟨⟨⟨h1, h2⟩, h3⟩, h4⟩, ?_⟩, h6⟩
  unfold yeb at h5
  unfold ya2
  rw [List.all_eq_true] at h5 ⊢
  intro d hd
  have h7 := h5 d hd
  rw [Bool.or_eq_true, Bool.and_eq_true, decide_eq_true_eq] at h7
  rcases h7 with h7 | ⟨h8, h9⟩
  · rw [h7, Bool.true_or]
  · rw [zvw hB _ d h8 h8 h9, Bool.or_true]
theorem zia {P : Program} {Q : Exit → Act → World → Prop} {S : World → Prop} {n : Nat} {a : Act} {w : World} {B : List Nat} (hT : rtab md ops = T) (hB : zke T.2 B = true) (h : Aside0 (rtab md ops = T) → Aside0 (zke T.2 B = true) → za4 P md ops Q S ds n l a w) : za4 P md ops Q S ds n l a w := h ⟨hT⟩ ⟨hB⟩
end
def zs1 : Code → Nat → Option (Array Oper)
  | .region id ops _, k => if id == k then some ops else none
  | .seq a b, k => match zs1 a k with
    | some o => some o
    | none => zs1 b k
  | .cond _ a b, k => match zs1 a k with
    | some o => some o
    | none => zs1 b k
  | .block _ c, k => zs1 c k
  | .loop c, k => zs1 c k
  | .scope c, k => zs1 c k
  | .rangeFunc _ _ a b, k => match zs1 a k with
    | some o => some o
    | none => zs1 b k
  | _, _ => none
def zuf (f : Func) (k : Nat) : Array Oper := ((f.body.bind fun c => zs1 c k)).getD #[]
end Go.Proofs.YtabnafbgcpchdaaGreatW.PrintLast

