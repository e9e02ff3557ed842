/- Proved here: printed words of the kit (Tab), cut down to what the law FnSchedules leans on. Conditions: as each states. -/
import Derived.Test.YtabnafbgcpchdaaGreatZFnSchedulesXLast
import Derived.Test.YtabnafbgcpchdaaGreatZFnSchedulesXWords
namespace Go.Proofs.YtabnafbgcpchdaaGreatW.PrintLast
open Go.Proofs.YtabnafbgcpchdaaGreatW.PrintWords (Aside0)
def zsv (md : Region.Mode) (o : Oper) : List Nat := (o.after.toList.filter (fun e => Region.binds md e)).map (fun e => e.on)
def zx4 (md : Region.Mode) (ops : Array Oper) (i : Nat) (oi : Oper) : List Nat := (List.range ops.size).filter fun j => !(j == i) && match ops[j]? with
  | some oj => !(oj.after.any (fun e => Region.binds md e && e.on == i) || oi.apart ops oj)
  | none => false
def rtab (md : Region.Mode) (ops : Array Oper) : Bool × List (List Nat × List Nat) := (Region.noSelect ops, (List.range ops.size).map fun i => match ops[i]? with
  | some o => (zsv md o, zx4 md ops i o)
  | none => ([], []))
def zp4 (T : List (List Nat × List Nat)) (l : List Bool) (i : Nat) : Bool := !l.getD i true && match T[i]? with
  | some r => r.1.all (fun j => l.getD j false)
  | none => false
def zu5 (T : List (List Nat × List Nat)) (l : List Bool) : List Nat := (List.range T.length).filter (zp4 T l)
def ybf (T : List (List Nat × List Nat)) (l : List Bool) (i : Nat) : Bool := match T[i]? with
  | some r => r.2.all (fun j => l.getD j true)
  | none => false
def zvy (T : List (List Nat × List Nat)) (l : List Bool) : Bool := (List.range T.length).all fun j => !l.getD j false || match T[j]? with
  | some r => r.1.all (fun k => l.getD k false)
  | none => true
def zu6 (T : List (List Nat × List Nat)) (i : Nat) : Nat → Nat → Bool
  | 0, _ => false
  | fuel + 1, d => match T[d]? with
    | some r => r.1.any fun j => j == i || zu6 T i fuel j
    | none => false
def ych (T : List (List Nat × List Nat)) (l : List Bool) (ds : List Nat) (i : Nat) : Bool := ds.all fun d => l.getD d true || zu6 T i T.length d
section
variable {md : Region.Mode} {ops : Array Oper} {T : Bool × List (List Nat × List Nat)} {l l' li lj lk : Array Bool} {ds : List Nat} {i j k : Nat}
theorem gd (l : Array Bool) (j : Nat) (b : Bool) : l.getD j b = l.toList.getD j b := by simp [Array.getD_eq_getD_getElem?, List.getD_eq_getElem?_getD]
theorem zw3 (o : Oper) (p : Nat → Bool) : o.after.all (fun e => !Region.binds md e || p e.on) = (zsv md o).all p := by
  unfold zsv
  rw [← Array.all_toList]
  induction o.after.toList with
  | nil => rfl
  | cons e r ih =>
    rw [List.all_cons, ih, List.filter_cons]
    cases h : Region.binds md e <;> simp
theorem ybg (o : Oper) (p : Nat → Bool) : o.after.any (fun e => Region.binds md e && p e.on) = (zsv md o).any p := by
  unfold zsv
  rw [← Array.any_toList]
  induction o.after.toList with
  | nil => rfl
  | cons e r ih =>
    rw [List.any_cons, ih, List.filter_cons]
    cases h : Region.binds md e <;> simp
theorem zo8 : (rtab md ops).2.length = ops.size := by simp [rtab]
theorem zr5 {o : Oper} (h : ops[i]? = some o) : (rtab md ops).2[i]? = some (zsv md o, zx4 md ops i o) := by
  have hi := (Array.getElem?_eq_some_iff.1 h).1
  unfold rtab
  rw [List.getElem?_map, List.getElem?_range hi, Option.map_some, h]
theorem zr6 (h : ops[i]? = none) : (rtab md ops).2[i]? = none := by
  have hi : ops.size ≤ i := Array.getElem?_eq_none_iff.1 h
  exact List.getElem?_eq_none (by rw [zo8]; exact hi)
theorem zzt : zp4 (rtab md ops).2 l.toList i = (!l.getD i true && ((ops[i]?).map (·.after.all fun e => !Region.binds md e || l.getD e.on false)).getD false) := by
  unfold zp4
  rw [gd]
  cases h : ops[i]? with
  | none => rw [zr6 h]; rfl
  | some o =>
    rw [zr5 h]
    simp only [Option.map_some, Option.getD_some]
    rw [← zw3]
    simp only [gd]
theorem ztj : Region.ready md ops l = zu5 (rtab md ops).2 l.toList := by
  unfold Region.ready zu5
  rw [zo8]
  refine List.filter_congr (fun i _ => ?_)
  rw [zzt]
theorem ybh : Region.free md ops l i = ybf (rtab md ops).2 l.toList i := by
  unfold Region.free ybf
  cases h : ops[i]? with
  | none => rw [zr6 h]
  | some oi =>
    rw [zr5 h]
    simp only [zx4]
    rw [List.all_filter]
    congr 1
    funext j
    rw [gd]
    cases hj : ops[j]? with
    | none => cases (j == i) <;> cases (l.toList.getD j true) <;> simp
    | some oj =>
      cases (j == i) <;> cases (l.toList.getD j true) <;> cases (oj.after.any (fun e => Region.binds md e && e.on == i) || oi.apart ops oj) <;> simp_all
theorem ybi : zkv md ops l = zvy (rtab md ops).2 l.toList := by
  unfold zkv zvy
  rw [zo8]
  congr 1
  funext j
  rw [gd]
  cases h : ops[j]? with
  | none => rw [zr6 h]
  | some o =>
    rw [zr5 h]
    simp only
    rw [← zw3]
    simp only [gd]
theorem zy6 : ∀ (fuel d : Nat), zck md ops i fuel d = zu6 (rtab md ops).2 i fuel d
  | 0, _ => rfl
  | fuel + 1, d => by
    unfold zck zu6
    cases h : ops[d]? with
    | none => rw [zr6 h]
    | some o =>
      rw [zr5 h]
      simp only
      rw [← ybg]
      congr 1
      funext e
      rw [zy6 fuel]
theorem yeb : zoa md ops l ds i = ych (rtab md ops).2 l.toList ds i := by
  unfold zoa ych
  rw [zo8]
  congr 1
  funext d
  rw [gd, zy6]
theorem zt6 (h : zp4 T.2 l.toList i = true) (hT : rtab md ops = T) : (Region.ready md ops l).contains i = true := by
  subst hT
  rw [ztj]
  unfold zu5
  rw [List.contains_iff_mem, List.mem_filter, List.mem_range]
  refine ⟨?_, h⟩
  unfold zp4 at h
  rw [Bool.and_eq_true] at h
  cases hq : (rtab md ops).2[i]? with
  | none => rw [hq] at h; simp at h
  | some r => exact (List.getElem?_eq_some_iff.1 hq).1
theorem zw4 (h : (l.toList.set i true == l'.toList) = true) : (l.setIfInBounds i true == l') = true := by
  rw [beq_iff_eq] at h ⊢
  apply Array.ext'
  rw [Array.toList_setIfInBounds]
  exact h
def anyT (T : Bool × List (List Nat × List Nat)) (l l' : List Bool) (i : Nat) : Bool := T.1 && ybf T.2 l i && zp4 T.2 l i && (l.set i true == l')
theorem zmn (hT : rtab md ops = T) (h : anyT T l.toList l'.toList i = true) : anyB md ops l l' i = true := by
  simp only [anyT, Bool.and_eq_true] at h
  obtain ⟨⟨⟨h1, h2⟩, h3⟩, h4⟩ := h
  have h5 := zt6 h3 hT
  have h6 := zw4 h4
  subst hT
  simp only [anyB, Bool.and_eq_true]
  exact ⟨⟨⟨h1, by rw [ybh]; exact h2⟩, h5⟩, h6⟩
def yec (T : Bool × List (List Nat × List Nat)) (ds : List Nat) (l l' : List Bool) (i : Nat) : Bool := T.1 && ybf T.2 l i && zp4 T.2 l i && zvy T.2 l && ych T.2 l ds i && (l.set i true == l')
theorem yed (hT : rtab md ops = T) (h : yec T ds l.toList l'.toList i = true) : zzq md ops ds l l' i = true := by
  simp only [yec, Bool.and_eq_true] at h
  obtain ⟨⟨⟨⟨⟨h1, h2⟩, h3⟩, h4⟩, h5⟩, h6⟩ := h
  have h7 := zt6 h3 hT
  have h8 := zw4 h6
  subst hT
  simp only [zzq, Bool.and_eq_true]
  exact ⟨⟨⟨⟨⟨h1, by rw [ybh]; exact h2⟩, h7⟩, by rw [ybi]; exact h4⟩, by rw [yeb]; exact h5⟩, h8⟩
theorem zl7 (hT : rtab md ops = T) (h : (zu5 T.2 l.toList == [i] && l.toList.set i true == l'.toList) = true) : zu2 md ops l l' i = true := by
  simp only [Bool.and_eq_true] at h
  obtain ⟨h1, h2⟩ := h
  subst hT
  simp only [zu2, Bool.and_eq_true]
  exact ⟨by rw [ztj]; exact h1, zw4 h2⟩
theorem yfp (hT : rtab md ops = T) (h : (zu5 T.2 l.toList == [i, j] && l.toList.set i true == li.toList && l.toList.set j true == lj.toList) = true) : (Region.ready md ops l == [i, j] && l.setIfInBounds i true == li && l.setIfInBounds j true == lj) = true := by
  simp only [Bool.and_eq_true] at h ⊢
  obtain ⟨⟨h1, h2⟩, h3⟩ := h
  subst hT
  exact ⟨⟨by rw [ztj]; exact h1, zw4 h2⟩, zw4 h3⟩
theorem zlx (hT : rtab md ops = T) (h : (zu5 T.2 l.toList == []) = true) : (Region.ready md ops l == []) = true := by
  subst hT
  rw [ztj]
  exact h
def upM (B : List Nat) (d : Nat) : List Nat → Nat
  | [] => 0
  | n :: r => (2 ^ n ||| (if n < d then B.getD n 0 else 0)) ||| upM B d r
def zlc (T : List (List Nat × List Nat)) (B : List Nat) : Bool := (List.range T.length).all fun d => match T[d]? with
  | some r => (B.getD d 0 ||| upM B d r.1) == upM B d r.1
  | none => false
theorem ybj {B : List Nat} {d i : Nat} : ∀ {ns : List Nat}, (upM B d ns).testBit i = true → ∃ n ∈ ns, n = i ∨ (n < d ∧ (B.getD n 0).testBit i = true)
  | [], h => by simp [upM] at h
  | n :: r, h => by
    unfold upM at h
    rw [Nat.testBit_or, Nat.testBit_or, Bool.or_eq_true, Bool.or_eq_true] at h
    rcases h with (h | h) | h
    · rw [Nat.testBit_two_pow] at h
      exact ⟨n, List.mem_cons_self, .inl (by simpa using h)⟩
    · by_cases hn : n < d
      · rw [if_pos hn] at h
        exact ⟨n, List.mem_cons_self, .inr ⟨hn, h⟩⟩
      · rw [if_neg hn] at h
        simp at h
    · obtain ⟨m, hm, h2⟩ := ybj h
      exact ⟨m, List.mem_cons_of_mem _ hm, h2⟩
theorem zw5 {T : List (List Nat × List Nat)} {B : List Nat} (hB : zlc T B = true) : ∀ (fuel d : Nat), d < fuel → d < T.length → (B.getD d 0).testBit i = true → zu6 T i fuel d = true
  | 0, d, h, _, _ => by omega
  | fuel + 1, d, h, hd, hb => by
    have h1 := List.all_eq_true.1 hB d (List.mem_range.2 hd)
    cases hr : T[d]? with
    | none => rw [hr] at h1; simp at h1
    | some r =>
      rw [hr] at h1
      simp only [beq_iff_eq] at h1
      have h2 : (upM B d r.1).testBit i = true := by rw [← h1, Nat.testBit_or, hb, Bool.true_or]
      obtain ⟨n, hn, h3⟩ := ybj h2
      unfold zu6
      rw [hr]
      simp only
      rw [List.any_eq_true]
      refine ⟨n, hn, ?_⟩
      rcases h3 with rfl | ⟨h4, h5⟩
      · simp
      · rw [zw5 hB fuel n (by omega) (by omega) h5, Bool.or_true]
def yfq (T : List (List Nat × List Nat)) (B : List Nat) (l : List Bool) (ds : List Nat) (i : Nat) : Bool := ds.all fun d => l.getD d true || (decide (d < T.length) && (B.getD d 0).testBit i)
def yee (T : Bool × List (List Nat × List Nat)) (B : List Nat) (ds : List Nat) (l l' : List Bool) (i : Nat) : Bool := T.1 && ybf T.2 l i && zp4 T.2 l i && zvy T.2 l && yfq T.2 B l ds i && (l.set i true == l')
theorem yci {B : List Nat} (hT : rtab md ops = T) (hB : zlc T.2 B = true) (h : yee T B ds l.toList l'.toList i = true) : zzq md ops ds l l' i = true := by
  refine yed hT ?_
  simp only [yee, yec, Bool.and_eq_true] at h ⊢
  obtain ⟨⟨⟨⟨⟨h1, h2⟩, h3⟩, h4⟩, h5⟩, h6⟩ := h
  refine ⟨⟨⟨⟨⟨h1, h2⟩, h3⟩, h4⟩, ?_⟩, h6⟩
  unfold yfq at h5
  unfold ych
  rw [List.all_eq_true] at h5 ⊢
  intro d hd
  have h7 := h5 d hd
  rw [Bool.or_eq_true, Bool.and_eq_true, decide_eq_true_eq] at h7
  rcases h7 with h7 | ⟨h8, h9⟩
  · rw [h7, Bool.true_or]
  · rw [zw5 hB _ d h8 h8 h9, Bool.or_true]
theorem zji {P : Program} {Q : Exit → Act → World → Prop} {S : World → Prop} {n : Nat} {a : Act} {w : World} {B : List Nat} (hT : rtab md ops = T) (hB : zlc T.2 B = true) (h : Aside0 (rtab md ops = T) → Aside0 (zlc T.2 B = true) → zbk P md ops Q S ds n l a w) : zbk P md ops Q S ds n l a w := h ⟨hT⟩ ⟨hB⟩
end
def zum : Code → Nat → Option (Array Oper)
  | .region id ops _, k => if id == k then some ops else none
  | .seq a b, k => match zum a k with
    | some o => some o
    | none => zum b k
  | .cond _ a b, k => match zum a k with
    | some o => some o
    | none => zum b k
  | .block _ c, k => zum c k
  | .loop c, k => zum c k
  | .scope c, k => zum c k
  | .rangeFunc _ _ a b, k => match zum a k with
    | some o => some o
    | none => zum b k
  | _, _ => none
def zun (f : Func) (k : Nat) : Array Oper := ((f.body.bind fun c => zum c k)).getD #[]
end Go.Proofs.YtabnafbgcpchdaaGreatW.PrintLast

