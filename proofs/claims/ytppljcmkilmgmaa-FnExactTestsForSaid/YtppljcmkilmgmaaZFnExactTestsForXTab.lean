/- Proved here: printed words of the kit (Tab), cut down to what the law FnExactTestsFor leans on. Conditions: as each states. -/
import Derived.Test.YtppljcmkilmgmaaZFnExactTestsForXLast
import Derived.Test.YtppljcmkilmgmaaZFnExactTestsForXWords
namespace Go.Proofs.YtppljcmkilmgmaaW.PrintLast
open Go.Proofs.YtppljcmkilmgmaaW.PrintWords (Aside0)
def zkr (md : Region.Mode) (o : Oper) : List Nat := (o.after.toList.filter (fun e => Region.binds md e)).map (fun e => e.on)
def zol (md : Region.Mode) (ops : Array Oper) (i : Nat) (oi : Oper) : List Nat := (List.range ops.size).filter fun j => !(j == i) && match ops[j]? with
  | some oj => !(oj.after.any (fun e => Region.binds md e && e.on == i) || oi.apart ops oj)
  | none => false
def rtab (md : Region.Mode) (ops : Array Oper) : Bool × List (List Nat × List Nat) := (Region.noSelect ops, (List.range ops.size).map fun i => match ops[i]? with
  | some o => (zkr md o, zol md ops i o)
  | none => ([], []))
def zi1 (T : List (List Nat × List Nat)) (l : List Bool) (i : Nat) : Bool := !l.getD i true && match T[i]? with
  | some r => r.1.all (fun j => l.getD j false)
  | none => false
def znu (T : List (List Nat × List Nat)) (l : List Bool) : List Nat := (List.range T.length).filter (zi1 T l)
def zp6 (T : List (List Nat × List Nat)) (l : List Bool) (i : Nat) : Bool := match T[i]? with
  | some r => r.2.all (fun j => l.getD j true)
  | none => false
def zm6 (T : List (List Nat × List Nat)) (l : List Bool) : Bool := (List.range T.length).all fun j => !l.getD j false || match T[j]? with
  | some r => r.1.all (fun k => l.getD k false)
  | none => true
def zmb (T : List (List Nat × List Nat)) (i : Nat) : Nat → Nat → Bool
  | 0, _ => false
  | fuel + 1, d => match T[d]? with
    | some r => r.1.any fun j => j == i || zmb T i fuel j
    | none => false
def zqw (T : List (List Nat × List Nat)) (l : List Bool) (ds : List Nat) (i : Nat) : Bool := ds.all fun d => l.getD d true || zmb T i T.length d
section
variable {md : Region.Mode} {ops : Array Oper} {T : Bool × List (List Nat × List Nat)} {l l' li lj lk : Array Bool} {ds : List Nat} {i j k : Nat}
theorem gd (l : Array Bool) (j : Nat) (b : Bool) : l.getD j b = l.toList.getD j b := by simp [Array.getD_eq_getD_getElem?, List.getD_eq_getElem?_getD]
theorem znv (o : Oper) (p : Nat → Bool) : o.after.all (fun e => !Region.binds md e || p e.on) = (zkr md o).all p := by
  unfold zkr
  rw [← Array.all_toList]
  induction o.after.toList with
  | nil => rfl
  | cons e r ih =>
    rw [List.all_cons, ih, List.filter_cons]
    cases h : Region.binds md e <;> simp
theorem zp7 (o : Oper) (p : Nat → Bool) : o.after.any (fun e => Region.binds md e && p e.on) = (zkr md o).any p := by
  unfold zkr
  rw [← Array.any_toList]
  induction o.after.toList with
  | nil => rfl
  | cons e r ih =>
    rw [List.any_cons, ih, List.filter_cons]
    cases h : Region.binds md e <;> simp
theorem zia : (rtab md ops).2.length = ops.size := by simp [rtab]
theorem zj1 {o : Oper} (h : ops[i]? = some o) : (rtab md ops).2[i]? = some (zkr md o, zol md ops i o) := by
  have hi := (Array.getElem?_eq_some_iff.1 h).1
  unfold rtab
  rw [List.getElem?_map, List.getElem?_range hi, Option.map_some, h]
theorem zj2 (h : ops[i]? = none) : (rtab md ops).2[i]? = none := by
  have hi : ops.size ≤ i := Array.getElem?_eq_none_iff.1 h
  exact List.getElem?_eq_none (by rw [zia]; exact hi)
theorem zo3 : zi1 (rtab md ops).2 l.toList i = (!l.getD i true && ((ops[i]?).map (·.after.all fun e => !Region.binds md e || l.getD e.on false)).getD false) := by
  unfold zi1
  rw [gd]
  cases h : ops[i]? with
  | none => rw [zj2 h]; rfl
  | some o =>
    rw [zj1 h]
    simp only [Option.map_some, Option.getD_some]
    rw [← znv]
    simp only [gd]
theorem zm7 : Region.ready md ops l = znu (rtab md ops).2 l.toList := by
  unfold Region.ready znu
  rw [zia]
  refine List.filter_congr (fun i _ => ?_)
  rw [zo3]
theorem zp8 : Region.free md ops l i = zp6 (rtab md ops).2 l.toList i := by
  unfold Region.free zp6
  cases h : ops[i]? with
  | none => rw [zj2 h]
  | some oi =>
    rw [zj1 h]
    simp only [zol]
    rw [List.all_filter]
    congr 1
    funext j
    rw [gd]
    cases hj : ops[j]? with
    | none => cases (j == i) <;> cases (l.toList.getD j true) <;> simp
    | some oj =>
      cases (j == i) <;> cases (l.toList.getD j true) <;> cases (oj.after.any (fun e => Region.binds md e && e.on == i) || oi.apart ops oj) <;> simp_all
theorem zp9 : ze4 md ops l = zm6 (rtab md ops).2 l.toList := by
  unfold ze4 zm6
  rw [zia]
  congr 1
  funext j
  rw [gd]
  cases h : ops[j]? with
  | none => rw [zj2 h]
  | some o =>
    rw [zj1 h]
    simp only
    rw [← znv]
    simp only [gd]
theorem zov : ∀ (fuel d : Nat), zco md ops i fuel d = zmb (rtab md ops).2 i fuel d
  | 0, _ => rfl
  | fuel + 1, d => by
    unfold zco zmb
    cases h : ops[d]? with
    | none => rw [zj2 h]
    | some o =>
      rw [zj1 h]
      simp only
      rw [← zp7]
      congr 1
      funext e
      rw [zov fuel]
theorem zsh : zhs md ops l ds i = zqw (rtab md ops).2 l.toList ds i := by
  unfold zhs zqw
  rw [zia]
  congr 1
  funext d
  rw [gd, zov]
theorem zlh (h : zi1 T.2 l.toList i = true) (hT : rtab md ops = T) : (Region.ready md ops l).contains i = true := by
  subst hT
  rw [zm7]
  unfold znu
  rw [List.contains_iff_mem, List.mem_filter, List.mem_range]
  refine ⟨?_, h⟩
  unfold zi1 at h
  rw [Bool.and_eq_true] at h
  cases hq : (rtab md ops).2[i]? with
  | none => rw [hq] at h; simp at h
  | some r => exact (List.getElem?_eq_some_iff.1 hq).1
theorem zqa (h : (l.toList.set i true == l'.toList) = true) : (l.setIfInBounds i true == l') = true := by
  rw [beq_iff_eq] at h ⊢
  apply Array.ext'
  rw [Array.toList_setIfInBounds]
  exact h
def anyT (T : Bool × List (List Nat × List Nat)) (l l' : List Bool) (i : Nat) : Bool := T.1 && zp6 T.2 l i && zi1 T.2 l i && (l.set i true == l')
theorem zex (hT : rtab md ops = T) (h : anyT T l.toList l'.toList i = true) : anyB md ops l l' i = true := by
  simp only [anyT, Bool.and_eq_true] at h
  obtain ⟨⟨⟨h1, h2⟩, h3⟩, h4⟩ := h
  have h5 := zlh h3 hT
  have h6 := zqa h4
  subst hT
  simp only [anyB, Bool.and_eq_true]
  exact ⟨⟨⟨h1, by rw [zp8]; exact h2⟩, h5⟩, h6⟩
def zsj (T : Bool × List (List Nat × List Nat)) (ds : List Nat) (l l' : List Bool) (i : Nat) : Bool := T.1 && zp6 T.2 l i && zi1 T.2 l i && zm6 T.2 l && zqw T.2 l ds i && (l.set i true == l')
theorem zsk (hT : rtab md ops = T) (h : zsj T ds l.toList l'.toList i = true) : zp3 md ops ds l l' i = true := by
  simp only [zsj, Bool.and_eq_true] at h
  obtain ⟨⟨⟨⟨⟨h1, h2⟩, h3⟩, h4⟩, h5⟩, h6⟩ := h
  have h7 := zlh h3 hT
  have h8 := zqa h6
  subst hT
  simp only [zp3, Bool.and_eq_true]
  exact ⟨⟨⟨⟨⟨h1, by rw [zp8]; exact h2⟩, h7⟩, by rw [zp9]; exact h4⟩, by rw [zsh]; exact h5⟩, h8⟩
theorem zhd (hT : rtab md ops = T) (h : (znu T.2 l.toList == [i] && l.toList.set i true == l'.toList) = true) : zl9 md ops l l' i = true := by
  simp only [Bool.and_eq_true] at h
  obtain ⟨h1, h2⟩ := h
  subst hT
  simp only [zl9, Bool.and_eq_true]
  exact ⟨by rw [zm7]; exact h1, zqa h2⟩
theorem zfs (hT : rtab md ops = T) (h : (znu T.2 l.toList == []) = true) : (Region.ready md ops l == []) = true := by
  subst hT
  rw [zm7]
  exact h
def upM (B : List Nat) (d : Nat) : List Nat → Nat
  | [] => 0
  | n :: r => (2 ^ n ||| (if n < d then B.getD n 0 else 0)) ||| upM B d r
def zft (T : List (List Nat × List Nat)) (B : List Nat) : Bool := (List.range T.length).all fun d => match T[d]? with
  | some r => (B.getD d 0 ||| upM B d r.1) == upM B d r.1
  | none => false
theorem zqb {B : List Nat} {d i : Nat} : ∀ {ns : List Nat}, (upM B d ns).testBit i = true → ∃ n ∈ ns, n = i ∨ (n < d ∧ (B.getD n 0).testBit i = true)
  | [], h => by simp [upM] at h
  | n :: r, h => by
    unfold upM at h
    rw [Nat.testBit_or, Nat.testBit_or, Bool.or_eq_true, Bool.or_eq_true] at h
    rcases h with (h | h) | h
    · rw [Nat.testBit_two_pow] at h
      exact ⟨n, List.mem_cons_self, .inl (by simpa using h)⟩
    · by_cases hn : n < d
      · rw [if_pos hn] at h
        exact ⟨n, List.mem_cons_self, .inr ⟨hn, h⟩⟩
      · rw [if_neg hn] at h
        simp at h
    · obtain ⟨m, hm, h2⟩ := zqb h
      exact ⟨m, List.mem_cons_of_mem _ hm, h2⟩
theorem znw {T : List (List Nat × List Nat)} {B : List Nat} (hB : zft T B = true) : ∀ (fuel d : Nat), d < fuel → d < T.length → (B.getD d 0).testBit i = true → zmb T i fuel d = true
  | 0, d, h, _, _ => by omega
  | fuel + 1, d, h, hd, hb => by
    have h1 := List.all_eq_true.1 hB d (List.mem_range.2 hd)
    cases hr : T[d]? with
    | none => rw [hr] at h1; simp at h1
    | some r =>
      rw [hr] at h1
      simp only [beq_iff_eq] at h1
      have h2 : (upM B d r.1).testBit i = true := by rw [← h1, Nat.testBit_or, hb, Bool.true_or]
      obtain ⟨n, hn, h3⟩ := zqb h2
      unfold zmb
      rw [hr]
      simp only
      rw [List.any_eq_true]
      refine ⟨n, hn, ?_⟩
      rcases h3 with rfl | ⟨h4, h5⟩
      · simp
      · rw [znw hB fuel n (by omega) (by omega) h5, Bool.or_true]
def ztr (T : List (List Nat × List Nat)) (B : List Nat) (l : List Bool) (ds : List Nat) (i : Nat) : Bool := ds.all fun d => l.getD d true || (decide (d < T.length) && (B.getD d 0).testBit i)
def zsl (T : Bool × List (List Nat × List Nat)) (B : List Nat) (ds : List Nat) (l l' : List Bool) (i : Nat) : Bool := T.1 && zp6 T.2 l i && zi1 T.2 l i && zm6 T.2 l && ztr T.2 B l ds i && (l.set i true == l')
theorem zqx {B : List Nat} (hT : rtab md ops = T) (hB : zft T.2 B = true) (h : zsl T B ds l.toList l'.toList i = true) : zp3 md ops ds l l' i = true := by
  refine zsk hT ?_
  simp only [zsl, zsj, Bool.and_eq_true] at h ⊢
  obtain ⟨⟨⟨⟨⟨h1, h2⟩, h3⟩, h4⟩, h5⟩, h6⟩ := h
  refine ⟨⟨⟨⟨⟨h1, h2⟩, h3⟩, h4⟩, ?_⟩, h6⟩
  unfold ztr at h5
  unfold zqw
  rw [List.all_eq_true] at h5 ⊢
  intro d hd
  have h7 := h5 d hd
  rw [Bool.or_eq_true, Bool.and_eq_true, decide_eq_true_eq] at h7
  rcases h7 with h7 | ⟨h8, h9⟩
  · rw [h7, Bool.true_or]
  · rw [znw hB _ d h8 h8 h9, Bool.or_true]
theorem zec {P : Program} {Q : Exit → Act → World → Prop} {S : World → Prop} {n : Nat} {a : Act} {w : World} {B : List Nat} (hT : rtab md ops = T) (hB : zft T.2 B = true) (h : Aside0 (rtab md ops = T) → Aside0 (zft T.2 B = true) → za1 P md ops Q S ds n l a w) : za1 P md ops Q S ds n l a w := h ⟨hT⟩ ⟨hB⟩
end
def zlx : Code → Nat → Option (Array Oper)
  | .region id ops _, k => if id == k then some ops else none
  | .seq a b, k => match zlx a k with
    | some o => some o
    | none => zlx b k
  | .cond _ a b, k => match zlx a k with
    | some o => some o
    | none => zlx b k
  | .block _ c, k => zlx c k
  | .loop c, k => zlx c k
  | .scope c, k => zlx c k
  | .rangeFunc _ _ a b, k => match zlx a k with
    | some o => some o
    | none => zlx b k
  | _, _ => none
def znx (f : Func) (k : Nat) : Array Oper := ((f.body.bind fun c => zlx c k)).getD #[]
end Go.Proofs.YtppljcmkilmgmaaW.PrintLast

