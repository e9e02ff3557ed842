/- Proved here: printed words of the kit (Tab), cut down to what the law FnExactSymbolOf leans on. Conditions: as each states. -/
import Derived.Test.YtkfkbmlbpeojaaaZFnExactSymbolOfXLast
import Derived.Test.YtkfkbmlbpeojaaaZFnExactSymbolOfXWords
namespace Go.Proofs.YtkfkbmlbpeojaaaW.PrintLast
open Go.Proofs.YtkfkbmlbpeojaaaW.PrintWords (Aside0)
def zlk (md : Region.Mode) (o : Oper) : List Nat := (o.after.toList.filter (fun e => Region.binds md e)).map (fun e => e.on)
def zpl (md : Region.Mode) (ops : Array Oper) (i : Nat) (oi : Oper) : List Nat := (List.range ops.size).filter fun j => !(j == i) && match ops[j]? with
  | some oj => !(oj.after.any (fun e => Region.binds md e && e.on == i) || oi.apart ops oj)
  | none => false
def rtab (md : Region.Mode) (ops : Array Oper) : Bool × List (List Nat × List Nat) := (Region.noSelect ops, (List.range ops.size).map fun i => match ops[i]? with
  | some o => (zlk md o, zpl md ops i o)
  | none => ([], []))
def zje (T : List (List Nat × List Nat)) (l : List Bool) (i : Nat) : Bool := !l.getD i true && match T[i]? with
  | some r => r.1.all (fun j => l.getD j false)
  | none => false
def znm (T : List (List Nat × List Nat)) (l : List Bool) : List Nat := (List.range T.length).filter (zje T l)
def zru (T : List (List Nat × List Nat)) (l : List Bool) (i : Nat) : Bool := match T[i]? with
  | some r => r.2.all (fun j => l.getD j true)
  | none => false
def zod (T : List (List Nat × List Nat)) (l : List Bool) : Bool := (List.range T.length).all fun j => !l.getD j false || match T[j]? with
  | some r => r.1.all (fun k => l.getD k false)
  | none => true
def znn (T : List (List Nat × List Nat)) (i : Nat) : Nat → Nat → Bool
  | 0, _ => false
  | fuel + 1, d => match T[d]? with
    | some r => r.1.any fun j => j == i || znn T i fuel j
    | none => false
def zsv (T : List (List Nat × List Nat)) (l : List Bool) (ds : List Nat) (i : Nat) : Bool := ds.all fun d => l.getD d true || znn T i T.length d
section
variable {md : Region.Mode} {ops : Array Oper} {T : Bool × List (List Nat × List Nat)} {l l' li lj lk : Array Bool} {ds : List Nat} {i j k : Nat}
theorem gd (l : Array Bool) (j : Nat) (b : Bool) : l.getD j b = l.toList.getD j b := by simp [Array.getD_eq_getD_getElem?, List.getD_eq_getElem?_getD]
theorem zox (o : Oper) (p : Nat → Bool) : o.after.all (fun e => !Region.binds md e || p e.on) = (zlk md o).all p := by
  unfold zlk
  rw [← Array.all_toList]
  induction o.after.toList with
  | nil => rfl
  | cons e r ih =>
    rw [List.all_cons, ih, List.filter_cons]
    cases h : Region.binds md e <;> simp
theorem zrv (o : Oper) (p : Nat → Bool) : o.after.any (fun e => Region.binds md e && p e.on) = (zlk md o).any p := by
  unfold zlk
  rw [← Array.any_toList]
  induction o.after.toList with
  | nil => rfl
  | cons e r ih =>
    rw [List.any_cons, ih, List.filter_cons]
    cases h : Region.binds md e <;> simp
theorem zis : (rtab md ops).2.length = ops.size := by simp [rtab]
theorem zkw {o : Oper} (h : ops[i]? = some o) : (rtab md ops).2[i]? = some (zlk md o, zpl md ops i o) := by
  have hi := (Array.getElem?_eq_some_iff.1 h).1
  unfold rtab
  rw [List.getElem?_map, List.getElem?_range hi, Option.map_some, h]
theorem zkx (h : ops[i]? = none) : (rtab md ops).2[i]? = none := by
  have hi : ops.size ≤ i := Array.getElem?_eq_none_iff.1 h
  exact List.getElem?_eq_none (by rw [zis]; exact hi)
theorem zql : zje (rtab md ops).2 l.toList i = (!l.getD i true && ((ops[i]?).map (·.after.all fun e => !Region.binds md e || l.getD e.on false)).getD false) := by
  unfold zje
  rw [gd]
  cases h : ops[i]? with
  | none => rw [zkx h]; rfl
  | some o =>
    rw [zkw h]
    simp only [Option.map_some, Option.getD_some]
    rw [← zox]
    simp only [gd]
theorem zma : Region.ready md ops l = znm (rtab md ops).2 l.toList := by
  unfold Region.ready znm
  rw [zis]
  refine List.filter_congr (fun i _ => ?_)
  rw [zql]
theorem zrw : Region.free md ops l i = zru (rtab md ops).2 l.toList i := by
  unfold Region.free zru
  cases h : ops[i]? with
  | none => rw [zkx h]
  | some oi =>
    rw [zkw h]
    simp only [zpl]
    rw [List.all_filter]
    congr 1
    funext j
    rw [gd]
    cases hj : ops[j]? with
    | none => cases (j == i) <;> cases (l.toList.getD j true) <;> simp
    | some oj =>
      cases (j == i) <;> cases (l.toList.getD j true) <;> cases (oj.after.any (fun e => Region.binds md e && e.on == i) || oi.apart ops oj) <;> simp_all
theorem zrx : zfu md ops l = zod (rtab md ops).2 l.toList := by
  unfold zfu zod
  rw [zis]
  congr 1
  funext j
  rw [gd]
  cases h : ops[j]? with
  | none => rw [zkx h]
  | some o =>
    rw [zkw h]
    simp only
    rw [← zox]
    simp only [gd]
theorem zqc : ∀ (fuel d : Nat), zck md ops i fuel d = znn (rtab md ops).2 i fuel d
  | 0, _ => rfl
  | fuel + 1, d => by
    unfold zck znn
    cases h : ops[d]? with
    | none => rw [zkx h]
    | some o =>
      rw [zkw h]
      simp only
      rw [← zrv]
      congr 1
      funext e
      rw [zqc fuel]
theorem zug : zh0 md ops l ds i = zsv (rtab md ops).2 l.toList ds i := by
  unfold zh0 zsv
  rw [zis]
  congr 1
  funext d
  rw [gd, zqc]
theorem zmy (h : zje T.2 l.toList i = true) (hT : rtab md ops = T) : (Region.ready md ops l).contains i = true := by
  subst hT
  rw [zma]
  unfold znm
  rw [List.contains_iff_mem, List.mem_filter, List.mem_range]
  refine ⟨?_, h⟩
  unfold zje at h
  rw [Bool.and_eq_true] at h
  cases hq : (rtab md ops).2[i]? with
  | none => rw [hq] at h; simp at h
  | some r => exact (List.getElem?_eq_some_iff.1 hq).1
theorem zoy (h : (l.toList.set i true == l'.toList) = true) : (l.setIfInBounds i true == l') = true := by
  rw [beq_iff_eq] at h ⊢
  apply Array.ext'
  rw [Array.toList_setIfInBounds]
  exact h
def anyT (T : Bool × List (List Nat × List Nat)) (l l' : List Bool) (i : Nat) : Bool := T.1 && zru T.2 l i && zje T.2 l i && (l.set i true == l')
theorem zbs (hT : rtab md ops = T) (h : anyT T l.toList l'.toList i = true) : anyB md ops l l' i = true := by
  simp only [anyT, Bool.and_eq_true] at h
  obtain ⟨⟨⟨h1, h2⟩, h3⟩, h4⟩ := h
  have h5 := zmy h3 hT
  have h6 := zoy h4
  subst hT
  simp only [anyB, Bool.and_eq_true]
  exact ⟨⟨⟨h1, by rw [zrw]; exact h2⟩, h5⟩, h6⟩
def zuh (T : Bool × List (List Nat × List Nat)) (ds : List Nat) (l l' : List Bool) (i : Nat) : Bool := T.1 && zru T.2 l i && zje T.2 l i && zod T.2 l && zsv T.2 l ds i && (l.set i true == l')
theorem zui (hT : rtab md ops = T) (h : zuh T ds l.toList l'.toList i = true) : zrr md ops ds l l' i = true := by
  simp only [zuh, Bool.and_eq_true] at h
  obtain ⟨⟨⟨⟨⟨h1, h2⟩, h3⟩, h4⟩, h5⟩, h6⟩ := h
  have h7 := zmy h3 hT
  have h8 := zoy h6
  subst hT
  simp only [zrr, Bool.and_eq_true]
  exact ⟨⟨⟨⟨⟨h1, by rw [zrw]; exact h2⟩, h7⟩, by rw [zrx]; exact h4⟩, by rw [zug]; exact h5⟩, h8⟩
theorem zky (hT : rtab md ops = T) (h : (znm T.2 l.toList == [i] && l.toList.set i true == l'.toList) = true) : zqb md ops l l' i = true := by
  simp only [Bool.and_eq_true] at h
  obtain ⟨h1, h2⟩ := h
  subst hT
  simp only [zqb, Bool.and_eq_true]
  exact ⟨by rw [zma]; exact h1, zoy h2⟩
theorem zvm (hT : rtab md ops = T) (h : (znm T.2 l.toList == [i, j] && l.toList.set i true == li.toList && l.toList.set j true == lj.toList) = true) : (Region.ready md ops l == [i, j] && l.setIfInBounds i true == li && l.setIfInBounds j true == lj) = true := by
  simp only [Bool.and_eq_true] at h ⊢
  obtain ⟨⟨h1, h2⟩, h3⟩ := h
  subst hT
  exact ⟨⟨by rw [zma]; exact h1, zoy h2⟩, zoy h3⟩
theorem zjf (hT : rtab md ops = T) (h : (znm T.2 l.toList == []) = true) : (Region.ready md ops l == []) = true := by
  subst hT
  rw [zma]
  exact h
def upM (B : List Nat) (d : Nat) : List Nat → Nat
  | [] => 0
  | n :: r => (2 ^ n ||| (if n < d then B.getD n 0 else 0)) ||| upM B d r
def zh7 (T : List (List Nat × List Nat)) (B : List Nat) : Bool := (List.range T.length).all fun d => match T[d]? with
  | some r => (B.getD d 0 ||| upM B d r.1) == upM B d r.1
  | none => false
theorem zry {B : List Nat} {d i : Nat} : ∀ {ns : List Nat}, (upM B d ns).testBit i = true → ∃ n ∈ ns, n = i ∨ (n < d ∧ (B.getD n 0).testBit i = true)
  | [], h => by simp [upM] at h
  | n :: r, h => by
    unfold upM at h
    rw [Nat.testBit_or, Nat.testBit_or, Bool.or_eq_true, Bool.or_eq_true] at h
    rcases h with (h | h) | h
    · rw [Nat.testBit_two_pow] at h
      exact ⟨n, List.mem_cons_self, .inl (by simpa using h)⟩
    · by_cases hn : n < d
      · rw [if_pos hn] at h
        exact ⟨n, List.mem_cons_self, .inr ⟨hn, h⟩⟩
      · rw [if_neg hn] at h
        simp at h
    · obtain ⟨m, hm, h2⟩ := zry h
      exact ⟨m, List.mem_cons_of_mem _ hm, h2⟩
theorem zoz {T : List (List Nat × List Nat)} {B : List Nat} (hB : zh7 T B = true) : ∀ (fuel d : Nat), d < fuel → d < T.length → (B.getD d 0).testBit i = true → znn T i fuel d = true
  | 0, d, h, _, _ => by omega
  | fuel + 1, d, h, hd, hb => by
    have h1 := List.all_eq_true.1 hB d (List.mem_range.2 hd)
    cases hr : T[d]? with
    | none => rw [hr] at h1; simp at h1
    | some r =>
      rw [hr] at h1
      simp only [beq_iff_eq] at h1
      have h2 : (upM B d r.1).testBit i = true := by rw [← h1, Nat.testBit_or, hb, Bool.true_or]
      obtain ⟨n, hn, h3⟩ := zry h2
      unfold znn
      rw [hr]
      simp only
      rw [List.any_eq_true]
      refine ⟨n, hn, ?_⟩
      rcases h3 with rfl | ⟨h4, h5⟩
      · simp
      · rw [zoz hB fuel n (by omega) (by omega) h5, Bool.or_true]
def zvn (T : List (List Nat × List Nat)) (B : List Nat) (l : List Bool) (ds : List Nat) (i : Nat) : Bool := ds.all fun d => l.getD d true || (decide (d < T.length) && (B.getD d 0).testBit i)
def zvo (T : Bool × List (List Nat × List Nat)) (B : List Nat) (ds : List Nat) (l l' : List Bool) (i : Nat) : Bool := T.1 && zru T.2 l i && zje T.2 l i && zod T.2 l && zvn T.2 B l ds i && (l.set i true == l')
theorem zd3 {B : List Nat} (hT : rtab md ops = T) (hB : zh7 T.2 B = true) (h : zvo T B ds l.toList l'.toList i = true) : zrr md ops ds l l' i = true := by
  refine zui hT ?_
  simp only [zvo, zuh, Bool.and_eq_true] at h ⊢
  obtain ⟨⟨⟨⟨⟨h1, h2⟩, h3⟩, h4⟩, h5⟩, h6⟩ := h
  refine ⟨⟨⟨⟨⟨h1, h2⟩, h3⟩, h4⟩, ?_⟩, h6⟩
  unfold zvn at h5
  unfold zsv
  rw [List.all_eq_true] at h5 ⊢
  intro d hd
  have h7 := h5 d hd
  rw [Bool.or_eq_true, Bool.and_eq_true, decide_eq_true_eq] at h7
  rcases h7 with h7 | ⟨h8, h9⟩
  · rw [h7, Bool.true_or]
  · rw [zoz hB _ d h8 h8 h9, Bool.or_true]
theorem zgu {P : Program} {Q : Exit → Act → World → Prop} {S : World → Prop} {n : Nat} {a : Act} {w : World} {B : List Nat} (hT : rtab md ops = T) (hB : zh7 T.2 B = true) (h : Aside0 (rtab md ops = T) → Aside0 (zh7 T.2 B = true) → zbz P md ops Q S ds n l a w) : zbz P md ops Q S ds n l a w := h ⟨hT⟩ ⟨hB⟩
end
def zm9 : Code → Nat → Option (Array Oper)
  | .region id ops _, k => if id == k then some ops else none
  | .seq a b, k => match zm9 a k with
    | some o => some o
    | none => zm9 b k
  | .cond _ a b, k => match zm9 a k with
    | some o => some o
    | none => zm9 b k
  | .block _ c, k => zm9 c k
  | .loop c, k => zm9 c k
  | .scope c, k => zm9 c k
  | .rangeFunc _ _ a b, k => match zm9 a k with
    | some o => some o
    | none => zm9 b k
  | _, _ => none
def zqm (f : Func) (k : Nat) : Array Oper := ((f.body.bind fun c => zm9 c k)).getD #[]
end Go.Proofs.YtkfkbmlbpeojaaaW.PrintLast

