/- Proved here: printed words of the kit (Tab), cut down to what the law FnExactPrunedFor leans on. Conditions: as each states. -/
import Derived.Test.YtnaafcleafbejaaGreatZFnExactPrunedForXLast
import Derived.Test.YtnaafcleafbejaaGreatZFnExactPrunedForXWords
namespace Go.Proofs.YtnaafcleafbejaaGreatW.PrintLast
open Go.Proofs.YtnaafcleafbejaaGreatW.PrintWords (Aside0)
def zsz (md : Region.Mode) (o : Oper) : List Nat := (o.after.toList.filter (fun e => Region.binds md e)).map (fun e => e.on)
def zyg (md : Region.Mode) (ops : Array Oper) (i : Nat) (oi : Oper) : List Nat := (List.range ops.size).filter fun j => !(j == i) && match ops[j]? with
  | some oj => !(oj.after.any (fun e => Region.binds md e && e.on == i) || oi.apart ops oj)
  | none => false
def rtab (md : Region.Mode) (ops : Array Oper) : Bool × List (List Nat × List Nat) := (Region.noSelect ops, (List.range ops.size).map fun i => match ops[i]? with
  | some o => (zsz md o, zyg md ops i o)
  | none => ([], []))
def zpw (T : List (List Nat × List Nat)) (l : List Bool) (i : Nat) : Bool := !l.getD i true && match T[i]? with
  | some r => r.1.all (fun j => l.getD j false)
  | none => false
def zvo (T : List (List Nat × List Nat)) (l : List Bool) : List Nat := (List.range T.length).filter (zpw T l)
def ybl (T : List (List Nat × List Nat)) (l : List Bool) (i : Nat) : Bool := match T[i]? with
  | some r => r.2.all (fun j => l.getD j true)
  | none => false
def zwl (T : List (List Nat × List Nat)) (l : List Bool) : Bool := (List.range T.length).all fun j => !l.getD j false || match T[j]? with
  | some r => r.1.all (fun k => l.getD k false)
  | none => true
def zvp (T : List (List Nat × List Nat)) (i : Nat) : Nat → Nat → Bool
  | 0, _ => false
  | fuel + 1, d => match T[d]? with
    | some r => r.1.any fun j => j == i || zvp T i fuel j
    | none => false
def yco (T : List (List Nat × List Nat)) (l : List Bool) (ds : List Nat) (i : Nat) : Bool := ds.all fun d => l.getD d true || zvp T i T.length d
section
variable {md : Region.Mode} {ops : Array Oper} {T : Bool × List (List Nat × List Nat)} {l l' li lj lk : Array Bool} {ds : List Nat} {i j k : Nat}
theorem gd (l : Array Bool) (j : Nat) (b : Bool) : l.getD j b = l.toList.getD j b := by simp [Array.getD_eq_getD_getElem?, List.getD_eq_getElem?_getD]
theorem zxg (o : Oper) (p : Nat → Bool) : o.after.all (fun e => !Region.binds md e || p e.on) = (zsz md o).all p := by
  unfold zsz
  rw [← Array.all_toList]
  induction o.after.toList with
  | nil => rfl
  | cons e r ih =>
    rw [List.all_cons, ih, List.filter_cons]
    cases h : Region.binds md e <;> simp
theorem ybm (o : Oper) (p : Nat → Bool) : o.after.any (fun e => Region.binds md e && p e.on) = (zsz md o).any p := by
  unfold zsz
  rw [← Array.any_toList]
  induction o.after.toList with
  | nil => rfl
  | cons e r ih =>
    rw [List.any_cons, ih, List.filter_cons]
    cases h : Region.binds md e <;> simp
theorem zo6 : (rtab md ops).2.length = ops.size := by simp [rtab]
theorem zrv {o : Oper} (h : ops[i]? = some o) : (rtab md ops).2[i]? = some (zsz md o, zyg md ops i o) := by
  have hi := (Array.getElem?_eq_some_iff.1 h).1
  unfold rtab
  rw [List.getElem?_map, List.getElem?_range hi, Option.map_some, h]
theorem zrw (h : ops[i]? = none) : (rtab md ops).2[i]? = none := by
  have hi : ops.size ≤ i := Array.getElem?_eq_none_iff.1 h
  exact List.getElem?_eq_none (by rw [zo6]; exact hi)
theorem zz1 : zpw (rtab md ops).2 l.toList i = (!l.getD i true && ((ops[i]?).map (·.after.all fun e => !Region.binds md e || l.getD e.on false)).getD false) := by
  unfold zpw
  rw [gd]
  cases h : ops[i]? with
  | none => rw [zrw h]; rfl
  | some o =>
    rw [zrv h]
    simp only [Option.map_some, Option.getD_some]
    rw [← zxg]
    simp only [gd]
theorem ztq : Region.ready md ops l = zvo (rtab md ops).2 l.toList := by
  unfold Region.ready zvo
  rw [zo6]
  refine List.filter_congr (fun i _ => ?_)
  rw [zz1]
theorem ybn : Region.free md ops l i = ybl (rtab md ops).2 l.toList i := by
  unfold Region.free ybl
  cases h : ops[i]? with
  | none => rw [zrw h]
  | some oi =>
    rw [zrv h]
    simp only [zyg]
    rw [List.all_filter]
    congr 1
    funext j
    rw [gd]
    cases hj : ops[j]? with
    | none => cases (j == i) <;> cases (l.toList.getD j true) <;> simp
    | some oj =>
      cases (j == i) <;> cases (l.toList.getD j true) <;> cases (oj.after.any (fun e => Region.binds md e && e.on == i) || oi.apart ops oj) <;> simp_all
theorem ybo : zjn md ops l = zwl (rtab md ops).2 l.toList := by
  unfold zjn zwl
  rw [zo6]
  congr 1
  funext j
  rw [gd]
  cases h : ops[j]? with
  | none => rw [zrw h]
  | some o =>
    rw [zrv h]
    simp only
    rw [← zxg]
    simp only [gd]
theorem zzj : ∀ (fuel d : Nat), zct md ops i fuel d = zvp (rtab md ops).2 i fuel d
  | 0, _ => rfl
  | fuel + 1, d => by
    unfold zct zvp
    cases h : ops[d]? with
    | none => rw [zrw h]
    | some o =>
      rw [zrv h]
      simp only
      rw [← ybm]
      congr 1
      funext e
      rw [zzj fuel]
theorem yem : zn5 md ops l ds i = yco (rtab md ops).2 l.toList ds i := by
  unfold zn5 yco
  rw [zo6]
  congr 1
  funext d
  rw [gd, zzj]
theorem zuj (h : zpw T.2 l.toList i = true) (hT : rtab md ops = T) : (Region.ready md ops l).contains i = true := by
  subst hT
  rw [ztq]
  unfold zvo
  rw [List.contains_iff_mem, List.mem_filter, List.mem_range]
  refine ⟨?_, h⟩
  unfold zpw at h
  rw [Bool.and_eq_true] at h
  cases hq : (rtab md ops).2[i]? with
  | none => rw [hq] at h; simp at h
  | some r => exact (List.getElem?_eq_some_iff.1 hq).1
theorem zxh (h : (l.toList.set i true == l'.toList) = true) : (l.setIfInBounds i true == l') = true := by
  rw [beq_iff_eq] at h ⊢
  apply Array.ext'
  rw [Array.toList_setIfInBounds]
  exact h
def anyT (T : Bool × List (List Nat × List Nat)) (l l' : List Bool) (i : Nat) : Bool := T.1 && ybl T.2 l i && zpw T.2 l i && (l.set i true == l')
theorem yc8 (hT : rtab md ops = T) (h : anyT T l.toList l'.toList i = true) : anyB md ops l l' i = true := by
  simp only [anyT, Bool.and_eq_true] at h
  obtain ⟨⟨⟨h1, h2⟩, h3⟩, h4⟩ := h
  have h5 := zuj h3 hT
  have h6 := zxh h4
  subst hT
  simp only [anyB, Bool.and_eq_true]
  exact ⟨⟨⟨h1, by rw [ybn]; exact h2⟩, h5⟩, h6⟩
def yen (T : Bool × List (List Nat × List Nat)) (ds : List Nat) (l l' : List Bool) (i : Nat) : Bool := T.1 && ybl T.2 l i && zpw T.2 l i && zwl T.2 l && yco T.2 l ds i && (l.set i true == l')
theorem yeo (hT : rtab md ops = T) (h : yen T ds l.toList l'.toList i = true) : zzy md ops ds l l' i = true := by
  simp only [yen, Bool.and_eq_true] at h
  obtain ⟨⟨⟨⟨⟨h1, h2⟩, h3⟩, h4⟩, h5⟩, h6⟩ := h
  have h7 := zuj h3 hT
  have h8 := zxh h6
  subst hT
  simp only [zzy, Bool.and_eq_true]
  exact ⟨⟨⟨⟨⟨h1, by rw [ybn]; exact h2⟩, h7⟩, by rw [ybo]; exact h4⟩, by rw [yem]; exact h5⟩, h8⟩
theorem zfu (hT : rtab md ops = T) (h : (zvo T.2 l.toList == [i] && l.toList.set i true == l'.toList) = true) : zvk md ops l l' i = true := by
  simp only [Bool.and_eq_true] at h
  obtain ⟨h1, h2⟩ := h
  subst hT
  simp only [zvk, Bool.and_eq_true]
  exact ⟨by rw [ztq]; exact h1, zxh h2⟩
theorem yfw (hT : rtab md ops = T) (h : (zvo T.2 l.toList == [i, j] && l.toList.set i true == li.toList && l.toList.set j true == lj.toList) = true) : (Region.ready md ops l == [i, j] && l.setIfInBounds i true == li && l.setIfInBounds j true == lj) = true := by
  simp only [Bool.and_eq_true] at h ⊢
  obtain ⟨⟨h1, h2⟩, h3⟩ := h
  subst hT
  exact ⟨⟨by rw [ztq]; exact h1, zxh h2⟩, zxh h3⟩
theorem zi9 (hT : rtab md ops = T) (h : (zvo T.2 l.toList == []) = true) : (Region.ready md ops l == []) = true := by
  subst hT
  rw [ztq]
  exact h
def upM (B : List Nat) (d : Nat) : List Nat → Nat
  | [] => 0
  | n :: r => (2 ^ n ||| (if n < d then B.getD n 0 else 0)) ||| upM B d r
def zij (T : List (List Nat × List Nat)) (B : List Nat) : Bool := (List.range T.length).all fun d => match T[d]? with
  | some r => (B.getD d 0 ||| upM B d r.1) == upM B d r.1
  | none => false
theorem ybp {B : List Nat} {d i : Nat} : ∀ {ns : List Nat}, (upM B d ns).testBit i = true → ∃ n ∈ ns, n = i ∨ (n < d ∧ (B.getD n 0).testBit i = true)
  | [], h => by simp [upM] at h
  | n :: r, h => by
    unfold upM at h
    rw [Nat.testBit_or, Nat.testBit_or, Bool.or_eq_true, Bool.or_eq_true] at h
    rcases h with (h | h) | h
    · rw [Nat.testBit_two_pow] at h
      exact ⟨n, List.mem_cons_self, .inl (by simpa using h)⟩
    · by_cases hn : n < d
      · rw [if_pos hn] at h
        exact ⟨n, List.mem_cons_self, .inr ⟨hn, h⟩⟩
      · rw [if_neg hn] at h
        simp at h
    · obtain ⟨m, hm, h2⟩ := ybp h
      exact ⟨m, List.mem_cons_of_mem _ hm, h2⟩
theorem zxi {T : List (List Nat × List Nat)} {B : List Nat} (hB : zij T B = true) : ∀ (fuel d : Nat), d < fuel → d < T.length → (B.getD d 0).testBit i = true → zvp T i fuel d = true
  | 0, d, h, _, _ => by omega
  | fuel + 1, d, h, hd, hb => by
    have h1 := List.all_eq_true.1 hB d (List.mem_range.2 hd)
    cases hr : T[d]? with
    | none => rw [hr] at h1; simp at h1
    | some r =>
      rw [hr] at h1
      simp only [beq_iff_eq] at h1
      have h2 : (upM B d r.1).testBit i = true := by rw [← h1, Nat.testBit_or, hb, Bool.true_or]
      obtain ⟨n, hn, h3⟩ := ybp h2
      unfold zvp
      rw [hr]
      simp only
      rw [List.any_eq_true]
      refine ⟨n, hn, ?_⟩
      rcases h3 with rfl | ⟨h4, h5⟩
      · simp
      · rw [zxi hB fuel n (by omega) (by omega) h5, Bool.or_true]
def yfx (T : List (List Nat × List Nat)) (B : List Nat) (l : List Bool) (ds : List Nat) (i : Nat) : Bool := ds.all fun d => l.getD d true || (decide (d < T.length) && (B.getD d 0).testBit i)
def yep (T : Bool × List (List Nat × List Nat)) (B : List Nat) (ds : List Nat) (l l' : List Bool) (i : Nat) : Bool := T.1 && ybl T.2 l i && zpw T.2 l i && zwl T.2 l && yfx T.2 B l ds i && (l.set i true == l')
theorem zwm {B : List Nat} (hT : rtab md ops = T) (hB : zij T.2 B = true) (h : yep T B ds l.toList l'.toList i = true) : zzy md ops ds l l' i = true := by
  refine yeo hT ?_
  simp only [yep, yen, Bool.and_eq_true] at h ⊢
  obtain ⟨⟨⟨⟨⟨h1, h2⟩, h3⟩, h4⟩, h5⟩, h6⟩ := h
  refine ⟨⟨⟨⟨⟨h1, h2⟩, h3⟩, h4⟩, ?_⟩, h6⟩
  unfold yfx at h5
  unfold yco
  rw [List.all_eq_true] at h5 ⊢
  intro d hd
  have h7 := h5 d hd
  rw [Bool.or_eq_true, Bool.and_eq_true, decide_eq_true_eq] at h7
  rcases h7 with h7 | ⟨h8, h9⟩
  · rw [h7, Bool.true_or]
  · rw [zxi hB _ d h8 h8 h9, Bool.or_true]
theorem zgh {P : Program} {Q : Exit → Act → World → Prop} {S : World → Prop} {n : Nat} {a : Act} {w : World} {B : List Nat} (hT : rtab md ops = T) (hB : zij T.2 B = true) (h : Aside0 (rtab md ops = T) → Aside0 (zij T.2 B = true) → zat P md ops Q S ds n l a w) : zat P md ops Q S ds n l a w := h ⟨hT⟩ ⟨hB⟩
end
def zu4 : Code → Nat → Option (Array Oper)
  | .region id ops _, k => if id == k then some ops else none
  | .seq a b, k => match zu4 a k with
    | some o => some o
    | none => zu4 b k
  | .cond _ a b, k => match zu4 a k with
    | some o => some o
    | none => zu4 b k
  | .block _ c, k => zu4 c k
  | .loop c, k => zu4 c k
  | .scope c, k => zu4 c k
  | .rangeFunc _ _ a b, k => match zu4 a k with
    | some o => some o
    | none => zu4 b k
  | _, _ => none
def zrx (f : Func) (k : Nat) : Array Oper := ((f.body.bind fun c => zu4 c k)).getD #[]
end Go.Proofs.YtnaafcleafbejaaGreatW.PrintLast

