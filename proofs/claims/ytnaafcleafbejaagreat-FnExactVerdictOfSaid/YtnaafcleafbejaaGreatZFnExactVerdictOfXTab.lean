/- Proved here: printed words of the kit (Tab), cut down to what the law FnExactVerdictOf leans on. Conditions: as each states. -/
import Derived.Test.YtnaafcleafbejaaGreatZFnExactVerdictOfXLast
import Derived.Test.YtnaafcleafbejaaGreatZFnExactVerdictOfXWords
namespace Go.Proofs.YtnaafcleafbejaaGreatW.PrintLast
open Go.Proofs.YtnaafcleafbejaaGreatW.PrintWords (Aside0)
def zqy (md : Region.Mode) (o : Oper) : List Nat := (o.after.toList.filter (fun e => Region.binds md e)).map (fun e => e.on)
def zwd (md : Region.Mode) (ops : Array Oper) (i : Nat) (oi : Oper) : List Nat := (List.range ops.size).filter fun j => !(j == i) && match ops[j]? with
  | some oj => !(oj.after.any (fun e => Region.binds md e && e.on == i) || oi.apart ops oj)
  | none => false
def rtab (md : Region.Mode) (ops : Array Oper) : Bool × List (List Nat × List Nat) := (Region.noSelect ops, (List.range ops.size).map fun i => match ops[i]? with
  | some o => (zqy md o, zwd md ops i o)
  | none => ([], []))
def znv (T : List (List Nat × List Nat)) (l : List Bool) (i : Nat) : Bool := !l.getD i true && match T[i]? with
  | some r => r.1.all (fun j => l.getD j false)
  | none => false
def ztq (T : List (List Nat × List Nat)) (l : List Bool) : List Nat := (List.range T.length).filter (znv T l)
def zzf (T : List (List Nat × List Nat)) (l : List Bool) (i : Nat) : Bool := match T[i]? with
  | some r => r.2.all (fun j => l.getD j true)
  | none => false
def zun (T : List (List Nat × List Nat)) (l : List Bool) : Bool := (List.range T.length).all fun j => !l.getD j false || match T[j]? with
  | some r => r.1.all (fun k => l.getD k false)
  | none => true
def ztr (T : List (List Nat × List Nat)) (i : Nat) : Nat → Nat → Bool
  | 0, _ => false
  | fuel + 1, d => match T[d]? with
    | some r => r.1.any fun j => j == i || ztr T i fuel j
    | none => false
def yan (T : List (List Nat × List Nat)) (l : List Bool) (ds : List Nat) (i : Nat) : Bool := ds.all fun d => l.getD d true || ztr T i T.length d
section
variable {md : Region.Mode} {ops : Array Oper} {T : Bool × List (List Nat × List Nat)} {l l' li lj lk : Array Bool} {ds : List Nat} {i j k : Nat}
theorem gd (l : Array Bool) (j : Nat) (b : Bool) : l.getD j b = l.toList.getD j b := by simp [Array.getD_eq_getD_getElem?, List.getD_eq_getElem?_getD]
theorem zvg (o : Oper) (p : Nat → Bool) : o.after.all (fun e => !Region.binds md e || p e.on) = (zqy md o).all p := by
  unfold zqy
  rw [← Array.all_toList]
  induction o.after.toList with
  | nil => rfl
  | cons e r ih =>
    rw [List.all_cons, ih, List.filter_cons]
    cases h : Region.binds md e <;> simp
theorem zzg (o : Oper) (p : Nat → Bool) : o.after.any (fun e => Region.binds md e && p e.on) = (zqy md o).any p := by
  unfold zqy
  rw [← Array.any_toList]
  induction o.after.toList with
  | nil => rfl
  | cons e r ih =>
    rw [List.any_cons, ih, List.filter_cons]
    cases h : Region.binds md e <;> simp
theorem zmm : (rtab md ops).2.length = ops.size := by simp [rtab]
theorem zp8 {o : Oper} (h : ops[i]? = some o) : (rtab md ops).2[i]? = some (zqy md o, zwd md ops i o) := by
  have hi := (Array.getElem?_eq_some_iff.1 h).1
  unfold rtab
  rw [List.getElem?_map, List.getElem?_range hi, Option.map_some, h]
theorem zp9 (h : ops[i]? = none) : (rtab md ops).2[i]? = none := by
  have hi : ops.size ≤ i := Array.getElem?_eq_none_iff.1 h
  exact List.getElem?_eq_none (by rw [zmm]; exact hi)
theorem zxp : znv (rtab md ops).2 l.toList i = (!l.getD i true && ((ops[i]?).map (·.after.all fun e => !Region.binds md e || l.getD e.on false)).getD false) := by
  unfold znv
  rw [gd]
  cases h : ops[i]? with
  | none => rw [zp9 h]; rfl
  | some o =>
    rw [zp8 h]
    simp only [Option.map_some, Option.getD_some]
    rw [← zvg]
    simp only [gd]
theorem zrv : Region.ready md ops l = ztq (rtab md ops).2 l.toList := by
  unfold Region.ready ztq
  rw [zmm]
  refine List.filter_congr (fun i _ => ?_)
  rw [zxp]
theorem zzh : Region.free md ops l i = zzf (rtab md ops).2 l.toList i := by
  unfold Region.free zzf
  cases h : ops[i]? with
  | none => rw [zp9 h]
  | some oi =>
    rw [zp8 h]
    simp only [zwd]
    rw [List.all_filter]
    congr 1
    funext j
    rw [gd]
    cases hj : ops[j]? with
    | none => cases (j == i) <;> cases (l.toList.getD j true) <;> simp
    | some oj =>
      cases (j == i) <;> cases (l.toList.getD j true) <;> cases (oj.after.any (fun e => Region.binds md e && e.on == i) || oi.apart ops oj) <;> simp_all
theorem zzi : zh9 md ops l = zun (rtab md ops).2 l.toList := by
  unfold zh9 zun
  rw [zmm]
  congr 1
  funext j
  rw [gd]
  cases h : ops[j]? with
  | none => rw [zp9 h]
  | some o =>
    rw [zp8 h]
    simp only
    rw [← zvg]
    simp only [gd]
theorem zxd : ∀ (fuel d : Nat), zcd md ops i fuel d = ztr (rtab md ops).2 i fuel d
  | 0, _ => rfl
  | fuel + 1, d => by
    unfold zcd ztr
    cases h : ops[d]? with
    | none => rw [zp9 h]
    | some o =>
      rw [zp8 h]
      simp only
      rw [← zzg]
      congr 1
      funext e
      rw [zxd fuel]
theorem ycl : zlo md ops l ds i = yan (rtab md ops).2 l.toList ds i := by
  unfold zlo yan
  rw [zmm]
  congr 1
  funext d
  rw [gd, zxd]
theorem zso (h : znv T.2 l.toList i = true) (hT : rtab md ops = T) : (Region.ready md ops l).contains i = true := by
  subst hT
  rw [zrv]
  unfold ztq
  rw [List.contains_iff_mem, List.mem_filter, List.mem_range]
  refine ⟨?_, h⟩
  unfold znv at h
  rw [Bool.and_eq_true] at h
  cases hq : (rtab md ops).2[i]? with
  | none => rw [hq] at h; simp at h
  | some r => exact (List.getElem?_eq_some_iff.1 hq).1
theorem zvh (h : (l.toList.set i true == l'.toList) = true) : (l.setIfInBounds i true == l') = true := by
  rw [beq_iff_eq] at h ⊢
  apply Array.ext'
  rw [Array.toList_setIfInBounds]
  exact h
def anyT (T : Bool × List (List Nat × List Nat)) (l l' : List Bool) (i : Nat) : Bool := T.1 && zzf T.2 l i && znv T.2 l i && (l.set i true == l')
theorem ybf (hT : rtab md ops = T) (h : anyT T l.toList l'.toList i = true) : anyB md ops l l' i = true := by
  simp only [anyT, Bool.and_eq_true] at h
  obtain ⟨⟨⟨h1, h2⟩, h3⟩, h4⟩ := h
  have h5 := zso h3 hT
  have h6 := zvh h4
  subst hT
  simp only [anyB, Bool.and_eq_true]
  exact ⟨⟨⟨h1, by rw [zzh]; exact h2⟩, h5⟩, h6⟩
def ycm (T : Bool × List (List Nat × List Nat)) (ds : List Nat) (l l' : List Bool) (i : Nat) : Bool := T.1 && zzf T.2 l i && znv T.2 l i && zun T.2 l && yan T.2 l ds i && (l.set i true == l')
theorem ycn (hT : rtab md ops = T) (h : ycm T ds l.toList l'.toList i = true) : zzd md ops ds l l' i = true := by
  simp only [ycm, Bool.and_eq_true] at h
  obtain ⟨⟨⟨⟨⟨h1, h2⟩, h3⟩, h4⟩, h5⟩, h6⟩ := h
  have h7 := zso h3 hT
  have h8 := zvh h6
  subst hT
  simp only [zzd, Bool.and_eq_true]
  exact ⟨⟨⟨⟨⟨h1, by rw [zzh]; exact h2⟩, h7⟩, by rw [zzi]; exact h4⟩, by rw [ycl]; exact h5⟩, h8⟩
theorem zoj (hT : rtab md ops = T) (h : (ztq T.2 l.toList == [i] && l.toList.set i true == l'.toList) = true) : ztn md ops l l' i = true := by
  simp only [Bool.and_eq_true] at h
  obtain ⟨h1, h2⟩ := h
  subst hT
  simp only [ztn, Bool.and_eq_true]
  exact ⟨by rw [zrv]; exact h1, zvh h2⟩
theorem yec (hT : rtab md ops = T) (h : (ztq T.2 l.toList == [i, j] && l.toList.set i true == li.toList && l.toList.set j true == lj.toList) = true) : (Region.ready md ops l == [i, j] && l.setIfInBounds i true == li && l.setIfInBounds j true == lj) = true := by
  simp only [Bool.and_eq_true] at h ⊢
  obtain ⟨⟨h1, h2⟩, h3⟩ := h
  subst hT
  exact ⟨⟨by rw [zrv]; exact h1, zvh h2⟩, zvh h3⟩
theorem zo1 (hT : rtab md ops = T) (h : (ztq T.2 l.toList == []) = true) : (Region.ready md ops l == []) = true := by
  subst hT
  rw [zrv]
  exact h
def upM (B : List Nat) (d : Nat) : List Nat → Nat
  | [] => 0
  | n :: r => (2 ^ n ||| (if n < d then B.getD n 0 else 0)) ||| upM B d r
def zjx (T : List (List Nat × List Nat)) (B : List Nat) : Bool := (List.range T.length).all fun d => match T[d]? with
  | some r => (B.getD d 0 ||| upM B d r.1) == upM B d r.1
  | none => false
theorem zzj {B : List Nat} {d i : Nat} : ∀ {ns : List Nat}, (upM B d ns).testBit i = true → ∃ n ∈ ns, n = i ∨ (n < d ∧ (B.getD n 0).testBit i = true)
  | [], h => by simp [upM] at h
  | n :: r, h => by
    unfold upM at h
    rw [Nat.testBit_or, Nat.testBit_or, Bool.or_eq_true, Bool.or_eq_true] at h
    rcases h with (h | h) | h
    · rw [Nat.testBit_two_pow] at h
      exact ⟨n, List.mem_cons_self, .inl (by simpa using h)⟩
    · by_cases hn : n < d
      · rw [if_pos hn] at h
        exact ⟨n, List.mem_cons_self, .inr ⟨hn, h⟩⟩
      · rw [if_neg hn] at h
        simp at h
    · obtain ⟨m, hm, h2⟩ := zzj h
      exact ⟨m, List.mem_cons_of_mem _ hm, h2⟩
theorem zvi {T : List (List Nat × List Nat)} {B : List Nat} (hB : zjx T B = true) : ∀ (fuel d : Nat), d < fuel → d < T.length → (B.getD d 0).testBit i = true → ztr T i fuel d = true
  | 0, d, h, _, _ => by omega
  | fuel + 1, d, h, hd, hb => by
    have h1 := List.all_eq_true.1 hB d (List.mem_range.2 hd)
    cases hr : T[d]? with
    | none => rw [hr] at h1; simp at h1
    | some r =>
      rw [hr] at h1
      simp only [beq_iff_eq] at h1
      have h2 : (upM B d r.1).testBit i = true := by rw [← h1, Nat.testBit_or, hb, Bool.true_or]
      obtain ⟨n, hn, h3⟩ := zzj h2
      unfold ztr
      rw [hr]
      simp only
      rw [List.any_eq_true]
      refine ⟨n, hn, ?_⟩
      rcases h3 with rfl | ⟨h4, h5⟩
      · simp
      · rw [zvi hB fuel n (by omega) (by omega) h5, Bool.or_true]
def yed (T : List (List Nat × List Nat)) (B : List Nat) (l : List Bool) (ds : List Nat) (i : Nat) : Bool := ds.all fun d => l.getD d true || (decide (d < T.length) && (B.getD d 0).testBit i)
def yco (T : Bool × List (List Nat × List Nat)) (B : List Nat) (ds : List Nat) (l l' : List Bool) (i : Nat) : Bool := T.1 && zzf T.2 l i && znv T.2 l i && zun T.2 l && yed T.2 B l ds i && (l.set i true == l')
theorem yao {B : List Nat} (hT : rtab md ops = T) (hB : zjx T.2 B = true) (h : yco T B ds l.toList l'.toList i = true) : zzd md ops ds l l' i = true := by
  refine ycn hT ?_
  simp only [yco, ycm, Bool.and_eq_true] at h ⊢
  obtain ⟨⟨⟨⟨⟨h1, h2⟩, h3⟩, h4⟩, h5⟩, h6⟩ := h
  refine ⟨⟨⟨⟨⟨h1, h2⟩, h3⟩, h4⟩, ?_⟩, h6⟩
  unfold yed at h5
  unfold yan
  rw [List.all_eq_true] at h5 ⊢
  intro d hd
  have h7 := h5 d hd
  rw [Bool.or_eq_true, Bool.and_eq_true, decide_eq_true_eq] at h7
  rcases h7 with h7 | ⟨h8, h9⟩
  · rw [h7, Bool.true_or]
  · rw [zvi hB _ d h8 h8 h9, Bool.or_true]
theorem zk0 {P : Program} {Q : Exit → Act → World → Prop} {S : World → Prop} {n : Nat} {a : Act} {w : World} {B : List Nat} (hT : rtab md ops = T) (hB : zjx T.2 B = true) (h : Aside0 (rtab md ops = T) → Aside0 (zjx T.2 B = true) → za6 P md ops Q S ds n l a w) : za6 P md ops Q S ds n l a w := h ⟨hT⟩ ⟨hB⟩
end
def zs6 : Code → Nat → Option (Array Oper)
  | .region id ops _, k => if id == k then some ops else none
  | .seq a b, k => match zs6 a k with
    | some o => some o
    | none => zs6 b k
  | .cond _ a b, k => match zs6 a k with
    | some o => some o
    | none => zs6 b k
  | .block _ c, k => zs6 c k
  | .loop c, k => zs6 c k
  | .scope c, k => zs6 c k
  | .rangeFunc _ _ a b, k => match zs6 a k with
    | some o => some o
    | none => zs6 b k
  | _, _ => none
def zwe (f : Func) (k : Nat) : Array Oper := ((f.body.bind fun c => zs6 c k)).getD #[]
end Go.Proofs.YtnaafcleafbejaaGreatW.PrintLast

