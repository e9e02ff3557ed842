/- Proved here: contracts of functions that the law FnExactShortestFor reaches, and lemmas on what they compute; texts of this session and the printed words of the kit that they lean on, cut down and put together by its program link.py. Conditions: as each states. -/
import Derived.Test.YtnaafcleafbejaaGreatZFnExactShortestFor1
import Derived.Test.YtnaafcleafbejaaGreatZFnExactShortestFor2
import Derived.Test.YtnaafcleafbejaaGreatZFnExactShortestFor3
import Derived.Test.YtnaafcleafbejaaGreatZFnExactShortestFor4
import Derived.Test.YtnaafcleafbejaaGreatZFnExactShortestFor5
section
namespace Go.Proofs.YtnaafcleafbejaaGreat.PL
open Go Go.RowKit Go.Proofs.YtnaafcleafbejaaGreatW.PrintWords Go.Proofs.YtnaafcleafbejaaGreatW.PrintLast Go.Proofs.YtnaafcleafbejaaGreatW.PrintMore Go.Proofs.YtnaafcleafbejaaGreat.Q
set_option linter.unusedSimpArgs false
set_option linter.unusedVariables false
theorem zt0 (l : List Instr) (hl : l.length ≤ 1048576) : Ev (fun k => zap k (zoh l.length 1) (((1 : Nat) : Int) + 5 * l.length) false) true := by
  refine Ev.step (fun k => by simp only [zap]; rfl) (zaw (by decide) ?_)
  refine Ev.bind (zqk l.length 1 hl (by decide)) ?_
  refine zaw (by omega) ?_
  exact zad rfl (Ev.now _)
theorem zt1 (e : List zzc) (be : e.length ≤ 1048576) (os : List ByteArray) (ims : List Int) (n : Int) (b0 : os.length ≤ 1048576) (b1 : ims.length ≤ 1048576) (l : List Instr) (b : Bool) (hl : l.length ≤ 1048576) (q : zqr (e.map cvN) os ims n = (l, b)) : Ev (fun k => zan k e n l b l false os ims) true := by
  refine Ev.step (fun k => by simp only [zan]; rfl) (zaw (by decide) ?_)
  refine Ev.bind (zu1 l 1 hl (by decide)) ?_
  refine Ev.bind (zqk l.length 1 hl (by decide)) ?_
  refine zaw (by omega) ?_
  refine zad rfl ?_
  refine Ev.bind (zr0 e be) ?_
  refine Ev.bind (zpt os ims b0 b1) ?_
  refine Ev.bind (zr9 (e.map cvN) os ims n b0 b1) ?_
  rw [q]
  refine Ev.bind (zn2 l hl) ?_
  refine zad rfl ?_
  rw [show (b != b) = false by simp]
  exact zt0 l hl
theorem zt2 (e : List zzc) (be : e.length ≤ 1048576) (os : List ByteArray) (ims : List Int) (n : Int) (b0 : os.length ≤ 1048576) (b1 : ims.length ≤ 1048576) (l : List Instr) (b : Bool) (hl : l.length ≤ 1048576) (q : zqr (e.map cvN) os ims n = (l, b)) : Ev (fun k => zaj k e n l b (e.map cvN) l b false os ims os ims) true := by
  have bme : (e.map cvN).length ≤ 1048576 := by simpa using be
  refine Ev.step (fun k => by simp only [zaj]; rfl) (zaw (by decide) ?_)
  refine Ev.bind (zr0 e be) ?_
  refine Ev.bind (zvv _ bme) ?_
  refine zad rfl ?_
  refine Ev.bind (zpt os ims b0 b1) ?_
  refine Ev.bind (zu0 os ims b0 b1) ?_
  refine zad rfl ?_
  refine Ev.bind (ybi _ 1 bme (by decide)) ?_
  obtain ⟨r, hr, hr0⟩ := zvh os ims (1 + 4 * (e.map cvN).length) b0 b1 (by omega)
  refine Ev.bind hr ?_
  refine zaw (by omega) ?_
  refine Ev.bind (zn2 l hl) ?_
  refine zad rfl ?_
  rw [show (b != b) = false by simp]
  exact zt1 e be os ims n b0 b1 l b hl q
end Go.Proofs.YtnaafcleafbejaaGreat.PL
namespace Go.Proofs.YtnaafcleafbejaaGreat.Pure
open Go Go.RowKit Go.Proofs.YtnaafcleafbejaaGreatW.PrintWords Go.Proofs.YtnaafcleafbejaaGreatW.PrintLast Go.Proofs.YtnaafcleafbejaaGreatW.PrintMore Go.Proofs.YtnaafcleafbejaaGreat.Q Go.Proofs.YtnaafcleafbejaaGreat.PL
set_option linter.unusedSimpArgs false
set_option linter.unusedVariables false
theorem FnExactShortestFor : laws_FnExactShortestFor.Pure := by
  rintro e ⟨os, ims⟩ n h0 h1 h2
  show ∃ k, zct k e os ims n = some true
  refine yam (g := fun k => zct k e os ims n) ?_
  unfold zct
  obtain ⟨r, hr, hr'⟩ := zyg e 1048576 h0 (by decide) (by decide)
  refine Ev.bind hr ?_
  by_cases hn : r < 0
  · exact zad hn (Ev.now _)
  have be : e.length ≤ 1048576 := by have := (hr' (by omega)).1; omega
  have br := (hr' (by omega)).2.2
  refine zaw hn ?_
  obtain ⟨r1, hr1, hr1'⟩ := zwq os ims r h1.1 h1.2.1 (by omega) (by omega)
  refine Ev.bind hr1 ?_
  by_cases hn1 : r1 < 0
  · exact zad hn1 (Ev.now _)
  obtain ⟨q1, q2, q3⟩ := hr1' (by omega)
  have b0 : os.length ≤ 1048576 := by omega
  have b1 : ims.length ≤ 1048576 := by omega
  have tn := zr0 e be
  have tc := zpt os ims b0 b1
  obtain ⟨l, b, q⟩ : ∃ l b, zqr (e.map cvN) os ims n = (l, b) := ⟨_, _, rfl⟩
  have hl : l.length ≤ 1048576 := by
    have := zyo (e.map cvN) os ims n
    rw [q] at this
    exact Nat.le_trans this (by decide)
  have sp := zv6 (e.map cvN) os ims n b0 b1
  have im := zr9 (e.map cvN) os ims n b0 b1
  rw [q] at sp im
  refine zaw hn1 (Ev.bind tn (Ev.bind tc (Ev.bind sp (Ev.bind tn (Ev.bind tc (Ev.bind im ?_))))))
  refine Ev.bind (zn2 l hl) ?_
  refine zad rfl ?_
  rw [show ((l, b).2 != (l, b).2) = false by simp]
  exact zt2 e be os ims n b0 b1 l b hl q
end Go.Proofs.YtnaafcleafbejaaGreat.Pure
end
