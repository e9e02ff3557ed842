/- Proved here: contracts of functions that the law FnExactVerdictOf reaches, and lemmas on what they compute; texts of this session and the printed words of the kit that they lean on, cut down and put together by its program link.py. Conditions: as each states. -/
import Derived.Deep.CutRange
import Derived.Deep.DeepMust
import Derived.Laws.EntriesVeiled
import Derived.Test.YtnaafcleafbejaaGreatZFnExactVerdictOf1
import Derived.Test.YtnaafcleafbejaaGreatZFnExactVerdictOf2
section
namespace Go.Proofs.YtnaafcleafbejaaGreat.Q
open Go.RowKit Go.Proofs.YtnaafcleafbejaaGreatW.PrintWords Go.Proofs.YtnaafcleafbejaaGreatW.PrintLast Go.Proofs.YtnaafcleafbejaaGreatW.PrintMore
set_option maxHeartbeats 8000000
set_option maxRecDepth 100000
attribute [local go_sem] zf1 zf2 zhf zhg zeu zev zf3 zf6
set_option linter.unusedVariables false
set_option linter.unusedSimpArgs false
structure SyX (w0 : World) (gb r cr m : Nat) (s : List S62 × List Int) (vo : Value) (W : World) : Prop where
 below : Below w0.heap.size w0 W
 bb : W.heap[gb]? = some (.cells #[vo] 32 (0, 0))
 lo : w0.heap.size ≤ gb
 out : Kd.R k62 62 W w0.heap.size (fun k => k ≠ gb ∧ k ≠ r) vo s.1
 rne : r ≠ gb
 nam : Kd.R (Kd.int .i64) 3 W w0.heap.size (fun k => k = r) (.slice (some ⟨r, 0, none⟩) m cr) s.2
section
variable {w0 : World} {gb r cr m : Nat} {s : List S62 × List Int} {vo v : Value} {W W1 : World}
theorem SyX.step (h : SyX w0 gb r cr m s vo W) (hb : Below W.heap.size W W1) : SyX w0 gb r cr m s vo W1 :=
 ⟨zab h.below hb, zah h.bb hb, h.lo, zRb h.out hb, h.rne, zRb h.nam hb⟩
theorem SyX.setn (h : SyX w0 gb r cr m s vo W) (i x : Int) : SyX w0 gb r cr m (s.1, s.2.set i.toNat x) vo (W.setCell ⟨r, i.toNat, none⟩ (.int .i64 x)) :=
 ⟨h.below.setCell (p := ⟨r, i.toNat, none⟩) (Kd.R_base h.nam r rfl) _, zaz h.bb (fun e => h.rne zq59) _, h.lo, Kd.R_far h.out (p := ⟨r, i.toNat, none⟩) (fun k hk => hk.2) _, h.rne, Kd.R_putn h.nam i x⟩
theorem SyX.append (h : SyX w0 gb r cr m s vo W) {vo' : Value} {ys : List S62} (hR : Kd.R k62 62 W1 w0.heap.size (fun k => k ≠ gb ∧ k ≠ r) vo' ys) (hb : Below w0.heap.size w0 W1) (hg : W.grownBy W1 vo.ownBlock) : SyX w0 gb r cr m (ys, s.2) vo' (W1.setCell ⟨gb, 0, none⟩ vo') := by
 have bb : W1.heap[gb]? = _ := (hg.block gb (zb2 h.bb) (fun e => (h.out.1 gb e.symm).1 rfl)).trans h.bb
 exact ⟨hb.setCell (p := ⟨gb, 0, none⟩) h.lo _, by simpa using zam bb 0 vo', h.lo, Kd.R_far hR (p := ⟨gb, 0, none⟩) (fun k hk => hk.1) _, h.rne, Kd.R_far (Kd.R_grown h.nam hg (fun k hk e => (h.out.1 k e.symm).2 hk)) (p := ⟨gb, 0, none⟩) (fun k hk => by rw [hk]; exact h.rne) _⟩
end
theorem zoq {w0 : World} {gb r cr m : Nat} (s : List S62 × List Int) (vo : Value) (W : World) (hX : SyX w0 gb r cr m s vo W) (n0 : ByteArray) (n1 n2 n3 : Int) (hl : s.1.length < 1048576) :
   Calls Tryz.prog 178 #[.agg #[.string n0, .int .i64 n1, .int .i64 n2, .int .i64 n3], .pointer (some ⟨gb, 0, none⟩)] W fun x W' => ∃ vo', x = .returned (.int .i64 s.1.length) ∧ SyX w0 gb r cr m (s.1 ++ [(⟨n0, n1, n2, n3⟩ : S62)], s.2) vo' W' ∧ ShFr gb r vo W vo' W' := by
 obtain ⟨Ao, co, rfl⟩ := Kd.R_slice hX.out
 have q0 := zad hX.bb 0
 have HX := zA hX
 clear hX
 go_enter Tryz.func178, Tryz.ntmps178
 go_wp2_with (first
   | ((with_reducible refine zee (N := 2) rfl ?_); refine zg4 ?hg (N := 2) ?hd (cs := #[.string n0, .int .i64 n1, .int .i64 n2, .int .i64 n3]) (t := 62) ?hr ?_; (case hd => rfl); (case hg => rfl); (case hr => go_simp <;> rfl); intro g hg w4 hbox hb; have HX4 := zA (HX.out.step hb); have HG := zA hbox; have HGE := zA (Nat.le_of_eq hg.symm); have HB4 := zA hb; have q0 := zad HX4.out.bb 0; have y0 := zad hbox 0; have y1 := zad hbox 1; have y2 := zad hbox 2; have y3 := zad hbox 3; clear hg hbox hb)
   | ((with_reducible refine zfe (b := .append) (xs := #[.tmp 4, .tmp 6]) rfl ?_); at_builtin; refine Kd.R_append k62 (w0 := w0) w0.heap.size rfl (.tmp 4) (.tmp 6) 32 62 (.agg #[(.string ⟨#[]⟩), (.int .i64 0), (.int .i64 0), (.int .i64 0)]) 40 rfl Tryz.underlying32 zq0 rfl (by decide) (by omega) (.slice Ao s.1.length co) s.1 (⟨n0, n1, n2, n3⟩ : S62) [.string n0, .int .i64 n1, .int .i64 n2, .int .i64 n3] (fun k => k ≠ gb ∧ k ≠ r) (fun _ => False) rfl ?aX (zhd _ _ _ (⟨n0, n1, n2, n3⟩ : S62)) (fun _ hk => hk.elim) ?aF ?aO ?aB ?aS ?aL ?_; (case aX => rfl); (case aO => exact HX4.out.out); (case aB => exact HX4.out.below); (case aS => exact HX4.out.below.size); (case aF => (have a1 := zb2 HX4.out.bb; have a2 := Kd.R_lt HX4.out.nam r rfl; exact fun k hk => ⟨by omega, by omega⟩)); (case aL => omega); intro v1 w10 ho hb hg hat; obtain ⟨A1, c1', e1⟩ := Kd.R_slice ho; rw [List.length_append, List.length_singleton] at e1; subst e1; have t1 : w10.heap[gb]? = _ := (hg.block gb (zb2 HX4.out.bb) (fun e => (HX4.out.out.1 gb e.symm).1 rfl)).trans HX4.out.bb; have HX5 := zA (HX4.out.append ho hb hg); have HF5 := zA (((ShFr.refl gb r (.slice Ao s.1.length co) W).step HB4.out).append hg hat); have t2 := zad t1 0; have t3 := za1 t1 0; have t4 := zad HX5.out.bb 0; clear t1 ho hb hg hat))
 go_ret
 exact ⟨_, rfl, HX5.out, HF5.out⟩
theorem SyX.grow {w0 : World} {gb r cr m : Nat} {s : List S62 × List Int} {vo : Value} {W W1 : World} (h : SyX w0 gb r cr m s vo W) {v1 : Value} {ys : List Int} (hR : Kd.R (Kd.int .i64) 3 W1 w0.heap.size (fun k => k = r ∨ W.heap.size ≤ k) v1 ys) (hn : 0 < ys.length) (hb : Below w0.heap.size w0 W1) (hg : W.grownBy W1 (some r)) :
   ∃ r' cr', v1 = .slice (some ⟨r', 0, none⟩) ys.length cr' ∧ SyX w0 gb r' cr' ys.length (s.1, ys) vo W1 := by
 obtain ⟨r', cr', e, _⟩ := Kd.R_form hR hn
 have hr : r' = r ∨ W.heap.size ≤ r' := hR.1 r' (by rw [e]; rfl)
 have hbl := zb2 h.bb
 have hne := h.rne
 refine ⟨r', cr', e, hb, (hg.block gb hbl (fun e => hne zq59)).trans h.bb, h.lo, ?_, by omega, ?_⟩
 · refine Kd.R_mono (Kd.R_step (Kd.R_bound h.out) (fun k hk hl => hg.block k hl (fun e => hk.1.2 zq64))) (fun k hk => ⟨hk.1.1, ?_⟩)
   have := hk.1.2
   have := hk.2.2.1
   omega
 · rw [← e]
   exact Kd.R_of_own (Kd.own_of_R hR) (fun k hk => by rw [e] at hk; simpa [Value.ownBlock] using hk.symm)
theorem ShFr.box {gb r : Nat} {vo vo' : Value} {W W' : World} (h : ShFr gb r vo W vo' W') {g : Nat} {o : Obj} (hb : W.heap[g]? = some o) (h1 : g ≠ r) (h2 : g ≠ gb) (h3 : some g ≠ vo.ownBlock) : W'.heap[g]? = some o ∧ some g ≠ vo'.ownBlock := by
 refine ⟨(h.keep g (zb2 hb) h1 h2 h3).trans hb, fun e => ?_⟩
 rcases h.own g e.symm with q | q
 · exact h3 q.symm
 · have := zb2 hb
   omega
structure SyV (w0 : World) (gb r cr gx gf : Nat) (x : S69) (q1 q2 : Bool) (q3 q4 q5 : Int) (q6 : ByteArray) (s : List S62 × List Int) (vo : Value) (W : World) : Prop where
 sx : SyX w0 gb r cr 6 s vo W
 bx : W.heap[gx]? = some (.cells #[.string x.f0, .int .i64 x.f1, .int .i64 x.f2, .int .i64 x.f3, .int .i64 x.f4] 69 (0, 0))
 bf : W.heap[gf]? = some (.cells #[.bool q1, .bool q2, .int .i64 q3, .int .i64 q4, .int .i64 q5, .string q6] 133 (0, 0))
 nx : some gx ≠ vo.ownBlock
 nf : some gf ≠ vo.ownBlock
def SyA (w0 : World) (gb r cr gx gf : Nat) (x : S69) (q1 q2 : Bool) (q3 q4 q5 : Int) (q6 : ByteArray) (s : List S62 × List Int) (W : World) : Prop := ∃ vo, SyV w0 gb r cr gx gf x q1 q2 q3 q4 q5 q6 s vo W
section
variable {w0 : World} {gb r cr gx gf : Nat} {x : S69} {q1 q2 : Bool} {q3 q4 q5 : Int} {q6 : ByteArray} {s : List S62 × List Int} {W W1 : World}
theorem SyA.bx (h : SyA w0 gb r cr gx gf x q1 q2 q3 q4 q5 q6 s W) : W.heap[gx]? = some (.cells #[.string x.f0, .int .i64 x.f1, .int .i64 x.f2, .int .i64 x.f3, .int .i64 x.f4] 69 (0, 0)) := h.choose_spec.bx
theorem SyA.bf (h : SyA w0 gb r cr gx gf x q1 q2 q3 q4 q5 q6 s W) : W.heap[gf]? = some (.cells #[.bool q1, .bool q2, .int .i64 q3, .int .i64 q4, .int .i64 q5, .string q6] 133 (0, 0)) := h.choose_spec.bf
theorem SyA.nam (h : SyA w0 gb r cr gx gf x q1 q2 q3 q4 q5 q6 s W) : Kd.R (Kd.int .i64) 3 W w0.heap.size (fun k => k = r) (.slice (some ⟨r, 0, none⟩) 6 cr) s.2 := h.choose_spec.sx.nam
theorem SyA.step (h : SyA w0 gb r cr gx gf x q1 q2 q3 q4 q5 q6 s W) (hb : Below W.heap.size W W1) : SyA w0 gb r cr gx gf x q1 q2 q3 q4 q5 q6 s W1 := by
 obtain ⟨vo, h⟩ := h
 exact ⟨vo, h.sx.step hb, zah h.bx hb, zah h.bf hb, h.nx, h.nf⟩
theorem zr4 (h : SyA w0 gb r cr gx gf x q1 q2 q3 q4 q5 q6 s W) (h1 : gb < gx) (h2 : r < gx) (h3 : gb < gf) (h4 : r < gf) (n0 : ByteArray) (n1 n2 n3 : Int) (hl : s.1.length < 1048576) :
   Calls Tryz.prog 178 #[.agg #[.string n0, .int .i64 n1, .int .i64 n2, .int .i64 n3], .pointer (some ⟨gb, 0, none⟩)] W fun e W' => e = .returned (.int .i64 s.1.length) ∧ SyA w0 gb r cr gx gf x q1 q2 q3 q4 q5 q6 (s.1 ++ [(⟨n0, n1, n2, n3⟩ : S62)], s.2) W' := by
 obtain ⟨vo, h⟩ := h
 refine (zoq s vo W h.sx n0 n1 n2 n3 hl).mono ?_
 rintro e W' ⟨vo', rfl, hX, hF⟩
 obtain ⟨b1, b2⟩ := hF.box h.bx (by omega) (by omega) h.nx
 obtain ⟨b3, b4⟩ := hF.box h.bf (by omega) (by omega) h.nf
 exact ⟨rfl, vo', hX, b1, b3, b2, b4⟩
end
def syIni : List S62 := [⟨⟨#[105, 110]⟩, 0, 0, 0⟩, ⟨⟨#[105, 110]⟩, 0, 0, 1⟩]
def syU (u : Nat) : List S62 × List Int := (syIni ++ List.replicate (u - 2) ⟨⟨#[99, 111, 110, 115, 116]⟩, 0, 0, 0⟩, (List.range u).map fun (j : Nat) => (j : Int))
theorem zz1 (u : Nat) (h : 2 ≤ u) : ((syU u).1 ++ [(⟨⟨#[99, 111, 110, 115, 116]⟩, 0, 0, 0⟩ : S62)], (syU u).2 ++ [((syU u).1.length : Int)]) = syU (u + 1) := by
 unfold syU
 have e : u + 1 - 2 = (u - 2) + 1 := by omega
 have l : (syIni ++ List.replicate (u - 2) (⟨⟨#[99, 111, 110, 115, 116]⟩, 0, 0, 0⟩ : S62)).length = u := by simp [syIni]; omega
 simp only [l, List.append_assoc]
 rw [e, List.replicate_succ', List.range_succ, List.map_append]
 rfl
theorem zty (u : Nat) (h : 2 ≤ u) : (syU u).1.length = u ∧ (syU u).2.length = u := by
 unfold syU
 simp [syIni]
 omega
def syDo (x : S69) (t : Bool × Bool × Int × Int × Int × ByteArray × Bool) (s : List S62 × List Int) : List S62 × List Int :=
 let n1 := if t.2.2.1 ≤ t.2.2.2.1 then s.1 ++ [(⟨⟨#[99, 111, 110, 115, 116]⟩, 0, 0, x.f4⟩ : S62)] else s.1
 let c : Int := if t.2.2.1 ≤ t.2.2.2.1 then s.1.length else -1
 if x.f0.toList = ([115, 101, 116] : List UInt8) then (n1, s.2.set x.f1.toNat c)
 else if x.f0.toList = ([109, 111, 118] : List UInt8) then (n1, s.2.set x.f1.toNat (rd s.2 x.f2))
 else if x.f0.toList = ([108, 101, 97] : List UInt8) then (n1 ++ [(⟨⟨#[115, 104, 108]⟩, rd s.2 x.f3, c, 0⟩ : S62)] ++ [(⟨⟨#[97, 100, 100]⟩, rd s.2 x.f2, n1.length, 0⟩ : S62)], s.2.set x.f1.toNat ((n1 ++ [(⟨⟨#[115, 104, 108]⟩, rd s.2 x.f3, c, 0⟩ : S62)]).length : Int))
 else if t.2.2.1 ≤ t.2.2.2.1 then (n1 ++ [(⟨t.2.2.2.2.2.1, rd s.2 x.f2, c, 0⟩ : S62)], s.2.set x.f1.toNat n1.length)
 else if t.2.1 = true then (n1 ++ [(⟨t.2.2.2.2.2.1, rd s.2 x.f2, rd s.2 x.f3, 0⟩ : S62)], s.2.set x.f1.toNat n1.length)
 else (n1 ++ [(⟨t.2.2.2.2.2.1, rd s.2 x.f2, 0, 0⟩ : S62)], s.2.set x.f1.toNat n1.length)
def syOk (x : S69) (s : List S62 × List Int) : Prop := (0 ≤ x.f1 ∧ x.f1 < 6) ∧ (0 ≤ x.f2 ∧ x.f2 < 6) ∧ (0 ≤ x.f3 ∧ x.f3 < 6) ∧ s.1.length < 1000000 ∧ s.2.length = 6
instance (x : S69) (s : List S62 × List Int) : Decidable (syOk x s) := by unfold syOk; infer_instance
def syL : List S69 → List S62 × List Int → Option (List S62 × List Int)
 | [], s => some s
 | x :: xs, s => if syOk x s then (zir x.f0).bind fun t => syL xs (syDo x t s) else none
def zek (k : Nat) (l0 : List S69) (a1 : Int) : Option (List S62 × Bool) := if l0.length < 1048576 ∧ 0 ≤ a1 ∧ a1 < 6 then (syL l0 (syU 6)).bind fun s => if s.2.length = 6 then (zg7 k s.1 (rd s.2 a1)).bind fun e => (zfr k e).bind fun o => (zgi k o).bind fun b => some (o, b) else none else none
theorem zl3 (k : Nat) (A0 : Option Addr) (c0 : Nat) (l0 : List S69) (a1 : Int) (r1 : List S62) (r2 : Bool) (w : World) (hr0 : Kd.C k69 w A0 l0.length l0) (hc0 : l0.length ≤ c0) (h : zek k l0 a1 = some (r1, r2)) :
   Calls Tryz.prog 147 #[.slice A0 l0.length c0, .int .i64 a1] w fun e w' => ∃ v0_ : Value, e = .returned (.tuple #[v0_, .bool r2]) ∧ Kd.R k62 62 w' w.heap.size (fun _ => True) v0_ r1 ∧ Below w.heap.size w w' := by
 unfold zek at h
 by_cases hl : l0.length < 1048576 ∧ 0 ≤ a1 ∧ a1 < 6
 rotate_left
 · rw [if_neg hl] at h
   cases h
 rw [if_pos hl] at h
 obtain ⟨hl1, hl2, hl3⟩ := hl
 obtain ⟨sE, hsE, h⟩ := Option.bind_eq_some_iff.1 h
 by_cases hsl : sE.2.length = 6
 rotate_left
 · rw [if_neg hsl] at h
   cases h
 rw [if_pos hsl] at h
 obtain ⟨e1, he1, h⟩ := Option.bind_eq_some_iff.1 h
 obtain ⟨o1, ho1, h⟩ := Option.bind_eq_some_iff.1 h
 obtain ⟨b1, hb1, h⟩ := Option.bind_eq_some_iff.1 h
 have HH := zA (zsi h)
 have HSE := zA hsE
 have HSL := zA hsl
 have HE1 := zA he1
 have HO1 := zA ho1
 have HB1 := zA hb1
 have HR := zA hr0
 have HC := zA hc0
 clear h hsE hsl he1 ho1 hb1 hr0 hc0
 go_enter Tryz.func147, Tryz.ntmps147
 go_wp2_with (first
   | ((with_reducible refine zee (N := 17) rfl ?_); refine Kd.R_lit k62 w.heap.size 62 ?hg (N := 17) ?hd (w0 := w) (xs := syIni) (inner := [.string ⟨#[105, 110]⟩, .int .i64 0, .int .i64 0, .int .i64 0, .string ⟨#[105, 110]⟩, .int .i64 0, .int .i64 0, .int .i64 1]) (ok := fun _ => True) (okp := fun _ => True) ?hr ?hp (fun _ hk => hk) trivial (Below.refl _ _) (zlr _) (by simp [syIni]) ?_; (case hd => rfl); (case hg => rfl); (case hr => go_simp <;> rfl); (case hp => exact (zsn (zhd _ _ _ (⟨⟨#[105, 110]⟩, 0, 0, 0⟩ : S62)) (zsn (zhd _ _ _ (⟨⟨#[105, 110]⟩, 0, 0, 1⟩ : S62)) (Reps.none _ _)))); intro vn w3 hn hb hg_ hnew; obtain ⟨An, cn, rfl⟩ := Kd.R_slice hn; have HVN := zA hn; have HB3 := zA hb; clear hn hb hg_ hnew)
   | ((with_reducible refine zee (N := 18) rfl ?_); refine Kd.R_lit (Kd.int .i64) w.heap.size 3 ?hg (N := 18) ?hd (w0 := w) (xs := [0, 1]) (inner := [.int .i64 0, .int .i64 1]) (ok := fun k => w3.heap.size ≤ k) (okp := fun _ => False) ?hr ?hp (fun _ hk => hk.elim) (zlr _) HB3.out HB3.out.size (by simp) ?_; (case hd => rfl); (case hg => rfl); (case hr => go_simp <;> rfl); (case hp => exact (zan (show Kd.M (Kd.int .i64) _ _ _ (0 : Int) [.int .i64 0] from rfl) (zan (show Kd.M (Kd.int .i64) _ _ _ (1 : Int) [.int .i64 1] from rfl) (Reps.none _ _)))); intro va w4 ha hb hg_ hnew; obtain ⟨ra, ca, ea, ha0, ha1, _⟩ := Kd.R_form ha (by decide); subst ea; have HRA := zA (ha.1 ra rfl); have HVN4 := zA (Kd.R_mono (Kd.R_grown (Kd.R_bound HVN.out) hg_ (fun _ _ e => by cases e)) (fun k hk => (show k < w3.heap.size from hk.2.2.1))); have HVA := zA (show Kd.R (Kd.int .i64) 3 w4 w.heap.size (fun k => k = ra) (.slice (some ⟨ra, 0, none⟩) 2 ca) [0, 1] from Kd.R_of_own (Kd.own_of_R ha) (fun k hk => by simpa [Value.ownBlock] using hk.symm)); have HB4 := zA hb; have HLA := zA ha1; clear ha hb hg_ hnew HVN ha0 ha1)
   | ((with_reducible refine zee (N := 6) rfl ?_); refine zg4 ?hg (N := 6) ?hd (cs := #[.slice none 0 0]) (t := 32) ?hr ?_; (case hd => rfl); (case hg => rfl); (case hr => go_simp <;> rfl); intro gb hgb w5 hbox hb; have HGB := zA hgb; have BB := zA hbox; have HB5 := zA hb; clear hgb hbox hb)
   | ((with_reducible refine zjc (t := 32) (p := 6) rfl ?_); refine zi5 rfl (t := 32) (p := 6) rfl rfl (g := gb) (u := .slice An syIni.length cn) (seg := [.slice An syIni.length cn]) rfl rfl BB.out rfl rfl rfl zq49 ?_; intro w6 hbb hbw hfar; have HX0 := zA (show SyX w gb ra ca 2 (syU 2) (.slice An syIni.length cn) w6 from ⟨zab HB4.out (HB5.out.trans (hbw _ (Nat.le_of_eq HGB.out.symm))), hbb, by have := HB4.out.size; have := HGB.out; omega, ?sN, by have := HLA.out; have := HGB.out; omega, ?sA⟩); (case sN => exact Kd.R_mono (zRb HVN4.out (HB5.out.trans (hbw _ (Nat.le_of_eq HGB.out.symm)))) (fun k hk => by have := HRA.out; have := HLA.out; have := HGB.out; omega)); (case sA => exact zRb HVA.out (HB5.out.trans (hbw _ (Nat.le_of_eq HGB.out.symm)))); clear hbb hbw hfar HVN4 HVA HB3 HB4 HB5 BB HGB))
 go_loopw [7] (fun v7 wr => ∃ (u r' c' : Nat) (vo : Value), v7 = .slice (some ⟨r', 0, none⟩) u c' ∧ 2 ≤ u ∧ u ≤ 6 ∧ Aside0 (SyX w gb r' c' u (syU u) vo wr)) (fun v7 _ => match v7 with | .slice _ n _ => 6 - n | _ => 0)
 case atStart => exact ⟨2, ra, ca, _, rfl, zlr _, by omega, HX0⟩
 clear HX0 HRA HLA
 obtain ⟨u, r', c', vo, rfl, hu2, hu6, HX⟩ := hrel
 by_cases hlt : u < 6
 · have d1 : decide ((u : Int) < 6) = true := zdt (by omega)
   have HUL := zA (zty u hu2)
   go_wp2_with fail
   refine (zoq (syU u) vo wr HX.out ⟨#[99, 111, 110, 115, 116]⟩ 0 0 0 (by have := HUL.out; omega)).mono ?_
   rintro x w8 ⟨vo', rfl, hX8, _⟩
   have HX8 := zA hX8
   clear hX8
   go_wp2_with ((with_reducible refine zfe (b := .append) (xs := #[.tmp 23, .tmp 27]) rfl ?_); at_builtin; refine Kd.R_append (Kd.int .i64) (w0 := w) w.heap.size rfl (.tmp 23) (.tmp 27) 24 3 (.int .i64 0) 8 rfl Tryz.underlying24 zn1 rfl (by decide) (by decide) (.slice (some ⟨r', 0, none⟩) u c') (syU u).2 ((syU u).1.length : Int) [.int .i64 (syU u).1.length] (fun k => k = r' ∨ w8.heap.size ≤ k) (fun _ => False) rfl rfl (show Kd.M (Kd.int .i64) _ _ _ ((syU u).1.length : Int) [.int .i64 (syU u).1.length] from rfl) (fun _ hk => hk.elim) (fun k hk => .inr hk) (Kd.R_mono HX8.out.nam (fun k hk => .inl hk)) HX8.out.below HX8.out.below.size (by have := HUL.out; omega) ?_; intro v1 w10 ho hb hg hat; obtain ⟨r2, c2, e2, hX9⟩ := HX8.out.grow (W1 := w10) (Kd.R_mono ho (fun k hk => hk)) (by simp) hb hg; have hlu : ((syU u).2 ++ [((syU u).1.length : Int)]).length = u + 1 := (by have := HUL.out; simp; omega); have hsu := zz1 u hu2; simp only at hX9 hsu; rw [hsu, hlu] at hX9; rw [hlu] at e2; subst e2; have HX9 := zA hX9; clear ho hb hg hat hX9 hlu hsu HX8)
   go_roundw
   case rel => exact ⟨u + 1, r2, c2, vo', rfl, by omega, by omega, HX9⟩
   case measure => simp; omega
 obtain rfl : u = 6 := by omega
 have d1 : decide (((6 : Nat) : Int) < 6) = false := zdf (by omega)
 go_wp2_with fail
 go_loopw [31] (fun v31 wq => ∃ (u : Nat) (s : List S62 × List Int) (vo : Value), v31 = .int .i64 (u : Int) ∧ u ≤ l0.length ∧ Aside0 (SyX w gb r' c' 6 s vo wq) ∧ Aside0 (syL (l0.drop u) s = some sE)) (fun v31 _ => l0.length - (intOf v31).toNat)
 case atStart => exact ⟨0, _, _, rfl, Nat.zero_le _, HX, ⟨by rw [List.drop_zero]; exact HSE.out⟩⟩
 clear HX HSE
 obtain ⟨u, s, vo, rfl, hu, HX, HS⟩ := hrel
 by_cases hlt : u < l0.length
 rotate_left
 · obtain rfl : u = l0.length := by omega
   have d1 : decide ((l0.length : Int) < l0.length) = false := zdf (by omega)
   have hs := HS.out
   rw [List.drop_length] at hs
   obtain rfl := zsi hs
   clear hs HS
   go_wp2_with fail
   obtain ⟨Ao, co, eo⟩ := Kd.R_slice HX.out.out
   have EO := zA eo
   clear eo
   refine zji [[], [], [], [1, 2], [1, 2, 3], [0, 1, 2, 3, 4], [0, 1, 2, 3, 4, 5], [0, 1, 2, 3, 4, 5, 6]] [[5, 6, 7], [3, 4, 5, 6, 7], [3, 4, 5, 6, 7], [4, 5, 6, 7], [5, 6, 7], [6, 7], [7], []]
     (fun L s_ V => Below wr.heap.size wr V ∧ (L 0 = true → s_ 0 = .slice Ao s.1.length co) ∧ (L 1 = true → s_ 1 = .slice (some ⟨r', 0, none⟩) 6 c') ∧ (L 2 = true → s_ 2 = .int .i64 a1) ∧ (L 3 = true → s_ 3 = .pointer (some ⟨r', a1.toNat, none⟩)) ∧ (L 4 = true → s_ 4 = .int .i64 (rd s.2 a1)) ∧
       (L 5 = true → Kd.R k62 62 V w.heap.size (fun _ => True) (s_ 5) e1) ∧ (L 6 = true → Kd.R k62 62 V w.heap.size (fun _ => True) (s_ 6) o1) ∧ (L 7 = true → s_ 7 = s_ 6))
     rfl (fun _ _ _ _ _ h => h) zq28 ?_ ⟨?_, ?_, ?_, ?_, ?_, ?_, ?_, ?_, trivial⟩ ?_
   · exact ⟨zcs (Below.refl _ _), (fun h => Bool.noConfusion h), (fun h => Bool.noConfusion h), (fun h => Bool.noConfusion h), (fun h => Bool.noConfusion h), (fun h => Bool.noConfusion h), (fun h => Bool.noConfusion h), (fun h => Bool.noConfusion h), (fun h => Bool.noConfusion h)⟩
   · rintro L s_ V hu hd hn ⟨hB, g0, g1, g2, g3, g4, g5, g6, g7⟩ K hK
     have hc := zad (HX.out.step hB).bb 0
     rw [EO.out] at hc
     refine zcw (N := some 150) (v := .slice Ao s.1.length co) (w1 := V) (by rfl) rfl ?_ (hK _ _ ⟨hB, fun _ => rfl, g1, g2, g3, g4, g5, g6, g7⟩)
     refine zsr ?_
     go_simp
   · rintro L s_ V hu hd hn ⟨hB, g0, g1, g2, g3, g4, g5, g6, g7⟩ K hK
     refine zcw (N := some 151) (v := .slice (some ⟨r', 0, none⟩) 6 c') (w1 := V) (by rfl) rfl ?_ (hK _ _ ⟨hB, g0, fun _ => rfl, g2, g3, g4, g5, g6, g7⟩)
     refine zsr ?_
     go_simp
   · rintro L s_ V hu hd hn ⟨hB, g0, g1, g2, g3, g4, g5, g6, g7⟩ K hK
     refine zcw (N := some 152) (v := .int .i64 a1) (w1 := V) (by rfl) rfl ?_ (hK _ _ ⟨hB, g0, g1, fun _ => rfl, g3, g4, g5, g6, g7⟩)
     refine zsr ?_
     go_simp
   · rintro L s_ V hu hd hn ⟨hB, g0, g1, g2, g3, g4, g5, g6, g7⟩ K hK
     have e1_ := g1 hd.1
     have e2_ := g2 hd.2
     refine zcw (N := some 153) (v := .pointer (some ⟨r', a1.toNat, none⟩)) (w1 := V) (by rfl) rfl ?_ (hK _ _ ⟨hB, g0, g1, g2, fun _ => rfl, g4, g5, g6, g7⟩)
     refine zsr ?_
     rw [e1_, e2_]
     go_simp
   · rintro L s_ V hu hd hn ⟨hB, g0, g1, g2, g3, g4, g5, g6, g7⟩ K hK
     have e3_ := g3 hd.2.2
     obtain ⟨y, _⟩ := Kd.R_celln 0 (HX.out.step hB).nam a1 hl2 hl3
     change V.cell? _ = some (.int .i64 (rd s.2 a1)) at y
     refine zcw (N := some 154) (v := .int .i64 (rd s.2 a1)) (w1 := V) (by rfl) rfl ?_ (hK _ _ ⟨hB, g0, g1, g2, g3, fun _ => rfl, g5, g6, g7⟩)
     refine zsr ?_
     rw [e3_]
     go_simp
   · rintro L s_ V hu hd hn ⟨hB, g0, g1, g2, g3, g4, g5, g6, g7⟩ K hK
     have e0_ := g0 hd.1
     have e4_ := g4 hd.2.2.2.2
     have hCo := zRr (by have := (HX.out.step hB).out; rw [EO.out] at this; exact this)
     have e04 : (#[s_ 0, s_ 4] : Array Value) = #[.slice Ao s.1.length co, .int .i64 (rd s.2 a1)] := by rw [e0_, e4_]
     refine zsj Tryz.func180 zq28 rfl #[.slice Ao s.1.length co, .int .i64 (rd s.2 a1)] (by rfl) rfl rfl (by simp only [List.map_toArray, List.map_cons, List.map_nil]; exact e04) ?_
     refine (znh k Ao co s.1 (rd s.2 a1) e1 V hCo.2.2 hCo.2.1 HE1.out).mono ?_
     rintro x w4 ⟨v5, rfl, hv5, hb5⟩
     exact ⟨_, rfl, hK _ _ ⟨zab hB hb5, g0, g1, g2, g3, g4, fun _ => Kd.R_lower hv5 (Nat.le_trans HX.out.below.size hB.size), fun h => absurd (h.symm.trans hn.1) (by simp), fun h => absurd (h.symm.trans hn.2) (by simp)⟩⟩
   · rintro L s_ V hu hd hn ⟨hB, g0, g1, g2, g3, g4, g5, g6, g7⟩ K hK
     have h5 := g5 hd.2.2.2.2.2
     obtain ⟨A5, c5, e5_⟩ := Kd.R_slice h5
     rw [e5_] at h5
     have hC5 := zRr h5
     have e55 : (#[s_ 5] : Array Value) = #[.slice A5 e1.length c5] := by rw [e5_]
     refine zsj Tryz.func179 zq28 rfl #[.slice A5 e1.length c5] (by rfl) rfl rfl (by simp only [List.map_toArray, List.map_cons, List.map_nil]; exact e55) ?_
     refine (zjq k A5 c5 e1 o1 V hC5.2.2 hC5.2.1 HO1.out).mono ?_
     rintro x w4 ⟨v6, rfl, hv6, hb6⟩
     exact ⟨_, rfl, hK _ _ ⟨zab hB hb6, g0, g1, g2, g3, g4, fun h => zRb (g5 h) hb6, fun _ => Kd.R_lower hv6 (Nat.le_trans HX.out.below.size hB.size), fun h => absurd (h.symm.trans hn) (by simp)⟩⟩
   · rintro L s_ V hu hd hn ⟨hB, g0, g1, g2, g3, g4, g5, g6, g7⟩ K hK
     refine zcw (N := some 14) (v := s_ 6) (w1 := V) (by rfl) rfl ?_ (hK _ _ ⟨hB, g0, g1, g2, g3, g4, g5, g6, fun _ => rfl⟩)
     refine zsr ?_
     go_simp
   · rintro L s_ V hL ⟨hB, g0, g1, g2, g3, g4, g5, g6, g7⟩
     have h6 := g6 (hL 6 rfl)
     have e7_ := g7 (hL 7 rfl)
     obtain ⟨A6, c6, e6_⟩ := Kd.R_slice h6
     rw [e6_] at h6
     have HV6 := zA h6
     have HBV := zA (zab HX.out.below hB)
     clear h6 hB g0 g1 g2 g3 g4 g5 g6 g7
     refine zsr ?_
     rw [e7_, e6_]
     clear e6_ e7_
     go_wp2_with (go_at_call 88; go_must (have hC6 := zRr HV6.out; refine (zqi k A6 c6 o1 b1 V hC6.2.2 hC6.2.1 HB1.out).mono ?_; rintro e w13 ⟨rfl, hb⟩; have HV7 := zA (zRb HV6.out hb); have HB7 := zA (zab HBV.out hb); clear hb hC6))
     go_ret2
     obtain ⟨rfl, rfl⟩ := Prod.mk.inj HH.out
     exact ⟨_, rfl, HV7.out, HB7.out⟩
 have d1 : decide ((u : Int) < l0.length) = true := zdt (by omega)
 have d2 : (0 : Int) ≤ (u : Int) := by omega
 have d3 : (u : Int) < l0.length := by omega
 have hs := HS.out
 obtain ⟨x, hx⟩ : ∃ x, x = zaa l0 (u : Int) := ⟨_, rfl⟩
 have hdr : l0.drop u = x :: l0.drop (u + 1) := by
   rw [List.drop_eq_getElem_cons hlt, hx]
   unfold zaa
   rw [Int.toNat_natCast, List.getD_eq_getElem?_getD, List.getElem?_eq_getElem hlt]
   rfl
 rw [hdr] at hs
 unfold syL at hs
 by_cases hok : syOk x s
 rotate_left
 · rw [if_neg hok] at hs
   cases hs
 rw [if_pos hok] at hs
 obtain ⟨⟨q1, q2, q3, q4, q5, q6, q7⟩, hq, hs⟩ := Option.bind_eq_some_iff.1 hs
 obtain ⟨adx, eA, x0, x1, x2, x3, x4⟩ := zmn (zCb HR.out HX.out.below) (u : Int) d2 d3
 rw [Int.toNat_natCast] at x0 x1 x2 x3 x4
 rw [← hx] at x0 x1 x2 x3 x4
 subst eA
 obtain ⟨bi, hbi⟩ : ∃ b : Bool, b = decide (q3 ≤ q4) := ⟨_, rfl⟩
 have HBI := zA hbi
 have HQ := zA hq
 have HS1 := zA hs
 have HOK := zA hok
 clear hs hq hok hdr hx HS hbi
 go_upto_if 42 with (first
   | ((with_reducible refine zee (N := 10) rfl ?_); refine zg4 ?hg (N := 10) ?hd (cs := #[.string ⟨#[]⟩, .int .i64 0, .int .i64 0, .int .i64 0, .int .i64 0]) (t := 69) ?hr ?_; (case hd => rfl); (case hg => rfl); (case hr => go_simp <;> rfl); intro gx hgx w5 hbx hb5; have HGX := zA hgx; have BX := zA hbx; have HB5 := zA hb5; clear hgx hbx hb5)
   | ((with_reducible refine zjc (t := 69) (p := 10) rfl ?_); go_must (refine zi5 rfl (t := 69) (p := 10) rfl rfl (g := gx) (u := .agg #[.string x.f0, .int .i64 x.f1, .int .i64 x.f2, .int .i64 x.f3, .int .i64 x.f4]) (seg := [.string x.f0, .int .i64 x.f1, .int .i64 x.f2, .int .i64 x.f3, .int .i64 x.f4]) rfl rfl BX.out rfl rfl rfl zq49 ?_; intro w6 hbb hbw hfar; have HBW := zA (HB5.out.trans (hbw _ (Nat.le_of_eq HGX.out.symm))); have HX6 := zA (HX.out.step HBW.out); have BX6 := zA hbb; have y0 := zad hbb 0; have NX := zA (show some gx ≠ vo.ownBlock from fun e => by have h1 := Kd.R_lt HX.out.out gx e.symm; have h2 := HGX.out; omega); have NE := zA (show gb < gx ∧ r' < gx from by have h1 := zb2 HX.out.bb; have h2 := Kd.R_lt HX.out.nam r' rfl; have h3 := HGX.out; omega); have HGX6 := zA (show w.heap.size ≤ gx from by have h2 := HGX.out; have h3 := HX.out.below.size; omega); clear hbb hbw hfar BX HB5 x0 x1 x2 x3 x4))
   | (go_at_call 127; go_must (refine (zlz x.f0 q1 q2 q3 q4 q5 q6 q7 _ HQ.out).mono ?_; rintro e w7 ⟨rfl, hb⟩; have HX7 := zA (HX6.out.step hb); have BX7 := zA (zah BX6.out hb); have HB7 := zA hb; clear hb y0))
   | ((with_reducible refine zee (N := 11) rfl ?_); refine zg4 ?hg (N := 11) ?hd (cs := #[.bool false, .bool false, .int .i64 0, .int .i64 0, .int .i64 0, .string ⟨#[]⟩]) (t := 133) ?hr ?_; (case hd => rfl); (case hg => rfl); (case hr => go_simp <;> rfl); intro gf hgf w8 hbf hb8; have HGF := zA hgf; have BF := zA hbf; have HB8 := zA hb8; clear hgf hbf hb8)
   | ((with_reducible refine zjc (t := 133) (p := 11) rfl ?_); go_must (refine zi5 rfl (t := 133) (p := 11) rfl rfl (g := gf) (u := .agg #[.bool q1, .bool q2, .int .i64 q3, .int .i64 q4, .int .i64 q5, .string q6]) (seg := [.bool q1, .bool q2, .int .i64 q3, .int .i64 q4, .int .i64 q5, .string q6]) rfl rfl BF.out rfl rfl rfl zq49 ?_; intro w9 hbb hbw hfar; have HB9 := zA (HB8.out.trans (hbw _ (Nat.le_of_eq HGF.out.symm))); have HX9 := zA (HX7.out.step HB9.out); have BX9 := zA (zah BX7.out HB9.out); have BF9 := zA hbb; have NF := zA (show some gf ≠ vo.ownBlock from fun e => by have h1 := Kd.R_lt HX7.out.out gf e.symm; have h2 := HGF.out; omega); have NEF := zA (show gb < gf ∧ r' < gf ∧ gx < gf from by have h1 := zb2 HX7.out.bb; have h2 := Kd.R_lt HX7.out.nam r' rfl; have h3 := HGF.out; have h4 := zb2 BX7.out; omega); have z0 := zad hbb 0; have z1 := zad hbb 1; have z2 := zad hbb 2; have z3 := zad hbb 3; have z4 := zad hbb 4; have z5 := zad hbb 5; clear hbb hbw hfar BF HB8))
   | (go_at_call 129; go_must (refine (zex q1 q2 q3 q4 q5 q6 bi _ (by rw [HBI.out]; rfl)).mono ?_; rintro e w10 ⟨rfl, hb⟩; have HX10 := zA (HX9.out.step hb); have BX10 := zA (zah BX9.out hb); have BF10 := zA (zah BF9.out hb); have y4 := zad BX10.out 4; clear hb z0 z1 z2 z3 z4 z5)))
 go_cut [13] from 33 to 149 (fun v13 wx => ∃ (n1 : List S62) (c : Int) (vo1 : Value), v13 = .int .i64 c ∧ Aside0 (n1 = (if q3 ≤ q4 then s.1 ++ [(⟨⟨#[99, 111, 110, 115, 116]⟩, 0, 0, x.f4⟩ : S62)] else s.1)) ∧ Aside0 (c = (if q3 ≤ q4 then (s.1.length : Int) else -1)) ∧ Aside0 (SyX w gb r' c' 6 (n1, s.2) vo1 wx) ∧
   Aside0 (wx.heap[gx]? = some (.cells #[.string x.f0, .int .i64 x.f1, .int .i64 x.f2, .int .i64 x.f3, .int .i64 x.f4] 69 (0, 0))) ∧ Aside0 (wx.heap[gf]? = some (.cells #[.bool q1, .bool q2, .int .i64 q3, .int .i64 q4, .int .i64 q5, .string q6] 133 (0, 0))) ∧ Aside0 (some gx ≠ vo1.ownBlock ∧ some gf ≠ vo1.ownBlock))
 case first =>
   by_cases hbt : bi = true
   rotate_left
   · obtain rfl : bi = false := by simpa using hbt
     have HIM := zA (of_decide_eq_false HBI.out.symm)
     clear hbt
     go_wp2_with fail
     go_meet
     case rel => exact ⟨_, _, vo, rfl, ⟨by rw [if_neg (by have := HIM.out; omega)]⟩, ⟨by rw [if_neg (by have := HIM.out; omega)]⟩, HX10, BX10, BF10, ⟨NX.out, NF.out⟩⟩
   subst hbt
   have HIM := zA (zde HBI.out.symm)
   go_wp2_with fail
   refine (zoq s vo w10 HX10.out ⟨#[99, 111, 110, 115, 116]⟩ 0 0 x.f4 (by have := HOK.out; unfold syOk at this; omega)).mono ?_
   rintro e w11 ⟨vo', rfl, hX, hF⟩
   have HX11 := zA hX
   have HF11 := zA hF
   clear hX hF
   go_wp2_with fail
   go_meet
   have hn := NE.out
   have hf := NEF.out
   obtain ⟨b1, b2⟩ := HF11.out.box BX10.out (by omega) (by omega) NX.out
   obtain ⟨b3, b4⟩ := HF11.out.box BF10.out (by omega) (by omega) NF.out
   exact ⟨_, _, vo', rfl, ⟨by rw [if_pos HIM.out]⟩, ⟨by rw [if_pos HIM.out]⟩, HX11, ⟨b1⟩, ⟨b3⟩, ⟨b2, b4⟩⟩
 clear HX HX6 HX7 HX9 HX10 BX6 BX7 BX9 BX10 BF9 BF10 y4 HB7 HB9 HBW NX NF HGX HGF
 obtain ⟨n1, c, vo1, rfl, HN1, HCC, HX, BX, BF, NX⟩ := hcut
 have HA0 := zA (show SyA w gb r' c' gx gf x q1 q2 q3 q4 q5 q6 (n1, s.2) wc from ⟨vo1, HX.out, BX.out, BF.out, NX.out.1, NX.out.2⟩)
 obtain ⟨⟨o1, p1⟩, ⟨o2, p2⟩, ⟨o3, p3⟩, hln, hl6⟩ := (show syOk x s from HOK.out)
 have HLN := zA (show n1.length < 1000002 from by rw [HN1.out]; split <;> (try simp) <;> omega)
 have HL6 := zA hl6
 clear hln hl6 HOK
 have y0 := zad BX.out 0
 by_cases e1 : x.f0.toList = ([115, 101, 116] : List UInt8)
 · have b1 : (x.f0.toList == ([115, 101, 116] : List UInt8)) = true := beq_iff_eq.2 e1
   have HS2 := zA (show syL (l0.drop (u + 1)) (n1, s.2.set x.f1.toNat c) = some sE from by
     have h := HS1.out
     unfold syDo at h
     simp only at h
     rw [if_pos e1, ← HN1.out, ← HCC.out] at h
     exact h)
   have y1 := zad BX.out 1
   obtain ⟨g1, g2⟩ := Kd.R_celln 0 HX.out.nam x.f1 o1 p1
   have HX2 := zA (HX.out.setn x.f1 c)
   clear e1
   go_wp2_with fail
   go_roundw
   case rel => exact ⟨u + 1, _, vo1, by go_num, by omega, HX2, HS2⟩
   case measure => simp [intOf]; omega
 have b1 : (x.f0.toList == ([115, 101, 116] : List UInt8)) = false := by simpa using e1
 have E1 := zA e1
 by_cases e2 : x.f0.toList = ([109, 111, 118] : List UInt8)
 · have b2 : (x.f0.toList == ([109, 111, 118] : List UInt8)) = true := beq_iff_eq.2 e2
   have HS2 := zA (show syL (l0.drop (u + 1)) (n1, s.2.set x.f1.toNat (rdOf 0 s.2 x.f2)) = some sE from by
     have h := HS1.out
     unfold syDo at h
     simp only at h
     rw [if_neg e1, if_pos e2, ← HN1.out] at h
     exact h)
   clear e1 e2
   go_wp2_with fail
   clear b1 b2 y0
   have hA0 := HA0.out
   refine zmg [[], [], [1], [], [], [4], [3, 4, 5], [3, 4, 5, 6], [0, 1, 2, 3, 4, 5, 6, 7], [0, 1, 2, 3, 4, 5, 6, 7, 8]] [[8, 9], [2, 8, 9], [8, 9], [6, 7, 8, 9], [5, 6, 7, 8, 9], [6, 7, 8, 9], [7, 8, 9], [8, 9], [9], []] (zls [.slice (some ⟨r', 0, none⟩) 6 c', .pointer (some ⟨gx, 1, none⟩), .int .i64 x.f1, .slice (some ⟨r', 0, none⟩) 6 c', .pointer (some ⟨gx, 2, none⟩), .int .i64 x.f2, .pointer (some ⟨r', x.f2.toNat, none⟩), .int .i64 (rdOf 0 s.2 x.f2), .pointer (some ⟨r', x.f1.toNat, none⟩), undef]) (fun L W => (L 9 = false → SyA w gb r' c' gx gf x q1 q2 q3 q4 q5 q6 (n1, s.2) W) ∧ (L 9 = true → ∃ vo2, SyX w gb r' c' 6 (n1, s.2.set x.f1.toNat (rdOf 0 s.2 x.f2)) vo2 W))
     rfl (fun _ _ _ _ _ h => h) zq28 ?_ ⟨?_, ?_, ?_, ?_, ?_, ?_, ?_, ?_, ?_, ?_, trivial⟩ ?_
   · exact ⟨fun _ => hA0.step (zcs (Below.refl _ _)), fun h => Bool.noConfusion h⟩
   · refine fun L W hu hd hn hJ => zas (by rfl) hJ ?_
     generalize hev : Act.eval (zaj _ _ _ _) = ev
     have t7 : ev (.tmp 7) = .slice (some ⟨r', 0, none⟩) 6 c' := by rw [← hev]; rfl
     clear hev
     exact zg0
   · refine fun L W hu hd hn hJ => zas (by rfl) hJ ?_
     generalize hev : Act.eval (zaj _ _ _ _) = ev
     have t10 : ev (.tmp 10) = .pointer (some ⟨gx, 0, none⟩) := by rw [← hev]; rfl
     clear hev
     exact zg0
   · refine fun L W hu hd hn hJ => zas (by rfl) hJ ?_
     have hA := hJ.1 (zaw _ hn 9 (by decide))
     clear hJ
     have y := zad hA.bx 1
     generalize hev : Act.eval (zaj _ _ _ _) = ev
     have t76 : ev (.tmp 76) = .pointer (some ⟨gx, 1, none⟩) := by rw [← hev]; rfl
     clear hev
     exact zg0
   · refine fun L W hu hd hn hJ => zas (by rfl) hJ ?_
     generalize hev : Act.eval (zaj _ _ _ _) = ev
     have t7 : ev (.tmp 7) = .slice (some ⟨r', 0, none⟩) 6 c' := by rw [← hev]; rfl
     clear hev
     exact zg0
   · refine fun L W hu hd hn hJ => zas (by rfl) hJ ?_
     generalize hev : Act.eval (zaj _ _ _ _) = ev
     have t10 : ev (.tmp 10) = .pointer (some ⟨gx, 0, none⟩) := by rw [← hev]; rfl
     clear hev
     exact zg0
   · refine fun L W hu hd hn hJ => zas (by rfl) hJ ?_
     have hA := hJ.1 (zaw _ hn 9 (by decide))
     clear hJ
     have y := zad hA.bx 2
     generalize hev : Act.eval (zaj _ _ _ _) = ev
     have t79 : ev (.tmp 79) = .pointer (some ⟨gx, 2, none⟩) := by rw [← hev]; rfl
     clear hev
     exact zg0
   · refine fun L W hu hd hn hJ => zas (by rfl) hJ ?_
     generalize hev : Act.eval (zaj _ _ _ _) = ev
     have t78 : ev (.tmp 78) = .slice (some ⟨r', 0, none⟩) 6 c' := by rw [← hev]; rfl
     have t80 : ev (.tmp 80) = .int .i64 x.f2 := by rw [← hev]; rfl
     clear hev
     exact zg0
   · refine fun L W hu hd hn hJ => zas (by rfl) hJ ?_
     have hA := hJ.1 (zaw _ hn 9 (by decide))
     clear hJ
     obtain ⟨y, _⟩ := Kd.R_celln 0 hA.nam x.f2 o2 p2
     generalize hev : Act.eval (zaj _ _ _ _) = ev
     have t81 : ev (.tmp 81) = .pointer (some ⟨r', x.f2.toNat, none⟩) := by rw [← hev]; rfl
     clear hev
     exact zg0
   · refine fun L W hu hd hn hJ => zas (by rfl) hJ ?_
     generalize hev : Act.eval (zaj _ _ _ _) = ev
     have t75 : ev (.tmp 75) = .slice (some ⟨r', 0, none⟩) 6 c' := by rw [← hev]; rfl
     have t77 : ev (.tmp 77) = .int .i64 x.f1 := by rw [← hev]; rfl
     clear hev
     exact zg0
   · intro L W hu hd hn hJ
     obtain ⟨vo2, hA⟩ := hJ.1 hu
     have hX := hA.sx.setn x.f1 (rdOf 0 s.2 x.f2)
     refine zng (by rfl) rfl rfl ⟨fun h => by simp [riUp] at h, fun _ => ⟨vo2, hX⟩⟩ ?_
     obtain ⟨y, y'⟩ := Kd.R_celln 0 hA.sx.nam x.f1 o1 p1
     clear hJ hX
     generalize hev : Act.eval (zaj _ _ _ _) = ev
     have t82 : ev (.tmp 82) = .int .i64 (rdOf 0 s.2 x.f2) := by rw [← hev]; rfl
     have t83 : ev (.tmp 83) = .pointer (some ⟨r', x.f1.toNat, none⟩) := by rw [← hev]; rfl
     clear hev
     exact zg0
   · intro L W hL hJ
     obtain ⟨vo2, hX⟩ := hJ.2 (hL 9 rfl)
     have HX2 := zA hX
     clear hX hJ hL hA0
     refine zsr ?_
     go_wp2_with fail
     go_roundw
     case rel => exact ⟨u + 1, _, vo2, by go_num, by omega, HX2, HS2⟩
     case measure => simp [intOf]; omega
 have b2 : (x.f0.toList == ([109, 111, 118] : List UInt8)) = false := by simpa using e2
 have E2 := zA e2
 by_cases e3 : x.f0.toList = ([108, 101, 97] : List UInt8)
 · have b3 : (x.f0.toList == ([108, 101, 97] : List UInt8)) = true := beq_iff_eq.2 e3
   have E3 := zA e3
   clear e1 e2 e3
   go_wp2_with fail
   clear b1 b2 b3 y0
   have HA1 := HA0
   have hA0 := HA1.out
   refine zmg [[], [], [1], [], [], [], [5], [4, 5, 6], [4, 5, 6, 7], [], [], [], [11], [10, 11, 12], [10, 11, 12, 13], [], [10, 11, 12, 13, 14, 15], [9, 10, 11, 12, 13, 14, 15, 16], [4, 5, 6, 7, 8, 9, 10, 11, 12, 13, 14, 15, 16, 17], [3, 4, 5, 6, 7, 8, 9, 10, 11, 12, 13, 14, 15, 16, 17, 18], [0, 1, 2, 3, 4, 5, 6, 7, 8, 9, 10, 11, 12, 13, 14, 15, 16, 17, 18, 19], [0, 1, 2, 3, 4, 5, 6, 7, 8, 9, 10, 11, 12, 13, 14, 15, 16, 17, 18, 19, 20]] [[20, 21], [2, 20, 21], [20, 21], [19, 20, 21], [7, 8, 18, 19, 20, 21], [6, 7, 8, 18, 19, 20, 21], [7, 8, 18, 19, 20, 21], [8, 18, 19, 20, 21], [18, 19, 20, 21], [17, 18, 19, 20, 21], [13, 14, 16, 17, 18, 19, 20, 21], [12, 13, 14, 16, 17, 18, 19, 20, 21], [13, 14, 16, 17, 18, 19, 20, 21], [14, 16, 17, 18, 19, 20, 21], [16, 17, 18, 19, 20, 21], [16, 17, 18, 19, 20, 21], [17, 18, 19, 20, 21], [18, 19, 20, 21], [19, 20, 21], [20, 21], [21], []] (zls [.slice (some ⟨r', 0, none⟩) 6 c', .pointer (some ⟨gx, 1, none⟩), .int .i64 x.f1, Value.func (.func 178) #[] #[.pointer (some ⟨gb, 0, none⟩)], .slice (some ⟨r', 0, none⟩) 6 c', .pointer (some ⟨gx, 2, none⟩), .int .i64 x.f2, .pointer (some ⟨r', x.f2.toNat, none⟩), .int .i64 (rdOf 0 s.2 x.f2), Value.func (.func 178) #[] #[.pointer (some ⟨gb, 0, none⟩)], .slice (some ⟨r', 0, none⟩) 6 c', .pointer (some ⟨gx, 3, none⟩), .int .i64 x.f3, .pointer (some ⟨r', x.f3.toNat, none⟩), .int .i64 (rdOf 0 s.2 x.f3), .int .i64 c, .agg #[.string ⟨#[115, 104, 108]⟩, .int .i64 (rdOf 0 s.2 x.f3), .int .i64 c, .int .i64 0], .int .i64 n1.length, .agg #[.string ⟨#[97, 100, 100]⟩, .int .i64 (rdOf 0 s.2 x.f2), .int .i64 n1.length, .int .i64 0], .int .i64 ((n1 ++ [(⟨(⟨#[115, 104, 108]⟩), (rdOf 0 s.2 x.f3), c, 0⟩ : S62)])).length, .pointer (some ⟨r', x.f1.toNat, none⟩), undef]) (fun L W => (L 21 = false → L 17 = false → SyA w gb r' c' gx gf x q1 q2 q3 q4 q5 q6 (n1, s.2) W) ∧ (L 21 = false → L 17 = true → L 19 = false → SyA w gb r' c' gx gf x q1 q2 q3 q4 q5 q6 ((n1 ++ [(⟨(⟨#[115, 104, 108]⟩), (rdOf 0 s.2 x.f3), c, 0⟩ : S62)]), s.2) W) ∧ (L 21 = false → L 17 = true → L 19 = true → SyA w gb r' c' gx gf x q1 q2 q3 q4 q5 q6 (((n1 ++ [(⟨(⟨#[115, 104, 108]⟩), (rdOf 0 s.2 x.f3), c, 0⟩ : S62)]) ++ [(⟨(⟨#[97, 100, 100]⟩), (rdOf 0 s.2 x.f2), n1.length, 0⟩ : S62)]), s.2) W) ∧ (L 21 = true → ∃ vo2, SyX w gb r' c' 6 (((n1 ++ [(⟨(⟨#[115, 104, 108]⟩), (rdOf 0 s.2 x.f3), c, 0⟩ : S62)]) ++ [(⟨(⟨#[97, 100, 100]⟩), (rdOf 0 s.2 x.f2), n1.length, 0⟩ : S62)]), s.2.set x.f1.toNat ((n1 ++ [(⟨(⟨#[115, 104, 108]⟩), (rdOf 0 s.2 x.f3), c, 0⟩ : S62)])).length) vo2 W))
     rfl (fun _ _ _ _ _ h => h) zq28 ?_ ⟨?_, ?_, ?_, ?_, ?_, ?_, ?_, ?_, ?_, ?_, ?_, ?_, ?_, ?_, ?_, ?_, ?_, ?_, ?_, ?_, ?_, ?_, trivial⟩ ?_
   · exact ⟨fun _ _ => hA0.step (zcs (Below.refl _ _)), fun _ h => Bool.noConfusion h, fun _ h => Bool.noConfusion h, fun h => Bool.noConfusion h⟩
   · refine fun L W hu hd hn hJ => zas (by rfl) hJ ?_
     generalize hev : Act.eval (zaj _ _ _ _) = ev
     have t7 : ev (.tmp 7) = .slice (some ⟨r', 0, none⟩) 6 c' := by rw [← hev]; rfl
     clear hev
     exact zg0
   · refine fun L W hu hd hn hJ => zas (by rfl) hJ ?_
     generalize hev : Act.eval (zaj _ _ _ _) = ev
     have t10 : ev (.tmp 10) = .pointer (some ⟨gx, 0, none⟩) := by rw [← hev]; rfl
     clear hev
     exact zg0
   · refine fun L W hu hd hn hJ => zas (by rfl) hJ ?_
     have hl := zaw _ hn 21 (by decide)
     obtain ⟨nd, hA⟩ : ∃ nd, SyA w gb r' c' gx gf x q1 q2 q3 q4 q5 q6 (nd, s.2) W := (match h0 : L 17 with | false => ⟨_, hJ.1 hl h0⟩ | true => (match h1 : L 19 with | false => ⟨_, hJ.2.1 hl h0 h1⟩ | true => ⟨_, hJ.2.2.1 hl h0 h1⟩))
     clear hJ
     have y := zad hA.bx 1
     generalize hev : Act.eval (zaj _ _ _ _) = ev
     have t89 : ev (.tmp 89) = .pointer (some ⟨gx, 1, none⟩) := by rw [← hev]; rfl
     clear hev
     exact zg0
   · refine fun L W hu hd hn hJ => zas (by rfl) hJ ?_
     generalize hev : Act.eval (zaj _ _ _ _) = ev
     have t8 : ev (.tmp 8) = Value.func (.func 178) #[] #[.pointer (some ⟨gb, 0, none⟩)] := by rw [← hev]; rfl
     clear hev
     exact zg0
   · refine fun L W hu hd hn hJ => zas (by rfl) hJ ?_
     generalize hev : Act.eval (zaj _ _ _ _) = ev
     have t7 : ev (.tmp 7) = .slice (some ⟨r', 0, none⟩) 6 c' := by rw [← hev]; rfl
     clear hev
     exact zg0
   · refine fun L W hu hd hn hJ => zas (by rfl) hJ ?_
     generalize hev : Act.eval (zaj _ _ _ _) = ev
     have t10 : ev (.tmp 10) = .pointer (some ⟨gx, 0, none⟩) := by rw [← hev]; rfl
     clear hev
     exact zg0
   · refine fun L W hu hd hn hJ => zas (by rfl) hJ ?_
     have hl := zaw _ hn 21 (by decide)
     obtain ⟨nd, hA⟩ : ∃ nd, SyA w gb r' c' gx gf x q1 q2 q3 q4 q5 q6 (nd, s.2) W := (match h0 : L 17 with | false => ⟨_, hJ.1 hl h0⟩ | true => (match h1 : L 19 with | false => ⟨_, hJ.2.1 hl h0 h1⟩ | true => ⟨_, hJ.2.2.1 hl h0 h1⟩))
     clear hJ
     have y := zad hA.bx 2
     generalize hev : Act.eval (zaj _ _ _ _) = ev
     have t93 : ev (.tmp 93) = .pointer (some ⟨gx, 2, none⟩) := by rw [← hev]; rfl
     clear hev
     exact zg0
   · refine fun L W hu hd hn hJ => zas (by rfl) hJ ?_
     generalize hev : Act.eval (zaj _ _ _ _) = ev
     have t92 : ev (.tmp 92) = .slice (some ⟨r', 0, none⟩) 6 c' := by rw [← hev]; rfl
     have t94 : ev (.tmp 94) = .int .i64 x.f2 := by rw [← hev]; rfl
     clear hev
     exact zg0
   · refine fun L W hu hd hn hJ => zas (by rfl) hJ ?_
     have hl := zaw _ hn 21 (by decide)
     obtain ⟨nd, hA⟩ : ∃ nd, SyA w gb r' c' gx gf x q1 q2 q3 q4 q5 q6 (nd, s.2) W := (match h0 : L 17 with | false => ⟨_, hJ.1 hl h0⟩ | true => (match h1 : L 19 with | false => ⟨_, hJ.2.1 hl h0 h1⟩ | true => ⟨_, hJ.2.2.1 hl h0 h1⟩))
     clear hJ
     obtain ⟨y, _⟩ := Kd.R_celln 0 hA.nam x.f2 o2 p2
     generalize hev : Act.eval (zaj _ _ _ _) = ev
     have t95 : ev (.tmp 95) = .pointer (some ⟨r', x.f2.toNat, none⟩) := by rw [← hev]; rfl
     clear hev
     exact zg0
   · refine fun L W hu hd hn hJ => zas (by rfl) hJ ?_
     generalize hev : Act.eval (zaj _ _ _ _) = ev
     have t8 : ev (.tmp 8) = Value.func (.func 178) #[] #[.pointer (some ⟨gb, 0, none⟩)] := by rw [← hev]; rfl
     clear hev
     exact zg0
   · refine fun L W hu hd hn hJ => zas (by rfl) hJ ?_
     generalize hev : Act.eval (zaj _ _ _ _) = ev
     have t7 : ev (.tmp 7) = .slice (some ⟨r', 0, none⟩) 6 c' := by rw [← hev]; rfl
     clear hev
     exact zg0
   · refine fun L W hu hd hn hJ => zas (by rfl) hJ ?_
     generalize hev : Act.eval (zaj _ _ _ _) = ev
     have t10 : ev (.tmp 10) = .pointer (some ⟨gx, 0, none⟩) := by rw [← hev]; rfl
     clear hev
     exact zg0
   · refine fun L W hu hd hn hJ => zas (by rfl) hJ ?_
     have hl := zaw _ hn 21 (by decide)
     obtain ⟨nd, hA⟩ : ∃ nd, SyA w gb r' c' gx gf x q1 q2 q3 q4 q5 q6 (nd, s.2) W := (match h0 : L 17 with | false => ⟨_, hJ.1 hl h0⟩ | true => (match h1 : L 19 with | false => ⟨_, hJ.2.1 hl h0 h1⟩ | true => ⟨_, hJ.2.2.1 hl h0 h1⟩))
     clear hJ
     have y := zad hA.bx 3
     generalize hev : Act.eval (zaj _ _ _ _) = ev
     have t99 : ev (.tmp 99) = .pointer (some ⟨gx, 3, none⟩) := by rw [← hev]; rfl
     clear hev
     exact zg0
   · refine fun L W hu hd hn hJ => zas (by rfl) hJ ?_
     generalize hev : Act.eval (zaj _ _ _ _) = ev
     have t98 : ev (.tmp 98) = .slice (some ⟨r', 0, none⟩) 6 c' := by rw [← hev]; rfl
     have t100 : ev (.tmp 100) = .int .i64 x.f3 := by rw [← hev]; rfl
     clear hev
     exact zg0
   · refine fun L W hu hd hn hJ => zas (by rfl) hJ ?_
     have hl := zaw _ hn 21 (by decide)
     obtain ⟨nd, hA⟩ : ∃ nd, SyA w gb r' c' gx gf x q1 q2 q3 q4 q5 q6 (nd, s.2) W := (match h0 : L 17 with | false => ⟨_, hJ.1 hl h0⟩ | true => (match h1 : L 19 with | false => ⟨_, hJ.2.1 hl h0 h1⟩ | true => ⟨_, hJ.2.2.1 hl h0 h1⟩))
     clear hJ
     obtain ⟨y, _⟩ := Kd.R_celln 0 hA.nam x.f3 o3 p3
     generalize hev : Act.eval (zaj _ _ _ _) = ev
     have t101 : ev (.tmp 101) = .pointer (some ⟨r', x.f3.toNat, none⟩) := by rw [← hev]; rfl
     clear hev
     exact zg0
   · refine fun L W hu hd hn hJ => zas (by rfl) hJ ?_
     generalize hev : Act.eval (zaj _ _ _ _) = ev
     have t13 : ev (.tmp 13) = .int .i64 c := by rw [← hev]; rfl
     clear hev
     exact zg0
   · refine fun L W hu hd hn hJ => zas (by rfl) hJ ?_
     generalize hev : Act.eval (zaj _ _ _ _) = ev
     have t102 : ev (.tmp 102) = .int .i64 (rdOf 0 s.2 x.f3) := by rw [← hev]; rfl
     have t103 : ev (.tmp 103) = .int .i64 c := by rw [← hev]; rfl
     have tc : ∀ v, ev (.const v) = v := fun v => by rw [← hev]; rfl
     clear hev
     exact zg0
   · intro L W hu hd hn hJ
     have hl := zaw _ hn 21 (by decide)
     refine zo7 Tryz.func178 zq28 rfl (f := 178) (p := .pointer (some ⟨gb, 0, none⟩)) (v1 := .agg #[.string (⟨#[115, 104, 108]⟩), .int .i64 (rdOf 0 s.2 x.f3), .int .i64 c, .int .i64 0]) (by rfl) rfl (by rfl) (by rfl) ?_
     refine (zr4 (hJ.1 hl hu) NE.out.1 NE.out.2 NEF.out.1 NEF.out.2.1 (⟨#[115, 104, 108]⟩) (rdOf 0 s.2 x.f3) c 0 (by have := HLN.out; simp; omega)).mono ?_
     rintro e W' ⟨he, hA⟩
     exact ⟨he, fun _ h => by simp [riUp] at h, fun _ _ _ => hA, fun _ h0_ h1_ => absurd (h1_.symm.trans (zaw _ hn 19 (by decide))) (by simp), fun h => absurd (h.symm.trans hl) (by simp)⟩
   · refine fun L W hu hd hn hJ => zas (by rfl) hJ ?_
     generalize hev : Act.eval (zaj _ _ _ _) = ev
     have t96 : ev (.tmp 96) = .int .i64 (rdOf 0 s.2 x.f2) := by rw [← hev]; rfl
     have t105 : ev (.tmp 105) = .int .i64 n1.length := by rw [← hev]; rfl
     have tc : ∀ v, ev (.const v) = v := fun v => by rw [← hev]; rfl
     clear hev
     exact zg0
   · intro L W hu hd hn hJ
     have hl := zaw _ hn 21 (by decide)
     have h0 := zaw _ hd 17 (by decide)
     refine zo7 Tryz.func178 zq28 rfl (f := 178) (p := .pointer (some ⟨gb, 0, none⟩)) (v1 := .agg #[.string (⟨#[97, 100, 100]⟩), .int .i64 (rdOf 0 s.2 x.f2), .int .i64 n1.length, .int .i64 0]) (by rfl) rfl (by rfl) (by rfl) ?_
     refine (zr4 (hJ.2.1 hl h0 hu) NE.out.1 NE.out.2 NEF.out.1 NEF.out.2.1 (⟨#[97, 100, 100]⟩) (rdOf 0 s.2 x.f2) n1.length 0 (by have := HLN.out; simp; omega)).mono ?_
     rintro e W' ⟨he, hA⟩
     exact ⟨he, fun _ h => by simp [riUp, h0] at h, fun _ _ h => by simp [riUp] at h, fun _ _ _ => hA, fun h => absurd (h.symm.trans hl) (by simp)⟩
   · refine fun L W hu hd hn hJ => zas (by rfl) hJ ?_
     generalize hev : Act.eval (zaj _ _ _ _) = ev
     have t88 : ev (.tmp 88) = .slice (some ⟨r', 0, none⟩) 6 c' := by rw [← hev]; rfl
     have t90 : ev (.tmp 90) = .int .i64 x.f1 := by rw [← hev]; rfl
     clear hev
     exact zg0
   · intro L W hu hd hn hJ
     have h0 := zaw _ hd 17 (by decide)
     have h1 := zaw _ hd 19 (by decide)
     obtain ⟨vo2, hA⟩ := hJ.2.2.1 hu h0 h1
     have hX := hA.sx.setn x.f1 ((n1 ++ [(⟨(⟨#[115, 104, 108]⟩), (rdOf 0 s.2 x.f3), c, 0⟩ : S62)])).length
     refine zng (by rfl) rfl rfl ⟨fun h => by simp [riUp] at h, fun h => by simp [riUp] at h, fun h => by simp [riUp] at h, fun _ => ⟨vo2, hX⟩⟩ ?_
     obtain ⟨y, y'⟩ := Kd.R_celln 0 hA.sx.nam x.f1 o1 p1
     clear hJ hX
     generalize hev : Act.eval (zaj _ _ _ _) = ev
     have t107 : ev (.tmp 107) = .int .i64 ((n1 ++ [(⟨(⟨#[115, 104, 108]⟩), (rdOf 0 s.2 x.f3), c, 0⟩ : S62)])).length := by rw [← hev]; rfl
     have t108 : ev (.tmp 108) = .pointer (some ⟨r', x.f1.toNat, none⟩) := by rw [← hev]; rfl
     clear hev
     exact zg0
   · intro L W hL hJ
     obtain ⟨vo2, hX⟩ := hJ.2.2.2 (hL 21 rfl)
     have HX2 := zA hX
     clear hX hJ hL hA0
     refine zsr ?_
     go_wp2_with fail
     go_roundw
     case rel =>
       refine ⟨u + 1, _, vo2, by go_num, by omega, HX2, ⟨?_⟩⟩
       have h := HS1.out
       unfold syDo at h
       simp only at h
       rw [if_neg E1.out, if_neg E2.out, if_pos E3.out, ← HN1.out, ← HCC.out] at h
       exact h
     case measure => simp [intOf]; omega
 have b3 : (x.f0.toList == ([108, 101, 97] : List UInt8)) = false := by simpa using e3
 have E3 := zA e3
 have z0 := zad BF.out 0
 have z1 := zad BF.out 1
 have z2 := zad BF.out 2
 have z3 := zad BF.out 3
 have z4 := zad BF.out 4
 have z5 := zad BF.out 5
 clear e1 e2 e3
 by_cases hbt : bi = true
 · subst hbt
   have HIM := zA (zde HBI.out.symm)
   go_wp2_with (go_at_call 129; go_must (refine (zex q1 q2 q3 q4 q5 q6 true _ (by rw [HBI.out]; rfl)).mono ?_; rintro e w12 ⟨rfl, hb⟩; have HA1 := zA (HA0.out.step hb); clear hb z0 z1 z2 z3 z4 z5))
   clear b1 b2 b3 y0
   have hA0 := HA1.out
   refine zmg [[], [], [1], [], [], [4], [], [], [7], [6, 7, 8], [6, 7, 8, 9], [], [4, 5, 6, 7, 8, 9, 10, 11], [3, 4, 5, 6, 7, 8, 9, 10, 11, 12], [0, 1, 2, 3, 4, 5, 6, 7, 8, 9, 10, 11, 12, 13], [0, 1, 2, 3, 4, 5, 6, 7, 8, 9, 10, 11, 12, 13, 14]] [[14, 15], [2, 14, 15], [14, 15], [13, 14, 15], [5, 12, 13, 14, 15], [12, 13, 14, 15], [9, 10, 12, 13, 14, 15], [8, 9, 10, 12, 13, 14, 15], [9, 10, 12, 13, 14, 15], [10, 12, 13, 14, 15], [12, 13, 14, 15], [12, 13, 14, 15], [13, 14, 15], [14, 15], [15], []] (zls [.slice (some ⟨r', 0, none⟩) 6 c', .pointer (some ⟨gx, 1, none⟩), .int .i64 x.f1, Value.func (.func 178) #[] #[.pointer (some ⟨gb, 0, none⟩)], .pointer (some ⟨gf, 5, none⟩), .string q6, .slice (some ⟨r', 0, none⟩) 6 c', .pointer (some ⟨gx, 2, none⟩), .int .i64 x.f2, .pointer (some ⟨r', x.f2.toNat, none⟩), .int .i64 (rdOf 0 s.2 x.f2), .int .i64 c, .agg #[.string q6, .int .i64 (rdOf 0 s.2 x.f2), .int .i64 c, .int .i64 0], .int .i64 n1.length, .pointer (some ⟨r', x.f1.toNat, none⟩), undef]) (fun L W => (L 15 = false → L 13 = false → SyA w gb r' c' gx gf x q1 q2 q3 q4 q5 q6 (n1, s.2) W) ∧ (L 15 = false → L 13 = true → SyA w gb r' c' gx gf x q1 q2 q3 q4 q5 q6 ((n1 ++ [(⟨q6, (rdOf 0 s.2 x.f2), c, 0⟩ : S62)]), s.2) W) ∧ (L 15 = true → ∃ vo2, SyX w gb r' c' 6 ((n1 ++ [(⟨q6, (rdOf 0 s.2 x.f2), c, 0⟩ : S62)]), s.2.set x.f1.toNat n1.length) vo2 W))
     rfl (fun _ _ _ _ _ h => h) zq28 ?_ ⟨?_, ?_, ?_, ?_, ?_, ?_, ?_, ?_, ?_, ?_, ?_, ?_, ?_, ?_, ?_, ?_, trivial⟩ ?_
   · exact ⟨fun _ _ => hA0.step (zcs (Below.refl _ _)), fun _ h => Bool.noConfusion h, fun h => Bool.noConfusion h⟩
   · refine fun L W hu hd hn hJ => zas (by rfl) hJ ?_
     generalize hev : Act.eval (zaj _ _ _ _) = ev
     have t7 : ev (.tmp 7) = .slice (some ⟨r', 0, none⟩) 6 c' := by rw [← hev]; rfl
     clear hev
     exact zg0
   · refine fun L W hu hd hn hJ => zas (by rfl) hJ ?_
     generalize hev : Act.eval (zaj _ _ _ _) = ev
     have t10 : ev (.tmp 10) = .pointer (some ⟨gx, 0, none⟩) := by rw [← hev]; rfl
     clear hev
     exact zg0
   · refine fun L W hu hd hn hJ => zas (by rfl) hJ ?_
     have hl := zaw _ hn 15 (by decide)
     obtain ⟨nd, hA⟩ : ∃ nd, SyA w gb r' c' gx gf x q1 q2 q3 q4 q5 q6 (nd, s.2) W := (match h0 : L 13 with | false => ⟨_, hJ.1 hl h0⟩ | true => ⟨_, hJ.2.1 hl h0⟩)
     clear hJ
     have y := zad hA.bx 1
     generalize hev : Act.eval (zaj _ _ _ _) = ev
     have t113 : ev (.tmp 113) = .pointer (some ⟨gx, 1, none⟩) := by rw [← hev]; rfl
     clear hev
     exact zg0
   · refine fun L W hu hd hn hJ => zas (by rfl) hJ ?_
     generalize hev : Act.eval (zaj _ _ _ _) = ev
     have t8 : ev (.tmp 8) = Value.func (.func 178) #[] #[.pointer (some ⟨gb, 0, none⟩)] := by rw [← hev]; rfl
     clear hev
     exact zg0
   · refine fun L W hu hd hn hJ => zas (by rfl) hJ ?_
     generalize hev : Act.eval (zaj _ _ _ _) = ev
     have t11 : ev (.tmp 11) = .pointer (some ⟨gf, 0, none⟩) := by rw [← hev]; rfl
     clear hev
     exact zg0
   · refine fun L W hu hd hn hJ => zas (by rfl) hJ ?_
     have hl := zaw _ hn 15 (by decide)
     obtain ⟨nd, hA⟩ : ∃ nd, SyA w gb r' c' gx gf x q1 q2 q3 q4 q5 q6 (nd, s.2) W := (match h0 : L 13 with | false => ⟨_, hJ.1 hl h0⟩ | true => ⟨_, hJ.2.1 hl h0⟩)
     clear hJ
     have y := zad hA.bf 5
     generalize hev : Act.eval (zaj _ _ _ _) = ev
     have t116 : ev (.tmp 116) = .pointer (some ⟨gf, 5, none⟩) := by rw [← hev]; rfl
     clear hev
     exact zg0
   · refine fun L W hu hd hn hJ => zas (by rfl) hJ ?_
     generalize hev : Act.eval (zaj _ _ _ _) = ev
     have t7 : ev (.tmp 7) = .slice (some ⟨r', 0, none⟩) 6 c' := by rw [← hev]; rfl
     clear hev
     exact zg0
   · refine fun L W hu hd hn hJ => zas (by rfl) hJ ?_
     generalize hev : Act.eval (zaj _ _ _ _) = ev
     have t10 : ev (.tmp 10) = .pointer (some ⟨gx, 0, none⟩) := by rw [← hev]; rfl
     clear hev
     exact zg0
   · refine fun L W hu hd hn hJ => zas (by rfl) hJ ?_
     have hl := zaw _ hn 15 (by decide)
     obtain ⟨nd, hA⟩ : ∃ nd, SyA w gb r' c' gx gf x q1 q2 q3 q4 q5 q6 (nd, s.2) W := (match h0 : L 13 with | false => ⟨_, hJ.1 hl h0⟩ | true => ⟨_, hJ.2.1 hl h0⟩)
     clear hJ
     have y := zad hA.bx 2
     generalize hev : Act.eval (zaj _ _ _ _) = ev
     have t119 : ev (.tmp 119) = .pointer (some ⟨gx, 2, none⟩) := by rw [← hev]; rfl
     clear hev
     exact zg0
   · refine fun L W hu hd hn hJ => zas (by rfl) hJ ?_
     generalize hev : Act.eval (zaj _ _ _ _) = ev
     have t118 : ev (.tmp 118) = .slice (some ⟨r', 0, none⟩) 6 c' := by rw [← hev]; rfl
     have t120 : ev (.tmp 120) = .int .i64 x.f2 := by rw [← hev]; rfl
     clear hev
     exact zg0
   · refine fun L W hu hd hn hJ => zas (by rfl) hJ ?_
     have hl := zaw _ hn 15 (by decide)
     obtain ⟨nd, hA⟩ : ∃ nd, SyA w gb r' c' gx gf x q1 q2 q3 q4 q5 q6 (nd, s.2) W := (match h0 : L 13 with | false => ⟨_, hJ.1 hl h0⟩ | true => ⟨_, hJ.2.1 hl h0⟩)
     clear hJ
     obtain ⟨y, _⟩ := Kd.R_celln 0 hA.nam x.f2 o2 p2
     generalize hev : Act.eval (zaj _ _ _ _) = ev
     have t121 : ev (.tmp 121) = .pointer (some ⟨r', x.f2.toNat, none⟩) := by rw [← hev]; rfl
     clear hev
     exact zg0
   · refine fun L W hu hd hn hJ => zas (by rfl) hJ ?_
     generalize hev : Act.eval (zaj _ _ _ _) = ev
     have t13 : ev (.tmp 13) = .int .i64 c := by rw [← hev]; rfl
     clear hev
     exact zg0
   · refine fun L W hu hd hn hJ => zas (by rfl) hJ ?_
     generalize hev : Act.eval (zaj _ _ _ _) = ev
     have t117 : ev (.tmp 117) = .string q6 := by rw [← hev]; rfl
     have t122 : ev (.tmp 122) = .int .i64 (rdOf 0 s.2 x.f2) := by rw [← hev]; rfl
     have t123 : ev (.tmp 123) = .int .i64 c := by rw [← hev]; rfl
     have tc : ∀ v, ev (.const v) = v := fun v => by rw [← hev]; rfl
     clear hev
     exact zg0
   · intro L W hu hd hn hJ
     have hl := zaw _ hn 15 (by decide)
     refine zo7 Tryz.func178 zq28 rfl (f := 178) (p := .pointer (some ⟨gb, 0, none⟩)) (v1 := .agg #[.string q6, .int .i64 (rdOf 0 s.2 x.f2), .int .i64 c, .int .i64 0]) (by rfl) rfl (by rfl) (by rfl) ?_
     refine (zr4 (hJ.1 hl hu) NE.out.1 NE.out.2 NEF.out.1 NEF.out.2.1 q6 (rdOf 0 s.2 x.f2) c 0 (by have := HLN.out; simp; omega)).mono ?_
     rintro e W' ⟨he, hA⟩
     exact ⟨he, fun _ h => by simp [riUp] at h, fun _ _ => hA, fun h => absurd (h.symm.trans hl) (by simp)⟩
   · refine fun L W hu hd hn hJ => zas (by rfl) hJ ?_
     generalize hev : Act.eval (zaj _ _ _ _) = ev
     have t112 : ev (.tmp 112) = .slice (some ⟨r', 0, none⟩) 6 c' := by rw [← hev]; rfl
     have t114 : ev (.tmp 114) = .int .i64 x.f1 := by rw [← hev]; rfl
     clear hev
     exact zg0
   · intro L W hu hd hn hJ
     have h0 := zaw _ hd 13 (by decide)
     obtain ⟨vo2, hA⟩ := hJ.2.1 hu h0
     have hX := hA.sx.setn x.f1 n1.length
     refine zng (by rfl) rfl rfl ⟨fun h => by simp [riUp] at h, fun h => by simp [riUp] at h, fun _ => ⟨vo2, hX⟩⟩ ?_
     obtain ⟨y, y'⟩ := Kd.R_celln 0 hA.sx.nam x.f1 o1 p1
     clear hJ hX
     generalize hev : Act.eval (zaj _ _ _ _) = ev
     have t125 : ev (.tmp 125) = .int .i64 n1.length := by rw [← hev]; rfl
     have t126 : ev (.tmp 126) = .pointer (some ⟨r', x.f1.toNat, none⟩) := by rw [← hev]; rfl
     clear hev
     exact zg0
   · intro L W hL hJ
     obtain ⟨vo2, hX⟩ := hJ.2.2 (hL 15 rfl)
     have HX2 := zA hX
     clear hX hJ hL hA0
     refine zsr ?_
     go_wp2_with fail
     go_roundw
     case rel =>
       refine ⟨u + 1, _, vo2, by go_num, by omega, HX2, ⟨?_⟩⟩
       have h := HS1.out
       unfold syDo at h
       simp only at h
       rw [if_neg E1.out, if_neg E2.out, if_neg E3.out, ← HN1.out, ← HCC.out, if_pos HIM.out] at h
       exact h
     case measure => simp [intOf]; omega
 obtain rfl : bi = false := by simpa using hbt
 have HIM := zA (of_decide_eq_false HBI.out.symm)
 clear hbt
 by_cases hq2 : q2 = true
 rotate_left
 · obtain rfl : q2 = false := by simpa using hq2
   clear hq2
   go_wp2_with (go_at_call 129; go_must (refine (zex q1 false q3 q4 q5 q6 false _ (by rw [HBI.out]; rfl)).mono ?_; rintro e w12 ⟨rfl, hb⟩; have HA1 := zA (HA0.out.step hb); have zb := zad HA1.out.bf 1; clear hb z0 z1 z2 z3 z4 z5))
   clear b1 b2 b3 y0 zb
   have hA0 := HA1.out
   refine zmg [[], [], [1], [], [], [4], [], [], [7], [6, 7, 8], [6, 7, 8, 9], [4, 5, 6, 7, 8, 9, 10], [3, 4, 5, 6, 7, 8, 9, 10, 11], [0, 1, 2, 3, 4, 5, 6, 7, 8, 9, 10, 11, 12], [0, 1, 2, 3, 4, 5, 6, 7, 8, 9, 10, 11, 12, 13]] [[13, 14], [2, 13, 14], [13, 14], [12, 13, 14], [5, 11, 12, 13, 14], [11, 12, 13, 14], [9, 10, 11, 12, 13, 14], [8, 9, 10, 11, 12, 13, 14], [9, 10, 11, 12, 13, 14], [10, 11, 12, 13, 14], [11, 12, 13, 14], [12, 13, 14], [13, 14], [14], []] (zls [.slice (some ⟨r', 0, none⟩) 6 c', .pointer (some ⟨gx, 1, none⟩), .int .i64 x.f1, Value.func (.func 178) #[] #[.pointer (some ⟨gb, 0, none⟩)], .pointer (some ⟨gf, 5, none⟩), .string q6, .slice (some ⟨r', 0, none⟩) 6 c', .pointer (some ⟨gx, 2, none⟩), .int .i64 x.f2, .pointer (some ⟨r', x.f2.toNat, none⟩), .int .i64 (rdOf 0 s.2 x.f2), .agg #[.string q6, .int .i64 (rdOf 0 s.2 x.f2), .int .i64 0, .int .i64 0], .int .i64 n1.length, .pointer (some ⟨r', x.f1.toNat, none⟩), undef]) (fun L W => (L 14 = false → L 12 = false → SyA w gb r' c' gx gf x q1 false q3 q4 q5 q6 (n1, s.2) W) ∧ (L 14 = false → L 12 = true → SyA w gb r' c' gx gf x q1 false q3 q4 q5 q6 ((n1 ++ [(⟨q6, (rdOf 0 s.2 x.f2), 0, 0⟩ : S62)]), s.2) W) ∧ (L 14 = true → ∃ vo2, SyX w gb r' c' 6 ((n1 ++ [(⟨q6, (rdOf 0 s.2 x.f2), 0, 0⟩ : S62)]), s.2.set x.f1.toNat n1.length) vo2 W))
     rfl (fun _ _ _ _ _ h => h) zq28 ?_ ⟨?_, ?_, ?_, ?_, ?_, ?_, ?_, ?_, ?_, ?_, ?_, ?_, ?_, ?_, ?_, trivial⟩ ?_
   · exact ⟨fun _ _ => hA0.step (zcs (Below.refl _ _)), fun _ h => Bool.noConfusion h, fun h => Bool.noConfusion h⟩
   · refine fun L W hu hd hn hJ => zas (by rfl) hJ ?_
     generalize hev : Act.eval (zaj _ _ _ _) = ev
     have t7 : ev (.tmp 7) = .slice (some ⟨r', 0, none⟩) 6 c' := by rw [← hev]; rfl
     clear hev
     exact zg0
   · refine fun L W hu hd hn hJ => zas (by rfl) hJ ?_
     generalize hev : Act.eval (zaj _ _ _ _) = ev
     have t10 : ev (.tmp 10) = .pointer (some ⟨gx, 0, none⟩) := by rw [← hev]; rfl
     clear hev
     exact zg0
   · refine fun L W hu hd hn hJ => zas (by rfl) hJ ?_
     have hl := zaw _ hn 14 (by decide)
     obtain ⟨nd, hA⟩ : ∃ nd, SyA w gb r' c' gx gf x q1 false q3 q4 q5 q6 (nd, s.2) W := (match h0 : L 12 with | false => ⟨_, hJ.1 hl h0⟩ | true => ⟨_, hJ.2.1 hl h0⟩)
     clear hJ
     have y := zad hA.bx 1
     generalize hev : Act.eval (zaj _ _ _ _) = ev
     have t49 : ev (.tmp 49) = .pointer (some ⟨gx, 1, none⟩) := by rw [← hev]; rfl
     clear hev
     exact zg0
   · refine fun L W hu hd hn hJ => zas (by rfl) hJ ?_
     generalize hev : Act.eval (zaj _ _ _ _) = ev
     have t8 : ev (.tmp 8) = Value.func (.func 178) #[] #[.pointer (some ⟨gb, 0, none⟩)] := by rw [← hev]; rfl
     clear hev
     exact zg0
   · refine fun L W hu hd hn hJ => zas (by rfl) hJ ?_
     generalize hev : Act.eval (zaj _ _ _ _) = ev
     have t11 : ev (.tmp 11) = .pointer (some ⟨gf, 0, none⟩) := by rw [← hev]; rfl
     clear hev
     exact zg0
   · refine fun L W hu hd hn hJ => zas (by rfl) hJ ?_
     have hl := zaw _ hn 14 (by decide)
     obtain ⟨nd, hA⟩ : ∃ nd, SyA w gb r' c' gx gf x q1 false q3 q4 q5 q6 (nd, s.2) W := (match h0 : L 12 with | false => ⟨_, hJ.1 hl h0⟩ | true => ⟨_, hJ.2.1 hl h0⟩)
     clear hJ
     have y := zad hA.bf 5
     generalize hev : Act.eval (zaj _ _ _ _) = ev
     have t52 : ev (.tmp 52) = .pointer (some ⟨gf, 5, none⟩) := by rw [← hev]; rfl
     clear hev
     exact zg0
   · refine fun L W hu hd hn hJ => zas (by rfl) hJ ?_
     generalize hev : Act.eval (zaj _ _ _ _) = ev
     have t7 : ev (.tmp 7) = .slice (some ⟨r', 0, none⟩) 6 c' := by rw [← hev]; rfl
     clear hev
     exact zg0
   · refine fun L W hu hd hn hJ => zas (by rfl) hJ ?_
     generalize hev : Act.eval (zaj _ _ _ _) = ev
     have t10 : ev (.tmp 10) = .pointer (some ⟨gx, 0, none⟩) := by rw [← hev]; rfl
     clear hev
     exact zg0
   · refine fun L W hu hd hn hJ => zas (by rfl) hJ ?_
     have hl := zaw _ hn 14 (by decide)
     obtain ⟨nd, hA⟩ : ∃ nd, SyA w gb r' c' gx gf x q1 false q3 q4 q5 q6 (nd, s.2) W := (match h0 : L 12 with | false => ⟨_, hJ.1 hl h0⟩ | true => ⟨_, hJ.2.1 hl h0⟩)
     clear hJ
     have y := zad hA.bx 2
     generalize hev : Act.eval (zaj _ _ _ _) = ev
     have t55 : ev (.tmp 55) = .pointer (some ⟨gx, 2, none⟩) := by rw [← hev]; rfl
     clear hev
     exact zg0
   · refine fun L W hu hd hn hJ => zas (by rfl) hJ ?_
     generalize hev : Act.eval (zaj _ _ _ _) = ev
     have t54 : ev (.tmp 54) = .slice (some ⟨r', 0, none⟩) 6 c' := by rw [← hev]; rfl
     have t56 : ev (.tmp 56) = .int .i64 x.f2 := by rw [← hev]; rfl
     clear hev
     exact zg0
   · refine fun L W hu hd hn hJ => zas (by rfl) hJ ?_
     have hl := zaw _ hn 14 (by decide)
     obtain ⟨nd, hA⟩ : ∃ nd, SyA w gb r' c' gx gf x q1 false q3 q4 q5 q6 (nd, s.2) W := (match h0 : L 12 with | false => ⟨_, hJ.1 hl h0⟩ | true => ⟨_, hJ.2.1 hl h0⟩)
     clear hJ
     obtain ⟨y, _⟩ := Kd.R_celln 0 hA.nam x.f2 o2 p2
     generalize hev : Act.eval (zaj _ _ _ _) = ev
     have t57 : ev (.tmp 57) = .pointer (some ⟨r', x.f2.toNat, none⟩) := by rw [← hev]; rfl
     clear hev
     exact zg0
   · refine fun L W hu hd hn hJ => zas (by rfl) hJ ?_
     generalize hev : Act.eval (zaj _ _ _ _) = ev
     have t53 : ev (.tmp 53) = .string q6 := by rw [← hev]; rfl
     have t58 : ev (.tmp 58) = .int .i64 (rdOf 0 s.2 x.f2) := by rw [← hev]; rfl
     have tc : ∀ v, ev (.const v) = v := fun v => by rw [← hev]; rfl
     clear hev
     exact zg0
   · intro L W hu hd hn hJ
     have hl := zaw _ hn 14 (by decide)
     refine zo7 Tryz.func178 zq28 rfl (f := 178) (p := .pointer (some ⟨gb, 0, none⟩)) (v1 := .agg #[.string q6, .int .i64 (rdOf 0 s.2 x.f2), .int .i64 0, .int .i64 0]) (by rfl) rfl (by rfl) (by rfl) ?_
     refine (zr4 (hJ.1 hl hu) NE.out.1 NE.out.2 NEF.out.1 NEF.out.2.1 q6 (rdOf 0 s.2 x.f2) 0 0 (by have := HLN.out; simp; omega)).mono ?_
     rintro e W' ⟨he, hA⟩
     exact ⟨he, fun _ h => by simp [riUp] at h, fun _ _ => hA, fun h => absurd (h.symm.trans hl) (by simp)⟩
   · refine fun L W hu hd hn hJ => zas (by rfl) hJ ?_
     generalize hev : Act.eval (zaj _ _ _ _) = ev
     have t48 : ev (.tmp 48) = .slice (some ⟨r', 0, none⟩) 6 c' := by rw [← hev]; rfl
     have t50 : ev (.tmp 50) = .int .i64 x.f1 := by rw [← hev]; rfl
     clear hev
     exact zg0
   · intro L W hu hd hn hJ
     have h0 := zaw _ hd 12 (by decide)
     obtain ⟨vo2, hA⟩ := hJ.2.1 hu h0
     have hX := hA.sx.setn x.f1 n1.length
     refine zng (by rfl) rfl rfl ⟨fun h => by simp [riUp] at h, fun h => by simp [riUp] at h, fun _ => ⟨vo2, hX⟩⟩ ?_
     obtain ⟨y, y'⟩ := Kd.R_celln 0 hA.sx.nam x.f1 o1 p1
     clear hJ hX
     generalize hev : Act.eval (zaj _ _ _ _) = ev
     have t60 : ev (.tmp 60) = .int .i64 n1.length := by rw [← hev]; rfl
     have t61 : ev (.tmp 61) = .pointer (some ⟨r', x.f1.toNat, none⟩) := by rw [← hev]; rfl
     clear hev
     exact zg0
   · intro L W hL hJ
     obtain ⟨vo2, hX⟩ := hJ.2.2 (hL 14 rfl)
     have HX2 := zA hX
     clear hX hJ hL hA0
     refine zsr ?_
     go_wp2_with fail
     go_roundw
     case rel =>
       refine ⟨u + 1, _, vo2, by go_num, by omega, HX2, ⟨?_⟩⟩
       have h := HS1.out
       unfold syDo at h
       simp only at h
       rw [if_neg E1.out, if_neg E2.out, if_neg E3.out, ← HN1.out, if_neg (by have := HIM.out; omega), if_neg (by decide)] at h
       exact h
     case measure => simp [intOf]; omega
 subst hq2
 go_wp2_with (go_at_call 129; go_must (refine (zex q1 true q3 q4 q5 q6 false _ (by rw [HBI.out]; rfl)).mono ?_; rintro e w12 ⟨rfl, hb⟩; have HA1 := zA (HA0.out.step hb); have zb := zad HA1.out.bf 1; clear hb z0 z1 z2 z3 z4 z5))
 clear b1 b2 b3 y0 zb
 have hA0 := HA1.out
 refine zmg [[], [], [1], [], [], [4], [], [], [7], [6, 7, 8], [6, 7, 8, 9], [], [], [12], [11, 12, 13], [11, 12, 13, 14], [4, 5, 6, 7, 8, 9, 10, 11, 12, 13, 14, 15], [3, 4, 5, 6, 7, 8, 9, 10, 11, 12, 13, 14, 15, 16], [0, 1, 2, 3, 4, 5, 6, 7, 8, 9, 10, 11, 12, 13, 14, 15, 16, 17], [0, 1, 2, 3, 4, 5, 6, 7, 8, 9, 10, 11, 12, 13, 14, 15, 16, 17, 18]] [[18, 19], [2, 18, 19], [18, 19], [17, 18, 19], [5, 16, 17, 18, 19], [16, 17, 18, 19], [9, 10, 16, 17, 18, 19], [8, 9, 10, 16, 17, 18, 19], [9, 10, 16, 17, 18, 19], [10, 16, 17, 18, 19], [16, 17, 18, 19], [14, 15, 16, 17, 18, 19], [13, 14, 15, 16, 17, 18, 19], [14, 15, 16, 17, 18, 19], [15, 16, 17, 18, 19], [16, 17, 18, 19], [17, 18, 19], [18, 19], [19], []] (zls [.slice (some ⟨r', 0, none⟩) 6 c', .pointer (some ⟨gx, 1, none⟩), .int .i64 x.f1, Value.func (.func 178) #[] #[.pointer (some ⟨gb, 0, none⟩)], .pointer (some ⟨gf, 5, none⟩), .string q6, .slice (some ⟨r', 0, none⟩) 6 c', .pointer (some ⟨gx, 2, none⟩), .int .i64 x.f2, .pointer (some ⟨r', x.f2.toNat, none⟩), .int .i64 (rdOf 0 s.2 x.f2), .slice (some ⟨r', 0, none⟩) 6 c', .pointer (some ⟨gx, 3, none⟩), .int .i64 x.f3, .pointer (some ⟨r', x.f3.toNat, none⟩), .int .i64 (rdOf 0 s.2 x.f3), .agg #[.string q6, .int .i64 (rdOf 0 s.2 x.f2), .int .i64 (rdOf 0 s.2 x.f3), .int .i64 0], .int .i64 n1.length, .pointer (some ⟨r', x.f1.toNat, none⟩), undef]) (fun L W => (L 19 = false → L 17 = false → SyA w gb r' c' gx gf x q1 true q3 q4 q5 q6 (n1, s.2) W) ∧ (L 19 = false → L 17 = true → SyA w gb r' c' gx gf x q1 true q3 q4 q5 q6 ((n1 ++ [(⟨q6, (rdOf 0 s.2 x.f2), (rdOf 0 s.2 x.f3), 0⟩ : S62)]), s.2) W) ∧ (L 19 = true → ∃ vo2, SyX w gb r' c' 6 ((n1 ++ [(⟨q6, (rdOf 0 s.2 x.f2), (rdOf 0 s.2 x.f3), 0⟩ : S62)]), s.2.set x.f1.toNat n1.length) vo2 W))
   rfl (fun _ _ _ _ _ h => h) zq28 ?_ ⟨?_, ?_, ?_, ?_, ?_, ?_, ?_, ?_, ?_, ?_, ?_, ?_, ?_, ?_, ?_, ?_, ?_, ?_, ?_, ?_, trivial⟩ ?_
 · exact ⟨fun _ _ => hA0.step (zcs (Below.refl _ _)), fun _ h => Bool.noConfusion h, fun h => Bool.noConfusion h⟩
 · refine fun L W hu hd hn hJ => zas (by rfl) hJ ?_
   generalize hev : Act.eval (zaj _ _ _ _) = ev
   have t7 : ev (.tmp 7) = .slice (some ⟨r', 0, none⟩) 6 c' := by rw [← hev]; rfl
   clear hev
   exact zg0
 · refine fun L W hu hd hn hJ => zas (by rfl) hJ ?_
   generalize hev : Act.eval (zaj _ _ _ _) = ev
   have t10 : ev (.tmp 10) = .pointer (some ⟨gx, 0, none⟩) := by rw [← hev]; rfl
   clear hev
   exact zg0
 · refine fun L W hu hd hn hJ => zas (by rfl) hJ ?_
   have hl := zaw _ hn 19 (by decide)
   obtain ⟨nd, hA⟩ : ∃ nd, SyA w gb r' c' gx gf x q1 true q3 q4 q5 q6 (nd, s.2) W := (match h0 : L 17 with | false => ⟨_, hJ.1 hl h0⟩ | true => ⟨_, hJ.2.1 hl h0⟩)
   clear hJ
   have y := zad hA.bx 1
   generalize hev : Act.eval (zaj _ _ _ _) = ev
   have t131 : ev (.tmp 131) = .pointer (some ⟨gx, 1, none⟩) := by rw [← hev]; rfl
   clear hev
   exact zg0
 · refine fun L W hu hd hn hJ => zas (by rfl) hJ ?_
   generalize hev : Act.eval (zaj _ _ _ _) = ev
   have t8 : ev (.tmp 8) = Value.func (.func 178) #[] #[.pointer (some ⟨gb, 0, none⟩)] := by rw [← hev]; rfl
   clear hev
   exact zg0
 · refine fun L W hu hd hn hJ => zas (by rfl) hJ ?_
   generalize hev : Act.eval (zaj _ _ _ _) = ev
   have t11 : ev (.tmp 11) = .pointer (some ⟨gf, 0, none⟩) := by rw [← hev]; rfl
   clear hev
   exact zg0
 · refine fun L W hu hd hn hJ => zas (by rfl) hJ ?_
   have hl := zaw _ hn 19 (by decide)
   obtain ⟨nd, hA⟩ : ∃ nd, SyA w gb r' c' gx gf x q1 true q3 q4 q5 q6 (nd, s.2) W := (match h0 : L 17 with | false => ⟨_, hJ.1 hl h0⟩ | true => ⟨_, hJ.2.1 hl h0⟩)
   clear hJ
   have y := zad hA.bf 5
   generalize hev : Act.eval (zaj _ _ _ _) = ev
   have t134 : ev (.tmp 134) = .pointer (some ⟨gf, 5, none⟩) := by rw [← hev]; rfl
   clear hev
   exact zg0
 · refine fun L W hu hd hn hJ => zas (by rfl) hJ ?_
   generalize hev : Act.eval (zaj _ _ _ _) = ev
   have t7 : ev (.tmp 7) = .slice (some ⟨r', 0, none⟩) 6 c' := by rw [← hev]; rfl
   clear hev
   exact zg0
 · refine fun L W hu hd hn hJ => zas (by rfl) hJ ?_
   generalize hev : Act.eval (zaj _ _ _ _) = ev
   have t10 : ev (.tmp 10) = .pointer (some ⟨gx, 0, none⟩) := by rw [← hev]; rfl
   clear hev
   exact zg0
 · refine fun L W hu hd hn hJ => zas (by rfl) hJ ?_
   have hl := zaw _ hn 19 (by decide)
   obtain ⟨nd, hA⟩ : ∃ nd, SyA w gb r' c' gx gf x q1 true q3 q4 q5 q6 (nd, s.2) W := (match h0 : L 17 with | false => ⟨_, hJ.1 hl h0⟩ | true => ⟨_, hJ.2.1 hl h0⟩)
   clear hJ
   have y := zad hA.bx 2
   generalize hev : Act.eval (zaj _ _ _ _) = ev
   have t137 : ev (.tmp 137) = .pointer (some ⟨gx, 2, none⟩) := by rw [← hev]; rfl
   clear hev
   exact zg0
 · refine fun L W hu hd hn hJ => zas (by rfl) hJ ?_
   generalize hev : Act.eval (zaj _ _ _ _) = ev
   have t136 : ev (.tmp 136) = .slice (some ⟨r', 0, none⟩) 6 c' := by rw [← hev]; rfl
   have t138 : ev (.tmp 138) = .int .i64 x.f2 := by rw [← hev]; rfl
   clear hev
   exact zg0
 · refine fun L W hu hd hn hJ => zas (by rfl) hJ ?_
   have hl := zaw _ hn 19 (by decide)
   obtain ⟨nd, hA⟩ : ∃ nd, SyA w gb r' c' gx gf x q1 true q3 q4 q5 q6 (nd, s.2) W := (match h0 : L 17 with | false => ⟨_, hJ.1 hl h0⟩ | true => ⟨_, hJ.2.1 hl h0⟩)
   clear hJ
   obtain ⟨y, _⟩ := Kd.R_celln 0 hA.nam x.f2 o2 p2
   generalize hev : Act.eval (zaj _ _ _ _) = ev
   have t139 : ev (.tmp 139) = .pointer (some ⟨r', x.f2.toNat, none⟩) := by rw [← hev]; rfl
   clear hev
   exact zg0
 · refine fun L W hu hd hn hJ => zas (by rfl) hJ ?_
   generalize hev : Act.eval (zaj _ _ _ _) = ev
   have t7 : ev (.tmp 7) = .slice (some ⟨r', 0, none⟩) 6 c' := by rw [← hev]; rfl
   clear hev
   exact zg0
 · refine fun L W hu hd hn hJ => zas (by rfl) hJ ?_
   generalize hev : Act.eval (zaj _ _ _ _) = ev
   have t10 : ev (.tmp 10) = .pointer (some ⟨gx, 0, none⟩) := by rw [← hev]; rfl
   clear hev
   exact zg0
 · refine fun L W hu hd hn hJ => zas (by rfl) hJ ?_
   have hl := zaw _ hn 19 (by decide)
   obtain ⟨nd, hA⟩ : ∃ nd, SyA w gb r' c' gx gf x q1 true q3 q4 q5 q6 (nd, s.2) W := (match h0 : L 17 with | false => ⟨_, hJ.1 hl h0⟩ | true => ⟨_, hJ.2.1 hl h0⟩)
   clear hJ
   have y := zad hA.bx 3
   generalize hev : Act.eval (zaj _ _ _ _) = ev
   have t142 : ev (.tmp 142) = .pointer (some ⟨gx, 3, none⟩) := by rw [← hev]; rfl
   clear hev
   exact zg0
 · refine fun L W hu hd hn hJ => zas (by rfl) hJ ?_
   generalize hev : Act.eval (zaj _ _ _ _) = ev
   have t141 : ev (.tmp 141) = .slice (some ⟨r', 0, none⟩) 6 c' := by rw [← hev]; rfl
   have t143 : ev (.tmp 143) = .int .i64 x.f3 := by rw [← hev]; rfl
   clear hev
   exact zg0
 · refine fun L W hu hd hn hJ => zas (by rfl) hJ ?_
   have hl := zaw _ hn 19 (by decide)
   obtain ⟨nd, hA⟩ : ∃ nd, SyA w gb r' c' gx gf x q1 true q3 q4 q5 q6 (nd, s.2) W := (match h0 : L 17 with | false => ⟨_, hJ.1 hl h0⟩ | true => ⟨_, hJ.2.1 hl h0⟩)
   clear hJ
   obtain ⟨y, _⟩ := Kd.R_celln 0 hA.nam x.f3 o3 p3
   generalize hev : Act.eval (zaj _ _ _ _) = ev
   have t144 : ev (.tmp 144) = .pointer (some ⟨r', x.f3.toNat, none⟩) := by rw [← hev]; rfl
   clear hev
   exact zg0
 · refine fun L W hu hd hn hJ => zas (by rfl) hJ ?_
   generalize hev : Act.eval (zaj _ _ _ _) = ev
   have t135 : ev (.tmp 135) = .string q6 := by rw [← hev]; rfl
   have t140 : ev (.tmp 140) = .int .i64 (rdOf 0 s.2 x.f2) := by rw [← hev]; rfl
   have t145 : ev (.tmp 145) = .int .i64 (rdOf 0 s.2 x.f3) := by rw [← hev]; rfl
   have tc : ∀ v, ev (.const v) = v := fun v => by rw [← hev]; rfl
   clear hev
   exact zg0
 · intro L W hu hd hn hJ
   have hl := zaw _ hn 19 (by decide)
   refine zo7 Tryz.func178 zq28 rfl (f := 178) (p := .pointer (some ⟨gb, 0, none⟩)) (v1 := .agg #[.string q6, .int .i64 (rdOf 0 s.2 x.f2), .int .i64 (rdOf 0 s.2 x.f3), .int .i64 0]) (by rfl) rfl (by rfl) (by rfl) ?_
   refine (zr4 (hJ.1 hl hu) NE.out.1 NE.out.2 NEF.out.1 NEF.out.2.1 q6 (rdOf 0 s.2 x.f2) (rdOf 0 s.2 x.f3) 0 (by have := HLN.out; simp; omega)).mono ?_
   rintro e W' ⟨he, hA⟩
   exact ⟨he, fun _ h => by simp [riUp] at h, fun _ _ => hA, fun h => absurd (h.symm.trans hl) (by simp)⟩
 · refine fun L W hu hd hn hJ => zas (by rfl) hJ ?_
   generalize hev : Act.eval (zaj _ _ _ _) = ev
   have t130 : ev (.tmp 130) = .slice (some ⟨r', 0, none⟩) 6 c' := by rw [← hev]; rfl
   have t132 : ev (.tmp 132) = .int .i64 x.f1 := by rw [← hev]; rfl
   clear hev
   exact zg0
 · intro L W hu hd hn hJ
   have h0 := zaw _ hd 17 (by decide)
   obtain ⟨vo2, hA⟩ := hJ.2.1 hu h0
   have hX := hA.sx.setn x.f1 n1.length
   refine zng (by rfl) rfl rfl ⟨fun h => by simp [riUp] at h, fun h => by simp [riUp] at h, fun _ => ⟨vo2, hX⟩⟩ ?_
   obtain ⟨y, y'⟩ := Kd.R_celln 0 hA.sx.nam x.f1 o1 p1
   clear hJ hX
   generalize hev : Act.eval (zaj _ _ _ _) = ev
   have t147 : ev (.tmp 147) = .int .i64 n1.length := by rw [← hev]; rfl
   have t148 : ev (.tmp 148) = .pointer (some ⟨r', x.f1.toNat, none⟩) := by rw [← hev]; rfl
   clear hev
   exact zg0
 · intro L W hL hJ
   obtain ⟨vo2, hX⟩ := hJ.2.2 (hL 19 rfl)
   have HX2 := zA hX
   clear hX hJ hL hA0
   refine zsr ?_
   go_wp2_with fail
   go_roundw
   case rel =>
     refine ⟨u + 1, _, vo2, by go_num, by omega, HX2, ⟨?_⟩⟩
     have h := HS1.out
     unfold syDo at h
     simp only at h
     rw [if_neg E1.out, if_neg E2.out, if_neg E3.out, ← HN1.out, if_neg (by have := HIM.out; omega), if_pos trivial] at h
     exact h
   case measure => simp [intOf]; omega
theorem zrf : ∀ a0 a1 k, LeO (zek k a0 a1) (zek (k + 1) a0 a1) := by
 intro a0 a1 k
 unfold zek
 exact zbi (LeO.bind (LeO.refl _) (fun _ => zbi (LeO.bind (zoc _ _ _) (fun _ => LeO.bind (zkj _ _) (fun _ => LeO.bind (zre _ _) (fun _ => LeO.refl _)))) (LeO.refl _))) (LeO.refl _)
def zgj (k : Nat) (l0 : List (S69)) (a1 : Int) : Option ((List (S62)) × Bool) := (zek k l0 a1).bind fun bt101 => (if bt101.2 = true then ((zfy k bt101.1).bind fun t105 => ((zbo k t105).bind fun t108 => (some (t108, true)))) else (some (([] : List (S62)), false)))
theorem znj : ∀ a0 a1 k, LeO (zgj k a0 a1) (zgj (k + 1) a0 a1) := by
 intro a0 a1 k
 unfold zgj
 exact zm3 zsy zqg zrf
theorem zeo (k : Nat) (A0 : Option Addr) (c0 : Nat) (l0 : List (S69)) (a1 : Int) (r1 : List (S62)) (r2 : Bool) (w : World) (hr0 : Kd.C k69 w A0 l0.length l0) (hc0 : l0.length ≤ c0) (h : zgj k l0 a1 = some (r1, r2)) :
   Calls Tryz.prog 108 #[.slice A0 l0.length c0, .int .i64 a1] w fun e w' => ∃ v0_ : Value, e = .returned (.tuple #[v0_, .bool r2]) ∧ Kd.R k62 62 w' w.heap.size (fun _ => True) v0_ r1 ∧ Below w.heap.size w w' := by
 have HR0 := zA hr0
 have HC0 := zA hc0
 clear hr0 hc0
 have HB := zA (Below.refl w.heap.size w)
 have H := h
 unfold zgj at H
 clear h
 replace H := zob H
 obtain ⟨⟨t101, t102⟩, A30, H⟩ := H
 have A3 := zA A30
 clear A30
 by_cases c4 : t102 = true
 rotate_left
 · replace c4 := zbf c4
   subst c4
   replace H := zif H
   simp only [Option.some.injEq, Prod.mk.injEq] at H
   obtain ⟨rfl, rfl⟩ := H
   go_enter Tryz.func108, Tryz.ntmps108
   go_wp2_with (first | ((with_reducible refine zgc 147 ?_); refine zca 11 Tryz.func147 #[.slice A0 l0.length c0, .int .i64 a1] (zl3 k _ _ l0 a1 t101 false _ (zq10 HR0) HC0.out A3.out) ?_; rintro e w12 ⟨v103, rfl, ho0, hb⟩; refine ⟨_, rfl, ?_⟩; have HO104 := zA (Kd.R_lower ho0 (zag zq1)); replace HB := zA (zab zq1 hb); (try clear hb); (try clear ho0)))
   go_ret2
   exact ⟨_, zq4, zq38, zq1⟩
 subst c4
 replace H := zih H
 replace H := zob H
 obtain ⟨t105, A50, H⟩ := H
 have A5 := zA A50
 clear A50
 replace H := zob H
 obtain ⟨t108, A60, H⟩ := H
 have A6 := zA A60
 clear A60
 simp only [Option.some.injEq, Prod.mk.injEq] at H
 obtain ⟨rfl, rfl⟩ := H
 go_enter Tryz.func108, Tryz.ntmps108
 go_wp2_with (first | ((with_reducible refine zgc 147 ?_); refine zca 11 Tryz.func147 #[.slice A0 l0.length c0, .int .i64 a1] (zl3 k _ _ l0 a1 t101 true _ (zq10 HR0) HC0.out A3.out) ?_; rintro e w7 ⟨v103, rfl, ho0, hb⟩; refine ⟨_, rfl, ?_⟩; have HO104 := zA (Kd.R_lower ho0 (zag zq1)); replace HB := zA (zab zq1 hb); (try clear hb); (try clear ho0); obtain ⟨Ao8, co8, eo8⟩ := Kd.R_slice HO104.out; subst eo8) | ((with_reducible refine zgc 149 ?_); refine zca 17 Tryz.func149 #[.slice Ao8 t101.length co8] (zr1 k _ _ t101 t105 _ (zq19 HO104) (zq47 HO104) A5.out) ?_; rintro e w9 ⟨v106, rfl, ho0, hb⟩; refine ⟨_, rfl, ?_⟩; have HO107 := zA (Kd.R_lower (Kd.R_new' ho0 (Kd.R_lt (zq2 HO104))) (zag zq1)); replace HO104 := zA (Kd.R_elder' (zq2 HO104) (Kd.R_base ho0) hb); replace HB := zA (zab zq1 hb); (try clear hb); (try clear ho0); obtain ⟨Ao10, co10, eo10⟩ := Kd.R_slice HO107.out; subst eo10) | ((with_reducible refine zgc 148 ?_); refine zca 18 Tryz.func148 #[.slice Ao10 t105.length co10] (zpa k _ _ t105 t108 _ (zq19 HO107) (zq47 HO107) A6.out) ?_; rintro e w11 ⟨v109, rfl, ho0, hb⟩; refine ⟨_, rfl, ?_⟩; have HO110 := zA (Kd.R_lower (Kd.R_new' (Kd.R_new' ho0 (Kd.R_lt (zq2 HO104))) (Kd.R_lt (zq2 HO107))) (zag zq1)); replace HO104 := zA (Kd.R_elder' (zq2 HO104) (Kd.R_base ho0) hb); replace HO107 := zA (Kd.R_elder' (zq2 HO107) (Kd.R_base ho0) hb); replace HB := zA (zab zq1 hb); (try clear hb); (try clear ho0)))
 go_ret2
 exact ⟨_, zq4, zq24 HO110, zq1⟩
def zb7 : Nat → List (S69) → List (S69) → Bool → List Int → Int → Int → Option (Bool × Bool)
 | 0, _, _, _, _, _, _ => none
 | k + 1, x0, x1, x8, x20, x21, x22 => if x22 < x21 then (if 0 ≤ x22 then (if x22 < (x20.length : Int) then ((zgj k x0 (rd x20 x22)).bind fun bt103 => ((zgj k x1 (rd x20 x22)).bind fun bt107 => (if bt103.2 = true then (if bt107.2 = true then (if x8 = true then ((ze6 k bt103.1 bt107.1).bind fun t111 => (zb7 k x0 x1 t111 x20 x21 (wrap64 (x22 + 1)))) else (zb7 k x0 x1 false x20 x21 (wrap64 (x22 + 1)))) else (some (false, false))) else (some (false, false))))) else (none)) else (none)) else (some (x8, true))
def zfa (k : Nat) (l0 : List (S69)) (l1 : List (S69)) (l2 : List Int) : Option (Bool × Bool) := (zcx k l0 l1 l2).bind fun t101 => (if t101 = true then (zb7 k l0 l1 true l2 (l2.length : Int) 0) else (some (false, false)))
theorem zj2 : ∀ k, (∀ y0 y1 y2 y3 y4 y5, LeO (zb7 k y0 y1 y2 y3 y4 y5) (zb7 (k + 1) y0 y1 y2 y3 y4 y5))
 | 0 => fun _ _ _ _ _ _ r h => by simp [zb7] at h
 | k + 1 => by
   have ih0 := zj2 k
   · intro y0 y1 y2 y3 y4 y5
     unfold zb7
     exact zm4 ih0 zk2 zd7 znj
theorem zpb : ∀ a0 a1 a2 k, LeO (zfa k a0 a1 a2) (zfa (k + 1) a0 a1 a2) := by
 intro a0 a1 a2 k
 have ih0 := zj2 k
 unfold zfa
 exact zm4 ih0 zk2 zd7 znj
theorem zic (k : Nat) (A0 : Option Addr) (c0 : Nat) (l0 : List (S69)) (A1 : Option Addr) (c1 : Nat) (l1 : List (S69)) (A2 : Option Addr) (c2 : Nat) (l2 : List Int) (r1 : Bool) (r2 : Bool) (w : World) (hr0 : Kd.C k69 w A0 l0.length l0) (hc0 : l0.length ≤ c0) (hr1 : Kd.C k69 w A1 l1.length l1) (hc1 : l1.length ≤ c1) (hr2 : Kd.C (Kd.int .i64) w A2 l2.length l2) (hc2 : l2.length ≤ c2) (h : zfa k l0 l1 l2 = some (r1, r2)) :
   Calls Tryz.prog 75 #[.slice A0 l0.length c0, .slice A1 l1.length c1, .slice A2 l2.length c2] w fun e w' => e = .returned (.tuple #[.bool r1, .bool r2]) ∧ Below w.heap.size w w' := by
 have HR0 := zA hr0
 have HC0 := zA hc0
 clear hr0 hc0
 have HR1 := zA hr1
 have HC1 := zA hc1
 clear hr1 hc1
 have HR2 := zA hr2
 have HC2 := zA hc2
 clear hr2 hc2
 have HB := zA (Below.refl w.heap.size w)
 have H := h
 unfold zfa at H
 clear h
 replace H := zob H
 obtain ⟨t101, A40, H⟩ := H
 have A4 := zA A40
 clear A40
 by_cases c5 : t101 = true
 rotate_left
 · replace c5 := zbf c5
   subst c5
   replace H := zif H
   simp only [Option.some.injEq, Prod.mk.injEq] at H
   obtain ⟨rfl, rfl⟩ := H
   go_enter Tryz.func75, Tryz.ntmps75
   go_wp2_with (first | ((with_reducible refine zgc 74 ?_); refine zca 18 Tryz.func74 #[.slice A0 l0.length c0, .slice A1 l1.length c1, .slice A2 l2.length c2] (zbg k _ _ l0 _ _ l1 _ _ l2 false _ (zq10 HR0) HC0.out (zq10 HR1) HC1.out (zq10 HR2) HC2.out A4.out) ?_; rintro e w26 ⟨rfl, hb⟩; refine ⟨_, rfl, ?_⟩; replace HB := zA (zab zq1 hb); (try clear hb)))
   go_ret2
   exact ⟨zq4, zq1⟩
 subst c5
 replace H := zih H
 have H' := zA H
 clear H
 go_enter Tryz.func75, Tryz.ntmps75
 go_wp2_with (first | ((with_reducible refine zgc 74 ?_); refine zca 18 Tryz.func74 #[.slice A0 l0.length c0, .slice A1 l1.length c1, .slice A2 l2.length c2] (zbg k _ _ l0 _ _ l1 _ _ l2 true _ (zq10 HR0) HC0.out (zq10 HR1) HC1.out (zq10 HR2) HC2.out A4.out) ?_; rintro e w6 ⟨rfl, hb⟩; refine ⟨_, rfl, ?_⟩; replace HB := zA (zab zq1 hb); (try clear hb)))
 go_loopg [8, 22] k (fun kq v8 v22 w' => ∃ (x8_1 : Bool) (x22_1 : Int), v8 = .bool x8_1 ∧ v22 = .int .i64 x22_1 ∧ Aside0 (zb7 kq l0 l1 x8_1 l2 (l2.length : Int) x22_1 = some (r1, r2)) ∧ Aside0 (kq ≤ k) ∧ Aside0 (Below w.heap.size w w'))
 case atStart => exact ⟨(true), (0), zq5, zq5, H', ⟨zlr _⟩, ⟨zq1⟩⟩
 clear H'
 obtain ⟨x8_1, x22_1, rfl, rfl, HA, HK1, HB⟩ := hrel
 cases gk with
 | zero => exact absurd HA.out (by simp [zb7])
 | succ k1 =>
 have H := HA.out
 clear HA
 simp only [zb7] at H
 revert H
 refine zit (fun c7 H => ?_) fun c7 H => ?_
 rotate_left
 · simp only [Option.some.injEq, Prod.mk.injEq] at H
   obtain ⟨rfl, rfl⟩ := H
   go_wp2
   go_ret2
   exact ⟨zq4, zq1⟩
 revert H
 refine zin fun c8 H => ?_
 revert H
 refine zin fun c9 H => ?_
 replace H := zob H
 obtain ⟨⟨t103, t104⟩, A100, H⟩ := H
 have A10 := zA A100
 clear A100
 replace H := zob H
 obtain ⟨⟨t107, t108⟩, A110, H⟩ := H
 have A11 := zA A110
 clear A110
 by_cases c12 : t104 = true
 rotate_left
 · replace c12 := zbf c12
   subst c12
   replace H := zif H
   simp only [Option.some.injEq, Prod.mk.injEq] at H
   obtain ⟨rfl, rfl⟩ := H
   obtain ⟨p102, q102⟩ := zpq x22_1 l2.length
   obtain ⟨ad102, e102, hx102_0⟩ := Kd.at_int HR2.out x22_1 (zoe p102) (zoe q102)
   cases e102
   replace hx102_0 := zkep HB.out hx102_0
   go_wp2_with (first | ((with_reducible refine zgc 108 ?_); refine zca 29 Tryz.func108 #[.slice A0 l0.length c0, .int .i64 (rd l2 x22_1)] (zeo k1 _ _ l0 (rd l2 x22_1) t103 false _ (zq7 HR0) HC0.out A10.out) ?_; rintro e w24 ⟨v105, rfl, ho0, hb⟩; refine ⟨_, rfl, ?_⟩; have HO106 := zA (Kd.R_lower ho0 (zag zq1)); replace HB := zA (zab zq1 hb); (try clear hb); (try clear ho0)) | ((with_reducible refine zgc 108 ?_); refine zca 35 Tryz.func108 #[.slice A1 l1.length c1, .int .i64 (rd l2 x22_1)] (zeo k1 _ _ l1 (rd l2 x22_1) t107 t108 _ (zq7 HR1) HC1.out A11.out) ?_; rintro e w25 ⟨v109, rfl, ho0, hb⟩; refine ⟨_, rfl, ?_⟩; have HO110 := zA (Kd.R_lower (Kd.R_new' ho0 (Kd.R_lt (zq2 HO106))) (zag zq1)); replace HO106 := zA (Kd.R_elder' (zq2 HO106) (Kd.R_base ho0) hb); replace HB := zA (zab zq1 hb); (try clear hb); (try clear ho0)))
   go_ret2
   exact ⟨zq4, zq1⟩
 subst c12
 replace H := zih H
 by_cases c13 : t108 = true
 rotate_left
 · replace c13 := zbf c13
   subst c13
   replace H := zif H
   simp only [Option.some.injEq, Prod.mk.injEq] at H
   obtain ⟨rfl, rfl⟩ := H
   obtain ⟨p102, q102⟩ := zpq x22_1 l2.length
   obtain ⟨ad102, e102, hx102_0⟩ := Kd.at_int HR2.out x22_1 (zoe p102) (zoe q102)
   cases e102
   replace hx102_0 := zkep HB.out hx102_0
   go_wp2_with (first | ((with_reducible refine zgc 108 ?_); refine zca 29 Tryz.func108 #[.slice A0 l0.length c0, .int .i64 (rd l2 x22_1)] (zeo k1 _ _ l0 (rd l2 x22_1) t103 true _ (zq7 HR0) HC0.out A10.out) ?_; rintro e w22 ⟨v105, rfl, ho0, hb⟩; refine ⟨_, rfl, ?_⟩; have HO106 := zA (Kd.R_lower ho0 (zag zq1)); replace HB := zA (zab zq1 hb); (try clear hb); (try clear ho0)) | ((with_reducible refine zgc 108 ?_); refine zca 35 Tryz.func108 #[.slice A1 l1.length c1, .int .i64 (rd l2 x22_1)] (zeo k1 _ _ l1 (rd l2 x22_1) t107 false _ (zq7 HR1) HC1.out A11.out) ?_; rintro e w23 ⟨v109, rfl, ho0, hb⟩; refine ⟨_, rfl, ?_⟩; have HO110 := zA (Kd.R_lower (Kd.R_new' ho0 (Kd.R_lt (zq2 HO106))) (zag zq1)); replace HO106 := zA (Kd.R_elder' (zq2 HO106) (Kd.R_base ho0) hb); replace HB := zA (zab zq1 hb); (try clear hb); (try clear ho0)))
   go_ret2
   exact ⟨zq4, zq1⟩
 subst c13
 replace H := zih H
 by_cases c14 : x8_1 = true
 rotate_left
 · replace c14 := zbf c14
   subst c14
   replace H := zif H
   have H' := zA H
   clear H
   obtain ⟨p102, q102⟩ := zpq x22_1 l2.length
   obtain ⟨ad102, e102, hx102_0⟩ := Kd.at_int HR2.out x22_1 (zoe p102) (zoe q102)
   cases e102
   replace hx102_0 := zkep HB.out hx102_0
   go_wp2_with (first | ((with_reducible refine zgc 108 ?_); refine zca 29 Tryz.func108 #[.slice A0 l0.length c0, .int .i64 (rd l2 x22_1)] (zeo k1 _ _ l0 (rd l2 x22_1) t103 true _ (zq7 HR0) HC0.out A10.out) ?_; rintro e w20 ⟨v105, rfl, ho0, hb⟩; refine ⟨_, rfl, ?_⟩; have HO106 := zA (Kd.R_lower ho0 (zag zq1)); replace HB := zA (zab zq1 hb); (try clear hb); (try clear ho0)) | ((with_reducible refine zgc 108 ?_); refine zca 35 Tryz.func108 #[.slice A1 l1.length c1, .int .i64 (rd l2 x22_1)] (zeo k1 _ _ l1 (rd l2 x22_1) t107 true _ (zq7 HR1) HC1.out A11.out) ?_; rintro e w21 ⟨v109, rfl, ho0, hb⟩; refine ⟨_, rfl, ?_⟩; have HO110 := zA (Kd.R_lower (Kd.R_new' ho0 (Kd.R_lt (zq2 HO106))) (zag zq1)); replace HO106 := zA (Kd.R_elder' (zq2 HO106) (Kd.R_base ho0) hb); replace HB := zA (zab zq1 hb); (try clear hb); (try clear ho0)))
   go_roundg k1
   case measure => have := HK1.out; omega
   case rel => exact ⟨(false), (wrap64 (x22_1 + 1)), zq5, zq5, H', ⟨zq41 HK1⟩, ⟨zq1⟩⟩
 subst c14
 replace H := zih H
 replace H := zob H
 obtain ⟨t111, A150, H⟩ := H
 have A15 := zA A150
 clear A150
 have H' := zA H
 clear H
 obtain ⟨p102, q102⟩ := zpq x22_1 l2.length
 obtain ⟨ad102, e102, hx102_0⟩ := Kd.at_int HR2.out x22_1 (zoe p102) (zoe q102)
 cases e102
 replace hx102_0 := zkep HB.out hx102_0
 go_wp2_with (first | ((with_reducible refine zgc 108 ?_); refine zca 29 Tryz.func108 #[.slice A0 l0.length c0, .int .i64 (rd l2 x22_1)] (zeo k1 _ _ l0 (rd l2 x22_1) t103 true _ (zq7 HR0) HC0.out A10.out) ?_; rintro e w16 ⟨v105, rfl, ho0, hb⟩; refine ⟨_, rfl, ?_⟩; have HO106 := zA (Kd.R_lower ho0 (zag zq1)); replace HB := zA (zab zq1 hb); (try clear hb); (try clear ho0)) | ((with_reducible refine zgc 108 ?_); refine zca 35 Tryz.func108 #[.slice A1 l1.length c1, .int .i64 (rd l2 x22_1)] (zeo k1 _ _ l1 (rd l2 x22_1) t107 true _ (zq7 HR1) HC1.out A11.out) ?_; rintro e w17 ⟨v109, rfl, ho0, hb⟩; refine ⟨_, rfl, ?_⟩; have HO110 := zA (Kd.R_lower (Kd.R_new' ho0 (Kd.R_lt (zq2 HO106))) (zag zq1)); replace HO106 := zA (Kd.R_elder' (zq2 HO106) (Kd.R_base ho0) hb); replace HB := zA (zab zq1 hb); (try clear hb); (try clear ho0); obtain ⟨Ao18, co18, eo18⟩ := Kd.R_slice HO106.out; subst eo18; obtain ⟨Ao19, co19, eo19⟩ := Kd.R_slice HO110.out; subst eo19) | (go_at_call 109; (with_reducible refine (zol k1 _ _ t103 _ _ t107 t111 _ ?side1 ?side2 ?side3 ?side4 A15.out).mono ?_); (case side1 => repeat (first | exact (zRr HO106.out).2.2 | (with_reducible first | refine zCa ?_ _ | refine zCn ?_ _ | refine zCd ?_))); (case side2 => exact (zRr HO106.out).2.1); (case side3 => repeat (first | exact (zRr HO110.out).2.2 | (with_reducible first | refine zCa ?_ _ | refine zCn ?_ _ | refine zCd ?_))); (case side4 => exact (zRr HO110.out).2.1); rintro e w' ⟨rfl, ⟨nd, rfl⟩⟩))
 go_roundg k1
 case measure => have := HK1.out; omega
 case rel => exact ⟨(t111), (wrap64 (x22_1 + 1)), zq5, zq5, H', ⟨zq41 HK1⟩, ⟨zq1⟩⟩
def zht (a0 : Int) : Option (Int × Int) := some (wrap64 (Int.tdiv a0 64), Int.tmod a0 64)
theorem zid (a0 : Int) (r1 : Int) (r2 : Int) (w : World) (h : zht a0 = some (r1, r2)) :
   Calls Tryz.prog 150 #[.int .i64 a0] w fun e w' => e = .returned (.tuple #[.int .i64 r1, .int .i64 r2]) ∧ Drawn0 w w' := by
 have H := h
 unfold zht at H
 clear h
 simp only [Option.some.injEq, Prod.mk.injEq] at H
 obtain ⟨rfl, rfl⟩ := H
 go_enter Tryz.func150, Tryz.ntmps150
 go_wp2
 go_ret2
 exact ⟨zq5, zq6⟩
def zbj : Nat → Int → Int → Bool → ByteArray → Int → Int → Int → Int → Option (Int)
 | 0, _, _, _, _, _, _, _, _ => none
 | k + 1, x1, x2, x24, x102000, x102001, x102002, x102003, x102004 => if x24 = true then (if 0 ≤ 3 then (if 3 ≤ (x102000.size : Int) then ((zgh (x102000.extract 0 3) x1 x102004).bind fun t104 => (some t104)) else (none)) else (none)) else ((zgh x102000 x1 x2).bind fun t105 => (some t105))
def zeb (k : Nat) (a0_0 : ByteArray) (a0_1 : Int) (a0_2 : Int) (a0_3 : Int) (a0_4 : Int) (a1 : Int) (a2 : Int) : Option (Int) := if a0_0.toList = ([115, 101, 116] : List UInt8) then (some a0_4) else (if a0_0.toList = ([109, 111, 118] : List UInt8) then (some a1) else (if a0_0.toList = ([108, 101, 97] : List UInt8) then ((zgh (⟨#[115, 104, 108]⟩ : ByteArray) a2 a0_4).bind fun t102 => ((zgh (⟨#[97, 100, 100]⟩ : ByteArray) a1 t102).bind fun t103 => (some t103))) else (if a0_0.toList = ([97, 100, 100, 105] : List UInt8) then (zbj k a1 a2 (a0_0.toList == ([97, 100, 100, 105] : List UInt8)) a0_0 a0_1 a0_2 a0_3 a0_4) else (if a0_0.toList = ([97, 110, 100, 105] : List UInt8) then (zbj k a1 a2 (a0_0.toList == ([97, 110, 100, 105] : List UInt8)) a0_0 a0_1 a0_2 a0_3 a0_4) else (if a0_0.toList = ([120, 111, 114, 105] : List UInt8) then (zbj k a1 a2 (a0_0.toList == ([120, 111, 114, 105] : List UInt8)) a0_0 a0_1 a0_2 a0_3 a0_4) else (if a0_0.toList = ([115, 104, 108, 105] : List UInt8) then (zbj k a1 a2 (a0_0.toList == ([115, 104, 108, 105] : List UInt8)) a0_0 a0_1 a0_2 a0_3 a0_4) else (zbj k a1 a2 (a0_0.toList == ([115, 104, 114, 105] : List UInt8)) a0_0 a0_1 a0_2 a0_3 a0_4)))))))
theorem zi3 : ∀ k, (∀ y0 y1 y2 y3 y4 y5 y6 y7, LeO (zbj k y0 y1 y2 y3 y4 y5 y6 y7) (zbj (k + 1) y0 y1 y2 y3 y4 y5 y6 y7))
 | 0 => fun _ _ _ _ _ _ _ _ r h => by simp [zbj] at h
 | k + 1 => by
   have ih0 := zi3 k
   · intro y0 y1 y2 y3 y4 y5 y6 y7
     unfold zbj
     exact zm1 ih0
theorem zj3 : ∀ a0 a1 a2 a3 a4 a5 a6 k, LeO (zeb k a0 a1 a2 a3 a4 a5 a6) (zeb (k + 1) a0 a1 a2 a3 a4 a5 a6) := by
 intro a0 a1 a2 a3 a4 a5 a6 k
 have ih0 := zi3 k
 unfold zeb
 exact zm1 ih0
theorem znk (k : Nat) (a0_0 : ByteArray) (a0_1 : Int) (a0_2 : Int) (a0_3 : Int) (a0_4 : Int) (a1 : Int) (a2 : Int) (r : Int) (w : World) (h : zeb k a0_0 a0_1 a0_2 a0_3 a0_4 a1 a2 = some r) :
   Calls Tryz.prog 167 #[.agg #[.string a0_0, .int .i64 a0_1, .int .i64 a0_2, .int .i64 a0_3, .int .i64 a0_4], .int .i64 a1, .int .i64 a2] w fun e w' => e = .returned (.int .i64 r) ∧ Below w.heap.size w w' := by
 have hu69 := Tryz.underlying69
 have HB := zA (Below.refl w.heap.size w)
 have H := h
 unfold zeb at H
 clear h
 by_cases c4 : a0_0.toList = ([115, 101, 116] : List UInt8)
 · rw [if_pos c4] at H
   obtain ⟨c4b0, c4b1⟩ := zbe c4
   clear c4
   obtain rfl := zsi H
   go_enter Tryz.func167, Tryz.ntmps167
   go_wp2_with (first | ((with_reducible refine zgd 3 ?_); refine zbh zq1 #[.string a0_0, .int .i64 a0_1, .int .i64 a0_2, .int .i64 a0_3, .int .i64 a0_4] 69 ?_; clear HB; intro gb101 w5 HB BK101 GW101; have GE101 := GW101; obtain ⟨hcz6_0, hcz6_1, hcz6_2, hcz6_3, hcz6_4, hfz6_0, hfz6_1, hfz6_2, hfz6_3, hfz6_4⟩ := zd5 BK101))
   repeat (go_quiet (fail)); try go_wp2_with fail
   go_ret
   exact ⟨zq4, zq3 GE101⟩
 rw [if_neg c4] at H
 obtain ⟨c4b0, c4b1⟩ := zbq c4
 by_cases c7 : a0_0.toList = ([109, 111, 118] : List UInt8)
 · rw [if_pos c7] at H
   obtain ⟨c7b0, c7b1⟩ := zbe c7
   clear c7
   obtain rfl := zsi H
   go_enter Tryz.func167, Tryz.ntmps167
   go_wp2_with (first | ((with_reducible refine zgd 3 ?_); refine zbh zq1 #[.string a0_0, .int .i64 a0_1, .int .i64 a0_2, .int .i64 a0_3, .int .i64 a0_4] 69 ?_; clear HB; intro gb101 w8 HB BK101 GW101; have GE101 := GW101; obtain ⟨hcz9_0, hcz9_1, hcz9_2, hcz9_3, hcz9_4, hfz9_0, hfz9_1, hfz9_2, hfz9_3, hfz9_4⟩ := zd5 BK101))
   repeat (go_quiet (fail)); try go_wp2_with fail
   go_ret
   exact ⟨zq4, zq3 GE101⟩
 rw [if_neg c7] at H
 obtain ⟨c7b0, c7b1⟩ := zbq c7
 by_cases c10 : a0_0.toList = ([108, 101, 97] : List UInt8)
 · rw [if_pos c10] at H
   obtain ⟨c10b0, c10b1⟩ := zbe c10
   clear c10
   replace H := zob H
   obtain ⟨t102, A110, H⟩ := H
   have A11 := zA A110
   clear A110
   replace H := zob H
   obtain ⟨t103, A120, H⟩ := H
   have A12 := zA A120
   clear A120
   obtain rfl := zsi H
   go_enter Tryz.func167, Tryz.ntmps167
   go_wp2_with (first | ((with_reducible refine zgd 3 ?_); refine zbh zq1 #[.string a0_0, .int .i64 a0_1, .int .i64 a0_2, .int .i64 a0_3, .int .i64 a0_4] 69 ?_; clear HB; intro gb101 w13 HB BK101 GW101; have GE101 := GW101; obtain ⟨hcz14_0, hcz14_1, hcz14_2, hcz14_3, hcz14_4, hfz14_0, hfz14_1, hfz14_2, hfz14_3, hfz14_4⟩ := zd5 BK101) | (go_at_call 163; (with_reducible refine (zd0 (⟨#[115, 104, 108]⟩ : ByteArray) a2 a0_4 t102 _ A11.out).mono ?_); rintro e w' ⟨rfl, ⟨nd, rfl⟩⟩; (try first | exact ⟨rfl, _, World.drewN_drewN _ _ _⟩ | exact ⟨rfl, _, Eq.trans (World.drewN_drewN _ _ _) (congrArg (World.drewN _) (Nat.add_assoc _ _ _))⟩)) | (go_at_call 163; (with_reducible refine (zd0 (⟨#[97, 100, 100]⟩ : ByteArray) a1 t102 t103 _ A12.out).mono ?_); rintro e w' ⟨rfl, ⟨nd, rfl⟩⟩; (try first | exact ⟨rfl, _, World.drewN_drewN _ _ _⟩ | exact ⟨rfl, _, Eq.trans (World.drewN_drewN _ _ _) (congrArg (World.drewN _) (Nat.add_assoc _ _ _))⟩)))
   repeat (go_quiet (first | (go_at_call 163; (with_reducible refine (zd0 (⟨#[115, 104, 108]⟩ : ByteArray) a2 a0_4 t102 _ A11.out).mono ?_); rintro e w' ⟨rfl, ⟨nd, rfl⟩⟩; (try first | exact ⟨rfl, _, World.drewN_drewN _ _ _⟩ | exact ⟨rfl, _, Eq.trans (World.drewN_drewN _ _ _) (congrArg (World.drewN _) (Nat.add_assoc _ _ _))⟩)) | (go_at_call 163; (with_reducible refine (zd0 (⟨#[97, 100, 100]⟩ : ByteArray) a1 t102 t103 _ A12.out).mono ?_); rintro e w' ⟨rfl, ⟨nd, rfl⟩⟩; (try first | exact ⟨rfl, _, World.drewN_drewN _ _ _⟩ | exact ⟨rfl, _, Eq.trans (World.drewN_drewN _ _ _) (congrArg (World.drewN _) (Nat.add_assoc _ _ _))⟩)))); try go_wp2_with fail
   go_ret
   exact ⟨zq4, zq3 GE101⟩
 rw [if_neg c10] at H
 obtain ⟨c10b0, c10b1⟩ := zbq c10
 have HC15 := zA H
 clear H
 go_enter Tryz.func167, Tryz.ntmps167
 go_upto_if 24 with (first | ((with_reducible refine zgd 3 ?_); refine zbh zq1 #[.string a0_0, .int .i64 a0_1, .int .i64 a0_2, .int .i64 a0_3, .int .i64 a0_4] 69 ?_; clear HB; intro gb101 w16 HB BK101 GW101; have GE101 := GW101; obtain ⟨hcz17_0, hcz17_1, hcz17_2, hcz17_3, hcz17_4, hfz17_0, hfz17_1, hfz17_2, hfz17_3, hfz17_4⟩ := zd5 BK101))
 repeat (go_quiet (fail)); try go_wp2_with fail
 (try simp only [Act.put, List.setIfInBounds_toArray, List.set_cons_zero, List.set_cons_succ])
 go_cut [24] (fun v24 wc => ∃ (kq : Nat) (x24_14 : Bool), v24 = .bool x24_14 ∧ Aside0 (zbj kq a1 a2 x24_14 a0_0 a0_1 a0_2 a0_3 a0_4 = some r) ∧ Aside0 (kq ≤ k) ∧ Aside0 (wc.heap[gb101]? = some (.cells #[.string a0_0, .int .i64 a0_1, .int .i64 a0_2, .int .i64 a0_3, .int .i64 a0_4] 69 (0, 0))) ∧ Aside0 (Below w.heap.size w wc))
 case first =>
   have H := HC15.out
   clear HC15
   by_cases c18 : a0_0.toList = ([97, 100, 100, 105] : List UInt8)
   · rw [if_pos c18] at H
     obtain ⟨c18b0, c18b1⟩ := zbe c18
     clear c18
     (first | rw [c18b0] | (simp only [zgy, zjw]; rw [c18b0]) | skip)
     have H' := zA H
     clear H
     go_wp2
     repeat (go_quiet (fail); try go_wp2)
     go_meet
     case rel => exact ⟨_, ((a0_0.toList == ([97, 100, 100, 105] : List UInt8))), zq5, H', ⟨zq50⟩, ⟨zq8 BK101⟩, ⟨zq3 GE101⟩⟩
   rw [if_neg c18] at H
   obtain ⟨c18b0, c18b1⟩ := zbq c18
   (first | rw [c18b0] | (simp only [zgy, zjw]; rw [c18b0]) | skip)
   by_cases c19 : a0_0.toList = ([97, 110, 100, 105] : List UInt8)
   · rw [if_pos c19] at H
     obtain ⟨c19b0, c19b1⟩ := zbe c19
     clear c19
     have H' := zA H
     clear H
     go_wp2
     repeat (go_quiet (fail); try go_wp2)
     go_meet
     case rel => exact ⟨_, ((a0_0.toList == ([97, 110, 100, 105] : List UInt8))), zq5, H', ⟨zq50⟩, ⟨zq8 BK101⟩, ⟨zq3 GE101⟩⟩
   rw [if_neg c19] at H
   obtain ⟨c19b0, c19b1⟩ := zbq c19
   by_cases c20 : a0_0.toList = ([120, 111, 114, 105] : List UInt8)
   · rw [if_pos c20] at H
     obtain ⟨c20b0, c20b1⟩ := zbe c20
     clear c20
     have H' := zA H
     clear H
     go_wp2
     repeat (go_quiet (fail); try go_wp2)
     go_meet
     case rel => exact ⟨_, ((a0_0.toList == ([120, 111, 114, 105] : List UInt8))), zq5, H', ⟨zq50⟩, ⟨zq8 BK101⟩, ⟨zq3 GE101⟩⟩
   rw [if_neg c20] at H
   obtain ⟨c20b0, c20b1⟩ := zbq c20
   by_cases c21 : a0_0.toList = ([115, 104, 108, 105] : List UInt8)
   rotate_left
   · rw [if_neg c21] at H
     obtain ⟨c21b0, c21b1⟩ := zbq c21
     have H' := zA H
     clear H
     go_wp2
     repeat (go_quiet (fail); try go_wp2)
     go_meet
     case rel => exact ⟨_, ((a0_0.toList == ([115, 104, 114, 105] : List UInt8))), zq5, H', ⟨zq50⟩, ⟨zq8 BK101⟩, ⟨zq3 GE101⟩⟩
   rw [if_pos c21] at H
   obtain ⟨c21b0, c21b1⟩ := zbe c21
   clear c21
   have H' := zA H
   clear H
   go_wp2
   repeat (go_quiet (fail); try go_wp2)
   go_meet
   case rel => exact ⟨_, ((a0_0.toList == ([115, 104, 108, 105] : List UInt8))), zq5, H', ⟨zq50⟩, ⟨zq8 BK101⟩, ⟨zq3 GE101⟩⟩
 clear HC15
 obtain ⟨kq, x24_14, rfl, HA, HJ14, BK101, HB⟩ := hcut
 cases kq with
 | zero => exact absurd HA.out (by simp [zbj])
 | succ kj14 =>
 have H := HA.out
 clear HA
 simp only [zbj] at H
 by_cases c22 : x24_14 = true
 rotate_left
 · replace c22 := zbf c22
   subst c22
   replace H := zif H
   replace H := zob H
   obtain ⟨t105, A270, H⟩ := H
   have A27 := zA A270
   clear A270
   obtain rfl := zsi H
   obtain ⟨hcz28_0, hcz28_1, hcz28_2, hcz28_3, hcz28_4⟩ := zc5 wc (.string a0_0) (.int .i64 a0_1) (.int .i64 a0_2) (.int .i64 a0_3) (.int .i64 a0_4) BK101.out
   obtain ⟨hfz28_0, hfz28_1, hfz28_2, hfz28_3, hfz28_4⟩ := zf5 BK101.out
   go_wp2_with (first | (go_at_call 163; (with_reducible refine (zd0 a0_0 a1 a2 t105 _ A27.out).mono ?_); rintro e w' ⟨rfl, ⟨nd, rfl⟩⟩; (try first | exact ⟨rfl, _, World.drewN_drewN _ _ _⟩ | exact ⟨rfl, _, Eq.trans (World.drewN_drewN _ _ _) (congrArg (World.drewN _) (Nat.add_assoc _ _ _))⟩)))
   repeat (go_quiet ((go_at_call 163; (with_reducible refine (zd0 a0_0 a1 a2 t105 _ A27.out).mono ?_); rintro e w' ⟨rfl, ⟨nd, rfl⟩⟩; (try first | exact ⟨rfl, _, World.drewN_drewN _ _ _⟩ | exact ⟨rfl, _, Eq.trans (World.drewN_drewN _ _ _) (congrArg (World.drewN _) (Nat.add_assoc _ _ _))⟩)))); try go_wp2_with fail
   go_ret
   exact ⟨zq4, zq3 GE101⟩
 subst c22
 replace H := zih H
 by_cases c23 : 0 ≤ 3
 rotate_left
 · rw [if_neg c23] at H
   exact absurd H (by simp)
 rw [if_pos c23] at H
 have c23b0 := eq_true c23
 have c23b1 := zdt c23
 clear c23
 by_cases c24 : 3 ≤ (a0_0.size : Int)
 rotate_left
 · rw [if_neg c24] at H
   exact absurd H (by simp)
 rw [if_pos c24] at H
 have c24b0 := eq_true c24
 have c24b1 := zdt c24
 clear c24
 replace H := zob H
 obtain ⟨t104, A250, H⟩ := H
 have A25 := zA A250
 clear A250
 obtain rfl := zsi H
 obtain ⟨hcz26_0, hcz26_1, hcz26_2, hcz26_3, hcz26_4⟩ := zc5 wc (.string a0_0) (.int .i64 a0_1) (.int .i64 a0_2) (.int .i64 a0_3) (.int .i64 a0_4) BK101.out
 obtain ⟨hfz26_0, hfz26_1, hfz26_2, hfz26_3, hfz26_4⟩ := zf5 BK101.out
 go_wp2_with (first | (go_at_call 163; (with_reducible refine (zd0 (a0_0.extract 0 3) a1 a0_4 t104 _ A25.out).mono ?_); rintro e w' ⟨rfl, ⟨nd, rfl⟩⟩; (try first | exact ⟨rfl, _, World.drewN_drewN _ _ _⟩ | exact ⟨rfl, _, Eq.trans (World.drewN_drewN _ _ _) (congrArg (World.drewN _) (Nat.add_assoc _ _ _))⟩)))
 repeat (go_quiet ((go_at_call 163; (with_reducible refine (zd0 (a0_0.extract 0 3) a1 a0_4 t104 _ A25.out).mono ?_); rintro e w' ⟨rfl, ⟨nd, rfl⟩⟩; (try first | exact ⟨rfl, _, World.drewN_drewN _ _ _⟩ | exact ⟨rfl, _, Eq.trans (World.drewN_drewN _ _ _) (congrArg (World.drewN _) (Nat.add_assoc _ _ _))⟩)))); try go_wp2_with fail
 go_ret
 exact ⟨zq4, zq3 GE101⟩
def zff : Nat → List Int → List (S69) → Int → Int → Option (List Int)
 | 0, _, _, _, _ => none
 | k + 1, x1, x6, x7, x8 => if x8 < x7 then (if 0 ≤ x8 then (if x8 < (x6.length : Int) then (if 0 ≤ ((zaa x6 x8).f2) then (if ((zaa x6 x8).f2) < (x1.length : Int) then (if 0 ≤ ((zaa x6 x8).f3) then (if ((zaa x6 x8).f3) < (x1.length : Int) then ((zeb k ((zaa x6 x8).f0) ((zaa x6 x8).f1) ((zaa x6 x8).f2) ((zaa x6 x8).f3) ((zaa x6 x8).f4) (rd x1 ((zaa x6 x8).f2)) (rd x1 ((zaa x6 x8).f3))).bind fun t105 => (if 0 ≤ ((zaa x6 x8).f1) then (if ((zaa x6 x8).f1) < (x1.length : Int) then (zff k (x1.set (((zaa x6 x8).f1) : Int).toNat t105) x6 x7 (wrap64 (x8 + 1))) else (none)) else (none))) else (none)) else (none)) else (none)) else (none)) else (none)) else (none)) else (some x1)
def zii (k : Nat) (l0 : List (S69)) (l1 : List Int) : Option (List Int) := zff k l1 l0 (l0.length : Int) 0
theorem znl : ∀ k, (∀ y0 y1 y2 y3, LeO (zff k y0 y1 y2 y3) (zff (k + 1) y0 y1 y2 y3))
 | 0 => fun _ _ _ _ r h => by simp [zff] at h
 | k + 1 => by
   have ih0 := znl k
   · intro y0 y1 y2 y3
     unfold zff
     exact zm2 ih0 zj3
theorem ztz : ∀ a0 a1 k, LeO (zii k a0 a1) (zii (k + 1) a0 a1) := by
 intro a0 a1 k
 have ih0 := znl k
 unfold zii
 exact zm2 ih0 zj3
def impl_run.T3 : Bool × List (List Nat × List Nat) := (true, [([], []), ([], []), ([1], [1]), ([], []), ([], []), ([], []), ([5], [5]), ([4, 6], [4, 6]), ([7], [7]), ([], []), ([], []), ([10], [10]), ([9, 11], [9, 11]), ([12], [12]), ([3, 8, 13], [3, 8, 13]), ([0, 2, 0, 1, 2, 3, 4, 5, 6, 7, 8, 9, 10, 11, 12, 13, 14], [0, 2]), ([15, 14, 14, 0, 1, 2, 3, 4, 5, 6, 7, 8, 9, 10, 11, 12, 13, 14], [14, 15])])
def zvq : List Nat := [0, 0, 2, 0, 0, 0, 32, 112, 240, 0, 0, 1024, 3584, 7680, 16376, 32767, 65535]
theorem zt0 : rtab .any (zwe Tryz.f183 3) = impl_run.T3 := by kernel_rfl
theorem zsz : zjx impl_run.T3.2 zvq = true := by kernel_rfl
theorem zs0 (k : Nat) (A0 : Option Addr) (c0 : Nat) (l0 : List (S69)) (P1_ : Nat → Prop) (u9000_ : Value) (l1 : List Int) (r : List Int) (w0 w : World) (hB : Below w0.heap.size w0 w) (hr0 : ∀ W_, Kept w W_ (fun k_ => P1_ k_) → Kd.C k69 W_ A0 l0.length l0) (hc0 : l0.length ≤ c0) (ho1 : Kd.R (Kd.int .i64) 3 w w0.heap.size P1_ u9000_ l1) (h : zii k l0 l1 = some r) :
   Calls Tryz.prog 183 #[.slice A0 l0.length c0, u9000_] w fun e w' => e = .returned (.tuple #[]) ∧ Kd.R (Kd.int .i64) 3 w' w0.heap.size (fun k_ => (P1_ k_ ∨ w.heap.size ≤ k_)) u9000_ r ∧ Below w0.heap.size w0 w' ∧ Kept w w' (fun k_ => P1_ k_) := by
 have hu69 := Tryz.underlying69
 have HR0 := zA hr0
 have HC0 := zA hc0
 clear hr0 hc0
 have HO1 := zA (show Kd.R (Kd.int .i64) 3 w w0.heap.size (fun k_ => (P1_ k_ ∨ w.heap.size ≤ k_)) u9000_ l1 from Kd.R_mono ho1 (fun k_ hk => (.inl hk)))
 have HK := zA (Kept.refl w (fun k_ => P1_ k_))
 have HW0 := zA hB.size
 have HB := zA hB
 clear hB
 have H := h
 unfold zii at H
 clear h
 have H' := zA H
 clear H
 go_enter Tryz.func183, Tryz.ntmps183
 go_wp2
 go_loopg [8] k (fun kq v8 w' => ∃ (x1_1 : List Int) (x8_1 : Int), v8 = .int .i64 x8_1 ∧ Aside0 (zff kq x1_1 l0 (l0.length : Int) x8_1 = some r) ∧ Aside0 (kq ≤ k) ∧ Aside0 (Kd.R (Kd.int .i64) 3 w' w0.heap.size (fun k_ => (P1_ k_ ∨ w.heap.size ≤ k_)) u9000_ x1_1) ∧ Aside0 (Kept w w' (fun k_ => P1_ k_)) ∧ Aside0 (Below w0.heap.size w0 w'))
 case atStart => exact ⟨(l1), (0), zq5, H', ⟨zlr _⟩, ⟨zq2 HO1⟩, ⟨zq48⟩, ⟨zq1⟩⟩
 clear H'
 obtain ⟨x1_1, x8_1, rfl, HA, HK1, HO_1, HK, HB⟩ := hrel
 cases gk with
 | zero => exact absurd HA.out (by simp [zff])
 | succ k1 =>
 have H := HA.out
 clear HA
 simp only [zff] at H
 revert H
 refine zit (fun c3 H => ?_) fun c3 H => ?_
 rotate_left
 · obtain rfl := zsi H
   go_wp2
   first | go_end0 | ((try simp only [Exit.inBlock, Exit.then]); refine bodyPost_ret (results_none rfl _ _ _) rfl ?_)
   exact ⟨zq4, zq2 HO_1, zq1, zq48⟩
 revert H
 refine zin fun c4 H => ?_
 revert H
 refine zin fun c5 H => ?_
 revert H
 refine zin fun c6 H => ?_
 revert H
 refine zin fun c7 H => ?_
 revert H
 refine zin fun c8 H => ?_
 revert H
 refine zin fun c9 H => ?_
 replace H := zob H
 obtain ⟨t105, A100, H⟩ := H
 have A10 := zA A100
 clear A100
 revert H
 refine zin fun c11 H => ?_
 revert H
 refine zin fun c12 H => ?_
 obtain ⟨y106, hy106⟩ : ∃ y_ : List Int, y_ = (x1_1.set (((zaa l0 x8_1).f1) : Int).toNat t105) := ⟨_, rfl⟩
 rw [← hy106] at H; try with_reducible replace H := zbs H
 have Ny106 := zA hy106
 clear hy106
 have H' := zA H
 clear H
 obtain ⟨p101, q101⟩ := zpq x8_1 l0.length
 obtain ⟨ad101, e101, hx101_0, hx101_1, hx101_2, hx101_3, hx101_4⟩ := zmn (Kd.C_kept_now HR0.out HK.out) x8_1 (zoe p101) (zoe q101)
 cases e101
 try go_wp2_with (first | ((with_reducible refine zgd 5 ?_); refine zbx #[.string (⟨#[]⟩ : ByteArray), .int .i64 0, .int .i64 0, .int .i64 0, .int .i64 0] 69 ?_; intro gb102 hg w14 hbox hb; replace HO_1 := zA (zRb (zq2 HO_1) hb); have BK102 := zA (hbox); have GW102 := zA ((by rw [hg]; exact (by first | exact HK.out.1 | exact (show Kept w _ (fun k_ => P1_ k_) from by repeat (first | (with_reducible first | exact HK.out | apply Kept.alloc | apply Kept.drewN | apply Kept.drew) | exact HK.out)).1) : w.heap.size ≤ gb102)); replace HK := zA (Kept.below (S := (fun k_ => P1_ k_)) zq48 hb); have GE102 := zA ((by rw [hg]; exact (zag zq1) : w0.heap.size ≤ gb102)); replace HB := zA (zab zq1 hb); clear hb hbox hg; obtain ⟨hcz15_0, hcz15_1, hcz15_2, hcz15_3, hcz15_4, hfz15_0, hfz15_1, hfz15_2, hfz15_3, hfz15_4⟩ := zd5 BK102))
 have n0_ : Aside0 (Kd.R (Kd.int .i64) 3 (((((w14.setCell ⟨gb102, 0, none⟩ (.string ((zaa l0 x8_1).f0))).setCell ⟨gb102, 1, none⟩ (.int .i64 ((zaa l0 x8_1).f1))).setCell ⟨gb102, 2, none⟩ (.int .i64 ((zaa l0 x8_1).f2))).setCell ⟨gb102, 3, none⟩ (.int .i64 ((zaa l0 x8_1).f3))).setCell ⟨gb102, 4, none⟩ (.int .i64 ((zaa l0 x8_1).f4))) w0.heap.size (fun k_ => (P1_ k_ ∨ w.heap.size ≤ k_)) u9000_ x1_1) := ⟨by (with_reducible repeat (first | apply zRa | apply zRn | apply zRd)); exact Kd.R_mono (Kd.R_far (p := ⟨gb102, 4, none⟩) (Kd.R_far (p := ⟨gb102, 3, none⟩) (Kd.R_far (p := ⟨gb102, 2, none⟩) (Kd.R_far (p := ⟨gb102, 1, none⟩) (Kd.R_far (p := ⟨gb102, 0, none⟩) (Kd.R_types HO_1.out BK102.out (by decide)) (fun _ hk => hk.2) (.string ((zaa l0 x8_1).f0))) (fun _ hk => hk.2) (.int .i64 ((zaa l0 x8_1).f1))) (fun _ hk => hk.2) (.int .i64 ((zaa l0 x8_1).f2))) (fun _ hk => hk.2) (.int .i64 ((zaa l0 x8_1).f3))) (fun _ hk => hk.2) (.int .i64 ((zaa l0 x8_1).f4))) (fun _ hk => hk.1)⟩
 have n1_ : Aside0 ((((((w14.setCell ⟨gb102, 0, none⟩ (.string ((zaa l0 x8_1).f0))).setCell ⟨gb102, 1, none⟩ (.int .i64 ((zaa l0 x8_1).f1))).setCell ⟨gb102, 2, none⟩ (.int .i64 ((zaa l0 x8_1).f2))).setCell ⟨gb102, 3, none⟩ (.int .i64 ((zaa l0 x8_1).f3))).setCell ⟨gb102, 4, none⟩ (.int .i64 ((zaa l0 x8_1).f4))).heap[gb102]? = some (.cells #[.string ((zaa l0 x8_1).f0), .int .i64 ((zaa l0 x8_1).f1), .int .i64 ((zaa l0 x8_1).f2), .int .i64 ((zaa l0 x8_1).f3), .int .i64 ((zaa l0 x8_1).f4)] 69 (0, 0))) := ⟨by (with_reducible repeat (first | refine zkn ?_ _ | refine zkd ?_ | refine zka ?_ _)); refine za7 (cs := #[.string ((zaa l0 x8_1).f0), .int .i64 ((zaa l0 x8_1).f1), .int .i64 ((zaa l0 x8_1).f2), .int .i64 ((zaa l0 x8_1).f3), .int .i64 0]) ?_ 4 _ rfl; (with_reducible repeat (first | refine zkn ?_ _ | refine zkd ?_ | refine zka ?_ _)); refine za7 (cs := #[.string ((zaa l0 x8_1).f0), .int .i64 ((zaa l0 x8_1).f1), .int .i64 ((zaa l0 x8_1).f2), .int .i64 0, .int .i64 0]) ?_ 3 _ rfl; (with_reducible repeat (first | refine zkn ?_ _ | refine zkd ?_ | refine zka ?_ _)); refine za7 (cs := #[.string ((zaa l0 x8_1).f0), .int .i64 ((zaa l0 x8_1).f1), .int .i64 0, .int .i64 0, .int .i64 0]) ?_ 2 _ rfl; (with_reducible repeat (first | refine zkn ?_ _ | refine zkd ?_ | refine zka ?_ _)); refine za7 (cs := #[.string ((zaa l0 x8_1).f0), .int .i64 0, .int .i64 0, .int .i64 0, .int .i64 0]) ?_ 1 _ rfl; (with_reducible repeat (first | refine zkn ?_ _ | refine zkd ?_ | refine zka ?_ _)); refine za7 (cs := #[.string (⟨#[]⟩ : ByteArray), .int .i64 0, .int .i64 0, .int .i64 0, .int .i64 0]) ?_ 0 _ rfl; (with_reducible repeat (first | refine zkn ?_ _ | refine zkd ?_ | refine zka ?_ _)); exact BK102.out⟩
 have n2_ : Aside0 (Kept w (((((w14.setCell ⟨gb102, 0, none⟩ (.string ((zaa l0 x8_1).f0))).setCell ⟨gb102, 1, none⟩ (.int .i64 ((zaa l0 x8_1).f1))).setCell ⟨gb102, 2, none⟩ (.int .i64 ((zaa l0 x8_1).f2))).setCell ⟨gb102, 3, none⟩ (.int .i64 ((zaa l0 x8_1).f3))).setCell ⟨gb102, 4, none⟩ (.int .i64 ((zaa l0 x8_1).f4))) (fun k_ => P1_ k_)) := ⟨zq45 GW102⟩
 have n3_ : Aside0 (Below w0.heap.size w0 (((((w14.setCell ⟨gb102, 0, none⟩ (.string ((zaa l0 x8_1).f0))).setCell ⟨gb102, 1, none⟩ (.int .i64 ((zaa l0 x8_1).f1))).setCell ⟨gb102, 2, none⟩ (.int .i64 ((zaa l0 x8_1).f2))).setCell ⟨gb102, 3, none⟩ (.int .i64 ((zaa l0 x8_1).f3))).setCell ⟨gb102, 4, none⟩ (.int .i64 ((zaa l0 x8_1).f4)))) := ⟨zq3 GE102⟩
 (try clear HO_1)
 (try clear BK102)
 (try clear HK)
 (try clear HB)
 generalize (((((w14.setCell ⟨gb102, 0, none⟩ (.string ((zaa l0 x8_1).f0))).setCell ⟨gb102, 1, none⟩ (.int .i64 ((zaa l0 x8_1).f1))).setCell ⟨gb102, 2, none⟩ (.int .i64 ((zaa l0 x8_1).f2))).setCell ⟨gb102, 3, none⟩ (.int .i64 ((zaa l0 x8_1).f3))).setCell ⟨gb102, 4, none⟩ (.int .i64 ((zaa l0 x8_1).f4))) = w16 at n0_ n1_ n2_ n3_ ⊢
 have HO_1 := n0_
 have BK102 := n1_
 have HK := n2_
 have HB := n3_
 clear n0_ n1_ n2_ n3_
 replace HO_1 := zA (zRd HO_1.out)
 replace BK102 := zA (zkd BK102.out)
 replace HK := zA (Kept.drew HK.out)
 replace HB := zA (zbd HB.out)
 obtain ⟨Ao18, co18, eo18⟩ := Kd.R_slice HO_1.out
 (first | subst eo18 | (injection eo18 with f1_ f2_ f3_; have f4_ := f1_.symm; have f5_ := f3_.symm; clear f1_ f2_ f3_; subst f4_; subst f5_))
 have p103 : 0 ≤ (((zaa l0 x8_1).f2) : Int) := zde zq21
 have q103 : ((zaa l0 x8_1).f2) < (x1_1.length : Int) := zde zq21
 obtain ⟨ad103, e103, hx103_0⟩ := Kd.at_int (zRr HO_1.out).2.2 ((zaa l0 x8_1).f2) p103 q103
 cases e103
 replace p103 := eq_true p103
 replace q103 := eq_true q103
 have p104 : 0 ≤ (((zaa l0 x8_1).f3) : Int) := zde zq21
 have q104 : ((zaa l0 x8_1).f3) < (x1_1.length : Int) := zde zq21
 obtain ⟨ad104, e104, hx104_0⟩ := Kd.at_int (zRr HO_1.out).2.2 ((zaa l0 x8_1).f3) p104 q104
 obtain rfl : ad103 = ad104 := (by injection e104)
 replace p104 := eq_true p104
 replace q104 := eq_true q104
 refine zra (n := 17) (S := fun w' => w'.cell? ⟨gb102, 0, none⟩ = some (.string ((zaa l0 x8_1).f0)) ∧ w'.cell? ⟨gb102, 1, none⟩ = some (.int .i64 ((zaa l0 x8_1).f1)) ∧ w'.cell? ⟨gb102, 2, none⟩ = some (.int .i64 ((zaa l0 x8_1).f2)) ∧ w'.cell? ⟨gb102, 3, none⟩ = some (.int .i64 ((zaa l0 x8_1).f3)) ∧ w'.cell? ⟨gb102, 4, none⟩ = some (.int .i64 ((zaa l0 x8_1).f4)) ∧ w'.cell? (ad103.add (((zaa l0 x8_1).f2)).toNat) = some (.int .i64 (rd x1_1 ((zaa l0 x8_1).f2))) ∧ w'.cell? (ad103.add (((zaa l0 x8_1).f3)).toNat) = some (.int .i64 (rd x1_1 ((zaa l0 x8_1).f3)))) (ds := [16]) #[false, false, false, false, false, false, false, false, false, false, false, false, false, false, false, false, false] zq28 rfl rfl ⟨(zad BK102.out 0).trans rfl, (zad BK102.out 1).trans rfl, (zad BK102.out 2).trans rfl, (zad BK102.out 3).trans rfl, (zad BK102.out 4).trans rfl, hx103_0, hx104_0⟩ (fun hHeld => ?_); refine zk0 zt0 zsz (fun HT_ HW_ => ?_)
 generalize w16.drew = w17 at HO_1 BK102 HK HB hx103_0 hx104_0 hHeld ⊢
 refine zpu 0 12 HT_ ?_
 refine zpu 1 13 HT_ ?_
 refine zpu 4 16 HT_ ?_
 refine zpu 5 17 HT_ ?_
 refine zpu 9 21 HT_ ?_
 refine zpu 10 22 HT_ ?_
 refine ztu 2 14 HT_ HW_ hHeld ?_
 refine ztu 3 15 HT_ HW_ hHeld ?_
 refine ztu 6 18 HT_ HW_ hHeld ?_
 refine zpu 7 19 HT_ ?_
 refine ztu 8 20 HT_ HW_ hHeld ?_
 refine ztu 11 23 HT_ HW_ hHeld ?_
 refine zpu 12 24 HT_ ?_
 refine ztu 13 25 HT_ HW_ hHeld ?_
 refine one_ (i := 14) (N := some 26) #[true, true, true, true, true, true, true, true, true, true, true, true, true, true, true, false, false] rfl rfl (zoj HT_.out zq28) (by decide) (fun K hK => ?_)
 refine zgo Tryz.func167 (znk k1 ((zaa l0 x8_1).f0) ((zaa l0 x8_1).f1) ((zaa l0 x8_1).f2) ((zaa l0 x8_1).f3) ((zaa l0 x8_1).f4) (rd x1_1 ((zaa l0 x8_1).f2)) (rd x1_1 ((zaa l0 x8_1).f3)) t105 _ A10.out) ?_
 rintro e w19 ⟨rfl, hb⟩
 have HS5_ := (hb.cell (World.block_lt_of_cell? _ _ (hHeld.2.2.2.2.2.1))).trans (hHeld.2.2.2.2.2.1)
 have HS6_ := (hb.cell (World.block_lt_of_cell? _ _ (hHeld.2.2.2.2.2.2))).trans (hHeld.2.2.2.2.2.2)
 refine ⟨_, rfl, ?_⟩
 replace HO_1 := zA (zRb (zq2 HO_1) hb)
 replace BK102 := zA (zah (g := gb102) (o := .cells #[.string ((zaa l0 x8_1).f0), .int .i64 ((zaa l0 x8_1).f1), .int .i64 ((zaa l0 x8_1).f2), .int .i64 ((zaa l0 x8_1).f3), .int .i64 ((zaa l0 x8_1).f4)] 69 (0, 0)) (zq8 BK102) hb)
 replace HK := zA (Kept.below (S := (fun k_ => P1_ k_)) (zq45 GW102) hb)
 replace HB := zA (zab (zq3 GE102) hb)
 (try clear hb)
 (try clear hb2)
 (try clear hk)
 (try clear hi)
 have p13 : 0 ≤ (((zaa l0 x8_1).f1) : Int) := zde zq21
 have q13 : (((zaa l0 x8_1).f1) : Int) < ((x1_1.length : Int) : Int) := zde zq21
 obtain ⟨go13, co13, eo13, gb13, gl13, cl13, HG13⟩ := Kd.R_form HO_1.out (by omega)
 (first | cases eo13 | (injection eo13 with ea_ en_ ec_; (first | subst ea_ | (injection ea_ with ea_; subst ea_)); subst ec_; clear en_))
 have GB13 := zA gb13
 have GG13 := zA HG13
 clear gb13 gl13 HG13
 have HMgo13 := zA (show (P1_ go13 ∨ w.heap.size ≤ go13) from (HO_1.out.1 _ rfl))
 (first | simp only [zcg] at hx103_0 | skip)
 (first | simp only [zcg] at hx104_0 | skip)
 obtain ⟨hx13_0, hf13_0⟩ := Kd.R_celln 0 HO_1.out (((zaa l0 x8_1).f1) : Int) p13 q13
 replace p13 := eq_true p13
 replace q13 := eq_true q13
 have HP20 := Kd.R_putn HO_1.out (((zaa l0 x8_1).f1) : Int) t105
 rw [← Ny106.out] at HP20
 have HQ20 := zA HP20
 clear HP20
 refine hK.out _ _ ⟨(zad BK102.out 0).trans rfl, (zad BK102.out 1).trans rfl, (zad BK102.out 2).trans rfl, (zad BK102.out 3).trans rfl, (zad BK102.out 4).trans rfl, HS5_, HS6_⟩ (fun hHeld => ?_)
 clear hK K
 refine znm 26 ?_
 refine zpu 15 27 HT_ ?_
 refine yd9 (i := 16) (N := none) #[true, true, true, true, true, true, true, true, true, true, true, true, true, true, true, true, true] rfl rfl (zoj HT_.out zq28) (by decide) (fun K hK => ?_)
 refine zs5 (w1 := ?_) (by rfl) rfl ?_ ?_
 rotate_left
 · go_simp
   rfl
 refine hK.out _ _ ?_
 clear hK K
 refine zvd (zo1 HT_.out zq28) ?_
 try go_wp2
 go_roundg k1
 case measure => have := HK1.out; omega
 case rel => exact ⟨(y106), (wrap64 (x8_1 + 1)), zq5, H', ⟨zq41 HK1⟩, ⟨zq2 HQ20⟩, ⟨by repeat (first | (with_reducible first | exact HK.out | apply Kept.alloc | apply Kept.drewN | apply Kept.drew | refine Kept.setCell ?_ HMgo13.out _ | refine Kept.setCell ?_ (.inr GW102.out) _) | exact HK.out)⟩, ⟨zq11 GB13 GE102⟩⟩
def zfj (k : Nat) (l0 : List (S69)) (a1 : Int) (a2 : Int) : Option (List Int) := if 6 ≤ 35184372088832 then ((some (List.replicate 6 0 : List Int)).bind fun y101 => (if 0 < (y101.length : Int) then (if 1 < (y101.length : Int) then ((zii k l0 ((y101.set (0 : Int).toNat a1).set (1 : Int).toNat a2)).bind fun t106 => (some t106)) else (none)) else (none))) else (none)
theorem zjs : ∀ a0 a1 a2 k, LeO (zfj k a0 a1 a2) (zfj (k + 1) a0 a1 a2) := by
 intro a0 a1 a2 k
 unfold zfj
 exact zm1 ztz
theorem zfw (k : Nat) (A0 : Option Addr) (c0 : Nat) (l0 : List (S69)) (a1 : Int) (a2 : Int) (r : List Int) (w : World) (hr0 : Kd.C k69 w A0 l0.length l0) (hc0 : l0.length ≤ c0) (h : zfj k l0 a1 a2 = some r) :
   Calls Tryz.prog 151 #[.slice A0 l0.length c0, .int .i64 a1, .int .i64 a2] w fun e w' => ∃ v0_ : Value, e = .returned (v0_) ∧ Kd.R (Kd.int .i64) 3 w' w.heap.size (fun _ => True) v0_ r ∧ Below w.heap.size w w' := by
 have HR0 := zA hr0
 have HC0 := zA hc0
 clear hr0 hc0
 have HB := zA (Below.refl w.heap.size w)
 have H := h
 unfold zfj at H
 clear h
 by_cases c4 : 6 ≤ 35184372088832
 rotate_left
 · rw [if_neg c4] at H
   exact absurd H (by simp)
 rw [if_pos c4] at H
 have c4b0 := eq_true c4
 have c4b1 := zdt c4
 clear c4
 obtain ⟨y101, hy101⟩ : ∃ y_ : List Int, y_ = (List.replicate 6 0) := ⟨_, rfl⟩
 rw [← hy101] at H; try with_reducible replace H := zbs H
 have Ny101 := zA hy101
 clear hy101
 by_cases c5 : 0 < (y101.length : Int)
 rotate_left
 · rw [if_neg c5] at H
   exact absurd H (by simp)
 rw [if_pos c5] at H
 have c5b0 := zdt c5
 have c5b1 : decide (0 < y101.length) = true := zdt (by omega)
 clear c5
 obtain ⟨y104, hy104⟩ : ∃ y_ : List Int, y_ = (y101.set (0 : Int).toNat a1) := ⟨_, rfl⟩
 rw [← hy104] at H; try with_reducible replace H := zbs H
 have Ny104 := zA hy104
 clear hy104
 by_cases c7 : 1 < (y101.length : Int)
 rotate_left
 · rw [if_neg c7] at H
   exact absurd H (by simp)
 rw [if_pos c7] at H
 have c7b0 := zdt c7
 have c7b1 : decide (1 < y101.length) = true := zdt (by omega)
 clear c7
 obtain ⟨y105, hy105⟩ : ∃ y_ : List Int, y_ = (y104.set (1 : Int).toNat a2) := ⟨_, rfl⟩
 rw [← hy105] at H; try with_reducible replace H := zbs H
 have Ny105 := zA hy105
 clear hy105
 replace H := zob H
 obtain ⟨t106, A90, H⟩ := H
 have A9 := zA A90
 clear A90
 obtain rfl := zsi H
 go_enter Tryz.func151, Tryz.ntmps151
 go_wp2_with (first | ((with_reducible refine zgd 8 ?_); refine Kd.R_make (Kd.int .i64) _ 3 rfl (N := 8) rfl 24 _ _ rfl 6 rfl rfl Tryz.underlying24 (.int .i64 0) 8 zn1 rfl (by decide) (by omega) 0 (ok := fun _ => True) (okp := fun _ => True) rfl (fun _ hk => hk) trivial (by omega) (by omega) (Below.refl _ _) (zlr _) ?_; intro v102 w10 ho11 hb hg_ hnew_; clear hg_ hnew_; (first | rw [← Ny101.out] at ho11 | (simp only [Int.reduceToNat] at ho11; rw [← Ny101.out] at ho11)); have HO103 := zA (Kd.R_lower ho11 (zag zq1)); replace HB := zA (zab zq1 hb); clear hb ho11; have p6 : 0 ≤ (0 : Int) := (by omega); have q6 : (0 : Int) < ((y101.length : Int) : Int) := zde zq21; have qi6 : (0 < y101.length) = True := eq_true (by omega); obtain ⟨go6, co6, eo6, gb6, gl6, cl6, HG6⟩ := Kd.R_form HO103.out (by omega); (first | cases eo6 | (injection eo6 with ea_ en_ ec_; (first | subst ea_ | (injection ea_ with ea_; subst ea_)); subst ec_; clear en_)); have GB6 := zA gb6; have GG6 := zA HG6; clear gb6 gl6 HG6; obtain ⟨hx6_0, hf6_0⟩ := Kd.R_celln 0 HO103.out (0 : Int) p6 q6; (try rw [show ((0 : Int)).toNat = 0 from rfl] at hx6_0); (try simp only [Nat.reduceMul, Nat.zero_mul, Nat.zero_add, Nat.reduceAdd] at hx6_0); (try rw [show ((0 : Int)).toNat = 0 from rfl] at hf6_0); (try simp only [Nat.reduceMul, Nat.zero_mul, Nat.zero_add, Nat.reduceAdd] at hf6_0); replace p6 := eq_true p6; replace q6 := eq_true q6; obtain ⟨hy12_, hz12_⟩ := Kd.R_celln 0 HO103.out (0 : Int) (by omega) (zde zq21); (try simp only [Int.reduceToNat, Int.toNat_zero, Int.toNat_ofNat, Nat.reduceMul, Nat.zero_mul, Nat.zero_add] at hy12_ hz12_); (try rw [show ((0 : Int)).toNat = 0 from rfl] at hy12_); (try rw [show ((0 : Int)).toNat = 0 from rfl] at hz12_); have HP12 := Kd.R_putg HO103.out (0 : Int) a1) | ((with_reducible refine zgs 3 13 ?_); refine zse (w10.setCell ⟨go6, (0 : Int).toNat, none⟩ (.int .i64 a1)) ?_; intro w13 hw; have hg : w10.grownBy w13 (some go6) := (by rw [hw]; exact HP12.2); have hp_ : Kd.R (Kd.int .i64) 3 w13 w.heap.size (fun _ => True) (.slice (some ⟨go6, 0, none⟩) y101.length co6) y104 := (by rw [hw, Ny104.out]; exact HP12.1); clear HP12; replace HO103 := zA (hp_); replace HB := zA ((zq39 GB6 : Below w.heap.size w w13)); clear hg hw hp_; have p8 : 0 ≤ (1 : Int) := (by omega); have q8 : (1 : Int) < ((y101.length : Int) : Int) := zde zq21; have qi8 : (1 < y101.length) = True := eq_true (by omega); obtain ⟨hx8_0, hf8_0⟩ := Kd.R_celln 0 HO103.out (1 : Int) p8 q8; (try rw [show ((1 : Int)).toNat = 1 from rfl] at hx8_0); (try simp only [Nat.reduceMul, Nat.zero_mul, Nat.zero_add, Nat.reduceAdd] at hx8_0); (try rw [show ((1 : Int)).toNat = 1 from rfl] at hf8_0); (try simp only [Nat.reduceMul, Nat.zero_mul, Nat.zero_add, Nat.reduceAdd] at hf8_0); replace p8 := eq_true p8; replace q8 := eq_true q8; obtain ⟨hy14_, hz14_⟩ := Kd.R_celln 0 HO103.out (1 : Int) (by omega) (zde zq21); (try simp only [Int.reduceToNat, Int.toNat_zero, Int.toNat_ofNat, Nat.reduceMul, Nat.zero_mul, Nat.zero_add] at hy14_ hz14_); (try rw [show ((1 : Int)).toNat = 1 from rfl] at hy14_); (try rw [show ((1 : Int)).toNat = 1 from rfl] at hz14_); have HP14 := Kd.R_putg HO103.out (1 : Int) a2) | ((with_reducible refine zgs 3 14 ?_); refine zse (w13.setCell ⟨go6, (1 : Int).toNat, none⟩ (.int .i64 a2)) ?_; intro w15 hw; have hg : w13.grownBy w15 (some go6) := (by rw [hw]; exact HP14.2); have hp_ : Kd.R (Kd.int .i64) 3 w15 w.heap.size (fun _ => True) (.slice (some ⟨go6, 0, none⟩) y101.length co6) y105 := (by rw [hw, Ny105.out]; exact HP14.1); clear HP14; replace HO103 := zA (hp_); replace HB := zA ((zq39 GB6 : Below w.heap.size w w15)); clear hg hw hp_) | ((with_reducible refine zgc 183 ?_); refine zca 17 Tryz.func183 #[.slice A0 l0.length c0, .slice (some ⟨go6, 0, none⟩) y101.length co6] (zs0 k _ _ l0 (fun k_ => some k_ = (.slice (some ⟨go6, 0, none⟩) y101.length co6 : Value).ownBlock) (.slice (some ⟨go6, 0, none⟩) y101.length co6) y105 t106 w _ zq1 (by exact Kd.C_kept_came zzs HR0.out zq1 (fun k_ hs_ => (fun e_ => Kd.R_base HO103.out k_ e_.symm) hs_)) HC0.out (by exact Kd.R_tight rfl HO103.out) A9.out) ?_; rintro e w16 ⟨rfl, hy0, hb, hkp⟩; refine ⟨_, rfl, ?_⟩; replace HO103 := zA (Kd.R_reok rfl hy0 (fun k_ e_ => HO103.out.1 k_ e_)); replace HB := zA (hb); (try clear hb); (try clear hkp); (try clear hy0)))
 go_ret
 exact ⟨_, zq4, zq2 HO103, zq1⟩
mutual
def zbk : Nat → List (S69) → List (S69) → List Int → Int → Option (List Int × Bool)
 | 0, _, _, _, _ => none
 | k + 1, x0, x1, x2, x20 => if x20 < 4096 then ((zht x20).bind fun bt102 => ((zfj k x0 bt102.1 bt102.2).bind fun t104 => ((zfj k x1 bt102.1 bt102.2).bind fun t107 => (zbm k x0 x1 x2 bt102.1 bt102.2 t104 t107 x20 x2 (x2.length : Int) 0)))) else (some (([] : List Int), false))
def zbm : Nat → List (S69) → List (S69) → List Int → Int → Int → List Int → List Int → Int → List Int → Int → Int → Option (List Int × Bool)
 | 0, _, _, _, _, _, _, _, _, _, _, _ => none
 | k + 1, x0, x1, x2, x9, x10, x11, x12, x20, x36, x37, x38 => if x38 < x37 then (if 0 ≤ x38 then (if x38 < (x36.length : Int) then (if 0 ≤ (rd x36 x38) then (if (rd x36 x38) < (x11.length : Int) then (if (rd x36 x38) < (x12.length : Int) then (if (rd x11 (rd x36 x38)) = (rd x12 (rd x36 x38)) then (zbm k x0 x1 x2 x9 x10 x11 x12 x20 x36 x37 (wrap64 (x38 + 1))) else (some ((([x9, x10, rd x36 x38] : List Int)), true))) else (none)) else (none)) else (none)) else (none)) else (none)) else (zbk k x0 x1 x2 (wrap64 (x20 + 1)))
end
def zdd (k : Nat) (l0 : List (S69)) (l1 : List (S69)) (l2 : List Int) : Option (List Int × Bool) := (zcx k l0 l1 l2).bind fun t101 => (if t101 = true then (zbk k l0 l1 l2 0) else (some (([] : List Int), false)))
theorem zij : ∀ k, (∀ y0 y1 y2 y3, LeO (zbk k y0 y1 y2 y3) (zbk (k + 1) y0 y1 y2 y3)) ∧ (∀ y0 y1 y2 y3 y4 y5 y6 y7 y8 y9 y10, LeO (zbm k y0 y1 y2 y3 y4 y5 y6 y7 y8 y9 y10) (zbm (k + 1) y0 y1 y2 y3 y4 y5 y6 y7 y8 y9 y10))
 | 0 => ⟨fun _ _ _ _ r h => by simp [zbk] at h, fun _ _ _ _ _ _ _ _ _ _ _ r h => by simp [zbm] at h⟩
 | k + 1 => by
   obtain ⟨ih0, ih1⟩ := zij k
   refine ⟨?_, ?_⟩
   · intro y0 y1 y2 y3
     unfold zbk
     exact zm4 ih0 ih1 zd7 zjs
   · intro y0 y1 y2 y3 y4 y5 y6 y7 y8 y9 y10
     unfold zbm
     exact zm4 ih0 ih1 zd7 zjs
theorem zm9 : ∀ a0 a1 a2 k, LeO (zdd k a0 a1 a2) (zdd (k + 1) a0 a1 a2) := by
 intro a0 a1 a2 k
 obtain ⟨ih0, ih1⟩ := zij k
 unfold zdd
 exact zm4 ih0 ih1 zd7 zjs
theorem zmi (k : Nat) (A0 : Option Addr) (c0 : Nat) (l0 : List (S69)) (A1 : Option Addr) (c1 : Nat) (l1 : List (S69)) (A2 : Option Addr) (c2 : Nat) (l2 : List Int) (r1 : List Int) (r2 : Bool) (w : World) (hr0 : Kd.C k69 w A0 l0.length l0) (hc0 : l0.length ≤ c0) (hr1 : Kd.C k69 w A1 l1.length l1) (hc1 : l1.length ≤ c1) (hr2 : Kd.C (Kd.int .i64) w A2 l2.length l2) (hc2 : l2.length ≤ c2) (h : zdd k l0 l1 l2 = some (r1, r2)) :
   Calls Tryz.prog 110 #[.slice A0 l0.length c0, .slice A1 l1.length c1, .slice A2 l2.length c2] w fun e w' => ∃ v0_ : Value, e = .returned (.tuple #[v0_, .bool r2]) ∧ Kd.R (Kd.int .i64) 3 w' w.heap.size (fun _ => True) v0_ r1 ∧ Below w.heap.size w w' := by
 have HR0 := zA hr0
 have HC0 := zA hc0
 clear hr0 hc0
 have HR1 := zA hr1
 have HC1 := zA hc1
 clear hr1 hc1
 have HR2 := zA hr2
 have HC2 := zA hc2
 clear hr2 hc2
 have HB := zA (Below.refl w.heap.size w)
 have H := h
 unfold zdd at H
 clear h
 replace H := zob H
 obtain ⟨t101, A40, H⟩ := H
 have A4 := zA A40
 clear A40
 by_cases c5 : t101 = true
 rotate_left
 · replace c5 := zbf c5
   subst c5
   replace H := zif H
   simp only [Option.some.injEq, Prod.mk.injEq] at H
   obtain ⟨rfl, rfl⟩ := H
   go_enter Tryz.func110, Tryz.ntmps110
   go_wp2_with (first | (go_at_call 74; (with_reducible refine (zbg k _ _ l0 _ _ l1 _ _ l2 false _ ?side1 ?side2 ?side3 ?side4 ?side5 ?side6 A4.out).mono ?_); (case side1 => repeat (first | exact HR0.out | (with_reducible first | refine zCa ?_ _ | refine zCn ?_ _ | refine zCd ?_))); (case side2 => exact HC0.out); (case side3 => repeat (first | exact HR1.out | (with_reducible first | refine zCa ?_ _ | refine zCn ?_ _ | refine zCd ?_))); (case side4 => exact HC1.out); (case side5 => repeat (first | exact HR2.out | (with_reducible first | refine zCa ?_ _ | refine zCn ?_ _ | refine zCd ?_))); (case side6 => exact HC2.out); rintro e w26 ⟨rfl, hb⟩; replace HB := zA (zab zq1 hb); (try clear hb)))
   repeat (go_quiet ((go_at_call 74; (with_reducible refine (zbg k _ _ l0 _ _ l1 _ _ l2 false _ ?side1 ?side2 ?side3 ?side4 ?side5 ?side6 A4.out).mono ?_); (case side1 => repeat (first | exact HR0.out | (with_reducible first | refine zCa ?_ _ | refine zCn ?_ _ | refine zCd ?_))); (case side2 => exact HC0.out); (case side3 => repeat (first | exact HR1.out | (with_reducible first | refine zCa ?_ _ | refine zCn ?_ _ | refine zCd ?_))); (case side4 => exact HC1.out); (case side5 => repeat (first | exact HR2.out | (with_reducible first | refine zCa ?_ _ | refine zCn ?_ _ | refine zCd ?_))); (case side6 => exact HC2.out); rintro e w26 ⟨rfl, hb⟩; have n0_ := zA (zab zq1 hb); clear HB; have HB := n0_; clear n0_; (try clear hb)))); try go_wp2_with ((go_at_call 74; (with_reducible refine (zbg k _ _ l0 _ _ l1 _ _ l2 false _ ?side1 ?side2 ?side3 ?side4 ?side5 ?side6 A4.out).mono ?_); (case side1 => repeat (first | exact HR0.out | (with_reducible first | refine zCa ?_ _ | refine zCn ?_ _ | refine zCd ?_))); (case side2 => exact HC0.out); (case side3 => repeat (first | exact HR1.out | (with_reducible first | refine zCa ?_ _ | refine zCn ?_ _ | refine zCd ?_))); (case side4 => exact HC1.out); (case side5 => repeat (first | exact HR2.out | (with_reducible first | refine zCa ?_ _ | refine zCn ?_ _ | refine zCd ?_))); (case side6 => exact HC2.out); rintro e w26 ⟨rfl, hb⟩; have n0_ := zA (zab zq1 hb); clear HB; have HB := n0_; clear n0_; (try clear hb)))
   go_ret2
   exact ⟨_, zq4, zq38, zq1⟩
 subst c5
 replace H := zih H
 have H' := zA H
 clear H
 go_enter Tryz.func110, Tryz.ntmps110
 go_wp2_with (first | (go_at_call 74; (with_reducible refine (zbg k _ _ l0 _ _ l1 _ _ l2 true _ ?side1 ?side2 ?side3 ?side4 ?side5 ?side6 A4.out).mono ?_); (case side1 => repeat (first | exact HR0.out | (with_reducible first | refine zCa ?_ _ | refine zCn ?_ _ | refine zCd ?_))); (case side2 => exact HC0.out); (case side3 => repeat (first | exact HR1.out | (with_reducible first | refine zCa ?_ _ | refine zCn ?_ _ | refine zCd ?_))); (case side4 => exact HC1.out); (case side5 => repeat (first | exact HR2.out | (with_reducible first | refine zCa ?_ _ | refine zCn ?_ _ | refine zCd ?_))); (case side6 => exact HC2.out); rintro e w6 ⟨rfl, hb⟩; replace HB := zA (zab zq1 hb); (try clear hb)))
 repeat (go_quiet ((go_at_call 74; (with_reducible refine (zbg k _ _ l0 _ _ l1 _ _ l2 true _ ?side1 ?side2 ?side3 ?side4 ?side5 ?side6 A4.out).mono ?_); (case side1 => repeat (first | exact HR0.out | (with_reducible first | refine zCa ?_ _ | refine zCn ?_ _ | refine zCd ?_))); (case side2 => exact HC0.out); (case side3 => repeat (first | exact HR1.out | (with_reducible first | refine zCa ?_ _ | refine zCn ?_ _ | refine zCd ?_))); (case side4 => exact HC1.out); (case side5 => repeat (first | exact HR2.out | (with_reducible first | refine zCa ?_ _ | refine zCn ?_ _ | refine zCd ?_))); (case side6 => exact HC2.out); rintro e w6 ⟨rfl, hb⟩; have n0_ := zA (zab zq1 hb); clear HB; have HB := n0_; clear n0_; (try clear hb)))); try go_wp2_with ((go_at_call 74; (with_reducible refine (zbg k _ _ l0 _ _ l1 _ _ l2 true _ ?side1 ?side2 ?side3 ?side4 ?side5 ?side6 A4.out).mono ?_); (case side1 => repeat (first | exact HR0.out | (with_reducible first | refine zCa ?_ _ | refine zCn ?_ _ | refine zCd ?_))); (case side2 => exact HC0.out); (case side3 => repeat (first | exact HR1.out | (with_reducible first | refine zCa ?_ _ | refine zCn ?_ _ | refine zCd ?_))); (case side4 => exact HC1.out); (case side5 => repeat (first | exact HR2.out | (with_reducible first | refine zCa ?_ _ | refine zCn ?_ _ | refine zCd ?_))); (case side6 => exact HC2.out); rintro e w6 ⟨rfl, hb⟩; have n0_ := zA (zab zq1 hb); clear HB; have HB := n0_; clear n0_; (try clear hb)))
 go_loopg [20] k (fun kq v20 w' => ∃ (x20_1 : Int), v20 = .int .i64 x20_1 ∧ Aside0 (zbk kq l0 l1 l2 x20_1 = some (r1, r2)) ∧ Aside0 (kq ≤ k) ∧ Aside0 (Below w.heap.size w w'))
 case atStart => exact ⟨(0), zq5, H', ⟨zlr _⟩, ⟨zq1⟩⟩
 clear H'
 obtain ⟨x20_1, rfl, HA, HK1, HB⟩ := hrel
 cases gk with
 | zero => exact absurd HA.out (by simp [zbk])
 | succ k1 =>
 have H := HA.out
 clear HA
 simp only [zbk] at H
 revert H
 refine zit (fun c7 H => ?_) fun c7 H => ?_
 rotate_left
 · simp only [Option.some.injEq, Prod.mk.injEq] at H
   obtain ⟨rfl, rfl⟩ := H
   go_wp2
   repeat (go_quiet (fail); try go_wp2)
   go_ret2
   exact ⟨_, zq4, zq38, zq1⟩
 replace H := zob H
 obtain ⟨⟨t102, t103⟩, A80, H⟩ := H
 have A8 := zA A80
 clear A80
 replace H := zob H
 obtain ⟨t104, A90, H⟩ := H
 have A9 := zA A90
 clear A90
 replace H := zob H
 obtain ⟨t107, A100, H⟩ := H
 have A10 := zA A100
 clear A100
 have H' := zA H
 clear H
 go_wp2_with (first | (go_at_call 150; (with_reducible refine (zid x20_1 t102 t103 _ A8.out).mono ?_); rintro e w' ⟨rfl, ⟨nd, rfl⟩⟩; (try first | exact ⟨rfl, _, World.drewN_drewN _ _ _⟩ | exact ⟨rfl, _, Eq.trans (World.drewN_drewN _ _ _) (congrArg (World.drewN _) (Nat.add_assoc _ _ _))⟩)) | (go_at_call 151; (with_reducible refine (zfw k1 _ _ l0 t102 t103 t104 _ ?side1 ?side2 A9.out).mono ?_); (case side1 => repeat (first | exact (zCb HR0.out zq1) | (with_reducible first | refine zCa ?_ _ | refine zCn ?_ _ | refine zCd ?_))); (case side2 => exact HC0.out); rintro e w11 ⟨v105, rfl, ho0, hb⟩; have HO106 := zA (Kd.R_lower ho0 (zag zq1)); replace HB := zA (zab zq1 hb); (try clear hb); (try clear ho0)) | (go_at_call 151; (with_reducible refine (zfw k1 _ _ l1 t102 t103 t107 _ ?side1 ?side2 A10.out).mono ?_); (case side1 => repeat (first | exact (zCb HR1.out HB.out) | (with_reducible first | refine zCa ?_ _ | refine zCn ?_ _ | refine zCd ?_))); (case side2 => exact HC1.out); rintro e w12 ⟨v108, rfl, ho0, hb⟩; have HO109 := zA (Kd.R_lower (Kd.R_new' ho0 (Kd.R_lt (zq2 HO106))) (zag zq1)); replace HO106 := zA (Kd.R_elder' (zq2 HO106) (Kd.R_base ho0) hb); replace HB := zA (zab zq1 hb); (try clear hb); (try clear ho0)))
 repeat (go_quiet (first | (go_at_call 150; (with_reducible refine (zid x20_1 t102 t103 _ A8.out).mono ?_); rintro e w' ⟨rfl, ⟨nd, rfl⟩⟩; (try first | exact ⟨rfl, _, World.drewN_drewN _ _ _⟩ | exact ⟨rfl, _, Eq.trans (World.drewN_drewN _ _ _) (congrArg (World.drewN _) (Nat.add_assoc _ _ _))⟩)) | (go_at_call 151; (with_reducible refine (zfw k1 _ _ l0 t102 t103 t104 _ ?side1 ?side2 A9.out).mono ?_); (case side1 => repeat (first | exact (zCb HR0.out zq1) | (with_reducible first | refine zCa ?_ _ | refine zCn ?_ _ | refine zCd ?_))); (case side2 => exact HC0.out); rintro e w11 ⟨v105, rfl, ho0, hb⟩; have n0_ := zA (Kd.R_lower ho0 (zag zq1)); have n1_ := zA (zab zq1 hb); clear HB; have HO106 := n0_; have HB := n1_; clear n0_ n1_; (try clear hb); (try clear ho0)) | (go_at_call 151; (with_reducible refine (zfw k1 _ _ l1 t102 t103 t107 _ ?side1 ?side2 A10.out).mono ?_); (case side1 => repeat (first | exact (zCb HR1.out HB.out) | (with_reducible first | refine zCa ?_ _ | refine zCn ?_ _ | refine zCd ?_))); (case side2 => exact HC1.out); rintro e w12 ⟨v108, rfl, ho0, hb⟩; have n0_ := zA (Kd.R_elder' (zq2 HO106) (Kd.R_base ho0) hb); have n1_ := zA (Kd.R_lower (Kd.R_new' ho0 (Kd.R_lt (zq2 HO106))) (zag zq1)); have n2_ := zA (zab zq1 hb); clear HO106 HB; have HO106 := n0_; have HO109 := n1_; have HB := n2_; clear n0_ n1_ n2_; (try clear hb); (try clear ho0)))); try go_wp2_with (first | (go_at_call 150; (with_reducible refine (zid x20_1 t102 t103 _ A8.out).mono ?_); rintro e w' ⟨rfl, ⟨nd, rfl⟩⟩; (try first | exact ⟨rfl, _, World.drewN_drewN _ _ _⟩ | exact ⟨rfl, _, Eq.trans (World.drewN_drewN _ _ _) (congrArg (World.drewN _) (Nat.add_assoc _ _ _))⟩)) | (go_at_call 151; (with_reducible refine (zfw k1 _ _ l0 t102 t103 t104 _ ?side1 ?side2 A9.out).mono ?_); (case side1 => repeat (first | exact (zCb HR0.out zq1) | (with_reducible first | refine zCa ?_ _ | refine zCn ?_ _ | refine zCd ?_))); (case side2 => exact HC0.out); rintro e w11 ⟨v105, rfl, ho0, hb⟩; have n0_ := zA (Kd.R_lower ho0 (zag zq1)); have n1_ := zA (zab zq1 hb); clear HB; have HO106 := n0_; have HB := n1_; clear n0_ n1_; (try clear hb); (try clear ho0)) | (go_at_call 151; (with_reducible refine (zfw k1 _ _ l1 t102 t103 t107 _ ?side1 ?side2 A10.out).mono ?_); (case side1 => repeat (first | exact (zCb HR1.out HB.out) | (with_reducible first | refine zCa ?_ _ | refine zCn ?_ _ | refine zCd ?_))); (case side2 => exact HC1.out); rintro e w12 ⟨v108, rfl, ho0, hb⟩; have n0_ := zA (Kd.R_elder' (zq2 HO106) (Kd.R_base ho0) hb); have n1_ := zA (Kd.R_lower (Kd.R_new' ho0 (Kd.R_lt (zq2 HO106))) (zag zq1)); have n2_ := zA (zab zq1 hb); clear HO106 HB; have HO106 := n0_; have HO109 := n1_; have HB := n2_; clear n0_ n1_ n2_; (try clear hb); (try clear ho0)))
 go_loopg [38] k1 (fun kq v38 w' => ∃ (x38_2 : Int), v38 = .int .i64 x38_2 ∧ Aside0 (zbm kq l0 l1 l2 t102 t103 t104 t107 x20_1 l2 (l2.length : Int) x38_2 = some (r1, r2)) ∧ Aside0 (kq ≤ k1) ∧ Aside0 (Kd.R (Kd.int .i64) 3 w' w.heap.size (fun k_ => some k_ ≠ (v108 : Value).ownBlock) v105 t104) ∧ Aside0 (Kd.R (Kd.int .i64) 3 w' w.heap.size (fun k_ => some k_ ≠ (v105 : Value).ownBlock) v108 t107) ∧ Aside0 (Below w.heap.size w w'))
 case atStart => exact ⟨(0), zq5, H', ⟨zlr _⟩, ⟨zq29 HO106⟩, ⟨zq29 HO109⟩, ⟨zq1⟩⟩
 clear H'
 obtain ⟨x38_2, rfl, HA, HK2, HO_11, HO_12, HB⟩ := hrel
 cases gk with
 | zero => exact absurd HA.out (by simp [zbm])
 | succ k2 =>
 have H := HA.out
 clear HA
 simp only [zbm] at H
 revert H
 refine zit (fun c13 H => ?_) fun c13 H => ?_
 rotate_left
 · have H' := zA H
   clear H
   go_wp2
   repeat (go_quiet (fail); try go_wp2)
   go_roundg k2
   case measure => have := HK1.out; have := HK2.out; omega
   case rel => exact ⟨(wrap64 (x20_1 + 1)), zq5, H', ⟨zq42 HK1 HK2⟩, ⟨zq1⟩⟩
 revert H
 refine zin fun c14 H => ?_
 revert H
 refine zin fun c15 H => ?_
 revert H
 refine zin fun c16 H => ?_
 revert H
 refine zin fun c17 H => ?_
 revert H
 refine zin fun c18 H => ?_
 by_cases c19 : (rd t104 (rd l2 x38_2)) = (rd t107 (rd l2 x38_2))
 · rw [if_pos c19] at H
   obtain ⟨c19b0, c19b1⟩ := zbe c19
   clear c19
   have H' := zA H
   clear H
   obtain ⟨p110, q110⟩ := zpq x38_2 l2.length
   obtain ⟨ad110, e110, hx110_0⟩ := Kd.at_int HR2.out x38_2 (zoe p110) (zoe q110)
   cases e110
   replace hx110_0 := zkep HB.out hx110_0
   obtain ⟨Ao20, co20, eo20⟩ := Kd.R_slice HO_11.out
   subst eo20
   have p111 : 0 ≤ ((rd l2 x38_2) : Int) := zde zq21
   have q111 : (rd l2 x38_2) < (t104.length : Int) := zde zq21
   obtain ⟨ad111, e111, hx111_0⟩ := Kd.at_int (zRr HO_11.out).2.2 (rd l2 x38_2) p111 q111
   cases e111
   replace p111 := eq_true p111
   replace q111 := eq_true q111
   obtain ⟨Ao21, co21, eo21⟩ := Kd.R_slice HO_12.out
   subst eo21
   have p112 : 0 ≤ ((rd l2 x38_2) : Int) := zde zq21
   have q112 : (rd l2 x38_2) < (t107.length : Int) := zde zq21
   obtain ⟨ad112, e112, hx112_0⟩ := Kd.at_int (zRr HO_12.out).2.2 (rd l2 x38_2) p112 q112
   cases e112
   replace p112 := eq_true p112
   replace q112 := eq_true q112
   go_wp2
   repeat (go_quiet (fail); try go_wp2)
   go_roundg k2
   case measure => have := HK1.out; have := HK2.out; omega
   case rel => exact ⟨(wrap64 (x38_2 + 1)), zq5, H', ⟨zq42 HK1 HK2⟩, ⟨zq2 HO_11⟩, ⟨zq2 HO_12⟩, ⟨zq1⟩⟩
 rw [if_neg c19] at H
 obtain ⟨c19b0, c19b1⟩ := zbq c19
 obtain ⟨y113, hy113⟩ : ∃ y_ : List Int, y_ = (([t102, t103, rd l2 x38_2] : List Int)) := ⟨_, rfl⟩
 rw [← hy113] at H; try with_reducible replace H := zbs H
 have Ny113 := zA hy113
 clear hy113
 simp only [Option.some.injEq, Prod.mk.injEq] at H
 obtain ⟨rfl, rfl⟩ := H
 obtain ⟨p110, q110⟩ := zpq x38_2 l2.length
 obtain ⟨ad110, e110, hx110_0⟩ := Kd.at_int HR2.out x38_2 (zoe p110) (zoe q110)
 cases e110
 replace hx110_0 := zkep HB.out hx110_0
 obtain ⟨Ao22, co22, eo22⟩ := Kd.R_slice HO_11.out
 subst eo22
 have p111 : 0 ≤ ((rd l2 x38_2) : Int) := zde zq21
 have q111 : (rd l2 x38_2) < (t104.length : Int) := zde zq21
 obtain ⟨ad111, e111, hx111_0⟩ := Kd.at_int (zRr HO_11.out).2.2 (rd l2 x38_2) p111 q111
 cases e111
 replace p111 := eq_true p111
 replace q111 := eq_true q111
 obtain ⟨Ao23, co23, eo23⟩ := Kd.R_slice HO_12.out
 subst eo23
 have p112 : 0 ≤ ((rd l2 x38_2) : Int) := zde zq21
 have q112 : (rd l2 x38_2) < (t107.length : Int) := zde zq21
 obtain ⟨ad112, e112, hx112_0⟩ := Kd.at_int (zRr HO_12.out).2.2 (rd l2 x38_2) p112 q112
 cases e112
 replace p112 := eq_true p112
 replace q112 := eq_true q112
 go_wp2_with (first | ((with_reducible refine zgd 54 ?_); refine Kd.R_lit (Kd.int .i64) _ 3 ?hg (N := 54) ?hd (xs := ([t102, t103, rd l2 x38_2] : List Int)) (inner := [.int .i64 t102, .int .i64 t103, .int .i64 (rd l2 x38_2)]) (ok := fun _ => True) (okp := fun _ => True) ?hr ?hp (fun _ hk => hk) trivial (Below.refl _ _) (zlr _) (by simp) ?_; (case hd => rfl); (case hg => rfl); (case hr => go_simp <;> rfl); (case hp => exact (zan (show Kd.M (Kd.int .i64) _ _ _ t102 [.int .i64 t102] from rfl) (zan (show Kd.M (Kd.int .i64) _ _ _ t103 [.int .i64 t103] from rfl) (zan (show Kd.M (Kd.int .i64) _ _ _ (rd l2 x38_2) [.int .i64 (rd l2 x38_2)] from rfl) (Reps.none _ _))))); intro v114 w24 ho25 hb hg_ hnew_; clear hg_ hnew_; (first | rw [← Ny113.out] at ho25 | (simp only [Int.reduceToNat] at ho25; rw [← Ny113.out] at ho25)); have HO115 := zA (Kd.R_lower (Kd.R_new' (Kd.R_new' ho25 (Kd.R_lt (zq2 HO_11))) (Kd.R_lt (zq2 HO_12))) (zag zq1)); replace HO_11 := zA (Kd.R_elder' (zq2 HO_11) (Kd.R_base ho25) hb); replace HO_12 := zA (Kd.R_elder' (zq2 HO_12) (Kd.R_base ho25) hb); replace HB := zA (zab zq1 hb); clear hb ho25))
 repeat (go_quiet (((with_reducible refine zee (N := 54) rfl ?_); refine Kd.R_lit (Kd.int .i64) _ 3 ?hg (N := 54) ?hd (xs := ([t102, t103, rd l2 x38_2] : List Int)) (inner := [.int .i64 t102, .int .i64 t103, .int .i64 (rd l2 x38_2)]) (ok := fun _ => True) (okp := fun _ => True) ?hr ?hp (fun _ hk => hk) trivial (Below.refl _ _) (zlr _) (by simp) ?_; (case hd => rfl); (case hg => rfl); (case hr => go_simp <;> rfl); (case hp => exact (zan (show Kd.M (Kd.int .i64) _ _ _ t102 [.int .i64 t102] from rfl) (zan (show Kd.M (Kd.int .i64) _ _ _ t103 [.int .i64 t103] from rfl) (zan (show Kd.M (Kd.int .i64) _ _ _ (rd l2 x38_2) [.int .i64 (rd l2 x38_2)] from rfl) (Reps.none _ _))))); intro v114 w24 ho25 hb hg_ hnew_; clear hg_ hnew_; (first | rw [← Ny113.out] at ho25 | (simp only [Int.reduceToNat] at ho25; rw [← Ny113.out] at ho25)); have n0_ := zA (Kd.R_elder' (zq2 HO_11) (Kd.R_base ho25) hb); have n1_ := zA (Kd.R_elder' (zq2 HO_12) (Kd.R_base ho25) hb); have n2_ := zA (Kd.R_lower (Kd.R_new' (Kd.R_new' ho25 (Kd.R_lt (zq2 HO_11))) (Kd.R_lt (zq2 HO_12))) (zag zq1)); have n3_ := zA (zab zq1 hb); clear HO_11 HO_12 HB; have HO_11 := n0_; have HO_12 := n1_; have HO115 := n2_; have HB := n3_; clear n0_ n1_ n2_ n3_; clear hb ho25))); try go_wp2_with (((with_reducible refine zee (N := 54) rfl ?_); refine Kd.R_lit (Kd.int .i64) _ 3 ?hg (N := 54) ?hd (xs := ([t102, t103, rd l2 x38_2] : List Int)) (inner := [.int .i64 t102, .int .i64 t103, .int .i64 (rd l2 x38_2)]) (ok := fun _ => True) (okp := fun _ => True) ?hr ?hp (fun _ hk => hk) trivial (Below.refl _ _) (zlr _) (by simp) ?_; (case hd => rfl); (case hg => rfl); (case hr => go_simp <;> rfl); (case hp => exact (zan (show Kd.M (Kd.int .i64) _ _ _ t102 [.int .i64 t102] from rfl) (zan (show Kd.M (Kd.int .i64) _ _ _ t103 [.int .i64 t103] from rfl) (zan (show Kd.M (Kd.int .i64) _ _ _ (rd l2 x38_2) [.int .i64 (rd l2 x38_2)] from rfl) (Reps.none _ _))))); intro v114 w24 ho25 hb hg_ hnew_; clear hg_ hnew_; (first | rw [← Ny113.out] at ho25 | (simp only [Int.reduceToNat] at ho25; rw [← Ny113.out] at ho25)); have n0_ := zA (Kd.R_elder' (zq2 HO_11) (Kd.R_base ho25) hb); have n1_ := zA (Kd.R_elder' (zq2 HO_12) (Kd.R_base ho25) hb); have n2_ := zA (Kd.R_lower (Kd.R_new' (Kd.R_new' ho25 (Kd.R_lt (zq2 HO_11))) (Kd.R_lt (zq2 HO_12))) (zag zq1)); have n3_ := zA (zab zq1 hb); clear HO_11 HO_12 HB; have HO_11 := n0_; have HO_12 := n1_; have HO115 := n2_; have HB := n3_; clear n0_ n1_ n2_ n3_; clear hb ho25))
 go_ret2
 exact ⟨_, zq4, zq24 HO115, zq1⟩
def zc9 (k : Nat) (l0 : List (S69)) (l1 : List (S69)) (l2 : List Int) : Option (Bool × Bool) := (zcx k l0 l1 l2).bind fun t101 => (if t101 = true then ((zdd k l0 l1 l2).bind fun bt102 => (some (!bt102.2, true))) else (some (false, false)))
theorem zmj : ∀ a0 a1 a2 k, LeO (zc9 k a0 a1 a2) (zc9 (k + 1) a0 a1 a2) := by
 intro a0 a1 a2 k
 unfold zc9
 exact zm2 zm9 zd7
theorem zik (k : Nat) (A0 : Option Addr) (c0 : Nat) (l0 : List (S69)) (A1 : Option Addr) (c1 : Nat) (l1 : List (S69)) (A2 : Option Addr) (c2 : Nat) (l2 : List Int) (r1 : Bool) (r2 : Bool) (w : World) (hr0 : Kd.C k69 w A0 l0.length l0) (hc0 : l0.length ≤ c0) (hr1 : Kd.C k69 w A1 l1.length l1) (hc1 : l1.length ≤ c1) (hr2 : Kd.C (Kd.int .i64) w A2 l2.length l2) (hc2 : l2.length ≤ c2) (h : zc9 k l0 l1 l2 = some (r1, r2)) :
   Calls Tryz.prog 76 #[.slice A0 l0.length c0, .slice A1 l1.length c1, .slice A2 l2.length c2] w fun e w' => e = .returned (.tuple #[.bool r1, .bool r2]) ∧ Below w.heap.size w w' := by
 have HR0 := zA hr0
 have HC0 := zA hc0
 clear hr0 hc0
 have HR1 := zA hr1
 have HC1 := zA hc1
 clear hr1 hc1
 have HR2 := zA hr2
 have HC2 := zA hc2
 clear hr2 hc2
 have HB := zA (Below.refl w.heap.size w)
 have H := h
 unfold zc9 at H
 clear h
 replace H := zob H
 obtain ⟨t101, A40, H⟩ := H
 have A4 := zA A40
 clear A40
 by_cases c5 : t101 = true
 rotate_left
 · replace c5 := zbf c5
   subst c5
   replace H := zif H
   simp only [Option.some.injEq, Prod.mk.injEq] at H
   obtain ⟨rfl, rfl⟩ := H
   go_enter Tryz.func76, Tryz.ntmps76
   go_wp2_with (first | ((with_reducible refine zgc 74 ?_); refine zca 13 Tryz.func74 #[.slice A0 l0.length c0, .slice A1 l1.length c1, .slice A2 l2.length c2] (zbg k _ _ l0 _ _ l1 _ _ l2 false _ (zq10 HR0) HC0.out (zq10 HR1) HC1.out (zq10 HR2) HC2.out A4.out) ?_; rintro e w9 ⟨rfl, hb⟩; refine ⟨_, rfl, ?_⟩; replace HB := zA (zab zq1 hb); (try clear hb)))
   go_ret2
   exact ⟨zq4, zq1⟩
 subst c5
 replace H := zih H
 replace H := zob H
 obtain ⟨⟨t102, t103⟩, A60, H⟩ := H
 have A6 := zA A60
 clear A60
 simp only [Option.some.injEq, Prod.mk.injEq] at H
 obtain ⟨rfl, rfl⟩ := H
 go_enter Tryz.func76, Tryz.ntmps76
 go_wp2_with (first | ((with_reducible refine zgc 74 ?_); refine zca 13 Tryz.func74 #[.slice A0 l0.length c0, .slice A1 l1.length c1, .slice A2 l2.length c2] (zbg k _ _ l0 _ _ l1 _ _ l2 true _ (zq10 HR0) HC0.out (zq10 HR1) HC1.out (zq10 HR2) HC2.out A4.out) ?_; rintro e w7 ⟨rfl, hb⟩; refine ⟨_, rfl, ?_⟩; replace HB := zA (zab zq1 hb); (try clear hb)) | ((with_reducible refine zgc 110 ?_); refine zca 19 Tryz.func110 #[.slice A0 l0.length c0, .slice A1 l1.length c1, .slice A2 l2.length c2] (zmi k _ _ l0 _ _ l1 _ _ l2 t102 t103 _ (zq7 HR0) HC0.out (zq7 HR1) HC1.out (zq7 HR2) HC2.out A6.out) ?_; rintro e w8 ⟨v104, rfl, ho0, hb⟩; refine ⟨_, rfl, ?_⟩; have HO105 := zA (Kd.R_lower ho0 (zag zq1)); replace HB := zA (zab zq1 hb); (try clear hb); (try clear ho0)))
 go_ret2
 exact ⟨zq4, zq1⟩
def zep (k : Nat) (l0 : List (S69)) (l1 : List (S69)) (l2 : List Int) : Option (ByteArray × Bool) := (zcx k l0 l1 l2).bind fun t101 => (if t101 = true then ((zfa k l0 l1 l2).bind fun bt102 => (if bt102.1 = true then (some ((⟨#[97, 108, 105, 107, 101]⟩ : ByteArray), true)) else ((zc9 k l0 l1 l2).bind fun bt104 => (if bt104.1 = true then (some ((⟨#[115, 97, 109, 101]⟩ : ByteArray), true)) else (some ((⟨#[111, 116, 104, 101, 114]⟩ : ByteArray), true)))))) else (some ((⟨#[]⟩ : ByteArray), false)))
theorem zkk : ∀ a0 a1 a2 k, LeO (zep k a0 a1 a2) (zep (k + 1) a0 a1 a2) := by
 intro a0 a1 a2 k
 unfold zep
 exact zm3 zpb zmj zd7
theorem zn4 (k : Nat) (A0 : Option Addr) (c0 : Nat) (l0 : List (S69)) (A1 : Option Addr) (c1 : Nat) (l1 : List (S69)) (A2 : Option Addr) (c2 : Nat) (l2 : List Int) (r1 : ByteArray) (r2 : Bool) (w : World) (hr0 : Kd.C k69 w A0 l0.length l0) (hc0 : l0.length ≤ c0) (hr1 : Kd.C k69 w A1 l1.length l1) (hc1 : l1.length ≤ c1) (hr2 : Kd.C (Kd.int .i64) w A2 l2.length l2) (hc2 : l2.length ≤ c2) (h : zep k l0 l1 l2 = some (r1, r2)) :
   Calls Tryz.prog 34 #[.slice A0 l0.length c0, .slice A1 l1.length c1, .slice A2 l2.length c2] w fun e w' => e = .returned (.tuple #[.string r1, .bool r2]) ∧ Below w.heap.size w w' := by
 have HR0 := zA hr0
 have HC0 := zA hc0
 clear hr0 hc0
 have HR1 := zA hr1
 have HC1 := zA hc1
 clear hr1 hc1
 have HR2 := zA hr2
 have HC2 := zA hc2
 clear hr2 hc2
 have HB := zA (Below.refl w.heap.size w)
 have H := h
 unfold zep at H
 clear h
 replace H := zob H
 obtain ⟨t101, A40, H⟩ := H
 have A4 := zA A40
 clear A40
 by_cases c5 : t101 = true
 rotate_left
 · replace c5 := zbf c5
   subst c5
   replace H := zif H
   simp only [Option.some.injEq, Prod.mk.injEq] at H
   obtain ⟨rfl, rfl⟩ := H
   go_enter Tryz.func34, Tryz.ntmps34
   go_wp2_with (first | ((with_reducible refine zgc 74 ?_); refine zca 15 Tryz.func74 #[.slice A0 l0.length c0, .slice A1 l1.length c1, .slice A2 l2.length c2] (zbg k _ _ l0 _ _ l1 _ _ l2 false _ (zq10 HR0) HC0.out (zq10 HR1) HC1.out (zq10 HR2) HC2.out A4.out) ?_; rintro e w18 ⟨rfl, hb⟩; refine ⟨_, rfl, ?_⟩; replace HB := zA (zab zq1 hb); (try clear hb)))
   go_ret2
   exact ⟨zq4, zq1⟩
 subst c5
 replace H := zih H
 replace H := zob H
 obtain ⟨⟨t102, t103⟩, A60, H⟩ := H
 have A6 := zA A60
 clear A60
 by_cases c7 : t102 = true
 · subst c7
   replace H := zih H
   simp only [Option.some.injEq, Prod.mk.injEq] at H
   obtain ⟨rfl, rfl⟩ := H
   go_enter Tryz.func34, Tryz.ntmps34
   go_wp2_with (first | ((with_reducible refine zgc 74 ?_); refine zca 15 Tryz.func74 #[.slice A0 l0.length c0, .slice A1 l1.length c1, .slice A2 l2.length c2] (zbg k _ _ l0 _ _ l1 _ _ l2 true _ (zq10 HR0) HC0.out (zq10 HR1) HC1.out (zq10 HR2) HC2.out A4.out) ?_; rintro e w8 ⟨rfl, hb⟩; refine ⟨_, rfl, ?_⟩; replace HB := zA (zab zq1 hb); (try clear hb)) | ((with_reducible refine zgc 75 ?_); refine zca 21 Tryz.func75 #[.slice A0 l0.length c0, .slice A1 l1.length c1, .slice A2 l2.length c2] (zic k _ _ l0 _ _ l1 _ _ l2 true t103 _ (zq7 HR0) HC0.out (zq7 HR1) HC1.out (zq7 HR2) HC2.out A6.out) ?_; rintro e w9 ⟨rfl, hb⟩; refine ⟨_, rfl, ?_⟩; replace HB := zA (zab zq1 hb); (try clear hb)))
   go_ret2
   exact ⟨zq4, zq1⟩
 replace c7 := zbf c7
 subst c7
 replace H := zif H
 replace H := zob H
 obtain ⟨⟨t104, t105⟩, A100, H⟩ := H
 have A10 := zA A100
 clear A100
 by_cases c11 : t104 = true
 · subst c11
   replace H := zih H
   simp only [Option.some.injEq, Prod.mk.injEq] at H
   obtain ⟨rfl, rfl⟩ := H
   go_enter Tryz.func34, Tryz.ntmps34
   go_wp2_with (first | ((with_reducible refine zgc 74 ?_); refine zca 15 Tryz.func74 #[.slice A0 l0.length c0, .slice A1 l1.length c1, .slice A2 l2.length c2] (zbg k _ _ l0 _ _ l1 _ _ l2 true _ (zq10 HR0) HC0.out (zq10 HR1) HC1.out (zq10 HR2) HC2.out A4.out) ?_; rintro e w12 ⟨rfl, hb⟩; refine ⟨_, rfl, ?_⟩; replace HB := zA (zab zq1 hb); (try clear hb)) | ((with_reducible refine zgc 75 ?_); refine zca 21 Tryz.func75 #[.slice A0 l0.length c0, .slice A1 l1.length c1, .slice A2 l2.length c2] (zic k _ _ l0 _ _ l1 _ _ l2 false t103 _ (zq7 HR0) HC0.out (zq7 HR1) HC1.out (zq7 HR2) HC2.out A6.out) ?_; rintro e w13 ⟨rfl, hb⟩; refine ⟨_, rfl, ?_⟩; replace HB := zA (zab zq1 hb); (try clear hb)) | ((with_reducible refine zgc 76 ?_); refine zca 29 Tryz.func76 #[.slice A0 l0.length c0, .slice A1 l1.length c1, .slice A2 l2.length c2] (zik k _ _ l0 _ _ l1 _ _ l2 true t105 _ (zq7 HR0) HC0.out (zq7 HR1) HC1.out (zq7 HR2) HC2.out A10.out) ?_; rintro e w14 ⟨rfl, hb⟩; refine ⟨_, rfl, ?_⟩; replace HB := zA (zab zq1 hb); (try clear hb)))
   go_ret2
   exact ⟨zq4, zq1⟩
 replace c11 := zbf c11
 subst c11
 replace H := zif H
 simp only [Option.some.injEq, Prod.mk.injEq] at H
 obtain ⟨rfl, rfl⟩ := H
 go_enter Tryz.func34, Tryz.ntmps34
 go_wp2_with (first | ((with_reducible refine zgc 74 ?_); refine zca 15 Tryz.func74 #[.slice A0 l0.length c0, .slice A1 l1.length c1, .slice A2 l2.length c2] (zbg k _ _ l0 _ _ l1 _ _ l2 true _ (zq10 HR0) HC0.out (zq10 HR1) HC1.out (zq10 HR2) HC2.out A4.out) ?_; rintro e w15 ⟨rfl, hb⟩; refine ⟨_, rfl, ?_⟩; replace HB := zA (zab zq1 hb); (try clear hb)) | ((with_reducible refine zgc 75 ?_); refine zca 21 Tryz.func75 #[.slice A0 l0.length c0, .slice A1 l1.length c1, .slice A2 l2.length c2] (zic k _ _ l0 _ _ l1 _ _ l2 false t103 _ (zq7 HR0) HC0.out (zq7 HR1) HC1.out (zq7 HR2) HC2.out A6.out) ?_; rintro e w16 ⟨rfl, hb⟩; refine ⟨_, rfl, ?_⟩; replace HB := zA (zab zq1 hb); (try clear hb)) | ((with_reducible refine zgc 76 ?_); refine zca 29 Tryz.func76 #[.slice A0 l0.length c0, .slice A1 l1.length c1, .slice A2 l2.length c2] (zik k _ _ l0 _ _ l1 _ _ l2 false t105 _ (zq7 HR0) HC0.out (zq7 HR1) HC1.out (zq7 HR2) HC2.out A10.out) ?_; rintro e w17 ⟨rfl, hb⟩; refine ⟨_, rfl, ?_⟩; replace HB := zA (zab zq1 hb); (try clear hb)))
 go_ret2
 exact ⟨zq4, zq1⟩
def zjd (a0_0 : ByteArray) (a0_1 : Int) (a0_2 : Int) (a0_3 : Int) (a0_4 : Int) (a1_0 : ByteArray) (a1_1 : Int) (a1_2 : Int) (a1_3 : Int) (a1_4 : Int) : Option (Bool) := if a0_0.toList = a1_0.toList then (if a0_1 = a1_1 then (if a0_2 = a1_2 then (if a0_3 = a1_3 then (if a0_4 = a1_4 then (some true) else (some false)) else (some false)) else (some false)) else (some false)) else (some false)
theorem zpc (a0_0 : ByteArray) (a0_1 : Int) (a0_2 : Int) (a0_3 : Int) (a0_4 : Int) (a1_0 : ByteArray) (a1_1 : Int) (a1_2 : Int) (a1_3 : Int) (a1_4 : Int) (r : Bool) (w : World) (h : zjd a0_0 a0_1 a0_2 a0_3 a0_4 a1_0 a1_1 a1_2 a1_3 a1_4 = some r) :
   Calls Tryz.prog 45 #[.agg #[.string a0_0, .int .i64 a0_1, .int .i64 a0_2, .int .i64 a0_3, .int .i64 a0_4], .agg #[.string a1_0, .int .i64 a1_1, .int .i64 a1_2, .int .i64 a1_3, .int .i64 a1_4]] w fun e w' => e = .returned (.bool r) ∧ Below w.heap.size w w' := by
 have hu57 := Tryz.underlying57
 have key : r = (!(a0_0.toList != a1_0.toList) && !(a0_1 != a1_1) && !(a0_2 != a1_2) && !(a0_3 != a1_3) && !(a0_4 != a1_4)) := by
   unfold zjd at h
   (repeat' split at h) <;> simp_all
 have HK := zA key
 clear h key
 go_enter Tryz.func45, Tryz.ntmps45
 go_wp2
 all_goals
   go_ret
   exact ⟨by rw [HK.out]; simp_all, zba (zba (Below.refl _ _) _) _⟩
def zcm : Nat → List (S69) → List (S69) → Int → Option (Bool)
 | 0, _, _, _ => none
 | k + 1, x0, x1, x5 => if x5 < (x0.length : Int) then (if 0 ≤ x5 then (if x5 < (x1.length : Int) then ((zjd ((zaa x0 x5).f0) ((zaa x0 x5).f1) ((zaa x0 x5).f2) ((zaa x0 x5).f3) ((zaa x0 x5).f4) ((zaa x1 x5).f0) ((zaa x1 x5).f1) ((zaa x1 x5).f2) ((zaa x1 x5).f3) ((zaa x1 x5).f4)).bind fun t103 => (if t103 = true then (zcm k x0 x1 (wrap64 (x5 + 1))) else (none))) else (none)) else (none)) else (some true)
def zel (k : Nat) (l0 : List (S69)) (l1 : List (S69)) : Option (Bool) := if (l0.length : Int) = (l1.length : Int) then (zcm k l0 l1 0) else (none)
theorem zj4 : ∀ k, (∀ y0 y1 y2, LeO (zcm k y0 y1 y2) (zcm (k + 1) y0 y1 y2))
 | 0 => fun _ _ _ r h => by simp [zcm] at h
 | k + 1 => by
   have ih0 := zj4 k
   · intro y0 y1 y2
     unfold zcm
     exact zm1 ih0
theorem zk6 : ∀ a0 a1 k, LeO (zel k a0 a1) (zel (k + 1) a0 a1) := by
 intro a0 a1 k
 have ih0 := zj4 k
 unfold zel
 exact zm1 ih0
def laws_eqInstrS.T6 : Bool × List (List Nat × List Nat) := (true, [([], []), ([], []), ([0, 1], [0, 1]), ([2], [2]), ([], []), ([], []), ([4, 5], [4, 5]), ([6], [6]), ([3, 7], [3, 7]), ([8], [8])])
def zrg : List Nat := [0, 0, 3, 7, 0, 0, 48, 112, 255, 511]
theorem zpd : rtab .any (zwe Tryz.f14 6) = laws_eqInstrS.T6 := by kernel_rfl
theorem zor : zjx laws_eqInstrS.T6.2 zrg = true := by kernel_rfl
theorem zkl (k : Nat) (A0 : Option Addr) (c0 : Nat) (l0 : List (S69)) (A1 : Option Addr) (c1 : Nat) (l1 : List (S69)) (r : Bool) (w : World) (hr0 : Kd.C k69 w A0 l0.length l0) (hc0 : l0.length ≤ c0) (hr1 : Kd.C k69 w A1 l1.length l1) (hc1 : l1.length ≤ c1) (h : zel k l0 l1 = some r) :
   Calls Tryz.prog 14 #[.slice A0 l0.length c0, .slice A1 l1.length c1] w fun e w' => e = .returned (.bool r) ∧ Below w.heap.size w w' := by
 have hu69 := Tryz.underlying69
 have HR0 := zA hr0
 have HC0 := zA hc0
 clear hr0 hc0
 have HR1 := zA hr1
 have HC1 := zA hc1
 clear hr1 hc1
 have HB := zA (Below.refl w.heap.size w)
 have H := h
 unfold zel at H
 clear h
 by_cases c3 : (l0.length : Int) = (l1.length : Int)
 rotate_left
 · rw [if_neg c3] at H
   cases H
 rw [if_pos c3] at H
 obtain ⟨c3b0, c3b1⟩ := zbe c3
 have c3b2 : (l0.length == l1.length) = true := by first | simpa using c3 | (simp at c3 ⊢; omega)
 clear c3
 have H' := zA H
 clear H
 go_enter Tryz.func14, Tryz.ntmps14
 go_wp2
 go_loopg [5] k (fun kq v5 w' => ∃ (x5_1 : Int), v5 = .int .i64 x5_1 ∧ Aside0 (zcm kq l0 l1 x5_1 = some r) ∧ Aside0 (kq ≤ k) ∧ Aside0 (Below w.heap.size w w'))
 case atStart => exact ⟨(0), zq5, H', ⟨zlr _⟩, ⟨zq1⟩⟩
 clear H'
 obtain ⟨x5_1, rfl, HA, HK1, HB⟩ := hrel
 cases gk with
 | zero => exact absurd HA.out (by simp [zcm])
 | succ k1 =>
 have H := HA.out
 clear HA
 simp only [zcm] at H
 revert H
 refine zit (fun c4 H => ?_) fun c4 H => ?_
 rotate_left
 · obtain rfl := zsi H
   go_wp2
   exact zr_3
 revert H
 refine zin fun c5 H => ?_
 revert H
 refine zin fun c6 H => ?_
 replace H := zob H
 obtain ⟨t103, A70, H⟩ := H
 have A7 := zA A70
 clear A70
 by_cases c8 : t103 = true
 rotate_left
 · replace c8 := zbf c8
   subst c8
   have H1 : (none : Option Bool) = some r := by rw [if_neg (show ¬ (false = true) by decide)] at H; exact H
   cases H1
 subst c8
 replace H := zih H
 have H' := zA H
 clear H
 try go_wp2
 replace HB := zA (zbd HB.out)
 obtain ⟨p101, q101⟩ := zpq x5_1 l0.length
 obtain ⟨ad101, e101, hx101_0, hx101_1, hx101_2, hx101_3, hx101_4⟩ := zmn HR0.out x5_1 (zoe p101) (zoe q101)
 have hw101_4 := hx101_4
 have hw101_3 := hx101_3
 have hw101_2 := hx101_2
 have hw101_1 := hx101_1
 have hw101_0 := hx101_0
 cases e101
 replace hx101_0 := zkep HB.out hx101_0
 replace hx101_1 := zkep HB.out hx101_1
 replace hx101_2 := zkep HB.out hx101_2
 replace hx101_3 := zkep HB.out hx101_3
 replace hx101_4 := zkep HB.out hx101_4
 obtain ⟨p102, q102⟩ := zpq x5_1 l1.length
 obtain ⟨ad102, e102, hx102_0, hx102_1, hx102_2, hx102_3, hx102_4⟩ := zmn HR1.out x5_1 (zoe p102) (zoe q102)
 have hw102_4 := hx102_4
 have hw102_3 := hx102_3
 have hw102_2 := hx102_2
 have hw102_1 := hx102_1
 have hw102_0 := hx102_0
 cases e102
 replace hx102_0 := zkep HB.out hx102_0
 replace hx102_1 := zkep HB.out hx102_1
 replace hx102_2 := zkep HB.out hx102_2
 replace hx102_3 := zkep HB.out hx102_3
 replace hx102_4 := zkep HB.out hx102_4
 refine zra (n := 10) (S := fun w' => w'.cell? (ad101.add ((x5_1).toNat * 5)) = some (.string ((zaa l0 x5_1).f0)) ∧ w'.cell? ⟨(ad101.add ((x5_1).toNat * 5)).block, (ad101.add ((x5_1).toNat * 5)).off + 1, none⟩ = some (.int .i64 ((zaa l0 x5_1).f1)) ∧ w'.cell? ⟨(ad101.add ((x5_1).toNat * 5)).block, (ad101.add ((x5_1).toNat * 5)).off + 2, none⟩ = some (.int .i64 ((zaa l0 x5_1).f2)) ∧ w'.cell? ⟨(ad101.add ((x5_1).toNat * 5)).block, (ad101.add ((x5_1).toNat * 5)).off + 3, none⟩ = some (.int .i64 ((zaa l0 x5_1).f3)) ∧ w'.cell? ⟨(ad101.add ((x5_1).toNat * 5)).block, (ad101.add ((x5_1).toNat * 5)).off + 4, none⟩ = some (.int .i64 ((zaa l0 x5_1).f4)) ∧ w'.cell? (ad102.add ((x5_1).toNat * 5)) = some (.string ((zaa l1 x5_1).f0)) ∧ w'.cell? ⟨(ad102.add ((x5_1).toNat * 5)).block, (ad102.add ((x5_1).toNat * 5)).off + 1, none⟩ = some (.int .i64 ((zaa l1 x5_1).f1)) ∧ w'.cell? ⟨(ad102.add ((x5_1).toNat * 5)).block, (ad102.add ((x5_1).toNat * 5)).off + 2, none⟩ = some (.int .i64 ((zaa l1 x5_1).f2)) ∧ w'.cell? ⟨(ad102.add ((x5_1).toNat * 5)).block, (ad102.add ((x5_1).toNat * 5)).off + 3, none⟩ = some (.int .i64 ((zaa l1 x5_1).f3)) ∧ w'.cell? ⟨(ad102.add ((x5_1).toNat * 5)).block, (ad102.add ((x5_1).toNat * 5)).off + 4, none⟩ = some (.int .i64 ((zaa l1 x5_1).f4))) (ds := []) #[false, false, false, false, false, false, false, false, false, false] zq28 rfl rfl ⟨(zkep HB.out hw101_0), (zkep HB.out hw101_1), (zkep HB.out hw101_2), (zkep HB.out hw101_3), (zkep HB.out hw101_4), (zkep HB.out hw102_0), (zkep HB.out hw102_1), (zkep HB.out hw102_2), (zkep HB.out hw102_3), (zkep HB.out hw102_4)⟩ (fun hHeld => ?_); refine zk0 zpd zor (fun HT_ HW_ => ?_)
 generalize wr.drew = w9 at HB hx101_0 hx101_1 hx101_2 hx101_3 hx101_4 hx102_0 hx102_1 hx102_2 hx102_3 hx102_4 hHeld ⊢
 refine zpu 0 17 HT_ ?_
 refine zpu 1 18 HT_ ?_
 refine zpu 2 19 HT_ ?_
 refine zpu 4 21 HT_ ?_
 refine zpu 5 22 HT_ ?_
 refine zpu 6 23 HT_ ?_
 refine ztu 3 20 HT_ HW_ hHeld ?_
 refine ztu 7 24 HT_ HW_ hHeld ?_
 refine one_ (i := 8) (N := some 25) #[true, true, true, true, true, true, true, true, true, false] rfl rfl (zoj HT_.out zq28) (by decide) (fun K hK => ?_)
 refine zgo Tryz.func45 (zpc ((zaa l0 x5_1).f0) ((zaa l0 x5_1).f1) ((zaa l0 x5_1).f2) ((zaa l0 x5_1).f3) ((zaa l0 x5_1).f4) ((zaa l1 x5_1).f0) ((zaa l1 x5_1).f1) ((zaa l1 x5_1).f2) ((zaa l1 x5_1).f3) ((zaa l1 x5_1).f4) true _ A7.out) ?_
 rintro e w10 ⟨rfl, hb⟩
 refine ⟨_, rfl, ?_⟩
 replace HB := zA (zab zq1 hb)
 (try clear hb)
 (try clear hb2)
 (try clear hk)
 (try clear hi)
 refine hK.out _ _ ⟨(zkep HB.out hw101_0), (zkep HB.out hw101_1), (zkep HB.out hw101_2), (zkep HB.out hw101_3), (zkep HB.out hw101_4), (zkep HB.out hw102_0), (zkep HB.out hw102_1), (zkep HB.out hw102_2), (zkep HB.out hw102_3), (zkep HB.out hw102_4)⟩ (fun hHeld => ?_)
 clear hK K
 refine znm 25 ?_
 refine zpu 9 26 HT_ ?_
 refine zvd (zo1 HT_.out zq28) ?_
 try go_wp2
 go_roundg k1
 case measure => have := HK1.out; omega
 case rel => exact ⟨(wrap64 (x5_1 + 1)), zq5, H', ⟨zq41 HK1⟩, ⟨zq1⟩⟩
def zdj : Nat → List Int → List Int → Int → Option (Bool)
 | 0, _, _, _ => none
 | k + 1, x0, x1, x5 => if x5 < (x0.length : Int) then (if 0 ≤ x5 then (if x5 < (x1.length : Int) then (if (rd x0 x5) = (rd x1 x5) then (zdj k x0 x1 (wrap64 (x5 + 1))) else (none)) else (none)) else (none)) else (some true)
def zgk (k : Nat) (l0 : List Int) (l1 : List Int) : Option (Bool) := if (l0.length : Int) = (l1.length : Int) then (zdj k l0 l1 0) else (none)
theorem zk7 : ∀ k, (∀ y0 y1 y2, LeO (zdj k y0 y1 y2) (zdj (k + 1) y0 y1 y2))
 | 0 => fun _ _ _ r h => by simp [zdj] at h
 | k + 1 => by
   have ih0 := zk7 k
   · intro y0 y1 y2
     unfold zdj
     exact zm1 ih0
theorem zmq : ∀ a0 a1 k, LeO (zgk k a0 a1) (zgk (k + 1) a0 a1) := by
 intro a0 a1 k
 have ih0 := zk7 k
 unfold zgk
 exact zm1 ih0
theorem zqj (k : Nat) (A0 : Option Addr) (c0 : Nat) (l0 : List Int) (A1 : Option Addr) (c1 : Nat) (l1 : List Int) (r : Bool) (w : World) (hr0 : Kd.C (Kd.int .i64) w A0 l0.length l0) (hc0 : l0.length ≤ c0) (hr1 : Kd.C (Kd.int .i64) w A1 l1.length l1) (hc1 : l1.length ≤ c1) (h : zgk k l0 l1 = some r) :
   Calls Tryz.prog 35 #[.slice A0 l0.length c0, .slice A1 l1.length c1] w fun e w' => e = .returned (.bool r) ∧ Drawn0 w w' := by
 have HR0 := zA hr0
 have HC0 := zA hc0
 clear hr0 hc0
 have HR1 := zA hr1
 have HC1 := zA hc1
 clear hr1 hc1
 have H := h
 unfold zgk at H
 clear h
 by_cases c3 : (l0.length : Int) = (l1.length : Int)
 rotate_left
 · rw [if_neg c3] at H
   cases H
 rw [if_pos c3] at H
 obtain ⟨c3b0, c3b1⟩ := zbe c3
 have c3b2 : (l0.length == l1.length) = true := by first | simpa using c3 | (simp at c3 ⊢; omega)
 clear c3
 have H' := zA H
 clear H
 go_enter Tryz.func35, Tryz.ntmps35
 go_wp2
 repeat (go_quiet (fail); try go_wp2)
 go_loopg [5] k (fun kq v5 w' => ∃ (x5_1 : Int), v5 = .int .i64 x5_1 ∧ Aside0 (zdj kq l0 l1 x5_1 = some r) ∧ Aside0 (kq ≤ k) ∧ Drawn0 w w')
 case atStart => exact ⟨(0), zq5, H', ⟨zlr _⟩, zq6⟩
 clear H'
 obtain ⟨x5_1, rfl, HA, HK1, ⟨m1, rfl⟩⟩ := hrel
 cases gk with
 | zero => exact absurd HA.out (by simp [zdj])
 | succ k1 =>
 have H := HA.out
 clear HA
 simp only [zdj] at H
 revert H
 refine zit (fun c4 H => ?_) fun c4 H => ?_
 rotate_left
 · obtain rfl := zsi H
   go_wp2
   repeat (go_quiet (fail); try go_wp2)
   exact zr_1
 revert H
 refine zin fun c5 H => ?_
 revert H
 refine zin fun c6 H => ?_
 by_cases c7 : (rd l0 x5_1) = (rd l1 x5_1)
 rotate_left
 · rw [if_neg c7] at H
   cases H
 rw [if_pos c7] at H
 obtain ⟨c7b0, c7b1⟩ := zbe c7
 clear c7
 have H' := zA H
 clear H
 obtain ⟨p101, q101⟩ := zpq x5_1 l0.length
 obtain ⟨ad101, e101, hx101_0⟩ := Kd.at_int HR0.out x5_1 (zoe p101) (zoe q101)
 cases e101
 obtain ⟨p102, q102⟩ := zpq x5_1 l1.length
 obtain ⟨ad102, e102, hx102_0⟩ := Kd.at_int HR1.out x5_1 (zoe p102) (zoe q102)
 cases e102
 go_wp2
 repeat (go_quiet (fail); try go_wp2)
 go_roundg k1
 case measure => have := HK1.out; omega
 case rel => exact ⟨(wrap64 (x5_1 + 1)), zq5, H', ⟨zq41 HK1⟩, zq6⟩
def zh7 (a0_0 : ByteArray) (a0_1 : Int) (a0_2 : Int) (a0_3 : Int) (a0_4 : Int) (a1 : Int) : Option (Int) := if (wrap64 (a1 - (a0_0.size : Int))) < 0 then (some (-1)) else (some (wrap64 (a1 - (a0_0.size : Int))))
theorem zk8 (a0_0 : ByteArray) (a0_1 : Int) (a0_2 : Int) (a0_3 : Int) (a0_4 : Int) (a1 : Int) (r : Int) (w : World) (h : zh7 a0_0 a0_1 a0_2 a0_3 a0_4 a1 = some r) :
   Calls Tryz.prog 68 #[.agg #[.string a0_0, .int .i64 a0_1, .int .i64 a0_2, .int .i64 a0_3, .int .i64 a0_4], .int .i64 a1] w fun e w' => e = .returned (.int .i64 r) ∧ Below w.heap.size w w' := by
 have hu88 := Tryz.underlying88
 have HB := zA (Below.refl w.heap.size w)
 have H := h
 unfold zh7 at H
 clear h
 revert H
 refine zit (fun c3b0 H => ?_) fun c3b0 H => ?_
 · obtain rfl := zsi H
   go_enter Tryz.func68, Tryz.ntmps68
   go_wp2_with (first | ((with_reducible refine zgd 2 ?_); refine zbh zq1 #[.string a0_0, .int .i64 a0_1, .int .i64 a0_2, .int .i64 a0_3, .int .i64 a0_4] 88 ?_; clear HB; intro gb101 w4 HB BK101 GW101; have GE101 := GW101; obtain ⟨hcz5_0, hcz5_1, hcz5_2, hcz5_3, hcz5_4, hfz5_0, hfz5_1, hfz5_2, hfz5_3, hfz5_4⟩ := zd5 BK101))
   go_ret
   exact ⟨zq4, zq3 GE101⟩
 · obtain rfl := zsi H
   go_enter Tryz.func68, Tryz.ntmps68
   go_wp2_with (first | ((with_reducible refine zgd 2 ?_); refine zbh zq1 #[.string a0_0, .int .i64 a0_1, .int .i64 a0_2, .int .i64 a0_3, .int .i64 a0_4] 88 ?_; clear HB; intro gb101 w6 HB BK101 GW101; have GE101 := GW101; obtain ⟨hcz7_0, hcz7_1, hcz7_2, hcz7_3, hcz7_4, hfz7_0, hfz7_1, hfz7_2, hfz7_3, hfz7_4⟩ := zd5 BK101))
   go_ret
   exact ⟨zq4, zq3 GE101⟩
def zbz : Nat → List (S88) → Int → Int → Option (Int)
 | 0, _, _, _ => none
 | k + 1, x0, x1, x5 => if x5 < (x0.length : Int) then (if 0 ≤ x5 then ((zh7 ((zfq x0 x5).f0) ((zfq x0 x5).f1) ((zfq x0 x5).f2) ((zfq x0 x5).f3) ((zfq x0 x5).f4) x1).bind fun t102 => (if t102 < 0 then (some (-1)) else (zbz k x0 t102 (wrap64 (x5 + 1))))) else (none)) else (some x1)
def zdv (k : Nat) (l0 : List (S88)) (a1 : Int) : Option (Int) := if (wrap64 (a1 - (l0.length : Int))) < 0 then (some (-1)) else (zbz k l0 (wrap64 (a1 - (l0.length : Int))) 0)
theorem zj5 : ∀ k, (∀ y0 y1 y2, LeO (zbz k y0 y1 y2) (zbz (k + 1) y0 y1 y2))
 | 0 => fun _ _ _ r h => by simp [zbz] at h
 | k + 1 => by
   have ih0 := zj5 k
   · intro y0 y1 y2
     unfold zbz
     exact zm1 ih0
theorem zk9 : ∀ a0 a1 k, LeO (zdv k a0 a1) (zdv (k + 1) a0 a1) := by
 intro a0 a1 k
 have ih0 := zj5 k
 unfold zdv
 exact zm1 ih0
theorem zf0 (k : Nat) (A0 : Option Addr) (c0 : Nat) (l0 : List (S88)) (a1 : Int) (r : Int) (w : World) (hr0 : Kd.C k88 w A0 l0.length l0) (hc0 : l0.length ≤ c0) (h : zdv k l0 a1 = some r) :
   Calls Tryz.prog 30 #[.slice A0 l0.length c0, .int .i64 a1] w fun e w' => e = .returned (.int .i64 r) ∧ Below w.heap.size w w' := by
 have hu88 := Tryz.underlying88
 have HR0 := zA hr0
 have HC0 := zA hc0
 clear hr0 hc0
 have HB := zA (Below.refl w.heap.size w)
 have H := h
 unfold zdv at H
 clear h
 revert H
 refine zit (fun c3b0 H => ?_) fun c3b0 H => ?_
 · obtain rfl := zsi H
   go_enter Tryz.func30, Tryz.ntmps30
   go_wp2
   exact zr_3
 have H' := zA H
 clear H
 go_enter Tryz.func30, Tryz.ntmps30
 go_wp2
 go_loopg [1, 5] k (fun kq v1 v5 w' => ∃ (x1_1 : Int) (x5_1 : Int), v1 = .int .i64 x1_1 ∧ v5 = .int .i64 x5_1 ∧ Aside0 (zbz kq l0 x1_1 x5_1 = some r) ∧ Aside0 (kq ≤ k) ∧ Aside0 (Below w.heap.size w w'))
 case atStart => exact ⟨(wrap64 (a1 - (l0.length : Int))), (0), zq5, zq5, H', ⟨zlr _⟩, ⟨zq1⟩⟩
 clear H'
 obtain ⟨x1_1, x5_1, rfl, rfl, HA, HK1, HB⟩ := hrel
 cases gk with
 | zero => exact absurd HA.out (by simp [zbz])
 | succ k1 =>
 have H := HA.out
 clear HA
 simp only [zbz] at H
 revert H
 refine zit (fun c4 H => ?_) fun c4 H => ?_
 rotate_left
 · obtain rfl := zsi H
   go_wp2
   exact zr_3
 revert H
 refine zin fun c5 H => ?_
 replace H := zob H
 obtain ⟨t102, A60, H⟩ := H
 have A6 := zA A60
 clear A60
 revert H
 refine zit (fun c7b0 H => ?_) fun c7b0 H => ?_
 · obtain rfl := zsi H
   obtain ⟨p101, q101⟩ := zpq x5_1 l0.length
   obtain ⟨ad101, e101, hx101_0, hx101_1, hx101_2, hx101_3, hx101_4⟩ := zxy HR0.out x5_1 (zoe p101) (zoe q101)
   cases e101
   replace hx101_0 := zkep HB.out hx101_0
   replace hx101_1 := zkep HB.out hx101_1
   replace hx101_2 := zkep HB.out hx101_2
   replace hx101_3 := zkep HB.out hx101_3
   replace hx101_4 := zkep HB.out hx101_4
   go_wp2_with (first | ((with_reducible refine zgc 68 ?_); refine zcl 23 Tryz.func68 (zk8 ((zfq l0 x5_1).f0) ((zfq l0 x5_1).f1) ((zfq l0 x5_1).f2) ((zfq l0 x5_1).f3) ((zfq l0 x5_1).f4) x1_1 t102 _ A6.out) ?_; rintro e w8 ⟨rfl, hb⟩; refine ⟨_, rfl, ?_⟩; replace HB := zA (zab zq1 hb); (try clear hb)))
   exact zr_3
 have H' := zA H
 clear H
 obtain ⟨p101, q101⟩ := zpq x5_1 l0.length
 obtain ⟨ad101, e101, hx101_0, hx101_1, hx101_2, hx101_3, hx101_4⟩ := zxy HR0.out x5_1 (zoe p101) (zoe q101)
 cases e101
 replace hx101_0 := zkep HB.out hx101_0
 replace hx101_1 := zkep HB.out hx101_1
 replace hx101_2 := zkep HB.out hx101_2
 replace hx101_3 := zkep HB.out hx101_3
 replace hx101_4 := zkep HB.out hx101_4
 go_wp2_with (first | ((with_reducible refine zgc 68 ?_); refine zcl 23 Tryz.func68 (zk8 ((zfq l0 x5_1).f0) ((zfq l0 x5_1).f1) ((zfq l0 x5_1).f2) ((zfq l0 x5_1).f3) ((zfq l0 x5_1).f4) x1_1 t102 _ A6.out) ?_; rintro e w9 ⟨rfl, hb⟩; refine ⟨_, rfl, ?_⟩; replace HB := zA (zab zq1 hb); (try clear hb)))
 go_roundg k1
 case measure => have := HK1.out; omega
 case rel => exact ⟨(t102), (wrap64 (x5_1 + 1)), zq5, zq5, H', ⟨zq41 HK1⟩, ⟨zq1⟩⟩
def zje (a0_0 : ByteArray) (a0_1 : Int) (a0_2 : Int) (a0_3 : Int) (a0_4 : Int) : Option (ByteArray × Int × Int × Int × Int) := some (a0_0, a0_1, a0_2, a0_3, a0_4)
theorem zpe (a0_0 : ByteArray) (a0_1 : Int) (a0_2 : Int) (a0_3 : Int) (a0_4 : Int) (r1 : ByteArray) (r2 : Int) (r3 : Int) (r4 : Int) (r5 : Int) (w : World) (h : zje a0_0 a0_1 a0_2 a0_3 a0_4 = some (r1, r2, r3, r4, r5)) :
   Calls Tryz.prog 73 #[.agg #[.string a0_0, .int .i64 a0_1, .int .i64 a0_2, .int .i64 a0_3, .int .i64 a0_4]] w fun e w' => e = .returned (.agg #[.string r1, .int .i64 r2, .int .i64 r3, .int .i64 r4, .int .i64 r5]) ∧ Below w.heap.size w w' := by
 have hu88 := Tryz.underlying88
 have hu69 := Tryz.underlying69
 have HB := zA (Below.refl w.heap.size w)
 have H := h
 unfold zje at H
 clear h
 simp only [Option.some.injEq, Prod.mk.injEq] at H
 obtain ⟨rfl, rfl, rfl, rfl, rfl⟩ := H
 go_enter Tryz.func73, Tryz.ntmps73
 go_wp2_with (first | ((with_reducible refine zgd 1 ?_); refine zbx #[.string a0_0, .int .i64 a0_1, .int .i64 a0_2, .int .i64 a0_3, .int .i64 a0_4] 88 ?_; intro gb101 hg w2 hbox hb; have zs := zpair zq1 hb; replace HB := zA (zs.1); have BK101 := zA (hbox); have GW101 := zA (zge hg zs.2); have GE101 := GW101; clear zs hb hbox hg) | ((with_reducible refine zgd 2 ?_); refine zbx #[.string (⟨#[]⟩ : ByteArray), .int .i64 0, .int .i64 0, .int .i64 0, .int .i64 0] 69 ?_; intro gb102 hg w3 hbox hb; have zs := zpair (zq3 GE101) hb; replace HB := zA (zs.1); have BK102 := zA (hbox); have GW102 := zA (zge hg zs.2); have GE102 := GW102; have NB101_102 := zA ((zq37 BK101 : gb101 ≠ gb102)); replace BK101 := zbb BK101 hb; have NB102_101 := zA (Ne.symm NB101_102.out); clear zs hb hbox hg) | ((with_reducible refine zgd 3 ?_); refine zbx #[.string (⟨#[]⟩ : ByteArray), .int .i64 0, .int .i64 0, .int .i64 0, .int .i64 0] 69 ?_; intro gb103 hg w4 hbox hb; have zs := zpair (zq11 GE101 GE102) hb; replace HB := zA (zs.1); have BK103 := zA (hbox); have GW103 := zA (zge hg zs.2); have GE103 := GW103; have NB101_103 := zA ((zq37 BK101 : gb101 ≠ gb103)); replace BK101 := zbb BK101 hb; have NB103_101 := zA (Ne.symm NB101_103.out); have NB102_103 := zA ((zq37 BK102 : gb102 ≠ gb103)); replace BK102 := zbb BK102 hb; have NB103_102 := zA (Ne.symm NB102_103.out); clear zs hb hbox hg; have hnb5 := NB101_102.out; have hnc5 := NB102_101.out; have hnb6 := NB101_103.out; have hnc6 := NB103_101.out; obtain ⟨hcz7_0, hcz7_1, hcz7_2, hcz7_3, hcz7_4, hfz7_0, hfz7_1, hfz7_2, hfz7_3, hfz7_4⟩ := zd5 BK101; have hnb8 := NB103_102.out; have hnc8 := NB102_103.out; obtain ⟨hcz9_0, hcz9_1, hcz9_2, hcz9_3, hcz9_4, hfz9_0, hfz9_1, hfz9_2, hfz9_3, hfz9_4⟩ := zd5 BK103; obtain ⟨hcz10_0, hcz10_1, hcz10_2, hcz10_3, hcz10_4, hfz10_0, hfz10_1, hfz10_2, hfz10_3, hfz10_4⟩ := zd5 BK102))
 refine bodyPost_ret (results_cell_row rfl _ _ gb102 69 #[.string a0_0, .int .i64 a0_1, .int .i64 a0_2, .int .i64 a0_3, .int .i64 a0_4] (0, 0) _ rfl (by (with_reducible repeat (first | refine zkn ?_ _ | refine zkd ?_ | refine zka ?_ _)); refine za7 (cs := #[.string a0_0, .int .i64 a0_1, .int .i64 a0_2, .int .i64 a0_3, .int .i64 0]) ?_ 4 _ rfl; (with_reducible repeat (first | refine zkn ?_ _ | refine zkd ?_ | refine zka ?_ _)); refine za7 (cs := #[.string a0_0, .int .i64 a0_1, .int .i64 a0_2, .int .i64 0, .int .i64 0]) ?_ 3 _ rfl; (with_reducible repeat (first | refine zkn ?_ _ | refine zkd ?_ | refine zka ?_ _)); refine za7 (cs := #[.string a0_0, .int .i64 a0_1, .int .i64 0, .int .i64 0, .int .i64 0]) ?_ 2 _ rfl; (with_reducible repeat (first | refine zkn ?_ _ | refine zkd ?_ | refine zka ?_ _)); refine za7 (cs := #[.string a0_0, .int .i64 0, .int .i64 0, .int .i64 0, .int .i64 0]) ?_ 1 _ rfl; (with_reducible repeat (first | refine zkn ?_ _ | refine zkd ?_ | refine zka ?_ _)); refine za7 (cs := #[.string (⟨#[]⟩ : ByteArray), .int .i64 0, .int .i64 0, .int .i64 0, .int .i64 0]) ?_ 0 _ rfl; (with_reducible repeat (first | refine zkn ?_ _ | refine zkd ?_ | refine zka ?_ _)); refine zaz ?_ NB102_103.out _; (with_reducible repeat (first | refine zkn ?_ _ | refine zkd ?_ | refine zka ?_ _)); refine zaz ?_ NB102_103.out _; (with_reducible repeat (first | refine zkn ?_ _ | refine zkd ?_ | refine zka ?_ _)); refine zaz ?_ NB102_103.out _; (with_reducible repeat (first | refine zkn ?_ _ | refine zkd ?_ | refine zka ?_ _)); refine zaz ?_ NB102_103.out _; (with_reducible repeat (first | refine zkn ?_ _ | refine zkd ?_ | refine zka ?_ _)); refine zaz ?_ NB102_103.out _; (with_reducible repeat (first | refine zkn ?_ _ | refine zkd ?_ | refine zka ?_ _)); exact BK102.out) Tryz.underlying69 rfl zq28) rfl ?_
 exact ⟨zq4, by repeat (first | (with_reducible first | exact HB.out | apply zba | apply zbn | apply zbd | refine zaf ?_ GE101.out | refine zaf ?_ GE102.out | refine zaf ?_ GE103.out) | exact HB.out)⟩
def zcn : Nat → List (S88) → List (S69) → Int → Option ((List (S69)))
 | 0, _, _, _ => none
 | k + 1, x0, x3, x4 => if x4 < (x0.length : Int) then (if 0 ≤ x4 then ((zje ((zfq x0 x4).f0) ((zfq x0 x4).f1) ((zfq x0 x4).f2) ((zfq x0 x4).f3) ((zfq x0 x4).f4)).bind fun bt105 => (if x4 < (x3.length : Int) then (zcn k x0 (x3.set (x4 : Int).toNat (⟨bt105.1, bt105.2.1, bt105.2.2.1, bt105.2.2.2.1, bt105.2.2.2.2⟩ : S69)) (wrap64 (x4 + 1))) else (none))) else (none)) else (some x3)
def zcp (k : Nat) (l0 : List (S88)) : Option ((List (S69))) := if 0 ≤ (l0.length : Int) then (if ((l0.length : Int) : Int).toNat ≤ 5864062014805 then (zcn k l0 (List.replicate ((l0.length : Int) : Int).toNat z69) 0) else (none)) else (none)
theorem zj6 : ∀ k, (∀ y0 y1 y2, LeO (zcn k y0 y1 y2) (zcn (k + 1) y0 y1 y2))
 | 0 => fun _ _ _ r h => by simp [zcn] at h
 | k + 1 => by
   have ih0 := zj6 k
   · intro y0 y1 y2
     unfold zcn
     exact zm1 ih0
theorem zla : ∀ a0 k, LeO (zcp k a0) (zcp (k + 1) a0) := by
 intro a0 k
 have ih0 := zj6 k
 unfold zcp
 exact zm1 ih0
theorem zey (k : Nat) (A0 : Option Addr) (c0 : Nat) (l0 : List (S88)) (r : List (S69)) (w : World) (hr0 : Kd.C k88 w A0 l0.length l0) (hc0 : l0.length ≤ c0) (h : zcp k l0 = some r) :
   Calls Tryz.prog 32 #[.slice A0 l0.length c0] w fun e w' => ∃ v0_ : Value, e = .returned (v0_) ∧ Kd.R k69 69 w' w.heap.size (fun _ => True) v0_ r ∧ Below w.heap.size w w' := by
 have hu88 := Tryz.underlying88
 have hu69 := Tryz.underlying69
 have HR0 := zA hr0
 have HC0 := zA hc0
 clear hr0 hc0
 have HB := zA (Below.refl w.heap.size w)
 have H := h
 unfold zcp at H
 clear h
 by_cases c2 : 0 ≤ (l0.length : Int)
 rotate_left
 · rw [if_neg c2] at H
   exact absurd H (by simp)
 rw [if_pos c2] at H
 have c2b0 := eq_true c2
 have c2b1 := zdt c2
 clear c2
 by_cases c3 : ((l0.length : Int) : Int).toNat ≤ 5864062014805
 rotate_left
 · rw [if_neg c3] at H
   exact absurd H (by simp)
 rw [if_pos c3] at H
 have c3b0 := eq_true c3
 have c3b1 := zdt c3
 clear c3
 obtain ⟨y101, hy101⟩ : ∃ y_ : List (S69), y_ = (List.replicate ((l0.length : Int) : Int).toNat z69) := ⟨_, rfl⟩
 rw [← hy101] at H; try with_reducible replace H := zbs H
 have Ny101 := zA hy101
 clear hy101
 have H' := zA H
 clear H
 go_enter Tryz.func32, Tryz.ntmps32
 go_wp2_with (first | ((with_reducible refine zgd 7 ?_); refine Kd.R_make k69 _ 69 rfl (N := 7) rfl 29 _ _ rfl (l0.length : Int) rfl rfl Tryz.underlying29 (.agg #[(.string ⟨#[]⟩), (.int .i64 0), (.int .i64 0), (.int .i64 0), (.int .i64 0)]) 48 ycs rfl (by decide) (by omega) z69 (ok := fun _ => True) (okp := fun _ => True) (zxx _ _ _ z69 ) (fun _ hk => hk) trivial (zde zq21) (Nat.le_trans (Nat.mul_le_mul_right _ (zde zq21 : (l0.length : Int).toNat ≤ 5864062014805)) (by omega)) (Below.refl _ _) (zlr _) ?_; intro v102 w4 ho5 hb hg_ hnew_; clear hg_ hnew_; (first | rw [← Ny101.out] at ho5 | (simp only [Int.reduceToNat] at ho5; rw [← Ny101.out] at ho5)); have HO103 := zA (Kd.R_lower ho5 (zag zq1)); replace HB := zA (zab zq1 hb); clear hb ho5))
 go_loopg [4] k (fun kq v4 w' => ∃ (x3_1 : List (S69)) (x4_1 : Int), v4 = .int .i64 x4_1 ∧ Aside0 (zcn kq l0 x3_1 x4_1 = some r) ∧ Aside0 (kq ≤ k) ∧ Aside0 (Kd.R k69 69 w' w.heap.size (fun _ => True) v102 x3_1) ∧ Aside0 (Below w.heap.size w w'))
 case atStart => exact ⟨(y101), (0), zq5, H', ⟨zlr _⟩, ⟨zq2 HO103⟩, ⟨zq1⟩⟩
 clear H'
 obtain ⟨x3_1, x4_1, rfl, HA, HK1, HO_3, HB⟩ := hrel
 cases gk with
 | zero => exact absurd HA.out (by simp [zcn])
 | succ k1 =>
 have H := HA.out
 clear HA
 simp only [zcn] at H
 revert H
 refine zit (fun c6 H => ?_) fun c6 H => ?_
 rotate_left
 · obtain rfl := zsi H
   go_wp2
   go_ret
   exact ⟨_, zq4, zq2 HO_3, zq1⟩
 revert H
 refine zin fun c7 H => ?_
 replace H := zob H
 obtain ⟨⟨t105, t106, t107, t108, t109⟩, A80, H⟩ := H
 have A8 := zA A80
 clear A80
 revert H
 refine zin fun c9 H => ?_
 obtain ⟨y110, hy110⟩ : ∃ y_ : List (S69), y_ = (x3_1.set (x4_1 : Int).toNat (⟨t105, t106, t107, t108, t109⟩ : S69)) := ⟨_, rfl⟩
 rw [← hy110] at H; try with_reducible replace H := zbs H
 have Ny110 := zA hy110
 clear hy110
 have H' := zA H
 clear H
 obtain ⟨p104, q104⟩ := zpq x4_1 l0.length
 obtain ⟨ad104, e104, hx104_0, hx104_1, hx104_2, hx104_3, hx104_4⟩ := zxy HR0.out x4_1 (zoe p104) (zoe q104)
 cases e104
 replace hx104_0 := zkep HB.out hx104_0
 replace hx104_1 := zkep HB.out hx104_1
 replace hx104_2 := zkep HB.out hx104_2
 replace hx104_3 := zkep HB.out hx104_3
 replace hx104_4 := zkep HB.out hx104_4
 go_wp2_with (first | ((with_reducible refine zgc 73 ?_); refine zcl 20 Tryz.func73 (zpe ((zfq l0 x4_1).f0) ((zfq l0 x4_1).f1) ((zfq l0 x4_1).f2) ((zfq l0 x4_1).f3) ((zfq l0 x4_1).f4) t105 t106 t107 t108 t109 _ A8.out) ?_; rintro e w11 ⟨rfl, hb⟩; refine ⟨_, rfl, ?_⟩; replace HO_3 := zA (zRb (zq2 HO_3) hb); replace HB := zA (zab zq1 hb); (try clear hb); have p10 : 0 ≤ (x4_1 : Int) := zde zq21; have q10 : (x4_1 : Int) < ((x3_1.length : Int) : Int) := zde zq21; obtain ⟨go10, co10, eo10, gb10, gl10, cl10, HG10⟩ := Kd.R_form HO_3.out (by omega); (first | cases eo10 | (injection eo10 with ea_ en_ ec_; (first | subst ea_ | (injection ea_ with ea_; subst ea_)); subst ec_; clear en_)); have GB10 := zA gb10; have GG10 := zA HG10; clear gb10 gl10 HG10; obtain ⟨ce10, hcl10, hM10, hcc10, hfr10⟩ := Kd.R_elem HO_3.out z69 (x4_1 : Int) p10 q10; obtain rfl := zuq hM10; have hx10_0 : w11.cell? ⟨go10, (x4_1 : Int).toNat * 5, none⟩ = some (.string ((zaa x3_1 x4_1).f0)) := hcc10 0 _ rfl; have hx10_1 : w11.cell? ⟨go10, (x4_1 : Int).toNat * 5 + 1, none⟩ = some (.int .i64 ((zaa x3_1 x4_1).f1)) := hcc10 1 _ rfl; have hx10_2 : w11.cell? ⟨go10, (x4_1 : Int).toNat * 5 + 2, none⟩ = some (.int .i64 ((zaa x3_1 x4_1).f2)) := hcc10 2 _ rfl; have hx10_3 : w11.cell? ⟨go10, (x4_1 : Int).toNat * 5 + 3, none⟩ = some (.int .i64 ((zaa x3_1 x4_1).f3)) := hcc10 3 _ rfl; have hx10_4 : w11.cell? ⟨go10, (x4_1 : Int).toNat * 5 + 4, none⟩ = some (.int .i64 ((zaa x3_1 x4_1).f4)) := hcc10 4 _ rfl; have hf10_0 : w11.frozen? ⟨go10, (x4_1 : Int).toNat * 5, none⟩ = false := hfr10 0; have hf10_1 : w11.frozen? ⟨go10, (x4_1 : Int).toNat * 5 + 1, none⟩ = false := hfr10 1; have hf10_2 : w11.frozen? ⟨go10, (x4_1 : Int).toNat * 5 + 2, none⟩ = false := hfr10 2; have hf10_3 : w11.frozen? ⟨go10, (x4_1 : Int).toNat * 5 + 3, none⟩ = false := hfr10 3; have hf10_4 : w11.frozen? ⟨go10, (x4_1 : Int).toNat * 5 + 4, none⟩ = false := hfr10 4; clear hcl10 hcc10 hfr10 hM10; replace p10 := eq_true p10; replace q10 := eq_true q10; have HX12 := zA (show Kd.R k69 69 w11 w.heap.size (fun _ => True) (.slice (some ⟨go10, 0, none⟩) x3_1.length co10) x3_1 from (zq2 HO_3)); obtain ⟨ce12, hcl12, hM12, hcc12, hfr12⟩ := Kd.R_elem HX12.out z69 (x4_1 : Int) (zde zq21) (by have h_ : (x4_1 : Int) < ((x3_1.length : Int) : Int) := zde zq21; first | exact h_ | (have e_ := (zRr HO_3.out).1; omega) | simpa using h_); obtain rfl := zuq hM12; have HP12 := Kd.R_seg HX12.out (x4_1 : Int) (zde zq21) (by have h_ : (x4_1 : Int) < ((x3_1.length : Int) : Int) := zde zq21; first | exact h_ | (have e_ := (zRr HO_3.out).1; omega) | simpa using h_) (seg := [.string t105, .int .i64 t106, .int .i64 t107, .int .i64 t108, .int .i64 t109]) (j := 0) hcl12 hcc12 (show 5 ≤ 5 from by decide) (x' := (⟨t105, t106, t107, t108, t109⟩ : S69)) (zxx _ _ _ (⟨t105, t106, t107, t108, t109⟩ : S69) ) (fun _ hk => hk); have hx12_0 := hcc12 0 _ rfl; (try simp only [show (k69).sz = 5 from rfl, Nat.mul_one, Nat.add_zero] at hx12_0); have hf12_0 := hfr12 0; (try simp only [show (k69).sz = 5 from rfl, Nat.mul_one, Nat.add_zero] at hf12_0); have hx12_1 := hcc12 1 _ rfl; (try simp only [show (k69).sz = 5 from rfl, Nat.mul_one, Nat.add_zero] at hx12_1); have hf12_1 := hfr12 1; (try simp only [show (k69).sz = 5 from rfl, Nat.mul_one, Nat.add_zero] at hf12_1); have hx12_2 := hcc12 2 _ rfl; (try simp only [show (k69).sz = 5 from rfl, Nat.mul_one, Nat.add_zero] at hx12_2); have hf12_2 := hfr12 2; (try simp only [show (k69).sz = 5 from rfl, Nat.mul_one, Nat.add_zero] at hf12_2); have hx12_3 := hcc12 3 _ rfl; (try simp only [show (k69).sz = 5 from rfl, Nat.mul_one, Nat.add_zero] at hx12_3); have hf12_3 := hfr12 3; (try simp only [show (k69).sz = 5 from rfl, Nat.mul_one, Nat.add_zero] at hf12_3); have hx12_4 := hcc12 4 _ rfl; (try simp only [show (k69).sz = 5 from rfl, Nat.mul_one, Nat.add_zero] at hx12_4); have hf12_4 := hfr12 4; (try simp only [show (k69).sz = 5 from rfl, Nat.mul_one, Nat.add_zero] at hf12_4); clear hcl12 hcc12 hfr12 hM12) | ((with_reducible refine zgs 69 21 ?_); refine zse (((((w11.setCell ⟨go10, (x4_1 : Int).toNat * 5, none⟩ (.string t105)).setCell ⟨go10, (x4_1 : Int).toNat * 5 + 1, none⟩ (.int .i64 t106)).setCell ⟨go10, (x4_1 : Int).toNat * 5 + 2, none⟩ (.int .i64 t107)).setCell ⟨go10, (x4_1 : Int).toNat * 5 + 3, none⟩ (.int .i64 t108)).setCell ⟨go10, (x4_1 : Int).toNat * 5 + 4, none⟩ (.int .i64 t109)) ?_; intro w13 hw; have hg : w11.grownBy w13 (some go10) := (by rw [hw]; exact HP12.2); have hp_ : Kd.R k69 69 w13 w.heap.size (fun _ => True) (.slice (some ⟨go10, 0, none⟩) x3_1.length co10) y110 := (by rw [hw, Ny110.out]; exact HP12.1); clear HP12; replace HO_3 := zA (hp_); replace HB := zA ((by rw [hw]; exact zaf (zaf (zaf (zaf (zaf (HB.out) GB10.out) GB10.out) GB10.out) GB10.out) GB10.out : Below w.heap.size w w13)); clear hg hw hp_))
 go_roundg k1
 case measure => have := HK1.out; omega
 case rel => exact ⟨(y110), (wrap64 (x4_1 + 1)), zq5, H', ⟨zq41 HK1⟩, ⟨zq2 HO_3⟩, ⟨zq1⟩⟩
def zdk : Nat → List Int → List Int → Int → Option (List Int)
 | 0, _, _, _ => none
 | k + 1, x0, x3, x4 => if x4 < (x0.length : Int) then (if 0 ≤ x4 then (if x4 < (x3.length : Int) then (zdk k x0 (x3.set (x4 : Int).toNat (rd x0 x4)) (wrap64 (x4 + 1))) else (none)) else (none)) else (some x3)
def ze3 (k : Nat) (l0 : List Int) : Option (List Int) := if 0 ≤ (l0.length : Int) then (if ((l0.length : Int) : Int).toNat ≤ 35184372088832 then (zdk k l0 (List.replicate ((l0.length : Int) : Int).toNat 0) 0) else (none)) else (none)
theorem zlb : ∀ k, (∀ y0 y1 y2, LeO (zdk k y0 y1 y2) (zdk (k + 1) y0 y1 y2))
 | 0 => fun _ _ _ r h => by simp [zdk] at h
 | k + 1 => by
   have ih0 := zlb k
   · intro y0 y1 y2
     unfold zdk
     exact zm1 ih0
theorem zmr : ∀ a0 k, LeO (ze3 k a0) (ze3 (k + 1) a0) := by
 intro a0 k
 have ih0 := zlb k
 unfold ze3
 exact zm1 ih0
theorem zi6 (k : Nat) (A0 : Option Addr) (c0 : Nat) (l0 : List Int) (r : List Int) (w : World) (hr0 : Kd.C (Kd.int .i64) w A0 l0.length l0) (hc0 : l0.length ≤ c0) (h : ze3 k l0 = some r) :
   Calls Tryz.prog 33 #[.slice A0 l0.length c0] w fun e w' => ∃ v0_ : Value, e = .returned (v0_) ∧ Kd.R (Kd.int .i64) 3 w' w.heap.size (fun _ => True) v0_ r ∧ Below w.heap.size w w' := by
 have HR0 := zA hr0
 have HC0 := zA hc0
 clear hr0 hc0
 have HB := zA (Below.refl w.heap.size w)
 have H := h
 unfold ze3 at H
 clear h
 by_cases c2 : 0 ≤ (l0.length : Int)
 rotate_left
 · rw [if_neg c2] at H
   exact absurd H (by simp)
 rw [if_pos c2] at H
 have c2b0 := eq_true c2
 have c2b1 := zdt c2
 clear c2
 by_cases c3 : ((l0.length : Int) : Int).toNat ≤ 35184372088832
 rotate_left
 · rw [if_neg c3] at H
   exact absurd H (by simp)
 rw [if_pos c3] at H
 have c3b0 := eq_true c3
 have c3b1 := zdt c3
 clear c3
 obtain ⟨y101, hy101⟩ : ∃ y_ : List Int, y_ = (List.replicate ((l0.length : Int) : Int).toNat 0) := ⟨_, rfl⟩
 rw [← hy101] at H; try with_reducible replace H := zbs H
 have Ny101 := zA hy101
 clear hy101
 have H' := zA H
 clear H
 go_enter Tryz.func33, Tryz.ntmps33
 go_wp2_with (first | ((with_reducible refine zgd 7 ?_); refine Kd.R_make (Kd.int .i64) _ 3 rfl (N := 7) rfl 24 _ _ rfl (l0.length : Int) rfl rfl Tryz.underlying24 (.int .i64 0) 8 zn1 rfl (by decide) (by omega) 0 (ok := fun _ => True) (okp := fun _ => True) rfl (fun _ hk => hk) trivial (zde zq21) (Nat.le_trans (Nat.mul_le_mul_right _ (zde zq21 : (l0.length : Int).toNat ≤ 35184372088832)) (by omega)) (Below.refl _ _) (zlr _) ?_; intro v102 w4 ho5 hb hg_ hnew_; clear hg_ hnew_; (first | rw [← Ny101.out] at ho5 | (simp only [Int.reduceToNat] at ho5; rw [← Ny101.out] at ho5)); have HO103 := zA (Kd.R_lower ho5 (zag zq1)); replace HB := zA (zab zq1 hb); clear hb ho5))
 go_loopg [4] k (fun kq v4 w' => ∃ (x3_1 : List Int) (x4_1 : Int), v4 = .int .i64 x4_1 ∧ Aside0 (zdk kq l0 x3_1 x4_1 = some r) ∧ Aside0 (kq ≤ k) ∧ Aside0 (Kd.R (Kd.int .i64) 3 w' w.heap.size (fun _ => True) v102 x3_1) ∧ Aside0 (Below w.heap.size w w'))
 case atStart => exact ⟨(y101), (0), zq5, H', ⟨zlr _⟩, ⟨zq2 HO103⟩, ⟨zq1⟩⟩
 clear H'
 obtain ⟨x3_1, x4_1, rfl, HA, HK1, HO_3, HB⟩ := hrel
 cases gk with
 | zero => exact absurd HA.out (by simp [zdk])
 | succ k1 =>
 have H := HA.out
 clear HA
 simp only [zdk] at H
 revert H
 refine zit (fun c6 H => ?_) fun c6 H => ?_
 rotate_left
 · obtain rfl := zsi H
   go_wp2
   go_ret
   exact ⟨_, zq4, zq2 HO_3, zq1⟩
 revert H
 refine zin fun c7 H => ?_
 revert H
 refine zin fun c8 H => ?_
 obtain ⟨y105, hy105⟩ : ∃ y_ : List Int, y_ = (x3_1.set (x4_1 : Int).toNat (rd l0 x4_1)) := ⟨_, rfl⟩
 rw [← hy105] at H; try with_reducible replace H := zbs H
 have Ny105 := zA hy105
 clear hy105
 have H' := zA H
 clear H
 obtain ⟨p104, q104⟩ := zpq x4_1 l0.length
 obtain ⟨ad104, e104, hx104_0⟩ := Kd.at_int HR0.out x4_1 (zoe p104) (zoe q104)
 cases e104
 replace hx104_0 := zkep HB.out hx104_0
 have p9 : 0 ≤ (x4_1 : Int) := zde zq21
 have q9 : (x4_1 : Int) < ((x3_1.length : Int) : Int) := zde zq21
 obtain ⟨go9, co9, eo9, gb9, gl9, cl9, HG9⟩ := Kd.R_form HO_3.out (by omega)
 (first | cases eo9 | (injection eo9 with ea_ en_ ec_; (first | subst ea_ | (injection ea_ with ea_; subst ea_)); subst ec_; clear en_))
 have GB9 := zA gb9
 have GG9 := zA HG9
 clear gb9 gl9 HG9
 obtain ⟨hx9_0, hf9_0⟩ := Kd.R_celln 0 HO_3.out (x4_1 : Int) p9 q9
 replace p9 := eq_true p9
 replace q9 := eq_true q9
 have HP10 := Kd.R_putg HO_3.out (x4_1 : Int) (rd l0 x4_1)
 go_wp2_with (first | ((with_reducible refine zgs 3 20 ?_); refine zse (wr.setCell ⟨go9, (x4_1 : Int).toNat, none⟩ (.int .i64 (rd l0 x4_1))) ?_; intro w11 hw; have hg : wr.grownBy w11 (some go9) := (by rw [hw]; exact HP10.2); have hp_ : Kd.R (Kd.int .i64) 3 w11 w.heap.size (fun _ => True) (.slice (some ⟨go9, 0, none⟩) x3_1.length co9) y105 := (by rw [hw, Ny105.out]; exact HP10.1); clear HP10; replace HO_3 := zA (hp_); replace HB := zA ((zq39 GB9 : Below w.heap.size w w11)); clear hg hw hp_))
 go_roundg k1
 case measure => have := HK1.out; omega
 case rel => exact ⟨(y105), (wrap64 (x4_1 + 1)), zq5, H', ⟨zq41 HK1⟩, ⟨zq2 HO_3⟩, ⟨zq1⟩⟩
end Go.Proofs.YtnaafcleafbejaaGreat.Q
end
section
namespace Go.Proofs.YtnaafcleafbejaaGreat.Q
open Go.RowKit Go.Proofs.YtnaafcleafbejaaGreatW.PrintWords Go.Proofs.YtnaafcleafbejaaGreatW.PrintLast Go.Proofs.YtnaafcleafbejaaGreatW.PrintMore
set_option maxHeartbeats 8000000
set_option maxRecDepth 100000
attribute [local go_sem] zf1 zf2 zhf zhg zeu zev zf3 zf6
set_option linter.unusedVariables false
set_option linter.unusedSimpArgs false
attribute [local go_sem high] zzv
def zdl : Nat → List (S62) → List (S62) → Int → Int → Option (Bool)
 | 0, _, _, _, _ => none
 | k + 1, x1, x12, x13, x14 => if x14 < x13 then (if 0 ≤ x14 then (if x14 < (x12.length : Int) then (if x14 < (x1.length : Int) then (if (!((((zac x12 x14).f0).toList) == (((zac x1 x14).f0).toList)) || (!(((zac x12 x14).f1) == ((zac x1 x14).f1)) || (!(((zac x12 x14).f2) == ((zac x1 x14).f2)) || (!(((zac x12 x14).f3) == ((zac x1 x14).f3)))))) = true then (some false) else (zdl k x1 x12 x13 (wrap64 (x14 + 1)))) else (none)) else (none)) else (none)) else (some true)
def zgl (k : Nat) (l0 : List (S62)) (l1 : List (S62)) : Option (Bool) := if (l0.length : Int) = (l1.length : Int) then (zdl k l1 l0 (l0.length : Int) 0) else (some false)
theorem zlc : ∀ k, (∀ y0 y1 y2 y3, LeO (zdl k y0 y1 y2 y3) (zdl (k + 1) y0 y1 y2 y3))
 | 0 => fun _ _ _ _ r h => by simp [zdl] at h
 | k + 1 => by
   have ih0 := zlc k
   · intro y0 y1 y2 y3
     unfold zdl
     exact zm1 ih0
theorem zms : ∀ a0 a1 k, LeO (zgl k a0 a1) (zgl (k + 1) a0 a1) := by
 intro a0 a1 k
 have ih0 := zlc k
 unfold zgl
 exact zm1 ih0
theorem zqk (k : Nat) (A0 : Option Addr) (c0 : Nat) (l0 : List (S62)) (A1 : Option Addr) (c1 : Nat) (l1 : List (S62)) (r : Bool) (w : World) (hr0 : Kd.C k62 w A0 l0.length l0) (hc0 : l0.length ≤ c0) (hr1 : Kd.C k62 w A1 l1.length l1) (hc1 : l1.length ≤ c1) (h : zgl k l0 l1 = some r) :
   Calls Tryz.prog 105 #[.slice A0 l0.length c0, .slice A1 l1.length c1] w fun e w' => e = .returned (.bool r) ∧ Below w.heap.size w w' := by
 have hu62 := Tryz.underlying62
 have HR0 := zA hr0
 have HC0 := zA hc0
 clear hr0 hc0
 have HR1 := zA hr1
 have HC1 := zA hc1
 clear hr1 hc1
 have HB := zA (Below.refl w.heap.size w)
 have H := h
 unfold zgl at H
 clear h
 by_cases c3 : (l0.length : Int) = (l1.length : Int)
 rotate_left
 · rw [if_neg c3] at H
   obtain ⟨c3b0, c3b1⟩ := zbq c3
   have c3b2 : (l0.length == l1.length) = false := by first | simpa using c3 | (simp at c3 ⊢; omega)
   obtain rfl := zsi H
   go_enter Tryz.func105, Tryz.ntmps105
   go_wp2
   repeat (go_quiet (fail); try go_wp2)
   exact zr_3
 rw [if_pos c3] at H
 obtain ⟨c3b0, c3b1⟩ := zbe c3
 have c3b2 : (l0.length == l1.length) = true := by first | simpa using c3 | (simp at c3 ⊢; omega)
 clear c3
 have H' := zA H
 clear H
 go_enter Tryz.func105, Tryz.ntmps105
 go_wp2
 repeat (go_quiet (fail); try go_wp2)
 go_loopg [14] k (fun kq v14 w' => ∃ (x14_1 : Int), v14 = .int .i64 x14_1 ∧ Aside0 (zdl kq l1 l0 (l0.length : Int) x14_1 = some r) ∧ Aside0 (kq ≤ k) ∧ Aside0 (Below w.heap.size w w'))
 case atStart => exact ⟨(0), zq5, H', ⟨zlr _⟩, ⟨zq1⟩⟩
 clear H'
 obtain ⟨x14_1, rfl, HA, HK1, HB⟩ := hrel
 cases gk with
 | zero => exact absurd HA.out (by simp [zdl])
 | succ k1 =>
 have H := HA.out
 clear HA
 simp only [zdl] at H
 revert H
 refine zit (fun c4 H => ?_) fun c4 H => ?_
 rotate_left
 · obtain rfl := zsi H
   go_wp2
   repeat (go_quiet (fail); try go_wp2)
   exact zr_3
 revert H
 refine zin fun c5 H => ?_
 revert H
 refine zin fun c6 H => ?_
 revert H
 refine zin fun c7 H => ?_
 by_cases c8 : (!((((zac l0 x14_1).f0).toList) == (((zac l1 x14_1).f0).toList)) || (!(((zac l0 x14_1).f1) == ((zac l1 x14_1).f1)) || (!(((zac l0 x14_1).f2) == ((zac l1 x14_1).f2)) || (!(((zac l0 x14_1).f3) == ((zac l1 x14_1).f3)))))) = true
 · rw [if_pos c8] at H
   have c8b0 : (!((((zac l0 x14_1).f0).toList) == (((zac l1 x14_1).f0).toList)) || (!(((zac l0 x14_1).f1) == ((zac l1 x14_1).f1)) || (!(((zac l0 x14_1).f2) == ((zac l1 x14_1).f2)) || (!(((zac l0 x14_1).f3) == ((zac l1 x14_1).f3)))))) = true := c8
   clear c8
   obtain rfl := zsi H
   obtain ⟨p101, q101⟩ := zpq x14_1 l0.length
   obtain ⟨ad101, e101, hx101_0, hx101_1, hx101_2, hx101_3⟩ := zdu HR0.out x14_1 (zoe p101) (zoe q101)
   cases e101
   replace hx101_0 := zkep HB.out hx101_0
   replace hx101_1 := zkep HB.out hx101_1
   replace hx101_2 := zkep HB.out hx101_2
   replace hx101_3 := zkep HB.out hx101_3
   go_wp2_with (first | ((with_reducible refine zgd 6 ?_); refine zbh zq1 #[.string (⟨#[]⟩ : ByteArray), .int .i64 0, .int .i64 0, .int .i64 0] 62 ?_; clear HB; intro gb102 w9 HB BK102 GW102; have GE102 := GW102; obtain ⟨hcz10_0, hcz10_1, hcz10_2, hcz10_3, hfz10_0, hfz10_1, hfz10_2, hfz10_3⟩ := zd4 BK102; have p103 : 0 ≤ (x14_1 : Int) := zde zq21; have q103 : x14_1 < (l1.length : Int) := zde zq21; obtain ⟨ad103, e103, hx103_0, hx103_1, hx103_2, hx103_3⟩ := zdu HR1.out x14_1 p103 q103; cases e103; have hn103_0 : ad103.block ≠ gb102 := Nat.ne_of_lt (Nat.lt_of_lt_of_le (by have := World.block_lt_of_cell? _ _ hx103_0; first | rwa [zb4] at this | exact this) GW102.out); have hn103_1 : ad103.block ≠ gb102 := Nat.ne_of_lt (Nat.lt_of_lt_of_le (by have := World.block_lt_of_cell? _ _ hx103_0; first | rwa [zb4] at this | exact this) GW102.out); have hn103_2 : ad103.block ≠ gb102 := Nat.ne_of_lt (Nat.lt_of_lt_of_le (by have := World.block_lt_of_cell? _ _ hx103_0; first | rwa [zb4] at this | exact this) GW102.out); have hn103_3 : ad103.block ≠ gb102 := Nat.ne_of_lt (Nat.lt_of_lt_of_le (by have := World.block_lt_of_cell? _ _ hx103_0; first | rwa [zb4] at this | exact this) GW102.out); replace hx103_0 := zkep HB.out hx103_0; replace hx103_1 := zkep HB.out hx103_1; replace hx103_2 := zkep HB.out hx103_2; replace hx103_3 := zkep HB.out hx103_3; replace hx103_0 := (zb3 (p := ⟨gb102, 0, none⟩) zq33 (.string ((zac l0 x14_1).f0))).trans hx103_0; replace hx103_1 := (zb3 (p := ⟨gb102, 0, none⟩) zq33 (.string ((zac l0 x14_1).f0))).trans hx103_1; replace hx103_2 := (zb3 (p := ⟨gb102, 0, none⟩) zq33 (.string ((zac l0 x14_1).f0))).trans hx103_2; replace hx103_3 := (zb3 (p := ⟨gb102, 0, none⟩) zq33 (.string ((zac l0 x14_1).f0))).trans hx103_3; replace hx103_0 := (zb3 (p := ⟨gb102, 1, none⟩) zq34 (.int .i64 ((zac l0 x14_1).f1))).trans hx103_0; replace hx103_1 := (zb3 (p := ⟨gb102, 1, none⟩) zq34 (.int .i64 ((zac l0 x14_1).f1))).trans hx103_1; replace hx103_2 := (zb3 (p := ⟨gb102, 1, none⟩) zq34 (.int .i64 ((zac l0 x14_1).f1))).trans hx103_2; replace hx103_3 := (zb3 (p := ⟨gb102, 1, none⟩) zq34 (.int .i64 ((zac l0 x14_1).f1))).trans hx103_3; replace hx103_0 := (zb3 (p := ⟨gb102, 2, none⟩) zq35 (.int .i64 ((zac l0 x14_1).f2))).trans hx103_0; replace hx103_1 := (zb3 (p := ⟨gb102, 2, none⟩) zq35 (.int .i64 ((zac l0 x14_1).f2))).trans hx103_1; replace hx103_2 := (zb3 (p := ⟨gb102, 2, none⟩) zq35 (.int .i64 ((zac l0 x14_1).f2))).trans hx103_2; replace hx103_3 := (zb3 (p := ⟨gb102, 2, none⟩) zq35 (.int .i64 ((zac l0 x14_1).f2))).trans hx103_3; replace hx103_0 := (zb3 (p := ⟨gb102, 3, none⟩) zq36 (.int .i64 ((zac l0 x14_1).f3))).trans hx103_0; replace hx103_1 := (zb3 (p := ⟨gb102, 3, none⟩) zq36 (.int .i64 ((zac l0 x14_1).f3))).trans hx103_1; replace hx103_2 := (zb3 (p := ⟨gb102, 3, none⟩) zq36 (.int .i64 ((zac l0 x14_1).f3))).trans hx103_2; replace hx103_3 := (zb3 (p := ⟨gb102, 3, none⟩) zq36 (.int .i64 ((zac l0 x14_1).f3))).trans hx103_3; (try have hy103_0 := fun (n_ : Nat) => (show ((((((w9.drewN n_).setCell ⟨gb102, 0, none⟩ (.string ((zac l0 x14_1).f0))).setCell ⟨gb102, 1, none⟩ (.int .i64 ((zac l0 x14_1).f1))).setCell ⟨gb102, 2, none⟩ (.int .i64 ((zac l0 x14_1).f2))).setCell ⟨gb102, 3, none⟩ (.int .i64 ((zac l0 x14_1).f3)))).cell? _ = some _ from hx103_0)); (try have hy103_1 := fun (n_ : Nat) => (show ((((((w9.drewN n_).setCell ⟨gb102, 0, none⟩ (.string ((zac l0 x14_1).f0))).setCell ⟨gb102, 1, none⟩ (.int .i64 ((zac l0 x14_1).f1))).setCell ⟨gb102, 2, none⟩ (.int .i64 ((zac l0 x14_1).f2))).setCell ⟨gb102, 3, none⟩ (.int .i64 ((zac l0 x14_1).f3)))).cell? _ = some _ from hx103_1)); (try have hy103_2 := fun (n_ : Nat) => (show ((((((w9.drewN n_).setCell ⟨gb102, 0, none⟩ (.string ((zac l0 x14_1).f0))).setCell ⟨gb102, 1, none⟩ (.int .i64 ((zac l0 x14_1).f1))).setCell ⟨gb102, 2, none⟩ (.int .i64 ((zac l0 x14_1).f2))).setCell ⟨gb102, 3, none⟩ (.int .i64 ((zac l0 x14_1).f3)))).cell? _ = some _ from hx103_2)); (try have hy103_3 := fun (n_ : Nat) => (show ((((((w9.drewN n_).setCell ⟨gb102, 0, none⟩ (.string ((zac l0 x14_1).f0))).setCell ⟨gb102, 1, none⟩ (.int .i64 ((zac l0 x14_1).f1))).setCell ⟨gb102, 2, none⟩ (.int .i64 ((zac l0 x14_1).f2))).setCell ⟨gb102, 3, none⟩ (.int .i64 ((zac l0 x14_1).f3)))).cell? _ = some _ from hx103_3)); clear hn103_0; clear hn103_1; clear hn103_2; clear hn103_3; replace p103 := eq_true p103; replace q103 := eq_true q103))
   repeat (go_quiet (fail)); try go_wp2_with fail
   go_ret
   exact ⟨zq4, zq3 GE102⟩
 rw [if_neg c8] at H
 have c8b0 : (!((((zac l0 x14_1).f0).toList) == (((zac l1 x14_1).f0).toList)) || (!(((zac l0 x14_1).f1) == ((zac l1 x14_1).f1)) || (!(((zac l0 x14_1).f2) == ((zac l1 x14_1).f2)) || (!(((zac l0 x14_1).f3) == ((zac l1 x14_1).f3)))))) = false := by simpa using c8
 clear c8
 have H' := zA H
 clear H
 obtain ⟨p101, q101⟩ := zpq x14_1 l0.length
 obtain ⟨ad101, e101, hx101_0, hx101_1, hx101_2, hx101_3⟩ := zdu HR0.out x14_1 (zoe p101) (zoe q101)
 cases e101
 replace hx101_0 := zkep HB.out hx101_0
 replace hx101_1 := zkep HB.out hx101_1
 replace hx101_2 := zkep HB.out hx101_2
 replace hx101_3 := zkep HB.out hx101_3
 go_wp2_with (first | ((with_reducible refine zgd 6 ?_); refine zbh zq1 #[.string (⟨#[]⟩ : ByteArray), .int .i64 0, .int .i64 0, .int .i64 0] 62 ?_; clear HB; intro gb102 w11 HB BK102 GW102; have GE102 := GW102; obtain ⟨hcz12_0, hcz12_1, hcz12_2, hcz12_3, hfz12_0, hfz12_1, hfz12_2, hfz12_3⟩ := zd4 BK102; have p103 : 0 ≤ (x14_1 : Int) := zde zq21; have q103 : x14_1 < (l1.length : Int) := zde zq21; obtain ⟨ad103, e103, hx103_0, hx103_1, hx103_2, hx103_3⟩ := zdu HR1.out x14_1 p103 q103; cases e103; have hn103_0 : ad103.block ≠ gb102 := Nat.ne_of_lt (Nat.lt_of_lt_of_le (by have := World.block_lt_of_cell? _ _ hx103_0; first | rwa [zb4] at this | exact this) GW102.out); have hn103_1 : ad103.block ≠ gb102 := Nat.ne_of_lt (Nat.lt_of_lt_of_le (by have := World.block_lt_of_cell? _ _ hx103_0; first | rwa [zb4] at this | exact this) GW102.out); have hn103_2 : ad103.block ≠ gb102 := Nat.ne_of_lt (Nat.lt_of_lt_of_le (by have := World.block_lt_of_cell? _ _ hx103_0; first | rwa [zb4] at this | exact this) GW102.out); have hn103_3 : ad103.block ≠ gb102 := Nat.ne_of_lt (Nat.lt_of_lt_of_le (by have := World.block_lt_of_cell? _ _ hx103_0; first | rwa [zb4] at this | exact this) GW102.out); replace hx103_0 := zkep HB.out hx103_0; replace hx103_1 := zkep HB.out hx103_1; replace hx103_2 := zkep HB.out hx103_2; replace hx103_3 := zkep HB.out hx103_3; replace hx103_0 := (zb3 (p := ⟨gb102, 0, none⟩) zq33 (.string ((zac l0 x14_1).f0))).trans hx103_0; replace hx103_1 := (zb3 (p := ⟨gb102, 0, none⟩) zq33 (.string ((zac l0 x14_1).f0))).trans hx103_1; replace hx103_2 := (zb3 (p := ⟨gb102, 0, none⟩) zq33 (.string ((zac l0 x14_1).f0))).trans hx103_2; replace hx103_3 := (zb3 (p := ⟨gb102, 0, none⟩) zq33 (.string ((zac l0 x14_1).f0))).trans hx103_3; replace hx103_0 := (zb3 (p := ⟨gb102, 1, none⟩) zq34 (.int .i64 ((zac l0 x14_1).f1))).trans hx103_0; replace hx103_1 := (zb3 (p := ⟨gb102, 1, none⟩) zq34 (.int .i64 ((zac l0 x14_1).f1))).trans hx103_1; replace hx103_2 := (zb3 (p := ⟨gb102, 1, none⟩) zq34 (.int .i64 ((zac l0 x14_1).f1))).trans hx103_2; replace hx103_3 := (zb3 (p := ⟨gb102, 1, none⟩) zq34 (.int .i64 ((zac l0 x14_1).f1))).trans hx103_3; replace hx103_0 := (zb3 (p := ⟨gb102, 2, none⟩) zq35 (.int .i64 ((zac l0 x14_1).f2))).trans hx103_0; replace hx103_1 := (zb3 (p := ⟨gb102, 2, none⟩) zq35 (.int .i64 ((zac l0 x14_1).f2))).trans hx103_1; replace hx103_2 := (zb3 (p := ⟨gb102, 2, none⟩) zq35 (.int .i64 ((zac l0 x14_1).f2))).trans hx103_2; replace hx103_3 := (zb3 (p := ⟨gb102, 2, none⟩) zq35 (.int .i64 ((zac l0 x14_1).f2))).trans hx103_3; replace hx103_0 := (zb3 (p := ⟨gb102, 3, none⟩) zq36 (.int .i64 ((zac l0 x14_1).f3))).trans hx103_0; replace hx103_1 := (zb3 (p := ⟨gb102, 3, none⟩) zq36 (.int .i64 ((zac l0 x14_1).f3))).trans hx103_1; replace hx103_2 := (zb3 (p := ⟨gb102, 3, none⟩) zq36 (.int .i64 ((zac l0 x14_1).f3))).trans hx103_2; replace hx103_3 := (zb3 (p := ⟨gb102, 3, none⟩) zq36 (.int .i64 ((zac l0 x14_1).f3))).trans hx103_3; (try have hy103_0 := fun (n_ : Nat) => (show ((((((w11.drewN n_).setCell ⟨gb102, 0, none⟩ (.string ((zac l0 x14_1).f0))).setCell ⟨gb102, 1, none⟩ (.int .i64 ((zac l0 x14_1).f1))).setCell ⟨gb102, 2, none⟩ (.int .i64 ((zac l0 x14_1).f2))).setCell ⟨gb102, 3, none⟩ (.int .i64 ((zac l0 x14_1).f3)))).cell? _ = some _ from hx103_0)); (try have hy103_1 := fun (n_ : Nat) => (show ((((((w11.drewN n_).setCell ⟨gb102, 0, none⟩ (.string ((zac l0 x14_1).f0))).setCell ⟨gb102, 1, none⟩ (.int .i64 ((zac l0 x14_1).f1))).setCell ⟨gb102, 2, none⟩ (.int .i64 ((zac l0 x14_1).f2))).setCell ⟨gb102, 3, none⟩ (.int .i64 ((zac l0 x14_1).f3)))).cell? _ = some _ from hx103_1)); (try have hy103_2 := fun (n_ : Nat) => (show ((((((w11.drewN n_).setCell ⟨gb102, 0, none⟩ (.string ((zac l0 x14_1).f0))).setCell ⟨gb102, 1, none⟩ (.int .i64 ((zac l0 x14_1).f1))).setCell ⟨gb102, 2, none⟩ (.int .i64 ((zac l0 x14_1).f2))).setCell ⟨gb102, 3, none⟩ (.int .i64 ((zac l0 x14_1).f3)))).cell? _ = some _ from hx103_2)); (try have hy103_3 := fun (n_ : Nat) => (show ((((((w11.drewN n_).setCell ⟨gb102, 0, none⟩ (.string ((zac l0 x14_1).f0))).setCell ⟨gb102, 1, none⟩ (.int .i64 ((zac l0 x14_1).f1))).setCell ⟨gb102, 2, none⟩ (.int .i64 ((zac l0 x14_1).f2))).setCell ⟨gb102, 3, none⟩ (.int .i64 ((zac l0 x14_1).f3)))).cell? _ = some _ from hx103_3)); clear hn103_0; clear hn103_1; clear hn103_2; clear hn103_3; replace p103 := eq_true p103; replace q103 := eq_true q103))
 repeat (go_quiet (fail)); try go_wp2_with fail
 go_roundg k1
 case measure => have := HK1.out; omega
 case rel => exact ⟨(wrap64 (x14_1 + 1)), zq5, H', ⟨zq41 HK1⟩, ⟨zq3 GE102⟩⟩
end Go.Proofs.YtnaafcleafbejaaGreat.Q
end
section
namespace Go.Proofs.YtnaafcleafbejaaGreat.Q
open Go.RowKit Go.Proofs.YtnaafcleafbejaaGreatW.PrintWords Go.Proofs.YtnaafcleafbejaaGreatW.PrintLast Go.Proofs.YtnaafcleafbejaaGreatW.PrintMore
set_option maxHeartbeats 8000000
set_option maxRecDepth 100000
attribute [local go_sem] zf1 zf2 zhf zhg zeu zev zf3 zf6
set_option linter.unusedVariables false
set_option linter.unusedSimpArgs false
def zbr (a0 : ByteArray) (a1 : Int) (a2 : Int) : Option (Int) := if a0.toList = ([110, 111, 116] : List UInt8) then (some (Go.bits .and .i64 (wrap64 (63 - a1)) 63)) else (if a0.toList = ([110, 101, 103] : List UInt8) then (some (Go.bits .and .i64 (wrap64 (-a1)) 63)) else (if a0.toList = ([97, 100, 100] : List UInt8) then (some (Go.bits .and .i64 (wrap64 (a1 + a2)) 63)) else (if a0.toList = ([115, 117, 98] : List UInt8) then (some (Go.bits .and .i64 (wrap64 (a1 - a2)) 63)) else (if a0.toList = ([109, 117, 108] : List UInt8) then (some (Go.bits .and .i64 (wrap64 (a1 * a2)) 63)) else (if a0.toList = ([97, 110, 100] : List UInt8) then (some (Go.bits .and .i64 (Go.bits .and .i64 a1 a2) 63)) else (if a0.toList = ([111, 114] : List UInt8) then (some (Go.bits .and .i64 (Go.bits .or .i64 a1 a2) 63)) else (if a0.toList = ([120, 111, 114] : List UInt8) then (some (Go.bits .and .i64 (Go.bits .xor .i64 a1 a2) 63)) else (if a0.toList = ([115, 104, 108] : List UInt8) then (if a2 < 6 then (if 0 ≤ a2 then (some (Go.bits .and .i64 (shl .i64 a1 a2) 63)) else (none)) else (some (Go.bits .and .i64 0 63))) else (if a0.toList = ([115, 104, 114] : List UInt8) then (if a2 < 6 then (if 0 ≤ a2 then (some (Go.bits .and .i64 (shr .i64 a1 a2) 63)) else (none)) else (some (Go.bits .and .i64 0 63))) else (if a0.toList = ([108, 101, 115, 115] : List UInt8) then (if a1 < a2 then (some (Go.bits .and .i64 1 63)) else (some (Go.bits .and .i64 0 63))) else (if a0.toList = ([101, 113] : List UInt8) then (if a1 = a2 then (some (Go.bits .and .i64 1 63)) else (some (Go.bits .and .i64 0 63))) else (some (Go.bits .and .i64 0 63)))))))))))))
theorem zar (a0 : ByteArray) (a1 : Int) (a2 : Int) (r : Int) (w : World) (h : zbr a0 a1 a2 = some r) :
   Calls Tryz.prog 157 #[.string a0, .int .i64 a1, .int .i64 a2] w fun e w' => e = .returned (.int .i64 r) ∧ Drawn0 w w' := by
 have H := h
 unfold zbr at H
 clear h
 by_cases c4 : a0.toList = ([110, 111, 116] : List UInt8)
 · rw [if_pos c4] at H
   obtain ⟨c4b0, c4b1⟩ := zbe c4
   clear c4
   exact zr_2
 rw [if_neg c4] at H
 obtain ⟨c4b0, c4b1⟩ := zbq c4
 by_cases c5 : a0.toList = ([110, 101, 103] : List UInt8)
 · rw [if_pos c5] at H
   obtain ⟨c5b0, c5b1⟩ := zbe c5
   clear c5
   exact zr_2
 rw [if_neg c5] at H
 obtain ⟨c5b0, c5b1⟩ := zbq c5
 by_cases c6 : a0.toList = ([97, 100, 100] : List UInt8)
 · rw [if_pos c6] at H
   obtain ⟨c6b0, c6b1⟩ := zbe c6
   clear c6
   exact zr_2
 rw [if_neg c6] at H
 obtain ⟨c6b0, c6b1⟩ := zbq c6
 by_cases c7 : a0.toList = ([115, 117, 98] : List UInt8)
 · rw [if_pos c7] at H
   obtain ⟨c7b0, c7b1⟩ := zbe c7
   clear c7
   exact zr_2
 rw [if_neg c7] at H
 obtain ⟨c7b0, c7b1⟩ := zbq c7
 by_cases c8 : a0.toList = ([109, 117, 108] : List UInt8)
 · rw [if_pos c8] at H
   obtain ⟨c8b0, c8b1⟩ := zbe c8
   clear c8
   exact zr_2
 rw [if_neg c8] at H
 obtain ⟨c8b0, c8b1⟩ := zbq c8
 by_cases c9 : a0.toList = ([97, 110, 100] : List UInt8)
 · rw [if_pos c9] at H
   obtain ⟨c9b0, c9b1⟩ := zbe c9
   clear c9
   exact zr_2
 rw [if_neg c9] at H
 obtain ⟨c9b0, c9b1⟩ := zbq c9
 by_cases c10 : a0.toList = ([111, 114] : List UInt8)
 · rw [if_pos c10] at H
   obtain ⟨c10b0, c10b1⟩ := zbe c10
   clear c10
   exact zr_2
 rw [if_neg c10] at H
 obtain ⟨c10b0, c10b1⟩ := zbq c10
 by_cases c11 : a0.toList = ([120, 111, 114] : List UInt8)
 · rw [if_pos c11] at H
   obtain ⟨c11b0, c11b1⟩ := zbe c11
   clear c11
   exact zr_2
 rw [if_neg c11] at H
 obtain ⟨c11b0, c11b1⟩ := zbq c11
 by_cases c12 : a0.toList = ([115, 104, 108] : List UInt8)
 · rw [if_pos c12] at H
   obtain ⟨c12b0, c12b1⟩ := zbe c12
   clear c12
   revert H
   refine zit (fun c13 H => ?_) fun c13 H => ?_
   rotate_left
   · obtain rfl := zsi H
     go_enter Tryz.func157, Tryz.ntmps157
     exact zr_6
   by_cases c14 : 0 ≤ a2
   rotate_left
   · rw [if_neg c14] at H
     exact absurd H (by simp)
   rw [if_pos c14] at H
   have c14b0 := eq_true c14
   have c14b1 := zdt c14
   clear c14
   obtain ⟨ji15, hji15⟩ : ∃ j_ : Int, (shl .i64 a1 a2) = j_ := ⟨_, rfl⟩
   replace H : (some (Go.bits .and .i64 (ji15) 63)) = some r := by first | (rw [hji15] at H; exact H) | (simp only [hji15] at H ⊢; exact H)
   have hji15_ : (IntKind.i64.wrap (a1 * 2 ^ min a2.toNat 64)) = ji15 := hji15
   have hji15z : a2 ≤ 64 → (IntKind.i64.wrap (a1 * 2 ^ a2.toNat)) = ji15 := zve hji15
   have hji15y : (wrap64 (a1 * 2 ^ min a2.toNat 64)) = ji15 := (zgy _).symm.trans hji15_
   have hji15x : a2 ≤ 64 → (wrap64 (a1 * 2 ^ a2.toNat)) = ji15 := fun h_ => (zgy _).symm.trans (hji15z h_)
   obtain rfl := zsi H
   go_enter Tryz.func157, Tryz.ntmps157
   go_wp2
   go_ret
   exact ⟨by first | rfl | (simp; done) | (simp only [← hji15] <;> (first | rfl | simp)) | (simp [*]; done), zq6⟩
 rw [if_neg c12] at H
 obtain ⟨c12b0, c12b1⟩ := zbq c12
 by_cases c16 : a0.toList = ([115, 104, 114] : List UInt8)
 · rw [if_pos c16] at H
   obtain ⟨c16b0, c16b1⟩ := zbe c16
   clear c16
   revert H
   refine zit (fun c17 H => ?_) fun c17 H => ?_
   rotate_left
   · obtain rfl := zsi H
     go_enter Tryz.func157, Tryz.ntmps157
     exact zr_6
   by_cases c18 : 0 ≤ a2
   rotate_left
   · rw [if_neg c18] at H
     exact absurd H (by simp)
   rw [if_pos c18] at H
   have c18b0 := eq_true c18
   have c18b1 := zdt c18
   clear c18
   obtain ⟨ji19, hji19⟩ : ∃ j_ : Int, (shr .i64 a1 a2) = j_ := ⟨_, rfl⟩
   replace H : (some (Go.bits .and .i64 (ji19) 63)) = some r := by first | (rw [hji19] at H; exact H) | (simp only [hji19] at H ⊢; exact H)
   have hji19_ : (a1 / 2 ^ min a2.toNat 64) = ji19 := hji19
   have hji19z : a2 ≤ 64 → (a1 / 2 ^ a2.toNat) = ji19 := zvf hji19
   obtain rfl := zsi H
   go_enter Tryz.func157, Tryz.ntmps157
   go_wp2
   go_ret
   exact ⟨by first | rfl | (simp; done) | (simp only [← hji19] <;> (first | rfl | simp)) | (simp [*]; done), zq6⟩
 rw [if_neg c16] at H
 obtain ⟨c16b0, c16b1⟩ := zbq c16
 by_cases c20 : a0.toList = ([108, 101, 115, 115] : List UInt8)
 · rw [if_pos c20] at H
   obtain ⟨c20b0, c20b1⟩ := zbe c20
   clear c20
   revert H
   refine zit (fun c21b0 H => ?_) fun c21b0 H => ?_
   · obtain rfl := zsi H
     go_enter Tryz.func157, Tryz.ntmps157
     exact zr_6
   exact zr_2
 rw [if_neg c20] at H
 obtain ⟨c20b0, c20b1⟩ := zbq c20
 by_cases c22 : a0.toList = ([101, 113] : List UInt8)
 rotate_left
 · rw [if_neg c22] at H
   obtain ⟨c22b0, c22b1⟩ := zbq c22
   exact zr_2
 rw [if_pos c22] at H
 obtain ⟨c22b0, c22b1⟩ := zbe c22
 clear c22
 by_cases c23 : a1 = a2
 rotate_left
 · rw [if_neg c23] at H
   obtain ⟨c23b0, c23b1⟩ := zbq c23
   exact zr_2
 rw [if_pos c23] at H
 obtain ⟨c23b0, c23b1⟩ := zbe c23
 clear c23
 exact zr_2
def zil (a0 : ByteArray) : Option (Bool) := if a0.toList = ([110, 111, 116] : List UInt8) then (some true) else (some (a0.toList == ([110, 101, 103] : List UInt8)))
theorem zdm (a0 : ByteArray) (r : Bool) (w : World) (h : zil a0 = some r) :
   Calls Tryz.prog 153 #[.string a0] w fun e w' => e = .returned (.bool r) ∧ Drawn0 w w' := by
 have H := h
 unfold zil at H
 clear h
 by_cases c2 : a0.toList = ([110, 111, 116] : List UInt8)
 · rw [if_pos c2] at H
   obtain ⟨c2b0, c2b1⟩ := zbe c2
   clear c2
   obtain rfl := zsi H
   go_enter Tryz.func153, Tryz.ntmps153
   exact zr_6
 · rw [if_neg c2] at H
   obtain ⟨c2b0, c2b1⟩ := zbq c2
   obtain rfl := zsi H
   go_enter Tryz.func153, Tryz.ntmps153
   exact zr_6
def zld  : Option (List ByteArray) := some (([(⟨#[97, 100, 100]⟩ : ByteArray), (⟨#[115, 117, 98]⟩ : ByteArray), (⟨#[109, 117, 108]⟩ : ByteArray), (⟨#[97, 110, 100]⟩ : ByteArray), (⟨#[111, 114]⟩ : ByteArray), (⟨#[120, 111, 114]⟩ : ByteArray), (⟨#[115, 104, 108]⟩ : ByteArray), (⟨#[115, 104, 114]⟩ : ByteArray), (⟨#[108, 101, 115, 115]⟩ : ByteArray), (⟨#[101, 113]⟩ : ByteArray)] : List ByteArray))
theorem zrh  (r : List ByteArray) (w : World) (h : zld  = some r) :
   Calls Tryz.prog 184 #[] w fun e w' => ∃ v0_ : Value, e = .returned (v0_) ∧ Kd.R Kd.string 9 w' w.heap.size (fun _ => True) v0_ r ∧ Below w.heap.size w w' := by
 have HB := zA (Below.refl w.heap.size w)
 have H := h
 unfold zld at H
 clear h
 obtain ⟨y101, hy101⟩ : ∃ y_ : List ByteArray, y_ = (([(⟨#[97, 100, 100]⟩ : ByteArray), (⟨#[115, 117, 98]⟩ : ByteArray), (⟨#[109, 117, 108]⟩ : ByteArray), (⟨#[97, 110, 100]⟩ : ByteArray), (⟨#[111, 114]⟩ : ByteArray), (⟨#[120, 111, 114]⟩ : ByteArray), (⟨#[115, 104, 108]⟩ : ByteArray), (⟨#[115, 104, 114]⟩ : ByteArray), (⟨#[108, 101, 115, 115]⟩ : ByteArray), (⟨#[101, 113]⟩ : ByteArray)] : List ByteArray)) := ⟨_, rfl⟩
 rw [← hy101] at H; try with_reducible replace H := zbs H
 have Ny101 := zA hy101
 clear hy101
 obtain rfl := zsi H
 go_enter Tryz.func184, Tryz.ntmps184
 go_wp2_with (first | ((with_reducible refine zgd 1 ?_); refine Kd.R_lit Kd.string _ 9 ?hg (N := 1) ?hd (xs := ([(⟨#[97, 100, 100]⟩ : ByteArray), (⟨#[115, 117, 98]⟩ : ByteArray), (⟨#[109, 117, 108]⟩ : ByteArray), (⟨#[97, 110, 100]⟩ : ByteArray), (⟨#[111, 114]⟩ : ByteArray), (⟨#[120, 111, 114]⟩ : ByteArray), (⟨#[115, 104, 108]⟩ : ByteArray), (⟨#[115, 104, 114]⟩ : ByteArray), (⟨#[108, 101, 115, 115]⟩ : ByteArray), (⟨#[101, 113]⟩ : ByteArray)] : List ByteArray)) (inner := [.string (⟨#[97, 100, 100]⟩ : ByteArray), .string (⟨#[115, 117, 98]⟩ : ByteArray), .string (⟨#[109, 117, 108]⟩ : ByteArray), .string (⟨#[97, 110, 100]⟩ : ByteArray), .string (⟨#[111, 114]⟩ : ByteArray), .string (⟨#[120, 111, 114]⟩ : ByteArray), .string (⟨#[115, 104, 108]⟩ : ByteArray), .string (⟨#[115, 104, 114]⟩ : ByteArray), .string (⟨#[108, 101, 115, 115]⟩ : ByteArray), .string (⟨#[101, 113]⟩ : ByteArray)]) (ok := fun _ => True) (okp := fun _ => True) ?hr ?hp (fun _ hk => hk) trivial (Below.refl _ _) (zlr _) (by simp) ?_; (case hd => rfl); (case hg => rfl); (case hr => go_simp <;> rfl); (case hp => exact (zan (show Kd.M Kd.string _ _ _ (⟨#[97, 100, 100]⟩ : ByteArray) [.string (⟨#[97, 100, 100]⟩ : ByteArray)] from rfl) (zan (show Kd.M Kd.string _ _ _ (⟨#[115, 117, 98]⟩ : ByteArray) [.string (⟨#[115, 117, 98]⟩ : ByteArray)] from rfl) (zan (show Kd.M Kd.string _ _ _ (⟨#[109, 117, 108]⟩ : ByteArray) [.string (⟨#[109, 117, 108]⟩ : ByteArray)] from rfl) (zan (show Kd.M Kd.string _ _ _ (⟨#[97, 110, 100]⟩ : ByteArray) [.string (⟨#[97, 110, 100]⟩ : ByteArray)] from rfl) (zan (show Kd.M Kd.string _ _ _ (⟨#[111, 114]⟩ : ByteArray) [.string (⟨#[111, 114]⟩ : ByteArray)] from rfl) (zan (show Kd.M Kd.string _ _ _ (⟨#[120, 111, 114]⟩ : ByteArray) [.string (⟨#[120, 111, 114]⟩ : ByteArray)] from rfl) (zan (show Kd.M Kd.string _ _ _ (⟨#[115, 104, 108]⟩ : ByteArray) [.string (⟨#[115, 104, 108]⟩ : ByteArray)] from rfl) (zan (show Kd.M Kd.string _ _ _ (⟨#[115, 104, 114]⟩ : ByteArray) [.string (⟨#[115, 104, 114]⟩ : ByteArray)] from rfl) (zan (show Kd.M Kd.string _ _ _ (⟨#[108, 101, 115, 115]⟩ : ByteArray) [.string (⟨#[108, 101, 115, 115]⟩ : ByteArray)] from rfl) (zan (show Kd.M Kd.string _ _ _ (⟨#[101, 113]⟩ : ByteArray) [.string (⟨#[101, 113]⟩ : ByteArray)] from rfl) (Reps.none _ _)))))))))))); intro v102 w1 ho2 hb hg_ hnew_; clear hg_ hnew_; (first | rw [← Ny101.out] at ho2 | (simp only [Int.reduceToNat] at ho2; rw [← Ny101.out] at ho2)); have HO103 := zA (Kd.R_lower ho2 (zag zq1)); replace HB := zA (zab zq1 hb); clear hb ho2))
 go_ret
 exact ⟨_, zq4, zq2 HO103, zq1⟩
def zdn : Nat → ByteArray → List ByteArray → Int → Int → Option (Bool)
 | 0, _, _, _, _ => none
 | k + 1, x1, x7, x8, x9 => if x9 < x8 then (if 0 ≤ x9 then (if x9 < (x7.length : Int) then (if (rdOf ByteArray.empty x7 x9).toList = x1.toList then (some true) else (zdn k x1 x7 x8 (wrap64 (x9 + 1)))) else (none)) else (none)) else (some false)
def zfk (k : Nat) (l0 : List ByteArray) (a1 : ByteArray) : Option (Bool) := zdn k a1 l0 (l0.length : Int) 0
theorem zle : ∀ k, (∀ y0 y1 y2 y3, LeO (zdn k y0 y1 y2 y3) (zdn (k + 1) y0 y1 y2 y3))
 | 0 => fun _ _ _ _ r h => by simp [zdn] at h
 | k + 1 => by
   have ih0 := zle k
   · intro y0 y1 y2 y3
     unfold zdn
     exact zm1 ih0
theorem zmt : ∀ a0 a1 k, LeO (zfk k a0 a1) (zfk (k + 1) a0 a1) := by
 intro a0 a1 k
 have ih0 := zle k
 unfold zfk
 exact zm1 ih0
theorem zl4 (k : Nat) (A0 : Option Addr) (c0 : Nat) (l0 : List ByteArray) (a1 : ByteArray) (r : Bool) (w : World) (hr0 : Kd.C Kd.string w A0 l0.length l0) (hc0 : l0.length ≤ c0) (h : zfk k l0 a1 = some r) :
   Calls Tryz.prog 99 #[.slice A0 l0.length c0, .string a1] w fun e w' => e = .returned (.bool r) ∧ Drawn0 w w' := by
 have HR0 := zA hr0
 have HC0 := zA hc0
 clear hr0 hc0
 have H := h
 unfold zfk at H
 clear h
 have H' := zA H
 clear H
 go_enter Tryz.func99, Tryz.ntmps99
 go_wp2
 go_loopg [9] k (fun kq v9 w' => ∃ (x9_1 : Int), v9 = .int .i64 x9_1 ∧ Aside0 (zdn kq a1 l0 (l0.length : Int) x9_1 = some r) ∧ Aside0 (kq ≤ k) ∧ Drawn0 w w')
 case atStart => exact ⟨(0), zq5, H', ⟨zlr _⟩, zq6⟩
 clear H'
 obtain ⟨x9_1, rfl, HA, HK1, ⟨m1, rfl⟩⟩ := hrel
 cases gk with
 | zero => exact absurd HA.out (by simp [zdn])
 | succ k1 =>
 have H := HA.out
 clear HA
 simp only [zdn] at H
 revert H
 refine zit (fun c3 H => ?_) fun c3 H => ?_
 rotate_left
 · obtain rfl := zsi H
   exact zr_6
 revert H
 refine zin fun c4 H => ?_
 revert H
 refine zin fun c5 H => ?_
 by_cases c6 : (rdOf ByteArray.empty l0 x9_1).toList = a1.toList
 · rw [if_pos c6] at H
   obtain ⟨c6b0, c6b1⟩ := zbe c6
   clear c6
   obtain rfl := zsi H
   obtain ⟨p101, q101⟩ := zpq x9_1 l0.length
   obtain ⟨ad101, e101, hx101_0⟩ := Kd.at_string HR0.out x9_1 (zoe p101) (zoe q101)
   cases e101
   exact zr_6
 rw [if_neg c6] at H
 obtain ⟨c6b0, c6b1⟩ := zbq c6
 have H' := zA H
 clear H
 obtain ⟨p101, q101⟩ := zpq x9_1 l0.length
 obtain ⟨ad101, e101, hx101_0⟩ := Kd.at_string HR0.out x9_1 (zoe p101) (zoe q101)
 cases e101
 go_wp2
 go_roundg k1
 case measure => have := HK1.out; omega
 case rel => exact ⟨(wrap64 (x9_1 + 1)), zq5, H', ⟨zq41 HK1⟩, zq6⟩
def zgm (k : Nat) (a0 : ByteArray) : Option (Bool) := (zld).bind fun t101 => ((zfk k t101 a0).bind fun t104 => (some t104))
theorem znn : ∀ a0 k, LeO (zgm k a0) (zgm (k + 1) a0) := by
 intro a0 k
 unfold zgm
 exact zm1 zmt
theorem zf7 (k : Nat) (a0 : ByteArray) (r : Bool) (w : World) (h : zgm k a0 = some r) :
   Calls Tryz.prog 154 #[.string a0] w fun e w' => e = .returned (.bool r) ∧ Below w.heap.size w w' := by
 have HB := zA (Below.refl w.heap.size w)
 have H := h
 unfold zgm at H
 clear h
 replace H := zob H
 obtain ⟨t101, A20, H⟩ := H
 have A2 := zA A20
 clear A20
 replace H := zob H
 obtain ⟨t104, A30, H⟩ := H
 have A3 := zA A30
 clear A30
 obtain rfl := zsi H
 go_enter Tryz.func154, Tryz.ntmps154
 go_wp2_with (first | ((with_reducible refine zgc 184 ?_); refine zcl 3 Tryz.func184 (zrh  t101 _ A2.out) ?_; rintro e w4 ⟨v102, rfl, ho0, hb⟩; refine ⟨_, rfl, ?_⟩; have HO103 := zA (Kd.R_lower ho0 (zag zq1)); replace HB := zA (zab zq1 hb); (try clear hb); (try clear ho0); obtain ⟨Ao5, co5, eo5⟩ := Kd.R_slice HO103.out; subst eo5) | ((with_reducible refine zgc 99 ?_); refine zca 5 Tryz.func99 #[.slice Ao5 t101.length co5, .string a0] (zl4 k _ _ t101 a0 t104 _ (zq19 HO103) (zq47 HO103) A3.out) ?_; rintro e w' ⟨rfl, ⟨nd, rfl⟩⟩; refine ⟨_, rfl, ?_⟩))
 exact zr_3
def zce (k : Nat) (a0_0 : ByteArray) (a0_1 : Int) (a0_2 : Int) (a0_3 : Int) : Option (List Int) := (zil a0_0).bind fun t102 => (if t102 = true then (some (([a0_1] : List Int))) else ((zgm k a0_0).bind fun t106 => (if t106 = true then (some (([a0_1, a0_2] : List Int))) else (some ([] : List Int)))))
theorem zb8 : ∀ a0 a1 a2 a3 k, LeO (zce k a0 a1 a2 a3) (zce (k + 1) a0 a1 a2 a3) := by
 intro a0 a1 a2 a3 k
 unfold zce
 exact zm1 znn
theorem zct (k : Nat) (a0_0 : ByteArray) (a0_1 : Int) (a0_2 : Int) (a0_3 : Int) (r : List Int) (w : World) (h : zce k a0_0 a0_1 a0_2 a0_3 = some r) :
   Calls Tryz.prog 155 #[.agg #[.string a0_0, .int .i64 a0_1, .int .i64 a0_2, .int .i64 a0_3]] w fun e w' => ∃ v0_ : Value, e = .returned (v0_) ∧ Kd.R (Kd.int .i64) 3 w' w.heap.size (fun _ => True) v0_ r ∧ Below w.heap.size w w' := by
 have hu62 := Tryz.underlying62
 have HB := zA (Below.refl w.heap.size w)
 have H := h
 unfold zce at H
 clear h
 replace H := zob H
 obtain ⟨t102, A20, H⟩ := H
 have A2 := zA A20
 clear A20
 by_cases c3 : t102 = true
 · subst c3
   replace H := zih H
   obtain ⟨y103, hy103⟩ : ∃ y_ : List Int, y_ = (([a0_1] : List Int)) := ⟨_, rfl⟩
   rw [← hy103] at H; try with_reducible replace H := zbs H
   have Ny103 := zA hy103
   clear hy103
   obtain rfl := zsi H
   go_enter Tryz.func155, Tryz.ntmps155
   go_wp2_with (first | ((with_reducible refine zgd 1 ?_); refine zbh zq1 #[.string a0_0, .int .i64 a0_1, .int .i64 a0_2, .int .i64 a0_3] 62 ?_; clear HB; intro gb101 w4 HB BK101 GW101; have GE101 := GW101; obtain ⟨hcz5_0, hcz5_1, hcz5_2, hcz5_3, hfz5_0, hfz5_1, hfz5_2, hfz5_3⟩ := zd4 BK101) | ((with_reducible refine zgc 153 ?_); refine zcl 6 Tryz.func153 (zdm a0_0 true _ A2.out) ?_; rintro e w' ⟨rfl, ⟨nd, rfl⟩⟩; refine ⟨_, rfl, ?_⟩) | ((with_reducible refine zgd 9 ?_); refine Kd.R_lit (Kd.int .i64) _ 3 ?hg (N := 9) ?hd (xs := ([a0_1] : List Int)) (inner := [.int .i64 a0_1]) (ok := fun _ => True) (okp := fun _ => True) ?hr ?hp (fun _ hk => hk) trivial (Below.refl _ _) (zlr _) (by simp) ?_; (case hd => rfl); (case hg => rfl); (case hr => go_simp <;> rfl); (case hp => exact (zan (show Kd.M (Kd.int .i64) _ _ _ a0_1 [.int .i64 a0_1] from rfl) (Reps.none _ _))); intro v104 w6 ho7 hb hg_ hnew_; clear hg_ hnew_; (first | rw [← Ny103.out] at ho7 | (simp only [Int.reduceToNat] at ho7; rw [← Ny103.out] at ho7)); have HO105 := zA (Kd.R_lower ho7 (zag (zq3 GE101))); replace BK101 := zbb BK101 hb; replace HB := zA (zab (zq3 GE101) hb); clear hb ho7))
   go_ret
   exact ⟨_, zq4, zq2 HO105, zq3 GE101⟩
 replace c3 := zbf c3
 subst c3
 replace H := zif H
 replace H := zob H
 obtain ⟨t106, A80, H⟩ := H
 have A8 := zA A80
 clear A80
 by_cases c9 : t106 = true
 rotate_left
 · replace c9 := zbf c9
   subst c9
   replace H := zif H
   obtain rfl := zsi H
   go_enter Tryz.func155, Tryz.ntmps155
   go_wp2_with (first | ((with_reducible refine zgd 1 ?_); refine zbh zq1 #[.string a0_0, .int .i64 a0_1, .int .i64 a0_2, .int .i64 a0_3] 62 ?_; clear HB; intro gb101 w16 HB BK101 GW101; have GE101 := GW101; obtain ⟨hcz17_0, hcz17_1, hcz17_2, hcz17_3, hfz17_0, hfz17_1, hfz17_2, hfz17_3⟩ := zd4 BK101) | ((with_reducible refine zgc 153 ?_); refine zcl 6 Tryz.func153 (zdm a0_0 false _ A2.out) ?_; rintro e w' ⟨rfl, ⟨nd, rfl⟩⟩; refine ⟨_, rfl, ?_⟩) | ((with_reducible refine zgc 154 ?_); refine zcl 13 Tryz.func154 (zf7 k a0_0 false _ A8.out) ?_; rintro e w18 ⟨rfl, hb⟩; refine ⟨_, rfl, ?_⟩; replace BK101 := zbb BK101 hb; replace HB := zA (zab (zq3 GE101) hb); (try clear hb)))
   go_ret
   exact ⟨_, zq4, zq38, zq3 GE101⟩
 subst c9
 replace H := zih H
 obtain ⟨y107, hy107⟩ : ∃ y_ : List Int, y_ = (([a0_1, a0_2] : List Int)) := ⟨_, rfl⟩
 rw [← hy107] at H; try with_reducible replace H := zbs H
 have Ny107 := zA hy107
 clear hy107
 obtain rfl := zsi H
 go_enter Tryz.func155, Tryz.ntmps155
 go_wp2_with (first | ((with_reducible refine zgd 1 ?_); refine zbh zq1 #[.string a0_0, .int .i64 a0_1, .int .i64 a0_2, .int .i64 a0_3] 62 ?_; clear HB; intro gb101 w10 HB BK101 GW101; have GE101 := GW101; obtain ⟨hcz11_0, hcz11_1, hcz11_2, hcz11_3, hfz11_0, hfz11_1, hfz11_2, hfz11_3⟩ := zd4 BK101) | ((with_reducible refine zgc 153 ?_); refine zcl 6 Tryz.func153 (zdm a0_0 false _ A2.out) ?_; rintro e w' ⟨rfl, ⟨nd, rfl⟩⟩; refine ⟨_, rfl, ?_⟩) | ((with_reducible refine zgc 154 ?_); refine zcl 13 Tryz.func154 (zf7 k a0_0 true _ A8.out) ?_; rintro e w12 ⟨rfl, hb⟩; refine ⟨_, rfl, ?_⟩; replace BK101 := zbb BK101 hb; replace HB := zA (zab (zq3 GE101) hb); (try clear hb); obtain ⟨hcz13_0, hcz13_1, hcz13_2, hcz13_3⟩ := zc4 w12 (.string a0_0) (.int .i64 a0_1) (.int .i64 a0_2) (.int .i64 a0_3) BK101.out; obtain ⟨hfz13_0, hfz13_1, hfz13_2, hfz13_3⟩ := zf4 BK101.out) | ((with_reducible refine zgd 18 ?_); refine Kd.R_lit (Kd.int .i64) _ 3 ?hg (N := 18) ?hd (xs := ([a0_1, a0_2] : List Int)) (inner := [.int .i64 a0_1, .int .i64 a0_2]) (ok := fun _ => True) (okp := fun _ => True) ?hr ?hp (fun _ hk => hk) trivial (Below.refl _ _) (zlr _) (by simp) ?_; (case hd => rfl); (case hg => rfl); (case hr => go_simp <;> rfl); (case hp => exact (zan (show Kd.M (Kd.int .i64) _ _ _ a0_1 [.int .i64 a0_1] from rfl) (zan (show Kd.M (Kd.int .i64) _ _ _ a0_2 [.int .i64 a0_2] from rfl) (Reps.none _ _)))); intro v108 w14 ho15 hb hg_ hnew_; clear hg_ hnew_; (first | rw [← Ny107.out] at ho15 | (simp only [Int.reduceToNat] at ho15; rw [← Ny107.out] at ho15)); have HO109 := zA (Kd.R_lower ho15 (zag (zq3 GE101))); replace BK101 := zbb BK101 hb; replace HB := zA (zab (zq3 GE101) hb); clear hb ho15))
 go_ret
 exact ⟨_, zq4, zq2 HO109, zq3 GE101⟩
def ze4 (k : Nat) (a0_0 : ByteArray) (a0_1 : Int) (a0_2 : Int) (a0_3 : Int) (l1 : List Int) : Option (ByteArray × Int × Int × Int) := (zce k a0_0 a0_1 a0_2 a0_3).bind fun ps =>
 if (0 < ps.length → 0 ≤ a0_1 ∧ a0_1 < (l1.length : Int)) ∧ (1 < ps.length → 0 ≤ a0_2 ∧ a0_2 < (l1.length : Int)) then some (a0_0, if 0 < ps.length then rd l1 a0_1 else 0, if 1 < ps.length then rd l1 a0_2 else 0, a0_3) else none
theorem zhz : ∀ a0 a1 a2 a3 a4 k, LeO (ze4 k a0 a1 a2 a3 a4) (ze4 (k + 1) a0 a1 a2 a3 a4) := by
 intro a0 a1 a2 a3 a4 k
 unfold ze4
 exact LeO.bind (zb8 _ _ _ _ _) (fun _ => LeO.refl _)
theorem zpf (k : Nat) (a0_0 : ByteArray) (a0_1 : Int) (a0_2 : Int) (a0_3 : Int) (A1 : Option Addr) (c1 : Nat) (l1 : List Int) (r1 : ByteArray) (r2 : Int) (r3 : Int) (r4 : Int) (w : World) (hr1 : Kd.C (Kd.int .i64) w A1 l1.length l1) (hc1 : l1.length ≤ c1) (h : ze4 k a0_0 a0_1 a0_2 a0_3 l1 = some (r1, r2, r3, r4)) :
   Calls Tryz.prog 190 #[.agg #[.string a0_0, .int .i64 a0_1, .int .i64 a0_2, .int .i64 a0_3], .slice A1 l1.length c1] w fun e w' => e = .returned (.agg #[.string r1, .int .i64 r2, .int .i64 r3, .int .i64 r4]) ∧ Below w.heap.size w w' := by
 unfold ze4 at h
 obtain ⟨ps, hps, h⟩ := Option.bind_eq_some_iff.1 h
 by_cases hc : (0 < ps.length → 0 ≤ a0_1 ∧ a0_1 < (l1.length : Int)) ∧ (1 < ps.length → 0 ≤ a0_2 ∧ a0_2 < (l1.length : Int))
 rotate_left
 · rw [if_neg hc] at h
   cases h
 rw [if_pos hc] at h
 have HH := zA (zsi h)
 have HPS := zA hps
 have HP := zA hc
 have HR := zA hr1
 clear h hps hc hr1
 go_enter Tryz.func190, Tryz.ntmps190
 go_upto_if 14 with (first
   | ((with_reducible refine zee (N := 2) rfl ?_); go_must (refine zg4 ?hg (N := 2) ?hd (cs := #[.string a0_0, .int .i64 a0_1, .int .i64 a0_2, .int .i64 a0_3]) (t := 62) ?hr ?_; (case hd => rfl); (case hg => rfl); (case hr => go_simp <;> rfl); intro g2 hg w4 hbox hb; have G2 := zA (Nat.le_of_eq hg.symm); have B2 := zA hbox; have HB := zA hb; clear hg hbox hb))
   | ((with_reducible refine zee (N := 4) rfl ?_); go_must (refine zg4 ?hg (N := 4) ?hd (cs := #[.string ⟨#[]⟩, .int .i64 0, .int .i64 0, .int .i64 0]) (t := 62) ?hr ?_; (case hd => rfl); (case hg => rfl); (case hr => go_simp <;> rfl); intro g4 hg w5 hbox hb; have G4 := zA (show g2 < g4 ∧ w.heap.size ≤ g4 from ⟨by have := zb2 B2.out; omega, by have := HB.out.size; omega⟩); have B4 := zA hbox; have n1 := zA (zah B2.out hb); have n2 := zA (zab HB.out hb); clear B2 HB; have B2 := n1; have HB := n2; have y0 := zad B2.out 0; have y3 := zad B2.out 3; clear n1 n2 hg hbox hb))
   | ((with_reducible refine zee (N := 5) rfl ?_); go_must (refine zg4 ?hg (N := 5) ?hd (cs := #[.string ⟨#[]⟩, .int .i64 0, .int .i64 0, .int .i64 0]) (t := 62) ?hr ?_; (case hd => rfl); (case hg => rfl); (case hr => go_simp <;> rfl); intro g5 hg w6 hbox hb; have G5 := zA (show g2 < g5 ∧ g4 < g5 ∧ w.heap.size ≤ g5 from ⟨by have := zb2 B2.out; omega, by have := zb2 B4.out; omega, by have := HB.out.size; omega⟩); have B5 := zA hbox; have n1 := zA (zah B2.out hb); have n2 := zA (zab HB.out hb); have n3 := zA (zah B4.out hb); clear B2 HB B4 y0 y3; have B2 := n1; have HB := n2; have B4 := n3; clear n1 n2 n3 hg hbox hb))
   | ((with_reducible refine zjc (t := 62) (p := 5) rfl ?_); go_must (refine zi5 rfl (t := 62) (p := 5) rfl rfl (g := g5) (u := .agg #[.string a0_0, .int .i64 0, .int .i64 0, .int .i64 a0_3]) (seg := [.string a0_0, .int .i64 0, .int .i64 0, .int .i64 a0_3]) rfl rfl B5.out rfl rfl rfl zq49 ?_; intro w7 hbb hbw hfar; have n1 := zA ((hfar g2 (zq41 G5)).trans B2.out); have n2 := zA (HB.out.trans (hbw _ G5.out.2.2)); have n3 := zA ((hfar g4 (zq41 G5)).trans B4.out); clear B2 HB B4 B5; have B2 := n1; have HB := n2; have B4 := n3; have B5 := zA hbb; have y0 := zad B2.out 0; have y1 := zad B2.out 1; have y2 := zad B2.out 2; have y3 := zad B2.out 3; clear n1 n2 n3 hbb hbw hfar))
   | (go_at_call 155; go_must (refine (zct k a0_0 a0_1 a0_2 a0_3 ps _ HPS.out).mono ?_; rintro e w8 ⟨v, rfl, ho, hb⟩; obtain ⟨A9, c9, rfl⟩ := Kd.R_slice ho; have n1 := zA (zah B2.out hb); have n2 := zA (zab HB.out hb); have n3 := zA (zah B4.out hb); have n4 := zA (zah B5.out hb); clear B2 HB B4 B5 y0 y1 y2 y3; have B2 := n1; have HB := n2; have B4 := n3; have B5 := n4; clear n1 n2 n3 n4 hb ho)))
 go_cut [] from 6 (fun wx => Aside0 (wx.heap[g2]? = some (.cells #[.string a0_0, .int .i64 a0_1, .int .i64 a0_2, .int .i64 a0_3] 62 (0, 0))) ∧ Aside0 (Below w.heap.size w wx) ∧ Aside0 (wx.heap[g4]? = some (.cells #[.string ⟨#[]⟩, .int .i64 0, .int .i64 0, .int .i64 0] 62 (0, 0))) ∧ Aside0 (wx.heap[g5]? = some (.cells #[.string a0_0, .int .i64 (if 0 < ps.length then rd l1 a0_1 else 0), .int .i64 0, .int .i64 a0_3] 62 (0, 0))))
 case first =>
   by_cases q : 0 < ps.length
   rotate_left
   · have d1 : decide (0 < ps.length) = false := zdf (by omega)
     have d2 : decide ((0 : Int) < ps.length) = false := zdf (by omega)
     first | rw [d1] | rw [d2]
     clear d1 d2
     have Q := zA q
     clear q
     go_wp2_with fail
     go_meet
     case rel => exact ⟨B2, HB, B4, ⟨by rw [if_neg Q.out]; exact B5.out⟩⟩
   have d1 : decide (0 < ps.length) = true := zdt (by omega)
   have d2 : decide ((0 : Int) < ps.length) = true := zdt (by omega)
   first | rw [d1] | rw [d2]
   clear d1 d2
   obtain ⟨p1, p2⟩ := HP.out.1 q
   have Q := zA q
   have HB5 := zA (zam B5.out 1 (.int .i64 (rd l1 a0_1)))
   obtain ⟨ad, eA, x0⟩ := Kd.at_int (zCb HR.out HB.out) a0_1 p1 p2
   subst eA
   have y1 := zad B2.out 1
   have y5 := zad B5.out 1
   have f5 := za1 B5.out 1
   clear q
   go_wp2_with fail
   go_meet
   refine ⟨⟨zaz B2.out (by have := G5.out; intro e; have : g2 = g5 := zq64; omega) _⟩, ⟨HB.out.setCell (p := ⟨g5, 1, none⟩) G5.out.2.2 _⟩, ⟨zaz B4.out (by have := G5.out; intro e; have : g4 = g5 := zq64; omega) _⟩, ⟨?_⟩⟩
   rw [if_pos Q.out]
   simpa using HB5.out
 case rest =>
 clear B2 HB B4 B5
 obtain ⟨B2, HB, B4, B5⟩ := hcut
 have y0 := zad B2.out 0
 have y1 := zad B2.out 1
 have y2 := zad B2.out 2
 have y3 := zad B2.out 3
 go_upto_if 24 with (go_at_call 155; go_must (refine (zct k a0_0 a0_1 a0_2 a0_3 ps _ HPS.out).mono ?_; rintro e w8 ⟨v, rfl, ho, hb⟩; obtain ⟨A9, c9, rfl⟩ := Kd.R_slice ho; have n1 := zA (zah B2.out hb); have n2 := zA (zab HB.out hb); have n3 := zA (zah B4.out hb); have n4 := zA (zah B5.out hb); clear B2 HB B4 B5 y0 y1 y2 y3; have B2 := n1; have HB := n2; have B4 := n3; have B5 := n4; clear n1 n2 n3 n4 hb ho))
 go_cut [] from 6 (fun wx => Aside0 (wx.heap[g2]? = some (.cells #[.string a0_0, .int .i64 a0_1, .int .i64 a0_2, .int .i64 a0_3] 62 (0, 0))) ∧ Aside0 (Below w.heap.size w wx) ∧ Aside0 (wx.heap[g4]? = some (.cells #[.string ⟨#[]⟩, .int .i64 0, .int .i64 0, .int .i64 0] 62 (0, 0))) ∧ Aside0 (wx.heap[g5]? = some (.cells #[.string a0_0, .int .i64 (if 0 < ps.length then rd l1 a0_1 else 0), .int .i64 (if 1 < ps.length then rd l1 a0_2 else 0), .int .i64 a0_3] 62 (0, 0))))
 case first =>
   by_cases q : 1 < ps.length
   rotate_left
   · have d1 : decide (1 < ps.length) = false := zdf (by omega)
     have d2 : decide ((1 : Int) < ps.length) = false := zdf (by omega)
     first | rw [d1] | rw [d2]
     clear d1 d2
     have Q := zA q
     clear q
     go_wp2_with fail
     go_meet
     case rel => exact ⟨B2, HB, B4, ⟨by rw [if_neg Q.out]; exact B5.out⟩⟩
   have d1 : decide (1 < ps.length) = true := zdt (by omega)
   have d2 : decide ((1 : Int) < ps.length) = true := zdt (by omega)
   first | rw [d1] | rw [d2]
   clear d1 d2
   obtain ⟨p1, p2⟩ := HP.out.2 q
   have Q := zA q
   have HB5 := zA (zam B5.out 2 (.int .i64 (rd l1 a0_2)))
   obtain ⟨ad, eA, x0⟩ := Kd.at_int (zCb HR.out HB.out) a0_2 p1 p2
   subst eA
   have y1 := zad B2.out 2
   have y5 := zad B5.out 2
   have f5 := za1 B5.out 2
   clear q
   go_wp2_with fail
   go_meet
   refine ⟨⟨zaz B2.out (by have := G5.out; intro e; have : g2 = g5 := zq64; omega) _⟩, ⟨HB.out.setCell (p := ⟨g5, 2, none⟩) G5.out.2.2 _⟩, ⟨zaz B4.out (by have := G5.out; intro e; have : g4 = g5 := zq64; omega) _⟩, ⟨?_⟩⟩
   rw [if_pos Q.out]
   simpa using HB5.out
 case rest =>
 clear B2 HB B4 B5
 obtain ⟨B2, HB, B4, B5⟩ := hcut
 obtain ⟨z1, hz1⟩ : ∃ z, z = (if 0 < ps.length then rd l1 a0_1 else 0) := ⟨_, rfl⟩
 obtain ⟨z2, hz2⟩ : ∃ z, z = (if 1 < ps.length then rd l1 a0_2 else 0) := ⟨_, rfl⟩
 rw [← hz1, ← hz2] at B5
 have HZ1 := zA hz1
 have HZ2 := zA hz2
 clear hz1 hz2
 have y0 := zad B5.out 0
 have y1 := zad B5.out 1
 have y2 := zad B5.out 2
 have y3 := zad B5.out 3
 go_wp2_with ((with_reducible refine zjc (t := 62) (p := 4) rfl ?_); go_must (refine zi5 rfl (t := 62) (p := 4) rfl rfl (g := g4) (u := .agg #[.string a0_0, .int .i64 z1, .int .i64 z2, .int .i64 a0_3]) (seg := [.string a0_0, .int .i64 z1, .int .i64 z2, .int .i64 a0_3]) rfl rfl B4.out rfl rfl rfl zq49 ?_; intro w9 hbb hbw hfar; have n2 := zA (HB.out.trans (hbw _ G4.out.2)); have B6 := zA hbb; clear HB y0 y1 y2 y3 hbb hbw hfar; have HB := n2; clear n2))
 refine bodyPost_ret (results_cell_row rfl _ _ g4 62 #[.string a0_0, .int .i64 z1, .int .i64 z2, .int .i64 a0_3] (0, 0) _ rfl B6.out Tryz.underlying62 rfl zq28) rfl ?_
 obtain ⟨rfl, h2⟩ := Prod.mk.inj HH.out
 obtain ⟨rfl, h3⟩ := Prod.mk.inj h2
 obtain ⟨rfl, rfl⟩ := Prod.mk.inj h3
 exact ⟨by rw [← HZ1.out, ← HZ2.out], HB.out⟩
mutual
def zcu : Nat → List (S62) → Int → List Bool → Int → Option ((List (S62)))
 | 0, _, _, _, _ => none
 | k + 1, x0, x1, x5, x6 => if x6 ≥ 0 then (if 0 ≤ x6 then (if x6 < (x0.length : Int) then ((zce k ((zac x0 x6).f0) ((zac x0 x6).f1) ((zac x0 x6).f2) ((zac x0 x6).f3)).bind fun t106 => (zcf k x0 x1 x5 x6 t106 (t106.length : Int) 0)) else (none)) else (none)) else (if 0 ≤ (wrap64 (x1 + 1)) then (if (wrap64 (x1 + 1) : Int).toNat ≤ 35184372088832 then (zbv k x0 x1 x5 (List.replicate (wrap64 (x1 + 1) : Int).toNat 0) ([] : List (S62)) 0) else (none)) else (none))
def zcf : Nat → List (S62) → Int → List Bool → Int → List Int → Int → Int → Option ((List (S62)))
 | 0, _, _, _, _, _, _, _ => none
 | k + 1, x0, x1, x5, x6, x27, x28, x29 => if x29 < x28 then (if 0 ≤ x29 then (if x29 < (x27.length : Int) then (if 0 ≤ (rd x27 x29) then (if (rd x27 x29) < (x5.length : Int) then (if rdOf false x5 (rd x27 x29) = true then (zcf k x0 x1 (x5.set ((rd x27 x29) : Int).toNat true) x6 x27 x28 (wrap64 (x29 + 1))) else (if 0 ≤ x6 then (if x6 < (x5.length : Int) then (zcf k x0 x1 (x5.set ((rd x27 x29) : Int).toNat (rdOf false x5 x6)) x6 x27 x28 (wrap64 (x29 + 1))) else (none)) else (none))) else (none)) else (none)) else (none)) else (none)) else (zcu k x0 x1 x5 (wrap64 (x6 - 1)))
def zbv : Nat → List (S62) → Int → List Bool → List Int → List (S62) → Int → Option ((List (S62)))
 | 0, _, _, _, _, _, _ => none
 | k + 1, x0, x1, x5, x9, x10, x11 => if x11 ≤ x1 then (if 0 ≤ x11 then (if x11 < (x5.length : Int) then (if rdOf false x5 x11 = true then (if x11 < (x9.length : Int) then ((some (x9.set (x11 : Int).toNat (x10.length : Int) : List Int)).bind fun y118 => (if x11 < (x0.length : Int) then ((ze4 k ((zac x0 x11).f0) ((zac x0 x11).f1) ((zac x0 x11).f2) ((zac x0 x11).f3) y118).bind fun bt120 => (if x10.length < 3518437208883 then (zbv k x0 x1 x5 y118 (x10 ++ [(⟨bt120.1, bt120.2.1, bt120.2.2.1, bt120.2.2.2⟩ : S62)]) (wrap64 (x11 + 1))) else (none))) else (none))) else (none)) else (zbv k x0 x1 x5 x9 x10 (wrap64 (x11 + 1)))) else (none)) else (none)) else (some x10)
end
def zfl (k : Nat) (l0 : List (S62)) (a1 : Int) : Option ((List (S62))) := if 0 ≤ (wrap64 (a1 + 1)) then (if (wrap64 (a1 + 1) : Int).toNat ≤ 281474976710656 then ((some (List.replicate (wrap64 (a1 + 1) : Int).toNat false : List Bool)).bind fun y101 => (if 0 ≤ a1 then (if a1 < (y101.length : Int) then (zcu k l0 a1 (y101.set (a1 : Int).toNat true) a1) else (none)) else (none))) else (none)) else (none)
theorem zlf : ∀ k, (∀ y0 y1 y2 y3, LeO (zcu k y0 y1 y2 y3) (zcu (k + 1) y0 y1 y2 y3)) ∧ (∀ y0 y1 y2 y3 y4 y5 y6, LeO (zcf k y0 y1 y2 y3 y4 y5 y6) (zcf (k + 1) y0 y1 y2 y3 y4 y5 y6)) ∧ (∀ y0 y1 y2 y3 y4 y5, LeO (zbv k y0 y1 y2 y3 y4 y5) (zbv (k + 1) y0 y1 y2 y3 y4 y5))
 | 0 => ⟨fun _ _ _ _ r h => by simp [zcu] at h, fun _ _ _ _ _ _ _ r h => by simp [zcf] at h, fun _ _ _ _ _ _ r h => by simp [zbv] at h⟩
 | k + 1 => by
   obtain ⟨ih0, ih1, ih2⟩ := zlf k
   refine ⟨?_, ?_, ?_⟩
   · intro y0 y1 y2 y3
     unfold zcu
     exact zm5 ih0 ih1 ih2 zhz zb8
   · intro y0 y1 y2 y3 y4 y5 y6
     unfold zcf
     exact zm5 ih0 ih1 ih2 zhz zb8
   · intro y0 y1 y2 y3 y4 y5
     unfold zbv
     exact zm5 ih0 ih1 ih2 zhz zb8
theorem zmu : ∀ a0 a1 k, LeO (zfl k a0 a1) (zfl (k + 1) a0 a1) := by
 intro a0 a1 k
 obtain ⟨ih0, ih1, ih2⟩ := zlf k
 unfold zfl
 exact zm5 ih0 ih1 ih2 zhz zb8
theorem zl5 (k : Nat) (A0 : Option Addr) (c0 : Nat) (l0 : List (S62)) (a1 : Int) (r : List (S62)) (w : World) (hr0 : Kd.C k62 w A0 l0.length l0) (hc0 : l0.length ≤ c0) (h : zfl k l0 a1 = some r) :
   Calls Tryz.prog 171 #[.slice A0 l0.length c0, .int .i64 a1] w fun e w' => ∃ v0_ : Value, e = .returned (v0_) ∧ Kd.R k62 62 w' w.heap.size (fun _ => True) v0_ r ∧ Below w.heap.size w w' := by
 have hu62 := Tryz.underlying62
 have HR0 := zA hr0
 have HC0 := zA hc0
 clear hr0 hc0
 have HB := zA (Below.refl w.heap.size w)
 have H := h
 unfold zfl at H
 clear h
 obtain ⟨ji3, hji3⟩ : ∃ j_ : Int, (wrap64 (a1 + 1)) = j_ := ⟨_, rfl⟩
 replace H : (if 0 ≤ (ji3) then (if (ji3 : Int).toNat ≤ 281474976710656 then ((some (List.replicate (ji3 : Int).toNat false : List Bool)).bind fun y101 => (if 0 ≤ a1 then (if a1 < (y101.length : Int) then (zcu k l0 a1 (y101.set (a1 : Int).toNat true) a1) else (none)) else (none))) else (none)) else (none)) = some r := by first | (rw [hji3] at H; exact H) | (simp only [hji3] at H ⊢; exact H)
 have hji3w : (IntKind.i64.wrap (a1 + 1)) = ji3 := (zgy _).trans hji3
 by_cases c4 : 0 ≤ (ji3)
 rotate_left
 · rw [if_neg c4] at H
   exact absurd H (by simp)
 rw [if_pos c4] at H
 have c4b0 := eq_true c4
 have c4b1 := zdt c4
 clear c4
 by_cases c5 : (ji3 : Int).toNat ≤ 281474976710656
 rotate_left
 · rw [if_neg c5] at H
   exact absurd H (by simp)
 rw [if_pos c5] at H
 have c5b0 := eq_true c5
 have c5b1 := zdt c5
 clear c5
 obtain ⟨y101, hy101⟩ : ∃ y_ : List Bool, y_ = (List.replicate (ji3 : Int).toNat false) := ⟨_, rfl⟩
 rw [← hy101] at H; try with_reducible replace H := zbs H
 have Ny101 := zA hy101
 clear hy101
 revert H
 refine zin fun c6 H => ?_
 revert H
 refine zin fun c7 H => ?_
 obtain ⟨y104, hy104⟩ : ∃ y_ : List Bool, y_ = (y101.set (a1 : Int).toNat true) := ⟨_, rfl⟩
 rw [← hy104] at H; try with_reducible replace H := zbs H
 have Ny104 := zA hy104
 clear hy104
 have H' := zA H
 clear H
 go_enter Tryz.func171, Tryz.ntmps171
 go_wp2_with (first | ((with_reducible refine zgd 14 ?_); refine Kd.R_make Kd.bool _ 4 rfl (N := 14) rfl 166 _ _ rfl ji3 rfl rfl Tryz.underlying166 (.bool false) 1 ycq rfl (by decide) (by omega) false (ok := fun _ => True) (okp := fun _ => True) rfl (fun _ hk => hk) trivial (zde zq21) (Nat.le_trans (Nat.mul_le_mul_right _ (zde zq21 : ji3.toNat ≤ 281474976710656)) (by omega)) (Below.refl _ _) (zlr _) ?_; intro v102 w9 ho10 hb hg_ hnew_; clear hg_ hnew_; (first | rw [← Ny101.out] at ho10 | (simp only [Int.reduceToNat] at ho10; rw [← Ny101.out] at ho10)); have HO103 := zA (Kd.R_lower ho10 (zag zq1)); replace HB := zA (zab zq1 hb); clear hb ho10; have p8 : 0 ≤ (a1 : Int) := zde zq21; have q8 : (a1 : Int) < ((y101.length : Int) : Int) := zde zq21; obtain ⟨go8, co8, eo8, gb8, gl8, cl8, HG8⟩ := Kd.R_form HO103.out (by omega); (first | cases eo8 | (injection eo8 with ea_ en_ ec_; (first | subst ea_ | (injection ea_ with ea_; subst ea_)); subst ec_; clear en_)); have GB8 := zA gb8; have GG8 := zA HG8; clear gb8 gl8 HG8; obtain ⟨hx8_0, hf8_0⟩ := Kd.R_celln false HO103.out (a1 : Int) p8 q8; replace p8 := eq_true p8; replace q8 := eq_true q8; obtain ⟨hy11_, hz11_⟩ := Kd.R_celln false HO103.out (a1 : Int) (zde zq21) (zde zq21); have HP11 := Kd.R_putg HO103.out (a1 : Int) true) | ((with_reducible refine zgs 4 17 ?_); refine zse (w9.setCell ⟨go8, (a1 : Int).toNat, none⟩ (.bool true)) ?_; intro w12 hw; have hg : w9.grownBy w12 (some go8) := (by rw [hw]; exact HP11.2); have hp_ : Kd.R Kd.bool 4 w12 w.heap.size (fun _ => True) (.slice (some ⟨go8, 0, none⟩) y101.length co8) y104 := (by rw [hw, Ny104.out]; exact HP11.1); clear HP11; replace HO103 := zA (hp_); replace HB := zA ((zq39 GB8 : Below w.heap.size w w12)); clear hg hw hp_))
 go_loopg [6] k (fun kq v6 w' => ∃ (x5_1 : List Bool) (x6_1 : Int), v6 = .int .i64 x6_1 ∧ Aside0 (zcu kq l0 a1 x5_1 x6_1 = some r) ∧ Aside0 (kq ≤ k) ∧ Aside0 (Kd.R Kd.bool 4 w' w.heap.size (fun _ => True) (.slice (some ⟨go8, 0, none⟩) y101.length co8) x5_1) ∧ Aside0 (Below w.heap.size w w'))
 case atStart => exact ⟨(y104), (a1), zq5, H', ⟨zlr _⟩, ⟨zq2 HO103⟩, ⟨zq1⟩⟩
 clear H'
 obtain ⟨x5_1, x6_1, rfl, HA, HK1, HO_5, HB⟩ := hrel
 have hl5_1 := (zRr HO_5.out).1
 rw [hl5_1] at HO_5
 (try simp only [hl5_1])
 cases gk with
 | zero => exact absurd HA.out (by simp [zcu])
 | succ k1 =>
 have H := HA.out
 clear HA
 simp only [zcu] at H
 revert H
 refine zit (fun c13b0 H => ?_) fun c13b0 H => ?_
 · revert H
   refine zin fun c14 H => ?_
   revert H
   refine zin fun c15 H => ?_
   replace H := zob H
   obtain ⟨t106, A160, H⟩ := H
   have A16 := zA A160
   clear A160
   have H' := zA H
   clear H
   obtain ⟨p105, q105⟩ := zpq x6_1 l0.length
   obtain ⟨ad105, e105, hx105_0, hx105_1, hx105_2, hx105_3⟩ := zdu HR0.out x6_1 (zoe p105) (zoe q105)
   cases e105
   replace hx105_0 := zkep HB.out hx105_0
   replace hx105_1 := zkep HB.out hx105_1
   replace hx105_2 := zkep HB.out hx105_2
   replace hx105_3 := zkep HB.out hx105_3
   go_wp2_with (first | ((with_reducible refine zgc 155 ?_); refine zcl 27 Tryz.func155 (zct k1 ((zac l0 x6_1).f0) ((zac l0 x6_1).f1) ((zac l0 x6_1).f2) ((zac l0 x6_1).f3) t106 _ A16.out) ?_; rintro e w17 ⟨v107, rfl, ho0, hb⟩; refine ⟨_, rfl, ?_⟩; replace HO_5 := zA (zRb (zq2 HO_5) hb); have HO108 := zA (Kd.R_lower ho0 (zag zq1)); replace HB := zA (zab zq1 hb); (try clear hb); (try clear ho0); obtain ⟨Ao18, co18, eo18⟩ := Kd.R_slice HO108.out; subst eo18))
   go_loopg [29] k1 (fun kq v29 w' => ∃ (x5_2 : List Bool) (x29_2 : Int), v29 = .int .i64 x29_2 ∧ Aside0 (zcf kq l0 a1 x5_2 x6_1 t106 (t106.length : Int) x29_2 = some r) ∧ Aside0 (kq ≤ k1) ∧ Aside0 (Kd.R Kd.bool 4 w' w.heap.size (fun _ => True) (.slice (some ⟨go8, 0, none⟩) x5_1.length co8) x5_2) ∧ Aside0 (Kd.R (Kd.int .i64) 3 w' w.heap.size (fun _ => True) (.slice Ao18 t106.length co18) t106) ∧ Aside0 (Below w.heap.size w w'))
   case atStart => exact ⟨(x5_1), (0), zq5, H', ⟨zlr _⟩, ⟨zq22 HO_5⟩, ⟨zq22 HO108⟩, ⟨zq1⟩⟩
   clear H'
   obtain ⟨x5_2, x29_2, rfl, HA, HK2, HO_5, HO_27, HB⟩ := hrel
   have hl5_2 := (zRr HO_5.out).1
   rw [hl5_2] at HO_5
   (try simp only [hl5_2])
   (try simp only [hl5_2] at HO_27)
   cases gk with
   | zero => exact absurd HA.out (by simp [zcf])
   | succ k2 =>
   have H := HA.out
   clear HA
   simp only [zcf] at H
   revert H
   refine zit (fun c19 H => ?_) fun c19 H => ?_
   rotate_left
   · have H' := zA H
     clear H
     go_wp2
     (try simp only [← hl5_1, ← hl5_2])
     go_roundg k2
     case measure => have := HK1.out; have := HK2.out; omega
     case rel => exact ⟨(x5_2), (wrap64 (x6_1 - 1)), zq5, H', ⟨zq42 HK1 HK2⟩, ⟨zq27 HO_5⟩, ⟨zq1⟩⟩
   revert H
   refine zin fun c20 H => ?_
   revert H
   refine zin fun c21 H => ?_
   revert H
   refine zin fun c22 H => ?_
   revert H
   refine zin fun c23 H => ?_
   obtain ⟨bq24, hbq24⟩ : ∃ b_ : Bool, b_ = (rdOf false x5_2 (rd t106 x29_2)) := ⟨_, rfl⟩
   replace H : (if bq24 = true then (zcf k2 l0 a1 (x5_2.set ((rd t106 x29_2) : Int).toNat true) x6_1 t106 (t106.length : Int) (wrap64 (x29_2 + 1))) else (if 0 ≤ x6_1 then (if x6_1 < (x5_2.length : Int) then (zcf k2 l0 a1 (x5_2.set ((rd t106 x29_2) : Int).toNat (rdOf false x5_2 x6_1)) x6_1 t106 (t106.length : Int) (wrap64 (x29_2 + 1))) else (none)) else (none))) = some r := by rw [← hbq24] at H; exact H
   have Nbq24 := zA hbq24
   clear hbq24
   by_cases c25 : bq24 = true
   · subst c25
     replace H := zih H
     obtain ⟨y111, hy111⟩ : ∃ y_ : List Bool, y_ = (x5_2.set ((rd t106 x29_2) : Int).toNat true) := ⟨_, rfl⟩
     rw [← hy111] at H; try with_reducible replace H := zbs H
     have Ny111 := zA hy111
     clear hy111
     have H' := zA H
     clear H
     obtain ⟨p109, q109⟩ := zpq x29_2 t106.length
     obtain ⟨ad109, e109, hx109_0⟩ := Kd.at_int (zRr HO_27.out).2.2 x29_2 (zoe p109) (zoe q109)
     cases e109
     have p110 : 0 ≤ ((rd t106 x29_2) : Int) := zde zq21
     have q110 : (rd t106 x29_2) < (x5_2.length : Int) := zde zq21
     obtain ⟨ad110, e110, hx110_0⟩ := Kd.at_bool (zRr HO_5.out).2.2 (rd t106 x29_2) p110 q110
     (try rw [← Nbq24.out] at hx110_0)
     obtain rfl : (⟨go8, 0, none⟩ : Addr) = ad110 := (by injection e110)
     (first | simp only [zcg] at hx110_0 | simp only [zok] at hx110_0 | simp only [Addr.add, Nat.zero_add] at hx110_0 | skip)
     replace p110 := eq_true p110
     replace q110 := eq_true q110
     have p26 : 0 ≤ ((rd t106 x29_2) : Int) := zde zq21
     have q26 : ((rd t106 x29_2) : Int) < ((x5_2.length : Int) : Int) := zde zq21
     obtain ⟨hx26_0, hf26_0⟩ := Kd.R_celln false HO_5.out ((rd t106 x29_2) : Int) p26 q26
     replace p26 := eq_true p26
     replace q26 := eq_true q26
     have HP27 := Kd.R_putg HO_5.out ((rd t106 x29_2) : Int) true
     go_wp2_with (first | ((with_reducible refine zgs 4 45 ?_); refine zse (wr.setCell ⟨go8, ((rd t106 x29_2) : Int).toNat, none⟩ (.bool true)) ?_; intro w28 hw; have hg : wr.grownBy w28 (some go8) := (by rw [hw]; exact HP27.2); have hp_ : Kd.R Kd.bool 4 w28 w.heap.size (fun _ => True) (.slice (some ⟨go8, 0, none⟩) x5_2.length co8) y111 := (by rw [hw, Ny111.out]; exact HP27.1); clear HP27; replace HO_27 := zA (Kd.R_over' (v := (.slice (some ⟨go8, 0, none⟩) x5_2.length co8)) (zq2 HO_27) (Kd.R_typed HO_5.out) (by decide) hg); replace HO_5 := zA (hp_); replace HB := zA ((zq39 GB8 : Below w.heap.size w w28)); clear hg hw hp_))
     (try simp only [← hl5_2])
     go_roundg k2
     case measure => have := HK1.out; have := HK2.out; omega
     case rel => exact ⟨(y111), (wrap64 (x29_2 + 1)), zq5, H', ⟨zq42 HK1 HK2⟩, ⟨zq27 HO_5⟩, ⟨zq27 HO_27⟩, ⟨zq1⟩⟩
   replace c25 := zbf c25
   subst c25
   replace H := zif H
   revert H
   refine zin fun c29 H => ?_
   revert H
   refine zin fun c30 H => ?_
   obtain ⟨y113, hy113⟩ : ∃ y_ : List Bool, y_ = (x5_2.set ((rd t106 x29_2) : Int).toNat (rdOf false x5_2 x6_1)) := ⟨_, rfl⟩
   rw [← hy113] at H; try with_reducible replace H := zbs H
   have Ny113 := zA hy113
   clear hy113
   have H' := zA H
   clear H
   obtain ⟨p109, q109⟩ := zpq x29_2 t106.length
   obtain ⟨ad109, e109, hx109_0⟩ := Kd.at_int (zRr HO_27.out).2.2 x29_2 (zoe p109) (zoe q109)
   cases e109
   have p110 : 0 ≤ ((rd t106 x29_2) : Int) := zde zq21
   have q110 : (rd t106 x29_2) < (x5_2.length : Int) := zde zq21
   obtain ⟨ad110, e110, hx110_0⟩ := Kd.at_bool (zRr HO_5.out).2.2 (rd t106 x29_2) p110 q110
   (try rw [← Nbq24.out] at hx110_0)
   obtain rfl : (⟨go8, 0, none⟩ : Addr) = ad110 := (by injection e110)
   (first | simp only [zcg] at hx110_0 | simp only [zok] at hx110_0 | simp only [Addr.add, Nat.zero_add] at hx110_0 | skip)
   replace p110 := eq_true p110
   replace q110 := eq_true q110
   obtain ⟨p112, q112⟩ := zpq x6_1 x5_2.length
   obtain ⟨ad112, e112, hx112_0⟩ := Kd.at_bool (zRr HO_5.out).2.2 x6_1 (zoe p112) (zoe q112)
   (try rw [← Nbq24.out] at hx112_0)
   obtain rfl : (⟨go8, 0, none⟩ : Addr) = ad112 := (by injection e112)
   (first | simp only [zcg] at hx112_0 | simp only [zok] at hx112_0 | simp only [Addr.add, Nat.zero_add] at hx112_0 | skip)
   have p31 : 0 ≤ ((rd t106 x29_2) : Int) := zde zq21
   have q31 : ((rd t106 x29_2) : Int) < ((x5_2.length : Int) : Int) := zde zq21
   obtain ⟨hx31_0, hf31_0⟩ := Kd.R_celln false HO_5.out ((rd t106 x29_2) : Int) p31 q31
   replace p31 := eq_true p31
   replace q31 := eq_true q31
   have HP32 := Kd.R_putg HO_5.out ((rd t106 x29_2) : Int) (rdOf false x5_2 x6_1)
   go_wp2_with (first | ((with_reducible refine zgs 4 45 ?_); refine zse (wr.setCell ⟨go8, ((rd t106 x29_2) : Int).toNat, none⟩ (.bool (rdOf false x5_2 x6_1))) ?_; intro w33 hw; have hg : wr.grownBy w33 (some go8) := (by rw [hw]; exact HP32.2); have hp_ : Kd.R Kd.bool 4 w33 w.heap.size (fun _ => True) (.slice (some ⟨go8, 0, none⟩) x5_2.length co8) y113 := (by rw [hw, Ny113.out]; exact HP32.1); clear HP32; replace HO_27 := zA (Kd.R_over' (v := (.slice (some ⟨go8, 0, none⟩) x5_2.length co8)) (zq2 HO_27) (Kd.R_typed HO_5.out) (by decide) hg); replace HO_5 := zA (hp_); replace HB := zA ((zq39 GB8 : Below w.heap.size w w33)); clear hg hw hp_))
   (try simp only [← hl5_2])
   go_roundg k2
   case measure => have := HK1.out; have := HK2.out; omega
   case rel => exact ⟨(y113), (wrap64 (x29_2 + 1)), zq5, H', ⟨zq42 HK1 HK2⟩, ⟨zq27 HO_5⟩, ⟨zq27 HO_27⟩, ⟨zq1⟩⟩
 obtain ⟨ji34, hji34⟩ : ∃ j_ : Int, (wrap64 (a1 + 1)) = j_ := ⟨_, rfl⟩
 replace H : (if 0 ≤ (ji34) then (if (ji34 : Int).toNat ≤ 35184372088832 then (zbv k1 l0 a1 x5_1 (List.replicate (ji34 : Int).toNat 0) ([] : List (S62)) 0) else (none)) else (none)) = some r := by first | (rw [hji34] at H; exact H) | (simp only [hji34] at H ⊢; exact H)
 have hji34w : (IntKind.i64.wrap (a1 + 1)) = ji34 := (zgy _).trans hji34
 try (obtain rfl : ji34 = ji3 := hji34.symm.trans hji3)
 by_cases c35 : 0 ≤ (ji34)
 rotate_left
 · rw [if_neg c35] at H
   exact absurd H (by simp)
 rw [if_pos c35] at H
 have c35b0 := eq_true c35
 have c35b1 := zdt c35
 clear c35
 by_cases c36 : (ji34 : Int).toNat ≤ 35184372088832
 rotate_left
 · rw [if_neg c36] at H
   exact absurd H (by simp)
 rw [if_pos c36] at H
 have c36b0 := eq_true c36
 have c36b1 := zdt c36
 clear c36
 obtain ⟨y114, hy114⟩ : ∃ y_ : List Int, y_ = (List.replicate (ji34 : Int).toNat 0) := ⟨_, rfl⟩
 rw [← hy114] at H; try with_reducible replace H := zbs H
 have Ny114 := zA hy114
 clear hy114
 have H' := zA H
 clear H
 go_wp2_with (first | ((with_reducible refine zgd 49 ?_); refine Kd.R_make (Kd.int .i64) _ 3 rfl (N := 49) rfl 24 _ _ rfl ji34 rfl rfl Tryz.underlying24 (.int .i64 0) 8 zn1 rfl (by decide) (by omega) 0 (ok := fun _ => True) (okp := fun _ => True) rfl (fun _ hk => hk) trivial (zde zq21) (Nat.le_trans (Nat.mul_le_mul_right _ (zde zq21 : ji34.toNat ≤ 35184372088832)) (by omega)) (Below.refl _ _) (zlr _) ?_; intro v115 w37 ho38 hb hg_ hnew_; clear hg_ hnew_; (first | rw [← Ny114.out] at ho38 | (simp only [Int.reduceToNat] at ho38; rw [← Ny114.out] at ho38)); replace HO_5 := zA (zRb (zq2 HO_5) hb); have HO116 := zA (Kd.R_lower ho38 (zag zq1)); replace HB := zA (zab zq1 hb); clear hb ho38))
 go_loopg [10, 11] k1 (fun kq v10 v11 w' => ∃ (x9_2 : List Int) (x10_2 : List (S62)) (x11_2 : Int), v11 = .int .i64 x11_2 ∧ Aside0 (zbv kq l0 a1 x5_1 x9_2 x10_2 x11_2 = some r) ∧ Aside0 (kq ≤ k1) ∧ Aside0 (Kd.R Kd.bool 4 w' w.heap.size (fun _ => True) (.slice (some ⟨go8, 0, none⟩) x5_1.length co8) x5_1) ∧ Aside0 (Kd.R (Kd.int .i64) 3 w' w.heap.size (fun _ => True) v115 x9_2) ∧ Aside0 (Kd.R k62 62 w' w.heap.size (fun _ => True) v10 x10_2) ∧ Aside0 (Below w.heap.size w w'))
 case atStart => exact ⟨(y114), (([] : List (S62))), (0), zq5, H', ⟨zlr _⟩, ⟨zq22 HO_5⟩, ⟨zq22 HO116⟩, ⟨by (try simp only [hl5_1]); first | exact Kd.R_nil _ _ _ _ _ | exact Kd.N_nil _ _ _ _ _ | exact Kd.V_nil _ _ _ _ _ | exact Kd.Q_nil _ _ _ _ _ | exact Kd.S_nil _ _ _ _ _⟩, ⟨zq1⟩⟩
 clear H'
 obtain ⟨x9_2, x10_2, x11_2, rfl, HA, HK2, HO_5, HO_9, HO_10, HB⟩ := hrel
 cases gk with
 | zero => exact absurd HA.out (by simp [zbv])
 | succ k2 =>
 have H := HA.out
 clear HA
 simp only [zbv] at H
 revert H
 refine zit (fun c39 H => ?_) fun c39 H => ?_
 rotate_left
 · obtain rfl := zsi H
   go_wp2
   go_ret
   exact ⟨_, by first | rfl | (simp [zhl, zhm] <;> rfl) | (simp only [← hji3, ← hji34]; first | rfl | (simp [zhl, zhm] <;> rfl)) | (simp [*, zhl, zhm] <;> rfl), zq2 HO_10, zq1⟩
 revert H
 refine zin fun c40 H => ?_
 revert H
 refine zin fun c41 H => ?_
 obtain ⟨bq42, hbq42⟩ : ∃ b_ : Bool, b_ = (rdOf false x5_1 x11_2) := ⟨_, rfl⟩
 replace H : (if bq42 = true then (if x11_2 < (x9_2.length : Int) then ((some (x9_2.set (x11_2 : Int).toNat (x10_2.length : Int) : List Int)).bind fun y118 => (if x11_2 < (l0.length : Int) then ((ze4 k2 ((zac l0 x11_2).f0) ((zac l0 x11_2).f1) ((zac l0 x11_2).f2) ((zac l0 x11_2).f3) y118).bind fun bt120 => (if x10_2.length < 3518437208883 then (zbv k2 l0 a1 x5_1 y118 (x10_2 ++ [(⟨bt120.1, bt120.2.1, bt120.2.2.1, bt120.2.2.2⟩ : S62)]) (wrap64 (x11_2 + 1))) else (none))) else (none))) else (none)) else (zbv k2 l0 a1 x5_1 x9_2 x10_2 (wrap64 (x11_2 + 1)))) = some r := by rw [← hbq42] at H; exact H
 have Nbq42 := zA hbq42
 clear hbq42
 by_cases c43 : bq42 = true
 rotate_left
 · replace c43 := zbf c43
   subst c43
   replace H := zif H
   have H' := zA H
   clear H
   obtain ⟨p117, q117⟩ := zpq x11_2 x5_1.length
   obtain ⟨ad117, e117, hx117_0⟩ := Kd.at_bool (zRr HO_5.out).2.2 x11_2 (zoe p117) (zoe q117)
   (try rw [← Nbq42.out] at hx117_0)
   obtain rfl : (⟨go8, 0, none⟩ : Addr) = ad117 := (by injection e117)
   (first | simp only [zcg] at hx117_0 | simp only [zok] at hx117_0 | simp only [Addr.add, Nat.zero_add] at hx117_0 | skip)
   go_wp2
   go_roundg k2
   case measure => have := HK1.out; have := HK2.out; omega
   case rel => exact ⟨(x9_2), (x10_2), (wrap64 (x11_2 + 1)), zq5, H', ⟨zq42 HK1 HK2⟩, ⟨zq22 HO_5⟩, ⟨zq22 HO_9⟩, ⟨zq22 HO_10⟩, ⟨zq1⟩⟩
 subst c43
 replace H := zih H
 revert H
 refine zin fun c44 H => ?_
 obtain ⟨y118, hy118⟩ : ∃ y_ : List Int, y_ = (x9_2.set (x11_2 : Int).toNat (x10_2.length : Int)) := ⟨_, rfl⟩
 rw [← hy118] at H; try with_reducible replace H := zbs H
 have Ny118 := zA hy118
 clear hy118
 revert H
 refine zin fun c46 H => ?_
 replace H := zob H
 obtain ⟨⟨t120, t121, t122, t123⟩, A470, H⟩ := H
 have A47 := zA A470
 clear A470
 by_cases c48 : x10_2.length < 3518437208883
 rotate_left
 · rw [if_neg c48] at H
   exact absurd H (by simp)
 rw [if_pos c48] at H
 have LMc48 := zA c48
 clear c48
 obtain ⟨y124, hy124⟩ : ∃ y_ : List (S62), y_ = (x10_2 ++ [(⟨t120, t121, t122, t123⟩ : S62)]) := ⟨_, rfl⟩
 rw [← hy124] at H; try with_reducible replace H := zbs H
 have Ny124 := zA hy124
 clear hy124
 have H' := zA H
 clear H
 obtain ⟨p117, q117⟩ := zpq x11_2 x5_1.length
 obtain ⟨ad117, e117, hx117_0⟩ := Kd.at_bool (zRr HO_5.out).2.2 x11_2 (zoe p117) (zoe q117)
 (try rw [← Nbq42.out] at hx117_0)
 obtain rfl : (⟨go8, 0, none⟩ : Addr) = ad117 := (by injection e117)
 (first | simp only [zcg] at hx117_0 | simp only [zok] at hx117_0 | simp only [Addr.add, Nat.zero_add] at hx117_0 | skip)
 obtain ⟨Ao49, co49, eo49⟩ := Kd.R_slice HO_10.out
 subst eo49
 have p45 : 0 ≤ (x11_2 : Int) := zde zq21
 have q45 : (x11_2 : Int) < ((x9_2.length : Int) : Int) := zde zq21
 obtain ⟨go45, co45, eo45, gb45, gl45, cl45, HG45⟩ := Kd.R_form HO_9.out (by omega)
 (first | cases eo45 | (injection eo45 with ea_ en_ ec_; (first | subst ea_ | (injection ea_ with ea_; subst ea_)); subst ec_; clear en_))
 have GB45 := zA gb45
 have GG45 := zA HG45
 clear gb45 gl45 HG45
 obtain ⟨hx45_0, hf45_0⟩ := Kd.R_celln 0 HO_9.out (x11_2 : Int) p45 q45
 replace p45 := eq_true p45
 replace q45 := eq_true q45
 have HP50 := Kd.R_putg HO_9.out (x11_2 : Int) (x10_2.length : Int)
 go_wp2_with (first | ((with_reducible refine zgs 3 63 ?_); refine zse (wr.setCell ⟨go45, (x11_2 : Int).toNat, none⟩ (.int .i64 (x10_2.length : Int))) ?_; intro w51 hw; have hg : wr.grownBy w51 (some go45) := (by rw [hw]; exact HP50.2); have hp_ : Kd.R (Kd.int .i64) 3 w51 w.heap.size (fun _ => True) (.slice (some ⟨go45, 0, none⟩) x9_2.length co45) y118 := (by rw [hw, Ny118.out]; exact HP50.1); clear HP50; replace HO_5 := zA (Kd.R_over' (v := (.slice (some ⟨go45, 0, none⟩) x9_2.length co45)) (zq2 HO_5) (Kd.R_typed HO_9.out) (by decide) hg); replace HO_10 := zA (Kd.R_over' (v := (.slice (some ⟨go45, 0, none⟩) x9_2.length co45)) (zq2 HO_10) (Kd.R_typed HO_9.out) (by decide) hg); replace HO_9 := zA (hp_); replace HB := zA ((zq39 GB45 : Below w.heap.size w w51)); clear hg hw hp_; have p119 : 0 ≤ (x11_2 : Int) := zde zq21; have q119 : x11_2 < (l0.length : Int) := zde zq21; obtain ⟨ad119, e119, hx119_0, hx119_1, hx119_2, hx119_3⟩ := zdu HR0.out x11_2 p119 q119; cases e119; replace hx119_0 := zkep HB.out hx119_0; replace hx119_1 := zkep HB.out hx119_1; replace hx119_2 := zkep HB.out hx119_2; replace hx119_3 := zkep HB.out hx119_3; replace p119 := eq_true p119; replace q119 := eq_true q119) | ((with_reducible refine zsk (f := 190) rfl ?_); refine zxc (some 70) rfl rfl Tryz.func190 zq28 rfl #[.agg #[.string ((zac l0 x11_2).f0), .int .i64 ((zac l0 x11_2).f1), .int .i64 ((zac l0 x11_2).f2), .int .i64 ((zac l0 x11_2).f3)], .slice (some ⟨go45, 0, none⟩) y118.length co45] rfl (by (try simp only [List.map_toArray, List.map_cons, List.map_nil]); first | done | (rw [show y118.length = x9_2.length from (zRr HO_9.out).1.symm] <;> rfl) | rfl | (simp only [List.length_drop, List.length_take]; rfl)) ?_; (with_reducible refine (zpf k2 ((zac l0 x11_2).f0) ((zac l0 x11_2).f1) ((zac l0 x11_2).f2) ((zac l0 x11_2).f3) _ _ y118 t120 t121 t122 t123 _ ?side1 ?side2 A47.out).mono ?_); (case side1 => repeat (first | exact (zRr HO_9.out).2.2 | (with_reducible first | refine zCa ?_ _ | refine zCn ?_ _ | refine zCd ?_))); (case side2 => rw [show y118.length = x9_2.length from (zRr HO_9.out).1.symm]; exact (zRr HO_9.out).2.1); rintro e w52 ⟨rfl, hb⟩; refine ⟨_, rfl, ?_⟩; replace HO_5 := zA (zRb (zq2 HO_5) hb); replace HO_9 := zA (zRb (zq2 HO_9) hb); replace HO_10 := zA (zRb (zq2 HO_10) hb); replace HB := zA (zab zq1 hb); (try clear hb)) | ((with_reducible refine zfe (b := .append) (xs := #[.tmp 64, .tmp 71]) rfl ?_); at_builtin; refine Kd.R_append k62 (w0 := w) w.heap.size rfl (.tmp 64) (.tmp 71) 32 62 (.agg #[(.string ⟨#[]⟩), (.int .i64 0), (.int .i64 0), (.int .i64 0)]) 40 rfl Tryz.underlying32 zq0 rfl (by decide) (by omega) (.slice Ao49 x10_2.length co49) x10_2 (⟨t120, t121, t122, t123⟩ : S62) [.string t120, .int .i64 t121, .int .i64 t122, .int .i64 t123] (fun _ => True) (fun _ => False) rfl rfl ?aP (fun _ hk => hk.elim) ?aF ?aO ?aB ?aS ?aL ?_; (case aP => exact zhd _ _ _ (⟨t120, t121, t122, t123⟩ : S62)); (case aB => exact zq1); (case aF => exact (fun _ _ => trivial)); (case aO => exact (zq2 HO_10)); (case aS => exact (zag zq1)); (case aL => have := LMc48.out; omega); intro v125 w53 ho hb hg hat; rw [← Ny124.out] at ho; replace HO_5 := zA (Kd.R_over' (zq2 HO_5) (Kd.R_typed (zq2 HO_10)) (by decide) hg); replace HO_9 := zA (Kd.R_over' (zq2 HO_9) (Kd.R_typed (zq2 HO_10)) (by decide) hg); replace HB := zA (hb); have HO126 := zA (ho); clear HO_10; clear ho hb hg hat))
 go_roundg k2
 case measure => have := HK1.out; have := HK2.out; omega
 case rel => exact ⟨(y118), (y124), (wrap64 (x11_2 + 1)), zq5, H', ⟨zq42 HK1 HK2⟩, ⟨zq22 HO_5⟩, ⟨zq22 HO_9⟩, ⟨zq22 HO126⟩, ⟨zq1⟩⟩
end Go.Proofs.YtnaafcleafbejaaGreat.Q
end
