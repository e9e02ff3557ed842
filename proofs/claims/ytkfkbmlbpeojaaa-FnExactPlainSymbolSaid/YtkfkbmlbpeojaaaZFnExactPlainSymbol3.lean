/- Proved here: contracts of functions that the law FnExactPlainSymbol reaches, and lemmas on what they compute; texts of this session and the printed words of the kit that they lean on, cut down and put together by its program link.py. Conditions: as each states. -/
import Derived.Deep.CutRange
import Derived.Deep.DeepMust
import Derived.Laws.EntriesVeiled
import Derived.Test.YtkfkbmlbpeojaaaZFnExactPlainSymbol1
import Derived.Test.YtkfkbmlbpeojaaaZFnExactPlainSymbol2
section
namespace Go.Proofs.Ytkfkbmlbpeojaaa.Q
open Go.RowKit Go.Proofs.YtkfkbmlbpeojaaaW.PrintWords Go.Proofs.YtkfkbmlbpeojaaaW.PrintLast Go.Proofs.YtkfkbmlbpeojaaaW.PrintMore
attribute [local go_sem] zcs zct zdo zdp zb2 zb3 zcu zcv
set_option linter.unusedVariables false
set_option linter.unusedSimpArgs false
structure SyX (w0 : World) (gb r cr m : Nat) (s : List S72 × List Int) (vo : Value) (W : World) : Prop where
 below : Below w0.heap.size w0 W
 bb : W.heap[gb]? = some (.cells #[vo] 24 (0, 0))
 lo : w0.heap.size ≤ gb
 out : Kd.R k72 72 W w0.heap.size (fun k => k ≠ gb ∧ k ≠ r) vo s.1
 rne : r ≠ gb
 nam : Kd.R (Kd.int .i64) 3 W w0.heap.size (fun k => k = r) (.slice (some ⟨r, 0, none⟩) m cr) s.2
section
variable {w0 : World} {gb r cr m : Nat} {s : List S72 × List Int} {vo v : Value} {W W1 : World}
theorem SyX.step (h : SyX w0 gb r cr m s vo W) (hb : Below W.heap.size W W1) : SyX w0 gb r cr m s vo W1 :=
 ⟨zad h.below hb, zaf h.bb hb, h.lo, zRb h.out hb, h.rne, zRb h.nam hb⟩
theorem SyX.setn (h : SyX w0 gb r cr m s vo W) (i x : Int) : SyX w0 gb r cr m (s.1, s.2.set i.toNat x) vo (W.setCell ⟨r, i.toNat, none⟩ (.int .i64 x)) :=
 ⟨h.below.setCell (p := ⟨r, i.toNat, none⟩) (Kd.R_base h.nam r rfl) _, za0 h.bb (fun e => h.rne zq46) _, h.lo, Kd.R_far h.out (p := ⟨r, i.toNat, none⟩) (fun k hk => hk.2) _, h.rne, Kd.R_putn h.nam i x⟩
theorem SyX.append (h : SyX w0 gb r cr m s vo W) {vo' : Value} {ys : List S72} (hR : Kd.R k72 72 W1 w0.heap.size (fun k => k ≠ gb ∧ k ≠ r) vo' ys) (hb : Below w0.heap.size w0 W1) (hg : W.grownBy W1 vo.ownBlock) : SyX w0 gb r cr m (ys, s.2) vo' (W1.setCell ⟨gb, 0, none⟩ vo') := by
 have bb : W1.heap[gb]? = _ := (hg.block gb (zb9 h.bb) (fun e => (h.out.1 gb e.symm).1 rfl)).trans h.bb
 exact ⟨hb.setCell (p := ⟨gb, 0, none⟩) h.lo _, by simpa using zan bb 0 vo', h.lo, Kd.R_far hR (p := ⟨gb, 0, none⟩) (fun k hk => hk.1) _, h.rne, Kd.R_far (Kd.R_grown h.nam hg (fun k hk e => (h.out.1 k e.symm).2 hk)) (p := ⟨gb, 0, none⟩) (fun k hk => by rw [hk]; exact h.rne) _⟩
end
set_option maxHeartbeats 4000000 in
set_option maxRecDepth 100000 in
theorem zlm {w0 : World} {gb r cr m : Nat} (s : List S72 × List Int) (vo : Value) (W : World) (hX : SyX w0 gb r cr m s vo W) (n0 : ByteArray) (n1 n2 n3 : Int) (hl : s.1.length < 1048576) :
   Calls Try.prog 115 #[.agg #[.string n0, .int .i64 n1, .int .i64 n2, .int .i64 n3], .pointer (some ⟨gb, 0, none⟩)] W fun x W' => ∃ vo', x = .returned (.int .i64 s.1.length) ∧ SyX w0 gb r cr m (s.1 ++ [(⟨n0, n1, n2, n3⟩ : S72)], s.2) vo' W' ∧ ShFr gb r vo W vo' W' := by
 obtain ⟨Ao, co, rfl⟩ := Kd.R_slice hX.out
 have q0 := zac hX.bb 0
 have HX := zA hX
 clear hX
 go_enter Try.func115, Try.ntmps115
 go_wp2_with (first
   | ((with_reducible refine zek (N := 2) rfl ?_); refine zfl ?hg (N := 2) ?hd (cs := #[.string n0, .int .i64 n1, .int .i64 n2, .int .i64 n3]) (t := 72) ?hr ?_; (case hd => rfl); (case hg => rfl); (case hr => go_simp <;> rfl); intro g hg w4 hbox hb; have HX4 := zA (HX.out.step hb); have HG := zA hbox; have HGE := zA (Nat.le_of_eq hg.symm); have HB4 := zA hb; have q0 := zac HX4.out.bb 0; have y0 := zac hbox 0; have y1 := zac hbox 1; have y2 := zac hbox 2; have y3 := zac hbox 3; clear hg hbox hb)
   | ((with_reducible refine zfb (b := .append) (xs := #[.tmp 4, .tmp 6]) rfl ?_); at_builtin; refine Kd.R_append k72 (w0 := w0) w0.heap.size rfl (.tmp 4) (.tmp 6) 24 72 (.agg #[(.string ⟨#[]⟩), (.int .i64 0), (.int .i64 0), (.int .i64 0)]) 40 rfl Try.underlying24 znq rfl (by decide) (by omega) (.slice Ao s.1.length co) s.1 (⟨n0, n1, n2, n3⟩ : S72) [.string n0, .int .i64 n1, .int .i64 n2, .int .i64 n3] (fun k => k ≠ gb ∧ k ≠ r) (fun _ => False) rfl ?aX (ze2 _ _ _ (⟨n0, n1, n2, n3⟩ : S72)) (fun _ hk => hk.elim) ?aF ?aO ?aB ?aS ?aL ?_; (case aX => rfl); (case aO => exact HX4.out.out); (case aB => exact HX4.out.below); (case aS => exact HX4.out.below.size); (case aF => (have a1 := zb9 HX4.out.bb; have a2 := Kd.R_lt HX4.out.nam r rfl; exact fun k hk => ⟨by omega, by omega⟩)); (case aL => omega); intro v1 w10 ho hb hg hat; obtain ⟨A1, c1', e1⟩ := Kd.R_slice ho; rw [List.length_append, List.length_singleton] at e1; subst e1; have t1 : w10.heap[gb]? = _ := (hg.block gb (zb9 HX4.out.bb) (fun e => (HX4.out.out.1 gb e.symm).1 rfl)).trans HX4.out.bb; have HX5 := zA (HX4.out.append ho hb hg); have HF5 := zA (((ShFr.refl gb r (.slice Ao s.1.length co) W).step HB4.out).append hg hat); have t2 := zac t1 0; have t3 := zbq t1 0; have t4 := zac HX5.out.bb 0; clear t1 ho hb hg hat))
 go_ret
 exact ⟨_, rfl, HX5.out, HF5.out⟩
theorem SyX.grow {w0 : World} {gb r cr m : Nat} {s : List S72 × List Int} {vo : Value} {W W1 : World} (h : SyX w0 gb r cr m s vo W) {v1 : Value} {ys : List Int} (hR : Kd.R (Kd.int .i64) 3 W1 w0.heap.size (fun k => k = r ∨ W.heap.size ≤ k) v1 ys) (hn : 0 < ys.length) (hb : Below w0.heap.size w0 W1) (hg : W.grownBy W1 (some r)) :
   ∃ r' cr', v1 = .slice (some ⟨r', 0, none⟩) ys.length cr' ∧ SyX w0 gb r' cr' ys.length (s.1, ys) vo W1 := by
 obtain ⟨r', cr', e, _⟩ := Kd.R_form hR hn
 have hr : r' = r ∨ W.heap.size ≤ r' := hR.1 r' (by rw [e]; rfl)
 have hbl := zb9 h.bb
 have hne := h.rne
 refine ⟨r', cr', e, hb, (hg.block gb hbl (fun e => hne zq46)).trans h.bb, h.lo, ?_, by omega, ?_⟩
 · refine Kd.R_mono (Kd.R_step (Kd.R_bound h.out) (fun k hk hl => hg.block k hl (fun e => hk.1.2 zq50))) (fun k hk => ⟨hk.1.1, ?_⟩)
   have := hk.1.2
   have := hk.2.2.1
   omega
 · rw [← e]
   exact Kd.R_of_own (Kd.own_of_R hR) (fun k hk => by rw [e] at hk; simpa [Value.ownBlock] using hk.symm)
theorem ShFr.box {gb r : Nat} {vo vo' : Value} {W W' : World} (h : ShFr gb r vo W vo' W') {g : Nat} {o : Obj} (hb : W.heap[g]? = some o) (h1 : g ≠ r) (h2 : g ≠ gb) (h3 : some g ≠ vo.ownBlock) : W'.heap[g]? = some o ∧ some g ≠ vo'.ownBlock := by
 refine ⟨(h.keep g (zb9 hb) h1 h2 h3).trans hb, fun e => ?_⟩
 rcases h.own g e.symm with q | q
 · exact h3 q.symm
 · have := zb9 hb
   omega
structure SyV (w0 : World) (gb r cr gx gf : Nat) (x : S94) (q1 q2 : Bool) (q3 q4 q5 : Int) (q6 : ByteArray) (s : List S72 × List Int) (vo : Value) (W : World) : Prop where
 sx : SyX w0 gb r cr 6 s vo W
 bx : W.heap[gx]? = some (.cells #[.string x.f0, .int .i64 x.f1, .int .i64 x.f2, .int .i64 x.f3, .int .i64 x.f4] 94 (0, 0))
 bf : W.heap[gf]? = some (.cells #[.bool q1, .bool q2, .int .i64 q3, .int .i64 q4, .int .i64 q5, .string q6] 130 (0, 0))
 nx : some gx ≠ vo.ownBlock
 nf : some gf ≠ vo.ownBlock
def SyA (w0 : World) (gb r cr gx gf : Nat) (x : S94) (q1 q2 : Bool) (q3 q4 q5 : Int) (q6 : ByteArray) (s : List S72 × List Int) (W : World) : Prop := ∃ vo, SyV w0 gb r cr gx gf x q1 q2 q3 q4 q5 q6 s vo W
section
variable {w0 : World} {gb r cr gx gf : Nat} {x : S94} {q1 q2 : Bool} {q3 q4 q5 : Int} {q6 : ByteArray} {s : List S72 × List Int} {W W1 : World}
theorem SyA.bx (h : SyA w0 gb r cr gx gf x q1 q2 q3 q4 q5 q6 s W) : W.heap[gx]? = some (.cells #[.string x.f0, .int .i64 x.f1, .int .i64 x.f2, .int .i64 x.f3, .int .i64 x.f4] 94 (0, 0)) := h.choose_spec.bx
theorem SyA.bf (h : SyA w0 gb r cr gx gf x q1 q2 q3 q4 q5 q6 s W) : W.heap[gf]? = some (.cells #[.bool q1, .bool q2, .int .i64 q3, .int .i64 q4, .int .i64 q5, .string q6] 130 (0, 0)) := h.choose_spec.bf
theorem SyA.nam (h : SyA w0 gb r cr gx gf x q1 q2 q3 q4 q5 q6 s W) : Kd.R (Kd.int .i64) 3 W w0.heap.size (fun k => k = r) (.slice (some ⟨r, 0, none⟩) 6 cr) s.2 := h.choose_spec.sx.nam
theorem SyA.step (h : SyA w0 gb r cr gx gf x q1 q2 q3 q4 q5 q6 s W) (hb : Below W.heap.size W W1) : SyA w0 gb r cr gx gf x q1 q2 q3 q4 q5 q6 s W1 := by
 obtain ⟨vo, h⟩ := h
 exact ⟨vo, h.sx.step hb, zaf h.bx hb, zaf h.bf hb, h.nx, h.nf⟩
theorem zoo (h : SyA w0 gb r cr gx gf x q1 q2 q3 q4 q5 q6 s W) (h1 : gb < gx) (h2 : r < gx) (h3 : gb < gf) (h4 : r < gf) (n0 : ByteArray) (n1 n2 n3 : Int) (hl : s.1.length < 1048576) :
   Calls Try.prog 115 #[.agg #[.string n0, .int .i64 n1, .int .i64 n2, .int .i64 n3], .pointer (some ⟨gb, 0, none⟩)] W fun e W' => e = .returned (.int .i64 s.1.length) ∧ SyA w0 gb r cr gx gf x q1 q2 q3 q4 q5 q6 (s.1 ++ [(⟨n0, n1, n2, n3⟩ : S72)], s.2) W' := by
 obtain ⟨vo, h⟩ := h
 refine (zlm s vo W h.sx n0 n1 n2 n3 hl).mono ?_
 rintro e W' ⟨vo', rfl, hX, hF⟩
 obtain ⟨b1, b2⟩ := hF.box h.bx (by omega) (by omega) h.nx
 obtain ⟨b3, b4⟩ := hF.box h.bf (by omega) (by omega) h.nf
 exact ⟨rfl, vo', hX, b1, b3, b2, b4⟩
end
def syIni : List S72 := [⟨⟨#[105, 110]⟩, 0, 0, 0⟩, ⟨⟨#[105, 110]⟩, 0, 0, 1⟩]
def syU (u : Nat) : List S72 × List Int := (syIni ++ List.replicate (u - 2) ⟨⟨#[99, 111, 110, 115, 116]⟩, 0, 0, 0⟩, (List.range u).map fun (j : Nat) => (j : Int))
theorem zv5 (u : Nat) (h : 2 ≤ u) : ((syU u).1 ++ [(⟨⟨#[99, 111, 110, 115, 116]⟩, 0, 0, 0⟩ : S72)], (syU u).2 ++ [((syU u).1.length : Int)]) = syU (u + 1) := by
 unfold syU
 have e : u + 1 - 2 = (u - 2) + 1 := by omega
 have l : (syIni ++ List.replicate (u - 2) (⟨⟨#[99, 111, 110, 115, 116]⟩, 0, 0, 0⟩ : S72)).length = u := by simp [syIni]; omega
 simp only [l, List.append_assoc]
 rw [e, List.replicate_succ', List.range_succ, List.map_append]
 rfl
theorem zp3 (u : Nat) (h : 2 ≤ u) : (syU u).1.length = u ∧ (syU u).2.length = u := by
 unfold syU
 simp [syIni]
 omega
def syDo (x : S94) (t : Bool × Bool × Int × Int × Int × ByteArray × Bool) (s : List S72 × List Int) : List S72 × List Int :=
 let n1 := if t.2.2.1 ≤ t.2.2.2.1 then s.1 ++ [(⟨⟨#[99, 111, 110, 115, 116]⟩, 0, 0, x.f4⟩ : S72)] else s.1
 let c : Int := if t.2.2.1 ≤ t.2.2.2.1 then s.1.length else -1
 if x.f0.toList = ([115, 101, 116] : List UInt8) then (n1, s.2.set x.f1.toNat c)
 else if x.f0.toList = ([109, 111, 118] : List UInt8) then (n1, s.2.set x.f1.toNat (rd s.2 x.f2))
 else if x.f0.toList = ([108, 101, 97] : List UInt8) then (n1 ++ [(⟨⟨#[115, 104, 108]⟩, rd s.2 x.f3, c, 0⟩ : S72)] ++ [(⟨⟨#[97, 100, 100]⟩, rd s.2 x.f2, n1.length, 0⟩ : S72)], s.2.set x.f1.toNat ((n1 ++ [(⟨⟨#[115, 104, 108]⟩, rd s.2 x.f3, c, 0⟩ : S72)]).length : Int))
 else if t.2.2.1 ≤ t.2.2.2.1 then (n1 ++ [(⟨t.2.2.2.2.2.1, rd s.2 x.f2, c, 0⟩ : S72)], s.2.set x.f1.toNat n1.length)
 else if t.2.1 = true then (n1 ++ [(⟨t.2.2.2.2.2.1, rd s.2 x.f2, rd s.2 x.f3, 0⟩ : S72)], s.2.set x.f1.toNat n1.length)
 else (n1 ++ [(⟨t.2.2.2.2.2.1, rd s.2 x.f2, 0, 0⟩ : S72)], s.2.set x.f1.toNat n1.length)
def syOk (x : S94) (s : List S72 × List Int) : Prop := (0 ≤ x.f1 ∧ x.f1 < 6) ∧ (0 ≤ x.f2 ∧ x.f2 < 6) ∧ (0 ≤ x.f3 ∧ x.f3 < 6) ∧ s.1.length < 1000000 ∧ s.2.length = 6
instance (x : S94) (s : List S72 × List Int) : Decidable (syOk x s) := by unfold syOk; infer_instance
def syL : List S94 → List S72 × List Int → Option (List S72 × List Int)
 | [], s => some s
 | x :: xs, s => if syOk x s then (zgz x.f0).bind fun t => syL xs (syDo x t s) else none
def zdq (k : Nat) (l0 : List S94) (a1 : Int) : Option (List S72 × Bool) := if l0.length < 1048576 ∧ 0 ≤ a1 ∧ a1 < 6 then (syL l0 (syU 6)).bind fun s => if s.2.length = 6 then (zf7 k s.1 (rd s.2 a1)).bind fun e => (zes k e).bind fun o => (zfn k o).bind fun b => some (o, b) else none else none
set_option maxHeartbeats 4000000 in
set_option maxRecDepth 100000 in
theorem zjk (k : Nat) (A0 : Option Addr) (c0 : Nat) (l0 : List S94) (a1 : Int) (r1 : List S72) (r2 : Bool) (w : World) (hr0 : Kd.C k94 w A0 l0.length l0) (hc0 : l0.length ≤ c0) (h : zdq k l0 a1 = some (r1, r2)) :
   Calls Try.prog 70 #[.slice A0 l0.length c0, .int .i64 a1] w fun e w' => ∃ v0_ : Value, e = .returned (.tuple #[v0_, .bool r2]) ∧ Kd.R k72 72 w' w.heap.size (fun _ => True) v0_ r1 ∧ Below w.heap.size w w' := by
 unfold zdq at h
 by_cases hl : l0.length < 1048576 ∧ 0 ≤ a1 ∧ a1 < 6
 rotate_left
 · rw [if_neg hl] at h
   cases h
 rw [if_pos hl] at h
 obtain ⟨hl1, hl2, hl3⟩ := hl
 obtain ⟨sE, hsE, h⟩ := Option.bind_eq_some_iff.1 h
 by_cases hsl : sE.2.length = 6
 rotate_left
 · rw [if_neg hsl] at h
   cases h
 rw [if_pos hsl] at h
 obtain ⟨e1, he1, h⟩ := Option.bind_eq_some_iff.1 h
 obtain ⟨o1, ho1, h⟩ := Option.bind_eq_some_iff.1 h
 obtain ⟨b1, hb1, h⟩ := Option.bind_eq_some_iff.1 h
 have HH := zA (zsi h)
 have HSE := zA hsE
 have HSL := zA hsl
 have HE1 := zA he1
 have HO1 := zA ho1
 have HB1 := zA hb1
 have HR := zA hr0
 have HC := zA hc0
 clear h hsE hsl he1 ho1 hb1 hr0 hc0
 go_enter Try.func70, Try.ntmps70
 go_wp2_with (first
   | ((with_reducible refine zek (N := 17) rfl ?_); refine Kd.R_lit k72 w.heap.size 72 ?hg (N := 17) ?hd (w0 := w) (xs := syIni) (inner := [.string ⟨#[105, 110]⟩, .int .i64 0, .int .i64 0, .int .i64 0, .string ⟨#[105, 110]⟩, .int .i64 0, .int .i64 0, .int .i64 1]) (ok := fun _ => True) (okp := fun _ => True) ?hr ?hp (fun _ hk => hk) trivial (Below.refl _ _) (zlr _) (by simp [syIni]) ?_; (case hd => rfl); (case hg => rfl); (case hr => go_simp <;> rfl); (case hp => exact (zo0 (ze2 _ _ _ (⟨⟨#[105, 110]⟩, 0, 0, 0⟩ : S72)) (zo0 (ze2 _ _ _ (⟨⟨#[105, 110]⟩, 0, 0, 1⟩ : S72)) (Reps.none _ _)))); intro vn w3 hn hb hg_ hnew; obtain ⟨An, cn, rfl⟩ := Kd.R_slice hn; have HVN := zA hn; have HB3 := zA hb; clear hn hb hg_ hnew)
   | ((with_reducible refine zek (N := 18) rfl ?_); refine Kd.R_lit (Kd.int .i64) w.heap.size 3 ?hg (N := 18) ?hd (w0 := w) (xs := [0, 1]) (inner := [.int .i64 0, .int .i64 1]) (ok := fun k => w3.heap.size ≤ k) (okp := fun _ => False) ?hr ?hp (fun _ hk => hk.elim) (zlr _) HB3.out HB3.out.size (by simp) ?_; (case hd => rfl); (case hg => rfl); (case hr => go_simp <;> rfl); (case hp => exact (zau (show Kd.M (Kd.int .i64) _ _ _ (0 : Int) [.int .i64 0] from rfl) (zau (show Kd.M (Kd.int .i64) _ _ _ (1 : Int) [.int .i64 1] from rfl) (Reps.none _ _)))); intro va w4 ha hb hg_ hnew; obtain ⟨ra, ca, ea, ha0, ha1, _⟩ := Kd.R_form ha (by decide); subst ea; have HRA := zA (ha.1 ra rfl); have HVN4 := zA (Kd.R_mono (Kd.R_grown (Kd.R_bound HVN.out) hg_ (fun _ _ e => by cases e)) (fun k hk => (show k < w3.heap.size from hk.2.2.1))); have HVA := zA (show Kd.R (Kd.int .i64) 3 w4 w.heap.size (fun k => k = ra) (.slice (some ⟨ra, 0, none⟩) 2 ca) [0, 1] from Kd.R_of_own (Kd.own_of_R ha) (fun k hk => by simpa [Value.ownBlock] using hk.symm)); have HB4 := zA hb; have HLA := zA ha1; clear ha hb hg_ hnew HVN ha0 ha1)
   | ((with_reducible refine zek (N := 6) rfl ?_); refine zfl ?hg (N := 6) ?hd (cs := #[.slice none 0 0]) (t := 24) ?hr ?_; (case hd => rfl); (case hg => rfl); (case hr => go_simp <;> rfl); intro gb hgb w5 hbox hb; have HGB := zA hgb; have BB := zA hbox; have HB5 := zA hb; clear hgb hbox hb)
   | ((with_reducible refine zhi (t := 24) (p := 6) rfl ?_); refine zhd rfl (t := 24) (p := 6) rfl rfl (g := gb) (u := .slice An syIni.length cn) (seg := [.slice An syIni.length cn]) rfl rfl BB.out rfl rfl rfl zq39 ?_; intro w6 hbb hbw hfar; have HX0 := zA (show SyX w gb ra ca 2 (syU 2) (.slice An syIni.length cn) w6 from ⟨zad HB4.out (HB5.out.trans (hbw _ (Nat.le_of_eq HGB.out.symm))), hbb, by have := HB4.out.size; have := HGB.out; omega, ?sN, by have := HLA.out; have := HGB.out; omega, ?sA⟩); (case sN => exact Kd.R_mono (zRb HVN4.out (HB5.out.trans (hbw _ (Nat.le_of_eq HGB.out.symm)))) (fun k hk => by have := HRA.out; have := HLA.out; have := HGB.out; omega)); (case sA => exact zRb HVA.out (HB5.out.trans (hbw _ (Nat.le_of_eq HGB.out.symm)))); clear hbb hbw hfar HVN4 HVA HB3 HB4 HB5 BB HGB))
 go_loopw [7] (fun v7 wr => ∃ (u r' c' : Nat) (vo : Value), v7 = .slice (some ⟨r', 0, none⟩) u c' ∧ 2 ≤ u ∧ u ≤ 6 ∧ Aside0 (SyX w gb r' c' u (syU u) vo wr)) (fun v7 _ => match v7 with | .slice _ n _ => 6 - n | _ => 0)
 case atStart => exact ⟨2, ra, ca, _, rfl, zlr _, by omega, HX0⟩
 clear HX0 HRA HLA
 obtain ⟨u, r', c', vo, rfl, hu2, hu6, HX⟩ := hrel
 by_cases hlt : u < 6
 · have d1 : decide ((u : Int) < 6) = true := zdt (by omega)
   have HUL := zA (zp3 u hu2)
   go_wp2_with fail
   refine (zlm (syU u) vo wr HX.out ⟨#[99, 111, 110, 115, 116]⟩ 0 0 0 (by have := HUL.out; omega)).mono ?_
   rintro x w8 ⟨vo', rfl, hX8, _⟩
   have HX8 := zA hX8
   clear hX8
   go_wp2_with ((with_reducible refine zfb (b := .append) (xs := #[.tmp 23, .tmp 27]) rfl ?_); at_builtin; refine Kd.R_append (Kd.int .i64) (w0 := w) w.heap.size rfl (.tmp 23) (.tmp 27) 51 3 (.int .i64 0) 8 rfl Try.underlying51 zns rfl (by decide) (by decide) (.slice (some ⟨r', 0, none⟩) u c') (syU u).2 ((syU u).1.length : Int) [.int .i64 (syU u).1.length] (fun k => k = r' ∨ w8.heap.size ≤ k) (fun _ => False) rfl rfl (show Kd.M (Kd.int .i64) _ _ _ ((syU u).1.length : Int) [.int .i64 (syU u).1.length] from rfl) (fun _ hk => hk.elim) (fun k hk => .inr hk) (Kd.R_mono HX8.out.nam (fun k hk => .inl hk)) HX8.out.below HX8.out.below.size (by have := HUL.out; omega) ?_; intro v1 w10 ho hb hg hat; obtain ⟨r2, c2, e2, hX9⟩ := HX8.out.grow (W1 := w10) (Kd.R_mono ho (fun k hk => hk)) (by simp) hb hg; have hlu : ((syU u).2 ++ [((syU u).1.length : Int)]).length = u + 1 := (by have := HUL.out; simp; omega); have hsu := zv5 u hu2; simp only at hX9 hsu; rw [hsu, hlu] at hX9; rw [hlu] at e2; subst e2; have HX9 := zA hX9; clear ho hb hg hat hX9 hlu hsu HX8)
   go_roundw
   case rel => exact ⟨u + 1, r2, c2, vo', rfl, by omega, by omega, HX9⟩
   case measure => simp; omega
 obtain rfl : u = 6 := by omega
 have d1 : decide (((6 : Nat) : Int) < 6) = false := zdf (by omega)
 go_wp2_with fail
 go_loopw [31] (fun v31 wq => ∃ (u : Nat) (s : List S72 × List Int) (vo : Value), v31 = .int .i64 (u : Int) ∧ u ≤ l0.length ∧ Aside0 (SyX w gb r' c' 6 s vo wq) ∧ Aside0 (syL (l0.drop u) s = some sE)) (fun v31 _ => l0.length - (intOf v31).toNat)
 case atStart => exact ⟨0, _, _, rfl, Nat.zero_le _, HX, ⟨by rw [List.drop_zero]; exact HSE.out⟩⟩
 clear HX HSE
 obtain ⟨u, s, vo, rfl, hu, HX, HS⟩ := hrel
 by_cases hlt : u < l0.length
 rotate_left
 · obtain rfl : u = l0.length := by omega
   have d1 : decide ((l0.length : Int) < l0.length) = false := zdf (by omega)
   have hs := HS.out
   rw [List.drop_length] at hs
   obtain rfl := zsi hs
   clear hs HS
   go_wp2_with fail
   obtain ⟨Ao, co, eo⟩ := Kd.R_slice HX.out.out
   have EO := zA eo
   clear eo
   refine zhm [[], [], [], [1, 2], [1, 2, 3], [0, 1, 2, 3, 4], [0, 1, 2, 3, 4, 5], [0, 1, 2, 3, 4, 5, 6]] [[5, 6, 7], [3, 4, 5, 6, 7], [3, 4, 5, 6, 7], [4, 5, 6, 7], [5, 6, 7], [6, 7], [7], []]
     (fun L s_ V => Below wr.heap.size wr V ∧ (L 0 = true → s_ 0 = .slice Ao s.1.length co) ∧ (L 1 = true → s_ 1 = .slice (some ⟨r', 0, none⟩) 6 c') ∧ (L 2 = true → s_ 2 = .int .i64 a1) ∧ (L 3 = true → s_ 3 = .pointer (some ⟨r', a1.toNat, none⟩)) ∧ (L 4 = true → s_ 4 = .int .i64 (rd s.2 a1)) ∧
       (L 5 = true → Kd.R k72 72 V w.heap.size (fun _ => True) (s_ 5) e1) ∧ (L 6 = true → Kd.R k72 72 V w.heap.size (fun _ => True) (s_ 6) o1) ∧ (L 7 = true → s_ 7 = s_ 6))
     rfl (fun _ _ _ _ _ h => h) zq23 ?_ ⟨?_, ?_, ?_, ?_, ?_, ?_, ?_, ?_, trivial⟩ ?_
   · exact ⟨zco (Below.refl _ _), (fun h => Bool.noConfusion h), (fun h => Bool.noConfusion h), (fun h => Bool.noConfusion h), (fun h => Bool.noConfusion h), (fun h => Bool.noConfusion h), (fun h => Bool.noConfusion h), (fun h => Bool.noConfusion h), (fun h => Bool.noConfusion h)⟩
   · rintro L s_ V hu hd hn ⟨hB, g0, g1, g2, g3, g4, g5, g6, g7⟩ K hK
     have hc := zac (HX.out.step hB).bb 0
     rw [EO.out] at hc
     refine zcx (N := some 150) (v := .slice Ao s.1.length co) (w1 := V) (by rfl) rfl ?_ (hK _ _ ⟨hB, fun _ => rfl, g1, g2, g3, g4, g5, g6, g7⟩)
     simp only [zag, riGo, zat, zas, za6, zbi, Nat.reduceBEq, Nat.reduceAdd, List.headD, List.tail, List.getD, List.getElem?_cons_zero, List.getElem?_cons_succ, Option.getD_some, cond_true, cond_false]
     go_simp
   · rintro L s_ V hu hd hn ⟨hB, g0, g1, g2, g3, g4, g5, g6, g7⟩ K hK
     refine zcx (N := some 151) (v := .slice (some ⟨r', 0, none⟩) 6 c') (w1 := V) (by rfl) rfl ?_ (hK _ _ ⟨hB, g0, fun _ => rfl, g2, g3, g4, g5, g6, g7⟩)
     simp only [zag, riGo, zat, zas, za6, zbi, Nat.reduceBEq, Nat.reduceAdd, List.headD, List.tail, List.getD, List.getElem?_cons_zero, List.getElem?_cons_succ, Option.getD_some, cond_true, cond_false]
     go_simp
   · rintro L s_ V hu hd hn ⟨hB, g0, g1, g2, g3, g4, g5, g6, g7⟩ K hK
     refine zcx (N := some 152) (v := .int .i64 a1) (w1 := V) (by rfl) rfl ?_ (hK _ _ ⟨hB, g0, g1, fun _ => rfl, g3, g4, g5, g6, g7⟩)
     simp only [zag, riGo, zat, zas, za6, zbi, Nat.reduceBEq, Nat.reduceAdd, List.headD, List.tail, List.getD, List.getElem?_cons_zero, List.getElem?_cons_succ, Option.getD_some, cond_true, cond_false]
     go_simp
   · rintro L s_ V hu hd hn ⟨hB, g0, g1, g2, g3, g4, g5, g6, g7⟩ K hK
     have e1_ := g1 hd.1
     have e2_ := g2 hd.2
     refine zcx (N := some 153) (v := .pointer (some ⟨r', a1.toNat, none⟩)) (w1 := V) (by rfl) rfl ?_ (hK _ _ ⟨hB, g0, g1, g2, fun _ => rfl, g4, g5, g6, g7⟩)
     simp only [zag, riGo, zat, zas, za6, zbi, Nat.reduceBEq, Nat.reduceAdd, List.headD, List.tail, List.getD, List.getElem?_cons_zero, List.getElem?_cons_succ, Option.getD_some, cond_true, cond_false]
     rw [e1_, e2_]
     go_simp
   · rintro L s_ V hu hd hn ⟨hB, g0, g1, g2, g3, g4, g5, g6, g7⟩ K hK
     have e3_ := g3 hd.2.2
     obtain ⟨y, _⟩ := Kd.R_celln 0 (HX.out.step hB).nam a1 hl2 hl3
     change V.cell? _ = some (.int .i64 (rd s.2 a1)) at y
     refine zcx (N := some 154) (v := .int .i64 (rd s.2 a1)) (w1 := V) (by rfl) rfl ?_ (hK _ _ ⟨hB, g0, g1, g2, g3, fun _ => rfl, g5, g6, g7⟩)
     simp only [zag, riGo, zat, zas, za6, zbi, Nat.reduceBEq, Nat.reduceAdd, List.headD, List.tail, List.getD, List.getElem?_cons_zero, List.getElem?_cons_succ, Option.getD_some, cond_true, cond_false]
     rw [e3_]
     go_simp
   · rintro L s_ V hu hd hn ⟨hB, g0, g1, g2, g3, g4, g5, g6, g7⟩ K hK
     have e0_ := g0 hd.1
     have e4_ := g4 hd.2.2.2.2
     have hCo := zRr (by have := (HX.out.step hB).out; rw [EO.out] at this; exact this)
     have e04 : (#[s_ 0, s_ 4] : Array Value) = #[.slice Ao s.1.length co, .int .i64 (rd s.2 a1)] := by rw [e0_, e4_]
     refine zpd Try.func118 zq23 rfl #[.slice Ao s.1.length co, .int .i64 (rd s.2 a1)] (by rfl) rfl rfl (by simp only [List.map_toArray, List.map_cons, List.map_nil]; exact e04) ?_
     refine (zkk k Ao co s.1 (rd s.2 a1) e1 V hCo.2.2 hCo.2.1 HE1.out).mono ?_
     rintro x w4 ⟨v5, rfl, hv5, hb5⟩
     exact ⟨_, rfl, hK _ _ ⟨zad hB hb5, g0, g1, g2, g3, g4, fun _ => Kd.R_lower hv5 (Nat.le_trans HX.out.below.size hB.size), fun h => absurd (h.symm.trans hn.1) (by simp), fun h => absurd (h.symm.trans hn.2) (by simp)⟩⟩
   · rintro L s_ V hu hd hn ⟨hB, g0, g1, g2, g3, g4, g5, g6, g7⟩ K hK
     have h5 := g5 hd.2.2.2.2.2
     obtain ⟨A5, c5, e5_⟩ := Kd.R_slice h5
     rw [e5_] at h5
     have hC5 := zRr h5
     have e55 : (#[s_ 5] : Array Value) = #[.slice A5 e1.length c5] := by rw [e5_]
     refine zpd Try.func101 zq23 rfl #[.slice A5 e1.length c5] (by rfl) rfl rfl (by simp only [List.map_toArray, List.map_cons, List.map_nil]; exact e55) ?_
     refine (zhv k A5 c5 e1 o1 V hC5.2.2 hC5.2.1 HO1.out).mono ?_
     rintro x w4 ⟨v6, rfl, hv6, hb6⟩
     exact ⟨_, rfl, hK _ _ ⟨zad hB hb6, g0, g1, g2, g3, g4, fun h => zRb (g5 h) hb6, fun _ => Kd.R_lower hv6 (Nat.le_trans HX.out.below.size hB.size), fun h => absurd (h.symm.trans hn) (by simp)⟩⟩
   · rintro L s_ V hu hd hn ⟨hB, g0, g1, g2, g3, g4, g5, g6, g7⟩ K hK
     refine zcx (N := some 14) (v := s_ 6) (w1 := V) (by rfl) rfl ?_ (hK _ _ ⟨hB, g0, g1, g2, g3, g4, g5, g6, fun _ => rfl⟩)
     simp only [zag, riGo, zat, zas, za6, zbi, Nat.reduceBEq, Nat.reduceAdd, List.headD, List.tail, List.getD, List.getElem?_cons_zero, List.getElem?_cons_succ, Option.getD_some, cond_true, cond_false]
     go_simp
   · rintro L s_ V hL ⟨hB, g0, g1, g2, g3, g4, g5, g6, g7⟩
     have h6 := g6 (hL 6 rfl)
     have e7_ := g7 (hL 7 rfl)
     obtain ⟨A6, c6, e6_⟩ := Kd.R_slice h6
     rw [e6_] at h6
     have HV6 := zA h6
     have HBV := zA (zad HX.out.below hB)
     clear h6 hB g0 g1 g2 g3 g4 g5 g6 g7
     simp only [zag, riGo, zat, zas, za6, zbi, Nat.reduceBEq, Nat.reduceAdd, List.headD, List.tail, List.getD, List.getElem?_cons_zero, List.getElem?_cons_succ, Option.getD_some, cond_true, cond_false]
     rw [e7_, e6_]
     clear e6_ e7_
     go_wp2_with (go_at_call 46; go_must (have hC6 := zRr HV6.out; refine (zm9 k A6 c6 o1 b1 V hC6.2.2 hC6.2.1 HB1.out).mono ?_; rintro e w13 ⟨rfl, hb⟩; have HV7 := zA (zRb HV6.out hb); have HB7 := zA (zad HBV.out hb); clear hb hC6))
     go_ret2
     obtain ⟨rfl, rfl⟩ := Prod.mk.inj HH.out
     exact ⟨_, rfl, HV7.out, HB7.out⟩
 have d1 : decide ((u : Int) < l0.length) = true := zdt (by omega)
 have d2 : (0 : Int) ≤ (u : Int) := by omega
 have d3 : (u : Int) < l0.length := by omega
 have hs := HS.out
 obtain ⟨x, hx⟩ : ∃ x, x = zaa l0 (u : Int) := ⟨_, rfl⟩
 have hdr : l0.drop u = x :: l0.drop (u + 1) := by
   rw [List.drop_eq_getElem_cons hlt, hx]
   unfold zaa
   rw [Int.toNat_natCast, List.getD_eq_getElem?_getD, List.getElem?_eq_getElem hlt]
   rfl
 rw [hdr] at hs
 unfold syL at hs
 by_cases hok : syOk x s
 rotate_left
 · rw [if_neg hok] at hs
   cases hs
 rw [if_pos hok] at hs
 obtain ⟨⟨q1, q2, q3, q4, q5, q6, q7⟩, hq, hs⟩ := Option.bind_eq_some_iff.1 hs
 obtain ⟨adx, eA, x0, x1, x2, x3, x4⟩ := zj2 (zCb HR.out HX.out.below) (u : Int) d2 d3
 rw [Int.toNat_natCast] at x0 x1 x2 x3 x4
 rw [← hx] at x0 x1 x2 x3 x4
 subst eA
 obtain ⟨bi, hbi⟩ : ∃ b : Bool, b = decide (q3 ≤ q4) := ⟨_, rfl⟩
 have HBI := zA hbi
 have HQ := zA hq
 have HS1 := zA hs
 have HOK := zA hok
 clear hs hq hok hdr hx HS hbi
 go_upto_if 42 with (first
   | ((with_reducible refine zek (N := 10) rfl ?_); refine zfl ?hg (N := 10) ?hd (cs := #[.string ⟨#[]⟩, .int .i64 0, .int .i64 0, .int .i64 0, .int .i64 0]) (t := 94) ?hr ?_; (case hd => rfl); (case hg => rfl); (case hr => go_simp <;> rfl); intro gx hgx w5 hbx hb5; have HGX := zA hgx; have BX := zA hbx; have HB5 := zA hb5; clear hgx hbx hb5)
   | ((with_reducible refine zhi (t := 94) (p := 10) rfl ?_); go_must (refine zhd rfl (t := 94) (p := 10) rfl rfl (g := gx) (u := .agg #[.string x.f0, .int .i64 x.f1, .int .i64 x.f2, .int .i64 x.f3, .int .i64 x.f4]) (seg := [.string x.f0, .int .i64 x.f1, .int .i64 x.f2, .int .i64 x.f3, .int .i64 x.f4]) rfl rfl BX.out rfl rfl rfl zq39 ?_; intro w6 hbb hbw hfar; have HBW := zA (HB5.out.trans (hbw _ (Nat.le_of_eq HGX.out.symm))); have HX6 := zA (HX.out.step HBW.out); have BX6 := zA hbb; have y0 := zac hbb 0; have NX := zA (show some gx ≠ vo.ownBlock from fun e => by have h1 := Kd.R_lt HX.out.out gx e.symm; have h2 := HGX.out; omega); have NE := zA (show gb < gx ∧ r' < gx from by have h1 := zb9 HX.out.bb; have h2 := Kd.R_lt HX.out.nam r' rfl; have h3 := HGX.out; omega); have HGX6 := zA (show w.heap.size ≤ gx from by have h2 := HGX.out; have h3 := HX.out.below.size; omega); clear hbb hbw hfar BX HB5 x0 x1 x2 x3 x4))
   | (go_at_call 116; go_must (refine (zjh x.f0 q1 q2 q3 q4 q5 q6 q7 _ HQ.out).mono ?_; rintro e w7 ⟨rfl, hb⟩; have HX7 := zA (HX6.out.step hb); have BX7 := zA (zaf BX6.out hb); have HB7 := zA hb; clear hb y0))
   | ((with_reducible refine zek (N := 11) rfl ?_); refine zfl ?hg (N := 11) ?hd (cs := #[.bool false, .bool false, .int .i64 0, .int .i64 0, .int .i64 0, .string ⟨#[]⟩]) (t := 130) ?hr ?_; (case hd => rfl); (case hg => rfl); (case hr => go_simp <;> rfl); intro gf hgf w8 hbf hb8; have HGF := zA hgf; have BF := zA hbf; have HB8 := zA hb8; clear hgf hbf hb8)
   | ((with_reducible refine zhi (t := 130) (p := 11) rfl ?_); go_must (refine zhd rfl (t := 130) (p := 11) rfl rfl (g := gf) (u := .agg #[.bool q1, .bool q2, .int .i64 q3, .int .i64 q4, .int .i64 q5, .string q6]) (seg := [.bool q1, .bool q2, .int .i64 q3, .int .i64 q4, .int .i64 q5, .string q6]) rfl rfl BF.out rfl rfl rfl zq39 ?_; intro w9 hbb hbw hfar; have HB9 := zA (HB8.out.trans (hbw _ (Nat.le_of_eq HGF.out.symm))); have HX9 := zA (HX7.out.step HB9.out); have BX9 := zA (zaf BX7.out HB9.out); have BF9 := zA hbb; have NF := zA (show some gf ≠ vo.ownBlock from fun e => by have h1 := Kd.R_lt HX7.out.out gf e.symm; have h2 := HGF.out; omega); have NEF := zA (show gb < gf ∧ r' < gf ∧ gx < gf from by have h1 := zb9 HX7.out.bb; have h2 := Kd.R_lt HX7.out.nam r' rfl; have h3 := HGF.out; have h4 := zb9 BX7.out; omega); have z0 := zac hbb 0; have z1 := zac hbb 1; have z2 := zac hbb 2; have z3 := zac hbb 3; have z4 := zac hbb 4; have z5 := zac hbb 5; clear hbb hbw hfar BF HB8))
   | (go_at_call 117; go_must (refine (zee q1 q2 q3 q4 q5 q6 bi _ (by rw [HBI.out]; rfl)).mono ?_; rintro e w10 ⟨rfl, hb⟩; have HX10 := zA (HX9.out.step hb); have BX10 := zA (zaf BX9.out hb); have BF10 := zA (zaf BF9.out hb); have y4 := zac BX10.out 4; clear hb z0 z1 z2 z3 z4 z5)))
 go_cut [13] from 33 to 149 (fun v13 wx => ∃ (n1 : List S72) (c : Int) (vo1 : Value), v13 = .int .i64 c ∧ Aside0 (n1 = (if q3 ≤ q4 then s.1 ++ [(⟨⟨#[99, 111, 110, 115, 116]⟩, 0, 0, x.f4⟩ : S72)] else s.1)) ∧ Aside0 (c = (if q3 ≤ q4 then (s.1.length : Int) else -1)) ∧ Aside0 (SyX w gb r' c' 6 (n1, s.2) vo1 wx) ∧
   Aside0 (wx.heap[gx]? = some (.cells #[.string x.f0, .int .i64 x.f1, .int .i64 x.f2, .int .i64 x.f3, .int .i64 x.f4] 94 (0, 0))) ∧ Aside0 (wx.heap[gf]? = some (.cells #[.bool q1, .bool q2, .int .i64 q3, .int .i64 q4, .int .i64 q5, .string q6] 130 (0, 0))) ∧ Aside0 (some gx ≠ vo1.ownBlock ∧ some gf ≠ vo1.ownBlock))
 case first =>
   by_cases hbt : bi = true
   rotate_left
   · obtain rfl : bi = false := by simpa using hbt
     have HIM := zA (of_decide_eq_false HBI.out.symm)
     clear hbt
     go_wp2_with fail
     go_meet
     case rel => exact ⟨_, _, vo, rfl, ⟨by rw [if_neg (by have := HIM.out; omega)]⟩, ⟨by rw [if_neg (by have := HIM.out; omega)]⟩, HX10, BX10, BF10, ⟨NX.out, NF.out⟩⟩
   subst hbt
   have HIM := zA (zde HBI.out.symm)
   go_wp2_with fail
   refine (zlm s vo w10 HX10.out ⟨#[99, 111, 110, 115, 116]⟩ 0 0 x.f4 (by have := HOK.out; unfold syOk at this; omega)).mono ?_
   rintro e w11 ⟨vo', rfl, hX, hF⟩
   have HX11 := zA hX
   have HF11 := zA hF
   clear hX hF
   go_wp2_with fail
   go_meet
   have hn := NE.out
   have hf := NEF.out
   obtain ⟨b1, b2⟩ := HF11.out.box BX10.out (by omega) (by omega) NX.out
   obtain ⟨b3, b4⟩ := HF11.out.box BF10.out (by omega) (by omega) NF.out
   exact ⟨_, _, vo', rfl, ⟨by rw [if_pos HIM.out]⟩, ⟨by rw [if_pos HIM.out]⟩, HX11, ⟨b1⟩, ⟨b3⟩, ⟨b2, b4⟩⟩
 clear HX HX6 HX7 HX9 HX10 BX6 BX7 BX9 BX10 BF9 BF10 y4 HB7 HB9 HBW NX NF HGX HGF
 obtain ⟨n1, c, vo1, rfl, HN1, HCC, HX, BX, BF, NX⟩ := hcut
 have HA0 := zA (show SyA w gb r' c' gx gf x q1 q2 q3 q4 q5 q6 (n1, s.2) wc from ⟨vo1, HX.out, BX.out, BF.out, NX.out.1, NX.out.2⟩)
 obtain ⟨⟨o1, p1⟩, ⟨o2, p2⟩, ⟨o3, p3⟩, hln, hl6⟩ := (show syOk x s from HOK.out)
 have HLN := zA (show n1.length < 1000002 from by rw [HN1.out]; split <;> (try simp) <;> omega)
 have HL6 := zA hl6
 clear hln hl6 HOK
 have y0 := zac BX.out 0
 by_cases e1 : x.f0.toList = ([115, 101, 116] : List UInt8)
 · have b1 : (x.f0.toList == ([115, 101, 116] : List UInt8)) = true := beq_iff_eq.2 e1
   have HS2 := zA (show syL (l0.drop (u + 1)) (n1, s.2.set x.f1.toNat c) = some sE from by
     have h := HS1.out
     unfold syDo at h
     simp only at h
     rw [if_pos e1, ← HN1.out, ← HCC.out] at h
     exact h)
   have y1 := zac BX.out 1
   obtain ⟨g1, g2⟩ := Kd.R_celln 0 HX.out.nam x.f1 o1 p1
   have HX2 := zA (HX.out.setn x.f1 c)
   clear e1
   go_wp2_with fail
   go_roundw
   case rel => exact ⟨u + 1, _, vo1, by go_num, by omega, HX2, HS2⟩
   case measure => simp [intOf]; omega
 have b1 : (x.f0.toList == ([115, 101, 116] : List UInt8)) = false := by simpa using e1
 have E1 := zA e1
 by_cases e2 : x.f0.toList = ([109, 111, 118] : List UInt8)
 · have b2 : (x.f0.toList == ([109, 111, 118] : List UInt8)) = true := beq_iff_eq.2 e2
   have HS2 := zA (show syL (l0.drop (u + 1)) (n1, s.2.set x.f1.toNat (rdOf 0 s.2 x.f2)) = some sE from by
     have h := HS1.out
     unfold syDo at h
     simp only at h
     rw [if_neg e1, if_pos e2, ← HN1.out] at h
     exact h)
   clear e1 e2
   go_wp2_with fail
   clear b1 b2 y0
   have hA0 := HA0.out
   refine zja [[], [], [1], [], [], [4], [3, 4, 5], [3, 4, 5, 6], [0, 1, 2, 3, 4, 5, 6, 7], [0, 1, 2, 3, 4, 5, 6, 7, 8]] [[8, 9], [2, 8, 9], [8, 9], [6, 7, 8, 9], [5, 6, 7, 8, 9], [6, 7, 8, 9], [7, 8, 9], [8, 9], [9], []] (zbi [.slice (some ⟨r', 0, none⟩) 6 c', .pointer (some ⟨gx, 1, none⟩), .int .i64 x.f1, .slice (some ⟨r', 0, none⟩) 6 c', .pointer (some ⟨gx, 2, none⟩), .int .i64 x.f2, .pointer (some ⟨r', x.f2.toNat, none⟩), .int .i64 (rdOf 0 s.2 x.f2), .pointer (some ⟨r', x.f1.toNat, none⟩), undef]) (fun L W => (L 9 = false → SyA w gb r' c' gx gf x q1 q2 q3 q4 q5 q6 (n1, s.2) W) ∧ (L 9 = true → ∃ vo2, SyX w gb r' c' 6 (n1, s.2.set x.f1.toNat (rdOf 0 s.2 x.f2)) vo2 W))
     rfl (fun _ _ _ _ _ h => h) zq23 ?_ ⟨?_, ?_, ?_, ?_, ?_, ?_, ?_, ?_, ?_, ?_, trivial⟩ ?_
   · exact ⟨fun _ => hA0.step (zco (Below.refl _ _)), fun h => Bool.noConfusion h⟩
   · refine fun L W hu hd hn hJ => zap (by rfl) hJ ?_
     generalize hev : Act.eval (zag _ _ _ _) = ev
     have t7 : ev (.tmp 7) = .slice (some ⟨r', 0, none⟩) 6 c' := by rw [← hev]; rfl
     clear hev
     first | (go_simp; done) | (go_simp; rfl)
   · refine fun L W hu hd hn hJ => zap (by rfl) hJ ?_
     generalize hev : Act.eval (zag _ _ _ _) = ev
     have t10 : ev (.tmp 10) = .pointer (some ⟨gx, 0, none⟩) := by rw [← hev]; rfl
     clear hev
     first | (go_simp; done) | (go_simp; rfl)
   · refine fun L W hu hd hn hJ => zap (by rfl) hJ ?_
     have hA := hJ.1 (zay _ hn 9 (by decide))
     clear hJ
     have y := zac hA.bx 1
     generalize hev : Act.eval (zag _ _ _ _) = ev
     have t76 : ev (.tmp 76) = .pointer (some ⟨gx, 1, none⟩) := by rw [← hev]; rfl
     clear hev
     first | (go_simp; done) | (go_simp; rfl)
   · refine fun L W hu hd hn hJ => zap (by rfl) hJ ?_
     generalize hev : Act.eval (zag _ _ _ _) = ev
     have t7 : ev (.tmp 7) = .slice (some ⟨r', 0, none⟩) 6 c' := by rw [← hev]; rfl
     clear hev
     first | (go_simp; done) | (go_simp; rfl)
   · refine fun L W hu hd hn hJ => zap (by rfl) hJ ?_
     generalize hev : Act.eval (zag _ _ _ _) = ev
     have t10 : ev (.tmp 10) = .pointer (some ⟨gx, 0, none⟩) := by rw [← hev]; rfl
     clear hev
     first | (go_simp; done) | (go_simp; rfl)
   · refine fun L W hu hd hn hJ => zap (by rfl) hJ ?_
     have hA := hJ.1 (zay _ hn 9 (by decide))
     clear hJ
     have y := zac hA.bx 2
     generalize hev : Act.eval (zag _ _ _ _) = ev
     have t79 : ev (.tmp 79) = .pointer (some ⟨gx, 2, none⟩) := by rw [← hev]; rfl
     clear hev
     first | (go_simp; done) | (go_simp; rfl)
   · refine fun L W hu hd hn hJ => zap (by rfl) hJ ?_
     generalize hev : Act.eval (zag _ _ _ _) = ev
     have t78 : ev (.tmp 78) = .slice (some ⟨r', 0, none⟩) 6 c' := by rw [← hev]; rfl
     have t80 : ev (.tmp 80) = .int .i64 x.f2 := by rw [← hev]; rfl
     clear hev
     first | (go_simp; done) | (go_simp; rfl)
   · refine fun L W hu hd hn hJ => zap (by rfl) hJ ?_
     have hA := hJ.1 (zay _ hn 9 (by decide))
     clear hJ
     obtain ⟨y, _⟩ := Kd.R_celln 0 hA.nam x.f2 o2 p2
     generalize hev : Act.eval (zag _ _ _ _) = ev
     have t81 : ev (.tmp 81) = .pointer (some ⟨r', x.f2.toNat, none⟩) := by rw [← hev]; rfl
     clear hev
     first | (go_simp; done) | (go_simp; rfl)
   · refine fun L W hu hd hn hJ => zap (by rfl) hJ ?_
     generalize hev : Act.eval (zag _ _ _ _) = ev
     have t75 : ev (.tmp 75) = .slice (some ⟨r', 0, none⟩) 6 c' := by rw [← hev]; rfl
     have t77 : ev (.tmp 77) = .int .i64 x.f1 := by rw [← hev]; rfl
     clear hev
     first | (go_simp; done) | (go_simp; rfl)
   · intro L W hu hd hn hJ
     obtain ⟨vo2, hA⟩ := hJ.1 hu
     have hX := hA.sx.setn x.f1 (rdOf 0 s.2 x.f2)
     refine zkj (by rfl) rfl rfl ⟨fun h => by simp [riUp] at h, fun _ => ⟨vo2, hX⟩⟩ ?_
     obtain ⟨y, y'⟩ := Kd.R_celln 0 hA.sx.nam x.f1 o1 p1
     clear hJ hX
     generalize hev : Act.eval (zag _ _ _ _) = ev
     have t82 : ev (.tmp 82) = .int .i64 (rdOf 0 s.2 x.f2) := by rw [← hev]; rfl
     have t83 : ev (.tmp 83) = .pointer (some ⟨r', x.f1.toNat, none⟩) := by rw [← hev]; rfl
     clear hev
     first | (go_simp; done) | (go_simp; rfl)
   · intro L W hL hJ
     obtain ⟨vo2, hX⟩ := hJ.2 (hL 9 rfl)
     have HX2 := zA hX
     clear hX hJ hL hA0
     simp only [zag, riGo, zat, zas, za6, zbi, Nat.reduceBEq, Nat.reduceAdd, List.headD, List.tail, List.getD, List.getElem?_cons_zero, List.getElem?_cons_succ, Option.getD_some, cond_true, cond_false]
     go_wp2_with fail
     go_roundw
     case rel => exact ⟨u + 1, _, vo2, by go_num, by omega, HX2, HS2⟩
     case measure => simp [intOf]; omega
 have b2 : (x.f0.toList == ([109, 111, 118] : List UInt8)) = false := by simpa using e2
 have E2 := zA e2
 by_cases e3 : x.f0.toList = ([108, 101, 97] : List UInt8)
 · have b3 : (x.f0.toList == ([108, 101, 97] : List UInt8)) = true := beq_iff_eq.2 e3
   have E3 := zA e3
   clear e1 e2 e3
   go_wp2_with fail
   clear b1 b2 b3 y0
   have HA1 := HA0
   have hA0 := HA1.out
   refine zja [[], [], [1], [], [], [], [5], [4, 5, 6], [4, 5, 6, 7], [], [], [], [11], [10, 11, 12], [10, 11, 12, 13], [], [10, 11, 12, 13, 14, 15], [9, 10, 11, 12, 13, 14, 15, 16], [4, 5, 6, 7, 8, 9, 10, 11, 12, 13, 14, 15, 16, 17], [3, 4, 5, 6, 7, 8, 9, 10, 11, 12, 13, 14, 15, 16, 17, 18], [0, 1, 2, 3, 4, 5, 6, 7, 8, 9, 10, 11, 12, 13, 14, 15, 16, 17, 18, 19], [0, 1, 2, 3, 4, 5, 6, 7, 8, 9, 10, 11, 12, 13, 14, 15, 16, 17, 18, 19, 20]] [[20, 21], [2, 20, 21], [20, 21], [19, 20, 21], [7, 8, 18, 19, 20, 21], [6, 7, 8, 18, 19, 20, 21], [7, 8, 18, 19, 20, 21], [8, 18, 19, 20, 21], [18, 19, 20, 21], [17, 18, 19, 20, 21], [13, 14, 16, 17, 18, 19, 20, 21], [12, 13, 14, 16, 17, 18, 19, 20, 21], [13, 14, 16, 17, 18, 19, 20, 21], [14, 16, 17, 18, 19, 20, 21], [16, 17, 18, 19, 20, 21], [16, 17, 18, 19, 20, 21], [17, 18, 19, 20, 21], [18, 19, 20, 21], [19, 20, 21], [20, 21], [21], []] (zbi [.slice (some ⟨r', 0, none⟩) 6 c', .pointer (some ⟨gx, 1, none⟩), .int .i64 x.f1, Value.func (.func 115) #[] #[.pointer (some ⟨gb, 0, none⟩)], .slice (some ⟨r', 0, none⟩) 6 c', .pointer (some ⟨gx, 2, none⟩), .int .i64 x.f2, .pointer (some ⟨r', x.f2.toNat, none⟩), .int .i64 (rdOf 0 s.2 x.f2), Value.func (.func 115) #[] #[.pointer (some ⟨gb, 0, none⟩)], .slice (some ⟨r', 0, none⟩) 6 c', .pointer (some ⟨gx, 3, none⟩), .int .i64 x.f3, .pointer (some ⟨r', x.f3.toNat, none⟩), .int .i64 (rdOf 0 s.2 x.f3), .int .i64 c, .agg #[.string ⟨#[115, 104, 108]⟩, .int .i64 (rdOf 0 s.2 x.f3), .int .i64 c, .int .i64 0], .int .i64 n1.length, .agg #[.string ⟨#[97, 100, 100]⟩, .int .i64 (rdOf 0 s.2 x.f2), .int .i64 n1.length, .int .i64 0], .int .i64 ((n1 ++ [(⟨(⟨#[115, 104, 108]⟩), (rdOf 0 s.2 x.f3), c, 0⟩ : S72)])).length, .pointer (some ⟨r', x.f1.toNat, none⟩), undef]) (fun L W => (L 21 = false → L 17 = false → SyA w gb r' c' gx gf x q1 q2 q3 q4 q5 q6 (n1, s.2) W) ∧ (L 21 = false → L 17 = true → L 19 = false → SyA w gb r' c' gx gf x q1 q2 q3 q4 q5 q6 ((n1 ++ [(⟨(⟨#[115, 104, 108]⟩), (rdOf 0 s.2 x.f3), c, 0⟩ : S72)]), s.2) W) ∧ (L 21 = false → L 17 = true → L 19 = true → SyA w gb r' c' gx gf x q1 q2 q3 q4 q5 q6 (((n1 ++ [(⟨(⟨#[115, 104, 108]⟩), (rdOf 0 s.2 x.f3), c, 0⟩ : S72)]) ++ [(⟨(⟨#[97, 100, 100]⟩), (rdOf 0 s.2 x.f2), n1.length, 0⟩ : S72)]), s.2) W) ∧ (L 21 = true → ∃ vo2, SyX w gb r' c' 6 (((n1 ++ [(⟨(⟨#[115, 104, 108]⟩), (rdOf 0 s.2 x.f3), c, 0⟩ : S72)]) ++ [(⟨(⟨#[97, 100, 100]⟩), (rdOf 0 s.2 x.f2), n1.length, 0⟩ : S72)]), s.2.set x.f1.toNat ((n1 ++ [(⟨(⟨#[115, 104, 108]⟩), (rdOf 0 s.2 x.f3), c, 0⟩ : S72)])).length) vo2 W))
     rfl (fun _ _ _ _ _ h => h) zq23 ?_ ⟨?_, ?_, ?_, ?_, ?_, ?_, ?_, ?_, ?_, ?_, ?_, ?_, ?_, ?_, ?_, ?_, ?_, ?_, ?_, ?_, ?_, ?_, trivial⟩ ?_
   · exact ⟨fun _ _ => hA0.step (zco (Below.refl _ _)), fun _ h => Bool.noConfusion h, fun _ h => Bool.noConfusion h, fun h => Bool.noConfusion h⟩
   · refine fun L W hu hd hn hJ => zap (by rfl) hJ ?_
     generalize hev : Act.eval (zag _ _ _ _) = ev
     have t7 : ev (.tmp 7) = .slice (some ⟨r', 0, none⟩) 6 c' := by rw [← hev]; rfl
     clear hev
     first | (go_simp; done) | (go_simp; rfl)
   · refine fun L W hu hd hn hJ => zap (by rfl) hJ ?_
     generalize hev : Act.eval (zag _ _ _ _) = ev
     have t10 : ev (.tmp 10) = .pointer (some ⟨gx, 0, none⟩) := by rw [← hev]; rfl
     clear hev
     first | (go_simp; done) | (go_simp; rfl)
   · refine fun L W hu hd hn hJ => zap (by rfl) hJ ?_
     have hl := zay _ hn 21 (by decide)
     obtain ⟨nd, hA⟩ : ∃ nd, SyA w gb r' c' gx gf x q1 q2 q3 q4 q5 q6 (nd, s.2) W := (match h0 : L 17 with | false => ⟨_, hJ.1 hl h0⟩ | true => (match h1 : L 19 with | false => ⟨_, hJ.2.1 hl h0 h1⟩ | true => ⟨_, hJ.2.2.1 hl h0 h1⟩))
     clear hJ
     have y := zac hA.bx 1
     generalize hev : Act.eval (zag _ _ _ _) = ev
     have t89 : ev (.tmp 89) = .pointer (some ⟨gx, 1, none⟩) := by rw [← hev]; rfl
     clear hev
     first | (go_simp; done) | (go_simp; rfl)
   · refine fun L W hu hd hn hJ => zap (by rfl) hJ ?_
     generalize hev : Act.eval (zag _ _ _ _) = ev
     have t8 : ev (.tmp 8) = Value.func (.func 115) #[] #[.pointer (some ⟨gb, 0, none⟩)] := by rw [← hev]; rfl
     clear hev
     first | (go_simp; done) | (go_simp; rfl)
   · refine fun L W hu hd hn hJ => zap (by rfl) hJ ?_
     generalize hev : Act.eval (zag _ _ _ _) = ev
     have t7 : ev (.tmp 7) = .slice (some ⟨r', 0, none⟩) 6 c' := by rw [← hev]; rfl
     clear hev
     first | (go_simp; done) | (go_simp; rfl)
   · refine fun L W hu hd hn hJ => zap (by rfl) hJ ?_
     generalize hev : Act.eval (zag _ _ _ _) = ev
     have t10 : ev (.tmp 10) = .pointer (some ⟨gx, 0, none⟩) := by rw [← hev]; rfl
     clear hev
     first | (go_simp; done) | (go_simp; rfl)
   · refine fun L W hu hd hn hJ => zap (by rfl) hJ ?_
     have hl := zay _ hn 21 (by decide)
     obtain ⟨nd, hA⟩ : ∃ nd, SyA w gb r' c' gx gf x q1 q2 q3 q4 q5 q6 (nd, s.2) W := (match h0 : L 17 with | false => ⟨_, hJ.1 hl h0⟩ | true => (match h1 : L 19 with | false => ⟨_, hJ.2.1 hl h0 h1⟩ | true => ⟨_, hJ.2.2.1 hl h0 h1⟩))
     clear hJ
     have y := zac hA.bx 2
     generalize hev : Act.eval (zag _ _ _ _) = ev
     have t93 : ev (.tmp 93) = .pointer (some ⟨gx, 2, none⟩) := by rw [← hev]; rfl
     clear hev
     first | (go_simp; done) | (go_simp; rfl)
   · refine fun L W hu hd hn hJ => zap (by rfl) hJ ?_
     generalize hev : Act.eval (zag _ _ _ _) = ev
     have t92 : ev (.tmp 92) = .slice (some ⟨r', 0, none⟩) 6 c' := by rw [← hev]; rfl
     have t94 : ev (.tmp 94) = .int .i64 x.f2 := by rw [← hev]; rfl
     clear hev
     first | (go_simp; done) | (go_simp; rfl)
   · refine fun L W hu hd hn hJ => zap (by rfl) hJ ?_
     have hl := zay _ hn 21 (by decide)
     obtain ⟨nd, hA⟩ : ∃ nd, SyA w gb r' c' gx gf x q1 q2 q3 q4 q5 q6 (nd, s.2) W := (match h0 : L 17 with | false => ⟨_, hJ.1 hl h0⟩ | true => (match h1 : L 19 with | false => ⟨_, hJ.2.1 hl h0 h1⟩ | true => ⟨_, hJ.2.2.1 hl h0 h1⟩))
     clear hJ
     obtain ⟨y, _⟩ := Kd.R_celln 0 hA.nam x.f2 o2 p2
     generalize hev : Act.eval (zag _ _ _ _) = ev
     have t95 : ev (.tmp 95) = .pointer (some ⟨r', x.f2.toNat, none⟩) := by rw [← hev]; rfl
     clear hev
     first | (go_simp; done) | (go_simp; rfl)
   · refine fun L W hu hd hn hJ => zap (by rfl) hJ ?_
     generalize hev : Act.eval (zag _ _ _ _) = ev
     have t8 : ev (.tmp 8) = Value.func (.func 115) #[] #[.pointer (some ⟨gb, 0, none⟩)] := by rw [← hev]; rfl
     clear hev
     first | (go_simp; done) | (go_simp; rfl)
   · refine fun L W hu hd hn hJ => zap (by rfl) hJ ?_
     generalize hev : Act.eval (zag _ _ _ _) = ev
     have t7 : ev (.tmp 7) = .slice (some ⟨r', 0, none⟩) 6 c' := by rw [← hev]; rfl
     clear hev
     first | (go_simp; done) | (go_simp; rfl)
   · refine fun L W hu hd hn hJ => zap (by rfl) hJ ?_
     generalize hev : Act.eval (zag _ _ _ _) = ev
     have t10 : ev (.tmp 10) = .pointer (some ⟨gx, 0, none⟩) := by rw [← hev]; rfl
     clear hev
     first | (go_simp; done) | (go_simp; rfl)
   · refine fun L W hu hd hn hJ => zap (by rfl) hJ ?_
     have hl := zay _ hn 21 (by decide)
     obtain ⟨nd, hA⟩ : ∃ nd, SyA w gb r' c' gx gf x q1 q2 q3 q4 q5 q6 (nd, s.2) W := (match h0 : L 17 with | false => ⟨_, hJ.1 hl h0⟩ | true => (match h1 : L 19 with | false => ⟨_, hJ.2.1 hl h0 h1⟩ | true => ⟨_, hJ.2.2.1 hl h0 h1⟩))
     clear hJ
     have y := zac hA.bx 3
     generalize hev : Act.eval (zag _ _ _ _) = ev
     have t99 : ev (.tmp 99) = .pointer (some ⟨gx, 3, none⟩) := by rw [← hev]; rfl
     clear hev
     first | (go_simp; done) | (go_simp; rfl)
   · refine fun L W hu hd hn hJ => zap (by rfl) hJ ?_
     generalize hev : Act.eval (zag _ _ _ _) = ev
     have t98 : ev (.tmp 98) = .slice (some ⟨r', 0, none⟩) 6 c' := by rw [← hev]; rfl
     have t100 : ev (.tmp 100) = .int .i64 x.f3 := by rw [← hev]; rfl
     clear hev
     first | (go_simp; done) | (go_simp; rfl)
   · refine fun L W hu hd hn hJ => zap (by rfl) hJ ?_
     have hl := zay _ hn 21 (by decide)
     obtain ⟨nd, hA⟩ : ∃ nd, SyA w gb r' c' gx gf x q1 q2 q3 q4 q5 q6 (nd, s.2) W := (match h0 : L 17 with | false => ⟨_, hJ.1 hl h0⟩ | true => (match h1 : L 19 with | false => ⟨_, hJ.2.1 hl h0 h1⟩ | true => ⟨_, hJ.2.2.1 hl h0 h1⟩))
     clear hJ
     obtain ⟨y, _⟩ := Kd.R_celln 0 hA.nam x.f3 o3 p3
     generalize hev : Act.eval (zag _ _ _ _) = ev
     have t101 : ev (.tmp 101) = .pointer (some ⟨r', x.f3.toNat, none⟩) := by rw [← hev]; rfl
     clear hev
     first | (go_simp; done) | (go_simp; rfl)
   · refine fun L W hu hd hn hJ => zap (by rfl) hJ ?_
     generalize hev : Act.eval (zag _ _ _ _) = ev
     have t13 : ev (.tmp 13) = .int .i64 c := by rw [← hev]; rfl
     clear hev
     first | (go_simp; done) | (go_simp; rfl)
   · refine fun L W hu hd hn hJ => zap (by rfl) hJ ?_
     generalize hev : Act.eval (zag _ _ _ _) = ev
     have t102 : ev (.tmp 102) = .int .i64 (rdOf 0 s.2 x.f3) := by rw [← hev]; rfl
     have t103 : ev (.tmp 103) = .int .i64 c := by rw [← hev]; rfl
     have tc : ∀ v, ev (.const v) = v := fun v => by rw [← hev]; rfl
     clear hev
     first | (go_simp; done) | (go_simp; rfl)
   · intro L W hu hd hn hJ
     have hl := zay _ hn 21 (by decide)
     refine zl1 Try.func115 zq23 rfl (f := 115) (p := .pointer (some ⟨gb, 0, none⟩)) (v1 := .agg #[.string (⟨#[115, 104, 108]⟩), .int .i64 (rdOf 0 s.2 x.f3), .int .i64 c, .int .i64 0]) (by rfl) rfl (by rfl) (by rfl) ?_
     refine (zoo (hJ.1 hl hu) NE.out.1 NE.out.2 NEF.out.1 NEF.out.2.1 (⟨#[115, 104, 108]⟩) (rdOf 0 s.2 x.f3) c 0 (by have := HLN.out; simp; omega)).mono ?_
     rintro e W' ⟨he, hA⟩
     exact ⟨he, fun _ h => by simp [riUp] at h, fun _ _ _ => hA, fun _ h0_ h1_ => absurd (h1_.symm.trans (zay _ hn 19 (by decide))) (by simp), fun h => absurd (h.symm.trans hl) (by simp)⟩
   · refine fun L W hu hd hn hJ => zap (by rfl) hJ ?_
     generalize hev : Act.eval (zag _ _ _ _) = ev
     have t96 : ev (.tmp 96) = .int .i64 (rdOf 0 s.2 x.f2) := by rw [← hev]; rfl
     have t105 : ev (.tmp 105) = .int .i64 n1.length := by rw [← hev]; rfl
     have tc : ∀ v, ev (.const v) = v := fun v => by rw [← hev]; rfl
     clear hev
     first | (go_simp; done) | (go_simp; rfl)
   · intro L W hu hd hn hJ
     have hl := zay _ hn 21 (by decide)
     have h0 := zay _ hd 17 (by decide)
     refine zl1 Try.func115 zq23 rfl (f := 115) (p := .pointer (some ⟨gb, 0, none⟩)) (v1 := .agg #[.string (⟨#[97, 100, 100]⟩), .int .i64 (rdOf 0 s.2 x.f2), .int .i64 n1.length, .int .i64 0]) (by rfl) rfl (by rfl) (by rfl) ?_
     refine (zoo (hJ.2.1 hl h0 hu) NE.out.1 NE.out.2 NEF.out.1 NEF.out.2.1 (⟨#[97, 100, 100]⟩) (rdOf 0 s.2 x.f2) n1.length 0 (by have := HLN.out; simp; omega)).mono ?_
     rintro e W' ⟨he, hA⟩
     exact ⟨he, fun _ h => by simp [riUp, h0] at h, fun _ _ h => by simp [riUp] at h, fun _ _ _ => hA, fun h => absurd (h.symm.trans hl) (by simp)⟩
   · refine fun L W hu hd hn hJ => zap (by rfl) hJ ?_
     generalize hev : Act.eval (zag _ _ _ _) = ev
     have t88 : ev (.tmp 88) = .slice (some ⟨r', 0, none⟩) 6 c' := by rw [← hev]; rfl
     have t90 : ev (.tmp 90) = .int .i64 x.f1 := by rw [← hev]; rfl
     clear hev
     first | (go_simp; done) | (go_simp; rfl)
   · intro L W hu hd hn hJ
     have h0 := zay _ hd 17 (by decide)
     have h1 := zay _ hd 19 (by decide)
     obtain ⟨vo2, hA⟩ := hJ.2.2.1 hu h0 h1
     have hX := hA.sx.setn x.f1 ((n1 ++ [(⟨(⟨#[115, 104, 108]⟩), (rdOf 0 s.2 x.f3), c, 0⟩ : S72)])).length
     refine zkj (by rfl) rfl rfl ⟨fun h => by simp [riUp] at h, fun h => by simp [riUp] at h, fun h => by simp [riUp] at h, fun _ => ⟨vo2, hX⟩⟩ ?_
     obtain ⟨y, y'⟩ := Kd.R_celln 0 hA.sx.nam x.f1 o1 p1
     clear hJ hX
     generalize hev : Act.eval (zag _ _ _ _) = ev
     have t107 : ev (.tmp 107) = .int .i64 ((n1 ++ [(⟨(⟨#[115, 104, 108]⟩), (rdOf 0 s.2 x.f3), c, 0⟩ : S72)])).length := by rw [← hev]; rfl
     have t108 : ev (.tmp 108) = .pointer (some ⟨r', x.f1.toNat, none⟩) := by rw [← hev]; rfl
     clear hev
     first | (go_simp; done) | (go_simp; rfl)
   · intro L W hL hJ
     obtain ⟨vo2, hX⟩ := hJ.2.2.2 (hL 21 rfl)
     have HX2 := zA hX
     clear hX hJ hL hA0
     simp only [zag, riGo, zat, zas, za6, zbi, Nat.reduceBEq, Nat.reduceAdd, List.headD, List.tail, List.getD, List.getElem?_cons_zero, List.getElem?_cons_succ, Option.getD_some, cond_true, cond_false]
     go_wp2_with fail
     go_roundw
     case rel =>
       refine ⟨u + 1, _, vo2, by go_num, by omega, HX2, ⟨?_⟩⟩
       have h := HS1.out
       unfold syDo at h
       simp only at h
       rw [if_neg E1.out, if_neg E2.out, if_pos E3.out, ← HN1.out, ← HCC.out] at h
       exact h
     case measure => simp [intOf]; omega
 have b3 : (x.f0.toList == ([108, 101, 97] : List UInt8)) = false := by simpa using e3
 have E3 := zA e3
 have z0 := zac BF.out 0
 have z1 := zac BF.out 1
 have z2 := zac BF.out 2
 have z3 := zac BF.out 3
 have z4 := zac BF.out 4
 have z5 := zac BF.out 5
 clear e1 e2 e3
 by_cases hbt : bi = true
 · subst hbt
   have HIM := zA (zde HBI.out.symm)
   go_wp2_with (go_at_call 117; go_must (refine (zee q1 q2 q3 q4 q5 q6 true _ (by rw [HBI.out]; rfl)).mono ?_; rintro e w12 ⟨rfl, hb⟩; have HA1 := zA (HA0.out.step hb); clear hb z0 z1 z2 z3 z4 z5))
   clear b1 b2 b3 y0
   have hA0 := HA1.out
   refine zja [[], [], [1], [], [], [4], [], [], [7], [6, 7, 8], [6, 7, 8, 9], [], [4, 5, 6, 7, 8, 9, 10, 11], [3, 4, 5, 6, 7, 8, 9, 10, 11, 12], [0, 1, 2, 3, 4, 5, 6, 7, 8, 9, 10, 11, 12, 13], [0, 1, 2, 3, 4, 5, 6, 7, 8, 9, 10, 11, 12, 13, 14]] [[14, 15], [2, 14, 15], [14, 15], [13, 14, 15], [5, 12, 13, 14, 15], [12, 13, 14, 15], [9, 10, 12, 13, 14, 15], [8, 9, 10, 12, 13, 14, 15], [9, 10, 12, 13, 14, 15], [10, 12, 13, 14, 15], [12, 13, 14, 15], [12, 13, 14, 15], [13, 14, 15], [14, 15], [15], []] (zbi [.slice (some ⟨r', 0, none⟩) 6 c', .pointer (some ⟨gx, 1, none⟩), .int .i64 x.f1, Value.func (.func 115) #[] #[.pointer (some ⟨gb, 0, none⟩)], .pointer (some ⟨gf, 5, none⟩), .string q6, .slice (some ⟨r', 0, none⟩) 6 c', .pointer (some ⟨gx, 2, none⟩), .int .i64 x.f2, .pointer (some ⟨r', x.f2.toNat, none⟩), .int .i64 (rdOf 0 s.2 x.f2), .int .i64 c, .agg #[.string q6, .int .i64 (rdOf 0 s.2 x.f2), .int .i64 c, .int .i64 0], .int .i64 n1.length, .pointer (some ⟨r', x.f1.toNat, none⟩), undef]) (fun L W => (L 15 = false → L 13 = false → SyA w gb r' c' gx gf x q1 q2 q3 q4 q5 q6 (n1, s.2) W) ∧ (L 15 = false → L 13 = true → SyA w gb r' c' gx gf x q1 q2 q3 q4 q5 q6 ((n1 ++ [(⟨q6, (rdOf 0 s.2 x.f2), c, 0⟩ : S72)]), s.2) W) ∧ (L 15 = true → ∃ vo2, SyX w gb r' c' 6 ((n1 ++ [(⟨q6, (rdOf 0 s.2 x.f2), c, 0⟩ : S72)]), s.2.set x.f1.toNat n1.length) vo2 W))
     rfl (fun _ _ _ _ _ h => h) zq23 ?_ ⟨?_, ?_, ?_, ?_, ?_, ?_, ?_, ?_, ?_, ?_, ?_, ?_, ?_, ?_, ?_, ?_, trivial⟩ ?_
   · exact ⟨fun _ _ => hA0.step (zco (Below.refl _ _)), fun _ h => Bool.noConfusion h, fun h => Bool.noConfusion h⟩
   · refine fun L W hu hd hn hJ => zap (by rfl) hJ ?_
     generalize hev : Act.eval (zag _ _ _ _) = ev
     have t7 : ev (.tmp 7) = .slice (some ⟨r', 0, none⟩) 6 c' := by rw [← hev]; rfl
     clear hev
     first | (go_simp; done) | (go_simp; rfl)
   · refine fun L W hu hd hn hJ => zap (by rfl) hJ ?_
     generalize hev : Act.eval (zag _ _ _ _) = ev
     have t10 : ev (.tmp 10) = .pointer (some ⟨gx, 0, none⟩) := by rw [← hev]; rfl
     clear hev
     first | (go_simp; done) | (go_simp; rfl)
   · refine fun L W hu hd hn hJ => zap (by rfl) hJ ?_
     have hl := zay _ hn 15 (by decide)
     obtain ⟨nd, hA⟩ : ∃ nd, SyA w gb r' c' gx gf x q1 q2 q3 q4 q5 q6 (nd, s.2) W := (match h0 : L 13 with | false => ⟨_, hJ.1 hl h0⟩ | true => ⟨_, hJ.2.1 hl h0⟩)
     clear hJ
     have y := zac hA.bx 1
     generalize hev : Act.eval (zag _ _ _ _) = ev
     have t113 : ev (.tmp 113) = .pointer (some ⟨gx, 1, none⟩) := by rw [← hev]; rfl
     clear hev
     first | (go_simp; done) | (go_simp; rfl)
   · refine fun L W hu hd hn hJ => zap (by rfl) hJ ?_
     generalize hev : Act.eval (zag _ _ _ _) = ev
     have t8 : ev (.tmp 8) = Value.func (.func 115) #[] #[.pointer (some ⟨gb, 0, none⟩)] := by rw [← hev]; rfl
     clear hev
     first | (go_simp; done) | (go_simp; rfl)
   · refine fun L W hu hd hn hJ => zap (by rfl) hJ ?_
     generalize hev : Act.eval (zag _ _ _ _) = ev
     have t11 : ev (.tmp 11) = .pointer (some ⟨gf, 0, none⟩) := by rw [← hev]; rfl
     clear hev
     first | (go_simp; done) | (go_simp; rfl)
   · refine fun L W hu hd hn hJ => zap (by rfl) hJ ?_
     have hl := zay _ hn 15 (by decide)
     obtain ⟨nd, hA⟩ : ∃ nd, SyA w gb r' c' gx gf x q1 q2 q3 q4 q5 q6 (nd, s.2) W := (match h0 : L 13 with | false => ⟨_, hJ.1 hl h0⟩ | true => ⟨_, hJ.2.1 hl h0⟩)
     clear hJ
     have y := zac hA.bf 5
     generalize hev : Act.eval (zag _ _ _ _) = ev
     have t116 : ev (.tmp 116) = .pointer (some ⟨gf, 5, none⟩) := by rw [← hev]; rfl
     clear hev
     first | (go_simp; done) | (go_simp; rfl)
   · refine fun L W hu hd hn hJ => zap (by rfl) hJ ?_
     generalize hev : Act.eval (zag _ _ _ _) = ev
     have t7 : ev (.tmp 7) = .slice (some ⟨r', 0, none⟩) 6 c' := by rw [← hev]; rfl
     clear hev
     first | (go_simp; done) | (go_simp; rfl)
   · refine fun L W hu hd hn hJ => zap (by rfl) hJ ?_
     generalize hev : Act.eval (zag _ _ _ _) = ev
     have t10 : ev (.tmp 10) = .pointer (some ⟨gx, 0, none⟩) := by rw [← hev]; rfl
     clear hev
     first | (go_simp; done) | (go_simp; rfl)
   · refine fun L W hu hd hn hJ => zap (by rfl) hJ ?_
     have hl := zay _ hn 15 (by decide)
     obtain ⟨nd, hA⟩ : ∃ nd, SyA w gb r' c' gx gf x q1 q2 q3 q4 q5 q6 (nd, s.2) W := (match h0 : L 13 with | false => ⟨_, hJ.1 hl h0⟩ | true => ⟨_, hJ.2.1 hl h0⟩)
     clear hJ
     have y := zac hA.bx 2
     generalize hev : Act.eval (zag _ _ _ _) = ev
     have t119 : ev (.tmp 119) = .pointer (some ⟨gx, 2, none⟩) := by rw [← hev]; rfl
     clear hev
     first | (go_simp; done) | (go_simp; rfl)
   · refine fun L W hu hd hn hJ => zap (by rfl) hJ ?_
     generalize hev : Act.eval (zag _ _ _ _) = ev
     have t118 : ev (.tmp 118) = .slice (some ⟨r', 0, none⟩) 6 c' := by rw [← hev]; rfl
     have t120 : ev (.tmp 120) = .int .i64 x.f2 := by rw [← hev]; rfl
     clear hev
     first | (go_simp; done) | (go_simp; rfl)
   · refine fun L W hu hd hn hJ => zap (by rfl) hJ ?_
     have hl := zay _ hn 15 (by decide)
     obtain ⟨nd, hA⟩ : ∃ nd, SyA w gb r' c' gx gf x q1 q2 q3 q4 q5 q6 (nd, s.2) W := (match h0 : L 13 with | false => ⟨_, hJ.1 hl h0⟩ | true => ⟨_, hJ.2.1 hl h0⟩)
     clear hJ
     obtain ⟨y, _⟩ := Kd.R_celln 0 hA.nam x.f2 o2 p2
     generalize hev : Act.eval (zag _ _ _ _) = ev
     have t121 : ev (.tmp 121) = .pointer (some ⟨r', x.f2.toNat, none⟩) := by rw [← hev]; rfl
     clear hev
     first | (go_simp; done) | (go_simp; rfl)
   · refine fun L W hu hd hn hJ => zap (by rfl) hJ ?_
     generalize hev : Act.eval (zag _ _ _ _) = ev
     have t13 : ev (.tmp 13) = .int .i64 c := by rw [← hev]; rfl
     clear hev
     first | (go_simp; done) | (go_simp; rfl)
   · refine fun L W hu hd hn hJ => zap (by rfl) hJ ?_
     generalize hev : Act.eval (zag _ _ _ _) = ev
     have t117 : ev (.tmp 117) = .string q6 := by rw [← hev]; rfl
     have t122 : ev (.tmp 122) = .int .i64 (rdOf 0 s.2 x.f2) := by rw [← hev]; rfl
     have t123 : ev (.tmp 123) = .int .i64 c := by rw [← hev]; rfl
     have tc : ∀ v, ev (.const v) = v := fun v => by rw [← hev]; rfl
     clear hev
     first | (go_simp; done) | (go_simp; rfl)
   · intro L W hu hd hn hJ
     have hl := zay _ hn 15 (by decide)
     refine zl1 Try.func115 zq23 rfl (f := 115) (p := .pointer (some ⟨gb, 0, none⟩)) (v1 := .agg #[.string q6, .int .i64 (rdOf 0 s.2 x.f2), .int .i64 c, .int .i64 0]) (by rfl) rfl (by rfl) (by rfl) ?_
     refine (zoo (hJ.1 hl hu) NE.out.1 NE.out.2 NEF.out.1 NEF.out.2.1 q6 (rdOf 0 s.2 x.f2) c 0 (by have := HLN.out; simp; omega)).mono ?_
     rintro e W' ⟨he, hA⟩
     exact ⟨he, fun _ h => by simp [riUp] at h, fun _ _ => hA, fun h => absurd (h.symm.trans hl) (by simp)⟩
   · refine fun L W hu hd hn hJ => zap (by rfl) hJ ?_
     generalize hev : Act.eval (zag _ _ _ _) = ev
     have t112 : ev (.tmp 112) = .slice (some ⟨r', 0, none⟩) 6 c' := by rw [← hev]; rfl
     have t114 : ev (.tmp 114) = .int .i64 x.f1 := by rw [← hev]; rfl
     clear hev
     first | (go_simp; done) | (go_simp; rfl)
   · intro L W hu hd hn hJ
     have h0 := zay _ hd 13 (by decide)
     obtain ⟨vo2, hA⟩ := hJ.2.1 hu h0
     have hX := hA.sx.setn x.f1 n1.length
     refine zkj (by rfl) rfl rfl ⟨fun h => by simp [riUp] at h, fun h => by simp [riUp] at h, fun _ => ⟨vo2, hX⟩⟩ ?_
     obtain ⟨y, y'⟩ := Kd.R_celln 0 hA.sx.nam x.f1 o1 p1
     clear hJ hX
     generalize hev : Act.eval (zag _ _ _ _) = ev
     have t125 : ev (.tmp 125) = .int .i64 n1.length := by rw [← hev]; rfl
     have t126 : ev (.tmp 126) = .pointer (some ⟨r', x.f1.toNat, none⟩) := by rw [← hev]; rfl
     clear hev
     first | (go_simp; done) | (go_simp; rfl)
   · intro L W hL hJ
     obtain ⟨vo2, hX⟩ := hJ.2.2 (hL 15 rfl)
     have HX2 := zA hX
     clear hX hJ hL hA0
     simp only [zag, riGo, zat, zas, za6, zbi, Nat.reduceBEq, Nat.reduceAdd, List.headD, List.tail, List.getD, List.getElem?_cons_zero, List.getElem?_cons_succ, Option.getD_some, cond_true, cond_false]
     go_wp2_with fail
     go_roundw
     case rel =>
       refine ⟨u + 1, _, vo2, by go_num, by omega, HX2, ⟨?_⟩⟩
       have h := HS1.out
       unfold syDo at h
       simp only at h
       rw [if_neg E1.out, if_neg E2.out, if_neg E3.out, ← HN1.out, ← HCC.out, if_pos HIM.out] at h
       exact h
     case measure => simp [intOf]; omega
 obtain rfl : bi = false := by simpa using hbt
 have HIM := zA (of_decide_eq_false HBI.out.symm)
 clear hbt
 by_cases hq2 : q2 = true
 rotate_left
 · obtain rfl : q2 = false := by simpa using hq2
   clear hq2
   go_wp2_with (go_at_call 117; go_must (refine (zee q1 false q3 q4 q5 q6 false _ (by rw [HBI.out]; rfl)).mono ?_; rintro e w12 ⟨rfl, hb⟩; have HA1 := zA (HA0.out.step hb); have zb := zac HA1.out.bf 1; clear hb z0 z1 z2 z3 z4 z5))
   clear b1 b2 b3 y0 zb
   have hA0 := HA1.out
   refine zja [[], [], [1], [], [], [4], [], [], [7], [6, 7, 8], [6, 7, 8, 9], [4, 5, 6, 7, 8, 9, 10], [3, 4, 5, 6, 7, 8, 9, 10, 11], [0, 1, 2, 3, 4, 5, 6, 7, 8, 9, 10, 11, 12], [0, 1, 2, 3, 4, 5, 6, 7, 8, 9, 10, 11, 12, 13]] [[13, 14], [2, 13, 14], [13, 14], [12, 13, 14], [5, 11, 12, 13, 14], [11, 12, 13, 14], [9, 10, 11, 12, 13, 14], [8, 9, 10, 11, 12, 13, 14], [9, 10, 11, 12, 13, 14], [10, 11, 12, 13, 14], [11, 12, 13, 14], [12, 13, 14], [13, 14], [14], []] (zbi [.slice (some ⟨r', 0, none⟩) 6 c', .pointer (some ⟨gx, 1, none⟩), .int .i64 x.f1, Value.func (.func 115) #[] #[.pointer (some ⟨gb, 0, none⟩)], .pointer (some ⟨gf, 5, none⟩), .string q6, .slice (some ⟨r', 0, none⟩) 6 c', .pointer (some ⟨gx, 2, none⟩), .int .i64 x.f2, .pointer (some ⟨r', x.f2.toNat, none⟩), .int .i64 (rdOf 0 s.2 x.f2), .agg #[.string q6, .int .i64 (rdOf 0 s.2 x.f2), .int .i64 0, .int .i64 0], .int .i64 n1.length, .pointer (some ⟨r', x.f1.toNat, none⟩), undef]) (fun L W => (L 14 = false → L 12 = false → SyA w gb r' c' gx gf x q1 false q3 q4 q5 q6 (n1, s.2) W) ∧ (L 14 = false → L 12 = true → SyA w gb r' c' gx gf x q1 false q3 q4 q5 q6 ((n1 ++ [(⟨q6, (rdOf 0 s.2 x.f2), 0, 0⟩ : S72)]), s.2) W) ∧ (L 14 = true → ∃ vo2, SyX w gb r' c' 6 ((n1 ++ [(⟨q6, (rdOf 0 s.2 x.f2), 0, 0⟩ : S72)]), s.2.set x.f1.toNat n1.length) vo2 W))
     rfl (fun _ _ _ _ _ h => h) zq23 ?_ ⟨?_, ?_, ?_, ?_, ?_, ?_, ?_, ?_, ?_, ?_, ?_, ?_, ?_, ?_, ?_, trivial⟩ ?_
   · exact ⟨fun _ _ => hA0.step (zco (Below.refl _ _)), fun _ h => Bool.noConfusion h, fun h => Bool.noConfusion h⟩
   · refine fun L W hu hd hn hJ => zap (by rfl) hJ ?_
     generalize hev : Act.eval (zag _ _ _ _) = ev
     have t7 : ev (.tmp 7) = .slice (some ⟨r', 0, none⟩) 6 c' := by rw [← hev]; rfl
     clear hev
     first | (go_simp; done) | (go_simp; rfl)
   · refine fun L W hu hd hn hJ => zap (by rfl) hJ ?_
     generalize hev : Act.eval (zag _ _ _ _) = ev
     have t10 : ev (.tmp 10) = .pointer (some ⟨gx, 0, none⟩) := by rw [← hev]; rfl
     clear hev
     first | (go_simp; done) | (go_simp; rfl)
   · refine fun L W hu hd hn hJ => zap (by rfl) hJ ?_
     have hl := zay _ hn 14 (by decide)
     obtain ⟨nd, hA⟩ : ∃ nd, SyA w gb r' c' gx gf x q1 false q3 q4 q5 q6 (nd, s.2) W := (match h0 : L 12 with | false => ⟨_, hJ.1 hl h0⟩ | true => ⟨_, hJ.2.1 hl h0⟩)
     clear hJ
     have y := zac hA.bx 1
     generalize hev : Act.eval (zag _ _ _ _) = ev
     have t49 : ev (.tmp 49) = .pointer (some ⟨gx, 1, none⟩) := by rw [← hev]; rfl
     clear hev
     first | (go_simp; done) | (go_simp; rfl)
   · refine fun L W hu hd hn hJ => zap (by rfl) hJ ?_
     generalize hev : Act.eval (zag _ _ _ _) = ev
     have t8 : ev (.tmp 8) = Value.func (.func 115) #[] #[.pointer (some ⟨gb, 0, none⟩)] := by rw [← hev]; rfl
     clear hev
     first | (go_simp; done) | (go_simp; rfl)
   · refine fun L W hu hd hn hJ => zap (by rfl) hJ ?_
     generalize hev : Act.eval (zag _ _ _ _) = ev
     have t11 : ev (.tmp 11) = .pointer (some ⟨gf, 0, none⟩) := by rw [← hev]; rfl
     clear hev
     first | (go_simp; done) | (go_simp; rfl)
   · refine fun L W hu hd hn hJ => zap (by rfl) hJ ?_
     have hl := zay _ hn 14 (by decide)
     obtain ⟨nd, hA⟩ : ∃ nd, SyA w gb r' c' gx gf x q1 false q3 q4 q5 q6 (nd, s.2) W := (match h0 : L 12 with | false => ⟨_, hJ.1 hl h0⟩ | true => ⟨_, hJ.2.1 hl h0⟩)
     clear hJ
     have y := zac hA.bf 5
     generalize hev : Act.eval (zag _ _ _ _) = ev
     have t52 : ev (.tmp 52) = .pointer (some ⟨gf, 5, none⟩) := by rw [← hev]; rfl
     clear hev
     first | (go_simp; done) | (go_simp; rfl)
   · refine fun L W hu hd hn hJ => zap (by rfl) hJ ?_
     generalize hev : Act.eval (zag _ _ _ _) = ev
     have t7 : ev (.tmp 7) = .slice (some ⟨r', 0, none⟩) 6 c' := by rw [← hev]; rfl
     clear hev
     first | (go_simp; done) | (go_simp; rfl)
   · refine fun L W hu hd hn hJ => zap (by rfl) hJ ?_
     generalize hev : Act.eval (zag _ _ _ _) = ev
     have t10 : ev (.tmp 10) = .pointer (some ⟨gx, 0, none⟩) := by rw [← hev]; rfl
     clear hev
     first | (go_simp; done) | (go_simp; rfl)
   · refine fun L W hu hd hn hJ => zap (by rfl) hJ ?_
     have hl := zay _ hn 14 (by decide)
     obtain ⟨nd, hA⟩ : ∃ nd, SyA w gb r' c' gx gf x q1 false q3 q4 q5 q6 (nd, s.2) W := (match h0 : L 12 with | false => ⟨_, hJ.1 hl h0⟩ | true => ⟨_, hJ.2.1 hl h0⟩)
     clear hJ
     have y := zac hA.bx 2
     generalize hev : Act.eval (zag _ _ _ _) = ev
     have t55 : ev (.tmp 55) = .pointer (some ⟨gx, 2, none⟩) := by rw [← hev]; rfl
     clear hev
     first | (go_simp; done) | (go_simp; rfl)
   · refine fun L W hu hd hn hJ => zap (by rfl) hJ ?_
     generalize hev : Act.eval (zag _ _ _ _) = ev
     have t54 : ev (.tmp 54) = .slice (some ⟨r', 0, none⟩) 6 c' := by rw [← hev]; rfl
     have t56 : ev (.tmp 56) = .int .i64 x.f2 := by rw [← hev]; rfl
     clear hev
     first | (go_simp; done) | (go_simp; rfl)
   · refine fun L W hu hd hn hJ => zap (by rfl) hJ ?_
     have hl := zay _ hn 14 (by decide)
     obtain ⟨nd, hA⟩ : ∃ nd, SyA w gb r' c' gx gf x q1 false q3 q4 q5 q6 (nd, s.2) W := (match h0 : L 12 with | false => ⟨_, hJ.1 hl h0⟩ | true => ⟨_, hJ.2.1 hl h0⟩)
     clear hJ
     obtain ⟨y, _⟩ := Kd.R_celln 0 hA.nam x.f2 o2 p2
     generalize hev : Act.eval (zag _ _ _ _) = ev
     have t57 : ev (.tmp 57) = .pointer (some ⟨r', x.f2.toNat, none⟩) := by rw [← hev]; rfl
     clear hev
     first | (go_simp; done) | (go_simp; rfl)
   · refine fun L W hu hd hn hJ => zap (by rfl) hJ ?_
     generalize hev : Act.eval (zag _ _ _ _) = ev
     have t53 : ev (.tmp 53) = .string q6 := by rw [← hev]; rfl
     have t58 : ev (.tmp 58) = .int .i64 (rdOf 0 s.2 x.f2) := by rw [← hev]; rfl
     have tc : ∀ v, ev (.const v) = v := fun v => by rw [← hev]; rfl
     clear hev
     first | (go_simp; done) | (go_simp; rfl)
   · intro L W hu hd hn hJ
     have hl := zay _ hn 14 (by decide)
     refine zl1 Try.func115 zq23 rfl (f := 115) (p := .pointer (some ⟨gb, 0, none⟩)) (v1 := .agg #[.string q6, .int .i64 (rdOf 0 s.2 x.f2), .int .i64 0, .int .i64 0]) (by rfl) rfl (by rfl) (by rfl) ?_
     refine (zoo (hJ.1 hl hu) NE.out.1 NE.out.2 NEF.out.1 NEF.out.2.1 q6 (rdOf 0 s.2 x.f2) 0 0 (by have := HLN.out; simp; omega)).mono ?_
     rintro e W' ⟨he, hA⟩
     exact ⟨he, fun _ h => by simp [riUp] at h, fun _ _ => hA, fun h => absurd (h.symm.trans hl) (by simp)⟩
   · refine fun L W hu hd hn hJ => zap (by rfl) hJ ?_
     generalize hev : Act.eval (zag _ _ _ _) = ev
     have t48 : ev (.tmp 48) = .slice (some ⟨r', 0, none⟩) 6 c' := by rw [← hev]; rfl
     have t50 : ev (.tmp 50) = .int .i64 x.f1 := by rw [← hev]; rfl
     clear hev
     first | (go_simp; done) | (go_simp; rfl)
   · intro L W hu hd hn hJ
     have h0 := zay _ hd 12 (by decide)
     obtain ⟨vo2, hA⟩ := hJ.2.1 hu h0
     have hX := hA.sx.setn x.f1 n1.length
     refine zkj (by rfl) rfl rfl ⟨fun h => by simp [riUp] at h, fun h => by simp [riUp] at h, fun _ => ⟨vo2, hX⟩⟩ ?_
     obtain ⟨y, y'⟩ := Kd.R_celln 0 hA.sx.nam x.f1 o1 p1
     clear hJ hX
     generalize hev : Act.eval (zag _ _ _ _) = ev
     have t60 : ev (.tmp 60) = .int .i64 n1.length := by rw [← hev]; rfl
     have t61 : ev (.tmp 61) = .pointer (some ⟨r', x.f1.toNat, none⟩) := by rw [← hev]; rfl
     clear hev
     first | (go_simp; done) | (go_simp; rfl)
   · intro L W hL hJ
     obtain ⟨vo2, hX⟩ := hJ.2.2 (hL 14 rfl)
     have HX2 := zA hX
     clear hX hJ hL hA0
     simp only [zag, riGo, zat, zas, za6, zbi, Nat.reduceBEq, Nat.reduceAdd, List.headD, List.tail, List.getD, List.getElem?_cons_zero, List.getElem?_cons_succ, Option.getD_some, cond_true, cond_false]
     go_wp2_with fail
     go_roundw
     case rel =>
       refine ⟨u + 1, _, vo2, by go_num, by omega, HX2, ⟨?_⟩⟩
       have h := HS1.out
       unfold syDo at h
       simp only at h
       rw [if_neg E1.out, if_neg E2.out, if_neg E3.out, ← HN1.out, if_neg (by have := HIM.out; omega), if_neg (by decide)] at h
       exact h
     case measure => simp [intOf]; omega
 subst hq2
 go_wp2_with (go_at_call 117; go_must (refine (zee q1 true q3 q4 q5 q6 false _ (by rw [HBI.out]; rfl)).mono ?_; rintro e w12 ⟨rfl, hb⟩; have HA1 := zA (HA0.out.step hb); have zb := zac HA1.out.bf 1; clear hb z0 z1 z2 z3 z4 z5))
 clear b1 b2 b3 y0 zb
 have hA0 := HA1.out
 refine zja [[], [], [1], [], [], [4], [], [], [7], [6, 7, 8], [6, 7, 8, 9], [], [], [12], [11, 12, 13], [11, 12, 13, 14], [4, 5, 6, 7, 8, 9, 10, 11, 12, 13, 14, 15], [3, 4, 5, 6, 7, 8, 9, 10, 11, 12, 13, 14, 15, 16], [0, 1, 2, 3, 4, 5, 6, 7, 8, 9, 10, 11, 12, 13, 14, 15, 16, 17], [0, 1, 2, 3, 4, 5, 6, 7, 8, 9, 10, 11, 12, 13, 14, 15, 16, 17, 18]] [[18, 19], [2, 18, 19], [18, 19], [17, 18, 19], [5, 16, 17, 18, 19], [16, 17, 18, 19], [9, 10, 16, 17, 18, 19], [8, 9, 10, 16, 17, 18, 19], [9, 10, 16, 17, 18, 19], [10, 16, 17, 18, 19], [16, 17, 18, 19], [14, 15, 16, 17, 18, 19], [13, 14, 15, 16, 17, 18, 19], [14, 15, 16, 17, 18, 19], [15, 16, 17, 18, 19], [16, 17, 18, 19], [17, 18, 19], [18, 19], [19], []] (zbi [.slice (some ⟨r', 0, none⟩) 6 c', .pointer (some ⟨gx, 1, none⟩), .int .i64 x.f1, Value.func (.func 115) #[] #[.pointer (some ⟨gb, 0, none⟩)], .pointer (some ⟨gf, 5, none⟩), .string q6, .slice (some ⟨r', 0, none⟩) 6 c', .pointer (some ⟨gx, 2, none⟩), .int .i64 x.f2, .pointer (some ⟨r', x.f2.toNat, none⟩), .int .i64 (rdOf 0 s.2 x.f2), .slice (some ⟨r', 0, none⟩) 6 c', .pointer (some ⟨gx, 3, none⟩), .int .i64 x.f3, .pointer (some ⟨r', x.f3.toNat, none⟩), .int .i64 (rdOf 0 s.2 x.f3), .agg #[.string q6, .int .i64 (rdOf 0 s.2 x.f2), .int .i64 (rdOf 0 s.2 x.f3), .int .i64 0], .int .i64 n1.length, .pointer (some ⟨r', x.f1.toNat, none⟩), undef]) (fun L W => (L 19 = false → L 17 = false → SyA w gb r' c' gx gf x q1 true q3 q4 q5 q6 (n1, s.2) W) ∧ (L 19 = false → L 17 = true → SyA w gb r' c' gx gf x q1 true q3 q4 q5 q6 ((n1 ++ [(⟨q6, (rdOf 0 s.2 x.f2), (rdOf 0 s.2 x.f3), 0⟩ : S72)]), s.2) W) ∧ (L 19 = true → ∃ vo2, SyX w gb r' c' 6 ((n1 ++ [(⟨q6, (rdOf 0 s.2 x.f2), (rdOf 0 s.2 x.f3), 0⟩ : S72)]), s.2.set x.f1.toNat n1.length) vo2 W))
   rfl (fun _ _ _ _ _ h => h) zq23 ?_ ⟨?_, ?_, ?_, ?_, ?_, ?_, ?_, ?_, ?_, ?_, ?_, ?_, ?_, ?_, ?_, ?_, ?_, ?_, ?_, ?_, trivial⟩ ?_
 · exact ⟨fun _ _ => hA0.step (zco (Below.refl _ _)), fun _ h => Bool.noConfusion h, fun h => Bool.noConfusion h⟩
 · refine fun L W hu hd hn hJ => zap (by rfl) hJ ?_
   generalize hev : Act.eval (zag _ _ _ _) = ev
   have t7 : ev (.tmp 7) = .slice (some ⟨r', 0, none⟩) 6 c' := by rw [← hev]; rfl
   clear hev
   first | (go_simp; done) | (go_simp; rfl)
 · refine fun L W hu hd hn hJ => zap (by rfl) hJ ?_
   generalize hev : Act.eval (zag _ _ _ _) = ev
   have t10 : ev (.tmp 10) = .pointer (some ⟨gx, 0, none⟩) := by rw [← hev]; rfl
   clear hev
   first | (go_simp; done) | (go_simp; rfl)
 · refine fun L W hu hd hn hJ => zap (by rfl) hJ ?_
   have hl := zay _ hn 19 (by decide)
   obtain ⟨nd, hA⟩ : ∃ nd, SyA w gb r' c' gx gf x q1 true q3 q4 q5 q6 (nd, s.2) W := (match h0 : L 17 with | false => ⟨_, hJ.1 hl h0⟩ | true => ⟨_, hJ.2.1 hl h0⟩)
   clear hJ
   have y := zac hA.bx 1
   generalize hev : Act.eval (zag _ _ _ _) = ev
   have t131 : ev (.tmp 131) = .pointer (some ⟨gx, 1, none⟩) := by rw [← hev]; rfl
   clear hev
   first | (go_simp; done) | (go_simp; rfl)
 · refine fun L W hu hd hn hJ => zap (by rfl) hJ ?_
   generalize hev : Act.eval (zag _ _ _ _) = ev
   have t8 : ev (.tmp 8) = Value.func (.func 115) #[] #[.pointer (some ⟨gb, 0, none⟩)] := by rw [← hev]; rfl
   clear hev
   first | (go_simp; done) | (go_simp; rfl)
 · refine fun L W hu hd hn hJ => zap (by rfl) hJ ?_
   generalize hev : Act.eval (zag _ _ _ _) = ev
   have t11 : ev (.tmp 11) = .pointer (some ⟨gf, 0, none⟩) := by rw [← hev]; rfl
   clear hev
   first | (go_simp; done) | (go_simp; rfl)
 · refine fun L W hu hd hn hJ => zap (by rfl) hJ ?_
   have hl := zay _ hn 19 (by decide)
   obtain ⟨nd, hA⟩ : ∃ nd, SyA w gb r' c' gx gf x q1 true q3 q4 q5 q6 (nd, s.2) W := (match h0 : L 17 with | false => ⟨_, hJ.1 hl h0⟩ | true => ⟨_, hJ.2.1 hl h0⟩)
   clear hJ
   have y := zac hA.bf 5
   generalize hev : Act.eval (zag _ _ _ _) = ev
   have t134 : ev (.tmp 134) = .pointer (some ⟨gf, 5, none⟩) := by rw [← hev]; rfl
   clear hev
   first | (go_simp; done) | (go_simp; rfl)
 · refine fun L W hu hd hn hJ => zap (by rfl) hJ ?_
   generalize hev : Act.eval (zag _ _ _ _) = ev
   have t7 : ev (.tmp 7) = .slice (some ⟨r', 0, none⟩) 6 c' := by rw [← hev]; rfl
   clear hev
   first | (go_simp; done) | (go_simp; rfl)
 · refine fun L W hu hd hn hJ => zap (by rfl) hJ ?_
   generalize hev : Act.eval (zag _ _ _ _) = ev
   have t10 : ev (.tmp 10) = .pointer (some ⟨gx, 0, none⟩) := by rw [← hev]; rfl
   clear hev
   first | (go_simp; done) | (go_simp; rfl)
 · refine fun L W hu hd hn hJ => zap (by rfl) hJ ?_
   have hl := zay _ hn 19 (by decide)
   obtain ⟨nd, hA⟩ : ∃ nd, SyA w gb r' c' gx gf x q1 true q3 q4 q5 q6 (nd, s.2) W := (match h0 : L 17 with | false => ⟨_, hJ.1 hl h0⟩ | true => ⟨_, hJ.2.1 hl h0⟩)
   clear hJ
   have y := zac hA.bx 2
   generalize hev : Act.eval (zag _ _ _ _) = ev
   have t137 : ev (.tmp 137) = .pointer (some ⟨gx, 2, none⟩) := by rw [← hev]; rfl
   clear hev
   first | (go_simp; done) | (go_simp; rfl)
 · refine fun L W hu hd hn hJ => zap (by rfl) hJ ?_
   generalize hev : Act.eval (zag _ _ _ _) = ev
   have t136 : ev (.tmp 136) = .slice (some ⟨r', 0, none⟩) 6 c' := by rw [← hev]; rfl
   have t138 : ev (.tmp 138) = .int .i64 x.f2 := by rw [← hev]; rfl
   clear hev
   first | (go_simp; done) | (go_simp; rfl)
 · refine fun L W hu hd hn hJ => zap (by rfl) hJ ?_
   have hl := zay _ hn 19 (by decide)
   obtain ⟨nd, hA⟩ : ∃ nd, SyA w gb r' c' gx gf x q1 true q3 q4 q5 q6 (nd, s.2) W := (match h0 : L 17 with | false => ⟨_, hJ.1 hl h0⟩ | true => ⟨_, hJ.2.1 hl h0⟩)
   clear hJ
   obtain ⟨y, _⟩ := Kd.R_celln 0 hA.nam x.f2 o2 p2
   generalize hev : Act.eval (zag _ _ _ _) = ev
   have t139 : ev (.tmp 139) = .pointer (some ⟨r', x.f2.toNat, none⟩) := by rw [← hev]; rfl
   clear hev
   first | (go_simp; done) | (go_simp; rfl)
 · refine fun L W hu hd hn hJ => zap (by rfl) hJ ?_
   generalize hev : Act.eval (zag _ _ _ _) = ev
   have t7 : ev (.tmp 7) = .slice (some ⟨r', 0, none⟩) 6 c' := by rw [← hev]; rfl
   clear hev
   first | (go_simp; done) | (go_simp; rfl)
 · refine fun L W hu hd hn hJ => zap (by rfl) hJ ?_
   generalize hev : Act.eval (zag _ _ _ _) = ev
   have t10 : ev (.tmp 10) = .pointer (some ⟨gx, 0, none⟩) := by rw [← hev]; rfl
   clear hev
   first | (go_simp; done) | (go_simp; rfl)
 · refine fun L W hu hd hn hJ => zap (by rfl) hJ ?_
   have hl := zay _ hn 19 (by decide)
   obtain ⟨nd, hA⟩ : ∃ nd, SyA w gb r' c' gx gf x q1 true q3 q4 q5 q6 (nd, s.2) W := (match h0 : L 17 with | false => ⟨_, hJ.1 hl h0⟩ | true => ⟨_, hJ.2.1 hl h0⟩)
   clear hJ
   have y := zac hA.bx 3
   generalize hev : Act.eval (zag _ _ _ _) = ev
   have t142 : ev (.tmp 142) = .pointer (some ⟨gx, 3, none⟩) := by rw [← hev]; rfl
   clear hev
   first | (go_simp; done) | (go_simp; rfl)
 · refine fun L W hu hd hn hJ => zap (by rfl) hJ ?_
   generalize hev : Act.eval (zag _ _ _ _) = ev
   have t141 : ev (.tmp 141) = .slice (some ⟨r', 0, none⟩) 6 c' := by rw [← hev]; rfl
   have t143 : ev (.tmp 143) = .int .i64 x.f3 := by rw [← hev]; rfl
   clear hev
   first | (go_simp; done) | (go_simp; rfl)
 · refine fun L W hu hd hn hJ => zap (by rfl) hJ ?_
   have hl := zay _ hn 19 (by decide)
   obtain ⟨nd, hA⟩ : ∃ nd, SyA w gb r' c' gx gf x q1 true q3 q4 q5 q6 (nd, s.2) W := (match h0 : L 17 with | false => ⟨_, hJ.1 hl h0⟩ | true => ⟨_, hJ.2.1 hl h0⟩)
   clear hJ
   obtain ⟨y, _⟩ := Kd.R_celln 0 hA.nam x.f3 o3 p3
   generalize hev : Act.eval (zag _ _ _ _) = ev
   have t144 : ev (.tmp 144) = .pointer (some ⟨r', x.f3.toNat, none⟩) := by rw [← hev]; rfl
   clear hev
   first | (go_simp; done) | (go_simp; rfl)
 · refine fun L W hu hd hn hJ => zap (by rfl) hJ ?_
   generalize hev : Act.eval (zag _ _ _ _) = ev
   have t135 : ev (.tmp 135) = .string q6 := by rw [← hev]; rfl
   have t140 : ev (.tmp 140) = .int .i64 (rdOf 0 s.2 x.f2) := by rw [← hev]; rfl
   have t145 : ev (.tmp 145) = .int .i64 (rdOf 0 s.2 x.f3) := by rw [← hev]; rfl
   have tc : ∀ v, ev (.const v) = v := fun v => by rw [← hev]; rfl
   clear hev
   first | (go_simp; done) | (go_simp; rfl)
 · intro L W hu hd hn hJ
   have hl := zay _ hn 19 (by decide)
   refine zl1 Try.func115 zq23 rfl (f := 115) (p := .pointer (some ⟨gb, 0, none⟩)) (v1 := .agg #[.string q6, .int .i64 (rdOf 0 s.2 x.f2), .int .i64 (rdOf 0 s.2 x.f3), .int .i64 0]) (by rfl) rfl (by rfl) (by rfl) ?_
   refine (zoo (hJ.1 hl hu) NE.out.1 NE.out.2 NEF.out.1 NEF.out.2.1 q6 (rdOf 0 s.2 x.f2) (rdOf 0 s.2 x.f3) 0 (by have := HLN.out; simp; omega)).mono ?_
   rintro e W' ⟨he, hA⟩
   exact ⟨he, fun _ h => by simp [riUp] at h, fun _ _ => hA, fun h => absurd (h.symm.trans hl) (by simp)⟩
 · refine fun L W hu hd hn hJ => zap (by rfl) hJ ?_
   generalize hev : Act.eval (zag _ _ _ _) = ev
   have t130 : ev (.tmp 130) = .slice (some ⟨r', 0, none⟩) 6 c' := by rw [← hev]; rfl
   have t132 : ev (.tmp 132) = .int .i64 x.f1 := by rw [← hev]; rfl
   clear hev
   first | (go_simp; done) | (go_simp; rfl)
 · intro L W hu hd hn hJ
   have h0 := zay _ hd 17 (by decide)
   obtain ⟨vo2, hA⟩ := hJ.2.1 hu h0
   have hX := hA.sx.setn x.f1 n1.length
   refine zkj (by rfl) rfl rfl ⟨fun h => by simp [riUp] at h, fun h => by simp [riUp] at h, fun _ => ⟨vo2, hX⟩⟩ ?_
   obtain ⟨y, y'⟩ := Kd.R_celln 0 hA.sx.nam x.f1 o1 p1
   clear hJ hX
   generalize hev : Act.eval (zag _ _ _ _) = ev
   have t147 : ev (.tmp 147) = .int .i64 n1.length := by rw [← hev]; rfl
   have t148 : ev (.tmp 148) = .pointer (some ⟨r', x.f1.toNat, none⟩) := by rw [← hev]; rfl
   clear hev
   first | (go_simp; done) | (go_simp; rfl)
 · intro L W hL hJ
   obtain ⟨vo2, hX⟩ := hJ.2.2 (hL 19 rfl)
   have HX2 := zA hX
   clear hX hJ hL hA0
   simp only [zag, riGo, zat, zas, za6, zbi, Nat.reduceBEq, Nat.reduceAdd, List.headD, List.tail, List.getD, List.getElem?_cons_zero, List.getElem?_cons_succ, Option.getD_some, cond_true, cond_false]
   go_wp2_with fail
   go_roundw
   case rel =>
     refine ⟨u + 1, _, vo2, by go_num, by omega, HX2, ⟨?_⟩⟩
     have h := HS1.out
     unfold syDo at h
     simp only at h
     rw [if_neg E1.out, if_neg E2.out, if_neg E3.out, ← HN1.out, if_neg (by have := HIM.out; omega), if_pos trivial] at h
     exact h
   case measure => simp [intOf]; omega
theorem zny : ∀ a0 a1 k, LeO (zdq k a0 a1) (zdq (k + 1) a0 a1) := by
 intro a0 a1 k
 unfold zdq
 exact zbh (LeO.bind (LeO.refl _) (fun _ => zbh (LeO.bind (zk9 _ _ _) (fun _ => LeO.bind (zie _ _) (fun _ => LeO.bind (znx _ _) (fun _ => LeO.refl _)))) (LeO.refl _))) (LeO.refl _)
end Go.Proofs.Ytkfkbmlbpeojaaa.Q
end
section
namespace Go.Proofs.Ytkfkbmlbpeojaaa.Q
open Go.RowKit Go.Proofs.YtkfkbmlbpeojaaaW.PrintWords Go.Proofs.YtkfkbmlbpeojaaaW.PrintLast Go.Proofs.YtkfkbmlbpeojaaaW.PrintMore
attribute [local go_sem] zcs zct zdo zdp zb2 zb3 zcu zcv
set_option linter.unusedVariables false
set_option linter.unusedSimpArgs false
def zd9 (k : Nat) (l0 : List (S94)) (a1 : Int) : Option ((List (S72)) × Bool) := (zdq k l0 a1).bind fun bt101 => (if bt101.2 = true then ((zd3 k bt101.1).bind fun t105 => ((za9 k t105).bind fun t108 => (some (t108, true)))) else (some (([] : List (S72)), false)))
theorem zop : ∀ a0 a1 k, LeO (zd9 k a0 a1) (zd9 (k + 1) a0 a1) := by
 intro a0 a1 k
 unfold zd9
 exact zm3 zo9 zm7 zny
set_option maxHeartbeats 8000000 in
set_option maxRecDepth 100000 in
theorem znz (k : Nat) (A0 : Option Addr) (c0 : Nat) (l0 : List (S94)) (a1 : Int) (r1 : List (S72)) (r2 : Bool) (w : World) (hr0 : Kd.C k94 w A0 l0.length l0) (hc0 : l0.length ≤ c0) (h : zd9 k l0 a1 = some (r1, r2)) :
   Calls Try.prog 75 #[.slice A0 l0.length c0, .int .i64 a1] w fun e w' => ∃ v0_ : Value, e = .returned (.tuple #[v0_, .bool r2]) ∧ Kd.R k72 72 w' w.heap.size (fun _ => True) v0_ r1 ∧ Below w.heap.size w w' := by
 have HR0 := zA hr0
 have HC0 := zA hc0
 clear hr0 hc0
 have HB := zA (Below.refl w.heap.size w)
 have H : ((zdq k l0 a1).bind fun bt101 => (if bt101.2 = true then ((zd3 k bt101.1).bind fun t105 => ((za9 k t105).bind fun t108 => (some (t108, true)))) else (some (([] : List (S72)), false)))) = some (r1, r2) := h
 clear h
 replace H := zob H
 obtain ⟨⟨t101, t102⟩, A30, H⟩ := H
 replace H : (if t102 = true then ((zd3 k t101).bind fun t105 => ((za9 k t105).bind fun t108 => (some (t108, true)))) else (some (([] : List (S72)), false))) = some (r1, r2) := H
 have A3 := zA A30
 clear A30
 by_cases c4 : t102 = true
 rotate_left
 · replace c4 := zbf c4
   subst c4
   replace H : (some (([] : List (S72)), false)) = some (r1, r2) := by rw [if_neg (show ¬ (false = true) by decide)] at H; exact H
   simp only [Option.some.injEq, Prod.mk.injEq] at H
   obtain ⟨rfl, rfl⟩ := H
   go_enter Try.func75, Try.ntmps75
   go_wp2_with (first | ((with_reducible refine zax (f := 70) rfl ?_); refine zdu (some 11) rfl rfl Try.func70 zq23 rfl #[.slice A0 l0.length c0, .int .i64 a1] rfl zq9 ?_; (with_reducible refine (zjk k _ _ l0 a1 t101 false _ ?side1 ?side2 A3.out).mono ?_); (case side1 => repeat (first | exact HR0.out | (with_reducible first | refine zCa ?_ _ | refine zCn ?_ _ | refine zCd ?_))); (case side2 => exact HC0.out); rintro e w12 ⟨v103, rfl, ho0, hb⟩; refine ⟨_, rfl, ?_⟩; have HO104 := zA (Kd.R_lower ho0 (zar zq1)); replace HB := zA (zad zq1 hb); (try clear hb); (try clear ho0)))
   go_ret2
   exact ⟨_, zq4, zq30, zq1⟩
 subst c4
 replace H : ((zd3 k t101).bind fun t105 => ((za9 k t105).bind fun t108 => (some (t108, true)))) = some (r1, r2) := by rw [if_pos rfl] at H; exact H
 replace H := zob H
 obtain ⟨t105, A50, H⟩ := H
 replace H : ((za9 k t105).bind fun t108 => (some (t108, true))) = some (r1, r2) := H
 have A5 := zA A50
 clear A50
 replace H := zob H
 obtain ⟨t108, A60, H⟩ := H
 replace H : (some (t108, true)) = some (r1, r2) := H
 have A6 := zA A60
 clear A60
 simp only [Option.some.injEq, Prod.mk.injEq] at H
 obtain ⟨rfl, rfl⟩ := H
 go_enter Try.func75, Try.ntmps75
 go_wp2_with (first | ((with_reducible refine zax (f := 70) rfl ?_); refine zdu (some 11) rfl rfl Try.func70 zq23 rfl #[.slice A0 l0.length c0, .int .i64 a1] rfl zq9 ?_; (with_reducible refine (zjk k _ _ l0 a1 t101 true _ ?side1 ?side2 A3.out).mono ?_); (case side1 => repeat (first | exact HR0.out | (with_reducible first | refine zCa ?_ _ | refine zCn ?_ _ | refine zCd ?_))); (case side2 => exact HC0.out); rintro e w7 ⟨v103, rfl, ho0, hb⟩; refine ⟨_, rfl, ?_⟩; have HO104 := zA (Kd.R_lower ho0 (zar zq1)); replace HB := zA (zad zq1 hb); (try clear hb); (try clear ho0); obtain ⟨Ao8, co8, eo8⟩ := Kd.R_slice HO104.out; subst eo8) | ((with_reducible refine zax (f := 122) rfl ?_); refine zdu (some 17) rfl rfl Try.func122 zq23 rfl #[.slice Ao8 t101.length co8] rfl zq9 ?_; (with_reducible refine (zol k _ _ t101 t105 _ ?side1 ?side2 A5.out).mono ?_); (case side1 => repeat (first | exact (zRr HO104.out).2.2 | (with_reducible first | refine zCa ?_ _ | refine zCn ?_ _ | refine zCd ?_))); (case side2 => exact (zRr HO104.out).2.1); rintro e w9 ⟨v106, rfl, ho0, hb⟩; refine ⟨_, rfl, ?_⟩; have HO107 := zA (Kd.R_lower (Kd.R_new' ho0 (Kd.R_lt (zq3 HO104))) (zar zq1)); replace HO104 := zA (Kd.R_elder' (zq3 HO104) (Kd.R_base ho0) hb); replace HB := zA (zad zq1 hb); (try clear hb); (try clear ho0); obtain ⟨Ao10, co10, eo10⟩ := Kd.R_slice HO107.out; subst eo10) | ((with_reducible refine zax (f := 47) rfl ?_); refine zdu (some 18) rfl rfl Try.func47 zq23 rfl #[.slice Ao10 t105.length co10] rfl zq9 ?_; (with_reducible refine (zl4 k _ _ t105 t108 _ ?side1 ?side2 A6.out).mono ?_); (case side1 => repeat (first | exact (zRr HO107.out).2.2 | (with_reducible first | refine zCa ?_ _ | refine zCn ?_ _ | refine zCd ?_))); (case side2 => exact (zRr HO107.out).2.1); rintro e w11 ⟨v109, rfl, ho0, hb⟩; refine ⟨_, rfl, ?_⟩; have HO110 := zA (Kd.R_lower (Kd.R_new' (Kd.R_new' ho0 (Kd.R_lt (zq3 HO104))) (Kd.R_lt (zq3 HO107))) (zar zq1)); replace HO104 := zA (Kd.R_elder' (zq3 HO104) (Kd.R_base ho0) hb); replace HO107 := zA (Kd.R_elder' (zq3 HO107) (Kd.R_base ho0) hb); replace HB := zA (zad zq1 hb); (try clear hb); (try clear ho0)))
 go_ret2
 exact ⟨_, zq4, zq27 HO110, zq1⟩
def zd5 (k : Nat) (l0 : List (S94)) (a1 : Int) : Option ((List (S72)) × Bool) := (zer k l0).bind fun t101 => (if t101 = true then ((zcd a1).bind fun t102 => (if t102 = true then ((zd9 k l0 a1).bind fun bt103 => (some (bt103.1, bt103.2))) else (some (([] : List (S72)), false)))) else (some (([] : List (S72)), false)))
theorem zqw : ∀ a0 a1 k, LeO (zd5 k a0 a1) (zd5 (k + 1) a0 a1) := by
 intro a0 a1 k
 unfold zd5
 exact zm2 zmy zop
set_option maxHeartbeats 8000000 in
set_option maxRecDepth 100000 in
theorem zha (k : Nat) (A0 : Option Addr) (c0 : Nat) (l0 : List (S94)) (a1 : Int) (r1 : List (S72)) (r2 : Bool) (w : World) (hr0 : Kd.C k94 w A0 l0.length l0) (hc0 : l0.length ≤ c0) (h : zd5 k l0 a1 = some (r1, r2)) :
   Calls Try.prog 36 #[.slice A0 l0.length c0, .int .i64 a1] w fun e w' => ∃ v0_ : Value, e = .returned (.tuple #[v0_, .bool r2]) ∧ Kd.R k72 72 w' w.heap.size (fun _ => True) v0_ r1 ∧ Below w.heap.size w w' := by
 have HR0 := zA hr0
 have HC0 := zA hc0
 clear hr0 hc0
 have HB := zA (Below.refl w.heap.size w)
 have H : ((zer k l0).bind fun t101 => (if t101 = true then ((zcd a1).bind fun t102 => (if t102 = true then ((zd9 k l0 a1).bind fun bt103 => (some (bt103.1, bt103.2))) else (some (([] : List (S72)), false)))) else (some (([] : List (S72)), false)))) = some (r1, r2) := h
 clear h
 replace H := zob H
 obtain ⟨t101, A30, H⟩ := H
 replace H : (if t101 = true then ((zcd a1).bind fun t102 => (if t102 = true then ((zd9 k l0 a1).bind fun bt103 => (some (bt103.1, bt103.2))) else (some (([] : List (S72)), false)))) else (some (([] : List (S72)), false))) = some (r1, r2) := H
 have A3 := zA A30
 clear A30
 by_cases c4 : t101 = true
 rotate_left
 · replace c4 := zbf c4
   subst c4
   replace H : (some (([] : List (S72)), false)) = some (r1, r2) := by rw [if_neg (show ¬ (false = true) by decide)] at H; exact H
   simp only [Option.some.injEq, Prod.mk.injEq] at H
   obtain ⟨rfl, rfl⟩ := H
   go_enter Try.func36, Try.ntmps36
   go_wp2_with (first | ((with_reducible refine zax (f := 59) rfl ?_); refine zdu (some 7) rfl rfl Try.func59 zq23 rfl #[.slice A0 l0.length c0] rfl zq9 ?_; (with_reducible refine (zg1 k _ _ l0 false _ ?side1 ?side2 A3.out).mono ?_); (case side1 => repeat (first | exact HR0.out | (with_reducible first | refine zCa ?_ _ | refine zCn ?_ _ | refine zCd ?_))); (case side2 => exact HC0.out); rintro e w11 ⟨rfl, hb⟩; refine ⟨_, rfl, ?_⟩; replace HB := zA (zad zq1 hb); (try clear hb)))
   go_ret2
   exact ⟨_, zq4, zq30, zq1⟩
 subst c4
 replace H : ((zcd a1).bind fun t102 => (if t102 = true then ((zd9 k l0 a1).bind fun bt103 => (some (bt103.1, bt103.2))) else (some (([] : List (S72)), false)))) = some (r1, r2) := by rw [if_pos rfl] at H; exact H
 replace H := zob H
 obtain ⟨t102, A50, H⟩ := H
 replace H : (if t102 = true then ((zd9 k l0 a1).bind fun bt103 => (some (bt103.1, bt103.2))) else (some (([] : List (S72)), false))) = some (r1, r2) := H
 have A5 := zA A50
 clear A50
 by_cases c6 : t102 = true
 rotate_left
 · replace c6 := zbf c6
   subst c6
   replace H : (some (([] : List (S72)), false)) = some (r1, r2) := by rw [if_neg (show ¬ (false = true) by decide)] at H; exact H
   simp only [Option.some.injEq, Prod.mk.injEq] at H
   obtain ⟨rfl, rfl⟩ := H
   go_enter Try.func36, Try.ntmps36
   go_wp2_with (first | ((with_reducible refine zax (f := 59) rfl ?_); refine zdu (some 7) rfl rfl Try.func59 zq23 rfl #[.slice A0 l0.length c0] rfl zq9 ?_; (with_reducible refine (zg1 k _ _ l0 true _ ?side1 ?side2 A3.out).mono ?_); (case side1 => repeat (first | exact HR0.out | (with_reducible first | refine zCa ?_ _ | refine zCn ?_ _ | refine zCd ?_))); (case side2 => exact HC0.out); rintro e w10 ⟨rfl, hb⟩; refine ⟨_, rfl, ?_⟩; replace HB := zA (zad zq1 hb); (try clear hb)) | (go_at_call 56; (with_reducible refine (zei a1 false _ A5.out).mono ?_); rintro e w' ⟨rfl, ⟨nd, rfl⟩⟩))
   go_ret2
   exact ⟨_, zq4, zq30, zq1⟩
 subst c6
 replace H : ((zd9 k l0 a1).bind fun bt103 => (some (bt103.1, bt103.2))) = some (r1, r2) := by rw [if_pos rfl] at H; exact H
 replace H := zob H
 obtain ⟨⟨t103, t104⟩, A70, H⟩ := H
 replace H : (some (t103, t104)) = some (r1, r2) := H
 have A7 := zA A70
 clear A70
 simp only [Option.some.injEq, Prod.mk.injEq] at H
 obtain ⟨rfl, rfl⟩ := H
 go_enter Try.func36, Try.ntmps36
 go_wp2_with (first | ((with_reducible refine zax (f := 59) rfl ?_); refine zdu (some 7) rfl rfl Try.func59 zq23 rfl #[.slice A0 l0.length c0] rfl zq9 ?_; (with_reducible refine (zg1 k _ _ l0 true _ ?side1 ?side2 A3.out).mono ?_); (case side1 => repeat (first | exact HR0.out | (with_reducible first | refine zCa ?_ _ | refine zCn ?_ _ | refine zCd ?_))); (case side2 => exact HC0.out); rintro e w8 ⟨rfl, hb⟩; refine ⟨_, rfl, ?_⟩; replace HB := zA (zad zq1 hb); (try clear hb)) | (go_at_call 56; (with_reducible refine (zei a1 true _ A5.out).mono ?_); rintro e w' ⟨rfl, ⟨nd, rfl⟩⟩) | ((with_reducible refine zax (f := 75) rfl ?_); refine zdu (some 16) rfl rfl Try.func75 zq23 rfl #[.slice A0 l0.length c0, .int .i64 a1] rfl zq9 ?_; (with_reducible refine (znz k _ _ l0 a1 t103 t104 _ ?side1 ?side2 A7.out).mono ?_); (case side1 => repeat (first | exact (zCb HR0.out zq1) | (with_reducible first | refine zCa ?_ _ | refine zCn ?_ _ | refine zCd ?_))); (case side2 => exact HC0.out); rintro e w9 ⟨v105, rfl, ho0, hb⟩; refine ⟨_, rfl, ?_⟩; have HO106 := zA (Kd.R_lower ho0 (zar zq1)); replace HB := zA (zad zq1 hb); (try clear hb); (try clear ho0)))
 go_ret2
 exact ⟨_, zq4, zq3 HO106, zq1⟩
def zhj (a0_0 : ByteArray) (a0_1 : Int) (a0_2 : Int) (a0_3 : Int) (a0_4 : Int) (a1_0 : ByteArray) (a1_1 : Int) (a1_2 : Int) (a1_3 : Int) (a1_4 : Int) : Option (Bool) := if a0_0.toList = a1_0.toList then (if a0_1 = a1_1 then (if a0_2 = a1_2 then (if a0_3 = a1_3 then (if a0_4 = a1_4 then (some true) else (some false)) else (some false)) else (some false)) else (some false)) else (some false)
set_option maxHeartbeats 8000000 in
set_option maxRecDepth 100000 in
theorem ziv (a0_0 : ByteArray) (a0_1 : Int) (a0_2 : Int) (a0_3 : Int) (a0_4 : Int) (a1_0 : ByteArray) (a1_1 : Int) (a1_2 : Int) (a1_3 : Int) (a1_4 : Int) (r : Bool) (w : World) (h : zhj a0_0 a0_1 a0_2 a0_3 a0_4 a1_0 a1_1 a1_2 a1_3 a1_4 = some r) :
   Calls Try.prog 71 #[.agg #[.string a0_0, .int .i64 a0_1, .int .i64 a0_2, .int .i64 a0_3, .int .i64 a0_4], .agg #[.string a1_0, .int .i64 a1_1, .int .i64 a1_2, .int .i64 a1_3, .int .i64 a1_4]] w fun e w' => e = .returned (.bool r) ∧ Below w.heap.size w w' := by
 have hu57 := Try.underlying57
 have key : r = (!(a0_0.toList != a1_0.toList) && !(a0_1 != a1_1) && !(a0_2 != a1_2) && !(a0_3 != a1_3) && !(a0_4 != a1_4)) := by
   unfold zhj at h
   (repeat' split at h) <;> simp_all
 have HK := zA key
 clear h key
 go_enter Try.func71, Try.ntmps71
 go_wp2
 all_goals
   go_ret
   exact ⟨by rw [HK.out]; simp_all, zba (zba (Below.refl _ _) _) _⟩
def zby : Nat → List (S94) → List (S94) → Int → Option (Bool)
 | 0, _, _, _ => none
 | k + 1, x0, x1, x5 => if x5 < (x0.length : Int) then (if 0 ≤ x5 then (if x5 < (x1.length : Int) then ((zhj ((zaa x0 x5).f0) ((zaa x0 x5).f1) ((zaa x0 x5).f2) ((zaa x0 x5).f3) ((zaa x0 x5).f4) ((zaa x1 x5).f0) ((zaa x1 x5).f1) ((zaa x1 x5).f2) ((zaa x1 x5).f3) ((zaa x1 x5).f4)).bind fun t103 => (if t103 = true then (zby k x0 x1 (wrap64 (x5 + 1))) else (some false))) else (none)) else (none)) else (some true)
def zez (k : Nat) (l0 : List (S94)) (l1 : List (S94)) : Option (Bool) := if (l0.length : Int) = (l1.length : Int) then (zby k l0 l1 0) else (some false)
theorem zh1 : ∀ k, (∀ y0 y1 y2, LeO (zby k y0 y1 y2) (zby (k + 1) y0 y1 y2))
 | 0 => fun _ _ _ r h => by simp [zby] at h
 | k + 1 => by
   have ih0 := zh1 k
   · intro y0 y1 y2
     unfold zby
     exact zm1 ih0
theorem zsy : ∀ a0 a1 k, LeO (zez k a0 a1) (zez (k + 1) a0 a1) := by
 intro a0 a1 k
 have ih0 := zh1 k
 unfold zez
 exact zm1 ih0
def laws_eqInstrS.T6 : Bool × List (List Nat × List Nat) := (true, [([], []), ([], []), ([0, 1], [0, 1]), ([2], [2]), ([], []), ([], []), ([4, 5], [4, 5]), ([6], [6]), ([3, 7], [3, 7]), ([8], [8])])
def zn0 : List Nat := [0, 0, 3, 7, 0, 0, 48, 112, 255, 511]
theorem ziw : rtab .any (ztz Try.f29 6) = laws_eqInstrS.T6 := by kernel_rfl
theorem zif : zim laws_eqInstrS.T6.2 zn0 = true := by kernel_rfl
set_option maxHeartbeats 8000000 in
set_option maxRecDepth 100000 in
theorem zln (k : Nat) (A0 : Option Addr) (c0 : Nat) (l0 : List (S94)) (A1 : Option Addr) (c1 : Nat) (l1 : List (S94)) (r : Bool) (w : World) (hr0 : Kd.C k94 w A0 l0.length l0) (hc0 : l0.length ≤ c0) (hr1 : Kd.C k94 w A1 l1.length l1) (hc1 : l1.length ≤ c1) (h : zez k l0 l1 = some r) :
   Calls Try.prog 29 #[.slice A0 l0.length c0, .slice A1 l1.length c1] w fun e w' => e = .returned (.bool r) ∧ Below w.heap.size w w' := by
 have hu94 := Try.underlying94
 have HR0 := zA hr0
 have HC0 := zA hc0
 clear hr0 hc0
 have HR1 := zA hr1
 have HC1 := zA hc1
 clear hr1 hc1
 have HB := zA (Below.refl w.heap.size w)
 have H : (if (l0.length : Int) = (l1.length : Int) then (zby k l0 l1 0) else (some false)) = some r := h
 clear h
 by_cases c3 : (l0.length : Int) = (l1.length : Int)
 rotate_left
 · rw [if_neg c3] at H
   have c3b0 := beq_eq_false_iff_ne.mpr c3
   have c3b1 := bne_iff_ne.mpr c3
   have c3b2 : (l0.length == l1.length) = false := by first | simpa using c3 | (simp at c3 ⊢; omega)
   obtain rfl := zsi H
   go_enter Try.func29, Try.ntmps29
   go_wp2
   go_ret
   exact ⟨zq4, zq1⟩
 rw [if_pos c3] at H
 have c3b0 := beq_iff_eq.mpr c3
 have c3b1 := bne_eq_false_iff_eq.mpr c3
 have c3b2 : (l0.length == l1.length) = true := by first | simpa using c3 | (simp at c3 ⊢; omega)
 clear c3
 have H' := zA H
 clear H
 go_enter Try.func29, Try.ntmps29
 go_wp2
 go_loopg [5] k (fun kq v5 w' => ∃ (x5_1 : Int), v5 = .int .i64 x5_1 ∧ Aside0 (zby kq l0 l1 x5_1 = some r) ∧ Aside0 (kq ≤ k) ∧ Aside0 (Below w.heap.size w w'))
 case atStart => exact ⟨(0), zq6, H', ⟨zlr _⟩, ⟨zq1⟩⟩
 clear H'
 try clear c1
 try clear c2
 try clear p2
 try clear c3
 try clear c3b0
 try clear c3b1
 try clear c3b2
 obtain ⟨x5_1, rfl, HA, HK1, HB⟩ := hrel
 cases gk with
 | zero => exact absurd HA.out (by simp [zby])
 | succ k1 =>
 have H := HA.out
 clear HA
 simp only [zby] at H
 revert H
 refine zit (fun c4 H => ?_) fun c4 H => ?_
 rotate_left
 · obtain rfl := zsi H
   go_wp2
   go_ret
   exact ⟨zq4, zq1⟩
 revert H
 refine zin fun c5 H => ?_
 revert H
 refine zin fun c6 H => ?_
 replace H := zob H
 obtain ⟨t103, A70, H⟩ := H
 replace H : (if t103 = true then (zby k1 l0 l1 (wrap64 (x5_1 + 1))) else (some false)) = some r := H
 have A7 := zA A70
 clear A70
 by_cases c8 : t103 = true
 rotate_left
 · replace c8 := zbf c8
   subst c8
   replace H : (some false) = some r := by rw [if_neg (show ¬ (false = true) by decide)] at H; exact H
   obtain rfl := zsi H
   try go_wp2
   replace HB := zA (zbd HB.out)
   have p101 : 0 ≤ (x5_1 : Int) := zde zq16
   have q101 : x5_1 < (l0.length : Int) := zde zq16
   obtain ⟨ad101, e101, hx101_0, hx101_1, hx101_2, hx101_3, hx101_4⟩ := zj2 HR0.out x5_1 p101 q101
   have hw101_4 := hx101_4
   have hw101_3 := hx101_3
   have hw101_2 := hx101_2
   have hw101_1 := hx101_1
   have hw101_0 := hx101_0
   cases e101
   replace hx101_0 := zkep HB.out hx101_0
   replace hx101_1 := zkep HB.out hx101_1
   replace hx101_2 := zkep HB.out hx101_2
   replace hx101_3 := zkep HB.out hx101_3
   replace hx101_4 := zkep HB.out hx101_4
   replace p101 := eq_true p101
   replace q101 := eq_true q101
   have p102 : 0 ≤ (x5_1 : Int) := zde zq16
   have q102 : x5_1 < (l1.length : Int) := zde zq16
   obtain ⟨ad102, e102, hx102_0, hx102_1, hx102_2, hx102_3, hx102_4⟩ := zj2 HR1.out x5_1 p102 q102
   have hw102_4 := hx102_4
   have hw102_3 := hx102_3
   have hw102_2 := hx102_2
   have hw102_1 := hx102_1
   have hw102_0 := hx102_0
   cases e102
   replace hx102_0 := zkep HB.out hx102_0
   replace hx102_1 := zkep HB.out hx102_1
   replace hx102_2 := zkep HB.out hx102_2
   replace hx102_3 := zkep HB.out hx102_3
   replace hx102_4 := zkep HB.out hx102_4
   replace p102 := eq_true p102
   replace q102 := eq_true q102
   refine zmp (n := 10) (S := fun w' => w'.cell? (ad101.add ((x5_1).toNat * 5)) = some (.string ((zaa l0 x5_1).f0)) ∧ w'.cell? ⟨(ad101.add ((x5_1).toNat * 5)).block, (ad101.add ((x5_1).toNat * 5)).off + 1, none⟩ = some (.int .i64 ((zaa l0 x5_1).f1)) ∧ w'.cell? ⟨(ad101.add ((x5_1).toNat * 5)).block, (ad101.add ((x5_1).toNat * 5)).off + 2, none⟩ = some (.int .i64 ((zaa l0 x5_1).f2)) ∧ w'.cell? ⟨(ad101.add ((x5_1).toNat * 5)).block, (ad101.add ((x5_1).toNat * 5)).off + 3, none⟩ = some (.int .i64 ((zaa l0 x5_1).f3)) ∧ w'.cell? ⟨(ad101.add ((x5_1).toNat * 5)).block, (ad101.add ((x5_1).toNat * 5)).off + 4, none⟩ = some (.int .i64 ((zaa l0 x5_1).f4)) ∧ w'.cell? (ad102.add ((x5_1).toNat * 5)) = some (.string ((zaa l1 x5_1).f0)) ∧ w'.cell? ⟨(ad102.add ((x5_1).toNat * 5)).block, (ad102.add ((x5_1).toNat * 5)).off + 1, none⟩ = some (.int .i64 ((zaa l1 x5_1).f1)) ∧ w'.cell? ⟨(ad102.add ((x5_1).toNat * 5)).block, (ad102.add ((x5_1).toNat * 5)).off + 2, none⟩ = some (.int .i64 ((zaa l1 x5_1).f2)) ∧ w'.cell? ⟨(ad102.add ((x5_1).toNat * 5)).block, (ad102.add ((x5_1).toNat * 5)).off + 3, none⟩ = some (.int .i64 ((zaa l1 x5_1).f3)) ∧ w'.cell? ⟨(ad102.add ((x5_1).toNat * 5)).block, (ad102.add ((x5_1).toNat * 5)).off + 4, none⟩ = some (.int .i64 ((zaa l1 x5_1).f4))) (ds := []) #[false, false, false, false, false, false, false, false, false, false] zq23 rfl rfl ⟨(zkep HB.out hw101_0), (zkep HB.out hw101_1), (zkep HB.out hw101_2), (zkep HB.out hw101_3), (zkep HB.out hw101_4), (zkep HB.out hw102_0), (zkep HB.out hw102_1), (zkep HB.out hw102_2), (zkep HB.out hw102_3), (zkep HB.out hw102_4)⟩ (fun hHeld => ?_); refine zhu ziw zif (fun HT_ HW_ => ?_)
   generalize wr.drew = w11 at HB hx101_0 hx101_1 hx101_2 hx101_3 hx101_4 hx102_0 hx102_1 hx102_2 hx102_3 hx102_4 hHeld ⊢
   refine zpu 0 17 HT_ ?_
   refine zpu 1 18 HT_ ?_
   refine zpu 2 19 HT_ ?_
   refine zpu 4 21 HT_ ?_
   refine zpu 5 22 HT_ ?_
   refine zpu 6 23 HT_ ?_
   refine ztu 3 20 HT_ HW_ hHeld ?_
   refine ztu 7 24 HT_ HW_ hHeld ?_
   refine one_ (i := 8) (N := some 25) #[true, true, true, true, true, true, true, true, true, false] rfl rfl (zmt HT_.out zq23) (by decide) (fun K hK => ?_)
   refine zgo Try.func71 (ziv ((zaa l0 x5_1).f0) ((zaa l0 x5_1).f1) ((zaa l0 x5_1).f2) ((zaa l0 x5_1).f3) ((zaa l0 x5_1).f4) ((zaa l1 x5_1).f0) ((zaa l1 x5_1).f1) ((zaa l1 x5_1).f2) ((zaa l1 x5_1).f3) ((zaa l1 x5_1).f4) false _ A7.out) ?_
   rintro e w12 ⟨rfl, hb⟩
   refine ⟨_, rfl, ?_⟩
   replace HB := zA (zad zq1 hb)
   (try clear hb)
   (try clear hb2)
   (try clear hk)
   (try clear hi)
   refine hK.out _ _ ⟨(zkep HB.out hw101_0), (zkep HB.out hw101_1), (zkep HB.out hw101_2), (zkep HB.out hw101_3), (zkep HB.out hw101_4), (zkep HB.out hw102_0), (zkep HB.out hw102_1), (zkep HB.out hw102_2), (zkep HB.out hw102_3), (zkep HB.out hw102_4)⟩ (fun hHeld => ?_)
   clear hK K
   refine znm 25 ?_
   refine zpu 9 26 HT_ ?_
   refine zqp (zky HT_.out zq23) ?_
   try go_wp2
   go_ret
   exact ⟨zq4, zq1⟩
 subst c8
 replace H : (zby k1 l0 l1 (wrap64 (x5_1 + 1))) = some r := by rw [if_pos rfl] at H; exact H
 have H' := zA H
 clear H
 try go_wp2
 replace HB := zA (zbd HB.out)
 have p101 : 0 ≤ (x5_1 : Int) := zde zq16
 have q101 : x5_1 < (l0.length : Int) := zde zq16
 obtain ⟨ad101, e101, hx101_0, hx101_1, hx101_2, hx101_3, hx101_4⟩ := zj2 HR0.out x5_1 p101 q101
 have hw101_4 := hx101_4
 have hw101_3 := hx101_3
 have hw101_2 := hx101_2
 have hw101_1 := hx101_1
 have hw101_0 := hx101_0
 cases e101
 replace hx101_0 := zkep HB.out hx101_0
 replace hx101_1 := zkep HB.out hx101_1
 replace hx101_2 := zkep HB.out hx101_2
 replace hx101_3 := zkep HB.out hx101_3
 replace hx101_4 := zkep HB.out hx101_4
 replace p101 := eq_true p101
 replace q101 := eq_true q101
 have p102 : 0 ≤ (x5_1 : Int) := zde zq16
 have q102 : x5_1 < (l1.length : Int) := zde zq16
 obtain ⟨ad102, e102, hx102_0, hx102_1, hx102_2, hx102_3, hx102_4⟩ := zj2 HR1.out x5_1 p102 q102
 have hw102_4 := hx102_4
 have hw102_3 := hx102_3
 have hw102_2 := hx102_2
 have hw102_1 := hx102_1
 have hw102_0 := hx102_0
 cases e102
 replace hx102_0 := zkep HB.out hx102_0
 replace hx102_1 := zkep HB.out hx102_1
 replace hx102_2 := zkep HB.out hx102_2
 replace hx102_3 := zkep HB.out hx102_3
 replace hx102_4 := zkep HB.out hx102_4
 replace p102 := eq_true p102
 replace q102 := eq_true q102
 refine zmp (n := 10) (S := fun w' => w'.cell? (ad101.add ((x5_1).toNat * 5)) = some (.string ((zaa l0 x5_1).f0)) ∧ w'.cell? ⟨(ad101.add ((x5_1).toNat * 5)).block, (ad101.add ((x5_1).toNat * 5)).off + 1, none⟩ = some (.int .i64 ((zaa l0 x5_1).f1)) ∧ w'.cell? ⟨(ad101.add ((x5_1).toNat * 5)).block, (ad101.add ((x5_1).toNat * 5)).off + 2, none⟩ = some (.int .i64 ((zaa l0 x5_1).f2)) ∧ w'.cell? ⟨(ad101.add ((x5_1).toNat * 5)).block, (ad101.add ((x5_1).toNat * 5)).off + 3, none⟩ = some (.int .i64 ((zaa l0 x5_1).f3)) ∧ w'.cell? ⟨(ad101.add ((x5_1).toNat * 5)).block, (ad101.add ((x5_1).toNat * 5)).off + 4, none⟩ = some (.int .i64 ((zaa l0 x5_1).f4)) ∧ w'.cell? (ad102.add ((x5_1).toNat * 5)) = some (.string ((zaa l1 x5_1).f0)) ∧ w'.cell? ⟨(ad102.add ((x5_1).toNat * 5)).block, (ad102.add ((x5_1).toNat * 5)).off + 1, none⟩ = some (.int .i64 ((zaa l1 x5_1).f1)) ∧ w'.cell? ⟨(ad102.add ((x5_1).toNat * 5)).block, (ad102.add ((x5_1).toNat * 5)).off + 2, none⟩ = some (.int .i64 ((zaa l1 x5_1).f2)) ∧ w'.cell? ⟨(ad102.add ((x5_1).toNat * 5)).block, (ad102.add ((x5_1).toNat * 5)).off + 3, none⟩ = some (.int .i64 ((zaa l1 x5_1).f3)) ∧ w'.cell? ⟨(ad102.add ((x5_1).toNat * 5)).block, (ad102.add ((x5_1).toNat * 5)).off + 4, none⟩ = some (.int .i64 ((zaa l1 x5_1).f4))) (ds := []) #[false, false, false, false, false, false, false, false, false, false] zq23 rfl rfl ⟨(zkep HB.out hw101_0), (zkep HB.out hw101_1), (zkep HB.out hw101_2), (zkep HB.out hw101_3), (zkep HB.out hw101_4), (zkep HB.out hw102_0), (zkep HB.out hw102_1), (zkep HB.out hw102_2), (zkep HB.out hw102_3), (zkep HB.out hw102_4)⟩ (fun hHeld => ?_); refine zhu ziw zif (fun HT_ HW_ => ?_)
 generalize wr.drew = w9 at HB hx101_0 hx101_1 hx101_2 hx101_3 hx101_4 hx102_0 hx102_1 hx102_2 hx102_3 hx102_4 hHeld ⊢
 refine zpu 0 17 HT_ ?_
 refine zpu 1 18 HT_ ?_
 refine zpu 2 19 HT_ ?_
 refine zpu 4 21 HT_ ?_
 refine zpu 5 22 HT_ ?_
 refine zpu 6 23 HT_ ?_
 refine ztu 3 20 HT_ HW_ hHeld ?_
 refine ztu 7 24 HT_ HW_ hHeld ?_
 refine one_ (i := 8) (N := some 25) #[true, true, true, true, true, true, true, true, true, false] rfl rfl (zmt HT_.out zq23) (by decide) (fun K hK => ?_)
 refine zgo Try.func71 (ziv ((zaa l0 x5_1).f0) ((zaa l0 x5_1).f1) ((zaa l0 x5_1).f2) ((zaa l0 x5_1).f3) ((zaa l0 x5_1).f4) ((zaa l1 x5_1).f0) ((zaa l1 x5_1).f1) ((zaa l1 x5_1).f2) ((zaa l1 x5_1).f3) ((zaa l1 x5_1).f4) true _ A7.out) ?_
 rintro e w10 ⟨rfl, hb⟩
 refine ⟨_, rfl, ?_⟩
 replace HB := zA (zad zq1 hb)
 (try clear hb)
 (try clear hb2)
 (try clear hk)
 (try clear hi)
 refine hK.out _ _ ⟨(zkep HB.out hw101_0), (zkep HB.out hw101_1), (zkep HB.out hw101_2), (zkep HB.out hw101_3), (zkep HB.out hw101_4), (zkep HB.out hw102_0), (zkep HB.out hw102_1), (zkep HB.out hw102_2), (zkep HB.out hw102_3), (zkep HB.out hw102_4)⟩ (fun hHeld => ?_)
 clear hK K
 refine znm 25 ?_
 refine zpu 9 26 HT_ ?_
 refine zqp (zky HT_.out zq23) ?_
 try go_wp2
 go_roundg k1
 case measure => have := HK1.out; omega
 case rel => exact ⟨(wrap64 (x5_1 + 1)), zq6, H', ⟨zq38 HK1⟩, ⟨zq1⟩⟩
def zh6 (a0_0 : ByteArray) (a0_1 : Int) (a0_2 : Int) (a0_3 : Int) (a1_0 : ByteArray) (a1_1 : Int) (a1_2 : Int) (a1_3 : Int) : Option (Bool) := if a0_0.toList = a1_0.toList then (if a0_1 = a1_1 then (if a0_2 = a1_2 then (if a0_3 = a1_3 then (some true) else (some false)) else (some false)) else (some false)) else (some false)
set_option maxHeartbeats 8000000 in
set_option maxRecDepth 100000 in
theorem zjl (a0_0 : ByteArray) (a0_1 : Int) (a0_2 : Int) (a0_3 : Int) (a1_0 : ByteArray) (a1_1 : Int) (a1_2 : Int) (a1_3 : Int) (r : Bool) (w : World) (h : zh6 a0_0 a0_1 a0_2 a0_3 a1_0 a1_1 a1_2 a1_3 = some r) :
   Calls Try.prog 48 #[.agg #[.string a0_0, .int .i64 a0_1, .int .i64 a0_2, .int .i64 a0_3], .agg #[.string a1_0, .int .i64 a1_1, .int .i64 a1_2, .int .i64 a1_3]] w fun e w' => e = .returned (.bool r) ∧ Below w.heap.size w w' := by
 have key : r = (!(a0_0.toList != a1_0.toList) && !(a0_1 != a1_1) && !(a0_2 != a1_2) && !(a0_3 != a1_3)) := by
   unfold zh6 at h
   (repeat' split at h) <;> simp_all
 have HK := zA key
 clear h key
 go_enter Try.func48, Try.ntmps48
 go_wp2
 all_goals
   go_ret
   exact ⟨by rw [HK.out]; simp_all, zba (zba (Below.refl _ _) _) _⟩
def zb8 : Nat → List (S72) → List (S72) → Int → Option (Bool)
 | 0, _, _, _ => none
 | k + 1, x0, x1, x5 => if x5 < (x0.length : Int) then (if 0 ≤ x5 then (if x5 < (x1.length : Int) then ((zh6 ((zab x0 x5).f0) ((zab x0 x5).f1) ((zab x0 x5).f2) ((zab x0 x5).f3) ((zab x1 x5).f0) ((zab x1 x5).f1) ((zab x1 x5).f2) ((zab x1 x5).f3)).bind fun t103 => (if t103 = true then (zb8 k x0 x1 (wrap64 (x5 + 1))) else (some false))) else (none)) else (none)) else (some true)
def zfd (k : Nat) (l0 : List (S72)) (l1 : List (S72)) : Option (Bool) := if (l0.length : Int) = (l1.length : Int) then (zb8 k l0 l1 0) else (some false)
theorem zig : ∀ k, (∀ y0 y1 y2, LeO (zb8 k y0 y1 y2) (zb8 (k + 1) y0 y1 y2))
 | 0 => fun _ _ _ r h => by simp [zb8] at h
 | k + 1 => by
   have ih0 := zig k
   · intro y0 y1 y2
     unfold zb8
     exact zm1 ih0
theorem ztp : ∀ a0 a1 k, LeO (zfd k a0 a1) (zfd (k + 1) a0 a1) := by
 intro a0 a1 k
 have ih0 := zig k
 unfold zfd
 exact zm1 ih0
def laws_eqNodeS.T6 : Bool × List (List Nat × List Nat) := (true, [([], []), ([], []), ([0, 1], [0, 1]), ([2], [2]), ([], []), ([], []), ([4, 5], [4, 5]), ([6], [6]), ([3, 7], [3, 7]), ([8], [8])])
def zoq : List Nat := [0, 0, 3, 7, 0, 0, 48, 112, 255, 511]
theorem zjm : rtab .any (ztz Try.f13 6) = laws_eqNodeS.T6 := by kernel_rfl
theorem zix : zim laws_eqNodeS.T6.2 zoq = true := by kernel_rfl
set_option maxHeartbeats 8000000 in
set_option maxRecDepth 100000 in
theorem zg5 (k : Nat) (A0 : Option Addr) (c0 : Nat) (l0 : List (S72)) (A1 : Option Addr) (c1 : Nat) (l1 : List (S72)) (r : Bool) (w : World) (hr0 : Kd.C k72 w A0 l0.length l0) (hc0 : l0.length ≤ c0) (hr1 : Kd.C k72 w A1 l1.length l1) (hc1 : l1.length ≤ c1) (h : zfd k l0 l1 = some r) :
   Calls Try.prog 13 #[.slice A0 l0.length c0, .slice A1 l1.length c1] w fun e w' => e = .returned (.bool r) ∧ Below w.heap.size w w' := by
 have hu72 := Try.underlying72
 have HR0 := zA hr0
 have HC0 := zA hc0
 clear hr0 hc0
 have HR1 := zA hr1
 have HC1 := zA hc1
 clear hr1 hc1
 have HB := zA (Below.refl w.heap.size w)
 have H : (if (l0.length : Int) = (l1.length : Int) then (zb8 k l0 l1 0) else (some false)) = some r := h
 clear h
 by_cases c3 : (l0.length : Int) = (l1.length : Int)
 rotate_left
 · rw [if_neg c3] at H
   have c3b0 := beq_eq_false_iff_ne.mpr c3
   have c3b1 := bne_iff_ne.mpr c3
   have c3b2 : (l0.length == l1.length) = false := by first | simpa using c3 | (simp at c3 ⊢; omega)
   obtain rfl := zsi H
   go_enter Try.func13, Try.ntmps13
   go_wp2
   go_ret
   exact ⟨zq4, zq1⟩
 rw [if_pos c3] at H
 have c3b0 := beq_iff_eq.mpr c3
 have c3b1 := bne_eq_false_iff_eq.mpr c3
 have c3b2 : (l0.length == l1.length) = true := by first | simpa using c3 | (simp at c3 ⊢; omega)
 clear c3
 have H' := zA H
 clear H
 go_enter Try.func13, Try.ntmps13
 go_wp2
 go_loopg [5] k (fun kq v5 w' => ∃ (x5_1 : Int), v5 = .int .i64 x5_1 ∧ Aside0 (zb8 kq l0 l1 x5_1 = some r) ∧ Aside0 (kq ≤ k) ∧ Aside0 (Below w.heap.size w w'))
 case atStart => exact ⟨(0), zq6, H', ⟨zlr _⟩, ⟨zq1⟩⟩
 clear H'
 try clear c1
 try clear p2
 try clear c3
 try clear c3b0
 try clear c3b1
 try clear c3b2
 obtain ⟨x5_1, rfl, HA, HK1, HB⟩ := hrel
 cases gk with
 | zero => exact absurd HA.out (by simp [zb8])
 | succ k1 =>
 have H := HA.out
 clear HA
 simp only [zb8] at H
 revert H
 refine zit (fun c4 H => ?_) fun c4 H => ?_
 rotate_left
 · obtain rfl := zsi H
   go_wp2
   go_ret
   exact ⟨zq4, zq1⟩
 revert H
 refine zin fun c5 H => ?_
 revert H
 refine zin fun c6 H => ?_
 replace H := zob H
 obtain ⟨t103, A70, H⟩ := H
 replace H : (if t103 = true then (zb8 k1 l0 l1 (wrap64 (x5_1 + 1))) else (some false)) = some r := H
 have A7 := zA A70
 clear A70
 by_cases c8 : t103 = true
 rotate_left
 · replace c8 := zbf c8
   subst c8
   replace H : (some false) = some r := by rw [if_neg (show ¬ (false = true) by decide)] at H; exact H
   obtain rfl := zsi H
   try go_wp2
   replace HB := zA (zbd HB.out)
   have p101 : 0 ≤ (x5_1 : Int) := zde zq16
   have q101 : x5_1 < (l0.length : Int) := zde zq16
   obtain ⟨ad101, e101, hx101_0, hx101_1, hx101_2, hx101_3⟩ := zd0 HR0.out x5_1 p101 q101
   have hw101_3 := hx101_3
   have hw101_2 := hx101_2
   have hw101_1 := hx101_1
   have hw101_0 := hx101_0
   cases e101
   replace hx101_0 := zkep HB.out hx101_0
   replace hx101_1 := zkep HB.out hx101_1
   replace hx101_2 := zkep HB.out hx101_2
   replace hx101_3 := zkep HB.out hx101_3
   replace p101 := eq_true p101
   replace q101 := eq_true q101
   have p102 : 0 ≤ (x5_1 : Int) := zde zq16
   have q102 : x5_1 < (l1.length : Int) := zde zq16
   obtain ⟨ad102, e102, hx102_0, hx102_1, hx102_2, hx102_3⟩ := zd0 HR1.out x5_1 p102 q102
   have hw102_3 := hx102_3
   have hw102_2 := hx102_2
   have hw102_1 := hx102_1
   have hw102_0 := hx102_0
   cases e102
   replace hx102_0 := zkep HB.out hx102_0
   replace hx102_1 := zkep HB.out hx102_1
   replace hx102_2 := zkep HB.out hx102_2
   replace hx102_3 := zkep HB.out hx102_3
   replace p102 := eq_true p102
   replace q102 := eq_true q102
   refine zmp (n := 10) (S := fun w' => w'.cell? (ad101.add ((x5_1).toNat * 4)) = some (.string ((zab l0 x5_1).f0)) ∧ w'.cell? ⟨(ad101.add ((x5_1).toNat * 4)).block, (ad101.add ((x5_1).toNat * 4)).off + 1, none⟩ = some (.int .i64 ((zab l0 x5_1).f1)) ∧ w'.cell? ⟨(ad101.add ((x5_1).toNat * 4)).block, (ad101.add ((x5_1).toNat * 4)).off + 2, none⟩ = some (.int .i64 ((zab l0 x5_1).f2)) ∧ w'.cell? ⟨(ad101.add ((x5_1).toNat * 4)).block, (ad101.add ((x5_1).toNat * 4)).off + 3, none⟩ = some (.int .i64 ((zab l0 x5_1).f3)) ∧ w'.cell? (ad102.add ((x5_1).toNat * 4)) = some (.string ((zab l1 x5_1).f0)) ∧ w'.cell? ⟨(ad102.add ((x5_1).toNat * 4)).block, (ad102.add ((x5_1).toNat * 4)).off + 1, none⟩ = some (.int .i64 ((zab l1 x5_1).f1)) ∧ w'.cell? ⟨(ad102.add ((x5_1).toNat * 4)).block, (ad102.add ((x5_1).toNat * 4)).off + 2, none⟩ = some (.int .i64 ((zab l1 x5_1).f2)) ∧ w'.cell? ⟨(ad102.add ((x5_1).toNat * 4)).block, (ad102.add ((x5_1).toNat * 4)).off + 3, none⟩ = some (.int .i64 ((zab l1 x5_1).f3))) (ds := []) #[false, false, false, false, false, false, false, false, false, false] zq23 rfl rfl ⟨(zkep HB.out hw101_0), (zkep HB.out hw101_1), (zkep HB.out hw101_2), (zkep HB.out hw101_3), (zkep HB.out hw102_0), (zkep HB.out hw102_1), (zkep HB.out hw102_2), (zkep HB.out hw102_3)⟩ (fun hHeld => ?_); refine zhu zjm zix (fun HT_ HW_ => ?_)
   generalize wr.drew = w11 at HB hx101_0 hx101_1 hx101_2 hx101_3 hx102_0 hx102_1 hx102_2 hx102_3 hHeld ⊢
   refine zpu 0 17 HT_ ?_
   refine zpu 1 18 HT_ ?_
   refine zpu 2 19 HT_ ?_
   refine zpu 4 21 HT_ ?_
   refine zpu 5 22 HT_ ?_
   refine zpu 6 23 HT_ ?_
   refine ztu 3 20 HT_ HW_ hHeld ?_
   refine ztu 7 24 HT_ HW_ hHeld ?_
   refine one_ (i := 8) (N := some 25) #[true, true, true, true, true, true, true, true, true, false] rfl rfl (zmt HT_.out zq23) (by decide) (fun K hK => ?_)
   refine zgo Try.func48 (zjl ((zab l0 x5_1).f0) ((zab l0 x5_1).f1) ((zab l0 x5_1).f2) ((zab l0 x5_1).f3) ((zab l1 x5_1).f0) ((zab l1 x5_1).f1) ((zab l1 x5_1).f2) ((zab l1 x5_1).f3) false _ A7.out) ?_
   rintro e w12 ⟨rfl, hb⟩
   refine ⟨_, rfl, ?_⟩
   replace HB := zA (zad zq1 hb)
   (try clear hb)
   (try clear hb2)
   (try clear hk)
   (try clear hi)
   refine hK.out _ _ ⟨(zkep HB.out hw101_0), (zkep HB.out hw101_1), (zkep HB.out hw101_2), (zkep HB.out hw101_3), (zkep HB.out hw102_0), (zkep HB.out hw102_1), (zkep HB.out hw102_2), (zkep HB.out hw102_3)⟩ (fun hHeld => ?_)
   clear hK K
   refine znm 25 ?_
   refine zpu 9 26 HT_ ?_
   refine zqp (zky HT_.out zq23) ?_
   try go_wp2
   go_ret
   exact ⟨zq4, zq1⟩
 subst c8
 replace H : (zb8 k1 l0 l1 (wrap64 (x5_1 + 1))) = some r := by rw [if_pos rfl] at H; exact H
 have H' := zA H
 clear H
 try go_wp2
 replace HB := zA (zbd HB.out)
 have p101 : 0 ≤ (x5_1 : Int) := zde zq16
 have q101 : x5_1 < (l0.length : Int) := zde zq16
 obtain ⟨ad101, e101, hx101_0, hx101_1, hx101_2, hx101_3⟩ := zd0 HR0.out x5_1 p101 q101
 have hw101_3 := hx101_3
 have hw101_2 := hx101_2
 have hw101_1 := hx101_1
 have hw101_0 := hx101_0
 cases e101
 replace hx101_0 := zkep HB.out hx101_0
 replace hx101_1 := zkep HB.out hx101_1
 replace hx101_2 := zkep HB.out hx101_2
 replace hx101_3 := zkep HB.out hx101_3
 replace p101 := eq_true p101
 replace q101 := eq_true q101
 have p102 : 0 ≤ (x5_1 : Int) := zde zq16
 have q102 : x5_1 < (l1.length : Int) := zde zq16
 obtain ⟨ad102, e102, hx102_0, hx102_1, hx102_2, hx102_3⟩ := zd0 HR1.out x5_1 p102 q102
 have hw102_3 := hx102_3
 have hw102_2 := hx102_2
 have hw102_1 := hx102_1
 have hw102_0 := hx102_0
 cases e102
 replace hx102_0 := zkep HB.out hx102_0
 replace hx102_1 := zkep HB.out hx102_1
 replace hx102_2 := zkep HB.out hx102_2
 replace hx102_3 := zkep HB.out hx102_3
 replace p102 := eq_true p102
 replace q102 := eq_true q102
 refine zmp (n := 10) (S := fun w' => w'.cell? (ad101.add ((x5_1).toNat * 4)) = some (.string ((zab l0 x5_1).f0)) ∧ w'.cell? ⟨(ad101.add ((x5_1).toNat * 4)).block, (ad101.add ((x5_1).toNat * 4)).off + 1, none⟩ = some (.int .i64 ((zab l0 x5_1).f1)) ∧ w'.cell? ⟨(ad101.add ((x5_1).toNat * 4)).block, (ad101.add ((x5_1).toNat * 4)).off + 2, none⟩ = some (.int .i64 ((zab l0 x5_1).f2)) ∧ w'.cell? ⟨(ad101.add ((x5_1).toNat * 4)).block, (ad101.add ((x5_1).toNat * 4)).off + 3, none⟩ = some (.int .i64 ((zab l0 x5_1).f3)) ∧ w'.cell? (ad102.add ((x5_1).toNat * 4)) = some (.string ((zab l1 x5_1).f0)) ∧ w'.cell? ⟨(ad102.add ((x5_1).toNat * 4)).block, (ad102.add ((x5_1).toNat * 4)).off + 1, none⟩ = some (.int .i64 ((zab l1 x5_1).f1)) ∧ w'.cell? ⟨(ad102.add ((x5_1).toNat * 4)).block, (ad102.add ((x5_1).toNat * 4)).off + 2, none⟩ = some (.int .i64 ((zab l1 x5_1).f2)) ∧ w'.cell? ⟨(ad102.add ((x5_1).toNat * 4)).block, (ad102.add ((x5_1).toNat * 4)).off + 3, none⟩ = some (.int .i64 ((zab l1 x5_1).f3))) (ds := []) #[false, false, false, false, false, false, false, false, false, false] zq23 rfl rfl ⟨(zkep HB.out hw101_0), (zkep HB.out hw101_1), (zkep HB.out hw101_2), (zkep HB.out hw101_3), (zkep HB.out hw102_0), (zkep HB.out hw102_1), (zkep HB.out hw102_2), (zkep HB.out hw102_3)⟩ (fun hHeld => ?_); refine zhu zjm zix (fun HT_ HW_ => ?_)
 generalize wr.drew = w9 at HB hx101_0 hx101_1 hx101_2 hx101_3 hx102_0 hx102_1 hx102_2 hx102_3 hHeld ⊢
 refine zpu 0 17 HT_ ?_
 refine zpu 1 18 HT_ ?_
 refine zpu 2 19 HT_ ?_
 refine zpu 4 21 HT_ ?_
 refine zpu 5 22 HT_ ?_
 refine zpu 6 23 HT_ ?_
 refine ztu 3 20 HT_ HW_ hHeld ?_
 refine ztu 7 24 HT_ HW_ hHeld ?_
 refine one_ (i := 8) (N := some 25) #[true, true, true, true, true, true, true, true, true, false] rfl rfl (zmt HT_.out zq23) (by decide) (fun K hK => ?_)
 refine zgo Try.func48 (zjl ((zab l0 x5_1).f0) ((zab l0 x5_1).f1) ((zab l0 x5_1).f2) ((zab l0 x5_1).f3) ((zab l1 x5_1).f0) ((zab l1 x5_1).f1) ((zab l1 x5_1).f2) ((zab l1 x5_1).f3) true _ A7.out) ?_
 rintro e w10 ⟨rfl, hb⟩
 refine ⟨_, rfl, ?_⟩
 replace HB := zA (zad zq1 hb)
 (try clear hb)
 (try clear hb2)
 (try clear hk)
 (try clear hi)
 refine hK.out _ _ ⟨(zkep HB.out hw101_0), (zkep HB.out hw101_1), (zkep HB.out hw101_2), (zkep HB.out hw101_3), (zkep HB.out hw102_0), (zkep HB.out hw102_1), (zkep HB.out hw102_2), (zkep HB.out hw102_3)⟩ (fun hHeld => ?_)
 clear hK K
 refine znm 25 ?_
 refine zpu 9 26 HT_ ?_
 refine zqp (zky HT_.out zq23) ?_
 try go_wp2
 go_roundg k1
 case measure => have := HK1.out; omega
 case rel => exact ⟨(wrap64 (x5_1 + 1)), zq6, H', ⟨zq38 HK1⟩, ⟨zq1⟩⟩
def zb7 : Nat → Int → ByteArray → Option (ByteArray)
 | 0, _, _ => none
 | k + 1, x0, x3 => if x0 > 0 then ((some (([(wrap64 (48 + (Int.tmod x0 10))) % 256] : List Int) : List Int)).bind fun y101 => (if (strOfNums y101).size + x3.size ≤ 9223372036854775807 then (zb7 k (wrap64 (Int.tdiv x0 10)) ((strOfNums y101) ++ x3)) else (none))) else (if 1 + x3.size ≤ 9223372036854775807 then (some ((⟨#[109]⟩ : ByteArray) ++ x3)) else (none))
def zdc (k : Nat) (a0 : Int) : Option (ByteArray) := if a0 ≤ 0 then (some (⟨#[109, 48]⟩ : ByteArray)) else (zb7 k a0 (⟨#[]⟩ : ByteArray))
theorem zh2 : ∀ k, (∀ y0 y1, LeO (zb7 k y0 y1) (zb7 (k + 1) y0 y1))
 | 0 => fun _ _ r h => by simp [zb7] at h
 | k + 1 => by
   have ih0 := zh2 k
   · intro y0 y1
     unfold zb7
     exact zm1 ih0
theorem ze7 : ∀ a0 k, LeO (zdc k a0) (zdc (k + 1) a0) := by
 intro a0 k
 have ih0 := zh2 k
 unfold zdc
 exact zm1 ih0
set_option maxHeartbeats 8000000 in
set_option maxRecDepth 100000 in
theorem zgt (k : Nat) (a0 : Int) (r : ByteArray) (w : World) (h : zdc k a0 = some r) :
   Calls Try.prog 49 #[.int .i64 a0] w fun e w' => e = .returned (.string r) ∧ Below w.heap.size w w' := by
 have HB := zA (Below.refl w.heap.size w)
 have H : (if a0 ≤ 0 then (some (⟨#[109, 48]⟩ : ByteArray)) else (zb7 k a0 (⟨#[]⟩ : ByteArray))) = some r := h
 clear h
 by_cases c2 : a0 ≤ 0
 · rw [if_pos c2] at H
   have c2b0 := zdt c2
   clear c2
   obtain rfl := zsi H
   go_enter Try.func49, Try.ntmps49
   go_wp2
   go_ret
   exact ⟨zq4, zq1⟩
 rw [if_neg c2] at H
 have c2b0 := zdf c2
 clear c2
 have H' := zA H
 clear H
 go_enter Try.func49, Try.ntmps49
 go_wp2
 go_loopg [0, 3] k (fun kq v0 v3 w' => ∃ (x0_1 : Int) (x3_1 : ByteArray), v0 = .int .i64 x0_1 ∧ v3 = .string x3_1 ∧ Aside0 (zb7 kq x0_1 x3_1 = some r) ∧ Aside0 (kq ≤ k) ∧ Aside0 (Below w.heap.size w w'))
 case atStart => exact ⟨(a0), ((⟨#[]⟩ : ByteArray)), zq6, zq6, H', ⟨zlr _⟩, ⟨zq1⟩⟩
 clear H'
 try clear c2
 try clear c2b0
 try clear p2
 obtain ⟨x0_1, x3_1, rfl, rfl, HA, HK1, HB⟩ := hrel
 cases gk with
 | zero => exact absurd HA.out (by simp [zb7])
 | succ k1 =>
 have H := HA.out
 clear HA
 simp only [zb7] at H
 by_cases c3 : x0_1 > 0
 rotate_left
 · rw [if_neg c3] at H
   have c3b0 := zdf c3
   clear c3
   by_cases c8 : 1 + x3_1.size ≤ 9223372036854775807
   rotate_left
   · rw [if_neg c8] at H
     exact absurd H (by simp)
   rw [if_pos c8] at H
   have c8b0 := eq_true c8
   have c8b1 := zdt c8
   try have c8b2 : (9223372036854775807 < 1 + x3_1.size) = False := eq_false (Nat.not_lt.2 c8)
   obtain rfl := zsi H
   go_wp2
   go_ret
   exact ⟨zq4, zq1⟩
 rw [if_pos c3] at H
 have c3b0 := zdt c3
 clear c3
 obtain ⟨y101, hy101⟩ : ∃ y_ : List Int, y_ = (([(wrap64 (48 + (Int.tmod x0_1 10))) % 256] : List Int)) := ⟨_, rfl⟩
 replace H : (if (strOfNums y101).size + x3_1.size ≤ 9223372036854775807 then (zb7 k1 (wrap64 (Int.tdiv x0_1 10)) ((strOfNums y101) ++ x3_1)) else (none)) = some r := by first | (rw [hy101]; with_reducible exact H) | (have H2_ := (Option.bind_some _ _).symm.trans H; rw [hy101]; with_reducible exact H2_) | (have H2_ := (Option.bind_some _ _).symm.trans H; with_reducible exact H2_) | with_reducible exact H | (rw [hy101]; exact H) | exact H
 have Ny101 := zA hy101
 clear hy101
 by_cases c4 : (strOfNums y101).size + x3_1.size ≤ 9223372036854775807
 rotate_left
 · rw [if_neg c4] at H
   exact absurd H (by simp)
 rw [if_pos c4] at H
 have c4b0 := eq_true c4
 have c4b1 := zdt c4
 try have c4b2 : (9223372036854775807 < (strOfNums y101).size + x3_1.size) = False := eq_false (Nat.not_lt.2 c4)
 have H' := zA H
 clear H
 go_wp2_with (first | ((with_reducible refine zgd 12 ?_); refine Kd.R_lit (Kd.int .u8) _ 5 ?hg (N := 12) ?hd (xs := ([(wrap64 (48 + (Int.tmod x0_1 10))) % 256] : List Int)) (inner := [.int .u8 ((wrap64 (48 + (Int.tmod x0_1 10))) % 256)]) (ok := fun _ => True) (okp := fun _ => True) ?hr ?hp (fun _ hk => hk) trivial (Below.refl _ _) (zlr _) (by simp) ?_; (case hd => rfl); (case hg => rfl); (case hr => go_simp <;> rfl); (case hp => exact (zau (show Kd.M (Kd.int .u8) _ _ _ ((wrap64 (48 + (Int.tmod x0_1 10))) % 256) [.int .u8 ((wrap64 (48 + (Int.tmod x0_1 10))) % 256)] from rfl) (Reps.none _ _))); intro v102 w5 ho6 hb hg_ hnew_; clear hg_ hnew_; (first | rw [← Ny101.out] at ho6 | (simp only [Int.reduceToNat] at ho6; rw [← Ny101.out] at ho6)); have HO103 := zA (Kd.R_lower ho6 (zar zq1)); replace HB := zA (zad zq1 hb); clear hb ho6; have hcv7 := zt1 (P := Try.prog) Try.underlying107 Try.underlying5 Try.underlying9 (Kd.own_of_R HO103.out)))
 go_roundg k1
 case measure => have := HK1.out; omega
 case rel => exact ⟨(wrap64 (Int.tdiv x0_1 10)), ((strOfNums y101) ++ x3_1), zq6, zq6, H', ⟨zq38 HK1⟩, ⟨zq1⟩⟩
def hnL (k : Nat) : List S72 → Int → Option Int
 | [], m => some m
 | x :: xs, m => (zdc k m).bind fun t => if x.f0.toList = t.toList ∧ x.f1 = wrap64 (m + 1) ∧ x.f2 = wrap64 (wrap64 (m + 1) + 1) ∧ x.f3 = wrap64 (wrap64 (wrap64 (m + 1) + 1) + 1) then hnL k xs (wrap64 (wrap64 (wrap64 (wrap64 (m + 1) + 1) + 1) + 1)) else none
def zea (k : Nat) (l0 : List S72) (a1 : Int) : Option Int := if l0.length < 1048577 then hnL k l0 a1 else none
theorem zsz (k : Nat) : ∀ xs m, LeO (hnL k xs m) (hnL (k + 1) xs m)
 | [], _ => LeO.refl _
 | x :: xs, m => by
   unfold hnL
   exact LeO.bind (ze7 _ _) (fun _ => zbh (zsz k xs _) (LeO.refl _))
theorem zr2 : ∀ a0 a1 k, LeO (zea k a0 a1) (zea (k + 1) a0 a1) := by
 intro a0 a1 k
 unfold zea
 exact zbh (zsz _ _ _) (LeO.refl _)
set_option maxHeartbeats 4000000 in
set_option maxRecDepth 100000 in
theorem zh3 (k : Nat) (A0 : Option Addr) (c0 : Nat) (l0 : List S72) (a1 : Int) (r : Int) (w : World) (hr0 : Kd.C k72 w A0 l0.length l0) (hc0 : l0.length ≤ c0) (h : zea k l0 a1 = some r) :
   Calls Try.prog 15 #[.slice A0 l0.length c0, .int .i64 a1] w fun e w' => e = .returned (.int .i64 r) ∧ Below w.heap.size w w' := by
 unfold zea at h
 by_cases hl : l0.length < 1048577
 rotate_left
 · rw [if_neg hl] at h
   cases h
 rw [if_pos hl] at h
 have HH := zA h
 have HR := zA hr0
 clear h hr0 hc0
 go_enter Try.func15, Try.ntmps15
 go_wp2_with fail
 go_loopw [1, 5] (fun v1 v5 wr => ∃ (u : Nat) (m : Int), v5 = .int .i64 (u : Int) ∧ v1 = .int .i64 m ∧ u ≤ l0.length ∧ Aside0 (Below w.heap.size w wr) ∧ Aside0 (hnL k (l0.drop u) m = some r)) (fun _ v5 _ => l0.length - (intOf v5).toNat)
 case atStart => exact ⟨0, a1, rfl, rfl, Nat.zero_le _, ⟨Below.refl _ _⟩, ⟨by rw [List.drop_zero]; exact HH.out⟩⟩
 clear HH
 obtain ⟨u, m, rfl, rfl, hu, HB, HS⟩ := hrel
 by_cases hlt : u < l0.length
 rotate_left
 · obtain rfl : u = l0.length := by omega
   have d1 : decide ((l0.length : Int) < l0.length) = false := zdf (by omega)
   have hs := HS.out
   rw [List.drop_length] at hs
   obtain rfl := zsi hs
   clear hs HS
   go_wp2_with fail
   go_ret
   exact ⟨rfl, HB.out⟩
 have d1 : decide ((u : Int) < l0.length) = true := zdt (by omega)
 have d2 : (0 : Int) ≤ (u : Int) := by omega
 have d3 : (u : Int) < l0.length := by omega
 obtain ⟨ad, eA, x0, x1, x2, x3⟩ := zd0 (zCb HR.out HB.out) (u : Int) d2 d3
 rw [Int.toNat_natCast] at x0 x1 x2 x3
 subst eA
 have hs := HS.out
 obtain ⟨x, hx⟩ : ∃ x, x = zab l0 (u : Int) := ⟨_, rfl⟩
 rw [← hx] at x0 x1 x2 x3
 have hdr : l0.drop u = x :: l0.drop (u + 1) := by
   rw [List.drop_eq_getElem_cons hlt, hx]
   unfold zab
   rw [Int.toNat_natCast, List.getD_eq_getElem?_getD, List.getElem?_eq_getElem hlt]
   rfl
 rw [hdr] at hs
 unfold hnL at hs
 obtain ⟨t, ht, hs⟩ := Option.bind_eq_some_iff.1 hs
 by_cases hc : x.f0.toList = t.toList ∧ x.f1 = wrap64 (m + 1) ∧ x.f2 = wrap64 (wrap64 (m + 1) + 1) ∧ x.f3 = wrap64 (wrap64 (wrap64 (m + 1) + 1) + 1)
 rotate_left
 · rw [if_neg hc] at hs
   cases hs
 rw [if_pos hc] at hs
 obtain ⟨e0, e1, e2, e3⟩ := hc
 rw [e1] at x1
 rw [e2] at x2
 rw [e3] at x3
 have HT := zA ht
 have HS1 := zA hs
 have b0 : (x.f0.toList == t.toList) = true := beq_iff_eq.2 e0
 clear hs ht hdr hx HS e0 e1 e2 e3
 go_wp2_with fail
 refine zja [[], [], [0, 1], [0, 1, 2], [0, 1, 2, 3], [], [5], [0, 1, 2, 3, 4, 5, 6]] [] (zbi [.slice (some ad) l0.length c0, .int .i64 (u : Int), .pointer (some (ad.add (u * 4))), .pointer (some (ad.add (u * 4))), .string x.f0, .int .i64 m, .string t, .bool false]) (fun _ W => Below wr.heap.size wr W)
   rfl (fun _ _ _ _ _ h => h) zq23 (zco (Below.refl _ _)) ⟨?_, ?_, ?_, ?_, ?_, ?_, ?_, ?_, trivial⟩ ?_
 iterate 4
   · refine fun L W hu hd hn hJ => zap (by rfl) hJ ?_
     simp only [zag, riGo, zat, zas, za6, zbi, Nat.reduceBEq, Nat.reduceAdd, List.headD, List.tail, List.getD, List.getElem?_cons_zero, List.getElem?_cons_succ, Option.getD_some, cond_true, cond_false]
     first | (go_simp; done) | (go_simp; rfl)
 · refine fun L W hu hd hn hJ => zap (by rfl) hJ ?_
   have y := (hJ.cell (World.block_lt_of_cell? wr _ x0)).trans x0
   clear x0 x1 x2 x3
   simp only [zag, riGo, zat, zas, za6, zbi, Nat.reduceBEq, Nat.reduceAdd, List.headD, List.tail, List.getD, List.getElem?_cons_zero, List.getElem?_cons_succ, Option.getD_some, cond_true, cond_false]
   first | (go_simp; done) | (go_simp; rfl)
 · refine fun L W hu hd hn hJ => zap (by rfl) hJ ?_
   simp only [zag, riGo, zat, zas, za6, zbi, Nat.reduceBEq, Nat.reduceAdd, List.headD, List.tail, List.getD, List.getElem?_cons_zero, List.getElem?_cons_succ, Option.getD_some, cond_true, cond_false]
   first | (go_simp; done) | (go_simp; rfl)
 · intro L W hu hd hn hJ
   exact zr0 Try.func49 zq23 rfl #[.int .i64 m] (by rfl) rfl zq35 ((zgt k m t W HT.out).mono (by rintro e W' ⟨rfl, hb⟩; exact ⟨rfl, zad hJ hb⟩))
 · refine fun L W hu hd hn hJ => zap (by rfl) hJ ?_
   simp only [zag, riGo, zat, zas, za6, zbi, Nat.reduceBEq, Nat.reduceAdd, List.headD, List.tail, List.getD, List.getElem?_cons_zero, List.getElem?_cons_succ, Option.getD_some, cond_true, cond_false]
   first | (go_simp; done) | (go_simp; rfl)
 · intro L W hL hJ
   have y1 := (hJ.cell (World.block_lt_of_cell? wr _ x1)).trans x1
   have y2 := (hJ.cell (World.block_lt_of_cell? wr _ x2)).trans x2
   have y3 := (hJ.cell (World.block_lt_of_cell? wr _ x3)).trans x3
   have HB2 := zA (zad HB.out hJ)
   clear x0 x1 x2 x3 hJ hL b0
   simp only [zag, riGo, zat, zas, za6, zbi, Nat.reduceBEq, Nat.reduceAdd, List.headD, List.tail, List.getD, List.getElem?_cons_zero, List.getElem?_cons_succ, Option.getD_some, cond_true, cond_false]
   go_wp2_with fail
   go_roundw
   case rel => exact ⟨u + 1, _, by go_num, rfl, by omega, HB2, HS1⟩
   case measure => simp [intOf]; omega
def za3 : Nat → List (S94) → Int → Int → Option (Int × (List (S94)))
 | 0, _, _, _ => none
 | k + 1, x0, x1, x5 => if x5 < (x0.length : Int) then ((zdc k x1).bind fun t101 => (if 0 ≤ x5 then ((some (x0.set (x5 : Int).toNat (⟨t101, (zaa x0 x5).f1, (zaa x0 x5).f2, (zaa x0 x5).f3, (zaa x0 x5).f4⟩ : S94) : List (S94))).bind fun y102 => ((some (y102.set (x5 : Int).toNat (⟨(zaa y102 x5).f0, wrap64 (x1 + 1), (zaa y102 x5).f2, (zaa y102 x5).f3, (zaa y102 x5).f4⟩ : S94) : List (S94))).bind fun y103 => ((some (y103.set (x5 : Int).toNat (⟨(zaa y103 x5).f0, (zaa y103 x5).f1, wrap64 ((wrap64 (x1 + 1)) + 1), (zaa y103 x5).f3, (zaa y103 x5).f4⟩ : S94) : List (S94))).bind fun y104 => ((some (y104.set (x5 : Int).toNat (⟨(zaa y104 x5).f0, (zaa y104 x5).f1, (zaa y104 x5).f2, wrap64 ((wrap64 ((wrap64 (x1 + 1)) + 1)) + 1), (zaa y104 x5).f4⟩ : S94) : List (S94))).bind fun y105 => (za3 k (y105.set (x5 : Int).toNat (⟨(zaa y105 x5).f0, (zaa y105 x5).f1, (zaa y105 x5).f2, (zaa y105 x5).f3, wrap64 ((wrap64 ((wrap64 ((wrap64 (x1 + 1)) + 1)) + 1)) + 1)⟩ : S94)) (wrap64 ((wrap64 ((wrap64 ((wrap64 ((wrap64 (x1 + 1)) + 1)) + 1)) + 1)) + 1)) (wrap64 (x5 + 1))))))) else (none))) else (some (x1, x0))
def zdw (k : Nat) (l0 : List (S94)) (a1 : Int) : Option (Int × (List (S94))) := za3 k l0 a1 0
theorem zhb : ∀ k, (∀ y0 y1 y2, LeO (za3 k y0 y1 y2) (za3 (k + 1) y0 y1 y2))
 | 0 => fun _ _ _ r h => by simp [za3] at h
 | k + 1 => by
   have ih0 := zhb k
   · intro y0 y1 y2
     unfold za3
     exact zm2 ih0 ze7
theorem zry : ∀ a0 a1 k, LeO (zdw k a0 a1) (zdw (k + 1) a0 a1) := by
 intro a0 a1 k
 have ih0 := zhb k
 unfold zdw
 exact zm2 ih0 ze7
set_option maxHeartbeats 8000000 in
set_option maxRecDepth 100000 in
theorem zkm (k : Nat) (P0_ : Nat → Prop) (u9000_ : Value) (l0 : List (S94)) (a1 : Int) (r1 : Int) (r2 : List (S94)) (w0 w : World) (hB : Below w0.heap.size w0 w) (ho0 : Kd.R k94 94 w w0.heap.size P0_ u9000_ l0) (h : zdw k l0 a1 = some (r1, r2)) :
   Calls Try.prog 30 #[u9000_, .int .i64 a1] w fun e w' => e = .returned (.int .i64 r1) ∧ Kd.R k94 94 w' w0.heap.size (fun k_ => (P0_ k_ ∨ w.heap.size ≤ k_)) u9000_ r2 ∧ Below w0.heap.size w0 w' ∧ Kept w w' (fun k_ => P0_ k_) := by
 have HO0 := zA (show Kd.R k94 94 w w0.heap.size (fun k_ => (P0_ k_ ∨ w.heap.size ≤ k_)) u9000_ l0 from Kd.R_mono ho0 (fun k_ hk => (.inl hk)))
 have HK := zA (Kept.refl w (fun k_ => P0_ k_))
 have HW0 := zA hB.size
 have HB := zA hB
 clear hB
 have H : (za3 k l0 a1 0) = some (r1, r2) := h
 clear h
 have H' := zA H
 clear H
 go_enter Try.func30, Try.ntmps30
 go_wp2
 go_loopg [1, 5] k (fun kq v1 v5 w' => ∃ (x0_1 : List (S94)) (x1_1 : Int) (x5_1 : Int), v1 = .int .i64 x1_1 ∧ v5 = .int .i64 x5_1 ∧ Aside0 (za3 kq x0_1 x1_1 x5_1 = some (r1, r2)) ∧ Aside0 (kq ≤ k) ∧ Aside0 (Kd.R k94 94 w' w0.heap.size (fun k_ => (P0_ k_ ∨ w.heap.size ≤ k_)) u9000_ x0_1) ∧ Aside0 (Kept w w' (fun k_ => P0_ k_)) ∧ Aside0 (Below w0.heap.size w0 w'))
 case atStart => exact ⟨(l0), (a1), (0), zq6, zq6, H', ⟨zlr _⟩, ⟨zq3 HO0⟩, ⟨zq21⟩, ⟨zq1⟩⟩
 clear H'
 try clear p2
 obtain ⟨x0_1, x1_1, x5_1, rfl, rfl, HA, HK1, HO_0, HK, HB⟩ := hrel
 cases gk with
 | zero => exact absurd HA.out (by simp [za3])
 | succ k1 =>
 have H := HA.out
 clear HA
 simp only [za3] at H
 revert H
 refine zit (fun c3 H => ?_) fun c3 H => ?_
 rotate_left
 · simp only [Option.some.injEq, Prod.mk.injEq] at H
   obtain ⟨rfl, rfl⟩ := H
   obtain ⟨Ao23, co23, eo23⟩ := Kd.R_slice HO_0.out
   subst eo23
   go_wp2
   go_ret
   exact ⟨zq4, zq3 HO_0, zq1, zq21⟩
 replace H := zob H
 obtain ⟨t101, A40, H⟩ := H
 replace H : (if 0 ≤ x5_1 then ((some (x0_1.set (x5_1 : Int).toNat (⟨t101, (zaa x0_1 x5_1).f1, (zaa x0_1 x5_1).f2, (zaa x0_1 x5_1).f3, (zaa x0_1 x5_1).f4⟩ : S94) : List (S94))).bind fun y102 => ((some (y102.set (x5_1 : Int).toNat (⟨(zaa y102 x5_1).f0, wrap64 (x1_1 + 1), (zaa y102 x5_1).f2, (zaa y102 x5_1).f3, (zaa y102 x5_1).f4⟩ : S94) : List (S94))).bind fun y103 => ((some (y103.set (x5_1 : Int).toNat (⟨(zaa y103 x5_1).f0, (zaa y103 x5_1).f1, wrap64 ((wrap64 (x1_1 + 1)) + 1), (zaa y103 x5_1).f3, (zaa y103 x5_1).f4⟩ : S94) : List (S94))).bind fun y104 => ((some (y104.set (x5_1 : Int).toNat (⟨(zaa y104 x5_1).f0, (zaa y104 x5_1).f1, (zaa y104 x5_1).f2, wrap64 ((wrap64 ((wrap64 (x1_1 + 1)) + 1)) + 1), (zaa y104 x5_1).f4⟩ : S94) : List (S94))).bind fun y105 => (za3 k1 (y105.set (x5_1 : Int).toNat (⟨(zaa y105 x5_1).f0, (zaa y105 x5_1).f1, (zaa y105 x5_1).f2, (zaa y105 x5_1).f3, wrap64 ((wrap64 ((wrap64 ((wrap64 (x1_1 + 1)) + 1)) + 1)) + 1)⟩ : S94)) (wrap64 ((wrap64 ((wrap64 ((wrap64 ((wrap64 (x1_1 + 1)) + 1)) + 1)) + 1)) + 1)) (wrap64 (x5_1 + 1))))))) else (none)) = some (r1, r2) := H
 have A4 := zA A40
 clear A40
 revert H
 refine zin fun c5 H => ?_
 obtain ⟨y102, hy102⟩ : ∃ y_ : List (S94), y_ = (x0_1.set (x5_1 : Int).toNat (⟨t101, (zaa x0_1 x5_1).f1, (zaa x0_1 x5_1).f2, (zaa x0_1 x5_1).f3, (zaa x0_1 x5_1).f4⟩ : S94)) := ⟨_, rfl⟩
 replace H : ((some (y102.set (x5_1 : Int).toNat (⟨(zaa y102 x5_1).f0, wrap64 (x1_1 + 1), (zaa y102 x5_1).f2, (zaa y102 x5_1).f3, (zaa y102 x5_1).f4⟩ : S94) : List (S94))).bind fun y103 => ((some (y103.set (x5_1 : Int).toNat (⟨(zaa y103 x5_1).f0, (zaa y103 x5_1).f1, wrap64 ((wrap64 (x1_1 + 1)) + 1), (zaa y103 x5_1).f3, (zaa y103 x5_1).f4⟩ : S94) : List (S94))).bind fun y104 => ((some (y104.set (x5_1 : Int).toNat (⟨(zaa y104 x5_1).f0, (zaa y104 x5_1).f1, (zaa y104 x5_1).f2, wrap64 ((wrap64 ((wrap64 (x1_1 + 1)) + 1)) + 1), (zaa y104 x5_1).f4⟩ : S94) : List (S94))).bind fun y105 => (za3 k1 (y105.set (x5_1 : Int).toNat (⟨(zaa y105 x5_1).f0, (zaa y105 x5_1).f1, (zaa y105 x5_1).f2, (zaa y105 x5_1).f3, wrap64 ((wrap64 ((wrap64 ((wrap64 (x1_1 + 1)) + 1)) + 1)) + 1)⟩ : S94)) (wrap64 ((wrap64 ((wrap64 ((wrap64 ((wrap64 (x1_1 + 1)) + 1)) + 1)) + 1)) + 1)) (wrap64 (x5_1 + 1)))))) = some (r1, r2) := by first | (rw [hy102]; with_reducible exact H) | (have H2_ := (Option.bind_some _ _).symm.trans H; rw [hy102]; with_reducible exact H2_) | (have H2_ := (Option.bind_some _ _).symm.trans H; with_reducible exact H2_) | with_reducible exact H | (rw [hy102]; exact H) | exact H
 have Ny102 := zA hy102
 clear hy102
 obtain ⟨y103, hy103⟩ : ∃ y_ : List (S94), y_ = (y102.set (x5_1 : Int).toNat (⟨(zaa y102 x5_1).f0, wrap64 (x1_1 + 1), (zaa y102 x5_1).f2, (zaa y102 x5_1).f3, (zaa y102 x5_1).f4⟩ : S94)) := ⟨_, rfl⟩
 replace H : ((some (y103.set (x5_1 : Int).toNat (⟨(zaa y103 x5_1).f0, (zaa y103 x5_1).f1, wrap64 ((wrap64 (x1_1 + 1)) + 1), (zaa y103 x5_1).f3, (zaa y103 x5_1).f4⟩ : S94) : List (S94))).bind fun y104 => ((some (y104.set (x5_1 : Int).toNat (⟨(zaa y104 x5_1).f0, (zaa y104 x5_1).f1, (zaa y104 x5_1).f2, wrap64 ((wrap64 ((wrap64 (x1_1 + 1)) + 1)) + 1), (zaa y104 x5_1).f4⟩ : S94) : List (S94))).bind fun y105 => (za3 k1 (y105.set (x5_1 : Int).toNat (⟨(zaa y105 x5_1).f0, (zaa y105 x5_1).f1, (zaa y105 x5_1).f2, (zaa y105 x5_1).f3, wrap64 ((wrap64 ((wrap64 ((wrap64 (x1_1 + 1)) + 1)) + 1)) + 1)⟩ : S94)) (wrap64 ((wrap64 ((wrap64 ((wrap64 ((wrap64 (x1_1 + 1)) + 1)) + 1)) + 1)) + 1)) (wrap64 (x5_1 + 1))))) = some (r1, r2) := by first | (rw [hy103]; with_reducible exact H) | (have H2_ := (Option.bind_some _ _).symm.trans H; rw [hy103]; with_reducible exact H2_) | (have H2_ := (Option.bind_some _ _).symm.trans H; with_reducible exact H2_) | with_reducible exact H | (rw [hy103]; exact H) | exact H
 have Ny103 := zA hy103
 clear hy103
 obtain ⟨y104, hy104⟩ : ∃ y_ : List (S94), y_ = (y103.set (x5_1 : Int).toNat (⟨(zaa y103 x5_1).f0, (zaa y103 x5_1).f1, wrap64 ((wrap64 (x1_1 + 1)) + 1), (zaa y103 x5_1).f3, (zaa y103 x5_1).f4⟩ : S94)) := ⟨_, rfl⟩
 replace H : ((some (y104.set (x5_1 : Int).toNat (⟨(zaa y104 x5_1).f0, (zaa y104 x5_1).f1, (zaa y104 x5_1).f2, wrap64 ((wrap64 ((wrap64 (x1_1 + 1)) + 1)) + 1), (zaa y104 x5_1).f4⟩ : S94) : List (S94))).bind fun y105 => (za3 k1 (y105.set (x5_1 : Int).toNat (⟨(zaa y105 x5_1).f0, (zaa y105 x5_1).f1, (zaa y105 x5_1).f2, (zaa y105 x5_1).f3, wrap64 ((wrap64 ((wrap64 ((wrap64 (x1_1 + 1)) + 1)) + 1)) + 1)⟩ : S94)) (wrap64 ((wrap64 ((wrap64 ((wrap64 ((wrap64 (x1_1 + 1)) + 1)) + 1)) + 1)) + 1)) (wrap64 (x5_1 + 1)))) = some (r1, r2) := by first | (rw [hy104]; with_reducible exact H) | (have H2_ := (Option.bind_some _ _).symm.trans H; rw [hy104]; with_reducible exact H2_) | (have H2_ := (Option.bind_some _ _).symm.trans H; with_reducible exact H2_) | with_reducible exact H | (rw [hy104]; exact H) | exact H
 have Ny104 := zA hy104
 clear hy104
 obtain ⟨y105, hy105⟩ : ∃ y_ : List (S94), y_ = (y104.set (x5_1 : Int).toNat (⟨(zaa y104 x5_1).f0, (zaa y104 x5_1).f1, (zaa y104 x5_1).f2, wrap64 ((wrap64 ((wrap64 (x1_1 + 1)) + 1)) + 1), (zaa y104 x5_1).f4⟩ : S94)) := ⟨_, rfl⟩
 replace H : (za3 k1 (y105.set (x5_1 : Int).toNat (⟨(zaa y105 x5_1).f0, (zaa y105 x5_1).f1, (zaa y105 x5_1).f2, (zaa y105 x5_1).f3, wrap64 ((wrap64 ((wrap64 ((wrap64 (x1_1 + 1)) + 1)) + 1)) + 1)⟩ : S94)) (wrap64 ((wrap64 ((wrap64 ((wrap64 ((wrap64 (x1_1 + 1)) + 1)) + 1)) + 1)) + 1)) (wrap64 (x5_1 + 1))) = some (r1, r2) := by first | (rw [hy105]; with_reducible exact H) | (have H2_ := (Option.bind_some _ _).symm.trans H; rw [hy105]; with_reducible exact H2_) | (have H2_ := (Option.bind_some _ _).symm.trans H; with_reducible exact H2_) | with_reducible exact H | (rw [hy105]; exact H) | exact H
 have Ny105 := zA hy105
 clear hy105
 obtain ⟨y106, hy106⟩ : ∃ y_ : List (S94), y_ = (y105.set (x5_1 : Int).toNat (⟨(zaa y105 x5_1).f0, (zaa y105 x5_1).f1, (zaa y105 x5_1).f2, (zaa y105 x5_1).f3, wrap64 ((wrap64 ((wrap64 ((wrap64 (x1_1 + 1)) + 1)) + 1)) + 1)⟩ : S94)) := ⟨_, rfl⟩
 replace H : (za3 k1 y106 (wrap64 ((wrap64 ((wrap64 ((wrap64 ((wrap64 (x1_1 + 1)) + 1)) + 1)) + 1)) + 1)) (wrap64 (x5_1 + 1))) = some (r1, r2) := by first | (rw [hy106]; with_reducible exact H) | (have H2_ := (Option.bind_some _ _).symm.trans H; rw [hy106]; with_reducible exact H2_) | (have H2_ := (Option.bind_some _ _).symm.trans H; with_reducible exact H2_) | with_reducible exact H | (rw [hy106]; exact H) | exact H
 have Ny106 := zA hy106
 clear hy106
 have H' := zA H
 clear H
 obtain ⟨Ao11, co11, eo11⟩ := Kd.R_slice HO_0.out
 subst eo11
 go_wp2_with (first | ((with_reducible refine zgc 49 ?_); refine zcl 15 Try.func49 (zgt k1 x1_1 t101 _ A4.out) ?_; rintro e w12 ⟨rfl, hb⟩; refine ⟨_, rfl, ?_⟩; replace HO_0 := zA (zRb (zq3 HO_0) hb); replace HK := zA (Kept.below (S := (fun k_ => P0_ k_)) zq21 hb); replace HB := zA (zad zq1 hb); (try clear hb); have p6 : 0 ≤ (x5_1 : Int) := zde zq16; have q6 : (x5_1 : Int) < ((x0_1.length : Int) : Int) := zde zq16; obtain ⟨go6, co6, eo6, gb6, gl6, cl6, HG6⟩ := Kd.R_form HO_0.out (by omega); (first | cases eo6 | (injection eo6 with ea_ en_ ec_; (first | subst ea_ | (injection ea_ with ea_; subst ea_)); subst ec_; clear en_)); have GB6 := zA gb6; have GG6 := zA HG6; clear gb6 gl6 HG6; have HMgo6 := zA (show (P0_ go6 ∨ w.heap.size ≤ go6) from (HO_0.out.1 _ rfl)); obtain ⟨ce6, hcl6, hM6, hcc6, hfr6⟩ := Kd.R_elem HO_0.out z94 (x5_1 : Int) p6 q6; obtain rfl := zft hM6; have hx6_0 : w12.cell? ⟨go6, (x5_1 : Int).toNat * 5, none⟩ = some (.string ((zaa x0_1 x5_1).f0)) := hcc6 0 _ rfl; have hx6_1 : w12.cell? ⟨go6, (x5_1 : Int).toNat * 5 + 1, none⟩ = some (.int .i64 ((zaa x0_1 x5_1).f1)) := hcc6 1 _ rfl; have hx6_2 : w12.cell? ⟨go6, (x5_1 : Int).toNat * 5 + 2, none⟩ = some (.int .i64 ((zaa x0_1 x5_1).f2)) := hcc6 2 _ rfl; have hx6_3 : w12.cell? ⟨go6, (x5_1 : Int).toNat * 5 + 3, none⟩ = some (.int .i64 ((zaa x0_1 x5_1).f3)) := hcc6 3 _ rfl; have hx6_4 : w12.cell? ⟨go6, (x5_1 : Int).toNat * 5 + 4, none⟩ = some (.int .i64 ((zaa x0_1 x5_1).f4)) := hcc6 4 _ rfl; have hf6_0 : w12.frozen? ⟨go6, (x5_1 : Int).toNat * 5, none⟩ = false := hfr6 0; have hf6_1 : w12.frozen? ⟨go6, (x5_1 : Int).toNat * 5 + 1, none⟩ = false := hfr6 1; have hf6_2 : w12.frozen? ⟨go6, (x5_1 : Int).toNat * 5 + 2, none⟩ = false := hfr6 2; have hf6_3 : w12.frozen? ⟨go6, (x5_1 : Int).toNat * 5 + 3, none⟩ = false := hfr6 3; have hf6_4 : w12.frozen? ⟨go6, (x5_1 : Int).toNat * 5 + 4, none⟩ = false := hfr6 4; clear hcl6 hcc6 hfr6 hM6; replace p6 := eq_true p6; replace q6 := eq_true q6; have HX13 := zA (show Kd.R k94 94 w12 w0.heap.size (fun k_ => (P0_ k_ ∨ w.heap.size ≤ k_)) (.slice (some ⟨go6, 0, none⟩) x0_1.length co11) x0_1 from (zq3 HO_0)); obtain ⟨ce13, hcl13, hM13, hcc13, hfr13⟩ := Kd.R_elem HX13.out z94 (x5_1 : Int) (zde zq16) (zq20 HO_0); obtain rfl := zft hM13; have HP13 := Kd.R_seg HX13.out (x5_1 : Int) (zde zq16) (zq20 HO_0) (seg := [.string t101]) (j := 0) hcl13 hcc13 (show 1 ≤ 5 from by decide) (x' := (⟨t101, (zaa x0_1 x5_1).f1, (zaa x0_1 x5_1).f2, (zaa x0_1 x5_1).f3, (zaa x0_1 x5_1).f4⟩ : S94)) (zli _ _ _ (⟨t101, (zaa x0_1 x5_1).f1, (zaa x0_1 x5_1).f2, (zaa x0_1 x5_1).f3, (zaa x0_1 x5_1).f4⟩ : S94) ) (fun _ hk => hk); have hx13_0 := hcc13 0 _ rfl; (try simp only [show (k94).sz = 5 from rfl, Nat.mul_one, Nat.add_zero] at hx13_0); have hf13_0 := hfr13 0; (try simp only [show (k94).sz = 5 from rfl, Nat.mul_one, Nat.add_zero] at hf13_0); clear hcl13 hcc13 hfr13 hM13) | ((with_reducible refine zgs 9 17 ?_); refine zse (w12.setCell ⟨go6, (x5_1 : Int).toNat * 5, none⟩ (.string t101)) ?_; intro w14 hw; have hg : w12.grownBy w14 (some go6) := (by rw [hw]; exact HP13.2); have hp_ : Kd.R k94 94 w14 w0.heap.size (fun k_ => (P0_ k_ ∨ w.heap.size ≤ k_)) (.slice (some ⟨go6, 0, none⟩) x0_1.length co11) y102 := (by rw [hw, Ny102.out]; exact HP13.1); clear HP13; replace HB := zA ((zq32 GB6 : Below w0.heap.size w0 w14)); replace HK := zA (zeh (S := (fun k_ => P0_ k_)) hg zq21 (fun k_ e_ => (HO_0.out.1 k_ e_))); replace HO_0 := zA (hp_); clear hg hw hp_; have p7 : 0 ≤ (x5_1 : Int) := zde zq16; have q7 : (x5_1 : Int) < ((x0_1.length : Int) : Int) := zde zq16; obtain ⟨ce7, hcl7, hM7, hcc7, hfr7⟩ := Kd.R_elem HO_0.out z94 (x5_1 : Int) p7 q7; obtain rfl := zft hM7; have hx7_0 : w14.cell? ⟨go6, (x5_1 : Int).toNat * 5, none⟩ = some (.string ((zaa y102 x5_1).f0)) := hcc7 0 _ rfl; have hx7_1 : w14.cell? ⟨go6, (x5_1 : Int).toNat * 5 + 1, none⟩ = some (.int .i64 ((zaa y102 x5_1).f1)) := hcc7 1 _ rfl; have hx7_2 : w14.cell? ⟨go6, (x5_1 : Int).toNat * 5 + 2, none⟩ = some (.int .i64 ((zaa y102 x5_1).f2)) := hcc7 2 _ rfl; have hx7_3 : w14.cell? ⟨go6, (x5_1 : Int).toNat * 5 + 3, none⟩ = some (.int .i64 ((zaa y102 x5_1).f3)) := hcc7 3 _ rfl; have hx7_4 : w14.cell? ⟨go6, (x5_1 : Int).toNat * 5 + 4, none⟩ = some (.int .i64 ((zaa y102 x5_1).f4)) := hcc7 4 _ rfl; have hf7_0 : w14.frozen? ⟨go6, (x5_1 : Int).toNat * 5, none⟩ = false := hfr7 0; have hf7_1 : w14.frozen? ⟨go6, (x5_1 : Int).toNat * 5 + 1, none⟩ = false := hfr7 1; have hf7_2 : w14.frozen? ⟨go6, (x5_1 : Int).toNat * 5 + 2, none⟩ = false := hfr7 2; have hf7_3 : w14.frozen? ⟨go6, (x5_1 : Int).toNat * 5 + 3, none⟩ = false := hfr7 3; have hf7_4 : w14.frozen? ⟨go6, (x5_1 : Int).toNat * 5 + 4, none⟩ = false := hfr7 4; clear hcl7 hcc7 hfr7 hM7; replace p7 := eq_true p7; replace q7 := eq_true q7; have HX15 := zA (show Kd.R k94 94 w14 w0.heap.size (fun k_ => (P0_ k_ ∨ w.heap.size ≤ k_)) (.slice (some ⟨go6, 0, none⟩) x0_1.length co11) y102 from (zq3 HO_0)); obtain ⟨ce15, hcl15, hM15, hcc15, hfr15⟩ := Kd.R_elem HX15.out z94 (x5_1 : Int) (zde zq16) (zq20 HO_0); obtain rfl := zft hM15; have HP15 := Kd.R_seg HX15.out (x5_1 : Int) (zde zq16) (zq20 HO_0) (seg := [.int .i64 (wrap64 (x1_1 + 1))]) (j := 1) hcl15 hcc15 (show 2 ≤ 5 from by decide) (x' := (⟨(zaa y102 x5_1).f0, wrap64 (x1_1 + 1), (zaa y102 x5_1).f2, (zaa y102 x5_1).f3, (zaa y102 x5_1).f4⟩ : S94)) (zli _ _ _ (⟨(zaa y102 x5_1).f0, wrap64 (x1_1 + 1), (zaa y102 x5_1).f2, (zaa y102 x5_1).f3, (zaa y102 x5_1).f4⟩ : S94) ) (fun _ hk => hk); have hx15_1 := hcc15 1 _ rfl; (try simp only [show (k94).sz = 5 from rfl, Nat.mul_one, Nat.add_zero] at hx15_1); have hf15_1 := hfr15 1; (try simp only [show (k94).sz = 5 from rfl, Nat.mul_one, Nat.add_zero] at hf15_1); clear hcl15 hcc15 hfr15 hM15) | ((with_reducible refine zgs 3 24 ?_); refine zse (w14.setCell ⟨go6, (x5_1 : Int).toNat * 5 + 1, none⟩ (.int .i64 (wrap64 (x1_1 + 1)))) ?_; intro w16 hw; have hg : w14.grownBy w16 (some go6) := (by rw [hw]; exact HP15.2); have hp_ : Kd.R k94 94 w16 w0.heap.size (fun k_ => (P0_ k_ ∨ w.heap.size ≤ k_)) (.slice (some ⟨go6, 0, none⟩) x0_1.length co11) y103 := (by rw [hw, Ny103.out]; exact HP15.1); clear HP15; replace HB := zA ((zq32 GB6 : Below w0.heap.size w0 w16)); replace HK := zA (zeh (S := (fun k_ => P0_ k_)) hg zq21 (fun k_ e_ => (HO_0.out.1 k_ e_))); replace HO_0 := zA (hp_); clear hg hw hp_; have p8 : 0 ≤ (x5_1 : Int) := zde zq16; have q8 : (x5_1 : Int) < ((x0_1.length : Int) : Int) := zde zq16; obtain ⟨ce8, hcl8, hM8, hcc8, hfr8⟩ := Kd.R_elem HO_0.out z94 (x5_1 : Int) p8 q8; obtain rfl := zft hM8; have hx8_0 : w16.cell? ⟨go6, (x5_1 : Int).toNat * 5, none⟩ = some (.string ((zaa y103 x5_1).f0)) := hcc8 0 _ rfl; have hx8_1 : w16.cell? ⟨go6, (x5_1 : Int).toNat * 5 + 1, none⟩ = some (.int .i64 ((zaa y103 x5_1).f1)) := hcc8 1 _ rfl; have hx8_2 : w16.cell? ⟨go6, (x5_1 : Int).toNat * 5 + 2, none⟩ = some (.int .i64 ((zaa y103 x5_1).f2)) := hcc8 2 _ rfl; have hx8_3 : w16.cell? ⟨go6, (x5_1 : Int).toNat * 5 + 3, none⟩ = some (.int .i64 ((zaa y103 x5_1).f3)) := hcc8 3 _ rfl; have hx8_4 : w16.cell? ⟨go6, (x5_1 : Int).toNat * 5 + 4, none⟩ = some (.int .i64 ((zaa y103 x5_1).f4)) := hcc8 4 _ rfl; have hf8_0 : w16.frozen? ⟨go6, (x5_1 : Int).toNat * 5, none⟩ = false := hfr8 0; have hf8_1 : w16.frozen? ⟨go6, (x5_1 : Int).toNat * 5 + 1, none⟩ = false := hfr8 1; have hf8_2 : w16.frozen? ⟨go6, (x5_1 : Int).toNat * 5 + 2, none⟩ = false := hfr8 2; have hf8_3 : w16.frozen? ⟨go6, (x5_1 : Int).toNat * 5 + 3, none⟩ = false := hfr8 3; have hf8_4 : w16.frozen? ⟨go6, (x5_1 : Int).toNat * 5 + 4, none⟩ = false := hfr8 4; clear hcl8 hcc8 hfr8 hM8; replace p8 := eq_true p8; replace q8 := eq_true q8; have HX17 := zA (show Kd.R k94 94 w16 w0.heap.size (fun k_ => (P0_ k_ ∨ w.heap.size ≤ k_)) (.slice (some ⟨go6, 0, none⟩) x0_1.length co11) y103 from (zq3 HO_0)); obtain ⟨ce17, hcl17, hM17, hcc17, hfr17⟩ := Kd.R_elem HX17.out z94 (x5_1 : Int) (zde zq16) (zq20 HO_0); obtain rfl := zft hM17; have HP17 := Kd.R_seg HX17.out (x5_1 : Int) (zde zq16) (zq20 HO_0) (seg := [.int .i64 (wrap64 ((wrap64 (x1_1 + 1)) + 1))]) (j := 2) hcl17 hcc17 (show 3 ≤ 5 from by decide) (x' := (⟨(zaa y103 x5_1).f0, (zaa y103 x5_1).f1, wrap64 ((wrap64 (x1_1 + 1)) + 1), (zaa y103 x5_1).f3, (zaa y103 x5_1).f4⟩ : S94)) (zli _ _ _ (⟨(zaa y103 x5_1).f0, (zaa y103 x5_1).f1, wrap64 ((wrap64 (x1_1 + 1)) + 1), (zaa y103 x5_1).f3, (zaa y103 x5_1).f4⟩ : S94) ) (fun _ hk => hk); have hx17_2 := hcc17 2 _ rfl; (try simp only [show (k94).sz = 5 from rfl, Nat.mul_one, Nat.add_zero] at hx17_2); have hf17_2 := hfr17 2; (try simp only [show (k94).sz = 5 from rfl, Nat.mul_one, Nat.add_zero] at hf17_2); clear hcl17 hcc17 hfr17 hM17) | ((with_reducible refine zgs 3 31 ?_); refine zse (w16.setCell ⟨go6, (x5_1 : Int).toNat * 5 + 2, none⟩ (.int .i64 (wrap64 ((wrap64 (x1_1 + 1)) + 1)))) ?_; intro w18 hw; have hg : w16.grownBy w18 (some go6) := (by rw [hw]; exact HP17.2); have hp_ : Kd.R k94 94 w18 w0.heap.size (fun k_ => (P0_ k_ ∨ w.heap.size ≤ k_)) (.slice (some ⟨go6, 0, none⟩) x0_1.length co11) y104 := (by rw [hw, Ny104.out]; exact HP17.1); clear HP17; replace HB := zA ((zq32 GB6 : Below w0.heap.size w0 w18)); replace HK := zA (zeh (S := (fun k_ => P0_ k_)) hg zq21 (fun k_ e_ => (HO_0.out.1 k_ e_))); replace HO_0 := zA (hp_); clear hg hw hp_; have p9 : 0 ≤ (x5_1 : Int) := zde zq16; have q9 : (x5_1 : Int) < ((x0_1.length : Int) : Int) := zde zq16; obtain ⟨ce9, hcl9, hM9, hcc9, hfr9⟩ := Kd.R_elem HO_0.out z94 (x5_1 : Int) p9 q9; obtain rfl := zft hM9; have hx9_0 : w18.cell? ⟨go6, (x5_1 : Int).toNat * 5, none⟩ = some (.string ((zaa y104 x5_1).f0)) := hcc9 0 _ rfl; have hx9_1 : w18.cell? ⟨go6, (x5_1 : Int).toNat * 5 + 1, none⟩ = some (.int .i64 ((zaa y104 x5_1).f1)) := hcc9 1 _ rfl; have hx9_2 : w18.cell? ⟨go6, (x5_1 : Int).toNat * 5 + 2, none⟩ = some (.int .i64 ((zaa y104 x5_1).f2)) := hcc9 2 _ rfl; have hx9_3 : w18.cell? ⟨go6, (x5_1 : Int).toNat * 5 + 3, none⟩ = some (.int .i64 ((zaa y104 x5_1).f3)) := hcc9 3 _ rfl; have hx9_4 : w18.cell? ⟨go6, (x5_1 : Int).toNat * 5 + 4, none⟩ = some (.int .i64 ((zaa y104 x5_1).f4)) := hcc9 4 _ rfl; have hf9_0 : w18.frozen? ⟨go6, (x5_1 : Int).toNat * 5, none⟩ = false := hfr9 0; have hf9_1 : w18.frozen? ⟨go6, (x5_1 : Int).toNat * 5 + 1, none⟩ = false := hfr9 1; have hf9_2 : w18.frozen? ⟨go6, (x5_1 : Int).toNat * 5 + 2, none⟩ = false := hfr9 2; have hf9_3 : w18.frozen? ⟨go6, (x5_1 : Int).toNat * 5 + 3, none⟩ = false := hfr9 3; have hf9_4 : w18.frozen? ⟨go6, (x5_1 : Int).toNat * 5 + 4, none⟩ = false := hfr9 4; clear hcl9 hcc9 hfr9 hM9; replace p9 := eq_true p9; replace q9 := eq_true q9; have HX19 := zA (show Kd.R k94 94 w18 w0.heap.size (fun k_ => (P0_ k_ ∨ w.heap.size ≤ k_)) (.slice (some ⟨go6, 0, none⟩) x0_1.length co11) y104 from (zq3 HO_0)); obtain ⟨ce19, hcl19, hM19, hcc19, hfr19⟩ := Kd.R_elem HX19.out z94 (x5_1 : Int) (zde zq16) (zq20 HO_0); obtain rfl := zft hM19; have HP19 := Kd.R_seg HX19.out (x5_1 : Int) (zde zq16) (zq20 HO_0) (seg := [.int .i64 (wrap64 ((wrap64 ((wrap64 (x1_1 + 1)) + 1)) + 1))]) (j := 3) hcl19 hcc19 (show 4 ≤ 5 from by decide) (x' := (⟨(zaa y104 x5_1).f0, (zaa y104 x5_1).f1, (zaa y104 x5_1).f2, wrap64 ((wrap64 ((wrap64 (x1_1 + 1)) + 1)) + 1), (zaa y104 x5_1).f4⟩ : S94)) (zli _ _ _ (⟨(zaa y104 x5_1).f0, (zaa y104 x5_1).f1, (zaa y104 x5_1).f2, wrap64 ((wrap64 ((wrap64 (x1_1 + 1)) + 1)) + 1), (zaa y104 x5_1).f4⟩ : S94) ) (fun _ hk => hk); have hx19_3 := hcc19 3 _ rfl; (try simp only [show (k94).sz = 5 from rfl, Nat.mul_one, Nat.add_zero] at hx19_3); have hf19_3 := hfr19 3; (try simp only [show (k94).sz = 5 from rfl, Nat.mul_one, Nat.add_zero] at hf19_3); clear hcl19 hcc19 hfr19 hM19) | ((with_reducible refine zgs 3 38 ?_); refine zse (w18.setCell ⟨go6, (x5_1 : Int).toNat * 5 + 3, none⟩ (.int .i64 (wrap64 ((wrap64 ((wrap64 (x1_1 + 1)) + 1)) + 1)))) ?_; intro w20 hw; have hg : w18.grownBy w20 (some go6) := (by rw [hw]; exact HP19.2); have hp_ : Kd.R k94 94 w20 w0.heap.size (fun k_ => (P0_ k_ ∨ w.heap.size ≤ k_)) (.slice (some ⟨go6, 0, none⟩) x0_1.length co11) y105 := (by rw [hw, Ny105.out]; exact HP19.1); clear HP19; replace HB := zA ((zq32 GB6 : Below w0.heap.size w0 w20)); replace HK := zA (zeh (S := (fun k_ => P0_ k_)) hg zq21 (fun k_ e_ => (HO_0.out.1 k_ e_))); replace HO_0 := zA (hp_); clear hg hw hp_; have p10 : 0 ≤ (x5_1 : Int) := zde zq16; have q10 : (x5_1 : Int) < ((x0_1.length : Int) : Int) := zde zq16; obtain ⟨ce10, hcl10, hM10, hcc10, hfr10⟩ := Kd.R_elem HO_0.out z94 (x5_1 : Int) p10 q10; obtain rfl := zft hM10; have hx10_0 : w20.cell? ⟨go6, (x5_1 : Int).toNat * 5, none⟩ = some (.string ((zaa y105 x5_1).f0)) := hcc10 0 _ rfl; have hx10_1 : w20.cell? ⟨go6, (x5_1 : Int).toNat * 5 + 1, none⟩ = some (.int .i64 ((zaa y105 x5_1).f1)) := hcc10 1 _ rfl; have hx10_2 : w20.cell? ⟨go6, (x5_1 : Int).toNat * 5 + 2, none⟩ = some (.int .i64 ((zaa y105 x5_1).f2)) := hcc10 2 _ rfl; have hx10_3 : w20.cell? ⟨go6, (x5_1 : Int).toNat * 5 + 3, none⟩ = some (.int .i64 ((zaa y105 x5_1).f3)) := hcc10 3 _ rfl; have hx10_4 : w20.cell? ⟨go6, (x5_1 : Int).toNat * 5 + 4, none⟩ = some (.int .i64 ((zaa y105 x5_1).f4)) := hcc10 4 _ rfl; have hf10_0 : w20.frozen? ⟨go6, (x5_1 : Int).toNat * 5, none⟩ = false := hfr10 0; have hf10_1 : w20.frozen? ⟨go6, (x5_1 : Int).toNat * 5 + 1, none⟩ = false := hfr10 1; have hf10_2 : w20.frozen? ⟨go6, (x5_1 : Int).toNat * 5 + 2, none⟩ = false := hfr10 2; have hf10_3 : w20.frozen? ⟨go6, (x5_1 : Int).toNat * 5 + 3, none⟩ = false := hfr10 3; have hf10_4 : w20.frozen? ⟨go6, (x5_1 : Int).toNat * 5 + 4, none⟩ = false := hfr10 4; clear hcl10 hcc10 hfr10 hM10; replace p10 := eq_true p10; replace q10 := eq_true q10; have HX21 := zA (show Kd.R k94 94 w20 w0.heap.size (fun k_ => (P0_ k_ ∨ w.heap.size ≤ k_)) (.slice (some ⟨go6, 0, none⟩) x0_1.length co11) y105 from (zq3 HO_0)); obtain ⟨ce21, hcl21, hM21, hcc21, hfr21⟩ := Kd.R_elem HX21.out z94 (x5_1 : Int) (zde zq16) (zq20 HO_0); obtain rfl := zft hM21; have HP21 := Kd.R_seg HX21.out (x5_1 : Int) (zde zq16) (zq20 HO_0) (seg := [.int .i64 (wrap64 ((wrap64 ((wrap64 ((wrap64 (x1_1 + 1)) + 1)) + 1)) + 1))]) (j := 4) hcl21 hcc21 (show 5 ≤ 5 from by decide) (x' := (⟨(zaa y105 x5_1).f0, (zaa y105 x5_1).f1, (zaa y105 x5_1).f2, (zaa y105 x5_1).f3, wrap64 ((wrap64 ((wrap64 ((wrap64 (x1_1 + 1)) + 1)) + 1)) + 1)⟩ : S94)) (zli _ _ _ (⟨(zaa y105 x5_1).f0, (zaa y105 x5_1).f1, (zaa y105 x5_1).f2, (zaa y105 x5_1).f3, wrap64 ((wrap64 ((wrap64 ((wrap64 (x1_1 + 1)) + 1)) + 1)) + 1)⟩ : S94) ) (fun _ hk => hk); have hx21_4 := hcc21 4 _ rfl; (try simp only [show (k94).sz = 5 from rfl, Nat.mul_one, Nat.add_zero] at hx21_4); have hf21_4 := hfr21 4; (try simp only [show (k94).sz = 5 from rfl, Nat.mul_one, Nat.add_zero] at hf21_4); clear hcl21 hcc21 hfr21 hM21) | ((with_reducible refine zgs 3 45 ?_); refine zse (w20.setCell ⟨go6, (x5_1 : Int).toNat * 5 + 4, none⟩ (.int .i64 (wrap64 ((wrap64 ((wrap64 ((wrap64 (x1_1 + 1)) + 1)) + 1)) + 1)))) ?_; intro w22 hw; have hg : w20.grownBy w22 (some go6) := (by rw [hw]; exact HP21.2); have hp_ : Kd.R k94 94 w22 w0.heap.size (fun k_ => (P0_ k_ ∨ w.heap.size ≤ k_)) (.slice (some ⟨go6, 0, none⟩) x0_1.length co11) y106 := (by rw [hw, Ny106.out]; exact HP21.1); clear HP21; replace HB := zA ((zq32 GB6 : Below w0.heap.size w0 w22)); replace HK := zA (zeh (S := (fun k_ => P0_ k_)) hg zq21 (fun k_ e_ => (HO_0.out.1 k_ e_))); replace HO_0 := zA (hp_); clear hg hw hp_))
 go_roundg k1
 case measure => have := HK1.out; omega
 case rel => exact ⟨(y106), (wrap64 ((wrap64 ((wrap64 ((wrap64 ((wrap64 (x1_1 + 1)) + 1)) + 1)) + 1)) + 1)), (wrap64 (x5_1 + 1)), zq6, zq6, H', ⟨zq38 HK1⟩, ⟨zq3 HO_0⟩, ⟨zq21⟩, ⟨zq1⟩⟩
def za7 : Nat → List (S72) → Int → Int → Option (Int × (List (S72)))
 | 0, _, _, _ => none
 | k + 1, x0, x1, x5 => if x5 < (x0.length : Int) then ((zdc k x1).bind fun t101 => (if 0 ≤ x5 then ((some (x0.set (x5 : Int).toNat (⟨t101, (zab x0 x5).f1, (zab x0 x5).f2, (zab x0 x5).f3⟩ : S72) : List (S72))).bind fun y102 => ((some (y102.set (x5 : Int).toNat (⟨(zab y102 x5).f0, wrap64 (x1 + 1), (zab y102 x5).f2, (zab y102 x5).f3⟩ : S72) : List (S72))).bind fun y103 => ((some (y103.set (x5 : Int).toNat (⟨(zab y103 x5).f0, (zab y103 x5).f1, wrap64 ((wrap64 (x1 + 1)) + 1), (zab y103 x5).f3⟩ : S72) : List (S72))).bind fun y104 => (za7 k (y104.set (x5 : Int).toNat (⟨(zab y104 x5).f0, (zab y104 x5).f1, (zab y104 x5).f2, wrap64 ((wrap64 ((wrap64 (x1 + 1)) + 1)) + 1)⟩ : S72)) (wrap64 ((wrap64 ((wrap64 ((wrap64 (x1 + 1)) + 1)) + 1)) + 1)) (wrap64 (x5 + 1)))))) else (none))) else (some (x1, x0))
def zel (k : Nat) (l0 : List (S72)) (a1 : Int) : Option (Int × (List (S72))) := za7 k l0 a1 0
theorem zhp : ∀ k, (∀ y0 y1 y2, LeO (za7 k y0 y1 y2) (za7 (k + 1) y0 y1 y2))
 | 0 => fun _ _ _ r h => by simp [za7] at h
 | k + 1 => by
   have ih0 := zhp k
   · intro y0 y1 y2
     unfold za7
     exact zm2 ih0 ze7
theorem zr3 : ∀ a0 a1 k, LeO (zel k a0 a1) (zel (k + 1) a0 a1) := by
 intro a0 a1 k
 have ih0 := zhp k
 unfold zel
 exact zm2 ih0 ze7
set_option maxHeartbeats 8000000 in
set_option maxRecDepth 100000 in
theorem zk3 (k : Nat) (P0_ : Nat → Prop) (u9000_ : Value) (l0 : List (S72)) (a1 : Int) (r1 : Int) (r2 : List (S72)) (w0 w : World) (hB : Below w0.heap.size w0 w) (ho0 : Kd.R k72 72 w w0.heap.size P0_ u9000_ l0) (h : zel k l0 a1 = some (r1, r2)) :
   Calls Try.prog 14 #[u9000_, .int .i64 a1] w fun e w' => e = .returned (.int .i64 r1) ∧ Kd.R k72 72 w' w0.heap.size (fun k_ => (P0_ k_ ∨ w.heap.size ≤ k_)) u9000_ r2 ∧ Below w0.heap.size w0 w' ∧ Kept w w' (fun k_ => P0_ k_) := by
 have HO0 := zA (show Kd.R k72 72 w w0.heap.size (fun k_ => (P0_ k_ ∨ w.heap.size ≤ k_)) u9000_ l0 from Kd.R_mono ho0 (fun k_ hk => (.inl hk)))
 have HK := zA (Kept.refl w (fun k_ => P0_ k_))
 have HW0 := zA hB.size
 have HB := zA hB
 clear hB
 have H : (za7 k l0 a1 0) = some (r1, r2) := h
 clear h
 have H' := zA H
 clear H
 go_enter Try.func14, Try.ntmps14
 go_wp2
 go_loopg [1, 5] k (fun kq v1 v5 w' => ∃ (x0_1 : List (S72)) (x1_1 : Int) (x5_1 : Int), v1 = .int .i64 x1_1 ∧ v5 = .int .i64 x5_1 ∧ Aside0 (za7 kq x0_1 x1_1 x5_1 = some (r1, r2)) ∧ Aside0 (kq ≤ k) ∧ Aside0 (Kd.R k72 72 w' w0.heap.size (fun k_ => (P0_ k_ ∨ w.heap.size ≤ k_)) u9000_ x0_1) ∧ Aside0 (Kept w w' (fun k_ => P0_ k_)) ∧ Aside0 (Below w0.heap.size w0 w'))
 case atStart => exact ⟨(l0), (a1), (0), zq6, zq6, H', ⟨zlr _⟩, ⟨zq3 HO0⟩, ⟨zq21⟩, ⟨zq1⟩⟩
 clear H'
 try clear c1
 try clear p2
 obtain ⟨x0_1, x1_1, x5_1, rfl, rfl, HA, HK1, HO_0, HK, HB⟩ := hrel
 cases gk with
 | zero => exact absurd HA.out (by simp [za7])
 | succ k1 =>
 have H := HA.out
 clear HA
 simp only [za7] at H
 revert H
 refine zit (fun c3 H => ?_) fun c3 H => ?_
 rotate_left
 · simp only [Option.some.injEq, Prod.mk.injEq] at H
   obtain ⟨rfl, rfl⟩ := H
   obtain ⟨Ao20, co20, eo20⟩ := Kd.R_slice HO_0.out
   subst eo20
   go_wp2
   go_ret
   exact ⟨zq4, zq3 HO_0, zq1, zq21⟩
 replace H := zob H
 obtain ⟨t101, A40, H⟩ := H
 replace H : (if 0 ≤ x5_1 then ((some (x0_1.set (x5_1 : Int).toNat (⟨t101, (zab x0_1 x5_1).f1, (zab x0_1 x5_1).f2, (zab x0_1 x5_1).f3⟩ : S72) : List (S72))).bind fun y102 => ((some (y102.set (x5_1 : Int).toNat (⟨(zab y102 x5_1).f0, wrap64 (x1_1 + 1), (zab y102 x5_1).f2, (zab y102 x5_1).f3⟩ : S72) : List (S72))).bind fun y103 => ((some (y103.set (x5_1 : Int).toNat (⟨(zab y103 x5_1).f0, (zab y103 x5_1).f1, wrap64 ((wrap64 (x1_1 + 1)) + 1), (zab y103 x5_1).f3⟩ : S72) : List (S72))).bind fun y104 => (za7 k1 (y104.set (x5_1 : Int).toNat (⟨(zab y104 x5_1).f0, (zab y104 x5_1).f1, (zab y104 x5_1).f2, wrap64 ((wrap64 ((wrap64 (x1_1 + 1)) + 1)) + 1)⟩ : S72)) (wrap64 ((wrap64 ((wrap64 ((wrap64 (x1_1 + 1)) + 1)) + 1)) + 1)) (wrap64 (x5_1 + 1)))))) else (none)) = some (r1, r2) := H
 have A4 := zA A40
 clear A40
 revert H
 refine zin fun c5 H => ?_
 obtain ⟨y102, hy102⟩ : ∃ y_ : List (S72), y_ = (x0_1.set (x5_1 : Int).toNat (⟨t101, (zab x0_1 x5_1).f1, (zab x0_1 x5_1).f2, (zab x0_1 x5_1).f3⟩ : S72)) := ⟨_, rfl⟩
 replace H : ((some (y102.set (x5_1 : Int).toNat (⟨(zab y102 x5_1).f0, wrap64 (x1_1 + 1), (zab y102 x5_1).f2, (zab y102 x5_1).f3⟩ : S72) : List (S72))).bind fun y103 => ((some (y103.set (x5_1 : Int).toNat (⟨(zab y103 x5_1).f0, (zab y103 x5_1).f1, wrap64 ((wrap64 (x1_1 + 1)) + 1), (zab y103 x5_1).f3⟩ : S72) : List (S72))).bind fun y104 => (za7 k1 (y104.set (x5_1 : Int).toNat (⟨(zab y104 x5_1).f0, (zab y104 x5_1).f1, (zab y104 x5_1).f2, wrap64 ((wrap64 ((wrap64 (x1_1 + 1)) + 1)) + 1)⟩ : S72)) (wrap64 ((wrap64 ((wrap64 ((wrap64 (x1_1 + 1)) + 1)) + 1)) + 1)) (wrap64 (x5_1 + 1))))) = some (r1, r2) := by first | (rw [hy102]; with_reducible exact H) | (have H2_ := (Option.bind_some _ _).symm.trans H; rw [hy102]; with_reducible exact H2_) | (have H2_ := (Option.bind_some _ _).symm.trans H; with_reducible exact H2_) | with_reducible exact H | (rw [hy102]; exact H) | exact H
 have Ny102 := zA hy102
 clear hy102
 obtain ⟨y103, hy103⟩ : ∃ y_ : List (S72), y_ = (y102.set (x5_1 : Int).toNat (⟨(zab y102 x5_1).f0, wrap64 (x1_1 + 1), (zab y102 x5_1).f2, (zab y102 x5_1).f3⟩ : S72)) := ⟨_, rfl⟩
 replace H : ((some (y103.set (x5_1 : Int).toNat (⟨(zab y103 x5_1).f0, (zab y103 x5_1).f1, wrap64 ((wrap64 (x1_1 + 1)) + 1), (zab y103 x5_1).f3⟩ : S72) : List (S72))).bind fun y104 => (za7 k1 (y104.set (x5_1 : Int).toNat (⟨(zab y104 x5_1).f0, (zab y104 x5_1).f1, (zab y104 x5_1).f2, wrap64 ((wrap64 ((wrap64 (x1_1 + 1)) + 1)) + 1)⟩ : S72)) (wrap64 ((wrap64 ((wrap64 ((wrap64 (x1_1 + 1)) + 1)) + 1)) + 1)) (wrap64 (x5_1 + 1)))) = some (r1, r2) := by first | (rw [hy103]; with_reducible exact H) | (have H2_ := (Option.bind_some _ _).symm.trans H; rw [hy103]; with_reducible exact H2_) | (have H2_ := (Option.bind_some _ _).symm.trans H; with_reducible exact H2_) | with_reducible exact H | (rw [hy103]; exact H) | exact H
 have Ny103 := zA hy103
 clear hy103
 obtain ⟨y104, hy104⟩ : ∃ y_ : List (S72), y_ = (y103.set (x5_1 : Int).toNat (⟨(zab y103 x5_1).f0, (zab y103 x5_1).f1, wrap64 ((wrap64 (x1_1 + 1)) + 1), (zab y103 x5_1).f3⟩ : S72)) := ⟨_, rfl⟩
 replace H : (za7 k1 (y104.set (x5_1 : Int).toNat (⟨(zab y104 x5_1).f0, (zab y104 x5_1).f1, (zab y104 x5_1).f2, wrap64 ((wrap64 ((wrap64 (x1_1 + 1)) + 1)) + 1)⟩ : S72)) (wrap64 ((wrap64 ((wrap64 ((wrap64 (x1_1 + 1)) + 1)) + 1)) + 1)) (wrap64 (x5_1 + 1))) = some (r1, r2) := by first | (rw [hy104]; with_reducible exact H) | (have H2_ := (Option.bind_some _ _).symm.trans H; rw [hy104]; with_reducible exact H2_) | (have H2_ := (Option.bind_some _ _).symm.trans H; with_reducible exact H2_) | with_reducible exact H | (rw [hy104]; exact H) | exact H
 have Ny104 := zA hy104
 clear hy104
 obtain ⟨y105, hy105⟩ : ∃ y_ : List (S72), y_ = (y104.set (x5_1 : Int).toNat (⟨(zab y104 x5_1).f0, (zab y104 x5_1).f1, (zab y104 x5_1).f2, wrap64 ((wrap64 ((wrap64 (x1_1 + 1)) + 1)) + 1)⟩ : S72)) := ⟨_, rfl⟩
 replace H : (za7 k1 y105 (wrap64 ((wrap64 ((wrap64 ((wrap64 (x1_1 + 1)) + 1)) + 1)) + 1)) (wrap64 (x5_1 + 1))) = some (r1, r2) := by first | (rw [hy105]; with_reducible exact H) | (have H2_ := (Option.bind_some _ _).symm.trans H; rw [hy105]; with_reducible exact H2_) | (have H2_ := (Option.bind_some _ _).symm.trans H; with_reducible exact H2_) | with_reducible exact H | (rw [hy105]; exact H) | exact H
 have Ny105 := zA hy105
 clear hy105
 have H' := zA H
 clear H
 obtain ⟨Ao10, co10, eo10⟩ := Kd.R_slice HO_0.out
 subst eo10
 go_wp2_with (first | ((with_reducible refine zgc 49 ?_); refine zcl 15 Try.func49 (zgt k1 x1_1 t101 _ A4.out) ?_; rintro e w11 ⟨rfl, hb⟩; refine ⟨_, rfl, ?_⟩; replace HO_0 := zA (zRb (zq3 HO_0) hb); replace HK := zA (Kept.below (S := (fun k_ => P0_ k_)) zq21 hb); replace HB := zA (zad zq1 hb); (try clear hb); have p6 : 0 ≤ (x5_1 : Int) := zde zq16; have q6 : (x5_1 : Int) < ((x0_1.length : Int) : Int) := zde zq16; obtain ⟨go6, co6, eo6, gb6, gl6, cl6, HG6⟩ := Kd.R_form HO_0.out (by omega); (first | cases eo6 | (injection eo6 with ea_ en_ ec_; (first | subst ea_ | (injection ea_ with ea_; subst ea_)); subst ec_; clear en_)); have GB6 := zA gb6; have GG6 := zA HG6; clear gb6 gl6 HG6; have HMgo6 := zA (show (P0_ go6 ∨ w.heap.size ≤ go6) from (HO_0.out.1 _ rfl)); obtain ⟨ce6, hcl6, hM6, hcc6, hfr6⟩ := Kd.R_elem HO_0.out z72 (x5_1 : Int) p6 q6; obtain rfl := zgy hM6; have hx6_0 : w11.cell? ⟨go6, (x5_1 : Int).toNat * 4, none⟩ = some (.string ((zab x0_1 x5_1).f0)) := hcc6 0 _ rfl; have hx6_1 : w11.cell? ⟨go6, (x5_1 : Int).toNat * 4 + 1, none⟩ = some (.int .i64 ((zab x0_1 x5_1).f1)) := hcc6 1 _ rfl; have hx6_2 : w11.cell? ⟨go6, (x5_1 : Int).toNat * 4 + 2, none⟩ = some (.int .i64 ((zab x0_1 x5_1).f2)) := hcc6 2 _ rfl; have hx6_3 : w11.cell? ⟨go6, (x5_1 : Int).toNat * 4 + 3, none⟩ = some (.int .i64 ((zab x0_1 x5_1).f3)) := hcc6 3 _ rfl; have hf6_0 : w11.frozen? ⟨go6, (x5_1 : Int).toNat * 4, none⟩ = false := hfr6 0; have hf6_1 : w11.frozen? ⟨go6, (x5_1 : Int).toNat * 4 + 1, none⟩ = false := hfr6 1; have hf6_2 : w11.frozen? ⟨go6, (x5_1 : Int).toNat * 4 + 2, none⟩ = false := hfr6 2; have hf6_3 : w11.frozen? ⟨go6, (x5_1 : Int).toNat * 4 + 3, none⟩ = false := hfr6 3; clear hcl6 hcc6 hfr6 hM6; replace p6 := eq_true p6; replace q6 := eq_true q6; have HX12 := zA (show Kd.R k72 72 w11 w0.heap.size (fun k_ => (P0_ k_ ∨ w.heap.size ≤ k_)) (.slice (some ⟨go6, 0, none⟩) x0_1.length co10) x0_1 from (zq3 HO_0)); obtain ⟨ce12, hcl12, hM12, hcc12, hfr12⟩ := Kd.R_elem HX12.out z72 (x5_1 : Int) (zde zq16) (zq20 HO_0); obtain rfl := zgy hM12; have HP12 := Kd.R_seg HX12.out (x5_1 : Int) (zde zq16) (zq20 HO_0) (seg := [.string t101]) (j := 0) hcl12 hcc12 (show 1 ≤ 4 from by decide) (x' := (⟨t101, (zab x0_1 x5_1).f1, (zab x0_1 x5_1).f2, (zab x0_1 x5_1).f3⟩ : S72)) (ze2 _ _ _ (⟨t101, (zab x0_1 x5_1).f1, (zab x0_1 x5_1).f2, (zab x0_1 x5_1).f3⟩ : S72) ) (fun _ hk => hk); have hx12_0 := hcc12 0 _ rfl; (try simp only [show (k72).sz = 4 from rfl, Nat.mul_one, Nat.add_zero] at hx12_0); have hf12_0 := hfr12 0; (try simp only [show (k72).sz = 4 from rfl, Nat.mul_one, Nat.add_zero] at hf12_0); clear hcl12 hcc12 hfr12 hM12) | ((with_reducible refine zgs 9 17 ?_); refine zse (w11.setCell ⟨go6, (x5_1 : Int).toNat * 4, none⟩ (.string t101)) ?_; intro w13 hw; have hg : w11.grownBy w13 (some go6) := (by rw [hw]; exact HP12.2); have hp_ : Kd.R k72 72 w13 w0.heap.size (fun k_ => (P0_ k_ ∨ w.heap.size ≤ k_)) (.slice (some ⟨go6, 0, none⟩) x0_1.length co10) y102 := (by rw [hw, Ny102.out]; exact HP12.1); clear HP12; replace HB := zA ((zq32 GB6 : Below w0.heap.size w0 w13)); replace HK := zA (zeh (S := (fun k_ => P0_ k_)) hg zq21 (fun k_ e_ => (HO_0.out.1 k_ e_))); replace HO_0 := zA (hp_); clear hg hw hp_; have p7 : 0 ≤ (x5_1 : Int) := zde zq16; have q7 : (x5_1 : Int) < ((x0_1.length : Int) : Int) := zde zq16; obtain ⟨ce7, hcl7, hM7, hcc7, hfr7⟩ := Kd.R_elem HO_0.out z72 (x5_1 : Int) p7 q7; obtain rfl := zgy hM7; have hx7_0 : w13.cell? ⟨go6, (x5_1 : Int).toNat * 4, none⟩ = some (.string ((zab y102 x5_1).f0)) := hcc7 0 _ rfl; have hx7_1 : w13.cell? ⟨go6, (x5_1 : Int).toNat * 4 + 1, none⟩ = some (.int .i64 ((zab y102 x5_1).f1)) := hcc7 1 _ rfl; have hx7_2 : w13.cell? ⟨go6, (x5_1 : Int).toNat * 4 + 2, none⟩ = some (.int .i64 ((zab y102 x5_1).f2)) := hcc7 2 _ rfl; have hx7_3 : w13.cell? ⟨go6, (x5_1 : Int).toNat * 4 + 3, none⟩ = some (.int .i64 ((zab y102 x5_1).f3)) := hcc7 3 _ rfl; have hf7_0 : w13.frozen? ⟨go6, (x5_1 : Int).toNat * 4, none⟩ = false := hfr7 0; have hf7_1 : w13.frozen? ⟨go6, (x5_1 : Int).toNat * 4 + 1, none⟩ = false := hfr7 1; have hf7_2 : w13.frozen? ⟨go6, (x5_1 : Int).toNat * 4 + 2, none⟩ = false := hfr7 2; have hf7_3 : w13.frozen? ⟨go6, (x5_1 : Int).toNat * 4 + 3, none⟩ = false := hfr7 3; clear hcl7 hcc7 hfr7 hM7; replace p7 := eq_true p7; replace q7 := eq_true q7; have HX14 := zA (show Kd.R k72 72 w13 w0.heap.size (fun k_ => (P0_ k_ ∨ w.heap.size ≤ k_)) (.slice (some ⟨go6, 0, none⟩) x0_1.length co10) y102 from (zq3 HO_0)); obtain ⟨ce14, hcl14, hM14, hcc14, hfr14⟩ := Kd.R_elem HX14.out z72 (x5_1 : Int) (zde zq16) (zq20 HO_0); obtain rfl := zgy hM14; have HP14 := Kd.R_seg HX14.out (x5_1 : Int) (zde zq16) (zq20 HO_0) (seg := [.int .i64 (wrap64 (x1_1 + 1))]) (j := 1) hcl14 hcc14 (show 2 ≤ 4 from by decide) (x' := (⟨(zab y102 x5_1).f0, wrap64 (x1_1 + 1), (zab y102 x5_1).f2, (zab y102 x5_1).f3⟩ : S72)) (ze2 _ _ _ (⟨(zab y102 x5_1).f0, wrap64 (x1_1 + 1), (zab y102 x5_1).f2, (zab y102 x5_1).f3⟩ : S72) ) (fun _ hk => hk); have hx14_1 := hcc14 1 _ rfl; (try simp only [show (k72).sz = 4 from rfl, Nat.mul_one, Nat.add_zero] at hx14_1); have hf14_1 := hfr14 1; (try simp only [show (k72).sz = 4 from rfl, Nat.mul_one, Nat.add_zero] at hf14_1); clear hcl14 hcc14 hfr14 hM14) | ((with_reducible refine zgs 3 24 ?_); refine zse (w13.setCell ⟨go6, (x5_1 : Int).toNat * 4 + 1, none⟩ (.int .i64 (wrap64 (x1_1 + 1)))) ?_; intro w15 hw; have hg : w13.grownBy w15 (some go6) := (by rw [hw]; exact HP14.2); have hp_ : Kd.R k72 72 w15 w0.heap.size (fun k_ => (P0_ k_ ∨ w.heap.size ≤ k_)) (.slice (some ⟨go6, 0, none⟩) x0_1.length co10) y103 := (by rw [hw, Ny103.out]; exact HP14.1); clear HP14; replace HB := zA ((zq32 GB6 : Below w0.heap.size w0 w15)); replace HK := zA (zeh (S := (fun k_ => P0_ k_)) hg zq21 (fun k_ e_ => (HO_0.out.1 k_ e_))); replace HO_0 := zA (hp_); clear hg hw hp_; have p8 : 0 ≤ (x5_1 : Int) := zde zq16; have q8 : (x5_1 : Int) < ((x0_1.length : Int) : Int) := zde zq16; obtain ⟨ce8, hcl8, hM8, hcc8, hfr8⟩ := Kd.R_elem HO_0.out z72 (x5_1 : Int) p8 q8; obtain rfl := zgy hM8; have hx8_0 : w15.cell? ⟨go6, (x5_1 : Int).toNat * 4, none⟩ = some (.string ((zab y103 x5_1).f0)) := hcc8 0 _ rfl; have hx8_1 : w15.cell? ⟨go6, (x5_1 : Int).toNat * 4 + 1, none⟩ = some (.int .i64 ((zab y103 x5_1).f1)) := hcc8 1 _ rfl; have hx8_2 : w15.cell? ⟨go6, (x5_1 : Int).toNat * 4 + 2, none⟩ = some (.int .i64 ((zab y103 x5_1).f2)) := hcc8 2 _ rfl; have hx8_3 : w15.cell? ⟨go6, (x5_1 : Int).toNat * 4 + 3, none⟩ = some (.int .i64 ((zab y103 x5_1).f3)) := hcc8 3 _ rfl; have hf8_0 : w15.frozen? ⟨go6, (x5_1 : Int).toNat * 4, none⟩ = false := hfr8 0; have hf8_1 : w15.frozen? ⟨go6, (x5_1 : Int).toNat * 4 + 1, none⟩ = false := hfr8 1; have hf8_2 : w15.frozen? ⟨go6, (x5_1 : Int).toNat * 4 + 2, none⟩ = false := hfr8 2; have hf8_3 : w15.frozen? ⟨go6, (x5_1 : Int).toNat * 4 + 3, none⟩ = false := hfr8 3; clear hcl8 hcc8 hfr8 hM8; replace p8 := eq_true p8; replace q8 := eq_true q8; have HX16 := zA (show Kd.R k72 72 w15 w0.heap.size (fun k_ => (P0_ k_ ∨ w.heap.size ≤ k_)) (.slice (some ⟨go6, 0, none⟩) x0_1.length co10) y103 from (zq3 HO_0)); obtain ⟨ce16, hcl16, hM16, hcc16, hfr16⟩ := Kd.R_elem HX16.out z72 (x5_1 : Int) (zde zq16) (zq20 HO_0); obtain rfl := zgy hM16; have HP16 := Kd.R_seg HX16.out (x5_1 : Int) (zde zq16) (zq20 HO_0) (seg := [.int .i64 (wrap64 ((wrap64 (x1_1 + 1)) + 1))]) (j := 2) hcl16 hcc16 (show 3 ≤ 4 from by decide) (x' := (⟨(zab y103 x5_1).f0, (zab y103 x5_1).f1, wrap64 ((wrap64 (x1_1 + 1)) + 1), (zab y103 x5_1).f3⟩ : S72)) (ze2 _ _ _ (⟨(zab y103 x5_1).f0, (zab y103 x5_1).f1, wrap64 ((wrap64 (x1_1 + 1)) + 1), (zab y103 x5_1).f3⟩ : S72) ) (fun _ hk => hk); have hx16_2 := hcc16 2 _ rfl; (try simp only [show (k72).sz = 4 from rfl, Nat.mul_one, Nat.add_zero] at hx16_2); have hf16_2 := hfr16 2; (try simp only [show (k72).sz = 4 from rfl, Nat.mul_one, Nat.add_zero] at hf16_2); clear hcl16 hcc16 hfr16 hM16) | ((with_reducible refine zgs 3 31 ?_); refine zse (w15.setCell ⟨go6, (x5_1 : Int).toNat * 4 + 2, none⟩ (.int .i64 (wrap64 ((wrap64 (x1_1 + 1)) + 1)))) ?_; intro w17 hw; have hg : w15.grownBy w17 (some go6) := (by rw [hw]; exact HP16.2); have hp_ : Kd.R k72 72 w17 w0.heap.size (fun k_ => (P0_ k_ ∨ w.heap.size ≤ k_)) (.slice (some ⟨go6, 0, none⟩) x0_1.length co10) y104 := (by rw [hw, Ny104.out]; exact HP16.1); clear HP16; replace HB := zA ((zq32 GB6 : Below w0.heap.size w0 w17)); replace HK := zA (zeh (S := (fun k_ => P0_ k_)) hg zq21 (fun k_ e_ => (HO_0.out.1 k_ e_))); replace HO_0 := zA (hp_); clear hg hw hp_; have p9 : 0 ≤ (x5_1 : Int) := zde zq16; have q9 : (x5_1 : Int) < ((x0_1.length : Int) : Int) := zde zq16; obtain ⟨ce9, hcl9, hM9, hcc9, hfr9⟩ := Kd.R_elem HO_0.out z72 (x5_1 : Int) p9 q9; obtain rfl := zgy hM9; have hx9_0 : w17.cell? ⟨go6, (x5_1 : Int).toNat * 4, none⟩ = some (.string ((zab y104 x5_1).f0)) := hcc9 0 _ rfl; have hx9_1 : w17.cell? ⟨go6, (x5_1 : Int).toNat * 4 + 1, none⟩ = some (.int .i64 ((zab y104 x5_1).f1)) := hcc9 1 _ rfl; have hx9_2 : w17.cell? ⟨go6, (x5_1 : Int).toNat * 4 + 2, none⟩ = some (.int .i64 ((zab y104 x5_1).f2)) := hcc9 2 _ rfl; have hx9_3 : w17.cell? ⟨go6, (x5_1 : Int).toNat * 4 + 3, none⟩ = some (.int .i64 ((zab y104 x5_1).f3)) := hcc9 3 _ rfl; have hf9_0 : w17.frozen? ⟨go6, (x5_1 : Int).toNat * 4, none⟩ = false := hfr9 0; have hf9_1 : w17.frozen? ⟨go6, (x5_1 : Int).toNat * 4 + 1, none⟩ = false := hfr9 1; have hf9_2 : w17.frozen? ⟨go6, (x5_1 : Int).toNat * 4 + 2, none⟩ = false := hfr9 2; have hf9_3 : w17.frozen? ⟨go6, (x5_1 : Int).toNat * 4 + 3, none⟩ = false := hfr9 3; clear hcl9 hcc9 hfr9 hM9; replace p9 := eq_true p9; replace q9 := eq_true q9; have HX18 := zA (show Kd.R k72 72 w17 w0.heap.size (fun k_ => (P0_ k_ ∨ w.heap.size ≤ k_)) (.slice (some ⟨go6, 0, none⟩) x0_1.length co10) y104 from (zq3 HO_0)); obtain ⟨ce18, hcl18, hM18, hcc18, hfr18⟩ := Kd.R_elem HX18.out z72 (x5_1 : Int) (zde zq16) (zq20 HO_0); obtain rfl := zgy hM18; have HP18 := Kd.R_seg HX18.out (x5_1 : Int) (zde zq16) (zq20 HO_0) (seg := [.int .i64 (wrap64 ((wrap64 ((wrap64 (x1_1 + 1)) + 1)) + 1))]) (j := 3) hcl18 hcc18 (show 4 ≤ 4 from by decide) (x' := (⟨(zab y104 x5_1).f0, (zab y104 x5_1).f1, (zab y104 x5_1).f2, wrap64 ((wrap64 ((wrap64 (x1_1 + 1)) + 1)) + 1)⟩ : S72)) (ze2 _ _ _ (⟨(zab y104 x5_1).f0, (zab y104 x5_1).f1, (zab y104 x5_1).f2, wrap64 ((wrap64 ((wrap64 (x1_1 + 1)) + 1)) + 1)⟩ : S72) ) (fun _ hk => hk); have hx18_3 := hcc18 3 _ rfl; (try simp only [show (k72).sz = 4 from rfl, Nat.mul_one, Nat.add_zero] at hx18_3); have hf18_3 := hfr18 3; (try simp only [show (k72).sz = 4 from rfl, Nat.mul_one, Nat.add_zero] at hf18_3); clear hcl18 hcc18 hfr18 hM18) | ((with_reducible refine zgs 3 38 ?_); refine zse (w17.setCell ⟨go6, (x5_1 : Int).toNat * 4 + 3, none⟩ (.int .i64 (wrap64 ((wrap64 ((wrap64 (x1_1 + 1)) + 1)) + 1)))) ?_; intro w19 hw; have hg : w17.grownBy w19 (some go6) := (by rw [hw]; exact HP18.2); have hp_ : Kd.R k72 72 w19 w0.heap.size (fun k_ => (P0_ k_ ∨ w.heap.size ≤ k_)) (.slice (some ⟨go6, 0, none⟩) x0_1.length co10) y105 := (by rw [hw, Ny105.out]; exact HP18.1); clear HP18; replace HB := zA ((zq32 GB6 : Below w0.heap.size w0 w19)); replace HK := zA (zeh (S := (fun k_ => P0_ k_)) hg zq21 (fun k_ e_ => (HO_0.out.1 k_ e_))); replace HO_0 := zA (hp_); clear hg hw hp_))
 go_roundg k1
 case measure => have := HK1.out; omega
 case rel => exact ⟨(y105), (wrap64 ((wrap64 ((wrap64 ((wrap64 (x1_1 + 1)) + 1)) + 1)) + 1)), (wrap64 (x5_1 + 1)), zq6, zq6, H', ⟨zq38 HK1⟩, ⟨zq3 HO_0⟩, ⟨zq21⟩, ⟨zq1⟩⟩
def zhk (a0_0 : ByteArray) (a0_1 : Int) (a0_2 : Int) (a0_3 : Int) (a0_4 : Int) (a1 : Int) : Option (Int) := if (wrap64 (a1 - (a0_0.size : Int))) < 0 then (some (-1)) else (some (wrap64 (a1 - (a0_0.size : Int))))
set_option maxHeartbeats 8000000 in
set_option maxRecDepth 100000 in
theorem ziy (a0_0 : ByteArray) (a0_1 : Int) (a0_2 : Int) (a0_3 : Int) (a0_4 : Int) (a1 : Int) (r : Int) (w : World) (h : zhk a0_0 a0_1 a0_2 a0_3 a0_4 a1 = some r) :
   Calls Try.prog 67 #[.agg #[.string a0_0, .int .i64 a0_1, .int .i64 a0_2, .int .i64 a0_3, .int .i64 a0_4], .int .i64 a1] w fun e w' => e = .returned (.int .i64 r) ∧ Below w.heap.size w w' := by
 have hu93 := Try.underlying93
 have HB := zA (Below.refl w.heap.size w)
 have H : (if (wrap64 (a1 - (a0_0.size : Int))) < 0 then (some (-1)) else (some (wrap64 (a1 - (a0_0.size : Int))))) = some r := h
 clear h
 by_cases c3 : (wrap64 (a1 - (a0_0.size : Int))) < 0
 · rw [if_pos c3] at H
   have c3b0 := zdt c3
   clear c3
   obtain rfl := zsi H
   go_enter Try.func67, Try.ntmps67
   go_wp2_with (first | ((with_reducible refine zgd 2 ?_); refine zbx #[.string a0_0, .int .i64 a0_1, .int .i64 a0_2, .int .i64 a0_3, .int .i64 a0_4] 93 ?_; intro gb101 hg w4 hbox hb; have zs := zpair zq1 hb; replace HB := zA (zs.1); have BK101 := zA (hbox); have GW101 := zA (zge hg zs.2); have GE101 := GW101; clear zs hb hbox hg; obtain ⟨hcz5_0, hcz5_1, hcz5_2, hcz5_3, hcz5_4⟩ := zc5 w4 (.string a0_0) (.int .i64 a0_1) (.int .i64 a0_2) (.int .i64 a0_3) (.int .i64 a0_4) BK101.out; obtain ⟨hfz5_0, hfz5_1, hfz5_2, hfz5_3, hfz5_4⟩ := zf5 BK101.out))
   go_ret
   exact ⟨zq4, zq2 GE101⟩
 · rw [if_neg c3] at H
   have c3b0 := zdf c3
   clear c3
   obtain rfl := zsi H
   go_enter Try.func67, Try.ntmps67
   go_wp2_with (first | ((with_reducible refine zgd 2 ?_); refine zbx #[.string a0_0, .int .i64 a0_1, .int .i64 a0_2, .int .i64 a0_3, .int .i64 a0_4] 93 ?_; intro gb101 hg w6 hbox hb; have zs := zpair zq1 hb; replace HB := zA (zs.1); have BK101 := zA (hbox); have GW101 := zA (zge hg zs.2); have GE101 := GW101; clear zs hb hbox hg; obtain ⟨hcz7_0, hcz7_1, hcz7_2, hcz7_3, hcz7_4⟩ := zc5 w6 (.string a0_0) (.int .i64 a0_1) (.int .i64 a0_2) (.int .i64 a0_3) (.int .i64 a0_4) BK101.out; obtain ⟨hfz7_0, hfz7_1, hfz7_2, hfz7_3, hfz7_4⟩ := zf5 BK101.out))
   go_ret
   exact ⟨zq4, zq2 GE101⟩
def zbs : Nat → List (S93) → Int → Int → Option (Int)
 | 0, _, _, _ => none
 | k + 1, x0, x1, x5 => if x5 < (x0.length : Int) then (if 0 ≤ x5 then ((zhk ((zeq x0 x5).f0) ((zeq x0 x5).f1) ((zeq x0 x5).f2) ((zeq x0 x5).f3) ((zeq x0 x5).f4) x1).bind fun t102 => (if t102 < 0 then (some (-1)) else (zbs k x0 t102 (wrap64 (x5 + 1))))) else (none)) else (some x1)
def zej (k : Nat) (l0 : List (S93)) (a1 : Int) : Option (Int) := if (wrap64 (a1 - (l0.length : Int))) < 0 then (some (-1)) else (zbs k l0 (wrap64 (a1 - (l0.length : Int))) 0)
theorem zh4 : ∀ k, (∀ y0 y1 y2, LeO (zbs k y0 y1 y2) (zbs (k + 1) y0 y1 y2))
 | 0 => fun _ _ _ r h => by simp [zbs] at h
 | k + 1 => by
   have ih0 := zh4 k
   · intro y0 y1 y2
     unfold zbs
     exact zm1 ih0
theorem zs0 : ∀ a0 a1 k, LeO (zej k a0 a1) (zej (k + 1) a0 a1) := by
 intro a0 a1 k
 have ih0 := zh4 k
 unfold zej
 exact zm1 ih0
set_option maxHeartbeats 8000000 in
set_option maxRecDepth 100000 in
theorem zih (k : Nat) (A0 : Option Addr) (c0 : Nat) (l0 : List (S93)) (a1 : Int) (r : Int) (w : World) (hr0 : Kd.C k93 w A0 l0.length l0) (hc0 : l0.length ≤ c0) (h : zej k l0 a1 = some r) :
   Calls Try.prog 25 #[.slice A0 l0.length c0, .int .i64 a1] w fun e w' => e = .returned (.int .i64 r) ∧ Below w.heap.size w w' := by
 have hu93 := Try.underlying93
 have HR0 := zA hr0
 have HC0 := zA hc0
 clear hr0 hc0
 have HB := zA (Below.refl w.heap.size w)
 have H : (if (wrap64 (a1 - (l0.length : Int))) < 0 then (some (-1)) else (zbs k l0 (wrap64 (a1 - (l0.length : Int))) 0)) = some r := h
 clear h
 by_cases c3 : (wrap64 (a1 - (l0.length : Int))) < 0
 · rw [if_pos c3] at H
   have c3b0 := zdt c3
   clear c3
   obtain rfl := zsi H
   go_enter Try.func25, Try.ntmps25
   go_wp2
   go_ret
   exact ⟨zq4, zq1⟩
 rw [if_neg c3] at H
 have c3b0 := zdf c3
 clear c3
 have H' := zA H
 clear H
 go_enter Try.func25, Try.ntmps25
 go_wp2
 go_loopg [1, 5] k (fun kq v1 v5 w' => ∃ (x1_1 : Int) (x5_1 : Int), v1 = .int .i64 x1_1 ∧ v5 = .int .i64 x5_1 ∧ Aside0 (zbs kq l0 x1_1 x5_1 = some r) ∧ Aside0 (kq ≤ k) ∧ Aside0 (Below w.heap.size w w'))
 case atStart => exact ⟨(wrap64 (a1 - (l0.length : Int))), (0), zq6, zq6, H', ⟨zlr _⟩, ⟨zq1⟩⟩
 clear H'
 try clear c2
 try clear p2
 try clear c3
 try clear c3b0
 obtain ⟨x1_1, x5_1, rfl, rfl, HA, HK1, HB⟩ := hrel
 cases gk with
 | zero => exact absurd HA.out (by simp [zbs])
 | succ k1 =>
 have H := HA.out
 clear HA
 simp only [zbs] at H
 revert H
 refine zit (fun c4 H => ?_) fun c4 H => ?_
 rotate_left
 · obtain rfl := zsi H
   go_wp2
   go_ret
   exact ⟨zq4, zq1⟩
 revert H
 refine zin fun c5 H => ?_
 replace H := zob H
 obtain ⟨t102, A60, H⟩ := H
 replace H : (if t102 < 0 then (some (-1)) else (zbs k1 l0 t102 (wrap64 (x5_1 + 1)))) = some r := H
 have A6 := zA A60
 clear A60
 by_cases c7 : t102 < 0
 · rw [if_pos c7] at H
   have c7b0 := zdt c7
   clear c7
   obtain rfl := zsi H
   have p101 : 0 ≤ (x5_1 : Int) := zde zq16
   have q101 : x5_1 < (l0.length : Int) := zde zq16
   obtain ⟨ad101, e101, hx101_0, hx101_1, hx101_2, hx101_3, hx101_4⟩ := zt7 HR0.out x5_1 p101 q101
   cases e101
   replace hx101_0 := zkep HB.out hx101_0
   replace hx101_1 := zkep HB.out hx101_1
   replace hx101_2 := zkep HB.out hx101_2
   replace hx101_3 := zkep HB.out hx101_3
   replace hx101_4 := zkep HB.out hx101_4
   replace p101 := eq_true p101
   replace q101 := eq_true q101
   go_wp2_with (first | ((with_reducible refine zgc 67 ?_); refine zcl 23 Try.func67 (ziy ((zeq l0 x5_1).f0) ((zeq l0 x5_1).f1) ((zeq l0 x5_1).f2) ((zeq l0 x5_1).f3) ((zeq l0 x5_1).f4) x1_1 t102 _ A6.out) ?_; rintro e w8 ⟨rfl, hb⟩; refine ⟨_, rfl, ?_⟩; replace HB := zA (zad zq1 hb); (try clear hb)))
   go_ret
   exact ⟨zq4, zq1⟩
 rw [if_neg c7] at H
 have c7b0 := zdf c7
 clear c7
 have H' := zA H
 clear H
 have p101 : 0 ≤ (x5_1 : Int) := zde zq16
 have q101 : x5_1 < (l0.length : Int) := zde zq16
 obtain ⟨ad101, e101, hx101_0, hx101_1, hx101_2, hx101_3, hx101_4⟩ := zt7 HR0.out x5_1 p101 q101
 cases e101
 replace hx101_0 := zkep HB.out hx101_0
 replace hx101_1 := zkep HB.out hx101_1
 replace hx101_2 := zkep HB.out hx101_2
 replace hx101_3 := zkep HB.out hx101_3
 replace hx101_4 := zkep HB.out hx101_4
 replace p101 := eq_true p101
 replace q101 := eq_true q101
 go_wp2_with (first | ((with_reducible refine zgc 67 ?_); refine zcl 23 Try.func67 (ziy ((zeq l0 x5_1).f0) ((zeq l0 x5_1).f1) ((zeq l0 x5_1).f2) ((zeq l0 x5_1).f3) ((zeq l0 x5_1).f4) x1_1 t102 _ A6.out) ?_; rintro e w9 ⟨rfl, hb⟩; refine ⟨_, rfl, ?_⟩; replace HB := zA (zad zq1 hb); (try clear hb)))
 go_roundg k1
 case measure => have := HK1.out; omega
 case rel => exact ⟨(t102), (wrap64 (x5_1 + 1)), zq6, zq6, H', ⟨zq38 HK1⟩, ⟨zq1⟩⟩
def zjd (a0_0 : ByteArray) (a0_1 : Int) (a0_2 : Int) (a0_3 : Int) (a0_4 : Int) : Option (ByteArray × Int × Int × Int × Int) := some (a0_0, a0_1, a0_2, a0_3, a0_4)
set_option maxHeartbeats 8000000 in
set_option maxRecDepth 100000 in
theorem zl5 (a0_0 : ByteArray) (a0_1 : Int) (a0_2 : Int) (a0_3 : Int) (a0_4 : Int) (r1 : ByteArray) (r2 : Int) (r3 : Int) (r4 : Int) (r5 : Int) (w : World) (h : zjd a0_0 a0_1 a0_2 a0_3 a0_4 = some (r1, r2, r3, r4, r5)) :
   Calls Try.prog 69 #[.agg #[.string a0_0, .int .i64 a0_1, .int .i64 a0_2, .int .i64 a0_3, .int .i64 a0_4]] w fun e w' => e = .returned (.agg #[.string r1, .int .i64 r2, .int .i64 r3, .int .i64 r4, .int .i64 r5]) ∧ Below w.heap.size w w' := by
 have hu93 := Try.underlying93
 have hu94 := Try.underlying94
 have HB := zA (Below.refl w.heap.size w)
 have H : (some (a0_0, a0_1, a0_2, a0_3, a0_4)) = some (r1, r2, r3, r4, r5) := h
 clear h
 simp only [Option.some.injEq, Prod.mk.injEq] at H
 obtain ⟨rfl, rfl, rfl, rfl, rfl⟩ := H
 go_enter Try.func69, Try.ntmps69
 go_wp2_with (first | ((with_reducible refine zgd 1 ?_); refine zbx #[.string a0_0, .int .i64 a0_1, .int .i64 a0_2, .int .i64 a0_3, .int .i64 a0_4] 93 ?_; intro gb101 hg w2 hbox hb; have zs := zpair zq1 hb; replace HB := zA (zs.1); have BK101 := zA (hbox); have GW101 := zA (zge hg zs.2); have GE101 := GW101; clear zs hb hbox hg) | ((with_reducible refine zgd 2 ?_); refine zbx #[.string (⟨#[]⟩ : ByteArray), .int .i64 0, .int .i64 0, .int .i64 0, .int .i64 0] 94 ?_; intro gb102 hg w3 hbox hb; have zs := zpair (zq2 GE101) hb; replace HB := zA (zs.1); have BK102 := zA (hbox); have GW102 := zA (zge hg zs.2); have GE102 := GW102; have NB101_102 := zA ((zq31 BK101 : gb101 ≠ gb102)); replace BK101 := zA (zaf (g := gb101) (o := .cells #[.string a0_0, .int .i64 a0_1, .int .i64 a0_2, .int .i64 a0_3, .int .i64 a0_4] 93 (0, 0)) (zq5 BK101) hb); have NB102_101 := zA (Ne.symm NB101_102.out); clear zs hb hbox hg) | ((with_reducible refine zgd 3 ?_); refine zbx #[.string (⟨#[]⟩ : ByteArray), .int .i64 0, .int .i64 0, .int .i64 0, .int .i64 0] 94 ?_; intro gb103 hg w4 hbox hb; have zs := zpair (zq10 GE101 GE102) hb; replace HB := zA (zs.1); have BK103 := zA (hbox); have GW103 := zA (zge hg zs.2); have GE103 := GW103; have NB101_103 := zA ((zq31 BK101 : gb101 ≠ gb103)); replace BK101 := zA (zaf (g := gb101) (o := .cells #[.string a0_0, .int .i64 a0_1, .int .i64 a0_2, .int .i64 a0_3, .int .i64 a0_4] 93 (0, 0)) (zq5 BK101) hb); have NB103_101 := zA (Ne.symm NB101_103.out); have NB102_103 := zA ((zq31 BK102 : gb102 ≠ gb103)); replace BK102 := zA (zaf (g := gb102) (o := .cells #[.string (⟨#[]⟩ : ByteArray), .int .i64 0, .int .i64 0, .int .i64 0, .int .i64 0] 94 (0, 0)) (zq5 BK102) hb); have NB103_102 := zA (Ne.symm NB102_103.out); clear zs hb hbox hg; have hnb5 := NB101_102.out; have hnc5 := NB102_101.out; have hnb6 := NB101_103.out; have hnc6 := NB103_101.out; obtain ⟨hcz7_0, hcz7_1, hcz7_2, hcz7_3, hcz7_4⟩ := zc5 w4 (.string a0_0) (.int .i64 a0_1) (.int .i64 a0_2) (.int .i64 a0_3) (.int .i64 a0_4) BK101.out; obtain ⟨hfz7_0, hfz7_1, hfz7_2, hfz7_3, hfz7_4⟩ := zf5 BK101.out; have hnb8 := NB103_102.out; have hnc8 := NB102_103.out; obtain ⟨hcz9_0, hcz9_1, hcz9_2, hcz9_3, hcz9_4⟩ := zc5 w4 (.string (⟨#[]⟩ : ByteArray)) (.int .i64 0) (.int .i64 0) (.int .i64 0) (.int .i64 0) BK103.out; obtain ⟨hfz9_0, hfz9_1, hfz9_2, hfz9_3, hfz9_4⟩ := zf5 BK103.out; obtain ⟨hcz10_0, hcz10_1, hcz10_2, hcz10_3, hcz10_4⟩ := zc5 w4 (.string (⟨#[]⟩ : ByteArray)) (.int .i64 0) (.int .i64 0) (.int .i64 0) (.int .i64 0) BK102.out; obtain ⟨hfz10_0, hfz10_1, hfz10_2, hfz10_3, hfz10_4⟩ := zf5 BK102.out))
 refine bodyPost_ret (results_cell_row rfl _ _ gb102 94 #[.string a0_0, .int .i64 a0_1, .int .i64 a0_2, .int .i64 a0_3, .int .i64 a0_4] (0, 0) _ rfl (by (with_reducible repeat (first | refine zkn ?_ _ | refine zkd ?_ | refine zka ?_ _)); refine zbo (cs := #[.string a0_0, .int .i64 a0_1, .int .i64 a0_2, .int .i64 a0_3, .int .i64 0]) ?_ 4 _ rfl; (with_reducible repeat (first | refine zkn ?_ _ | refine zkd ?_ | refine zka ?_ _)); refine zbo (cs := #[.string a0_0, .int .i64 a0_1, .int .i64 a0_2, .int .i64 0, .int .i64 0]) ?_ 3 _ rfl; (with_reducible repeat (first | refine zkn ?_ _ | refine zkd ?_ | refine zka ?_ _)); refine zbo (cs := #[.string a0_0, .int .i64 a0_1, .int .i64 0, .int .i64 0, .int .i64 0]) ?_ 2 _ rfl; (with_reducible repeat (first | refine zkn ?_ _ | refine zkd ?_ | refine zka ?_ _)); refine zbo (cs := #[.string a0_0, .int .i64 0, .int .i64 0, .int .i64 0, .int .i64 0]) ?_ 1 _ rfl; (with_reducible repeat (first | refine zkn ?_ _ | refine zkd ?_ | refine zka ?_ _)); refine zbo (cs := #[.string (⟨#[]⟩ : ByteArray), .int .i64 0, .int .i64 0, .int .i64 0, .int .i64 0]) ?_ 0 _ rfl; (with_reducible repeat (first | refine zkn ?_ _ | refine zkd ?_ | refine zka ?_ _)); refine za0 ?_ NB102_103.out _; (with_reducible repeat (first | refine zkn ?_ _ | refine zkd ?_ | refine zka ?_ _)); refine za0 ?_ NB102_103.out _; (with_reducible repeat (first | refine zkn ?_ _ | refine zkd ?_ | refine zka ?_ _)); refine za0 ?_ NB102_103.out _; (with_reducible repeat (first | refine zkn ?_ _ | refine zkd ?_ | refine zka ?_ _)); refine za0 ?_ NB102_103.out _; (with_reducible repeat (first | refine zkn ?_ _ | refine zkd ?_ | refine zka ?_ _)); refine za0 ?_ NB102_103.out _; (with_reducible repeat (first | refine zkn ?_ _ | refine zkd ?_ | refine zka ?_ _)); exact BK102.out) Try.underlying94 rfl zq23) rfl ?_
 exact ⟨zq4, by repeat (first | (with_reducible first | exact HB.out | apply zba | apply zbn | apply zbd | refine zae ?_ GE101.out | refine zae ?_ GE102.out | refine zae ?_ GE103.out) | exact HB.out)⟩
def zbt : Nat → List (S93) → List (S94) → Int → Option ((List (S94)))
 | 0, _, _, _ => none
 | k + 1, x0, x3, x4 => if x4 < (x0.length : Int) then (if 0 ≤ x4 then ((zjd ((zeq x0 x4).f0) ((zeq x0 x4).f1) ((zeq x0 x4).f2) ((zeq x0 x4).f3) ((zeq x0 x4).f4)).bind fun bt105 => (if x4 < (x3.length : Int) then (zbt k x0 (x3.set (x4 : Int).toNat (⟨bt105.1, bt105.2.1, bt105.2.2.1, bt105.2.2.2.1, bt105.2.2.2.2⟩ : S94)) (wrap64 (x4 + 1))) else (none))) else (none)) else (some x3)
def ze0 (k : Nat) (l0 : List (S93)) : Option ((List (S94))) := if 0 ≤ (l0.length : Int) then (if ((l0.length : Int) : Int).toNat ≤ 5864062014805 then (zbt k l0 (List.replicate ((l0.length : Int) : Int).toNat z94) 0) else (none)) else (none)
theorem zh5 : ∀ k, (∀ y0 y1 y2, LeO (zbt k y0 y1 y2) (zbt (k + 1) y0 y1 y2))
 | 0 => fun _ _ _ r h => by simp [zbt] at h
 | k + 1 => by
   have ih0 := zh5 k
   · intro y0 y1 y2
     unfold zbt
     exact zm1 ih0
theorem zs1 : ∀ a0 k, LeO (ze0 k a0) (ze0 (k + 1) a0) := by
 intro a0 k
 have ih0 := zh5 k
 unfold ze0
 exact zm1 ih0
set_option maxHeartbeats 8000000 in
set_option maxRecDepth 100000 in
theorem zfo (k : Nat) (A0 : Option Addr) (c0 : Nat) (l0 : List (S93)) (r : List (S94)) (w : World) (hr0 : Kd.C k93 w A0 l0.length l0) (hc0 : l0.length ≤ c0) (h : ze0 k l0 = some r) :
   Calls Try.prog 27 #[.slice A0 l0.length c0] w fun e w' => ∃ v0_ : Value, e = .returned (v0_) ∧ Kd.R k94 94 w' w.heap.size (fun _ => True) v0_ r ∧ Below w.heap.size w w' := by
 have hu93 := Try.underlying93
 have hu94 := Try.underlying94
 have HR0 := zA hr0
 have HC0 := zA hc0
 clear hr0 hc0
 have HB := zA (Below.refl w.heap.size w)
 have H : (if 0 ≤ (l0.length : Int) then (if ((l0.length : Int) : Int).toNat ≤ 5864062014805 then (zbt k l0 (List.replicate ((l0.length : Int) : Int).toNat z94) 0) else (none)) else (none)) = some r := h
 clear h
 by_cases c2 : 0 ≤ (l0.length : Int)
 rotate_left
 · rw [if_neg c2] at H
   exact absurd H (by simp)
 rw [if_pos c2] at H
 have c2b0 := eq_true c2
 have c2b1 := zdt c2
 clear c2
 by_cases c3 : ((l0.length : Int) : Int).toNat ≤ 5864062014805
 rotate_left
 · rw [if_neg c3] at H
   exact absurd H (by simp)
 rw [if_pos c3] at H
 have c3b0 := eq_true c3
 have c3b1 := zdt c3
 clear c3
 obtain ⟨y101, hy101⟩ : ∃ y_ : List (S94), y_ = (List.replicate ((l0.length : Int) : Int).toNat z94) := ⟨_, rfl⟩
 replace H : (zbt k l0 y101 0) = some r := by first | (rw [hy101]; with_reducible exact H) | (have H2_ := (Option.bind_some _ _).symm.trans H; rw [hy101]; with_reducible exact H2_) | (have H2_ := (Option.bind_some _ _).symm.trans H; with_reducible exact H2_) | with_reducible exact H | (rw [hy101]; exact H) | exact H
 have Ny101 := zA hy101
 clear hy101
 have H' := zA H
 clear H
 go_enter Try.func27, Try.ntmps27
 go_wp2_with (first | ((with_reducible refine zgd 7 ?_); refine Kd.R_make k94 _ 94 rfl (N := 7) rfl 46 _ _ rfl (l0.length : Int) rfl rfl Try.underlying46 (.agg #[(.string ⟨#[]⟩), (.int .i64 0), (.int .i64 0), (.int .i64 0), (.int .i64 0)]) 48 zym rfl (by decide) (by omega) z94 (ok := fun _ => True) (okp := fun _ => True) (zli _ _ _ z94 ) (fun _ hk => hk) trivial (zde zq16) (Nat.le_trans (Nat.mul_le_mul_right _ (zde zq16 : (l0.length : Int).toNat ≤ 5864062014805)) (by omega)) (Below.refl _ _) (zlr _) ?_; intro v102 w4 ho5 hb hg_ hnew_; clear hg_ hnew_; (first | rw [← Ny101.out] at ho5 | (simp only [Int.reduceToNat] at ho5; rw [← Ny101.out] at ho5)); have HO103 := zA (Kd.R_lower ho5 (zar zq1)); replace HB := zA (zad zq1 hb); clear hb ho5))
 go_loopg [4] k (fun kq v4 w' => ∃ (x3_1 : List (S94)) (x4_1 : Int), v4 = .int .i64 x4_1 ∧ Aside0 (zbt kq l0 x3_1 x4_1 = some r) ∧ Aside0 (kq ≤ k) ∧ Aside0 (Kd.R k94 94 w' w.heap.size (fun _ => True) v102 x3_1) ∧ Aside0 (Below w.heap.size w w'))
 case atStart => exact ⟨(y101), (0), zq6, H', ⟨zlr _⟩, ⟨zq3 HO103⟩, ⟨zq1⟩⟩
 clear H'
 try clear c2
 try clear c2b0
 try clear c2b1
 try clear p2
 try clear c3
 try clear c3b0
 try clear c3b1
 obtain ⟨x3_1, x4_1, rfl, HA, HK1, HO_3, HB⟩ := hrel
 cases gk with
 | zero => exact absurd HA.out (by simp [zbt])
 | succ k1 =>
 have H := HA.out
 clear HA
 simp only [zbt] at H
 revert H
 refine zit (fun c6 H => ?_) fun c6 H => ?_
 rotate_left
 · obtain rfl := zsi H
   go_wp2
   go_ret
   exact ⟨_, zq4, zq3 HO_3, zq1⟩
 revert H
 refine zin fun c7 H => ?_
 replace H := zob H
 obtain ⟨⟨t105, t106, t107, t108, t109⟩, A80, H⟩ := H
 replace H : (if x4_1 < (x3_1.length : Int) then (zbt k1 l0 (x3_1.set (x4_1 : Int).toNat (⟨t105, t106, t107, t108, t109⟩ : S94)) (wrap64 (x4_1 + 1))) else (none)) = some r := H
 have A8 := zA A80
 clear A80
 revert H
 refine zin fun c9 H => ?_
 obtain ⟨y110, hy110⟩ : ∃ y_ : List (S94), y_ = (x3_1.set (x4_1 : Int).toNat (⟨t105, t106, t107, t108, t109⟩ : S94)) := ⟨_, rfl⟩
 replace H : (zbt k1 l0 y110 (wrap64 (x4_1 + 1))) = some r := by first | (rw [hy110]; with_reducible exact H) | (have H2_ := (Option.bind_some _ _).symm.trans H; rw [hy110]; with_reducible exact H2_) | (have H2_ := (Option.bind_some _ _).symm.trans H; with_reducible exact H2_) | with_reducible exact H | (rw [hy110]; exact H) | exact H
 have Ny110 := zA hy110
 clear hy110
 have H' := zA H
 clear H
 have p104 : 0 ≤ (x4_1 : Int) := zde zq16
 have q104 : x4_1 < (l0.length : Int) := zde zq16
 obtain ⟨ad104, e104, hx104_0, hx104_1, hx104_2, hx104_3, hx104_4⟩ := zt7 HR0.out x4_1 p104 q104
 cases e104
 replace hx104_0 := zkep HB.out hx104_0
 replace hx104_1 := zkep HB.out hx104_1
 replace hx104_2 := zkep HB.out hx104_2
 replace hx104_3 := zkep HB.out hx104_3
 replace hx104_4 := zkep HB.out hx104_4
 replace p104 := eq_true p104
 replace q104 := eq_true q104
 go_wp2_with (first | ((with_reducible refine zgc 69 ?_); refine zcl 20 Try.func69 (zl5 ((zeq l0 x4_1).f0) ((zeq l0 x4_1).f1) ((zeq l0 x4_1).f2) ((zeq l0 x4_1).f3) ((zeq l0 x4_1).f4) t105 t106 t107 t108 t109 _ A8.out) ?_; rintro e w11 ⟨rfl, hb⟩; refine ⟨_, rfl, ?_⟩; replace HO_3 := zA (zRb (zq3 HO_3) hb); replace HB := zA (zad zq1 hb); (try clear hb); have p10 : 0 ≤ (x4_1 : Int) := zde zq16; have q10 : (x4_1 : Int) < ((x3_1.length : Int) : Int) := zde zq16; obtain ⟨go10, co10, eo10, gb10, gl10, cl10, HG10⟩ := Kd.R_form HO_3.out (by omega); (first | cases eo10 | (injection eo10 with ea_ en_ ec_; (first | subst ea_ | (injection ea_ with ea_; subst ea_)); subst ec_; clear en_)); have GB10 := zA gb10; have GG10 := zA HG10; clear gb10 gl10 HG10; obtain ⟨ce10, hcl10, hM10, hcc10, hfr10⟩ := Kd.R_elem HO_3.out z94 (x4_1 : Int) p10 q10; obtain rfl := zft hM10; have hx10_0 : w11.cell? ⟨go10, (x4_1 : Int).toNat * 5, none⟩ = some (.string ((zaa x3_1 x4_1).f0)) := hcc10 0 _ rfl; have hx10_1 : w11.cell? ⟨go10, (x4_1 : Int).toNat * 5 + 1, none⟩ = some (.int .i64 ((zaa x3_1 x4_1).f1)) := hcc10 1 _ rfl; have hx10_2 : w11.cell? ⟨go10, (x4_1 : Int).toNat * 5 + 2, none⟩ = some (.int .i64 ((zaa x3_1 x4_1).f2)) := hcc10 2 _ rfl; have hx10_3 : w11.cell? ⟨go10, (x4_1 : Int).toNat * 5 + 3, none⟩ = some (.int .i64 ((zaa x3_1 x4_1).f3)) := hcc10 3 _ rfl; have hx10_4 : w11.cell? ⟨go10, (x4_1 : Int).toNat * 5 + 4, none⟩ = some (.int .i64 ((zaa x3_1 x4_1).f4)) := hcc10 4 _ rfl; have hf10_0 : w11.frozen? ⟨go10, (x4_1 : Int).toNat * 5, none⟩ = false := hfr10 0; have hf10_1 : w11.frozen? ⟨go10, (x4_1 : Int).toNat * 5 + 1, none⟩ = false := hfr10 1; have hf10_2 : w11.frozen? ⟨go10, (x4_1 : Int).toNat * 5 + 2, none⟩ = false := hfr10 2; have hf10_3 : w11.frozen? ⟨go10, (x4_1 : Int).toNat * 5 + 3, none⟩ = false := hfr10 3; have hf10_4 : w11.frozen? ⟨go10, (x4_1 : Int).toNat * 5 + 4, none⟩ = false := hfr10 4; clear hcl10 hcc10 hfr10 hM10; replace p10 := eq_true p10; replace q10 := eq_true q10; have HX12 := zA (show Kd.R k94 94 w11 w.heap.size (fun _ => True) (.slice (some ⟨go10, 0, none⟩) x3_1.length co10) x3_1 from (zq3 HO_3)); obtain ⟨ce12, hcl12, hM12, hcc12, hfr12⟩ := Kd.R_elem HX12.out z94 (x4_1 : Int) (zde zq16) (by have h_ : (x4_1 : Int) < ((x3_1.length : Int) : Int) := zde zq16; first | exact h_ | (have e_ := (zRr HO_3.out).1; omega) | simpa using h_); obtain rfl := zft hM12; have HP12 := Kd.R_seg HX12.out (x4_1 : Int) (zde zq16) (by have h_ : (x4_1 : Int) < ((x3_1.length : Int) : Int) := zde zq16; first | exact h_ | (have e_ := (zRr HO_3.out).1; omega) | simpa using h_) (seg := [.string t105, .int .i64 t106, .int .i64 t107, .int .i64 t108, .int .i64 t109]) (j := 0) hcl12 hcc12 (show 5 ≤ 5 from by decide) (x' := (⟨t105, t106, t107, t108, t109⟩ : S94)) (zli _ _ _ (⟨t105, t106, t107, t108, t109⟩ : S94) ) (fun _ hk => hk); have hx12_0 := hcc12 0 _ rfl; (try simp only [show (k94).sz = 5 from rfl, Nat.mul_one, Nat.add_zero] at hx12_0); have hf12_0 := hfr12 0; (try simp only [show (k94).sz = 5 from rfl, Nat.mul_one, Nat.add_zero] at hf12_0); have hx12_1 := hcc12 1 _ rfl; (try simp only [show (k94).sz = 5 from rfl, Nat.mul_one, Nat.add_zero] at hx12_1); have hf12_1 := hfr12 1; (try simp only [show (k94).sz = 5 from rfl, Nat.mul_one, Nat.add_zero] at hf12_1); have hx12_2 := hcc12 2 _ rfl; (try simp only [show (k94).sz = 5 from rfl, Nat.mul_one, Nat.add_zero] at hx12_2); have hf12_2 := hfr12 2; (try simp only [show (k94).sz = 5 from rfl, Nat.mul_one, Nat.add_zero] at hf12_2); have hx12_3 := hcc12 3 _ rfl; (try simp only [show (k94).sz = 5 from rfl, Nat.mul_one, Nat.add_zero] at hx12_3); have hf12_3 := hfr12 3; (try simp only [show (k94).sz = 5 from rfl, Nat.mul_one, Nat.add_zero] at hf12_3); have hx12_4 := hcc12 4 _ rfl; (try simp only [show (k94).sz = 5 from rfl, Nat.mul_one, Nat.add_zero] at hx12_4); have hf12_4 := hfr12 4; (try simp only [show (k94).sz = 5 from rfl, Nat.mul_one, Nat.add_zero] at hf12_4); clear hcl12 hcc12 hfr12 hM12) | ((with_reducible refine zgs 94 21 ?_); refine zse (((((w11.setCell ⟨go10, (x4_1 : Int).toNat * 5, none⟩ (.string t105)).setCell ⟨go10, (x4_1 : Int).toNat * 5 + 1, none⟩ (.int .i64 t106)).setCell ⟨go10, (x4_1 : Int).toNat * 5 + 2, none⟩ (.int .i64 t107)).setCell ⟨go10, (x4_1 : Int).toNat * 5 + 3, none⟩ (.int .i64 t108)).setCell ⟨go10, (x4_1 : Int).toNat * 5 + 4, none⟩ (.int .i64 t109)) ?_; intro w13 hw; have hg : w11.grownBy w13 (some go10) := (by rw [hw]; exact HP12.2); have hp_ : Kd.R k94 94 w13 w.heap.size (fun _ => True) (.slice (some ⟨go10, 0, none⟩) x3_1.length co10) y110 := (by rw [hw, Ny110.out]; exact HP12.1); clear HP12; replace HO_3 := zA (hp_); replace HB := zA ((by rw [hw]; exact zae (zae (zae (zae (zae (HB.out) GB10.out) GB10.out) GB10.out) GB10.out) GB10.out : Below w.heap.size w w13)); clear hg hw hp_))
 go_roundg k1
 case measure => have := HK1.out; omega
 case rel => exact ⟨(y110), (wrap64 (x4_1 + 1)), zq6, H', ⟨zq38 HK1⟩, ⟨zq3 HO_3⟩, ⟨zq1⟩⟩
def zaz (a0 : Int) (a1 : Int) (a2 : Int) : Option (Bool) := if a0 ≥ a1 then (some (decide (a0 ≤ a2))) else (some false)
set_option maxHeartbeats 8000000 in
set_option maxRecDepth 100000 in
theorem zbk (a0 : Int) (a1 : Int) (a2 : Int) (r : Bool) (w : World) (h : zaz a0 a1 a2 = some r) :
   Calls Try.prog 50 #[.int .i64 a0, .int .i64 a1, .int .i64 a2] w fun e w' => e = .returned (.bool r) ∧ Drawn0 w w' := by
 have H : (if a0 ≥ a1 then (some (decide (a0 ≤ a2))) else (some false)) = some r := h
 clear h
 by_cases c4 : a0 ≥ a1
 · rw [if_pos c4] at H
   have c4b0 := zdt c4
   clear c4
   obtain rfl := zsi H
   go_enter Try.func50, Try.ntmps50
   go_wp2
   go_ret
   exact ⟨zq6, zq7⟩
 · rw [if_neg c4] at H
   have c4b0 := zdf c4
   clear c4
   obtain rfl := zsi H
   go_enter Try.func50, Try.ntmps50
   go_wp2
   go_ret
   exact ⟨zq6, zq7⟩
def zbm (a0 : Int) : Option (Bool) := (zaz a0 0 5).bind fun t101 => (some t101)
set_option maxHeartbeats 8000000 in
set_option maxRecDepth 100000 in
theorem zav (a0 : Int) (r : Bool) (w : World) (h : zbm a0 = some r) :
   Calls Try.prog 51 #[.int .i64 a0] w fun e w' => e = .returned (.bool r) ∧ Drawn0 w w' := by
 have H : ((zaz a0 0 5).bind fun t101 => (some t101)) = some r := h
 clear h
 replace H := zob H
 obtain ⟨t101, A20, H⟩ := H
 replace H : (some t101) = some r := H
 have A2 := zA A20
 clear A20
 obtain rfl := zsi H
 go_enter Try.func51, Try.ntmps51
 go_wp2_with (first | ((with_reducible refine zgc 50 ?_); refine zcl 4 Try.func50 (zbk a0 0 5 t101 _ A2.out) ?_; rintro e w' ⟨rfl, ⟨nd, rfl⟩⟩; refine ⟨_, rfl, ?_⟩))
 go_ret
 exact ⟨zq6, zq7⟩
end Go.Proofs.Ytkfkbmlbpeojaaa.Q
end
section
namespace Go.Proofs.Ytkfkbmlbpeojaaa.Q
open Go.RowKit Go.Proofs.YtkfkbmlbpeojaaaW.PrintWords Go.Proofs.YtkfkbmlbpeojaaaW.PrintLast Go.Proofs.YtkfkbmlbpeojaaaW.PrintMore
attribute [local go_sem] zcs zct zdo zdp zb2 zb3 zcu zcv
set_option linter.unusedVariables false
set_option linter.unusedSimpArgs false
mutual
def zcg : Nat → ByteArray → Bool → Option (Bool × Bool × Bool × Int × Int)
 | 0, _, _ => none
 | k + 1, x7, x10 => if x10 = true then (some (true, true, false, 0, 0)) else (if x7.toList = ([97, 100, 100] : List UInt8) then (zaw k x7 (x7.toList == ([97, 100, 100] : List UInt8))) else (if x7.toList = ([115, 117, 98] : List UInt8) then (zaw k x7 (x7.toList == ([115, 117, 98] : List UInt8))) else (if x7.toList = ([97, 110, 100] : List UInt8) then (zaw k x7 (x7.toList == ([97, 110, 100] : List UInt8))) else (if x7.toList = ([111, 114] : List UInt8) then (zaw k x7 (x7.toList == ([111, 114] : List UInt8))) else (if x7.toList = ([120, 111, 114] : List UInt8) then (zaw k x7 (x7.toList == ([120, 111, 114] : List UInt8))) else (if x7.toList = ([115, 104, 108] : List UInt8) then (zaw k x7 (x7.toList == ([115, 104, 108] : List UInt8))) else (if x7.toList = ([115, 104, 114] : List UInt8) then (zaw k x7 (x7.toList == ([115, 104, 114] : List UInt8))) else (if x7.toList = ([108, 101, 115, 115] : List UInt8) then (zaw k x7 (x7.toList == ([108, 101, 115, 115] : List UInt8))) else (if x7.toList = ([101, 113] : List UInt8) then (zaw k x7 (x7.toList == ([101, 113] : List UInt8))) else (zaw k x7 (x7.toList == ([109, 117, 108] : List UInt8))))))))))))
def zaw : Nat → ByteArray → Bool → Option (Bool × Bool × Bool × Int × Int)
 | 0, _, _ => none
 | k + 1, x7, x14 => if x14 = true then (some (true, true, true, 0, 0)) else (if x7.toList = ([97, 100, 100, 105] : List UInt8) then (zch k x7 (x7.toList == ([97, 100, 100, 105] : List UInt8))) else (if x7.toList = ([97, 110, 100, 105] : List UInt8) then (zch k x7 (x7.toList == ([97, 110, 100, 105] : List UInt8))) else (zch k x7 (x7.toList == ([120, 111, 114, 105] : List UInt8)))))
def zch : Nat → ByteArray → Bool → Option (Bool × Bool × Bool × Int × Int)
 | 0, _, _ => none
 | k + 1, x7, x25 => if x25 = true then (some (true, true, false, 0, 63)) else (if x7.toList = ([115, 104, 108, 105] : List UInt8) then (zcy k x7 (x7.toList == ([115, 104, 108, 105] : List UInt8))) else (zcy k x7 (x7.toList == ([115, 104, 114, 105] : List UInt8))))
def zcy : Nat → ByteArray → Bool → Option (Bool × Bool × Bool × Int × Int)
 | 0, _, _ => none
 | k + 1, x7, x29 => if x29 = true then (some (true, true, false, 1, 5)) else (if x7.toList = ([108, 101, 97] : List UInt8) then (some (true, true, true, 1, 3)) else (some (false, false, false, 0, 0)))
end
def zd1 (k : Nat) (a0 : ByteArray) : Option (Bool × Bool × Bool × Int × Int) := if a0.toList = ([115, 101, 116] : List UInt8) then (some (true, false, false, 0, 63)) else (if a0.toList = ([109, 111, 118] : List UInt8) then (zcg k a0 (a0.toList == ([109, 111, 118] : List UInt8))) else (if a0.toList = ([110, 111, 116] : List UInt8) then (zcg k a0 (a0.toList == ([110, 111, 116] : List UInt8))) else (zcg k a0 (a0.toList == ([110, 101, 103] : List UInt8)))))
theorem zii : ∀ k, (∀ y0 y1, LeO (zcg k y0 y1) (zcg (k + 1) y0 y1)) ∧ (∀ y0 y1, LeO (zaw k y0 y1) (zaw (k + 1) y0 y1)) ∧ (∀ y0 y1, LeO (zch k y0 y1) (zch (k + 1) y0 y1)) ∧ (∀ y0 y1, LeO (zcy k y0 y1) (zcy (k + 1) y0 y1))
 | 0 => ⟨fun _ _ r h => by simp [zcg] at h, fun _ _ r h => by simp [zaw] at h, fun _ _ r h => by simp [zch] at h, fun _ _ r h => by simp [zcy] at h⟩
 | k + 1 => by
   obtain ⟨ih0, ih1, ih2, ih3⟩ := zii k
   refine ⟨?_, ?_, ?_, ?_⟩
   · intro y0 y1
     unfold zcg
     exact zm4 ih0 ih1 ih2 ih3
   · intro y0 y1
     unfold zaw
     exact zm4 ih0 ih1 ih2 ih3
   · intro y0 y1
     unfold zch
     exact zm4 ih0 ih1 ih2 ih3
   · intro y0 y1
     unfold zcy
     exact zm4 ih0 ih1 ih2 ih3
theorem zhe : ∀ a0 k, LeO (zd1 k a0) (zd1 (k + 1) a0) := by
 intro a0 k
 obtain ⟨ih0, ih1, ih2, ih3⟩ := zii k
 unfold zd1
 exact zm4 ih0 ih1 ih2 ih3
set_option maxHeartbeats 8000000 in
set_option maxRecDepth 100000 in
theorem zcp (k : Nat) (a0 : ByteArray) (r1 : Bool) (r2 : Bool) (r3 : Bool) (r4 : Int) (r5 : Int) (w : World) (h : zd1 k a0 = some (r1, r2, r3, r4, r5)) :
   Calls Try.prog 125 #[.string a0] w fun e w' => e = .returned (.tuple #[.bool r1, .bool r2, .bool r3, .int .i64 r4, .int .i64 r5]) ∧ Drawn0 w w' := by
 have H : (if a0.toList = ([115, 101, 116] : List UInt8) then (some (true, false, false, 0, 63)) else (if a0.toList = ([109, 111, 118] : List UInt8) then (zcg k a0 (a0.toList == ([109, 111, 118] : List UInt8))) else (if a0.toList = ([110, 111, 116] : List UInt8) then (zcg k a0 (a0.toList == ([110, 111, 116] : List UInt8))) else (zcg k a0 (a0.toList == ([110, 101, 103] : List UInt8)))))) = some (r1, r2, r3, r4, r5) := h
 clear h
 by_cases c2 : a0.toList = ([115, 101, 116] : List UInt8)
 · rw [if_pos c2] at H
   have c2b0 := beq_iff_eq.mpr c2
   have c2b1 := bne_eq_false_iff_eq.mpr c2
   clear c2
   simp only [Option.some.injEq, Prod.mk.injEq] at H
   obtain ⟨rfl, rfl, rfl, rfl, rfl⟩ := H
   go_enter Try.func125, Try.ntmps125
   go_wp2
   refine bodyPost_ret (zgg (rs := [.tmp 2, .tmp 3, .tmp 4, .tmp 5, .tmp 6]) rfl (by simp) (.tmp (.tmp (.tmp (.tmp (.tmp .nil)))))) rfl ?_
   exact ⟨zq6, zq7⟩
 rw [if_neg c2] at H
 have c2b0 := beq_eq_false_iff_ne.mpr c2
 have c2b1 := bne_iff_ne.mpr c2
 have HC3 := zA H
 clear H
 go_enter Try.func125, Try.ntmps125
 go_upto_if 10 with (fail)
 go_cut [10] (fun v10 wc => ∃ (kq : Nat) (x10_2 : Bool), v10 = .bool x10_2 ∧ Aside0 (zcg kq a0 x10_2 = some (r1, r2, r3, r4, r5)) ∧ Aside0 (kq ≤ k) ∧ Drawn0 w wc)
 case first =>
   have H := HC3.out
   clear HC3
   by_cases c4 : a0.toList = ([109, 111, 118] : List UInt8)
   · rw [if_pos c4] at H
     have c4b0 := beq_iff_eq.mpr c4
     have c4b1 := bne_eq_false_iff_eq.mpr c4
     clear c4
     (first | rw [c4b0] | (simp only [zfx, zip]; rw [c4b0]) | skip)
     have H' := zA H
     clear H
     go_wp2
     go_meet
     case rel => exact ⟨_, ((a0.toList == ([109, 111, 118] : List UInt8))), zq6, H', ⟨by first | omega | exact zlr _⟩, zq7⟩
   rw [if_neg c4] at H
   have c4b0 := beq_eq_false_iff_ne.mpr c4
   have c4b1 := bne_iff_ne.mpr c4
   (first | rw [c4b0] | (simp only [zfx, zip]; rw [c4b0]) | skip)
   by_cases c5 : a0.toList = ([110, 111, 116] : List UInt8)
   rotate_left
   · rw [if_neg c5] at H
     have c5b0 := beq_eq_false_iff_ne.mpr c5
     have c5b1 := bne_iff_ne.mpr c5
     have H' := zA H
     clear H
     go_wp2
     go_meet
     case rel => exact ⟨_, ((a0.toList == ([110, 101, 103] : List UInt8))), zq6, H', ⟨by first | omega | exact zlr _⟩, zq7⟩
   rw [if_pos c5] at H
   have c5b0 := beq_iff_eq.mpr c5
   have c5b1 := bne_eq_false_iff_eq.mpr c5
   clear c5
   have H' := zA H
   clear H
   go_wp2
   go_meet
   case rel => exact ⟨_, ((a0.toList == ([110, 111, 116] : List UInt8))), zq6, H', ⟨by first | omega | exact zlr _⟩, zq7⟩
 clear HC3
 try clear c1
 try clear c2
 try clear c2b0
 try clear c2b1
 try clear p2
 try clear c4
 try clear c4b0
 try clear c4b1
 try clear c5
 try clear c5b0
 try clear c5b1
 obtain ⟨kq, x10_2, rfl, HA, HJ2, ⟨mc2, rfl⟩⟩ := hcut
 cases kq with
 | zero => exact absurd HA.out (by simp [zcg])
 | succ kj2 =>
 have H := HA.out
 clear HA
 simp only [zcg] at H
 by_cases c6 : x10_2 = true
 · subst c6
   replace H : (some (true, true, false, 0, 0)) = some (r1, r2, r3, r4, r5) := by rw [if_pos rfl] at H; exact H
   simp only [Option.some.injEq, Prod.mk.injEq] at H
   obtain ⟨rfl, rfl, rfl, rfl, rfl⟩ := H
   go_wp2
   refine bodyPost_ret (zgg (rs := [.tmp 2, .tmp 3, .tmp 4, .tmp 5, .tmp 6]) rfl (by simp) (.tmp (.tmp (.tmp (.tmp (.tmp .nil)))))) rfl ?_
   exact ⟨zq6, zq7⟩
 replace c6 := zbf c6
 subst c6
 replace H : (if a0.toList = ([97, 100, 100] : List UInt8) then (zaw kj2 a0 (a0.toList == ([97, 100, 100] : List UInt8))) else (if a0.toList = ([115, 117, 98] : List UInt8) then (zaw kj2 a0 (a0.toList == ([115, 117, 98] : List UInt8))) else (if a0.toList = ([97, 110, 100] : List UInt8) then (zaw kj2 a0 (a0.toList == ([97, 110, 100] : List UInt8))) else (if a0.toList = ([111, 114] : List UInt8) then (zaw kj2 a0 (a0.toList == ([111, 114] : List UInt8))) else (if a0.toList = ([120, 111, 114] : List UInt8) then (zaw kj2 a0 (a0.toList == ([120, 111, 114] : List UInt8))) else (if a0.toList = ([115, 104, 108] : List UInt8) then (zaw kj2 a0 (a0.toList == ([115, 104, 108] : List UInt8))) else (if a0.toList = ([115, 104, 114] : List UInt8) then (zaw kj2 a0 (a0.toList == ([115, 104, 114] : List UInt8))) else (if a0.toList = ([108, 101, 115, 115] : List UInt8) then (zaw kj2 a0 (a0.toList == ([108, 101, 115, 115] : List UInt8))) else (if a0.toList = ([101, 113] : List UInt8) then (zaw kj2 a0 (a0.toList == ([101, 113] : List UInt8))) else (zaw kj2 a0 (a0.toList == ([109, 117, 108] : List UInt8)))))))))))) = some (r1, r2, r3, r4, r5) := by rw [if_neg (show ¬ (false = true) by decide)] at H; exact H
 have HC7 := zA H
 clear H
 go_upto_if 14 with (fail)
 go_cut [14] (fun v14 wc => ∃ (kq : Nat) (x14_6 : Bool), v14 = .bool x14_6 ∧ Aside0 (zaw kq a0 x14_6 = some (r1, r2, r3, r4, r5)) ∧ Aside0 (kq ≤ kj2) ∧ Drawn0 w wc)
 case first =>
   have H := HC7.out
   clear HC7
   by_cases c8 : a0.toList = ([97, 100, 100] : List UInt8)
   · rw [if_pos c8] at H
     have c8b0 := beq_iff_eq.mpr c8
     have c8b1 := bne_eq_false_iff_eq.mpr c8
     clear c8
     (first | rw [c8b0] | (simp only [zfx, zip]; rw [c8b0]) | skip)
     have H' := zA H
     clear H
     go_wp2
     go_meet
     case rel => exact ⟨_, ((a0.toList == ([97, 100, 100] : List UInt8))), zq6, H', ⟨zq34 HJ2⟩, zq7⟩
   rw [if_neg c8] at H
   have c8b0 := beq_eq_false_iff_ne.mpr c8
   have c8b1 := bne_iff_ne.mpr c8
   (first | rw [c8b0] | (simp only [zfx, zip]; rw [c8b0]) | skip)
   by_cases c9 : a0.toList = ([115, 117, 98] : List UInt8)
   · rw [if_pos c9] at H
     have c9b0 := beq_iff_eq.mpr c9
     have c9b1 := bne_eq_false_iff_eq.mpr c9
     clear c9
     have H' := zA H
     clear H
     go_wp2
     go_meet
     case rel => exact ⟨_, ((a0.toList == ([115, 117, 98] : List UInt8))), zq6, H', ⟨zq34 HJ2⟩, zq7⟩
   rw [if_neg c9] at H
   have c9b0 := beq_eq_false_iff_ne.mpr c9
   have c9b1 := bne_iff_ne.mpr c9
   by_cases c10 : a0.toList = ([97, 110, 100] : List UInt8)
   · rw [if_pos c10] at H
     have c10b0 := beq_iff_eq.mpr c10
     have c10b1 := bne_eq_false_iff_eq.mpr c10
     clear c10
     have H' := zA H
     clear H
     go_wp2
     go_meet
     case rel => exact ⟨_, ((a0.toList == ([97, 110, 100] : List UInt8))), zq6, H', ⟨zq34 HJ2⟩, zq7⟩
   rw [if_neg c10] at H
   have c10b0 := beq_eq_false_iff_ne.mpr c10
   have c10b1 := bne_iff_ne.mpr c10
   by_cases c11 : a0.toList = ([111, 114] : List UInt8)
   · rw [if_pos c11] at H
     have c11b0 := beq_iff_eq.mpr c11
     have c11b1 := bne_eq_false_iff_eq.mpr c11
     clear c11
     have H' := zA H
     clear H
     go_wp2
     go_meet
     case rel => exact ⟨_, ((a0.toList == ([111, 114] : List UInt8))), zq6, H', ⟨zq34 HJ2⟩, zq7⟩
   rw [if_neg c11] at H
   have c11b0 := beq_eq_false_iff_ne.mpr c11
   have c11b1 := bne_iff_ne.mpr c11
   by_cases c12 : a0.toList = ([120, 111, 114] : List UInt8)
   · rw [if_pos c12] at H
     have c12b0 := beq_iff_eq.mpr c12
     have c12b1 := bne_eq_false_iff_eq.mpr c12
     clear c12
     have H' := zA H
     clear H
     go_wp2
     go_meet
     case rel => exact ⟨_, ((a0.toList == ([120, 111, 114] : List UInt8))), zq6, H', ⟨zq34 HJ2⟩, zq7⟩
   rw [if_neg c12] at H
   have c12b0 := beq_eq_false_iff_ne.mpr c12
   have c12b1 := bne_iff_ne.mpr c12
   by_cases c13 : a0.toList = ([115, 104, 108] : List UInt8)
   · rw [if_pos c13] at H
     have c13b0 := beq_iff_eq.mpr c13
     have c13b1 := bne_eq_false_iff_eq.mpr c13
     clear c13
     have H' := zA H
     clear H
     go_wp2
     go_meet
     case rel => exact ⟨_, ((a0.toList == ([115, 104, 108] : List UInt8))), zq6, H', ⟨zq34 HJ2⟩, zq7⟩
   rw [if_neg c13] at H
   have c13b0 := beq_eq_false_iff_ne.mpr c13
   have c13b1 := bne_iff_ne.mpr c13
   by_cases c14 : a0.toList = ([115, 104, 114] : List UInt8)
   · rw [if_pos c14] at H
     have c14b0 := beq_iff_eq.mpr c14
     have c14b1 := bne_eq_false_iff_eq.mpr c14
     clear c14
     have H' := zA H
     clear H
     go_wp2
     go_meet
     case rel => exact ⟨_, ((a0.toList == ([115, 104, 114] : List UInt8))), zq6, H', ⟨zq34 HJ2⟩, zq7⟩
   rw [if_neg c14] at H
   have c14b0 := beq_eq_false_iff_ne.mpr c14
   have c14b1 := bne_iff_ne.mpr c14
   by_cases c15 : a0.toList = ([108, 101, 115, 115] : List UInt8)
   · rw [if_pos c15] at H
     have c15b0 := beq_iff_eq.mpr c15
     have c15b1 := bne_eq_false_iff_eq.mpr c15
     clear c15
     have H' := zA H
     clear H
     go_wp2
     go_meet
     case rel => exact ⟨_, ((a0.toList == ([108, 101, 115, 115] : List UInt8))), zq6, H', ⟨zq34 HJ2⟩, zq7⟩
   rw [if_neg c15] at H
   have c15b0 := beq_eq_false_iff_ne.mpr c15
   have c15b1 := bne_iff_ne.mpr c15
   by_cases c16 : a0.toList = ([101, 113] : List UInt8)
   rotate_left
   · rw [if_neg c16] at H
     have c16b0 := beq_eq_false_iff_ne.mpr c16
     have c16b1 := bne_iff_ne.mpr c16
     have H' := zA H
     clear H
     go_wp2
     go_meet
     case rel => exact ⟨_, ((a0.toList == ([109, 117, 108] : List UInt8))), zq6, H', ⟨zq34 HJ2⟩, zq7⟩
   rw [if_pos c16] at H
   have c16b0 := beq_iff_eq.mpr c16
   have c16b1 := bne_eq_false_iff_eq.mpr c16
   clear c16
   have H' := zA H
   clear H
   go_wp2
   go_meet
   case rel => exact ⟨_, ((a0.toList == ([101, 113] : List UInt8))), zq6, H', ⟨zq34 HJ2⟩, zq7⟩
 clear HC7
 try clear c1
 try clear c2
 try clear c2b0
 try clear c2b1
 try clear p2
 try clear c4
 try clear c4b0
 try clear c4b1
 try clear c5
 try clear c5b0
 try clear c5b1
 try clear c6
 try clear c8
 try clear c8b0
 try clear c8b1
 try clear c9
 try clear c9b0
 try clear c9b1
 try clear c10
 try clear c10b0
 try clear c10b1
 try clear c11
 try clear c11b0
 try clear c11b1
 try clear c12
 try clear c12b0
 try clear c12b1
 try clear c13
 try clear c13b0
 try clear c13b1
 try clear c14
 try clear c14b0
 try clear c14b1
 try clear c15
 try clear c15b0
 try clear c15b1
 try clear c16
 try clear c16b0
 try clear c16b1
 try clear p2
 obtain ⟨kq, x14_6, rfl, HA, HJ6, ⟨mc6, rfl⟩⟩ := hcut
 cases kq with
 | zero => exact absurd HA.out (by simp [zaw])
 | succ kj6 =>
 have H := HA.out
 clear HA
 simp only [zaw] at H
 by_cases c17 : x14_6 = true
 · subst c17
   replace H : (some (true, true, true, 0, 0)) = some (r1, r2, r3, r4, r5) := by rw [if_pos rfl] at H; exact H
   simp only [Option.some.injEq, Prod.mk.injEq] at H
   obtain ⟨rfl, rfl, rfl, rfl, rfl⟩ := H
   go_wp2
   refine bodyPost_ret (zgg (rs := [.tmp 2, .tmp 3, .tmp 4, .tmp 5, .tmp 6]) rfl (by simp) (.tmp (.tmp (.tmp (.tmp (.tmp .nil)))))) rfl ?_
   exact ⟨zq6, zq7⟩
 replace c17 := zbf c17
 subst c17
 replace H : (if a0.toList = ([97, 100, 100, 105] : List UInt8) then (zch kj6 a0 (a0.toList == ([97, 100, 100, 105] : List UInt8))) else (if a0.toList = ([97, 110, 100, 105] : List UInt8) then (zch kj6 a0 (a0.toList == ([97, 110, 100, 105] : List UInt8))) else (zch kj6 a0 (a0.toList == ([120, 111, 114, 105] : List UInt8))))) = some (r1, r2, r3, r4, r5) := by rw [if_neg (show ¬ (false = true) by decide)] at H; exact H
 have HC18 := zA H
 clear H
 go_upto_if 25 with (fail)
 go_cut [25] (fun v25 wc => ∃ (kq : Nat) (x25_17 : Bool), v25 = .bool x25_17 ∧ Aside0 (zch kq a0 x25_17 = some (r1, r2, r3, r4, r5)) ∧ Aside0 (kq ≤ kj6) ∧ Drawn0 w wc)
 case first =>
   have H := HC18.out
   clear HC18
   by_cases c19 : a0.toList = ([97, 100, 100, 105] : List UInt8)
   · rw [if_pos c19] at H
     have c19b0 := beq_iff_eq.mpr c19
     have c19b1 := bne_eq_false_iff_eq.mpr c19
     clear c19
     (first | rw [c19b0] | (simp only [zfx, zip]; rw [c19b0]) | skip)
     have H' := zA H
     clear H
     go_wp2
     go_meet
     case rel => exact ⟨_, ((a0.toList == ([97, 100, 100, 105] : List UInt8))), zq6, H', ⟨zq52 HJ2 HJ6⟩, zq7⟩
   rw [if_neg c19] at H
   have c19b0 := beq_eq_false_iff_ne.mpr c19
   have c19b1 := bne_iff_ne.mpr c19
   (first | rw [c19b0] | (simp only [zfx, zip]; rw [c19b0]) | skip)
   by_cases c20 : a0.toList = ([97, 110, 100, 105] : List UInt8)
   rotate_left
   · rw [if_neg c20] at H
     have c20b0 := beq_eq_false_iff_ne.mpr c20
     have c20b1 := bne_iff_ne.mpr c20
     have H' := zA H
     clear H
     go_wp2
     go_meet
     case rel => exact ⟨_, ((a0.toList == ([120, 111, 114, 105] : List UInt8))), zq6, H', ⟨zq52 HJ2 HJ6⟩, zq7⟩
   rw [if_pos c20] at H
   have c20b0 := beq_iff_eq.mpr c20
   have c20b1 := bne_eq_false_iff_eq.mpr c20
   clear c20
   have H' := zA H
   clear H
   go_wp2
   go_meet
   case rel => exact ⟨_, ((a0.toList == ([97, 110, 100, 105] : List UInt8))), zq6, H', ⟨zq52 HJ2 HJ6⟩, zq7⟩
 clear HC18
 try clear c1
 try clear c2
 try clear c2b0
 try clear c2b1
 try clear p2
 try clear c4
 try clear c4b0
 try clear c4b1
 try clear c5
 try clear c5b0
 try clear c5b1
 try clear c6
 try clear c8
 try clear c8b0
 try clear c8b1
 try clear c9
 try clear c9b0
 try clear c9b1
 try clear c10
 try clear c10b0
 try clear c10b1
 try clear c11
 try clear c11b0
 try clear c11b1
 try clear c12
 try clear c12b0
 try clear c12b1
 try clear c13
 try clear c13b0
 try clear c13b1
 try clear c14
 try clear c14b0
 try clear c14b1
 try clear c15
 try clear c15b0
 try clear c15b1
 try clear c16
 try clear c16b0
 try clear c16b1
 try clear c17
 try clear c19
 try clear c19b0
 try clear c19b1
 try clear c20
 try clear c20b0
 try clear c20b1
 try clear p2
 obtain ⟨kq, x25_17, rfl, HA, HJ17, ⟨mc17, rfl⟩⟩ := hcut
 cases kq with
 | zero => exact absurd HA.out (by simp [zch])
 | succ kj17 =>
 have H := HA.out
 clear HA
 simp only [zch] at H
 by_cases c21 : x25_17 = true
 · subst c21
   replace H : (some (true, true, false, 0, 63)) = some (r1, r2, r3, r4, r5) := by rw [if_pos rfl] at H; exact H
   simp only [Option.some.injEq, Prod.mk.injEq] at H
   obtain ⟨rfl, rfl, rfl, rfl, rfl⟩ := H
   go_wp2
   refine bodyPost_ret (zgg (rs := [.tmp 2, .tmp 3, .tmp 4, .tmp 5, .tmp 6]) rfl (by simp) (.tmp (.tmp (.tmp (.tmp (.tmp .nil)))))) rfl ?_
   exact ⟨zq6, zq7⟩
 replace c21 := zbf c21
 subst c21
 replace H : (if a0.toList = ([115, 104, 108, 105] : List UInt8) then (zcy kj17 a0 (a0.toList == ([115, 104, 108, 105] : List UInt8))) else (zcy kj17 a0 (a0.toList == ([115, 104, 114, 105] : List UInt8)))) = some (r1, r2, r3, r4, r5) := by rw [if_neg (show ¬ (false = true) by decide)] at H; exact H
 have HC22 := zA H
 clear H
 go_upto_if 29 with (fail)
 go_cut [29] (fun v29 wc => ∃ (kq : Nat) (x29_21 : Bool), v29 = .bool x29_21 ∧ Aside0 (zcy kq a0 x29_21 = some (r1, r2, r3, r4, r5)) ∧ Aside0 (kq ≤ kj17) ∧ Drawn0 w wc)
 case first =>
   have H := HC22.out
   clear HC22
   by_cases c23 : a0.toList = ([115, 104, 108, 105] : List UInt8)
   rotate_left
   · rw [if_neg c23] at H
     have c23b0 := beq_eq_false_iff_ne.mpr c23
     have c23b1 := bne_iff_ne.mpr c23
     (first | rw [c23b0] | (simp only [zfx, zip]; rw [c23b0]) | skip)
     have H' := zA H
     clear H
     go_wp2
     go_meet
     case rel => exact ⟨_, ((a0.toList == ([115, 104, 114, 105] : List UInt8))), zq6, H', ⟨by have := HJ2.out; have := HJ6.out; have := HJ17.out; first | omega | exact zlr _⟩, zq7⟩
   rw [if_pos c23] at H
   have c23b0 := beq_iff_eq.mpr c23
   have c23b1 := bne_eq_false_iff_eq.mpr c23
   clear c23
   (first | rw [c23b0] | (simp only [zfx, zip]; rw [c23b0]) | skip)
   have H' := zA H
   clear H
   go_wp2
   go_meet
   case rel => exact ⟨_, ((a0.toList == ([115, 104, 108, 105] : List UInt8))), zq6, H', ⟨by have := HJ2.out; have := HJ6.out; have := HJ17.out; first | omega | exact zlr _⟩, zq7⟩
 clear HC22
 try clear c1
 try clear c2
 try clear c2b0
 try clear c2b1
 try clear p2
 try clear c4
 try clear c4b0
 try clear c4b1
 try clear c5
 try clear c5b0
 try clear c5b1
 try clear c6
 try clear c8
 try clear c8b0
 try clear c8b1
 try clear c9
 try clear c9b0
 try clear c9b1
 try clear c10
 try clear c10b0
 try clear c10b1
 try clear c11
 try clear c11b0
 try clear c11b1
 try clear c12
 try clear c12b0
 try clear c12b1
 try clear c13
 try clear c13b0
 try clear c13b1
 try clear c14
 try clear c14b0
 try clear c14b1
 try clear c15
 try clear c15b0
 try clear c15b1
 try clear c16
 try clear c16b0
 try clear c16b1
 try clear c17
 try clear c19
 try clear c19b0
 try clear c19b1
 try clear c20
 try clear c20b0
 try clear c20b1
 try clear c21
 try clear c23
 try clear c23b0
 try clear c23b1
 try clear p2
 obtain ⟨kq, x29_21, rfl, HA, HJ21, ⟨mc21, rfl⟩⟩ := hcut
 cases kq with
 | zero => exact absurd HA.out (by simp [zcy])
 | succ kj21 =>
 have H := HA.out
 clear HA
 simp only [zcy] at H
 by_cases c24 : x29_21 = true
 · subst c24
   replace H : (some (true, true, false, 1, 5)) = some (r1, r2, r3, r4, r5) := by rw [if_pos rfl] at H; exact H
   simp only [Option.some.injEq, Prod.mk.injEq] at H
   obtain ⟨rfl, rfl, rfl, rfl, rfl⟩ := H
   go_wp2
   refine bodyPost_ret (zgg (rs := [.tmp 2, .tmp 3, .tmp 4, .tmp 5, .tmp 6]) rfl (by simp) (.tmp (.tmp (.tmp (.tmp (.tmp .nil)))))) rfl ?_
   exact ⟨zq6, zq7⟩
 replace c24 := zbf c24
 subst c24
 replace H : (if a0.toList = ([108, 101, 97] : List UInt8) then (some (true, true, true, 1, 3)) else (some (false, false, false, 0, 0))) = some (r1, r2, r3, r4, r5) := by rw [if_neg (show ¬ (false = true) by decide)] at H; exact H
 by_cases c25 : a0.toList = ([108, 101, 97] : List UInt8)
 rotate_left
 · rw [if_neg c25] at H
   have c25b0 := beq_eq_false_iff_ne.mpr c25
   have c25b1 := bne_iff_ne.mpr c25
   simp only [Option.some.injEq, Prod.mk.injEq] at H
   obtain ⟨rfl, rfl, rfl, rfl, rfl⟩ := H
   go_wp2
   refine bodyPost_ret (zgg (rs := [.tmp 2, .tmp 3, .tmp 4, .tmp 5, .tmp 6]) rfl (by simp) (.tmp (.tmp (.tmp (.tmp (.tmp .nil)))))) rfl ?_
   exact ⟨zq6, zq7⟩
 rw [if_pos c25] at H
 have c25b0 := beq_iff_eq.mpr c25
 have c25b1 := bne_eq_false_iff_eq.mpr c25
 clear c25
 simp only [Option.some.injEq, Prod.mk.injEq] at H
 obtain ⟨rfl, rfl, rfl, rfl, rfl⟩ := H
 go_wp2
 refine bodyPost_ret (zgg (rs := [.tmp 2, .tmp 3, .tmp 4, .tmp 5, .tmp 6]) rfl (by simp) (.tmp (.tmp (.tmp (.tmp (.tmp .nil)))))) rfl ?_
 exact ⟨zq6, zq7⟩
end Go.Proofs.Ytkfkbmlbpeojaaa.Q
end
section
namespace Go.Proofs.Ytkfkbmlbpeojaaa.Q
open Go.RowKit Go.Proofs.YtkfkbmlbpeojaaaW.PrintWords Go.Proofs.YtkfkbmlbpeojaaaW.PrintLast Go.Proofs.YtkfkbmlbpeojaaaW.PrintMore
attribute [local go_sem] zcs zct zdo zdp zb2 zb3 zcu zcv
set_option linter.unusedVariables false
set_option linter.unusedSimpArgs false
def zfp (k : Nat) (a0_0 : ByteArray) (a0_1 : Int) (a0_2 : Int) (a0_3 : Int) (a0_4 : Int) : Option (Bool) := (zd1 k a0_0).bind fun bt102 => (if bt102.1 = true then ((zbm a0_1).bind fun t107 => (if t107 = true then ((zbm a0_2).bind fun t108 => (if t108 = true then ((zbm a0_3).bind fun t109 => (if t109 = true then ((zaz a0_4 bt102.2.2.2.1 bt102.2.2.2.2).bind fun t110 => (if t110 = true then (if bt102.2.1 = true then (if bt102.2.2.1 = true then (some true) else (some (a0_3 == 0))) else (if a0_2 = 0 then (if bt102.2.2.1 = true then (some true) else (some (a0_3 == 0))) else (some false))) else (some false))) else (some false))) else (some false))) else (some false))) else (some false))
theorem zj5 : ∀ a0 a1 a2 a3 a4 k, LeO (zfp k a0 a1 a2 a3 a4) (zfp (k + 1) a0 a1 a2 a3 a4) := by
 intro a0 a1 a2 a3 a4 k
 unfold zfp
 exact zm1 zhe
set_option maxHeartbeats 8000000 in
set_option maxRecDepth 100000 in
theorem zjn (k : Nat) (a0_0 : ByteArray) (a0_1 : Int) (a0_2 : Int) (a0_3 : Int) (a0_4 : Int) (r : Bool) (w : World) (h : zfp k a0_0 a0_1 a0_2 a0_3 a0_4 = some r) :
   Calls Try.prog 157 #[.agg #[.string a0_0, .int .i64 a0_1, .int .i64 a0_2, .int .i64 a0_3, .int .i64 a0_4]] w fun e w' => e = .returned (.bool r) ∧ Below w.heap.size w w' := by
 have hu94 := Try.underlying94
 have HB := zA (Below.refl w.heap.size w)
 have H : ((zd1 k a0_0).bind fun bt102 => (if bt102.1 = true then ((zbm a0_1).bind fun t107 => (if t107 = true then ((zbm a0_2).bind fun t108 => (if t108 = true then ((zbm a0_3).bind fun t109 => (if t109 = true then ((zaz a0_4 bt102.2.2.2.1 bt102.2.2.2.2).bind fun t110 => (if t110 = true then (if bt102.2.1 = true then (if bt102.2.2.1 = true then (some true) else (some (a0_3 == 0))) else (if a0_2 = 0 then (if bt102.2.2.1 = true then (some true) else (some (a0_3 == 0))) else (some false))) else (some false))) else (some false))) else (some false))) else (some false))) else (some false))) = some r := h
 clear h
 replace H := zob H
 obtain ⟨⟨t102, t103, t104, t105, t106⟩, A20, H⟩ := H
 replace H : (if t102 = true then ((zbm a0_1).bind fun t107 => (if t107 = true then ((zbm a0_2).bind fun t108 => (if t108 = true then ((zbm a0_3).bind fun t109 => (if t109 = true then ((zaz a0_4 t105 t106).bind fun t110 => (if t110 = true then (if t103 = true then (if t104 = true then (some true) else (some (a0_3 == 0))) else (if a0_2 = 0 then (if t104 = true then (some true) else (some (a0_3 == 0))) else (some false))) else (some false))) else (some false))) else (some false))) else (some false))) else (some false)) = some r := H
 have A2 := zA A20
 clear A20
 by_cases c3 : t102 = true
 rotate_left
 · replace c3 := zbf c3
   subst c3
   replace H : (some false) = some r := by rw [if_neg (show ¬ (false = true) by decide)] at H; exact H
   obtain rfl := zsi H
   go_enter Try.func157, Try.ntmps157
   go_wp2_with (first | ((with_reducible refine zgd 1 ?_); refine zbx #[.string a0_0, .int .i64 a0_1, .int .i64 a0_2, .int .i64 a0_3, .int .i64 a0_4] 94 ?_; intro gb101 hg w34 hbox hb; have zs := zpair zq1 hb; replace HB := zA (zs.1); have BK101 := zA (hbox); have GW101 := zA (zge hg zs.2); have GE101 := GW101; clear zs hb hbox hg; obtain ⟨hcz35_0, hcz35_1, hcz35_2, hcz35_3, hcz35_4⟩ := zc5 w34 (.string a0_0) (.int .i64 a0_1) (.int .i64 a0_2) (.int .i64 a0_3) (.int .i64 a0_4) BK101.out; obtain ⟨hfz35_0, hfz35_1, hfz35_2, hfz35_3, hfz35_4⟩ := zf5 BK101.out) | ((with_reducible refine zgc 125 ?_); refine zcl 11 Try.func125 (zcp k a0_0 false t103 t104 t105 t106 _ A2.out) ?_; rintro e w' ⟨rfl, ⟨nd, rfl⟩⟩; refine ⟨_, rfl, ?_⟩))
   go_ret
   exact ⟨zq4, zq2 GE101⟩
 subst c3
 replace H : ((zbm a0_1).bind fun t107 => (if t107 = true then ((zbm a0_2).bind fun t108 => (if t108 = true then ((zbm a0_3).bind fun t109 => (if t109 = true then ((zaz a0_4 t105 t106).bind fun t110 => (if t110 = true then (if t103 = true then (if t104 = true then (some true) else (some (a0_3 == 0))) else (if a0_2 = 0 then (if t104 = true then (some true) else (some (a0_3 == 0))) else (some false))) else (some false))) else (some false))) else (some false))) else (some false))) = some r := by rw [if_pos rfl] at H; exact H
 replace H := zob H
 obtain ⟨t107, A40, H⟩ := H
 replace H : (if t107 = true then ((zbm a0_2).bind fun t108 => (if t108 = true then ((zbm a0_3).bind fun t109 => (if t109 = true then ((zaz a0_4 t105 t106).bind fun t110 => (if t110 = true then (if t103 = true then (if t104 = true then (some true) else (some (a0_3 == 0))) else (if a0_2 = 0 then (if t104 = true then (some true) else (some (a0_3 == 0))) else (some false))) else (some false))) else (some false))) else (some false))) else (some false)) = some r := H
 have A4 := zA A40
 clear A40
 by_cases c5 : t107 = true
 rotate_left
 · replace c5 := zbf c5
   subst c5
   replace H : (some false) = some r := by rw [if_neg (show ¬ (false = true) by decide)] at H; exact H
   obtain rfl := zsi H
   go_enter Try.func157, Try.ntmps157
   go_wp2_with (first | ((with_reducible refine zgd 1 ?_); refine zbx #[.string a0_0, .int .i64 a0_1, .int .i64 a0_2, .int .i64 a0_3, .int .i64 a0_4] 94 ?_; intro gb101 hg w32 hbox hb; have zs := zpair zq1 hb; replace HB := zA (zs.1); have BK101 := zA (hbox); have GW101 := zA (zge hg zs.2); have GE101 := GW101; clear zs hb hbox hg; obtain ⟨hcz33_0, hcz33_1, hcz33_2, hcz33_3, hcz33_4⟩ := zc5 w32 (.string a0_0) (.int .i64 a0_1) (.int .i64 a0_2) (.int .i64 a0_3) (.int .i64 a0_4) BK101.out; obtain ⟨hfz33_0, hfz33_1, hfz33_2, hfz33_3, hfz33_4⟩ := zf5 BK101.out) | ((with_reducible refine zgc 125 ?_); refine zcl 11 Try.func125 (zcp k a0_0 true t103 t104 t105 t106 _ A2.out) ?_; rintro e w' ⟨rfl, ⟨nd, rfl⟩⟩; refine ⟨_, rfl, ?_⟩) | (go_at_call 51; (with_reducible refine (zav a0_1 false _ A4.out).mono ?_); rintro e w' ⟨rfl, ⟨nd, rfl⟩⟩))
   go_ret
   exact ⟨zq4, zq2 GE101⟩
 subst c5
 replace H : ((zbm a0_2).bind fun t108 => (if t108 = true then ((zbm a0_3).bind fun t109 => (if t109 = true then ((zaz a0_4 t105 t106).bind fun t110 => (if t110 = true then (if t103 = true then (if t104 = true then (some true) else (some (a0_3 == 0))) else (if a0_2 = 0 then (if t104 = true then (some true) else (some (a0_3 == 0))) else (some false))) else (some false))) else (some false))) else (some false))) = some r := by rw [if_pos rfl] at H; exact H
 replace H := zob H
 obtain ⟨t108, A60, H⟩ := H
 replace H : (if t108 = true then ((zbm a0_3).bind fun t109 => (if t109 = true then ((zaz a0_4 t105 t106).bind fun t110 => (if t110 = true then (if t103 = true then (if t104 = true then (some true) else (some (a0_3 == 0))) else (if a0_2 = 0 then (if t104 = true then (some true) else (some (a0_3 == 0))) else (some false))) else (some false))) else (some false))) else (some false)) = some r := H
 have A6 := zA A60
 clear A60
 by_cases c7 : t108 = true
 rotate_left
 · replace c7 := zbf c7
   subst c7
   replace H : (some false) = some r := by rw [if_neg (show ¬ (false = true) by decide)] at H; exact H
   obtain rfl := zsi H
   go_enter Try.func157, Try.ntmps157
   go_wp2_with (first | ((with_reducible refine zgd 1 ?_); refine zbx #[.string a0_0, .int .i64 a0_1, .int .i64 a0_2, .int .i64 a0_3, .int .i64 a0_4] 94 ?_; intro gb101 hg w30 hbox hb; have zs := zpair zq1 hb; replace HB := zA (zs.1); have BK101 := zA (hbox); have GW101 := zA (zge hg zs.2); have GE101 := GW101; clear zs hb hbox hg; obtain ⟨hcz31_0, hcz31_1, hcz31_2, hcz31_3, hcz31_4⟩ := zc5 w30 (.string a0_0) (.int .i64 a0_1) (.int .i64 a0_2) (.int .i64 a0_3) (.int .i64 a0_4) BK101.out; obtain ⟨hfz31_0, hfz31_1, hfz31_2, hfz31_3, hfz31_4⟩ := zf5 BK101.out) | ((with_reducible refine zgc 125 ?_); refine zcl 11 Try.func125 (zcp k a0_0 true t103 t104 t105 t106 _ A2.out) ?_; rintro e w' ⟨rfl, ⟨nd, rfl⟩⟩; refine ⟨_, rfl, ?_⟩) | (go_at_call 51; (with_reducible refine (zav a0_1 true _ A4.out).mono ?_); rintro e w' ⟨rfl, ⟨nd, rfl⟩⟩) | (go_at_call 51; (with_reducible refine (zav a0_2 false _ A6.out).mono ?_); rintro e w' ⟨rfl, ⟨nd, rfl⟩⟩))
   go_ret
   exact ⟨zq4, zq2 GE101⟩
 subst c7
 replace H : ((zbm a0_3).bind fun t109 => (if t109 = true then ((zaz a0_4 t105 t106).bind fun t110 => (if t110 = true then (if t103 = true then (if t104 = true then (some true) else (some (a0_3 == 0))) else (if a0_2 = 0 then (if t104 = true then (some true) else (some (a0_3 == 0))) else (some false))) else (some false))) else (some false))) = some r := by rw [if_pos rfl] at H; exact H
 replace H := zob H
 obtain ⟨t109, A80, H⟩ := H
 replace H : (if t109 = true then ((zaz a0_4 t105 t106).bind fun t110 => (if t110 = true then (if t103 = true then (if t104 = true then (some true) else (some (a0_3 == 0))) else (if a0_2 = 0 then (if t104 = true then (some true) else (some (a0_3 == 0))) else (some false))) else (some false))) else (some false)) = some r := H
 have A8 := zA A80
 clear A80
 by_cases c9 : t109 = true
 rotate_left
 · replace c9 := zbf c9
   subst c9
   replace H : (some false) = some r := by rw [if_neg (show ¬ (false = true) by decide)] at H; exact H
   obtain rfl := zsi H
   go_enter Try.func157, Try.ntmps157
   go_wp2_with (first | ((with_reducible refine zgd 1 ?_); refine zbx #[.string a0_0, .int .i64 a0_1, .int .i64 a0_2, .int .i64 a0_3, .int .i64 a0_4] 94 ?_; intro gb101 hg w28 hbox hb; have zs := zpair zq1 hb; replace HB := zA (zs.1); have BK101 := zA (hbox); have GW101 := zA (zge hg zs.2); have GE101 := GW101; clear zs hb hbox hg; obtain ⟨hcz29_0, hcz29_1, hcz29_2, hcz29_3, hcz29_4⟩ := zc5 w28 (.string a0_0) (.int .i64 a0_1) (.int .i64 a0_2) (.int .i64 a0_3) (.int .i64 a0_4) BK101.out; obtain ⟨hfz29_0, hfz29_1, hfz29_2, hfz29_3, hfz29_4⟩ := zf5 BK101.out) | ((with_reducible refine zgc 125 ?_); refine zcl 11 Try.func125 (zcp k a0_0 true t103 t104 t105 t106 _ A2.out) ?_; rintro e w' ⟨rfl, ⟨nd, rfl⟩⟩; refine ⟨_, rfl, ?_⟩) | (go_at_call 51; (with_reducible refine (zav a0_1 true _ A4.out).mono ?_); rintro e w' ⟨rfl, ⟨nd, rfl⟩⟩) | (go_at_call 51; (with_reducible refine (zav a0_2 true _ A6.out).mono ?_); rintro e w' ⟨rfl, ⟨nd, rfl⟩⟩) | (go_at_call 51; (with_reducible refine (zav a0_3 false _ A8.out).mono ?_); rintro e w' ⟨rfl, ⟨nd, rfl⟩⟩))
   go_ret
   exact ⟨zq4, zq2 GE101⟩
 subst c9
 replace H : ((zaz a0_4 t105 t106).bind fun t110 => (if t110 = true then (if t103 = true then (if t104 = true then (some true) else (some (a0_3 == 0))) else (if a0_2 = 0 then (if t104 = true then (some true) else (some (a0_3 == 0))) else (some false))) else (some false))) = some r := by rw [if_pos rfl] at H; exact H
 replace H := zob H
 obtain ⟨t110, A100, H⟩ := H
 replace H : (if t110 = true then (if t103 = true then (if t104 = true then (some true) else (some (a0_3 == 0))) else (if a0_2 = 0 then (if t104 = true then (some true) else (some (a0_3 == 0))) else (some false))) else (some false)) = some r := H
 have A10 := zA A100
 clear A100
 by_cases c11 : t110 = true
 rotate_left
 · replace c11 := zbf c11
   subst c11
   replace H : (some false) = some r := by rw [if_neg (show ¬ (false = true) by decide)] at H; exact H
   obtain rfl := zsi H
   go_enter Try.func157, Try.ntmps157
   go_wp2_with (first | ((with_reducible refine zgd 1 ?_); refine zbx #[.string a0_0, .int .i64 a0_1, .int .i64 a0_2, .int .i64 a0_3, .int .i64 a0_4] 94 ?_; intro gb101 hg w26 hbox hb; have zs := zpair zq1 hb; replace HB := zA (zs.1); have BK101 := zA (hbox); have GW101 := zA (zge hg zs.2); have GE101 := GW101; clear zs hb hbox hg; obtain ⟨hcz27_0, hcz27_1, hcz27_2, hcz27_3, hcz27_4⟩ := zc5 w26 (.string a0_0) (.int .i64 a0_1) (.int .i64 a0_2) (.int .i64 a0_3) (.int .i64 a0_4) BK101.out; obtain ⟨hfz27_0, hfz27_1, hfz27_2, hfz27_3, hfz27_4⟩ := zf5 BK101.out) | ((with_reducible refine zgc 125 ?_); refine zcl 11 Try.func125 (zcp k a0_0 true t103 t104 t105 t106 _ A2.out) ?_; rintro e w' ⟨rfl, ⟨nd, rfl⟩⟩; refine ⟨_, rfl, ?_⟩) | (go_at_call 51; (with_reducible refine (zav a0_1 true _ A4.out).mono ?_); rintro e w' ⟨rfl, ⟨nd, rfl⟩⟩) | (go_at_call 51; (with_reducible refine (zav a0_2 true _ A6.out).mono ?_); rintro e w' ⟨rfl, ⟨nd, rfl⟩⟩) | (go_at_call 51; (with_reducible refine (zav a0_3 true _ A8.out).mono ?_); rintro e w' ⟨rfl, ⟨nd, rfl⟩⟩) | (go_at_call 50; (with_reducible refine (zbk a0_4 t105 t106 false _ A10.out).mono ?_); rintro e w' ⟨rfl, ⟨nd, rfl⟩⟩))
   go_ret
   exact ⟨zq4, zq2 GE101⟩
 subst c11
 replace H : (if t103 = true then (if t104 = true then (some true) else (some (a0_3 == 0))) else (if a0_2 = 0 then (if t104 = true then (some true) else (some (a0_3 == 0))) else (some false))) = some r := by rw [if_pos rfl] at H; exact H
 by_cases c12 : t103 = true
 · subst c12
   replace H : (if t104 = true then (some true) else (some (a0_3 == 0))) = some r := by rw [if_pos rfl] at H; exact H
   by_cases c13 : t104 = true
   · subst c13
     replace H : (some true) = some r := by rw [if_pos rfl] at H; exact H
     obtain rfl := zsi H
     go_enter Try.func157, Try.ntmps157
     go_wp2_with (first | ((with_reducible refine zgd 1 ?_); refine zbx #[.string a0_0, .int .i64 a0_1, .int .i64 a0_2, .int .i64 a0_3, .int .i64 a0_4] 94 ?_; intro gb101 hg w14 hbox hb; have zs := zpair zq1 hb; replace HB := zA (zs.1); have BK101 := zA (hbox); have GW101 := zA (zge hg zs.2); have GE101 := GW101; clear zs hb hbox hg; obtain ⟨hcz15_0, hcz15_1, hcz15_2, hcz15_3, hcz15_4⟩ := zc5 w14 (.string a0_0) (.int .i64 a0_1) (.int .i64 a0_2) (.int .i64 a0_3) (.int .i64 a0_4) BK101.out; obtain ⟨hfz15_0, hfz15_1, hfz15_2, hfz15_3, hfz15_4⟩ := zf5 BK101.out) | ((with_reducible refine zgc 125 ?_); refine zcl 11 Try.func125 (zcp k a0_0 true true true t105 t106 _ A2.out) ?_; rintro e w' ⟨rfl, ⟨nd, rfl⟩⟩; refine ⟨_, rfl, ?_⟩) | (go_at_call 51; (with_reducible refine (zav a0_1 true _ A4.out).mono ?_); rintro e w' ⟨rfl, ⟨nd, rfl⟩⟩) | (go_at_call 51; (with_reducible refine (zav a0_2 true _ A6.out).mono ?_); rintro e w' ⟨rfl, ⟨nd, rfl⟩⟩) | (go_at_call 51; (with_reducible refine (zav a0_3 true _ A8.out).mono ?_); rintro e w' ⟨rfl, ⟨nd, rfl⟩⟩) | (go_at_call 50; (with_reducible refine (zbk a0_4 t105 t106 true _ A10.out).mono ?_); rintro e w' ⟨rfl, ⟨nd, rfl⟩⟩))
     go_ret
     exact ⟨zq4, zq2 GE101⟩
   replace c13 := zbf c13
   subst c13
   replace H : (some (a0_3 == 0)) = some r := by rw [if_neg (show ¬ (false = true) by decide)] at H; exact H
   obtain rfl := zsi H
   go_enter Try.func157, Try.ntmps157
   go_wp2_with (first | ((with_reducible refine zgd 1 ?_); refine zbx #[.string a0_0, .int .i64 a0_1, .int .i64 a0_2, .int .i64 a0_3, .int .i64 a0_4] 94 ?_; intro gb101 hg w16 hbox hb; have zs := zpair zq1 hb; replace HB := zA (zs.1); have BK101 := zA (hbox); have GW101 := zA (zge hg zs.2); have GE101 := GW101; clear zs hb hbox hg; obtain ⟨hcz17_0, hcz17_1, hcz17_2, hcz17_3, hcz17_4⟩ := zc5 w16 (.string a0_0) (.int .i64 a0_1) (.int .i64 a0_2) (.int .i64 a0_3) (.int .i64 a0_4) BK101.out; obtain ⟨hfz17_0, hfz17_1, hfz17_2, hfz17_3, hfz17_4⟩ := zf5 BK101.out) | ((with_reducible refine zgc 125 ?_); refine zcl 11 Try.func125 (zcp k a0_0 true true false t105 t106 _ A2.out) ?_; rintro e w' ⟨rfl, ⟨nd, rfl⟩⟩; refine ⟨_, rfl, ?_⟩) | (go_at_call 51; (with_reducible refine (zav a0_1 true _ A4.out).mono ?_); rintro e w' ⟨rfl, ⟨nd, rfl⟩⟩) | (go_at_call 51; (with_reducible refine (zav a0_2 true _ A6.out).mono ?_); rintro e w' ⟨rfl, ⟨nd, rfl⟩⟩) | (go_at_call 51; (with_reducible refine (zav a0_3 true _ A8.out).mono ?_); rintro e w' ⟨rfl, ⟨nd, rfl⟩⟩) | (go_at_call 50; (with_reducible refine (zbk a0_4 t105 t106 true _ A10.out).mono ?_); rintro e w' ⟨rfl, ⟨nd, rfl⟩⟩))
   go_ret
   exact ⟨zq4, zq2 GE101⟩
 replace c12 := zbf c12
 subst c12
 replace H : (if a0_2 = 0 then (if t104 = true then (some true) else (some (a0_3 == 0))) else (some false)) = some r := by rw [if_neg (show ¬ (false = true) by decide)] at H; exact H
 by_cases c18 : a0_2 = 0
 rotate_left
 · rw [if_neg c18] at H
   have c18b0 := beq_eq_false_iff_ne.mpr c18
   have c18b1 := bne_iff_ne.mpr c18
   obtain rfl := zsi H
   go_enter Try.func157, Try.ntmps157
   go_wp2_with (first | ((with_reducible refine zgd 1 ?_); refine zbx #[.string a0_0, .int .i64 a0_1, .int .i64 a0_2, .int .i64 a0_3, .int .i64 a0_4] 94 ?_; intro gb101 hg w24 hbox hb; have zs := zpair zq1 hb; replace HB := zA (zs.1); have BK101 := zA (hbox); have GW101 := zA (zge hg zs.2); have GE101 := GW101; clear zs hb hbox hg; obtain ⟨hcz25_0, hcz25_1, hcz25_2, hcz25_3, hcz25_4⟩ := zc5 w24 (.string a0_0) (.int .i64 a0_1) (.int .i64 a0_2) (.int .i64 a0_3) (.int .i64 a0_4) BK101.out; obtain ⟨hfz25_0, hfz25_1, hfz25_2, hfz25_3, hfz25_4⟩ := zf5 BK101.out) | ((with_reducible refine zgc 125 ?_); refine zcl 11 Try.func125 (zcp k a0_0 true false t104 t105 t106 _ A2.out) ?_; rintro e w' ⟨rfl, ⟨nd, rfl⟩⟩; refine ⟨_, rfl, ?_⟩) | (go_at_call 51; (with_reducible refine (zav a0_1 true _ A4.out).mono ?_); rintro e w' ⟨rfl, ⟨nd, rfl⟩⟩) | (go_at_call 51; (with_reducible refine (zav a0_2 true _ A6.out).mono ?_); rintro e w' ⟨rfl, ⟨nd, rfl⟩⟩) | (go_at_call 51; (with_reducible refine (zav a0_3 true _ A8.out).mono ?_); rintro e w' ⟨rfl, ⟨nd, rfl⟩⟩) | (go_at_call 50; (with_reducible refine (zbk a0_4 t105 t106 true _ A10.out).mono ?_); rintro e w' ⟨rfl, ⟨nd, rfl⟩⟩))
   go_ret
   exact ⟨zq4, zq2 GE101⟩
 rw [if_pos c18] at H
 have c18b0 := beq_iff_eq.mpr c18
 have c18b1 := bne_eq_false_iff_eq.mpr c18
 clear c18
 by_cases c19 : t104 = true
 · subst c19
   replace H : (some true) = some r := by rw [if_pos rfl] at H; exact H
   obtain rfl := zsi H
   go_enter Try.func157, Try.ntmps157
   go_wp2_with (first | ((with_reducible refine zgd 1 ?_); refine zbx #[.string a0_0, .int .i64 a0_1, .int .i64 a0_2, .int .i64 a0_3, .int .i64 a0_4] 94 ?_; intro gb101 hg w20 hbox hb; have zs := zpair zq1 hb; replace HB := zA (zs.1); have BK101 := zA (hbox); have GW101 := zA (zge hg zs.2); have GE101 := GW101; clear zs hb hbox hg; obtain ⟨hcz21_0, hcz21_1, hcz21_2, hcz21_3, hcz21_4⟩ := zc5 w20 (.string a0_0) (.int .i64 a0_1) (.int .i64 a0_2) (.int .i64 a0_3) (.int .i64 a0_4) BK101.out; obtain ⟨hfz21_0, hfz21_1, hfz21_2, hfz21_3, hfz21_4⟩ := zf5 BK101.out) | ((with_reducible refine zgc 125 ?_); refine zcl 11 Try.func125 (zcp k a0_0 true false true t105 t106 _ A2.out) ?_; rintro e w' ⟨rfl, ⟨nd, rfl⟩⟩; refine ⟨_, rfl, ?_⟩) | (go_at_call 51; (with_reducible refine (zav a0_1 true _ A4.out).mono ?_); rintro e w' ⟨rfl, ⟨nd, rfl⟩⟩) | (go_at_call 51; (with_reducible refine (zav a0_2 true _ A6.out).mono ?_); rintro e w' ⟨rfl, ⟨nd, rfl⟩⟩) | (go_at_call 51; (with_reducible refine (zav a0_3 true _ A8.out).mono ?_); rintro e w' ⟨rfl, ⟨nd, rfl⟩⟩) | (go_at_call 50; (with_reducible refine (zbk a0_4 t105 t106 true _ A10.out).mono ?_); rintro e w' ⟨rfl, ⟨nd, rfl⟩⟩))
   go_ret
   exact ⟨zq4, zq2 GE101⟩
 replace c19 := zbf c19
 subst c19
 replace H : (some (a0_3 == 0)) = some r := by rw [if_neg (show ¬ (false = true) by decide)] at H; exact H
 obtain rfl := zsi H
 go_enter Try.func157, Try.ntmps157
 go_wp2_with (first | ((with_reducible refine zgd 1 ?_); refine zbx #[.string a0_0, .int .i64 a0_1, .int .i64 a0_2, .int .i64 a0_3, .int .i64 a0_4] 94 ?_; intro gb101 hg w22 hbox hb; have zs := zpair zq1 hb; replace HB := zA (zs.1); have BK101 := zA (hbox); have GW101 := zA (zge hg zs.2); have GE101 := GW101; clear zs hb hbox hg; obtain ⟨hcz23_0, hcz23_1, hcz23_2, hcz23_3, hcz23_4⟩ := zc5 w22 (.string a0_0) (.int .i64 a0_1) (.int .i64 a0_2) (.int .i64 a0_3) (.int .i64 a0_4) BK101.out; obtain ⟨hfz23_0, hfz23_1, hfz23_2, hfz23_3, hfz23_4⟩ := zf5 BK101.out) | ((with_reducible refine zgc 125 ?_); refine zcl 11 Try.func125 (zcp k a0_0 true false false t105 t106 _ A2.out) ?_; rintro e w' ⟨rfl, ⟨nd, rfl⟩⟩; refine ⟨_, rfl, ?_⟩) | (go_at_call 51; (with_reducible refine (zav a0_1 true _ A4.out).mono ?_); rintro e w' ⟨rfl, ⟨nd, rfl⟩⟩) | (go_at_call 51; (with_reducible refine (zav a0_2 true _ A6.out).mono ?_); rintro e w' ⟨rfl, ⟨nd, rfl⟩⟩) | (go_at_call 51; (with_reducible refine (zav a0_3 true _ A8.out).mono ?_); rintro e w' ⟨rfl, ⟨nd, rfl⟩⟩) | (go_at_call 50; (with_reducible refine (zbk a0_4 t105 t106 true _ A10.out).mono ?_); rintro e w' ⟨rfl, ⟨nd, rfl⟩⟩))
 go_ret
 exact ⟨zq4, zq2 GE101⟩
def zcb : Nat → List (S94) → Int → Int → Option (Bool)
 | 0, _, _, _ => none
 | k + 1, x8, x9, x10 => if x10 < x9 then (if 0 ≤ x10 then (if x10 < (x8.length : Int) then ((zfp k ((zaa x8 x10).f0) ((zaa x8 x10).f1) ((zaa x8 x10).f2) ((zaa x8 x10).f3) ((zaa x8 x10).f4)).bind fun t103 => (if t103 = true then (zcb k x8 x9 (wrap64 (x10 + 1))) else (some false))) else (none)) else (none)) else (some true)
def ze8 (k : Nat) (l0 : List (S94)) : Option (Bool) := if (l0.length : Int) > 40 then (some false) else (zcb k l0 (l0.length : Int) 0)
theorem ziz : ∀ k, (∀ y0 y1 y2, LeO (zcb k y0 y1 y2) (zcb (k + 1) y0 y1 y2))
 | 0 => fun _ _ _ r h => by simp [zcb] at h
 | k + 1 => by
   have ih0 := ziz k
   · intro y0 y1 y2
     unfold zcb
     exact zm2 ih0 zj5
theorem zn1 : ∀ a0 k, LeO (ze8 k a0) (ze8 (k + 1) a0) := by
 intro a0 k
 have ih0 := ziz k
 unfold ze8
 exact zm2 ih0 zj5
set_option maxHeartbeats 8000000 in
set_option maxRecDepth 100000 in
theorem zna (k : Nat) (A0 : Option Addr) (c0 : Nat) (l0 : List (S94)) (r : Bool) (w : World) (hr0 : Kd.C k94 w A0 l0.length l0) (hc0 : l0.length ≤ c0) (h : ze8 k l0 = some r) :
   Calls Try.prog 104 #[.slice A0 l0.length c0] w fun e w' => e = .returned (.bool r) ∧ Below w.heap.size w w' := by
 have hu94 := Try.underlying94
 have HR0 := zA hr0
 have HC0 := zA hc0
 clear hr0 hc0
 have HB := zA (Below.refl w.heap.size w)
 have H : (if (l0.length : Int) > 40 then (some false) else (zcb k l0 (l0.length : Int) 0)) = some r := h
 clear h
 by_cases c2 : (l0.length : Int) > 40
 · rw [if_pos c2] at H
   have c2b0 := zdt c2
   have c2b1 : decide (40 < l0.length) = true := zdt (by omega)
   clear c2
   obtain rfl := zsi H
   go_enter Try.func104, Try.ntmps104
   go_wp2
   go_ret
   exact ⟨zq4, zq1⟩
 rw [if_neg c2] at H
 have c2b0 := zdf c2
 have c2b1 : decide (40 < l0.length) = false := zdf (by omega)
 clear c2
 have H' := zA H
 clear H
 go_enter Try.func104, Try.ntmps104
 go_wp2
 go_loopg [10] k (fun kq v10 w' => ∃ (x10_1 : Int), v10 = .int .i64 x10_1 ∧ Aside0 (zcb kq l0 (l0.length : Int) x10_1 = some r) ∧ Aside0 (kq ≤ k) ∧ Aside0 (Below w.heap.size w w'))
 case atStart => exact ⟨(0), zq6, H', ⟨zlr _⟩, ⟨zq1⟩⟩
 clear H'
 try clear c1
 try clear c2
 try clear c2b0
 try clear c2b1
 try clear p2
 obtain ⟨x10_1, rfl, HA, HK1, HB⟩ := hrel
 cases gk with
 | zero => exact absurd HA.out (by simp [zcb])
 | succ k1 =>
 have H := HA.out
 clear HA
 simp only [zcb] at H
 revert H
 refine zit (fun c3 H => ?_) fun c3 H => ?_
 rotate_left
 · obtain rfl := zsi H
   go_wp2
   go_ret
   exact ⟨zq4, zq1⟩
 revert H
 refine zin fun c4 H => ?_
 revert H
 refine zin fun c5 H => ?_
 replace H := zob H
 obtain ⟨t103, A60, H⟩ := H
 replace H : (if t103 = true then (zcb k1 l0 (l0.length : Int) (wrap64 (x10_1 + 1))) else (some false)) = some r := H
 have A6 := zA A60
 clear A60
 by_cases c7 : t103 = true
 rotate_left
 · replace c7 := zbf c7
   subst c7
   replace H : (some false) = some r := by rw [if_neg (show ¬ (false = true) by decide)] at H; exact H
   obtain rfl := zsi H
   have p101 : 0 ≤ (x10_1 : Int) := zde zq16
   have q101 : x10_1 < (l0.length : Int) := zde zq16
   obtain ⟨ad101, e101, hx101_0, hx101_1, hx101_2, hx101_3, hx101_4⟩ := zj2 HR0.out x10_1 p101 q101
   cases e101
   replace hx101_0 := zkep HB.out hx101_0
   replace hx101_1 := zkep HB.out hx101_1
   replace hx101_2 := zkep HB.out hx101_2
   replace hx101_3 := zkep HB.out hx101_3
   replace hx101_4 := zkep HB.out hx101_4
   replace p101 := eq_true p101
   replace q101 := eq_true q101
   go_wp2_with (first | ((with_reducible refine zgd 4 ?_); refine zbx #[.string (⟨#[]⟩ : ByteArray), .int .i64 0, .int .i64 0, .int .i64 0, .int .i64 0] 94 ?_; intro gb102 hg w11 hbox hb; have zs := zpair zq1 hb; replace HB := zA (zs.1); have BK102 := zA (hbox); have GW102 := zA (zge hg zs.2); have GE102 := GW102; clear zs hb hbox hg; obtain ⟨hcz12_0, hcz12_1, hcz12_2, hcz12_3, hcz12_4⟩ := zc5 w11 (.string (⟨#[]⟩ : ByteArray)) (.int .i64 0) (.int .i64 0) (.int .i64 0) (.int .i64 0) BK102.out; obtain ⟨hfz12_0, hfz12_1, hfz12_2, hfz12_3, hfz12_4⟩ := zf5 BK102.out) | ((with_reducible refine zgc 157 ?_); refine zcl 15 Try.func157 (zjn k1 ((zaa l0 x10_1).f0) ((zaa l0 x10_1).f1) ((zaa l0 x10_1).f2) ((zaa l0 x10_1).f3) ((zaa l0 x10_1).f4) false _ A6.out) ?_; rintro e w13 ⟨rfl, hb⟩; refine ⟨_, rfl, ?_⟩; replace BK102 := zA (zaf (g := gb102) (o := .cells #[.string ((zaa l0 x10_1).f0), .int .i64 ((zaa l0 x10_1).f1), .int .i64 ((zaa l0 x10_1).f2), .int .i64 ((zaa l0 x10_1).f3), .int .i64 ((zaa l0 x10_1).f4)] 94 (0, 0)) (zq25 BK102) hb); replace HB := zA (zad (zq2 GE102) hb); (try clear hb)))
   go_ret
   exact ⟨zq4, zq2 GE102⟩
 subst c7
 replace H : (zcb k1 l0 (l0.length : Int) (wrap64 (x10_1 + 1))) = some r := by rw [if_pos rfl] at H; exact H
 have H' := zA H
 clear H
 have p101 : 0 ≤ (x10_1 : Int) := zde zq16
 have q101 : x10_1 < (l0.length : Int) := zde zq16
 obtain ⟨ad101, e101, hx101_0, hx101_1, hx101_2, hx101_3, hx101_4⟩ := zj2 HR0.out x10_1 p101 q101
 cases e101
 replace hx101_0 := zkep HB.out hx101_0
 replace hx101_1 := zkep HB.out hx101_1
 replace hx101_2 := zkep HB.out hx101_2
 replace hx101_3 := zkep HB.out hx101_3
 replace hx101_4 := zkep HB.out hx101_4
 replace p101 := eq_true p101
 replace q101 := eq_true q101
 go_wp2_with (first | ((with_reducible refine zgd 4 ?_); refine zbx #[.string (⟨#[]⟩ : ByteArray), .int .i64 0, .int .i64 0, .int .i64 0, .int .i64 0] 94 ?_; intro gb102 hg w8 hbox hb; have zs := zpair zq1 hb; replace HB := zA (zs.1); have BK102 := zA (hbox); have GW102 := zA (zge hg zs.2); have GE102 := GW102; clear zs hb hbox hg; obtain ⟨hcz9_0, hcz9_1, hcz9_2, hcz9_3, hcz9_4⟩ := zc5 w8 (.string (⟨#[]⟩ : ByteArray)) (.int .i64 0) (.int .i64 0) (.int .i64 0) (.int .i64 0) BK102.out; obtain ⟨hfz9_0, hfz9_1, hfz9_2, hfz9_3, hfz9_4⟩ := zf5 BK102.out) | ((with_reducible refine zgc 157 ?_); refine zcl 15 Try.func157 (zjn k1 ((zaa l0 x10_1).f0) ((zaa l0 x10_1).f1) ((zaa l0 x10_1).f2) ((zaa l0 x10_1).f3) ((zaa l0 x10_1).f4) true _ A6.out) ?_; rintro e w10 ⟨rfl, hb⟩; refine ⟨_, rfl, ?_⟩; replace BK102 := zA (zaf (g := gb102) (o := .cells #[.string ((zaa l0 x10_1).f0), .int .i64 ((zaa l0 x10_1).f1), .int .i64 ((zaa l0 x10_1).f2), .int .i64 ((zaa l0 x10_1).f3), .int .i64 ((zaa l0 x10_1).f4)] 94 (0, 0)) (zq25 BK102) hb); replace HB := zA (zad (zq2 GE102) hb); (try clear hb)))
 go_roundg k1
 case measure => have := HK1.out; omega
 case rel => exact ⟨(wrap64 (x10_1 + 1)), zq6, H', ⟨zq38 HK1⟩, ⟨zq2 GE102⟩⟩
def ze9 (k : Nat) (l0 : List (S94)) : Option (Bool) := if (l0.length : Int) ≤ 20 then ((ze8 k l0).bind fun t101 => (some t101)) else (some false)
theorem zn2 : ∀ a0 k, LeO (ze9 k a0) (ze9 (k + 1) a0) := by
 intro a0 k
 unfold ze9
 exact zm1 zn1
set_option maxHeartbeats 8000000 in
set_option maxRecDepth 100000 in
theorem zhf (k : Nat) (A0 : Option Addr) (c0 : Nat) (l0 : List (S94)) (r : Bool) (w : World) (hr0 : Kd.C k94 w A0 l0.length l0) (hc0 : l0.length ≤ c0) (h : ze9 k l0 = some r) :
   Calls Try.prog 52 #[.slice A0 l0.length c0] w fun e w' => e = .returned (.bool r) ∧ Below w.heap.size w w' := by
 have HR0 := zA hr0
 have HC0 := zA hc0
 clear hr0 hc0
 have HB := zA (Below.refl w.heap.size w)
 have H : (if (l0.length : Int) ≤ 20 then ((ze8 k l0).bind fun t101 => (some t101)) else (some false)) = some r := h
 clear h
 by_cases c2 : (l0.length : Int) ≤ 20
 · rw [if_pos c2] at H
   have c2b0 := zdt c2
   have c2b1 : decide (l0.length ≤ 20) = true := zdt (by omega)
   clear c2
   replace H := zob H
   obtain ⟨t101, A30, H⟩ := H
   replace H : (some t101) = some r := H
   have A3 := zA A30
   clear A30
   obtain rfl := zsi H
   go_enter Try.func52, Try.ntmps52
   go_wp2_with (first | (go_at_call 104; (with_reducible refine (zna k _ _ l0 t101 _ ?side1 ?side2 A3.out).mono ?_); (case side1 => repeat (first | exact HR0.out | (with_reducible first | refine zCa ?_ _ | refine zCn ?_ _ | refine zCd ?_))); (case side2 => exact HC0.out); rintro e w4 ⟨rfl, hb⟩; replace HB := zA (zad zq1 hb); (try clear hb)))
   go_ret
   exact ⟨zq4, zq1⟩
 · rw [if_neg c2] at H
   have c2b0 := zdf c2
   have c2b1 : decide (l0.length ≤ 20) = false := zdf (by omega)
   clear c2
   obtain rfl := zsi H
   go_enter Try.func52, Try.ntmps52
   go_wp2
   go_ret
   exact ⟨zq4, zq1⟩
def zet (a0 : ByteArray) (a1 : Int) (a2 : Int) : Option (Int) := if a0.toList = ([110, 111, 116] : List UInt8) then (some (Go.bits .and .i64 (wrap64 (63 - a1)) 63)) else (if a0.toList = ([110, 101, 103] : List UInt8) then (some (Go.bits .and .i64 (wrap64 (-a1)) 63)) else (if a0.toList = ([97, 100, 100] : List UInt8) then (some (Go.bits .and .i64 (wrap64 (a1 + a2)) 63)) else (if a0.toList = ([115, 117, 98] : List UInt8) then (some (Go.bits .and .i64 (wrap64 (a1 - a2)) 63)) else (if a0.toList = ([109, 117, 108] : List UInt8) then (some (Go.bits .and .i64 (wrap64 (a1 * a2)) 63)) else (if a0.toList = ([97, 110, 100] : List UInt8) then (some (Go.bits .and .i64 (Go.bits .and .i64 a1 a2) 63)) else (if a0.toList = ([111, 114] : List UInt8) then (some (Go.bits .and .i64 (Go.bits .or .i64 a1 a2) 63)) else (if a0.toList = ([120, 111, 114] : List UInt8) then (some (Go.bits .and .i64 (Go.bits .xor .i64 a1 a2) 63)) else (if a0.toList = ([115, 104, 108] : List UInt8) then (if a2 < 6 then (if 0 ≤ a2 then (some (Go.bits .and .i64 (shl .i64 a1 a2) 63)) else (none)) else (some (Go.bits .and .i64 0 63))) else (if a0.toList = ([115, 104, 114] : List UInt8) then (if a2 < 6 then (if 0 ≤ a2 then (some (Go.bits .and .i64 (shr .i64 a1 a2) 63)) else (none)) else (some (Go.bits .and .i64 0 63))) else (if a0.toList = ([108, 101, 115, 115] : List UInt8) then (if a1 < a2 then (some (Go.bits .and .i64 1 63)) else (some (Go.bits .and .i64 0 63))) else (if a0.toList = ([101, 113] : List UInt8) then (if a1 = a2 then (some (Go.bits .and .i64 1 63)) else (some (Go.bits .and .i64 0 63))) else (some (Go.bits .and .i64 0 63)))))))))))))
set_option maxHeartbeats 8000000 in
set_option maxRecDepth 100000 in
theorem zl6 (a0 : ByteArray) (a1 : Int) (a2 : Int) (r : Int) (w : World) (h : zet a0 a1 a2 = some r) :
   Calls Try.prog 173 #[.string a0, .int .i64 a1, .int .i64 a2] w fun e w' => e = .returned (.int .i64 r) ∧ Drawn0 w w' := by
 have H : (if a0.toList = ([110, 111, 116] : List UInt8) then (some (Go.bits .and .i64 (wrap64 (63 - a1)) 63)) else (if a0.toList = ([110, 101, 103] : List UInt8) then (some (Go.bits .and .i64 (wrap64 (-a1)) 63)) else (if a0.toList = ([97, 100, 100] : List UInt8) then (some (Go.bits .and .i64 (wrap64 (a1 + a2)) 63)) else (if a0.toList = ([115, 117, 98] : List UInt8) then (some (Go.bits .and .i64 (wrap64 (a1 - a2)) 63)) else (if a0.toList = ([109, 117, 108] : List UInt8) then (some (Go.bits .and .i64 (wrap64 (a1 * a2)) 63)) else (if a0.toList = ([97, 110, 100] : List UInt8) then (some (Go.bits .and .i64 (Go.bits .and .i64 a1 a2) 63)) else (if a0.toList = ([111, 114] : List UInt8) then (some (Go.bits .and .i64 (Go.bits .or .i64 a1 a2) 63)) else (if a0.toList = ([120, 111, 114] : List UInt8) then (some (Go.bits .and .i64 (Go.bits .xor .i64 a1 a2) 63)) else (if a0.toList = ([115, 104, 108] : List UInt8) then (if a2 < 6 then (if 0 ≤ a2 then (some (Go.bits .and .i64 (shl .i64 a1 a2) 63)) else (none)) else (some (Go.bits .and .i64 0 63))) else (if a0.toList = ([115, 104, 114] : List UInt8) then (if a2 < 6 then (if 0 ≤ a2 then (some (Go.bits .and .i64 (shr .i64 a1 a2) 63)) else (none)) else (some (Go.bits .and .i64 0 63))) else (if a0.toList = ([108, 101, 115, 115] : List UInt8) then (if a1 < a2 then (some (Go.bits .and .i64 1 63)) else (some (Go.bits .and .i64 0 63))) else (if a0.toList = ([101, 113] : List UInt8) then (if a1 = a2 then (some (Go.bits .and .i64 1 63)) else (some (Go.bits .and .i64 0 63))) else (some (Go.bits .and .i64 0 63)))))))))))))) = some r := h
 clear h
 by_cases c4 : a0.toList = ([110, 111, 116] : List UInt8)
 · rw [if_pos c4] at H
   have c4b0 := beq_iff_eq.mpr c4
   have c4b1 := bne_eq_false_iff_eq.mpr c4
   clear c4
   obtain rfl := zsi H
   go_enter Try.func173, Try.ntmps173
   go_wp2
   go_ret
   exact ⟨zq6, zq7⟩
 rw [if_neg c4] at H
 have c4b0 := beq_eq_false_iff_ne.mpr c4
 have c4b1 := bne_iff_ne.mpr c4
 by_cases c5 : a0.toList = ([110, 101, 103] : List UInt8)
 · rw [if_pos c5] at H
   have c5b0 := beq_iff_eq.mpr c5
   have c5b1 := bne_eq_false_iff_eq.mpr c5
   clear c5
   obtain rfl := zsi H
   go_enter Try.func173, Try.ntmps173
   go_wp2
   go_ret
   exact ⟨zq6, zq7⟩
 rw [if_neg c5] at H
 have c5b0 := beq_eq_false_iff_ne.mpr c5
 have c5b1 := bne_iff_ne.mpr c5
 by_cases c6 : a0.toList = ([97, 100, 100] : List UInt8)
 · rw [if_pos c6] at H
   have c6b0 := beq_iff_eq.mpr c6
   have c6b1 := bne_eq_false_iff_eq.mpr c6
   clear c6
   obtain rfl := zsi H
   go_enter Try.func173, Try.ntmps173
   go_wp2
   go_ret
   exact ⟨zq6, zq7⟩
 rw [if_neg c6] at H
 have c6b0 := beq_eq_false_iff_ne.mpr c6
 have c6b1 := bne_iff_ne.mpr c6
 by_cases c7 : a0.toList = ([115, 117, 98] : List UInt8)
 · rw [if_pos c7] at H
   have c7b0 := beq_iff_eq.mpr c7
   have c7b1 := bne_eq_false_iff_eq.mpr c7
   clear c7
   obtain rfl := zsi H
   go_enter Try.func173, Try.ntmps173
   go_wp2
   go_ret
   exact ⟨zq6, zq7⟩
 rw [if_neg c7] at H
 have c7b0 := beq_eq_false_iff_ne.mpr c7
 have c7b1 := bne_iff_ne.mpr c7
 by_cases c8 : a0.toList = ([109, 117, 108] : List UInt8)
 · rw [if_pos c8] at H
   have c8b0 := beq_iff_eq.mpr c8
   have c8b1 := bne_eq_false_iff_eq.mpr c8
   clear c8
   obtain rfl := zsi H
   go_enter Try.func173, Try.ntmps173
   go_wp2
   go_ret
   exact ⟨zq6, zq7⟩
 rw [if_neg c8] at H
 have c8b0 := beq_eq_false_iff_ne.mpr c8
 have c8b1 := bne_iff_ne.mpr c8
 by_cases c9 : a0.toList = ([97, 110, 100] : List UInt8)
 · rw [if_pos c9] at H
   have c9b0 := beq_iff_eq.mpr c9
   have c9b1 := bne_eq_false_iff_eq.mpr c9
   clear c9
   obtain rfl := zsi H
   go_enter Try.func173, Try.ntmps173
   go_wp2
   go_ret
   exact ⟨zq6, zq7⟩
 rw [if_neg c9] at H
 have c9b0 := beq_eq_false_iff_ne.mpr c9
 have c9b1 := bne_iff_ne.mpr c9
 by_cases c10 : a0.toList = ([111, 114] : List UInt8)
 · rw [if_pos c10] at H
   have c10b0 := beq_iff_eq.mpr c10
   have c10b1 := bne_eq_false_iff_eq.mpr c10
   clear c10
   obtain rfl := zsi H
   go_enter Try.func173, Try.ntmps173
   go_wp2
   go_ret
   exact ⟨zq6, zq7⟩
 rw [if_neg c10] at H
 have c10b0 := beq_eq_false_iff_ne.mpr c10
 have c10b1 := bne_iff_ne.mpr c10
 by_cases c11 : a0.toList = ([120, 111, 114] : List UInt8)
 · rw [if_pos c11] at H
   have c11b0 := beq_iff_eq.mpr c11
   have c11b1 := bne_eq_false_iff_eq.mpr c11
   clear c11
   obtain rfl := zsi H
   go_enter Try.func173, Try.ntmps173
   go_wp2
   go_ret
   exact ⟨zq6, zq7⟩
 rw [if_neg c11] at H
 have c11b0 := beq_eq_false_iff_ne.mpr c11
 have c11b1 := bne_iff_ne.mpr c11
 by_cases c12 : a0.toList = ([115, 104, 108] : List UInt8)
 · rw [if_pos c12] at H
   have c12b0 := beq_iff_eq.mpr c12
   have c12b1 := bne_eq_false_iff_eq.mpr c12
   clear c12
   revert H
   refine zit (fun c13 H => ?_) fun c13 H => ?_
   rotate_left
   · obtain rfl := zsi H
     go_enter Try.func173, Try.ntmps173
     go_wp2
     go_ret
     exact ⟨zq6, zq7⟩
   by_cases c14 : 0 ≤ a2
   rotate_left
   · rw [if_neg c14] at H
     exact absurd H (by simp)
   rw [if_pos c14] at H
   have c14b0 := eq_true c14
   have c14b1 := zdt c14
   clear c14
   obtain ⟨ji15, hji15⟩ : ∃ j_ : Int, (shl .i64 a1 a2) = j_ := ⟨_, rfl⟩
   replace H : (some (Go.bits .and .i64 (ji15) 63)) = some r := by first | (rw [hji15] at H; exact H) | (simp only [hji15] at H ⊢; exact H)
   have hji15_ : (IntKind.i64.wrap (a1 * 2 ^ min a2.toNat 64)) = ji15 := hji15
   have hji15z : a2 ≤ 64 → (IntKind.i64.wrap (a1 * 2 ^ a2.toNat)) = ji15 := zrn hji15
   have hji15y : (wrap64 (a1 * 2 ^ min a2.toNat 64)) = ji15 := (zfx _).symm.trans hji15_
   have hji15x : a2 ≤ 64 → (wrap64 (a1 * 2 ^ a2.toNat)) = ji15 := fun h_ => (zfx _).symm.trans (hji15z h_)
   obtain rfl := zsi H
   go_enter Try.func173, Try.ntmps173
   go_wp2
   go_ret
   exact ⟨by first | rfl | (simp; done) | (simp only [← hji15] <;> (first | rfl | simp)) | (simp [*]; done), zq7⟩
 rw [if_neg c12] at H
 have c12b0 := beq_eq_false_iff_ne.mpr c12
 have c12b1 := bne_iff_ne.mpr c12
 by_cases c16 : a0.toList = ([115, 104, 114] : List UInt8)
 · rw [if_pos c16] at H
   have c16b0 := beq_iff_eq.mpr c16
   have c16b1 := bne_eq_false_iff_eq.mpr c16
   clear c16
   revert H
   refine zit (fun c17 H => ?_) fun c17 H => ?_
   rotate_left
   · obtain rfl := zsi H
     go_enter Try.func173, Try.ntmps173
     go_wp2
     go_ret
     exact ⟨zq6, zq7⟩
   by_cases c18 : 0 ≤ a2
   rotate_left
   · rw [if_neg c18] at H
     exact absurd H (by simp)
   rw [if_pos c18] at H
   have c18b0 := eq_true c18
   have c18b1 := zdt c18
   clear c18
   obtain ⟨ji19, hji19⟩ : ∃ j_ : Int, (shr .i64 a1 a2) = j_ := ⟨_, rfl⟩
   replace H : (some (Go.bits .and .i64 (ji19) 63)) = some r := by first | (rw [hji19] at H; exact H) | (simp only [hji19] at H ⊢; exact H)
   have hji19_ : (a1 / 2 ^ min a2.toNat 64) = ji19 := hji19
   have hji19z : a2 ≤ 64 → (a1 / 2 ^ a2.toNat) = ji19 := zro hji19
   obtain rfl := zsi H
   go_enter Try.func173, Try.ntmps173
   go_wp2
   go_ret
   exact ⟨by first | rfl | (simp; done) | (simp only [← hji19] <;> (first | rfl | simp)) | (simp [*]; done), zq7⟩
 rw [if_neg c16] at H
 have c16b0 := beq_eq_false_iff_ne.mpr c16
 have c16b1 := bne_iff_ne.mpr c16
 by_cases c20 : a0.toList = ([108, 101, 115, 115] : List UInt8)
 · rw [if_pos c20] at H
   have c20b0 := beq_iff_eq.mpr c20
   have c20b1 := bne_eq_false_iff_eq.mpr c20
   clear c20
   by_cases c21 : a1 < a2
   · rw [if_pos c21] at H
     have c21b0 := zdt c21
     clear c21
     obtain rfl := zsi H
     go_enter Try.func173, Try.ntmps173
     go_wp2
     go_ret
     exact ⟨zq6, zq7⟩
   rw [if_neg c21] at H
   have c21b0 := zdf c21
   clear c21
   obtain rfl := zsi H
   go_enter Try.func173, Try.ntmps173
   go_wp2
   go_ret
   exact ⟨zq6, zq7⟩
 rw [if_neg c20] at H
 have c20b0 := beq_eq_false_iff_ne.mpr c20
 have c20b1 := bne_iff_ne.mpr c20
 by_cases c22 : a0.toList = ([101, 113] : List UInt8)
 rotate_left
 · rw [if_neg c22] at H
   have c22b0 := beq_eq_false_iff_ne.mpr c22
   have c22b1 := bne_iff_ne.mpr c22
   obtain rfl := zsi H
   go_enter Try.func173, Try.ntmps173
   go_wp2
   go_ret
   exact ⟨zq6, zq7⟩
 rw [if_pos c22] at H
 have c22b0 := beq_iff_eq.mpr c22
 have c22b1 := bne_eq_false_iff_eq.mpr c22
 clear c22
 by_cases c23 : a1 = a2
 rotate_left
 · rw [if_neg c23] at H
   have c23b0 := beq_eq_false_iff_ne.mpr c23
   have c23b1 := bne_iff_ne.mpr c23
   obtain rfl := zsi H
   go_enter Try.func173, Try.ntmps173
   go_wp2
   go_ret
   exact ⟨zq6, zq7⟩
 rw [if_pos c23] at H
 have c23b0 := beq_iff_eq.mpr c23
 have c23b1 := bne_eq_false_iff_eq.mpr c23
 clear c23
 obtain rfl := zsi H
 go_enter Try.func173, Try.ntmps173
 go_wp2
 go_ret
 exact ⟨zq6, zq7⟩
def zgb (a0 : ByteArray) : Option (Bool) := if a0.toList = ([110, 111, 116] : List UInt8) then (some true) else (some (a0.toList == ([110, 101, 103] : List UInt8)))
set_option maxHeartbeats 8000000 in
set_option maxRecDepth 100000 in
theorem zdg (a0 : ByteArray) (r : Bool) (w : World) (h : zgb a0 = some r) :
   Calls Try.prog 141 #[.string a0] w fun e w' => e = .returned (.bool r) ∧ Drawn0 w w' := by
 have H : (if a0.toList = ([110, 111, 116] : List UInt8) then (some true) else (some (a0.toList == ([110, 101, 103] : List UInt8)))) = some r := h
 clear h
 by_cases c2 : a0.toList = ([110, 111, 116] : List UInt8)
 · rw [if_pos c2] at H
   have c2b0 := beq_iff_eq.mpr c2
   have c2b1 := bne_eq_false_iff_eq.mpr c2
   clear c2
   obtain rfl := zsi H
   go_enter Try.func141, Try.ntmps141
   go_wp2
   go_ret
   exact ⟨zq6, zq7⟩
 · rw [if_neg c2] at H
   have c2b0 := beq_eq_false_iff_ne.mpr c2
   have c2b1 := bne_iff_ne.mpr c2
   obtain rfl := zsi H
   go_enter Try.func141, Try.ntmps141
   go_wp2
   go_ret
   exact ⟨zq6, zq7⟩
end Go.Proofs.Ytkfkbmlbpeojaaa.Q
end
