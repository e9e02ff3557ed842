/- Proved here: contracts of functions that the law FnExactOrderedExpr reaches, and lemmas on what they compute; texts of this session and the printed words of the kit that they lean on, cut down and put together by its program link.py. Conditions: as each states. -/
import Derived.Carry
import Derived.Deep.Slices
import Derived.Laws.EntriesVeiled
import Derived.ProofKit
import Derived.Test.YtkfkbmlbpeojaaaZFnExactOrderedExpr1
import Derived.Test.YtkfkbmlbpeojaaaZFnExactOrderedExpr2
import Derived.Test.YtkfkbmlbpeojaaaZFnExactOrderedExpr3
section
namespace Go.Proofs.Ytkfkbmlbpeojaaa.Q
open Go.RowKit Go.Proofs.YtkfkbmlbpeojaaaW.PrintWords Go.Proofs.YtkfkbmlbpeojaaaW.PrintLast Go.Proofs.YtkfkbmlbpeojaaaW.PrintMore
attribute [local go_sem] max2_int min2_int max_two min_two max_three min_three max_four min_four
set_option linter.unusedVariables false
set_option linter.unusedSimpArgs false
attribute [local go_sem high] eqA72
set_option linter.unusedVariables false
set_option linter.unusedSimpArgs false
def exEq (x y : S72) : Bool := x.f0.toList == y.f0.toList && (x.f1 == y.f1 && (x.f2 == y.f2 && (x.f3 == y.f3)))
def exIx (n : S72) : List S72 → Int → Int
 | [], _ => -1
 | x :: xs, i => if exEq x n = true then i else exIx n xs (i + 1)
def exPut (n : S72) (out : List S72) : List S72 × Int := if exIx n out 0 < 0 then (out ++ [n], out.length) else (out, exIx n out 0)
structure ExX (w0 : World) (gb r cr m : Nat) (s : List S72 × List Int) (vo : Value) (W : World) : Prop where
 below : Below w0.heap.size w0 W
 bb : W.heap[gb]? = some (.cells #[vo, .bool true] 147 (0, 0))
 lo : w0.heap.size ≤ gb
 out : Kd.R k72 72 W w0.heap.size (fun k => k ≠ gb ∧ k ≠ r) vo s.1
 rne : r ≠ gb
 nam : Kd.R (Kd.int .i64) 3 W w0.heap.size (fun k => k = r) (.slice (some ⟨r, 0, none⟩) m cr) s.2
section
variable {w0 : World} {gb r cr m : Nat} {s : List S72 × List Int} {vo v : Value} {W W1 : World}
theorem ExX.step (h : ExX w0 gb r cr m s vo W) (hb : Below W.heap.size W W1) : ExX w0 gb r cr m s vo W1 :=
 ⟨below_step h.below hb, blk_below h.bb hb, h.lo, zRb h.out hb, h.rne, zRb h.nam hb⟩
theorem ExX.setn (h : ExX w0 gb r cr m s vo W) (i x : Int) : ExX w0 gb r cr m (s.1, s.2.set i.toNat x) vo (W.setCell ⟨r, i.toNat, none⟩ (.int .i64 x)) :=
 ⟨h.below.setCell (p := ⟨r, i.toNat, none⟩) (Kd.R_base h.nam r rfl) _, blk_far h.bb (fun e => h.rne (by simpa using e.symm)) _, h.lo, Kd.R_far h.out (p := ⟨r, i.toNat, none⟩) (fun k hk => hk.2) _, h.rne, Kd.R_putn h.nam i x⟩
theorem ExX.append (h : ExX w0 gb r cr m s vo W) {vo' : Value} {ys : List S72} (hR : Kd.R k72 72 W1 w0.heap.size (fun k => k ≠ gb ∧ k ≠ r) vo' ys) (hb : Below w0.heap.size w0 W1) (hg : W.grownBy W1 vo.ownBlock) : ExX w0 gb r cr m (ys, s.2) vo' (W1.setCell ⟨gb, 0, none⟩ vo') := by
 have bb : W1.heap[gb]? = _ := (hg.block gb (blk_lt h.bb) (fun e => (h.out.1 gb e.symm).1 rfl)).trans h.bb
 exact ⟨hb.setCell (p := ⟨gb, 0, none⟩) h.lo _, by simpa using blk_set bb 0 vo', h.lo, Kd.R_far hR (p := ⟨gb, 0, none⟩) (fun k hk => hk.1) _, h.rne, Kd.R_far (Kd.R_grown h.nam hg (fun k hk e => (h.out.1 k e.symm).2 hk)) (p := ⟨gb, 0, none⟩) (fun k hk => by rw [hk]; exact h.rne) _⟩
end
def ExA (w0 : World) (gb r : Nat) (wr : World) (vo : Value) (ys : List S72) (V : World) (v' : Value) : Prop :=
 ∃ V1, Below wr.heap.size wr V1 ∧ Below w0.heap.size w0 V ∧ V1.grownBy V vo.ownBlock ∧ (v'.ownBlock = vo.ownBlock ∨ ∃ b, v'.ownBlock = some b ∧ V1.heap.size ≤ b) ∧ Kd.R k72 72 V w0.heap.size (fun k => k ≠ gb ∧ k ≠ r) v' ys
set_option maxHeartbeats 4000000 in
set_option maxRecDepth 100000 in
theorem exPut_calls {w0 : World} {gb r cr m : Nat} (s : List S72 × List Int) (vo : Value) (W : World) (hX : ExX w0 gb r cr m s vo W) (n0 : ByteArray) (n1 n2 n3 : Int) (hl : s.1.length < 1048576) :
   Calls Try.prog 178 #[.pointer (some ⟨gb, 0, none⟩), .agg #[.string n0, .int .i64 n1, .int .i64 n2, .int .i64 n3]] W fun x W' => ∃ vo', x = .returned (.int .i64 (exPut ⟨n0, n1, n2, n3⟩ s.1).2) ∧ ExX w0 gb r cr m ((exPut ⟨n0, n1, n2, n3⟩ s.1).1, s.2) vo' W' ∧ ShFr gb r vo W vo' W' := by
 obtain ⟨Ao, co, rfl⟩ := Kd.R_slice hX.out
 have hCo := (zRr hX.out).2.2
 have q0 := blk_cell hX.bb 0
 have q1 := blk_cell hX.bb 1
 have HX := zA hX
 clear hX
 have HCO := zA hCo
 clear hCo
 go_enter Try.func178, Try.ntmps178
 go_wp2_with ((with_reducible refine gate_dst (N := 3) rfl ?_); refine box_event ?hg (N := 3) ?hd (cs := #[.string n0, .int .i64 n1, .int .i64 n2, .int .i64 n3]) (t := 72) ?hr ?_; (case hd => rfl); (case hg => rfl); (case hr => go_simp <;> rfl); intro g hg w4 hbox hb; have HX4 := zA (HX.out.step hb); have HG := zA hbox; have HGE := zA (Nat.le_of_eq hg.symm); have HB4 := zA hb; have q0 := blk_cell HX4.out.bb 0; have q1 := blk_cell HX4.out.bb 1; clear hg hbox hb)
 obtain ⟨L, hL⟩ : ∃ L, L = exIx ⟨n0, n1, n2, n3⟩ s.1 0 := ⟨_, rfl⟩
 have HL := zA hL
 clear hL
 go_loopw [5, 6, 16] (fun v5 v6 v16 wr => ∃ u : Nat, v16 = .int .i64 (u : Int) ∧ u ≤ s.1.length ∧ Aside0 (Below w4.heap.size w4 wr) ∧ Aside0 (exIx ⟨n0, n1, n2, n3⟩ (s.1.drop u) u = L)) (fun _ _ v16 _ => s.1.length - (intOf v16).toNat)
 case atStart => exact ⟨0, rfl, Nat.zero_le _, ⟨Below.refl _ _⟩, ⟨by rw [List.drop_zero]; exact HL.out.symm⟩⟩
 obtain ⟨u, rfl, hu, HBr, HS⟩ := hrel
 by_cases hlt : u < s.1.length
 · have d1 : decide ((u : Int) < s.1.length) = true := zdt (by omega)
   have d2 : (0 : Int) ≤ (u : Int) := by omega
   have d3 : (u : Int) < s.1.length := by omega
   obtain ⟨ad, eA, x0, x1, x2, x3⟩ := at_T72 (zCb (zRr HX4.out.out).2.2 HBr.out) (u : Int) d2 d3
   rw [Int.toNat_natCast] at x0 x1 x2 x3
   subst eA
   have hg := blk_below HG.out HBr.out
   obtain ⟨x, hx⟩ : ∃ x, x = rd_T72 s.1 (u : Int) := ⟨_, rfl⟩
   rw [← hx] at x0 x1 x2 x3
   have hdr : s.1.drop u = x :: s.1.drop (u + 1) := by
     rw [List.drop_eq_getElem_cons hlt, hx]
     unfold rd_T72
     rw [Int.toNat_natCast, List.getD_eq_getElem?_getD, List.getElem?_eq_getElem hlt]
     rfl
   have hs := HS.out
   rw [hdr] at hs
   unfold exIx at hs
   have t0 : ∀ V, Below wr.heap.size wr V → V.cell? ⟨g, 0, none⟩ = some (.string n0) := fun V h => blk_cell (blk_below hg h) 0
   have t1 : ∀ V, Below wr.heap.size wr V → V.cell? ⟨g, 1, none⟩ = some (.int .i64 n1) := fun V h => blk_cell (blk_below hg h) 1
   have t2 : ∀ V, Below wr.heap.size wr V → V.cell? ⟨g, 2, none⟩ = some (.int .i64 n2) := fun V h => blk_cell (blk_below hg h) 2
   have t3 : ∀ V, Below wr.heap.size wr V → V.cell? ⟨g, 3, none⟩ = some (.int .i64 n3) := fun V h => blk_cell (blk_below hg h) 3
   have hb := zba (Below.refl wr.heap.size wr) (.cells #[.string x.f0, .int .i64 x.f1, .int .i64 x.f2, .int .i64 x.f3] 72)
   have y0 := t0 _ hb
   have y1 := t1 _ hb
   have y2 := t2 _ hb
   have y3 := t3 _ hb
   have HBA := zA (below_step HBr.out hb)
   clear t0 t1 t2 t3 hb hg hdr hx HS
   by_cases c : exEq x ⟨n0, n1, n2, n3⟩ = true
   rotate_left
   · rw [if_neg c] at hs
     have HS := zA hs
     have d4 : (x.f0.toList == n0.toList && (x.f1 == n1 && (x.f2 == n2 && (x.f3 == n3)))) = false := by simpa [exEq] using c
     clear hs c
     go_wp2_with fail
     go_roundw
     case rel => exact ⟨u + 1, by go_num, by omega, HBA, ⟨by rw [show ((u + 1 : Nat) : Int) = (u : Int) + 1 from rfl]; exact HS.out⟩⟩
     case measure => simp [intOf]; omega
   rw [if_pos c] at hs
   have HS := zA hs
   have d4 : (x.f0.toList == n0.toList && (x.f1 == n1 && (x.f2 == n2 && (x.f3 == n3)))) = true := c
   clear hs c
   go_wp2_with fail
   go_ret
   have e : exPut ⟨n0, n1, n2, n3⟩ s.1 = (s.1, (u : Int)) := by
     unfold exPut
     rw [← HL.out, ← HS.out, if_neg (by omega)]
   rw [e]
   exact ⟨_, rfl, HX4.out.step HBA.out, ((ShFr.refl _ _ _ _).step HB4.out).step HBA.out⟩
 obtain rfl : u = s.1.length := by omega
 have d1 : decide ((s.1.length : Int) < s.1.length) = false := zdf (by omega)
 go_wp2_with fail
 have hs := HS.out
 rw [List.drop_length] at hs
 have HS' := zA (show (-1 : Int) = L from hs)
 clear hs HS
 have HX5 := zA (HX4.out.step HBr.out)
 have HG5 := zA (blk_below HG.out HBr.out)
 refine ri_region [[], [], [1], [1, 2], [1, 2, 3], [], [5], [1, 2, 3, 4, 5, 6], [0, 1, 2, 3, 4, 5, 6, 7], [0, 1, 2, 3, 4, 5, 6, 7, 8], [0, 1, 2, 3, 4, 5, 6, 7, 8, 9]] [[8, 9, 10], [2, 3, 4, 7, 8, 9, 10], [3, 4, 7, 8, 9, 10], [4, 7, 8, 9, 10], [7, 8, 9, 10], [6, 7, 8, 9, 10], [7, 8, 9, 10], [8, 9, 10], [9, 10], [10], []]
   (fun L s_ V => (L 7 = false → Below wr.heap.size wr V) ∧ (L 7 = true → L 10 = false → ExA w0 gb r wr (.slice Ao s.1.length co) (s.1 ++ [(⟨n0, n1, n2, n3⟩ : S72)]) V (s_ 7)) ∧ (L 10 = true → ∃ V2, ExA w0 gb r wr (.slice Ao s.1.length co) (s.1 ++ [(⟨n0, n1, n2, n3⟩ : S72)]) V2 (s_ 7) ∧ V = V2.setCell ⟨gb, 0, none⟩ (s_ 7)) ∧
     (L 0 = true → s_ 0 = .pointer (some ⟨gb, 0, none⟩)) ∧ (L 1 = true → s_ 1 = .pointer (some ⟨gb, 0, none⟩)) ∧ (L 2 = true → s_ 2 = .pointer (some ⟨gb, 0, none⟩)) ∧ (L 3 = true → s_ 3 = .pointer (some ⟨gb, 0, none⟩)) ∧ (L 4 = true → s_ 4 = .slice Ao s.1.length co) ∧ (L 5 = true → s_ 5 = .agg #[.string n0, .int .i64 n1, .int .i64 n2, .int .i64 n3]) ∧
     (L 6 = true → L 7 = false → ∃ A c, s_ 6 = .slice A 1 c ∧ Kd.C k72 V A 1 [(⟨n0, n1, n2, n3⟩ : S72)]) ∧ (L 8 = true → s_ 8 = .pointer (some ⟨gb, 0, none⟩)) ∧ (L 9 = true → s_ 9 = .pointer (some ⟨gb, 0, none⟩)))
   rfl (fun _ _ _ _ _ h => h) (by kernel_rfl) ?_ ⟨?_, ?_, ?_, ?_, ?_, ?_, ?_, ?_, ?_, ?_, ?_, trivial⟩ ?_
 · exact ⟨fun _ => below_drew (Below.refl _ _), (fun h => Bool.noConfusion h), (fun h => Bool.noConfusion h), (fun h => Bool.noConfusion h), (fun h => Bool.noConfusion h), (fun h => Bool.noConfusion h), (fun h => Bool.noConfusion h), (fun h => Bool.noConfusion h), (fun h => Bool.noConfusion h), (fun h => Bool.noConfusion h), (fun h => Bool.noConfusion h), (fun h => Bool.noConfusion h)⟩
 · rintro L s_ V hu hd hn ⟨hB, hA, hS, g0, g1, g2, g3, g4, g5, g6, g8, g9⟩ K hK
   refine value_ (N := some 26) (v := .pointer (some ⟨gb, 0, none⟩)) (w1 := V) (by rfl) rfl ?_ (hK _ _ ⟨hB, hA, hS, fun _ => rfl, g1, g2, g3, g4, g5, g6, g8, g9⟩)
   simp only [riFill, riGo, riCell, riFind, riMem, riNth, Nat.reduceBEq, Nat.reduceAdd, List.headD, List.tail, List.getD, List.getElem?_cons_zero, List.getElem?_cons_succ, Option.getD_some, cond_true, cond_false]
   go_simp
 · rintro L s_ V hu hd hn ⟨hB, hA, hS, g0, g1, g2, g3, g4, g5, g6, g8, g9⟩ K hK
   refine value_ (N := some 27) (v := .pointer (some ⟨gb, 0, none⟩)) (w1 := V) (by rfl) rfl ?_ (hK _ _ ⟨hB, hA, hS, g0, fun _ => rfl, g2, g3, g4, g5, g6, g8, g9⟩)
   simp only [riFill, riGo, riCell, riFind, riMem, riNth, Nat.reduceBEq, Nat.reduceAdd, List.headD, List.tail, List.getD, List.getElem?_cons_zero, List.getElem?_cons_succ, Option.getD_some, cond_true, cond_false]
   go_simp
 · rintro L s_ V hu hd hn ⟨hB, hA, hS, g0, g1, g2, g3, g4, g5, g6, g8, g9⟩ K hK
   have e1 := g1 hd
   refine value_ (N := some 28) (v := .pointer (some ⟨gb, 0, none⟩)) (w1 := V) (by rfl) rfl ?_ (hK _ _ ⟨hB, hA, hS, g0, g1, fun _ => rfl, g3, g4, g5, g6, g8, g9⟩)
   simp only [riFill, riGo, riCell, riFind, riMem, riNth, Nat.reduceBEq, Nat.reduceAdd, List.headD, List.tail, List.getD, List.getElem?_cons_zero, List.getElem?_cons_succ, Option.getD_some, cond_true, cond_false]
   rw [e1]
   go_simp
 · rintro L s_ V hu hd hn ⟨hB, hA, hS, g0, g1, g2, g3, g4, g5, g6, g8, g9⟩ K hK
   have e2 := g2 hd.2
   refine value_ (N := some 29) (v := .pointer (some ⟨gb, 0, none⟩)) (w1 := V) (by rfl) rfl ?_ (hK _ _ ⟨hB, hA, hS, g0, g1, g2, fun _ => rfl, g4, g5, g6, g8, g9⟩)
   simp only [riFill, riGo, riCell, riFind, riMem, riNth, Nat.reduceBEq, Nat.reduceAdd, List.headD, List.tail, List.getD, List.getElem?_cons_zero, List.getElem?_cons_succ, Option.getD_some, cond_true, cond_false]
   rw [e2]
   go_simp
 · rintro L s_ V hu hd hn ⟨hB, hA, hS, g0, g1, g2, g3, g4, g5, g6, g8, g9⟩ K hK
   have e3 := g3 hd.2.2
   have hc := blk_cell (HX5.out.step (hB hn.1)).bb 0
   refine value_ (N := some 30) (v := .slice Ao s.1.length co) (w1 := V) (by rfl) rfl ?_ (hK _ _ ⟨hB, hA, hS, g0, g1, g2, g3, fun _ => rfl, g5, g6, g8, g9⟩)
   simp only [riFill, riGo, riCell, riFind, riMem, riNth, Nat.reduceBEq, Nat.reduceAdd, List.headD, List.tail, List.getD, List.getElem?_cons_zero, List.getElem?_cons_succ, Option.getD_some, cond_true, cond_false]
   rw [e3]
   go_simp
 · rintro L s_ V hu hd hn ⟨hB, hA, hS, g0, g1, g2, g3, g4, g5, g6, g8, g9⟩ K hK
   have hg' := blk_below HG5.out (hB hn.2.1)
   have y0 : V.cell? ⟨g, 0, none⟩ = some (.string n0) := blk_cell hg' 0
   have y1 : V.cell? ⟨g, 1, none⟩ = some (.int .i64 n1) := blk_cell hg' 1
   have y2 : V.cell? ⟨g, 2, none⟩ = some (.int .i64 n2) := blk_cell hg' 2
   have y3 : V.cell? ⟨g, 3, none⟩ = some (.int .i64 n3) := blk_cell hg' 3
   clear hg'
   refine value_ (N := some 31) (v := .agg #[.string n0, .int .i64 n1, .int .i64 n2, .int .i64 n3]) (w1 := V) (by rfl) rfl ?_ (hK _ _ ⟨hB, hA, hS, g0, g1, g2, g3, g4, fun _ => rfl, g6, g8, g9⟩)
   simp only [riFill, riGo, riCell, riFind, riMem, riNth, Nat.reduceBEq, Nat.reduceAdd, List.headD, List.tail, List.getD, List.getElem?_cons_zero, List.getElem?_cons_succ, Option.getD_some, cond_true, cond_false]
   go_simp
 · rintro L s_ V hu hd hn ⟨hB, hA, hS, g0, g1, g2, g3, g4, g5, g6, g8, g9⟩ K hK
   have e5 := g5 hd
   have hb := hB hn.1
   refine value_ (N := some 32) (v := .slice (some ⟨V.heap.size, 0, none⟩) 1 1) (w1 := V.alloc (.cells #[.string n0, .int .i64 n1, .int .i64 n2, .int .i64 n3] 72)) (by rfl) rfl ?_ (hK _ _ ⟨fun _ => zba hb _, fun h => absurd (h.symm.trans hn.1) (by simp), fun h => absurd (h.symm.trans hn.2.2.2) (by simp), g0, g1, g2, g3, g4, g5, fun _ _ => ⟨_, _, rfl, box_C (d := k72) (blk_new V _) (cs := [.string n0, .int .i64 n1, .int .i64 n2, .int .i64 n3]) rfl (k72_mk _ (⟨n0, n1, n2, n3⟩ : S72))⟩, g8, g9⟩)
   simp only [riFill, riGo, riCell, riFind, riMem, riNth, Nat.reduceBEq, Nat.reduceAdd, List.headD, List.tail, List.getD, List.getElem?_cons_zero, List.getElem?_cons_succ, Option.getD_some, cond_true, cond_false]
   rw [e5]
   go_simp
 · rintro L s_ V hu hd hn ⟨hB, hA, hS, g0, g1, g2, g3, g4, g5, g6, g8, g9⟩ K hK
   obtain ⟨h1, h2, h3, h4, h5, h6⟩ := hd
   have hb := hB hu
   have e4 := g4 h4
   obtain ⟨A6, c6, e6, hC6⟩ := g6 h6 hu
   have hX := HX5.out.step hb
   refine Kd.R_append_rows_step k72 (Rr := k72.K V) w0.heap.size (by rfl) _ _ 24 72 (.agg #[(.string ⟨#[]⟩), (.int .i64 0), (.int .i64 0), (.int .i64 0)]) 40 rfl Try.underlying24 info72 rfl (by decide) (by omega) (.slice Ao s.1.length co) s.1 [(⟨n0, n1, n2, n3⟩ : S72)] A6 1 c6 (fun k => k ≠ gb ∧ k ≠ r) (fun _ => False) e4 e6 hX.out hC6 (fun x cs h => by rw [k72_open h]; exact k72_mkM _ _ _ x) (fun _ hk => hk.elim) (fun k hk => by have a1 := blk_lt hX.bb; have a2 := Kd.R_lt hX.nam r rfl; exact ⟨by omega, by omega⟩) hX.below hX.below.size (by omega) ?_
   intro v1 w1 ho hb1 hgr hat
   exact hK _ _ ⟨(fun h => Bool.noConfusion h), fun _ _ => ⟨V, hb, hb1, hgr, hat, ho⟩, fun h => absurd (h.symm.trans hn.2.2) (by simp), g0, g1, g2, g3, g4, g5, fun _ h => Bool.noConfusion h, g8, g9⟩
 · rintro L s_ V hu hd hn ⟨hB, hA, hS, g0, g1, g2, g3, g4, g5, g6, g8, g9⟩ K hK
   have e0 := g0 hd.1
   refine value_ (N := some 34) (v := .pointer (some ⟨gb, 0, none⟩)) (w1 := V) (by rfl) rfl ?_ (hK _ _ ⟨hB, hA, hS, g0, g1, g2, g3, g4, g5, g6, fun _ => rfl, g9⟩)
   simp only [riFill, riGo, riCell, riFind, riMem, riNth, Nat.reduceBEq, Nat.reduceAdd, List.headD, List.tail, List.getD, List.getElem?_cons_zero, List.getElem?_cons_succ, Option.getD_some, cond_true, cond_false]
   rw [e0]
   go_simp
 · rintro L s_ V hu hd hn ⟨hB, hA, hS, g0, g1, g2, g3, g4, g5, g6, g8, g9⟩ K hK
   have e8 := g8 hd.2.2.2.2.2.2.2.2
   refine value_ (N := some 35) (v := .pointer (some ⟨gb, 0, none⟩)) (w1 := V) (by rfl) rfl ?_ (hK _ _ ⟨hB, hA, hS, g0, g1, g2, g3, g4, g5, g6, g8, fun _ => rfl⟩)
   simp only [riFill, riGo, riCell, riFind, riMem, riNth, Nat.reduceBEq, Nat.reduceAdd, List.headD, List.tail, List.getD, List.getElem?_cons_zero, List.getElem?_cons_succ, Option.getD_some, cond_true, cond_false]
   rw [e8]
   go_simp
 · rintro L s_ V hu hd hn ⟨hB, hA, hS, g0, g1, g2, g3, g4, g5, g6, g8, g9⟩ K hK
   have h7 := hd.2.2.2.2.2.2.2.1
   have e9 := g9 hd.2.2.2.2.2.2.2.2.2
   have hAP := hA h7 hu
   obtain ⟨V1, hb, hb1, hgr, hat, ho⟩ := hAP
   obtain ⟨A7, c7, e7⟩ := Kd.R_slice ho
   have hX := HX5.out.step hb
   have bb : V.heap[gb]? = _ := (hgr.block gb (blk_lt hX.bb) (fun e => (hX.out.1 gb e.symm).1 rfl)).trans hX.bb
   have b1 := blk_cell bb 0
   have b2 := blk_frozen bb 0
   refine skip_ (w1 := V.setCell ⟨gb, 0, none⟩ (s_ 7)) (by rfl) rfl ?_ (hK undef _ ⟨fun h => absurd (h.symm.trans h7) (by simp), fun _ h => absurd h (by simp [riUp]), fun _ => ⟨V, ⟨V1, hb, hb1, hgr, hat, ho⟩, rfl⟩, g0, g1, g2, g3, g4, g5, fun _ h => absurd (h.symm.trans h7) (by simp), g8, g9⟩)
   simp only [riFill, riGo, riCell, riFind, riMem, riNth, Nat.reduceBEq, Nat.reduceAdd, List.headD, List.tail, List.getD, List.getElem?_cons_zero, List.getElem?_cons_succ, Option.getD_some, cond_true, cond_false]
   rw [e9, e7]
   clear bb hgr hat ho hb1 hb hX
   go_simp
 · rintro L s_ V hL ⟨hB, hA, hS, g0, g1, g2, g3, g4, g5, g6, g8, g9⟩
   obtain ⟨V2, ⟨V1, hb, hb1, hgr, hat, ho⟩, rfl⟩ := hS (hL 10 rfl)
   obtain ⟨A7, c7, e7⟩ := Kd.R_slice ho
   have HX6 := zA ((HX5.out.step hb).append ho hb1 hgr)
   have HF6 := zA (((((ShFr.refl gb r (.slice Ao s.1.length co) W).step HB4.out).step HBr.out).step hb).append hgr hat)
   have q2 := blk_cell HX6.out.bb 0
   rw [e7] at HX6 HF6 q2 ⊢
   clear hb hb1 hgr hat ho hB hA hS g0 g1 g2 g3 g4 g5 g6 g8 g9
   simp only [riFill, riGo, riCell, riFind, riMem, riNth, Nat.reduceBEq, Nat.reduceAdd, List.headD, List.tail, List.getD, List.getElem?_cons_zero, List.getElem?_cons_succ, Option.getD_some, cond_true, cond_false]
   generalize V2.setCell ⟨gb, 0, none⟩ (.slice A7 (s.1 ++ [(⟨n0, n1, n2, n3⟩ : S72)]).length c7) = X at HX6 HF6 q2 ⊢
   go_wp2_with fail
   go_ret
   have e : exPut ⟨n0, n1, n2, n3⟩ s.1 = (s.1 ++ [⟨n0, n1, n2, n3⟩], (s.1.length : Int)) := by
     unfold exPut
     rw [← HL.out, ← HS'.out, if_pos (by omega)]
   rw [e]
   exact ⟨_, rfl, HX6.out, HF6.out⟩
set_option linter.unusedVariables false
set_option linter.unusedSimpArgs false
def exW (k : Nat) (e : List S72) : Nat → Int → List S72 × List Int → Option ((List S72 × List Int) × Int)
 | 0, _, _ => none
 | d + 1, i, s => if 0 ≤ i ∧ i < e.length then (if rd s.2 i ≥ 0 then some (s, rd s.2 i) else (spec_exParts.f k (rd_T72 e i).f0 (rd_T72 e i).f1 (rd_T72 e i).f2 (rd_T72 e i).f3).bind fun ps => if ps.length < 1048576 then
     (if 0 < ps.length then exW k e d (rd_T72 e i).f1 s else some (s, 0)).bind fun r1 => (if 1 < ps.length then exW k e d (rd_T72 e i).f2 r1.1 else some (r1.1, 0)).bind fun r2 => if r2.1.1.length < 1048576 then
       some (((exPut ⟨(rd_T72 e i).f0, r1.2, r2.2, (rd_T72 e i).f3⟩ r2.1.1).1, r2.1.2.set i.toNat (exPut ⟨(rd_T72 e i).f0, r1.2, r2.2, (rd_T72 e i).f3⟩ r2.1.1).2), (exPut ⟨(rd_T72 e i).f0, r1.2, r2.2, (rd_T72 e i).f3⟩ r2.1.1).2) else none else none) else none
theorem kOwn {W : World} {base : Nat} {ok : Nat → Prop} {v : Value} {xs : List S72} (h : Kd.R k72 72 W base ok v xs) : Kd.R k72 72 W base (fun k => some k = v.ownBlock) v xs := by
 obtain ⟨h0, inner, ho, hr⟩ := h
 exact ⟨fun k hk => hk.symm, inner, ho, hr.imp_ (fun x cs hp => by rw [k72_openM hp]; exact k72_mkM _ _ _ x)⟩
structure ExN (w0 : World) (gb r cr m g : Nat) (W : World) (vo : Value) (f0 : ByteArray) (f3 : Int) (s : List S72 × List Int) (v : Value) (a b : Int) (V : World) : Prop where
 x : ExX w0 gb r cr m s v V
 box : V.heap[g]? = some (.cells #[.string f0, .int .i64 a, .int .i64 b, .int .i64 f3] 72 (0, 0))
 ge : W.heap.size ≤ g
 lo : w0.heap.size ≤ g
 ne : g ≠ gb ∧ g ≠ r
 own : some g ≠ v.ownBlock
 fr : ShFr gb r vo W v V
section
variable {w0 : World} {gb r cr m g : Nat} {W : World} {vo : Value} {f0 : ByteArray} {f3 : Int} {s : List S72 × List Int} {v : Value} {a b : Int} {V : World}
theorem ExN.step (h : ExN w0 gb r cr m g W vo f0 f3 s v a b V) {V1 : World} (hb : Below V.heap.size V V1) : ExN w0 gb r cr m g W vo f0 f3 s v a b V1 :=
 ⟨h.x.step hb, blk_below h.box hb, h.ge, h.lo, h.ne, h.own, h.fr.step hb⟩
theorem ExN.walked (h : ExN w0 gb r cr m g W vo f0 f3 s v a b V) {s1 : List S72 × List Int} {v1 : Value} {V1 : World} (hX : ExX w0 gb r cr m s1 v1 V1) (hF : ShFr gb r v V v1 V1) : ExN w0 gb r cr m g W vo f0 f3 s1 v1 a b V1 := by
 have hlt := blk_lt h.box
 refine ⟨hX, (hF.keep g hlt h.ne.2 h.ne.1 h.own).trans h.box, h.ge, h.lo, h.ne, fun e => ?_, h.fr.trans hF⟩
 rcases hF.own g e.symm with e' | e'
 · exact h.own e'.symm
 · omega
theorem ExN.set (h : ExN w0 gb r cr m g W vo f0 f3 s v a b V) (j : Nat) (u : Value) (a' b' : Int) (hc : (#[.string f0, .int .i64 a, .int .i64 b, .int .i64 f3] : Array Value).setIfInBounds j u = #[.string f0, .int .i64 a', .int .i64 b', .int .i64 f3]) : ExN w0 gb r cr m g W vo f0 f3 s v a' b' (V.setCell ⟨g, j, none⟩ u) := by
 refine ⟨⟨h.x.below.setCell (p := ⟨g, j, none⟩) h.lo _, blk_far h.x.bb (fun e => h.ne.1 (by simpa using e.symm)) _, h.x.lo, Kd.R_mono (Kd.R_far (kOwn h.x.out) (p := ⟨g, j, none⟩) (fun k hk e => h.own (by rw [← hk]; exact congrArg some e.symm)) _) (fun k hk => h.x.out.1 k hk.symm), h.x.rne, Kd.R_far h.x.nam (p := ⟨g, j, none⟩) (fun k hk => by rw [hk]; exact fun e => h.ne.2 e.symm) _⟩, ?_, h.ge, h.lo, h.ne, h.own, ?_⟩
 · rw [← hc]
   exact blk_set h.box j u
 · have hg := h.ge
   exact ⟨Nat.le_trans h.fr.size ((Below.refl 0 V).setCell (p := ⟨g, j, none⟩) (Nat.zero_le _) u).size, fun k hk h1 h2 h3 => (Below.heap_setCell V ⟨g, j, none⟩ u k (show k ≠ g by omega)).trans (h.fr.keep k hk h1 h2 h3), h.fr.own⟩
end
set_option maxHeartbeats 8000000 in
set_option maxRecDepth 100000 in
theorem exOnce (k : Nat) {w0 : World} {A0 : Option Addr} {c0 : Nat} {e : List S72} {gb r cr : Nat} (hC : Kd.C k72 w0 A0 e.length e) : ∀ (d : Nat) (i : Int) (s s' : List S72 × List Int) (x : Int) (vo : Value) (W : World), ExX w0 gb r cr e.length s vo W → exW k e d i s = some (s', x) →
   Calls Try.prog 144 #[.pointer (some ⟨gb, 0, none⟩), .slice A0 e.length c0, .int .i64 i, .slice (some ⟨r, 0, none⟩) e.length cr] W fun y W' => y = .returned (.int .i64 x) ∧ ∃ vo', ExX w0 gb r cr e.length s' vo' W' ∧ ShFr gb r vo W vo' W' := by
 have HC := zA hC
 clear hC
 intro d
 induction d with
 | zero => intro i s s' x vo W hX h; cases h
 | succ d ih =>
 intro i s s' x vo W hX h
 have HIH := zA ih
 clear ih
 unfold exW at h
 by_cases c1 : 0 ≤ i ∧ i < e.length
 rotate_left
 · rw [if_neg c1] at h
   cases h
 rw [if_pos c1] at h
 obtain ⟨c2, c3⟩ := c1
 obtain ⟨p0, p1⟩ := Kd.R_celln 0 hX.nam i c2 c3
 have HX := zA hX
 clear hX
 by_cases hn : rd s.2 i ≥ 0
 · rw [if_pos hn] at h
   obtain ⟨rfl, rfl⟩ := Prod.mk.inj (zsi h)
   clear h
   have d1 : decide (0 ≤ rdOf 0 s.2 i) = true := zdt hn
   clear hn
   go_enter Try.func144, Try.ntmps144
   go_wp2_with fail
   go_ret
   exact ⟨rfl, vo, HX.out, ShFr.refl _ _ _ _⟩
 rw [if_neg hn] at h
 have d1 : decide (0 ≤ rdOf 0 s.2 i) = false := zdf hn
 clear hn
 obtain ⟨ps, hps, h⟩ := Option.bind_eq_some_iff.1 h
 by_cases hpl : ps.length < 1048576
 rotate_left
 · rw [if_neg hpl] at h
   cases h
 rw [if_pos hpl] at h
 obtain ⟨⟨s1, z1⟩, hs1, h⟩ := Option.bind_eq_some_iff.1 h
 obtain ⟨⟨s2, z2⟩, hs2, h⟩ := Option.bind_eq_some_iff.1 h
 by_cases hsl : s2.1.length < 1048576
 rotate_left
 · rw [if_neg hsl] at h
   cases h
 rw [if_pos hsl] at h
 have HPS := zA hps
 have HS1 := zA hs1
 have HS2 := zA hs2
 have HE := zA (Prod.mk.inj (zsi h))
 clear hps hs1 hs2 h
 obtain ⟨ad, eA, x0, x1, x2, x3⟩ := at_T72 (zCb HC.out HX.out.below) i c2 c3
 subst eA
 go_enter Try.func144, Try.ntmps144
 go_wp2_with fail
 obtain ⟨f0, hf0⟩ : ∃ f0, f0 = (rd_T72 e i).f0 := ⟨_, rfl⟩
 obtain ⟨f3, hf3⟩ : ∃ f3, f3 = (rd_T72 e i).f3 := ⟨_, rfl⟩
 have HF0 := zA hf0
 have HF3 := zA hf3
 clear hf0 hf3
 refine ri_region [[], [], [0, 1], [0, 1, 2], [0, 1, 2, 3], [], [], [5, 6], [5, 6, 7], [5, 6, 7, 8], [0, 1, 2, 3, 4, 5, 6, 7, 8, 9], [], [0, 1, 2, 3, 4, 5, 6, 7, 8, 9, 10, 11]] [[2, 3, 4, 10, 12], [2, 3, 4, 10, 12], [3, 4, 10, 12], [4, 10, 12], [10, 12], [7, 8, 9, 10, 12], [7, 8, 9, 10, 12], [8, 9, 10, 12], [9, 10, 12], [10, 12], [12], [12], []]
   (fun L s_ V => Below W.heap.size W V ∧ (L 0 = true → s_ 0 = .slice (some ad) e.length c0) ∧ (L 1 = true → s_ 1 = .int .i64 i) ∧ (L 2 = true → s_ 2 = .pointer (some (ad.add (i.toNat * 4)))) ∧ (L 3 = true → s_ 3 = .pointer (some (ad.add (i.toNat * 4)))) ∧ (L 4 = true → s_ 4 = .string f0) ∧ (L 5 = true → s_ 5 = .slice (some ad) e.length c0) ∧ (L 6 = true → s_ 6 = .int .i64 i) ∧ (L 7 = true → s_ 7 = .pointer (some (ad.add (i.toNat * 4)))) ∧ (L 8 = true → s_ 8 = .pointer (some ⟨(ad.add (i.toNat * 4)).block, (ad.add (i.toNat * 4)).off + 3, none⟩)) ∧ (L 9 = true → s_ 9 = .int .i64 f3) ∧ (L 10 = true → s_ 10 = .agg #[.string f0, .int .i64 0, .int .i64 0, .int .i64 f3]) ∧ (L 11 = true → ∃ g cs, s_ 11 = .pointer (some ⟨g, 0, none⟩) ∧ V.heap[g]? = some (.cells cs 72 (0, 0)) ∧ cs.size = 4 ∧ W.heap.size ≤ g ∧ (L 12 = true → cs = #[.string f0, .int .i64 0, .int .i64 0, .int .i64 f3])))
   rfl (fun _ _ _ _ _ h => h) (by kernel_rfl) ?_ ⟨?_, ?_, ?_, ?_, ?_, ?_, ?_, ?_, ?_, ?_, ?_, ?_, ?_, trivial⟩ ?_
 · exact ⟨below_drew (Below.refl _ _), (fun h => Bool.noConfusion h), (fun h => Bool.noConfusion h), (fun h => Bool.noConfusion h), (fun h => Bool.noConfusion h), (fun h => Bool.noConfusion h), (fun h => Bool.noConfusion h), (fun h => Bool.noConfusion h), (fun h => Bool.noConfusion h), (fun h => Bool.noConfusion h), (fun h => Bool.noConfusion h), (fun h => Bool.noConfusion h), (fun h => Bool.noConfusion h)⟩
 · rintro L s_ V hu hd hn ⟨hB, g0, g1, g2, g3, g4, g5, g6, g7, g8, g9, g10, g11⟩ K hK
   refine value_ (N := some 19) (v := .slice (some ad) e.length c0) (w1 := V) (by rfl) rfl ?_ (hK _ _ ⟨hB, fun _ => rfl, g1, g2, g3, g4, g5, g6, g7, g8, g9, g10, g11⟩)
   simp only [riFill, riGo, riCell, riFind, riMem, riNth, Nat.reduceBEq, Nat.reduceAdd, List.headD, List.tail, List.getD, List.getElem?_cons_zero, List.getElem?_cons_succ, Option.getD_some, cond_true, cond_false]
   go_simp
 · rintro L s_ V hu hd hn ⟨hB, g0, g1, g2, g3, g4, g5, g6, g7, g8, g9, g10, g11⟩ K hK
   refine value_ (N := some 20) (v := .int .i64 i) (w1 := V) (by rfl) rfl ?_ (hK _ _ ⟨hB, g0, fun _ => rfl, g2, g3, g4, g5, g6, g7, g8, g9, g10, g11⟩)
   simp only [riFill, riGo, riCell, riFind, riMem, riNth, Nat.reduceBEq, Nat.reduceAdd, List.headD, List.tail, List.getD, List.getElem?_cons_zero, List.getElem?_cons_succ, Option.getD_some, cond_true, cond_false]
   go_simp
 · rintro L s_ V hu hd hn ⟨hB, g0, g1, g2, g3, g4, g5, g6, g7, g8, g9, g10, g11⟩ K hK
   have e0 := g0 hd.1
   have e1 := g1 hd.2
   refine value_ (N := some 21) (v := .pointer (some (ad.add (i.toNat * 4)))) (w1 := V) (by rfl) rfl ?_ (hK _ _ ⟨hB, g0, g1, fun _ => rfl, g3, g4, g5, g6, g7, g8, g9, g10, g11⟩)
   simp only [riFill, riGo, riCell, riFind, riMem, riNth, Nat.reduceBEq, Nat.reduceAdd, List.headD, List.tail, List.getD, List.getElem?_cons_zero, List.getElem?_cons_succ, Option.getD_some, cond_true, cond_false]
   rw [e0, e1]
   go_simp
 · rintro L s_ V hu hd hn ⟨hB, g0, g1, g2, g3, g4, g5, g6, g7, g8, g9, g10, g11⟩ K hK
   have e2 := g2 hd.2.2
   refine value_ (N := some 22) (v := .pointer (some (ad.add (i.toNat * 4)))) (w1 := V) (by rfl) rfl ?_ (hK _ _ ⟨hB, g0, g1, g2, fun _ => rfl, g4, g5, g6, g7, g8, g9, g10, g11⟩)
   simp only [riFill, riGo, riCell, riFind, riMem, riNth, Nat.reduceBEq, Nat.reduceAdd, List.headD, List.tail, List.getD, List.getElem?_cons_zero, List.getElem?_cons_succ, Option.getD_some, cond_true, cond_false]
   rw [e2]
   go_simp
 · rintro L s_ V hu hd hn ⟨hB, g0, g1, g2, g3, g4, g5, g6, g7, g8, g9, g10, g11⟩ K hK
   have e3 := g3 hd.2.2.2
   obtain ⟨ad', ea, y0, y1, y2, y3⟩ := at_T72 (zCb HC.out (HX.out.step hB).below) i c2 c3
   cases ea
   rw [← HF0.out] at y0
   clear x0 x1 x2 x3
   refine value_ (N := some 23) (v := .string f0) (w1 := V) (by rfl) rfl ?_ (hK _ _ ⟨hB, g0, g1, g2, g3, fun _ => rfl, g5, g6, g7, g8, g9, g10, g11⟩)
   simp only [riFill, riGo, riCell, riFind, riMem, riNth, Nat.reduceBEq, Nat.reduceAdd, List.headD, List.tail, List.getD, List.getElem?_cons_zero, List.getElem?_cons_succ, Option.getD_some, cond_true, cond_false]
   rw [e3]
   go_simp
 · rintro L s_ V hu hd hn ⟨hB, g0, g1, g2, g3, g4, g5, g6, g7, g8, g9, g10, g11⟩ K hK
   refine value_ (N := some 24) (v := .slice (some ad) e.length c0) (w1 := V) (by rfl) rfl ?_ (hK _ _ ⟨hB, g0, g1, g2, g3, g4, fun _ => rfl, g6, g7, g8, g9, g10, g11⟩)
   simp only [riFill, riGo, riCell, riFind, riMem, riNth, Nat.reduceBEq, Nat.reduceAdd, List.headD, List.tail, List.getD, List.getElem?_cons_zero, List.getElem?_cons_succ, Option.getD_some, cond_true, cond_false]
   go_simp
 · rintro L s_ V hu hd hn ⟨hB, g0, g1, g2, g3, g4, g5, g6, g7, g8, g9, g10, g11⟩ K hK
   refine value_ (N := some 25) (v := .int .i64 i) (w1 := V) (by rfl) rfl ?_ (hK _ _ ⟨hB, g0, g1, g2, g3, g4, g5, fun _ => rfl, g7, g8, g9, g10, g11⟩)
   simp only [riFill, riGo, riCell, riFind, riMem, riNth, Nat.reduceBEq, Nat.reduceAdd, List.headD, List.tail, List.getD, List.getElem?_cons_zero, List.getElem?_cons_succ, Option.getD_some, cond_true, cond_false]
   go_simp
 · rintro L s_ V hu hd hn ⟨hB, g0, g1, g2, g3, g4, g5, g6, g7, g8, g9, g10, g11⟩ K hK
   have e5 := g5 hd.1
   have e6 := g6 hd.2
   refine value_ (N := some 26) (v := .pointer (some (ad.add (i.toNat * 4)))) (w1 := V) (by rfl) rfl ?_ (hK _ _ ⟨hB, g0, g1, g2, g3, g4, g5, g6, fun _ => rfl, g8, g9, g10, g11⟩)
   simp only [riFill, riGo, riCell, riFind, riMem, riNth, Nat.reduceBEq, Nat.reduceAdd, List.headD, List.tail, List.getD, List.getElem?_cons_zero, List.getElem?_cons_succ, Option.getD_some, cond_true, cond_false]
   rw [e5, e6]
   go_simp
 · rintro L s_ V hu hd hn ⟨hB, g0, g1, g2, g3, g4, g5, g6, g7, g8, g9, g10, g11⟩ K hK
   have e7 := g7 hd.2.2
   refine value_ (N := some 27) (v := .pointer (some ⟨(ad.add (i.toNat * 4)).block, (ad.add (i.toNat * 4)).off + 3, none⟩)) (w1 := V) (by rfl) rfl ?_ (hK _ _ ⟨hB, g0, g1, g2, g3, g4, g5, g6, g7, fun _ => rfl, g9, g10, g11⟩)
   simp only [riFill, riGo, riCell, riFind, riMem, riNth, Nat.reduceBEq, Nat.reduceAdd, List.headD, List.tail, List.getD, List.getElem?_cons_zero, List.getElem?_cons_succ, Option.getD_some, cond_true, cond_false]
   rw [e7]
   go_simp
 · rintro L s_ V hu hd hn ⟨hB, g0, g1, g2, g3, g4, g5, g6, g7, g8, g9, g10, g11⟩ K hK
   have e8 := g8 hd.2.2.2
   obtain ⟨ad', ea, y0, y1, y2, y3⟩ := at_T72 (zCb HC.out (HX.out.step hB).below) i c2 c3
   cases ea
   rw [← HF3.out] at y3
   clear x0 x1 x2 x3
   refine value_ (N := some 28) (v := .int .i64 f3) (w1 := V) (by rfl) rfl ?_ (hK _ _ ⟨hB, g0, g1, g2, g3, g4, g5, g6, g7, g8, fun _ => rfl, g10, g11⟩)
   simp only [riFill, riGo, riCell, riFind, riMem, riNth, Nat.reduceBEq, Nat.reduceAdd, List.headD, List.tail, List.getD, List.getElem?_cons_zero, List.getElem?_cons_succ, Option.getD_some, cond_true, cond_false]
   rw [e8]
   go_simp
 · rintro L s_ V hu hd hn ⟨hB, g0, g1, g2, g3, g4, g5, g6, g7, g8, g9, g10, g11⟩ K hK
   have e4 := g4 hd.2.2.2.2.1
   have e9 := g9 hd.2.2.2.2.2.2.2.2.2
   refine value_ (N := some 29) (v := .agg #[.string f0, .int .i64 0, .int .i64 0, .int .i64 f3]) (w1 := V) (by rfl) rfl ?_ (hK _ _ ⟨hB, g0, g1, g2, g3, g4, g5, g6, g7, g8, g9, fun _ => rfl, g11⟩)
   simp only [riFill, riGo, riCell, riFind, riMem, riNth, Nat.reduceBEq, Nat.reduceAdd, List.headD, List.tail, List.getD, List.getElem?_cons_zero, List.getElem?_cons_succ, Option.getD_some, cond_true, cond_false]
   rw [e4, e9]
   go_simp
 · rintro L s_ V hu hd hn ⟨hB, g0, g1, g2, g3, g4, g5, g6, g7, g8, g9, g10, g11⟩ K hK
   refine value_ (N := some 9) (v := .pointer (some ⟨V.heap.size, 0, none⟩)) (w1 := V.alloc (.cells #[.string ⟨#[]⟩, .int .i64 0, .int .i64 0, .int .i64 0] 72)) (by rfl) rfl ?_ (hK _ _ ⟨zba hB _, g0, g1, g2, g3, g4, g5, g6, g7, g8, g9, g10, fun _ => ⟨V.heap.size, _, rfl, blk_new V _, rfl, hB.size, fun h => absurd (h.symm.trans hn) (by simp)⟩⟩)
   simp only [riFill, riGo, riCell, riFind, riMem, riNth, Nat.reduceBEq, Nat.reduceAdd, List.headD, List.tail, List.getD, List.getElem?_cons_zero, List.getElem?_cons_succ, Option.getD_some, cond_true, cond_false]
   go_simp
 · rintro L s_ V hu hd hn ⟨hB, g0, g1, g2, g3, g4, g5, g6, g7, g8, g9, g10, g11⟩ K hK
   obtain ⟨g, cs, a1, a2, a3, a4, _⟩ := g11 hd.2.2.2.2.2.2.2.2.2.2.2
   have e10 := g10 hd.2.2.2.2.2.2.2.2.2.2.1
   have hst := run_store_run (P := Try.prog) (w := V) (o := 0) 72 (.agg #[.string f0, .int .i64 0, .int .i64 0, .int .i64 f3]) [.string f0, .int .i64 0, .int .i64 0, .int .i64 f3] a2 rfl rfl (by simp [a3]) (by simp [Value.oneCell'])
   refine skip_ (w1 := V.setCells g 0 [.string f0, .int .i64 0, .int .i64 0, .int .i64 f3]) (by rfl) rfl ?_ (hK undef _ ⟨?_, g0, g1, g2, g3, g4, g5, g6, g7, g8, g9, g10, fun _ => ?_⟩)
   · simp only [riFill, riGo, riCell, riFind, riMem, riNth, Nat.reduceBEq, Nat.reduceAdd, List.headD, List.tail, List.getD, List.getElem?_cons_zero, List.getElem?_cons_succ, Option.getD_some, cond_true, cond_false]
     rw [a1, e10]
     unfold execOp
     simp only [Sem.run_bind, Sem.run_pure]
     exact (congrArg (fun r => Result.andThen r _) hst).trans rfl
   · have hs := setCells_same g [.string f0, .int .i64 0, .int .i64 0, .int .i64 f3] 0 V
     exact hB.trans ⟨hs.1, hs.2.1, hs.2.2.1, Nat.le_of_eq hs.2.2.2.symm, fun k hk => setCells_far _ _ k (by omega)⟩
   · obtain ⟨cur', b1, b2, b3⟩ := setCells_row (e := 72) [.string f0, .int .i64 0, .int .i64 0, .int .i64 f3] 0 V cs a2 (by simp [a3])
     refine ⟨g, cur', a1, b1, b2.trans a3, a4, fun _ => ?_⟩
     apply Array.ext'
     have hd4 : cs.toList.drop (0 + 4) = [] := List.drop_of_length_le (by simp [a3])
     rw [b3]
     show cs.toList.take 0 ++ [.string f0, .int .i64 0, .int .i64 0, .int .i64 f3] ++ cs.toList.drop (0 + 4) = _
     rw [hd4]
     rfl
 · rintro L s_ V hL ⟨hB, g0, g1, g2, g3, g4, g5, g6, g7, g8, g9, g10, g11⟩
   obtain ⟨g, cs, a1, a2, a3, a4, a5⟩ := g11 (hL 11 rfl)
   obtain rfl := a5 (hL 12 rfl)
   have hown : some g ≠ vo.ownBlock := fun e => by
     have := Kd.R_lt HX.out.out g e.symm
     omega
   have hgb := blk_lt HX.out.bb
   have hgr := Kd.R_lt HX.out.nam r rfl
   have HN := zA (show ExN w0 gb r cr e.length g W vo f0 f3 s vo 0 0 V from ⟨HX.out.step hB, a2, a4, Nat.le_trans HX.out.below.size a4, ⟨by omega, by omega⟩, hown, (ShFr.refl _ _ _ _).step hB⟩)
   clear a2 a3 a4 a5 g0 g1 g2 g3 g4 g5 g6 g7 g8 g9 g10 g11 hown hgb hgr x0 x1 x2 x3 p0 p1
   obtain ⟨ad', ea, x0, x1, x2, x3⟩ := at_T72 (zCb HC.out HN.out.x.below) i c2 c3
   cases ea
   clear hB
   simp only [riFill, riGo, riCell, riFind, riMem, riNth, Nat.reduceBEq, Nat.reduceAdd, List.headD, List.tail, List.getD, List.getElem?_cons_zero, List.getElem?_cons_succ, Option.getD_some, cond_true, cond_false]
   rw [a1]
   clear a1
   rw [← HF0.out] at x0
   rw [← HF3.out] at x3
   have HPS2 := zA (show spec_exParts.f k f0 (rd_T72 e i).f1 (rd_T72 e i).f2 f3 = some ps by rw [HF0.out, HF3.out]; exact HPS.out)
   by_cases k1 : 0 < ps.length
   rotate_left
   · have d2 : decide ((0 : Int) < ps.length) = false := zdf (by omega)
     have d3 : decide ((1 : Int) < ps.length) = false := zdf (by omega)
     have hs1 := HS1.out
     rw [if_neg k1] at hs1
     obtain ⟨rfl, rfl⟩ := Prod.mk.inj (zsi hs1)
     have hs2 := HS2.out
     rw [if_neg (by omega)] at hs2
     obtain ⟨rfl, rfl⟩ := Prod.mk.inj (zsi hs2)
     clear hs1 hs2 HS1 HS2
     have HE2 := zA (show ((exPut ⟨f0, 0, 0, f3⟩ s.1).1, s.2.set i.toNat (exPut ⟨f0, 0, 0, f3⟩ s.1).2) = s' ∧ (exPut ⟨f0, 0, 0, f3⟩ s.1).2 = x by have := HE.out; rw [← HF0.out, ← HF3.out] at this; exact this)
     clear HE
     go_wp2_with (first | (go_at_call 143; (with_reducible refine (spec_exParts.calls k _ _ _ _ ps _ HPS2.out).mono ?_); rintro y w1 ⟨v1, rfl, hv1, hb1⟩; obtain ⟨A1, k1, rfl⟩ := Kd.R_slice hv1; have HNn := zA (HN.out.step hb1); clear HN hv1 hb1 x0 x1 x2 x3; have HN := HNn; clear HNn; obtain ⟨ad', ea, x0, x1, x2, x3⟩ := at_T72 (zCb HC.out HN.out.x.below) i c2 c3; cases ea; rw [← HF0.out] at x0; rw [← HF3.out] at x3; have y0 := blk_cell HN.out.box 0; have y1 := blk_cell HN.out.box 1; have y2 := blk_cell HN.out.box 2; have y3 := blk_cell HN.out.box 3) | (go_at_call 178; refine (exPut_calls _ _ _ HN.out.x f0 0 0 f3 hsl).mono ?_; rintro y w5 ⟨v5, rfl, hX5, hF5⟩; have HX5 := zA hX5; have HF5 := zA (HN.out.fr.trans hF5); obtain ⟨p2, p3⟩ := Kd.R_celln 0 hX5.nam i c2 c3; clear HN hX5 hF5 x0 x1 x2 x3 y0 y1 y2 y3))
     go_ret
     rw [← HE2.out.1, ← HE2.out.2]
     exact ⟨rfl, _, HX5.out.setn i _, HF5.out.setn i.toNat _⟩
   have d2 : decide ((0 : Int) < ps.length) = true := zdt (by omega)
   have hs1 := HS1.out
   rw [if_pos k1] at hs1
   have HS1' := zA hs1
   by_cases k2 : 1 < ps.length
   rotate_left
   · have d3 : decide ((1 : Int) < ps.length) = false := zdf (by omega)
     have hs2 := HS2.out
     rw [if_neg k2] at hs2
     obtain ⟨rfl, rfl⟩ := Prod.mk.inj (zsi hs2)
     clear hs1 hs2 HS1 HS2
     have HE2 := zA (show ((exPut ⟨f0, z1, 0, f3⟩ s1.1).1, s1.2.set i.toNat (exPut ⟨f0, z1, 0, f3⟩ s1.1).2) = s' ∧ (exPut ⟨f0, z1, 0, f3⟩ s1.1).2 = x by have := HE.out; rw [← HF0.out, ← HF3.out] at this; exact this)
     clear HE
     go_wp2_with (first | (go_at_call 143; (with_reducible refine (spec_exParts.calls k _ _ _ _ ps _ HPS2.out).mono ?_); rintro y w1 ⟨v1, rfl, hv1, hb1⟩; obtain ⟨A1, k1, rfl⟩ := Kd.R_slice hv1; have HNn := zA (HN.out.step hb1); clear HN hv1 hb1 x0 x1 x2 x3; have HN := HNn; clear HNn; obtain ⟨ad', ea, x0, x1, x2, x3⟩ := at_T72 (zCb HC.out HN.out.x.below) i c2 c3; cases ea; rw [← HF0.out] at x0; rw [← HF3.out] at x3; have y0 := blk_cell HN.out.box 0; have y1 := blk_cell HN.out.box 1; have y2 := blk_cell HN.out.box 2; have y3 := blk_cell HN.out.box 3) | (go_at_call 144; refine (HIH.out (rd_T72 e i).f1 s s1 z1 _ _ HN.out.x HS1'.out).mono ?_; rintro y w2 ⟨rfl, v2, hX2, hF2⟩; have HN2 := HN.out.walked hX2 hF2; have q1 := blk_cell HN2.box 1; have q2 := blk_frozen HN2.box 1; have HNn := zA (HN2.set 1 (.int .i64 z1) z1 0 rfl); clear HN HN2 hX2 hF2 x0 x1 x2 x3 y0 y1 y2 y3; have HN := HNn; clear HNn; obtain ⟨ad', ea, x0, x1, x2, x3⟩ := at_T72 (zCb HC.out HN.out.x.below) i c2 c3; cases ea; rw [← HF0.out] at x0; rw [← HF3.out] at x3) | (go_at_call 178; refine (exPut_calls _ _ _ HN.out.x f0 z1 0 f3 hsl).mono ?_; rintro y w5 ⟨v5, rfl, hX5, hF5⟩; have HX5 := zA hX5; have HF5 := zA (HN.out.fr.trans hF5); obtain ⟨p2, p3⟩ := Kd.R_celln 0 hX5.nam i c2 c3; clear HN hX5 hF5 x0 x1 x2 x3 y0 y1 y2 y3))
     go_ret
     rw [← HE2.out.1, ← HE2.out.2]
     exact ⟨rfl, _, HX5.out.setn i _, HF5.out.setn i.toNat _⟩
   have d3 : decide ((1 : Int) < ps.length) = true := zdt (by omega)
   have hs2 := HS2.out
   rw [if_pos k2] at hs2
   have HS2' := zA hs2
   clear hs1 hs2 HS1 HS2
   have HE2 := zA (show ((exPut ⟨f0, z1, z2, f3⟩ s2.1).1, s2.2.set i.toNat (exPut ⟨f0, z1, z2, f3⟩ s2.1).2) = s' ∧ (exPut ⟨f0, z1, z2, f3⟩ s2.1).2 = x by have := HE.out; rw [← HF0.out, ← HF3.out] at this; exact this)
   clear HE
   go_wp2_with (first | (go_at_call 143; (with_reducible refine (spec_exParts.calls k _ _ _ _ ps _ HPS2.out).mono ?_); rintro y w1 ⟨v1, rfl, hv1, hb1⟩; obtain ⟨A1, k1, rfl⟩ := Kd.R_slice hv1; have HNn := zA (HN.out.step hb1); clear HN hv1 hb1 x0 x1 x2 x3; have HN := HNn; clear HNn; obtain ⟨ad', ea, x0, x1, x2, x3⟩ := at_T72 (zCb HC.out HN.out.x.below) i c2 c3; cases ea; rw [← HF0.out] at x0; rw [← HF3.out] at x3; have y0 := blk_cell HN.out.box 0; have y1 := blk_cell HN.out.box 1; have y2 := blk_cell HN.out.box 2; have y3 := blk_cell HN.out.box 3) | (go_at_call 144; refine (HIH.out (rd_T72 e i).f1 s s1 z1 _ _ HN.out.x HS1'.out).mono ?_; rintro y w2 ⟨rfl, v2, hX2, hF2⟩; have HN2 := HN.out.walked hX2 hF2; have q1 := blk_cell HN2.box 1; have q2 := blk_frozen HN2.box 1; have HNn := zA (HN2.set 1 (.int .i64 z1) z1 0 rfl); clear HN HN2 hX2 hF2 x0 x1 x2 x3 y0 y1 y2 y3; have HN := HNn; clear HNn; obtain ⟨ad', ea, x0, x1, x2, x3⟩ := at_T72 (zCb HC.out HN.out.x.below) i c2 c3; cases ea; rw [← HF0.out] at x0; rw [← HF3.out] at x3) | (go_at_call 144; refine (HIH.out (rd_T72 e i).f2 s1 s2 z2 _ _ HN.out.x HS2'.out).mono ?_; rintro y w2 ⟨rfl, v2, hX2, hF2⟩; have HN2 := HN.out.walked hX2 hF2; have q1 := blk_cell HN2.box 2; have q2 := blk_frozen HN2.box 2; have HNn := zA (HN2.set 2 (.int .i64 z2) z1 z2 rfl); clear HN HN2 hX2 hF2 x0 x1 x2 x3 y0 y1 y2 y3; have HN := HNn; clear HNn; obtain ⟨ad', ea, x0, x1, x2, x3⟩ := at_T72 (zCb HC.out HN.out.x.below) i c2 c3; cases ea; rw [← HF0.out] at x0; rw [← HF3.out] at x3; have y0 := blk_cell HN.out.box 0; have y1 := blk_cell HN.out.box 1; have y2 := blk_cell HN.out.box 2; have y3 := blk_cell HN.out.box 3) | (go_at_call 178; refine (exPut_calls _ _ _ HN.out.x f0 z1 z2 f3 hsl).mono ?_; rintro y w5 ⟨v5, rfl, hX5, hF5⟩; have HX5 := zA hX5; have HF5 := zA (HN.out.fr.trans hF5); obtain ⟨p2, p3⟩ := Kd.R_celln 0 hX5.nam i c2 c3; clear HN hX5 hF5 x0 x1 x2 x3 y0 y1 y2 y3))
   go_ret
   rw [← HE2.out.1, ← HE2.out.2]
   exact ⟨rfl, _, HX5.out.setn i _, HF5.out.setn i.toNat _⟩
theorem exSet (n u : Nat) (h : u < n) : (List.replicate u (-1 : Int) ++ List.replicate (n - u) 0).set u (-1) = List.replicate (u + 1) (-1) ++ List.replicate (n - (u + 1)) 0 := by
 rw [show n - u = (n - (u + 1)) + 1 by omega, List.replicate_succ, List.set_append_right _ _ (by simp)]
 simp only [List.length_replicate, Nat.sub_self, List.set_cons_zero]
 rw [List.replicate_succ', List.append_assoc, List.singleton_append]
def spec_exShare.f (k : Nat) (l0 : List S72) : Option (List S72) := if 0 < l0.length ∧ l0.length ≤ 1048576 then (exW k l0 k ((l0.length : Int) - 1) ([], List.replicate l0.length (-1))).bind fun z => some z.1.1 else none
set_option maxHeartbeats 4000000 in
set_option maxRecDepth 100000 in
theorem spec_exShare.calls (k : Nat) (A0 : Option Addr) (c0 : Nat) (l0 : List S72) (r : List S72) (w : World) (hr0 : Kd.C k72 w A0 l0.length l0) (hc0 : l0.length ≤ c0) (h : spec_exShare.f k l0 = some r) :
   Calls Try.prog 95 #[.slice A0 l0.length c0] w fun e w' => ∃ v0_ : Value, e = .returned (v0_) ∧ Kd.R k72 72 w' w.heap.size (fun _ => True) v0_ r ∧ Below w.heap.size w w' := by
 unfold spec_exShare.f at h
 by_cases hl : 0 < l0.length ∧ l0.length ≤ 1048576
 rotate_left
 · rw [if_neg hl] at h
   cases h
 rw [if_pos hl] at h
 obtain ⟨⟨s, z⟩, hs, h⟩ := Option.bind_eq_some_iff.1 h
 obtain rfl := zsi h
 have HS := zA hs
 have HR := zA hr0
 have HC := zA hc0
 clear h hs hr0 hc0
 have k1 : (0 : Int) ≤ l0.length := by omega
 go_enter Try.func95, Try.ntmps95
 go_wp2_with (first
   | ((with_reducible refine gate_dst (N := 7) rfl ?_); refine box_event ?hg (N := 7) ?hd (cs := #[.slice none 0 0, .bool true]) (t := 147) ?hr ?_; (case hd => rfl); (case hg => rfl); (case hr => go_simp <;> rfl); intro gb hg w4 hbox hb; have BB := zA hbox; have HGB := zA (show w.heap.size ≤ gb from Nat.le_of_eq hg.symm); have HB := zA hb; clear hg hbox hb)
   | ((with_reducible refine gate_dst (N := 10) rfl ?_); refine Kd.R_make (Kd.int .i64) (w0 := w) w.heap.size 3 rfl (N := 10) rfl 51 _ _ rfl (l0.length : Int) rfl rfl Try.underlying51 (.int .i64 0) 8 info3 rfl (by decide) (by omega) 0 (ok := fun _ => True) (okp := fun _ => True) rfl (fun _ hk => hk) trivial k1 (by omega) HB.out HB.out.size ?_; intro v5 w5 ho hb hgr hnew; rw [Int.toNat_natCast] at ho; obtain ⟨r, cr, e5, hrb, _⟩ := Kd.R_form ho (by rw [List.length_replicate]; exact hl.1); rw [List.length_replicate] at e5; subst e5; have HO := zA ho; have BB5 := zA ((hgr.block gb (blk_lt BB.out) (by simp)).trans BB.out); have RNE := zA (show r ≠ gb from by obtain ⟨b, e, hb2⟩ := hnew; have hlt := blk_lt BB.out; have : r = b := (by simpa [Value.ownBlock] using e); omega); have HB5 := zA hb; clear ho hb hgr hnew hrb BB HB))
 go_loopw [5, 13] (fun v5 v13 wr => ∃ u : Nat, v13 = .int .i64 (u : Int) ∧ u ≤ l0.length ∧ Aside0 (wr.heap[gb]? = some (.cells #[.slice none 0 0, .bool true] 147 (0, 0))) ∧ Aside0 (Below w.heap.size w wr) ∧
   Aside0 (Kd.R (Kd.int .i64) 3 wr w.heap.size (fun _ => True) (.slice (some ⟨r, 0, none⟩) l0.length cr) (List.replicate u (-1) ++ List.replicate (l0.length - u) 0))) (fun _ v13 _ => l0.length - (intOf v13).toNat)
 case atStart => exact ⟨0, rfl, Nat.zero_le _, BB5, HB5, HO⟩
 clear BB5 HB5 HO
 obtain ⟨u, rfl, hu, BBr, HBr, HOr⟩ := hrel
 by_cases hlt : u < l0.length
 · have d1 : decide ((u : Int) < l0.length) = true := zdt (by omega)
   have d2 : (0 : Int) ≤ (u : Int) := by omega
   have d3 : (u : Int) < l0.length := by omega
   obtain ⟨p2, p3⟩ := Kd.R_celln 0 HOr.out (u : Int) d2 d3
   rw [Int.toNat_natCast] at p2 p3
   go_wp2_with fail
   go_roundw
   case rel =>
     have hp := Kd.R_putn HOr.out (u : Int) (-1)
     rw [Int.toNat_natCast, exSet l0.length u hlt] at hp
     exact ⟨u + 1, by go_num, by omega, ⟨blk_far BBr.out (fun e => RNE.out (by simpa using e.symm)) _⟩, ⟨HBr.out.setCell (p := ⟨r, u, none⟩) (Kd.R_base HOr.out r rfl) _⟩, ⟨hp⟩⟩
   case measure => simp [intOf]; omega
 obtain rfl : u = l0.length := by omega
 have d1 : decide ((l0.length : Int) < l0.length) = false := zdf (by omega)
 have ho := HOr.out
 rw [Nat.sub_self, List.replicate_zero, List.append_nil] at ho
 have HX := zA (show ExX w gb r cr l0.length ([], List.replicate l0.length (-1)) (.slice none 0 0) wr from ⟨HBr.out, BBr.out, HGB.out, Kd.R_nil _ _ _ _ _, RNE.out, by
   have hv : (Kd.int .i64).R 3 wr w.heap.size (fun _ => True) (.slice (some ⟨r, 0, none⟩) (List.replicate l0.length (-1 : Int)).length cr) (List.replicate l0.length (-1)) := by rw [List.length_replicate]; exact ho
   have hw := Kd.R_of_own (h1 := fun _ => rfl) (Kd.own_of_R hv) (ok := fun k => k = r) (fun k hk => by simpa [Value.ownBlock] using hk.symm)
   rw [List.length_replicate] at hw
   exact hw⟩)
 clear ho HOr BBr HBr
 go_wp2_with (go_at_call 144; refine (exOnce k HR.out k _ _ s z _ _ HX.out HS.out).mono ?_; rintro y w6 ⟨rfl, v6, hX6, hF6⟩; obtain ⟨A6, c6, e6⟩ := Kd.R_slice hX6.out; subst e6; have q6 := blk_cell hX6.bb 0; have HX6 := zA hX6; clear hX6 hF6)
 go_ret
 exact ⟨_, rfl, Kd.R_mono HX6.out.out (fun _ _ => trivial), HX6.out.below⟩
theorem exW_mono (k : Nat) (e : List S72) : ∀ (d : Nat) (i : Int) (s : List S72 × List Int), LeO (exW k e d i s) (exW (k + 1) e (d + 1) i s)
 | 0, _, _ => LeO.none _
 | d + 1, i, s => by
   unfold exW
   exact LeO.ite (LeO.ite (LeO.refl _) (LeO.bind (spec_exParts.mono _ _ _ _ _) (fun ps => LeO.ite (LeO.bind (LeO.ite (exW_mono k e d _ _) (LeO.refl _)) (fun r1 => LeO.bind (LeO.ite (exW_mono k e d _ _) (LeO.refl _)) (fun r2 => LeO.refl _))) (LeO.refl _)))) (LeO.refl _)
theorem spec_exShare.mono : ∀ a0 k, LeO (spec_exShare.f k a0) (spec_exShare.f (k + 1) a0) := by
 intro a0 k
 unfold spec_exShare.f
 exact LeO.ite (LeO.bind (exW_mono _ _ _ _ _) (fun _ => LeO.refl _)) (LeO.refl _)
end Go.Proofs.Ytkfkbmlbpeojaaa.Q
end
section
namespace Go.Proofs.Ytkfkbmlbpeojaaa.Q
open Go.RowKit Go.Proofs.YtkfkbmlbpeojaaaW.PrintWords Go.Proofs.YtkfkbmlbpeojaaaW.PrintLast Go.Proofs.YtkfkbmlbpeojaaaW.PrintMore
attribute [local go_sem] max2_int min2_int max_two min_two max_three min_three max_four min_four
set_option linter.unusedVariables false
set_option linter.unusedSimpArgs false
def spec_vaRank.l0 : Nat → ByteArray → List ByteArray → Int → Option (Int)
 | 0, _, _, _ => none
 | k + 1, x0, x3, x4 => if 0 ≤ x4 then (if x4 < (x3.length : Int) then (if (rdOf ByteArray.empty x3 x4).toList = x0.toList then (some x4) else (spec_vaRank.l0 k x0 x3 (wrap64 (x4 + 1)))) else (none)) else (none)
def spec_vaRank.f (k : Nat) (a0 : ByteArray) : Option (Int) := spec_vaRank.l0 k a0 (([(⟨#[105, 110]⟩ : ByteArray), (⟨#[99, 111, 110, 115, 116]⟩ : ByteArray), (⟨#[110, 111, 116]⟩ : ByteArray), (⟨#[110, 101, 103]⟩ : ByteArray), (⟨#[97, 100, 100]⟩ : ByteArray), (⟨#[115, 117, 98]⟩ : ByteArray), (⟨#[109, 117, 108]⟩ : ByteArray), (⟨#[97, 110, 100]⟩ : ByteArray), (⟨#[111, 114]⟩ : ByteArray), (⟨#[120, 111, 114]⟩ : ByteArray), (⟨#[115, 104, 108]⟩ : ByteArray), (⟨#[115, 104, 114]⟩ : ByteArray), (⟨#[108, 101, 115, 115]⟩ : ByteArray), (⟨#[101, 113]⟩ : ByteArray)] : List ByteArray)) 0
theorem spec_vaRank.mono_l : ∀ k, (∀ y0 y1 y2, LeO (spec_vaRank.l0 k y0 y1 y2) (spec_vaRank.l0 (k + 1) y0 y1 y2))
 | 0 => fun _ _ _ r h => by simp [spec_vaRank.l0] at h
 | k + 1 => by
   have ih0 := spec_vaRank.mono_l k
   · intro y0 y1 y2
     unfold spec_vaRank.l0
     repeat' first
     | (with_reducible first | exact ih0 _ _ _ | exact LeO.refl _ | exact LeO.none _ | refine LeO.ite ?_ ?_ | refine LeO.bind ?_ (fun _ => ?_))
     | exact LeO.none _
     | refine LeO.ite ?_ ?_
     | refine LeO.bind ?_ (fun _ => ?_)
theorem spec_vaRank.mono : ∀ a0 k, LeO (spec_vaRank.f k a0) (spec_vaRank.f (k + 1) a0) := by
 intro a0 k
 have ih0 := spec_vaRank.mono_l k
 unfold spec_vaRank.f
 repeat' first
     | (with_reducible first | exact ih0 _ _ _ | exact LeO.refl _ | exact LeO.none _ | refine LeO.ite ?_ ?_ | refine LeO.bind ?_ (fun _ => ?_))
     | exact LeO.none _
     | refine LeO.ite ?_ ?_
     | refine LeO.bind ?_ (fun _ => ?_)
set_option maxHeartbeats 8000000 in
set_option maxRecDepth 100000 in
theorem spec_vaRank.calls (k : Nat) (a0 : ByteArray) (r : Int) (w : World) (h : spec_vaRank.f k a0 = some r) :
   Calls Try.prog 145 #[.string a0] w fun e w' => e = .returned (.int .i64 r) ∧ Below w.heap.size w w' := by
 have HB := zA (Below.refl w.heap.size w)
 have H : (spec_vaRank.l0 k a0 (([(⟨#[105, 110]⟩ : ByteArray), (⟨#[99, 111, 110, 115, 116]⟩ : ByteArray), (⟨#[110, 111, 116]⟩ : ByteArray), (⟨#[110, 101, 103]⟩ : ByteArray), (⟨#[97, 100, 100]⟩ : ByteArray), (⟨#[115, 117, 98]⟩ : ByteArray), (⟨#[109, 117, 108]⟩ : ByteArray), (⟨#[97, 110, 100]⟩ : ByteArray), (⟨#[111, 114]⟩ : ByteArray), (⟨#[120, 111, 114]⟩ : ByteArray), (⟨#[115, 104, 108]⟩ : ByteArray), (⟨#[115, 104, 114]⟩ : ByteArray), (⟨#[108, 101, 115, 115]⟩ : ByteArray), (⟨#[101, 113]⟩ : ByteArray)] : List ByteArray)) 0) = some r := h
 clear h
 obtain ⟨y101, hy101⟩ : ∃ y_ : List ByteArray, y_ = (([(⟨#[105, 110]⟩ : ByteArray), (⟨#[99, 111, 110, 115, 116]⟩ : ByteArray), (⟨#[110, 111, 116]⟩ : ByteArray), (⟨#[110, 101, 103]⟩ : ByteArray), (⟨#[97, 100, 100]⟩ : ByteArray), (⟨#[115, 117, 98]⟩ : ByteArray), (⟨#[109, 117, 108]⟩ : ByteArray), (⟨#[97, 110, 100]⟩ : ByteArray), (⟨#[111, 114]⟩ : ByteArray), (⟨#[120, 111, 114]⟩ : ByteArray), (⟨#[115, 104, 108]⟩ : ByteArray), (⟨#[115, 104, 114]⟩ : ByteArray), (⟨#[108, 101, 115, 115]⟩ : ByteArray), (⟨#[101, 113]⟩ : ByteArray)] : List ByteArray)) := ⟨_, rfl⟩
 replace H : (spec_vaRank.l0 k a0 y101 0) = some r := by first | (rw [hy101]; with_reducible exact H) | (have H2_ := (Option.bind_some _ _).symm.trans H; rw [hy101]; with_reducible exact H2_) | (have H2_ := (Option.bind_some _ _).symm.trans H; with_reducible exact H2_) | with_reducible exact H | (rw [hy101]; exact H) | exact H
 have Ny101 := zA hy101
 clear hy101
 have H' := zA H
 clear H
 go_enter Try.func145, Try.ntmps145
 go_wp2_with (first | ((with_reducible refine gate_dst (N := 5) rfl ?_); refine Kd.R_lit Kd.string _ 9 ?hg (N := 5) ?hd (xs := ([(⟨#[105, 110]⟩ : ByteArray), (⟨#[99, 111, 110, 115, 116]⟩ : ByteArray), (⟨#[110, 111, 116]⟩ : ByteArray), (⟨#[110, 101, 103]⟩ : ByteArray), (⟨#[97, 100, 100]⟩ : ByteArray), (⟨#[115, 117, 98]⟩ : ByteArray), (⟨#[109, 117, 108]⟩ : ByteArray), (⟨#[97, 110, 100]⟩ : ByteArray), (⟨#[111, 114]⟩ : ByteArray), (⟨#[120, 111, 114]⟩ : ByteArray), (⟨#[115, 104, 108]⟩ : ByteArray), (⟨#[115, 104, 114]⟩ : ByteArray), (⟨#[108, 101, 115, 115]⟩ : ByteArray), (⟨#[101, 113]⟩ : ByteArray)] : List ByteArray)) (inner := [.string (⟨#[105, 110]⟩ : ByteArray), .string (⟨#[99, 111, 110, 115, 116]⟩ : ByteArray), .string (⟨#[110, 111, 116]⟩ : ByteArray), .string (⟨#[110, 101, 103]⟩ : ByteArray), .string (⟨#[97, 100, 100]⟩ : ByteArray), .string (⟨#[115, 117, 98]⟩ : ByteArray), .string (⟨#[109, 117, 108]⟩ : ByteArray), .string (⟨#[97, 110, 100]⟩ : ByteArray), .string (⟨#[111, 114]⟩ : ByteArray), .string (⟨#[120, 111, 114]⟩ : ByteArray), .string (⟨#[115, 104, 108]⟩ : ByteArray), .string (⟨#[115, 104, 114]⟩ : ByteArray), .string (⟨#[108, 101, 115, 115]⟩ : ByteArray), .string (⟨#[101, 113]⟩ : ByteArray)]) (ok := fun _ => True) (okp := fun _ => True) ?hr ?hp (fun _ hk => hk) trivial (Below.refl _ _) (zlr _) (by simp) ?_; (case hd => rfl); (case hg => rfl); (case hr => go_simp <;> rfl); (case hp => exact (Reps.one (show Kd.M Kd.string _ _ _ (⟨#[105, 110]⟩ : ByteArray) [.string (⟨#[105, 110]⟩ : ByteArray)] from rfl) (Reps.one (show Kd.M Kd.string _ _ _ (⟨#[99, 111, 110, 115, 116]⟩ : ByteArray) [.string (⟨#[99, 111, 110, 115, 116]⟩ : ByteArray)] from rfl) (Reps.one (show Kd.M Kd.string _ _ _ (⟨#[110, 111, 116]⟩ : ByteArray) [.string (⟨#[110, 111, 116]⟩ : ByteArray)] from rfl) (Reps.one (show Kd.M Kd.string _ _ _ (⟨#[110, 101, 103]⟩ : ByteArray) [.string (⟨#[110, 101, 103]⟩ : ByteArray)] from rfl) (Reps.one (show Kd.M Kd.string _ _ _ (⟨#[97, 100, 100]⟩ : ByteArray) [.string (⟨#[97, 100, 100]⟩ : ByteArray)] from rfl) (Reps.one (show Kd.M Kd.string _ _ _ (⟨#[115, 117, 98]⟩ : ByteArray) [.string (⟨#[115, 117, 98]⟩ : ByteArray)] from rfl) (Reps.one (show Kd.M Kd.string _ _ _ (⟨#[109, 117, 108]⟩ : ByteArray) [.string (⟨#[109, 117, 108]⟩ : ByteArray)] from rfl) (Reps.one (show Kd.M Kd.string _ _ _ (⟨#[97, 110, 100]⟩ : ByteArray) [.string (⟨#[97, 110, 100]⟩ : ByteArray)] from rfl) (Reps.one (show Kd.M Kd.string _ _ _ (⟨#[111, 114]⟩ : ByteArray) [.string (⟨#[111, 114]⟩ : ByteArray)] from rfl) (Reps.one (show Kd.M Kd.string _ _ _ (⟨#[120, 111, 114]⟩ : ByteArray) [.string (⟨#[120, 111, 114]⟩ : ByteArray)] from rfl) (Reps.one (show Kd.M Kd.string _ _ _ (⟨#[115, 104, 108]⟩ : ByteArray) [.string (⟨#[115, 104, 108]⟩ : ByteArray)] from rfl) (Reps.one (show Kd.M Kd.string _ _ _ (⟨#[115, 104, 114]⟩ : ByteArray) [.string (⟨#[115, 104, 114]⟩ : ByteArray)] from rfl) (Reps.one (show Kd.M Kd.string _ _ _ (⟨#[108, 101, 115, 115]⟩ : ByteArray) [.string (⟨#[108, 101, 115, 115]⟩ : ByteArray)] from rfl) (Reps.one (show Kd.M Kd.string _ _ _ (⟨#[101, 113]⟩ : ByteArray) [.string (⟨#[101, 113]⟩ : ByteArray)] from rfl) (Reps.none _ _)))))))))))))))); intro v102 w2 ho3 hb hg_ hnew_; clear hg_ hnew_; (first | rw [← Ny101.out] at ho3 | (simp only [Int.reduceToNat] at ho3; rw [← Ny101.out] at ho3)); have n0_ := zA (Kd.R_lower ho3 (below_size (by repeat (first | (with_reducible first | exact HB.out | apply zba | apply zbn | apply zbd) | exact HB.out)))); have n1_ := zA (below_step (by repeat (first | (with_reducible first | exact HB.out | apply zba | apply zbn | apply zbd) | exact HB.out)) hb); clear HB; have HO103 := n0_; have HB := n1_; clear n0_ n1_; clear hb ho3))
 go_loopg [4] k (fun kq v4 w' => ∃ (x4_1 : Int), v4 = .int .i64 x4_1 ∧ Aside0 (spec_vaRank.l0 kq a0 y101 x4_1 = some r) ∧ Aside0 (kq ≤ k) ∧ Aside0 (Kd.R Kd.string 9 w' w.heap.size (fun _ => True) v102 y101) ∧ Aside0 (Below w.heap.size w w'))
 case atStart => exact ⟨(0), (by first | rfl | (simp; done) | (simp [*]; done)), H', ⟨zlr _⟩, ⟨by (with_reducible repeat (first | apply zRa | apply zRn | apply zRd)); exact HO103.out⟩, ⟨by repeat (first | (with_reducible first | exact HB.out | apply zba | apply zbn | apply zbd) | exact HB.out)⟩⟩
 clear H'
 try clear c1
 try clear p2
 obtain ⟨x4_1, rfl, HA, HK1, HO_3, HB⟩ := hrel
 cases gk with
 | zero => exact absurd HA.out (by simp [spec_vaRank.l0])
 | succ k1 =>
 have H := HA.out
 clear HA
 simp only [spec_vaRank.l0] at H
 by_cases c4 : 0 ≤ x4_1
 rotate_left
 · rw [if_neg c4] at H
   exact absurd H (by simp)
 rw [if_pos c4] at H
 have c4b0 : decide (0 ≤ x4_1) = true := zdt c4
 clear c4
 by_cases c5 : x4_1 < (y101.length : Int)
 rotate_left
 · rw [if_neg c5] at H
   exact absurd H (by simp)
 rw [if_pos c5] at H
 have c5b0 : decide (x4_1 < (y101.length : Int)) = true := zdt c5
 clear c5
 by_cases c6 : (rdOf ByteArray.empty y101 x4_1).toList = a0.toList
 · rw [if_pos c6] at H
   have c6b0 : ((rdOf ByteArray.empty y101 x4_1).toList == a0.toList) = true := beq_iff_eq.mpr c6
   have c6b1 : ((rdOf ByteArray.empty y101 x4_1).toList != a0.toList) = false := bne_eq_false_iff_eq.mpr c6
   clear c6
   obtain rfl := zsi H
   obtain ⟨Ao7, co7, eo7⟩ := Kd.R_slice HO_3.out
   subst eo7
   have p104 : 0 ≤ (x4_1 : Int) := zde (by assumption)
   have q104 : x4_1 < (y101.length : Int) := zde (by assumption)
   obtain ⟨ad104, e104, hx104_0⟩ := Kd.at_string (zRr HO_3.out).2.2 x4_1 p104 q104
   cases e104
   replace p104 := eq_true p104
   replace q104 := eq_true q104
   go_wp2
   go_ret
   exact ⟨by first | rfl | (simp [errW_none, errW_some] <;> rfl) | (simp [*, errW_none, errW_some] <;> rfl), by repeat (first | (with_reducible first | exact HB.out | apply zba | apply zbn | apply zbd) | exact HB.out)⟩
 rw [if_neg c6] at H
 have c6b0 : ((rdOf ByteArray.empty y101 x4_1).toList == a0.toList) = false := beq_eq_false_iff_ne.mpr c6
 have c6b1 : ((rdOf ByteArray.empty y101 x4_1).toList != a0.toList) = true := bne_iff_ne.mpr c6
 have H' := zA H
 clear H
 obtain ⟨Ao8, co8, eo8⟩ := Kd.R_slice HO_3.out
 subst eo8
 have p104 : 0 ≤ (x4_1 : Int) := zde (by assumption)
 have q104 : x4_1 < (y101.length : Int) := zde (by assumption)
 obtain ⟨ad104, e104, hx104_0⟩ := Kd.at_string (zRr HO_3.out).2.2 x4_1 p104 q104
 cases e104
 replace p104 := eq_true p104
 replace q104 := eq_true q104
 go_wp2
 go_roundg k1
 case measure => have := HK1.out; omega
 case rel => exact ⟨(wrap64 (x4_1 + 1)), (by first | rfl | (simp; done) | (simp [*]; done)), H', ⟨by have := HK1.out; omega⟩, ⟨by (with_reducible repeat (first | apply zRa | apply zRn | apply zRd)); exact HO_3.out⟩, ⟨by repeat (first | (with_reducible first | exact HB.out | apply zba | apply zbn | apply zbd) | exact HB.out)⟩⟩
end Go.Proofs.Ytkfkbmlbpeojaaa.Q
end
section
namespace Go.Proofs.Ytkfkbmlbpeojaaa.Q
open Go.RowKit Go.Proofs.YtkfkbmlbpeojaaaW.PrintWords Go.Proofs.YtkfkbmlbpeojaaaW.PrintLast Go.Proofs.YtkfkbmlbpeojaaaW.PrintMore
attribute [local go_sem] max2_int min2_int max_two min_two max_three min_three max_four min_four
set_option linter.unusedVariables false
set_option linter.unusedSimpArgs false
mutual
def spec_vaCmp.l0 : Nat → List (S72) → List Int → List Int → Int → Int → Option (Int)
 | 0, _, _, _, _, _ => none
 | k + 1, x0, x9, x49, x50, x51 => if x51 < x50 then (if 0 ≤ x51 then (if x51 < (x49.length : Int) then (if x51 < (x9.length : Int) then ((spec_vaCmp.f k x0 (rd x49 x51) (rd x9 x51)).bind fun t115 => (if t115 = 0 then (spec_vaCmp.l0 k x0 x9 x49 x50 (wrap64 (x51 + 1))) else (some t115))) else (none)) else (none)) else (none)) else (some 0)
def spec_vaCmp.f : Nat → List (S72) → Int → Int → Option (Int)
 | 0, _, _, _ => none
 | k + 1, l0, a1, a2 => if a1 = a2 then (some 0) else (if 0 ≤ a1 then (if a1 < (l0.length : Int) then (if 0 ≤ a2 then (if a2 < (l0.length : Int) then (if ((rd_T72 l0 a1).f0).toList = ((rd_T72 l0 a2).f0).toList then (if ((rd_T72 l0 a1).f3) = ((rd_T72 l0 a2).f3) then ((spec_exParts.f k ((rd_T72 l0 a2).f0) ((rd_T72 l0 a2).f1) ((rd_T72 l0 a2).f2) ((rd_T72 l0 a2).f3)).bind fun t107 => ((spec_exParts.f k ((rd_T72 l0 a1).f0) ((rd_T72 l0 a1).f1) ((rd_T72 l0 a1).f2) ((rd_T72 l0 a1).f3)).bind fun t110 => (spec_vaCmp.l0 k l0 t107 t110 (t110.length : Int) 0))) else (some (wrap64 (((rd_T72 l0 a1).f3) - ((rd_T72 l0 a2).f3))))) else ((spec_vaRank.f k ((rd_T72 l0 a1).f0)).bind fun t105 => ((spec_vaRank.f k ((rd_T72 l0 a2).f0)).bind fun t106 => (some (wrap64 (t105 - t106)))))) else (none)) else (none)) else (none)) else (none))
end
theorem spec_vaCmp.mono_l : ∀ k, (∀ y0 y1 y2, LeO (spec_vaCmp.f k y0 y1 y2) (spec_vaCmp.f (k + 1) y0 y1 y2)) ∧ (∀ y0 y1 y2 y3 y4, LeO (spec_vaCmp.l0 k y0 y1 y2 y3 y4) (spec_vaCmp.l0 (k + 1) y0 y1 y2 y3 y4))
 | 0 => ⟨fun _ _ _ r h => by simp [spec_vaCmp.f] at h, fun _ _ _ _ _ r h => by simp [spec_vaCmp.l0] at h⟩
 | k + 1 => by
   obtain ⟨ih0, ih1⟩ := spec_vaCmp.mono_l k
   refine ⟨?_, ?_⟩
   · intro y0 y1 y2
     unfold spec_vaCmp.f
     repeat' first
     | (with_reducible first | exact ih0 _ _ _ | exact ih1 _ _ _ _ _ | exact spec_exParts.mono _ _ _ _ _ | exact spec_vaRank.mono _ _ | exact LeO.refl _ | exact LeO.none _ | refine LeO.ite ?_ ?_ | refine LeO.bind ?_ (fun _ => ?_))
     | exact LeO.none _
     | refine LeO.ite ?_ ?_
     | refine LeO.bind ?_ (fun _ => ?_)
   · intro y0 y1 y2 y3 y4
     unfold spec_vaCmp.l0
     repeat' first
     | (with_reducible first | exact ih0 _ _ _ | exact ih1 _ _ _ _ _ | exact spec_exParts.mono _ _ _ _ _ | exact spec_vaRank.mono _ _ | exact LeO.refl _ | exact LeO.none _ | refine LeO.ite ?_ ?_ | refine LeO.bind ?_ (fun _ => ?_))
     | exact LeO.none _
     | refine LeO.ite ?_ ?_
     | refine LeO.bind ?_ (fun _ => ?_)
theorem spec_vaCmp.mono : ∀ a0 a1 a2 k, LeO (spec_vaCmp.f k a0 a1 a2) (spec_vaCmp.f (k + 1) a0 a1 a2) := by
 intro a0 a1 a2 k
 obtain ⟨ih0, ih1⟩ := spec_vaCmp.mono_l k
 exact ih0 a0 a1 a2
def spec_vaCmp.T3 : Bool × List (List Nat × List Nat) := (true, [([], []), ([], []), ([0, 1], [0, 1]), ([2], [2]), ([], []), ([], []), ([4, 5], [4, 5]), ([6], [6]), ([], []), ([], []), ([8, 3, 0, 1, 2, 3, 8, 9], [3, 8]), ([9, 7, 10, 0, 1, 2, 3, 4, 5, 6, 7, 8, 9, 10], [7, 9])])
def spec_vaCmp.B3 : List Nat := [0, 0, 3, 7, 0, 0, 48, 112, 0, 0, 783, 2047]
theorem spec_vaCmp.tab3 : rtab .any (opsOf Try.f97 3) = spec_vaCmp.T3 := by kernel_rfl
theorem spec_vaCmp.bits3 : waitsOk spec_vaCmp.T3.2 spec_vaCmp.B3 = true := by kernel_rfl
def spec_vaCmp.T5 : Bool × List (List Nat × List Nat) := (true, [([], []), ([0], [0]), ([1], [1]), ([], []), ([3], [3]), ([4, 2], [4]), ([2, 5], [2, 5]), ([6, 5, 0, 1, 2, 3, 4, 5, 6], [6])])
def spec_vaCmp.B5 : List Nat := [0, 1, 3, 0, 8, 31, 63, 127]
theorem spec_vaCmp.tab5 : rtab .any (opsOf Try.f97 5) = spec_vaCmp.T5 := by kernel_rfl
theorem spec_vaCmp.bits5 : waitsOk spec_vaCmp.T5.2 spec_vaCmp.B5 = true := by kernel_rfl
set_option maxHeartbeats 8000000 in
set_option maxRecDepth 100000 in
theorem spec_vaCmp.calls (k : Nat) : ∀ (A0 : Option Addr) (c0 : Nat) (l0 : List (S72)) (a1 : Int) (a2 : Int) (r : Int) (w : World) (hr0 : Kd.C k72 w A0 l0.length l0) (hc0 : l0.length ≤ c0) (h : spec_vaCmp.f k l0 a1 a2 = some r),
   Calls Try.prog 97 #[.slice A0 l0.length c0, .int .i64 a1, .int .i64 a2] w fun e w' => e = .returned (.int .i64 r) ∧ Below w.heap.size w w' := by
 induction k using Nat.strongRecOn with
 | _ k ih =>
 intro A0 c0 l0 a1 a2 r w hr0 hc0 h
 cases k with
 | zero => exact absurd h (by simp [spec_vaCmp.f])
 | succ k =>
 simp only [spec_vaCmp.f] at h
 have hu72 := Try.underlying72
 have HR0 := zA hr0
 have HC0 := zA hc0
 clear hr0 hc0
 have HB := zA (Below.refl w.heap.size w)
 have H : (if a1 = a2 then (some 0) else (if 0 ≤ a1 then (if a1 < (l0.length : Int) then (if 0 ≤ a2 then (if a2 < (l0.length : Int) then (if ((rd_T72 l0 a1).f0).toList = ((rd_T72 l0 a2).f0).toList then (if ((rd_T72 l0 a1).f3) = ((rd_T72 l0 a2).f3) then ((spec_exParts.f k ((rd_T72 l0 a2).f0) ((rd_T72 l0 a2).f1) ((rd_T72 l0 a2).f2) ((rd_T72 l0 a2).f3)).bind fun t107 => ((spec_exParts.f k ((rd_T72 l0 a1).f0) ((rd_T72 l0 a1).f1) ((rd_T72 l0 a1).f2) ((rd_T72 l0 a1).f3)).bind fun t110 => (spec_vaCmp.l0 k l0 t107 t110 (t110.length : Int) 0))) else (some (wrap64 (((rd_T72 l0 a1).f3) - ((rd_T72 l0 a2).f3))))) else ((spec_vaRank.f k ((rd_T72 l0 a1).f0)).bind fun t105 => ((spec_vaRank.f k ((rd_T72 l0 a2).f0)).bind fun t106 => (some (wrap64 (t105 - t106)))))) else (none)) else (none)) else (none)) else (none))) = some r := h
 clear h
 by_cases c4 : a1 = a2
 · rw [if_pos c4] at H
   have c4b0 : (a1 == a2) = true := beq_iff_eq.mpr c4
   have c4b1 : (a1 != a2) = false := bne_eq_false_iff_eq.mpr c4
   clear c4
   obtain rfl := zsi H
   go_enter Try.func97, Try.ntmps97
   go_wp2
   go_ret
   exact ⟨by first | rfl | (simp [errW_none, errW_some] <;> rfl) | (simp [*, errW_none, errW_some] <;> rfl), by repeat (first | (with_reducible first | exact HB.out | apply zba | apply zbn | apply zbd) | exact HB.out)⟩
 rw [if_neg c4] at H
 have c4b0 : (a1 == a2) = false := beq_eq_false_iff_ne.mpr c4
 have c4b1 : (a1 != a2) = true := bne_iff_ne.mpr c4
 by_cases c5 : 0 ≤ a1
 rotate_left
 · rw [if_neg c5] at H
   exact absurd H (by simp)
 rw [if_pos c5] at H
 have c5b0 : decide (0 ≤ a1) = true := zdt c5
 clear c5
 by_cases c6 : a1 < (l0.length : Int)
 rotate_left
 · rw [if_neg c6] at H
   exact absurd H (by simp)
 rw [if_pos c6] at H
 have c6b0 : decide (a1 < (l0.length : Int)) = true := zdt c6
 clear c6
 by_cases c7 : 0 ≤ a2
 rotate_left
 · rw [if_neg c7] at H
   exact absurd H (by simp)
 rw [if_pos c7] at H
 have c7b0 : decide (0 ≤ a2) = true := zdt c7
 clear c7
 by_cases c8 : a2 < (l0.length : Int)
 rotate_left
 · rw [if_neg c8] at H
   exact absurd H (by simp)
 rw [if_pos c8] at H
 have c8b0 : decide (a2 < (l0.length : Int)) = true := zdt c8
 clear c8
 by_cases c9 : ((rd_T72 l0 a1).f0).toList = ((rd_T72 l0 a2).f0).toList
 rotate_left
 · rw [if_neg c9] at H
   have c9b0 : (((rd_T72 l0 a1).f0).toList == ((rd_T72 l0 a2).f0).toList) = false := beq_eq_false_iff_ne.mpr c9
   have c9b1 : (((rd_T72 l0 a1).f0).toList != ((rd_T72 l0 a2).f0).toList) = true := bne_iff_ne.mpr c9
   replace H := zob H
   obtain ⟨t105, A570, H⟩ := H
   replace H : ((spec_vaRank.f k ((rd_T72 l0 a2).f0)).bind fun t106 => (some (wrap64 (t105 - t106)))) = some r := H
   have A57 := zA A570
   clear A570
   replace H := zob H
   obtain ⟨t106, A580, H⟩ := H
   replace H : (some (wrap64 (t105 - t106))) = some r := H
   have A58 := zA A580
   clear A580
   obtain rfl := zsi H
   go_enter Try.func97, Try.ntmps97
   try go_wp2
   have n0_ := zA (zbd HB.out)
   clear HB
   have HB := n0_
   clear n0_
   have p101 : 0 ≤ (a1 : Int) := zde (by assumption)
   have q101 : a1 < (l0.length : Int) := zde (by assumption)
   obtain ⟨ad101, e101, hx101_0, hx101_1, hx101_2, hx101_3⟩ := at_T72 HR0.out a1 p101 q101
   have hw101_3 := hx101_3
   have hw101_2 := hx101_2
   have hw101_1 := hx101_1
   have hw101_0 := hx101_0
   cases e101
   replace hx101_0 := zkep HB.out hx101_0
   replace hx101_1 := zkep HB.out hx101_1
   replace hx101_2 := zkep HB.out hx101_2
   replace hx101_3 := zkep HB.out hx101_3
   replace p101 := eq_true p101
   replace q101 := eq_true q101
   have p102 : 0 ≤ (a2 : Int) := zde (by assumption)
   have q102 : a2 < (l0.length : Int) := zde (by assumption)
   obtain ⟨ad102, e102, hx102_0, hx102_1, hx102_2, hx102_3⟩ := at_T72 HR0.out a2 p102 q102
   have hw102_3 := hx102_3
   have hw102_2 := hx102_2
   have hw102_1 := hx102_1
   have hw102_0 := hx102_0
   obtain rfl : ad101 = ad102 := (by injection e102)
   replace hx102_0 := zkep HB.out hx102_0
   replace hx102_1 := zkep HB.out hx102_1
   replace hx102_2 := zkep HB.out hx102_2
   replace hx102_3 := zkep HB.out hx102_3
   replace p102 := eq_true p102
   replace q102 := eq_true q102
   refine start_ (n := 12) (S := fun w' => w'.cell? (ad101.add ((a1).toNat * 4)) = some (.string ((rd_T72 l0 a1).f0)) ∧ w'.cell? ⟨(ad101.add ((a1).toNat * 4)).block, (ad101.add ((a1).toNat * 4)).off + 1, none⟩ = some (.int .i64 ((rd_T72 l0 a1).f1)) ∧ w'.cell? ⟨(ad101.add ((a1).toNat * 4)).block, (ad101.add ((a1).toNat * 4)).off + 2, none⟩ = some (.int .i64 ((rd_T72 l0 a1).f2)) ∧ w'.cell? ⟨(ad101.add ((a1).toNat * 4)).block, (ad101.add ((a1).toNat * 4)).off + 3, none⟩ = some (.int .i64 ((rd_T72 l0 a1).f3)) ∧ w'.cell? (ad101.add ((a2).toNat * 4)) = some (.string ((rd_T72 l0 a2).f0)) ∧ w'.cell? ⟨(ad101.add ((a2).toNat * 4)).block, (ad101.add ((a2).toNat * 4)).off + 1, none⟩ = some (.int .i64 ((rd_T72 l0 a2).f1)) ∧ w'.cell? ⟨(ad101.add ((a2).toNat * 4)).block, (ad101.add ((a2).toNat * 4)).off + 2, none⟩ = some (.int .i64 ((rd_T72 l0 a2).f2)) ∧ w'.cell? ⟨(ad101.add ((a2).toNat * 4)).block, (ad101.add ((a2).toNat * 4)).off + 3, none⟩ = some (.int .i64 ((rd_T72 l0 a2).f3))) (ds := []) #[false, false, false, false, false, false, false, false, false, false, false, false] (by kernel_rfl) rfl rfl ⟨(zkep HB.out hw101_0), (zkep HB.out hw101_1), (zkep HB.out hw101_2), (zkep HB.out hw101_3), (zkep HB.out hw102_0), (zkep HB.out hw102_1), (zkep HB.out hw102_2), (zkep HB.out hw102_3)⟩ (fun hHeld => ?_); refine with_tabW spec_vaCmp.tab3 spec_vaCmp.bits3 (fun HT_ HW_ => ?_)
   generalize w.drew = w59 at HB hx101_0 hx101_1 hx101_2 hx101_3 hx102_0 hx102_1 hx102_2 hx102_3 hHeld ⊢
   refine pure_ (i := 0) (N := some 16) (v := ?_) (a' := ?_) #[true, false, false, false, false, false, false, false, false, false, false, false] rfl rfl (any_of HT_.out (by kernel_rfl)) (fun _ _ _ h => h) (Or.inl ⟨by rfl, ?_⟩) ?_ ?_
   rotate_left
   · intro w'
     go_simp
     with_reducible rfl
   rotate_left
   · simp only [Act.put, List.setIfInBounds_toArray, List.set_cons_zero, List.set_cons_succ, i64_w, i32_w]
     rfl
   refine pure_ (i := 1) (N := some 17) (v := ?_) (a' := ?_) #[true, true, false, false, false, false, false, false, false, false, false, false] rfl rfl (any_of HT_.out (by kernel_rfl)) (fun _ _ _ h => h) (Or.inl ⟨by rfl, ?_⟩) ?_ ?_
   rotate_left
   · intro w'
     go_simp
     with_reducible rfl
   rotate_left
   · simp only [Act.put, List.setIfInBounds_toArray, List.set_cons_zero, List.set_cons_succ, i64_w, i32_w]
     rfl
   refine pure_ (i := 2) (N := some 18) (v := ?_) (a' := ?_) #[true, true, true, false, false, false, false, false, false, false, false, false] rfl rfl (any_of HT_.out (by kernel_rfl)) (fun _ _ _ h => h) (Or.inl ⟨by rfl, ?_⟩) ?_ ?_
   rotate_left
   · intro w'
     go_simp
     with_reducible rfl
   rotate_left
   · simp only [Act.put, List.setIfInBounds_toArray, List.set_cons_zero, List.set_cons_succ, i64_w, i32_w]
     rfl
   refine pure_ (i := 4) (N := some 20) (v := ?_) (a' := ?_) #[true, true, true, false, true, false, false, false, false, false, false, false] rfl rfl (any_of HT_.out (by kernel_rfl)) (fun _ _ _ h => h) (Or.inl ⟨by rfl, ?_⟩) ?_ ?_
   rotate_left
   · intro w'
     go_simp
     with_reducible rfl
   rotate_left
   · simp only [Act.put, List.setIfInBounds_toArray, List.set_cons_zero, List.set_cons_succ, i64_w, i32_w]
     rfl
   refine pure_ (i := 5) (N := some 21) (v := ?_) (a' := ?_) #[true, true, true, false, true, true, false, false, false, false, false, false] rfl rfl (any_of HT_.out (by kernel_rfl)) (fun _ _ _ h => h) (Or.inl ⟨by rfl, ?_⟩) ?_ ?_
   rotate_left
   · intro w'
     go_simp
     with_reducible rfl
   rotate_left
   · simp only [Act.put, List.setIfInBounds_toArray, List.set_cons_zero, List.set_cons_succ, i64_w, i32_w]
     rfl
   refine pure_ (i := 6) (N := some 22) (v := ?_) (a' := ?_) #[true, true, true, false, true, true, true, false, false, false, false, false] rfl rfl (any_of HT_.out (by kernel_rfl)) (fun _ _ _ h => h) (Or.inl ⟨by rfl, ?_⟩) ?_ ?_
   rotate_left
   · intro w'
     go_simp
     with_reducible rfl
   rotate_left
   · simp only [Act.put, List.setIfInBounds_toArray, List.set_cons_zero, List.set_cons_succ, i64_w, i32_w]
     rfl
   refine take_ (i := 3) (N := some 19) (v := ?_) (a' := ?_) #[true, true, true, true, true, true, true, false, false, false, false, false] rfl rfl (take_ofW HT_.out HW_.out (by kernel_rfl)) (fun _ _ _ h => h) (Or.inl ⟨by rfl, ?_⟩) hHeld ?_ ?_
   rotate_left
   · rintro w' ⟨s0, s1, s2, s3, s4, s5, s6, s7⟩
     go_simp
     with_reducible rfl
   rotate_left
   · simp only [Act.put, List.setIfInBounds_toArray, List.set_cons_zero, List.set_cons_succ, i64_w, i32_w]
     rfl
   refine take_ (i := 7) (N := some 23) (v := ?_) (a' := ?_) #[true, true, true, true, true, true, true, true, false, false, false, false] rfl rfl (take_ofW HT_.out HW_.out (by kernel_rfl)) (fun _ _ _ h => h) (Or.inl ⟨by rfl, ?_⟩) hHeld ?_ ?_
   rotate_left
   · rintro w' ⟨s0, s1, s2, s3, s4, s5, s6, s7⟩
     go_simp
     with_reducible rfl
   rotate_left
   · simp only [Act.put, List.setIfInBounds_toArray, List.set_cons_zero, List.set_cons_succ, i64_w, i32_w]
     rfl
   refine join_ (σ := Nat × Nat) 2 #[true, true, true, true, true, true, true, true, true, true, false, false] (fun s_ => [(7, .pointer (some ⟨s_.1, 0, none⟩)), (8, .pointer (some ⟨s_.2, 0, none⟩))]) (fun s_ w' => (w'.cell? (ad101.add ((a1).toNat * 4)) = some (.string ((rd_T72 l0 a1).f0)) ∧ w'.cell? ⟨(ad101.add ((a1).toNat * 4)).block, (ad101.add ((a1).toNat * 4)).off + 1, none⟩ = some (.int .i64 ((rd_T72 l0 a1).f1)) ∧ w'.cell? ⟨(ad101.add ((a1).toNat * 4)).block, (ad101.add ((a1).toNat * 4)).off + 2, none⟩ = some (.int .i64 ((rd_T72 l0 a1).f2)) ∧ w'.cell? ⟨(ad101.add ((a1).toNat * 4)).block, (ad101.add ((a1).toNat * 4)).off + 3, none⟩ = some (.int .i64 ((rd_T72 l0 a1).f3)) ∧ w'.cell? (ad101.add ((a2).toNat * 4)) = some (.string ((rd_T72 l0 a2).f0)) ∧ w'.cell? ⟨(ad101.add ((a2).toNat * 4)).block, (ad101.add ((a2).toNat * 4)).off + 1, none⟩ = some (.int .i64 ((rd_T72 l0 a2).f1)) ∧ w'.cell? ⟨(ad101.add ((a2).toNat * 4)).block, (ad101.add ((a2).toNat * 4)).off + 2, none⟩ = some (.int .i64 ((rd_T72 l0 a2).f2)) ∧ w'.cell? ⟨(ad101.add ((a2).toNat * 4)).block, (ad101.add ((a2).toNat * 4)).off + 3, none⟩ = some (.int .i64 ((rd_T72 l0 a2).f3))) ∧ (w'.heap[s_.1]? = some (.cells #[.string (⟨#[]⟩ : ByteArray), .int .i64 0, .int .i64 0, .int .i64 0] 72 (0, 0))) ∧ (w'.heap[s_.2]? = some (.cells #[.string (⟨#[]⟩ : ByteArray), .int .i64 0, .int .i64 0, .int .i64 0] 72 (0, 0))) ∧ (w.heap.size ≤ s_.1) ∧ (w.heap.size ≤ s_.1) ∧ (s_.2 ≠ s_.1) ∧ (s_.1 ≠ s_.2) ∧ (w.heap.size ≤ s_.2) ∧ (w.heap.size ≤ s_.2) ∧ (Below w.heap.size w w')) ?_ ?_
   rotate_left
   · intro hCont
     refine two_ (i := 8) (j := 9) (Ni := some 7) (Nj := some 8) #[true, true, true, true, true, true, true, true, true, false, false, false] #[true, true, true, true, true, true, true, true, false, true, false, false] rfl rfl rfl rfl (two_of HT_.out (by kernel_rfl)) (by decide) (by decide) (fun K hK => ?_) (fun K hK => ?_)
     · skip
       refine box_step ?hg (N := 7) ?hd (cs := #[.string (⟨#[]⟩ : ByteArray), .int .i64 0, .int .i64 0, .int .i64 0]) (t := 72) ?hr ?_; (case hd => rfl); (case hg => rfl); (case hr => go_simp <;> rfl)
       intro gb103 hg w60 hbox hb
       have n0_ := zA (below_step (by repeat (first | (with_reducible first | exact HB.out | apply zba | apply zbn | apply zbd) | exact HB.out)) hb)
       have n1_ := zA (hbox)
       have n2_ := zA ((by rw [hg]; exact (below_size (by repeat (first | (with_reducible first | exact HB.out | apply zba | apply zbn | apply zbd) | exact HB.out))) : w.heap.size ≤ gb103))
       have n3_ := zA ((by rw [hg]; exact (below_size (by repeat (first | (with_reducible first | exact HB.out | apply zba | apply zbn | apply zbd) | exact HB.out))) : w.heap.size ≤ gb103))
       clear HB
       have HB := n0_
       have BK103 := n1_
       have GW103 := n2_
       have GE103 := n3_
       clear n0_ n1_ n2_ n3_
       clear hb hbox hg
       refine hK.out _ _ ⟨(zkep HB.out hw101_0), (zkep HB.out hw101_1), (zkep HB.out hw101_2), (zkep HB.out hw101_3), (zkep HB.out hw102_0), (zkep HB.out hw102_1), (zkep HB.out hw102_2), (zkep HB.out hw102_3)⟩ (fun hHeld => ?_)
       clear hK K
       refine norm_ (a' := ?_) ?_ ?_
       rotate_left
       · show Act.put _ (some 7) _ = _
         simp only [Act.put, List.setIfInBounds_toArray, List.set_cons_zero, List.set_cons_succ, i64_w, i32_w]
         rfl
       refine one_ (i := 9) (N := some 8) #[true, true, true, true, true, true, true, true, true, true, false, false] rfl rfl (one_of HT_.out (by kernel_rfl)) (by decide) (fun K hK => ?_)
       refine box_step ?hg (N := 8) ?hd (cs := #[.string (⟨#[]⟩ : ByteArray), .int .i64 0, .int .i64 0, .int .i64 0]) (t := 72) ?hr ?_; (case hd => rfl); (case hg => rfl); (case hr => go_simp <;> rfl)
       intro gb104 hg w61 hbox hb
       have n0_ := zA (blk_below (g := gb103) (o := .cells #[.string (⟨#[]⟩ : ByteArray), .int .i64 0, .int .i64 0, .int .i64 0] 72 (0, 0)) (by (with_reducible repeat (first | refine zkn ?_ _ | refine zkd ?_ | refine zka ?_ _)); exact BK103.out) hb)
       have n1_ := zA (below_step (by repeat (first | (with_reducible first | exact HB.out | apply zba | apply zbn | apply zbd | refine below_set ?_ GE103.out) | exact HB.out)) hb)
       have n2_ := zA (hbox)
       have n3_ := zA ((by rw [hg]; exact (below_size (by repeat (first | (with_reducible first | exact HB.out | apply zba | apply zbn | apply zbd | refine below_set ?_ GE103.out) | exact HB.out))) : w.heap.size ≤ gb104))
       have n4_ := zA ((by rw [hg]; exact (below_size (by repeat (first | (with_reducible first | exact HB.out | apply zba | apply zbn | apply zbd | refine below_set ?_ GE103.out) | exact HB.out))) : w.heap.size ≤ gb104))
       have n5_ := zA ((by rw [hg]; exact Nat.ne_of_lt (zlt BK103.out (fun h => by (with_reducible repeat (first | refine zkn ?_ _ | refine zkd ?_ | refine zka ?_ _)); exact h)) : gb103 ≠ gb104))
       have n6_ := zA ((by rw [hg]; exact Nat.ne_of_gt (zlt BK103.out (fun h => by (with_reducible repeat (first | refine zkn ?_ _ | refine zkd ?_ | refine zka ?_ _)); exact h)) : gb104 ≠ gb103))
       clear BK103
       clear HB
       have BK103 := n0_
       have HB := n1_
       have BK104 := n2_
       have GW104 := n3_
       have GE104 := n4_
       have NB103_104 := n5_
       have NB104_103 := n6_
       clear n0_ n1_ n2_ n3_ n4_ n5_ n6_
       clear hb hbox hg
       refine hK.out _ _ ⟨(zkep HB.out hw101_0), (zkep HB.out hw101_1), (zkep HB.out hw101_2), (zkep HB.out hw101_3), (zkep HB.out hw102_0), (zkep HB.out hw102_1), (zkep HB.out hw102_2), (zkep HB.out hw102_3)⟩ (fun hHeld => ?_)
       clear hK K
       refine norm_ (a' := ?_) ?_ ?_
       rotate_left
       · show Act.put _ (some 8) _ = _
         simp only [Act.put, List.setIfInBounds_toArray, List.set_cons_zero, List.set_cons_succ, i64_w, i32_w]
         rfl
       exact norm_ (by simp only [putAll, Act.put, List.setIfInBounds_toArray, List.set_cons_zero, List.set_cons_succ]) (hCont (gb103, gb104) _ ⟨hHeld, (by (with_reducible repeat (first | refine zkn ?_ _ | refine zkd ?_ | refine zka ?_ _)); exact BK103.out), (by (with_reducible repeat (first | refine zkn ?_ _ | refine zkd ?_ | refine zka ?_ _)); exact BK104.out), GW103.out, GE103.out, NB104_103.out, NB103_104.out, GW104.out, GE104.out, (by repeat (first | (with_reducible first | exact HB.out | apply zba | apply zbn | apply zbd | refine below_set ?_ GE103.out | refine below_set ?_ GE104.out) | exact HB.out))⟩)
     skip
     refine box_step ?hg (N := 8) ?hd (cs := #[.string (⟨#[]⟩ : ByteArray), .int .i64 0, .int .i64 0, .int .i64 0]) (t := 72) ?hr ?_; (case hd => rfl); (case hg => rfl); (case hr => go_simp <;> rfl)
     intro gb104 hg w60 hbox hb
     have n0_ := zA (below_step (by repeat (first | (with_reducible first | exact HB.out | apply zba | apply zbn | apply zbd) | exact HB.out)) hb)
     have n1_ := zA (hbox)
     have n2_ := zA ((by rw [hg]; exact (below_size (by repeat (first | (with_reducible first | exact HB.out | apply zba | apply zbn | apply zbd) | exact HB.out))) : w.heap.size ≤ gb104))
     have n3_ := zA ((by rw [hg]; exact (below_size (by repeat (first | (with_reducible first | exact HB.out | apply zba | apply zbn | apply zbd) | exact HB.out))) : w.heap.size ≤ gb104))
     clear HB
     have HB := n0_
     have BK104 := n1_
     have GW104 := n2_
     have GE104 := n3_
     clear n0_ n1_ n2_ n3_
     clear hb hbox hg
     refine hK.out _ _ ⟨(zkep HB.out hw101_0), (zkep HB.out hw101_1), (zkep HB.out hw101_2), (zkep HB.out hw101_3), (zkep HB.out hw102_0), (zkep HB.out hw102_1), (zkep HB.out hw102_2), (zkep HB.out hw102_3)⟩ (fun hHeld => ?_)
     clear hK K
     refine norm_ (a' := ?_) ?_ ?_
     rotate_left
     · show Act.put _ (some 8) _ = _
       simp only [Act.put, List.setIfInBounds_toArray, List.set_cons_zero, List.set_cons_succ, i64_w, i32_w]
       rfl
     refine one_ (i := 8) (N := some 7) #[true, true, true, true, true, true, true, true, true, true, false, false] rfl rfl (one_of HT_.out (by kernel_rfl)) (by decide) (fun K hK => ?_)
     refine box_step ?hg (N := 7) ?hd (cs := #[.string (⟨#[]⟩ : ByteArray), .int .i64 0, .int .i64 0, .int .i64 0]) (t := 72) ?hr ?_; (case hd => rfl); (case hg => rfl); (case hr => go_simp <;> rfl)
     intro gb103 hg w61 hbox hb
     have n0_ := zA (blk_below (g := gb104) (o := .cells #[.string (⟨#[]⟩ : ByteArray), .int .i64 0, .int .i64 0, .int .i64 0] 72 (0, 0)) (by (with_reducible repeat (first | refine zkn ?_ _ | refine zkd ?_ | refine zka ?_ _)); exact BK104.out) hb)
     have n1_ := zA (below_step (by repeat (first | (with_reducible first | exact HB.out | apply zba | apply zbn | apply zbd | refine below_set ?_ GE104.out) | exact HB.out)) hb)
     have n2_ := zA (hbox)
     have n3_ := zA ((by rw [hg]; exact (below_size (by repeat (first | (with_reducible first | exact HB.out | apply zba | apply zbn | apply zbd | refine below_set ?_ GE104.out) | exact HB.out))) : w.heap.size ≤ gb103))
     have n4_ := zA ((by rw [hg]; exact (below_size (by repeat (first | (with_reducible first | exact HB.out | apply zba | apply zbn | apply zbd | refine below_set ?_ GE104.out) | exact HB.out))) : w.heap.size ≤ gb103))
     have n5_ := zA ((by rw [hg]; exact Nat.ne_of_lt (zlt BK104.out (fun h => by (with_reducible repeat (first | refine zkn ?_ _ | refine zkd ?_ | refine zka ?_ _)); exact h)) : gb104 ≠ gb103))
     have n6_ := zA ((by rw [hg]; exact Nat.ne_of_gt (zlt BK104.out (fun h => by (with_reducible repeat (first | refine zkn ?_ _ | refine zkd ?_ | refine zka ?_ _)); exact h)) : gb103 ≠ gb104))
     clear BK104
     clear HB
     have BK104 := n0_
     have HB := n1_
     have BK103 := n2_
     have GW103 := n3_
     have GE103 := n4_
     have NB104_103 := n5_
     have NB103_104 := n6_
     clear n0_ n1_ n2_ n3_ n4_ n5_ n6_
     clear hb hbox hg
     refine hK.out _ _ ⟨(zkep HB.out hw101_0), (zkep HB.out hw101_1), (zkep HB.out hw101_2), (zkep HB.out hw101_3), (zkep HB.out hw102_0), (zkep HB.out hw102_1), (zkep HB.out hw102_2), (zkep HB.out hw102_3)⟩ (fun hHeld => ?_)
     clear hK K
     refine norm_ (a' := ?_) ?_ ?_
     rotate_left
     · show Act.put _ (some 7) _ = _
       simp only [Act.put, List.setIfInBounds_toArray, List.set_cons_zero, List.set_cons_succ, i64_w, i32_w]
       rfl
     exact norm_ (by simp only [putAll, Act.put, List.setIfInBounds_toArray, List.set_cons_zero, List.set_cons_succ]) (hCont (gb103, gb104) _ ⟨hHeld, (by (with_reducible repeat (first | refine zkn ?_ _ | refine zkd ?_ | refine zka ?_ _)); exact BK103.out), (by (with_reducible repeat (first | refine zkn ?_ _ | refine zkd ?_ | refine zka ?_ _)); exact BK104.out), GW103.out, GE103.out, NB104_103.out, NB103_104.out, GW104.out, GE104.out, (by repeat (first | (with_reducible first | exact HB.out | apply zba | apply zbn | apply zbd | refine below_set ?_ GE104.out | refine below_set ?_ GE103.out) | exact HB.out))⟩)
   rintro ⟨gb103, gb104⟩ w62 ⟨hS_, h0_, h1_, h2_, h3_, h4_, h5_, h6_, h7_, h8_⟩
   have n0_ : Aside0 (w62.heap[gb103]? = some (.cells #[.string (⟨#[]⟩ : ByteArray), .int .i64 0, .int .i64 0, .int .i64 0] 72 (0, 0))) := ⟨h0_⟩
   have n1_ : Aside0 (w62.heap[gb104]? = some (.cells #[.string (⟨#[]⟩ : ByteArray), .int .i64 0, .int .i64 0, .int .i64 0] 72 (0, 0))) := ⟨h1_⟩
   have n2_ : Aside0 (w.heap.size ≤ gb103) := ⟨h2_⟩
   have n3_ : Aside0 (w.heap.size ≤ gb103) := ⟨h3_⟩
   have n4_ : Aside0 (gb104 ≠ gb103) := ⟨h4_⟩
   have n5_ : Aside0 (gb103 ≠ gb104) := ⟨h5_⟩
   have n6_ : Aside0 (w.heap.size ≤ gb104) := ⟨h6_⟩
   have n7_ : Aside0 (w.heap.size ≤ gb104) := ⟨h7_⟩
   have n8_ : Aside0 (Below w.heap.size w w62) := ⟨h8_⟩
   clear HB
   clear h0_ h1_ h2_ h3_ h4_ h5_ h6_ h7_ h8_
   have BK103 := n0_
   have BK104 := n1_
   have GW103 := n2_
   have GE103 := n3_
   have NB104_103 := n4_
   have NB103_104 := n5_
   have GW104 := n6_
   have GE104 := n7_
   have HB := n8_
   clear n0_ n1_ n2_ n3_ n4_ n5_ n6_ n7_ n8_
   have hHeld : w62.cell? (ad101.add ((a1).toNat * 4)) = some (.string ((rd_T72 l0 a1).f0)) ∧ w62.cell? ⟨(ad101.add ((a1).toNat * 4)).block, (ad101.add ((a1).toNat * 4)).off + 1, none⟩ = some (.int .i64 ((rd_T72 l0 a1).f1)) ∧ w62.cell? ⟨(ad101.add ((a1).toNat * 4)).block, (ad101.add ((a1).toNat * 4)).off + 2, none⟩ = some (.int .i64 ((rd_T72 l0 a1).f2)) ∧ w62.cell? ⟨(ad101.add ((a1).toNat * 4)).block, (ad101.add ((a1).toNat * 4)).off + 3, none⟩ = some (.int .i64 ((rd_T72 l0 a1).f3)) ∧ w62.cell? (ad101.add ((a2).toNat * 4)) = some (.string ((rd_T72 l0 a2).f0)) ∧ w62.cell? ⟨(ad101.add ((a2).toNat * 4)).block, (ad101.add ((a2).toNat * 4)).off + 1, none⟩ = some (.int .i64 ((rd_T72 l0 a2).f1)) ∧ w62.cell? ⟨(ad101.add ((a2).toNat * 4)).block, (ad101.add ((a2).toNat * 4)).off + 2, none⟩ = some (.int .i64 ((rd_T72 l0 a2).f2)) ∧ w62.cell? ⟨(ad101.add ((a2).toNat * 4)).block, (ad101.add ((a2).toNat * 4)).off + 3, none⟩ = some (.int .i64 ((rd_T72 l0 a2).f3)) := hS_
   refine norm_ (a' := ?_) ?_ ?_
   rotate_left
   · simp only [putAll, Act.put, List.setIfInBounds_toArray, List.set_cons_zero, List.set_cons_succ]
     rfl
   refine one_ (i := 10) (N := none) #[true, true, true, true, true, true, true, true, true, true, true, false] rfl rfl (one_of HT_.out (by kernel_rfl)) (by decide) (fun K hK => ?_)
   have hs63 : w62.cell? ⟨gb103, 0, none⟩ = some (.string (⟨#[]⟩ : ByteArray)) := (blk_cell BK103.out 0).trans rfl
   have hfs63 := blk_frozen BK103.out 0
   have hns63_1 := NB104_103.out
   have hms63_1 := NB103_104.out
   have hs64 : w62.cell? ⟨gb103, 1, none⟩ = some (.int .i64 0) := (blk_cell BK103.out 1).trans rfl
   have hfs64 := blk_frozen BK103.out 1
   have hns64_1 := NB104_103.out
   have hms64_1 := NB103_104.out
   have hs65 : w62.cell? ⟨gb103, 2, none⟩ = some (.int .i64 0) := (blk_cell BK103.out 2).trans rfl
   have hfs65 := blk_frozen BK103.out 2
   have hns65_1 := NB104_103.out
   have hms65_1 := NB103_104.out
   have hs66 : w62.cell? ⟨gb103, 3, none⟩ = some (.int .i64 0) := (blk_cell BK103.out 3).trans rfl
   have hfs66 := blk_frozen BK103.out 3
   have hns66_1 := NB104_103.out
   have hms66_1 := NB103_104.out
   refine skip_ (w1 := ?_) (by rfl) rfl ?_ ?_
   rotate_left
   · go_simp
     rfl
   refine hK.out _ _ ⟨((cell_far (p := ⟨gb103, _, none⟩) (zfar hw101_0 GW103.out :) _).trans (((cell_far (p := ⟨gb103, _, none⟩) (zfar hw101_0 GW103.out :) _).trans (((cell_far (p := ⟨gb103, _, none⟩) (zfar hw101_0 GW103.out :) _).trans (((cell_far (p := ⟨gb103, _, none⟩) (zfar hw101_0 GW103.out :) _).trans (hHeld.1)))))))), ((cell_far (p := ⟨gb103, _, none⟩) (zfar hw101_1 GW103.out :) _).trans (((cell_far (p := ⟨gb103, _, none⟩) (zfar hw101_1 GW103.out :) _).trans (((cell_far (p := ⟨gb103, _, none⟩) (zfar hw101_1 GW103.out :) _).trans (((cell_far (p := ⟨gb103, _, none⟩) (zfar hw101_1 GW103.out :) _).trans (hHeld.2.1)))))))), ((cell_far (p := ⟨gb103, _, none⟩) (zfar hw101_2 GW103.out :) _).trans (((cell_far (p := ⟨gb103, _, none⟩) (zfar hw101_2 GW103.out :) _).trans (((cell_far (p := ⟨gb103, _, none⟩) (zfar hw101_2 GW103.out :) _).trans (((cell_far (p := ⟨gb103, _, none⟩) (zfar hw101_2 GW103.out :) _).trans (hHeld.2.2.1)))))))), ((cell_far (p := ⟨gb103, _, none⟩) (zfar hw101_3 GW103.out :) _).trans (((cell_far (p := ⟨gb103, _, none⟩) (zfar hw101_3 GW103.out :) _).trans (((cell_far (p := ⟨gb103, _, none⟩) (zfar hw101_3 GW103.out :) _).trans (((cell_far (p := ⟨gb103, _, none⟩) (zfar hw101_3 GW103.out :) _).trans (hHeld.2.2.2.1)))))))), ((cell_far (p := ⟨gb103, _, none⟩) (zfar hw102_0 GW103.out :) _).trans (((cell_far (p := ⟨gb103, _, none⟩) (zfar hw102_0 GW103.out :) _).trans (((cell_far (p := ⟨gb103, _, none⟩) (zfar hw102_0 GW103.out :) _).trans (((cell_far (p := ⟨gb103, _, none⟩) (zfar hw102_0 GW103.out :) _).trans (hHeld.2.2.2.2.1)))))))), ((cell_far (p := ⟨gb103, _, none⟩) (zfar hw102_1 GW103.out :) _).trans (((cell_far (p := ⟨gb103, _, none⟩) (zfar hw102_1 GW103.out :) _).trans (((cell_far (p := ⟨gb103, _, none⟩) (zfar hw102_1 GW103.out :) _).trans (((cell_far (p := ⟨gb103, _, none⟩) (zfar hw102_1 GW103.out :) _).trans (hHeld.2.2.2.2.2.1)))))))), ((cell_far (p := ⟨gb103, _, none⟩) (zfar hw102_2 GW103.out :) _).trans (((cell_far (p := ⟨gb103, _, none⟩) (zfar hw102_2 GW103.out :) _).trans (((cell_far (p := ⟨gb103, _, none⟩) (zfar hw102_2 GW103.out :) _).trans (((cell_far (p := ⟨gb103, _, none⟩) (zfar hw102_2 GW103.out :) _).trans (hHeld.2.2.2.2.2.2.1)))))))), ((cell_far (p := ⟨gb103, _, none⟩) (zfar hw102_3 GW103.out :) _).trans (((cell_far (p := ⟨gb103, _, none⟩) (zfar hw102_3 GW103.out :) _).trans (((cell_far (p := ⟨gb103, _, none⟩) (zfar hw102_3 GW103.out :) _).trans (((cell_far (p := ⟨gb103, _, none⟩) (zfar hw102_3 GW103.out :) _).trans (hHeld.2.2.2.2.2.2.2))))))))⟩ (fun hHeld => ?_)
   clear hK K
   refine one_ (i := 11) (N := none) #[true, true, true, true, true, true, true, true, true, true, true, true] rfl rfl (one_of HT_.out (by kernel_rfl)) (by decide) (fun K hK => ?_)
   have hs67 : w62.cell? ⟨gb104, 0, none⟩ = some (.string (⟨#[]⟩ : ByteArray)) := (blk_cell BK104.out 0).trans rfl
   have hfs67 := blk_frozen BK104.out 0
   have hns67_0 := NB103_104.out
   have hms67_0 := NB104_103.out
   have hs68 : w62.cell? ⟨gb104, 1, none⟩ = some (.int .i64 0) := (blk_cell BK104.out 1).trans rfl
   have hfs68 := blk_frozen BK104.out 1
   have hns68_0 := NB103_104.out
   have hms68_0 := NB104_103.out
   have hs69 : w62.cell? ⟨gb104, 2, none⟩ = some (.int .i64 0) := (blk_cell BK104.out 2).trans rfl
   have hfs69 := blk_frozen BK104.out 2
   have hns69_0 := NB103_104.out
   have hms69_0 := NB104_103.out
   have hs70 : w62.cell? ⟨gb104, 3, none⟩ = some (.int .i64 0) := (blk_cell BK104.out 3).trans rfl
   have hfs70 := blk_frozen BK104.out 3
   have hns70_0 := NB103_104.out
   have hms70_0 := NB104_103.out
   refine skip_ (w1 := ?_) (by rfl) rfl ?_ ?_
   rotate_left
   · go_simp
     rfl
   refine hK.out _ _ ⟨((cell_far (p := ⟨gb104, _, none⟩) (zfar hw101_0 GW104.out :) _).trans (((cell_far (p := ⟨gb104, _, none⟩) (zfar hw101_0 GW104.out :) _).trans (((cell_far (p := ⟨gb104, _, none⟩) (zfar hw101_0 GW104.out :) _).trans (((cell_far (p := ⟨gb104, _, none⟩) (zfar hw101_0 GW104.out :) _).trans (hHeld.1)))))))), ((cell_far (p := ⟨gb104, _, none⟩) (zfar hw101_1 GW104.out :) _).trans (((cell_far (p := ⟨gb104, _, none⟩) (zfar hw101_1 GW104.out :) _).trans (((cell_far (p := ⟨gb104, _, none⟩) (zfar hw101_1 GW104.out :) _).trans (((cell_far (p := ⟨gb104, _, none⟩) (zfar hw101_1 GW104.out :) _).trans (hHeld.2.1)))))))), ((cell_far (p := ⟨gb104, _, none⟩) (zfar hw101_2 GW104.out :) _).trans (((cell_far (p := ⟨gb104, _, none⟩) (zfar hw101_2 GW104.out :) _).trans (((cell_far (p := ⟨gb104, _, none⟩) (zfar hw101_2 GW104.out :) _).trans (((cell_far (p := ⟨gb104, _, none⟩) (zfar hw101_2 GW104.out :) _).trans (hHeld.2.2.1)))))))), ((cell_far (p := ⟨gb104, _, none⟩) (zfar hw101_3 GW104.out :) _).trans (((cell_far (p := ⟨gb104, _, none⟩) (zfar hw101_3 GW104.out :) _).trans (((cell_far (p := ⟨gb104, _, none⟩) (zfar hw101_3 GW104.out :) _).trans (((cell_far (p := ⟨gb104, _, none⟩) (zfar hw101_3 GW104.out :) _).trans (hHeld.2.2.2.1)))))))), ((cell_far (p := ⟨gb104, _, none⟩) (zfar hw102_0 GW104.out :) _).trans (((cell_far (p := ⟨gb104, _, none⟩) (zfar hw102_0 GW104.out :) _).trans (((cell_far (p := ⟨gb104, _, none⟩) (zfar hw102_0 GW104.out :) _).trans (((cell_far (p := ⟨gb104, _, none⟩) (zfar hw102_0 GW104.out :) _).trans (hHeld.2.2.2.2.1)))))))), ((cell_far (p := ⟨gb104, _, none⟩) (zfar hw102_1 GW104.out :) _).trans (((cell_far (p := ⟨gb104, _, none⟩) (zfar hw102_1 GW104.out :) _).trans (((cell_far (p := ⟨gb104, _, none⟩) (zfar hw102_1 GW104.out :) _).trans (((cell_far (p := ⟨gb104, _, none⟩) (zfar hw102_1 GW104.out :) _).trans (hHeld.2.2.2.2.2.1)))))))), ((cell_far (p := ⟨gb104, _, none⟩) (zfar hw102_2 GW104.out :) _).trans (((cell_far (p := ⟨gb104, _, none⟩) (zfar hw102_2 GW104.out :) _).trans (((cell_far (p := ⟨gb104, _, none⟩) (zfar hw102_2 GW104.out :) _).trans (((cell_far (p := ⟨gb104, _, none⟩) (zfar hw102_2 GW104.out :) _).trans (hHeld.2.2.2.2.2.2.1)))))))), ((cell_far (p := ⟨gb104, _, none⟩) (zfar hw102_3 GW104.out :) _).trans (((cell_far (p := ⟨gb104, _, none⟩) (zfar hw102_3 GW104.out :) _).trans (((cell_far (p := ⟨gb104, _, none⟩) (zfar hw102_3 GW104.out :) _).trans (((cell_far (p := ⟨gb104, _, none⟩) (zfar hw102_3 GW104.out :) _).trans (hHeld.2.2.2.2.2.2.2))))))))⟩ (fun hHeld => ?_)
   clear hK K
   refine done_ (done_of HT_.out (by kernel_rfl)) ?_
   have hnb71 := NB103_104.out
   have hnc71 := NB104_103.out
   obtain ⟨hcz72_0, hcz72_1, hcz72_2, hcz72_3⟩ := zc4 w62 (.string (⟨#[]⟩ : ByteArray)) (.int .i64 0) (.int .i64 0) (.int .i64 0) BK103.out
   obtain ⟨hfz72_0, hfz72_1, hfz72_2, hfz72_3⟩ := zf4 BK103.out
   obtain ⟨hcz73_0, hcz73_1, hcz73_2, hcz73_3⟩ := zc4 w62 (.string (⟨#[]⟩ : ByteArray)) (.int .i64 0) (.int .i64 0) (.int .i64 0) BK104.out
   obtain ⟨hfz73_0, hfz73_1, hfz73_2, hfz73_3⟩ := zf4 BK104.out
   try go_wp2
   have n0_ : Aside0 (((((((((w62.setCell ⟨gb103, 0, none⟩ (.string ((rd_T72 l0 a1).f0))).setCell ⟨gb103, 1, none⟩ (.int .i64 ((rd_T72 l0 a1).f1))).setCell ⟨gb103, 2, none⟩ (.int .i64 ((rd_T72 l0 a1).f2))).setCell ⟨gb103, 3, none⟩ (.int .i64 ((rd_T72 l0 a1).f3))).setCell ⟨gb104, 0, none⟩ (.string ((rd_T72 l0 a2).f0))).setCell ⟨gb104, 1, none⟩ (.int .i64 ((rd_T72 l0 a2).f1))).setCell ⟨gb104, 2, none⟩ (.int .i64 ((rd_T72 l0 a2).f2))).setCell ⟨gb104, 3, none⟩ (.int .i64 ((rd_T72 l0 a2).f3))).heap[gb103]? = some (.cells #[.string ((rd_T72 l0 a1).f0), .int .i64 ((rd_T72 l0 a1).f1), .int .i64 ((rd_T72 l0 a1).f2), .int .i64 ((rd_T72 l0 a1).f3)] 72 (0, 0))) := ⟨by (with_reducible repeat (first | refine zkn ?_ _ | refine zkd ?_ | refine zka ?_ _)); refine blk_far ?_ NB103_104.out _; (with_reducible repeat (first | refine zkn ?_ _ | refine zkd ?_ | refine zka ?_ _)); refine blk_far ?_ NB103_104.out _; (with_reducible repeat (first | refine zkn ?_ _ | refine zkd ?_ | refine zka ?_ _)); refine blk_far ?_ NB103_104.out _; (with_reducible repeat (first | refine zkn ?_ _ | refine zkd ?_ | refine zka ?_ _)); refine blk_far ?_ NB103_104.out _; (with_reducible repeat (first | refine zkn ?_ _ | refine zkd ?_ | refine zka ?_ _)); refine blk_put (cs := #[.string ((rd_T72 l0 a1).f0), .int .i64 ((rd_T72 l0 a1).f1), .int .i64 ((rd_T72 l0 a1).f2), .int .i64 0]) ?_ 3 _ rfl; (with_reducible repeat (first | refine zkn ?_ _ | refine zkd ?_ | refine zka ?_ _)); refine blk_put (cs := #[.string ((rd_T72 l0 a1).f0), .int .i64 ((rd_T72 l0 a1).f1), .int .i64 0, .int .i64 0]) ?_ 2 _ rfl; (with_reducible repeat (first | refine zkn ?_ _ | refine zkd ?_ | refine zka ?_ _)); refine blk_put (cs := #[.string ((rd_T72 l0 a1).f0), .int .i64 0, .int .i64 0, .int .i64 0]) ?_ 1 _ rfl; (with_reducible repeat (first | refine zkn ?_ _ | refine zkd ?_ | refine zka ?_ _)); refine blk_put (cs := #[.string (⟨#[]⟩ : ByteArray), .int .i64 0, .int .i64 0, .int .i64 0]) ?_ 0 _ rfl; (with_reducible repeat (first | refine zkn ?_ _ | refine zkd ?_ | refine zka ?_ _)); exact BK103.out⟩
   have n1_ : Aside0 (((((((((w62.setCell ⟨gb103, 0, none⟩ (.string ((rd_T72 l0 a1).f0))).setCell ⟨gb103, 1, none⟩ (.int .i64 ((rd_T72 l0 a1).f1))).setCell ⟨gb103, 2, none⟩ (.int .i64 ((rd_T72 l0 a1).f2))).setCell ⟨gb103, 3, none⟩ (.int .i64 ((rd_T72 l0 a1).f3))).setCell ⟨gb104, 0, none⟩ (.string ((rd_T72 l0 a2).f0))).setCell ⟨gb104, 1, none⟩ (.int .i64 ((rd_T72 l0 a2).f1))).setCell ⟨gb104, 2, none⟩ (.int .i64 ((rd_T72 l0 a2).f2))).setCell ⟨gb104, 3, none⟩ (.int .i64 ((rd_T72 l0 a2).f3))).heap[gb104]? = some (.cells #[.string ((rd_T72 l0 a2).f0), .int .i64 ((rd_T72 l0 a2).f1), .int .i64 ((rd_T72 l0 a2).f2), .int .i64 ((rd_T72 l0 a2).f3)] 72 (0, 0))) := ⟨by (with_reducible repeat (first | refine zkn ?_ _ | refine zkd ?_ | refine zka ?_ _)); refine blk_put (cs := #[.string ((rd_T72 l0 a2).f0), .int .i64 ((rd_T72 l0 a2).f1), .int .i64 ((rd_T72 l0 a2).f2), .int .i64 0]) ?_ 3 _ rfl; (with_reducible repeat (first | refine zkn ?_ _ | refine zkd ?_ | refine zka ?_ _)); refine blk_put (cs := #[.string ((rd_T72 l0 a2).f0), .int .i64 ((rd_T72 l0 a2).f1), .int .i64 0, .int .i64 0]) ?_ 2 _ rfl; (with_reducible repeat (first | refine zkn ?_ _ | refine zkd ?_ | refine zka ?_ _)); refine blk_put (cs := #[.string ((rd_T72 l0 a2).f0), .int .i64 0, .int .i64 0, .int .i64 0]) ?_ 1 _ rfl; (with_reducible repeat (first | refine zkn ?_ _ | refine zkd ?_ | refine zka ?_ _)); refine blk_put (cs := #[.string (⟨#[]⟩ : ByteArray), .int .i64 0, .int .i64 0, .int .i64 0]) ?_ 0 _ rfl; (with_reducible repeat (first | refine zkn ?_ _ | refine zkd ?_ | refine zka ?_ _)); refine blk_far ?_ NB104_103.out _; (with_reducible repeat (first | refine zkn ?_ _ | refine zkd ?_ | refine zka ?_ _)); refine blk_far ?_ NB104_103.out _; (with_reducible repeat (first | refine zkn ?_ _ | refine zkd ?_ | refine zka ?_ _)); refine blk_far ?_ NB104_103.out _; (with_reducible repeat (first | refine zkn ?_ _ | refine zkd ?_ | refine zka ?_ _)); refine blk_far ?_ NB104_103.out _; (with_reducible repeat (first | refine zkn ?_ _ | refine zkd ?_ | refine zka ?_ _)); exact BK104.out⟩
   have n2_ : Aside0 (Below w.heap.size w ((((((((w62.setCell ⟨gb103, 0, none⟩ (.string ((rd_T72 l0 a1).f0))).setCell ⟨gb103, 1, none⟩ (.int .i64 ((rd_T72 l0 a1).f1))).setCell ⟨gb103, 2, none⟩ (.int .i64 ((rd_T72 l0 a1).f2))).setCell ⟨gb103, 3, none⟩ (.int .i64 ((rd_T72 l0 a1).f3))).setCell ⟨gb104, 0, none⟩ (.string ((rd_T72 l0 a2).f0))).setCell ⟨gb104, 1, none⟩ (.int .i64 ((rd_T72 l0 a2).f1))).setCell ⟨gb104, 2, none⟩ (.int .i64 ((rd_T72 l0 a2).f2))).setCell ⟨gb104, 3, none⟩ (.int .i64 ((rd_T72 l0 a2).f3)))) := ⟨by repeat (first | (with_reducible first | exact HB.out | apply zba | apply zbn | apply zbd | refine below_set ?_ GE103.out | refine below_set ?_ GE104.out) | exact HB.out)⟩
   (try clear BK103)
   (try clear BK104)
   (try clear HB)
   generalize ((((((((w62.setCell ⟨gb103, 0, none⟩ (.string ((rd_T72 l0 a1).f0))).setCell ⟨gb103, 1, none⟩ (.int .i64 ((rd_T72 l0 a1).f1))).setCell ⟨gb103, 2, none⟩ (.int .i64 ((rd_T72 l0 a1).f2))).setCell ⟨gb103, 3, none⟩ (.int .i64 ((rd_T72 l0 a1).f3))).setCell ⟨gb104, 0, none⟩ (.string ((rd_T72 l0 a2).f0))).setCell ⟨gb104, 1, none⟩ (.int .i64 ((rd_T72 l0 a2).f1))).setCell ⟨gb104, 2, none⟩ (.int .i64 ((rd_T72 l0 a2).f2))).setCell ⟨gb104, 3, none⟩ (.int .i64 ((rd_T72 l0 a2).f3))) = w74 at n0_ n1_ n2_ ⊢
   have BK103 := n0_
   have BK104 := n1_
   have HB := n2_
   clear n0_ n1_ n2_
   have n0_ := zA (zkd BK103.out)
   have n1_ := zA (zkd BK104.out)
   have n2_ := zA (zbd HB.out)
   clear BK103
   clear BK104
   clear HB
   have BK103 := n0_
   have BK104 := n1_
   have HB := n2_
   clear n0_ n1_ n2_
   refine start_ (n := 8) (S := fun w' => w'.cell? ⟨gb103, 0, none⟩ = some (.string ((rd_T72 l0 a1).f0)) ∧ w'.cell? ⟨gb103, 1, none⟩ = some (.int .i64 ((rd_T72 l0 a1).f1)) ∧ w'.cell? ⟨gb103, 2, none⟩ = some (.int .i64 ((rd_T72 l0 a1).f2)) ∧ w'.cell? ⟨gb103, 3, none⟩ = some (.int .i64 ((rd_T72 l0 a1).f3)) ∧ w'.cell? ⟨gb104, 0, none⟩ = some (.string ((rd_T72 l0 a2).f0)) ∧ w'.cell? ⟨gb104, 1, none⟩ = some (.int .i64 ((rd_T72 l0 a2).f1)) ∧ w'.cell? ⟨gb104, 2, none⟩ = some (.int .i64 ((rd_T72 l0 a2).f2)) ∧ w'.cell? ⟨gb104, 3, none⟩ = some (.int .i64 ((rd_T72 l0 a2).f3))) (ds := []) #[false, false, false, false, false, false, false, false] (by kernel_rfl) rfl rfl ⟨(blk_cell BK103.out 0).trans rfl, (blk_cell BK103.out 1).trans rfl, (blk_cell BK103.out 2).trans rfl, (blk_cell BK103.out 3).trans rfl, (blk_cell BK104.out 0).trans rfl, (blk_cell BK104.out 1).trans rfl, (blk_cell BK104.out 2).trans rfl, (blk_cell BK104.out 3).trans rfl⟩ (fun hHeld => ?_); refine with_tabW spec_vaCmp.tab5 spec_vaCmp.bits5 (fun HT_ HW_ => ?_)
   generalize w74.drew = w75 at BK103 BK104 HB hHeld ⊢
   refine pure_ (i := 0) (N := some 29) (v := ?_) (a' := ?_) #[true, false, false, false, false, false, false, false] rfl rfl (any_of HT_.out (by kernel_rfl)) (fun _ _ _ h => h) (Or.inl ⟨by rfl, ?_⟩) ?_ ?_
   rotate_left
   · intro w'
     go_simp
     with_reducible rfl
   rotate_left
   · simp only [Act.put, List.setIfInBounds_toArray, List.set_cons_zero, List.set_cons_succ, i64_w, i32_w]
     rfl
   refine pure_ (i := 3) (N := some 32) (v := ?_) (a' := ?_) #[true, false, false, true, false, false, false, false] rfl rfl (any_of HT_.out (by kernel_rfl)) (fun _ _ _ h => h) (Or.inl ⟨by rfl, ?_⟩) ?_ ?_
   rotate_left
   · intro w'
     go_simp
     with_reducible rfl
   rotate_left
   · simp only [Act.put, List.setIfInBounds_toArray, List.set_cons_zero, List.set_cons_succ, i64_w, i32_w]
     rfl
   refine take_ (i := 1) (N := some 30) (v := ?_) (a' := ?_) #[true, true, false, true, false, false, false, false] rfl rfl (take_ofW HT_.out HW_.out (by kernel_rfl)) (fun _ _ _ h => h) (Or.inl ⟨by rfl, ?_⟩) hHeld ?_ ?_
   rotate_left
   · rintro w' ⟨s0, s1, s2, s3, s4, s5, s6, s7⟩
     go_simp
     with_reducible rfl
   rotate_left
   · simp only [Act.put, List.setIfInBounds_toArray, List.set_cons_zero, List.set_cons_succ, i64_w, i32_w]
     rfl
   refine take_ (i := 4) (N := some 33) (v := ?_) (a' := ?_) #[true, true, false, true, true, false, false, false] rfl rfl (take_ofW HT_.out HW_.out (by kernel_rfl)) (fun _ _ _ h => h) (Or.inl ⟨by rfl, ?_⟩) hHeld ?_ ?_
   rotate_left
   · rintro w' ⟨s0, s1, s2, s3, s4, s5, s6, s7⟩
     go_simp
     with_reducible rfl
   rotate_left
   · simp only [Act.put, List.setIfInBounds_toArray, List.set_cons_zero, List.set_cons_succ, i64_w, i32_w]
     rfl
   refine one_ (i := 2) (N := some 31) #[true, true, true, true, true, false, false, false] rfl rfl (one_of HT_.out (by kernel_rfl)) (by decide) (fun K hK => ?_)
   refine goes_ Try.func145 (by kernel_rfl) rfl #[.string ((rd_T72 l0 a1).f0)] (by rfl) rfl rfl (by (try simp only [List.map_toArray, List.map_cons, List.map_nil]); first | done | rfl | (simp only [List.length_drop, List.length_take]; rfl)) ?_
   with_reducible refine (spec_vaRank.calls k ((rd_T72 l0 a1).f0) t105 _ A57.out).mono ?_
   rintro e w76 ⟨rfl, hb⟩
   refine ⟨_, rfl, ?_⟩
   have n0_ := zA (blk_below (g := gb103) (o := .cells #[.string ((rd_T72 l0 a1).f0), .int .i64 ((rd_T72 l0 a1).f1), .int .i64 ((rd_T72 l0 a1).f2), .int .i64 ((rd_T72 l0 a1).f3)] 72 (0, 0)) (by (with_reducible repeat (first | refine zkn ?_ _ | refine zkd ?_ | refine zka ?_ _)); exact BK103.out) hb)
   have n1_ := zA (blk_below (g := gb104) (o := .cells #[.string ((rd_T72 l0 a2).f0), .int .i64 ((rd_T72 l0 a2).f1), .int .i64 ((rd_T72 l0 a2).f2), .int .i64 ((rd_T72 l0 a2).f3)] 72 (0, 0)) (by (with_reducible repeat (first | refine zkn ?_ _ | refine zkd ?_ | refine zka ?_ _)); exact BK104.out) hb)
   have n2_ := zA (below_step (by repeat (first | (with_reducible first | exact HB.out | apply zba | apply zbn | apply zbd | refine below_set ?_ GE103.out | refine below_set ?_ GE104.out) | exact HB.out)) hb)
   clear BK103
   clear BK104
   clear HB
   have BK103 := n0_
   have BK104 := n1_
   have HB := n2_
   clear n0_ n1_ n2_
   (try clear hb)
   (try clear hb2)
   (try clear hk)
   (try clear hi)
   refine hK.out _ _ ⟨(blk_cell BK103.out 0).trans rfl, (blk_cell BK103.out 1).trans rfl, (blk_cell BK103.out 2).trans rfl, (blk_cell BK103.out 3).trans rfl, (blk_cell BK104.out 0).trans rfl, (blk_cell BK104.out 1).trans rfl, (blk_cell BK104.out 2).trans rfl, (blk_cell BK104.out 3).trans rfl⟩ (fun hHeld => ?_)
   clear hK K
   refine norm_ (a' := ?_) ?_ ?_
   rotate_left
   · show Act.put _ (some 31) _ = _
     simp only [Act.put, List.setIfInBounds_toArray, List.set_cons_zero, List.set_cons_succ, i64_w, i32_w]
     rfl
   refine one_ (i := 5) (N := some 34) #[true, true, true, true, true, true, false, false] rfl rfl (one_of HT_.out (by kernel_rfl)) (by decide) (fun K hK => ?_)
   refine goes_ Try.func145 (by kernel_rfl) rfl #[.string ((rd_T72 l0 a2).f0)] (by rfl) rfl rfl (by (try simp only [List.map_toArray, List.map_cons, List.map_nil]); first | done | rfl | (simp only [List.length_drop, List.length_take]; rfl)) ?_
   with_reducible refine (spec_vaRank.calls k ((rd_T72 l0 a2).f0) t106 _ A58.out).mono ?_
   rintro e w77 ⟨rfl, hb⟩
   refine ⟨_, rfl, ?_⟩
   have n0_ := zA (blk_below (g := gb103) (o := .cells #[.string ((rd_T72 l0 a1).f0), .int .i64 ((rd_T72 l0 a1).f1), .int .i64 ((rd_T72 l0 a1).f2), .int .i64 ((rd_T72 l0 a1).f3)] 72 (0, 0)) (by (with_reducible repeat (first | refine zkn ?_ _ | refine zkd ?_ | refine zka ?_ _)); exact BK103.out) hb)
   have n1_ := zA (blk_below (g := gb104) (o := .cells #[.string ((rd_T72 l0 a2).f0), .int .i64 ((rd_T72 l0 a2).f1), .int .i64 ((rd_T72 l0 a2).f2), .int .i64 ((rd_T72 l0 a2).f3)] 72 (0, 0)) (by (with_reducible repeat (first | refine zkn ?_ _ | refine zkd ?_ | refine zka ?_ _)); exact BK104.out) hb)
   have n2_ := zA (below_step (by repeat (first | (with_reducible first | exact HB.out | apply zba | apply zbn | apply zbd | refine below_set ?_ GE103.out | refine below_set ?_ GE104.out) | exact HB.out)) hb)
   clear BK103
   clear BK104
   clear HB
   have BK103 := n0_
   have BK104 := n1_
   have HB := n2_
   clear n0_ n1_ n2_
   (try clear hb)
   (try clear hb2)
   (try clear hk)
   (try clear hi)
   refine hK.out _ _ ⟨(blk_cell BK103.out 0).trans rfl, (blk_cell BK103.out 1).trans rfl, (blk_cell BK103.out 2).trans rfl, (blk_cell BK103.out 3).trans rfl, (blk_cell BK104.out 0).trans rfl, (blk_cell BK104.out 1).trans rfl, (blk_cell BK104.out 2).trans rfl, (blk_cell BK104.out 3).trans rfl⟩ (fun hHeld => ?_)
   clear hK K
   refine norm_ (a' := ?_) ?_ ?_
   rotate_left
   · show Act.put _ (some 34) _ = _
     simp only [Act.put, List.setIfInBounds_toArray, List.set_cons_zero, List.set_cons_succ, i64_w, i32_w]
     rfl
   refine pure_ (i := 6) (N := some 35) (v := ?_) (a' := ?_) #[true, true, true, true, true, true, true, false] rfl rfl (any_of HT_.out (by kernel_rfl)) (fun _ _ _ h => h) (Or.inl ⟨by rfl, ?_⟩) ?_ ?_
   rotate_left
   · intro w'
     go_simp
     with_reducible rfl
   rotate_left
   · simp only [Act.put, List.setIfInBounds_toArray, List.set_cons_zero, List.set_cons_succ, i64_w, i32_w]
     rfl
   refine pure_ (i := 7) (N := some 6) (v := ?_) (a' := ?_) #[true, true, true, true, true, true, true, true] rfl rfl (any_of HT_.out (by kernel_rfl)) (fun _ _ _ h => h) (Or.inl ⟨by rfl, ?_⟩) ?_ ?_
   rotate_left
   · intro w'
     go_simp
     with_reducible rfl
   rotate_left
   · simp only [Act.put, List.setIfInBounds_toArray, List.set_cons_zero, List.set_cons_succ, i64_w, i32_w]
     rfl
   refine done_ (done_of HT_.out (by kernel_rfl)) ?_
   try go_wp2
   go_ret
   exact ⟨by first | rfl | (simp [errW_none, errW_some] <;> rfl) | (simp [*, errW_none, errW_some] <;> rfl), by repeat (first | (with_reducible first | exact HB.out | apply zba | apply zbn | apply zbd | refine below_set ?_ GE103.out | refine below_set ?_ GE104.out) | exact HB.out)⟩
 rw [if_pos c9] at H
 have c9b0 : (((rd_T72 l0 a1).f0).toList == ((rd_T72 l0 a2).f0).toList) = true := beq_iff_eq.mpr c9
 have c9b1 : (((rd_T72 l0 a1).f0).toList != ((rd_T72 l0 a2).f0).toList) = false := bne_eq_false_iff_eq.mpr c9
 clear c9
 by_cases c10 : ((rd_T72 l0 a1).f3) = ((rd_T72 l0 a2).f3)
 rotate_left
 · rw [if_neg c10] at H
   have c10b0 : (((rd_T72 l0 a1).f3) == ((rd_T72 l0 a2).f3)) = false := beq_eq_false_iff_ne.mpr c10
   have c10b1 : (((rd_T72 l0 a1).f3) != ((rd_T72 l0 a2).f3)) = true := bne_iff_ne.mpr c10
   obtain rfl := zsi H
   go_enter Try.func97, Try.ntmps97
   try go_wp2
   have n0_ := zA (zbd HB.out)
   clear HB
   have HB := n0_
   clear n0_
   have p101 : 0 ≤ (a1 : Int) := zde (by assumption)
   have q101 : a1 < (l0.length : Int) := zde (by assumption)
   obtain ⟨ad101, e101, hx101_0, hx101_1, hx101_2, hx101_3⟩ := at_T72 HR0.out a1 p101 q101
   have hw101_3 := hx101_3
   have hw101_2 := hx101_2
   have hw101_1 := hx101_1
   have hw101_0 := hx101_0
   cases e101
   replace hx101_0 := zkep HB.out hx101_0
   replace hx101_1 := zkep HB.out hx101_1
   replace hx101_2 := zkep HB.out hx101_2
   replace hx101_3 := zkep HB.out hx101_3
   replace p101 := eq_true p101
   replace q101 := eq_true q101
   have p102 : 0 ≤ (a2 : Int) := zde (by assumption)
   have q102 : a2 < (l0.length : Int) := zde (by assumption)
   obtain ⟨ad102, e102, hx102_0, hx102_1, hx102_2, hx102_3⟩ := at_T72 HR0.out a2 p102 q102
   have hw102_3 := hx102_3
   have hw102_2 := hx102_2
   have hw102_1 := hx102_1
   have hw102_0 := hx102_0
   obtain rfl : ad101 = ad102 := (by injection e102)
   replace hx102_0 := zkep HB.out hx102_0
   replace hx102_1 := zkep HB.out hx102_1
   replace hx102_2 := zkep HB.out hx102_2
   replace hx102_3 := zkep HB.out hx102_3
   replace p102 := eq_true p102
   replace q102 := eq_true q102
   refine start_ (n := 12) (S := fun w' => w'.cell? (ad101.add ((a1).toNat * 4)) = some (.string ((rd_T72 l0 a1).f0)) ∧ w'.cell? ⟨(ad101.add ((a1).toNat * 4)).block, (ad101.add ((a1).toNat * 4)).off + 1, none⟩ = some (.int .i64 ((rd_T72 l0 a1).f1)) ∧ w'.cell? ⟨(ad101.add ((a1).toNat * 4)).block, (ad101.add ((a1).toNat * 4)).off + 2, none⟩ = some (.int .i64 ((rd_T72 l0 a1).f2)) ∧ w'.cell? ⟨(ad101.add ((a1).toNat * 4)).block, (ad101.add ((a1).toNat * 4)).off + 3, none⟩ = some (.int .i64 ((rd_T72 l0 a1).f3)) ∧ w'.cell? (ad101.add ((a2).toNat * 4)) = some (.string ((rd_T72 l0 a2).f0)) ∧ w'.cell? ⟨(ad101.add ((a2).toNat * 4)).block, (ad101.add ((a2).toNat * 4)).off + 1, none⟩ = some (.int .i64 ((rd_T72 l0 a2).f1)) ∧ w'.cell? ⟨(ad101.add ((a2).toNat * 4)).block, (ad101.add ((a2).toNat * 4)).off + 2, none⟩ = some (.int .i64 ((rd_T72 l0 a2).f2)) ∧ w'.cell? ⟨(ad101.add ((a2).toNat * 4)).block, (ad101.add ((a2).toNat * 4)).off + 3, none⟩ = some (.int .i64 ((rd_T72 l0 a2).f3))) (ds := []) #[false, false, false, false, false, false, false, false, false, false, false, false] (by kernel_rfl) rfl rfl ⟨(zkep HB.out hw101_0), (zkep HB.out hw101_1), (zkep HB.out hw101_2), (zkep HB.out hw101_3), (zkep HB.out hw102_0), (zkep HB.out hw102_1), (zkep HB.out hw102_2), (zkep HB.out hw102_3)⟩ (fun hHeld => ?_); refine with_tabW spec_vaCmp.tab3 spec_vaCmp.bits3 (fun HT_ HW_ => ?_)
   generalize w.drew = w42 at HB hx101_0 hx101_1 hx101_2 hx101_3 hx102_0 hx102_1 hx102_2 hx102_3 hHeld ⊢
   refine pure_ (i := 0) (N := some 16) (v := ?_) (a' := ?_) #[true, false, false, false, false, false, false, false, false, false, false, false] rfl rfl (any_of HT_.out (by kernel_rfl)) (fun _ _ _ h => h) (Or.inl ⟨by rfl, ?_⟩) ?_ ?_
   rotate_left
   · intro w'
     go_simp
     with_reducible rfl
   rotate_left
   · simp only [Act.put, List.setIfInBounds_toArray, List.set_cons_zero, List.set_cons_succ, i64_w, i32_w]
     rfl
   refine pure_ (i := 1) (N := some 17) (v := ?_) (a' := ?_) #[true, true, false, false, false, false, false, false, false, false, false, false] rfl rfl (any_of HT_.out (by kernel_rfl)) (fun _ _ _ h => h) (Or.inl ⟨by rfl, ?_⟩) ?_ ?_
   rotate_left
   · intro w'
     go_simp
     with_reducible rfl
   rotate_left
   · simp only [Act.put, List.setIfInBounds_toArray, List.set_cons_zero, List.set_cons_succ, i64_w, i32_w]
     rfl
   refine pure_ (i := 2) (N := some 18) (v := ?_) (a' := ?_) #[true, true, true, false, false, false, false, false, false, false, false, false] rfl rfl (any_of HT_.out (by kernel_rfl)) (fun _ _ _ h => h) (Or.inl ⟨by rfl, ?_⟩) ?_ ?_
   rotate_left
   · intro w'
     go_simp
     with_reducible rfl
   rotate_left
   · simp only [Act.put, List.setIfInBounds_toArray, List.set_cons_zero, List.set_cons_succ, i64_w, i32_w]
     rfl
   refine pure_ (i := 4) (N := some 20) (v := ?_) (a' := ?_) #[true, true, true, false, true, false, false, false, false, false, false, false] rfl rfl (any_of HT_.out (by kernel_rfl)) (fun _ _ _ h => h) (Or.inl ⟨by rfl, ?_⟩) ?_ ?_
   rotate_left
   · intro w'
     go_simp
     with_reducible rfl
   rotate_left
   · simp only [Act.put, List.setIfInBounds_toArray, List.set_cons_zero, List.set_cons_succ, i64_w, i32_w]
     rfl
   refine pure_ (i := 5) (N := some 21) (v := ?_) (a' := ?_) #[true, true, true, false, true, true, false, false, false, false, false, false] rfl rfl (any_of HT_.out (by kernel_rfl)) (fun _ _ _ h => h) (Or.inl ⟨by rfl, ?_⟩) ?_ ?_
   rotate_left
   · intro w'
     go_simp
     with_reducible rfl
   rotate_left
   · simp only [Act.put, List.setIfInBounds_toArray, List.set_cons_zero, List.set_cons_succ, i64_w, i32_w]
     rfl
   refine pure_ (i := 6) (N := some 22) (v := ?_) (a' := ?_) #[true, true, true, false, true, true, true, false, false, false, false, false] rfl rfl (any_of HT_.out (by kernel_rfl)) (fun _ _ _ h => h) (Or.inl ⟨by rfl, ?_⟩) ?_ ?_
   rotate_left
   · intro w'
     go_simp
     with_reducible rfl
   rotate_left
   · simp only [Act.put, List.setIfInBounds_toArray, List.set_cons_zero, List.set_cons_succ, i64_w, i32_w]
     rfl
   refine take_ (i := 3) (N := some 19) (v := ?_) (a' := ?_) #[true, true, true, true, true, true, true, false, false, false, false, false] rfl rfl (take_ofW HT_.out HW_.out (by kernel_rfl)) (fun _ _ _ h => h) (Or.inl ⟨by rfl, ?_⟩) hHeld ?_ ?_
   rotate_left
   · rintro w' ⟨s0, s1, s2, s3, s4, s5, s6, s7⟩
     go_simp
     with_reducible rfl
   rotate_left
   · simp only [Act.put, List.setIfInBounds_toArray, List.set_cons_zero, List.set_cons_succ, i64_w, i32_w]
     rfl
   refine take_ (i := 7) (N := some 23) (v := ?_) (a' := ?_) #[true, true, true, true, true, true, true, true, false, false, false, false] rfl rfl (take_ofW HT_.out HW_.out (by kernel_rfl)) (fun _ _ _ h => h) (Or.inl ⟨by rfl, ?_⟩) hHeld ?_ ?_
   rotate_left
   · rintro w' ⟨s0, s1, s2, s3, s4, s5, s6, s7⟩
     go_simp
     with_reducible rfl
   rotate_left
   · simp only [Act.put, List.setIfInBounds_toArray, List.set_cons_zero, List.set_cons_succ, i64_w, i32_w]
     rfl
   refine join_ (σ := Nat × Nat) 2 #[true, true, true, true, true, true, true, true, true, true, false, false] (fun s_ => [(7, .pointer (some ⟨s_.1, 0, none⟩)), (8, .pointer (some ⟨s_.2, 0, none⟩))]) (fun s_ w' => (w'.cell? (ad101.add ((a1).toNat * 4)) = some (.string ((rd_T72 l0 a1).f0)) ∧ w'.cell? ⟨(ad101.add ((a1).toNat * 4)).block, (ad101.add ((a1).toNat * 4)).off + 1, none⟩ = some (.int .i64 ((rd_T72 l0 a1).f1)) ∧ w'.cell? ⟨(ad101.add ((a1).toNat * 4)).block, (ad101.add ((a1).toNat * 4)).off + 2, none⟩ = some (.int .i64 ((rd_T72 l0 a1).f2)) ∧ w'.cell? ⟨(ad101.add ((a1).toNat * 4)).block, (ad101.add ((a1).toNat * 4)).off + 3, none⟩ = some (.int .i64 ((rd_T72 l0 a1).f3)) ∧ w'.cell? (ad101.add ((a2).toNat * 4)) = some (.string ((rd_T72 l0 a2).f0)) ∧ w'.cell? ⟨(ad101.add ((a2).toNat * 4)).block, (ad101.add ((a2).toNat * 4)).off + 1, none⟩ = some (.int .i64 ((rd_T72 l0 a2).f1)) ∧ w'.cell? ⟨(ad101.add ((a2).toNat * 4)).block, (ad101.add ((a2).toNat * 4)).off + 2, none⟩ = some (.int .i64 ((rd_T72 l0 a2).f2)) ∧ w'.cell? ⟨(ad101.add ((a2).toNat * 4)).block, (ad101.add ((a2).toNat * 4)).off + 3, none⟩ = some (.int .i64 ((rd_T72 l0 a2).f3))) ∧ (w'.heap[s_.1]? = some (.cells #[.string (⟨#[]⟩ : ByteArray), .int .i64 0, .int .i64 0, .int .i64 0] 72 (0, 0))) ∧ (w'.heap[s_.2]? = some (.cells #[.string (⟨#[]⟩ : ByteArray), .int .i64 0, .int .i64 0, .int .i64 0] 72 (0, 0))) ∧ (w.heap.size ≤ s_.1) ∧ (w.heap.size ≤ s_.1) ∧ (s_.2 ≠ s_.1) ∧ (s_.1 ≠ s_.2) ∧ (w.heap.size ≤ s_.2) ∧ (w.heap.size ≤ s_.2) ∧ (Below w.heap.size w w')) ?_ ?_
   rotate_left
   · intro hCont
     refine two_ (i := 8) (j := 9) (Ni := some 7) (Nj := some 8) #[true, true, true, true, true, true, true, true, true, false, false, false] #[true, true, true, true, true, true, true, true, false, true, false, false] rfl rfl rfl rfl (two_of HT_.out (by kernel_rfl)) (by decide) (by decide) (fun K hK => ?_) (fun K hK => ?_)
     · skip
       refine box_step ?hg (N := 7) ?hd (cs := #[.string (⟨#[]⟩ : ByteArray), .int .i64 0, .int .i64 0, .int .i64 0]) (t := 72) ?hr ?_; (case hd => rfl); (case hg => rfl); (case hr => go_simp <;> rfl)
       intro gb103 hg w43 hbox hb
       have n0_ := zA (below_step (by repeat (first | (with_reducible first | exact HB.out | apply zba | apply zbn | apply zbd) | exact HB.out)) hb)
       have n1_ := zA (hbox)
       have n2_ := zA ((by rw [hg]; exact (below_size (by repeat (first | (with_reducible first | exact HB.out | apply zba | apply zbn | apply zbd) | exact HB.out))) : w.heap.size ≤ gb103))
       have n3_ := zA ((by rw [hg]; exact (below_size (by repeat (first | (with_reducible first | exact HB.out | apply zba | apply zbn | apply zbd) | exact HB.out))) : w.heap.size ≤ gb103))
       clear HB
       have HB := n0_
       have BK103 := n1_
       have GW103 := n2_
       have GE103 := n3_
       clear n0_ n1_ n2_ n3_
       clear hb hbox hg
       refine hK.out _ _ ⟨(zkep HB.out hw101_0), (zkep HB.out hw101_1), (zkep HB.out hw101_2), (zkep HB.out hw101_3), (zkep HB.out hw102_0), (zkep HB.out hw102_1), (zkep HB.out hw102_2), (zkep HB.out hw102_3)⟩ (fun hHeld => ?_)
       clear hK K
       refine norm_ (a' := ?_) ?_ ?_
       rotate_left
       · show Act.put _ (some 7) _ = _
         simp only [Act.put, List.setIfInBounds_toArray, List.set_cons_zero, List.set_cons_succ, i64_w, i32_w]
         rfl
       refine one_ (i := 9) (N := some 8) #[true, true, true, true, true, true, true, true, true, true, false, false] rfl rfl (one_of HT_.out (by kernel_rfl)) (by decide) (fun K hK => ?_)
       refine box_step ?hg (N := 8) ?hd (cs := #[.string (⟨#[]⟩ : ByteArray), .int .i64 0, .int .i64 0, .int .i64 0]) (t := 72) ?hr ?_; (case hd => rfl); (case hg => rfl); (case hr => go_simp <;> rfl)
       intro gb104 hg w44 hbox hb
       have n0_ := zA (blk_below (g := gb103) (o := .cells #[.string (⟨#[]⟩ : ByteArray), .int .i64 0, .int .i64 0, .int .i64 0] 72 (0, 0)) (by (with_reducible repeat (first | refine zkn ?_ _ | refine zkd ?_ | refine zka ?_ _)); exact BK103.out) hb)
       have n1_ := zA (below_step (by repeat (first | (with_reducible first | exact HB.out | apply zba | apply zbn | apply zbd | refine below_set ?_ GE103.out) | exact HB.out)) hb)
       have n2_ := zA (hbox)
       have n3_ := zA ((by rw [hg]; exact (below_size (by repeat (first | (with_reducible first | exact HB.out | apply zba | apply zbn | apply zbd | refine below_set ?_ GE103.out) | exact HB.out))) : w.heap.size ≤ gb104))
       have n4_ := zA ((by rw [hg]; exact (below_size (by repeat (first | (with_reducible first | exact HB.out | apply zba | apply zbn | apply zbd | refine below_set ?_ GE103.out) | exact HB.out))) : w.heap.size ≤ gb104))
       have n5_ := zA ((by rw [hg]; exact Nat.ne_of_lt (zlt BK103.out (fun h => by (with_reducible repeat (first | refine zkn ?_ _ | refine zkd ?_ | refine zka ?_ _)); exact h)) : gb103 ≠ gb104))
       have n6_ := zA ((by rw [hg]; exact Nat.ne_of_gt (zlt BK103.out (fun h => by (with_reducible repeat (first | refine zkn ?_ _ | refine zkd ?_ | refine zka ?_ _)); exact h)) : gb104 ≠ gb103))
       clear BK103
       clear HB
       have BK103 := n0_
       have HB := n1_
       have BK104 := n2_
       have GW104 := n3_
       have GE104 := n4_
       have NB103_104 := n5_
       have NB104_103 := n6_
       clear n0_ n1_ n2_ n3_ n4_ n5_ n6_
       clear hb hbox hg
       refine hK.out _ _ ⟨(zkep HB.out hw101_0), (zkep HB.out hw101_1), (zkep HB.out hw101_2), (zkep HB.out hw101_3), (zkep HB.out hw102_0), (zkep HB.out hw102_1), (zkep HB.out hw102_2), (zkep HB.out hw102_3)⟩ (fun hHeld => ?_)
       clear hK K
       refine norm_ (a' := ?_) ?_ ?_
       rotate_left
       · show Act.put _ (some 8) _ = _
         simp only [Act.put, List.setIfInBounds_toArray, List.set_cons_zero, List.set_cons_succ, i64_w, i32_w]
         rfl
       exact norm_ (by simp only [putAll, Act.put, List.setIfInBounds_toArray, List.set_cons_zero, List.set_cons_succ]) (hCont (gb103, gb104) _ ⟨hHeld, (by (with_reducible repeat (first | refine zkn ?_ _ | refine zkd ?_ | refine zka ?_ _)); exact BK103.out), (by (with_reducible repeat (first | refine zkn ?_ _ | refine zkd ?_ | refine zka ?_ _)); exact BK104.out), GW103.out, GE103.out, NB104_103.out, NB103_104.out, GW104.out, GE104.out, (by repeat (first | (with_reducible first | exact HB.out | apply zba | apply zbn | apply zbd | refine below_set ?_ GE103.out | refine below_set ?_ GE104.out) | exact HB.out))⟩)
     skip
     refine box_step ?hg (N := 8) ?hd (cs := #[.string (⟨#[]⟩ : ByteArray), .int .i64 0, .int .i64 0, .int .i64 0]) (t := 72) ?hr ?_; (case hd => rfl); (case hg => rfl); (case hr => go_simp <;> rfl)
     intro gb104 hg w43 hbox hb
     have n0_ := zA (below_step (by repeat (first | (with_reducible first | exact HB.out | apply zba | apply zbn | apply zbd) | exact HB.out)) hb)
     have n1_ := zA (hbox)
     have n2_ := zA ((by rw [hg]; exact (below_size (by repeat (first | (with_reducible first | exact HB.out | apply zba | apply zbn | apply zbd) | exact HB.out))) : w.heap.size ≤ gb104))
     have n3_ := zA ((by rw [hg]; exact (below_size (by repeat (first | (with_reducible first | exact HB.out | apply zba | apply zbn | apply zbd) | exact HB.out))) : w.heap.size ≤ gb104))
     clear HB
     have HB := n0_
     have BK104 := n1_
     have GW104 := n2_
     have GE104 := n3_
     clear n0_ n1_ n2_ n3_
     clear hb hbox hg
     refine hK.out _ _ ⟨(zkep HB.out hw101_0), (zkep HB.out hw101_1), (zkep HB.out hw101_2), (zkep HB.out hw101_3), (zkep HB.out hw102_0), (zkep HB.out hw102_1), (zkep HB.out hw102_2), (zkep HB.out hw102_3)⟩ (fun hHeld => ?_)
     clear hK K
     refine norm_ (a' := ?_) ?_ ?_
     rotate_left
     · show Act.put _ (some 8) _ = _
       simp only [Act.put, List.setIfInBounds_toArray, List.set_cons_zero, List.set_cons_succ, i64_w, i32_w]
       rfl
     refine one_ (i := 8) (N := some 7) #[true, true, true, true, true, true, true, true, true, true, false, false] rfl rfl (one_of HT_.out (by kernel_rfl)) (by decide) (fun K hK => ?_)
     refine box_step ?hg (N := 7) ?hd (cs := #[.string (⟨#[]⟩ : ByteArray), .int .i64 0, .int .i64 0, .int .i64 0]) (t := 72) ?hr ?_; (case hd => rfl); (case hg => rfl); (case hr => go_simp <;> rfl)
     intro gb103 hg w44 hbox hb
     have n0_ := zA (blk_below (g := gb104) (o := .cells #[.string (⟨#[]⟩ : ByteArray), .int .i64 0, .int .i64 0, .int .i64 0] 72 (0, 0)) (by (with_reducible repeat (first | refine zkn ?_ _ | refine zkd ?_ | refine zka ?_ _)); exact BK104.out) hb)
     have n1_ := zA (below_step (by repeat (first | (with_reducible first | exact HB.out | apply zba | apply zbn | apply zbd | refine below_set ?_ GE104.out) | exact HB.out)) hb)
     have n2_ := zA (hbox)
     have n3_ := zA ((by rw [hg]; exact (below_size (by repeat (first | (with_reducible first | exact HB.out | apply zba | apply zbn | apply zbd | refine below_set ?_ GE104.out) | exact HB.out))) : w.heap.size ≤ gb103))
     have n4_ := zA ((by rw [hg]; exact (below_size (by repeat (first | (with_reducible first | exact HB.out | apply zba | apply zbn | apply zbd | refine below_set ?_ GE104.out) | exact HB.out))) : w.heap.size ≤ gb103))
     have n5_ := zA ((by rw [hg]; exact Nat.ne_of_lt (zlt BK104.out (fun h => by (with_reducible repeat (first | refine zkn ?_ _ | refine zkd ?_ | refine zka ?_ _)); exact h)) : gb104 ≠ gb103))
     have n6_ := zA ((by rw [hg]; exact Nat.ne_of_gt (zlt BK104.out (fun h => by (with_reducible repeat (first | refine zkn ?_ _ | refine zkd ?_ | refine zka ?_ _)); exact h)) : gb103 ≠ gb104))
     clear BK104
     clear HB
     have BK104 := n0_
     have HB := n1_
     have BK103 := n2_
     have GW103 := n3_
     have GE103 := n4_
     have NB104_103 := n5_
     have NB103_104 := n6_
     clear n0_ n1_ n2_ n3_ n4_ n5_ n6_
     clear hb hbox hg
     refine hK.out _ _ ⟨(zkep HB.out hw101_0), (zkep HB.out hw101_1), (zkep HB.out hw101_2), (zkep HB.out hw101_3), (zkep HB.out hw102_0), (zkep HB.out hw102_1), (zkep HB.out hw102_2), (zkep HB.out hw102_3)⟩ (fun hHeld => ?_)
     clear hK K
     refine norm_ (a' := ?_) ?_ ?_
     rotate_left
     · show Act.put _ (some 7) _ = _
       simp only [Act.put, List.setIfInBounds_toArray, List.set_cons_zero, List.set_cons_succ, i64_w, i32_w]
       rfl
     exact norm_ (by simp only [putAll, Act.put, List.setIfInBounds_toArray, List.set_cons_zero, List.set_cons_succ]) (hCont (gb103, gb104) _ ⟨hHeld, (by (with_reducible repeat (first | refine zkn ?_ _ | refine zkd ?_ | refine zka ?_ _)); exact BK103.out), (by (with_reducible repeat (first | refine zkn ?_ _ | refine zkd ?_ | refine zka ?_ _)); exact BK104.out), GW103.out, GE103.out, NB104_103.out, NB103_104.out, GW104.out, GE104.out, (by repeat (first | (with_reducible first | exact HB.out | apply zba | apply zbn | apply zbd | refine below_set ?_ GE104.out | refine below_set ?_ GE103.out) | exact HB.out))⟩)
   rintro ⟨gb103, gb104⟩ w45 ⟨hS_, h0_, h1_, h2_, h3_, h4_, h5_, h6_, h7_, h8_⟩
   have n0_ : Aside0 (w45.heap[gb103]? = some (.cells #[.string (⟨#[]⟩ : ByteArray), .int .i64 0, .int .i64 0, .int .i64 0] 72 (0, 0))) := ⟨h0_⟩
   have n1_ : Aside0 (w45.heap[gb104]? = some (.cells #[.string (⟨#[]⟩ : ByteArray), .int .i64 0, .int .i64 0, .int .i64 0] 72 (0, 0))) := ⟨h1_⟩
   have n2_ : Aside0 (w.heap.size ≤ gb103) := ⟨h2_⟩
   have n3_ : Aside0 (w.heap.size ≤ gb103) := ⟨h3_⟩
   have n4_ : Aside0 (gb104 ≠ gb103) := ⟨h4_⟩
   have n5_ : Aside0 (gb103 ≠ gb104) := ⟨h5_⟩
   have n6_ : Aside0 (w.heap.size ≤ gb104) := ⟨h6_⟩
   have n7_ : Aside0 (w.heap.size ≤ gb104) := ⟨h7_⟩
   have n8_ : Aside0 (Below w.heap.size w w45) := ⟨h8_⟩
   clear HB
   clear h0_ h1_ h2_ h3_ h4_ h5_ h6_ h7_ h8_
   have BK103 := n0_
   have BK104 := n1_
   have GW103 := n2_
   have GE103 := n3_
   have NB104_103 := n4_
   have NB103_104 := n5_
   have GW104 := n6_
   have GE104 := n7_
   have HB := n8_
   clear n0_ n1_ n2_ n3_ n4_ n5_ n6_ n7_ n8_
   have hHeld : w45.cell? (ad101.add ((a1).toNat * 4)) = some (.string ((rd_T72 l0 a1).f0)) ∧ w45.cell? ⟨(ad101.add ((a1).toNat * 4)).block, (ad101.add ((a1).toNat * 4)).off + 1, none⟩ = some (.int .i64 ((rd_T72 l0 a1).f1)) ∧ w45.cell? ⟨(ad101.add ((a1).toNat * 4)).block, (ad101.add ((a1).toNat * 4)).off + 2, none⟩ = some (.int .i64 ((rd_T72 l0 a1).f2)) ∧ w45.cell? ⟨(ad101.add ((a1).toNat * 4)).block, (ad101.add ((a1).toNat * 4)).off + 3, none⟩ = some (.int .i64 ((rd_T72 l0 a1).f3)) ∧ w45.cell? (ad101.add ((a2).toNat * 4)) = some (.string ((rd_T72 l0 a2).f0)) ∧ w45.cell? ⟨(ad101.add ((a2).toNat * 4)).block, (ad101.add ((a2).toNat * 4)).off + 1, none⟩ = some (.int .i64 ((rd_T72 l0 a2).f1)) ∧ w45.cell? ⟨(ad101.add ((a2).toNat * 4)).block, (ad101.add ((a2).toNat * 4)).off + 2, none⟩ = some (.int .i64 ((rd_T72 l0 a2).f2)) ∧ w45.cell? ⟨(ad101.add ((a2).toNat * 4)).block, (ad101.add ((a2).toNat * 4)).off + 3, none⟩ = some (.int .i64 ((rd_T72 l0 a2).f3)) := hS_
   refine norm_ (a' := ?_) ?_ ?_
   rotate_left
   · simp only [putAll, Act.put, List.setIfInBounds_toArray, List.set_cons_zero, List.set_cons_succ]
     rfl
   refine one_ (i := 10) (N := none) #[true, true, true, true, true, true, true, true, true, true, true, false] rfl rfl (one_of HT_.out (by kernel_rfl)) (by decide) (fun K hK => ?_)
   have hs46 : w45.cell? ⟨gb103, 0, none⟩ = some (.string (⟨#[]⟩ : ByteArray)) := (blk_cell BK103.out 0).trans rfl
   have hfs46 := blk_frozen BK103.out 0
   have hns46_1 := NB104_103.out
   have hms46_1 := NB103_104.out
   have hs47 : w45.cell? ⟨gb103, 1, none⟩ = some (.int .i64 0) := (blk_cell BK103.out 1).trans rfl
   have hfs47 := blk_frozen BK103.out 1
   have hns47_1 := NB104_103.out
   have hms47_1 := NB103_104.out
   have hs48 : w45.cell? ⟨gb103, 2, none⟩ = some (.int .i64 0) := (blk_cell BK103.out 2).trans rfl
   have hfs48 := blk_frozen BK103.out 2
   have hns48_1 := NB104_103.out
   have hms48_1 := NB103_104.out
   have hs49 : w45.cell? ⟨gb103, 3, none⟩ = some (.int .i64 0) := (blk_cell BK103.out 3).trans rfl
   have hfs49 := blk_frozen BK103.out 3
   have hns49_1 := NB104_103.out
   have hms49_1 := NB103_104.out
   refine skip_ (w1 := ?_) (by rfl) rfl ?_ ?_
   rotate_left
   · go_simp
     rfl
   refine hK.out _ _ ⟨((cell_far (p := ⟨gb103, _, none⟩) (zfar hw101_0 GW103.out :) _).trans (((cell_far (p := ⟨gb103, _, none⟩) (zfar hw101_0 GW103.out :) _).trans (((cell_far (p := ⟨gb103, _, none⟩) (zfar hw101_0 GW103.out :) _).trans (((cell_far (p := ⟨gb103, _, none⟩) (zfar hw101_0 GW103.out :) _).trans (hHeld.1)))))))), ((cell_far (p := ⟨gb103, _, none⟩) (zfar hw101_1 GW103.out :) _).trans (((cell_far (p := ⟨gb103, _, none⟩) (zfar hw101_1 GW103.out :) _).trans (((cell_far (p := ⟨gb103, _, none⟩) (zfar hw101_1 GW103.out :) _).trans (((cell_far (p := ⟨gb103, _, none⟩) (zfar hw101_1 GW103.out :) _).trans (hHeld.2.1)))))))), ((cell_far (p := ⟨gb103, _, none⟩) (zfar hw101_2 GW103.out :) _).trans (((cell_far (p := ⟨gb103, _, none⟩) (zfar hw101_2 GW103.out :) _).trans (((cell_far (p := ⟨gb103, _, none⟩) (zfar hw101_2 GW103.out :) _).trans (((cell_far (p := ⟨gb103, _, none⟩) (zfar hw101_2 GW103.out :) _).trans (hHeld.2.2.1)))))))), ((cell_far (p := ⟨gb103, _, none⟩) (zfar hw101_3 GW103.out :) _).trans (((cell_far (p := ⟨gb103, _, none⟩) (zfar hw101_3 GW103.out :) _).trans (((cell_far (p := ⟨gb103, _, none⟩) (zfar hw101_3 GW103.out :) _).trans (((cell_far (p := ⟨gb103, _, none⟩) (zfar hw101_3 GW103.out :) _).trans (hHeld.2.2.2.1)))))))), ((cell_far (p := ⟨gb103, _, none⟩) (zfar hw102_0 GW103.out :) _).trans (((cell_far (p := ⟨gb103, _, none⟩) (zfar hw102_0 GW103.out :) _).trans (((cell_far (p := ⟨gb103, _, none⟩) (zfar hw102_0 GW103.out :) _).trans (((cell_far (p := ⟨gb103, _, none⟩) (zfar hw102_0 GW103.out :) _).trans (hHeld.2.2.2.2.1)))))))), ((cell_far (p := ⟨gb103, _, none⟩) (zfar hw102_1 GW103.out :) _).trans (((cell_far (p := ⟨gb103, _, none⟩) (zfar hw102_1 GW103.out :) _).trans (((cell_far (p := ⟨gb103, _, none⟩) (zfar hw102_1 GW103.out :) _).trans (((cell_far (p := ⟨gb103, _, none⟩) (zfar hw102_1 GW103.out :) _).trans (hHeld.2.2.2.2.2.1)))))))), ((cell_far (p := ⟨gb103, _, none⟩) (zfar hw102_2 GW103.out :) _).trans (((cell_far (p := ⟨gb103, _, none⟩) (zfar hw102_2 GW103.out :) _).trans (((cell_far (p := ⟨gb103, _, none⟩) (zfar hw102_2 GW103.out :) _).trans (((cell_far (p := ⟨gb103, _, none⟩) (zfar hw102_2 GW103.out :) _).trans (hHeld.2.2.2.2.2.2.1)))))))), ((cell_far (p := ⟨gb103, _, none⟩) (zfar hw102_3 GW103.out :) _).trans (((cell_far (p := ⟨gb103, _, none⟩) (zfar hw102_3 GW103.out :) _).trans (((cell_far (p := ⟨gb103, _, none⟩) (zfar hw102_3 GW103.out :) _).trans (((cell_far (p := ⟨gb103, _, none⟩) (zfar hw102_3 GW103.out :) _).trans (hHeld.2.2.2.2.2.2.2))))))))⟩ (fun hHeld => ?_)
   clear hK K
   refine one_ (i := 11) (N := none) #[true, true, true, true, true, true, true, true, true, true, true, true] rfl rfl (one_of HT_.out (by kernel_rfl)) (by decide) (fun K hK => ?_)
   have hs50 : w45.cell? ⟨gb104, 0, none⟩ = some (.string (⟨#[]⟩ : ByteArray)) := (blk_cell BK104.out 0).trans rfl
   have hfs50 := blk_frozen BK104.out 0
   have hns50_0 := NB103_104.out
   have hms50_0 := NB104_103.out
   have hs51 : w45.cell? ⟨gb104, 1, none⟩ = some (.int .i64 0) := (blk_cell BK104.out 1).trans rfl
   have hfs51 := blk_frozen BK104.out 1
   have hns51_0 := NB103_104.out
   have hms51_0 := NB104_103.out
   have hs52 : w45.cell? ⟨gb104, 2, none⟩ = some (.int .i64 0) := (blk_cell BK104.out 2).trans rfl
   have hfs52 := blk_frozen BK104.out 2
   have hns52_0 := NB103_104.out
   have hms52_0 := NB104_103.out
   have hs53 : w45.cell? ⟨gb104, 3, none⟩ = some (.int .i64 0) := (blk_cell BK104.out 3).trans rfl
   have hfs53 := blk_frozen BK104.out 3
   have hns53_0 := NB103_104.out
   have hms53_0 := NB104_103.out
   refine skip_ (w1 := ?_) (by rfl) rfl ?_ ?_
   rotate_left
   · go_simp
     rfl
   refine hK.out _ _ ⟨((cell_far (p := ⟨gb104, _, none⟩) (zfar hw101_0 GW104.out :) _).trans (((cell_far (p := ⟨gb104, _, none⟩) (zfar hw101_0 GW104.out :) _).trans (((cell_far (p := ⟨gb104, _, none⟩) (zfar hw101_0 GW104.out :) _).trans (((cell_far (p := ⟨gb104, _, none⟩) (zfar hw101_0 GW104.out :) _).trans (hHeld.1)))))))), ((cell_far (p := ⟨gb104, _, none⟩) (zfar hw101_1 GW104.out :) _).trans (((cell_far (p := ⟨gb104, _, none⟩) (zfar hw101_1 GW104.out :) _).trans (((cell_far (p := ⟨gb104, _, none⟩) (zfar hw101_1 GW104.out :) _).trans (((cell_far (p := ⟨gb104, _, none⟩) (zfar hw101_1 GW104.out :) _).trans (hHeld.2.1)))))))), ((cell_far (p := ⟨gb104, _, none⟩) (zfar hw101_2 GW104.out :) _).trans (((cell_far (p := ⟨gb104, _, none⟩) (zfar hw101_2 GW104.out :) _).trans (((cell_far (p := ⟨gb104, _, none⟩) (zfar hw101_2 GW104.out :) _).trans (((cell_far (p := ⟨gb104, _, none⟩) (zfar hw101_2 GW104.out :) _).trans (hHeld.2.2.1)))))))), ((cell_far (p := ⟨gb104, _, none⟩) (zfar hw101_3 GW104.out :) _).trans (((cell_far (p := ⟨gb104, _, none⟩) (zfar hw101_3 GW104.out :) _).trans (((cell_far (p := ⟨gb104, _, none⟩) (zfar hw101_3 GW104.out :) _).trans (((cell_far (p := ⟨gb104, _, none⟩) (zfar hw101_3 GW104.out :) _).trans (hHeld.2.2.2.1)))))))), ((cell_far (p := ⟨gb104, _, none⟩) (zfar hw102_0 GW104.out :) _).trans (((cell_far (p := ⟨gb104, _, none⟩) (zfar hw102_0 GW104.out :) _).trans (((cell_far (p := ⟨gb104, _, none⟩) (zfar hw102_0 GW104.out :) _).trans (((cell_far (p := ⟨gb104, _, none⟩) (zfar hw102_0 GW104.out :) _).trans (hHeld.2.2.2.2.1)))))))), ((cell_far (p := ⟨gb104, _, none⟩) (zfar hw102_1 GW104.out :) _).trans (((cell_far (p := ⟨gb104, _, none⟩) (zfar hw102_1 GW104.out :) _).trans (((cell_far (p := ⟨gb104, _, none⟩) (zfar hw102_1 GW104.out :) _).trans (((cell_far (p := ⟨gb104, _, none⟩) (zfar hw102_1 GW104.out :) _).trans (hHeld.2.2.2.2.2.1)))))))), ((cell_far (p := ⟨gb104, _, none⟩) (zfar hw102_2 GW104.out :) _).trans (((cell_far (p := ⟨gb104, _, none⟩) (zfar hw102_2 GW104.out :) _).trans (((cell_far (p := ⟨gb104, _, none⟩) (zfar hw102_2 GW104.out :) _).trans (((cell_far (p := ⟨gb104, _, none⟩) (zfar hw102_2 GW104.out :) _).trans (hHeld.2.2.2.2.2.2.1)))))))), ((cell_far (p := ⟨gb104, _, none⟩) (zfar hw102_3 GW104.out :) _).trans (((cell_far (p := ⟨gb104, _, none⟩) (zfar hw102_3 GW104.out :) _).trans (((cell_far (p := ⟨gb104, _, none⟩) (zfar hw102_3 GW104.out :) _).trans (((cell_far (p := ⟨gb104, _, none⟩) (zfar hw102_3 GW104.out :) _).trans (hHeld.2.2.2.2.2.2.2))))))))⟩ (fun hHeld => ?_)
   clear hK K
   refine done_ (done_of HT_.out (by kernel_rfl)) ?_
   have hnb54 := NB103_104.out
   have hnc54 := NB104_103.out
   obtain ⟨hcz55_0, hcz55_1, hcz55_2, hcz55_3⟩ := zc4 w45 (.string (⟨#[]⟩ : ByteArray)) (.int .i64 0) (.int .i64 0) (.int .i64 0) BK103.out
   obtain ⟨hfz55_0, hfz55_1, hfz55_2, hfz55_3⟩ := zf4 BK103.out
   obtain ⟨hcz56_0, hcz56_1, hcz56_2, hcz56_3⟩ := zc4 w45 (.string (⟨#[]⟩ : ByteArray)) (.int .i64 0) (.int .i64 0) (.int .i64 0) BK104.out
   obtain ⟨hfz56_0, hfz56_1, hfz56_2, hfz56_3⟩ := zf4 BK104.out
   try go_wp2
   go_ret
   exact ⟨by first | rfl | (simp [errW_none, errW_some] <;> rfl) | (simp [*, errW_none, errW_some] <;> rfl), by repeat (first | (with_reducible first | exact HB.out | apply zba | apply zbn | apply zbd | refine below_set ?_ GE103.out | refine below_set ?_ GE104.out) | exact HB.out)⟩
 rw [if_pos c10] at H
 have c10b0 : (((rd_T72 l0 a1).f3) == ((rd_T72 l0 a2).f3)) = true := beq_iff_eq.mpr c10
 have c10b1 : (((rd_T72 l0 a1).f3) != ((rd_T72 l0 a2).f3)) = false := bne_eq_false_iff_eq.mpr c10
 clear c10
 replace H := zob H
 obtain ⟨t107, A110, H⟩ := H
 replace H : ((spec_exParts.f k ((rd_T72 l0 a1).f0) ((rd_T72 l0 a1).f1) ((rd_T72 l0 a1).f2) ((rd_T72 l0 a1).f3)).bind fun t110 => (spec_vaCmp.l0 k l0 t107 t110 (t110.length : Int) 0)) = some r := H
 have A11 := zA A110
 clear A110
 replace H := zob H
 obtain ⟨t110, A120, H⟩ := H
 replace H : (spec_vaCmp.l0 k l0 t107 t110 (t110.length : Int) 0) = some r := H
 have A12 := zA A120
 clear A120
 have H' := zA H
 clear H
 go_enter Try.func97, Try.ntmps97
 try go_wp2
 have n0_ := zA (zbd HB.out)
 clear HB
 have HB := n0_
 clear n0_
 have p101 : 0 ≤ (a1 : Int) := zde (by assumption)
 have q101 : a1 < (l0.length : Int) := zde (by assumption)
 obtain ⟨ad101, e101, hx101_0, hx101_1, hx101_2, hx101_3⟩ := at_T72 HR0.out a1 p101 q101
 have hw101_3 := hx101_3
 have hw101_2 := hx101_2
 have hw101_1 := hx101_1
 have hw101_0 := hx101_0
 cases e101
 replace hx101_0 := zkep HB.out hx101_0
 replace hx101_1 := zkep HB.out hx101_1
 replace hx101_2 := zkep HB.out hx101_2
 replace hx101_3 := zkep HB.out hx101_3
 replace p101 := eq_true p101
 replace q101 := eq_true q101
 have p102 : 0 ≤ (a2 : Int) := zde (by assumption)
 have q102 : a2 < (l0.length : Int) := zde (by assumption)
 obtain ⟨ad102, e102, hx102_0, hx102_1, hx102_2, hx102_3⟩ := at_T72 HR0.out a2 p102 q102
 have hw102_3 := hx102_3
 have hw102_2 := hx102_2
 have hw102_1 := hx102_1
 have hw102_0 := hx102_0
 obtain rfl : ad101 = ad102 := (by injection e102)
 replace hx102_0 := zkep HB.out hx102_0
 replace hx102_1 := zkep HB.out hx102_1
 replace hx102_2 := zkep HB.out hx102_2
 replace hx102_3 := zkep HB.out hx102_3
 replace p102 := eq_true p102
 replace q102 := eq_true q102
 refine start_ (n := 12) (S := fun w' => w'.cell? (ad101.add ((a1).toNat * 4)) = some (.string ((rd_T72 l0 a1).f0)) ∧ w'.cell? ⟨(ad101.add ((a1).toNat * 4)).block, (ad101.add ((a1).toNat * 4)).off + 1, none⟩ = some (.int .i64 ((rd_T72 l0 a1).f1)) ∧ w'.cell? ⟨(ad101.add ((a1).toNat * 4)).block, (ad101.add ((a1).toNat * 4)).off + 2, none⟩ = some (.int .i64 ((rd_T72 l0 a1).f2)) ∧ w'.cell? ⟨(ad101.add ((a1).toNat * 4)).block, (ad101.add ((a1).toNat * 4)).off + 3, none⟩ = some (.int .i64 ((rd_T72 l0 a1).f3)) ∧ w'.cell? (ad101.add ((a2).toNat * 4)) = some (.string ((rd_T72 l0 a2).f0)) ∧ w'.cell? ⟨(ad101.add ((a2).toNat * 4)).block, (ad101.add ((a2).toNat * 4)).off + 1, none⟩ = some (.int .i64 ((rd_T72 l0 a2).f1)) ∧ w'.cell? ⟨(ad101.add ((a2).toNat * 4)).block, (ad101.add ((a2).toNat * 4)).off + 2, none⟩ = some (.int .i64 ((rd_T72 l0 a2).f2)) ∧ w'.cell? ⟨(ad101.add ((a2).toNat * 4)).block, (ad101.add ((a2).toNat * 4)).off + 3, none⟩ = some (.int .i64 ((rd_T72 l0 a2).f3))) (ds := []) #[false, false, false, false, false, false, false, false, false, false, false, false] (by kernel_rfl) rfl rfl ⟨(zkep HB.out hw101_0), (zkep HB.out hw101_1), (zkep HB.out hw101_2), (zkep HB.out hw101_3), (zkep HB.out hw102_0), (zkep HB.out hw102_1), (zkep HB.out hw102_2), (zkep HB.out hw102_3)⟩ (fun hHeld => ?_); refine with_tabW spec_vaCmp.tab3 spec_vaCmp.bits3 (fun HT_ HW_ => ?_)
 generalize w.drew = w13 at HB hx101_0 hx101_1 hx101_2 hx101_3 hx102_0 hx102_1 hx102_2 hx102_3 hHeld ⊢
 refine pure_ (i := 0) (N := some 16) (v := ?_) (a' := ?_) #[true, false, false, false, false, false, false, false, false, false, false, false] rfl rfl (any_of HT_.out (by kernel_rfl)) (fun _ _ _ h => h) (Or.inl ⟨by rfl, ?_⟩) ?_ ?_
 rotate_left
 · intro w'
   go_simp
   with_reducible rfl
 rotate_left
 · simp only [Act.put, List.setIfInBounds_toArray, List.set_cons_zero, List.set_cons_succ, i64_w, i32_w]
   rfl
 refine pure_ (i := 1) (N := some 17) (v := ?_) (a' := ?_) #[true, true, false, false, false, false, false, false, false, false, false, false] rfl rfl (any_of HT_.out (by kernel_rfl)) (fun _ _ _ h => h) (Or.inl ⟨by rfl, ?_⟩) ?_ ?_
 rotate_left
 · intro w'
   go_simp
   with_reducible rfl
 rotate_left
 · simp only [Act.put, List.setIfInBounds_toArray, List.set_cons_zero, List.set_cons_succ, i64_w, i32_w]
   rfl
 refine pure_ (i := 2) (N := some 18) (v := ?_) (a' := ?_) #[true, true, true, false, false, false, false, false, false, false, false, false] rfl rfl (any_of HT_.out (by kernel_rfl)) (fun _ _ _ h => h) (Or.inl ⟨by rfl, ?_⟩) ?_ ?_
 rotate_left
 · intro w'
   go_simp
   with_reducible rfl
 rotate_left
 · simp only [Act.put, List.setIfInBounds_toArray, List.set_cons_zero, List.set_cons_succ, i64_w, i32_w]
   rfl
 refine pure_ (i := 4) (N := some 20) (v := ?_) (a' := ?_) #[true, true, true, false, true, false, false, false, false, false, false, false] rfl rfl (any_of HT_.out (by kernel_rfl)) (fun _ _ _ h => h) (Or.inl ⟨by rfl, ?_⟩) ?_ ?_
 rotate_left
 · intro w'
   go_simp
   with_reducible rfl
 rotate_left
 · simp only [Act.put, List.setIfInBounds_toArray, List.set_cons_zero, List.set_cons_succ, i64_w, i32_w]
   rfl
 refine pure_ (i := 5) (N := some 21) (v := ?_) (a' := ?_) #[true, true, true, false, true, true, false, false, false, false, false, false] rfl rfl (any_of HT_.out (by kernel_rfl)) (fun _ _ _ h => h) (Or.inl ⟨by rfl, ?_⟩) ?_ ?_
 rotate_left
 · intro w'
   go_simp
   with_reducible rfl
 rotate_left
 · simp only [Act.put, List.setIfInBounds_toArray, List.set_cons_zero, List.set_cons_succ, i64_w, i32_w]
   rfl
 refine pure_ (i := 6) (N := some 22) (v := ?_) (a' := ?_) #[true, true, true, false, true, true, true, false, false, false, false, false] rfl rfl (any_of HT_.out (by kernel_rfl)) (fun _ _ _ h => h) (Or.inl ⟨by rfl, ?_⟩) ?_ ?_
 rotate_left
 · intro w'
   go_simp
   with_reducible rfl
 rotate_left
 · simp only [Act.put, List.setIfInBounds_toArray, List.set_cons_zero, List.set_cons_succ, i64_w, i32_w]
   rfl
 refine take_ (i := 3) (N := some 19) (v := ?_) (a' := ?_) #[true, true, true, true, true, true, true, false, false, false, false, false] rfl rfl (take_ofW HT_.out HW_.out (by kernel_rfl)) (fun _ _ _ h => h) (Or.inl ⟨by rfl, ?_⟩) hHeld ?_ ?_
 rotate_left
 · rintro w' ⟨s0, s1, s2, s3, s4, s5, s6, s7⟩
   go_simp
   with_reducible rfl
 rotate_left
 · simp only [Act.put, List.setIfInBounds_toArray, List.set_cons_zero, List.set_cons_succ, i64_w, i32_w]
   rfl
 refine take_ (i := 7) (N := some 23) (v := ?_) (a' := ?_) #[true, true, true, true, true, true, true, true, false, false, false, false] rfl rfl (take_ofW HT_.out HW_.out (by kernel_rfl)) (fun _ _ _ h => h) (Or.inl ⟨by rfl, ?_⟩) hHeld ?_ ?_
 rotate_left
 · rintro w' ⟨s0, s1, s2, s3, s4, s5, s6, s7⟩
   go_simp
   with_reducible rfl
 rotate_left
 · simp only [Act.put, List.setIfInBounds_toArray, List.set_cons_zero, List.set_cons_succ, i64_w, i32_w]
   rfl
 refine join_ (σ := Nat × Nat) 2 #[true, true, true, true, true, true, true, true, true, true, false, false] (fun s_ => [(7, .pointer (some ⟨s_.1, 0, none⟩)), (8, .pointer (some ⟨s_.2, 0, none⟩))]) (fun s_ w' => (w'.cell? (ad101.add ((a1).toNat * 4)) = some (.string ((rd_T72 l0 a1).f0)) ∧ w'.cell? ⟨(ad101.add ((a1).toNat * 4)).block, (ad101.add ((a1).toNat * 4)).off + 1, none⟩ = some (.int .i64 ((rd_T72 l0 a1).f1)) ∧ w'.cell? ⟨(ad101.add ((a1).toNat * 4)).block, (ad101.add ((a1).toNat * 4)).off + 2, none⟩ = some (.int .i64 ((rd_T72 l0 a1).f2)) ∧ w'.cell? ⟨(ad101.add ((a1).toNat * 4)).block, (ad101.add ((a1).toNat * 4)).off + 3, none⟩ = some (.int .i64 ((rd_T72 l0 a1).f3)) ∧ w'.cell? (ad101.add ((a2).toNat * 4)) = some (.string ((rd_T72 l0 a2).f0)) ∧ w'.cell? ⟨(ad101.add ((a2).toNat * 4)).block, (ad101.add ((a2).toNat * 4)).off + 1, none⟩ = some (.int .i64 ((rd_T72 l0 a2).f1)) ∧ w'.cell? ⟨(ad101.add ((a2).toNat * 4)).block, (ad101.add ((a2).toNat * 4)).off + 2, none⟩ = some (.int .i64 ((rd_T72 l0 a2).f2)) ∧ w'.cell? ⟨(ad101.add ((a2).toNat * 4)).block, (ad101.add ((a2).toNat * 4)).off + 3, none⟩ = some (.int .i64 ((rd_T72 l0 a2).f3))) ∧ (w'.heap[s_.1]? = some (.cells #[.string (⟨#[]⟩ : ByteArray), .int .i64 0, .int .i64 0, .int .i64 0] 72 (0, 0))) ∧ (w'.heap[s_.2]? = some (.cells #[.string (⟨#[]⟩ : ByteArray), .int .i64 0, .int .i64 0, .int .i64 0] 72 (0, 0))) ∧ (w.heap.size ≤ s_.1) ∧ (w.heap.size ≤ s_.1) ∧ (s_.2 ≠ s_.1) ∧ (s_.1 ≠ s_.2) ∧ (w.heap.size ≤ s_.2) ∧ (w.heap.size ≤ s_.2) ∧ (Below w.heap.size w w')) ?_ ?_
 rotate_left
 · intro hCont
   refine two_ (i := 8) (j := 9) (Ni := some 7) (Nj := some 8) #[true, true, true, true, true, true, true, true, true, false, false, false] #[true, true, true, true, true, true, true, true, false, true, false, false] rfl rfl rfl rfl (two_of HT_.out (by kernel_rfl)) (by decide) (by decide) (fun K hK => ?_) (fun K hK => ?_)
   · skip
     refine box_step ?hg (N := 7) ?hd (cs := #[.string (⟨#[]⟩ : ByteArray), .int .i64 0, .int .i64 0, .int .i64 0]) (t := 72) ?hr ?_; (case hd => rfl); (case hg => rfl); (case hr => go_simp <;> rfl)
     intro gb103 hg w14 hbox hb
     have n0_ := zA (below_step (by repeat (first | (with_reducible first | exact HB.out | apply zba | apply zbn | apply zbd) | exact HB.out)) hb)
     have n1_ := zA (hbox)
     have n2_ := zA ((by rw [hg]; exact (below_size (by repeat (first | (with_reducible first | exact HB.out | apply zba | apply zbn | apply zbd) | exact HB.out))) : w.heap.size ≤ gb103))
     have n3_ := zA ((by rw [hg]; exact (below_size (by repeat (first | (with_reducible first | exact HB.out | apply zba | apply zbn | apply zbd) | exact HB.out))) : w.heap.size ≤ gb103))
     clear HB
     have HB := n0_
     have BK103 := n1_
     have GW103 := n2_
     have GE103 := n3_
     clear n0_ n1_ n2_ n3_
     clear hb hbox hg
     refine hK.out _ _ ⟨(zkep HB.out hw101_0), (zkep HB.out hw101_1), (zkep HB.out hw101_2), (zkep HB.out hw101_3), (zkep HB.out hw102_0), (zkep HB.out hw102_1), (zkep HB.out hw102_2), (zkep HB.out hw102_3)⟩ (fun hHeld => ?_)
     clear hK K
     refine norm_ (a' := ?_) ?_ ?_
     rotate_left
     · show Act.put _ (some 7) _ = _
       simp only [Act.put, List.setIfInBounds_toArray, List.set_cons_zero, List.set_cons_succ, i64_w, i32_w]
       rfl
     refine one_ (i := 9) (N := some 8) #[true, true, true, true, true, true, true, true, true, true, false, false] rfl rfl (one_of HT_.out (by kernel_rfl)) (by decide) (fun K hK => ?_)
     refine box_step ?hg (N := 8) ?hd (cs := #[.string (⟨#[]⟩ : ByteArray), .int .i64 0, .int .i64 0, .int .i64 0]) (t := 72) ?hr ?_; (case hd => rfl); (case hg => rfl); (case hr => go_simp <;> rfl)
     intro gb104 hg w15 hbox hb
     have n0_ := zA (blk_below (g := gb103) (o := .cells #[.string (⟨#[]⟩ : ByteArray), .int .i64 0, .int .i64 0, .int .i64 0] 72 (0, 0)) (by (with_reducible repeat (first | refine zkn ?_ _ | refine zkd ?_ | refine zka ?_ _)); exact BK103.out) hb)
     have n1_ := zA (below_step (by repeat (first | (with_reducible first | exact HB.out | apply zba | apply zbn | apply zbd | refine below_set ?_ GE103.out) | exact HB.out)) hb)
     have n2_ := zA (hbox)
     have n3_ := zA ((by rw [hg]; exact (below_size (by repeat (first | (with_reducible first | exact HB.out | apply zba | apply zbn | apply zbd | refine below_set ?_ GE103.out) | exact HB.out))) : w.heap.size ≤ gb104))
     have n4_ := zA ((by rw [hg]; exact (below_size (by repeat (first | (with_reducible first | exact HB.out | apply zba | apply zbn | apply zbd | refine below_set ?_ GE103.out) | exact HB.out))) : w.heap.size ≤ gb104))
     have n5_ := zA ((by rw [hg]; exact Nat.ne_of_lt (zlt BK103.out (fun h => by (with_reducible repeat (first | refine zkn ?_ _ | refine zkd ?_ | refine zka ?_ _)); exact h)) : gb103 ≠ gb104))
     have n6_ := zA ((by rw [hg]; exact Nat.ne_of_gt (zlt BK103.out (fun h => by (with_reducible repeat (first | refine zkn ?_ _ | refine zkd ?_ | refine zka ?_ _)); exact h)) : gb104 ≠ gb103))
     clear BK103
     clear HB
     have BK103 := n0_
     have HB := n1_
     have BK104 := n2_
     have GW104 := n3_
     have GE104 := n4_
     have NB103_104 := n5_
     have NB104_103 := n6_
     clear n0_ n1_ n2_ n3_ n4_ n5_ n6_
     clear hb hbox hg
     refine hK.out _ _ ⟨(zkep HB.out hw101_0), (zkep HB.out hw101_1), (zkep HB.out hw101_2), (zkep HB.out hw101_3), (zkep HB.out hw102_0), (zkep HB.out hw102_1), (zkep HB.out hw102_2), (zkep HB.out hw102_3)⟩ (fun hHeld => ?_)
     clear hK K
     refine norm_ (a' := ?_) ?_ ?_
     rotate_left
     · show Act.put _ (some 8) _ = _
       simp only [Act.put, List.setIfInBounds_toArray, List.set_cons_zero, List.set_cons_succ, i64_w, i32_w]
       rfl
     exact norm_ (by simp only [putAll, Act.put, List.setIfInBounds_toArray, List.set_cons_zero, List.set_cons_succ]) (hCont (gb103, gb104) _ ⟨hHeld, (by (with_reducible repeat (first | refine zkn ?_ _ | refine zkd ?_ | refine zka ?_ _)); exact BK103.out), (by (with_reducible repeat (first | refine zkn ?_ _ | refine zkd ?_ | refine zka ?_ _)); exact BK104.out), GW103.out, GE103.out, NB104_103.out, NB103_104.out, GW104.out, GE104.out, (by repeat (first | (with_reducible first | exact HB.out | apply zba | apply zbn | apply zbd | refine below_set ?_ GE103.out | refine below_set ?_ GE104.out) | exact HB.out))⟩)
   skip
   refine box_step ?hg (N := 8) ?hd (cs := #[.string (⟨#[]⟩ : ByteArray), .int .i64 0, .int .i64 0, .int .i64 0]) (t := 72) ?hr ?_; (case hd => rfl); (case hg => rfl); (case hr => go_simp <;> rfl)
   intro gb104 hg w14 hbox hb
   have n0_ := zA (below_step (by repeat (first | (with_reducible first | exact HB.out | apply zba | apply zbn | apply zbd) | exact HB.out)) hb)
   have n1_ := zA (hbox)
   have n2_ := zA ((by rw [hg]; exact (below_size (by repeat (first | (with_reducible first | exact HB.out | apply zba | apply zbn | apply zbd) | exact HB.out))) : w.heap.size ≤ gb104))
   have n3_ := zA ((by rw [hg]; exact (below_size (by repeat (first | (with_reducible first | exact HB.out | apply zba | apply zbn | apply zbd) | exact HB.out))) : w.heap.size ≤ gb104))
   clear HB
   have HB := n0_
   have BK104 := n1_
   have GW104 := n2_
   have GE104 := n3_
   clear n0_ n1_ n2_ n3_
   clear hb hbox hg
   refine hK.out _ _ ⟨(zkep HB.out hw101_0), (zkep HB.out hw101_1), (zkep HB.out hw101_2), (zkep HB.out hw101_3), (zkep HB.out hw102_0), (zkep HB.out hw102_1), (zkep HB.out hw102_2), (zkep HB.out hw102_3)⟩ (fun hHeld => ?_)
   clear hK K
   refine norm_ (a' := ?_) ?_ ?_
   rotate_left
   · show Act.put _ (some 8) _ = _
     simp only [Act.put, List.setIfInBounds_toArray, List.set_cons_zero, List.set_cons_succ, i64_w, i32_w]
     rfl
   refine one_ (i := 8) (N := some 7) #[true, true, true, true, true, true, true, true, true, true, false, false] rfl rfl (one_of HT_.out (by kernel_rfl)) (by decide) (fun K hK => ?_)
   refine box_step ?hg (N := 7) ?hd (cs := #[.string (⟨#[]⟩ : ByteArray), .int .i64 0, .int .i64 0, .int .i64 0]) (t := 72) ?hr ?_; (case hd => rfl); (case hg => rfl); (case hr => go_simp <;> rfl)
   intro gb103 hg w15 hbox hb
   have n0_ := zA (blk_below (g := gb104) (o := .cells #[.string (⟨#[]⟩ : ByteArray), .int .i64 0, .int .i64 0, .int .i64 0] 72 (0, 0)) (by (with_reducible repeat (first | refine zkn ?_ _ | refine zkd ?_ | refine zka ?_ _)); exact BK104.out) hb)
   have n1_ := zA (below_step (by repeat (first | (with_reducible first | exact HB.out | apply zba | apply zbn | apply zbd | refine below_set ?_ GE104.out) | exact HB.out)) hb)
   have n2_ := zA (hbox)
   have n3_ := zA ((by rw [hg]; exact (below_size (by repeat (first | (with_reducible first | exact HB.out | apply zba | apply zbn | apply zbd | refine below_set ?_ GE104.out) | exact HB.out))) : w.heap.size ≤ gb103))
   have n4_ := zA ((by rw [hg]; exact (below_size (by repeat (first | (with_reducible first | exact HB.out | apply zba | apply zbn | apply zbd | refine below_set ?_ GE104.out) | exact HB.out))) : w.heap.size ≤ gb103))
   have n5_ := zA ((by rw [hg]; exact Nat.ne_of_lt (zlt BK104.out (fun h => by (with_reducible repeat (first | refine zkn ?_ _ | refine zkd ?_ | refine zka ?_ _)); exact h)) : gb104 ≠ gb103))
   have n6_ := zA ((by rw [hg]; exact Nat.ne_of_gt (zlt BK104.out (fun h => by (with_reducible repeat (first | refine zkn ?_ _ | refine zkd ?_ | refine zka ?_ _)); exact h)) : gb103 ≠ gb104))
   clear BK104
   clear HB
   have BK104 := n0_
   have HB := n1_
   have BK103 := n2_
   have GW103 := n3_
   have GE103 := n4_
   have NB104_103 := n5_
   have NB103_104 := n6_
   clear n0_ n1_ n2_ n3_ n4_ n5_ n6_
   clear hb hbox hg
   refine hK.out _ _ ⟨(zkep HB.out hw101_0), (zkep HB.out hw101_1), (zkep HB.out hw101_2), (zkep HB.out hw101_3), (zkep HB.out hw102_0), (zkep HB.out hw102_1), (zkep HB.out hw102_2), (zkep HB.out hw102_3)⟩ (fun hHeld => ?_)
   clear hK K
   refine norm_ (a' := ?_) ?_ ?_
   rotate_left
   · show Act.put _ (some 7) _ = _
     simp only [Act.put, List.setIfInBounds_toArray, List.set_cons_zero, List.set_cons_succ, i64_w, i32_w]
     rfl
   exact norm_ (by simp only [putAll, Act.put, List.setIfInBounds_toArray, List.set_cons_zero, List.set_cons_succ]) (hCont (gb103, gb104) _ ⟨hHeld, (by (with_reducible repeat (first | refine zkn ?_ _ | refine zkd ?_ | refine zka ?_ _)); exact BK103.out), (by (with_reducible repeat (first | refine zkn ?_ _ | refine zkd ?_ | refine zka ?_ _)); exact BK104.out), GW103.out, GE103.out, NB104_103.out, NB103_104.out, GW104.out, GE104.out, (by repeat (first | (with_reducible first | exact HB.out | apply zba | apply zbn | apply zbd | refine below_set ?_ GE104.out | refine below_set ?_ GE103.out) | exact HB.out))⟩)
 rintro ⟨gb103, gb104⟩ w16 ⟨hS_, h0_, h1_, h2_, h3_, h4_, h5_, h6_, h7_, h8_⟩
 have n0_ : Aside0 (w16.heap[gb103]? = some (.cells #[.string (⟨#[]⟩ : ByteArray), .int .i64 0, .int .i64 0, .int .i64 0] 72 (0, 0))) := ⟨h0_⟩
 have n1_ : Aside0 (w16.heap[gb104]? = some (.cells #[.string (⟨#[]⟩ : ByteArray), .int .i64 0, .int .i64 0, .int .i64 0] 72 (0, 0))) := ⟨h1_⟩
 have n2_ : Aside0 (w.heap.size ≤ gb103) := ⟨h2_⟩
 have n3_ : Aside0 (w.heap.size ≤ gb103) := ⟨h3_⟩
 have n4_ : Aside0 (gb104 ≠ gb103) := ⟨h4_⟩
 have n5_ : Aside0 (gb103 ≠ gb104) := ⟨h5_⟩
 have n6_ : Aside0 (w.heap.size ≤ gb104) := ⟨h6_⟩
 have n7_ : Aside0 (w.heap.size ≤ gb104) := ⟨h7_⟩
 have n8_ : Aside0 (Below w.heap.size w w16) := ⟨h8_⟩
 clear HB
 clear h0_ h1_ h2_ h3_ h4_ h5_ h6_ h7_ h8_
 have BK103 := n0_
 have BK104 := n1_
 have GW103 := n2_
 have GE103 := n3_
 have NB104_103 := n4_
 have NB103_104 := n5_
 have GW104 := n6_
 have GE104 := n7_
 have HB := n8_
 clear n0_ n1_ n2_ n3_ n4_ n5_ n6_ n7_ n8_
 have hHeld : w16.cell? (ad101.add ((a1).toNat * 4)) = some (.string ((rd_T72 l0 a1).f0)) ∧ w16.cell? ⟨(ad101.add ((a1).toNat * 4)).block, (ad101.add ((a1).toNat * 4)).off + 1, none⟩ = some (.int .i64 ((rd_T72 l0 a1).f1)) ∧ w16.cell? ⟨(ad101.add ((a1).toNat * 4)).block, (ad101.add ((a1).toNat * 4)).off + 2, none⟩ = some (.int .i64 ((rd_T72 l0 a1).f2)) ∧ w16.cell? ⟨(ad101.add ((a1).toNat * 4)).block, (ad101.add ((a1).toNat * 4)).off + 3, none⟩ = some (.int .i64 ((rd_T72 l0 a1).f3)) ∧ w16.cell? (ad101.add ((a2).toNat * 4)) = some (.string ((rd_T72 l0 a2).f0)) ∧ w16.cell? ⟨(ad101.add ((a2).toNat * 4)).block, (ad101.add ((a2).toNat * 4)).off + 1, none⟩ = some (.int .i64 ((rd_T72 l0 a2).f1)) ∧ w16.cell? ⟨(ad101.add ((a2).toNat * 4)).block, (ad101.add ((a2).toNat * 4)).off + 2, none⟩ = some (.int .i64 ((rd_T72 l0 a2).f2)) ∧ w16.cell? ⟨(ad101.add ((a2).toNat * 4)).block, (ad101.add ((a2).toNat * 4)).off + 3, none⟩ = some (.int .i64 ((rd_T72 l0 a2).f3)) := hS_
 refine norm_ (a' := ?_) ?_ ?_
 rotate_left
 · simp only [putAll, Act.put, List.setIfInBounds_toArray, List.set_cons_zero, List.set_cons_succ]
   rfl
 refine one_ (i := 10) (N := none) #[true, true, true, true, true, true, true, true, true, true, true, false] rfl rfl (one_of HT_.out (by kernel_rfl)) (by decide) (fun K hK => ?_)
 have hs17 : w16.cell? ⟨gb103, 0, none⟩ = some (.string (⟨#[]⟩ : ByteArray)) := (blk_cell BK103.out 0).trans rfl
 have hfs17 := blk_frozen BK103.out 0
 have hns17_1 := NB104_103.out
 have hms17_1 := NB103_104.out
 have hs18 : w16.cell? ⟨gb103, 1, none⟩ = some (.int .i64 0) := (blk_cell BK103.out 1).trans rfl
 have hfs18 := blk_frozen BK103.out 1
 have hns18_1 := NB104_103.out
 have hms18_1 := NB103_104.out
 have hs19 : w16.cell? ⟨gb103, 2, none⟩ = some (.int .i64 0) := (blk_cell BK103.out 2).trans rfl
 have hfs19 := blk_frozen BK103.out 2
 have hns19_1 := NB104_103.out
 have hms19_1 := NB103_104.out
 have hs20 : w16.cell? ⟨gb103, 3, none⟩ = some (.int .i64 0) := (blk_cell BK103.out 3).trans rfl
 have hfs20 := blk_frozen BK103.out 3
 have hns20_1 := NB104_103.out
 have hms20_1 := NB103_104.out
 refine skip_ (w1 := ?_) (by rfl) rfl ?_ ?_
 rotate_left
 · go_simp
   rfl
 refine hK.out _ _ ⟨((cell_far (p := ⟨gb103, _, none⟩) (zfar hw101_0 GW103.out :) _).trans (((cell_far (p := ⟨gb103, _, none⟩) (zfar hw101_0 GW103.out :) _).trans (((cell_far (p := ⟨gb103, _, none⟩) (zfar hw101_0 GW103.out :) _).trans (((cell_far (p := ⟨gb103, _, none⟩) (zfar hw101_0 GW103.out :) _).trans (hHeld.1)))))))), ((cell_far (p := ⟨gb103, _, none⟩) (zfar hw101_1 GW103.out :) _).trans (((cell_far (p := ⟨gb103, _, none⟩) (zfar hw101_1 GW103.out :) _).trans (((cell_far (p := ⟨gb103, _, none⟩) (zfar hw101_1 GW103.out :) _).trans (((cell_far (p := ⟨gb103, _, none⟩) (zfar hw101_1 GW103.out :) _).trans (hHeld.2.1)))))))), ((cell_far (p := ⟨gb103, _, none⟩) (zfar hw101_2 GW103.out :) _).trans (((cell_far (p := ⟨gb103, _, none⟩) (zfar hw101_2 GW103.out :) _).trans (((cell_far (p := ⟨gb103, _, none⟩) (zfar hw101_2 GW103.out :) _).trans (((cell_far (p := ⟨gb103, _, none⟩) (zfar hw101_2 GW103.out :) _).trans (hHeld.2.2.1)))))))), ((cell_far (p := ⟨gb103, _, none⟩) (zfar hw101_3 GW103.out :) _).trans (((cell_far (p := ⟨gb103, _, none⟩) (zfar hw101_3 GW103.out :) _).trans (((cell_far (p := ⟨gb103, _, none⟩) (zfar hw101_3 GW103.out :) _).trans (((cell_far (p := ⟨gb103, _, none⟩) (zfar hw101_3 GW103.out :) _).trans (hHeld.2.2.2.1)))))))), ((cell_far (p := ⟨gb103, _, none⟩) (zfar hw102_0 GW103.out :) _).trans (((cell_far (p := ⟨gb103, _, none⟩) (zfar hw102_0 GW103.out :) _).trans (((cell_far (p := ⟨gb103, _, none⟩) (zfar hw102_0 GW103.out :) _).trans (((cell_far (p := ⟨gb103, _, none⟩) (zfar hw102_0 GW103.out :) _).trans (hHeld.2.2.2.2.1)))))))), ((cell_far (p := ⟨gb103, _, none⟩) (zfar hw102_1 GW103.out :) _).trans (((cell_far (p := ⟨gb103, _, none⟩) (zfar hw102_1 GW103.out :) _).trans (((cell_far (p := ⟨gb103, _, none⟩) (zfar hw102_1 GW103.out :) _).trans (((cell_far (p := ⟨gb103, _, none⟩) (zfar hw102_1 GW103.out :) _).trans (hHeld.2.2.2.2.2.1)))))))), ((cell_far (p := ⟨gb103, _, none⟩) (zfar hw102_2 GW103.out :) _).trans (((cell_far (p := ⟨gb103, _, none⟩) (zfar hw102_2 GW103.out :) _).trans (((cell_far (p := ⟨gb103, _, none⟩) (zfar hw102_2 GW103.out :) _).trans (((cell_far (p := ⟨gb103, _, none⟩) (zfar hw102_2 GW103.out :) _).trans (hHeld.2.2.2.2.2.2.1)))))))), ((cell_far (p := ⟨gb103, _, none⟩) (zfar hw102_3 GW103.out :) _).trans (((cell_far (p := ⟨gb103, _, none⟩) (zfar hw102_3 GW103.out :) _).trans (((cell_far (p := ⟨gb103, _, none⟩) (zfar hw102_3 GW103.out :) _).trans (((cell_far (p := ⟨gb103, _, none⟩) (zfar hw102_3 GW103.out :) _).trans (hHeld.2.2.2.2.2.2.2))))))))⟩ (fun hHeld => ?_)
 clear hK K
 refine one_ (i := 11) (N := none) #[true, true, true, true, true, true, true, true, true, true, true, true] rfl rfl (one_of HT_.out (by kernel_rfl)) (by decide) (fun K hK => ?_)
 have hs21 : w16.cell? ⟨gb104, 0, none⟩ = some (.string (⟨#[]⟩ : ByteArray)) := (blk_cell BK104.out 0).trans rfl
 have hfs21 := blk_frozen BK104.out 0
 have hns21_0 := NB103_104.out
 have hms21_0 := NB104_103.out
 have hs22 : w16.cell? ⟨gb104, 1, none⟩ = some (.int .i64 0) := (blk_cell BK104.out 1).trans rfl
 have hfs22 := blk_frozen BK104.out 1
 have hns22_0 := NB103_104.out
 have hms22_0 := NB104_103.out
 have hs23 : w16.cell? ⟨gb104, 2, none⟩ = some (.int .i64 0) := (blk_cell BK104.out 2).trans rfl
 have hfs23 := blk_frozen BK104.out 2
 have hns23_0 := NB103_104.out
 have hms23_0 := NB104_103.out
 have hs24 : w16.cell? ⟨gb104, 3, none⟩ = some (.int .i64 0) := (blk_cell BK104.out 3).trans rfl
 have hfs24 := blk_frozen BK104.out 3
 have hns24_0 := NB103_104.out
 have hms24_0 := NB104_103.out
 refine skip_ (w1 := ?_) (by rfl) rfl ?_ ?_
 rotate_left
 · go_simp
   rfl
 refine hK.out _ _ ⟨((cell_far (p := ⟨gb104, _, none⟩) (zfar hw101_0 GW104.out :) _).trans (((cell_far (p := ⟨gb104, _, none⟩) (zfar hw101_0 GW104.out :) _).trans (((cell_far (p := ⟨gb104, _, none⟩) (zfar hw101_0 GW104.out :) _).trans (((cell_far (p := ⟨gb104, _, none⟩) (zfar hw101_0 GW104.out :) _).trans (hHeld.1)))))))), ((cell_far (p := ⟨gb104, _, none⟩) (zfar hw101_1 GW104.out :) _).trans (((cell_far (p := ⟨gb104, _, none⟩) (zfar hw101_1 GW104.out :) _).trans (((cell_far (p := ⟨gb104, _, none⟩) (zfar hw101_1 GW104.out :) _).trans (((cell_far (p := ⟨gb104, _, none⟩) (zfar hw101_1 GW104.out :) _).trans (hHeld.2.1)))))))), ((cell_far (p := ⟨gb104, _, none⟩) (zfar hw101_2 GW104.out :) _).trans (((cell_far (p := ⟨gb104, _, none⟩) (zfar hw101_2 GW104.out :) _).trans (((cell_far (p := ⟨gb104, _, none⟩) (zfar hw101_2 GW104.out :) _).trans (((cell_far (p := ⟨gb104, _, none⟩) (zfar hw101_2 GW104.out :) _).trans (hHeld.2.2.1)))))))), ((cell_far (p := ⟨gb104, _, none⟩) (zfar hw101_3 GW104.out :) _).trans (((cell_far (p := ⟨gb104, _, none⟩) (zfar hw101_3 GW104.out :) _).trans (((cell_far (p := ⟨gb104, _, none⟩) (zfar hw101_3 GW104.out :) _).trans (((cell_far (p := ⟨gb104, _, none⟩) (zfar hw101_3 GW104.out :) _).trans (hHeld.2.2.2.1)))))))), ((cell_far (p := ⟨gb104, _, none⟩) (zfar hw102_0 GW104.out :) _).trans (((cell_far (p := ⟨gb104, _, none⟩) (zfar hw102_0 GW104.out :) _).trans (((cell_far (p := ⟨gb104, _, none⟩) (zfar hw102_0 GW104.out :) _).trans (((cell_far (p := ⟨gb104, _, none⟩) (zfar hw102_0 GW104.out :) _).trans (hHeld.2.2.2.2.1)))))))), ((cell_far (p := ⟨gb104, _, none⟩) (zfar hw102_1 GW104.out :) _).trans (((cell_far (p := ⟨gb104, _, none⟩) (zfar hw102_1 GW104.out :) _).trans (((cell_far (p := ⟨gb104, _, none⟩) (zfar hw102_1 GW104.out :) _).trans (((cell_far (p := ⟨gb104, _, none⟩) (zfar hw102_1 GW104.out :) _).trans (hHeld.2.2.2.2.2.1)))))))), ((cell_far (p := ⟨gb104, _, none⟩) (zfar hw102_2 GW104.out :) _).trans (((cell_far (p := ⟨gb104, _, none⟩) (zfar hw102_2 GW104.out :) _).trans (((cell_far (p := ⟨gb104, _, none⟩) (zfar hw102_2 GW104.out :) _).trans (((cell_far (p := ⟨gb104, _, none⟩) (zfar hw102_2 GW104.out :) _).trans (hHeld.2.2.2.2.2.2.1)))))))), ((cell_far (p := ⟨gb104, _, none⟩) (zfar hw102_3 GW104.out :) _).trans (((cell_far (p := ⟨gb104, _, none⟩) (zfar hw102_3 GW104.out :) _).trans (((cell_far (p := ⟨gb104, _, none⟩) (zfar hw102_3 GW104.out :) _).trans (((cell_far (p := ⟨gb104, _, none⟩) (zfar hw102_3 GW104.out :) _).trans (hHeld.2.2.2.2.2.2.2))))))))⟩ (fun hHeld => ?_)
 clear hK K
 refine done_ (done_of HT_.out (by kernel_rfl)) ?_
 have hnb25 := NB103_104.out
 have hnc25 := NB104_103.out
 obtain ⟨hcz26_0, hcz26_1, hcz26_2, hcz26_3⟩ := zc4 w16 (.string (⟨#[]⟩ : ByteArray)) (.int .i64 0) (.int .i64 0) (.int .i64 0) BK103.out
 obtain ⟨hfz26_0, hfz26_1, hfz26_2, hfz26_3⟩ := zf4 BK103.out
 obtain ⟨hcz27_0, hcz27_1, hcz27_2, hcz27_3⟩ := zc4 w16 (.string (⟨#[]⟩ : ByteArray)) (.int .i64 0) (.int .i64 0) (.int .i64 0) BK104.out
 obtain ⟨hfz27_0, hfz27_1, hfz27_2, hfz27_3⟩ := zf4 BK104.out
 try go_wp2_with (first | ((with_reducible refine gate_callee (f := 143) rfl ?_); refine goesL_ (some 47) rfl rfl Try.func143 (by kernel_rfl) rfl #[.agg #[.string ((rd_T72 l0 a2).f0), .int .i64 ((rd_T72 l0 a2).f1), .int .i64 ((rd_T72 l0 a2).f2), .int .i64 ((rd_T72 l0 a2).f3)]] rfl (by (try simp only [List.map_toArray, List.map_cons, List.map_nil]); first | done | rfl | (simp only [List.length_drop, List.length_take]; rfl)) ?_; (with_reducible refine (spec_exParts.calls k ((rd_T72 l0 a2).f0) ((rd_T72 l0 a2).f1) ((rd_T72 l0 a2).f2) ((rd_T72 l0 a2).f3) t107 _ A11.out).mono ?_); rintro e w28 ⟨v108, rfl, ho0, hb⟩; refine ⟨_, rfl, ?_⟩; have n0_ := zA (Kd.R_lower ho0 (below_size (by repeat (first | (with_reducible first | exact HB.out | apply zba | apply zbn | apply zbd | refine below_set ?_ GE103.out | refine below_set ?_ GE104.out) | exact HB.out)))); have n1_ := zA (blk_below (g := gb103) (o := .cells #[.string ((rd_T72 l0 a1).f0), .int .i64 ((rd_T72 l0 a1).f1), .int .i64 ((rd_T72 l0 a1).f2), .int .i64 ((rd_T72 l0 a1).f3)] 72 (0, 0)) (by (with_reducible repeat (first | refine zkn ?_ _ | refine zkd ?_ | refine zka ?_ _)); refine blk_far ?_ NB103_104.out _; (with_reducible repeat (first | refine zkn ?_ _ | refine zkd ?_ | refine zka ?_ _)); refine blk_far ?_ NB103_104.out _; (with_reducible repeat (first | refine zkn ?_ _ | refine zkd ?_ | refine zka ?_ _)); refine blk_far ?_ NB103_104.out _; (with_reducible repeat (first | refine zkn ?_ _ | refine zkd ?_ | refine zka ?_ _)); refine blk_far ?_ NB103_104.out _; (with_reducible repeat (first | refine zkn ?_ _ | refine zkd ?_ | refine zka ?_ _)); refine blk_put (cs := #[.string ((rd_T72 l0 a1).f0), .int .i64 ((rd_T72 l0 a1).f1), .int .i64 ((rd_T72 l0 a1).f2), .int .i64 0]) ?_ 3 _ rfl; (with_reducible repeat (first | refine zkn ?_ _ | refine zkd ?_ | refine zka ?_ _)); refine blk_put (cs := #[.string ((rd_T72 l0 a1).f0), .int .i64 ((rd_T72 l0 a1).f1), .int .i64 0, .int .i64 0]) ?_ 2 _ rfl; (with_reducible repeat (first | refine zkn ?_ _ | refine zkd ?_ | refine zka ?_ _)); refine blk_put (cs := #[.string ((rd_T72 l0 a1).f0), .int .i64 0, .int .i64 0, .int .i64 0]) ?_ 1 _ rfl; (with_reducible repeat (first | refine zkn ?_ _ | refine zkd ?_ | refine zka ?_ _)); refine blk_put (cs := #[.string (⟨#[]⟩ : ByteArray), .int .i64 0, .int .i64 0, .int .i64 0]) ?_ 0 _ rfl; (with_reducible repeat (first | refine zkn ?_ _ | refine zkd ?_ | refine zka ?_ _)); exact BK103.out) hb); have n2_ := zA (blk_below (g := gb104) (o := .cells #[.string ((rd_T72 l0 a2).f0), .int .i64 ((rd_T72 l0 a2).f1), .int .i64 ((rd_T72 l0 a2).f2), .int .i64 ((rd_T72 l0 a2).f3)] 72 (0, 0)) (by (with_reducible repeat (first | refine zkn ?_ _ | refine zkd ?_ | refine zka ?_ _)); refine blk_put (cs := #[.string ((rd_T72 l0 a2).f0), .int .i64 ((rd_T72 l0 a2).f1), .int .i64 ((rd_T72 l0 a2).f2), .int .i64 0]) ?_ 3 _ rfl; (with_reducible repeat (first | refine zkn ?_ _ | refine zkd ?_ | refine zka ?_ _)); refine blk_put (cs := #[.string ((rd_T72 l0 a2).f0), .int .i64 ((rd_T72 l0 a2).f1), .int .i64 0, .int .i64 0]) ?_ 2 _ rfl; (with_reducible repeat (first | refine zkn ?_ _ | refine zkd ?_ | refine zka ?_ _)); refine blk_put (cs := #[.string ((rd_T72 l0 a2).f0), .int .i64 0, .int .i64 0, .int .i64 0]) ?_ 1 _ rfl; (with_reducible repeat (first | refine zkn ?_ _ | refine zkd ?_ | refine zka ?_ _)); refine blk_put (cs := #[.string (⟨#[]⟩ : ByteArray), .int .i64 0, .int .i64 0, .int .i64 0]) ?_ 0 _ rfl; (with_reducible repeat (first | refine zkn ?_ _ | refine zkd ?_ | refine zka ?_ _)); refine blk_far ?_ NB104_103.out _; (with_reducible repeat (first | refine zkn ?_ _ | refine zkd ?_ | refine zka ?_ _)); refine blk_far ?_ NB104_103.out _; (with_reducible repeat (first | refine zkn ?_ _ | refine zkd ?_ | refine zka ?_ _)); refine blk_far ?_ NB104_103.out _; (with_reducible repeat (first | refine zkn ?_ _ | refine zkd ?_ | refine zka ?_ _)); refine blk_far ?_ NB104_103.out _; (with_reducible repeat (first | refine zkn ?_ _ | refine zkd ?_ | refine zka ?_ _)); exact BK104.out) hb); have n3_ := zA (below_step (by repeat (first | (with_reducible first | exact HB.out | apply zba | apply zbn | apply zbd | refine below_set ?_ GE103.out | refine below_set ?_ GE104.out) | exact HB.out)) hb); clear BK103 BK104 HB; have HO109 := n0_; have BK103 := n1_; have BK104 := n2_; have HB := n3_; clear n0_ n1_ n2_ n3_; (try clear hb); (try clear ho0); obtain ⟨hcz29_0, hcz29_1, hcz29_2, hcz29_3⟩ := zc4 w28 (.string ((rd_T72 l0 a1).f0)) (.int .i64 ((rd_T72 l0 a1).f1)) (.int .i64 ((rd_T72 l0 a1).f2)) (.int .i64 ((rd_T72 l0 a1).f3)) BK103.out; obtain ⟨hfz29_0, hfz29_1, hfz29_2, hfz29_3⟩ := zf4 BK103.out) | ((with_reducible refine gate_callee (f := 143) rfl ?_); refine goesL_ (some 49) rfl rfl Try.func143 (by kernel_rfl) rfl #[.agg #[.string ((rd_T72 l0 a1).f0), .int .i64 ((rd_T72 l0 a1).f1), .int .i64 ((rd_T72 l0 a1).f2), .int .i64 ((rd_T72 l0 a1).f3)]] rfl (by (try simp only [List.map_toArray, List.map_cons, List.map_nil]); first | done | rfl | (simp only [List.length_drop, List.length_take]; rfl)) ?_; (with_reducible refine (spec_exParts.calls k ((rd_T72 l0 a1).f0) ((rd_T72 l0 a1).f1) ((rd_T72 l0 a1).f2) ((rd_T72 l0 a1).f3) t110 _ A12.out).mono ?_); rintro e w30 ⟨v111, rfl, ho0, hb⟩; refine ⟨_, rfl, ?_⟩; have n0_ := zA (Kd.R_elder' (by (with_reducible repeat (first | apply zRa | apply zRn | apply zRd)); exact HO109.out) (Kd.R_base ho0) hb); have n1_ := zA (Kd.R_lower (Kd.R_new' ho0 (Kd.R_lt (by (with_reducible repeat (first | apply zRa | apply zRn | apply zRd)); exact HO109.out))) (below_size (by repeat (first | (with_reducible first | exact HB.out | apply zba | apply zbn | apply zbd | refine below_set ?_ GE103.out | refine below_set ?_ GE104.out) | exact HB.out)))); have n2_ := zA (blk_below (g := gb103) (o := .cells #[.string ((rd_T72 l0 a1).f0), .int .i64 ((rd_T72 l0 a1).f1), .int .i64 ((rd_T72 l0 a1).f2), .int .i64 ((rd_T72 l0 a1).f3)] 72 (0, 0)) (by (with_reducible repeat (first | refine zkn ?_ _ | refine zkd ?_ | refine zka ?_ _)); exact BK103.out) hb); have n3_ := zA (blk_below (g := gb104) (o := .cells #[.string ((rd_T72 l0 a2).f0), .int .i64 ((rd_T72 l0 a2).f1), .int .i64 ((rd_T72 l0 a2).f2), .int .i64 ((rd_T72 l0 a2).f3)] 72 (0, 0)) (by (with_reducible repeat (first | refine zkn ?_ _ | refine zkd ?_ | refine zka ?_ _)); exact BK104.out) hb); have n4_ := zA (below_step (by repeat (first | (with_reducible first | exact HB.out | apply zba | apply zbn | apply zbd | refine below_set ?_ GE103.out | refine below_set ?_ GE104.out) | exact HB.out)) hb); clear HO109 BK103; clear BK104 HB; have HO109 := n0_; have HO112 := n1_; have BK103 := n2_; have BK104 := n3_; have HB := n4_; clear n0_ n1_ n2_ n3_ n4_; (try clear hb); (try clear ho0); obtain ⟨Ao31, co31, eo31⟩ := Kd.R_slice HO112.out; subst eo31))
 go_loopg [51] k (fun kq v51 w' => ∃ (x51_1 : Int), v51 = .int .i64 x51_1 ∧ Aside0 (spec_vaCmp.l0 kq l0 t107 t110 (t110.length : Int) x51_1 = some r) ∧ Aside0 (kq ≤ k) ∧ Aside0 (Kd.R (Kd.int .i64) 3 w' w.heap.size (fun k_ => some k_ ≠ ((.slice Ao31 t110.length co31) : Value).ownBlock) v108 t107) ∧ Aside0 (Kd.R (Kd.int .i64) 3 w' w.heap.size (fun k_ => some k_ ≠ (v108 : Value).ownBlock) (.slice Ao31 t110.length co31) t110) ∧ Aside0 (w'.heap[gb103]? = some (.cells #[.string ((rd_T72 l0 a1).f0), .int .i64 ((rd_T72 l0 a1).f1), .int .i64 ((rd_T72 l0 a1).f2), .int .i64 ((rd_T72 l0 a1).f3)] 72 (0, 0))) ∧ Aside0 (w'.heap[gb104]? = some (.cells #[.string ((rd_T72 l0 a2).f0), .int .i64 ((rd_T72 l0 a2).f1), .int .i64 ((rd_T72 l0 a2).f2), .int .i64 ((rd_T72 l0 a2).f3)] 72 (0, 0))) ∧ Aside0 (Below w.heap.size w w'))
 case atStart => exact ⟨(0), (by first | rfl | (simp; done) | (simp [*]; done)), H', ⟨zlr _⟩, ⟨by (with_reducible repeat (first | apply zRa | apply zRn | apply zRd)); exact Kd.R_mono HO109.out (fun _ hk => hk.2)⟩, ⟨by (with_reducible repeat (first | apply zRa | apply zRn | apply zRd)); exact Kd.R_mono HO112.out (fun _ hk => hk.2)⟩, ⟨by (with_reducible repeat (first | refine zkn ?_ _ | refine zkd ?_ | refine zka ?_ _)); exact BK103.out⟩, ⟨by (with_reducible repeat (first | refine zkn ?_ _ | refine zkd ?_ | refine zka ?_ _)); exact BK104.out⟩, ⟨by repeat (first | (with_reducible first | exact HB.out | apply zba | apply zbn | apply zbd | refine below_set ?_ GE103.out | refine below_set ?_ GE104.out) | exact HB.out)⟩⟩
 clear H'
 try clear c1
 try clear p1
 try clear q1
 try clear hx1
 try clear c2
 try clear p2
 try clear c4
 try clear c4b0
 try clear c4b1
 try clear c5
 try clear c5b0
 try clear c6
 try clear c6b0
 try clear p6
 try clear c7
 try clear c7b0
 try clear c8
 try clear c8b0
 try clear c9
 try clear c9b0
 try clear c9b1
 try clear c10
 try clear c10b0
 try clear c10b1
 try clear p10
 try clear q10
 try clear hx10
 try clear c14
 try clear c25
 try clear hcz26_0
 try clear hcz26_1
 try clear hcz26_2
 try clear hcz26_3
 try clear hcz27_0
 try clear hcz27_1
 try clear hcz27_2
 try clear hcz27_3
 try clear hcz29_0
 try clear hcz29_1
 try clear hcz29_2
 try clear hcz29_3
 try clear hfz26_0
 try clear hfz26_1
 try clear hfz26_2
 try clear hfz26_3
 try clear hfz27_0
 try clear hfz27_1
 try clear hfz27_2
 try clear hfz27_3
 try clear hfz29_0
 try clear hfz29_1
 try clear hfz29_2
 try clear hfz29_3
 try clear hx101_0
 try clear hx101_1
 try clear hx101_2
 try clear hx101_3
 try clear hx102_0
 try clear hx102_1
 try clear hx102_2
 try clear hx102_3
 try clear p101
 try clear p102
 try clear q101
 try clear q102
 obtain ⟨x51_1, rfl, HA, HK1, HO_9, HO_49, BK103, BK104, HB⟩ := hrel
 cases gk with
 | zero => exact absurd HA.out (by simp [spec_vaCmp.l0])
 | succ k1 =>
 have H := HA.out
 clear HA
 simp only [spec_vaCmp.l0] at H
 by_cases c32 : x51_1 < (t110.length : Int)
 rotate_left
 · rw [if_neg c32] at H
   have c32b0 : decide (x51_1 < (t110.length : Int)) = false := zdf c32
   clear c32
   obtain rfl := zsi H
   go_wp2
   go_ret
   exact ⟨by first | rfl | (simp [errW_none, errW_some] <;> rfl) | (simp [*, errW_none, errW_some] <;> rfl), by repeat (first | (with_reducible first | exact HB.out | apply zba | apply zbn | apply zbd | refine below_set ?_ GE103.out | refine below_set ?_ GE104.out) | exact HB.out)⟩
 rw [if_pos c32] at H
 have c32b0 : decide (x51_1 < (t110.length : Int)) = true := zdt c32
 clear c32
 by_cases c33 : 0 ≤ x51_1
 rotate_left
 · rw [if_neg c33] at H
   exact absurd H (by simp)
 rw [if_pos c33] at H
 have c33b0 : decide (0 ≤ x51_1) = true := zdt c33
 clear c33
 by_cases c34 : x51_1 < (t110.length : Int)
 rotate_left
 · rw [if_neg c34] at H
   exact absurd H (by simp)
 rw [if_pos c34] at H
 have c34b0 : decide (x51_1 < (t110.length : Int)) = true := zdt c34
 clear c34
 by_cases c35 : x51_1 < (t107.length : Int)
 rotate_left
 · rw [if_neg c35] at H
   exact absurd H (by simp)
 rw [if_pos c35] at H
 have c35b0 : decide (x51_1 < (t107.length : Int)) = true := zdt c35
 clear c35
 replace H := zob H
 obtain ⟨t115, A360, H⟩ := H
 replace H : (if t115 = 0 then (spec_vaCmp.l0 k1 l0 t107 t110 (t110.length : Int) (wrap64 (x51_1 + 1))) else (some t115)) = some r := H
 have A36 := zA A360
 clear A360
 by_cases c37 : t115 = 0
 rotate_left
 · rw [if_neg c37] at H
   have c37b0 : (t115 == 0) = false := beq_eq_false_iff_ne.mpr c37
   have c37b1 : (t115 != 0) = true := bne_iff_ne.mpr c37
   obtain rfl := zsi H
   have p113 : 0 ≤ (x51_1 : Int) := zde (by assumption)
   have q113 : x51_1 < (t110.length : Int) := zde (by assumption)
   obtain ⟨ad113, e113, hx113_0⟩ := Kd.at_int (zRr HO_49.out).2.2 x51_1 p113 q113
   cases e113
   replace p113 := eq_true p113
   replace q113 := eq_true q113
   obtain ⟨Ao40, co40, eo40⟩ := Kd.R_slice HO_9.out
   subst eo40
   have p114 : 0 ≤ (x51_1 : Int) := zde (by assumption)
   have q114 : x51_1 < (t107.length : Int) := zde (by assumption)
   obtain ⟨ad114, e114, hx114_0⟩ := Kd.at_int (zRr HO_9.out).2.2 x51_1 p114 q114
   cases e114
   replace p114 := eq_true p114
   replace q114 := eq_true q114
   go_wp2_with (first | ((with_reducible refine gate_callee (f := 97) rfl ?_); refine goesL_ (some 62) rfl rfl Try.func97 (by kernel_rfl) rfl #[.slice (some ad101) l0.length c0, .int .i64 (rd t110 x51_1), .int .i64 (rd t107 x51_1)] rfl (by (try simp only [List.map_toArray, List.map_cons, List.map_nil]); first | done | rfl | (simp only [List.length_drop, List.length_take]; rfl)) ?_; (with_reducible refine (ih k1 (by have := HK1.out; omega) _ _ l0 (rd t110 x51_1) (rd t107 x51_1) t115 _ ?side1 ?side2 A36.out).mono ?_); (case side1 => repeat (first | exact (zCb HR0.out HB.out) | (with_reducible first | refine zCa ?_ _ | refine zCn ?_ _ | refine zCd ?_))); (case side2 => exact HC0.out); rintro e w41 ⟨rfl, hb⟩; refine ⟨_, rfl, ?_⟩; have n0_ := zA (zRb (by (with_reducible repeat (first | apply zRa | apply zRn | apply zRd)); exact HO_9.out) hb); have n1_ := zA (zRb (by (with_reducible repeat (first | apply zRa | apply zRn | apply zRd)); exact HO_49.out) hb); have n2_ := zA (blk_below (g := gb103) (o := .cells #[.string ((rd_T72 l0 a1).f0), .int .i64 ((rd_T72 l0 a1).f1), .int .i64 ((rd_T72 l0 a1).f2), .int .i64 ((rd_T72 l0 a1).f3)] 72 (0, 0)) (by (with_reducible repeat (first | refine zkn ?_ _ | refine zkd ?_ | refine zka ?_ _)); exact BK103.out) hb); have n3_ := zA (blk_below (g := gb104) (o := .cells #[.string ((rd_T72 l0 a2).f0), .int .i64 ((rd_T72 l0 a2).f1), .int .i64 ((rd_T72 l0 a2).f2), .int .i64 ((rd_T72 l0 a2).f3)] 72 (0, 0)) (by (with_reducible repeat (first | refine zkn ?_ _ | refine zkd ?_ | refine zka ?_ _)); exact BK104.out) hb); have n4_ := zA (below_step (by repeat (first | (with_reducible first | exact HB.out | apply zba | apply zbn | apply zbd | refine below_set ?_ GE103.out | refine below_set ?_ GE104.out) | exact HB.out)) hb); clear HO_9 HO_49; clear BK103 BK104 HB; have HO_9 := n0_; have HO_49 := n1_; have BK103 := n2_; have BK104 := n3_; have HB := n4_; clear n0_ n1_ n2_ n3_ n4_; (try clear hb)))
   go_ret
   exact ⟨by first | rfl | (simp [errW_none, errW_some] <;> rfl) | (simp [*, errW_none, errW_some] <;> rfl), by repeat (first | (with_reducible first | exact HB.out | apply zba | apply zbn | apply zbd | refine below_set ?_ GE103.out | refine below_set ?_ GE104.out) | exact HB.out)⟩
 rw [if_pos c37] at H
 have c37b0 : (t115 == 0) = true := beq_iff_eq.mpr c37
 have c37b1 : (t115 != 0) = false := bne_eq_false_iff_eq.mpr c37
 clear c37
 have H' := zA H
 clear H
 have p113 : 0 ≤ (x51_1 : Int) := zde (by assumption)
 have q113 : x51_1 < (t110.length : Int) := zde (by assumption)
 obtain ⟨ad113, e113, hx113_0⟩ := Kd.at_int (zRr HO_49.out).2.2 x51_1 p113 q113
 cases e113
 replace p113 := eq_true p113
 replace q113 := eq_true q113
 obtain ⟨Ao38, co38, eo38⟩ := Kd.R_slice HO_9.out
 subst eo38
 have p114 : 0 ≤ (x51_1 : Int) := zde (by assumption)
 have q114 : x51_1 < (t107.length : Int) := zde (by assumption)
 obtain ⟨ad114, e114, hx114_0⟩ := Kd.at_int (zRr HO_9.out).2.2 x51_1 p114 q114
 cases e114
 replace p114 := eq_true p114
 replace q114 := eq_true q114
 go_wp2_with (first | ((with_reducible refine gate_callee (f := 97) rfl ?_); refine goesL_ (some 62) rfl rfl Try.func97 (by kernel_rfl) rfl #[.slice (some ad101) l0.length c0, .int .i64 (rd t110 x51_1), .int .i64 (rd t107 x51_1)] rfl (by (try simp only [List.map_toArray, List.map_cons, List.map_nil]); first | done | rfl | (simp only [List.length_drop, List.length_take]; rfl)) ?_; (with_reducible refine (ih k1 (by have := HK1.out; omega) _ _ l0 (rd t110 x51_1) (rd t107 x51_1) t115 _ ?side1 ?side2 A36.out).mono ?_); (case side1 => repeat (first | exact (zCb HR0.out HB.out) | (with_reducible first | refine zCa ?_ _ | refine zCn ?_ _ | refine zCd ?_))); (case side2 => exact HC0.out); rintro e w39 ⟨rfl, hb⟩; refine ⟨_, rfl, ?_⟩; have n0_ := zA (zRb (by (with_reducible repeat (first | apply zRa | apply zRn | apply zRd)); exact HO_9.out) hb); have n1_ := zA (zRb (by (with_reducible repeat (first | apply zRa | apply zRn | apply zRd)); exact HO_49.out) hb); have n2_ := zA (blk_below (g := gb103) (o := .cells #[.string ((rd_T72 l0 a1).f0), .int .i64 ((rd_T72 l0 a1).f1), .int .i64 ((rd_T72 l0 a1).f2), .int .i64 ((rd_T72 l0 a1).f3)] 72 (0, 0)) (by (with_reducible repeat (first | refine zkn ?_ _ | refine zkd ?_ | refine zka ?_ _)); exact BK103.out) hb); have n3_ := zA (blk_below (g := gb104) (o := .cells #[.string ((rd_T72 l0 a2).f0), .int .i64 ((rd_T72 l0 a2).f1), .int .i64 ((rd_T72 l0 a2).f2), .int .i64 ((rd_T72 l0 a2).f3)] 72 (0, 0)) (by (with_reducible repeat (first | refine zkn ?_ _ | refine zkd ?_ | refine zka ?_ _)); exact BK104.out) hb); have n4_ := zA (below_step (by repeat (first | (with_reducible first | exact HB.out | apply zba | apply zbn | apply zbd | refine below_set ?_ GE103.out | refine below_set ?_ GE104.out) | exact HB.out)) hb); clear HO_9 HO_49; clear BK103 BK104 HB; have HO_9 := n0_; have HO_49 := n1_; have BK103 := n2_; have BK104 := n3_; have HB := n4_; clear n0_ n1_ n2_ n3_ n4_; (try clear hb)))
 go_roundg k1
 case measure => have := HK1.out; omega
 case rel => exact ⟨(wrap64 (x51_1 + 1)), (by first | rfl | (simp; done) | (simp [*]; done)), H', ⟨by have := HK1.out; omega⟩, ⟨by (with_reducible repeat (first | apply zRa | apply zRn | apply zRd)); exact HO_9.out⟩, ⟨by (with_reducible repeat (first | apply zRa | apply zRn | apply zRd)); exact HO_49.out⟩, ⟨by (with_reducible repeat (first | refine zkn ?_ _ | refine zkd ?_ | refine zka ?_ _)); exact BK103.out⟩, ⟨by (with_reducible repeat (first | refine zkn ?_ _ | refine zkd ?_ | refine zka ?_ _)); exact BK104.out⟩, ⟨by repeat (first | (with_reducible first | exact HB.out | apply zba | apply zbn | apply zbd | refine below_set ?_ GE103.out | refine below_set ?_ GE104.out) | exact HB.out)⟩⟩
end Go.Proofs.Ytkfkbmlbpeojaaa.Q
end
section
namespace Go.Proofs.Ytkfkbmlbpeojaaa.Q
open Go.RowKit Go.Proofs.YtkfkbmlbpeojaaaW.PrintWords Go.Proofs.YtkfkbmlbpeojaaaW.PrintLast Go.Proofs.YtkfkbmlbpeojaaaW.PrintMore
attribute [local go_sem] max2_int min2_int max_two min_two max_three min_three max_four min_four
set_option linter.unusedVariables false
set_option linter.unusedSimpArgs false
def spec_vaTurned.f (k : Nat) (a0 : ByteArray) : Option (Bool) := (spec_l1HasS.f k (([(⟨#[97, 100, 100]⟩ : ByteArray), (⟨#[109, 117, 108]⟩ : ByteArray), (⟨#[97, 110, 100]⟩ : ByteArray), (⟨#[111, 114]⟩ : ByteArray), (⟨#[120, 111, 114]⟩ : ByteArray), (⟨#[101, 113]⟩ : ByteArray)] : List ByteArray)) a0).bind fun t104 => (some t104)
theorem spec_vaTurned.mono : ∀ a0 k, LeO (spec_vaTurned.f k a0) (spec_vaTurned.f (k + 1) a0) := by
 intro a0 k
 unfold spec_vaTurned.f
 repeat' first
     | (with_reducible first | exact spec_l1HasS.mono _ _ _ | exact LeO.refl _ | exact LeO.none _ | refine LeO.ite ?_ ?_ | refine LeO.bind ?_ (fun _ => ?_))
     | exact LeO.none _
     | refine LeO.ite ?_ ?_
     | refine LeO.bind ?_ (fun _ => ?_)
set_option maxHeartbeats 8000000 in
set_option maxRecDepth 100000 in
theorem spec_vaTurned.calls (k : Nat) (a0 : ByteArray) (r : Bool) (w : World) (h : spec_vaTurned.f k a0 = some r) :
   Calls Try.prog 96 #[.string a0] w fun e w' => e = .returned (.bool r) ∧ Below w.heap.size w w' := by
 have HB := zA (Below.refl w.heap.size w)
 have H : ((spec_l1HasS.f k (([(⟨#[97, 100, 100]⟩ : ByteArray), (⟨#[109, 117, 108]⟩ : ByteArray), (⟨#[97, 110, 100]⟩ : ByteArray), (⟨#[111, 114]⟩ : ByteArray), (⟨#[120, 111, 114]⟩ : ByteArray), (⟨#[101, 113]⟩ : ByteArray)] : List ByteArray)) a0).bind fun t104 => (some t104)) = some r := h
 clear h
 obtain ⟨y101, hy101⟩ : ∃ y_ : List ByteArray, y_ = (([(⟨#[97, 100, 100]⟩ : ByteArray), (⟨#[109, 117, 108]⟩ : ByteArray), (⟨#[97, 110, 100]⟩ : ByteArray), (⟨#[111, 114]⟩ : ByteArray), (⟨#[120, 111, 114]⟩ : ByteArray), (⟨#[101, 113]⟩ : ByteArray)] : List ByteArray)) := ⟨_, rfl⟩
 replace H : ((spec_l1HasS.f k y101 a0).bind fun t104 => (some t104)) = some r := by first | (rw [hy101]; with_reducible exact H) | (have H2_ := (Option.bind_some _ _).symm.trans H; rw [hy101]; with_reducible exact H2_) | (have H2_ := (Option.bind_some _ _).symm.trans H; with_reducible exact H2_) | with_reducible exact H | (rw [hy101]; exact H) | exact H
 have Ny101 := zA hy101
 clear hy101
 replace H := zob H
 obtain ⟨t104, A20, H⟩ := H
 replace H : (some t104) = some r := H
 have A2 := zA A20
 clear A20
 obtain rfl := zsi H
 go_enter Try.func96, Try.ntmps96
 go_wp2_with (first | ((with_reducible refine gate_dst (N := 3) rfl ?_); refine Kd.R_lit Kd.string _ 9 ?hg (N := 3) ?hd (xs := ([(⟨#[97, 100, 100]⟩ : ByteArray), (⟨#[109, 117, 108]⟩ : ByteArray), (⟨#[97, 110, 100]⟩ : ByteArray), (⟨#[111, 114]⟩ : ByteArray), (⟨#[120, 111, 114]⟩ : ByteArray), (⟨#[101, 113]⟩ : ByteArray)] : List ByteArray)) (inner := [.string (⟨#[97, 100, 100]⟩ : ByteArray), .string (⟨#[109, 117, 108]⟩ : ByteArray), .string (⟨#[97, 110, 100]⟩ : ByteArray), .string (⟨#[111, 114]⟩ : ByteArray), .string (⟨#[120, 111, 114]⟩ : ByteArray), .string (⟨#[101, 113]⟩ : ByteArray)]) (ok := fun _ => True) (okp := fun _ => True) ?hr ?hp (fun _ hk => hk) trivial (Below.refl _ _) (zlr _) (by simp) ?_; (case hd => rfl); (case hg => rfl); (case hr => go_simp <;> rfl); (case hp => exact (Reps.one (show Kd.M Kd.string _ _ _ (⟨#[97, 100, 100]⟩ : ByteArray) [.string (⟨#[97, 100, 100]⟩ : ByteArray)] from rfl) (Reps.one (show Kd.M Kd.string _ _ _ (⟨#[109, 117, 108]⟩ : ByteArray) [.string (⟨#[109, 117, 108]⟩ : ByteArray)] from rfl) (Reps.one (show Kd.M Kd.string _ _ _ (⟨#[97, 110, 100]⟩ : ByteArray) [.string (⟨#[97, 110, 100]⟩ : ByteArray)] from rfl) (Reps.one (show Kd.M Kd.string _ _ _ (⟨#[111, 114]⟩ : ByteArray) [.string (⟨#[111, 114]⟩ : ByteArray)] from rfl) (Reps.one (show Kd.M Kd.string _ _ _ (⟨#[120, 111, 114]⟩ : ByteArray) [.string (⟨#[120, 111, 114]⟩ : ByteArray)] from rfl) (Reps.one (show Kd.M Kd.string _ _ _ (⟨#[101, 113]⟩ : ByteArray) [.string (⟨#[101, 113]⟩ : ByteArray)] from rfl) (Reps.none _ _)))))))); intro v102 w3 ho4 hb hg_ hnew_; clear hg_ hnew_; (first | rw [← Ny101.out] at ho4 | (simp only [Int.reduceToNat] at ho4; rw [← Ny101.out] at ho4)); have n0_ := zA (Kd.R_lower ho4 (below_size (by repeat (first | (with_reducible first | exact HB.out | apply zba | apply zbn | apply zbd) | exact HB.out)))); have n1_ := zA (below_step (by repeat (first | (with_reducible first | exact HB.out | apply zba | apply zbn | apply zbd) | exact HB.out)) hb); clear HB; have HO103 := n0_; have HB := n1_; clear n0_ n1_; clear hb ho4; obtain ⟨Ao5, co5, eo5⟩ := Kd.R_slice HO103.out; subst eo5) | ((with_reducible refine gate_callee (f := 126) rfl ?_); refine goesL_ (some 5) rfl rfl Try.func126 (by kernel_rfl) rfl #[.slice Ao5 y101.length co5, .string a0] rfl (by (try simp only [List.map_toArray, List.map_cons, List.map_nil]); first | done | rfl | (simp only [List.length_drop, List.length_take]; rfl)) ?_; (with_reducible refine (spec_l1HasS.calls k _ _ y101 a0 t104 _ ?side1 ?side2 A2.out).mono ?_); (case side1 => repeat (first | exact (zRr HO103.out).2.2 | (with_reducible first | refine zCa ?_ _ | refine zCn ?_ _ | refine zCd ?_))); (case side2 => exact (zRr HO103.out).2.1); rintro e w' ⟨rfl, ⟨nd, rfl⟩⟩; refine ⟨_, rfl, ?_⟩))
 go_ret
 exact ⟨by first | rfl | (simp [errW_none, errW_some] <;> rfl) | (simp [*, errW_none, errW_some] <;> rfl), by repeat (first | (with_reducible first | exact HB.out | apply zba | apply zbn | apply zbd) | exact HB.out)⟩
def vaSt (k : Nat) (out : List S72) (i : Int) : Option (List S72) := (spec_vaTurned.f k (rd_T72 out i).f0).bind fun t => if t = true then (spec_vaCmp.f k out (rd_T72 out i).f2 (rd_T72 out i).f1).bind fun c => some (if c < 0 then out.set i.toNat ⟨(rd_T72 out i).f0, (rd_T72 out i).f2, (rd_T72 out i).f1, (rd_T72 out i).f3⟩ else out) else some out
def vaL (k : Nat) : Nat → Nat → List S72 → Option (List S72)
 | 0, _, out => some out
 | d + 1, u, out => (vaSt k out (u : Int)).bind fun o => vaL k d (u + 1) o
theorem vaSt_len (k : Nat) (out o : List S72) (i : Int) (h : vaSt k out i = some o) : o.length = out.length := by
 unfold vaSt at h
 obtain ⟨t, _, h⟩ := Option.bind_eq_some_iff.1 h
 split at h
 · obtain ⟨c, _, h⟩ := Option.bind_eq_some_iff.1 h
   obtain rfl := zsi h
   split <;> simp
 · obtain rfl := zsi h
   rfl
def spec_vaOrder.f (k : Nat) (l0 : List S72) : Option (List S72) := (spec_exShare.f k l0).bind fun o => if o.length < 1048576 then (vaL k o.length 0 o).bind fun o2 => spec_exShare.f k o2 else none
set_option maxHeartbeats 4000000 in
set_option maxRecDepth 100000 in
theorem spec_vaOrder.calls (k : Nat) (A0 : Option Addr) (c0 : Nat) (l0 : List S72) (r : List S72) (w : World) (hr0 : Kd.C k72 w A0 l0.length l0) (hc0 : l0.length ≤ c0) (h : spec_vaOrder.f k l0 = some r) :
   Calls Try.prog 44 #[.slice A0 l0.length c0] w fun e w' => ∃ v0_ : Value, e = .returned (v0_) ∧ Kd.R k72 72 w' w.heap.size (fun _ => True) v0_ r ∧ Below w.heap.size w w' := by
 unfold spec_vaOrder.f at h
 obtain ⟨o, ho, h⟩ := Option.bind_eq_some_iff.1 h
 by_cases hol : o.length < 1048576
 rotate_left
 · rw [if_neg hol] at h
   cases h
 rw [if_pos hol] at h
 obtain ⟨o2, ho2, h⟩ := Option.bind_eq_some_iff.1 h
 have HO1 := zA ho
 have HO2 := zA ho2
 have HH := zA h
 have HR := zA hr0
 have HC := zA hc0
 clear h ho ho2 hr0 hc0
 go_enter Try.func44, Try.ntmps44
 go_wp2_with (go_at_call 95; refine (spec_exShare.calls k A0 c0 l0 o _ HR.out HC.out HO1.out).mono ?_; rintro e w3 ⟨v3, rfl, hv3, hb3⟩; obtain ⟨A3, c3, rfl⟩ := Kd.R_slice hv3; have HV := zA hv3; have HB := zA hb3; clear hv3 hb3)
 go_loopw [4, 5, 10] (fun v4 v5 v10 wr => ∃ (u : Nat) (out : List S72), v10 = .int .i64 (u : Int) ∧ u ≤ o.length ∧ Aside0 (out.length = o.length) ∧ Aside0 (vaL k (o.length - u) u out = some o2) ∧ Aside0 (Below w.heap.size w wr) ∧ Aside0 (Kd.R k72 72 wr w.heap.size (fun _ => True) (.slice A3 o.length c3) out)) (fun _ _ v10 _ => o.length - (intOf v10).toNat)
 case atStart => exact ⟨0, o, rfl, Nat.zero_le _, ⟨rfl⟩, HO2, HB, HV⟩
 clear HV HB HO2
 obtain ⟨u, out, rfl, hu, HLO, HL, HB, HV⟩ := hrel
 by_cases hlt : u < o.length
 rotate_left
 · obtain rfl : u = o.length := by omega
   have d1 : decide ((o.length : Int) < o.length) = false := zdf (by omega)
   have h := HL.out
   rw [Nat.sub_self] at h
   obtain rfl := zsi h
   clear h HL
   have hv := HV.out
   have hlen := HLO.out
   rw [← hlen] at hv
   have hrd := zRr hv
   have HRD := zA hrd
   clear hv hrd hlen
   go_wp2_with (go_at_call 95; rw [← HLO.out]; refine (spec_exShare.calls k A3 c3 out r _ HRD.out.2.2 HRD.out.2.1 HH.out).mono ?_; rintro e w6 ⟨v6, rfl, hv6, hb6⟩; have HV6 := zA hv6; have HB6 := zA hb6; clear hv6 hb6)
   go_ret
   exact ⟨_, rfl, Kd.R_lower HV6.out HB.out.size, below_step HB.out HB6.out⟩
 have d1 : decide ((u : Int) < o.length) = true := zdt (by omega)
 have d2 : (0 : Int) ≤ (u : Int) := by omega
 have d3 : (u : Int) < o.length := by omega
 obtain ⟨g, cp, e, hgb, hgl, _⟩ := Kd.R_form HV.out (by rw [HLO.out]; omega)
 injection e with e1 e2 e3
 subst e1
 clear e2 e3
 obtain ⟨ad, eA, x0, x1, x2, x3⟩ := at_T72 (zRr HV.out).2.2 (u : Int) d2 (by rw [HLO.out]; omega)
 cases eA
 have h := HL.out
 rw [show o.length - u = (o.length - (u + 1)) + 1 by omega] at h
 simp only [vaL] at h
 obtain ⟨o', ho', h⟩ := Option.bind_eq_some_iff.1 h
 have HL' := zA h
 have hlo := vaSt_len _ _ _ _ ho'
 have HLO' := zA (hlo.trans HLO.out)
 unfold vaSt at ho'
 obtain ⟨t, ht, ho'⟩ := Option.bind_eq_some_iff.1 ho'
 have HT := zA ht
 clear ht h hlo HL
 rw [Int.toNat_natCast] at x0 x1 x2 x3
 simp only [add_plain, Nat.zero_add] at x0 x1 x2 x3
 obtain ⟨n, hn⟩ : ∃ n, n = rd_T72 out (u : Int) := ⟨_, rfl⟩
 rw [← hn] at x0 x1 x2 x3 HT ho'
 have HNN := zA hn
 clear hn
 cases hto : t with
 | false =>
   rw [hto] at ho' HT
   rw [if_neg (by decide)] at ho'
   obtain rfl := zsi ho'
   clear ho' hto
   go_wp2_with (go_at_call 96; (with_reducible refine (spec_vaTurned.calls k n.f0 false _ HT.out).mono ?_); rintro e w5 ⟨rfl, hb5⟩; have HB5 := zA hb5; clear hb5)
   go_roundw
   case rel => exact ⟨u + 1, out, by go_num, by omega, HLO, HL', ⟨below_step (zba HB.out _) HB5.out⟩, ⟨zRb (zRa HV.out _) HB5.out⟩⟩
   case measure => simp [intOf]; omega
 | true =>
   rw [hto] at ho' HT
   rw [if_pos rfl] at ho'
   obtain ⟨c, hc, ho'⟩ := Option.bind_eq_some_iff.1 ho'
   have HO' := zA (zsi ho')
   have HKC := zA (show ∀ V, Kd.R k72 72 V w.heap.size (fun _ => True) (.slice (some ⟨g, 0, none⟩) o.length c3) out → Calls Try.prog 97 #[.slice (some ⟨g, 0, none⟩) o.length c3, .int .i64 n.f2, .int .i64 n.f1] V (fun e w' => e = .returned (.int .i64 c) ∧ Below V.heap.size V w') from fun V hV => by
     have hlen := HLO.out
     rw [← hlen] at hV ⊢
     have hr := zRr hV
     exact spec_vaCmp.calls k (some ⟨g, 0, none⟩) c3 out n.f2 n.f1 c V hr.2.2 hr.2.1 hc)
   have HGN := zA (show g ≠ wr.heap.size by omega)
   have HCC := zA (show ∀ (V : World) (xs : List S72) (y : S72), Kd.R k72 72 V w.heap.size (fun _ => True) (.slice (some ⟨g, 0, none⟩) o.length c3) xs → y = rd_T72 xs (u : Int) → ∀ (j : Nat) (v : Value), ([.string y.f0, .int .i64 y.f1, .int .i64 y.f2, .int .i64 y.f3] : List Value)[j]? = some v → V.cell? ⟨g, (u : Int).toNat * k72.sz + j, none⟩ = some v from fun V xs y hV hy j v hj => by
     have hr := zRr hV
     obtain ⟨ad, cc, ea, _, hK, hc0⟩ := Kd.C_get hr.2.2 z72 (u : Int) d2 (by have := hr.1; omega)
     cases ea
     have := hc0 j v (by rw [k72_open hK]; rw [hy] at hj; exact hj)
     rw [add_plain] at this
     exact this)
   clear ho' hc hto
   by_cases hc0 : c < 0
   rotate_left
   · have d4 : decide (c < 0) = false := zdf hc0
     have hoo := HO'.out
     rw [if_neg hc0] at hoo
     have HOO := zA hoo
     clear hoo hc0
     go_wp2_with (first | (go_at_call 96; (with_reducible refine (spec_vaTurned.calls k n.f0 true _ HT.out).mono ?_); rintro e w5 ⟨rfl, hb5⟩; have hbx := blk_below (blk_new wr (.cells #[.string n.f0, .int .i64 n.f1, .int .i64 n.f2, .int .i64 n.f3] 72)) hb5; have HBX := zA hbx; have z0 := blk_cell hbx 0; have z1 := blk_cell hbx 1; have z2 := blk_cell hbx 2; have z3 := blk_cell hbx 3; have HB5 := zA (below_step (zba HB.out _) hb5); have HV5 := zA (zRb (zRa HV.out _) hb5); clear hb5 hbx) | (go_at_call 97; refine (HKC.out _ HV5.out).mono ?_; rintro e w6 ⟨rfl, hb6⟩; have hbx := blk_below HBX.out hb6; have HBX6 := zA hbx; clear z0 z1 z2 z3; have z0 := blk_cell hbx 0; have z1 := blk_cell hbx 1; have z2 := blk_cell hbx 2; have z3 := blk_cell hbx 3; have HB6 := zA (below_step HB5.out hb6); have HV6 := zA (zRb HV5.out hb6); clear hb6 hbx))
     go_roundw
     case rel => exact ⟨u + 1, o', by go_num, by omega, HLO', HL', HB6, ⟨by rw [← HOO.out]; exact HV6.out⟩⟩
     case measure => simp [intOf]; omega
   have d4 : decide (c < 0) = true := zdt hc0
   have hoo := HO'.out
   rw [if_pos hc0] at hoo
   have HOO := zA hoo
   have HN2 := zA (show (⟨n.f0, n.f2, n.f2, n.f3⟩ : S72) = rd_T72 (out.set ((u : Nat) : Int).toNat (⟨n.f0, n.f2, n.f2, n.f3⟩ : S72)) (u : Int) by
     have := HLO.out
     unfold rd_T72
     rw [List.getD_eq_getElem?_getD, List.getElem?_set_self (by rw [Int.toNat_natCast]; omega)]
     rfl)
   clear hoo hc0
   go_wp2_with (first | (go_at_call 96; (with_reducible refine (spec_vaTurned.calls k n.f0 true _ HT.out).mono ?_); rintro e w5 ⟨rfl, hb5⟩; have hbx := blk_below (blk_new wr (.cells #[.string n.f0, .int .i64 n.f1, .int .i64 n.f2, .int .i64 n.f3] 72)) hb5; have HBX := zA hbx; have z0 := blk_cell hbx 0; have z1 := blk_cell hbx 1; have z2 := blk_cell hbx 2; have z3 := blk_cell hbx 3; have HB5 := zA (below_step (zba HB.out _) hb5); have HV5 := zA (zRb (zRa HV.out _) hb5); clear hb5 hbx) | (go_at_call 97; refine (HKC.out _ HV5.out).mono ?_; rintro e w6 ⟨rfl, hb6⟩; have hbx := blk_below HBX.out hb6; have HBX6 := zA hbx; clear z0 z1 z2 z3; have z0 := blk_cell hbx 0; have z1 := blk_cell hbx 1; have z2 := blk_cell hbx 2; have z3 := blk_cell hbx 3; have HB6 := zA (below_step HB5.out hb6); have HV6 := zA (zRb HV5.out hb6); clear hb6 hbx) | ((with_reducible refine gate_ (.store 3 (.tmp 32) (.tmp 30)) rfl ?_); refine Kd.R_store k72 (w0 := w) w.heap.size rfl rfl 3 (.tmp 32) (.tmp 30) rfl 72 (o' := u * 4 + 1) (u : Int) 1 out (⟨n.f0, n.f2, n.f2, n.f3⟩ : S72) (.int .i64 n.f2) [.int .i64 n.f2] [.string n.f0, .int .i64 n.f1, .int .i64 n.f2, .int .i64 n.f3] (fun _ => True) (fun _ => False) rfl (by rw [Int.toNat_natCast]; rfl) rfl rfl rfl (by simp [Value.oneCell']) HV6.out d2 d3 rfl (HCC.out _ out _ HV6.out (by exact HNN.out)) (show 1 + 1 ≤ 4 by omega) (k72_mkM _ _ _ (⟨n.f0, n.f2, n.f2, n.f3⟩ : S72)) (fun _ h => h.elim) HB6.out ?_; intro w7 hv hb hg; have hbx := (hg.block _ (blk_lt HBX6.out) (fun e => HGN.out (zsi e).symm)).trans HBX6.out; have HBX7 := zA hbx; clear z0 z1 z2 z3; have z0 := blk_cell hbx 0; have z1 := blk_cell hbx 1; have z2 := blk_cell hbx 2; have z3 := blk_cell hbx 3; have HB7 := zA hb; have HV7 := zA hv; clear hb hv hg hbx) | ((with_reducible refine gate_ (.store 3 (.tmp 38) (.tmp 36)) rfl ?_); refine Kd.R_store k72 (w0 := w) w.heap.size rfl rfl 3 (.tmp 38) (.tmp 36) rfl 72 (o' := u * 4 + 2) (u : Int) 2 (out.set ((u : Nat) : Int).toNat (⟨n.f0, n.f2, n.f2, n.f3⟩ : S72)) (⟨n.f0, n.f2, n.f1, n.f3⟩ : S72) (.int .i64 n.f1) [.int .i64 n.f1] [.string n.f0, .int .i64 n.f2, .int .i64 n.f2, .int .i64 n.f3] (fun _ => True) (fun _ => False) rfl (by rw [Int.toNat_natCast]; rfl) rfl rfl rfl (by simp [Value.oneCell']) HV7.out d2 d3 rfl (HCC.out _ (out.set ((u : Nat) : Int).toNat (⟨n.f0, n.f2, n.f2, n.f3⟩ : S72)) _ HV7.out (by exact HN2.out)) (show 2 + 1 ≤ 4 by omega) (k72_mkM _ _ _ (⟨n.f0, n.f2, n.f1, n.f3⟩ : S72)) (fun _ h => h.elim) HB7.out ?_; intro w8 hv hb hg; have hbx := (hg.block _ (blk_lt HBX7.out) (fun e => HGN.out (zsi e).symm)).trans HBX7.out; have HBX8 := zA hbx; clear z0 z1 z2 z3; have z0 := blk_cell hbx 0; have z1 := blk_cell hbx 1; have z2 := blk_cell hbx 2; have z3 := blk_cell hbx 3; have HB8 := zA hb; have HV8 := zA hv; clear hb hv hg hbx))
   go_roundw
   case rel => exact ⟨u + 1, o', by go_num, by omega, HLO', HL', HB8, ⟨by rw [← HOO.out]; have := HV8.out; rw [List.set_set] at this; exact this⟩⟩
   case measure => simp [intOf]; omega
theorem vaSt_mono (k : Nat) (out : List S72) (i : Int) : LeO (vaSt k out i) (vaSt (k + 1) out i) := by
 unfold vaSt
 exact LeO.bind (spec_vaTurned.mono _ _) (fun _ => LeO.ite (LeO.bind (spec_vaCmp.mono _ _ _ _) (fun _ => LeO.refl _)) (LeO.refl _))
theorem vaL_mono (k : Nat) : ∀ (d u : Nat) (out : List S72), LeO (vaL k d u out) (vaL (k + 1) d u out)
 | 0, _, _ => LeO.refl _
 | d + 1, u, out => LeO.bind (vaSt_mono k out u) (fun _ => vaL_mono k d (u + 1) _)
theorem spec_vaOrder.mono : ∀ a0 k, LeO (spec_vaOrder.f k a0) (spec_vaOrder.f (k + 1) a0) := by
 intro a0 k
 unfold spec_vaOrder.f
 exact LeO.bind (spec_exShare.mono _ _) (fun _ => LeO.ite (LeO.bind (vaL_mono _ _ _ _) (fun _ => spec_exShare.mono _ _)) (LeO.refl _))
def spec_OrderedExpr.f (k : Nat) (l0 : List (S72)) : Option ((List (S72)) × Bool) := (spec_exGood.f k l0).bind fun t101 => (if t101 = true then ((spec_vaOrder.f k l0).bind fun t102 => (some (t102, true))) else (some (([] : List (S72)), false)))
theorem spec_OrderedExpr.mono : ∀ a0 k, LeO (spec_OrderedExpr.f k a0) (spec_OrderedExpr.f (k + 1) a0) := by
 intro a0 k
 unfold spec_OrderedExpr.f
 repeat' first
     | (with_reducible first | exact spec_exGood.mono _ _ | exact spec_vaOrder.mono _ _ | exact LeO.refl _ | exact LeO.none _ | refine LeO.ite ?_ ?_ | refine LeO.bind ?_ (fun _ => ?_))
     | exact LeO.none _
     | refine LeO.ite ?_ ?_
     | refine LeO.bind ?_ (fun _ => ?_)
set_option maxHeartbeats 8000000 in
set_option maxRecDepth 100000 in
theorem spec_OrderedExpr.calls (k : Nat) (A0 : Option Addr) (c0 : Nat) (l0 : List (S72)) (r1 : List (S72)) (r2 : Bool) (w : World) (hr0 : Kd.C k72 w A0 l0.length l0) (hc0 : l0.length ≤ c0) (h : spec_OrderedExpr.f k l0 = some (r1, r2)) :
   Calls Try.prog 10 #[.slice A0 l0.length c0] w fun e w' => ∃ v0_ : Value, e = .returned (.tuple #[v0_, .bool r2]) ∧ Kd.R k72 72 w' w.heap.size (fun _ => True) v0_ r1 ∧ Below w.heap.size w w' := by
 have HR0 := zA hr0
 have HC0 := zA hc0
 clear hr0 hc0
 have HB := zA (Below.refl w.heap.size w)
 have H : ((spec_exGood.f k l0).bind fun t101 => (if t101 = true then ((spec_vaOrder.f k l0).bind fun t102 => (some (t102, true))) else (some (([] : List (S72)), false)))) = some (r1, r2) := h
 clear h
 replace H := zob H
 obtain ⟨t101, A20, H⟩ := H
 replace H : (if t101 = true then ((spec_vaOrder.f k l0).bind fun t102 => (some (t102, true))) else (some (([] : List (S72)), false))) = some (r1, r2) := H
 have A2 := zA A20
 clear A20
 by_cases c3 : t101 = true
 rotate_left
 · replace c3 := zbf c3
   subst c3
   replace H : (some (([] : List (S72)), false)) = some (r1, r2) := by rw [if_neg (show ¬ (false = true) by decide)] at H; exact H
   simp only [Option.some.injEq, Prod.mk.injEq] at H
   obtain ⟨rfl, rfl⟩ := H
   go_enter Try.func10, Try.ntmps10
   go_wp2_with (first | ((with_reducible refine gate_callee (f := 43) rfl ?_); refine goesL_ (some 5) rfl rfl Try.func43 (by kernel_rfl) rfl #[.slice A0 l0.length c0] rfl (by (try simp only [List.map_toArray, List.map_cons, List.map_nil]); first | done | rfl | (simp only [List.length_drop, List.length_take]; rfl)) ?_; (with_reducible refine (spec_exGood.calls k _ _ l0 false _ ?side1 ?side2 A2.out).mono ?_); (case side1 => repeat (first | exact HR0.out | (with_reducible first | refine zCa ?_ _ | refine zCn ?_ _ | refine zCd ?_))); (case side2 => exact HC0.out); rintro e w7 ⟨rfl, hb⟩; refine ⟨_, rfl, ?_⟩; have n0_ := zA (below_step (by repeat (first | (with_reducible first | exact HB.out | apply zba | apply zbn | apply zbd) | exact HB.out)) hb); clear HB; have HB := n0_; clear n0_; (try clear hb)))
   go_ret2
   exact ⟨_, by first | rfl | (simp [errW_none, errW_some] <;> rfl) | (simp [*, errW_none, errW_some] <;> rfl), by first | exact Kd.R_nil _ _ _ _ _ | exact Kd.N_nil _ _ _ _ _ | exact Kd.V_nil _ _ _ _ _ | exact Kd.Q_nil _ _ _ _ _ | exact Kd.S_nil _ _ _ _ _, by repeat (first | (with_reducible first | exact HB.out | apply zba | apply zbn | apply zbd) | exact HB.out)⟩
 subst c3
 replace H : ((spec_vaOrder.f k l0).bind fun t102 => (some (t102, true))) = some (r1, r2) := by rw [if_pos rfl] at H; exact H
 replace H := zob H
 obtain ⟨t102, A40, H⟩ := H
 replace H : (some (t102, true)) = some (r1, r2) := H
 have A4 := zA A40
 clear A40
 simp only [Option.some.injEq, Prod.mk.injEq] at H
 obtain ⟨rfl, rfl⟩ := H
 go_enter Try.func10, Try.ntmps10
 go_wp2_with (first | ((with_reducible refine gate_callee (f := 43) rfl ?_); refine goesL_ (some 5) rfl rfl Try.func43 (by kernel_rfl) rfl #[.slice A0 l0.length c0] rfl (by (try simp only [List.map_toArray, List.map_cons, List.map_nil]); first | done | rfl | (simp only [List.length_drop, List.length_take]; rfl)) ?_; (with_reducible refine (spec_exGood.calls k _ _ l0 true _ ?side1 ?side2 A2.out).mono ?_); (case side1 => repeat (first | exact HR0.out | (with_reducible first | refine zCa ?_ _ | refine zCn ?_ _ | refine zCd ?_))); (case side2 => exact HC0.out); rintro e w5 ⟨rfl, hb⟩; refine ⟨_, rfl, ?_⟩; have n0_ := zA (below_step (by repeat (first | (with_reducible first | exact HB.out | apply zba | apply zbn | apply zbd) | exact HB.out)) hb); clear HB; have HB := n0_; clear n0_; (try clear hb)) | ((with_reducible refine gate_callee (f := 44) rfl ?_); refine goesL_ (some 8) rfl rfl Try.func44 (by kernel_rfl) rfl #[.slice A0 l0.length c0] rfl (by (try simp only [List.map_toArray, List.map_cons, List.map_nil]); first | done | rfl | (simp only [List.length_drop, List.length_take]; rfl)) ?_; (with_reducible refine (spec_vaOrder.calls k _ _ l0 t102 _ ?side1 ?side2 A4.out).mono ?_); (case side1 => repeat (first | exact (zCb HR0.out HB.out) | (with_reducible first | refine zCa ?_ _ | refine zCn ?_ _ | refine zCd ?_))); (case side2 => exact HC0.out); rintro e w6 ⟨v103, rfl, ho0, hb⟩; refine ⟨_, rfl, ?_⟩; have n0_ := zA (Kd.R_lower ho0 (below_size (by repeat (first | (with_reducible first | exact HB.out | apply zba | apply zbn | apply zbd) | exact HB.out)))); have n1_ := zA (below_step (by repeat (first | (with_reducible first | exact HB.out | apply zba | apply zbn | apply zbd) | exact HB.out)) hb); clear HB; have HO104 := n0_; have HB := n1_; clear n0_ n1_; (try clear hb); (try clear ho0)))
 go_ret2
 exact ⟨_, by first | rfl | (simp [errW_none, errW_some] <;> rfl) | (simp [*, errW_none, errW_some] <;> rfl), by (with_reducible repeat (first | apply zRa | apply zRn | apply zRd)); exact HO104.out, by repeat (first | (with_reducible first | exact HB.out | apply zba | apply zbn | apply zbd) | exact HB.out)⟩
end Go.Proofs.Ytkfkbmlbpeojaaa.Q
end
section
namespace Go.Proofs.Ytkfkbmlbpeojaaa.Q
open Go.RowKit Go.Proofs.YtkfkbmlbpeojaaaW.PrintWords Go.Proofs.YtkfkbmlbpeojaaaW.PrintLast Go.Proofs.YtkfkbmlbpeojaaaW.PrintMore
attribute [local go_sem] max2_int min2_int max_two min_two max_three min_three max_four min_four
set_option linter.unusedVariables false
set_option linter.unusedSimpArgs false
mutual
def laws_FnExactOrderedExpr.j0 : Nat → List (S69) → List (S72) → Bool → List (S72) → List (S72) → Bool → Bool → Option (Bool)
 | 0, _, _, _, _, _, _, _ => none
 | k + 1, x0, x4, x5, x6, x7, x8, x40 => if x40 = true then (some false) else ((laws_toNodeS.f k x0).bind fun t117 => ((laws_eqNodeS.f k x6 t117).bind fun t120 => (if t120 = true then ((laws_markNodeS.f k x6 1).bind fun bt121 => (if bt121.1 < 0 then (laws_FnExactOrderedExpr.j1 k x0 x4 x5 x7 true) else ((laws_eqNodeS.f k x7 x4).bind fun t123 => (if t123 = true then (laws_FnExactOrderedExpr.j1 k x0 x4 x5 x7 (x8 != x5)) else (laws_FnExactOrderedExpr.j1 k x0 x4 x5 x7 true))))) else (some false))))
def laws_FnExactOrderedExpr.j1 : Nat → List (S69) → List (S72) → Bool → List (S72) → Bool → Option (Bool)
 | 0, _, _, _, _, _ => none
 | k + 1, x0, x4, x5, x7, x61 => if x61 = true then (some false) else ((laws_markNodeS.f k x7 1).bind fun bt124 => ((laws_heldNodeS.f k bt124.2 1).bind fun t126 => (if t126 < 0 then (some false) else (if t126 = bt124.1 then ((laws_toNodeS.f k x0).bind fun t127 => ((impl_OrderedExpr.f k t127).bind fun bt130 => ((laws_eqNodeS.f k bt130.1 x4).bind fun t134 => (if t134 = true then (laws_FnExactOrderedExpr.j2 k bt124.2 bt124.1 (bt130.2 != x5)) else (laws_FnExactOrderedExpr.j2 k bt124.2 bt124.1 true))))) else (some false)))))
def laws_FnExactOrderedExpr.j2 : Nat → List (S72) → Int → Bool → Option (Bool)
 | 0, _, _, _ => none
 | k + 1, x7, x10, x87 => if x87 = true then (some false) else ((laws_heldNodeS.f k x7 1).bind fun t135 => (if t135 < 0 then (some false) else (if t135 = x10 then (some true) else (some false))))
end
def laws_FnExactOrderedExpr.f (k : Nat) (l0 : List (S69)) : Option (Bool) := (laws_szNodeS.f k l0 1048576).bind fun t101 => (if t101 < 0 then (some true) else ((laws_toNodeS.f k l0).bind fun t102 => ((spec_OrderedExpr.f k t102).bind fun bt105 => ((laws_toNodeS.f k l0).bind fun t109 => ((impl_OrderedExpr.f k t109).bind fun bt112 => ((laws_eqNodeS.f k bt112.1 bt105.1).bind fun t116 => (if t116 = true then (laws_FnExactOrderedExpr.j0 k l0 bt105.1 bt105.2 t109 bt112.1 bt112.2 (bt112.2 != bt105.2)) else (laws_FnExactOrderedExpr.j0 k l0 bt105.1 bt105.2 t109 bt112.1 bt112.2 true))))))))
theorem laws_FnExactOrderedExpr.mono_l : ∀ k, (∀ y0 y1 y2 y3 y4 y5 y6, LeO (laws_FnExactOrderedExpr.j0 k y0 y1 y2 y3 y4 y5 y6) (laws_FnExactOrderedExpr.j0 (k + 1) y0 y1 y2 y3 y4 y5 y6)) ∧ (∀ y0 y1 y2 y3 y4, LeO (laws_FnExactOrderedExpr.j1 k y0 y1 y2 y3 y4) (laws_FnExactOrderedExpr.j1 (k + 1) y0 y1 y2 y3 y4)) ∧ (∀ y0 y1 y2, LeO (laws_FnExactOrderedExpr.j2 k y0 y1 y2) (laws_FnExactOrderedExpr.j2 (k + 1) y0 y1 y2))
 | 0 => ⟨fun _ _ _ _ _ _ _ r h => by simp [laws_FnExactOrderedExpr.j0] at h, fun _ _ _ _ _ r h => by simp [laws_FnExactOrderedExpr.j1] at h, fun _ _ _ r h => by simp [laws_FnExactOrderedExpr.j2] at h⟩
 | k + 1 => by
   obtain ⟨ih0, ih1, ih2⟩ := laws_FnExactOrderedExpr.mono_l k
   refine ⟨?_, ?_, ?_⟩
   · intro y0 y1 y2 y3 y4 y5 y6
     unfold laws_FnExactOrderedExpr.j0
     repeat' first
     | (with_reducible first | exact ih0 _ _ _ _ _ _ _ | exact ih1 _ _ _ _ _ | exact ih2 _ _ _ | exact impl_OrderedExpr.mono _ _ | exact laws_eqNodeS.mono _ _ _ | exact laws_heldNodeS.mono _ _ _ | exact laws_markNodeS.mono _ _ _ | exact laws_szNodeS.mono _ _ _ | exact laws_toNodeS.mono _ _ | exact spec_OrderedExpr.mono _ _ | exact LeO.refl _ | exact LeO.none _ | refine LeO.ite ?_ ?_ | refine LeO.bind ?_ (fun _ => ?_))
     | exact LeO.none _
     | refine LeO.ite ?_ ?_
     | refine LeO.bind ?_ (fun _ => ?_)
   · intro y0 y1 y2 y3 y4
     unfold laws_FnExactOrderedExpr.j1
     repeat' first
     | (with_reducible first | exact ih0 _ _ _ _ _ _ _ | exact ih1 _ _ _ _ _ | exact ih2 _ _ _ | exact impl_OrderedExpr.mono _ _ | exact laws_eqNodeS.mono _ _ _ | exact laws_heldNodeS.mono _ _ _ | exact laws_markNodeS.mono _ _ _ | exact laws_szNodeS.mono _ _ _ | exact laws_toNodeS.mono _ _ | exact spec_OrderedExpr.mono _ _ | exact LeO.refl _ | exact LeO.none _ | refine LeO.ite ?_ ?_ | refine LeO.bind ?_ (fun _ => ?_))
     | exact LeO.none _
     | refine LeO.ite ?_ ?_
     | refine LeO.bind ?_ (fun _ => ?_)
   · intro y0 y1 y2
     unfold laws_FnExactOrderedExpr.j2
     repeat' first
     | (with_reducible first | exact ih0 _ _ _ _ _ _ _ | exact ih1 _ _ _ _ _ | exact ih2 _ _ _ | exact impl_OrderedExpr.mono _ _ | exact laws_eqNodeS.mono _ _ _ | exact laws_heldNodeS.mono _ _ _ | exact laws_markNodeS.mono _ _ _ | exact laws_szNodeS.mono _ _ _ | exact laws_toNodeS.mono _ _ | exact spec_OrderedExpr.mono _ _ | exact LeO.refl _ | exact LeO.none _ | refine LeO.ite ?_ ?_ | refine LeO.bind ?_ (fun _ => ?_))
     | exact LeO.none _
     | refine LeO.ite ?_ ?_
     | refine LeO.bind ?_ (fun _ => ?_)
theorem laws_FnExactOrderedExpr.mono : ∀ a0 k, LeO (laws_FnExactOrderedExpr.f k a0) (laws_FnExactOrderedExpr.f (k + 1) a0) := by
 intro a0 k
 obtain ⟨ih0, ih1, ih2⟩ := laws_FnExactOrderedExpr.mono_l k
 unfold laws_FnExactOrderedExpr.f
 repeat' first
     | (with_reducible first | exact ih0 _ _ _ _ _ _ _ | exact ih1 _ _ _ _ _ | exact ih2 _ _ _ | exact impl_OrderedExpr.mono _ _ | exact laws_eqNodeS.mono _ _ _ | exact laws_heldNodeS.mono _ _ _ | exact laws_markNodeS.mono _ _ _ | exact laws_szNodeS.mono _ _ _ | exact laws_toNodeS.mono _ _ | exact spec_OrderedExpr.mono _ _ | exact LeO.refl _ | exact LeO.none _ | refine LeO.ite ?_ ?_ | refine LeO.bind ?_ (fun _ => ?_))
     | exact LeO.none _
     | refine LeO.ite ?_ ?_
     | refine LeO.bind ?_ (fun _ => ?_)
set_option maxHeartbeats 8000000 in
set_option maxRecDepth 100000 in
theorem laws_FnExactOrderedExpr.calls (k : Nat) (A0 : Option Addr) (c0 : Nat) (l0 : List (S69)) (r : Bool) (w : World) (hr0 : Kd.C k69 w A0 l0.length l0) (hc0 : l0.length ≤ c0) (h : laws_FnExactOrderedExpr.f k l0 = some r) :
   Calls Try.prog 3 #[.slice A0 l0.length c0] w fun e w' => e = .returned (.bool r) ∧ Below w.heap.size w w' := by
 have HR0 := zA hr0
 have HC0 := zA hc0
 clear hr0 hc0
 have HB := zA (Below.refl w.heap.size w)
 have H : ((laws_szNodeS.f k l0 1048576).bind fun t101 => (if t101 < 0 then (some true) else ((laws_toNodeS.f k l0).bind fun t102 => ((spec_OrderedExpr.f k t102).bind fun bt105 => ((laws_toNodeS.f k l0).bind fun t109 => ((impl_OrderedExpr.f k t109).bind fun bt112 => ((laws_eqNodeS.f k bt112.1 bt105.1).bind fun t116 => (if t116 = true then (laws_FnExactOrderedExpr.j0 k l0 bt105.1 bt105.2 t109 bt112.1 bt112.2 (bt112.2 != bt105.2)) else (laws_FnExactOrderedExpr.j0 k l0 bt105.1 bt105.2 t109 bt112.1 bt112.2 true))))))))) = some r := h
 clear h
 replace H := zob H
 obtain ⟨t101, A20, H⟩ := H
 replace H : (if t101 < 0 then (some true) else ((laws_toNodeS.f k l0).bind fun t102 => ((spec_OrderedExpr.f k t102).bind fun bt105 => ((laws_toNodeS.f k l0).bind fun t109 => ((impl_OrderedExpr.f k t109).bind fun bt112 => ((laws_eqNodeS.f k bt112.1 bt105.1).bind fun t116 => (if t116 = true then (laws_FnExactOrderedExpr.j0 k l0 bt105.1 bt105.2 t109 bt112.1 bt112.2 (bt112.2 != bt105.2)) else (laws_FnExactOrderedExpr.j0 k l0 bt105.1 bt105.2 t109 bt112.1 bt112.2 true)))))))) = some r := H
 have A2 := zA A20
 clear A20
 by_cases c3 : t101 < 0
 · rw [if_pos c3] at H
   have c3b0 : decide (t101 < 0) = true := zdt c3
   clear c3
   obtain rfl := zsi H
   go_enter Try.func3, Try.ntmps3
   go_wp2_with (first | ((with_reducible refine gate_callee (f := 9) rfl ?_); refine goesL_ (some 16) rfl rfl Try.func9 (by kernel_rfl) rfl #[.slice A0 l0.length c0, .int .i64 1048576] rfl (by (try simp only [List.map_toArray, List.map_cons, List.map_nil]); first | done | rfl | (simp only [List.length_drop, List.length_take]; rfl)) ?_; (with_reducible refine (laws_szNodeS.calls k _ _ l0 1048576 t101 _ ?side1 ?side2 A2.out).mono ?_); (case side1 => repeat (first | exact HR0.out | (with_reducible first | refine zCa ?_ _ | refine zCn ?_ _ | refine zCd ?_))); (case side2 => exact HC0.out); rintro e w4 ⟨rfl, hb⟩; refine ⟨_, rfl, ?_⟩; have n0_ := zA (below_step (by repeat (first | (with_reducible first | exact HB.out | apply zba | apply zbn | apply zbd) | exact HB.out)) hb); clear HB; have HB := n0_; clear n0_; (try clear hb)))
   go_ret
   exact ⟨by first | rfl | (simp [errW_none, errW_some] <;> rfl) | (simp [*, errW_none, errW_some] <;> rfl), by repeat (first | (with_reducible first | exact HB.out | apply zba | apply zbn | apply zbd) | exact HB.out)⟩
 rw [if_neg c3] at H
 have c3b0 : decide (t101 < 0) = false := zdf c3
 clear c3
 replace H := zob H
 obtain ⟨t102, A50, H⟩ := H
 replace H : ((spec_OrderedExpr.f k t102).bind fun bt105 => ((laws_toNodeS.f k l0).bind fun t109 => ((impl_OrderedExpr.f k t109).bind fun bt112 => ((laws_eqNodeS.f k bt112.1 bt105.1).bind fun t116 => (if t116 = true then (laws_FnExactOrderedExpr.j0 k l0 bt105.1 bt105.2 t109 bt112.1 bt112.2 (bt112.2 != bt105.2)) else (laws_FnExactOrderedExpr.j0 k l0 bt105.1 bt105.2 t109 bt112.1 bt112.2 true)))))) = some r := H
 have A5 := zA A50
 clear A50
 replace H := zob H
 obtain ⟨⟨t105, t106⟩, A60, H⟩ := H
 replace H : ((laws_toNodeS.f k l0).bind fun t109 => ((impl_OrderedExpr.f k t109).bind fun bt112 => ((laws_eqNodeS.f k bt112.1 t105).bind fun t116 => (if t116 = true then (laws_FnExactOrderedExpr.j0 k l0 t105 t106 t109 bt112.1 bt112.2 (bt112.2 != t106)) else (laws_FnExactOrderedExpr.j0 k l0 t105 t106 t109 bt112.1 bt112.2 true))))) = some r := H
 have A6 := zA A60
 clear A60
 replace H := zob H
 obtain ⟨t109, A70, H⟩ := H
 replace H : ((impl_OrderedExpr.f k t109).bind fun bt112 => ((laws_eqNodeS.f k bt112.1 t105).bind fun t116 => (if t116 = true then (laws_FnExactOrderedExpr.j0 k l0 t105 t106 t109 bt112.1 bt112.2 (bt112.2 != t106)) else (laws_FnExactOrderedExpr.j0 k l0 t105 t106 t109 bt112.1 bt112.2 true)))) = some r := H
 have A7 := zA A70
 clear A70
 replace H := zob H
 obtain ⟨⟨t112, t113⟩, A80, H⟩ := H
 replace H : ((laws_eqNodeS.f k t112 t105).bind fun t116 => (if t116 = true then (laws_FnExactOrderedExpr.j0 k l0 t105 t106 t109 t112 t113 (t113 != t106)) else (laws_FnExactOrderedExpr.j0 k l0 t105 t106 t109 t112 t113 true))) = some r := H
 have A8 := zA A80
 clear A80
 have HC9 := zA H
 clear H
 go_enter Try.func3, Try.ntmps3
 go_upto_region 8 with (first | ((with_reducible refine gate_callee (f := 9) rfl ?_); refine goesL_ (some 16) rfl rfl Try.func9 (by kernel_rfl) rfl #[.slice A0 l0.length c0, .int .i64 1048576] rfl (by (try simp only [List.map_toArray, List.map_cons, List.map_nil]); first | done | rfl | (simp only [List.length_drop, List.length_take]; rfl)) ?_; (with_reducible refine (laws_szNodeS.calls k _ _ l0 1048576 t101 _ ?side1 ?side2 A2.out).mono ?_); (case side1 => repeat (first | exact HR0.out | (with_reducible first | refine zCa ?_ _ | refine zCn ?_ _ | refine zCd ?_))); (case side2 => exact HC0.out); rintro e w10 ⟨rfl, hb⟩; refine ⟨_, rfl, ?_⟩; have n0_ := zA (below_step (by repeat (first | (with_reducible first | exact HB.out | apply zba | apply zbn | apply zbd) | exact HB.out)) hb); clear HB; have HB := n0_; clear n0_; (try clear hb)) | ((with_reducible refine gate_callee (f := 11) rfl ?_); refine goesL_ (some 21) rfl rfl Try.func11 (by kernel_rfl) rfl #[.slice A0 l0.length c0] rfl (by (try simp only [List.map_toArray, List.map_cons, List.map_nil]); first | done | rfl | (simp only [List.length_drop, List.length_take]; rfl)) ?_; (with_reducible refine (laws_toNodeS.calls k _ _ l0 t102 _ ?side1 ?side2 A5.out).mono ?_); (case side1 => repeat (first | exact (zCb HR0.out HB.out) | (with_reducible first | refine zCa ?_ _ | refine zCn ?_ _ | refine zCd ?_))); (case side2 => exact HC0.out); rintro e w11 ⟨v103, rfl, ho0, hb⟩; refine ⟨_, rfl, ?_⟩; have n0_ := zA (Kd.R_lower ho0 (below_size (by repeat (first | (with_reducible first | exact HB.out | apply zba | apply zbn | apply zbd) | exact HB.out)))); have n1_ := zA (below_step (by repeat (first | (with_reducible first | exact HB.out | apply zba | apply zbn | apply zbd) | exact HB.out)) hb); clear HB; have HO104 := n0_; have HB := n1_; clear n0_ n1_; (try clear hb); (try clear ho0); obtain ⟨Ao12, co12, eo12⟩ := Kd.R_slice HO104.out; subst eo12) | ((with_reducible refine gate_callee (f := 10) rfl ?_); refine goesL_ (some 22) rfl rfl Try.func10 (by kernel_rfl) rfl #[.slice Ao12 t102.length co12] rfl (by (try simp only [List.map_toArray, List.map_cons, List.map_nil]); first | done | rfl | (simp only [List.length_drop, List.length_take]; rfl)) ?_; (with_reducible refine (spec_OrderedExpr.calls k _ _ t102 t105 t106 _ ?side1 ?side2 A6.out).mono ?_); (case side1 => repeat (first | exact (zRr HO104.out).2.2 | (with_reducible first | refine zCa ?_ _ | refine zCn ?_ _ | refine zCd ?_))); (case side2 => exact (zRr HO104.out).2.1); rintro e w13 ⟨v107, rfl, ho0, hb⟩; refine ⟨_, rfl, ?_⟩; have n0_ := zA (Kd.R_elder' (by (with_reducible repeat (first | apply zRa | apply zRn | apply zRd)); exact HO104.out) (Kd.R_base ho0) hb); have n1_ := zA (Kd.R_lower (Kd.R_new' ho0 (Kd.R_lt (by (with_reducible repeat (first | apply zRa | apply zRn | apply zRd)); exact HO104.out))) (below_size (by repeat (first | (with_reducible first | exact HB.out | apply zba | apply zbn | apply zbd) | exact HB.out)))); have n2_ := zA (below_step (by repeat (first | (with_reducible first | exact HB.out | apply zba | apply zbn | apply zbd) | exact HB.out)) hb); clear HO104 HB; have HO104 := n0_; have HO108 := n1_; have HB := n2_; clear n0_ n1_ n2_; (try clear hb); (try clear ho0)) | ((with_reducible refine gate_callee (f := 11) rfl ?_); refine goesL_ (some 26) rfl rfl Try.func11 (by kernel_rfl) rfl #[.slice A0 l0.length c0] rfl (by (try simp only [List.map_toArray, List.map_cons, List.map_nil]); first | done | rfl | (simp only [List.length_drop, List.length_take]; rfl)) ?_; (with_reducible refine (laws_toNodeS.calls k _ _ l0 t109 _ ?side1 ?side2 A7.out).mono ?_); (case side1 => repeat (first | exact (zCb HR0.out HB.out) | (with_reducible first | refine zCa ?_ _ | refine zCn ?_ _ | refine zCd ?_))); (case side2 => exact HC0.out); rintro e w14 ⟨v110, rfl, ho0, hb⟩; refine ⟨_, rfl, ?_⟩; have n0_ := zA (Kd.R_elder' (by (with_reducible repeat (first | apply zRa | apply zRn | apply zRd)); exact HO104.out) (Kd.R_base ho0) hb); have n1_ := zA (Kd.R_elder' (by (with_reducible repeat (first | apply zRa | apply zRn | apply zRd)); exact HO108.out) (Kd.R_base ho0) hb); have n2_ := zA (Kd.R_lower (Kd.R_new' (Kd.R_new' ho0 (Kd.R_lt (by (with_reducible repeat (first | apply zRa | apply zRn | apply zRd)); exact HO104.out))) (Kd.R_lt (by (with_reducible repeat (first | apply zRa | apply zRn | apply zRd)); exact HO108.out))) (below_size (by repeat (first | (with_reducible first | exact HB.out | apply zba | apply zbn | apply zbd) | exact HB.out)))); have n3_ := zA (below_step (by repeat (first | (with_reducible first | exact HB.out | apply zba | apply zbn | apply zbd) | exact HB.out)) hb); clear HO104 HO108 HB; have HO104 := n0_; have HO108 := n1_; have HO111 := n2_; have HB := n3_; clear n0_ n1_ n2_ n3_; (try clear hb); (try clear ho0); obtain ⟨Ao15, co15, eo15⟩ := Kd.R_slice HO111.out; subst eo15) | ((with_reducible refine gate_callee (f := 12) rfl ?_); refine goesL_ (some 29) rfl rfl Try.func12 (by kernel_rfl) rfl #[.slice Ao15 t109.length co15] rfl (by (try simp only [List.map_toArray, List.map_cons, List.map_nil]); first | done | rfl | (simp only [List.length_drop, List.length_take]; rfl)) ?_; (with_reducible refine (impl_OrderedExpr.calls k _ _ t109 t112 t113 _ ?side1 ?side2 A8.out).mono ?_); (case side1 => repeat (first | exact (zRr HO111.out).2.2 | (with_reducible first | refine zCa ?_ _ | refine zCn ?_ _ | refine zCd ?_))); (case side2 => exact (zRr HO111.out).2.1); rintro e w16 ⟨v114, rfl, ho0, hb⟩; refine ⟨_, rfl, ?_⟩; have n0_ := zA (Kd.R_elder' (by (with_reducible repeat (first | apply zRa | apply zRn | apply zRd)); exact HO104.out) (Kd.R_base ho0) hb); have n1_ := zA (Kd.R_elder' (by (with_reducible repeat (first | apply zRa | apply zRn | apply zRd)); exact HO108.out) (Kd.R_base ho0) hb); have n2_ := zA (Kd.R_elder' (by (with_reducible repeat (first | apply zRa | apply zRn | apply zRd)); exact HO111.out) (Kd.R_base ho0) hb); have n3_ := zA (Kd.R_lower (Kd.R_new' (Kd.R_new' (Kd.R_new' ho0 (Kd.R_lt (by (with_reducible repeat (first | apply zRa | apply zRn | apply zRd)); exact HO104.out))) (Kd.R_lt (by (with_reducible repeat (first | apply zRa | apply zRn | apply zRd)); exact HO108.out))) (Kd.R_lt (by (with_reducible repeat (first | apply zRa | apply zRn | apply zRd)); exact HO111.out))) (below_size (by repeat (first | (with_reducible first | exact HB.out | apply zba | apply zbn | apply zbd) | exact HB.out)))); have n4_ := zA (below_step (by repeat (first | (with_reducible first | exact HB.out | apply zba | apply zbn | apply zbd) | exact HB.out)) hb); clear HO104 HO108; clear HO111 HB; have HO104 := n0_; have HO108 := n1_; have HO111 := n2_; have HO115 := n3_; have HB := n4_; clear n0_ n1_ n2_ n3_ n4_; (try clear hb); (try clear ho0)))
 (try simp only [Act.put, List.setIfInBounds_toArray, List.set_cons_zero, List.set_cons_succ])
 go_cut [40] (fun v40 wc => ∃ (kq : Nat) (x40_8 : Bool), v40 = .bool x40_8 ∧ Aside0 (laws_FnExactOrderedExpr.j0 kq l0 t105 t106 t109 t112 t113 x40_8 = some r) ∧ Aside0 (kq ≤ k) ∧ Aside0 (Kd.R k72 72 wc w.heap.size (fun k_ => some k_ ≠ ((.slice Ao15 t109.length co15) : Value).ownBlock ∧ some k_ ≠ (v114 : Value).ownBlock) v107 t105) ∧ Aside0 (Kd.R k72 72 wc w.heap.size (fun k_ => some k_ ≠ (v107 : Value).ownBlock ∧ some k_ ≠ (v114 : Value).ownBlock) (.slice Ao15 t109.length co15) t109) ∧ Aside0 (Kd.R k72 72 wc w.heap.size (fun k_ => some k_ ≠ (v107 : Value).ownBlock ∧ some k_ ≠ ((.slice Ao15 t109.length co15) : Value).ownBlock) v114 t112) ∧ Aside0 (Below w.heap.size w wc))
 case first =>
   have H := HC9.out
   clear HC9
   replace H := zob H
   obtain ⟨t116, A170, H⟩ := H
   replace H : (if t116 = true then (laws_FnExactOrderedExpr.j0 k l0 t105 t106 t109 t112 t113 (t113 != t106)) else (laws_FnExactOrderedExpr.j0 k l0 t105 t106 t109 t112 t113 true)) = some r := H
   have A17 := zA A170
   clear A170
   by_cases c18 : t116 = true
   · subst c18
     replace H : (laws_FnExactOrderedExpr.j0 k l0 t105 t106 t109 t112 t113 (t113 != t106)) = some r := by rw [if_pos rfl] at H; exact H
     have H' := zA H
     clear H
     obtain ⟨Ao19, co19, eo19⟩ := Kd.R_slice HO115.out
     subst eo19
     obtain ⟨Ao20, co20, eo20⟩ := Kd.R_slice HO108.out
     subst eo20
     go_wp2_with (first | ((with_reducible refine gate_callee (f := 13) rfl ?_); refine goesL_ (some 34) rfl rfl Try.func13 (by kernel_rfl) rfl #[.slice Ao19 t112.length co19, .slice Ao20 t105.length co20] rfl (by (try simp only [List.map_toArray, List.map_cons, List.map_nil]); first | done | rfl | (simp only [List.length_drop, List.length_take]; rfl)) ?_; (with_reducible refine (laws_eqNodeS.calls k _ _ t112 _ _ t105 true _ ?side1 ?side2 ?side3 ?side4 A17.out).mono ?_); (case side1 => repeat (first | exact (zRr HO115.out).2.2 | (with_reducible first | refine zCa ?_ _ | refine zCn ?_ _ | refine zCd ?_))); (case side2 => exact (zRr HO115.out).2.1); (case side3 => repeat (first | exact (zRr HO108.out).2.2 | (with_reducible first | refine zCa ?_ _ | refine zCn ?_ _ | refine zCd ?_))); (case side4 => exact (zRr HO108.out).2.1); rintro e w21 ⟨rfl, hb⟩; refine ⟨_, rfl, ?_⟩; have n0_ := zA (zRb (by (with_reducible repeat (first | apply zRa | apply zRn | apply zRd)); exact HO104.out) hb); have n1_ := zA (zRb (by (with_reducible repeat (first | apply zRa | apply zRn | apply zRd)); exact HO108.out) hb); have n2_ := zA (zRb (by (with_reducible repeat (first | apply zRa | apply zRn | apply zRd)); exact HO111.out) hb); have n3_ := zA (zRb (by (with_reducible repeat (first | apply zRa | apply zRn | apply zRd)); exact HO115.out) hb); have n4_ := zA (below_step (by repeat (first | (with_reducible first | exact HB.out | apply zba | apply zbn | apply zbd) | exact HB.out)) hb); clear HO104 HO108; clear HO111 HO115 HB; have HO104 := n0_; have HO108 := n1_; have HO111 := n2_; have HO115 := n3_; have HB := n4_; clear n0_ n1_ n2_ n3_ n4_; (try clear hb)))
     go_meet
     case rel => exact ⟨_, ((t113 != t106)), (by first | rfl | (simp; done) | (simp [*]; done)), H', ⟨by first | omega | exact zlr _⟩, ⟨by (with_reducible repeat (first | apply zRa | apply zRn | apply zRd)); exact Kd.R_mono HO108.out (fun _ hk => ⟨hk.1.2, hk.2⟩)⟩, ⟨by (with_reducible repeat (first | apply zRa | apply zRn | apply zRd)); exact Kd.R_mono HO111.out (fun _ hk => ⟨hk.1.2, hk.2⟩)⟩, ⟨by (with_reducible repeat (first | apply zRa | apply zRn | apply zRd)); exact Kd.R_mono HO115.out (fun _ hk => ⟨hk.1.2, hk.2⟩)⟩, ⟨by repeat (first | (with_reducible first | exact HB.out | apply zba | apply zbn | apply zbd) | exact HB.out)⟩⟩
   replace c18 := zbf c18
   subst c18
   replace H : (laws_FnExactOrderedExpr.j0 k l0 t105 t106 t109 t112 t113 true) = some r := by rw [if_neg (show ¬ (false = true) by decide)] at H; exact H
   have H' := zA H
   clear H
   obtain ⟨Ao22, co22, eo22⟩ := Kd.R_slice HO115.out
   subst eo22
   obtain ⟨Ao23, co23, eo23⟩ := Kd.R_slice HO108.out
   subst eo23
   go_wp2_with (first | ((with_reducible refine gate_callee (f := 13) rfl ?_); refine goesL_ (some 34) rfl rfl Try.func13 (by kernel_rfl) rfl #[.slice Ao22 t112.length co22, .slice Ao23 t105.length co23] rfl (by (try simp only [List.map_toArray, List.map_cons, List.map_nil]); first | done | rfl | (simp only [List.length_drop, List.length_take]; rfl)) ?_; (with_reducible refine (laws_eqNodeS.calls k _ _ t112 _ _ t105 false _ ?side1 ?side2 ?side3 ?side4 A17.out).mono ?_); (case side1 => repeat (first | exact (zRr HO115.out).2.2 | (with_reducible first | refine zCa ?_ _ | refine zCn ?_ _ | refine zCd ?_))); (case side2 => exact (zRr HO115.out).2.1); (case side3 => repeat (first | exact (zRr HO108.out).2.2 | (with_reducible first | refine zCa ?_ _ | refine zCn ?_ _ | refine zCd ?_))); (case side4 => exact (zRr HO108.out).2.1); rintro e w24 ⟨rfl, hb⟩; refine ⟨_, rfl, ?_⟩; have n0_ := zA (zRb (by (with_reducible repeat (first | apply zRa | apply zRn | apply zRd)); exact HO104.out) hb); have n1_ := zA (zRb (by (with_reducible repeat (first | apply zRa | apply zRn | apply zRd)); exact HO108.out) hb); have n2_ := zA (zRb (by (with_reducible repeat (first | apply zRa | apply zRn | apply zRd)); exact HO111.out) hb); have n3_ := zA (zRb (by (with_reducible repeat (first | apply zRa | apply zRn | apply zRd)); exact HO115.out) hb); have n4_ := zA (below_step (by repeat (first | (with_reducible first | exact HB.out | apply zba | apply zbn | apply zbd) | exact HB.out)) hb); clear HO104 HO108; clear HO111 HO115 HB; have HO104 := n0_; have HO108 := n1_; have HO111 := n2_; have HO115 := n3_; have HB := n4_; clear n0_ n1_ n2_ n3_ n4_; (try clear hb)))
   go_meet
   case rel => exact ⟨_, (true), (by first | rfl | (simp; done) | (simp [*]; done)), H', ⟨by first | omega | exact zlr _⟩, ⟨by (with_reducible repeat (first | apply zRa | apply zRn | apply zRd)); exact Kd.R_mono HO108.out (fun _ hk => ⟨hk.1.2, hk.2⟩)⟩, ⟨by (with_reducible repeat (first | apply zRa | apply zRn | apply zRd)); exact Kd.R_mono HO111.out (fun _ hk => ⟨hk.1.2, hk.2⟩)⟩, ⟨by (with_reducible repeat (first | apply zRa | apply zRn | apply zRd)); exact Kd.R_mono HO115.out (fun _ hk => ⟨hk.1.2, hk.2⟩)⟩, ⟨by repeat (first | (with_reducible first | exact HB.out | apply zba | apply zbn | apply zbd) | exact HB.out)⟩⟩
 clear HC9
 try clear c1
 try clear p2
 try clear c3
 try clear c3b0
 try clear c9
 try clear c10
 try clear c11
 try clear c12
 try clear c13
 try clear c18
 obtain ⟨kq, x40_8, rfl, HA, HJ8, HO_4, HO_6, HO_7, HB⟩ := hcut
 cases kq with
 | zero => exact absurd HA.out (by simp [laws_FnExactOrderedExpr.j0])
 | succ kj8 =>
 have H := HA.out
 clear HA
 simp only [laws_FnExactOrderedExpr.j0] at H
 by_cases c25 : x40_8 = true
 · subst c25
   replace H : (some false) = some r := by rw [if_pos rfl] at H; exact H
   obtain rfl := zsi H
   go_wp2
   go_ret
   exact ⟨by first | rfl | (simp [errW_none, errW_some] <;> rfl) | (simp [*, errW_none, errW_some] <;> rfl), by repeat (first | (with_reducible first | exact HB.out | apply zba | apply zbn | apply zbd) | exact HB.out)⟩
 replace c25 := zbf c25
 subst c25
 replace H : ((laws_toNodeS.f kj8 l0).bind fun t117 => ((laws_eqNodeS.f kj8 t109 t117).bind fun t120 => (if t120 = true then ((laws_markNodeS.f kj8 t109 1).bind fun bt121 => (if bt121.1 < 0 then (laws_FnExactOrderedExpr.j1 kj8 l0 t105 t106 t112 true) else ((laws_eqNodeS.f kj8 t112 t105).bind fun t123 => (if t123 = true then (laws_FnExactOrderedExpr.j1 kj8 l0 t105 t106 t112 (t113 != t106)) else (laws_FnExactOrderedExpr.j1 kj8 l0 t105 t106 t112 true))))) else (some false)))) = some r := by rw [if_neg (show ¬ (false = true) by decide)] at H; exact H
 replace H := zob H
 obtain ⟨t117, A260, H⟩ := H
 replace H : ((laws_eqNodeS.f kj8 t109 t117).bind fun t120 => (if t120 = true then ((laws_markNodeS.f kj8 t109 1).bind fun bt121 => (if bt121.1 < 0 then (laws_FnExactOrderedExpr.j1 kj8 l0 t105 t106 t112 true) else ((laws_eqNodeS.f kj8 t112 t105).bind fun t123 => (if t123 = true then (laws_FnExactOrderedExpr.j1 kj8 l0 t105 t106 t112 (t113 != t106)) else (laws_FnExactOrderedExpr.j1 kj8 l0 t105 t106 t112 true))))) else (some false))) = some r := H
 have A26 := zA A260
 clear A260
 replace H := zob H
 obtain ⟨t120, A270, H⟩ := H
 replace H : (if t120 = true then ((laws_markNodeS.f kj8 t109 1).bind fun bt121 => (if bt121.1 < 0 then (laws_FnExactOrderedExpr.j1 kj8 l0 t105 t106 t112 true) else ((laws_eqNodeS.f kj8 t112 t105).bind fun t123 => (if t123 = true then (laws_FnExactOrderedExpr.j1 kj8 l0 t105 t106 t112 (t113 != t106)) else (laws_FnExactOrderedExpr.j1 kj8 l0 t105 t106 t112 true))))) else (some false)) = some r := H
 have A27 := zA A270
 clear A270
 by_cases c28 : t120 = true
 rotate_left
 · replace c28 := zbf c28
   subst c28
   replace H : (some false) = some r := by rw [if_neg (show ¬ (false = true) by decide)] at H; exact H
   obtain rfl := zsi H
   go_wp2_with (first | ((with_reducible refine gate_callee (f := 11) rfl ?_); refine goesL_ (some 43) rfl rfl Try.func11 (by kernel_rfl) rfl #[.slice A0 l0.length c0] rfl (by (try simp only [List.map_toArray, List.map_cons, List.map_nil]); first | done | rfl | (simp only [List.length_drop, List.length_take]; rfl)) ?_; (with_reducible refine (laws_toNodeS.calls kj8 _ _ l0 t117 _ ?side1 ?side2 A26.out).mono ?_); (case side1 => repeat (first | exact (zCb HR0.out HB.out) | (with_reducible first | refine zCa ?_ _ | refine zCn ?_ _ | refine zCd ?_))); (case side2 => exact HC0.out); rintro e w79 ⟨v118, rfl, ho0, hb⟩; refine ⟨_, rfl, ?_⟩; have n0_ := zA (Kd.R_elder' (by (with_reducible repeat (first | apply zRa | apply zRn | apply zRd)); exact HO_4.out) (Kd.R_base ho0) hb); have n1_ := zA (Kd.R_elder' (by (with_reducible repeat (first | apply zRa | apply zRn | apply zRd)); exact HO_6.out) (Kd.R_base ho0) hb); have n2_ := zA (Kd.R_elder' (by (with_reducible repeat (first | apply zRa | apply zRn | apply zRd)); exact HO_7.out) (Kd.R_base ho0) hb); have n3_ := zA (Kd.R_lower (Kd.R_new' (Kd.R_new' (Kd.R_new' ho0 (Kd.R_lt (by (with_reducible repeat (first | apply zRa | apply zRn | apply zRd)); exact HO_4.out))) (Kd.R_lt (by (with_reducible repeat (first | apply zRa | apply zRn | apply zRd)); exact HO_6.out))) (Kd.R_lt (by (with_reducible repeat (first | apply zRa | apply zRn | apply zRd)); exact HO_7.out))) (below_size (by repeat (first | (with_reducible first | exact HB.out | apply zba | apply zbn | apply zbd) | exact HB.out)))); have n4_ := zA (below_step (by repeat (first | (with_reducible first | exact HB.out | apply zba | apply zbn | apply zbd) | exact HB.out)) hb); clear HO_4 HO_6; clear HO_7 HB; have HO_4 := n0_; have HO_6 := n1_; have HO_7 := n2_; have HO119 := n3_; have HB := n4_; clear n0_ n1_ n2_ n3_ n4_; (try clear hb); (try clear ho0); obtain ⟨Ao80, co80, eo80⟩ := Kd.R_slice HO119.out; subst eo80) | ((with_reducible refine gate_callee (f := 13) rfl ?_); refine goesL_ (some 44) rfl rfl Try.func13 (by kernel_rfl) rfl #[.slice Ao15 t109.length co15, .slice Ao80 t117.length co80] rfl (by (try simp only [List.map_toArray, List.map_cons, List.map_nil]); first | done | rfl | (simp only [List.length_drop, List.length_take]; rfl)) ?_; (with_reducible refine (laws_eqNodeS.calls kj8 _ _ t109 _ _ t117 false _ ?side1 ?side2 ?side3 ?side4 A27.out).mono ?_); (case side1 => repeat (first | exact (zRr HO_6.out).2.2 | (with_reducible first | refine zCa ?_ _ | refine zCn ?_ _ | refine zCd ?_))); (case side2 => exact (zRr HO_6.out).2.1); (case side3 => repeat (first | exact (zRr HO119.out).2.2 | (with_reducible first | refine zCa ?_ _ | refine zCn ?_ _ | refine zCd ?_))); (case side4 => exact (zRr HO119.out).2.1); rintro e w81 ⟨rfl, hb⟩; refine ⟨_, rfl, ?_⟩; have n0_ := zA (zRb (by (with_reducible repeat (first | apply zRa | apply zRn | apply zRd)); exact HO_4.out) hb); have n1_ := zA (zRb (by (with_reducible repeat (first | apply zRa | apply zRn | apply zRd)); exact HO_6.out) hb); have n2_ := zA (zRb (by (with_reducible repeat (first | apply zRa | apply zRn | apply zRd)); exact HO_7.out) hb); have n3_ := zA (zRb (by (with_reducible repeat (first | apply zRa | apply zRn | apply zRd)); exact HO119.out) hb); have n4_ := zA (below_step (by repeat (first | (with_reducible first | exact HB.out | apply zba | apply zbn | apply zbd) | exact HB.out)) hb); clear HO_4 HO_6; clear HO_7 HO119 HB; have HO_4 := n0_; have HO_6 := n1_; have HO_7 := n2_; have HO119 := n3_; have HB := n4_; clear n0_ n1_ n2_ n3_ n4_; (try clear hb)))
   go_ret
   exact ⟨by first | rfl | (simp [errW_none, errW_some] <;> rfl) | (simp [*, errW_none, errW_some] <;> rfl), by repeat (first | (with_reducible first | exact HB.out | apply zba | apply zbn | apply zbd) | exact HB.out)⟩
 subst c28
 replace H : ((laws_markNodeS.f kj8 t109 1).bind fun bt121 => (if bt121.1 < 0 then (laws_FnExactOrderedExpr.j1 kj8 l0 t105 t106 t112 true) else ((laws_eqNodeS.f kj8 t112 t105).bind fun t123 => (if t123 = true then (laws_FnExactOrderedExpr.j1 kj8 l0 t105 t106 t112 (t113 != t106)) else (laws_FnExactOrderedExpr.j1 kj8 l0 t105 t106 t112 true))))) = some r := by rw [if_pos rfl] at H; exact H
 replace H := zob H
 obtain ⟨⟨t121, t122⟩, A290, H⟩ := H
 replace H : (if t121 < 0 then (laws_FnExactOrderedExpr.j1 kj8 l0 t105 t106 t112 true) else ((laws_eqNodeS.f kj8 t112 t105).bind fun t123 => (if t123 = true then (laws_FnExactOrderedExpr.j1 kj8 l0 t105 t106 t112 (t113 != t106)) else (laws_FnExactOrderedExpr.j1 kj8 l0 t105 t106 t112 true)))) = some r := H
 have A29 := zA A290
 clear A290
 have HC30 := zA H
 clear H
 go_upto_region 14 with (first | ((with_reducible refine gate_callee (f := 11) rfl ?_); refine goesL_ (some 43) rfl rfl Try.func11 (by kernel_rfl) rfl #[.slice A0 l0.length c0] rfl (by (try simp only [List.map_toArray, List.map_cons, List.map_nil]); first | done | rfl | (simp only [List.length_drop, List.length_take]; rfl)) ?_; (with_reducible refine (laws_toNodeS.calls kj8 _ _ l0 t117 _ ?side1 ?side2 A26.out).mono ?_); (case side1 => repeat (first | exact (zCb HR0.out HB.out) | (with_reducible first | refine zCa ?_ _ | refine zCn ?_ _ | refine zCd ?_))); (case side2 => exact HC0.out); rintro e w31 ⟨v118, rfl, ho0, hb⟩; refine ⟨_, rfl, ?_⟩; have n0_ := zA (Kd.R_elder' (by (with_reducible repeat (first | apply zRa | apply zRn | apply zRd)); exact HO_4.out) (Kd.R_base ho0) hb); have n1_ := zA (Kd.R_elder' (by (with_reducible repeat (first | apply zRa | apply zRn | apply zRd)); exact HO_6.out) (Kd.R_base ho0) hb); have n2_ := zA (Kd.R_elder' (by (with_reducible repeat (first | apply zRa | apply zRn | apply zRd)); exact HO_7.out) (Kd.R_base ho0) hb); have n3_ := zA (Kd.R_lower (Kd.R_new' (Kd.R_new' (Kd.R_new' ho0 (Kd.R_lt (by (with_reducible repeat (first | apply zRa | apply zRn | apply zRd)); exact HO_4.out))) (Kd.R_lt (by (with_reducible repeat (first | apply zRa | apply zRn | apply zRd)); exact HO_6.out))) (Kd.R_lt (by (with_reducible repeat (first | apply zRa | apply zRn | apply zRd)); exact HO_7.out))) (below_size (by repeat (first | (with_reducible first | exact HB.out | apply zba | apply zbn | apply zbd) | exact HB.out)))); have n4_ := zA (below_step (by repeat (first | (with_reducible first | exact HB.out | apply zba | apply zbn | apply zbd) | exact HB.out)) hb); clear HO_4 HO_6; clear HO_7 HB; have HO_4 := n0_; have HO_6 := n1_; have HO_7 := n2_; have HO119 := n3_; have HB := n4_; clear n0_ n1_ n2_ n3_ n4_; (try clear hb); (try clear ho0); obtain ⟨Ao32, co32, eo32⟩ := Kd.R_slice HO119.out; subst eo32) | ((with_reducible refine gate_callee (f := 13) rfl ?_); refine goesL_ (some 44) rfl rfl Try.func13 (by kernel_rfl) rfl #[.slice Ao15 t109.length co15, .slice Ao32 t117.length co32] rfl (by (try simp only [List.map_toArray, List.map_cons, List.map_nil]); first | done | rfl | (simp only [List.length_drop, List.length_take]; rfl)) ?_; (with_reducible refine (laws_eqNodeS.calls kj8 _ _ t109 _ _ t117 true _ ?side1 ?side2 ?side3 ?side4 A27.out).mono ?_); (case side1 => repeat (first | exact (zRr HO_6.out).2.2 | (with_reducible first | refine zCa ?_ _ | refine zCn ?_ _ | refine zCd ?_))); (case side2 => exact (zRr HO_6.out).2.1); (case side3 => repeat (first | exact (zRr HO119.out).2.2 | (with_reducible first | refine zCa ?_ _ | refine zCn ?_ _ | refine zCd ?_))); (case side4 => exact (zRr HO119.out).2.1); rintro e w33 ⟨rfl, hb⟩; refine ⟨_, rfl, ?_⟩; have n0_ := zA (zRb (by (with_reducible repeat (first | apply zRa | apply zRn | apply zRd)); exact HO_4.out) hb); have n1_ := zA (zRb (by (with_reducible repeat (first | apply zRa | apply zRn | apply zRd)); exact HO_6.out) hb); have n2_ := zA (zRb (by (with_reducible repeat (first | apply zRa | apply zRn | apply zRd)); exact HO_7.out) hb); have n3_ := zA (zRb (by (with_reducible repeat (first | apply zRa | apply zRn | apply zRd)); exact HO119.out) hb); have n4_ := zA (below_step (by repeat (first | (with_reducible first | exact HB.out | apply zba | apply zbn | apply zbd) | exact HB.out)) hb); clear HO_4 HO_6; clear HO_7 HO119 HB; have HO_4 := n0_; have HO_6 := n1_; have HO_7 := n2_; have HO119 := n3_; have HB := n4_; clear n0_ n1_ n2_ n3_ n4_; (try clear hb)) | ((with_reducible refine gate_callee (f := 14) rfl ?_); refine goesL_ (some 48) rfl rfl Try.func14 (by kernel_rfl) rfl #[.slice Ao15 t109.length co15, .int .i64 1] rfl (by (try simp only [List.map_toArray, List.map_cons, List.map_nil]); first | done | rfl | (simp only [List.length_drop, List.length_take]; rfl)) ?_; (with_reducible refine (laws_markNodeS.calls kj8 (fun k_ => some k_ = (.slice Ao15 t109.length co15 : Value).ownBlock) (.slice Ao15 t109.length co15) t109 1 t121 t122 w _ ?side1 ?side2 A29.out).mono ?_); (case side1 => repeat (first | (with_reducible first | exact HB.out | apply zba | apply zbn | apply zbd) | exact HB.out)); (case side2 => exact Kd.R_tight rfl HO_6.out); rintro e w34 ⟨rfl, hy0, hb, hkp⟩; refine ⟨_, rfl, ?_⟩; have n0_ := zA (Kd.R_mono (ok' := fun k_ => some k_ ≠ (.slice Ao15 t109.length co15 : Value).ownBlock ∧ some k_ ≠ (v114 : Value).ownBlock ∧ some k_ ≠ (.slice Ao32 t117.length co32 : Value).ownBlock) (Kd.R_keptB (HO_4.out) hkp (fun k_ hk_ hs_ => (hk_.1.1) hs_)) (fun k_ hk_ => ⟨hk_.1.1.1, hk_.1.1.2, hk_.1.2⟩)); have n1_ := zA (Kd.R_reok rfl hy0 (fun k_ e_ => HO_6.out.1 k_ e_)); have n2_ := zA (Kd.R_mono (ok' := fun k_ => some k_ ≠ (v107 : Value).ownBlock ∧ some k_ ≠ (.slice Ao15 t109.length co15 : Value).ownBlock ∧ some k_ ≠ (.slice Ao32 t117.length co32 : Value).ownBlock) (Kd.R_keptB (HO_7.out) hkp (fun k_ hk_ hs_ => (hk_.1.2) hs_)) (fun k_ hk_ => ⟨hk_.1.1.1, hk_.1.1.2, hk_.1.2⟩)); have n3_ := zA (Kd.R_mono (ok' := fun k_ => some k_ ≠ (v107 : Value).ownBlock ∧ some k_ ≠ (.slice Ao15 t109.length co15 : Value).ownBlock ∧ some k_ ≠ (v114 : Value).ownBlock) (Kd.R_keptB (HO119.out) hkp (fun k_ hk_ hs_ => (hk_.1.2) hs_)) (fun k_ hk_ => ⟨hk_.1.1.1.2, hk_.1.1.2, hk_.1.2⟩)); have n4_ := zA (hb); clear HO_4 HO_6; clear HO_7 HO119 HB; have HO_4 := n0_; have HO_6 := n1_; have HO_7 := n2_; have HO119 := n3_; have HB := n4_; clear n0_ n1_ n2_ n3_ n4_; (try clear hb); (try clear hkp); (try clear hy0)))
 (try simp only [Act.put, List.setIfInBounds_toArray, List.set_cons_zero, List.set_cons_succ])
 go_cut [61] (fun v61 wc => ∃ (kq : Nat) (x61_29 : Bool), v61 = .bool x61_29 ∧ Aside0 (laws_FnExactOrderedExpr.j1 kq l0 t105 t106 t112 x61_29 = some r) ∧ Aside0 (kq ≤ kj8) ∧ Aside0 (Kd.R k72 72 wc w.heap.size (fun k_ => some k_ ≠ (v114 : Value).ownBlock) v107 t105) ∧ Aside0 (Kd.R k72 72 wc w.heap.size (fun k_ => some k_ ≠ (v107 : Value).ownBlock) v114 t112) ∧ Aside0 (Below w.heap.size w wc))
 case first =>
   have H := HC30.out
   clear HC30
   by_cases c35 : t121 < 0
   · rw [if_pos c35] at H
     have c35b0 : decide (t121 < 0) = true := zdt c35
     clear c35
     (first | rw [c35b0] | (simp only [i64_w, i32_w]; rw [c35b0]) | skip)
     have H' := zA H
     clear H
     go_wp2
     go_meet
     case rel => exact ⟨_, (true), (by first | rfl | (simp; done) | (simp [*]; done)), H', ⟨by have := HJ8.out; first | omega | exact zlr _⟩, ⟨by (with_reducible repeat (first | apply zRa | apply zRn | apply zRd)); exact Kd.R_mono HO_4.out (fun _ hk => hk.2.1)⟩, ⟨by (with_reducible repeat (first | apply zRa | apply zRn | apply zRd)); exact Kd.R_mono HO_7.out (fun _ hk => hk.1)⟩, ⟨by repeat (first | (with_reducible first | exact HB.out | apply zba | apply zbn | apply zbd) | exact HB.out)⟩⟩
   rw [if_neg c35] at H
   have c35b0 : decide (t121 < 0) = false := zdf c35
   clear c35
   (first | rw [c35b0] | (simp only [i64_w, i32_w]; rw [c35b0]) | skip)
   replace H := zob H
   obtain ⟨t123, A360, H⟩ := H
   replace H : (if t123 = true then (laws_FnExactOrderedExpr.j1 kj8 l0 t105 t106 t112 (t113 != t106)) else (laws_FnExactOrderedExpr.j1 kj8 l0 t105 t106 t112 true)) = some r := H
   have A36 := zA A360
   clear A360
   by_cases c37 : t123 = true
   · subst c37
     replace H : (laws_FnExactOrderedExpr.j1 kj8 l0 t105 t106 t112 (t113 != t106)) = some r := by rw [if_pos rfl] at H; exact H
     have H' := zA H
     clear H
     obtain ⟨Ao38, co38, eo38⟩ := Kd.R_slice HO_7.out
     subst eo38
     obtain ⟨Ao39, co39, eo39⟩ := Kd.R_slice HO_4.out
     subst eo39
     go_wp2_with (first | (go_at_call 13; (with_reducible refine (laws_eqNodeS.calls kj8 _ _ t112 _ _ t105 true _ ?side1 ?side2 ?side3 ?side4 A36.out).mono ?_); (case side1 => repeat (first | exact (zRr HO_7.out).2.2 | (with_reducible first | refine zCa ?_ _ | refine zCn ?_ _ | refine zCd ?_))); (case side2 => exact (zRr HO_7.out).2.1); (case side3 => repeat (first | exact (zRr HO_4.out).2.2 | (with_reducible first | refine zCa ?_ _ | refine zCn ?_ _ | refine zCd ?_))); (case side4 => exact (zRr HO_4.out).2.1); rintro e w40 ⟨rfl, hb⟩; have n0_ := zA (zRb (by (with_reducible repeat (first | apply zRa | apply zRn | apply zRd)); exact HO_4.out) hb); have n1_ := zA (zRb (by (with_reducible repeat (first | apply zRa | apply zRn | apply zRd)); exact HO_6.out) hb); have n2_ := zA (zRb (by (with_reducible repeat (first | apply zRa | apply zRn | apply zRd)); exact HO_7.out) hb); have n3_ := zA (zRb (by (with_reducible repeat (first | apply zRa | apply zRn | apply zRd)); exact HO119.out) hb); have n4_ := zA (below_step (by repeat (first | (with_reducible first | exact HB.out | apply zba | apply zbn | apply zbd) | exact HB.out)) hb); clear HO_4 HO_6; clear HO_7 HO119 HB; have HO_4 := n0_; have HO_6 := n1_; have HO_7 := n2_; have HO119 := n3_; have HB := n4_; clear n0_ n1_ n2_ n3_ n4_; (try clear hb)))
     go_meet
     case rel => exact ⟨_, ((t113 != t106)), (by first | rfl | (simp; done) | (simp [*]; done)), H', ⟨by have := HJ8.out; first | omega | exact zlr _⟩, ⟨by (with_reducible repeat (first | apply zRa | apply zRn | apply zRd)); exact Kd.R_mono HO_4.out (fun _ hk => hk.2.1)⟩, ⟨by (with_reducible repeat (first | apply zRa | apply zRn | apply zRd)); exact Kd.R_mono HO_7.out (fun _ hk => hk.1)⟩, ⟨by repeat (first | (with_reducible first | exact HB.out | apply zba | apply zbn | apply zbd) | exact HB.out)⟩⟩
   replace c37 := zbf c37
   subst c37
   replace H : (laws_FnExactOrderedExpr.j1 kj8 l0 t105 t106 t112 true) = some r := by rw [if_neg (show ¬ (false = true) by decide)] at H; exact H
   have H' := zA H
   clear H
   obtain ⟨Ao41, co41, eo41⟩ := Kd.R_slice HO_7.out
   subst eo41
   obtain ⟨Ao42, co42, eo42⟩ := Kd.R_slice HO_4.out
   subst eo42
   go_wp2_with (first | (go_at_call 13; (with_reducible refine (laws_eqNodeS.calls kj8 _ _ t112 _ _ t105 false _ ?side1 ?side2 ?side3 ?side4 A36.out).mono ?_); (case side1 => repeat (first | exact (zRr HO_7.out).2.2 | (with_reducible first | refine zCa ?_ _ | refine zCn ?_ _ | refine zCd ?_))); (case side2 => exact (zRr HO_7.out).2.1); (case side3 => repeat (first | exact (zRr HO_4.out).2.2 | (with_reducible first | refine zCa ?_ _ | refine zCn ?_ _ | refine zCd ?_))); (case side4 => exact (zRr HO_4.out).2.1); rintro e w43 ⟨rfl, hb⟩; have n0_ := zA (zRb (by (with_reducible repeat (first | apply zRa | apply zRn | apply zRd)); exact HO_4.out) hb); have n1_ := zA (zRb (by (with_reducible repeat (first | apply zRa | apply zRn | apply zRd)); exact HO_6.out) hb); have n2_ := zA (zRb (by (with_reducible repeat (first | apply zRa | apply zRn | apply zRd)); exact HO_7.out) hb); have n3_ := zA (zRb (by (with_reducible repeat (first | apply zRa | apply zRn | apply zRd)); exact HO119.out) hb); have n4_ := zA (below_step (by repeat (first | (with_reducible first | exact HB.out | apply zba | apply zbn | apply zbd) | exact HB.out)) hb); clear HO_4 HO_6; clear HO_7 HO119 HB; have HO_4 := n0_; have HO_6 := n1_; have HO_7 := n2_; have HO119 := n3_; have HB := n4_; clear n0_ n1_ n2_ n3_ n4_; (try clear hb)))
   go_meet
   case rel => exact ⟨_, (true), (by first | rfl | (simp; done) | (simp [*]; done)), H', ⟨by have := HJ8.out; first | omega | exact zlr _⟩, ⟨by (with_reducible repeat (first | apply zRa | apply zRn | apply zRd)); exact Kd.R_mono HO_4.out (fun _ hk => hk.2.1)⟩, ⟨by (with_reducible repeat (first | apply zRa | apply zRn | apply zRd)); exact Kd.R_mono HO_7.out (fun _ hk => hk.1)⟩, ⟨by repeat (first | (with_reducible first | exact HB.out | apply zba | apply zbn | apply zbd) | exact HB.out)⟩⟩
 clear HC30
 try clear c1
 try clear c2
 try clear p2
 try clear c3
 try clear c3b0
 try clear c9
 try clear c10
 try clear c11
 try clear c12
 try clear c13
 try clear c14
 try clear c18
 try clear c25
 try clear c28
 try clear c35
 try clear c35b0
 try clear c37
 try clear p2
 obtain ⟨kq, x61_29, rfl, HA, HJ29, HO_4, HO_7, HB⟩ := hcut
 cases kq with
 | zero => exact absurd HA.out (by simp [laws_FnExactOrderedExpr.j1])
 | succ kj29 =>
 have H := HA.out
 clear HA
 simp only [laws_FnExactOrderedExpr.j1] at H
 by_cases c44 : x61_29 = true
 · subst c44
   replace H : (some false) = some r := by rw [if_pos rfl] at H; exact H
   obtain rfl := zsi H
   go_wp2
   go_ret
   exact ⟨by first | rfl | (simp [errW_none, errW_some] <;> rfl) | (simp [*, errW_none, errW_some] <;> rfl), by repeat (first | (with_reducible first | exact HB.out | apply zba | apply zbn | apply zbd) | exact HB.out)⟩
 replace c44 := zbf c44
 subst c44
 replace H : ((laws_markNodeS.f kj29 t112 1).bind fun bt124 => ((laws_heldNodeS.f kj29 bt124.2 1).bind fun t126 => (if t126 < 0 then (some false) else (if t126 = bt124.1 then ((laws_toNodeS.f kj29 l0).bind fun t127 => ((impl_OrderedExpr.f kj29 t127).bind fun bt130 => ((laws_eqNodeS.f kj29 bt130.1 t105).bind fun t134 => (if t134 = true then (laws_FnExactOrderedExpr.j2 kj29 bt124.2 bt124.1 (bt130.2 != t106)) else (laws_FnExactOrderedExpr.j2 kj29 bt124.2 bt124.1 true))))) else (some false))))) = some r := by rw [if_neg (show ¬ (false = true) by decide)] at H; exact H
 replace H := zob H
 obtain ⟨⟨t124, t125⟩, A450, H⟩ := H
 replace H : ((laws_heldNodeS.f kj29 t125 1).bind fun t126 => (if t126 < 0 then (some false) else (if t126 = t124 then ((laws_toNodeS.f kj29 l0).bind fun t127 => ((impl_OrderedExpr.f kj29 t127).bind fun bt130 => ((laws_eqNodeS.f kj29 bt130.1 t105).bind fun t134 => (if t134 = true then (laws_FnExactOrderedExpr.j2 kj29 t125 t124 (bt130.2 != t106)) else (laws_FnExactOrderedExpr.j2 kj29 t125 t124 true))))) else (some false)))) = some r := H
 have A45 := zA A450
 clear A450
 replace H := zob H
 obtain ⟨t126, A460, H⟩ := H
 replace H : (if t126 < 0 then (some false) else (if t126 = t124 then ((laws_toNodeS.f kj29 l0).bind fun t127 => ((impl_OrderedExpr.f kj29 t127).bind fun bt130 => ((laws_eqNodeS.f kj29 bt130.1 t105).bind fun t134 => (if t134 = true then (laws_FnExactOrderedExpr.j2 kj29 t125 t124 (bt130.2 != t106)) else (laws_FnExactOrderedExpr.j2 kj29 t125 t124 true))))) else (some false))) = some r := H
 have A46 := zA A460
 clear A460
 by_cases c47 : t126 < 0
 · rw [if_pos c47] at H
   have c47b0 : decide (t126 < 0) = true := zdt c47
   clear c47
   obtain rfl := zsi H
   obtain ⟨Ao48, co48, eo48⟩ := Kd.R_slice HO_7.out
   subst eo48
   go_wp2_with (first | ((with_reducible refine gate_callee (f := 14) rfl ?_); refine goesL_ (some 64) rfl rfl Try.func14 (by kernel_rfl) rfl #[.slice Ao48 t112.length co48, .int .i64 1] rfl (by (try simp only [List.map_toArray, List.map_cons, List.map_nil]); first | done | rfl | (simp only [List.length_drop, List.length_take]; rfl)) ?_; (with_reducible refine (laws_markNodeS.calls kj29 (fun k_ => some k_ = (.slice Ao48 t112.length co48 : Value).ownBlock) (.slice Ao48 t112.length co48) t112 1 t124 t125 w _ ?side1 ?side2 A45.out).mono ?_); (case side1 => repeat (first | (with_reducible first | exact HB.out | apply zba | apply zbn | apply zbd) | exact HB.out)); (case side2 => exact Kd.R_tight rfl HO_7.out); rintro e w49 ⟨rfl, hy0, hb, hkp⟩; refine ⟨_, rfl, ?_⟩; have n0_ := zA (Kd.R_mono (ok' := fun k_ => some k_ ≠ (.slice Ao48 t112.length co48 : Value).ownBlock) (Kd.R_keptB (HO_4.out) hkp (fun k_ hk_ hs_ => (hk_) hs_)) (fun k_ hk_ => hk_.1)); have n1_ := zA (Kd.R_reok rfl hy0 (fun k_ e_ => HO_7.out.1 k_ e_)); have n2_ := zA (hb); clear HO_4 HO_7 HB; have HO_4 := n0_; have HO_7 := n1_; have HB := n2_; clear n0_ n1_ n2_; (try clear hb); (try clear hkp); (try clear hy0)) | ((with_reducible refine gate_callee (f := 15) rfl ?_); refine goesL_ (some 67) rfl rfl Try.func15 (by kernel_rfl) rfl #[.slice Ao48 t125.length co48, .int .i64 1] rfl (by (try simp only [List.map_toArray, List.map_cons, List.map_nil]); first | done | (rw [show t125.length = t112.length from (zRr HO_7.out).1.symm] <;> rfl) | rfl | (simp only [List.length_drop, List.length_take]; rfl)) ?_; (with_reducible refine (laws_heldNodeS.calls kj29 _ _ t125 1 t126 _ ?side1 ?side2 A46.out).mono ?_); (case side1 => repeat (first | exact (zRr HO_7.out).2.2 | (with_reducible first | refine zCa ?_ _ | refine zCn ?_ _ | refine zCd ?_))); (case side2 => rw [show t125.length = t112.length from (zRr HO_7.out).1.symm]; exact (zRr HO_7.out).2.1); rintro e w50 ⟨rfl, hb⟩; refine ⟨_, rfl, ?_⟩; have n0_ := zA (zRb (by (with_reducible repeat (first | apply zRa | apply zRn | apply zRd)); exact HO_4.out) hb); have n1_ := zA (zRb (by (with_reducible repeat (first | apply zRa | apply zRn | apply zRd)); exact HO_7.out) hb); have n2_ := zA (below_step (by repeat (first | (with_reducible first | exact HB.out | apply zba | apply zbn | apply zbd) | exact HB.out)) hb); clear HO_4 HO_7 HB; have HO_4 := n0_; have HO_7 := n1_; have HB := n2_; clear n0_ n1_ n2_; (try clear hb)))
   go_ret
   exact ⟨by first | rfl | (simp [errW_none, errW_some] <;> rfl) | (simp [*, errW_none, errW_some] <;> rfl), by repeat (first | (with_reducible first | exact HB.out | apply zba | apply zbn | apply zbd) | exact HB.out)⟩
 rw [if_neg c47] at H
 have c47b0 : decide (t126 < 0) = false := zdf c47
 clear c47
 by_cases c51 : t126 = t124
 rotate_left
 · rw [if_neg c51] at H
   have c51b0 : (t126 == t124) = false := beq_eq_false_iff_ne.mpr c51
   have c51b1 : (t126 != t124) = true := bne_iff_ne.mpr c51
   obtain rfl := zsi H
   obtain ⟨Ao76, co76, eo76⟩ := Kd.R_slice HO_7.out
   subst eo76
   go_wp2_with (first | ((with_reducible refine gate_callee (f := 14) rfl ?_); refine goesL_ (some 64) rfl rfl Try.func14 (by kernel_rfl) rfl #[.slice Ao76 t112.length co76, .int .i64 1] rfl (by (try simp only [List.map_toArray, List.map_cons, List.map_nil]); first | done | rfl | (simp only [List.length_drop, List.length_take]; rfl)) ?_; (with_reducible refine (laws_markNodeS.calls kj29 (fun k_ => some k_ = (.slice Ao76 t112.length co76 : Value).ownBlock) (.slice Ao76 t112.length co76) t112 1 t124 t125 w _ ?side1 ?side2 A45.out).mono ?_); (case side1 => repeat (first | (with_reducible first | exact HB.out | apply zba | apply zbn | apply zbd) | exact HB.out)); (case side2 => exact Kd.R_tight rfl HO_7.out); rintro e w77 ⟨rfl, hy0, hb, hkp⟩; refine ⟨_, rfl, ?_⟩; have n0_ := zA (Kd.R_mono (ok' := fun k_ => some k_ ≠ (.slice Ao76 t112.length co76 : Value).ownBlock) (Kd.R_keptB (HO_4.out) hkp (fun k_ hk_ hs_ => (hk_) hs_)) (fun k_ hk_ => hk_.1)); have n1_ := zA (Kd.R_reok rfl hy0 (fun k_ e_ => HO_7.out.1 k_ e_)); have n2_ := zA (hb); clear HO_4 HO_7 HB; have HO_4 := n0_; have HO_7 := n1_; have HB := n2_; clear n0_ n1_ n2_; (try clear hb); (try clear hkp); (try clear hy0)) | ((with_reducible refine gate_callee (f := 15) rfl ?_); refine goesL_ (some 67) rfl rfl Try.func15 (by kernel_rfl) rfl #[.slice Ao76 t125.length co76, .int .i64 1] rfl (by (try simp only [List.map_toArray, List.map_cons, List.map_nil]); first | done | (rw [show t125.length = t112.length from (zRr HO_7.out).1.symm] <;> rfl) | rfl | (simp only [List.length_drop, List.length_take]; rfl)) ?_; (with_reducible refine (laws_heldNodeS.calls kj29 _ _ t125 1 t126 _ ?side1 ?side2 A46.out).mono ?_); (case side1 => repeat (first | exact (zRr HO_7.out).2.2 | (with_reducible first | refine zCa ?_ _ | refine zCn ?_ _ | refine zCd ?_))); (case side2 => rw [show t125.length = t112.length from (zRr HO_7.out).1.symm]; exact (zRr HO_7.out).2.1); rintro e w78 ⟨rfl, hb⟩; refine ⟨_, rfl, ?_⟩; have n0_ := zA (zRb (by (with_reducible repeat (first | apply zRa | apply zRn | apply zRd)); exact HO_4.out) hb); have n1_ := zA (zRb (by (with_reducible repeat (first | apply zRa | apply zRn | apply zRd)); exact HO_7.out) hb); have n2_ := zA (below_step (by repeat (first | (with_reducible first | exact HB.out | apply zba | apply zbn | apply zbd) | exact HB.out)) hb); clear HO_4 HO_7 HB; have HO_4 := n0_; have HO_7 := n1_; have HB := n2_; clear n0_ n1_ n2_; (try clear hb)))
   go_ret
   exact ⟨by first | rfl | (simp [errW_none, errW_some] <;> rfl) | (simp [*, errW_none, errW_some] <;> rfl), by repeat (first | (with_reducible first | exact HB.out | apply zba | apply zbn | apply zbd) | exact HB.out)⟩
 rw [if_pos c51] at H
 have c51b0 : (t126 == t124) = true := beq_iff_eq.mpr c51
 have c51b1 : (t126 != t124) = false := bne_eq_false_iff_eq.mpr c51
 clear c51
 replace H := zob H
 obtain ⟨t127, A520, H⟩ := H
 replace H : ((impl_OrderedExpr.f kj29 t127).bind fun bt130 => ((laws_eqNodeS.f kj29 bt130.1 t105).bind fun t134 => (if t134 = true then (laws_FnExactOrderedExpr.j2 kj29 t125 t124 (bt130.2 != t106)) else (laws_FnExactOrderedExpr.j2 kj29 t125 t124 true)))) = some r := H
 have A52 := zA A520
 clear A520
 replace H := zob H
 obtain ⟨⟨t130, t131⟩, A530, H⟩ := H
 replace H : ((laws_eqNodeS.f kj29 t130 t105).bind fun t134 => (if t134 = true then (laws_FnExactOrderedExpr.j2 kj29 t125 t124 (t131 != t106)) else (laws_FnExactOrderedExpr.j2 kj29 t125 t124 true))) = some r := H
 have A53 := zA A530
 clear A530
 have HC54 := zA H
 clear H
 obtain ⟨Ao55, co55, eo55⟩ := Kd.R_slice HO_7.out
 subst eo55
 go_upto_region 25 with (first | ((with_reducible refine gate_callee (f := 14) rfl ?_); refine goesL_ (some 64) rfl rfl Try.func14 (by kernel_rfl) rfl #[.slice Ao55 t112.length co55, .int .i64 1] rfl (by (try simp only [List.map_toArray, List.map_cons, List.map_nil]); first | done | rfl | (simp only [List.length_drop, List.length_take]; rfl)) ?_; (with_reducible refine (laws_markNodeS.calls kj29 (fun k_ => some k_ = (.slice Ao55 t112.length co55 : Value).ownBlock) (.slice Ao55 t112.length co55) t112 1 t124 t125 w _ ?side1 ?side2 A45.out).mono ?_); (case side1 => repeat (first | (with_reducible first | exact HB.out | apply zba | apply zbn | apply zbd) | exact HB.out)); (case side2 => exact Kd.R_tight rfl HO_7.out); rintro e w56 ⟨rfl, hy0, hb, hkp⟩; refine ⟨_, rfl, ?_⟩; have n0_ := zA (Kd.R_mono (ok' := fun k_ => some k_ ≠ (.slice Ao55 t112.length co55 : Value).ownBlock) (Kd.R_keptB (HO_4.out) hkp (fun k_ hk_ hs_ => (hk_) hs_)) (fun k_ hk_ => hk_.1)); have n1_ := zA (Kd.R_reok rfl hy0 (fun k_ e_ => HO_7.out.1 k_ e_)); have n2_ := zA (hb); clear HO_4 HO_7 HB; have HO_4 := n0_; have HO_7 := n1_; have HB := n2_; clear n0_ n1_ n2_; (try clear hb); (try clear hkp); (try clear hy0)) | ((with_reducible refine gate_callee (f := 15) rfl ?_); refine goesL_ (some 67) rfl rfl Try.func15 (by kernel_rfl) rfl #[.slice Ao55 t125.length co55, .int .i64 1] rfl (by (try simp only [List.map_toArray, List.map_cons, List.map_nil]); first | done | (rw [show t125.length = t112.length from (zRr HO_7.out).1.symm] <;> rfl) | rfl | (simp only [List.length_drop, List.length_take]; rfl)) ?_; (with_reducible refine (laws_heldNodeS.calls kj29 _ _ t125 1 t126 _ ?side1 ?side2 A46.out).mono ?_); (case side1 => repeat (first | exact (zRr HO_7.out).2.2 | (with_reducible first | refine zCa ?_ _ | refine zCn ?_ _ | refine zCd ?_))); (case side2 => rw [show t125.length = t112.length from (zRr HO_7.out).1.symm]; exact (zRr HO_7.out).2.1); rintro e w57 ⟨rfl, hb⟩; refine ⟨_, rfl, ?_⟩; have n0_ := zA (zRb (by (with_reducible repeat (first | apply zRa | apply zRn | apply zRd)); exact HO_4.out) hb); have n1_ := zA (zRb (by (with_reducible repeat (first | apply zRa | apply zRn | apply zRd)); exact HO_7.out) hb); have n2_ := zA (below_step (by repeat (first | (with_reducible first | exact HB.out | apply zba | apply zbn | apply zbd) | exact HB.out)) hb); clear HO_4 HO_7 HB; have HO_4 := n0_; have HO_7 := n1_; have HB := n2_; clear n0_ n1_ n2_; (try clear hb)) | ((with_reducible refine gate_callee (f := 11) rfl ?_); refine goesL_ (some 75) rfl rfl Try.func11 (by kernel_rfl) rfl #[.slice A0 l0.length c0] rfl (by (try simp only [List.map_toArray, List.map_cons, List.map_nil]); first | done | rfl | (simp only [List.length_drop, List.length_take]; rfl)) ?_; (with_reducible refine (laws_toNodeS.calls kj29 _ _ l0 t127 _ ?side1 ?side2 A52.out).mono ?_); (case side1 => repeat (first | exact (zCb HR0.out HB.out) | (with_reducible first | refine zCa ?_ _ | refine zCn ?_ _ | refine zCd ?_))); (case side2 => exact HC0.out); rintro e w58 ⟨v128, rfl, ho0, hb⟩; refine ⟨_, rfl, ?_⟩; have n0_ := zA (Kd.R_elder' (by (with_reducible repeat (first | apply zRa | apply zRn | apply zRd)); exact HO_4.out) (Kd.R_base ho0) hb); have n1_ := zA (Kd.R_elder' (by (with_reducible repeat (first | apply zRa | apply zRn | apply zRd)); exact HO_7.out) (Kd.R_base ho0) hb); have n2_ := zA (Kd.R_lower (Kd.R_new' (Kd.R_new' ho0 (Kd.R_lt (by (with_reducible repeat (first | apply zRa | apply zRn | apply zRd)); exact HO_4.out))) (Kd.R_lt (by (with_reducible repeat (first | apply zRa | apply zRn | apply zRd)); exact HO_7.out))) (below_size (by repeat (first | (with_reducible first | exact HB.out | apply zba | apply zbn | apply zbd) | exact HB.out)))); have n3_ := zA (below_step (by repeat (first | (with_reducible first | exact HB.out | apply zba | apply zbn | apply zbd) | exact HB.out)) hb); clear HO_4 HO_7 HB; have HO_4 := n0_; have HO_7 := n1_; have HO129 := n2_; have HB := n3_; clear n0_ n1_ n2_ n3_; (try clear hb); (try clear ho0); obtain ⟨Ao59, co59, eo59⟩ := Kd.R_slice HO129.out; subst eo59) | ((with_reducible refine gate_callee (f := 12) rfl ?_); refine goesL_ (some 76) rfl rfl Try.func12 (by kernel_rfl) rfl #[.slice Ao59 t127.length co59] rfl (by (try simp only [List.map_toArray, List.map_cons, List.map_nil]); first | done | rfl | (simp only [List.length_drop, List.length_take]; rfl)) ?_; (with_reducible refine (impl_OrderedExpr.calls kj29 _ _ t127 t130 t131 _ ?side1 ?side2 A53.out).mono ?_); (case side1 => repeat (first | exact (zRr HO129.out).2.2 | (with_reducible first | refine zCa ?_ _ | refine zCn ?_ _ | refine zCd ?_))); (case side2 => exact (zRr HO129.out).2.1); rintro e w60 ⟨v132, rfl, ho0, hb⟩; refine ⟨_, rfl, ?_⟩; have n0_ := zA (Kd.R_elder' (by (with_reducible repeat (first | apply zRa | apply zRn | apply zRd)); exact HO_4.out) (Kd.R_base ho0) hb); have n1_ := zA (Kd.R_elder' (by (with_reducible repeat (first | apply zRa | apply zRn | apply zRd)); exact HO_7.out) (Kd.R_base ho0) hb); have n2_ := zA (Kd.R_elder' (by (with_reducible repeat (first | apply zRa | apply zRn | apply zRd)); exact HO129.out) (Kd.R_base ho0) hb); have n3_ := zA (Kd.R_lower (Kd.R_new' (Kd.R_new' (Kd.R_new' ho0 (Kd.R_lt (by (with_reducible repeat (first | apply zRa | apply zRn | apply zRd)); exact HO_4.out))) (Kd.R_lt (by (with_reducible repeat (first | apply zRa | apply zRn | apply zRd)); exact HO_7.out))) (Kd.R_lt (by (with_reducible repeat (first | apply zRa | apply zRn | apply zRd)); exact HO129.out))) (below_size (by repeat (first | (with_reducible first | exact HB.out | apply zba | apply zbn | apply zbd) | exact HB.out)))); have n4_ := zA (below_step (by repeat (first | (with_reducible first | exact HB.out | apply zba | apply zbn | apply zbd) | exact HB.out)) hb); clear HO_4 HO_7; clear HO129 HB; have HO_4 := n0_; have HO_7 := n1_; have HO129 := n2_; have HO133 := n3_; have HB := n4_; clear n0_ n1_ n2_ n3_ n4_; (try clear hb); (try clear ho0)))
 (try simp only [Act.put, List.setIfInBounds_toArray, List.set_cons_zero, List.set_cons_succ])
 go_cut [87] (fun v87 wc => ∃ (kq : Nat) (x87_53 : Bool), v87 = .bool x87_53 ∧ Aside0 (laws_FnExactOrderedExpr.j2 kq t125 t124 x87_53 = some r) ∧ Aside0 (kq ≤ kj29) ∧ Aside0 (Kd.R k72 72 wc w.heap.size (fun _ => True) (.slice Ao55 t112.length co55) t125) ∧ Aside0 (Below w.heap.size w wc))
 case first =>
   have H := HC54.out
   clear HC54
   replace H := zob H
   obtain ⟨t134, A610, H⟩ := H
   replace H : (if t134 = true then (laws_FnExactOrderedExpr.j2 kj29 t125 t124 (t131 != t106)) else (laws_FnExactOrderedExpr.j2 kj29 t125 t124 true)) = some r := H
   have A61 := zA A610
   clear A610
   by_cases c62 : t134 = true
   · subst c62
     replace H : (laws_FnExactOrderedExpr.j2 kj29 t125 t124 (t131 != t106)) = some r := by rw [if_pos rfl] at H; exact H
     have H' := zA H
     clear H
     obtain ⟨Ao63, co63, eo63⟩ := Kd.R_slice HO133.out
     subst eo63
     obtain ⟨Ao64, co64, eo64⟩ := Kd.R_slice HO_4.out
     subst eo64
     go_wp2_with (first | ((with_reducible refine gate_callee (f := 13) rfl ?_); refine goesL_ (some 81) rfl rfl Try.func13 (by kernel_rfl) rfl #[.slice Ao63 t130.length co63, .slice Ao64 t105.length co64] rfl (by (try simp only [List.map_toArray, List.map_cons, List.map_nil]); first | done | rfl | (simp only [List.length_drop, List.length_take]; rfl)) ?_; (with_reducible refine (laws_eqNodeS.calls kj29 _ _ t130 _ _ t105 true _ ?side1 ?side2 ?side3 ?side4 A61.out).mono ?_); (case side1 => repeat (first | exact (zRr HO133.out).2.2 | (with_reducible first | refine zCa ?_ _ | refine zCn ?_ _ | refine zCd ?_))); (case side2 => exact (zRr HO133.out).2.1); (case side3 => repeat (first | exact (zRr HO_4.out).2.2 | (with_reducible first | refine zCa ?_ _ | refine zCn ?_ _ | refine zCd ?_))); (case side4 => exact (zRr HO_4.out).2.1); rintro e w65 ⟨rfl, hb⟩; refine ⟨_, rfl, ?_⟩; have n0_ := zA (zRb (by (with_reducible repeat (first | apply zRa | apply zRn | apply zRd)); exact HO_4.out) hb); have n1_ := zA (zRb (by (with_reducible repeat (first | apply zRa | apply zRn | apply zRd)); exact HO_7.out) hb); have n2_ := zA (zRb (by (with_reducible repeat (first | apply zRa | apply zRn | apply zRd)); exact HO129.out) hb); have n3_ := zA (zRb (by (with_reducible repeat (first | apply zRa | apply zRn | apply zRd)); exact HO133.out) hb); have n4_ := zA (below_step (by repeat (first | (with_reducible first | exact HB.out | apply zba | apply zbn | apply zbd) | exact HB.out)) hb); clear HO_4 HO_7; clear HO129 HO133 HB; have HO_4 := n0_; have HO_7 := n1_; have HO129 := n2_; have HO133 := n3_; have HB := n4_; clear n0_ n1_ n2_ n3_ n4_; (try clear hb)))
     go_meet
     case rel => exact ⟨_, ((t131 != t106)), (by first | rfl | (simp; done) | (simp [*]; done)), H', ⟨by have := HJ8.out; have := HJ29.out; first | omega | exact zlr _⟩, ⟨by (with_reducible repeat (first | apply zRa | apply zRn | apply zRd)); exact Kd.R_mono HO_7.out (fun _ hk => trivial)⟩, ⟨by repeat (first | (with_reducible first | exact HB.out | apply zba | apply zbn | apply zbd) | exact HB.out)⟩⟩
   replace c62 := zbf c62
   subst c62
   replace H : (laws_FnExactOrderedExpr.j2 kj29 t125 t124 true) = some r := by rw [if_neg (show ¬ (false = true) by decide)] at H; exact H
   have H' := zA H
   clear H
   obtain ⟨Ao66, co66, eo66⟩ := Kd.R_slice HO133.out
   subst eo66
   obtain ⟨Ao67, co67, eo67⟩ := Kd.R_slice HO_4.out
   subst eo67
   go_wp2_with (first | ((with_reducible refine gate_callee (f := 13) rfl ?_); refine goesL_ (some 81) rfl rfl Try.func13 (by kernel_rfl) rfl #[.slice Ao66 t130.length co66, .slice Ao67 t105.length co67] rfl (by (try simp only [List.map_toArray, List.map_cons, List.map_nil]); first | done | rfl | (simp only [List.length_drop, List.length_take]; rfl)) ?_; (with_reducible refine (laws_eqNodeS.calls kj29 _ _ t130 _ _ t105 false _ ?side1 ?side2 ?side3 ?side4 A61.out).mono ?_); (case side1 => repeat (first | exact (zRr HO133.out).2.2 | (with_reducible first | refine zCa ?_ _ | refine zCn ?_ _ | refine zCd ?_))); (case side2 => exact (zRr HO133.out).2.1); (case side3 => repeat (first | exact (zRr HO_4.out).2.2 | (with_reducible first | refine zCa ?_ _ | refine zCn ?_ _ | refine zCd ?_))); (case side4 => exact (zRr HO_4.out).2.1); rintro e w68 ⟨rfl, hb⟩; refine ⟨_, rfl, ?_⟩; have n0_ := zA (zRb (by (with_reducible repeat (first | apply zRa | apply zRn | apply zRd)); exact HO_4.out) hb); have n1_ := zA (zRb (by (with_reducible repeat (first | apply zRa | apply zRn | apply zRd)); exact HO_7.out) hb); have n2_ := zA (zRb (by (with_reducible repeat (first | apply zRa | apply zRn | apply zRd)); exact HO129.out) hb); have n3_ := zA (zRb (by (with_reducible repeat (first | apply zRa | apply zRn | apply zRd)); exact HO133.out) hb); have n4_ := zA (below_step (by repeat (first | (with_reducible first | exact HB.out | apply zba | apply zbn | apply zbd) | exact HB.out)) hb); clear HO_4 HO_7; clear HO129 HO133 HB; have HO_4 := n0_; have HO_7 := n1_; have HO129 := n2_; have HO133 := n3_; have HB := n4_; clear n0_ n1_ n2_ n3_ n4_; (try clear hb)))
   go_meet
   case rel => exact ⟨_, (true), (by first | rfl | (simp; done) | (simp [*]; done)), H', ⟨by have := HJ8.out; have := HJ29.out; first | omega | exact zlr _⟩, ⟨by (with_reducible repeat (first | apply zRa | apply zRn | apply zRd)); exact Kd.R_mono HO_7.out (fun _ hk => trivial)⟩, ⟨by repeat (first | (with_reducible first | exact HB.out | apply zba | apply zbn | apply zbd) | exact HB.out)⟩⟩
 clear HC54
 try clear c1
 try clear c2
 try clear p2
 try clear c3
 try clear c3b0
 try clear c4
 try clear c5
 try clear c6
 try clear c9
 try clear c10
 try clear c11
 try clear c12
 try clear c13
 try clear c14
 try clear c15
 try clear c18
 try clear c25
 try clear c28
 try clear c35
 try clear c35b0
 try clear c37
 try clear c44
 try clear c47
 try clear c47b0
 try clear c51
 try clear c51b0
 try clear c51b1
 try clear c62
 try clear p2
 obtain ⟨kq, x87_53, rfl, HA, HJ53, HO_7, HB⟩ := hcut
 have hl7_53 := (zRr HO_7.out).1
 rw [hl7_53] at HO_7
 (try simp only [hl7_53])
 cases kq with
 | zero => exact absurd HA.out (by simp [laws_FnExactOrderedExpr.j2])
 | succ kj53 =>
 have H := HA.out
 clear HA
 simp only [laws_FnExactOrderedExpr.j2] at H
 by_cases c69 : x87_53 = true
 · subst c69
   replace H : (some false) = some r := by rw [if_pos rfl] at H; exact H
   obtain rfl := zsi H
   go_wp2
   go_ret
   exact ⟨by first | rfl | (simp [errW_none, errW_some] <;> rfl) | (simp [*, errW_none, errW_some] <;> rfl), by repeat (first | (with_reducible first | exact HB.out | apply zba | apply zbn | apply zbd) | exact HB.out)⟩
 replace c69 := zbf c69
 subst c69
 replace H : ((laws_heldNodeS.f kj53 t125 1).bind fun t135 => (if t135 < 0 then (some false) else (if t135 = t124 then (some true) else (some false)))) = some r := by rw [if_neg (show ¬ (false = true) by decide)] at H; exact H
 replace H := zob H
 obtain ⟨t135, A700, H⟩ := H
 replace H : (if t135 < 0 then (some false) else (if t135 = t124 then (some true) else (some false))) = some r := H
 have A70 := zA A700
 clear A700
 by_cases c71 : t135 < 0
 · rw [if_pos c71] at H
   have c71b0 : decide (t135 < 0) = true := zdt c71
   clear c71
   obtain rfl := zsi H
   go_wp2_with (first | ((with_reducible refine gate_callee (f := 15) rfl ?_); refine goesL_ (some 90) rfl rfl Try.func15 (by kernel_rfl) rfl #[.slice Ao55 t125.length co55, .int .i64 1] rfl (by (try simp only [List.map_toArray, List.map_cons, List.map_nil]); first | done | rfl | (simp only [List.length_drop, List.length_take]; rfl)) ?_; (with_reducible refine (laws_heldNodeS.calls kj53 _ _ t125 1 t135 _ ?side1 ?side2 A70.out).mono ?_); (case side1 => repeat (first | exact (zRr HO_7.out).2.2 | (with_reducible first | refine zCa ?_ _ | refine zCn ?_ _ | refine zCd ?_))); (case side2 => exact (zRr HO_7.out).2.1); rintro e w72 ⟨rfl, hb⟩; refine ⟨_, rfl, ?_⟩; have n0_ := zA (zRb (by (with_reducible repeat (first | apply zRa | apply zRn | apply zRd)); exact HO_7.out) hb); have n1_ := zA (below_step (by repeat (first | (with_reducible first | exact HB.out | apply zba | apply zbn | apply zbd) | exact HB.out)) hb); clear HO_7 HB; have HO_7 := n0_; have HB := n1_; clear n0_ n1_; (try clear hb)))
   go_ret
   exact ⟨by first | rfl | (simp [errW_none, errW_some] <;> rfl) | (simp [*, errW_none, errW_some] <;> rfl), by repeat (first | (with_reducible first | exact HB.out | apply zba | apply zbn | apply zbd) | exact HB.out)⟩
 rw [if_neg c71] at H
 have c71b0 : decide (t135 < 0) = false := zdf c71
 clear c71
 by_cases c73 : t135 = t124
 rotate_left
 · rw [if_neg c73] at H
   have c73b0 : (t135 == t124) = false := beq_eq_false_iff_ne.mpr c73
   have c73b1 : (t135 != t124) = true := bne_iff_ne.mpr c73
   obtain rfl := zsi H
   go_wp2_with (first | ((with_reducible refine gate_callee (f := 15) rfl ?_); refine goesL_ (some 90) rfl rfl Try.func15 (by kernel_rfl) rfl #[.slice Ao55 t125.length co55, .int .i64 1] rfl (by (try simp only [List.map_toArray, List.map_cons, List.map_nil]); first | done | rfl | (simp only [List.length_drop, List.length_take]; rfl)) ?_; (with_reducible refine (laws_heldNodeS.calls kj53 _ _ t125 1 t135 _ ?side1 ?side2 A70.out).mono ?_); (case side1 => repeat (first | exact (zRr HO_7.out).2.2 | (with_reducible first | refine zCa ?_ _ | refine zCn ?_ _ | refine zCd ?_))); (case side2 => exact (zRr HO_7.out).2.1); rintro e w75 ⟨rfl, hb⟩; refine ⟨_, rfl, ?_⟩; have n0_ := zA (zRb (by (with_reducible repeat (first | apply zRa | apply zRn | apply zRd)); exact HO_7.out) hb); have n1_ := zA (below_step (by repeat (first | (with_reducible first | exact HB.out | apply zba | apply zbn | apply zbd) | exact HB.out)) hb); clear HO_7 HB; have HO_7 := n0_; have HB := n1_; clear n0_ n1_; (try clear hb)))
   go_ret
   exact ⟨by first | rfl | (simp [errW_none, errW_some] <;> rfl) | (simp [*, errW_none, errW_some] <;> rfl), by repeat (first | (with_reducible first | exact HB.out | apply zba | apply zbn | apply zbd) | exact HB.out)⟩
 rw [if_pos c73] at H
 have c73b0 : (t135 == t124) = true := beq_iff_eq.mpr c73
 have c73b1 : (t135 != t124) = false := bne_eq_false_iff_eq.mpr c73
 clear c73
 obtain rfl := zsi H
 go_wp2_with (first | ((with_reducible refine gate_callee (f := 15) rfl ?_); refine goesL_ (some 90) rfl rfl Try.func15 (by kernel_rfl) rfl #[.slice Ao55 t125.length co55, .int .i64 1] rfl (by (try simp only [List.map_toArray, List.map_cons, List.map_nil]); first | done | rfl | (simp only [List.length_drop, List.length_take]; rfl)) ?_; (with_reducible refine (laws_heldNodeS.calls kj53 _ _ t125 1 t135 _ ?side1 ?side2 A70.out).mono ?_); (case side1 => repeat (first | exact (zRr HO_7.out).2.2 | (with_reducible first | refine zCa ?_ _ | refine zCn ?_ _ | refine zCd ?_))); (case side2 => exact (zRr HO_7.out).2.1); rintro e w74 ⟨rfl, hb⟩; refine ⟨_, rfl, ?_⟩; have n0_ := zA (zRb (by (with_reducible repeat (first | apply zRa | apply zRn | apply zRd)); exact HO_7.out) hb); have n1_ := zA (below_step (by repeat (first | (with_reducible first | exact HB.out | apply zba | apply zbn | apply zbd) | exact HB.out)) hb); clear HO_7 HB; have HO_7 := n0_; have HB := n1_; clear n0_ n1_; (try clear hb)))
 go_ret
 exact ⟨by first | rfl | (simp [errW_none, errW_some] <;> rfl) | (simp [*, errW_none, errW_some] <;> rfl), by repeat (first | (with_reducible first | exact HB.out | apply zba | apply zbn | apply zbd) | exact HB.out)⟩
end Go.Proofs.Ytkfkbmlbpeojaaa.Q
end
section
namespace Go.Proofs.Ytkfkbmlbpeojaaa.Rd
open Go Go.RowKit Go.Proofs.YtkfkbmlbpeojaaaW.PrintWords Go.Proofs.YtkfkbmlbpeojaaaW.PrintLast Go.ChangeShapes Go.WideShapes Go.Deep
set_option linter.unusedSimpArgs false
set_option linter.unusedVariables false
structure RdK {α : Type} (d : Kd α) (P : Program) (t : TypeId) (Good : α → Prop) : Prop where
  size : P.cellsOf t = d.sz
  get : ∀ {H : Type} {enc : TypeId × Value → H} {w : World} {n : Nat} {cs : List Value} {x : DataW H × List MemPlace}, DataW.trod enc P w 0 (fun _ => true) true n t cs = some x → ∃ a, d.K w a cs ∧ Good a
def okInt (k : IntKind) (n : Int) : Prop := (Lit.int k n).wf = true
def okStr (s : ByteArray) : Prop := s.size ≤ maxLen
def okSl {α : Type} (G : α → Prop) (xs : List α) : Prop := xs.length ≤ maxLen ∧ ∀ x ∈ xs, G x
theorem rk_int {P : Program} {t : TypeId} {k : IntKind} (ht : P.underlying t = some (.int k)) (hs : P.cellsOf t = 1) : RdK (Kd.int k) P t (okInt k) :=
  ⟨hs, fun h => by obtain ⟨n, rfl, _, hw⟩ := DataW.trod_int ht h; exact ⟨n, rfl, hw⟩⟩
theorem rk_string {P : Program} {t : TypeId} (ht : P.underlying t = some .string) (hs : P.cellsOf t = 1) : RdK Kd.string P t okStr :=
  ⟨hs, fun h => by obtain ⟨n, rfl, _, hw⟩ := DataW.trod_string ht h; exact ⟨n, rfl, hw⟩⟩
theorem rk_slice {α : Type} {d : Kd α} {P : Program} {t e : TypeId} {G : α → Prop} (hd : RdK d P e G) (ht : P.underlying t = some (.slice e)) (hs : P.cellsOf t = 1) : RdK (Kd.slice e d) P t (okSl G) := by
  refine ⟨hs, fun {H enc w n cs x} h => ?_⟩
  rcases open_slice ht h with ⟨rfl, _⟩ | ⟨a, len, cap, m, n', D, Pl, rfl, _, hl, hm, hmm, _, hx⟩
  · exact ⟨[], ⟨none, 0, rfl, Nat.le_refl _, rfl, Nat.zero_le _, fun h => absurd h (Nat.lt_irrefl 0)⟩, Nat.zero_le _, fun _ h => by cases h⟩
  · have hc : m = cap := by simpa using hmm
    subst hc
    have key : ∀ i : Fin len, ∃ a' : α, ∃ cs', d.K w a' cs' ∧ G a' ∧ w.cells? 0 (a.add (i * P.cellsOf e)) (P.cellsOf e) = some cs' := fun i => by
      obtain ⟨cs', h1, h2⟩ := hx i (by omega)
      obtain ⟨a', h3, h4⟩ := hd.get h2
      exact ⟨a', cs', h3, h4, h1⟩
    have hlen : (List.ofFn fun i => Classical.choose (key i)).length = len := List.length_ofFn
    refine ⟨List.ofFn fun i => Classical.choose (key i), ⟨some a, m, by rw [hlen], by omega, hlen.trans hlen.symm, ?_, fun _ => ⟨a, rfl, fun j p hj => ?_⟩⟩, by rw [hlen]; omega, fun y hy => ?_⟩
    · rw [hlen]; unfold maxLen at hm; omega
    · have hjl : j < len := by
        have := (List.getElem?_eq_some_iff.1 hj).1
        rwa [hlen] at this
      rw [List.getElem?_ofFn, dif_pos hjl, Option.some.injEq] at hj
      obtain ⟨cs', h1, h2, h3⟩ := Classical.choose_spec (key ⟨j, hjl⟩)
      rw [hj] at h1 h2
      obtain ⟨_, h5, h6⟩ := World.cells?_some h3
      refine ⟨cs', d.K_len h1, h1, fun i u hi => ?_⟩
      have hil : i < P.cellsOf e := by
        have := (List.getElem?_eq_some_iff.1 hi).1
        omega
      have := h6 i hil
      rw [Go.Deep.add_add] at this
      rw [← hd.size]
      exact this.trans hi
    · obtain ⟨i, rfl⟩ := List.mem_ofFn.1 hy
      obtain ⟨cs', h1, h2, h3⟩ := Classical.choose_spec (key i)
      exact h2
structure RdF {α : Type} (d : Kd α) (P : Program) (fs : List Field) (off : Nat) (Good : α → Prop) : Prop where
  get : ∀ {H : Type} {enc : TypeId × Value → H} {w : World} {n : Nat} {cs : List Value}, cs.length = off + d.sz →
    (∀ f ∈ fs, ∃ y, DataW.trod enc P w 0 (fun _ => true) true n f.type ((cs.drop f.offset).take (P.cellsOf f.type)) = some y) → ∃ a, d.K w a (cs.drop off) ∧ Good a
theorem rf_one {α : Type} {d : Kd α} {P : Program} {f : Field} {G : α → Prop} (hd : RdK d P f.type G) : RdF d P [f] f.offset G := by
  refine ⟨fun {H enc w n cs} hl h => ?_⟩
  obtain ⟨y, hy⟩ := h f (List.mem_singleton.2 rfl)
  rw [hd.size, List.take_of_length_le (by rw [List.length_drop]; omega)] at hy
  exact hd.get hy
theorem rf_cons {α β : Type} {d : Kd α} {d' : Kd β} {P : Program} {f : Field} {fs : List Field} {G : α → Prop} {G' : β → Prop} {off' : Nat} (hd : RdK d P f.type G) (ho : off' = f.offset + d.sz) (hf : RdF d' P fs off' G') :
    RdF (Kd.pair d d') P (f :: fs) f.offset (fun x => G x.1 ∧ G' x.2) := by
  refine ⟨fun {H enc w n cs} hl h => ?_⟩
  have hl' : cs.length = f.offset + (d.sz + d'.sz) := hl
  obtain ⟨y, hy⟩ := h f List.mem_cons_self
  rw [hd.size] at hy
  obtain ⟨a, h1, h2⟩ := hd.get hy
  obtain ⟨b, h3, h4⟩ := hf.get (cs := cs) (by omega) (fun g hg => h g (List.mem_cons_of_mem _ hg))
  refine ⟨(a, b), ⟨_, _, ?_, h1, h3⟩, h2, h4⟩
  rw [ho, ← List.drop_drop, List.take_append_drop]
theorem rk_struct {α : Type} {d : Kd α} {P : Program} {t : TypeId} {fs : Array Field} {G : α → Prop} (ht : P.underlying t = some (.struct fs)) (hs : P.cellsOf t = d.sz) (hf : RdF d P fs.toList 0 G) : RdK d P t G := by
  refine ⟨hs, fun {H enc w n cs x} h => ?_⟩
  obtain ⟨xs, n', _, _, hl, hlen, hg⟩ := DataW.trod_struct ht h
  have := hf.get (cs := cs) (enc := enc) (w := w) (n := n') (by omega) (fun f hf' => by
    obtain ⟨i, hi, he⟩ := List.getElem_of_mem hf'
    have h1 : fs[i]? = some f := by rw [← Array.getElem?_toList, List.getElem?_eq_getElem hi, he]
    have h2 := hg i f h1
    rw [List.getElem?_eq_getElem (by rw [hlen]; simpa using hi)] at h2
    exact ⟨_, h2⟩)
  simpa using this
theorem rk_iso {α β : Type} {d : Kd α} {P : Program} {t : TypeId} {G : α → Prop} (hd : RdK d P t G) (f : β → α) (g : α → β) (hfg : ∀ a, f (g a) = a) : RdK (Kd.iso d f) P t (fun b => G (f b)) := by
  refine ⟨hd.size, fun {H enc w n cs x} h => ?_⟩
  obtain ⟨a, h1, h2⟩ := hd.get h
  exact ⟨g a, by show d.K w (f (g a)) cs; rw [hfg]; exact h1, by rw [hfg]; exact h2⟩
theorem arg_slice {α : Type} {d : Kd α} {P : Program} {t e : TypeId} {G : α → Prop} (hd : RdK (Kd.slice e d) P t (okSl G)) {H : Type} {enc : TypeId × Value → H} {w : World} {a : Option Addr} {len cap : Nat} {x : DataW H} {ps : List MemPlace}
    (h : DataW.Trod enc P w 0 (fun _ => true) true t (.slice a len cap) x ps) : ∃ xs : List α, len = xs.length ∧ xs.length ≤ cap ∧ Kd.C d w a xs.length xs ∧ okSl G xs := by
  obtain ⟨n, hn⟩ := h
  obtain ⟨xs, ⟨A, c, he, hl, hc⟩, hg⟩ := hd.get hn
  simp [Value.cells] at he
  obtain ⟨rfl, rfl, rfl⟩ := he
  exact ⟨xs, rfl, hl, hc, hg⟩
end Go.Proofs.Ytkfkbmlbpeojaaa.Rd
end
section
namespace Go.Proofs.Ytkfkbmlbpeojaaa.Q
open Go.RowKit Go.Proofs.YtkfkbmlbpeojaaaW.PrintWords Go.Proofs.YtkfkbmlbpeojaaaW.PrintLast Go.Proofs.YtkfkbmlbpeojaaaW.PrintMore
attribute [local go_sem] max2_int min2_int max_two min_two max_three min_three max_four min_four
set_option linter.unusedVariables false
set_option linter.unusedSimpArgs false
def good69 (x : S69) : Prop := Rd.okStr x.f0 ∧ (Rd.okInt .i64) x.f1 ∧ (Rd.okInt .i64) x.f2 ∧ (Rd.okInt .i64) x.f3
theorem rd69 : Rd.RdK k69 Try.prog 69 good69 :=
  Rd.rk_iso (Rd.rk_struct Try.underlying69 (by kernel_rfl) (Rd.rf_cons (Rd.rk_string Try.underlying9 (by kernel_rfl)) rfl (Rd.rf_cons (Rd.rk_int Try.underlying3 (by kernel_rfl)) rfl (Rd.rf_cons (Rd.rk_int Try.underlying3 (by kernel_rfl)) rfl (Rd.rf_one (Rd.rk_int Try.underlying3 (by kernel_rfl))))))) (fun x : S69 => (x.f0, x.f1, x.f2, x.f3)) (fun p => ⟨p.1, p.2.1, p.2.2.1, p.2.2.2⟩) (fun _ => rfl)
def laws_FnExactOrderedExpr.Pure : Prop := ∀ (a0 : List (S69)), (Rd.okSl good69) a0 → ∃ k, laws_FnExactOrderedExpr.f k a0 = some true
end Go.Proofs.Ytkfkbmlbpeojaaa.Q
end
