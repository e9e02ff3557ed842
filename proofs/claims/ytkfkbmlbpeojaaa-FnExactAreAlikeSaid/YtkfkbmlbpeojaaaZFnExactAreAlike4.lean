/- Proved here: contracts of functions that the law FnExactAreAlike reaches, and lemmas on what they compute; texts of this session and the printed words of the kit that they lean on, cut down and put together by its program link.py. Conditions: as each states. -/
import Derived.Deep.DeepMust
import Derived.Laws.EntriesVeiled
import Derived.Test.YtkfkbmlbpeojaaaZFnExactAreAlike1
import Derived.Test.YtkfkbmlbpeojaaaZFnExactAreAlike2
import Derived.Test.YtkfkbmlbpeojaaaZFnExactAreAlike3
section
namespace Go.Proofs.Ytkfkbmlbpeojaaa.Q
open Go.RowKit Go.Proofs.YtkfkbmlbpeojaaaW.PrintWords Go.Proofs.YtkfkbmlbpeojaaaW.PrintLast Go.Proofs.YtkfkbmlbpeojaaaW.PrintMore
set_option maxHeartbeats 8000000
set_option maxRecDepth 100000
attribute [local go_sem] max2_int min2_int max_two min_two max_three min_three max_four min_four
set_option linter.unusedVariables false
set_option linter.unusedSimpArgs false
attribute [local go_sem high] eqA72
set_option linter.unusedVariables false
set_option linter.unusedSimpArgs false
def exEq (x y : S72) : Bool := x.f0.toList == y.f0.toList && (x.f1 == y.f1 && (x.f2 == y.f2 && (x.f3 == y.f3)))
def exIx (n : S72) : List S72 → Int → Int
 | [], _ => -1
 | x :: xs, i => if exEq x n = true then i else exIx n xs (i + 1)
def exPut (n : S72) (out : List S72) : List S72 × Int := if exIx n out 0 < 0 then (out ++ [n], out.length) else (out, exIx n out 0)
structure ExX (w0 : World) (gb r cr m : Nat) (s : List S72 × List Int) (vo : Value) (W : World) : Prop where
 below : Below w0.heap.size w0 W
 bb : W.heap[gb]? = some (.cells #[vo, .bool true] 147 (0, 0))
 lo : w0.heap.size ≤ gb
 out : Kd.R k72 72 W w0.heap.size (fun k => k ≠ gb ∧ k ≠ r) vo s.1
 rne : r ≠ gb
 nam : Kd.R (Kd.int .i64) 3 W w0.heap.size (fun k => k = r) (.slice (some ⟨r, 0, none⟩) m cr) s.2
section
variable {w0 : World} {gb r cr m : Nat} {s : List S72 × List Int} {vo v : Value} {W W1 : World}
theorem ExX.step (h : ExX w0 gb r cr m s vo W) (hb : Below W.heap.size W W1) : ExX w0 gb r cr m s vo W1 :=
 ⟨below_step h.below hb, blk_below h.bb hb, h.lo, zRb h.out hb, h.rne, zRb h.nam hb⟩
theorem ExX.setn (h : ExX w0 gb r cr m s vo W) (i x : Int) : ExX w0 gb r cr m (s.1, s.2.set i.toNat x) vo (W.setCell ⟨r, i.toNat, none⟩ (.int .i64 x)) :=
 ⟨h.below.setCell (p := ⟨r, i.toNat, none⟩) (Kd.R_base h.nam r rfl) _, blk_far h.bb (fun e => h.rne zq53) _, h.lo, Kd.R_far h.out (p := ⟨r, i.toNat, none⟩) (fun k hk => hk.2) _, h.rne, Kd.R_putn h.nam i x⟩
theorem ExX.append (h : ExX w0 gb r cr m s vo W) {vo' : Value} {ys : List S72} (hR : Kd.R k72 72 W1 w0.heap.size (fun k => k ≠ gb ∧ k ≠ r) vo' ys) (hb : Below w0.heap.size w0 W1) (hg : W.grownBy W1 vo.ownBlock) : ExX w0 gb r cr m (ys, s.2) vo' (W1.setCell ⟨gb, 0, none⟩ vo') := by
 have bb : W1.heap[gb]? = _ := (hg.block gb (blk_lt h.bb) (fun e => (h.out.1 gb e.symm).1 rfl)).trans h.bb
 exact ⟨hb.setCell (p := ⟨gb, 0, none⟩) h.lo _, by simpa using blk_set bb 0 vo', h.lo, Kd.R_far hR (p := ⟨gb, 0, none⟩) (fun k hk => hk.1) _, h.rne, Kd.R_far (Kd.R_grown h.nam hg (fun k hk e => (h.out.1 k e.symm).2 hk)) (p := ⟨gb, 0, none⟩) (fun k hk => by rw [hk]; exact h.rne) _⟩
end
def ExA (w0 : World) (gb r : Nat) (wr : World) (vo : Value) (ys : List S72) (V : World) (v' : Value) : Prop :=
 ∃ V1, Below wr.heap.size wr V1 ∧ Below w0.heap.size w0 V ∧ V1.grownBy V vo.ownBlock ∧ (v'.ownBlock = vo.ownBlock ∨ ∃ b, v'.ownBlock = some b ∧ V1.heap.size ≤ b) ∧ Kd.R k72 72 V w0.heap.size (fun k => k ≠ gb ∧ k ≠ r) v' ys
theorem exPut_calls {w0 : World} {gb r cr m : Nat} (s : List S72 × List Int) (vo : Value) (W : World) (hX : ExX w0 gb r cr m s vo W) (n0 : ByteArray) (n1 n2 n3 : Int) (hl : s.1.length < 1048576) :
   Calls Try.prog 178 #[.pointer (some ⟨gb, 0, none⟩), .agg #[.string n0, .int .i64 n1, .int .i64 n2, .int .i64 n3]] W fun x W' => ∃ vo', x = .returned (.int .i64 (exPut ⟨n0, n1, n2, n3⟩ s.1).2) ∧ ExX w0 gb r cr m ((exPut ⟨n0, n1, n2, n3⟩ s.1).1, s.2) vo' W' ∧ ShFr gb r vo W vo' W' := by
 obtain ⟨Ao, co, rfl⟩ := Kd.R_slice hX.out
 have hCo := (zRr hX.out).2.2
 have q0 := blk_cell hX.bb 0
 have q1 := blk_cell hX.bb 1
 have HX := zA hX
 clear hX
 have HCO := zA hCo
 clear hCo
 go_enter Try.func178, Try.ntmps178
 go_wp2_with ((with_reducible refine gate_dst (N := 3) rfl ?_); refine box_event ?hg (N := 3) ?hd (cs := #[.string n0, .int .i64 n1, .int .i64 n2, .int .i64 n3]) (t := 72) ?hr ?_; (case hd => rfl); (case hg => rfl); (case hr => go_simp <;> rfl); intro g hg w4 hbox hb; have HX4 := zA (HX.out.step hb); have HG := zA hbox; have HGE := zA (Nat.le_of_eq hg.symm); have HB4 := zA hb; have q0 := blk_cell HX4.out.bb 0; have q1 := blk_cell HX4.out.bb 1; clear hg hbox hb)
 obtain ⟨L, hL⟩ : ∃ L, L = exIx ⟨n0, n1, n2, n3⟩ s.1 0 := ⟨_, rfl⟩
 have HL := zA hL
 clear hL
 go_loopw [5, 6, 16] (fun v5 v6 v16 wr => ∃ u : Nat, v16 = .int .i64 (u : Int) ∧ u ≤ s.1.length ∧ Aside0 (Below w4.heap.size w4 wr) ∧ Aside0 (exIx ⟨n0, n1, n2, n3⟩ (s.1.drop u) u = L)) (fun _ _ v16 _ => s.1.length - (intOf v16).toNat)
 case atStart => exact ⟨0, rfl, Nat.zero_le _, ⟨Below.refl _ _⟩, ⟨by rw [List.drop_zero]; exact HL.out.symm⟩⟩
 obtain ⟨u, rfl, hu, HBr, HS⟩ := hrel
 by_cases hlt : u < s.1.length
 · have d1 : decide ((u : Int) < s.1.length) = true := zdt (by omega)
   have d2 : (0 : Int) ≤ (u : Int) := by omega
   have d3 : (u : Int) < s.1.length := by omega
   obtain ⟨ad, eA, x0, x1, x2, x3⟩ := at_T72 (zCb (zRr HX4.out.out).2.2 HBr.out) (u : Int) d2 d3
   rw [Int.toNat_natCast] at x0 x1 x2 x3
   subst eA
   have hg := blk_below HG.out HBr.out
   obtain ⟨x, hx⟩ : ∃ x, x = rd_T72 s.1 (u : Int) := ⟨_, rfl⟩
   rw [← hx] at x0 x1 x2 x3
   have hdr : s.1.drop u = x :: s.1.drop (u + 1) := by
     rw [List.drop_eq_getElem_cons hlt, hx]
     unfold rd_T72
     rw [Int.toNat_natCast, List.getD_eq_getElem?_getD, List.getElem?_eq_getElem hlt]
     rfl
   have hs := HS.out
   rw [hdr] at hs
   unfold exIx at hs
   have t0 : ∀ V, Below wr.heap.size wr V → V.cell? ⟨g, 0, none⟩ = some (.string n0) := fun V h => blk_cell (blk_below hg h) 0
   have t1 : ∀ V, Below wr.heap.size wr V → V.cell? ⟨g, 1, none⟩ = some (.int .i64 n1) := fun V h => blk_cell (blk_below hg h) 1
   have t2 : ∀ V, Below wr.heap.size wr V → V.cell? ⟨g, 2, none⟩ = some (.int .i64 n2) := fun V h => blk_cell (blk_below hg h) 2
   have t3 : ∀ V, Below wr.heap.size wr V → V.cell? ⟨g, 3, none⟩ = some (.int .i64 n3) := fun V h => blk_cell (blk_below hg h) 3
   have hb := zba (Below.refl wr.heap.size wr) (.cells #[.string x.f0, .int .i64 x.f1, .int .i64 x.f2, .int .i64 x.f3] 72)
   have y0 := t0 _ hb
   have y1 := t1 _ hb
   have y2 := t2 _ hb
   have y3 := t3 _ hb
   have HBA := zA (below_step HBr.out hb)
   clear t0 t1 t2 t3 hb hg hdr hx HS
   by_cases c : exEq x ⟨n0, n1, n2, n3⟩ = true
   rotate_left
   · rw [if_neg c] at hs
     have HS := zA hs
     have d4 : (x.f0.toList == n0.toList && (x.f1 == n1 && (x.f2 == n2 && (x.f3 == n3)))) = false := by simpa [exEq] using c
     clear hs c
     go_wp2_with fail
     go_roundw
     case rel => exact ⟨u + 1, by go_num, by omega, HBA, ⟨by rw [show ((u + 1 : Nat) : Int) = (u : Int) + 1 from rfl]; exact HS.out⟩⟩
     case measure => simp [intOf]; omega
   rw [if_pos c] at hs
   have HS := zA hs
   have d4 : (x.f0.toList == n0.toList && (x.f1 == n1 && (x.f2 == n2 && (x.f3 == n3)))) = true := c
   clear hs c
   go_wp2_with fail
   go_ret
   have e : exPut ⟨n0, n1, n2, n3⟩ s.1 = (s.1, (u : Int)) := by
     unfold exPut
     rw [← HL.out, ← HS.out, if_neg (by omega)]
   rw [e]
   exact ⟨_, rfl, HX4.out.step HBA.out, ((ShFr.refl _ _ _ _).step HB4.out).step HBA.out⟩
 obtain rfl : u = s.1.length := by omega
 have d1 : decide ((s.1.length : Int) < s.1.length) = false := zdf (by omega)
 go_wp2_with fail
 have hs := HS.out
 rw [List.drop_length] at hs
 have HS' := zA (show (-1 : Int) = L from hs)
 clear hs HS
 have HX5 := zA (HX4.out.step HBr.out)
 have HG5 := zA (blk_below HG.out HBr.out)
 refine ri_region [[], [], [1], [1, 2], [1, 2, 3], [], [5], [1, 2, 3, 4, 5, 6], [0, 1, 2, 3, 4, 5, 6, 7], [0, 1, 2, 3, 4, 5, 6, 7, 8], [0, 1, 2, 3, 4, 5, 6, 7, 8, 9]] [[8, 9, 10], [2, 3, 4, 7, 8, 9, 10], [3, 4, 7, 8, 9, 10], [4, 7, 8, 9, 10], [7, 8, 9, 10], [6, 7, 8, 9, 10], [7, 8, 9, 10], [8, 9, 10], [9, 10], [10], []]
   (fun L s_ V => (L 7 = false → Below wr.heap.size wr V) ∧ (L 7 = true → L 10 = false → ExA w0 gb r wr (.slice Ao s.1.length co) (s.1 ++ [(⟨n0, n1, n2, n3⟩ : S72)]) V (s_ 7)) ∧ (L 10 = true → ∃ V2, ExA w0 gb r wr (.slice Ao s.1.length co) (s.1 ++ [(⟨n0, n1, n2, n3⟩ : S72)]) V2 (s_ 7) ∧ V = V2.setCell ⟨gb, 0, none⟩ (s_ 7)) ∧
     (L 0 = true → s_ 0 = .pointer (some ⟨gb, 0, none⟩)) ∧ (L 1 = true → s_ 1 = .pointer (some ⟨gb, 0, none⟩)) ∧ (L 2 = true → s_ 2 = .pointer (some ⟨gb, 0, none⟩)) ∧ (L 3 = true → s_ 3 = .pointer (some ⟨gb, 0, none⟩)) ∧ (L 4 = true → s_ 4 = .slice Ao s.1.length co) ∧ (L 5 = true → s_ 5 = .agg #[.string n0, .int .i64 n1, .int .i64 n2, .int .i64 n3]) ∧
     (L 6 = true → L 7 = false → ∃ A c, s_ 6 = .slice A 1 c ∧ Kd.C k72 V A 1 [(⟨n0, n1, n2, n3⟩ : S72)]) ∧ (L 8 = true → s_ 8 = .pointer (some ⟨gb, 0, none⟩)) ∧ (L 9 = true → s_ 9 = .pointer (some ⟨gb, 0, none⟩)))
   rfl (fun _ _ _ _ _ h => h) zq32 ?_ ⟨?_, ?_, ?_, ?_, ?_, ?_, ?_, ?_, ?_, ?_, ?_, trivial⟩ ?_
 · exact ⟨fun _ => below_drew (Below.refl _ _), (fun h => Bool.noConfusion h), (fun h => Bool.noConfusion h), (fun h => Bool.noConfusion h), (fun h => Bool.noConfusion h), (fun h => Bool.noConfusion h), (fun h => Bool.noConfusion h), (fun h => Bool.noConfusion h), (fun h => Bool.noConfusion h), (fun h => Bool.noConfusion h), (fun h => Bool.noConfusion h), (fun h => Bool.noConfusion h)⟩
 · rintro L s_ V hu hd hn ⟨hB, hA, hS, g0, g1, g2, g3, g4, g5, g6, g8, g9⟩ K hK
   refine value_ (N := some 26) (v := .pointer (some ⟨gb, 0, none⟩)) (w1 := V) (by rfl) rfl ?_ (hK _ _ ⟨hB, hA, hS, fun _ => rfl, g1, g2, g3, g4, g5, g6, g8, g9⟩)
   refine zsr ?_
   go_simp
 · rintro L s_ V hu hd hn ⟨hB, hA, hS, g0, g1, g2, g3, g4, g5, g6, g8, g9⟩ K hK
   refine value_ (N := some 27) (v := .pointer (some ⟨gb, 0, none⟩)) (w1 := V) (by rfl) rfl ?_ (hK _ _ ⟨hB, hA, hS, g0, fun _ => rfl, g2, g3, g4, g5, g6, g8, g9⟩)
   refine zsr ?_
   go_simp
 · rintro L s_ V hu hd hn ⟨hB, hA, hS, g0, g1, g2, g3, g4, g5, g6, g8, g9⟩ K hK
   have e1 := g1 hd
   refine value_ (N := some 28) (v := .pointer (some ⟨gb, 0, none⟩)) (w1 := V) (by rfl) rfl ?_ (hK _ _ ⟨hB, hA, hS, g0, g1, fun _ => rfl, g3, g4, g5, g6, g8, g9⟩)
   refine zsr ?_
   rw [e1]
   go_simp
 · rintro L s_ V hu hd hn ⟨hB, hA, hS, g0, g1, g2, g3, g4, g5, g6, g8, g9⟩ K hK
   have e2 := g2 hd.2
   refine value_ (N := some 29) (v := .pointer (some ⟨gb, 0, none⟩)) (w1 := V) (by rfl) rfl ?_ (hK _ _ ⟨hB, hA, hS, g0, g1, g2, fun _ => rfl, g4, g5, g6, g8, g9⟩)
   refine zsr ?_
   rw [e2]
   go_simp
 · rintro L s_ V hu hd hn ⟨hB, hA, hS, g0, g1, g2, g3, g4, g5, g6, g8, g9⟩ K hK
   have e3 := g3 hd.2.2
   have hc := blk_cell (HX5.out.step (hB hn.1)).bb 0
   refine value_ (N := some 30) (v := .slice Ao s.1.length co) (w1 := V) (by rfl) rfl ?_ (hK _ _ ⟨hB, hA, hS, g0, g1, g2, g3, fun _ => rfl, g5, g6, g8, g9⟩)
   refine zsr ?_
   rw [e3]
   go_simp
 · rintro L s_ V hu hd hn ⟨hB, hA, hS, g0, g1, g2, g3, g4, g5, g6, g8, g9⟩ K hK
   have hg' := blk_below HG5.out (hB hn.2.1)
   have y0 : V.cell? ⟨g, 0, none⟩ = some (.string n0) := blk_cell hg' 0
   have y1 : V.cell? ⟨g, 1, none⟩ = some (.int .i64 n1) := blk_cell hg' 1
   have y2 : V.cell? ⟨g, 2, none⟩ = some (.int .i64 n2) := blk_cell hg' 2
   have y3 : V.cell? ⟨g, 3, none⟩ = some (.int .i64 n3) := blk_cell hg' 3
   clear hg'
   refine value_ (N := some 31) (v := .agg #[.string n0, .int .i64 n1, .int .i64 n2, .int .i64 n3]) (w1 := V) (by rfl) rfl ?_ (hK _ _ ⟨hB, hA, hS, g0, g1, g2, g3, g4, fun _ => rfl, g6, g8, g9⟩)
   refine zsr ?_
   go_simp
 · rintro L s_ V hu hd hn ⟨hB, hA, hS, g0, g1, g2, g3, g4, g5, g6, g8, g9⟩ K hK
   have e5 := g5 hd
   have hb := hB hn.1
   refine value_ (N := some 32) (v := .slice (some ⟨V.heap.size, 0, none⟩) 1 1) (w1 := V.alloc (.cells #[.string n0, .int .i64 n1, .int .i64 n2, .int .i64 n3] 72)) (by rfl) rfl ?_ (hK _ _ ⟨fun _ => zba hb _, fun h => absurd (h.symm.trans hn.1) (by simp), fun h => absurd (h.symm.trans hn.2.2.2) (by simp), g0, g1, g2, g3, g4, g5, fun _ _ => ⟨_, _, rfl, box_C (d := k72) (blk_new V _) (cs := [.string n0, .int .i64 n1, .int .i64 n2, .int .i64 n3]) rfl (k72_mk _ (⟨n0, n1, n2, n3⟩ : S72))⟩, g8, g9⟩)
   refine zsr ?_
   rw [e5]
   go_simp
 · rintro L s_ V hu hd hn ⟨hB, hA, hS, g0, g1, g2, g3, g4, g5, g6, g8, g9⟩ K hK
   obtain ⟨h1, h2, h3, h4, h5, h6⟩ := hd
   have hb := hB hu
   have e4 := g4 h4
   obtain ⟨A6, c6, e6, hC6⟩ := g6 h6 hu
   have hX := HX5.out.step hb
   refine Kd.R_append_rows_step k72 (Rr := k72.K V) w0.heap.size (by rfl) _ _ 24 72 (.agg #[(.string ⟨#[]⟩), (.int .i64 0), (.int .i64 0), (.int .i64 0)]) 40 rfl Try.underlying24 info72 rfl (by decide) (by omega) (.slice Ao s.1.length co) s.1 [(⟨n0, n1, n2, n3⟩ : S72)] A6 1 c6 (fun k => k ≠ gb ∧ k ≠ r) (fun _ => False) e4 e6 hX.out hC6 (fun x cs h => by rw [k72_open h]; exact k72_mkM _ _ _ x) (fun _ hk => hk.elim) (fun k hk => by have a1 := blk_lt hX.bb; have a2 := Kd.R_lt hX.nam r rfl; exact ⟨by omega, by omega⟩) hX.below hX.below.size (by omega) ?_
   intro v1 w1 ho hb1 hgr hat
   exact hK _ _ ⟨(fun h => Bool.noConfusion h), fun _ _ => ⟨V, hb, hb1, hgr, hat, ho⟩, fun h => absurd (h.symm.trans hn.2.2) (by simp), g0, g1, g2, g3, g4, g5, fun _ h => Bool.noConfusion h, g8, g9⟩
 · rintro L s_ V hu hd hn ⟨hB, hA, hS, g0, g1, g2, g3, g4, g5, g6, g8, g9⟩ K hK
   have e0 := g0 hd.1
   refine value_ (N := some 34) (v := .pointer (some ⟨gb, 0, none⟩)) (w1 := V) (by rfl) rfl ?_ (hK _ _ ⟨hB, hA, hS, g0, g1, g2, g3, g4, g5, g6, fun _ => rfl, g9⟩)
   refine zsr ?_
   rw [e0]
   go_simp
 · rintro L s_ V hu hd hn ⟨hB, hA, hS, g0, g1, g2, g3, g4, g5, g6, g8, g9⟩ K hK
   have e8 := g8 hd.2.2.2.2.2.2.2.2
   refine value_ (N := some 35) (v := .pointer (some ⟨gb, 0, none⟩)) (w1 := V) (by rfl) rfl ?_ (hK _ _ ⟨hB, hA, hS, g0, g1, g2, g3, g4, g5, g6, g8, fun _ => rfl⟩)
   refine zsr ?_
   rw [e8]
   go_simp
 · rintro L s_ V hu hd hn ⟨hB, hA, hS, g0, g1, g2, g3, g4, g5, g6, g8, g9⟩ K hK
   have h7 := hd.2.2.2.2.2.2.2.1
   have e9 := g9 hd.2.2.2.2.2.2.2.2.2
   have hAP := hA h7 hu
   obtain ⟨V1, hb, hb1, hgr, hat, ho⟩ := hAP
   obtain ⟨A7, c7, e7⟩ := Kd.R_slice ho
   have hX := HX5.out.step hb
   have bb : V.heap[gb]? = _ := (hgr.block gb (blk_lt hX.bb) (fun e => (hX.out.1 gb e.symm).1 rfl)).trans hX.bb
   have b1 := blk_cell bb 0
   have b2 := blk_frozen bb 0
   refine skip_ (w1 := V.setCell ⟨gb, 0, none⟩ (s_ 7)) (by rfl) rfl ?_ (hK undef _ ⟨fun h => absurd (h.symm.trans h7) (by simp), fun _ h => absurd h (by simp [riUp]), fun _ => ⟨V, ⟨V1, hb, hb1, hgr, hat, ho⟩, rfl⟩, g0, g1, g2, g3, g4, g5, fun _ h => absurd (h.symm.trans h7) (by simp), g8, g9⟩)
   refine zsr ?_
   rw [e9, e7]
   clear bb hgr hat ho hb1 hb hX
   go_simp
 · rintro L s_ V hL ⟨hB, hA, hS, g0, g1, g2, g3, g4, g5, g6, g8, g9⟩
   obtain ⟨V2, ⟨V1, hb, hb1, hgr, hat, ho⟩, rfl⟩ := hS (hL 10 rfl)
   obtain ⟨A7, c7, e7⟩ := Kd.R_slice ho
   have HX6 := zA ((HX5.out.step hb).append ho hb1 hgr)
   have HF6 := zA (((((ShFr.refl gb r (.slice Ao s.1.length co) W).step HB4.out).step HBr.out).step hb).append hgr hat)
   have q2 := blk_cell HX6.out.bb 0
   rw [e7] at HX6 HF6 q2 ⊢
   clear hb hb1 hgr hat ho hB hA hS g0 g1 g2 g3 g4 g5 g6 g8 g9
   refine zsr ?_
   generalize V2.setCell ⟨gb, 0, none⟩ (.slice A7 (s.1 ++ [(⟨n0, n1, n2, n3⟩ : S72)]).length c7) = X at HX6 HF6 q2 ⊢
   go_wp2_with fail
   go_ret
   have e : exPut ⟨n0, n1, n2, n3⟩ s.1 = (s.1 ++ [⟨n0, n1, n2, n3⟩], (s.1.length : Int)) := by
     unfold exPut
     rw [← HL.out, ← HS'.out, if_pos (by omega)]
   rw [e]
   exact ⟨_, rfl, HX6.out, HF6.out⟩
set_option linter.unusedVariables false
set_option linter.unusedSimpArgs false
def exW (k : Nat) (e : List S72) : Nat → Int → List S72 × List Int → Option ((List S72 × List Int) × Int)
 | 0, _, _ => none
 | d + 1, i, s => if 0 ≤ i ∧ i < e.length then (if rd s.2 i ≥ 0 then some (s, rd s.2 i) else (spec_exParts.f k (rd_T72 e i).f0 (rd_T72 e i).f1 (rd_T72 e i).f2 (rd_T72 e i).f3).bind fun ps => if ps.length < 1048576 then
     (if 0 < ps.length then exW k e d (rd_T72 e i).f1 s else some (s, 0)).bind fun r1 => (if 1 < ps.length then exW k e d (rd_T72 e i).f2 r1.1 else some (r1.1, 0)).bind fun r2 => if r2.1.1.length < 1048576 then
       some (((exPut ⟨(rd_T72 e i).f0, r1.2, r2.2, (rd_T72 e i).f3⟩ r2.1.1).1, r2.1.2.set i.toNat (exPut ⟨(rd_T72 e i).f0, r1.2, r2.2, (rd_T72 e i).f3⟩ r2.1.1).2), (exPut ⟨(rd_T72 e i).f0, r1.2, r2.2, (rd_T72 e i).f3⟩ r2.1.1).2) else none else none) else none
theorem kOwn {W : World} {base : Nat} {ok : Nat → Prop} {v : Value} {xs : List S72} (h : Kd.R k72 72 W base ok v xs) : Kd.R k72 72 W base (fun k => some k = v.ownBlock) v xs := by
 obtain ⟨h0, inner, ho, hr⟩ := h
 exact ⟨fun k hk => hk.symm, inner, ho, hr.imp_ (fun x cs hp => by rw [k72_openM hp]; exact k72_mkM _ _ _ x)⟩
structure ExN (w0 : World) (gb r cr m g : Nat) (W : World) (vo : Value) (f0 : ByteArray) (f3 : Int) (s : List S72 × List Int) (v : Value) (a b : Int) (V : World) : Prop where
 x : ExX w0 gb r cr m s v V
 box : V.heap[g]? = some (.cells #[.string f0, .int .i64 a, .int .i64 b, .int .i64 f3] 72 (0, 0))
 ge : W.heap.size ≤ g
 lo : w0.heap.size ≤ g
 ne : g ≠ gb ∧ g ≠ r
 own : some g ≠ v.ownBlock
 fr : ShFr gb r vo W v V
section
variable {w0 : World} {gb r cr m g : Nat} {W : World} {vo : Value} {f0 : ByteArray} {f3 : Int} {s : List S72 × List Int} {v : Value} {a b : Int} {V : World}
theorem ExN.step (h : ExN w0 gb r cr m g W vo f0 f3 s v a b V) {V1 : World} (hb : Below V.heap.size V V1) : ExN w0 gb r cr m g W vo f0 f3 s v a b V1 :=
 ⟨h.x.step hb, blk_below h.box hb, h.ge, h.lo, h.ne, h.own, h.fr.step hb⟩
theorem ExN.walked (h : ExN w0 gb r cr m g W vo f0 f3 s v a b V) {s1 : List S72 × List Int} {v1 : Value} {V1 : World} (hX : ExX w0 gb r cr m s1 v1 V1) (hF : ShFr gb r v V v1 V1) : ExN w0 gb r cr m g W vo f0 f3 s1 v1 a b V1 := by
 have hlt := blk_lt h.box
 refine ⟨hX, (hF.keep g hlt h.ne.2 h.ne.1 h.own).trans h.box, h.ge, h.lo, h.ne, fun e => ?_, h.fr.trans hF⟩
 rcases hF.own g e.symm with e' | e'
 · exact h.own e'.symm
 · omega
theorem ExN.set (h : ExN w0 gb r cr m g W vo f0 f3 s v a b V) (j : Nat) (u : Value) (a' b' : Int) (hc : (#[.string f0, .int .i64 a, .int .i64 b, .int .i64 f3] : Array Value).setIfInBounds j u = #[.string f0, .int .i64 a', .int .i64 b', .int .i64 f3]) : ExN w0 gb r cr m g W vo f0 f3 s v a' b' (V.setCell ⟨g, j, none⟩ u) := by
 refine ⟨⟨h.x.below.setCell (p := ⟨g, j, none⟩) h.lo _, blk_far h.x.bb (fun e => h.ne.1 zq53) _, h.x.lo, Kd.R_mono (Kd.R_far (kOwn h.x.out) (p := ⟨g, j, none⟩) (fun k hk e => h.own (by rw [← hk]; exact congrArg some e.symm)) _) (fun k hk => h.x.out.1 k hk.symm), h.x.rne, Kd.R_far h.x.nam (p := ⟨g, j, none⟩) (fun k hk => by rw [hk]; exact fun e => h.ne.2 e.symm) _⟩, ?_, h.ge, h.lo, h.ne, h.own, ?_⟩
 · rw [← hc]
   exact blk_set h.box j u
 · have hg := h.ge
   exact ⟨Nat.le_trans h.fr.size ((Below.refl 0 V).setCell (p := ⟨g, j, none⟩) (Nat.zero_le _) u).size, fun k hk h1 h2 h3 => (Below.heap_setCell V ⟨g, j, none⟩ u k (show k ≠ g by omega)).trans (h.fr.keep k hk h1 h2 h3), h.fr.own⟩
end
theorem exOnce (k : Nat) {w0 : World} {A0 : Option Addr} {c0 : Nat} {e : List S72} {gb r cr : Nat} (hC : Kd.C k72 w0 A0 e.length e) : ∀ (d : Nat) (i : Int) (s s' : List S72 × List Int) (x : Int) (vo : Value) (W : World), ExX w0 gb r cr e.length s vo W → exW k e d i s = some (s', x) →
   Calls Try.prog 144 #[.pointer (some ⟨gb, 0, none⟩), .slice A0 e.length c0, .int .i64 i, .slice (some ⟨r, 0, none⟩) e.length cr] W fun y W' => y = .returned (.int .i64 x) ∧ ∃ vo', ExX w0 gb r cr e.length s' vo' W' ∧ ShFr gb r vo W vo' W' := by
 have HC := zA hC
 clear hC
 intro d
 induction d with
 | zero => intro i s s' x vo W hX h; cases h
 | succ d ih =>
 intro i s s' x vo W hX h
 have HIH := zA ih
 clear ih
 unfold exW at h
 by_cases c1 : 0 ≤ i ∧ i < e.length
 rotate_left
 · rw [if_neg c1] at h
   cases h
 rw [if_pos c1] at h
 obtain ⟨c2, c3⟩ := c1
 obtain ⟨p0, p1⟩ := Kd.R_celln 0 hX.nam i c2 c3
 have HX := zA hX
 clear hX
 by_cases hn : rd s.2 i ≥ 0
 · rw [if_pos hn] at h
   obtain ⟨rfl, rfl⟩ := Prod.mk.inj (zsi h)
   clear h
   have d1 : decide (0 ≤ rdOf 0 s.2 i) = true := zdt hn
   clear hn
   go_enter Try.func144, Try.ntmps144
   go_wp2_with fail
   go_ret
   exact ⟨rfl, vo, HX.out, ShFr.refl _ _ _ _⟩
 rw [if_neg hn] at h
 have d1 : decide (0 ≤ rdOf 0 s.2 i) = false := zdf hn
 clear hn
 obtain ⟨ps, hps, h⟩ := Option.bind_eq_some_iff.1 h
 by_cases hpl : ps.length < 1048576
 rotate_left
 · rw [if_neg hpl] at h
   cases h
 rw [if_pos hpl] at h
 obtain ⟨⟨s1, z1⟩, hs1, h⟩ := Option.bind_eq_some_iff.1 h
 obtain ⟨⟨s2, z2⟩, hs2, h⟩ := Option.bind_eq_some_iff.1 h
 by_cases hsl : s2.1.length < 1048576
 rotate_left
 · rw [if_neg hsl] at h
   cases h
 rw [if_pos hsl] at h
 have HPS := zA hps
 have HS1 := zA hs1
 have HS2 := zA hs2
 have HE := zA (Prod.mk.inj (zsi h))
 clear hps hs1 hs2 h
 obtain ⟨ad, eA, x0, x1, x2, x3⟩ := at_T72 (zCb HC.out HX.out.below) i c2 c3
 subst eA
 go_enter Try.func144, Try.ntmps144
 go_wp2_with fail
 obtain ⟨f0, hf0⟩ : ∃ f0, f0 = (rd_T72 e i).f0 := ⟨_, rfl⟩
 obtain ⟨f3, hf3⟩ : ∃ f3, f3 = (rd_T72 e i).f3 := ⟨_, rfl⟩
 have HF0 := zA hf0
 have HF3 := zA hf3
 clear hf0 hf3
 refine ri_region [[], [], [0, 1], [0, 1, 2], [0, 1, 2, 3], [], [], [5, 6], [5, 6, 7], [5, 6, 7, 8], [0, 1, 2, 3, 4, 5, 6, 7, 8, 9], [], [0, 1, 2, 3, 4, 5, 6, 7, 8, 9, 10, 11]] [[2, 3, 4, 10, 12], [2, 3, 4, 10, 12], [3, 4, 10, 12], [4, 10, 12], [10, 12], [7, 8, 9, 10, 12], [7, 8, 9, 10, 12], [8, 9, 10, 12], [9, 10, 12], [10, 12], [12], [12], []]
   (fun L s_ V => Below W.heap.size W V ∧ (L 0 = true → s_ 0 = .slice (some ad) e.length c0) ∧ (L 1 = true → s_ 1 = .int .i64 i) ∧ (L 2 = true → s_ 2 = .pointer (some (ad.add (i.toNat * 4)))) ∧ (L 3 = true → s_ 3 = .pointer (some (ad.add (i.toNat * 4)))) ∧ (L 4 = true → s_ 4 = .string f0) ∧ (L 5 = true → s_ 5 = .slice (some ad) e.length c0) ∧ (L 6 = true → s_ 6 = .int .i64 i) ∧ (L 7 = true → s_ 7 = .pointer (some (ad.add (i.toNat * 4)))) ∧ (L 8 = true → s_ 8 = .pointer (some ⟨(ad.add (i.toNat * 4)).block, (ad.add (i.toNat * 4)).off + 3, none⟩)) ∧ (L 9 = true → s_ 9 = .int .i64 f3) ∧ (L 10 = true → s_ 10 = .agg #[.string f0, .int .i64 0, .int .i64 0, .int .i64 f3]) ∧ (L 11 = true → ∃ g cs, s_ 11 = .pointer (some ⟨g, 0, none⟩) ∧ V.heap[g]? = some (.cells cs 72 (0, 0)) ∧ cs.size = 4 ∧ W.heap.size ≤ g ∧ (L 12 = true → cs = #[.string f0, .int .i64 0, .int .i64 0, .int .i64 f3])))
   rfl (fun _ _ _ _ _ h => h) zq32 ?_ ⟨?_, ?_, ?_, ?_, ?_, ?_, ?_, ?_, ?_, ?_, ?_, ?_, ?_, trivial⟩ ?_
 · exact ⟨below_drew (Below.refl _ _), (fun h => Bool.noConfusion h), (fun h => Bool.noConfusion h), (fun h => Bool.noConfusion h), (fun h => Bool.noConfusion h), (fun h => Bool.noConfusion h), (fun h => Bool.noConfusion h), (fun h => Bool.noConfusion h), (fun h => Bool.noConfusion h), (fun h => Bool.noConfusion h), (fun h => Bool.noConfusion h), (fun h => Bool.noConfusion h), (fun h => Bool.noConfusion h)⟩
 · rintro L s_ V hu hd hn ⟨hB, g0, g1, g2, g3, g4, g5, g6, g7, g8, g9, g10, g11⟩ K hK
   refine value_ (N := some 19) (v := .slice (some ad) e.length c0) (w1 := V) (by rfl) rfl ?_ (hK _ _ ⟨hB, fun _ => rfl, g1, g2, g3, g4, g5, g6, g7, g8, g9, g10, g11⟩)
   refine zsr ?_
   go_simp
 · rintro L s_ V hu hd hn ⟨hB, g0, g1, g2, g3, g4, g5, g6, g7, g8, g9, g10, g11⟩ K hK
   refine value_ (N := some 20) (v := .int .i64 i) (w1 := V) (by rfl) rfl ?_ (hK _ _ ⟨hB, g0, fun _ => rfl, g2, g3, g4, g5, g6, g7, g8, g9, g10, g11⟩)
   refine zsr ?_
   go_simp
 · rintro L s_ V hu hd hn ⟨hB, g0, g1, g2, g3, g4, g5, g6, g7, g8, g9, g10, g11⟩ K hK
   have e0 := g0 hd.1
   have e1 := g1 hd.2
   refine value_ (N := some 21) (v := .pointer (some (ad.add (i.toNat * 4)))) (w1 := V) (by rfl) rfl ?_ (hK _ _ ⟨hB, g0, g1, fun _ => rfl, g3, g4, g5, g6, g7, g8, g9, g10, g11⟩)
   refine zsr ?_
   rw [e0, e1]
   go_simp
 · rintro L s_ V hu hd hn ⟨hB, g0, g1, g2, g3, g4, g5, g6, g7, g8, g9, g10, g11⟩ K hK
   have e2 := g2 hd.2.2
   refine value_ (N := some 22) (v := .pointer (some (ad.add (i.toNat * 4)))) (w1 := V) (by rfl) rfl ?_ (hK _ _ ⟨hB, g0, g1, g2, fun _ => rfl, g4, g5, g6, g7, g8, g9, g10, g11⟩)
   refine zsr ?_
   rw [e2]
   go_simp
 · rintro L s_ V hu hd hn ⟨hB, g0, g1, g2, g3, g4, g5, g6, g7, g8, g9, g10, g11⟩ K hK
   have e3 := g3 hd.2.2.2
   obtain ⟨ad', ea, y0, y1, y2, y3⟩ := at_T72 (zCb HC.out (HX.out.step hB).below) i c2 c3
   cases ea
   rw [← HF0.out] at y0
   clear x0 x1 x2 x3
   refine value_ (N := some 23) (v := .string f0) (w1 := V) (by rfl) rfl ?_ (hK _ _ ⟨hB, g0, g1, g2, g3, fun _ => rfl, g5, g6, g7, g8, g9, g10, g11⟩)
   refine zsr ?_
   rw [e3]
   go_simp
 · rintro L s_ V hu hd hn ⟨hB, g0, g1, g2, g3, g4, g5, g6, g7, g8, g9, g10, g11⟩ K hK
   refine value_ (N := some 24) (v := .slice (some ad) e.length c0) (w1 := V) (by rfl) rfl ?_ (hK _ _ ⟨hB, g0, g1, g2, g3, g4, fun _ => rfl, g6, g7, g8, g9, g10, g11⟩)
   refine zsr ?_
   go_simp
 · rintro L s_ V hu hd hn ⟨hB, g0, g1, g2, g3, g4, g5, g6, g7, g8, g9, g10, g11⟩ K hK
   refine value_ (N := some 25) (v := .int .i64 i) (w1 := V) (by rfl) rfl ?_ (hK _ _ ⟨hB, g0, g1, g2, g3, g4, g5, fun _ => rfl, g7, g8, g9, g10, g11⟩)
   refine zsr ?_
   go_simp
 · rintro L s_ V hu hd hn ⟨hB, g0, g1, g2, g3, g4, g5, g6, g7, g8, g9, g10, g11⟩ K hK
   have e5 := g5 hd.1
   have e6 := g6 hd.2
   refine value_ (N := some 26) (v := .pointer (some (ad.add (i.toNat * 4)))) (w1 := V) (by rfl) rfl ?_ (hK _ _ ⟨hB, g0, g1, g2, g3, g4, g5, g6, fun _ => rfl, g8, g9, g10, g11⟩)
   refine zsr ?_
   rw [e5, e6]
   go_simp
 · rintro L s_ V hu hd hn ⟨hB, g0, g1, g2, g3, g4, g5, g6, g7, g8, g9, g10, g11⟩ K hK
   have e7 := g7 hd.2.2
   refine value_ (N := some 27) (v := .pointer (some ⟨(ad.add (i.toNat * 4)).block, (ad.add (i.toNat * 4)).off + 3, none⟩)) (w1 := V) (by rfl) rfl ?_ (hK _ _ ⟨hB, g0, g1, g2, g3, g4, g5, g6, g7, fun _ => rfl, g9, g10, g11⟩)
   refine zsr ?_
   rw [e7]
   go_simp
 · rintro L s_ V hu hd hn ⟨hB, g0, g1, g2, g3, g4, g5, g6, g7, g8, g9, g10, g11⟩ K hK
   have e8 := g8 hd.2.2.2
   obtain ⟨ad', ea, y0, y1, y2, y3⟩ := at_T72 (zCb HC.out (HX.out.step hB).below) i c2 c3
   cases ea
   rw [← HF3.out] at y3
   clear x0 x1 x2 x3
   refine value_ (N := some 28) (v := .int .i64 f3) (w1 := V) (by rfl) rfl ?_ (hK _ _ ⟨hB, g0, g1, g2, g3, g4, g5, g6, g7, g8, fun _ => rfl, g10, g11⟩)
   refine zsr ?_
   rw [e8]
   go_simp
 · rintro L s_ V hu hd hn ⟨hB, g0, g1, g2, g3, g4, g5, g6, g7, g8, g9, g10, g11⟩ K hK
   have e4 := g4 hd.2.2.2.2.1
   have e9 := g9 hd.2.2.2.2.2.2.2.2.2
   refine value_ (N := some 29) (v := .agg #[.string f0, .int .i64 0, .int .i64 0, .int .i64 f3]) (w1 := V) (by rfl) rfl ?_ (hK _ _ ⟨hB, g0, g1, g2, g3, g4, g5, g6, g7, g8, g9, fun _ => rfl, g11⟩)
   refine zsr ?_
   rw [e4, e9]
   go_simp
 · rintro L s_ V hu hd hn ⟨hB, g0, g1, g2, g3, g4, g5, g6, g7, g8, g9, g10, g11⟩ K hK
   refine value_ (N := some 9) (v := .pointer (some ⟨V.heap.size, 0, none⟩)) (w1 := V.alloc (.cells #[.string ⟨#[]⟩, .int .i64 0, .int .i64 0, .int .i64 0] 72)) (by rfl) rfl ?_ (hK _ _ ⟨zba hB _, g0, g1, g2, g3, g4, g5, g6, g7, g8, g9, g10, fun _ => ⟨V.heap.size, _, rfl, blk_new V _, rfl, hB.size, fun h => absurd (h.symm.trans hn) (by simp)⟩⟩)
   refine zsr ?_
   go_simp
 · rintro L s_ V hu hd hn ⟨hB, g0, g1, g2, g3, g4, g5, g6, g7, g8, g9, g10, g11⟩ K hK
   obtain ⟨g, cs, a1, a2, a3, a4, _⟩ := g11 hd.2.2.2.2.2.2.2.2.2.2.2
   have e10 := g10 hd.2.2.2.2.2.2.2.2.2.2.1
   have hst := run_store_run (P := Try.prog) (w := V) (o := 0) 72 (.agg #[.string f0, .int .i64 0, .int .i64 0, .int .i64 f3]) [.string f0, .int .i64 0, .int .i64 0, .int .i64 f3] a2 rfl rfl (by simp [a3]) zq43
   refine skip_ (w1 := V.setCells g 0 [.string f0, .int .i64 0, .int .i64 0, .int .i64 f3]) (by rfl) rfl ?_ (hK undef _ ⟨?_, g0, g1, g2, g3, g4, g5, g6, g7, g8, g9, g10, fun _ => ?_⟩)
   · simp only [riFill, riGo, riCell, riFind, riMem, riNth, Nat.reduceBEq, Nat.reduceAdd, List.headD, List.tail, List.getD, List.getElem?_cons_zero, List.getElem?_cons_succ, Option.getD_some, cond_true, cond_false]
     rw [a1, e10]
     unfold execOp
     simp only [Sem.run_bind, Sem.run_pure]
     exact (congrArg (fun r => Result.andThen r _) hst).trans rfl
   · have hs := setCells_same g [.string f0, .int .i64 0, .int .i64 0, .int .i64 f3] 0 V
     exact hB.trans ⟨hs.1, hs.2.1, hs.2.2.1, Nat.le_of_eq hs.2.2.2.symm, fun k hk => setCells_far _ _ k (by omega)⟩
   · obtain ⟨cur', b1, b2, b3⟩ := setCells_row (e := 72) [.string f0, .int .i64 0, .int .i64 0, .int .i64 f3] 0 V cs a2 (by simp [a3])
     refine ⟨g, cur', a1, b1, b2.trans a3, a4, fun _ => ?_⟩
     apply Array.ext'
     have hd4 : cs.toList.drop (0 + 4) = [] := List.drop_of_length_le (by simp [a3])
     rw [b3]
     show cs.toList.take 0 ++ [.string f0, .int .i64 0, .int .i64 0, .int .i64 f3] ++ cs.toList.drop (0 + 4) = _
     rw [hd4]
     rfl
 · rintro L s_ V hL ⟨hB, g0, g1, g2, g3, g4, g5, g6, g7, g8, g9, g10, g11⟩
   obtain ⟨g, cs, a1, a2, a3, a4, a5⟩ := g11 (hL 11 rfl)
   obtain rfl := a5 (hL 12 rfl)
   have hown : some g ≠ vo.ownBlock := fun e => by
     have := Kd.R_lt HX.out.out g e.symm
     omega
   have hgb := blk_lt HX.out.bb
   have hgr := Kd.R_lt HX.out.nam r rfl
   have HN := zA (show ExN w0 gb r cr e.length g W vo f0 f3 s vo 0 0 V from ⟨HX.out.step hB, a2, a4, Nat.le_trans HX.out.below.size a4, ⟨by omega, by omega⟩, hown, (ShFr.refl _ _ _ _).step hB⟩)
   clear a2 a3 a4 a5 g0 g1 g2 g3 g4 g5 g6 g7 g8 g9 g10 g11 hown hgb hgr x0 x1 x2 x3 p0 p1
   obtain ⟨ad', ea, x0, x1, x2, x3⟩ := at_T72 (zCb HC.out HN.out.x.below) i c2 c3
   cases ea
   clear hB
   refine zsr ?_
   rw [a1]
   clear a1
   rw [← HF0.out] at x0
   rw [← HF3.out] at x3
   have HPS2 := zA (show spec_exParts.f k f0 (rd_T72 e i).f1 (rd_T72 e i).f2 f3 = some ps by rw [HF0.out, HF3.out]; exact HPS.out)
   by_cases k1 : 0 < ps.length
   rotate_left
   · have d2 : decide ((0 : Int) < ps.length) = false := zdf (by omega)
     have d3 : decide ((1 : Int) < ps.length) = false := zdf (by omega)
     have hs1 := HS1.out
     rw [if_neg k1] at hs1
     obtain ⟨rfl, rfl⟩ := Prod.mk.inj (zsi hs1)
     have hs2 := HS2.out
     rw [if_neg (by omega)] at hs2
     obtain ⟨rfl, rfl⟩ := Prod.mk.inj (zsi hs2)
     clear hs1 hs2 HS1 HS2
     have HE2 := zA (show ((exPut ⟨f0, 0, 0, f3⟩ s.1).1, s.2.set i.toNat (exPut ⟨f0, 0, 0, f3⟩ s.1).2) = s' ∧ (exPut ⟨f0, 0, 0, f3⟩ s.1).2 = x by have := HE.out; rw [← HF0.out, ← HF3.out] at this; exact this)
     clear HE
     go_wp2_with (first | (go_at_call 143; (with_reducible refine (spec_exParts.calls k _ _ _ _ ps _ HPS2.out).mono ?_); rintro y w1 ⟨v1, rfl, hv1, hb1⟩; obtain ⟨A1, k1, rfl⟩ := Kd.R_slice hv1; have HNn := zA (HN.out.step hb1); clear HN hv1 hb1 x0 x1 x2 x3; have HN := HNn; clear HNn; obtain ⟨ad', ea, x0, x1, x2, x3⟩ := at_T72 (zCb HC.out HN.out.x.below) i c2 c3; cases ea; rw [← HF0.out] at x0; rw [← HF3.out] at x3; have y0 := blk_cell HN.out.box 0; have y1 := blk_cell HN.out.box 1; have y2 := blk_cell HN.out.box 2; have y3 := blk_cell HN.out.box 3) | (go_at_call 178; refine (exPut_calls _ _ _ HN.out.x f0 0 0 f3 hsl).mono ?_; rintro y w5 ⟨v5, rfl, hX5, hF5⟩; have HX5 := zA hX5; have HF5 := zA (HN.out.fr.trans hF5); obtain ⟨p2, p3⟩ := Kd.R_celln 0 hX5.nam i c2 c3; clear HN hX5 hF5 x0 x1 x2 x3 y0 y1 y2 y3))
     go_ret
     rw [← HE2.out.1, ← HE2.out.2]
     exact ⟨rfl, _, HX5.out.setn i _, HF5.out.setn i.toNat _⟩
   have d2 : decide ((0 : Int) < ps.length) = true := zdt (by omega)
   have hs1 := HS1.out
   rw [if_pos k1] at hs1
   have HS1' := zA hs1
   by_cases k2 : 1 < ps.length
   rotate_left
   · have d3 : decide ((1 : Int) < ps.length) = false := zdf (by omega)
     have hs2 := HS2.out
     rw [if_neg k2] at hs2
     obtain ⟨rfl, rfl⟩ := Prod.mk.inj (zsi hs2)
     clear hs1 hs2 HS1 HS2
     have HE2 := zA (show ((exPut ⟨f0, z1, 0, f3⟩ s1.1).1, s1.2.set i.toNat (exPut ⟨f0, z1, 0, f3⟩ s1.1).2) = s' ∧ (exPut ⟨f0, z1, 0, f3⟩ s1.1).2 = x by have := HE.out; rw [← HF0.out, ← HF3.out] at this; exact this)
     clear HE
     go_wp2_with (first | (go_at_call 143; (with_reducible refine (spec_exParts.calls k _ _ _ _ ps _ HPS2.out).mono ?_); rintro y w1 ⟨v1, rfl, hv1, hb1⟩; obtain ⟨A1, k1, rfl⟩ := Kd.R_slice hv1; have HNn := zA (HN.out.step hb1); clear HN hv1 hb1 x0 x1 x2 x3; have HN := HNn; clear HNn; obtain ⟨ad', ea, x0, x1, x2, x3⟩ := at_T72 (zCb HC.out HN.out.x.below) i c2 c3; cases ea; rw [← HF0.out] at x0; rw [← HF3.out] at x3; have y0 := blk_cell HN.out.box 0; have y1 := blk_cell HN.out.box 1; have y2 := blk_cell HN.out.box 2; have y3 := blk_cell HN.out.box 3) | (go_at_call 144; refine (HIH.out (rd_T72 e i).f1 s s1 z1 _ _ HN.out.x HS1'.out).mono ?_; rintro y w2 ⟨rfl, v2, hX2, hF2⟩; have HN2 := HN.out.walked hX2 hF2; have q1 := blk_cell HN2.box 1; have q2 := blk_frozen HN2.box 1; have HNn := zA (HN2.set 1 (.int .i64 z1) z1 0 rfl); clear HN HN2 hX2 hF2 x0 x1 x2 x3 y0 y1 y2 y3; have HN := HNn; clear HNn; obtain ⟨ad', ea, x0, x1, x2, x3⟩ := at_T72 (zCb HC.out HN.out.x.below) i c2 c3; cases ea; rw [← HF0.out] at x0; rw [← HF3.out] at x3) | (go_at_call 178; refine (exPut_calls _ _ _ HN.out.x f0 z1 0 f3 hsl).mono ?_; rintro y w5 ⟨v5, rfl, hX5, hF5⟩; have HX5 := zA hX5; have HF5 := zA (HN.out.fr.trans hF5); obtain ⟨p2, p3⟩ := Kd.R_celln 0 hX5.nam i c2 c3; clear HN hX5 hF5 x0 x1 x2 x3 y0 y1 y2 y3))
     go_ret
     rw [← HE2.out.1, ← HE2.out.2]
     exact ⟨rfl, _, HX5.out.setn i _, HF5.out.setn i.toNat _⟩
   have d3 : decide ((1 : Int) < ps.length) = true := zdt (by omega)
   have hs2 := HS2.out
   rw [if_pos k2] at hs2
   have HS2' := zA hs2
   clear hs1 hs2 HS1 HS2
   have HE2 := zA (show ((exPut ⟨f0, z1, z2, f3⟩ s2.1).1, s2.2.set i.toNat (exPut ⟨f0, z1, z2, f3⟩ s2.1).2) = s' ∧ (exPut ⟨f0, z1, z2, f3⟩ s2.1).2 = x by have := HE.out; rw [← HF0.out, ← HF3.out] at this; exact this)
   clear HE
   go_wp2_with (first | (go_at_call 143; (with_reducible refine (spec_exParts.calls k _ _ _ _ ps _ HPS2.out).mono ?_); rintro y w1 ⟨v1, rfl, hv1, hb1⟩; obtain ⟨A1, k1, rfl⟩ := Kd.R_slice hv1; have HNn := zA (HN.out.step hb1); clear HN hv1 hb1 x0 x1 x2 x3; have HN := HNn; clear HNn; obtain ⟨ad', ea, x0, x1, x2, x3⟩ := at_T72 (zCb HC.out HN.out.x.below) i c2 c3; cases ea; rw [← HF0.out] at x0; rw [← HF3.out] at x3; have y0 := blk_cell HN.out.box 0; have y1 := blk_cell HN.out.box 1; have y2 := blk_cell HN.out.box 2; have y3 := blk_cell HN.out.box 3) | (go_at_call 144; refine (HIH.out (rd_T72 e i).f1 s s1 z1 _ _ HN.out.x HS1'.out).mono ?_; rintro y w2 ⟨rfl, v2, hX2, hF2⟩; have HN2 := HN.out.walked hX2 hF2; have q1 := blk_cell HN2.box 1; have q2 := blk_frozen HN2.box 1; have HNn := zA (HN2.set 1 (.int .i64 z1) z1 0 rfl); clear HN HN2 hX2 hF2 x0 x1 x2 x3 y0 y1 y2 y3; have HN := HNn; clear HNn; obtain ⟨ad', ea, x0, x1, x2, x3⟩ := at_T72 (zCb HC.out HN.out.x.below) i c2 c3; cases ea; rw [← HF0.out] at x0; rw [← HF3.out] at x3) | (go_at_call 144; refine (HIH.out (rd_T72 e i).f2 s1 s2 z2 _ _ HN.out.x HS2'.out).mono ?_; rintro y w2 ⟨rfl, v2, hX2, hF2⟩; have HN2 := HN.out.walked hX2 hF2; have q1 := blk_cell HN2.box 2; have q2 := blk_frozen HN2.box 2; have HNn := zA (HN2.set 2 (.int .i64 z2) z1 z2 rfl); clear HN HN2 hX2 hF2 x0 x1 x2 x3 y0 y1 y2 y3; have HN := HNn; clear HNn; obtain ⟨ad', ea, x0, x1, x2, x3⟩ := at_T72 (zCb HC.out HN.out.x.below) i c2 c3; cases ea; rw [← HF0.out] at x0; rw [← HF3.out] at x3; have y0 := blk_cell HN.out.box 0; have y1 := blk_cell HN.out.box 1; have y2 := blk_cell HN.out.box 2; have y3 := blk_cell HN.out.box 3) | (go_at_call 178; refine (exPut_calls _ _ _ HN.out.x f0 z1 z2 f3 hsl).mono ?_; rintro y w5 ⟨v5, rfl, hX5, hF5⟩; have HX5 := zA hX5; have HF5 := zA (HN.out.fr.trans hF5); obtain ⟨p2, p3⟩ := Kd.R_celln 0 hX5.nam i c2 c3; clear HN hX5 hF5 x0 x1 x2 x3 y0 y1 y2 y3))
   go_ret
   rw [← HE2.out.1, ← HE2.out.2]
   exact ⟨rfl, _, HX5.out.setn i _, HF5.out.setn i.toNat _⟩
theorem exSet (n u : Nat) (h : u < n) : (List.replicate u (-1 : Int) ++ List.replicate (n - u) 0).set u (-1) = List.replicate (u + 1) (-1) ++ List.replicate (n - (u + 1)) 0 := by
 rw [show n - u = (n - (u + 1)) + 1 by omega, List.replicate_succ, List.set_append_right _ _ (by simp)]
 simp only [List.length_replicate, Nat.sub_self, List.set_cons_zero]
 rw [List.replicate_succ', List.append_assoc, List.singleton_append]
def spec_exShare.f (k : Nat) (l0 : List S72) : Option (List S72) := if 0 < l0.length ∧ l0.length ≤ 1048576 then (exW k l0 k ((l0.length : Int) - 1) ([], List.replicate l0.length (-1))).bind fun z => some z.1.1 else none
theorem spec_exShare.calls (k : Nat) (A0 : Option Addr) (c0 : Nat) (l0 : List S72) (r : List S72) (w : World) (hr0 : Kd.C k72 w A0 l0.length l0) (hc0 : l0.length ≤ c0) (h : spec_exShare.f k l0 = some r) :
   Calls Try.prog 95 #[.slice A0 l0.length c0] w fun e w' => ∃ v0_ : Value, e = .returned (v0_) ∧ Kd.R k72 72 w' w.heap.size (fun _ => True) v0_ r ∧ Below w.heap.size w w' := by
 unfold spec_exShare.f at h
 by_cases hl : 0 < l0.length ∧ l0.length ≤ 1048576
 rotate_left
 · rw [if_neg hl] at h
   cases h
 rw [if_pos hl] at h
 obtain ⟨⟨s, z⟩, hs, h⟩ := Option.bind_eq_some_iff.1 h
 obtain rfl := zsi h
 have HS := zA hs
 have HR := zA hr0
 have HC := zA hc0
 clear h hs hr0 hc0
 have k1 : (0 : Int) ≤ l0.length := by omega
 go_enter Try.func95, Try.ntmps95
 go_wp2_with (first
   | ((with_reducible refine gate_dst (N := 7) rfl ?_); refine box_event ?hg (N := 7) ?hd (cs := #[.slice none 0 0, .bool true]) (t := 147) ?hr ?_; (case hd => rfl); (case hg => rfl); (case hr => go_simp <;> rfl); intro gb hg w4 hbox hb; have BB := zA hbox; have HGB := zA (show w.heap.size ≤ gb from Nat.le_of_eq hg.symm); have HB := zA hb; clear hg hbox hb)
   | ((with_reducible refine gate_dst (N := 10) rfl ?_); refine Kd.R_make (Kd.int .i64) (w0 := w) w.heap.size 3 rfl (N := 10) rfl 51 _ _ rfl (l0.length : Int) rfl rfl Try.underlying51 (.int .i64 0) 8 info3 rfl (by decide) (by omega) 0 (ok := fun _ => True) (okp := fun _ => True) rfl (fun _ hk => hk) trivial k1 (by omega) HB.out HB.out.size ?_; intro v5 w5 ho hb hgr hnew; rw [Int.toNat_natCast] at ho; obtain ⟨r, cr, e5, hrb, _⟩ := Kd.R_form ho (by rw [List.length_replicate]; exact hl.1); rw [List.length_replicate] at e5; subst e5; have HO := zA ho; have BB5 := zA ((hgr.block gb (blk_lt BB.out) (by simp)).trans BB.out); have RNE := zA (show r ≠ gb from by obtain ⟨b, e, hb2⟩ := hnew; have hlt := blk_lt BB.out; have : r = b := (by simpa [Value.ownBlock] using e); omega); have HB5 := zA hb; clear ho hb hgr hnew hrb BB HB))
 go_loopw [5, 13] (fun v5 v13 wr => ∃ u : Nat, v13 = .int .i64 (u : Int) ∧ u ≤ l0.length ∧ Aside0 (wr.heap[gb]? = some (.cells #[.slice none 0 0, .bool true] 147 (0, 0))) ∧ Aside0 (Below w.heap.size w wr) ∧
   Aside0 (Kd.R (Kd.int .i64) 3 wr w.heap.size (fun _ => True) (.slice (some ⟨r, 0, none⟩) l0.length cr) (List.replicate u (-1) ++ List.replicate (l0.length - u) 0))) (fun _ v13 _ => l0.length - (intOf v13).toNat)
 case atStart => exact ⟨0, rfl, Nat.zero_le _, BB5, HB5, HO⟩
 clear BB5 HB5 HO
 obtain ⟨u, rfl, hu, BBr, HBr, HOr⟩ := hrel
 by_cases hlt : u < l0.length
 · have d1 : decide ((u : Int) < l0.length) = true := zdt (by omega)
   have d2 : (0 : Int) ≤ (u : Int) := by omega
   have d3 : (u : Int) < l0.length := by omega
   obtain ⟨p2, p3⟩ := Kd.R_celln 0 HOr.out (u : Int) d2 d3
   rw [Int.toNat_natCast] at p2 p3
   go_wp2_with fail
   go_roundw
   case rel =>
     have hp := Kd.R_putn HOr.out (u : Int) (-1)
     rw [Int.toNat_natCast, exSet l0.length u hlt] at hp
     exact ⟨u + 1, by go_num, by omega, ⟨blk_far BBr.out (fun e => RNE.out zq53) _⟩, ⟨HBr.out.setCell (p := ⟨r, u, none⟩) (Kd.R_base HOr.out r rfl) _⟩, ⟨hp⟩⟩
   case measure => simp [intOf]; omega
 obtain rfl : u = l0.length := by omega
 have d1 : decide ((l0.length : Int) < l0.length) = false := zdf (by omega)
 have ho := HOr.out
 rw [Nat.sub_self, List.replicate_zero, List.append_nil] at ho
 have HX := zA (show ExX w gb r cr l0.length ([], List.replicate l0.length (-1)) (.slice none 0 0) wr from ⟨HBr.out, BBr.out, HGB.out, Kd.R_nil _ _ _ _ _, RNE.out, by
   have hv : (Kd.int .i64).R 3 wr w.heap.size (fun _ => True) (.slice (some ⟨r, 0, none⟩) (List.replicate l0.length (-1 : Int)).length cr) (List.replicate l0.length (-1)) := by rw [List.length_replicate]; exact ho
   have hw := Kd.R_of_own (h1 := fun _ => rfl) (Kd.own_of_R hv) (ok := fun k => k = r) (fun k hk => by simpa [Value.ownBlock] using hk.symm)
   rw [List.length_replicate] at hw
   exact hw⟩)
 clear ho HOr BBr HBr
 go_wp2_with (go_at_call 144; refine (exOnce k HR.out k _ _ s z _ _ HX.out HS.out).mono ?_; rintro y w6 ⟨rfl, v6, hX6, hF6⟩; obtain ⟨A6, c6, e6⟩ := Kd.R_slice hX6.out; subst e6; have q6 := blk_cell hX6.bb 0; have HX6 := zA hX6; clear hX6 hF6)
 go_ret
 exact ⟨_, rfl, Kd.R_mono HX6.out.out (fun _ _ => trivial), HX6.out.below⟩
theorem exW_mono (k : Nat) (e : List S72) : ∀ (d : Nat) (i : Int) (s : List S72 × List Int), LeO (exW k e d i s) (exW (k + 1) e (d + 1) i s)
 | 0, _, _ => LeO.none _
 | d + 1, i, s => by
   unfold exW
   exact LeO.ite (LeO.ite (LeO.refl _) (LeO.bind (spec_exParts.mono _ _ _ _ _) (fun ps => LeO.ite (LeO.bind (LeO.ite (exW_mono k e d _ _) (LeO.refl _)) (fun r1 => LeO.bind (LeO.ite (exW_mono k e d _ _) (LeO.refl _)) (fun r2 => LeO.refl _))) (LeO.refl _)))) (LeO.refl _)
theorem spec_exShare.mono : ∀ a0 k, LeO (spec_exShare.f k a0) (spec_exShare.f (k + 1) a0) := by
 intro a0 k
 unfold spec_exShare.f
 exact LeO.ite (LeO.bind (exW_mono _ _ _ _ _) (fun _ => LeO.refl _)) (LeO.refl _)
end Go.Proofs.Ytkfkbmlbpeojaaa.Q
end
section
namespace Go.Proofs.Ytkfkbmlbpeojaaa.Q
open Go.RowKit Go.Proofs.YtkfkbmlbpeojaaaW.PrintWords Go.Proofs.YtkfkbmlbpeojaaaW.PrintLast Go.Proofs.YtkfkbmlbpeojaaaW.PrintMore
set_option maxHeartbeats 8000000
set_option maxRecDepth 100000
attribute [local go_sem] max2_int min2_int max_two min_two max_three min_three max_four min_four
set_option linter.unusedVariables false
set_option linter.unusedSimpArgs false
def spec_vaRank.l0 : Nat → ByteArray → List ByteArray → Int → Option (Int)
 | 0, _, _, _ => none
 | k + 1, x0, x3, x4 => if 0 ≤ x4 then (if x4 < (x3.length : Int) then (if (rdOf ByteArray.empty x3 x4).toList = x0.toList then (some x4) else (spec_vaRank.l0 k x0 x3 (wrap64 (x4 + 1)))) else (none)) else (none)
def spec_vaRank.f (k : Nat) (a0 : ByteArray) : Option (Int) := spec_vaRank.l0 k a0 (([(⟨#[105, 110]⟩ : ByteArray), (⟨#[99, 111, 110, 115, 116]⟩ : ByteArray), (⟨#[110, 111, 116]⟩ : ByteArray), (⟨#[110, 101, 103]⟩ : ByteArray), (⟨#[97, 100, 100]⟩ : ByteArray), (⟨#[115, 117, 98]⟩ : ByteArray), (⟨#[109, 117, 108]⟩ : ByteArray), (⟨#[97, 110, 100]⟩ : ByteArray), (⟨#[111, 114]⟩ : ByteArray), (⟨#[120, 111, 114]⟩ : ByteArray), (⟨#[115, 104, 108]⟩ : ByteArray), (⟨#[115, 104, 114]⟩ : ByteArray), (⟨#[108, 101, 115, 115]⟩ : ByteArray), (⟨#[101, 113]⟩ : ByteArray)] : List ByteArray)) 0
theorem spec_vaRank.mono_l : ∀ k, (∀ y0 y1 y2, LeO (spec_vaRank.l0 k y0 y1 y2) (spec_vaRank.l0 (k + 1) y0 y1 y2))
 | 0 => fun _ _ _ r h => by simp [spec_vaRank.l0] at h
 | k + 1 => by
   have ih0 := spec_vaRank.mono_l k
   · intro y0 y1 y2
     unfold spec_vaRank.l0
     exact zm1 ih0
theorem spec_vaRank.mono : ∀ a0 k, LeO (spec_vaRank.f k a0) (spec_vaRank.f (k + 1) a0) := by
 intro a0 k
 have ih0 := spec_vaRank.mono_l k
 unfold spec_vaRank.f
 exact zm1 ih0
theorem spec_vaRank.calls (k : Nat) (a0 : ByteArray) (r : Int) (w : World) (h : spec_vaRank.f k a0 = some r) :
   Calls Try.prog 145 #[.string a0] w fun e w' => e = .returned (.int .i64 r) ∧ Below w.heap.size w w' := by
 have HB := zA (Below.refl w.heap.size w)
 have H : (spec_vaRank.l0 k a0 (([(⟨#[105, 110]⟩ : ByteArray), (⟨#[99, 111, 110, 115, 116]⟩ : ByteArray), (⟨#[110, 111, 116]⟩ : ByteArray), (⟨#[110, 101, 103]⟩ : ByteArray), (⟨#[97, 100, 100]⟩ : ByteArray), (⟨#[115, 117, 98]⟩ : ByteArray), (⟨#[109, 117, 108]⟩ : ByteArray), (⟨#[97, 110, 100]⟩ : ByteArray), (⟨#[111, 114]⟩ : ByteArray), (⟨#[120, 111, 114]⟩ : ByteArray), (⟨#[115, 104, 108]⟩ : ByteArray), (⟨#[115, 104, 114]⟩ : ByteArray), (⟨#[108, 101, 115, 115]⟩ : ByteArray), (⟨#[101, 113]⟩ : ByteArray)] : List ByteArray)) 0) = some r := h
 clear h
 obtain ⟨y101, hy101⟩ : ∃ y_ : List ByteArray, y_ = (([(⟨#[105, 110]⟩ : ByteArray), (⟨#[99, 111, 110, 115, 116]⟩ : ByteArray), (⟨#[110, 111, 116]⟩ : ByteArray), (⟨#[110, 101, 103]⟩ : ByteArray), (⟨#[97, 100, 100]⟩ : ByteArray), (⟨#[115, 117, 98]⟩ : ByteArray), (⟨#[109, 117, 108]⟩ : ByteArray), (⟨#[97, 110, 100]⟩ : ByteArray), (⟨#[111, 114]⟩ : ByteArray), (⟨#[120, 111, 114]⟩ : ByteArray), (⟨#[115, 104, 108]⟩ : ByteArray), (⟨#[115, 104, 114]⟩ : ByteArray), (⟨#[108, 101, 115, 115]⟩ : ByteArray), (⟨#[101, 113]⟩ : ByteArray)] : List ByteArray)) := ⟨_, rfl⟩
 replace H : (spec_vaRank.l0 k a0 y101 0) = some r := by first | (rw [hy101]; with_reducible exact H) | (have H2_ := (Option.bind_some _ _).symm.trans H; rw [hy101]; with_reducible exact H2_) | (have H2_ := (Option.bind_some _ _).symm.trans H; with_reducible exact H2_) | with_reducible exact H | (rw [hy101]; exact H) | exact H
 have Ny101 := zA hy101
 clear hy101
 have H' := zA H
 clear H
 go_enter Try.func145, Try.ntmps145
 go_wp2_with (first | ((with_reducible refine zgd 5 ?_); refine Kd.R_lit Kd.string _ 9 ?hg (N := 5) ?hd (xs := ([(⟨#[105, 110]⟩ : ByteArray), (⟨#[99, 111, 110, 115, 116]⟩ : ByteArray), (⟨#[110, 111, 116]⟩ : ByteArray), (⟨#[110, 101, 103]⟩ : ByteArray), (⟨#[97, 100, 100]⟩ : ByteArray), (⟨#[115, 117, 98]⟩ : ByteArray), (⟨#[109, 117, 108]⟩ : ByteArray), (⟨#[97, 110, 100]⟩ : ByteArray), (⟨#[111, 114]⟩ : ByteArray), (⟨#[120, 111, 114]⟩ : ByteArray), (⟨#[115, 104, 108]⟩ : ByteArray), (⟨#[115, 104, 114]⟩ : ByteArray), (⟨#[108, 101, 115, 115]⟩ : ByteArray), (⟨#[101, 113]⟩ : ByteArray)] : List ByteArray)) (inner := [.string (⟨#[105, 110]⟩ : ByteArray), .string (⟨#[99, 111, 110, 115, 116]⟩ : ByteArray), .string (⟨#[110, 111, 116]⟩ : ByteArray), .string (⟨#[110, 101, 103]⟩ : ByteArray), .string (⟨#[97, 100, 100]⟩ : ByteArray), .string (⟨#[115, 117, 98]⟩ : ByteArray), .string (⟨#[109, 117, 108]⟩ : ByteArray), .string (⟨#[97, 110, 100]⟩ : ByteArray), .string (⟨#[111, 114]⟩ : ByteArray), .string (⟨#[120, 111, 114]⟩ : ByteArray), .string (⟨#[115, 104, 108]⟩ : ByteArray), .string (⟨#[115, 104, 114]⟩ : ByteArray), .string (⟨#[108, 101, 115, 115]⟩ : ByteArray), .string (⟨#[101, 113]⟩ : ByteArray)]) (ok := fun _ => True) (okp := fun _ => True) ?hr ?hp (fun _ hk => hk) trivial (Below.refl _ _) (zlr _) (by simp) ?_; (case hd => rfl); (case hg => rfl); (case hr => go_simp <;> rfl); (case hp => exact (Reps.one (show Kd.M Kd.string _ _ _ (⟨#[105, 110]⟩ : ByteArray) [.string (⟨#[105, 110]⟩ : ByteArray)] from rfl) (Reps.one (show Kd.M Kd.string _ _ _ (⟨#[99, 111, 110, 115, 116]⟩ : ByteArray) [.string (⟨#[99, 111, 110, 115, 116]⟩ : ByteArray)] from rfl) (Reps.one (show Kd.M Kd.string _ _ _ (⟨#[110, 111, 116]⟩ : ByteArray) [.string (⟨#[110, 111, 116]⟩ : ByteArray)] from rfl) (Reps.one (show Kd.M Kd.string _ _ _ (⟨#[110, 101, 103]⟩ : ByteArray) [.string (⟨#[110, 101, 103]⟩ : ByteArray)] from rfl) (Reps.one (show Kd.M Kd.string _ _ _ (⟨#[97, 100, 100]⟩ : ByteArray) [.string (⟨#[97, 100, 100]⟩ : ByteArray)] from rfl) (Reps.one (show Kd.M Kd.string _ _ _ (⟨#[115, 117, 98]⟩ : ByteArray) [.string (⟨#[115, 117, 98]⟩ : ByteArray)] from rfl) (Reps.one (show Kd.M Kd.string _ _ _ (⟨#[109, 117, 108]⟩ : ByteArray) [.string (⟨#[109, 117, 108]⟩ : ByteArray)] from rfl) (Reps.one (show Kd.M Kd.string _ _ _ (⟨#[97, 110, 100]⟩ : ByteArray) [.string (⟨#[97, 110, 100]⟩ : ByteArray)] from rfl) (Reps.one (show Kd.M Kd.string _ _ _ (⟨#[111, 114]⟩ : ByteArray) [.string (⟨#[111, 114]⟩ : ByteArray)] from rfl) (Reps.one (show Kd.M Kd.string _ _ _ (⟨#[120, 111, 114]⟩ : ByteArray) [.string (⟨#[120, 111, 114]⟩ : ByteArray)] from rfl) (Reps.one (show Kd.M Kd.string _ _ _ (⟨#[115, 104, 108]⟩ : ByteArray) [.string (⟨#[115, 104, 108]⟩ : ByteArray)] from rfl) (Reps.one (show Kd.M Kd.string _ _ _ (⟨#[115, 104, 114]⟩ : ByteArray) [.string (⟨#[115, 104, 114]⟩ : ByteArray)] from rfl) (Reps.one (show Kd.M Kd.string _ _ _ (⟨#[108, 101, 115, 115]⟩ : ByteArray) [.string (⟨#[108, 101, 115, 115]⟩ : ByteArray)] from rfl) (Reps.one (show Kd.M Kd.string _ _ _ (⟨#[101, 113]⟩ : ByteArray) [.string (⟨#[101, 113]⟩ : ByteArray)] from rfl) (Reps.none _ _)))))))))))))))); intro v102 w2 ho3 hb hg_ hnew_; clear hg_ hnew_; (first | rw [← Ny101.out] at ho3 | (simp only [Int.reduceToNat] at ho3; rw [← Ny101.out] at ho3)); have HO103 := zA (Kd.R_lower ho3 (below_size zq1)); replace HB := zA (below_step zq1 hb); clear hb ho3))
 go_loopg [4] k (fun kq v4 w' => ∃ (x4_1 : Int), v4 = .int .i64 x4_1 ∧ Aside0 (spec_vaRank.l0 kq a0 y101 x4_1 = some r) ∧ Aside0 (kq ≤ k) ∧ Aside0 (Kd.R Kd.string 9 w' w.heap.size (fun _ => True) v102 y101) ∧ Aside0 (Below w.heap.size w w'))
 case atStart => exact ⟨(0), zq5, H', ⟨zlr _⟩, ⟨zq2 HO103⟩, ⟨zq1⟩⟩
 clear H'
 obtain ⟨x4_1, rfl, HA, HK1, HO_3, HB⟩ := hrel
 cases gk with
 | zero => exact absurd HA.out (by simp [spec_vaRank.l0])
 | succ k1 =>
 have H := HA.out
 clear HA
 simp only [spec_vaRank.l0] at H
 revert H
 refine zin fun c4 H => ?_
 revert H
 refine zin fun c5 H => ?_
 by_cases c6 : (rdOf ByteArray.empty y101 x4_1).toList = a0.toList
 · rw [if_pos c6] at H
   obtain ⟨c6b0, c6b1⟩ := zbe c6
   clear c6
   obtain rfl := zsi H
   obtain ⟨Ao7, co7, eo7⟩ := Kd.R_slice HO_3.out
   subst eo7
   obtain ⟨p104, q104⟩ := zpq x4_1 y101.length
   obtain ⟨ad104, e104, hx104_0⟩ := Kd.at_string (zRr HO_3.out).2.2 x4_1 (zoe p104) (zoe q104)
   cases e104
   go_wp2
   exact zr_3
 rw [if_neg c6] at H
 obtain ⟨c6b0, c6b1⟩ := zbq c6
 have H' := zA H
 clear H
 obtain ⟨Ao8, co8, eo8⟩ := Kd.R_slice HO_3.out
 subst eo8
 obtain ⟨p104, q104⟩ := zpq x4_1 y101.length
 obtain ⟨ad104, e104, hx104_0⟩ := Kd.at_string (zRr HO_3.out).2.2 x4_1 (zoe p104) (zoe q104)
 cases e104
 go_wp2
 go_roundg k1
 case measure => have := HK1.out; omega
 case rel => exact ⟨(wrap64 (x4_1 + 1)), zq5, H', ⟨zq39 HK1⟩, ⟨zq2 HO_3⟩, ⟨zq1⟩⟩
def scL (g : Int → Int → Option Int) : List Int → List Int → Option Int
 | [], _ => some 0
 | _ :: _, [] => none
 | x :: xs, y :: ys => (g x y).bind fun c => if c = 0 then scL g xs ys else some c
def scW (k : Nat) (e : List S72) : Nat → Int → Int → Option Int
 | 0, _, _ => none
 | d + 1, i, j => if i = j then some 0 else if (0 ≤ i ∧ i < (e.length : Int)) ∧ 0 ≤ j ∧ j < (e.length : Int) then if (rd_T72 e i).f0.toList = (rd_T72 e j).f0.toList then (if (rd_T72 e i).f3 = (rd_T72 e j).f3 then (spec_exParts.f k (rd_T72 e j).f0 (rd_T72 e j).f1 (rd_T72 e j).f2 (rd_T72 e j).f3).bind fun kb => (spec_exParts.f k (rd_T72 e i).f0 (rd_T72 e i).f1 (rd_T72 e i).f2 (rd_T72 e i).f3).bind fun ka => if ka.length < 1048576 then scL (scW k e d) ka kb else none else some (wrap64 ((rd_T72 e i).f3 - (rd_T72 e j).f3))) else (spec_vaRank.f k (rd_T72 e i).f0).bind fun ra => (spec_vaRank.f k (rd_T72 e j).f0).bind fun rb => some (wrap64 (ra - rb)) else none
def spec_vaCmp.f (k : Nat) (l0 : List S72) (a1 : Int) (a2 : Int) : Option Int := scW k l0 k a1 a2
theorem scL_leo (g g' : Int → Int → Option Int) (h : ∀ x y, LeO (g x y) (g' x y)) : ∀ xs ys, LeO (scL g xs ys) (scL g' xs ys)
 | [], _ => LeO.refl _
 | _ :: _, [] => LeO.none _
 | x :: xs, y :: ys => LeO.bind (h x y) (fun _ => LeO.ite (scL_leo g g' h xs ys) (LeO.refl _))
theorem scW_mono (k : Nat) (e : List S72) : ∀ (d : Nat) (i j : Int), LeO (scW k e d i j) (scW (k + 1) e (d + 1) i j)
 | 0, _, _ => LeO.none _
 | d + 1, i, j => by
   unfold scW
   exact LeO.ite (LeO.refl _) (LeO.ite (LeO.ite (LeO.ite (LeO.bind (spec_exParts.mono _ _ _ _ _) (fun _ => LeO.bind (spec_exParts.mono _ _ _ _ _) (fun _ => LeO.ite (scL_leo _ _ (scW_mono k e d) _ _) (LeO.refl _)))) (LeO.refl _)) (LeO.bind (spec_vaRank.mono _ _) (fun _ => LeO.bind (spec_vaRank.mono _ _) (fun _ => LeO.refl _)))) (LeO.refl _))
theorem scW_deep (k : Nat) (e : List S72) : ∀ (d : Nat) (i j : Int), LeO (scW k e d i j) (scW k e (d + 1) i j)
 | 0, _, _ => LeO.none _
 | d + 1, i, j => by
   unfold scW
   exact LeO.ite (LeO.refl _) (LeO.ite (LeO.ite (LeO.ite (LeO.bind (LeO.refl _) (fun _ => LeO.bind (LeO.refl _) (fun _ => LeO.ite (scL_leo _ _ (scW_deep k e d) _ _) (LeO.refl _)))) (LeO.refl _)) (LeO.bind (LeO.refl _) (fun _ => LeO.bind (LeO.refl _) (fun _ => LeO.refl _)))) (LeO.refl _))
theorem spec_vaCmp.mono : ∀ a0 a1 a2 k, LeO (spec_vaCmp.f k a0 a1 a2) (spec_vaCmp.f (k + 1) a0 a1 a2) := fun a0 a1 a2 k => scW_mono k a0 k a1 a2
theorem scWalk (k : Nat) {A0 : Option Addr} {c0 : Nat} {e : List S72} {w : World} (hC : Kd.C k72 w A0 e.length e) (hc0 : e.length ≤ c0) : ∀ (d : Nat) (i j r : Int) (W : World), Below w.heap.size w W → scW k e d i j = some r →
   Calls Try.prog 97 #[.slice A0 e.length c0, .int .i64 i, .int .i64 j] W fun y W' => y = .returned (.int .i64 r) ∧ Below W.heap.size W W' := by
 have HC := zA hC
 clear hC
 intro d
 induction d with
 | zero => intro i j r W hB h; cases h
 | succ d ih =>
 intro i j r W hB h
 have HIH := zA ih
 have HB := zA hB
 clear ih hB
 unfold scW at h
 by_cases hij : i = j
 · rw [if_pos hij] at h
   obtain rfl := zsi h
   subst hij
   clear h
   go_enter Try.func97, Try.ntmps97
   go_wp2_with fail
   go_ret
   exact ⟨rfl, Below.refl _ _⟩
 rw [if_neg hij] at h
 by_cases hin : (0 ≤ i ∧ i < (e.length : Int)) ∧ 0 ≤ j ∧ j < (e.length : Int)
 rotate_left
 · rw [if_neg hin] at h
   cases h
 rw [if_pos hin] at h
 obtain ⟨⟨i0, i1⟩, j0, j1⟩ := hin
 have dij : decide (i = j) = false := zdf hij
 have dij' : (i == j) = false := by simpa using hij
 obtain ⟨ad, eA, x0, x1, x2, x3⟩ := at_T72 (zCb HC.out HB.out) i i0 i1
 subst eA
 obtain ⟨x, hx⟩ : ∃ x, x = rd_T72 e i := ⟨_, rfl⟩
 obtain ⟨y, hy⟩ : ∃ y, y = rd_T72 e j := ⟨_, rfl⟩
 have HX := zA hx
 have HY := zA hy
 rw [← hx, ← hy] at h
 have HH := zA h
 clear hx hy h x0 x1 x2 x3
 go_enter Try.func97, Try.ntmps97
 go_wp2_with fail
 clear hij dij dij'
 refine ri_mix [[], [], [0, 1], [0, 1, 2], [], [], [4, 5], [4, 5, 6], [], [], [0, 1, 2, 3, 8, 9], [0, 1, 2, 3, 4, 5, 6, 7, 8, 9, 10]] [[2, 3, 10, 11], [2, 3, 10, 11], [3, 10, 11], [10, 11], [6, 7, 11], [6, 7, 11], [7, 11], [11], [10, 11], [10, 11], [11], []] (riMem [8, 9])
   (riNth [.slice (some ad) e.length c0, .int .i64 i, .pointer (some (ad.add (i.toNat * 4))), .agg #[.string x.f0, .int .i64 x.f1, .int .i64 x.f2, .int .i64 x.f3], .slice (some ad) e.length c0, .int .i64 j, .pointer (some (ad.add (j.toNat * 4))), .agg #[.string y.f0, .int .i64 y.f1, .int .i64 y.f2, .int .i64 y.f3], undef, undef, undef, undef])
   (fun L s V => Below W.heap.size W V ∧ (L 8 = true → ∃ g cs, s 8 = .pointer (some ⟨g, 0, none⟩) ∧ W.heap.size ≤ g ∧ V.heap[g]? = some (.cells cs 72 (0, 0)) ∧ cs.size = 4 ∧ (L 10 = true → cs = #[.string x.f0, .int .i64 x.f1, .int .i64 x.f2, .int .i64 x.f3]) ∧ (L 9 = true → s 9 ≠ s 8)) ∧ (L 9 = true → ∃ g cs, s 9 = .pointer (some ⟨g, 0, none⟩) ∧ W.heap.size ≤ g ∧ V.heap[g]? = some (.cells cs 72 (0, 0)) ∧ cs.size = 4 ∧ (L 11 = true → cs = #[.string y.f0, .int .i64 y.f1, .int .i64 y.f2, .int .i64 y.f3])))
   rfl (fun _ _ _ _ _ h => h) zq32 ⟨below_drew (Below.refl _ _), fun h => Bool.noConfusion h, fun h => Bool.noConfusion h⟩ ⟨?_, ?_, ?_, ?_, ?_, ?_, ?_, ?_, ?_, ?_, ?_, ?_, trivial⟩ ?_
 iterate 3
   · refine fun L s V hu hd hn hJ => rm_val (by rfl) ⟨fun _ => rfl, hJ⟩ ?_
     refine zsm ?_
     exact zg0
 · refine fun L s V hu hd hn hJ => rm_val (by rfl) ⟨fun _ => rfl, hJ⟩ ?_
   obtain ⟨ad', ea, z0, z1, z2, z3⟩ := at_T72 (zCb HC.out (below_step HB.out hJ.1)) i i0 i1
   cases ea
   rw [← HX.out] at z0 z1 z2 z3
   clear hJ
   refine zsm ?_
   exact zg0
 iterate 3
   · refine fun L s V hu hd hn hJ => rm_val (by rfl) ⟨fun _ => rfl, hJ⟩ ?_
     refine zsm ?_
     exact zg0
 · refine fun L s V hu hd hn hJ => rm_val (by rfl) ⟨fun _ => rfl, hJ⟩ ?_
   obtain ⟨ad', ea, z0, z1, z2, z3⟩ := at_T72 (zCb HC.out (below_step HB.out hJ.1)) j j0 j1
   cases ea
   rw [← HY.out] at z0 z1 z2 z3
   clear hJ
   refine zsm ?_
   exact zg0
 · rintro L s V hu hd hn ⟨hb, g8, g9⟩
   refine rm_val (v := .pointer (some ⟨V.heap.size, 0, none⟩)) (w1 := V.alloc (.cells #[.string ⟨#[]⟩, .int .i64 0, .int .i64 0, .int .i64 0] 72)) (by rfl) ⟨fun h => absurd h (by decide), zba hb _, fun _ => ⟨_, _, rfl, hb.size, blk_new V _, rfl, fun h => absurd (h.symm.trans hn.1) (by simp), fun h e => ?_⟩, fun h => ?_⟩ ?_
   · obtain ⟨g, cs, a1, a2, a3, _⟩ := g9 h
     have := blk_lt a3
     rw [show riUp s 8 (.pointer (some ⟨V.heap.size, 0, none⟩)) 9 = s 9 from rfl, a1] at e
     have e2 : g = V.heap.size := by first | (simp [riUp] at e; done) | (simp [riUp] at e; exact e)
     omega
   · obtain ⟨g, cs, a1, a2, a3, a4, a5⟩ := g9 h
     exact ⟨g, cs, a1, a2, zka a3 _, a4, a5⟩
   · simp only [riFill, riGo, riCell, riFind, riMem, riNth, mixV, Nat.reduceBEq, Nat.reduceAdd, List.headD, List.tail, List.getD, List.getElem?_cons_zero, List.getElem?_cons_succ, Option.getD_some, cond_true, cond_false]
     exact zg0
 · rintro L s V hu hd hn ⟨hb, g8, g9⟩
   refine rm_val (v := .pointer (some ⟨V.heap.size, 0, none⟩)) (w1 := V.alloc (.cells #[.string ⟨#[]⟩, .int .i64 0, .int .i64 0, .int .i64 0] 72)) (by rfl) ⟨fun h => absurd h (by decide), zba hb _, fun h => ?_, fun _ => ⟨_, _, rfl, hb.size, blk_new V _, rfl, fun h => absurd (h.symm.trans hn.2) (by simp)⟩⟩ ?_
   · obtain ⟨g, cs, a1, a2, a3, a4, a5, _⟩ := g8 h
     refine ⟨g, cs, a1, a2, zka a3 _, a4, a5, fun _ e => ?_⟩
     have := blk_lt a3
     rw [show riUp s 9 (.pointer (some ⟨V.heap.size, 0, none⟩)) 8 = s 8 from rfl, a1] at e
     have e2 : V.heap.size = g := by first | (simp [riUp] at e; done) | (simp [riUp] at e; exact e)
     omega
   refine zsm ?_
   exact zg0
 · rintro L s V hu hd hn ⟨hb, g8, g9⟩
   obtain ⟨g, cs, a1, a2, a3, a4, a5, a6⟩ := g8 (RiAll_at _ hd 8 (by decide))
   obtain ⟨g', cs', b1, b2, b3, b4, b5⟩ := g9 (RiAll_at _ hd 9 (by decide))
   have hne : g' ≠ g := fun e => a6 (RiAll_at _ hd 9 (by decide)) (by rw [a1, b1, e])
   refine rm_fill (by rfl) rfl rfl (g := g) (u := .agg #[.string x.f0, .int .i64 x.f1, .int .i64 x.f2, .int .i64 x.f3]) (seg := [.string x.f0, .int .i64 x.f1, .int .i64 x.f2, .int .i64 x.f3]) (by exact a1) (by rfl) a3 rfl rfl a4 zq43 (fun V1 c1 c2 c3 => ⟨fun _ => rfl, hb.trans (c2 _ a2), fun _ => ⟨g, _, a1, a2, c1, rfl, fun _ => rfl, a6⟩, fun _ => ⟨g', cs', b1, b2, (c3 g' hne).trans b3, b4, b5⟩⟩)
 · rintro L s V hu hd hn ⟨hb, g8, g9⟩
   obtain ⟨g, cs, a1, a2, a3, a4, a5, a6⟩ := g8 (RiAll_at _ hd 8 (by decide))
   obtain ⟨g', cs', b1, b2, b3, b4, b5⟩ := g9 (RiAll_at _ hd 9 (by decide))
   have hne : g ≠ g' := fun e => a6 (RiAll_at _ hd 9 (by decide)) (by rw [a1, b1, e])
   refine rm_fill (by rfl) rfl rfl (g := g') (u := .agg #[.string y.f0, .int .i64 y.f1, .int .i64 y.f2, .int .i64 y.f3]) (seg := [.string y.f0, .int .i64 y.f1, .int .i64 y.f2, .int .i64 y.f3]) (by exact b1) (by rfl) b3 rfl rfl b4 zq43 (fun V1 c1 c2 c3 => ⟨fun _ => rfl, hb.trans (c2 _ b2), fun _ => ⟨g, cs, a1, a2, (c3 g hne).trans a3, a4, a5, a6⟩, fun _ => ⟨g', _, b1, b2, c1, rfl, fun _ => rfl⟩⟩)
 · rintro L s V hL ⟨hb, g8, g9⟩
   obtain ⟨g, cs, a1, a2, a3, a4, a5, a6⟩ := g8 (hL 8 rfl)
   obtain ⟨g', cs', b1, b2, b3, b4, b5⟩ := g9 (hL 9 rfl)
   obtain rfl := a5 (hL 10 rfl)
   obtain rfl := b5 (hL 11 rfl)
   have HB3 := zA (below_step HB.out hb)
   have HW3 := zA hb
   have BX := zA a3
   have BY := zA b3
   clear a2 a3 a4 a5 a6 b2 b3 b4 b5 g8 g9 hb hL
   refine zsm ?_
   rw [a1, b1]
   clear a1 b1
   have x0 := blk_cell BX.out 0
   have x3 := blk_cell BX.out 3
   have y0 := blk_cell BY.out 0
   have y3 := blk_cell BY.out 3
   by_cases ho : x.f0.toList = y.f0.toList
   rotate_left
   · have h := HH.out
     rw [if_neg ho] at h
     obtain ⟨ra, hra, h⟩ := Option.bind_eq_some_iff.1 h
     obtain ⟨rb, hrb, h⟩ := Option.bind_eq_some_iff.1 h
     have HRA := zA hra
     have HRB := zA hrb
     obtain rfl := zsi h
     have b0 : (x.f0.toList == y.f0.toList) = false := by simpa using ho
     clear h HH hra hrb ho x3 y3
     go_wp2_with fail
     clear b0 x0 y0
     refine ri_mix [[], [0], [0, 1], [], [3], [0, 1, 2, 3, 4], [0, 1, 2, 3, 4, 5], [0, 1, 2, 3, 4, 5, 6]] [] (riMem []) (riNth [.pointer (some ⟨g, 0, none⟩), .string x.f0, .int .i64 ra, .pointer (some ⟨g', 0, none⟩), .string y.f0, .int .i64 rb, .int .i64 (wrap64 (ra - rb)), .int .i64 (wrap64 (ra - rb))]) (fun L s U => Below V.heap.size V U)
       rfl (fun _ _ _ _ _ h => h) zq32 (below_drew (Below.refl _ _)) ⟨?_, ?_, ?_, ?_, ?_, ?_, ?_, ?_, trivial⟩ ?_
     · refine fun L s U hu hd hn hJ => rm_val (by rfl) ⟨fun _ => rfl, hJ⟩ ?_
       refine zsm ?_
       first | (go_simp; done) | (go_simp; rfl) | (go_simp; exact i64_w _)
     · refine fun L s U hu hd hn hJ => rm_val (by rfl) ⟨fun _ => rfl, hJ⟩ ?_
       have q := blk_cell (blk_below BX.out hJ) 0
       refine zsm ?_
       first | (go_simp; done) | (go_simp; rfl) | (go_simp; exact i64_w _)
     · intro L s U hu hd hn hJ
       exact rm_call Try.func145 zq32 rfl #[.string x.f0] (by rfl) rfl zq42 ((spec_vaRank.calls k x.f0 ra U HRA.out).mono (by rintro e U' ⟨rfl, hb⟩; exact ⟨_, rfl, fun _ => rfl, below_step hJ hb⟩))
     · refine fun L s U hu hd hn hJ => rm_val (by rfl) ⟨fun _ => rfl, hJ⟩ ?_
       refine zsm ?_
       first | (go_simp; done) | (go_simp; rfl) | (go_simp; exact i64_w _)
     · refine fun L s U hu hd hn hJ => rm_val (by rfl) ⟨fun _ => rfl, hJ⟩ ?_
       have q := blk_cell (blk_below BY.out hJ) 0
       refine zsm ?_
       first | (go_simp; done) | (go_simp; rfl) | (go_simp; exact i64_w _)
     · intro L s U hu hd hn hJ
       exact rm_call Try.func145 zq32 rfl #[.string y.f0] (by rfl) rfl zq42 ((spec_vaRank.calls k y.f0 rb U HRB.out).mono (by rintro e U' ⟨rfl, hb⟩; exact ⟨_, rfl, fun _ => rfl, below_step hJ hb⟩))
     · refine fun L s U hu hd hn hJ => rm_val (by rfl) ⟨fun _ => rfl, hJ⟩ ?_
       refine zsm ?_
       first | (go_simp; done) | (go_simp; rfl) | (go_simp; exact i64_w _)
     · refine fun L s U hu hd hn hJ => rm_val (by rfl) ⟨fun _ => rfl, hJ⟩ ?_
       refine zsm ?_
       first | (go_simp; done) | (go_simp; rfl) | (go_simp; exact i64_w _)
     · intro L s U hL hJ
       have HW4 := zA (below_step HW3.out hJ)
       clear hL hJ
       refine zsm ?_
       go_wp2_with fail
       go_ret
       exact ⟨rfl, HW4.out⟩
   have b0 : (x.f0.toList == y.f0.toList) = true := beq_iff_eq.2 ho
   have h := HH.out
   rw [if_pos ho] at h
   clear HH ho
   by_cases hv : x.f3 = y.f3
   rotate_left
   · rw [if_neg hv] at h
     obtain rfl := zsi h
     clear h
     go_wp2_with fail
     go_ret
     exact ⟨rfl, HW3.out⟩
   rw [if_pos hv] at h
   obtain ⟨kb, hkb, h⟩ := Option.bind_eq_some_iff.1 h
   obtain ⟨ka, hka, h⟩ := Option.bind_eq_some_iff.1 h
   by_cases hkl : ka.length < 1048576
   rotate_left
   · rw [if_neg hkl] at h
     cases h
   rw [if_pos hkl] at h
   have HKA := zA hka
   have HKB := zA hkb
   have HLP := zA h
   have HV3 := zA hv
   have bv : (x.f3 == y.f3) = true := by simpa using hv
   clear hka hkb h
   have y1 := blk_cell BY.out 1
   have y2 := blk_cell BY.out 2
   go_upto_region 9 with (go_at_call 143; go_must (refine (spec_exParts.calls k y.f0 y.f1 y.f2 y.f3 kb _ HKB.out).mono ?_; rintro e U0 ⟨v, rfl, ho, hb⟩; obtain ⟨Ab, cb, rfl⟩ := Kd.R_slice ho; have HKb := zA (zRr ho).2.2; have HB4 := zA (below_step HB3.out hb); have HW4 := zA (below_step HW3.out hb); have BX4 := zA (blk_below BX.out hb); clear hb ho y1 y2 x0 x3 y0 y3))
   clear hv b0 bv
   have x0 := blk_cell BX4.out 0
   have x1 := blk_cell BX4.out 1
   have x2 := blk_cell BX4.out 2
   have x3 := blk_cell BX4.out 3
   go_wp2_with (go_at_call 143; go_must (refine (spec_exParts.calls k x.f0 x.f1 x.f2 x.f3 ka _ HKA.out).mono ?_; rintro e U1 ⟨v, rfl, ho, hb⟩; obtain ⟨Ak, ck, rfl⟩ := Kd.R_slice ho; have HK := zA (zRr ho).2.2; have HB5 := zA (below_step HB4.out hb); have HW5 := zA (below_step HW4.out hb); have HKb5 := zA (zCb HKb.out hb); clear hb ho x0 x1 x2 x3))
   go_loopw [51] (fun v51 wr => ∃ u : Nat, v51 = .int .i64 (u : Int) ∧ u ≤ ka.length ∧ Aside0 (Below U1.heap.size U1 wr) ∧ Aside0 (scL (scW k e d) (ka.drop u) (kb.drop u) = some r)) (fun v51 _ => ka.length - (intOf v51).toNat)
   case atStart => exact ⟨0, rfl, Nat.zero_le _, ⟨Below.refl _ _⟩, ⟨by rw [List.drop_zero, List.drop_zero]; exact HLP.out⟩⟩
   clear HLP
   obtain ⟨u, rfl, hu, HBr, HS⟩ := hrel
   by_cases hlt : u < ka.length
   rotate_left
   · obtain rfl : u = ka.length := by omega
     have d1 : decide ((ka.length : Int) < ka.length) = false := zdf (by omega)
     have hs := HS.out
     rw [List.drop_length] at hs
     obtain rfl := zsi hs
     clear hs HS
     go_wp2_with fail
     go_ret
     exact ⟨rfl, HW5.out.trans (HBr.out.mono HW5.out.size)⟩
   have d1 : decide ((u : Int) < ka.length) = true := zdt (by omega)
   have d2 : (0 : Int) ≤ (u : Int) := by omega
   have d3 : (u : Int) < ka.length := by omega
   have hs := HS.out
   rw [List.drop_eq_getElem_cons hlt] at hs
   by_cases hltb : u < kb.length
   rotate_left
   · rw [List.drop_of_length_le (by omega : kb.length ≤ u)] at hs
     cases hs
   rw [List.drop_eq_getElem_cons hltb] at hs
   have d4 : (u : Int) < kb.length := by omega
   unfold scL at hs
   obtain ⟨c', hc', hs⟩ := Option.bind_eq_some_iff.1 hs
   have hva : rd ka (u : Int) = ka[u] := by
     unfold rd
     rw [Int.toNat_natCast, List.getD_eq_getElem?_getD, List.getElem?_eq_getElem hlt]
     rfl
   have hvb : rd kb (u : Int) = kb[u] := by
     unfold rd
     rw [Int.toNat_natCast, List.getD_eq_getElem?_getD, List.getElem?_eq_getElem hltb]
     rfl
   rw [← hva, ← hvb] at hc'
   have HREC := zA hc'
   have HLT := zA hlt
   have HS2 := zA hs
   obtain ⟨adk, ek, hck⟩ := Kd.at_int (zCb HK.out HBr.out) (u : Int) d2 d3
   rw [Int.toNat_natCast] at hck
   subst ek
   obtain ⟨adb, eb, hcb⟩ := Kd.at_int (zCb HKb5.out HBr.out) (u : Int) d2 d4
   rw [Int.toNat_natCast] at hcb
   subst eb
   clear hs hc' hva hvb HS
   by_cases hcz : c' = 0
   rotate_left
   · have hs := HS2.out
     rw [if_neg hcz] at hs
     obtain rfl := zsi hs
     clear hs HS2
     go_wp2_with (go_at_call 97; go_must (refine (HIH.out (rd ka (u : Int)) (rd kb (u : Int)) c' wr (HB5.out.trans (HBr.out.mono HB5.out.size)) HREC.out).mono ?_; rintro e U3 ⟨rfl, hb⟩; have HB7 := zA (below_step HBr.out hb); clear hb hcb hck))
     go_ret
     exact ⟨rfl, HW5.out.trans (HB7.out.mono HW5.out.size)⟩
   subst hcz
   have hs := HS2.out
   rw [if_pos rfl] at hs
   have HS3 := zA hs
   clear hs HS2
   go_wp2_with (go_at_call 97; go_must (refine (HIH.out (rd ka (u : Int)) (rd kb (u : Int)) 0 wr (HB5.out.trans (HBr.out.mono HB5.out.size)) HREC.out).mono ?_; rintro e U3 ⟨rfl, hb⟩; have HB7 := zA (below_step HBr.out hb); clear hb hcb hck))
   go_roundw
   case rel => exact ⟨u + 1, by go_num, HLT.out, HB7, HS3⟩
   have := HLT.out
   simp [intOf]
   omega
theorem spec_vaCmp.calls (k : Nat) (A0 : Option Addr) (c0 : Nat) (l0 : List S72) (a1 : Int) (a2 : Int) (r : Int) (w : World) (hr0 : Kd.C k72 w A0 l0.length l0) (hc0 : l0.length ≤ c0) (h : spec_vaCmp.f k l0 a1 a2 = some r) :
   Calls Try.prog 97 #[.slice A0 l0.length c0, .int .i64 a1, .int .i64 a2] w fun e w' => e = .returned (.int .i64 r) ∧ Below w.heap.size w w' := scWalk k hr0 hc0 k a1 a2 r w (Below.refl _ _) h
def spec_vaTurned.f (k : Nat) (a0 : ByteArray) : Option (Bool) := (spec_l1HasS.f k (([(⟨#[97, 100, 100]⟩ : ByteArray), (⟨#[109, 117, 108]⟩ : ByteArray), (⟨#[97, 110, 100]⟩ : ByteArray), (⟨#[111, 114]⟩ : ByteArray), (⟨#[120, 111, 114]⟩ : ByteArray), (⟨#[101, 113]⟩ : ByteArray)] : List ByteArray)) a0).bind fun t104 => (some t104)
theorem spec_vaTurned.mono : ∀ a0 k, LeO (spec_vaTurned.f k a0) (spec_vaTurned.f (k + 1) a0) := by
 intro a0 k
 unfold spec_vaTurned.f
 exact zm1 spec_l1HasS.mono
theorem spec_vaTurned.calls (k : Nat) (a0 : ByteArray) (r : Bool) (w : World) (h : spec_vaTurned.f k a0 = some r) :
   Calls Try.prog 96 #[.string a0] w fun e w' => e = .returned (.bool r) ∧ Below w.heap.size w w' := by
 have HB := zA (Below.refl w.heap.size w)
 have H : ((spec_l1HasS.f k (([(⟨#[97, 100, 100]⟩ : ByteArray), (⟨#[109, 117, 108]⟩ : ByteArray), (⟨#[97, 110, 100]⟩ : ByteArray), (⟨#[111, 114]⟩ : ByteArray), (⟨#[120, 111, 114]⟩ : ByteArray), (⟨#[101, 113]⟩ : ByteArray)] : List ByteArray)) a0).bind fun t104 => (some t104)) = some r := h
 clear h
 obtain ⟨y101, hy101⟩ : ∃ y_ : List ByteArray, y_ = (([(⟨#[97, 100, 100]⟩ : ByteArray), (⟨#[109, 117, 108]⟩ : ByteArray), (⟨#[97, 110, 100]⟩ : ByteArray), (⟨#[111, 114]⟩ : ByteArray), (⟨#[120, 111, 114]⟩ : ByteArray), (⟨#[101, 113]⟩ : ByteArray)] : List ByteArray)) := ⟨_, rfl⟩
 replace H : ((spec_l1HasS.f k y101 a0).bind fun t104 => (some t104)) = some r := by first | (rw [hy101]; with_reducible exact H) | (have H2_ := (Option.bind_some _ _).symm.trans H; rw [hy101]; with_reducible exact H2_) | (have H2_ := (Option.bind_some _ _).symm.trans H; with_reducible exact H2_) | with_reducible exact H | (rw [hy101]; exact H) | exact H
 have Ny101 := zA hy101
 clear hy101
 replace H := zob H
 obtain ⟨t104, A20, H⟩ := H
 replace H : (some t104) = some r := H
 have A2 := zA A20
 clear A20
 obtain rfl := zsi H
 go_enter Try.func96, Try.ntmps96
 go_wp2_with (first | ((with_reducible refine zgd 3 ?_); refine Kd.R_lit Kd.string _ 9 ?hg (N := 3) ?hd (xs := ([(⟨#[97, 100, 100]⟩ : ByteArray), (⟨#[109, 117, 108]⟩ : ByteArray), (⟨#[97, 110, 100]⟩ : ByteArray), (⟨#[111, 114]⟩ : ByteArray), (⟨#[120, 111, 114]⟩ : ByteArray), (⟨#[101, 113]⟩ : ByteArray)] : List ByteArray)) (inner := [.string (⟨#[97, 100, 100]⟩ : ByteArray), .string (⟨#[109, 117, 108]⟩ : ByteArray), .string (⟨#[97, 110, 100]⟩ : ByteArray), .string (⟨#[111, 114]⟩ : ByteArray), .string (⟨#[120, 111, 114]⟩ : ByteArray), .string (⟨#[101, 113]⟩ : ByteArray)]) (ok := fun _ => True) (okp := fun _ => True) ?hr ?hp (fun _ hk => hk) trivial (Below.refl _ _) (zlr _) (by simp) ?_; (case hd => rfl); (case hg => rfl); (case hr => go_simp <;> rfl); (case hp => exact (Reps.one (show Kd.M Kd.string _ _ _ (⟨#[97, 100, 100]⟩ : ByteArray) [.string (⟨#[97, 100, 100]⟩ : ByteArray)] from rfl) (Reps.one (show Kd.M Kd.string _ _ _ (⟨#[109, 117, 108]⟩ : ByteArray) [.string (⟨#[109, 117, 108]⟩ : ByteArray)] from rfl) (Reps.one (show Kd.M Kd.string _ _ _ (⟨#[97, 110, 100]⟩ : ByteArray) [.string (⟨#[97, 110, 100]⟩ : ByteArray)] from rfl) (Reps.one (show Kd.M Kd.string _ _ _ (⟨#[111, 114]⟩ : ByteArray) [.string (⟨#[111, 114]⟩ : ByteArray)] from rfl) (Reps.one (show Kd.M Kd.string _ _ _ (⟨#[120, 111, 114]⟩ : ByteArray) [.string (⟨#[120, 111, 114]⟩ : ByteArray)] from rfl) (Reps.one (show Kd.M Kd.string _ _ _ (⟨#[101, 113]⟩ : ByteArray) [.string (⟨#[101, 113]⟩ : ByteArray)] from rfl) (Reps.none _ _)))))))); intro v102 w3 ho4 hb hg_ hnew_; clear hg_ hnew_; (first | rw [← Ny101.out] at ho4 | (simp only [Int.reduceToNat] at ho4; rw [← Ny101.out] at ho4)); have HO103 := zA (Kd.R_lower ho4 (below_size zq1)); replace HB := zA (below_step zq1 hb); clear hb ho4; obtain ⟨Ao5, co5, eo5⟩ := Kd.R_slice HO103.out; subst eo5) | ((with_reducible refine zgc 126 ?_); refine zca 5 Try.func126 #[.slice Ao5 y101.length co5, .string a0] (spec_l1HasS.calls k _ _ y101 a0 t104 _ (zq11 HO103) (zq37 HO103) A2.out) ?_; rintro e w' ⟨rfl, ⟨nd, rfl⟩⟩; refine ⟨_, rfl, ?_⟩))
 exact zr_3
def vaSt (k : Nat) (out : List S72) (i : Int) : Option (List S72) := (spec_vaTurned.f k (rd_T72 out i).f0).bind fun t => if t = true then (spec_vaCmp.f k out (rd_T72 out i).f2 (rd_T72 out i).f1).bind fun c => some (if c < 0 then out.set i.toNat ⟨(rd_T72 out i).f0, (rd_T72 out i).f2, (rd_T72 out i).f1, (rd_T72 out i).f3⟩ else out) else some out
def vaL (k : Nat) : Nat → Nat → List S72 → Option (List S72)
 | 0, _, out => some out
 | d + 1, u, out => (vaSt k out (u : Int)).bind fun o => vaL k d (u + 1) o
theorem vaSt_len (k : Nat) (out o : List S72) (i : Int) (h : vaSt k out i = some o) : o.length = out.length := by
 unfold vaSt at h
 obtain ⟨t, _, h⟩ := Option.bind_eq_some_iff.1 h
 split at h
 · obtain ⟨c, _, h⟩ := Option.bind_eq_some_iff.1 h
   obtain rfl := zsi h
   split <;> simp
 · obtain rfl := zsi h
   rfl
def spec_vaOrder.f (k : Nat) (l0 : List S72) : Option (List S72) := (spec_exShare.f k l0).bind fun o => if o.length < 1048576 then (vaL k o.length 0 o).bind fun o2 => spec_exShare.f k o2 else none
theorem spec_vaOrder.calls (k : Nat) (A0 : Option Addr) (c0 : Nat) (l0 : List S72) (r : List S72) (w : World) (hr0 : Kd.C k72 w A0 l0.length l0) (hc0 : l0.length ≤ c0) (h : spec_vaOrder.f k l0 = some r) :
   Calls Try.prog 44 #[.slice A0 l0.length c0] w fun e w' => ∃ v0_ : Value, e = .returned (v0_) ∧ Kd.R k72 72 w' w.heap.size (fun _ => True) v0_ r ∧ Below w.heap.size w w' := by
 unfold spec_vaOrder.f at h
 obtain ⟨o, ho, h⟩ := Option.bind_eq_some_iff.1 h
 by_cases hol : o.length < 1048576
 rotate_left
 · rw [if_neg hol] at h
   cases h
 rw [if_pos hol] at h
 obtain ⟨o2, ho2, h⟩ := Option.bind_eq_some_iff.1 h
 have HO1 := zA ho
 have HO2 := zA ho2
 have HH := zA h
 have HR := zA hr0
 have HC := zA hc0
 clear h ho ho2 hr0 hc0
 go_enter Try.func44, Try.ntmps44
 go_wp2_with (go_at_call 95; refine (spec_exShare.calls k A0 c0 l0 o _ HR.out HC.out HO1.out).mono ?_; rintro e w3 ⟨v3, rfl, hv3, hb3⟩; obtain ⟨A3, c3, rfl⟩ := Kd.R_slice hv3; have HV := zA hv3; have HB := zA hb3; clear hv3 hb3)
 go_loopw [4, 5, 10] (fun v4 v5 v10 wr => ∃ (u : Nat) (out : List S72), v10 = .int .i64 (u : Int) ∧ u ≤ o.length ∧ Aside0 (out.length = o.length) ∧ Aside0 (vaL k (o.length - u) u out = some o2) ∧ Aside0 (Below w.heap.size w wr) ∧ Aside0 (Kd.R k72 72 wr w.heap.size (fun _ => True) (.slice A3 o.length c3) out)) (fun _ _ v10 _ => o.length - (intOf v10).toNat)
 case atStart => exact ⟨0, o, rfl, Nat.zero_le _, ⟨rfl⟩, HO2, HB, HV⟩
 clear HV HB HO2
 obtain ⟨u, out, rfl, hu, HLO, HL, HB, HV⟩ := hrel
 by_cases hlt : u < o.length
 rotate_left
 · obtain rfl : u = o.length := by omega
   have d1 : decide ((o.length : Int) < o.length) = false := zdf (by omega)
   have h := HL.out
   rw [Nat.sub_self] at h
   obtain rfl := zsi h
   clear h HL
   have hv := HV.out
   have hlen := HLO.out
   rw [← hlen] at hv
   have hrd := zRr hv
   have HRD := zA hrd
   clear hv hrd hlen
   go_wp2_with (go_at_call 95; rw [← HLO.out]; refine (spec_exShare.calls k A3 c3 out r _ HRD.out.2.2 HRD.out.2.1 HH.out).mono ?_; rintro e w6 ⟨v6, rfl, hv6, hb6⟩; have HV6 := zA hv6; have HB6 := zA hb6; clear hv6 hb6)
   exact zr_5
 have d1 : decide ((u : Int) < o.length) = true := zdt (by omega)
 have d2 : (0 : Int) ≤ (u : Int) := by omega
 have d3 : (u : Int) < o.length := by omega
 obtain ⟨g, cp, e, hgb, hgl, _⟩ := Kd.R_form HV.out (by rw [HLO.out]; omega)
 injection e with e1 e2 e3
 subst e1
 clear e2 e3
 obtain ⟨ad, eA, x0, x1, x2, x3⟩ := at_T72 (zRr HV.out).2.2 (u : Int) d2 (by rw [HLO.out]; omega)
 cases eA
 have h := HL.out
 rw [show o.length - u = (o.length - (u + 1)) + 1 by omega] at h
 simp only [vaL] at h
 obtain ⟨o', ho', h⟩ := Option.bind_eq_some_iff.1 h
 have HL' := zA h
 have hlo := vaSt_len _ _ _ _ ho'
 have HLO' := zA (hlo.trans HLO.out)
 unfold vaSt at ho'
 obtain ⟨t, ht, ho'⟩ := Option.bind_eq_some_iff.1 ho'
 have HT := zA ht
 clear ht h hlo HL
 rw [Int.toNat_natCast] at x0 x1 x2 x3
 simp only [add_plain, Nat.zero_add] at x0 x1 x2 x3
 obtain ⟨n, hn⟩ : ∃ n, n = rd_T72 out (u : Int) := ⟨_, rfl⟩
 rw [← hn] at x0 x1 x2 x3 HT ho'
 have HNN := zA hn
 clear hn
 cases hto : t with
 | false =>
   rw [hto] at ho' HT
   rw [if_neg (by decide)] at ho'
   obtain rfl := zsi ho'
   clear ho' hto
   go_wp2_with (go_at_call 96; (with_reducible refine (spec_vaTurned.calls k n.f0 false _ HT.out).mono ?_); rintro e w5 ⟨rfl, hb5⟩; have HB5 := zA hb5; clear hb5)
   go_roundw
   case rel => exact ⟨u + 1, out, by go_num, by omega, HLO, HL', ⟨below_step (zba HB.out _) HB5.out⟩, ⟨zRb (zRa HV.out _) HB5.out⟩⟩
   case measure => simp [intOf]; omega
 | true =>
   rw [hto] at ho' HT
   rw [if_pos rfl] at ho'
   obtain ⟨c, hc, ho'⟩ := Option.bind_eq_some_iff.1 ho'
   have HO' := zA (zsi ho')
   have HKC := zA (show ∀ V, Kd.R k72 72 V w.heap.size (fun _ => True) (.slice (some ⟨g, 0, none⟩) o.length c3) out → Calls Try.prog 97 #[.slice (some ⟨g, 0, none⟩) o.length c3, .int .i64 n.f2, .int .i64 n.f1] V (fun e w' => e = .returned (.int .i64 c) ∧ Below V.heap.size V w') from fun V hV => by
     have hlen := HLO.out
     rw [← hlen] at hV ⊢
     have hr := zRr hV
     exact spec_vaCmp.calls k (some ⟨g, 0, none⟩) c3 out n.f2 n.f1 c V hr.2.2 hr.2.1 hc)
   have HGN := zA (show g ≠ wr.heap.size by omega)
   have HCC := zA (show ∀ (V : World) (xs : List S72) (y : S72), Kd.R k72 72 V w.heap.size (fun _ => True) (.slice (some ⟨g, 0, none⟩) o.length c3) xs → y = rd_T72 xs (u : Int) → ∀ (j : Nat) (v : Value), ([.string y.f0, .int .i64 y.f1, .int .i64 y.f2, .int .i64 y.f3] : List Value)[j]? = some v → V.cell? ⟨g, (u : Int).toNat * k72.sz + j, none⟩ = some v from fun V xs y hV hy j v hj => by
     have hr := zRr hV
     obtain ⟨ad, cc, ea, _, hK, hc0⟩ := Kd.C_get hr.2.2 z72 (u : Int) d2 (by have := hr.1; omega)
     cases ea
     have := hc0 j v (by rw [k72_open hK]; rw [hy] at hj; exact hj)
     rw [add_plain] at this
     exact this)
   clear ho' hc hto
   by_cases hc0 : c < 0
   rotate_left
   · have d4 : decide (c < 0) = false := zdf hc0
     have hoo := HO'.out
     rw [if_neg hc0] at hoo
     have HOO := zA hoo
     clear hoo hc0
     go_wp2_with (first | (go_at_call 96; (with_reducible refine (spec_vaTurned.calls k n.f0 true _ HT.out).mono ?_); rintro e w5 ⟨rfl, hb5⟩; have hbx := blk_below (blk_new wr (.cells #[.string n.f0, .int .i64 n.f1, .int .i64 n.f2, .int .i64 n.f3] 72)) hb5; have HBX := zA hbx; have z0 := blk_cell hbx 0; have z1 := blk_cell hbx 1; have z2 := blk_cell hbx 2; have z3 := blk_cell hbx 3; have HB5 := zA (below_step (zba HB.out _) hb5); have HV5 := zA (zRb (zRa HV.out _) hb5); clear hb5 hbx) | (go_at_call 97; refine (HKC.out _ HV5.out).mono ?_; rintro e w6 ⟨rfl, hb6⟩; have hbx := blk_below HBX.out hb6; have HBX6 := zA hbx; clear z0 z1 z2 z3; have z0 := blk_cell hbx 0; have z1 := blk_cell hbx 1; have z2 := blk_cell hbx 2; have z3 := blk_cell hbx 3; have HB6 := zA (below_step HB5.out hb6); have HV6 := zA (zRb HV5.out hb6); clear hb6 hbx))
     go_roundw
     case rel => exact ⟨u + 1, o', by go_num, by omega, HLO', HL', HB6, ⟨by rw [← HOO.out]; exact HV6.out⟩⟩
     case measure => simp [intOf]; omega
   have d4 : decide (c < 0) = true := zdt hc0
   have hoo := HO'.out
   rw [if_pos hc0] at hoo
   have HOO := zA hoo
   have HN2 := zA (show (⟨n.f0, n.f2, n.f2, n.f3⟩ : S72) = rd_T72 (out.set ((u : Nat) : Int).toNat (⟨n.f0, n.f2, n.f2, n.f3⟩ : S72)) (u : Int) by
     have := HLO.out
     unfold rd_T72
     rw [List.getD_eq_getElem?_getD, List.getElem?_set_self (by rw [Int.toNat_natCast]; omega)]
     rfl)
   clear hoo hc0
   go_wp2_with (first | (go_at_call 96; (with_reducible refine (spec_vaTurned.calls k n.f0 true _ HT.out).mono ?_); rintro e w5 ⟨rfl, hb5⟩; have hbx := blk_below (blk_new wr (.cells #[.string n.f0, .int .i64 n.f1, .int .i64 n.f2, .int .i64 n.f3] 72)) hb5; have HBX := zA hbx; have z0 := blk_cell hbx 0; have z1 := blk_cell hbx 1; have z2 := blk_cell hbx 2; have z3 := blk_cell hbx 3; have HB5 := zA (below_step (zba HB.out _) hb5); have HV5 := zA (zRb (zRa HV.out _) hb5); clear hb5 hbx) | (go_at_call 97; refine (HKC.out _ HV5.out).mono ?_; rintro e w6 ⟨rfl, hb6⟩; have hbx := blk_below HBX.out hb6; have HBX6 := zA hbx; clear z0 z1 z2 z3; have z0 := blk_cell hbx 0; have z1 := blk_cell hbx 1; have z2 := blk_cell hbx 2; have z3 := blk_cell hbx 3; have HB6 := zA (below_step HB5.out hb6); have HV6 := zA (zRb HV5.out hb6); clear hb6 hbx) | ((with_reducible refine gate_ (.store 3 (.tmp 32) (.tmp 30)) rfl ?_); refine Kd.R_store k72 (w0 := w) w.heap.size rfl rfl 3 (.tmp 32) (.tmp 30) rfl 72 (o' := u * 4 + 1) (u : Int) 1 out (⟨n.f0, n.f2, n.f2, n.f3⟩ : S72) (.int .i64 n.f2) [.int .i64 n.f2] [.string n.f0, .int .i64 n.f1, .int .i64 n.f2, .int .i64 n.f3] (fun _ => True) (fun _ => False) rfl (by rw [Int.toNat_natCast]; rfl) rfl rfl rfl zq43 HV6.out d2 d3 rfl (HCC.out _ out _ HV6.out (by exact HNN.out)) (show 1 + 1 ≤ 4 by omega) (k72_mkM _ _ _ (⟨n.f0, n.f2, n.f2, n.f3⟩ : S72)) (fun _ h => h.elim) HB6.out ?_; intro w7 hv hb hg; have hbx := (hg.block _ (blk_lt HBX6.out) (fun e => HGN.out (zsi e).symm)).trans HBX6.out; have HBX7 := zA hbx; clear z0 z1 z2 z3; have z0 := blk_cell hbx 0; have z1 := blk_cell hbx 1; have z2 := blk_cell hbx 2; have z3 := blk_cell hbx 3; have HB7 := zA hb; have HV7 := zA hv; clear hb hv hg hbx) | ((with_reducible refine gate_ (.store 3 (.tmp 38) (.tmp 36)) rfl ?_); refine Kd.R_store k72 (w0 := w) w.heap.size rfl rfl 3 (.tmp 38) (.tmp 36) rfl 72 (o' := u * 4 + 2) (u : Int) 2 (out.set ((u : Nat) : Int).toNat (⟨n.f0, n.f2, n.f2, n.f3⟩ : S72)) (⟨n.f0, n.f2, n.f1, n.f3⟩ : S72) (.int .i64 n.f1) [.int .i64 n.f1] [.string n.f0, .int .i64 n.f2, .int .i64 n.f2, .int .i64 n.f3] (fun _ => True) (fun _ => False) rfl (by rw [Int.toNat_natCast]; rfl) rfl rfl rfl zq43 HV7.out d2 d3 rfl (HCC.out _ (out.set ((u : Nat) : Int).toNat (⟨n.f0, n.f2, n.f2, n.f3⟩ : S72)) _ HV7.out (by exact HN2.out)) (show 2 + 1 ≤ 4 by omega) (k72_mkM _ _ _ (⟨n.f0, n.f2, n.f1, n.f3⟩ : S72)) (fun _ h => h.elim) HB7.out ?_; intro w8 hv hb hg; have hbx := (hg.block _ (blk_lt HBX7.out) (fun e => HGN.out (zsi e).symm)).trans HBX7.out; have HBX8 := zA hbx; clear z0 z1 z2 z3; have z0 := blk_cell hbx 0; have z1 := blk_cell hbx 1; have z2 := blk_cell hbx 2; have z3 := blk_cell hbx 3; have HB8 := zA hb; have HV8 := zA hv; clear hb hv hg hbx))
   go_roundw
   case rel => exact ⟨u + 1, o', by go_num, by omega, HLO', HL', HB8, ⟨by rw [← HOO.out]; have := HV8.out; rw [List.set_set] at this; exact this⟩⟩
   case measure => simp [intOf]; omega
theorem vaSt_mono (k : Nat) (out : List S72) (i : Int) : LeO (vaSt k out i) (vaSt (k + 1) out i) := by
 unfold vaSt
 exact LeO.bind (spec_vaTurned.mono _ _) (fun _ => LeO.ite (LeO.bind (spec_vaCmp.mono _ _ _ _) (fun _ => LeO.refl _)) (LeO.refl _))
theorem vaL_mono (k : Nat) : ∀ (d u : Nat) (out : List S72), LeO (vaL k d u out) (vaL (k + 1) d u out)
 | 0, _, _ => LeO.refl _
 | d + 1, u, out => LeO.bind (vaSt_mono k out u) (fun _ => vaL_mono k d (u + 1) _)
theorem spec_vaOrder.mono : ∀ a0 k, LeO (spec_vaOrder.f k a0) (spec_vaOrder.f (k + 1) a0) := by
 intro a0 k
 unfold spec_vaOrder.f
 exact LeO.bind (spec_exShare.mono _ _) (fun _ => LeO.ite (LeO.bind (vaL_mono _ _ _ _) (fun _ => spec_exShare.mono _ _)) (LeO.refl _))
def spec_l1In.f (a0 : Int) (a1 : Int) (a2 : Int) : Option (Bool) := if a0 ≥ a1 then (some (decide (a0 ≤ a2))) else (some false)
theorem spec_l1In.calls (a0 : Int) (a1 : Int) (a2 : Int) (r : Bool) (w : World) (h : spec_l1In.f a0 a1 a2 = some r) :
   Calls Try.prog 50 #[.int .i64 a0, .int .i64 a1, .int .i64 a2] w fun e w' => e = .returned (.bool r) ∧ Drawn0 w w' := by
 have H : (if a0 ≥ a1 then (some (decide (a0 ≤ a2))) else (some false)) = some r := h
 clear h
 by_cases c4 : a0 ≥ a1
 · rw [if_pos c4] at H
   have c4b0 := zdt c4
   clear c4
   obtain rfl := zsi H
   go_enter Try.func50, Try.ntmps50
   exact zr_6
 · rw [if_neg c4] at H
   have c4b0 := zdf c4
   clear c4
   obtain rfl := zsi H
   go_enter Try.func50, Try.ntmps50
   exact zr_6
def spec_exWord.f (a0 : Int) : Option (Bool) := (spec_l1In.f a0 0 63).bind fun t101 => (some t101)
theorem spec_exWord.calls (a0 : Int) (r : Bool) (w : World) (h : spec_exWord.f a0 = some r) :
   Calls Try.prog 140 #[.int .i64 a0] w fun e w' => e = .returned (.bool r) ∧ Drawn0 w w' := by
 have H : ((spec_l1In.f a0 0 63).bind fun t101 => (some t101)) = some r := h
 clear h
 replace H := zob H
 obtain ⟨t101, A20, H⟩ := H
 replace H : (some t101) = some r := H
 have A2 := zA A20
 clear A20
 obtain rfl := zsi H
 go_enter Try.func140, Try.ntmps140
 go_wp2_with (first | ((with_reducible refine zgc 50 ?_); refine zcl 4 Try.func50 (spec_l1In.calls a0 0 63 t101 _ A2.out) ?_; rintro e w' ⟨rfl, ⟨nd, rfl⟩⟩; refine ⟨_, rfl, ?_⟩))
 exact zr_1
def spec_exNode.f (k : Nat) (a0_0 : ByteArray) (a0_1 : Int) (a0_2 : Int) (a0_3 : Int) (a1 : Int) : Option (Bool) := if a0_0.toList = ([105, 110] : List UInt8) then (if a0_1 = 0 then (if a0_2 = 0 then ((spec_l1In.f a0_3 0 1).bind fun t102 => (some t102)) else (some false)) else (some false)) else (if a0_0.toList = ([99, 111, 110, 115, 116] : List UInt8) then (if a0_1 = 0 then (if a0_2 = 0 then ((spec_exWord.f a0_3).bind fun t103 => (some t103)) else (some false)) else (some false)) else ((spec_exOne.f a0_0).bind fun t104 => (if t104 = true then ((spec_l1In.f a0_1 0 (wrap64 (a1 - 1))).bind fun t105 => (if t105 = true then (if a0_2 = 0 then (some (a0_3 == 0)) else (some false)) else (some false))) else ((spec_exTwo.f k a0_0).bind fun t106 => (if t106 = true then ((spec_l1In.f a0_1 0 (wrap64 (a1 - 1))).bind fun t107 => (if t107 = true then ((spec_l1In.f a0_2 0 (wrap64 (a1 - 1))).bind fun t108 => (if t108 = true then (some (a0_3 == 0)) else (some false))) else (some false))) else (some false))))))
theorem spec_exNode.mono : ∀ a0 a1 a2 a3 a4 k, LeO (spec_exNode.f k a0 a1 a2 a3 a4) (spec_exNode.f (k + 1) a0 a1 a2 a3 a4) := by
 intro a0 a1 a2 a3 a4 k
 unfold spec_exNode.f
 exact zm1 spec_exTwo.mono
theorem spec_exNode.calls (k : Nat) (a0_0 : ByteArray) (a0_1 : Int) (a0_2 : Int) (a0_3 : Int) (a1 : Int) (r : Bool) (w : World) (h : spec_exNode.f k a0_0 a0_1 a0_2 a0_3 a1 = some r) :
   Calls Try.prog 92 #[.agg #[.string a0_0, .int .i64 a0_1, .int .i64 a0_2, .int .i64 a0_3], .int .i64 a1] w fun e w' => e = .returned (.bool r) ∧ Below w.heap.size w w' := by
 have hu72 := Try.underlying72
 have HB := zA (Below.refl w.heap.size w)
 have H : (if a0_0.toList = ([105, 110] : List UInt8) then (if a0_1 = 0 then (if a0_2 = 0 then ((spec_l1In.f a0_3 0 1).bind fun t102 => (some t102)) else (some false)) else (some false)) else (if a0_0.toList = ([99, 111, 110, 115, 116] : List UInt8) then (if a0_1 = 0 then (if a0_2 = 0 then ((spec_exWord.f a0_3).bind fun t103 => (some t103)) else (some false)) else (some false)) else ((spec_exOne.f a0_0).bind fun t104 => (if t104 = true then ((spec_l1In.f a0_1 0 (wrap64 (a1 - 1))).bind fun t105 => (if t105 = true then (if a0_2 = 0 then (some (a0_3 == 0)) else (some false)) else (some false))) else ((spec_exTwo.f k a0_0).bind fun t106 => (if t106 = true then ((spec_l1In.f a0_1 0 (wrap64 (a1 - 1))).bind fun t107 => (if t107 = true then ((spec_l1In.f a0_2 0 (wrap64 (a1 - 1))).bind fun t108 => (if t108 = true then (some (a0_3 == 0)) else (some false))) else (some false))) else (some false))))))) = some r := h
 clear h
 by_cases c3 : a0_0.toList = ([105, 110] : List UInt8)
 · rw [if_pos c3] at H
   obtain ⟨c3b0, c3b1⟩ := zbe c3
   clear c3
   by_cases c4 : a0_1 = 0
   rotate_left
   · rw [if_neg c4] at H
     obtain ⟨c4b0, c4b1⟩ := zbq c4
     obtain rfl := zsi H
     go_enter Try.func92, Try.ntmps92
     go_wp2_with (first | ((with_reducible refine zgd 2 ?_); refine zbh zq1 #[.string a0_0, .int .i64 a0_1, .int .i64 a0_2, .int .i64 a0_3] 72 ?_; clear HB; intro gb101 w11 HB BK101 GW101; have GE101 := GW101; obtain ⟨hcz12_0, hcz12_1, hcz12_2, hcz12_3, hfz12_0, hfz12_1, hfz12_2, hfz12_3⟩ := zd4 BK101))
     go_ret
     exact ⟨zq4, zq3 GE101⟩
   rw [if_pos c4] at H
   obtain ⟨c4b0, c4b1⟩ := zbe c4
   clear c4
   by_cases c5 : a0_2 = 0
   rotate_left
   · rw [if_neg c5] at H
     obtain ⟨c5b0, c5b1⟩ := zbq c5
     obtain rfl := zsi H
     go_enter Try.func92, Try.ntmps92
     go_wp2_with (first | ((with_reducible refine zgd 2 ?_); refine zbh zq1 #[.string a0_0, .int .i64 a0_1, .int .i64 a0_2, .int .i64 a0_3] 72 ?_; clear HB; intro gb101 w9 HB BK101 GW101; have GE101 := GW101; obtain ⟨hcz10_0, hcz10_1, hcz10_2, hcz10_3, hfz10_0, hfz10_1, hfz10_2, hfz10_3⟩ := zd4 BK101))
     go_ret
     exact ⟨zq4, zq3 GE101⟩
   rw [if_pos c5] at H
   obtain ⟨c5b0, c5b1⟩ := zbe c5
   clear c5
   replace H := zob H
   obtain ⟨t102, A60, H⟩ := H
   replace H : (some t102) = some r := H
   have A6 := zA A60
   clear A60
   obtain rfl := zsi H
   go_enter Try.func92, Try.ntmps92
   go_wp2_with (first | ((with_reducible refine zgd 2 ?_); refine zbh zq1 #[.string a0_0, .int .i64 a0_1, .int .i64 a0_2, .int .i64 a0_3] 72 ?_; clear HB; intro gb101 w7 HB BK101 GW101; have GE101 := GW101; obtain ⟨hcz8_0, hcz8_1, hcz8_2, hcz8_3, hfz8_0, hfz8_1, hfz8_2, hfz8_3⟩ := zd4 BK101) | (go_at_call 50; (with_reducible refine (spec_l1In.calls a0_3 0 1 t102 _ A6.out).mono ?_); rintro e w' ⟨rfl, ⟨nd, rfl⟩⟩))
   go_ret
   exact ⟨zq4, zq3 GE101⟩
 rw [if_neg c3] at H
 obtain ⟨c3b0, c3b1⟩ := zbq c3
 by_cases c13 : a0_0.toList = ([99, 111, 110, 115, 116] : List UInt8)
 · rw [if_pos c13] at H
   obtain ⟨c13b0, c13b1⟩ := zbe c13
   clear c13
   by_cases c14 : a0_1 = 0
   rotate_left
   · rw [if_neg c14] at H
     obtain ⟨c14b0, c14b1⟩ := zbq c14
     obtain rfl := zsi H
     go_enter Try.func92, Try.ntmps92
     go_wp2_with (first | ((with_reducible refine zgd 2 ?_); refine zbh zq1 #[.string a0_0, .int .i64 a0_1, .int .i64 a0_2, .int .i64 a0_3] 72 ?_; clear HB; intro gb101 w21 HB BK101 GW101; have GE101 := GW101; obtain ⟨hcz22_0, hcz22_1, hcz22_2, hcz22_3, hfz22_0, hfz22_1, hfz22_2, hfz22_3⟩ := zd4 BK101))
     go_ret
     exact ⟨zq4, zq3 GE101⟩
   rw [if_pos c14] at H
   obtain ⟨c14b0, c14b1⟩ := zbe c14
   clear c14
   by_cases c15 : a0_2 = 0
   rotate_left
   · rw [if_neg c15] at H
     obtain ⟨c15b0, c15b1⟩ := zbq c15
     obtain rfl := zsi H
     go_enter Try.func92, Try.ntmps92
     go_wp2_with (first | ((with_reducible refine zgd 2 ?_); refine zbh zq1 #[.string a0_0, .int .i64 a0_1, .int .i64 a0_2, .int .i64 a0_3] 72 ?_; clear HB; intro gb101 w19 HB BK101 GW101; have GE101 := GW101; obtain ⟨hcz20_0, hcz20_1, hcz20_2, hcz20_3, hfz20_0, hfz20_1, hfz20_2, hfz20_3⟩ := zd4 BK101))
     go_ret
     exact ⟨zq4, zq3 GE101⟩
   rw [if_pos c15] at H
   obtain ⟨c15b0, c15b1⟩ := zbe c15
   clear c15
   replace H := zob H
   obtain ⟨t103, A160, H⟩ := H
   replace H : (some t103) = some r := H
   have A16 := zA A160
   clear A160
   obtain rfl := zsi H
   go_enter Try.func92, Try.ntmps92
   go_wp2_with (first | ((with_reducible refine zgd 2 ?_); refine zbh zq1 #[.string a0_0, .int .i64 a0_1, .int .i64 a0_2, .int .i64 a0_3] 72 ?_; clear HB; intro gb101 w17 HB BK101 GW101; have GE101 := GW101; obtain ⟨hcz18_0, hcz18_1, hcz18_2, hcz18_3, hfz18_0, hfz18_1, hfz18_2, hfz18_3⟩ := zd4 BK101) | (go_at_call 140; (with_reducible refine (spec_exWord.calls a0_3 t103 _ A16.out).mono ?_); rintro e w' ⟨rfl, ⟨nd, rfl⟩⟩))
   go_ret
   exact ⟨zq4, zq3 GE101⟩
 rw [if_neg c13] at H
 obtain ⟨c13b0, c13b1⟩ := zbq c13
 replace H := zob H
 obtain ⟨t104, A230, H⟩ := H
 replace H : (if t104 = true then ((spec_l1In.f a0_1 0 (wrap64 (a1 - 1))).bind fun t105 => (if t105 = true then (if a0_2 = 0 then (some (a0_3 == 0)) else (some false)) else (some false))) else ((spec_exTwo.f k a0_0).bind fun t106 => (if t106 = true then ((spec_l1In.f a0_1 0 (wrap64 (a1 - 1))).bind fun t107 => (if t107 = true then ((spec_l1In.f a0_2 0 (wrap64 (a1 - 1))).bind fun t108 => (if t108 = true then (some (a0_3 == 0)) else (some false))) else (some false))) else (some false)))) = some r := H
 have A23 := zA A230
 clear A230
 by_cases c24 : t104 = true
 · subst c24
   replace H := zih H
   replace H := zob H
   obtain ⟨t105, A250, H⟩ := H
   replace H : (if t105 = true then (if a0_2 = 0 then (some (a0_3 == 0)) else (some false)) else (some false)) = some r := H
   have A25 := zA A250
   clear A250
   by_cases c26 : t105 = true
   rotate_left
   · replace c26 := zbf c26
     subst c26
     replace H := zif H
     obtain rfl := zsi H
     go_enter Try.func92, Try.ntmps92
     go_wp2_with (first | ((with_reducible refine zgd 2 ?_); refine zbh zq1 #[.string a0_0, .int .i64 a0_1, .int .i64 a0_2, .int .i64 a0_3] 72 ?_; clear HB; intro gb101 w32 HB BK101 GW101; have GE101 := GW101; obtain ⟨hcz33_0, hcz33_1, hcz33_2, hcz33_3, hfz33_0, hfz33_1, hfz33_2, hfz33_3⟩ := zd4 BK101) | ((with_reducible refine zgc 141 ?_); refine zcl 42 Try.func141 (spec_exOne.calls a0_0 true _ A23.out) ?_; rintro e w' ⟨rfl, ⟨nd, rfl⟩⟩; refine ⟨_, rfl, ?_⟩) | ((with_reducible refine zgc 50 ?_); refine zcl 47 Try.func50 (spec_l1In.calls a0_1 0 (wrap64 (a1 - 1)) false _ A25.out) ?_; rintro e w' ⟨rfl, ⟨nd, rfl⟩⟩; refine ⟨_, rfl, ?_⟩))
     go_ret
     exact ⟨zq4, zq3 GE101⟩
   subst c26
   replace H := zih H
   by_cases c27 : a0_2 = 0
   rotate_left
   · rw [if_neg c27] at H
     obtain ⟨c27b0, c27b1⟩ := zbq c27
     obtain rfl := zsi H
     go_enter Try.func92, Try.ntmps92
     go_wp2_with (first | ((with_reducible refine zgd 2 ?_); refine zbh zq1 #[.string a0_0, .int .i64 a0_1, .int .i64 a0_2, .int .i64 a0_3] 72 ?_; clear HB; intro gb101 w30 HB BK101 GW101; have GE101 := GW101; obtain ⟨hcz31_0, hcz31_1, hcz31_2, hcz31_3, hfz31_0, hfz31_1, hfz31_2, hfz31_3⟩ := zd4 BK101) | ((with_reducible refine zgc 141 ?_); refine zcl 42 Try.func141 (spec_exOne.calls a0_0 true _ A23.out) ?_; rintro e w' ⟨rfl, ⟨nd, rfl⟩⟩; refine ⟨_, rfl, ?_⟩) | ((with_reducible refine zgc 50 ?_); refine zcl 47 Try.func50 (spec_l1In.calls a0_1 0 (wrap64 (a1 - 1)) true _ A25.out) ?_; rintro e w' ⟨rfl, ⟨nd, rfl⟩⟩; refine ⟨_, rfl, ?_⟩))
     go_ret
     exact ⟨zq4, zq3 GE101⟩
   rw [if_pos c27] at H
   obtain ⟨c27b0, c27b1⟩ := zbe c27
   clear c27
   obtain rfl := zsi H
   go_enter Try.func92, Try.ntmps92
   go_wp2_with (first | ((with_reducible refine zgd 2 ?_); refine zbh zq1 #[.string a0_0, .int .i64 a0_1, .int .i64 a0_2, .int .i64 a0_3] 72 ?_; clear HB; intro gb101 w28 HB BK101 GW101; have GE101 := GW101; obtain ⟨hcz29_0, hcz29_1, hcz29_2, hcz29_3, hfz29_0, hfz29_1, hfz29_2, hfz29_3⟩ := zd4 BK101) | ((with_reducible refine zgc 141 ?_); refine zcl 42 Try.func141 (spec_exOne.calls a0_0 true _ A23.out) ?_; rintro e w' ⟨rfl, ⟨nd, rfl⟩⟩; refine ⟨_, rfl, ?_⟩) | ((with_reducible refine zgc 50 ?_); refine zcl 47 Try.func50 (spec_l1In.calls a0_1 0 (wrap64 (a1 - 1)) true _ A25.out) ?_; rintro e w' ⟨rfl, ⟨nd, rfl⟩⟩; refine ⟨_, rfl, ?_⟩))
   go_ret
   exact ⟨zq4, zq3 GE101⟩
 replace c24 := zbf c24
 subst c24
 replace H := zif H
 replace H := zob H
 obtain ⟨t106, A340, H⟩ := H
 replace H : (if t106 = true then ((spec_l1In.f a0_1 0 (wrap64 (a1 - 1))).bind fun t107 => (if t107 = true then ((spec_l1In.f a0_2 0 (wrap64 (a1 - 1))).bind fun t108 => (if t108 = true then (some (a0_3 == 0)) else (some false))) else (some false))) else (some false)) = some r := H
 have A34 := zA A340
 clear A340
 by_cases c35 : t106 = true
 rotate_left
 · replace c35 := zbf c35
   subst c35
   replace H := zif H
   obtain rfl := zsi H
   go_enter Try.func92, Try.ntmps92
   go_wp2_with (first | ((with_reducible refine zgd 2 ?_); refine zbh zq1 #[.string a0_0, .int .i64 a0_1, .int .i64 a0_2, .int .i64 a0_3] 72 ?_; clear HB; intro gb101 w52 HB BK101 GW101; have GE101 := GW101; obtain ⟨hcz53_0, hcz53_1, hcz53_2, hcz53_3, hfz53_0, hfz53_1, hfz53_2, hfz53_3⟩ := zd4 BK101) | ((with_reducible refine zgc 141 ?_); refine zcl 42 Try.func141 (spec_exOne.calls a0_0 false _ A23.out) ?_; rintro e w' ⟨rfl, ⟨nd, rfl⟩⟩; refine ⟨_, rfl, ?_⟩) | ((with_reducible refine zgc 142 ?_); refine zcl 60 Try.func142 (spec_exTwo.calls k a0_0 false _ A34.out) ?_; rintro e w54 ⟨rfl, hb⟩; refine ⟨_, rfl, ?_⟩; replace BK101 := zbb BK101 hb; replace HB := zA (below_step (zq3 GE101) hb); (try clear hb)))
   go_ret
   exact ⟨zq4, zq3 GE101⟩
 subst c35
 replace H := zih H
 replace H := zob H
 obtain ⟨t107, A360, H⟩ := H
 replace H : (if t107 = true then ((spec_l1In.f a0_2 0 (wrap64 (a1 - 1))).bind fun t108 => (if t108 = true then (some (a0_3 == 0)) else (some false))) else (some false)) = some r := H
 have A36 := zA A360
 clear A360
 by_cases c37 : t107 = true
 rotate_left
 · replace c37 := zbf c37
   subst c37
   replace H := zif H
   obtain rfl := zsi H
   go_enter Try.func92, Try.ntmps92
   go_wp2_with (first | ((with_reducible refine zgd 2 ?_); refine zbh zq1 #[.string a0_0, .int .i64 a0_1, .int .i64 a0_2, .int .i64 a0_3] 72 ?_; clear HB; intro gb101 w48 HB BK101 GW101; have GE101 := GW101; obtain ⟨hcz49_0, hcz49_1, hcz49_2, hcz49_3, hfz49_0, hfz49_1, hfz49_2, hfz49_3⟩ := zd4 BK101) | ((with_reducible refine zgc 141 ?_); refine zcl 42 Try.func141 (spec_exOne.calls a0_0 false _ A23.out) ?_; rintro e w' ⟨rfl, ⟨nd, rfl⟩⟩; refine ⟨_, rfl, ?_⟩) | ((with_reducible refine zgc 142 ?_); refine zcl 60 Try.func142 (spec_exTwo.calls k a0_0 true _ A34.out) ?_; rintro e w50 ⟨rfl, hb⟩; refine ⟨_, rfl, ?_⟩; replace BK101 := zbb BK101 hb; replace HB := zA (below_step (zq3 GE101) hb); (try clear hb); obtain ⟨hcz51_0, hcz51_1, hcz51_2, hcz51_3⟩ := zc4 w50 (.string a0_0) (.int .i64 a0_1) (.int .i64 a0_2) (.int .i64 a0_3) BK101.out; obtain ⟨hfz51_0, hfz51_1, hfz51_2, hfz51_3⟩ := zf4 BK101.out) | (go_at_call 50; (with_reducible refine (spec_l1In.calls a0_1 0 (wrap64 (a1 - 1)) false _ A36.out).mono ?_); rintro e w' ⟨rfl, ⟨nd, rfl⟩⟩))
   go_ret
   exact ⟨zq4, zq3 GE101⟩
 subst c37
 replace H := zih H
 replace H := zob H
 obtain ⟨t108, A380, H⟩ := H
 replace H : (if t108 = true then (some (a0_3 == 0)) else (some false)) = some r := H
 have A38 := zA A380
 clear A380
 by_cases c39 : t108 = true
 · subst c39
   replace H := zih H
   obtain rfl := zsi H
   go_enter Try.func92, Try.ntmps92
   go_wp2_with (first | ((with_reducible refine zgd 2 ?_); refine zbh zq1 #[.string a0_0, .int .i64 a0_1, .int .i64 a0_2, .int .i64 a0_3] 72 ?_; clear HB; intro gb101 w40 HB BK101 GW101; have GE101 := GW101; obtain ⟨hcz41_0, hcz41_1, hcz41_2, hcz41_3, hfz41_0, hfz41_1, hfz41_2, hfz41_3⟩ := zd4 BK101) | ((with_reducible refine zgc 141 ?_); refine zcl 42 Try.func141 (spec_exOne.calls a0_0 false _ A23.out) ?_; rintro e w' ⟨rfl, ⟨nd, rfl⟩⟩; refine ⟨_, rfl, ?_⟩) | ((with_reducible refine zgc 142 ?_); refine zcl 60 Try.func142 (spec_exTwo.calls k a0_0 true _ A34.out) ?_; rintro e w42 ⟨rfl, hb⟩; refine ⟨_, rfl, ?_⟩; replace BK101 := zbb BK101 hb; replace HB := zA (below_step (zq3 GE101) hb); (try clear hb); obtain ⟨hcz43_0, hcz43_1, hcz43_2, hcz43_3⟩ := zc4 w42 (.string a0_0) (.int .i64 a0_1) (.int .i64 a0_2) (.int .i64 a0_3) BK101.out; obtain ⟨hfz43_0, hfz43_1, hfz43_2, hfz43_3⟩ := zf4 BK101.out) | (go_at_call 50; (with_reducible refine (spec_l1In.calls a0_1 0 (wrap64 (a1 - 1)) true _ A36.out).mono ?_); rintro e w' ⟨rfl, ⟨nd, rfl⟩⟩) | (go_at_call 50; (with_reducible refine (spec_l1In.calls a0_2 0 (wrap64 (a1 - 1)) true _ A38.out).mono ?_); rintro e w' ⟨rfl, ⟨nd, rfl⟩⟩))
   go_ret
   exact ⟨zq4, zq3 GE101⟩
 replace c39 := zbf c39
 subst c39
 replace H := zif H
 obtain rfl := zsi H
 go_enter Try.func92, Try.ntmps92
 go_wp2_with (first | ((with_reducible refine zgd 2 ?_); refine zbh zq1 #[.string a0_0, .int .i64 a0_1, .int .i64 a0_2, .int .i64 a0_3] 72 ?_; clear HB; intro gb101 w44 HB BK101 GW101; have GE101 := GW101; obtain ⟨hcz45_0, hcz45_1, hcz45_2, hcz45_3, hfz45_0, hfz45_1, hfz45_2, hfz45_3⟩ := zd4 BK101) | ((with_reducible refine zgc 141 ?_); refine zcl 42 Try.func141 (spec_exOne.calls a0_0 false _ A23.out) ?_; rintro e w' ⟨rfl, ⟨nd, rfl⟩⟩; refine ⟨_, rfl, ?_⟩) | ((with_reducible refine zgc 142 ?_); refine zcl 60 Try.func142 (spec_exTwo.calls k a0_0 true _ A34.out) ?_; rintro e w46 ⟨rfl, hb⟩; refine ⟨_, rfl, ?_⟩; replace BK101 := zbb BK101 hb; replace HB := zA (below_step (zq3 GE101) hb); (try clear hb); obtain ⟨hcz47_0, hcz47_1, hcz47_2, hcz47_3⟩ := zc4 w46 (.string a0_0) (.int .i64 a0_1) (.int .i64 a0_2) (.int .i64 a0_3) BK101.out; obtain ⟨hfz47_0, hfz47_1, hfz47_2, hfz47_3⟩ := zf4 BK101.out) | (go_at_call 50; (with_reducible refine (spec_l1In.calls a0_1 0 (wrap64 (a1 - 1)) true _ A36.out).mono ?_); rintro e w' ⟨rfl, ⟨nd, rfl⟩⟩) | (go_at_call 50; (with_reducible refine (spec_l1In.calls a0_2 0 (wrap64 (a1 - 1)) false _ A38.out).mono ?_); rintro e w' ⟨rfl, ⟨nd, rfl⟩⟩))
 go_ret
 exact ⟨zq4, zq3 GE101⟩
end Go.Proofs.Ytkfkbmlbpeojaaa.Q
end
section
namespace Go.Proofs.Ytkfkbmlbpeojaaa.Q
open Go.RowKit Go.Proofs.YtkfkbmlbpeojaaaW.PrintWords Go.Proofs.YtkfkbmlbpeojaaaW.PrintLast Go.Proofs.YtkfkbmlbpeojaaaW.PrintMore
set_option maxHeartbeats 8000000
set_option maxRecDepth 100000
attribute [local go_sem] max2_int min2_int max_two min_two max_three min_three max_four min_four
set_option linter.unusedVariables false
set_option linter.unusedSimpArgs false
mutual
def spec_exUses.l0 : Nat → List Int → List (S72) → Int → Int → Option (List Int)
 | 0, _, _, _, _ => none
 | k + 1, x3, x11, x12, x13 => if x13 < x12 then (if 0 ≤ x13 then (if x13 < (x11.length : Int) then ((spec_exParts.f k ((rd_T72 x11 x13).f0) ((rd_T72 x11 x13).f1) ((rd_T72 x11 x13).f2) ((rd_T72 x11 x13).f3)).bind fun t106 => (spec_exUses.l1 k x3 x11 x12 x13 t106 (t106.length : Int) 0)) else (none)) else (none)) else (some x3)
def spec_exUses.l1 : Nat → List Int → List (S72) → Int → Int → List Int → Int → Int → Option (List Int)
 | 0, _, _, _, _, _, _, _ => none
 | k + 1, x3, x11, x12, x13, x18, x19, x20 => if x20 < x19 then (if 0 ≤ x20 then (if x20 < (x18.length : Int) then (if 0 ≤ (rd x18 x20) then (if (rd x18 x20) < (x3.length : Int) then (spec_exUses.l1 k (x3.set ((rd x18 x20) : Int).toNat (wrap64 ((rd x3 (rd x18 x20)) + 1))) x11 x12 x13 x18 x19 (wrap64 (x20 + 1))) else (none)) else (none)) else (none)) else (none)) else (spec_exUses.l0 k x3 x11 x12 (wrap64 (x13 + 1)))
end
def spec_exUses.f (k : Nat) (l0 : List (S72)) : Option (List Int) := if 0 ≤ (l0.length : Int) then (if ((l0.length : Int) : Int).toNat ≤ 35184372088832 then (spec_exUses.l0 k (List.replicate ((l0.length : Int) : Int).toNat 0) l0 (l0.length : Int) 0) else (none)) else (none)
theorem spec_exUses.mono_l : ∀ k, (∀ y0 y1 y2 y3, LeO (spec_exUses.l0 k y0 y1 y2 y3) (spec_exUses.l0 (k + 1) y0 y1 y2 y3)) ∧ (∀ y0 y1 y2 y3 y4 y5 y6, LeO (spec_exUses.l1 k y0 y1 y2 y3 y4 y5 y6) (spec_exUses.l1 (k + 1) y0 y1 y2 y3 y4 y5 y6))
 | 0 => ⟨fun _ _ _ _ r h => by simp [spec_exUses.l0] at h, fun _ _ _ _ _ _ _ r h => by simp [spec_exUses.l1] at h⟩
 | k + 1 => by
   obtain ⟨ih0, ih1⟩ := spec_exUses.mono_l k
   refine ⟨?_, ?_⟩
   · intro y0 y1 y2 y3
     unfold spec_exUses.l0
     exact zm3 ih0 ih1 spec_exParts.mono
   · intro y0 y1 y2 y3 y4 y5 y6
     unfold spec_exUses.l1
     exact zm3 ih0 ih1 spec_exParts.mono
theorem spec_exUses.mono : ∀ a0 k, LeO (spec_exUses.f k a0) (spec_exUses.f (k + 1) a0) := by
 intro a0 k
 obtain ⟨ih0, ih1⟩ := spec_exUses.mono_l k
 unfold spec_exUses.f
 exact zm3 ih0 ih1 spec_exParts.mono
theorem spec_exUses.calls (k : Nat) (A0 : Option Addr) (c0 : Nat) (l0 : List (S72)) (r : List Int) (w : World) (hr0 : Kd.C k72 w A0 l0.length l0) (hc0 : l0.length ≤ c0) (h : spec_exUses.f k l0 = some r) :
   Calls Try.prog 94 #[.slice A0 l0.length c0] w fun e w' => ∃ v0_ : Value, e = .returned (v0_) ∧ Kd.R (Kd.int .i64) 3 w' w.heap.size (fun _ => True) v0_ r ∧ Below w.heap.size w w' := by
 have hu72 := Try.underlying72
 have HR0 := zA hr0
 have HC0 := zA hc0
 clear hr0 hc0
 have HB := zA (Below.refl w.heap.size w)
 have H : (if 0 ≤ (l0.length : Int) then (if ((l0.length : Int) : Int).toNat ≤ 35184372088832 then (spec_exUses.l0 k (List.replicate ((l0.length : Int) : Int).toNat 0) l0 (l0.length : Int) 0) else (none)) else (none)) = some r := h
 clear h
 by_cases c2 : 0 ≤ (l0.length : Int)
 rotate_left
 · rw [if_neg c2] at H
   exact absurd H (by simp)
 rw [if_pos c2] at H
 have c2b0 := eq_true c2
 have c2b1 := zdt c2
 clear c2
 by_cases c3 : ((l0.length : Int) : Int).toNat ≤ 35184372088832
 rotate_left
 · rw [if_neg c3] at H
   exact absurd H (by simp)
 rw [if_pos c3] at H
 have c3b0 := eq_true c3
 have c3b1 := zdt c3
 clear c3
 obtain ⟨y101, hy101⟩ : ∃ y_ : List Int, y_ = (List.replicate ((l0.length : Int) : Int).toNat 0) := ⟨_, rfl⟩
 replace H : (spec_exUses.l0 k y101 l0 (l0.length : Int) 0) = some r := by first | (rw [hy101]; with_reducible exact H) | (have H2_ := (Option.bind_some _ _).symm.trans H; rw [hy101]; with_reducible exact H2_) | (have H2_ := (Option.bind_some _ _).symm.trans H; with_reducible exact H2_) | with_reducible exact H | (rw [hy101]; exact H) | exact H
 have Ny101 := zA hy101
 clear hy101
 have H' := zA H
 clear H
 go_enter Try.func94, Try.ntmps94
 go_wp2_with (first | ((with_reducible refine zgd 10 ?_); refine Kd.R_make (Kd.int .i64) _ 3 rfl (N := 10) rfl 51 _ _ rfl (l0.length : Int) rfl rfl Try.underlying51 (.int .i64 0) 8 info3 rfl (by decide) (by omega) 0 (ok := fun _ => True) (okp := fun _ => True) rfl (fun _ hk => hk) trivial (zde zq27) (Nat.le_trans (Nat.mul_le_mul_right _ (zde zq27 : (l0.length : Int).toNat ≤ 35184372088832)) (by omega)) (Below.refl _ _) (zlr _) ?_; intro v102 w4 ho5 hb hg_ hnew_; clear hg_ hnew_; (first | rw [← Ny101.out] at ho5 | (simp only [Int.reduceToNat] at ho5; rw [← Ny101.out] at ho5)); have HO103 := zA (Kd.R_lower ho5 (below_size zq1)); replace HB := zA (below_step zq1 hb); clear hb ho5))
 go_loopg [13] k (fun kq v13 w' => ∃ (x3_1 : List Int) (x13_1 : Int), v13 = .int .i64 x13_1 ∧ Aside0 (spec_exUses.l0 kq x3_1 l0 (l0.length : Int) x13_1 = some r) ∧ Aside0 (kq ≤ k) ∧ Aside0 (Kd.R (Kd.int .i64) 3 w' w.heap.size (fun _ => True) v102 x3_1) ∧ Aside0 (Below w.heap.size w w'))
 case atStart => exact ⟨(y101), (0), zq5, H', ⟨zlr _⟩, ⟨zq2 HO103⟩, ⟨zq1⟩⟩
 clear H'
 try clear c2
 try clear c2b0
 try clear c2b1
 try clear c3
 try clear c3b0
 try clear c3b1
 obtain ⟨x3_1, x13_1, rfl, HA, HK1, HO_3, HB⟩ := hrel
 cases gk with
 | zero => exact absurd HA.out (by simp [spec_exUses.l0])
 | succ k1 =>
 have H := HA.out
 clear HA
 simp only [spec_exUses.l0] at H
 revert H
 refine zit (fun c6 H => ?_) fun c6 H => ?_
 rotate_left
 · obtain rfl := zsi H
   go_wp2
   go_ret
   exact ⟨_, zq4, zq2 HO_3, zq1⟩
 revert H
 refine zin fun c7 H => ?_
 revert H
 refine zin fun c8 H => ?_
 replace H := zob H
 obtain ⟨t106, A90, H⟩ := H
 replace H : (spec_exUses.l1 k1 x3_1 l0 (l0.length : Int) x13_1 t106 (t106.length : Int) 0) = some r := H
 have A9 := zA A90
 clear A90
 have H' := zA H
 clear H
 obtain ⟨p104, q104⟩ := zpq x13_1 l0.length
 obtain ⟨ad104, e104, hx104_0, hx104_1, hx104_2, hx104_3⟩ := at_T72 HR0.out x13_1 (zoe p104) (zoe q104)
 cases e104
 replace hx104_0 := zkep HB.out hx104_0
 replace hx104_1 := zkep HB.out hx104_1
 replace hx104_2 := zkep HB.out hx104_2
 replace hx104_3 := zkep HB.out hx104_3
 go_wp2_with (first | ((with_reducible refine zgd 5 ?_); refine zbx #[.string (⟨#[]⟩ : ByteArray), .int .i64 0, .int .i64 0, .int .i64 0] 72 ?_; intro gb105 hg w10 hbox hb; have zs := zpair zq1 hb; replace HO_3 := zA (zRb (zq2 HO_3) hb); replace HB := zA (zs.1); have BK105 := zA (hbox); have GW105 := zA (zge hg zs.2); have GE105 := GW105; clear zs hb hbox hg; obtain ⟨hcz11_0, hcz11_1, hcz11_2, hcz11_3, hfz11_0, hfz11_1, hfz11_2, hfz11_3⟩ := zd4 BK105) | ((with_reducible refine zgc 143 ?_); refine zcl 18 Try.func143 (spec_exParts.calls k1 ((rd_T72 l0 x13_1).f0) ((rd_T72 l0 x13_1).f1) ((rd_T72 l0 x13_1).f2) ((rd_T72 l0 x13_1).f3) t106 _ A9.out) ?_; rintro e w12 ⟨v107, rfl, ho0, hb⟩; refine ⟨_, rfl, ?_⟩; have HO108 := zA (Kd.R_lower (Kd.R_new' ho0 (Kd.R_lt (zq26 HO_3 BK105))) (below_size (zq3 GE105))); replace HO_3 := zA (Kd.R_elder' (zq26 HO_3 BK105) (Kd.R_base ho0) hb); replace BK105 := zA (blk_below (g := gb105) (o := .cells #[.string ((rd_T72 l0 x13_1).f0), .int .i64 ((rd_T72 l0 x13_1).f1), .int .i64 ((rd_T72 l0 x13_1).f2), .int .i64 ((rd_T72 l0 x13_1).f3)] 72 (0, 0)) (zq34 BK105) hb); replace HB := zA (below_step (zq3 GE105) hb); (try clear hb); (try clear hk); (try clear ho0); obtain ⟨Ao13, co13, eo13⟩ := Kd.R_slice HO108.out; subst eo13))
 go_loopg [20] k1 (fun kq v20 w' => ∃ (x3_2 : List Int) (x20_2 : Int), v20 = .int .i64 x20_2 ∧ Aside0 (spec_exUses.l1 kq x3_2 l0 (l0.length : Int) x13_1 t106 (t106.length : Int) x20_2 = some r) ∧ Aside0 (kq ≤ k1) ∧ Aside0 (Kd.R (Kd.int .i64) 3 w' w.heap.size (fun k_ => some k_ ≠ ((.slice Ao13 t106.length co13) : Value).ownBlock) v102 x3_2) ∧ Aside0 (Kd.R (Kd.int .i64) 3 w' w.heap.size (fun k_ => some k_ ≠ (v102 : Value).ownBlock) (.slice Ao13 t106.length co13) t106) ∧ Aside0 (w'.heap[gb105]? = some (.cells #[.string ((rd_T72 l0 x13_1).f0), .int .i64 ((rd_T72 l0 x13_1).f1), .int .i64 ((rd_T72 l0 x13_1).f2), .int .i64 ((rd_T72 l0 x13_1).f3)] 72 (0, 0))) ∧ Aside0 (Below w.heap.size w w'))
 case atStart => exact ⟨(x3_1), (0), zq5, H', ⟨zlr _⟩, ⟨zq31 HO_3⟩, ⟨zq31 HO108⟩, ⟨zq7 BK105⟩, ⟨zq3 GE105⟩⟩
 clear H'
 try clear c2
 try clear c2b0
 try clear c2b1
 try clear c3
 try clear c3b0
 try clear c3b1
 try clear c6
 try clear c7
 try clear c8
 try clear hcz11_0
 try clear hcz11_1
 try clear hcz11_2
 try clear hcz11_3
 try clear hfz11_0
 try clear hfz11_1
 try clear hfz11_2
 try clear hfz11_3
 try clear hx104_0
 try clear hx104_1
 try clear hx104_2
 try clear hx104_3
 try clear p104
 try clear q104
 obtain ⟨x3_2, x20_2, rfl, HA, HK2, HO_3, HO_18, BK105, HB⟩ := hrel
 cases gk with
 | zero => exact absurd HA.out (by simp [spec_exUses.l1])
 | succ k2 =>
 have H := HA.out
 clear HA
 simp only [spec_exUses.l1] at H
 revert H
 refine zit (fun c14 H => ?_) fun c14 H => ?_
 rotate_left
 · have H' := zA H
   clear H
   go_wp2
   go_roundg k2
   case measure => have := HK1.out; have := HK2.out; omega
   case rel => exact ⟨(x3_2), (wrap64 (x13_1 + 1)), zq5, H', ⟨zq44 HK1 HK2⟩, ⟨zq28 HO_3⟩, ⟨zq3 GE105⟩⟩
 revert H
 refine zin fun c15 H => ?_
 revert H
 refine zin fun c16 H => ?_
 revert H
 refine zin fun c17 H => ?_
 revert H
 refine zin fun c18 H => ?_
 obtain ⟨y111, hy111⟩ : ∃ y_ : List Int, y_ = (x3_2.set ((rd t106 x20_2) : Int).toNat (wrap64 ((rd x3_2 (rd t106 x20_2)) + 1))) := ⟨_, rfl⟩
 replace H : (spec_exUses.l1 k2 y111 l0 (l0.length : Int) x13_1 t106 (t106.length : Int) (wrap64 (x20_2 + 1))) = some r := by first | (rw [hy111]; with_reducible exact H) | (have H2_ := (Option.bind_some _ _).symm.trans H; rw [hy111]; with_reducible exact H2_) | (have H2_ := (Option.bind_some _ _).symm.trans H; with_reducible exact H2_) | with_reducible exact H | (rw [hy111]; exact H) | exact H
 have Ny111 := zA hy111
 clear hy111
 have H' := zA H
 clear H
 obtain ⟨p109, q109⟩ := zpq x20_2 t106.length
 obtain ⟨ad109, e109, hx109_0⟩ := Kd.at_int (zRr HO_18.out).2.2 x20_2 (zoe p109) (zoe q109)
 cases e109
 obtain ⟨Ao20, co20, eo20⟩ := Kd.R_slice HO_3.out
 subst eo20
 have p110 : 0 ≤ ((rd t106 x20_2) : Int) := zde zq27
 have q110 : (rd t106 x20_2) < (x3_2.length : Int) := zde zq27
 obtain ⟨ad110, e110, hx110_0⟩ := Kd.at_int (zRr HO_3.out).2.2 (rd t106 x20_2) p110 q110
 cases e110
 replace p110 := eq_true p110
 replace q110 := eq_true q110
 have p19 : 0 ≤ ((rd t106 x20_2) : Int) := zde zq27
 have q19 : ((rd t106 x20_2) : Int) < ((x3_2.length : Int) : Int) := zde zq27
 obtain ⟨go19, co19, eo19, gb19, gl19, cl19, HG19⟩ := Kd.R_form HO_3.out (by omega)
 (first | cases eo19 | (injection eo19 with ea_ en_ ec_; (first | subst ea_ | (injection ea_ with ea_; subst ea_)); subst ec_; clear en_))
 have GB19 := zA gb19
 have GG19 := zA HG19
 clear gb19 gl19 HG19
 (first | simp only [add_plain] at hx110_0 | skip)
 obtain ⟨hx19_0, hf19_0⟩ := Kd.R_celln 0 HO_3.out ((rd t106 x20_2) : Int) p19 q19
 replace p19 := eq_true p19
 replace q19 := eq_true q19
 have HP21 := Kd.R_putg HO_3.out ((rd t106 x20_2) : Int) (wrap64 ((rd x3_2 (rd t106 x20_2)) + 1))
 go_wp2_with (first | ((with_reducible refine zgs 3 29 ?_); refine zse (wr.setCell ⟨go19, ((rd t106 x20_2) : Int).toNat, none⟩ (.int .i64 (wrap64 ((rd x3_2 (rd t106 x20_2)) + 1)))) ?_; intro w22 hw; have hg : wr.grownBy w22 (some go19) := (by rw [hw]; exact HP21.2); have hp_ : Kd.R (Kd.int .i64) 3 w22 w.heap.size (fun k_ => some k_ ≠ (.slice (some ad109) t106.length co13 : Value).ownBlock) (.slice (some ⟨go19, 0, none⟩) x3_2.length co20) y111 := (by rw [hw, Ny111.out]; exact HP21.1); clear HP21; replace HO_18 := zA (Kd.R_after (v := (.slice (some ⟨go19, 0, none⟩) x3_2.length co20)) (v1 := (.slice (some ⟨go19, 0, none⟩) x3_2.length co20)) (ok := (fun _ => True)) (by (with_reducible repeat (first | apply zRa | apply zRn | apply zRd)); exact Kd.R_mono HO_18.out (fun _ hk => ⟨trivial, hk⟩)) hg (.inl rfl)); replace BK105 := zA (blk_grown (g := gb105) (o := .cells #[.string ((rd_T72 l0 x13_1).f0), .int .i64 ((rd_T72 l0 x13_1).f1), .int .i64 ((rd_T72 l0 x13_1).f2), .int .i64 ((rd_T72 l0 x13_1).f3)] 72 (0, 0)) (zq7 BK105) hg (Kd.R_ne HO_3.out BK105.out (by decide))); replace HO_3 := zA (hp_); replace HB := zA ((zq38 GB19 : Below w.heap.size w w22)); clear hg hw hp_))
 go_roundg k2
 case measure => have := HK1.out; have := HK2.out; omega
 case rel => exact ⟨(y111), (wrap64 (x20_2 + 1)), zq5, H', ⟨zq44 HK1 HK2⟩, ⟨zq2 HO_3⟩, ⟨zq31 HO_18⟩, ⟨zq7 BK105⟩, ⟨zq3 GE105⟩⟩
end Go.Proofs.Ytkfkbmlbpeojaaa.Q
end
section
namespace Go.Proofs.Ytkfkbmlbpeojaaa.Q
open Go.RowKit Go.Proofs.YtkfkbmlbpeojaaaW.PrintWords Go.Proofs.YtkfkbmlbpeojaaaW.PrintLast Go.Proofs.YtkfkbmlbpeojaaaW.PrintMore
set_option maxHeartbeats 8000000
set_option maxRecDepth 100000
attribute [local go_sem] max2_int min2_int max_two min_two max_three min_three max_four min_four
set_option linter.unusedVariables false
set_option linter.unusedSimpArgs false
def spec_l1Has.l0 : Nat → Int → List Int → Int → Int → Option (Bool)
 | 0, _, _, _, _ => none
 | k + 1, x1, x7, x8, x9 => if x9 < x8 then (if 0 ≤ x9 then (if x9 < (x7.length : Int) then (if (rd x7 x9) = x1 then (some true) else (spec_l1Has.l0 k x1 x7 x8 (wrap64 (x9 + 1)))) else (none)) else (none)) else (some false)
def spec_l1Has.f (k : Nat) (l0 : List Int) (a1 : Int) : Option (Bool) := spec_l1Has.l0 k a1 l0 (l0.length : Int) 0
theorem spec_l1Has.mono_l : ∀ k, (∀ y0 y1 y2 y3, LeO (spec_l1Has.l0 k y0 y1 y2 y3) (spec_l1Has.l0 (k + 1) y0 y1 y2 y3))
 | 0 => fun _ _ _ _ r h => by simp [spec_l1Has.l0] at h
 | k + 1 => by
   have ih0 := spec_l1Has.mono_l k
   · intro y0 y1 y2 y3
     unfold spec_l1Has.l0
     exact zm1 ih0
theorem spec_l1Has.mono : ∀ a0 a1 k, LeO (spec_l1Has.f k a0 a1) (spec_l1Has.f (k + 1) a0 a1) := by
 intro a0 a1 k
 have ih0 := spec_l1Has.mono_l k
 unfold spec_l1Has.f
 exact zm1 ih0
theorem spec_l1Has.calls (k : Nat) (A0 : Option Addr) (c0 : Nat) (l0 : List Int) (a1 : Int) (r : Bool) (w : World) (hr0 : Kd.C (Kd.int .i64) w A0 l0.length l0) (hc0 : l0.length ≤ c0) (h : spec_l1Has.f k l0 a1 = some r) :
   Calls Try.prog 93 #[.slice A0 l0.length c0, .int .i64 a1] w fun e w' => e = .returned (.bool r) ∧ Drawn0 w w' := by
 have HR0 := zA hr0
 have HC0 := zA hc0
 clear hr0 hc0
 have H : (spec_l1Has.l0 k a1 l0 (l0.length : Int) 0) = some r := h
 clear h
 have H' := zA H
 clear H
 go_enter Try.func93, Try.ntmps93
 go_wp2
 go_loopg [9] k (fun kq v9 w' => ∃ (x9_1 : Int), v9 = .int .i64 x9_1 ∧ Aside0 (spec_l1Has.l0 kq a1 l0 (l0.length : Int) x9_1 = some r) ∧ Aside0 (kq ≤ k) ∧ Drawn0 w w')
 case atStart => exact ⟨(0), zq5, H', ⟨zlr _⟩, zq6⟩
 clear H'
 obtain ⟨x9_1, rfl, HA, HK1, ⟨m1, rfl⟩⟩ := hrel
 cases gk with
 | zero => exact absurd HA.out (by simp [spec_l1Has.l0])
 | succ k1 =>
 have H := HA.out
 clear HA
 simp only [spec_l1Has.l0] at H
 revert H
 refine zit (fun c3 H => ?_) fun c3 H => ?_
 rotate_left
 · obtain rfl := zsi H
   exact zr_6
 revert H
 refine zin fun c4 H => ?_
 revert H
 refine zin fun c5 H => ?_
 by_cases c6 : (rd l0 x9_1) = a1
 · rw [if_pos c6] at H
   obtain ⟨c6b0, c6b1⟩ := zbe c6
   clear c6
   obtain rfl := zsi H
   obtain ⟨p101, q101⟩ := zpq x9_1 l0.length
   obtain ⟨ad101, e101, hx101_0⟩ := Kd.at_int HR0.out x9_1 (zoe p101) (zoe q101)
   cases e101
   exact zr_6
 rw [if_neg c6] at H
 obtain ⟨c6b0, c6b1⟩ := zbq c6
 have H' := zA H
 clear H
 obtain ⟨p101, q101⟩ := zpq x9_1 l0.length
 obtain ⟨ad101, e101, hx101_0⟩ := Kd.at_int HR0.out x9_1 (zoe p101) (zoe q101)
 cases e101
 go_wp2
 go_roundg k1
 case measure => have := HK1.out; omega
 case rel => exact ⟨(wrap64 (x9_1 + 1)), zq5, H', ⟨zq39 HK1⟩, zq6⟩
def spec_exGood.l0 : Nat → List (S72) → List (S72) → Int → Int → Option (Bool)
 | 0, _, _, _, _ => none
 | k + 1, x0, x9, x10, x11 => if x11 < x10 then (if 0 ≤ x11 then (if x11 < (x9.length : Int) then ((spec_exNode.f k ((rd_T72 x9 x11).f0) ((rd_T72 x9 x11).f1) ((rd_T72 x9 x11).f2) ((rd_T72 x9 x11).f3) x11).bind fun t104 => (if t104 = true then (spec_exGood.l0 k x0 x9 x10 (wrap64 (x11 + 1))) else (some false))) else (none)) else (none)) else ((spec_exUses.f k x0).bind fun t105 => (if 0 ≤ (wrap64 ((x0.length : Int) - 1)) then (if (wrap64 ((x0.length : Int) - 1)) ≤ (t105.length : Int) then ((spec_l1Has.f k (t105.take ((wrap64 ((x0.length : Int) - 1)) : Int).toNat) 0).bind fun t112 => (some (!t112))) else (none)) else (none)))
def spec_exGood.f (k : Nat) (l0 : List (S72)) : Option (Bool) := (spec_l1In.f (l0.length : Int) 1 24).bind fun t101 => (if t101 = true then (spec_exGood.l0 k l0 l0 (l0.length : Int) 0) else (some false))
theorem spec_exGood.mono_l : ∀ k, (∀ y0 y1 y2 y3, LeO (spec_exGood.l0 k y0 y1 y2 y3) (spec_exGood.l0 (k + 1) y0 y1 y2 y3))
 | 0 => fun _ _ _ _ r h => by simp [spec_exGood.l0] at h
 | k + 1 => by
   have ih0 := spec_exGood.mono_l k
   · intro y0 y1 y2 y3
     unfold spec_exGood.l0
     exact zm4 ih0 spec_exNode.mono spec_exUses.mono spec_l1Has.mono
theorem spec_exGood.mono : ∀ a0 k, LeO (spec_exGood.f k a0) (spec_exGood.f (k + 1) a0) := by
 intro a0 k
 have ih0 := spec_exGood.mono_l k
 unfold spec_exGood.f
 exact zm4 ih0 spec_exNode.mono spec_exUses.mono spec_l1Has.mono
theorem spec_exGood.calls (k : Nat) (A0 : Option Addr) (c0 : Nat) (l0 : List (S72)) (r : Bool) (w : World) (hr0 : Kd.C k72 w A0 l0.length l0) (hc0 : l0.length ≤ c0) (h : spec_exGood.f k l0 = some r) :
   Calls Try.prog 43 #[.slice A0 l0.length c0] w fun e w' => e = .returned (.bool r) ∧ Below w.heap.size w w' := by
 have hu72 := Try.underlying72
 have HR0 := zA hr0
 have HC0 := zA hc0
 clear hr0 hc0
 have HB := zA (Below.refl w.heap.size w)
 have H : ((spec_l1In.f (l0.length : Int) 1 24).bind fun t101 => (if t101 = true then (spec_exGood.l0 k l0 l0 (l0.length : Int) 0) else (some false))) = some r := h
 clear h
 replace H := zob H
 obtain ⟨t101, A20, H⟩ := H
 replace H : (if t101 = true then (spec_exGood.l0 k l0 l0 (l0.length : Int) 0) else (some false)) = some r := H
 have A2 := zA A20
 clear A20
 by_cases c3 : t101 = true
 rotate_left
 · replace c3 := zbf c3
   subst c3
   replace H := zif H
   obtain rfl := zsi H
   go_enter Try.func43, Try.ntmps43
   go_wp2_with (first | ((with_reducible refine zgc 50 ?_); refine zcl 7 Try.func50 (spec_l1In.calls (l0.length : Int) 1 24 false _ A2.out) ?_; rintro e w' ⟨rfl, ⟨nd, rfl⟩⟩; refine ⟨_, rfl, ?_⟩))
   exact zr_3
 subst c3
 replace H := zih H
 have H' := zA H
 clear H
 go_enter Try.func43, Try.ntmps43
 go_wp2_with (first | ((with_reducible refine zgc 50 ?_); refine zcl 7 Try.func50 (spec_l1In.calls (l0.length : Int) 1 24 true _ A2.out) ?_; rintro e w' ⟨rfl, ⟨nd, rfl⟩⟩; refine ⟨_, rfl, ?_⟩))
 go_loopg [11] k (fun kq v11 w' => ∃ (x11_1 : Int), v11 = .int .i64 x11_1 ∧ Aside0 (spec_exGood.l0 kq l0 l0 (l0.length : Int) x11_1 = some r) ∧ Aside0 (kq ≤ k) ∧ Aside0 (Below w.heap.size w w'))
 case atStart => exact ⟨(0), zq5, H', ⟨zlr _⟩, ⟨zq1⟩⟩
 clear H'
 try clear c3
 obtain ⟨x11_1, rfl, HA, HK1, HB⟩ := hrel
 cases gk with
 | zero => exact absurd HA.out (by simp [spec_exGood.l0])
 | succ k1 =>
 have H := HA.out
 clear HA
 simp only [spec_exGood.l0] at H
 revert H
 refine zit (fun c4 H => ?_) fun c4 H => ?_
 rotate_left
 · replace H := zob H
   obtain ⟨t105, A150, H⟩ := H
   replace H : (if 0 ≤ (wrap64 ((l0.length : Int) - 1)) then (if (wrap64 ((l0.length : Int) - 1)) ≤ (t105.length : Int) then ((spec_l1Has.f k1 (t105.take ((wrap64 ((l0.length : Int) - 1)) : Int).toNat) 0).bind fun t112 => (some (!t112))) else (none)) else (none)) = some r := H
   have A15 := zA A150
   clear A150
   obtain ⟨ji16, hji16⟩ : ∃ j_ : Int, (wrap64 ((l0.length : Int) - 1)) = j_ := ⟨_, rfl⟩
   replace H : (if 0 ≤ (ji16) then (if (ji16) ≤ (t105.length : Int) then ((spec_l1Has.f k1 (t105.take ((ji16) : Int).toNat) 0).bind fun t112 => (some (!t112))) else (none)) else (none)) = some r := by first | (rw [hji16] at H; exact H) | (simp only [hji16] at H ⊢; exact H)
   (try rw [hji16] at A15)
   have hji16w : (IntKind.i64.wrap ((l0.length : Int) - 1)) = ji16 := (i64_w _).trans hji16
   by_cases c17 : 0 ≤ (ji16)
   rotate_left
   · rw [if_neg c17] at H
     exact absurd H (by simp)
   rw [if_pos c17] at H
   have c17b0 := eq_true c17
   have c17b1 := zdt c17
   clear c17
   by_cases c18 : (ji16) ≤ (t105.length : Int)
   rotate_left
   · rw [if_neg c18] at H
     exact absurd H (by simp)
   rw [if_pos c18] at H
   have c18b0 := eq_true c18
   have c18b1 := zdt c18
   clear c18
   obtain ⟨y108, hy108⟩ : ∃ y_ : List Int, y_ = (t105.take ((ji16) : Int).toNat) := ⟨_, rfl⟩
   replace H : ((spec_l1Has.f k1 y108 0).bind fun t112 => (some (!t112))) = some r := by first | (rw [hy108]; with_reducible exact H) | (have H2_ := (Option.bind_some _ _).symm.trans H; rw [hy108]; with_reducible exact H2_) | (have H2_ := (Option.bind_some _ _).symm.trans H; with_reducible exact H2_) | with_reducible exact H | (rw [hy108]; exact H) | exact H
   have Ny108 := zA hy108
   clear hy108
   replace H := zob H
   obtain ⟨t112, A190, H⟩ := H
   replace H : (some (!t112)) = some r := H
   have A19 := zA A190
   clear A190
   obtain rfl := zsi H
   go_wp2_with (first | ((with_reducible refine zgc 94 ?_); refine zca 22 Try.func94 #[.slice A0 l0.length c0] (spec_exUses.calls k1 _ _ l0 t105 _ (zq10 HR0) HC0.out A15.out) ?_; rintro e w20 ⟨v106, rfl, ho0, hb⟩; refine ⟨_, rfl, ?_⟩; have HO107 := zA (Kd.R_lower ho0 (below_size zq1)); replace HB := zA (below_step zq1 hb); (try clear hb); (try clear ho0); obtain ⟨Ao22, co22, eo22⟩ := Kd.R_slice HO107.out; subst eo22; have q21 : ((ji16) : Int) ≤ ((t105.length : Int) : Int) := zde zq27; obtain ⟨i021, hi021, _, hsz21, _⟩ := info_parts info3; have hroom21 : t105.length ≤ co22 := (zRr HO107.out).2.1; have hC21 : Kd.C (Kd.int .i64) _ Ao22 t105.length t105 := (zRr HO107.out).2.2; have hcut21 := cut_to (P := Try.prog) 51 3 .i64 Try.underlying51 hi021 Ao22 t105.length co22 (ji16) (zde zq27) q21 hroom21; have hr21 := Kd.C_take (m := ((ji16) : Int).toNat) hC21 (by omega); have hy21 : y108.length = ((ji16) : Int).toNat := (by rw [Ny108.out, List.length_take]; omega); rw [← Ny108.out] at hr21; rw [← hy21] at hcut21; have HR111 := zA hr21; have HC111 := zA (show y108.length ≤ co22 from by omega); clear hr21 hC21 hroom21 hi021 hsz21; have KY21 := zA hy21; clear hy21; have KL21 := zA (show ((ji16) : Int).toNat ≤ t105.length from by omega); replace q21 := eq_true q21) | ((with_reducible refine zgc 93 ?_); refine zca 27 Try.func93 #[.slice Ao22 y108.length co22, .int .i64 0] (spec_l1Has.calls k1 _ _ y108 0 t112 _ (zq50 HR111) HC111.out A19.out) ?_; rintro e w' ⟨rfl, ⟨nd, rfl⟩⟩; refine ⟨_, rfl, ?_⟩))
   go_ret
   exact ⟨zq51, zq1⟩
 revert H
 refine zin fun c5 H => ?_
 revert H
 refine zin fun c6 H => ?_
 replace H := zob H
 obtain ⟨t104, A70, H⟩ := H
 replace H : (if t104 = true then (spec_exGood.l0 k1 l0 l0 (l0.length : Int) (wrap64 (x11_1 + 1))) else (some false)) = some r := H
 have A7 := zA A70
 clear A70
 by_cases c8 : t104 = true
 rotate_left
 · replace c8 := zbf c8
   subst c8
   replace H := zif H
   obtain rfl := zsi H
   obtain ⟨p102, q102⟩ := zpq x11_1 l0.length
   obtain ⟨ad102, e102, hx102_0, hx102_1, hx102_2, hx102_3⟩ := at_T72 HR0.out x11_1 (zoe p102) (zoe q102)
   cases e102
   replace hx102_0 := zkep HB.out hx102_0
   replace hx102_1 := zkep HB.out hx102_1
   replace hx102_2 := zkep HB.out hx102_2
   replace hx102_3 := zkep HB.out hx102_3
   go_wp2_with (first | ((with_reducible refine zgd 4 ?_); refine zbh zq1 #[.string (⟨#[]⟩ : ByteArray), .int .i64 0, .int .i64 0, .int .i64 0] 72 ?_; clear HB; intro gb103 w12 HB BK103 GW103; have GE103 := GW103; obtain ⟨hcz13_0, hcz13_1, hcz13_2, hcz13_3, hfz13_0, hfz13_1, hfz13_2, hfz13_3⟩ := zd4 BK103) | ((with_reducible refine zgc 92 ?_); refine zcl 18 Try.func92 (spec_exNode.calls k1 ((rd_T72 l0 x11_1).f0) ((rd_T72 l0 x11_1).f1) ((rd_T72 l0 x11_1).f2) ((rd_T72 l0 x11_1).f3) x11_1 false _ A7.out) ?_; rintro e w14 ⟨rfl, hb⟩; refine ⟨_, rfl, ?_⟩; replace BK103 := zA (blk_below (g := gb103) (o := .cells #[.string ((rd_T72 l0 x11_1).f0), .int .i64 ((rd_T72 l0 x11_1).f1), .int .i64 ((rd_T72 l0 x11_1).f2), .int .i64 ((rd_T72 l0 x11_1).f3)] 72 (0, 0)) (zq23 BK103) hb); replace HB := zA (below_step (zq3 GE103) hb); (try clear hb)))
   go_ret
   exact ⟨zq4, zq3 GE103⟩
 subst c8
 replace H := zih H
 have H' := zA H
 clear H
 obtain ⟨p102, q102⟩ := zpq x11_1 l0.length
 obtain ⟨ad102, e102, hx102_0, hx102_1, hx102_2, hx102_3⟩ := at_T72 HR0.out x11_1 (zoe p102) (zoe q102)
 cases e102
 replace hx102_0 := zkep HB.out hx102_0
 replace hx102_1 := zkep HB.out hx102_1
 replace hx102_2 := zkep HB.out hx102_2
 replace hx102_3 := zkep HB.out hx102_3
 go_wp2_with (first | ((with_reducible refine zgd 4 ?_); refine zbh zq1 #[.string (⟨#[]⟩ : ByteArray), .int .i64 0, .int .i64 0, .int .i64 0] 72 ?_; clear HB; intro gb103 w9 HB BK103 GW103; have GE103 := GW103; obtain ⟨hcz10_0, hcz10_1, hcz10_2, hcz10_3, hfz10_0, hfz10_1, hfz10_2, hfz10_3⟩ := zd4 BK103) | ((with_reducible refine zgc 92 ?_); refine zcl 18 Try.func92 (spec_exNode.calls k1 ((rd_T72 l0 x11_1).f0) ((rd_T72 l0 x11_1).f1) ((rd_T72 l0 x11_1).f2) ((rd_T72 l0 x11_1).f3) x11_1 true _ A7.out) ?_; rintro e w11 ⟨rfl, hb⟩; refine ⟨_, rfl, ?_⟩; replace BK103 := zA (blk_below (g := gb103) (o := .cells #[.string ((rd_T72 l0 x11_1).f0), .int .i64 ((rd_T72 l0 x11_1).f1), .int .i64 ((rd_T72 l0 x11_1).f2), .int .i64 ((rd_T72 l0 x11_1).f3)] 72 (0, 0)) (zq23 BK103) hb); replace HB := zA (below_step (zq3 GE103) hb); (try clear hb)))
 go_roundg k1
 case measure => have := HK1.out; omega
 case rel => exact ⟨(wrap64 (x11_1 + 1)), zq5, H', ⟨zq39 HK1⟩, ⟨zq3 GE103⟩⟩
def spec_vaNode.f (l0 : List (S72)) (a1_0 : ByteArray) (a1_1 : Int) (a1_2 : Int) (a1_3 : Int) : Option ((List (S72)) × Int) := if l0.length < 3518437208883 then (some ((l0 ++ [(⟨a1_0, a1_1, a1_2, a1_3⟩ : S72)]), (l0.length : Int))) else (none)
theorem spec_vaNode.calls (P0_ : Nat → Prop) (u9000_ : Value) (l0 : List (S72)) (a1_0 : ByteArray) (a1_1 : Int) (a1_2 : Int) (a1_3 : Int) (r1 : List (S72)) (r2 : Int) (w0 w : World) (hB : Below w0.heap.size w0 w) (ho0 : Kd.R k72 72 w w0.heap.size P0_ u9000_ l0) (h : spec_vaNode.f l0 a1_0 a1_1 a1_2 a1_3 = some (r1, r2)) :
   Calls Try.prog 164 #[u9000_, .agg #[.string a1_0, .int .i64 a1_1, .int .i64 a1_2, .int .i64 a1_3]] w fun e w' => ∃ v0_ : Value, e = .returned (.tuple #[v0_, .int .i64 r2]) ∧ Kd.R k72 72 w' w0.heap.size (fun k_ => (P0_ k_ ∨ w.heap.size ≤ k_)) v0_ r1 ∧ Below w0.heap.size w0 w' ∧ Kept w w' (fun k_ => P0_ k_) := by
 obtain ⟨A9_, c9_, rfl⟩ := Kd.R_slice ho0
 have hu72 := Try.underlying72
 have HO0 := zA (show Kd.R k72 72 w w0.heap.size (fun k_ => (P0_ k_ ∨ w.heap.size ≤ k_)) (.slice A9_ l0.length c9_) l0 from Kd.R_mono ho0 (fun k_ hk => (.inl hk)))
 have HK := zA (Kept.refl w (fun k_ => P0_ k_))
 have HW0 := zA hB.size
 have HB := zA hB
 clear hB
 have H : (if l0.length < 3518437208883 then (some ((l0 ++ [(⟨a1_0, a1_1, a1_2, a1_3⟩ : S72)]), (l0.length : Int))) else (none)) = some (r1, r2) := h
 clear h
 by_cases c3 : l0.length < 3518437208883
 · rw [if_pos c3] at H
   have LMc3 := zA c3
   clear c3
   obtain ⟨y102, hy102⟩ : ∃ y_ : List (S72), y_ = (l0 ++ [(⟨a1_0, a1_1, a1_2, a1_3⟩ : S72)]) := ⟨_, rfl⟩
   replace H : (some (y102, (l0.length : Int))) = some (r1, r2) := by first | (rw [hy102]; with_reducible exact H) | (have H2_ := (Option.bind_some _ _).symm.trans H; rw [hy102]; with_reducible exact H2_) | (have H2_ := (Option.bind_some _ _).symm.trans H; with_reducible exact H2_) | with_reducible exact H | (rw [hy102]; exact H) | exact H
   have Ny102 := zA hy102
   clear hy102
   simp only [Option.some.injEq, Prod.mk.injEq] at H
   obtain ⟨rfl, rfl⟩ := H
   go_enter Try.func164, Try.ntmps164
   go_wp2_with (first | ((with_reducible refine zgd 3 ?_); refine zbx #[.string a1_0, .int .i64 a1_1, .int .i64 a1_2, .int .i64 a1_3] 72 ?_; intro gb101 hg w4 hbox hb; replace HO0 := zA (zRb (Kd.R_elderB (zq2 HO0) gb101 (Nat.le_of_eq hg.symm)) hb); have BK101 := zA (hbox); have GW101 := zA ((by rw [hg]; exact (by first | exact HK.out.1 | exact (show Kept w _ (fun k_ => P0_ k_) from by repeat (first | (with_reducible first | exact HK.out | apply Kept.alloc | apply Kept.drewN | apply Kept.drew) | exact HK.out)).1) : w.heap.size ≤ gb101)); replace HK := zA (Kept.below (S := (fun k_ => P0_ k_)) (by repeat (first | (with_reducible first | exact HK.out | apply Kept.alloc | apply Kept.drewN | apply Kept.drew) | exact HK.out)) hb); have GE101 := zA ((by rw [hg]; exact (below_size zq1) : w0.heap.size ≤ gb101)); replace HB := zA (below_step zq1 hb); clear hb hbox hg; obtain ⟨hcz5_0, hcz5_1, hcz5_2, hcz5_3, hfz5_0, hfz5_1, hfz5_2, hfz5_3⟩ := zd4 BK101) | ((with_reducible refine gate_builtin (b := .append) (xs := #[.tmp 6, .tmp 8]) rfl ?_); at_builtin; refine Kd.R_append k72 (w0 := w0) w0.heap.size rfl (.tmp 6) (.tmp 8) 24 72 (.agg #[(.string ⟨#[]⟩), (.int .i64 0), (.int .i64 0), (.int .i64 0)]) 40 rfl Try.underlying24 info72 rfl (by decide) (by omega) (.slice A9_ l0.length c9_) l0 (⟨a1_0, a1_1, a1_2, a1_3⟩ : S72) [.string a1_0, .int .i64 a1_1, .int .i64 a1_2, .int .i64 a1_3] (fun k_ => (P0_ k_ ∨ w.heap.size ≤ k_) ∧ k_ ≠ gb101) (fun _ => False) rfl rfl ?aP (fun _ hk => hk.elim) ?aF ?aO ?aB ?aS ?aL ?_; (case aP => exact k72_mkM _ _ _ (⟨a1_0, a1_1, a1_2, a1_3⟩ : S72)); (case aB => exact (zq3 GE101)); (case aF => exact (fun k_ hk => ⟨(.inr (Nat.le_trans (by first | exact HK.out.1 | exact (show Kept w _ (fun k_ => P0_ k_) from by repeat (first | (with_reducible first | exact HK.out | apply Kept.alloc | apply Kept.drewN | apply Kept.drew | refine Kept.setCell ?_ (.inr GW101.out) _) | exact HK.out)).1) hk)), Kd.freshB (g := gb101) (o := .cells #[.string a1_0, .int .i64 a1_1, .int .i64 a1_2, .int .i64 a1_3] 72 (0, 0)) (zq7 BK101) k_ hk⟩)); (case aO => exact (zq2 HO0)); (case aS => exact (below_size (zq3 GE101))); (case aL => have := LMc3.out; omega); intro v103 w6 ho hb hg hat; rw [← Ny102.out] at ho; replace BK101 := zA (blk_grown (g := gb101) (o := .cells #[.string a1_0, .int .i64 a1_1, .int .i64 a1_2, .int .i64 a1_3] 72 (0, 0)) (zq7 BK101) hg (Kd.R_away HO0.out (fun _ hk => hk.2))); replace HB := zA (hb); replace HK := zA (Kept.of_grown (S := (fun k_ => P0_ k_)) hg (zq59 GW101) (fun k_ e_ => (HO0.out.1 k_ e_).1)); have HO104 := zA (ho); clear HO0; clear ho hb hg hat))
   go_ret2
   exact ⟨_, zq4, by (with_reducible repeat (first | apply zRa | apply zRn | apply zRd)); exact Kd.R_mono HO104.out (fun _ hk => hk.1), zq3 GE101, zq59 GW101⟩
 · rw [if_neg c3] at H
   exact absurd H (by simp)
end Go.Proofs.Ytkfkbmlbpeojaaa.Q
end
section
namespace Go.Proofs.Ytkfkbmlbpeojaaa.Q
open Go.RowKit Go.Proofs.YtkfkbmlbpeojaaaW.PrintWords Go.Proofs.YtkfkbmlbpeojaaaW.PrintLast Go.Proofs.YtkfkbmlbpeojaaaW.PrintMore
set_option maxHeartbeats 8000000
set_option maxRecDepth 100000
attribute [local go_sem] max2_int min2_int max_two min_two max_three min_three max_four min_four
set_option linter.unusedVariables false
set_option linter.unusedSimpArgs false
mutual
def spec_vaSymbols.l0 : Nat → List (S72) → List Int → List (S94) → Int → Int → Option ((List (S72)) × List Int)
 | 0, _, _, _, _, _ => none
 | k + 1, x4, x5, x15, x16, x17 => if x17 < x16 then (if 0 ≤ x17 then (if x17 < (x15.length : Int) then (if ((rd_T94 x15 x17).f0).toList = ([115, 101, 116] : List UInt8) then ((spec_vaNode.f x4 (⟨#[99, 111, 110, 115, 116]⟩ : ByteArray) 0 0 ((rd_T94 x15 x17).f4)).bind fun bt110 => (if 0 ≤ ((rd_T94 x15 x17).f1) then (if ((rd_T94 x15 x17).f1) < (x5.length : Int) then (spec_vaSymbols.l0 k bt110.1 (x5.set (((rd_T94 x15 x17).f1) : Int).toNat bt110.2) x15 x16 (wrap64 (x17 + 1))) else (none)) else (none))) else (if ((rd_T94 x15 x17).f0).toList = ([109, 111, 118] : List UInt8) then (if 0 ≤ ((rd_T94 x15 x17).f2) then (if ((rd_T94 x15 x17).f2) < (x5.length : Int) then (if 0 ≤ ((rd_T94 x15 x17).f1) then (if ((rd_T94 x15 x17).f1) < (x5.length : Int) then (spec_vaSymbols.l0 k x4 (x5.set (((rd_T94 x15 x17).f1) : Int).toNat (rd x5 ((rd_T94 x15 x17).f2))) x15 x16 (wrap64 (x17 + 1))) else (none)) else (none)) else (none)) else (none)) else (if ((rd_T94 x15 x17).f0).toList = ([97, 100, 100, 105] : List UInt8) then (spec_vaSymbols.j1 k x4 x5 x15 x16 x17 ((rd_T94 x15 x17).f0) (((rd_T94 x15 x17).f0).toList == ([97, 100, 100, 105] : List UInt8)) ((rd_T94 x15 x17).f0) ((rd_T94 x15 x17).f1) ((rd_T94 x15 x17).f2) ((rd_T94 x15 x17).f3) ((rd_T94 x15 x17).f4) (⟨#[99, 111, 110, 115, 116]⟩ : ByteArray) 0 0 ((rd_T94 x15 x17).f4)) else (if ((rd_T94 x15 x17).f0).toList = ([97, 110, 100, 105] : List UInt8) then (spec_vaSymbols.j1 k x4 x5 x15 x16 x17 ((rd_T94 x15 x17).f0) (((rd_T94 x15 x17).f0).toList == ([97, 110, 100, 105] : List UInt8)) ((rd_T94 x15 x17).f0) ((rd_T94 x15 x17).f1) ((rd_T94 x15 x17).f2) ((rd_T94 x15 x17).f3) ((rd_T94 x15 x17).f4) (⟨#[99, 111, 110, 115, 116]⟩ : ByteArray) 0 0 ((rd_T94 x15 x17).f4)) else (if ((rd_T94 x15 x17).f0).toList = ([120, 111, 114, 105] : List UInt8) then (spec_vaSymbols.j1 k x4 x5 x15 x16 x17 ((rd_T94 x15 x17).f0) (((rd_T94 x15 x17).f0).toList == ([120, 111, 114, 105] : List UInt8)) ((rd_T94 x15 x17).f0) ((rd_T94 x15 x17).f1) ((rd_T94 x15 x17).f2) ((rd_T94 x15 x17).f3) ((rd_T94 x15 x17).f4) (⟨#[99, 111, 110, 115, 116]⟩ : ByteArray) 0 0 ((rd_T94 x15 x17).f4)) else (if ((rd_T94 x15 x17).f0).toList = ([115, 104, 108, 105] : List UInt8) then (spec_vaSymbols.j1 k x4 x5 x15 x16 x17 ((rd_T94 x15 x17).f0) (((rd_T94 x15 x17).f0).toList == ([115, 104, 108, 105] : List UInt8)) ((rd_T94 x15 x17).f0) ((rd_T94 x15 x17).f1) ((rd_T94 x15 x17).f2) ((rd_T94 x15 x17).f3) ((rd_T94 x15 x17).f4) (⟨#[99, 111, 110, 115, 116]⟩ : ByteArray) 0 0 ((rd_T94 x15 x17).f4)) else (spec_vaSymbols.j1 k x4 x5 x15 x16 x17 ((rd_T94 x15 x17).f0) (((rd_T94 x15 x17).f0).toList == ([115, 104, 114, 105] : List UInt8)) ((rd_T94 x15 x17).f0) ((rd_T94 x15 x17).f1) ((rd_T94 x15 x17).f2) ((rd_T94 x15 x17).f3) ((rd_T94 x15 x17).f4) (⟨#[99, 111, 110, 115, 116]⟩ : ByteArray) 0 0 ((rd_T94 x15 x17).f4)))))))) else (none)) else (none)) else (some (x4, x5))
def spec_vaSymbols.j1 : Nat → List (S72) → List Int → List (S94) → Int → Int → ByteArray → Bool → ByteArray → Int → Int → Int → Int → ByteArray → Int → Int → Int → Option ((List (S72)) × List Int)
 | 0, _, _, _, _, _, _, _, _, _, _, _, _, _, _, _, _ => none
 | k + 1, x4, x5, x15, x16, x17, x25, x59, x109000, x109001, x109002, x109003, x109004, x110000, x110001, x110002, x110003 => if x59 = true then ((spec_vaNode.f x4 x110000 x110001 x110002 x110003).bind fun bt117 => (if 0 ≤ (wrap64 ((x109000.size : Int) - 1)) then (if (wrap64 ((x109000.size : Int) - 1)) ≤ (x109000.size : Int) then (if 0 ≤ x109002 then (if x109002 < (x5.length : Int) then ((spec_vaNode.f bt117.1 (x109000.extract 0 ((wrap64 ((x109000.size : Int) - 1)) : Int).toNat) (rd x5 x109002) bt117.2 0).bind fun bt122 => (if 0 ≤ x109001 then (if x109001 < (x5.length : Int) then (spec_vaSymbols.l0 k bt122.1 (x5.set (x109001 : Int).toNat bt122.2) x15 x16 (wrap64 (x17 + 1))) else (none)) else (none))) else (none)) else (none)) else (none)) else (none))) else (if x25.toList = ([108, 101, 97] : List UInt8) then ((spec_vaNode.f x4 x110000 x110001 x110002 x110003).bind fun bt127 => (if 0 ≤ x109003 then (if x109003 < (x5.length : Int) then ((spec_vaNode.f bt127.1 (⟨#[115, 104, 108]⟩ : ByteArray) (rd x5 x109003) bt127.2 0).bind fun bt132 => (if 0 ≤ x109002 then (if x109002 < (x5.length : Int) then ((spec_vaNode.f bt132.1 (⟨#[97, 100, 100]⟩ : ByteArray) (rd x5 x109002) bt132.2 0).bind fun bt137 => (if 0 ≤ x109001 then (if x109001 < (x5.length : Int) then (spec_vaSymbols.l0 k bt137.1 (x5.set (x109001 : Int).toNat bt137.2) x15 x16 (wrap64 (x17 + 1))) else (none)) else (none))) else (none)) else (none))) else (none)) else (none))) else (if x25.toList = ([110, 111, 116] : List UInt8) then (spec_vaSymbols.j2 k x4 x5 x15 x16 x17 (x25.toList == ([110, 111, 116] : List UInt8)) x109000 x109001 x109002 x109003 x109004) else (spec_vaSymbols.j2 k x4 x5 x15 x16 x17 (x25.toList == ([110, 101, 103] : List UInt8)) x109000 x109001 x109002 x109003 x109004)))
def spec_vaSymbols.j2 : Nat → List (S72) → List Int → List (S94) → Int → Int → Bool → ByteArray → Int → Int → Int → Int → Option ((List (S72)) × List Int)
 | 0, _, _, _, _, _, _, _, _, _, _, _ => none
 | k + 1, x4, x5, x15, x16, x17, x122, x109000, x109001, x109002, x109003, x109004 => if x122 = true then (if 0 ≤ x109002 then (if x109002 < (x5.length : Int) then ((spec_vaNode.f x4 x109000 (rd x5 x109002) 0 0).bind fun bt143 => (if 0 ≤ x109001 then (if x109001 < (x5.length : Int) then (spec_vaSymbols.l0 k bt143.1 (x5.set (x109001 : Int).toNat bt143.2) x15 x16 (wrap64 (x17 + 1))) else (none)) else (none))) else (none)) else (none)) else (if 0 ≤ x109002 then (if x109002 < (x5.length : Int) then (if 0 ≤ x109003 then (if x109003 < (x5.length : Int) then ((spec_vaNode.f x4 x109000 (rd x5 x109002) (rd x5 x109003) 0).bind fun bt150 => (if 0 ≤ x109001 then (if x109001 < (x5.length : Int) then (spec_vaSymbols.l0 k bt150.1 (x5.set (x109001 : Int).toNat bt150.2) x15 x16 (wrap64 (x17 + 1))) else (none)) else (none))) else (none)) else (none)) else (none)) else (none))
end
def spec_vaSymbols.f (k : Nat) (l0 : List (S94)) : Option ((List (S72)) × List Int) := spec_vaSymbols.l0 k (([(⟨(⟨#[105, 110]⟩ : ByteArray), 0, 0, 0⟩ : S72), (⟨(⟨#[105, 110]⟩ : ByteArray), 0, 0, 1⟩ : S72), (⟨(⟨#[99, 111, 110, 115, 116]⟩ : ByteArray), 0, 0, 0⟩ : S72)] : List (S72))) (([0, 1, 2, 2, 2, 2] : List Int)) l0 (l0.length : Int) 0
theorem spec_vaSymbols.mono_l : ∀ k, (∀ y0 y1 y2 y3 y4, LeO (spec_vaSymbols.l0 k y0 y1 y2 y3 y4) (spec_vaSymbols.l0 (k + 1) y0 y1 y2 y3 y4)) ∧ (∀ y0 y1 y2 y3 y4 y5 y6 y7 y8 y9 y10 y11 y12 y13 y14 y15, LeO (spec_vaSymbols.j1 k y0 y1 y2 y3 y4 y5 y6 y7 y8 y9 y10 y11 y12 y13 y14 y15) (spec_vaSymbols.j1 (k + 1) y0 y1 y2 y3 y4 y5 y6 y7 y8 y9 y10 y11 y12 y13 y14 y15)) ∧ (∀ y0 y1 y2 y3 y4 y5 y6 y7 y8 y9 y10, LeO (spec_vaSymbols.j2 k y0 y1 y2 y3 y4 y5 y6 y7 y8 y9 y10) (spec_vaSymbols.j2 (k + 1) y0 y1 y2 y3 y4 y5 y6 y7 y8 y9 y10))
 | 0 => ⟨fun _ _ _ _ _ r h => by simp [spec_vaSymbols.l0] at h, fun _ _ _ _ _ _ _ _ _ _ _ _ _ _ _ _ r h => by simp [spec_vaSymbols.j1] at h, fun _ _ _ _ _ _ _ _ _ _ _ r h => by simp [spec_vaSymbols.j2] at h⟩
 | k + 1 => by
   obtain ⟨ih0, ih1, ih2⟩ := spec_vaSymbols.mono_l k
   refine ⟨?_, ?_, ?_⟩
   · intro y0 y1 y2 y3 y4
     unfold spec_vaSymbols.l0
     exact zm3 ih0 ih1 ih2
   · intro y0 y1 y2 y3 y4 y5 y6 y7 y8 y9 y10 y11 y12 y13 y14 y15
     unfold spec_vaSymbols.j1
     exact zm3 ih0 ih1 ih2
   · intro y0 y1 y2 y3 y4 y5 y6 y7 y8 y9 y10
     unfold spec_vaSymbols.j2
     exact zm3 ih0 ih1 ih2
theorem spec_vaSymbols.mono : ∀ a0 k, LeO (spec_vaSymbols.f k a0) (spec_vaSymbols.f (k + 1) a0) := by
 intro a0 k
 obtain ⟨ih0, ih1, ih2⟩ := spec_vaSymbols.mono_l k
 unfold spec_vaSymbols.f
 exact zm3 ih0 ih1 ih2
def spec_vaSymbols.T9 : Bool × List (List Nat × List Nat) := (true, [([], []), ([], []), ([1], [1]), ([], []), ([], []), ([4], [4]), ([3, 5], [3, 5]), ([6], [6]), ([], []), ([], []), ([9], [9]), ([8, 10], [8, 10]), ([11], [11]), ([2, 7, 12], [2, 7, 12]), ([0, 13], [0, 13]), ([14], [14]), ([15], [15]), ([15], [15]), ([16, 14, 0, 1, 2, 3, 4, 5, 6, 7, 8, 9, 10, 11, 12, 13, 14, 15, 16], [0, 16]), ([17, 18, 0, 1, 2, 3, 4, 5, 6, 7, 8, 9, 10, 11, 12, 13, 14, 15, 16, 17, 18], [17])])
def spec_vaSymbols.B9 : List Nat := [0, 0, 2, 0, 0, 16, 56, 120, 0, 0, 512, 1792, 3840, 8190, 16383, 32767, 65535, 65535, 131071, 524287]
theorem spec_vaSymbols.tab9 : rtab .any (opsOf Try.f113 9) = spec_vaSymbols.T9 := by kernel_rfl
theorem spec_vaSymbols.bits9 : waitsOk spec_vaSymbols.T9.2 spec_vaSymbols.B9 = true := by kernel_rfl
def spec_vaSymbols.T20 : Bool × List (List Nat × List Nat) := (true, [([], []), ([], []), ([1], [1]), ([], []), ([3], [3]), ([4], [4]), ([5], [5]), ([2, 6], [2, 6]), ([], []), ([], []), ([9], [9]), ([8, 10], [8, 10]), ([11], [11]), ([], []), ([7, 12, 13], [7, 12, 13]), ([0, 14], [0, 14]), ([15], [15]), ([16], [16]), ([16], [16]), ([17, 15, 0, 1, 2, 3, 4, 5, 6, 7, 8, 9, 10, 11, 12, 13, 14, 15, 16, 17], [0, 17]), ([18, 19, 0, 1, 2, 3, 4, 5, 6, 7, 8, 9, 10, 11, 12, 13, 14, 15, 16, 17, 18, 19], [13, 18])])
def spec_vaSymbols.B20 : List Nat := [0, 0, 2, 0, 8, 24, 56, 126, 0, 0, 512, 1792, 3840, 0, 16382, 32767, 65535, 131071, 131071, 262143, 1048575]
theorem spec_vaSymbols.tab20 : rtab .any (opsOf Try.f113 20) = spec_vaSymbols.T20 := by kernel_rfl
theorem spec_vaSymbols.bits20 : waitsOk spec_vaSymbols.T20.2 spec_vaSymbols.B20 = true := by kernel_rfl
def spec_vaSymbols.T27 : Bool × List (List Nat × List Nat) := (true, [([], []), ([], []), ([1], [1]), ([], []), ([], []), ([4], [4]), ([3, 5], [3, 5]), ([6], [6]), ([2, 7], [2, 7]), ([0, 8], [0, 8]), ([9], [9]), ([10], [10]), ([10], [10]), ([11, 9, 0, 1, 2, 3, 4, 5, 6, 7, 8, 9, 10, 11], [0, 11]), ([12, 13, 0, 1, 2, 3, 4, 5, 6, 7, 8, 9, 10, 11, 12, 13], [12])])
def spec_vaSymbols.B27 : List Nat := [0, 0, 2, 0, 0, 16, 56, 120, 254, 511, 1023, 2047, 2047, 4095, 16383]
theorem spec_vaSymbols.tab27 : rtab .any (opsOf Try.f113 27) = spec_vaSymbols.T27 := by kernel_rfl
theorem spec_vaSymbols.bits27 : waitsOk spec_vaSymbols.T27.2 spec_vaSymbols.B27 = true := by kernel_rfl
theorem spec_vaSymbols.calls (k : Nat) (A0 : Option Addr) (c0 : Nat) (l0 : List (S94)) (r1 : List (S72)) (r2 : List Int) (w : World) (hr0 : Kd.C k94 w A0 l0.length l0) (hc0 : l0.length ≤ c0) (h : spec_vaSymbols.f k l0 = some (r1, r2)) :
   Calls Try.prog 113 #[.slice A0 l0.length c0] w fun e w' => ∃ v0_ v1_ : Value, e = .returned (.tuple #[v0_, v1_]) ∧ Kd.R k72 72 w' w.heap.size (fun _ => True) v0_ r1 ∧ Kd.R (Kd.int .i64) 3 w' w.heap.size (fun _ => True) v1_ r2 ∧ Below w.heap.size w w' := by
 have hu72 := Try.underlying72
 have hu94 := Try.underlying94
 have HR0 := zA hr0
 have HC0 := zA hc0
 clear hr0 hc0
 have HB := zA (Below.refl w.heap.size w)
 have H : (spec_vaSymbols.l0 k (([(⟨(⟨#[105, 110]⟩ : ByteArray), 0, 0, 0⟩ : S72), (⟨(⟨#[105, 110]⟩ : ByteArray), 0, 0, 1⟩ : S72), (⟨(⟨#[99, 111, 110, 115, 116]⟩ : ByteArray), 0, 0, 0⟩ : S72)] : List (S72))) (([0, 1, 2, 2, 2, 2] : List Int)) l0 (l0.length : Int) 0) = some (r1, r2) := h
 clear h
 obtain ⟨y101, hy101⟩ : ∃ y_ : List (S72), y_ = (([(⟨(⟨#[105, 110]⟩ : ByteArray), 0, 0, 0⟩ : S72), (⟨(⟨#[105, 110]⟩ : ByteArray), 0, 0, 1⟩ : S72), (⟨(⟨#[99, 111, 110, 115, 116]⟩ : ByteArray), 0, 0, 0⟩ : S72)] : List (S72))) := ⟨_, rfl⟩
 replace H : (spec_vaSymbols.l0 k y101 (([0, 1, 2, 2, 2, 2] : List Int)) l0 (l0.length : Int) 0) = some (r1, r2) := by first | (rw [hy101]; with_reducible exact H) | (have H2_ := (Option.bind_some _ _).symm.trans H; rw [hy101]; with_reducible exact H2_) | (have H2_ := (Option.bind_some _ _).symm.trans H; with_reducible exact H2_) | with_reducible exact H | (rw [hy101]; exact H) | exact H
 have Ny101 := zA hy101
 clear hy101
 obtain ⟨y104, hy104⟩ : ∃ y_ : List Int, y_ = (([0, 1, 2, 2, 2, 2] : List Int)) := ⟨_, rfl⟩
 replace H : (spec_vaSymbols.l0 k y101 y104 l0 (l0.length : Int) 0) = some (r1, r2) := by first | (rw [hy104]; with_reducible exact H) | (have H2_ := (Option.bind_some _ _).symm.trans H; rw [hy104]; with_reducible exact H2_) | (have H2_ := (Option.bind_some _ _).symm.trans H; with_reducible exact H2_) | with_reducible exact H | (rw [hy104]; exact H) | exact H
 have Ny104 := zA hy104
 clear hy104
 have H' := zA H
 clear H
 go_enter Try.func113, Try.ntmps113
 go_wp2_with (first | ((with_reducible refine zgd 13 ?_); refine Kd.R_lit k72 _ 72 ?hg (N := 13) ?hd (xs := ([(⟨(⟨#[105, 110]⟩ : ByteArray), 0, 0, 0⟩ : S72), (⟨(⟨#[105, 110]⟩ : ByteArray), 0, 0, 1⟩ : S72), (⟨(⟨#[99, 111, 110, 115, 116]⟩ : ByteArray), 0, 0, 0⟩ : S72)] : List (S72))) (inner := [.string (⟨#[105, 110]⟩ : ByteArray), .int .i64 0, .int .i64 0, .int .i64 0, .string (⟨#[105, 110]⟩ : ByteArray), .int .i64 0, .int .i64 0, .int .i64 1, .string (⟨#[99, 111, 110, 115, 116]⟩ : ByteArray), .int .i64 0, .int .i64 0, .int .i64 0]) (ok := fun _ => True) (okp := fun _ => True) ?hr ?hp (fun _ hk => hk) trivial (Below.refl _ _) (zlr _) (by simp) ?_; (case hd => rfl); (case hg => rfl); (case hr => go_simp <;> rfl); (case hp => exact (Reps.c4 (show Kd.M k72 _ _ _ (⟨(⟨#[105, 110]⟩ : ByteArray), 0, 0, 0⟩ : S72) [.string (⟨#[105, 110]⟩ : ByteArray), .int .i64 0, .int .i64 0, .int .i64 0] from (k72_mkM _ _ _ (⟨(⟨#[105, 110]⟩ : ByteArray), 0, 0, 0⟩ : S72) )) (Reps.c4 (show Kd.M k72 _ _ _ (⟨(⟨#[105, 110]⟩ : ByteArray), 0, 0, 1⟩ : S72) [.string (⟨#[105, 110]⟩ : ByteArray), .int .i64 0, .int .i64 0, .int .i64 1] from (k72_mkM _ _ _ (⟨(⟨#[105, 110]⟩ : ByteArray), 0, 0, 1⟩ : S72) )) (Reps.c4 (show Kd.M k72 _ _ _ (⟨(⟨#[99, 111, 110, 115, 116]⟩ : ByteArray), 0, 0, 0⟩ : S72) [.string (⟨#[99, 111, 110, 115, 116]⟩ : ByteArray), .int .i64 0, .int .i64 0, .int .i64 0] from (k72_mkM _ _ _ (⟨(⟨#[99, 111, 110, 115, 116]⟩ : ByteArray), 0, 0, 0⟩ : S72) )) (Reps.none _ _))))); intro v102 w2 ho3 hb hg_ hnew_; clear hg_ hnew_; (first | rw [← Ny101.out] at ho3 | (simp only [Int.reduceToNat] at ho3; rw [← Ny101.out] at ho3)); have HO103 := zA (Kd.R_lower ho3 (below_size zq1)); replace HB := zA (below_step zq1 hb); clear hb ho3) | ((with_reducible refine zgd 14 ?_); refine Kd.R_lit (Kd.int .i64) _ 3 ?hg (N := 14) ?hd (xs := ([0, 1, 2, 2, 2, 2] : List Int)) (inner := [.int .i64 0, .int .i64 1, .int .i64 2, .int .i64 2, .int .i64 2, .int .i64 2]) (ok := fun _ => True) (okp := fun _ => True) ?hr ?hp (fun _ hk => hk) trivial (Below.refl _ _) (zlr _) (by simp) ?_; (case hd => rfl); (case hg => rfl); (case hr => go_simp <;> rfl); (case hp => exact (Reps.one (show Kd.M (Kd.int .i64) _ _ _ 0 [.int .i64 0] from rfl) (Reps.one (show Kd.M (Kd.int .i64) _ _ _ 1 [.int .i64 1] from rfl) (Reps.one (show Kd.M (Kd.int .i64) _ _ _ 2 [.int .i64 2] from rfl) (Reps.one (show Kd.M (Kd.int .i64) _ _ _ 2 [.int .i64 2] from rfl) (Reps.one (show Kd.M (Kd.int .i64) _ _ _ 2 [.int .i64 2] from rfl) (Reps.one (show Kd.M (Kd.int .i64) _ _ _ 2 [.int .i64 2] from rfl) (Reps.none _ _)))))))); intro v105 w4 ho5 hb hg_ hnew_; clear hg_ hnew_; (first | rw [← Ny104.out] at ho5 | (simp only [Int.reduceToNat] at ho5; rw [← Ny104.out] at ho5)); replace HO103 := zA (zRb (zq2 HO103) hb); have HO106 := zA (Kd.R_lower ho5 (below_size zq1)); replace HB := zA (below_step zq1 hb); clear hb ho5))
 go_loopg [4, 17] k (fun kq v4 v17 w' => ∃ (x4_1 : List (S72)) (x5_1 : List Int) (x17_1 : Int), v17 = .int .i64 x17_1 ∧ Aside0 (spec_vaSymbols.l0 kq x4_1 x5_1 l0 (l0.length : Int) x17_1 = some (r1, r2)) ∧ Aside0 (kq ≤ k) ∧ Aside0 (Kd.R k72 72 w' w.heap.size (fun _ => True) v4 x4_1) ∧ Aside0 (Kd.R (Kd.int .i64) 3 w' w.heap.size (fun _ => True) v105 x5_1) ∧ Aside0 (Below w.heap.size w w'))
 case atStart => exact ⟨(y101), (y104), (0), zq5, H', ⟨zlr _⟩, ⟨zq2 HO103⟩, ⟨zq2 HO106⟩, ⟨zq1⟩⟩
 clear H'
 try clear c4
 obtain ⟨x4_1, x5_1, x17_1, rfl, HA, HK1, HO_4, HO_5, HB⟩ := hrel
 cases gk with
 | zero => exact absurd HA.out (by simp [spec_vaSymbols.l0])
 | succ k1 =>
 have H := HA.out
 clear HA
 simp only [spec_vaSymbols.l0] at H
 revert H
 refine zit (fun c6 H => ?_) fun c6 H => ?_
 rotate_left
 · simp only [Option.some.injEq, Prod.mk.injEq] at H
   obtain ⟨rfl, rfl⟩ := H
   go_wp2
   go_ret2
   exact ⟨_, _, zq4, zq2 HO_4, zq2 HO_5, zq1⟩
 revert H
 refine zin fun c7 H => ?_
 revert H
 refine zin fun c8 H => ?_
 by_cases c9 : ((rd_T94 l0 x17_1).f0).toList = ([115, 101, 116] : List UInt8)
 · rw [if_pos c9] at H
   obtain ⟨c9b0, c9b1⟩ := zbe c9
   clear c9
   replace H := zob H
   obtain ⟨⟨t110, t113⟩, A100, H⟩ := H
   replace H : (if 0 ≤ ((rd_T94 l0 x17_1).f1) then (if ((rd_T94 l0 x17_1).f1) < (x5_1.length : Int) then (spec_vaSymbols.l0 k1 t110 (x5_1.set (((rd_T94 l0 x17_1).f1) : Int).toNat t113) l0 (l0.length : Int) (wrap64 (x17_1 + 1))) else (none)) else (none)) = some (r1, r2) := H
   have A10 := zA A100
   clear A100
   revert H
   refine zin fun c11 H => ?_
   revert H
   refine zin fun c12 H => ?_
   obtain ⟨y114, hy114⟩ : ∃ y_ : List Int, y_ = (x5_1.set (((rd_T94 l0 x17_1).f1) : Int).toNat t113) := ⟨_, rfl⟩
   replace H : (spec_vaSymbols.l0 k1 t110 y114 l0 (l0.length : Int) (wrap64 (x17_1 + 1))) = some (r1, r2) := by first | (rw [hy114]; with_reducible exact H) | (have H2_ := (Option.bind_some _ _).symm.trans H; rw [hy114]; with_reducible exact H2_) | (have H2_ := (Option.bind_some _ _).symm.trans H; with_reducible exact H2_) | with_reducible exact H | (rw [hy114]; exact H) | exact H
   have Ny114 := zA hy114
   clear hy114
   have H' := zA H
   clear H
   obtain ⟨p107, q107⟩ := zpq x17_1 l0.length
   obtain ⟨ad107, e107, hx107_0, hx107_1, hx107_2, hx107_3, hx107_4⟩ := at_T94 HR0.out x17_1 (zoe p107) (zoe q107)
   cases e107
   replace hx107_0 := zkep HB.out hx107_0
   replace hx107_1 := zkep HB.out hx107_1
   replace hx107_2 := zkep HB.out hx107_2
   replace hx107_3 := zkep HB.out hx107_3
   replace hx107_4 := zkep HB.out hx107_4
   go_wp2_with (first | ((with_reducible refine zgd 7 ?_); refine zbx #[.string (⟨#[]⟩ : ByteArray), .int .i64 0, .int .i64 0, .int .i64 0, .int .i64 0] 94 ?_; intro gb108 hg w14 hbox hb; have zs := zpair zq1 hb; replace HO_4 := zA (zRb (zq2 HO_4) hb); replace HO_5 := zA (zRb (zq2 HO_5) hb); replace HB := zA (zs.1); have BK108 := zA (hbox); have GW108 := zA (zge hg zs.2); have GE108 := GW108; clear zs hb hbox hg; obtain ⟨hcz15_0, hcz15_1, hcz15_2, hcz15_3, hcz15_4, hfz15_0, hfz15_1, hfz15_2, hfz15_3, hfz15_4⟩ := zd5 BK108) | ((with_reducible refine zgd 8 ?_); refine zbx #[.string (⟨#[]⟩ : ByteArray), .int .i64 0, .int .i64 0, .int .i64 0] 72 ?_; intro gb109 hg w16 hbox hb; have zs := zpair (zq3 GE108) hb; replace HO_4 := zA (zRb (Kd.R_elderB (zq17 HO_4 BK108) gb109 (Nat.le_of_eq hg.symm)) hb); replace HO_5 := zA (zRb (zq17 HO_5 BK108) hb); replace HB := zA (zs.1); have BK109 := zA (hbox); have GW109 := zA (zge hg zs.2); have GE109 := GW109; have NB108_109 := zA ((zq15 BK108 : gb108 ≠ gb109)); have NB109_108 := zA ((zq16 BK108 : gb109 ≠ gb108)); replace BK108 := zA (blk_below (g := gb108) (o := .cells #[.string ((rd_T94 l0 x17_1).f0), .int .i64 ((rd_T94 l0 x17_1).f1), .int .i64 ((rd_T94 l0 x17_1).f2), .int .i64 ((rd_T94 l0 x17_1).f3), .int .i64 ((rd_T94 l0 x17_1).f4)] 94 (0, 0)) (zq24 BK108) hb); clear zs hb hbox hg; have hnb17 := NB109_108.out; have hnc17 := NB108_109.out; obtain ⟨hcz18_0, hcz18_1, hcz18_2, hcz18_3, hfz18_0, hfz18_1, hfz18_2, hfz18_3⟩ := zd4 BK109) | ((with_reducible refine zgs 72 8 ?_); refine zse ((((w16.setCell ⟨gb109, 0, none⟩ (.string (⟨#[99, 111, 110, 115, 116]⟩ : ByteArray))).setCell ⟨gb109, 1, none⟩ (.int .i64 0)).setCell ⟨gb109, 2, none⟩ (.int .i64 0)).setCell ⟨gb109, 3, none⟩ (.int .i64 ((rd_T94 l0 x17_1).f4))) ?_; intro w19 hw; have n0_ : Aside0 (Kd.R k72 72 w19 w.heap.size (fun k_ => k_ ≠ gb109) u4 x4_1) := ⟨(by rw [hw]; exact (zq14 HO_4))⟩; have n1_ : Aside0 (Kd.R (Kd.int .i64) 3 w19 w.heap.size (fun _ => True) v105 x5_1) := ⟨(by rw [hw]; exact (zq18 HO_5 BK109))⟩; have n2_ : Aside0 (w19.heap[gb108]? = some (.cells #[.string ((rd_T94 l0 x17_1).f0), .int .i64 ((rd_T94 l0 x17_1).f1), .int .i64 ((rd_T94 l0 x17_1).f2), .int .i64 ((rd_T94 l0 x17_1).f3), .int .i64 ((rd_T94 l0 x17_1).f4)] 94 (0, 0))) := ⟨(by rw [hw]; exact (zq13 NB108_109 BK108))⟩; have n3_ : Aside0 (w19.heap[gb109]? = some (.cells #[.string (⟨#[99, 111, 110, 115, 116]⟩ : ByteArray), .int .i64 0, .int .i64 0, .int .i64 ((rd_T94 l0 x17_1).f4)] 72 (0, 0))) := ⟨(by rw [hw]; exact (zq8 BK109))⟩; have n4_ : Aside0 (Below w.heap.size w w19) := ⟨(by rw [hw]; exact (zq9 GE108 GE109))⟩; clear hw; clear HO_4 HO_5; clear BK108 BK109 HB; have HO_4 := n0_; have HO_5 := n1_; have BK108 := n2_; have BK109 := n3_; have HB := n4_; clear n0_ n1_ n2_ n3_ n4_; obtain ⟨hcz20_0, hcz20_1, hcz20_2, hcz20_3, hcz20_4⟩ := zc5 w19 (.string ((rd_T94 l0 x17_1).f0)) (.int .i64 ((rd_T94 l0 x17_1).f1)) (.int .i64 ((rd_T94 l0 x17_1).f2)) (.int .i64 ((rd_T94 l0 x17_1).f3)) (.int .i64 ((rd_T94 l0 x17_1).f4)) BK108.out; obtain ⟨hfz20_0, hfz20_1, hfz20_2, hfz20_3, hfz20_4⟩ := zf5 BK108.out; obtain ⟨hcz21_0, hcz21_1, hcz21_2, hcz21_3⟩ := zc4 w19 (.string (⟨#[99, 111, 110, 115, 116]⟩ : ByteArray)) (.int .i64 0) (.int .i64 0) (.int .i64 ((rd_T94 l0 x17_1).f4)) BK109.out; obtain ⟨hfz21_0, hfz21_1, hfz21_2, hfz21_3⟩ := zf4 BK109.out; obtain ⟨Ao22, co22, eo22⟩ := Kd.R_slice HO_4.out; subst eo22) | ((with_reducible refine zgc 164 ?_); refine zca 49 Try.func164 #[.slice Ao22 x4_1.length co22, .agg #[.string (⟨#[99, 111, 110, 115, 116]⟩ : ByteArray), .int .i64 0, .int .i64 0, .int .i64 ((rd_T94 l0 x17_1).f4)]] (spec_vaNode.calls (fun k_ => some k_ = (.slice Ao22 x4_1.length co22 : Value).ownBlock) (.slice Ao22 x4_1.length co22) x4_1 (⟨#[99, 111, 110, 115, 116]⟩ : ByteArray) 0 0 ((rd_T94 l0 x17_1).f4) t110 t113 w _ (zq9 GE108 GE109) (by exact Kd.R_tight rfl HO_4.out) A10.out) ?_; rintro e w23 ⟨v111, rfl, ho0, hb, hkp⟩; refine ⟨_, rfl, ?_⟩; replace HO_5 := zA (Kd.R_mono (ok' := fun k_ => True) (Kd.R_keptB ((Kd.R_apart' HO_5.out (Kd.R_typed HO_4.out) (by decide))) hkp (fun k_ hk_ hs_ => (hk_.2) hs_)) (fun k_ hk_ => trivial)); replace BK108 := zA (blk_kept (zq7 BK108) hkp (fun hs_ => (fun e_ => (Kd.R_ne HO_4.out BK108.out (by decide)) e_) hs_)); have HO112 := zA (Kd.R_mono (ok' := fun k_ => k_ ≠ gb109) ho0 (fun k_ hk_ => Or.elim hk_ (fun hs_ => fun e_ => (Kd.R_away HO_4.out (fun _ hk => hk)) zq55) (fun hn_ => (Kd.freshB (g := gb109) (o := .cells #[.string (⟨#[99, 111, 110, 115, 116]⟩ : ByteArray), .int .i64 0, .int .i64 0, .int .i64 ((rd_T94 l0 x17_1).f4)] 72 (0, 0)) (zq7 BK109) k_ hn_)))); replace BK109 := zA (blk_kept (zq7 BK109) hkp (fun hs_ => (fun e_ => (Kd.R_away HO_4.out (fun _ hk => hk)) e_) hs_)); replace HB := zA (hb); clear HO_4; (try clear hb); (try clear hkp); (try clear ho0); obtain ⟨hcz24_0, hcz24_1, hcz24_2, hcz24_3, hcz24_4⟩ := zc5 w23 (.string ((rd_T94 l0 x17_1).f0)) (.int .i64 ((rd_T94 l0 x17_1).f1)) (.int .i64 ((rd_T94 l0 x17_1).f2)) (.int .i64 ((rd_T94 l0 x17_1).f3)) (.int .i64 ((rd_T94 l0 x17_1).f4)) BK108.out; obtain ⟨hfz24_0, hfz24_1, hfz24_2, hfz24_3, hfz24_4⟩ := zf5 BK108.out; have p13 : 0 ≤ (((rd_T94 l0 x17_1).f1) : Int) := zde zq27; have q13 : (((rd_T94 l0 x17_1).f1) : Int) < ((x5_1.length : Int) : Int) := zde zq27; obtain ⟨go13, co13, eo13, gb13, gl13, cl13, HG13⟩ := Kd.R_form HO_5.out (by omega); (first | cases eo13 | (injection eo13 with ea_ en_ ec_; (first | subst ea_ | (injection ea_ with ea_; subst ea_)); subst ec_; clear en_)); have GB13 := zA gb13; have GG13 := zA HG13; clear gb13 gl13 HG13; obtain ⟨hx13_0, hf13_0⟩ := Kd.R_celln 0 HO_5.out (((rd_T94 l0 x17_1).f1) : Int) p13 q13; replace p13 := eq_true p13; replace q13 := eq_true q13; obtain ⟨hy25_, hz25_⟩ := Kd.R_celln 0 HO_5.out (((rd_T94 l0 x17_1).f1) : Int) (zde zq27) (zde zq27); have HP25 := Kd.R_putg HO_5.out (((rd_T94 l0 x17_1).f1) : Int) t113) | ((with_reducible refine zgs 3 142 ?_); refine zse (w23.setCell ⟨go13, (((rd_T94 l0 x17_1).f1) : Int).toNat, none⟩ (.int .i64 t113)) ?_; intro w26 hw; have hg : w23.grownBy w26 (some go13) := (by rw [hw]; exact HP25.2); have hp_ : Kd.R (Kd.int .i64) 3 w26 w.heap.size (fun _ => True) (.slice (some ⟨go13, 0, none⟩) x5_1.length co13) y114 := (by rw [hw, Ny114.out]; exact HP25.1); clear HP25; replace BK108 := zA (blk_grown (g := gb108) (o := .cells #[.string ((rd_T94 l0 x17_1).f0), .int .i64 ((rd_T94 l0 x17_1).f1), .int .i64 ((rd_T94 l0 x17_1).f2), .int .i64 ((rd_T94 l0 x17_1).f3), .int .i64 ((rd_T94 l0 x17_1).f4)] 94 (0, 0)) (zq7 BK108) hg (Kd.R_ne HO_5.out BK108.out (by decide))); replace BK109 := zA (blk_grown (g := gb109) (o := .cells #[.string (⟨#[99, 111, 110, 115, 116]⟩ : ByteArray), .int .i64 0, .int .i64 0, .int .i64 ((rd_T94 l0 x17_1).f4)] 72 (0, 0)) (zq7 BK109) hg (Kd.R_ne HO_5.out BK109.out (by decide))); replace HO112 := zA (Kd.R_over' (v := (.slice (some ⟨go13, 0, none⟩) x5_1.length co13)) (zq2 HO112) (Kd.R_typed HO_5.out) (by decide) hg); replace HO_5 := zA (hp_); replace HB := zA ((zq38 GB13 : Below w.heap.size w w26)); clear hg hw hp_))
   go_roundg k1
   case measure => have := HK1.out; omega
   case rel => exact ⟨(t110), (y114), (wrap64 (x17_1 + 1)), zq5, H', ⟨zq39 HK1⟩, ⟨zq28 HO112⟩, ⟨zq2 HO_5⟩, ⟨zq9 GE108 GE109⟩⟩
 rw [if_neg c9] at H
 obtain ⟨c9b0, c9b1⟩ := zbq c9
 by_cases c27 : ((rd_T94 l0 x17_1).f0).toList = ([109, 111, 118] : List UInt8)
 · rw [if_pos c27] at H
   obtain ⟨c27b0, c27b1⟩ := zbe c27
   clear c27
   revert H
   refine zin fun c28 H => ?_
   revert H
   refine zin fun c29 H => ?_
   revert H
   refine zin fun c30 H => ?_
   revert H
   refine zin fun c31 H => ?_
   obtain ⟨y116, hy116⟩ : ∃ y_ : List Int, y_ = (x5_1.set (((rd_T94 l0 x17_1).f1) : Int).toNat (rd x5_1 ((rd_T94 l0 x17_1).f2))) := ⟨_, rfl⟩
   replace H : (spec_vaSymbols.l0 k1 x4_1 y116 l0 (l0.length : Int) (wrap64 (x17_1 + 1))) = some (r1, r2) := by first | (rw [hy116]; with_reducible exact H) | (have H2_ := (Option.bind_some _ _).symm.trans H; rw [hy116]; with_reducible exact H2_) | (have H2_ := (Option.bind_some _ _).symm.trans H; with_reducible exact H2_) | with_reducible exact H | (rw [hy116]; exact H) | exact H
   have Ny116 := zA hy116
   clear hy116
   have H' := zA H
   clear H
   obtain ⟨p107, q107⟩ := zpq x17_1 l0.length
   obtain ⟨ad107, e107, hx107_0, hx107_1, hx107_2, hx107_3, hx107_4⟩ := at_T94 HR0.out x17_1 (zoe p107) (zoe q107)
   cases e107
   replace hx107_0 := zkep HB.out hx107_0
   replace hx107_1 := zkep HB.out hx107_1
   replace hx107_2 := zkep HB.out hx107_2
   replace hx107_3 := zkep HB.out hx107_3
   replace hx107_4 := zkep HB.out hx107_4
   go_wp2_with (first | ((with_reducible refine zgd 7 ?_); refine zbx #[.string (⟨#[]⟩ : ByteArray), .int .i64 0, .int .i64 0, .int .i64 0, .int .i64 0] 94 ?_; intro gb108 hg w33 hbox hb; have zs := zpair zq1 hb; replace HO_4 := zA (zRb (zq2 HO_4) hb); replace HO_5 := zA (zRb (zq2 HO_5) hb); replace HB := zA (zs.1); have BK108 := zA (hbox); have GW108 := zA (zge hg zs.2); have GE108 := GW108; clear zs hb hbox hg; obtain ⟨hcz34_0, hcz34_1, hcz34_2, hcz34_3, hcz34_4, hfz34_0, hfz34_1, hfz34_2, hfz34_3, hfz34_4⟩ := zd5 BK108) | ((with_reducible refine zgd 8 ?_); refine zbx #[.string (⟨#[]⟩ : ByteArray), .int .i64 0, .int .i64 0, .int .i64 0] 72 ?_; intro gb109 hg w35 hbox hb; have zs := zpair (zq3 GE108) hb; replace HO_4 := zA (zRb (Kd.R_elderB (zq17 HO_4 BK108) gb109 (Nat.le_of_eq hg.symm)) hb); replace HO_5 := zA (zRb (zq17 HO_5 BK108) hb); replace HB := zA (zs.1); have BK109 := zA (hbox); have GW109 := zA (zge hg zs.2); have GE109 := GW109; have NB108_109 := zA ((zq15 BK108 : gb108 ≠ gb109)); have NB109_108 := zA ((zq16 BK108 : gb109 ≠ gb108)); replace BK108 := zA (blk_below (g := gb108) (o := .cells #[.string ((rd_T94 l0 x17_1).f0), .int .i64 ((rd_T94 l0 x17_1).f1), .int .i64 ((rd_T94 l0 x17_1).f2), .int .i64 ((rd_T94 l0 x17_1).f3), .int .i64 ((rd_T94 l0 x17_1).f4)] 94 (0, 0)) (zq24 BK108) hb); clear zs hb hbox hg; have hnb36 := NB109_108.out; have hnc36 := NB108_109.out; obtain ⟨hcz37_0, hcz37_1, hcz37_2, hcz37_3, hfz37_0, hfz37_1, hfz37_2, hfz37_3⟩ := zd4 BK109) | ((with_reducible refine zgs 72 8 ?_); refine zse ((((w35.setCell ⟨gb109, 0, none⟩ (.string (⟨#[99, 111, 110, 115, 116]⟩ : ByteArray))).setCell ⟨gb109, 1, none⟩ (.int .i64 0)).setCell ⟨gb109, 2, none⟩ (.int .i64 0)).setCell ⟨gb109, 3, none⟩ (.int .i64 ((rd_T94 l0 x17_1).f4))) ?_; intro w38 hw; have n0_ : Aside0 (Kd.R k72 72 w38 w.heap.size (fun k_ => k_ ≠ gb109) u4 x4_1) := ⟨(by rw [hw]; exact (zq14 HO_4))⟩; have n1_ : Aside0 (Kd.R (Kd.int .i64) 3 w38 w.heap.size (fun _ => True) v105 x5_1) := ⟨(by rw [hw]; exact (zq18 HO_5 BK109))⟩; have n2_ : Aside0 (w38.heap[gb108]? = some (.cells #[.string ((rd_T94 l0 x17_1).f0), .int .i64 ((rd_T94 l0 x17_1).f1), .int .i64 ((rd_T94 l0 x17_1).f2), .int .i64 ((rd_T94 l0 x17_1).f3), .int .i64 ((rd_T94 l0 x17_1).f4)] 94 (0, 0))) := ⟨(by rw [hw]; exact (zq13 NB108_109 BK108))⟩; have n3_ : Aside0 (w38.heap[gb109]? = some (.cells #[.string (⟨#[99, 111, 110, 115, 116]⟩ : ByteArray), .int .i64 0, .int .i64 0, .int .i64 ((rd_T94 l0 x17_1).f4)] 72 (0, 0))) := ⟨(by rw [hw]; exact (zq8 BK109))⟩; have n4_ : Aside0 (Below w.heap.size w w38) := ⟨(by rw [hw]; exact (zq9 GE108 GE109))⟩; clear hw; clear HO_4 HO_5; clear BK108 BK109 HB; have HO_4 := n0_; have HO_5 := n1_; have BK108 := n2_; have BK109 := n3_; have HB := n4_; clear n0_ n1_ n2_ n3_ n4_; obtain ⟨hcz39_0, hcz39_1, hcz39_2, hcz39_3, hcz39_4⟩ := zc5 w38 (.string ((rd_T94 l0 x17_1).f0)) (.int .i64 ((rd_T94 l0 x17_1).f1)) (.int .i64 ((rd_T94 l0 x17_1).f2)) (.int .i64 ((rd_T94 l0 x17_1).f3)) (.int .i64 ((rd_T94 l0 x17_1).f4)) BK108.out; obtain ⟨hfz39_0, hfz39_1, hfz39_2, hfz39_3, hfz39_4⟩ := zf5 BK108.out; obtain ⟨Ao40, co40, eo40⟩ := Kd.R_slice HO_5.out; subst eo40; have p115 : 0 ≤ (((rd_T94 l0 x17_1).f2) : Int) := zde zq27; have q115 : ((rd_T94 l0 x17_1).f2) < (x5_1.length : Int) := zde zq27; obtain ⟨ad115, e115, hx115_0⟩ := Kd.at_int (zRr HO_5.out).2.2 ((rd_T94 l0 x17_1).f2) p115 q115; cases e115; replace p115 := eq_true p115; replace q115 := eq_true q115; have p32 : 0 ≤ (((rd_T94 l0 x17_1).f1) : Int) := zde zq27; have q32 : (((rd_T94 l0 x17_1).f1) : Int) < ((x5_1.length : Int) : Int) := zde zq27; obtain ⟨go32, co32, eo32, gb32, gl32, cl32, HG32⟩ := Kd.R_form HO_5.out (by omega); (first | cases eo32 | (injection eo32 with ea_ en_ ec_; (first | subst ea_ | (injection ea_ with ea_; subst ea_)); subst ec_; clear en_)); have GB32 := zA gb32; have GG32 := zA HG32; clear gb32 gl32 HG32; (first | simp only [add_plain] at hx115_0 | skip); obtain ⟨hx32_0, hf32_0⟩ := Kd.R_celln 0 HO_5.out (((rd_T94 l0 x17_1).f1) : Int) p32 q32; replace p32 := eq_true p32; replace q32 := eq_true q32; obtain ⟨hy41_, hz41_⟩ := Kd.R_celln 0 HO_5.out (((rd_T94 l0 x17_1).f1) : Int) (zde zq27) (zde zq27); have HP41 := Kd.R_putg HO_5.out (((rd_T94 l0 x17_1).f1) : Int) (rd x5_1 ((rd_T94 l0 x17_1).f2))) | ((with_reducible refine zgs 3 142 ?_); refine zse (w38.setCell ⟨go32, (((rd_T94 l0 x17_1).f1) : Int).toNat, none⟩ (.int .i64 (rd x5_1 ((rd_T94 l0 x17_1).f2)))) ?_; intro w42 hw; have hg : w38.grownBy w42 (some go32) := (by rw [hw]; exact HP41.2); have hp_ : Kd.R (Kd.int .i64) 3 w42 w.heap.size (fun _ => True) (.slice (some ⟨go32, 0, none⟩) x5_1.length co40) y116 := (by rw [hw, Ny116.out]; exact HP41.1); clear HP41; replace HO_4 := zA (Kd.R_over' (v := (.slice (some ⟨go32, 0, none⟩) x5_1.length co40)) (zq2 HO_4) (Kd.R_typed HO_5.out) (by decide) hg); replace BK108 := zA (blk_grown (g := gb108) (o := .cells #[.string ((rd_T94 l0 x17_1).f0), .int .i64 ((rd_T94 l0 x17_1).f1), .int .i64 ((rd_T94 l0 x17_1).f2), .int .i64 ((rd_T94 l0 x17_1).f3), .int .i64 ((rd_T94 l0 x17_1).f4)] 94 (0, 0)) (zq7 BK108) hg (Kd.R_ne HO_5.out BK108.out (by decide))); replace BK109 := zA (blk_grown (g := gb109) (o := .cells #[.string (⟨#[99, 111, 110, 115, 116]⟩ : ByteArray), .int .i64 0, .int .i64 0, .int .i64 ((rd_T94 l0 x17_1).f4)] 72 (0, 0)) (zq7 BK109) hg (Kd.R_ne HO_5.out BK109.out (by decide))); replace HO_5 := zA (hp_); replace HB := zA ((zq38 GB32 : Below w.heap.size w w42)); clear hg hw hp_))
   go_roundg k1
   case measure => have := HK1.out; omega
   case rel => exact ⟨(x4_1), (y116), (wrap64 (x17_1 + 1)), zq5, H', ⟨zq39 HK1⟩, ⟨zq28 HO_4⟩, ⟨zq2 HO_5⟩, ⟨zq9 GE108 GE109⟩⟩
 rw [if_neg c27] at H
 obtain ⟨c27b0, c27b1⟩ := zbq c27
 have HC43 := zA H
 clear H
 obtain ⟨p107, q107⟩ := zpq x17_1 l0.length
 obtain ⟨ad107, e107, hx107_0, hx107_1, hx107_2, hx107_3, hx107_4⟩ := at_T94 HR0.out x17_1 (zoe p107) (zoe q107)
 cases e107
 replace hx107_0 := zkep HB.out hx107_0
 replace hx107_1 := zkep HB.out hx107_1
 replace hx107_2 := zkep HB.out hx107_2
 replace hx107_3 := zkep HB.out hx107_3
 replace hx107_4 := zkep HB.out hx107_4
 go_upto_if 59 with (first | ((with_reducible refine zgd 7 ?_); refine zbx #[.string (⟨#[]⟩ : ByteArray), .int .i64 0, .int .i64 0, .int .i64 0, .int .i64 0] 94 ?_; intro gb108 hg w44 hbox hb; have zs := zpair zq1 hb; replace HO_4 := zA (zRb (zq2 HO_4) hb); replace HO_5 := zA (zRb (zq2 HO_5) hb); replace HB := zA (zs.1); have BK108 := zA (hbox); have GW108 := zA (zge hg zs.2); have GE108 := GW108; clear zs hb hbox hg; obtain ⟨hcz45_0, hcz45_1, hcz45_2, hcz45_3, hcz45_4, hfz45_0, hfz45_1, hfz45_2, hfz45_3, hfz45_4⟩ := zd5 BK108) | ((with_reducible refine zgd 8 ?_); refine zbx #[.string (⟨#[]⟩ : ByteArray), .int .i64 0, .int .i64 0, .int .i64 0] 72 ?_; intro gb109 hg w46 hbox hb; have zs := zpair (zq3 GE108) hb; replace HO_4 := zA (zRb (Kd.R_elderB (zq17 HO_4 BK108) gb109 (Nat.le_of_eq hg.symm)) hb); replace HO_5 := zA (zRb (zq17 HO_5 BK108) hb); replace HB := zA (zs.1); have BK109 := zA (hbox); have GW109 := zA (zge hg zs.2); have GE109 := GW109; have NB108_109 := zA ((zq15 BK108 : gb108 ≠ gb109)); have NB109_108 := zA ((zq16 BK108 : gb109 ≠ gb108)); replace BK108 := zA (blk_below (g := gb108) (o := .cells #[.string ((rd_T94 l0 x17_1).f0), .int .i64 ((rd_T94 l0 x17_1).f1), .int .i64 ((rd_T94 l0 x17_1).f2), .int .i64 ((rd_T94 l0 x17_1).f3), .int .i64 ((rd_T94 l0 x17_1).f4)] 94 (0, 0)) (zq24 BK108) hb); clear zs hb hbox hg; have hnb47 := NB109_108.out; have hnc47 := NB108_109.out; obtain ⟨hcz48_0, hcz48_1, hcz48_2, hcz48_3, hfz48_0, hfz48_1, hfz48_2, hfz48_3⟩ := zd4 BK109; obtain ⟨hcz49_0, hcz49_1, hcz49_2, hcz49_3, hcz49_4, hfz49_0, hfz49_1, hfz49_2, hfz49_3, hfz49_4⟩ := zd5 BK108))
 (try simp only [Act.put, List.setIfInBounds_toArray, List.set_cons_zero, List.set_cons_succ])
 go_cut [59] (fun v59 wc => ∃ (kq : Nat) (x59_42 : Bool), v59 = .bool x59_42 ∧ Aside0 (spec_vaSymbols.j1 kq x4_1 x5_1 l0 (l0.length : Int) x17_1 ((rd_T94 l0 x17_1).f0) x59_42 ((rd_T94 l0 x17_1).f0) ((rd_T94 l0 x17_1).f1) ((rd_T94 l0 x17_1).f2) ((rd_T94 l0 x17_1).f3) ((rd_T94 l0 x17_1).f4) (⟨#[99, 111, 110, 115, 116]⟩ : ByteArray) 0 0 ((rd_T94 l0 x17_1).f4) = some (r1, r2)) ∧ Aside0 (kq ≤ k1) ∧ Aside0 (Kd.R k72 72 wc w.heap.size (fun k_ => k_ ≠ gb109) u4 x4_1) ∧ Aside0 (Kd.R (Kd.int .i64) 3 wc w.heap.size (fun _ => True) v105 x5_1) ∧ Aside0 (wc.heap[gb108]? = some (.cells #[.string ((rd_T94 l0 x17_1).f0), .int .i64 ((rd_T94 l0 x17_1).f1), .int .i64 ((rd_T94 l0 x17_1).f2), .int .i64 ((rd_T94 l0 x17_1).f3), .int .i64 ((rd_T94 l0 x17_1).f4)] 94 (0, 0))) ∧ Aside0 (wc.heap[gb109]? = some (.cells #[.string (⟨#[99, 111, 110, 115, 116]⟩ : ByteArray), .int .i64 0, .int .i64 0, .int .i64 ((rd_T94 l0 x17_1).f4)] 72 (0, 0))) ∧ Aside0 (Below w.heap.size w wc))
 case first =>
   have H := HC43.out
   clear HC43
   by_cases c50 : ((rd_T94 l0 x17_1).f0).toList = ([97, 100, 100, 105] : List UInt8)
   · rw [if_pos c50] at H
     obtain ⟨c50b0, c50b1⟩ := zbe c50
     clear c50
     (first | rw [c50b0] | (simp only [i64_w, i32_w]; rw [c50b0]) | skip)
     have H' := zA H
     clear H
     go_wp2
     go_meet
     case rel => exact ⟨_, ((((rd_T94 l0 x17_1).f0).toList == ([97, 100, 100, 105] : List UInt8))), zq5, H', ⟨zq36 HK1⟩, ⟨zq14 HO_4⟩, ⟨zq18 HO_5 BK109⟩, ⟨zq13 NB108_109 BK108⟩, ⟨zq8 BK109⟩, ⟨zq9 GE108 GE109⟩⟩
   rw [if_neg c50] at H
   obtain ⟨c50b0, c50b1⟩ := zbq c50
   (first | rw [c50b0] | (simp only [i64_w, i32_w]; rw [c50b0]) | skip)
   by_cases c51 : ((rd_T94 l0 x17_1).f0).toList = ([97, 110, 100, 105] : List UInt8)
   · rw [if_pos c51] at H
     obtain ⟨c51b0, c51b1⟩ := zbe c51
     clear c51
     have H' := zA H
     clear H
     go_wp2
     go_meet
     case rel => exact ⟨_, ((((rd_T94 l0 x17_1).f0).toList == ([97, 110, 100, 105] : List UInt8))), zq5, H', ⟨zq36 HK1⟩, ⟨zq14 HO_4⟩, ⟨zq18 HO_5 BK109⟩, ⟨zq13 NB108_109 BK108⟩, ⟨zq8 BK109⟩, ⟨zq9 GE108 GE109⟩⟩
   rw [if_neg c51] at H
   obtain ⟨c51b0, c51b1⟩ := zbq c51
   by_cases c52 : ((rd_T94 l0 x17_1).f0).toList = ([120, 111, 114, 105] : List UInt8)
   · rw [if_pos c52] at H
     obtain ⟨c52b0, c52b1⟩ := zbe c52
     clear c52
     have H' := zA H
     clear H
     go_wp2
     go_meet
     case rel => exact ⟨_, ((((rd_T94 l0 x17_1).f0).toList == ([120, 111, 114, 105] : List UInt8))), zq5, H', ⟨zq36 HK1⟩, ⟨zq14 HO_4⟩, ⟨zq18 HO_5 BK109⟩, ⟨zq13 NB108_109 BK108⟩, ⟨zq8 BK109⟩, ⟨zq9 GE108 GE109⟩⟩
   rw [if_neg c52] at H
   obtain ⟨c52b0, c52b1⟩ := zbq c52
   by_cases c53 : ((rd_T94 l0 x17_1).f0).toList = ([115, 104, 108, 105] : List UInt8)
   rotate_left
   · rw [if_neg c53] at H
     obtain ⟨c53b0, c53b1⟩ := zbq c53
     have H' := zA H
     clear H
     go_wp2
     go_meet
     case rel => exact ⟨_, ((((rd_T94 l0 x17_1).f0).toList == ([115, 104, 114, 105] : List UInt8))), zq5, H', ⟨zq36 HK1⟩, ⟨zq14 HO_4⟩, ⟨zq18 HO_5 BK109⟩, ⟨zq13 NB108_109 BK108⟩, ⟨zq8 BK109⟩, ⟨zq9 GE108 GE109⟩⟩
   rw [if_pos c53] at H
   obtain ⟨c53b0, c53b1⟩ := zbe c53
   clear c53
   have H' := zA H
   clear H
   go_wp2
   go_meet
   case rel => exact ⟨_, ((((rd_T94 l0 x17_1).f0).toList == ([115, 104, 108, 105] : List UInt8))), zq5, H', ⟨zq36 HK1⟩, ⟨zq14 HO_4⟩, ⟨zq18 HO_5 BK109⟩, ⟨zq13 NB108_109 BK108⟩, ⟨zq8 BK109⟩, ⟨zq9 GE108 GE109⟩⟩
 clear HC43
 try clear c4
 try clear c6
 try clear c7
 try clear c8
 try clear c9
 try clear c9b0
 try clear c9b1
 try clear c11
 try clear c12
 try clear p13
 try clear q13
 try clear c27
 try clear c27b0
 try clear c27b1
 try clear c28
 try clear c29
 try clear c30
 try clear c31
 try clear p32
 try clear q32
 try clear c50
 try clear c50b0
 try clear c50b1
 try clear c51
 try clear c51b0
 try clear c51b1
 try clear c52
 try clear c52b0
 try clear c52b1
 try clear c53
 try clear c53b0
 try clear c53b1
 try clear hcz15_0
 try clear hcz15_1
 try clear hcz15_2
 try clear hcz15_3
 try clear hcz15_4
 try clear hcz18_0
 try clear hcz18_1
 try clear hcz18_2
 try clear hcz18_3
 try clear hcz20_0
 try clear hcz20_1
 try clear hcz20_2
 try clear hcz20_3
 try clear hcz20_4
 try clear hcz21_0
 try clear hcz21_1
 try clear hcz21_2
 try clear hcz21_3
 try clear hcz24_0
 try clear hcz24_1
 try clear hcz24_2
 try clear hcz24_3
 try clear hcz24_4
 try clear hcz34_0
 try clear hcz34_1
 try clear hcz34_2
 try clear hcz34_3
 try clear hcz34_4
 try clear hcz37_0
 try clear hcz37_1
 try clear hcz37_2
 try clear hcz37_3
 try clear hcz39_0
 try clear hcz39_1
 try clear hcz39_2
 try clear hcz39_3
 try clear hcz39_4
 try clear hcz45_0
 try clear hcz45_1
 try clear hcz45_2
 try clear hcz45_3
 try clear hcz45_4
 try clear hcz48_0
 try clear hcz48_1
 try clear hcz48_2
 try clear hcz48_3
 try clear hcz49_0
 try clear hcz49_1
 try clear hcz49_2
 try clear hcz49_3
 try clear hcz49_4
 try clear hfz15_0
 try clear hfz15_1
 try clear hfz15_2
 try clear hfz15_3
 try clear hfz15_4
 try clear hfz18_0
 try clear hfz18_1
 try clear hfz18_2
 try clear hfz18_3
 try clear hfz20_0
 try clear hfz20_1
 try clear hfz20_2
 try clear hfz20_3
 try clear hfz20_4
 try clear hfz21_0
 try clear hfz21_1
 try clear hfz21_2
 try clear hfz21_3
 try clear hfz24_0
 try clear hfz24_1
 try clear hfz24_2
 try clear hfz24_3
 try clear hfz24_4
 try clear hfz34_0
 try clear hfz34_1
 try clear hfz34_2
 try clear hfz34_3
 try clear hfz34_4
 try clear hfz37_0
 try clear hfz37_1
 try clear hfz37_2
 try clear hfz37_3
 try clear hfz39_0
 try clear hfz39_1
 try clear hfz39_2
 try clear hfz39_3
 try clear hfz39_4
 try clear hfz45_0
 try clear hfz45_1
 try clear hfz45_2
 try clear hfz45_3
 try clear hfz45_4
 try clear hfz48_0
 try clear hfz48_1
 try clear hfz48_2
 try clear hfz48_3
 try clear hfz49_0
 try clear hfz49_1
 try clear hfz49_2
 try clear hfz49_3
 try clear hfz49_4
 try clear hx107_0
 try clear hx107_1
 try clear hx107_2
 try clear hx107_3
 try clear hx107_4
 try clear hx115_0
 try clear hx13_0
 try clear hx32_0
 try clear p107
 try clear p115
 try clear p13
 try clear p32
 try clear q107
 try clear q115
 try clear q13
 try clear q32
 obtain ⟨kq, x59_42, rfl, HA, HJ42, HO_4, HO_5, BK108, BK109, HB⟩ := hcut
 cases kq with
 | zero => exact absurd HA.out (by simp [spec_vaSymbols.j1])
 | succ kj42 =>
 have H := HA.out
 clear HA
 simp only [spec_vaSymbols.j1] at H
 by_cases c54 : x59_42 = true
 · subst c54
   replace H := zih H
   replace H := zob H
   obtain ⟨⟨t117, t120⟩, A550, H⟩ := H
   replace H : (if 0 ≤ (wrap64 ((((rd_T94 l0 x17_1).f0).size : Int) - 1)) then (if (wrap64 ((((rd_T94 l0 x17_1).f0).size : Int) - 1)) ≤ (((rd_T94 l0 x17_1).f0).size : Int) then (if 0 ≤ ((rd_T94 l0 x17_1).f2) then (if ((rd_T94 l0 x17_1).f2) < (x5_1.length : Int) then ((spec_vaNode.f t117 (((rd_T94 l0 x17_1).f0).extract 0 ((wrap64 ((((rd_T94 l0 x17_1).f0).size : Int) - 1)) : Int).toNat) (rd x5_1 ((rd_T94 l0 x17_1).f2)) t120 0).bind fun bt122 => (if 0 ≤ ((rd_T94 l0 x17_1).f1) then (if ((rd_T94 l0 x17_1).f1) < (x5_1.length : Int) then (spec_vaSymbols.l0 kj42 bt122.1 (x5_1.set (((rd_T94 l0 x17_1).f1) : Int).toNat bt122.2) l0 (l0.length : Int) (wrap64 (x17_1 + 1))) else (none)) else (none))) else (none)) else (none)) else (none)) else (none)) = some (r1, r2) := H
   have A55 := zA A550
   clear A550
   obtain ⟨ji56, hji56⟩ : ∃ j_ : Int, (wrap64 ((((rd_T94 l0 x17_1).f0).size : Int) - 1)) = j_ := ⟨_, rfl⟩
   replace H : (if 0 ≤ (ji56) then (if (ji56) ≤ (((rd_T94 l0 x17_1).f0).size : Int) then (if 0 ≤ ((rd_T94 l0 x17_1).f2) then (if ((rd_T94 l0 x17_1).f2) < (x5_1.length : Int) then ((spec_vaNode.f t117 (((rd_T94 l0 x17_1).f0).extract 0 ((ji56) : Int).toNat) (rd x5_1 ((rd_T94 l0 x17_1).f2)) t120 0).bind fun bt122 => (if 0 ≤ ((rd_T94 l0 x17_1).f1) then (if ((rd_T94 l0 x17_1).f1) < (x5_1.length : Int) then (spec_vaSymbols.l0 kj42 bt122.1 (x5_1.set (((rd_T94 l0 x17_1).f1) : Int).toNat bt122.2) l0 (l0.length : Int) (wrap64 (x17_1 + 1))) else (none)) else (none))) else (none)) else (none)) else (none)) else (none)) = some (r1, r2) := by first | (rw [hji56] at H; exact H) | (simp only [hji56] at H ⊢; exact H)
   (try rw [hji56] at A55)
   have hji56w : (IntKind.i64.wrap ((((rd_T94 l0 x17_1).f0).size : Int) - 1)) = ji56 := (i64_w _).trans hji56
   by_cases c57 : 0 ≤ (ji56)
   rotate_left
   · rw [if_neg c57] at H
     exact absurd H (by simp)
   rw [if_pos c57] at H
   have c57b0 := eq_true c57
   have c57b1 := zdt c57
   clear c57
   by_cases c58 : (ji56) ≤ (((rd_T94 l0 x17_1).f0).size : Int)
   rotate_left
   · rw [if_neg c58] at H
     exact absurd H (by simp)
   rw [if_pos c58] at H
   have c58b0 := eq_true c58
   have c58b1 := zdt c58
   clear c58
   revert H
   refine zin fun c59 H => ?_
   revert H
   refine zin fun c60 H => ?_
   replace H := zob H
   obtain ⟨⟨t122, t125⟩, A610, H⟩ := H
   replace H : (if 0 ≤ ((rd_T94 l0 x17_1).f1) then (if ((rd_T94 l0 x17_1).f1) < (x5_1.length : Int) then (spec_vaSymbols.l0 kj42 t122 (x5_1.set (((rd_T94 l0 x17_1).f1) : Int).toNat t125) l0 (l0.length : Int) (wrap64 (x17_1 + 1))) else (none)) else (none)) = some (r1, r2) := H
   have A61 := zA A610
   clear A610
   revert H
   refine zin fun c62 H => ?_
   revert H
   refine zin fun c63 H => ?_
   obtain ⟨y126, hy126⟩ : ∃ y_ : List Int, y_ = (x5_1.set (((rd_T94 l0 x17_1).f1) : Int).toNat t125) := ⟨_, rfl⟩
   replace H : (spec_vaSymbols.l0 kj42 t122 y126 l0 (l0.length : Int) (wrap64 (x17_1 + 1))) = some (r1, r2) := by first | (rw [hy126]; with_reducible exact H) | (have H2_ := (Option.bind_some _ _).symm.trans H; rw [hy126]; with_reducible exact H2_) | (have H2_ := (Option.bind_some _ _).symm.trans H; with_reducible exact H2_) | with_reducible exact H | (rw [hy126]; exact H) | exact H
   have Ny126 := zA hy126
   clear hy126
   have H' := zA H
   clear H
   have hnb65 := NB109_108.out
   have hnc65 := NB108_109.out
   obtain ⟨hcz66_0, hcz66_1, hcz66_2, hcz66_3⟩ := zc4 wc (.string (⟨#[99, 111, 110, 115, 116]⟩ : ByteArray)) (.int .i64 0) (.int .i64 0) (.int .i64 ((rd_T94 l0 x17_1).f4)) BK109.out
   obtain ⟨hfz66_0, hfz66_1, hfz66_2, hfz66_3⟩ := zf4 BK109.out
   obtain ⟨Ao67, co67, eo67⟩ := Kd.R_slice HO_4.out
   subst eo67
   try go_wp2_with (first | ((with_reducible refine zgc 164 ?_); refine zca 68 Try.func164 #[.slice Ao67 x4_1.length co67, .agg #[.string (⟨#[99, 111, 110, 115, 116]⟩ : ByteArray), .int .i64 0, .int .i64 0, .int .i64 ((rd_T94 l0 x17_1).f4)]] (spec_vaNode.calls (fun k_ => some k_ = (.slice Ao67 x4_1.length co67 : Value).ownBlock) (.slice Ao67 x4_1.length co67) x4_1 (⟨#[99, 111, 110, 115, 116]⟩ : ByteArray) 0 0 ((rd_T94 l0 x17_1).f4) t117 t120 w _ (zq9 GE108 GE109) (by exact Kd.R_tight rfl HO_4.out) A55.out) ?_; rintro e w68 ⟨v118, rfl, ho0, hb, hkp⟩; refine ⟨_, rfl, ?_⟩; replace HO_5 := zA (Kd.R_mono (ok' := fun k_ => True) (Kd.R_keptB ((Kd.R_apart' HO_5.out (Kd.R_typed HO_4.out) (by decide))) hkp (fun k_ hk_ hs_ => (hk_.2) hs_)) (fun k_ hk_ => trivial)); replace BK108 := zA (blk_kept (zq7 BK108) hkp (fun hs_ => (fun e_ => (Kd.R_ne HO_4.out BK108.out (by decide)) e_) hs_)); have HO119 := zA (Kd.R_mono (ok' := fun k_ => k_ ≠ gb109) ho0 (fun k_ hk_ => Or.elim hk_ (fun hs_ => fun e_ => (Kd.R_away HO_4.out (fun _ hk => hk)) zq55) (fun hn_ => (Kd.freshB (g := gb109) (o := .cells #[.string (⟨#[99, 111, 110, 115, 116]⟩ : ByteArray), .int .i64 0, .int .i64 0, .int .i64 ((rd_T94 l0 x17_1).f4)] 72 (0, 0)) (zq7 BK109) k_ hn_)))); replace BK109 := zA (blk_kept (zq7 BK109) hkp (fun hs_ => (fun e_ => (Kd.R_away HO_4.out (fun _ hk => hk)) e_) hs_)); replace HB := zA (hb); clear HO_4; (try clear hb); (try clear hkp); (try clear ho0)))
   replace HO_5 := zA (zRd HO_5.out)
   replace HO119 := zA (zRd HO119.out)
   replace BK108 := zA (zkd BK108.out)
   replace BK109 := zA (zkd BK109.out)
   replace HB := zA (zbd HB.out)
   obtain ⟨Ao70, co70, eo70⟩ := Kd.R_slice HO_5.out
   (first | subst eo70 | (injection eo70 with f1_ f2_ f3_; have f4_ := f1_.symm; have f5_ := f3_.symm; clear f1_ f2_ f3_; subst f4_; subst f5_))
   have p121 : 0 ≤ (((rd_T94 l0 x17_1).f2) : Int) := zde zq27
   have q121 : ((rd_T94 l0 x17_1).f2) < (x5_1.length : Int) := zde zq27
   obtain ⟨ad121, e121, hx121_0⟩ := Kd.at_int (zRr HO_5.out).2.2 ((rd_T94 l0 x17_1).f2) p121 q121
   cases e121
   replace p121 := eq_true p121
   replace q121 := eq_true q121
   obtain ⟨Ao71, co71, eo71⟩ := Kd.R_slice HO119.out
   (first | subst eo71 | (injection eo71 with f1_ f2_ f3_; have f4_ := f1_.symm; have f5_ := f3_.symm; clear f1_ f2_ f3_; subst f4_; subst f5_))
   refine start_ (n := 21) (S := fun w' => w'.cell? ⟨gb108, 0, none⟩ = some (.string ((rd_T94 l0 x17_1).f0)) ∧ w'.cell? ⟨gb108, 1, none⟩ = some (.int .i64 ((rd_T94 l0 x17_1).f1)) ∧ w'.cell? ⟨gb108, 2, none⟩ = some (.int .i64 ((rd_T94 l0 x17_1).f2)) ∧ w'.cell? ⟨gb108, 3, none⟩ = some (.int .i64 ((rd_T94 l0 x17_1).f3)) ∧ w'.cell? ⟨gb108, 4, none⟩ = some (.int .i64 ((rd_T94 l0 x17_1).f4)) ∧ w'.cell? (ad121.add (((rd_T94 l0 x17_1).f2)).toNat) = some (.int .i64 (rd x5_1 ((rd_T94 l0 x17_1).f2)))) (ds := []) #[false, false, false, false, false, false, false, false, false, false, false, false, false, false, false, false, false, false, false, false, false] zq32 rfl rfl ⟨(blk_cell BK108.out 0).trans rfl, (blk_cell BK108.out 1).trans rfl, (blk_cell BK108.out 2).trans rfl, (blk_cell BK108.out 3).trans rfl, (blk_cell BK108.out 4).trans rfl, hx121_0⟩ (fun hHeld => ?_); refine with_tabW spec_vaSymbols.tab20 spec_vaSymbols.bits20 (fun HT_ HW_ => ?_)
   generalize w68.drew = w69 at HO_5 HO119 BK108 BK109 HB hx121_0 hHeld ⊢
   refine zpu 0 72 HT_ ?_
   refine zpu 1 73 HT_ ?_
   refine zpu 3 75 HT_ ?_
   refine zpu 8 80 HT_ ?_
   refine zpu 9 81 HT_ ?_
   refine zpu 13 85 HT_ ?_
   refine ztu 2 74 HT_ HW_ hHeld ?_
   refine ztu 4 76 HT_ HW_ hHeld ?_
   refine zpu 5 77 HT_ ?_
   refine zpu 6 78 HT_ ?_
   refine zpu 7 79 HT_ ?_
   refine ztu 10 82 HT_ HW_ hHeld ?_
   refine zpu 11 83 HT_ ?_
   refine ztu 12 84 HT_ HW_ hHeld ?_
   refine zpu 14 86 HT_ ?_
   refine one_ (i := 15) (N := some 87) #[true, true, true, true, true, true, true, true, true, true, true, true, true, true, true, true, false, false, false, false, false] rfl rfl (one_of HT_.out zq32) (by decide) (fun K hK => ?_)
   refine goes_ Try.func164 zq32 rfl #[.slice Ao71 t117.length co71, .agg #[.string (((rd_T94 l0 x17_1).f0).extract 0 ((ji56) : Int).toNat), .int .i64 (rd x5_1 ((rd_T94 l0 x17_1).f2)), .int .i64 t120, .int .i64 0]] (by rfl) rfl rfl (by (try simp only [List.map_toArray, List.map_cons, List.map_nil]); first | done | (simp only [hji56]; rfl) | rfl | (simp only [List.length_drop, List.length_take]; rfl)) ?_
   with_reducible refine (spec_vaNode.calls (fun k_ => some k_ = (.slice Ao71 t117.length co71 : Value).ownBlock) (.slice Ao71 t117.length co71) t117 (((rd_T94 l0 x17_1).f0).extract 0 ((ji56) : Int).toNat) (rd x5_1 ((rd_T94 l0 x17_1).f2)) t120 0 t122 t125 w _ ?side1 ?side2 A61.out).mono ?_
   (case side1 => repeat (first | (with_reducible first | exact HB.out | apply zba | apply zbn | apply zbd | refine below_set ?_ GE108.out | refine below_set ?_ GE109.out) | exact HB.out))
   (case side2 => exact Kd.R_tight rfl HO119.out)
   rintro e w72 ⟨v123, rfl, ho0, hb, hkp⟩
   have HS5_ := cell_kept (hHeld.2.2.2.2.2) hkp (zq33 HO_5 HO119)
   refine ⟨_, rfl, ?_⟩
   replace HO_5 := zA (Kd.R_mono (ok' := fun k_ => True) (Kd.R_keptB ((Kd.R_apart' HO_5.out (Kd.R_typed HO119.out) (by decide))) hkp (fun k_ hk_ hs_ => (hk_.2) hs_)) (fun k_ hk_ => trivial))
   replace BK108 := zA (blk_kept (zq7 BK108) hkp (fun hs_ => (fun e_ => (Kd.R_ne HO119.out BK108.out (by decide)) e_) hs_))
   have HO124 := zA (Kd.R_mono (ok' := fun k_ => k_ ≠ gb109) ho0 (fun k_ hk_ => Or.elim hk_ (fun hs_ => fun e_ => (Kd.R_away HO119.out (fun _ hk => hk)) zq55) (fun hn_ => (Kd.freshB (g := gb109) (o := .cells #[.string (⟨#[99, 111, 110, 115, 116]⟩ : ByteArray), .int .i64 0, .int .i64 0, .int .i64 ((rd_T94 l0 x17_1).f4)] 72 (0, 0)) (zq7 BK109) k_ hn_))))
   replace BK109 := zA (blk_kept (zq7 BK109) hkp (fun hs_ => (fun e_ => (Kd.R_away HO119.out (fun _ hk => hk)) e_) hs_))
   replace HB := zA (hb)
   clear HO119
   (try clear hb)
   (try clear hkp)
   (try clear ho0)
   refine hK.out _ _ ⟨(blk_cell BK108.out 0).trans rfl, (blk_cell BK108.out 1).trans rfl, (blk_cell BK108.out 2).trans rfl, (blk_cell BK108.out 3).trans rfl, (blk_cell BK108.out 4).trans rfl, HS5_⟩ (fun hHeld => ?_)
   clear hK K
   refine znm 87 ?_
   refine zpu 16 71 HT_ ?_
   refine zpu 17 88 HT_ ?_
   refine zpu 18 89 HT_ ?_
   refine zpu 19 4 HT_ ?_
   refine zpu 20 9 HT_ ?_
   refine done_ (done_of HT_.out zq32) ?_
   obtain ⟨hcz73_0, hcz73_1, hcz73_2, hcz73_3, hcz73_4⟩ := zc5 w72 (.string ((rd_T94 l0 x17_1).f0)) (.int .i64 ((rd_T94 l0 x17_1).f1)) (.int .i64 ((rd_T94 l0 x17_1).f2)) (.int .i64 ((rd_T94 l0 x17_1).f3)) (.int .i64 ((rd_T94 l0 x17_1).f4)) BK108.out
   obtain ⟨hfz73_0, hfz73_1, hfz73_2, hfz73_3, hfz73_4⟩ := zf5 BK108.out
   have p64 : 0 ≤ (((rd_T94 l0 x17_1).f1) : Int) := zde zq27
   have q64 : (((rd_T94 l0 x17_1).f1) : Int) < ((x5_1.length : Int) : Int) := zde zq27
   obtain ⟨go64, co64, eo64, gb64, gl64, cl64, HG64⟩ := Kd.R_form HO_5.out (by omega)
   (first | cases eo64 | (injection eo64 with ea_ en_ ec_; (first | subst ea_ | (injection ea_ with ea_; subst ea_)); subst ec_; clear en_))
   have GB64 := zA gb64
   have GG64 := zA HG64
   clear gb64 gl64 HG64
   (first | simp only [add_plain] at hx121_0 | skip)
   obtain ⟨hx64_0, hf64_0⟩ := Kd.R_celln 0 HO_5.out (((rd_T94 l0 x17_1).f1) : Int) p64 q64
   replace p64 := eq_true p64
   replace q64 := eq_true q64
   obtain ⟨hy74_, hz74_⟩ := Kd.R_celln 0 HO_5.out (((rd_T94 l0 x17_1).f1) : Int) (zde zq27) (zde zq27)
   have HP74 := Kd.R_putg HO_5.out (((rd_T94 l0 x17_1).f1) : Int) t125
   try go_wp2_with (first | ((with_reducible refine zgs 3 142 ?_); refine zse (w72.setCell ⟨go64, (((rd_T94 l0 x17_1).f1) : Int).toNat, none⟩ (.int .i64 t125)) ?_; intro w75 hw; have hg : w72.grownBy w75 (some go64) := (by rw [hw]; exact HP74.2); have hp_ : Kd.R (Kd.int .i64) 3 w75 w.heap.size (fun _ => True) (.slice (some ⟨go64, 0, none⟩) x5_1.length co70) y126 := (by rw [hw, Ny126.out]; exact HP74.1); clear HP74; replace BK108 := zA (blk_grown (g := gb108) (o := .cells #[.string ((rd_T94 l0 x17_1).f0), .int .i64 ((rd_T94 l0 x17_1).f1), .int .i64 ((rd_T94 l0 x17_1).f2), .int .i64 ((rd_T94 l0 x17_1).f3), .int .i64 ((rd_T94 l0 x17_1).f4)] 94 (0, 0)) (zq7 BK108) hg (Kd.R_ne HO_5.out BK108.out (by decide))); replace BK109 := zA (blk_grown (g := gb109) (o := .cells #[.string (⟨#[99, 111, 110, 115, 116]⟩ : ByteArray), .int .i64 0, .int .i64 0, .int .i64 ((rd_T94 l0 x17_1).f4)] 72 (0, 0)) (zq7 BK109) hg (Kd.R_ne HO_5.out BK109.out (by decide))); replace HO124 := zA (Kd.R_over' (v := (.slice (some ⟨go64, 0, none⟩) x5_1.length co70)) (zq2 HO124) (Kd.R_typed HO_5.out) (by decide) hg); replace HO_5 := zA (hp_); replace HB := zA ((zq38 GB64 : Below w.heap.size w w75)); clear hg hw hp_))
   go_roundg kj42
   case measure => have := HK1.out; have := HJ42.out; omega
   case rel => exact ⟨(t122), (y126), (wrap64 (x17_1 + 1)), zq5, H', ⟨zq44 HK1 HJ42⟩, ⟨zq28 HO124⟩, ⟨zq2 HO_5⟩, ⟨zq9 GE108 GE109⟩⟩
 replace c54 := zbf c54
 subst c54
 replace H := zif H
 by_cases c76 : ((rd_T94 l0 x17_1).f0).toList = ([108, 101, 97] : List UInt8)
 · rw [if_pos c76] at H
   obtain ⟨c76b0, c76b1⟩ := zbe c76
   clear c76
   replace H := zob H
   obtain ⟨⟨t127, t130⟩, A770, H⟩ := H
   replace H : (if 0 ≤ ((rd_T94 l0 x17_1).f3) then (if ((rd_T94 l0 x17_1).f3) < (x5_1.length : Int) then ((spec_vaNode.f t127 (⟨#[115, 104, 108]⟩ : ByteArray) (rd x5_1 ((rd_T94 l0 x17_1).f3)) t130 0).bind fun bt132 => (if 0 ≤ ((rd_T94 l0 x17_1).f2) then (if ((rd_T94 l0 x17_1).f2) < (x5_1.length : Int) then ((spec_vaNode.f bt132.1 (⟨#[97, 100, 100]⟩ : ByteArray) (rd x5_1 ((rd_T94 l0 x17_1).f2)) bt132.2 0).bind fun bt137 => (if 0 ≤ ((rd_T94 l0 x17_1).f1) then (if ((rd_T94 l0 x17_1).f1) < (x5_1.length : Int) then (spec_vaSymbols.l0 kj42 bt137.1 (x5_1.set (((rd_T94 l0 x17_1).f1) : Int).toNat bt137.2) l0 (l0.length : Int) (wrap64 (x17_1 + 1))) else (none)) else (none))) else (none)) else (none))) else (none)) else (none)) = some (r1, r2) := H
   have A77 := zA A770
   clear A770
   revert H
   refine zin fun c78 H => ?_
   revert H
   refine zin fun c79 H => ?_
   replace H := zob H
   obtain ⟨⟨t132, t135⟩, A800, H⟩ := H
   replace H : (if 0 ≤ ((rd_T94 l0 x17_1).f2) then (if ((rd_T94 l0 x17_1).f2) < (x5_1.length : Int) then ((spec_vaNode.f t132 (⟨#[97, 100, 100]⟩ : ByteArray) (rd x5_1 ((rd_T94 l0 x17_1).f2)) t135 0).bind fun bt137 => (if 0 ≤ ((rd_T94 l0 x17_1).f1) then (if ((rd_T94 l0 x17_1).f1) < (x5_1.length : Int) then (spec_vaSymbols.l0 kj42 bt137.1 (x5_1.set (((rd_T94 l0 x17_1).f1) : Int).toNat bt137.2) l0 (l0.length : Int) (wrap64 (x17_1 + 1))) else (none)) else (none))) else (none)) else (none)) = some (r1, r2) := H
   have A80 := zA A800
   clear A800
   revert H
   refine zin fun c81 H => ?_
   revert H
   refine zin fun c82 H => ?_
   replace H := zob H
   obtain ⟨⟨t137, t140⟩, A830, H⟩ := H
   replace H : (if 0 ≤ ((rd_T94 l0 x17_1).f1) then (if ((rd_T94 l0 x17_1).f1) < (x5_1.length : Int) then (spec_vaSymbols.l0 kj42 t137 (x5_1.set (((rd_T94 l0 x17_1).f1) : Int).toNat t140) l0 (l0.length : Int) (wrap64 (x17_1 + 1))) else (none)) else (none)) = some (r1, r2) := H
   have A83 := zA A830
   clear A830
   revert H
   refine zin fun c84 H => ?_
   revert H
   refine zin fun c85 H => ?_
   obtain ⟨y141, hy141⟩ : ∃ y_ : List Int, y_ = (x5_1.set (((rd_T94 l0 x17_1).f1) : Int).toNat t140) := ⟨_, rfl⟩
   replace H : (spec_vaSymbols.l0 kj42 t137 y141 l0 (l0.length : Int) (wrap64 (x17_1 + 1))) = some (r1, r2) := by first | (rw [hy141]; with_reducible exact H) | (have H2_ := (Option.bind_some _ _).symm.trans H; rw [hy141]; with_reducible exact H2_) | (have H2_ := (Option.bind_some _ _).symm.trans H; with_reducible exact H2_) | with_reducible exact H | (rw [hy141]; exact H) | exact H
   have Ny141 := zA hy141
   clear hy141
   have H' := zA H
   clear H
   have hnb87 := NB109_108.out
   have hnc87 := NB108_109.out
   obtain ⟨hcz88_0, hcz88_1, hcz88_2, hcz88_3⟩ := zc4 wc (.string (⟨#[99, 111, 110, 115, 116]⟩ : ByteArray)) (.int .i64 0) (.int .i64 0) (.int .i64 ((rd_T94 l0 x17_1).f4)) BK109.out
   obtain ⟨hfz88_0, hfz88_1, hfz88_2, hfz88_3⟩ := zf4 BK109.out
   obtain ⟨Ao89, co89, eo89⟩ := Kd.R_slice HO_4.out
   subst eo89
   go_wp2_with (first | ((with_reducible refine zgc 164 ?_); refine zca 95 Try.func164 #[.slice Ao89 x4_1.length co89, .agg #[.string (⟨#[99, 111, 110, 115, 116]⟩ : ByteArray), .int .i64 0, .int .i64 0, .int .i64 ((rd_T94 l0 x17_1).f4)]] (spec_vaNode.calls (fun k_ => some k_ = (.slice Ao89 x4_1.length co89 : Value).ownBlock) (.slice Ao89 x4_1.length co89) x4_1 (⟨#[99, 111, 110, 115, 116]⟩ : ByteArray) 0 0 ((rd_T94 l0 x17_1).f4) t127 t130 w _ (zq9 GE108 GE109) (by exact Kd.R_tight rfl HO_4.out) A77.out) ?_; rintro e w90 ⟨v128, rfl, ho0, hb, hkp⟩; refine ⟨_, rfl, ?_⟩; replace HO_5 := zA (Kd.R_mono (ok' := fun k_ => True) (Kd.R_keptB ((Kd.R_apart' HO_5.out (Kd.R_typed HO_4.out) (by decide))) hkp (fun k_ hk_ hs_ => (hk_.2) hs_)) (fun k_ hk_ => trivial)); replace BK108 := zA (blk_kept (zq7 BK108) hkp (fun hs_ => (fun e_ => (Kd.R_ne HO_4.out BK108.out (by decide)) e_) hs_)); have HO129 := zA (Kd.R_mono (ok' := fun k_ => k_ ≠ gb109) ho0 (fun k_ hk_ => Or.elim hk_ (fun hs_ => fun e_ => (Kd.R_away HO_4.out (fun _ hk => hk)) zq55) (fun hn_ => (Kd.freshB (g := gb109) (o := .cells #[.string (⟨#[99, 111, 110, 115, 116]⟩ : ByteArray), .int .i64 0, .int .i64 0, .int .i64 ((rd_T94 l0 x17_1).f4)] 72 (0, 0)) (zq7 BK109) k_ hn_)))); replace BK109 := zA (blk_kept (zq7 BK109) hkp (fun hs_ => (fun e_ => (Kd.R_away HO_4.out (fun _ hk => hk)) e_) hs_)); replace HB := zA (hb); clear HO_4; (try clear hb); (try clear hkp); (try clear ho0); obtain ⟨hcz91_0, hcz91_1, hcz91_2, hcz91_3, hcz91_4⟩ := zc5 w90 (.string ((rd_T94 l0 x17_1).f0)) (.int .i64 ((rd_T94 l0 x17_1).f1)) (.int .i64 ((rd_T94 l0 x17_1).f2)) (.int .i64 ((rd_T94 l0 x17_1).f3)) (.int .i64 ((rd_T94 l0 x17_1).f4)) BK108.out; obtain ⟨hfz91_0, hfz91_1, hfz91_2, hfz91_3, hfz91_4⟩ := zf5 BK108.out; obtain ⟨Ao92, co92, eo92⟩ := Kd.R_slice HO_5.out; subst eo92; have p131 : 0 ≤ (((rd_T94 l0 x17_1).f3) : Int) := zde zq27; have q131 : ((rd_T94 l0 x17_1).f3) < (x5_1.length : Int) := zde zq27; obtain ⟨ad131, e131, hx131_0⟩ := Kd.at_int (zRr HO_5.out).2.2 ((rd_T94 l0 x17_1).f3) p131 q131; cases e131; replace p131 := eq_true p131; replace q131 := eq_true q131; obtain ⟨Ao93, co93, eo93⟩ := Kd.R_slice HO129.out; subst eo93) | ((with_reducible refine zgc 164 ?_); refine zca 107 Try.func164 #[.slice Ao93 t127.length co93, .agg #[.string (⟨#[115, 104, 108]⟩ : ByteArray), .int .i64 (rd x5_1 ((rd_T94 l0 x17_1).f3)), .int .i64 t130, .int .i64 0]] (spec_vaNode.calls (fun k_ => some k_ = (.slice Ao93 t127.length co93 : Value).ownBlock) (.slice Ao93 t127.length co93) t127 (⟨#[115, 104, 108]⟩ : ByteArray) (rd x5_1 ((rd_T94 l0 x17_1).f3)) t130 0 t132 t135 w _ (zq9 GE108 GE109) (by exact Kd.R_tight rfl HO129.out) A80.out) ?_; rintro e w94 ⟨v133, rfl, ho0, hb, hkp⟩; refine ⟨_, rfl, ?_⟩; replace HO_5 := zA (Kd.R_mono (ok' := fun k_ => True) (Kd.R_keptB ((Kd.R_apart' HO_5.out (Kd.R_typed HO129.out) (by decide))) hkp (fun k_ hk_ hs_ => (hk_.2) hs_)) (fun k_ hk_ => trivial)); replace BK108 := zA (blk_kept (zq7 BK108) hkp (fun hs_ => (fun e_ => (Kd.R_ne HO129.out BK108.out (by decide)) e_) hs_)); have HO134 := zA (Kd.R_mono (ok' := fun k_ => k_ ≠ gb109) ho0 (fun k_ hk_ => Or.elim hk_ (fun hs_ => fun e_ => (Kd.R_away HO129.out (fun _ hk => hk)) zq55) (fun hn_ => (Kd.freshB (g := gb109) (o := .cells #[.string (⟨#[99, 111, 110, 115, 116]⟩ : ByteArray), .int .i64 0, .int .i64 0, .int .i64 ((rd_T94 l0 x17_1).f4)] 72 (0, 0)) (zq7 BK109) k_ hn_)))); replace BK109 := zA (blk_kept (zq7 BK109) hkp (fun hs_ => (fun e_ => (Kd.R_away HO129.out (fun _ hk => hk)) e_) hs_)); replace HB := zA (hb); clear HO129; (try clear hb); (try clear hkp); (try clear ho0); obtain ⟨hcz95_0, hcz95_1, hcz95_2, hcz95_3, hcz95_4⟩ := zc5 w94 (.string ((rd_T94 l0 x17_1).f0)) (.int .i64 ((rd_T94 l0 x17_1).f1)) (.int .i64 ((rd_T94 l0 x17_1).f2)) (.int .i64 ((rd_T94 l0 x17_1).f3)) (.int .i64 ((rd_T94 l0 x17_1).f4)) BK108.out; obtain ⟨hfz95_0, hfz95_1, hfz95_2, hfz95_3, hfz95_4⟩ := zf5 BK108.out; have p136 : 0 ≤ (((rd_T94 l0 x17_1).f2) : Int) := zde zq27; have q136 : ((rd_T94 l0 x17_1).f2) < (x5_1.length : Int) := zde zq27; obtain ⟨ad136, e136, hx136_0⟩ := Kd.at_int (zRr HO_5.out).2.2 ((rd_T94 l0 x17_1).f2) p136 q136; obtain rfl : ad131 = ad136 := (by injection e136); replace p136 := eq_true p136; replace q136 := eq_true q136; obtain ⟨Ao96, co96, eo96⟩ := Kd.R_slice HO134.out; subst eo96) | ((with_reducible refine zgc 164 ?_); refine zca 119 Try.func164 #[.slice Ao96 t132.length co96, .agg #[.string (⟨#[97, 100, 100]⟩ : ByteArray), .int .i64 (rd x5_1 ((rd_T94 l0 x17_1).f2)), .int .i64 t135, .int .i64 0]] (spec_vaNode.calls (fun k_ => some k_ = (.slice Ao96 t132.length co96 : Value).ownBlock) (.slice Ao96 t132.length co96) t132 (⟨#[97, 100, 100]⟩ : ByteArray) (rd x5_1 ((rd_T94 l0 x17_1).f2)) t135 0 t137 t140 w _ (zq9 GE108 GE109) (by exact Kd.R_tight rfl HO134.out) A83.out) ?_; rintro e w97 ⟨v138, rfl, ho0, hb, hkp⟩; refine ⟨_, rfl, ?_⟩; replace HO_5 := zA (Kd.R_mono (ok' := fun k_ => True) (Kd.R_keptB ((Kd.R_apart' HO_5.out (Kd.R_typed HO134.out) (by decide))) hkp (fun k_ hk_ hs_ => (hk_.2) hs_)) (fun k_ hk_ => trivial)); replace BK108 := zA (blk_kept (zq7 BK108) hkp (fun hs_ => (fun e_ => (Kd.R_ne HO134.out BK108.out (by decide)) e_) hs_)); have HO139 := zA (Kd.R_mono (ok' := fun k_ => k_ ≠ gb109) ho0 (fun k_ hk_ => Or.elim hk_ (fun hs_ => fun e_ => (Kd.R_away HO134.out (fun _ hk => hk)) zq55) (fun hn_ => (Kd.freshB (g := gb109) (o := .cells #[.string (⟨#[99, 111, 110, 115, 116]⟩ : ByteArray), .int .i64 0, .int .i64 0, .int .i64 ((rd_T94 l0 x17_1).f4)] 72 (0, 0)) (zq7 BK109) k_ hn_)))); replace BK109 := zA (blk_kept (zq7 BK109) hkp (fun hs_ => (fun e_ => (Kd.R_away HO134.out (fun _ hk => hk)) e_) hs_)); replace HB := zA (hb); clear HO134; (try clear hb); (try clear hkp); (try clear ho0); obtain ⟨hcz98_0, hcz98_1, hcz98_2, hcz98_3, hcz98_4⟩ := zc5 w97 (.string ((rd_T94 l0 x17_1).f0)) (.int .i64 ((rd_T94 l0 x17_1).f1)) (.int .i64 ((rd_T94 l0 x17_1).f2)) (.int .i64 ((rd_T94 l0 x17_1).f3)) (.int .i64 ((rd_T94 l0 x17_1).f4)) BK108.out; obtain ⟨hfz98_0, hfz98_1, hfz98_2, hfz98_3, hfz98_4⟩ := zf5 BK108.out; have p86 : 0 ≤ (((rd_T94 l0 x17_1).f1) : Int) := zde zq27; have q86 : (((rd_T94 l0 x17_1).f1) : Int) < ((x5_1.length : Int) : Int) := zde zq27; obtain ⟨go86, co86, eo86, gb86, gl86, cl86, HG86⟩ := Kd.R_form HO_5.out (by omega); (first | cases eo86 | (injection eo86 with ea_ en_ ec_; (first | subst ea_ | (injection ea_ with ea_; subst ea_)); subst ec_; clear en_)); have GB86 := zA gb86; have GG86 := zA HG86; clear gb86 gl86 HG86; (first | simp only [add_plain] at hx131_0 | skip); (first | simp only [add_plain] at hx136_0 | skip); obtain ⟨hx86_0, hf86_0⟩ := Kd.R_celln 0 HO_5.out (((rd_T94 l0 x17_1).f1) : Int) p86 q86; replace p86 := eq_true p86; replace q86 := eq_true q86; obtain ⟨hy99_, hz99_⟩ := Kd.R_celln 0 HO_5.out (((rd_T94 l0 x17_1).f1) : Int) (zde zq27) (zde zq27); have HP99 := Kd.R_putg HO_5.out (((rd_T94 l0 x17_1).f1) : Int) t140) | ((with_reducible refine zgs 3 142 ?_); refine zse (w97.setCell ⟨go86, (((rd_T94 l0 x17_1).f1) : Int).toNat, none⟩ (.int .i64 t140)) ?_; intro w100 hw; have hg : w97.grownBy w100 (some go86) := (by rw [hw]; exact HP99.2); have hp_ : Kd.R (Kd.int .i64) 3 w100 w.heap.size (fun _ => True) (.slice (some ⟨go86, 0, none⟩) x5_1.length co92) y141 := (by rw [hw, Ny141.out]; exact HP99.1); clear HP99; replace BK108 := zA (blk_grown (g := gb108) (o := .cells #[.string ((rd_T94 l0 x17_1).f0), .int .i64 ((rd_T94 l0 x17_1).f1), .int .i64 ((rd_T94 l0 x17_1).f2), .int .i64 ((rd_T94 l0 x17_1).f3), .int .i64 ((rd_T94 l0 x17_1).f4)] 94 (0, 0)) (zq7 BK108) hg (Kd.R_ne HO_5.out BK108.out (by decide))); replace BK109 := zA (blk_grown (g := gb109) (o := .cells #[.string (⟨#[99, 111, 110, 115, 116]⟩ : ByteArray), .int .i64 0, .int .i64 0, .int .i64 ((rd_T94 l0 x17_1).f4)] 72 (0, 0)) (zq7 BK109) hg (Kd.R_ne HO_5.out BK109.out (by decide))); replace HO139 := zA (Kd.R_over' (v := (.slice (some ⟨go86, 0, none⟩) x5_1.length co92)) (zq2 HO139) (Kd.R_typed HO_5.out) (by decide) hg); replace HO_5 := zA (hp_); replace HB := zA ((zq38 GB86 : Below w.heap.size w w100)); clear hg hw hp_))
   go_roundg kj42
   case measure => have := HK1.out; have := HJ42.out; omega
   case rel => exact ⟨(t137), (y141), (wrap64 (x17_1 + 1)), zq5, H', ⟨zq44 HK1 HJ42⟩, ⟨zq28 HO139⟩, ⟨zq2 HO_5⟩, ⟨zq9 GE108 GE109⟩⟩
 rw [if_neg c76] at H
 obtain ⟨c76b0, c76b1⟩ := zbq c76
 have HC101 := zA H
 clear H
 go_upto_if 122 with (fail)
 go_cut [122] (fun v122 wc => ∃ (kq : Nat) (x122_100 : Bool), v122 = .bool x122_100 ∧ Aside0 (spec_vaSymbols.j2 kq x4_1 x5_1 l0 (l0.length : Int) x17_1 x122_100 ((rd_T94 l0 x17_1).f0) ((rd_T94 l0 x17_1).f1) ((rd_T94 l0 x17_1).f2) ((rd_T94 l0 x17_1).f3) ((rd_T94 l0 x17_1).f4) = some (r1, r2)) ∧ Aside0 (kq ≤ kj42) ∧ Aside0 (Kd.R k72 72 wc w.heap.size (fun k_ => k_ ≠ gb109) u4 x4_1) ∧ Aside0 (Kd.R (Kd.int .i64) 3 wc w.heap.size (fun _ => True) v105 x5_1) ∧ Aside0 (wc.heap[gb108]? = some (.cells #[.string ((rd_T94 l0 x17_1).f0), .int .i64 ((rd_T94 l0 x17_1).f1), .int .i64 ((rd_T94 l0 x17_1).f2), .int .i64 ((rd_T94 l0 x17_1).f3), .int .i64 ((rd_T94 l0 x17_1).f4)] 94 (0, 0))) ∧ Aside0 (wc.heap[gb109]? = some (.cells #[.string (⟨#[99, 111, 110, 115, 116]⟩ : ByteArray), .int .i64 0, .int .i64 0, .int .i64 ((rd_T94 l0 x17_1).f4)] 72 (0, 0))) ∧ Aside0 (Below w.heap.size w wc))
 case first =>
   have H := HC101.out
   clear HC101
   by_cases c102 : ((rd_T94 l0 x17_1).f0).toList = ([110, 111, 116] : List UInt8)
   rotate_left
   · rw [if_neg c102] at H
     obtain ⟨c102b0, c102b1⟩ := zbq c102
     (first | rw [c102b0] | (simp only [i64_w, i32_w]; rw [c102b0]) | skip)
     have H' := zA H
     clear H
     go_wp2
     go_meet
     case rel => exact ⟨_, ((((rd_T94 l0 x17_1).f0).toList == ([110, 101, 103] : List UInt8))), zq5, H', ⟨zq60 HK1 HJ42⟩, ⟨zq2 HO_4⟩, ⟨zq2 HO_5⟩, ⟨zq7 BK108⟩, ⟨zq7 BK109⟩, ⟨zq9 GE108 GE109⟩⟩
   rw [if_pos c102] at H
   obtain ⟨c102b0, c102b1⟩ := zbe c102
   clear c102
   (first | rw [c102b0] | (simp only [i64_w, i32_w]; rw [c102b0]) | skip)
   have H' := zA H
   clear H
   go_wp2
   go_meet
   case rel => exact ⟨_, ((((rd_T94 l0 x17_1).f0).toList == ([110, 111, 116] : List UInt8))), zq5, H', ⟨zq60 HK1 HJ42⟩, ⟨zq2 HO_4⟩, ⟨zq2 HO_5⟩, ⟨zq7 BK108⟩, ⟨zq7 BK109⟩, ⟨zq9 GE108 GE109⟩⟩
 clear HC101
 try clear c4
 try clear c6
 try clear c7
 try clear c8
 try clear p13
 try clear q13
 try clear c27
 try clear c27b0
 try clear c27b1
 try clear c28
 try clear c29
 try clear c30
 try clear c31
 try clear p32
 try clear q32
 try clear c50
 try clear c50b0
 try clear c50b1
 try clear c51
 try clear c51b0
 try clear c51b1
 try clear c52
 try clear c52b0
 try clear c52b1
 try clear c53
 try clear c53b0
 try clear c53b1
 try clear c54
 try clear c57
 try clear c57b0
 try clear c57b1
 try clear c58
 try clear c58b0
 try clear c58b1
 try clear c59
 try clear c60
 try clear c62
 try clear c63
 try clear p64
 try clear q64
 try clear c76
 try clear c76b0
 try clear c76b1
 try clear c78
 try clear c79
 try clear c81
 try clear c82
 try clear c84
 try clear c85
 try clear p86
 try clear q86
 try clear c102
 try clear c102b0
 try clear c102b1
 try clear hcz15_0
 try clear hcz15_1
 try clear hcz15_2
 try clear hcz15_3
 try clear hcz15_4
 try clear hcz18_0
 try clear hcz18_1
 try clear hcz18_2
 try clear hcz18_3
 try clear hcz20_0
 try clear hcz20_1
 try clear hcz20_2
 try clear hcz20_3
 try clear hcz20_4
 try clear hcz21_0
 try clear hcz21_1
 try clear hcz21_2
 try clear hcz21_3
 try clear hcz24_0
 try clear hcz24_1
 try clear hcz24_2
 try clear hcz24_3
 try clear hcz24_4
 try clear hcz34_0
 try clear hcz34_1
 try clear hcz34_2
 try clear hcz34_3
 try clear hcz34_4
 try clear hcz37_0
 try clear hcz37_1
 try clear hcz37_2
 try clear hcz37_3
 try clear hcz39_0
 try clear hcz39_1
 try clear hcz39_2
 try clear hcz39_3
 try clear hcz39_4
 try clear hcz45_0
 try clear hcz45_1
 try clear hcz45_2
 try clear hcz45_3
 try clear hcz45_4
 try clear hcz48_0
 try clear hcz48_1
 try clear hcz48_2
 try clear hcz48_3
 try clear hcz49_0
 try clear hcz49_1
 try clear hcz49_2
 try clear hcz49_3
 try clear hcz49_4
 try clear hcz66_0
 try clear hcz66_1
 try clear hcz66_2
 try clear hcz66_3
 try clear hcz73_0
 try clear hcz73_1
 try clear hcz73_2
 try clear hcz73_3
 try clear hcz73_4
 try clear hcz88_0
 try clear hcz88_1
 try clear hcz88_2
 try clear hcz88_3
 try clear hcz91_0
 try clear hcz91_1
 try clear hcz91_2
 try clear hcz91_3
 try clear hcz91_4
 try clear hcz95_0
 try clear hcz95_1
 try clear hcz95_2
 try clear hcz95_3
 try clear hcz95_4
 try clear hcz98_0
 try clear hcz98_1
 try clear hcz98_2
 try clear hcz98_3
 try clear hcz98_4
 try clear hfz15_0
 try clear hfz15_1
 try clear hfz15_2
 try clear hfz15_3
 try clear hfz15_4
 try clear hfz18_0
 try clear hfz18_1
 try clear hfz18_2
 try clear hfz18_3
 try clear hfz20_0
 try clear hfz20_1
 try clear hfz20_2
 try clear hfz20_3
 try clear hfz20_4
 try clear hfz21_0
 try clear hfz21_1
 try clear hfz21_2
 try clear hfz21_3
 try clear hfz24_0
 try clear hfz24_1
 try clear hfz24_2
 try clear hfz24_3
 try clear hfz24_4
 try clear hfz34_0
 try clear hfz34_1
 try clear hfz34_2
 try clear hfz34_3
 try clear hfz34_4
 try clear hfz37_0
 try clear hfz37_1
 try clear hfz37_2
 try clear hfz37_3
 try clear hfz39_0
 try clear hfz39_1
 try clear hfz39_2
 try clear hfz39_3
 try clear hfz39_4
 try clear hfz45_0
 try clear hfz45_1
 try clear hfz45_2
 try clear hfz45_3
 try clear hfz45_4
 try clear hfz48_0
 try clear hfz48_1
 try clear hfz48_2
 try clear hfz48_3
 try clear hfz49_0
 try clear hfz49_1
 try clear hfz49_2
 try clear hfz49_3
 try clear hfz49_4
 try clear hfz66_0
 try clear hfz66_1
 try clear hfz66_2
 try clear hfz66_3
 try clear hfz73_0
 try clear hfz73_1
 try clear hfz73_2
 try clear hfz73_3
 try clear hfz73_4
 try clear hfz88_0
 try clear hfz88_1
 try clear hfz88_2
 try clear hfz88_3
 try clear hfz91_0
 try clear hfz91_1
 try clear hfz91_2
 try clear hfz91_3
 try clear hfz91_4
 try clear hfz95_0
 try clear hfz95_1
 try clear hfz95_2
 try clear hfz95_3
 try clear hfz95_4
 try clear hfz98_0
 try clear hfz98_1
 try clear hfz98_2
 try clear hfz98_3
 try clear hfz98_4
 try clear hx107_0
 try clear hx107_1
 try clear hx107_2
 try clear hx107_3
 try clear hx107_4
 try clear hx115_0
 try clear hx121_0
 try clear hx131_0
 try clear hx136_0
 try clear hx13_0
 try clear hx32_0
 try clear hx64_0
 try clear hx86_0
 try clear p107
 try clear p115
 try clear p121
 try clear p13
 try clear p131
 try clear p136
 try clear p32
 try clear p64
 try clear p86
 try clear q107
 try clear q115
 try clear q121
 try clear q13
 try clear q131
 try clear q136
 try clear q32
 try clear q64
 try clear q86
 obtain ⟨kq, x122_100, rfl, HA, HJ100, HO_4, HO_5, BK108, BK109, HB⟩ := hcut
 cases kq with
 | zero => exact absurd HA.out (by simp [spec_vaSymbols.j2])
 | succ kj100 =>
 have H := HA.out
 clear HA
 simp only [spec_vaSymbols.j2] at H
 by_cases c103 : x122_100 = true
 · subst c103
   replace H := zih H
   revert H
   refine zin fun c104 H => ?_
   revert H
   refine zin fun c105 H => ?_
   replace H := zob H
   obtain ⟨⟨t143, t146⟩, A1060, H⟩ := H
   replace H : (if 0 ≤ ((rd_T94 l0 x17_1).f1) then (if ((rd_T94 l0 x17_1).f1) < (x5_1.length : Int) then (spec_vaSymbols.l0 kj100 t143 (x5_1.set (((rd_T94 l0 x17_1).f1) : Int).toNat t146) l0 (l0.length : Int) (wrap64 (x17_1 + 1))) else (none)) else (none)) = some (r1, r2) := H
   have A106 := zA A1060
   clear A1060
   revert H
   refine zin fun c107 H => ?_
   revert H
   refine zin fun c108 H => ?_
   obtain ⟨y147, hy147⟩ : ∃ y_ : List Int, y_ = (x5_1.set (((rd_T94 l0 x17_1).f1) : Int).toNat t146) := ⟨_, rfl⟩
   replace H : (spec_vaSymbols.l0 kj100 t143 y147 l0 (l0.length : Int) (wrap64 (x17_1 + 1))) = some (r1, r2) := by first | (rw [hy147]; with_reducible exact H) | (have H2_ := (Option.bind_some _ _).symm.trans H; rw [hy147]; with_reducible exact H2_) | (have H2_ := (Option.bind_some _ _).symm.trans H; with_reducible exact H2_) | with_reducible exact H | (rw [hy147]; exact H) | exact H
   have Ny147 := zA hy147
   clear hy147
   have H' := zA H
   clear H
   try go_wp2
   replace HO_4 := zA (zRd HO_4.out)
   replace HO_5 := zA (zRd HO_5.out)
   replace BK108 := zA (zkd BK108.out)
   replace BK109 := zA (zkd BK109.out)
   replace HB := zA (zbd HB.out)
   obtain ⟨Ao111, co111, eo111⟩ := Kd.R_slice HO_5.out
   (first | subst eo111 | (injection eo111 with f1_ f2_ f3_; have f4_ := f1_.symm; have f5_ := f3_.symm; clear f1_ f2_ f3_; subst f4_; subst f5_))
   have p142 : 0 ≤ (((rd_T94 l0 x17_1).f2) : Int) := zde zq27
   have q142 : ((rd_T94 l0 x17_1).f2) < (x5_1.length : Int) := zde zq27
   obtain ⟨ad142, e142, hx142_0⟩ := Kd.at_int (zRr HO_5.out).2.2 ((rd_T94 l0 x17_1).f2) p142 q142
   cases e142
   replace p142 := eq_true p142
   replace q142 := eq_true q142
   obtain ⟨Ao112, co112, eo112⟩ := Kd.R_slice HO_4.out
   (first | subst eo112 | (injection eo112 with f1_ f2_ f3_; have f4_ := f1_.symm; have f5_ := f3_.symm; clear f1_ f2_ f3_; subst f4_; subst f5_))
   refine start_ (n := 15) (S := fun w' => w'.cell? ⟨gb108, 0, none⟩ = some (.string ((rd_T94 l0 x17_1).f0)) ∧ w'.cell? ⟨gb108, 1, none⟩ = some (.int .i64 ((rd_T94 l0 x17_1).f1)) ∧ w'.cell? ⟨gb108, 2, none⟩ = some (.int .i64 ((rd_T94 l0 x17_1).f2)) ∧ w'.cell? ⟨gb108, 3, none⟩ = some (.int .i64 ((rd_T94 l0 x17_1).f3)) ∧ w'.cell? ⟨gb108, 4, none⟩ = some (.int .i64 ((rd_T94 l0 x17_1).f4)) ∧ w'.cell? (ad142.add (((rd_T94 l0 x17_1).f2)).toNat) = some (.int .i64 (rd x5_1 ((rd_T94 l0 x17_1).f2)))) (ds := []) #[false, false, false, false, false, false, false, false, false, false, false, false, false, false, false] zq32 rfl rfl ⟨(blk_cell BK108.out 0).trans rfl, (blk_cell BK108.out 1).trans rfl, (blk_cell BK108.out 2).trans rfl, (blk_cell BK108.out 3).trans rfl, (blk_cell BK108.out 4).trans rfl, hx142_0⟩ (fun hHeld => ?_); refine with_tabW spec_vaSymbols.tab27 spec_vaSymbols.bits27 (fun HT_ HW_ => ?_)
   generalize wc.drew = w110 at HO_4 HO_5 BK108 BK109 HB hx142_0 hHeld ⊢
   refine zpu 0 126 HT_ ?_
   refine zpu 1 127 HT_ ?_
   refine zpu 3 129 HT_ ?_
   refine zpu 4 130 HT_ ?_
   refine ztu 2 128 HT_ HW_ hHeld ?_
   refine ztu 5 131 HT_ HW_ hHeld ?_
   refine zpu 6 132 HT_ ?_
   refine ztu 7 133 HT_ HW_ hHeld ?_
   refine zpu 8 134 HT_ ?_
   refine one_ (i := 9) (N := some 135) #[true, true, true, true, true, true, true, true, true, true, false, false, false, false, false] rfl rfl (one_of HT_.out zq32) (by decide) (fun K hK => ?_)
   refine goes_ Try.func164 zq32 rfl #[.slice Ao112 x4_1.length co112, .agg #[.string ((rd_T94 l0 x17_1).f0), .int .i64 (rd x5_1 ((rd_T94 l0 x17_1).f2)), .int .i64 0, .int .i64 0]] (by rfl) rfl rfl zq57 ?_
   with_reducible refine (spec_vaNode.calls (fun k_ => some k_ = (.slice Ao112 x4_1.length co112 : Value).ownBlock) (.slice Ao112 x4_1.length co112) x4_1 ((rd_T94 l0 x17_1).f0) (rd x5_1 ((rd_T94 l0 x17_1).f2)) 0 0 t143 t146 w _ ?side1 ?side2 A106.out).mono ?_
   (case side1 => repeat (first | (with_reducible first | exact HB.out | apply zba | apply zbn | apply zbd | refine below_set ?_ GE108.out | refine below_set ?_ GE109.out) | exact HB.out))
   (case side2 => exact Kd.R_tight rfl HO_4.out)
   rintro e w113 ⟨v144, rfl, ho0, hb, hkp⟩
   have HS5_ := cell_kept (hHeld.2.2.2.2.2) hkp (zq33 HO_5 HO_4)
   refine ⟨_, rfl, ?_⟩
   replace HO_5 := zA (Kd.R_mono (ok' := fun k_ => True) (Kd.R_keptB ((Kd.R_apart' HO_5.out (Kd.R_typed HO_4.out) (by decide))) hkp (fun k_ hk_ hs_ => (hk_.2) hs_)) (fun k_ hk_ => trivial))
   replace BK108 := zA (blk_kept (zq7 BK108) hkp (fun hs_ => (fun e_ => (Kd.R_ne HO_4.out BK108.out (by decide)) e_) hs_))
   have HO145 := zA (Kd.R_mono (ok' := fun k_ => k_ ≠ gb109) ho0 (fun k_ hk_ => Or.elim hk_ (fun hs_ => fun e_ => (Kd.R_away HO_4.out (fun _ hk => hk)) zq55) (fun hn_ => (Kd.freshB (g := gb109) (o := .cells #[.string (⟨#[99, 111, 110, 115, 116]⟩ : ByteArray), .int .i64 0, .int .i64 0, .int .i64 ((rd_T94 l0 x17_1).f4)] 72 (0, 0)) (zq7 BK109) k_ hn_))))
   replace BK109 := zA (blk_kept (zq7 BK109) hkp (fun hs_ => (fun e_ => (Kd.R_away HO_4.out (fun _ hk => hk)) e_) hs_))
   replace HB := zA (hb)
   clear HO_4
   (try clear hb)
   (try clear hkp)
   (try clear ho0)
   refine hK.out _ _ ⟨(blk_cell BK108.out 0).trans rfl, (blk_cell BK108.out 1).trans rfl, (blk_cell BK108.out 2).trans rfl, (blk_cell BK108.out 3).trans rfl, (blk_cell BK108.out 4).trans rfl, HS5_⟩ (fun hHeld => ?_)
   clear hK K
   refine znm 135 ?_
   refine zpu 10 125 HT_ ?_
   refine zpu 11 136 HT_ ?_
   refine zpu 12 137 HT_ ?_
   refine zpu 13 4 HT_ ?_
   refine zpu 14 9 HT_ ?_
   refine done_ (done_of HT_.out zq32) ?_
   have hnb114 := NB108_109.out
   have hnc114 := NB109_108.out
   obtain ⟨hcz115_0, hcz115_1, hcz115_2, hcz115_3, hcz115_4⟩ := zc5 w113 (.string ((rd_T94 l0 x17_1).f0)) (.int .i64 ((rd_T94 l0 x17_1).f1)) (.int .i64 ((rd_T94 l0 x17_1).f2)) (.int .i64 ((rd_T94 l0 x17_1).f3)) (.int .i64 ((rd_T94 l0 x17_1).f4)) BK108.out
   obtain ⟨hfz115_0, hfz115_1, hfz115_2, hfz115_3, hfz115_4⟩ := zf5 BK108.out
   have p109 : 0 ≤ (((rd_T94 l0 x17_1).f1) : Int) := zde zq27
   have q109 : (((rd_T94 l0 x17_1).f1) : Int) < ((x5_1.length : Int) : Int) := zde zq27
   obtain ⟨go109, co109, eo109, gb109, gl109, cl109, HG109⟩ := Kd.R_form HO_5.out (by omega)
   (first | cases eo109 | (injection eo109 with ea_ en_ ec_; (first | subst ea_ | (injection ea_ with ea_; subst ea_)); subst ec_; clear en_))
   have GB109 := zA gb109
   have GG109 := zA HG109
   clear gb109 gl109 HG109
   (first | simp only [add_plain] at hx142_0 | skip)
   obtain ⟨hx109_0, hf109_0⟩ := Kd.R_celln 0 HO_5.out (((rd_T94 l0 x17_1).f1) : Int) p109 q109
   replace p109 := eq_true p109
   replace q109 := eq_true q109
   obtain ⟨hy116_, hz116_⟩ := Kd.R_celln 0 HO_5.out (((rd_T94 l0 x17_1).f1) : Int) (zde zq27) (zde zq27)
   have HP116 := Kd.R_putg HO_5.out (((rd_T94 l0 x17_1).f1) : Int) t146
   try go_wp2_with (first | ((with_reducible refine zgs 3 142 ?_); refine zse (w113.setCell ⟨go109, (((rd_T94 l0 x17_1).f1) : Int).toNat, none⟩ (.int .i64 t146)) ?_; intro w117 hw; have hg : w113.grownBy w117 (some go109) := (by rw [hw]; exact HP116.2); have hp_ : Kd.R (Kd.int .i64) 3 w117 w.heap.size (fun _ => True) (.slice (some ⟨go109, 0, none⟩) x5_1.length co111) y147 := (by rw [hw, Ny147.out]; exact HP116.1); clear HP116; replace BK108 := zA (blk_grown (g := gb108) (o := .cells #[.string ((rd_T94 l0 x17_1).f0), .int .i64 ((rd_T94 l0 x17_1).f1), .int .i64 ((rd_T94 l0 x17_1).f2), .int .i64 ((rd_T94 l0 x17_1).f3), .int .i64 ((rd_T94 l0 x17_1).f4)] 94 (0, 0)) (zq7 BK108) hg (Kd.R_ne HO_5.out BK108.out (by decide))); replace BK109 := zA (blk_grown (g := gb109) (o := .cells #[.string (⟨#[99, 111, 110, 115, 116]⟩ : ByteArray), .int .i64 0, .int .i64 0, .int .i64 ((rd_T94 l0 x17_1).f4)] 72 (0, 0)) (zq7 BK109) hg (Kd.R_ne HO_5.out BK109.out (by decide))); replace HO145 := zA (Kd.R_over' (v := (.slice (some ⟨go109, 0, none⟩) x5_1.length co111)) (zq2 HO145) (Kd.R_typed HO_5.out) (by decide) hg); replace HO_5 := zA (hp_); replace HB := zA ((zq38 GB109 : Below w.heap.size w w117)); clear hg hw hp_))
   go_roundg kj100
   case measure => have := HK1.out; have := HJ42.out; have := HJ100.out; omega
   case rel => exact ⟨(t143), (y147), (wrap64 (x17_1 + 1)), zq5, H', ⟨by have := HK1.out; have := HJ42.out; have := HJ100.out; omega⟩, ⟨zq28 HO145⟩, ⟨zq2 HO_5⟩, ⟨zq9 GE108 GE109⟩⟩
 replace c103 := zbf c103
 subst c103
 replace H := zif H
 revert H
 refine zin fun c118 H => ?_
 revert H
 refine zin fun c119 H => ?_
 revert H
 refine zin fun c120 H => ?_
 revert H
 refine zin fun c121 H => ?_
 replace H := zob H
 obtain ⟨⟨t150, t153⟩, A1220, H⟩ := H
 replace H : (if 0 ≤ ((rd_T94 l0 x17_1).f1) then (if ((rd_T94 l0 x17_1).f1) < (x5_1.length : Int) then (spec_vaSymbols.l0 kj100 t150 (x5_1.set (((rd_T94 l0 x17_1).f1) : Int).toNat t153) l0 (l0.length : Int) (wrap64 (x17_1 + 1))) else (none)) else (none)) = some (r1, r2) := H
 have A122 := zA A1220
 clear A1220
 revert H
 refine zin fun c123 H => ?_
 revert H
 refine zin fun c124 H => ?_
 obtain ⟨y154, hy154⟩ : ∃ y_ : List Int, y_ = (x5_1.set (((rd_T94 l0 x17_1).f1) : Int).toNat t153) := ⟨_, rfl⟩
 replace H : (spec_vaSymbols.l0 kj100 t150 y154 l0 (l0.length : Int) (wrap64 (x17_1 + 1))) = some (r1, r2) := by first | (rw [hy154]; with_reducible exact H) | (have H2_ := (Option.bind_some _ _).symm.trans H; rw [hy154]; with_reducible exact H2_) | (have H2_ := (Option.bind_some _ _).symm.trans H; with_reducible exact H2_) | with_reducible exact H | (rw [hy154]; exact H) | exact H
 have Ny154 := zA hy154
 clear hy154
 have H' := zA H
 clear H
 try go_wp2
 replace HO_4 := zA (zRd HO_4.out)
 replace HO_5 := zA (zRd HO_5.out)
 replace BK108 := zA (zkd BK108.out)
 replace BK109 := zA (zkd BK109.out)
 replace HB := zA (zbd HB.out)
 obtain ⟨Ao127, co127, eo127⟩ := Kd.R_slice HO_5.out
 (first | subst eo127 | (injection eo127 with f1_ f2_ f3_; have f4_ := f1_.symm; have f5_ := f3_.symm; clear f1_ f2_ f3_; subst f4_; subst f5_))
 have p148 : 0 ≤ (((rd_T94 l0 x17_1).f2) : Int) := zde zq27
 have q148 : ((rd_T94 l0 x17_1).f2) < (x5_1.length : Int) := zde zq27
 obtain ⟨ad148, e148, hx148_0⟩ := Kd.at_int (zRr HO_5.out).2.2 ((rd_T94 l0 x17_1).f2) p148 q148
 cases e148
 replace p148 := eq_true p148
 replace q148 := eq_true q148
 have p149 : 0 ≤ (((rd_T94 l0 x17_1).f3) : Int) := zde zq27
 have q149 : ((rd_T94 l0 x17_1).f3) < (x5_1.length : Int) := zde zq27
 obtain ⟨ad149, e149, hx149_0⟩ := Kd.at_int (zRr HO_5.out).2.2 ((rd_T94 l0 x17_1).f3) p149 q149
 obtain rfl : ad148 = ad149 := (by injection e149)
 replace p149 := eq_true p149
 replace q149 := eq_true q149
 obtain ⟨Ao128, co128, eo128⟩ := Kd.R_slice HO_4.out
 (first | subst eo128 | (injection eo128 with f1_ f2_ f3_; have f4_ := f1_.symm; have f5_ := f3_.symm; clear f1_ f2_ f3_; subst f4_; subst f5_))
 refine start_ (n := 20) (S := fun w' => w'.cell? ⟨gb108, 0, none⟩ = some (.string ((rd_T94 l0 x17_1).f0)) ∧ w'.cell? ⟨gb108, 1, none⟩ = some (.int .i64 ((rd_T94 l0 x17_1).f1)) ∧ w'.cell? ⟨gb108, 2, none⟩ = some (.int .i64 ((rd_T94 l0 x17_1).f2)) ∧ w'.cell? ⟨gb108, 3, none⟩ = some (.int .i64 ((rd_T94 l0 x17_1).f3)) ∧ w'.cell? ⟨gb108, 4, none⟩ = some (.int .i64 ((rd_T94 l0 x17_1).f4)) ∧ w'.cell? (ad148.add (((rd_T94 l0 x17_1).f2)).toNat) = some (.int .i64 (rd x5_1 ((rd_T94 l0 x17_1).f2))) ∧ w'.cell? (ad148.add (((rd_T94 l0 x17_1).f3)).toNat) = some (.int .i64 (rd x5_1 ((rd_T94 l0 x17_1).f3)))) (ds := []) #[false, false, false, false, false, false, false, false, false, false, false, false, false, false, false, false, false, false, false, false] zq32 rfl rfl ⟨(blk_cell BK108.out 0).trans rfl, (blk_cell BK108.out 1).trans rfl, (blk_cell BK108.out 2).trans rfl, (blk_cell BK108.out 3).trans rfl, (blk_cell BK108.out 4).trans rfl, hx148_0, hx149_0⟩ (fun hHeld => ?_); refine with_tabW spec_vaSymbols.tab9 spec_vaSymbols.bits9 (fun HT_ HW_ => ?_)
 generalize wc.drew = w126 at HO_4 HO_5 BK108 BK109 HB hx148_0 hx149_0 hHeld ⊢
 refine zpu 0 27 HT_ ?_
 refine zpu 1 28 HT_ ?_
 refine zpu 3 30 HT_ ?_
 refine zpu 4 31 HT_ ?_
 refine zpu 8 35 HT_ ?_
 refine zpu 9 36 HT_ ?_
 refine ztu 2 29 HT_ HW_ hHeld ?_
 refine ztu 5 32 HT_ HW_ hHeld ?_
 refine zpu 6 33 HT_ ?_
 refine ztu 7 34 HT_ HW_ hHeld ?_
 refine ztu 10 37 HT_ HW_ hHeld ?_
 refine zpu 11 38 HT_ ?_
 refine ztu 12 39 HT_ HW_ hHeld ?_
 refine zpu 13 40 HT_ ?_
 refine one_ (i := 14) (N := some 41) #[true, true, true, true, true, true, true, true, true, true, true, true, true, true, true, false, false, false, false, false] rfl rfl (one_of HT_.out zq32) (by decide) (fun K hK => ?_)
 refine goes_ Try.func164 zq32 rfl #[.slice Ao128 x4_1.length co128, .agg #[.string ((rd_T94 l0 x17_1).f0), .int .i64 (rd x5_1 ((rd_T94 l0 x17_1).f2)), .int .i64 (rd x5_1 ((rd_T94 l0 x17_1).f3)), .int .i64 0]] (by rfl) rfl rfl zq57 ?_
 with_reducible refine (spec_vaNode.calls (fun k_ => some k_ = (.slice Ao128 x4_1.length co128 : Value).ownBlock) (.slice Ao128 x4_1.length co128) x4_1 ((rd_T94 l0 x17_1).f0) (rd x5_1 ((rd_T94 l0 x17_1).f2)) (rd x5_1 ((rd_T94 l0 x17_1).f3)) 0 t150 t153 w _ ?side1 ?side2 A122.out).mono ?_
 (case side1 => repeat (first | (with_reducible first | exact HB.out | apply zba | apply zbn | apply zbd | refine below_set ?_ GE108.out | refine below_set ?_ GE109.out) | exact HB.out))
 (case side2 => exact Kd.R_tight rfl HO_4.out)
 rintro e w129 ⟨v151, rfl, ho0, hb, hkp⟩
 have HS5_ := cell_kept (hHeld.2.2.2.2.2.1) hkp (zq33 HO_5 HO_4)
 have HS6_ := cell_kept (hHeld.2.2.2.2.2.2) hkp (zq33 HO_5 HO_4)
 refine ⟨_, rfl, ?_⟩
 replace HO_5 := zA (Kd.R_mono (ok' := fun k_ => True) (Kd.R_keptB ((Kd.R_apart' HO_5.out (Kd.R_typed HO_4.out) (by decide))) hkp (fun k_ hk_ hs_ => (hk_.2) hs_)) (fun k_ hk_ => trivial))
 replace BK108 := zA (blk_kept (zq7 BK108) hkp (fun hs_ => (fun e_ => (Kd.R_ne HO_4.out BK108.out (by decide)) e_) hs_))
 have HO152 := zA (Kd.R_mono (ok' := fun k_ => k_ ≠ gb109) ho0 (fun k_ hk_ => Or.elim hk_ (fun hs_ => fun e_ => (Kd.R_away HO_4.out (fun _ hk => hk)) zq55) (fun hn_ => (Kd.freshB (g := gb109) (o := .cells #[.string (⟨#[99, 111, 110, 115, 116]⟩ : ByteArray), .int .i64 0, .int .i64 0, .int .i64 ((rd_T94 l0 x17_1).f4)] 72 (0, 0)) (zq7 BK109) k_ hn_))))
 replace BK109 := zA (blk_kept (zq7 BK109) hkp (fun hs_ => (fun e_ => (Kd.R_away HO_4.out (fun _ hk => hk)) e_) hs_))
 replace HB := zA (hb)
 clear HO_4
 (try clear hb)
 (try clear hkp)
 (try clear ho0)
 refine hK.out _ _ ⟨(blk_cell BK108.out 0).trans rfl, (blk_cell BK108.out 1).trans rfl, (blk_cell BK108.out 2).trans rfl, (blk_cell BK108.out 3).trans rfl, (blk_cell BK108.out 4).trans rfl, HS5_, HS6_⟩ (fun hHeld => ?_)
 clear hK K
 refine znm 41 ?_
 refine zpu 15 26 HT_ ?_
 refine zpu 16 42 HT_ ?_
 refine zpu 17 43 HT_ ?_
 refine zpu 18 4 HT_ ?_
 refine zpu 19 9 HT_ ?_
 refine done_ (done_of HT_.out zq32) ?_
 have hnb130 := NB108_109.out
 have hnc130 := NB109_108.out
 obtain ⟨hcz131_0, hcz131_1, hcz131_2, hcz131_3, hcz131_4⟩ := zc5 w129 (.string ((rd_T94 l0 x17_1).f0)) (.int .i64 ((rd_T94 l0 x17_1).f1)) (.int .i64 ((rd_T94 l0 x17_1).f2)) (.int .i64 ((rd_T94 l0 x17_1).f3)) (.int .i64 ((rd_T94 l0 x17_1).f4)) BK108.out
 obtain ⟨hfz131_0, hfz131_1, hfz131_2, hfz131_3, hfz131_4⟩ := zf5 BK108.out
 have p125 : 0 ≤ (((rd_T94 l0 x17_1).f1) : Int) := zde zq27
 have q125 : (((rd_T94 l0 x17_1).f1) : Int) < ((x5_1.length : Int) : Int) := zde zq27
 obtain ⟨go125, co125, eo125, gb125, gl125, cl125, HG125⟩ := Kd.R_form HO_5.out (by omega)
 (first | cases eo125 | (injection eo125 with ea_ en_ ec_; (first | subst ea_ | (injection ea_ with ea_; subst ea_)); subst ec_; clear en_))
 have GB125 := zA gb125
 have GG125 := zA HG125
 clear gb125 gl125 HG125
 (first | simp only [add_plain] at hx148_0 | skip)
 (first | simp only [add_plain] at hx149_0 | skip)
 obtain ⟨hx125_0, hf125_0⟩ := Kd.R_celln 0 HO_5.out (((rd_T94 l0 x17_1).f1) : Int) p125 q125
 replace p125 := eq_true p125
 replace q125 := eq_true q125
 obtain ⟨hy132_, hz132_⟩ := Kd.R_celln 0 HO_5.out (((rd_T94 l0 x17_1).f1) : Int) (zde zq27) (zde zq27)
 have HP132 := Kd.R_putg HO_5.out (((rd_T94 l0 x17_1).f1) : Int) t153
 try go_wp2_with (first | ((with_reducible refine zgs 3 142 ?_); refine zse (w129.setCell ⟨go125, (((rd_T94 l0 x17_1).f1) : Int).toNat, none⟩ (.int .i64 t153)) ?_; intro w133 hw; have hg : w129.grownBy w133 (some go125) := (by rw [hw]; exact HP132.2); have hp_ : Kd.R (Kd.int .i64) 3 w133 w.heap.size (fun _ => True) (.slice (some ⟨go125, 0, none⟩) x5_1.length co127) y154 := (by rw [hw, Ny154.out]; exact HP132.1); clear HP132; replace BK108 := zA (blk_grown (g := gb108) (o := .cells #[.string ((rd_T94 l0 x17_1).f0), .int .i64 ((rd_T94 l0 x17_1).f1), .int .i64 ((rd_T94 l0 x17_1).f2), .int .i64 ((rd_T94 l0 x17_1).f3), .int .i64 ((rd_T94 l0 x17_1).f4)] 94 (0, 0)) (zq7 BK108) hg (Kd.R_ne HO_5.out BK108.out (by decide))); replace BK109 := zA (blk_grown (g := gb109) (o := .cells #[.string (⟨#[99, 111, 110, 115, 116]⟩ : ByteArray), .int .i64 0, .int .i64 0, .int .i64 ((rd_T94 l0 x17_1).f4)] 72 (0, 0)) (zq7 BK109) hg (Kd.R_ne HO_5.out BK109.out (by decide))); replace HO152 := zA (Kd.R_over' (v := (.slice (some ⟨go125, 0, none⟩) x5_1.length co127)) (zq2 HO152) (Kd.R_typed HO_5.out) (by decide) hg); replace HO_5 := zA (hp_); replace HB := zA ((zq38 GB125 : Below w.heap.size w w133)); clear hg hw hp_))
 go_roundg kj100
 case measure => have := HK1.out; have := HJ42.out; have := HJ100.out; omega
 case rel => exact ⟨(t150), (y154), (wrap64 (x17_1 + 1)), zq5, H', ⟨by have := HK1.out; have := HJ42.out; have := HJ100.out; omega⟩, ⟨zq28 HO152⟩, ⟨zq2 HO_5⟩, ⟨zq9 GE108 GE109⟩⟩
end Go.Proofs.Ytkfkbmlbpeojaaa.Q
end
section
namespace Go.Proofs.Ytkfkbmlbpeojaaa.Q
open Go.RowKit Go.Proofs.YtkfkbmlbpeojaaaW.PrintWords Go.Proofs.YtkfkbmlbpeojaaaW.PrintLast Go.Proofs.YtkfkbmlbpeojaaaW.PrintMore
set_option maxHeartbeats 8000000
set_option maxRecDepth 100000
attribute [local go_sem] max2_int min2_int max_two min_two max_three min_three max_four min_four
set_option linter.unusedVariables false
set_option linter.unusedSimpArgs false
def spec_vaSymbol.f (k : Nat) (l0 : List (S94)) (a1 : Int) : Option ((List (S72)) × Bool) := (spec_vaSymbols.f k l0).bind fun bt101 => (if 0 ≤ a1 then (if a1 < (bt101.2.length : Int) then ((spec_exKeep.f k bt101.1 (rd bt101.2 a1)).bind fun t108 => ((spec_exShare.f k t108).bind fun t111 => ((spec_exGood.f k t111).bind fun t114 => (some (t111, t114))))) else (none)) else (none))
theorem spec_vaSymbol.mono : ∀ a0 a1 k, LeO (spec_vaSymbol.f k a0 a1) (spec_vaSymbol.f (k + 1) a0 a1) := by
 intro a0 a1 k
 unfold spec_vaSymbol.f
 exact zm4 spec_exGood.mono spec_exKeep.mono spec_exShare.mono spec_vaSymbols.mono
theorem spec_vaSymbol.calls (k : Nat) (A0 : Option Addr) (c0 : Nat) (l0 : List (S94)) (a1 : Int) (r1 : List (S72)) (r2 : Bool) (w : World) (hr0 : Kd.C k94 w A0 l0.length l0) (hc0 : l0.length ≤ c0) (h : spec_vaSymbol.f k l0 a1 = some (r1, r2)) :
   Calls Try.prog 68 #[.slice A0 l0.length c0, .int .i64 a1] w fun e w' => ∃ v0_ : Value, e = .returned (.tuple #[v0_, .bool r2]) ∧ Kd.R k72 72 w' w.heap.size (fun _ => True) v0_ r1 ∧ Below w.heap.size w w' := by
 have HR0 := zA hr0
 have HC0 := zA hc0
 clear hr0 hc0
 have HB := zA (Below.refl w.heap.size w)
 have H : ((spec_vaSymbols.f k l0).bind fun bt101 => (if 0 ≤ a1 then (if a1 < (bt101.2.length : Int) then ((spec_exKeep.f k bt101.1 (rd bt101.2 a1)).bind fun t108 => ((spec_exShare.f k t108).bind fun t111 => ((spec_exGood.f k t111).bind fun t114 => (some (t111, t114))))) else (none)) else (none))) = some (r1, r2) := h
 clear h
 replace H := zob H
 obtain ⟨⟨t101, t102⟩, A30, H⟩ := H
 replace H : (if 0 ≤ a1 then (if a1 < (t102.length : Int) then ((spec_exKeep.f k t101 (rd t102 a1)).bind fun t108 => ((spec_exShare.f k t108).bind fun t111 => ((spec_exGood.f k t111).bind fun t114 => (some (t111, t114))))) else (none)) else (none)) = some (r1, r2) := H
 have A3 := zA A30
 clear A30
 revert H
 refine zin fun c4 H => ?_
 revert H
 refine zin fun c5 H => ?_
 replace H := zob H
 obtain ⟨t108, A60, H⟩ := H
 replace H : ((spec_exShare.f k t108).bind fun t111 => ((spec_exGood.f k t111).bind fun t114 => (some (t111, t114)))) = some (r1, r2) := H
 have A6 := zA A60
 clear A60
 replace H := zob H
 obtain ⟨t111, A70, H⟩ := H
 replace H : ((spec_exGood.f k t111).bind fun t114 => (some (t111, t114))) = some (r1, r2) := H
 have A7 := zA A70
 clear A70
 replace H := zob H
 obtain ⟨t114, A80, H⟩ := H
 replace H : (some (t111, t114)) = some (r1, r2) := H
 have A8 := zA A80
 clear A80
 simp only [Option.some.injEq, Prod.mk.injEq] at H
 obtain ⟨rfl, rfl⟩ := H
 go_enter Try.func68, Try.ntmps68
 go_wp2_with (first | ((with_reducible refine zgc 113 ?_); refine zca 11 Try.func113 #[.slice A0 l0.length c0] (spec_vaSymbols.calls k _ _ l0 t101 t102 _ (zq12 HR0) HC0.out A3.out) ?_; rintro e w9 ⟨v103, v105, rfl, ho0, ho1, hb⟩; refine ⟨_, rfl, ?_⟩; have HO104 := zA (Kd.R_lower ho0 (below_size zq1)); have HO106 := zA (Kd.R_lower ho1 (below_size zq1)); replace HB := zA (below_step zq1 hb); (try clear hb); (try clear ho0); (try clear ho1); obtain ⟨Ao10, co10, eo10⟩ := Kd.R_slice HO106.out; subst eo10; have p107 : 0 ≤ (a1 : Int) := zde zq27; have q107 : a1 < (t102.length : Int) := zde zq27; obtain ⟨ad107, e107, hx107_0⟩ := Kd.at_int (zRr HO106.out).2.2 a1 p107 q107; cases e107; replace p107 := eq_true p107; replace q107 := eq_true q107; obtain ⟨Ao11, co11, eo11⟩ := Kd.R_slice HO104.out; subst eo11) | ((with_reducible refine zgc 114 ?_); refine zca 19 Try.func114 #[.slice Ao11 t101.length co11, .int .i64 (rd t102 a1)] (spec_exKeep.calls k _ _ t101 (rd t102 a1) t108 _ (zq11 HO104) (zq37 HO104) A6.out) ?_; rintro e w12 ⟨v109, rfl, ho0, hb⟩; refine ⟨_, rfl, ?_⟩; replace HO106 := zA (zRb (zq2 HO106) hb); have HO110 := zA (Kd.R_lower (Kd.R_new' ho0 (Kd.R_lt (zq2 HO104))) (below_size zq1)); replace HO104 := zA (Kd.R_elder' (zq2 HO104) (Kd.R_base ho0) hb); replace HB := zA (below_step zq1 hb); (try clear hb); (try clear ho0); obtain ⟨Ao13, co13, eo13⟩ := Kd.R_slice HO110.out; subst eo13) | ((with_reducible refine zgc 95 ?_); refine zca 20 Try.func95 #[.slice Ao13 t108.length co13] (spec_exShare.calls k _ _ t108 t111 _ (zq11 HO110) (zq37 HO110) A7.out) ?_; rintro e w14 ⟨v112, rfl, ho0, hb⟩; refine ⟨_, rfl, ?_⟩; replace HO106 := zA (zRb (zq2 HO106) hb); have HO113 := zA (Kd.R_lower (Kd.R_new' (Kd.R_new' ho0 (Kd.R_lt (zq2 HO104))) (Kd.R_lt (zq2 HO110))) (below_size zq1)); replace HO104 := zA (Kd.R_elder' (zq2 HO104) (Kd.R_base ho0) hb); replace HO110 := zA (Kd.R_elder' (zq2 HO110) (Kd.R_base ho0) hb); replace HB := zA (below_step zq1 hb); (try clear hb); (try clear ho0); obtain ⟨Ao15, co15, eo15⟩ := Kd.R_slice HO113.out; subst eo15) | ((with_reducible refine zgc 43 ?_); refine zca 23 Try.func43 #[.slice Ao15 t111.length co15] (spec_exGood.calls k _ _ t111 t114 _ (zq11 HO113) (zq37 HO113) A8.out) ?_; rintro e w16 ⟨rfl, hb⟩; refine ⟨_, rfl, ?_⟩; replace HO104 := zA (zRb (zq2 HO104) hb); replace HO106 := zA (zRb (zq2 HO106) hb); replace HO110 := zA (zRb (zq2 HO110) hb); replace HO113 := zA (zRb (zq2 HO113) hb); replace HB := zA (below_step zq1 hb); (try clear hb)))
 go_ret2
 exact ⟨_, zq4, zq28 HO113, zq1⟩
def spec_vaPlain.f (k : Nat) (l0 : List (S94)) (a1 : Int) : Option ((List (S72)) × Bool) := (spec_vaSymbol.f k l0 a1).bind fun bt101 => (if bt101.2 = true then ((spec_exFold.f k bt101.1).bind fun t105 => ((spec_vaOrder.f k t105).bind fun t108 => (some (t108, true)))) else (some (([] : List (S72)), false)))
theorem spec_vaPlain.mono : ∀ a0 a1 k, LeO (spec_vaPlain.f k a0 a1) (spec_vaPlain.f (k + 1) a0 a1) := by
 intro a0 a1 k
 unfold spec_vaPlain.f
 exact zm3 spec_exFold.mono spec_vaOrder.mono spec_vaSymbol.mono
theorem spec_vaPlain.calls (k : Nat) (A0 : Option Addr) (c0 : Nat) (l0 : List (S94)) (a1 : Int) (r1 : List (S72)) (r2 : Bool) (w : World) (hr0 : Kd.C k94 w A0 l0.length l0) (hc0 : l0.length ≤ c0) (h : spec_vaPlain.f k l0 a1 = some (r1, r2)) :
   Calls Try.prog 77 #[.slice A0 l0.length c0, .int .i64 a1] w fun e w' => ∃ v0_ : Value, e = .returned (.tuple #[v0_, .bool r2]) ∧ Kd.R k72 72 w' w.heap.size (fun _ => True) v0_ r1 ∧ Below w.heap.size w w' := by
 have HR0 := zA hr0
 have HC0 := zA hc0
 clear hr0 hc0
 have HB := zA (Below.refl w.heap.size w)
 have H : ((spec_vaSymbol.f k l0 a1).bind fun bt101 => (if bt101.2 = true then ((spec_exFold.f k bt101.1).bind fun t105 => ((spec_vaOrder.f k t105).bind fun t108 => (some (t108, true)))) else (some (([] : List (S72)), false)))) = some (r1, r2) := h
 clear h
 replace H := zob H
 obtain ⟨⟨t101, t102⟩, A30, H⟩ := H
 replace H : (if t102 = true then ((spec_exFold.f k t101).bind fun t105 => ((spec_vaOrder.f k t105).bind fun t108 => (some (t108, true)))) else (some (([] : List (S72)), false))) = some (r1, r2) := H
 have A3 := zA A30
 clear A30
 by_cases c4 : t102 = true
 rotate_left
 · replace c4 := zbf c4
   subst c4
   replace H := zif H
   simp only [Option.some.injEq, Prod.mk.injEq] at H
   obtain ⟨rfl, rfl⟩ := H
   go_enter Try.func77, Try.ntmps77
   go_wp2_with (first | ((with_reducible refine zgc 68 ?_); refine zca 11 Try.func68 #[.slice A0 l0.length c0, .int .i64 a1] (spec_vaSymbol.calls k _ _ l0 a1 t101 false _ (zq12 HR0) HC0.out A3.out) ?_; rintro e w12 ⟨v103, rfl, ho0, hb⟩; refine ⟨_, rfl, ?_⟩; have HO104 := zA (Kd.R_lower ho0 (below_size zq1)); replace HB := zA (below_step zq1 hb); (try clear hb); (try clear ho0)))
   go_ret2
   exact ⟨_, zq4, zq47, zq1⟩
 subst c4
 replace H := zih H
 replace H := zob H
 obtain ⟨t105, A50, H⟩ := H
 replace H : ((spec_vaOrder.f k t105).bind fun t108 => (some (t108, true))) = some (r1, r2) := H
 have A5 := zA A50
 clear A50
 replace H := zob H
 obtain ⟨t108, A60, H⟩ := H
 replace H : (some (t108, true)) = some (r1, r2) := H
 have A6 := zA A60
 clear A60
 simp only [Option.some.injEq, Prod.mk.injEq] at H
 obtain ⟨rfl, rfl⟩ := H
 go_enter Try.func77, Try.ntmps77
 go_wp2_with (first | ((with_reducible refine zgc 68 ?_); refine zca 11 Try.func68 #[.slice A0 l0.length c0, .int .i64 a1] (spec_vaSymbol.calls k _ _ l0 a1 t101 true _ (zq12 HR0) HC0.out A3.out) ?_; rintro e w7 ⟨v103, rfl, ho0, hb⟩; refine ⟨_, rfl, ?_⟩; have HO104 := zA (Kd.R_lower ho0 (below_size zq1)); replace HB := zA (below_step zq1 hb); (try clear hb); (try clear ho0); obtain ⟨Ao8, co8, eo8⟩ := Kd.R_slice HO104.out; subst eo8) | ((with_reducible refine zgc 123 ?_); refine zca 17 Try.func123 #[.slice Ao8 t101.length co8] (spec_exFold.calls k _ _ t101 t105 _ (zq11 HO104) (zq37 HO104) A5.out) ?_; rintro e w9 ⟨v106, rfl, ho0, hb⟩; refine ⟨_, rfl, ?_⟩; have HO107 := zA (Kd.R_lower (Kd.R_new' ho0 (Kd.R_lt (zq2 HO104))) (below_size zq1)); replace HO104 := zA (Kd.R_elder' (zq2 HO104) (Kd.R_base ho0) hb); replace HB := zA (below_step zq1 hb); (try clear hb); (try clear ho0); obtain ⟨Ao10, co10, eo10⟩ := Kd.R_slice HO107.out; subst eo10) | ((with_reducible refine zgc 44 ?_); refine zca 18 Try.func44 #[.slice Ao10 t105.length co10] (spec_vaOrder.calls k _ _ t105 t108 _ (zq11 HO107) (zq37 HO107) A6.out) ?_; rintro e w11 ⟨v109, rfl, ho0, hb⟩; refine ⟨_, rfl, ?_⟩; have HO110 := zA (Kd.R_lower (Kd.R_new' (Kd.R_new' ho0 (Kd.R_lt (zq2 HO104))) (Kd.R_lt (zq2 HO107))) (below_size zq1)); replace HO104 := zA (Kd.R_elder' (zq2 HO104) (Kd.R_base ho0) hb); replace HO107 := zA (Kd.R_elder' (zq2 HO107) (Kd.R_base ho0) hb); replace HB := zA (below_step zq1 hb); (try clear hb); (try clear ho0)))
 go_ret2
 exact ⟨_, zq4, zq28 HO110, zq1⟩
def spec_vaAlike.l0 : Nat → List (S94) → List (S94) → Bool → List Int → Int → Int → Option (Bool × Bool)
 | 0, _, _, _, _, _, _ => none
 | k + 1, x0, x1, x8, x15, x16, x17 => if x17 < x16 then (if 0 ≤ x17 then (if x17 < (x15.length : Int) then ((spec_vaPlain.f k x0 (rd x15 x17)).bind fun bt102 => ((spec_vaPlain.f k x1 (rd x15 x17)).bind fun bt106 => (if bt102.2 = true then (if bt106.2 = true then (if x8 = true then ((spec_ruSame.f k bt102.1 bt106.1).bind fun t110 => (spec_vaAlike.l0 k x0 x1 t110 x15 x16 (wrap64 (x17 + 1)))) else (spec_vaAlike.l0 k x0 x1 false x15 x16 (wrap64 (x17 + 1)))) else (some (false, false))) else (some (false, false))))) else (none)) else (none)) else (some (x8, true))
def spec_vaAlike.f (k : Nat) (l0 : List (S94)) (l1 : List (S94)) (l2 : List Int) : Option (Bool × Bool) := spec_vaAlike.l0 k l0 l1 true l2 (l2.length : Int) 0
theorem spec_vaAlike.mono_l : ∀ k, (∀ y0 y1 y2 y3 y4 y5, LeO (spec_vaAlike.l0 k y0 y1 y2 y3 y4 y5) (spec_vaAlike.l0 (k + 1) y0 y1 y2 y3 y4 y5))
 | 0 => fun _ _ _ _ _ _ r h => by simp [spec_vaAlike.l0] at h
 | k + 1 => by
   have ih0 := spec_vaAlike.mono_l k
   · intro y0 y1 y2 y3 y4 y5
     unfold spec_vaAlike.l0
     exact zm3 ih0 spec_ruSame.mono spec_vaPlain.mono
theorem spec_vaAlike.mono : ∀ a0 a1 a2 k, LeO (spec_vaAlike.f k a0 a1 a2) (spec_vaAlike.f (k + 1) a0 a1 a2) := by
 intro a0 a1 a2 k
 have ih0 := spec_vaAlike.mono_l k
 unfold spec_vaAlike.f
 exact zm3 ih0 spec_ruSame.mono spec_vaPlain.mono
theorem spec_vaAlike.calls (k : Nat) (A0 : Option Addr) (c0 : Nat) (l0 : List (S94)) (A1 : Option Addr) (c1 : Nat) (l1 : List (S94)) (A2 : Option Addr) (c2 : Nat) (l2 : List Int) (r1 : Bool) (r2 : Bool) (w : World) (hr0 : Kd.C k94 w A0 l0.length l0) (hc0 : l0.length ≤ c0) (hr1 : Kd.C k94 w A1 l1.length l1) (hc1 : l1.length ≤ c1) (hr2 : Kd.C (Kd.int .i64) w A2 l2.length l2) (hc2 : l2.length ≤ c2) (h : spec_vaAlike.f k l0 l1 l2 = some (r1, r2)) :
   Calls Try.prog 73 #[.slice A0 l0.length c0, .slice A1 l1.length c1, .slice A2 l2.length c2] w fun e w' => e = .returned (.tuple #[.bool r1, .bool r2]) ∧ Below w.heap.size w w' := by
 have HR0 := zA hr0
 have HC0 := zA hc0
 clear hr0 hc0
 have HR1 := zA hr1
 have HC1 := zA hc1
 clear hr1 hc1
 have HR2 := zA hr2
 have HC2 := zA hc2
 clear hr2 hc2
 have HB := zA (Below.refl w.heap.size w)
 have H : (spec_vaAlike.l0 k l0 l1 true l2 (l2.length : Int) 0) = some (r1, r2) := h
 clear h
 have H' := zA H
 clear H
 go_enter Try.func73, Try.ntmps73
 go_wp2
 go_loopg [8, 17] k (fun kq v8 v17 w' => ∃ (x8_1 : Bool) (x17_1 : Int), v8 = .bool x8_1 ∧ v17 = .int .i64 x17_1 ∧ Aside0 (spec_vaAlike.l0 kq l0 l1 x8_1 l2 (l2.length : Int) x17_1 = some (r1, r2)) ∧ Aside0 (kq ≤ k) ∧ Aside0 (Below w.heap.size w w'))
 case atStart => exact ⟨(true), (0), zq5, zq5, H', ⟨zlr _⟩, ⟨zq1⟩⟩
 clear H'
 try clear c1
 try clear c2
 obtain ⟨x8_1, x17_1, rfl, rfl, HA, HK1, HB⟩ := hrel
 cases gk with
 | zero => exact absurd HA.out (by simp [spec_vaAlike.l0])
 | succ k1 =>
 have H := HA.out
 clear HA
 simp only [spec_vaAlike.l0] at H
 revert H
 refine zit (fun c4 H => ?_) fun c4 H => ?_
 rotate_left
 · simp only [Option.some.injEq, Prod.mk.injEq] at H
   obtain ⟨rfl, rfl⟩ := H
   go_wp2
   go_ret2
   exact ⟨zq4, zq1⟩
 revert H
 refine zin fun c5 H => ?_
 revert H
 refine zin fun c6 H => ?_
 replace H := zob H
 obtain ⟨⟨t102, t103⟩, A70, H⟩ := H
 replace H : ((spec_vaPlain.f k1 l1 (rd l2 x17_1)).bind fun bt106 => (if t103 = true then (if bt106.2 = true then (if x8_1 = true then ((spec_ruSame.f k1 t102 bt106.1).bind fun t110 => (spec_vaAlike.l0 k1 l0 l1 t110 l2 (l2.length : Int) (wrap64 (x17_1 + 1)))) else (spec_vaAlike.l0 k1 l0 l1 false l2 (l2.length : Int) (wrap64 (x17_1 + 1)))) else (some (false, false))) else (some (false, false)))) = some (r1, r2) := H
 have A7 := zA A70
 clear A70
 replace H := zob H
 obtain ⟨⟨t106, t107⟩, A80, H⟩ := H
 replace H : (if t103 = true then (if t107 = true then (if x8_1 = true then ((spec_ruSame.f k1 t102 t106).bind fun t110 => (spec_vaAlike.l0 k1 l0 l1 t110 l2 (l2.length : Int) (wrap64 (x17_1 + 1)))) else (spec_vaAlike.l0 k1 l0 l1 false l2 (l2.length : Int) (wrap64 (x17_1 + 1)))) else (some (false, false))) else (some (false, false))) = some (r1, r2) := H
 have A8 := zA A80
 clear A80
 by_cases c9 : t103 = true
 rotate_left
 · replace c9 := zbf c9
   subst c9
   replace H := zif H
   simp only [Option.some.injEq, Prod.mk.injEq] at H
   obtain ⟨rfl, rfl⟩ := H
   obtain ⟨p101, q101⟩ := zpq x17_1 l2.length
   obtain ⟨ad101, e101, hx101_0⟩ := Kd.at_int HR2.out x17_1 (zoe p101) (zoe q101)
   cases e101
   replace hx101_0 := zkep HB.out hx101_0
   go_wp2_with (first | ((with_reducible refine zgc 77 ?_); refine zca 24 Try.func77 #[.slice A0 l0.length c0, .int .i64 (rd l2 x17_1)] (spec_vaPlain.calls k1 _ _ l0 (rd l2 x17_1) t102 false _ (zq10 HR0) HC0.out A7.out) ?_; rintro e w22 ⟨v104, rfl, ho0, hb⟩; refine ⟨_, rfl, ?_⟩; have HO105 := zA (Kd.R_lower ho0 (below_size zq1)); replace HB := zA (below_step zq1 hb); (try clear hb); (try clear ho0)) | ((with_reducible refine zgc 77 ?_); refine zca 30 Try.func77 #[.slice A1 l1.length c1, .int .i64 (rd l2 x17_1)] (spec_vaPlain.calls k1 _ _ l1 (rd l2 x17_1) t106 t107 _ (zq10 HR1) HC1.out A8.out) ?_; rintro e w23 ⟨v108, rfl, ho0, hb⟩; refine ⟨_, rfl, ?_⟩; have HO109 := zA (Kd.R_lower (Kd.R_new' ho0 (Kd.R_lt (zq2 HO105))) (below_size zq1)); replace HO105 := zA (Kd.R_elder' (zq2 HO105) (Kd.R_base ho0) hb); replace HB := zA (below_step zq1 hb); (try clear hb); (try clear ho0)))
   go_ret2
   exact ⟨zq4, zq1⟩
 subst c9
 replace H := zih H
 by_cases c10 : t107 = true
 rotate_left
 · replace c10 := zbf c10
   subst c10
   replace H := zif H
   simp only [Option.some.injEq, Prod.mk.injEq] at H
   obtain ⟨rfl, rfl⟩ := H
   obtain ⟨p101, q101⟩ := zpq x17_1 l2.length
   obtain ⟨ad101, e101, hx101_0⟩ := Kd.at_int HR2.out x17_1 (zoe p101) (zoe q101)
   cases e101
   replace hx101_0 := zkep HB.out hx101_0
   go_wp2_with (first | ((with_reducible refine zgc 77 ?_); refine zca 24 Try.func77 #[.slice A0 l0.length c0, .int .i64 (rd l2 x17_1)] (spec_vaPlain.calls k1 _ _ l0 (rd l2 x17_1) t102 true _ (zq10 HR0) HC0.out A7.out) ?_; rintro e w20 ⟨v104, rfl, ho0, hb⟩; refine ⟨_, rfl, ?_⟩; have HO105 := zA (Kd.R_lower ho0 (below_size zq1)); replace HB := zA (below_step zq1 hb); (try clear hb); (try clear ho0)) | ((with_reducible refine zgc 77 ?_); refine zca 30 Try.func77 #[.slice A1 l1.length c1, .int .i64 (rd l2 x17_1)] (spec_vaPlain.calls k1 _ _ l1 (rd l2 x17_1) t106 false _ (zq10 HR1) HC1.out A8.out) ?_; rintro e w21 ⟨v108, rfl, ho0, hb⟩; refine ⟨_, rfl, ?_⟩; have HO109 := zA (Kd.R_lower (Kd.R_new' ho0 (Kd.R_lt (zq2 HO105))) (below_size zq1)); replace HO105 := zA (Kd.R_elder' (zq2 HO105) (Kd.R_base ho0) hb); replace HB := zA (below_step zq1 hb); (try clear hb); (try clear ho0)))
   go_ret2
   exact ⟨zq4, zq1⟩
 subst c10
 replace H := zih H
 by_cases c11 : x8_1 = true
 rotate_left
 · replace c11 := zbf c11
   subst c11
   replace H := zif H
   have H' := zA H
   clear H
   obtain ⟨p101, q101⟩ := zpq x17_1 l2.length
   obtain ⟨ad101, e101, hx101_0⟩ := Kd.at_int HR2.out x17_1 (zoe p101) (zoe q101)
   cases e101
   replace hx101_0 := zkep HB.out hx101_0
   go_wp2_with (first | ((with_reducible refine zgc 77 ?_); refine zca 24 Try.func77 #[.slice A0 l0.length c0, .int .i64 (rd l2 x17_1)] (spec_vaPlain.calls k1 _ _ l0 (rd l2 x17_1) t102 true _ (zq10 HR0) HC0.out A7.out) ?_; rintro e w18 ⟨v104, rfl, ho0, hb⟩; refine ⟨_, rfl, ?_⟩; have HO105 := zA (Kd.R_lower ho0 (below_size zq1)); replace HB := zA (below_step zq1 hb); (try clear hb); (try clear ho0)) | ((with_reducible refine zgc 77 ?_); refine zca 30 Try.func77 #[.slice A1 l1.length c1, .int .i64 (rd l2 x17_1)] (spec_vaPlain.calls k1 _ _ l1 (rd l2 x17_1) t106 true _ (zq10 HR1) HC1.out A8.out) ?_; rintro e w19 ⟨v108, rfl, ho0, hb⟩; refine ⟨_, rfl, ?_⟩; have HO109 := zA (Kd.R_lower (Kd.R_new' ho0 (Kd.R_lt (zq2 HO105))) (below_size zq1)); replace HO105 := zA (Kd.R_elder' (zq2 HO105) (Kd.R_base ho0) hb); replace HB := zA (below_step zq1 hb); (try clear hb); (try clear ho0)))
   go_roundg k1
   case measure => have := HK1.out; omega
   case rel => exact ⟨(false), (wrap64 (x17_1 + 1)), zq5, zq5, H', ⟨zq39 HK1⟩, ⟨zq1⟩⟩
 subst c11
 replace H := zih H
 replace H := zob H
 obtain ⟨t110, A120, H⟩ := H
 replace H : (spec_vaAlike.l0 k1 l0 l1 t110 l2 (l2.length : Int) (wrap64 (x17_1 + 1))) = some (r1, r2) := H
 have A12 := zA A120
 clear A120
 have H' := zA H
 clear H
 obtain ⟨p101, q101⟩ := zpq x17_1 l2.length
 obtain ⟨ad101, e101, hx101_0⟩ := Kd.at_int HR2.out x17_1 (zoe p101) (zoe q101)
 cases e101
 replace hx101_0 := zkep HB.out hx101_0
 go_wp2_with (first | ((with_reducible refine zgc 77 ?_); refine zca 24 Try.func77 #[.slice A0 l0.length c0, .int .i64 (rd l2 x17_1)] (spec_vaPlain.calls k1 _ _ l0 (rd l2 x17_1) t102 true _ (zq10 HR0) HC0.out A7.out) ?_; rintro e w13 ⟨v104, rfl, ho0, hb⟩; refine ⟨_, rfl, ?_⟩; have HO105 := zA (Kd.R_lower ho0 (below_size zq1)); replace HB := zA (below_step zq1 hb); (try clear hb); (try clear ho0)) | ((with_reducible refine zgc 77 ?_); refine zca 30 Try.func77 #[.slice A1 l1.length c1, .int .i64 (rd l2 x17_1)] (spec_vaPlain.calls k1 _ _ l1 (rd l2 x17_1) t106 true _ (zq10 HR1) HC1.out A8.out) ?_; rintro e w14 ⟨v108, rfl, ho0, hb⟩; refine ⟨_, rfl, ?_⟩; have HO109 := zA (Kd.R_lower (Kd.R_new' ho0 (Kd.R_lt (zq2 HO105))) (below_size zq1)); replace HO105 := zA (Kd.R_elder' (zq2 HO105) (Kd.R_base ho0) hb); replace HB := zA (below_step zq1 hb); (try clear hb); (try clear ho0); obtain ⟨Ao15, co15, eo15⟩ := Kd.R_slice HO105.out; subst eo15; obtain ⟨Ao16, co16, eo16⟩ := Kd.R_slice HO109.out; subst eo16) | (go_at_call 120; (with_reducible refine (spec_ruSame.calls k1 _ _ t102 _ _ t106 t110 _ ?side1 ?side2 ?side3 ?side4 A12.out).mono ?_); (case side1 => repeat (first | exact (zRr HO105.out).2.2 | (with_reducible first | refine zCa ?_ _ | refine zCn ?_ _ | refine zCd ?_))); (case side2 => exact (zRr HO105.out).2.1); (case side3 => repeat (first | exact (zRr HO109.out).2.2 | (with_reducible first | refine zCa ?_ _ | refine zCn ?_ _ | refine zCd ?_))); (case side4 => exact (zRr HO109.out).2.1); rintro e w17 ⟨rfl, hb⟩; replace HO105 := zA (zRb (zq2 HO105) hb); replace HO109 := zA (zRb (zq2 HO109) hb); replace HB := zA (below_step zq1 hb); (try clear hb)))
 go_roundg k1
 case measure => have := HK1.out; omega
 case rel => exact ⟨(t110), (wrap64 (x17_1 + 1)), zq5, zq5, H', ⟨zq39 HK1⟩, ⟨zq1⟩⟩
def spec_l1Rising.l0 : Nat → List Int → Int → Int → List Int → Int → Int → Option (Bool)
 | 0, _, _, _, _, _, _ => none
 | k + 1, x0, x1, x2, x9, x10, x11 => if x11 < x10 then (if 0 ≤ x11 then (if x11 < (x9.length : Int) then ((spec_l1In.f (rd x9 x11) x1 x2).bind fun t102 => (if t102 = true then (if x11 > 0 then (if 0 ≤ (wrap64 (x11 - 1)) then (if (wrap64 (x11 - 1)) < (x0.length : Int) then (if (rd x0 (wrap64 (x11 - 1))) ≥ (rd x9 x11) then (some false) else (spec_l1Rising.l0 k x0 x1 x2 x9 x10 (wrap64 (x11 + 1)))) else (none)) else (none)) else (spec_l1Rising.l0 k x0 x1 x2 x9 x10 (wrap64 (x11 + 1)))) else (some false))) else (none)) else (none)) else (some true)
def spec_l1Rising.f (k : Nat) (l0 : List Int) (a1 : Int) (a2 : Int) : Option (Bool) := spec_l1Rising.l0 k l0 a1 a2 l0 (l0.length : Int) 0
theorem spec_l1Rising.mono_l : ∀ k, (∀ y0 y1 y2 y3 y4 y5, LeO (spec_l1Rising.l0 k y0 y1 y2 y3 y4 y5) (spec_l1Rising.l0 (k + 1) y0 y1 y2 y3 y4 y5))
 | 0 => fun _ _ _ _ _ _ r h => by simp [spec_l1Rising.l0] at h
 | k + 1 => by
   have ih0 := spec_l1Rising.mono_l k
   · intro y0 y1 y2 y3 y4 y5
     unfold spec_l1Rising.l0
     exact zm1 ih0
theorem spec_l1Rising.mono : ∀ a0 a1 a2 k, LeO (spec_l1Rising.f k a0 a1 a2) (spec_l1Rising.f (k + 1) a0 a1 a2) := by
 intro a0 a1 a2 k
 have ih0 := spec_l1Rising.mono_l k
 unfold spec_l1Rising.f
 exact zm1 ih0
theorem spec_l1Rising.calls (k : Nat) (A0 : Option Addr) (c0 : Nat) (l0 : List Int) (a1 : Int) (a2 : Int) (r : Bool) (w : World) (hr0 : Kd.C (Kd.int .i64) w A0 l0.length l0) (hc0 : l0.length ≤ c0) (h : spec_l1Rising.f k l0 a1 a2 = some r) :
   Calls Try.prog 167 #[.slice A0 l0.length c0, .int .i64 a1, .int .i64 a2] w fun e w' => e = .returned (.bool r) ∧ Drawn0 w w' := by
 have HR0 := zA hr0
 have HC0 := zA hc0
 clear hr0 hc0
 have H : (spec_l1Rising.l0 k l0 a1 a2 l0 (l0.length : Int) 0) = some r := h
 clear h
 have H' := zA H
 clear H
 go_enter Try.func167, Try.ntmps167
 go_wp2
 go_loopg [11] k (fun kq v11 w' => ∃ (x11_1 : Int), v11 = .int .i64 x11_1 ∧ Aside0 (spec_l1Rising.l0 kq l0 a1 a2 l0 (l0.length : Int) x11_1 = some r) ∧ Aside0 (kq ≤ k) ∧ Drawn0 w w')
 case atStart => exact ⟨(0), zq5, H', ⟨zlr _⟩, zq6⟩
 clear H'
 obtain ⟨x11_1, rfl, HA, HK1, ⟨m1, rfl⟩⟩ := hrel
 cases gk with
 | zero => exact absurd HA.out (by simp [spec_l1Rising.l0])
 | succ k1 =>
 have H := HA.out
 clear HA
 simp only [spec_l1Rising.l0] at H
 revert H
 refine zit (fun c4 H => ?_) fun c4 H => ?_
 rotate_left
 · obtain rfl := zsi H
   exact zr_6
 revert H
 refine zin fun c5 H => ?_
 revert H
 refine zin fun c6 H => ?_
 replace H := zob H
 obtain ⟨t102, A70, H⟩ := H
 replace H : (if t102 = true then (if x11_1 > 0 then (if 0 ≤ (wrap64 (x11_1 - 1)) then (if (wrap64 (x11_1 - 1)) < (l0.length : Int) then (if (rd l0 (wrap64 (x11_1 - 1))) ≥ (rd l0 x11_1) then (some false) else (spec_l1Rising.l0 k1 l0 a1 a2 l0 (l0.length : Int) (wrap64 (x11_1 + 1)))) else (none)) else (none)) else (spec_l1Rising.l0 k1 l0 a1 a2 l0 (l0.length : Int) (wrap64 (x11_1 + 1)))) else (some false)) = some r := H
 have A7 := zA A70
 clear A70
 by_cases c8 : t102 = true
 rotate_left
 · replace c8 := zbf c8
   subst c8
   replace H := zif H
   obtain rfl := zsi H
   obtain ⟨p101, q101⟩ := zpq x11_1 l0.length
   obtain ⟨ad101, e101, hx101_0⟩ := Kd.at_int HR0.out x11_1 (zoe p101) (zoe q101)
   cases e101
   go_wp2_with (first | ((with_reducible refine zgc 50 ?_); refine zcl 19 Try.func50 (spec_l1In.calls (rd l0 x11_1) a1 a2 false _ A7.out) ?_; rintro e w' ⟨rfl, ⟨nd, rfl⟩⟩; refine ⟨_, rfl, ?_⟩))
   exact zr_1
 subst c8
 replace H := zih H
 by_cases c9 : x11_1 > 0
 rotate_left
 · rw [if_neg c9] at H
   have c9b0 := zdf c9
   clear c9
   have H' := zA H
   clear H
   obtain ⟨p101, q101⟩ := zpq x11_1 l0.length
   obtain ⟨ad101, e101, hx101_0⟩ := Kd.at_int HR0.out x11_1 (zoe p101) (zoe q101)
   cases e101
   go_wp2_with (first | ((with_reducible refine zgc 50 ?_); refine zcl 19 Try.func50 (spec_l1In.calls (rd l0 x11_1) a1 a2 true _ A7.out) ?_; rintro e w' ⟨rfl, ⟨nd, rfl⟩⟩; refine ⟨_, rfl, ?_⟩))
   go_roundg k1
   case measure => have := HK1.out; omega
   case rel => exact ⟨(wrap64 (x11_1 + 1)), zq5, H', ⟨zq39 HK1⟩, zq6⟩
 rw [if_pos c9] at H
 have c9b0 := zdt c9
 clear c9
 obtain ⟨ji10, hji10⟩ : ∃ j_ : Int, (wrap64 (x11_1 - 1)) = j_ := ⟨_, rfl⟩
 replace H : (if 0 ≤ (ji10) then (if (ji10) < (l0.length : Int) then (if (rd l0 (ji10)) ≥ (rd l0 x11_1) then (some false) else (spec_l1Rising.l0 k1 l0 a1 a2 l0 (l0.length : Int) (wrap64 (x11_1 + 1)))) else (none)) else (none)) = some r := by first | (rw [hji10] at H; exact H) | (simp only [hji10] at H ⊢; exact H)
 (try rw [hji10] at A7)
 have hji10w : (IntKind.i64.wrap (x11_1 - 1)) = ji10 := (i64_w _).trans hji10
 revert H
 refine zin fun c11 H => ?_
 revert H
 refine zin fun c12 H => ?_
 by_cases c13 : (rd l0 (ji10)) ≥ (rd l0 x11_1)
 · rw [if_pos c13] at H
   have c13b0 := zdt c13
   clear c13
   obtain rfl := zsi H
   obtain ⟨p101, q101⟩ := zpq x11_1 l0.length
   obtain ⟨ad101, e101, hx101_0⟩ := Kd.at_int HR0.out x11_1 (zoe p101) (zoe q101)
   cases e101
   go_wp2_with (first | ((with_reducible refine zgc 50 ?_); refine zcl 19 Try.func50 (spec_l1In.calls (rd l0 x11_1) a1 a2 true _ A7.out) ?_; rintro e w' ⟨rfl, ⟨nd, rfl⟩⟩; refine ⟨_, rfl, ?_⟩; have p103 : 0 ≤ ((ji10) : Int) := zde zq27; have q103 : (ji10) < (l0.length : Int) := zde zq27; obtain ⟨ad103, e103, hx103_0⟩ := Kd.at_int HR0.out (ji10) p103 q103; obtain rfl : ad101 = ad103 := (by injection e103); replace p103 := eq_true p103; replace q103 := eq_true q103))
   go_ret
   exact ⟨by first | rfl | (simp; done) | (simp only [← hji10] <;> (first | rfl | simp)) | (simp [*]; done), zq6⟩
 rw [if_neg c13] at H
 have c13b0 := zdf c13
 clear c13
 have H' := zA H
 clear H
 obtain ⟨p101, q101⟩ := zpq x11_1 l0.length
 obtain ⟨ad101, e101, hx101_0⟩ := Kd.at_int HR0.out x11_1 (zoe p101) (zoe q101)
 cases e101
 go_wp2_with (first | ((with_reducible refine zgc 50 ?_); refine zcl 19 Try.func50 (spec_l1In.calls (rd l0 x11_1) a1 a2 true _ A7.out) ?_; rintro e w' ⟨rfl, ⟨nd, rfl⟩⟩; refine ⟨_, rfl, ?_⟩; have p103 : 0 ≤ ((ji10) : Int) := zde zq27; have q103 : (ji10) < (l0.length : Int) := zde zq27; obtain ⟨ad103, e103, hx103_0⟩ := Kd.at_int HR0.out (ji10) p103 q103; obtain rfl : ad101 = ad103 := (by injection e103); replace p103 := eq_true p103; replace q103 := eq_true q103))
 go_roundg k1
 case measure => have := HK1.out; omega
 case rel => exact ⟨(wrap64 (x11_1 + 1)), zq5, H', ⟨zq39 HK1⟩, zq6⟩
def spec_cdWanted.f (k : Nat) (l0 : List Int) : Option (Bool) := (spec_l1Rising.f k l0 0 5).bind fun t101 => (some t101)
theorem spec_cdWanted.mono : ∀ a0 k, LeO (spec_cdWanted.f k a0) (spec_cdWanted.f (k + 1) a0) := by
 intro a0 k
 unfold spec_cdWanted.f
 exact zm1 spec_l1Rising.mono
theorem spec_cdWanted.calls (k : Nat) (A0 : Option Addr) (c0 : Nat) (l0 : List Int) (r : Bool) (w : World) (hr0 : Kd.C (Kd.int .i64) w A0 l0.length l0) (hc0 : l0.length ≤ c0) (h : spec_cdWanted.f k l0 = some r) :
   Calls Try.prog 119 #[.slice A0 l0.length c0] w fun e w' => e = .returned (.bool r) ∧ Drawn0 w w' := by
 have HR0 := zA hr0
 have HC0 := zA hc0
 clear hr0 hc0
 have H : ((spec_l1Rising.f k l0 0 5).bind fun t101 => (some t101)) = some r := h
 clear h
 replace H := zob H
 obtain ⟨t101, A20, H⟩ := H
 replace H : (some t101) = some r := H
 have A2 := zA A20
 clear A20
 obtain rfl := zsi H
 go_enter Try.func119, Try.ntmps119
 go_wp2_with (first | ((with_reducible refine zgc 167 ?_); refine zca 4 Try.func167 #[.slice A0 l0.length c0, .int .i64 0, .int .i64 5] (spec_l1Rising.calls k _ _ l0 0 5 t101 _ (zq12 HR0) HC0.out A2.out) ?_; rintro e w' ⟨rfl, ⟨nd, rfl⟩⟩; refine ⟨_, rfl, ?_⟩))
 exact zr_1
def spec_cdReg.f (a0 : Int) : Option (Bool) := (spec_l1In.f a0 0 5).bind fun t101 => (some t101)
theorem spec_cdReg.calls (a0 : Int) (r : Bool) (w : World) (h : spec_cdReg.f a0 = some r) :
   Calls Try.prog 51 #[.int .i64 a0] w fun e w' => e = .returned (.bool r) ∧ Drawn0 w w' := by
 have H : ((spec_l1In.f a0 0 5).bind fun t101 => (some t101)) = some r := h
 clear h
 replace H := zob H
 obtain ⟨t101, A20, H⟩ := H
 replace H : (some t101) = some r := H
 have A2 := zA A20
 clear A20
 obtain rfl := zsi H
 go_enter Try.func51, Try.ntmps51
 go_wp2_with (first | ((with_reducible refine zgc 50 ?_); refine zcl 4 Try.func50 (spec_l1In.calls a0 0 5 t101 _ A2.out) ?_; rintro e w' ⟨rfl, ⟨nd, rfl⟩⟩; refine ⟨_, rfl, ?_⟩))
 exact zr_1
end Go.Proofs.Ytkfkbmlbpeojaaa.Q
end
section
namespace Go.Proofs.Ytkfkbmlbpeojaaa.Q
open Go.RowKit Go.Proofs.YtkfkbmlbpeojaaaW.PrintWords Go.Proofs.YtkfkbmlbpeojaaaW.PrintLast Go.Proofs.YtkfkbmlbpeojaaaW.PrintMore
set_option maxHeartbeats 8000000
set_option maxRecDepth 100000
attribute [local go_sem] max2_int min2_int max_two min_two max_three min_three max_four min_four
set_option linter.unusedVariables false
set_option linter.unusedSimpArgs false
mutual
def spec_cdShape.j0 : Nat → ByteArray → Bool → Option (Bool × Bool × Bool × Int × Int)
 | 0, _, _ => none
 | k + 1, x7, x10 => if x10 = true then (some (true, true, false, 0, 0)) else (if x7.toList = ([97, 100, 100] : List UInt8) then (spec_cdShape.j1 k x7 (x7.toList == ([97, 100, 100] : List UInt8))) else (if x7.toList = ([115, 117, 98] : List UInt8) then (spec_cdShape.j1 k x7 (x7.toList == ([115, 117, 98] : List UInt8))) else (if x7.toList = ([97, 110, 100] : List UInt8) then (spec_cdShape.j1 k x7 (x7.toList == ([97, 110, 100] : List UInt8))) else (if x7.toList = ([111, 114] : List UInt8) then (spec_cdShape.j1 k x7 (x7.toList == ([111, 114] : List UInt8))) else (if x7.toList = ([120, 111, 114] : List UInt8) then (spec_cdShape.j1 k x7 (x7.toList == ([120, 111, 114] : List UInt8))) else (if x7.toList = ([115, 104, 108] : List UInt8) then (spec_cdShape.j1 k x7 (x7.toList == ([115, 104, 108] : List UInt8))) else (if x7.toList = ([115, 104, 114] : List UInt8) then (spec_cdShape.j1 k x7 (x7.toList == ([115, 104, 114] : List UInt8))) else (if x7.toList = ([108, 101, 115, 115] : List UInt8) then (spec_cdShape.j1 k x7 (x7.toList == ([108, 101, 115, 115] : List UInt8))) else (if x7.toList = ([101, 113] : List UInt8) then (spec_cdShape.j1 k x7 (x7.toList == ([101, 113] : List UInt8))) else (spec_cdShape.j1 k x7 (x7.toList == ([109, 117, 108] : List UInt8))))))))))))
def spec_cdShape.j1 : Nat → ByteArray → Bool → Option (Bool × Bool × Bool × Int × Int)
 | 0, _, _ => none
 | k + 1, x7, x14 => if x14 = true then (some (true, true, true, 0, 0)) else (if x7.toList = ([97, 100, 100, 105] : List UInt8) then (spec_cdShape.j2 k x7 (x7.toList == ([97, 100, 100, 105] : List UInt8))) else (if x7.toList = ([97, 110, 100, 105] : List UInt8) then (spec_cdShape.j2 k x7 (x7.toList == ([97, 110, 100, 105] : List UInt8))) else (spec_cdShape.j2 k x7 (x7.toList == ([120, 111, 114, 105] : List UInt8)))))
def spec_cdShape.j2 : Nat → ByteArray → Bool → Option (Bool × Bool × Bool × Int × Int)
 | 0, _, _ => none
 | k + 1, x7, x25 => if x25 = true then (some (true, true, false, 0, 63)) else (if x7.toList = ([115, 104, 108, 105] : List UInt8) then (spec_cdShape.j3 k x7 (x7.toList == ([115, 104, 108, 105] : List UInt8))) else (spec_cdShape.j3 k x7 (x7.toList == ([115, 104, 114, 105] : List UInt8))))
def spec_cdShape.j3 : Nat → ByteArray → Bool → Option (Bool × Bool × Bool × Int × Int)
 | 0, _, _ => none
 | k + 1, x7, x29 => if x29 = true then (some (true, true, false, 1, 5)) else (if x7.toList = ([108, 101, 97] : List UInt8) then (some (true, true, true, 1, 3)) else (some (false, false, false, 0, 0)))
end
def spec_cdShape.f (k : Nat) (a0 : ByteArray) : Option (Bool × Bool × Bool × Int × Int) := if a0.toList = ([115, 101, 116] : List UInt8) then (some (true, false, false, 0, 63)) else (if a0.toList = ([109, 111, 118] : List UInt8) then (spec_cdShape.j0 k a0 (a0.toList == ([109, 111, 118] : List UInt8))) else (if a0.toList = ([110, 111, 116] : List UInt8) then (spec_cdShape.j0 k a0 (a0.toList == ([110, 111, 116] : List UInt8))) else (spec_cdShape.j0 k a0 (a0.toList == ([110, 101, 103] : List UInt8)))))
theorem spec_cdShape.mono_l : ∀ k, (∀ y0 y1, LeO (spec_cdShape.j0 k y0 y1) (spec_cdShape.j0 (k + 1) y0 y1)) ∧ (∀ y0 y1, LeO (spec_cdShape.j1 k y0 y1) (spec_cdShape.j1 (k + 1) y0 y1)) ∧ (∀ y0 y1, LeO (spec_cdShape.j2 k y0 y1) (spec_cdShape.j2 (k + 1) y0 y1)) ∧ (∀ y0 y1, LeO (spec_cdShape.j3 k y0 y1) (spec_cdShape.j3 (k + 1) y0 y1))
 | 0 => ⟨fun _ _ r h => by simp [spec_cdShape.j0] at h, fun _ _ r h => by simp [spec_cdShape.j1] at h, fun _ _ r h => by simp [spec_cdShape.j2] at h, fun _ _ r h => by simp [spec_cdShape.j3] at h⟩
 | k + 1 => by
   obtain ⟨ih0, ih1, ih2, ih3⟩ := spec_cdShape.mono_l k
   refine ⟨?_, ?_, ?_, ?_⟩
   · intro y0 y1
     unfold spec_cdShape.j0
     exact zm4 ih0 ih1 ih2 ih3
   · intro y0 y1
     unfold spec_cdShape.j1
     exact zm4 ih0 ih1 ih2 ih3
   · intro y0 y1
     unfold spec_cdShape.j2
     exact zm4 ih0 ih1 ih2 ih3
   · intro y0 y1
     unfold spec_cdShape.j3
     exact zm4 ih0 ih1 ih2 ih3
theorem spec_cdShape.mono : ∀ a0 k, LeO (spec_cdShape.f k a0) (spec_cdShape.f (k + 1) a0) := by
 intro a0 k
 obtain ⟨ih0, ih1, ih2, ih3⟩ := spec_cdShape.mono_l k
 unfold spec_cdShape.f
 exact zm4 ih0 ih1 ih2 ih3
theorem spec_cdShape.calls (k : Nat) (a0 : ByteArray) (r1 : Bool) (r2 : Bool) (r3 : Bool) (r4 : Int) (r5 : Int) (w : World) (h : spec_cdShape.f k a0 = some (r1, r2, r3, r4, r5)) :
   Calls Try.prog 125 #[.string a0] w fun e w' => e = .returned (.tuple #[.bool r1, .bool r2, .bool r3, .int .i64 r4, .int .i64 r5]) ∧ Drawn0 w w' := by
 have H : (if a0.toList = ([115, 101, 116] : List UInt8) then (some (true, false, false, 0, 63)) else (if a0.toList = ([109, 111, 118] : List UInt8) then (spec_cdShape.j0 k a0 (a0.toList == ([109, 111, 118] : List UInt8))) else (if a0.toList = ([110, 111, 116] : List UInt8) then (spec_cdShape.j0 k a0 (a0.toList == ([110, 111, 116] : List UInt8))) else (spec_cdShape.j0 k a0 (a0.toList == ([110, 101, 103] : List UInt8)))))) = some (r1, r2, r3, r4, r5) := h
 clear h
 by_cases c2 : a0.toList = ([115, 101, 116] : List UInt8)
 · rw [if_pos c2] at H
   obtain ⟨c2b0, c2b1⟩ := zbe c2
   clear c2
   simp only [Option.some.injEq, Prod.mk.injEq] at H
   obtain ⟨rfl, rfl, rfl, rfl, rfl⟩ := H
   go_enter Try.func125, Try.ntmps125
   go_wp2
   refine bodyPost_ret (results_list (rs := [.tmp 2, .tmp 3, .tmp 4, .tmp 5, .tmp 6]) rfl (by simp) (.tmp (.tmp (.tmp (.tmp (.tmp .nil)))))) rfl ?_
   exact ⟨zq5, zq6⟩
 rw [if_neg c2] at H
 obtain ⟨c2b0, c2b1⟩ := zbq c2
 have HC3 := zA H
 clear H
 go_enter Try.func125, Try.ntmps125
 go_upto_if 10 with (fail)
 go_cut [10] (fun v10 wc => ∃ (kq : Nat) (x10_2 : Bool), v10 = .bool x10_2 ∧ Aside0 (spec_cdShape.j0 kq a0 x10_2 = some (r1, r2, r3, r4, r5)) ∧ Aside0 (kq ≤ k) ∧ Drawn0 w wc)
 case first =>
   have H := HC3.out
   clear HC3
   by_cases c4 : a0.toList = ([109, 111, 118] : List UInt8)
   · rw [if_pos c4] at H
     obtain ⟨c4b0, c4b1⟩ := zbe c4
     clear c4
     (first | rw [c4b0] | (simp only [i64_w, i32_w]; rw [c4b0]) | skip)
     have H' := zA H
     clear H
     go_wp2
     go_meet
     case rel => exact ⟨_, ((a0.toList == ([109, 111, 118] : List UInt8))), zq5, H', ⟨zq52⟩, zq6⟩
   rw [if_neg c4] at H
   obtain ⟨c4b0, c4b1⟩ := zbq c4
   (first | rw [c4b0] | (simp only [i64_w, i32_w]; rw [c4b0]) | skip)
   by_cases c5 : a0.toList = ([110, 111, 116] : List UInt8)
   rotate_left
   · rw [if_neg c5] at H
     obtain ⟨c5b0, c5b1⟩ := zbq c5
     have H' := zA H
     clear H
     go_wp2
     go_meet
     case rel => exact ⟨_, ((a0.toList == ([110, 101, 103] : List UInt8))), zq5, H', ⟨zq52⟩, zq6⟩
   rw [if_pos c5] at H
   obtain ⟨c5b0, c5b1⟩ := zbe c5
   clear c5
   have H' := zA H
   clear H
   go_wp2
   go_meet
   case rel => exact ⟨_, ((a0.toList == ([110, 111, 116] : List UInt8))), zq5, H', ⟨zq52⟩, zq6⟩
 clear HC3
 try clear c2
 try clear c2b0
 try clear c2b1
 try clear c4
 try clear c4b0
 try clear c4b1
 try clear c5
 try clear c5b0
 try clear c5b1
 obtain ⟨kq, x10_2, rfl, HA, HJ2, ⟨mc2, rfl⟩⟩ := hcut
 cases kq with
 | zero => exact absurd HA.out (by simp [spec_cdShape.j0])
 | succ kj2 =>
 have H := HA.out
 clear HA
 simp only [spec_cdShape.j0] at H
 by_cases c6 : x10_2 = true
 · subst c6
   replace H := zih H
   simp only [Option.some.injEq, Prod.mk.injEq] at H
   obtain ⟨rfl, rfl, rfl, rfl, rfl⟩ := H
   go_wp2
   refine bodyPost_ret (results_list (rs := [.tmp 2, .tmp 3, .tmp 4, .tmp 5, .tmp 6]) rfl (by simp) (.tmp (.tmp (.tmp (.tmp (.tmp .nil)))))) rfl ?_
   exact ⟨zq5, zq6⟩
 replace c6 := zbf c6
 subst c6
 replace H := zif H
 have HC7 := zA H
 clear H
 go_upto_if 14 with (fail)
 go_cut [14] (fun v14 wc => ∃ (kq : Nat) (x14_6 : Bool), v14 = .bool x14_6 ∧ Aside0 (spec_cdShape.j1 kq a0 x14_6 = some (r1, r2, r3, r4, r5)) ∧ Aside0 (kq ≤ kj2) ∧ Drawn0 w wc)
 case first =>
   have H := HC7.out
   clear HC7
   by_cases c8 : a0.toList = ([97, 100, 100] : List UInt8)
   · rw [if_pos c8] at H
     obtain ⟨c8b0, c8b1⟩ := zbe c8
     clear c8
     (first | rw [c8b0] | (simp only [i64_w, i32_w]; rw [c8b0]) | skip)
     have H' := zA H
     clear H
     go_wp2
     go_meet
     case rel => exact ⟨_, ((a0.toList == ([97, 100, 100] : List UInt8))), zq5, H', ⟨zq36 HJ2⟩, zq6⟩
   rw [if_neg c8] at H
   obtain ⟨c8b0, c8b1⟩ := zbq c8
   (first | rw [c8b0] | (simp only [i64_w, i32_w]; rw [c8b0]) | skip)
   by_cases c9 : a0.toList = ([115, 117, 98] : List UInt8)
   · rw [if_pos c9] at H
     obtain ⟨c9b0, c9b1⟩ := zbe c9
     clear c9
     have H' := zA H
     clear H
     go_wp2
     go_meet
     case rel => exact ⟨_, ((a0.toList == ([115, 117, 98] : List UInt8))), zq5, H', ⟨zq36 HJ2⟩, zq6⟩
   rw [if_neg c9] at H
   obtain ⟨c9b0, c9b1⟩ := zbq c9
   by_cases c10 : a0.toList = ([97, 110, 100] : List UInt8)
   · rw [if_pos c10] at H
     obtain ⟨c10b0, c10b1⟩ := zbe c10
     clear c10
     have H' := zA H
     clear H
     go_wp2
     go_meet
     case rel => exact ⟨_, ((a0.toList == ([97, 110, 100] : List UInt8))), zq5, H', ⟨zq36 HJ2⟩, zq6⟩
   rw [if_neg c10] at H
   obtain ⟨c10b0, c10b1⟩ := zbq c10
   by_cases c11 : a0.toList = ([111, 114] : List UInt8)
   · rw [if_pos c11] at H
     obtain ⟨c11b0, c11b1⟩ := zbe c11
     clear c11
     have H' := zA H
     clear H
     go_wp2
     go_meet
     case rel => exact ⟨_, ((a0.toList == ([111, 114] : List UInt8))), zq5, H', ⟨zq36 HJ2⟩, zq6⟩
   rw [if_neg c11] at H
   obtain ⟨c11b0, c11b1⟩ := zbq c11
   by_cases c12 : a0.toList = ([120, 111, 114] : List UInt8)
   · rw [if_pos c12] at H
     obtain ⟨c12b0, c12b1⟩ := zbe c12
     clear c12
     have H' := zA H
     clear H
     go_wp2
     go_meet
     case rel => exact ⟨_, ((a0.toList == ([120, 111, 114] : List UInt8))), zq5, H', ⟨zq36 HJ2⟩, zq6⟩
   rw [if_neg c12] at H
   obtain ⟨c12b0, c12b1⟩ := zbq c12
   by_cases c13 : a0.toList = ([115, 104, 108] : List UInt8)
   · rw [if_pos c13] at H
     obtain ⟨c13b0, c13b1⟩ := zbe c13
     clear c13
     have H' := zA H
     clear H
     go_wp2
     go_meet
     case rel => exact ⟨_, ((a0.toList == ([115, 104, 108] : List UInt8))), zq5, H', ⟨zq36 HJ2⟩, zq6⟩
   rw [if_neg c13] at H
   obtain ⟨c13b0, c13b1⟩ := zbq c13
   by_cases c14 : a0.toList = ([115, 104, 114] : List UInt8)
   · rw [if_pos c14] at H
     obtain ⟨c14b0, c14b1⟩ := zbe c14
     clear c14
     have H' := zA H
     clear H
     go_wp2
     go_meet
     case rel => exact ⟨_, ((a0.toList == ([115, 104, 114] : List UInt8))), zq5, H', ⟨zq36 HJ2⟩, zq6⟩
   rw [if_neg c14] at H
   obtain ⟨c14b0, c14b1⟩ := zbq c14
   by_cases c15 : a0.toList = ([108, 101, 115, 115] : List UInt8)
   · rw [if_pos c15] at H
     obtain ⟨c15b0, c15b1⟩ := zbe c15
     clear c15
     have H' := zA H
     clear H
     go_wp2
     go_meet
     case rel => exact ⟨_, ((a0.toList == ([108, 101, 115, 115] : List UInt8))), zq5, H', ⟨zq36 HJ2⟩, zq6⟩
   rw [if_neg c15] at H
   obtain ⟨c15b0, c15b1⟩ := zbq c15
   by_cases c16 : a0.toList = ([101, 113] : List UInt8)
   rotate_left
   · rw [if_neg c16] at H
     obtain ⟨c16b0, c16b1⟩ := zbq c16
     have H' := zA H
     clear H
     go_wp2
     go_meet
     case rel => exact ⟨_, ((a0.toList == ([109, 117, 108] : List UInt8))), zq5, H', ⟨zq36 HJ2⟩, zq6⟩
   rw [if_pos c16] at H
   obtain ⟨c16b0, c16b1⟩ := zbe c16
   clear c16
   have H' := zA H
   clear H
   go_wp2
   go_meet
   case rel => exact ⟨_, ((a0.toList == ([101, 113] : List UInt8))), zq5, H', ⟨zq36 HJ2⟩, zq6⟩
 clear HC7
 try clear c2
 try clear c2b0
 try clear c2b1
 try clear c4
 try clear c4b0
 try clear c4b1
 try clear c5
 try clear c5b0
 try clear c5b1
 try clear c6
 try clear c8
 try clear c8b0
 try clear c8b1
 try clear c9
 try clear c9b0
 try clear c9b1
 try clear c10
 try clear c10b0
 try clear c10b1
 try clear c11
 try clear c11b0
 try clear c11b1
 try clear c12
 try clear c12b0
 try clear c12b1
 try clear c13
 try clear c13b0
 try clear c13b1
 try clear c14
 try clear c14b0
 try clear c14b1
 try clear c15
 try clear c15b0
 try clear c15b1
 try clear c16
 try clear c16b0
 try clear c16b1
 obtain ⟨kq, x14_6, rfl, HA, HJ6, ⟨mc6, rfl⟩⟩ := hcut
 cases kq with
 | zero => exact absurd HA.out (by simp [spec_cdShape.j1])
 | succ kj6 =>
 have H := HA.out
 clear HA
 simp only [spec_cdShape.j1] at H
 by_cases c17 : x14_6 = true
 · subst c17
   replace H := zih H
   simp only [Option.some.injEq, Prod.mk.injEq] at H
   obtain ⟨rfl, rfl, rfl, rfl, rfl⟩ := H
   go_wp2
   refine bodyPost_ret (results_list (rs := [.tmp 2, .tmp 3, .tmp 4, .tmp 5, .tmp 6]) rfl (by simp) (.tmp (.tmp (.tmp (.tmp (.tmp .nil)))))) rfl ?_
   exact ⟨zq5, zq6⟩
 replace c17 := zbf c17
 subst c17
 replace H := zif H
 have HC18 := zA H
 clear H
 go_upto_if 25 with (fail)
 go_cut [25] (fun v25 wc => ∃ (kq : Nat) (x25_17 : Bool), v25 = .bool x25_17 ∧ Aside0 (spec_cdShape.j2 kq a0 x25_17 = some (r1, r2, r3, r4, r5)) ∧ Aside0 (kq ≤ kj6) ∧ Drawn0 w wc)
 case first =>
   have H := HC18.out
   clear HC18
   by_cases c19 : a0.toList = ([97, 100, 100, 105] : List UInt8)
   · rw [if_pos c19] at H
     obtain ⟨c19b0, c19b1⟩ := zbe c19
     clear c19
     (first | rw [c19b0] | (simp only [i64_w, i32_w]; rw [c19b0]) | skip)
     have H' := zA H
     clear H
     go_wp2
     go_meet
     case rel => exact ⟨_, ((a0.toList == ([97, 100, 100, 105] : List UInt8))), zq5, H', ⟨zq60 HJ2 HJ6⟩, zq6⟩
   rw [if_neg c19] at H
   obtain ⟨c19b0, c19b1⟩ := zbq c19
   (first | rw [c19b0] | (simp only [i64_w, i32_w]; rw [c19b0]) | skip)
   by_cases c20 : a0.toList = ([97, 110, 100, 105] : List UInt8)
   rotate_left
   · rw [if_neg c20] at H
     obtain ⟨c20b0, c20b1⟩ := zbq c20
     have H' := zA H
     clear H
     go_wp2
     go_meet
     case rel => exact ⟨_, ((a0.toList == ([120, 111, 114, 105] : List UInt8))), zq5, H', ⟨zq60 HJ2 HJ6⟩, zq6⟩
   rw [if_pos c20] at H
   obtain ⟨c20b0, c20b1⟩ := zbe c20
   clear c20
   have H' := zA H
   clear H
   go_wp2
   go_meet
   case rel => exact ⟨_, ((a0.toList == ([97, 110, 100, 105] : List UInt8))), zq5, H', ⟨zq60 HJ2 HJ6⟩, zq6⟩
 clear HC18
 try clear c2
 try clear c2b0
 try clear c2b1
 try clear c4
 try clear c4b0
 try clear c4b1
 try clear c5
 try clear c5b0
 try clear c5b1
 try clear c6
 try clear c8
 try clear c8b0
 try clear c8b1
 try clear c9
 try clear c9b0
 try clear c9b1
 try clear c10
 try clear c10b0
 try clear c10b1
 try clear c11
 try clear c11b0
 try clear c11b1
 try clear c12
 try clear c12b0
 try clear c12b1
 try clear c13
 try clear c13b0
 try clear c13b1
 try clear c14
 try clear c14b0
 try clear c14b1
 try clear c15
 try clear c15b0
 try clear c15b1
 try clear c16
 try clear c16b0
 try clear c16b1
 try clear c17
 try clear c19
 try clear c19b0
 try clear c19b1
 try clear c20
 try clear c20b0
 try clear c20b1
 obtain ⟨kq, x25_17, rfl, HA, HJ17, ⟨mc17, rfl⟩⟩ := hcut
 cases kq with
 | zero => exact absurd HA.out (by simp [spec_cdShape.j2])
 | succ kj17 =>
 have H := HA.out
 clear HA
 simp only [spec_cdShape.j2] at H
 by_cases c21 : x25_17 = true
 · subst c21
   replace H := zih H
   simp only [Option.some.injEq, Prod.mk.injEq] at H
   obtain ⟨rfl, rfl, rfl, rfl, rfl⟩ := H
   go_wp2
   refine bodyPost_ret (results_list (rs := [.tmp 2, .tmp 3, .tmp 4, .tmp 5, .tmp 6]) rfl (by simp) (.tmp (.tmp (.tmp (.tmp (.tmp .nil)))))) rfl ?_
   exact ⟨zq5, zq6⟩
 replace c21 := zbf c21
 subst c21
 replace H := zif H
 have HC22 := zA H
 clear H
 go_upto_if 29 with (fail)
 go_cut [29] (fun v29 wc => ∃ (kq : Nat) (x29_21 : Bool), v29 = .bool x29_21 ∧ Aside0 (spec_cdShape.j3 kq a0 x29_21 = some (r1, r2, r3, r4, r5)) ∧ Aside0 (kq ≤ kj17) ∧ Drawn0 w wc)
 case first =>
   have H := HC22.out
   clear HC22
   by_cases c23 : a0.toList = ([115, 104, 108, 105] : List UInt8)
   rotate_left
   · rw [if_neg c23] at H
     obtain ⟨c23b0, c23b1⟩ := zbq c23
     (first | rw [c23b0] | (simp only [i64_w, i32_w]; rw [c23b0]) | skip)
     have H' := zA H
     clear H
     go_wp2
     go_meet
     case rel => exact ⟨_, ((a0.toList == ([115, 104, 114, 105] : List UInt8))), zq5, H', ⟨by have := HJ2.out; have := HJ6.out; have := HJ17.out; first | omega | exact zlr _⟩, zq6⟩
   rw [if_pos c23] at H
   obtain ⟨c23b0, c23b1⟩ := zbe c23
   clear c23
   (first | rw [c23b0] | (simp only [i64_w, i32_w]; rw [c23b0]) | skip)
   have H' := zA H
   clear H
   go_wp2
   go_meet
   case rel => exact ⟨_, ((a0.toList == ([115, 104, 108, 105] : List UInt8))), zq5, H', ⟨by have := HJ2.out; have := HJ6.out; have := HJ17.out; first | omega | exact zlr _⟩, zq6⟩
 clear HC22
 try clear c2
 try clear c2b0
 try clear c2b1
 try clear c4
 try clear c4b0
 try clear c4b1
 try clear c5
 try clear c5b0
 try clear c5b1
 try clear c6
 try clear c8
 try clear c8b0
 try clear c8b1
 try clear c9
 try clear c9b0
 try clear c9b1
 try clear c10
 try clear c10b0
 try clear c10b1
 try clear c11
 try clear c11b0
 try clear c11b1
 try clear c12
 try clear c12b0
 try clear c12b1
 try clear c13
 try clear c13b0
 try clear c13b1
 try clear c14
 try clear c14b0
 try clear c14b1
 try clear c15
 try clear c15b0
 try clear c15b1
 try clear c16
 try clear c16b0
 try clear c16b1
 try clear c17
 try clear c19
 try clear c19b0
 try clear c19b1
 try clear c20
 try clear c20b0
 try clear c20b1
 try clear c21
 try clear c23
 try clear c23b0
 try clear c23b1
 obtain ⟨kq, x29_21, rfl, HA, HJ21, ⟨mc21, rfl⟩⟩ := hcut
 cases kq with
 | zero => exact absurd HA.out (by simp [spec_cdShape.j3])
 | succ kj21 =>
 have H := HA.out
 clear HA
 simp only [spec_cdShape.j3] at H
 by_cases c24 : x29_21 = true
 · subst c24
   replace H := zih H
   simp only [Option.some.injEq, Prod.mk.injEq] at H
   obtain ⟨rfl, rfl, rfl, rfl, rfl⟩ := H
   go_wp2
   refine bodyPost_ret (results_list (rs := [.tmp 2, .tmp 3, .tmp 4, .tmp 5, .tmp 6]) rfl (by simp) (.tmp (.tmp (.tmp (.tmp (.tmp .nil)))))) rfl ?_
   exact ⟨zq5, zq6⟩
 replace c24 := zbf c24
 subst c24
 replace H := zif H
 by_cases c25 : a0.toList = ([108, 101, 97] : List UInt8)
 rotate_left
 · rw [if_neg c25] at H
   obtain ⟨c25b0, c25b1⟩ := zbq c25
   simp only [Option.some.injEq, Prod.mk.injEq] at H
   obtain ⟨rfl, rfl, rfl, rfl, rfl⟩ := H
   go_wp2
   refine bodyPost_ret (results_list (rs := [.tmp 2, .tmp 3, .tmp 4, .tmp 5, .tmp 6]) rfl (by simp) (.tmp (.tmp (.tmp (.tmp (.tmp .nil)))))) rfl ?_
   exact ⟨zq5, zq6⟩
 rw [if_pos c25] at H
 obtain ⟨c25b0, c25b1⟩ := zbe c25
 clear c25
 simp only [Option.some.injEq, Prod.mk.injEq] at H
 obtain ⟨rfl, rfl, rfl, rfl, rfl⟩ := H
 go_wp2
 refine bodyPost_ret (results_list (rs := [.tmp 2, .tmp 3, .tmp 4, .tmp 5, .tmp 6]) rfl (by simp) (.tmp (.tmp (.tmp (.tmp (.tmp .nil)))))) rfl ?_
 exact ⟨zq5, zq6⟩
end Go.Proofs.Ytkfkbmlbpeojaaa.Q
end
