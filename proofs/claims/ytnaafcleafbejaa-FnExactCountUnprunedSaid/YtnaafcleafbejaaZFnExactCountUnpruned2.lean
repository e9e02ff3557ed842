/- Proved here: contracts of functions that the law FnExactCountUnpruned reaches, and lemmas on what they compute; texts of this session and the printed words of the kit that they lean on, cut down and put together by its program link.py. Conditions: as each states. -/
import Derived.Deep.DeepMust
import Derived.Laws.EntriesVeiled
import Derived.Test.YtnaafcleafbejaaZFnExactCountUnpruned1
section
namespace Go.Proofs.Ytnaafcleafbejaa.Q
open Go.RowKit Go.Proofs.YtnaafcleafbejaaW.PrintWords Go.Proofs.YtnaafcleafbejaaW.PrintLast Go.Proofs.YtnaafcleafbejaaW.PrintMore
set_option maxHeartbeats 8000000
set_option maxRecDepth 100000
attribute [local go_sem] max2_int min2_int max_two min_two max_three min_three max_four min_four
set_option linter.unusedVariables false
set_option linter.unusedSimpArgs false
def impl_Instr_word.j0 : Nat → Int → Int → Bool → ByteArray → Int → Int → Int → Int → Option (Int)
  | 0, _, _, _, _, _, _, _, _ => none
  | k + 1, x1, x2, x24, x102000, x102001, x102002, x102003, x102004 => if x24 = true then (if 0 ≤ 3 then (if 3 ≤ (x102000.size : Int) then ((impl_apply.f (x102000.extract 0 3) x1 x102004).bind fun t104 => (some t104)) else (none)) else (none)) else ((impl_apply.f x102000 x1 x2).bind fun t105 => (some t105))
def impl_Instr_word.f (k : Nat) (a0_0 : ByteArray) (a0_1 : Int) (a0_2 : Int) (a0_3 : Int) (a0_4 : Int) (a1 : Int) (a2 : Int) : Option (Int) := if a0_0.toList = ([115, 101, 116] : List UInt8) then (some a0_4) else (if a0_0.toList = ([109, 111, 118] : List UInt8) then (some a1) else (if a0_0.toList = ([108, 101, 97] : List UInt8) then ((impl_apply.f (⟨#[115, 104, 108]⟩ : ByteArray) a2 a0_4).bind fun t102 => ((impl_apply.f (⟨#[97, 100, 100]⟩ : ByteArray) a1 t102).bind fun t103 => (some t103))) else (if a0_0.toList = ([97, 100, 100, 105] : List UInt8) then (impl_Instr_word.j0 k a1 a2 (a0_0.toList == ([97, 100, 100, 105] : List UInt8)) a0_0 a0_1 a0_2 a0_3 a0_4) else (if a0_0.toList = ([97, 110, 100, 105] : List UInt8) then (impl_Instr_word.j0 k a1 a2 (a0_0.toList == ([97, 110, 100, 105] : List UInt8)) a0_0 a0_1 a0_2 a0_3 a0_4) else (if a0_0.toList = ([120, 111, 114, 105] : List UInt8) then (impl_Instr_word.j0 k a1 a2 (a0_0.toList == ([120, 111, 114, 105] : List UInt8)) a0_0 a0_1 a0_2 a0_3 a0_4) else (if a0_0.toList = ([115, 104, 108, 105] : List UInt8) then (impl_Instr_word.j0 k a1 a2 (a0_0.toList == ([115, 104, 108, 105] : List UInt8)) a0_0 a0_1 a0_2 a0_3 a0_4) else (impl_Instr_word.j0 k a1 a2 (a0_0.toList == ([115, 104, 114, 105] : List UInt8)) a0_0 a0_1 a0_2 a0_3 a0_4)))))))
theorem impl_Instr_word.mono_l : ∀ k, (∀ y0 y1 y2 y3 y4 y5 y6 y7, LeO (impl_Instr_word.j0 k y0 y1 y2 y3 y4 y5 y6 y7) (impl_Instr_word.j0 (k + 1) y0 y1 y2 y3 y4 y5 y6 y7))
  | 0 => fun _ _ _ _ _ _ _ _ r h => by simp [impl_Instr_word.j0] at h
  | k + 1 => by
    have ih0 := impl_Instr_word.mono_l k
    · intro y0 y1 y2 y3 y4 y5 y6 y7
      unfold impl_Instr_word.j0
      repeat' first
      | (with_reducible exact ih0 _ _ _ _ _ _ _ _)
      | (with_reducible exact LeO.refl _)
      | (with_reducible exact LeO.none _)
      | (with_reducible refine LeO.ite ?_ ?_)
      | (with_reducible refine LeO.bind ?_ (fun _ => ?_))
      | exact ih0 _ _ _ _ _ _ _ _
      | exact LeO.none _
      | refine LeO.ite ?_ ?_
      | refine LeO.bind ?_ (fun _ => ?_)
theorem impl_Instr_word.mono : ∀ a0 a1 a2 a3 a4 a5 a6 k, LeO (impl_Instr_word.f k a0 a1 a2 a3 a4 a5 a6) (impl_Instr_word.f (k + 1) a0 a1 a2 a3 a4 a5 a6) := by
  intro a0 a1 a2 a3 a4 a5 a6 k
  have ih0 := impl_Instr_word.mono_l k
  unfold impl_Instr_word.f
  repeat' first
      | (with_reducible exact ih0 _ _ _ _ _ _ _ _)
      | (with_reducible exact LeO.refl _)
      | (with_reducible exact LeO.none _)
      | (with_reducible refine LeO.ite ?_ ?_)
      | (with_reducible refine LeO.bind ?_ (fun _ => ?_))
      | exact ih0 _ _ _ _ _ _ _ _
      | exact LeO.none _
      | refine LeO.ite ?_ ?_
      | refine LeO.bind ?_ (fun _ => ?_)
theorem impl_Instr_word.calls (k : Nat) (a0_0 : ByteArray) (a0_1 : Int) (a0_2 : Int) (a0_3 : Int) (a0_4 : Int) (a1 : Int) (a2 : Int) (r : Int) (w : World) (h : impl_Instr_word.f k a0_0 a0_1 a0_2 a0_3 a0_4 a1 a2 = some r) :
    Calls Try.prog 114 #[.agg #[.string a0_0, .int .i64 a0_1, .int .i64 a0_2, .int .i64 a0_3, .int .i64 a0_4], .int .i64 a1, .int .i64 a2] w fun e w' => e = .returned (.int .i64 r) ∧ Below w.heap.size w w' := by
  have hu64 := Try.underlying64
  have HB := Aside0.mk (Below.refl w.heap.size w)
  have H : (if a0_0.toList = ([115, 101, 116] : List UInt8) then (some a0_4) else (if a0_0.toList = ([109, 111, 118] : List UInt8) then (some a1) else (if a0_0.toList = ([108, 101, 97] : List UInt8) then ((impl_apply.f (⟨#[115, 104, 108]⟩ : ByteArray) a2 a0_4).bind fun t102 => ((impl_apply.f (⟨#[97, 100, 100]⟩ : ByteArray) a1 t102).bind fun t103 => (some t103))) else (if a0_0.toList = ([97, 100, 100, 105] : List UInt8) then (impl_Instr_word.j0 k a1 a2 (a0_0.toList == ([97, 100, 100, 105] : List UInt8)) a0_0 a0_1 a0_2 a0_3 a0_4) else (if a0_0.toList = ([97, 110, 100, 105] : List UInt8) then (impl_Instr_word.j0 k a1 a2 (a0_0.toList == ([97, 110, 100, 105] : List UInt8)) a0_0 a0_1 a0_2 a0_3 a0_4) else (if a0_0.toList = ([120, 111, 114, 105] : List UInt8) then (impl_Instr_word.j0 k a1 a2 (a0_0.toList == ([120, 111, 114, 105] : List UInt8)) a0_0 a0_1 a0_2 a0_3 a0_4) else (if a0_0.toList = ([115, 104, 108, 105] : List UInt8) then (impl_Instr_word.j0 k a1 a2 (a0_0.toList == ([115, 104, 108, 105] : List UInt8)) a0_0 a0_1 a0_2 a0_3 a0_4) else (impl_Instr_word.j0 k a1 a2 (a0_0.toList == ([115, 104, 114, 105] : List UInt8)) a0_0 a0_1 a0_2 a0_3 a0_4)))))))) = some r := h
  clear h
  by_cases c4 : a0_0.toList = ([115, 101, 116] : List UInt8)
  · rw [if_pos c4] at H
    obtain ⟨c4b0, c4b1⟩ := zbe c4
    clear c4
    obtain rfl := Option.some.inj H
    go_enter Try.func114, Try.ntmps114
    go_wp2_with (first | ((with_reducible refine zgd 3 ?_); refine box_event ?hg (N := 3) ?hd (cs := #[.string a0_0, .int .i64 a0_1, .int .i64 a0_2, .int .i64 a0_3, .int .i64 a0_4]) (t := 64) ?hr ?_; (case hd => rfl); (case hg => rfl); (case hr => first | (go_simp; done) | (go_simp; rfl)); intro gb101 hg w5 hbox hb; have BK101 := Aside0.mk (hbox); have GW101 := Aside0.mk ((zq11 : w.heap.size ≤ gb101)); have GE101 := Aside0.mk ((zq11 : w.heap.size ≤ gb101)); replace HB := Aside0.mk (below_step zq1 hb); clear hb hbox hg; have hcz6_0 : w5.cell? ⟨gb101, 0, none⟩ = some (.string a0_0) := (blk_cell BK101.out 0).trans rfl; have hcz6_1 : w5.cell? ⟨gb101, 1, none⟩ = some (.int .i64 a0_1) := (blk_cell BK101.out 1).trans rfl; have hcz6_2 : w5.cell? ⟨gb101, 2, none⟩ = some (.int .i64 a0_2) := (blk_cell BK101.out 2).trans rfl; have hcz6_3 : w5.cell? ⟨gb101, 3, none⟩ = some (.int .i64 a0_3) := (blk_cell BK101.out 3).trans rfl; have hcz6_4 : w5.cell? ⟨gb101, 4, none⟩ = some (.int .i64 a0_4) := (blk_cell BK101.out 4).trans rfl; have hfz6_0 := blk_frozen BK101.out 0; have hfz6_1 := blk_frozen BK101.out 1; have hfz6_2 := blk_frozen BK101.out 2; have hfz6_3 := blk_frozen BK101.out 3; have hfz6_4 := blk_frozen BK101.out 4))
    repeat (go_quiet (first | ((with_reducible refine gate_dst (N := 3) rfl ?_); refine box_event ?hg (N := 3) ?hd (cs := #[.string a0_0, .int .i64 a0_1, .int .i64 a0_2, .int .i64 a0_3, .int .i64 a0_4]) (t := 64) ?hr ?_; (case hd => rfl); (case hg => rfl); (case hr => first | (go_simp; done) | (go_simp; rfl)); intro gb101 hg w5 hbox hb; have n0_ := Aside0.mk (below_step zq1 hb); have n1_ := Aside0.mk (hbox); have n2_ := Aside0.mk ((zq11 : w.heap.size ≤ gb101)); have n3_ := Aside0.mk ((zq11 : w.heap.size ≤ gb101)); clear HB; have HB := n0_; have BK101 := n1_; have GW101 := n2_; have GE101 := n3_; clear n0_ n1_ n2_ n3_; clear hb hbox hg; have hcz6_0 : w5.cell? ⟨gb101, 0, none⟩ = some (.string a0_0) := (blk_cell BK101.out 0).trans rfl; have hcz6_1 : w5.cell? ⟨gb101, 1, none⟩ = some (.int .i64 a0_1) := (blk_cell BK101.out 1).trans rfl; have hcz6_2 : w5.cell? ⟨gb101, 2, none⟩ = some (.int .i64 a0_2) := (blk_cell BK101.out 2).trans rfl; have hcz6_3 : w5.cell? ⟨gb101, 3, none⟩ = some (.int .i64 a0_3) := (blk_cell BK101.out 3).trans rfl; have hcz6_4 : w5.cell? ⟨gb101, 4, none⟩ = some (.int .i64 a0_4) := (blk_cell BK101.out 4).trans rfl; have hfz6_0 := blk_frozen BK101.out 0; have hfz6_1 := blk_frozen BK101.out 1; have hfz6_2 := blk_frozen BK101.out 2; have hfz6_3 := blk_frozen BK101.out 3; have hfz6_4 := blk_frozen BK101.out 4)); try go_wp2_with (first | ((with_reducible refine gate_dst (N := 3) rfl ?_); refine box_event ?hg (N := 3) ?hd (cs := #[.string a0_0, .int .i64 a0_1, .int .i64 a0_2, .int .i64 a0_3, .int .i64 a0_4]) (t := 64) ?hr ?_; (case hd => rfl); (case hg => rfl); (case hr => first | (go_simp; done) | (go_simp; rfl)); intro gb101 hg w5 hbox hb; have n0_ := Aside0.mk (below_step zq1 hb); have n1_ := Aside0.mk (hbox); have n2_ := Aside0.mk ((zq11 : w.heap.size ≤ gb101)); have n3_ := Aside0.mk ((zq11 : w.heap.size ≤ gb101)); clear HB; have HB := n0_; have BK101 := n1_; have GW101 := n2_; have GE101 := n3_; clear n0_ n1_ n2_ n3_; clear hb hbox hg; have hcz6_0 : w5.cell? ⟨gb101, 0, none⟩ = some (.string a0_0) := (blk_cell BK101.out 0).trans rfl; have hcz6_1 : w5.cell? ⟨gb101, 1, none⟩ = some (.int .i64 a0_1) := (blk_cell BK101.out 1).trans rfl; have hcz6_2 : w5.cell? ⟨gb101, 2, none⟩ = some (.int .i64 a0_2) := (blk_cell BK101.out 2).trans rfl; have hcz6_3 : w5.cell? ⟨gb101, 3, none⟩ = some (.int .i64 a0_3) := (blk_cell BK101.out 3).trans rfl; have hcz6_4 : w5.cell? ⟨gb101, 4, none⟩ = some (.int .i64 a0_4) := (blk_cell BK101.out 4).trans rfl; have hfz6_0 := blk_frozen BK101.out 0; have hfz6_1 := blk_frozen BK101.out 1; have hfz6_2 := blk_frozen BK101.out 2; have hfz6_3 := blk_frozen BK101.out 3; have hfz6_4 := blk_frozen BK101.out 4)))
    go_ret
    exact ⟨zq8, zq2 GE101⟩
  rw [if_neg c4] at H
  obtain ⟨c4b0, c4b1⟩ := zbq c4
  by_cases c7 : a0_0.toList = ([109, 111, 118] : List UInt8)
  · rw [if_pos c7] at H
    obtain ⟨c7b0, c7b1⟩ := zbe c7
    clear c7
    obtain rfl := Option.some.inj H
    go_enter Try.func114, Try.ntmps114
    go_wp2_with (first | ((with_reducible refine zgd 3 ?_); refine box_event ?hg (N := 3) ?hd (cs := #[.string a0_0, .int .i64 a0_1, .int .i64 a0_2, .int .i64 a0_3, .int .i64 a0_4]) (t := 64) ?hr ?_; (case hd => rfl); (case hg => rfl); (case hr => first | (go_simp; done) | (go_simp; rfl)); intro gb101 hg w8 hbox hb; have BK101 := Aside0.mk (hbox); have GW101 := Aside0.mk ((zq11 : w.heap.size ≤ gb101)); have GE101 := Aside0.mk ((zq11 : w.heap.size ≤ gb101)); replace HB := Aside0.mk (below_step zq1 hb); clear hb hbox hg; have hcz9_0 : w8.cell? ⟨gb101, 0, none⟩ = some (.string a0_0) := (blk_cell BK101.out 0).trans rfl; have hcz9_1 : w8.cell? ⟨gb101, 1, none⟩ = some (.int .i64 a0_1) := (blk_cell BK101.out 1).trans rfl; have hcz9_2 : w8.cell? ⟨gb101, 2, none⟩ = some (.int .i64 a0_2) := (blk_cell BK101.out 2).trans rfl; have hcz9_3 : w8.cell? ⟨gb101, 3, none⟩ = some (.int .i64 a0_3) := (blk_cell BK101.out 3).trans rfl; have hcz9_4 : w8.cell? ⟨gb101, 4, none⟩ = some (.int .i64 a0_4) := (blk_cell BK101.out 4).trans rfl; have hfz9_0 := blk_frozen BK101.out 0; have hfz9_1 := blk_frozen BK101.out 1; have hfz9_2 := blk_frozen BK101.out 2; have hfz9_3 := blk_frozen BK101.out 3; have hfz9_4 := blk_frozen BK101.out 4))
    repeat (go_quiet (first | ((with_reducible refine gate_dst (N := 3) rfl ?_); refine box_event ?hg (N := 3) ?hd (cs := #[.string a0_0, .int .i64 a0_1, .int .i64 a0_2, .int .i64 a0_3, .int .i64 a0_4]) (t := 64) ?hr ?_; (case hd => rfl); (case hg => rfl); (case hr => first | (go_simp; done) | (go_simp; rfl)); intro gb101 hg w8 hbox hb; have n0_ := Aside0.mk (below_step zq1 hb); have n1_ := Aside0.mk (hbox); have n2_ := Aside0.mk ((zq11 : w.heap.size ≤ gb101)); have n3_ := Aside0.mk ((zq11 : w.heap.size ≤ gb101)); clear HB; have HB := n0_; have BK101 := n1_; have GW101 := n2_; have GE101 := n3_; clear n0_ n1_ n2_ n3_; clear hb hbox hg; have hcz9_0 : w8.cell? ⟨gb101, 0, none⟩ = some (.string a0_0) := (blk_cell BK101.out 0).trans rfl; have hcz9_1 : w8.cell? ⟨gb101, 1, none⟩ = some (.int .i64 a0_1) := (blk_cell BK101.out 1).trans rfl; have hcz9_2 : w8.cell? ⟨gb101, 2, none⟩ = some (.int .i64 a0_2) := (blk_cell BK101.out 2).trans rfl; have hcz9_3 : w8.cell? ⟨gb101, 3, none⟩ = some (.int .i64 a0_3) := (blk_cell BK101.out 3).trans rfl; have hcz9_4 : w8.cell? ⟨gb101, 4, none⟩ = some (.int .i64 a0_4) := (blk_cell BK101.out 4).trans rfl; have hfz9_0 := blk_frozen BK101.out 0; have hfz9_1 := blk_frozen BK101.out 1; have hfz9_2 := blk_frozen BK101.out 2; have hfz9_3 := blk_frozen BK101.out 3; have hfz9_4 := blk_frozen BK101.out 4)); try go_wp2_with (first | ((with_reducible refine gate_dst (N := 3) rfl ?_); refine box_event ?hg (N := 3) ?hd (cs := #[.string a0_0, .int .i64 a0_1, .int .i64 a0_2, .int .i64 a0_3, .int .i64 a0_4]) (t := 64) ?hr ?_; (case hd => rfl); (case hg => rfl); (case hr => first | (go_simp; done) | (go_simp; rfl)); intro gb101 hg w8 hbox hb; have n0_ := Aside0.mk (below_step zq1 hb); have n1_ := Aside0.mk (hbox); have n2_ := Aside0.mk ((zq11 : w.heap.size ≤ gb101)); have n3_ := Aside0.mk ((zq11 : w.heap.size ≤ gb101)); clear HB; have HB := n0_; have BK101 := n1_; have GW101 := n2_; have GE101 := n3_; clear n0_ n1_ n2_ n3_; clear hb hbox hg; have hcz9_0 : w8.cell? ⟨gb101, 0, none⟩ = some (.string a0_0) := (blk_cell BK101.out 0).trans rfl; have hcz9_1 : w8.cell? ⟨gb101, 1, none⟩ = some (.int .i64 a0_1) := (blk_cell BK101.out 1).trans rfl; have hcz9_2 : w8.cell? ⟨gb101, 2, none⟩ = some (.int .i64 a0_2) := (blk_cell BK101.out 2).trans rfl; have hcz9_3 : w8.cell? ⟨gb101, 3, none⟩ = some (.int .i64 a0_3) := (blk_cell BK101.out 3).trans rfl; have hcz9_4 : w8.cell? ⟨gb101, 4, none⟩ = some (.int .i64 a0_4) := (blk_cell BK101.out 4).trans rfl; have hfz9_0 := blk_frozen BK101.out 0; have hfz9_1 := blk_frozen BK101.out 1; have hfz9_2 := blk_frozen BK101.out 2; have hfz9_3 := blk_frozen BK101.out 3; have hfz9_4 := blk_frozen BK101.out 4)))
    go_ret
    exact ⟨zq8, zq2 GE101⟩
  rw [if_neg c7] at H
  obtain ⟨c7b0, c7b1⟩ := zbq c7
  by_cases c10 : a0_0.toList = ([108, 101, 97] : List UInt8)
  · rw [if_pos c10] at H
    obtain ⟨c10b0, c10b1⟩ := zbe c10
    clear c10
    replace H := Option.bind_eq_some_iff.mp H
    obtain ⟨t102, A110, H⟩ := H
    replace H : ((impl_apply.f (⟨#[97, 100, 100]⟩ : ByteArray) a1 t102).bind fun t103 => (some t103)) = some r := H
    have A11 := Aside0.mk A110
    clear A110
    replace H := Option.bind_eq_some_iff.mp H
    obtain ⟨t103, A120, H⟩ := H
    replace H : (some t103) = some r := H
    have A12 := Aside0.mk A120
    clear A120
    obtain rfl := Option.some.inj H
    go_enter Try.func114, Try.ntmps114
    go_wp2_with (first | ((with_reducible refine zgd 3 ?_); refine box_event ?hg (N := 3) ?hd (cs := #[.string a0_0, .int .i64 a0_1, .int .i64 a0_2, .int .i64 a0_3, .int .i64 a0_4]) (t := 64) ?hr ?_; (case hd => rfl); (case hg => rfl); (case hr => first | (go_simp; done) | (go_simp; rfl)); intro gb101 hg w13 hbox hb; have BK101 := Aside0.mk (hbox); have GW101 := Aside0.mk ((zq11 : w.heap.size ≤ gb101)); have GE101 := Aside0.mk ((zq11 : w.heap.size ≤ gb101)); replace HB := Aside0.mk (below_step zq1 hb); clear hb hbox hg; have hcz14_0 : w13.cell? ⟨gb101, 0, none⟩ = some (.string a0_0) := (blk_cell BK101.out 0).trans rfl; have hcz14_1 : w13.cell? ⟨gb101, 1, none⟩ = some (.int .i64 a0_1) := (blk_cell BK101.out 1).trans rfl; have hcz14_2 : w13.cell? ⟨gb101, 2, none⟩ = some (.int .i64 a0_2) := (blk_cell BK101.out 2).trans rfl; have hcz14_3 : w13.cell? ⟨gb101, 3, none⟩ = some (.int .i64 a0_3) := (blk_cell BK101.out 3).trans rfl; have hcz14_4 : w13.cell? ⟨gb101, 4, none⟩ = some (.int .i64 a0_4) := (blk_cell BK101.out 4).trans rfl; have hfz14_0 := blk_frozen BK101.out 0; have hfz14_1 := blk_frozen BK101.out 1; have hfz14_2 := blk_frozen BK101.out 2; have hfz14_3 := blk_frozen BK101.out 3; have hfz14_4 := blk_frozen BK101.out 4) | (go_at_call 119; (with_reducible refine (impl_apply.calls (⟨#[115, 104, 108]⟩ : ByteArray) a2 a0_4 t102 _ A11.out).mono ?_); rintro e w' ⟨rfl, ⟨nd, rfl⟩⟩; (try first | exact ⟨rfl, _, World.drewN_drewN _ _ _⟩ | exact ⟨rfl, _, Eq.trans (World.drewN_drewN _ _ _) (congrArg (World.drewN _) (Nat.add_assoc _ _ _))⟩)) | (go_at_call 119; (with_reducible refine (impl_apply.calls (⟨#[97, 100, 100]⟩ : ByteArray) a1 t102 t103 _ A12.out).mono ?_); rintro e w' ⟨rfl, ⟨nd, rfl⟩⟩; (try first | exact ⟨rfl, _, World.drewN_drewN _ _ _⟩ | exact ⟨rfl, _, Eq.trans (World.drewN_drewN _ _ _) (congrArg (World.drewN _) (Nat.add_assoc _ _ _))⟩)))
    repeat (go_quiet (first | ((with_reducible refine gate_dst (N := 3) rfl ?_); refine box_event ?hg (N := 3) ?hd (cs := #[.string a0_0, .int .i64 a0_1, .int .i64 a0_2, .int .i64 a0_3, .int .i64 a0_4]) (t := 64) ?hr ?_; (case hd => rfl); (case hg => rfl); (case hr => first | (go_simp; done) | (go_simp; rfl)); intro gb101 hg w13 hbox hb; have n0_ := Aside0.mk (below_step zq1 hb); have n1_ := Aside0.mk (hbox); have n2_ := Aside0.mk ((zq11 : w.heap.size ≤ gb101)); have n3_ := Aside0.mk ((zq11 : w.heap.size ≤ gb101)); clear HB; have HB := n0_; have BK101 := n1_; have GW101 := n2_; have GE101 := n3_; clear n0_ n1_ n2_ n3_; clear hb hbox hg; have hcz14_0 : w13.cell? ⟨gb101, 0, none⟩ = some (.string a0_0) := (blk_cell BK101.out 0).trans rfl; have hcz14_1 : w13.cell? ⟨gb101, 1, none⟩ = some (.int .i64 a0_1) := (blk_cell BK101.out 1).trans rfl; have hcz14_2 : w13.cell? ⟨gb101, 2, none⟩ = some (.int .i64 a0_2) := (blk_cell BK101.out 2).trans rfl; have hcz14_3 : w13.cell? ⟨gb101, 3, none⟩ = some (.int .i64 a0_3) := (blk_cell BK101.out 3).trans rfl; have hcz14_4 : w13.cell? ⟨gb101, 4, none⟩ = some (.int .i64 a0_4) := (blk_cell BK101.out 4).trans rfl; have hfz14_0 := blk_frozen BK101.out 0; have hfz14_1 := blk_frozen BK101.out 1; have hfz14_2 := blk_frozen BK101.out 2; have hfz14_3 := blk_frozen BK101.out 3; have hfz14_4 := blk_frozen BK101.out 4) | (go_at_call 119; (with_reducible refine (impl_apply.calls (⟨#[115, 104, 108]⟩ : ByteArray) a2 a0_4 t102 _ A11.out).mono ?_); rintro e w' ⟨rfl, ⟨nd, rfl⟩⟩; (try first | exact ⟨rfl, _, World.drewN_drewN _ _ _⟩ | exact ⟨rfl, _, Eq.trans (World.drewN_drewN _ _ _) (congrArg (World.drewN _) (Nat.add_assoc _ _ _))⟩)) | (go_at_call 119; (with_reducible refine (impl_apply.calls (⟨#[97, 100, 100]⟩ : ByteArray) a1 t102 t103 _ A12.out).mono ?_); rintro e w' ⟨rfl, ⟨nd, rfl⟩⟩; (try first | exact ⟨rfl, _, World.drewN_drewN _ _ _⟩ | exact ⟨rfl, _, Eq.trans (World.drewN_drewN _ _ _) (congrArg (World.drewN _) (Nat.add_assoc _ _ _))⟩))); try go_wp2_with (first | ((with_reducible refine gate_dst (N := 3) rfl ?_); refine box_event ?hg (N := 3) ?hd (cs := #[.string a0_0, .int .i64 a0_1, .int .i64 a0_2, .int .i64 a0_3, .int .i64 a0_4]) (t := 64) ?hr ?_; (case hd => rfl); (case hg => rfl); (case hr => first | (go_simp; done) | (go_simp; rfl)); intro gb101 hg w13 hbox hb; have n0_ := Aside0.mk (below_step zq1 hb); have n1_ := Aside0.mk (hbox); have n2_ := Aside0.mk ((zq11 : w.heap.size ≤ gb101)); have n3_ := Aside0.mk ((zq11 : w.heap.size ≤ gb101)); clear HB; have HB := n0_; have BK101 := n1_; have GW101 := n2_; have GE101 := n3_; clear n0_ n1_ n2_ n3_; clear hb hbox hg; have hcz14_0 : w13.cell? ⟨gb101, 0, none⟩ = some (.string a0_0) := (blk_cell BK101.out 0).trans rfl; have hcz14_1 : w13.cell? ⟨gb101, 1, none⟩ = some (.int .i64 a0_1) := (blk_cell BK101.out 1).trans rfl; have hcz14_2 : w13.cell? ⟨gb101, 2, none⟩ = some (.int .i64 a0_2) := (blk_cell BK101.out 2).trans rfl; have hcz14_3 : w13.cell? ⟨gb101, 3, none⟩ = some (.int .i64 a0_3) := (blk_cell BK101.out 3).trans rfl; have hcz14_4 : w13.cell? ⟨gb101, 4, none⟩ = some (.int .i64 a0_4) := (blk_cell BK101.out 4).trans rfl; have hfz14_0 := blk_frozen BK101.out 0; have hfz14_1 := blk_frozen BK101.out 1; have hfz14_2 := blk_frozen BK101.out 2; have hfz14_3 := blk_frozen BK101.out 3; have hfz14_4 := blk_frozen BK101.out 4) | (go_at_call 119; (with_reducible refine (impl_apply.calls (⟨#[115, 104, 108]⟩ : ByteArray) a2 a0_4 t102 _ A11.out).mono ?_); rintro e w' ⟨rfl, ⟨nd, rfl⟩⟩; (try first | exact ⟨rfl, _, World.drewN_drewN _ _ _⟩ | exact ⟨rfl, _, Eq.trans (World.drewN_drewN _ _ _) (congrArg (World.drewN _) (Nat.add_assoc _ _ _))⟩)) | (go_at_call 119; (with_reducible refine (impl_apply.calls (⟨#[97, 100, 100]⟩ : ByteArray) a1 t102 t103 _ A12.out).mono ?_); rintro e w' ⟨rfl, ⟨nd, rfl⟩⟩; (try first | exact ⟨rfl, _, World.drewN_drewN _ _ _⟩ | exact ⟨rfl, _, Eq.trans (World.drewN_drewN _ _ _) (congrArg (World.drewN _) (Nat.add_assoc _ _ _))⟩))))
    go_ret
    exact ⟨zq8, zq2 GE101⟩
  rw [if_neg c10] at H
  obtain ⟨c10b0, c10b1⟩ := zbq c10
  have HC15 := Aside0.mk H
  clear H
  go_enter Try.func114, Try.ntmps114
  go_upto_if 24 with (first | ((with_reducible refine zgd 3 ?_); refine box_event ?hg (N := 3) ?hd (cs := #[.string a0_0, .int .i64 a0_1, .int .i64 a0_2, .int .i64 a0_3, .int .i64 a0_4]) (t := 64) ?hr ?_; (case hd => rfl); (case hg => rfl); (case hr => first | (go_simp; done) | (go_simp; rfl)); intro gb101 hg w16 hbox hb; have BK101 := Aside0.mk (hbox); have GW101 := Aside0.mk ((zq11 : w.heap.size ≤ gb101)); have GE101 := Aside0.mk ((zq11 : w.heap.size ≤ gb101)); replace HB := Aside0.mk (below_step zq1 hb); clear hb hbox hg; have hcz17_0 : w16.cell? ⟨gb101, 0, none⟩ = some (.string a0_0) := (blk_cell BK101.out 0).trans rfl; have hcz17_1 : w16.cell? ⟨gb101, 1, none⟩ = some (.int .i64 a0_1) := (blk_cell BK101.out 1).trans rfl; have hcz17_2 : w16.cell? ⟨gb101, 2, none⟩ = some (.int .i64 a0_2) := (blk_cell BK101.out 2).trans rfl; have hcz17_3 : w16.cell? ⟨gb101, 3, none⟩ = some (.int .i64 a0_3) := (blk_cell BK101.out 3).trans rfl; have hcz17_4 : w16.cell? ⟨gb101, 4, none⟩ = some (.int .i64 a0_4) := (blk_cell BK101.out 4).trans rfl; have hfz17_0 := blk_frozen BK101.out 0; have hfz17_1 := blk_frozen BK101.out 1; have hfz17_2 := blk_frozen BK101.out 2; have hfz17_3 := blk_frozen BK101.out 3; have hfz17_4 := blk_frozen BK101.out 4))
  repeat (go_quiet (first | ((with_reducible refine gate_dst (N := 3) rfl ?_); refine box_event ?hg (N := 3) ?hd (cs := #[.string a0_0, .int .i64 a0_1, .int .i64 a0_2, .int .i64 a0_3, .int .i64 a0_4]) (t := 64) ?hr ?_; (case hd => rfl); (case hg => rfl); (case hr => first | (go_simp; done) | (go_simp; rfl)); intro gb101 hg w16 hbox hb; have n0_ := Aside0.mk (below_step zq1 hb); have n1_ := Aside0.mk (hbox); have n2_ := Aside0.mk ((zq11 : w.heap.size ≤ gb101)); have n3_ := Aside0.mk ((zq11 : w.heap.size ≤ gb101)); clear HB; have HB := n0_; have BK101 := n1_; have GW101 := n2_; have GE101 := n3_; clear n0_ n1_ n2_ n3_; clear hb hbox hg; have hcz17_0 : w16.cell? ⟨gb101, 0, none⟩ = some (.string a0_0) := (blk_cell BK101.out 0).trans rfl; have hcz17_1 : w16.cell? ⟨gb101, 1, none⟩ = some (.int .i64 a0_1) := (blk_cell BK101.out 1).trans rfl; have hcz17_2 : w16.cell? ⟨gb101, 2, none⟩ = some (.int .i64 a0_2) := (blk_cell BK101.out 2).trans rfl; have hcz17_3 : w16.cell? ⟨gb101, 3, none⟩ = some (.int .i64 a0_3) := (blk_cell BK101.out 3).trans rfl; have hcz17_4 : w16.cell? ⟨gb101, 4, none⟩ = some (.int .i64 a0_4) := (blk_cell BK101.out 4).trans rfl; have hfz17_0 := blk_frozen BK101.out 0; have hfz17_1 := blk_frozen BK101.out 1; have hfz17_2 := blk_frozen BK101.out 2; have hfz17_3 := blk_frozen BK101.out 3; have hfz17_4 := blk_frozen BK101.out 4)); go_upto_if 24 with (first | ((with_reducible refine gate_dst (N := 3) rfl ?_); refine box_event ?hg (N := 3) ?hd (cs := #[.string a0_0, .int .i64 a0_1, .int .i64 a0_2, .int .i64 a0_3, .int .i64 a0_4]) (t := 64) ?hr ?_; (case hd => rfl); (case hg => rfl); (case hr => first | (go_simp; done) | (go_simp; rfl)); intro gb101 hg w16 hbox hb; have n0_ := Aside0.mk (below_step zq1 hb); have n1_ := Aside0.mk (hbox); have n2_ := Aside0.mk ((zq11 : w.heap.size ≤ gb101)); have n3_ := Aside0.mk ((zq11 : w.heap.size ≤ gb101)); clear HB; have HB := n0_; have BK101 := n1_; have GW101 := n2_; have GE101 := n3_; clear n0_ n1_ n2_ n3_; clear hb hbox hg; have hcz17_0 : w16.cell? ⟨gb101, 0, none⟩ = some (.string a0_0) := (blk_cell BK101.out 0).trans rfl; have hcz17_1 : w16.cell? ⟨gb101, 1, none⟩ = some (.int .i64 a0_1) := (blk_cell BK101.out 1).trans rfl; have hcz17_2 : w16.cell? ⟨gb101, 2, none⟩ = some (.int .i64 a0_2) := (blk_cell BK101.out 2).trans rfl; have hcz17_3 : w16.cell? ⟨gb101, 3, none⟩ = some (.int .i64 a0_3) := (blk_cell BK101.out 3).trans rfl; have hcz17_4 : w16.cell? ⟨gb101, 4, none⟩ = some (.int .i64 a0_4) := (blk_cell BK101.out 4).trans rfl; have hfz17_0 := blk_frozen BK101.out 0; have hfz17_1 := blk_frozen BK101.out 1; have hfz17_2 := blk_frozen BK101.out 2; have hfz17_3 := blk_frozen BK101.out 3; have hfz17_4 := blk_frozen BK101.out 4)))
  (try simp only [Act.put, List.setIfInBounds_toArray, List.set_cons_zero, List.set_cons_succ])
  go_cut [24] (fun v24 wc => ∃ (kq : Nat) (x24_14 : Bool), v24 = .bool x24_14 ∧ Aside0 (impl_Instr_word.j0 kq a1 a2 x24_14 a0_0 a0_1 a0_2 a0_3 a0_4 = some r) ∧ Aside0 (kq ≤ k) ∧ Aside0 (wc.heap[gb101]? = some (.cells #[.string a0_0, .int .i64 a0_1, .int .i64 a0_2, .int .i64 a0_3, .int .i64 a0_4] 64 (0, 0))) ∧ Aside0 (Below w.heap.size w wc))
  case first =>
    have H := HC15.out
    clear HC15
    by_cases c18 : a0_0.toList = ([97, 100, 100, 105] : List UInt8)
    · rw [if_pos c18] at H
      obtain ⟨c18b0, c18b1⟩ := zbe c18
      clear c18
      (first | rw [c18b0] | (simp only [i64_w, i32_w]; rw [c18b0]) | skip)
      have H' := Aside0.mk H
      clear H
      go_wp2
      repeat (go_quiet (fail); try go_wp2)
      go_meet
      case rel => exact ⟨_, ((a0_0.toList == ([97, 100, 100, 105] : List UInt8))), zq7, H', ⟨zq22⟩, ⟨zq3 BK101⟩, ⟨zq2 GE101⟩⟩
    rw [if_neg c18] at H
    obtain ⟨c18b0, c18b1⟩ := zbq c18
    (first | rw [c18b0] | (simp only [i64_w, i32_w]; rw [c18b0]) | skip)
    by_cases c19 : a0_0.toList = ([97, 110, 100, 105] : List UInt8)
    · rw [if_pos c19] at H
      obtain ⟨c19b0, c19b1⟩ := zbe c19
      clear c19
      have H' := Aside0.mk H
      clear H
      go_wp2
      repeat (go_quiet (fail); try go_wp2)
      go_meet
      case rel => exact ⟨_, ((a0_0.toList == ([97, 110, 100, 105] : List UInt8))), zq7, H', ⟨zq22⟩, ⟨zq3 BK101⟩, ⟨zq2 GE101⟩⟩
    rw [if_neg c19] at H
    obtain ⟨c19b0, c19b1⟩ := zbq c19
    by_cases c20 : a0_0.toList = ([120, 111, 114, 105] : List UInt8)
    · rw [if_pos c20] at H
      obtain ⟨c20b0, c20b1⟩ := zbe c20
      clear c20
      have H' := Aside0.mk H
      clear H
      go_wp2
      repeat (go_quiet (fail); try go_wp2)
      go_meet
      case rel => exact ⟨_, ((a0_0.toList == ([120, 111, 114, 105] : List UInt8))), zq7, H', ⟨zq22⟩, ⟨zq3 BK101⟩, ⟨zq2 GE101⟩⟩
    rw [if_neg c20] at H
    obtain ⟨c20b0, c20b1⟩ := zbq c20
    by_cases c21 : a0_0.toList = ([115, 104, 108, 105] : List UInt8)
    rotate_left
    · rw [if_neg c21] at H
      obtain ⟨c21b0, c21b1⟩ := zbq c21
      have H' := Aside0.mk H
      clear H
      go_wp2
      repeat (go_quiet (fail); try go_wp2)
      go_meet
      case rel => exact ⟨_, ((a0_0.toList == ([115, 104, 114, 105] : List UInt8))), zq7, H', ⟨zq22⟩, ⟨zq3 BK101⟩, ⟨zq2 GE101⟩⟩
    rw [if_pos c21] at H
    obtain ⟨c21b0, c21b1⟩ := zbe c21
    clear c21
    have H' := Aside0.mk H
    clear H
    go_wp2
    repeat (go_quiet (fail); try go_wp2)
    go_meet
    case rel => exact ⟨_, ((a0_0.toList == ([115, 104, 108, 105] : List UInt8))), zq7, H', ⟨zq22⟩, ⟨zq3 BK101⟩, ⟨zq2 GE101⟩⟩
  clear HC15
  try clear c4
  try clear c4b0
  try clear c4b1
  try clear c7
  try clear c7b0
  try clear c7b1
  try clear c10
  try clear c10b0
  try clear c10b1
  try clear c18
  try clear c18b0
  try clear c18b1
  try clear c19
  try clear c19b0
  try clear c19b1
  try clear c20
  try clear c20b0
  try clear c20b1
  try clear c21
  try clear c21b0
  try clear c21b1
  try clear hcz14_0
  try clear hcz14_1
  try clear hcz14_2
  try clear hcz14_3
  try clear hcz14_4
  try clear hcz17_0
  try clear hcz17_1
  try clear hcz17_2
  try clear hcz17_3
  try clear hcz17_4
  try clear hcz6_0
  try clear hcz6_1
  try clear hcz6_2
  try clear hcz6_3
  try clear hcz6_4
  try clear hcz9_0
  try clear hcz9_1
  try clear hcz9_2
  try clear hcz9_3
  try clear hcz9_4
  try clear hfz14_0
  try clear hfz14_1
  try clear hfz14_2
  try clear hfz14_3
  try clear hfz14_4
  try clear hfz17_0
  try clear hfz17_1
  try clear hfz17_2
  try clear hfz17_3
  try clear hfz17_4
  try clear hfz6_0
  try clear hfz6_1
  try clear hfz6_2
  try clear hfz6_3
  try clear hfz6_4
  try clear hfz9_0
  try clear hfz9_1
  try clear hfz9_2
  try clear hfz9_3
  try clear hfz9_4
  obtain ⟨kq, x24_14, rfl, HA, HJ14, BK101, HB⟩ := hcut
  cases kq with
  | zero => exact absurd HA.out (by simp [impl_Instr_word.j0])
  | succ kj14 =>
  have H := HA.out
  clear HA
  simp only [impl_Instr_word.j0] at H
  by_cases c22 : x24_14 = true
  rotate_left
  · replace c22 := Bool.eq_false_iff.mpr c22
    subst c22
    have H1 : ((impl_apply.f a0_0 a1 a2).bind fun t105 => (some t105)) = some r := by rw [if_neg (show ¬ (false = true) by decide)] at H; exact H
    clear H
    have H := H1
    clear H1
    replace H := Option.bind_eq_some_iff.mp H
    obtain ⟨t105, A270, H⟩ := H
    replace H : (some t105) = some r := H
    have A27 := Aside0.mk A270
    clear A270
    obtain rfl := Option.some.inj H
    have hcz28_0 : wc.cell? ⟨gb101, 0, none⟩ = some (.string a0_0) := (blk_cell BK101.out 0).trans rfl
    have hcz28_1 : wc.cell? ⟨gb101, 1, none⟩ = some (.int .i64 a0_1) := (blk_cell BK101.out 1).trans rfl
    have hcz28_2 : wc.cell? ⟨gb101, 2, none⟩ = some (.int .i64 a0_2) := (blk_cell BK101.out 2).trans rfl
    have hcz28_3 : wc.cell? ⟨gb101, 3, none⟩ = some (.int .i64 a0_3) := (blk_cell BK101.out 3).trans rfl
    have hcz28_4 : wc.cell? ⟨gb101, 4, none⟩ = some (.int .i64 a0_4) := (blk_cell BK101.out 4).trans rfl
    have hfz28_0 := blk_frozen BK101.out 0
    have hfz28_1 := blk_frozen BK101.out 1
    have hfz28_2 := blk_frozen BK101.out 2
    have hfz28_3 := blk_frozen BK101.out 3
    have hfz28_4 := blk_frozen BK101.out 4
    go_wp2_with (first | (go_at_call 119; (with_reducible refine (impl_apply.calls a0_0 a1 a2 t105 _ A27.out).mono ?_); rintro e w' ⟨rfl, ⟨nd, rfl⟩⟩; (try first | exact ⟨rfl, _, World.drewN_drewN _ _ _⟩ | exact ⟨rfl, _, Eq.trans (World.drewN_drewN _ _ _) (congrArg (World.drewN _) (Nat.add_assoc _ _ _))⟩)))
    repeat (go_quiet (first | (go_at_call 119; (with_reducible refine (impl_apply.calls a0_0 a1 a2 t105 _ A27.out).mono ?_); rintro e w' ⟨rfl, ⟨nd, rfl⟩⟩; (try first | exact ⟨rfl, _, World.drewN_drewN _ _ _⟩ | exact ⟨rfl, _, Eq.trans (World.drewN_drewN _ _ _) (congrArg (World.drewN _) (Nat.add_assoc _ _ _))⟩))); try go_wp2_with (first | (go_at_call 119; (with_reducible refine (impl_apply.calls a0_0 a1 a2 t105 _ A27.out).mono ?_); rintro e w' ⟨rfl, ⟨nd, rfl⟩⟩; (try first | exact ⟨rfl, _, World.drewN_drewN _ _ _⟩ | exact ⟨rfl, _, Eq.trans (World.drewN_drewN _ _ _) (congrArg (World.drewN _) (Nat.add_assoc _ _ _))⟩))))
    go_ret
    exact ⟨zq8, zq2 GE101⟩
  subst c22
  have H1 : (if 0 ≤ 3 then (if 3 ≤ (a0_0.size : Int) then ((impl_apply.f (a0_0.extract 0 3) a1 a0_4).bind fun t104 => (some t104)) else (none)) else (none)) = some r := by rw [if_pos rfl] at H; exact H
  clear H
  have H := H1
  clear H1
  by_cases c23 : 0 ≤ 3
  rotate_left
  · rw [if_neg c23] at H
    exact absurd H (by simp)
  rw [if_pos c23] at H
  have c23b0 := eq_true c23
  have c23b1 : decide (0 ≤ 3) = true := decide_eq_true c23
  clear c23
  by_cases c24 : 3 ≤ (a0_0.size : Int)
  rotate_left
  · rw [if_neg c24] at H
    exact absurd H (by simp)
  rw [if_pos c24] at H
  have c24b0 := eq_true c24
  have c24b1 : decide (3 ≤ (a0_0.size : Int)) = true := decide_eq_true c24
  clear c24
  replace H := Option.bind_eq_some_iff.mp H
  obtain ⟨t104, A250, H⟩ := H
  replace H : (some t104) = some r := H
  have A25 := Aside0.mk A250
  clear A250
  obtain rfl := Option.some.inj H
  have hcz26_0 : wc.cell? ⟨gb101, 0, none⟩ = some (.string a0_0) := (blk_cell BK101.out 0).trans rfl
  have hcz26_1 : wc.cell? ⟨gb101, 1, none⟩ = some (.int .i64 a0_1) := (blk_cell BK101.out 1).trans rfl
  have hcz26_2 : wc.cell? ⟨gb101, 2, none⟩ = some (.int .i64 a0_2) := (blk_cell BK101.out 2).trans rfl
  have hcz26_3 : wc.cell? ⟨gb101, 3, none⟩ = some (.int .i64 a0_3) := (blk_cell BK101.out 3).trans rfl
  have hcz26_4 : wc.cell? ⟨gb101, 4, none⟩ = some (.int .i64 a0_4) := (blk_cell BK101.out 4).trans rfl
  have hfz26_0 := blk_frozen BK101.out 0
  have hfz26_1 := blk_frozen BK101.out 1
  have hfz26_2 := blk_frozen BK101.out 2
  have hfz26_3 := blk_frozen BK101.out 3
  have hfz26_4 := blk_frozen BK101.out 4
  go_wp2_with (first | (go_at_call 119; (with_reducible refine (impl_apply.calls (a0_0.extract 0 3) a1 a0_4 t104 _ A25.out).mono ?_); rintro e w' ⟨rfl, ⟨nd, rfl⟩⟩; (try first | exact ⟨rfl, _, World.drewN_drewN _ _ _⟩ | exact ⟨rfl, _, Eq.trans (World.drewN_drewN _ _ _) (congrArg (World.drewN _) (Nat.add_assoc _ _ _))⟩)))
  repeat (go_quiet (first | (go_at_call 119; (with_reducible refine (impl_apply.calls (a0_0.extract 0 3) a1 a0_4 t104 _ A25.out).mono ?_); rintro e w' ⟨rfl, ⟨nd, rfl⟩⟩; (try first | exact ⟨rfl, _, World.drewN_drewN _ _ _⟩ | exact ⟨rfl, _, Eq.trans (World.drewN_drewN _ _ _) (congrArg (World.drewN _) (Nat.add_assoc _ _ _))⟩))); try go_wp2_with (first | (go_at_call 119; (with_reducible refine (impl_apply.calls (a0_0.extract 0 3) a1 a0_4 t104 _ A25.out).mono ?_); rintro e w' ⟨rfl, ⟨nd, rfl⟩⟩; (try first | exact ⟨rfl, _, World.drewN_drewN _ _ _⟩ | exact ⟨rfl, _, Eq.trans (World.drewN_drewN _ _ _) (congrArg (World.drewN _) (Nat.add_assoc _ _ _))⟩))))
  go_ret
  exact ⟨zq8, zq2 GE101⟩
end Go.Proofs.Ytnaafcleafbejaa.Q
end
section
namespace Go.Proofs.Ytnaafcleafbejaa.Q
open Go.RowKit Go.Proofs.YtnaafcleafbejaaW.PrintWords Go.Proofs.YtnaafcleafbejaaW.PrintLast Go.Proofs.YtnaafcleafbejaaW.PrintMore
set_option maxHeartbeats 8000000
set_option maxRecDepth 100000
attribute [local go_sem] max2_int min2_int max_two min_two max_three min_three max_four min_four
set_option linter.unusedVariables false
set_option linter.unusedSimpArgs false
def impl_wordAt.f (k : Nat) (a0_0 : ByteArray) (a0_1 : Int) (a0_2 : Int) (a0_3 : Int) (a0_4 : Int) (l1 : List (List Int)) (a2 : Int) : Option (Int) := if 0 ≤ a0_2 then (if a0_2 < (l1.length : Int) then (if 0 ≤ a2 then (if a2 < ((rd_L10 l1 a0_2).length : Int) then (if 0 ≤ a0_3 then (if a0_3 < (l1.length : Int) then (if a2 < ((rd_L10 l1 a0_3).length : Int) then ((impl_Instr_word.f k a0_0 a0_1 a0_2 a0_3 a0_4 (wrap64 (rd (rd_L10 l1 a0_2) a2)) (wrap64 (rd (rd_L10 l1 a0_3) a2))).bind fun t106 => (some ((t106) % 256))) else (none)) else (none)) else (none)) else (none)) else (none)) else (none)) else (none)
theorem impl_wordAt.mono : ∀ a0 a1 a2 a3 a4 a5 a6 k, LeO (impl_wordAt.f k a0 a1 a2 a3 a4 a5 a6) (impl_wordAt.f (k + 1) a0 a1 a2 a3 a4 a5 a6) := by
  intro a0 a1 a2 a3 a4 a5 a6 k
  unfold impl_wordAt.f
  repeat' first
      | (with_reducible exact impl_Instr_word.mono _ _ _ _ _ _ _ _)
      | (with_reducible exact LeO.refl _)
      | (with_reducible exact LeO.none _)
      | (with_reducible refine LeO.ite ?_ ?_)
      | (with_reducible refine LeO.bind ?_ (fun _ => ?_))
      | exact impl_Instr_word.mono _ _ _ _ _ _ _ _
      | exact LeO.none _
      | refine LeO.ite ?_ ?_
      | refine LeO.bind ?_ (fun _ => ?_)
def impl_wordAt.T1 : Bool × List (List Nat × List Nat) := (true, [([], []), ([], []), ([], []), ([2], [2]), ([1, 3], [1, 3]), ([4], [4]), ([], []), ([5, 6], [5, 6]), ([7], [7]), ([8], [8]), ([], []), ([], []), ([11], [11]), ([10, 12], [10, 12]), ([13], [13]), ([], []), ([14, 15], [14, 15]), ([16], [16]), ([17], [17]), ([0, 9, 18], [0, 9, 18]), ([19], [19]), ([20, 19, 0, 1, 2, 3, 4, 5, 6, 7, 8, 9, 10, 11, 12, 13, 14, 15, 16, 17, 18, 19, 20], [20])])
def impl_wordAt.B1 : List Nat := [0, 0, 0, 4, 14, 30, 0, 126, 254, 510, 0, 0, 2048, 7168, 15360, 0, 64512, 130048, 261120, 524287, 1048575, 2097151]
theorem impl_wordAt.tab1 : rtab .any (opsOf Try.f91 1) = impl_wordAt.T1 := by kernel_rfl
theorem impl_wordAt.bits1 : waitsOk impl_wordAt.T1.2 impl_wordAt.B1 = true := by kernel_rfl
theorem impl_wordAt.calls (k : Nat) (a0_0 : ByteArray) (a0_1 : Int) (a0_2 : Int) (a0_3 : Int) (a0_4 : Int) (A1 : Option Addr) (c1 : Nat) (l1 : List (List Int)) (a2 : Int) (r : Int) (w : World) (hr1 : Kd.C (Kd.slice 5 (Kd.int .u8)) w A1 l1.length l1) (hc1 : l1.length ≤ c1) (h : impl_wordAt.f k a0_0 a0_1 a0_2 a0_3 a0_4 l1 a2 = some r) :
    Calls Try.prog 91 #[.agg #[.string a0_0, .int .i64 a0_1, .int .i64 a0_2, .int .i64 a0_3, .int .i64 a0_4], .slice A1 l1.length c1, .int .i64 a2] w fun e w' => e = .returned (.int .u8 r) ∧ Below w.heap.size w w' := by
  have hu64 := Try.underlying64
  have HR1 := Aside0.mk hr1
  have HC1 := Aside0.mk hc1
  clear hr1 hc1
  have HB := Aside0.mk (Below.refl w.heap.size w)
  have H : (if 0 ≤ a0_2 then (if a0_2 < (l1.length : Int) then (if 0 ≤ a2 then (if a2 < ((rd_L10 l1 a0_2).length : Int) then (if 0 ≤ a0_3 then (if a0_3 < (l1.length : Int) then (if a2 < ((rd_L10 l1 a0_3).length : Int) then ((impl_Instr_word.f k a0_0 a0_1 a0_2 a0_3 a0_4 (wrap64 (rd (rd_L10 l1 a0_2) a2)) (wrap64 (rd (rd_L10 l1 a0_3) a2))).bind fun t106 => (some ((t106) % 256))) else (none)) else (none)) else (none)) else (none)) else (none)) else (none)) else (none)) = some r := h
  clear h
  by_cases c4 : 0 ≤ a0_2
  rotate_left
  · rw [if_neg c4] at H
    exact absurd H (by simp)
  rw [if_pos c4] at H
  have c4b0 : decide (0 ≤ a0_2) = true := decide_eq_true c4
  clear c4
  by_cases c5 : a0_2 < (l1.length : Int)
  rotate_left
  · rw [if_neg c5] at H
    exact absurd H (by simp)
  rw [if_pos c5] at H
  have c5b0 : decide (a0_2 < (l1.length : Int)) = true := decide_eq_true c5
  clear c5
  by_cases c6 : 0 ≤ a2
  rotate_left
  · rw [if_neg c6] at H
    exact absurd H (by simp)
  rw [if_pos c6] at H
  have c6b0 : decide (0 ≤ a2) = true := decide_eq_true c6
  clear c6
  by_cases c7 : a2 < ((rd_L10 l1 a0_2).length : Int)
  rotate_left
  · rw [if_neg c7] at H
    exact absurd H (by simp)
  rw [if_pos c7] at H
  have c7b0 : decide (a2 < ((rd_L10 l1 a0_2).length : Int)) = true := decide_eq_true c7
  clear c7
  by_cases c8 : 0 ≤ a0_3
  rotate_left
  · rw [if_neg c8] at H
    exact absurd H (by simp)
  rw [if_pos c8] at H
  have c8b0 : decide (0 ≤ a0_3) = true := decide_eq_true c8
  clear c8
  by_cases c9 : a0_3 < (l1.length : Int)
  rotate_left
  · rw [if_neg c9] at H
    exact absurd H (by simp)
  rw [if_pos c9] at H
  have c9b0 : decide (a0_3 < (l1.length : Int)) = true := decide_eq_true c9
  clear c9
  by_cases c10 : a2 < ((rd_L10 l1 a0_3).length : Int)
  rotate_left
  · rw [if_neg c10] at H
    exact absurd H (by simp)
  rw [if_pos c10] at H
  have c10b0 : decide (a2 < ((rd_L10 l1 a0_3).length : Int)) = true := decide_eq_true c10
  clear c10
  replace H := Option.bind_eq_some_iff.mp H
  obtain ⟨t106, A110, H⟩ := H
  replace H : (some ((t106) % 256)) = some r := H
  have A11 := Aside0.mk A110
  clear A110
  obtain rfl := Option.some.inj H
  go_enter Try.func91, Try.ntmps91
  try go_wp2_with (first | ((with_reducible refine zgd 3 ?_); refine box_event ?hg (N := 3) ?hd (cs := #[.string a0_0, .int .i64 a0_1, .int .i64 a0_2, .int .i64 a0_3, .int .i64 a0_4]) (t := 64) ?hr ?_; (case hd => rfl); (case hg => rfl); (case hr => first | (go_simp; done) | (go_simp; rfl)); intro gb101 hg w12 hbox hb; have BK101 := Aside0.mk (hbox); have GW101 := Aside0.mk ((zq11 : w.heap.size ≤ gb101)); have GE101 := Aside0.mk ((zq11 : w.heap.size ≤ gb101)); replace HB := Aside0.mk (below_step zq1 hb); clear hb hbox hg))
  replace BK101 := Aside0.mk (blk_drew BK101.out)
  replace HB := Aside0.mk (below_drew1 HB.out)
  have p102 : 0 ≤ (a0_2 : Int) := of_decide_eq_true zq4
  have q102 : a0_2 < (l1.length : Int) := of_decide_eq_true zq4
  obtain ⟨ad102, A102_0, c102_0, e102, hx102_0, hl102_0, hi102_0⟩ := at_L10 HR1.out a0_2 p102 q102
  have hw102_0 := hx102_0
  cases e102
  replace hx102_0 := (HB.out.cell (World.block_lt_of_cell? w _ hx102_0)).trans hx102_0
  have HR102_0 := Aside0.mk hi102_0
  have HC102_0 := Aside0.mk hl102_0
  clear hi102_0 hl102_0
  replace p102 := eq_true p102
  replace q102 := eq_true q102
  have p103 : 0 ≤ (a2 : Int) := of_decide_eq_true zq4
  have q103 : a2 < ((rd_L10 l1 a0_2).length : Int) := of_decide_eq_true zq4
  obtain ⟨ad103, e103, hx103_0⟩ := Kd.at_int HR102_0.out a2 p103 q103
  have hw103_0 := hx103_0
  cases e103
  replace hx103_0 := (HB.out.cell (World.block_lt_of_cell? w _ hx103_0)).trans hx103_0
  replace p103 := eq_true p103
  replace q103 := eq_true q103
  have p104 : 0 ≤ (a0_3 : Int) := of_decide_eq_true zq4
  have q104 : a0_3 < (l1.length : Int) := of_decide_eq_true zq4
  obtain ⟨ad104, A104_0, c104_0, e104, hx104_0, hl104_0, hi104_0⟩ := at_L10 HR1.out a0_3 p104 q104
  have hw104_0 := hx104_0
  obtain rfl : ad102 = ad104 := (by injection e104)
  replace hx104_0 := (HB.out.cell (World.block_lt_of_cell? w _ hx104_0)).trans hx104_0
  have HR104_0 := Aside0.mk hi104_0
  have HC104_0 := Aside0.mk hl104_0
  clear hi104_0 hl104_0
  replace p104 := eq_true p104
  replace q104 := eq_true q104
  have p105 : 0 ≤ (a2 : Int) := of_decide_eq_true zq4
  have q105 : a2 < ((rd_L10 l1 a0_3).length : Int) := of_decide_eq_true zq4
  obtain ⟨ad105, e105, hx105_0⟩ := Kd.at_int HR104_0.out a2 p105 q105
  have hw105_0 := hx105_0
  cases e105
  replace hx105_0 := (HB.out.cell (World.block_lt_of_cell? w _ hx105_0)).trans hx105_0
  replace p105 := eq_true p105
  replace q105 := eq_true q105
  refine start_ (n := 22) (S := fun w' => w'.cell? ⟨gb101, 0, none⟩ = some (.string a0_0) ∧ w'.cell? ⟨gb101, 1, none⟩ = some (.int .i64 a0_1) ∧ w'.cell? ⟨gb101, 2, none⟩ = some (.int .i64 a0_2) ∧ w'.cell? ⟨gb101, 3, none⟩ = some (.int .i64 a0_3) ∧ w'.cell? ⟨gb101, 4, none⟩ = some (.int .i64 a0_4) ∧ w'.cell? (ad102.add (a0_2).toNat) = some (.slice (some ad103) (rd_L10 l1 a0_2).length c102_0) ∧ w'.cell? (ad103.add (a2).toNat) = some (.int .u8 (rd (rd_L10 l1 a0_2) a2)) ∧ w'.cell? (ad102.add (a0_3).toNat) = some (.slice (some ad105) (rd_L10 l1 a0_3).length c104_0) ∧ w'.cell? (ad105.add (a2).toNat) = some (.int .u8 (rd (rd_L10 l1 a0_3) a2))) (ds := []) #[false, false, false, false, false, false, false, false, false, false, false, false, false, false, false, false, false, false, false, false, false, false] zq27 rfl rfl ⟨(blk_cell BK101.out 0).trans rfl, (blk_cell BK101.out 1).trans rfl, (blk_cell BK101.out 2).trans rfl, (blk_cell BK101.out 3).trans rfl, (blk_cell BK101.out 4).trans rfl, ((HB.out.cell (World.block_lt_of_cell? w _ hw102_0)).trans hw102_0), ((HB.out.cell (World.block_lt_of_cell? w _ hw103_0)).trans hw103_0), ((HB.out.cell (World.block_lt_of_cell? w _ hw104_0)).trans hw104_0), ((HB.out.cell (World.block_lt_of_cell? w _ hw105_0)).trans hw105_0)⟩ (fun hHeld => ?_); refine with_tabW impl_wordAt.tab1 impl_wordAt.bits1 (fun HT_ HW_ => ?_)
  generalize w12.drew = w13 at BK101 HB HR102_0 HR104_0 hx102_0 hx103_0 hx104_0 hx105_0 hHeld ⊢
  refine zpu 1 8 HT_ ?_
  refine zpu 2 9 HT_ ?_
  refine zpu 6 13 HT_ ?_
  refine zpu 10 17 HT_ ?_
  refine zpu 11 18 HT_ ?_
  refine zpu 15 22 HT_ ?_
  refine ztu 0 7 HT_ HW_ hHeld ?_
  refine ztu 3 10 HT_ HW_ hHeld ?_
  refine zpu 4 11 HT_ ?_
  refine ztu 5 12 HT_ HW_ hHeld ?_
  refine zpu 7 14 HT_ ?_
  refine ztu 8 15 HT_ HW_ hHeld ?_
  refine zpu 9 16 HT_ ?_
  refine ztu 12 19 HT_ HW_ hHeld ?_
  refine zpu 13 20 HT_ ?_
  refine ztu 14 21 HT_ HW_ hHeld ?_
  refine zpu 16 23 HT_ ?_
  refine ztu 17 24 HT_ HW_ hHeld ?_
  refine zpu 18 25 HT_ ?_
  refine one_ (i := 19) (N := some 26) #[true, true, true, true, true, true, true, true, true, true, true, true, true, true, true, true, true, true, true, true, false, false] rfl rfl (one_of HT_.out zq27) (by decide) (fun K hK => ?_)
  refine zgo Try.func114 (impl_Instr_word.calls k a0_0 a0_1 a0_2 a0_3 a0_4 (wrap64 (rd (rd_L10 l1 a0_2) a2)) (wrap64 (rd (rd_L10 l1 a0_3) a2)) t106 _ A11.out) ?_
  rintro e w14 ⟨rfl, hb⟩
  refine ⟨_, rfl, ?_⟩
  replace BK101 := Aside0.mk (blk_below (g := gb101) (o := .cells #[.string a0_0, .int .i64 a0_1, .int .i64 a0_2, .int .i64 a0_3, .int .i64 a0_4] 64 (0, 0)) (zq3 BK101) hb)
  replace HB := Aside0.mk (below_step (zq2 GE101) hb)
  (try clear hb)
  (try clear hb2)
  (try clear hk)
  (try clear hi)
  refine hK.out _ _ ⟨(blk_cell BK101.out 0).trans rfl, (blk_cell BK101.out 1).trans rfl, (blk_cell BK101.out 2).trans rfl, (blk_cell BK101.out 3).trans rfl, (blk_cell BK101.out 4).trans rfl, ((HB.out.cell (World.block_lt_of_cell? w _ hw102_0)).trans hw102_0), ((HB.out.cell (World.block_lt_of_cell? w _ hw103_0)).trans hw103_0), ((HB.out.cell (World.block_lt_of_cell? w _ hw104_0)).trans hw104_0), ((HB.out.cell (World.block_lt_of_cell? w _ hw105_0)).trans hw105_0)⟩ (fun hHeld => ?_)
  clear hK K
  refine znm 26 ?_
  refine zpu 20 27 HT_ ?_
  refine zpu 21 6 HT_ ?_
  refine done_ (done_of HT_.out zq27) ?_
  try go_wp2
  go_ret
  exact ⟨zq8, zq2 GE101⟩
end Go.Proofs.Ytnaafcleafbejaa.Q
end
section
namespace Go.Proofs.Ytnaafcleafbejaa.Q
open Go.RowKit Go.Proofs.YtnaafcleafbejaaW.PrintWords Go.Proofs.YtnaafcleafbejaaW.PrintLast Go.Proofs.YtnaafcleafbejaaW.PrintMore
set_option maxHeartbeats 8000000
set_option maxRecDepth 100000
attribute [local go_sem] max2_int min2_int max_two min_two max_three min_three max_four min_four
set_option linter.unusedVariables false
set_option linter.unusedSimpArgs false
def impl_isColumn.l0 : Nat → List (List Int) → List Int → Int → Int → ByteArray → Int → Int → Int → Int → Option (Bool)
  | 0, _, _, _, _, _, _, _, _, _ => none
  | k + 1, x1, x9, x10, x11, x102000, x102001, x102002, x102003, x102004 => if x11 < x10 then (if 0 ≤ x11 then (if x11 < (x9.length : Int) then ((impl_wordAt.f k x102000 x102001 x102002 x102003 x102004 x1 x11).bind fun t103 => (if t103 = (rd x9 x11) then (impl_isColumn.l0 k x1 x9 x10 (wrap64 (x11 + 1)) x102000 x102001 x102002 x102003 x102004) else (some false))) else (none)) else (none)) else (some true)
def impl_isColumn.f (k : Nat) (a0_0 : ByteArray) (a0_1 : Int) (a0_2 : Int) (a0_3 : Int) (a0_4 : Int) (l1 : List (List Int)) (l2 : List Int) : Option (Bool) := impl_isColumn.l0 k l1 l2 (l2.length : Int) 0 a0_0 a0_1 a0_2 a0_3 a0_4
theorem impl_isColumn.mono_l : ∀ k, (∀ y0 y1 y2 y3 y4 y5 y6 y7 y8, LeO (impl_isColumn.l0 k y0 y1 y2 y3 y4 y5 y6 y7 y8) (impl_isColumn.l0 (k + 1) y0 y1 y2 y3 y4 y5 y6 y7 y8))
  | 0 => fun _ _ _ _ _ _ _ _ _ r h => by simp [impl_isColumn.l0] at h
  | k + 1 => by
    have ih0 := impl_isColumn.mono_l k
    · intro y0 y1 y2 y3 y4 y5 y6 y7 y8
      unfold impl_isColumn.l0
      repeat' first
      | (with_reducible exact ih0 _ _ _ _ _ _ _ _ _)
      | (with_reducible exact impl_wordAt.mono _ _ _ _ _ _ _ _)
      | (with_reducible exact LeO.refl _)
      | (with_reducible exact LeO.none _)
      | (with_reducible refine LeO.ite ?_ ?_)
      | (with_reducible refine LeO.bind ?_ (fun _ => ?_))
      | exact ih0 _ _ _ _ _ _ _ _ _
      | exact impl_wordAt.mono _ _ _ _ _ _ _ _
      | exact LeO.none _
      | refine LeO.ite ?_ ?_
      | refine LeO.bind ?_ (fun _ => ?_)
theorem impl_isColumn.mono : ∀ a0 a1 a2 a3 a4 a5 a6 k, LeO (impl_isColumn.f k a0 a1 a2 a3 a4 a5 a6) (impl_isColumn.f (k + 1) a0 a1 a2 a3 a4 a5 a6) := by
  intro a0 a1 a2 a3 a4 a5 a6 k
  have ih0 := impl_isColumn.mono_l k
  unfold impl_isColumn.f
  repeat' first
      | (with_reducible exact ih0 _ _ _ _ _ _ _ _ _)
      | (with_reducible exact impl_wordAt.mono _ _ _ _ _ _ _ _)
      | (with_reducible exact LeO.refl _)
      | (with_reducible exact LeO.none _)
      | (with_reducible refine LeO.ite ?_ ?_)
      | (with_reducible refine LeO.bind ?_ (fun _ => ?_))
      | exact ih0 _ _ _ _ _ _ _ _ _
      | exact impl_wordAt.mono _ _ _ _ _ _ _ _
      | exact LeO.none _
      | refine LeO.ite ?_ ?_
      | refine LeO.bind ?_ (fun _ => ?_)
theorem impl_isColumn.calls (k : Nat) (a0_0 : ByteArray) (a0_1 : Int) (a0_2 : Int) (a0_3 : Int) (a0_4 : Int) (A1 : Option Addr) (c1 : Nat) (l1 : List (List Int)) (A2 : Option Addr) (c2 : Nat) (l2 : List Int) (r : Bool) (w : World) (hr1 : Kd.C (Kd.slice 5 (Kd.int .u8)) w A1 l1.length l1) (hc1 : l1.length ≤ c1) (hr2 : Kd.C (Kd.int .u8) w A2 l2.length l2) (hc2 : l2.length ≤ c2) (h : impl_isColumn.f k a0_0 a0_1 a0_2 a0_3 a0_4 l1 l2 = some r) :
    Calls Try.prog 89 #[.agg #[.string a0_0, .int .i64 a0_1, .int .i64 a0_2, .int .i64 a0_3, .int .i64 a0_4], .slice A1 l1.length c1, .slice A2 l2.length c2] w fun e w' => e = .returned (.bool r) ∧ Below w.heap.size w w' := by
  have hu64 := Try.underlying64
  have HR1 := Aside0.mk hr1
  have HC1 := Aside0.mk hc1
  clear hr1 hc1
  have HR2 := Aside0.mk hr2
  have HC2 := Aside0.mk hc2
  clear hr2 hc2
  have HB := Aside0.mk (Below.refl w.heap.size w)
  have H : (impl_isColumn.l0 k l1 l2 (l2.length : Int) 0 a0_0 a0_1 a0_2 a0_3 a0_4) = some r := h
  clear h
  have H' := Aside0.mk H
  clear H
  go_enter Try.func89, Try.ntmps89
  go_wp2_with (first | ((with_reducible refine zgd 3 ?_); refine box_event ?hg (N := 3) ?hd (cs := #[.string a0_0, .int .i64 a0_1, .int .i64 a0_2, .int .i64 a0_3, .int .i64 a0_4]) (t := 64) ?hr ?_; (case hd => rfl); (case hg => rfl); (case hr => first | (go_simp; done) | (go_simp; rfl)); intro gb101 hg w4 hbox hb; have BK101 := Aside0.mk (hbox); have GW101 := Aside0.mk ((zq11 : w.heap.size ≤ gb101)); have GE101 := Aside0.mk ((zq11 : w.heap.size ≤ gb101)); replace HB := Aside0.mk (below_step zq1 hb); clear hb hbox hg))
  go_loopg [11] k (fun kq v11 w' => ∃ (x11_1 : Int), v11 = .int .i64 x11_1 ∧ Aside0 (impl_isColumn.l0 kq l1 l2 (l2.length : Int) x11_1 a0_0 a0_1 a0_2 a0_3 a0_4 = some r) ∧ Aside0 (kq ≤ k) ∧ Aside0 (w'.heap[gb101]? = some (.cells #[.string a0_0, .int .i64 a0_1, .int .i64 a0_2, .int .i64 a0_3, .int .i64 a0_4] 64 (0, 0))) ∧ Aside0 (Below w.heap.size w w'))
  case atStart => exact ⟨(0), zq7, H', ⟨Nat.le_refl _⟩, ⟨zq3 BK101⟩, ⟨zq2 GE101⟩⟩
  clear H'
  try clear c1
  try clear c2
  obtain ⟨x11_1, rfl, HA, HK1, BK101, HB⟩ := hrel
  cases gk with
  | zero => exact absurd HA.out (by simp [impl_isColumn.l0])
  | succ k1 =>
  have H := HA.out
  clear HA
  simp only [impl_isColumn.l0] at H
  by_cases c5 : x11_1 < (l2.length : Int)
  rotate_left
  · rw [if_neg c5] at H
    have c5b0 : decide (x11_1 < (l2.length : Int)) = false := decide_eq_false c5
    clear c5
    obtain rfl := Option.some.inj H
    go_wp2
    go_ret
    exact ⟨zq8, zq2 GE101⟩
  rw [if_pos c5] at H
  have c5b0 : decide (x11_1 < (l2.length : Int)) = true := decide_eq_true c5
  clear c5
  by_cases c6 : 0 ≤ x11_1
  rotate_left
  · rw [if_neg c6] at H
    exact absurd H (by simp)
  rw [if_pos c6] at H
  have c6b0 : decide (0 ≤ x11_1) = true := decide_eq_true c6
  clear c6
  by_cases c7 : x11_1 < (l2.length : Int)
  rotate_left
  · rw [if_neg c7] at H
    exact absurd H (by simp)
  rw [if_pos c7] at H
  have c7b0 : decide (x11_1 < (l2.length : Int)) = true := decide_eq_true c7
  clear c7
  replace H := Option.bind_eq_some_iff.mp H
  obtain ⟨t103, A80, H⟩ := H
  replace H : (if t103 = (rd l2 x11_1) then (impl_isColumn.l0 k1 l1 l2 (l2.length : Int) (wrap64 (x11_1 + 1)) a0_0 a0_1 a0_2 a0_3 a0_4) else (some false)) = some r := H
  have A8 := Aside0.mk A80
  clear A80
  by_cases c9 : t103 = (rd l2 x11_1)
  rotate_left
  · rw [if_neg c9] at H
    obtain ⟨c9b0, c9b1⟩ := zbq c9
    obtain rfl := Option.some.inj H
    have p102 : 0 ≤ (x11_1 : Int) := of_decide_eq_true zq4
    have q102 : x11_1 < (l2.length : Int) := of_decide_eq_true zq4
    obtain ⟨ad102, e102, hx102_0⟩ := Kd.at_int HR2.out x11_1 p102 q102
    cases e102
    replace hx102_0 := (HB.out.cell (World.block_lt_of_cell? w _ hx102_0)).trans hx102_0
    replace p102 := eq_true p102
    replace q102 := eq_true q102
    have hcz12_0 : wr.cell? ⟨gb101, 0, none⟩ = some (.string a0_0) := (blk_cell BK101.out 0).trans rfl
    have hcz12_1 : wr.cell? ⟨gb101, 1, none⟩ = some (.int .i64 a0_1) := (blk_cell BK101.out 1).trans rfl
    have hcz12_2 : wr.cell? ⟨gb101, 2, none⟩ = some (.int .i64 a0_2) := (blk_cell BK101.out 2).trans rfl
    have hcz12_3 : wr.cell? ⟨gb101, 3, none⟩ = some (.int .i64 a0_3) := (blk_cell BK101.out 3).trans rfl
    have hcz12_4 : wr.cell? ⟨gb101, 4, none⟩ = some (.int .i64 a0_4) := (blk_cell BK101.out 4).trans rfl
    have hfz12_0 := blk_frozen BK101.out 0
    have hfz12_1 := blk_frozen BK101.out 1
    have hfz12_2 := blk_frozen BK101.out 2
    have hfz12_3 := blk_frozen BK101.out 3
    have hfz12_4 := blk_frozen BK101.out 4
    go_wp2_with (first | ((with_reducible refine zgc 91 ?_); refine zca 19 Try.func91 #[.agg #[.string a0_0, .int .i64 a0_1, .int .i64 a0_2, .int .i64 a0_3, .int .i64 a0_4], .slice A1 l1.length c1, .int .i64 x11_1] (impl_wordAt.calls k1 a0_0 a0_1 a0_2 a0_3 a0_4 _ _ l1 x11_1 t103 _ (zq9 HR1) HC1.out A8.out) ?_; rintro e w13 ⟨rfl, hb⟩; refine ⟨_, rfl, ?_⟩; replace BK101 := Aside0.mk (blk_below (g := gb101) (o := .cells #[.string a0_0, .int .i64 a0_1, .int .i64 a0_2, .int .i64 a0_3, .int .i64 a0_4] 64 (0, 0)) (zq3 BK101) hb); replace HB := Aside0.mk (below_step (zq2 GE101) hb); (try clear hb)))
    go_ret
    exact ⟨zq8, zq2 GE101⟩
  rw [if_pos c9] at H
  obtain ⟨c9b0, c9b1⟩ := zbe c9
  clear c9
  have H' := Aside0.mk H
  clear H
  have p102 : 0 ≤ (x11_1 : Int) := of_decide_eq_true zq4
  have q102 : x11_1 < (l2.length : Int) := of_decide_eq_true zq4
  obtain ⟨ad102, e102, hx102_0⟩ := Kd.at_int HR2.out x11_1 p102 q102
  cases e102
  replace hx102_0 := (HB.out.cell (World.block_lt_of_cell? w _ hx102_0)).trans hx102_0
  replace p102 := eq_true p102
  replace q102 := eq_true q102
  have hcz10_0 : wr.cell? ⟨gb101, 0, none⟩ = some (.string a0_0) := (blk_cell BK101.out 0).trans rfl
  have hcz10_1 : wr.cell? ⟨gb101, 1, none⟩ = some (.int .i64 a0_1) := (blk_cell BK101.out 1).trans rfl
  have hcz10_2 : wr.cell? ⟨gb101, 2, none⟩ = some (.int .i64 a0_2) := (blk_cell BK101.out 2).trans rfl
  have hcz10_3 : wr.cell? ⟨gb101, 3, none⟩ = some (.int .i64 a0_3) := (blk_cell BK101.out 3).trans rfl
  have hcz10_4 : wr.cell? ⟨gb101, 4, none⟩ = some (.int .i64 a0_4) := (blk_cell BK101.out 4).trans rfl
  have hfz10_0 := blk_frozen BK101.out 0
  have hfz10_1 := blk_frozen BK101.out 1
  have hfz10_2 := blk_frozen BK101.out 2
  have hfz10_3 := blk_frozen BK101.out 3
  have hfz10_4 := blk_frozen BK101.out 4
  go_wp2_with (first | ((with_reducible refine zgc 91 ?_); refine zca 19 Try.func91 #[.agg #[.string a0_0, .int .i64 a0_1, .int .i64 a0_2, .int .i64 a0_3, .int .i64 a0_4], .slice A1 l1.length c1, .int .i64 x11_1] (impl_wordAt.calls k1 a0_0 a0_1 a0_2 a0_3 a0_4 _ _ l1 x11_1 t103 _ (zq9 HR1) HC1.out A8.out) ?_; rintro e w11 ⟨rfl, hb⟩; refine ⟨_, rfl, ?_⟩; replace BK101 := Aside0.mk (blk_below (g := gb101) (o := .cells #[.string a0_0, .int .i64 a0_1, .int .i64 a0_2, .int .i64 a0_3, .int .i64 a0_4] 64 (0, 0)) (zq3 BK101) hb); replace HB := Aside0.mk (below_step (zq2 GE101) hb); (try clear hb)))
  go_roundg k1
  case measure => have := HK1.out; omega
  case rel => exact ⟨(wrap64 (x11_1 + 1)), zq7, H', ⟨zq36 HK1⟩, ⟨zq3 BK101⟩, ⟨zq2 GE101⟩⟩
end Go.Proofs.Ytnaafcleafbejaa.Q
end
section
namespace Go.Proofs.Ytnaafcleafbejaa.Q
open Go.RowKit Go.Proofs.YtnaafcleafbejaaW.PrintWords Go.Proofs.YtnaafcleafbejaaW.PrintLast Go.Proofs.YtnaafcleafbejaaW.PrintMore
set_option maxHeartbeats 8000000
set_option maxRecDepth 100000
attribute [local go_sem] max2_int min2_int max_two min_two max_three min_three max_four min_four
set_option linter.unusedVariables false
set_option linter.unusedSimpArgs false
def impl_isTurned.f (k : Nat) (a0_0 : ByteArray) (a0_1 : Int) (a0_2 : Int) (a0_3 : Int) (a0_4 : Int) : Option (Bool) := (slices_Contains_string_string.f k (([(⟨#[97, 100, 100]⟩ : ByteArray), (⟨#[97, 110, 100]⟩ : ByteArray), (⟨#[111, 114]⟩ : ByteArray), (⟨#[120, 111, 114]⟩ : ByteArray), (⟨#[109, 117, 108]⟩ : ByteArray), (⟨#[101, 113]⟩ : ByteArray)] : List ByteArray)) a0_0).bind fun t105 => (if t105 = true then (some (decide (a0_2 > a0_3))) else (some false))
theorem impl_isTurned.mono : ∀ a0 a1 a2 a3 a4 k, LeO (impl_isTurned.f k a0 a1 a2 a3 a4) (impl_isTurned.f (k + 1) a0 a1 a2 a3 a4) := by
  intro a0 a1 a2 a3 a4 k
  unfold impl_isTurned.f
  repeat' first
      | (with_reducible exact slices_Contains_string_string.mono _ _ _)
      | (with_reducible exact LeO.refl _)
      | (with_reducible exact LeO.none _)
      | (with_reducible refine LeO.ite ?_ ?_)
      | (with_reducible refine LeO.bind ?_ (fun _ => ?_))
      | exact slices_Contains_string_string.mono _ _ _
      | exact LeO.none _
      | refine LeO.ite ?_ ?_
      | refine LeO.bind ?_ (fun _ => ?_)
theorem impl_isTurned.calls (k : Nat) (a0_0 : ByteArray) (a0_1 : Int) (a0_2 : Int) (a0_3 : Int) (a0_4 : Int) (r : Bool) (w : World) (h : impl_isTurned.f k a0_0 a0_1 a0_2 a0_3 a0_4 = some r) :
    Calls Try.prog 90 #[.agg #[.string a0_0, .int .i64 a0_1, .int .i64 a0_2, .int .i64 a0_3, .int .i64 a0_4]] w fun e w' => e = .returned (.bool r) ∧ Below w.heap.size w w' := by
  have hu64 := Try.underlying64
  have HB := Aside0.mk (Below.refl w.heap.size w)
  have H : ((slices_Contains_string_string.f k (([(⟨#[97, 100, 100]⟩ : ByteArray), (⟨#[97, 110, 100]⟩ : ByteArray), (⟨#[111, 114]⟩ : ByteArray), (⟨#[120, 111, 114]⟩ : ByteArray), (⟨#[109, 117, 108]⟩ : ByteArray), (⟨#[101, 113]⟩ : ByteArray)] : List ByteArray)) a0_0).bind fun t105 => (if t105 = true then (some (decide (a0_2 > a0_3))) else (some false))) = some r := h
  clear h
  obtain ⟨y102, hy102⟩ : ∃ y_ : List ByteArray, y_ = (([(⟨#[97, 100, 100]⟩ : ByteArray), (⟨#[97, 110, 100]⟩ : ByteArray), (⟨#[111, 114]⟩ : ByteArray), (⟨#[120, 111, 114]⟩ : ByteArray), (⟨#[109, 117, 108]⟩ : ByteArray), (⟨#[101, 113]⟩ : ByteArray)] : List ByteArray)) := ⟨_, rfl⟩
  replace H : ((slices_Contains_string_string.f k y102 a0_0).bind fun t105 => (if t105 = true then (some (decide (a0_2 > a0_3))) else (some false))) = some r := by first | (rw [hy102]; with_reducible exact H) | (have H2_ := (Option.bind_some _ _).symm.trans H; rw [hy102]; with_reducible exact H2_) | (have H2_ := (Option.bind_some _ _).symm.trans H; with_reducible exact H2_) | with_reducible exact H | (rw [hy102]; exact H) | exact H
  have Ny102 := Aside0.mk hy102
  clear hy102
  replace H := Option.bind_eq_some_iff.mp H
  obtain ⟨t105, A20, H⟩ := H
  replace H : (if t105 = true then (some (decide (a0_2 > a0_3))) else (some false)) = some r := H
  have A2 := Aside0.mk A20
  clear A20
  by_cases c3 : t105 = true
  · subst c3
    have H1 : (some (decide (a0_2 > a0_3))) = some r := by rw [if_pos rfl] at H; exact H
    clear H
    have H := H1
    clear H1
    obtain rfl := Option.some.inj H
    go_enter Try.func90, Try.ntmps90
    go_wp2_with (first | ((with_reducible refine zgd 1 ?_); refine box_event ?hg (N := 1) ?hd (cs := #[.string a0_0, .int .i64 a0_1, .int .i64 a0_2, .int .i64 a0_3, .int .i64 a0_4]) (t := 64) ?hr ?_; (case hd => rfl); (case hg => rfl); (case hr => first | (go_simp; done) | (go_simp; rfl)); intro gb101 hg w4 hbox hb; have BK101 := Aside0.mk (hbox); have GW101 := Aside0.mk ((zq11 : w.heap.size ≤ gb101)); have GE101 := Aside0.mk ((zq11 : w.heap.size ≤ gb101)); replace HB := Aside0.mk (below_step zq1 hb); clear hb hbox hg) | ((with_reducible refine zgd 3 ?_); refine Kd.R_lit Kd.string _ 9 ?hg (N := 3) ?hd (xs := ([(⟨#[97, 100, 100]⟩ : ByteArray), (⟨#[97, 110, 100]⟩ : ByteArray), (⟨#[111, 114]⟩ : ByteArray), (⟨#[120, 111, 114]⟩ : ByteArray), (⟨#[109, 117, 108]⟩ : ByteArray), (⟨#[101, 113]⟩ : ByteArray)] : List ByteArray)) (inner := [.string (⟨#[97, 100, 100]⟩ : ByteArray), .string (⟨#[97, 110, 100]⟩ : ByteArray), .string (⟨#[111, 114]⟩ : ByteArray), .string (⟨#[120, 111, 114]⟩ : ByteArray), .string (⟨#[109, 117, 108]⟩ : ByteArray), .string (⟨#[101, 113]⟩ : ByteArray)]) (ok := fun _ => True) (okp := fun _ => True) ?hr ?hp (fun _ hk => hk) trivial (Below.refl _ _) (Nat.le_refl _) (by simp) ?_; (case hd => rfl); (case hg => rfl); (case hr => first | (go_simp; done) | (go_simp; rfl)); (case hp => exact (Reps.one (show Kd.M Kd.string _ _ _ (⟨#[97, 100, 100]⟩ : ByteArray) [.string (⟨#[97, 100, 100]⟩ : ByteArray)] from rfl) (Reps.one (show Kd.M Kd.string _ _ _ (⟨#[97, 110, 100]⟩ : ByteArray) [.string (⟨#[97, 110, 100]⟩ : ByteArray)] from rfl) (Reps.one (show Kd.M Kd.string _ _ _ (⟨#[111, 114]⟩ : ByteArray) [.string (⟨#[111, 114]⟩ : ByteArray)] from rfl) (Reps.one (show Kd.M Kd.string _ _ _ (⟨#[120, 111, 114]⟩ : ByteArray) [.string (⟨#[120, 111, 114]⟩ : ByteArray)] from rfl) (Reps.one (show Kd.M Kd.string _ _ _ (⟨#[109, 117, 108]⟩ : ByteArray) [.string (⟨#[109, 117, 108]⟩ : ByteArray)] from rfl) (Reps.one (show Kd.M Kd.string _ _ _ (⟨#[101, 113]⟩ : ByteArray) [.string (⟨#[101, 113]⟩ : ByteArray)] from rfl) (Reps.none _ _)))))))); intro v103 w5 ho6 hb hg_ hnew_; clear hg_ hnew_; (first | rw [← Ny102.out] at ho6 | (simp only [Int.reduceToNat] at ho6; rw [← Ny102.out] at ho6)); have HO104 := Aside0.mk (Kd.R_lower ho6 (below_size (zq2 GE101))); replace BK101 := Aside0.mk (blk_below (g := gb101) (o := .cells #[.string a0_0, .int .i64 a0_1, .int .i64 a0_2, .int .i64 a0_3, .int .i64 a0_4] 64 (0, 0)) (zq3 BK101) hb); replace HB := Aside0.mk (below_step (zq2 GE101) hb); clear hb ho6; have hcz7_0 : w5.cell? ⟨gb101, 0, none⟩ = some (.string a0_0) := (blk_cell BK101.out 0).trans rfl; have hcz7_1 : w5.cell? ⟨gb101, 1, none⟩ = some (.int .i64 a0_1) := (blk_cell BK101.out 1).trans rfl; have hcz7_2 : w5.cell? ⟨gb101, 2, none⟩ = some (.int .i64 a0_2) := (blk_cell BK101.out 2).trans rfl; have hcz7_3 : w5.cell? ⟨gb101, 3, none⟩ = some (.int .i64 a0_3) := (blk_cell BK101.out 3).trans rfl; have hcz7_4 : w5.cell? ⟨gb101, 4, none⟩ = some (.int .i64 a0_4) := (blk_cell BK101.out 4).trans rfl; have hfz7_0 := blk_frozen BK101.out 0; have hfz7_1 := blk_frozen BK101.out 1; have hfz7_2 := blk_frozen BK101.out 2; have hfz7_3 := blk_frozen BK101.out 3; have hfz7_4 := blk_frozen BK101.out 4; obtain ⟨Ao8, co8, eo8⟩ := Kd.R_slice HO104.out; subst eo8) | ((with_reducible refine zgc 112 ?_); refine zca 6 Try.func112 #[.slice Ao8 y102.length co8, .string a0_0] (slices_Contains_string_string.calls k _ _ y102 a0_0 true _ (zq16 HO104) (zq44 HO104) A2.out) ?_; rintro e w' ⟨rfl, ⟨nd, rfl⟩⟩; refine ⟨_, rfl, ?_⟩))
    go_ret
    exact ⟨zq8, zq2 GE101⟩
  replace c3 := Bool.eq_false_iff.mpr c3
  subst c3
  have H1 : (some false) = some r := by rw [if_neg (show ¬ (false = true) by decide)] at H; exact H
  clear H
  have H := H1
  clear H1
  obtain rfl := Option.some.inj H
  go_enter Try.func90, Try.ntmps90
  go_wp2_with (first | ((with_reducible refine zgd 1 ?_); refine box_event ?hg (N := 1) ?hd (cs := #[.string a0_0, .int .i64 a0_1, .int .i64 a0_2, .int .i64 a0_3, .int .i64 a0_4]) (t := 64) ?hr ?_; (case hd => rfl); (case hg => rfl); (case hr => first | (go_simp; done) | (go_simp; rfl)); intro gb101 hg w9 hbox hb; have BK101 := Aside0.mk (hbox); have GW101 := Aside0.mk ((zq11 : w.heap.size ≤ gb101)); have GE101 := Aside0.mk ((zq11 : w.heap.size ≤ gb101)); replace HB := Aside0.mk (below_step zq1 hb); clear hb hbox hg) | ((with_reducible refine zgd 3 ?_); refine Kd.R_lit Kd.string _ 9 ?hg (N := 3) ?hd (xs := ([(⟨#[97, 100, 100]⟩ : ByteArray), (⟨#[97, 110, 100]⟩ : ByteArray), (⟨#[111, 114]⟩ : ByteArray), (⟨#[120, 111, 114]⟩ : ByteArray), (⟨#[109, 117, 108]⟩ : ByteArray), (⟨#[101, 113]⟩ : ByteArray)] : List ByteArray)) (inner := [.string (⟨#[97, 100, 100]⟩ : ByteArray), .string (⟨#[97, 110, 100]⟩ : ByteArray), .string (⟨#[111, 114]⟩ : ByteArray), .string (⟨#[120, 111, 114]⟩ : ByteArray), .string (⟨#[109, 117, 108]⟩ : ByteArray), .string (⟨#[101, 113]⟩ : ByteArray)]) (ok := fun _ => True) (okp := fun _ => True) ?hr ?hp (fun _ hk => hk) trivial (Below.refl _ _) (Nat.le_refl _) (by simp) ?_; (case hd => rfl); (case hg => rfl); (case hr => first | (go_simp; done) | (go_simp; rfl)); (case hp => exact (Reps.one (show Kd.M Kd.string _ _ _ (⟨#[97, 100, 100]⟩ : ByteArray) [.string (⟨#[97, 100, 100]⟩ : ByteArray)] from rfl) (Reps.one (show Kd.M Kd.string _ _ _ (⟨#[97, 110, 100]⟩ : ByteArray) [.string (⟨#[97, 110, 100]⟩ : ByteArray)] from rfl) (Reps.one (show Kd.M Kd.string _ _ _ (⟨#[111, 114]⟩ : ByteArray) [.string (⟨#[111, 114]⟩ : ByteArray)] from rfl) (Reps.one (show Kd.M Kd.string _ _ _ (⟨#[120, 111, 114]⟩ : ByteArray) [.string (⟨#[120, 111, 114]⟩ : ByteArray)] from rfl) (Reps.one (show Kd.M Kd.string _ _ _ (⟨#[109, 117, 108]⟩ : ByteArray) [.string (⟨#[109, 117, 108]⟩ : ByteArray)] from rfl) (Reps.one (show Kd.M Kd.string _ _ _ (⟨#[101, 113]⟩ : ByteArray) [.string (⟨#[101, 113]⟩ : ByteArray)] from rfl) (Reps.none _ _)))))))); intro v103 w10 ho11 hb hg_ hnew_; clear hg_ hnew_; (first | rw [← Ny102.out] at ho11 | (simp only [Int.reduceToNat] at ho11; rw [← Ny102.out] at ho11)); have HO104 := Aside0.mk (Kd.R_lower ho11 (below_size (zq2 GE101))); replace BK101 := Aside0.mk (blk_below (g := gb101) (o := .cells #[.string a0_0, .int .i64 a0_1, .int .i64 a0_2, .int .i64 a0_3, .int .i64 a0_4] 64 (0, 0)) (zq3 BK101) hb); replace HB := Aside0.mk (below_step (zq2 GE101) hb); clear hb ho11; have hcz12_0 : w10.cell? ⟨gb101, 0, none⟩ = some (.string a0_0) := (blk_cell BK101.out 0).trans rfl; have hcz12_1 : w10.cell? ⟨gb101, 1, none⟩ = some (.int .i64 a0_1) := (blk_cell BK101.out 1).trans rfl; have hcz12_2 : w10.cell? ⟨gb101, 2, none⟩ = some (.int .i64 a0_2) := (blk_cell BK101.out 2).trans rfl; have hcz12_3 : w10.cell? ⟨gb101, 3, none⟩ = some (.int .i64 a0_3) := (blk_cell BK101.out 3).trans rfl; have hcz12_4 : w10.cell? ⟨gb101, 4, none⟩ = some (.int .i64 a0_4) := (blk_cell BK101.out 4).trans rfl; have hfz12_0 := blk_frozen BK101.out 0; have hfz12_1 := blk_frozen BK101.out 1; have hfz12_2 := blk_frozen BK101.out 2; have hfz12_3 := blk_frozen BK101.out 3; have hfz12_4 := blk_frozen BK101.out 4; obtain ⟨Ao13, co13, eo13⟩ := Kd.R_slice HO104.out; subst eo13) | ((with_reducible refine zgc 112 ?_); refine zca 6 Try.func112 #[.slice Ao13 y102.length co13, .string a0_0] (slices_Contains_string_string.calls k _ _ y102 a0_0 false _ (zq16 HO104) (zq44 HO104) A2.out) ?_; rintro e w' ⟨rfl, ⟨nd, rfl⟩⟩; refine ⟨_, rfl, ?_⟩))
  go_ret
  exact ⟨zq8, zq2 GE101⟩
end Go.Proofs.Ytnaafcleafbejaa.Q
end
section
namespace Go.Proofs.Ytnaafcleafbejaa.Q
open Go.RowKit Go.Proofs.YtnaafcleafbejaaW.PrintWords Go.Proofs.YtnaafcleafbejaaW.PrintLast Go.Proofs.YtnaafcleafbejaaW.PrintMore
set_option maxHeartbeats 8000000
set_option maxRecDepth 100000
attribute [local go_sem] max2_int min2_int max_two min_two max_three min_three max_four min_four
set_option linter.unusedVariables false
set_option linter.unusedSimpArgs false
def impl_isReason.l0 : Nat → List (List Int) → Bool → List (List Int) → Int → Int → ByteArray → Int → Int → Int → Int → Option (Bool)
  | 0, _, _, _, _, _, _, _, _, _, _ => none
  | k + 1, x1, x2, x9, x10, x11, x102000, x102001, x102002, x102003, x102004 => if x11 < x10 then (if 0 ≤ x11 then (if x11 < (x9.length : Int) then (if x11 = 1 then (if x2 = true then (impl_isReason.l0 k x1 x2 x9 x10 (wrap64 (x11 + 1)) x102000 x102001 x102002 x102003 x102004) else ((impl_isColumn.f k x102000 x102001 x102002 x102003 x102004 x1 (rd_L10 x9 x11)).bind fun t103 => (if t103 = true then (some true) else (impl_isReason.l0 k x1 x2 x9 x10 (wrap64 (x11 + 1)) x102000 x102001 x102002 x102003 x102004)))) else ((impl_isColumn.f k x102000 x102001 x102002 x102003 x102004 x1 (rd_L10 x9 x11)).bind fun t104 => (if t104 = true then (some true) else (impl_isReason.l0 k x1 x2 x9 x10 (wrap64 (x11 + 1)) x102000 x102001 x102002 x102003 x102004)))) else (none)) else (none)) else ((impl_isTurned.f k x102000 x102001 x102002 x102003 x102004).bind fun t105 => (some t105))
def impl_isReason.f (k : Nat) (a0_0 : ByteArray) (a0_1 : Int) (a0_2 : Int) (a0_3 : Int) (a0_4 : Int) (l1 : List (List Int)) (a2 : Bool) : Option (Bool) := impl_isReason.l0 k l1 a2 l1 (l1.length : Int) 0 a0_0 a0_1 a0_2 a0_3 a0_4
theorem impl_isReason.mono_l : ∀ k, (∀ y0 y1 y2 y3 y4 y5 y6 y7 y8 y9, LeO (impl_isReason.l0 k y0 y1 y2 y3 y4 y5 y6 y7 y8 y9) (impl_isReason.l0 (k + 1) y0 y1 y2 y3 y4 y5 y6 y7 y8 y9))
  | 0 => fun _ _ _ _ _ _ _ _ _ _ r h => by simp [impl_isReason.l0] at h
  | k + 1 => by
    have ih0 := impl_isReason.mono_l k
    · intro y0 y1 y2 y3 y4 y5 y6 y7 y8 y9
      unfold impl_isReason.l0
      repeat' first
      | (with_reducible exact ih0 _ _ _ _ _ _ _ _ _ _)
      | (with_reducible exact impl_isColumn.mono _ _ _ _ _ _ _ _)
      | (with_reducible exact impl_isTurned.mono _ _ _ _ _ _)
      | (with_reducible exact LeO.refl _)
      | (with_reducible exact LeO.none _)
      | (with_reducible refine LeO.ite ?_ ?_)
      | (with_reducible refine LeO.bind ?_ (fun _ => ?_))
      | exact ih0 _ _ _ _ _ _ _ _ _ _
      | exact impl_isColumn.mono _ _ _ _ _ _ _ _
      | exact impl_isTurned.mono _ _ _ _ _ _
      | exact LeO.none _
      | refine LeO.ite ?_ ?_
      | refine LeO.bind ?_ (fun _ => ?_)
theorem impl_isReason.mono : ∀ a0 a1 a2 a3 a4 a5 a6 k, LeO (impl_isReason.f k a0 a1 a2 a3 a4 a5 a6) (impl_isReason.f (k + 1) a0 a1 a2 a3 a4 a5 a6) := by
  intro a0 a1 a2 a3 a4 a5 a6 k
  have ih0 := impl_isReason.mono_l k
  unfold impl_isReason.f
  repeat' first
      | (with_reducible exact ih0 _ _ _ _ _ _ _ _ _ _)
      | (with_reducible exact impl_isColumn.mono _ _ _ _ _ _ _ _)
      | (with_reducible exact impl_isTurned.mono _ _ _ _ _ _)
      | (with_reducible exact LeO.refl _)
      | (with_reducible exact LeO.none _)
      | (with_reducible refine LeO.ite ?_ ?_)
      | (with_reducible refine LeO.bind ?_ (fun _ => ?_))
      | exact ih0 _ _ _ _ _ _ _ _ _ _
      | exact impl_isColumn.mono _ _ _ _ _ _ _ _
      | exact impl_isTurned.mono _ _ _ _ _ _
      | exact LeO.none _
      | refine LeO.ite ?_ ?_
      | refine LeO.bind ?_ (fun _ => ?_)
theorem impl_isReason.calls (k : Nat) (a0_0 : ByteArray) (a0_1 : Int) (a0_2 : Int) (a0_3 : Int) (a0_4 : Int) (A1 : Option Addr) (c1 : Nat) (l1 : List (List Int)) (a2 : Bool) (r : Bool) (w : World) (hr1 : Kd.C (Kd.slice 5 (Kd.int .u8)) w A1 l1.length l1) (hc1 : l1.length ≤ c1) (h : impl_isReason.f k a0_0 a0_1 a0_2 a0_3 a0_4 l1 a2 = some r) :
    Calls Try.prog 54 #[.agg #[.string a0_0, .int .i64 a0_1, .int .i64 a0_2, .int .i64 a0_3, .int .i64 a0_4], .slice A1 l1.length c1, .bool a2] w fun e w' => e = .returned (.bool r) ∧ Below w.heap.size w w' := by
  have hu64 := Try.underlying64
  have HR1 := Aside0.mk hr1
  have HC1 := Aside0.mk hc1
  clear hr1 hc1
  have HB := Aside0.mk (Below.refl w.heap.size w)
  have H : (impl_isReason.l0 k l1 a2 l1 (l1.length : Int) 0 a0_0 a0_1 a0_2 a0_3 a0_4) = some r := h
  clear h
  have H' := Aside0.mk H
  clear H
  go_enter Try.func54, Try.ntmps54
  go_wp2_with (first | ((with_reducible refine zgd 3 ?_); refine box_event ?hg (N := 3) ?hd (cs := #[.string a0_0, .int .i64 a0_1, .int .i64 a0_2, .int .i64 a0_3, .int .i64 a0_4]) (t := 64) ?hr ?_; (case hd => rfl); (case hg => rfl); (case hr => first | (go_simp; done) | (go_simp; rfl)); intro gb101 hg w4 hbox hb; have BK101 := Aside0.mk (hbox); have GW101 := Aside0.mk ((zq11 : w.heap.size ≤ gb101)); have GE101 := Aside0.mk ((zq11 : w.heap.size ≤ gb101)); replace HB := Aside0.mk (below_step zq1 hb); clear hb hbox hg))
  go_loopg [11] k (fun kq v11 w' => ∃ (x11_1 : Int), v11 = .int .i64 x11_1 ∧ Aside0 (impl_isReason.l0 kq l1 a2 l1 (l1.length : Int) x11_1 a0_0 a0_1 a0_2 a0_3 a0_4 = some r) ∧ Aside0 (kq ≤ k) ∧ Aside0 (w'.heap[gb101]? = some (.cells #[.string a0_0, .int .i64 a0_1, .int .i64 a0_2, .int .i64 a0_3, .int .i64 a0_4] 64 (0, 0))) ∧ Aside0 (Below w.heap.size w w'))
  case atStart => exact ⟨(0), zq7, H', ⟨Nat.le_refl _⟩, ⟨zq3 BK101⟩, ⟨zq2 GE101⟩⟩
  clear H'
  try clear c1
  obtain ⟨x11_1, rfl, HA, HK1, BK101, HB⟩ := hrel
  cases gk with
  | zero => exact absurd HA.out (by simp [impl_isReason.l0])
  | succ k1 =>
  have H := HA.out
  clear HA
  simp only [impl_isReason.l0] at H
  by_cases c5 : x11_1 < (l1.length : Int)
  rotate_left
  · rw [if_neg c5] at H
    have c5b0 : decide (x11_1 < (l1.length : Int)) = false := decide_eq_false c5
    clear c5
    replace H := Option.bind_eq_some_iff.mp H
    obtain ⟨t105, A220, H⟩ := H
    replace H : (some t105) = some r := H
    have A22 := Aside0.mk A220
    clear A220
    obtain rfl := Option.some.inj H
    have hcz23_0 : wr.cell? ⟨gb101, 0, none⟩ = some (.string a0_0) := (blk_cell BK101.out 0).trans rfl
    have hcz23_1 : wr.cell? ⟨gb101, 1, none⟩ = some (.int .i64 a0_1) := (blk_cell BK101.out 1).trans rfl
    have hcz23_2 : wr.cell? ⟨gb101, 2, none⟩ = some (.int .i64 a0_2) := (blk_cell BK101.out 2).trans rfl
    have hcz23_3 : wr.cell? ⟨gb101, 3, none⟩ = some (.int .i64 a0_3) := (blk_cell BK101.out 3).trans rfl
    have hcz23_4 : wr.cell? ⟨gb101, 4, none⟩ = some (.int .i64 a0_4) := (blk_cell BK101.out 4).trans rfl
    have hfz23_0 := blk_frozen BK101.out 0
    have hfz23_1 := blk_frozen BK101.out 1
    have hfz23_2 := blk_frozen BK101.out 2
    have hfz23_3 := blk_frozen BK101.out 3
    have hfz23_4 := blk_frozen BK101.out 4
    go_wp2_with (first | ((with_reducible refine zgc 90 ?_); refine zcl 30 Try.func90 (impl_isTurned.calls k1 a0_0 a0_1 a0_2 a0_3 a0_4 t105 _ A22.out) ?_; rintro e w24 ⟨rfl, hb⟩; refine ⟨_, rfl, ?_⟩; replace BK101 := Aside0.mk (blk_below (g := gb101) (o := .cells #[.string a0_0, .int .i64 a0_1, .int .i64 a0_2, .int .i64 a0_3, .int .i64 a0_4] 64 (0, 0)) (zq3 BK101) hb); replace HB := Aside0.mk (below_step (zq2 GE101) hb); (try clear hb)))
    go_ret
    exact ⟨zq8, zq2 GE101⟩
  rw [if_pos c5] at H
  have c5b0 : decide (x11_1 < (l1.length : Int)) = true := decide_eq_true c5
  clear c5
  by_cases c6 : 0 ≤ x11_1
  rotate_left
  · rw [if_neg c6] at H
    exact absurd H (by simp)
  rw [if_pos c6] at H
  have c6b0 : decide (0 ≤ x11_1) = true := decide_eq_true c6
  clear c6
  by_cases c7 : x11_1 < (l1.length : Int)
  rotate_left
  · rw [if_neg c7] at H
    exact absurd H (by simp)
  rw [if_pos c7] at H
  have c7b0 : decide (x11_1 < (l1.length : Int)) = true := decide_eq_true c7
  clear c7
  by_cases c8 : x11_1 = 1
  rotate_left
  · rw [if_neg c8] at H
    obtain ⟨c8b0, c8b1⟩ := zbq c8
    replace H := Option.bind_eq_some_iff.mp H
    obtain ⟨t104, A160, H⟩ := H
    replace H : (if t104 = true then (some true) else (impl_isReason.l0 k1 l1 a2 l1 (l1.length : Int) (wrap64 (x11_1 + 1)) a0_0 a0_1 a0_2 a0_3 a0_4)) = some r := H
    have A16 := Aside0.mk A160
    clear A160
    by_cases c17 : t104 = true
    · subst c17
      have H1 : (some true) = some r := by rw [if_pos rfl] at H; exact H
      clear H
      have H := H1
      clear H1
      obtain rfl := Option.some.inj H
      have p102 : 0 ≤ (x11_1 : Int) := of_decide_eq_true zq4
      have q102 : x11_1 < (l1.length : Int) := of_decide_eq_true zq4
      obtain ⟨ad102, A102_0, c102_0, e102, hx102_0, hl102_0, hi102_0⟩ := at_L10 HR1.out x11_1 p102 q102
      cases e102
      replace hx102_0 := (HB.out.cell (World.block_lt_of_cell? w _ hx102_0)).trans hx102_0
      have HR102_0 := Aside0.mk hi102_0
      have HC102_0 := Aside0.mk hl102_0
      clear hi102_0 hl102_0
      replace p102 := eq_true p102
      replace q102 := eq_true q102
      have hcz18_0 : wr.cell? ⟨gb101, 0, none⟩ = some (.string a0_0) := (blk_cell BK101.out 0).trans rfl
      have hcz18_1 : wr.cell? ⟨gb101, 1, none⟩ = some (.int .i64 a0_1) := (blk_cell BK101.out 1).trans rfl
      have hcz18_2 : wr.cell? ⟨gb101, 2, none⟩ = some (.int .i64 a0_2) := (blk_cell BK101.out 2).trans rfl
      have hcz18_3 : wr.cell? ⟨gb101, 3, none⟩ = some (.int .i64 a0_3) := (blk_cell BK101.out 3).trans rfl
      have hcz18_4 : wr.cell? ⟨gb101, 4, none⟩ = some (.int .i64 a0_4) := (blk_cell BK101.out 4).trans rfl
      have hfz18_0 := blk_frozen BK101.out 0
      have hfz18_1 := blk_frozen BK101.out 1
      have hfz18_2 := blk_frozen BK101.out 2
      have hfz18_3 := blk_frozen BK101.out 3
      have hfz18_4 := blk_frozen BK101.out 4
      go_wp2_with (first | (go_at_call 89; (with_reducible refine (impl_isColumn.calls k1 a0_0 a0_1 a0_2 a0_3 a0_4 _ _ l1 _ _ (rd_L10 l1 x11_1) true _ ?side1 ?side2 ?side3 ?side4 A16.out).mono ?_); (case side1 => repeat (first | exact (Kd.C_below HR1.out HB.out) | (with_reducible refine Kd.C_alloc ?_ _) | (with_reducible refine Kd.C_drewN ?_ _) | (with_reducible refine Kd.C_drew ?_))); (case side2 => exact HC1.out); (case side3 => repeat (first | exact (Kd.C_below HR102_0.out HB.out) | (with_reducible refine Kd.C_alloc ?_ _) | (with_reducible refine Kd.C_drewN ?_ _) | (with_reducible refine Kd.C_drew ?_))); (case side4 => exact HC102_0.out); rintro e w19 ⟨rfl, hb⟩; replace BK101 := Aside0.mk (blk_below (g := gb101) (o := .cells #[.string a0_0, .int .i64 a0_1, .int .i64 a0_2, .int .i64 a0_3, .int .i64 a0_4] 64 (0, 0)) (zq3 BK101) hb); replace HB := Aside0.mk (below_step (zq2 GE101) hb); (try clear hb)))
      go_ret
      exact ⟨zq8, zq2 GE101⟩
    replace c17 := Bool.eq_false_iff.mpr c17
    subst c17
    have H1 : (impl_isReason.l0 k1 l1 a2 l1 (l1.length : Int) (wrap64 (x11_1 + 1)) a0_0 a0_1 a0_2 a0_3 a0_4) = some r := by rw [if_neg (show ¬ (false = true) by decide)] at H; exact H
    clear H
    have H := H1
    clear H1
    have H' := Aside0.mk H
    clear H
    have p102 : 0 ≤ (x11_1 : Int) := of_decide_eq_true zq4
    have q102 : x11_1 < (l1.length : Int) := of_decide_eq_true zq4
    obtain ⟨ad102, A102_0, c102_0, e102, hx102_0, hl102_0, hi102_0⟩ := at_L10 HR1.out x11_1 p102 q102
    cases e102
    replace hx102_0 := (HB.out.cell (World.block_lt_of_cell? w _ hx102_0)).trans hx102_0
    have HR102_0 := Aside0.mk hi102_0
    have HC102_0 := Aside0.mk hl102_0
    clear hi102_0 hl102_0
    replace p102 := eq_true p102
    replace q102 := eq_true q102
    have hcz20_0 : wr.cell? ⟨gb101, 0, none⟩ = some (.string a0_0) := (blk_cell BK101.out 0).trans rfl
    have hcz20_1 : wr.cell? ⟨gb101, 1, none⟩ = some (.int .i64 a0_1) := (blk_cell BK101.out 1).trans rfl
    have hcz20_2 : wr.cell? ⟨gb101, 2, none⟩ = some (.int .i64 a0_2) := (blk_cell BK101.out 2).trans rfl
    have hcz20_3 : wr.cell? ⟨gb101, 3, none⟩ = some (.int .i64 a0_3) := (blk_cell BK101.out 3).trans rfl
    have hcz20_4 : wr.cell? ⟨gb101, 4, none⟩ = some (.int .i64 a0_4) := (blk_cell BK101.out 4).trans rfl
    have hfz20_0 := blk_frozen BK101.out 0
    have hfz20_1 := blk_frozen BK101.out 1
    have hfz20_2 := blk_frozen BK101.out 2
    have hfz20_3 := blk_frozen BK101.out 3
    have hfz20_4 := blk_frozen BK101.out 4
    go_wp2_with (first | (go_at_call 89; (with_reducible refine (impl_isColumn.calls k1 a0_0 a0_1 a0_2 a0_3 a0_4 _ _ l1 _ _ (rd_L10 l1 x11_1) false _ ?side1 ?side2 ?side3 ?side4 A16.out).mono ?_); (case side1 => repeat (first | exact (Kd.C_below HR1.out HB.out) | (with_reducible refine Kd.C_alloc ?_ _) | (with_reducible refine Kd.C_drewN ?_ _) | (with_reducible refine Kd.C_drew ?_))); (case side2 => exact HC1.out); (case side3 => repeat (first | exact (Kd.C_below HR102_0.out HB.out) | (with_reducible refine Kd.C_alloc ?_ _) | (with_reducible refine Kd.C_drewN ?_ _) | (with_reducible refine Kd.C_drew ?_))); (case side4 => exact HC102_0.out); rintro e w21 ⟨rfl, hb⟩; replace BK101 := Aside0.mk (blk_below (g := gb101) (o := .cells #[.string a0_0, .int .i64 a0_1, .int .i64 a0_2, .int .i64 a0_3, .int .i64 a0_4] 64 (0, 0)) (zq3 BK101) hb); replace HB := Aside0.mk (below_step (zq2 GE101) hb); (try clear hb)))
    go_roundg k1
    case measure => have := HK1.out; omega
    case rel => exact ⟨(wrap64 (x11_1 + 1)), zq7, H', ⟨zq36 HK1⟩, ⟨zq3 BK101⟩, ⟨zq2 GE101⟩⟩
  rw [if_pos c8] at H
  obtain ⟨c8b0, c8b1⟩ := zbe c8
  clear c8
  by_cases c9 : a2 = true
  · subst c9
    have H1 : (impl_isReason.l0 k1 l1 true l1 (l1.length : Int) (wrap64 (x11_1 + 1)) a0_0 a0_1 a0_2 a0_3 a0_4) = some r := by rw [if_pos rfl] at H; exact H
    clear H
    have H := H1
    clear H1
    have H' := Aside0.mk H
    clear H
    have p102 : 0 ≤ (x11_1 : Int) := of_decide_eq_true zq4
    have q102 : x11_1 < (l1.length : Int) := of_decide_eq_true zq4
    obtain ⟨ad102, A102_0, c102_0, e102, hx102_0, hl102_0, hi102_0⟩ := at_L10 HR1.out x11_1 p102 q102
    cases e102
    replace hx102_0 := (HB.out.cell (World.block_lt_of_cell? w _ hx102_0)).trans hx102_0
    have HR102_0 := Aside0.mk hi102_0
    have HC102_0 := Aside0.mk hl102_0
    clear hi102_0 hl102_0
    replace p102 := eq_true p102
    replace q102 := eq_true q102
    go_wp2
    go_roundg k1
    case measure => have := HK1.out; omega
    case rel => exact ⟨(wrap64 (x11_1 + 1)), zq7, H', ⟨zq36 HK1⟩, ⟨zq3 BK101⟩, ⟨zq2 GE101⟩⟩
  replace c9 := Bool.eq_false_iff.mpr c9
  subst c9
  have H1 : ((impl_isColumn.f k1 a0_0 a0_1 a0_2 a0_3 a0_4 l1 (rd_L10 l1 x11_1)).bind fun t103 => (if t103 = true then (some true) else (impl_isReason.l0 k1 l1 false l1 (l1.length : Int) (wrap64 (x11_1 + 1)) a0_0 a0_1 a0_2 a0_3 a0_4))) = some r := by rw [if_neg (show ¬ (false = true) by decide)] at H; exact H
  clear H
  have H := H1
  clear H1
  replace H := Option.bind_eq_some_iff.mp H
  obtain ⟨t103, A100, H⟩ := H
  replace H : (if t103 = true then (some true) else (impl_isReason.l0 k1 l1 false l1 (l1.length : Int) (wrap64 (x11_1 + 1)) a0_0 a0_1 a0_2 a0_3 a0_4)) = some r := H
  have A10 := Aside0.mk A100
  clear A100
  by_cases c11 : t103 = true
  · subst c11
    have H1 : (some true) = some r := by rw [if_pos rfl] at H; exact H
    clear H
    have H := H1
    clear H1
    obtain rfl := Option.some.inj H
    have p102 : 0 ≤ (x11_1 : Int) := of_decide_eq_true zq4
    have q102 : x11_1 < (l1.length : Int) := of_decide_eq_true zq4
    obtain ⟨ad102, A102_0, c102_0, e102, hx102_0, hl102_0, hi102_0⟩ := at_L10 HR1.out x11_1 p102 q102
    cases e102
    replace hx102_0 := (HB.out.cell (World.block_lt_of_cell? w _ hx102_0)).trans hx102_0
    have HR102_0 := Aside0.mk hi102_0
    have HC102_0 := Aside0.mk hl102_0
    clear hi102_0 hl102_0
    replace p102 := eq_true p102
    replace q102 := eq_true q102
    have hcz12_0 : wr.cell? ⟨gb101, 0, none⟩ = some (.string a0_0) := (blk_cell BK101.out 0).trans rfl
    have hcz12_1 : wr.cell? ⟨gb101, 1, none⟩ = some (.int .i64 a0_1) := (blk_cell BK101.out 1).trans rfl
    have hcz12_2 : wr.cell? ⟨gb101, 2, none⟩ = some (.int .i64 a0_2) := (blk_cell BK101.out 2).trans rfl
    have hcz12_3 : wr.cell? ⟨gb101, 3, none⟩ = some (.int .i64 a0_3) := (blk_cell BK101.out 3).trans rfl
    have hcz12_4 : wr.cell? ⟨gb101, 4, none⟩ = some (.int .i64 a0_4) := (blk_cell BK101.out 4).trans rfl
    have hfz12_0 := blk_frozen BK101.out 0
    have hfz12_1 := blk_frozen BK101.out 1
    have hfz12_2 := blk_frozen BK101.out 2
    have hfz12_3 := blk_frozen BK101.out 3
    have hfz12_4 := blk_frozen BK101.out 4
    go_wp2_with (first | (go_at_call 89; (with_reducible refine (impl_isColumn.calls k1 a0_0 a0_1 a0_2 a0_3 a0_4 _ _ l1 _ _ (rd_L10 l1 x11_1) true _ ?side1 ?side2 ?side3 ?side4 A10.out).mono ?_); (case side1 => repeat (first | exact (Kd.C_below HR1.out HB.out) | (with_reducible refine Kd.C_alloc ?_ _) | (with_reducible refine Kd.C_drewN ?_ _) | (with_reducible refine Kd.C_drew ?_))); (case side2 => exact HC1.out); (case side3 => repeat (first | exact (Kd.C_below HR102_0.out HB.out) | (with_reducible refine Kd.C_alloc ?_ _) | (with_reducible refine Kd.C_drewN ?_ _) | (with_reducible refine Kd.C_drew ?_))); (case side4 => exact HC102_0.out); rintro e w13 ⟨rfl, hb⟩; replace BK101 := Aside0.mk (blk_below (g := gb101) (o := .cells #[.string a0_0, .int .i64 a0_1, .int .i64 a0_2, .int .i64 a0_3, .int .i64 a0_4] 64 (0, 0)) (zq3 BK101) hb); replace HB := Aside0.mk (below_step (zq2 GE101) hb); (try clear hb)))
    go_ret
    exact ⟨zq8, zq2 GE101⟩
  replace c11 := Bool.eq_false_iff.mpr c11
  subst c11
  have H1 : (impl_isReason.l0 k1 l1 false l1 (l1.length : Int) (wrap64 (x11_1 + 1)) a0_0 a0_1 a0_2 a0_3 a0_4) = some r := by rw [if_neg (show ¬ (false = true) by decide)] at H; exact H
  clear H
  have H := H1
  clear H1
  have H' := Aside0.mk H
  clear H
  have p102 : 0 ≤ (x11_1 : Int) := of_decide_eq_true zq4
  have q102 : x11_1 < (l1.length : Int) := of_decide_eq_true zq4
  obtain ⟨ad102, A102_0, c102_0, e102, hx102_0, hl102_0, hi102_0⟩ := at_L10 HR1.out x11_1 p102 q102
  cases e102
  replace hx102_0 := (HB.out.cell (World.block_lt_of_cell? w _ hx102_0)).trans hx102_0
  have HR102_0 := Aside0.mk hi102_0
  have HC102_0 := Aside0.mk hl102_0
  clear hi102_0 hl102_0
  replace p102 := eq_true p102
  replace q102 := eq_true q102
  have hcz14_0 : wr.cell? ⟨gb101, 0, none⟩ = some (.string a0_0) := (blk_cell BK101.out 0).trans rfl
  have hcz14_1 : wr.cell? ⟨gb101, 1, none⟩ = some (.int .i64 a0_1) := (blk_cell BK101.out 1).trans rfl
  have hcz14_2 : wr.cell? ⟨gb101, 2, none⟩ = some (.int .i64 a0_2) := (blk_cell BK101.out 2).trans rfl
  have hcz14_3 : wr.cell? ⟨gb101, 3, none⟩ = some (.int .i64 a0_3) := (blk_cell BK101.out 3).trans rfl
  have hcz14_4 : wr.cell? ⟨gb101, 4, none⟩ = some (.int .i64 a0_4) := (blk_cell BK101.out 4).trans rfl
  have hfz14_0 := blk_frozen BK101.out 0
  have hfz14_1 := blk_frozen BK101.out 1
  have hfz14_2 := blk_frozen BK101.out 2
  have hfz14_3 := blk_frozen BK101.out 3
  have hfz14_4 := blk_frozen BK101.out 4
  go_wp2_with (first | (go_at_call 89; (with_reducible refine (impl_isColumn.calls k1 a0_0 a0_1 a0_2 a0_3 a0_4 _ _ l1 _ _ (rd_L10 l1 x11_1) false _ ?side1 ?side2 ?side3 ?side4 A10.out).mono ?_); (case side1 => repeat (first | exact (Kd.C_below HR1.out HB.out) | (with_reducible refine Kd.C_alloc ?_ _) | (with_reducible refine Kd.C_drewN ?_ _) | (with_reducible refine Kd.C_drew ?_))); (case side2 => exact HC1.out); (case side3 => repeat (first | exact (Kd.C_below HR102_0.out HB.out) | (with_reducible refine Kd.C_alloc ?_ _) | (with_reducible refine Kd.C_drewN ?_ _) | (with_reducible refine Kd.C_drew ?_))); (case side4 => exact HC102_0.out); rintro e w15 ⟨rfl, hb⟩; replace BK101 := Aside0.mk (blk_below (g := gb101) (o := .cells #[.string a0_0, .int .i64 a0_1, .int .i64 a0_2, .int .i64 a0_3, .int .i64 a0_4] 64 (0, 0)) (zq3 BK101) hb); replace HB := Aside0.mk (below_step (zq2 GE101) hb); (try clear hb)))
  go_roundg k1
  case measure => have := HK1.out; omega
  case rel => exact ⟨(wrap64 (x11_1 + 1)), zq7, H', ⟨zq36 HK1⟩, ⟨zq3 BK101⟩, ⟨zq2 GE101⟩⟩
end Go.Proofs.Ytnaafcleafbejaa.Q
end
section
namespace Go.Proofs.Ytnaafcleafbejaa.Q
open Go.RowKit Go.Proofs.YtnaafcleafbejaaW.PrintWords Go.Proofs.YtnaafcleafbejaaW.PrintLast Go.Proofs.YtnaafcleafbejaaW.PrintMore
set_option maxHeartbeats 8000000
set_option maxRecDepth 100000
attribute [local go_sem] max2_int min2_int max_two min_two max_three min_three max_four min_four
set_option linter.unusedVariables false
set_option linter.unusedSimpArgs false
def impl_upTo.l0 : Nat → List Int → Int → Int → Option (List Int)
  | 0, _, _, _ => none
  | k + 1, x5, x11, x12 => if x12 < x11 then (if x5.length < 17592186044416 then (impl_upTo.l0 k (x5 ++ [x12]) x11 (wrap64 (x12 + 1))) else (none)) else (some x5)
def impl_upTo.f (k : Nat) (a0 : Bool) (a1 : Int) : Option (List Int) := if a0 = true then (impl_upTo.l0 k (([] : List Int)) a1 0) else (some (([0] : List Int)))
theorem impl_upTo.mono_l : ∀ k, (∀ y0 y1 y2, LeO (impl_upTo.l0 k y0 y1 y2) (impl_upTo.l0 (k + 1) y0 y1 y2))
  | 0 => fun _ _ _ r h => by simp [impl_upTo.l0] at h
  | k + 1 => by
    have ih0 := impl_upTo.mono_l k
    · intro y0 y1 y2
      unfold impl_upTo.l0
      repeat' first
      | (with_reducible exact ih0 _ _ _)
      | (with_reducible exact LeO.refl _)
      | (with_reducible exact LeO.none _)
      | (with_reducible refine LeO.ite ?_ ?_)
      | (with_reducible refine LeO.bind ?_ (fun _ => ?_))
      | exact ih0 _ _ _
      | exact LeO.none _
      | refine LeO.ite ?_ ?_
      | refine LeO.bind ?_ (fun _ => ?_)
theorem impl_upTo.mono : ∀ a0 a1 k, LeO (impl_upTo.f k a0 a1) (impl_upTo.f (k + 1) a0 a1) := by
  intro a0 a1 k
  have ih0 := impl_upTo.mono_l k
  unfold impl_upTo.f
  repeat' first
      | (with_reducible exact ih0 _ _ _)
      | (with_reducible exact LeO.refl _)
      | (with_reducible exact LeO.none _)
      | (with_reducible refine LeO.ite ?_ ?_)
      | (with_reducible refine LeO.bind ?_ (fun _ => ?_))
      | exact ih0 _ _ _
      | exact LeO.none _
      | refine LeO.ite ?_ ?_
      | refine LeO.bind ?_ (fun _ => ?_)
theorem impl_upTo.calls (k : Nat) (a0 : Bool) (a1 : Int) (r : List Int) (w : World) (h : impl_upTo.f k a0 a1 = some r) :
    Calls Try.prog 88 #[.bool a0, .int .i64 a1] w fun e w' => ∃ v0_ : Value, e = .returned (v0_) ∧ Kd.R (Kd.int .i64) 3 w' w.heap.size (fun _ => True) v0_ r ∧ Below w.heap.size w w' := by
  have HB := Aside0.mk (Below.refl w.heap.size w)
  have H : (if a0 = true then (impl_upTo.l0 k (([] : List Int)) a1 0) else (some (([0] : List Int)))) = some r := h
  clear h
  by_cases c3 : a0 = true
  rotate_left
  · replace c3 := Bool.eq_false_iff.mpr c3
    subst c3
    have H1 : (some (([0] : List Int))) = some r := by rw [if_neg (show ¬ (false = true) by decide)] at H; exact H
    clear H
    have H := H1
    clear H1
    obtain ⟨y101, hy101⟩ : ∃ y_ : List Int, y_ = (([0] : List Int)) := ⟨_, rfl⟩
    replace H : (some y101) = some r := by first | (rw [hy101]; with_reducible exact H) | (have H2_ := (Option.bind_some _ _).symm.trans H; rw [hy101]; with_reducible exact H2_) | (have H2_ := (Option.bind_some _ _).symm.trans H; with_reducible exact H2_) | with_reducible exact H | (rw [hy101]; exact H) | exact H
    have Ny101 := Aside0.mk hy101
    clear hy101
    obtain rfl := Option.some.inj H
    go_enter Try.func88, Try.ntmps88
    go_wp2_with (first | ((with_reducible refine zgd 9 ?_); refine Kd.R_lit (Kd.int .i64) _ 3 ?hg (N := 9) ?hd (xs := ([0] : List Int)) (inner := [.int .i64 0]) (ok := fun _ => True) (okp := fun _ => True) ?hr ?hp (fun _ hk => hk) trivial (Below.refl _ _) (Nat.le_refl _) (by simp) ?_; (case hd => rfl); (case hg => rfl); (case hr => first | (go_simp; done) | (go_simp; rfl)); (case hp => exact (Reps.one (show Kd.M (Kd.int .i64) _ _ _ 0 [.int .i64 0] from rfl) (Reps.none _ _))); intro v102 w9 ho10 hb hg_ hnew_; clear hg_ hnew_; (first | rw [← Ny101.out] at ho10 | (simp only [Int.reduceToNat] at ho10; rw [← Ny101.out] at ho10)); have HO103 := Aside0.mk (Kd.R_lower ho10 (below_size zq1)); replace HB := Aside0.mk (below_step zq1 hb); clear hb ho10))
    go_ret
    exact ⟨_, zq8, zq5 HO103, zq1⟩
  subst c3
  have H1 : (impl_upTo.l0 k (([] : List Int)) a1 0) = some r := by rw [if_pos rfl] at H; exact H
  clear H
  have H := H1
  clear H1
  obtain ⟨y104, hy104⟩ : ∃ y_ : List Int, y_ = (([] : List Int)) := ⟨_, rfl⟩
  replace H : (impl_upTo.l0 k y104 a1 0) = some r := by first | (rw [hy104]; with_reducible exact H) | (have H2_ := (Option.bind_some _ _).symm.trans H; rw [hy104]; with_reducible exact H2_) | (have H2_ := (Option.bind_some _ _).symm.trans H; with_reducible exact H2_) | with_reducible exact H | (rw [hy104]; exact H) | exact H
  have Ny104 := Aside0.mk hy104
  clear hy104
  have H' := Aside0.mk H
  clear H
  go_enter Try.func88, Try.ntmps88
  go_wp2_with (first | ((with_reducible refine zgd 10 ?_); refine Kd.R_lit (Kd.int .i64) _ 3 ?hg (N := 10) ?hd (xs := ([] : List Int)) (inner := []) (ok := fun _ => True) (okp := fun _ => True) ?hr ?hp (fun _ hk => hk) trivial (Below.refl _ _) (Nat.le_refl _) (by simp) ?_; (case hd => rfl); (case hg => rfl); (case hr => first | (go_simp; done) | (go_simp; rfl)); (case hp => exact (Reps.none _ _)); intro v105 w4 ho5 hb hg_ hnew_; clear hg_ hnew_; (first | rw [← Ny104.out] at ho5 | (simp only [Int.reduceToNat] at ho5; rw [← Ny104.out] at ho5)); have HO106 := Aside0.mk (Kd.R_lower ho5 (below_size zq1)); replace HB := Aside0.mk (below_step zq1 hb); clear hb ho5))
  go_loopg [5, 12] k (fun kq v5 v12 w' => ∃ (x5_1 : List Int) (x12_1 : Int), v12 = .int .i64 x12_1 ∧ Aside0 (impl_upTo.l0 kq x5_1 a1 x12_1 = some r) ∧ Aside0 (kq ≤ k) ∧ Aside0 (Kd.R (Kd.int .i64) 3 w' w.heap.size (fun _ => True) v5 x5_1) ∧ Aside0 (Below w.heap.size w w'))
  case atStart => exact ⟨(y104), (0), zq7, H', ⟨Nat.le_refl _⟩, ⟨zq5 HO106⟩, ⟨zq1⟩⟩
  clear H'
  try clear c3
  obtain ⟨x5_1, x12_1, rfl, HA, HK1, HO_5, HB⟩ := hrel
  cases gk with
  | zero => exact absurd HA.out (by simp [impl_upTo.l0])
  | succ k1 =>
  have H := HA.out
  clear HA
  simp only [impl_upTo.l0] at H
  by_cases c6 : x12_1 < a1
  rotate_left
  · rw [if_neg c6] at H
    have c6b0 : decide (x12_1 < a1) = false := decide_eq_false c6
    clear c6
    obtain rfl := Option.some.inj H
    go_wp2
    go_ret
    exact ⟨_, zq8, zq5 HO_5, zq1⟩
  rw [if_pos c6] at H
  have c6b0 : decide (x12_1 < a1) = true := decide_eq_true c6
  clear c6
  by_cases c7 : x5_1.length < 17592186044416
  rotate_left
  · rw [if_neg c7] at H
    exact absurd H (by simp)
  rw [if_pos c7] at H
  have LMc7 := Aside0.mk c7
  clear c7
  obtain ⟨y107, hy107⟩ : ∃ y_ : List Int, y_ = (x5_1 ++ [x12_1]) := ⟨_, rfl⟩
  replace H : (impl_upTo.l0 k1 y107 a1 (wrap64 (x12_1 + 1))) = some r := by first | (rw [hy107]; with_reducible exact H) | (have H2_ := (Option.bind_some _ _).symm.trans H; rw [hy107]; with_reducible exact H2_) | (have H2_ := (Option.bind_some _ _).symm.trans H; with_reducible exact H2_) | with_reducible exact H | (rw [hy107]; exact H) | exact H
  have Ny107 := Aside0.mk hy107
  clear hy107
  have H' := Aside0.mk H
  clear H
  go_wp2_with (first | ((with_reducible refine gate_builtin (b := .append) (xs := #[.tmp 15, .tmp 17]) rfl ?_); at_builtin; refine Kd.R_append (Kd.int .i64) (w0 := w) w.heap.size rfl (.tmp 15) (.tmp 17) 24 3 (.int .i64 0) 8 rfl Try.underlying24 info3 rfl (by decide) (by omega) u5 x5_1 x12_1 [.int .i64 x12_1] (fun _ => True) (fun _ => False) rfl rfl ?aP (fun _ hk => hk.elim) ?aF ?aO ?aB ?aS ?aL ?_; (case aP => exact rfl); (case aB => exact zq1); (case aF => exact (fun _ _ => trivial)); (case aO => exact (zq5 HO_5)); (case aS => exact (below_size zq1)); (case aL => have := LMc7.out; omega); intro v108 w8 ho hb hg hat; rw [← Ny107.out] at ho; replace HB := Aside0.mk (hb); have HO109 := Aside0.mk (ho); clear HO_5; clear ho hb hg hat))
  go_roundg k1
  case measure => have := HK1.out; omega
  case rel => exact ⟨(y107), (wrap64 (x12_1 + 1)), zq7, H', ⟨zq36 HK1⟩, ⟨zq5 HO109⟩, ⟨zq1⟩⟩
end Go.Proofs.Ytnaafcleafbejaa.Q
end
section
namespace Go.Proofs.Ytnaafcleafbejaa.Q
open Go.RowKit Go.Proofs.YtnaafcleafbejaaW.PrintWords Go.Proofs.YtnaafcleafbejaaW.PrintLast Go.Proofs.YtnaafcleafbejaaW.PrintMore
set_option maxHeartbeats 8000000
set_option maxRecDepth 100000
attribute [local go_sem] max2_int min2_int max_two min_two max_three min_three max_four min_four
set_option linter.unusedVariables false
set_option linter.unusedSimpArgs false
mutual
def impl_steps.l0 : Nat → Int → List (S64) → List ByteArray → Int → Int → List ByteArray → List Int → Option ((List (S64)))
  | 0, _, _, _, _, _, _, _ => none
  | k + 1, x1, x5, x19, x20, x21, x102000, x102001 => if x21 < x20 then (if 0 ≤ x21 then (if x21 < (x19.length : Int) then ((impl_formOf.f (rdOf ByteArray.empty x19 x21)).bind fun bt106 => ((impl_form_imm.f bt106.1 bt106.2.1 bt106.2.2.1 bt106.2.2.2.1 bt106.2.2.2.2.1 bt106.2.2.2.2.2.1).bind fun t117 => (if t117 = true then (impl_steps.j1 k x1 x5 (rdOf ByteArray.empty x19 x21) x102001 x19 x20 x21 x102000 x102001 bt106.1 bt106.2.1 bt106.2.2.1 bt106.2.2.2.1 bt106.2.2.2.2.1 bt106.2.2.2.2.2.1) else (impl_steps.j1 k x1 x5 (rdOf ByteArray.empty x19 x21) (([0] : List Int)) x19 x20 x21 x102000 x102001 bt106.1 bt106.2.1 bt106.2.2.1 bt106.2.2.2.1 bt106.2.2.2.2.1 bt106.2.2.2.2.2.1)))) else (none)) else (none)) else (some x5)
def impl_steps.j1 : Nat → Int → List (S64) → ByteArray → List Int → List ByteArray → Int → Int → List ByteArray → List Int → Bool → Bool → Int → Int → Int → ByteArray → Option ((List (S64)))
  | 0, _, _, _, _, _, _, _, _, _, _, _, _, _, _, _ => none
  | k + 1, x1, x5, x7, x10, x19, x20, x21, x102000, x102001, x114000, x114001, x114002, x114003, x114004, x114005 => (impl_upTo.f k x114000 (wrap64 (2 + x1))).bind fun t118 => (impl_steps.l1 k x1 x5 x7 x10 x19 x20 x21 t118 (t118.length : Int) 0 x102000 x102001 x114000 x114001 x114002 x114003 x114004 x114005)
def impl_steps.l1 : Nat → Int → List (S64) → ByteArray → List Int → List ByteArray → Int → Int → List Int → Int → Int → List ByteArray → List Int → Bool → Bool → Int → Int → Int → ByteArray → Option ((List (S64)))
  | 0, _, _, _, _, _, _, _, _, _, _, _, _, _, _, _, _, _, _ => none
  | k + 1, x1, x5, x7, x10, x19, x20, x21, x39, x40, x41, x102000, x102001, x114000, x114001, x114002, x114003, x114004, x114005 => if x41 < x40 then (if 0 ≤ x41 then (if x41 < (x39.length : Int) then ((impl_upTo.f k x114001 (wrap64 (2 + x1))).bind fun t122 => (impl_steps.l2 k x1 x5 x7 x10 (rd x39 x41) x19 x20 x21 x39 x40 x41 t122 (t122.length : Int) 0 x102000 x102001 x114000 x114001 x114002 x114003 x114004 x114005)) else (none)) else (none)) else (impl_steps.l0 k x1 x5 x19 x20 (wrap64 (x21 + 1)) x102000 x102001)
def impl_steps.l2 : Nat → Int → List (S64) → ByteArray → List Int → Int → List ByteArray → Int → Int → List Int → Int → Int → List Int → Int → Int → List ByteArray → List Int → Bool → Bool → Int → Int → Int → ByteArray → Option ((List (S64)))
  | 0, _, _, _, _, _, _, _, _, _, _, _, _, _, _, _, _, _, _, _, _, _, _ => none
  | k + 1, x1, x5, x7, x10, x12, x19, x20, x21, x39, x40, x41, x49, x50, x51, x102000, x102001, x114000, x114001, x114002, x114003, x114004, x114005 => if x51 < x50 then (if 0 ≤ x51 then (if x51 < (x49.length : Int) then (impl_steps.l3 k x1 x5 x7 x10 x12 (rd x49 x51) x19 x20 x21 x39 x40 x41 x49 x50 x51 x10 (x10.length : Int) 0 x102000 x102001 x114000 x114001 x114002 x114003 x114004 x114005) else (none)) else (none)) else (impl_steps.l1 k x1 x5 x7 x10 x19 x20 x21 x39 x40 (wrap64 (x41 + 1)) x102000 x102001 x114000 x114001 x114002 x114003 x114004 x114005)
def impl_steps.l3 : Nat → Int → List (S64) → ByteArray → List Int → Int → Int → List ByteArray → Int → Int → List Int → Int → Int → List Int → Int → Int → List Int → Int → Int → List ByteArray → List Int → Bool → Bool → Int → Int → Int → ByteArray → Option ((List (S64)))
  | 0, _, _, _, _, _, _, _, _, _, _, _, _, _, _, _, _, _, _, _, _, _, _, _, _, _, _ => none
  | k + 1, x1, x5, x7, x10, x12, x14, x19, x20, x21, x39, x40, x41, x49, x50, x51, x55, x56, x57, x102000, x102001, x114000, x114001, x114002, x114003, x114004, x114005 => if x57 < x56 then (if 0 ≤ x57 then (if x57 < (x55.length : Int) then (if x5.length < 2932031007402 then (impl_steps.l3 k x1 (x5 ++ [(⟨x7, wrap64 (2 + x1), x12, x14, rd x55 x57⟩ : S64)]) x7 x10 x12 x14 x19 x20 x21 x39 x40 x41 x49 x50 x51 x55 x56 (wrap64 (x57 + 1)) x102000 x102001 x114000 x114001 x114002 x114003 x114004 x114005) else (none)) else (none)) else (none)) else (impl_steps.l2 k x1 x5 x7 x10 x12 x19 x20 x21 x39 x40 x41 x49 x50 (wrap64 (x51 + 1)) x102000 x102001 x114000 x114001 x114002 x114003 x114004 x114005)
end
def impl_steps.f (k : Nat) (l0_0 : List ByteArray) (l0_1 : List Int) (a1 : Int) : Option ((List (S64))) := impl_steps.l0 k a1 (([] : List (S64))) l0_0 (l0_0.length : Int) 0 l0_0 l0_1
theorem impl_steps.mono_l : ∀ k, (∀ y0 y1 y2 y3 y4 y5 y6, LeO (impl_steps.l0 k y0 y1 y2 y3 y4 y5 y6) (impl_steps.l0 (k + 1) y0 y1 y2 y3 y4 y5 y6)) ∧ (∀ y0 y1 y2 y3 y4 y5 y6 y7 y8 y9 y10 y11 y12 y13 y14, LeO (impl_steps.j1 k y0 y1 y2 y3 y4 y5 y6 y7 y8 y9 y10 y11 y12 y13 y14) (impl_steps.j1 (k + 1) y0 y1 y2 y3 y4 y5 y6 y7 y8 y9 y10 y11 y12 y13 y14)) ∧ (∀ y0 y1 y2 y3 y4 y5 y6 y7 y8 y9 y10 y11 y12 y13 y14 y15 y16 y17, LeO (impl_steps.l1 k y0 y1 y2 y3 y4 y5 y6 y7 y8 y9 y10 y11 y12 y13 y14 y15 y16 y17) (impl_steps.l1 (k + 1) y0 y1 y2 y3 y4 y5 y6 y7 y8 y9 y10 y11 y12 y13 y14 y15 y16 y17)) ∧ (∀ y0 y1 y2 y3 y4 y5 y6 y7 y8 y9 y10 y11 y12 y13 y14 y15 y16 y17 y18 y19 y20 y21, LeO (impl_steps.l2 k y0 y1 y2 y3 y4 y5 y6 y7 y8 y9 y10 y11 y12 y13 y14 y15 y16 y17 y18 y19 y20 y21) (impl_steps.l2 (k + 1) y0 y1 y2 y3 y4 y5 y6 y7 y8 y9 y10 y11 y12 y13 y14 y15 y16 y17 y18 y19 y20 y21)) ∧ (∀ y0 y1 y2 y3 y4 y5 y6 y7 y8 y9 y10 y11 y12 y13 y14 y15 y16 y17 y18 y19 y20 y21 y22 y23 y24 y25, LeO (impl_steps.l3 k y0 y1 y2 y3 y4 y5 y6 y7 y8 y9 y10 y11 y12 y13 y14 y15 y16 y17 y18 y19 y20 y21 y22 y23 y24 y25) (impl_steps.l3 (k + 1) y0 y1 y2 y3 y4 y5 y6 y7 y8 y9 y10 y11 y12 y13 y14 y15 y16 y17 y18 y19 y20 y21 y22 y23 y24 y25))
  | 0 => ⟨fun _ _ _ _ _ _ _ r h => by simp [impl_steps.l0] at h, fun _ _ _ _ _ _ _ _ _ _ _ _ _ _ _ r h => by simp [impl_steps.j1] at h, fun _ _ _ _ _ _ _ _ _ _ _ _ _ _ _ _ _ _ r h => by simp [impl_steps.l1] at h, fun _ _ _ _ _ _ _ _ _ _ _ _ _ _ _ _ _ _ _ _ _ _ r h => by simp [impl_steps.l2] at h, fun _ _ _ _ _ _ _ _ _ _ _ _ _ _ _ _ _ _ _ _ _ _ _ _ _ _ r h => by simp [impl_steps.l3] at h⟩
  | k + 1 => by
    obtain ⟨ih0, ih1, ih2, ih3, ih4⟩ := impl_steps.mono_l k
    refine ⟨?_, ?_, ?_, ?_, ?_⟩
    · intro y0 y1 y2 y3 y4 y5 y6
      unfold impl_steps.l0
      repeat' first
      | (with_reducible exact ih0 _ _ _ _ _ _ _)
      | (with_reducible exact ih1 _ _ _ _ _ _ _ _ _ _ _ _ _ _ _)
      | (with_reducible exact ih2 _ _ _ _ _ _ _ _ _ _ _ _ _ _ _ _ _ _)
      | (with_reducible exact ih3 _ _ _ _ _ _ _ _ _ _ _ _ _ _ _ _ _ _ _ _ _ _)
      | (with_reducible exact ih4 _ _ _ _ _ _ _ _ _ _ _ _ _ _ _ _ _ _ _ _ _ _ _ _ _ _)
      | (with_reducible exact impl_upTo.mono _ _ _)
      | (with_reducible exact LeO.refl _)
      | (with_reducible exact LeO.none _)
      | (with_reducible refine LeO.ite ?_ ?_)
      | (with_reducible refine LeO.bind ?_ (fun _ => ?_))
      | exact ih0 _ _ _ _ _ _ _
      | exact ih1 _ _ _ _ _ _ _ _ _ _ _ _ _ _ _
      | exact ih2 _ _ _ _ _ _ _ _ _ _ _ _ _ _ _ _ _ _
      | exact ih3 _ _ _ _ _ _ _ _ _ _ _ _ _ _ _ _ _ _ _ _ _ _
      | exact ih4 _ _ _ _ _ _ _ _ _ _ _ _ _ _ _ _ _ _ _ _ _ _ _ _ _ _
      | exact impl_upTo.mono _ _ _
      | exact LeO.none _
      | refine LeO.ite ?_ ?_
      | refine LeO.bind ?_ (fun _ => ?_)
    · intro y0 y1 y2 y3 y4 y5 y6 y7 y8 y9 y10 y11 y12 y13 y14
      unfold impl_steps.j1
      repeat' first
      | (with_reducible exact ih0 _ _ _ _ _ _ _)
      | (with_reducible exact ih1 _ _ _ _ _ _ _ _ _ _ _ _ _ _ _)
      | (with_reducible exact ih2 _ _ _ _ _ _ _ _ _ _ _ _ _ _ _ _ _ _)
      | (with_reducible exact ih3 _ _ _ _ _ _ _ _ _ _ _ _ _ _ _ _ _ _ _ _ _ _)
      | (with_reducible exact ih4 _ _ _ _ _ _ _ _ _ _ _ _ _ _ _ _ _ _ _ _ _ _ _ _ _ _)
      | (with_reducible exact impl_upTo.mono _ _ _)
      | (with_reducible exact LeO.refl _)
      | (with_reducible exact LeO.none _)
      | (with_reducible refine LeO.ite ?_ ?_)
      | (with_reducible refine LeO.bind ?_ (fun _ => ?_))
      | exact ih0 _ _ _ _ _ _ _
      | exact ih1 _ _ _ _ _ _ _ _ _ _ _ _ _ _ _
      | exact ih2 _ _ _ _ _ _ _ _ _ _ _ _ _ _ _ _ _ _
      | exact ih3 _ _ _ _ _ _ _ _ _ _ _ _ _ _ _ _ _ _ _ _ _ _
      | exact ih4 _ _ _ _ _ _ _ _ _ _ _ _ _ _ _ _ _ _ _ _ _ _ _ _ _ _
      | exact impl_upTo.mono _ _ _
      | exact LeO.none _
      | refine LeO.ite ?_ ?_
      | refine LeO.bind ?_ (fun _ => ?_)
    · intro y0 y1 y2 y3 y4 y5 y6 y7 y8 y9 y10 y11 y12 y13 y14 y15 y16 y17
      unfold impl_steps.l1
      repeat' first
      | (with_reducible exact ih0 _ _ _ _ _ _ _)
      | (with_reducible exact ih1 _ _ _ _ _ _ _ _ _ _ _ _ _ _ _)
      | (with_reducible exact ih2 _ _ _ _ _ _ _ _ _ _ _ _ _ _ _ _ _ _)
      | (with_reducible exact ih3 _ _ _ _ _ _ _ _ _ _ _ _ _ _ _ _ _ _ _ _ _ _)
      | (with_reducible exact ih4 _ _ _ _ _ _ _ _ _ _ _ _ _ _ _ _ _ _ _ _ _ _ _ _ _ _)
      | (with_reducible exact impl_upTo.mono _ _ _)
      | (with_reducible exact LeO.refl _)
      | (with_reducible exact LeO.none _)
      | (with_reducible refine LeO.ite ?_ ?_)
      | (with_reducible refine LeO.bind ?_ (fun _ => ?_))
      | exact ih0 _ _ _ _ _ _ _
      | exact ih1 _ _ _ _ _ _ _ _ _ _ _ _ _ _ _
      | exact ih2 _ _ _ _ _ _ _ _ _ _ _ _ _ _ _ _ _ _
      | exact ih3 _ _ _ _ _ _ _ _ _ _ _ _ _ _ _ _ _ _ _ _ _ _
      | exact ih4 _ _ _ _ _ _ _ _ _ _ _ _ _ _ _ _ _ _ _ _ _ _ _ _ _ _
      | exact impl_upTo.mono _ _ _
      | exact LeO.none _
      | refine LeO.ite ?_ ?_
      | refine LeO.bind ?_ (fun _ => ?_)
    · intro y0 y1 y2 y3 y4 y5 y6 y7 y8 y9 y10 y11 y12 y13 y14 y15 y16 y17 y18 y19 y20 y21
      unfold impl_steps.l2
      repeat' first
      | (with_reducible exact ih0 _ _ _ _ _ _ _)
      | (with_reducible exact ih1 _ _ _ _ _ _ _ _ _ _ _ _ _ _ _)
      | (with_reducible exact ih2 _ _ _ _ _ _ _ _ _ _ _ _ _ _ _ _ _ _)
      | (with_reducible exact ih3 _ _ _ _ _ _ _ _ _ _ _ _ _ _ _ _ _ _ _ _ _ _)
      | (with_reducible exact ih4 _ _ _ _ _ _ _ _ _ _ _ _ _ _ _ _ _ _ _ _ _ _ _ _ _ _)
      | (with_reducible exact impl_upTo.mono _ _ _)
      | (with_reducible exact LeO.refl _)
      | (with_reducible exact LeO.none _)
      | (with_reducible refine LeO.ite ?_ ?_)
      | (with_reducible refine LeO.bind ?_ (fun _ => ?_))
      | exact ih0 _ _ _ _ _ _ _
      | exact ih1 _ _ _ _ _ _ _ _ _ _ _ _ _ _ _
      | exact ih2 _ _ _ _ _ _ _ _ _ _ _ _ _ _ _ _ _ _
      | exact ih3 _ _ _ _ _ _ _ _ _ _ _ _ _ _ _ _ _ _ _ _ _ _
      | exact ih4 _ _ _ _ _ _ _ _ _ _ _ _ _ _ _ _ _ _ _ _ _ _ _ _ _ _
      | exact impl_upTo.mono _ _ _
      | exact LeO.none _
      | refine LeO.ite ?_ ?_
      | refine LeO.bind ?_ (fun _ => ?_)
    · intro y0 y1 y2 y3 y4 y5 y6 y7 y8 y9 y10 y11 y12 y13 y14 y15 y16 y17 y18 y19 y20 y21 y22 y23 y24 y25
      unfold impl_steps.l3
      repeat' first
      | (with_reducible exact ih0 _ _ _ _ _ _ _)
      | (with_reducible exact ih1 _ _ _ _ _ _ _ _ _ _ _ _ _ _ _)
      | (with_reducible exact ih2 _ _ _ _ _ _ _ _ _ _ _ _ _ _ _ _ _ _)
      | (with_reducible exact ih3 _ _ _ _ _ _ _ _ _ _ _ _ _ _ _ _ _ _ _ _ _ _)
      | (with_reducible exact ih4 _ _ _ _ _ _ _ _ _ _ _ _ _ _ _ _ _ _ _ _ _ _ _ _ _ _)
      | (with_reducible exact impl_upTo.mono _ _ _)
      | (with_reducible exact LeO.refl _)
      | (with_reducible exact LeO.none _)
      | (with_reducible refine LeO.ite ?_ ?_)
      | (with_reducible refine LeO.bind ?_ (fun _ => ?_))
      | exact ih0 _ _ _ _ _ _ _
      | exact ih1 _ _ _ _ _ _ _ _ _ _ _ _ _ _ _
      | exact ih2 _ _ _ _ _ _ _ _ _ _ _ _ _ _ _ _ _ _
      | exact ih3 _ _ _ _ _ _ _ _ _ _ _ _ _ _ _ _ _ _ _ _ _ _
      | exact ih4 _ _ _ _ _ _ _ _ _ _ _ _ _ _ _ _ _ _ _ _ _ _ _ _ _ _
      | exact impl_upTo.mono _ _ _
      | exact LeO.none _
      | refine LeO.ite ?_ ?_
      | refine LeO.bind ?_ (fun _ => ?_)
theorem impl_steps.mono : ∀ a0 a1 a2 k, LeO (impl_steps.f k a0 a1 a2) (impl_steps.f (k + 1) a0 a1 a2) := by
  intro a0 a1 a2 k
  obtain ⟨ih0, ih1, ih2, ih3, ih4⟩ := impl_steps.mono_l k
  unfold impl_steps.f
  repeat' first
      | (with_reducible exact ih0 _ _ _ _ _ _ _)
      | (with_reducible exact ih1 _ _ _ _ _ _ _ _ _ _ _ _ _ _ _)
      | (with_reducible exact ih2 _ _ _ _ _ _ _ _ _ _ _ _ _ _ _ _ _ _)
      | (with_reducible exact ih3 _ _ _ _ _ _ _ _ _ _ _ _ _ _ _ _ _ _ _ _ _ _)
      | (with_reducible exact ih4 _ _ _ _ _ _ _ _ _ _ _ _ _ _ _ _ _ _ _ _ _ _ _ _ _ _)
      | (with_reducible exact impl_upTo.mono _ _ _)
      | (with_reducible exact LeO.refl _)
      | (with_reducible exact LeO.none _)
      | (with_reducible refine LeO.ite ?_ ?_)
      | (with_reducible refine LeO.bind ?_ (fun _ => ?_))
      | exact ih0 _ _ _ _ _ _ _
      | exact ih1 _ _ _ _ _ _ _ _ _ _ _ _ _ _ _
      | exact ih2 _ _ _ _ _ _ _ _ _ _ _ _ _ _ _ _ _ _
      | exact ih3 _ _ _ _ _ _ _ _ _ _ _ _ _ _ _ _ _ _ _ _ _ _
      | exact ih4 _ _ _ _ _ _ _ _ _ _ _ _ _ _ _ _ _ _ _ _ _ _ _ _ _ _
      | exact impl_upTo.mono _ _ _
      | exact LeO.none _
      | refine LeO.ite ?_ ?_
      | refine LeO.bind ?_ (fun _ => ?_)
theorem impl_steps.calls (k : Nat) (A0_0 : Option Addr) (c0_0 : Nat) (l0_0 : List ByteArray) (P0_1_ : Nat → Prop) (A0_1 : Option Addr) (c0_1 : Nat) (l0_1 : List Int) (a1 : Int) (r : List (S64)) (w : World) (hr0_0 : Kd.C Kd.string w A0_0 l0_0.length l0_0) (hc0_0 : l0_0.length ≤ c0_0) (hs0_1 : Kd.V (Kd.int .i64) 3 w w.heap.size (fun k_ => P0_1_ k_) (.slice A0_1 l0_1.length c0_1) l0_1) (h : impl_steps.f k l0_0 l0_1 a1 = some r) :
    Calls Try.prog 53 #[.agg #[.slice A0_0 l0_0.length c0_0, .slice A0_1 l0_1.length c0_1], .int .i64 a1] w fun e w' => ∃ v0_ : Value, e = .returned (v0_) ∧ Kd.R k64 64 w' w.heap.size (fun k_ => (w.heap.size ≤ k_)) v0_ r ∧ Below w.heap.size w w' := by
  have hu35 := Try.underlying35
  have hu116 := Try.underlying116
  have hu64 := Try.underlying64
  have HR0_0 := Aside0.mk hr0_0
  have HC0_0 := Aside0.mk hc0_0
  clear hr0_0 hc0_0
  have HO0_1 := Aside0.mk (show Kd.V (Kd.int .i64) 3 w w.heap.size (fun k_ => (P0_1_ k_ ∨ w.heap.size ≤ k_)) (.slice A0_1 l0_1.length c0_1) l0_1 from Kd.V_mono hs0_1 (fun k_ hk => .inl hk))
  have HB := Aside0.mk (Below.refl w.heap.size w)
  have H : (impl_steps.l0 k a1 (([] : List (S64))) l0_0 (l0_0.length : Int) 0 l0_0 l0_1) = some r := h
  clear h
  obtain ⟨y102, hy102⟩ : ∃ y_ : List (S64), y_ = (([] : List (S64))) := ⟨_, rfl⟩
  replace H : (impl_steps.l0 k a1 y102 l0_0 (l0_0.length : Int) 0 l0_0 l0_1) = some r := by first | (rw [hy102]; with_reducible exact H) | (have H2_ := (Option.bind_some _ _).symm.trans H; rw [hy102]; with_reducible exact H2_) | (have H2_ := (Option.bind_some _ _).symm.trans H; with_reducible exact H2_) | with_reducible exact H | (rw [hy102]; exact H) | exact H
  have Ny102 := Aside0.mk hy102
  clear hy102
  have H' := Aside0.mk H
  clear H
  go_enter Try.func53, Try.ntmps53
  go_wp2_with (first | ((with_reducible refine zgd 2 ?_); refine box_event ?hg (N := 2) ?hd (cs := #[.slice A0_0 l0_0.length c0_0, .slice A0_1 l0_1.length c0_1]) (t := 35) ?hr ?_; (case hd => rfl); (case hg => rfl); (case hr => first | (go_simp; done) | (go_simp; rfl)); intro gb101 hg w3 hbox hb; replace HO0_1 := Aside0.mk (Kd.V_below (Kd.V_elderB (zq12 HO0_1) gb101 (Nat.le_of_eq hg.symm)) hb); have BK101 := Aside0.mk (hbox); have GW101 := Aside0.mk ((zq11 : w.heap.size ≤ gb101)); have GE101 := Aside0.mk ((zq11 : w.heap.size ≤ gb101)); replace HB := Aside0.mk (below_step zq1 hb); clear hb hbox hg) | ((with_reducible refine zgd 17 ?_); refine Kd.R_lit k64 _ 64 ?hg (N := 17) ?hd (xs := ([] : List (S64))) (inner := []) (ok := fun _ => True) (okp := fun _ => True) ?hr ?hp (fun _ hk => hk) trivial (Below.refl _ _) (Nat.le_refl _) (by simp) ?_; (case hd => rfl); (case hg => rfl); (case hr => first | (go_simp; done) | (go_simp; rfl)); (case hp => exact (Reps.none _ _)); intro v103 w4 ho5 hb hg_ hnew_; clear hg_ hnew_; (first | rw [← Ny102.out] at ho5 | (simp only [Int.reduceToNat] at ho5; rw [← Ny102.out] at ho5)); replace HO0_1 := Aside0.mk (Kd.V_elder' (zq12 HO0_1) (Kd.R_base ho5) hb); have HO104 := Aside0.mk (Kd.R_lower (Kd.R_newM (M := fun k_ => (w.heap.size ≤ k_)) ho5 (below_size (zq2 GE101)) (fun k_ h_ => h_)) (below_size (zq2 GE101))); replace BK101 := Aside0.mk (blk_below (g := gb101) (o := .cells #[.slice A0_0 l0_0.length c0_0, .slice A0_1 l0_1.length c0_1] 35 (0, 0)) (zq3 BK101) hb); replace HB := Aside0.mk (below_step (zq2 GE101) hb); clear hb ho5; have hcz6_0 : w4.cell? ⟨gb101, 0, none⟩ = some (.slice A0_0 l0_0.length c0_0) := (blk_cell BK101.out 0).trans rfl; have hcz6_1 : w4.cell? ⟨gb101, 1, none⟩ = some (.slice A0_1 l0_1.length c0_1) := (blk_cell BK101.out 1).trans rfl; have hfz6_0 := blk_frozen BK101.out 0; have hfz6_1 := blk_frozen BK101.out 1))
  go_loopg [5, 21] k (fun kq v5 v21 w' => ∃ (x5_1 : List (S64)) (x21_1 : Int), v21 = .int .i64 x21_1 ∧ Aside0 (impl_steps.l0 kq a1 x5_1 l0_0 (l0_0.length : Int) x21_1 l0_0 l0_1 = some r) ∧ Aside0 (kq ≤ k) ∧ Aside0 (Kd.R k64 64 w' w.heap.size (fun k_ => (w.heap.size ≤ k_)) v5 x5_1) ∧ Aside0 (Kd.V (Kd.int .i64) 3 w' w.heap.size (fun k_ => (P0_1_ k_ ∨ w.heap.size ≤ k_) ∧ some k_ ≠ (v5 : Value).ownBlock ∧ k_ ≠ gb101) (.slice A0_1 l0_1.length c0_1) l0_1) ∧ Aside0 (w'.heap[gb101]? = some (.cells #[(.slice A0_0 l0_0.length c0_0), (.slice A0_1 l0_1.length c0_1)] 35 (0, 0))) ∧ Aside0 (Below w.heap.size w w'))
  case atStart => exact ⟨(y102), (0), zq7, H', ⟨Nat.le_refl _⟩, ⟨zq33 HO104⟩, ⟨by (with_reducible repeat (first | apply Kd.V_alloc | apply Kd.V_drewN | apply Kd.V_drew)); exact Kd.V_mono HO0_1.out (fun _ hk => ⟨hk.1.1, ⟨hk.2, hk.1.2⟩⟩)⟩, ⟨zq3 BK101⟩, ⟨zq2 GE101⟩⟩
  clear H'
  try clear hcz6_0
  try clear hcz6_1
  try clear hfz6_0
  try clear hfz6_1
  obtain ⟨x5_1, x21_1, rfl, HA, HK1, HO_5, HO_102001, BK101, HB⟩ := hrel
  cases gk with
  | zero => exact absurd HA.out (by simp [impl_steps.l0])
  | succ k1 =>
  have H := HA.out
  clear HA
  simp only [impl_steps.l0] at H
  by_cases c7 : x21_1 < (l0_0.length : Int)
  rotate_left
  · rw [if_neg c7] at H
    have c7b0 : decide (x21_1 < (l0_0.length : Int)) = false := decide_eq_false c7
    clear c7
    obtain rfl := Option.some.inj H
    go_wp2
    go_ret
    exact ⟨_, zq8, zq5 HO_5, zq2 GE101⟩
  rw [if_pos c7] at H
  have c7b0 : decide (x21_1 < (l0_0.length : Int)) = true := decide_eq_true c7
  clear c7
  by_cases c8 : 0 ≤ x21_1
  rotate_left
  · rw [if_neg c8] at H
    exact absurd H (by simp)
  rw [if_pos c8] at H
  have c8b0 : decide (0 ≤ x21_1) = true := decide_eq_true c8
  clear c8
  by_cases c9 : x21_1 < (l0_0.length : Int)
  rotate_left
  · rw [if_neg c9] at H
    exact absurd H (by simp)
  rw [if_pos c9] at H
  have c9b0 : decide (x21_1 < (l0_0.length : Int)) = true := decide_eq_true c9
  clear c9
  replace H := Option.bind_eq_some_iff.mp H
  obtain ⟨⟨t106, t107, t108, t109, t110, t111, t112⟩, A100, H⟩ := H
  replace H : ((impl_form_imm.f t106 t107 t108 t109 t110 t111).bind fun t117 => (if t117 = true then (impl_steps.j1 k1 a1 x5_1 (rdOf ByteArray.empty l0_0 x21_1) l0_1 l0_0 (l0_0.length : Int) x21_1 l0_0 l0_1 t106 t107 t108 t109 t110 t111) else (impl_steps.j1 k1 a1 x5_1 (rdOf ByteArray.empty l0_0 x21_1) (([0] : List Int)) l0_0 (l0_0.length : Int) x21_1 l0_0 l0_1 t106 t107 t108 t109 t110 t111))) = some r := H
  have A10 := Aside0.mk A100
  clear A100
  obtain ⟨y114, hy114⟩ : ∃ y_ : List Int, y_ = (([0] : List Int)) := ⟨_, rfl⟩
  replace H : ((impl_form_imm.f t106 t107 t108 t109 t110 t111).bind fun t117 => (if t117 = true then (impl_steps.j1 k1 a1 x5_1 (rdOf ByteArray.empty l0_0 x21_1) l0_1 l0_0 (l0_0.length : Int) x21_1 l0_0 l0_1 t106 t107 t108 t109 t110 t111) else (impl_steps.j1 k1 a1 x5_1 (rdOf ByteArray.empty l0_0 x21_1) y114 l0_0 (l0_0.length : Int) x21_1 l0_0 l0_1 t106 t107 t108 t109 t110 t111))) = some r := by first | (rw [hy114]; with_reducible exact H) | (have H2_ := (Option.bind_some _ _).symm.trans H; rw [hy114]; with_reducible exact H2_) | (have H2_ := (Option.bind_some _ _).symm.trans H; with_reducible exact H2_) | with_reducible exact H | (rw [hy114]; exact H) | exact H
  have Ny114 := Aside0.mk hy114
  clear hy114
  replace H := Option.bind_eq_some_iff.mp H
  obtain ⟨t117, A110, H⟩ := H
  replace H : (if t117 = true then (impl_steps.j1 k1 a1 x5_1 (rdOf ByteArray.empty l0_0 x21_1) l0_1 l0_0 (l0_0.length : Int) x21_1 l0_0 l0_1 t106 t107 t108 t109 t110 t111) else (impl_steps.j1 k1 a1 x5_1 (rdOf ByteArray.empty l0_0 x21_1) y114 l0_0 (l0_0.length : Int) x21_1 l0_0 l0_1 t106 t107 t108 t109 t110 t111)) = some r := H
  have A11 := Aside0.mk A110
  clear A110
  have HC12 := Aside0.mk H
  clear H
  have p105 : 0 ≤ (x21_1 : Int) := of_decide_eq_true zq4
  have q105 : x21_1 < (l0_0.length : Int) := of_decide_eq_true zq4
  obtain ⟨ad105, e105, hx105_0⟩ := Kd.at_string HR0_0.out x21_1 p105 q105
  cases e105
  replace hx105_0 := (HB.out.cell (World.block_lt_of_cell? w _ hx105_0)).trans hx105_0
  replace p105 := eq_true p105
  replace q105 := eq_true q105
  go_upto_if 32 with (first | ((with_reducible refine zgc 85 ?_); refine zcl 27 Try.func85 (impl_formOf.calls (rdOf ByteArray.empty l0_0 x21_1) t106 t107 t108 t109 t110 t111 t112 _ A10.out) ?_; rintro e w13 ⟨rfl, hb⟩; refine ⟨_, rfl, ?_⟩; replace HO_5 := Aside0.mk (Kd.R_below (zq5 HO_5) hb); replace HO_102001 := Aside0.mk (Kd.V_below (zq12 HO_102001) hb); replace BK101 := Aside0.mk (blk_below (g := gb101) (o := .cells #[.slice (some ad105) l0_0.length c0_0, .slice A0_1 l0_1.length c0_1] 35 (0, 0)) (zq3 BK101) hb); replace HB := Aside0.mk (below_step (zq2 GE101) hb); (try clear hb)) | ((with_reducible refine zgd 8 ?_); refine box_event ?hg (N := 8) ?hd (cs := #[.bool false, .bool false, .int .i64 0, .int .i64 0, .int .i64 0, .string (⟨#[]⟩ : ByteArray)]) (t := 116) ?hr ?_; (case hd => rfl); (case hg => rfl); (case hr => first | (go_simp; done) | (go_simp; rfl)); intro gb113 hg w14 hbox hb; replace HO_5 := Aside0.mk (Kd.R_below (zq5 HO_5) hb); replace HO_102001 := Aside0.mk (Kd.V_below (Kd.V_elderB (zq12 HO_102001) gb113 (Nat.le_of_eq hg.symm)) hb); have BK113 := Aside0.mk (hbox); have GW113 := Aside0.mk ((zq24 : w.heap.size ≤ gb113)); have GE113 := Aside0.mk ((zq24 : w.heap.size ≤ gb113)); replace HB := Aside0.mk (below_step (zq2 GE101) hb); have NB101_113 := Aside0.mk ((zq37 : gb101 ≠ gb113)); have NB113_101 := Aside0.mk ((zq38 : gb113 ≠ gb101)); replace BK101 := Aside0.mk (blk_below (g := gb101) (o := .cells #[.slice (some ad105) l0_0.length c0_0, .slice A0_1 l0_1.length c0_1] 35 (0, 0)) (zq3 BK101) hb); clear hb hbox hg; have hnb15 := NB113_101.out; have hnc15 := NB101_113.out; have hcz16_0 : w14.cell? ⟨gb113, 0, none⟩ = some (.bool false) := (blk_cell BK113.out 0).trans rfl; have hcz16_1 : w14.cell? ⟨gb113, 1, none⟩ = some (.bool false) := (blk_cell BK113.out 1).trans rfl; have hcz16_2 : w14.cell? ⟨gb113, 2, none⟩ = some (.int .i64 0) := (blk_cell BK113.out 2).trans rfl; have hcz16_3 : w14.cell? ⟨gb113, 3, none⟩ = some (.int .i64 0) := (blk_cell BK113.out 3).trans rfl; have hcz16_4 : w14.cell? ⟨gb113, 4, none⟩ = some (.int .i64 0) := (blk_cell BK113.out 4).trans rfl; have hcz16_5 : w14.cell? ⟨gb113, 5, none⟩ = some (.string (⟨#[]⟩ : ByteArray)) := (blk_cell BK113.out 5).trans rfl; have hfz16_0 := blk_frozen BK113.out 0; have hfz16_1 := blk_frozen BK113.out 1; have hfz16_2 := blk_frozen BK113.out 2; have hfz16_3 := blk_frozen BK113.out 3; have hfz16_4 := blk_frozen BK113.out 4; have hfz16_5 := blk_frozen BK113.out 5) | ((with_reducible refine zgd 30 ?_); refine Kd.R_lit (Kd.int .i64) _ 3 ?hg (N := 30) ?hd (xs := ([0] : List Int)) (inner := [.int .i64 0]) (ok := fun _ => True) (okp := fun _ => True) ?hr ?hp (fun _ hk => hk) trivial (Below.refl _ _) (Nat.le_refl _) (by simp) ?_; (case hd => rfl); (case hg => rfl); (case hr => first | (go_simp; done) | (go_simp; rfl)); (case hp => exact (Reps.one (show Kd.M (Kd.int .i64) _ _ _ 0 [.int .i64 0] from rfl) (Reps.none _ _))); intro v115 w17 ho18 hb hg_ hnew_; clear hg_ hnew_; (first | rw [← Ny114.out] at ho18 | (simp only [Int.reduceToNat] at ho18; rw [← Ny114.out] at ho18)); replace HO_5 := Aside0.mk (Kd.R_below (by (with_reducible repeat (first | apply Kd.R_alloc | apply Kd.R_drewN | apply Kd.R_drew)); exact (Kd.R_mono (Kd.R_far (p := ⟨gb113, 5, none⟩) (Kd.R_far (p := ⟨gb113, 4, none⟩) (Kd.R_far (p := ⟨gb113, 3, none⟩) (Kd.R_far (p := ⟨gb113, 2, none⟩) (Kd.R_far (p := ⟨gb113, 1, none⟩) (Kd.R_far (p := ⟨gb113, 0, none⟩) (Kd.R_types HO_5.out BK113.out (by decide)) (fun _ hk => hk.2) (.bool t106)) (fun _ hk => hk.2) (.bool t107)) (fun _ hk => hk.2) (.int .i64 t108)) (fun _ hk => hk.2) (.int .i64 t109)) (fun _ hk => hk.2) (.int .i64 t110)) (fun _ hk => hk.2) (.string t111)) (fun _ h_ => h_.1))) hb); replace HO_102001 := Aside0.mk (Kd.V_elder' (by (with_reducible repeat (first | apply Kd.V_alloc | apply Kd.V_drewN | apply Kd.V_drew)); exact (Kd.V_mono (Kd.V_far (p := ⟨gb113, 5, none⟩) (Kd.V_far (p := ⟨gb113, 4, none⟩) (Kd.V_far (p := ⟨gb113, 3, none⟩) (Kd.V_far (p := ⟨gb113, 2, none⟩) (Kd.V_far (p := ⟨gb113, 1, none⟩) (Kd.V_far (p := ⟨gb113, 0, none⟩) (Kd.V_mono HO_102001.out (fun k_ hk => (⟨hk, hk.2⟩ : _ ∧ k_ ≠ gb113))) (fun _ hk => hk.2) (.bool t106)) (fun _ hk => hk.2) (.bool t107)) (fun _ hk => hk.2) (.int .i64 t108)) (fun _ hk => hk.2) (.int .i64 t109)) (fun _ hk => hk.2) (.int .i64 t110)) (fun _ hk => hk.2) (.string t111)) (fun _ h_ => h_.1))) (Kd.R_base ho18) hb); have HO116 := Aside0.mk (Kd.R_lower (Kd.R_newM (M := fun k_ => (w.heap.size ≤ k_)) ho18 (below_size (zq6 GE101 GE113)) (fun k_ h_ => h_)) (below_size (zq6 GE101 GE113))); replace BK101 := Aside0.mk (blk_below (g := gb101) (o := .cells #[.slice (some ad105) l0_0.length c0_0, .slice A0_1 l0_1.length c0_1] 35 (0, 0)) (zq20 NB101_113 BK101) hb); replace BK113 := Aside0.mk (blk_below (g := gb113) (o := .cells #[.bool t106, .bool t107, .int .i64 t108, .int .i64 t109, .int .i64 t110, .string t111] 116 (0, 0)) (zq14 BK113) hb); replace HB := Aside0.mk (below_step (zq6 GE101 GE113) hb); clear hb ho18; have hcz19_0 : w17.cell? ⟨gb113, 0, none⟩ = some (.bool t106) := (blk_cell BK113.out 0).trans rfl; have hcz19_1 : w17.cell? ⟨gb113, 1, none⟩ = some (.bool t107) := (blk_cell BK113.out 1).trans rfl; have hcz19_2 : w17.cell? ⟨gb113, 2, none⟩ = some (.int .i64 t108) := (blk_cell BK113.out 2).trans rfl; have hcz19_3 : w17.cell? ⟨gb113, 3, none⟩ = some (.int .i64 t109) := (blk_cell BK113.out 3).trans rfl; have hcz19_4 : w17.cell? ⟨gb113, 4, none⟩ = some (.int .i64 t110) := (blk_cell BK113.out 4).trans rfl; have hcz19_5 : w17.cell? ⟨gb113, 5, none⟩ = some (.string t111) := (blk_cell BK113.out 5).trans rfl; have hfz19_0 := blk_frozen BK113.out 0; have hfz19_1 := blk_frozen BK113.out 1; have hfz19_2 := blk_frozen BK113.out 2; have hfz19_3 := blk_frozen BK113.out 3; have hfz19_4 := blk_frozen BK113.out 4; have hfz19_5 := blk_frozen BK113.out 5) | ((with_reducible refine zgc 87 ?_); refine zcl 32 Try.func87 (impl_form_imm.calls t106 t107 t108 t109 t110 t111 t117 _ A11.out) ?_; rintro e w20 ⟨rfl, hb⟩; refine ⟨_, rfl, ?_⟩; replace HO_5 := Aside0.mk (Kd.R_below (zq5 HO_5) hb); replace HO_102001 := Aside0.mk (Kd.V_below (zq12 HO_102001) hb); replace HO116 := Aside0.mk (Kd.R_below (zq5 HO116) hb); replace BK101 := Aside0.mk (blk_below (g := gb101) (o := .cells #[.slice (some ad105) l0_0.length c0_0, .slice A0_1 l0_1.length c0_1] 35 (0, 0)) (zq3 BK101) hb); replace BK113 := Aside0.mk (blk_below (g := gb113) (o := .cells #[.bool t106, .bool t107, .int .i64 t108, .int .i64 t109, .int .i64 t110, .string t111] 116 (0, 0)) (zq3 BK113) hb); replace HB := Aside0.mk (below_step (zq6 GE101 GE113) hb); (try clear hb)))
  (try simp only [Act.put, List.setIfInBounds_toArray, List.set_cons_zero, List.set_cons_succ])
  go_cut [10] (fun v10 wc => ∃ (kq : Nat) (x10_11 : List Int), Aside0 (impl_steps.j1 kq a1 x5_1 (rdOf ByteArray.empty l0_0 x21_1) x10_11 l0_0 (l0_0.length : Int) x21_1 l0_0 l0_1 t106 t107 t108 t109 t110 t111 = some r) ∧ Aside0 (kq ≤ k1) ∧ Aside0 (Kd.R k64 64 wc w.heap.size (fun k_ => (w.heap.size ≤ k_)) u5 x5_1) ∧ Aside0 (Kd.V (Kd.int .i64) 3 wc w.heap.size (fun k_ => (P0_1_ k_ ∨ w.heap.size ≤ k_) ∧ some k_ ≠ (u5 : Value).ownBlock ∧ k_ ≠ gb101 ∧ k_ ≠ gb113) v10 x10_11) ∧ Aside0 (Kd.V (Kd.int .i64) 3 wc w.heap.size (fun k_ => (P0_1_ k_ ∨ w.heap.size ≤ k_) ∧ some k_ ≠ (u5 : Value).ownBlock ∧ k_ ≠ gb101 ∧ k_ ≠ gb113) (.slice A0_1 l0_1.length c0_1) l0_1) ∧ Aside0 (wc.heap[gb101]? = some (.cells #[(.slice (some ad105) l0_0.length c0_0), (.slice A0_1 l0_1.length c0_1)] 35 (0, 0))) ∧ Aside0 (wc.heap[gb113]? = some (.cells #[.bool t106, .bool t107, .int .i64 t108, .int .i64 t109, .int .i64 t110, .string t111] 116 (0, 0))) ∧ Aside0 (Below w.heap.size w wc))
  case first =>
    have H := HC12.out
    clear HC12
    by_cases c21 : t117 = true
    rotate_left
    · replace c21 := Bool.eq_false_iff.mpr c21
      subst c21
      have H1 : (impl_steps.j1 k1 a1 x5_1 (rdOf ByteArray.empty l0_0 x21_1) y114 l0_0 (l0_0.length : Int) x21_1 l0_0 l0_1 t106 t107 t108 t109 t110 t111) = some r := by rw [if_neg (show ¬ (false = true) by decide)] at H; exact H
      clear H
      have H := H1
      clear H1
      have H' := Aside0.mk H
      clear H
      go_wp2
      go_meet
      case rel => exact ⟨_, (y114), H', ⟨zq25 HK1⟩, ⟨zq5 HO_5⟩, ⟨Kd.V_mono (ok := fun k_ => (w.heap.size ≤ k_) ∧ some k_ ≠ (u5 : Value).ownBlock ∧ k_ ≠ gb101 ∧ k_ ≠ gb113) (Kd.R_V (by (with_reducible repeat (first | apply Kd.R_alloc | apply Kd.R_drewN | apply Kd.R_drew)); exact Kd.R_mono (Kd.R_types (Kd.R_types (Kd.R_apart' HO116.out (Kd.R_typed HO_5.out) (by decide)) BK101.out (by decide)) BK113.out (by decide)) (fun _ hk => ⟨hk.1.1.1.1, ⟨hk.1.1.2, ⟨hk.1.2, hk.2⟩⟩⟩))) (fun k_ hk => by first | exact ⟨(.inr (hk.1)), hk.2⟩ | exact (.inr (hk)))⟩, ⟨zq35 HO_102001⟩, ⟨zq3 BK101⟩, ⟨zq3 BK113⟩, ⟨zq6 GE101 GE113⟩⟩
    subst c21
    have H1 : (impl_steps.j1 k1 a1 x5_1 (rdOf ByteArray.empty l0_0 x21_1) l0_1 l0_0 (l0_0.length : Int) x21_1 l0_0 l0_1 t106 t107 t108 t109 t110 t111) = some r := by rw [if_pos rfl] at H; exact H
    clear H
    have H := H1
    clear H1
    have H' := Aside0.mk H
    clear H
    have hnb22 := NB101_113.out
    have hnc22 := NB113_101.out
    have hcz23_0 : w20.cell? ⟨gb101, 0, none⟩ = some (.slice (some ad105) l0_0.length c0_0) := (blk_cell BK101.out 0).trans rfl
    have hcz23_1 : w20.cell? ⟨gb101, 1, none⟩ = some (.slice A0_1 l0_1.length c0_1) := (blk_cell BK101.out 1).trans rfl
    have hfz23_0 := blk_frozen BK101.out 0
    have hfz23_1 := blk_frozen BK101.out 1
    go_wp2
    go_meet
    case rel => exact ⟨_, (l0_1), H', ⟨zq25 HK1⟩, ⟨zq5 HO_5⟩, ⟨zq35 HO_102001⟩, ⟨zq35 HO_102001⟩, ⟨zq3 BK101⟩, ⟨zq3 BK113⟩, ⟨zq6 GE101 GE113⟩⟩
  clear HC12
  try clear c7
  try clear c7b0
  try clear c8
  try clear c8b0
  try clear c9
  try clear c9b0
  try clear c21
  try clear hcz16_0
  try clear hcz16_1
  try clear hcz16_2
  try clear hcz16_3
  try clear hcz16_4
  try clear hcz16_5
  try clear hcz19_0
  try clear hcz19_1
  try clear hcz19_2
  try clear hcz19_3
  try clear hcz19_4
  try clear hcz19_5
  try clear hcz23_0
  try clear hcz23_1
  try clear hcz6_0
  try clear hcz6_1
  try clear hfz16_0
  try clear hfz16_1
  try clear hfz16_2
  try clear hfz16_3
  try clear hfz16_4
  try clear hfz16_5
  try clear hfz19_0
  try clear hfz19_1
  try clear hfz19_2
  try clear hfz19_3
  try clear hfz19_4
  try clear hfz19_5
  try clear hfz23_0
  try clear hfz23_1
  try clear hfz6_0
  try clear hfz6_1
  try clear hx105_0
  try clear p105
  try clear q105
  obtain ⟨kq, x10_11, HA, HJ11, HO_5, HO_10, HO_102001, BK101, BK113, HB⟩ := hcut
  cases kq with
  | zero => exact absurd HA.out (by simp [impl_steps.j1])
  | succ kj11 =>
  have H := HA.out
  clear HA
  simp only [impl_steps.j1] at H
  replace H := Option.bind_eq_some_iff.mp H
  obtain ⟨t118, A240, H⟩ := H
  replace H : (impl_steps.l1 kj11 a1 x5_1 (rdOf ByteArray.empty l0_0 x21_1) x10_11 l0_0 (l0_0.length : Int) x21_1 t118 (t118.length : Int) 0 l0_0 l0_1 t106 t107 t108 t109 t110 t111) = some r := H
  have A24 := Aside0.mk A240
  clear A240
  have H' := Aside0.mk H
  clear H
  have hnb25 := NB113_101.out
  have hnc25 := NB101_113.out
  have hcz26_0 : wc.cell? ⟨gb113, 0, none⟩ = some (.bool t106) := (blk_cell BK113.out 0).trans rfl
  have hcz26_1 : wc.cell? ⟨gb113, 1, none⟩ = some (.bool t107) := (blk_cell BK113.out 1).trans rfl
  have hcz26_2 : wc.cell? ⟨gb113, 2, none⟩ = some (.int .i64 t108) := (blk_cell BK113.out 2).trans rfl
  have hcz26_3 : wc.cell? ⟨gb113, 3, none⟩ = some (.int .i64 t109) := (blk_cell BK113.out 3).trans rfl
  have hcz26_4 : wc.cell? ⟨gb113, 4, none⟩ = some (.int .i64 t110) := (blk_cell BK113.out 4).trans rfl
  have hcz26_5 : wc.cell? ⟨gb113, 5, none⟩ = some (.string t111) := (blk_cell BK113.out 5).trans rfl
  have hfz26_0 := blk_frozen BK113.out 0
  have hfz26_1 := blk_frozen BK113.out 1
  have hfz26_2 := blk_frozen BK113.out 2
  have hfz26_3 := blk_frozen BK113.out 3
  have hfz26_4 := blk_frozen BK113.out 4
  have hfz26_5 := blk_frozen BK113.out 5
  go_wp2_with (first | ((with_reducible refine zgc 88 ?_); refine zcl 39 Try.func88 (impl_upTo.calls kj11 t106 (wrap64 (2 + a1)) t118 _ A24.out) ?_; rintro e w27 ⟨v119, rfl, ho0, hb⟩; refine ⟨_, rfl, ?_⟩; replace HO_5 := Aside0.mk (Kd.R_below (zq5 HO_5) hb); replace HO_10 := Aside0.mk (Kd.V_elder' (zq12 HO_10) (Kd.R_base ho0) hb); replace HO_102001 := Aside0.mk (Kd.V_elder' (zq12 HO_102001) (Kd.R_base ho0) hb); have HO120 := Aside0.mk (Kd.R_lower (Kd.R_newM (M := fun k_ => (w.heap.size ≤ k_)) ho0 (below_size (zq6 GE101 GE113)) (fun k_ h_ => h_)) (below_size (zq6 GE101 GE113))); replace BK101 := Aside0.mk (blk_below (g := gb101) (o := .cells #[.slice (some ad105) l0_0.length c0_0, .slice A0_1 l0_1.length c0_1] 35 (0, 0)) (zq3 BK101) hb); replace BK113 := Aside0.mk (blk_below (g := gb113) (o := .cells #[.bool t106, .bool t107, .int .i64 t108, .int .i64 t109, .int .i64 t110, .string t111] 116 (0, 0)) (zq3 BK113) hb); replace HB := Aside0.mk (below_step (zq6 GE101 GE113) hb); (try clear hb); (try clear ho0); obtain ⟨Ao28, co28, eo28⟩ := Kd.R_slice HO120.out; subst eo28))
  go_loopg [5, 41] kj11 (fun kq v5 v41 w' => ∃ (x5_3 : List (S64)) (x41_3 : Int), v41 = .int .i64 x41_3 ∧ Aside0 (impl_steps.l1 kq a1 x5_3 (rdOf ByteArray.empty l0_0 x21_1) x10_11 l0_0 (l0_0.length : Int) x21_1 t118 (t118.length : Int) x41_3 l0_0 l0_1 t106 t107 t108 t109 t110 t111 = some r) ∧ Aside0 (kq ≤ kj11) ∧ Aside0 (Kd.R k64 64 w' w.heap.size (fun k_ => (w.heap.size ≤ k_)) v5 x5_3) ∧ Aside0 (Kd.V (Kd.int .i64) 3 w' w.heap.size (fun k_ => (P0_1_ k_ ∨ w.heap.size ≤ k_) ∧ some k_ ≠ (v5 : Value).ownBlock ∧ some k_ ≠ ((.slice Ao28 t118.length co28) : Value).ownBlock ∧ k_ ≠ gb101 ∧ k_ ≠ gb113) u10 x10_11) ∧ Aside0 (Kd.R (Kd.int .i64) 3 w' w.heap.size (fun k_ => (w.heap.size ≤ k_)) (.slice Ao28 t118.length co28) t118) ∧ Aside0 (Kd.V (Kd.int .i64) 3 w' w.heap.size (fun k_ => (P0_1_ k_ ∨ w.heap.size ≤ k_) ∧ some k_ ≠ (v5 : Value).ownBlock ∧ some k_ ≠ ((.slice Ao28 t118.length co28) : Value).ownBlock ∧ k_ ≠ gb101 ∧ k_ ≠ gb113) (.slice A0_1 l0_1.length c0_1) l0_1) ∧ Aside0 (w'.heap[gb101]? = some (.cells #[(.slice (some ad105) l0_0.length c0_0), (.slice A0_1 l0_1.length c0_1)] 35 (0, 0))) ∧ Aside0 (w'.heap[gb113]? = some (.cells #[.bool t106, .bool t107, .int .i64 t108, .int .i64 t109, .int .i64 t110, .string t111] 116 (0, 0))) ∧ Aside0 (Below w.heap.size w w'))
  case atStart => exact ⟨(x5_1), (0), zq7, H', ⟨Nat.le_refl _⟩, ⟨zq5 HO_5⟩, ⟨zq52 HO_10⟩, ⟨zq33 HO120⟩, ⟨zq52 HO_102001⟩, ⟨zq3 BK101⟩, ⟨zq3 BK113⟩, ⟨zq6 GE101 GE113⟩⟩
  clear H'
  try clear c7
  try clear c7b0
  try clear c8
  try clear c8b0
  try clear c9
  try clear c9b0
  try clear c21
  try clear hcz16_0
  try clear hcz16_1
  try clear hcz16_2
  try clear hcz16_3
  try clear hcz16_4
  try clear hcz16_5
  try clear hcz19_0
  try clear hcz19_1
  try clear hcz19_2
  try clear hcz19_3
  try clear hcz19_4
  try clear hcz19_5
  try clear hcz23_0
  try clear hcz23_1
  try clear hcz26_0
  try clear hcz26_1
  try clear hcz26_2
  try clear hcz26_3
  try clear hcz26_4
  try clear hcz26_5
  try clear hcz6_0
  try clear hcz6_1
  try clear hfz16_0
  try clear hfz16_1
  try clear hfz16_2
  try clear hfz16_3
  try clear hfz16_4
  try clear hfz16_5
  try clear hfz19_0
  try clear hfz19_1
  try clear hfz19_2
  try clear hfz19_3
  try clear hfz19_4
  try clear hfz19_5
  try clear hfz23_0
  try clear hfz23_1
  try clear hfz26_0
  try clear hfz26_1
  try clear hfz26_2
  try clear hfz26_3
  try clear hfz26_4
  try clear hfz26_5
  try clear hfz6_0
  try clear hfz6_1
  try clear hx105_0
  try clear p105
  try clear q105
  obtain ⟨x5_3, x41_3, rfl, HA, HK3, HO_5, HO_10, HO_39, HO_102001, BK101, BK113, HB⟩ := hrel
  cases gk with
  | zero => exact absurd HA.out (by simp [impl_steps.l1])
  | succ k3 =>
  have H := HA.out
  clear HA
  simp only [impl_steps.l1] at H
  by_cases c29 : x41_3 < (t118.length : Int)
  rotate_left
  · rw [if_neg c29] at H
    have c29b0 : decide (x41_3 < (t118.length : Int)) = false := decide_eq_false c29
    clear c29
    have H' := Aside0.mk H
    clear H
    go_wp2
    go_roundg k3
    case measure => have := HK1.out; have := HJ11.out; have := HK3.out; omega
    case rel => exact ⟨(x5_3), (wrap64 (x21_1 + 1)), zq7, H', ⟨zq45 HK1 HJ11 HK3⟩, ⟨zq5 HO_5⟩, ⟨by (with_reducible repeat (first | apply Kd.V_alloc | apply Kd.V_drewN | apply Kd.V_drew)); exact Kd.V_mono HO_102001.out (fun _ hk => ⟨hk.1, ⟨hk.2.1, hk.2.2.2.1⟩⟩)⟩, ⟨zq3 BK101⟩, ⟨zq6 GE101 GE113⟩⟩
  rw [if_pos c29] at H
  have c29b0 : decide (x41_3 < (t118.length : Int)) = true := decide_eq_true c29
  clear c29
  by_cases c30 : 0 ≤ x41_3
  rotate_left
  · rw [if_neg c30] at H
    exact absurd H (by simp)
  rw [if_pos c30] at H
  have c30b0 : decide (0 ≤ x41_3) = true := decide_eq_true c30
  clear c30
  by_cases c31 : x41_3 < (t118.length : Int)
  rotate_left
  · rw [if_neg c31] at H
    exact absurd H (by simp)
  rw [if_pos c31] at H
  have c31b0 : decide (x41_3 < (t118.length : Int)) = true := decide_eq_true c31
  clear c31
  replace H := Option.bind_eq_some_iff.mp H
  obtain ⟨t122, A320, H⟩ := H
  replace H : (impl_steps.l2 k3 a1 x5_3 (rdOf ByteArray.empty l0_0 x21_1) x10_11 (rd t118 x41_3) l0_0 (l0_0.length : Int) x21_1 t118 (t118.length : Int) x41_3 t122 (t122.length : Int) 0 l0_0 l0_1 t106 t107 t108 t109 t110 t111) = some r := H
  have A32 := Aside0.mk A320
  clear A320
  have H' := Aside0.mk H
  clear H
  have p121 : 0 ≤ (x41_3 : Int) := of_decide_eq_true zq4
  have q121 : x41_3 < (t118.length : Int) := of_decide_eq_true zq4
  obtain ⟨ad121, e121, hx121_0⟩ := Kd.at_int (Kd.R_reads' HO_39.out).2.2 x41_3 p121 q121
  cases e121
  replace p121 := eq_true p121
  replace q121 := eq_true q121
  have hnb33 := NB113_101.out
  have hnc33 := NB101_113.out
  have hcz34_0 : wr.cell? ⟨gb113, 0, none⟩ = some (.bool t106) := (blk_cell BK113.out 0).trans rfl
  have hcz34_1 : wr.cell? ⟨gb113, 1, none⟩ = some (.bool t107) := (blk_cell BK113.out 1).trans rfl
  have hcz34_2 : wr.cell? ⟨gb113, 2, none⟩ = some (.int .i64 t108) := (blk_cell BK113.out 2).trans rfl
  have hcz34_3 : wr.cell? ⟨gb113, 3, none⟩ = some (.int .i64 t109) := (blk_cell BK113.out 3).trans rfl
  have hcz34_4 : wr.cell? ⟨gb113, 4, none⟩ = some (.int .i64 t110) := (blk_cell BK113.out 4).trans rfl
  have hcz34_5 : wr.cell? ⟨gb113, 5, none⟩ = some (.string t111) := (blk_cell BK113.out 5).trans rfl
  have hfz34_0 := blk_frozen BK113.out 0
  have hfz34_1 := blk_frozen BK113.out 1
  have hfz34_2 := blk_frozen BK113.out 2
  have hfz34_3 := blk_frozen BK113.out 3
  have hfz34_4 := blk_frozen BK113.out 4
  have hfz34_5 := blk_frozen BK113.out 5
  go_wp2_with (first | ((with_reducible refine zgc 88 ?_); refine zcl 49 Try.func88 (impl_upTo.calls k3 t107 (wrap64 (2 + a1)) t122 _ A32.out) ?_; rintro e w35 ⟨v123, rfl, ho0, hb⟩; refine ⟨_, rfl, ?_⟩; replace HO_5 := Aside0.mk (Kd.R_below (zq5 HO_5) hb); replace HO_10 := Aside0.mk (Kd.V_elder' (zq12 HO_10) (Kd.R_base ho0) hb); replace HO_102001 := Aside0.mk (Kd.V_elder' (zq12 HO_102001) (Kd.R_base ho0) hb); have HO124 := Aside0.mk (Kd.R_lower (Kd.R_new' (Kd.R_newM (M := fun k_ => (w.heap.size ≤ k_)) ho0 (below_size (zq6 GE101 GE113)) (fun k_ h_ => h_)) (Kd.R_lt (zq5 HO_39))) (below_size (zq6 GE101 GE113))); replace HO_39 := Aside0.mk (Kd.R_elder' (zq5 HO_39) (Kd.R_base ho0) hb); replace BK101 := Aside0.mk (blk_below (g := gb101) (o := .cells #[.slice (some ad105) l0_0.length c0_0, .slice A0_1 l0_1.length c0_1] 35 (0, 0)) (zq3 BK101) hb); replace BK113 := Aside0.mk (blk_below (g := gb113) (o := .cells #[.bool t106, .bool t107, .int .i64 t108, .int .i64 t109, .int .i64 t110, .string t111] 116 (0, 0)) (zq3 BK113) hb); replace HB := Aside0.mk (below_step (zq6 GE101 GE113) hb); (try clear hb); (try clear ho0); obtain ⟨Ao36, co36, eo36⟩ := Kd.R_slice HO124.out; subst eo36))
  go_loopg [5, 51] k3 (fun kq v5 v51 w' => ∃ (x5_4 : List (S64)) (x51_4 : Int), v51 = .int .i64 x51_4 ∧ Aside0 (impl_steps.l2 kq a1 x5_4 (rdOf ByteArray.empty l0_0 x21_1) x10_11 (rd t118 x41_3) l0_0 (l0_0.length : Int) x21_1 t118 (t118.length : Int) x41_3 t122 (t122.length : Int) x51_4 l0_0 l0_1 t106 t107 t108 t109 t110 t111 = some r) ∧ Aside0 (kq ≤ k3) ∧ Aside0 (Kd.R k64 64 w' w.heap.size (fun k_ => (w.heap.size ≤ k_)) v5 x5_4) ∧ Aside0 (Kd.V (Kd.int .i64) 3 w' w.heap.size (fun k_ => (P0_1_ k_ ∨ w.heap.size ≤ k_) ∧ some k_ ≠ (v5 : Value).ownBlock ∧ some k_ ≠ ((.slice (some ad121) t118.length co28) : Value).ownBlock ∧ some k_ ≠ ((.slice Ao36 t122.length co36) : Value).ownBlock ∧ k_ ≠ gb101 ∧ k_ ≠ gb113) u10 x10_11) ∧ Aside0 (Kd.R (Kd.int .i64) 3 w' w.heap.size (fun k_ => (w.heap.size ≤ k_) ∧ some k_ ≠ ((.slice Ao36 t122.length co36) : Value).ownBlock) (.slice (some ad121) t118.length co28) t118) ∧ Aside0 (Kd.R (Kd.int .i64) 3 w' w.heap.size (fun k_ => (w.heap.size ≤ k_) ∧ some k_ ≠ ((.slice (some ad121) t118.length co28) : Value).ownBlock) (.slice Ao36 t122.length co36) t122) ∧ Aside0 (Kd.V (Kd.int .i64) 3 w' w.heap.size (fun k_ => (P0_1_ k_ ∨ w.heap.size ≤ k_) ∧ some k_ ≠ (v5 : Value).ownBlock ∧ some k_ ≠ ((.slice (some ad121) t118.length co28) : Value).ownBlock ∧ some k_ ≠ ((.slice Ao36 t122.length co36) : Value).ownBlock ∧ k_ ≠ gb101 ∧ k_ ≠ gb113) (.slice A0_1 l0_1.length c0_1) l0_1) ∧ Aside0 (w'.heap[gb101]? = some (.cells #[(.slice (some ad105) l0_0.length c0_0), (.slice A0_1 l0_1.length c0_1)] 35 (0, 0))) ∧ Aside0 (w'.heap[gb113]? = some (.cells #[.bool t106, .bool t107, .int .i64 t108, .int .i64 t109, .int .i64 t110, .string t111] 116 (0, 0))) ∧ Aside0 (Below w.heap.size w w'))
  case atStart => exact ⟨(x5_3), (0), zq7, H', ⟨Nat.le_refl _⟩, ⟨zq5 HO_5⟩, ⟨zq48 HO_10⟩, ⟨zq5 HO_39⟩, ⟨by (with_reducible repeat (first | apply Kd.R_alloc | apply Kd.R_drewN | apply Kd.R_drew)); exact Kd.R_mono HO124.out (fun _ hk => ⟨hk.1.1, hk.2⟩)⟩, ⟨zq48 HO_102001⟩, ⟨zq3 BK101⟩, ⟨zq3 BK113⟩, ⟨zq6 GE101 GE113⟩⟩
  clear H'
  try clear c7
  try clear c7b0
  try clear c8
  try clear c8b0
  try clear c9
  try clear c9b0
  try clear c21
  try clear c29
  try clear c29b0
  try clear c30
  try clear c30b0
  try clear c31
  try clear c31b0
  try clear hcz16_0
  try clear hcz16_1
  try clear hcz16_2
  try clear hcz16_3
  try clear hcz16_4
  try clear hcz16_5
  try clear hcz19_0
  try clear hcz19_1
  try clear hcz19_2
  try clear hcz19_3
  try clear hcz19_4
  try clear hcz19_5
  try clear hcz23_0
  try clear hcz23_1
  try clear hcz26_0
  try clear hcz26_1
  try clear hcz26_2
  try clear hcz26_3
  try clear hcz26_4
  try clear hcz26_5
  try clear hcz34_0
  try clear hcz34_1
  try clear hcz34_2
  try clear hcz34_3
  try clear hcz34_4
  try clear hcz34_5
  try clear hcz6_0
  try clear hcz6_1
  try clear hfz16_0
  try clear hfz16_1
  try clear hfz16_2
  try clear hfz16_3
  try clear hfz16_4
  try clear hfz16_5
  try clear hfz19_0
  try clear hfz19_1
  try clear hfz19_2
  try clear hfz19_3
  try clear hfz19_4
  try clear hfz19_5
  try clear hfz23_0
  try clear hfz23_1
  try clear hfz26_0
  try clear hfz26_1
  try clear hfz26_2
  try clear hfz26_3
  try clear hfz26_4
  try clear hfz26_5
  try clear hfz34_0
  try clear hfz34_1
  try clear hfz34_2
  try clear hfz34_3
  try clear hfz34_4
  try clear hfz34_5
  try clear hfz6_0
  try clear hfz6_1
  try clear hx105_0
  try clear hx121_0
  try clear p105
  try clear p121
  try clear q105
  try clear q121
  obtain ⟨x5_4, x51_4, rfl, HA, HK4, HO_5, HO_10, HO_39, HO_49, HO_102001, BK101, BK113, HB⟩ := hrel
  cases gk with
  | zero => exact absurd HA.out (by simp [impl_steps.l2])
  | succ k4 =>
  have H := HA.out
  clear HA
  simp only [impl_steps.l2] at H
  by_cases c37 : x51_4 < (t122.length : Int)
  rotate_left
  · rw [if_neg c37] at H
    have c37b0 : decide (x51_4 < (t122.length : Int)) = false := decide_eq_false c37
    clear c37
    have H' := Aside0.mk H
    clear H
    go_wp2
    go_roundg k4
    case measure => have := HK1.out; have := HJ11.out; have := HK3.out; have := HK4.out; omega
    case rel => exact ⟨(x5_4), (wrap64 (x41_3 + 1)), zq7, H', ⟨by have := HK1.out; have := HJ11.out; have := HK3.out; have := HK4.out; omega⟩, ⟨zq5 HO_5⟩, ⟨zq51 HO_10⟩, ⟨zq33 HO_39⟩, ⟨zq51 HO_102001⟩, ⟨zq3 BK101⟩, ⟨zq3 BK113⟩, ⟨zq6 GE101 GE113⟩⟩
  rw [if_pos c37] at H
  have c37b0 : decide (x51_4 < (t122.length : Int)) = true := decide_eq_true c37
  clear c37
  by_cases c38 : 0 ≤ x51_4
  rotate_left
  · rw [if_neg c38] at H
    exact absurd H (by simp)
  rw [if_pos c38] at H
  have c38b0 : decide (0 ≤ x51_4) = true := decide_eq_true c38
  clear c38
  by_cases c39 : x51_4 < (t122.length : Int)
  rotate_left
  · rw [if_neg c39] at H
    exact absurd H (by simp)
  rw [if_pos c39] at H
  have c39b0 : decide (x51_4 < (t122.length : Int)) = true := decide_eq_true c39
  clear c39
  have H' := Aside0.mk H
  clear H
  have p125 : 0 ≤ (x51_4 : Int) := of_decide_eq_true zq4
  have q125 : x51_4 < (t122.length : Int) := of_decide_eq_true zq4
  obtain ⟨ad125, e125, hx125_0⟩ := Kd.at_int (Kd.R_reads' HO_49.out).2.2 x51_4 p125 q125
  cases e125
  replace p125 := eq_true p125
  replace q125 := eq_true q125
  obtain ⟨Ao40, co40, eo40⟩ := Kd.V_slice HO_10.out
  subst eo40
  go_wp2
  go_loopg [5, 57] k4 (fun kq v5 v57 w' => ∃ (x5_5 : List (S64)) (x57_5 : Int), v57 = .int .i64 x57_5 ∧ Aside0 (impl_steps.l3 kq a1 x5_5 (rdOf ByteArray.empty l0_0 x21_1) x10_11 (rd t118 x41_3) (rd t122 x51_4) l0_0 (l0_0.length : Int) x21_1 t118 (t118.length : Int) x41_3 t122 (t122.length : Int) x51_4 x10_11 (x10_11.length : Int) x57_5 l0_0 l0_1 t106 t107 t108 t109 t110 t111 = some r) ∧ Aside0 (kq ≤ k4) ∧ Aside0 (Kd.R k64 64 w' w.heap.size (fun k_ => (w.heap.size ≤ k_)) v5 x5_5) ∧ Aside0 (Kd.V (Kd.int .i64) 3 w' w.heap.size (fun k_ => (P0_1_ k_ ∨ w.heap.size ≤ k_) ∧ some k_ ≠ (v5 : Value).ownBlock ∧ some k_ ≠ ((.slice (some ad121) t118.length co28) : Value).ownBlock ∧ some k_ ≠ ((.slice (some ad125) t122.length co36) : Value).ownBlock ∧ k_ ≠ gb101 ∧ k_ ≠ gb113) (.slice Ao40 x10_11.length co40) x10_11) ∧ Aside0 (Kd.R (Kd.int .i64) 3 w' w.heap.size (fun k_ => (w.heap.size ≤ k_) ∧ some k_ ≠ ((.slice (some ad125) t122.length co36) : Value).ownBlock) (.slice (some ad121) t118.length co28) t118) ∧ Aside0 (Kd.R (Kd.int .i64) 3 w' w.heap.size (fun k_ => (w.heap.size ≤ k_) ∧ some k_ ≠ ((.slice (some ad121) t118.length co28) : Value).ownBlock) (.slice (some ad125) t122.length co36) t122) ∧ Aside0 (Kd.V (Kd.int .i64) 3 w' w.heap.size (fun k_ => (P0_1_ k_ ∨ w.heap.size ≤ k_) ∧ some k_ ≠ (v5 : Value).ownBlock ∧ some k_ ≠ ((.slice (some ad121) t118.length co28) : Value).ownBlock ∧ some k_ ≠ ((.slice (some ad125) t122.length co36) : Value).ownBlock ∧ k_ ≠ gb101 ∧ k_ ≠ gb113) (.slice Ao40 x10_11.length co40) x10_11) ∧ Aside0 (Kd.V (Kd.int .i64) 3 w' w.heap.size (fun k_ => (P0_1_ k_ ∨ w.heap.size ≤ k_) ∧ some k_ ≠ (v5 : Value).ownBlock ∧ some k_ ≠ ((.slice (some ad121) t118.length co28) : Value).ownBlock ∧ some k_ ≠ ((.slice (some ad125) t122.length co36) : Value).ownBlock ∧ k_ ≠ gb101 ∧ k_ ≠ gb113) (.slice A0_1 l0_1.length c0_1) l0_1) ∧ Aside0 (w'.heap[gb101]? = some (.cells #[(.slice (some ad105) l0_0.length c0_0), (.slice A0_1 l0_1.length c0_1)] 35 (0, 0))) ∧ Aside0 (w'.heap[gb113]? = some (.cells #[.bool t106, .bool t107, .int .i64 t108, .int .i64 t109, .int .i64 t110, .string t111] 116 (0, 0))) ∧ Aside0 (Below w.heap.size w w'))
  case atStart => exact ⟨(x5_4), (0), zq7, H', ⟨Nat.le_refl _⟩, ⟨zq5 HO_5⟩, ⟨zq12 HO_10⟩, ⟨zq5 HO_39⟩, ⟨zq5 HO_49⟩, ⟨zq12 HO_10⟩, ⟨zq12 HO_102001⟩, ⟨zq3 BK101⟩, ⟨zq3 BK113⟩, ⟨zq6 GE101 GE113⟩⟩
  clear H'
  try clear c7
  try clear c7b0
  try clear c8
  try clear c8b0
  try clear c9
  try clear c9b0
  try clear c21
  try clear c29
  try clear c29b0
  try clear c30
  try clear c30b0
  try clear c31
  try clear c31b0
  try clear c37
  try clear c37b0
  try clear c38
  try clear c38b0
  try clear c39
  try clear c39b0
  try clear hcz16_0
  try clear hcz16_1
  try clear hcz16_2
  try clear hcz16_3
  try clear hcz16_4
  try clear hcz16_5
  try clear hcz19_0
  try clear hcz19_1
  try clear hcz19_2
  try clear hcz19_3
  try clear hcz19_4
  try clear hcz19_5
  try clear hcz23_0
  try clear hcz23_1
  try clear hcz26_0
  try clear hcz26_1
  try clear hcz26_2
  try clear hcz26_3
  try clear hcz26_4
  try clear hcz26_5
  try clear hcz34_0
  try clear hcz34_1
  try clear hcz34_2
  try clear hcz34_3
  try clear hcz34_4
  try clear hcz34_5
  try clear hcz6_0
  try clear hcz6_1
  try clear hfz16_0
  try clear hfz16_1
  try clear hfz16_2
  try clear hfz16_3
  try clear hfz16_4
  try clear hfz16_5
  try clear hfz19_0
  try clear hfz19_1
  try clear hfz19_2
  try clear hfz19_3
  try clear hfz19_4
  try clear hfz19_5
  try clear hfz23_0
  try clear hfz23_1
  try clear hfz26_0
  try clear hfz26_1
  try clear hfz26_2
  try clear hfz26_3
  try clear hfz26_4
  try clear hfz26_5
  try clear hfz34_0
  try clear hfz34_1
  try clear hfz34_2
  try clear hfz34_3
  try clear hfz34_4
  try clear hfz34_5
  try clear hfz6_0
  try clear hfz6_1
  try clear hx105_0
  try clear hx121_0
  try clear hx125_0
  try clear p105
  try clear p121
  try clear p125
  try clear q105
  try clear q121
  try clear q125
  obtain ⟨x5_5, x57_5, rfl, HA, HK5, HO_5, HO_10, HO_39, HO_49, HO_55, HO_102001, BK101, BK113, HB⟩ := hrel
  cases gk with
  | zero => exact absurd HA.out (by simp [impl_steps.l3])
  | succ k5 =>
  have H := HA.out
  clear HA
  simp only [impl_steps.l3] at H
  by_cases c41 : x57_5 < (x10_11.length : Int)
  rotate_left
  · rw [if_neg c41] at H
    have c41b0 : decide (x57_5 < (x10_11.length : Int)) = false := decide_eq_false c41
    clear c41
    have H' := Aside0.mk H
    clear H
    go_wp2
    go_roundg k5
    case measure => have := HK1.out; have := HJ11.out; have := HK3.out; have := HK4.out; have := HK5.out; omega
    case rel => exact ⟨(x5_5), (wrap64 (x51_4 + 1)), zq7, H', ⟨by have := HK1.out; have := HJ11.out; have := HK3.out; have := HK4.out; have := HK5.out; omega⟩, ⟨zq5 HO_5⟩, ⟨zq12 HO_10⟩, ⟨zq5 HO_39⟩, ⟨zq5 HO_49⟩, ⟨zq12 HO_102001⟩, ⟨zq3 BK101⟩, ⟨zq3 BK113⟩, ⟨zq6 GE101 GE113⟩⟩
  rw [if_pos c41] at H
  have c41b0 : decide (x57_5 < (x10_11.length : Int)) = true := decide_eq_true c41
  clear c41
  by_cases c42 : 0 ≤ x57_5
  rotate_left
  · rw [if_neg c42] at H
    exact absurd H (by simp)
  rw [if_pos c42] at H
  have c42b0 : decide (0 ≤ x57_5) = true := decide_eq_true c42
  clear c42
  by_cases c43 : x57_5 < (x10_11.length : Int)
  rotate_left
  · rw [if_neg c43] at H
    exact absurd H (by simp)
  rw [if_pos c43] at H
  have c43b0 : decide (x57_5 < (x10_11.length : Int)) = true := decide_eq_true c43
  clear c43
  by_cases c44 : x5_5.length < 2932031007402
  rotate_left
  · rw [if_neg c44] at H
    exact absurd H (by simp)
  rw [if_pos c44] at H
  have LMc44 := Aside0.mk c44
  clear c44
  obtain ⟨y127, hy127⟩ : ∃ y_ : List (S64), y_ = (x5_5 ++ [(⟨(rdOf ByteArray.empty l0_0 x21_1), wrap64 (2 + a1), (rd t118 x41_3), (rd t122 x51_4), rd x10_11 x57_5⟩ : S64)]) := ⟨_, rfl⟩
  replace H : (impl_steps.l3 k5 a1 y127 (rdOf ByteArray.empty l0_0 x21_1) x10_11 (rd t118 x41_3) (rd t122 x51_4) l0_0 (l0_0.length : Int) x21_1 t118 (t118.length : Int) x41_3 t122 (t122.length : Int) x51_4 x10_11 (x10_11.length : Int) (wrap64 (x57_5 + 1)) l0_0 l0_1 t106 t107 t108 t109 t110 t111) = some r := by first | (rw [hy127]; with_reducible exact H) | (have H2_ := (Option.bind_some _ _).symm.trans H; rw [hy127]; with_reducible exact H2_) | (have H2_ := (Option.bind_some _ _).symm.trans H; with_reducible exact H2_) | with_reducible exact H | (rw [hy127]; exact H) | exact H
  have Ny127 := Aside0.mk hy127
  clear hy127
  have H' := Aside0.mk H
  clear H
  have p126 : 0 ≤ (x57_5 : Int) := of_decide_eq_true zq4
  have q126 : x57_5 < (x10_11.length : Int) := of_decide_eq_true zq4
  obtain ⟨ad126, e126, hx126_0⟩ := Kd.at_int (Kd.V_reads' HO_55.out).2.2 x57_5 p126 q126
  cases e126
  replace p126 := eq_true p126
  replace q126 := eq_true q126
  go_wp2_with (first | ((with_reducible refine gate_builtin (b := .append) (xs := #[.tmp 61, .tmp 69]) rfl ?_); at_builtin; refine Kd.R_append k64 (w0 := w) w.heap.size rfl (.tmp 61) (.tmp 69) 37 64 (.agg #[(.string ⟨#[]⟩), (.int .i64 0), (.int .i64 0), (.int .i64 0), (.int .i64 0)]) 48 rfl Try.underlying37 info64 rfl (by decide) (by omega) u5 x5_5 (⟨(rdOf ByteArray.empty l0_0 x21_1), wrap64 (2 + a1), (rd t118 x41_3), (rd t122 x51_4), rd x10_11 x57_5⟩ : S64) [.string (rdOf ByteArray.empty l0_0 x21_1), .int .i64 (wrap64 (2 + a1)), .int .i64 (rd t118 x41_3), .int .i64 (rd t122 x51_4), .int .i64 (rd x10_11 x57_5)] (fun k_ => (w.heap.size ≤ k_)) (fun _ => False) rfl rfl ?aP (fun _ hk => hk.elim) ?aF ?aO ?aB ?aS ?aL ?_; (case aP => exact k64_mkM _ _ _ (⟨(rdOf ByteArray.empty l0_0 x21_1), wrap64 (2 + a1), (rd t118 x41_3), (rd t122 x51_4), rd x10_11 x57_5⟩ : S64)); (case aB => exact (zq6 GE101 GE113)); (case aF => exact (fun k_ hk => (Nat.le_trans (below_size (zq6 GE101 GE113)) hk))); (case aO => exact (zq5 HO_5)); (case aS => exact (below_size (zq6 GE101 GE113))); (case aL => have := LMc44.out; omega); intro v128 w45 ho hb hg hat; rw [← Ny127.out] at ho; replace HO_10 := Aside0.mk (Kd.V_afterv (ok := (fun k_ => (P0_1_ k_ ∨ w.heap.size ≤ k_) ∧ some k_ ≠ (.slice (some ad121) t118.length co28 : Value).ownBlock ∧ some k_ ≠ (.slice (some ad125) t122.length co36 : Value).ownBlock ∧ k_ ≠ gb101 ∧ k_ ≠ gb113)) (zq29 HO_10) hg hat); replace HO_39 := Aside0.mk (Kd.R_over' (zq5 HO_39) (Kd.R_typed (zq5 HO_5)) (by decide) hg); replace HO_49 := Aside0.mk (Kd.R_over' (zq5 HO_49) (Kd.R_typed (zq5 HO_5)) (by decide) hg); replace HO_55 := Aside0.mk (Kd.V_afterv (ok := (fun k_ => (P0_1_ k_ ∨ w.heap.size ≤ k_) ∧ some k_ ≠ (.slice (some ad121) t118.length co28 : Value).ownBlock ∧ some k_ ≠ (.slice (some ad125) t122.length co36 : Value).ownBlock ∧ k_ ≠ gb101 ∧ k_ ≠ gb113)) (zq29 HO_55) hg hat); replace HO_102001 := Aside0.mk (Kd.V_afterv (ok := (fun k_ => (P0_1_ k_ ∨ w.heap.size ≤ k_) ∧ some k_ ≠ (.slice (some ad121) t118.length co28 : Value).ownBlock ∧ some k_ ≠ (.slice (some ad125) t122.length co36 : Value).ownBlock ∧ k_ ≠ gb101 ∧ k_ ≠ gb113)) (zq29 HO_102001) hg hat); replace BK101 := Aside0.mk (blk_grown (g := gb101) (o := .cells #[.slice (some ad105) l0_0.length c0_0, .slice A0_1 l0_1.length c0_1] 35 (0, 0)) (zq3 BK101) hg (Kd.R_ne HO_5.out BK101.out (by decide))); replace BK113 := Aside0.mk (blk_grown (g := gb113) (o := .cells #[.bool t106, .bool t107, .int .i64 t108, .int .i64 t109, .int .i64 t110, .string t111] 116 (0, 0)) (zq3 BK113) hg (Kd.R_ne HO_5.out BK113.out (by decide))); replace HB := Aside0.mk (hb); have HO129 := Aside0.mk (ho); clear HO_5; clear ho hb hg hat))
  go_roundg k5
  case measure => have := HK1.out; have := HJ11.out; have := HK3.out; have := HK4.out; have := HK5.out; omega
  case rel => exact ⟨(y127), (wrap64 (x57_5 + 1)), zq7, H', ⟨by have := HK1.out; have := HJ11.out; have := HK3.out; have := HK4.out; have := HK5.out; omega⟩, ⟨zq5 HO129⟩, ⟨zq30 HO_10⟩, ⟨zq5 HO_39⟩, ⟨zq5 HO_49⟩, ⟨zq30 HO_55⟩, ⟨zq30 HO_102001⟩, ⟨zq3 BK101⟩, ⟨zq3 BK113⟩, ⟨zq6 GE101 GE113⟩⟩
end Go.Proofs.Ytnaafcleafbejaa.Q
end
section
namespace Go.Proofs.Ytnaafcleafbejaa.Q
open Go.RowKit Go.Proofs.YtnaafcleafbejaaW.PrintWords Go.Proofs.YtnaafcleafbejaaW.PrintLast Go.Proofs.YtnaafcleafbejaaW.PrintMore
set_option maxHeartbeats 8000000
set_option maxRecDepth 100000
attribute [local go_sem] max2_int min2_int max_two min_two max_three min_three max_four min_four
set_option linter.unusedVariables false
set_option linter.unusedSimpArgs false
def impl_writes.l0 : Nat → List (List Int) → List Int → Int → Int → ByteArray → Int → Int → Int → Int → Option (List Int)
  | 0, _, _, _, _, _, _, _, _, _ => none
  | k + 1, x1, x5, x9, x10, x102000, x102001, x102002, x102003, x102004 => if x10 < x9 then ((impl_wordAt.f k x102000 x102001 x102002 x102003 x102004 x1 x10).bind fun t105 => (if 0 ≤ x10 then (if x10 < (x5.length : Int) then (impl_writes.l0 k x1 (x5.set (x10 : Int).toNat t105) x9 (wrap64 (x10 + 1)) x102000 x102001 x102002 x102003 x102004) else (none)) else (none))) else (some x5)
def impl_writes.f (k : Nat) (a0_0 : ByteArray) (a0_1 : Int) (a0_2 : Int) (a0_3 : Int) (a0_4 : Int) (l1 : List (List Int)) : Option (List Int) := if 4096 ≤ 281474976710656 then ((some (List.replicate 4096 0 : List Int)).bind fun y102 => (impl_writes.l0 k l1 y102 (y102.length : Int) 0 a0_0 a0_1 a0_2 a0_3 a0_4)) else (none)
theorem impl_writes.mono_l : ∀ k, (∀ y0 y1 y2 y3 y4 y5 y6 y7 y8, LeO (impl_writes.l0 k y0 y1 y2 y3 y4 y5 y6 y7 y8) (impl_writes.l0 (k + 1) y0 y1 y2 y3 y4 y5 y6 y7 y8))
  | 0 => fun _ _ _ _ _ _ _ _ _ r h => by simp [impl_writes.l0] at h
  | k + 1 => by
    have ih0 := impl_writes.mono_l k
    · intro y0 y1 y2 y3 y4 y5 y6 y7 y8
      unfold impl_writes.l0
      repeat' first
      | (with_reducible exact ih0 _ _ _ _ _ _ _ _ _)
      | (with_reducible exact impl_wordAt.mono _ _ _ _ _ _ _ _)
      | (with_reducible exact LeO.refl _)
      | (with_reducible exact LeO.none _)
      | (with_reducible refine LeO.ite ?_ ?_)
      | (with_reducible refine LeO.bind ?_ (fun _ => ?_))
      | exact ih0 _ _ _ _ _ _ _ _ _
      | exact impl_wordAt.mono _ _ _ _ _ _ _ _
      | exact LeO.none _
      | refine LeO.ite ?_ ?_
      | refine LeO.bind ?_ (fun _ => ?_)
theorem impl_writes.mono : ∀ a0 a1 a2 a3 a4 a5 k, LeO (impl_writes.f k a0 a1 a2 a3 a4 a5) (impl_writes.f (k + 1) a0 a1 a2 a3 a4 a5) := by
  intro a0 a1 a2 a3 a4 a5 k
  have ih0 := impl_writes.mono_l k
  unfold impl_writes.f
  repeat' first
      | (with_reducible exact ih0 _ _ _ _ _ _ _ _ _)
      | (with_reducible exact impl_wordAt.mono _ _ _ _ _ _ _ _)
      | (with_reducible exact LeO.refl _)
      | (with_reducible exact LeO.none _)
      | (with_reducible refine LeO.ite ?_ ?_)
      | (with_reducible refine LeO.bind ?_ (fun _ => ?_))
      | exact ih0 _ _ _ _ _ _ _ _ _
      | exact impl_wordAt.mono _ _ _ _ _ _ _ _
      | exact LeO.none _
      | refine LeO.ite ?_ ?_
      | refine LeO.bind ?_ (fun _ => ?_)
theorem impl_writes.calls (k : Nat) (a0_0 : ByteArray) (a0_1 : Int) (a0_2 : Int) (a0_3 : Int) (a0_4 : Int) (A1 : Option Addr) (c1 : Nat) (l1 : List (List Int)) (r : List Int) (w : World) (hr1 : Kd.C (Kd.slice 5 (Kd.int .u8)) w A1 l1.length l1) (hc1 : l1.length ≤ c1) (h : impl_writes.f k a0_0 a0_1 a0_2 a0_3 a0_4 l1 = some r) :
    Calls Try.prog 55 #[.agg #[.string a0_0, .int .i64 a0_1, .int .i64 a0_2, .int .i64 a0_3, .int .i64 a0_4], .slice A1 l1.length c1] w fun e w' => ∃ v0_ : Value, e = .returned (v0_) ∧ Kd.R (Kd.int .u8) 5 w' w.heap.size (fun _ => True) v0_ r ∧ Below w.heap.size w w' := by
  have hu64 := Try.underlying64
  have HR1 := Aside0.mk hr1
  have HC1 := Aside0.mk hc1
  clear hr1 hc1
  have HB := Aside0.mk (Below.refl w.heap.size w)
  have H : (if 4096 ≤ 281474976710656 then ((some (List.replicate 4096 0 : List Int)).bind fun y102 => (impl_writes.l0 k l1 y102 (y102.length : Int) 0 a0_0 a0_1 a0_2 a0_3 a0_4)) else (none)) = some r := h
  clear h
  by_cases c3 : 4096 ≤ 281474976710656
  rotate_left
  · rw [if_neg c3] at H
    exact absurd H (by simp)
  rw [if_pos c3] at H
  have c3b0 := eq_true c3
  have c3b1 : decide (4096 ≤ 281474976710656) = true := decide_eq_true c3
  clear c3
  obtain ⟨y102, hy102⟩ : ∃ y_ : List Int, y_ = (List.replicate 4096 0) := ⟨_, rfl⟩
  replace H : (impl_writes.l0 k l1 y102 (y102.length : Int) 0 a0_0 a0_1 a0_2 a0_3 a0_4) = some r := by first | (rw [hy102]; with_reducible exact H) | (have H2_ := (Option.bind_some _ _).symm.trans H; rw [hy102]; with_reducible exact H2_) | (have H2_ := (Option.bind_some _ _).symm.trans H; with_reducible exact H2_) | with_reducible exact H | (rw [hy102]; exact H) | exact H
  have Ny102 := Aside0.mk hy102
  clear hy102
  have H' := Aside0.mk H
  clear H
  go_enter Try.func55, Try.ntmps55
  go_wp2_with (first | ((with_reducible refine zgd 2 ?_); refine box_event ?hg (N := 2) ?hd (cs := #[.string a0_0, .int .i64 a0_1, .int .i64 a0_2, .int .i64 a0_3, .int .i64 a0_4]) (t := 64) ?hr ?_; (case hd => rfl); (case hg => rfl); (case hr => first | (go_simp; done) | (go_simp; rfl)); intro gb101 hg w4 hbox hb; have BK101 := Aside0.mk (hbox); have GW101 := Aside0.mk ((zq11 : w.heap.size ≤ gb101)); have GE101 := Aside0.mk ((zq11 : w.heap.size ≤ gb101)); replace HB := Aside0.mk (below_step zq1 hb); clear hb hbox hg) | ((with_reducible refine zgd 7 ?_); refine Kd.R_make (Kd.int .u8) _ 5 rfl (N := 7) rfl 68 _ _ rfl 4096 rfl rfl Try.underlying68 (.int .u8 0) 1 info5 rfl (by decide) (by omega) 0 (ok := fun _ => True) (okp := fun _ => True) rfl (fun _ hk => hk) trivial (by omega) (by omega) (Below.refl _ _) (Nat.le_refl _) ?_; intro v103 w5 ho6 hb hg_ hnew_; clear hg_ hnew_; (first | rw [← Ny102.out] at ho6 | (simp only [Int.reduceToNat] at ho6; rw [← Ny102.out] at ho6)); have HO104 := Aside0.mk (Kd.R_lower ho6 (below_size (zq2 GE101))); replace BK101 := Aside0.mk (blk_below (g := gb101) (o := .cells #[.string a0_0, .int .i64 a0_1, .int .i64 a0_2, .int .i64 a0_3, .int .i64 a0_4] 64 (0, 0)) (zq3 BK101) hb); replace HB := Aside0.mk (below_step (zq2 GE101) hb); clear hb ho6; obtain ⟨Ao7, co7, eo7⟩ := Kd.R_slice HO104.out; subst eo7))
  go_loopg [10] k (fun kq v10 w' => ∃ (x5_1 : List Int) (x10_1 : Int), v10 = .int .i64 x10_1 ∧ Aside0 (impl_writes.l0 kq l1 x5_1 (y102.length : Int) x10_1 a0_0 a0_1 a0_2 a0_3 a0_4 = some r) ∧ Aside0 (kq ≤ k) ∧ Aside0 (Kd.R (Kd.int .u8) 5 w' w.heap.size (fun _ => True) (.slice Ao7 y102.length co7) x5_1) ∧ Aside0 (w'.heap[gb101]? = some (.cells #[.string a0_0, .int .i64 a0_1, .int .i64 a0_2, .int .i64 a0_3, .int .i64 a0_4] 64 (0, 0))) ∧ Aside0 (Below w.heap.size w w'))
  case atStart => exact ⟨(y102), (0), zq7, H', ⟨Nat.le_refl _⟩, ⟨zq5 HO104⟩, ⟨zq3 BK101⟩, ⟨zq2 GE101⟩⟩
  clear H'
  try clear c1
  try clear c3
  try clear c3b0
  try clear c3b1
  obtain ⟨x5_1, x10_1, rfl, HA, HK1, HO_5, BK101, HB⟩ := hrel
  have hl5_1 := (Kd.R_reads' HO_5.out).1
  rw [hl5_1] at HO_5
  (try simp only [hl5_1])
  (try simp only [hl5_1] at BK101)
  cases gk with
  | zero => exact absurd HA.out (by simp [impl_writes.l0])
  | succ k1 =>
  have H := HA.out
  clear HA
  simp only [impl_writes.l0] at H
  by_cases c8 : x10_1 < (y102.length : Int)
  rotate_left
  · rw [if_neg c8] at H
    have c8b0 : decide (x10_1 < (y102.length : Int)) = false := decide_eq_false c8
    have c8b0h := c8b0
    try simp only [hl5_1] at c8b0h
    clear c8
    obtain rfl := Option.some.inj H
    go_wp2
    go_ret
    exact ⟨_, zq8, zq5 HO_5, zq2 GE101⟩
  rw [if_pos c8] at H
  have c8b0 : decide (x10_1 < (y102.length : Int)) = true := decide_eq_true c8
  have c8b0h := c8b0
  try simp only [hl5_1] at c8b0h
  clear c8
  replace H := Option.bind_eq_some_iff.mp H
  obtain ⟨t105, A90, H⟩ := H
  replace H : (if 0 ≤ x10_1 then (if x10_1 < (x5_1.length : Int) then (impl_writes.l0 k1 l1 (x5_1.set (x10_1 : Int).toNat t105) (y102.length : Int) (wrap64 (x10_1 + 1)) a0_0 a0_1 a0_2 a0_3 a0_4) else (none)) else (none)) = some r := H
  have A9 := Aside0.mk A90
  clear A90
  by_cases c10 : 0 ≤ x10_1
  rotate_left
  · rw [if_neg c10] at H
    exact absurd H (by simp)
  rw [if_pos c10] at H
  have c10b0 : decide (0 ≤ x10_1) = true := decide_eq_true c10
  clear c10
  by_cases c11 : x10_1 < (x5_1.length : Int)
  rotate_left
  · rw [if_neg c11] at H
    exact absurd H (by simp)
  rw [if_pos c11] at H
  have c11b0 : decide (x10_1 < (x5_1.length : Int)) = true := decide_eq_true c11
  clear c11
  obtain ⟨y106, hy106⟩ : ∃ y_ : List Int, y_ = (x5_1.set (x10_1 : Int).toNat t105) := ⟨_, rfl⟩
  replace H : (impl_writes.l0 k1 l1 y106 (y102.length : Int) (wrap64 (x10_1 + 1)) a0_0 a0_1 a0_2 a0_3 a0_4) = some r := by first | (rw [hy106]; with_reducible exact H) | (have H2_ := (Option.bind_some _ _).symm.trans H; rw [hy106]; with_reducible exact H2_) | (have H2_ := (Option.bind_some _ _).symm.trans H; with_reducible exact H2_) | with_reducible exact H | (rw [hy106]; exact H) | exact H
  have Ny106 := Aside0.mk hy106
  clear hy106
  have H' := Aside0.mk H
  clear H
  have hcz13_0 : wr.cell? ⟨gb101, 0, none⟩ = some (.string a0_0) := (blk_cell BK101.out 0).trans rfl
  have hcz13_1 : wr.cell? ⟨gb101, 1, none⟩ = some (.int .i64 a0_1) := (blk_cell BK101.out 1).trans rfl
  have hcz13_2 : wr.cell? ⟨gb101, 2, none⟩ = some (.int .i64 a0_2) := (blk_cell BK101.out 2).trans rfl
  have hcz13_3 : wr.cell? ⟨gb101, 3, none⟩ = some (.int .i64 a0_3) := (blk_cell BK101.out 3).trans rfl
  have hcz13_4 : wr.cell? ⟨gb101, 4, none⟩ = some (.int .i64 a0_4) := (blk_cell BK101.out 4).trans rfl
  have hfz13_0 := blk_frozen BK101.out 0
  have hfz13_1 := blk_frozen BK101.out 1
  have hfz13_2 := blk_frozen BK101.out 2
  have hfz13_3 := blk_frozen BK101.out 3
  have hfz13_4 := blk_frozen BK101.out 4
  go_wp2_with (first | ((with_reducible refine zgc 91 ?_); refine zca 18 Try.func91 #[.agg #[.string a0_0, .int .i64 a0_1, .int .i64 a0_2, .int .i64 a0_3, .int .i64 a0_4], .slice A1 l1.length c1, .int .i64 x10_1] (impl_wordAt.calls k1 a0_0 a0_1 a0_2 a0_3 a0_4 _ _ l1 x10_1 t105 _ (zq9 HR1) HC1.out A9.out) ?_; rintro e w14 ⟨rfl, hb⟩; refine ⟨_, rfl, ?_⟩; replace HO_5 := Aside0.mk (Kd.R_below (zq5 HO_5) hb); replace BK101 := Aside0.mk (blk_below (g := gb101) (o := .cells #[.string a0_0, .int .i64 a0_1, .int .i64 a0_2, .int .i64 a0_3, .int .i64 a0_4] 64 (0, 0)) (zq3 BK101) hb); replace HB := Aside0.mk (below_step (zq2 GE101) hb); (try clear hb); have p12 : 0 ≤ (x10_1 : Int) := of_decide_eq_true zq4; have q12 : (x10_1 : Int) < ((x5_1.length : Int) : Int) := of_decide_eq_true zq4; obtain ⟨go12, co12, eo12, gb12, gl12, cl12, HG12⟩ := Kd.R_form HO_5.out (by omega); (first | cases eo12 | (injection eo12 with ea_ en_ ec_; (first | subst ea_ | (injection ea_ with ea_; subst ea_)); subst ec_; clear en_)); have GB12 := Aside0.mk gb12; have GG12 := Aside0.mk HG12; clear gb12 gl12 HG12; obtain ⟨hx12_0, hf12_0⟩ := Kd.R_celln 0 HO_5.out (x10_1 : Int) p12 q12; replace p12 := eq_true p12; replace q12 := eq_true q12; obtain ⟨hy15_, hz15_⟩ := Kd.R_celln 0 HO_5.out (x10_1 : Int) (of_decide_eq_true zq4) (of_decide_eq_true zq4); have HP15 := Kd.R_putg HO_5.out (x10_1 : Int) t105) | ((with_reducible refine zgs 5 19 ?_); refine store_event (t := 5) (p := 19) (v := ?vo_w16) (w1 := (w14.setCell ⟨go12, (x10_1 : Int).toNat, none⟩ (.int .u8 t105))) ?hg ?ho ?hn ?hr ?_; (case ho => rfl); (case hg => rfl); (case hn => rfl); (case hr => first | (go_simp; done) | (go_simp; rfl)); intro w16 hw; have hg : w14.grownBy w16 (some go12) := (by rw [hw]; exact HP15.2); have hp_ : Kd.R (Kd.int .u8) 5 w16 w.heap.size (fun _ => True) (.slice (some ⟨go12, 0, none⟩) x5_1.length co7) y106 := (by rw [hw, Ny106.out]; exact HP15.1); clear HP15; replace BK101 := Aside0.mk (blk_grown (g := gb101) (o := .cells #[.string a0_0, .int .i64 a0_1, .int .i64 a0_2, .int .i64 a0_3, .int .i64 a0_4] 64 (0, 0)) (zq3 BK101) hg (Kd.R_ne HO_5.out BK101.out (by decide))); replace HO_5 := Aside0.mk (hp_); replace HB := Aside0.mk ((zq53 GB12 : Below w.heap.size w w16)); clear hg hw hp_))
  (try simp only [← hl5_1])
  go_roundg k1
  case measure => have := HK1.out; omega
  case rel => exact ⟨(y106), (wrap64 (x10_1 + 1)), zq7, H', ⟨zq36 HK1⟩, ⟨by (try simp only [hl5_1]); (with_reducible repeat (first | apply Kd.R_alloc | apply Kd.R_drewN | apply Kd.R_drew)); exact HO_5.out⟩, ⟨by (try simp only [hl5_1]); (with_reducible repeat (first | refine blk_drewN ?_ _ | refine blk_drew ?_ | refine blk_alloc ?_ _)); exact BK101.out⟩, ⟨zq2 GE101⟩⟩
end Go.Proofs.Ytnaafcleafbejaa.Q
end
section
namespace Go.Proofs.Ytnaafcleafbejaa.Q
open Go.RowKit Go.Proofs.YtnaafcleafbejaaW.PrintWords Go.Proofs.YtnaafcleafbejaaW.PrintLast Go.Proofs.YtnaafcleafbejaaW.PrintMore
set_option maxHeartbeats 8000000
set_option maxRecDepth 100000
attribute [local go_sem] max2_int min2_int max_two min_two max_three min_three max_four min_four
set_option linter.unusedVariables false
set_option linter.unusedSimpArgs false
set_option linter.unusedVariables false
set_option linter.unusedSimpArgs false
def cuL (g : S64 → Int → Option Int) : List S64 → Int → Option Int
  | [], m => some m
  | x :: xs, m => (g x m).bind fun v => cuL g xs v
def cuStep (k : Nat) (n j : Int) (cols : List (List Int)) (rec : List (List Int) → Option Int) (x : S64) (m : Int) : Option Int :=
  (impl_isReason.f k x.f0 x.f1 x.f2 x.f3 x.f4 cols (j == wrap64 (n - 1))).bind fun b => if b = true then some m else if (j == wrap64 (n - 1)) = true then some (wrap64 (m + 1)) else
    (impl_writes.f k x.f0 x.f1 x.f2 x.f3 x.f4 cols).bind fun c => (rec (cols ++ [c])).bind fun v => some (wrap64 (m + v))
def cuM (k : Nat) (os : List ByteArray) (ims : List Int) (n : Int) : Nat → Int → List (List Int) → Option Int
  | 0, _, _ => none
  | d + 1, j, cols => if j = n then some 1 else if cols.length < 1048576 then (impl_steps.f k os ims j).bind fun xs => cuL (cuStep k n j cols (cuM k os ims n d (wrap64 (j + 1)))) xs 0 else none
structure CuX (w0 : World) (Ao : Option Addr) (co : Nat) (os : List ByteArray) (Ai : Option Addr) (ci : Nat) (ims : List Int) (n : Int) (gn gc gf : Nat) (W : World) : Prop where
  below : Below w0.heap.size w0 W
  bn : W.heap[gn]? = some (.cells #[.int .i64 n] 3 (0, 0))
  bc : W.heap[gc]? = some (.cells #[.slice Ao os.length co, .slice Ai ims.length ci] 35 (0, 0))
  bf : W.heap[gf]? = some (.cells #[.func (.func 52) #[] #[.pointer (some ⟨gn, 0, none⟩), .pointer (some ⟨gc, 0, none⟩), .pointer (some ⟨gf, 0, none⟩)]] 83 (0, 0))
section
variable {w0 : World} {Ao : Option Addr} {co : Nat} {os : List ByteArray} {Ai : Option Addr} {ci : Nat} {ims : List Int} {n : Int} {gn gc gf : Nat}
theorem CuX.step {W W1 : World} (h : CuX w0 Ao co os Ai ci ims n gn gc gf W) (hb : Below W.heap.size W W1) : CuX w0 Ao co os Ai ci ims n gn gc gf W1 := ⟨below_step h.below hb, blk_below h.bn hb, blk_below h.bc hb, blk_below h.bf hb⟩
theorem cuCount (k : Nat) (hO : Kd.C Kd.string w0 Ao os.length os) (hco : os.length ≤ co) (hI : Kd.C (Kd.int .i64) w0 Ai ims.length ims) (hci : ims.length ≤ ci) : ∀ (d : Nat) (j : Int) (ga : Nat) (cp : Nat) (cols : List (List Int)) (r : Int) (W : World), CuX w0 Ao co os Ai ci ims n gn gc gf W →
    Kd.C (Kd.slice 5 (Kd.int .u8)) W (some ⟨ga, 0, none⟩) cols.length cols → cols.length ≤ cp → cuM k os ims n d j cols = some r →
    Calls Try.prog 52 #[.int .i64 j, .slice (some ⟨ga, 0, none⟩) cols.length cp, .pointer (some ⟨gn, 0, none⟩), .pointer (some ⟨gc, 0, none⟩), .pointer (some ⟨gf, 0, none⟩)] W fun e W' => e = .returned (.int .i64 r) ∧ Below W.heap.size W W' := by
  have HO := Aside0.mk hO
  have HI := Aside0.mk hI
  have HCO := Aside0.mk hco
  have HCI := Aside0.mk hci
  clear hO hI hco hci
  intro d
  induction d with
  | zero =>
    intro j ga cp cols r W hX hC hcp h
    cases h
  | succ d ih =>
  intro j ga cp cols r W hX hC hcp h
  have HIH := Aside0.mk ih
  clear ih
  simp only [cuM] at h
  by_cases q : j = n
  · subst q
    rw [if_pos rfl] at h
    obtain rfl := Option.some.inj h
    have q1 := blk_cell hX.bn 0
    have c1 : (j == j) = true := beq_self_eq_true _
    clear hX hC hcp h HIH
    go_enter Try.func52, Try.ntmps52
    go_wp2_with fail
    go_ret
    exact ⟨rfl, Below.refl _ _⟩
  rw [if_neg q] at h
  by_cases hlen : cols.length < 1048576
  rotate_left
  · rw [if_neg hlen] at h
    cases h
  rw [if_pos hlen] at h
  obtain ⟨xs, hxs, h⟩ := Option.bind_eq_some_iff.1 h
  have c1 : (j == n) = false := by rw [beq_eq_false_iff_ne]; exact q
  have q1 := blk_cell hX.bn 0
  have q2 := blk_cell hX.bc 0
  have q3 := blk_cell hX.bc 1
  have HX := Aside0.mk hX
  have HC := Aside0.mk hC
  have HCP := Aside0.mk hcp
  have HXS := Aside0.mk hxs
  have HLEN := Aside0.mk hlen
  clear hX hC hcp hxs q hlen
  obtain ⟨G, hG⟩ : ∃ G, G = cuStep k n j cols (cuM k os ims n d (wrap64 (j + 1))) := ⟨_, rfl⟩
  rw [← hG] at h
  have HL := Aside0.mk (show cuL G (xs.drop 0) 0 = some r by rw [List.drop_zero]; exact h)
  have HG := Aside0.mk hG
  clear h hG
  go_enter Try.func52, Try.ntmps52
  go_wp2_with (go_at_call 53; go_must (refine (impl_steps.calls k Ao co os (fun k_ => k_ < w0.heap.size) Ai ci ims j xs _ (Kd.C_below HO.out (by repeat (first | exact HX.out.below | apply pw_below_drewN))) HCO.out (Kd.V_mk HCI.out (Kd.F_below (Kd.C_F (Kd.heap_int .i64) HI.out) (by repeat (first | exact HX.out.below | apply pw_below_drewN)))) HXS.out).mono ?_; rintro e w1 ⟨v1, rfl, hR, hb⟩; obtain ⟨Ax, cx, rfl⟩ := Kd.R_slice hR; have HR := Aside0.mk hR; have HB := Aside0.mk hb; clear hR hb))
  go_loopw [8, 18] (fun v8 v18 wr => ∃ (i : Nat) (m : Int), v8 = .int .i64 m ∧ v18 = .int .i64 (i : Int) ∧ i ≤ xs.length ∧ Aside0 (cuL G (xs.drop i) m = some r) ∧ Aside0 (Below w1.heap.size w1 wr)) (fun _ v18 _ => xs.length - (intOf v18).toNat)
  case atStart => exact ⟨0, 0, rfl, rfl, Nat.zero_le _, HL, ⟨by repeat (first | exact Below.refl _ _ | apply pw_below_drewN | apply below_drew1)⟩⟩
  clear HL q1 q2 q3
  obtain ⟨i, m, rfl, rfl, hi, HL, HBR⟩ := hrel
  by_cases hlt : i < xs.length
  rotate_left
  · obtain rfl : i = xs.length := by omega
    obtain rfl : m = r := by have := HL.out; rw [List.drop_length] at this; exact Option.some.inj this
    have d1 : decide ((xs.length : Int) < xs.length) = false := decide_eq_false (by omega)
    clear hi hlt HL
    go_wp2_with fail
    go_ret
    exact ⟨rfl, by repeat (first | exact below_step HB.out HBR.out | apply pw_below_drewN | apply below_drew1)⟩
  have d1 : decide ((i : Int) < xs.length) = true := decide_eq_true (by omega)
  have d2 : (0 : Int) ≤ (i : Int) := by omega
  have d3 : (i : Int) < xs.length := by omega
  have hw : wrap64 ((i : Int) + 1) = ((i + 1 : Nat) : Int) := by have := Kd.C_max (Kd.R_reads' HR.out).2.2; unfold wrap64; omega
  have HW := Aside0.mk hw
  clear hw
  obtain ⟨ad, ea, x0, x1, x2, x3, x4⟩ := at_T64 (Kd.C_below (Kd.R_reads' HR.out).2.2 HBR.out) (i : Int) d2 d3
  rw [Int.toNat_natCast] at x0 x1 x2 x3 x4
  subst ea
  have h := HL.out
  rw [List.drop_eq_getElem_cons hlt] at h
  simp only [cuL] at h
  obtain ⟨m', hm', h⟩ := Option.bind_eq_some_iff.1 h
  obtain ⟨x, hx⟩ : ∃ x, x = rd_T64 xs (i : Int) := ⟨_, rfl⟩
  have hxi : xs[i] = x := by rw [hx]; unfold rd_T64; rw [Int.toNat_natCast]; simp [List.getD, hlt]
  rw [← hx] at x0 x1 x2 x3 x4
  rw [hxi, HG.out] at hm'
  unfold cuStep at hm'
  obtain ⟨b, hrb, hm'⟩ := Option.bind_eq_some_iff.1 hm'
  have HNX := Aside0.mk h
  have HRB := Aside0.mk hrb
  have HM := Aside0.mk hm'
  clear h hrb hm' hx hxi HL
  cases b with
  | true =>
    obtain rfl : m = m' := by have := HM.out; rw [if_pos rfl] at this; exact Option.some.inj this
    go_wp2_with (first
      | ((with_reducible refine gate_dst (N := 10) rfl ?_); go_must (refine box_event ?hg (N := 10) ?hd (cs := #[.string ⟨#[]⟩, .int .i64 0, .int .i64 0, .int .i64 0, .int .i64 0]) (t := 64) ?hr ?_; (case hd => rfl); (case hg => rfl); (case hr => first | (go_simp; done) | (go_simp; rfl)); intro gx hg w5 hbox hb; have GX := Aside0.mk (Nat.le_of_eq hg.symm); have BX := Aside0.mk hbox; have HBX := Aside0.mk hb; clear hg hbox hb))
      | ((with_reducible refine gate_store (t := 64) (p := 10) rfl ?_); go_must (refine fill_event rfl (t := 64) (p := 10) rfl rfl (g := gx) (u := .agg #[.string x.f0, .int .i64 x.f1, .int .i64 x.f2, .int .i64 x.f3, .int .i64 x.f4]) (seg := [.string x.f0, .int .i64 x.f1, .int .i64 x.f2, .int .i64 x.f3, .int .i64 x.f4]) rfl rfl BX.out rfl rfl rfl (by simp [Value.oneCell']) ?_; intro w6 hbb hbw hfar; have HB6 := Aside0.mk (below_step HBR.out (HBX.out.trans (hbw _ GX.out))); have HX6 := Aside0.mk (HX.out.step (below_step HB.out HB6.out)); clear HBX BX x0 x1 x2 x3 x4; have BX := Aside0.mk hbb; have y0 := blk_cell BX.out 0; have y1 := blk_cell BX.out 1; have y2 := blk_cell BX.out 2; have y3 := blk_cell BX.out 3; have y4 := blk_cell BX.out 4; have q1 := blk_cell HX6.out.bn 0; clear hbb hbw hfar))
      | (go_at_call 54; go_must (refine (impl_isReason.calls k x.f0 x.f1 x.f2 x.f3 x.f4 (some ⟨ga, 0, none⟩) cp cols _ true _ (Kd.C_below HC.out (below_step HB.out HB6.out)) HCP.out HRB.out).mono ?_; rintro e w9 ⟨rfl, hb⟩; have HB9 := Aside0.mk (below_step HB6.out hb); clear hb)))
    go_roundw
    case rel => exact ⟨i + 1, m, rfl, by rw [HW.out], by omega, HNX, HB9⟩
    case measure => rw [HW.out]; simp [intOf]; omega
  | false =>
    have hm' := HM.out
    rw [if_neg (by decide)] at hm'
    cases hE : (j == wrap64 (n - 1)) with
    | true =>
      rw [hE] at HRB
      rw [if_pos hE] at hm'
      obtain rfl := Option.some.inj hm'
      clear hm' HM
      go_wp2_with (first
        | ((with_reducible refine gate_dst (N := 10) rfl ?_); go_must (refine box_event ?hg (N := 10) ?hd (cs := #[.string ⟨#[]⟩, .int .i64 0, .int .i64 0, .int .i64 0, .int .i64 0]) (t := 64) ?hr ?_; (case hd => rfl); (case hg => rfl); (case hr => first | (go_simp; done) | (go_simp; rfl)); intro gx hg w5 hbox hb; have GX := Aside0.mk (Nat.le_of_eq hg.symm); have BX := Aside0.mk hbox; have HBX := Aside0.mk hb; clear hg hbox hb))
        | ((with_reducible refine gate_store (t := 64) (p := 10) rfl ?_); go_must (refine fill_event rfl (t := 64) (p := 10) rfl rfl (g := gx) (u := .agg #[.string x.f0, .int .i64 x.f1, .int .i64 x.f2, .int .i64 x.f3, .int .i64 x.f4]) (seg := [.string x.f0, .int .i64 x.f1, .int .i64 x.f2, .int .i64 x.f3, .int .i64 x.f4]) rfl rfl BX.out rfl rfl rfl (by simp [Value.oneCell']) ?_; intro w6 hbb hbw hfar; have HB6 := Aside0.mk (below_step HBR.out (HBX.out.trans (hbw _ GX.out))); have HX6 := Aside0.mk (HX.out.step (below_step HB.out HB6.out)); clear HBX BX x0 x1 x2 x3 x4; have BX := Aside0.mk hbb; have y0 := blk_cell BX.out 0; have y1 := blk_cell BX.out 1; have y2 := blk_cell BX.out 2; have y3 := blk_cell BX.out 3; have y4 := blk_cell BX.out 4; have q1 := blk_cell HX6.out.bn 0; clear hbb hbw hfar))
        | (go_at_call 54; go_must (refine (impl_isReason.calls k x.f0 x.f1 x.f2 x.f3 x.f4 (some ⟨ga, 0, none⟩) cp cols true false _ (Kd.C_below HC.out (below_step HB.out HB6.out)) HCP.out HRB.out).mono ?_; rintro e w9 ⟨rfl, hb⟩; have HB9 := Aside0.mk (below_step HB6.out hb); have q1 := blk_cell (HX6.out.step hb).bn 0; clear hb)))
      go_roundw
      case rel => exact ⟨i + 1, wrap64 (m + 1), rfl, by rw [HW.out], by omega, HNX, HB9⟩
      case measure => rw [HW.out]; simp [intOf]; omega
    | false =>
      rw [hE] at HRB
      rw [if_neg (by rw [hE]; decide)] at hm'
      obtain ⟨c, hc, hm'⟩ := Option.bind_eq_some_iff.1 hm'
      obtain ⟨v, hv, hm'⟩ := Option.bind_eq_some_iff.1 hm'
      obtain rfl := Option.some.inj hm'
      have HCC := Aside0.mk hc
      have HV := Aside0.mk hv
      clear hm' HM hc hv
      go_wp2_with (first
        | ((with_reducible refine gate_dst (N := 10) rfl ?_); go_must (refine box_event ?hg (N := 10) ?hd (cs := #[.string ⟨#[]⟩, .int .i64 0, .int .i64 0, .int .i64 0, .int .i64 0]) (t := 64) ?hr ?_; (case hd => rfl); (case hg => rfl); (case hr => first | (go_simp; done) | (go_simp; rfl)); intro gx hg w5 hbox hb; have GX := Aside0.mk (Nat.le_of_eq hg.symm); have BX := Aside0.mk hbox; have HBX := Aside0.mk hb; clear hg hbox hb))
        | ((with_reducible refine gate_store (t := 64) (p := 10) rfl ?_); go_must (refine fill_event rfl (t := 64) (p := 10) rfl rfl (g := gx) (u := .agg #[.string x.f0, .int .i64 x.f1, .int .i64 x.f2, .int .i64 x.f3, .int .i64 x.f4]) (seg := [.string x.f0, .int .i64 x.f1, .int .i64 x.f2, .int .i64 x.f3, .int .i64 x.f4]) rfl rfl BX.out rfl rfl rfl (by simp [Value.oneCell']) ?_; intro w6 hbb hbw hfar; have HB6 := Aside0.mk (below_step HBR.out (HBX.out.trans (hbw _ GX.out))); have HX6 := Aside0.mk (HX.out.step (below_step HB.out HB6.out)); clear HBX BX x0 x1 x2 x3 x4; have BX := Aside0.mk hbb; have y0 := blk_cell BX.out 0; have y1 := blk_cell BX.out 1; have y2 := blk_cell BX.out 2; have y3 := blk_cell BX.out 3; have y4 := blk_cell BX.out 4; have q1 := blk_cell HX6.out.bn 0; clear hbb hbw hfar))
        | (go_at_call 54; go_must (refine (impl_isReason.calls k x.f0 x.f1 x.f2 x.f3 x.f4 (some ⟨ga, 0, none⟩) cp cols false false _ (Kd.C_below HC.out (below_step HB.out HB6.out)) HCP.out HRB.out).mono ?_; rintro e w9 ⟨rfl, hb⟩; have HX9 := Aside0.mk (HX6.out.step hb); have HB9 := Aside0.mk (below_step HB6.out hb); have q1 := blk_cell HX9.out.bn 0; have B9 := Aside0.mk (blk_below BX.out hb); clear hb)))
      refine ri_mix [[], [], [], [2], [], [], [5], [], [7], [4, 5, 6, 7, 8], [], [], [10, 11], [10, 11, 12], [4, 5, 6, 7, 8, 9, 10, 11, 12, 13], [1, 2, 3, 4, 5, 6, 7, 8, 9, 10, 11, 12, 13, 14], [0, 1, 2, 3, 4, 5, 6, 7, 8, 9, 10, 11, 12, 13, 14, 15], [0, 1, 2, 3, 4, 5, 6, 7, 8, 9, 10, 11, 12, 13, 14, 15, 16]] [[16, 17], [15, 16, 17], [3, 15, 16, 17], [15, 16, 17], [9, 14, 15, 16, 17], [6, 9, 14, 15, 16, 17], [9, 14, 15, 16, 17], [8, 9, 14, 15, 16, 17], [9, 14, 15, 16, 17], [14, 15, 16, 17], [12, 13, 14, 15, 16, 17], [12, 13, 14, 15, 16, 17], [13, 14, 15, 16, 17], [14, 15, 16, 17], [15, 16, 17], [16, 17], [17], []] (riMem [12, 13, 14])
        (riNth [.int .i64 m, .func (.func 52) #[] #[.pointer (some ⟨gn, 0, none⟩), .pointer (some ⟨gc, 0, none⟩), .pointer (some ⟨gf, 0, none⟩)], .int .i64 j, .int .i64 (wrap64 (j + 1)), .slice (some ⟨ga, 0, none⟩) cols.length cp, .slice (some ⟨ga, 0, none⟩) cols.length cp, .int .i64 cols.length, .slice (some ⟨ga, 0, none⟩) cols.length cp, .int .i64 cols.length, .slice (some ⟨ga, 0, none⟩) cols.length cols.length, .agg #[.string x.f0, .int .i64 x.f1, .int .i64 x.f2, .int .i64 x.f3, .int .i64 x.f4], .slice (some ⟨ga, 0, none⟩) cols.length cp, undef, undef, undef, .int .i64 v, .int .i64 (wrap64 (m + v)), .int .i64 (wrap64 (m + v))])
        (fun L s V => Below w9.heap.size w9 V ∧ (L 12 = true → L 13 = false → ∃ A' c', s 12 = .slice A' c.length c' ∧ c.length ≤ c' ∧ Kd.C (Kd.int .u8) V A' c.length c) ∧ (L 13 = true → L 14 = false → ∃ g A' c', s 13 = .slice (some ⟨g, 0, none⟩) 1 1 ∧ V.heap[g]? = some (.cells #[.slice A' c.length c'] 68 (0, 0)) ∧ c.length ≤ c' ∧ Kd.C (Kd.int .u8) V A' c.length c) ∧ (L 14 = true → L 15 = false → ∃ g' c', s 14 = .slice (some ⟨g', 0, none⟩) (cols ++ [c]).length c' ∧ (cols ++ [c]).length ≤ c' ∧ Kd.C (Kd.slice 5 (Kd.int .u8)) V (some ⟨g', 0, none⟩) (cols ++ [c]).length (cols ++ [c])))
        rfl (fun _ _ _ _ _ h => h) zq27 ⟨below_drew (Below.refl _ _), fun h => Bool.noConfusion h, fun h => Bool.noConfusion h, fun h => Bool.noConfusion h⟩ ⟨?_, ?_, ?_, ?_, ?_, ?_, ?_, ?_, ?_, ?_, ?_, ?_, ?_, ?_, ?_, ?_, ?_, ?_, trivial⟩ ?_
      · refine fun L s V hu hd hn hJ => rm_val (by rfl) ⟨fun _ => rfl, hJ⟩ ?_
        refine zsm ?_
        exact zg0
      · refine fun L s V hu hd hn hJ => rm_val (by rfl) ⟨fun _ => rfl, hJ⟩ ?_
        have q4 := blk_cell (HX9.out.step hJ.1).bf 0
        clear hJ
        refine zsm ?_
        exact zg0
      · refine fun L s V hu hd hn hJ => rm_val (by rfl) ⟨fun _ => rfl, hJ⟩ ?_
        refine zsm ?_
        exact zg0
      · refine fun L s V hu hd hn hJ => rm_val (by rfl) ⟨fun _ => rfl, hJ⟩ ?_
        refine zsm ?_
        first | (go_simp; done) | (go_simp; rfl) | (go_simp; exact i64_w _)
      · refine fun L s V hu hd hn hJ => rm_val (by rfl) ⟨fun _ => rfl, hJ⟩ ?_
        refine zsm ?_
        exact zg0
      · refine fun L s V hu hd hn hJ => rm_val (by rfl) ⟨fun _ => rfl, hJ⟩ ?_
        refine zsm ?_
        exact zg0
      · refine fun L s V hu hd hn hJ => rm_val (by rfl) ⟨fun _ => rfl, hJ⟩ ?_
        refine zsm ?_
        exact zg0
      · refine fun L s V hu hd hn hJ => rm_val (by rfl) ⟨fun _ => rfl, hJ⟩ ?_
        refine zsm ?_
        exact zg0
      · refine fun L s V hu hd hn hJ => rm_val (by rfl) ⟨fun _ => rfl, hJ⟩ ?_
        refine zsm ?_
        exact zg0
      · refine fun L s V hu hd hn hJ => rm_val (by rfl) ⟨fun _ => rfl, hJ⟩ ?_
        have hcp : cols.length ≤ cp := HCP.out
        clear hJ
        refine zsm ?_
        exact zg0
      · refine fun L s V hu hd hn hJ => rm_val (by rfl) ⟨fun _ => rfl, hJ⟩ ?_
        have z0 := blk_cell (blk_below B9.out hJ.1) 0
        have z1 := blk_cell (blk_below B9.out hJ.1) 1
        have z2 := blk_cell (blk_below B9.out hJ.1) 2
        have z3 := blk_cell (blk_below B9.out hJ.1) 3
        have z4 := blk_cell (blk_below B9.out hJ.1) 4
        clear hJ
        refine zsm ?_
        exact zg0
      · refine fun L s V hu hd hn hJ => rm_val (by rfl) ⟨fun _ => rfl, hJ⟩ ?_
        refine zsm ?_
        exact zg0
      · rintro L s V hu hd hn ⟨hB, g12, g13, g14⟩
        refine rm_call Try.func55 zq27 rfl #[.agg #[.string x.f0, .int .i64 x.f1, .int .i64 x.f2, .int .i64 x.f3, .int .i64 x.f4], .slice (some ⟨ga, 0, none⟩) cols.length cp] (by rfl) rfl (by simp only [List.map_toArray, List.map_cons, List.map_nil]; rfl) ((impl_writes.calls k x.f0 x.f1 x.f2 x.f3 x.f4 (some ⟨ga, 0, none⟩) cp cols c V (Kd.C_below HC.out (below_step HB.out (below_step HB9.out hB))) HCP.out HCC.out).mono ?_)
        rintro e U ⟨v0, rfl, hR, hb⟩
        obtain ⟨A', c', rfl⟩ := Kd.R_slice hR
        exact ⟨_, rfl, fun h => absurd h (by decide), below_step hB hb, fun _ _ => ⟨A', c', rfl, (Kd.R_reads' hR).2.1, (Kd.R_reads' hR).2.2⟩, fun h => absurd (h.symm.trans (RiAll_at _ hn 13 (by decide))) (by simp), fun h => absurd (h.symm.trans (RiAll_at _ hn 14 (by decide))) (by simp)⟩
      · rintro L s V hu hd hn ⟨hB, g12, g13, g14⟩
        obtain ⟨A', c', e12, hle, hc⟩ := g12 (RiAll_at _ hd 12 (by decide)) hu
        refine rm_val (v := .slice (some ⟨V.heap.size, 0, none⟩) 1 1) (w1 := V.alloc (.cells #[.slice A' c.length c'] 68)) (by rfl) ⟨fun h => absurd h (by decide), below_alloc hB _, fun _ h => Bool.noConfusion h, fun _ _ => ⟨V.heap.size, A', c', rfl, blk_new V _, hle, Kd.C_below hc (below_alloc (Below.refl _ _) _)⟩, fun h => absurd (h.symm.trans (RiAll_at _ hn 14 (by decide))) (by simp)⟩ ?_
        refine zsm ?_
        rw [e12]
        exact zg0
      · rintro L s V hu hd hn ⟨hB, g12, g13, g14⟩
        obtain ⟨g, A', c', e13, hg, hle, hc⟩ := g13 (RiAll_at _ hd 13 (by decide)) hu
        have hl := HLEN.out
        refine rm_full (Kd.slice 5 (Kd.int .u8)) rfl (.tmp 31) (.tmp 35) 84 rfl 68 (.slice none 0 0) 24 Try.underlying84 zq27 rfl (by decide) (some ⟨ga, 0, none⟩) cols (by rfl) (fun h => by cases h) (Kd.C_below HC.out (below_step HB.out (below_step HB9.out hB))) g c [.slice A' c.length c'] e13 hg ⟨A', c', rfl, hle, hc⟩ (by omega) (by unfold maxLen; omega) (fun g' c2 U hU hle2 _ hgr => ?_)
        have hb : Below V.heap.size V U := ⟨hgr.os, hgr.tape, hgr.output, hgr.size, fun k hk => hgr.block k hk (by simp)⟩
        exact ⟨fun h => absurd h (by decide), below_step hB hb, fun _ h => absurd (h.symm.trans (RiAll_at _ hd 13 (by decide))) (by simp), fun _ h => Bool.noConfusion h, fun _ _ => ⟨g', c2, rfl, hle2, hU⟩⟩
      · rintro L s V hu hd hn ⟨hB, g12, g13, g14⟩
        obtain ⟨g', c2, e14, hle2, hU⟩ := g14 (RiAll_at _ hd 14 (by decide)) hu
        refine rm_callv Try.func52 zq27 rfl #[.int .i64 (wrap64 (j + 1)), .slice (some ⟨g', 0, none⟩) (cols ++ [c]).length c2, .pointer (some ⟨gn, 0, none⟩), .pointer (some ⟨gc, 0, none⟩), .pointer (some ⟨gf, 0, none⟩)] (first := #[]) (cap := #[.pointer (some ⟨gn, 0, none⟩), .pointer (some ⟨gc, 0, none⟩), .pointer (some ⟨gf, 0, none⟩)]) (by rfl) rfl (by rfl) (by simp only [List.map_toArray, List.map_cons, List.map_nil]; rw [show Act.eval _ (.tmp 36) = s 14 from rfl, e14]; rfl) ((HIH.out (wrap64 (j + 1)) g' c2 (cols ++ [c]) v V (HX9.out.step hB) hU hle2 HV.out).mono ?_)
        rintro e U ⟨rfl, hb⟩
        exact ⟨_, rfl, fun _ => rfl, below_step hB hb, fun _ h => absurd (h.symm.trans (RiAll_at _ hd 13 (by decide))) (by simp), fun _ h => absurd (h.symm.trans (RiAll_at _ hd 14 (by decide))) (by simp), fun _ h => Bool.noConfusion h⟩
      · refine fun L s V hu hd hn hJ => rm_val (by rfl) ⟨fun _ => rfl, hJ⟩ ?_
        refine zsm ?_
        first | (go_simp; done) | (go_simp; rfl) | (go_simp; exact i64_w _)
      · refine fun L s V hu hd hn hJ => rm_val (by rfl) ⟨fun _ => rfl, hJ⟩ ?_
        refine zsm ?_
        exact zg0
      · intro L s V hL hJ
        have HB10 := Aside0.mk (below_step HB9.out hJ.1)
        clear hJ
        refine zsm ?_
        go_wp2_with fail
        go_roundw
        case rel => exact ⟨i + 1, wrap64 (m + v), rfl, by rw [HW.out], by omega, HNX, HB10⟩
        case measure => rw [HW.out]; simp [intOf]; omega
end
def impl_CountUnpruned.f (k : Nat) (l0_0 : List ByteArray) (l0_1 : List Int) (a1 : Int) : Option (Int × Bool) := (impl_IsChoice.f k l0_0 l0_1).bind fun b => if b = true then (impl_within.f a1 0 3).bind fun q => if q = true then (impl_begun.f k).bind fun cs => if 0 < cs.length then (cuM k l0_0 l0_1 a1 k 0 cs).bind fun v => some (v, true) else none else some (0, false) else some (0, false)
theorem cuL_mono (g g' : S64 → Int → Option Int) (h : ∀ x m, LeO (g x m) (g' x m)) : ∀ xs m, LeO (cuL g xs m) (cuL g' xs m)
  | [], _ => LeO.refl _
  | x :: xs, m => LeO.bind (h x m) (fun v => cuL_mono g g' h xs v)
theorem cuStep_mono (k : Nat) (n j : Int) (cols : List (List Int)) (f f' : List (List Int) → Option Int) (h : ∀ cs, LeO (f cs) (f' cs)) (x : S64) (m : Int) : LeO (cuStep k n j cols f x m) (cuStep (k + 1) n j cols f' x m) :=
  LeO.bind (impl_isReason.mono _ _ _ _ _ _ _ _) (fun b => LeO.ite (LeO.refl _) (LeO.ite (LeO.refl _) (LeO.bind (impl_writes.mono _ _ _ _ _ _ _) (fun c => LeO.bind (h _) (fun v => LeO.refl _)))))
theorem cuM_mono (k : Nat) (os : List ByteArray) (ims : List Int) (n : Int) : ∀ (d : Nat) (j : Int) (cols : List (List Int)), LeO (cuM k os ims n d j cols) (cuM (k + 1) os ims n (d + 1) j cols)
  | 0, _, _ => LeO.none _
  | d + 1, j, cols => LeO.ite (LeO.refl _) (LeO.ite (LeO.bind (impl_steps.mono _ _ _ _) (fun xs => cuL_mono _ _ (cuStep_mono k n j cols _ _ (fun cs => cuM_mono k os ims n d _ cs)) xs 0)) (LeO.refl _))
theorem impl_CountUnpruned.mono : ∀ a0 a1 a2 k, LeO (impl_CountUnpruned.f k a0 a1 a2) (impl_CountUnpruned.f (k + 1) a0 a1 a2) := fun a0 a1 a2 k =>
  LeO.bind (impl_IsChoice.mono _ _ _) (fun b => LeO.ite (LeO.bind (LeO.refl _) (fun q => LeO.ite (LeO.bind (impl_begun.mono _) (fun cs => LeO.ite (LeO.bind (cuM_mono k a0 a1 a2 k 0 cs) (fun v => LeO.refl _)) (LeO.refl _))) (LeO.refl _))) (LeO.refl _))
theorem impl_CountUnpruned.calls (k : Nat) (A0_0 : Option Addr) (c0_0 : Nat) (l0_0 : List ByteArray) (A0_1 : Option Addr) (c0_1 : Nat) (l0_1 : List Int) (a1 : Int) (r1 : Int) (r2 : Bool) (w : World) (hr0_0 : Kd.C Kd.string w A0_0 l0_0.length l0_0) (hc0_0 : l0_0.length ≤ c0_0) (hr0_1 : Kd.C (Kd.int .i64) w A0_1 l0_1.length l0_1) (hc0_1 : l0_1.length ≤ c0_1) (h : impl_CountUnpruned.f k l0_0 l0_1 a1 = some (r1, r2)) :
    Calls Try.prog 20 #[.agg #[.slice A0_0 l0_0.length c0_0, .slice A0_1 l0_1.length c0_1], .int .i64 a1] w fun e w' => e = .returned (.tuple #[.int .i64 r1, .bool r2]) ∧ Below w.heap.size w w' := by
  have HR0 := Aside0.mk hr0_0
  have HR1 := Aside0.mk hr0_1
  have HC0 := Aside0.mk hc0_0
  have HC1 := Aside0.mk hc0_1
  unfold impl_CountUnpruned.f at h
  obtain ⟨b, hb, h⟩ := Option.bind_eq_some_iff.1 h
  have HT := Aside0.mk hb
  have HH := Aside0.mk h
  clear hr0_0 hr0_1 hc0_0 hc0_1 hb h
  go_enter Try.func20, Try.ntmps20
  go_wp2_with fail
  obtain ⟨W0, hW0⟩ : ∃ W0, (w.alloc (.cells #[.slice A0_0 l0_0.length c0_0, .slice A0_1 l0_1.length c0_1] 35)).alloc (.cells #[.int .i64 a1] 3) = W0 := ⟨_, rfl⟩
  have HB := Aside0.mk (show Below w.heap.size w W0 from hW0 ▸ below_alloc (below_alloc (Below.refl _ _) _) _)
  have B1 := Aside0.mk (show W0.heap[w.heap.size]? = some (.cells #[.slice A0_0 l0_0.length c0_0, .slice A0_1 l0_1.length c0_1] 35 (0, 0)) from hW0 ▸ blk_alloc (blk_new w _) _)
  have B2 := Aside0.mk (show W0.heap[w.heap.size + 1]? = some (.cells #[.int .i64 a1] 3 (0, 0)) by rw [← hW0]; simpa using blk_new (w.alloc (.cells #[.slice A0_0 l0_0.length c0_0, .slice A0_1 l0_1.length c0_1] 35)) (.cells #[.int .i64 a1] 3))
  rw [hW0]
  clear hW0
  cases b with
  | false =>
    obtain ⟨rfl, rfl⟩ := Prod.mk.inj (Option.some.inj ((if_neg (by decide)).symm.trans HH.out))
    clear HH
    refine (impl_IsChoice.calls k A0_0 c0_0 l0_0 A0_1 c0_1 l0_1 false _ (Kd.C_below HR0.out HB.out) HC0.out (Kd.C_below HR1.out HB.out) HC1.out HT.out).mono ?_
    rintro e w2 ⟨rfl, hb⟩
    have HB2 := Aside0.mk (below_step HB.out hb)
    clear hb
    go_wp2_with fail
    go_ret2
    exact ⟨rfl, HB2.out⟩
  | true =>
    have h := HH.out
    rw [if_pos rfl] at h
    clear HH
    obtain ⟨q, hq, h⟩ := Option.bind_eq_some_iff.1 h
    have HQ := Aside0.mk hq
    have HH := Aside0.mk h
    clear hq h
    refine (impl_IsChoice.calls k A0_0 c0_0 l0_0 A0_1 c0_1 l0_1 true _ (Kd.C_below HR0.out HB.out) HC0.out (Kd.C_below HR1.out HB.out) HC1.out HT.out).mono ?_
    rintro e w2 ⟨rfl, hb⟩
    have HB2 := Aside0.mk (below_step HB.out hb)
    have B12 := Aside0.mk (blk_below B1.out hb)
    have B22 := Aside0.mk (blk_below B2.out hb)
    clear hb HB B1 B2
    have q2 := blk_cell B22.out 0
    cases q with
    | false =>
      obtain ⟨rfl, rfl⟩ := Prod.mk.inj (Option.some.inj ((if_neg (by decide)).symm.trans HH.out))
      clear HH
      go_wp2_with (go_at_call 51; go_must (refine (impl_within.calls a1 0 3 false _ HQ.out).mono ?_; rintro e w3 ⟨rfl, hd⟩; obtain ⟨nd, rfl⟩ := hd.out))
      go_ret2
      exact ⟨rfl, pw_below_drewN HB2.out _⟩
    | true =>
      have h := HH.out
      rw [if_pos rfl] at h
      clear HH
      obtain ⟨cs, hcs, h⟩ := Option.bind_eq_some_iff.1 h
      have h0 : 0 < cs.length := by
        by_cases q : 0 < cs.length
        · exact q
        · rw [if_neg q] at h
          cases h
      rw [if_pos h0] at h
      have H0 := Aside0.mk h0
      clear h0
      obtain ⟨v, hv, h⟩ := Option.bind_eq_some_iff.1 h
      obtain ⟨rfl, rfl⟩ := Prod.mk.inj (Option.some.inj h)
      have HCS := Aside0.mk hcs
      have HV := Aside0.mk hv
      clear hcs hv h
      go_wp2_with (first
        | (go_at_call 51; go_must (refine (impl_within.calls a1 0 3 true _ HQ.out).mono ?_; rintro e w3 ⟨rfl, hd⟩; obtain ⟨nd, rfl⟩ := hd.out))
        | ((with_reducible refine gate_dst (N := 6) rfl ?_); go_must (refine box_event ?hg (N := 6) ?hd (cs := #[Value.nilFunc]) (t := 83) ?hr ?_; (case hd => rfl); (case hg => rfl); (case hr => first | (go_simp; done) | (go_simp; rfl)); intro gf hg w5 hbox hb; have GX := Aside0.mk (Nat.le_of_eq hg.symm); have BX := Aside0.mk hbox; have HBX := Aside0.mk hb; clear hg hbox hb))
        | ((with_reducible refine gate_store (t := 83) (p := 6) rfl ?_); go_must (refine fill_event rfl (t := 83) (p := 6) rfl rfl (g := gf) (u := .func (.func 52) #[] #[.pointer (some ⟨w.heap.size + 1, 0, none⟩), .pointer (some ⟨w.heap.size, 0, none⟩), .pointer (some ⟨gf, 0, none⟩)]) (seg := [.func (.func 52) #[] #[.pointer (some ⟨w.heap.size + 1, 0, none⟩), .pointer (some ⟨w.heap.size, 0, none⟩), .pointer (some ⟨gf, 0, none⟩)]]) rfl rfl BX.out rfl rfl rfl (by simp [Value.oneCell']) ?_; intro w6 hbb hbw hfar; have hb6 := HBX.out.trans (hbw _ GX.out); have hX := (show CuX w A0_0 c0_0 l0_0 A0_1 c0_1 l0_1 a1 (w.heap.size + 1) w.heap.size gf w6 from ⟨below_step (pw_below_drewN HB2.out _) hb6, blk_below (blk_drewN B22.out _) hb6, blk_below (blk_drewN B12.out _) hb6, hbb⟩); have HX := Aside0.mk hX; clear hX hb6 hbb hbw hfar)))
      refine ri_mix [[], [], [0, 1], [0, 1, 2], [0, 1, 2, 3]] [[2, 3, 4], [2, 3, 4], [3, 4], [4], []] (riMem [1])
        (riNth [.func (.func 52) #[] #[.pointer (some ⟨w.heap.size + 1, 0, none⟩), .pointer (some ⟨w.heap.size, 0, none⟩), .pointer (some ⟨gf, 0, none⟩)], undef, .int .i64 v, .int .i64 v, .bool true])
        (fun L s V => Below w6.heap.size w6 V ∧ (L 1 = true → L 2 = false → ∃ g' c', s 1 = .slice (some ⟨g', 0, none⟩) cs.length c' ∧ cs.length ≤ c' ∧ Kd.C (Kd.slice 5 (Kd.int .u8)) V (some ⟨g', 0, none⟩) cs.length cs))
        rfl (fun _ _ _ _ _ h => h) zq27 ⟨below_drew (Below.refl _ _), fun h => Bool.noConfusion h⟩ ⟨?_, ?_, ?_, ?_, ?_, trivial⟩ ?_
      · refine fun L s V hu hd hn hJ => rm_val (by rfl) ⟨fun _ => rfl, hJ⟩ ?_
        have q4 := blk_cell (HX.out.step hJ.1).bf 0
        clear hJ
        refine zsm ?_
        exact zg0
      · rintro L s V hu hd hn ⟨hB, g1⟩
        refine rm_call Try.func56 zq27 rfl #[] (by rfl) rfl (by simp) ((impl_begun.calls k cs V HCS.out).mono ?_)
        rintro e U ⟨v0, rfl, hR, hb⟩
        obtain ⟨g', c', rfl, _⟩ := Kd.N_form hR H0.out
        exact ⟨_, rfl, fun h => absurd h (by decide), below_step hB hb, fun _ _ => ⟨g', c', rfl, (Kd.N_reads' hR).2.1, (Kd.N_reads' hR).2.2⟩⟩
      · rintro L s V hu hd hn ⟨hB, g1⟩
        obtain ⟨g', c', e1, hle, hC⟩ := g1 (RiAll_at _ hd 1 (by decide)) hu
        refine rm_callv Try.func52 zq27 rfl #[.int .i64 0, .slice (some ⟨g', 0, none⟩) cs.length c', .pointer (some ⟨w.heap.size + 1, 0, none⟩), .pointer (some ⟨w.heap.size, 0, none⟩), .pointer (some ⟨gf, 0, none⟩)] (first := #[]) (cap := #[.pointer (some ⟨w.heap.size + 1, 0, none⟩), .pointer (some ⟨w.heap.size, 0, none⟩), .pointer (some ⟨gf, 0, none⟩)]) (by rfl) rfl (by rfl) (by simp only [List.map_toArray, List.map_cons, List.map_nil]; rw [show Act.eval _ (.tmp 17) = s 1 from rfl, e1]; rfl) ((cuCount k HR0.out HC0.out HR1.out HC1.out k 0 g' c' cs v V (HX.out.step hB) hC hle HV.out).mono ?_)
        rintro e U ⟨rfl, hb⟩
        exact ⟨_, rfl, fun _ => rfl, below_step hB hb, fun _ h => Bool.noConfusion h⟩
      · refine fun L s V hu hd hn hJ => rm_val (by rfl) ⟨fun _ => rfl, hJ⟩ ?_
        refine zsm ?_
        exact zg0
      · refine fun L s V hu hd hn hJ => rm_val (by rfl) ⟨fun _ => rfl, hJ⟩ ?_
        refine zsm ?_
        exact zg0
      · intro L s V hL hJ
        have HB10 := Aside0.mk (below_step HX.out.below hJ.1)
        clear hJ
        refine zsm ?_
        go_wp2_with fail
        go_ret2
        exact ⟨rfl, HB10.out⟩
end Go.Proofs.Ytnaafcleafbejaa.Q
end
section
namespace Go.Proofs.Ytnaafcleafbejaa.Q
open Go.RowKit Go.Proofs.YtnaafcleafbejaaW.PrintWords Go.Proofs.YtnaafcleafbejaaW.PrintLast Go.Proofs.YtnaafcleafbejaaW.PrintMore
set_option maxHeartbeats 8000000
set_option maxRecDepth 100000
attribute [local go_sem] max2_int min2_int max_two min_two max_three min_three max_four min_four
set_option linter.unusedVariables false
set_option linter.unusedSimpArgs false
def laws_eqIntS.l0 : Nat → List Int → List Int → Int → Option (Bool)
  | 0, _, _, _ => none
  | k + 1, x0, x1, x5 => if x5 < (x0.length : Int) then (if 0 ≤ x5 then (if x5 < (x1.length : Int) then (if (rd x0 x5) = (rd x1 x5) then (laws_eqIntS.l0 k x0 x1 (wrap64 (x5 + 1))) else (some false)) else (none)) else (none)) else (some true)
def laws_eqIntS.f (k : Nat) (l0 : List Int) (l1 : List Int) : Option (Bool) := if (l0.length : Int) = (l1.length : Int) then (laws_eqIntS.l0 k l0 l1 0) else (some false)
theorem laws_eqIntS.mono_l : ∀ k, (∀ y0 y1 y2, LeO (laws_eqIntS.l0 k y0 y1 y2) (laws_eqIntS.l0 (k + 1) y0 y1 y2))
  | 0 => fun _ _ _ r h => by simp [laws_eqIntS.l0] at h
  | k + 1 => by
    have ih0 := laws_eqIntS.mono_l k
    · intro y0 y1 y2
      unfold laws_eqIntS.l0
      repeat' first
      | (with_reducible exact ih0 _ _ _)
      | (with_reducible exact LeO.refl _)
      | (with_reducible exact LeO.none _)
      | (with_reducible refine LeO.ite ?_ ?_)
      | (with_reducible refine LeO.bind ?_ (fun _ => ?_))
      | exact ih0 _ _ _
      | exact LeO.none _
      | refine LeO.ite ?_ ?_
      | refine LeO.bind ?_ (fun _ => ?_)
theorem laws_eqIntS.mono : ∀ a0 a1 k, LeO (laws_eqIntS.f k a0 a1) (laws_eqIntS.f (k + 1) a0 a1) := by
  intro a0 a1 k
  have ih0 := laws_eqIntS.mono_l k
  unfold laws_eqIntS.f
  repeat' first
      | (with_reducible exact ih0 _ _ _)
      | (with_reducible exact LeO.refl _)
      | (with_reducible exact LeO.none _)
      | (with_reducible refine LeO.ite ?_ ?_)
      | (with_reducible refine LeO.bind ?_ (fun _ => ?_))
      | exact ih0 _ _ _
      | exact LeO.none _
      | refine LeO.ite ?_ ?_
      | refine LeO.bind ?_ (fun _ => ?_)
theorem laws_eqIntS.calls (k : Nat) (A0 : Option Addr) (c0 : Nat) (l0 : List Int) (A1 : Option Addr) (c1 : Nat) (l1 : List Int) (r : Bool) (w : World) (hr0 : Kd.C (Kd.int .i64) w A0 l0.length l0) (hc0 : l0.length ≤ c0) (hr1 : Kd.C (Kd.int .i64) w A1 l1.length l1) (hc1 : l1.length ≤ c1) (h : laws_eqIntS.f k l0 l1 = some r) :
    Calls Try.prog 41 #[.slice A0 l0.length c0, .slice A1 l1.length c1] w fun e w' => e = .returned (.bool r) ∧ Drawn0 w w' := by
  have HR0 := Aside0.mk hr0
  have HC0 := Aside0.mk hc0
  clear hr0 hc0
  have HR1 := Aside0.mk hr1
  have HC1 := Aside0.mk hc1
  clear hr1 hc1
  have H : (if (l0.length : Int) = (l1.length : Int) then (laws_eqIntS.l0 k l0 l1 0) else (some false)) = some r := h
  clear h
  by_cases c3 : (l0.length : Int) = (l1.length : Int)
  rotate_left
  · rw [if_neg c3] at H
    obtain ⟨c3b0, c3b1⟩ := zbq c3
    have c3b2 : (l0.length == l1.length) = false := by first | simpa using c3 | (simp at c3 ⊢; omega)
    obtain rfl := Option.some.inj H
    go_enter Try.func41, Try.ntmps41
    go_wp2
    repeat (go_quiet (fail); try go_wp2)
    exact zr_4
  rw [if_pos c3] at H
  obtain ⟨c3b0, c3b1⟩ := zbe c3
  have c3b2 : (l0.length == l1.length) = true := by first | simpa using c3 | (simp at c3 ⊢; omega)
  clear c3
  have H' := Aside0.mk H
  clear H
  go_enter Try.func41, Try.ntmps41
  go_wp2
  repeat (go_quiet (fail); try go_wp2)
  go_loopg [5] k (fun kq v5 w' => ∃ (x5_1 : Int), v5 = .int .i64 x5_1 ∧ Aside0 (laws_eqIntS.l0 kq l0 l1 x5_1 = some r) ∧ Aside0 (kq ≤ k) ∧ Drawn0 w w')
  case atStart => exact ⟨(0), zq7, H', ⟨Nat.le_refl _⟩, zq10⟩
  clear H'
  try clear c1
  try clear c3
  try clear c3b0
  try clear c3b1
  try clear c3b2
  obtain ⟨x5_1, rfl, HA, HK1, ⟨m1, rfl⟩⟩ := hrel
  cases gk with
  | zero => exact absurd HA.out (by simp [laws_eqIntS.l0])
  | succ k1 =>
  have H := HA.out
  clear HA
  simp only [laws_eqIntS.l0] at H
  by_cases c4 : x5_1 < (l0.length : Int)
  rotate_left
  · rw [if_neg c4] at H
    have c4b0 : decide (x5_1 < (l0.length : Int)) = false := decide_eq_false c4
    clear c4
    obtain rfl := Option.some.inj H
    go_wp2
    repeat (go_quiet (fail); try go_wp2)
    exact zr_4
  rw [if_pos c4] at H
  have c4b0 : decide (x5_1 < (l0.length : Int)) = true := decide_eq_true c4
  clear c4
  by_cases c5 : 0 ≤ x5_1
  rotate_left
  · rw [if_neg c5] at H
    exact absurd H (by simp)
  rw [if_pos c5] at H
  have c5b0 : decide (0 ≤ x5_1) = true := decide_eq_true c5
  clear c5
  by_cases c6 : x5_1 < (l1.length : Int)
  rotate_left
  · rw [if_neg c6] at H
    exact absurd H (by simp)
  rw [if_pos c6] at H
  have c6b0 : decide (x5_1 < (l1.length : Int)) = true := decide_eq_true c6
  clear c6
  by_cases c7 : (rd l0 x5_1) = (rd l1 x5_1)
  rotate_left
  · rw [if_neg c7] at H
    obtain ⟨c7b0, c7b1⟩ := zbq c7
    obtain rfl := Option.some.inj H
    have p101 : 0 ≤ (x5_1 : Int) := of_decide_eq_true zq4
    have q101 : x5_1 < (l0.length : Int) := of_decide_eq_true zq4
    obtain ⟨ad101, e101, hx101_0⟩ := Kd.at_int HR0.out x5_1 p101 q101
    cases e101
    replace p101 := eq_true p101
    replace q101 := eq_true q101
    have p102 : 0 ≤ (x5_1 : Int) := of_decide_eq_true zq4
    have q102 : x5_1 < (l1.length : Int) := of_decide_eq_true zq4
    obtain ⟨ad102, e102, hx102_0⟩ := Kd.at_int HR1.out x5_1 p102 q102
    cases e102
    replace p102 := eq_true p102
    replace q102 := eq_true q102
    go_wp2
    repeat (go_quiet (fail); try go_wp2)
    exact zr_4
  rw [if_pos c7] at H
  obtain ⟨c7b0, c7b1⟩ := zbe c7
  clear c7
  have H' := Aside0.mk H
  clear H
  have p101 : 0 ≤ (x5_1 : Int) := of_decide_eq_true zq4
  have q101 : x5_1 < (l0.length : Int) := of_decide_eq_true zq4
  obtain ⟨ad101, e101, hx101_0⟩ := Kd.at_int HR0.out x5_1 p101 q101
  cases e101
  replace p101 := eq_true p101
  replace q101 := eq_true q101
  have p102 : 0 ≤ (x5_1 : Int) := of_decide_eq_true zq4
  have q102 : x5_1 < (l1.length : Int) := of_decide_eq_true zq4
  obtain ⟨ad102, e102, hx102_0⟩ := Kd.at_int HR1.out x5_1 p102 q102
  cases e102
  replace p102 := eq_true p102
  replace q102 := eq_true q102
  go_wp2
  repeat (go_quiet (fail); try go_wp2)
  go_roundg k1
  case measure => have := HK1.out; omega
  case rel => exact ⟨(wrap64 (x5_1 + 1)), zq7, H', ⟨zq36 HK1⟩, zq10⟩
end Go.Proofs.Ytnaafcleafbejaa.Q
end
section
namespace Go.Proofs.Ytnaafcleafbejaa.Q
open Go.RowKit Go.Proofs.YtnaafcleafbejaaW.PrintWords Go.Proofs.YtnaafcleafbejaaW.PrintLast Go.Proofs.YtnaafcleafbejaaW.PrintMore
set_option maxHeartbeats 8000000
set_option maxRecDepth 100000
attribute [local go_sem] max2_int min2_int max_two min_two max_three min_three max_four min_four
set_option linter.unusedVariables false
set_option linter.unusedSimpArgs false
def laws_eqStringS.l0 : Nat → List ByteArray → List ByteArray → Int → Option (Bool)
  | 0, _, _, _ => none
  | k + 1, x0, x1, x5 => if x5 < (x0.length : Int) then (if 0 ≤ x5 then (if x5 < (x1.length : Int) then (if (rdOf ByteArray.empty x0 x5).toList = (rdOf ByteArray.empty x1 x5).toList then (laws_eqStringS.l0 k x0 x1 (wrap64 (x5 + 1))) else (some false)) else (none)) else (none)) else (some true)
def laws_eqStringS.f (k : Nat) (l0 : List ByteArray) (l1 : List ByteArray) : Option (Bool) := if (l0.length : Int) = (l1.length : Int) then (laws_eqStringS.l0 k l0 l1 0) else (some false)
theorem laws_eqStringS.mono_l : ∀ k, (∀ y0 y1 y2, LeO (laws_eqStringS.l0 k y0 y1 y2) (laws_eqStringS.l0 (k + 1) y0 y1 y2))
  | 0 => fun _ _ _ r h => by simp [laws_eqStringS.l0] at h
  | k + 1 => by
    have ih0 := laws_eqStringS.mono_l k
    · intro y0 y1 y2
      unfold laws_eqStringS.l0
      repeat' first
      | (with_reducible exact ih0 _ _ _)
      | (with_reducible exact LeO.refl _)
      | (with_reducible exact LeO.none _)
      | (with_reducible refine LeO.ite ?_ ?_)
      | (with_reducible refine LeO.bind ?_ (fun _ => ?_))
      | exact ih0 _ _ _
      | exact LeO.none _
      | refine LeO.ite ?_ ?_
      | refine LeO.bind ?_ (fun _ => ?_)
theorem laws_eqStringS.mono : ∀ a0 a1 k, LeO (laws_eqStringS.f k a0 a1) (laws_eqStringS.f (k + 1) a0 a1) := by
  intro a0 a1 k
  have ih0 := laws_eqStringS.mono_l k
  unfold laws_eqStringS.f
  repeat' first
      | (with_reducible exact ih0 _ _ _)
      | (with_reducible exact LeO.refl _)
      | (with_reducible exact LeO.none _)
      | (with_reducible refine LeO.ite ?_ ?_)
      | (with_reducible refine LeO.bind ?_ (fun _ => ?_))
      | exact ih0 _ _ _
      | exact LeO.none _
      | refine LeO.ite ?_ ?_
      | refine LeO.bind ?_ (fun _ => ?_)
theorem laws_eqStringS.calls (k : Nat) (A0 : Option Addr) (c0 : Nat) (l0 : List ByteArray) (A1 : Option Addr) (c1 : Nat) (l1 : List ByteArray) (r : Bool) (w : World) (hr0 : Kd.C Kd.string w A0 l0.length l0) (hc0 : l0.length ≤ c0) (hr1 : Kd.C Kd.string w A1 l1.length l1) (hc1 : l1.length ≤ c1) (h : laws_eqStringS.f k l0 l1 = some r) :
    Calls Try.prog 40 #[.slice A0 l0.length c0, .slice A1 l1.length c1] w fun e w' => e = .returned (.bool r) ∧ Drawn0 w w' := by
  have HR0 := Aside0.mk hr0
  have HC0 := Aside0.mk hc0
  clear hr0 hc0
  have HR1 := Aside0.mk hr1
  have HC1 := Aside0.mk hc1
  clear hr1 hc1
  have H : (if (l0.length : Int) = (l1.length : Int) then (laws_eqStringS.l0 k l0 l1 0) else (some false)) = some r := h
  clear h
  by_cases c3 : (l0.length : Int) = (l1.length : Int)
  rotate_left
  · rw [if_neg c3] at H
    obtain ⟨c3b0, c3b1⟩ := zbq c3
    have c3b2 : (l0.length == l1.length) = false := by first | simpa using c3 | (simp at c3 ⊢; omega)
    obtain rfl := Option.some.inj H
    go_enter Try.func40, Try.ntmps40
    go_wp2
    repeat (go_quiet (fail); try go_wp2)
    exact zr_4
  rw [if_pos c3] at H
  obtain ⟨c3b0, c3b1⟩ := zbe c3
  have c3b2 : (l0.length == l1.length) = true := by first | simpa using c3 | (simp at c3 ⊢; omega)
  clear c3
  have H' := Aside0.mk H
  clear H
  go_enter Try.func40, Try.ntmps40
  go_wp2
  repeat (go_quiet (fail); try go_wp2)
  go_loopg [5] k (fun kq v5 w' => ∃ (x5_1 : Int), v5 = .int .i64 x5_1 ∧ Aside0 (laws_eqStringS.l0 kq l0 l1 x5_1 = some r) ∧ Aside0 (kq ≤ k) ∧ Drawn0 w w')
  case atStart => exact ⟨(0), zq7, H', ⟨Nat.le_refl _⟩, zq10⟩
  clear H'
  try clear c1
  try clear c3
  try clear c3b0
  try clear c3b1
  try clear c3b2
  obtain ⟨x5_1, rfl, HA, HK1, ⟨m1, rfl⟩⟩ := hrel
  cases gk with
  | zero => exact absurd HA.out (by simp [laws_eqStringS.l0])
  | succ k1 =>
  have H := HA.out
  clear HA
  simp only [laws_eqStringS.l0] at H
  by_cases c4 : x5_1 < (l0.length : Int)
  rotate_left
  · rw [if_neg c4] at H
    have c4b0 : decide (x5_1 < (l0.length : Int)) = false := decide_eq_false c4
    clear c4
    obtain rfl := Option.some.inj H
    go_wp2
    repeat (go_quiet (fail); try go_wp2)
    exact zr_4
  rw [if_pos c4] at H
  have c4b0 : decide (x5_1 < (l0.length : Int)) = true := decide_eq_true c4
  clear c4
  by_cases c5 : 0 ≤ x5_1
  rotate_left
  · rw [if_neg c5] at H
    exact absurd H (by simp)
  rw [if_pos c5] at H
  have c5b0 : decide (0 ≤ x5_1) = true := decide_eq_true c5
  clear c5
  by_cases c6 : x5_1 < (l1.length : Int)
  rotate_left
  · rw [if_neg c6] at H
    exact absurd H (by simp)
  rw [if_pos c6] at H
  have c6b0 : decide (x5_1 < (l1.length : Int)) = true := decide_eq_true c6
  clear c6
  by_cases c7 : (rdOf ByteArray.empty l0 x5_1).toList = (rdOf ByteArray.empty l1 x5_1).toList
  rotate_left
  · rw [if_neg c7] at H
    obtain ⟨c7b0, c7b1⟩ := zbq c7
    obtain rfl := Option.some.inj H
    have p101 : 0 ≤ (x5_1 : Int) := of_decide_eq_true zq4
    have q101 : x5_1 < (l0.length : Int) := of_decide_eq_true zq4
    obtain ⟨ad101, e101, hx101_0⟩ := Kd.at_string HR0.out x5_1 p101 q101
    cases e101
    replace p101 := eq_true p101
    replace q101 := eq_true q101
    have p102 : 0 ≤ (x5_1 : Int) := of_decide_eq_true zq4
    have q102 : x5_1 < (l1.length : Int) := of_decide_eq_true zq4
    obtain ⟨ad102, e102, hx102_0⟩ := Kd.at_string HR1.out x5_1 p102 q102
    cases e102
    replace p102 := eq_true p102
    replace q102 := eq_true q102
    go_wp2
    repeat (go_quiet (fail); try go_wp2)
    exact zr_4
  rw [if_pos c7] at H
  obtain ⟨c7b0, c7b1⟩ := zbe c7
  clear c7
  have H' := Aside0.mk H
  clear H
  have p101 : 0 ≤ (x5_1 : Int) := of_decide_eq_true zq4
  have q101 : x5_1 < (l0.length : Int) := of_decide_eq_true zq4
  obtain ⟨ad101, e101, hx101_0⟩ := Kd.at_string HR0.out x5_1 p101 q101
  cases e101
  replace p101 := eq_true p101
  replace q101 := eq_true q101
  have p102 : 0 ≤ (x5_1 : Int) := of_decide_eq_true zq4
  have q102 : x5_1 < (l1.length : Int) := of_decide_eq_true zq4
  obtain ⟨ad102, e102, hx102_0⟩ := Kd.at_string HR1.out x5_1 p102 q102
  cases e102
  replace p102 := eq_true p102
  replace q102 := eq_true q102
  go_wp2
  repeat (go_quiet (fail); try go_wp2)
  go_roundg k1
  case measure => have := HK1.out; omega
  case rel => exact ⟨(wrap64 (x5_1 + 1)), zq7, H', ⟨zq36 HK1⟩, zq10⟩
end Go.Proofs.Ytnaafcleafbejaa.Q
end
section
namespace Go.Proofs.Ytnaafcleafbejaa.Q
open Go.RowKit Go.Proofs.YtnaafcleafbejaaW.PrintWords Go.Proofs.YtnaafcleafbejaaW.PrintLast Go.Proofs.YtnaafcleafbejaaW.PrintMore
set_option maxHeartbeats 8000000
set_option maxRecDepth 100000
attribute [local go_sem] max2_int min2_int max_two min_two max_three min_three max_four min_four
set_option linter.unusedVariables false
set_option linter.unusedSimpArgs false
def laws_eqChoice.f (k : Nat) (l0_0 : List ByteArray) (l0_1 : List Int) (l1_0 : List ByteArray) (l1_1 : List Int) : Option (Bool) := (laws_eqStringS.f k l0_0 l1_0).bind fun t103 => (if t103 = true then ((laws_eqIntS.f k l0_1 l1_1).bind fun t104 => (if t104 = true then (some true) else (some false))) else (some false))
theorem laws_eqChoice.mono : ∀ a0 a1 a2 a3 k, LeO (laws_eqChoice.f k a0 a1 a2 a3) (laws_eqChoice.f (k + 1) a0 a1 a2 a3) := by
  intro a0 a1 a2 a3 k
  unfold laws_eqChoice.f
  repeat' first
      | (with_reducible exact laws_eqIntS.mono _ _ _)
      | (with_reducible exact laws_eqStringS.mono _ _ _)
      | (with_reducible exact LeO.refl _)
      | (with_reducible exact LeO.none _)
      | (with_reducible refine LeO.ite ?_ ?_)
      | (with_reducible refine LeO.bind ?_ (fun _ => ?_))
      | exact laws_eqIntS.mono _ _ _
      | exact laws_eqStringS.mono _ _ _
      | exact LeO.none _
      | refine LeO.ite ?_ ?_
      | refine LeO.bind ?_ (fun _ => ?_)
theorem laws_eqChoice.calls (k : Nat) (A0_0 : Option Addr) (c0_0 : Nat) (l0_0 : List ByteArray) (A0_1 : Option Addr) (c0_1 : Nat) (l0_1 : List Int) (A1_0 : Option Addr) (c1_0 : Nat) (l1_0 : List ByteArray) (A1_1 : Option Addr) (c1_1 : Nat) (l1_1 : List Int) (r : Bool) (w : World) (hr0_0 : Kd.C Kd.string w A0_0 l0_0.length l0_0) (hc0_0 : l0_0.length ≤ c0_0) (hr0_1 : Kd.C (Kd.int .i64) w A0_1 l0_1.length l0_1) (hc0_1 : l0_1.length ≤ c0_1) (hr1_0 : Kd.C Kd.string w A1_0 l1_0.length l1_0) (hc1_0 : l1_0.length ≤ c1_0) (hr1_1 : Kd.C (Kd.int .i64) w A1_1 l1_1.length l1_1) (hc1_1 : l1_1.length ≤ c1_1) (h : laws_eqChoice.f k l0_0 l0_1 l1_0 l1_1 = some r) :
    Calls Try.prog 15 #[.agg #[.slice A0_0 l0_0.length c0_0, .slice A0_1 l0_1.length c0_1], .agg #[.slice A1_0 l1_0.length c1_0, .slice A1_1 l1_1.length c1_1]] w fun e w' => e = .returned (.bool r) ∧ Below w.heap.size w w' := by
  have hu35 := Try.underlying35
  have HR0_0 := Aside0.mk hr0_0
  have HC0_0 := Aside0.mk hc0_0
  clear hr0_0 hc0_0
  have HR0_1 := Aside0.mk hr0_1
  have HC0_1 := Aside0.mk hc0_1
  clear hr0_1 hc0_1
  have HR1_0 := Aside0.mk hr1_0
  have HC1_0 := Aside0.mk hc1_0
  clear hr1_0 hc1_0
  have HR1_1 := Aside0.mk hr1_1
  have HC1_1 := Aside0.mk hc1_1
  clear hr1_1 hc1_1
  have HB := Aside0.mk (Below.refl w.heap.size w)
  have H : ((laws_eqStringS.f k l0_0 l1_0).bind fun t103 => (if t103 = true then ((laws_eqIntS.f k l0_1 l1_1).bind fun t104 => (if t104 = true then (some true) else (some false))) else (some false))) = some r := h
  clear h
  replace H := Option.bind_eq_some_iff.mp H
  obtain ⟨t103, A30, H⟩ := H
  replace H : (if t103 = true then ((laws_eqIntS.f k l0_1 l1_1).bind fun t104 => (if t104 = true then (some true) else (some false))) else (some false)) = some r := H
  have A3 := Aside0.mk A30
  clear A30
  by_cases c4 : t103 = true
  rotate_left
  · replace c4 := Bool.eq_false_iff.mpr c4
    subst c4
    have H1 : (some false) = some r := by rw [if_neg (show ¬ (false = true) by decide)] at H; exact H
    clear H
    have H := H1
    clear H1
    obtain rfl := Option.some.inj H
    go_enter Try.func15, Try.ntmps15
    go_wp2_with (first | ((with_reducible refine zgd 2 ?_); refine box_event ?hg (N := 2) ?hd (cs := #[.slice A0_0 l0_0.length c0_0, .slice A0_1 l0_1.length c0_1]) (t := 35) ?hr ?_; (case hd => rfl); (case hg => rfl); (case hr => first | (go_simp; done) | (go_simp; rfl)); intro gb101 hg w17 hbox hb; have BK101 := Aside0.mk (hbox); have GW101 := Aside0.mk ((zq11 : w.heap.size ≤ gb101)); have GE101 := Aside0.mk ((zq11 : w.heap.size ≤ gb101)); replace HB := Aside0.mk (below_step zq1 hb); clear hb hbox hg) | ((with_reducible refine zgd 3 ?_); refine box_event ?hg (N := 3) ?hd (cs := #[.slice A1_0 l1_0.length c1_0, .slice A1_1 l1_1.length c1_1]) (t := 35) ?hr ?_; (case hd => rfl); (case hg => rfl); (case hr => first | (go_simp; done) | (go_simp; rfl)); intro gb102 hg w18 hbox hb; have BK102 := Aside0.mk (hbox); have GW102 := Aside0.mk ((zq24 : w.heap.size ≤ gb102)); have GE102 := Aside0.mk ((zq24 : w.heap.size ≤ gb102)); replace HB := Aside0.mk (below_step (zq2 GE101) hb); have NB101_102 := Aside0.mk ((zq39 : gb101 ≠ gb102)); have NB102_101 := Aside0.mk ((zq40 : gb102 ≠ gb101)); replace BK101 := Aside0.mk (blk_below (g := gb101) (o := .cells #[.slice A0_0 l0_0.length c0_0, .slice A0_1 l0_1.length c0_1] 35 (0, 0)) (zq3 BK101) hb); clear hb hbox hg; have hnb19 := NB101_102.out; have hnc19 := NB102_101.out; have hcz20_0 : w18.cell? ⟨gb101, 0, none⟩ = some (.slice A0_0 l0_0.length c0_0) := (blk_cell BK101.out 0).trans rfl; have hcz20_1 : w18.cell? ⟨gb101, 1, none⟩ = some (.slice A0_1 l0_1.length c0_1) := (blk_cell BK101.out 1).trans rfl; have hfz20_0 := blk_frozen BK101.out 0; have hfz20_1 := blk_frozen BK101.out 1; have hcz21_0 : w18.cell? ⟨gb102, 0, none⟩ = some (.slice A1_0 l1_0.length c1_0) := (blk_cell BK102.out 0).trans rfl; have hcz21_1 : w18.cell? ⟨gb102, 1, none⟩ = some (.slice A1_1 l1_1.length c1_1) := (blk_cell BK102.out 1).trans rfl; have hfz21_0 := blk_frozen BK102.out 0; have hfz21_1 := blk_frozen BK102.out 1) | ((with_reducible refine zgc 40 ?_); refine zca 9 Try.func40 #[.slice A0_0 l0_0.length c0_0, .slice A1_0 l1_0.length c1_0] (laws_eqStringS.calls k _ _ l0_0 _ _ l1_0 false _ (zq9 HR0_0) HC0_0.out (zq9 HR1_0) HC1_0.out A3.out) ?_; rintro e w' ⟨rfl, ⟨nd, rfl⟩⟩; refine ⟨_, rfl, ?_⟩))
    go_ret
    exact ⟨zq8, zq6 GE101 GE102⟩
  subst c4
  have H1 : ((laws_eqIntS.f k l0_1 l1_1).bind fun t104 => (if t104 = true then (some true) else (some false))) = some r := by rw [if_pos rfl] at H; exact H
  clear H
  have H := H1
  clear H1
  replace H := Option.bind_eq_some_iff.mp H
  obtain ⟨t104, A50, H⟩ := H
  replace H : (if t104 = true then (some true) else (some false)) = some r := H
  have A5 := Aside0.mk A50
  clear A50
  by_cases c6 : t104 = true
  · subst c6
    have H1 : (some true) = some r := by rw [if_pos rfl] at H; exact H
    clear H
    have H := H1
    clear H1
    obtain rfl := Option.some.inj H
    go_enter Try.func15, Try.ntmps15
    go_wp2_with (first | ((with_reducible refine zgd 2 ?_); refine box_event ?hg (N := 2) ?hd (cs := #[.slice A0_0 l0_0.length c0_0, .slice A0_1 l0_1.length c0_1]) (t := 35) ?hr ?_; (case hd => rfl); (case hg => rfl); (case hr => first | (go_simp; done) | (go_simp; rfl)); intro gb101 hg w7 hbox hb; have BK101 := Aside0.mk (hbox); have GW101 := Aside0.mk ((zq11 : w.heap.size ≤ gb101)); have GE101 := Aside0.mk ((zq11 : w.heap.size ≤ gb101)); replace HB := Aside0.mk (below_step zq1 hb); clear hb hbox hg) | ((with_reducible refine zgd 3 ?_); refine box_event ?hg (N := 3) ?hd (cs := #[.slice A1_0 l1_0.length c1_0, .slice A1_1 l1_1.length c1_1]) (t := 35) ?hr ?_; (case hd => rfl); (case hg => rfl); (case hr => first | (go_simp; done) | (go_simp; rfl)); intro gb102 hg w8 hbox hb; have BK102 := Aside0.mk (hbox); have GW102 := Aside0.mk ((zq24 : w.heap.size ≤ gb102)); have GE102 := Aside0.mk ((zq24 : w.heap.size ≤ gb102)); replace HB := Aside0.mk (below_step (zq2 GE101) hb); have NB101_102 := Aside0.mk ((zq39 : gb101 ≠ gb102)); have NB102_101 := Aside0.mk ((zq40 : gb102 ≠ gb101)); replace BK101 := Aside0.mk (blk_below (g := gb101) (o := .cells #[.slice A0_0 l0_0.length c0_0, .slice A0_1 l0_1.length c0_1] 35 (0, 0)) (zq3 BK101) hb); clear hb hbox hg; have hnb9 := NB101_102.out; have hnc9 := NB102_101.out; have hcz10_0 : w8.cell? ⟨gb101, 0, none⟩ = some (.slice A0_0 l0_0.length c0_0) := (blk_cell BK101.out 0).trans rfl; have hcz10_1 : w8.cell? ⟨gb101, 1, none⟩ = some (.slice A0_1 l0_1.length c0_1) := (blk_cell BK101.out 1).trans rfl; have hfz10_0 := blk_frozen BK101.out 0; have hfz10_1 := blk_frozen BK101.out 1; have hcz11_0 : w8.cell? ⟨gb102, 0, none⟩ = some (.slice A1_0 l1_0.length c1_0) := (blk_cell BK102.out 0).trans rfl; have hcz11_1 : w8.cell? ⟨gb102, 1, none⟩ = some (.slice A1_1 l1_1.length c1_1) := (blk_cell BK102.out 1).trans rfl; have hfz11_0 := blk_frozen BK102.out 0; have hfz11_1 := blk_frozen BK102.out 1) | ((with_reducible refine zgc 40 ?_); refine zca 9 Try.func40 #[.slice A0_0 l0_0.length c0_0, .slice A1_0 l1_0.length c1_0] (laws_eqStringS.calls k _ _ l0_0 _ _ l1_0 true _ (zq9 HR0_0) HC0_0.out (zq9 HR1_0) HC1_0.out A3.out) ?_; rintro e w' ⟨rfl, ⟨nd, rfl⟩⟩; refine ⟨_, rfl, ?_⟩) | ((with_reducible refine zgc 41 ?_); refine zca 15 Try.func41 #[.slice A0_1 l0_1.length c0_1, .slice A1_1 l1_1.length c1_1] (laws_eqIntS.calls k _ _ l0_1 _ _ l1_1 true _ (zq28 HR0_1) HC0_1.out (zq28 HR1_1) HC1_1.out A5.out) ?_; rintro e w' ⟨rfl, ⟨nd, rfl⟩⟩; refine ⟨_, rfl, ?_⟩))
    go_ret
    exact ⟨zq8, zq6 GE101 GE102⟩
  replace c6 := Bool.eq_false_iff.mpr c6
  subst c6
  have H1 : (some false) = some r := by rw [if_neg (show ¬ (false = true) by decide)] at H; exact H
  clear H
  have H := H1
  clear H1
  obtain rfl := Option.some.inj H
  go_enter Try.func15, Try.ntmps15
  go_wp2_with (first | ((with_reducible refine zgd 2 ?_); refine box_event ?hg (N := 2) ?hd (cs := #[.slice A0_0 l0_0.length c0_0, .slice A0_1 l0_1.length c0_1]) (t := 35) ?hr ?_; (case hd => rfl); (case hg => rfl); (case hr => first | (go_simp; done) | (go_simp; rfl)); intro gb101 hg w12 hbox hb; have BK101 := Aside0.mk (hbox); have GW101 := Aside0.mk ((zq11 : w.heap.size ≤ gb101)); have GE101 := Aside0.mk ((zq11 : w.heap.size ≤ gb101)); replace HB := Aside0.mk (below_step zq1 hb); clear hb hbox hg) | ((with_reducible refine zgd 3 ?_); refine box_event ?hg (N := 3) ?hd (cs := #[.slice A1_0 l1_0.length c1_0, .slice A1_1 l1_1.length c1_1]) (t := 35) ?hr ?_; (case hd => rfl); (case hg => rfl); (case hr => first | (go_simp; done) | (go_simp; rfl)); intro gb102 hg w13 hbox hb; have BK102 := Aside0.mk (hbox); have GW102 := Aside0.mk ((zq24 : w.heap.size ≤ gb102)); have GE102 := Aside0.mk ((zq24 : w.heap.size ≤ gb102)); replace HB := Aside0.mk (below_step (zq2 GE101) hb); have NB101_102 := Aside0.mk ((zq39 : gb101 ≠ gb102)); have NB102_101 := Aside0.mk ((zq40 : gb102 ≠ gb101)); replace BK101 := Aside0.mk (blk_below (g := gb101) (o := .cells #[.slice A0_0 l0_0.length c0_0, .slice A0_1 l0_1.length c0_1] 35 (0, 0)) (zq3 BK101) hb); clear hb hbox hg; have hnb14 := NB101_102.out; have hnc14 := NB102_101.out; have hcz15_0 : w13.cell? ⟨gb101, 0, none⟩ = some (.slice A0_0 l0_0.length c0_0) := (blk_cell BK101.out 0).trans rfl; have hcz15_1 : w13.cell? ⟨gb101, 1, none⟩ = some (.slice A0_1 l0_1.length c0_1) := (blk_cell BK101.out 1).trans rfl; have hfz15_0 := blk_frozen BK101.out 0; have hfz15_1 := blk_frozen BK101.out 1; have hcz16_0 : w13.cell? ⟨gb102, 0, none⟩ = some (.slice A1_0 l1_0.length c1_0) := (blk_cell BK102.out 0).trans rfl; have hcz16_1 : w13.cell? ⟨gb102, 1, none⟩ = some (.slice A1_1 l1_1.length c1_1) := (blk_cell BK102.out 1).trans rfl; have hfz16_0 := blk_frozen BK102.out 0; have hfz16_1 := blk_frozen BK102.out 1) | ((with_reducible refine zgc 40 ?_); refine zca 9 Try.func40 #[.slice A0_0 l0_0.length c0_0, .slice A1_0 l1_0.length c1_0] (laws_eqStringS.calls k _ _ l0_0 _ _ l1_0 true _ (zq9 HR0_0) HC0_0.out (zq9 HR1_0) HC1_0.out A3.out) ?_; rintro e w' ⟨rfl, ⟨nd, rfl⟩⟩; refine ⟨_, rfl, ?_⟩) | ((with_reducible refine zgc 41 ?_); refine zca 15 Try.func41 #[.slice A0_1 l0_1.length c0_1, .slice A1_1 l1_1.length c1_1] (laws_eqIntS.calls k _ _ l0_1 _ _ l1_1 false _ (zq28 HR0_1) HC0_1.out (zq28 HR1_1) HC1_1.out A5.out) ?_; rintro e w' ⟨rfl, ⟨nd, rfl⟩⟩; refine ⟨_, rfl, ?_⟩))
  go_ret
  exact ⟨zq8, zq6 GE101 GE102⟩
end Go.Proofs.Ytnaafcleafbejaa.Q
end
section
namespace Go.Proofs.Ytnaafcleafbejaa.Q
open Go.RowKit Go.Proofs.YtnaafcleafbejaaW.PrintWords Go.Proofs.YtnaafcleafbejaaW.PrintLast Go.Proofs.YtnaafcleafbejaaW.PrintMore
set_option maxHeartbeats 8000000
set_option maxRecDepth 100000
attribute [local go_sem] max2_int min2_int max_two min_two max_three min_three max_four min_four
set_option linter.unusedVariables false
set_option linter.unusedSimpArgs false
def laws_szIntS.f (l0 : List Int) (a1 : Int) : Option (Int) := if (wrap64 (a1 - (l0.length : Int))) < 0 then (some (-1)) else (some (wrap64 (a1 - (l0.length : Int))))
theorem laws_szIntS.calls (A0 : Option Addr) (c0 : Nat) (l0 : List Int) (a1 : Int) (r : Int) (w : World) (hr0 : Kd.C (Kd.int .i64) w A0 l0.length l0) (hc0 : l0.length ≤ c0) (h : laws_szIntS.f l0 a1 = some r) :
    Calls Try.prog 23 #[.slice A0 l0.length c0, .int .i64 a1] w fun e w' => e = .returned (.int .i64 r) ∧ Drawn0 w w' := by
  have HR0 := Aside0.mk hr0
  have HC0 := Aside0.mk hc0
  clear hr0 hc0
  have H : (if (wrap64 (a1 - (l0.length : Int))) < 0 then (some (-1)) else (some (wrap64 (a1 - (l0.length : Int))))) = some r := h
  clear h
  by_cases c3 : (wrap64 (a1 - (l0.length : Int))) < 0
  · rw [if_pos c3] at H
    have c3b0 : decide ((wrap64 (a1 - (l0.length : Int))) < 0) = true := decide_eq_true c3
    clear c3
    obtain rfl := Option.some.inj H
    go_enter Try.func23, Try.ntmps23
    exact zr_1
  · rw [if_neg c3] at H
    have c3b0 : decide ((wrap64 (a1 - (l0.length : Int))) < 0) = false := decide_eq_false c3
    clear c3
    obtain rfl := Option.some.inj H
    go_enter Try.func23, Try.ntmps23
    exact zr_1
end Go.Proofs.Ytnaafcleafbejaa.Q
end
section
namespace Go.Proofs.Ytnaafcleafbejaa.Q
open Go.RowKit Go.Proofs.YtnaafcleafbejaaW.PrintWords Go.Proofs.YtnaafcleafbejaaW.PrintLast Go.Proofs.YtnaafcleafbejaaW.PrintMore
set_option maxHeartbeats 8000000
set_option maxRecDepth 100000
attribute [local go_sem] max2_int min2_int max_two min_two max_three min_three max_four min_four
set_option linter.unusedVariables false
set_option linter.unusedSimpArgs false
def laws_szStringS.l0 : Nat → List ByteArray → Int → Int → Option (Int)
  | 0, _, _, _ => none
  | k + 1, x0, x1, x5 => if x5 < (x0.length : Int) then (if 0 ≤ x5 then (if (wrap64 (x1 - ((rdOf ByteArray.empty x0 x5).size : Int))) < 0 then (some (-1)) else (laws_szStringS.l0 k x0 (wrap64 (x1 - ((rdOf ByteArray.empty x0 x5).size : Int))) (wrap64 (x5 + 1)))) else (none)) else (some x1)
def laws_szStringS.f (k : Nat) (l0 : List ByteArray) (a1 : Int) : Option (Int) := if (wrap64 (a1 - (l0.length : Int))) < 0 then (some (-1)) else (laws_szStringS.l0 k l0 (wrap64 (a1 - (l0.length : Int))) 0)
theorem laws_szStringS.mono_l : ∀ k, (∀ y0 y1 y2, LeO (laws_szStringS.l0 k y0 y1 y2) (laws_szStringS.l0 (k + 1) y0 y1 y2))
  | 0 => fun _ _ _ r h => by simp [laws_szStringS.l0] at h
  | k + 1 => by
    have ih0 := laws_szStringS.mono_l k
    · intro y0 y1 y2
      unfold laws_szStringS.l0
      repeat' first
      | (with_reducible exact ih0 _ _ _)
      | (with_reducible exact LeO.refl _)
      | (with_reducible exact LeO.none _)
      | (with_reducible refine LeO.ite ?_ ?_)
      | (with_reducible refine LeO.bind ?_ (fun _ => ?_))
      | exact ih0 _ _ _
      | exact LeO.none _
      | refine LeO.ite ?_ ?_
      | refine LeO.bind ?_ (fun _ => ?_)
theorem laws_szStringS.mono : ∀ a0 a1 k, LeO (laws_szStringS.f k a0 a1) (laws_szStringS.f (k + 1) a0 a1) := by
  intro a0 a1 k
  have ih0 := laws_szStringS.mono_l k
  unfold laws_szStringS.f
  repeat' first
      | (with_reducible exact ih0 _ _ _)
      | (with_reducible exact LeO.refl _)
      | (with_reducible exact LeO.none _)
      | (with_reducible refine LeO.ite ?_ ?_)
      | (with_reducible refine LeO.bind ?_ (fun _ => ?_))
      | exact ih0 _ _ _
      | exact LeO.none _
      | refine LeO.ite ?_ ?_
      | refine LeO.bind ?_ (fun _ => ?_)
theorem laws_szStringS.calls (k : Nat) (A0 : Option Addr) (c0 : Nat) (l0 : List ByteArray) (a1 : Int) (r : Int) (w : World) (hr0 : Kd.C Kd.string w A0 l0.length l0) (hc0 : l0.length ≤ c0) (h : laws_szStringS.f k l0 a1 = some r) :
    Calls Try.prog 22 #[.slice A0 l0.length c0, .int .i64 a1] w fun e w' => e = .returned (.int .i64 r) ∧ Drawn0 w w' := by
  have HR0 := Aside0.mk hr0
  have HC0 := Aside0.mk hc0
  clear hr0 hc0
  have H : (if (wrap64 (a1 - (l0.length : Int))) < 0 then (some (-1)) else (laws_szStringS.l0 k l0 (wrap64 (a1 - (l0.length : Int))) 0)) = some r := h
  clear h
  by_cases c3 : (wrap64 (a1 - (l0.length : Int))) < 0
  · rw [if_pos c3] at H
    have c3b0 : decide ((wrap64 (a1 - (l0.length : Int))) < 0) = true := decide_eq_true c3
    clear c3
    obtain rfl := Option.some.inj H
    go_enter Try.func22, Try.ntmps22
    exact zr_1
  rw [if_neg c3] at H
  have c3b0 : decide ((wrap64 (a1 - (l0.length : Int))) < 0) = false := decide_eq_false c3
  clear c3
  have H' := Aside0.mk H
  clear H
  go_enter Try.func22, Try.ntmps22
  go_wp2
  go_loopg [1, 5] k (fun kq v1 v5 w' => ∃ (x1_1 : Int) (x5_1 : Int), v1 = .int .i64 x1_1 ∧ v5 = .int .i64 x5_1 ∧ Aside0 (laws_szStringS.l0 kq l0 x1_1 x5_1 = some r) ∧ Aside0 (kq ≤ k) ∧ Drawn0 w w')
  case atStart => exact ⟨(wrap64 (a1 - (l0.length : Int))), (0), zq7, zq7, H', ⟨Nat.le_refl _⟩, zq10⟩
  clear H'
  try clear c3
  try clear c3b0
  obtain ⟨x1_1, x5_1, rfl, rfl, HA, HK1, ⟨m1, rfl⟩⟩ := hrel
  cases gk with
  | zero => exact absurd HA.out (by simp [laws_szStringS.l0])
  | succ k1 =>
  have H := HA.out
  clear HA
  simp only [laws_szStringS.l0] at H
  by_cases c4 : x5_1 < (l0.length : Int)
  rotate_left
  · rw [if_neg c4] at H
    have c4b0 : decide (x5_1 < (l0.length : Int)) = false := decide_eq_false c4
    clear c4
    obtain rfl := Option.some.inj H
    exact zr_1
  rw [if_pos c4] at H
  have c4b0 : decide (x5_1 < (l0.length : Int)) = true := decide_eq_true c4
  clear c4
  by_cases c5 : 0 ≤ x5_1
  rotate_left
  · rw [if_neg c5] at H
    exact absurd H (by simp)
  rw [if_pos c5] at H
  have c5b0 : decide (0 ≤ x5_1) = true := decide_eq_true c5
  clear c5
  by_cases c6 : (wrap64 (x1_1 - ((rdOf ByteArray.empty l0 x5_1).size : Int))) < 0
  · rw [if_pos c6] at H
    have c6b0 : decide ((wrap64 (x1_1 - ((rdOf ByteArray.empty l0 x5_1).size : Int))) < 0) = true := decide_eq_true c6
    clear c6
    obtain rfl := Option.some.inj H
    have p101 : 0 ≤ (x5_1 : Int) := of_decide_eq_true zq4
    have q101 : x5_1 < (l0.length : Int) := of_decide_eq_true zq4
    obtain ⟨ad101, e101, hx101_0⟩ := Kd.at_string HR0.out x5_1 p101 q101
    cases e101
    replace p101 := eq_true p101
    replace q101 := eq_true q101
    exact zr_1
  rw [if_neg c6] at H
  have c6b0 : decide ((wrap64 (x1_1 - ((rdOf ByteArray.empty l0 x5_1).size : Int))) < 0) = false := decide_eq_false c6
  clear c6
  have H' := Aside0.mk H
  clear H
  have p101 : 0 ≤ (x5_1 : Int) := of_decide_eq_true zq4
  have q101 : x5_1 < (l0.length : Int) := of_decide_eq_true zq4
  obtain ⟨ad101, e101, hx101_0⟩ := Kd.at_string HR0.out x5_1 p101 q101
  cases e101
  replace p101 := eq_true p101
  replace q101 := eq_true q101
  go_wp2
  go_roundg k1
  case measure => have := HK1.out; omega
  case rel => exact ⟨(wrap64 (x1_1 - ((rdOf ByteArray.empty l0 x5_1).size : Int))), (wrap64 (x5_1 + 1)), zq7, zq7, H', ⟨zq36 HK1⟩, zq10⟩
end Go.Proofs.Ytnaafcleafbejaa.Q
end
section
namespace Go.Proofs.Ytnaafcleafbejaa.Q
open Go.RowKit Go.Proofs.YtnaafcleafbejaaW.PrintWords Go.Proofs.YtnaafcleafbejaaW.PrintLast Go.Proofs.YtnaafcleafbejaaW.PrintMore
set_option maxHeartbeats 8000000
set_option maxRecDepth 100000
attribute [local go_sem] max2_int min2_int max_two min_two max_three min_three max_four min_four
set_option linter.unusedVariables false
set_option linter.unusedSimpArgs false
def laws_szChoice.f (k : Nat) (l0_0 : List ByteArray) (l0_1 : List Int) (a1 : Int) : Option (Int) := (laws_szStringS.f k l0_0 a1).bind fun t102 => (if t102 < 0 then (some (-1)) else ((laws_szIntS.f l0_1 t102).bind fun t103 => (if t103 < 0 then (some (-1)) else (some t103))))
theorem laws_szChoice.mono : ∀ a0 a1 a2 k, LeO (laws_szChoice.f k a0 a1 a2) (laws_szChoice.f (k + 1) a0 a1 a2) := by
  intro a0 a1 a2 k
  unfold laws_szChoice.f
  repeat' first
      | (with_reducible exact laws_szStringS.mono _ _ _)
      | (with_reducible exact LeO.refl _)
      | (with_reducible exact LeO.none _)
      | (with_reducible refine LeO.ite ?_ ?_)
      | (with_reducible refine LeO.bind ?_ (fun _ => ?_))
      | exact laws_szStringS.mono _ _ _
      | exact LeO.none _
      | refine LeO.ite ?_ ?_
      | refine LeO.bind ?_ (fun _ => ?_)
theorem laws_szChoice.calls (k : Nat) (A0_0 : Option Addr) (c0_0 : Nat) (l0_0 : List ByteArray) (A0_1 : Option Addr) (c0_1 : Nat) (l0_1 : List Int) (a1 : Int) (r : Int) (w : World) (hr0_0 : Kd.C Kd.string w A0_0 l0_0.length l0_0) (hc0_0 : l0_0.length ≤ c0_0) (hr0_1 : Kd.C (Kd.int .i64) w A0_1 l0_1.length l0_1) (hc0_1 : l0_1.length ≤ c0_1) (h : laws_szChoice.f k l0_0 l0_1 a1 = some r) :
    Calls Try.prog 7 #[.agg #[.slice A0_0 l0_0.length c0_0, .slice A0_1 l0_1.length c0_1], .int .i64 a1] w fun e w' => e = .returned (.int .i64 r) ∧ Below w.heap.size w w' := by
  have hu26 := Try.underlying26
  have HR0_0 := Aside0.mk hr0_0
  have HC0_0 := Aside0.mk hc0_0
  clear hr0_0 hc0_0
  have HR0_1 := Aside0.mk hr0_1
  have HC0_1 := Aside0.mk hc0_1
  clear hr0_1 hc0_1
  have HB := Aside0.mk (Below.refl w.heap.size w)
  have H : ((laws_szStringS.f k l0_0 a1).bind fun t102 => (if t102 < 0 then (some (-1)) else ((laws_szIntS.f l0_1 t102).bind fun t103 => (if t103 < 0 then (some (-1)) else (some t103))))) = some r := h
  clear h
  replace H := Option.bind_eq_some_iff.mp H
  obtain ⟨t102, A30, H⟩ := H
  replace H : (if t102 < 0 then (some (-1)) else ((laws_szIntS.f l0_1 t102).bind fun t103 => (if t103 < 0 then (some (-1)) else (some t103)))) = some r := H
  have A3 := Aside0.mk A30
  clear A30
  by_cases c4 : t102 < 0
  · rw [if_pos c4] at H
    have c4b0 : decide (t102 < 0) = true := decide_eq_true c4
    clear c4
    obtain rfl := Option.some.inj H
    go_enter Try.func7, Try.ntmps7
    go_wp2_with (first | ((with_reducible refine zgd 2 ?_); refine box_event ?hg (N := 2) ?hd (cs := #[.slice A0_0 l0_0.length c0_0, .slice A0_1 l0_1.length c0_1]) (t := 26) ?hr ?_; (case hd => rfl); (case hg => rfl); (case hr => first | (go_simp; done) | (go_simp; rfl)); intro gb101 hg w5 hbox hb; have BK101 := Aside0.mk (hbox); have GW101 := Aside0.mk ((zq11 : w.heap.size ≤ gb101)); have GE101 := Aside0.mk ((zq11 : w.heap.size ≤ gb101)); replace HB := Aside0.mk (below_step zq1 hb); clear hb hbox hg; have hcz6_0 : w5.cell? ⟨gb101, 0, none⟩ = some (.slice A0_0 l0_0.length c0_0) := (blk_cell BK101.out 0).trans rfl; have hcz6_1 : w5.cell? ⟨gb101, 1, none⟩ = some (.slice A0_1 l0_1.length c0_1) := (blk_cell BK101.out 1).trans rfl; have hfz6_0 := blk_frozen BK101.out 0; have hfz6_1 := blk_frozen BK101.out 1) | ((with_reducible refine zgc 22 ?_); refine zca 8 Try.func22 #[.slice A0_0 l0_0.length c0_0, .int .i64 a1] (laws_szStringS.calls k _ _ l0_0 a1 t102 _ (zq9 HR0_0) HC0_0.out A3.out) ?_; rintro e w' ⟨rfl, ⟨nd, rfl⟩⟩; refine ⟨_, rfl, ?_⟩))
    go_ret
    exact ⟨zq8, zq2 GE101⟩
  rw [if_neg c4] at H
  have c4b0 : decide (t102 < 0) = false := decide_eq_false c4
  clear c4
  replace H := Option.bind_eq_some_iff.mp H
  obtain ⟨t103, A70, H⟩ := H
  replace H : (if t103 < 0 then (some (-1)) else (some t103)) = some r := H
  have A7 := Aside0.mk A70
  clear A70
  by_cases c8 : t103 < 0
  · rw [if_pos c8] at H
    have c8b0 : decide (t103 < 0) = true := decide_eq_true c8
    clear c8
    obtain rfl := Option.some.inj H
    go_enter Try.func7, Try.ntmps7
    go_wp2_with (first | ((with_reducible refine zgd 2 ?_); refine box_event ?hg (N := 2) ?hd (cs := #[.slice A0_0 l0_0.length c0_0, .slice A0_1 l0_1.length c0_1]) (t := 26) ?hr ?_; (case hd => rfl); (case hg => rfl); (case hr => first | (go_simp; done) | (go_simp; rfl)); intro gb101 hg w9 hbox hb; have BK101 := Aside0.mk (hbox); have GW101 := Aside0.mk ((zq11 : w.heap.size ≤ gb101)); have GE101 := Aside0.mk ((zq11 : w.heap.size ≤ gb101)); replace HB := Aside0.mk (below_step zq1 hb); clear hb hbox hg; have hcz10_0 : w9.cell? ⟨gb101, 0, none⟩ = some (.slice A0_0 l0_0.length c0_0) := (blk_cell BK101.out 0).trans rfl; have hcz10_1 : w9.cell? ⟨gb101, 1, none⟩ = some (.slice A0_1 l0_1.length c0_1) := (blk_cell BK101.out 1).trans rfl; have hfz10_0 := blk_frozen BK101.out 0; have hfz10_1 := blk_frozen BK101.out 1) | ((with_reducible refine zgc 22 ?_); refine zca 8 Try.func22 #[.slice A0_0 l0_0.length c0_0, .int .i64 a1] (laws_szStringS.calls k _ _ l0_0 a1 t102 _ (zq9 HR0_0) HC0_0.out A3.out) ?_; rintro e w' ⟨rfl, ⟨nd, rfl⟩⟩; refine ⟨_, rfl, ?_⟩) | ((with_reducible refine zgc 23 ?_); refine zca 14 Try.func23 #[.slice A0_1 l0_1.length c0_1, .int .i64 t102] (laws_szIntS.calls _ _ l0_1 t102 t103 _ (zq54 HR0_1) HC0_1.out A7.out) ?_; rintro e w' ⟨rfl, ⟨nd, rfl⟩⟩; refine ⟨_, rfl, ?_⟩))
    go_ret
    exact ⟨zq8, zq2 GE101⟩
  rw [if_neg c8] at H
  have c8b0 : decide (t103 < 0) = false := decide_eq_false c8
  clear c8
  obtain rfl := Option.some.inj H
  go_enter Try.func7, Try.ntmps7
  go_wp2_with (first | ((with_reducible refine zgd 2 ?_); refine box_event ?hg (N := 2) ?hd (cs := #[.slice A0_0 l0_0.length c0_0, .slice A0_1 l0_1.length c0_1]) (t := 26) ?hr ?_; (case hd => rfl); (case hg => rfl); (case hr => first | (go_simp; done) | (go_simp; rfl)); intro gb101 hg w11 hbox hb; have BK101 := Aside0.mk (hbox); have GW101 := Aside0.mk ((zq11 : w.heap.size ≤ gb101)); have GE101 := Aside0.mk ((zq11 : w.heap.size ≤ gb101)); replace HB := Aside0.mk (below_step zq1 hb); clear hb hbox hg; have hcz12_0 : w11.cell? ⟨gb101, 0, none⟩ = some (.slice A0_0 l0_0.length c0_0) := (blk_cell BK101.out 0).trans rfl; have hcz12_1 : w11.cell? ⟨gb101, 1, none⟩ = some (.slice A0_1 l0_1.length c0_1) := (blk_cell BK101.out 1).trans rfl; have hfz12_0 := blk_frozen BK101.out 0; have hfz12_1 := blk_frozen BK101.out 1) | ((with_reducible refine zgc 22 ?_); refine zca 8 Try.func22 #[.slice A0_0 l0_0.length c0_0, .int .i64 a1] (laws_szStringS.calls k _ _ l0_0 a1 t102 _ (zq9 HR0_0) HC0_0.out A3.out) ?_; rintro e w' ⟨rfl, ⟨nd, rfl⟩⟩; refine ⟨_, rfl, ?_⟩) | ((with_reducible refine zgc 23 ?_); refine zca 14 Try.func23 #[.slice A0_1 l0_1.length c0_1, .int .i64 t102] (laws_szIntS.calls _ _ l0_1 t102 t103 _ (zq54 HR0_1) HC0_1.out A7.out) ?_; rintro e w' ⟨rfl, ⟨nd, rfl⟩⟩; refine ⟨_, rfl, ?_⟩))
  go_ret
  exact ⟨zq8, zq2 GE101⟩
end Go.Proofs.Ytnaafcleafbejaa.Q
end
section
namespace Go.Proofs.Ytnaafcleafbejaa.Q
open Go.RowKit Go.Proofs.YtnaafcleafbejaaW.PrintWords Go.Proofs.YtnaafcleafbejaaW.PrintLast Go.Proofs.YtnaafcleafbejaaW.PrintMore
set_option maxHeartbeats 8000000
set_option maxRecDepth 100000
attribute [local go_sem] max2_int min2_int max_two min_two max_three min_three max_four min_four
set_option linter.unusedVariables false
set_option linter.unusedSimpArgs false
def laws_toIntS.l0 : Nat → List Int → List Int → Int → Option (List Int)
  | 0, _, _, _ => none
  | k + 1, x0, x3, x4 => if x4 < (x0.length : Int) then (if 0 ≤ x4 then (if x4 < (x3.length : Int) then (laws_toIntS.l0 k x0 (x3.set (x4 : Int).toNat (rd x0 x4)) (wrap64 (x4 + 1))) else (none)) else (none)) else (some x3)
def laws_toIntS.f (k : Nat) (l0 : List Int) : Option (List Int) := if 0 ≤ (l0.length : Int) then (if ((l0.length : Int) : Int).toNat ≤ 35184372088832 then (laws_toIntS.l0 k l0 (List.replicate ((l0.length : Int) : Int).toNat 0) 0) else (none)) else (none)
theorem laws_toIntS.mono_l : ∀ k, (∀ y0 y1 y2, LeO (laws_toIntS.l0 k y0 y1 y2) (laws_toIntS.l0 (k + 1) y0 y1 y2))
  | 0 => fun _ _ _ r h => by simp [laws_toIntS.l0] at h
  | k + 1 => by
    have ih0 := laws_toIntS.mono_l k
    · intro y0 y1 y2
      unfold laws_toIntS.l0
      repeat' first
      | (with_reducible exact ih0 _ _ _)
      | (with_reducible exact LeO.refl _)
      | (with_reducible exact LeO.none _)
      | (with_reducible refine LeO.ite ?_ ?_)
      | (with_reducible refine LeO.bind ?_ (fun _ => ?_))
      | exact ih0 _ _ _
      | exact LeO.none _
      | refine LeO.ite ?_ ?_
      | refine LeO.bind ?_ (fun _ => ?_)
theorem laws_toIntS.mono : ∀ a0 k, LeO (laws_toIntS.f k a0) (laws_toIntS.f (k + 1) a0) := by
  intro a0 k
  have ih0 := laws_toIntS.mono_l k
  unfold laws_toIntS.f
  repeat' first
      | (with_reducible exact ih0 _ _ _)
      | (with_reducible exact LeO.refl _)
      | (with_reducible exact LeO.none _)
      | (with_reducible refine LeO.ite ?_ ?_)
      | (with_reducible refine LeO.bind ?_ (fun _ => ?_))
      | exact ih0 _ _ _
      | exact LeO.none _
      | refine LeO.ite ?_ ?_
      | refine LeO.bind ?_ (fun _ => ?_)
theorem laws_toIntS.calls (k : Nat) (A0 : Option Addr) (c0 : Nat) (l0 : List Int) (r : List Int) (w : World) (hr0 : Kd.C (Kd.int .i64) w A0 l0.length l0) (hc0 : l0.length ≤ c0) (h : laws_toIntS.f k l0 = some r) :
    Calls Try.prog 31 #[.slice A0 l0.length c0] w fun e w' => ∃ v0_ : Value, e = .returned (v0_) ∧ Kd.R (Kd.int .i64) 3 w' w.heap.size (fun _ => True) v0_ r ∧ Below w.heap.size w w' := by
  have HR0 := Aside0.mk hr0
  have HC0 := Aside0.mk hc0
  clear hr0 hc0
  have HB := Aside0.mk (Below.refl w.heap.size w)
  have H : (if 0 ≤ (l0.length : Int) then (if ((l0.length : Int) : Int).toNat ≤ 35184372088832 then (laws_toIntS.l0 k l0 (List.replicate ((l0.length : Int) : Int).toNat 0) 0) else (none)) else (none)) = some r := h
  clear h
  by_cases c2 : 0 ≤ (l0.length : Int)
  rotate_left
  · rw [if_neg c2] at H
    exact absurd H (by simp)
  rw [if_pos c2] at H
  have c2b0 := eq_true c2
  have c2b1 : decide (0 ≤ (l0.length : Int)) = true := decide_eq_true c2
  clear c2
  by_cases c3 : ((l0.length : Int) : Int).toNat ≤ 35184372088832
  rotate_left
  · rw [if_neg c3] at H
    exact absurd H (by simp)
  rw [if_pos c3] at H
  have c3b0 := eq_true c3
  have c3b1 : decide (((l0.length : Int) : Int).toNat ≤ 35184372088832) = true := decide_eq_true c3
  clear c3
  obtain ⟨y101, hy101⟩ : ∃ y_ : List Int, y_ = (List.replicate ((l0.length : Int) : Int).toNat 0) := ⟨_, rfl⟩
  replace H : (laws_toIntS.l0 k l0 y101 0) = some r := by first | (rw [hy101]; with_reducible exact H) | (have H2_ := (Option.bind_some _ _).symm.trans H; rw [hy101]; with_reducible exact H2_) | (have H2_ := (Option.bind_some _ _).symm.trans H; with_reducible exact H2_) | with_reducible exact H | (rw [hy101]; exact H) | exact H
  have Ny101 := Aside0.mk hy101
  clear hy101
  have H' := Aside0.mk H
  clear H
  go_enter Try.func31, Try.ntmps31
  go_wp2_with (first | ((with_reducible refine zgd 7 ?_); refine Kd.R_make (Kd.int .i64) _ 3 rfl (N := 7) rfl 24 _ _ rfl (l0.length : Int) rfl rfl Try.underlying24 (.int .i64 0) 8 info3 rfl (by decide) (by omega) 0 (ok := fun _ => True) (okp := fun _ => True) rfl (fun _ hk => hk) trivial (of_decide_eq_true zq4) (Nat.le_trans (Nat.mul_le_mul_right _ (of_decide_eq_true zq4 : (l0.length : Int).toNat ≤ 35184372088832)) (by omega)) (Below.refl _ _) (Nat.le_refl _) ?_; intro v102 w4 ho5 hb hg_ hnew_; clear hg_ hnew_; (first | rw [← Ny101.out] at ho5 | (simp only [Int.reduceToNat] at ho5; rw [← Ny101.out] at ho5)); have HO103 := Aside0.mk (Kd.R_lower ho5 (below_size zq1)); replace HB := Aside0.mk (below_step zq1 hb); clear hb ho5))
  go_loopg [4] k (fun kq v4 w' => ∃ (x3_1 : List Int) (x4_1 : Int), v4 = .int .i64 x4_1 ∧ Aside0 (laws_toIntS.l0 kq l0 x3_1 x4_1 = some r) ∧ Aside0 (kq ≤ k) ∧ Aside0 (Kd.R (Kd.int .i64) 3 w' w.heap.size (fun _ => True) v102 x3_1) ∧ Aside0 (Below w.heap.size w w'))
  case atStart => exact ⟨(y101), (0), zq7, H', ⟨Nat.le_refl _⟩, ⟨zq5 HO103⟩, ⟨zq1⟩⟩
  clear H'
  try clear c2
  try clear c2b0
  try clear c2b1
  try clear c3
  try clear c3b0
  try clear c3b1
  obtain ⟨x3_1, x4_1, rfl, HA, HK1, HO_3, HB⟩ := hrel
  cases gk with
  | zero => exact absurd HA.out (by simp [laws_toIntS.l0])
  | succ k1 =>
  have H := HA.out
  clear HA
  simp only [laws_toIntS.l0] at H
  by_cases c6 : x4_1 < (l0.length : Int)
  rotate_left
  · rw [if_neg c6] at H
    have c6b0 : decide (x4_1 < (l0.length : Int)) = false := decide_eq_false c6
    clear c6
    obtain rfl := Option.some.inj H
    go_wp2
    go_ret
    exact ⟨_, zq8, zq5 HO_3, zq1⟩
  rw [if_pos c6] at H
  have c6b0 : decide (x4_1 < (l0.length : Int)) = true := decide_eq_true c6
  clear c6
  by_cases c7 : 0 ≤ x4_1
  rotate_left
  · rw [if_neg c7] at H
    exact absurd H (by simp)
  rw [if_pos c7] at H
  have c7b0 : decide (0 ≤ x4_1) = true := decide_eq_true c7
  clear c7
  by_cases c8 : x4_1 < (x3_1.length : Int)
  rotate_left
  · rw [if_neg c8] at H
    exact absurd H (by simp)
  rw [if_pos c8] at H
  have c8b0 : decide (x4_1 < (x3_1.length : Int)) = true := decide_eq_true c8
  clear c8
  obtain ⟨y105, hy105⟩ : ∃ y_ : List Int, y_ = (x3_1.set (x4_1 : Int).toNat (rd l0 x4_1)) := ⟨_, rfl⟩
  replace H : (laws_toIntS.l0 k1 l0 y105 (wrap64 (x4_1 + 1))) = some r := by first | (rw [hy105]; with_reducible exact H) | (have H2_ := (Option.bind_some _ _).symm.trans H; rw [hy105]; with_reducible exact H2_) | (have H2_ := (Option.bind_some _ _).symm.trans H; with_reducible exact H2_) | with_reducible exact H | (rw [hy105]; exact H) | exact H
  have Ny105 := Aside0.mk hy105
  clear hy105
  have H' := Aside0.mk H
  clear H
  have p104 : 0 ≤ (x4_1 : Int) := of_decide_eq_true zq4
  have q104 : x4_1 < (l0.length : Int) := of_decide_eq_true zq4
  obtain ⟨ad104, e104, hx104_0⟩ := Kd.at_int HR0.out x4_1 p104 q104
  cases e104
  replace hx104_0 := (HB.out.cell (World.block_lt_of_cell? w _ hx104_0)).trans hx104_0
  replace p104 := eq_true p104
  replace q104 := eq_true q104
  have p9 : 0 ≤ (x4_1 : Int) := of_decide_eq_true zq4
  have q9 : (x4_1 : Int) < ((x3_1.length : Int) : Int) := of_decide_eq_true zq4
  obtain ⟨go9, co9, eo9, gb9, gl9, cl9, HG9⟩ := Kd.R_form HO_3.out (by omega)
  (first | cases eo9 | (injection eo9 with ea_ en_ ec_; (first | subst ea_ | (injection ea_ with ea_; subst ea_)); subst ec_; clear en_))
  have GB9 := Aside0.mk gb9
  have GG9 := Aside0.mk HG9
  clear gb9 gl9 HG9
  obtain ⟨hx9_0, hf9_0⟩ := Kd.R_celln 0 HO_3.out (x4_1 : Int) p9 q9
  replace p9 := eq_true p9
  replace q9 := eq_true q9
  have HP10 := Kd.R_putg HO_3.out (x4_1 : Int) (rd l0 x4_1)
  go_wp2_with (first | ((with_reducible refine zgs 3 20 ?_); refine store_event (t := 3) (p := 20) (v := ?vo_w11) (w1 := (wr.setCell ⟨go9, (x4_1 : Int).toNat, none⟩ (.int .i64 (rd l0 x4_1)))) ?hg ?ho ?hn ?hr ?_; (case ho => rfl); (case hg => rfl); (case hn => rfl); (case hr => first | (go_simp; done) | (go_simp; rfl)); intro w11 hw; have hg : wr.grownBy w11 (some go9) := (by rw [hw]; exact HP10.2); have hp_ : Kd.R (Kd.int .i64) 3 w11 w.heap.size (fun _ => True) (.slice (some ⟨go9, 0, none⟩) x3_1.length co9) y105 := (by rw [hw, Ny105.out]; exact HP10.1); clear HP10; replace HO_3 := Aside0.mk (hp_); replace HB := Aside0.mk ((zq53 GB9 : Below w.heap.size w w11)); clear hg hw hp_))
  go_roundg k1
  case measure => have := HK1.out; omega
  case rel => exact ⟨(y105), (wrap64 (x4_1 + 1)), zq7, H', ⟨zq36 HK1⟩, ⟨zq5 HO_3⟩, ⟨zq1⟩⟩
end Go.Proofs.Ytnaafcleafbejaa.Q
end
section
namespace Go.Proofs.Ytnaafcleafbejaa.Q
open Go.RowKit Go.Proofs.YtnaafcleafbejaaW.PrintWords Go.Proofs.YtnaafcleafbejaaW.PrintLast Go.Proofs.YtnaafcleafbejaaW.PrintMore
set_option maxHeartbeats 8000000
set_option maxRecDepth 100000
attribute [local go_sem] max2_int min2_int max_two min_two max_three min_three max_four min_four
set_option linter.unusedVariables false
set_option linter.unusedSimpArgs false
def laws_toStringS.l0 : Nat → List ByteArray → List ByteArray → Int → Option (List ByteArray)
  | 0, _, _, _ => none
  | k + 1, x0, x3, x4 => if x4 < (x0.length : Int) then (if 0 ≤ x4 then (if x4 < (x3.length : Int) then (laws_toStringS.l0 k x0 (x3.set (x4 : Int).toNat (rdOf ByteArray.empty x0 x4)) (wrap64 (x4 + 1))) else (none)) else (none)) else (some x3)
def laws_toStringS.f (k : Nat) (l0 : List ByteArray) : Option (List ByteArray) := if 0 ≤ (l0.length : Int) then (if ((l0.length : Int) : Int).toNat ≤ 17592186044416 then (laws_toStringS.l0 k l0 (List.replicate ((l0.length : Int) : Int).toNat (⟨#[]⟩ : ByteArray)) 0) else (none)) else (none)
theorem laws_toStringS.mono_l : ∀ k, (∀ y0 y1 y2, LeO (laws_toStringS.l0 k y0 y1 y2) (laws_toStringS.l0 (k + 1) y0 y1 y2))
  | 0 => fun _ _ _ r h => by simp [laws_toStringS.l0] at h
  | k + 1 => by
    have ih0 := laws_toStringS.mono_l k
    · intro y0 y1 y2
      unfold laws_toStringS.l0
      repeat' first
      | (with_reducible exact ih0 _ _ _)
      | (with_reducible exact LeO.refl _)
      | (with_reducible exact LeO.none _)
      | (with_reducible refine LeO.ite ?_ ?_)
      | (with_reducible refine LeO.bind ?_ (fun _ => ?_))
      | exact ih0 _ _ _
      | exact LeO.none _
      | refine LeO.ite ?_ ?_
      | refine LeO.bind ?_ (fun _ => ?_)
theorem laws_toStringS.mono : ∀ a0 k, LeO (laws_toStringS.f k a0) (laws_toStringS.f (k + 1) a0) := by
  intro a0 k
  have ih0 := laws_toStringS.mono_l k
  unfold laws_toStringS.f
  repeat' first
      | (with_reducible exact ih0 _ _ _)
      | (with_reducible exact LeO.refl _)
      | (with_reducible exact LeO.none _)
      | (with_reducible refine LeO.ite ?_ ?_)
      | (with_reducible refine LeO.bind ?_ (fun _ => ?_))
      | exact ih0 _ _ _
      | exact LeO.none _
      | refine LeO.ite ?_ ?_
      | refine LeO.bind ?_ (fun _ => ?_)
theorem laws_toStringS.calls (k : Nat) (A0 : Option Addr) (c0 : Nat) (l0 : List ByteArray) (r : List ByteArray) (w : World) (hr0 : Kd.C Kd.string w A0 l0.length l0) (hc0 : l0.length ≤ c0) (h : laws_toStringS.f k l0 = some r) :
    Calls Try.prog 30 #[.slice A0 l0.length c0] w fun e w' => ∃ v0_ : Value, e = .returned (v0_) ∧ Kd.R Kd.string 9 w' w.heap.size (fun _ => True) v0_ r ∧ Below w.heap.size w w' := by
  have HR0 := Aside0.mk hr0
  have HC0 := Aside0.mk hc0
  clear hr0 hc0
  have HB := Aside0.mk (Below.refl w.heap.size w)
  have H : (if 0 ≤ (l0.length : Int) then (if ((l0.length : Int) : Int).toNat ≤ 17592186044416 then (laws_toStringS.l0 k l0 (List.replicate ((l0.length : Int) : Int).toNat (⟨#[]⟩ : ByteArray)) 0) else (none)) else (none)) = some r := h
  clear h
  by_cases c2 : 0 ≤ (l0.length : Int)
  rotate_left
  · rw [if_neg c2] at H
    exact absurd H (by simp)
  rw [if_pos c2] at H
  have c2b0 := eq_true c2
  have c2b1 : decide (0 ≤ (l0.length : Int)) = true := decide_eq_true c2
  clear c2
  by_cases c3 : ((l0.length : Int) : Int).toNat ≤ 17592186044416
  rotate_left
  · rw [if_neg c3] at H
    exact absurd H (by simp)
  rw [if_pos c3] at H
  have c3b0 := eq_true c3
  have c3b1 : decide (((l0.length : Int) : Int).toNat ≤ 17592186044416) = true := decide_eq_true c3
  clear c3
  obtain ⟨y101, hy101⟩ : ∃ y_ : List ByteArray, y_ = (List.replicate ((l0.length : Int) : Int).toNat (⟨#[]⟩ : ByteArray)) := ⟨_, rfl⟩
  replace H : (laws_toStringS.l0 k l0 y101 0) = some r := by first | (rw [hy101]; with_reducible exact H) | (have H2_ := (Option.bind_some _ _).symm.trans H; rw [hy101]; with_reducible exact H2_) | (have H2_ := (Option.bind_some _ _).symm.trans H; with_reducible exact H2_) | with_reducible exact H | (rw [hy101]; exact H) | exact H
  have Ny101 := Aside0.mk hy101
  clear hy101
  have H' := Aside0.mk H
  clear H
  go_enter Try.func30, Try.ntmps30
  go_wp2_with (first | ((with_reducible refine zgd 7 ?_); refine Kd.R_make Kd.string _ 9 rfl (N := 7) rfl 23 _ _ rfl (l0.length : Int) rfl rfl Try.underlying23 (.string ⟨#[]⟩) 16 info9 rfl (by decide) (by omega) (⟨#[]⟩ : ByteArray) (ok := fun _ => True) (okp := fun _ => True) rfl (fun _ hk => hk) trivial (of_decide_eq_true zq4) (Nat.le_trans (Nat.mul_le_mul_right _ (of_decide_eq_true zq4 : (l0.length : Int).toNat ≤ 17592186044416)) (by omega)) (Below.refl _ _) (Nat.le_refl _) ?_; intro v102 w4 ho5 hb hg_ hnew_; clear hg_ hnew_; (first | rw [← Ny101.out] at ho5 | (simp only [Int.reduceToNat] at ho5; rw [← Ny101.out] at ho5)); have HO103 := Aside0.mk (Kd.R_lower ho5 (below_size zq1)); replace HB := Aside0.mk (below_step zq1 hb); clear hb ho5))
  go_loopg [4] k (fun kq v4 w' => ∃ (x3_1 : List ByteArray) (x4_1 : Int), v4 = .int .i64 x4_1 ∧ Aside0 (laws_toStringS.l0 kq l0 x3_1 x4_1 = some r) ∧ Aside0 (kq ≤ k) ∧ Aside0 (Kd.R Kd.string 9 w' w.heap.size (fun _ => True) v102 x3_1) ∧ Aside0 (Below w.heap.size w w'))
  case atStart => exact ⟨(y101), (0), zq7, H', ⟨Nat.le_refl _⟩, ⟨zq5 HO103⟩, ⟨zq1⟩⟩
  clear H'
  try clear c2
  try clear c2b0
  try clear c2b1
  try clear c3
  try clear c3b0
  try clear c3b1
  obtain ⟨x3_1, x4_1, rfl, HA, HK1, HO_3, HB⟩ := hrel
  cases gk with
  | zero => exact absurd HA.out (by simp [laws_toStringS.l0])
  | succ k1 =>
  have H := HA.out
  clear HA
  simp only [laws_toStringS.l0] at H
  by_cases c6 : x4_1 < (l0.length : Int)
  rotate_left
  · rw [if_neg c6] at H
    have c6b0 : decide (x4_1 < (l0.length : Int)) = false := decide_eq_false c6
    clear c6
    obtain rfl := Option.some.inj H
    go_wp2
    go_ret
    exact ⟨_, zq8, zq5 HO_3, zq1⟩
  rw [if_pos c6] at H
  have c6b0 : decide (x4_1 < (l0.length : Int)) = true := decide_eq_true c6
  clear c6
  by_cases c7 : 0 ≤ x4_1
  rotate_left
  · rw [if_neg c7] at H
    exact absurd H (by simp)
  rw [if_pos c7] at H
  have c7b0 : decide (0 ≤ x4_1) = true := decide_eq_true c7
  clear c7
  by_cases c8 : x4_1 < (x3_1.length : Int)
  rotate_left
  · rw [if_neg c8] at H
    exact absurd H (by simp)
  rw [if_pos c8] at H
  have c8b0 : decide (x4_1 < (x3_1.length : Int)) = true := decide_eq_true c8
  clear c8
  obtain ⟨y105, hy105⟩ : ∃ y_ : List ByteArray, y_ = (x3_1.set (x4_1 : Int).toNat (rdOf ByteArray.empty l0 x4_1)) := ⟨_, rfl⟩
  replace H : (laws_toStringS.l0 k1 l0 y105 (wrap64 (x4_1 + 1))) = some r := by first | (rw [hy105]; with_reducible exact H) | (have H2_ := (Option.bind_some _ _).symm.trans H; rw [hy105]; with_reducible exact H2_) | (have H2_ := (Option.bind_some _ _).symm.trans H; with_reducible exact H2_) | with_reducible exact H | (rw [hy105]; exact H) | exact H
  have Ny105 := Aside0.mk hy105
  clear hy105
  have H' := Aside0.mk H
  clear H
  have p104 : 0 ≤ (x4_1 : Int) := of_decide_eq_true zq4
  have q104 : x4_1 < (l0.length : Int) := of_decide_eq_true zq4
  obtain ⟨ad104, e104, hx104_0⟩ := Kd.at_string HR0.out x4_1 p104 q104
  cases e104
  replace hx104_0 := (HB.out.cell (World.block_lt_of_cell? w _ hx104_0)).trans hx104_0
  replace p104 := eq_true p104
  replace q104 := eq_true q104
  have p9 : 0 ≤ (x4_1 : Int) := of_decide_eq_true zq4
  have q9 : (x4_1 : Int) < ((x3_1.length : Int) : Int) := of_decide_eq_true zq4
  obtain ⟨go9, co9, eo9, gb9, gl9, cl9, HG9⟩ := Kd.R_form HO_3.out (by omega)
  (first | cases eo9 | (injection eo9 with ea_ en_ ec_; (first | subst ea_ | (injection ea_ with ea_; subst ea_)); subst ec_; clear en_))
  have GB9 := Aside0.mk gb9
  have GG9 := Aside0.mk HG9
  clear gb9 gl9 HG9
  obtain ⟨hx9_0, hf9_0⟩ := Kd.R_celln (⟨#[]⟩ : ByteArray) HO_3.out (x4_1 : Int) p9 q9
  replace p9 := eq_true p9
  replace q9 := eq_true q9
  have HP10 := Kd.R_putg HO_3.out (x4_1 : Int) (rdOf ByteArray.empty l0 x4_1)
  go_wp2_with (first | ((with_reducible refine zgs 9 20 ?_); refine store_event (t := 9) (p := 20) (v := ?vo_w11) (w1 := (wr.setCell ⟨go9, (x4_1 : Int).toNat, none⟩ (.string (rdOf ByteArray.empty l0 x4_1)))) ?hg ?ho ?hn ?hr ?_; (case ho => rfl); (case hg => rfl); (case hn => rfl); (case hr => first | (go_simp; done) | (go_simp; rfl)); intro w11 hw; have hg : wr.grownBy w11 (some go9) := (by rw [hw]; exact HP10.2); have hp_ : Kd.R Kd.string 9 w11 w.heap.size (fun _ => True) (.slice (some ⟨go9, 0, none⟩) x3_1.length co9) y105 := (by rw [hw, Ny105.out]; exact HP10.1); clear HP10; replace HO_3 := Aside0.mk (hp_); replace HB := Aside0.mk ((zq53 GB9 : Below w.heap.size w w11)); clear hg hw hp_))
  go_roundg k1
  case measure => have := HK1.out; omega
  case rel => exact ⟨(y105), (wrap64 (x4_1 + 1)), zq7, H', ⟨zq36 HK1⟩, ⟨zq5 HO_3⟩, ⟨zq1⟩⟩
end Go.Proofs.Ytnaafcleafbejaa.Q
end
section
namespace Go.Proofs.Ytnaafcleafbejaa.Q
open Go.RowKit Go.Proofs.YtnaafcleafbejaaW.PrintWords Go.Proofs.YtnaafcleafbejaaW.PrintLast Go.Proofs.YtnaafcleafbejaaW.PrintMore
set_option maxHeartbeats 8000000
set_option maxRecDepth 100000
attribute [local go_sem] max2_int min2_int max_two min_two max_three min_three max_four min_four
set_option linter.unusedVariables false
set_option linter.unusedSimpArgs false
def laws_toChoice.f (k : Nat) (l0_0 : List ByteArray) (l0_1 : List Int) : Option (List ByteArray × List Int) := (laws_toStringS.f k l0_0).bind fun t104 => ((laws_toIntS.f k l0_1).bind fun t107 => (some (t104, t107)))
theorem laws_toChoice.mono : ∀ a0 a1 k, LeO (laws_toChoice.f k a0 a1) (laws_toChoice.f (k + 1) a0 a1) := by
  intro a0 a1 k
  unfold laws_toChoice.f
  repeat' first
      | (with_reducible exact laws_toIntS.mono _ _)
      | (with_reducible exact laws_toStringS.mono _ _)
      | (with_reducible exact LeO.refl _)
      | (with_reducible exact LeO.none _)
      | (with_reducible refine LeO.ite ?_ ?_)
      | (with_reducible refine LeO.bind ?_ (fun _ => ?_))
      | exact laws_toIntS.mono _ _
      | exact laws_toStringS.mono _ _
      | exact LeO.none _
      | refine LeO.ite ?_ ?_
      | refine LeO.bind ?_ (fun _ => ?_)
theorem laws_toChoice.calls (k : Nat) (A0_0 : Option Addr) (c0_0 : Nat) (l0_0 : List ByteArray) (A0_1 : Option Addr) (c0_1 : Nat) (l0_1 : List Int) (r1 : List ByteArray) (r2 : List Int) (w : World) (hr0_0 : Kd.C Kd.string w A0_0 l0_0.length l0_0) (hc0_0 : l0_0.length ≤ c0_0) (hr0_1 : Kd.C (Kd.int .i64) w A0_1 l0_1.length l0_1) (hc0_1 : l0_1.length ≤ c0_1) (h : laws_toChoice.f k l0_0 l0_1 = some (r1, r2)) :
    Calls Try.prog 11 #[.agg #[.slice A0_0 l0_0.length c0_0, .slice A0_1 l0_1.length c0_1]] w fun e w' => ∃ v0_ v1_ : Value, e = .returned (.agg #[v0_, v1_]) ∧ Kd.R Kd.string 9 w' w.heap.size (fun _ => True) v0_ r1 ∧ Kd.R (Kd.int .i64) 3 w' w.heap.size (fun _ => True) v1_ r2 ∧ Below w.heap.size w w' := by
  have hu26 := Try.underlying26
  have hu35 := Try.underlying35
  have HR0_0 := Aside0.mk hr0_0
  have HC0_0 := Aside0.mk hc0_0
  clear hr0_0 hc0_0
  have HR0_1 := Aside0.mk hr0_1
  have HC0_1 := Aside0.mk hc0_1
  clear hr0_1 hc0_1
  have HB := Aside0.mk (Below.refl w.heap.size w)
  have H : ((laws_toStringS.f k l0_0).bind fun t104 => ((laws_toIntS.f k l0_1).bind fun t107 => (some (t104, t107)))) = some (r1, r2) := h
  clear h
  replace H := Option.bind_eq_some_iff.mp H
  obtain ⟨t104, A20, H⟩ := H
  replace H : ((laws_toIntS.f k l0_1).bind fun t107 => (some (t104, t107))) = some (r1, r2) := H
  have A2 := Aside0.mk A20
  clear A20
  replace H := Option.bind_eq_some_iff.mp H
  obtain ⟨t107, A30, H⟩ := H
  replace H : (some (t104, t107)) = some (r1, r2) := H
  have A3 := Aside0.mk A30
  clear A30
  simp only [Option.some.injEq, Prod.mk.injEq] at H
  obtain ⟨rfl, rfl⟩ := H
  go_enter Try.func11, Try.ntmps11
  go_wp2_with (first | ((with_reducible refine zgd 1 ?_); refine box_event ?hg (N := 1) ?hd (cs := #[.slice A0_0 l0_0.length c0_0, .slice A0_1 l0_1.length c0_1]) (t := 26) ?hr ?_; (case hd => rfl); (case hg => rfl); (case hr => first | (go_simp; done) | (go_simp; rfl)); intro gb101 hg w4 hbox hb; have BK101 := Aside0.mk (hbox); have GW101 := Aside0.mk ((zq11 : w.heap.size ≤ gb101)); have GE101 := Aside0.mk ((zq11 : w.heap.size ≤ gb101)); replace HB := Aside0.mk (below_step zq1 hb); clear hb hbox hg) | ((with_reducible refine zgd 2 ?_); refine box_event ?hg (N := 2) ?hd (cs := #[.slice none 0 0, .slice none 0 0]) (t := 35) ?hr ?_; (case hd => rfl); (case hg => rfl); (case hr => first | (go_simp; done) | (go_simp; rfl)); intro gb102 hg w5 hbox hb; have BK102 := Aside0.mk (hbox); have GW102 := Aside0.mk ((zq24 : w.heap.size ≤ gb102)); have GE102 := Aside0.mk ((zq24 : w.heap.size ≤ gb102)); replace HB := Aside0.mk (below_step (zq2 GE101) hb); have NB101_102 := Aside0.mk ((zq41 : gb101 ≠ gb102)); have NB102_101 := Aside0.mk ((zq42 : gb102 ≠ gb101)); replace BK101 := Aside0.mk (blk_below (g := gb101) (o := .cells #[.slice A0_0 l0_0.length c0_0, .slice A0_1 l0_1.length c0_1] 26 (0, 0)) (zq3 BK101) hb); clear hb hbox hg) | ((with_reducible refine zgd 3 ?_); refine box_event ?hg (N := 3) ?hd (cs := #[.slice none 0 0, .slice none 0 0]) (t := 35) ?hr ?_; (case hd => rfl); (case hg => rfl); (case hr => first | (go_simp; done) | (go_simp; rfl)); intro gb103 hg w6 hbox hb; have BK103 := Aside0.mk (hbox); have GW103 := Aside0.mk ((by rw [hg]; exact (below_size (zq6 GE101 GE102)) : w.heap.size ≤ gb103)); have GE103 := Aside0.mk ((by rw [hg]; exact (below_size (zq6 GE101 GE102)) : w.heap.size ≤ gb103)); replace HB := Aside0.mk (below_step (zq6 GE101 GE102) hb); have NB101_103 := Aside0.mk ((zq41 : gb101 ≠ gb103)); have NB103_101 := Aside0.mk ((zq42 : gb103 ≠ gb101)); replace BK101 := Aside0.mk (blk_below (g := gb101) (o := .cells #[.slice A0_0 l0_0.length c0_0, .slice A0_1 l0_1.length c0_1] 26 (0, 0)) (zq3 BK101) hb); have NB102_103 := Aside0.mk ((by rw [hg]; exact Nat.ne_of_lt (blk_lt (g := gb102) (o := .cells #[.slice none 0 0, .slice none 0 0] 35 (0, 0)) (zq3 BK102)) : gb102 ≠ gb103)); have NB103_102 := Aside0.mk ((by rw [hg]; exact Nat.ne_of_gt (blk_lt (g := gb102) (o := .cells #[.slice none 0 0, .slice none 0 0] 35 (0, 0)) (zq3 BK102)) : gb103 ≠ gb102)); replace BK102 := Aside0.mk (blk_below (g := gb102) (o := .cells #[.slice none 0 0, .slice none 0 0] 35 (0, 0)) (zq3 BK102) hb); clear hb hbox hg; have hnb7 := NB101_102.out; have hnc7 := NB102_101.out; have hnb8 := NB101_103.out; have hnc8 := NB103_101.out; have hcz9_0 : w6.cell? ⟨gb101, 0, none⟩ = some (.slice A0_0 l0_0.length c0_0) := (blk_cell BK101.out 0).trans rfl; have hcz9_1 : w6.cell? ⟨gb101, 1, none⟩ = some (.slice A0_1 l0_1.length c0_1) := (blk_cell BK101.out 1).trans rfl; have hfz9_0 := blk_frozen BK101.out 0; have hfz9_1 := blk_frozen BK101.out 1) | ((with_reducible refine zgc 30 ?_); refine zca 6 Try.func30 #[.slice A0_0 l0_0.length c0_0] (laws_toStringS.calls k _ _ l0_0 t104 _ (zq9 HR0_0) HC0_0.out A2.out) ?_; rintro e w10 ⟨v105, rfl, ho0, hb⟩; refine ⟨_, rfl, ?_⟩; have HO106 := Aside0.mk (Kd.R_lower ho0 (below_size (zq19 GE101 GE102 GE103))); replace BK101 := Aside0.mk (blk_below (g := gb101) (o := .cells #[.slice A0_0 l0_0.length c0_0, .slice A0_1 l0_1.length c0_1] 26 (0, 0)) (zq3 BK101) hb); replace BK102 := Aside0.mk (blk_below (g := gb102) (o := .cells #[.slice none 0 0, .slice none 0 0] 35 (0, 0)) (zq3 BK102) hb); replace BK103 := Aside0.mk (blk_below (g := gb103) (o := .cells #[.slice none 0 0, .slice none 0 0] 35 (0, 0)) (zq3 BK103) hb); replace HB := Aside0.mk (below_step (zq19 GE101 GE102 GE103) hb); (try clear hb); (try clear ho0); obtain ⟨Ao11, co11, eo11⟩ := Kd.R_slice HO106.out; subst eo11; have hnb12 := NB103_102.out; have hnc12 := NB102_103.out; have hcz13_0 : w10.cell? ⟨gb103, 0, none⟩ = some (.slice none 0 0) := (blk_cell BK103.out 0).trans rfl; have hcz13_1 : w10.cell? ⟨gb103, 1, none⟩ = some (.slice none 0 0) := (blk_cell BK103.out 1).trans rfl; have hfz13_0 := blk_frozen BK103.out 0; have hfz13_1 := blk_frozen BK103.out 1; have hcz14_0 : w10.cell? ⟨gb101, 0, none⟩ = some (.slice A0_0 l0_0.length c0_0) := (blk_cell BK101.out 0).trans rfl; have hcz14_1 : w10.cell? ⟨gb101, 1, none⟩ = some (.slice A0_1 l0_1.length c0_1) := (blk_cell BK101.out 1).trans rfl; have hfz14_0 := blk_frozen BK101.out 0; have hfz14_1 := blk_frozen BK101.out 1) | ((with_reducible refine zgc 31 ?_); refine zca 10 Try.func31 #[.slice A0_1 l0_1.length c0_1] (laws_toIntS.calls k _ _ l0_1 t107 _ (by exact Kd.C_below HR0_1.out (zq19 GE101 GE102 GE103)) HC0_1.out A3.out) ?_; rintro e w15 ⟨v108, rfl, ho0, hb⟩; refine ⟨_, rfl, ?_⟩; replace HO106 := Aside0.mk (Kd.R_below (by (with_reducible repeat (first | apply Kd.R_alloc | apply Kd.R_drewN | apply Kd.R_drew)); exact (Kd.R_mono (Kd.R_far (p := ⟨gb103, 0, none⟩) (Kd.R_types HO106.out BK103.out (by decide)) (fun _ hk => hk.2) (.slice Ao11 t104.length co11)) (fun _ h_ => h_.1))) hb); have HO109 := Aside0.mk (Kd.R_lower ho0 (below_size (zq19 GE101 GE102 GE103))); replace BK101 := Aside0.mk (blk_below (g := gb101) (o := .cells #[.slice A0_0 l0_0.length c0_0, .slice A0_1 l0_1.length c0_1] 26 (0, 0)) (zq50 NB101_103 BK101) hb); replace BK102 := Aside0.mk (blk_below (g := gb102) (o := .cells #[.slice none 0 0, .slice none 0 0] 35 (0, 0)) (zq50 NB102_103 BK102) hb); replace BK103 := Aside0.mk (blk_below (g := gb103) (o := .cells #[.slice Ao11 t104.length co11, .slice none 0 0] 35 (0, 0)) (by (with_reducible repeat (first | refine blk_drewN ?_ _ | refine blk_drew ?_ | refine blk_alloc ?_ _)); refine blk_put (cs := #[.slice none 0 0, .slice none 0 0]) ?_ 0 _ rfl; (with_reducible repeat (first | refine blk_drewN ?_ _ | refine blk_drew ?_ | refine blk_alloc ?_ _)); exact BK103.out) hb); replace HB := Aside0.mk (below_step (zq19 GE101 GE102 GE103) hb); (try clear hb); (try clear hk); (try clear ho0); obtain ⟨Ao16, co16, eo16⟩ := Kd.R_slice HO109.out; subst eo16; have hcz17_0 : w15.cell? ⟨gb103, 0, none⟩ = some (.slice Ao11 t104.length co11) := (blk_cell BK103.out 0).trans rfl; have hcz17_1 : w15.cell? ⟨gb103, 1, none⟩ = some (.slice none 0 0) := (blk_cell BK103.out 1).trans rfl; have hfz17_0 := blk_frozen BK103.out 0; have hfz17_1 := blk_frozen BK103.out 1; have hcz18_0 : w15.cell? ⟨gb102, 0, none⟩ = some (.slice none 0 0) := (blk_cell BK102.out 0).trans rfl; have hcz18_1 : w15.cell? ⟨gb102, 1, none⟩ = some (.slice none 0 0) := (blk_cell BK102.out 1).trans rfl; have hfz18_0 := blk_frozen BK102.out 0; have hfz18_1 := blk_frozen BK102.out 1))
  refine bodyPost_ret (results_cell_row rfl _ _ gb102 35 #[.slice Ao11 t104.length co11, .slice Ao16 t107.length co16] (0, 0) _ rfl (by (with_reducible repeat (first | refine blk_drewN ?_ _ | refine blk_drew ?_ | refine blk_alloc ?_ _)); refine blk_put (cs := #[.slice Ao11 t104.length co11, .slice none 0 0]) ?_ 1 _ rfl; (with_reducible repeat (first | refine blk_drewN ?_ _ | refine blk_drew ?_ | refine blk_alloc ?_ _)); refine blk_put (cs := #[.slice none 0 0, .slice none 0 0]) ?_ 0 _ rfl; (with_reducible repeat (first | refine blk_drewN ?_ _ | refine blk_drew ?_ | refine blk_alloc ?_ _)); refine blk_far ?_ NB102_103.out _; (with_reducible repeat (first | refine blk_drewN ?_ _ | refine blk_drew ?_ | refine blk_alloc ?_ _)); exact BK102.out) Try.underlying35 rfl zq27) rfl ?_
  exact ⟨_, _, zq8, zq32 HO106 BK103 BK102, zq32 HO109 BK103 BK102, zq19 GE101 GE102 GE103⟩
end Go.Proofs.Ytnaafcleafbejaa.Q
end
section
namespace Go.Proofs.Ytnaafcleafbejaa.Q
open Go.RowKit Go.Proofs.YtnaafcleafbejaaW.PrintWords Go.Proofs.YtnaafcleafbejaaW.PrintLast Go.Proofs.YtnaafcleafbejaaW.PrintMore
set_option maxHeartbeats 8000000
set_option maxRecDepth 100000
attribute [local go_sem] max2_int min2_int max_two min_two max_three min_three max_four min_four
set_option linter.unusedVariables false
set_option linter.unusedSimpArgs false
def spec_l1In.f (a0 : Int) (a1 : Int) (a2 : Int) : Option (Bool) := if a0 ≥ a1 then (some (decide (a0 ≤ a2))) else (some false)
theorem spec_l1In.calls (a0 : Int) (a1 : Int) (a2 : Int) (r : Bool) (w : World) (h : spec_l1In.f a0 a1 a2 = some r) :
    Calls Try.prog 46 #[.int .i64 a0, .int .i64 a1, .int .i64 a2] w fun e w' => e = .returned (.bool r) ∧ Drawn0 w w' := by
  have H : (if a0 ≥ a1 then (some (decide (a0 ≤ a2))) else (some false)) = some r := h
  clear h
  by_cases c4 : a0 ≥ a1
  · rw [if_pos c4] at H
    have c4b0 : decide (a1 ≤ a0) = true := decide_eq_true c4
    clear c4
    obtain rfl := Option.some.inj H
    go_enter Try.func46, Try.ntmps46
    exact zr_1
  · rw [if_neg c4] at H
    have c4b0 : decide (a1 ≤ a0) = false := decide_eq_false c4
    clear c4
    obtain rfl := Option.some.inj H
    go_enter Try.func46, Try.ntmps46
    exact zr_1
end Go.Proofs.Ytnaafcleafbejaa.Q
end
