/- Proved here: contracts of functions that the law FnExactPlainSymbol reaches, and lemmas on what they compute; texts of this session and the printed words of the kit that they lean on, cut down and put together by its program link.py. Conditions: as each states. -/
import Derived.Carry
import Derived.Deep.Slices
import Derived.ProofKit
import Derived.Test.YtkfkbmlbpeojaaaZFnExactPlainSymbol1
import Derived.Test.YtkfkbmlbpeojaaaZFnExactPlainSymbol2
import Derived.Test.YtkfkbmlbpeojaaaZFnExactPlainSymbol3
import Derived.Test.YtkfkbmlbpeojaaaZFnExactPlainSymbol4
section
namespace Go.Proofs.Ytkfkbmlbpeojaaa.Q
open Go.RowKit Go.Proofs.YtkfkbmlbpeojaaaW.PrintWords Go.Proofs.YtkfkbmlbpeojaaaW.PrintLast Go.Proofs.YtkfkbmlbpeojaaaW.PrintMore
attribute [local go_sem] zcs zct zdo zdp zb2 zb3 zcu zcv
set_option linter.unusedVariables false
set_option linter.unusedSimpArgs false
mutual
def zaj : Nat → List (S72) → List Int → List (S94) → Int → Int → Option ((List (S72)) × List Int)
 | 0, _, _, _, _, _ => none
 | k + 1, x4, x5, x15, x16, x17 => if x17 < x16 then (if 0 ≤ x17 then (if x17 < (x15.length : Int) then (if ((zaa x15 x17).f0).toList = ([115, 101, 116] : List UInt8) then ((zbl x4 (⟨#[99, 111, 110, 115, 116]⟩ : ByteArray) 0 0 ((zaa x15 x17).f4)).bind fun bt110 => (if 0 ≤ ((zaa x15 x17).f1) then (if ((zaa x15 x17).f1) < (x5.length : Int) then (zaj k bt110.1 (x5.set (((zaa x15 x17).f1) : Int).toNat bt110.2) x15 x16 (wrap64 (x17 + 1))) else (none)) else (none))) else (if ((zaa x15 x17).f0).toList = ([109, 111, 118] : List UInt8) then (if 0 ≤ ((zaa x15 x17).f2) then (if ((zaa x15 x17).f2) < (x5.length : Int) then (if 0 ≤ ((zaa x15 x17).f1) then (if ((zaa x15 x17).f1) < (x5.length : Int) then (zaj k x4 (x5.set (((zaa x15 x17).f1) : Int).toNat (rd x5 ((zaa x15 x17).f2))) x15 x16 (wrap64 (x17 + 1))) else (none)) else (none)) else (none)) else (none)) else (if ((zaa x15 x17).f0).toList = ([97, 100, 100, 105] : List UInt8) then (za8 k x4 x5 x15 x16 x17 ((zaa x15 x17).f0) (((zaa x15 x17).f0).toList == ([97, 100, 100, 105] : List UInt8)) ((zaa x15 x17).f0) ((zaa x15 x17).f1) ((zaa x15 x17).f2) ((zaa x15 x17).f3) ((zaa x15 x17).f4) (⟨#[99, 111, 110, 115, 116]⟩ : ByteArray) 0 0 ((zaa x15 x17).f4)) else (if ((zaa x15 x17).f0).toList = ([97, 110, 100, 105] : List UInt8) then (za8 k x4 x5 x15 x16 x17 ((zaa x15 x17).f0) (((zaa x15 x17).f0).toList == ([97, 110, 100, 105] : List UInt8)) ((zaa x15 x17).f0) ((zaa x15 x17).f1) ((zaa x15 x17).f2) ((zaa x15 x17).f3) ((zaa x15 x17).f4) (⟨#[99, 111, 110, 115, 116]⟩ : ByteArray) 0 0 ((zaa x15 x17).f4)) else (if ((zaa x15 x17).f0).toList = ([120, 111, 114, 105] : List UInt8) then (za8 k x4 x5 x15 x16 x17 ((zaa x15 x17).f0) (((zaa x15 x17).f0).toList == ([120, 111, 114, 105] : List UInt8)) ((zaa x15 x17).f0) ((zaa x15 x17).f1) ((zaa x15 x17).f2) ((zaa x15 x17).f3) ((zaa x15 x17).f4) (⟨#[99, 111, 110, 115, 116]⟩ : ByteArray) 0 0 ((zaa x15 x17).f4)) else (if ((zaa x15 x17).f0).toList = ([115, 104, 108, 105] : List UInt8) then (za8 k x4 x5 x15 x16 x17 ((zaa x15 x17).f0) (((zaa x15 x17).f0).toList == ([115, 104, 108, 105] : List UInt8)) ((zaa x15 x17).f0) ((zaa x15 x17).f1) ((zaa x15 x17).f2) ((zaa x15 x17).f3) ((zaa x15 x17).f4) (⟨#[99, 111, 110, 115, 116]⟩ : ByteArray) 0 0 ((zaa x15 x17).f4)) else (za8 k x4 x5 x15 x16 x17 ((zaa x15 x17).f0) (((zaa x15 x17).f0).toList == ([115, 104, 114, 105] : List UInt8)) ((zaa x15 x17).f0) ((zaa x15 x17).f1) ((zaa x15 x17).f2) ((zaa x15 x17).f3) ((zaa x15 x17).f4) (⟨#[99, 111, 110, 115, 116]⟩ : ByteArray) 0 0 ((zaa x15 x17).f4)))))))) else (none)) else (none)) else (some (x4, x5))
def za8 : Nat → List (S72) → List Int → List (S94) → Int → Int → ByteArray → Bool → ByteArray → Int → Int → Int → Int → ByteArray → Int → Int → Int → Option ((List (S72)) × List Int)
 | 0, _, _, _, _, _, _, _, _, _, _, _, _, _, _, _, _ => none
 | k + 1, x4, x5, x15, x16, x17, x25, x59, x109000, x109001, x109002, x109003, x109004, x110000, x110001, x110002, x110003 => if x59 = true then ((zbl x4 x110000 x110001 x110002 x110003).bind fun bt117 => (if 0 ≤ (wrap64 ((x109000.size : Int) - 1)) then (if (wrap64 ((x109000.size : Int) - 1)) ≤ (x109000.size : Int) then (if 0 ≤ x109002 then (if x109002 < (x5.length : Int) then ((zbl bt117.1 (x109000.extract 0 ((wrap64 ((x109000.size : Int) - 1)) : Int).toNat) (rd x5 x109002) bt117.2 0).bind fun bt122 => (if 0 ≤ x109001 then (if x109001 < (x5.length : Int) then (zaj k bt122.1 (x5.set (x109001 : Int).toNat bt122.2) x15 x16 (wrap64 (x17 + 1))) else (none)) else (none))) else (none)) else (none)) else (none)) else (none))) else (if x25.toList = ([108, 101, 97] : List UInt8) then ((zbl x4 x110000 x110001 x110002 x110003).bind fun bt127 => (if 0 ≤ x109003 then (if x109003 < (x5.length : Int) then ((zbl bt127.1 (⟨#[115, 104, 108]⟩ : ByteArray) (rd x5 x109003) bt127.2 0).bind fun bt132 => (if 0 ≤ x109002 then (if x109002 < (x5.length : Int) then ((zbl bt132.1 (⟨#[97, 100, 100]⟩ : ByteArray) (rd x5 x109002) bt132.2 0).bind fun bt137 => (if 0 ≤ x109001 then (if x109001 < (x5.length : Int) then (zaj k bt137.1 (x5.set (x109001 : Int).toNat bt137.2) x15 x16 (wrap64 (x17 + 1))) else (none)) else (none))) else (none)) else (none))) else (none)) else (none))) else (if x25.toList = ([110, 111, 116] : List UInt8) then (zbr k x4 x5 x15 x16 x17 (x25.toList == ([110, 111, 116] : List UInt8)) x109000 x109001 x109002 x109003 x109004) else (zbr k x4 x5 x15 x16 x17 (x25.toList == ([110, 101, 103] : List UInt8)) x109000 x109001 x109002 x109003 x109004)))
def zbr : Nat → List (S72) → List Int → List (S94) → Int → Int → Bool → ByteArray → Int → Int → Int → Int → Option ((List (S72)) × List Int)
 | 0, _, _, _, _, _, _, _, _, _, _, _ => none
 | k + 1, x4, x5, x15, x16, x17, x122, x109000, x109001, x109002, x109003, x109004 => if x122 = true then (if 0 ≤ x109002 then (if x109002 < (x5.length : Int) then ((zbl x4 x109000 (rd x5 x109002) 0 0).bind fun bt143 => (if 0 ≤ x109001 then (if x109001 < (x5.length : Int) then (zaj k bt143.1 (x5.set (x109001 : Int).toNat bt143.2) x15 x16 (wrap64 (x17 + 1))) else (none)) else (none))) else (none)) else (none)) else (if 0 ≤ x109002 then (if x109002 < (x5.length : Int) then (if 0 ≤ x109003 then (if x109003 < (x5.length : Int) then ((zbl x4 x109000 (rd x5 x109002) (rd x5 x109003) 0).bind fun bt150 => (if 0 ≤ x109001 then (if x109001 < (x5.length : Int) then (zaj k bt150.1 (x5.set (x109001 : Int).toNat bt150.2) x15 x16 (wrap64 (x17 + 1))) else (none)) else (none))) else (none)) else (none)) else (none)) else (none))
end
def zem (k : Nat) (l0 : List (S94)) : Option ((List (S72)) × List Int) := zaj k (([(⟨(⟨#[105, 110]⟩ : ByteArray), 0, 0, 0⟩ : S72), (⟨(⟨#[105, 110]⟩ : ByteArray), 0, 0, 1⟩ : S72), (⟨(⟨#[99, 111, 110, 115, 116]⟩ : ByteArray), 0, 0, 0⟩ : S72)] : List (S72))) (([0, 1, 2, 2, 2, 2] : List Int)) l0 (l0.length : Int) 0
theorem zhr : ∀ k, (∀ y0 y1 y2 y3 y4, LeO (zaj k y0 y1 y2 y3 y4) (zaj (k + 1) y0 y1 y2 y3 y4)) ∧ (∀ y0 y1 y2 y3 y4 y5 y6 y7 y8 y9 y10 y11 y12 y13 y14 y15, LeO (za8 k y0 y1 y2 y3 y4 y5 y6 y7 y8 y9 y10 y11 y12 y13 y14 y15) (za8 (k + 1) y0 y1 y2 y3 y4 y5 y6 y7 y8 y9 y10 y11 y12 y13 y14 y15)) ∧ (∀ y0 y1 y2 y3 y4 y5 y6 y7 y8 y9 y10, LeO (zbr k y0 y1 y2 y3 y4 y5 y6 y7 y8 y9 y10) (zbr (k + 1) y0 y1 y2 y3 y4 y5 y6 y7 y8 y9 y10))
 | 0 => ⟨fun _ _ _ _ _ r h => by simp [zaj] at h, fun _ _ _ _ _ _ _ _ _ _ _ _ _ _ _ _ r h => by simp [za8] at h, fun _ _ _ _ _ _ _ _ _ _ _ r h => by simp [zbr] at h⟩
 | k + 1 => by
   obtain ⟨ih0, ih1, ih2⟩ := zhr k
   refine ⟨?_, ?_, ?_⟩
   · intro y0 y1 y2 y3 y4
     unfold zaj
     exact zm3 ih0 ih1 ih2
   · intro y0 y1 y2 y3 y4 y5 y6 y7 y8 y9 y10 y11 y12 y13 y14 y15
     unfold za8
     exact zm3 ih0 ih1 ih2
   · intro y0 y1 y2 y3 y4 y5 y6 y7 y8 y9 y10
     unfold zbr
     exact zm3 ih0 ih1 ih2
theorem zlp : ∀ a0 k, LeO (zem k a0) (zem (k + 1) a0) := by
 intro a0 k
 obtain ⟨ih0, ih1, ih2⟩ := zhr k
 unfold zem
 exact zm3 ih0 ih1 ih2
def spec_vaSymbols.T9 : Bool × List (List Nat × List Nat) := (true, [([], []), ([], []), ([1], [1]), ([], []), ([], []), ([4], [4]), ([3, 5], [3, 5]), ([6], [6]), ([], []), ([], []), ([9], [9]), ([8, 10], [8, 10]), ([11], [11]), ([2, 7, 12], [2, 7, 12]), ([0, 13], [0, 13]), ([14], [14]), ([15], [15]), ([15], [15]), ([16, 14, 0, 1, 2, 3, 4, 5, 6, 7, 8, 9, 10, 11, 12, 13, 14, 15, 16], [0, 16]), ([17, 18, 0, 1, 2, 3, 4, 5, 6, 7, 8, 9, 10, 11, 12, 13, 14, 15, 16, 17, 18], [17])])
def zng : List Nat := [0, 0, 2, 0, 0, 16, 56, 120, 0, 0, 512, 1792, 3840, 8190, 16383, 32767, 65535, 65535, 131071, 524287]
theorem zls : rtab .any (ztz Try.f113 9) = spec_vaSymbols.T9 := by kernel_rfl
theorem zk4 : zim spec_vaSymbols.T9.2 zng = true := by kernel_rfl
def spec_vaSymbols.T20 : Bool × List (List Nat × List Nat) := (true, [([], []), ([], []), ([1], [1]), ([], []), ([3], [3]), ([4], [4]), ([5], [5]), ([2, 6], [2, 6]), ([], []), ([], []), ([9], [9]), ([8, 10], [8, 10]), ([11], [11]), ([], []), ([7, 12, 13], [7, 12, 13]), ([0, 14], [0, 14]), ([15], [15]), ([16], [16]), ([16], [16]), ([17, 15, 0, 1, 2, 3, 4, 5, 6, 7, 8, 9, 10, 11, 12, 13, 14, 15, 16, 17], [0, 17]), ([18, 19, 0, 1, 2, 3, 4, 5, 6, 7, 8, 9, 10, 11, 12, 13, 14, 15, 16, 17, 18, 19], [13, 18])])
def zma : List Nat := [0, 0, 2, 0, 8, 24, 56, 126, 0, 0, 512, 1792, 3840, 0, 16382, 32767, 65535, 131071, 131071, 262143, 1048575]
theorem zk5 : rtab .any (ztz Try.f113 20) = spec_vaSymbols.T20 := by kernel_rfl
theorem zkq : zim spec_vaSymbols.T20.2 zma = true := by kernel_rfl
def spec_vaSymbols.T27 : Bool × List (List Nat × List Nat) := (true, [([], []), ([], []), ([1], [1]), ([], []), ([], []), ([4], [4]), ([3, 5], [3, 5]), ([6], [6]), ([2, 7], [2, 7]), ([0, 8], [0, 8]), ([9], [9]), ([10], [10]), ([10], [10]), ([11, 9, 0, 1, 2, 3, 4, 5, 6, 7, 8, 9, 10, 11], [0, 11]), ([12, 13, 0, 1, 2, 3, 4, 5, 6, 7, 8, 9, 10, 11, 12, 13], [12])])
def zmb : List Nat := [0, 0, 2, 0, 0, 16, 56, 120, 254, 511, 1023, 2047, 2047, 4095, 16383]
theorem zk6 : rtab .any (ztz Try.f113 27) = spec_vaSymbols.T27 := by kernel_rfl
theorem zkr : zim spec_vaSymbols.T27.2 zmb = true := by kernel_rfl
set_option maxHeartbeats 8000000 in
set_option maxRecDepth 100000 in
theorem zk7 (k : Nat) (A0 : Option Addr) (c0 : Nat) (l0 : List (S94)) (r1 : List (S72)) (r2 : List Int) (w : World) (hr0 : Kd.C k94 w A0 l0.length l0) (hc0 : l0.length ≤ c0) (h : zem k l0 = some (r1, r2)) :
   Calls Try.prog 113 #[.slice A0 l0.length c0] w fun e w' => ∃ v0_ v1_ : Value, e = .returned (.tuple #[v0_, v1_]) ∧ Kd.R k72 72 w' w.heap.size (fun _ => True) v0_ r1 ∧ Kd.R (Kd.int .i64) 3 w' w.heap.size (fun _ => True) v1_ r2 ∧ Below w.heap.size w w' := by
 have hu72 := Try.underlying72
 have hu94 := Try.underlying94
 have HR0 := zA hr0
 have HC0 := zA hc0
 clear hr0 hc0
 have HB := zA (Below.refl w.heap.size w)
 have H : (zaj k (([(⟨(⟨#[105, 110]⟩ : ByteArray), 0, 0, 0⟩ : S72), (⟨(⟨#[105, 110]⟩ : ByteArray), 0, 0, 1⟩ : S72), (⟨(⟨#[99, 111, 110, 115, 116]⟩ : ByteArray), 0, 0, 0⟩ : S72)] : List (S72))) (([0, 1, 2, 2, 2, 2] : List Int)) l0 (l0.length : Int) 0) = some (r1, r2) := h
 clear h
 obtain ⟨y101, hy101⟩ : ∃ y_ : List (S72), y_ = (([(⟨(⟨#[105, 110]⟩ : ByteArray), 0, 0, 0⟩ : S72), (⟨(⟨#[105, 110]⟩ : ByteArray), 0, 0, 1⟩ : S72), (⟨(⟨#[99, 111, 110, 115, 116]⟩ : ByteArray), 0, 0, 0⟩ : S72)] : List (S72))) := ⟨_, rfl⟩
 replace H : (zaj k y101 (([0, 1, 2, 2, 2, 2] : List Int)) l0 (l0.length : Int) 0) = some (r1, r2) := by first | (rw [hy101]; with_reducible exact H) | (have H2_ := (Option.bind_some _ _).symm.trans H; rw [hy101]; with_reducible exact H2_) | (have H2_ := (Option.bind_some _ _).symm.trans H; with_reducible exact H2_) | with_reducible exact H | (rw [hy101]; exact H) | exact H
 have Ny101 := zA hy101
 clear hy101
 obtain ⟨y104, hy104⟩ : ∃ y_ : List Int, y_ = (([0, 1, 2, 2, 2, 2] : List Int)) := ⟨_, rfl⟩
 replace H : (zaj k y101 y104 l0 (l0.length : Int) 0) = some (r1, r2) := by first | (rw [hy104]; with_reducible exact H) | (have H2_ := (Option.bind_some _ _).symm.trans H; rw [hy104]; with_reducible exact H2_) | (have H2_ := (Option.bind_some _ _).symm.trans H; with_reducible exact H2_) | with_reducible exact H | (rw [hy104]; exact H) | exact H
 have Ny104 := zA hy104
 clear hy104
 have H' := zA H
 clear H
 go_enter Try.func113, Try.ntmps113
 go_wp2_with (first | ((with_reducible refine zgd 13 ?_); refine Kd.R_lit k72 _ 72 ?hg (N := 13) ?hd (xs := ([(⟨(⟨#[105, 110]⟩ : ByteArray), 0, 0, 0⟩ : S72), (⟨(⟨#[105, 110]⟩ : ByteArray), 0, 0, 1⟩ : S72), (⟨(⟨#[99, 111, 110, 115, 116]⟩ : ByteArray), 0, 0, 0⟩ : S72)] : List (S72))) (inner := [.string (⟨#[105, 110]⟩ : ByteArray), .int .i64 0, .int .i64 0, .int .i64 0, .string (⟨#[105, 110]⟩ : ByteArray), .int .i64 0, .int .i64 0, .int .i64 1, .string (⟨#[99, 111, 110, 115, 116]⟩ : ByteArray), .int .i64 0, .int .i64 0, .int .i64 0]) (ok := fun _ => True) (okp := fun _ => True) ?hr ?hp (fun _ hk => hk) trivial (Below.refl _ _) (zlr _) (by simp) ?_; (case hd => rfl); (case hg => rfl); (case hr => go_simp <;> rfl); (case hp => exact (zo0 (show Kd.M k72 _ _ _ (⟨(⟨#[105, 110]⟩ : ByteArray), 0, 0, 0⟩ : S72) [.string (⟨#[105, 110]⟩ : ByteArray), .int .i64 0, .int .i64 0, .int .i64 0] from (ze2 _ _ _ (⟨(⟨#[105, 110]⟩ : ByteArray), 0, 0, 0⟩ : S72) )) (zo0 (show Kd.M k72 _ _ _ (⟨(⟨#[105, 110]⟩ : ByteArray), 0, 0, 1⟩ : S72) [.string (⟨#[105, 110]⟩ : ByteArray), .int .i64 0, .int .i64 0, .int .i64 1] from (ze2 _ _ _ (⟨(⟨#[105, 110]⟩ : ByteArray), 0, 0, 1⟩ : S72) )) (zo0 (show Kd.M k72 _ _ _ (⟨(⟨#[99, 111, 110, 115, 116]⟩ : ByteArray), 0, 0, 0⟩ : S72) [.string (⟨#[99, 111, 110, 115, 116]⟩ : ByteArray), .int .i64 0, .int .i64 0, .int .i64 0] from (ze2 _ _ _ (⟨(⟨#[99, 111, 110, 115, 116]⟩ : ByteArray), 0, 0, 0⟩ : S72) )) (Reps.none _ _))))); intro v102 w2 ho3 hb hg_ hnew_; clear hg_ hnew_; (first | rw [← Ny101.out] at ho3 | (simp only [Int.reduceToNat] at ho3; rw [← Ny101.out] at ho3)); have HO103 := zA (Kd.R_lower ho3 (zar zq1)); replace HB := zA (zad zq1 hb); clear hb ho3) | ((with_reducible refine zgd 14 ?_); refine Kd.R_lit (Kd.int .i64) _ 3 ?hg (N := 14) ?hd (xs := ([0, 1, 2, 2, 2, 2] : List Int)) (inner := [.int .i64 0, .int .i64 1, .int .i64 2, .int .i64 2, .int .i64 2, .int .i64 2]) (ok := fun _ => True) (okp := fun _ => True) ?hr ?hp (fun _ hk => hk) trivial (Below.refl _ _) (zlr _) (by simp) ?_; (case hd => rfl); (case hg => rfl); (case hr => go_simp <;> rfl); (case hp => exact (zau (show Kd.M (Kd.int .i64) _ _ _ 0 [.int .i64 0] from rfl) (zau (show Kd.M (Kd.int .i64) _ _ _ 1 [.int .i64 1] from rfl) (zau (show Kd.M (Kd.int .i64) _ _ _ 2 [.int .i64 2] from rfl) (zau (show Kd.M (Kd.int .i64) _ _ _ 2 [.int .i64 2] from rfl) (zau (show Kd.M (Kd.int .i64) _ _ _ 2 [.int .i64 2] from rfl) (zau (show Kd.M (Kd.int .i64) _ _ _ 2 [.int .i64 2] from rfl) (Reps.none _ _)))))))); intro v105 w4 ho5 hb hg_ hnew_; clear hg_ hnew_; (first | rw [← Ny104.out] at ho5 | (simp only [Int.reduceToNat] at ho5; rw [← Ny104.out] at ho5)); replace HO103 := zA (zRb (zq3 HO103) hb); have HO106 := zA (Kd.R_lower ho5 (zar zq1)); replace HB := zA (zad zq1 hb); clear hb ho5))
 go_loopg [4, 17] k (fun kq v4 v17 w' => ∃ (x4_1 : List (S72)) (x5_1 : List Int) (x17_1 : Int), v17 = .int .i64 x17_1 ∧ Aside0 (zaj kq x4_1 x5_1 l0 (l0.length : Int) x17_1 = some (r1, r2)) ∧ Aside0 (kq ≤ k) ∧ Aside0 (Kd.R k72 72 w' w.heap.size (fun _ => True) v4 x4_1) ∧ Aside0 (Kd.R (Kd.int .i64) 3 w' w.heap.size (fun _ => True) v105 x5_1) ∧ Aside0 (Below w.heap.size w w'))
 case atStart => exact ⟨(y101), (y104), (0), zq6, H', ⟨zlr _⟩, ⟨zq3 HO103⟩, ⟨zq3 HO106⟩, ⟨zq1⟩⟩
 clear H'
 try clear c1
 try clear p2
 try clear c4
 obtain ⟨x4_1, x5_1, x17_1, rfl, HA, HK1, HO_4, HO_5, HB⟩ := hrel
 cases gk with
 | zero => exact absurd HA.out (by simp [zaj])
 | succ k1 =>
 have H := HA.out
 clear HA
 simp only [zaj] at H
 revert H
 refine zit (fun c6 H => ?_) fun c6 H => ?_
 rotate_left
 · simp only [Option.some.injEq, Prod.mk.injEq] at H
   obtain ⟨rfl, rfl⟩ := H
   go_wp2
   go_ret2
   exact ⟨_, _, zq4, zq3 HO_4, zq3 HO_5, zq1⟩
 revert H
 refine zin fun c7 H => ?_
 revert H
 refine zin fun c8 H => ?_
 by_cases c9 : ((zaa l0 x17_1).f0).toList = ([115, 101, 116] : List UInt8)
 · rw [if_pos c9] at H
   have c9b0 := beq_iff_eq.mpr c9
   have c9b1 := bne_eq_false_iff_eq.mpr c9
   clear c9
   replace H := zob H
   obtain ⟨⟨t110, t113⟩, A100, H⟩ := H
   replace H : (if 0 ≤ ((zaa l0 x17_1).f1) then (if ((zaa l0 x17_1).f1) < (x5_1.length : Int) then (zaj k1 t110 (x5_1.set (((zaa l0 x17_1).f1) : Int).toNat t113) l0 (l0.length : Int) (wrap64 (x17_1 + 1))) else (none)) else (none)) = some (r1, r2) := H
   have A10 := zA A100
   clear A100
   revert H
   refine zin fun c11 H => ?_
   revert H
   refine zin fun c12 H => ?_
   obtain ⟨y114, hy114⟩ : ∃ y_ : List Int, y_ = (x5_1.set (((zaa l0 x17_1).f1) : Int).toNat t113) := ⟨_, rfl⟩
   replace H : (zaj k1 t110 y114 l0 (l0.length : Int) (wrap64 (x17_1 + 1))) = some (r1, r2) := by first | (rw [hy114]; with_reducible exact H) | (have H2_ := (Option.bind_some _ _).symm.trans H; rw [hy114]; with_reducible exact H2_) | (have H2_ := (Option.bind_some _ _).symm.trans H; with_reducible exact H2_) | with_reducible exact H | (rw [hy114]; exact H) | exact H
   have Ny114 := zA hy114
   clear hy114
   have H' := zA H
   clear H
   have p107 : 0 ≤ (x17_1 : Int) := zde zq16
   have q107 : x17_1 < (l0.length : Int) := zde zq16
   obtain ⟨ad107, e107, hx107_0, hx107_1, hx107_2, hx107_3, hx107_4⟩ := zj2 HR0.out x17_1 p107 q107
   cases e107
   replace hx107_0 := zkep HB.out hx107_0
   replace hx107_1 := zkep HB.out hx107_1
   replace hx107_2 := zkep HB.out hx107_2
   replace hx107_3 := zkep HB.out hx107_3
   replace hx107_4 := zkep HB.out hx107_4
   replace p107 := eq_true p107
   replace q107 := eq_true q107
   go_wp2_with (first | ((with_reducible refine zgd 7 ?_); refine zbx #[.string (⟨#[]⟩ : ByteArray), .int .i64 0, .int .i64 0, .int .i64 0, .int .i64 0] 94 ?_; intro gb108 hg w14 hbox hb; have zs := zpair zq1 hb; replace HO_4 := zA (zRb (zq3 HO_4) hb); replace HO_5 := zA (zRb (zq3 HO_5) hb); replace HB := zA (zs.1); have BK108 := zA (hbox); have GW108 := zA (zge hg zs.2); have GE108 := GW108; clear zs hb hbox hg; obtain ⟨hcz15_0, hcz15_1, hcz15_2, hcz15_3, hcz15_4⟩ := zc5 w14 (.string (⟨#[]⟩ : ByteArray)) (.int .i64 0) (.int .i64 0) (.int .i64 0) (.int .i64 0) BK108.out; obtain ⟨hfz15_0, hfz15_1, hfz15_2, hfz15_3, hfz15_4⟩ := zf5 BK108.out) | ((with_reducible refine zgd 8 ?_); refine zbx #[.string (⟨#[]⟩ : ByteArray), .int .i64 0, .int .i64 0, .int .i64 0] 72 ?_; intro gb109 hg w16 hbox hb; have zs := zpair (zq2 GE108) hb; replace HO_4 := zA (zRb (Kd.R_elderB (zq15 HO_4 BK108) gb109 (Nat.le_of_eq hg.symm)) hb); replace HO_5 := zA (zRb (zq15 HO_5 BK108) hb); replace HB := zA (zs.1); have BK109 := zA (hbox); have GW109 := zA (zge hg zs.2); have GE109 := GW109; have NB108_109 := zA ((zq13 BK108 : gb108 ≠ gb109)); have NB109_108 := zA ((zq14 BK108 : gb109 ≠ gb108)); replace BK108 := zA (zaf (g := gb108) (o := .cells #[.string ((zaa l0 x17_1).f0), .int .i64 ((zaa l0 x17_1).f1), .int .i64 ((zaa l0 x17_1).f2), .int .i64 ((zaa l0 x17_1).f3), .int .i64 ((zaa l0 x17_1).f4)] 94 (0, 0)) (zq19 BK108) hb); clear zs hb hbox hg; have hnb17 := NB109_108.out; have hnc17 := NB108_109.out; obtain ⟨hcz18_0, hcz18_1, hcz18_2, hcz18_3⟩ := zc4 w16 (.string (⟨#[]⟩ : ByteArray)) (.int .i64 0) (.int .i64 0) (.int .i64 0) BK109.out; obtain ⟨hfz18_0, hfz18_1, hfz18_2, hfz18_3⟩ := zf4 BK109.out) | ((with_reducible refine zgs 72 8 ?_); refine zse ((((w16.setCell ⟨gb109, 0, none⟩ (.string (⟨#[99, 111, 110, 115, 116]⟩ : ByteArray))).setCell ⟨gb109, 1, none⟩ (.int .i64 0)).setCell ⟨gb109, 2, none⟩ (.int .i64 0)).setCell ⟨gb109, 3, none⟩ (.int .i64 ((zaa l0 x17_1).f4))) ?_; intro w19 hw; have n0_ : Aside0 (Kd.R k72 72 w19 w.heap.size (fun k_ => k_ ≠ gb109) u4 x4_1) := ⟨(by rw [hw]; exact (zq12 HO_4))⟩; have n1_ : Aside0 (Kd.R (Kd.int .i64) 3 w19 w.heap.size (fun _ => True) v105 x5_1) := ⟨(by rw [hw]; exact (zq17 HO_5 BK109))⟩; have n2_ : Aside0 (w19.heap[gb108]? = some (.cells #[.string ((zaa l0 x17_1).f0), .int .i64 ((zaa l0 x17_1).f1), .int .i64 ((zaa l0 x17_1).f2), .int .i64 ((zaa l0 x17_1).f3), .int .i64 ((zaa l0 x17_1).f4)] 94 (0, 0))) := ⟨(by rw [hw]; exact (zq11 NB108_109 BK108))⟩; have n3_ : Aside0 (w19.heap[gb109]? = some (.cells #[.string (⟨#[99, 111, 110, 115, 116]⟩ : ByteArray), .int .i64 0, .int .i64 0, .int .i64 ((zaa l0 x17_1).f4)] 72 (0, 0))) := ⟨(by rw [hw]; exact (zq8 BK109))⟩; have n4_ : Aside0 (Below w.heap.size w w19) := ⟨(by rw [hw]; exact (zq10 GE108 GE109))⟩; clear hw; clear HO_4 HO_5; clear BK108 BK109 HB; have HO_4 := n0_; have HO_5 := n1_; have BK108 := n2_; have BK109 := n3_; have HB := n4_; clear n0_ n1_ n2_ n3_ n4_; obtain ⟨hcz20_0, hcz20_1, hcz20_2, hcz20_3, hcz20_4⟩ := zc5 w19 (.string ((zaa l0 x17_1).f0)) (.int .i64 ((zaa l0 x17_1).f1)) (.int .i64 ((zaa l0 x17_1).f2)) (.int .i64 ((zaa l0 x17_1).f3)) (.int .i64 ((zaa l0 x17_1).f4)) BK108.out; obtain ⟨hfz20_0, hfz20_1, hfz20_2, hfz20_3, hfz20_4⟩ := zf5 BK108.out; obtain ⟨hcz21_0, hcz21_1, hcz21_2, hcz21_3⟩ := zc4 w19 (.string (⟨#[99, 111, 110, 115, 116]⟩ : ByteArray)) (.int .i64 0) (.int .i64 0) (.int .i64 ((zaa l0 x17_1).f4)) BK109.out; obtain ⟨hfz21_0, hfz21_1, hfz21_2, hfz21_3⟩ := zf4 BK109.out; obtain ⟨Ao22, co22, eo22⟩ := Kd.R_slice HO_4.out; subst eo22) | ((with_reducible refine zax (f := 164) rfl ?_); refine zdu (some 49) rfl rfl Try.func164 zq23 rfl #[.slice Ao22 x4_1.length co22, .agg #[.string (⟨#[99, 111, 110, 115, 116]⟩ : ByteArray), .int .i64 0, .int .i64 0, .int .i64 ((zaa l0 x17_1).f4)]] rfl zq9 ?_; (with_reducible refine (zdx (fun k_ => some k_ = (.slice Ao22 x4_1.length co22 : Value).ownBlock) (.slice Ao22 x4_1.length co22) x4_1 (⟨#[99, 111, 110, 115, 116]⟩ : ByteArray) 0 0 ((zaa l0 x17_1).f4) t110 t113 w _ ?side1 ?side2 A10.out).mono ?_); (case side1 => repeat (first | (with_reducible first | exact HB.out | apply zba | apply zbn | apply zbd | refine zae ?_ GE108.out | refine zae ?_ GE109.out) | exact HB.out)); (case side2 => exact Kd.R_tight rfl HO_4.out); rintro e w23 ⟨v111, rfl, ho0, hb, hkp⟩; refine ⟨_, rfl, ?_⟩; replace HO_5 := zA (Kd.R_mono (ok' := fun k_ => True) (Kd.R_keptB ((Kd.R_apart' HO_5.out (Kd.R_typed HO_4.out) (by decide))) hkp (fun k_ hk_ hs_ => (hk_.2) hs_)) (fun k_ hk_ => trivial)); replace BK108 := zA (zfh (zq5 BK108) hkp (fun hs_ => (fun e_ => (Kd.R_ne HO_4.out BK108.out (by decide)) e_) hs_)); have HO112 := zA (Kd.R_mono (ok' := fun k_ => k_ ≠ gb109) ho0 (fun k_ hk_ => Or.elim hk_ (fun hs_ => fun e_ => (Kd.R_away HO_4.out (fun _ hk => hk)) zq48) (fun hn_ => (Kd.freshB (g := gb109) (o := .cells #[.string (⟨#[99, 111, 110, 115, 116]⟩ : ByteArray), .int .i64 0, .int .i64 0, .int .i64 ((zaa l0 x17_1).f4)] 72 (0, 0)) (zq5 BK109) k_ hn_)))); replace BK109 := zA (zfh (zq5 BK109) hkp (fun hs_ => (fun e_ => (Kd.R_away HO_4.out (fun _ hk => hk)) e_) hs_)); replace HB := zA (hb); clear HO_4; (try clear hb); (try clear hkp); (try clear ho0); obtain ⟨hcz24_0, hcz24_1, hcz24_2, hcz24_3, hcz24_4⟩ := zc5 w23 (.string ((zaa l0 x17_1).f0)) (.int .i64 ((zaa l0 x17_1).f1)) (.int .i64 ((zaa l0 x17_1).f2)) (.int .i64 ((zaa l0 x17_1).f3)) (.int .i64 ((zaa l0 x17_1).f4)) BK108.out; obtain ⟨hfz24_0, hfz24_1, hfz24_2, hfz24_3, hfz24_4⟩ := zf5 BK108.out; have p13 : 0 ≤ (((zaa l0 x17_1).f1) : Int) := zde zq16; have q13 : (((zaa l0 x17_1).f1) : Int) < ((x5_1.length : Int) : Int) := zde zq16; obtain ⟨go13, co13, eo13, gb13, gl13, cl13, HG13⟩ := Kd.R_form HO_5.out (by omega); (first | cases eo13 | (injection eo13 with ea_ en_ ec_; (first | subst ea_ | (injection ea_ with ea_; subst ea_)); subst ec_; clear en_)); have GB13 := zA gb13; have GG13 := zA HG13; clear gb13 gl13 HG13; obtain ⟨hx13_0, hf13_0⟩ := Kd.R_celln 0 HO_5.out (((zaa l0 x17_1).f1) : Int) p13 q13; replace p13 := eq_true p13; replace q13 := eq_true q13; obtain ⟨hy25_, hz25_⟩ := Kd.R_celln 0 HO_5.out (((zaa l0 x17_1).f1) : Int) (zde zq16) (zde zq16); have HP25 := Kd.R_putg HO_5.out (((zaa l0 x17_1).f1) : Int) t113) | ((with_reducible refine zgs 3 142 ?_); refine zse (w23.setCell ⟨go13, (((zaa l0 x17_1).f1) : Int).toNat, none⟩ (.int .i64 t113)) ?_; intro w26 hw; have hg : w23.grownBy w26 (some go13) := (by rw [hw]; exact HP25.2); have hp_ : Kd.R (Kd.int .i64) 3 w26 w.heap.size (fun _ => True) (.slice (some ⟨go13, 0, none⟩) x5_1.length co13) y114 := (by rw [hw, Ny114.out]; exact HP25.1); clear HP25; replace BK108 := zA (zed (g := gb108) (o := .cells #[.string ((zaa l0 x17_1).f0), .int .i64 ((zaa l0 x17_1).f1), .int .i64 ((zaa l0 x17_1).f2), .int .i64 ((zaa l0 x17_1).f3), .int .i64 ((zaa l0 x17_1).f4)] 94 (0, 0)) (zq5 BK108) hg (Kd.R_ne HO_5.out BK108.out (by decide))); replace BK109 := zA (zed (g := gb109) (o := .cells #[.string (⟨#[99, 111, 110, 115, 116]⟩ : ByteArray), .int .i64 0, .int .i64 0, .int .i64 ((zaa l0 x17_1).f4)] 72 (0, 0)) (zq5 BK109) hg (Kd.R_ne HO_5.out BK109.out (by decide))); replace HO112 := zA (Kd.R_over' (v := (.slice (some ⟨go13, 0, none⟩) x5_1.length co13)) (zq3 HO112) (Kd.R_typed HO_5.out) (by decide) hg); replace HO_5 := zA (hp_); replace HB := zA ((zq32 GB13 : Below w.heap.size w w26)); clear hg hw hp_))
   go_roundg k1
   case measure => have := HK1.out; omega
   case rel => exact ⟨(t110), (y114), (wrap64 (x17_1 + 1)), zq6, H', ⟨zq38 HK1⟩, ⟨zq27 HO112⟩, ⟨zq3 HO_5⟩, ⟨zq10 GE108 GE109⟩⟩
 rw [if_neg c9] at H
 have c9b0 := beq_eq_false_iff_ne.mpr c9
 have c9b1 := bne_iff_ne.mpr c9
 by_cases c27 : ((zaa l0 x17_1).f0).toList = ([109, 111, 118] : List UInt8)
 · rw [if_pos c27] at H
   have c27b0 := beq_iff_eq.mpr c27
   have c27b1 := bne_eq_false_iff_eq.mpr c27
   clear c27
   revert H
   refine zin fun c28 H => ?_
   revert H
   refine zin fun c29 H => ?_
   revert H
   refine zin fun c30 H => ?_
   revert H
   refine zin fun c31 H => ?_
   obtain ⟨y116, hy116⟩ : ∃ y_ : List Int, y_ = (x5_1.set (((zaa l0 x17_1).f1) : Int).toNat (rd x5_1 ((zaa l0 x17_1).f2))) := ⟨_, rfl⟩
   replace H : (zaj k1 x4_1 y116 l0 (l0.length : Int) (wrap64 (x17_1 + 1))) = some (r1, r2) := by first | (rw [hy116]; with_reducible exact H) | (have H2_ := (Option.bind_some _ _).symm.trans H; rw [hy116]; with_reducible exact H2_) | (have H2_ := (Option.bind_some _ _).symm.trans H; with_reducible exact H2_) | with_reducible exact H | (rw [hy116]; exact H) | exact H
   have Ny116 := zA hy116
   clear hy116
   have H' := zA H
   clear H
   have p107 : 0 ≤ (x17_1 : Int) := zde zq16
   have q107 : x17_1 < (l0.length : Int) := zde zq16
   obtain ⟨ad107, e107, hx107_0, hx107_1, hx107_2, hx107_3, hx107_4⟩ := zj2 HR0.out x17_1 p107 q107
   cases e107
   replace hx107_0 := zkep HB.out hx107_0
   replace hx107_1 := zkep HB.out hx107_1
   replace hx107_2 := zkep HB.out hx107_2
   replace hx107_3 := zkep HB.out hx107_3
   replace hx107_4 := zkep HB.out hx107_4
   replace p107 := eq_true p107
   replace q107 := eq_true q107
   go_wp2_with (first | ((with_reducible refine zgd 7 ?_); refine zbx #[.string (⟨#[]⟩ : ByteArray), .int .i64 0, .int .i64 0, .int .i64 0, .int .i64 0] 94 ?_; intro gb108 hg w33 hbox hb; have zs := zpair zq1 hb; replace HO_4 := zA (zRb (zq3 HO_4) hb); replace HO_5 := zA (zRb (zq3 HO_5) hb); replace HB := zA (zs.1); have BK108 := zA (hbox); have GW108 := zA (zge hg zs.2); have GE108 := GW108; clear zs hb hbox hg; obtain ⟨hcz34_0, hcz34_1, hcz34_2, hcz34_3, hcz34_4⟩ := zc5 w33 (.string (⟨#[]⟩ : ByteArray)) (.int .i64 0) (.int .i64 0) (.int .i64 0) (.int .i64 0) BK108.out; obtain ⟨hfz34_0, hfz34_1, hfz34_2, hfz34_3, hfz34_4⟩ := zf5 BK108.out) | ((with_reducible refine zgd 8 ?_); refine zbx #[.string (⟨#[]⟩ : ByteArray), .int .i64 0, .int .i64 0, .int .i64 0] 72 ?_; intro gb109 hg w35 hbox hb; have zs := zpair (zq2 GE108) hb; replace HO_4 := zA (zRb (Kd.R_elderB (zq15 HO_4 BK108) gb109 (Nat.le_of_eq hg.symm)) hb); replace HO_5 := zA (zRb (zq15 HO_5 BK108) hb); replace HB := zA (zs.1); have BK109 := zA (hbox); have GW109 := zA (zge hg zs.2); have GE109 := GW109; have NB108_109 := zA ((zq13 BK108 : gb108 ≠ gb109)); have NB109_108 := zA ((zq14 BK108 : gb109 ≠ gb108)); replace BK108 := zA (zaf (g := gb108) (o := .cells #[.string ((zaa l0 x17_1).f0), .int .i64 ((zaa l0 x17_1).f1), .int .i64 ((zaa l0 x17_1).f2), .int .i64 ((zaa l0 x17_1).f3), .int .i64 ((zaa l0 x17_1).f4)] 94 (0, 0)) (zq19 BK108) hb); clear zs hb hbox hg; have hnb36 := NB109_108.out; have hnc36 := NB108_109.out; obtain ⟨hcz37_0, hcz37_1, hcz37_2, hcz37_3⟩ := zc4 w35 (.string (⟨#[]⟩ : ByteArray)) (.int .i64 0) (.int .i64 0) (.int .i64 0) BK109.out; obtain ⟨hfz37_0, hfz37_1, hfz37_2, hfz37_3⟩ := zf4 BK109.out) | ((with_reducible refine zgs 72 8 ?_); refine zse ((((w35.setCell ⟨gb109, 0, none⟩ (.string (⟨#[99, 111, 110, 115, 116]⟩ : ByteArray))).setCell ⟨gb109, 1, none⟩ (.int .i64 0)).setCell ⟨gb109, 2, none⟩ (.int .i64 0)).setCell ⟨gb109, 3, none⟩ (.int .i64 ((zaa l0 x17_1).f4))) ?_; intro w38 hw; have n0_ : Aside0 (Kd.R k72 72 w38 w.heap.size (fun k_ => k_ ≠ gb109) u4 x4_1) := ⟨(by rw [hw]; exact (zq12 HO_4))⟩; have n1_ : Aside0 (Kd.R (Kd.int .i64) 3 w38 w.heap.size (fun _ => True) v105 x5_1) := ⟨(by rw [hw]; exact (zq17 HO_5 BK109))⟩; have n2_ : Aside0 (w38.heap[gb108]? = some (.cells #[.string ((zaa l0 x17_1).f0), .int .i64 ((zaa l0 x17_1).f1), .int .i64 ((zaa l0 x17_1).f2), .int .i64 ((zaa l0 x17_1).f3), .int .i64 ((zaa l0 x17_1).f4)] 94 (0, 0))) := ⟨(by rw [hw]; exact (zq11 NB108_109 BK108))⟩; have n3_ : Aside0 (w38.heap[gb109]? = some (.cells #[.string (⟨#[99, 111, 110, 115, 116]⟩ : ByteArray), .int .i64 0, .int .i64 0, .int .i64 ((zaa l0 x17_1).f4)] 72 (0, 0))) := ⟨(by rw [hw]; exact (zq8 BK109))⟩; have n4_ : Aside0 (Below w.heap.size w w38) := ⟨(by rw [hw]; exact (zq10 GE108 GE109))⟩; clear hw; clear HO_4 HO_5; clear BK108 BK109 HB; have HO_4 := n0_; have HO_5 := n1_; have BK108 := n2_; have BK109 := n3_; have HB := n4_; clear n0_ n1_ n2_ n3_ n4_; obtain ⟨hcz39_0, hcz39_1, hcz39_2, hcz39_3, hcz39_4⟩ := zc5 w38 (.string ((zaa l0 x17_1).f0)) (.int .i64 ((zaa l0 x17_1).f1)) (.int .i64 ((zaa l0 x17_1).f2)) (.int .i64 ((zaa l0 x17_1).f3)) (.int .i64 ((zaa l0 x17_1).f4)) BK108.out; obtain ⟨hfz39_0, hfz39_1, hfz39_2, hfz39_3, hfz39_4⟩ := zf5 BK108.out; obtain ⟨Ao40, co40, eo40⟩ := Kd.R_slice HO_5.out; subst eo40; have p115 : 0 ≤ (((zaa l0 x17_1).f2) : Int) := zde zq16; have q115 : ((zaa l0 x17_1).f2) < (x5_1.length : Int) := zde zq16; obtain ⟨ad115, e115, hx115_0⟩ := Kd.at_int (zRr HO_5.out).2.2 ((zaa l0 x17_1).f2) p115 q115; cases e115; replace p115 := eq_true p115; replace q115 := eq_true q115; have p32 : 0 ≤ (((zaa l0 x17_1).f1) : Int) := zde zq16; have q32 : (((zaa l0 x17_1).f1) : Int) < ((x5_1.length : Int) : Int) := zde zq16; obtain ⟨go32, co32, eo32, gb32, gl32, cl32, HG32⟩ := Kd.R_form HO_5.out (by omega); (first | cases eo32 | (injection eo32 with ea_ en_ ec_; (first | subst ea_ | (injection ea_ with ea_; subst ea_)); subst ec_; clear en_)); have GB32 := zA gb32; have GG32 := zA HG32; clear gb32 gl32 HG32; (first | simp only [zcw] at hx115_0 | skip); obtain ⟨hx32_0, hf32_0⟩ := Kd.R_celln 0 HO_5.out (((zaa l0 x17_1).f1) : Int) p32 q32; replace p32 := eq_true p32; replace q32 := eq_true q32; obtain ⟨hy41_, hz41_⟩ := Kd.R_celln 0 HO_5.out (((zaa l0 x17_1).f1) : Int) (zde zq16) (zde zq16); have HP41 := Kd.R_putg HO_5.out (((zaa l0 x17_1).f1) : Int) (rd x5_1 ((zaa l0 x17_1).f2))) | ((with_reducible refine zgs 3 142 ?_); refine zse (w38.setCell ⟨go32, (((zaa l0 x17_1).f1) : Int).toNat, none⟩ (.int .i64 (rd x5_1 ((zaa l0 x17_1).f2)))) ?_; intro w42 hw; have hg : w38.grownBy w42 (some go32) := (by rw [hw]; exact HP41.2); have hp_ : Kd.R (Kd.int .i64) 3 w42 w.heap.size (fun _ => True) (.slice (some ⟨go32, 0, none⟩) x5_1.length co40) y116 := (by rw [hw, Ny116.out]; exact HP41.1); clear HP41; replace HO_4 := zA (Kd.R_over' (v := (.slice (some ⟨go32, 0, none⟩) x5_1.length co40)) (zq3 HO_4) (Kd.R_typed HO_5.out) (by decide) hg); replace BK108 := zA (zed (g := gb108) (o := .cells #[.string ((zaa l0 x17_1).f0), .int .i64 ((zaa l0 x17_1).f1), .int .i64 ((zaa l0 x17_1).f2), .int .i64 ((zaa l0 x17_1).f3), .int .i64 ((zaa l0 x17_1).f4)] 94 (0, 0)) (zq5 BK108) hg (Kd.R_ne HO_5.out BK108.out (by decide))); replace BK109 := zA (zed (g := gb109) (o := .cells #[.string (⟨#[99, 111, 110, 115, 116]⟩ : ByteArray), .int .i64 0, .int .i64 0, .int .i64 ((zaa l0 x17_1).f4)] 72 (0, 0)) (zq5 BK109) hg (Kd.R_ne HO_5.out BK109.out (by decide))); replace HO_5 := zA (hp_); replace HB := zA ((zq32 GB32 : Below w.heap.size w w42)); clear hg hw hp_))
   go_roundg k1
   case measure => have := HK1.out; omega
   case rel => exact ⟨(x4_1), (y116), (wrap64 (x17_1 + 1)), zq6, H', ⟨zq38 HK1⟩, ⟨zq27 HO_4⟩, ⟨zq3 HO_5⟩, ⟨zq10 GE108 GE109⟩⟩
 rw [if_neg c27] at H
 have c27b0 := beq_eq_false_iff_ne.mpr c27
 have c27b1 := bne_iff_ne.mpr c27
 have HC43 := zA H
 clear H
 have p107 : 0 ≤ (x17_1 : Int) := zde zq16
 have q107 : x17_1 < (l0.length : Int) := zde zq16
 obtain ⟨ad107, e107, hx107_0, hx107_1, hx107_2, hx107_3, hx107_4⟩ := zj2 HR0.out x17_1 p107 q107
 cases e107
 replace hx107_0 := zkep HB.out hx107_0
 replace hx107_1 := zkep HB.out hx107_1
 replace hx107_2 := zkep HB.out hx107_2
 replace hx107_3 := zkep HB.out hx107_3
 replace hx107_4 := zkep HB.out hx107_4
 replace p107 := eq_true p107
 replace q107 := eq_true q107
 go_upto_if 59 with (first | ((with_reducible refine zgd 7 ?_); refine zbx #[.string (⟨#[]⟩ : ByteArray), .int .i64 0, .int .i64 0, .int .i64 0, .int .i64 0] 94 ?_; intro gb108 hg w44 hbox hb; have zs := zpair zq1 hb; replace HO_4 := zA (zRb (zq3 HO_4) hb); replace HO_5 := zA (zRb (zq3 HO_5) hb); replace HB := zA (zs.1); have BK108 := zA (hbox); have GW108 := zA (zge hg zs.2); have GE108 := GW108; clear zs hb hbox hg; obtain ⟨hcz45_0, hcz45_1, hcz45_2, hcz45_3, hcz45_4⟩ := zc5 w44 (.string (⟨#[]⟩ : ByteArray)) (.int .i64 0) (.int .i64 0) (.int .i64 0) (.int .i64 0) BK108.out; obtain ⟨hfz45_0, hfz45_1, hfz45_2, hfz45_3, hfz45_4⟩ := zf5 BK108.out) | ((with_reducible refine zgd 8 ?_); refine zbx #[.string (⟨#[]⟩ : ByteArray), .int .i64 0, .int .i64 0, .int .i64 0] 72 ?_; intro gb109 hg w46 hbox hb; have zs := zpair (zq2 GE108) hb; replace HO_4 := zA (zRb (Kd.R_elderB (zq15 HO_4 BK108) gb109 (Nat.le_of_eq hg.symm)) hb); replace HO_5 := zA (zRb (zq15 HO_5 BK108) hb); replace HB := zA (zs.1); have BK109 := zA (hbox); have GW109 := zA (zge hg zs.2); have GE109 := GW109; have NB108_109 := zA ((zq13 BK108 : gb108 ≠ gb109)); have NB109_108 := zA ((zq14 BK108 : gb109 ≠ gb108)); replace BK108 := zA (zaf (g := gb108) (o := .cells #[.string ((zaa l0 x17_1).f0), .int .i64 ((zaa l0 x17_1).f1), .int .i64 ((zaa l0 x17_1).f2), .int .i64 ((zaa l0 x17_1).f3), .int .i64 ((zaa l0 x17_1).f4)] 94 (0, 0)) (zq19 BK108) hb); clear zs hb hbox hg; have hnb47 := NB109_108.out; have hnc47 := NB108_109.out; obtain ⟨hcz48_0, hcz48_1, hcz48_2, hcz48_3⟩ := zc4 w46 (.string (⟨#[]⟩ : ByteArray)) (.int .i64 0) (.int .i64 0) (.int .i64 0) BK109.out; obtain ⟨hfz48_0, hfz48_1, hfz48_2, hfz48_3⟩ := zf4 BK109.out; obtain ⟨hcz49_0, hcz49_1, hcz49_2, hcz49_3, hcz49_4⟩ := zc5 w46 (.string ((zaa l0 x17_1).f0)) (.int .i64 ((zaa l0 x17_1).f1)) (.int .i64 ((zaa l0 x17_1).f2)) (.int .i64 ((zaa l0 x17_1).f3)) (.int .i64 ((zaa l0 x17_1).f4)) BK108.out; obtain ⟨hfz49_0, hfz49_1, hfz49_2, hfz49_3, hfz49_4⟩ := zf5 BK108.out))
 (try simp only [Act.put, List.setIfInBounds_toArray, List.set_cons_zero, List.set_cons_succ])
 go_cut [59] (fun v59 wc => ∃ (kq : Nat) (x59_42 : Bool), v59 = .bool x59_42 ∧ Aside0 (za8 kq x4_1 x5_1 l0 (l0.length : Int) x17_1 ((zaa l0 x17_1).f0) x59_42 ((zaa l0 x17_1).f0) ((zaa l0 x17_1).f1) ((zaa l0 x17_1).f2) ((zaa l0 x17_1).f3) ((zaa l0 x17_1).f4) (⟨#[99, 111, 110, 115, 116]⟩ : ByteArray) 0 0 ((zaa l0 x17_1).f4) = some (r1, r2)) ∧ Aside0 (kq ≤ k1) ∧ Aside0 (Kd.R k72 72 wc w.heap.size (fun k_ => k_ ≠ gb109) u4 x4_1) ∧ Aside0 (Kd.R (Kd.int .i64) 3 wc w.heap.size (fun _ => True) v105 x5_1) ∧ Aside0 (wc.heap[gb108]? = some (.cells #[.string ((zaa l0 x17_1).f0), .int .i64 ((zaa l0 x17_1).f1), .int .i64 ((zaa l0 x17_1).f2), .int .i64 ((zaa l0 x17_1).f3), .int .i64 ((zaa l0 x17_1).f4)] 94 (0, 0))) ∧ Aside0 (wc.heap[gb109]? = some (.cells #[.string (⟨#[99, 111, 110, 115, 116]⟩ : ByteArray), .int .i64 0, .int .i64 0, .int .i64 ((zaa l0 x17_1).f4)] 72 (0, 0))) ∧ Aside0 (Below w.heap.size w wc))
 case first =>
   have H := HC43.out
   clear HC43
   by_cases c50 : ((zaa l0 x17_1).f0).toList = ([97, 100, 100, 105] : List UInt8)
   · rw [if_pos c50] at H
     have c50b0 := beq_iff_eq.mpr c50
     have c50b1 := bne_eq_false_iff_eq.mpr c50
     clear c50
     (first | rw [c50b0] | (simp only [zfx, zip]; rw [c50b0]) | skip)
     have H' := zA H
     clear H
     go_wp2
     go_meet
     case rel => exact ⟨_, ((((zaa l0 x17_1).f0).toList == ([97, 100, 100, 105] : List UInt8))), zq6, H', ⟨zq34 HK1⟩, ⟨zq12 HO_4⟩, ⟨zq17 HO_5 BK109⟩, ⟨zq11 NB108_109 BK108⟩, ⟨zq8 BK109⟩, ⟨zq10 GE108 GE109⟩⟩
   rw [if_neg c50] at H
   have c50b0 := beq_eq_false_iff_ne.mpr c50
   have c50b1 := bne_iff_ne.mpr c50
   (first | rw [c50b0] | (simp only [zfx, zip]; rw [c50b0]) | skip)
   by_cases c51 : ((zaa l0 x17_1).f0).toList = ([97, 110, 100, 105] : List UInt8)
   · rw [if_pos c51] at H
     have c51b0 := beq_iff_eq.mpr c51
     have c51b1 := bne_eq_false_iff_eq.mpr c51
     clear c51
     have H' := zA H
     clear H
     go_wp2
     go_meet
     case rel => exact ⟨_, ((((zaa l0 x17_1).f0).toList == ([97, 110, 100, 105] : List UInt8))), zq6, H', ⟨zq34 HK1⟩, ⟨zq12 HO_4⟩, ⟨zq17 HO_5 BK109⟩, ⟨zq11 NB108_109 BK108⟩, ⟨zq8 BK109⟩, ⟨zq10 GE108 GE109⟩⟩
   rw [if_neg c51] at H
   have c51b0 := beq_eq_false_iff_ne.mpr c51
   have c51b1 := bne_iff_ne.mpr c51
   by_cases c52 : ((zaa l0 x17_1).f0).toList = ([120, 111, 114, 105] : List UInt8)
   · rw [if_pos c52] at H
     have c52b0 := beq_iff_eq.mpr c52
     have c52b1 := bne_eq_false_iff_eq.mpr c52
     clear c52
     have H' := zA H
     clear H
     go_wp2
     go_meet
     case rel => exact ⟨_, ((((zaa l0 x17_1).f0).toList == ([120, 111, 114, 105] : List UInt8))), zq6, H', ⟨zq34 HK1⟩, ⟨zq12 HO_4⟩, ⟨zq17 HO_5 BK109⟩, ⟨zq11 NB108_109 BK108⟩, ⟨zq8 BK109⟩, ⟨zq10 GE108 GE109⟩⟩
   rw [if_neg c52] at H
   have c52b0 := beq_eq_false_iff_ne.mpr c52
   have c52b1 := bne_iff_ne.mpr c52
   by_cases c53 : ((zaa l0 x17_1).f0).toList = ([115, 104, 108, 105] : List UInt8)
   rotate_left
   · rw [if_neg c53] at H
     have c53b0 := beq_eq_false_iff_ne.mpr c53
     have c53b1 := bne_iff_ne.mpr c53
     have H' := zA H
     clear H
     go_wp2
     go_meet
     case rel => exact ⟨_, ((((zaa l0 x17_1).f0).toList == ([115, 104, 114, 105] : List UInt8))), zq6, H', ⟨zq34 HK1⟩, ⟨zq12 HO_4⟩, ⟨zq17 HO_5 BK109⟩, ⟨zq11 NB108_109 BK108⟩, ⟨zq8 BK109⟩, ⟨zq10 GE108 GE109⟩⟩
   rw [if_pos c53] at H
   have c53b0 := beq_iff_eq.mpr c53
   have c53b1 := bne_eq_false_iff_eq.mpr c53
   clear c53
   have H' := zA H
   clear H
   go_wp2
   go_meet
   case rel => exact ⟨_, ((((zaa l0 x17_1).f0).toList == ([115, 104, 108, 105] : List UInt8))), zq6, H', ⟨zq34 HK1⟩, ⟨zq12 HO_4⟩, ⟨zq17 HO_5 BK109⟩, ⟨zq11 NB108_109 BK108⟩, ⟨zq8 BK109⟩, ⟨zq10 GE108 GE109⟩⟩
 clear HC43
 try clear c1
 try clear p1
 try clear q1
 try clear hx1
 try clear hf1
 try clear c2
 try clear p2
 try clear c3
 try clear p3
 try clear q3
 try clear hx3
 try clear hf3
 try clear c4
 try clear c5
 try clear c6
 try clear c6b0
 try clear p6
 try clear c7
 try clear c7b0
 try clear c8
 try clear c8b0
 try clear c9
 try clear c9b0
 try clear c9b1
 try clear p10
 try clear q10
 try clear hx10
 try clear c11
 try clear c11b0
 try clear p11
 try clear q11
 try clear hx11
 try clear c12
 try clear c12b0
 try clear p13
 try clear q13
 try clear hx13
 try clear hf13
 try clear c16
 try clear c17
 try clear c27
 try clear c27b0
 try clear c27b1
 try clear c28
 try clear c28b0
 try clear c29
 try clear c29b0
 try clear c30
 try clear c30b0
 try clear c31
 try clear c31b0
 try clear p32
 try clear q32
 try clear hx32
 try clear hf32
 try clear c36
 try clear c47
 try clear c50
 try clear c50b0
 try clear c50b1
 try clear c51
 try clear c51b0
 try clear c51b1
 try clear c52
 try clear c52b0
 try clear c52b1
 try clear c53
 try clear c53b0
 try clear c53b1
 try clear hcz15_0
 try clear hcz15_1
 try clear hcz15_2
 try clear hcz15_3
 try clear hcz15_4
 try clear hcz18_0
 try clear hcz18_1
 try clear hcz18_2
 try clear hcz18_3
 try clear hcz20_0
 try clear hcz20_1
 try clear hcz20_2
 try clear hcz20_3
 try clear hcz20_4
 try clear hcz21_0
 try clear hcz21_1
 try clear hcz21_2
 try clear hcz21_3
 try clear hcz24_0
 try clear hcz24_1
 try clear hcz24_2
 try clear hcz24_3
 try clear hcz24_4
 try clear hcz34_0
 try clear hcz34_1
 try clear hcz34_2
 try clear hcz34_3
 try clear hcz34_4
 try clear hcz37_0
 try clear hcz37_1
 try clear hcz37_2
 try clear hcz37_3
 try clear hcz39_0
 try clear hcz39_1
 try clear hcz39_2
 try clear hcz39_3
 try clear hcz39_4
 try clear hcz45_0
 try clear hcz45_1
 try clear hcz45_2
 try clear hcz45_3
 try clear hcz45_4
 try clear hcz48_0
 try clear hcz48_1
 try clear hcz48_2
 try clear hcz48_3
 try clear hcz49_0
 try clear hcz49_1
 try clear hcz49_2
 try clear hcz49_3
 try clear hcz49_4
 try clear hfz15_0
 try clear hfz15_1
 try clear hfz15_2
 try clear hfz15_3
 try clear hfz15_4
 try clear hfz18_0
 try clear hfz18_1
 try clear hfz18_2
 try clear hfz18_3
 try clear hfz20_0
 try clear hfz20_1
 try clear hfz20_2
 try clear hfz20_3
 try clear hfz20_4
 try clear hfz21_0
 try clear hfz21_1
 try clear hfz21_2
 try clear hfz21_3
 try clear hfz24_0
 try clear hfz24_1
 try clear hfz24_2
 try clear hfz24_3
 try clear hfz24_4
 try clear hfz34_0
 try clear hfz34_1
 try clear hfz34_2
 try clear hfz34_3
 try clear hfz34_4
 try clear hfz37_0
 try clear hfz37_1
 try clear hfz37_2
 try clear hfz37_3
 try clear hfz39_0
 try clear hfz39_1
 try clear hfz39_2
 try clear hfz39_3
 try clear hfz39_4
 try clear hfz45_0
 try clear hfz45_1
 try clear hfz45_2
 try clear hfz45_3
 try clear hfz45_4
 try clear hfz48_0
 try clear hfz48_1
 try clear hfz48_2
 try clear hfz48_3
 try clear hfz49_0
 try clear hfz49_1
 try clear hfz49_2
 try clear hfz49_3
 try clear hfz49_4
 try clear hx107_0
 try clear hx107_1
 try clear hx107_2
 try clear hx107_3
 try clear hx107_4
 try clear hx115_0
 try clear hx13_0
 try clear hx32_0
 try clear p107
 try clear p115
 try clear p13
 try clear p2
 try clear p32
 try clear q107
 try clear q115
 try clear q13
 try clear q32
 obtain ⟨kq, x59_42, rfl, HA, HJ42, HO_4, HO_5, BK108, BK109, HB⟩ := hcut
 cases kq with
 | zero => exact absurd HA.out (by simp [za8])
 | succ kj42 =>
 have H := HA.out
 clear HA
 simp only [za8] at H
 by_cases c54 : x59_42 = true
 · subst c54
   replace H : ((zbl x4_1 (⟨#[99, 111, 110, 115, 116]⟩ : ByteArray) 0 0 ((zaa l0 x17_1).f4)).bind fun bt117 => (if 0 ≤ (wrap64 ((((zaa l0 x17_1).f0).size : Int) - 1)) then (if (wrap64 ((((zaa l0 x17_1).f0).size : Int) - 1)) ≤ (((zaa l0 x17_1).f0).size : Int) then (if 0 ≤ ((zaa l0 x17_1).f2) then (if ((zaa l0 x17_1).f2) < (x5_1.length : Int) then ((zbl bt117.1 (((zaa l0 x17_1).f0).extract 0 ((wrap64 ((((zaa l0 x17_1).f0).size : Int) - 1)) : Int).toNat) (rd x5_1 ((zaa l0 x17_1).f2)) bt117.2 0).bind fun bt122 => (if 0 ≤ ((zaa l0 x17_1).f1) then (if ((zaa l0 x17_1).f1) < (x5_1.length : Int) then (zaj kj42 bt122.1 (x5_1.set (((zaa l0 x17_1).f1) : Int).toNat bt122.2) l0 (l0.length : Int) (wrap64 (x17_1 + 1))) else (none)) else (none))) else (none)) else (none)) else (none)) else (none))) = some (r1, r2) := by rw [if_pos rfl] at H; exact H
   replace H := zob H
   obtain ⟨⟨t117, t120⟩, A550, H⟩ := H
   replace H : (if 0 ≤ (wrap64 ((((zaa l0 x17_1).f0).size : Int) - 1)) then (if (wrap64 ((((zaa l0 x17_1).f0).size : Int) - 1)) ≤ (((zaa l0 x17_1).f0).size : Int) then (if 0 ≤ ((zaa l0 x17_1).f2) then (if ((zaa l0 x17_1).f2) < (x5_1.length : Int) then ((zbl t117 (((zaa l0 x17_1).f0).extract 0 ((wrap64 ((((zaa l0 x17_1).f0).size : Int) - 1)) : Int).toNat) (rd x5_1 ((zaa l0 x17_1).f2)) t120 0).bind fun bt122 => (if 0 ≤ ((zaa l0 x17_1).f1) then (if ((zaa l0 x17_1).f1) < (x5_1.length : Int) then (zaj kj42 bt122.1 (x5_1.set (((zaa l0 x17_1).f1) : Int).toNat bt122.2) l0 (l0.length : Int) (wrap64 (x17_1 + 1))) else (none)) else (none))) else (none)) else (none)) else (none)) else (none)) = some (r1, r2) := H
   have A55 := zA A550
   clear A550
   obtain ⟨ji56, hji56⟩ : ∃ j_ : Int, (wrap64 ((((zaa l0 x17_1).f0).size : Int) - 1)) = j_ := ⟨_, rfl⟩
   replace H : (if 0 ≤ (ji56) then (if (ji56) ≤ (((zaa l0 x17_1).f0).size : Int) then (if 0 ≤ ((zaa l0 x17_1).f2) then (if ((zaa l0 x17_1).f2) < (x5_1.length : Int) then ((zbl t117 (((zaa l0 x17_1).f0).extract 0 ((ji56) : Int).toNat) (rd x5_1 ((zaa l0 x17_1).f2)) t120 0).bind fun bt122 => (if 0 ≤ ((zaa l0 x17_1).f1) then (if ((zaa l0 x17_1).f1) < (x5_1.length : Int) then (zaj kj42 bt122.1 (x5_1.set (((zaa l0 x17_1).f1) : Int).toNat bt122.2) l0 (l0.length : Int) (wrap64 (x17_1 + 1))) else (none)) else (none))) else (none)) else (none)) else (none)) else (none)) = some (r1, r2) := by first | (rw [hji56] at H; exact H) | (simp only [hji56] at H ⊢; exact H)
   (try rw [hji56] at A55)
   have hji56w : (IntKind.i64.wrap ((((zaa l0 x17_1).f0).size : Int) - 1)) = ji56 := (zfx _).trans hji56
   by_cases c57 : 0 ≤ (ji56)
   rotate_left
   · rw [if_neg c57] at H
     exact absurd H (by simp)
   rw [if_pos c57] at H
   have c57b0 := eq_true c57
   have c57b1 := zdt c57
   clear c57
   by_cases c58 : (ji56) ≤ (((zaa l0 x17_1).f0).size : Int)
   rotate_left
   · rw [if_neg c58] at H
     exact absurd H (by simp)
   rw [if_pos c58] at H
   have c58b0 := eq_true c58
   have c58b1 := zdt c58
   clear c58
   revert H
   refine zin fun c59 H => ?_
   revert H
   refine zin fun c60 H => ?_
   replace H := zob H
   obtain ⟨⟨t122, t125⟩, A610, H⟩ := H
   replace H : (if 0 ≤ ((zaa l0 x17_1).f1) then (if ((zaa l0 x17_1).f1) < (x5_1.length : Int) then (zaj kj42 t122 (x5_1.set (((zaa l0 x17_1).f1) : Int).toNat t125) l0 (l0.length : Int) (wrap64 (x17_1 + 1))) else (none)) else (none)) = some (r1, r2) := H
   have A61 := zA A610
   clear A610
   revert H
   refine zin fun c62 H => ?_
   revert H
   refine zin fun c63 H => ?_
   obtain ⟨y126, hy126⟩ : ∃ y_ : List Int, y_ = (x5_1.set (((zaa l0 x17_1).f1) : Int).toNat t125) := ⟨_, rfl⟩
   replace H : (zaj kj42 t122 y126 l0 (l0.length : Int) (wrap64 (x17_1 + 1))) = some (r1, r2) := by first | (rw [hy126]; with_reducible exact H) | (have H2_ := (Option.bind_some _ _).symm.trans H; rw [hy126]; with_reducible exact H2_) | (have H2_ := (Option.bind_some _ _).symm.trans H; with_reducible exact H2_) | with_reducible exact H | (rw [hy126]; exact H) | exact H
   have Ny126 := zA hy126
   clear hy126
   have H' := zA H
   clear H
   have hnb65 := NB109_108.out
   have hnc65 := NB108_109.out
   obtain ⟨hcz66_0, hcz66_1, hcz66_2, hcz66_3⟩ := zc4 wc (.string (⟨#[99, 111, 110, 115, 116]⟩ : ByteArray)) (.int .i64 0) (.int .i64 0) (.int .i64 ((zaa l0 x17_1).f4)) BK109.out
   obtain ⟨hfz66_0, hfz66_1, hfz66_2, hfz66_3⟩ := zf4 BK109.out
   obtain ⟨Ao67, co67, eo67⟩ := Kd.R_slice HO_4.out
   subst eo67
   try go_wp2_with (first | ((with_reducible refine zax (f := 164) rfl ?_); refine zdu (some 68) rfl rfl Try.func164 zq23 rfl #[.slice Ao67 x4_1.length co67, .agg #[.string (⟨#[99, 111, 110, 115, 116]⟩ : ByteArray), .int .i64 0, .int .i64 0, .int .i64 ((zaa l0 x17_1).f4)]] rfl zq9 ?_; (with_reducible refine (zdx (fun k_ => some k_ = (.slice Ao67 x4_1.length co67 : Value).ownBlock) (.slice Ao67 x4_1.length co67) x4_1 (⟨#[99, 111, 110, 115, 116]⟩ : ByteArray) 0 0 ((zaa l0 x17_1).f4) t117 t120 w _ ?side1 ?side2 A55.out).mono ?_); (case side1 => repeat (first | (with_reducible first | exact HB.out | apply zba | apply zbn | apply zbd | refine zae ?_ GE108.out | refine zae ?_ GE109.out) | exact HB.out)); (case side2 => exact Kd.R_tight rfl HO_4.out); rintro e w68 ⟨v118, rfl, ho0, hb, hkp⟩; refine ⟨_, rfl, ?_⟩; replace HO_5 := zA (Kd.R_mono (ok' := fun k_ => True) (Kd.R_keptB ((Kd.R_apart' HO_5.out (Kd.R_typed HO_4.out) (by decide))) hkp (fun k_ hk_ hs_ => (hk_.2) hs_)) (fun k_ hk_ => trivial)); replace BK108 := zA (zfh (zq5 BK108) hkp (fun hs_ => (fun e_ => (Kd.R_ne HO_4.out BK108.out (by decide)) e_) hs_)); have HO119 := zA (Kd.R_mono (ok' := fun k_ => k_ ≠ gb109) ho0 (fun k_ hk_ => Or.elim hk_ (fun hs_ => fun e_ => (Kd.R_away HO_4.out (fun _ hk => hk)) zq48) (fun hn_ => (Kd.freshB (g := gb109) (o := .cells #[.string (⟨#[99, 111, 110, 115, 116]⟩ : ByteArray), .int .i64 0, .int .i64 0, .int .i64 ((zaa l0 x17_1).f4)] 72 (0, 0)) (zq5 BK109) k_ hn_)))); replace BK109 := zA (zfh (zq5 BK109) hkp (fun hs_ => (fun e_ => (Kd.R_away HO_4.out (fun _ hk => hk)) e_) hs_)); replace HB := zA (hb); clear HO_4; (try clear hb); (try clear hkp); (try clear ho0)))
   replace HO_5 := zA (zRd HO_5.out)
   replace HO119 := zA (zRd HO119.out)
   replace BK108 := zA (zkd BK108.out)
   replace BK109 := zA (zkd BK109.out)
   replace HB := zA (zbd HB.out)
   obtain ⟨Ao70, co70, eo70⟩ := Kd.R_slice HO_5.out
   (first | subst eo70 | (injection eo70 with f1_ f2_ f3_; have f4_ := f1_.symm; have f5_ := f3_.symm; clear f1_ f2_ f3_; subst f4_; subst f5_))
   have p121 : 0 ≤ (((zaa l0 x17_1).f2) : Int) := zde zq16
   have q121 : ((zaa l0 x17_1).f2) < (x5_1.length : Int) := zde zq16
   obtain ⟨ad121, e121, hx121_0⟩ := Kd.at_int (zRr HO_5.out).2.2 ((zaa l0 x17_1).f2) p121 q121
   cases e121
   replace p121 := eq_true p121
   replace q121 := eq_true q121
   obtain ⟨Ao71, co71, eo71⟩ := Kd.R_slice HO119.out
   (first | subst eo71 | (injection eo71 with f1_ f2_ f3_; have f4_ := f1_.symm; have f5_ := f3_.symm; clear f1_ f2_ f3_; subst f4_; subst f5_))
   refine zmp (n := 21) (S := fun w' => w'.cell? ⟨gb108, 0, none⟩ = some (.string ((zaa l0 x17_1).f0)) ∧ w'.cell? ⟨gb108, 1, none⟩ = some (.int .i64 ((zaa l0 x17_1).f1)) ∧ w'.cell? ⟨gb108, 2, none⟩ = some (.int .i64 ((zaa l0 x17_1).f2)) ∧ w'.cell? ⟨gb108, 3, none⟩ = some (.int .i64 ((zaa l0 x17_1).f3)) ∧ w'.cell? ⟨gb108, 4, none⟩ = some (.int .i64 ((zaa l0 x17_1).f4)) ∧ w'.cell? (ad121.add (((zaa l0 x17_1).f2)).toNat) = some (.int .i64 (rd x5_1 ((zaa l0 x17_1).f2)))) (ds := []) #[false, false, false, false, false, false, false, false, false, false, false, false, false, false, false, false, false, false, false, false, false] zq23 rfl rfl ⟨(zac BK108.out 0).trans rfl, (zac BK108.out 1).trans rfl, (zac BK108.out 2).trans rfl, (zac BK108.out 3).trans rfl, (zac BK108.out 4).trans rfl, hx121_0⟩ (fun hHeld => ?_); refine zhu zk5 zkq (fun HT_ HW_ => ?_)
   generalize w68.drew = w69 at HO_5 HO119 BK108 BK109 HB hx121_0 hHeld ⊢
   refine zpu 0 72 HT_ ?_
   refine zpu 1 73 HT_ ?_
   refine zpu 3 75 HT_ ?_
   refine zpu 8 80 HT_ ?_
   refine zpu 9 81 HT_ ?_
   refine zpu 13 85 HT_ ?_
   refine ztu 2 74 HT_ HW_ hHeld ?_
   refine ztu 4 76 HT_ HW_ hHeld ?_
   refine zpu 5 77 HT_ ?_
   refine zpu 6 78 HT_ ?_
   refine zpu 7 79 HT_ ?_
   refine ztu 10 82 HT_ HW_ hHeld ?_
   refine zpu 11 83 HT_ ?_
   refine ztu 12 84 HT_ HW_ hHeld ?_
   refine zpu 14 86 HT_ ?_
   refine one_ (i := 15) (N := some 87) #[true, true, true, true, true, true, true, true, true, true, true, true, true, true, true, true, false, false, false, false, false] rfl rfl (zmt HT_.out zq23) (by decide) (fun K hK => ?_)
   refine zpd Try.func164 zq23 rfl #[.slice Ao71 t117.length co71, .agg #[.string (((zaa l0 x17_1).f0).extract 0 ((ji56) : Int).toNat), .int .i64 (rd x5_1 ((zaa l0 x17_1).f2)), .int .i64 t120, .int .i64 0]] (by rfl) rfl rfl (by (try simp only [List.map_toArray, List.map_cons, List.map_nil]); first | done | (simp only [hji56]; rfl) | rfl | (simp only [List.length_drop, List.length_take]; rfl)) ?_
   with_reducible refine (zdx (fun k_ => some k_ = (.slice Ao71 t117.length co71 : Value).ownBlock) (.slice Ao71 t117.length co71) t117 (((zaa l0 x17_1).f0).extract 0 ((ji56) : Int).toNat) (rd x5_1 ((zaa l0 x17_1).f2)) t120 0 t122 t125 w _ ?side1 ?side2 A61.out).mono ?_
   (case side1 => repeat (first | (with_reducible first | exact HB.out | apply zba | apply zbn | apply zbd | refine zae ?_ GE108.out | refine zae ?_ GE109.out) | exact HB.out))
   (case side2 => exact Kd.R_tight rfl HO119.out)
   rintro e w72 ⟨v123, rfl, ho0, hb, hkp⟩
   have HS5_ := zmn (hHeld.2.2.2.2.2) hkp (zq28 HO_5 HO119)
   refine ⟨_, rfl, ?_⟩
   replace HO_5 := zA (Kd.R_mono (ok' := fun k_ => True) (Kd.R_keptB ((Kd.R_apart' HO_5.out (Kd.R_typed HO119.out) (by decide))) hkp (fun k_ hk_ hs_ => (hk_.2) hs_)) (fun k_ hk_ => trivial))
   replace BK108 := zA (zfh (zq5 BK108) hkp (fun hs_ => (fun e_ => (Kd.R_ne HO119.out BK108.out (by decide)) e_) hs_))
   have HO124 := zA (Kd.R_mono (ok' := fun k_ => k_ ≠ gb109) ho0 (fun k_ hk_ => Or.elim hk_ (fun hs_ => fun e_ => (Kd.R_away HO119.out (fun _ hk => hk)) zq48) (fun hn_ => (Kd.freshB (g := gb109) (o := .cells #[.string (⟨#[99, 111, 110, 115, 116]⟩ : ByteArray), .int .i64 0, .int .i64 0, .int .i64 ((zaa l0 x17_1).f4)] 72 (0, 0)) (zq5 BK109) k_ hn_))))
   replace BK109 := zA (zfh (zq5 BK109) hkp (fun hs_ => (fun e_ => (Kd.R_away HO119.out (fun _ hk => hk)) e_) hs_))
   replace HB := zA (hb)
   clear HO119
   (try clear hb)
   (try clear hkp)
   (try clear ho0)
   refine hK.out _ _ ⟨(zac BK108.out 0).trans rfl, (zac BK108.out 1).trans rfl, (zac BK108.out 2).trans rfl, (zac BK108.out 3).trans rfl, (zac BK108.out 4).trans rfl, HS5_⟩ (fun hHeld => ?_)
   clear hK K
   refine znm 87 ?_
   refine zpu 16 71 HT_ ?_
   refine zpu 17 88 HT_ ?_
   refine zpu 18 89 HT_ ?_
   refine zpu 19 4 HT_ ?_
   refine zpu 20 9 HT_ ?_
   refine zqp (zky HT_.out zq23) ?_
   obtain ⟨hcz73_0, hcz73_1, hcz73_2, hcz73_3, hcz73_4⟩ := zc5 w72 (.string ((zaa l0 x17_1).f0)) (.int .i64 ((zaa l0 x17_1).f1)) (.int .i64 ((zaa l0 x17_1).f2)) (.int .i64 ((zaa l0 x17_1).f3)) (.int .i64 ((zaa l0 x17_1).f4)) BK108.out
   obtain ⟨hfz73_0, hfz73_1, hfz73_2, hfz73_3, hfz73_4⟩ := zf5 BK108.out
   have p64 : 0 ≤ (((zaa l0 x17_1).f1) : Int) := zde zq16
   have q64 : (((zaa l0 x17_1).f1) : Int) < ((x5_1.length : Int) : Int) := zde zq16
   obtain ⟨go64, co64, eo64, gb64, gl64, cl64, HG64⟩ := Kd.R_form HO_5.out (by omega)
   (first | cases eo64 | (injection eo64 with ea_ en_ ec_; (first | subst ea_ | (injection ea_ with ea_; subst ea_)); subst ec_; clear en_))
   have GB64 := zA gb64
   have GG64 := zA HG64
   clear gb64 gl64 HG64
   (first | simp only [zcw] at hx121_0 | skip)
   obtain ⟨hx64_0, hf64_0⟩ := Kd.R_celln 0 HO_5.out (((zaa l0 x17_1).f1) : Int) p64 q64
   replace p64 := eq_true p64
   replace q64 := eq_true q64
   obtain ⟨hy74_, hz74_⟩ := Kd.R_celln 0 HO_5.out (((zaa l0 x17_1).f1) : Int) (zde zq16) (zde zq16)
   have HP74 := Kd.R_putg HO_5.out (((zaa l0 x17_1).f1) : Int) t125
   try go_wp2_with (first | ((with_reducible refine zgs 3 142 ?_); refine zse (w72.setCell ⟨go64, (((zaa l0 x17_1).f1) : Int).toNat, none⟩ (.int .i64 t125)) ?_; intro w75 hw; have hg : w72.grownBy w75 (some go64) := (by rw [hw]; exact HP74.2); have hp_ : Kd.R (Kd.int .i64) 3 w75 w.heap.size (fun _ => True) (.slice (some ⟨go64, 0, none⟩) x5_1.length co70) y126 := (by rw [hw, Ny126.out]; exact HP74.1); clear HP74; replace BK108 := zA (zed (g := gb108) (o := .cells #[.string ((zaa l0 x17_1).f0), .int .i64 ((zaa l0 x17_1).f1), .int .i64 ((zaa l0 x17_1).f2), .int .i64 ((zaa l0 x17_1).f3), .int .i64 ((zaa l0 x17_1).f4)] 94 (0, 0)) (zq5 BK108) hg (Kd.R_ne HO_5.out BK108.out (by decide))); replace BK109 := zA (zed (g := gb109) (o := .cells #[.string (⟨#[99, 111, 110, 115, 116]⟩ : ByteArray), .int .i64 0, .int .i64 0, .int .i64 ((zaa l0 x17_1).f4)] 72 (0, 0)) (zq5 BK109) hg (Kd.R_ne HO_5.out BK109.out (by decide))); replace HO124 := zA (Kd.R_over' (v := (.slice (some ⟨go64, 0, none⟩) x5_1.length co70)) (zq3 HO124) (Kd.R_typed HO_5.out) (by decide) hg); replace HO_5 := zA (hp_); replace HB := zA ((zq32 GB64 : Below w.heap.size w w75)); clear hg hw hp_))
   go_roundg kj42
   case measure => have := HK1.out; have := HJ42.out; omega
   case rel => exact ⟨(t122), (y126), (wrap64 (x17_1 + 1)), zq6, H', ⟨zq40 HK1 HJ42⟩, ⟨zq27 HO124⟩, ⟨zq3 HO_5⟩, ⟨zq10 GE108 GE109⟩⟩
 replace c54 := zbf c54
 subst c54
 replace H : (if ((zaa l0 x17_1).f0).toList = ([108, 101, 97] : List UInt8) then ((zbl x4_1 (⟨#[99, 111, 110, 115, 116]⟩ : ByteArray) 0 0 ((zaa l0 x17_1).f4)).bind fun bt127 => (if 0 ≤ ((zaa l0 x17_1).f3) then (if ((zaa l0 x17_1).f3) < (x5_1.length : Int) then ((zbl bt127.1 (⟨#[115, 104, 108]⟩ : ByteArray) (rd x5_1 ((zaa l0 x17_1).f3)) bt127.2 0).bind fun bt132 => (if 0 ≤ ((zaa l0 x17_1).f2) then (if ((zaa l0 x17_1).f2) < (x5_1.length : Int) then ((zbl bt132.1 (⟨#[97, 100, 100]⟩ : ByteArray) (rd x5_1 ((zaa l0 x17_1).f2)) bt132.2 0).bind fun bt137 => (if 0 ≤ ((zaa l0 x17_1).f1) then (if ((zaa l0 x17_1).f1) < (x5_1.length : Int) then (zaj kj42 bt137.1 (x5_1.set (((zaa l0 x17_1).f1) : Int).toNat bt137.2) l0 (l0.length : Int) (wrap64 (x17_1 + 1))) else (none)) else (none))) else (none)) else (none))) else (none)) else (none))) else (if ((zaa l0 x17_1).f0).toList = ([110, 111, 116] : List UInt8) then (zbr kj42 x4_1 x5_1 l0 (l0.length : Int) x17_1 (((zaa l0 x17_1).f0).toList == ([110, 111, 116] : List UInt8)) ((zaa l0 x17_1).f0) ((zaa l0 x17_1).f1) ((zaa l0 x17_1).f2) ((zaa l0 x17_1).f3) ((zaa l0 x17_1).f4)) else (zbr kj42 x4_1 x5_1 l0 (l0.length : Int) x17_1 (((zaa l0 x17_1).f0).toList == ([110, 101, 103] : List UInt8)) ((zaa l0 x17_1).f0) ((zaa l0 x17_1).f1) ((zaa l0 x17_1).f2) ((zaa l0 x17_1).f3) ((zaa l0 x17_1).f4)))) = some (r1, r2) := by rw [if_neg (show ¬ (false = true) by decide)] at H; exact H
 by_cases c76 : ((zaa l0 x17_1).f0).toList = ([108, 101, 97] : List UInt8)
 · rw [if_pos c76] at H
   have c76b0 := beq_iff_eq.mpr c76
   have c76b1 := bne_eq_false_iff_eq.mpr c76
   clear c76
   replace H := zob H
   obtain ⟨⟨t127, t130⟩, A770, H⟩ := H
   replace H : (if 0 ≤ ((zaa l0 x17_1).f3) then (if ((zaa l0 x17_1).f3) < (x5_1.length : Int) then ((zbl t127 (⟨#[115, 104, 108]⟩ : ByteArray) (rd x5_1 ((zaa l0 x17_1).f3)) t130 0).bind fun bt132 => (if 0 ≤ ((zaa l0 x17_1).f2) then (if ((zaa l0 x17_1).f2) < (x5_1.length : Int) then ((zbl bt132.1 (⟨#[97, 100, 100]⟩ : ByteArray) (rd x5_1 ((zaa l0 x17_1).f2)) bt132.2 0).bind fun bt137 => (if 0 ≤ ((zaa l0 x17_1).f1) then (if ((zaa l0 x17_1).f1) < (x5_1.length : Int) then (zaj kj42 bt137.1 (x5_1.set (((zaa l0 x17_1).f1) : Int).toNat bt137.2) l0 (l0.length : Int) (wrap64 (x17_1 + 1))) else (none)) else (none))) else (none)) else (none))) else (none)) else (none)) = some (r1, r2) := H
   have A77 := zA A770
   clear A770
   revert H
   refine zin fun c78 H => ?_
   revert H
   refine zin fun c79 H => ?_
   replace H := zob H
   obtain ⟨⟨t132, t135⟩, A800, H⟩ := H
   replace H : (if 0 ≤ ((zaa l0 x17_1).f2) then (if ((zaa l0 x17_1).f2) < (x5_1.length : Int) then ((zbl t132 (⟨#[97, 100, 100]⟩ : ByteArray) (rd x5_1 ((zaa l0 x17_1).f2)) t135 0).bind fun bt137 => (if 0 ≤ ((zaa l0 x17_1).f1) then (if ((zaa l0 x17_1).f1) < (x5_1.length : Int) then (zaj kj42 bt137.1 (x5_1.set (((zaa l0 x17_1).f1) : Int).toNat bt137.2) l0 (l0.length : Int) (wrap64 (x17_1 + 1))) else (none)) else (none))) else (none)) else (none)) = some (r1, r2) := H
   have A80 := zA A800
   clear A800
   revert H
   refine zin fun c81 H => ?_
   revert H
   refine zin fun c82 H => ?_
   replace H := zob H
   obtain ⟨⟨t137, t140⟩, A830, H⟩ := H
   replace H : (if 0 ≤ ((zaa l0 x17_1).f1) then (if ((zaa l0 x17_1).f1) < (x5_1.length : Int) then (zaj kj42 t137 (x5_1.set (((zaa l0 x17_1).f1) : Int).toNat t140) l0 (l0.length : Int) (wrap64 (x17_1 + 1))) else (none)) else (none)) = some (r1, r2) := H
   have A83 := zA A830
   clear A830
   revert H
   refine zin fun c84 H => ?_
   revert H
   refine zin fun c85 H => ?_
   obtain ⟨y141, hy141⟩ : ∃ y_ : List Int, y_ = (x5_1.set (((zaa l0 x17_1).f1) : Int).toNat t140) := ⟨_, rfl⟩
   replace H : (zaj kj42 t137 y141 l0 (l0.length : Int) (wrap64 (x17_1 + 1))) = some (r1, r2) := by first | (rw [hy141]; with_reducible exact H) | (have H2_ := (Option.bind_some _ _).symm.trans H; rw [hy141]; with_reducible exact H2_) | (have H2_ := (Option.bind_some _ _).symm.trans H; with_reducible exact H2_) | with_reducible exact H | (rw [hy141]; exact H) | exact H
   have Ny141 := zA hy141
   clear hy141
   have H' := zA H
   clear H
   have hnb87 := NB109_108.out
   have hnc87 := NB108_109.out
   obtain ⟨hcz88_0, hcz88_1, hcz88_2, hcz88_3⟩ := zc4 wc (.string (⟨#[99, 111, 110, 115, 116]⟩ : ByteArray)) (.int .i64 0) (.int .i64 0) (.int .i64 ((zaa l0 x17_1).f4)) BK109.out
   obtain ⟨hfz88_0, hfz88_1, hfz88_2, hfz88_3⟩ := zf4 BK109.out
   obtain ⟨Ao89, co89, eo89⟩ := Kd.R_slice HO_4.out
   subst eo89
   go_wp2_with (first | ((with_reducible refine zax (f := 164) rfl ?_); refine zdu (some 95) rfl rfl Try.func164 zq23 rfl #[.slice Ao89 x4_1.length co89, .agg #[.string (⟨#[99, 111, 110, 115, 116]⟩ : ByteArray), .int .i64 0, .int .i64 0, .int .i64 ((zaa l0 x17_1).f4)]] rfl zq9 ?_; (with_reducible refine (zdx (fun k_ => some k_ = (.slice Ao89 x4_1.length co89 : Value).ownBlock) (.slice Ao89 x4_1.length co89) x4_1 (⟨#[99, 111, 110, 115, 116]⟩ : ByteArray) 0 0 ((zaa l0 x17_1).f4) t127 t130 w _ ?side1 ?side2 A77.out).mono ?_); (case side1 => repeat (first | (with_reducible first | exact HB.out | apply zba | apply zbn | apply zbd | refine zae ?_ GE108.out | refine zae ?_ GE109.out) | exact HB.out)); (case side2 => exact Kd.R_tight rfl HO_4.out); rintro e w90 ⟨v128, rfl, ho0, hb, hkp⟩; refine ⟨_, rfl, ?_⟩; replace HO_5 := zA (Kd.R_mono (ok' := fun k_ => True) (Kd.R_keptB ((Kd.R_apart' HO_5.out (Kd.R_typed HO_4.out) (by decide))) hkp (fun k_ hk_ hs_ => (hk_.2) hs_)) (fun k_ hk_ => trivial)); replace BK108 := zA (zfh (zq5 BK108) hkp (fun hs_ => (fun e_ => (Kd.R_ne HO_4.out BK108.out (by decide)) e_) hs_)); have HO129 := zA (Kd.R_mono (ok' := fun k_ => k_ ≠ gb109) ho0 (fun k_ hk_ => Or.elim hk_ (fun hs_ => fun e_ => (Kd.R_away HO_4.out (fun _ hk => hk)) zq48) (fun hn_ => (Kd.freshB (g := gb109) (o := .cells #[.string (⟨#[99, 111, 110, 115, 116]⟩ : ByteArray), .int .i64 0, .int .i64 0, .int .i64 ((zaa l0 x17_1).f4)] 72 (0, 0)) (zq5 BK109) k_ hn_)))); replace BK109 := zA (zfh (zq5 BK109) hkp (fun hs_ => (fun e_ => (Kd.R_away HO_4.out (fun _ hk => hk)) e_) hs_)); replace HB := zA (hb); clear HO_4; (try clear hb); (try clear hkp); (try clear ho0); obtain ⟨hcz91_0, hcz91_1, hcz91_2, hcz91_3, hcz91_4⟩ := zc5 w90 (.string ((zaa l0 x17_1).f0)) (.int .i64 ((zaa l0 x17_1).f1)) (.int .i64 ((zaa l0 x17_1).f2)) (.int .i64 ((zaa l0 x17_1).f3)) (.int .i64 ((zaa l0 x17_1).f4)) BK108.out; obtain ⟨hfz91_0, hfz91_1, hfz91_2, hfz91_3, hfz91_4⟩ := zf5 BK108.out; obtain ⟨Ao92, co92, eo92⟩ := Kd.R_slice HO_5.out; subst eo92; have p131 : 0 ≤ (((zaa l0 x17_1).f3) : Int) := zde zq16; have q131 : ((zaa l0 x17_1).f3) < (x5_1.length : Int) := zde zq16; obtain ⟨ad131, e131, hx131_0⟩ := Kd.at_int (zRr HO_5.out).2.2 ((zaa l0 x17_1).f3) p131 q131; cases e131; replace p131 := eq_true p131; replace q131 := eq_true q131; obtain ⟨Ao93, co93, eo93⟩ := Kd.R_slice HO129.out; subst eo93) | ((with_reducible refine zax (f := 164) rfl ?_); refine zdu (some 107) rfl rfl Try.func164 zq23 rfl #[.slice Ao93 t127.length co93, .agg #[.string (⟨#[115, 104, 108]⟩ : ByteArray), .int .i64 (rd x5_1 ((zaa l0 x17_1).f3)), .int .i64 t130, .int .i64 0]] rfl zq9 ?_; (with_reducible refine (zdx (fun k_ => some k_ = (.slice Ao93 t127.length co93 : Value).ownBlock) (.slice Ao93 t127.length co93) t127 (⟨#[115, 104, 108]⟩ : ByteArray) (rd x5_1 ((zaa l0 x17_1).f3)) t130 0 t132 t135 w _ ?side1 ?side2 A80.out).mono ?_); (case side1 => repeat (first | (with_reducible first | exact HB.out | apply zba | apply zbn | apply zbd | refine zae ?_ GE108.out | refine zae ?_ GE109.out) | exact HB.out)); (case side2 => exact Kd.R_tight rfl HO129.out); rintro e w94 ⟨v133, rfl, ho0, hb, hkp⟩; refine ⟨_, rfl, ?_⟩; replace HO_5 := zA (Kd.R_mono (ok' := fun k_ => True) (Kd.R_keptB ((Kd.R_apart' HO_5.out (Kd.R_typed HO129.out) (by decide))) hkp (fun k_ hk_ hs_ => (hk_.2) hs_)) (fun k_ hk_ => trivial)); replace BK108 := zA (zfh (zq5 BK108) hkp (fun hs_ => (fun e_ => (Kd.R_ne HO129.out BK108.out (by decide)) e_) hs_)); have HO134 := zA (Kd.R_mono (ok' := fun k_ => k_ ≠ gb109) ho0 (fun k_ hk_ => Or.elim hk_ (fun hs_ => fun e_ => (Kd.R_away HO129.out (fun _ hk => hk)) zq48) (fun hn_ => (Kd.freshB (g := gb109) (o := .cells #[.string (⟨#[99, 111, 110, 115, 116]⟩ : ByteArray), .int .i64 0, .int .i64 0, .int .i64 ((zaa l0 x17_1).f4)] 72 (0, 0)) (zq5 BK109) k_ hn_)))); replace BK109 := zA (zfh (zq5 BK109) hkp (fun hs_ => (fun e_ => (Kd.R_away HO129.out (fun _ hk => hk)) e_) hs_)); replace HB := zA (hb); clear HO129; (try clear hb); (try clear hkp); (try clear ho0); obtain ⟨hcz95_0, hcz95_1, hcz95_2, hcz95_3, hcz95_4⟩ := zc5 w94 (.string ((zaa l0 x17_1).f0)) (.int .i64 ((zaa l0 x17_1).f1)) (.int .i64 ((zaa l0 x17_1).f2)) (.int .i64 ((zaa l0 x17_1).f3)) (.int .i64 ((zaa l0 x17_1).f4)) BK108.out; obtain ⟨hfz95_0, hfz95_1, hfz95_2, hfz95_3, hfz95_4⟩ := zf5 BK108.out; have p136 : 0 ≤ (((zaa l0 x17_1).f2) : Int) := zde zq16; have q136 : ((zaa l0 x17_1).f2) < (x5_1.length : Int) := zde zq16; obtain ⟨ad136, e136, hx136_0⟩ := Kd.at_int (zRr HO_5.out).2.2 ((zaa l0 x17_1).f2) p136 q136; obtain rfl : ad131 = ad136 := (by injection e136); replace p136 := eq_true p136; replace q136 := eq_true q136; obtain ⟨Ao96, co96, eo96⟩ := Kd.R_slice HO134.out; subst eo96) | ((with_reducible refine zax (f := 164) rfl ?_); refine zdu (some 119) rfl rfl Try.func164 zq23 rfl #[.slice Ao96 t132.length co96, .agg #[.string (⟨#[97, 100, 100]⟩ : ByteArray), .int .i64 (rd x5_1 ((zaa l0 x17_1).f2)), .int .i64 t135, .int .i64 0]] rfl zq9 ?_; (with_reducible refine (zdx (fun k_ => some k_ = (.slice Ao96 t132.length co96 : Value).ownBlock) (.slice Ao96 t132.length co96) t132 (⟨#[97, 100, 100]⟩ : ByteArray) (rd x5_1 ((zaa l0 x17_1).f2)) t135 0 t137 t140 w _ ?side1 ?side2 A83.out).mono ?_); (case side1 => repeat (first | (with_reducible first | exact HB.out | apply zba | apply zbn | apply zbd | refine zae ?_ GE108.out | refine zae ?_ GE109.out) | exact HB.out)); (case side2 => exact Kd.R_tight rfl HO134.out); rintro e w97 ⟨v138, rfl, ho0, hb, hkp⟩; refine ⟨_, rfl, ?_⟩; replace HO_5 := zA (Kd.R_mono (ok' := fun k_ => True) (Kd.R_keptB ((Kd.R_apart' HO_5.out (Kd.R_typed HO134.out) (by decide))) hkp (fun k_ hk_ hs_ => (hk_.2) hs_)) (fun k_ hk_ => trivial)); replace BK108 := zA (zfh (zq5 BK108) hkp (fun hs_ => (fun e_ => (Kd.R_ne HO134.out BK108.out (by decide)) e_) hs_)); have HO139 := zA (Kd.R_mono (ok' := fun k_ => k_ ≠ gb109) ho0 (fun k_ hk_ => Or.elim hk_ (fun hs_ => fun e_ => (Kd.R_away HO134.out (fun _ hk => hk)) zq48) (fun hn_ => (Kd.freshB (g := gb109) (o := .cells #[.string (⟨#[99, 111, 110, 115, 116]⟩ : ByteArray), .int .i64 0, .int .i64 0, .int .i64 ((zaa l0 x17_1).f4)] 72 (0, 0)) (zq5 BK109) k_ hn_)))); replace BK109 := zA (zfh (zq5 BK109) hkp (fun hs_ => (fun e_ => (Kd.R_away HO134.out (fun _ hk => hk)) e_) hs_)); replace HB := zA (hb); clear HO134; (try clear hb); (try clear hkp); (try clear ho0); obtain ⟨hcz98_0, hcz98_1, hcz98_2, hcz98_3, hcz98_4⟩ := zc5 w97 (.string ((zaa l0 x17_1).f0)) (.int .i64 ((zaa l0 x17_1).f1)) (.int .i64 ((zaa l0 x17_1).f2)) (.int .i64 ((zaa l0 x17_1).f3)) (.int .i64 ((zaa l0 x17_1).f4)) BK108.out; obtain ⟨hfz98_0, hfz98_1, hfz98_2, hfz98_3, hfz98_4⟩ := zf5 BK108.out; have p86 : 0 ≤ (((zaa l0 x17_1).f1) : Int) := zde zq16; have q86 : (((zaa l0 x17_1).f1) : Int) < ((x5_1.length : Int) : Int) := zde zq16; obtain ⟨go86, co86, eo86, gb86, gl86, cl86, HG86⟩ := Kd.R_form HO_5.out (by omega); (first | cases eo86 | (injection eo86 with ea_ en_ ec_; (first | subst ea_ | (injection ea_ with ea_; subst ea_)); subst ec_; clear en_)); have GB86 := zA gb86; have GG86 := zA HG86; clear gb86 gl86 HG86; (first | simp only [zcw] at hx131_0 | skip); (first | simp only [zcw] at hx136_0 | skip); obtain ⟨hx86_0, hf86_0⟩ := Kd.R_celln 0 HO_5.out (((zaa l0 x17_1).f1) : Int) p86 q86; replace p86 := eq_true p86; replace q86 := eq_true q86; obtain ⟨hy99_, hz99_⟩ := Kd.R_celln 0 HO_5.out (((zaa l0 x17_1).f1) : Int) (zde zq16) (zde zq16); have HP99 := Kd.R_putg HO_5.out (((zaa l0 x17_1).f1) : Int) t140) | ((with_reducible refine zgs 3 142 ?_); refine zse (w97.setCell ⟨go86, (((zaa l0 x17_1).f1) : Int).toNat, none⟩ (.int .i64 t140)) ?_; intro w100 hw; have hg : w97.grownBy w100 (some go86) := (by rw [hw]; exact HP99.2); have hp_ : Kd.R (Kd.int .i64) 3 w100 w.heap.size (fun _ => True) (.slice (some ⟨go86, 0, none⟩) x5_1.length co92) y141 := (by rw [hw, Ny141.out]; exact HP99.1); clear HP99; replace BK108 := zA (zed (g := gb108) (o := .cells #[.string ((zaa l0 x17_1).f0), .int .i64 ((zaa l0 x17_1).f1), .int .i64 ((zaa l0 x17_1).f2), .int .i64 ((zaa l0 x17_1).f3), .int .i64 ((zaa l0 x17_1).f4)] 94 (0, 0)) (zq5 BK108) hg (Kd.R_ne HO_5.out BK108.out (by decide))); replace BK109 := zA (zed (g := gb109) (o := .cells #[.string (⟨#[99, 111, 110, 115, 116]⟩ : ByteArray), .int .i64 0, .int .i64 0, .int .i64 ((zaa l0 x17_1).f4)] 72 (0, 0)) (zq5 BK109) hg (Kd.R_ne HO_5.out BK109.out (by decide))); replace HO139 := zA (Kd.R_over' (v := (.slice (some ⟨go86, 0, none⟩) x5_1.length co92)) (zq3 HO139) (Kd.R_typed HO_5.out) (by decide) hg); replace HO_5 := zA (hp_); replace HB := zA ((zq32 GB86 : Below w.heap.size w w100)); clear hg hw hp_))
   go_roundg kj42
   case measure => have := HK1.out; have := HJ42.out; omega
   case rel => exact ⟨(t137), (y141), (wrap64 (x17_1 + 1)), zq6, H', ⟨zq40 HK1 HJ42⟩, ⟨zq27 HO139⟩, ⟨zq3 HO_5⟩, ⟨zq10 GE108 GE109⟩⟩
 rw [if_neg c76] at H
 have c76b0 := beq_eq_false_iff_ne.mpr c76
 have c76b1 := bne_iff_ne.mpr c76
 have HC101 := zA H
 clear H
 go_upto_if 122 with (fail)
 go_cut [122] (fun v122 wc => ∃ (kq : Nat) (x122_100 : Bool), v122 = .bool x122_100 ∧ Aside0 (zbr kq x4_1 x5_1 l0 (l0.length : Int) x17_1 x122_100 ((zaa l0 x17_1).f0) ((zaa l0 x17_1).f1) ((zaa l0 x17_1).f2) ((zaa l0 x17_1).f3) ((zaa l0 x17_1).f4) = some (r1, r2)) ∧ Aside0 (kq ≤ kj42) ∧ Aside0 (Kd.R k72 72 wc w.heap.size (fun k_ => k_ ≠ gb109) u4 x4_1) ∧ Aside0 (Kd.R (Kd.int .i64) 3 wc w.heap.size (fun _ => True) v105 x5_1) ∧ Aside0 (wc.heap[gb108]? = some (.cells #[.string ((zaa l0 x17_1).f0), .int .i64 ((zaa l0 x17_1).f1), .int .i64 ((zaa l0 x17_1).f2), .int .i64 ((zaa l0 x17_1).f3), .int .i64 ((zaa l0 x17_1).f4)] 94 (0, 0))) ∧ Aside0 (wc.heap[gb109]? = some (.cells #[.string (⟨#[99, 111, 110, 115, 116]⟩ : ByteArray), .int .i64 0, .int .i64 0, .int .i64 ((zaa l0 x17_1).f4)] 72 (0, 0))) ∧ Aside0 (Below w.heap.size w wc))
 case first =>
   have H := HC101.out
   clear HC101
   by_cases c102 : ((zaa l0 x17_1).f0).toList = ([110, 111, 116] : List UInt8)
   rotate_left
   · rw [if_neg c102] at H
     have c102b0 := beq_eq_false_iff_ne.mpr c102
     have c102b1 := bne_iff_ne.mpr c102
     (first | rw [c102b0] | (simp only [zfx, zip]; rw [c102b0]) | skip)
     have H' := zA H
     clear H
     go_wp2
     go_meet
     case rel => exact ⟨_, ((((zaa l0 x17_1).f0).toList == ([110, 101, 103] : List UInt8))), zq6, H', ⟨zq52 HK1 HJ42⟩, ⟨zq3 HO_4⟩, ⟨zq3 HO_5⟩, ⟨zq5 BK108⟩, ⟨zq5 BK109⟩, ⟨zq10 GE108 GE109⟩⟩
   rw [if_pos c102] at H
   have c102b0 := beq_iff_eq.mpr c102
   have c102b1 := bne_eq_false_iff_eq.mpr c102
   clear c102
   (first | rw [c102b0] | (simp only [zfx, zip]; rw [c102b0]) | skip)
   have H' := zA H
   clear H
   go_wp2
   go_meet
   case rel => exact ⟨_, ((((zaa l0 x17_1).f0).toList == ([110, 111, 116] : List UInt8))), zq6, H', ⟨zq52 HK1 HJ42⟩, ⟨zq3 HO_4⟩, ⟨zq3 HO_5⟩, ⟨zq5 BK108⟩, ⟨zq5 BK109⟩, ⟨zq10 GE108 GE109⟩⟩
 clear HC101
 try clear c1
 try clear p1
 try clear q1
 try clear hx1
 try clear c2
 try clear p2
 try clear c3
 try clear p3
 try clear q3
 try clear hx3
 try clear hf3
 try clear c4
 try clear c5
 try clear c6
 try clear p6
 try clear q6
 try clear hx6
 try clear hf6
 try clear c7
 try clear c8
 try clear p8
 try clear q8
 try clear hx8
 try clear hf8
 try clear c10
 try clear p10
 try clear q10
 try clear hx10
 try clear p11
 try clear q11
 try clear hx11
 try clear p12
 try clear q12
 try clear hx12
 try clear p13
 try clear q13
 try clear hx13
 try clear c16
 try clear c17
 try clear c27
 try clear c27b0
 try clear c27b1
 try clear c28
 try clear c28b0
 try clear c29
 try clear c29b0
 try clear c30
 try clear c30b0
 try clear c31
 try clear c31b0
 try clear p32
 try clear q32
 try clear hx32
 try clear hf32
 try clear c36
 try clear c47
 try clear c50
 try clear c50b0
 try clear c50b1
 try clear c51
 try clear c51b0
 try clear c51b1
 try clear c52
 try clear c52b0
 try clear c52b1
 try clear c53
 try clear c53b0
 try clear c53b1
 try clear c54
 try clear c57
 try clear c57b0
 try clear c57b1
 try clear c58
 try clear c58b0
 try clear c58b1
 try clear c59
 try clear c59b0
 try clear c60
 try clear c60b0
 try clear c62
 try clear c62b0
 try clear c63
 try clear c63b0
 try clear p64
 try clear q64
 try clear hx64
 try clear hf64
 try clear c65
 try clear c76
 try clear c76b0
 try clear c76b1
 try clear c78
 try clear c78b0
 try clear c79
 try clear c79b0
 try clear c81
 try clear c81b0
 try clear c82
 try clear c82b0
 try clear c84
 try clear c84b0
 try clear c85
 try clear c85b0
 try clear p86
 try clear q86
 try clear hx86
 try clear hf86
 try clear c87
 try clear c102
 try clear c102b0
 try clear c102b1
 try clear hcz15_0
 try clear hcz15_1
 try clear hcz15_2
 try clear hcz15_3
 try clear hcz15_4
 try clear hcz18_0
 try clear hcz18_1
 try clear hcz18_2
 try clear hcz18_3
 try clear hcz20_0
 try clear hcz20_1
 try clear hcz20_2
 try clear hcz20_3
 try clear hcz20_4
 try clear hcz21_0
 try clear hcz21_1
 try clear hcz21_2
 try clear hcz21_3
 try clear hcz24_0
 try clear hcz24_1
 try clear hcz24_2
 try clear hcz24_3
 try clear hcz24_4
 try clear hcz34_0
 try clear hcz34_1
 try clear hcz34_2
 try clear hcz34_3
 try clear hcz34_4
 try clear hcz37_0
 try clear hcz37_1
 try clear hcz37_2
 try clear hcz37_3
 try clear hcz39_0
 try clear hcz39_1
 try clear hcz39_2
 try clear hcz39_3
 try clear hcz39_4
 try clear hcz45_0
 try clear hcz45_1
 try clear hcz45_2
 try clear hcz45_3
 try clear hcz45_4
 try clear hcz48_0
 try clear hcz48_1
 try clear hcz48_2
 try clear hcz48_3
 try clear hcz49_0
 try clear hcz49_1
 try clear hcz49_2
 try clear hcz49_3
 try clear hcz49_4
 try clear hcz66_0
 try clear hcz66_1
 try clear hcz66_2
 try clear hcz66_3
 try clear hcz73_0
 try clear hcz73_1
 try clear hcz73_2
 try clear hcz73_3
 try clear hcz73_4
 try clear hcz88_0
 try clear hcz88_1
 try clear hcz88_2
 try clear hcz88_3
 try clear hcz91_0
 try clear hcz91_1
 try clear hcz91_2
 try clear hcz91_3
 try clear hcz91_4
 try clear hcz95_0
 try clear hcz95_1
 try clear hcz95_2
 try clear hcz95_3
 try clear hcz95_4
 try clear hcz98_0
 try clear hcz98_1
 try clear hcz98_2
 try clear hcz98_3
 try clear hcz98_4
 try clear hfz15_0
 try clear hfz15_1
 try clear hfz15_2
 try clear hfz15_3
 try clear hfz15_4
 try clear hfz18_0
 try clear hfz18_1
 try clear hfz18_2
 try clear hfz18_3
 try clear hfz20_0
 try clear hfz20_1
 try clear hfz20_2
 try clear hfz20_3
 try clear hfz20_4
 try clear hfz21_0
 try clear hfz21_1
 try clear hfz21_2
 try clear hfz21_3
 try clear hfz24_0
 try clear hfz24_1
 try clear hfz24_2
 try clear hfz24_3
 try clear hfz24_4
 try clear hfz34_0
 try clear hfz34_1
 try clear hfz34_2
 try clear hfz34_3
 try clear hfz34_4
 try clear hfz37_0
 try clear hfz37_1
 try clear hfz37_2
 try clear hfz37_3
 try clear hfz39_0
 try clear hfz39_1
 try clear hfz39_2
 try clear hfz39_3
 try clear hfz39_4
 try clear hfz45_0
 try clear hfz45_1
 try clear hfz45_2
 try clear hfz45_3
 try clear hfz45_4
 try clear hfz48_0
 try clear hfz48_1
 try clear hfz48_2
 try clear hfz48_3
 try clear hfz49_0
 try clear hfz49_1
 try clear hfz49_2
 try clear hfz49_3
 try clear hfz49_4
 try clear hfz66_0
 try clear hfz66_1
 try clear hfz66_2
 try clear hfz66_3
 try clear hfz73_0
 try clear hfz73_1
 try clear hfz73_2
 try clear hfz73_3
 try clear hfz73_4
 try clear hfz88_0
 try clear hfz88_1
 try clear hfz88_2
 try clear hfz88_3
 try clear hfz91_0
 try clear hfz91_1
 try clear hfz91_2
 try clear hfz91_3
 try clear hfz91_4
 try clear hfz95_0
 try clear hfz95_1
 try clear hfz95_2
 try clear hfz95_3
 try clear hfz95_4
 try clear hfz98_0
 try clear hfz98_1
 try clear hfz98_2
 try clear hfz98_3
 try clear hfz98_4
 try clear hx107_0
 try clear hx107_1
 try clear hx107_2
 try clear hx107_3
 try clear hx107_4
 try clear hx115_0
 try clear hx121_0
 try clear hx131_0
 try clear hx136_0
 try clear hx13_0
 try clear hx32_0
 try clear hx64_0
 try clear hx86_0
 try clear p107
 try clear p115
 try clear p121
 try clear p13
 try clear p131
 try clear p136
 try clear p2
 try clear p32
 try clear p64
 try clear p86
 try clear q107
 try clear q115
 try clear q121
 try clear q13
 try clear q131
 try clear q136
 try clear q32
 try clear q64
 try clear q86
 obtain ⟨kq, x122_100, rfl, HA, HJ100, HO_4, HO_5, BK108, BK109, HB⟩ := hcut
 cases kq with
 | zero => exact absurd HA.out (by simp [zbr])
 | succ kj100 =>
 have H := HA.out
 clear HA
 simp only [zbr] at H
 by_cases c103 : x122_100 = true
 · subst c103
   replace H : (if 0 ≤ ((zaa l0 x17_1).f2) then (if ((zaa l0 x17_1).f2) < (x5_1.length : Int) then ((zbl x4_1 ((zaa l0 x17_1).f0) (rd x5_1 ((zaa l0 x17_1).f2)) 0 0).bind fun bt143 => (if 0 ≤ ((zaa l0 x17_1).f1) then (if ((zaa l0 x17_1).f1) < (x5_1.length : Int) then (zaj kj100 bt143.1 (x5_1.set (((zaa l0 x17_1).f1) : Int).toNat bt143.2) l0 (l0.length : Int) (wrap64 (x17_1 + 1))) else (none)) else (none))) else (none)) else (none)) = some (r1, r2) := by rw [if_pos rfl] at H; exact H
   revert H
   refine zin fun c104 H => ?_
   revert H
   refine zin fun c105 H => ?_
   replace H := zob H
   obtain ⟨⟨t143, t146⟩, A1060, H⟩ := H
   replace H : (if 0 ≤ ((zaa l0 x17_1).f1) then (if ((zaa l0 x17_1).f1) < (x5_1.length : Int) then (zaj kj100 t143 (x5_1.set (((zaa l0 x17_1).f1) : Int).toNat t146) l0 (l0.length : Int) (wrap64 (x17_1 + 1))) else (none)) else (none)) = some (r1, r2) := H
   have A106 := zA A1060
   clear A1060
   revert H
   refine zin fun c107 H => ?_
   revert H
   refine zin fun c108 H => ?_
   obtain ⟨y147, hy147⟩ : ∃ y_ : List Int, y_ = (x5_1.set (((zaa l0 x17_1).f1) : Int).toNat t146) := ⟨_, rfl⟩
   replace H : (zaj kj100 t143 y147 l0 (l0.length : Int) (wrap64 (x17_1 + 1))) = some (r1, r2) := by first | (rw [hy147]; with_reducible exact H) | (have H2_ := (Option.bind_some _ _).symm.trans H; rw [hy147]; with_reducible exact H2_) | (have H2_ := (Option.bind_some _ _).symm.trans H; with_reducible exact H2_) | with_reducible exact H | (rw [hy147]; exact H) | exact H
   have Ny147 := zA hy147
   clear hy147
   have H' := zA H
   clear H
   try go_wp2
   replace HO_4 := zA (zRd HO_4.out)
   replace HO_5 := zA (zRd HO_5.out)
   replace BK108 := zA (zkd BK108.out)
   replace BK109 := zA (zkd BK109.out)
   replace HB := zA (zbd HB.out)
   obtain ⟨Ao111, co111, eo111⟩ := Kd.R_slice HO_5.out
   (first | subst eo111 | (injection eo111 with f1_ f2_ f3_; have f4_ := f1_.symm; have f5_ := f3_.symm; clear f1_ f2_ f3_; subst f4_; subst f5_))
   have p142 : 0 ≤ (((zaa l0 x17_1).f2) : Int) := zde zq16
   have q142 : ((zaa l0 x17_1).f2) < (x5_1.length : Int) := zde zq16
   obtain ⟨ad142, e142, hx142_0⟩ := Kd.at_int (zRr HO_5.out).2.2 ((zaa l0 x17_1).f2) p142 q142
   cases e142
   replace p142 := eq_true p142
   replace q142 := eq_true q142
   obtain ⟨Ao112, co112, eo112⟩ := Kd.R_slice HO_4.out
   (first | subst eo112 | (injection eo112 with f1_ f2_ f3_; have f4_ := f1_.symm; have f5_ := f3_.symm; clear f1_ f2_ f3_; subst f4_; subst f5_))
   refine zmp (n := 15) (S := fun w' => w'.cell? ⟨gb108, 0, none⟩ = some (.string ((zaa l0 x17_1).f0)) ∧ w'.cell? ⟨gb108, 1, none⟩ = some (.int .i64 ((zaa l0 x17_1).f1)) ∧ w'.cell? ⟨gb108, 2, none⟩ = some (.int .i64 ((zaa l0 x17_1).f2)) ∧ w'.cell? ⟨gb108, 3, none⟩ = some (.int .i64 ((zaa l0 x17_1).f3)) ∧ w'.cell? ⟨gb108, 4, none⟩ = some (.int .i64 ((zaa l0 x17_1).f4)) ∧ w'.cell? (ad142.add (((zaa l0 x17_1).f2)).toNat) = some (.int .i64 (rd x5_1 ((zaa l0 x17_1).f2)))) (ds := []) #[false, false, false, false, false, false, false, false, false, false, false, false, false, false, false] zq23 rfl rfl ⟨(zac BK108.out 0).trans rfl, (zac BK108.out 1).trans rfl, (zac BK108.out 2).trans rfl, (zac BK108.out 3).trans rfl, (zac BK108.out 4).trans rfl, hx142_0⟩ (fun hHeld => ?_); refine zhu zk6 zkr (fun HT_ HW_ => ?_)
   generalize wc.drew = w110 at HO_4 HO_5 BK108 BK109 HB hx142_0 hHeld ⊢
   refine zpu 0 126 HT_ ?_
   refine zpu 1 127 HT_ ?_
   refine zpu 3 129 HT_ ?_
   refine zpu 4 130 HT_ ?_
   refine ztu 2 128 HT_ HW_ hHeld ?_
   refine ztu 5 131 HT_ HW_ hHeld ?_
   refine zpu 6 132 HT_ ?_
   refine ztu 7 133 HT_ HW_ hHeld ?_
   refine zpu 8 134 HT_ ?_
   refine one_ (i := 9) (N := some 135) #[true, true, true, true, true, true, true, true, true, true, false, false, false, false, false] rfl rfl (zmt HT_.out zq23) (by decide) (fun K hK => ?_)
   refine zpd Try.func164 zq23 rfl #[.slice Ao112 x4_1.length co112, .agg #[.string ((zaa l0 x17_1).f0), .int .i64 (rd x5_1 ((zaa l0 x17_1).f2)), .int .i64 0, .int .i64 0]] (by rfl) rfl rfl zq9 ?_
   with_reducible refine (zdx (fun k_ => some k_ = (.slice Ao112 x4_1.length co112 : Value).ownBlock) (.slice Ao112 x4_1.length co112) x4_1 ((zaa l0 x17_1).f0) (rd x5_1 ((zaa l0 x17_1).f2)) 0 0 t143 t146 w _ ?side1 ?side2 A106.out).mono ?_
   (case side1 => repeat (first | (with_reducible first | exact HB.out | apply zba | apply zbn | apply zbd | refine zae ?_ GE108.out | refine zae ?_ GE109.out) | exact HB.out))
   (case side2 => exact Kd.R_tight rfl HO_4.out)
   rintro e w113 ⟨v144, rfl, ho0, hb, hkp⟩
   have HS5_ := zmn (hHeld.2.2.2.2.2) hkp (zq28 HO_5 HO_4)
   refine ⟨_, rfl, ?_⟩
   replace HO_5 := zA (Kd.R_mono (ok' := fun k_ => True) (Kd.R_keptB ((Kd.R_apart' HO_5.out (Kd.R_typed HO_4.out) (by decide))) hkp (fun k_ hk_ hs_ => (hk_.2) hs_)) (fun k_ hk_ => trivial))
   replace BK108 := zA (zfh (zq5 BK108) hkp (fun hs_ => (fun e_ => (Kd.R_ne HO_4.out BK108.out (by decide)) e_) hs_))
   have HO145 := zA (Kd.R_mono (ok' := fun k_ => k_ ≠ gb109) ho0 (fun k_ hk_ => Or.elim hk_ (fun hs_ => fun e_ => (Kd.R_away HO_4.out (fun _ hk => hk)) zq48) (fun hn_ => (Kd.freshB (g := gb109) (o := .cells #[.string (⟨#[99, 111, 110, 115, 116]⟩ : ByteArray), .int .i64 0, .int .i64 0, .int .i64 ((zaa l0 x17_1).f4)] 72 (0, 0)) (zq5 BK109) k_ hn_))))
   replace BK109 := zA (zfh (zq5 BK109) hkp (fun hs_ => (fun e_ => (Kd.R_away HO_4.out (fun _ hk => hk)) e_) hs_))
   replace HB := zA (hb)
   clear HO_4
   (try clear hb)
   (try clear hkp)
   (try clear ho0)
   refine hK.out _ _ ⟨(zac BK108.out 0).trans rfl, (zac BK108.out 1).trans rfl, (zac BK108.out 2).trans rfl, (zac BK108.out 3).trans rfl, (zac BK108.out 4).trans rfl, HS5_⟩ (fun hHeld => ?_)
   clear hK K
   refine znm 135 ?_
   refine zpu 10 125 HT_ ?_
   refine zpu 11 136 HT_ ?_
   refine zpu 12 137 HT_ ?_
   refine zpu 13 4 HT_ ?_
   refine zpu 14 9 HT_ ?_
   refine zqp (zky HT_.out zq23) ?_
   have hnb114 := NB108_109.out
   have hnc114 := NB109_108.out
   obtain ⟨hcz115_0, hcz115_1, hcz115_2, hcz115_3, hcz115_4⟩ := zc5 w113 (.string ((zaa l0 x17_1).f0)) (.int .i64 ((zaa l0 x17_1).f1)) (.int .i64 ((zaa l0 x17_1).f2)) (.int .i64 ((zaa l0 x17_1).f3)) (.int .i64 ((zaa l0 x17_1).f4)) BK108.out
   obtain ⟨hfz115_0, hfz115_1, hfz115_2, hfz115_3, hfz115_4⟩ := zf5 BK108.out
   have p109 : 0 ≤ (((zaa l0 x17_1).f1) : Int) := zde zq16
   have q109 : (((zaa l0 x17_1).f1) : Int) < ((x5_1.length : Int) : Int) := zde zq16
   obtain ⟨go109, co109, eo109, gb109, gl109, cl109, HG109⟩ := Kd.R_form HO_5.out (by omega)
   (first | cases eo109 | (injection eo109 with ea_ en_ ec_; (first | subst ea_ | (injection ea_ with ea_; subst ea_)); subst ec_; clear en_))
   have GB109 := zA gb109
   have GG109 := zA HG109
   clear gb109 gl109 HG109
   (first | simp only [zcw] at hx142_0 | skip)
   obtain ⟨hx109_0, hf109_0⟩ := Kd.R_celln 0 HO_5.out (((zaa l0 x17_1).f1) : Int) p109 q109
   replace p109 := eq_true p109
   replace q109 := eq_true q109
   obtain ⟨hy116_, hz116_⟩ := Kd.R_celln 0 HO_5.out (((zaa l0 x17_1).f1) : Int) (zde zq16) (zde zq16)
   have HP116 := Kd.R_putg HO_5.out (((zaa l0 x17_1).f1) : Int) t146
   try go_wp2_with (first | ((with_reducible refine zgs 3 142 ?_); refine zse (w113.setCell ⟨go109, (((zaa l0 x17_1).f1) : Int).toNat, none⟩ (.int .i64 t146)) ?_; intro w117 hw; have hg : w113.grownBy w117 (some go109) := (by rw [hw]; exact HP116.2); have hp_ : Kd.R (Kd.int .i64) 3 w117 w.heap.size (fun _ => True) (.slice (some ⟨go109, 0, none⟩) x5_1.length co111) y147 := (by rw [hw, Ny147.out]; exact HP116.1); clear HP116; replace BK108 := zA (zed (g := gb108) (o := .cells #[.string ((zaa l0 x17_1).f0), .int .i64 ((zaa l0 x17_1).f1), .int .i64 ((zaa l0 x17_1).f2), .int .i64 ((zaa l0 x17_1).f3), .int .i64 ((zaa l0 x17_1).f4)] 94 (0, 0)) (zq5 BK108) hg (Kd.R_ne HO_5.out BK108.out (by decide))); replace BK109 := zA (zed (g := gb109) (o := .cells #[.string (⟨#[99, 111, 110, 115, 116]⟩ : ByteArray), .int .i64 0, .int .i64 0, .int .i64 ((zaa l0 x17_1).f4)] 72 (0, 0)) (zq5 BK109) hg (Kd.R_ne HO_5.out BK109.out (by decide))); replace HO145 := zA (Kd.R_over' (v := (.slice (some ⟨go109, 0, none⟩) x5_1.length co111)) (zq3 HO145) (Kd.R_typed HO_5.out) (by decide) hg); replace HO_5 := zA (hp_); replace HB := zA ((zq32 GB109 : Below w.heap.size w w117)); clear hg hw hp_))
   go_roundg kj100
   case measure => have := HK1.out; have := HJ42.out; have := HJ100.out; omega
   case rel => exact ⟨(t143), (y147), (wrap64 (x17_1 + 1)), zq6, H', ⟨by have := HK1.out; have := HJ42.out; have := HJ100.out; omega⟩, ⟨zq27 HO145⟩, ⟨zq3 HO_5⟩, ⟨zq10 GE108 GE109⟩⟩
 replace c103 := zbf c103
 subst c103
 replace H : (if 0 ≤ ((zaa l0 x17_1).f2) then (if ((zaa l0 x17_1).f2) < (x5_1.length : Int) then (if 0 ≤ ((zaa l0 x17_1).f3) then (if ((zaa l0 x17_1).f3) < (x5_1.length : Int) then ((zbl x4_1 ((zaa l0 x17_1).f0) (rd x5_1 ((zaa l0 x17_1).f2)) (rd x5_1 ((zaa l0 x17_1).f3)) 0).bind fun bt150 => (if 0 ≤ ((zaa l0 x17_1).f1) then (if ((zaa l0 x17_1).f1) < (x5_1.length : Int) then (zaj kj100 bt150.1 (x5_1.set (((zaa l0 x17_1).f1) : Int).toNat bt150.2) l0 (l0.length : Int) (wrap64 (x17_1 + 1))) else (none)) else (none))) else (none)) else (none)) else (none)) else (none)) = some (r1, r2) := by rw [if_neg (show ¬ (false = true) by decide)] at H; exact H
 revert H
 refine zin fun c118 H => ?_
 revert H
 refine zin fun c119 H => ?_
 revert H
 refine zin fun c120 H => ?_
 revert H
 refine zin fun c121 H => ?_
 replace H := zob H
 obtain ⟨⟨t150, t153⟩, A1220, H⟩ := H
 replace H : (if 0 ≤ ((zaa l0 x17_1).f1) then (if ((zaa l0 x17_1).f1) < (x5_1.length : Int) then (zaj kj100 t150 (x5_1.set (((zaa l0 x17_1).f1) : Int).toNat t153) l0 (l0.length : Int) (wrap64 (x17_1 + 1))) else (none)) else (none)) = some (r1, r2) := H
 have A122 := zA A1220
 clear A1220
 revert H
 refine zin fun c123 H => ?_
 revert H
 refine zin fun c124 H => ?_
 obtain ⟨y154, hy154⟩ : ∃ y_ : List Int, y_ = (x5_1.set (((zaa l0 x17_1).f1) : Int).toNat t153) := ⟨_, rfl⟩
 replace H : (zaj kj100 t150 y154 l0 (l0.length : Int) (wrap64 (x17_1 + 1))) = some (r1, r2) := by first | (rw [hy154]; with_reducible exact H) | (have H2_ := (Option.bind_some _ _).symm.trans H; rw [hy154]; with_reducible exact H2_) | (have H2_ := (Option.bind_some _ _).symm.trans H; with_reducible exact H2_) | with_reducible exact H | (rw [hy154]; exact H) | exact H
 have Ny154 := zA hy154
 clear hy154
 have H' := zA H
 clear H
 try go_wp2
 replace HO_4 := zA (zRd HO_4.out)
 replace HO_5 := zA (zRd HO_5.out)
 replace BK108 := zA (zkd BK108.out)
 replace BK109 := zA (zkd BK109.out)
 replace HB := zA (zbd HB.out)
 obtain ⟨Ao127, co127, eo127⟩ := Kd.R_slice HO_5.out
 (first | subst eo127 | (injection eo127 with f1_ f2_ f3_; have f4_ := f1_.symm; have f5_ := f3_.symm; clear f1_ f2_ f3_; subst f4_; subst f5_))
 have p148 : 0 ≤ (((zaa l0 x17_1).f2) : Int) := zde zq16
 have q148 : ((zaa l0 x17_1).f2) < (x5_1.length : Int) := zde zq16
 obtain ⟨ad148, e148, hx148_0⟩ := Kd.at_int (zRr HO_5.out).2.2 ((zaa l0 x17_1).f2) p148 q148
 cases e148
 replace p148 := eq_true p148
 replace q148 := eq_true q148
 have p149 : 0 ≤ (((zaa l0 x17_1).f3) : Int) := zde zq16
 have q149 : ((zaa l0 x17_1).f3) < (x5_1.length : Int) := zde zq16
 obtain ⟨ad149, e149, hx149_0⟩ := Kd.at_int (zRr HO_5.out).2.2 ((zaa l0 x17_1).f3) p149 q149
 obtain rfl : ad148 = ad149 := (by injection e149)
 replace p149 := eq_true p149
 replace q149 := eq_true q149
 obtain ⟨Ao128, co128, eo128⟩ := Kd.R_slice HO_4.out
 (first | subst eo128 | (injection eo128 with f1_ f2_ f3_; have f4_ := f1_.symm; have f5_ := f3_.symm; clear f1_ f2_ f3_; subst f4_; subst f5_))
 refine zmp (n := 20) (S := fun w' => w'.cell? ⟨gb108, 0, none⟩ = some (.string ((zaa l0 x17_1).f0)) ∧ w'.cell? ⟨gb108, 1, none⟩ = some (.int .i64 ((zaa l0 x17_1).f1)) ∧ w'.cell? ⟨gb108, 2, none⟩ = some (.int .i64 ((zaa l0 x17_1).f2)) ∧ w'.cell? ⟨gb108, 3, none⟩ = some (.int .i64 ((zaa l0 x17_1).f3)) ∧ w'.cell? ⟨gb108, 4, none⟩ = some (.int .i64 ((zaa l0 x17_1).f4)) ∧ w'.cell? (ad148.add (((zaa l0 x17_1).f2)).toNat) = some (.int .i64 (rd x5_1 ((zaa l0 x17_1).f2))) ∧ w'.cell? (ad148.add (((zaa l0 x17_1).f3)).toNat) = some (.int .i64 (rd x5_1 ((zaa l0 x17_1).f3)))) (ds := []) #[false, false, false, false, false, false, false, false, false, false, false, false, false, false, false, false, false, false, false, false] zq23 rfl rfl ⟨(zac BK108.out 0).trans rfl, (zac BK108.out 1).trans rfl, (zac BK108.out 2).trans rfl, (zac BK108.out 3).trans rfl, (zac BK108.out 4).trans rfl, hx148_0, hx149_0⟩ (fun hHeld => ?_); refine zhu zls zk4 (fun HT_ HW_ => ?_)
 generalize wc.drew = w126 at HO_4 HO_5 BK108 BK109 HB hx148_0 hx149_0 hHeld ⊢
 refine zpu 0 27 HT_ ?_
 refine zpu 1 28 HT_ ?_
 refine zpu 3 30 HT_ ?_
 refine zpu 4 31 HT_ ?_
 refine zpu 8 35 HT_ ?_
 refine zpu 9 36 HT_ ?_
 refine ztu 2 29 HT_ HW_ hHeld ?_
 refine ztu 5 32 HT_ HW_ hHeld ?_
 refine zpu 6 33 HT_ ?_
 refine ztu 7 34 HT_ HW_ hHeld ?_
 refine ztu 10 37 HT_ HW_ hHeld ?_
 refine zpu 11 38 HT_ ?_
 refine ztu 12 39 HT_ HW_ hHeld ?_
 refine zpu 13 40 HT_ ?_
 refine one_ (i := 14) (N := some 41) #[true, true, true, true, true, true, true, true, true, true, true, true, true, true, true, false, false, false, false, false] rfl rfl (zmt HT_.out zq23) (by decide) (fun K hK => ?_)
 refine zpd Try.func164 zq23 rfl #[.slice Ao128 x4_1.length co128, .agg #[.string ((zaa l0 x17_1).f0), .int .i64 (rd x5_1 ((zaa l0 x17_1).f2)), .int .i64 (rd x5_1 ((zaa l0 x17_1).f3)), .int .i64 0]] (by rfl) rfl rfl zq9 ?_
 with_reducible refine (zdx (fun k_ => some k_ = (.slice Ao128 x4_1.length co128 : Value).ownBlock) (.slice Ao128 x4_1.length co128) x4_1 ((zaa l0 x17_1).f0) (rd x5_1 ((zaa l0 x17_1).f2)) (rd x5_1 ((zaa l0 x17_1).f3)) 0 t150 t153 w _ ?side1 ?side2 A122.out).mono ?_
 (case side1 => repeat (first | (with_reducible first | exact HB.out | apply zba | apply zbn | apply zbd | refine zae ?_ GE108.out | refine zae ?_ GE109.out) | exact HB.out))
 (case side2 => exact Kd.R_tight rfl HO_4.out)
 rintro e w129 ⟨v151, rfl, ho0, hb, hkp⟩
 have HS5_ := zmn (hHeld.2.2.2.2.2.1) hkp (zq28 HO_5 HO_4)
 have HS6_ := zmn (hHeld.2.2.2.2.2.2) hkp (zq28 HO_5 HO_4)
 refine ⟨_, rfl, ?_⟩
 replace HO_5 := zA (Kd.R_mono (ok' := fun k_ => True) (Kd.R_keptB ((Kd.R_apart' HO_5.out (Kd.R_typed HO_4.out) (by decide))) hkp (fun k_ hk_ hs_ => (hk_.2) hs_)) (fun k_ hk_ => trivial))
 replace BK108 := zA (zfh (zq5 BK108) hkp (fun hs_ => (fun e_ => (Kd.R_ne HO_4.out BK108.out (by decide)) e_) hs_))
 have HO152 := zA (Kd.R_mono (ok' := fun k_ => k_ ≠ gb109) ho0 (fun k_ hk_ => Or.elim hk_ (fun hs_ => fun e_ => (Kd.R_away HO_4.out (fun _ hk => hk)) zq48) (fun hn_ => (Kd.freshB (g := gb109) (o := .cells #[.string (⟨#[99, 111, 110, 115, 116]⟩ : ByteArray), .int .i64 0, .int .i64 0, .int .i64 ((zaa l0 x17_1).f4)] 72 (0, 0)) (zq5 BK109) k_ hn_))))
 replace BK109 := zA (zfh (zq5 BK109) hkp (fun hs_ => (fun e_ => (Kd.R_away HO_4.out (fun _ hk => hk)) e_) hs_))
 replace HB := zA (hb)
 clear HO_4
 (try clear hb)
 (try clear hkp)
 (try clear ho0)
 refine hK.out _ _ ⟨(zac BK108.out 0).trans rfl, (zac BK108.out 1).trans rfl, (zac BK108.out 2).trans rfl, (zac BK108.out 3).trans rfl, (zac BK108.out 4).trans rfl, HS5_, HS6_⟩ (fun hHeld => ?_)
 clear hK K
 refine znm 41 ?_
 refine zpu 15 26 HT_ ?_
 refine zpu 16 42 HT_ ?_
 refine zpu 17 43 HT_ ?_
 refine zpu 18 4 HT_ ?_
 refine zpu 19 9 HT_ ?_
 refine zqp (zky HT_.out zq23) ?_
 have hnb130 := NB108_109.out
 have hnc130 := NB109_108.out
 obtain ⟨hcz131_0, hcz131_1, hcz131_2, hcz131_3, hcz131_4⟩ := zc5 w129 (.string ((zaa l0 x17_1).f0)) (.int .i64 ((zaa l0 x17_1).f1)) (.int .i64 ((zaa l0 x17_1).f2)) (.int .i64 ((zaa l0 x17_1).f3)) (.int .i64 ((zaa l0 x17_1).f4)) BK108.out
 obtain ⟨hfz131_0, hfz131_1, hfz131_2, hfz131_3, hfz131_4⟩ := zf5 BK108.out
 have p125 : 0 ≤ (((zaa l0 x17_1).f1) : Int) := zde zq16
 have q125 : (((zaa l0 x17_1).f1) : Int) < ((x5_1.length : Int) : Int) := zde zq16
 obtain ⟨go125, co125, eo125, gb125, gl125, cl125, HG125⟩ := Kd.R_form HO_5.out (by omega)
 (first | cases eo125 | (injection eo125 with ea_ en_ ec_; (first | subst ea_ | (injection ea_ with ea_; subst ea_)); subst ec_; clear en_))
 have GB125 := zA gb125
 have GG125 := zA HG125
 clear gb125 gl125 HG125
 (first | simp only [zcw] at hx148_0 | skip)
 (first | simp only [zcw] at hx149_0 | skip)
 obtain ⟨hx125_0, hf125_0⟩ := Kd.R_celln 0 HO_5.out (((zaa l0 x17_1).f1) : Int) p125 q125
 replace p125 := eq_true p125
 replace q125 := eq_true q125
 obtain ⟨hy132_, hz132_⟩ := Kd.R_celln 0 HO_5.out (((zaa l0 x17_1).f1) : Int) (zde zq16) (zde zq16)
 have HP132 := Kd.R_putg HO_5.out (((zaa l0 x17_1).f1) : Int) t153
 try go_wp2_with (first | ((with_reducible refine zgs 3 142 ?_); refine zse (w129.setCell ⟨go125, (((zaa l0 x17_1).f1) : Int).toNat, none⟩ (.int .i64 t153)) ?_; intro w133 hw; have hg : w129.grownBy w133 (some go125) := (by rw [hw]; exact HP132.2); have hp_ : Kd.R (Kd.int .i64) 3 w133 w.heap.size (fun _ => True) (.slice (some ⟨go125, 0, none⟩) x5_1.length co127) y154 := (by rw [hw, Ny154.out]; exact HP132.1); clear HP132; replace BK108 := zA (zed (g := gb108) (o := .cells #[.string ((zaa l0 x17_1).f0), .int .i64 ((zaa l0 x17_1).f1), .int .i64 ((zaa l0 x17_1).f2), .int .i64 ((zaa l0 x17_1).f3), .int .i64 ((zaa l0 x17_1).f4)] 94 (0, 0)) (zq5 BK108) hg (Kd.R_ne HO_5.out BK108.out (by decide))); replace BK109 := zA (zed (g := gb109) (o := .cells #[.string (⟨#[99, 111, 110, 115, 116]⟩ : ByteArray), .int .i64 0, .int .i64 0, .int .i64 ((zaa l0 x17_1).f4)] 72 (0, 0)) (zq5 BK109) hg (Kd.R_ne HO_5.out BK109.out (by decide))); replace HO152 := zA (Kd.R_over' (v := (.slice (some ⟨go125, 0, none⟩) x5_1.length co127)) (zq3 HO152) (Kd.R_typed HO_5.out) (by decide) hg); replace HO_5 := zA (hp_); replace HB := zA ((zq32 GB125 : Below w.heap.size w w133)); clear hg hw hp_))
 go_roundg kj100
 case measure => have := HK1.out; have := HJ42.out; have := HJ100.out; omega
 case rel => exact ⟨(t150), (y154), (wrap64 (x17_1 + 1)), zq6, H', ⟨by have := HK1.out; have := HJ42.out; have := HJ100.out; omega⟩, ⟨zq27 HO152⟩, ⟨zq3 HO_5⟩, ⟨zq10 GE108 GE109⟩⟩
end Go.Proofs.Ytkfkbmlbpeojaaa.Q
end
section
namespace Go.Proofs.Ytkfkbmlbpeojaaa.Q
open Go.RowKit Go.Proofs.YtkfkbmlbpeojaaaW.PrintWords Go.Proofs.YtkfkbmlbpeojaaaW.PrintLast Go.Proofs.YtkfkbmlbpeojaaaW.PrintMore
attribute [local go_sem] zcs zct zdo zdp zb2 zb3 zcu zcv
set_option linter.unusedVariables false
set_option linter.unusedSimpArgs false
def zd7 (k : Nat) (l0 : List (S94)) (a1 : Int) : Option ((List (S72)) × Bool) := (zem k l0).bind fun bt101 => (if 0 ≤ a1 then (if a1 < (bt101.2.length : Int) then ((zeg k bt101.1 (rd bt101.2 a1)).bind fun t108 => ((zc2 k t108).bind fun t111 => ((zd6 k t111).bind fun t114 => (some (t111, t114))))) else (none)) else (none))
theorem zmc : ∀ a0 a1 k, LeO (zd7 k a0 a1) (zd7 (k + 1) a0 a1) := by
 intro a0 a1 k
 unfold zd7
 exact zm4 zn7 zj7 zhg zlp
set_option maxHeartbeats 8000000 in
set_option maxRecDepth 100000 in
theorem zij (k : Nat) (A0 : Option Addr) (c0 : Nat) (l0 : List (S94)) (a1 : Int) (r1 : List (S72)) (r2 : Bool) (w : World) (hr0 : Kd.C k94 w A0 l0.length l0) (hc0 : l0.length ≤ c0) (h : zd7 k l0 a1 = some (r1, r2)) :
   Calls Try.prog 68 #[.slice A0 l0.length c0, .int .i64 a1] w fun e w' => ∃ v0_ : Value, e = .returned (.tuple #[v0_, .bool r2]) ∧ Kd.R k72 72 w' w.heap.size (fun _ => True) v0_ r1 ∧ Below w.heap.size w w' := by
 have HR0 := zA hr0
 have HC0 := zA hc0
 clear hr0 hc0
 have HB := zA (Below.refl w.heap.size w)
 have H : ((zem k l0).bind fun bt101 => (if 0 ≤ a1 then (if a1 < (bt101.2.length : Int) then ((zeg k bt101.1 (rd bt101.2 a1)).bind fun t108 => ((zc2 k t108).bind fun t111 => ((zd6 k t111).bind fun t114 => (some (t111, t114))))) else (none)) else (none))) = some (r1, r2) := h
 clear h
 replace H := zob H
 obtain ⟨⟨t101, t102⟩, A30, H⟩ := H
 replace H : (if 0 ≤ a1 then (if a1 < (t102.length : Int) then ((zeg k t101 (rd t102 a1)).bind fun t108 => ((zc2 k t108).bind fun t111 => ((zd6 k t111).bind fun t114 => (some (t111, t114))))) else (none)) else (none)) = some (r1, r2) := H
 have A3 := zA A30
 clear A30
 revert H
 refine zin fun c4 H => ?_
 revert H
 refine zin fun c5 H => ?_
 replace H := zob H
 obtain ⟨t108, A60, H⟩ := H
 replace H : ((zc2 k t108).bind fun t111 => ((zd6 k t111).bind fun t114 => (some (t111, t114)))) = some (r1, r2) := H
 have A6 := zA A60
 clear A60
 replace H := zob H
 obtain ⟨t111, A70, H⟩ := H
 replace H : ((zd6 k t111).bind fun t114 => (some (t111, t114))) = some (r1, r2) := H
 have A7 := zA A70
 clear A70
 replace H := zob H
 obtain ⟨t114, A80, H⟩ := H
 replace H : (some (t111, t114)) = some (r1, r2) := H
 have A8 := zA A80
 clear A80
 simp only [Option.some.injEq, Prod.mk.injEq] at H
 obtain ⟨rfl, rfl⟩ := H
 go_enter Try.func68, Try.ntmps68
 go_wp2_with (first | ((with_reducible refine zax (f := 113) rfl ?_); refine zdu (some 11) rfl rfl Try.func113 zq23 rfl #[.slice A0 l0.length c0] rfl zq9 ?_; (with_reducible refine (zk7 k _ _ l0 t101 t102 _ ?side1 ?side2 A3.out).mono ?_); (case side1 => repeat (first | exact HR0.out | (with_reducible first | refine zCa ?_ _ | refine zCn ?_ _ | refine zCd ?_))); (case side2 => exact HC0.out); rintro e w9 ⟨v103, v105, rfl, ho0, ho1, hb⟩; refine ⟨_, rfl, ?_⟩; have HO104 := zA (Kd.R_lower ho0 (zar zq1)); have HO106 := zA (Kd.R_lower ho1 (zar zq1)); replace HB := zA (zad zq1 hb); (try clear hb); (try clear ho0); (try clear ho1); obtain ⟨Ao10, co10, eo10⟩ := Kd.R_slice HO106.out; subst eo10; have p107 : 0 ≤ (a1 : Int) := zde zq16; have q107 : a1 < (t102.length : Int) := zde zq16; obtain ⟨ad107, e107, hx107_0⟩ := Kd.at_int (zRr HO106.out).2.2 a1 p107 q107; cases e107; replace p107 := eq_true p107; replace q107 := eq_true q107; obtain ⟨Ao11, co11, eo11⟩ := Kd.R_slice HO104.out; subst eo11) | ((with_reducible refine zax (f := 114) rfl ?_); refine zdu (some 19) rfl rfl Try.func114 zq23 rfl #[.slice Ao11 t101.length co11, .int .i64 (rd t102 a1)] rfl zq9 ?_; (with_reducible refine (zjp k _ _ t101 (rd t102 a1) t108 _ ?side1 ?side2 A6.out).mono ?_); (case side1 => repeat (first | exact (zRr HO104.out).2.2 | (with_reducible first | refine zCa ?_ _ | refine zCn ?_ _ | refine zCd ?_))); (case side2 => exact (zRr HO104.out).2.1); rintro e w12 ⟨v109, rfl, ho0, hb⟩; refine ⟨_, rfl, ?_⟩; replace HO106 := zA (zRb (zq3 HO106) hb); have HO110 := zA (Kd.R_lower (Kd.R_new' ho0 (Kd.R_lt (zq3 HO104))) (zar zq1)); replace HO104 := zA (Kd.R_elder' (zq3 HO104) (Kd.R_base ho0) hb); replace HB := zA (zad zq1 hb); (try clear hb); (try clear ho0); obtain ⟨Ao13, co13, eo13⟩ := Kd.R_slice HO110.out; subst eo13) | ((with_reducible refine zax (f := 95) rfl ?_); refine zdu (some 20) rfl rfl Try.func95 zq23 rfl #[.slice Ao13 t108.length co13] rfl zq9 ?_; (with_reducible refine (zg6 k _ _ t108 t111 _ ?side1 ?side2 A7.out).mono ?_); (case side1 => repeat (first | exact (zRr HO110.out).2.2 | (with_reducible first | refine zCa ?_ _ | refine zCn ?_ _ | refine zCd ?_))); (case side2 => exact (zRr HO110.out).2.1); rintro e w14 ⟨v112, rfl, ho0, hb⟩; refine ⟨_, rfl, ?_⟩; replace HO106 := zA (zRb (zq3 HO106) hb); have HO113 := zA (Kd.R_lower (Kd.R_new' (Kd.R_new' ho0 (Kd.R_lt (zq3 HO104))) (Kd.R_lt (zq3 HO110))) (zar zq1)); replace HO104 := zA (Kd.R_elder' (zq3 HO104) (Kd.R_base ho0) hb); replace HO110 := zA (Kd.R_elder' (zq3 HO110) (Kd.R_base ho0) hb); replace HB := zA (zad zq1 hb); (try clear hb); (try clear ho0); obtain ⟨Ao15, co15, eo15⟩ := Kd.R_slice HO113.out; subst eo15) | ((with_reducible refine zax (f := 43) rfl ?_); refine zdu (some 23) rfl rfl Try.func43 zq23 rfl #[.slice Ao15 t111.length co15] rfl zq9 ?_; (with_reducible refine (znf k _ _ t111 t114 _ ?side1 ?side2 A8.out).mono ?_); (case side1 => repeat (first | exact (zRr HO113.out).2.2 | (with_reducible first | refine zCa ?_ _ | refine zCn ?_ _ | refine zCd ?_))); (case side2 => exact (zRr HO113.out).2.1); rintro e w16 ⟨rfl, hb⟩; refine ⟨_, rfl, ?_⟩; replace HO104 := zA (zRb (zq3 HO104) hb); replace HO106 := zA (zRb (zq3 HO106) hb); replace HO110 := zA (zRb (zq3 HO110) hb); replace HO113 := zA (zRb (zq3 HO113) hb); replace HB := zA (zad zq1 hb); (try clear hb)))
 go_ret2
 exact ⟨_, zq4, zq27 HO113, zq1⟩
def zdh (k : Nat) (l0 : List (S94)) (a1 : Int) : Option ((List (S72)) × Bool) := (zd7 k l0 a1).bind fun bt101 => (if bt101.2 = true then ((zds k bt101.1).bind fun t105 => ((zcj k t105).bind fun t108 => (some (t108, true)))) else (some (([] : List (S72)), false)))
theorem znh : ∀ a0 a1 k, LeO (zdh k a0 a1) (zdh (k + 1) a0 a1) := by
 intro a0 a1 k
 unfold zdh
 exact zm3 zn4 znc zmc
set_option maxHeartbeats 8000000 in
set_option maxRecDepth 100000 in
theorem zmd (k : Nat) (A0 : Option Addr) (c0 : Nat) (l0 : List (S94)) (a1 : Int) (r1 : List (S72)) (r2 : Bool) (w : World) (hr0 : Kd.C k94 w A0 l0.length l0) (hc0 : l0.length ≤ c0) (h : zdh k l0 a1 = some (r1, r2)) :
   Calls Try.prog 77 #[.slice A0 l0.length c0, .int .i64 a1] w fun e w' => ∃ v0_ : Value, e = .returned (.tuple #[v0_, .bool r2]) ∧ Kd.R k72 72 w' w.heap.size (fun _ => True) v0_ r1 ∧ Below w.heap.size w w' := by
 have HR0 := zA hr0
 have HC0 := zA hc0
 clear hr0 hc0
 have HB := zA (Below.refl w.heap.size w)
 have H : ((zd7 k l0 a1).bind fun bt101 => (if bt101.2 = true then ((zds k bt101.1).bind fun t105 => ((zcj k t105).bind fun t108 => (some (t108, true)))) else (some (([] : List (S72)), false)))) = some (r1, r2) := h
 clear h
 replace H := zob H
 obtain ⟨⟨t101, t102⟩, A30, H⟩ := H
 replace H : (if t102 = true then ((zds k t101).bind fun t105 => ((zcj k t105).bind fun t108 => (some (t108, true)))) else (some (([] : List (S72)), false))) = some (r1, r2) := H
 have A3 := zA A30
 clear A30
 by_cases c4 : t102 = true
 rotate_left
 · replace c4 := zbf c4
   subst c4
   replace H : (some (([] : List (S72)), false)) = some (r1, r2) := by rw [if_neg (show ¬ (false = true) by decide)] at H; exact H
   simp only [Option.some.injEq, Prod.mk.injEq] at H
   obtain ⟨rfl, rfl⟩ := H
   go_enter Try.func77, Try.ntmps77
   go_wp2_with (first | ((with_reducible refine zax (f := 68) rfl ?_); refine zdu (some 11) rfl rfl Try.func68 zq23 rfl #[.slice A0 l0.length c0, .int .i64 a1] rfl zq9 ?_; (with_reducible refine (zij k _ _ l0 a1 t101 false _ ?side1 ?side2 A3.out).mono ?_); (case side1 => repeat (first | exact HR0.out | (with_reducible first | refine zCa ?_ _ | refine zCn ?_ _ | refine zCd ?_))); (case side2 => exact HC0.out); rintro e w12 ⟨v103, rfl, ho0, hb⟩; refine ⟨_, rfl, ?_⟩; have HO104 := zA (Kd.R_lower ho0 (zar zq1)); replace HB := zA (zad zq1 hb); (try clear hb); (try clear ho0)))
   go_ret2
   exact ⟨_, zq4, zq30, zq1⟩
 subst c4
 replace H : ((zds k t101).bind fun t105 => ((zcj k t105).bind fun t108 => (some (t108, true)))) = some (r1, r2) := by rw [if_pos rfl] at H; exact H
 replace H := zob H
 obtain ⟨t105, A50, H⟩ := H
 replace H : ((zcj k t105).bind fun t108 => (some (t108, true))) = some (r1, r2) := H
 have A5 := zA A50
 clear A50
 replace H := zob H
 obtain ⟨t108, A60, H⟩ := H
 replace H : (some (t108, true)) = some (r1, r2) := H
 have A6 := zA A60
 clear A60
 simp only [Option.some.injEq, Prod.mk.injEq] at H
 obtain ⟨rfl, rfl⟩ := H
 go_enter Try.func77, Try.ntmps77
 go_wp2_with (first | ((with_reducible refine zax (f := 68) rfl ?_); refine zdu (some 11) rfl rfl Try.func68 zq23 rfl #[.slice A0 l0.length c0, .int .i64 a1] rfl zq9 ?_; (with_reducible refine (zij k _ _ l0 a1 t101 true _ ?side1 ?side2 A3.out).mono ?_); (case side1 => repeat (first | exact HR0.out | (with_reducible first | refine zCa ?_ _ | refine zCn ?_ _ | refine zCd ?_))); (case side2 => exact HC0.out); rintro e w7 ⟨v103, rfl, ho0, hb⟩; refine ⟨_, rfl, ?_⟩; have HO104 := zA (Kd.R_lower ho0 (zar zq1)); replace HB := zA (zad zq1 hb); (try clear hb); (try clear ho0); obtain ⟨Ao8, co8, eo8⟩ := Kd.R_slice HO104.out; subst eo8) | ((with_reducible refine zax (f := 123) rfl ?_); refine zdu (some 17) rfl rfl Try.func123 zq23 rfl #[.slice Ao8 t101.length co8] rfl zq9 ?_; (with_reducible refine (znb k _ _ t101 t105 _ ?side1 ?side2 A5.out).mono ?_); (case side1 => repeat (first | exact (zRr HO104.out).2.2 | (with_reducible first | refine zCa ?_ _ | refine zCn ?_ _ | refine zCd ?_))); (case side2 => exact (zRr HO104.out).2.1); rintro e w9 ⟨v106, rfl, ho0, hb⟩; refine ⟨_, rfl, ?_⟩; have HO107 := zA (Kd.R_lower (Kd.R_new' ho0 (Kd.R_lt (zq3 HO104))) (zar zq1)); replace HO104 := zA (Kd.R_elder' (zq3 HO104) (Kd.R_base ho0) hb); replace HB := zA (zad zq1 hb); (try clear hb); (try clear ho0); obtain ⟨Ao10, co10, eo10⟩ := Kd.R_slice HO107.out; subst eo10) | ((with_reducible refine zax (f := 44) rfl ?_); refine zdu (some 18) rfl rfl Try.func44 zq23 rfl #[.slice Ao10 t105.length co10] rfl zq9 ?_; (with_reducible refine (zl9 k _ _ t105 t108 _ ?side1 ?side2 A6.out).mono ?_); (case side1 => repeat (first | exact (zRr HO107.out).2.2 | (with_reducible first | refine zCa ?_ _ | refine zCn ?_ _ | refine zCd ?_))); (case side2 => exact (zRr HO107.out).2.1); rintro e w11 ⟨v109, rfl, ho0, hb⟩; refine ⟨_, rfl, ?_⟩; have HO110 := zA (Kd.R_lower (Kd.R_new' (Kd.R_new' ho0 (Kd.R_lt (zq3 HO104))) (Kd.R_lt (zq3 HO107))) (zar zq1)); replace HO104 := zA (Kd.R_elder' (zq3 HO104) (Kd.R_base ho0) hb); replace HO107 := zA (Kd.R_elder' (zq3 HO107) (Kd.R_base ho0) hb); replace HB := zA (zad zq1 hb); (try clear hb); (try clear ho0)))
 go_ret2
 exact ⟨_, zq4, zq27 HO110, zq1⟩
def zd8 (k : Nat) (l0 : List (S94)) (a1 : Int) : Option ((List (S72)) × Bool) := (ze9 k l0).bind fun t101 => (if t101 = true then ((zbm a1).bind fun t102 => (if t102 = true then ((zdh k l0 a1).bind fun bt103 => (some (bt103.1, bt103.2))) else (some (([] : List (S72)), false)))) else (some (([] : List (S72)), false)))
theorem zqx : ∀ a0 a1 k, LeO (zd8 k a0 a1) (zd8 (k + 1) a0 a1) := by
 intro a0 a1 k
 unfold zd8
 exact zm2 zn2 znh
set_option maxHeartbeats 8000000 in
set_option maxRecDepth 100000 in
theorem zke (k : Nat) (A0 : Option Addr) (c0 : Nat) (l0 : List (S94)) (a1 : Int) (r1 : List (S72)) (r2 : Bool) (w : World) (hr0 : Kd.C k94 w A0 l0.length l0) (hc0 : l0.length ≤ c0) (h : zd8 k l0 a1 = some (r1, r2)) :
   Calls Try.prog 35 #[.slice A0 l0.length c0, .int .i64 a1] w fun e w' => ∃ v0_ : Value, e = .returned (.tuple #[v0_, .bool r2]) ∧ Kd.R k72 72 w' w.heap.size (fun _ => True) v0_ r1 ∧ Below w.heap.size w w' := by
 have HR0 := zA hr0
 have HC0 := zA hc0
 clear hr0 hc0
 have HB := zA (Below.refl w.heap.size w)
 have H : ((ze9 k l0).bind fun t101 => (if t101 = true then ((zbm a1).bind fun t102 => (if t102 = true then ((zdh k l0 a1).bind fun bt103 => (some (bt103.1, bt103.2))) else (some (([] : List (S72)), false)))) else (some (([] : List (S72)), false)))) = some (r1, r2) := h
 clear h
 replace H := zob H
 obtain ⟨t101, A30, H⟩ := H
 replace H : (if t101 = true then ((zbm a1).bind fun t102 => (if t102 = true then ((zdh k l0 a1).bind fun bt103 => (some (bt103.1, bt103.2))) else (some (([] : List (S72)), false)))) else (some (([] : List (S72)), false))) = some (r1, r2) := H
 have A3 := zA A30
 clear A30
 by_cases c4 : t101 = true
 rotate_left
 · replace c4 := zbf c4
   subst c4
   replace H : (some (([] : List (S72)), false)) = some (r1, r2) := by rw [if_neg (show ¬ (false = true) by decide)] at H; exact H
   simp only [Option.some.injEq, Prod.mk.injEq] at H
   obtain ⟨rfl, rfl⟩ := H
   go_enter Try.func35, Try.ntmps35
   go_wp2_with (first | ((with_reducible refine zax (f := 52) rfl ?_); refine zdu (some 7) rfl rfl Try.func52 zq23 rfl #[.slice A0 l0.length c0] rfl zq9 ?_; (with_reducible refine (zhf k _ _ l0 false _ ?side1 ?side2 A3.out).mono ?_); (case side1 => repeat (first | exact HR0.out | (with_reducible first | refine zCa ?_ _ | refine zCn ?_ _ | refine zCd ?_))); (case side2 => exact HC0.out); rintro e w11 ⟨rfl, hb⟩; refine ⟨_, rfl, ?_⟩; replace HB := zA (zad zq1 hb); (try clear hb)))
   go_ret2
   exact ⟨_, zq4, zq30, zq1⟩
 subst c4
 replace H : ((zbm a1).bind fun t102 => (if t102 = true then ((zdh k l0 a1).bind fun bt103 => (some (bt103.1, bt103.2))) else (some (([] : List (S72)), false)))) = some (r1, r2) := by rw [if_pos rfl] at H; exact H
 replace H := zob H
 obtain ⟨t102, A50, H⟩ := H
 replace H : (if t102 = true then ((zdh k l0 a1).bind fun bt103 => (some (bt103.1, bt103.2))) else (some (([] : List (S72)), false))) = some (r1, r2) := H
 have A5 := zA A50
 clear A50
 by_cases c6 : t102 = true
 rotate_left
 · replace c6 := zbf c6
   subst c6
   replace H : (some (([] : List (S72)), false)) = some (r1, r2) := by rw [if_neg (show ¬ (false = true) by decide)] at H; exact H
   simp only [Option.some.injEq, Prod.mk.injEq] at H
   obtain ⟨rfl, rfl⟩ := H
   go_enter Try.func35, Try.ntmps35
   go_wp2_with (first | ((with_reducible refine zax (f := 52) rfl ?_); refine zdu (some 7) rfl rfl Try.func52 zq23 rfl #[.slice A0 l0.length c0] rfl zq9 ?_; (with_reducible refine (zhf k _ _ l0 true _ ?side1 ?side2 A3.out).mono ?_); (case side1 => repeat (first | exact HR0.out | (with_reducible first | refine zCa ?_ _ | refine zCn ?_ _ | refine zCd ?_))); (case side2 => exact HC0.out); rintro e w10 ⟨rfl, hb⟩; refine ⟨_, rfl, ?_⟩; replace HB := zA (zad zq1 hb); (try clear hb)) | (go_at_call 51; (with_reducible refine (zav a1 false _ A5.out).mono ?_); rintro e w' ⟨rfl, ⟨nd, rfl⟩⟩))
   go_ret2
   exact ⟨_, zq4, zq30, zq1⟩
 subst c6
 replace H : ((zdh k l0 a1).bind fun bt103 => (some (bt103.1, bt103.2))) = some (r1, r2) := by rw [if_pos rfl] at H; exact H
 replace H := zob H
 obtain ⟨⟨t103, t104⟩, A70, H⟩ := H
 replace H : (some (t103, t104)) = some (r1, r2) := H
 have A7 := zA A70
 clear A70
 simp only [Option.some.injEq, Prod.mk.injEq] at H
 obtain ⟨rfl, rfl⟩ := H
 go_enter Try.func35, Try.ntmps35
 go_wp2_with (first | ((with_reducible refine zax (f := 52) rfl ?_); refine zdu (some 7) rfl rfl Try.func52 zq23 rfl #[.slice A0 l0.length c0] rfl zq9 ?_; (with_reducible refine (zhf k _ _ l0 true _ ?side1 ?side2 A3.out).mono ?_); (case side1 => repeat (first | exact HR0.out | (with_reducible first | refine zCa ?_ _ | refine zCn ?_ _ | refine zCd ?_))); (case side2 => exact HC0.out); rintro e w8 ⟨rfl, hb⟩; refine ⟨_, rfl, ?_⟩; replace HB := zA (zad zq1 hb); (try clear hb)) | (go_at_call 51; (with_reducible refine (zav a1 true _ A5.out).mono ?_); rintro e w' ⟨rfl, ⟨nd, rfl⟩⟩) | ((with_reducible refine zax (f := 77) rfl ?_); refine zdu (some 16) rfl rfl Try.func77 zq23 rfl #[.slice A0 l0.length c0, .int .i64 a1] rfl zq9 ?_; (with_reducible refine (zmd k _ _ l0 a1 t103 t104 _ ?side1 ?side2 A7.out).mono ?_); (case side1 => repeat (first | exact (zCb HR0.out zq1) | (with_reducible first | refine zCa ?_ _ | refine zCn ?_ _ | refine zCd ?_))); (case side2 => exact HC0.out); rintro e w9 ⟨v105, rfl, ho0, hb⟩; refine ⟨_, rfl, ?_⟩; have HO106 := zA (Kd.R_lower ho0 (zar zq1)); replace HB := zA (zad zq1 hb); (try clear hb); (try clear ho0)))
 go_ret2
 exact ⟨_, zq4, zq3 HO106, zq1⟩
def zdn (k : Nat) (l0 : List (S93)) (a1 : Int) : Option Bool :=
 (zej k l0 1048576).bind fun t => if t < 0 then some true else
 (ze0 k l0).bind fun c => (zd8 k c a1).bind fun s => (zd5 k c a1).bind fun g =>
 (zfd k g.1 s.1).bind fun e1 => (zez k c c).bind fun e2 => (zdw k c 1).bind fun m => (zel k g.1 1).bind fun m2 => (zea k m2.2 1).bind fun q =>
 if e1 = true ∧ g.2 = s.2 ∧ e2 = true ∧ 0 ≤ m.1 ∧ q = m2.1 ∧ 0 ≤ q then some true else none
set_option maxHeartbeats 4000000 in
set_option maxRecDepth 100000 in
theorem zhx (k : Nat) (A0 : Option Addr) (c0 : Nat) (l0 : List (S93)) (a1 : Int) (r : Bool) (w : World) (hr0 : Kd.C k93 w A0 l0.length l0) (hc0 : l0.length ≤ c0) (h : zdn k l0 a1 = some r) :
   Calls Try.prog 7 #[.slice A0 l0.length c0, .int .i64 a1] w fun e w' => e = .returned (.bool r) ∧ Below w.heap.size w w' := by
 have HR := zA hr0
 have HC := zA hc0
 clear hr0 hc0
 unfold zdn at h
 obtain ⟨t, ht, h⟩ := Option.bind_eq_some_iff.1 h
 have Ht := zA ht
 clear ht
 by_cases hneg : t < 0
 · rw [if_pos hneg] at h
   obtain rfl := zsi h
   clear h
   have hd : decide (t < 0) = true := zdt hneg
   go_enter Try.func7, Try.ntmps7
   go_wp2_with fail
   (with_reducible refine (zih k _ _ l0 1048576 t _ HR.out HC.out Ht.out).mono ?_)
   rintro e w1 ⟨rfl, hb⟩
   have HB := zA hb
   clear hb
   go_wp2_with fail
   go_ret
   exact ⟨rfl, HB.out⟩
 rw [if_neg hneg] at h
 have hd : decide (t < 0) = false := zdf hneg
 obtain ⟨c, hc, h⟩ := Option.bind_eq_some_iff.1 h
 obtain ⟨⟨s1, s2⟩, hs, h⟩ := Option.bind_eq_some_iff.1 h
 obtain ⟨⟨g1, g2⟩, hg, h⟩ := Option.bind_eq_some_iff.1 h
 obtain ⟨e1, he1, h⟩ := Option.bind_eq_some_iff.1 h
 obtain ⟨e2, he2, h⟩ := Option.bind_eq_some_iff.1 h
 obtain ⟨⟨m, mc⟩, hm, h⟩ := Option.bind_eq_some_iff.1 h
 obtain ⟨⟨q, qc⟩, hq, h⟩ := Option.bind_eq_some_iff.1 h
 obtain ⟨q2, hq2, h⟩ := Option.bind_eq_some_iff.1 h
 by_cases hall : e1 = true ∧ g2 = s2 ∧ e2 = true ∧ 0 ≤ m ∧ q2 = q ∧ 0 ≤ q2
 rotate_left
 · rw [if_neg hall] at h
   cases h
 rw [if_pos hall] at h
 obtain rfl := zsi h
 obtain ⟨rfl, rfl, rfl, hm0, rfl, hq0⟩ := hall
 clear h
 have dm : decide (m < 0) = false := zdf (by omega)
 have dq : decide (q2 < 0) = false := zdf (by omega)
 have H1 := zA hc
 have H2 := zA hs
 have H3 := zA hg
 have H4 := zA he1
 have H5 := zA he2
 have H6 := zA hm
 have H7 := zA hq
 have H8 := zA hq2
 clear hc hs hg he1 he2 hm hq hq2 hneg
 go_enter Try.func7, Try.ntmps7
 go_wp2_with fail
 (with_reducible refine (zih k _ _ l0 1048576 t _ HR.out HC.out Ht.out).mono ?_)
 rintro e w1 ⟨rfl, hb⟩
 have HB := zA hb
 clear hb
 go_wp2_with fail
 (with_reducible refine (zfo k _ _ l0 c _ (zCb HR.out HB.out) HC.out H1.out).mono ?_)
 rintro e w2 ⟨v, rfl, ho, hb⟩
 obtain ⟨A1, c1, rfl, hl1, hC1⟩ := Kd.R_reads ho
 have n := zA (zad HB.out hb)
 clear HB hb ho
 have HB := n
 clear n
 have HC1 := zA hC1
 have HL1 := zA hl1
 clear hC1 hl1
 go_wp2_with fail
 (with_reducible refine (zke k _ _ c a1 s1 g2 _ HC1.out HL1.out H2.out).mono ?_)
 rintro e wA ⟨v, rfl, ho, hb⟩
 obtain ⟨A2, c2, rfl, hl2, hC2⟩ := Kd.R_reads ho
 have n := zA (zad HB.out hb)
 clear HB hb ho HC1 HL1
 have HB := n
 clear n
 have HBA := zA HB.out
 have HC2 := zA hC2
 have HL2 := zA hl2
 clear hC2 hl2
 go_wp2_with fail
 (with_reducible refine (zfo k _ _ l0 c _ (zCb HR.out HB.out) HC.out H1.out).mono ?_)
 rintro e w4 ⟨v, rfl, ho, hb⟩
 obtain ⟨A3, c3, rfl⟩ := Kd.R_slice ho
 have HA := zA hb
 have n := zA (zad HB.out hb)
 have HX := zA ho
 clear HB hb ho
 have HB := n
 clear n
 go_wp2_with fail
 (with_reducible refine (zha k _ _ c a1 g1 g2 _ (zRr HX.out).2.2 (zRr HX.out).2.1 H3.out).mono ?_)
 rintro e w5 ⟨v, rfl, ho, hb⟩
 obtain ⟨A4, c4, rfl⟩ := Kd.R_slice ho
 have HX4 := zA (show _ ≤ w4.heap.size ∧ w4.heap.size ≤ w5.heap.size from ⟨HA.out.size, hb.size⟩)
 have n1 := zA (Kd.R_bound ho)
 have n2 := zA (zRb (Kd.R_bound HX.out) hb)
 have n3 := zA (zad HB.out hb)
 have n4 := zA (zad HA.out hb)
 clear HB HA HX hb ho
 have HG := n1
 have HX := n2
 have HB := n3
 have HA := n4
 clear n1 n2 n3 n4
 go_wp2_with fail
 (with_reducible refine (zg5 k _ _ g1 _ _ s1 true _ (zRr HG.out).2.2 (zRr HG.out).2.1 (zCb HC2.out HA.out) HL2.out H4.out).mono ?_)
 rintro e w6 ⟨rfl, hb⟩
 have n1 := zA (zRb HG.out hb)
 have n2 := zA (zRb HX.out hb)
 have n3 := zA (zad HB.out hb)
 have n4 := zA (zad HA.out hb)
 clear HB HA HX HG hb
 have HG := n1
 have HX := n2
 have HB := n3
 have HA := n4
 clear n1 n2 n3 n4
 go_wp2_with fail
 (with_reducible refine (zfo k _ _ l0 c _ (zCb HR.out HB.out) HC.out H1.out).mono ?_)
 rintro e w7 ⟨v, rfl, ho, hb⟩
 obtain ⟨A5, c5, rfl, hl5, hC5⟩ := Kd.R_reads ho
 have HC5 := zA hC5
 have HL5 := zA hl5
 clear ho hC5 hl5
 have n1 := zA (zRb HG.out hb)
 have n2 := zA (zRb HX.out hb)
 have n3 := zA (zad HB.out hb)
 have n4 := zA (zad HA.out hb)
 clear HB HA HX HG hb
 have HG := n1
 have HX := n2
 have HB := n3
 have HA := n4
 clear n1 n2 n3 n4
 go_wp2_with fail
 (with_reducible refine (zln k _ _ c _ _ c true _ (zRr HX.out).2.2 (zRr HX.out).2.1 HC5.out HL5.out H5.out).mono ?_)
 rintro e w8 ⟨rfl, hb⟩
 clear HC5 HL5
 have n1 := zA (zRb HG.out hb)
 have n2 := zA (zRb HX.out hb)
 have n3 := zA (zad HB.out hb)
 have n4 := zA (zad HA.out hb)
 clear HB HA HX HG hb
 have HG := n1
 have HX := n2
 have HB := n3
 have HA := n4
 clear n1 n2 n3 n4
 go_wp2_with fail
 (with_reducible refine (zkm k (fun k_ => k_ < w4.heap.size) _ c 1 m mc wA _ HA.out ?side1 H6.out).mono ?_)
 case side1 => exact Kd.R_mono (Kd.R_lower HX.out (zlr _)) (fun k_ hk => hk.2.2.1)
 rintro e w9 ⟨rfl, _, hA9, hk9⟩
 have n1 := zA (Kd.R_step HG.out (fun k_ hk hlt => hk9.2 k_ hlt (by have := hk.2.1; omega)))
 have n3 := zA (znr HBA.out HBA.out.size hA9)
 clear HB HA HG HX
 have HG := n1
 have HB := n3
 have HA := zA hA9
 clear n1 n3 hA9 hk9
 go_wp2_with fail
 (with_reducible refine (zg5 k _ _ g1 _ _ s1 true _ (zRr HG.out).2.2 (zRr HG.out).2.1 (zCb HC2.out HA.out) HL2.out H4.out).mono ?_)
 rintro e w10 ⟨rfl, hb⟩
 have n1 := zA (zRb HG.out hb)
 have n3 := zA (zad HB.out hb)
 have n4 := zA (zad HA.out hb)
 clear HB HA HG hb
 have HG := n1
 have HB := n3
 have HA := n4
 clear n1 n3 n4
 go_wp2_with fail
 (with_reducible refine (zk3 k (fun _ => True) _ g1 1 q2 qc wA _ HA.out ?side3 H7.out).mono ?_)
 case side3 => exact Kd.R_mono (Kd.R_lower HG.out HX4.out.1) (fun _ _ => trivial)
 rintro e w11 ⟨rfl, hG, hA9, hk9⟩
 have n3 := zA (znr HBA.out HBA.out.size hA9)
 clear HB HA HG
 have HG := zA hG
 have HE := zA (zRr hG).1
 have HE2 := zA (show qc.length ≤ c4 from (zRr hG).1 ▸ (zRr hG).2.1)
 have HB := n3
 have HA := zA hA9
 clear n3 hA9 hk9 hG
 go_wp2_with fail
 refine zmq (args' := #[.slice A4 qc.length c4, .int .i64 1]) (by rw [HE.out]) ?_
 (with_reducible refine (zh3 k _ _ qc 1 q2 _ (zRr HG.out).2.2 HE2.out H8.out).mono ?_)
 rintro e w12 ⟨rfl, hb⟩
 have n1 := zA (zRb HG.out hb)
 have n3 := zA (zad HB.out hb)
 have n4 := zA (zad HA.out hb)
 clear HB HA HG hb
 have HG := n1
 have HB := n3
 have HA := n4
 clear n1 n3 n4
 go_wp2_with fail
 (with_reducible refine (zfo k _ _ l0 c _ (zCb HR.out HB.out) HC.out H1.out).mono ?_)
 rintro e w13 ⟨v, rfl, ho, hb⟩
 obtain ⟨A6, c6, rfl, hl6, hC6⟩ := Kd.R_reads ho
 have HC6 := zA hC6
 have HL6 := zA hl6
 clear ho hC6 hl6
 have n1 := zA (zRb HG.out hb)
 have n3 := zA (zad HB.out hb)
 have n4 := zA (zad HA.out hb)
 clear HB HA HG hb
 have HG := n1
 have HB := n3
 have HA := n4
 clear n1 n3 n4
 go_wp2_with fail
 (with_reducible refine (zha k _ _ c a1 g1 g2 _ HC6.out HL6.out H3.out).mono ?_)
 rintro e w14 ⟨v, rfl, ho, hb⟩
 obtain ⟨A7, c7, rfl, hl7, hC7⟩ := Kd.R_reads ho
 have HC7 := zA hC7
 have HL7 := zA hl7
 clear ho hC7 hl7 HC6 HL6
 have n1 := zA (zRb HG.out hb)
 have n3 := zA (zad HB.out hb)
 have n4 := zA (zad HA.out hb)
 clear HB HA HG hb
 have HG := n1
 have HB := n3
 have HA := n4
 clear n1 n3 n4
 go_wp2_with fail
 (with_reducible refine (zg5 k _ _ g1 _ _ s1 true _ HC7.out HL7.out (zCb HC2.out HA.out) HL2.out H4.out).mono ?_)
 rintro e w15 ⟨rfl, hb⟩
 have n1 := zA (zRb HG.out hb)
 have n3 := zA (zad HB.out hb)
 have n4 := zA (zad HA.out hb)
 clear HB HA HG hb
 have HG := n1
 have HB := n3
 have HA := n4
 clear n1 n3 n4
 go_wp2_with fail
 refine zmq (args' := #[.slice A4 qc.length c4, .int .i64 1]) (by rw [HE.out]) ?_
 (with_reducible refine (zh3 k _ _ qc 1 q2 _ (zRr HG.out).2.2 HE2.out H8.out).mono ?_)
 rintro e w16 ⟨rfl, hb⟩
 have n1 := zA (zRb HG.out hb)
 have n3 := zA (zad HB.out hb)
 have n4 := zA (zad HA.out hb)
 clear HB HA HG hb
 have HG := n1
 have HB := n3
 have HA := n4
 clear n1 n3 n4
 go_wp2_with fail
 go_ret
 exact ⟨rfl, HB.out⟩
end Go.Proofs.Ytkfkbmlbpeojaaa.Q
end
section
namespace Go.Proofs.Ytkfkbmlbpeojaaa.Rd
open Go Go.RowKit Go.Proofs.YtkfkbmlbpeojaaaW.PrintWords Go.Proofs.YtkfkbmlbpeojaaaW.PrintLast Go.ChangeShapes Go.WideShapes Go.Deep
set_option linter.unusedSimpArgs false
set_option linter.unusedVariables false
structure RdK {α : Type} (d : Kd α) (P : Program) (t : TypeId) (Good : α → Prop) : Prop where
  size : P.cellsOf t = d.sz
  get : ∀ {H : Type} {enc : TypeId × Value → H} {w : World} {n : Nat} {cs : List Value} {x : DataW H × List MemPlace}, DataW.trod enc P w 0 (fun _ => true) true n t cs = some x → ∃ a, d.K w a cs ∧ Good a
def okInt (k : IntKind) (n : Int) : Prop := (Lit.int k n).wf = true
def okStr (s : ByteArray) : Prop := s.size ≤ maxLen
def okSl {α : Type} (G : α → Prop) (xs : List α) : Prop := xs.length ≤ maxLen ∧ ∀ x ∈ xs, G x
theorem rk_int {P : Program} {t : TypeId} {k : IntKind} (ht : P.underlying t = some (.int k)) (hs : P.cellsOf t = 1) : RdK (Kd.int k) P t (okInt k) :=
  ⟨hs, fun h => by obtain ⟨n, rfl, _, hw⟩ := DataW.trod_int ht h; exact ⟨n, rfl, hw⟩⟩
theorem rk_string {P : Program} {t : TypeId} (ht : P.underlying t = some .string) (hs : P.cellsOf t = 1) : RdK Kd.string P t okStr :=
  ⟨hs, fun h => by obtain ⟨n, rfl, _, hw⟩ := DataW.trod_string ht h; exact ⟨n, rfl, hw⟩⟩
theorem rk_slice {α : Type} {d : Kd α} {P : Program} {t e : TypeId} {G : α → Prop} (hd : RdK d P e G) (ht : P.underlying t = some (.slice e)) (hs : P.cellsOf t = 1) : RdK (Kd.slice e d) P t (okSl G) := by
  refine ⟨hs, fun {H enc w n cs x} h => ?_⟩
  rcases open_slice ht h with ⟨rfl, _⟩ | ⟨a, len, cap, m, n', D, Pl, rfl, _, hl, hm, hmm, _, hx⟩
  · exact ⟨[], ⟨none, 0, rfl, Nat.le_refl _, rfl, Nat.zero_le _, fun h => absurd h (Nat.lt_irrefl 0)⟩, Nat.zero_le _, fun _ h => by cases h⟩
  · have hc : m = cap := by simpa using hmm
    subst hc
    have key : ∀ i : Fin len, ∃ a' : α, ∃ cs', d.K w a' cs' ∧ G a' ∧ w.cells? 0 (a.add (i * P.cellsOf e)) (P.cellsOf e) = some cs' := fun i => by
      obtain ⟨cs', h1, h2⟩ := hx i (by omega)
      obtain ⟨a', h3, h4⟩ := hd.get h2
      exact ⟨a', cs', h3, h4, h1⟩
    have hlen : (List.ofFn fun i => Classical.choose (key i)).length = len := List.length_ofFn
    refine ⟨List.ofFn fun i => Classical.choose (key i), ⟨some a, m, by rw [hlen], by omega, hlen.trans hlen.symm, ?_, fun _ => ⟨a, rfl, fun j p hj => ?_⟩⟩, by rw [hlen]; omega, fun y hy => ?_⟩
    · rw [hlen]; unfold maxLen at hm; omega
    · have hjl : j < len := by
        have := (List.getElem?_eq_some_iff.1 hj).1
        rwa [hlen] at this
      rw [List.getElem?_ofFn, dif_pos hjl, Option.some.injEq] at hj
      obtain ⟨cs', h1, h2, h3⟩ := Classical.choose_spec (key ⟨j, hjl⟩)
      rw [hj] at h1 h2
      obtain ⟨_, h5, h6⟩ := World.cells?_some h3
      refine ⟨cs', d.K_len h1, h1, fun i u hi => ?_⟩
      have hil : i < P.cellsOf e := by
        have := (List.getElem?_eq_some_iff.1 hi).1
        omega
      have := h6 i hil
      rw [Go.Deep.add_add] at this
      rw [← hd.size]
      exact this.trans hi
    · obtain ⟨i, rfl⟩ := List.mem_ofFn.1 hy
      obtain ⟨cs', h1, h2, h3⟩ := Classical.choose_spec (key i)
      exact h2
structure RdF {α : Type} (d : Kd α) (P : Program) (fs : List Field) (off : Nat) (Good : α → Prop) : Prop where
  get : ∀ {H : Type} {enc : TypeId × Value → H} {w : World} {n : Nat} {cs : List Value}, cs.length = off + d.sz →
    (∀ f ∈ fs, ∃ y, DataW.trod enc P w 0 (fun _ => true) true n f.type ((cs.drop f.offset).take (P.cellsOf f.type)) = some y) → ∃ a, d.K w a (cs.drop off) ∧ Good a
theorem rf_one {α : Type} {d : Kd α} {P : Program} {f : Field} {G : α → Prop} (hd : RdK d P f.type G) : RdF d P [f] f.offset G := by
  refine ⟨fun {H enc w n cs} hl h => ?_⟩
  obtain ⟨y, hy⟩ := h f (List.mem_singleton.2 rfl)
  rw [hd.size, List.take_of_length_le (by rw [List.length_drop]; omega)] at hy
  exact hd.get hy
theorem rf_cons {α β : Type} {d : Kd α} {d' : Kd β} {P : Program} {f : Field} {fs : List Field} {G : α → Prop} {G' : β → Prop} {off' : Nat} (hd : RdK d P f.type G) (ho : off' = f.offset + d.sz) (hf : RdF d' P fs off' G') :
    RdF (Kd.pair d d') P (f :: fs) f.offset (fun x => G x.1 ∧ G' x.2) := by
  refine ⟨fun {H enc w n cs} hl h => ?_⟩
  have hl' : cs.length = f.offset + (d.sz + d'.sz) := hl
  obtain ⟨y, hy⟩ := h f List.mem_cons_self
  rw [hd.size] at hy
  obtain ⟨a, h1, h2⟩ := hd.get hy
  obtain ⟨b, h3, h4⟩ := hf.get (cs := cs) (by omega) (fun g hg => h g (List.mem_cons_of_mem _ hg))
  refine ⟨(a, b), ⟨_, _, ?_, h1, h3⟩, h2, h4⟩
  rw [ho, ← List.drop_drop, List.take_append_drop]
theorem rk_struct {α : Type} {d : Kd α} {P : Program} {t : TypeId} {fs : Array Field} {G : α → Prop} (ht : P.underlying t = some (.struct fs)) (hs : P.cellsOf t = d.sz) (hf : RdF d P fs.toList 0 G) : RdK d P t G := by
  refine ⟨hs, fun {H enc w n cs x} h => ?_⟩
  obtain ⟨xs, n', _, _, hl, hlen, hg⟩ := DataW.trod_struct ht h
  have := hf.get (cs := cs) (enc := enc) (w := w) (n := n') (by omega) (fun f hf' => by
    obtain ⟨i, hi, he⟩ := List.getElem_of_mem hf'
    have h1 : fs[i]? = some f := by rw [← Array.getElem?_toList, List.getElem?_eq_getElem hi, he]
    have h2 := hg i f h1
    rw [List.getElem?_eq_getElem (by rw [hlen]; simpa using hi)] at h2
    exact ⟨_, h2⟩)
  simpa using this
theorem rk_iso {α β : Type} {d : Kd α} {P : Program} {t : TypeId} {G : α → Prop} (hd : RdK d P t G) (f : β → α) (g : α → β) (hfg : ∀ a, f (g a) = a) : RdK (Kd.iso d f) P t (fun b => G (f b)) := by
  refine ⟨hd.size, fun {H enc w n cs x} h => ?_⟩
  obtain ⟨a, h1, h2⟩ := hd.get h
  exact ⟨g a, by show d.K w (f (g a)) cs; rw [hfg]; exact h1, by rw [hfg]; exact h2⟩
theorem arg_slice {α : Type} {d : Kd α} {P : Program} {t e : TypeId} {G : α → Prop} (hd : RdK (Kd.slice e d) P t (okSl G)) {H : Type} {enc : TypeId × Value → H} {w : World} {a : Option Addr} {len cap : Nat} {x : DataW H} {ps : List MemPlace}
    (h : DataW.Trod enc P w 0 (fun _ => true) true t (.slice a len cap) x ps) : ∃ xs : List α, len = xs.length ∧ xs.length ≤ cap ∧ Kd.C d w a xs.length xs ∧ okSl G xs := by
  obtain ⟨n, hn⟩ := h
  obtain ⟨xs, ⟨A, c, he, hl, hc⟩, hg⟩ := hd.get hn
  simp [Value.cells] at he
  obtain ⟨rfl, rfl, rfl⟩ := he
  exact ⟨xs, rfl, hl, hc, hg⟩
end Go.Proofs.Ytkfkbmlbpeojaaa.Rd
end
section
namespace Go.Proofs.Ytkfkbmlbpeojaaa.Q
open Go.RowKit Go.Proofs.YtkfkbmlbpeojaaaW.PrintWords Go.Proofs.YtkfkbmlbpeojaaaW.PrintLast Go.Proofs.YtkfkbmlbpeojaaaW.PrintMore
attribute [local go_sem] zcs zct zdo zdp zb2 zb3 zcu zcv
set_option linter.unusedVariables false
set_option linter.unusedSimpArgs false
def zuf (x : S93) : Prop := Rd.okStr x.f0 ∧ (Rd.okInt .i64) x.f1 ∧ (Rd.okInt .i64) x.f2 ∧ (Rd.okInt .i64) x.f3 ∧ (Rd.okInt .i64) x.f4
theorem rd93 : Rd.RdK k93 Try.prog 93 zuf :=
  Rd.rk_iso (Rd.rk_struct Try.underlying93 (by kernel_rfl) (Rd.rf_cons (Rd.rk_string Try.underlying9 (by kernel_rfl)) rfl (Rd.rf_cons (Rd.rk_int Try.underlying3 (by kernel_rfl)) rfl (Rd.rf_cons (Rd.rk_int Try.underlying3 (by kernel_rfl)) rfl (Rd.rf_cons (Rd.rk_int Try.underlying3 (by kernel_rfl)) rfl (Rd.rf_one (Rd.rk_int Try.underlying3 (by kernel_rfl)))))))) (fun x : S93 => (x.f0, x.f1, x.f2, x.f3, x.f4)) (fun p => ⟨p.1, p.2.1, p.2.2.1, p.2.2.2.1, p.2.2.2.2⟩) (fun _ => rfl)
def laws_FnExactPlainSymbol.Pure : Prop := ∀ (a0 : List (S93)) (a1 : Int), (Rd.okSl zuf) a0 → (Rd.okInt .i64) a1 → ∃ k, zdn k a0 a1 = some true
end Go.Proofs.Ytkfkbmlbpeojaaa.Q
end
section
namespace Go.Proofs.Ytkfkbmlbpeojaaa.PL
open Go Go.RowKit Go.Proofs.YtkfkbmlbpeojaaaW.PrintWords Go.Proofs.YtkfkbmlbpeojaaaW.PrintLast Go.Proofs.YtkfkbmlbpeojaaaW.PrintMore Go.Proofs.Ytkfkbmlbpeojaaa.Q
set_option linter.unusedSimpArgs false
set_option linter.unusedVariables false
theorem w64 {x : Int} (h1 : -9223372036854775808 ≤ x) (h2 : x < 9223372036854775808) : wrap64 x = x := by unfold wrap64; omega
theorem w64n (i : Nat) (h : i < 4611686018427387904) : wrap64 ((i : Int) + 1) = ((i + 1 : Nat) : Int) := by unfold wrap64; omega
theorem Ev.some {α : Type} {a r : α} (h : a = r) : Ev (fun _ => some a) r := h ▸ za4 a
theorem Ev.const {α : Type} {g : Option α} {r : α} (h : g = Option.some r) : Ev (fun _ => g) r := by rw [h]; exact za4 r
theorem zme {α : Type} {g : Nat → Option α} {r s : α} (h : Ev g r) (e : r = s) : Ev g s := e ▸ h
theorem zp5 {α : Type} {g : Nat → Option α} {r s : α} (h : Ev g r) (h' : Ev g s) : r = s := by
  obtain ⟨K, h⟩ := h
  obtain ⟨K', h'⟩ := h'
  have h1 := h (max K K') (by omega)
  have h2 := h' (max K K') (by omega)
  rw [h1] at h2
  exact Option.some.inj h2
theorem zah {α : Type} {c : Prop} [Decidable c] {g g' : Nat → Option α} {r : α} (h : c) (H : Ev g r) : Ev (fun k => if c then g k else g' k) r := zoe (fun _ => if_pos h) H
theorem za1 {α : Type} {c : Prop} [Decidable c] {g g' : Nat → Option α} {r : α} (h : ¬ c) (H : Ev g' r) : Ev (fun k => if c then g k else g' k) r := zoe (fun _ => if_neg h) H
theorem Ev.call {α β : Type} {g : Option α} {f : Nat → α → Option β} {a : α} {r : β} (h : g = Option.some a) (k : Ev (fun n => f n a) r) : Ev (fun n => g.bind (f n)) r := by
  rw [h]; exact k
theorem zug {σ ρ : Type} (n : Nat) (L : Nat → σ → Int → Option ρ) (M : Nat → σ → ρ) (hend : ∀ s, Ev (fun k => L k s n) (M n s))
    (hstep : ∀ (i : Nat) s, i < n → (∀ s', Ev (fun k => L k s' ((i + 1 : Nat) : Int)) (M (i + 1) s')) → Ev (fun k => L k s i) (M i s)) :
    ∀ (d i : Nat) s, i + d = n → Ev (fun k => L k s i) (M i s)
  | 0, i, s, h => by
    have e : i = n := by omega
    rw [e]
    exact hend s
  | d + 1, i, s, h => hstep i s (by omega) (fun s' => zug n L M hend hstep d (i + 1) s' (by omega))
theorem zks {α σ ρ : Type} (xs : List α) (L : Nat → σ → Int → Option ρ) (m : List α → σ → ρ) (hend : ∀ s, Ev (fun k => L k s (xs.length : Nat)) (m [] s))
    (hstep : ∀ (i : Nat) s x rest, i < xs.length → (∀ d, xs.getD i d = x) → (∀ s', Ev (fun k => L k s' ((i + 1 : Nat) : Int)) (m rest s')) → Ev (fun k => L k s i) (m (x :: rest) s)) (s : σ) :
    Ev (fun k => L k s 0) (m xs s) := by
  have := zug xs.length L (fun i s => m (xs.drop i) s) (fun s => by simpa using hend s) (fun i s hi ih => by
    have e : xs.drop i = xs[i] :: xs.drop (i + 1) := List.drop_eq_getElem_cons hi
    show Ev (fun k => L k s i) (m (xs.drop i) s)
    rw [e]
    exact hstep i s xs[i] _ hi (fun d => by simp [List.getD, List.getElem?_eq_getElem hi]) ih) xs.length 0 s (by omega)
  simpa using this
def idx {α : Type} (p : α → Bool) : List α → Int
  | [] => -1
  | x :: xs => if p x = true then 0 else if idx p xs < 0 then -1 else idx p xs + 1
theorem zia {α : Type} (p : α → Bool) (xs : List α) : 0 ≤ idx p xs ↔ ∃ x ∈ xs, p x = true := by
  induction xs with
  | nil => simp [idx]
  | cons x xs ih =>
    unfold idx
    by_cases h : p x = true
    · simp [h]
    · by_cases h2 : idx p xs < 0
      · rw [if_neg h, if_pos h2]
        have : ¬ ∃ x ∈ xs, p x = true := fun e => by have := ih.2 e; omega
        simp [h]
        simpa using this
      · rw [if_neg h, if_neg h2]
        have := ih.1 (by omega)
        simp [h]
        exact ⟨fun _ => this, fun _ => by omega⟩
theorem zuh {α : Type} (p : α → Bool) (xs : List α) : -1 ≤ idx p xs := by
  induction xs with
  | nil => unfold idx; simp
  | cons x xs ih => unfold idx; split; · decide
                    · split <;> omega
theorem zw3 {α : Type} (p : α → Bool) (xs : List α) : idx p xs < xs.length := by
  induction xs with
  | nil => unfold idx; simp
  | cons x xs ih => unfold idx; simp only [List.length_cons]; split; · omega
                    · split <;> omega
theorem zkt {α : Type} (xs : List α) (p : α → Bool) (L : Nat → Int → Option Int) (hend : Ev (fun k => L k (xs.length : Nat)) (-1))
    (hyes : ∀ (i : Nat) x, i < xs.length → (∀ d, xs.getD i d = x) → p x = true → Ev (fun k => L k i) (i : Int))
    (hno : ∀ (i : Nat) x r, i < xs.length → (∀ d, xs.getD i d = x) → p x = false → Ev (fun k => L k ((i + 1 : Nat) : Int)) r → Ev (fun k => L k i) r) : Ev (fun k => L k 0) (idx p xs) := by
  have key : ∀ (d i : Nat), i + d = xs.length → Ev (fun k => L k i) (if idx p (xs.drop i) < 0 then -1 else idx p (xs.drop i) + i) := by
    intro d
    induction d with
    | zero =>
      intro i hi
      rw [List.drop_of_length_le (by omega), if_pos (show idx p [] < 0 by unfold idx; decide)]
      have e : i = xs.length := by omega
      rw [e]; exact hend
    | succ d ih =>
      intro i hi
      have hlt : i < xs.length := by omega
      have e : xs.drop i = xs[i] :: xs.drop (i + 1) := List.drop_eq_getElem_cons hlt
      have hg : ∀ d, xs.getD i d = xs[i] := fun d => by simp [List.getD, List.getElem?_eq_getElem hlt]
      rw [e]
      unfold idx
      by_cases h : p xs[i] = true
      · rw [if_pos h, if_neg (by decide)]
        simpa using hyes i _ hlt hg h
      · refine hno i _ _ hlt hg (by simpa using h) (zme (ih (i + 1) (by omega)) ?_)
        rw [if_neg h]
        by_cases h2 : idx p (xs.drop (i + 1)) < 0
        · rw [if_pos h2, if_pos h2, if_pos (by decide)]
        · rw [if_neg h2, if_neg h2, if_neg (by omega)]
          omega
  have := key xs.length 0 (by omega)
  simp only [List.drop_zero, Int.natCast_zero, Int.add_zero] at this
  refine zme this ?_
  have := zuh p xs
  split <;> omega
theorem zzb {α : Type} (xs : List α) (p : α → Bool) (L : Nat → Int → Option Bool) (hend : Ev (fun k => L k (xs.length : Nat)) true)
    (hno : ∀ (i : Nat) x, i < xs.length → (∀ d, xs.getD i d = x) → p x = false → Ev (fun k => L k i) false)
    (hyes : ∀ (i : Nat) x r, i < xs.length → (∀ d, xs.getD i d = x) → p x = true → Ev (fun k => L k ((i + 1 : Nat) : Int)) r → Ev (fun k => L k i) r) : Ev (fun k => L k 0) (xs.all p) := by
  refine zks (σ := Unit) xs (fun k _ i => L k i) (fun l _ => l.all p) (fun _ => hend) (fun i _ x rest hi hx ih => ?_) ()
  by_cases h : p x = true
  · exact hyes i x _ hi hx h (zme (ih ()) (by simp [h]))
  · have h' : p x = false := by simpa using h
    exact zme (hno i x hi hx h') (by simp [h'])
theorem ztq {xs : List Int} {i : Nat} {x : Int} (h : ∀ d, xs.getD i d = x) : rd xs i = x := by unfold rd; rw [Int.toNat_natCast]; exact h 0
theorem zni {α : Type} {d0 : α} {xs : List α} {i : Nat} {x : α} (h : ∀ d, xs.getD i d = x) : rdOf d0 xs i = x := by unfold rdOf; rw [Int.toNat_natCast]; exact h d0
theorem zqy {xs : List S94} {i : Nat} {x : S94} (h : ∀ d, xs.getD i d = x) : zaa xs i = x := by unfold zaa; rw [Int.toNat_natCast]; exact h _
theorem zw4 {xs : List S93} {i : Nat} {x : S93} (h : ∀ d, xs.getD i d = x) : zeq xs i = x := by unfold zeq; rw [Int.toNat_natCast]; exact h _
theorem zen {α : Type} (xs : List α) (i : Nat) (h : i < xs.length) : ∀ d, xs.getD i d = xs[i] := fun d => by simp [List.getD, List.getElem?_eq_getElem h]
theorem zv8 {α : Type} (xs ys : List α) (z : α) (v : α) : (xs ++ List.replicate (ys.length + 1) z).set xs.length v = (xs ++ [v]) ++ List.replicate ys.length z := by
  rw [List.set_append_right _ _ (Nat.le_refl _)]
  simp [List.replicate_succ]
end Go.Proofs.Ytkfkbmlbpeojaaa.PL
end
section
namespace Go.Proofs.Ytkfkbmlbpeojaaa.Q
open Go.RowKit Go.Proofs.YtkfkbmlbpeojaaaW.PrintWords Go.Proofs.YtkfkbmlbpeojaaaW.PrintLast Go.Proofs.YtkfkbmlbpeojaaaW.PrintMore
attribute [local go_sem] zcs zct zdo zdp zb2 zb3 zcu zcv
set_option linter.unusedVariables false
set_option linter.unusedSimpArgs false
end Go.Proofs.Ytkfkbmlbpeojaaa.Q
end
section
namespace Go.Proofs.Ytkfkbmlbpeojaaa.PL
open Go Go.RowKit Go.Proofs.YtkfkbmlbpeojaaaW.PrintWords Go.Proofs.YtkfkbmlbpeojaaaW.PrintLast Go.Proofs.YtkfkbmlbpeojaaaW.PrintMore Go.Proofs.Ytkfkbmlbpeojaaa.Q
set_option linter.unusedSimpArgs false
set_option linter.unusedVariables false
abbrev Instr := S94
abbrev zui := S93
def cvI (x : zui) : Instr := ⟨x.f0, x.f1, x.f2, x.f3, x.f4⟩
theorem zpi (s : ByteArray) (a b c d r : Int) (hs : s.size ≤ maxLen) (h0 : 0 ≤ r) (h1 : r ≤ 1048576) : zhk s a b c d r = some (if r < s.size then -1 else r - s.size) := by
  unfold maxLen at hs
  unfold zhk
  rw [w64 (by omega) (by omega)]
  by_cases h : r < s.size
  · rw [if_pos (by omega), if_pos h]
  · rw [if_neg (by omega), if_neg h]
theorem zr5 (l : List zui) (a : Int) (hl : Rd.okSl zuf l) (h0 : 0 ≤ a) (h1 : a ≤ 1048576) :
    ∃ r, Ev (fun k => zej k l a) r ∧ (0 ≤ r → (l.length : Int) ≤ a ∧ (∀ x ∈ l, (x.f0.size : Int) ≤ a) ∧ r ≤ a) := by
  obtain ⟨hl1, hl2⟩ := hl
  unfold maxLen at hl1
  by_cases h : a < l.length
  · refine ⟨-1, ?_, fun h => absurd h (by decide)⟩
    unfold zej
    rw [w64 (by omega) (by omega)]
    simp only [show a - (l.length : Int) < 0 by omega, if_true]
    exact za4 _
  · have key : ∀ (d i : Nat) (r : Int), i + d = l.length → 0 ≤ r → r ≤ a → ∃ q, Ev (fun k => zbs k l r i) q ∧ q ≤ a ∧ (0 ≤ q → ∀ x ∈ l.drop i, (x.f0.size : Int) ≤ a) := by
      intro d
      induction d with
      | zero =>
        intro i r hi hr _
        refine ⟨r, Ev.step (f := fun _ => some r) (fun k => ?_) (za4 _), by omega, fun _ x hx => ?_⟩
        · simp only [zbs]
          rw [if_neg (by omega)]
        · rw [List.drop_of_length_le (by omega)] at hx
          cases hx
      | succ d ih =>
        intro i r hi hr hra
        have hlt : i < l.length := by omega
        have e : l.drop i = l[i] :: l.drop (i + 1) := List.drop_eq_getElem_cons hlt
        have hx := zw4 (zen l i hlt)
        have hsz := (hl2 l[i] (List.getElem_mem hlt)).1
        by_cases hb : r < l[i].f0.size
        · refine ⟨-1, Ev.step (f := fun _ => some (-1)) (fun k => ?_) (za4 _), by omega, fun h => absurd h (by decide)⟩
          simp only [zbs]
          rw [if_pos (by omega), if_pos (by omega), hx, zpi _ _ _ _ _ _ hsz hr (by omega), if_pos hb]
          rfl
        · obtain ⟨q, hq, hqa, hq'⟩ := ih (i + 1) (r - l[i].f0.size) (by omega) (by omega) (by omega)
          refine ⟨q, Ev.step (f := fun k => zbs k l (r - l[i].f0.size) ((i + 1 : Nat) : Int)) (fun k => ?_) hq, hqa, fun h x hx' => ?_⟩
          · simp only [zbs]
            rw [if_pos (by omega), if_pos (by omega), hx, zpi _ _ _ _ _ _ hsz hr (by omega), if_neg hb, Option.bind_some, if_neg (by omega), w64n i (by omega)]
          · rw [e] at hx'
            rcases List.mem_cons.1 hx' with rfl | hx'
            · omega
            · exact hq' h x hx'
    obtain ⟨q, hq, hqa, hq'⟩ := key l.length 0 (a - l.length) (by omega) (by omega) (by omega)
    refine ⟨q, ?_, fun h' => ⟨by omega, by simpa using hq' h', hqa⟩⟩
    unfold zej
    rw [w64 (by omega) (by omega)]
    simp only [show ¬ (a - (l.length : Int) < 0) by omega, if_false]
    simpa using hq
theorem zr6 (l : List zui) (hl : l.length ≤ 1048576) : Ev (fun k => ze0 k l) (l.map cvI) := by
  have key : ∀ (d i : Nat), i + d = l.length → Ev (fun k => zbt k l ((l.take i).map cvI ++ List.replicate d z94) i) (l.map cvI) := by
    intro d
    induction d with
    | zero =>
      intro i hi
      refine Ev.step (f := fun _ => some _) (fun k => ?_) (za4 _)
      simp only [zbt]
      rw [if_neg (by omega), List.take_of_length_le (by omega)]
      simp
    | succ d ih =>
      intro i hi
      have hlt : i < l.length := by omega
      have hx := zw4 (zen l i hlt)
      refine Ev.step (fun k => ?_) (ih (i + 1) (by omega))
      simp only [zbt, zjd, Option.bind_some]
      rw [if_pos (by omega), if_pos (by omega), if_pos (by simp; omega), hx, w64n i (by omega)]
      congr 1
      have e : ((i : Int)).toNat = ((l.take i).map cvI).length := by simp; omega
      rw [e]
      have := zv8 ((l.take i).map cvI) (List.replicate d z94) z94 (cvI l[i])
      simp only [List.length_replicate] at this
      rw [show (⟨l[i].f0, l[i].f1, l[i].f2, l[i].f3, l[i].f4⟩ : Instr) = cvI l[i] from rfl, this]
      congr 1
      rw [List.take_succ_eq_append_getElem hlt, List.map_append]
      rfl
  unfold ze0
  refine zah (by omega) (zah (by simp; omega) ?_)
  simpa using key l.length 0 (by omega)
theorem zp6 (l : List Instr) (hl : l.length ≤ 1048576) : Ev (fun k => zez k l l) true := by
  unfold zez
  simp only [if_true]
  refine zks (σ := Unit) l (fun k _ i => zby k l l i) (fun _ _ => true) (fun _ => ?_) (fun i _ x rest hi hx ih => ?_) ()
  · refine Ev.step (f := fun _ => some true) (fun k => ?_) (za4 _)
    simp only [zby]
    rw [if_neg (by omega)]
  · refine Ev.step (fun k => ?_) (ih ())
    simp only [zby, zhj, reduceIte, Option.bind_some]
    rw [if_pos (by omega), if_pos (by omega), w64n i (by omega), if_pos (by omega)]
def zld (c : Nat) : Bool × Bool × Bool × Int × Int :=
  match c with
  | 0 => (true, false, false, 0, 63)
  | 1 => (true, true, false, 0, 0)
  | 2 => (true, true, true, 0, 0)
  | 3 => (true, true, true, 0, 0)
  | 4 => (true, true, true, 0, 0)
  | 5 => (true, true, false, 0, 63)
  | 6 => (true, true, false, 1, 5)
  | 7 => (true, true, true, 1, 3)
  | _ => (false, false, false, 0, 0)
theorem zqz : ∀ p ∈ ops, zd1 20 p.1 = some (zld p.2) := by decide +kernel
theorem zuj (s : ByteArray) : zgz s = some (zf0 (cls s) s) := rfl
theorem zv9 (s : ByteArray) : Ev (fun k => zd1 k s) (zld (cls s)) := by
  refine zpz (P := fun s => Ev (fun k => zd1 k s) (zld (cls s))) s (fun p hp => ?_) (fun h => ?_)
  · rw [zwy p hp]
    exact zz2 (zhe _) (zqz p hp)
  · rw [zoa h]
    obtain ⟨h0, h1, h2, h3, h4, h5, h6, h7, h8, h9, h10, h11, h12, h13, h14, h15, h16, h17, h18, h19⟩ := zrz h
    refine zz2 (zhe _) (k := 5) ?_
    simp only [zd1, zcg, zaw, zch, zcy, h0, h1, h2, h3, h4, h5, h6, h7, h8, h9, h10, h11, h12, h13, h14, h15, h16, h17, h18, h19, if_false, beq_iff_eq]
    rfl
theorem zjt (a b c : Int) : zdi a b c = some (decide (b ≤ a ∧ a ≤ c)) := by
  unfold zdi
  by_cases h : b ≤ a <;> simp [h]
theorem zlu (a b c : Int) : zaz a b c = some (decide (b ≤ a ∧ a ≤ c)) := by
  unfold zaz
  by_cases h : a ≥ b
  · rw [if_pos h]; congr 1; rw [decide_eq_decide]; omega
  · rw [if_neg h]; congr 1; symm; rw [decide_eq_false_iff_not]; omega
theorem zp7 (a : Int) : zcd a = some (decide (0 ≤ a ∧ a ≤ 5)) := by
  unfold zcd
  rw [zjt]; rfl
theorem zs6 (a : Int) : zbm a = some (decide (0 ≤ a ∧ a ≤ 5)) := by
  unfold zbm
  rw [zlu]; rfl
def okI (x : Instr) : Prop := cls x.f0 ≠ 8 ∧ (0 ≤ x.f1 ∧ x.f1 ≤ 5) ∧ ((zld (cls x.f0)).2.1 = true ∧ 0 ≤ x.f2 ∧ x.f2 ≤ 5 ∨ x.f2 = 0) ∧ ((zld (cls x.f0)).2.2.1 = true ∧ 0 ≤ x.f3 ∧ x.f3 ≤ 5 ∨ x.f3 = 0) ∧ (zld (cls x.f0)).2.2.2.1 ≤ x.f4 ∧ x.f4 ≤ (zld (cls x.f0)).2.2.2.2
instance (x : Instr) : Decidable (okI x) := by unfold okI; infer_instance
theorem zw5 (s : ByteArray) : cls s ≤ 8 := by
  refine zpz (P := fun s => cls s ≤ 8) s (by decide +kernel) (fun h => by rw [zoa h]; exact Nat.le_refl _)
theorem zq0 (s : ByteArray) : cls s = 0 ∨ cls s = 1 ∨ cls s = 2 ∨ cls s = 3 ∨ cls s = 4 ∨ cls s = 5 ∨ cls s = 6 ∨ cls s = 7 ∨ cls s = 8 := by have := zw5 s; omega
theorem zpj (x : Instr) : zfu x.f0 x.f1 x.f2 x.f3 x.f4 = some (decide (okI x)) := by
  unfold zfu
  congr 1
  obtain ⟨s, d, a, b, m⟩ := x
  simp only [okI]
  rw [Bool.eq_iff_iff]
  simp only [okF, Bool.and_eq_true, Bool.or_eq_true, decide_eq_true_eq, Bool.not_eq_true', decide_eq_false_iff_not]
  rcases zq0 s with h | h | h | h | h | h | h | h | h <;> simp only [h, zf0, zld] <;> simp <;> omega
theorem zra (x : Instr) : Ev (fun k => zfp k x.f0 x.f1 x.f2 x.f3 x.f4) (decide (okI x)) := by
  unfold zfp
  refine Ev.bind (zv9 x.f0) (Ev.const ?_)
  obtain ⟨s, d, a, b, m⟩ := x
  simp only [zlu, zs6, Option.bind_some, okI]
  rcases zq0 s with h | h | h | h | h | h | h | h | h <;> simp only [h, zld] <;> by_cases h1 : 0 ≤ d ∧ d ≤ 5 <;> by_cases h2 : 0 ≤ a ∧ a ≤ 5 <;> by_cases h3 : 0 ≤ b ∧ b ≤ 5 <;> (try simp [h1, h2, h3]) <;> (repeat' split) <;> (try (rw [Bool.eq_iff_iff]; simp only [Bool.and_eq_true, decide_eq_true_eq, beq_iff_eq, true_iff, false_iff, Bool.false_eq_true, iff_false, iff_true])) <;> (try simp only [Option.some.injEq]) <;> (try (rw [Bool.eq_iff_iff]; simp only [Bool.and_eq_true, decide_eq_true_eq, beq_iff_eq, true_iff, false_iff, Bool.false_eq_true, iff_false, iff_true])) <;> (try omega)
def zmf (l : List Instr) : Bool := decide (l.length ≤ 40) && l.all (fun x => decide (okI x))
def zjx (l : List Instr) : Bool := decide (l.length ≤ 20) && l.all (fun x => decide (okI x))
theorem zuk (l : List Instr) : Ev (fun k => ze5 k l) (zmf l) := by
  unfold ze5
  by_cases hl : l.length ≤ 40
  · refine zah (by omega) ?_
    have h : Ev (fun k => zbc k l) (idx (fun x => !decide (okI x)) l) := by
      unfold zbc
      refine zkt l _ (fun k i => zal k l l.length i) ?_ (fun i x hi hx hp => ?_) (fun i x r hi hx hp hr => ?_)
      · refine Ev.step (f := fun _ => some (-1)) (fun k => ?_) (za4 _)
        simp only [zal]
        rw [if_neg (by omega)]
      · refine Ev.step (f := fun _ => some (i : Int)) (fun k => ?_) (za4 _)
        simp only [zal, zg0, zqy hx, zpj, Option.bind_some, hp]
        rw [if_pos (by omega), if_pos (by omega), if_pos (by omega), if_pos trivial]
      · refine Ev.step (fun k => ?_) hr
        simp only [zal, zg0, zqy hx, zpj, Option.bind_some, hp]
        rw [if_pos (by omega), if_pos (by omega), if_pos (by omega), if_neg (by simp), w64n i (by omega)]
    unfold zbg
    refine Ev.bind (Ev.bind h (za4 _)) (Ev.some ?_)
    have e := zia (fun x => !decide (okI x)) l
    unfold zmf
    rw [show decide (l.length ≤ 40) = true by simpa using hl, Bool.true_and]
    by_cases hc : 0 ≤ idx (fun x => !decide (okI x)) l
    · obtain ⟨x, hx, hx'⟩ := e.1 hc
      rw [decide_eq_true (show idx (fun x => !decide (okI x)) l ≥ 0 from hc)]
      symm
      simpa using ⟨x, hx, by simpa using hx'⟩
    · rw [decide_eq_false (show ¬ idx (fun x => !decide (okI x)) l ≥ 0 from hc)]
      symm
      have := fun h => hc (e.2 h)
      simpa using this
  · refine za1 (by omega) (Ev.some ?_)
    unfold zmf
    rw [show decide (l.length ≤ 40) = false by simpa using hl]
    rfl
theorem zul (l : List Instr) : Ev (fun k => ze8 k l) (zmf l) := by
  unfold ze8
  by_cases hl : l.length ≤ 40
  · refine za1 (by omega) ?_
    unfold zmf
    rw [show decide (l.length ≤ 40) = true by simpa using hl, Bool.true_and]
    refine zzb l _ (fun k i => zcb k l l.length i) ?_ (fun i x hi hx hp => ?_) (fun i x r hi hx hp hr => ?_)
    · refine Ev.step (f := fun _ => some true) (fun k => ?_) (za4 _)
      simp only [zcb]
      rw [if_neg (by omega)]
    · refine Ev.step (fun k => by simp only [zcb, zqy hx]; rfl) ?_
      refine zah (by omega) (zah (by omega) (zah (by omega) ?_))
      exact Ev.bind (zra x) (za1 (by simpa using hp) (za4 _))
    · refine Ev.step (fun k => by simp only [zcb, zqy hx, w64n i (show i < 4611686018427387904 by omega)]; rfl) ?_
      refine zah (by omega) (zah (by omega) (zah (by omega) ?_))
      exact Ev.bind (zra x) (zah (by simpa using hp) hr)
  · refine zah (by omega) (Ev.some ?_)
    unfold zmf
    rw [show decide (l.length ≤ 40) = false by simpa using hl]
    rfl
theorem zpl (l : List Instr) : zjx l = (zmf l && decide (l.length ≤ 20)) := by
  unfold zjx zmf
  by_cases h : l.length ≤ 20
  · simp [h, show l.length ≤ 40 by omega]
  · simp [h]
theorem znj {l : List Instr} (h : zjx l = true) : l.length ≤ 20 ∧ ∀ x ∈ l, okI x := by
  unfold zjx at h
  simp only [Bool.and_eq_true, decide_eq_true_eq, List.all_eq_true] at h
  exact h
theorem ztr (l : List Instr) : Ev (fun k => zer k l) (zjx l) := by
  unfold zer
  refine Ev.bind (zuk l) ?_
  rw [zpl]
  cases h : zmf l
  · exact za1 (by simp) (Ev.some rfl)
  · refine zah rfl (Ev.some ?_)
    rw [Bool.true_and, decide_eq_decide]
    omega
end Go.Proofs.Ytkfkbmlbpeojaaa.PL
end
section
namespace Go.Proofs.Ytkfkbmlbpeojaaa.Q
open Go.RowKit Go.Proofs.YtkfkbmlbpeojaaaW.PrintWords Go.Proofs.YtkfkbmlbpeojaaaW.PrintLast Go.Proofs.YtkfkbmlbpeojaaaW.PrintMore
attribute [local go_sem] zcs zct zdo zdp zb2 zb3 zcu zcv
set_option linter.unusedVariables false
set_option linter.unusedSimpArgs false
end Go.Proofs.Ytkfkbmlbpeojaaa.Q
end
section
namespace Go.Proofs.Ytkfkbmlbpeojaaa.PL
open Go Go.RowKit Go.Proofs.YtkfkbmlbpeojaaaW.PrintWords Go.Proofs.YtkfkbmlbpeojaaaW.PrintLast Go.Proofs.YtkfkbmlbpeojaaaW.PrintMore Go.Proofs.Ytkfkbmlbpeojaaa.Q
set_option linter.unusedSimpArgs false
set_option linter.unusedVariables false
theorem zhs {xs : List S72} {i : Nat} {x : S72} (h : ∀ d, xs.getD i d = x) : zab xs i = x := by unfold zab; rw [Int.toNat_natCast]; exact h _
abbrev Node := S72
theorem zrb (l : List Node) (hl : l.length ≤ 1048576) : Ev (fun k => zfd k l l) true := by
  unfold zfd
  simp only [if_true]
  refine zks (σ := Unit) l (fun k _ i => zb8 k l l i) (fun _ _ => true) (fun _ => ?_) (fun i _ x rest hi hx ih => ?_) ()
  · refine Ev.step (f := fun _ => some true) (fun k => ?_) (za4 _)
    simp only [zb8]
    rw [if_neg (by omega)]
  · refine Ev.step (fun k => ?_) (ih ())
    simp only [zb8, zh6, reduceIte, Option.bind_some]
    rw [if_pos (by omega), if_pos (by omega), w64n i (by omega), if_pos (by omega)]
theorem zxu {α : Type} (p : α → Bool) (xs : List α) (q : Prop) [Decidable q] (h : q ↔ ∃ x ∈ xs, p x = true) : decide (idx p xs ≥ 0) = decide q := by
  rw [decide_eq_decide]
  exact (zia p xs).trans h.symm
def hasS (l : List ByteArray) (s : ByteArray) : Bool := l.any fun y => decide (y = s)
theorem zk1 (l : List ByteArray) (s : ByteArray) : hasS l s = true ↔ s ∈ l := by
  unfold hasS
  rw [List.any_eq_true]
  exact ⟨fun ⟨x, hx, h⟩ => of_decide_eq_true h ▸ hx, fun h => ⟨s, h, decide_eq_true rfl⟩⟩
theorem zku (l : List ByteArray) (s : ByteArray) (hl : l.length ≤ 1048576) : Ev (fun k => zaq k l s) (hasS l s) := by
  have h : Ev (fun k => zao k l s) (idx (fun y => decide (s = y)) l) := by
    unfold zao
    refine zkt l _ (fun k i => zak k l s l.length i) ?_ (fun i x hi hx hp => ?_) (fun i x r hi hx hp hr => ?_)
    · refine Ev.step (f := fun _ => some (-1)) (fun k => ?_) (za4 _)
      simp only [zak]
      rw [if_neg (by omega)]
    · refine Ev.step (f := fun _ => some (i : Int)) (fun k => ?_) (za4 _)
      simp only [zak, zni hx, zly]
      rw [if_pos (by omega), if_pos (by omega), if_pos (by omega), if_pos (of_decide_eq_true hp)]
    · refine Ev.step (fun k => ?_) hr
      simp only [zak, zni hx, zly]
      rw [if_pos (by omega), if_pos (by omega), if_pos (by omega), if_neg (of_decide_eq_false hp), w64n i (by omega)]
  unfold zaq
  refine Ev.bind h (Ev.some ?_)
  rw [Bool.eq_iff_iff, decide_eq_true_eq, zk1]
  refine (zia _ l).trans ⟨?_, fun h => ⟨s, h, decide_eq_true rfl⟩⟩
  rintro ⟨x, hx, h⟩
  rw [of_decide_eq_true h]
  exact hx
theorem zrc (l : List ByteArray) (s : ByteArray) (hl : l.length ≤ 1048576) : Ev (fun k => zdr k l s) (hasS l s) := by
  unfold zdr
  refine zks (σ := Unit) l (fun k _ i => zc1 k s l l.length i) (fun r _ => hasS r s) (fun _ => ?_) (fun i _ x rest hi hx ih => ?_) ()
  · refine Ev.step (f := fun _ => some false) (fun k => ?_) (za4 _)
    simp only [zc1]
    rw [if_neg (by omega)]
  · refine Ev.step (fun k => by simp only [zc1, zni hx, zly]; rfl) (zah (by omega) (zah (by omega) (zah (by omega) ?_)))
    by_cases q : x = s
    · exact zah q (Ev.some (by simp [hasS, q]))
    · refine za1 q ?_
      rw [w64n i (by omega)]
      refine zme (ih ()) ?_
      simp [hasS, q]
theorem zrd (l : List Int) (s : Int) (hl : l.length ≤ 1048576) : Ev (fun k => zbj k l s) (decide (s ∈ l)) := by
  have h : Ev (fun k => zcm k l s) (idx (fun y => decide (s = y)) l) := by
    unfold zcm
    refine zkt l _ (fun k i => za2 k l s l.length i) ?_ (fun i x hi hx hp => ?_) (fun i x r hi hx hp hr => ?_)
    · refine Ev.step (f := fun _ => some (-1)) (fun k => ?_) (za4 _)
      simp only [za2]
      rw [if_neg (by omega)]
    · refine Ev.step (f := fun _ => some (i : Int)) (fun k => ?_) (za4 _)
      simp only [za2, ztq hx]
      rw [if_pos (by omega), if_pos (by omega), if_pos (by omega), if_pos (of_decide_eq_true hp)]
    · refine Ev.step (fun k => ?_) hr
      simp only [za2, ztq hx]
      rw [if_pos (by omega), if_pos (by omega), if_pos (by omega), if_neg (of_decide_eq_false hp), w64n i (by omega)]
  unfold zbj
  refine Ev.bind h (Ev.some (zxu _ _ _ ?_))
  constructor
  · exact fun h => ⟨s, h, decide_eq_true rfl⟩
  · rintro ⟨x, hx, h⟩
    rw [of_decide_eq_true h]
    exact hx
theorem zwa (l : List Int) (s : Int) (hl : l.length ≤ 1048576) : Ev (fun k => zeu k l s) (decide (s ∈ l)) := by
  unfold zeu
  refine zks (σ := Unit) l (fun k _ i => zdk k s l l.length i) (fun r _ => decide (s ∈ r)) (fun _ => ?_) (fun i _ x rest hi hx ih => ?_) ()
  · refine Ev.step (f := fun _ => some false) (fun k => ?_) (Ev.some (by simp))
    simp only [zdk]
    rw [if_neg (by omega)]
  · refine Ev.step (fun k => by simp only [zdk, ztq hx]; rfl) (zah (by omega) (zah (by omega) (zah (by omega) ?_)))
    by_cases q : x = s
    · exact zah q (Ev.some (by simp [q]))
    · refine za1 q ?_
      rw [w64n i (by omega)]
      refine zme (ih ()) ?_
      rw [decide_eq_decide, List.mem_cons]
      exact ⟨Or.inr, fun h => h.resolve_left fun e => q e.symm⟩
def bops : List ByteArray := [⟨#[97, 100, 100]⟩, ⟨#[115, 117, 98]⟩, ⟨#[109, 117, 108]⟩, ⟨#[97, 110, 100]⟩, ⟨#[111, 114]⟩, ⟨#[120, 111, 114]⟩, ⟨#[115, 104, 108]⟩, ⟨#[115, 104, 114]⟩, ⟨#[108, 101, 115, 115]⟩, ⟨#[101, 113]⟩]
theorem zre : zfm = some bops := rfl
theorem zwb : zi0 = some bops := rfl
def isIn (s : ByteArray) : Prop := s.toList = ([105, 110] : List UInt8)
def zgm (s : ByteArray) : Prop := s.toList = ([99, 111, 110, 115, 116] : List UInt8)
def zn8 (s : ByteArray) : Prop := s.toList = ([110, 111, 116] : List UInt8)
def zos (s : ByteArray) : Prop := s.toList = ([110, 101, 103] : List UInt8)
instance (s : ByteArray) : Decidable (isIn s) := by unfold isIn; infer_instance
instance (s : ByteArray) : Decidable (zgm s) := by unfold zgm; infer_instance
instance (s : ByteArray) : Decidable (zn8 s) := by unfold zn8; infer_instance
instance (s : ByteArray) : Decidable (zos s) := by unfold zos; infer_instance
def kN (s : ByteArray) : Nat := if isIn s then 0 else if zgm s then 1 else if zn8 s ∨ zos s then 2 else if hasS bops s = true then 3 else 4
def zhy (c : Nat) : Int := match c with | 0 => 0 | 1 => 0 | 2 => 1 | 3 => 2 | _ => -1
theorem zkf (s : ByteArray) : kN s = 0 ∨ kN s = 1 ∨ kN s = 2 ∨ kN s = 3 ∨ kN s = 4 := by
  unfold kN
  split
  · simp
  split
  · simp
  split
  · simp
  split <;> simp
theorem zik (s : ByteArray) : Ev (fun k => zcf k s) (zhy (kN s)) := by
  unfold zcf kN
  by_cases h1 : isIn s
  · rw [if_pos h1]
    refine zah h1 (Ev.step (fun k => by simp only [zb4]; rfl) (zah (show true = true from rfl) (za4 _)))
  rw [if_neg h1]
  refine za1 h1 ?_
  by_cases h2 : zgm s
  · rw [if_pos h2]
    exact Ev.step (fun k => by simp only [zb4]; rfl) (zah (beq_iff_eq.2 h2) (za4 _))
  rw [if_neg h2]
  refine Ev.step (fun k => by simp only [zb4]; rfl) (za1 (fun e => h2 (beq_iff_eq.1 e)) ?_)
  by_cases h3 : zn8 s
  · rw [if_pos (Or.inl h3)]
    exact zah h3 (Ev.step (fun k => by simp only [zb5]; rfl) (zah (show true = true from rfl) (za4 _)))
  refine za1 h3 ?_
  by_cases h4 : zos s
  · rw [if_pos (Or.inr h4)]
    exact Ev.step (fun k => by simp only [zb5]; rfl) (zah (beq_iff_eq.2 h4) (za4 _))
  rw [if_neg (fun e => e.elim h3 h4)]
  refine Ev.step (fun k => by simp only [zb5]; rfl) (za1 (fun e => h4 (beq_iff_eq.1 e)) ?_)
  refine Ev.call zre (Ev.bind (zku bops s (by decide)) ?_)
  by_cases h5 : hasS bops s = true
  · simp only [if_pos h5]
    exact za4 _
  · simp only [if_neg h5]
    exact za4 _
theorem zs7 (s : ByteArray) : zgb s = some (decide (zn8 s ∨ zos s)) := by
  unfold zgb
  by_cases h3 : zn8 s
  · rw [if_pos (show s.toList = _ from h3), decide_eq_true (Or.inl h3)]
  · rw [if_neg (show ¬ s.toList = _ from h3)]
    congr 1
    rw [Bool.eq_iff_iff, beq_iff_eq, decide_eq_true_eq]
    exact ⟨Or.inr, fun h => h.resolve_left h3⟩
theorem zoc (s : ByteArray) : Ev (fun k => zdl k s) (hasS bops s) := by
  unfold zdl
  exact Ev.call zwb (Ev.bind (zrc bops s (by decide)) (za4 _))
def zdy (c : Nat) (a b : Int) : List Int := match c with | 2 => [a] | 3 => [a, b] | _ => []
theorem zr7 (x : Node) : Ev (fun k => zdd k x.f0 x.f1 x.f2 x.f3) (zdy (kN x.f0) x.f1 x.f2) := by
  unfold zdd
  refine Ev.call rfl (Ev.bind (zik x.f0) (Ev.const ?_))
  rcases zkf x.f0 with h | h | h | h | h <;> rw [h] <;> rfl
theorem zgw (x : Node) : Ev (fun k => zcq k x.f0 x.f1 x.f2 x.f3) (zdy (kN x.f0) x.f1 x.f2) := by
  unfold zcq
  refine Ev.call (zs7 _) ?_
  have d1 : ∀ s, isIn s → ¬ (zn8 s ∨ zos s) := fun s h e => by unfold isIn at h; unfold zn8 zos at e; rw [h] at e; revert e; decide
  have d2 : ∀ s, zgm s → ¬ (zn8 s ∨ zos s) := fun s h e => by unfold zgm at h; unfold zn8 zos at e; rw [h] at e; revert e; decide
  have d3 : ∀ s, isIn s → ¬ hasS bops s = true := fun s h => by rw [str_lit.1 h]; decide +kernel
  have d4 : ∀ s, zgm s → ¬ hasS bops s = true := fun s h => by rw [str_lit.1 h]; decide +kernel
  unfold kN
  by_cases h1 : isIn x.f0
  · rw [if_pos h1]
    exact za1 (by simpa using d1 _ h1) (Ev.bind (zoc _) (za1 (d3 _ h1) (za4 _)))
  rw [if_neg h1]
  by_cases h2 : zgm x.f0
  · rw [if_pos h2]
    exact za1 (by simpa using d2 _ h2) (Ev.bind (zoc _) (za1 (d4 _ h2) (za4 _)))
  rw [if_neg h2]
  by_cases h3 : zn8 x.f0 ∨ zos x.f0
  · rw [if_pos h3]
    exact zah (by simpa using h3) (za4 _)
  rw [if_neg h3]
  refine za1 (by simpa using h3) (Ev.bind (zoc _) ?_)
  by_cases h5 : hasS bops x.f0 = true
  · simp only [if_pos h5]
    exact za4 _
  · simp only [if_neg h5]
    exact za4 _
def okNd (c : Nat) (a b m i : Int) : Bool := match c with
  | 0 => decide (a = 0 ∧ b = 0 ∧ 0 ≤ m ∧ m ≤ 1)
  | 1 => decide (a = 0 ∧ b = 0 ∧ 0 ≤ m ∧ m ≤ 63)
  | 2 => decide ((0 ≤ a ∧ a ≤ i - 1) ∧ b = 0 ∧ m = 0)
  | 3 => decide ((0 ≤ a ∧ a ≤ i - 1) ∧ (0 ≤ b ∧ b ≤ i - 1) ∧ m = 0)
  | _ => false
def okNx (x : Node) (i : Int) : Bool := okNd (kN x.f0) x.f1 x.f2 x.f3 i
theorem zum (x : Node) (i : Nat) (hi : i ≤ 1048576) : Ev (fun k => zfq k x.f0 x.f1 x.f2 x.f3 i) (okNx x i) := by
  obtain ⟨s, a, b, m⟩ := x
  simp only [okNx]
  unfold zfq kN
  have e1 : wrap64 ((i : Int) - 1) = (i : Int) - 1 := w64 (by omega) (by omega)
  by_cases h1 : isIn s
  · rw [if_pos h1]
    refine zah h1 (Ev.const ?_)
    simp only [zlu, Option.bind_some, okNd]
    by_cases q1 : a = 0 <;> by_cases q2 : b = 0 <;> simp [q1, q2]
  rw [if_neg h1]
  refine za1 h1 ?_
  by_cases h2 : zgm s
  · rw [if_pos h2]
    refine zah h2 (Ev.const ?_)
    simp only [zh7, zlu, Option.bind_some, okNd]
    by_cases q1 : a = 0 <;> by_cases q2 : b = 0 <;> simp [q1, q2]
  rw [if_neg h2]
  refine za1 h2 (Ev.call (zs7 _) ?_)
  rw [e1]
  by_cases h3 : zn8 s ∨ zos s
  · rw [if_pos h3]
    refine zah (by simpa using h3) (Ev.const ?_)
    simp only [zlu, Option.bind_some, okNd]
    by_cases q1 : 0 ≤ a ∧ a ≤ (i : Int) - 1 <;> by_cases q2 : b = 0 <;> by_cases q3 : m = 0 <;> simp [q1, q2, q3]
  rw [if_neg h3]
  refine za1 (by simpa using h3) (Ev.bind (zoc _) ?_)
  by_cases h5 : hasS bops s = true
  · simp only [if_pos h5]
    refine Ev.const ?_
    simp only [zlu, Option.bind_some, okNd]
    by_cases q1 : 0 ≤ a ∧ a ≤ (i : Int) - 1 <;> by_cases q2 : 0 ≤ b ∧ b ≤ (i : Int) - 1 <;> by_cases q3 : m = 0 <;> simp [q1, q2, q3]
  · simp only [if_neg h5]
    exact za4 _
theorem zun (x : Node) (i : Nat) (hi : i ≤ 1048576) : Ev (fun k => zd4 k x.f0 x.f1 x.f2 x.f3 i) (okNx x i) := by
  obtain ⟨s, a, b, m⟩ := x
  simp only [okNx]
  unfold zd4
  refine Ev.bind (zik s) (Ev.call rfl ?_)
  have e1 : wrap64 ((i : Int) - 1) = (i : Int) - 1 := w64 (by omega) (by omega)
  have r0 : rd [a, b] 0 = a := rfl
  have r1 : rd [a, b] 1 = b := rfl
  have fin : ∀ r : Bool, (isIn s → decide (0 ≤ m ∧ m ≤ 1) = r) → (zgm s → decide (0 ≤ m ∧ m ≤ 63) = r) → (¬ isIn s → ¬ zgm s → (if zhy (kN s) > 0 then (m == 0) else false) = r) → Ev (fun k => zam k i (zhy (kN s)) [a, b] 2 2 s a b m) r := by
    intro r f1 f2 f3
    refine Ev.step (fun k => by simp only [zam]; rfl) (za1 (by decide) ?_)
    by_cases h1 : isIn s
    · refine zah h1 (Ev.const ?_)
      rw [zjt, f1 h1]
      rfl
    refine za1 h1 ?_
    by_cases h2 : zgm s
    · refine zah h2 (Ev.const ?_)
      simp only [zjw, zjt, Option.bind_some]
      rw [f2 h2]
    refine za1 h2 (Ev.const ?_)
    rw [← f3 h1 h2]
    split <;> rfl
  have one : ∀ r : Bool, ((if 1 < zhy (kN s) then decide (0 ≤ b ∧ b ≤ (i : Int) - 1) else decide (b = 0)) = false → r = false) → ((if 1 < zhy (kN s) then decide (0 ≤ b ∧ b ≤ (i : Int) - 1) else decide (b = 0)) = true → Ev (fun k => zam k i (zhy (kN s)) [a, b] 2 2 s a b m) r) → Ev (fun k => zam k i (zhy (kN s)) [a, b] 2 1 s a b m) r := by
    intro r f1 f2
    refine Ev.step (fun k => by simp only [zam, r1, e1, zjt, Option.bind_some, show wrap64 (1 + 1) = 2 from w64 (by decide) (by decide)]; rfl) (zah (by decide) (zah (by decide) (zah (by simp) ?_)))
    by_cases h : 1 < zhy (kN s)
    · rw [if_pos h] at f1 f2
      refine zah h ?_
      by_cases q : 0 ≤ b ∧ b ≤ (i : Int) - 1
      · exact zah (by simpa using q) (za1 (by omega) (f2 (by simpa using q)))
      · exact za1 (by simpa using q) (Ev.some (f1 (by simpa using q)).symm)
    · rw [if_neg h] at f1 f2
      refine za1 h (zah (by omega) ?_)
      by_cases q : b = 0
      · exact zah q (f2 (by simpa using q))
      · exact za1 q (Ev.some (f1 (by simpa using q)).symm)
  have zero : ∀ r : Bool, ((if 0 < zhy (kN s) then decide (0 ≤ a ∧ a ≤ (i : Int) - 1) else decide (a = 0)) = false → r = false) → ((if 0 < zhy (kN s) then decide (0 ≤ a ∧ a ≤ (i : Int) - 1) else decide (a = 0)) = true → Ev (fun k => zam k i (zhy (kN s)) [a, b] 2 1 s a b m) r) → Ev (fun k => zam k i (zhy (kN s)) [a, b] 2 0 s a b m) r := by
    intro r f1 f2
    refine Ev.step (fun k => by simp only [zam, r0, e1, zjt, Option.bind_some, show wrap64 (0 + 1) = 1 from w64 (by decide) (by decide)]; rfl) (zah (by decide) (zah (by decide) (zah (by simp) ?_)))
    by_cases h : 0 < zhy (kN s)
    · rw [if_pos h] at f1 f2
      refine zah h ?_
      by_cases q : 0 ≤ a ∧ a ≤ (i : Int) - 1
      · exact zah (by simpa using q) (za1 (by omega) (f2 (by simpa using q)))
      · exact za1 (by simpa using q) (Ev.some (f1 (by simpa using q)).symm)
    · rw [if_neg h] at f1 f2
      refine za1 h (zah (by omega) ?_)
      by_cases q : a = 0
      · exact zah q (f2 (by simpa using q))
      · exact za1 q (Ev.some (f1 (by simpa using q)).symm)
  show Ev (fun k => zam k i (zhy (kN s)) [a, b] 2 0 s a b m) _
  have hin : isIn s ↔ kN s = 0 := by
    unfold kN
    by_cases h : isIn s
    · simp [h]
    · simp only [h, if_false, false_iff]
      repeat' split
      all_goals decide
  have hco : ¬ isIn s → (zgm s ↔ kN s = 1) := fun h0 => by
    unfold kN
    by_cases h : zgm s
    · simp [h, h0]
    · simp only [h, h0, if_false, false_iff]
      repeat' split
      all_goals decide
  have hdis : zgm s → ¬ isIn s := fun h e => by unfold zgm at h; unfold isIn at e; rw [h] at e; revert e; decide
  refine zero _ (fun q => ?_) (fun q0 => one _ (fun q => ?_) (fun q1 => fin _ (fun h => ?_) (fun h => ?_) (fun h h' => ?_)))
  · rcases zkf s with c | c | c | c | c <;> rw [c] at q ⊢ <;> simp [zhy, okNd] at q ⊢ <;> omega
  · rcases zkf s with c | c | c | c | c <;> rw [c] at q ⊢ <;> simp [zhy, okNd] at q ⊢ <;> omega
  · have c := hin.1 h
    rw [c] at q0 q1 ⊢
    simp [zhy] at q0 q1
    simp [okNd, q0, q1]
  · have c := (hco (hdis h)).1 h
    rw [c] at q0 q1 ⊢
    simp [zhy] at q0 q1
    simp [okNd, q0, q1]
  · rcases zkf s with c | c | c | c | c
    · exact absurd (hin.2 c) h
    · exact absurd ((hco h).2 c) h'
    · rw [c] at q0 q1 ⊢
      simp [zhy] at q0 q1
      simp [okNd, zhy, q0, q1]
      rw [Bool.eq_iff_iff]
      simp
    · rw [c] at q0 q1 ⊢
      simp [zhy] at q0 q1
      simp [okNd, zhy, q0, q1]
      rw [Bool.eq_iff_iff]
      simp
    · rw [c]
      simp [okNd, zhy]
def okNs : Nat → List Node → Bool
  | _, [] => true
  | i, x :: xs => okNx x i && okNs (i + 1) xs
theorem zeb : ∀ (xs : List Node) (i j : Nat) (h : j < xs.length), okNs i xs = true → okNx xs[j] ((i + j : Nat) : Int) = true
  | [], _, _, h, _ => absurd h (by simp)
  | x :: xs, i, 0, _, ho => by
    simp only [okNs, Bool.and_eq_true] at ho
    exact ho.1
  | x :: xs, i, j + 1, h, ho => by
    simp only [okNs, Bool.and_eq_true] at ho
    have := zeb xs (i + 1) j (by simpa using h) ho.2
    rw [show i + 1 + j = i + (j + 1) by omega] at this
    exact this
def incr (u : List Int) (p : Int) : List Int := u.set p.toNat (wrap64 (rd u p + 1))
def zuo (u : List Int) (x : Node) : List Int := (zdy (kN x.f0) x.f1 x.f2).foldl incr u
def zp8 (l : List Node) : List Int := l.foldl zuo (List.replicate l.length 0)
theorem zs8 (u : List Int) (p : Int) : (incr u p).length = u.length := List.length_set
theorem zje (ps : List Int) : ∀ u, (ps.foldl incr u).length = u.length := by
  induction ps with
  | nil => exact fun u => rfl
  | cons p ps ih => exact fun u => (ih _).trans (zs8 u p)
theorem zup (u : List Int) (x : Node) : (zuo u x).length = u.length := zje _ u
theorem zot (l : List Node) : ∀ u, (l.foldl zuo u).length = u.length := by
  induction l with
  | nil => exact fun u => rfl
  | cons x l ih => exact fun u => (ih _).trans (zup u x)
theorem zmg (l : List Node) : (zp8 l).length = l.length := by
  unfold zp8
  rw [zot, List.length_replicate]
theorem zfg {x : Node} {i : Int} (h : okNx x i = true) : (zdy (kN x.f0) x.f1 x.f2).length ≤ 2 ∧ ∀ p ∈ zdy (kN x.f0) x.f1 x.f2, 0 ≤ p ∧ p ≤ i - 1 := by
  unfold okNx at h
  rcases zkf x.f0 with c | c | c | c | c <;> rw [c] at h ⊢ <;> simp [okNd] at h <;> simp [zdy] <;> omega
theorem zrf (L0 : Nat → List Int → Int → Option (List Int)) (L1 : Nat → List Int → Int → List Int → Int → Int → Option (List Int)) (i : Nat) (n : Nat) (r : List Int)
    (h0 : ∀ k u ps j, L1 (k + 1) u i ps (ps.length : Nat) (j : Nat) = if (j : Int) < (ps.length : Nat) then (if (0 : Int) ≤ (j : Nat) then (if ((j : Nat) : Int) < (ps.length : Nat) then (if 0 ≤ rd ps (j : Nat) then (if rd ps (j : Nat) < (u.length : Int) then L1 k (u.set (rd ps (j : Nat) : Int).toNat (wrap64 (rd u (rd ps (j : Nat)) + 1))) i ps (ps.length : Nat) (wrap64 ((j : Nat) + 1)) else none) else none) else none) else none) else L0 k u (wrap64 ((i : Nat) + 1)))
    (ps : List Int) (hps : ps.length ≤ 2) (hp : ∀ p ∈ ps, 0 ≤ p ∧ p < n) (u : List Int) (hu : u.length = n) (hi : i ≤ 1048576) (H : Ev (fun k => L0 k (ps.foldl incr u) ((i + 1 : Nat) : Int)) r) : Ev (fun k => L1 k u i ps ps.length 0) r := by
  have key : ∀ (d j : Nat) (u : List Int), u.length = n → j + d = ps.length → Ev (fun k => L0 k ((ps.drop j).foldl incr u) ((i + 1 : Nat) : Int)) r → Ev (fun k => L1 k u i ps ps.length (j : Nat)) r := by
    intro d
    induction d with
    | zero =>
      intro j u hu hj H
      refine Ev.step (fun k => h0 k u ps j) (za1 (by omega) ?_)
      rw [w64n i (by omega)]
      rw [List.drop_of_length_le (by omega)] at H
      exact H
    | succ d ih =>
      intro j u hu hj H
      have hlt : j < ps.length := by omega
      have e : ps.drop j = ps[j] :: ps.drop (j + 1) := List.drop_eq_getElem_cons hlt
      have hx := ztq (zen ps j hlt)
      have hb := hp ps[j] (List.getElem_mem hlt)
      refine Ev.step (fun k => h0 k u ps j) (zah (by omega) (zah (by omega) (zah (by omega) (zah (by rw [hx]; exact hb.1) (zah (by rw [hx]; omega) ?_)))))
      rw [hx, w64n j (by omega)]
      rw [e] at H
      exact ih (j + 1) (incr u ps[j]) (by rw [zs8]; exact hu) (by omega) H
  exact key ps.length 0 u hu (by omega) H
theorem zxv (l : List Node) (h : okNs 0 l = true) (hl : l.length ≤ 1000) : Ev (fun k => zgr k l) (zp8 l) := by
  unfold zgr
  refine zah (by omega) (zah (by simp; omega) ?_)
  have key : ∀ (d i : Nat) (u : List Int), u.length = l.length → i + d = l.length → Ev (fun k => zdb k u l l.length i) ((l.drop i).foldl zuo u) := by
    intro d
    induction d with
    | zero =>
      intro i u hu hi
      refine Ev.step (f := fun _ => some u) (fun k => ?_) (Ev.some ?_)
      · simp only [zdb]
        rw [if_neg (by omega)]
      · rw [List.drop_of_length_le (by omega)]
        rfl
    | succ d ih =>
      intro i u hu hi
      have hlt : i < l.length := by omega
      have e : l.drop i = l[i] :: l.drop (i + 1) := List.drop_eq_getElem_cons hlt
      have hx := zhs (zen l i hlt)
      have ok := zeb l 0 i hlt h
      rw [Nat.zero_add] at ok
      obtain ⟨p1, p2⟩ := zfg ok
      rw [e]
      refine Ev.step (fun k => by simp only [zdb, hx]; rfl) (zah (by omega) (zah (by omega) (zah (by omega) (Ev.bind (zr7 l[i]) ?_))))
      exact zrf (fun k u j => zdb k u l l.length j) (fun k u i ps n j => zdv k u l l.length i ps n j) i l.length _ (fun k u ps j => by simp only [zdv]) _ p1 (fun p hp => by have := p2 p hp; omega) u hu (by omega) (ih (i + 1) _ (by rw [zje]; exact hu) (by omega))
  simpa [zp8] using key l.length 0 (List.replicate l.length 0) (by simp) (by omega)
theorem zuq (l : List Node) (h : okNs 0 l = true) (hl : l.length ≤ 1000) : Ev (fun k => zfr k l) (zp8 l) := by
  unfold zfr
  refine zah (by omega) (zah (by simp; omega) ?_)
  have key : ∀ (d i : Nat) (u : List Int), u.length = l.length → i + d = l.length → Ev (fun k => zck k u l l.length i) ((l.drop i).foldl zuo u) := by
    intro d
    induction d with
    | zero =>
      intro i u hu hi
      refine Ev.step (f := fun _ => some u) (fun k => ?_) (Ev.some ?_)
      · simp only [zck]
        rw [if_neg (by omega)]
      · rw [List.drop_of_length_le (by omega)]
        rfl
    | succ d ih =>
      intro i u hu hi
      have hlt : i < l.length := by omega
      have e : l.drop i = l[i] :: l.drop (i + 1) := List.drop_eq_getElem_cons hlt
      have hx := zhs (zen l i hlt)
      have ok := zeb l 0 i hlt h
      rw [Nat.zero_add] at ok
      obtain ⟨p1, p2⟩ := zfg ok
      rw [e]
      refine Ev.step (fun k => by simp only [zck, hx]; rfl) (zah (by omega) (zah (by omega) (zah (by omega) (Ev.bind (zgw l[i]) ?_))))
      exact zrf (fun k u j => zck k u l l.length j) (fun k u i ps n j => zc7 k u l l.length i ps n j) i l.length _ (fun k u ps j => by simp only [zc7]) _ p1 (fun p hp => by have := p2 p hp; omega) u hu (by omega) (ih (i + 1) _ (by rw [zje]; exact hu) (by omega))
  simpa [zp8] using key l.length 0 (List.replicate l.length 0) (by simp) (by omega)
def zle (l : List Node) : Bool := decide (1 ≤ l.length ∧ l.length ≤ 24) && (okNs 0 l && !decide ((0 : Int) ∈ (zp8 l).take (l.length - 1)))
theorem zur (l : List Node) : Ev (fun k => zfn k l) (zle l) := by
  unfold zfn zle
  refine Ev.call (zjt _ _ _) ?_
  by_cases hl : 1 ≤ l.length ∧ l.length ≤ 24
  · rw [decide_eq_true hl, Bool.true_and]
    refine zah (by simp; omega) ?_
    have key : ∀ (d i : Nat), i + d = l.length → (okNs 0 l = true → okNs i (l.drop i) = true) → (okNs 0 l = false → okNs i (l.drop i) = false) → Ev (fun k => zbz k l l l.length i) (okNs 0 l && !decide ((0 : Int) ∈ (zp8 l).take (l.length - 1))) := by
      intro d
      induction d with
      | zero =>
        intro i hi _ hf
        have ok : okNs 0 l = true := by
          cases h : okNs 0 l
          · have := hf h
            rw [List.drop_of_length_le (by omega)] at this
            cases this
          · rfl
        rw [ok, Bool.true_and]
        refine Ev.step (fun k => by simp only [zbz]; rfl) (za1 (by omega) (Ev.bind (zxv l ok (by omega)) ?_))
        have e1 : wrap64 ((l.length : Int) - 1) = ((l.length - 1 : Nat) : Int) := by rw [w64 (by omega) (by omega)]; omega
        rw [e1]
        refine zah (by omega) (zah (by rw [zmg]; omega) ?_)
        rw [Int.toNat_natCast]
        exact Ev.bind (zrd _ 0 (by rw [List.length_take, zmg]; omega)) (za4 _)
      | succ d ih =>
        intro i hi ht hf
        have hlt : i < l.length := by omega
        have e : l.drop i = l[i] :: l.drop (i + 1) := List.drop_eq_getElem_cons hlt
        have hx := zhs (zen l i hlt)
        rw [e] at ht hf
        simp only [okNs] at ht hf
        refine Ev.step (fun k => by simp only [zbz, hx]; rfl) (zah (by omega) (zah (by omega) (zah (by omega) (Ev.bind (zun l[i] i (by omega)) ?_))))
        cases h : okNx l[i] i
        · refine za1 (by decide) (Ev.some ?_)
          rw [h] at ht
          cases h0 : okNs 0 l
          · rfl
          · exact absurd (ht h0) (by simp)
        · rw [h] at ht hf
          refine zah rfl ?_
          rw [w64n i (by omega)]
          exact ih (i + 1) (by omega) (by simpa using ht) (by simpa using hf)
    simpa using key l.length 0 (by omega) (fun h => h) (fun h => h)
  · rw [decide_eq_false hl, Bool.false_and]
    exact za1 (by simp; omega) (za4 _)
theorem zus (l : List Node) : Ev (fun k => zd6 k l) (zle l) := by
  unfold zd6 zle
  refine Ev.call (zlu _ _ _) ?_
  by_cases hl : 1 ≤ l.length ∧ l.length ≤ 24
  · rw [decide_eq_true hl, Bool.true_and]
    refine zah (by simp; omega) ?_
    have key : ∀ (d i : Nat), i + d = l.length → (okNs 0 l = true → okNs i (l.drop i) = true) → (okNs 0 l = false → okNs i (l.drop i) = false) → Ev (fun k => zb1 k l l l.length i) (okNs 0 l && !decide ((0 : Int) ∈ (zp8 l).take (l.length - 1))) := by
      intro d
      induction d with
      | zero =>
        intro i hi _ hf
        have ok : okNs 0 l = true := by
          cases h : okNs 0 l
          · have := hf h
            rw [List.drop_of_length_le (by omega)] at this
            cases this
          · rfl
        rw [ok, Bool.true_and]
        refine Ev.step (fun k => by simp only [zb1]; rfl) (za1 (by omega) (Ev.bind (zuq l ok (by omega)) ?_))
        have e1 : wrap64 ((l.length : Int) - 1) = ((l.length - 1 : Nat) : Int) := by rw [w64 (by omega) (by omega)]; omega
        rw [e1]
        refine zah (by omega) (zah (by rw [zmg]; omega) ?_)
        rw [Int.toNat_natCast]
        exact Ev.bind (zwa _ 0 (by rw [List.length_take, zmg]; omega)) (za4 _)
      | succ d ih =>
        intro i hi ht hf
        have hlt : i < l.length := by omega
        have e : l.drop i = l[i] :: l.drop (i + 1) := List.drop_eq_getElem_cons hlt
        have hx := zhs (zen l i hlt)
        rw [e] at ht hf
        simp only [okNs] at ht hf
        refine Ev.step (fun k => by simp only [zb1, hx]; rfl) (zah (by omega) (zah (by omega) (zah (by omega) (Ev.bind (zum l[i] i (by omega)) ?_))))
        cases h : okNx l[i] i
        · refine za1 (by decide) (Ev.some ?_)
          rw [h] at ht
          cases h0 : okNs 0 l
          · rfl
          · exact absurd (ht h0) (by simp)
        · rw [h] at ht hf
          refine zah rfl ?_
          rw [w64n i (by omega)]
          exact ih (i + 1) (by omega) (by simpa using ht) (by simpa using hf)
    simpa using key l.length 0 (by omega) (fun h => h) (fun h => h)
  · rw [decide_eq_false hl, Bool.false_and]
    exact za1 (by simp; omega) (za4 _)
theorem zut {l : List Node} (h : zle l = true) : (1 ≤ l.length ∧ l.length ≤ 24) ∧ okNs 0 l = true := by
  unfold zle at h
  simp only [Bool.and_eq_true, decide_eq_true_eq] at h
  exact ⟨h.1, h.2.1⟩
abbrev ShSt := List Node × List Int
theorem zuu (g g' : Int → ShSt → Option ShSt) (h : ∀ x s, LeO (g x s) (g' x s)) : ∀ ks s, LeO (shL g ks s) (shL g' ks s)
  | [], _ => LeO.refl _
  | x :: xs, s => LeO.bind (h x s) (fun s1 => zuu g g' h xs s1)
theorem zs9 (k : Nat) (e : List Node) : ∀ (d : Nat) (i : Int) (s : ShSt), LeO (shW k e d i s) (shW k e (d + 1) i s)
  | 0, _, _ => LeO.none _
  | d + 1, i, s => by
    unfold shW
    exact zbh (zbh (LeO.refl _) (LeO.bind (LeO.refl _) (fun ks => zbh (LeO.bind (zuu _ _ (zs9 k e d) _ _) (fun s1 => LeO.refl _)) (LeO.refl _)))) (LeO.refl _)
theorem zp9 (k : Nat) (e : List Node) : ∀ (d : Nat) (i : Int) (s : ShSt), LeO (exW k e d i s) (exW k e (d + 1) i s)
  | 0, _, _ => LeO.none _
  | d + 1, i, s => by
    unfold exW
    exact zbh (zbh (LeO.refl _) (LeO.bind (LeO.refl _) (fun ps => zbh (LeO.bind (zbh (zp9 k e d _ _) (LeO.refl _)) (fun r1 => LeO.bind (zbh (zp9 k e d _ _) (LeO.refl _)) (fun r2 => LeO.refl _))) (LeO.refl _)))) (LeO.refl _)
theorem zpm (k : Nat) (e : List Node) (d : Nat) (i : Int) (s R : ShSt) (h : shW k e d i s = some R) : ∀ m, shW k e (d + m) i s = some R
  | 0 => h
  | m + 1 => zs9 k e (d + m) i s R (zpm k e d i s R h m)
theorem zpn (k : Nat) (e : List Node) (d : Nat) (i : Int) (s : ShSt) (R : ShSt × Int) (h : exW k e d i s = some R) : ∀ m, exW k e (d + m) i s = some R
  | 0 => h
  | m + 1 => zp9 k e (d + m) i s R (zpn k e d i s R h m)
theorem zzc (e : List Node) (d : Nat) (i : Int) (s R : ShSt) (h : Ev (fun k => shW k e d i s) R) : Ev (fun k => shW k e k i s) R := by
  obtain ⟨K, hK⟩ := h
  exact ⟨max K d, fun k hk => by have := zpm k e d i s R (hK k (by omega)) (k - d); rwa [show d + (k - d) = k by omega] at this⟩
theorem zzd (e : List Node) (d : Nat) (i : Int) (s : ShSt) (R : ShSt × Int) (h : Ev (fun k => exW k e d i s) R) : Ev (fun k => exW k e k i s) R := by
  obtain ⟨K, hK⟩ := h
  exact ⟨max K d, fun k hk => by have := zpn k e d i s R (hK k (by omega)) (k - d); rwa [show d + (k - d) = k by omega] at this⟩
def zg7 (x : Node) (s : ShSt) : Node := match kN x.f0 with
  | 2 => ⟨x.f0, rd s.2 x.f1, x.f2, x.f3⟩
  | 3 => ⟨x.f0, rd s.2 x.f1, rd s.2 x.f2, x.f3⟩
  | _ => x
def putP (n : Node) (i : Int) (s : ShSt) : ShSt := ((zdz n s.1).1, s.2.set i.toNat (zdz n s.1).2)
def shD (l : List Node) : Nat → Int → ShSt → ShSt
  | 0, _, s => s
  | d + 1, i, s => if 0 ≤ rd s.2 i then s else
    putP (zg7 (l.getD i.toNat ⟨⟨#[]⟩, 0, 0, 0⟩) ((zdy (kN (l.getD i.toNat ⟨⟨#[]⟩, 0, 0, 0⟩).f0) (l.getD i.toNat ⟨⟨#[]⟩, 0, 0, 0⟩).f1 (l.getD i.toNat ⟨⟨#[]⟩, 0, 0, 0⟩).f2).foldl (fun s p => shD l d p s) s)) i
      ((zdy (kN (l.getD i.toNat ⟨⟨#[]⟩, 0, 0, 0⟩).f0) (l.getD i.toNat ⟨⟨#[]⟩, 0, 0, 0⟩).f1 (l.getD i.toNat ⟨⟨#[]⟩, 0, 0, 0⟩).f2).foldl (fun s p => shD l d p s) s)
def nmd (ns : List Int) : Nat := ns.countP fun x => decide (0 ≤ x)
theorem zmh (n : Node) (out : List Node) : 0 ≤ (zdz n out).2 := by
  unfold zdz
  split
  · exact Int.natCast_nonneg _
  · rename_i h
    show 0 ≤ exIx n out 0
    omega
theorem zuv (n : Node) (out : List Node) : (zdz n out).1.length ≤ out.length + 1 := by
  unfold zdz
  split
  · simp
  · exact Nat.le_succ _
theorem zxw (ns : List Int) (i : Nat) (x : Int) (hi : i < ns.length) (h : ns.getD i 0 < 0) (hx : 0 ≤ x) : nmd (ns.set i x) = nmd ns + 1 := by
  induction ns generalizing i with
  | nil => simp at hi
  | cons y ys ih =>
    unfold nmd at ih ⊢
    cases i with
    | zero =>
      have hy : ¬ 0 ≤ y := by simpa using h
      simp [List.countP_cons, hx, hy]
    | succ i =>
      have := ih i (by simpa using hi) (by simpa using h)
      simp only [List.set_cons_succ, List.countP_cons]
      omega
theorem zuw (ns : List Int) : nmd ns ≤ ns.length := List.countP_le_length
structure Kp (n i : Nat) (s s' : ShSt) : Prop where
  len : s'.2.length = n
  cnt : s'.1.length ≤ nmd s'.2
  keep : ∀ j : Nat, 0 ≤ rd s.2 (j : Int) → rd s'.2 (j : Int) = rd s.2 (j : Int)
  far : ∀ j : Nat, i ≤ j → rd s'.2 (j : Int) = rd s.2 (j : Int)
theorem Kp.trans {n i : Nat} {s s1 s2 : ShSt} (h : Kp n i s s1) (h' : Kp n i s1 s2) : Kp n i s s2 :=
  ⟨h'.len, h'.cnt, fun j hj => by rw [h'.keep j (by rw [h.keep j hj]; exact hj), h.keep j hj], fun j hj => by rw [h'.far j hj, h.far j hj]⟩
theorem Kp.wide {n i m : Nat} {s s' : ShSt} (h : Kp n i s s') (hm : i ≤ m) : Kp n m s s' := ⟨h.len, h.cnt, h.keep, fun j hj => h.far j (by omega)⟩
theorem zr8 (n i : Nat) (g : ShSt → Int → ShSt) (hg : ∀ (p : Nat) s, p < i → s.2.length = n → s.1.length ≤ nmd s.2 → Kp n i s (g s p) ∧ 0 ≤ rd (g s p).2 (p : Int)) : ∀ (ps : List Int) (s : ShSt), (∀ p ∈ ps, 0 ≤ p ∧ p < (i : Int)) → s.2.length = n → s.1.length ≤ nmd s.2 → Kp n i s (ps.foldl g s) ∧ ∀ p ∈ ps, 0 ≤ rd (ps.foldl g s).2 p
  | [], s, _, h1, h2 => ⟨⟨h1, h2, fun _ _ => rfl, fun _ _ => rfl⟩, fun p hp => absurd hp (by simp)⟩
  | q :: ps, s, hps, h1, h2 => by
    obtain ⟨q0, q1⟩ := hps q (by simp)
    obtain ⟨p, rfl⟩ := Int.eq_ofNat_of_zero_le q0
    obtain ⟨a, b⟩ := hg p s (by omega) h1 h2
    obtain ⟨c, e⟩ := zr8 n i g hg ps (g s p) (fun x hx => hps x (by simp [hx])) a.len a.cnt
    refine ⟨a.trans c, fun x hx => ?_⟩
    rcases List.mem_cons.1 hx with rfl | hx
    · show 0 ≤ rd (ps.foldl g (g s p)).2 (p : Int)
      rw [c.keep p b]
      exact b
    · exact e x hx
theorem zmi (ns : List Int) (i j : Nat) (x : Int) (hi : i < ns.length) : rd (ns.set i x) (j : Int) = if i = j then x else rd ns (j : Int) := by
  unfold rd
  rw [Int.toNat_natCast, List.getD_eq_getElem?_getD, List.getD_eq_getElem?_getD, List.getElem?_set]
  split
  · rename_i h
    subst h
    simp [hi]
  · rfl
theorem zze (n i : Nat) (x : Node) (s : ShSt) (hi : i < n) (h1 : s.2.length = n) (h2 : s.1.length ≤ nmd s.2) (h3 : rd s.2 (i : Int) < 0) : Kp n (i + 1) s (putP x i s) ∧ 0 ≤ rd (putP x i s).2 (i : Int) := by
  have e1 := zmh x s.1
  have e2 := zuv x s.1
  have e3 : nmd (s.2.set i (zdz x s.1).2) = nmd s.2 + 1 := zxw s.2 i _ (by omega) (by unfold rd at h3; rwa [Int.toNat_natCast] at h3) e1
  unfold putP
  rw [Int.toNat_natCast]
  refine ⟨⟨by simp [h1], by simp only; omega, fun j hj => ?_, fun j hj => ?_⟩, ?_⟩
  · simp only
    rw [zmi _ _ _ _ (by omega), if_neg (by rintro rfl; omega)]
  · simp only
    rw [zmi _ _ _ _ (by omega), if_neg (by omega)]
  · simp only
    rw [zmi _ _ _ _ (by omega), if_pos rfl]
    exact e1
theorem zlf (l : List Node) (ok : okNs 0 l = true) : ∀ (d i : Nat) (s : ShSt), i < d → i < l.length → s.2.length = l.length → s.1.length ≤ nmd s.2 → Kp l.length (i + 1) s (shD l d i s) ∧ 0 ≤ rd (shD l d i s).2 (i : Int)
  | 0, _, _, h, _, _, _ => absurd h (by omega)
  | d + 1, i, s, hd, hi, h1, h2 => by
    unfold shD
    by_cases q : 0 ≤ rd s.2 (i : Int)
    · rw [if_pos q]
      exact ⟨⟨h1, h2, fun _ _ => rfl, fun _ _ => rfl⟩, q⟩
    · rw [if_neg q, Int.toNat_natCast]
      have hx : l.getD i ⟨⟨#[]⟩, 0, 0, 0⟩ = l[i] := by rw [List.getD_eq_getElem?_getD, List.getElem?_eq_getElem hi]; rfl
      rw [hx]
      have hok := zeb l 0 i hi ok
      rw [Nat.zero_add] at hok
      have hp := (zfg hok).2
      obtain ⟨a, _⟩ := zr8 l.length i (fun s p => shD l d p s) (fun p s hp h1 h2 => by
        obtain ⟨b, c⟩ := zlf l ok d p s (by omega) (by omega) h1 h2
        exact ⟨b.wide (by omega), c⟩) (zdy (kN l[i].f0) l[i].f1 l[i].f2) s (fun p hq => by have := hp p hq; omega) h1 h2
      obtain ⟨b, c⟩ := zze l.length i (zg7 l[i] ((zdy (kN l[i].f0) l[i].f1 l[i].f2).foldl (fun s p => shD l d p s) s)) _ hi a.len a.cnt (by rw [a.far i (Nat.le_refl _)]; omega)
      exact ⟨(a.wide (by omega)).trans b, c⟩
theorem zjf {l : List Node} {i : Nat} (hi : i < l.length) : l.getD (i : Int).toNat ⟨⟨#[]⟩, 0, 0, 0⟩ = l[i] := by rw [Int.toNat_natCast, List.getD_eq_getElem?_getD, List.getElem?_eq_getElem hi]; rfl
theorem zqa {x : Node} {i : Int} (h : okNx x i = true) (c : kN x.f0 = 0 ∨ kN x.f0 = 1) : x.f1 = 0 ∧ x.f2 = 0 := by
  unfold okNx at h
  rcases c with c | c <;> rw [c] at h <;> simp [okNd] at h <;> exact ⟨h.1, h.2.1⟩
theorem zrg {x : Node} {i : Int} (h : okNx x i = true) (c : kN x.f0 = 2) : x.f2 = 0 ∧ 0 ≤ x.f1 ∧ x.f1 ≤ i - 1 := by
  unfold okNx at h
  rw [c] at h
  simp [okNd] at h
  omega
theorem zpo {x : Node} {i : Int} (h : okNx x i = true) (c : kN x.f0 = 3) : (0 ≤ x.f1 ∧ x.f1 ≤ i - 1) ∧ 0 ≤ x.f2 ∧ x.f2 ≤ i - 1 := by
  unfold okNx at h
  rw [c] at h
  simp [okNd] at h
  omega
theorem zi6 {x : Node} {i : Int} (h : okNx x i = true) (c : kN x.f0 = 4) : False := by
  unfold okNx at h
  rw [c] at h
  simp [okNd] at h
theorem zxx {x : Node} {i : Int} (h : okNx x i = true) (c : kN x.f0 = 0 ∨ kN x.f0 = 1) : x = ⟨x.f0, 0, 0, x.f3⟩ := by
  obtain ⟨e1, e2⟩ := zqa h c
  obtain ⟨a, b, c, d⟩ := x
  simp only at e1 e2
  rw [e1, e2]
theorem zfw {x : Node} (s : ShSt) (c : kN x.f0 = 0 ∨ kN x.f0 = 1) : zg7 x s = x := by
  unfold zg7
  rcases c with c | c <;> rw [c] <;> rfl
theorem zmj {x : Node} (s : ShSt) (c : kN x.f0 = 2) : zg7 x s = ⟨x.f0, rd s.2 x.f1, x.f2, x.f3⟩ := by
  unfold zg7
  rw [c]
  rfl
theorem zmk {x : Node} (s : ShSt) (c : kN x.f0 = 3) : zg7 x s = ⟨x.f0, rd s.2 x.f1, rd s.2 x.f2, x.f3⟩ := by
  unfold zg7
  rw [c]
  rfl
theorem zhh {c : Nat} (h : c = 0 ∨ c = 1) (a b : Int) : zdy c a b = [] := by rcases h with rfl | rfl <;> rfl
theorem zqb (l : List Node) (hl : l.length ≤ 1000) (ok : okNs 0 l = true) : ∀ (d i : Nat) (s : ShSt), i < d → i < l.length → s.2.length = l.length → s.1.length ≤ nmd s.2 → Ev (fun k => exW k l d i s) (shD l d i s, rd (shD l d i s).2 (i : Int))
  | 0, _, _, h, _, _, _ => absurd h (by omega)
  | d + 1, i, s, hd, hi, h1, h2 => by
    have hr : zab l (i : Int) = l[i] := zhs (zen l i hi)
    have hok := zeb l 0 i hi ok
    rw [Nat.zero_add] at hok
    have fin : ∀ (n : Node) (S : ShSt), S.2.length = l.length → S.1.length ≤ nmd S.2 → Ev (fun _ : Nat => if S.1.length < 1048576 then some (((zdz n S.1).1, S.2.set (i : Int).toNat (zdz n S.1).2), (zdz n S.1).2) else none) (putP n i S, rd (putP n i S).2 (i : Int)) := fun n S a b => by
      have := zuw S.2
      refine zah (by omega) (Ev.some ?_)
      unfold putP
      simp only
      rw [Int.toNat_natCast, zmi _ _ _ _ (by omega), if_pos rfl]
    simp only [exW, shD]
    rw [hr, zjf hi]
    refine zah ⟨by omega, by omega⟩ ?_
    by_cases q : 0 ≤ rd s.2 (i : Int)
    · rw [if_pos q]
      exact zah q (Ev.some rfl)
    rw [if_neg q]
    refine za1 q (Ev.bind (zgw l[i]) (zah (by have := (zfg hok).1; omega) ?_))
    generalize l[i] = x at hok ⊢
    rcases zkf x.f0 with c | c | c | c | c
    · rw [zhh (.inl c), List.foldl_nil, zfw s (.inl c)]
      refine Ev.bind (za1 (by simp) (za4 _)) (Ev.bind (za1 (by simp) (za4 _)) (zme (fin ⟨x.f0, 0, 0, x.f3⟩ s h1 h2) (congrArg (fun n => (putP n i s, rd (putP n i s).2 (i : Int))) (zxx hok (.inl c)).symm)))
    · rw [zhh (.inr c), List.foldl_nil, zfw s (.inr c)]
      refine Ev.bind (za1 (by simp) (za4 _)) (Ev.bind (za1 (by simp) (za4 _)) (zme (fin ⟨x.f0, 0, 0, x.f3⟩ s h1 h2) (congrArg (fun n => (putP n i s, rd (putP n i s).2 (i : Int))) (zxx hok (.inr c)).symm)))
    · obtain ⟨e0, e1, e2⟩ := zrg hok c
      rw [show zdy (kN x.f0) x.f1 x.f2 = [x.f1] by rw [c]; rfl, List.foldl_cons, List.foldl_nil, zmj _ c, e0]
      obtain ⟨p, hp⟩ := Int.eq_ofNat_of_zero_le e1
      rw [hp] at e2 ⊢
      obtain ⟨m1, m2⟩ := zlf l ok d p s (by omega) (by omega) h1 h2
      refine Ev.bind (zah (by simp) (zqb l hl ok d p s (by omega) (by omega) h1 h2)) (Ev.bind (za1 (by simp) (za4 _)) ?_)
      exact fin ⟨x.f0, rd (shD l d p s).2 (p : Int), 0, x.f3⟩ (shD l d p s) m1.len m1.cnt
    · obtain ⟨⟨e1, e2⟩, e4, e5⟩ := zpo hok c
      rw [show zdy (kN x.f0) x.f1 x.f2 = [x.f1, x.f2] by rw [c]; rfl, List.foldl_cons, List.foldl_cons, List.foldl_nil, zmk _ c]
      obtain ⟨p, hp⟩ := Int.eq_ofNat_of_zero_le e1
      obtain ⟨p', hp'⟩ := Int.eq_ofNat_of_zero_le e4
      rw [hp] at e2 ⊢
      rw [hp'] at e5 ⊢
      obtain ⟨m1, m2⟩ := zlf l ok d p s (by omega) (by omega) h1 h2
      obtain ⟨n1, n2⟩ := zlf l ok d p' (shD l d p s) (by omega) (by omega) m1.len m1.cnt
      refine Ev.bind (zah (by simp) (zqb l hl ok d p s (by omega) (by omega) h1 h2)) (Ev.bind (zah (by simp) (zqb l hl ok d p' _ (by omega) (by omega) m1.len m1.cnt)) ?_)
      rw [n1.keep p m2]
      exact fin ⟨x.f0, rd (shD l d p s).2 (p : Int), rd (shD l d p' (shD l d p s)).2 (p' : Int), x.f3⟩ (shD l d p' (shD l d p s)) n1.len n1.cnt
    · exact (zi6 hok c).elim
def shP (l : List Node) : List Node := (shD l l.length ((l.length - 1 : Nat) : Int) ([], List.replicate l.length (-1))).1
theorem znk (l : List Node) (h0 : 0 < l.length) (hl : l.length ≤ 1000) (ok : okNs 0 l = true) : Ev (fun k => zc2 k l) (shP l) := by
  unfold zc2
  refine zah (by omega) ?_
  have := zzd l l.length ((l.length - 1 : Nat) : Int) ([], List.replicate l.length (-1)) _ (zqb l hl ok l.length (l.length - 1) _ (by omega) (by omega) (by simp) (by simp))
  rw [show ((l.length - 1 : Nat) : Int) = (l.length : Int) - 1 by omega] at this
  refine Ev.bind this (Ev.some ?_)
  unfold shP
  rw [show ((l.length - 1 : Nat) : Int) = (l.length : Int) - 1 by omega]
theorem zta (x y : Node) : exEq x y = true ↔ x = y := by
  obtain ⟨a, b, c, d⟩ := x
  obtain ⟨a', b', c', d'⟩ := y
  unfold exEq
  simp only [Bool.and_eq_true, beq_iff_eq, zly, S72.mk.injEq]
theorem zrh (x y : Node) : exEq x y = exEq y x := by
  rw [Bool.eq_iff_iff, zta, zta]
  exact eq_comm
theorem ztb (n : Node) : ∀ (xs : List Node) (i : Int), 0 ≤ i → exIx n xs i = if idx (exEq n) xs < 0 then -1 else i + idx (exEq n) xs
  | [], i, _ => by simp [exIx, idx]
  | x :: xs, i, h => by
    unfold exIx idx
    by_cases q : exEq n x = true
    · rw [if_pos (by rw [zrh]; exact q), if_pos q, if_neg (by decide)]
      omega
    · rw [if_neg (by rw [zrh]; exact q), if_neg q, ztb n xs (i + 1) (by omega)]
      by_cases r : idx (exEq n) xs < 0
      · rw [if_pos r, if_pos r, if_pos (by decide)]
      · rw [if_neg r, if_neg r, if_neg (by omega)]
        omega
theorem ztc (n : Node) (xs : List Node) : exIx n xs 0 = idx (exEq n) xs := by
  rw [ztb n xs 0 (by omega)]
  have := zuh (exEq n) xs
  split <;> omega
theorem zts (l : List Node) (n : Node) (hl : l.length ≤ 1048576) : Ev (fun k => zey k l n.f0 n.f1 n.f2 n.f3) (idx (exEq n) l) := by
  unfold zey
  refine zkt l _ (fun k i => zb6 k l l.length i n.f0 n.f1 n.f2 n.f3) ?_ (fun i x hi hx hp => ?_) (fun i x r hi hx hp hr => ?_)
  · refine Ev.step (f := fun _ => some (-1)) (fun k => ?_) (za4 _)
    simp only [zb6]
    rw [if_neg (by omega)]
  · refine Ev.step (f := fun _ => some (i : Int)) (fun k => ?_) (za4 _)
    unfold exEq at hp
    simp only [zb6, zhs hx]
    rw [if_pos (by omega), if_pos (by omega), if_pos (by omega), if_pos hp]
  · refine Ev.step (fun k => ?_) hr
    unfold exEq at hp
    simp only [zb6, zhs hx]
    rw [if_pos (by omega), if_pos (by omega), if_pos (by omega), if_neg (by rw [hp]; decide), w64n i (by omega)]
theorem zw6 (x : Node) (i : Int) (h : okNx x i = true) (s : ShSt) (hi : i ≤ s.2.length) : Ev (fun k => zbv k x.f0 x.f1 x.f2 x.f3 s.2) ((zg7 x s).f0, (zg7 x s).f1, (zg7 x s).f2, (zg7 x s).f3) := by
  unfold zbv
  refine Ev.bind (zik x.f0) ?_
  rcases zkf x.f0 with c | c | c | c | c
  · rw [zfw s (.inl c), c]
    exact za1 (by decide) (za1 (by decide) (za4 _))
  · rw [zfw s (.inr c), c]
    exact za1 (by decide) (za1 (by decide) (za4 _))
  · obtain ⟨e0, e1, e2⟩ := zrg h c
    rw [zmj s c, c]
    exact zah (by decide) (zah e1 (zah (by omega) (za1 (by decide) (za4 _))))
  · obtain ⟨⟨e1, e2⟩, e4, e5⟩ := zpo h c
    rw [zmk s c, c]
    exact zah (by decide) (zah e1 (zah (by omega) (zah (by decide) (zah e4 (zah (by omega) (za4 _))))))
  · exact (zi6 h c).elim
theorem zwc (n : Node) (i : Int) (s : ShSt) (hs : s.1.length ≤ 1000) : Ev (fun k => zqv k i n s) (putP n i s) := by
  unfold zqv putP zdz
  refine zah (by omega) (Ev.bind (zts s.1 n (by omega)) (Ev.some ?_))
  rw [ztc]
  split <;> rfl
theorem zqc (l : List Node) (hl : l.length ≤ 1000) (ok : okNs 0 l = true) : ∀ (d i : Nat) (s : ShSt), i < d → i < l.length → s.2.length = l.length → s.1.length ≤ nmd s.2 → Ev (fun k => shW k l d i s) (shD l d i s)
  | 0, _, _, h, _, _, _ => absurd h (by omega)
  | d + 1, i, s, hd, hi, h1, h2 => by
    have hr : zab l (i : Int) = l[i] := zhs (zen l i hi)
    have hok := zeb l 0 i hi ok
    rw [Nat.zero_add] at hok
    simp only [shW, shD]
    rw [hr, zjf hi]
    refine zah ⟨by omega, by omega⟩ ?_
    by_cases q : 0 ≤ rd s.2 (i : Int)
    · rw [if_pos q]
      exact zah q (Ev.some rfl)
    rw [if_neg q]
    refine za1 q (Ev.bind (zr7 l[i]) (zah (by have := (zfg hok).1; omega) ?_))
    generalize l[i] = x at hok ⊢
    have fin : ∀ S : ShSt, S.2.length = l.length → S.1.length ≤ nmd S.2 → Ev (fun k => (zbv k x.f0 x.f1 x.f2 x.f3 S.2).bind fun n => zqv k i ⟨n.1, n.2.1, n.2.2.1, n.2.2.2⟩ S) (putP (zg7 x S) i S) := fun S a b => by
      have := zuw S.2
      exact Ev.bind (zw6 x i hok S (by omega)) (zwc (zg7 x S) i S (by omega))
    rcases zkf x.f0 with c | c | c | c | c
    · rw [zhh (.inl c), List.foldl_nil]
      exact Ev.bind (za4 s) (fin s h1 h2)
    · rw [zhh (.inr c), List.foldl_nil]
      exact Ev.bind (za4 s) (fin s h1 h2)
    · obtain ⟨e0, e1, e2⟩ := zrg hok c
      rw [show zdy (kN x.f0) x.f1 x.f2 = [x.f1] by rw [c]; rfl, List.foldl_cons, List.foldl_nil]
      obtain ⟨p, hp⟩ := Int.eq_ofNat_of_zero_le e1
      rw [hp] at e2 ⊢
      obtain ⟨m1, m2⟩ := zlf l ok d p s (by omega) (by omega) h1 h2
      refine Ev.bind (Ev.bind (zqc l hl ok d p s (by omega) (by omega) h1 h2) (za4 _)) ?_
      rw [← hp]
      exact fin _ (by rw [hp]; exact m1.len) (by rw [hp]; exact m1.cnt)
    · obtain ⟨⟨e1, e2⟩, e4, e5⟩ := zpo hok c
      rw [show zdy (kN x.f0) x.f1 x.f2 = [x.f1, x.f2] by rw [c]; rfl, List.foldl_cons, List.foldl_cons, List.foldl_nil]
      obtain ⟨p, hp⟩ := Int.eq_ofNat_of_zero_le e1
      obtain ⟨p', hp'⟩ := Int.eq_ofNat_of_zero_le e4
      rw [hp] at e2 ⊢
      rw [hp'] at e5 ⊢
      obtain ⟨m1, m2⟩ := zlf l ok d p s (by omega) (by omega) h1 h2
      obtain ⟨n1, n2⟩ := zlf l ok d p' (shD l d p s) (by omega) (by omega) m1.len m1.cnt
      refine Ev.bind (Ev.bind (zqc l hl ok d p s (by omega) (by omega) h1 h2) (Ev.bind (zqc l hl ok d p' _ (by omega) (by omega) m1.len m1.cnt) (za4 _))) ?_
      rw [← hp, ← hp']
      exact fin _ (by rw [hp, hp']; exact n1.len) (by rw [hp, hp']; exact n1.cnt)
    · exact (zi6 hok c).elim
theorem zjy (l : List Node) (h0 : 0 < l.length) (hl : l.length ≤ 1000) (ok : okNs 0 l = true) : Ev (fun k => zes k l) (shP l) := by
  unfold zes
  refine zah (by omega) (Ev.call (a := List.replicate l.length (-1)) ?_ ?_)
  · unfold zep
    rw [if_pos ⟨rfl, by omega, by omega⟩, Int.toNat_natCast]
    rfl
  have := zzc l l.length ((l.length - 1 : Nat) : Int) ([], List.replicate l.length (-1)) _ (zqc l hl ok l.length (l.length - 1) _ (by omega) (by omega) (by simp) (by simp))
  rw [show ((l.length - 1 : Nat) : Int) = (l.length : Int) - 1 by omega] at this
  refine zah (by simp) (Ev.bind this (Ev.some ?_))
  unfold shP
  rw [show ((l.length - 1 : Nat) : Int) = (l.length : Int) - 1 by omega]
theorem zml (x : Node) : ∀ (xs : List Node) (i : Nat), okNs i (xs ++ [x]) = (okNs i xs && okNx x ((i + xs.length : Nat) : Int))
  | [], i => by simp [okNs]
  | y :: ys, i => by
    simp only [List.cons_append, okNs, zml x ys (i + 1), List.length_cons, Bool.and_assoc]
    rw [show i + 1 + ys.length = i + (ys.length + 1) by omega]
theorem ztd {x : Node} {i m : Int} (h : okNx x i = true) {s : ShSt} (hp : ∀ p ∈ zdy (kN x.f0) x.f1 x.f2, 0 ≤ rd s.2 p ∧ rd s.2 p < m) : okNx (zg7 x s) m = true := by
  rcases zkf x.f0 with c | c | c | c | c
  · rw [zfw s (.inl c)]
    unfold okNx at h ⊢
    rw [c] at h ⊢
    exact h
  · rw [zfw s (.inr c)]
    unfold okNx at h ⊢
    rw [c] at h ⊢
    exact h
  · rw [zmj s c]
    rw [c] at hp
    have := hp x.f1 (by simp [zdy])
    unfold okNx at h ⊢
    simp only
    rw [c] at h ⊢
    simp [okNd] at h ⊢
    omega
  · rw [zmk s c]
    rw [c] at hp
    have := hp x.f1 (by simp [zdy])
    have := hp x.f2 (by simp [zdy])
    unfold okNx at h ⊢
    simp only
    rw [c] at h ⊢
    simp [okNd] at h ⊢
    omega
  · exact (zi6 h c).elim
inductive Tr where
  | lf (op : ByteArray) (v : Int) : Tr
  | un (op : ByteArray) (v : Int) (t : Tr) : Tr
  | bi (op : ByteArray) (v : Int) (t u : Tr) : Tr
def trN (x : Node) (g : Int → Tr) : Tr := match kN x.f0 with
  | 2 => .un x.f0 x.f3 (g x.f1)
  | 3 => .bi x.f0 x.f3 (g x.f1) (g x.f2)
  | _ => .lf x.f0 x.f3
def trOf (l : List Node) : Nat → Int → Tr
  | 0, _ => .lf ⟨#[]⟩ 0
  | d + 1, i => trN (l.getD i.toNat ⟨⟨#[]⟩, 0, 0, 0⟩) (trOf l d)
theorem zi7 {x : Node} (g : Int → Tr) (c : kN x.f0 = 0 ∨ kN x.f0 = 1) : trN x g = .lf x.f0 x.f3 := by
  unfold trN
  rcases c with c | c <;> rw [c] <;> rfl
theorem zte {x : Node} (g : Int → Tr) (c : kN x.f0 = 2) : trN x g = .un x.f0 x.f3 (g x.f1) := by
  unfold trN
  rw [c]
  rfl
theorem zou {x : Node} (g : Int → Tr) (c : kN x.f0 = 3) : trN x g = .bi x.f0 x.f3 (g x.f1) (g x.f2) := by
  unfold trN
  rw [c]
  rfl
theorem zmm {x : Node} {i : Int} (h : okNx x i = true) {g g' : Int → Tr} (hg : ∀ p, 0 ≤ p → p ≤ i - 1 → g p = g' p) : trN x g = trN x g' := by
  obtain ⟨_, hp⟩ := zfg h
  unfold trN
  rcases zkf x.f0 with c | c | c | c | c <;> rw [c] at hp ⊢ <;> simp only [zdy] at hp ⊢
  · rw [hg _ (hp _ (by simp)).1 (hp _ (by simp)).2]
  · rw [hg _ (hp _ (by simp)).1 (hp _ (by simp)).2, hg x.f2 (hp _ (by simp)).1 (hp _ (by simp)).2]
theorem zil {l : List Node} (ok : okNs 0 l = true) : ∀ (d d' i : Nat), i < d → i < d' → i < l.length → trOf l d i = trOf l d' i
  | 0, _, _, h, _, _ => absurd h (by omega)
  | _ + 1, 0, _, _, h, _ => absurd h (by omega)
  | d + 1, d' + 1, i, h, h', hi => by
    unfold trOf
    rw [zjf hi]
    have hok := zeb l 0 i hi ok
    rw [Nat.zero_add] at hok
    refine zmm hok (fun p p0 p1 => ?_)
    obtain ⟨p, rfl⟩ := Int.eq_ofNat_of_zero_le p0
    exact zil ok d d' p (by omega) (by omega) (by omega)
def wT : Tr → List Node → List Node × Int
  | .lf op v, out => zdz ⟨op, 0, 0, v⟩ out
  | .un op v t, out => zdz ⟨op, (wT t out).2, 0, v⟩ (wT t out).1
  | .bi op v t u, out => zdz ⟨op, (wT t out).2, (wT u (wT t out).1).2, v⟩ (wT u (wT t out).1).1
theorem zux (x : Node) : exEq x x = true := by unfold exEq; simp
theorem zqd {x n : Node} (q : exEq x n = true) (xs : List Node) (i : Int) : exIx n (x :: xs) i = i := by rw [exIx, if_pos q]
theorem ztf {x n : Node} (q : ¬ exEq x n = true) (xs : List Node) (i : Int) : exIx n (x :: xs) i = exIx n xs (i + 1) := by rw [exIx, if_neg q]
theorem zqe (n : Node) (ys : List Node) : ∀ (xs : List Node) (i : Int), 0 ≤ i → exIx n (xs ++ ys) i = if exIx n xs i < 0 then exIx n ys (i + xs.length) else exIx n xs i
  | [], i, h => by simp [exIx]
  | x :: xs, i, h => by
    rw [List.cons_append]
    by_cases q : exEq x n = true
    · rw [zqd q, zqd q, if_neg (by omega)]
    · rw [ztf q, ztf q, zqe n ys xs (i + 1) (by omega)]
      simp only [List.length_cons]
      rw [show i + 1 + (xs.length : Int) = i + ((xs.length + 1 : Nat) : Int) by omega]
theorem zkv (n : Node) (out : List Node) : ∃ ys, (zdz n out).1 = out ++ ys := by
  unfold zdz
  split
  · exact ⟨[n], rfl⟩
  · exact ⟨[], by simp⟩
theorem znl (n : Node) (out ys : List Node) : zdz n ((zdz n out).1 ++ ys) = ((zdz n out).1 ++ ys, (zdz n out).2) := by
  by_cases q : exIx n out 0 < 0
  · have e : zdz n out = (out ++ [n], (out.length : Int)) := by unfold zdz; rw [if_pos q]
    rw [e]
    have e2 : exIx n (out ++ [n] ++ ys) 0 = out.length := by
      rw [List.append_assoc, zqe n _ out 0 (by omega), if_pos q]
      rw [List.cons_append, zqd (zux n)]
      omega
    unfold zdz
    rw [e2, if_neg (by omega)]
  · have e : zdz n out = (out, exIx n out 0) := by unfold zdz; rw [if_neg q]
    rw [e]
    have e2 : exIx n (out ++ ys) 0 = exIx n out 0 := by rw [zqe n _ out 0 (by omega), if_neg q]
    unfold zdz
    rw [e2, if_neg q]
theorem zri : ∀ (t : Tr) (out : List Node), ∃ ys, (wT t out).1 = out ++ ys
  | .lf op v, out => zkv _ _
  | .un op v t, out => by
    obtain ⟨ys, h⟩ := zri t out
    obtain ⟨zs, h'⟩ := zkv ⟨op, (wT t out).2, 0, v⟩ (wT t out).1
    exact ⟨ys ++ zs, by unfold wT; rw [h', h, List.append_assoc]⟩
  | .bi op v t u, out => by
    obtain ⟨ys, h⟩ := zri t out
    obtain ⟨ys', h2⟩ := zri u (wT t out).1
    obtain ⟨zs, h'⟩ := zkv ⟨op, (wT t out).2, (wT u (wT t out).1).2, v⟩ (wT u (wT t out).1).1
    exact ⟨ys ++ (ys' ++ zs), by unfold wT; rw [h', h2, h]; simp only [List.append_assoc]⟩
theorem zxy : ∀ (t : Tr) (out : List Node), 0 ≤ (wT t out).2
  | .lf op v, out => zmh _ _
  | .un op v t, out => zmh _ _
  | .bi op v t u, out => zmh _ _
theorem zov : ∀ (t : Tr) (out ys : List Node), wT t ((wT t out).1 ++ ys) = ((wT t out).1 ++ ys, (wT t out).2)
  | .lf op v, out, ys => znl _ _ _
  | .un op v t, out, ys => by
    obtain ⟨zs, h'⟩ := zkv ⟨op, (wT t out).2, 0, v⟩ (wT t out).1
    have e : (wT (.un op v t) out).1 ++ ys = (wT t out).1 ++ (zs ++ ys) := by
      show (zdz ⟨op, (wT t out).2, 0, v⟩ (wT t out).1).1 ++ ys = _
      rw [h', List.append_assoc]
    have e2 := zov t out (zs ++ ys)
    rw [e]
    show zdz ⟨op, (wT t ((wT t out).1 ++ (zs ++ ys))).2, 0, v⟩ (wT t ((wT t out).1 ++ (zs ++ ys))).1 = _
    rw [e2, ← e]
    exact znl _ _ _
  | .bi op v t u, out, ys => by
    obtain ⟨ws, h⟩ := zri u (wT t out).1
    obtain ⟨zs, h'⟩ := zkv ⟨op, (wT t out).2, (wT u (wT t out).1).2, v⟩ (wT u (wT t out).1).1
    have e1 : (wT (.bi op v t u) out).1 ++ ys = (wT u (wT t out).1).1 ++ (zs ++ ys) := by
      show (zdz ⟨op, (wT t out).2, (wT u (wT t out).1).2, v⟩ (wT u (wT t out).1).1).1 ++ ys = _
      rw [h', List.append_assoc]
    have e : (wT (.bi op v t u) out).1 ++ ys = (wT t out).1 ++ (ws ++ (zs ++ ys)) := by rw [e1, h, List.append_assoc]
    have e2 := zov t out (ws ++ (zs ++ ys))
    rw [← e] at e2
    have e3 := zov u (wT t out).1 (zs ++ ys)
    rw [← e1] at e3
    show zdz ⟨op, (wT t ((wT (.bi op v t u) out).1 ++ ys)).2, (wT u (wT t ((wT (.bi op v t u) out).1 ++ ys)).1).2, v⟩ (wT u (wT t ((wT (.bi op v t u) out).1 ++ ys)).1).1 = _
    rw [e2]
    simp only
    rw [e3]
    exact znl _ _ _
theorem zxz {t : Tr} {out : List Node} {r : Int} (h : wT t out = (out, r)) (ys : List Node) : wT t (out ++ ys) = (out ++ ys, r) := by
  have := zov t out ys
  rwa [h] at this
structure Mem (l : List Node) (s : ShSt) : Prop where
  len : s.2.length = l.length
  mem : ∀ j : Nat, j < l.length → 0 ≤ rd s.2 (j : Int) → wT (trOf l (j + 1) j) s.1 = (s.1, rd s.2 (j : Int))
theorem zqf {l : List Node} {i : Nat} {n : Node} {s : ShSt} (hi : i < l.length) (h : Mem l s) (hn : zdz n s.1 = wT (trOf l (i + 1) i) s.1) : Mem l (putP n i s) ∧ (putP n i s).1 = (wT (trOf l (i + 1) i) s.1).1 ∧ rd (putP n i s).2 (i : Int) = (wT (trOf l (i + 1) i) s.1).2 := by
  have hl : i < s.2.length := by rw [h.len]; exact hi
  have e1 : (putP n i s).1 = (wT (trOf l (i + 1) i) s.1).1 := by unfold putP; rw [hn]
  have e2 : ∀ j : Nat, rd (putP n i s).2 (j : Int) = if i = j then (wT (trOf l (i + 1) i) s.1).2 else rd s.2 (j : Int) := fun j => by
    unfold putP
    simp only
    rw [Int.toNat_natCast, zmi _ _ _ _ hl, hn]
  refine ⟨⟨by unfold putP; simp [h.len], fun j hj h0 => ?_⟩, e1, by rw [e2, if_pos rfl]⟩
  rw [e1, e2]
  rw [e2] at h0
  by_cases q : i = j
  · subst q
    rw [if_pos rfl]
    have := zov (trOf l (i + 1) i) s.1 []
    rwa [List.append_nil] at this
  · rw [if_neg q] at h0 ⊢
    obtain ⟨ys, hy⟩ := zri (trOf l (i + 1) i) s.1
    rw [hy]
    exact zxz (h.mem j hj h0) ys
theorem ztg {l : List Node} (ok : okNs 0 l = true) : ∀ (d i : Nat) (s : ShSt), i < d → i < l.length → Mem l s → Mem l (shD l d i s) ∧ (shD l d i s).1 = (wT (trOf l (i + 1) i) s.1).1 ∧ rd (shD l d i s).2 (i : Int) = (wT (trOf l (i + 1) i) s.1).2 ∧ ∀ j : Nat, 0 ≤ rd s.2 (j : Int) ∨ i < j → rd (shD l d i s).2 (j : Int) = rd s.2 (j : Int)
  | 0, _, _, h, _, _ => absurd h (by omega)
  | d + 1, i, s, hd, hi, hm => by
    have hok := zeb l 0 i hi ok
    rw [Nat.zero_add] at hok
    have hq : ∀ (s1 : ShSt) (n : Node), s1.2.length = l.length → ∀ j : Nat, i ≠ j → rd (putP n i s1).2 (j : Int) = rd s1.2 (j : Int) := fun s1 n h1 j h3 => by
      unfold putP
      simp only
      rw [Int.toNat_natCast, zmi _ _ _ _ (by omega), if_neg h3]
    unfold shD
    by_cases q : 0 ≤ rd s.2 (i : Int)
    · rw [if_pos q]
      have := hm.mem i hi q
      exact ⟨hm, by rw [this], by rw [this], fun _ _ => rfl⟩
    have hne : ∀ j : Nat, 0 ≤ rd s.2 (j : Int) ∨ i < j → i ≠ j := fun j h e => by subst e; omega
    rw [if_neg q, zjf hi]
    have ht : trOf l (i + 1) i = trN l[i] (trOf l i) := by
      show trN (l.getD (i : Int).toNat ⟨⟨#[]⟩, 0, 0, 0⟩) (trOf l i) = _
      rw [zjf hi]
    have hx : l[i] = ⟨l[i].f0, l[i].f1, l[i].f2, l[i].f3⟩ := rfl
    generalize l[i] = x at hok ht hx ⊢
    have leaf : kN x.f0 = 0 ∨ kN x.f0 = 1 → trOf l (i + 1) i = .lf x.f0 x.f3 ∧ x = ⟨x.f0, 0, 0, x.f3⟩ := fun c => ⟨by rw [ht, zi7 _ c], zxx hok c⟩
    rcases zkf x.f0 with c | c | c | c | c
    · obtain ⟨t, e⟩ := leaf (.inl c)
      simp only [c, zdy, List.foldl_nil, zg7]
      obtain ⟨h1, h2, h3⟩ := zqf (n := x) hi hm (by rw [t]; exact congrArg (fun y => zdz y s.1) e)
      exact ⟨h1, h2, h3, fun j h0 => hq s x hm.len j (hne j h0)⟩
    · obtain ⟨t, e⟩ := leaf (.inr c)
      simp only [c, zdy, List.foldl_nil, zg7]
      obtain ⟨h1, h2, h3⟩ := zqf (n := x) hi hm (by rw [t]; exact congrArg (fun y => zdz y s.1) e)
      exact ⟨h1, h2, h3, fun j h0 => hq s x hm.len j (hne j h0)⟩
    · obtain ⟨e0, e1, e2⟩ := zrg hok c
      simp only [c, zdy, List.foldl_nil, List.foldl_cons, zg7]
      have e3 : trOf l (i + 1) i = .un x.f0 x.f3 (trOf l i x.f1) := by rw [ht, zte _ c]
      rw [e0]
      obtain ⟨p, hp⟩ := Int.eq_ofNat_of_zero_le e1
      rw [hp] at e2 e3 ⊢
      rw [zil ok i (p + 1) p (by omega) (by omega) (by omega)] at e3
      obtain ⟨m1, m2, m3, m4⟩ := ztg ok d p s (by omega) (by omega) hm
      have m5 : 0 ≤ rd (shD l d p s).2 (p : Int) := by rw [m3]; exact zxy _ _
      have m6 := m1.mem p (by omega) m5
      have w1 : wT (trOf l (i + 1) i) (shD l d p s).1 = zdz ⟨x.f0, rd (shD l d p s).2 (p : Int), 0, x.f3⟩ (shD l d p s).1 := by
        rw [e3]
        simp only [wT]
        rw [m6]
      have w0 : wT (trOf l (i + 1) i) s.1 = zdz ⟨x.f0, rd (shD l d p s).2 (p : Int), 0, x.f3⟩ (shD l d p s).1 := by
        rw [e3]
        simp only [wT]
        rw [m2, m3]
      obtain ⟨h1, h2, h3⟩ := zqf hi m1 w1.symm
      rw [w1] at h2 h3
      rw [w0]
      exact ⟨h1, h2, h3, fun j h0 => by rw [hq _ _ m1.len j (hne j h0), m4 j (h0.imp id (fun _ => by omega))]⟩
    · obtain ⟨⟨e1, e2⟩, e4, e5⟩ := zpo hok c
      simp only [c, zdy, List.foldl_nil, List.foldl_cons, zg7]
      have e3 : trOf l (i + 1) i = .bi x.f0 x.f3 (trOf l i x.f1) (trOf l i x.f2) := by rw [ht, zou _ c]
      obtain ⟨p, hp⟩ := Int.eq_ofNat_of_zero_le e1
      obtain ⟨p', hp'⟩ := Int.eq_ofNat_of_zero_le e4
      rw [hp] at e2 e3 ⊢
      rw [hp'] at e5 e3 ⊢
      rw [zil ok i (p + 1) p (by omega) (by omega) (by omega), zil ok i (p' + 1) p' (by omega) (by omega) (by omega)] at e3
      obtain ⟨m1, m2, m3, m4⟩ := ztg ok d p s (by omega) (by omega) hm
      generalize shD l d p s = s1 at *
      have m5 : 0 ≤ rd s1.2 (p : Int) := by rw [m3]; exact zxy _ _
      obtain ⟨n1, n2, n3, n4⟩ := ztg ok d p' s1 (by omega) (by omega) m1
      generalize shD l d p' s1 = s2 at *
      have n5 : 0 ≤ rd s2.2 (p' : Int) := by rw [n3]; exact zxy _ _
      have n6 := n4 p (.inl m5)
      have n7 := n1.mem p (by omega) (by omega)
      have n8 := n1.mem p' (by omega) n5
      have w1 : wT (trOf l (i + 1) i) s2.1 = zdz ⟨x.f0, rd s2.2 (p : Int), rd s2.2 (p' : Int), x.f3⟩ s2.1 := by
        rw [e3]
        simp only [wT]
        rw [n7]
        simp only
        rw [n8]
      have w0 : wT (trOf l (i + 1) i) s.1 = zdz ⟨x.f0, rd s2.2 (p : Int), rd s2.2 (p' : Int), x.f3⟩ s2.1 := by
        rw [e3]
        simp only [wT]
        rw [← m2, ← m3, ← n2, ← n3, n6]
      obtain ⟨h1, h2, h3⟩ := zqf hi n1 w1.symm
      rw [w1] at h2 h3
      rw [w0]
      exact ⟨h1, h2, h3, fun j h0 => by rw [hq _ _ n1.len j (hne j h0), n4 j (by rcases h0 with h0 | h0; · exact .inl (by rw [m4 j (.inl h0)]; exact h0)
                                                                                 · exact .inr (by omega)), m4 j (h0.imp id (fun _ => by omega))]⟩
    · exact (zi6 hok c).elim
theorem zw7 {l : List Node} (ok : okNs 0 l = true) (h : 0 < l.length) : shP l = (wT (trOf l l.length ((l.length - 1 : Nat) : Int)) []).1 := by
  have hm : Mem l ([], List.replicate l.length (-1)) := ⟨by simp, fun j hj h0 => by
    exfalso
    unfold rd at h0
    rw [Int.toNat_natCast, zen _ j (by simpa using hj)] at h0
    simp at h0⟩
  have := (ztg ok l.length (l.length - 1) _ (by omega) (by omega) hm).2.1
  unfold shP
  rw [this, show l.length - 1 + 1 = l.length by omega]
def TRN (ns : List Node) (i : Int) : Tr := trOf ns ns.length i
theorem zrj : ∀ (xs ys : List Node) (i : Nat), okNs i (xs ++ ys) = true → okNs i xs = true
  | [], _, _, _ => rfl
  | x :: xs, ys, i, h => by
    simp only [List.cons_append, okNs, Bool.and_eq_true] at h ⊢
    exact ⟨h.1, zrj xs ys (i + 1) h.2⟩
theorem zqg {ns ys : List Node} (ok : okNs 0 (ns ++ ys) = true) : ∀ (d i : Nat), i < d → i < ns.length → trOf (ns ++ ys) d i = trOf ns d i
  | 0, _, h, _ => absurd h (by omega)
  | d + 1, i, h, hi => by
    unfold trOf
    rw [zjf hi, zjf (show i < (ns ++ ys).length by simp; omega), List.getElem_append_left hi]
    have hok := zeb ns 0 i hi (zrj ns ys 0 ok)
    rw [Nat.zero_add] at hok
    refine zmm hok (fun p p0 p1 => ?_)
    obtain ⟨p, rfl⟩ := Int.eq_ofNat_of_zero_le p0
    exact zqg ok d p (by omega) (by omega)
theorem zuy {ns : List Node} {n : Node} (ok : okNs 0 (ns ++ [n]) = true) (i : Nat) (hi : i < ns.length) : TRN (ns ++ [n]) (i : Int) = TRN ns (i : Int) := by
  unfold TRN
  rw [zil ok _ ns.length i (by simp; omega) hi (by simp; omega), zqg ok _ i hi hi]
theorem zuz {ns : List Node} {n : Node} (ok : okNs 0 (ns ++ [n]) = true) : TRN (ns ++ [n]) (ns.length : Int) = trN n (TRN ns) := by
  have hn : okNx n (ns.length : Int) = true := by
    have := zml n ns 0
    rw [ok, Nat.zero_add] at this
    exact (Bool.and_eq_true _ _ ▸ this.symm : (okNs 0 ns && okNx n (ns.length : Int)) = true) |> fun h => (Bool.and_eq_true _ _ ▸ h : okNs 0 ns = true ∧ okNx n (ns.length : Int) = true).2
  unfold TRN
  rw [show (ns ++ [n]).length = ns.length + 1 by simp]
  show trN ((ns ++ [n]).getD (ns.length : Int).toNat ⟨⟨#[]⟩, 0, 0, 0⟩) (trOf (ns ++ [n]) ns.length) = trN n (trOf ns ns.length)
  rw [zjf (show ns.length < (ns ++ [n]).length by simp), List.getElem_concat_length rfl]
  refine zmm hn (fun p p0 p1 => ?_)
  obtain ⟨p, rfl⟩ := Int.eq_ofNat_of_zero_le p0
  exact zqg ok ns.length p (by omega) (by omega)
theorem zwd (x : Node) (s : ShSt) (g : Int → Tr) : trN (zg7 x s) g = trN x (fun p => g (rd s.2 p)) := by
  rcases zkf x.f0 with c | c | c | c | c
  · rw [zfw s (.inl c), zi7 _ (.inl c), zi7 _ (.inl c)]
  · rw [zfw s (.inr c), zi7 _ (.inr c), zi7 _ (.inr c)]
  · rw [zmj s c, zte (x := x) _ c, zte _ (by exact c)]
  · rw [zmk s c, zou (x := x) _ c, zou _ (by exact c)]
  · have e : zg7 x s = x := by unfold zg7; rw [c]; rfl
    rw [e]
    unfold trN
    rw [c]
    rfl
def prt (x : Node) : List Int := zdy (kN x.f0) x.f1 x.f2
theorem rdB (u : List Bool) (j : Nat) : rdOf false u (j : Int) = u.getD j false := by unfold rdOf; rw [Int.toNat_natCast]
def mk1 (k : Int) (u : List Bool) (p : Int) : List Bool := if rdOf false u p = true then u.set p.toNat true else u.set p.toNat (rdOf false u k)
theorem zr9 (k : Int) (u : List Bool) (p : Int) : (mk1 k u p).length = u.length := by unfold mk1; split <;> simp
theorem zx0 (k : Int) (u : List Bool) (p j : Nat) (hp : p < u.length) : (mk1 k u p).getD j false = if p = j then (u.getD p false || rdOf false u k) else u.getD j false := by
  unfold mk1
  rw [rdB, Int.toNat_natCast]
  by_cases h : u.getD p false = true
  · rw [if_pos h, List.getD_eq_getElem?_getD, List.getElem?_set]
    split
    · rw [h]; rfl
    · rw [← List.getD_eq_getElem?_getD]
  · rw [if_neg h, List.getD_eq_getElem?_getD, List.getElem?_set]
    split
    · rw [show u.getD p false = false by simpa using h]; rfl
    · rw [← List.getD_eq_getElem?_getD]
theorem mkF (k m : Nat) : ∀ (ps : List Int) (u : List Bool), (∀ p ∈ ps, 0 ≤ p ∧ p ≤ (k : Int) - 1) → u.length = m → k < m →
    (ps.foldl (mk1 k) u).length = m ∧ (∀ j : Nat, k ≤ j → (ps.foldl (mk1 k) u).getD j false = u.getD j false) ∧ (∀ j : Nat, u.getD j false = true → (ps.foldl (mk1 k) u).getD j false = true) ∧ (u.getD k false = true → ∀ p ∈ ps, (ps.foldl (mk1 k) u).getD p.toNat false = true)
  | [], u, _, h, _ => ⟨h, fun _ _ => rfl, fun _ h => h, fun _ p hp => absurd hp (by simp)⟩
  | q :: ps, u, hps, h, hk => by
    obtain ⟨q0, q1⟩ := hps q (by simp)
    obtain ⟨p, rfl⟩ := Int.eq_ofNat_of_zero_le q0
    have g := fun j => zx0 (k : Int) u p j (by omega)
    obtain ⟨a, b, c, d⟩ := mkF k m ps (mk1 k u p) (fun x hx => hps x (by simp [hx])) (by rw [zr9, h]) hk
    refine ⟨a, fun j hj => ?_, fun j hj => ?_, fun hu x hx => ?_⟩
    · show (ps.foldl (mk1 k) (mk1 k u p)).getD j false = _
      rw [b j hj, g, if_neg (by omega)]
    · refine c j ?_
      rw [g]
      split
      · rename_i e
        subst e
        rw [hj]
        rfl
      · exact hj
    · show (ps.foldl (mk1 k) (mk1 k u p)).getD x.toNat false = true
      rcases List.mem_cons.1 hx with rfl | hx
      · refine c _ ?_
        rw [Int.toNat_natCast, g, if_pos rfl, rdB, hu]
        simp
      · refine d ?_ x hx
        rw [g, if_neg (by omega)]
        exact hu
structure Nd (ns : List Node) (i0 m : Nat) (k : Int) (u : List Bool) : Prop where
  len : u.length = m
  top : u.getD i0 false = true
  hi : ∀ j : Nat, i0 < j → u.getD j false = false
  cl : ∀ (j : Nat) (hj : j < ns.length), k < (j : Int) → u.getD j false = true → ∀ p ∈ prt ns[j], u.getD p.toNat false = true
theorem Nd.step {ns : List Node} {i0 m k : Nat} {u : List Bool} (h : Nd ns i0 m (k : Int) u) (ok : okNs 0 ns = true) (hk : k < ns.length) (hi : k ≤ i0) (hm : i0 < m) : Nd ns i0 m ((k : Int) - 1) ((prt ns[k]).foldl (mk1 k) u) := by
  have hok := zeb ns 0 k hk ok
  rw [Nat.zero_add] at hok
  obtain ⟨a, b, c, d⟩ := mkF k m (prt ns[k]) u (zfg hok).2 h.len (by omega)
  refine ⟨a, c i0 h.top, fun j hj => by rw [b j (by omega), h.hi j hj], fun j hj hkj hu p hp => ?_⟩
  have hu' : u.getD j false = true := by rw [← b j (by omega)]; exact hu
  by_cases e : j = k
  · subst e
    exact d hu' p hp
  · exact c _ (h.cl j hj (by omega) hu' p hp)
structure Kq (ns : List Node) (i0 m : Nat) (u : List Bool) (j : Nat) (out : List Node) (names : List Int) : Prop where
  ok : okNs 0 out = true
  le : out.length ≤ j
  nl : names.length = m
  mp : ∀ q : Nat, q < j → u.getD q false = true → 0 ≤ rd names (q : Int) ∧ rd names (q : Int) < out.length ∧ TRN out (rd names (q : Int)) = TRN ns (q : Int)
  last : i0 < j → rd names (i0 : Int) = (out.length : Int) - 1
theorem Kq.skip {ns : List Node} {i0 m : Nat} {u : List Bool} {j : Nat} {out : List Node} {names : List Int} (h : Kq ns i0 m u j out names) (hu : u.getD j false = false) (ht : u.getD i0 false = true) : Kq ns i0 m u (j + 1) out names := by
  have ne : ∀ q : Nat, u.getD q false = true → q ≠ j := fun q hq e => by rw [e, hu] at hq; cases hq
  refine ⟨h.ok, by have := h.le; omega, h.nl, fun q hq hq' => h.mp q (by have := ne q hq'; omega) hq', fun hi => h.last (by have := ne i0 ht; omega)⟩
theorem zzf {ns : List Node} (ok : okNs 0 ns = true) (j : Nat) (hj : j < ns.length) : TRN ns (j : Int) = trN ns[j] (TRN ns) := by
  have hok := zeb ns 0 j hj ok
  rw [Nat.zero_add] at hok
  unfold TRN
  rw [zil ok ns.length (j + 1) j hj (by omega) hj]
  show trN (ns.getD (j : Int).toNat ⟨⟨#[]⟩, 0, 0, 0⟩) (trOf ns j) = _
  rw [zjf hj]
  refine zmm hok (fun p p0 p1 => ?_)
  obtain ⟨p, rfl⟩ := Int.eq_ofNat_of_zero_le p0
  exact zil ok j ns.length p (by omega) (by omega) (by omega)
theorem Kq.put {ns : List Node} {i0 m : Nat} {u : List Bool} {j : Nat} {out : List Node} {names : List Int} (h : Kq ns i0 m u j out names) (ok : okNs 0 ns = true) (hN : Nd ns i0 m (-1) u) (hj : j < ns.length) (hjm : j < m) (hu : u.getD j false = true) :
    Kq ns i0 m u (j + 1) (out ++ [zg7 ns[j] (out, names.set j (out.length : Int))]) (names.set j (out.length : Int)) := by
  have hok := zeb ns 0 j hj ok
  rw [Nat.zero_add] at hok
  have hnl : j < names.length := by rw [h.nl]; exact hjm
  have hr : ∀ q : Nat, rd (names.set j (out.length : Int)) (q : Int) = if j = q then (out.length : Int) else rd names (q : Int) := fun q => zmi _ _ _ _ hnl
  have hi0 : j ≤ i0 := by
    rcases Nat.lt_or_ge i0 j with a | a
    · rw [hN.hi j a] at hu
      cases hu
    · exact a
  have hp : ∀ p ∈ prt ns[j], 0 ≤ rd (names.set j (out.length : Int)) p ∧ rd (names.set j (out.length : Int)) p < out.length ∧ TRN out (rd (names.set j (out.length : Int)) p) = TRN ns p := fun p hp => by
    obtain ⟨a, b⟩ := (zfg hok).2 p hp
    obtain ⟨p', rfl⟩ := Int.eq_ofNat_of_zero_le a
    have := hN.cl j hj (by omega) hu _ hp
    rw [Int.toNat_natCast] at this
    rw [hr, if_neg (by omega)]
    exact h.mp p' (by omega) this
  have hn : okNx (zg7 ns[j] (out, names.set j (out.length : Int))) (out.length : Int) = true := ztd hok (fun p hq => ⟨(hp p hq).1, (hp p hq).2.1⟩)
  have ok' : okNs 0 (out ++ [zg7 ns[j] (out, names.set j (out.length : Int))]) = true := by rw [zml, h.ok, Nat.zero_add, hn]; rfl
  refine ⟨ok', by have := h.le; simp only [List.length_append, List.length_cons, List.length_nil]; omega, by simp [h.nl], fun q hq hq' => ?_, fun hi => ?_⟩
  · rw [hr]
    by_cases e : j = q
    · subst e
      rw [if_pos rfl]
      refine ⟨by omega, by simp; omega, ?_⟩
      rw [zuz ok', zwd, zzf ok j hj]
      unfold trN
      have hh := hp
      unfold prt at hh
      rcases zkf ns[j].f0 with c | c | c | c | c <;> rw [c] at hh ⊢ <;> simp only [zdy] at hh ⊢
      · rw [(hh _ (by simp)).2.2]
      · rw [(hh _ (by simp)).2.2, (hh ns[j].f2 (by simp)).2.2]
    · rw [if_neg e]
      obtain ⟨a, b, c⟩ := h.mp q (by omega) hq'
      obtain ⟨z, hz⟩ := Int.eq_ofNat_of_zero_le a
      rw [hz] at b c ⊢
      exact ⟨by omega, by simp; omega, by rw [zuy ok' z (by omega), c]⟩
  · have : i0 = j := by omega
    subst this
    rw [hr, if_pos rfl]
    simp
def zqh (ns : List Node) (i : Nat) (e : List Node) : Prop := okNs 0 e = true ∧ 0 < e.length ∧ e.length ≤ ns.length ∧ TRN e ((e.length : Int) - 1) = TRN ns (i : Int)
theorem Kq.kept {ns : List Node} {i0 m : Nat} {u : List Bool} {j : Nat} {out : List Node} {names : List Int} (h : Kq ns i0 m u j out names) (hN : Nd ns i0 m (-1) u) (hj : i0 < j) (hl : j ≤ ns.length) : zqh ns i0 out := by
  obtain ⟨a, b, c⟩ := h.mp i0 hj hN.top
  have d := h.last hj
  have := h.le
  exact ⟨h.ok, by omega, by omega, by rw [← d]; exact c⟩
theorem zsa (ns : List Node) (ok : okNs 0 ns = true) (hl : ns.length ≤ 1000) (i0 : Nat) (hi : i0 < ns.length) (u : List Bool) (hN : Nd ns i0 ns.length (-1) u) : ∀ (d j : Nat) (out : List Node) (names : List Int), j + d = ns.length → Kq ns i0 ns.length u j out names → ∃ e, Ev (fun k => zbu k u out names ns ns.length j) e ∧ zqh ns i0 e
  | 0, j, out, names, h, hK => ⟨out, Ev.step (fun k => by simp only [zbu]; rfl) (za1 (by omega) (za4 _)), hK.kept hN (by omega) (by omega)⟩
  | d + 1, j, out, names, h, hK => by
    have hj : j < ns.length := by omega
    have hx : zab ns (j : Int) = ns[j] := zhs (zen ns j hj)
    have hok := zeb ns 0 j hj ok
    rw [Nat.zero_add] at hok
    have hul := hN.len
    have hnl := hK.nl
    have hle := hK.le
    by_cases q : u.getD j false = true
    · obtain ⟨e, a, b⟩ := zsa ns ok hl i0 hi u hN d (j + 1) _ _ (by omega) (hK.put ok hN hj hj q)
      rw [← w64n j (by omega)] at a
      have hrn := zw6 ns[j] (j : Int) hok (out, names.set j (out.length : Int)) (by simp; omega)
      refine ⟨e, Ev.step (fun k => by simp only [zbu, rdB, hx, Int.toNat_natCast, Option.bind_some]; rfl) (zah (by omega) (zah (by omega) (zah (by omega) (zah (by omega) (zah q (zah (by omega) (Ev.bind hrn ?_))))))), b⟩
      exact zah (by omega) a
    · obtain ⟨e, a, b⟩ := zsa ns ok hl i0 hi u hN d (j + 1) _ _ (by omega) (hK.skip (by simpa using q) hN.top)
      rw [← w64n j (by omega)] at a
      exact ⟨e, Ev.step (fun k => by simp only [zbu, rdB, hx, Int.toNat_natCast]; rfl) (zah (by omega) (zah (by omega) (zah (by omega) (zah (by omega) (za1 q a))))), b⟩
theorem zu0 (ns : List Node) (i j : Nat) (ps : List Int) (hps : ∀ p ∈ ps, 0 ≤ p ∧ p ≤ (j : Int) - 1) (hpl : ps.length ≤ 2) (m : Nat) (hjm : j < m) (e : List Node) : ∀ (d t : Nat) (u : List Bool), t + d = ps.length → u.length = m →
    Ev (fun k => zc9 k ns ((ps.drop t).foldl (mk1 j) u) (wrap64 ((j : Int) - 1))) e → Ev (fun k => zca k ns u j ps ps.length t) e
  | 0, t, u, h, hu, H => by
    rw [List.drop_of_length_le (by omega)] at H
    exact Ev.step (fun k => by simp only [zca]; rfl) (za1 (by omega) H)
  | d + 1, t, u, h, hu, H => by
    have ht : t < ps.length := by omega
    rw [List.drop_eq_getElem_cons ht, List.foldl_cons] at H
    obtain ⟨p0, p1⟩ := hps _ (List.getElem_mem ht)
    have hr : rd ps (t : Int) = ps[t] := ztq (zen ps t ht)
    have ih := zu0 ns i j ps hps hpl m hjm e d (t + 1) (mk1 j u ps[t]) (by omega) (by rw [zr9, hu]) H
    rw [← w64n t (by omega)] at ih
    refine Ev.step (fun k => by simp only [zca, hr]; rfl) (zah (by omega) (zah (by omega) (zah (by omega) (zah p0 (zah (by omega) ?_)))))
    unfold mk1 at ih
    by_cases q : rdOf false u ps[t] = true
    · rw [if_pos q] at ih
      exact zah q ih
    · rw [if_neg q] at ih
      exact za1 q (zah (by omega) (zah (by omega) ih))
theorem zu1 (ns : List Node) (ok : okNs 0 ns = true) (hl : ns.length ≤ 1000) (i0 : Nat) (hi : i0 < ns.length) : ∀ (j : Nat) (u : List Bool), j ≤ i0 + 1 → Nd ns i0 ns.length ((j : Int) - 1) u → ∃ e, Ev (fun k => zc9 k ns u ((j : Int) - 1)) e ∧ zqh ns i0 e
  | 0, u, _, hN => by
    obtain ⟨e, a, b⟩ := zsa ns ok hl i0 hi u hN ns.length 0 [] (List.replicate ns.length 0) (by omega) ⟨rfl, Nat.le_refl _, by simp, fun q hq => absurd hq (by omega), fun hq => absurd hq (by omega)⟩
    refine ⟨e, Ev.step (fun k => by simp only [zc9]; rfl) (za1 (by omega) (zah (by omega) (zah (by omega) ?_))), b⟩
    simpa using a
  | j + 1, u, hj, hN => by
    have e1 : (((j + 1 : Nat) : Int) - 1) = (j : Int) := by omega
    rw [e1] at hN ⊢
    have hjl : j < ns.length := by omega
    have hx : zab ns (j : Int) = ns[j] := zhs (zen ns j hjl)
    have hok := zeb ns 0 j hjl ok
    rw [Nat.zero_add] at hok
    obtain ⟨e, a, b⟩ := zu1 ns ok hl i0 hi j _ (by omega) (hN.step ok hjl (by omega) hi)
    rw [← w64 (x := (j : Int) - 1) (by omega) (by omega)] at a
    exact ⟨e, Ev.step (fun k => by simp only [zc9, hx]; rfl) (zah (by omega) (zah (by omega) (zah (by omega) (Ev.bind (zr7 ns[j]) (zu0 ns i0 j (prt ns[j]) (zfg hok).2 (zfg hok).1 ns.length hjl e (prt ns[j]).length 0 u (by omega) hN.len (by rw [List.drop_zero]; exact a)))))), b⟩
theorem zw8 (ns : List Node) (i0 m : Nat) (h : i0 < m) : Nd ns i0 m (i0 : Int) ((List.replicate m false).set i0 true) := by
  have g : ∀ j : Nat, ((List.replicate m false).set i0 true).getD j false = if i0 = j then true else false := fun j => by
    rw [List.getD_eq_getElem?_getD, List.getElem?_set]
    split
    · simp [h]
    · rw [List.getElem?_replicate]
      split <;> rfl
  refine ⟨by simp, by rw [g, if_pos rfl], fun j hj => by rw [g, if_neg (by omega)], fun j hj hk hu => ?_⟩
  rw [g, if_neg (by omega)] at hu
  cases hu
theorem zu2 (ns : List Node) (ok : okNs 0 ns = true) (hl : ns.length ≤ 1000) (i0 : Nat) (hi : i0 < ns.length) : ∃ e, Ev (fun k => zf7 k ns i0) e ∧ zqh ns i0 e := by
  have hN := zw8 ns i0 ns.length hi
  rw [show (i0 : Int) = ((i0 + 1 : Nat) : Int) - 1 by omega] at hN
  obtain ⟨e, a, b⟩ := zu1 ns ok hl i0 hi (i0 + 1) _ (Nat.le_refl _) hN
  rw [show ((i0 + 1 : Nat) : Int) - 1 = (i0 : Int) by omega] at a
  refine ⟨e, ?_, b⟩
  unfold zf7
  refine zah (by omega) (zah (by omega) ?_)
  rw [Int.toNat_natCast]
  exact Ev.call rfl (zah (by omega) (zah (by simp; omega) (by rw [Int.toNat_natCast]; exact a)))
theorem zwe (x : Node) (i : Int) (h : okNx x i = true) (s : ShSt) (hi : i ≤ s.2.length) : Ev (fun k => zdm k x.f0 x.f1 x.f2 x.f3 s.2) ((zg7 x s).f0, (zg7 x s).f1, (zg7 x s).f2, (zg7 x s).f3) := by
  unfold zdm
  refine Ev.bind (zgw x) ?_
  rcases zkf x.f0 with c | c | c | c | c
  · obtain ⟨e1, e2⟩ := zqa h (.inl c)
    rw [zfw s (.inl c), zhh (.inl c)]
    refine zah ⟨by simp, by simp⟩ (Ev.some ?_)
    rw [e1, e2]
    rfl
  · obtain ⟨e1, e2⟩ := zqa h (.inr c)
    rw [zfw s (.inr c), zhh (.inr c)]
    refine zah ⟨by simp, by simp⟩ (Ev.some ?_)
    rw [e1, e2]
    rfl
  · obtain ⟨e0, e1, e2⟩ := zrg h c
    rw [zmj s c, show zdy (kN x.f0) x.f1 x.f2 = [x.f1] by rw [c]; rfl]
    refine zah ⟨fun _ => ⟨e1, by omega⟩, by simp⟩ (Ev.some ?_)
    rw [e0]
    rfl
  · obtain ⟨⟨e1, e2⟩, e4, e5⟩ := zpo h c
    rw [zmk s c, show zdy (kN x.f0) x.f1 x.f2 = [x.f1, x.f2] by rw [c]; rfl]
    exact zah ⟨fun _ => ⟨e1, by omega⟩, fun _ => ⟨e4, by omega⟩⟩ (za4 _)
  · exact (zi6 h c).elim
theorem zsb (ns : List Node) (ok : okNs 0 ns = true) (hl : ns.length ≤ 1000) (i0 : Nat) (hi : i0 < ns.length) (u : List Bool) (hN : Nd ns i0 (i0 + 1) (-1) u) : ∀ (d j : Nat) (out : List Node) (names : List Int), j + d = i0 + 1 → Kq ns i0 (i0 + 1) u j out names → ∃ e, Ev (fun k => zbb k ns i0 u names out j) e ∧ zqh ns i0 e
  | 0, j, out, names, h, hK => ⟨out, Ev.step (fun k => by simp only [zbb]; rfl) (za1 (by omega) (za4 _)), hK.kept hN (by omega) (by omega)⟩
  | d + 1, j, out, names, h, hK => by
    have hj : j < ns.length := by omega
    have hx : zab ns (j : Int) = ns[j] := zhs (zen ns j hj)
    have hok := zeb ns 0 j hj ok
    rw [Nat.zero_add] at hok
    have hul := hN.len
    have hnl := hK.nl
    have hle := hK.le
    by_cases q : u.getD j false = true
    · obtain ⟨e, a, b⟩ := zsb ns ok hl i0 hi u hN d (j + 1) _ _ (by omega) (hK.put ok hN hj (by omega) q)
      rw [← w64n j (by omega)] at a
      have hrn := zwe ns[j] (j : Int) hok (out, names.set j (out.length : Int)) (by simp; omega)
      refine ⟨e, Ev.step (fun k => by simp only [zbb, rdB, hx, Int.toNat_natCast, Option.bind_some]; rfl) (zah (by omega) (zah (by omega) (zah (by omega) (zah q (zah (by omega) (zah (by omega) (Ev.bind hrn ?_))))))), b⟩
      exact zah (by omega) a
    · obtain ⟨e, a, b⟩ := zsb ns ok hl i0 hi u hN d (j + 1) _ _ (by omega) (hK.skip (by simpa using q) hN.top)
      rw [← w64n j (by omega)] at a
      exact ⟨e, Ev.step (fun k => by simp only [zbb, rdB, hx, Int.toNat_natCast]; rfl) (zah (by omega) (zah (by omega) (zah (by omega) (za1 q a)))), b⟩
theorem zu3 (ns : List Node) (i0 j : Nat) (ps : List Int) (hps : ∀ p ∈ ps, 0 ≤ p ∧ p ≤ (j : Int) - 1) (hpl : ps.length ≤ 2) (m : Nat) (hjm : j < m) (e : List Node) : ∀ (d t : Nat) (u : List Bool), t + d = ps.length → u.length = m →
    Ev (fun k => zb0 k ns i0 ((ps.drop t).foldl (mk1 j) u) (wrap64 ((j : Int) - 1))) e → Ev (fun k => zbp k ns i0 u j ps ps.length t) e
  | 0, t, u, h, hu, H => by
    rw [List.drop_of_length_le (by omega)] at H
    exact Ev.step (fun k => by simp only [zbp]; rfl) (za1 (by omega) H)
  | d + 1, t, u, h, hu, H => by
    have ht : t < ps.length := by omega
    rw [List.drop_eq_getElem_cons ht, List.foldl_cons] at H
    obtain ⟨p0, p1⟩ := hps _ (List.getElem_mem ht)
    have hr : rd ps (t : Int) = ps[t] := ztq (zen ps t ht)
    have ih := zu3 ns i0 j ps hps hpl m hjm e d (t + 1) (mk1 j u ps[t]) (by omega) (by rw [zr9, hu]) H
    rw [← w64n t (by omega)] at ih
    refine Ev.step (fun k => by simp only [zbp, hr]; rfl) (zah (by omega) (zah (by omega) (zah (by omega) (zah p0 (zah (by omega) ?_)))))
    unfold mk1 at ih
    by_cases q : rdOf false u ps[t] = true
    · rw [if_pos q] at ih
      exact zah q ih
    · rw [if_neg q] at ih
      exact za1 q (zah (by omega) (zah (by omega) ih))
theorem zu4 (ns : List Node) (ok : okNs 0 ns = true) (hl : ns.length ≤ 1000) (i0 : Nat) (hi : i0 < ns.length) : ∀ (j : Nat) (u : List Bool), j ≤ i0 + 1 → Nd ns i0 (i0 + 1) ((j : Int) - 1) u → ∃ e, Ev (fun k => zb0 k ns i0 u ((j : Int) - 1)) e ∧ zqh ns i0 e
  | 0, u, _, hN => by
    obtain ⟨e, a, b⟩ := zsb ns ok hl i0 hi u hN (i0 + 1) 0 [] (List.replicate (i0 + 1) 0) (by omega) ⟨rfl, Nat.le_refl _, by simp, fun q hq => absurd hq (by omega), fun hq => absurd hq (by omega)⟩
    have ew : wrap64 ((i0 : Int) + 1) = ((i0 + 1 : Nat) : Int) := w64n i0 (by omega)
    refine ⟨e, Ev.step (fun k => by simp only [zb0, ew]; rfl) (za1 (by omega) (zah (by omega) (zah (by omega) ?_))), b⟩
    simpa using a
  | j + 1, u, hj, hN => by
    have e1 : (((j + 1 : Nat) : Int) - 1) = (j : Int) := by omega
    rw [e1] at hN ⊢
    have hjl : j < ns.length := by omega
    have hx : zab ns (j : Int) = ns[j] := zhs (zen ns j hjl)
    have hok := zeb ns 0 j hjl ok
    rw [Nat.zero_add] at hok
    obtain ⟨e, a, b⟩ := zu4 ns ok hl i0 hi j _ (by omega) (hN.step ok hjl (by omega) (by omega))
    rw [← w64 (x := (j : Int) - 1) (by omega) (by omega)] at a
    exact ⟨e, Ev.step (fun k => by simp only [zb0, hx]; rfl) (zah (by omega) (zah (by omega) (zah (by omega) (Ev.bind (zgw ns[j]) (zu3 ns i0 j (prt ns[j]) (zfg hok).2 (zfg hok).1 (i0 + 1) (by omega) e (prt ns[j]).length 0 u (by omega) hN.len (by rw [List.drop_zero]; exact a)))))), b⟩
theorem zu5 (ns : List Node) (ok : okNs 0 ns = true) (hl : ns.length ≤ 1000) (i0 : Nat) (hi : i0 < ns.length) : ∃ e, Ev (fun k => zeg k ns i0) e ∧ zqh ns i0 e := by
  have hN := zw8 ns i0 (i0 + 1) (by omega)
  rw [show (i0 : Int) = ((i0 + 1 : Nat) : Int) - 1 by omega] at hN
  obtain ⟨e, a, b⟩ := zu4 ns ok hl i0 hi (i0 + 1) _ (Nat.le_refl _) hN
  rw [show ((i0 + 1 : Nat) : Int) - 1 = (i0 : Int) by omega] at a
  refine ⟨e, ?_, b⟩
  unfold zeg
  rw [w64n i0 (by omega), Int.toNat_natCast]
  refine zah (by omega) (zah (by omega) ?_)
  exact Ev.call rfl (zah (by omega) (zah (by simp; omega) (by rw [Int.toNat_natCast]; exact a)))
theorem zpp {ns ms : List Node} {i j : Nat} {e e' : List Node} (h : zqh ns i e) (h' : zqh ms j e') (ht : TRN ns (i : Int) = TRN ms (j : Int)) : shP e = shP e' := by
  obtain ⟨a, b, c, d⟩ := h
  obtain ⟨a', b', c', d'⟩ := h'
  rw [zw7 a b, zw7 a' b']
  unfold TRN at d d' ht
  rw [show ((e.length - 1 : Nat) : Int) = (e.length : Int) - 1 by omega, show ((e'.length - 1 : Nat) : Int) = (e'.length : Int) - 1 by omega, d, d', ht]
end Go.Proofs.Ytkfkbmlbpeojaaa.PL
end
section
namespace Go.Proofs.Ytkfkbmlbpeojaaa.PL
open Go Go.RowKit Go.Proofs.YtkfkbmlbpeojaaaW.PrintWords Go.Proofs.YtkfkbmlbpeojaaaW.PrintLast Go.Proofs.YtkfkbmlbpeojaaaW.PrintMore Go.Proofs.Ytkfkbmlbpeojaaa.Q
set_option linter.unusedSimpArgs false
set_option linter.unusedVariables false
def nC : ByteArray := ⟨#[99, 111, 110, 115, 116]⟩
def nAdd : ByteArray := ⟨#[97, 100, 100]⟩
def nShl : ByteArray := ⟨#[115, 104, 108]⟩
def opK (s : ByteArray) : Nat := match cls s with
  | 0 => 0
  | 1 => if s.toList = ([109, 111, 118] : List UInt8) then 1 else 2
  | 2 => 3
  | 3 => 3
  | 4 => 3
  | 5 => 4
  | 6 => 4
  | 7 => 5
  | _ => 6
def zzg (s : ByteArray) : Bool :=
  decide (opK s ≤ 5) && decide (s.toList = ([115, 101, 116] : List UInt8) ↔ opK s = 0) && decide (s.toList = ([109, 111, 118] : List UInt8) ↔ opK s = 1) && decide (s.toList = ([108, 101, 97] : List UInt8) ↔ opK s = 5) &&
  decide (opK s = 2 → kN s = 2) && decide (opK s = 3 → kN s = 3) && decide (opK s = 4 → kN (s.extract 0 3) = 3 ∧ s.size = 4) &&
  decide ((zf0 (cls s) s).2.2.1 ≤ (zf0 (cls s) s).2.2.2.1 ↔ opK s = 0 ∨ opK s = 4 ∨ opK s = 5) && decide (opK s = 2 → (zf0 (cls s) s).2.1 = false ∧ (zf0 (cls s) s).2.2.2.2.2.1 = s) && decide (opK s = 3 → (zf0 (cls s) s).2.1 = true ∧ (zf0 (cls s) s).2.2.2.2.2.1 = s) && decide (opK s = 4 → (zf0 (cls s) s).2.2.2.2.2.1 = s.extract 0 3) &&
  decide (opK s = 4 ↔ s.toList = ([97, 100, 100, 105] : List UInt8) ∨ s.toList = ([97, 110, 100, 105] : List UInt8) ∨ s.toList = ([120, 111, 114, 105] : List UInt8) ∨ s.toList = ([115, 104, 108, 105] : List UInt8) ∨ s.toList = ([115, 104, 114, 105] : List UInt8)) &&
  decide (opK s = 2 ↔ s.toList = ([110, 111, 116] : List UInt8) ∨ s.toList = ([110, 101, 103] : List UInt8))
theorem zx1 : (ops.all fun p => zzg p.1) = true := by decide +kernel
theorem zzh {x : Instr} (h : okI x) : ∃ p ∈ ops, x.f0 = p.1 := Classical.byContradiction fun e => h.1 (zoa fun p hp he => e ⟨p, hp, he⟩)
structure OpT (s : ByteArray) : Prop where
  le : opK s ≤ 5
  set : s.toList = ([115, 101, 116] : List UInt8) ↔ opK s = 0
  mov : s.toList = ([109, 111, 118] : List UInt8) ↔ opK s = 1
  lea : s.toList = ([108, 101, 97] : List UInt8) ↔ opK s = 5
  k2 : opK s = 2 → kN s = 2
  k3 : opK s = 3 → kN s = 3
  k4 : opK s = 4 → kN (s.extract 0 3) = 3 ∧ s.size = 4
  imm : (zf0 (cls s) s).2.2.1 ≤ (zf0 (cls s) s).2.2.2.1 ↔ opK s = 0 ∨ opK s = 4 ∨ opK s = 5
  f2 : opK s = 2 → (zf0 (cls s) s).2.1 = false ∧ (zf0 (cls s) s).2.2.2.2.2.1 = s
  f3 : opK s = 3 → (zf0 (cls s) s).2.1 = true ∧ (zf0 (cls s) s).2.2.2.2.2.1 = s
  f4 : opK s = 4 → (zf0 (cls s) s).2.2.2.2.2.1 = s.extract 0 3
  s4 : opK s = 4 ↔ s.toList = ([97, 100, 100, 105] : List UInt8) ∨ s.toList = ([97, 110, 100, 105] : List UInt8) ∨ s.toList = ([120, 111, 114, 105] : List UInt8) ∨ s.toList = ([115, 104, 108, 105] : List UInt8) ∨ s.toList = ([115, 104, 114, 105] : List UInt8)
  s2 : opK s = 2 ↔ s.toList = ([110, 111, 116] : List UInt8) ∨ s.toList = ([110, 101, 103] : List UInt8)
theorem zlv {x : Instr} (h : okI x) : OpT x.f0 := by
  obtain ⟨p, hp, e⟩ := zzh h
  have := List.all_eq_true.1 zx1 p hp
  unfold zzg at this
  simp only [Bool.and_eq_true, decide_eq_true_eq] at this
  rw [e]
  obtain ⟨⟨⟨⟨⟨⟨⟨⟨⟨⟨⟨⟨a, b⟩, c⟩, d⟩, e⟩, f⟩, g⟩, h⟩, i⟩, j⟩, k⟩, l⟩, m⟩ := this
  exact ⟨a, b, c, d, e, f, g, h, i, j, k, l, m⟩
def cN (x : Instr) : Node := ⟨nC, 0, 0, x.f4⟩
def stp (x : Instr) (s : ShSt) : ShSt := match opK x.f0 with
  | 0 => (s.1 ++ [cN x], s.2.set x.f1.toNat s.1.length)
  | 1 => (s.1, s.2.set x.f1.toNat (rd s.2 x.f2))
  | 2 => (s.1 ++ [⟨x.f0, rd s.2 x.f2, 0, 0⟩], s.2.set x.f1.toNat s.1.length)
  | 3 => (s.1 ++ [⟨x.f0, rd s.2 x.f2, rd s.2 x.f3, 0⟩], s.2.set x.f1.toNat s.1.length)
  | 4 => (s.1 ++ [cN x] ++ [⟨x.f0.extract 0 3, rd s.2 x.f2, s.1.length, 0⟩], s.2.set x.f1.toNat ((s.1 ++ [cN x]).length : Int))
  | _ => (s.1 ++ [cN x] ++ [⟨nShl, rd s.2 x.f3, s.1.length, 0⟩] ++ [⟨nAdd, rd s.2 x.f2, ((s.1 ++ [cN x]).length : Int), 0⟩], s.2.set x.f1.toNat ((s.1 ++ [cN x] ++ [(⟨nShl, rd s.2 x.f3, s.1.length, 0⟩ : Node)]).length : Int))
theorem zx2 {x : Instr} (h : okI x) (s : ShSt) : syDo x (zf0 (cls x.f0) x.f0) s = stp x s := by
  have t := zlv h
  unfold syDo stp
  have hle := t.le
  simp only
  rcases Nat.lt_or_ge (opK x.f0) 1 with c | c
  · have c0 : opK x.f0 = 0 := by omega
    rw [if_pos (t.set.2 c0), c0, if_pos (t.imm.2 (.inl c0)), if_pos (t.imm.2 (.inl c0))]
    rfl
  rw [if_neg (fun e => by have := t.set.1 e; omega)]
  by_cases c1 : opK x.f0 = 1
  · rw [if_pos (t.mov.2 c1), c1, if_neg (fun e => by have := t.imm.1 e; omega)]
    rfl
  rw [if_neg (fun e => c1 (t.mov.1 e))]
  by_cases c5 : opK x.f0 = 5
  · rw [if_pos (t.lea.2 c5), c5, if_pos (t.imm.2 (.inr (.inr c5))), if_pos (t.imm.2 (.inr (.inr c5)))]
    rfl
  rw [if_neg (fun e => c5 (t.lea.1 e))]
  by_cases c4 : opK x.f0 = 4
  · have im := t.imm.2 (.inr (.inl c4))
    rw [if_pos im, if_pos im, if_pos im, c4, t.f4 c4]
    rfl
  have im : ¬ (zf0 (cls x.f0) x.f0).2.2.1 ≤ (zf0 (cls x.f0) x.f0).2.2.2.1 := fun e => by have := t.imm.1 e; omega
  rw [if_neg im, if_neg im]
  by_cases c2 : opK x.f0 = 2
  · rw [if_neg (by rw [(t.f2 c2).1]; decide), c2, (t.f2 c2).2]
    rfl
  · have c3 : opK x.f0 = 3 := by omega
    rw [if_pos (t.f3 c3).1, c3, (t.f3 c3).2]
    rfl
theorem zsc {x : Instr} (h : okI x) (s : ShSt) : (stp x s).1.length ≤ s.1.length + 3 ∧ (stp x s).2.length = s.2.length := by
  have hle := (zlv h).le
  unfold stp
  split <;> simp
structure Rp (s : ShSt) (T : Nat → Tr) : Prop where
  ok : okNs 0 s.1 = true
  len : s.2.length = 6
  reg : ∀ j : Nat, j < 6 → 0 ≤ rd s.2 (j : Int) ∧ rd s.2 (j : Int) < s.1.length ∧ TRN s.1 (rd s.2 (j : Int)) = T j
def stT (x : Instr) (T : Nat → Tr) : Tr := match opK x.f0 with
  | 0 => .lf nC x.f4
  | 1 => T x.f2.toNat
  | 2 => .un x.f0 0 (T x.f2.toNat)
  | 3 => .bi x.f0 0 (T x.f2.toNat) (T x.f3.toNat)
  | 4 => .bi (x.f0.extract 0 3) 0 (T x.f2.toNat) (.lf nC x.f4)
  | _ => .bi nAdd 0 (T x.f2.toNat) (.bi nShl 0 (T x.f3.toNat) (.lf nC x.f4))
def updT (T : Nat → Tr) (i : Nat) (t : Tr) : Nat → Tr := fun j => if i = j then t else T j
structure Up (ns ns' : List Node) : Prop where
  ok : okNs 0 ns' = true
  le : ns.length ≤ ns'.length
  old : ∀ i : Nat, i < ns.length → TRN ns' (i : Int) = TRN ns (i : Int)
theorem Up.refl {ns : List Node} (h : okNs 0 ns = true) : Up ns ns := ⟨h, Nat.le_refl _, fun _ _ => rfl⟩
theorem Up.add {ns ns' : List Node} (h : Up ns ns') {n : Node} (hn : okNx n (ns'.length : Int) = true) : Up ns (ns' ++ [n]) ∧ TRN (ns' ++ [n]) (ns'.length : Int) = trN n (TRN ns') := by
  have ok' : okNs 0 (ns' ++ [n]) = true := by rw [zml, h.ok, Nat.zero_add, hn]; rfl
  exact ⟨⟨ok', by have := h.le; simp; omega, fun i hi => by rw [zuy ok' i (by have := h.le; omega), h.old i hi]⟩, zuz ok'⟩
theorem Rp.put {s : ShSt} {T : Nat → Tr} (h : Rp s T) {ns' : List Node} (u : Up s.1 ns') (i : Nat) (hi : i < 6) {v : Int} {t : Tr} (h0 : 0 ≤ v) (h1 : v < ns'.length) (ht : TRN ns' v = t) : Rp (ns', s.2.set i v) (updT T i t) := by
  refine ⟨u.ok, by simp [h.len], fun j hj => ?_⟩
  rw [zmi _ _ _ _ (by rw [h.len]; exact hi)]
  unfold updT
  split
  · exact ⟨h0, h1, ht⟩
  · obtain ⟨a, b, c⟩ := h.reg j hj
    obtain ⟨p, hp⟩ := Int.eq_ofNat_of_zero_le a
    rw [hp] at b c ⊢
    have := u.le
    exact ⟨by omega, by simp only; omega, by simp only; rw [u.old p (by omega), c]⟩
theorem zjz {x : Instr} (h : okI x) : (0 ≤ x.f1 ∧ x.f1 < 6) ∧ (0 ≤ x.f2 ∧ x.f2 < 6) ∧ (0 ≤ x.f3 ∧ x.f3 < 6) := by
  obtain ⟨_, a, b, c, _⟩ := h
  refine ⟨by omega, ?_, ?_⟩
  · rcases b with b | b <;> omega
  · rcases c with c | c <;> omega
theorem zsd {x : Instr} (h : okI x) (k : opK x.f0 = 0 ∨ opK x.f0 = 4 ∨ opK x.f0 = 5) : 0 ≤ x.f4 ∧ x.f4 ≤ 63 := by
  obtain ⟨a, _, _, _, b, c⟩ := h
  have hc := zw5 x.f0
  have : cls x.f0 = 0 ∨ cls x.f0 = 1 ∨ cls x.f0 = 2 ∨ cls x.f0 = 3 ∨ cls x.f0 = 4 ∨ cls x.f0 = 5 ∨ cls x.f0 = 6 ∨ cls x.f0 = 7 := by omega
  rcases this with e | e | e | e | e | e | e | e <;> rw [e] at b c <;> simp only [zld] at b c <;> omega
theorem kN_c : kN nC = 1 := by decide +kernel
theorem zw9 : kN nAdd = 3 := by decide +kernel
theorem zxa : kN nShl = 3 := by decide +kernel
theorem okc {x : Instr} (h : 0 ≤ x.f4 ∧ x.f4 ≤ 63) (i : Int) : okNx (cN x) i = true := by
  unfold okNx cN
  simp only
  rw [kN_c]
  simp [okNd]
  omega
theorem ok3 {s : ByteArray} (c : kN s = 3) {a b i : Int} (h : (0 ≤ a ∧ a < i) ∧ 0 ≤ b ∧ b < i) : okNx ⟨s, a, b, 0⟩ i = true := by
  unfold okNx
  simp only
  rw [c]
  simp [okNd]
  omega
theorem ok2 {s : ByteArray} (c : kN s = 2) {a i : Int} (h : 0 ≤ a ∧ a < i) : okNx ⟨s, a, 0, 0⟩ i = true := by
  unfold okNx
  simp only
  rw [c]
  simp [okNd]
  omega
theorem zzi {x : Instr} (hx : okI x) {s : ShSt} {T : Nat → Tr} (h : Rp s T) : Rp (stp x s) (updT T x.f1.toNat (stT x T)) := by
  have t := zlv hx
  have hle := t.le
  obtain ⟨r1, r2, r3⟩ := zjz hx
  obtain ⟨a, ha⟩ := Int.eq_ofNat_of_zero_le r2.1
  obtain ⟨b, hb⟩ := Int.eq_ofNat_of_zero_le r3.1
  obtain ⟨a1, a2, a3⟩ := h.reg a (by omega)
  obtain ⟨b1, b2, b3⟩ := h.reg b (by omega)
  obtain ⟨pa, hpa⟩ := Int.eq_ofNat_of_zero_le a1
  obtain ⟨pb, hpb⟩ := Int.eq_ofNat_of_zero_le b1
  have hi : x.f1.toNat < 6 := by omega
  have u0 := Up.refl h.ok
  unfold stp stT
  rw [ha, hb, Int.toNat_natCast, Int.toNat_natCast, ← a3, ← b3, hpa, hpb]
  rw [hpa] at a2
  rw [hpb] at b2
  have c : opK x.f0 = 0 ∨ opK x.f0 = 1 ∨ opK x.f0 = 2 ∨ opK x.f0 = 3 ∨ opK x.f0 = 4 ∨ opK x.f0 = 5 := by omega
  rcases c with c | c | c | c | c | c <;> rw [c] <;> simp only
  · obtain ⟨u, e⟩ := u0.add (okc (zsd hx (.inl c)) _)
    exact h.put u _ hi (by omega) (by simp; omega) (by rw [e, zi7 _ (.inr kN_c)]; rfl)
  · exact h.put u0 _ hi (by omega) a2 rfl
  · obtain ⟨u, e⟩ := u0.add (n := ⟨x.f0, pa, 0, 0⟩) (ok2 (t.k2 c) (by omega))
    exact h.put u _ hi (by omega) (by simp; omega) (by rw [e, zte _ (by exact t.k2 c)])
  · obtain ⟨u, e⟩ := u0.add (n := ⟨x.f0, pa, pb, 0⟩) (ok3 (t.k3 c) (by omega))
    exact h.put u _ hi (by omega) (by simp; omega) (by rw [e, zou _ (by exact t.k3 c)])
  · obtain ⟨u, e⟩ := u0.add (okc (zsd hx (.inr (.inl c))) _)
    obtain ⟨u', e'⟩ := u.add (n := ⟨x.f0.extract 0 3, pa, (s.1.length : Int), 0⟩) (ok3 (t.k4 c).1 (by simp; omega))
    refine h.put u' _ hi (by omega) (by simp) ?_
    rw [e', zou _ (by exact (t.k4 c).1)]
    simp only
    rw [u.old pa (by omega), e, zi7 _ (.inr kN_c)]
    rfl
  · obtain ⟨u, e⟩ := u0.add (okc (zsd hx (.inr (.inr c))) _)
    obtain ⟨u', e'⟩ := u.add (n := ⟨nShl, pb, (s.1.length : Int), 0⟩) (ok3 zxa (by simp; omega))
    obtain ⟨u'', e''⟩ := u'.add (n := ⟨nAdd, pa, ((s.1 ++ [cN x]).length : Int), 0⟩) (ok3 zw9 (by simp; omega))
    refine h.put u'' _ hi (by omega) (by simp) ?_
    rw [e'', zou _ (by exact zw9)]
    simp only
    rw [u'.old pa (by omega), e', zou _ (by exact zxa)]
    simp only
    rw [u.old pb (by omega), e, zi7 _ (.inr kN_c)]
    rfl
theorem zxb : ∀ (l : List Instr) (s : ShSt), (∀ x ∈ l, okI x) → s.1.length + 3 * l.length < 1000000 → s.2.length = 6 → syL l s = some (l.foldl (fun s x => stp x s) s)
  | [], s, _, _, _ => rfl
  | x :: xs, s, h, hl, h6 => by
    have hx := h x (by simp)
    obtain ⟨r1, r2, r3⟩ := zjz hx
    obtain ⟨l1, l2⟩ := zsc hx s
    simp only [List.length_cons] at hl
    unfold syL
    rw [if_pos ⟨r1, r2, r3, by omega, h6⟩, zuj, Option.bind_some, zx2 hx]
    exact zxb xs (stp x s) (fun y hy => h y (by simp [hy])) (by omega) (by rw [l2, h6])
theorem zsf : ∀ (l : List Instr) (s : ShSt) (T : Nat → Tr), (∀ x ∈ l, okI x) → Rp s T → Rp (l.foldl (fun s x => stp x s) s) (l.foldl (fun T x => updT T x.f1.toNat (stT x T)) T) ∧ (l.foldl (fun s x => stp x s) s).1.length ≤ s.1.length + 3 * l.length
  | [], s, T, _, h => ⟨h, Nat.le_refl _⟩
  | x :: xs, s, T, hx, h => by
    obtain ⟨a, b⟩ := zsf xs (stp x s) _ (fun y hy => hx y (by simp [hy])) (zzi (hx x (by simp)) h)
    have := (zsc (hx x (by simp)) s).1
    refine ⟨a, ?_⟩
    simp only [List.foldl_cons, List.length_cons]
    omega
def T0 (j : Nat) : Tr := if j = 0 then .lf ⟨#[105, 110]⟩ 0 else if j = 1 then .lf ⟨#[105, 110]⟩ 1 else .lf nC 0
theorem zx3 : Rp (syU 6) T0 := by
  refine ⟨by decide +kernel, rfl, fun j hj => ?_⟩
  have : j = 0 ∨ j = 1 ∨ j = 2 ∨ j = 3 ∨ j = 4 ∨ j = 5 := by omega
  rcases this with rfl | rfl | rfl | rfl | rfl | rfl <;> exact ⟨by decide, by decide, by kernel_rfl⟩
def vaIni : ShSt := ([(⟨(⟨#[105, 110]⟩ : ByteArray), 0, 0, 0⟩ : Node), ⟨⟨#[105, 110]⟩, 0, 0, 1⟩, ⟨⟨#[99, 111, 110, 115, 116]⟩, 0, 0, 0⟩], [0, 1, 2, 2, 2, 2])
theorem zx4 : Rp vaIni T0 := by
  refine ⟨by decide +kernel, rfl, fun j hj => ?_⟩
  have : j = 0 ∨ j = 1 ∨ j = 2 ∨ j = 3 ∨ j = 4 ∨ j = 5 := by omega
  rcases this with rfl | rfl | rfl | rfl | rfl | rfl <;> exact ⟨by decide, by decide, by kernel_rfl⟩
theorem zht (xs : List Node) (a : ByteArray) (b c d : Int) (h : xs.length < 1000000) : zbl xs a b c d = some (xs ++ [⟨a, b, c, d⟩], (xs.length : Int)) := by
  unfold zbl
  rw [if_pos (by omega)]
section
variable {l : List Instr} {n i : Int} {x : Instr} {s : ShSt} {R : List Node × List Int}
theorem zzj (hx : okI x) (c : opK x.f0 = 4) (hs : s.1.length < 900000) (h6 : s.2.length = 6) (H : Ev (fun k => zaj k (stp x s).1 (stp x s).2 l n (wrap64 (i + 1))) R) :
    Ev (fun k => za8 k s.1 s.2 l n i x.f0 true x.f0 x.f1 x.f2 x.f3 x.f4 nC 0 0 x.f4) R := by
  have t := zlv hx
  obtain ⟨r1, r2, r3⟩ := zjz hx
  have hsz := (t.k4 c).2
  have ew : wrap64 ((x.f0.size : Int) - 1) = 3 := by rw [hsz]; unfold wrap64; omega
  have e : stp x s = (s.1 ++ [cN x] ++ [⟨x.f0.extract 0 3, rd s.2 x.f2, s.1.length, 0⟩], s.2.set x.f1.toNat ((s.1 ++ [cN x]).length : Int)) := by unfold stp; rw [c]; rfl
  rw [e] at H
  refine Ev.step (fun k => by simp only [za8, ew]; rfl) (zah (show (true : Bool) = true from rfl) (Ev.call (zht s.1 nC 0 0 x.f4 (by omega)) ?_))
  refine zah (by omega) (zah (by omega) (zah r2.1 (zah (by omega) (Ev.call (zht (s.1 ++ [cN x]) (x.f0.extract 0 3) (rd s.2 x.f2) s.1.length 0 (by simp; omega)) ?_))))
  exact zah r1.1 (zah (by omega) H)
theorem zzk (hx : okI x) (c : opK x.f0 = 5) (hs : s.1.length < 900000) (h6 : s.2.length = 6) (H : Ev (fun k => zaj k (stp x s).1 (stp x s).2 l n (wrap64 (i + 1))) R) :
    Ev (fun k => za8 k s.1 s.2 l n i x.f0 false x.f0 x.f1 x.f2 x.f3 x.f4 nC 0 0 x.f4) R := by
  have t := zlv hx
  obtain ⟨r1, r2, r3⟩ := zjz hx
  have e : stp x s = (s.1 ++ [cN x] ++ [⟨nShl, rd s.2 x.f3, s.1.length, 0⟩] ++ [⟨nAdd, rd s.2 x.f2, ((s.1 ++ [cN x]).length : Int), 0⟩], s.2.set x.f1.toNat ((s.1 ++ [cN x] ++ [(⟨nShl, rd s.2 x.f3, s.1.length, 0⟩ : Node)]).length : Int)) := by unfold stp; rw [c]; rfl
  rw [e] at H
  refine Ev.step (fun k => by simp only [za8]; rfl) (za1 (by decide) (zah (t.lea.2 c) (Ev.call (zht s.1 nC 0 0 x.f4 (by omega)) ?_)))
  refine zah r3.1 (zah (by omega) (Ev.call (zht (s.1 ++ [cN x]) nShl (rd s.2 x.f3) s.1.length 0 (by simp; omega)) ?_))
  refine zah r2.1 (zah (by omega) (Ev.call (zht (s.1 ++ [cN x] ++ [⟨nShl, rd s.2 x.f3, s.1.length, 0⟩]) nAdd (rd s.2 x.f2) ((s.1 ++ [cN x]).length : Int) 0 (by simp; omega)) ?_))
  exact zah r1.1 (zah (by omega) H)
theorem zzl (hx : okI x) (c : opK x.f0 = 2) (hs : s.1.length < 900000) (h6 : s.2.length = 6) (H : Ev (fun k => zaj k (stp x s).1 (stp x s).2 l n (wrap64 (i + 1))) R) :
    Ev (fun k => zbr k s.1 s.2 l n i true x.f0 x.f1 x.f2 x.f3 x.f4) R := by
  obtain ⟨r1, r2, r3⟩ := zjz hx
  have e : stp x s = (s.1 ++ [⟨x.f0, rd s.2 x.f2, 0, 0⟩], s.2.set x.f1.toNat s.1.length) := by unfold stp; rw [c]; rfl
  rw [e] at H
  refine Ev.step (fun k => by simp only [zbr]; rfl) (zah (show (true : Bool) = true from rfl) (zah r2.1 (zah (by omega) (Ev.call (zht s.1 x.f0 (rd s.2 x.f2) 0 0 (by omega)) ?_))))
  exact zah r1.1 (zah (by omega) H)
theorem zzm (hx : okI x) (c : opK x.f0 = 3) (hs : s.1.length < 900000) (h6 : s.2.length = 6) (H : Ev (fun k => zaj k (stp x s).1 (stp x s).2 l n (wrap64 (i + 1))) R) :
    Ev (fun k => zbr k s.1 s.2 l n i false x.f0 x.f1 x.f2 x.f3 x.f4) R := by
  obtain ⟨r1, r2, r3⟩ := zjz hx
  have e : stp x s = (s.1 ++ [⟨x.f0, rd s.2 x.f2, rd s.2 x.f3, 0⟩], s.2.set x.f1.toNat s.1.length) := by unfold stp; rw [c]; rfl
  rw [e] at H
  refine Ev.step (fun k => by simp only [zbr]; rfl) (za1 (by decide) (zah r2.1 (zah (by omega) (zah r3.1 (zah (by omega) (Ev.call (zht s.1 x.f0 (rd s.2 x.f2) (rd s.2 x.f3) 0 (by omega)) ?_))))))
  exact zah r1.1 (zah (by omega) H)
theorem zx5 (hx : okI x) (c : opK x.f0 = 2 ∨ opK x.f0 = 3 ∨ opK x.f0 = 5) (hs : s.1.length < 900000) (h6 : s.2.length = 6) (H : Ev (fun k => zaj k (stp x s).1 (stp x s).2 l n (wrap64 (i + 1))) R) :
    Ev (fun k => za8 k s.1 s.2 l n i x.f0 false x.f0 x.f1 x.f2 x.f3 x.f4 nC 0 0 x.f4) R := by
  have t := zlv hx
  by_cases c5 : opK x.f0 = 5
  · exact zzk hx c5 hs h6 H
  refine Ev.step (fun k => by simp only [za8]; rfl) (za1 (by decide) (za1 (fun e => c5 (t.lea.1 e)) ?_))
  by_cases c2 : opK x.f0 = 2
  · rcases t.s2.1 c2 with e | e
    · refine zah e ?_
      rw [show (x.f0.toList == ([110, 111, 116] : List UInt8)) = true from beq_iff_eq.2 e]
      exact zzl hx c2 hs h6 H
    · refine za1 (fun h => by rw [e] at h; exact absurd h (by decide)) ?_
      rw [show (x.f0.toList == ([110, 101, 103] : List UInt8)) = true from beq_iff_eq.2 e]
      exact zzl hx c2 hs h6 H
  · refine za1 (fun h => c2 (t.s2.2 (.inl h))) ?_
    rw [show (x.f0.toList == ([110, 101, 103] : List UInt8)) = false from Bool.eq_false_iff.2 (fun h => c2 (t.s2.2 (.inr (beq_iff_eq.1 h))))]
    exact zzm hx (by omega) hs h6 H
end
theorem zth (l : List Instr) (hl : l.length ≤ 1000) (hok : ∀ x ∈ l, okI x) : ∀ (d i : Nat) (s : ShSt), i + d = l.length → s.1.length ≤ 3 + 3 * i → s.2.length = 6 → Ev (fun k => zaj k s.1 s.2 l l.length i) ((l.drop i).foldl (fun s x => stp x s) s)
  | 0, i, s, h, hs, h6 => by
    rw [List.drop_of_length_le (by omega)]
    exact Ev.step (fun k => by simp only [zaj]; rfl) (za1 (by omega) (za4 _))
  | d + 1, i, s, h, hs, h6 => by
    have hi : i < l.length := by omega
    have hx : zaa l (i : Int) = l[i] := zqy (zen l i hi)
    have hxo := hok _ (List.getElem_mem hi)
    rw [List.drop_eq_getElem_cons hi, List.foldl_cons]
    obtain ⟨l1, l2⟩ := zsc hxo s
    have H := zth l hl hok d (i + 1) (stp l[i] s) (by omega) (by omega) (by omega)
    rw [← w64n i (by omega)] at H
    generalize l[i] = x at hx hxo H l1 l2 ⊢
    have t := zlv hxo
    obtain ⟨r1, r2, r3⟩ := zjz hxo
    have hle := t.le
    refine Ev.step (fun k => by simp only [zaj, hx]; rfl) (zah (by omega) (zah (by omega) (zah (by omega) ?_)))
    by_cases c0 : opK x.f0 = 0
    · have e : stp x s = (s.1 ++ [cN x], s.2.set x.f1.toNat s.1.length) := by unfold stp; rw [c0]; rfl
      rw [e] at H ⊢
      exact zah (t.set.2 c0) (Ev.call (zht s.1 nC 0 0 x.f4 (by omega)) (zah r1.1 (zah (by omega) H)))
    refine za1 (fun e => c0 (t.set.1 e)) ?_
    by_cases c1 : opK x.f0 = 1
    · have e : stp x s = (s.1, s.2.set x.f1.toNat (rd s.2 x.f2)) := by unfold stp; rw [c1]; rfl
      rw [e] at H ⊢
      exact zah (t.mov.2 c1) (zah r2.1 (zah (by omega) (zah r1.1 (zah (by omega) H))))
    refine za1 (fun e => c1 (t.mov.1 e)) ?_
    by_cases c4 : opK x.f0 = 4
    · have J := zzj (l := l) (n := l.length) (i := i) hxo c4 (by omega) h6 H
      rcases t.s4.1 c4 with e | e | e | e | e
      · refine zah e ?_
        rw [show (x.f0.toList == ([97, 100, 100, 105] : List UInt8)) = true from beq_iff_eq.2 e]
        exact J
      · refine za1 (fun h => by rw [e] at h; exact absurd h (by decide)) (zah e ?_)
        rw [show (x.f0.toList == ([97, 110, 100, 105] : List UInt8)) = true from beq_iff_eq.2 e]
        exact J
      · refine za1 (fun h => by rw [e] at h; exact absurd h (by decide)) (za1 (fun h => by rw [e] at h; exact absurd h (by decide)) (zah e ?_))
        rw [show (x.f0.toList == ([120, 111, 114, 105] : List UInt8)) = true from beq_iff_eq.2 e]
        exact J
      · refine za1 (fun h => by rw [e] at h; exact absurd h (by decide)) (za1 (fun h => by rw [e] at h; exact absurd h (by decide)) (za1 (fun h => by rw [e] at h; exact absurd h (by decide)) (zah e ?_)))
        rw [show (x.f0.toList == ([115, 104, 108, 105] : List UInt8)) = true from beq_iff_eq.2 e]
        exact J
      · refine za1 (fun h => by rw [e] at h; exact absurd h (by decide)) (za1 (fun h => by rw [e] at h; exact absurd h (by decide)) (za1 (fun h => by rw [e] at h; exact absurd h (by decide)) (za1 (fun h => by rw [e] at h; exact absurd h (by decide)) ?_)))
        rw [show (x.f0.toList == ([115, 104, 114, 105] : List UInt8)) = true from beq_iff_eq.2 e]
        exact J
    · refine za1 (fun h => c4 (t.s4.2 (.inl h))) (za1 (fun h => c4 (t.s4.2 (.inr (.inl h)))) (za1 (fun h => c4 (t.s4.2 (.inr (.inr (.inl h))))) (za1 (fun h => c4 (t.s4.2 (.inr (.inr (.inr (.inl h)))))) ?_)))
      rw [show (x.f0.toList == ([115, 104, 114, 105] : List UInt8)) = false from Bool.eq_false_iff.2 (fun h => c4 (t.s4.2 (.inr (.inr (.inr (.inr (beq_iff_eq.1 h)))))))]
      exact zx5 hxo (by omega) (by omega) h6 H
theorem zwf (l : List Instr) (hl : l.length ≤ 100) (hok : ∀ x ∈ l, okI x) (r : Int) (h0 : 0 ≤ r) (h1 : r < 6) : ∃ e e' : List Node, okNs 0 e = true ∧ 0 < e.length ∧ e.length ≤ 1000 ∧ okNs 0 e' = true ∧ 0 < e'.length ∧ e'.length ≤ 1000 ∧ shP e = shP e' ∧
    Ev (fun k => zdq k l r) (shP e, zle (shP e)) ∧ Ev (fun k => zd7 k l r) (shP e', zle (shP e')) := by
  obtain ⟨p1, p2⟩ := zsf l (syU 6) T0 hok zx3
  obtain ⟨q1, q2⟩ := zsf l vaIni T0 hok zx4
  have s1 := zxb l (syU 6) hok (by have := (zp3 6 (by decide)).1; omega) (zp3 6 (by decide)).2
  have s2 := zth l (by omega) hok l.length 0 vaIni (by omega) (by decide) rfl
  rw [List.drop_zero] at s2
  have z1 : (syU 6).1.length = 6 := (zp3 6 (by decide)).1
  have z2 : vaIni.1.length = 3 := rfl
  rw [z1] at p2
  rw [z2] at q2
  generalize l.foldl (fun s x => stp x s) (syU 6) = S at p1 p2 s1
  generalize l.foldl (fun s x => stp x s) vaIni = S' at q1 q2 s2
  generalize l.foldl (fun T x => updT T x.f1.toNat (stT x T)) T0 = T at p1 q1
  obtain ⟨j, rfl⟩ := Int.eq_ofNat_of_zero_le h0
  obtain ⟨a1, a2, a3⟩ := p1.reg j (by omega)
  obtain ⟨b1, b2, b3⟩ := q1.reg j (by omega)
  have hl6 := p1.len
  have hl6' := q1.len
  obtain ⟨u, hu⟩ := Int.eq_ofNat_of_zero_le a1
  obtain ⟨v, hv⟩ := Int.eq_ofNat_of_zero_le b1
  rw [hu] at a2 a3
  rw [hv] at b2 b3
  obtain ⟨e, ke, kk⟩ := zu2 S.1 p1.ok (by omega) u (by omega)
  obtain ⟨e', ke', kk'⟩ := zu5 S'.1 q1.ok (by omega) v (by omega)
  have hs := zpp kk kk' (by rw [a3, b3])
  refine ⟨e, e', kk.1, kk.2.1, by have := kk.2.2.1; omega, kk'.1, kk'.2.1, by have := kk'.2.2.1; omega, hs, ?_, ?_⟩
  · unfold zdq
    refine zah ⟨by omega, h0, h1⟩ (Ev.call s1 (zah hl6 ?_))
    rw [hu]
    exact Ev.bind ke (Ev.bind (zjy e kk.2.1 (by have := kk.2.2.1; omega) kk.1) (Ev.bind (zur _) (za4 _)))
  · unfold zd7 zem
    refine Ev.bind s2 (zah h0 (zah (by omega) ?_))
    rw [hv]
    exact Ev.bind ke' (Ev.bind (znk e' kk'.2.1 (by have := kk'.2.2.1; omega) kk'.1) (Ev.bind (zus _) (za4 _)))
open Classical in
noncomputable def symR (l : List Instr) (r : Int) : List Node × Bool := if h : ∃ R, Ev (fun k => zdq k l r) R then Classical.choose h else ([], false)
theorem zx6 (l : List Instr) (hl : l.length ≤ 100) (hok : ∀ x ∈ l, okI x) (r : Int) (h0 : 0 ≤ r) (h1 : r < 6) : Ev (fun k => zdq k l r) (symR l r) ∧ Ev (fun k => zd7 k l r) (symR l r) ∧ (symR l r).2 = zle (symR l r).1 := by
  obtain ⟨e, e', _, _, _, _, _, _, hs, a, b⟩ := zwf l hl hok r h0 h1
  have h : ∃ R, Ev (fun k => zdq k l r) R := ⟨_, a⟩
  have q : symR l r = (shP e, zle (shP e)) := by
    unfold symR
    rw [dif_pos h]
    exact zp5 (Classical.choose_spec h) a
  rw [q]
  exact ⟨a, by rw [hs]; exact b, rfl⟩
theorem ztt (l : List Instr) : Ev (fun k => ze9 k l) (zjx l) := by
  unfold ze9
  rw [zpl]
  by_cases h : (l.length : Int) ≤ 20
  · refine zah h (Ev.bind (zul l) (Ev.some ?_))
    rw [decide_eq_true (show l.length ≤ 20 by omega), Bool.and_true]
  · refine za1 h (Ev.some ?_)
    rw [decide_eq_false (show ¬ l.length ≤ 20 by omega), Bool.and_false]
end Go.Proofs.Ytkfkbmlbpeojaaa.PL
end
