/- Proved here: contracts of functions that the law FnExactSymbolOf reaches, and lemmas on what they compute; texts of this session and the printed words of the kit that they lean on, cut down and put together by its program link.py. Conditions: as each states. -/
import Derived.Carry
import Derived.Deep.Slices
import Derived.ProofKit
import Derived.Test.YtkfkbmlbpeojaaaZFnExactSymbolOf1
import Derived.Test.YtkfkbmlbpeojaaaZFnExactSymbolOf2
import Derived.Test.YtkfkbmlbpeojaaaZFnExactSymbolOf3
import Derived.Test.YtkfkbmlbpeojaaaZFnExactSymbolOf4
section
namespace Go.Proofs.Ytkfkbmlbpeojaaa.Q
open Go.RowKit Go.Proofs.YtkfkbmlbpeojaaaW.PrintWords Go.Proofs.YtkfkbmlbpeojaaaW.PrintLast Go.Proofs.YtkfkbmlbpeojaaaW.PrintMore
attribute [local go_sem] zcz zc0 zd1 zd2 zcl zcm zc1 zc2
set_option linter.unusedVariables false
set_option linter.unusedSimpArgs false
mutual
def zam : Nat → List (S72) → List Int → List (S94) → Int → Int → Option ((List (S72)) × List Int)
 | 0, _, _, _, _, _ => none
 | k + 1, x4, x5, x15, x16, x17 => if x17 < x16 then (if 0 ≤ x17 then (if x17 < (x15.length : Int) then (if ((zaa x15 x17).f0).toList = ([115, 101, 116] : List UInt8) then ((zbo x4 (⟨#[99, 111, 110, 115, 116]⟩ : ByteArray) 0 0 ((zaa x15 x17).f4)).bind fun bt110 => (if 0 ≤ ((zaa x15 x17).f1) then (if ((zaa x15 x17).f1) < (x5.length : Int) then (zam k bt110.1 (x5.set (((zaa x15 x17).f1) : Int).toNat bt110.2) x15 x16 (wrap64 (x17 + 1))) else (none)) else (none))) else (if ((zaa x15 x17).f0).toList = ([109, 111, 118] : List UInt8) then (if 0 ≤ ((zaa x15 x17).f2) then (if ((zaa x15 x17).f2) < (x5.length : Int) then (if 0 ≤ ((zaa x15 x17).f1) then (if ((zaa x15 x17).f1) < (x5.length : Int) then (zam k x4 (x5.set (((zaa x15 x17).f1) : Int).toNat (rd x5 ((zaa x15 x17).f2))) x15 x16 (wrap64 (x17 + 1))) else (none)) else (none)) else (none)) else (none)) else (if ((zaa x15 x17).f0).toList = ([97, 100, 100, 105] : List UInt8) then (za9 k x4 x5 x15 x16 x17 ((zaa x15 x17).f0) (((zaa x15 x17).f0).toList == ([97, 100, 100, 105] : List UInt8)) ((zaa x15 x17).f0) ((zaa x15 x17).f1) ((zaa x15 x17).f2) ((zaa x15 x17).f3) ((zaa x15 x17).f4) (⟨#[99, 111, 110, 115, 116]⟩ : ByteArray) 0 0 ((zaa x15 x17).f4)) else (if ((zaa x15 x17).f0).toList = ([97, 110, 100, 105] : List UInt8) then (za9 k x4 x5 x15 x16 x17 ((zaa x15 x17).f0) (((zaa x15 x17).f0).toList == ([97, 110, 100, 105] : List UInt8)) ((zaa x15 x17).f0) ((zaa x15 x17).f1) ((zaa x15 x17).f2) ((zaa x15 x17).f3) ((zaa x15 x17).f4) (⟨#[99, 111, 110, 115, 116]⟩ : ByteArray) 0 0 ((zaa x15 x17).f4)) else (if ((zaa x15 x17).f0).toList = ([120, 111, 114, 105] : List UInt8) then (za9 k x4 x5 x15 x16 x17 ((zaa x15 x17).f0) (((zaa x15 x17).f0).toList == ([120, 111, 114, 105] : List UInt8)) ((zaa x15 x17).f0) ((zaa x15 x17).f1) ((zaa x15 x17).f2) ((zaa x15 x17).f3) ((zaa x15 x17).f4) (⟨#[99, 111, 110, 115, 116]⟩ : ByteArray) 0 0 ((zaa x15 x17).f4)) else (if ((zaa x15 x17).f0).toList = ([115, 104, 108, 105] : List UInt8) then (za9 k x4 x5 x15 x16 x17 ((zaa x15 x17).f0) (((zaa x15 x17).f0).toList == ([115, 104, 108, 105] : List UInt8)) ((zaa x15 x17).f0) ((zaa x15 x17).f1) ((zaa x15 x17).f2) ((zaa x15 x17).f3) ((zaa x15 x17).f4) (⟨#[99, 111, 110, 115, 116]⟩ : ByteArray) 0 0 ((zaa x15 x17).f4)) else (za9 k x4 x5 x15 x16 x17 ((zaa x15 x17).f0) (((zaa x15 x17).f0).toList == ([115, 104, 114, 105] : List UInt8)) ((zaa x15 x17).f0) ((zaa x15 x17).f1) ((zaa x15 x17).f2) ((zaa x15 x17).f3) ((zaa x15 x17).f4) (⟨#[99, 111, 110, 115, 116]⟩ : ByteArray) 0 0 ((zaa x15 x17).f4)))))))) else (none)) else (none)) else (some (x4, x5))
def za9 : Nat → List (S72) → List Int → List (S94) → Int → Int → ByteArray → Bool → ByteArray → Int → Int → Int → Int → ByteArray → Int → Int → Int → Option ((List (S72)) × List Int)
 | 0, _, _, _, _, _, _, _, _, _, _, _, _, _, _, _, _ => none
 | k + 1, x4, x5, x15, x16, x17, x25, x59, x109000, x109001, x109002, x109003, x109004, x110000, x110001, x110002, x110003 => if x59 = true then ((zbo x4 x110000 x110001 x110002 x110003).bind fun bt117 => (if 0 ≤ (wrap64 ((x109000.size : Int) - 1)) then (if (wrap64 ((x109000.size : Int) - 1)) ≤ (x109000.size : Int) then (if 0 ≤ x109002 then (if x109002 < (x5.length : Int) then ((zbo bt117.1 (x109000.extract 0 ((wrap64 ((x109000.size : Int) - 1)) : Int).toNat) (rd x5 x109002) bt117.2 0).bind fun bt122 => (if 0 ≤ x109001 then (if x109001 < (x5.length : Int) then (zam k bt122.1 (x5.set (x109001 : Int).toNat bt122.2) x15 x16 (wrap64 (x17 + 1))) else (none)) else (none))) else (none)) else (none)) else (none)) else (none))) else (if x25.toList = ([108, 101, 97] : List UInt8) then ((zbo x4 x110000 x110001 x110002 x110003).bind fun bt127 => (if 0 ≤ x109003 then (if x109003 < (x5.length : Int) then ((zbo bt127.1 (⟨#[115, 104, 108]⟩ : ByteArray) (rd x5 x109003) bt127.2 0).bind fun bt132 => (if 0 ≤ x109002 then (if x109002 < (x5.length : Int) then ((zbo bt132.1 (⟨#[97, 100, 100]⟩ : ByteArray) (rd x5 x109002) bt132.2 0).bind fun bt137 => (if 0 ≤ x109001 then (if x109001 < (x5.length : Int) then (zam k bt137.1 (x5.set (x109001 : Int).toNat bt137.2) x15 x16 (wrap64 (x17 + 1))) else (none)) else (none))) else (none)) else (none))) else (none)) else (none))) else (if x25.toList = ([110, 111, 116] : List UInt8) then (zbt k x4 x5 x15 x16 x17 (x25.toList == ([110, 111, 116] : List UInt8)) x109000 x109001 x109002 x109003 x109004) else (zbt k x4 x5 x15 x16 x17 (x25.toList == ([110, 101, 103] : List UInt8)) x109000 x109001 x109002 x109003 x109004)))
def zbt : Nat → List (S72) → List Int → List (S94) → Int → Int → Bool → ByteArray → Int → Int → Int → Int → Option ((List (S72)) × List Int)
 | 0, _, _, _, _, _, _, _, _, _, _, _ => none
 | k + 1, x4, x5, x15, x16, x17, x122, x109000, x109001, x109002, x109003, x109004 => if x122 = true then (if 0 ≤ x109002 then (if x109002 < (x5.length : Int) then ((zbo x4 x109000 (rd x5 x109002) 0 0).bind fun bt143 => (if 0 ≤ x109001 then (if x109001 < (x5.length : Int) then (zam k bt143.1 (x5.set (x109001 : Int).toNat bt143.2) x15 x16 (wrap64 (x17 + 1))) else (none)) else (none))) else (none)) else (none)) else (if 0 ≤ x109002 then (if x109002 < (x5.length : Int) then (if 0 ≤ x109003 then (if x109003 < (x5.length : Int) then ((zbo x4 x109000 (rd x5 x109002) (rd x5 x109003) 0).bind fun bt150 => (if 0 ≤ x109001 then (if x109001 < (x5.length : Int) then (zam k bt150.1 (x5.set (x109001 : Int).toNat bt150.2) x15 x16 (wrap64 (x17 + 1))) else (none)) else (none))) else (none)) else (none)) else (none)) else (none))
end
def zeg (k : Nat) (l0 : List (S94)) : Option ((List (S72)) × List Int) := zam k (([(⟨(⟨#[105, 110]⟩ : ByteArray), 0, 0, 0⟩ : S72), (⟨(⟨#[105, 110]⟩ : ByteArray), 0, 0, 1⟩ : S72), (⟨(⟨#[99, 111, 110, 115, 116]⟩ : ByteArray), 0, 0, 0⟩ : S72)] : List (S72))) (([0, 1, 2, 2, 2, 2] : List Int)) l0 (l0.length : Int) 0
theorem zgs : ∀ k, (∀ y0 y1 y2 y3 y4, LeO (zam k y0 y1 y2 y3 y4) (zam (k + 1) y0 y1 y2 y3 y4)) ∧ (∀ y0 y1 y2 y3 y4 y5 y6 y7 y8 y9 y10 y11 y12 y13 y14 y15, LeO (za9 k y0 y1 y2 y3 y4 y5 y6 y7 y8 y9 y10 y11 y12 y13 y14 y15) (za9 (k + 1) y0 y1 y2 y3 y4 y5 y6 y7 y8 y9 y10 y11 y12 y13 y14 y15)) ∧ (∀ y0 y1 y2 y3 y4 y5 y6 y7 y8 y9 y10, LeO (zbt k y0 y1 y2 y3 y4 y5 y6 y7 y8 y9 y10) (zbt (k + 1) y0 y1 y2 y3 y4 y5 y6 y7 y8 y9 y10))
 | 0 => ⟨fun _ _ _ _ _ r h => by simp [zam] at h, fun _ _ _ _ _ _ _ _ _ _ _ _ _ _ _ _ r h => by simp [za9] at h, fun _ _ _ _ _ _ _ _ _ _ _ r h => by simp [zbt] at h⟩
 | k + 1 => by
   obtain ⟨ih0, ih1, ih2⟩ := zgs k
   refine ⟨?_, ?_, ?_⟩
   · intro y0 y1 y2 y3 y4
     unfold zam
     repeat' first
     | (with_reducible first | exact ih0 _ _ _ _ _ | exact ih1 _ _ _ _ _ _ _ _ _ _ _ _ _ _ _ _ | exact ih2 _ _ _ _ _ _ _ _ _ _ _ | exact LeO.refl _ | exact LeO.none _ | refine zai ?_ ?_ | refine LeO.bind ?_ (fun _ => ?_))
     | exact LeO.none _
     | refine zai ?_ ?_
     | refine LeO.bind ?_ (fun _ => ?_)
   · intro y0 y1 y2 y3 y4 y5 y6 y7 y8 y9 y10 y11 y12 y13 y14 y15
     unfold za9
     repeat' first
     | (with_reducible first | exact ih0 _ _ _ _ _ | exact ih1 _ _ _ _ _ _ _ _ _ _ _ _ _ _ _ _ | exact ih2 _ _ _ _ _ _ _ _ _ _ _ | exact LeO.refl _ | exact LeO.none _ | refine zai ?_ ?_ | refine LeO.bind ?_ (fun _ => ?_))
     | exact LeO.none _
     | refine zai ?_ ?_
     | refine LeO.bind ?_ (fun _ => ?_)
   · intro y0 y1 y2 y3 y4 y5 y6 y7 y8 y9 y10
     unfold zbt
     repeat' first
     | (with_reducible first | exact ih0 _ _ _ _ _ | exact ih1 _ _ _ _ _ _ _ _ _ _ _ _ _ _ _ _ | exact ih2 _ _ _ _ _ _ _ _ _ _ _ | exact LeO.refl _ | exact LeO.none _ | refine zai ?_ ?_ | refine LeO.bind ?_ (fun _ => ?_))
     | exact LeO.none _
     | refine zai ?_ ?_
     | refine LeO.bind ?_ (fun _ => ?_)
theorem zjy : ∀ a0 k, LeO (zeg k a0) (zeg (k + 1) a0) := by
 intro a0 k
 obtain ⟨ih0, ih1, ih2⟩ := zgs k
 unfold zeg
 repeat' first
     | (with_reducible first | exact ih0 _ _ _ _ _ | exact ih1 _ _ _ _ _ _ _ _ _ _ _ _ _ _ _ _ | exact ih2 _ _ _ _ _ _ _ _ _ _ _ | exact LeO.refl _ | exact LeO.none _ | refine zai ?_ ?_ | refine LeO.bind ?_ (fun _ => ?_))
     | exact LeO.none _
     | refine zai ?_ ?_
     | refine LeO.bind ?_ (fun _ => ?_)
def spec_vaSymbols.T9 : Bool × List (List Nat × List Nat) := (true, [([], []), ([], []), ([1], [1]), ([], []), ([], []), ([4], [4]), ([3, 5], [3, 5]), ([6], [6]), ([], []), ([], []), ([9], [9]), ([8, 10], [8, 10]), ([11], [11]), ([2, 7, 12], [2, 7, 12]), ([0, 13], [0, 13]), ([14], [14]), ([15], [15]), ([15], [15]), ([16, 14, 0, 1, 2, 3, 4, 5, 6, 7, 8, 9, 10, 11, 12, 13, 14, 15, 16], [0, 16]), ([17, 18, 0, 1, 2, 3, 4, 5, 6, 7, 8, 9, 10, 11, 12, 13, 14, 15, 16, 17, 18], [17])])
def zlg : List Nat := [0, 0, 2, 0, 0, 16, 56, 120, 0, 0, 512, 1792, 3840, 8190, 16383, 32767, 65535, 65535, 131071, 524287]
theorem zjz : rtab .any (zqm Try.f113 9) = spec_vaSymbols.T9 := by kernel_rfl
theorem zjj : zh7 spec_vaSymbols.T9.2 zlg = true := by kernel_rfl
def spec_vaSymbols.T20 : Bool × List (List Nat × List Nat) := (true, [([], []), ([], []), ([1], [1]), ([], []), ([3], [3]), ([4], [4]), ([5], [5]), ([2, 6], [2, 6]), ([], []), ([], []), ([9], [9]), ([8, 10], [8, 10]), ([11], [11]), ([], []), ([7, 12, 13], [7, 12, 13]), ([0, 14], [0, 14]), ([15], [15]), ([16], [16]), ([16], [16]), ([17, 15, 0, 1, 2, 3, 4, 5, 6, 7, 8, 9, 10, 11, 12, 13, 14, 15, 16, 17], [0, 17]), ([18, 19, 0, 1, 2, 3, 4, 5, 6, 7, 8, 9, 10, 11, 12, 13, 14, 15, 16, 17, 18, 19], [13, 18])])
def zkg : List Nat := [0, 0, 2, 0, 8, 24, 56, 126, 0, 0, 512, 1792, 3840, 0, 16382, 32767, 65535, 131071, 131071, 262143, 1048575]
theorem zjk : rtab .any (zqm Try.f113 20) = spec_vaSymbols.T20 := by kernel_rfl
theorem zi9 : zh7 spec_vaSymbols.T20.2 zkg = true := by kernel_rfl
def spec_vaSymbols.T27 : Bool × List (List Nat × List Nat) := (true, [([], []), ([], []), ([1], [1]), ([], []), ([], []), ([4], [4]), ([3, 5], [3, 5]), ([6], [6]), ([2, 7], [2, 7]), ([0, 8], [0, 8]), ([9], [9]), ([10], [10]), ([10], [10]), ([11, 9, 0, 1, 2, 3, 4, 5, 6, 7, 8, 9, 10, 11], [0, 11]), ([12, 13, 0, 1, 2, 3, 4, 5, 6, 7, 8, 9, 10, 11, 12, 13], [12])])
def zkh : List Nat := [0, 0, 2, 0, 0, 16, 56, 120, 254, 511, 1023, 2047, 2047, 4095, 16383]
theorem zjl : rtab .any (zqm Try.f113 27) = spec_vaSymbols.T27 := by kernel_rfl
theorem zja : zh7 spec_vaSymbols.T27.2 zkh = true := by kernel_rfl
set_option maxHeartbeats 8000000 in
set_option maxRecDepth 100000 in
theorem zjm (k : Nat) (A0 : Option Addr) (c0 : Nat) (l0 : List (S94)) (r1 : List (S72)) (r2 : List Int) (w : World) (hr0 : Kd.C k94 w A0 l0.length l0) (hc0 : l0.length ≤ c0) (h : zeg k l0 = some (r1, r2)) :
   Calls Try.prog 113 #[.slice A0 l0.length c0] w fun e w' => ∃ v0_ v1_ : Value, e = .returned (.tuple #[v0_, v1_]) ∧ Kd.R k72 72 w' w.heap.size (fun _ => True) v0_ r1 ∧ Kd.R (Kd.int .i64) 3 w' w.heap.size (fun _ => True) v1_ r2 ∧ Below w.heap.size w w' := by
 have hu72 := Try.underlying72
 have hu94 := Try.underlying94
 have HR0 := zA hr0
 have HC0 := zA hc0
 clear hr0 hc0
 have HB := zA (Below.refl w.heap.size w)
 have H : (zam k (([(⟨(⟨#[105, 110]⟩ : ByteArray), 0, 0, 0⟩ : S72), (⟨(⟨#[105, 110]⟩ : ByteArray), 0, 0, 1⟩ : S72), (⟨(⟨#[99, 111, 110, 115, 116]⟩ : ByteArray), 0, 0, 0⟩ : S72)] : List (S72))) (([0, 1, 2, 2, 2, 2] : List Int)) l0 (l0.length : Int) 0) = some (r1, r2) := h
 clear h
 obtain ⟨y101, hy101⟩ : ∃ y_ : List (S72), y_ = (([(⟨(⟨#[105, 110]⟩ : ByteArray), 0, 0, 0⟩ : S72), (⟨(⟨#[105, 110]⟩ : ByteArray), 0, 0, 1⟩ : S72), (⟨(⟨#[99, 111, 110, 115, 116]⟩ : ByteArray), 0, 0, 0⟩ : S72)] : List (S72))) := ⟨_, rfl⟩
 replace H : (zam k y101 (([0, 1, 2, 2, 2, 2] : List Int)) l0 (l0.length : Int) 0) = some (r1, r2) := by first | (rw [hy101]; with_reducible exact H) | (have H2_ := (Option.bind_some _ _).symm.trans H; rw [hy101]; with_reducible exact H2_) | (have H2_ := (Option.bind_some _ _).symm.trans H; with_reducible exact H2_) | with_reducible exact H | (rw [hy101]; exact H) | exact H
 have Ny101 := zA hy101
 clear hy101
 obtain ⟨y104, hy104⟩ : ∃ y_ : List Int, y_ = (([0, 1, 2, 2, 2, 2] : List Int)) := ⟨_, rfl⟩
 replace H : (zam k y101 y104 l0 (l0.length : Int) 0) = some (r1, r2) := by first | (rw [hy104]; with_reducible exact H) | (have H2_ := (Option.bind_some _ _).symm.trans H; rw [hy104]; with_reducible exact H2_) | (have H2_ := (Option.bind_some _ _).symm.trans H; with_reducible exact H2_) | with_reducible exact H | (rw [hy104]; exact H) | exact H
 have Ny104 := zA hy104
 clear hy104
 have H' := zA H
 clear H
 go_enter Try.func113, Try.ntmps113
 go_wp2_with (first | ((with_reducible refine zar (N := 13) rfl ?_); refine Kd.R_lit k72 _ 72 ?hg (N := 13) ?hd (xs := ([(⟨(⟨#[105, 110]⟩ : ByteArray), 0, 0, 0⟩ : S72), (⟨(⟨#[105, 110]⟩ : ByteArray), 0, 0, 1⟩ : S72), (⟨(⟨#[99, 111, 110, 115, 116]⟩ : ByteArray), 0, 0, 0⟩ : S72)] : List (S72))) (inner := [.string (⟨#[105, 110]⟩ : ByteArray), .int .i64 0, .int .i64 0, .int .i64 0, .string (⟨#[105, 110]⟩ : ByteArray), .int .i64 0, .int .i64 0, .int .i64 1, .string (⟨#[99, 111, 110, 115, 116]⟩ : ByteArray), .int .i64 0, .int .i64 0, .int .i64 0]) (ok := fun _ => True) (okp := fun _ => True) ?hr ?hp (fun _ hk => hk) trivial (Below.refl _ _) (zlr _) (by simp) ?_; (case hd => rfl); (case hg => rfl); (case hr => go_simp <;> rfl); (case hp => exact (zmx (show Kd.M k72 _ _ _ (⟨(⟨#[105, 110]⟩ : ByteArray), 0, 0, 0⟩ : S72) [.string (⟨#[105, 110]⟩ : ByteArray), .int .i64 0, .int .i64 0, .int .i64 0] from (zfr _ _ _ (⟨(⟨#[105, 110]⟩ : ByteArray), 0, 0, 0⟩ : S72) )) (zmx (show Kd.M k72 _ _ _ (⟨(⟨#[105, 110]⟩ : ByteArray), 0, 0, 1⟩ : S72) [.string (⟨#[105, 110]⟩ : ByteArray), .int .i64 0, .int .i64 0, .int .i64 1] from (zfr _ _ _ (⟨(⟨#[105, 110]⟩ : ByteArray), 0, 0, 1⟩ : S72) )) (zmx (show Kd.M k72 _ _ _ (⟨(⟨#[99, 111, 110, 115, 116]⟩ : ByteArray), 0, 0, 0⟩ : S72) [.string (⟨#[99, 111, 110, 115, 116]⟩ : ByteArray), .int .i64 0, .int .i64 0, .int .i64 0] from (zfr _ _ _ (⟨(⟨#[99, 111, 110, 115, 116]⟩ : ByteArray), 0, 0, 0⟩ : S72) )) (Reps.none _ _))))); intro v102 w2 ho3 hb hg_ hnew_; clear hg_ hnew_; (first | rw [← Ny101.out] at ho3 | (simp only [Int.reduceToNat] at ho3; rw [← Ny101.out] at ho3)); have n0_ := zA (Kd.R_lower ho3 (za0 (by repeat (first | (with_reducible first | exact HB.out | apply zba | apply zbn | apply zbd) | exact HB.out)))); have n1_ := zA (zag (by repeat (first | (with_reducible first | exact HB.out | apply zba | apply zbn | apply zbd) | exact HB.out)) hb); clear HB; have HO103 := n0_; have HB := n1_; clear n0_ n1_; clear hb ho3) | ((with_reducible refine zar (N := 14) rfl ?_); refine Kd.R_lit (Kd.int .i64) _ 3 ?hg (N := 14) ?hd (xs := ([0, 1, 2, 2, 2, 2] : List Int)) (inner := [.int .i64 0, .int .i64 1, .int .i64 2, .int .i64 2, .int .i64 2, .int .i64 2]) (ok := fun _ => True) (okp := fun _ => True) ?hr ?hp (fun _ hk => hk) trivial (Below.refl _ _) (zlr _) (by simp) ?_; (case hd => rfl); (case hg => rfl); (case hr => go_simp <;> rfl); (case hp => exact (zcb (show Kd.M (Kd.int .i64) _ _ _ 0 [.int .i64 0] from rfl) (zcb (show Kd.M (Kd.int .i64) _ _ _ 1 [.int .i64 1] from rfl) (zcb (show Kd.M (Kd.int .i64) _ _ _ 2 [.int .i64 2] from rfl) (zcb (show Kd.M (Kd.int .i64) _ _ _ 2 [.int .i64 2] from rfl) (zcb (show Kd.M (Kd.int .i64) _ _ _ 2 [.int .i64 2] from rfl) (zcb (show Kd.M (Kd.int .i64) _ _ _ 2 [.int .i64 2] from rfl) (Reps.none _ _)))))))); intro v105 w4 ho5 hb hg_ hnew_; clear hg_ hnew_; (first | rw [← Ny104.out] at ho5 | (simp only [Int.reduceToNat] at ho5; rw [← Ny104.out] at ho5)); have n0_ := zA (zRb (by (with_reducible repeat (first | apply zRa | apply zRn | apply zRd)); exact HO103.out) hb); have n1_ := zA (Kd.R_lower ho5 (za0 (by repeat (first | (with_reducible first | exact HB.out | apply zba | apply zbn | apply zbd) | exact HB.out)))); have n2_ := zA (zag (by repeat (first | (with_reducible first | exact HB.out | apply zba | apply zbn | apply zbd) | exact HB.out)) hb); clear HO103 HB; have HO103 := n0_; have HO106 := n1_; have HB := n2_; clear n0_ n1_ n2_; clear hb ho5))
 go_loopg [4, 17] k (fun kq v4 v17 w' => ∃ (x4_1 : List (S72)) (x5_1 : List Int) (x17_1 : Int), v17 = .int .i64 x17_1 ∧ Aside0 (zam kq x4_1 x5_1 l0 (l0.length : Int) x17_1 = some (r1, r2)) ∧ Aside0 (kq ≤ k) ∧ Aside0 (Kd.R k72 72 w' w.heap.size (fun _ => True) v4 x4_1) ∧ Aside0 (Kd.R (Kd.int .i64) 3 w' w.heap.size (fun _ => True) v105 x5_1) ∧ Aside0 (Below w.heap.size w w'))
 case atStart => exact ⟨(y101), (y104), (0), (by first | rfl | (simp; done) | (simp [*]; done)), H', ⟨zlr _⟩, ⟨by (with_reducible repeat (first | apply zRa | apply zRn | apply zRd)); exact HO103.out⟩, ⟨by (with_reducible repeat (first | apply zRa | apply zRn | apply zRd)); exact HO106.out⟩, ⟨by repeat (first | (with_reducible first | exact HB.out | apply zba | apply zbn | apply zbd) | exact HB.out)⟩⟩
 clear H'
 try clear c1
 try clear p2
 try clear c4
 obtain ⟨x4_1, x5_1, x17_1, rfl, HA, HK1, HO_4, HO_5, HB⟩ := hrel
 cases gk with
 | zero => exact absurd HA.out (by simp [zam])
 | succ k1 =>
 have H := HA.out
 clear HA
 simp only [zam] at H
 by_cases c6 : x17_1 < (l0.length : Int)
 rotate_left
 · rw [if_neg c6] at H
   have c6b0 : decide (x17_1 < (l0.length : Int)) = false := zdf c6
   clear c6
   simp only [Option.some.injEq, Prod.mk.injEq] at H
   obtain ⟨rfl, rfl⟩ := H
   go_wp2
   go_ret2
   exact ⟨_, _, by first | rfl | (simp [zad, zae] <;> rfl) | (simp [*, zad, zae] <;> rfl), by (with_reducible repeat (first | apply zRa | apply zRn | apply zRd)); exact HO_4.out, by (with_reducible repeat (first | apply zRa | apply zRn | apply zRd)); exact HO_5.out, by repeat (first | (with_reducible first | exact HB.out | apply zba | apply zbn | apply zbd) | exact HB.out)⟩
 rw [if_pos c6] at H
 have c6b0 : decide (x17_1 < (l0.length : Int)) = true := zdt c6
 clear c6
 by_cases c7 : 0 ≤ x17_1
 rotate_left
 · rw [if_neg c7] at H
   exact absurd H (by simp)
 rw [if_pos c7] at H
 have c7b0 : decide (0 ≤ x17_1) = true := zdt c7
 clear c7
 by_cases c8 : x17_1 < (l0.length : Int)
 rotate_left
 · rw [if_neg c8] at H
   exact absurd H (by simp)
 rw [if_pos c8] at H
 have c8b0 : decide (x17_1 < (l0.length : Int)) = true := zdt c8
 clear c8
 by_cases c9 : ((zaa l0 x17_1).f0).toList = ([115, 101, 116] : List UInt8)
 · rw [if_pos c9] at H
   have c9b0 : (((zaa l0 x17_1).f0).toList == ([115, 101, 116] : List UInt8)) = true := beq_iff_eq.mpr c9
   have c9b1 : (((zaa l0 x17_1).f0).toList != ([115, 101, 116] : List UInt8)) = false := bne_eq_false_iff_eq.mpr c9
   clear c9
   replace H := zob H
   obtain ⟨⟨t110, t113⟩, A100, H⟩ := H
   replace H : (if 0 ≤ ((zaa l0 x17_1).f1) then (if ((zaa l0 x17_1).f1) < (x5_1.length : Int) then (zam k1 t110 (x5_1.set (((zaa l0 x17_1).f1) : Int).toNat t113) l0 (l0.length : Int) (wrap64 (x17_1 + 1))) else (none)) else (none)) = some (r1, r2) := H
   have A10 := zA A100
   clear A100
   by_cases c11 : 0 ≤ ((zaa l0 x17_1).f1)
   rotate_left
   · rw [if_neg c11] at H
     exact absurd H (by simp)
   rw [if_pos c11] at H
   have c11b0 : decide (0 ≤ ((zaa l0 x17_1).f1)) = true := zdt c11
   clear c11
   by_cases c12 : ((zaa l0 x17_1).f1) < (x5_1.length : Int)
   rotate_left
   · rw [if_neg c12] at H
     exact absurd H (by simp)
   rw [if_pos c12] at H
   have c12b0 : decide (((zaa l0 x17_1).f1) < (x5_1.length : Int)) = true := zdt c12
   clear c12
   obtain ⟨y114, hy114⟩ : ∃ y_ : List Int, y_ = (x5_1.set (((zaa l0 x17_1).f1) : Int).toNat t113) := ⟨_, rfl⟩
   replace H : (zam k1 t110 y114 l0 (l0.length : Int) (wrap64 (x17_1 + 1))) = some (r1, r2) := by first | (rw [hy114]; with_reducible exact H) | (have H2_ := (Option.bind_some _ _).symm.trans H; rw [hy114]; with_reducible exact H2_) | (have H2_ := (Option.bind_some _ _).symm.trans H; with_reducible exact H2_) | with_reducible exact H | (rw [hy114]; exact H) | exact H
   have Ny114 := zA hy114
   clear hy114
   have H' := zA H
   clear H
   have p107 : 0 ≤ (x17_1 : Int) := zde (by assumption)
   have q107 : x17_1 < (l0.length : Int) := zde (by assumption)
   obtain ⟨ad107, e107, hx107_0, hx107_1, hx107_2, hx107_3, hx107_4⟩ := ziv HR0.out x17_1 p107 q107
   cases e107
   replace hx107_0 := zkep HB.out hx107_0
   replace hx107_1 := zkep HB.out hx107_1
   replace hx107_2 := zkep HB.out hx107_2
   replace hx107_3 := zkep HB.out hx107_3
   replace hx107_4 := zkep HB.out hx107_4
   replace p107 := eq_true p107
   replace q107 := eq_true q107
   go_wp2_with (first | ((with_reducible refine zar (N := 7) rfl ?_); refine zat ?hg (N := 7) ?hd (cs := #[.string (⟨#[]⟩ : ByteArray), .int .i64 0, .int .i64 0, .int .i64 0, .int .i64 0]) (t := 94) ?hr ?_; (case hd => rfl); (case hg => rfl); (case hr => go_simp <;> rfl); intro gb108 hg w14 hbox hb; have n0_ := zA (zRb (by (with_reducible repeat (first | apply zRa | apply zRn | apply zRd)); exact HO_4.out) hb); have n1_ := zA (zRb (by (with_reducible repeat (first | apply zRa | apply zRn | apply zRd)); exact HO_5.out) hb); have zs := zpair (by repeat (first | (with_reducible first | exact HB.out | apply zba | apply zbn | apply zbd) | exact HB.out)) hb; have n2_ := zA (zs.1); have n3_ := zA (hbox); have n4_ := zA ((by rw [hg]; exact zs.2 : w.heap.size ≤ gb108)); have n5_ := n4_; clear HO_4 HO_5 HB; have HO_4 := n0_; have HO_5 := n1_; have HB := n2_; have BK108 := n3_; have GW108 := n4_; have GE108 := n5_; clear n0_ n1_ n2_ n3_ n4_ n5_; clear zs hb hbox hg; obtain ⟨hcz15_0, hcz15_1, hcz15_2, hcz15_3, hcz15_4⟩ := zc5 w14 (.string (⟨#[]⟩ : ByteArray)) (.int .i64 0) (.int .i64 0) (.int .i64 0) (.int .i64 0) BK108.out; obtain ⟨hfz15_0, hfz15_1, hfz15_2, hfz15_3, hfz15_4⟩ := zf5 BK108.out) | ((with_reducible refine zar (N := 8) rfl ?_); refine zat ?hg (N := 8) ?hd (cs := #[.string (⟨#[]⟩ : ByteArray), .int .i64 0, .int .i64 0, .int .i64 0]) (t := 72) ?hr ?_; (case hd => rfl); (case hg => rfl); (case hr => go_simp <;> rfl); intro gb109 hg w16 hbox hb; have n0_ := zA (zRb (Kd.R_elderB (by (with_reducible repeat (first | apply zRa | apply zRn | apply zRd)); exact (Kd.R_mono (Kd.R_far (p := ⟨gb108, 4, none⟩) (Kd.R_far (p := ⟨gb108, 3, none⟩) (Kd.R_far (p := ⟨gb108, 2, none⟩) (Kd.R_far (p := ⟨gb108, 1, none⟩) (Kd.R_far (p := ⟨gb108, 0, none⟩) (Kd.R_types HO_4.out BK108.out (by decide)) (fun _ hk => hk.2) (.string ((zaa l0 x17_1).f0))) (fun _ hk => hk.2) (.int .i64 ((zaa l0 x17_1).f1))) (fun _ hk => hk.2) (.int .i64 ((zaa l0 x17_1).f2))) (fun _ hk => hk.2) (.int .i64 ((zaa l0 x17_1).f3))) (fun _ hk => hk.2) (.int .i64 ((zaa l0 x17_1).f4))) (fun _ h_ => h_.1))) gb109 (Nat.le_of_eq hg.symm)) hb); have n1_ := zA (zRb (by (with_reducible repeat (first | apply zRa | apply zRn | apply zRd)); exact (Kd.R_mono (Kd.R_far (p := ⟨gb108, 4, none⟩) (Kd.R_far (p := ⟨gb108, 3, none⟩) (Kd.R_far (p := ⟨gb108, 2, none⟩) (Kd.R_far (p := ⟨gb108, 1, none⟩) (Kd.R_far (p := ⟨gb108, 0, none⟩) (Kd.R_types HO_5.out BK108.out (by decide)) (fun _ hk => hk.2) (.string ((zaa l0 x17_1).f0))) (fun _ hk => hk.2) (.int .i64 ((zaa l0 x17_1).f1))) (fun _ hk => hk.2) (.int .i64 ((zaa l0 x17_1).f2))) (fun _ hk => hk.2) (.int .i64 ((zaa l0 x17_1).f3))) (fun _ hk => hk.2) (.int .i64 ((zaa l0 x17_1).f4))) (fun _ h_ => h_.1))) hb); have n2_ := zA (zaj (g := gb108) (o := .cells #[.string ((zaa l0 x17_1).f0), .int .i64 ((zaa l0 x17_1).f1), .int .i64 ((zaa l0 x17_1).f2), .int .i64 ((zaa l0 x17_1).f3), .int .i64 ((zaa l0 x17_1).f4)] 94 (0, 0)) (by (with_reducible repeat (first | refine zkn ?_ _ | refine zkd ?_ | refine zka ?_ _)); refine zan (cs := #[.string ((zaa l0 x17_1).f0), .int .i64 ((zaa l0 x17_1).f1), .int .i64 ((zaa l0 x17_1).f2), .int .i64 ((zaa l0 x17_1).f3), .int .i64 0]) ?_ 4 _ rfl; (with_reducible repeat (first | refine zkn ?_ _ | refine zkd ?_ | refine zka ?_ _)); refine zan (cs := #[.string ((zaa l0 x17_1).f0), .int .i64 ((zaa l0 x17_1).f1), .int .i64 ((zaa l0 x17_1).f2), .int .i64 0, .int .i64 0]) ?_ 3 _ rfl; (with_reducible repeat (first | refine zkn ?_ _ | refine zkd ?_ | refine zka ?_ _)); refine zan (cs := #[.string ((zaa l0 x17_1).f0), .int .i64 ((zaa l0 x17_1).f1), .int .i64 0, .int .i64 0, .int .i64 0]) ?_ 2 _ rfl; (with_reducible repeat (first | refine zkn ?_ _ | refine zkd ?_ | refine zka ?_ _)); refine zan (cs := #[.string ((zaa l0 x17_1).f0), .int .i64 0, .int .i64 0, .int .i64 0, .int .i64 0]) ?_ 1 _ rfl; (with_reducible repeat (first | refine zkn ?_ _ | refine zkd ?_ | refine zka ?_ _)); refine zan (cs := #[.string (⟨#[]⟩ : ByteArray), .int .i64 0, .int .i64 0, .int .i64 0, .int .i64 0]) ?_ 0 _ rfl; (with_reducible repeat (first | refine zkn ?_ _ | refine zkd ?_ | refine zka ?_ _)); exact BK108.out) hb); have zs := zpair (by repeat (first | (with_reducible first | exact HB.out | apply zba | apply zbn | apply zbd | refine zab ?_ GE108.out) | exact HB.out)) hb; have n3_ := zA (zs.1); have n4_ := zA (hbox); have n5_ := zA ((by rw [hg]; exact zs.2 : w.heap.size ≤ gb109)); have n6_ := n5_; have n7_ := zA ((by rw [hg]; exact Nat.ne_of_lt (zlq (o' := .cells #[.string ((zaa l0 x17_1).f0), .int .i64 ((zaa l0 x17_1).f1), .int .i64 ((zaa l0 x17_1).f2), .int .i64 ((zaa l0 x17_1).f3), .int .i64 ((zaa l0 x17_1).f4)] 94 (0, 0)) BK108.out (fun h => by (with_reducible repeat (first | refine zkn ?_ _ | refine zkd ?_ | refine zka ?_ _)); refine zan (cs := #[.string ((zaa l0 x17_1).f0), .int .i64 ((zaa l0 x17_1).f1), .int .i64 ((zaa l0 x17_1).f2), .int .i64 ((zaa l0 x17_1).f3), .int .i64 0]) ?_ 4 _ rfl; (with_reducible repeat (first | refine zkn ?_ _ | refine zkd ?_ | refine zka ?_ _)); refine zan (cs := #[.string ((zaa l0 x17_1).f0), .int .i64 ((zaa l0 x17_1).f1), .int .i64 ((zaa l0 x17_1).f2), .int .i64 0, .int .i64 0]) ?_ 3 _ rfl; (with_reducible repeat (first | refine zkn ?_ _ | refine zkd ?_ | refine zka ?_ _)); refine zan (cs := #[.string ((zaa l0 x17_1).f0), .int .i64 ((zaa l0 x17_1).f1), .int .i64 0, .int .i64 0, .int .i64 0]) ?_ 2 _ rfl; (with_reducible repeat (first | refine zkn ?_ _ | refine zkd ?_ | refine zka ?_ _)); refine zan (cs := #[.string ((zaa l0 x17_1).f0), .int .i64 0, .int .i64 0, .int .i64 0, .int .i64 0]) ?_ 1 _ rfl; (with_reducible repeat (first | refine zkn ?_ _ | refine zkd ?_ | refine zka ?_ _)); refine zan (cs := #[.string (⟨#[]⟩ : ByteArray), .int .i64 0, .int .i64 0, .int .i64 0, .int .i64 0]) ?_ 0 _ rfl; (with_reducible repeat (first | refine zkn ?_ _ | refine zkd ?_ | refine zka ?_ _)); exact h)) : gb108 ≠ gb109)); have n8_ := zA ((by rw [hg]; exact Nat.ne_of_gt (zlq (o' := .cells #[.string ((zaa l0 x17_1).f0), .int .i64 ((zaa l0 x17_1).f1), .int .i64 ((zaa l0 x17_1).f2), .int .i64 ((zaa l0 x17_1).f3), .int .i64 ((zaa l0 x17_1).f4)] 94 (0, 0)) BK108.out (fun h => by (with_reducible repeat (first | refine zkn ?_ _ | refine zkd ?_ | refine zka ?_ _)); refine zan (cs := #[.string ((zaa l0 x17_1).f0), .int .i64 ((zaa l0 x17_1).f1), .int .i64 ((zaa l0 x17_1).f2), .int .i64 ((zaa l0 x17_1).f3), .int .i64 0]) ?_ 4 _ rfl; (with_reducible repeat (first | refine zkn ?_ _ | refine zkd ?_ | refine zka ?_ _)); refine zan (cs := #[.string ((zaa l0 x17_1).f0), .int .i64 ((zaa l0 x17_1).f1), .int .i64 ((zaa l0 x17_1).f2), .int .i64 0, .int .i64 0]) ?_ 3 _ rfl; (with_reducible repeat (first | refine zkn ?_ _ | refine zkd ?_ | refine zka ?_ _)); refine zan (cs := #[.string ((zaa l0 x17_1).f0), .int .i64 ((zaa l0 x17_1).f1), .int .i64 0, .int .i64 0, .int .i64 0]) ?_ 2 _ rfl; (with_reducible repeat (first | refine zkn ?_ _ | refine zkd ?_ | refine zka ?_ _)); refine zan (cs := #[.string ((zaa l0 x17_1).f0), .int .i64 0, .int .i64 0, .int .i64 0, .int .i64 0]) ?_ 1 _ rfl; (with_reducible repeat (first | refine zkn ?_ _ | refine zkd ?_ | refine zka ?_ _)); refine zan (cs := #[.string (⟨#[]⟩ : ByteArray), .int .i64 0, .int .i64 0, .int .i64 0, .int .i64 0]) ?_ 0 _ rfl; (with_reducible repeat (first | refine zkn ?_ _ | refine zkd ?_ | refine zka ?_ _)); exact h)) : gb109 ≠ gb108)); clear HO_4 HO_5; clear BK108 HB; have HO_4 := n0_; have HO_5 := n1_; have BK108 := n2_; have HB := n3_; have BK109 := n4_; have GW109 := n5_; have GE109 := n6_; have NB108_109 := n7_; have NB109_108 := n8_; clear n0_ n1_ n2_ n3_ n4_ n5_ n6_ n7_ n8_; clear zs hb hbox hg; have hnb17 := NB109_108.out; have hnc17 := NB108_109.out; obtain ⟨hcz18_0, hcz18_1, hcz18_2, hcz18_3⟩ := zc4 w16 (.string (⟨#[]⟩ : ByteArray)) (.int .i64 0) (.int .i64 0) (.int .i64 0) BK109.out; obtain ⟨hfz18_0, hfz18_1, hfz18_2, hfz18_3⟩ := zf4 BK109.out) | ((with_reducible refine zbk (t := 72) (p := 8) rfl ?_); refine zbj (t := 72) (p := 8) (v := ?vo_w19) (w1 := ((((w16.setCell ⟨gb109, 0, none⟩ (.string (⟨#[99, 111, 110, 115, 116]⟩ : ByteArray))).setCell ⟨gb109, 1, none⟩ (.int .i64 0)).setCell ⟨gb109, 2, none⟩ (.int .i64 0)).setCell ⟨gb109, 3, none⟩ (.int .i64 ((zaa l0 x17_1).f4)))) ?hg ?ho ?hn ?hr ?_; (case ho => rfl); (case hg => rfl); (case hn => rfl); (case hr => go_simp <;> rfl); intro w19 hw; have n0_ : Aside0 (Kd.R k72 72 w19 w.heap.size (fun k_ => k_ ≠ gb109) u4 x4_1) := ⟨(by rw [hw]; exact (by (with_reducible repeat (first | apply zRa | apply zRn | apply zRd)); exact Kd.R_mono (Kd.R_far (p := ⟨gb109, 3, none⟩) (Kd.R_far (p := ⟨gb109, 2, none⟩) (Kd.R_far (p := ⟨gb109, 1, none⟩) (Kd.R_far (p := ⟨gb109, 0, none⟩) (Kd.R_mono HO_4.out (fun k_ hk => (⟨hk, hk.2⟩ : _ ∧ k_ ≠ gb109))) (fun _ hk => hk.2) (.string (⟨#[99, 111, 110, 115, 116]⟩ : ByteArray))) (fun _ hk => hk.2) (.int .i64 0)) (fun _ hk => hk.2) (.int .i64 0)) (fun _ hk => hk.2) (.int .i64 ((zaa l0 x17_1).f4))) (fun _ hk => hk.1.2)))⟩; have n1_ : Aside0 (Kd.R (Kd.int .i64) 3 w19 w.heap.size (fun _ => True) v105 x5_1) := ⟨(by rw [hw]; exact (by (with_reducible repeat (first | apply zRa | apply zRn | apply zRd)); exact Kd.R_mono (Kd.R_far (p := ⟨gb109, 3, none⟩) (Kd.R_far (p := ⟨gb109, 2, none⟩) (Kd.R_far (p := ⟨gb109, 1, none⟩) (Kd.R_far (p := ⟨gb109, 0, none⟩) (Kd.R_types HO_5.out BK109.out (by decide)) (fun _ hk => hk.2) (.string (⟨#[99, 111, 110, 115, 116]⟩ : ByteArray))) (fun _ hk => hk.2) (.int .i64 0)) (fun _ hk => hk.2) (.int .i64 0)) (fun _ hk => hk.2) (.int .i64 ((zaa l0 x17_1).f4))) (fun _ hk => trivial)))⟩; have n2_ : Aside0 (w19.heap[gb108]? = some (.cells #[.string ((zaa l0 x17_1).f0), .int .i64 ((zaa l0 x17_1).f1), .int .i64 ((zaa l0 x17_1).f2), .int .i64 ((zaa l0 x17_1).f3), .int .i64 ((zaa l0 x17_1).f4)] 94 (0, 0))) := ⟨(by rw [hw]; exact (by (with_reducible repeat (first | refine zkn ?_ _ | refine zkd ?_ | refine zka ?_ _)); refine zav ?_ NB108_109.out _; (with_reducible repeat (first | refine zkn ?_ _ | refine zkd ?_ | refine zka ?_ _)); refine zav ?_ NB108_109.out _; (with_reducible repeat (first | refine zkn ?_ _ | refine zkd ?_ | refine zka ?_ _)); refine zav ?_ NB108_109.out _; (with_reducible repeat (first | refine zkn ?_ _ | refine zkd ?_ | refine zka ?_ _)); refine zav ?_ NB108_109.out _; (with_reducible repeat (first | refine zkn ?_ _ | refine zkd ?_ | refine zka ?_ _)); exact BK108.out))⟩; have n3_ : Aside0 (w19.heap[gb109]? = some (.cells #[.string (⟨#[99, 111, 110, 115, 116]⟩ : ByteArray), .int .i64 0, .int .i64 0, .int .i64 ((zaa l0 x17_1).f4)] 72 (0, 0))) := ⟨(by rw [hw]; exact (by (with_reducible repeat (first | refine zkn ?_ _ | refine zkd ?_ | refine zka ?_ _)); refine zan (cs := #[.string (⟨#[99, 111, 110, 115, 116]⟩ : ByteArray), .int .i64 0, .int .i64 0, .int .i64 0]) ?_ 3 _ rfl; (with_reducible repeat (first | refine zkn ?_ _ | refine zkd ?_ | refine zka ?_ _)); refine zan (cs := #[.string (⟨#[99, 111, 110, 115, 116]⟩ : ByteArray), .int .i64 0, .int .i64 0, .int .i64 0]) ?_ 2 _ rfl; (with_reducible repeat (first | refine zkn ?_ _ | refine zkd ?_ | refine zka ?_ _)); refine zan (cs := #[.string (⟨#[99, 111, 110, 115, 116]⟩ : ByteArray), .int .i64 0, .int .i64 0, .int .i64 0]) ?_ 1 _ rfl; (with_reducible repeat (first | refine zkn ?_ _ | refine zkd ?_ | refine zka ?_ _)); refine zan (cs := #[.string (⟨#[]⟩ : ByteArray), .int .i64 0, .int .i64 0, .int .i64 0]) ?_ 0 _ rfl; (with_reducible repeat (first | refine zkn ?_ _ | refine zkd ?_ | refine zka ?_ _)); exact BK109.out))⟩; have n4_ : Aside0 (Below w.heap.size w w19) := ⟨(by rw [hw]; exact (by repeat (first | (with_reducible first | exact HB.out | apply zba | apply zbn | apply zbd | refine zab ?_ GE108.out | refine zab ?_ GE109.out) | exact HB.out)))⟩; clear hw; clear HO_4 HO_5; clear BK108 BK109 HB; have HO_4 := n0_; have HO_5 := n1_; have BK108 := n2_; have BK109 := n3_; have HB := n4_; clear n0_ n1_ n2_ n3_ n4_; obtain ⟨hcz20_0, hcz20_1, hcz20_2, hcz20_3, hcz20_4⟩ := zc5 w19 (.string ((zaa l0 x17_1).f0)) (.int .i64 ((zaa l0 x17_1).f1)) (.int .i64 ((zaa l0 x17_1).f2)) (.int .i64 ((zaa l0 x17_1).f3)) (.int .i64 ((zaa l0 x17_1).f4)) BK108.out; obtain ⟨hfz20_0, hfz20_1, hfz20_2, hfz20_3, hfz20_4⟩ := zf5 BK108.out; obtain ⟨hcz21_0, hcz21_1, hcz21_2, hcz21_3⟩ := zc4 w19 (.string (⟨#[99, 111, 110, 115, 116]⟩ : ByteArray)) (.int .i64 0) (.int .i64 0) (.int .i64 ((zaa l0 x17_1).f4)) BK109.out; obtain ⟨hfz21_0, hfz21_1, hfz21_2, hfz21_3⟩ := zf4 BK109.out; obtain ⟨Ao22, co22, eo22⟩ := Kd.R_slice HO_4.out; subst eo22) | ((with_reducible refine zah (f := 164) rfl ?_); refine za3 (some 49) rfl rfl Try.func164 (by kernel_rfl) rfl #[.slice Ao22 x4_1.length co22, .agg #[.string (⟨#[99, 111, 110, 115, 116]⟩ : ByteArray), .int .i64 0, .int .i64 0, .int .i64 ((zaa l0 x17_1).f4)]] rfl (by (try simp only [List.map_toArray, List.map_cons, List.map_nil]); first | done | rfl | (simp only [List.length_drop, List.length_take]; rfl)) ?_; (with_reducible refine (zdr (fun k_ => some k_ = (.slice Ao22 x4_1.length co22 : Value).ownBlock) (.slice Ao22 x4_1.length co22) x4_1 (⟨#[99, 111, 110, 115, 116]⟩ : ByteArray) 0 0 ((zaa l0 x17_1).f4) t110 t113 w _ ?side1 ?side2 A10.out).mono ?_); (case side1 => repeat (first | (with_reducible first | exact HB.out | apply zba | apply zbn | apply zbd | refine zab ?_ GE108.out | refine zab ?_ GE109.out) | exact HB.out)); (case side2 => exact Kd.R_tight rfl HO_4.out); rintro e w23 ⟨v111, rfl, ho0, hb, hkp⟩; refine ⟨_, rfl, ?_⟩; have n0_ := zA (Kd.R_mono (ok' := fun k_ => True) (Kd.R_keptB ((Kd.R_apart' HO_5.out (Kd.R_typed HO_4.out) (by decide))) hkp (fun k_ hk_ hs_ => (hk_.2) hs_)) (fun k_ hk_ => trivial)); have n1_ := zA (ze3 (by (with_reducible repeat (first | refine zkn ?_ _ | refine zkd ?_ | refine zka ?_ _)); exact BK108.out) hkp (fun hs_ => (fun e_ => (Kd.R_ne HO_4.out BK108.out (by decide)) e_) hs_)); have n2_ := zA (ze3 (by (with_reducible repeat (first | refine zkn ?_ _ | refine zkd ?_ | refine zka ?_ _)); exact BK109.out) hkp (fun hs_ => (fun e_ => (Kd.R_away HO_4.out (fun _ hk => hk)) e_) hs_)); have n3_ := zA (Kd.R_mono (ok' := fun k_ => k_ ≠ gb109) ho0 (fun k_ hk_ => Or.elim hk_ (fun hs_ => fun e_ => (Kd.R_away HO_4.out (fun _ hk => hk)) (by rw [← e_]; exact hs_)) (fun hn_ => (Kd.freshB (g := gb109) (o := .cells #[.string (⟨#[99, 111, 110, 115, 116]⟩ : ByteArray), .int .i64 0, .int .i64 0, .int .i64 ((zaa l0 x17_1).f4)] 72 (0, 0)) (by (with_reducible repeat (first | refine zkn ?_ _ | refine zkd ?_ | refine zka ?_ _)); exact BK109.out) k_ hn_)))); have n4_ := zA (hb); clear HO_5 BK108; clear BK109 HB HO_4; have HO_5 := n0_; have BK108 := n1_; have BK109 := n2_; have HO112 := n3_; have HB := n4_; clear n0_ n1_ n2_ n3_ n4_; (try clear hb); (try clear hkp); (try clear ho0); obtain ⟨hcz24_0, hcz24_1, hcz24_2, hcz24_3, hcz24_4⟩ := zc5 w23 (.string ((zaa l0 x17_1).f0)) (.int .i64 ((zaa l0 x17_1).f1)) (.int .i64 ((zaa l0 x17_1).f2)) (.int .i64 ((zaa l0 x17_1).f3)) (.int .i64 ((zaa l0 x17_1).f4)) BK108.out; obtain ⟨hfz24_0, hfz24_1, hfz24_2, hfz24_3, hfz24_4⟩ := zf5 BK108.out; have p13 : 0 ≤ (((zaa l0 x17_1).f1) : Int) := zde (by assumption); have q13 : (((zaa l0 x17_1).f1) : Int) < ((x5_1.length : Int) : Int) := zde (by assumption); obtain ⟨go13, co13, eo13, gb13, gl13, cl13, HG13⟩ := Kd.R_form HO_5.out (by omega); (first | cases eo13 | (injection eo13 with ea_ en_ ec_; (first | subst ea_ | (injection ea_ with ea_; subst ea_)); subst ec_; clear en_)); have GB13 := zA gb13; have GG13 := zA HG13; clear gb13 gl13 HG13; obtain ⟨hx13_0, hf13_0⟩ := Kd.R_celln 0 HO_5.out (((zaa l0 x17_1).f1) : Int) p13 q13; replace p13 := eq_true p13; replace q13 := eq_true q13; obtain ⟨hy25_, hz25_⟩ := Kd.R_celln 0 HO_5.out (((zaa l0 x17_1).f1) : Int) (zde (by assumption)) (zde (by assumption)); have HP25 := Kd.R_putg HO_5.out (((zaa l0 x17_1).f1) : Int) t113) | ((with_reducible refine zbk (t := 3) (p := 142) rfl ?_); refine zbj (t := 3) (p := 142) (v := ?vo_w26) (w1 := (w23.setCell ⟨go13, (((zaa l0 x17_1).f1) : Int).toNat, none⟩ (.int .i64 t113))) ?hg ?ho ?hn ?hr ?_; (case ho => rfl); (case hg => rfl); (case hn => rfl); (case hr => go_simp <;> rfl); intro w26 hw; have hg : w23.grownBy w26 (some go13) := (by rw [hw]; exact HP25.2); have hp_ : Kd.R (Kd.int .i64) 3 w26 w.heap.size (fun _ => True) (.slice (some ⟨go13, 0, none⟩) x5_1.length co13) y114 := (by rw [hw, Ny114.out]; exact HP25.1); clear HP25; have n0_ := zA (hp_); have n1_ := zA (zed (g := gb108) (o := .cells #[.string ((zaa l0 x17_1).f0), .int .i64 ((zaa l0 x17_1).f1), .int .i64 ((zaa l0 x17_1).f2), .int .i64 ((zaa l0 x17_1).f3), .int .i64 ((zaa l0 x17_1).f4)] 94 (0, 0)) (by (with_reducible repeat (first | refine zkn ?_ _ | refine zkd ?_ | refine zka ?_ _)); exact BK108.out) hg (Kd.R_ne HO_5.out BK108.out (by decide))); have n2_ := zA (zed (g := gb109) (o := .cells #[.string (⟨#[99, 111, 110, 115, 116]⟩ : ByteArray), .int .i64 0, .int .i64 0, .int .i64 ((zaa l0 x17_1).f4)] 72 (0, 0)) (by (with_reducible repeat (first | refine zkn ?_ _ | refine zkd ?_ | refine zka ?_ _)); exact BK109.out) hg (Kd.R_ne HO_5.out BK109.out (by decide))); have n3_ := zA (Kd.R_over' (v := (.slice (some ⟨go13, 0, none⟩) x5_1.length co13)) (by (with_reducible repeat (first | apply zRa | apply zRn | apply zRd)); exact HO112.out) (Kd.R_typed HO_5.out) (by decide) hg); have n4_ := zA ((by rw [hw]; exact zab (HB.out) GB13.out : Below w.heap.size w w26)); clear HO_5 BK108; clear BK109 HO112 HB; have HO_5 := n0_; have BK108 := n1_; have BK109 := n2_; have HO112 := n3_; have HB := n4_; clear n0_ n1_ n2_ n3_ n4_; clear hg hw hp_))
   go_roundg k1
   case measure => have := HK1.out; omega
   case rel => exact ⟨(t110), (y114), (wrap64 (x17_1 + 1)), (by first | rfl | (simp; done) | (simp [*]; done)), H', ⟨by have := HK1.out; omega⟩, ⟨by (with_reducible repeat (first | apply zRa | apply zRn | apply zRd)); exact Kd.R_mono HO112.out (fun _ hk => trivial)⟩, ⟨by (with_reducible repeat (first | apply zRa | apply zRn | apply zRd)); exact HO_5.out⟩, ⟨by repeat (first | (with_reducible first | exact HB.out | apply zba | apply zbn | apply zbd | refine zab ?_ GE108.out | refine zab ?_ GE109.out) | exact HB.out)⟩⟩
 rw [if_neg c9] at H
 have c9b0 : (((zaa l0 x17_1).f0).toList == ([115, 101, 116] : List UInt8)) = false := beq_eq_false_iff_ne.mpr c9
 have c9b1 : (((zaa l0 x17_1).f0).toList != ([115, 101, 116] : List UInt8)) = true := bne_iff_ne.mpr c9
 by_cases c27 : ((zaa l0 x17_1).f0).toList = ([109, 111, 118] : List UInt8)
 · rw [if_pos c27] at H
   have c27b0 : (((zaa l0 x17_1).f0).toList == ([109, 111, 118] : List UInt8)) = true := beq_iff_eq.mpr c27
   have c27b1 : (((zaa l0 x17_1).f0).toList != ([109, 111, 118] : List UInt8)) = false := bne_eq_false_iff_eq.mpr c27
   clear c27
   by_cases c28 : 0 ≤ ((zaa l0 x17_1).f2)
   rotate_left
   · rw [if_neg c28] at H
     exact absurd H (by simp)
   rw [if_pos c28] at H
   have c28b0 : decide (0 ≤ ((zaa l0 x17_1).f2)) = true := zdt c28
   clear c28
   by_cases c29 : ((zaa l0 x17_1).f2) < (x5_1.length : Int)
   rotate_left
   · rw [if_neg c29] at H
     exact absurd H (by simp)
   rw [if_pos c29] at H
   have c29b0 : decide (((zaa l0 x17_1).f2) < (x5_1.length : Int)) = true := zdt c29
   clear c29
   by_cases c30 : 0 ≤ ((zaa l0 x17_1).f1)
   rotate_left
   · rw [if_neg c30] at H
     exact absurd H (by simp)
   rw [if_pos c30] at H
   have c30b0 : decide (0 ≤ ((zaa l0 x17_1).f1)) = true := zdt c30
   clear c30
   by_cases c31 : ((zaa l0 x17_1).f1) < (x5_1.length : Int)
   rotate_left
   · rw [if_neg c31] at H
     exact absurd H (by simp)
   rw [if_pos c31] at H
   have c31b0 : decide (((zaa l0 x17_1).f1) < (x5_1.length : Int)) = true := zdt c31
   clear c31
   obtain ⟨y116, hy116⟩ : ∃ y_ : List Int, y_ = (x5_1.set (((zaa l0 x17_1).f1) : Int).toNat (rd x5_1 ((zaa l0 x17_1).f2))) := ⟨_, rfl⟩
   replace H : (zam k1 x4_1 y116 l0 (l0.length : Int) (wrap64 (x17_1 + 1))) = some (r1, r2) := by first | (rw [hy116]; with_reducible exact H) | (have H2_ := (Option.bind_some _ _).symm.trans H; rw [hy116]; with_reducible exact H2_) | (have H2_ := (Option.bind_some _ _).symm.trans H; with_reducible exact H2_) | with_reducible exact H | (rw [hy116]; exact H) | exact H
   have Ny116 := zA hy116
   clear hy116
   have H' := zA H
   clear H
   have p107 : 0 ≤ (x17_1 : Int) := zde (by assumption)
   have q107 : x17_1 < (l0.length : Int) := zde (by assumption)
   obtain ⟨ad107, e107, hx107_0, hx107_1, hx107_2, hx107_3, hx107_4⟩ := ziv HR0.out x17_1 p107 q107
   cases e107
   replace hx107_0 := zkep HB.out hx107_0
   replace hx107_1 := zkep HB.out hx107_1
   replace hx107_2 := zkep HB.out hx107_2
   replace hx107_3 := zkep HB.out hx107_3
   replace hx107_4 := zkep HB.out hx107_4
   replace p107 := eq_true p107
   replace q107 := eq_true q107
   go_wp2_with (first | ((with_reducible refine zar (N := 7) rfl ?_); refine zat ?hg (N := 7) ?hd (cs := #[.string (⟨#[]⟩ : ByteArray), .int .i64 0, .int .i64 0, .int .i64 0, .int .i64 0]) (t := 94) ?hr ?_; (case hd => rfl); (case hg => rfl); (case hr => go_simp <;> rfl); intro gb108 hg w33 hbox hb; have n0_ := zA (zRb (by (with_reducible repeat (first | apply zRa | apply zRn | apply zRd)); exact HO_4.out) hb); have n1_ := zA (zRb (by (with_reducible repeat (first | apply zRa | apply zRn | apply zRd)); exact HO_5.out) hb); have zs := zpair (by repeat (first | (with_reducible first | exact HB.out | apply zba | apply zbn | apply zbd) | exact HB.out)) hb; have n2_ := zA (zs.1); have n3_ := zA (hbox); have n4_ := zA ((by rw [hg]; exact zs.2 : w.heap.size ≤ gb108)); have n5_ := n4_; clear HO_4 HO_5 HB; have HO_4 := n0_; have HO_5 := n1_; have HB := n2_; have BK108 := n3_; have GW108 := n4_; have GE108 := n5_; clear n0_ n1_ n2_ n3_ n4_ n5_; clear zs hb hbox hg; obtain ⟨hcz34_0, hcz34_1, hcz34_2, hcz34_3, hcz34_4⟩ := zc5 w33 (.string (⟨#[]⟩ : ByteArray)) (.int .i64 0) (.int .i64 0) (.int .i64 0) (.int .i64 0) BK108.out; obtain ⟨hfz34_0, hfz34_1, hfz34_2, hfz34_3, hfz34_4⟩ := zf5 BK108.out) | ((with_reducible refine zar (N := 8) rfl ?_); refine zat ?hg (N := 8) ?hd (cs := #[.string (⟨#[]⟩ : ByteArray), .int .i64 0, .int .i64 0, .int .i64 0]) (t := 72) ?hr ?_; (case hd => rfl); (case hg => rfl); (case hr => go_simp <;> rfl); intro gb109 hg w35 hbox hb; have n0_ := zA (zRb (Kd.R_elderB (by (with_reducible repeat (first | apply zRa | apply zRn | apply zRd)); exact (Kd.R_mono (Kd.R_far (p := ⟨gb108, 4, none⟩) (Kd.R_far (p := ⟨gb108, 3, none⟩) (Kd.R_far (p := ⟨gb108, 2, none⟩) (Kd.R_far (p := ⟨gb108, 1, none⟩) (Kd.R_far (p := ⟨gb108, 0, none⟩) (Kd.R_types HO_4.out BK108.out (by decide)) (fun _ hk => hk.2) (.string ((zaa l0 x17_1).f0))) (fun _ hk => hk.2) (.int .i64 ((zaa l0 x17_1).f1))) (fun _ hk => hk.2) (.int .i64 ((zaa l0 x17_1).f2))) (fun _ hk => hk.2) (.int .i64 ((zaa l0 x17_1).f3))) (fun _ hk => hk.2) (.int .i64 ((zaa l0 x17_1).f4))) (fun _ h_ => h_.1))) gb109 (Nat.le_of_eq hg.symm)) hb); have n1_ := zA (zRb (by (with_reducible repeat (first | apply zRa | apply zRn | apply zRd)); exact (Kd.R_mono (Kd.R_far (p := ⟨gb108, 4, none⟩) (Kd.R_far (p := ⟨gb108, 3, none⟩) (Kd.R_far (p := ⟨gb108, 2, none⟩) (Kd.R_far (p := ⟨gb108, 1, none⟩) (Kd.R_far (p := ⟨gb108, 0, none⟩) (Kd.R_types HO_5.out BK108.out (by decide)) (fun _ hk => hk.2) (.string ((zaa l0 x17_1).f0))) (fun _ hk => hk.2) (.int .i64 ((zaa l0 x17_1).f1))) (fun _ hk => hk.2) (.int .i64 ((zaa l0 x17_1).f2))) (fun _ hk => hk.2) (.int .i64 ((zaa l0 x17_1).f3))) (fun _ hk => hk.2) (.int .i64 ((zaa l0 x17_1).f4))) (fun _ h_ => h_.1))) hb); have n2_ := zA (zaj (g := gb108) (o := .cells #[.string ((zaa l0 x17_1).f0), .int .i64 ((zaa l0 x17_1).f1), .int .i64 ((zaa l0 x17_1).f2), .int .i64 ((zaa l0 x17_1).f3), .int .i64 ((zaa l0 x17_1).f4)] 94 (0, 0)) (by (with_reducible repeat (first | refine zkn ?_ _ | refine zkd ?_ | refine zka ?_ _)); refine zan (cs := #[.string ((zaa l0 x17_1).f0), .int .i64 ((zaa l0 x17_1).f1), .int .i64 ((zaa l0 x17_1).f2), .int .i64 ((zaa l0 x17_1).f3), .int .i64 0]) ?_ 4 _ rfl; (with_reducible repeat (first | refine zkn ?_ _ | refine zkd ?_ | refine zka ?_ _)); refine zan (cs := #[.string ((zaa l0 x17_1).f0), .int .i64 ((zaa l0 x17_1).f1), .int .i64 ((zaa l0 x17_1).f2), .int .i64 0, .int .i64 0]) ?_ 3 _ rfl; (with_reducible repeat (first | refine zkn ?_ _ | refine zkd ?_ | refine zka ?_ _)); refine zan (cs := #[.string ((zaa l0 x17_1).f0), .int .i64 ((zaa l0 x17_1).f1), .int .i64 0, .int .i64 0, .int .i64 0]) ?_ 2 _ rfl; (with_reducible repeat (first | refine zkn ?_ _ | refine zkd ?_ | refine zka ?_ _)); refine zan (cs := #[.string ((zaa l0 x17_1).f0), .int .i64 0, .int .i64 0, .int .i64 0, .int .i64 0]) ?_ 1 _ rfl; (with_reducible repeat (first | refine zkn ?_ _ | refine zkd ?_ | refine zka ?_ _)); refine zan (cs := #[.string (⟨#[]⟩ : ByteArray), .int .i64 0, .int .i64 0, .int .i64 0, .int .i64 0]) ?_ 0 _ rfl; (with_reducible repeat (first | refine zkn ?_ _ | refine zkd ?_ | refine zka ?_ _)); exact BK108.out) hb); have zs := zpair (by repeat (first | (with_reducible first | exact HB.out | apply zba | apply zbn | apply zbd | refine zab ?_ GE108.out) | exact HB.out)) hb; have n3_ := zA (zs.1); have n4_ := zA (hbox); have n5_ := zA ((by rw [hg]; exact zs.2 : w.heap.size ≤ gb109)); have n6_ := n5_; have n7_ := zA ((by rw [hg]; exact Nat.ne_of_lt (zlq (o' := .cells #[.string ((zaa l0 x17_1).f0), .int .i64 ((zaa l0 x17_1).f1), .int .i64 ((zaa l0 x17_1).f2), .int .i64 ((zaa l0 x17_1).f3), .int .i64 ((zaa l0 x17_1).f4)] 94 (0, 0)) BK108.out (fun h => by (with_reducible repeat (first | refine zkn ?_ _ | refine zkd ?_ | refine zka ?_ _)); refine zan (cs := #[.string ((zaa l0 x17_1).f0), .int .i64 ((zaa l0 x17_1).f1), .int .i64 ((zaa l0 x17_1).f2), .int .i64 ((zaa l0 x17_1).f3), .int .i64 0]) ?_ 4 _ rfl; (with_reducible repeat (first | refine zkn ?_ _ | refine zkd ?_ | refine zka ?_ _)); refine zan (cs := #[.string ((zaa l0 x17_1).f0), .int .i64 ((zaa l0 x17_1).f1), .int .i64 ((zaa l0 x17_1).f2), .int .i64 0, .int .i64 0]) ?_ 3 _ rfl; (with_reducible repeat (first | refine zkn ?_ _ | refine zkd ?_ | refine zka ?_ _)); refine zan (cs := #[.string ((zaa l0 x17_1).f0), .int .i64 ((zaa l0 x17_1).f1), .int .i64 0, .int .i64 0, .int .i64 0]) ?_ 2 _ rfl; (with_reducible repeat (first | refine zkn ?_ _ | refine zkd ?_ | refine zka ?_ _)); refine zan (cs := #[.string ((zaa l0 x17_1).f0), .int .i64 0, .int .i64 0, .int .i64 0, .int .i64 0]) ?_ 1 _ rfl; (with_reducible repeat (first | refine zkn ?_ _ | refine zkd ?_ | refine zka ?_ _)); refine zan (cs := #[.string (⟨#[]⟩ : ByteArray), .int .i64 0, .int .i64 0, .int .i64 0, .int .i64 0]) ?_ 0 _ rfl; (with_reducible repeat (first | refine zkn ?_ _ | refine zkd ?_ | refine zka ?_ _)); exact h)) : gb108 ≠ gb109)); have n8_ := zA ((by rw [hg]; exact Nat.ne_of_gt (zlq (o' := .cells #[.string ((zaa l0 x17_1).f0), .int .i64 ((zaa l0 x17_1).f1), .int .i64 ((zaa l0 x17_1).f2), .int .i64 ((zaa l0 x17_1).f3), .int .i64 ((zaa l0 x17_1).f4)] 94 (0, 0)) BK108.out (fun h => by (with_reducible repeat (first | refine zkn ?_ _ | refine zkd ?_ | refine zka ?_ _)); refine zan (cs := #[.string ((zaa l0 x17_1).f0), .int .i64 ((zaa l0 x17_1).f1), .int .i64 ((zaa l0 x17_1).f2), .int .i64 ((zaa l0 x17_1).f3), .int .i64 0]) ?_ 4 _ rfl; (with_reducible repeat (first | refine zkn ?_ _ | refine zkd ?_ | refine zka ?_ _)); refine zan (cs := #[.string ((zaa l0 x17_1).f0), .int .i64 ((zaa l0 x17_1).f1), .int .i64 ((zaa l0 x17_1).f2), .int .i64 0, .int .i64 0]) ?_ 3 _ rfl; (with_reducible repeat (first | refine zkn ?_ _ | refine zkd ?_ | refine zka ?_ _)); refine zan (cs := #[.string ((zaa l0 x17_1).f0), .int .i64 ((zaa l0 x17_1).f1), .int .i64 0, .int .i64 0, .int .i64 0]) ?_ 2 _ rfl; (with_reducible repeat (first | refine zkn ?_ _ | refine zkd ?_ | refine zka ?_ _)); refine zan (cs := #[.string ((zaa l0 x17_1).f0), .int .i64 0, .int .i64 0, .int .i64 0, .int .i64 0]) ?_ 1 _ rfl; (with_reducible repeat (first | refine zkn ?_ _ | refine zkd ?_ | refine zka ?_ _)); refine zan (cs := #[.string (⟨#[]⟩ : ByteArray), .int .i64 0, .int .i64 0, .int .i64 0, .int .i64 0]) ?_ 0 _ rfl; (with_reducible repeat (first | refine zkn ?_ _ | refine zkd ?_ | refine zka ?_ _)); exact h)) : gb109 ≠ gb108)); clear HO_4 HO_5; clear BK108 HB; have HO_4 := n0_; have HO_5 := n1_; have BK108 := n2_; have HB := n3_; have BK109 := n4_; have GW109 := n5_; have GE109 := n6_; have NB108_109 := n7_; have NB109_108 := n8_; clear n0_ n1_ n2_ n3_ n4_ n5_ n6_ n7_ n8_; clear zs hb hbox hg; have hnb36 := NB109_108.out; have hnc36 := NB108_109.out; obtain ⟨hcz37_0, hcz37_1, hcz37_2, hcz37_3⟩ := zc4 w35 (.string (⟨#[]⟩ : ByteArray)) (.int .i64 0) (.int .i64 0) (.int .i64 0) BK109.out; obtain ⟨hfz37_0, hfz37_1, hfz37_2, hfz37_3⟩ := zf4 BK109.out) | ((with_reducible refine zbk (t := 72) (p := 8) rfl ?_); refine zbj (t := 72) (p := 8) (v := ?vo_w38) (w1 := ((((w35.setCell ⟨gb109, 0, none⟩ (.string (⟨#[99, 111, 110, 115, 116]⟩ : ByteArray))).setCell ⟨gb109, 1, none⟩ (.int .i64 0)).setCell ⟨gb109, 2, none⟩ (.int .i64 0)).setCell ⟨gb109, 3, none⟩ (.int .i64 ((zaa l0 x17_1).f4)))) ?hg ?ho ?hn ?hr ?_; (case ho => rfl); (case hg => rfl); (case hn => rfl); (case hr => go_simp <;> rfl); intro w38 hw; have n0_ : Aside0 (Kd.R k72 72 w38 w.heap.size (fun k_ => k_ ≠ gb109) u4 x4_1) := ⟨(by rw [hw]; exact (by (with_reducible repeat (first | apply zRa | apply zRn | apply zRd)); exact Kd.R_mono (Kd.R_far (p := ⟨gb109, 3, none⟩) (Kd.R_far (p := ⟨gb109, 2, none⟩) (Kd.R_far (p := ⟨gb109, 1, none⟩) (Kd.R_far (p := ⟨gb109, 0, none⟩) (Kd.R_mono HO_4.out (fun k_ hk => (⟨hk, hk.2⟩ : _ ∧ k_ ≠ gb109))) (fun _ hk => hk.2) (.string (⟨#[99, 111, 110, 115, 116]⟩ : ByteArray))) (fun _ hk => hk.2) (.int .i64 0)) (fun _ hk => hk.2) (.int .i64 0)) (fun _ hk => hk.2) (.int .i64 ((zaa l0 x17_1).f4))) (fun _ hk => hk.1.2)))⟩; have n1_ : Aside0 (Kd.R (Kd.int .i64) 3 w38 w.heap.size (fun _ => True) v105 x5_1) := ⟨(by rw [hw]; exact (by (with_reducible repeat (first | apply zRa | apply zRn | apply zRd)); exact Kd.R_mono (Kd.R_far (p := ⟨gb109, 3, none⟩) (Kd.R_far (p := ⟨gb109, 2, none⟩) (Kd.R_far (p := ⟨gb109, 1, none⟩) (Kd.R_far (p := ⟨gb109, 0, none⟩) (Kd.R_types HO_5.out BK109.out (by decide)) (fun _ hk => hk.2) (.string (⟨#[99, 111, 110, 115, 116]⟩ : ByteArray))) (fun _ hk => hk.2) (.int .i64 0)) (fun _ hk => hk.2) (.int .i64 0)) (fun _ hk => hk.2) (.int .i64 ((zaa l0 x17_1).f4))) (fun _ hk => trivial)))⟩; have n2_ : Aside0 (w38.heap[gb108]? = some (.cells #[.string ((zaa l0 x17_1).f0), .int .i64 ((zaa l0 x17_1).f1), .int .i64 ((zaa l0 x17_1).f2), .int .i64 ((zaa l0 x17_1).f3), .int .i64 ((zaa l0 x17_1).f4)] 94 (0, 0))) := ⟨(by rw [hw]; exact (by (with_reducible repeat (first | refine zkn ?_ _ | refine zkd ?_ | refine zka ?_ _)); refine zav ?_ NB108_109.out _; (with_reducible repeat (first | refine zkn ?_ _ | refine zkd ?_ | refine zka ?_ _)); refine zav ?_ NB108_109.out _; (with_reducible repeat (first | refine zkn ?_ _ | refine zkd ?_ | refine zka ?_ _)); refine zav ?_ NB108_109.out _; (with_reducible repeat (first | refine zkn ?_ _ | refine zkd ?_ | refine zka ?_ _)); refine zav ?_ NB108_109.out _; (with_reducible repeat (first | refine zkn ?_ _ | refine zkd ?_ | refine zka ?_ _)); exact BK108.out))⟩; have n3_ : Aside0 (w38.heap[gb109]? = some (.cells #[.string (⟨#[99, 111, 110, 115, 116]⟩ : ByteArray), .int .i64 0, .int .i64 0, .int .i64 ((zaa l0 x17_1).f4)] 72 (0, 0))) := ⟨(by rw [hw]; exact (by (with_reducible repeat (first | refine zkn ?_ _ | refine zkd ?_ | refine zka ?_ _)); refine zan (cs := #[.string (⟨#[99, 111, 110, 115, 116]⟩ : ByteArray), .int .i64 0, .int .i64 0, .int .i64 0]) ?_ 3 _ rfl; (with_reducible repeat (first | refine zkn ?_ _ | refine zkd ?_ | refine zka ?_ _)); refine zan (cs := #[.string (⟨#[99, 111, 110, 115, 116]⟩ : ByteArray), .int .i64 0, .int .i64 0, .int .i64 0]) ?_ 2 _ rfl; (with_reducible repeat (first | refine zkn ?_ _ | refine zkd ?_ | refine zka ?_ _)); refine zan (cs := #[.string (⟨#[99, 111, 110, 115, 116]⟩ : ByteArray), .int .i64 0, .int .i64 0, .int .i64 0]) ?_ 1 _ rfl; (with_reducible repeat (first | refine zkn ?_ _ | refine zkd ?_ | refine zka ?_ _)); refine zan (cs := #[.string (⟨#[]⟩ : ByteArray), .int .i64 0, .int .i64 0, .int .i64 0]) ?_ 0 _ rfl; (with_reducible repeat (first | refine zkn ?_ _ | refine zkd ?_ | refine zka ?_ _)); exact BK109.out))⟩; have n4_ : Aside0 (Below w.heap.size w w38) := ⟨(by rw [hw]; exact (by repeat (first | (with_reducible first | exact HB.out | apply zba | apply zbn | apply zbd | refine zab ?_ GE108.out | refine zab ?_ GE109.out) | exact HB.out)))⟩; clear hw; clear HO_4 HO_5; clear BK108 BK109 HB; have HO_4 := n0_; have HO_5 := n1_; have BK108 := n2_; have BK109 := n3_; have HB := n4_; clear n0_ n1_ n2_ n3_ n4_; obtain ⟨hcz39_0, hcz39_1, hcz39_2, hcz39_3, hcz39_4⟩ := zc5 w38 (.string ((zaa l0 x17_1).f0)) (.int .i64 ((zaa l0 x17_1).f1)) (.int .i64 ((zaa l0 x17_1).f2)) (.int .i64 ((zaa l0 x17_1).f3)) (.int .i64 ((zaa l0 x17_1).f4)) BK108.out; obtain ⟨hfz39_0, hfz39_1, hfz39_2, hfz39_3, hfz39_4⟩ := zf5 BK108.out; obtain ⟨Ao40, co40, eo40⟩ := Kd.R_slice HO_5.out; subst eo40; have p115 : 0 ≤ (((zaa l0 x17_1).f2) : Int) := zde (by assumption); have q115 : ((zaa l0 x17_1).f2) < (x5_1.length : Int) := zde (by assumption); obtain ⟨ad115, e115, hx115_0⟩ := Kd.at_int (zRr HO_5.out).2.2 ((zaa l0 x17_1).f2) p115 q115; cases e115; replace p115 := eq_true p115; replace q115 := eq_true q115; have p32 : 0 ≤ (((zaa l0 x17_1).f1) : Int) := zde (by assumption); have q32 : (((zaa l0 x17_1).f1) : Int) < ((x5_1.length : Int) : Int) := zde (by assumption); obtain ⟨go32, co32, eo32, gb32, gl32, cl32, HG32⟩ := Kd.R_form HO_5.out (by omega); (first | cases eo32 | (injection eo32 with ea_ en_ ec_; (first | subst ea_ | (injection ea_ with ea_; subst ea_)); subst ec_; clear en_)); have GB32 := zA gb32; have GG32 := zA HG32; clear gb32 gl32 HG32; (first | simp only [zdk] at hx115_0 | skip); obtain ⟨hx32_0, hf32_0⟩ := Kd.R_celln 0 HO_5.out (((zaa l0 x17_1).f1) : Int) p32 q32; replace p32 := eq_true p32; replace q32 := eq_true q32; obtain ⟨hy41_, hz41_⟩ := Kd.R_celln 0 HO_5.out (((zaa l0 x17_1).f1) : Int) (zde (by assumption)) (zde (by assumption)); have HP41 := Kd.R_putg HO_5.out (((zaa l0 x17_1).f1) : Int) (rd x5_1 ((zaa l0 x17_1).f2))) | ((with_reducible refine zbk (t := 3) (p := 142) rfl ?_); refine zbj (t := 3) (p := 142) (v := ?vo_w42) (w1 := (w38.setCell ⟨go32, (((zaa l0 x17_1).f1) : Int).toNat, none⟩ (.int .i64 (rd x5_1 ((zaa l0 x17_1).f2))))) ?hg ?ho ?hn ?hr ?_; (case ho => rfl); (case hg => rfl); (case hn => rfl); (case hr => go_simp <;> rfl); intro w42 hw; have hg : w38.grownBy w42 (some go32) := (by rw [hw]; exact HP41.2); have hp_ : Kd.R (Kd.int .i64) 3 w42 w.heap.size (fun _ => True) (.slice (some ⟨go32, 0, none⟩) x5_1.length co40) y116 := (by rw [hw, Ny116.out]; exact HP41.1); clear HP41; have n0_ := zA (Kd.R_over' (v := (.slice (some ⟨go32, 0, none⟩) x5_1.length co40)) (by (with_reducible repeat (first | apply zRa | apply zRn | apply zRd)); exact HO_4.out) (Kd.R_typed HO_5.out) (by decide) hg); have n1_ := zA (hp_); have n2_ := zA (zed (g := gb108) (o := .cells #[.string ((zaa l0 x17_1).f0), .int .i64 ((zaa l0 x17_1).f1), .int .i64 ((zaa l0 x17_1).f2), .int .i64 ((zaa l0 x17_1).f3), .int .i64 ((zaa l0 x17_1).f4)] 94 (0, 0)) (by (with_reducible repeat (first | refine zkn ?_ _ | refine zkd ?_ | refine zka ?_ _)); exact BK108.out) hg (Kd.R_ne HO_5.out BK108.out (by decide))); have n3_ := zA (zed (g := gb109) (o := .cells #[.string (⟨#[99, 111, 110, 115, 116]⟩ : ByteArray), .int .i64 0, .int .i64 0, .int .i64 ((zaa l0 x17_1).f4)] 72 (0, 0)) (by (with_reducible repeat (first | refine zkn ?_ _ | refine zkd ?_ | refine zka ?_ _)); exact BK109.out) hg (Kd.R_ne HO_5.out BK109.out (by decide))); have n4_ := zA ((by rw [hw]; exact zab (HB.out) GB32.out : Below w.heap.size w w42)); clear HO_4 HO_5; clear BK108 BK109 HB; have HO_4 := n0_; have HO_5 := n1_; have BK108 := n2_; have BK109 := n3_; have HB := n4_; clear n0_ n1_ n2_ n3_ n4_; clear hg hw hp_))
   go_roundg k1
   case measure => have := HK1.out; omega
   case rel => exact ⟨(x4_1), (y116), (wrap64 (x17_1 + 1)), (by first | rfl | (simp; done) | (simp [*]; done)), H', ⟨by have := HK1.out; omega⟩, ⟨by (with_reducible repeat (first | apply zRa | apply zRn | apply zRd)); exact Kd.R_mono HO_4.out (fun _ hk => trivial)⟩, ⟨by (with_reducible repeat (first | apply zRa | apply zRn | apply zRd)); exact HO_5.out⟩, ⟨by repeat (first | (with_reducible first | exact HB.out | apply zba | apply zbn | apply zbd | refine zab ?_ GE108.out | refine zab ?_ GE109.out) | exact HB.out)⟩⟩
 rw [if_neg c27] at H
 have c27b0 : (((zaa l0 x17_1).f0).toList == ([109, 111, 118] : List UInt8)) = false := beq_eq_false_iff_ne.mpr c27
 have c27b1 : (((zaa l0 x17_1).f0).toList != ([109, 111, 118] : List UInt8)) = true := bne_iff_ne.mpr c27
 have HC43 := zA H
 clear H
 have p107 : 0 ≤ (x17_1 : Int) := zde (by assumption)
 have q107 : x17_1 < (l0.length : Int) := zde (by assumption)
 obtain ⟨ad107, e107, hx107_0, hx107_1, hx107_2, hx107_3, hx107_4⟩ := ziv HR0.out x17_1 p107 q107
 cases e107
 replace hx107_0 := zkep HB.out hx107_0
 replace hx107_1 := zkep HB.out hx107_1
 replace hx107_2 := zkep HB.out hx107_2
 replace hx107_3 := zkep HB.out hx107_3
 replace hx107_4 := zkep HB.out hx107_4
 replace p107 := eq_true p107
 replace q107 := eq_true q107
 go_upto_if 59 with (first | ((with_reducible refine zar (N := 7) rfl ?_); refine zat ?hg (N := 7) ?hd (cs := #[.string (⟨#[]⟩ : ByteArray), .int .i64 0, .int .i64 0, .int .i64 0, .int .i64 0]) (t := 94) ?hr ?_; (case hd => rfl); (case hg => rfl); (case hr => go_simp <;> rfl); intro gb108 hg w44 hbox hb; have n0_ := zA (zRb (by (with_reducible repeat (first | apply zRa | apply zRn | apply zRd)); exact HO_4.out) hb); have n1_ := zA (zRb (by (with_reducible repeat (first | apply zRa | apply zRn | apply zRd)); exact HO_5.out) hb); have zs := zpair (by repeat (first | (with_reducible first | exact HB.out | apply zba | apply zbn | apply zbd) | exact HB.out)) hb; have n2_ := zA (zs.1); have n3_ := zA (hbox); have n4_ := zA ((by rw [hg]; exact zs.2 : w.heap.size ≤ gb108)); have n5_ := n4_; clear HO_4 HO_5 HB; have HO_4 := n0_; have HO_5 := n1_; have HB := n2_; have BK108 := n3_; have GW108 := n4_; have GE108 := n5_; clear n0_ n1_ n2_ n3_ n4_ n5_; clear zs hb hbox hg; obtain ⟨hcz45_0, hcz45_1, hcz45_2, hcz45_3, hcz45_4⟩ := zc5 w44 (.string (⟨#[]⟩ : ByteArray)) (.int .i64 0) (.int .i64 0) (.int .i64 0) (.int .i64 0) BK108.out; obtain ⟨hfz45_0, hfz45_1, hfz45_2, hfz45_3, hfz45_4⟩ := zf5 BK108.out) | ((with_reducible refine zar (N := 8) rfl ?_); refine zat ?hg (N := 8) ?hd (cs := #[.string (⟨#[]⟩ : ByteArray), .int .i64 0, .int .i64 0, .int .i64 0]) (t := 72) ?hr ?_; (case hd => rfl); (case hg => rfl); (case hr => go_simp <;> rfl); intro gb109 hg w46 hbox hb; have n0_ := zA (zRb (Kd.R_elderB (by (with_reducible repeat (first | apply zRa | apply zRn | apply zRd)); exact (Kd.R_mono (Kd.R_far (p := ⟨gb108, 4, none⟩) (Kd.R_far (p := ⟨gb108, 3, none⟩) (Kd.R_far (p := ⟨gb108, 2, none⟩) (Kd.R_far (p := ⟨gb108, 1, none⟩) (Kd.R_far (p := ⟨gb108, 0, none⟩) (Kd.R_types HO_4.out BK108.out (by decide)) (fun _ hk => hk.2) (.string ((zaa l0 x17_1).f0))) (fun _ hk => hk.2) (.int .i64 ((zaa l0 x17_1).f1))) (fun _ hk => hk.2) (.int .i64 ((zaa l0 x17_1).f2))) (fun _ hk => hk.2) (.int .i64 ((zaa l0 x17_1).f3))) (fun _ hk => hk.2) (.int .i64 ((zaa l0 x17_1).f4))) (fun _ h_ => h_.1))) gb109 (Nat.le_of_eq hg.symm)) hb); have n1_ := zA (zRb (by (with_reducible repeat (first | apply zRa | apply zRn | apply zRd)); exact (Kd.R_mono (Kd.R_far (p := ⟨gb108, 4, none⟩) (Kd.R_far (p := ⟨gb108, 3, none⟩) (Kd.R_far (p := ⟨gb108, 2, none⟩) (Kd.R_far (p := ⟨gb108, 1, none⟩) (Kd.R_far (p := ⟨gb108, 0, none⟩) (Kd.R_types HO_5.out BK108.out (by decide)) (fun _ hk => hk.2) (.string ((zaa l0 x17_1).f0))) (fun _ hk => hk.2) (.int .i64 ((zaa l0 x17_1).f1))) (fun _ hk => hk.2) (.int .i64 ((zaa l0 x17_1).f2))) (fun _ hk => hk.2) (.int .i64 ((zaa l0 x17_1).f3))) (fun _ hk => hk.2) (.int .i64 ((zaa l0 x17_1).f4))) (fun _ h_ => h_.1))) hb); have n2_ := zA (zaj (g := gb108) (o := .cells #[.string ((zaa l0 x17_1).f0), .int .i64 ((zaa l0 x17_1).f1), .int .i64 ((zaa l0 x17_1).f2), .int .i64 ((zaa l0 x17_1).f3), .int .i64 ((zaa l0 x17_1).f4)] 94 (0, 0)) (by (with_reducible repeat (first | refine zkn ?_ _ | refine zkd ?_ | refine zka ?_ _)); refine zan (cs := #[.string ((zaa l0 x17_1).f0), .int .i64 ((zaa l0 x17_1).f1), .int .i64 ((zaa l0 x17_1).f2), .int .i64 ((zaa l0 x17_1).f3), .int .i64 0]) ?_ 4 _ rfl; (with_reducible repeat (first | refine zkn ?_ _ | refine zkd ?_ | refine zka ?_ _)); refine zan (cs := #[.string ((zaa l0 x17_1).f0), .int .i64 ((zaa l0 x17_1).f1), .int .i64 ((zaa l0 x17_1).f2), .int .i64 0, .int .i64 0]) ?_ 3 _ rfl; (with_reducible repeat (first | refine zkn ?_ _ | refine zkd ?_ | refine zka ?_ _)); refine zan (cs := #[.string ((zaa l0 x17_1).f0), .int .i64 ((zaa l0 x17_1).f1), .int .i64 0, .int .i64 0, .int .i64 0]) ?_ 2 _ rfl; (with_reducible repeat (first | refine zkn ?_ _ | refine zkd ?_ | refine zka ?_ _)); refine zan (cs := #[.string ((zaa l0 x17_1).f0), .int .i64 0, .int .i64 0, .int .i64 0, .int .i64 0]) ?_ 1 _ rfl; (with_reducible repeat (first | refine zkn ?_ _ | refine zkd ?_ | refine zka ?_ _)); refine zan (cs := #[.string (⟨#[]⟩ : ByteArray), .int .i64 0, .int .i64 0, .int .i64 0, .int .i64 0]) ?_ 0 _ rfl; (with_reducible repeat (first | refine zkn ?_ _ | refine zkd ?_ | refine zka ?_ _)); exact BK108.out) hb); have zs := zpair (by repeat (first | (with_reducible first | exact HB.out | apply zba | apply zbn | apply zbd | refine zab ?_ GE108.out) | exact HB.out)) hb; have n3_ := zA (zs.1); have n4_ := zA (hbox); have n5_ := zA ((by rw [hg]; exact zs.2 : w.heap.size ≤ gb109)); have n6_ := n5_; have n7_ := zA ((by rw [hg]; exact Nat.ne_of_lt (zlq (o' := .cells #[.string ((zaa l0 x17_1).f0), .int .i64 ((zaa l0 x17_1).f1), .int .i64 ((zaa l0 x17_1).f2), .int .i64 ((zaa l0 x17_1).f3), .int .i64 ((zaa l0 x17_1).f4)] 94 (0, 0)) BK108.out (fun h => by (with_reducible repeat (first | refine zkn ?_ _ | refine zkd ?_ | refine zka ?_ _)); refine zan (cs := #[.string ((zaa l0 x17_1).f0), .int .i64 ((zaa l0 x17_1).f1), .int .i64 ((zaa l0 x17_1).f2), .int .i64 ((zaa l0 x17_1).f3), .int .i64 0]) ?_ 4 _ rfl; (with_reducible repeat (first | refine zkn ?_ _ | refine zkd ?_ | refine zka ?_ _)); refine zan (cs := #[.string ((zaa l0 x17_1).f0), .int .i64 ((zaa l0 x17_1).f1), .int .i64 ((zaa l0 x17_1).f2), .int .i64 0, .int .i64 0]) ?_ 3 _ rfl; (with_reducible repeat (first | refine zkn ?_ _ | refine zkd ?_ | refine zka ?_ _)); refine zan (cs := #[.string ((zaa l0 x17_1).f0), .int .i64 ((zaa l0 x17_1).f1), .int .i64 0, .int .i64 0, .int .i64 0]) ?_ 2 _ rfl; (with_reducible repeat (first | refine zkn ?_ _ | refine zkd ?_ | refine zka ?_ _)); refine zan (cs := #[.string ((zaa l0 x17_1).f0), .int .i64 0, .int .i64 0, .int .i64 0, .int .i64 0]) ?_ 1 _ rfl; (with_reducible repeat (first | refine zkn ?_ _ | refine zkd ?_ | refine zka ?_ _)); refine zan (cs := #[.string (⟨#[]⟩ : ByteArray), .int .i64 0, .int .i64 0, .int .i64 0, .int .i64 0]) ?_ 0 _ rfl; (with_reducible repeat (first | refine zkn ?_ _ | refine zkd ?_ | refine zka ?_ _)); exact h)) : gb108 ≠ gb109)); have n8_ := zA ((by rw [hg]; exact Nat.ne_of_gt (zlq (o' := .cells #[.string ((zaa l0 x17_1).f0), .int .i64 ((zaa l0 x17_1).f1), .int .i64 ((zaa l0 x17_1).f2), .int .i64 ((zaa l0 x17_1).f3), .int .i64 ((zaa l0 x17_1).f4)] 94 (0, 0)) BK108.out (fun h => by (with_reducible repeat (first | refine zkn ?_ _ | refine zkd ?_ | refine zka ?_ _)); refine zan (cs := #[.string ((zaa l0 x17_1).f0), .int .i64 ((zaa l0 x17_1).f1), .int .i64 ((zaa l0 x17_1).f2), .int .i64 ((zaa l0 x17_1).f3), .int .i64 0]) ?_ 4 _ rfl; (with_reducible repeat (first | refine zkn ?_ _ | refine zkd ?_ | refine zka ?_ _)); refine zan (cs := #[.string ((zaa l0 x17_1).f0), .int .i64 ((zaa l0 x17_1).f1), .int .i64 ((zaa l0 x17_1).f2), .int .i64 0, .int .i64 0]) ?_ 3 _ rfl; (with_reducible repeat (first | refine zkn ?_ _ | refine zkd ?_ | refine zka ?_ _)); refine zan (cs := #[.string ((zaa l0 x17_1).f0), .int .i64 ((zaa l0 x17_1).f1), .int .i64 0, .int .i64 0, .int .i64 0]) ?_ 2 _ rfl; (with_reducible repeat (first | refine zkn ?_ _ | refine zkd ?_ | refine zka ?_ _)); refine zan (cs := #[.string ((zaa l0 x17_1).f0), .int .i64 0, .int .i64 0, .int .i64 0, .int .i64 0]) ?_ 1 _ rfl; (with_reducible repeat (first | refine zkn ?_ _ | refine zkd ?_ | refine zka ?_ _)); refine zan (cs := #[.string (⟨#[]⟩ : ByteArray), .int .i64 0, .int .i64 0, .int .i64 0, .int .i64 0]) ?_ 0 _ rfl; (with_reducible repeat (first | refine zkn ?_ _ | refine zkd ?_ | refine zka ?_ _)); exact h)) : gb109 ≠ gb108)); clear HO_4 HO_5; clear BK108 HB; have HO_4 := n0_; have HO_5 := n1_; have BK108 := n2_; have HB := n3_; have BK109 := n4_; have GW109 := n5_; have GE109 := n6_; have NB108_109 := n7_; have NB109_108 := n8_; clear n0_ n1_ n2_ n3_ n4_ n5_ n6_ n7_ n8_; clear zs hb hbox hg; have hnb47 := NB109_108.out; have hnc47 := NB108_109.out; obtain ⟨hcz48_0, hcz48_1, hcz48_2, hcz48_3⟩ := zc4 w46 (.string (⟨#[]⟩ : ByteArray)) (.int .i64 0) (.int .i64 0) (.int .i64 0) BK109.out; obtain ⟨hfz48_0, hfz48_1, hfz48_2, hfz48_3⟩ := zf4 BK109.out; obtain ⟨hcz49_0, hcz49_1, hcz49_2, hcz49_3, hcz49_4⟩ := zc5 w46 (.string ((zaa l0 x17_1).f0)) (.int .i64 ((zaa l0 x17_1).f1)) (.int .i64 ((zaa l0 x17_1).f2)) (.int .i64 ((zaa l0 x17_1).f3)) (.int .i64 ((zaa l0 x17_1).f4)) BK108.out; obtain ⟨hfz49_0, hfz49_1, hfz49_2, hfz49_3, hfz49_4⟩ := zf5 BK108.out))
 (try simp only [Act.put, List.setIfInBounds_toArray, List.set_cons_zero, List.set_cons_succ])
 go_cut [59] (fun v59 wc => ∃ (kq : Nat) (x59_42 : Bool), v59 = .bool x59_42 ∧ Aside0 (za9 kq x4_1 x5_1 l0 (l0.length : Int) x17_1 ((zaa l0 x17_1).f0) x59_42 ((zaa l0 x17_1).f0) ((zaa l0 x17_1).f1) ((zaa l0 x17_1).f2) ((zaa l0 x17_1).f3) ((zaa l0 x17_1).f4) (⟨#[99, 111, 110, 115, 116]⟩ : ByteArray) 0 0 ((zaa l0 x17_1).f4) = some (r1, r2)) ∧ Aside0 (kq ≤ k1) ∧ Aside0 (Kd.R k72 72 wc w.heap.size (fun k_ => k_ ≠ gb109) u4 x4_1) ∧ Aside0 (Kd.R (Kd.int .i64) 3 wc w.heap.size (fun _ => True) v105 x5_1) ∧ Aside0 (wc.heap[gb108]? = some (.cells #[.string ((zaa l0 x17_1).f0), .int .i64 ((zaa l0 x17_1).f1), .int .i64 ((zaa l0 x17_1).f2), .int .i64 ((zaa l0 x17_1).f3), .int .i64 ((zaa l0 x17_1).f4)] 94 (0, 0))) ∧ Aside0 (wc.heap[gb109]? = some (.cells #[.string (⟨#[99, 111, 110, 115, 116]⟩ : ByteArray), .int .i64 0, .int .i64 0, .int .i64 ((zaa l0 x17_1).f4)] 72 (0, 0))) ∧ Aside0 (Below w.heap.size w wc))
 case first =>
   have H := HC43.out
   clear HC43
   by_cases c50 : ((zaa l0 x17_1).f0).toList = ([97, 100, 100, 105] : List UInt8)
   · rw [if_pos c50] at H
     have c50b0 : (((zaa l0 x17_1).f0).toList == ([97, 100, 100, 105] : List UInt8)) = true := beq_iff_eq.mpr c50
     have c50b1 : (((zaa l0 x17_1).f0).toList != ([97, 100, 100, 105] : List UInt8)) = false := bne_eq_false_iff_eq.mpr c50
     clear c50
     (first | rw [c50b0] | (simp only [za4, za6]; rw [c50b0]) | skip)
     have H' := zA H
     clear H
     go_wp2
     go_meet
     case rel => exact ⟨_, ((((zaa l0 x17_1).f0).toList == ([97, 100, 100, 105] : List UInt8))), (by first | rfl | (simp; done) | (simp [*]; done)), H', ⟨by have := HK1.out; first | omega | exact zlr _⟩, ⟨by (with_reducible repeat (first | apply zRa | apply zRn | apply zRd)); exact Kd.R_mono (Kd.R_far (p := ⟨gb109, 3, none⟩) (Kd.R_far (p := ⟨gb109, 2, none⟩) (Kd.R_far (p := ⟨gb109, 1, none⟩) (Kd.R_far (p := ⟨gb109, 0, none⟩) (Kd.R_mono HO_4.out (fun k_ hk => (⟨hk, hk.2⟩ : _ ∧ k_ ≠ gb109))) (fun _ hk => hk.2) (.string (⟨#[99, 111, 110, 115, 116]⟩ : ByteArray))) (fun _ hk => hk.2) (.int .i64 0)) (fun _ hk => hk.2) (.int .i64 0)) (fun _ hk => hk.2) (.int .i64 ((zaa l0 x17_1).f4))) (fun _ hk => hk.1.2)⟩, ⟨by (with_reducible repeat (first | apply zRa | apply zRn | apply zRd)); exact Kd.R_mono (Kd.R_far (p := ⟨gb109, 3, none⟩) (Kd.R_far (p := ⟨gb109, 2, none⟩) (Kd.R_far (p := ⟨gb109, 1, none⟩) (Kd.R_far (p := ⟨gb109, 0, none⟩) (Kd.R_types HO_5.out BK109.out (by decide)) (fun _ hk => hk.2) (.string (⟨#[99, 111, 110, 115, 116]⟩ : ByteArray))) (fun _ hk => hk.2) (.int .i64 0)) (fun _ hk => hk.2) (.int .i64 0)) (fun _ hk => hk.2) (.int .i64 ((zaa l0 x17_1).f4))) (fun _ hk => trivial)⟩, ⟨by (with_reducible repeat (first | refine zkn ?_ _ | refine zkd ?_ | refine zka ?_ _)); refine zav ?_ NB108_109.out _; (with_reducible repeat (first | refine zkn ?_ _ | refine zkd ?_ | refine zka ?_ _)); refine zav ?_ NB108_109.out _; (with_reducible repeat (first | refine zkn ?_ _ | refine zkd ?_ | refine zka ?_ _)); refine zav ?_ NB108_109.out _; (with_reducible repeat (first | refine zkn ?_ _ | refine zkd ?_ | refine zka ?_ _)); refine zav ?_ NB108_109.out _; (with_reducible repeat (first | refine zkn ?_ _ | refine zkd ?_ | refine zka ?_ _)); exact BK108.out⟩, ⟨by (with_reducible repeat (first | refine zkn ?_ _ | refine zkd ?_ | refine zka ?_ _)); refine zan (cs := #[.string (⟨#[99, 111, 110, 115, 116]⟩ : ByteArray), .int .i64 0, .int .i64 0, .int .i64 0]) ?_ 3 _ rfl; (with_reducible repeat (first | refine zkn ?_ _ | refine zkd ?_ | refine zka ?_ _)); refine zan (cs := #[.string (⟨#[99, 111, 110, 115, 116]⟩ : ByteArray), .int .i64 0, .int .i64 0, .int .i64 0]) ?_ 2 _ rfl; (with_reducible repeat (first | refine zkn ?_ _ | refine zkd ?_ | refine zka ?_ _)); refine zan (cs := #[.string (⟨#[99, 111, 110, 115, 116]⟩ : ByteArray), .int .i64 0, .int .i64 0, .int .i64 0]) ?_ 1 _ rfl; (with_reducible repeat (first | refine zkn ?_ _ | refine zkd ?_ | refine zka ?_ _)); refine zan (cs := #[.string (⟨#[]⟩ : ByteArray), .int .i64 0, .int .i64 0, .int .i64 0]) ?_ 0 _ rfl; (with_reducible repeat (first | refine zkn ?_ _ | refine zkd ?_ | refine zka ?_ _)); exact BK109.out⟩, ⟨by repeat (first | (with_reducible first | exact HB.out | apply zba | apply zbn | apply zbd | refine zab ?_ GE108.out | refine zab ?_ GE109.out) | exact HB.out)⟩⟩
   rw [if_neg c50] at H
   have c50b0 : (((zaa l0 x17_1).f0).toList == ([97, 100, 100, 105] : List UInt8)) = false := beq_eq_false_iff_ne.mpr c50
   have c50b1 : (((zaa l0 x17_1).f0).toList != ([97, 100, 100, 105] : List UInt8)) = true := bne_iff_ne.mpr c50
   (first | rw [c50b0] | (simp only [za4, za6]; rw [c50b0]) | skip)
   by_cases c51 : ((zaa l0 x17_1).f0).toList = ([97, 110, 100, 105] : List UInt8)
   · rw [if_pos c51] at H
     have c51b0 : (((zaa l0 x17_1).f0).toList == ([97, 110, 100, 105] : List UInt8)) = true := beq_iff_eq.mpr c51
     have c51b1 : (((zaa l0 x17_1).f0).toList != ([97, 110, 100, 105] : List UInt8)) = false := bne_eq_false_iff_eq.mpr c51
     clear c51
     have H' := zA H
     clear H
     go_wp2
     go_meet
     case rel => exact ⟨_, ((((zaa l0 x17_1).f0).toList == ([97, 110, 100, 105] : List UInt8))), (by first | rfl | (simp; done) | (simp [*]; done)), H', ⟨by have := HK1.out; first | omega | exact zlr _⟩, ⟨by (with_reducible repeat (first | apply zRa | apply zRn | apply zRd)); exact Kd.R_mono (Kd.R_far (p := ⟨gb109, 3, none⟩) (Kd.R_far (p := ⟨gb109, 2, none⟩) (Kd.R_far (p := ⟨gb109, 1, none⟩) (Kd.R_far (p := ⟨gb109, 0, none⟩) (Kd.R_mono HO_4.out (fun k_ hk => (⟨hk, hk.2⟩ : _ ∧ k_ ≠ gb109))) (fun _ hk => hk.2) (.string (⟨#[99, 111, 110, 115, 116]⟩ : ByteArray))) (fun _ hk => hk.2) (.int .i64 0)) (fun _ hk => hk.2) (.int .i64 0)) (fun _ hk => hk.2) (.int .i64 ((zaa l0 x17_1).f4))) (fun _ hk => hk.1.2)⟩, ⟨by (with_reducible repeat (first | apply zRa | apply zRn | apply zRd)); exact Kd.R_mono (Kd.R_far (p := ⟨gb109, 3, none⟩) (Kd.R_far (p := ⟨gb109, 2, none⟩) (Kd.R_far (p := ⟨gb109, 1, none⟩) (Kd.R_far (p := ⟨gb109, 0, none⟩) (Kd.R_types HO_5.out BK109.out (by decide)) (fun _ hk => hk.2) (.string (⟨#[99, 111, 110, 115, 116]⟩ : ByteArray))) (fun _ hk => hk.2) (.int .i64 0)) (fun _ hk => hk.2) (.int .i64 0)) (fun _ hk => hk.2) (.int .i64 ((zaa l0 x17_1).f4))) (fun _ hk => trivial)⟩, ⟨by (with_reducible repeat (first | refine zkn ?_ _ | refine zkd ?_ | refine zka ?_ _)); refine zav ?_ NB108_109.out _; (with_reducible repeat (first | refine zkn ?_ _ | refine zkd ?_ | refine zka ?_ _)); refine zav ?_ NB108_109.out _; (with_reducible repeat (first | refine zkn ?_ _ | refine zkd ?_ | refine zka ?_ _)); refine zav ?_ NB108_109.out _; (with_reducible repeat (first | refine zkn ?_ _ | refine zkd ?_ | refine zka ?_ _)); refine zav ?_ NB108_109.out _; (with_reducible repeat (first | refine zkn ?_ _ | refine zkd ?_ | refine zka ?_ _)); exact BK108.out⟩, ⟨by (with_reducible repeat (first | refine zkn ?_ _ | refine zkd ?_ | refine zka ?_ _)); refine zan (cs := #[.string (⟨#[99, 111, 110, 115, 116]⟩ : ByteArray), .int .i64 0, .int .i64 0, .int .i64 0]) ?_ 3 _ rfl; (with_reducible repeat (first | refine zkn ?_ _ | refine zkd ?_ | refine zka ?_ _)); refine zan (cs := #[.string (⟨#[99, 111, 110, 115, 116]⟩ : ByteArray), .int .i64 0, .int .i64 0, .int .i64 0]) ?_ 2 _ rfl; (with_reducible repeat (first | refine zkn ?_ _ | refine zkd ?_ | refine zka ?_ _)); refine zan (cs := #[.string (⟨#[99, 111, 110, 115, 116]⟩ : ByteArray), .int .i64 0, .int .i64 0, .int .i64 0]) ?_ 1 _ rfl; (with_reducible repeat (first | refine zkn ?_ _ | refine zkd ?_ | refine zka ?_ _)); refine zan (cs := #[.string (⟨#[]⟩ : ByteArray), .int .i64 0, .int .i64 0, .int .i64 0]) ?_ 0 _ rfl; (with_reducible repeat (first | refine zkn ?_ _ | refine zkd ?_ | refine zka ?_ _)); exact BK109.out⟩, ⟨by repeat (first | (with_reducible first | exact HB.out | apply zba | apply zbn | apply zbd | refine zab ?_ GE108.out | refine zab ?_ GE109.out) | exact HB.out)⟩⟩
   rw [if_neg c51] at H
   have c51b0 : (((zaa l0 x17_1).f0).toList == ([97, 110, 100, 105] : List UInt8)) = false := beq_eq_false_iff_ne.mpr c51
   have c51b1 : (((zaa l0 x17_1).f0).toList != ([97, 110, 100, 105] : List UInt8)) = true := bne_iff_ne.mpr c51
   by_cases c52 : ((zaa l0 x17_1).f0).toList = ([120, 111, 114, 105] : List UInt8)
   · rw [if_pos c52] at H
     have c52b0 : (((zaa l0 x17_1).f0).toList == ([120, 111, 114, 105] : List UInt8)) = true := beq_iff_eq.mpr c52
     have c52b1 : (((zaa l0 x17_1).f0).toList != ([120, 111, 114, 105] : List UInt8)) = false := bne_eq_false_iff_eq.mpr c52
     clear c52
     have H' := zA H
     clear H
     go_wp2
     go_meet
     case rel => exact ⟨_, ((((zaa l0 x17_1).f0).toList == ([120, 111, 114, 105] : List UInt8))), (by first | rfl | (simp; done) | (simp [*]; done)), H', ⟨by have := HK1.out; first | omega | exact zlr _⟩, ⟨by (with_reducible repeat (first | apply zRa | apply zRn | apply zRd)); exact Kd.R_mono (Kd.R_far (p := ⟨gb109, 3, none⟩) (Kd.R_far (p := ⟨gb109, 2, none⟩) (Kd.R_far (p := ⟨gb109, 1, none⟩) (Kd.R_far (p := ⟨gb109, 0, none⟩) (Kd.R_mono HO_4.out (fun k_ hk => (⟨hk, hk.2⟩ : _ ∧ k_ ≠ gb109))) (fun _ hk => hk.2) (.string (⟨#[99, 111, 110, 115, 116]⟩ : ByteArray))) (fun _ hk => hk.2) (.int .i64 0)) (fun _ hk => hk.2) (.int .i64 0)) (fun _ hk => hk.2) (.int .i64 ((zaa l0 x17_1).f4))) (fun _ hk => hk.1.2)⟩, ⟨by (with_reducible repeat (first | apply zRa | apply zRn | apply zRd)); exact Kd.R_mono (Kd.R_far (p := ⟨gb109, 3, none⟩) (Kd.R_far (p := ⟨gb109, 2, none⟩) (Kd.R_far (p := ⟨gb109, 1, none⟩) (Kd.R_far (p := ⟨gb109, 0, none⟩) (Kd.R_types HO_5.out BK109.out (by decide)) (fun _ hk => hk.2) (.string (⟨#[99, 111, 110, 115, 116]⟩ : ByteArray))) (fun _ hk => hk.2) (.int .i64 0)) (fun _ hk => hk.2) (.int .i64 0)) (fun _ hk => hk.2) (.int .i64 ((zaa l0 x17_1).f4))) (fun _ hk => trivial)⟩, ⟨by (with_reducible repeat (first | refine zkn ?_ _ | refine zkd ?_ | refine zka ?_ _)); refine zav ?_ NB108_109.out _; (with_reducible repeat (first | refine zkn ?_ _ | refine zkd ?_ | refine zka ?_ _)); refine zav ?_ NB108_109.out _; (with_reducible repeat (first | refine zkn ?_ _ | refine zkd ?_ | refine zka ?_ _)); refine zav ?_ NB108_109.out _; (with_reducible repeat (first | refine zkn ?_ _ | refine zkd ?_ | refine zka ?_ _)); refine zav ?_ NB108_109.out _; (with_reducible repeat (first | refine zkn ?_ _ | refine zkd ?_ | refine zka ?_ _)); exact BK108.out⟩, ⟨by (with_reducible repeat (first | refine zkn ?_ _ | refine zkd ?_ | refine zka ?_ _)); refine zan (cs := #[.string (⟨#[99, 111, 110, 115, 116]⟩ : ByteArray), .int .i64 0, .int .i64 0, .int .i64 0]) ?_ 3 _ rfl; (with_reducible repeat (first | refine zkn ?_ _ | refine zkd ?_ | refine zka ?_ _)); refine zan (cs := #[.string (⟨#[99, 111, 110, 115, 116]⟩ : ByteArray), .int .i64 0, .int .i64 0, .int .i64 0]) ?_ 2 _ rfl; (with_reducible repeat (first | refine zkn ?_ _ | refine zkd ?_ | refine zka ?_ _)); refine zan (cs := #[.string (⟨#[99, 111, 110, 115, 116]⟩ : ByteArray), .int .i64 0, .int .i64 0, .int .i64 0]) ?_ 1 _ rfl; (with_reducible repeat (first | refine zkn ?_ _ | refine zkd ?_ | refine zka ?_ _)); refine zan (cs := #[.string (⟨#[]⟩ : ByteArray), .int .i64 0, .int .i64 0, .int .i64 0]) ?_ 0 _ rfl; (with_reducible repeat (first | refine zkn ?_ _ | refine zkd ?_ | refine zka ?_ _)); exact BK109.out⟩, ⟨by repeat (first | (with_reducible first | exact HB.out | apply zba | apply zbn | apply zbd | refine zab ?_ GE108.out | refine zab ?_ GE109.out) | exact HB.out)⟩⟩
   rw [if_neg c52] at H
   have c52b0 : (((zaa l0 x17_1).f0).toList == ([120, 111, 114, 105] : List UInt8)) = false := beq_eq_false_iff_ne.mpr c52
   have c52b1 : (((zaa l0 x17_1).f0).toList != ([120, 111, 114, 105] : List UInt8)) = true := bne_iff_ne.mpr c52
   by_cases c53 : ((zaa l0 x17_1).f0).toList = ([115, 104, 108, 105] : List UInt8)
   rotate_left
   · rw [if_neg c53] at H
     have c53b0 : (((zaa l0 x17_1).f0).toList == ([115, 104, 108, 105] : List UInt8)) = false := beq_eq_false_iff_ne.mpr c53
     have c53b1 : (((zaa l0 x17_1).f0).toList != ([115, 104, 108, 105] : List UInt8)) = true := bne_iff_ne.mpr c53
     have H' := zA H
     clear H
     go_wp2
     go_meet
     case rel => exact ⟨_, ((((zaa l0 x17_1).f0).toList == ([115, 104, 114, 105] : List UInt8))), (by first | rfl | (simp; done) | (simp [*]; done)), H', ⟨by have := HK1.out; first | omega | exact zlr _⟩, ⟨by (with_reducible repeat (first | apply zRa | apply zRn | apply zRd)); exact Kd.R_mono (Kd.R_far (p := ⟨gb109, 3, none⟩) (Kd.R_far (p := ⟨gb109, 2, none⟩) (Kd.R_far (p := ⟨gb109, 1, none⟩) (Kd.R_far (p := ⟨gb109, 0, none⟩) (Kd.R_mono HO_4.out (fun k_ hk => (⟨hk, hk.2⟩ : _ ∧ k_ ≠ gb109))) (fun _ hk => hk.2) (.string (⟨#[99, 111, 110, 115, 116]⟩ : ByteArray))) (fun _ hk => hk.2) (.int .i64 0)) (fun _ hk => hk.2) (.int .i64 0)) (fun _ hk => hk.2) (.int .i64 ((zaa l0 x17_1).f4))) (fun _ hk => hk.1.2)⟩, ⟨by (with_reducible repeat (first | apply zRa | apply zRn | apply zRd)); exact Kd.R_mono (Kd.R_far (p := ⟨gb109, 3, none⟩) (Kd.R_far (p := ⟨gb109, 2, none⟩) (Kd.R_far (p := ⟨gb109, 1, none⟩) (Kd.R_far (p := ⟨gb109, 0, none⟩) (Kd.R_types HO_5.out BK109.out (by decide)) (fun _ hk => hk.2) (.string (⟨#[99, 111, 110, 115, 116]⟩ : ByteArray))) (fun _ hk => hk.2) (.int .i64 0)) (fun _ hk => hk.2) (.int .i64 0)) (fun _ hk => hk.2) (.int .i64 ((zaa l0 x17_1).f4))) (fun _ hk => trivial)⟩, ⟨by (with_reducible repeat (first | refine zkn ?_ _ | refine zkd ?_ | refine zka ?_ _)); refine zav ?_ NB108_109.out _; (with_reducible repeat (first | refine zkn ?_ _ | refine zkd ?_ | refine zka ?_ _)); refine zav ?_ NB108_109.out _; (with_reducible repeat (first | refine zkn ?_ _ | refine zkd ?_ | refine zka ?_ _)); refine zav ?_ NB108_109.out _; (with_reducible repeat (first | refine zkn ?_ _ | refine zkd ?_ | refine zka ?_ _)); refine zav ?_ NB108_109.out _; (with_reducible repeat (first | refine zkn ?_ _ | refine zkd ?_ | refine zka ?_ _)); exact BK108.out⟩, ⟨by (with_reducible repeat (first | refine zkn ?_ _ | refine zkd ?_ | refine zka ?_ _)); refine zan (cs := #[.string (⟨#[99, 111, 110, 115, 116]⟩ : ByteArray), .int .i64 0, .int .i64 0, .int .i64 0]) ?_ 3 _ rfl; (with_reducible repeat (first | refine zkn ?_ _ | refine zkd ?_ | refine zka ?_ _)); refine zan (cs := #[.string (⟨#[99, 111, 110, 115, 116]⟩ : ByteArray), .int .i64 0, .int .i64 0, .int .i64 0]) ?_ 2 _ rfl; (with_reducible repeat (first | refine zkn ?_ _ | refine zkd ?_ | refine zka ?_ _)); refine zan (cs := #[.string (⟨#[99, 111, 110, 115, 116]⟩ : ByteArray), .int .i64 0, .int .i64 0, .int .i64 0]) ?_ 1 _ rfl; (with_reducible repeat (first | refine zkn ?_ _ | refine zkd ?_ | refine zka ?_ _)); refine zan (cs := #[.string (⟨#[]⟩ : ByteArray), .int .i64 0, .int .i64 0, .int .i64 0]) ?_ 0 _ rfl; (with_reducible repeat (first | refine zkn ?_ _ | refine zkd ?_ | refine zka ?_ _)); exact BK109.out⟩, ⟨by repeat (first | (with_reducible first | exact HB.out | apply zba | apply zbn | apply zbd | refine zab ?_ GE108.out | refine zab ?_ GE109.out) | exact HB.out)⟩⟩
   rw [if_pos c53] at H
   have c53b0 : (((zaa l0 x17_1).f0).toList == ([115, 104, 108, 105] : List UInt8)) = true := beq_iff_eq.mpr c53
   have c53b1 : (((zaa l0 x17_1).f0).toList != ([115, 104, 108, 105] : List UInt8)) = false := bne_eq_false_iff_eq.mpr c53
   clear c53
   have H' := zA H
   clear H
   go_wp2
   go_meet
   case rel => exact ⟨_, ((((zaa l0 x17_1).f0).toList == ([115, 104, 108, 105] : List UInt8))), (by first | rfl | (simp; done) | (simp [*]; done)), H', ⟨by have := HK1.out; first | omega | exact zlr _⟩, ⟨by (with_reducible repeat (first | apply zRa | apply zRn | apply zRd)); exact Kd.R_mono (Kd.R_far (p := ⟨gb109, 3, none⟩) (Kd.R_far (p := ⟨gb109, 2, none⟩) (Kd.R_far (p := ⟨gb109, 1, none⟩) (Kd.R_far (p := ⟨gb109, 0, none⟩) (Kd.R_mono HO_4.out (fun k_ hk => (⟨hk, hk.2⟩ : _ ∧ k_ ≠ gb109))) (fun _ hk => hk.2) (.string (⟨#[99, 111, 110, 115, 116]⟩ : ByteArray))) (fun _ hk => hk.2) (.int .i64 0)) (fun _ hk => hk.2) (.int .i64 0)) (fun _ hk => hk.2) (.int .i64 ((zaa l0 x17_1).f4))) (fun _ hk => hk.1.2)⟩, ⟨by (with_reducible repeat (first | apply zRa | apply zRn | apply zRd)); exact Kd.R_mono (Kd.R_far (p := ⟨gb109, 3, none⟩) (Kd.R_far (p := ⟨gb109, 2, none⟩) (Kd.R_far (p := ⟨gb109, 1, none⟩) (Kd.R_far (p := ⟨gb109, 0, none⟩) (Kd.R_types HO_5.out BK109.out (by decide)) (fun _ hk => hk.2) (.string (⟨#[99, 111, 110, 115, 116]⟩ : ByteArray))) (fun _ hk => hk.2) (.int .i64 0)) (fun _ hk => hk.2) (.int .i64 0)) (fun _ hk => hk.2) (.int .i64 ((zaa l0 x17_1).f4))) (fun _ hk => trivial)⟩, ⟨by (with_reducible repeat (first | refine zkn ?_ _ | refine zkd ?_ | refine zka ?_ _)); refine zav ?_ NB108_109.out _; (with_reducible repeat (first | refine zkn ?_ _ | refine zkd ?_ | refine zka ?_ _)); refine zav ?_ NB108_109.out _; (with_reducible repeat (first | refine zkn ?_ _ | refine zkd ?_ | refine zka ?_ _)); refine zav ?_ NB108_109.out _; (with_reducible repeat (first | refine zkn ?_ _ | refine zkd ?_ | refine zka ?_ _)); refine zav ?_ NB108_109.out _; (with_reducible repeat (first | refine zkn ?_ _ | refine zkd ?_ | refine zka ?_ _)); exact BK108.out⟩, ⟨by (with_reducible repeat (first | refine zkn ?_ _ | refine zkd ?_ | refine zka ?_ _)); refine zan (cs := #[.string (⟨#[99, 111, 110, 115, 116]⟩ : ByteArray), .int .i64 0, .int .i64 0, .int .i64 0]) ?_ 3 _ rfl; (with_reducible repeat (first | refine zkn ?_ _ | refine zkd ?_ | refine zka ?_ _)); refine zan (cs := #[.string (⟨#[99, 111, 110, 115, 116]⟩ : ByteArray), .int .i64 0, .int .i64 0, .int .i64 0]) ?_ 2 _ rfl; (with_reducible repeat (first | refine zkn ?_ _ | refine zkd ?_ | refine zka ?_ _)); refine zan (cs := #[.string (⟨#[99, 111, 110, 115, 116]⟩ : ByteArray), .int .i64 0, .int .i64 0, .int .i64 0]) ?_ 1 _ rfl; (with_reducible repeat (first | refine zkn ?_ _ | refine zkd ?_ | refine zka ?_ _)); refine zan (cs := #[.string (⟨#[]⟩ : ByteArray), .int .i64 0, .int .i64 0, .int .i64 0]) ?_ 0 _ rfl; (with_reducible repeat (first | refine zkn ?_ _ | refine zkd ?_ | refine zka ?_ _)); exact BK109.out⟩, ⟨by repeat (first | (with_reducible first | exact HB.out | apply zba | apply zbn | apply zbd | refine zab ?_ GE108.out | refine zab ?_ GE109.out) | exact HB.out)⟩⟩
 clear HC43
 try clear c1
 try clear p1
 try clear q1
 try clear hx1
 try clear hf1
 try clear c2
 try clear p2
 try clear c3
 try clear p3
 try clear q3
 try clear hx3
 try clear hf3
 try clear c4
 try clear c5
 try clear c6
 try clear c6b0
 try clear p6
 try clear c7
 try clear c7b0
 try clear c8
 try clear c8b0
 try clear c9
 try clear c9b0
 try clear c9b1
 try clear p10
 try clear q10
 try clear hx10
 try clear c11
 try clear c11b0
 try clear p11
 try clear q11
 try clear hx11
 try clear c12
 try clear c12b0
 try clear p13
 try clear q13
 try clear hx13
 try clear hf13
 try clear c16
 try clear c17
 try clear c27
 try clear c27b0
 try clear c27b1
 try clear c28
 try clear c28b0
 try clear c29
 try clear c29b0
 try clear c30
 try clear c30b0
 try clear c31
 try clear c31b0
 try clear p32
 try clear q32
 try clear hx32
 try clear hf32
 try clear c36
 try clear c47
 try clear c50
 try clear c50b0
 try clear c50b1
 try clear c51
 try clear c51b0
 try clear c51b1
 try clear c52
 try clear c52b0
 try clear c52b1
 try clear c53
 try clear c53b0
 try clear c53b1
 try clear hcz15_0
 try clear hcz15_1
 try clear hcz15_2
 try clear hcz15_3
 try clear hcz15_4
 try clear hcz18_0
 try clear hcz18_1
 try clear hcz18_2
 try clear hcz18_3
 try clear hcz20_0
 try clear hcz20_1
 try clear hcz20_2
 try clear hcz20_3
 try clear hcz20_4
 try clear hcz21_0
 try clear hcz21_1
 try clear hcz21_2
 try clear hcz21_3
 try clear hcz24_0
 try clear hcz24_1
 try clear hcz24_2
 try clear hcz24_3
 try clear hcz24_4
 try clear hcz34_0
 try clear hcz34_1
 try clear hcz34_2
 try clear hcz34_3
 try clear hcz34_4
 try clear hcz37_0
 try clear hcz37_1
 try clear hcz37_2
 try clear hcz37_3
 try clear hcz39_0
 try clear hcz39_1
 try clear hcz39_2
 try clear hcz39_3
 try clear hcz39_4
 try clear hcz45_0
 try clear hcz45_1
 try clear hcz45_2
 try clear hcz45_3
 try clear hcz45_4
 try clear hcz48_0
 try clear hcz48_1
 try clear hcz48_2
 try clear hcz48_3
 try clear hcz49_0
 try clear hcz49_1
 try clear hcz49_2
 try clear hcz49_3
 try clear hcz49_4
 try clear hfz15_0
 try clear hfz15_1
 try clear hfz15_2
 try clear hfz15_3
 try clear hfz15_4
 try clear hfz18_0
 try clear hfz18_1
 try clear hfz18_2
 try clear hfz18_3
 try clear hfz20_0
 try clear hfz20_1
 try clear hfz20_2
 try clear hfz20_3
 try clear hfz20_4
 try clear hfz21_0
 try clear hfz21_1
 try clear hfz21_2
 try clear hfz21_3
 try clear hfz24_0
 try clear hfz24_1
 try clear hfz24_2
 try clear hfz24_3
 try clear hfz24_4
 try clear hfz34_0
 try clear hfz34_1
 try clear hfz34_2
 try clear hfz34_3
 try clear hfz34_4
 try clear hfz37_0
 try clear hfz37_1
 try clear hfz37_2
 try clear hfz37_3
 try clear hfz39_0
 try clear hfz39_1
 try clear hfz39_2
 try clear hfz39_3
 try clear hfz39_4
 try clear hfz45_0
 try clear hfz45_1
 try clear hfz45_2
 try clear hfz45_3
 try clear hfz45_4
 try clear hfz48_0
 try clear hfz48_1
 try clear hfz48_2
 try clear hfz48_3
 try clear hfz49_0
 try clear hfz49_1
 try clear hfz49_2
 try clear hfz49_3
 try clear hfz49_4
 try clear hx107_0
 try clear hx107_1
 try clear hx107_2
 try clear hx107_3
 try clear hx107_4
 try clear hx115_0
 try clear hx13_0
 try clear hx32_0
 try clear p107
 try clear p115
 try clear p13
 try clear p2
 try clear p32
 try clear q107
 try clear q115
 try clear q13
 try clear q32
 obtain ⟨kq, x59_42, rfl, HA, HJ42, HO_4, HO_5, BK108, BK109, HB⟩ := hcut
 cases kq with
 | zero => exact absurd HA.out (by simp [za9])
 | succ kj42 =>
 have H := HA.out
 clear HA
 simp only [za9] at H
 by_cases c54 : x59_42 = true
 · subst c54
   replace H : ((zbo x4_1 (⟨#[99, 111, 110, 115, 116]⟩ : ByteArray) 0 0 ((zaa l0 x17_1).f4)).bind fun bt117 => (if 0 ≤ (wrap64 ((((zaa l0 x17_1).f0).size : Int) - 1)) then (if (wrap64 ((((zaa l0 x17_1).f0).size : Int) - 1)) ≤ (((zaa l0 x17_1).f0).size : Int) then (if 0 ≤ ((zaa l0 x17_1).f2) then (if ((zaa l0 x17_1).f2) < (x5_1.length : Int) then ((zbo bt117.1 (((zaa l0 x17_1).f0).extract 0 ((wrap64 ((((zaa l0 x17_1).f0).size : Int) - 1)) : Int).toNat) (rd x5_1 ((zaa l0 x17_1).f2)) bt117.2 0).bind fun bt122 => (if 0 ≤ ((zaa l0 x17_1).f1) then (if ((zaa l0 x17_1).f1) < (x5_1.length : Int) then (zam kj42 bt122.1 (x5_1.set (((zaa l0 x17_1).f1) : Int).toNat bt122.2) l0 (l0.length : Int) (wrap64 (x17_1 + 1))) else (none)) else (none))) else (none)) else (none)) else (none)) else (none))) = some (r1, r2) := by rw [if_pos rfl] at H; exact H
   replace H := zob H
   obtain ⟨⟨t117, t120⟩, A550, H⟩ := H
   replace H : (if 0 ≤ (wrap64 ((((zaa l0 x17_1).f0).size : Int) - 1)) then (if (wrap64 ((((zaa l0 x17_1).f0).size : Int) - 1)) ≤ (((zaa l0 x17_1).f0).size : Int) then (if 0 ≤ ((zaa l0 x17_1).f2) then (if ((zaa l0 x17_1).f2) < (x5_1.length : Int) then ((zbo t117 (((zaa l0 x17_1).f0).extract 0 ((wrap64 ((((zaa l0 x17_1).f0).size : Int) - 1)) : Int).toNat) (rd x5_1 ((zaa l0 x17_1).f2)) t120 0).bind fun bt122 => (if 0 ≤ ((zaa l0 x17_1).f1) then (if ((zaa l0 x17_1).f1) < (x5_1.length : Int) then (zam kj42 bt122.1 (x5_1.set (((zaa l0 x17_1).f1) : Int).toNat bt122.2) l0 (l0.length : Int) (wrap64 (x17_1 + 1))) else (none)) else (none))) else (none)) else (none)) else (none)) else (none)) = some (r1, r2) := H
   have A55 := zA A550
   clear A550
   obtain ⟨ji56, hji56⟩ : ∃ j_ : Int, (wrap64 ((((zaa l0 x17_1).f0).size : Int) - 1)) = j_ := ⟨_, rfl⟩
   replace H : (if 0 ≤ (ji56) then (if (ji56) ≤ (((zaa l0 x17_1).f0).size : Int) then (if 0 ≤ ((zaa l0 x17_1).f2) then (if ((zaa l0 x17_1).f2) < (x5_1.length : Int) then ((zbo t117 (((zaa l0 x17_1).f0).extract 0 ((ji56) : Int).toNat) (rd x5_1 ((zaa l0 x17_1).f2)) t120 0).bind fun bt122 => (if 0 ≤ ((zaa l0 x17_1).f1) then (if ((zaa l0 x17_1).f1) < (x5_1.length : Int) then (zam kj42 bt122.1 (x5_1.set (((zaa l0 x17_1).f1) : Int).toNat bt122.2) l0 (l0.length : Int) (wrap64 (x17_1 + 1))) else (none)) else (none))) else (none)) else (none)) else (none)) else (none)) = some (r1, r2) := by first | (rw [hji56] at H; exact H) | (simp only [hji56] at H ⊢; exact H)
   (try rw [hji56] at A55)
   have hji56w : (IntKind.i64.wrap ((((zaa l0 x17_1).f0).size : Int) - 1)) = ji56 := (za4 _).trans hji56
   by_cases c57 : 0 ≤ (ji56)
   rotate_left
   · rw [if_neg c57] at H
     exact absurd H (by simp)
   rw [if_pos c57] at H
   have c57b0 := eq_true c57
   have c57b1 : decide (0 ≤ (ji56)) = true := zdt c57
   clear c57
   by_cases c58 : (ji56) ≤ (((zaa l0 x17_1).f0).size : Int)
   rotate_left
   · rw [if_neg c58] at H
     exact absurd H (by simp)
   rw [if_pos c58] at H
   have c58b0 := eq_true c58
   have c58b1 : decide ((ji56) ≤ (((zaa l0 x17_1).f0).size : Int)) = true := zdt c58
   clear c58
   by_cases c59 : 0 ≤ ((zaa l0 x17_1).f2)
   rotate_left
   · rw [if_neg c59] at H
     exact absurd H (by simp)
   rw [if_pos c59] at H
   have c59b0 : decide (0 ≤ ((zaa l0 x17_1).f2)) = true := zdt c59
   clear c59
   by_cases c60 : ((zaa l0 x17_1).f2) < (x5_1.length : Int)
   rotate_left
   · rw [if_neg c60] at H
     exact absurd H (by simp)
   rw [if_pos c60] at H
   have c60b0 : decide (((zaa l0 x17_1).f2) < (x5_1.length : Int)) = true := zdt c60
   clear c60
   replace H := zob H
   obtain ⟨⟨t122, t125⟩, A610, H⟩ := H
   replace H : (if 0 ≤ ((zaa l0 x17_1).f1) then (if ((zaa l0 x17_1).f1) < (x5_1.length : Int) then (zam kj42 t122 (x5_1.set (((zaa l0 x17_1).f1) : Int).toNat t125) l0 (l0.length : Int) (wrap64 (x17_1 + 1))) else (none)) else (none)) = some (r1, r2) := H
   have A61 := zA A610
   clear A610
   by_cases c62 : 0 ≤ ((zaa l0 x17_1).f1)
   rotate_left
   · rw [if_neg c62] at H
     exact absurd H (by simp)
   rw [if_pos c62] at H
   have c62b0 : decide (0 ≤ ((zaa l0 x17_1).f1)) = true := zdt c62
   clear c62
   by_cases c63 : ((zaa l0 x17_1).f1) < (x5_1.length : Int)
   rotate_left
   · rw [if_neg c63] at H
     exact absurd H (by simp)
   rw [if_pos c63] at H
   have c63b0 : decide (((zaa l0 x17_1).f1) < (x5_1.length : Int)) = true := zdt c63
   clear c63
   obtain ⟨y126, hy126⟩ : ∃ y_ : List Int, y_ = (x5_1.set (((zaa l0 x17_1).f1) : Int).toNat t125) := ⟨_, rfl⟩
   replace H : (zam kj42 t122 y126 l0 (l0.length : Int) (wrap64 (x17_1 + 1))) = some (r1, r2) := by first | (rw [hy126]; with_reducible exact H) | (have H2_ := (Option.bind_some _ _).symm.trans H; rw [hy126]; with_reducible exact H2_) | (have H2_ := (Option.bind_some _ _).symm.trans H; with_reducible exact H2_) | with_reducible exact H | (rw [hy126]; exact H) | exact H
   have Ny126 := zA hy126
   clear hy126
   have H' := zA H
   clear H
   have hnb65 := NB109_108.out
   have hnc65 := NB108_109.out
   obtain ⟨hcz66_0, hcz66_1, hcz66_2, hcz66_3⟩ := zc4 wc (.string (⟨#[99, 111, 110, 115, 116]⟩ : ByteArray)) (.int .i64 0) (.int .i64 0) (.int .i64 ((zaa l0 x17_1).f4)) BK109.out
   obtain ⟨hfz66_0, hfz66_1, hfz66_2, hfz66_3⟩ := zf4 BK109.out
   obtain ⟨Ao67, co67, eo67⟩ := Kd.R_slice HO_4.out
   subst eo67
   try go_wp2_with (first | ((with_reducible refine zah (f := 164) rfl ?_); refine za3 (some 68) rfl rfl Try.func164 (by kernel_rfl) rfl #[.slice Ao67 x4_1.length co67, .agg #[.string (⟨#[99, 111, 110, 115, 116]⟩ : ByteArray), .int .i64 0, .int .i64 0, .int .i64 ((zaa l0 x17_1).f4)]] rfl (by (try simp only [List.map_toArray, List.map_cons, List.map_nil]); first | done | rfl | (simp only [List.length_drop, List.length_take]; rfl)) ?_; (with_reducible refine (zdr (fun k_ => some k_ = (.slice Ao67 x4_1.length co67 : Value).ownBlock) (.slice Ao67 x4_1.length co67) x4_1 (⟨#[99, 111, 110, 115, 116]⟩ : ByteArray) 0 0 ((zaa l0 x17_1).f4) t117 t120 w _ ?side1 ?side2 A55.out).mono ?_); (case side1 => repeat (first | (with_reducible first | exact HB.out | apply zba | apply zbn | apply zbd | refine zab ?_ GE108.out | refine zab ?_ GE109.out) | exact HB.out)); (case side2 => exact Kd.R_tight rfl HO_4.out); rintro e w68 ⟨v118, rfl, ho0, hb, hkp⟩; refine ⟨_, rfl, ?_⟩; have n0_ := zA (Kd.R_mono (ok' := fun k_ => True) (Kd.R_keptB ((Kd.R_apart' HO_5.out (Kd.R_typed HO_4.out) (by decide))) hkp (fun k_ hk_ hs_ => (hk_.2) hs_)) (fun k_ hk_ => trivial)); have n1_ := zA (ze3 (by (with_reducible repeat (first | refine zkn ?_ _ | refine zkd ?_ | refine zka ?_ _)); exact BK108.out) hkp (fun hs_ => (fun e_ => (Kd.R_ne HO_4.out BK108.out (by decide)) e_) hs_)); have n2_ := zA (ze3 (by (with_reducible repeat (first | refine zkn ?_ _ | refine zkd ?_ | refine zka ?_ _)); exact BK109.out) hkp (fun hs_ => (fun e_ => (Kd.R_away HO_4.out (fun _ hk => hk)) e_) hs_)); have n3_ := zA (Kd.R_mono (ok' := fun k_ => k_ ≠ gb109) ho0 (fun k_ hk_ => Or.elim hk_ (fun hs_ => fun e_ => (Kd.R_away HO_4.out (fun _ hk => hk)) (by rw [← e_]; exact hs_)) (fun hn_ => (Kd.freshB (g := gb109) (o := .cells #[.string (⟨#[99, 111, 110, 115, 116]⟩ : ByteArray), .int .i64 0, .int .i64 0, .int .i64 ((zaa l0 x17_1).f4)] 72 (0, 0)) (by (with_reducible repeat (first | refine zkn ?_ _ | refine zkd ?_ | refine zka ?_ _)); exact BK109.out) k_ hn_)))); have n4_ := zA (hb); clear HO_5 BK108; clear BK109 HB HO_4; have HO_5 := n0_; have BK108 := n1_; have BK109 := n2_; have HO119 := n3_; have HB := n4_; clear n0_ n1_ n2_ n3_ n4_; (try clear hb); (try clear hkp); (try clear ho0)))
   have n0_ := zA (zRd HO_5.out)
   have n1_ := zA (zRd HO119.out)
   have n2_ := zA (zkd BK108.out)
   have n3_ := zA (zkd BK109.out)
   have n4_ := zA (zbd HB.out)
   clear HO_5
   clear HO119
   clear BK108
   clear BK109
   clear HB
   have HO_5 := n0_
   have HO119 := n1_
   have BK108 := n2_
   have BK109 := n3_
   have HB := n4_
   clear n0_ n1_ n2_ n3_ n4_
   obtain ⟨Ao70, co70, eo70⟩ := Kd.R_slice HO_5.out
   (first | subst eo70 | (injection eo70 with f1_ f2_ f3_; have f4_ := f1_.symm; have f5_ := f3_.symm; clear f1_ f2_ f3_; subst f4_; subst f5_))
   have p121 : 0 ≤ (((zaa l0 x17_1).f2) : Int) := zde (by assumption)
   have q121 : ((zaa l0 x17_1).f2) < (x5_1.length : Int) := zde (by assumption)
   obtain ⟨ad121, e121, hx121_0⟩ := Kd.at_int (zRr HO_5.out).2.2 ((zaa l0 x17_1).f2) p121 q121
   cases e121
   replace p121 := eq_true p121
   replace q121 := eq_true q121
   obtain ⟨Ao71, co71, eo71⟩ := Kd.R_slice HO119.out
   (first | subst eo71 | (injection eo71 with f1_ f2_ f3_; have f4_ := f1_.symm; have f5_ := f3_.symm; clear f1_ f2_ f3_; subst f4_; subst f5_))
   refine zks (n := 21) (S := fun w' => w'.cell? ⟨gb108, 0, none⟩ = some (.string ((zaa l0 x17_1).f0)) ∧ w'.cell? ⟨gb108, 1, none⟩ = some (.int .i64 ((zaa l0 x17_1).f1)) ∧ w'.cell? ⟨gb108, 2, none⟩ = some (.int .i64 ((zaa l0 x17_1).f2)) ∧ w'.cell? ⟨gb108, 3, none⟩ = some (.int .i64 ((zaa l0 x17_1).f3)) ∧ w'.cell? ⟨gb108, 4, none⟩ = some (.int .i64 ((zaa l0 x17_1).f4)) ∧ w'.cell? (ad121.add (((zaa l0 x17_1).f2)).toNat) = some (.int .i64 (rd x5_1 ((zaa l0 x17_1).f2)))) (ds := []) #[false, false, false, false, false, false, false, false, false, false, false, false, false, false, false, false, false, false, false, false, false] (by kernel_rfl) rfl rfl ⟨(zaf BK108.out 0).trans rfl, (zaf BK108.out 1).trans rfl, (zaf BK108.out 2).trans rfl, (zaf BK108.out 3).trans rfl, (zaf BK108.out 4).trans rfl, hx121_0⟩ (fun hHeld => ?_); refine zgu zjk zi9 (fun HT_ HW_ => ?_)
   generalize w68.drew = w69 at HO_5 HO119 BK108 BK109 HB hx121_0 hHeld ⊢
   refine zcs (i := 0) (N := some 72) (v := ?_) (a' := ?_) #[true, false, false, false, false, false, false, false, false, false, false, false, false, false, false, false, false, false, false, false, false] rfl rfl (zbs HT_.out (by kernel_rfl)) (fun _ _ _ h => h) (Or.inl ⟨by rfl, ?_⟩) ?_ ?_
   rotate_left
   · intro w'
     go_simp
     with_reducible rfl
   rotate_left
   · simp only [Act.put, List.setIfInBounds_toArray, List.set_cons_zero, List.set_cons_succ, za4, za6]
     rfl
   refine zcs (i := 1) (N := some 73) (v := ?_) (a' := ?_) #[true, true, false, false, false, false, false, false, false, false, false, false, false, false, false, false, false, false, false, false, false] rfl rfl (zbs HT_.out (by kernel_rfl)) (fun _ _ _ h => h) (Or.inl ⟨by rfl, ?_⟩) ?_ ?_
   rotate_left
   · intro w'
     go_simp
     with_reducible rfl
   rotate_left
   · simp only [Act.put, List.setIfInBounds_toArray, List.set_cons_zero, List.set_cons_succ, za4, za6]
     rfl
   refine zcs (i := 3) (N := some 75) (v := ?_) (a' := ?_) #[true, true, false, true, false, false, false, false, false, false, false, false, false, false, false, false, false, false, false, false, false] rfl rfl (zbs HT_.out (by kernel_rfl)) (fun _ _ _ h => h) (Or.inl ⟨by rfl, ?_⟩) ?_ ?_
   rotate_left
   · intro w'
     go_simp
     with_reducible rfl
   rotate_left
   · simp only [Act.put, List.setIfInBounds_toArray, List.set_cons_zero, List.set_cons_succ, za4, za6]
     rfl
   refine zcs (i := 8) (N := some 80) (v := ?_) (a' := ?_) #[true, true, false, true, false, false, false, false, true, false, false, false, false, false, false, false, false, false, false, false, false] rfl rfl (zbs HT_.out (by kernel_rfl)) (fun _ _ _ h => h) (Or.inl ⟨by rfl, ?_⟩) ?_ ?_
   rotate_left
   · intro w'
     go_simp
     with_reducible rfl
   rotate_left
   · simp only [Act.put, List.setIfInBounds_toArray, List.set_cons_zero, List.set_cons_succ, za4, za6]
     rfl
   refine zcs (i := 9) (N := some 81) (v := ?_) (a' := ?_) #[true, true, false, true, false, false, false, false, true, true, false, false, false, false, false, false, false, false, false, false, false] rfl rfl (zbs HT_.out (by kernel_rfl)) (fun _ _ _ h => h) (Or.inl ⟨by rfl, ?_⟩) ?_ ?_
   rotate_left
   · intro w'
     go_simp
     with_reducible rfl
   rotate_left
   · simp only [Act.put, List.setIfInBounds_toArray, List.set_cons_zero, List.set_cons_succ, za4, za6]
     rfl
   refine zcs (i := 13) (N := some 85) (v := ?_) (a' := ?_) #[true, true, false, true, false, false, false, false, true, true, false, false, false, true, false, false, false, false, false, false, false] rfl rfl (zbs HT_.out (by kernel_rfl)) (fun _ _ _ h => h) (Or.inl ⟨by rfl, ?_⟩) ?_ ?_
   rotate_left
   · intro w'
     go_simp
     with_reducible rfl
   rotate_left
   · simp only [Act.put, List.setIfInBounds_toArray, List.set_cons_zero, List.set_cons_succ, za4, za6]
     rfl
   refine take_ (i := 2) (N := some 74) (v := ?_) (a' := ?_) #[true, true, true, true, false, false, false, false, true, true, false, false, false, true, false, false, false, false, false, false, false] rfl rfl (zd3 HT_.out HW_.out (by kernel_rfl)) (fun _ _ _ h => h) (Or.inl ⟨by rfl, ?_⟩) hHeld ?_ ?_
   rotate_left
   · rintro w' ⟨s0, s1, s2, s3, s4, s5⟩
     go_simp
     with_reducible rfl
   rotate_left
   · simp only [Act.put, List.setIfInBounds_toArray, List.set_cons_zero, List.set_cons_succ, za4, za6]
     rfl
   refine take_ (i := 4) (N := some 76) (v := ?_) (a' := ?_) #[true, true, true, true, true, false, false, false, true, true, false, false, false, true, false, false, false, false, false, false, false] rfl rfl (zd3 HT_.out HW_.out (by kernel_rfl)) (fun _ _ _ h => h) (Or.inl ⟨by rfl, ?_⟩) hHeld ?_ ?_
   rotate_left
   · rintro w' ⟨s0, s1, s2, s3, s4, s5⟩
     go_simp
     with_reducible rfl
   rotate_left
   · simp only [Act.put, List.setIfInBounds_toArray, List.set_cons_zero, List.set_cons_succ, za4, za6]
     rfl
   refine zcs (i := 5) (N := some 77) (v := ?_) (a' := ?_) #[true, true, true, true, true, true, false, false, true, true, false, false, false, true, false, false, false, false, false, false, false] rfl rfl (zbs HT_.out (by kernel_rfl)) (fun _ _ _ h => h) (Or.inl ⟨by rfl, ?_⟩) ?_ ?_
   rotate_left
   · intro w'
     go_simp
     with_reducible rfl
   rotate_left
   · simp only [Act.put, List.setIfInBounds_toArray, List.set_cons_zero, List.set_cons_succ, za4, za6]
     rfl
   refine zcs (i := 6) (N := some 78) (v := ?_) (a' := ?_) #[true, true, true, true, true, true, true, false, true, true, false, false, false, true, false, false, false, false, false, false, false] rfl rfl (zbs HT_.out (by kernel_rfl)) (fun _ _ _ h => h) (Or.inl ⟨by rfl, ?_⟩) ?_ ?_
   rotate_left
   · intro w'
     go_simp
     with_reducible rfl
   rotate_left
   · simp only [Act.put, List.setIfInBounds_toArray, List.set_cons_zero, List.set_cons_succ, za4, za6]
     rfl
   refine zcs (i := 7) (N := some 79) (v := ?_) (a' := ?_) #[true, true, true, true, true, true, true, true, true, true, false, false, false, true, false, false, false, false, false, false, false] rfl rfl (zbs HT_.out (by kernel_rfl)) (fun _ _ _ h => h) (Or.inl ⟨by rfl, ?_⟩) ?_ ?_
   rotate_left
   · intro w'
     go_simp
     with_reducible rfl
   rotate_left
   · simp only [Act.put, List.setIfInBounds_toArray, List.set_cons_zero, List.set_cons_succ, za4, za6]
     rfl
   refine take_ (i := 10) (N := some 82) (v := ?_) (a' := ?_) #[true, true, true, true, true, true, true, true, true, true, true, false, false, true, false, false, false, false, false, false, false] rfl rfl (zd3 HT_.out HW_.out (by kernel_rfl)) (fun _ _ _ h => h) (Or.inl ⟨by rfl, ?_⟩) hHeld ?_ ?_
   rotate_left
   · rintro w' ⟨s0, s1, s2, s3, s4, s5⟩
     go_simp
     with_reducible rfl
   rotate_left
   · simp only [Act.put, List.setIfInBounds_toArray, List.set_cons_zero, List.set_cons_succ, za4, za6]
     rfl
   refine zcs (i := 11) (N := some 83) (v := ?_) (a' := ?_) #[true, true, true, true, true, true, true, true, true, true, true, true, false, true, false, false, false, false, false, false, false] rfl rfl (zbs HT_.out (by kernel_rfl)) (fun _ _ _ h => h) (Or.inl ⟨by rfl, ?_⟩) ?_ ?_
   rotate_left
   · intro w'
     go_simp
     with_reducible rfl
   rotate_left
   · simp only [Act.put, List.setIfInBounds_toArray, List.set_cons_zero, List.set_cons_succ, za4, za6]
     rfl
   refine take_ (i := 12) (N := some 84) (v := ?_) (a' := ?_) #[true, true, true, true, true, true, true, true, true, true, true, true, true, true, false, false, false, false, false, false, false] rfl rfl (zd3 HT_.out HW_.out (by kernel_rfl)) (fun _ _ _ h => h) (Or.inl ⟨by rfl, ?_⟩) hHeld ?_ ?_
   rotate_left
   · rintro w' ⟨s0, s1, s2, s3, s4, s5⟩
     go_simp
     with_reducible rfl
   rotate_left
   · simp only [Act.put, List.setIfInBounds_toArray, List.set_cons_zero, List.set_cons_succ, za4, za6]
     rfl
   refine zcs (i := 14) (N := some 86) (v := ?_) (a' := ?_) #[true, true, true, true, true, true, true, true, true, true, true, true, true, true, true, false, false, false, false, false, false] rfl rfl (zbs HT_.out (by kernel_rfl)) (fun _ _ _ h => h) (Or.inl ⟨by rfl, ?_⟩) ?_ ?_
   rotate_left
   · intro w'
     go_simp
     with_reducible rfl
   rotate_left
   · simp only [Act.put, List.setIfInBounds_toArray, List.set_cons_zero, List.set_cons_succ, za4, za6]
     rfl
   refine one_ (i := 15) (N := some 87) #[true, true, true, true, true, true, true, true, true, true, true, true, true, true, true, true, false, false, false, false, false] rfl rfl (zky HT_.out (by kernel_rfl)) (by decide) (fun K hK => ?_)
   refine zku Try.func164 (by kernel_rfl) rfl #[.slice Ao71 t117.length co71, .agg #[.string (((zaa l0 x17_1).f0).extract 0 ((ji56) : Int).toNat), .int .i64 (rd x5_1 ((zaa l0 x17_1).f2)), .int .i64 t120, .int .i64 0]] (by rfl) rfl rfl (by (try simp only [List.map_toArray, List.map_cons, List.map_nil]); first | done | (simp only [hji56]; rfl) | rfl | (simp only [List.length_drop, List.length_take]; rfl)) ?_
   with_reducible refine (zdr (fun k_ => some k_ = (.slice Ao71 t117.length co71 : Value).ownBlock) (.slice Ao71 t117.length co71) t117 (((zaa l0 x17_1).f0).extract 0 ((ji56) : Int).toNat) (rd x5_1 ((zaa l0 x17_1).f2)) t120 0 t122 t125 w _ ?side1 ?side2 A61.out).mono ?_
   (case side1 => repeat (first | (with_reducible first | exact HB.out | apply zba | apply zbn | apply zbd | refine zab ?_ GE108.out | refine zab ?_ GE109.out) | exact HB.out))
   (case side2 => exact Kd.R_tight rfl HO119.out)
   rintro e w72 ⟨v123, rfl, ho0, hb, hkp⟩
   have HS5_ := zkq (hHeld.2.2.2.2.2) hkp (by first | (rw [zds]; exact (fun hs_ => ((((Kd.R_apart' HO_5.out (Kd.R_typed HO119.out) (by decide))).1 _ rfl).2) hs_)) | (show ¬ _; simp only [zds]; exact (fun hs_ => ((((Kd.R_apart' HO_5.out (Kd.R_typed HO119.out) (by decide))).1 _ rfl).2) hs_)) | exact (fun hs_ => ((((Kd.R_apart' HO_5.out (Kd.R_typed HO119.out) (by decide))).1 _ rfl).2) hs_))
   refine ⟨_, rfl, ?_⟩
   have n0_ := zA (Kd.R_mono (ok' := fun k_ => True) (Kd.R_keptB ((Kd.R_apart' HO_5.out (Kd.R_typed HO119.out) (by decide))) hkp (fun k_ hk_ hs_ => (hk_.2) hs_)) (fun k_ hk_ => trivial))
   have n1_ := zA (ze3 (by (with_reducible repeat (first | refine zkn ?_ _ | refine zkd ?_ | refine zka ?_ _)); exact BK108.out) hkp (fun hs_ => (fun e_ => (Kd.R_ne HO119.out BK108.out (by decide)) e_) hs_))
   have n2_ := zA (ze3 (by (with_reducible repeat (first | refine zkn ?_ _ | refine zkd ?_ | refine zka ?_ _)); exact BK109.out) hkp (fun hs_ => (fun e_ => (Kd.R_away HO119.out (fun _ hk => hk)) e_) hs_))
   have n3_ := zA (Kd.R_mono (ok' := fun k_ => k_ ≠ gb109) ho0 (fun k_ hk_ => Or.elim hk_ (fun hs_ => fun e_ => (Kd.R_away HO119.out (fun _ hk => hk)) (by rw [← e_]; exact hs_)) (fun hn_ => (Kd.freshB (g := gb109) (o := .cells #[.string (⟨#[99, 111, 110, 115, 116]⟩ : ByteArray), .int .i64 0, .int .i64 0, .int .i64 ((zaa l0 x17_1).f4)] 72 (0, 0)) (by (with_reducible repeat (first | refine zkn ?_ _ | refine zkd ?_ | refine zka ?_ _)); exact BK109.out) k_ hn_))))
   have n4_ := zA (hb)
   clear HO_5
   clear BK108
   clear BK109
   clear HB
   clear HO119
   have HO_5 := n0_
   have BK108 := n1_
   have BK109 := n2_
   have HO124 := n3_
   have HB := n4_
   clear n0_ n1_ n2_ n3_ n4_
   (try clear hb)
   (try clear hkp)
   (try clear ho0)
   refine hK.out _ _ ⟨(zaf BK108.out 0).trans rfl, (zaf BK108.out 1).trans rfl, (zaf BK108.out 2).trans rfl, (zaf BK108.out 3).trans rfl, (zaf BK108.out 4).trans rfl, HS5_⟩ (fun hHeld => ?_)
   clear hK K
   refine zh6 (a' := ?_) ?_ ?_
   rotate_left
   · show Act.put _ (some 87) _ = _
     simp only [Act.put, List.setIfInBounds_toArray, List.set_cons_zero, List.set_cons_succ, za4, za6]
     rfl
   refine zcs (i := 16) (N := some 71) (v := ?_) (a' := ?_) #[true, true, true, true, true, true, true, true, true, true, true, true, true, true, true, true, true, false, false, false, false] rfl rfl (zbs HT_.out (by kernel_rfl)) (fun _ _ _ h => h) (Or.inl ⟨by rfl, ?_⟩) ?_ ?_
   rotate_left
   · intro w'
     go_simp
     with_reducible rfl
   rotate_left
   · simp only [Act.put, List.setIfInBounds_toArray, List.set_cons_zero, List.set_cons_succ, za4, za6]
     rfl
   refine zcs (i := 17) (N := some 88) (v := ?_) (a' := ?_) #[true, true, true, true, true, true, true, true, true, true, true, true, true, true, true, true, true, true, false, false, false] rfl rfl (zbs HT_.out (by kernel_rfl)) (fun _ _ _ h => h) (Or.inl ⟨by rfl, ?_⟩) ?_ ?_
   rotate_left
   · intro w'
     go_simp
     with_reducible rfl
   rotate_left
   · simp only [Act.put, List.setIfInBounds_toArray, List.set_cons_zero, List.set_cons_succ, za4, za6]
     rfl
   refine zcs (i := 18) (N := some 89) (v := ?_) (a' := ?_) #[true, true, true, true, true, true, true, true, true, true, true, true, true, true, true, true, true, true, true, false, false] rfl rfl (zbs HT_.out (by kernel_rfl)) (fun _ _ _ h => h) (Or.inl ⟨by rfl, ?_⟩) ?_ ?_
   rotate_left
   · intro w'
     go_simp
     with_reducible rfl
   rotate_left
   · simp only [Act.put, List.setIfInBounds_toArray, List.set_cons_zero, List.set_cons_succ, za4, za6]
     rfl
   refine zcs (i := 19) (N := some 4) (v := ?_) (a' := ?_) #[true, true, true, true, true, true, true, true, true, true, true, true, true, true, true, true, true, true, true, true, false] rfl rfl (zbs HT_.out (by kernel_rfl)) (fun _ _ _ h => h) (Or.inl ⟨by rfl, ?_⟩) ?_ ?_
   rotate_left
   · intro w'
     go_simp
     with_reducible rfl
   rotate_left
   · simp only [Act.put, List.setIfInBounds_toArray, List.set_cons_zero, List.set_cons_succ, za4, za6]
     rfl
   refine zcs (i := 20) (N := some 9) (v := ?_) (a' := ?_) #[true, true, true, true, true, true, true, true, true, true, true, true, true, true, true, true, true, true, true, true, true] rfl rfl (zbs HT_.out (by kernel_rfl)) (fun _ _ _ h => h) (Or.inl ⟨by rfl, ?_⟩) ?_ ?_
   rotate_left
   · intro w'
     go_simp
     with_reducible rfl
   rotate_left
   · simp only [Act.put, List.setIfInBounds_toArray, List.set_cons_zero, List.set_cons_succ, za4, za6]
     rfl
   refine zoc (zjf HT_.out (by kernel_rfl)) ?_
   obtain ⟨hcz73_0, hcz73_1, hcz73_2, hcz73_3, hcz73_4⟩ := zc5 w72 (.string ((zaa l0 x17_1).f0)) (.int .i64 ((zaa l0 x17_1).f1)) (.int .i64 ((zaa l0 x17_1).f2)) (.int .i64 ((zaa l0 x17_1).f3)) (.int .i64 ((zaa l0 x17_1).f4)) BK108.out
   obtain ⟨hfz73_0, hfz73_1, hfz73_2, hfz73_3, hfz73_4⟩ := zf5 BK108.out
   have p64 : 0 ≤ (((zaa l0 x17_1).f1) : Int) := zde (by assumption)
   have q64 : (((zaa l0 x17_1).f1) : Int) < ((x5_1.length : Int) : Int) := zde (by assumption)
   obtain ⟨go64, co64, eo64, gb64, gl64, cl64, HG64⟩ := Kd.R_form HO_5.out (by omega)
   (first | cases eo64 | (injection eo64 with ea_ en_ ec_; (first | subst ea_ | (injection ea_ with ea_; subst ea_)); subst ec_; clear en_))
   have GB64 := zA gb64
   have GG64 := zA HG64
   clear gb64 gl64 HG64
   (first | simp only [zdk] at hx121_0 | skip)
   obtain ⟨hx64_0, hf64_0⟩ := Kd.R_celln 0 HO_5.out (((zaa l0 x17_1).f1) : Int) p64 q64
   replace p64 := eq_true p64
   replace q64 := eq_true q64
   obtain ⟨hy74_, hz74_⟩ := Kd.R_celln 0 HO_5.out (((zaa l0 x17_1).f1) : Int) (zde (by assumption)) (zde (by assumption))
   have HP74 := Kd.R_putg HO_5.out (((zaa l0 x17_1).f1) : Int) t125
   try go_wp2_with (first | ((with_reducible refine zbk (t := 3) (p := 142) rfl ?_); refine zbj (t := 3) (p := 142) (v := ?vo_w75) (w1 := (w72.setCell ⟨go64, (((zaa l0 x17_1).f1) : Int).toNat, none⟩ (.int .i64 t125))) ?hg ?ho ?hn ?hr ?_; (case ho => rfl); (case hg => rfl); (case hn => rfl); (case hr => go_simp <;> rfl); intro w75 hw; have hg : w72.grownBy w75 (some go64) := (by rw [hw]; exact HP74.2); have hp_ : Kd.R (Kd.int .i64) 3 w75 w.heap.size (fun _ => True) (.slice (some ⟨go64, 0, none⟩) x5_1.length co70) y126 := (by rw [hw, Ny126.out]; exact HP74.1); clear HP74; have n0_ := zA (hp_); have n1_ := zA (zed (g := gb108) (o := .cells #[.string ((zaa l0 x17_1).f0), .int .i64 ((zaa l0 x17_1).f1), .int .i64 ((zaa l0 x17_1).f2), .int .i64 ((zaa l0 x17_1).f3), .int .i64 ((zaa l0 x17_1).f4)] 94 (0, 0)) (by (with_reducible repeat (first | refine zkn ?_ _ | refine zkd ?_ | refine zka ?_ _)); exact BK108.out) hg (Kd.R_ne HO_5.out BK108.out (by decide))); have n2_ := zA (zed (g := gb109) (o := .cells #[.string (⟨#[99, 111, 110, 115, 116]⟩ : ByteArray), .int .i64 0, .int .i64 0, .int .i64 ((zaa l0 x17_1).f4)] 72 (0, 0)) (by (with_reducible repeat (first | refine zkn ?_ _ | refine zkd ?_ | refine zka ?_ _)); exact BK109.out) hg (Kd.R_ne HO_5.out BK109.out (by decide))); have n3_ := zA (Kd.R_over' (v := (.slice (some ⟨go64, 0, none⟩) x5_1.length co70)) (by (with_reducible repeat (first | apply zRa | apply zRn | apply zRd)); exact HO124.out) (Kd.R_typed HO_5.out) (by decide) hg); have n4_ := zA ((by rw [hw]; exact zab (HB.out) GB64.out : Below w.heap.size w w75)); clear HO_5 BK108; clear BK109 HO124 HB; have HO_5 := n0_; have BK108 := n1_; have BK109 := n2_; have HO124 := n3_; have HB := n4_; clear n0_ n1_ n2_ n3_ n4_; clear hg hw hp_))
   go_roundg kj42
   case measure => have := HK1.out; have := HJ42.out; omega
   case rel => exact ⟨(t122), (y126), (wrap64 (x17_1 + 1)), (by first | rfl | (simp; done) | (simp [*]; done)), H', ⟨by have := HK1.out; have := HJ42.out; omega⟩, ⟨by (with_reducible repeat (first | apply zRa | apply zRn | apply zRd)); exact Kd.R_mono HO124.out (fun _ hk => trivial)⟩, ⟨by (with_reducible repeat (first | apply zRa | apply zRn | apply zRd)); exact HO_5.out⟩, ⟨by repeat (first | (with_reducible first | exact HB.out | apply zba | apply zbn | apply zbd | refine zab ?_ GE108.out | refine zab ?_ GE109.out) | exact HB.out)⟩⟩
 replace c54 := zbf c54
 subst c54
 replace H : (if ((zaa l0 x17_1).f0).toList = ([108, 101, 97] : List UInt8) then ((zbo x4_1 (⟨#[99, 111, 110, 115, 116]⟩ : ByteArray) 0 0 ((zaa l0 x17_1).f4)).bind fun bt127 => (if 0 ≤ ((zaa l0 x17_1).f3) then (if ((zaa l0 x17_1).f3) < (x5_1.length : Int) then ((zbo bt127.1 (⟨#[115, 104, 108]⟩ : ByteArray) (rd x5_1 ((zaa l0 x17_1).f3)) bt127.2 0).bind fun bt132 => (if 0 ≤ ((zaa l0 x17_1).f2) then (if ((zaa l0 x17_1).f2) < (x5_1.length : Int) then ((zbo bt132.1 (⟨#[97, 100, 100]⟩ : ByteArray) (rd x5_1 ((zaa l0 x17_1).f2)) bt132.2 0).bind fun bt137 => (if 0 ≤ ((zaa l0 x17_1).f1) then (if ((zaa l0 x17_1).f1) < (x5_1.length : Int) then (zam kj42 bt137.1 (x5_1.set (((zaa l0 x17_1).f1) : Int).toNat bt137.2) l0 (l0.length : Int) (wrap64 (x17_1 + 1))) else (none)) else (none))) else (none)) else (none))) else (none)) else (none))) else (if ((zaa l0 x17_1).f0).toList = ([110, 111, 116] : List UInt8) then (zbt kj42 x4_1 x5_1 l0 (l0.length : Int) x17_1 (((zaa l0 x17_1).f0).toList == ([110, 111, 116] : List UInt8)) ((zaa l0 x17_1).f0) ((zaa l0 x17_1).f1) ((zaa l0 x17_1).f2) ((zaa l0 x17_1).f3) ((zaa l0 x17_1).f4)) else (zbt kj42 x4_1 x5_1 l0 (l0.length : Int) x17_1 (((zaa l0 x17_1).f0).toList == ([110, 101, 103] : List UInt8)) ((zaa l0 x17_1).f0) ((zaa l0 x17_1).f1) ((zaa l0 x17_1).f2) ((zaa l0 x17_1).f3) ((zaa l0 x17_1).f4)))) = some (r1, r2) := by rw [if_neg (show ¬ (false = true) by decide)] at H; exact H
 by_cases c76 : ((zaa l0 x17_1).f0).toList = ([108, 101, 97] : List UInt8)
 · rw [if_pos c76] at H
   have c76b0 : (((zaa l0 x17_1).f0).toList == ([108, 101, 97] : List UInt8)) = true := beq_iff_eq.mpr c76
   have c76b1 : (((zaa l0 x17_1).f0).toList != ([108, 101, 97] : List UInt8)) = false := bne_eq_false_iff_eq.mpr c76
   clear c76
   replace H := zob H
   obtain ⟨⟨t127, t130⟩, A770, H⟩ := H
   replace H : (if 0 ≤ ((zaa l0 x17_1).f3) then (if ((zaa l0 x17_1).f3) < (x5_1.length : Int) then ((zbo t127 (⟨#[115, 104, 108]⟩ : ByteArray) (rd x5_1 ((zaa l0 x17_1).f3)) t130 0).bind fun bt132 => (if 0 ≤ ((zaa l0 x17_1).f2) then (if ((zaa l0 x17_1).f2) < (x5_1.length : Int) then ((zbo bt132.1 (⟨#[97, 100, 100]⟩ : ByteArray) (rd x5_1 ((zaa l0 x17_1).f2)) bt132.2 0).bind fun bt137 => (if 0 ≤ ((zaa l0 x17_1).f1) then (if ((zaa l0 x17_1).f1) < (x5_1.length : Int) then (zam kj42 bt137.1 (x5_1.set (((zaa l0 x17_1).f1) : Int).toNat bt137.2) l0 (l0.length : Int) (wrap64 (x17_1 + 1))) else (none)) else (none))) else (none)) else (none))) else (none)) else (none)) = some (r1, r2) := H
   have A77 := zA A770
   clear A770
   by_cases c78 : 0 ≤ ((zaa l0 x17_1).f3)
   rotate_left
   · rw [if_neg c78] at H
     exact absurd H (by simp)
   rw [if_pos c78] at H
   have c78b0 : decide (0 ≤ ((zaa l0 x17_1).f3)) = true := zdt c78
   clear c78
   by_cases c79 : ((zaa l0 x17_1).f3) < (x5_1.length : Int)
   rotate_left
   · rw [if_neg c79] at H
     exact absurd H (by simp)
   rw [if_pos c79] at H
   have c79b0 : decide (((zaa l0 x17_1).f3) < (x5_1.length : Int)) = true := zdt c79
   clear c79
   replace H := zob H
   obtain ⟨⟨t132, t135⟩, A800, H⟩ := H
   replace H : (if 0 ≤ ((zaa l0 x17_1).f2) then (if ((zaa l0 x17_1).f2) < (x5_1.length : Int) then ((zbo t132 (⟨#[97, 100, 100]⟩ : ByteArray) (rd x5_1 ((zaa l0 x17_1).f2)) t135 0).bind fun bt137 => (if 0 ≤ ((zaa l0 x17_1).f1) then (if ((zaa l0 x17_1).f1) < (x5_1.length : Int) then (zam kj42 bt137.1 (x5_1.set (((zaa l0 x17_1).f1) : Int).toNat bt137.2) l0 (l0.length : Int) (wrap64 (x17_1 + 1))) else (none)) else (none))) else (none)) else (none)) = some (r1, r2) := H
   have A80 := zA A800
   clear A800
   by_cases c81 : 0 ≤ ((zaa l0 x17_1).f2)
   rotate_left
   · rw [if_neg c81] at H
     exact absurd H (by simp)
   rw [if_pos c81] at H
   have c81b0 : decide (0 ≤ ((zaa l0 x17_1).f2)) = true := zdt c81
   clear c81
   by_cases c82 : ((zaa l0 x17_1).f2) < (x5_1.length : Int)
   rotate_left
   · rw [if_neg c82] at H
     exact absurd H (by simp)
   rw [if_pos c82] at H
   have c82b0 : decide (((zaa l0 x17_1).f2) < (x5_1.length : Int)) = true := zdt c82
   clear c82
   replace H := zob H
   obtain ⟨⟨t137, t140⟩, A830, H⟩ := H
   replace H : (if 0 ≤ ((zaa l0 x17_1).f1) then (if ((zaa l0 x17_1).f1) < (x5_1.length : Int) then (zam kj42 t137 (x5_1.set (((zaa l0 x17_1).f1) : Int).toNat t140) l0 (l0.length : Int) (wrap64 (x17_1 + 1))) else (none)) else (none)) = some (r1, r2) := H
   have A83 := zA A830
   clear A830
   by_cases c84 : 0 ≤ ((zaa l0 x17_1).f1)
   rotate_left
   · rw [if_neg c84] at H
     exact absurd H (by simp)
   rw [if_pos c84] at H
   have c84b0 : decide (0 ≤ ((zaa l0 x17_1).f1)) = true := zdt c84
   clear c84
   by_cases c85 : ((zaa l0 x17_1).f1) < (x5_1.length : Int)
   rotate_left
   · rw [if_neg c85] at H
     exact absurd H (by simp)
   rw [if_pos c85] at H
   have c85b0 : decide (((zaa l0 x17_1).f1) < (x5_1.length : Int)) = true := zdt c85
   clear c85
   obtain ⟨y141, hy141⟩ : ∃ y_ : List Int, y_ = (x5_1.set (((zaa l0 x17_1).f1) : Int).toNat t140) := ⟨_, rfl⟩
   replace H : (zam kj42 t137 y141 l0 (l0.length : Int) (wrap64 (x17_1 + 1))) = some (r1, r2) := by first | (rw [hy141]; with_reducible exact H) | (have H2_ := (Option.bind_some _ _).symm.trans H; rw [hy141]; with_reducible exact H2_) | (have H2_ := (Option.bind_some _ _).symm.trans H; with_reducible exact H2_) | with_reducible exact H | (rw [hy141]; exact H) | exact H
   have Ny141 := zA hy141
   clear hy141
   have H' := zA H
   clear H
   have hnb87 := NB109_108.out
   have hnc87 := NB108_109.out
   obtain ⟨hcz88_0, hcz88_1, hcz88_2, hcz88_3⟩ := zc4 wc (.string (⟨#[99, 111, 110, 115, 116]⟩ : ByteArray)) (.int .i64 0) (.int .i64 0) (.int .i64 ((zaa l0 x17_1).f4)) BK109.out
   obtain ⟨hfz88_0, hfz88_1, hfz88_2, hfz88_3⟩ := zf4 BK109.out
   obtain ⟨Ao89, co89, eo89⟩ := Kd.R_slice HO_4.out
   subst eo89
   go_wp2_with (first | ((with_reducible refine zah (f := 164) rfl ?_); refine za3 (some 95) rfl rfl Try.func164 (by kernel_rfl) rfl #[.slice Ao89 x4_1.length co89, .agg #[.string (⟨#[99, 111, 110, 115, 116]⟩ : ByteArray), .int .i64 0, .int .i64 0, .int .i64 ((zaa l0 x17_1).f4)]] rfl (by (try simp only [List.map_toArray, List.map_cons, List.map_nil]); first | done | rfl | (simp only [List.length_drop, List.length_take]; rfl)) ?_; (with_reducible refine (zdr (fun k_ => some k_ = (.slice Ao89 x4_1.length co89 : Value).ownBlock) (.slice Ao89 x4_1.length co89) x4_1 (⟨#[99, 111, 110, 115, 116]⟩ : ByteArray) 0 0 ((zaa l0 x17_1).f4) t127 t130 w _ ?side1 ?side2 A77.out).mono ?_); (case side1 => repeat (first | (with_reducible first | exact HB.out | apply zba | apply zbn | apply zbd | refine zab ?_ GE108.out | refine zab ?_ GE109.out) | exact HB.out)); (case side2 => exact Kd.R_tight rfl HO_4.out); rintro e w90 ⟨v128, rfl, ho0, hb, hkp⟩; refine ⟨_, rfl, ?_⟩; have n0_ := zA (Kd.R_mono (ok' := fun k_ => True) (Kd.R_keptB ((Kd.R_apart' HO_5.out (Kd.R_typed HO_4.out) (by decide))) hkp (fun k_ hk_ hs_ => (hk_.2) hs_)) (fun k_ hk_ => trivial)); have n1_ := zA (ze3 (by (with_reducible repeat (first | refine zkn ?_ _ | refine zkd ?_ | refine zka ?_ _)); exact BK108.out) hkp (fun hs_ => (fun e_ => (Kd.R_ne HO_4.out BK108.out (by decide)) e_) hs_)); have n2_ := zA (ze3 (by (with_reducible repeat (first | refine zkn ?_ _ | refine zkd ?_ | refine zka ?_ _)); exact BK109.out) hkp (fun hs_ => (fun e_ => (Kd.R_away HO_4.out (fun _ hk => hk)) e_) hs_)); have n3_ := zA (Kd.R_mono (ok' := fun k_ => k_ ≠ gb109) ho0 (fun k_ hk_ => Or.elim hk_ (fun hs_ => fun e_ => (Kd.R_away HO_4.out (fun _ hk => hk)) (by rw [← e_]; exact hs_)) (fun hn_ => (Kd.freshB (g := gb109) (o := .cells #[.string (⟨#[99, 111, 110, 115, 116]⟩ : ByteArray), .int .i64 0, .int .i64 0, .int .i64 ((zaa l0 x17_1).f4)] 72 (0, 0)) (by (with_reducible repeat (first | refine zkn ?_ _ | refine zkd ?_ | refine zka ?_ _)); exact BK109.out) k_ hn_)))); have n4_ := zA (hb); clear HO_5 BK108; clear BK109 HB HO_4; have HO_5 := n0_; have BK108 := n1_; have BK109 := n2_; have HO129 := n3_; have HB := n4_; clear n0_ n1_ n2_ n3_ n4_; (try clear hb); (try clear hkp); (try clear ho0); obtain ⟨hcz91_0, hcz91_1, hcz91_2, hcz91_3, hcz91_4⟩ := zc5 w90 (.string ((zaa l0 x17_1).f0)) (.int .i64 ((zaa l0 x17_1).f1)) (.int .i64 ((zaa l0 x17_1).f2)) (.int .i64 ((zaa l0 x17_1).f3)) (.int .i64 ((zaa l0 x17_1).f4)) BK108.out; obtain ⟨hfz91_0, hfz91_1, hfz91_2, hfz91_3, hfz91_4⟩ := zf5 BK108.out; obtain ⟨Ao92, co92, eo92⟩ := Kd.R_slice HO_5.out; subst eo92; have p131 : 0 ≤ (((zaa l0 x17_1).f3) : Int) := zde (by assumption); have q131 : ((zaa l0 x17_1).f3) < (x5_1.length : Int) := zde (by assumption); obtain ⟨ad131, e131, hx131_0⟩ := Kd.at_int (zRr HO_5.out).2.2 ((zaa l0 x17_1).f3) p131 q131; cases e131; replace p131 := eq_true p131; replace q131 := eq_true q131; obtain ⟨Ao93, co93, eo93⟩ := Kd.R_slice HO129.out; subst eo93) | ((with_reducible refine zah (f := 164) rfl ?_); refine za3 (some 107) rfl rfl Try.func164 (by kernel_rfl) rfl #[.slice Ao93 t127.length co93, .agg #[.string (⟨#[115, 104, 108]⟩ : ByteArray), .int .i64 (rd x5_1 ((zaa l0 x17_1).f3)), .int .i64 t130, .int .i64 0]] rfl (by (try simp only [List.map_toArray, List.map_cons, List.map_nil]); first | done | rfl | (simp only [List.length_drop, List.length_take]; rfl)) ?_; (with_reducible refine (zdr (fun k_ => some k_ = (.slice Ao93 t127.length co93 : Value).ownBlock) (.slice Ao93 t127.length co93) t127 (⟨#[115, 104, 108]⟩ : ByteArray) (rd x5_1 ((zaa l0 x17_1).f3)) t130 0 t132 t135 w _ ?side1 ?side2 A80.out).mono ?_); (case side1 => repeat (first | (with_reducible first | exact HB.out | apply zba | apply zbn | apply zbd | refine zab ?_ GE108.out | refine zab ?_ GE109.out) | exact HB.out)); (case side2 => exact Kd.R_tight rfl HO129.out); rintro e w94 ⟨v133, rfl, ho0, hb, hkp⟩; refine ⟨_, rfl, ?_⟩; have n0_ := zA (Kd.R_mono (ok' := fun k_ => True) (Kd.R_keptB ((Kd.R_apart' HO_5.out (Kd.R_typed HO129.out) (by decide))) hkp (fun k_ hk_ hs_ => (hk_.2) hs_)) (fun k_ hk_ => trivial)); have n1_ := zA (ze3 (by (with_reducible repeat (first | refine zkn ?_ _ | refine zkd ?_ | refine zka ?_ _)); exact BK108.out) hkp (fun hs_ => (fun e_ => (Kd.R_ne HO129.out BK108.out (by decide)) e_) hs_)); have n2_ := zA (ze3 (by (with_reducible repeat (first | refine zkn ?_ _ | refine zkd ?_ | refine zka ?_ _)); exact BK109.out) hkp (fun hs_ => (fun e_ => (Kd.R_away HO129.out (fun _ hk => hk)) e_) hs_)); have n3_ := zA (Kd.R_mono (ok' := fun k_ => k_ ≠ gb109) ho0 (fun k_ hk_ => Or.elim hk_ (fun hs_ => fun e_ => (Kd.R_away HO129.out (fun _ hk => hk)) (by rw [← e_]; exact hs_)) (fun hn_ => (Kd.freshB (g := gb109) (o := .cells #[.string (⟨#[99, 111, 110, 115, 116]⟩ : ByteArray), .int .i64 0, .int .i64 0, .int .i64 ((zaa l0 x17_1).f4)] 72 (0, 0)) (by (with_reducible repeat (first | refine zkn ?_ _ | refine zkd ?_ | refine zka ?_ _)); exact BK109.out) k_ hn_)))); have n4_ := zA (hb); clear HO_5 BK108; clear BK109 HB HO129; have HO_5 := n0_; have BK108 := n1_; have BK109 := n2_; have HO134 := n3_; have HB := n4_; clear n0_ n1_ n2_ n3_ n4_; (try clear hb); (try clear hkp); (try clear ho0); obtain ⟨hcz95_0, hcz95_1, hcz95_2, hcz95_3, hcz95_4⟩ := zc5 w94 (.string ((zaa l0 x17_1).f0)) (.int .i64 ((zaa l0 x17_1).f1)) (.int .i64 ((zaa l0 x17_1).f2)) (.int .i64 ((zaa l0 x17_1).f3)) (.int .i64 ((zaa l0 x17_1).f4)) BK108.out; obtain ⟨hfz95_0, hfz95_1, hfz95_2, hfz95_3, hfz95_4⟩ := zf5 BK108.out; have p136 : 0 ≤ (((zaa l0 x17_1).f2) : Int) := zde (by assumption); have q136 : ((zaa l0 x17_1).f2) < (x5_1.length : Int) := zde (by assumption); obtain ⟨ad136, e136, hx136_0⟩ := Kd.at_int (zRr HO_5.out).2.2 ((zaa l0 x17_1).f2) p136 q136; obtain rfl : ad131 = ad136 := (by injection e136); replace p136 := eq_true p136; replace q136 := eq_true q136; obtain ⟨Ao96, co96, eo96⟩ := Kd.R_slice HO134.out; subst eo96) | ((with_reducible refine zah (f := 164) rfl ?_); refine za3 (some 119) rfl rfl Try.func164 (by kernel_rfl) rfl #[.slice Ao96 t132.length co96, .agg #[.string (⟨#[97, 100, 100]⟩ : ByteArray), .int .i64 (rd x5_1 ((zaa l0 x17_1).f2)), .int .i64 t135, .int .i64 0]] rfl (by (try simp only [List.map_toArray, List.map_cons, List.map_nil]); first | done | rfl | (simp only [List.length_drop, List.length_take]; rfl)) ?_; (with_reducible refine (zdr (fun k_ => some k_ = (.slice Ao96 t132.length co96 : Value).ownBlock) (.slice Ao96 t132.length co96) t132 (⟨#[97, 100, 100]⟩ : ByteArray) (rd x5_1 ((zaa l0 x17_1).f2)) t135 0 t137 t140 w _ ?side1 ?side2 A83.out).mono ?_); (case side1 => repeat (first | (with_reducible first | exact HB.out | apply zba | apply zbn | apply zbd | refine zab ?_ GE108.out | refine zab ?_ GE109.out) | exact HB.out)); (case side2 => exact Kd.R_tight rfl HO134.out); rintro e w97 ⟨v138, rfl, ho0, hb, hkp⟩; refine ⟨_, rfl, ?_⟩; have n0_ := zA (Kd.R_mono (ok' := fun k_ => True) (Kd.R_keptB ((Kd.R_apart' HO_5.out (Kd.R_typed HO134.out) (by decide))) hkp (fun k_ hk_ hs_ => (hk_.2) hs_)) (fun k_ hk_ => trivial)); have n1_ := zA (ze3 (by (with_reducible repeat (first | refine zkn ?_ _ | refine zkd ?_ | refine zka ?_ _)); exact BK108.out) hkp (fun hs_ => (fun e_ => (Kd.R_ne HO134.out BK108.out (by decide)) e_) hs_)); have n2_ := zA (ze3 (by (with_reducible repeat (first | refine zkn ?_ _ | refine zkd ?_ | refine zka ?_ _)); exact BK109.out) hkp (fun hs_ => (fun e_ => (Kd.R_away HO134.out (fun _ hk => hk)) e_) hs_)); have n3_ := zA (Kd.R_mono (ok' := fun k_ => k_ ≠ gb109) ho0 (fun k_ hk_ => Or.elim hk_ (fun hs_ => fun e_ => (Kd.R_away HO134.out (fun _ hk => hk)) (by rw [← e_]; exact hs_)) (fun hn_ => (Kd.freshB (g := gb109) (o := .cells #[.string (⟨#[99, 111, 110, 115, 116]⟩ : ByteArray), .int .i64 0, .int .i64 0, .int .i64 ((zaa l0 x17_1).f4)] 72 (0, 0)) (by (with_reducible repeat (first | refine zkn ?_ _ | refine zkd ?_ | refine zka ?_ _)); exact BK109.out) k_ hn_)))); have n4_ := zA (hb); clear HO_5 BK108; clear BK109 HB HO134; have HO_5 := n0_; have BK108 := n1_; have BK109 := n2_; have HO139 := n3_; have HB := n4_; clear n0_ n1_ n2_ n3_ n4_; (try clear hb); (try clear hkp); (try clear ho0); obtain ⟨hcz98_0, hcz98_1, hcz98_2, hcz98_3, hcz98_4⟩ := zc5 w97 (.string ((zaa l0 x17_1).f0)) (.int .i64 ((zaa l0 x17_1).f1)) (.int .i64 ((zaa l0 x17_1).f2)) (.int .i64 ((zaa l0 x17_1).f3)) (.int .i64 ((zaa l0 x17_1).f4)) BK108.out; obtain ⟨hfz98_0, hfz98_1, hfz98_2, hfz98_3, hfz98_4⟩ := zf5 BK108.out; have p86 : 0 ≤ (((zaa l0 x17_1).f1) : Int) := zde (by assumption); have q86 : (((zaa l0 x17_1).f1) : Int) < ((x5_1.length : Int) : Int) := zde (by assumption); obtain ⟨go86, co86, eo86, gb86, gl86, cl86, HG86⟩ := Kd.R_form HO_5.out (by omega); (first | cases eo86 | (injection eo86 with ea_ en_ ec_; (first | subst ea_ | (injection ea_ with ea_; subst ea_)); subst ec_; clear en_)); have GB86 := zA gb86; have GG86 := zA HG86; clear gb86 gl86 HG86; (first | simp only [zdk] at hx131_0 | skip); (first | simp only [zdk] at hx136_0 | skip); obtain ⟨hx86_0, hf86_0⟩ := Kd.R_celln 0 HO_5.out (((zaa l0 x17_1).f1) : Int) p86 q86; replace p86 := eq_true p86; replace q86 := eq_true q86; obtain ⟨hy99_, hz99_⟩ := Kd.R_celln 0 HO_5.out (((zaa l0 x17_1).f1) : Int) (zde (by assumption)) (zde (by assumption)); have HP99 := Kd.R_putg HO_5.out (((zaa l0 x17_1).f1) : Int) t140) | ((with_reducible refine zbk (t := 3) (p := 142) rfl ?_); refine zbj (t := 3) (p := 142) (v := ?vo_w100) (w1 := (w97.setCell ⟨go86, (((zaa l0 x17_1).f1) : Int).toNat, none⟩ (.int .i64 t140))) ?hg ?ho ?hn ?hr ?_; (case ho => rfl); (case hg => rfl); (case hn => rfl); (case hr => go_simp <;> rfl); intro w100 hw; have hg : w97.grownBy w100 (some go86) := (by rw [hw]; exact HP99.2); have hp_ : Kd.R (Kd.int .i64) 3 w100 w.heap.size (fun _ => True) (.slice (some ⟨go86, 0, none⟩) x5_1.length co92) y141 := (by rw [hw, Ny141.out]; exact HP99.1); clear HP99; have n0_ := zA (hp_); have n1_ := zA (zed (g := gb108) (o := .cells #[.string ((zaa l0 x17_1).f0), .int .i64 ((zaa l0 x17_1).f1), .int .i64 ((zaa l0 x17_1).f2), .int .i64 ((zaa l0 x17_1).f3), .int .i64 ((zaa l0 x17_1).f4)] 94 (0, 0)) (by (with_reducible repeat (first | refine zkn ?_ _ | refine zkd ?_ | refine zka ?_ _)); exact BK108.out) hg (Kd.R_ne HO_5.out BK108.out (by decide))); have n2_ := zA (zed (g := gb109) (o := .cells #[.string (⟨#[99, 111, 110, 115, 116]⟩ : ByteArray), .int .i64 0, .int .i64 0, .int .i64 ((zaa l0 x17_1).f4)] 72 (0, 0)) (by (with_reducible repeat (first | refine zkn ?_ _ | refine zkd ?_ | refine zka ?_ _)); exact BK109.out) hg (Kd.R_ne HO_5.out BK109.out (by decide))); have n3_ := zA (Kd.R_over' (v := (.slice (some ⟨go86, 0, none⟩) x5_1.length co92)) (by (with_reducible repeat (first | apply zRa | apply zRn | apply zRd)); exact HO139.out) (Kd.R_typed HO_5.out) (by decide) hg); have n4_ := zA ((by rw [hw]; exact zab (HB.out) GB86.out : Below w.heap.size w w100)); clear HO_5 BK108; clear BK109 HO139 HB; have HO_5 := n0_; have BK108 := n1_; have BK109 := n2_; have HO139 := n3_; have HB := n4_; clear n0_ n1_ n2_ n3_ n4_; clear hg hw hp_))
   go_roundg kj42
   case measure => have := HK1.out; have := HJ42.out; omega
   case rel => exact ⟨(t137), (y141), (wrap64 (x17_1 + 1)), (by first | rfl | (simp; done) | (simp [*]; done)), H', ⟨by have := HK1.out; have := HJ42.out; omega⟩, ⟨by (with_reducible repeat (first | apply zRa | apply zRn | apply zRd)); exact Kd.R_mono HO139.out (fun _ hk => trivial)⟩, ⟨by (with_reducible repeat (first | apply zRa | apply zRn | apply zRd)); exact HO_5.out⟩, ⟨by repeat (first | (with_reducible first | exact HB.out | apply zba | apply zbn | apply zbd | refine zab ?_ GE108.out | refine zab ?_ GE109.out) | exact HB.out)⟩⟩
 rw [if_neg c76] at H
 have c76b0 : (((zaa l0 x17_1).f0).toList == ([108, 101, 97] : List UInt8)) = false := beq_eq_false_iff_ne.mpr c76
 have c76b1 : (((zaa l0 x17_1).f0).toList != ([108, 101, 97] : List UInt8)) = true := bne_iff_ne.mpr c76
 have HC101 := zA H
 clear H
 go_upto_if 122 with (fail)
 go_cut [122] (fun v122 wc => ∃ (kq : Nat) (x122_100 : Bool), v122 = .bool x122_100 ∧ Aside0 (zbt kq x4_1 x5_1 l0 (l0.length : Int) x17_1 x122_100 ((zaa l0 x17_1).f0) ((zaa l0 x17_1).f1) ((zaa l0 x17_1).f2) ((zaa l0 x17_1).f3) ((zaa l0 x17_1).f4) = some (r1, r2)) ∧ Aside0 (kq ≤ kj42) ∧ Aside0 (Kd.R k72 72 wc w.heap.size (fun k_ => k_ ≠ gb109) u4 x4_1) ∧ Aside0 (Kd.R (Kd.int .i64) 3 wc w.heap.size (fun _ => True) v105 x5_1) ∧ Aside0 (wc.heap[gb108]? = some (.cells #[.string ((zaa l0 x17_1).f0), .int .i64 ((zaa l0 x17_1).f1), .int .i64 ((zaa l0 x17_1).f2), .int .i64 ((zaa l0 x17_1).f3), .int .i64 ((zaa l0 x17_1).f4)] 94 (0, 0))) ∧ Aside0 (wc.heap[gb109]? = some (.cells #[.string (⟨#[99, 111, 110, 115, 116]⟩ : ByteArray), .int .i64 0, .int .i64 0, .int .i64 ((zaa l0 x17_1).f4)] 72 (0, 0))) ∧ Aside0 (Below w.heap.size w wc))
 case first =>
   have H := HC101.out
   clear HC101
   by_cases c102 : ((zaa l0 x17_1).f0).toList = ([110, 111, 116] : List UInt8)
   rotate_left
   · rw [if_neg c102] at H
     have c102b0 : (((zaa l0 x17_1).f0).toList == ([110, 111, 116] : List UInt8)) = false := beq_eq_false_iff_ne.mpr c102
     have c102b1 : (((zaa l0 x17_1).f0).toList != ([110, 111, 116] : List UInt8)) = true := bne_iff_ne.mpr c102
     (first | rw [c102b0] | (simp only [za4, za6]; rw [c102b0]) | skip)
     have H' := zA H
     clear H
     go_wp2
     go_meet
     case rel => exact ⟨_, ((((zaa l0 x17_1).f0).toList == ([110, 101, 103] : List UInt8))), (by first | rfl | (simp; done) | (simp [*]; done)), H', ⟨by have := HK1.out; have := HJ42.out; first | omega | exact zlr _⟩, ⟨by (with_reducible repeat (first | apply zRa | apply zRn | apply zRd)); exact HO_4.out⟩, ⟨by (with_reducible repeat (first | apply zRa | apply zRn | apply zRd)); exact HO_5.out⟩, ⟨by (with_reducible repeat (first | refine zkn ?_ _ | refine zkd ?_ | refine zka ?_ _)); exact BK108.out⟩, ⟨by (with_reducible repeat (first | refine zkn ?_ _ | refine zkd ?_ | refine zka ?_ _)); exact BK109.out⟩, ⟨by repeat (first | (with_reducible first | exact HB.out | apply zba | apply zbn | apply zbd | refine zab ?_ GE108.out | refine zab ?_ GE109.out) | exact HB.out)⟩⟩
   rw [if_pos c102] at H
   have c102b0 : (((zaa l0 x17_1).f0).toList == ([110, 111, 116] : List UInt8)) = true := beq_iff_eq.mpr c102
   have c102b1 : (((zaa l0 x17_1).f0).toList != ([110, 111, 116] : List UInt8)) = false := bne_eq_false_iff_eq.mpr c102
   clear c102
   (first | rw [c102b0] | (simp only [za4, za6]; rw [c102b0]) | skip)
   have H' := zA H
   clear H
   go_wp2
   go_meet
   case rel => exact ⟨_, ((((zaa l0 x17_1).f0).toList == ([110, 111, 116] : List UInt8))), (by first | rfl | (simp; done) | (simp [*]; done)), H', ⟨by have := HK1.out; have := HJ42.out; first | omega | exact zlr _⟩, ⟨by (with_reducible repeat (first | apply zRa | apply zRn | apply zRd)); exact HO_4.out⟩, ⟨by (with_reducible repeat (first | apply zRa | apply zRn | apply zRd)); exact HO_5.out⟩, ⟨by (with_reducible repeat (first | refine zkn ?_ _ | refine zkd ?_ | refine zka ?_ _)); exact BK108.out⟩, ⟨by (with_reducible repeat (first | refine zkn ?_ _ | refine zkd ?_ | refine zka ?_ _)); exact BK109.out⟩, ⟨by repeat (first | (with_reducible first | exact HB.out | apply zba | apply zbn | apply zbd | refine zab ?_ GE108.out | refine zab ?_ GE109.out) | exact HB.out)⟩⟩
 clear HC101
 try clear c1
 try clear p1
 try clear q1
 try clear hx1
 try clear c2
 try clear p2
 try clear c3
 try clear p3
 try clear q3
 try clear hx3
 try clear hf3
 try clear c4
 try clear c5
 try clear c6
 try clear p6
 try clear q6
 try clear hx6
 try clear hf6
 try clear c7
 try clear c8
 try clear p8
 try clear q8
 try clear hx8
 try clear hf8
 try clear c10
 try clear p10
 try clear q10
 try clear hx10
 try clear p11
 try clear q11
 try clear hx11
 try clear p12
 try clear q12
 try clear hx12
 try clear p13
 try clear q13
 try clear hx13
 try clear c16
 try clear c17
 try clear c27
 try clear c27b0
 try clear c27b1
 try clear c28
 try clear c28b0
 try clear c29
 try clear c29b0
 try clear c30
 try clear c30b0
 try clear c31
 try clear c31b0
 try clear p32
 try clear q32
 try clear hx32
 try clear hf32
 try clear c36
 try clear c47
 try clear c50
 try clear c50b0
 try clear c50b1
 try clear c51
 try clear c51b0
 try clear c51b1
 try clear c52
 try clear c52b0
 try clear c52b1
 try clear c53
 try clear c53b0
 try clear c53b1
 try clear c54
 try clear c57
 try clear c57b0
 try clear c57b1
 try clear c58
 try clear c58b0
 try clear c58b1
 try clear c59
 try clear c59b0
 try clear c60
 try clear c60b0
 try clear c62
 try clear c62b0
 try clear c63
 try clear c63b0
 try clear p64
 try clear q64
 try clear hx64
 try clear hf64
 try clear c65
 try clear c76
 try clear c76b0
 try clear c76b1
 try clear c78
 try clear c78b0
 try clear c79
 try clear c79b0
 try clear c81
 try clear c81b0
 try clear c82
 try clear c82b0
 try clear c84
 try clear c84b0
 try clear c85
 try clear c85b0
 try clear p86
 try clear q86
 try clear hx86
 try clear hf86
 try clear c87
 try clear c102
 try clear c102b0
 try clear c102b1
 try clear hcz15_0
 try clear hcz15_1
 try clear hcz15_2
 try clear hcz15_3
 try clear hcz15_4
 try clear hcz18_0
 try clear hcz18_1
 try clear hcz18_2
 try clear hcz18_3
 try clear hcz20_0
 try clear hcz20_1
 try clear hcz20_2
 try clear hcz20_3
 try clear hcz20_4
 try clear hcz21_0
 try clear hcz21_1
 try clear hcz21_2
 try clear hcz21_3
 try clear hcz24_0
 try clear hcz24_1
 try clear hcz24_2
 try clear hcz24_3
 try clear hcz24_4
 try clear hcz34_0
 try clear hcz34_1
 try clear hcz34_2
 try clear hcz34_3
 try clear hcz34_4
 try clear hcz37_0
 try clear hcz37_1
 try clear hcz37_2
 try clear hcz37_3
 try clear hcz39_0
 try clear hcz39_1
 try clear hcz39_2
 try clear hcz39_3
 try clear hcz39_4
 try clear hcz45_0
 try clear hcz45_1
 try clear hcz45_2
 try clear hcz45_3
 try clear hcz45_4
 try clear hcz48_0
 try clear hcz48_1
 try clear hcz48_2
 try clear hcz48_3
 try clear hcz49_0
 try clear hcz49_1
 try clear hcz49_2
 try clear hcz49_3
 try clear hcz49_4
 try clear hcz66_0
 try clear hcz66_1
 try clear hcz66_2
 try clear hcz66_3
 try clear hcz73_0
 try clear hcz73_1
 try clear hcz73_2
 try clear hcz73_3
 try clear hcz73_4
 try clear hcz88_0
 try clear hcz88_1
 try clear hcz88_2
 try clear hcz88_3
 try clear hcz91_0
 try clear hcz91_1
 try clear hcz91_2
 try clear hcz91_3
 try clear hcz91_4
 try clear hcz95_0
 try clear hcz95_1
 try clear hcz95_2
 try clear hcz95_3
 try clear hcz95_4
 try clear hcz98_0
 try clear hcz98_1
 try clear hcz98_2
 try clear hcz98_3
 try clear hcz98_4
 try clear hfz15_0
 try clear hfz15_1
 try clear hfz15_2
 try clear hfz15_3
 try clear hfz15_4
 try clear hfz18_0
 try clear hfz18_1
 try clear hfz18_2
 try clear hfz18_3
 try clear hfz20_0
 try clear hfz20_1
 try clear hfz20_2
 try clear hfz20_3
 try clear hfz20_4
 try clear hfz21_0
 try clear hfz21_1
 try clear hfz21_2
 try clear hfz21_3
 try clear hfz24_0
 try clear hfz24_1
 try clear hfz24_2
 try clear hfz24_3
 try clear hfz24_4
 try clear hfz34_0
 try clear hfz34_1
 try clear hfz34_2
 try clear hfz34_3
 try clear hfz34_4
 try clear hfz37_0
 try clear hfz37_1
 try clear hfz37_2
 try clear hfz37_3
 try clear hfz39_0
 try clear hfz39_1
 try clear hfz39_2
 try clear hfz39_3
 try clear hfz39_4
 try clear hfz45_0
 try clear hfz45_1
 try clear hfz45_2
 try clear hfz45_3
 try clear hfz45_4
 try clear hfz48_0
 try clear hfz48_1
 try clear hfz48_2
 try clear hfz48_3
 try clear hfz49_0
 try clear hfz49_1
 try clear hfz49_2
 try clear hfz49_3
 try clear hfz49_4
 try clear hfz66_0
 try clear hfz66_1
 try clear hfz66_2
 try clear hfz66_3
 try clear hfz73_0
 try clear hfz73_1
 try clear hfz73_2
 try clear hfz73_3
 try clear hfz73_4
 try clear hfz88_0
 try clear hfz88_1
 try clear hfz88_2
 try clear hfz88_3
 try clear hfz91_0
 try clear hfz91_1
 try clear hfz91_2
 try clear hfz91_3
 try clear hfz91_4
 try clear hfz95_0
 try clear hfz95_1
 try clear hfz95_2
 try clear hfz95_3
 try clear hfz95_4
 try clear hfz98_0
 try clear hfz98_1
 try clear hfz98_2
 try clear hfz98_3
 try clear hfz98_4
 try clear hx107_0
 try clear hx107_1
 try clear hx107_2
 try clear hx107_3
 try clear hx107_4
 try clear hx115_0
 try clear hx121_0
 try clear hx131_0
 try clear hx136_0
 try clear hx13_0
 try clear hx32_0
 try clear hx64_0
 try clear hx86_0
 try clear p107
 try clear p115
 try clear p121
 try clear p13
 try clear p131
 try clear p136
 try clear p2
 try clear p32
 try clear p64
 try clear p86
 try clear q107
 try clear q115
 try clear q121
 try clear q13
 try clear q131
 try clear q136
 try clear q32
 try clear q64
 try clear q86
 obtain ⟨kq, x122_100, rfl, HA, HJ100, HO_4, HO_5, BK108, BK109, HB⟩ := hcut
 cases kq with
 | zero => exact absurd HA.out (by simp [zbt])
 | succ kj100 =>
 have H := HA.out
 clear HA
 simp only [zbt] at H
 by_cases c103 : x122_100 = true
 · subst c103
   replace H : (if 0 ≤ ((zaa l0 x17_1).f2) then (if ((zaa l0 x17_1).f2) < (x5_1.length : Int) then ((zbo x4_1 ((zaa l0 x17_1).f0) (rd x5_1 ((zaa l0 x17_1).f2)) 0 0).bind fun bt143 => (if 0 ≤ ((zaa l0 x17_1).f1) then (if ((zaa l0 x17_1).f1) < (x5_1.length : Int) then (zam kj100 bt143.1 (x5_1.set (((zaa l0 x17_1).f1) : Int).toNat bt143.2) l0 (l0.length : Int) (wrap64 (x17_1 + 1))) else (none)) else (none))) else (none)) else (none)) = some (r1, r2) := by rw [if_pos rfl] at H; exact H
   by_cases c104 : 0 ≤ ((zaa l0 x17_1).f2)
   rotate_left
   · rw [if_neg c104] at H
     exact absurd H (by simp)
   rw [if_pos c104] at H
   have c104b0 : decide (0 ≤ ((zaa l0 x17_1).f2)) = true := zdt c104
   clear c104
   by_cases c105 : ((zaa l0 x17_1).f2) < (x5_1.length : Int)
   rotate_left
   · rw [if_neg c105] at H
     exact absurd H (by simp)
   rw [if_pos c105] at H
   have c105b0 : decide (((zaa l0 x17_1).f2) < (x5_1.length : Int)) = true := zdt c105
   clear c105
   replace H := zob H
   obtain ⟨⟨t143, t146⟩, A1060, H⟩ := H
   replace H : (if 0 ≤ ((zaa l0 x17_1).f1) then (if ((zaa l0 x17_1).f1) < (x5_1.length : Int) then (zam kj100 t143 (x5_1.set (((zaa l0 x17_1).f1) : Int).toNat t146) l0 (l0.length : Int) (wrap64 (x17_1 + 1))) else (none)) else (none)) = some (r1, r2) := H
   have A106 := zA A1060
   clear A1060
   by_cases c107 : 0 ≤ ((zaa l0 x17_1).f1)
   rotate_left
   · rw [if_neg c107] at H
     exact absurd H (by simp)
   rw [if_pos c107] at H
   have c107b0 : decide (0 ≤ ((zaa l0 x17_1).f1)) = true := zdt c107
   clear c107
   by_cases c108 : ((zaa l0 x17_1).f1) < (x5_1.length : Int)
   rotate_left
   · rw [if_neg c108] at H
     exact absurd H (by simp)
   rw [if_pos c108] at H
   have c108b0 : decide (((zaa l0 x17_1).f1) < (x5_1.length : Int)) = true := zdt c108
   clear c108
   obtain ⟨y147, hy147⟩ : ∃ y_ : List Int, y_ = (x5_1.set (((zaa l0 x17_1).f1) : Int).toNat t146) := ⟨_, rfl⟩
   replace H : (zam kj100 t143 y147 l0 (l0.length : Int) (wrap64 (x17_1 + 1))) = some (r1, r2) := by first | (rw [hy147]; with_reducible exact H) | (have H2_ := (Option.bind_some _ _).symm.trans H; rw [hy147]; with_reducible exact H2_) | (have H2_ := (Option.bind_some _ _).symm.trans H; with_reducible exact H2_) | with_reducible exact H | (rw [hy147]; exact H) | exact H
   have Ny147 := zA hy147
   clear hy147
   have H' := zA H
   clear H
   try go_wp2
   have n0_ := zA (zRd HO_4.out)
   have n1_ := zA (zRd HO_5.out)
   have n2_ := zA (zkd BK108.out)
   have n3_ := zA (zkd BK109.out)
   have n4_ := zA (zbd HB.out)
   clear HO_4
   clear HO_5
   clear BK108
   clear BK109
   clear HB
   have HO_4 := n0_
   have HO_5 := n1_
   have BK108 := n2_
   have BK109 := n3_
   have HB := n4_
   clear n0_ n1_ n2_ n3_ n4_
   obtain ⟨Ao111, co111, eo111⟩ := Kd.R_slice HO_5.out
   (first | subst eo111 | (injection eo111 with f1_ f2_ f3_; have f4_ := f1_.symm; have f5_ := f3_.symm; clear f1_ f2_ f3_; subst f4_; subst f5_))
   have p142 : 0 ≤ (((zaa l0 x17_1).f2) : Int) := zde (by assumption)
   have q142 : ((zaa l0 x17_1).f2) < (x5_1.length : Int) := zde (by assumption)
   obtain ⟨ad142, e142, hx142_0⟩ := Kd.at_int (zRr HO_5.out).2.2 ((zaa l0 x17_1).f2) p142 q142
   cases e142
   replace p142 := eq_true p142
   replace q142 := eq_true q142
   obtain ⟨Ao112, co112, eo112⟩ := Kd.R_slice HO_4.out
   (first | subst eo112 | (injection eo112 with f1_ f2_ f3_; have f4_ := f1_.symm; have f5_ := f3_.symm; clear f1_ f2_ f3_; subst f4_; subst f5_))
   refine zks (n := 15) (S := fun w' => w'.cell? ⟨gb108, 0, none⟩ = some (.string ((zaa l0 x17_1).f0)) ∧ w'.cell? ⟨gb108, 1, none⟩ = some (.int .i64 ((zaa l0 x17_1).f1)) ∧ w'.cell? ⟨gb108, 2, none⟩ = some (.int .i64 ((zaa l0 x17_1).f2)) ∧ w'.cell? ⟨gb108, 3, none⟩ = some (.int .i64 ((zaa l0 x17_1).f3)) ∧ w'.cell? ⟨gb108, 4, none⟩ = some (.int .i64 ((zaa l0 x17_1).f4)) ∧ w'.cell? (ad142.add (((zaa l0 x17_1).f2)).toNat) = some (.int .i64 (rd x5_1 ((zaa l0 x17_1).f2)))) (ds := []) #[false, false, false, false, false, false, false, false, false, false, false, false, false, false, false] (by kernel_rfl) rfl rfl ⟨(zaf BK108.out 0).trans rfl, (zaf BK108.out 1).trans rfl, (zaf BK108.out 2).trans rfl, (zaf BK108.out 3).trans rfl, (zaf BK108.out 4).trans rfl, hx142_0⟩ (fun hHeld => ?_); refine zgu zjl zja (fun HT_ HW_ => ?_)
   generalize wc.drew = w110 at HO_4 HO_5 BK108 BK109 HB hx142_0 hHeld ⊢
   refine zcs (i := 0) (N := some 126) (v := ?_) (a' := ?_) #[true, false, false, false, false, false, false, false, false, false, false, false, false, false, false] rfl rfl (zbs HT_.out (by kernel_rfl)) (fun _ _ _ h => h) (Or.inl ⟨by rfl, ?_⟩) ?_ ?_
   rotate_left
   · intro w'
     go_simp
     with_reducible rfl
   rotate_left
   · simp only [Act.put, List.setIfInBounds_toArray, List.set_cons_zero, List.set_cons_succ, za4, za6]
     rfl
   refine zcs (i := 1) (N := some 127) (v := ?_) (a' := ?_) #[true, true, false, false, false, false, false, false, false, false, false, false, false, false, false] rfl rfl (zbs HT_.out (by kernel_rfl)) (fun _ _ _ h => h) (Or.inl ⟨by rfl, ?_⟩) ?_ ?_
   rotate_left
   · intro w'
     go_simp
     with_reducible rfl
   rotate_left
   · simp only [Act.put, List.setIfInBounds_toArray, List.set_cons_zero, List.set_cons_succ, za4, za6]
     rfl
   refine zcs (i := 3) (N := some 129) (v := ?_) (a' := ?_) #[true, true, false, true, false, false, false, false, false, false, false, false, false, false, false] rfl rfl (zbs HT_.out (by kernel_rfl)) (fun _ _ _ h => h) (Or.inl ⟨by rfl, ?_⟩) ?_ ?_
   rotate_left
   · intro w'
     go_simp
     with_reducible rfl
   rotate_left
   · simp only [Act.put, List.setIfInBounds_toArray, List.set_cons_zero, List.set_cons_succ, za4, za6]
     rfl
   refine zcs (i := 4) (N := some 130) (v := ?_) (a' := ?_) #[true, true, false, true, true, false, false, false, false, false, false, false, false, false, false] rfl rfl (zbs HT_.out (by kernel_rfl)) (fun _ _ _ h => h) (Or.inl ⟨by rfl, ?_⟩) ?_ ?_
   rotate_left
   · intro w'
     go_simp
     with_reducible rfl
   rotate_left
   · simp only [Act.put, List.setIfInBounds_toArray, List.set_cons_zero, List.set_cons_succ, za4, za6]
     rfl
   refine take_ (i := 2) (N := some 128) (v := ?_) (a' := ?_) #[true, true, true, true, true, false, false, false, false, false, false, false, false, false, false] rfl rfl (zd3 HT_.out HW_.out (by kernel_rfl)) (fun _ _ _ h => h) (Or.inl ⟨by rfl, ?_⟩) hHeld ?_ ?_
   rotate_left
   · rintro w' ⟨s0, s1, s2, s3, s4, s5⟩
     go_simp
     with_reducible rfl
   rotate_left
   · simp only [Act.put, List.setIfInBounds_toArray, List.set_cons_zero, List.set_cons_succ, za4, za6]
     rfl
   refine take_ (i := 5) (N := some 131) (v := ?_) (a' := ?_) #[true, true, true, true, true, true, false, false, false, false, false, false, false, false, false] rfl rfl (zd3 HT_.out HW_.out (by kernel_rfl)) (fun _ _ _ h => h) (Or.inl ⟨by rfl, ?_⟩) hHeld ?_ ?_
   rotate_left
   · rintro w' ⟨s0, s1, s2, s3, s4, s5⟩
     go_simp
     with_reducible rfl
   rotate_left
   · simp only [Act.put, List.setIfInBounds_toArray, List.set_cons_zero, List.set_cons_succ, za4, za6]
     rfl
   refine zcs (i := 6) (N := some 132) (v := ?_) (a' := ?_) #[true, true, true, true, true, true, true, false, false, false, false, false, false, false, false] rfl rfl (zbs HT_.out (by kernel_rfl)) (fun _ _ _ h => h) (Or.inl ⟨by rfl, ?_⟩) ?_ ?_
   rotate_left
   · intro w'
     go_simp
     with_reducible rfl
   rotate_left
   · simp only [Act.put, List.setIfInBounds_toArray, List.set_cons_zero, List.set_cons_succ, za4, za6]
     rfl
   refine take_ (i := 7) (N := some 133) (v := ?_) (a' := ?_) #[true, true, true, true, true, true, true, true, false, false, false, false, false, false, false] rfl rfl (zd3 HT_.out HW_.out (by kernel_rfl)) (fun _ _ _ h => h) (Or.inl ⟨by rfl, ?_⟩) hHeld ?_ ?_
   rotate_left
   · rintro w' ⟨s0, s1, s2, s3, s4, s5⟩
     go_simp
     with_reducible rfl
   rotate_left
   · simp only [Act.put, List.setIfInBounds_toArray, List.set_cons_zero, List.set_cons_succ, za4, za6]
     rfl
   refine zcs (i := 8) (N := some 134) (v := ?_) (a' := ?_) #[true, true, true, true, true, true, true, true, true, false, false, false, false, false, false] rfl rfl (zbs HT_.out (by kernel_rfl)) (fun _ _ _ h => h) (Or.inl ⟨by rfl, ?_⟩) ?_ ?_
   rotate_left
   · intro w'
     go_simp
     with_reducible rfl
   rotate_left
   · simp only [Act.put, List.setIfInBounds_toArray, List.set_cons_zero, List.set_cons_succ, za4, za6]
     rfl
   refine one_ (i := 9) (N := some 135) #[true, true, true, true, true, true, true, true, true, true, false, false, false, false, false] rfl rfl (zky HT_.out (by kernel_rfl)) (by decide) (fun K hK => ?_)
   refine zku Try.func164 (by kernel_rfl) rfl #[.slice Ao112 x4_1.length co112, .agg #[.string ((zaa l0 x17_1).f0), .int .i64 (rd x5_1 ((zaa l0 x17_1).f2)), .int .i64 0, .int .i64 0]] (by rfl) rfl rfl (by (try simp only [List.map_toArray, List.map_cons, List.map_nil]); first | done | rfl | (simp only [List.length_drop, List.length_take]; rfl)) ?_
   with_reducible refine (zdr (fun k_ => some k_ = (.slice Ao112 x4_1.length co112 : Value).ownBlock) (.slice Ao112 x4_1.length co112) x4_1 ((zaa l0 x17_1).f0) (rd x5_1 ((zaa l0 x17_1).f2)) 0 0 t143 t146 w _ ?side1 ?side2 A106.out).mono ?_
   (case side1 => repeat (first | (with_reducible first | exact HB.out | apply zba | apply zbn | apply zbd | refine zab ?_ GE108.out | refine zab ?_ GE109.out) | exact HB.out))
   (case side2 => exact Kd.R_tight rfl HO_4.out)
   rintro e w113 ⟨v144, rfl, ho0, hb, hkp⟩
   have HS5_ := zkq (hHeld.2.2.2.2.2) hkp (by first | (rw [zds]; exact (fun hs_ => ((((Kd.R_apart' HO_5.out (Kd.R_typed HO_4.out) (by decide))).1 _ rfl).2) hs_)) | (show ¬ _; simp only [zds]; exact (fun hs_ => ((((Kd.R_apart' HO_5.out (Kd.R_typed HO_4.out) (by decide))).1 _ rfl).2) hs_)) | exact (fun hs_ => ((((Kd.R_apart' HO_5.out (Kd.R_typed HO_4.out) (by decide))).1 _ rfl).2) hs_))
   refine ⟨_, rfl, ?_⟩
   have n0_ := zA (Kd.R_mono (ok' := fun k_ => True) (Kd.R_keptB ((Kd.R_apart' HO_5.out (Kd.R_typed HO_4.out) (by decide))) hkp (fun k_ hk_ hs_ => (hk_.2) hs_)) (fun k_ hk_ => trivial))
   have n1_ := zA (ze3 (by (with_reducible repeat (first | refine zkn ?_ _ | refine zkd ?_ | refine zka ?_ _)); exact BK108.out) hkp (fun hs_ => (fun e_ => (Kd.R_ne HO_4.out BK108.out (by decide)) e_) hs_))
   have n2_ := zA (ze3 (by (with_reducible repeat (first | refine zkn ?_ _ | refine zkd ?_ | refine zka ?_ _)); exact BK109.out) hkp (fun hs_ => (fun e_ => (Kd.R_away HO_4.out (fun _ hk => hk)) e_) hs_))
   have n3_ := zA (Kd.R_mono (ok' := fun k_ => k_ ≠ gb109) ho0 (fun k_ hk_ => Or.elim hk_ (fun hs_ => fun e_ => (Kd.R_away HO_4.out (fun _ hk => hk)) (by rw [← e_]; exact hs_)) (fun hn_ => (Kd.freshB (g := gb109) (o := .cells #[.string (⟨#[99, 111, 110, 115, 116]⟩ : ByteArray), .int .i64 0, .int .i64 0, .int .i64 ((zaa l0 x17_1).f4)] 72 (0, 0)) (by (with_reducible repeat (first | refine zkn ?_ _ | refine zkd ?_ | refine zka ?_ _)); exact BK109.out) k_ hn_))))
   have n4_ := zA (hb)
   clear HO_5
   clear BK108
   clear BK109
   clear HB
   clear HO_4
   have HO_5 := n0_
   have BK108 := n1_
   have BK109 := n2_
   have HO145 := n3_
   have HB := n4_
   clear n0_ n1_ n2_ n3_ n4_
   (try clear hb)
   (try clear hkp)
   (try clear ho0)
   refine hK.out _ _ ⟨(zaf BK108.out 0).trans rfl, (zaf BK108.out 1).trans rfl, (zaf BK108.out 2).trans rfl, (zaf BK108.out 3).trans rfl, (zaf BK108.out 4).trans rfl, HS5_⟩ (fun hHeld => ?_)
   clear hK K
   refine zh6 (a' := ?_) ?_ ?_
   rotate_left
   · show Act.put _ (some 135) _ = _
     simp only [Act.put, List.setIfInBounds_toArray, List.set_cons_zero, List.set_cons_succ, za4, za6]
     rfl
   refine zcs (i := 10) (N := some 125) (v := ?_) (a' := ?_) #[true, true, true, true, true, true, true, true, true, true, true, false, false, false, false] rfl rfl (zbs HT_.out (by kernel_rfl)) (fun _ _ _ h => h) (Or.inl ⟨by rfl, ?_⟩) ?_ ?_
   rotate_left
   · intro w'
     go_simp
     with_reducible rfl
   rotate_left
   · simp only [Act.put, List.setIfInBounds_toArray, List.set_cons_zero, List.set_cons_succ, za4, za6]
     rfl
   refine zcs (i := 11) (N := some 136) (v := ?_) (a' := ?_) #[true, true, true, true, true, true, true, true, true, true, true, true, false, false, false] rfl rfl (zbs HT_.out (by kernel_rfl)) (fun _ _ _ h => h) (Or.inl ⟨by rfl, ?_⟩) ?_ ?_
   rotate_left
   · intro w'
     go_simp
     with_reducible rfl
   rotate_left
   · simp only [Act.put, List.setIfInBounds_toArray, List.set_cons_zero, List.set_cons_succ, za4, za6]
     rfl
   refine zcs (i := 12) (N := some 137) (v := ?_) (a' := ?_) #[true, true, true, true, true, true, true, true, true, true, true, true, true, false, false] rfl rfl (zbs HT_.out (by kernel_rfl)) (fun _ _ _ h => h) (Or.inl ⟨by rfl, ?_⟩) ?_ ?_
   rotate_left
   · intro w'
     go_simp
     with_reducible rfl
   rotate_left
   · simp only [Act.put, List.setIfInBounds_toArray, List.set_cons_zero, List.set_cons_succ, za4, za6]
     rfl
   refine zcs (i := 13) (N := some 4) (v := ?_) (a' := ?_) #[true, true, true, true, true, true, true, true, true, true, true, true, true, true, false] rfl rfl (zbs HT_.out (by kernel_rfl)) (fun _ _ _ h => h) (Or.inl ⟨by rfl, ?_⟩) ?_ ?_
   rotate_left
   · intro w'
     go_simp
     with_reducible rfl
   rotate_left
   · simp only [Act.put, List.setIfInBounds_toArray, List.set_cons_zero, List.set_cons_succ, za4, za6]
     rfl
   refine zcs (i := 14) (N := some 9) (v := ?_) (a' := ?_) #[true, true, true, true, true, true, true, true, true, true, true, true, true, true, true] rfl rfl (zbs HT_.out (by kernel_rfl)) (fun _ _ _ h => h) (Or.inl ⟨by rfl, ?_⟩) ?_ ?_
   rotate_left
   · intro w'
     go_simp
     with_reducible rfl
   rotate_left
   · simp only [Act.put, List.setIfInBounds_toArray, List.set_cons_zero, List.set_cons_succ, za4, za6]
     rfl
   refine zoc (zjf HT_.out (by kernel_rfl)) ?_
   have hnb114 := NB108_109.out
   have hnc114 := NB109_108.out
   obtain ⟨hcz115_0, hcz115_1, hcz115_2, hcz115_3, hcz115_4⟩ := zc5 w113 (.string ((zaa l0 x17_1).f0)) (.int .i64 ((zaa l0 x17_1).f1)) (.int .i64 ((zaa l0 x17_1).f2)) (.int .i64 ((zaa l0 x17_1).f3)) (.int .i64 ((zaa l0 x17_1).f4)) BK108.out
   obtain ⟨hfz115_0, hfz115_1, hfz115_2, hfz115_3, hfz115_4⟩ := zf5 BK108.out
   have p109 : 0 ≤ (((zaa l0 x17_1).f1) : Int) := zde (by assumption)
   have q109 : (((zaa l0 x17_1).f1) : Int) < ((x5_1.length : Int) : Int) := zde (by assumption)
   obtain ⟨go109, co109, eo109, gb109, gl109, cl109, HG109⟩ := Kd.R_form HO_5.out (by omega)
   (first | cases eo109 | (injection eo109 with ea_ en_ ec_; (first | subst ea_ | (injection ea_ with ea_; subst ea_)); subst ec_; clear en_))
   have GB109 := zA gb109
   have GG109 := zA HG109
   clear gb109 gl109 HG109
   (first | simp only [zdk] at hx142_0 | skip)
   obtain ⟨hx109_0, hf109_0⟩ := Kd.R_celln 0 HO_5.out (((zaa l0 x17_1).f1) : Int) p109 q109
   replace p109 := eq_true p109
   replace q109 := eq_true q109
   obtain ⟨hy116_, hz116_⟩ := Kd.R_celln 0 HO_5.out (((zaa l0 x17_1).f1) : Int) (zde (by assumption)) (zde (by assumption))
   have HP116 := Kd.R_putg HO_5.out (((zaa l0 x17_1).f1) : Int) t146
   try go_wp2_with (first | ((with_reducible refine zbk (t := 3) (p := 142) rfl ?_); refine zbj (t := 3) (p := 142) (v := ?vo_w117) (w1 := (w113.setCell ⟨go109, (((zaa l0 x17_1).f1) : Int).toNat, none⟩ (.int .i64 t146))) ?hg ?ho ?hn ?hr ?_; (case ho => rfl); (case hg => rfl); (case hn => rfl); (case hr => go_simp <;> rfl); intro w117 hw; have hg : w113.grownBy w117 (some go109) := (by rw [hw]; exact HP116.2); have hp_ : Kd.R (Kd.int .i64) 3 w117 w.heap.size (fun _ => True) (.slice (some ⟨go109, 0, none⟩) x5_1.length co111) y147 := (by rw [hw, Ny147.out]; exact HP116.1); clear HP116; have n0_ := zA (hp_); have n1_ := zA (zed (g := gb108) (o := .cells #[.string ((zaa l0 x17_1).f0), .int .i64 ((zaa l0 x17_1).f1), .int .i64 ((zaa l0 x17_1).f2), .int .i64 ((zaa l0 x17_1).f3), .int .i64 ((zaa l0 x17_1).f4)] 94 (0, 0)) (by (with_reducible repeat (first | refine zkn ?_ _ | refine zkd ?_ | refine zka ?_ _)); exact BK108.out) hg (Kd.R_ne HO_5.out BK108.out (by decide))); have n2_ := zA (zed (g := gb109) (o := .cells #[.string (⟨#[99, 111, 110, 115, 116]⟩ : ByteArray), .int .i64 0, .int .i64 0, .int .i64 ((zaa l0 x17_1).f4)] 72 (0, 0)) (by (with_reducible repeat (first | refine zkn ?_ _ | refine zkd ?_ | refine zka ?_ _)); exact BK109.out) hg (Kd.R_ne HO_5.out BK109.out (by decide))); have n3_ := zA (Kd.R_over' (v := (.slice (some ⟨go109, 0, none⟩) x5_1.length co111)) (by (with_reducible repeat (first | apply zRa | apply zRn | apply zRd)); exact HO145.out) (Kd.R_typed HO_5.out) (by decide) hg); have n4_ := zA ((by rw [hw]; exact zab (HB.out) GB109.out : Below w.heap.size w w117)); clear HO_5 BK108; clear BK109 HO145 HB; have HO_5 := n0_; have BK108 := n1_; have BK109 := n2_; have HO145 := n3_; have HB := n4_; clear n0_ n1_ n2_ n3_ n4_; clear hg hw hp_))
   go_roundg kj100
   case measure => have := HK1.out; have := HJ42.out; have := HJ100.out; omega
   case rel => exact ⟨(t143), (y147), (wrap64 (x17_1 + 1)), (by first | rfl | (simp; done) | (simp [*]; done)), H', ⟨by have := HK1.out; have := HJ42.out; have := HJ100.out; omega⟩, ⟨by (with_reducible repeat (first | apply zRa | apply zRn | apply zRd)); exact Kd.R_mono HO145.out (fun _ hk => trivial)⟩, ⟨by (with_reducible repeat (first | apply zRa | apply zRn | apply zRd)); exact HO_5.out⟩, ⟨by repeat (first | (with_reducible first | exact HB.out | apply zba | apply zbn | apply zbd | refine zab ?_ GE108.out | refine zab ?_ GE109.out) | exact HB.out)⟩⟩
 replace c103 := zbf c103
 subst c103
 replace H : (if 0 ≤ ((zaa l0 x17_1).f2) then (if ((zaa l0 x17_1).f2) < (x5_1.length : Int) then (if 0 ≤ ((zaa l0 x17_1).f3) then (if ((zaa l0 x17_1).f3) < (x5_1.length : Int) then ((zbo x4_1 ((zaa l0 x17_1).f0) (rd x5_1 ((zaa l0 x17_1).f2)) (rd x5_1 ((zaa l0 x17_1).f3)) 0).bind fun bt150 => (if 0 ≤ ((zaa l0 x17_1).f1) then (if ((zaa l0 x17_1).f1) < (x5_1.length : Int) then (zam kj100 bt150.1 (x5_1.set (((zaa l0 x17_1).f1) : Int).toNat bt150.2) l0 (l0.length : Int) (wrap64 (x17_1 + 1))) else (none)) else (none))) else (none)) else (none)) else (none)) else (none)) = some (r1, r2) := by rw [if_neg (show ¬ (false = true) by decide)] at H; exact H
 by_cases c118 : 0 ≤ ((zaa l0 x17_1).f2)
 rotate_left
 · rw [if_neg c118] at H
   exact absurd H (by simp)
 rw [if_pos c118] at H
 have c118b0 : decide (0 ≤ ((zaa l0 x17_1).f2)) = true := zdt c118
 clear c118
 by_cases c119 : ((zaa l0 x17_1).f2) < (x5_1.length : Int)
 rotate_left
 · rw [if_neg c119] at H
   exact absurd H (by simp)
 rw [if_pos c119] at H
 have c119b0 : decide (((zaa l0 x17_1).f2) < (x5_1.length : Int)) = true := zdt c119
 clear c119
 by_cases c120 : 0 ≤ ((zaa l0 x17_1).f3)
 rotate_left
 · rw [if_neg c120] at H
   exact absurd H (by simp)
 rw [if_pos c120] at H
 have c120b0 : decide (0 ≤ ((zaa l0 x17_1).f3)) = true := zdt c120
 clear c120
 by_cases c121 : ((zaa l0 x17_1).f3) < (x5_1.length : Int)
 rotate_left
 · rw [if_neg c121] at H
   exact absurd H (by simp)
 rw [if_pos c121] at H
 have c121b0 : decide (((zaa l0 x17_1).f3) < (x5_1.length : Int)) = true := zdt c121
 clear c121
 replace H := zob H
 obtain ⟨⟨t150, t153⟩, A1220, H⟩ := H
 replace H : (if 0 ≤ ((zaa l0 x17_1).f1) then (if ((zaa l0 x17_1).f1) < (x5_1.length : Int) then (zam kj100 t150 (x5_1.set (((zaa l0 x17_1).f1) : Int).toNat t153) l0 (l0.length : Int) (wrap64 (x17_1 + 1))) else (none)) else (none)) = some (r1, r2) := H
 have A122 := zA A1220
 clear A1220
 by_cases c123 : 0 ≤ ((zaa l0 x17_1).f1)
 rotate_left
 · rw [if_neg c123] at H
   exact absurd H (by simp)
 rw [if_pos c123] at H
 have c123b0 : decide (0 ≤ ((zaa l0 x17_1).f1)) = true := zdt c123
 clear c123
 by_cases c124 : ((zaa l0 x17_1).f1) < (x5_1.length : Int)
 rotate_left
 · rw [if_neg c124] at H
   exact absurd H (by simp)
 rw [if_pos c124] at H
 have c124b0 : decide (((zaa l0 x17_1).f1) < (x5_1.length : Int)) = true := zdt c124
 clear c124
 obtain ⟨y154, hy154⟩ : ∃ y_ : List Int, y_ = (x5_1.set (((zaa l0 x17_1).f1) : Int).toNat t153) := ⟨_, rfl⟩
 replace H : (zam kj100 t150 y154 l0 (l0.length : Int) (wrap64 (x17_1 + 1))) = some (r1, r2) := by first | (rw [hy154]; with_reducible exact H) | (have H2_ := (Option.bind_some _ _).symm.trans H; rw [hy154]; with_reducible exact H2_) | (have H2_ := (Option.bind_some _ _).symm.trans H; with_reducible exact H2_) | with_reducible exact H | (rw [hy154]; exact H) | exact H
 have Ny154 := zA hy154
 clear hy154
 have H' := zA H
 clear H
 try go_wp2
 have n0_ := zA (zRd HO_4.out)
 have n1_ := zA (zRd HO_5.out)
 have n2_ := zA (zkd BK108.out)
 have n3_ := zA (zkd BK109.out)
 have n4_ := zA (zbd HB.out)
 clear HO_4
 clear HO_5
 clear BK108
 clear BK109
 clear HB
 have HO_4 := n0_
 have HO_5 := n1_
 have BK108 := n2_
 have BK109 := n3_
 have HB := n4_
 clear n0_ n1_ n2_ n3_ n4_
 obtain ⟨Ao127, co127, eo127⟩ := Kd.R_slice HO_5.out
 (first | subst eo127 | (injection eo127 with f1_ f2_ f3_; have f4_ := f1_.symm; have f5_ := f3_.symm; clear f1_ f2_ f3_; subst f4_; subst f5_))
 have p148 : 0 ≤ (((zaa l0 x17_1).f2) : Int) := zde (by assumption)
 have q148 : ((zaa l0 x17_1).f2) < (x5_1.length : Int) := zde (by assumption)
 obtain ⟨ad148, e148, hx148_0⟩ := Kd.at_int (zRr HO_5.out).2.2 ((zaa l0 x17_1).f2) p148 q148
 cases e148
 replace p148 := eq_true p148
 replace q148 := eq_true q148
 have p149 : 0 ≤ (((zaa l0 x17_1).f3) : Int) := zde (by assumption)
 have q149 : ((zaa l0 x17_1).f3) < (x5_1.length : Int) := zde (by assumption)
 obtain ⟨ad149, e149, hx149_0⟩ := Kd.at_int (zRr HO_5.out).2.2 ((zaa l0 x17_1).f3) p149 q149
 obtain rfl : ad148 = ad149 := (by injection e149)
 replace p149 := eq_true p149
 replace q149 := eq_true q149
 obtain ⟨Ao128, co128, eo128⟩ := Kd.R_slice HO_4.out
 (first | subst eo128 | (injection eo128 with f1_ f2_ f3_; have f4_ := f1_.symm; have f5_ := f3_.symm; clear f1_ f2_ f3_; subst f4_; subst f5_))
 refine zks (n := 20) (S := fun w' => w'.cell? ⟨gb108, 0, none⟩ = some (.string ((zaa l0 x17_1).f0)) ∧ w'.cell? ⟨gb108, 1, none⟩ = some (.int .i64 ((zaa l0 x17_1).f1)) ∧ w'.cell? ⟨gb108, 2, none⟩ = some (.int .i64 ((zaa l0 x17_1).f2)) ∧ w'.cell? ⟨gb108, 3, none⟩ = some (.int .i64 ((zaa l0 x17_1).f3)) ∧ w'.cell? ⟨gb108, 4, none⟩ = some (.int .i64 ((zaa l0 x17_1).f4)) ∧ w'.cell? (ad148.add (((zaa l0 x17_1).f2)).toNat) = some (.int .i64 (rd x5_1 ((zaa l0 x17_1).f2))) ∧ w'.cell? (ad148.add (((zaa l0 x17_1).f3)).toNat) = some (.int .i64 (rd x5_1 ((zaa l0 x17_1).f3)))) (ds := []) #[false, false, false, false, false, false, false, false, false, false, false, false, false, false, false, false, false, false, false, false] (by kernel_rfl) rfl rfl ⟨(zaf BK108.out 0).trans rfl, (zaf BK108.out 1).trans rfl, (zaf BK108.out 2).trans rfl, (zaf BK108.out 3).trans rfl, (zaf BK108.out 4).trans rfl, hx148_0, hx149_0⟩ (fun hHeld => ?_); refine zgu zjz zjj (fun HT_ HW_ => ?_)
 generalize wc.drew = w126 at HO_4 HO_5 BK108 BK109 HB hx148_0 hx149_0 hHeld ⊢
 refine zcs (i := 0) (N := some 27) (v := ?_) (a' := ?_) #[true, false, false, false, false, false, false, false, false, false, false, false, false, false, false, false, false, false, false, false] rfl rfl (zbs HT_.out (by kernel_rfl)) (fun _ _ _ h => h) (Or.inl ⟨by rfl, ?_⟩) ?_ ?_
 rotate_left
 · intro w'
   go_simp
   with_reducible rfl
 rotate_left
 · simp only [Act.put, List.setIfInBounds_toArray, List.set_cons_zero, List.set_cons_succ, za4, za6]
   rfl
 refine zcs (i := 1) (N := some 28) (v := ?_) (a' := ?_) #[true, true, false, false, false, false, false, false, false, false, false, false, false, false, false, false, false, false, false, false] rfl rfl (zbs HT_.out (by kernel_rfl)) (fun _ _ _ h => h) (Or.inl ⟨by rfl, ?_⟩) ?_ ?_
 rotate_left
 · intro w'
   go_simp
   with_reducible rfl
 rotate_left
 · simp only [Act.put, List.setIfInBounds_toArray, List.set_cons_zero, List.set_cons_succ, za4, za6]
   rfl
 refine zcs (i := 3) (N := some 30) (v := ?_) (a' := ?_) #[true, true, false, true, false, false, false, false, false, false, false, false, false, false, false, false, false, false, false, false] rfl rfl (zbs HT_.out (by kernel_rfl)) (fun _ _ _ h => h) (Or.inl ⟨by rfl, ?_⟩) ?_ ?_
 rotate_left
 · intro w'
   go_simp
   with_reducible rfl
 rotate_left
 · simp only [Act.put, List.setIfInBounds_toArray, List.set_cons_zero, List.set_cons_succ, za4, za6]
   rfl
 refine zcs (i := 4) (N := some 31) (v := ?_) (a' := ?_) #[true, true, false, true, true, false, false, false, false, false, false, false, false, false, false, false, false, false, false, false] rfl rfl (zbs HT_.out (by kernel_rfl)) (fun _ _ _ h => h) (Or.inl ⟨by rfl, ?_⟩) ?_ ?_
 rotate_left
 · intro w'
   go_simp
   with_reducible rfl
 rotate_left
 · simp only [Act.put, List.setIfInBounds_toArray, List.set_cons_zero, List.set_cons_succ, za4, za6]
   rfl
 refine zcs (i := 8) (N := some 35) (v := ?_) (a' := ?_) #[true, true, false, true, true, false, false, false, true, false, false, false, false, false, false, false, false, false, false, false] rfl rfl (zbs HT_.out (by kernel_rfl)) (fun _ _ _ h => h) (Or.inl ⟨by rfl, ?_⟩) ?_ ?_
 rotate_left
 · intro w'
   go_simp
   with_reducible rfl
 rotate_left
 · simp only [Act.put, List.setIfInBounds_toArray, List.set_cons_zero, List.set_cons_succ, za4, za6]
   rfl
 refine zcs (i := 9) (N := some 36) (v := ?_) (a' := ?_) #[true, true, false, true, true, false, false, false, true, true, false, false, false, false, false, false, false, false, false, false] rfl rfl (zbs HT_.out (by kernel_rfl)) (fun _ _ _ h => h) (Or.inl ⟨by rfl, ?_⟩) ?_ ?_
 rotate_left
 · intro w'
   go_simp
   with_reducible rfl
 rotate_left
 · simp only [Act.put, List.setIfInBounds_toArray, List.set_cons_zero, List.set_cons_succ, za4, za6]
   rfl
 refine take_ (i := 2) (N := some 29) (v := ?_) (a' := ?_) #[true, true, true, true, true, false, false, false, true, true, false, false, false, false, false, false, false, false, false, false] rfl rfl (zd3 HT_.out HW_.out (by kernel_rfl)) (fun _ _ _ h => h) (Or.inl ⟨by rfl, ?_⟩) hHeld ?_ ?_
 rotate_left
 · rintro w' ⟨s0, s1, s2, s3, s4, s5, s6⟩
   go_simp
   with_reducible rfl
 rotate_left
 · simp only [Act.put, List.setIfInBounds_toArray, List.set_cons_zero, List.set_cons_succ, za4, za6]
   rfl
 refine take_ (i := 5) (N := some 32) (v := ?_) (a' := ?_) #[true, true, true, true, true, true, false, false, true, true, false, false, false, false, false, false, false, false, false, false] rfl rfl (zd3 HT_.out HW_.out (by kernel_rfl)) (fun _ _ _ h => h) (Or.inl ⟨by rfl, ?_⟩) hHeld ?_ ?_
 rotate_left
 · rintro w' ⟨s0, s1, s2, s3, s4, s5, s6⟩
   go_simp
   with_reducible rfl
 rotate_left
 · simp only [Act.put, List.setIfInBounds_toArray, List.set_cons_zero, List.set_cons_succ, za4, za6]
   rfl
 refine zcs (i := 6) (N := some 33) (v := ?_) (a' := ?_) #[true, true, true, true, true, true, true, false, true, true, false, false, false, false, false, false, false, false, false, false] rfl rfl (zbs HT_.out (by kernel_rfl)) (fun _ _ _ h => h) (Or.inl ⟨by rfl, ?_⟩) ?_ ?_
 rotate_left
 · intro w'
   go_simp
   with_reducible rfl
 rotate_left
 · simp only [Act.put, List.setIfInBounds_toArray, List.set_cons_zero, List.set_cons_succ, za4, za6]
   rfl
 refine take_ (i := 7) (N := some 34) (v := ?_) (a' := ?_) #[true, true, true, true, true, true, true, true, true, true, false, false, false, false, false, false, false, false, false, false] rfl rfl (zd3 HT_.out HW_.out (by kernel_rfl)) (fun _ _ _ h => h) (Or.inl ⟨by rfl, ?_⟩) hHeld ?_ ?_
 rotate_left
 · rintro w' ⟨s0, s1, s2, s3, s4, s5, s6⟩
   go_simp
   with_reducible rfl
 rotate_left
 · simp only [Act.put, List.setIfInBounds_toArray, List.set_cons_zero, List.set_cons_succ, za4, za6]
   rfl
 refine take_ (i := 10) (N := some 37) (v := ?_) (a' := ?_) #[true, true, true, true, true, true, true, true, true, true, true, false, false, false, false, false, false, false, false, false] rfl rfl (zd3 HT_.out HW_.out (by kernel_rfl)) (fun _ _ _ h => h) (Or.inl ⟨by rfl, ?_⟩) hHeld ?_ ?_
 rotate_left
 · rintro w' ⟨s0, s1, s2, s3, s4, s5, s6⟩
   go_simp
   with_reducible rfl
 rotate_left
 · simp only [Act.put, List.setIfInBounds_toArray, List.set_cons_zero, List.set_cons_succ, za4, za6]
   rfl
 refine zcs (i := 11) (N := some 38) (v := ?_) (a' := ?_) #[true, true, true, true, true, true, true, true, true, true, true, true, false, false, false, false, false, false, false, false] rfl rfl (zbs HT_.out (by kernel_rfl)) (fun _ _ _ h => h) (Or.inl ⟨by rfl, ?_⟩) ?_ ?_
 rotate_left
 · intro w'
   go_simp
   with_reducible rfl
 rotate_left
 · simp only [Act.put, List.setIfInBounds_toArray, List.set_cons_zero, List.set_cons_succ, za4, za6]
   rfl
 refine take_ (i := 12) (N := some 39) (v := ?_) (a' := ?_) #[true, true, true, true, true, true, true, true, true, true, true, true, true, false, false, false, false, false, false, false] rfl rfl (zd3 HT_.out HW_.out (by kernel_rfl)) (fun _ _ _ h => h) (Or.inl ⟨by rfl, ?_⟩) hHeld ?_ ?_
 rotate_left
 · rintro w' ⟨s0, s1, s2, s3, s4, s5, s6⟩
   go_simp
   with_reducible rfl
 rotate_left
 · simp only [Act.put, List.setIfInBounds_toArray, List.set_cons_zero, List.set_cons_succ, za4, za6]
   rfl
 refine zcs (i := 13) (N := some 40) (v := ?_) (a' := ?_) #[true, true, true, true, true, true, true, true, true, true, true, true, true, true, false, false, false, false, false, false] rfl rfl (zbs HT_.out (by kernel_rfl)) (fun _ _ _ h => h) (Or.inl ⟨by rfl, ?_⟩) ?_ ?_
 rotate_left
 · intro w'
   go_simp
   with_reducible rfl
 rotate_left
 · simp only [Act.put, List.setIfInBounds_toArray, List.set_cons_zero, List.set_cons_succ, za4, za6]
   rfl
 refine one_ (i := 14) (N := some 41) #[true, true, true, true, true, true, true, true, true, true, true, true, true, true, true, false, false, false, false, false] rfl rfl (zky HT_.out (by kernel_rfl)) (by decide) (fun K hK => ?_)
 refine zku Try.func164 (by kernel_rfl) rfl #[.slice Ao128 x4_1.length co128, .agg #[.string ((zaa l0 x17_1).f0), .int .i64 (rd x5_1 ((zaa l0 x17_1).f2)), .int .i64 (rd x5_1 ((zaa l0 x17_1).f3)), .int .i64 0]] (by rfl) rfl rfl (by (try simp only [List.map_toArray, List.map_cons, List.map_nil]); first | done | rfl | (simp only [List.length_drop, List.length_take]; rfl)) ?_
 with_reducible refine (zdr (fun k_ => some k_ = (.slice Ao128 x4_1.length co128 : Value).ownBlock) (.slice Ao128 x4_1.length co128) x4_1 ((zaa l0 x17_1).f0) (rd x5_1 ((zaa l0 x17_1).f2)) (rd x5_1 ((zaa l0 x17_1).f3)) 0 t150 t153 w _ ?side1 ?side2 A122.out).mono ?_
 (case side1 => repeat (first | (with_reducible first | exact HB.out | apply zba | apply zbn | apply zbd | refine zab ?_ GE108.out | refine zab ?_ GE109.out) | exact HB.out))
 (case side2 => exact Kd.R_tight rfl HO_4.out)
 rintro e w129 ⟨v151, rfl, ho0, hb, hkp⟩
 have HS5_ := zkq (hHeld.2.2.2.2.2.1) hkp (by first | (rw [zds]; exact (fun hs_ => ((((Kd.R_apart' HO_5.out (Kd.R_typed HO_4.out) (by decide))).1 _ rfl).2) hs_)) | (show ¬ _; simp only [zds]; exact (fun hs_ => ((((Kd.R_apart' HO_5.out (Kd.R_typed HO_4.out) (by decide))).1 _ rfl).2) hs_)) | exact (fun hs_ => ((((Kd.R_apart' HO_5.out (Kd.R_typed HO_4.out) (by decide))).1 _ rfl).2) hs_))
 have HS6_ := zkq (hHeld.2.2.2.2.2.2) hkp (by first | (rw [zds]; exact (fun hs_ => ((((Kd.R_apart' HO_5.out (Kd.R_typed HO_4.out) (by decide))).1 _ rfl).2) hs_)) | (show ¬ _; simp only [zds]; exact (fun hs_ => ((((Kd.R_apart' HO_5.out (Kd.R_typed HO_4.out) (by decide))).1 _ rfl).2) hs_)) | exact (fun hs_ => ((((Kd.R_apart' HO_5.out (Kd.R_typed HO_4.out) (by decide))).1 _ rfl).2) hs_))
 refine ⟨_, rfl, ?_⟩
 have n0_ := zA (Kd.R_mono (ok' := fun k_ => True) (Kd.R_keptB ((Kd.R_apart' HO_5.out (Kd.R_typed HO_4.out) (by decide))) hkp (fun k_ hk_ hs_ => (hk_.2) hs_)) (fun k_ hk_ => trivial))
 have n1_ := zA (ze3 (by (with_reducible repeat (first | refine zkn ?_ _ | refine zkd ?_ | refine zka ?_ _)); exact BK108.out) hkp (fun hs_ => (fun e_ => (Kd.R_ne HO_4.out BK108.out (by decide)) e_) hs_))
 have n2_ := zA (ze3 (by (with_reducible repeat (first | refine zkn ?_ _ | refine zkd ?_ | refine zka ?_ _)); exact BK109.out) hkp (fun hs_ => (fun e_ => (Kd.R_away HO_4.out (fun _ hk => hk)) e_) hs_))
 have n3_ := zA (Kd.R_mono (ok' := fun k_ => k_ ≠ gb109) ho0 (fun k_ hk_ => Or.elim hk_ (fun hs_ => fun e_ => (Kd.R_away HO_4.out (fun _ hk => hk)) (by rw [← e_]; exact hs_)) (fun hn_ => (Kd.freshB (g := gb109) (o := .cells #[.string (⟨#[99, 111, 110, 115, 116]⟩ : ByteArray), .int .i64 0, .int .i64 0, .int .i64 ((zaa l0 x17_1).f4)] 72 (0, 0)) (by (with_reducible repeat (first | refine zkn ?_ _ | refine zkd ?_ | refine zka ?_ _)); exact BK109.out) k_ hn_))))
 have n4_ := zA (hb)
 clear HO_5
 clear BK108
 clear BK109
 clear HB
 clear HO_4
 have HO_5 := n0_
 have BK108 := n1_
 have BK109 := n2_
 have HO152 := n3_
 have HB := n4_
 clear n0_ n1_ n2_ n3_ n4_
 (try clear hb)
 (try clear hkp)
 (try clear ho0)
 refine hK.out _ _ ⟨(zaf BK108.out 0).trans rfl, (zaf BK108.out 1).trans rfl, (zaf BK108.out 2).trans rfl, (zaf BK108.out 3).trans rfl, (zaf BK108.out 4).trans rfl, HS5_, HS6_⟩ (fun hHeld => ?_)
 clear hK K
 refine zh6 (a' := ?_) ?_ ?_
 rotate_left
 · show Act.put _ (some 41) _ = _
   simp only [Act.put, List.setIfInBounds_toArray, List.set_cons_zero, List.set_cons_succ, za4, za6]
   rfl
 refine zcs (i := 15) (N := some 26) (v := ?_) (a' := ?_) #[true, true, true, true, true, true, true, true, true, true, true, true, true, true, true, true, false, false, false, false] rfl rfl (zbs HT_.out (by kernel_rfl)) (fun _ _ _ h => h) (Or.inl ⟨by rfl, ?_⟩) ?_ ?_
 rotate_left
 · intro w'
   go_simp
   with_reducible rfl
 rotate_left
 · simp only [Act.put, List.setIfInBounds_toArray, List.set_cons_zero, List.set_cons_succ, za4, za6]
   rfl
 refine zcs (i := 16) (N := some 42) (v := ?_) (a' := ?_) #[true, true, true, true, true, true, true, true, true, true, true, true, true, true, true, true, true, false, false, false] rfl rfl (zbs HT_.out (by kernel_rfl)) (fun _ _ _ h => h) (Or.inl ⟨by rfl, ?_⟩) ?_ ?_
 rotate_left
 · intro w'
   go_simp
   with_reducible rfl
 rotate_left
 · simp only [Act.put, List.setIfInBounds_toArray, List.set_cons_zero, List.set_cons_succ, za4, za6]
   rfl
 refine zcs (i := 17) (N := some 43) (v := ?_) (a' := ?_) #[true, true, true, true, true, true, true, true, true, true, true, true, true, true, true, true, true, true, false, false] rfl rfl (zbs HT_.out (by kernel_rfl)) (fun _ _ _ h => h) (Or.inl ⟨by rfl, ?_⟩) ?_ ?_
 rotate_left
 · intro w'
   go_simp
   with_reducible rfl
 rotate_left
 · simp only [Act.put, List.setIfInBounds_toArray, List.set_cons_zero, List.set_cons_succ, za4, za6]
   rfl
 refine zcs (i := 18) (N := some 4) (v := ?_) (a' := ?_) #[true, true, true, true, true, true, true, true, true, true, true, true, true, true, true, true, true, true, true, false] rfl rfl (zbs HT_.out (by kernel_rfl)) (fun _ _ _ h => h) (Or.inl ⟨by rfl, ?_⟩) ?_ ?_
 rotate_left
 · intro w'
   go_simp
   with_reducible rfl
 rotate_left
 · simp only [Act.put, List.setIfInBounds_toArray, List.set_cons_zero, List.set_cons_succ, za4, za6]
   rfl
 refine zcs (i := 19) (N := some 9) (v := ?_) (a' := ?_) #[true, true, true, true, true, true, true, true, true, true, true, true, true, true, true, true, true, true, true, true] rfl rfl (zbs HT_.out (by kernel_rfl)) (fun _ _ _ h => h) (Or.inl ⟨by rfl, ?_⟩) ?_ ?_
 rotate_left
 · intro w'
   go_simp
   with_reducible rfl
 rotate_left
 · simp only [Act.put, List.setIfInBounds_toArray, List.set_cons_zero, List.set_cons_succ, za4, za6]
   rfl
 refine zoc (zjf HT_.out (by kernel_rfl)) ?_
 have hnb130 := NB108_109.out
 have hnc130 := NB109_108.out
 obtain ⟨hcz131_0, hcz131_1, hcz131_2, hcz131_3, hcz131_4⟩ := zc5 w129 (.string ((zaa l0 x17_1).f0)) (.int .i64 ((zaa l0 x17_1).f1)) (.int .i64 ((zaa l0 x17_1).f2)) (.int .i64 ((zaa l0 x17_1).f3)) (.int .i64 ((zaa l0 x17_1).f4)) BK108.out
 obtain ⟨hfz131_0, hfz131_1, hfz131_2, hfz131_3, hfz131_4⟩ := zf5 BK108.out
 have p125 : 0 ≤ (((zaa l0 x17_1).f1) : Int) := zde (by assumption)
 have q125 : (((zaa l0 x17_1).f1) : Int) < ((x5_1.length : Int) : Int) := zde (by assumption)
 obtain ⟨go125, co125, eo125, gb125, gl125, cl125, HG125⟩ := Kd.R_form HO_5.out (by omega)
 (first | cases eo125 | (injection eo125 with ea_ en_ ec_; (first | subst ea_ | (injection ea_ with ea_; subst ea_)); subst ec_; clear en_))
 have GB125 := zA gb125
 have GG125 := zA HG125
 clear gb125 gl125 HG125
 (first | simp only [zdk] at hx148_0 | skip)
 (first | simp only [zdk] at hx149_0 | skip)
 obtain ⟨hx125_0, hf125_0⟩ := Kd.R_celln 0 HO_5.out (((zaa l0 x17_1).f1) : Int) p125 q125
 replace p125 := eq_true p125
 replace q125 := eq_true q125
 obtain ⟨hy132_, hz132_⟩ := Kd.R_celln 0 HO_5.out (((zaa l0 x17_1).f1) : Int) (zde (by assumption)) (zde (by assumption))
 have HP132 := Kd.R_putg HO_5.out (((zaa l0 x17_1).f1) : Int) t153
 try go_wp2_with (first | ((with_reducible refine zbk (t := 3) (p := 142) rfl ?_); refine zbj (t := 3) (p := 142) (v := ?vo_w133) (w1 := (w129.setCell ⟨go125, (((zaa l0 x17_1).f1) : Int).toNat, none⟩ (.int .i64 t153))) ?hg ?ho ?hn ?hr ?_; (case ho => rfl); (case hg => rfl); (case hn => rfl); (case hr => go_simp <;> rfl); intro w133 hw; have hg : w129.grownBy w133 (some go125) := (by rw [hw]; exact HP132.2); have hp_ : Kd.R (Kd.int .i64) 3 w133 w.heap.size (fun _ => True) (.slice (some ⟨go125, 0, none⟩) x5_1.length co127) y154 := (by rw [hw, Ny154.out]; exact HP132.1); clear HP132; have n0_ := zA (hp_); have n1_ := zA (zed (g := gb108) (o := .cells #[.string ((zaa l0 x17_1).f0), .int .i64 ((zaa l0 x17_1).f1), .int .i64 ((zaa l0 x17_1).f2), .int .i64 ((zaa l0 x17_1).f3), .int .i64 ((zaa l0 x17_1).f4)] 94 (0, 0)) (by (with_reducible repeat (first | refine zkn ?_ _ | refine zkd ?_ | refine zka ?_ _)); exact BK108.out) hg (Kd.R_ne HO_5.out BK108.out (by decide))); have n2_ := zA (zed (g := gb109) (o := .cells #[.string (⟨#[99, 111, 110, 115, 116]⟩ : ByteArray), .int .i64 0, .int .i64 0, .int .i64 ((zaa l0 x17_1).f4)] 72 (0, 0)) (by (with_reducible repeat (first | refine zkn ?_ _ | refine zkd ?_ | refine zka ?_ _)); exact BK109.out) hg (Kd.R_ne HO_5.out BK109.out (by decide))); have n3_ := zA (Kd.R_over' (v := (.slice (some ⟨go125, 0, none⟩) x5_1.length co127)) (by (with_reducible repeat (first | apply zRa | apply zRn | apply zRd)); exact HO152.out) (Kd.R_typed HO_5.out) (by decide) hg); have n4_ := zA ((by rw [hw]; exact zab (HB.out) GB125.out : Below w.heap.size w w133)); clear HO_5 BK108; clear BK109 HO152 HB; have HO_5 := n0_; have BK108 := n1_; have BK109 := n2_; have HO152 := n3_; have HB := n4_; clear n0_ n1_ n2_ n3_ n4_; clear hg hw hp_))
 go_roundg kj100
 case measure => have := HK1.out; have := HJ42.out; have := HJ100.out; omega
 case rel => exact ⟨(t150), (y154), (wrap64 (x17_1 + 1)), (by first | rfl | (simp; done) | (simp [*]; done)), H', ⟨by have := HK1.out; have := HJ42.out; have := HJ100.out; omega⟩, ⟨by (with_reducible repeat (first | apply zRa | apply zRn | apply zRd)); exact Kd.R_mono HO152.out (fun _ hk => trivial)⟩, ⟨by (with_reducible repeat (first | apply zRa | apply zRn | apply zRd)); exact HO_5.out⟩, ⟨by repeat (first | (with_reducible first | exact HB.out | apply zba | apply zbn | apply zbd | refine zab ?_ GE108.out | refine zab ?_ GE109.out) | exact HB.out)⟩⟩
end Go.Proofs.Ytkfkbmlbpeojaaa.Q
end
section
namespace Go.Proofs.Ytkfkbmlbpeojaaa.Q
open Go.RowKit Go.Proofs.YtkfkbmlbpeojaaaW.PrintWords Go.Proofs.YtkfkbmlbpeojaaaW.PrintLast Go.Proofs.YtkfkbmlbpeojaaaW.PrintMore
attribute [local go_sem] zcz zc0 zd1 zd2 zcl zcm zc1 zc2
set_option linter.unusedVariables false
set_option linter.unusedSimpArgs false
def zdz (k : Nat) (l0 : List (S94)) (a1 : Int) : Option ((List (S72)) × Bool) := (zeg k l0).bind fun bt101 => (if 0 ≤ a1 then (if a1 < (bt101.2.length : Int) then ((zek k bt101.1 (rd bt101.2 a1)).bind fun t108 => ((zdj k t108).bind fun t111 => ((zdy k t111).bind fun t114 => (some (t111, t114))))) else (none)) else (none))
theorem zhy : ∀ a0 a1 k, LeO (zdz k a0 a1) (zdz (k + 1) a0 a1) := by
 intro a0 a1 k
 unfold zdz
 repeat' first
     | (with_reducible first | exact zl2 _ _ | exact zl3 _ _ _ | exact zlf _ _ | exact zjy _ _ | exact LeO.refl _ | exact LeO.none _ | refine zai ?_ ?_ | refine LeO.bind ?_ (fun _ => ?_))
     | exact LeO.none _
     | refine zai ?_ ?_
     | refine LeO.bind ?_ (fun _ => ?_)
set_option maxHeartbeats 8000000 in
set_option maxRecDepth 100000 in
theorem zhg (k : Nat) (A0 : Option Addr) (c0 : Nat) (l0 : List (S94)) (a1 : Int) (r1 : List (S72)) (r2 : Bool) (w : World) (hr0 : Kd.C k94 w A0 l0.length l0) (hc0 : l0.length ≤ c0) (h : zdz k l0 a1 = some (r1, r2)) :
   Calls Try.prog 68 #[.slice A0 l0.length c0, .int .i64 a1] w fun e w' => ∃ v0_ : Value, e = .returned (.tuple #[v0_, .bool r2]) ∧ Kd.R k72 72 w' w.heap.size (fun _ => True) v0_ r1 ∧ Below w.heap.size w w' := by
 have HR0 := zA hr0
 have HC0 := zA hc0
 clear hr0 hc0
 have HB := zA (Below.refl w.heap.size w)
 have H : ((zeg k l0).bind fun bt101 => (if 0 ≤ a1 then (if a1 < (bt101.2.length : Int) then ((zek k bt101.1 (rd bt101.2 a1)).bind fun t108 => ((zdj k t108).bind fun t111 => ((zdy k t111).bind fun t114 => (some (t111, t114))))) else (none)) else (none))) = some (r1, r2) := h
 clear h
 replace H := zob H
 obtain ⟨⟨t101, t102⟩, A30, H⟩ := H
 replace H : (if 0 ≤ a1 then (if a1 < (t102.length : Int) then ((zek k t101 (rd t102 a1)).bind fun t108 => ((zdj k t108).bind fun t111 => ((zdy k t111).bind fun t114 => (some (t111, t114))))) else (none)) else (none)) = some (r1, r2) := H
 have A3 := zA A30
 clear A30
 by_cases c4 : 0 ≤ a1
 rotate_left
 · rw [if_neg c4] at H
   exact absurd H (by simp)
 rw [if_pos c4] at H
 have c4b0 : decide (0 ≤ a1) = true := zdt c4
 clear c4
 by_cases c5 : a1 < (t102.length : Int)
 rotate_left
 · rw [if_neg c5] at H
   exact absurd H (by simp)
 rw [if_pos c5] at H
 have c5b0 : decide (a1 < (t102.length : Int)) = true := zdt c5
 clear c5
 replace H := zob H
 obtain ⟨t108, A60, H⟩ := H
 replace H : ((zdj k t108).bind fun t111 => ((zdy k t111).bind fun t114 => (some (t111, t114)))) = some (r1, r2) := H
 have A6 := zA A60
 clear A60
 replace H := zob H
 obtain ⟨t111, A70, H⟩ := H
 replace H : ((zdy k t111).bind fun t114 => (some (t111, t114))) = some (r1, r2) := H
 have A7 := zA A70
 clear A70
 replace H := zob H
 obtain ⟨t114, A80, H⟩ := H
 replace H : (some (t111, t114)) = some (r1, r2) := H
 have A8 := zA A80
 clear A80
 simp only [Option.some.injEq, Prod.mk.injEq] at H
 obtain ⟨rfl, rfl⟩ := H
 go_enter Try.func68, Try.ntmps68
 go_wp2_with (first | ((with_reducible refine zah (f := 113) rfl ?_); refine za3 (some 11) rfl rfl Try.func113 (by kernel_rfl) rfl #[.slice A0 l0.length c0] rfl (by (try simp only [List.map_toArray, List.map_cons, List.map_nil]); first | done | rfl | (simp only [List.length_drop, List.length_take]; rfl)) ?_; (with_reducible refine (zjm k _ _ l0 t101 t102 _ ?side1 ?side2 A3.out).mono ?_); (case side1 => repeat (first | exact HR0.out | (with_reducible first | refine zCa ?_ _ | refine zCn ?_ _ | refine zCd ?_))); (case side2 => exact HC0.out); rintro e w9 ⟨v103, v105, rfl, ho0, ho1, hb⟩; refine ⟨_, rfl, ?_⟩; have n0_ := zA (Kd.R_lower ho0 (za0 (by repeat (first | (with_reducible first | exact HB.out | apply zba | apply zbn | apply zbd) | exact HB.out)))); have n1_ := zA (Kd.R_lower ho1 (za0 (by repeat (first | (with_reducible first | exact HB.out | apply zba | apply zbn | apply zbd) | exact HB.out)))); have n2_ := zA (zag (by repeat (first | (with_reducible first | exact HB.out | apply zba | apply zbn | apply zbd) | exact HB.out)) hb); clear HB; have HO104 := n0_; have HO106 := n1_; have HB := n2_; clear n0_ n1_ n2_; (try clear hb); (try clear ho0); (try clear ho1); obtain ⟨Ao10, co10, eo10⟩ := Kd.R_slice HO106.out; subst eo10; have p107 : 0 ≤ (a1 : Int) := zde (by assumption); have q107 : a1 < (t102.length : Int) := zde (by assumption); obtain ⟨ad107, e107, hx107_0⟩ := Kd.at_int (zRr HO106.out).2.2 a1 p107 q107; cases e107; replace p107 := eq_true p107; replace q107 := eq_true q107; obtain ⟨Ao11, co11, eo11⟩ := Kd.R_slice HO104.out; subst eo11) | ((with_reducible refine zah (f := 114) rfl ?_); refine za3 (some 19) rfl rfl Try.func114 (by kernel_rfl) rfl #[.slice Ao11 t101.length co11, .int .i64 (rd t102 a1)] rfl (by (try simp only [List.map_toArray, List.map_cons, List.map_nil]); first | done | rfl | (simp only [List.length_drop, List.length_take]; rfl)) ?_; (with_reducible refine (zle k _ _ t101 (rd t102 a1) t108 _ ?side1 ?side2 A6.out).mono ?_); (case side1 => repeat (first | exact (zRr HO104.out).2.2 | (with_reducible first | refine zCa ?_ _ | refine zCn ?_ _ | refine zCd ?_))); (case side2 => exact (zRr HO104.out).2.1); rintro e w12 ⟨v109, rfl, ho0, hb⟩; refine ⟨_, rfl, ?_⟩; have n0_ := zA (Kd.R_elder' (by (with_reducible repeat (first | apply zRa | apply zRn | apply zRd)); exact HO104.out) (Kd.R_base ho0) hb); have n1_ := zA (zRb (by (with_reducible repeat (first | apply zRa | apply zRn | apply zRd)); exact HO106.out) hb); have n2_ := zA (Kd.R_lower (Kd.R_new' ho0 (Kd.R_lt (by (with_reducible repeat (first | apply zRa | apply zRn | apply zRd)); exact HO104.out))) (za0 (by repeat (first | (with_reducible first | exact HB.out | apply zba | apply zbn | apply zbd) | exact HB.out)))); have n3_ := zA (zag (by repeat (first | (with_reducible first | exact HB.out | apply zba | apply zbn | apply zbd) | exact HB.out)) hb); clear HO104 HO106 HB; have HO104 := n0_; have HO106 := n1_; have HO110 := n2_; have HB := n3_; clear n0_ n1_ n2_ n3_; (try clear hb); (try clear ho0); obtain ⟨Ao13, co13, eo13⟩ := Kd.R_slice HO110.out; subst eo13) | ((with_reducible refine zah (f := 95) rfl ?_); refine za3 (some 20) rfl rfl Try.func95 (by kernel_rfl) rfl #[.slice Ao13 t108.length co13] rfl (by (try simp only [List.map_toArray, List.map_cons, List.map_nil]); first | done | rfl | (simp only [List.length_drop, List.length_take]; rfl)) ?_; (with_reducible refine (zkf k _ _ t108 t111 _ ?side1 ?side2 A7.out).mono ?_); (case side1 => repeat (first | exact (zRr HO110.out).2.2 | (with_reducible first | refine zCa ?_ _ | refine zCn ?_ _ | refine zCd ?_))); (case side2 => exact (zRr HO110.out).2.1); rintro e w14 ⟨v112, rfl, ho0, hb⟩; refine ⟨_, rfl, ?_⟩; have n0_ := zA (Kd.R_elder' (by (with_reducible repeat (first | apply zRa | apply zRn | apply zRd)); exact HO104.out) (Kd.R_base ho0) hb); have n1_ := zA (zRb (by (with_reducible repeat (first | apply zRa | apply zRn | apply zRd)); exact HO106.out) hb); have n2_ := zA (Kd.R_elder' (by (with_reducible repeat (first | apply zRa | apply zRn | apply zRd)); exact HO110.out) (Kd.R_base ho0) hb); have n3_ := zA (Kd.R_lower (Kd.R_new' (Kd.R_new' ho0 (Kd.R_lt (by (with_reducible repeat (first | apply zRa | apply zRn | apply zRd)); exact HO104.out))) (Kd.R_lt (by (with_reducible repeat (first | apply zRa | apply zRn | apply zRd)); exact HO110.out))) (za0 (by repeat (first | (with_reducible first | exact HB.out | apply zba | apply zbn | apply zbd) | exact HB.out)))); have n4_ := zA (zag (by repeat (first | (with_reducible first | exact HB.out | apply zba | apply zbn | apply zbd) | exact HB.out)) hb); clear HO104 HO106; clear HO110 HB; have HO104 := n0_; have HO106 := n1_; have HO110 := n2_; have HO113 := n3_; have HB := n4_; clear n0_ n1_ n2_ n3_ n4_; (try clear hb); (try clear ho0); obtain ⟨Ao15, co15, eo15⟩ := Kd.R_slice HO113.out; subst eo15) | ((with_reducible refine zah (f := 43) rfl ?_); refine za3 (some 23) rfl rfl Try.func43 (by kernel_rfl) rfl #[.slice Ao15 t111.length co15] rfl (by (try simp only [List.map_toArray, List.map_cons, List.map_nil]); first | done | rfl | (simp only [List.length_drop, List.length_take]; rfl)) ?_; (with_reducible refine (zld k _ _ t111 t114 _ ?side1 ?side2 A8.out).mono ?_); (case side1 => repeat (first | exact (zRr HO113.out).2.2 | (with_reducible first | refine zCa ?_ _ | refine zCn ?_ _ | refine zCd ?_))); (case side2 => exact (zRr HO113.out).2.1); rintro e w16 ⟨rfl, hb⟩; refine ⟨_, rfl, ?_⟩; have n0_ := zA (zRb (by (with_reducible repeat (first | apply zRa | apply zRn | apply zRd)); exact HO104.out) hb); have n1_ := zA (zRb (by (with_reducible repeat (first | apply zRa | apply zRn | apply zRd)); exact HO106.out) hb); have n2_ := zA (zRb (by (with_reducible repeat (first | apply zRa | apply zRn | apply zRd)); exact HO110.out) hb); have n3_ := zA (zRb (by (with_reducible repeat (first | apply zRa | apply zRn | apply zRd)); exact HO113.out) hb); have n4_ := zA (zag (by repeat (first | (with_reducible first | exact HB.out | apply zba | apply zbn | apply zbd) | exact HB.out)) hb); clear HO104 HO106; clear HO110 HO113 HB; have HO104 := n0_; have HO106 := n1_; have HO110 := n2_; have HO113 := n3_; have HB := n4_; clear n0_ n1_ n2_ n3_ n4_; (try clear hb)))
 go_ret2
 exact ⟨_, by first | rfl | (simp [zad, zae] <;> rfl) | (simp [*, zad, zae] <;> rfl), by (with_reducible repeat (first | apply zRa | apply zRn | apply zRd)); exact Kd.R_mono HO113.out (fun _ hk => trivial), by repeat (first | (with_reducible first | exact HB.out | apply zba | apply zbn | apply zbd) | exact HB.out)⟩
def zbg : Nat → List (S94) → Int → Bool → Option ((List (S72)) × Bool)
 | 0, _, _, _ => none
 | k + 1, x0, x1, x15 => if x15 = true then (some (([] : List (S72)), false)) else ((zdz k x0 x1).bind fun bt103 => (if bt103.2 = true then (some (bt103.1, true)) else (some (([] : List (S72)), false))))
def zes (k : Nat) (l0 : List (S94)) (a1 : Int) : Option ((List (S72)) × Bool) := (zez k l0).bind fun t101 => (if t101 = true then ((zbq a1).bind fun t102 => (zbg k l0 a1 (!t102))) else (zbg k l0 a1 true))
theorem zg5 : ∀ k, (∀ y0 y1 y2, LeO (zbg k y0 y1 y2) (zbg (k + 1) y0 y1 y2))
 | 0 => fun _ _ _ r h => by simp [zbg] at h
 | k + 1 => by
   have ih0 := zg5 k
   · intro y0 y1 y2
     unfold zbg
     repeat' first
     | (with_reducible first | exact ih0 _ _ _ | exact zi0 _ _ | exact zhy _ _ _ | exact LeO.refl _ | exact LeO.none _ | refine zai ?_ ?_ | refine LeO.bind ?_ (fun _ => ?_))
     | exact LeO.none _
     | refine zai ?_ ?_
     | refine LeO.bind ?_ (fun _ => ?_)
theorem zpz : ∀ a0 a1 k, LeO (zes k a0 a1) (zes (k + 1) a0 a1) := by
 intro a0 a1 k
 have ih0 := zg5 k
 unfold zes
 repeat' first
     | (with_reducible first | exact ih0 _ _ _ | exact zi0 _ _ | exact zhy _ _ _ | exact LeO.refl _ | exact LeO.none _ | refine zai ?_ ?_ | refine LeO.bind ?_ (fun _ => ?_))
     | exact LeO.none _
     | refine zai ?_ ?_
     | refine LeO.bind ?_ (fun _ => ?_)
set_option maxHeartbeats 8000000 in
set_option maxRecDepth 100000 in
theorem zj0 (k : Nat) (A0 : Option Addr) (c0 : Nat) (l0 : List (S94)) (a1 : Int) (r1 : List (S72)) (r2 : Bool) (w : World) (hr0 : Kd.C k94 w A0 l0.length l0) (hc0 : l0.length ≤ c0) (h : zes k l0 a1 = some (r1, r2)) :
   Calls Try.prog 26 #[.slice A0 l0.length c0, .int .i64 a1] w fun e w' => ∃ v0_ : Value, e = .returned (.tuple #[v0_, .bool r2]) ∧ Kd.R k72 72 w' w.heap.size (fun _ => True) v0_ r1 ∧ Below w.heap.size w w' := by
 have HR0 := zA hr0
 have HC0 := zA hc0
 clear hr0 hc0
 have HB := zA (Below.refl w.heap.size w)
 have H : ((zez k l0).bind fun t101 => (if t101 = true then ((zbq a1).bind fun t102 => (zbg k l0 a1 (!t102))) else (zbg k l0 a1 true))) = some (r1, r2) := h
 clear h
 have HC3 := zA H
 clear H
 go_enter Try.func26, Try.ntmps26
 go_upto_region 1 with (fail)
 go_cut [15] (fun v15 wc => ∃ (kq : Nat) (x15_2 : Bool), v15 = .bool x15_2 ∧ Aside0 (zbg kq l0 a1 x15_2 = some (r1, r2)) ∧ Aside0 (kq ≤ k) ∧ Aside0 (Below w.heap.size w wc))
 case first =>
   have H := HC3.out
   clear HC3
   replace H := zob H
   obtain ⟨t101, A40, H⟩ := H
   replace H : (if t101 = true then ((zbq a1).bind fun t102 => (zbg k l0 a1 (!t102))) else (zbg k l0 a1 true)) = some (r1, r2) := H
   have A4 := zA A40
   clear A40
   by_cases c5 : t101 = true
   rotate_left
   · replace c5 := zbf c5
     subst c5
     replace H : (zbg k l0 a1 true) = some (r1, r2) := by rw [if_neg (show ¬ (false = true) by decide)] at H; exact H
     have H' := zA H
     clear H
     go_wp2_with (first | ((with_reducible refine zah (f := 52) rfl ?_); refine za3 (some 9) rfl rfl Try.func52 (by kernel_rfl) rfl #[.slice A0 l0.length c0] rfl (by (try simp only [List.map_toArray, List.map_cons, List.map_nil]); first | done | rfl | (simp only [List.length_drop, List.length_take]; rfl)) ?_; (with_reducible refine (zii k _ _ l0 false _ ?side1 ?side2 A4.out).mono ?_); (case side1 => repeat (first | exact (zCb HR0.out HB.out) | (with_reducible first | refine zCa ?_ _ | refine zCn ?_ _ | refine zCd ?_))); (case side2 => exact HC0.out); rintro e w8 ⟨rfl, hb⟩; refine ⟨_, rfl, ?_⟩; have n0_ := zA (zag (by repeat (first | (with_reducible first | exact HB.out | apply zba | apply zbn | apply zbd) | exact HB.out)) hb); clear HB; have HB := n0_; clear n0_; (try clear hb)))
     go_meet
     case rel => exact ⟨_, (true), (by first | rfl | (simp; done) | (simp [*]; done)), H', ⟨by first | omega | exact zlr _⟩, ⟨by repeat (first | (with_reducible first | exact HB.out | apply zba | apply zbn | apply zbd) | exact HB.out)⟩⟩
   subst c5
   replace H : ((zbq a1).bind fun t102 => (zbg k l0 a1 (!t102))) = some (r1, r2) := by rw [if_pos rfl] at H; exact H
   replace H := zob H
   obtain ⟨t102, A60, H⟩ := H
   replace H : (zbg k l0 a1 (!t102)) = some (r1, r2) := H
   have A6 := zA A60
   clear A60
   have H' := zA H
   clear H
   go_wp2_with (first | ((with_reducible refine zah (f := 52) rfl ?_); refine za3 (some 9) rfl rfl Try.func52 (by kernel_rfl) rfl #[.slice A0 l0.length c0] rfl (by (try simp only [List.map_toArray, List.map_cons, List.map_nil]); first | done | rfl | (simp only [List.length_drop, List.length_take]; rfl)) ?_; (with_reducible refine (zii k _ _ l0 true _ ?side1 ?side2 A4.out).mono ?_); (case side1 => repeat (first | exact (zCb HR0.out HB.out) | (with_reducible first | refine zCa ?_ _ | refine zCn ?_ _ | refine zCd ?_))); (case side2 => exact HC0.out); rintro e w7 ⟨rfl, hb⟩; refine ⟨_, rfl, ?_⟩; have n0_ := zA (zag (by repeat (first | (with_reducible first | exact HB.out | apply zba | apply zbn | apply zbd) | exact HB.out)) hb); clear HB; have HB := n0_; clear n0_; (try clear hb)) | (go_at_call 51; (with_reducible refine (zay a1 t102 _ A6.out).mono ?_); rintro e w' ⟨rfl, ⟨nd, rfl⟩⟩))
   go_meet
   case rel => exact ⟨_, (!t102), (by first | rfl | (simp; done) | (simp [*]; done)), H', ⟨by first | omega | exact zlr _⟩, ⟨by repeat (first | (with_reducible first | exact HB.out | apply zba | apply zbn | apply zbd) | exact HB.out)⟩⟩
 clear HC3
 try clear c2
 try clear p2
 try clear c5
 obtain ⟨kq, x15_2, rfl, HA, HJ2, HB⟩ := hcut
 cases kq with
 | zero => exact absurd HA.out (by simp [zbg])
 | succ kj2 =>
 have H := HA.out
 clear HA
 simp only [zbg] at H
 by_cases c9 : x15_2 = true
 · subst c9
   replace H : (some (([] : List (S72)), false)) = some (r1, r2) := by rw [if_pos rfl] at H; exact H
   simp only [Option.some.injEq, Prod.mk.injEq] at H
   obtain ⟨rfl, rfl⟩ := H
   go_wp2
   go_ret2
   exact ⟨_, by first | rfl | (simp [zad, zae] <;> rfl) | (simp [*, zad, zae] <;> rfl), by first | exact Kd.R_nil _ _ _ _ _ | exact Kd.N_nil _ _ _ _ _ | exact Kd.V_nil _ _ _ _ _ | exact Kd.Q_nil _ _ _ _ _ | exact Kd.S_nil _ _ _ _ _, by repeat (first | (with_reducible first | exact HB.out | apply zba | apply zbn | apply zbd) | exact HB.out)⟩
 replace c9 := zbf c9
 subst c9
 replace H : ((zdz kj2 l0 a1).bind fun bt103 => (if bt103.2 = true then (some (bt103.1, true)) else (some (([] : List (S72)), false)))) = some (r1, r2) := by rw [if_neg (show ¬ (false = true) by decide)] at H; exact H
 replace H := zob H
 obtain ⟨⟨t103, t104⟩, A100, H⟩ := H
 replace H : (if t104 = true then (some (t103, true)) else (some (([] : List (S72)), false))) = some (r1, r2) := H
 have A10 := zA A100
 clear A100
 by_cases c11 : t104 = true
 · subst c11
   replace H : (some (t103, true)) = some (r1, r2) := by rw [if_pos rfl] at H; exact H
   simp only [Option.some.injEq, Prod.mk.injEq] at H
   obtain ⟨rfl, rfl⟩ := H
   go_wp2_with (first | ((with_reducible refine zah (f := 68) rfl ?_); refine za3 (some 19) rfl rfl Try.func68 (by kernel_rfl) rfl #[.slice A0 l0.length c0, .int .i64 a1] rfl (by (try simp only [List.map_toArray, List.map_cons, List.map_nil]); first | done | rfl | (simp only [List.length_drop, List.length_take]; rfl)) ?_; (with_reducible refine (zhg kj2 _ _ l0 a1 t103 true _ ?side1 ?side2 A10.out).mono ?_); (case side1 => repeat (first | exact (zCb HR0.out HB.out) | (with_reducible first | refine zCa ?_ _ | refine zCn ?_ _ | refine zCd ?_))); (case side2 => exact HC0.out); rintro e w12 ⟨v105, rfl, ho0, hb⟩; refine ⟨_, rfl, ?_⟩; have n0_ := zA (Kd.R_lower ho0 (za0 (by repeat (first | (with_reducible first | exact HB.out | apply zba | apply zbn | apply zbd) | exact HB.out)))); have n1_ := zA (zag (by repeat (first | (with_reducible first | exact HB.out | apply zba | apply zbn | apply zbd) | exact HB.out)) hb); clear HB; have HO106 := n0_; have HB := n1_; clear n0_ n1_; (try clear hb); (try clear ho0)))
   go_ret2
   exact ⟨_, by first | rfl | (simp [zad, zae] <;> rfl) | (simp [*, zad, zae] <;> rfl), by (with_reducible repeat (first | apply zRa | apply zRn | apply zRd)); exact HO106.out, by repeat (first | (with_reducible first | exact HB.out | apply zba | apply zbn | apply zbd) | exact HB.out)⟩
 replace c11 := zbf c11
 subst c11
 replace H : (some (([] : List (S72)), false)) = some (r1, r2) := by rw [if_neg (show ¬ (false = true) by decide)] at H; exact H
 simp only [Option.some.injEq, Prod.mk.injEq] at H
 obtain ⟨rfl, rfl⟩ := H
 go_wp2_with (first | ((with_reducible refine zah (f := 68) rfl ?_); refine za3 (some 19) rfl rfl Try.func68 (by kernel_rfl) rfl #[.slice A0 l0.length c0, .int .i64 a1] rfl (by (try simp only [List.map_toArray, List.map_cons, List.map_nil]); first | done | rfl | (simp only [List.length_drop, List.length_take]; rfl)) ?_; (with_reducible refine (zhg kj2 _ _ l0 a1 t103 false _ ?side1 ?side2 A10.out).mono ?_); (case side1 => repeat (first | exact (zCb HR0.out HB.out) | (with_reducible first | refine zCa ?_ _ | refine zCn ?_ _ | refine zCd ?_))); (case side2 => exact HC0.out); rintro e w13 ⟨v105, rfl, ho0, hb⟩; refine ⟨_, rfl, ?_⟩; have n0_ := zA (Kd.R_lower ho0 (za0 (by repeat (first | (with_reducible first | exact HB.out | apply zba | apply zbn | apply zbd) | exact HB.out)))); have n1_ := zA (zag (by repeat (first | (with_reducible first | exact HB.out | apply zba | apply zbn | apply zbd) | exact HB.out)) hb); clear HB; have HO106 := n0_; have HB := n1_; clear n0_ n1_; (try clear hb); (try clear ho0)))
 go_ret2
 exact ⟨_, by first | rfl | (simp [zad, zae] <;> rfl) | (simp [*, zad, zae] <;> rfl), by first | exact Kd.R_nil _ _ _ _ _ | exact Kd.N_nil _ _ _ _ _ | exact Kd.V_nil _ _ _ _ _ | exact Kd.Q_nil _ _ _ _ _ | exact Kd.S_nil _ _ _ _ _, by repeat (first | (with_reducible first | exact HB.out | apply zba | apply zbn | apply zbd) | exact HB.out)⟩
def zd6 (k : Nat) (l0 : List (S93)) (a1 : Int) : Option Bool :=
 (zec k l0 1048576).bind fun t => if t < 0 then some true else
 (zer k l0).bind fun c => (zes k c a1).bind fun s => (zep k c a1).bind fun g =>
 (ze0 k g.1 s.1).bind fun e1 => (zeq k c c).bind fun e2 => (zdq k c 1).bind fun m => (zef k g.1 1).bind fun m2 => (zd4 k m2.2 1).bind fun q =>
 if e1 = true ∧ g.2 = s.2 ∧ e2 = true ∧ 0 ≤ m.1 ∧ q = m2.1 ∧ 0 ≤ q then some true else none
set_option maxHeartbeats 4000000 in
set_option maxRecDepth 100000 in
theorem zhk (k : Nat) (A0 : Option Addr) (c0 : Nat) (l0 : List (S93)) (a1 : Int) (r : Bool) (w : World) (hr0 : Kd.C k93 w A0 l0.length l0) (hc0 : l0.length ≤ c0) (h : zd6 k l0 a1 = some r) :
   Calls Try.prog 5 #[.slice A0 l0.length c0, .int .i64 a1] w fun e w' => e = .returned (.bool r) ∧ Below w.heap.size w w' := by
 have HR := zA hr0
 have HC := zA hc0
 clear hr0 hc0
 unfold zd6 at h
 obtain ⟨t, ht, h⟩ := Option.bind_eq_some_iff.1 h
 have Ht := zA ht
 clear ht
 by_cases hneg : t < 0
 · rw [if_pos hneg] at h
   obtain rfl := zsi h
   clear h
   have hd : decide (t < 0) = true := zdt hneg
   go_enter Try.func5, Try.ntmps5
   go_wp2_with fail
   (with_reducible refine (zhe k _ _ l0 1048576 t _ HR.out HC.out Ht.out).mono ?_)
   rintro e w1 ⟨rfl, hb⟩
   have HB := zA hb
   clear hb
   go_wp2_with fail
   go_ret
   exact ⟨rfl, HB.out⟩
 rw [if_neg hneg] at h
 have hd : decide (t < 0) = false := zdf hneg
 obtain ⟨c, hc, h⟩ := Option.bind_eq_some_iff.1 h
 obtain ⟨⟨s1, s2⟩, hs, h⟩ := Option.bind_eq_some_iff.1 h
 obtain ⟨⟨g1, g2⟩, hg, h⟩ := Option.bind_eq_some_iff.1 h
 obtain ⟨e1, he1, h⟩ := Option.bind_eq_some_iff.1 h
 obtain ⟨e2, he2, h⟩ := Option.bind_eq_some_iff.1 h
 obtain ⟨⟨m, mc⟩, hm, h⟩ := Option.bind_eq_some_iff.1 h
 obtain ⟨⟨q, qc⟩, hq, h⟩ := Option.bind_eq_some_iff.1 h
 obtain ⟨q2, hq2, h⟩ := Option.bind_eq_some_iff.1 h
 by_cases hall : e1 = true ∧ g2 = s2 ∧ e2 = true ∧ 0 ≤ m ∧ q2 = q ∧ 0 ≤ q2
 rotate_left
 · rw [if_neg hall] at h
   cases h
 rw [if_pos hall] at h
 obtain rfl := zsi h
 obtain ⟨rfl, rfl, rfl, hm0, rfl, hq0⟩ := hall
 clear h
 have dm : decide (m < 0) = false := zdf (by omega)
 have dq : decide (q2 < 0) = false := zdf (by omega)
 have H1 := zA hc
 have H2 := zA hs
 have H3 := zA hg
 have H4 := zA he1
 have H5 := zA he2
 have H6 := zA hm
 have H7 := zA hq
 have H8 := zA hq2
 clear hc hs hg he1 he2 hm hq hq2 hneg
 go_enter Try.func5, Try.ntmps5
 go_wp2_with fail
 (with_reducible refine (zhe k _ _ l0 1048576 t _ HR.out HC.out Ht.out).mono ?_)
 rintro e w1 ⟨rfl, hb⟩
 have HB := zA hb
 clear hb
 go_wp2_with fail
 (with_reducible refine (ze6 k _ _ l0 c _ (zCb HR.out HB.out) HC.out H1.out).mono ?_)
 rintro e w2 ⟨v, rfl, ho, hb⟩
 obtain ⟨A1, c1, rfl, hl1, hC1⟩ := Kd.R_reads ho
 have n := zA (zag HB.out hb)
 clear HB hb ho
 have HB := n
 clear n
 have HC1 := zA hC1
 have HL1 := zA hl1
 clear hC1 hl1
 go_wp2_with fail
 (with_reducible refine (zj0 k _ _ c a1 s1 g2 _ HC1.out HL1.out H2.out).mono ?_)
 rintro e wA ⟨v, rfl, ho, hb⟩
 obtain ⟨A2, c2, rfl, hl2, hC2⟩ := Kd.R_reads ho
 have n := zA (zag HB.out hb)
 clear HB hb ho HC1 HL1
 have HB := n
 clear n
 have HBA := zA HB.out
 have HC2 := zA hC2
 have HL2 := zA hl2
 clear hC2 hl2
 go_wp2_with fail
 (with_reducible refine (ze6 k _ _ l0 c _ (zCb HR.out HB.out) HC.out H1.out).mono ?_)
 rintro e w4 ⟨v, rfl, ho, hb⟩
 obtain ⟨A3, c3, rfl⟩ := Kd.R_slice ho
 have HA := zA hb
 have n := zA (zag HB.out hb)
 have HX := zA ho
 clear HB hb ho
 have HB := n
 clear n
 go_wp2_with fail
 (with_reducible refine (zhb k _ _ c a1 g1 g2 _ (zRr HX.out).2.2 (zRr HX.out).2.1 H3.out).mono ?_)
 rintro e w5 ⟨v, rfl, ho, hb⟩
 obtain ⟨A4, c4, rfl⟩ := Kd.R_slice ho
 have HX4 := zA (show _ ≤ w4.heap.size ∧ w4.heap.size ≤ w5.heap.size from ⟨HA.out.size, hb.size⟩)
 have n1 := zA (Kd.R_bound ho)
 have n2 := zA (zRb (Kd.R_bound HX.out) hb)
 have n3 := zA (zag HB.out hb)
 have n4 := zA (zag HA.out hb)
 clear HB HA HX hb ho
 have HG := n1
 have HX := n2
 have HB := n3
 have HA := n4
 clear n1 n2 n3 n4
 go_wp2_with fail
 (with_reducible refine (zgc k _ _ g1 _ _ s1 true _ (zRr HG.out).2.2 (zRr HG.out).2.1 (zCb HC2.out HA.out) HL2.out H4.out).mono ?_)
 rintro e w6 ⟨rfl, hb⟩
 have n1 := zA (zRb HG.out hb)
 have n2 := zA (zRb HX.out hb)
 have n3 := zA (zag HB.out hb)
 have n4 := zA (zag HA.out hb)
 clear HB HA HX HG hb
 have HG := n1
 have HX := n2
 have HB := n3
 have HA := n4
 clear n1 n2 n3 n4
 go_wp2_with fail
 (with_reducible refine (ze6 k _ _ l0 c _ (zCb HR.out HB.out) HC.out H1.out).mono ?_)
 rintro e w7 ⟨v, rfl, ho, hb⟩
 obtain ⟨A5, c5, rfl, hl5, hC5⟩ := Kd.R_reads ho
 have HC5 := zA hC5
 have HL5 := zA hl5
 clear ho hC5 hl5
 have n1 := zA (zRb HG.out hb)
 have n2 := zA (zRb HX.out hb)
 have n3 := zA (zag HB.out hb)
 have n4 := zA (zag HA.out hb)
 clear HB HA HX HG hb
 have HG := n1
 have HX := n2
 have HB := n3
 have HA := n4
 clear n1 n2 n3 n4
 go_wp2_with fail
 (with_reducible refine (zjw k _ _ c _ _ c true _ (zRr HX.out).2.2 (zRr HX.out).2.1 HC5.out HL5.out H5.out).mono ?_)
 rintro e w8 ⟨rfl, hb⟩
 clear HC5 HL5
 have n1 := zA (zRb HG.out hb)
 have n2 := zA (zRb HX.out hb)
 have n3 := zA (zag HB.out hb)
 have n4 := zA (zag HA.out hb)
 clear HB HA HX HG hb
 have HG := n1
 have HX := n2
 have HB := n3
 have HA := n4
 clear n1 n2 n3 n4
 go_wp2_with fail
 (with_reducible refine (zi6 k (fun k_ => k_ < w4.heap.size) _ c 1 m mc wA _ HA.out ?side1 H6.out).mono ?_)
 case side1 => exact Kd.R_mono (Kd.R_lower HX.out (zlr _)) (fun k_ hk => hk.2.2.1)
 rintro e w9 ⟨rfl, _, hA9, hk9⟩
 have n1 := zA (Kd.R_step HG.out (fun k_ hk hlt => hk9.2 k_ hlt (by have := hk.2.1; omega)))
 have n3 := zA (zlo HBA.out HBA.out.size hA9)
 clear HB HA HG HX
 have HG := n1
 have HB := n3
 have HA := zA hA9
 clear n1 n3 hA9 hk9
 go_wp2_with fail
 (with_reducible refine (zgc k _ _ g1 _ _ s1 true _ (zRr HG.out).2.2 (zRr HG.out).2.1 (zCb HC2.out HA.out) HL2.out H4.out).mono ?_)
 rintro e w10 ⟨rfl, hb⟩
 have n1 := zA (zRb HG.out hb)
 have n3 := zA (zag HB.out hb)
 have n4 := zA (zag HA.out hb)
 clear HB HA HG hb
 have HG := n1
 have HB := n3
 have HA := n4
 clear n1 n3 n4
 go_wp2_with fail
 (with_reducible refine (zji k (fun _ => True) _ g1 1 q2 qc wA _ HA.out ?side3 H7.out).mono ?_)
 case side3 => exact Kd.R_mono (Kd.R_lower HG.out HX4.out.1) (fun _ _ => trivial)
 rintro e w11 ⟨rfl, hG, hA9, hk9⟩
 have n3 := zA (zlo HBA.out HBA.out.size hA9)
 clear HB HA HG
 have HG := zA hG
 have HE := zA (zRr hG).1
 have HE2 := zA (show qc.length ≤ c4 from (zRr hG).1 ▸ (zRr hG).2.1)
 have HB := n3
 have HA := zA hA9
 clear n3 hA9 hk9 hG
 go_wp2_with fail
 refine zkv (args' := #[.slice A4 qc.length c4, .int .i64 1]) (by rw [HE.out]) ?_
 (with_reducible refine (zg2 k _ _ qc 1 q2 _ (zRr HG.out).2.2 HE2.out H8.out).mono ?_)
 rintro e w12 ⟨rfl, hb⟩
 have n1 := zA (zRb HG.out hb)
 have n3 := zA (zag HB.out hb)
 have n4 := zA (zag HA.out hb)
 clear HB HA HG hb
 have HG := n1
 have HB := n3
 have HA := n4
 clear n1 n3 n4
 go_wp2_with fail
 (with_reducible refine (ze6 k _ _ l0 c _ (zCb HR.out HB.out) HC.out H1.out).mono ?_)
 rintro e w13 ⟨v, rfl, ho, hb⟩
 obtain ⟨A6, c6, rfl, hl6, hC6⟩ := Kd.R_reads ho
 have HC6 := zA hC6
 have HL6 := zA hl6
 clear ho hC6 hl6
 have n1 := zA (zRb HG.out hb)
 have n3 := zA (zag HB.out hb)
 have n4 := zA (zag HA.out hb)
 clear HB HA HG hb
 have HG := n1
 have HB := n3
 have HA := n4
 clear n1 n3 n4
 go_wp2_with fail
 (with_reducible refine (zhb k _ _ c a1 g1 g2 _ HC6.out HL6.out H3.out).mono ?_)
 rintro e w14 ⟨v, rfl, ho, hb⟩
 obtain ⟨A7, c7, rfl, hl7, hC7⟩ := Kd.R_reads ho
 have HC7 := zA hC7
 have HL7 := zA hl7
 clear ho hC7 hl7 HC6 HL6
 have n1 := zA (zRb HG.out hb)
 have n3 := zA (zag HB.out hb)
 have n4 := zA (zag HA.out hb)
 clear HB HA HG hb
 have HG := n1
 have HB := n3
 have HA := n4
 clear n1 n3 n4
 go_wp2_with fail
 (with_reducible refine (zgc k _ _ g1 _ _ s1 true _ HC7.out HL7.out (zCb HC2.out HA.out) HL2.out H4.out).mono ?_)
 rintro e w15 ⟨rfl, hb⟩
 have n1 := zA (zRb HG.out hb)
 have n3 := zA (zag HB.out hb)
 have n4 := zA (zag HA.out hb)
 clear HB HA HG hb
 have HG := n1
 have HB := n3
 have HA := n4
 clear n1 n3 n4
 go_wp2_with fail
 refine zkv (args' := #[.slice A4 qc.length c4, .int .i64 1]) (by rw [HE.out]) ?_
 (with_reducible refine (zg2 k _ _ qc 1 q2 _ (zRr HG.out).2.2 HE2.out H8.out).mono ?_)
 rintro e w16 ⟨rfl, hb⟩
 have n1 := zA (zRb HG.out hb)
 have n3 := zA (zag HB.out hb)
 have n4 := zA (zag HA.out hb)
 clear HB HA HG hb
 have HG := n1
 have HB := n3
 have HA := n4
 clear n1 n3 n4
 go_wp2_with fail
 go_ret
 exact ⟨rfl, HB.out⟩
end Go.Proofs.Ytkfkbmlbpeojaaa.Q
end
section
namespace Go.Proofs.Ytkfkbmlbpeojaaa.Rd
open Go Go.RowKit Go.Proofs.YtkfkbmlbpeojaaaW.PrintWords Go.Proofs.YtkfkbmlbpeojaaaW.PrintLast Go.ChangeShapes Go.WideShapes Go.Deep
set_option linter.unusedSimpArgs false
set_option linter.unusedVariables false
structure RdK {α : Type} (d : Kd α) (P : Program) (t : TypeId) (Good : α → Prop) : Prop where
  size : P.cellsOf t = d.sz
  get : ∀ {H : Type} {enc : TypeId × Value → H} {w : World} {n : Nat} {cs : List Value} {x : DataW H × List MemPlace}, DataW.trod enc P w 0 (fun _ => true) true n t cs = some x → ∃ a, d.K w a cs ∧ Good a
def okInt (k : IntKind) (n : Int) : Prop := (Lit.int k n).wf = true
def okStr (s : ByteArray) : Prop := s.size ≤ maxLen
def okSl {α : Type} (G : α → Prop) (xs : List α) : Prop := xs.length ≤ maxLen ∧ ∀ x ∈ xs, G x
theorem rk_int {P : Program} {t : TypeId} {k : IntKind} (ht : P.underlying t = some (.int k)) (hs : P.cellsOf t = 1) : RdK (Kd.int k) P t (okInt k) :=
  ⟨hs, fun h => by obtain ⟨n, rfl, _, hw⟩ := DataW.trod_int ht h; exact ⟨n, rfl, hw⟩⟩
theorem rk_string {P : Program} {t : TypeId} (ht : P.underlying t = some .string) (hs : P.cellsOf t = 1) : RdK Kd.string P t okStr :=
  ⟨hs, fun h => by obtain ⟨n, rfl, _, hw⟩ := DataW.trod_string ht h; exact ⟨n, rfl, hw⟩⟩
theorem rk_slice {α : Type} {d : Kd α} {P : Program} {t e : TypeId} {G : α → Prop} (hd : RdK d P e G) (ht : P.underlying t = some (.slice e)) (hs : P.cellsOf t = 1) : RdK (Kd.slice e d) P t (okSl G) := by
  refine ⟨hs, fun {H enc w n cs x} h => ?_⟩
  rcases open_slice ht h with ⟨rfl, _⟩ | ⟨a, len, cap, m, n', D, Pl, rfl, _, hl, hm, hmm, _, hx⟩
  · exact ⟨[], ⟨none, 0, rfl, Nat.le_refl _, rfl, Nat.zero_le _, fun h => absurd h (Nat.lt_irrefl 0)⟩, Nat.zero_le _, fun _ h => by cases h⟩
  · have hc : m = cap := by simpa using hmm
    subst hc
    have key : ∀ i : Fin len, ∃ a' : α, ∃ cs', d.K w a' cs' ∧ G a' ∧ w.cells? 0 (a.add (i * P.cellsOf e)) (P.cellsOf e) = some cs' := fun i => by
      obtain ⟨cs', h1, h2⟩ := hx i (by omega)
      obtain ⟨a', h3, h4⟩ := hd.get h2
      exact ⟨a', cs', h3, h4, h1⟩
    have hlen : (List.ofFn fun i => Classical.choose (key i)).length = len := List.length_ofFn
    refine ⟨List.ofFn fun i => Classical.choose (key i), ⟨some a, m, by rw [hlen], by omega, hlen.trans hlen.symm, ?_, fun _ => ⟨a, rfl, fun j p hj => ?_⟩⟩, by rw [hlen]; omega, fun y hy => ?_⟩
    · rw [hlen]; unfold maxLen at hm; omega
    · have hjl : j < len := by
        have := (List.getElem?_eq_some_iff.1 hj).1
        rwa [hlen] at this
      rw [List.getElem?_ofFn, dif_pos hjl, Option.some.injEq] at hj
      obtain ⟨cs', h1, h2, h3⟩ := Classical.choose_spec (key ⟨j, hjl⟩)
      rw [hj] at h1 h2
      obtain ⟨_, h5, h6⟩ := World.cells?_some h3
      refine ⟨cs', d.K_len h1, h1, fun i u hi => ?_⟩
      have hil : i < P.cellsOf e := by
        have := (List.getElem?_eq_some_iff.1 hi).1
        omega
      have := h6 i hil
      rw [Go.Deep.add_add] at this
      rw [← hd.size]
      exact this.trans hi
    · obtain ⟨i, rfl⟩ := List.mem_ofFn.1 hy
      obtain ⟨cs', h1, h2, h3⟩ := Classical.choose_spec (key i)
      exact h2
structure RdF {α : Type} (d : Kd α) (P : Program) (fs : List Field) (off : Nat) (Good : α → Prop) : Prop where
  get : ∀ {H : Type} {enc : TypeId × Value → H} {w : World} {n : Nat} {cs : List Value}, cs.length = off + d.sz →
    (∀ f ∈ fs, ∃ y, DataW.trod enc P w 0 (fun _ => true) true n f.type ((cs.drop f.offset).take (P.cellsOf f.type)) = some y) → ∃ a, d.K w a (cs.drop off) ∧ Good a
theorem rf_one {α : Type} {d : Kd α} {P : Program} {f : Field} {G : α → Prop} (hd : RdK d P f.type G) : RdF d P [f] f.offset G := by
  refine ⟨fun {H enc w n cs} hl h => ?_⟩
  obtain ⟨y, hy⟩ := h f (List.mem_singleton.2 rfl)
  rw [hd.size, List.take_of_length_le (by rw [List.length_drop]; omega)] at hy
  exact hd.get hy
theorem rf_cons {α β : Type} {d : Kd α} {d' : Kd β} {P : Program} {f : Field} {fs : List Field} {G : α → Prop} {G' : β → Prop} {off' : Nat} (hd : RdK d P f.type G) (ho : off' = f.offset + d.sz) (hf : RdF d' P fs off' G') :
    RdF (Kd.pair d d') P (f :: fs) f.offset (fun x => G x.1 ∧ G' x.2) := by
  refine ⟨fun {H enc w n cs} hl h => ?_⟩
  have hl' : cs.length = f.offset + (d.sz + d'.sz) := hl
  obtain ⟨y, hy⟩ := h f List.mem_cons_self
  rw [hd.size] at hy
  obtain ⟨a, h1, h2⟩ := hd.get hy
  obtain ⟨b, h3, h4⟩ := hf.get (cs := cs) (by omega) (fun g hg => h g (List.mem_cons_of_mem _ hg))
  refine ⟨(a, b), ⟨_, _, ?_, h1, h3⟩, h2, h4⟩
  rw [ho, ← List.drop_drop, List.take_append_drop]
theorem rk_struct {α : Type} {d : Kd α} {P : Program} {t : TypeId} {fs : Array Field} {G : α → Prop} (ht : P.underlying t = some (.struct fs)) (hs : P.cellsOf t = d.sz) (hf : RdF d P fs.toList 0 G) : RdK d P t G := by
  refine ⟨hs, fun {H enc w n cs x} h => ?_⟩
  obtain ⟨xs, n', _, _, hl, hlen, hg⟩ := DataW.trod_struct ht h
  have := hf.get (cs := cs) (enc := enc) (w := w) (n := n') (by omega) (fun f hf' => by
    obtain ⟨i, hi, he⟩ := List.getElem_of_mem hf'
    have h1 : fs[i]? = some f := by rw [← Array.getElem?_toList, List.getElem?_eq_getElem hi, he]
    have h2 := hg i f h1
    rw [List.getElem?_eq_getElem (by rw [hlen]; simpa using hi)] at h2
    exact ⟨_, h2⟩)
  simpa using this
theorem rk_iso {α β : Type} {d : Kd α} {P : Program} {t : TypeId} {G : α → Prop} (hd : RdK d P t G) (f : β → α) (g : α → β) (hfg : ∀ a, f (g a) = a) : RdK (Kd.iso d f) P t (fun b => G (f b)) := by
  refine ⟨hd.size, fun {H enc w n cs x} h => ?_⟩
  obtain ⟨a, h1, h2⟩ := hd.get h
  exact ⟨g a, by show d.K w (f (g a)) cs; rw [hfg]; exact h1, by rw [hfg]; exact h2⟩
theorem arg_slice {α : Type} {d : Kd α} {P : Program} {t e : TypeId} {G : α → Prop} (hd : RdK (Kd.slice e d) P t (okSl G)) {H : Type} {enc : TypeId × Value → H} {w : World} {a : Option Addr} {len cap : Nat} {x : DataW H} {ps : List MemPlace}
    (h : DataW.Trod enc P w 0 (fun _ => true) true t (.slice a len cap) x ps) : ∃ xs : List α, len = xs.length ∧ xs.length ≤ cap ∧ Kd.C d w a xs.length xs ∧ okSl G xs := by
  obtain ⟨n, hn⟩ := h
  obtain ⟨xs, ⟨A, c, he, hl, hc⟩, hg⟩ := hd.get hn
  simp [Value.cells] at he
  obtain ⟨rfl, rfl, rfl⟩ := he
  exact ⟨xs, rfl, hl, hc, hg⟩
end Go.Proofs.Ytkfkbmlbpeojaaa.Rd
end
section
namespace Go.Proofs.Ytkfkbmlbpeojaaa.Q
open Go.RowKit Go.Proofs.YtkfkbmlbpeojaaaW.PrintWords Go.Proofs.YtkfkbmlbpeojaaaW.PrintLast Go.Proofs.YtkfkbmlbpeojaaaW.PrintMore
attribute [local go_sem] zcz zc0 zd1 zd2 zcl zcm zc1 zc2
set_option linter.unusedVariables false
set_option linter.unusedSimpArgs false
def zqw (x : S93) : Prop := Rd.okStr x.f0 ∧ (Rd.okInt .i64) x.f1 ∧ (Rd.okInt .i64) x.f2 ∧ (Rd.okInt .i64) x.f3 ∧ (Rd.okInt .i64) x.f4
theorem rd93 : Rd.RdK k93 Try.prog 93 zqw :=
  Rd.rk_iso (Rd.rk_struct Try.underlying93 (by kernel_rfl) (Rd.rf_cons (Rd.rk_string Try.underlying9 (by kernel_rfl)) rfl (Rd.rf_cons (Rd.rk_int Try.underlying3 (by kernel_rfl)) rfl (Rd.rf_cons (Rd.rk_int Try.underlying3 (by kernel_rfl)) rfl (Rd.rf_cons (Rd.rk_int Try.underlying3 (by kernel_rfl)) rfl (Rd.rf_one (Rd.rk_int Try.underlying3 (by kernel_rfl)))))))) (fun x : S93 => (x.f0, x.f1, x.f2, x.f3, x.f4)) (fun p => ⟨p.1, p.2.1, p.2.2.1, p.2.2.2.1, p.2.2.2.2⟩) (fun _ => rfl)
def laws_FnExactSymbolOf.Pure : Prop := ∀ (a0 : List (S93)) (a1 : Int), (Rd.okSl zqw) a0 → (Rd.okInt .i64) a1 → ∃ k, zd6 k a0 a1 = some true
end Go.Proofs.Ytkfkbmlbpeojaaa.Q
end
section
namespace Go.Proofs.Ytkfkbmlbpeojaaa.PL
open Go Go.RowKit Go.Proofs.YtkfkbmlbpeojaaaW.PrintWords Go.Proofs.YtkfkbmlbpeojaaaW.PrintLast Go.Proofs.YtkfkbmlbpeojaaaW.PrintMore Go.Proofs.Ytkfkbmlbpeojaaa.Q
set_option linter.unusedSimpArgs false
set_option linter.unusedVariables false
theorem w64 {x : Int} (h1 : -9223372036854775808 ≤ x) (h2 : x < 9223372036854775808) : wrap64 x = x := by unfold wrap64; omega
theorem w64n (i : Nat) (h : i < 4611686018427387904) : wrap64 ((i : Int) + 1) = ((i + 1 : Nat) : Int) := by unfold wrap64; omega
theorem Ev.some {α : Type} {a r : α} (h : a = r) : Ev (fun _ => some a) r := h ▸ zb3 a
theorem Ev.const {α : Type} {g : Option α} {r : α} (h : g = Option.some r) : Ev (fun _ => g) r := by rw [h]; exact zb3 r
theorem zl4 {α : Type} {g : Nat → Option α} {r s : α} (h : Ev g r) (e : r = s) : Ev g s := e ▸ h
theorem ztv {α : Type} {g : Nat → Option α} {r s : α} (h : Ev g r) (h' : Ev g s) : r = s := by
  obtain ⟨K, h⟩ := h
  obtain ⟨K', h'⟩ := h'
  have h1 := h (max K K') (by omega)
  have h2 := h' (max K K') (by omega)
  rw [h1] at h2
  exact Option.some.inj h2
theorem zak {α : Type} {c : Prop} [Decidable c] {g g' : Nat → Option α} {r : α} (h : c) (H : Ev g r) : Ev (fun k => if c then g k else g' k) r := zmc (fun _ => if_pos h) H
theorem za7 {α : Type} {c : Prop} [Decidable c] {g g' : Nat → Option α} {r : α} (h : ¬ c) (H : Ev g' r) : Ev (fun k => if c then g k else g' k) r := zmc (fun _ => if_neg h) H
theorem Ev.call {α β : Type} {g : Option α} {f : Nat → α → Option β} {a : α} {r : β} (h : g = Option.some a) (k : Ev (fun n => f n a) r) : Ev (fun n => g.bind (f n)) r := by
  rw [h]; exact k
theorem zqx {σ ρ : Type} (n : Nat) (L : Nat → σ → Int → Option ρ) (M : Nat → σ → ρ) (hend : ∀ s, Ev (fun k => L k s n) (M n s))
    (hstep : ∀ (i : Nat) s, i < n → (∀ s', Ev (fun k => L k s' ((i + 1 : Nat) : Int)) (M (i + 1) s')) → Ev (fun k => L k s i) (M i s)) :
    ∀ (d i : Nat) s, i + d = n → Ev (fun k => L k s i) (M i s)
  | 0, i, s, h => by
    have e : i = n := by omega
    rw [e]
    exact hend s
  | d + 1, i, s, h => hstep i s (by omega) (fun s' => zqx n L M hend hstep d (i + 1) s' (by omega))
theorem zjb {α σ ρ : Type} (xs : List α) (L : Nat → σ → Int → Option ρ) (m : List α → σ → ρ) (hend : ∀ s, Ev (fun k => L k s (xs.length : Nat)) (m [] s))
    (hstep : ∀ (i : Nat) s x rest, i < xs.length → (∀ d, xs.getD i d = x) → (∀ s', Ev (fun k => L k s' ((i + 1 : Nat) : Int)) (m rest s')) → Ev (fun k => L k s i) (m (x :: rest) s)) (s : σ) :
    Ev (fun k => L k s 0) (m xs s) := by
  have := zqx xs.length L (fun i s => m (xs.drop i) s) (fun s => by simpa using hend s) (fun i s hi ih => by
    have e : xs.drop i = xs[i] :: xs.drop (i + 1) := List.drop_eq_getElem_cons hi
    show Ev (fun k => L k s i) (m (xs.drop i) s)
    rw [e]
    exact hstep i s xs[i] _ hi (fun d => by simp [List.getD, List.getElem?_eq_getElem hi]) ih) xs.length 0 s (by omega)
  simpa using this
def idx {α : Type} (p : α → Bool) : List α → Int
  | [] => -1
  | x :: xs => if p x = true then 0 else if idx p xs < 0 then -1 else idx p xs + 1
theorem zlh {α : Type} (p : α → Bool) (xs : List α) : 0 ≤ idx p xs ↔ ∃ x ∈ xs, p x = true := by
  induction xs with
  | nil => simp [idx]
  | cons x xs ih =>
    unfold idx
    by_cases h : p x = true
    · simp [h]
    · by_cases h2 : idx p xs < 0
      · rw [if_neg h, if_pos h2]
        have : ¬ ∃ x ∈ xs, p x = true := fun e => by have := ih.2 e; omega
        simp [h]
        simpa using this
      · rw [if_neg h, if_neg h2]
        have := ih.1 (by omega)
        simp [h]
        exact ⟨fun _ => this, fun _ => by omega⟩
theorem zs6 {α : Type} (p : α → Bool) (xs : List α) : -1 ≤ idx p xs := by
  induction xs with
  | nil => unfold idx; simp
  | cons x xs ih => unfold idx; split; · decide
                    · split <;> omega
theorem zki {α : Type} (xs : List α) (p : α → Bool) (L : Nat → Int → Option Int) (hend : Ev (fun k => L k (xs.length : Nat)) (-1))
    (hyes : ∀ (i : Nat) x, i < xs.length → (∀ d, xs.getD i d = x) → p x = true → Ev (fun k => L k i) (i : Int))
    (hno : ∀ (i : Nat) x r, i < xs.length → (∀ d, xs.getD i d = x) → p x = false → Ev (fun k => L k ((i + 1 : Nat) : Int)) r → Ev (fun k => L k i) r) : Ev (fun k => L k 0) (idx p xs) := by
  have key : ∀ (d i : Nat), i + d = xs.length → Ev (fun k => L k i) (if idx p (xs.drop i) < 0 then -1 else idx p (xs.drop i) + i) := by
    intro d
    induction d with
    | zero =>
      intro i hi
      rw [List.drop_of_length_le (by omega), if_pos (show idx p [] < 0 by unfold idx; decide)]
      have e : i = xs.length := by omega
      rw [e]; exact hend
    | succ d ih =>
      intro i hi
      have hlt : i < xs.length := by omega
      have e : xs.drop i = xs[i] :: xs.drop (i + 1) := List.drop_eq_getElem_cons hlt
      have hg : ∀ d, xs.getD i d = xs[i] := fun d => by simp [List.getD, List.getElem?_eq_getElem hlt]
      rw [e]
      unfold idx
      by_cases h : p xs[i] = true
      · rw [if_pos h, if_neg (by decide)]
        simpa using hyes i _ hlt hg h
      · refine hno i _ _ hlt hg (by simpa using h) (zl4 (ih (i + 1) (by omega)) ?_)
        rw [if_neg h]
        by_cases h2 : idx p (xs.drop (i + 1)) < 0
        · rw [if_pos h2, if_pos h2, if_pos (by decide)]
        · rw [if_neg h2, if_neg h2, if_neg (by omega)]
          omega
  have := key xs.length 0 (by omega)
  simp only [List.drop_zero, Int.natCast_zero, Int.add_zero] at this
  refine zl4 this ?_
  have := zs6 p xs
  split <;> omega
theorem zu6 {α : Type} (xs : List α) (p : α → Bool) (L : Nat → Int → Option Bool) (hend : Ev (fun k => L k (xs.length : Nat)) true)
    (hno : ∀ (i : Nat) x, i < xs.length → (∀ d, xs.getD i d = x) → p x = false → Ev (fun k => L k i) false)
    (hyes : ∀ (i : Nat) x r, i < xs.length → (∀ d, xs.getD i d = x) → p x = true → Ev (fun k => L k ((i + 1 : Nat) : Int)) r → Ev (fun k => L k i) r) : Ev (fun k => L k 0) (xs.all p) := by
  refine zjb (σ := Unit) xs (fun k _ i => L k i) (fun l _ => l.all p) (fun _ => hend) (fun i _ x rest hi hx ih => ?_) ()
  by_cases h : p x = true
  · exact hyes i x _ hi hx h (zl4 (ih ()) (by simp [h]))
  · have h' : p x = false := by simpa using h
    exact zl4 (hno i x hi hx h') (by simp [h'])
theorem zqf {xs : List Int} {i : Nat} {x : Int} (h : ∀ d, xs.getD i d = x) : rd xs i = x := by unfold rd; rw [Int.toNat_natCast]; exact h 0
theorem zpa {α : Type} {d0 : α} {xs : List α} {i : Nat} {x : α} (h : ∀ d, xs.getD i d = x) : rdOf d0 xs i = x := by unfold rdOf; rw [Int.toNat_natCast]; exact h d0
theorem zok {xs : List S94} {i : Nat} {x : S94} (h : ∀ d, xs.getD i d = x) : zaa xs i = x := by unfold zaa; rw [Int.toNat_natCast]; exact h _
theorem zs7 {xs : List S93} {i : Nat} {x : S93} (h : ∀ d, xs.getD i d = x) : zc7 xs i = x := by unfold zc7; rw [Int.toNat_natCast]; exact h _
theorem zfl {α : Type} (xs : List α) (i : Nat) (h : i < xs.length) : ∀ d, xs.getD i d = xs[i] := fun d => by simp [List.getD, List.getElem?_eq_getElem h]
theorem zsd {α : Type} (xs ys : List α) (z : α) (v : α) : (xs ++ List.replicate (ys.length + 1) z).set xs.length v = (xs ++ [v]) ++ List.replicate ys.length z := by
  rw [List.set_append_right _ _ (Nat.le_refl _)]
  simp [List.replicate_succ]
end Go.Proofs.Ytkfkbmlbpeojaaa.PL
end
section
namespace Go.Proofs.Ytkfkbmlbpeojaaa.Q
open Go.RowKit Go.Proofs.YtkfkbmlbpeojaaaW.PrintWords Go.Proofs.YtkfkbmlbpeojaaaW.PrintLast Go.Proofs.YtkfkbmlbpeojaaaW.PrintMore
attribute [local go_sem] zcz zc0 zd1 zd2 zcl zcm zc1 zc2
set_option linter.unusedVariables false
set_option linter.unusedSimpArgs false
end Go.Proofs.Ytkfkbmlbpeojaaa.Q
end
section
namespace Go.Proofs.Ytkfkbmlbpeojaaa.PL
open Go Go.RowKit Go.Proofs.YtkfkbmlbpeojaaaW.PrintWords Go.Proofs.YtkfkbmlbpeojaaaW.PrintLast Go.Proofs.YtkfkbmlbpeojaaaW.PrintMore Go.Proofs.Ytkfkbmlbpeojaaa.Q
set_option linter.unusedSimpArgs false
set_option linter.unusedVariables false
abbrev Instr := S94
abbrev zqy := S93
def cvI (x : zqy) : Instr := ⟨x.f0, x.f1, x.f2, x.f3, x.f4⟩
theorem zne (s : ByteArray) (a b c d r : Int) (hs : s.size ≤ maxLen) (h0 : 0 ≤ r) (h1 : r ≤ 1048576) : zgo s a b c d r = some (if r < s.size then -1 else r - s.size) := by
  unfold maxLen at hs
  unfold zgo
  rw [w64 (by omega) (by omega)]
  by_cases h : r < s.size
  · rw [if_pos (by omega), if_pos h]
  · rw [if_neg (by omega), if_neg h]
theorem zpb (l : List zqy) (a : Int) (hl : Rd.okSl zqw l) (h0 : 0 ≤ a) (h1 : a ≤ 1048576) :
    ∃ r, Ev (fun k => zec k l a) r ∧ (0 ≤ r → (l.length : Int) ≤ a ∧ (∀ x ∈ l, (x.f0.size : Int) ≤ a) ∧ r ≤ a) := by
  obtain ⟨hl1, hl2⟩ := hl
  unfold maxLen at hl1
  by_cases h : a < l.length
  · refine ⟨-1, ?_, fun h => absurd h (by decide)⟩
    unfold zec
    rw [w64 (by omega) (by omega)]
    simp only [show a - (l.length : Int) < 0 by omega, if_true]
    exact zb3 _
  · have key : ∀ (d i : Nat) (r : Int), i + d = l.length → 0 ≤ r → r ≤ a → ∃ q, Ev (fun k => zbv k l r i) q ∧ q ≤ a ∧ (0 ≤ q → ∀ x ∈ l.drop i, (x.f0.size : Int) ≤ a) := by
      intro d
      induction d with
      | zero =>
        intro i r hi hr _
        refine ⟨r, Ev.step (f := fun _ => some r) (fun k => ?_) (zb3 _), by omega, fun _ x hx => ?_⟩
        · simp only [zbv]
          rw [if_neg (by omega)]
        · rw [List.drop_of_length_le (by omega)] at hx
          cases hx
      | succ d ih =>
        intro i r hi hr hra
        have hlt : i < l.length := by omega
        have e : l.drop i = l[i] :: l.drop (i + 1) := List.drop_eq_getElem_cons hlt
        have hx := zs7 (zfl l i hlt)
        have hsz := (hl2 l[i] (List.getElem_mem hlt)).1
        by_cases hb : r < l[i].f0.size
        · refine ⟨-1, Ev.step (f := fun _ => some (-1)) (fun k => ?_) (zb3 _), by omega, fun h => absurd h (by decide)⟩
          simp only [zbv]
          rw [if_pos (by omega), if_pos (by omega), hx, zne _ _ _ _ _ _ hsz hr (by omega), if_pos hb]
          rfl
        · obtain ⟨q, hq, hqa, hq'⟩ := ih (i + 1) (r - l[i].f0.size) (by omega) (by omega) (by omega)
          refine ⟨q, Ev.step (f := fun k => zbv k l (r - l[i].f0.size) ((i + 1 : Nat) : Int)) (fun k => ?_) hq, hqa, fun h x hx' => ?_⟩
          · simp only [zbv]
            rw [if_pos (by omega), if_pos (by omega), hx, zne _ _ _ _ _ _ hsz hr (by omega), if_neg hb, Option.bind_some, if_neg (by omega), w64n i (by omega)]
          · rw [e] at hx'
            rcases List.mem_cons.1 hx' with rfl | hx'
            · omega
            · exact hq' h x hx'
    obtain ⟨q, hq, hqa, hq'⟩ := key l.length 0 (a - l.length) (by omega) (by omega) (by omega)
    refine ⟨q, ?_, fun h' => ⟨by omega, by simpa using hq' h', hqa⟩⟩
    unfold zec
    rw [w64 (by omega) (by omega)]
    simp only [show ¬ (a - (l.length : Int) < 0) by omega, if_false]
    simpa using hq
theorem zpc (l : List zqy) (hl : l.length ≤ 1048576) : Ev (fun k => zer k l) (l.map cvI) := by
  have key : ∀ (d i : Nat), i + d = l.length → Ev (fun k => zbw k l ((l.take i).map cvI ++ List.replicate d z94) i) (l.map cvI) := by
    intro d
    induction d with
    | zero =>
      intro i hi
      refine Ev.step (f := fun _ => some _) (fun k => ?_) (zb3 _)
      simp only [zbw]
      rw [if_neg (by omega), List.take_of_length_le (by omega)]
      simp
    | succ d ih =>
      intro i hi
      have hlt : i < l.length := by omega
      have hx := zs7 (zfl l i hlt)
      refine Ev.step (fun k => ?_) (ih (i + 1) (by omega))
      simp only [zbw, zh3, Option.bind_some]
      rw [if_pos (by omega), if_pos (by omega), if_pos (by simp; omega), hx, w64n i (by omega)]
      congr 1
      have e : ((i : Int)).toNat = ((l.take i).map cvI).length := by simp; omega
      rw [e]
      have := zsd ((l.take i).map cvI) (List.replicate d z94) z94 (cvI l[i])
      simp only [List.length_replicate] at this
      rw [show (⟨l[i].f0, l[i].f1, l[i].f2, l[i].f3, l[i].f4⟩ : Instr) = cvI l[i] from rfl, this]
      congr 1
      rw [List.take_succ_eq_append_getElem hlt, List.map_append]
      rfl
  unfold zer
  refine zak (by omega) (zak (by simp; omega) ?_)
  simpa using key l.length 0 (by omega)
theorem znu (l : List Instr) (hl : l.length ≤ 1048576) : Ev (fun k => zeq k l l) true := by
  unfold zeq
  simp only [if_true]
  refine zjb (σ := Unit) l (fun k _ i => zb1 k l l i) (fun _ _ => true) (fun _ => ?_) (fun i _ x rest hi hx ih => ?_) ()
  · refine Ev.step (f := fun _ => some true) (fun k => ?_) (zb3 _)
    simp only [zb1]
    rw [if_neg (by omega)]
  · refine Ev.step (fun k => ?_) (ih ())
    simp only [zb1, zgn, reduceIte, Option.bind_some]
    rw [if_pos (by omega), if_pos (by omega), w64n i (by omega), if_pos (by omega)]
def zjp (c : Nat) : Bool × Bool × Bool × Int × Int :=
  match c with
  | 0 => (true, false, false, 0, 63)
  | 1 => (true, true, false, 0, 0)
  | 2 => (true, true, true, 0, 0)
  | 3 => (true, true, true, 0, 0)
  | 4 => (true, true, true, 0, 0)
  | 5 => (true, true, false, 0, 63)
  | 6 => (true, true, false, 1, 5)
  | 7 => (true, true, true, 1, 3)
  | _ => (false, false, false, 0, 0)
theorem zol : ∀ p ∈ ops, zdv 20 p.1 = some (zjp p.2) := by decide +kernel
theorem zqz (s : ByteArray) : zf7 s = some (zfh (cls s) s) := rfl
theorem zse (s : ByteArray) : Ev (fun k => zdv k s) (zjp (cls s)) := by
  refine zno (P := fun s => Ev (fun k => zdv k s) (zjp (cls s))) s (fun p hp => ?_) (fun h => ?_)
  · rw [zs3 p hp]
    exact zvp (zgl _) (zol p hp)
  · rw [zl6 h]
    obtain ⟨h0, h1, h2, h3, h4, h5, h6, h7, h8, h9, h10, h11, h12, h13, h14, h15, h16, h17, h18, h19⟩ := zo7 h
    refine zvp (zgl _) (k := 5) ?_
    simp only [zdv, zci, zax, zcj, zct, h0, h1, h2, h3, h4, h5, h6, h7, h8, h9, h10, h11, h12, h13, h14, h15, h16, h17, h18, h19, if_false, beq_iff_eq]
    rfl
theorem zil (a b c : Int) : zdb a b c = some (decide (b ≤ a ∧ a ≤ c)) := by
  unfold zdb
  by_cases h : b ≤ a <;> simp [h]
theorem zj1 (a b c : Int) : zaz a b c = some (decide (b ≤ a ∧ a ≤ c)) := by
  unfold zaz
  by_cases h : a ≥ b
  · rw [if_pos h]; congr 1; rw [decide_eq_decide]; omega
  · rw [if_neg h]; congr 1; symm; rw [decide_eq_false_iff_not]; omega
theorem znv (a : Int) : zch a = some (decide (0 ≤ a ∧ a ≤ 5)) := by
  unfold zch
  rw [zil]; rfl
theorem zp0 (a : Int) : zbq a = some (decide (0 ≤ a ∧ a ≤ 5)) := by
  unfold zbq
  rw [zj1]; rfl
def okI (x : Instr) : Prop := cls x.f0 ≠ 8 ∧ (0 ≤ x.f1 ∧ x.f1 ≤ 5) ∧ ((zjp (cls x.f0)).2.1 = true ∧ 0 ≤ x.f2 ∧ x.f2 ≤ 5 ∨ x.f2 = 0) ∧ ((zjp (cls x.f0)).2.2.1 = true ∧ 0 ≤ x.f3 ∧ x.f3 ≤ 5 ∨ x.f3 = 0) ∧ (zjp (cls x.f0)).2.2.2.1 ≤ x.f4 ∧ x.f4 ≤ (zjp (cls x.f0)).2.2.2.2
instance (x : Instr) : Decidable (okI x) := by unfold okI; infer_instance
theorem zs8 (s : ByteArray) : cls s ≤ 8 := by
  refine zno (P := fun s => cls s ≤ 8) s (by decide +kernel) (fun h => by rw [zl6 h]; exact Nat.le_refl _)
theorem zom (s : ByteArray) : cls s = 0 ∨ cls s = 1 ∨ cls s = 2 ∨ cls s = 3 ∨ cls s = 4 ∨ cls s = 5 ∨ cls s = 6 ∨ cls s = 7 ∨ cls s = 8 := by have := zs8 s; omega
theorem znf (x : Instr) : zfc x.f0 x.f1 x.f2 x.f3 x.f4 = some (decide (okI x)) := by
  unfold zfc
  congr 1
  obtain ⟨s, d, a, b, m⟩ := x
  simp only [okI]
  rw [Bool.eq_iff_iff]
  simp only [okF, Bool.and_eq_true, Bool.or_eq_true, decide_eq_true_eq, Bool.not_eq_true', decide_eq_false_iff_not]
  rcases zom s with h | h | h | h | h | h | h | h | h <;> simp only [h, zfh, zjp] <;> simp <;> omega
theorem zon (x : Instr) : Ev (fun k => ze7 k x.f0 x.f1 x.f2 x.f3 x.f4) (decide (okI x)) := by
  unfold ze7
  refine Ev.bind (zse x.f0) (Ev.const ?_)
  obtain ⟨s, d, a, b, m⟩ := x
  simp only [zj1, zp0, Option.bind_some, okI]
  rcases zom s with h | h | h | h | h | h | h | h | h <;> simp only [h, zjp] <;> by_cases h1 : 0 ≤ d ∧ d ≤ 5 <;> by_cases h2 : 0 ≤ a ∧ a ≤ 5 <;> by_cases h3 : 0 ≤ b ∧ b ≤ 5 <;> (try simp [h1, h2, h3]) <;> (repeat' split) <;> (try (rw [Bool.eq_iff_iff]; simp only [Bool.and_eq_true, decide_eq_true_eq, beq_iff_eq, true_iff, false_iff, Bool.false_eq_true, iff_false, iff_true])) <;> (try simp only [Option.some.injEq]) <;> (try (rw [Bool.eq_iff_iff]; simp only [Bool.and_eq_true, decide_eq_true_eq, beq_iff_eq, true_iff, false_iff, Bool.false_eq_true, iff_false, iff_true])) <;> (try omega)
def zkj (l : List Instr) : Bool := decide (l.length ≤ 40) && l.all (fun x => decide (okI x))
def zio (l : List Instr) : Bool := decide (l.length ≤ 20) && l.all (fun x => decide (okI x))
theorem zq0 (l : List Instr) : Ev (fun k => zew k l) (zkj l) := by
  unfold zew
  by_cases hl : l.length ≤ 40
  · refine zak (by omega) ?_
    have h : Ev (fun k => zbc k l) (idx (fun x => !decide (okI x)) l) := by
      unfold zbc
      refine zki l _ (fun k i => zao k l l.length i) ?_ (fun i x hi hx hp => ?_) (fun i x r hi hx hp hr => ?_)
      · refine Ev.step (f := fun _ => some (-1)) (fun k => ?_) (zb3 _)
        simp only [zao]
        rw [if_neg (by omega)]
      · refine Ev.step (f := fun _ => some (i : Int)) (fun k => ?_) (zb3 _)
        simp only [zao, zf8, zok hx, znf, Option.bind_some, hp]
        rw [if_pos (by omega), if_pos (by omega), if_pos (by omega), if_pos trivial]
      · refine Ev.step (fun k => ?_) hr
        simp only [zao, zf8, zok hx, znf, Option.bind_some, hp]
        rw [if_pos (by omega), if_pos (by omega), if_pos (by omega), if_neg (by simp), w64n i (by omega)]
    unfold zbh
    refine Ev.bind (Ev.bind h (zb3 _)) (Ev.some ?_)
    have e := zlh (fun x => !decide (okI x)) l
    unfold zkj
    rw [show decide (l.length ≤ 40) = true by simpa using hl, Bool.true_and]
    by_cases hc : 0 ≤ idx (fun x => !decide (okI x)) l
    · obtain ⟨x, hx, hx'⟩ := e.1 hc
      rw [decide_eq_true (show idx (fun x => !decide (okI x)) l ≥ 0 from hc)]
      symm
      simpa using ⟨x, hx, by simpa using hx'⟩
    · rw [decide_eq_false (show ¬ idx (fun x => !decide (okI x)) l ≥ 0 from hc)]
      symm
      have := fun h => hc (e.2 h)
      simpa using this
  · refine za7 (by omega) (Ev.some ?_)
    unfold zkj
    rw [show decide (l.length ≤ 40) = false by simpa using hl]
    rfl
theorem zq1 (l : List Instr) : Ev (fun k => zey k l) (zkj l) := by
  unfold zey
  by_cases hl : l.length ≤ 40
  · refine za7 (by omega) ?_
    unfold zkj
    rw [show decide (l.length ≤ 40) = true by simpa using hl, Bool.true_and]
    refine zu6 l _ (fun k i => zce k l l.length i) ?_ (fun i x hi hx hp => ?_) (fun i x r hi hx hp hr => ?_)
    · refine Ev.step (f := fun _ => some true) (fun k => ?_) (zb3 _)
      simp only [zce]
      rw [if_neg (by omega)]
    · refine Ev.step (fun k => by simp only [zce, zok hx]; rfl) ?_
      refine zak (by omega) (zak (by omega) (zak (by omega) ?_))
      exact Ev.bind (zon x) (za7 (by simpa using hp) (zb3 _))
    · refine Ev.step (fun k => by simp only [zce, zok hx, w64n i (show i < 4611686018427387904 by omega)]; rfl) ?_
      refine zak (by omega) (zak (by omega) (zak (by omega) ?_))
      exact Ev.bind (zon x) (zak (by simpa using hp) hr)
  · refine zak (by omega) (Ev.some ?_)
    unfold zkj
    rw [show decide (l.length ≤ 40) = false by simpa using hl]
    rfl
theorem zng (l : List Instr) : zio l = (zkj l && decide (l.length ≤ 20)) := by
  unfold zio zkj
  by_cases h : l.length ≤ 20
  · simp [h, show l.length ≤ 40 by omega]
  · simp [h]
theorem zli {l : List Instr} (h : zio l = true) : l.length ≤ 20 ∧ ∀ x ∈ l, okI x := by
  unfold zio at h
  simp only [Bool.and_eq_true, decide_eq_true_eq, List.all_eq_true] at h
  exact h
theorem zqg (l : List Instr) : Ev (fun k => zel k l) (zio l) := by
  unfold zel
  refine Ev.bind (zq0 l) ?_
  rw [zng]
  cases h : zkj l
  · exact za7 (by simp) (Ev.some rfl)
  · refine zak rfl (Ev.some ?_)
    rw [Bool.true_and, decide_eq_decide]
    omega
end Go.Proofs.Ytkfkbmlbpeojaaa.PL
end
section
namespace Go.Proofs.Ytkfkbmlbpeojaaa.Q
open Go.RowKit Go.Proofs.YtkfkbmlbpeojaaaW.PrintWords Go.Proofs.YtkfkbmlbpeojaaaW.PrintLast Go.Proofs.YtkfkbmlbpeojaaaW.PrintMore
attribute [local go_sem] zcz zc0 zd1 zd2 zcl zcm zc1 zc2
set_option linter.unusedVariables false
set_option linter.unusedSimpArgs false
end Go.Proofs.Ytkfkbmlbpeojaaa.Q
end
section
namespace Go.Proofs.Ytkfkbmlbpeojaaa.PL
open Go Go.RowKit Go.Proofs.YtkfkbmlbpeojaaaW.PrintWords Go.Proofs.YtkfkbmlbpeojaaaW.PrintLast Go.Proofs.YtkfkbmlbpeojaaaW.PrintMore Go.Proofs.Ytkfkbmlbpeojaaa.Q
set_option linter.unusedSimpArgs false
set_option linter.unusedVariables false
theorem zi3 {xs : List S72} {i : Nat} {x : S72} (h : ∀ d, xs.getD i d = x) : zac xs i = x := by unfold zac; rw [Int.toNat_natCast]; exact h _
abbrev Node := S72
theorem zoo (l : List Node) (hl : l.length ≤ 1048576) : Ev (fun k => ze0 k l l) true := by
  unfold ze0
  simp only [if_true]
  refine zjb (σ := Unit) l (fun k _ i => zcc k l l i) (fun _ _ => true) (fun _ => ?_) (fun i _ x rest hi hx ih => ?_) ()
  · refine Ev.step (f := fun _ => some true) (fun k => ?_) (zb3 _)
    simp only [zcc]
    rw [if_neg (by omega)]
  · refine Ev.step (fun k => ?_) (ih ())
    simp only [zcc, zg7, reduceIte, Option.bind_some]
    rw [if_pos (by omega), if_pos (by omega), w64n i (by omega), if_pos (by omega)]
theorem ztw {α : Type} (p : α → Bool) (xs : List α) (q : Prop) [Decidable q] (h : q ↔ ∃ x ∈ xs, p x = true) : decide (idx p xs ≥ 0) = decide q := by
  rw [decide_eq_decide]
  exact (zlh p xs).trans h.symm
def hasS (l : List ByteArray) (s : ByteArray) : Bool := l.any fun y => decide (y = s)
theorem zsf (l : List ByteArray) (s : ByteArray) : hasS l s = true ↔ s ∈ l := by
  unfold hasS
  rw [List.any_eq_true]
  exact ⟨fun ⟨x, hx, h⟩ => of_decide_eq_true h ▸ hx, fun h => ⟨s, h, decide_eq_true rfl⟩⟩
theorem zop (l : List ByteArray) (s : ByteArray) (hl : l.length ≤ 1048576) : Ev (fun k => zaw k l s) (hasS l s) := by
  have h : Ev (fun k => zbi k l s) (idx (fun y => decide (s = y)) l) := by
    unfold zbi
    refine zki l _ (fun k i => zau k l s l.length i) ?_ (fun i x hi hx hp => ?_) (fun i x r hi hx hp hr => ?_)
    · refine Ev.step (f := fun _ => some (-1)) (fun k => ?_) (zb3 _)
      simp only [zau]
      rw [if_neg (by omega)]
    · refine Ev.step (f := fun _ => some (i : Int)) (fun k => ?_) (zb3 _)
      simp only [zau, zpa hx, zog]
      rw [if_pos (by omega), if_pos (by omega), if_pos (by omega), if_pos (of_decide_eq_true hp)]
    · refine Ev.step (fun k => ?_) hr
      simp only [zau, zpa hx, zog]
      rw [if_pos (by omega), if_pos (by omega), if_pos (by omega), if_neg (of_decide_eq_false hp), w64n i (by omega)]
  unfold zaw
  refine Ev.bind h (Ev.some ?_)
  rw [Bool.eq_iff_iff, decide_eq_true_eq, zsf]
  refine (zlh _ l).trans ⟨?_, fun h => ⟨s, h, decide_eq_true rfl⟩⟩
  rintro ⟨x, hx, h⟩
  rw [of_decide_eq_true h]
  exact hx
theorem zq2 (l : List ByteArray) (s : ByteArray) (hl : l.length ≤ 1048576) : Ev (fun k => zej k l s) (hasS l s) := by
  unfold zej
  refine zjb (σ := Unit) l (fun k _ i => zcv k s l l.length i) (fun r _ => hasS r s) (fun _ => ?_) (fun i _ x rest hi hx ih => ?_) ()
  · refine Ev.step (f := fun _ => some false) (fun k => ?_) (zb3 _)
    simp only [zcv]
    rw [if_neg (by omega)]
  · refine Ev.step (fun k => by simp only [zcv, zpa hx, zog]; rfl) (zak (by omega) (zak (by omega) (zak (by omega) ?_)))
    by_cases q : x = s
    · exact zak q (Ev.some (by simp [hasS, q]))
    · refine za7 q ?_
      rw [w64n i (by omega)]
      refine zl4 (ih ()) ?_
      simp [hasS, q]
theorem zoq (l : List Int) (s : Int) (hl : l.length ≤ 1048576) : Ev (fun k => zbl k l s) (decide (s ∈ l)) := by
  have h : Ev (fun k => zco k l s) (idx (fun y => decide (s = y)) l) := by
    unfold zco
    refine zki l _ (fun k i => za1 k l s l.length i) ?_ (fun i x hi hx hp => ?_) (fun i x r hi hx hp hr => ?_)
    · refine Ev.step (f := fun _ => some (-1)) (fun k => ?_) (zb3 _)
      simp only [za1]
      rw [if_neg (by omega)]
    · refine Ev.step (f := fun _ => some (i : Int)) (fun k => ?_) (zb3 _)
      simp only [za1, zqf hx]
      rw [if_pos (by omega), if_pos (by omega), if_pos (by omega), if_pos (of_decide_eq_true hp)]
    · refine Ev.step (fun k => ?_) hr
      simp only [za1, zqf hx]
      rw [if_pos (by omega), if_pos (by omega), if_pos (by omega), if_neg (of_decide_eq_false hp), w64n i (by omega)]
  unfold zbl
  refine Ev.bind h (Ev.some (ztw _ _ _ ?_))
  constructor
  · exact fun h => ⟨s, h, decide_eq_true rfl⟩
  · rintro ⟨x, hx, h⟩
    rw [of_decide_eq_true h]
    exact hx
theorem zsg (l : List Int) (s : Int) (hl : l.length ≤ 1048576) : Ev (fun k => zem k l s) (decide (s ∈ l)) := by
  unfold zem
  refine zjb (σ := Unit) l (fun k _ i => zdd k s l l.length i) (fun r _ => decide (s ∈ r)) (fun _ => ?_) (fun i _ x rest hi hx ih => ?_) ()
  · refine Ev.step (f := fun _ => some false) (fun k => ?_) (Ev.some (by simp))
    simp only [zdd]
    rw [if_neg (by omega)]
  · refine Ev.step (fun k => by simp only [zdd, zqf hx]; rfl) (zak (by omega) (zak (by omega) (zak (by omega) ?_)))
    by_cases q : x = s
    · exact zak q (Ev.some (by simp [q]))
    · refine za7 q ?_
      rw [w64n i (by omega)]
      refine zl4 (ih ()) ?_
      rw [decide_eq_decide, List.mem_cons]
      exact ⟨Or.inr, fun h => h.resolve_left fun e => q e.symm⟩
def bops : List ByteArray := [⟨#[97, 100, 100]⟩, ⟨#[115, 117, 98]⟩, ⟨#[109, 117, 108]⟩, ⟨#[97, 110, 100]⟩, ⟨#[111, 114]⟩, ⟨#[120, 111, 114]⟩, ⟨#[115, 104, 108]⟩, ⟨#[115, 104, 114]⟩, ⟨#[108, 101, 115, 115]⟩, ⟨#[101, 113]⟩]
theorem zq3 : zg6 = some bops := rfl
theorem zsh : zht = some bops := rfl
def isIn (s : ByteArray) : Prop := s.toList = ([105, 110] : List UInt8)
def zfs (s : ByteArray) : Prop := s.toList = ([99, 111, 110, 115, 116] : List UInt8)
def zl5 (s : ByteArray) : Prop := s.toList = ([110, 111, 116] : List UInt8)
def zmp (s : ByteArray) : Prop := s.toList = ([110, 101, 103] : List UInt8)
instance (s : ByteArray) : Decidable (isIn s) := by unfold isIn; infer_instance
instance (s : ByteArray) : Decidable (zfs s) := by unfold zfs; infer_instance
instance (s : ByteArray) : Decidable (zl5 s) := by unfold zl5; infer_instance
instance (s : ByteArray) : Decidable (zmp s) := by unfold zmp; infer_instance
def kN (s : ByteArray) : Nat := if isIn s then 0 else if zfs s then 1 else if zl5 s ∨ zmp s then 2 else if hasS bops s = true then 3 else 4
def zhh (c : Nat) : Int := match c with | 0 => 0 | 1 => 0 | 2 => 1 | 3 => 2 | _ => -1
theorem zkk (s : ByteArray) : kN s = 0 ∨ kN s = 1 ∨ kN s = 2 ∨ kN s = 3 ∨ kN s = 4 := by
  unfold kN
  split
  · simp
  split
  · simp
  split
  · simp
  split <;> simp
theorem zj2 (s : ByteArray) : Ev (fun k => zcq k s) (zhh (kN s)) := by
  unfold zcq kN
  by_cases h1 : isIn s
  · rw [if_pos h1]
    refine zak h1 (Ev.step (fun k => by simp only [zb7]; rfl) (zak (show true = true from rfl) (zb3 _)))
  rw [if_neg h1]
  refine za7 h1 ?_
  by_cases h2 : zfs s
  · rw [if_pos h2]
    exact Ev.step (fun k => by simp only [zb7]; rfl) (zak (beq_iff_eq.2 h2) (zb3 _))
  rw [if_neg h2]
  refine Ev.step (fun k => by simp only [zb7]; rfl) (za7 (fun e => h2 (beq_iff_eq.1 e)) ?_)
  by_cases h3 : zl5 s
  · rw [if_pos (Or.inl h3)]
    exact zak h3 (Ev.step (fun k => by simp only [zb8]; rfl) (zak (show true = true from rfl) (zb3 _)))
  refine za7 h3 ?_
  by_cases h4 : zmp s
  · rw [if_pos (Or.inr h4)]
    exact Ev.step (fun k => by simp only [zb8]; rfl) (zak (beq_iff_eq.2 h4) (zb3 _))
  rw [if_neg (fun e => e.elim h3 h4)]
  refine Ev.step (fun k => by simp only [zb8]; rfl) (za7 (fun e => h4 (beq_iff_eq.1 e)) ?_)
  refine Ev.call zq3 (Ev.bind (zop bops s (by decide)) ?_)
  by_cases h5 : hasS bops s = true
  · simp only [if_pos h5]
    exact zb3 _
  · simp only [if_neg h5]
    exact zb3 _
theorem zp1 (s : ByteArray) : zfk s = some (decide (zl5 s ∨ zmp s)) := by
  unfold zfk
  by_cases h3 : zl5 s
  · rw [if_pos (show s.toList = _ from h3), decide_eq_true (Or.inl h3)]
  · rw [if_neg (show ¬ s.toList = _ from h3)]
    congr 1
    rw [Bool.eq_iff_iff, beq_iff_eq, decide_eq_true_eq]
    exact ⟨Or.inr, fun h => h.resolve_left h3⟩
theorem zl7 (s : ByteArray) : Ev (fun k => zdg k s) (hasS bops s) := by
  unfold zdg
  exact Ev.call zsh (Ev.bind (zq2 bops s (by decide)) (zb3 _))
def ze1 (c : Nat) (a b : Int) : List Int := match c with | 2 => [a] | 3 => [a, b] | _ => []
theorem ztx (x : Node) : Ev (fun k => zea k x.f0 x.f1 x.f2 x.f3) (ze1 (kN x.f0) x.f1 x.f2) := by
  unfold zea
  refine Ev.call rfl (Ev.bind (zj2 x.f0) (Ev.const ?_))
  rcases zkk x.f0 with h | h | h | h | h <;> rw [h] <;> rfl
theorem zjg (x : Node) : Ev (fun k => zdh k x.f0 x.f1 x.f2 x.f3) (ze1 (kN x.f0) x.f1 x.f2) := by
  unfold zdh
  refine Ev.call (zp1 _) ?_
  have d1 : ∀ s, isIn s → ¬ (zl5 s ∨ zmp s) := fun s h e => by unfold isIn at h; unfold zl5 zmp at e; rw [h] at e; revert e; decide
  have d2 : ∀ s, zfs s → ¬ (zl5 s ∨ zmp s) := fun s h e => by unfold zfs at h; unfold zl5 zmp at e; rw [h] at e; revert e; decide
  have d3 : ∀ s, isIn s → ¬ hasS bops s = true := fun s h => by rw [str_lit.1 h]; decide +kernel
  have d4 : ∀ s, zfs s → ¬ hasS bops s = true := fun s h => by rw [str_lit.1 h]; decide +kernel
  unfold kN
  by_cases h1 : isIn x.f0
  · rw [if_pos h1]
    exact za7 (by simpa using d1 _ h1) (Ev.bind (zl7 _) (za7 (d3 _ h1) (zb3 _)))
  rw [if_neg h1]
  by_cases h2 : zfs x.f0
  · rw [if_pos h2]
    exact za7 (by simpa using d2 _ h2) (Ev.bind (zl7 _) (za7 (d4 _ h2) (zb3 _)))
  rw [if_neg h2]
  by_cases h3 : zl5 x.f0 ∨ zmp x.f0
  · rw [if_pos h3]
    exact zak (by simpa using h3) (zb3 _)
  rw [if_neg h3]
  refine za7 (by simpa using h3) (Ev.bind (zl7 _) ?_)
  by_cases h5 : hasS bops x.f0 = true
  · simp only [if_pos h5]
    exact zb3 _
  · simp only [if_neg h5]
    exact zb3 _
def okNd (c : Nat) (a b m i : Int) : Bool := match c with
  | 0 => decide (a = 0 ∧ b = 0 ∧ 0 ≤ m ∧ m ≤ 1)
  | 1 => decide (a = 0 ∧ b = 0 ∧ 0 ≤ m ∧ m ≤ 63)
  | 2 => decide ((0 ≤ a ∧ a ≤ i - 1) ∧ b = 0 ∧ m = 0)
  | 3 => decide ((0 ≤ a ∧ a ≤ i - 1) ∧ (0 ≤ b ∧ b ≤ i - 1) ∧ m = 0)
  | _ => false
def okNx (x : Node) (i : Int) : Bool := okNd (kN x.f0) x.f1 x.f2 x.f3 i
theorem zq4 (x : Node) (i : Nat) (hi : i ≤ 1048576) : Ev (fun k => ze8 k x.f0 x.f1 x.f2 x.f3 i) (okNx x i) := by
  obtain ⟨s, a, b, m⟩ := x
  simp only [okNx]
  unfold ze8 kN
  have e1 : wrap64 ((i : Int) - 1) = (i : Int) - 1 := w64 (by omega) (by omega)
  by_cases h1 : isIn s
  · rw [if_pos h1]
    refine zak h1 (Ev.const ?_)
    simp only [zj1, Option.bind_some, okNd]
    by_cases q1 : a = 0 <;> by_cases q2 : b = 0 <;> simp [q1, q2]
  rw [if_neg h1]
  refine za7 h1 ?_
  by_cases h2 : zfs s
  · rw [if_pos h2]
    refine zak h2 (Ev.const ?_)
    simp only [zg8, zj1, Option.bind_some, okNd]
    by_cases q1 : a = 0 <;> by_cases q2 : b = 0 <;> simp [q1, q2]
  rw [if_neg h2]
  refine za7 h2 (Ev.call (zp1 _) ?_)
  rw [e1]
  by_cases h3 : zl5 s ∨ zmp s
  · rw [if_pos h3]
    refine zak (by simpa using h3) (Ev.const ?_)
    simp only [zj1, Option.bind_some, okNd]
    by_cases q1 : 0 ≤ a ∧ a ≤ (i : Int) - 1 <;> by_cases q2 : b = 0 <;> by_cases q3 : m = 0 <;> simp [q1, q2, q3]
  rw [if_neg h3]
  refine za7 (by simpa using h3) (Ev.bind (zl7 _) ?_)
  by_cases h5 : hasS bops s = true
  · simp only [if_pos h5]
    refine Ev.const ?_
    simp only [zj1, Option.bind_some, okNd]
    by_cases q1 : 0 ≤ a ∧ a ≤ (i : Int) - 1 <;> by_cases q2 : 0 ≤ b ∧ b ≤ (i : Int) - 1 <;> by_cases q3 : m = 0 <;> simp [q1, q2, q3]
  · simp only [if_neg h5]
    exact zb3 _
theorem zq5 (x : Node) (i : Nat) (hi : i ≤ 1048576) : Ev (fun k => zdw k x.f0 x.f1 x.f2 x.f3 i) (okNx x i) := by
  obtain ⟨s, a, b, m⟩ := x
  simp only [okNx]
  unfold zdw
  refine Ev.bind (zj2 s) (Ev.call rfl ?_)
  have e1 : wrap64 ((i : Int) - 1) = (i : Int) - 1 := w64 (by omega) (by omega)
  have r0 : rd [a, b] 0 = a := rfl
  have r1 : rd [a, b] 1 = b := rfl
  have fin : ∀ r : Bool, (isIn s → decide (0 ≤ m ∧ m ≤ 1) = r) → (zfs s → decide (0 ≤ m ∧ m ≤ 63) = r) → (¬ isIn s → ¬ zfs s → (if zhh (kN s) > 0 then (m == 0) else false) = r) → Ev (fun k => zaq k i (zhh (kN s)) [a, b] 2 2 s a b m) r := by
    intro r f1 f2 f3
    refine Ev.step (fun k => by simp only [zaq]; rfl) (za7 (by decide) ?_)
    by_cases h1 : isIn s
    · refine zak h1 (Ev.const ?_)
      rw [zil, f1 h1]
      rfl
    refine za7 h1 ?_
    by_cases h2 : zfs s
    · refine zak h2 (Ev.const ?_)
      simp only [zin, zil, Option.bind_some]
      rw [f2 h2]
    refine za7 h2 (Ev.const ?_)
    rw [← f3 h1 h2]
    split <;> rfl
  have one : ∀ r : Bool, ((if 1 < zhh (kN s) then decide (0 ≤ b ∧ b ≤ (i : Int) - 1) else decide (b = 0)) = false → r = false) → ((if 1 < zhh (kN s) then decide (0 ≤ b ∧ b ≤ (i : Int) - 1) else decide (b = 0)) = true → Ev (fun k => zaq k i (zhh (kN s)) [a, b] 2 2 s a b m) r) → Ev (fun k => zaq k i (zhh (kN s)) [a, b] 2 1 s a b m) r := by
    intro r f1 f2
    refine Ev.step (fun k => by simp only [zaq, r1, e1, zil, Option.bind_some, show wrap64 (1 + 1) = 2 from w64 (by decide) (by decide)]; rfl) (zak (by decide) (zak (by decide) (zak (by simp) ?_)))
    by_cases h : 1 < zhh (kN s)
    · rw [if_pos h] at f1 f2
      refine zak h ?_
      by_cases q : 0 ≤ b ∧ b ≤ (i : Int) - 1
      · exact zak (by simpa using q) (za7 (by omega) (f2 (by simpa using q)))
      · exact za7 (by simpa using q) (Ev.some (f1 (by simpa using q)).symm)
    · rw [if_neg h] at f1 f2
      refine za7 h (zak (by omega) ?_)
      by_cases q : b = 0
      · exact zak q (f2 (by simpa using q))
      · exact za7 q (Ev.some (f1 (by simpa using q)).symm)
  have zero : ∀ r : Bool, ((if 0 < zhh (kN s) then decide (0 ≤ a ∧ a ≤ (i : Int) - 1) else decide (a = 0)) = false → r = false) → ((if 0 < zhh (kN s) then decide (0 ≤ a ∧ a ≤ (i : Int) - 1) else decide (a = 0)) = true → Ev (fun k => zaq k i (zhh (kN s)) [a, b] 2 1 s a b m) r) → Ev (fun k => zaq k i (zhh (kN s)) [a, b] 2 0 s a b m) r := by
    intro r f1 f2
    refine Ev.step (fun k => by simp only [zaq, r0, e1, zil, Option.bind_some, show wrap64 (0 + 1) = 1 from w64 (by decide) (by decide)]; rfl) (zak (by decide) (zak (by decide) (zak (by simp) ?_)))
    by_cases h : 0 < zhh (kN s)
    · rw [if_pos h] at f1 f2
      refine zak h ?_
      by_cases q : 0 ≤ a ∧ a ≤ (i : Int) - 1
      · exact zak (by simpa using q) (za7 (by omega) (f2 (by simpa using q)))
      · exact za7 (by simpa using q) (Ev.some (f1 (by simpa using q)).symm)
    · rw [if_neg h] at f1 f2
      refine za7 h (zak (by omega) ?_)
      by_cases q : a = 0
      · exact zak q (f2 (by simpa using q))
      · exact za7 q (Ev.some (f1 (by simpa using q)).symm)
  show Ev (fun k => zaq k i (zhh (kN s)) [a, b] 2 0 s a b m) _
  have hin : isIn s ↔ kN s = 0 := by
    unfold kN
    by_cases h : isIn s
    · simp [h]
    · simp only [h, if_false, false_iff]
      repeat' split
      all_goals decide
  have hco : ¬ isIn s → (zfs s ↔ kN s = 1) := fun h0 => by
    unfold kN
    by_cases h : zfs s
    · simp [h, h0]
    · simp only [h, h0, if_false, false_iff]
      repeat' split
      all_goals decide
  have hdis : zfs s → ¬ isIn s := fun h e => by unfold zfs at h; unfold isIn at e; rw [h] at e; revert e; decide
  refine zero _ (fun q => ?_) (fun q0 => one _ (fun q => ?_) (fun q1 => fin _ (fun h => ?_) (fun h => ?_) (fun h h' => ?_)))
  · rcases zkk s with c | c | c | c | c <;> rw [c] at q ⊢ <;> simp [zhh, okNd] at q ⊢ <;> omega
  · rcases zkk s with c | c | c | c | c <;> rw [c] at q ⊢ <;> simp [zhh, okNd] at q ⊢ <;> omega
  · have c := hin.1 h
    rw [c] at q0 q1 ⊢
    simp [zhh] at q0 q1
    simp [okNd, q0, q1]
  · have c := (hco (hdis h)).1 h
    rw [c] at q0 q1 ⊢
    simp [zhh] at q0 q1
    simp [okNd, q0, q1]
  · rcases zkk s with c | c | c | c | c
    · exact absurd (hin.2 c) h
    · exact absurd ((hco h).2 c) h'
    · rw [c] at q0 q1 ⊢
      simp [zhh] at q0 q1
      simp [okNd, zhh, q0, q1]
      rw [Bool.eq_iff_iff]
      simp
    · rw [c] at q0 q1 ⊢
      simp [zhh] at q0 q1
      simp [okNd, zhh, q0, q1]
      rw [Bool.eq_iff_iff]
      simp
    · rw [c]
      simp [okNd, zhh]
def okNs : Nat → List Node → Bool
  | _, [] => true
  | i, x :: xs => okNx x i && okNs (i + 1) xs
theorem ze2 : ∀ (xs : List Node) (i j : Nat) (h : j < xs.length), okNs i xs = true → okNx xs[j] ((i + j : Nat) : Int) = true
  | [], _, _, h, _ => absurd h (by simp)
  | x :: xs, i, 0, _, ho => by
    simp only [okNs, Bool.and_eq_true] at ho
    exact ho.1
  | x :: xs, i, j + 1, h, ho => by
    simp only [okNs, Bool.and_eq_true] at ho
    have := ze2 xs (i + 1) j (by simpa using h) ho.2
    rw [show i + 1 + j = i + (j + 1) by omega] at this
    exact this
def incr (u : List Int) (p : Int) : List Int := u.set p.toNat (wrap64 (rd u p + 1))
def zq6 (u : List Int) (x : Node) : List Int := (ze1 (kN x.f0) x.f1 x.f2).foldl incr u
def znw (l : List Node) : List Int := l.foldl zq6 (List.replicate l.length 0)
theorem zp2 (u : List Int) (p : Int) : (incr u p).length = u.length := List.length_set
theorem zh4 (ps : List Int) : ∀ u, (ps.foldl incr u).length = u.length := by
  induction ps with
  | nil => exact fun u => rfl
  | cons p ps ih => exact fun u => (ih _).trans (zp2 u p)
theorem zq7 (u : List Int) (x : Node) : (zq6 u x).length = u.length := zh4 _ u
theorem zmq (l : List Node) : ∀ u, (l.foldl zq6 u).length = u.length := by
  induction l with
  | nil => exact fun u => rfl
  | cons x l ih => exact fun u => (ih _).trans (zq7 u x)
theorem zkl (l : List Node) : (znw l).length = l.length := by
  unfold znw
  rw [zmq, List.length_replicate]
theorem zfv {x : Node} {i : Int} (h : okNx x i = true) : (ze1 (kN x.f0) x.f1 x.f2).length ≤ 2 ∧ ∀ p ∈ ze1 (kN x.f0) x.f1 x.f2, 0 ≤ p ∧ p ≤ i - 1 := by
  unfold okNx at h
  rcases zkk x.f0 with c | c | c | c | c <;> rw [c] at h ⊢ <;> simp [okNd] at h <;> simp [ze1] <;> omega
theorem zor (L0 : Nat → List Int → Int → Option (List Int)) (L1 : Nat → List Int → Int → List Int → Int → Int → Option (List Int)) (i : Nat) (n : Nat) (r : List Int)
    (h0 : ∀ k u ps j, L1 (k + 1) u i ps (ps.length : Nat) (j : Nat) = if (j : Int) < (ps.length : Nat) then (if (0 : Int) ≤ (j : Nat) then (if ((j : Nat) : Int) < (ps.length : Nat) then (if 0 ≤ rd ps (j : Nat) then (if rd ps (j : Nat) < (u.length : Int) then L1 k (u.set (rd ps (j : Nat) : Int).toNat (wrap64 (rd u (rd ps (j : Nat)) + 1))) i ps (ps.length : Nat) (wrap64 ((j : Nat) + 1)) else none) else none) else none) else none) else L0 k u (wrap64 ((i : Nat) + 1)))
    (ps : List Int) (hps : ps.length ≤ 2) (hp : ∀ p ∈ ps, 0 ≤ p ∧ p < n) (u : List Int) (hu : u.length = n) (hi : i ≤ 1048576) (H : Ev (fun k => L0 k (ps.foldl incr u) ((i + 1 : Nat) : Int)) r) : Ev (fun k => L1 k u i ps ps.length 0) r := by
  have key : ∀ (d j : Nat) (u : List Int), u.length = n → j + d = ps.length → Ev (fun k => L0 k ((ps.drop j).foldl incr u) ((i + 1 : Nat) : Int)) r → Ev (fun k => L1 k u i ps ps.length (j : Nat)) r := by
    intro d
    induction d with
    | zero =>
      intro j u hu hj H
      refine Ev.step (fun k => h0 k u ps j) (za7 (by omega) ?_)
      rw [w64n i (by omega)]
      rw [List.drop_of_length_le (by omega)] at H
      exact H
    | succ d ih =>
      intro j u hu hj H
      have hlt : j < ps.length := by omega
      have e : ps.drop j = ps[j] :: ps.drop (j + 1) := List.drop_eq_getElem_cons hlt
      have hx := zqf (zfl ps j hlt)
      have hb := hp ps[j] (List.getElem_mem hlt)
      refine Ev.step (fun k => h0 k u ps j) (zak (by omega) (zak (by omega) (zak (by omega) (zak (by rw [hx]; exact hb.1) (zak (by rw [hx]; omega) ?_)))))
      rw [hx, w64n j (by omega)]
      rw [e] at H
      exact ih (j + 1) (incr u ps[j]) (by rw [zp2]; exact hu) (by omega) H
  exact key ps.length 0 u hu (by omega) H
theorem zty (l : List Node) (h : okNs 0 l = true) (hl : l.length ≤ 1000) : Ev (fun k => zfx k l) (znw l) := by
  unfold zfx
  refine zak (by omega) (zak (by simp; omega) ?_)
  have key : ∀ (d i : Nat) (u : List Int), u.length = l.length → i + d = l.length → Ev (fun k => zc8 k u l l.length i) ((l.drop i).foldl zq6 u) := by
    intro d
    induction d with
    | zero =>
      intro i u hu hi
      refine Ev.step (f := fun _ => some u) (fun k => ?_) (Ev.some ?_)
      · simp only [zc8]
        rw [if_neg (by omega)]
      · rw [List.drop_of_length_le (by omega)]
        rfl
    | succ d ih =>
      intro i u hu hi
      have hlt : i < l.length := by omega
      have e : l.drop i = l[i] :: l.drop (i + 1) := List.drop_eq_getElem_cons hlt
      have hx := zi3 (zfl l i hlt)
      have ok := ze2 l 0 i hlt h
      rw [Nat.zero_add] at ok
      obtain ⟨p1, p2⟩ := zfv ok
      rw [e]
      refine Ev.step (fun k => by simp only [zc8, hx]; rfl) (zak (by omega) (zak (by omega) (zak (by omega) (Ev.bind (ztx l[i]) ?_))))
      exact zor (fun k u j => zc8 k u l l.length j) (fun k u i ps n j => zdp k u l l.length i ps n j) i l.length _ (fun k u ps j => by simp only [zdp]) _ p1 (fun p hp => by have := p2 p hp; omega) u hu (by omega) (ih (i + 1) _ (by rw [zh4]; exact hu) (by omega))
  simpa [znw] using key l.length 0 (List.replicate l.length 0) (by simp) (by omega)
theorem zq8 (l : List Node) (h : okNs 0 l = true) (hl : l.length ≤ 1000) : Ev (fun k => ze9 k l) (znw l) := by
  unfold ze9
  refine zak (by omega) (zak (by simp; omega) ?_)
  have key : ∀ (d i : Nat) (u : List Int), u.length = l.length → i + d = l.length → Ev (fun k => zcn k u l l.length i) ((l.drop i).foldl zq6 u) := by
    intro d
    induction d with
    | zero =>
      intro i u hu hi
      refine Ev.step (f := fun _ => some u) (fun k => ?_) (Ev.some ?_)
      · simp only [zcn]
        rw [if_neg (by omega)]
      · rw [List.drop_of_length_le (by omega)]
        rfl
    | succ d ih =>
      intro i u hu hi
      have hlt : i < l.length := by omega
      have e : l.drop i = l[i] :: l.drop (i + 1) := List.drop_eq_getElem_cons hlt
      have hx := zi3 (zfl l i hlt)
      have ok := ze2 l 0 i hlt h
      rw [Nat.zero_add] at ok
      obtain ⟨p1, p2⟩ := zfv ok
      rw [e]
      refine Ev.step (fun k => by simp only [zcn, hx]; rfl) (zak (by omega) (zak (by omega) (zak (by omega) (Ev.bind (zjg l[i]) ?_))))
      exact zor (fun k u j => zcn k u l l.length j) (fun k u i ps n j => zcw k u l l.length i ps n j) i l.length _ (fun k u ps j => by simp only [zcw]) _ p1 (fun p hp => by have := p2 p hp; omega) u hu (by omega) (ih (i + 1) _ (by rw [zh4]; exact hu) (by omega))
  simpa [znw] using key l.length 0 (List.replicate l.length 0) (by simp) (by omega)
def zjq (l : List Node) : Bool := decide (1 ≤ l.length ∧ l.length ≤ 24) && (okNs 0 l && !decide ((0 : Int) ∈ (znw l).take (l.length - 1)))
theorem zq9 (l : List Node) : Ev (fun k => ze5 k l) (zjq l) := by
  unfold ze5 zjq
  refine Ev.call (zil _ _ _) ?_
  by_cases hl : 1 ≤ l.length ∧ l.length ≤ 24
  · rw [decide_eq_true hl, Bool.true_and]
    refine zak (by simp; omega) ?_
    have key : ∀ (d i : Nat), i + d = l.length → (okNs 0 l = true → okNs i (l.drop i) = true) → (okNs 0 l = false → okNs i (l.drop i) = false) → Ev (fun k => zb4 k l l l.length i) (okNs 0 l && !decide ((0 : Int) ∈ (znw l).take (l.length - 1))) := by
      intro d
      induction d with
      | zero =>
        intro i hi _ hf
        have ok : okNs 0 l = true := by
          cases h : okNs 0 l
          · have := hf h
            rw [List.drop_of_length_le (by omega)] at this
            cases this
          · rfl
        rw [ok, Bool.true_and]
        refine Ev.step (fun k => by simp only [zb4]; rfl) (za7 (by omega) (Ev.bind (zty l ok (by omega)) ?_))
        have e1 : wrap64 ((l.length : Int) - 1) = ((l.length - 1 : Nat) : Int) := by rw [w64 (by omega) (by omega)]; omega
        rw [e1]
        refine zak (by omega) (zak (by rw [zkl]; omega) ?_)
        rw [Int.toNat_natCast]
        exact Ev.bind (zoq _ 0 (by rw [List.length_take, zkl]; omega)) (zb3 _)
      | succ d ih =>
        intro i hi ht hf
        have hlt : i < l.length := by omega
        have e : l.drop i = l[i] :: l.drop (i + 1) := List.drop_eq_getElem_cons hlt
        have hx := zi3 (zfl l i hlt)
        rw [e] at ht hf
        simp only [okNs] at ht hf
        refine Ev.step (fun k => by simp only [zb4, hx]; rfl) (zak (by omega) (zak (by omega) (zak (by omega) (Ev.bind (zq5 l[i] i (by omega)) ?_))))
        cases h : okNx l[i] i
        · refine za7 (by decide) (Ev.some ?_)
          rw [h] at ht
          cases h0 : okNs 0 l
          · rfl
          · exact absurd (ht h0) (by simp)
        · rw [h] at ht hf
          refine zak rfl ?_
          rw [w64n i (by omega)]
          exact ih (i + 1) (by omega) (by simpa using ht) (by simpa using hf)
    simpa using key l.length 0 (by omega) (fun h => h) (fun h => h)
  · rw [decide_eq_false hl, Bool.false_and]
    exact za7 (by simp; omega) (zb3 _)
theorem zra (l : List Node) : Ev (fun k => zdy k l) (zjq l) := by
  unfold zdy zjq
  refine Ev.call (zj1 _ _ _) ?_
  by_cases hl : 1 ≤ l.length ∧ l.length ≤ 24
  · rw [decide_eq_true hl, Bool.true_and]
    refine zak (by simp; omega) ?_
    have key : ∀ (d i : Nat), i + d = l.length → (okNs 0 l = true → okNs i (l.drop i) = true) → (okNs 0 l = false → okNs i (l.drop i) = false) → Ev (fun k => zb5 k l l l.length i) (okNs 0 l && !decide ((0 : Int) ∈ (znw l).take (l.length - 1))) := by
      intro d
      induction d with
      | zero =>
        intro i hi _ hf
        have ok : okNs 0 l = true := by
          cases h : okNs 0 l
          · have := hf h
            rw [List.drop_of_length_le (by omega)] at this
            cases this
          · rfl
        rw [ok, Bool.true_and]
        refine Ev.step (fun k => by simp only [zb5]; rfl) (za7 (by omega) (Ev.bind (zq8 l ok (by omega)) ?_))
        have e1 : wrap64 ((l.length : Int) - 1) = ((l.length - 1 : Nat) : Int) := by rw [w64 (by omega) (by omega)]; omega
        rw [e1]
        refine zak (by omega) (zak (by rw [zkl]; omega) ?_)
        rw [Int.toNat_natCast]
        exact Ev.bind (zsg _ 0 (by rw [List.length_take, zkl]; omega)) (zb3 _)
      | succ d ih =>
        intro i hi ht hf
        have hlt : i < l.length := by omega
        have e : l.drop i = l[i] :: l.drop (i + 1) := List.drop_eq_getElem_cons hlt
        have hx := zi3 (zfl l i hlt)
        rw [e] at ht hf
        simp only [okNs] at ht hf
        refine Ev.step (fun k => by simp only [zb5, hx]; rfl) (zak (by omega) (zak (by omega) (zak (by omega) (Ev.bind (zq4 l[i] i (by omega)) ?_))))
        cases h : okNx l[i] i
        · refine za7 (by decide) (Ev.some ?_)
          rw [h] at ht
          cases h0 : okNs 0 l
          · rfl
          · exact absurd (ht h0) (by simp)
        · rw [h] at ht hf
          refine zak rfl ?_
          rw [w64n i (by omega)]
          exact ih (i + 1) (by omega) (by simpa using ht) (by simpa using hf)
    simpa using key l.length 0 (by omega) (fun h => h) (fun h => h)
  · rw [decide_eq_false hl, Bool.false_and]
    exact za7 (by simp; omega) (zb3 _)
theorem zrb {l : List Node} (h : zjq l = true) : (1 ≤ l.length ∧ l.length ≤ 24) ∧ okNs 0 l = true := by
  unfold zjq at h
  simp only [Bool.and_eq_true, decide_eq_true_eq] at h
  exact ⟨h.1, h.2.1⟩
end Go.Proofs.Ytkfkbmlbpeojaaa.PL
end
