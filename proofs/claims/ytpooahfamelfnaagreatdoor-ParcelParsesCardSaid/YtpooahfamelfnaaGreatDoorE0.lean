/-
 A part of the walk and of the plain law of one given statement. No condition.
-/
import Derived.Test.YtpooahfamelfnaaGreatDoorR2
import Derived.Test.YtpooahfamelfnaaGreatDoorProg
import Derived.Shelf.Strings.BuilderX
import Derived.Shelf.RegionOpenPlain
import Derived.Lib.Strings
import Derived.Lib.Slices
import Derived.Lib.Walk
import Derived.Lib.Builder
import Derived.Lib.UnsafeStr
import Derived.WalkKit
import Derived.Laws.Externs
import Derived.Test.YtpooahfamelfnaaGreatDoorKl
import Derived.Maps.RangeRun
set_option linter.unusedVariables false
set_option linter.unusedSimpArgs false
set_option maxRecDepth 100000
set_option maxHeartbeats 0
namespace Go.K
noncomputable section
open Go.Sl Go.Sx Go.Proofs
def G54 (lf : Nat) (x : (Int × (Int × Int))) : Option (Bool) :=
 cond (decide (x.1 ≥ x.2.1)) (some (decide (x.1 ≤ x.2.2))) (some false)
theorem F54_G (lf : Nat) (x : (Int × (Int × Int))) : F54 Tryz.prog lf x = G54 lf x := by
 obtain ⟨_, ⟨_, _⟩⟩ := x
 unfold G54
 kernel_rfl
def G82 (lf : Nat) (x : (Int × (Int × (Int × Int)))) : Option (Int) :=
 jn (((G54 lf (x.1, ((1 : Int), (9999 : Int))))).bind fun r9 => cond (!r9) (some (.inl true)) (((G54 lf (x.2.1, ((1 : Int), (9 : Int))))).bind fun r10 => cond (!r10) (some (.inl true)) (((G54 lf (x.2.2.1, ((1 : Int), (9 : Int))))).bind fun r11 => cond (!r11) (some (.inl true)) (((G54 lf (x.2.2.2, ((0 : Int), (10000 : Int))))).bind fun r12 => some (.inl (!r12)))))) (fun y13 : Bool => cond y13 (some (60 : Int)) (some (0 : Int)))
theorem F82_G (lf : Nat) (x : (Int × (Int × (Int × Int)))) : F82 Tryz.prog lf x = G82 lf x := by
 obtain ⟨_, ⟨_, ⟨_, _⟩⟩⟩ := x
 unfold G82
 (try simp only [← F54_G lf])
 kernel_rfl
def G55 (lf : Nat) (x : Yt) : Option (Int) :=
 cond (decide ((x.length : Int) > (40 : Int))) (some (60 : Int)) (iter lf (fun y7 : Int => cond (decide (y7 < (x.length : Int))) (jn (((getI x y7)).bind fun r8 => ((G82 lf (r8.1, (r8.2.1, (r8.2.2.1, r8.2.2.2))))).bind fun r9 => cond (!(decide (r9 = (0 : Int)))) (some (.inl true)) (cond (decide (y7 > (0 : Int))) (((getI x (w64 (y7 - (1 : Int))))).bind fun r10 => ((getI x y7)).bind fun r11 => some (.inl (decide (r10.1 ≥ r11.1)))) (some (.inl false)))) (fun y12 : Bool => cond y12 (some (.inr (60 : Int))) (some (.inl (w64 (y7 + (1 : Int))))))) (some (.inr (0 : Int)))) (0 : Int))
theorem F55_G (lf : Nat) (x : Yt) : F55 Tryz.prog lf x = G55 lf x := by
 unfold G55
 (try simp only [← F82_G lf])
 kernel_rfl
def G56 (lf : Nat) (x : (List (Int × Int))) : Option (Bool) :=
 cond (decide ((x.length : Int) > (40 : Int))) (some false) (iter lf (fun y8 : (Int × Int) => cond (decide (y8.2 < (x.length : Int))) (((getI x y8.2)).bind fun r9 => jn (((G54 lf (r9.1, ((1 : Int), (9999 : Int))))).bind fun r10 => cond (!r10) (some (.inl true)) (((G54 lf (r9.2, ((1 : Int), (100000000 : Int))))).bind fun r11 => cond (!r11) (some (.inl true)) (cond (decide (y8.2 > (0 : Int))) (((getI x (w64 (y8.2 - (1 : Int))))).bind fun r12 => some (.inl (decide (r12.1 ≥ r9.1)))) (some (.inl false))))) (fun y13 : Bool => cond y13 (some (.inr false)) (some (.inl ((w64 (y8.1 + r9.2)), (w64 (y8.2 + (1 : Int)))))))) (some (.inr (decide (y8.1 ≤ (100000000 : Int)))))) ((0 : Int), (0 : Int)))
theorem F56_G (lf : Nat) (x : (List (Int × Int))) : F56 Tryz.prog lf x = G56 lf x := by
 unfold G56
 (try simp only [← F54_G lf])
 kernel_rfl
def G83 (lf : Nat) (x : (List (Int × Int))) : Option (Int) :=
 iter lf (fun y4 : (Int × Int) => cond (decide (y4.2 < (x.length : Int))) (((getI x y4.2)).bind fun r5 => some (.inl ((w64 (y4.1 + r5.2)), (w64 (y4.2 + (1 : Int)))))) (some (.inr y4.1))) ((0 : Int), (0 : Int))
theorem F83_G (lf : Nat) (x : (List (Int × Int))) : F83 Tryz.prog lf x = G83 lf x := by
 unfold G83
 kernel_rfl
def G58 (lf : Nat) (x : Yr) : Option (Int) :=
 iter lf (fun y5 : (Int × Int) => cond (decide (y5.2 < (x.length : Int))) (((getI x y5.2)).bind fun r6 => ((G83 lf r6)).bind fun r7 => some (.inl ((w64 (y5.1 + r7)), (w64 (y5.2 + (1 : Int)))))) (some (.inr y5.1))) ((0 : Int), (0 : Int))
theorem F58_G (lf : Nat) (x : Yr) : F58 Tryz.prog lf x = G58 lf x := by
 unfold G58
 (try simp only [← F83_G lf])
 kernel_rfl
def G57 (lf : Nat) (x : (Yt × Int)) : Option (Int) :=
 iter lf (fun y4 : Int => cond (decide (y4 < (x.1.length : Int))) (((getI x.1 y4)).bind fun r5 => cond (decide (r5.1 = x.2)) (some (.inr y4)) (some (.inl (w64 (y4 + (1 : Int)))))) (some (.inr (-1 : Int)))) (0 : Int)
theorem F57_G (lf : Nat) (x : (Yt × Int)) : F57 Tryz.prog lf x = G57 lf x := by
 obtain ⟨_, _⟩ := x
 unfold G57
 kernel_rfl
def G29 (lf : Nat) (x : Ys) : Option (Int) :=
 ((G55 lf x.1)).bind fun r24 => cond (!(decide (r24 = (0 : Int)))) (some (62 : Int)) (iter lf (fun y25 : Int => cond (decide (y25 < (9 : Int))) (jn (cond (decide (y25 = (0 : Int))) (some (.inl x.2.1)) (cond (decide (y25 = (1 : Int))) (some (.inl x.2.2.1)) (cond (decide (y25 = (2 : Int))) (some (.inl x.2.2.2.1)) (cond (decide (y25 = (3 : Int))) (some (.inl x.2.2.2.2.1)) (cond (decide (y25 = (4 : Int))) (some (.inl x.2.2.2.2.2.1)) (cond (decide (y25 = (5 : Int))) (some (.inl x.2.2.2.2.2.2.1)) (cond (decide (y25 = (6 : Int))) (some (.inl x.2.2.2.2.2.2.2.1)) (cond (decide (y25 = (7 : Int))) (some (.inl x.2.2.2.2.2.2.2.2.1)) (cond (decide (y25 = (8 : Int))) (some (.inl x.2.2.2.2.2.2.2.2.2)) ((outI))))))))))) (fun y26 : Yr => cond (decide ((y26.length : Int) > (4 : Int))) (some (.inr (62 : Int))) (iter lf (fun y27 : Int => cond (decide (y27 < (y26.length : Int))) (jn (((getI y26 y27)).bind fun r28 => ((G56 lf r28)).bind fun r29 => cond (!r29) (some (.inl true)) (((getI y26 y27)).bind fun r30 => some (.inl (decide ((r30.length : Int) = (0 : Int)))))) (fun y31 : Bool => cond y31 (some (.inr (.inr (62 : Int)))) (iter lf (fun y32 : Int => ((getI y26 y27)).bind fun r33 => cond (decide (y32 < (r33.length : Int))) (((getI y26 y27)).bind fun r34 => ((getI r34 y32)).bind fun r35 => ((G57 lf (x.1, r35.1))).bind fun r36 => cond (decide (r36 < (0 : Int))) (some (.inr (.inr (.inr (62 : Int))))) (some (.inl (w64 (y32 + (1 : Int)))))) (some (.inr (.inl (w64 (y27 + (1 : Int))))))) (0 : Int)))) (outR (((G58 lf y26)).bind fun r37 => cond (decide (r37 > (100000000 : Int))) (some (.inr (62 : Int))) (some (.inl (w64 (y25 + (1 : Int)))))))) (0 : Int)))) (some (.inr (0 : Int)))) (0 : Int))
theorem F29_G (lf : Nat) (x : Ys) : F29 Tryz.prog lf x = G29 lf x := by
 obtain ⟨_, ⟨_, ⟨_, ⟨_, ⟨_, ⟨_, ⟨_, ⟨_, ⟨_, _⟩⟩⟩⟩⟩⟩⟩⟩⟩ := x
 unfold G29
 (try simp only [← F55_G lf, ← F56_G lf, ← F57_G lf, ← F58_G lf])
 kernel_rfl
def G28 (lf : Nat) (x : Int) : Option (Bool) :=
 ((G54 lf (x, ((0 : Int), (8 : Int))))).bind fun r2 => some r2
theorem F28_G (lf : Nat) (x : Int) : F28 Tryz.prog lf x = G28 lf x := by
 unfold G28
 (try simp only [← F54_G lf])
 kernel_rfl
def G53 (lf : Nat) (x : (ByteArray × Int)) : Option (Int) :=
 jn (cond (decide ((x.1.size : Int) = (0 : Int))) (some (.inl true)) (cond (decide ((x.1.size : Int) > x.2)) (some (.inl true)) (cond (decide ((x.1.size : Int) > (1 : Int))) (((byteAt x.1 (0 : Int))).bind fun r10 => some (.inl (decide (r10 = (48 : Int))))) (some (.inl false))))) (fun y11 : Bool => cond y11 (some (-1 : Int)) (iter lf (fun y12 : (Int × Int) => cond (decide (y12.2 < (x.1.size : Int))) (jn (((byteAt x.1 y12.2)).bind fun r13 => cond (decide (r13 < (48 : Int))) (some (.inl true)) (((byteAt x.1 y12.2)).bind fun r14 => some (.inl (decide (r14 > (57 : Int)))))) (fun y15 : Bool => cond y15 (some (.inr (-1 : Int))) (((byteAt x.1 y12.2)).bind fun r16 => some (.inl ((w64 ((w64 (y12.1 * (10 : Int))) + (w64 (Go.IntKind.wrap .u8 (r16 - (48 : Int)))))), (w64 (y12.2 + (1 : Int)))))))) (some (.inr y12.1))) ((0 : Int), (0 : Int))))
theorem F53_G (lf : Nat) (x : (ByteArray × Int)) : F53 Tryz.prog lf x = G53 lf x := by
 obtain ⟨_, _⟩ := x
 unfold G53
 kernel_rfl
def G26 (lf : Nat) (x : ByteArray) : Option ((List ByteArray)) :=
 iter lf (fun y9 : (Int × (List ByteArray)) => cond (decide (y9.1 < (x.size : Int))) (((byteAt x y9.1)).bind fun r10 => cond (decide (r10 = (32 : Int))) (some (.inl ((w64 (y9.1 + (1 : Int))), y9.2))) (jn (iter lf (fun y11 : Int => cond (decide (y11 < (x.size : Int))) (((byteAt x y11)).bind fun r12 => cond (!(decide (r12 = (32 : Int)))) (some (.inl (w64 (y11 + (1 : Int))))) (some (.inr (.inl y11)))) (some (.inr (.inl y11)))) y9.1) (fun y13 : Int => ((cutC x y9.1 y13)).bind fun r14 => ((appC y9.2 [(ByteArray.extract x (Int.toNat y9.1) (Int.toNat y13))])).bind fun r15 => some (.inl (y13, r15))))) (some (.inr y9.2))) ((0 : Int), ([] : List ByteArray))
theorem F26_G (lf : Nat) (x : ByteArray) : F26 Tryz.prog lf x = G26 lf x := by
 unfold G26
 kernel_rfl
def G25 (lf : Nat) (x : ByteArray) : Option ((List ByteArray)) :=
 iter lf (fun y9 : ((List ByteArray) × (Int × Int)) => cond (decide (y9.2.2 < (x.size : Int))) (((byteAt x y9.2.2)).bind fun r10 => cond (decide (r10 = (10 : Int))) (((cutC x y9.2.1 y9.2.2)).bind fun r11 => ((appC y9.1 [(ByteArray.extract x (Int.toNat y9.2.1) (Int.toNat y9.2.2))])).bind fun r12 => some (.inl (r12, ((w64 (y9.2.2 + (1 : Int))), (w64 (y9.2.2 + (1 : Int))))))) (some (.inl (y9.1, (y9.2.1, (w64 (y9.2.2 + (1 : Int)))))))) (outR (cond (decide (y9.2.1 < (x.size : Int))) (((cutC x y9.2.1 (x.size : Int))).bind fun r13 => ((appC y9.1 [(ByteArray.extract x (Int.toNat y9.2.1) (Int.toNat (x.size : Int)))])).bind fun r14 => some r14) (some y9.1)))) (([] : List ByteArray), ((0 : Int), (0 : Int)))
theorem F25_G (lf : Nat) (x : ByteArray) : F25 Tryz.prog lf x = G25 lf x := by
 unfold G25
 kernel_rfl
def G27 (lf : Nat) (x : (List ByteArray)) : Option (((List Int) × Bool)) :=
 iter lf (fun y6 : ((List Int) × Int) => cond (decide (y6.2 < (x.length : Int))) (((getI x y6.2)).bind fun r7 => ((G53 lf (r7, (9 : Int)))).bind fun r8 => cond (decide (r8 < (0 : Int))) (some (.inr (([] : List Int), false))) (((appC y6.1 [r8])).bind fun r9 => some (.inl (r9, (w64 (y6.2 + (1 : Int))))))) (some (.inr (y6.1, true)))) (([] : List Int), (0 : Int))
theorem F27_G (lf : Nat) (x : (List ByteArray)) : F27 Tryz.prog lf x = G27 lf x := by
 unfold G27
 (try simp only [← F53_G lf])
 kernel_rfl
def G30 (lf : Nat) (x : ((List (Int × Int)) × (List (Int × Int)))) : Option (Bool) :=
 cond (!(decide ((x.1.length : Int) = (x.2.length : Int)))) (some false) (iter lf (fun y5 : Int => cond (decide (y5 < (x.1.length : Int))) (((getI x.1 y5)).bind fun r6 => ((getI x.2 y5)).bind fun r7 => cond (!((decide (r6.1 = r7.1)) && ((decide (r6.2 = r7.2)) && true))) (some (.inr false)) (some (.inl (w64 (y5 + (1 : Int)))))) (some (.inr true))) (0 : Int))
theorem F30_G (lf : Nat) (x : ((List (Int × Int)) × (List (Int × Int)))) : F30 Tryz.prog lf x = G30 lf x := by
 obtain ⟨_, _⟩ := x
 unfold G30
 kernel_rfl
def G8 (lf : Nat) (x : (Ys × Ys)) : Option (Bool) :=
 cond (!(decide ((x.1.1.length : Int) = (x.2.1.length : Int)))) (some false) (iter lf (fun y198 : Int => cond (decide (y198 < (x.1.1.length : Int))) (((getI x.1.1 y198)).bind fun r199 => ((getI x.2.1 y198)).bind fun r200 => cond (!((decide (r199.1 = r200.1)) && ((decide (r199.2.1 = r200.2.1)) && ((decide (r199.2.2.1 = r200.2.2.1)) && ((decide (r199.2.2.2 = r200.2.2.2)) && true))))) (some (.inr false)) (some (.inl (w64 (y198 + (1 : Int)))))) (outR (iter lf (fun y201 : Int => cond (decide (y201 < (9 : Int))) (jn (jn (cond (decide (y201 = (0 : Int))) (cond (decide (y201 = (0 : Int))) (some (.inl (!(decide ((x.1.2.1.length : Int) = (x.2.2.1.length : Int)))))) (cond (decide (y201 = (1 : Int))) (some (.inl (!(decide ((x.1.2.1.length : Int) = (x.2.2.2.1.length : Int)))))) (cond (decide (y201 = (2 : Int))) (some (.inl (!(decide ((x.1.2.1.length : Int) = (x.2.2.2.2.1.length : Int)))))) (cond (decide (y201 = (3 : Int))) (some (.inl (!(decide ((x.1.2.1.length : Int) = (x.2.2.2.2.2.1.length : Int)))))) (cond (decide (y201 = (4 : Int))) (some (.inl (!(decide ((x.1.2.1.length : Int) = (x.2.2.2.2.2.2.1.length : Int)))))) (cond (decide (y201 = (5 : Int))) (some (.inl (!(decide ((x.1.2.1.length : Int) = (x.2.2.2.2.2.2.2.1.length : Int)))))) (cond (decide (y201 = (6 : Int))) (some (.inl (!(decide ((x.1.2.1.length : Int) = (x.2.2.2.2.2.2.2.2.1.length : Int)))))) (cond (decide (y201 = (7 : Int))) (some (.inl (!(decide ((x.1.2.1.length : Int) = (x.2.2.2.2.2.2.2.2.2.1.length : Int)))))) (cond (decide (y201 = (8 : Int))) (some (.inl (!(decide ((x.1.2.1.length : Int) = (x.2.2.2.2.2.2.2.2.2.2.length : Int)))))) ((outI))))))))))) (cond (decide (y201 = (1 : Int))) (cond (decide (y201 = (0 : Int))) (some (.inl (!(decide ((x.1.2.2.1.length : Int) = (x.2.2.1.length : Int)))))) (cond (decide (y201 = (1 : Int))) (some (.inl (!(decide ((x.1.2.2.1.length : Int) = (x.2.2.2.1.length : Int)))))) (cond (decide (y201 = (2 : Int))) (some (.inl (!(decide ((x.1.2.2.1.length : Int) = (x.2.2.2.2.1.length : Int)))))) (cond (decide (y201 = (3 : Int))) (some (.inl (!(decide ((x.1.2.2.1.length : Int) = (x.2.2.2.2.2.1.length : Int)))))) (cond (decide (y201 = (4 : Int))) (some (.inl (!(decide ((x.1.2.2.1.length : Int) = (x.2.2.2.2.2.2.1.length : Int)))))) (cond (decide (y201 = (5 : Int))) (some (.inl (!(decide ((x.1.2.2.1.length : Int) = (x.2.2.2.2.2.2.2.1.length : Int)))))) (cond (decide (y201 = (6 : Int))) (some (.inl (!(decide ((x.1.2.2.1.length : Int) = (x.2.2.2.2.2.2.2.2.1.length : Int)))))) (cond (decide (y201 = (7 : Int))) (some (.inl (!(decide ((x.1.2.2.1.length : Int) = (x.2.2.2.2.2.2.2.2.2.1.length : Int)))))) (cond (decide (y201 = (8 : Int))) (some (.inl (!(decide ((x.1.2.2.1.length : Int) = (x.2.2.2.2.2.2.2.2.2.2.length : Int)))))) ((outI))))))))))) (cond (decide (y201 = (2 : Int))) (cond (decide (y201 = (0 : Int))) (some (.inl (!(decide ((x.1.2.2.2.1.length : Int) = (x.2.2.1.length : Int)))))) (cond (decide (y201 = (1 : Int))) (some (.inl (!(decide ((x.1.2.2.2.1.length : Int) = (x.2.2.2.1.length : Int)))))) (cond (decide (y201 = (2 : Int))) (some (.inl (!(decide ((x.1.2.2.2.1.length : Int) = (x.2.2.2.2.1.length : Int)))))) (cond (decide (y201 = (3 : Int))) (some (.inl (!(decide ((x.1.2.2.2.1.length : Int) = (x.2.2.2.2.2.1.length : Int)))))) (cond (decide (y201 = (4 : Int))) (some (.inl (!(decide ((x.1.2.2.2.1.length : Int) = (x.2.2.2.2.2.2.1.length : Int)))))) (cond (decide (y201 = (5 : Int))) (some (.inl (!(decide ((x.1.2.2.2.1.length : Int) = (x.2.2.2.2.2.2.2.1.length : Int)))))) (cond (decide (y201 = (6 : Int))) (some (.inl (!(decide ((x.1.2.2.2.1.length : Int) = (x.2.2.2.2.2.2.2.2.1.length : Int)))))) (cond (decide (y201 = (7 : Int))) (some (.inl (!(decide ((x.1.2.2.2.1.length : Int) = (x.2.2.2.2.2.2.2.2.2.1.length : Int)))))) (cond (decide (y201 = (8 : Int))) (some (.inl (!(decide ((x.1.2.2.2.1.length : Int) = (x.2.2.2.2.2.2.2.2.2.2.length : Int)))))) ((outI))))))))))) (cond (decide (y201 = (3 : Int))) (cond (decide (y201 = (0 : Int))) (some (.inl (!(decide ((x.1.2.2.2.2.1.length : Int) = (x.2.2.1.length : Int)))))) (cond (decide (y201 = (1 : Int))) (some (.inl (!(decide ((x.1.2.2.2.2.1.length : Int) = (x.2.2.2.1.length : Int)))))) (cond (decide (y201 = (2 : Int))) (some (.inl (!(decide ((x.1.2.2.2.2.1.length : Int) = (x.2.2.2.2.1.length : Int)))))) (cond (decide (y201 = (3 : Int))) (some (.inl (!(decide ((x.1.2.2.2.2.1.length : Int) = (x.2.2.2.2.2.1.length : Int)))))) (cond (decide (y201 = (4 : Int))) (some (.inl (!(decide ((x.1.2.2.2.2.1.length : Int) = (x.2.2.2.2.2.2.1.length : Int)))))) (cond (decide (y201 = (5 : Int))) (some (.inl (!(decide ((x.1.2.2.2.2.1.length : Int) = (x.2.2.2.2.2.2.2.1.length : Int)))))) (cond (decide (y201 = (6 : Int))) (some (.inl (!(decide ((x.1.2.2.2.2.1.length : Int) = (x.2.2.2.2.2.2.2.2.1.length : Int)))))) (cond (decide (y201 = (7 : Int))) (some (.inl (!(decide ((x.1.2.2.2.2.1.length : Int) = (x.2.2.2.2.2.2.2.2.2.1.length : Int)))))) (cond (decide (y201 = (8 : Int))) (some (.inl (!(decide ((x.1.2.2.2.2.1.length : Int) = (x.2.2.2.2.2.2.2.2.2.2.length : Int)))))) ((outI))))))))))) (cond (decide (y201 = (4 : Int))) (cond (decide (y201 = (0 : Int))) (some (.inl (!(decide ((x.1.2.2.2.2.2.1.length : Int) = (x.2.2.1.length : Int)))))) (cond (decide (y201 = (1 : Int))) (some (.inl (!(decide ((x.1.2.2.2.2.2.1.length : Int) = (x.2.2.2.1.length : Int)))))) (cond (decide (y201 = (2 : Int))) (some (.inl (!(decide ((x.1.2.2.2.2.2.1.length : Int) = (x.2.2.2.2.1.length : Int)))))) (cond (decide (y201 = (3 : Int))) (some (.inl (!(decide ((x.1.2.2.2.2.2.1.length : Int) = (x.2.2.2.2.2.1.length : Int)))))) (cond (decide (y201 = (4 : Int))) (some (.inl (!(decide ((x.1.2.2.2.2.2.1.length : Int) = (x.2.2.2.2.2.2.1.length : Int)))))) (cond (decide (y201 = (5 : Int))) (some (.inl (!(decide ((x.1.2.2.2.2.2.1.length : Int) = (x.2.2.2.2.2.2.2.1.length : Int)))))) (cond (decide (y201 = (6 : Int))) (some (.inl (!(decide ((x.1.2.2.2.2.2.1.length : Int) = (x.2.2.2.2.2.2.2.2.1.length : Int)))))) (cond (decide (y201 = (7 : Int))) (some (.inl (!(decide ((x.1.2.2.2.2.2.1.length : Int) = (x.2.2.2.2.2.2.2.2.2.1.length : Int)))))) (cond (decide (y201 = (8 : Int))) (some (.inl (!(decide ((x.1.2.2.2.2.2.1.length : Int) = (x.2.2.2.2.2.2.2.2.2.2.length : Int)))))) ((outI))))))))))) (cond (decide (y201 = (5 : Int))) (cond (decide (y201 = (0 : Int))) (some (.inl (!(decide ((x.1.2.2.2.2.2.2.1.length : Int) = (x.2.2.1.length : Int)))))) (cond (decide (y201 = (1 : Int))) (some (.inl (!(decide ((x.1.2.2.2.2.2.2.1.length : Int) = (x.2.2.2.1.length : Int)))))) (cond (decide (y201 = (2 : Int))) (some (.inl (!(decide ((x.1.2.2.2.2.2.2.1.length : Int) = (x.2.2.2.2.1.length : Int)))))) (cond (decide (y201 = (3 : Int))) (some (.inl (!(decide ((x.1.2.2.2.2.2.2.1.length : Int) = (x.2.2.2.2.2.1.length : Int)))))) (cond (decide (y201 = (4 : Int))) (some (.inl (!(decide ((x.1.2.2.2.2.2.2.1.length : Int) = (x.2.2.2.2.2.2.1.length : Int)))))) (cond (decide (y201 = (5 : Int))) (some (.inl (!(decide ((x.1.2.2.2.2.2.2.1.length : Int) = (x.2.2.2.2.2.2.2.1.length : Int)))))) (cond (decide (y201 = (6 : Int))) (some (.inl (!(decide ((x.1.2.2.2.2.2.2.1.length : Int) = (x.2.2.2.2.2.2.2.2.1.length : Int)))))) (cond (decide (y201 = (7 : Int))) (some (.inl (!(decide ((x.1.2.2.2.2.2.2.1.length : Int) = (x.2.2.2.2.2.2.2.2.2.1.length : Int)))))) (cond (decide (y201 = (8 : Int))) (some (.inl (!(decide ((x.1.2.2.2.2.2.2.1.length : Int) = (x.2.2.2.2.2.2.2.2.2.2.length : Int)))))) ((outI))))))))))) (cond (decide (y201 = (6 : Int))) (cond (decide (y201 = (0 : Int))) (some (.inl (!(decide ((x.1.2.2.2.2.2.2.2.1.length : Int) = (x.2.2.1.length : Int)))))) (cond (decide (y201 = (1 : Int))) (some (.inl (!(decide ((x.1.2.2.2.2.2.2.2.1.length : Int) = (x.2.2.2.1.length : Int)))))) (cond (decide (y201 = (2 : Int))) (some (.inl (!(decide ((x.1.2.2.2.2.2.2.2.1.length : Int) = (x.2.2.2.2.1.length : Int)))))) (cond (decide (y201 = (3 : Int))) (some (.inl (!(decide ((x.1.2.2.2.2.2.2.2.1.length : Int) = (x.2.2.2.2.2.1.length : Int)))))) (cond (decide (y201 = (4 : Int))) (some (.inl (!(decide ((x.1.2.2.2.2.2.2.2.1.length : Int) = (x.2.2.2.2.2.2.1.length : Int)))))) (cond (decide (y201 = (5 : Int))) (some (.inl (!(decide ((x.1.2.2.2.2.2.2.2.1.length : Int) = (x.2.2.2.2.2.2.2.1.length : Int)))))) (cond (decide (y201 = (6 : Int))) (some (.inl (!(decide ((x.1.2.2.2.2.2.2.2.1.length : Int) = (x.2.2.2.2.2.2.2.2.1.length : Int)))))) (cond (decide (y201 = (7 : Int))) (some (.inl (!(decide ((x.1.2.2.2.2.2.2.2.1.length : Int) = (x.2.2.2.2.2.2.2.2.2.1.length : Int)))))) (cond (decide (y201 = (8 : Int))) (some (.inl (!(decide ((x.1.2.2.2.2.2.2.2.1.length : Int) = (x.2.2.2.2.2.2.2.2.2.2.length : Int)))))) ((outI))))))))))) (cond (decide (y201 = (7 : Int))) (cond (decide (y201 = (0 : Int))) (some (.inl (!(decide ((x.1.2.2.2.2.2.2.2.2.1.length : Int) = (x.2.2.1.length : Int)))))) (cond (decide (y201 = (1 : Int))) (some (.inl (!(decide ((x.1.2.2.2.2.2.2.2.2.1.length : Int) = (x.2.2.2.1.length : Int)))))) (cond (decide (y201 = (2 : Int))) (some (.inl (!(decide ((x.1.2.2.2.2.2.2.2.2.1.length : Int) = (x.2.2.2.2.1.length : Int)))))) (cond (decide (y201 = (3 : Int))) (some (.inl (!(decide ((x.1.2.2.2.2.2.2.2.2.1.length : Int) = (x.2.2.2.2.2.1.length : Int)))))) (cond (decide (y201 = (4 : Int))) (some (.inl (!(decide ((x.1.2.2.2.2.2.2.2.2.1.length : Int) = (x.2.2.2.2.2.2.1.length : Int)))))) (cond (decide (y201 = (5 : Int))) (some (.inl (!(decide ((x.1.2.2.2.2.2.2.2.2.1.length : Int) = (x.2.2.2.2.2.2.2.1.length : Int)))))) (cond (decide (y201 = (6 : Int))) (some (.inl (!(decide ((x.1.2.2.2.2.2.2.2.2.1.length : Int) = (x.2.2.2.2.2.2.2.2.1.length : Int)))))) (cond (decide (y201 = (7 : Int))) (some (.inl (!(decide ((x.1.2.2.2.2.2.2.2.2.1.length : Int) = (x.2.2.2.2.2.2.2.2.2.1.length : Int)))))) (cond (decide (y201 = (8 : Int))) (some (.inl (!(decide ((x.1.2.2.2.2.2.2.2.2.1.length : Int) = (x.2.2.2.2.2.2.2.2.2.2.length : Int)))))) ((outI))))))))))) (cond (decide (y201 = (8 : Int))) (cond (decide (y201 = (0 : Int))) (some (.inl (!(decide ((x.1.2.2.2.2.2.2.2.2.2.length : Int) = (x.2.2.1.length : Int)))))) (cond (decide (y201 = (1 : Int))) (some (.inl (!(decide ((x.1.2.2.2.2.2.2.2.2.2.length : Int) = (x.2.2.2.1.length : Int)))))) (cond (decide (y201 = (2 : Int))) (some (.inl (!(decide ((x.1.2.2.2.2.2.2.2.2.2.length : Int) = (x.2.2.2.2.1.length : Int)))))) (cond (decide (y201 = (3 : Int))) (some (.inl (!(decide ((x.1.2.2.2.2.2.2.2.2.2.length : Int) = (x.2.2.2.2.2.1.length : Int)))))) (cond (decide (y201 = (4 : Int))) (some (.inl (!(decide ((x.1.2.2.2.2.2.2.2.2.2.length : Int) = (x.2.2.2.2.2.2.1.length : Int)))))) (cond (decide (y201 = (5 : Int))) (some (.inl (!(decide ((x.1.2.2.2.2.2.2.2.2.2.length : Int) = (x.2.2.2.2.2.2.2.1.length : Int)))))) (cond (decide (y201 = (6 : Int))) (some (.inl (!(decide ((x.1.2.2.2.2.2.2.2.2.2.length : Int) = (x.2.2.2.2.2.2.2.2.1.length : Int)))))) (cond (decide (y201 = (7 : Int))) (some (.inl (!(decide ((x.1.2.2.2.2.2.2.2.2.2.length : Int) = (x.2.2.2.2.2.2.2.2.2.1.length : Int)))))) (cond (decide (y201 = (8 : Int))) (some (.inl (!(decide ((x.1.2.2.2.2.2.2.2.2.2.length : Int) = (x.2.2.2.2.2.2.2.2.2.2.length : Int)))))) ((outI))))))))))) ((outI))))))))))) (fun y202 : Bool => cond y202 (some (.inr (.inr false))) (iter lf (fun y203 : Int => jn (cond (decide (y201 = (0 : Int))) (cond (decide (y203 < (x.1.2.1.length : Int))) (some (.inl ())) (some (.inr (.inr (.inl ()))))) (cond (decide (y201 = (1 : Int))) (cond (decide (y203 < (x.1.2.2.1.length : Int))) (some (.inl ())) (some (.inr (.inr (.inl ()))))) (cond (decide (y201 = (2 : Int))) (cond (decide (y203 < (x.1.2.2.2.1.length : Int))) (some (.inl ())) (some (.inr (.inr (.inl ()))))) (cond (decide (y201 = (3 : Int))) (cond (decide (y203 < (x.1.2.2.2.2.1.length : Int))) (some (.inl ())) (some (.inr (.inr (.inl ()))))) (cond (decide (y201 = (4 : Int))) (cond (decide (y203 < (x.1.2.2.2.2.2.1.length : Int))) (some (.inl ())) (some (.inr (.inr (.inl ()))))) (cond (decide (y201 = (5 : Int))) (cond (decide (y203 < (x.1.2.2.2.2.2.2.1.length : Int))) (some (.inl ())) (some (.inr (.inr (.inl ()))))) (cond (decide (y201 = (6 : Int))) (cond (decide (y203 < (x.1.2.2.2.2.2.2.2.1.length : Int))) (some (.inl ())) (some (.inr (.inr (.inl ()))))) (cond (decide (y201 = (7 : Int))) (cond (decide (y203 < (x.1.2.2.2.2.2.2.2.2.1.length : Int))) (some (.inl ())) (some (.inr (.inr (.inl ()))))) (cond (decide (y201 = (8 : Int))) (cond (decide (y203 < (x.1.2.2.2.2.2.2.2.2.2.length : Int))) (some (.inl ())) (some (.inr (.inr (.inl ()))))) ((outI))))))))))) (fun y204 : PUnit => jn (cond (decide (y201 = (0 : Int))) (((getI x.1.2.1 y203)).bind fun r205 => cond (decide (y201 = (0 : Int))) (((getI x.2.2.1 y203)).bind fun r206 => ((G30 lf (r205, r206))).bind fun r207 => some (.inl r207)) (cond (decide (y201 = (1 : Int))) (((getI x.2.2.2.1 y203)).bind fun r208 => ((G30 lf (r205, r208))).bind fun r209 => some (.inl r209)) (cond (decide (y201 = (2 : Int))) (((getI x.2.2.2.2.1 y203)).bind fun r210 => ((G30 lf (r205, r210))).bind fun r211 => some (.inl r211)) (cond (decide (y201 = (3 : Int))) (((getI x.2.2.2.2.2.1 y203)).bind fun r212 => ((G30 lf (r205, r212))).bind fun r213 => some (.inl r213)) (cond (decide (y201 = (4 : Int))) (((getI x.2.2.2.2.2.2.1 y203)).bind fun r214 => ((G30 lf (r205, r214))).bind fun r215 => some (.inl r215)) (cond (decide (y201 = (5 : Int))) (((getI x.2.2.2.2.2.2.2.1 y203)).bind fun r216 => ((G30 lf (r205, r216))).bind fun r217 => some (.inl r217)) (cond (decide (y201 = (6 : Int))) (((getI x.2.2.2.2.2.2.2.2.1 y203)).bind fun r218 => ((G30 lf (r205, r218))).bind fun r219 => some (.inl r219)) (cond (decide (y201 = (7 : Int))) (((getI x.2.2.2.2.2.2.2.2.2.1 y203)).bind fun r220 => ((G30 lf (r205, r220))).bind fun r221 => some (.inl r221)) (cond (decide (y201 = (8 : Int))) (((getI x.2.2.2.2.2.2.2.2.2.2 y203)).bind fun r222 => ((G30 lf (r205, r222))).bind fun r223 => some (.inl r223)) ((outI))))))))))) (cond (decide (y201 = (1 : Int))) (((getI x.1.2.2.1 y203)).bind fun r224 => cond (decide (y201 = (0 : Int))) (((getI x.2.2.1 y203)).bind fun r225 => ((G30 lf (r224, r225))).bind fun r226 => some (.inl r226)) (cond (decide (y201 = (1 : Int))) (((getI x.2.2.2.1 y203)).bind fun r227 => ((G30 lf (r224, r227))).bind fun r228 => some (.inl r228)) (cond (decide (y201 = (2 : Int))) (((getI x.2.2.2.2.1 y203)).bind fun r229 => ((G30 lf (r224, r229))).bind fun r230 => some (.inl r230)) (cond (decide (y201 = (3 : Int))) (((getI x.2.2.2.2.2.1 y203)).bind fun r231 => ((G30 lf (r224, r231))).bind fun r232 => some (.inl r232)) (cond (decide (y201 = (4 : Int))) (((getI x.2.2.2.2.2.2.1 y203)).bind fun r233 => ((G30 lf (r224, r233))).bind fun r234 => some (.inl r234)) (cond (decide (y201 = (5 : Int))) (((getI x.2.2.2.2.2.2.2.1 y203)).bind fun r235 => ((G30 lf (r224, r235))).bind fun r236 => some (.inl r236)) (cond (decide (y201 = (6 : Int))) (((getI x.2.2.2.2.2.2.2.2.1 y203)).bind fun r237 => ((G30 lf (r224, r237))).bind fun r238 => some (.inl r238)) (cond (decide (y201 = (7 : Int))) (((getI x.2.2.2.2.2.2.2.2.2.1 y203)).bind fun r239 => ((G30 lf (r224, r239))).bind fun r240 => some (.inl r240)) (cond (decide (y201 = (8 : Int))) (((getI x.2.2.2.2.2.2.2.2.2.2 y203)).bind fun r241 => ((G30 lf (r224, r241))).bind fun r242 => some (.inl r242)) ((outI))))))))))) (cond (decide (y201 = (2 : Int))) (((getI x.1.2.2.2.1 y203)).bind fun r243 => cond (decide (y201 = (0 : Int))) (((getI x.2.2.1 y203)).bind fun r244 => ((G30 lf (r243, r244))).bind fun r245 => some (.inl r245)) (cond (decide (y201 = (1 : Int))) (((getI x.2.2.2.1 y203)).bind fun r246 => ((G30 lf (r243, r246))).bind fun r247 => some (.inl r247)) (cond (decide (y201 = (2 : Int))) (((getI x.2.2.2.2.1 y203)).bind fun r248 => ((G30 lf (r243, r248))).bind fun r249 => some (.inl r249)) (cond (decide (y201 = (3 : Int))) (((getI x.2.2.2.2.2.1 y203)).bind fun r250 => ((G30 lf (r243, r250))).bind fun r251 => some (.inl r251)) (cond (decide (y201 = (4 : Int))) (((getI x.2.2.2.2.2.2.1 y203)).bind fun r252 => ((G30 lf (r243, r252))).bind fun r253 => some (.inl r253)) (cond (decide (y201 = (5 : Int))) (((getI x.2.2.2.2.2.2.2.1 y203)).bind fun r254 => ((G30 lf (r243, r254))).bind fun r255 => some (.inl r255)) (cond (decide (y201 = (6 : Int))) (((getI x.2.2.2.2.2.2.2.2.1 y203)).bind fun r256 => ((G30 lf (r243, r256))).bind fun r257 => some (.inl r257)) (cond (decide (y201 = (7 : Int))) (((getI x.2.2.2.2.2.2.2.2.2.1 y203)).bind fun r258 => ((G30 lf (r243, r258))).bind fun r259 => some (.inl r259)) (cond (decide (y201 = (8 : Int))) (((getI x.2.2.2.2.2.2.2.2.2.2 y203)).bind fun r260 => ((G30 lf (r243, r260))).bind fun r261 => some (.inl r261)) ((outI))))))))))) (cond (decide (y201 = (3 : Int))) (((getI x.1.2.2.2.2.1 y203)).bind fun r262 => cond (decide (y201 = (0 : Int))) (((getI x.2.2.1 y203)).bind fun r263 => ((G30 lf (r262, r263))).bind fun r264 => some (.inl r264)) (cond (decide (y201 = (1 : Int))) (((getI x.2.2.2.1 y203)).bind fun r265 => ((G30 lf (r262, r265))).bind fun r266 => some (.inl r266)) (cond (decide (y201 = (2 : Int))) (((getI x.2.2.2.2.1 y203)).bind fun r267 => ((G30 lf (r262, r267))).bind fun r268 => some (.inl r268)) (cond (decide (y201 = (3 : Int))) (((getI x.2.2.2.2.2.1 y203)).bind fun r269 => ((G30 lf (r262, r269))).bind fun r270 => some (.inl r270)) (cond (decide (y201 = (4 : Int))) (((getI x.2.2.2.2.2.2.1 y203)).bind fun r271 => ((G30 lf (r262, r271))).bind fun r272 => some (.inl r272)) (cond (decide (y201 = (5 : Int))) (((getI x.2.2.2.2.2.2.2.1 y203)).bind fun r273 => ((G30 lf (r262, r273))).bind fun r274 => some (.inl r274)) (cond (decide (y201 = (6 : Int))) (((getI x.2.2.2.2.2.2.2.2.1 y203)).bind fun r275 => ((G30 lf (r262, r275))).bind fun r276 => some (.inl r276)) (cond (decide (y201 = (7 : Int))) (((getI x.2.2.2.2.2.2.2.2.2.1 y203)).bind fun r277 => ((G30 lf (r262, r277))).bind fun r278 => some (.inl r278)) (cond (decide (y201 = (8 : Int))) (((getI x.2.2.2.2.2.2.2.2.2.2 y203)).bind fun r279 => ((G30 lf (r262, r279))).bind fun r280 => some (.inl r280)) ((outI))))))))))) (cond (decide (y201 = (4 : Int))) (((getI x.1.2.2.2.2.2.1 y203)).bind fun r281 => cond (decide (y201 = (0 : Int))) (((getI x.2.2.1 y203)).bind fun r282 => ((G30 lf (r281, r282))).bind fun r283 => some (.inl r283)) (cond (decide (y201 = (1 : Int))) (((getI x.2.2.2.1 y203)).bind fun r284 => ((G30 lf (r281, r284))).bind fun r285 => some (.inl r285)) (cond (decide (y201 = (2 : Int))) (((getI x.2.2.2.2.1 y203)).bind fun r286 => ((G30 lf (r281, r286))).bind fun r287 => some (.inl r287)) (cond (decide (y201 = (3 : Int))) (((getI x.2.2.2.2.2.1 y203)).bind fun r288 => ((G30 lf (r281, r288))).bind fun r289 => some (.inl r289)) (cond (decide (y201 = (4 : Int))) (((getI x.2.2.2.2.2.2.1 y203)).bind fun r290 => ((G30 lf (r281, r290))).bind fun r291 => some (.inl r291)) (cond (decide (y201 = (5 : Int))) (((getI x.2.2.2.2.2.2.2.1 y203)).bind fun r292 => ((G30 lf (r281, r292))).bind fun r293 => some (.inl r293)) (cond (decide (y201 = (6 : Int))) (((getI x.2.2.2.2.2.2.2.2.1 y203)).bind fun r294 => ((G30 lf (r281, r294))).bind fun r295 => some (.inl r295)) (cond (decide (y201 = (7 : Int))) (((getI x.2.2.2.2.2.2.2.2.2.1 y203)).bind fun r296 => ((G30 lf (r281, r296))).bind fun r297 => some (.inl r297)) (cond (decide (y201 = (8 : Int))) (((getI x.2.2.2.2.2.2.2.2.2.2 y203)).bind fun r298 => ((G30 lf (r281, r298))).bind fun r299 => some (.inl r299)) ((outI))))))))))) (cond (decide (y201 = (5 : Int))) (((getI x.1.2.2.2.2.2.2.1 y203)).bind fun r300 => cond (decide (y201 = (0 : Int))) (((getI x.2.2.1 y203)).bind fun r301 => ((G30 lf (r300, r301))).bind fun r302 => some (.inl r302)) (cond (decide (y201 = (1 : Int))) (((getI x.2.2.2.1 y203)).bind fun r303 => ((G30 lf (r300, r303))).bind fun r304 => some (.inl r304)) (cond (decide (y201 = (2 : Int))) (((getI x.2.2.2.2.1 y203)).bind fun r305 => ((G30 lf (r300, r305))).bind fun r306 => some (.inl r306)) (cond (decide (y201 = (3 : Int))) (((getI x.2.2.2.2.2.1 y203)).bind fun r307 => ((G30 lf (r300, r307))).bind fun r308 => some (.inl r308)) (cond (decide (y201 = (4 : Int))) (((getI x.2.2.2.2.2.2.1 y203)).bind fun r309 => ((G30 lf (r300, r309))).bind fun r310 => some (.inl r310)) (cond (decide (y201 = (5 : Int))) (((getI x.2.2.2.2.2.2.2.1 y203)).bind fun r311 => ((G30 lf (r300, r311))).bind fun r312 => some (.inl r312)) (cond (decide (y201 = (6 : Int))) (((getI x.2.2.2.2.2.2.2.2.1 y203)).bind fun r313 => ((G30 lf (r300, r313))).bind fun r314 => some (.inl r314)) (cond (decide (y201 = (7 : Int))) (((getI x.2.2.2.2.2.2.2.2.2.1 y203)).bind fun r315 => ((G30 lf (r300, r315))).bind fun r316 => some (.inl r316)) (cond (decide (y201 = (8 : Int))) (((getI x.2.2.2.2.2.2.2.2.2.2 y203)).bind fun r317 => ((G30 lf (r300, r317))).bind fun r318 => some (.inl r318)) ((outI))))))))))) (cond (decide (y201 = (6 : Int))) (((getI x.1.2.2.2.2.2.2.2.1 y203)).bind fun r319 => cond (decide (y201 = (0 : Int))) (((getI x.2.2.1 y203)).bind fun r320 => ((G30 lf (r319, r320))).bind fun r321 => some (.inl r321)) (cond (decide (y201 = (1 : Int))) (((getI x.2.2.2.1 y203)).bind fun r322 => ((G30 lf (r319, r322))).bind fun r323 => some (.inl r323)) (cond (decide (y201 = (2 : Int))) (((getI x.2.2.2.2.1 y203)).bind fun r324 => ((G30 lf (r319, r324))).bind fun r325 => some (.inl r325)) (cond (decide (y201 = (3 : Int))) (((getI x.2.2.2.2.2.1 y203)).bind fun r326 => ((G30 lf (r319, r326))).bind fun r327 => some (.inl r327)) (cond (decide (y201 = (4 : Int))) (((getI x.2.2.2.2.2.2.1 y203)).bind fun r328 => ((G30 lf (r319, r328))).bind fun r329 => some (.inl r329)) (cond (decide (y201 = (5 : Int))) (((getI x.2.2.2.2.2.2.2.1 y203)).bind fun r330 => ((G30 lf (r319, r330))).bind fun r331 => some (.inl r331)) (cond (decide (y201 = (6 : Int))) (((getI x.2.2.2.2.2.2.2.2.1 y203)).bind fun r332 => ((G30 lf (r319, r332))).bind fun r333 => some (.inl r333)) (cond (decide (y201 = (7 : Int))) (((getI x.2.2.2.2.2.2.2.2.2.1 y203)).bind fun r334 => ((G30 lf (r319, r334))).bind fun r335 => some (.inl r335)) (cond (decide (y201 = (8 : Int))) (((getI x.2.2.2.2.2.2.2.2.2.2 y203)).bind fun r336 => ((G30 lf (r319, r336))).bind fun r337 => some (.inl r337)) ((outI))))))))))) (cond (decide (y201 = (7 : Int))) (((getI x.1.2.2.2.2.2.2.2.2.1 y203)).bind fun r338 => cond (decide (y201 = (0 : Int))) (((getI x.2.2.1 y203)).bind fun r339 => ((G30 lf (r338, r339))).bind fun r340 => some (.inl r340)) (cond (decide (y201 = (1 : Int))) (((getI x.2.2.2.1 y203)).bind fun r341 => ((G30 lf (r338, r341))).bind fun r342 => some (.inl r342)) (cond (decide (y201 = (2 : Int))) (((getI x.2.2.2.2.1 y203)).bind fun r343 => ((G30 lf (r338, r343))).bind fun r344 => some (.inl r344)) (cond (decide (y201 = (3 : Int))) (((getI x.2.2.2.2.2.1 y203)).bind fun r345 => ((G30 lf (r338, r345))).bind fun r346 => some (.inl r346)) (cond (decide (y201 = (4 : Int))) (((getI x.2.2.2.2.2.2.1 y203)).bind fun r347 => ((G30 lf (r338, r347))).bind fun r348 => some (.inl r348)) (cond (decide (y201 = (5 : Int))) (((getI x.2.2.2.2.2.2.2.1 y203)).bind fun r349 => ((G30 lf (r338, r349))).bind fun r350 => some (.inl r350)) (cond (decide (y201 = (6 : Int))) (((getI x.2.2.2.2.2.2.2.2.1 y203)).bind fun r351 => ((G30 lf (r338, r351))).bind fun r352 => some (.inl r352)) (cond (decide (y201 = (7 : Int))) (((getI x.2.2.2.2.2.2.2.2.2.1 y203)).bind fun r353 => ((G30 lf (r338, r353))).bind fun r354 => some (.inl r354)) (cond (decide (y201 = (8 : Int))) (((getI x.2.2.2.2.2.2.2.2.2.2 y203)).bind fun r355 => ((G30 lf (r338, r355))).bind fun r356 => some (.inl r356)) ((outI))))))))))) (cond (decide (y201 = (8 : Int))) (((getI x.1.2.2.2.2.2.2.2.2.2 y203)).bind fun r357 => cond (decide (y201 = (0 : Int))) (((getI x.2.2.1 y203)).bind fun r358 => ((G30 lf (r357, r358))).bind fun r359 => some (.inl r359)) (cond (decide (y201 = (1 : Int))) (((getI x.2.2.2.1 y203)).bind fun r360 => ((G30 lf (r357, r360))).bind fun r361 => some (.inl r361)) (cond (decide (y201 = (2 : Int))) (((getI x.2.2.2.2.1 y203)).bind fun r362 => ((G30 lf (r357, r362))).bind fun r363 => some (.inl r363)) (cond (decide (y201 = (3 : Int))) (((getI x.2.2.2.2.2.1 y203)).bind fun r364 => ((G30 lf (r357, r364))).bind fun r365 => some (.inl r365)) (cond (decide (y201 = (4 : Int))) (((getI x.2.2.2.2.2.2.1 y203)).bind fun r366 => ((G30 lf (r357, r366))).bind fun r367 => some (.inl r367)) (cond (decide (y201 = (5 : Int))) (((getI x.2.2.2.2.2.2.2.1 y203)).bind fun r368 => ((G30 lf (r357, r368))).bind fun r369 => some (.inl r369)) (cond (decide (y201 = (6 : Int))) (((getI x.2.2.2.2.2.2.2.2.1 y203)).bind fun r370 => ((G30 lf (r357, r370))).bind fun r371 => some (.inl r371)) (cond (decide (y201 = (7 : Int))) (((getI x.2.2.2.2.2.2.2.2.2.1 y203)).bind fun r372 => ((G30 lf (r357, r372))).bind fun r373 => some (.inl r373)) (cond (decide (y201 = (8 : Int))) (((getI x.2.2.2.2.2.2.2.2.2.2 y203)).bind fun r374 => ((G30 lf (r357, r374))).bind fun r375 => some (.inl r375)) ((outI))))))))))) ((outI))))))))))) (fun y376 : Bool => cond (!y376) (some (.inr (.inr (.inr false)))) (some (.inl (w64 (y203 + (1 : Int)))))))) (0 : Int)))) (fun y377 : PUnit => some (.inl (w64 (y201 + (1 : Int)))))) (some (.inr true))) (0 : Int)))) (0 : Int))
theorem F8_G (lf : Nat) (x : (Ys × Ys)) : F8 Tryz.prog lf x = G8 lf x := by
 obtain ⟨⟨_, ⟨_, ⟨_, ⟨_, ⟨_, ⟨_, ⟨_, ⟨_, ⟨_, _⟩⟩⟩⟩⟩⟩⟩⟩⟩, ⟨_, ⟨_, ⟨_, ⟨_, ⟨_, ⟨_, ⟨_, ⟨_, ⟨_, _⟩⟩⟩⟩⟩⟩⟩⟩⟩⟩ := x
 unfold G8
 (try simp only [← F30_G lf])
 kernel_rfl
end
end Go.K
namespace Go.K
open Go.Sl Go.Sx Go.Proofs
abbrev LotK := Int × (Int × (Int × Int))
abbrev HeapK := List (Int × Int)
abbrev HoldK := List (List (Int × Int))
theorem gt_of {α : Type} {l : List α} {i : Nat} {x : α} (h : l[i]? = some x) : i < l.length := (List.getElem?_eq_some_iff.1 h).1
theorem jin {α ρ : Type} (a : α) (f : α → Option ρ) : jn (some (.inl a)) f = f a := rfl
theorem decNN {i n : Nat} (h : i < n) : decide ((i : Int) < (n : Int)) = true := zE (by omega)
theorem decNn (n : Nat) : decide ((n : Int) < (n : Int)) = false := zD (by omega)
theorem upW {i : Nat} (h : i + 1 < 9223372036854775808) : w64 ((i : Int) + 1) = ((i + 1 : Nat) : Int) := by
 rw [w64_id (by omega) (by omega)]; omega
theorem dnW {i : Nat} (h : i < 9223372036854775808) (h0 : 0 < i) : w64 ((i : Int) - 1) = ((i - 1 : Nat) : Int) := by
 rw [w64_id (by omega) (by omega)]; omega
def inB (n lo hi : Int) : Bool := decide (lo ≤ n) && decide (n ≤ hi)
theorem G48_in (lf : Nat) (n lo hi : Int) : G48 lf (n, (lo, hi)) = some (inB n lo hi) := by
 unfold G48 inB
 simp only
 cases decide (lo ≤ n) <;> rfl
theorem G54_in (lf : Nat) (n lo hi : Int) : G54 lf (n, (lo, hi)) = some (inB n lo hi) := by
 unfold G54 inB
 simp only [ge_iff_le]
 cases decide (lo ≤ n) <;> rfl
def lotB (l : LotK) : Bool := inB l.1 1 9999 && inB l.2.1 1 9 && inB l.2.2.1 1 9 && inB l.2.2.2 0 10000
theorem G17_lot (lf : Nat) (a b c d : Int) : G17 lf (a, (b, (c, d))) = some (bif lotB (a, (b, (c, d))) then 0 else 60) := by
 unfold G17 lotB
 simp only [G48_in, zB]
 cases inB a 1 9999 <;> cases inB b 1 9 <;> cases inB c 1 9 <;> cases inB d 0 10000 <;> rfl
theorem G82_lot (lf : Nat) (a b c d : Int) : G82 lf (a, (b, (c, d))) = some (bif lotB (a, (b, (c, d))) then 0 else 60) := by
 unfold G82 lotB
 simp only [G54_in, zB]
 cases inB a 1 9999 <;> cases inB b 1 9 <;> cases inB c 1 9 <;> cases inB d 0 10000 <;> rfl
def lotD : LotK := (0, (0, (0, 0)))
def lotsS (l : List LotK) (x : LotK) (i : Nat) : Option Int := bif !lotB x || (decide (0 < i) && decide ((l.getD (i - 1) lotD).1 ≥ x.1)) then some 60 else none
def lotsE (l : List LotK) : Int := if 40 < l.length then 60 else (scan (lotsS l) l 0).getD 0
theorem getD_of {α : Type} {l : List α} {i : Nat} (d : α) (h : i < l.length) : getI l (i : Int) = some (l.getD i d) := by
 apply getI_nat
 rw [List.getD_eq_getElem?_getD, List.getElem?_eq_getElem h]; rfl
theorem G52_lots (l : List LotK) : G52 LF l = some (lotsE l) := by
 unfold G52 lotsE
 by_cases h : 40 < l.length
 ·simp only [h, if_true, zE (show (l.length : Int) > 40 by omega), zT]
 ·simp only [h, if_false, zD (show ¬ (l.length : Int) > 40 by omega), zF]
  refine (iter_scan (lotsS l) l (some 0) ?_ ?_ (by show _ < 9223372036854775808; omega)).trans ?_
  ·intro i x hx _
   have hi := gt_of hx
   obtain ⟨a, b, c, d⟩ := x
   simp only [decNN hi, zT, getI_nat hx, zB, G17_lot, upW (show i + 1 < 9223372036854775808 by omega)]
   unfold lotsS
   cases lotB (a, (b, (c, d))) with
   | false => rfl
   | true =>
    by_cases h0 : 0 < i
    ·simp only [zE (show (i : Int) > 0 by omega), zE h0, zT, dnW (show i < 9223372036854775808 by omega) h0, getD_of lotD (show i - 1 < l.length by omega), zB, decide_true, Bool.not_true, zF, jin, Bool.true_and, Bool.false_or]
     cases decide ((l.getD (i - 1) lotD).1 ≥ a) <;> rfl
    ·simp only [zD (show ¬ (i : Int) > 0 by omega), zD h0]; rfl
  ·intro _
   simp only [decNn, zF]; rfl
  ·cases scan (lotsS l) l 0 <;> rfl
theorem G55_lots (l : List LotK) : G55 LF l = some (lotsE l) := by
 unfold G55 lotsE
 by_cases h : 40 < l.length
 ·simp only [h, if_true, zE (show (l.length : Int) > 40 by omega), zT]
 ·simp only [h, if_false, zD (show ¬ (l.length : Int) > 40 by omega), zF]
  refine (iter_scan (lotsS l) l (some 0) ?_ ?_ (by show _ < 9223372036854775808; omega)).trans ?_
  ·intro i x hx _
   have hi := gt_of hx
   obtain ⟨a, b, c, d⟩ := x
   simp only [decNN hi, zT, getI_nat hx, zB, G82_lot, upW (show i + 1 < 9223372036854775808 by omega)]
   unfold lotsS
   cases lotB (a, (b, (c, d))) with
   | false => rfl
   | true =>
    by_cases h0 : 0 < i
    ·simp only [zE (show (i : Int) > 0 by omega), zE h0, zT, dnW (show i < 9223372036854775808 by omega) h0, getD_of lotD (show i - 1 < l.length by omega), zB, decide_true, Bool.not_true, zF, jin, Bool.true_and, Bool.false_or]
     cases decide ((l.getD (i - 1) lotD).1 ≥ a) <;> rfl
    ·simp only [zD (show ¬ (i : Int) > 0 by omega), zD h0]; rfl
  ·intro _
   simp only [decNn, zF]; rfl
  ·cases scan (lotsS l) l 0 <;> rfl
end Go.K
namespace Go.K
open Go.Sl Go.Sx Go.Proofs
theorem iter_while {α ρ : Type} {f : α → Option (α ⊕ ρ)} (I : α → Prop) (mu : α → Nat) (Q : ρ → Prop)
  (h : ∀ y, I y → (∃ y', f y = some (.inl y') ∧ I y' ∧ mu y' < mu y) ∨ (∃ r, f y = some (.inr r) ∧ Q r)) : ∀ (n : Nat) (y : α), I y → mu y < n → ∃ r, iter n f y = some r ∧ Q r
 | 0, y, _, hn => absurd hn (Nat.not_lt_zero _)
 | n + 1, y, hi, hn => by
  rcases h y hi with ⟨y', e, h1, h2⟩ | ⟨r, e, hq⟩
  ·obtain ⟨r, e2, hq⟩ := iter_while I mu Q h n y' h1 (by omega)
   exact ⟨r, by simp only [iter, e, e2], hq⟩
  ·exact ⟨r, by simp only [iter, e], hq⟩
theorem same_heap (lf : Nat) (x : HeapK) : G56 lf x = G37 lf x := by
 unfold G56 G37
 simp only [G48_in, G54_in]
theorem same_mass (lf : Nat) (x : HeapK) : G83 lf x = G38 lf x := rfl
theorem same_total (lf : Nat) (x : HoldK) : G58 lf x = G41 lf x := by
 unfold G58 G41
 simp only [same_mass]
def risB (l : List LotK) : Prop := ∀ i j : Nat, i < j → j < l.length → (l.getD i lotD).1 < (l.getD j lotD).1
theorem lots_ris {l : List LotK} (h : lotsE l = 0) : l.length ≤ 40 ∧ risB l ∧ ∀ x ∈ l, lotB x = true := by
 unfold lotsE at h
 by_cases h40 : 40 < l.length
 ·rw [if_pos h40] at h; cases h
 ·rw [if_neg h40] at h
  have hs : scan (lotsS l) l 0 = none := by
   cases hc : scan (lotsS l) l 0 with
   | none => rfl
   | some e =>
    rw [hc] at h
    simp only [Option.getD_some] at h
    have key : ∀ (m : List LotK) (i : Nat) (e : Int), scan (lotsS l) m i = some e → e = 60 := by
     intro m
     induction m with
     | nil => intro i e h; cases h
     | cons x m ih =>
      intro i e h
      simp only [scan] at h
      cases hg : lotsS l x i with
      | none => rw [hg] at h; exact ih _ _ h
      | some u =>
       rw [hg] at h
       cases h
       unfold lotsS at hg
       revert hg
       cases (!lotB x || (decide (0 < i) && decide ((l.getD (i - 1) lotD).1 ≥ x.1))) <;> intro hg
       ·cases hg
       ·cases hg; rfl
    have := key l 0 e hc
    omega
  have key : ∀ (m : List LotK) (i : Nat), scan (lotsS l) m i = none → ∀ (k : Nat) (x : LotK), m[k]? = some x → lotsS l x (i + k) = none := by
   intro m
   induction m with
   | nil => intro i _ k x hx; cases hx
   | cons y m ih =>
    intro i hm k x hx
    simp only [scan] at hm
    cases hg : lotsS l y i with
    | some u => rw [hg] at hm; cases hm
    | none =>
     rw [hg] at hm
     cases k with
     | zero =>
      simp only [List.getElem?_cons_zero, zI] at hx
      subst hx; exact hg
     | succ k =>
      have := ih (i + 1) hm k x (by simpa using hx)
      rwa [show i + 1 + k = i + (k + 1) by omega] at this
  have at1 : ∀ (k : Nat) (x : LotK), l[k]? = some x → lotB x = true ∧ (0 < k → (l.getD (k - 1) lotD).1 < x.1) := by
   intro k x hx
   have := key l 0 hs k x hx
   rw [Nat.zero_add] at this
   unfold lotsS at this
   cases hb : lotB x with
   | false => rw [hb] at this; cases this
   | true =>
    refine ⟨rfl, fun h0 => ?_⟩
    rw [hb, zE h0] at this
    simp only [Bool.not_true, Bool.false_or, Bool.true_and] at this
    by_cases hh : (l.getD (k - 1) lotD).1 ≥ x.1
    ·rw [zE hh] at this; cases this
    ·omega
  refine ⟨by omega, ?_, fun x hx => ?_⟩
  ·have step : ∀ (d i : Nat), i + d + 1 < l.length → (l.getD i lotD).1 < (l.getD (i + d + 1) lotD).1 := by
    intro d
    induction d with
    | zero =>
     intro i hi
     have hx : l[i + 1]? = some (l.getD (i + 1) lotD) := by rw [List.getD_eq_getElem?_getD, List.getElem?_eq_getElem (by omega)]; rfl
     have := (at1 (i + 1) _ hx).2 (by omega)
     simpa using this
    | succ d ih =>
     intro i hi
     have h1 := ih i (by omega)
     have hx : l[i + (d + 1) + 1]? = some (l.getD (i + (d + 1) + 1) lotD) := by rw [List.getD_eq_getElem?_getD, List.getElem?_eq_getElem (by omega)]; rfl
     have := (at1 (i + (d + 1) + 1) _ hx).2 (by omega)
     rw [show i + (d + 1) + 1 - 1 = i + d + 1 by omega] at this
     omega
   intro i j hij hj
   have := step (j - i - 1) i (by omega)
   rwa [show i + (j - i - 1) + 1 = j by omega] at this
  ·obtain ⟨k, hk, e⟩ := List.getElem_of_mem hx
   exact (at1 k x (by rw [List.getElem?_eq_getElem hk, e])).1
end Go.K
namespace Go.K
open Go.Sl Go.Sx Go.Proofs
theorem wrap64 {n : Int} (h : 0 ≤ n ∧ n < 9223372036854775808) : Go.IntKind.wrap .u64 n = n := by
 unfold Go.IntKind.wrap
 have e : n % (2 ^ IntKind.u64.bits : Int) = n := Int.emod_eq_of_lt h.1 (by show n < 18446744073709551616; omega)
 simp only [e]
 rfl
theorem midW {a b : Nat} (h : a + b < 1000) : w64 (Int.fdiv (Go.IntKind.wrap .u64 (w64 ((a : Int) + (b : Int)))) (2 : Int)) = (((a + b) / 2 : Nat) : Int) := by
 rw [w64_id (n := (a : Int) + b) (by omega) (by omega), wrap64 (by omega)]
 have : Int.fdiv ((a : Int) + (b : Int)) 2 = (((a + b) / 2 : Nat) : Int) := by
  rw [Int.fdiv_eq_ediv_of_nonneg _ (by omega)]
  omega
 rw [this, w64_id (by omega) (by omega)]
def hasL (l : List LotK) (id : Int) : Bool := l.any fun x => decide (x.1 = id)
theorem hasL_iff {l : List LotK} {id : Int} : hasL l id = true ↔ ∃ j : Nat, j < l.length ∧ (l.getD j lotD).1 = id := by
 unfold hasL
 rw [List.any_eq_true]
 constructor
 ·rintro ⟨x, hx, e⟩
  obtain ⟨j, hj, ex⟩ := List.getElem_of_mem hx
  refine ⟨j, hj, ?_⟩
  rw [List.getD_eq_getElem?_getD, List.getElem?_eq_getElem hj]
  simp only [Option.getD_some, ex]
  simpa using e
 ·rintro ⟨j, hj, e⟩
  refine ⟨l[j], List.getElem_mem hj, ?_⟩
  rw [List.getD_eq_getElem?_getD, List.getElem?_eq_getElem hj] at e
  simpa using e
theorem G42_has {l : List LotK} {id : Int} (hl : l.length ≤ 40) (hr : risB l) : ∃ r, G42 LF (l, id) = some r ∧ r.2 = hasL l id := by
 unfold G42
 refine iter_while (fun y : Int × Int => ∃ a b : Nat, y = ((a : Int), (b : Int)) ∧ a ≤ b ∧ b ≤ l.length ∧ (∀ j, j < a → (l.getD j lotD).1 < id) ∧ ∀ j, b ≤ j → j < l.length → id ≤ (l.getD j lotD).1)
  (fun y => (y.2 - y.1).toNat) (fun r : Int × Bool => r.2 = hasL l id) ?_ LF _ ⟨0, l.length, rfl, by omega, by omega, fun j h => by omega, fun j h1 h2 => by omega⟩ (show ((l.length : Int) - 0).toNat < 9223372036854775808 by omega)
 rintro y ⟨a, b, rfl, hab, hb, h1, h2⟩
 by_cases hlt : a < b
 ·refine .inl ?_
  have hm : (a + b) / 2 < l.length := by omega
  simp only [decNN hlt, zT, midW (show a + b < 1000 by omega), getD_of lotD hm, zB, decide_true, Bool.not_true, zF]
  by_cases hx : (l.getD ((a + b) / 2) lotD).1 < id
  ·refine ⟨((((a + b) / 2 + 1 : Nat) : Int), (b : Int)), ?_, ⟨(a + b) / 2 + 1, b, rfl, by omega, hb, fun j hj => ?_, h2⟩, by simp only; omega⟩
   ·simp only [hx, decide_true, zT, jin, upW (show (a + b) / 2 + 1 < 9223372036854775808 by omega)]
   ·by_cases e : j = (a + b) / 2
    ·subst e; exact hx
    ·have := hr j ((a + b) / 2) (by omega) hm
     omega
  ·refine ⟨((a : Int), (((a + b) / 2 : Nat) : Int)), ?_, ⟨a, (a + b) / 2, rfl, by omega, by omega, h1, fun j hj hjl => ?_⟩, by simp only; omega⟩
   ·simp only [hx, decide_false, zF]
    cases decide ((l.getD ((a + b) / 2) lotD).1 > id) <;> rfl
   ·by_cases e : j = (a + b) / 2
    ·subst e; omega
    ·have := hr ((a + b) / 2) j (by omega) hjl
     omega
 ·refine .inr ?_
  have hba : b = a := by omega
  subst hba
  simp only [decNn, zF]
  by_cases hn : b < l.length
  ·simp only [decNN hn, zT, getD_of lotD hn, zB, decide_true, Bool.not_true, zF]
   have hge := h2 b (Nat.le_refl _) hn
   have hlt' : ¬ (l.getD b lotD).1 < id := by omega
   simp only [hlt', decide_false, zF]
   by_cases hgt : (l.getD b lotD).1 > id
   ·simp only [hgt, decide_true, zT]
    refine ⟨_, rfl, ?_⟩
    simp only
    cases hh : hasL l id with
    | false => rfl
    | true =>
     obtain ⟨j, hj, e⟩ := hasL_iff.1 hh
     exfalso
     by_cases c : j < b
     ·have := h1 j c; omega
     ·by_cases c2 : j = b
      ·subst c2; omega
      ·have := hr b j (by omega) hj; omega
   ·simp only [hgt, decide_false, zF]
    refine ⟨_, rfl, ?_⟩
    simp only
    exact (hasL_iff.2 ⟨b, hn, by omega⟩).symm
  ·have : decide ((b : Int) < (l.length : Int)) = false := zD (by omega)
   simp only [this, zF]
   refine ⟨_, rfl, ?_⟩
   simp only
   cases hh : hasL l id with
   | false => rfl
   | true =>
    obtain ⟨j, hj, e⟩ := hasL_iff.1 hh
    have := h1 j (by omega)
    omega
theorem G57_has {l : List LotK} {id : Int} (hl : l.length ≤ 40) : ∃ r, G57 LF (l, id) = some r ∧ decide (r < 0) = !hasL l id := by
 unfold G57
 refine iter_while (fun y : Int => ∃ a : Nat, y = (a : Int) ∧ a ≤ l.length ∧ ∀ j, j < a → (l.getD j lotD).1 ≠ id) (fun y => (l.length : Int).toNat - y.toNat) (fun r : Int => decide (r < 0) = !hasL l id) ?_ LF _ ⟨0, rfl, by omega, fun j h => by omega⟩ (by show _ < 9223372036854775808; omega)
 rintro y ⟨a, rfl, ha, h1⟩
 by_cases hlt : a < l.length
 ·simp only [decNN hlt, zT, getD_of lotD hlt, zB]
  by_cases he : (l.getD a lotD).1 = id
  ·refine .inr ⟨(a : Int), by simp only [he, decide_true, zT], ?_⟩
   rw [hasL_iff.2 ⟨a, hlt, he⟩, zD (by omega)]; rfl
  ·refine .inl ⟨((a + 1 : Nat) : Int), ?_, ⟨a + 1, rfl, by omega, fun j hj => ?_⟩, by omega⟩
   ·simp only [he, decide_false, zF, upW (show a + 1 < 9223372036854775808 by omega)]
   ·by_cases e : j = a
    ·subst e; exact he
    ·exact h1 j (by omega)
 ·have hal : a = l.length := by omega
  subst hal
  simp only [decNn, zF]
  refine .inr ⟨-1, rfl, ?_⟩
  cases hh : hasL l id with
  | false => rfl
  | true =>
   obtain ⟨j, hj, e⟩ := hasL_iff.1 hh
   exact absurd e (h1 j hj)
end Go.K
namespace Go.K
open Go.Sl Go.Sx Go.Proofs
def massK (h : HeapK) : Int := h.foldl (fun a p => w64 (a + p.2)) 0
def totalK (h : HoldK) : Int := h.foldl (fun a p => w64 (a + massK p)) 0
theorem G38_mass (h : HeapK) (hl : h.length < LF) : G38 LF h = some (massK h) := by
 unfold G38 massK
 refine (iter_foldI (fun i (a : Int) => (a, i)) (fun (p : Int × Int) _ a => w64 (a + p.2)) (fun _ _ => True) h (fun a => some a) 0 ?_ (fun _ _ _ _ _ => trivial) ?_ hl trivial).trans (by rw [foldI_const])
 ·intro i x a hx _
  have hi := gt_of hx
  simp only [decNN hi, zT, getI_nat hx, zB, upW (show i + 1 < 9223372036854775808 from Nat.lt_of_le_of_lt hi hl)]
 ·intro a _
  simp only [decNn]; rfl
theorem G41_total (h : HoldK) (hl : h.length < LF) (hh : ∀ x ∈ h, x.length < LF) : G41 LF h = some (totalK h) := by
 unfold G41 totalK
 refine (iter_foldI (fun i (a : Int) => (a, i)) (fun (p : HeapK) _ a => w64 (a + massK p)) (fun _ _ => True) h (fun a => some a) 0 ?_ (fun _ _ _ _ _ => trivial) ?_ hl trivial).trans (by rw [foldI_const])
 ·intro i x a hx _
  have hi := gt_of hx
  simp only [decNN hi, zT, getI_nat hx, zB, G38_mass x (hh x (List.mem_of_getElem? hx)), upW (show i + 1 < 9223372036854775808 from Nat.lt_of_le_of_lt hi hl)]
 ·intro a _
  simp only [decNn]; rfl
def partD : Int × Int := (0, 0)
def partS (h : HeapK) (p : Int × Int) (i : Nat) (a : Int) : Int ⊕ Bool := bif !inB p.1 1 9999 || (!inB p.2 1 100000000 || (decide (0 < i) && decide ((h.getD (i - 1) partD).1 ≥ p.1))) then .inr false else .inl (w64 (a + p.2))
def heapB (h : HeapK) : Bool := if 40 < h.length then false else match foldS (partS h) h 0 0 with
 | .inl s => decide (s ≤ 100000000)
 | .inr b => b
theorem G37_heap (h : HeapK) : G37 LF h = some (heapB h) := by
 unfold G37 heapB
 by_cases h40 : 40 < h.length
 ·simp only [h40, if_true, zE (show (h.length : Int) > 40 by omega), zT]
 ·simp only [h40, if_false, zD (show ¬ (h.length : Int) > 40 by omega), zF]
  refine (iter_go (fun i (a : Int) => (a, i)) (partS h) (fun _ _ => True) h (fun s => some (decide (s ≤ 100000000))) 0 ?_ (fun _ _ _ _ _ _ _ => trivial) ?_ (by show _ < 9223372036854775808; omega) trivial).trans ?_
  ·intro i x a hx _
   have hi := gt_of hx
   simp only [decNN hi, zT, getI_nat hx, zB, G48_in, upW (show i + 1 < 9223372036854775808 by omega)]
   unfold partS
   cases inB x.1 1 9999 with
   | false => rfl
   | true =>
    cases inB x.2 1 100000000 with
    | false => rfl
    | true =>
     by_cases h0 : 0 < i
     ·simp only [zE (show (i : Int) > 0 by omega), zE h0, zT, dnW (show i < 9223372036854775808 by omega) h0, getD_of partD (show i - 1 < h.length by omega), zB, Bool.not_true, zF, jin, Bool.true_and, Bool.false_or]
      cases decide ((h.getD (i - 1) partD).1 ≥ x.1) <;> rfl
     ·simp only [zD (show ¬ (i : Int) > 0 by omega), zD h0]; rfl
  ·intro a _
   simp only [decNn]; rfl
  ·cases foldS (partS h) h 0 0 <;> rfl
theorem heapB_len {h : HeapK} (hb : heapB h = true) : h.length ≤ 40 := by
 unfold heapB at hb
 by_cases h40 : 40 < h.length
 ·rw [if_pos h40] at hb; cases hb
 ·omega
end Go.K
namespace Go.K
open Go.Sl Go.Sx Go.Proofs
abbrev StockK := List LotK × (HoldK × (HoldK × (HoldK × (HoldK × (HoldK × (HoldK × (HoldK × (HoldK × HoldK))))))))
def holds (s : StockK) : List HoldK := [s.2.1, s.2.2.1, s.2.2.2.1, s.2.2.2.2.1, s.2.2.2.2.2.1, s.2.2.2.2.2.2.1, s.2.2.2.2.2.2.2.1, s.2.2.2.2.2.2.2.2.1, s.2.2.2.2.2.2.2.2.2]
theorem pick9 {ρ : Type} {a1 a2 a3 a4 a5 a6 a7 a8 a9 : HoldK} {i : Nat} {x : HoldK} (h : [a1, a2, a3, a4, a5, a6, a7, a8, a9][i]? = some x) :
  (cond (decide ((i : Int) = (0 : Int))) (some (.inl a1)) (cond (decide ((i : Int) = (1 : Int))) (some (.inl a2)) (cond (decide ((i : Int) = (2 : Int))) (some (.inl a3)) (cond (decide ((i : Int) = (3 : Int))) (some (.inl a4)) (cond (decide ((i : Int) = (4 : Int))) (some (.inl a5)) (cond (decide ((i : Int) = (5 : Int))) (some (.inl a6)) (cond (decide ((i : Int) = (6 : Int))) (some (.inl a7)) (cond (decide ((i : Int) = (7 : Int))) (some (.inl a8)) (cond (decide ((i : Int) = (8 : Int))) (some (.inl a9)) outI)))))))) : Option (HoldK ⊕ ρ)) = some (.inl x) := by
 match i, h with
 | 0, h => cases h; rfl
 | 1, h => cases h; rfl
 | 2, h => cases h; rfl
 | 3, h => cases h; rfl
 | 4, h => cases h; rfl
 | 5, h => cases h; rfl
 | 6, h => cases h; rfl
 | 7, h => cases h; rfl
 | 8, h => cases h; rfl
 | n + 9, h => simp at h
def heapE (lots : List LotK) (h : HeapK) : Option Int := bif !heapB h || decide (h.length = 0) || !(h.all fun p => hasL lots p.1) then some 62 else none
def holdE (lots : List LotK) (h : HoldK) : Option Int := if 4 < h.length then some 62 else match scan (fun x (_ : Nat) => heapE lots x) h 0 with
 | some e => some e
 | none => if totalK h > 100000000 then some 62 else none
def chkE (s : StockK) : Int := if lotsE s.1 ≠ 0 then 62 else (scan (fun h (_ : Nat) => holdE s.1 h) (holds s) 0).getD 0
theorem scan_allB {σ ρ : Type} (p : σ → Bool) (X : ρ) : ∀ (l : List σ) (i : Nat), scan (fun x (_ : Nat) => bif p x then none else some X) l i = bif l.all p then none else some X
 | [], _ => rfl
 | x :: l, i => by
  simp only [scan, List.all_cons]
  cases p x with
  | true => simp only [zT, Bool.true_and]; exact scan_allB p X l (i + 1)
  | false => rfl
theorem parts24 {ρ : Type} (lots : List LotK) (hl : lots.length ≤ 40) (hr : risB lots) (h : HeapK) (hh : h.length < LF) (X Y : ρ) :
  iter LF (fun y : Int => cond (decide (y < (h.length : Int))) (((getI h y)).bind fun r29 => ((G42 LF (lots, r29.1))).bind fun r30 => cond (!r30.2) (some (.inr X)) (some (.inl (w64 (y + (1 : Int)))))) (some (.inr Y))) (0 : Int) = some (bif h.all (fun p => hasL lots p.1) then Y else X) := by
 refine (iter_scan (fun (p : Int × Int) (_ : Nat) => bif hasL lots p.1 then none else some X) h (some Y) ?_ ?_ hh).trans ?_
 ·intro i x hx _
  have hi := gt_of hx
  obtain ⟨r, e, e2⟩ := G42_has (id := x.1) hl hr
  simp only [decNN hi, zT, getI_nat hx, zB, e, e2, upW (show i + 1 < 9223372036854775808 from Nat.lt_of_le_of_lt hi hh)]
  cases hasL lots x.1 <;> rfl
 ·intro _
  simp only [decNn, zF]; rfl
 ·rw [scan_allB]
  cases h.all (fun p => hasL lots p.1) <;> rfl
theorem hold24 {ρ : Type} (lots : List LotK) (hl : lots.length ≤ 40) (hr : risB lots) (h : HoldK) (h4 : h.length ≤ 4) (X Y : ρ) (Z : Option ρ) (hZ : (∀ x ∈ h, heapB x = true) → Z = some Y) :
  iter LF (fun y24 : Int => cond (decide (y24 < (h.length : Int))) (((getI h y24)).bind fun r25 => jn (((G37 LF r25)).bind fun r26 => cond (!r26) (some (.inl true)) (some (.inl (decide ((r25.length : Int) = (0 : Int)))))) (fun y27 : Bool => cond y27 (some (.inr X)) (iter LF (fun y28 : Int => cond (decide (y28 < (r25.length : Int))) (((getI r25 y28)).bind fun r29 => ((G42 LF (lots, r29.1))).bind fun r30 => cond (!r30.2) (some (.inr (.inr X))) (some (.inl (w64 (y28 + (1 : Int)))))) (some (.inr (.inl (w64 (y24 + (1 : Int))))))) (0 : Int)))) (outR Z)) (0 : Int)
   = some (match scan (fun x (_ : Nat) => heapE lots x) h 0 with | some _ => X | none => Y) := by
 refine (iter_scan (fun (x : HeapK) (_ : Nat) => (heapE lots x).map fun _ => X) h Z ?_ ?_ (by show _ < 9223372036854775808; omega)).trans ?_
 ·intro i x hx _
  have hi := gt_of hx
  simp only [decNN hi, zT, getI_nat hx, zB, G37_heap]
  unfold heapE
  cases hb : heapB x with
  | false => rfl
  | true =>
   have hxl := heapB_len hb
   simp only [Bool.not_true, zF, jin, Bool.false_or, parts24 lots hl hr x (by show _ < 9223372036854775808; omega), upW (show i + 1 < 9223372036854775808 by omega)]
   by_cases h0 : x.length = 0
   ·simp only [h0]; rfl
   ·simp only [zD (show ¬ (x.length : Int) = 0 by omega), zD h0]
    cases x.all (fun p => hasL lots p.1) <;> rfl
 ·intro _
  simp only [decNn, zF]
 ·have key : ∀ (l : List HeapK) (i : Nat), scan (fun (x : HeapK) (_ : Nat) => (heapE lots x).map fun _ => X) l i = (scan (fun x (_ : Nat) => heapE lots x) l i).map fun _ => X := by
   intro l
   induction l with
   | nil => intro i; rfl
   | cons x l ih =>
    intro i
    simp only [scan]
    cases heapE lots x with
    | none => exact ih _
    | some e => rfl
  rw [key]
  cases hs : scan (fun x (_ : Nat) => heapE lots x) h 0 with
  | some e => rfl
  | none =>
   simp only [Option.map_none]
   refine hZ ?_
   have all : ∀ (l : List HeapK) (i : Nat), scan (fun x (_ : Nat) => heapE lots x) l i = none → ∀ x ∈ l, heapB x = true := by
    intro l
    induction l with
    | nil => intro i _ x hx; cases hx
    | cons y l ih =>
     intro i hn x hx
     simp only [scan] at hn
     cases hy : heapE lots y with
     | some e => rw [hy] at hn; cases hn
     | none =>
      rw [hy] at hn
      rcases List.mem_cons.1 hx with rfl | hx
      ·unfold heapE at hy
       cases hb : heapB x with
       | true => rfl
       | false => rw [hb] at hy; cases hy
      ·exact ih _ hn x hx
   exact all h 0 hs
end Go.K
namespace Go.K
open Go.Sl Go.Sx Go.Proofs
theorem heapE_62 (lots : List LotK) : ∀ (l : List HeapK) (i : Nat) (e : Int), scan (fun x (_ : Nat) => heapE lots x) l i = some e → e = 62 := by
 intro l
 induction l with
 | nil => intro i e h; cases h
 | cons x l ih =>
  intro i e h
  simp only [scan] at h
  cases hg : heapE lots x with
  | none => rw [hg] at h; exact ih _ _ h
  | some u =>
   rw [hg] at h
   cases h
   unfold heapE at hg
   revert hg
   cases (!heapB x || decide (x.length = 0) || !(x.all fun p => hasL lots p.1)) <;> intro hg
   ·cases hg
   ·cases hg; rfl
theorem tail24 (x : HoldK) (h4 : x.length ≤ 4) (i : Nat) (hi : i < 9) (h : ∀ y ∈ x, heapB y = true) :
  (((G41 LF x)).bind fun r31 => cond (decide (r31 > (100000000 : Int))) (some (.inr (62 : Int))) (some (.inl (w64 ((i : Int) + (1 : Int)))))) = some (if totalK x > 100000000 then (.inr 62 : Int ⊕ Int) else .inl ((i + 1 : Nat) : Int)) := by
 rw [G41_total x (by show _ < 9223372036854775808; omega) (fun y hy => by have := heapB_len (h y hy); show _ < 9223372036854775808; omega)]
 simp only [zB, upW (show i + 1 < 9223372036854775808 by omega)]
 by_cases c : totalK x > 100000000
 ·simp only [c, decide_true, zT, if_true]
 ·simp only [c, decide_false, zF, if_false]
theorem G24_chk (s : StockK) : G24 LF s = some (chkE s) := by
 unfold G24 chkE
 simp only [G52_lots, zB]
 by_cases h0 : lotsE s.1 = 0
 ·obtain ⟨hl, hr, _⟩ := lots_ris h0
  simp only [h0, decide_true, Bool.not_true, zF, ne_eq, not_true_eq_false, if_false]
  refine (iter_scan (fun h (_ : Nat) => holdE s.1 h) (holds s) (some 0) ?_ ?_ (by show 9 < 9223372036854775808; omega)).trans ?_
  ·intro i x hx _
   have hi : i < 9 := gt_of hx
   simp only [zE (show (i : Int) < 9 by omega), zT]
   rw [pick9 hx]
   simp only [jin]
   unfold holdE
   by_cases h4 : 4 < x.length
   ·simp only [h4, if_true, zE (show (x.length : Int) > 4 by omega), zT]
   ·simp only [h4, if_false, zD (show ¬ (x.length : Int) > 4 by omega), zF]
    rw [hold24 s.1 hl hr x (by omega) (.inr 62) (if totalK x > 100000000 then (.inr 62 : Int ⊕ Int) else .inl ((i + 1 : Nat) : Int)) _ (fun h => tail24 x (by omega) i hi h)]
    cases hs : scan (fun x (_ : Nat) => heapE s.1 x) x 0 with
    | some e => have := heapE_62 s.1 x 0 e hs; subst this; rfl
    | none =>
     simp only
     by_cases c : totalK x > 100000000
     ·simp only [c, if_true]
     ·simp only [c, if_false]
  ·intro _
   have e9 : ((holds s).length : Int) = 9 := rfl
   simp only [e9]
   rfl
  ·cases scan (fun h (_ : Nat) => holdE s.1 h) (holds s) 0 <;> rfl
 ·simp only [h0, decide_false, Bool.not_false, zT, ne_eq, not_false_eq_true, if_true]
end Go.K
namespace Go.K
open Go.Sl Go.Sx Go.Proofs
theorem parts29 {ρ : Type} (lots : List LotK) (hl : lots.length ≤ 40) (hs : HoldK) (k : Nat) (h : HeapK) (hk : hs[k]? = some h) (hh : h.length < LF) (X Y : ρ) :
  iter LF (fun y32 : Int => ((getI hs (k : Int))).bind fun r33 => cond (decide (y32 < (r33.length : Int))) (((getI hs (k : Int))).bind fun r34 => ((getI r34 y32)).bind fun r35 => ((G57 LF (lots, r35.1))).bind fun r36 => cond (decide (r36 < (0 : Int))) (some (.inr X)) (some (.inl (w64 (y32 + (1 : Int)))))) (some (.inr Y))) (0 : Int) = some (bif h.all (fun p => hasL lots p.1) then Y else X) := by
 simp only [getI_nat hk, zB]
 refine (iter_scan (fun (p : Int × Int) (_ : Nat) => bif hasL lots p.1 then none else some X) h (some Y) ?_ ?_ hh).trans ?_
 ·intro i x hx _
  have hi := gt_of hx
  obtain ⟨r, e, e2⟩ := G57_has (id := x.1) hl
  simp only [decNN hi, zT, getI_nat hx, zB, e, e2, upW (show i + 1 < 9223372036854775808 from Nat.lt_of_le_of_lt hi hh)]
  cases hasL lots x.1 <;> rfl
 ·intro _
  simp only [decNn, zF]; rfl
 ·rw [scan_allB]
  cases h.all (fun p => hasL lots p.1) <;> rfl
theorem hold29 {ρ : Type} (lots : List LotK) (hl : lots.length ≤ 40) (h : HoldK) (h4 : h.length ≤ 4) (X Y : ρ) (Z : Option ρ) (hZ : (∀ x ∈ h, heapB x = true) → Z = some Y) :
  iter LF (fun y27 : Int => cond (decide (y27 < (h.length : Int))) (jn (((getI h y27)).bind fun r28 => ((G56 LF r28)).bind fun r29 => cond (!r29) (some (.inl true)) (((getI h y27)).bind fun r30 => some (.inl (decide ((r30.length : Int) = (0 : Int)))))) (fun y31 : Bool => cond y31 (some (.inr X)) (iter LF (fun y32 : Int => ((getI h y27)).bind fun r33 => cond (decide (y32 < (r33.length : Int))) (((getI h y27)).bind fun r34 => ((getI r34 y32)).bind fun r35 => ((G57 LF (lots, r35.1))).bind fun r36 => cond (decide (r36 < (0 : Int))) (some (.inr (.inr X))) (some (.inl (w64 (y32 + (1 : Int)))))) (some (.inr (.inl (w64 (y27 + (1 : Int))))))) (0 : Int)))) (outR Z)) (0 : Int)
   = some (match scan (fun x (_ : Nat) => heapE lots x) h 0 with | some _ => X | none => Y) := by
 refine (iter_scan (fun (x : HeapK) (_ : Nat) => (heapE lots x).map fun _ => X) h Z ?_ ?_ (by show _ < 9223372036854775808; omega)).trans ?_
 ·intro i x hx _
  have hi := gt_of hx
  simp only [decNN hi, zT, same_heap]
  by_cases hb : heapB x = true
  ·have hxl := heapB_len hb
   have hp := parts29 (ρ := Int ⊕ ρ) lots hl h i x hx (by show _ < 9223372036854775808; omega) (.inr X) (.inl (w64 ((i : Int) + 1)))
   simp only [hp]
   simp only [getI_nat hx, zB, G37_heap, hb, Bool.not_true, zF, jin, upW (show i + 1 < 9223372036854775808 by omega)]
   unfold heapE
   simp only [hb, Bool.not_true, Bool.false_or]
   by_cases h0 : x.length = 0
   ·simp only [h0]; rfl
   ·simp only [zD (show ¬ (x.length : Int) = 0 by omega), zD h0]
    cases x.all (fun p => hasL lots p.1) <;> rfl
  ·have hb' : heapB x = false := by simpa using hb
   simp only [getI_nat hx, zB, G37_heap, hb', Bool.not_false, zT, jin]
   unfold heapE
   simp only [hb']; rfl
 ·intro _
  simp only [decNn, zF]
 ·have key : ∀ (l : List HeapK) (i : Nat), scan (fun (x : HeapK) (_ : Nat) => (heapE lots x).map fun _ => X) l i = (scan (fun x (_ : Nat) => heapE lots x) l i).map fun _ => X := by
   intro l
   induction l with
   | nil => intro i; rfl
   | cons x l ih =>
    intro i
    simp only [scan]
    cases heapE lots x with
    | none => exact ih _
    | some e => rfl
  rw [key]
  cases hs : scan (fun x (_ : Nat) => heapE lots x) h 0 with
  | some e => rfl
  | none =>
   simp only [Option.map_none]
   refine hZ ?_
   have all : ∀ (l : List HeapK) (i : Nat), scan (fun x (_ : Nat) => heapE lots x) l i = none → ∀ x ∈ l, heapB x = true := by
    intro l
    induction l with
    | nil => intro i _ x hx; cases hx
    | cons y l ih =>
     intro i hn x hx
     simp only [scan] at hn
     cases hy : heapE lots y with
     | some e => rw [hy] at hn; cases hn
     | none =>
      rw [hy] at hn
      rcases List.mem_cons.1 hx with rfl | hx
      ·unfold heapE at hy
       cases hb : heapB x with
       | true => rfl
       | false => rw [hb] at hy; cases hy
      ·exact ih _ hn x hx
   exact all h 0 hs
theorem G29_chk (s : StockK) : G29 LF s = some (chkE s) := by
 unfold G29 chkE
 simp only [G55_lots, zB]
 by_cases h0 : lotsE s.1 = 0
 ·obtain ⟨hl, hr, _⟩ := lots_ris h0
  simp only [h0, decide_true, Bool.not_true, zF, ne_eq, not_true_eq_false, if_false]
  refine (iter_scan (fun h (_ : Nat) => holdE s.1 h) (holds s) (some 0) ?_ ?_ (by show 9 < 9223372036854775808; omega)).trans ?_
  ·intro i x hx _
   have hi : i < 9 := gt_of hx
   simp only [zE (show (i : Int) < 9 by omega), zT, same_total]
   rw [pick9 hx]
   simp only [jin]
   unfold holdE
   by_cases h4 : 4 < x.length
   ·simp only [h4, if_true, zE (show (x.length : Int) > 4 by omega), zT]
   ·simp only [h4, if_false, zD (show ¬ (x.length : Int) > 4 by omega), zF]
    rw [hold29 s.1 hl x (by omega) (.inr 62) (if totalK x > 100000000 then (.inr 62 : Int ⊕ Int) else .inl ((i + 1 : Nat) : Int)) _ (fun h => tail24 x (by omega) i hi h)]
    cases hs : scan (fun x (_ : Nat) => heapE s.1 x) x 0 with
    | some e => have := heapE_62 s.1 x 0 e hs; subst this; rfl
    | none =>
     simp only
     by_cases c : totalK x > 100000000
     ·simp only [c, if_true]
     ·simp only [c, if_false]
  ·intro _
   have e9 : ((holds s).length : Int) = 9 := rfl
   simp only [e9]
   rfl
  ·cases scan (fun h (_ : Nat) => holdE s.1 h) (holds s) 0 <;> rfl
 ·simp only [h0, decide_false, Bool.not_false, zT, ne_eq, not_false_eq_true, if_true]
end Go.K
namespace Go.K
open Go.Sl Go.Sx Go.Proofs
theorem G53_num (d : List UInt8) : G53 LF (ofL d, (9 : Int)) = some (if okD 9 d then valD d else -1) := by
 unfold G53
 simp only [ofL_size]
 by_cases h1 : d.length = 0
 ·have e : decide ((d.length : Int) = 0) = true := zE (by omega)
  have o : okD 9 d = false := by unfold okD; rw [zD (by omega)]; rfl
  simp only [e, zT, jn, o, Bool.false_eq_true, if_false]
 ·have e : decide ((d.length : Int) = 0) = false := zD (by omega)
  simp only [e, zF]
  by_cases h2 : d.length > 9
  ·have e : decide ((d.length : Int) > (9 : Int)) = true := zE (by omega)
   have o : okD 9 d = false := by unfold okD; rw [zD (by omega)]; rfl
   simp only [e, zT, jn, o, Bool.false_eq_true, if_false]
  ·have e : decide ((d.length : Int) > (9 : Int)) = false := zD (by omega)
   simp only [e, zF]
   obtain ⟨c, r, rfl⟩ := List.exists_cons_of_ne_nil (show d ≠ [] by intro hd; rw [hd] at h1; simp at h1)
   simp only [byteAt_0, zB]
   have e3 : (cond (decide (((c :: r).length : Int) > 1)) (some (Sum.inl (decide ((((c.toNat : Nat) : Int)) = 48)))) (some (Sum.inl false)) : Option (Bool ⊕ Int)) = some (.inl (decide (1 < (c :: r).length ∧ c = 48))) := by
    by_cases h3 : 1 < (c :: r).length
    ·have e : decide (((c :: r).length : Int) > 1) = true := zE (by omega)
     simp only [e, zT, h3, true_and, b48]
    ·have e : decide (((c :: r).length : Int) > 1) = false := zD (by omega)
     simp only [e, zF, h3, false_and, decide_false]
   rw [e3]
   simp only [jn]
   by_cases h4 : 1 < (c :: r).length ∧ c = 48
   ·have o : okD 9 (c :: r) = false := by unfold okD; rw [zD (fun k => k.2.2 ⟨h4.1, by simp [h4.2]⟩)]; rfl
    rw [o, zE h4]
    rfl
   ·have o : okD 9 (c :: r) = (c :: r).all isD := by unfold okD; rw [zE ⟨by omega, by omega, fun k => h4 ⟨k.1, by simpa using k.2⟩⟩, Bool.true_and]
    rw [o]
    simp only [h4, decide_false, zF]
    refine Eq.trans (iter_all (fun (i : Int) (a : Int) => (a, i)) (stepD (-1 : Int)) (fun i a => 0 ≤ a ∧ a < 10 ^ i) (c :: r) (fun a => a) 0 LF ?h1 ?hg ?h2 (by show _ < 9223372036854775808; omega) ⟨by omega, by simp⟩) ?_
    case h1 =>
     intro i x a hx hgd
     have hi := (List.getElem?_eq_some_iff.1 hx).1
     have hi' : decide ((i : Int) < ((c :: r).length : Int)) = true := zE (by omega)
     have hp : (10 : Int) ^ i ≤ 10 ^ 15 := by
      have := Nat.pow_le_pow_right (show 0 < 10 by decide) (show i ≤ 15 by omega)
      exact_mod_cast this
     have h15 : (10 : Int) ^ 15 = 1000000000000000 := by decide
     simp only [hi', zT, byteAt_ofL hx, zB, stepD]
     by_cases c1 : (((x.toNat : Nat) : Int)) < 48
     ·have : isD x = false := by unfold isD; rw [zD (by omega)]
      simp [c1, jn, this]
     ·by_cases c2 : (((x.toNat : Nat) : Int)) > 57
      ·have : isD x = false := by unfold isD; rw [zD (by omega)]
       simp [c1, c2, jn, this]
      ·have : isD x = true := by unfold isD; rw [zE (by omega)]
       simp only [c1, c2, decide_false, zF, jn, this, if_true]
       rw [wrap8 (by omega), w64_id (n := a * 10) (by omega) (by omega), w64_id (n := ((x.toNat : Nat) : Int) - 48) (by omega) (by omega), w64_id (n := a * 10 + (((x.toNat : Nat) : Int) - 48)) (by omega) (by omega), Int.mul_comm a 10, upW (show i + 1 < 9223372036854775808 by omega)]
    case hg =>
     intro i x a a' hx hgd hst
     unfold stepD at hst
     split at hst
     ·rename_i hD
      cases hst
      have := isD_iff.1 hD
      have hp : (10 : Int) ^ (i + 1) = 10 ^ i * 10 := Int.pow_succ ..
      omega
     ·cases hst
    case h2 =>
     intro a _
     simp only [Int.lt_irrefl, decide_false, zF]
    ·rw [stepD_fold]
     cases hD : (c :: r).all isD with
     | false => rfl
     | true => rfl
end Go.K
namespace Go.K
open Go.Sl Go.Sx Go.Proofs
def okW (w : ByteArray) : Bool := okD 9 w.data.toList
def valW (w : ByteArray) : Int := valD w.data.toList
theorem okW_all {w : ByteArray} (h : okW w = true) : w.data.toList.all isD = true := by
 unfold okW okD at h
 rw [za] at h
 exact h.2
theorem valW_pos {w : ByteArray} (h : okW w = true) : 0 ≤ valW w := (valF_bound w.data.toList 0 0 (okW_all h) (by omega) (by simp)).1
theorem G53_w (w : ByteArray) : G53 LF (w, (9 : Int)) = some (if okW w then valW w else -1) := by
 have := G53_num w.data.toList
 rwa [ofL_back] at this
def numS {ρ : Type} (bad : ρ) (w : ByteArray) (_ : Nat) (a : List Int) : List Int ⊕ ρ := bif okW w then .inl (a ++ [valW w]) else .inr bad
theorem numS_fold {ρ : Type} (bad : ρ) : ∀ (l : List ByteArray) (i : Nat) (a : List Int), foldS (numS bad) l i a = bif l.all okW then .inl (a ++ l.map valW) else .inr bad
 | [], i, a => by simp [foldS]
 | w :: l, i, a => by
  simp only [foldS, numS, List.all_cons]
  cases h : okW w with
  | true =>
   simp only [zT, Bool.true_and]
   rw [numS_fold bad l (i + 1)]
   simp
  | false => rfl
theorem G27_nums (ws : List ByteArray) (hl : ws.length ≤ 1000000) : G27 LF ws = some (bif ws.all okW then (ws.map valW, true) else ([], false)) := by
 unfold G27
 refine (iter_go (fun i (a : List Int) => (a, i)) (numS ([], false)) (fun i a => a.length = i) ws (fun a => some (a, true)) [] ?_ ?_ ?_ (by show _ < 9223372036854775808; omega) rfl).trans ?_
 ·intro i w a hx ha
  have hi := gt_of hx
  simp only [decNN hi, zT, getI_nat hx, zB, G53_w]
  unfold numS
  cases h : okW w with
  | true =>
   have := valW_pos h
   simp only [if_true, zD (show ¬ valW w < 0 by omega), zF, zT, appC_of (show a.length + [valW w].length ≤ 1099511627776 by simp; omega), zB, upW (show i + 1 < 9223372036854775808 by omega)]
  | false => rfl
 ·intro i w a a' hx ha hs
  unfold numS at hs
  revert hs
  cases okW w <;> intro hs
  ·cases hs
  ·cases hs; simp [ha]
 ·intro a _
  simp only [decNn]; rfl
 ·rw [numS_fold]
  cases ws.all okW <;> simp
end Go.K
namespace Go.K
open Go.Sl Go.Sx Go.Proofs
theorem ofL_data2 (l : List UInt8) : (ofL l).data.toList = l := ofL_data l
def linesB (s : ByteArray) : List ByteArray := (lns s.data.toList).map ofL
theorem linesB_len (s : ByteArray) : (linesB s).length ≤ s.size + 1 := by
 unfold linesB lns
 rw [List.length_map, size_len]
 exact Nat.le_trans (trimE_len _) (sp_len _)
theorem sp_mem : ∀ (l x : List UInt8), x ∈ sp l → x.length ≤ l.length
 | [], x, h => by
  rcases List.mem_singleton.1 h with rfl
  exact Nat.le_refl _
 | b :: r, x, h => by
  have ih := sp_mem r
  unfold sp at h
  split at h
  ·rcases List.mem_cons.1 h with rfl | h
   ·exact Nat.zero_le _
   ·have := ih x h
    rw [zC]; omega
  ·split at h
   ·rename_i y ys hy
    rcases List.mem_cons.1 h with rfl | h
    ·have := ih y (by rw [hy]; exact List.mem_cons_self ..)
     simp only [zC]; omega
    ·have := ih x (by rw [hy]; exact List.mem_cons_of_mem _ h)
     rw [zC]; omega
   ·rcases List.mem_singleton.1 h with rfl
    simp only [zC, zL]; omega
theorem linesB_size {s x : ByteArray} (h : x ∈ linesB s) : x.size ≤ s.size := by
 unfold linesB lns at h
 obtain ⟨l, hl, rfl⟩ := List.mem_map.1 h
 have hm : l ∈ sp s.data.toList := by
  unfold trimE at hl
  split at hl
  ·exact (List.dropLast_sublist _).subset hl
  ·exact hl
 rw [ofL_size, size_len]
 exact sp_mem _ _ hm
theorem seg_succ {l : List UInt8} {a i : Nat} (h1 : a ≤ i) (h2 : i < l.length) : (l.drop a).take (i + 1 - a) = (l.drop a).take (i - a) ++ [l[i]] := by
 rw [show i + 1 - a = (i - a) + 1 by omega, List.take_add_one, List.getElem?_drop, show a + (i - a) = i by omega, List.getElem?_eq_getElem h2]; rfl
theorem G25_loop (l : List UInt8) (hl : l.length ≤ 100000) : ∀ (k i a : Nat) (out : List ByteArray) (f : Nat), i + k = l.length → k < f → a ≤ i → out.length ≤ i →
  iter f (fun y9 : ((List ByteArray) × (Int × Int)) => cond (decide (y9.2.2 < ((ofL l).size : Int))) (((byteAt (ofL l) y9.2.2)).bind fun r10 => cond (decide (r10 = (10 : Int))) (((cutC (ofL l) y9.2.1 y9.2.2)).bind fun r11 => ((appC y9.1 [(ByteArray.extract (ofL l) (Int.toNat y9.2.1) (Int.toNat y9.2.2))])).bind fun r12 => some (.inl (r12, ((w64 (y9.2.2 + (1 : Int))), (w64 (y9.2.2 + (1 : Int))))))) (some (.inl (y9.1, (y9.2.1, (w64 (y9.2.2 + (1 : Int)))))))) (outR (cond (decide (y9.2.1 < ((ofL l).size : Int))) (((cutC (ofL l) y9.2.1 ((ofL l).size : Int))).bind fun r13 => ((appC y9.1 [(ByteArray.extract (ofL l) (Int.toNat y9.2.1) (Int.toNat ((ofL l).size : Int)))])).bind fun r14 => some r14) (some y9.1)))) (out, ((a : Int), (i : Int)))
   = some (out ++ (trimE (spc ((l.drop a).take (i - a)) (l.drop i))).map ofL)
 | 0, i, a, out, f + 1, hk, hf, ha, ho => by
  have hi : i = l.length := by omega
  subst hi
  have e1 : decide ((l.length : Int) < (l.length : Int)) = false := zD (by omega)
  simp only [iter, ofL_size, e1, zF, List.drop_length, spc_end]
  by_cases h : a < l.length
  ·have e2 : decide ((a : Int) < (l.length : Int)) = true := zE (by omega)
   have c1 : cutC (ofL l) (a : Int) (l.length : Int) = some () := cutC_of (by rw [ofL_size]; omega)
   have hne : (l.drop a).take (l.length - a) ≠ [] := by
    intro e
    have := congrArg List.length e
    rw [List.length_take, List.length_drop, zL] at this; omega
   have ht : trimE [(l.drop a).take (l.length - a)] = [(l.drop a).take (l.length - a)] := by
    unfold trimE
    rw [if_neg]
    intro e
    simp only [List.getLast?_singleton, zI] at e
    exact hne e
   simp only [e2, zT, c1, zB, Int.toNat_natCast, ext_extract, ofL_data2, ht, List.map_cons, List.map_nil]
   rw [appC_of (by rw [List.length_singleton]; omega)]; rfl
  ·have e2 : decide ((a : Int) < (l.length : Int)) = false := zD (by omega)
   have ea : a = l.length := by omega
   subst ea
   simp only [e2, zF, List.drop_length, List.take_nil]
   show some out = some (out ++ [])
   rw [List.append_nil]
 | k + 1, i, a, out, f + 1, hk, hf, ha, ho => by
  have hlt : i < l.length := by omega
  have hx : l[i]? = some l[i] := List.getElem?_eq_getElem hlt
  have e1 : decide ((i : Int) < (l.length : Int)) = true := zE (by omega)
  have hd : l.drop i = l[i] :: l.drop (i + 1) := List.drop_eq_getElem_cons hlt
  have b10 : (((l[i].toNat : Nat) : Int) = (10 : Int)) ↔ l[i] = 10 := nat_eq (n := 10) (by omega)
  have c1 : cutC (ofL l) (a : Int) (i : Int) = some () := cutC_of (by rw [ofL_size]; omega)
  simp only [iter, ofL_size, e1, zT, byteAt_ofL hx, zB, b10, succ_w (show i < 4000000000 by omega)]
  rw [hd]
  by_cases h : l[i] = 10
  ·simp only [h, decide_true, zT, c1, zB, Int.toNat_natCast, ext_extract, ofL_data2]
   rw [appC_of (by rw [List.length_singleton]; omega)]
   have ih := G25_loop l hl k (i + 1) (i + 1) (out ++ [ofL ((l.drop a).take (i - a))]) f (by omega) (by omega) (by omega) (by rw [List.length_append, List.length_singleton]; omega)
   simp only [ofL_size, ext_extract, ofL_data2] at ih
   simp only [zB]
   refine Eq.trans ih ?_
   rw [Nat.sub_self, List.take_zero, spc_nil, spc_10, trimE_cons _ (sp_ne _)]
   simp only [List.map_cons, List.append_assoc, List.singleton_append]
  ·simp only [h, decide_false, zF]
   have ih := G25_loop l hl k (i + 1) a out f (by omega) (by omega) (by omega) (by omega)
   simp only [ofL_size, ext_extract, ofL_data2] at ih
   simp only [ext_extract, ofL_data2]
   refine Eq.trans ih ?_
   rw [seg_succ ha hlt, spc_ne _ h]
 | 0, _, _, _, 0, _, hf, _, _ => by omega
 | _ + 1, _, _, _, 0, _, hf, _, _ => by omega
theorem G25_lines {s : ByteArray} (hs : s.size ≤ 100000) : G25 LF s = some (linesB s) := by
 have e := G25_loop s.data.toList (by rw [← size_len]; exact hs) s.data.toList.length 0 0 [] LF (by omega) (by show s.data.toList.length < 9223372036854775808; rw [← size_len]; omega) (by omega) (by simp)
 rw [ofL_back] at e
 unfold G25 linesB lns
 refine Eq.trans e ?_
 rw [Nat.sub_self, List.take_zero, List.drop_zero, spc_nil, List.nil_append]
end Go.K
namespace Go.K
open Go.Sl Go.Sx Go.Proofs
def no32 (b : UInt8) : Bool := !decide (b = 32)
theorem b32 {b : UInt8} : (((b.toNat : Nat) : Int) = (32 : Int)) ↔ b = 32 := nat_eq (n := 32) (by omega)
theorem end_loop {ρ : Type} (l : List UInt8) (hl : l.length ≤ 100000) : ∀ (k j f : Nat), j + k = l.length → k < f →
  iter f (fun y11 : Int => cond (decide (y11 < ((ofL l).size : Int))) (((byteAt (ofL l) y11)).bind fun r12 => cond (!(decide (r12 = (32 : Int)))) (some (.inl (w64 (y11 + (1 : Int))))) (some (.inr (.inl y11)))) (some (.inr (.inl y11)))) ((j : Nat) : Int)
   = some (.inl ((j + ((l.drop j).takeWhile no32).length : Nat) : Int) : Int ⊕ ρ)
 | 0, j, f + 1, hk, hf => by
  have hj : j = l.length := by omega
  subst hj
  simp only [iter, ofL_size, decNn, zF, List.drop_length, List.takeWhile_nil, zL, Nat.add_zero]
 | k + 1, j, f + 1, hk, hf => by
  have hlt : j < l.length := by omega
  have hx : l[j]? = some l[j] := List.getElem?_eq_getElem hlt
  have hd : l.drop j = l[j] :: l.drop (j + 1) := List.drop_eq_getElem_cons hlt
  simp only [iter, ofL_size, decNN hlt, zT, byteAt_ofL hx, zB, b32, upW (show j + 1 < 9223372036854775808 by omega)]
  rw [hd, List.takeWhile_cons]
  by_cases h : l[j] = 32
  ·have hn : no32 l[j] = false := by simp [no32, h]
   simp only [h, decide_true, Bool.not_true, zF]
   rw [h] at hn
   simp only [hn, Bool.false_eq_true, if_false, zL, Nat.add_zero]
  ·have hn : no32 l[j] = true := by simp [no32, h]
   simp only [h, decide_false, Bool.not_false, zT, hn, if_true, zC]
   have ih := end_loop (ρ := ρ) l hl k (j + 1) f (by omega) (by omega)
   simp only [ofL_size, b32] at ih
   refine Eq.trans ih ?_
   congr 3
   omega
 | 0, _, 0, _, hf => by omega
 | _ + 1, _, 0, _, hf => by omega
theorem wd_cut (u r : List UInt8) (hu : u ≠ []) (h : ∀ b ∈ u, b ≠ 32) (hr : r = [] ∨ ∃ r', r = 32 :: r') : wd [] (u ++ r) = u :: wd [] r := by
 rcases hr with rfl | ⟨r', rfl⟩
 ·rw [List.append_nil, wd_one u hu h]; rfl
 ·rw [wd_sp u r' hu h]; simp [wd]
theorem tw_rest : ∀ (m : List UInt8), m.drop (m.takeWhile no32).length = [] ∨ ∃ r', m.drop (m.takeWhile no32).length = 32 :: r'
 | [] => .inl rfl
 | b :: m => by
  rw [List.takeWhile_cons]
  by_cases h : b = 32
  ·subst h
   exact .inr ⟨m, rfl⟩
  ·have hn : no32 b = true := by simp [no32, h]
   simp only [hn, if_true, zC, List.drop_succ_cons]
   exact tw_rest m
theorem tw_app (m : List UInt8) : m = m.takeWhile no32 ++ m.drop (m.takeWhile no32).length := by
 induction m with
 | nil => rfl
 | cons b m ih =>
  rw [List.takeWhile_cons]
  cases h : no32 b with
  | false => rfl
  | true =>
   simp only [if_true, zC, List.drop_succ_cons, List.cons_append]
   rw [← ih]
theorem tw_mem : ∀ (m : List UInt8) (b : UInt8), b ∈ m.takeWhile no32 → no32 b = true
 | [], b, h => by cases h
 | x :: m, b, h => by
  rw [List.takeWhile_cons] at h
  cases hx : no32 x with
  | false => rw [hx] at h; cases h
  | true =>
   rw [hx] at h
   rcases List.mem_cons.1 h with rfl | h
   ·exact hx
   ·exact tw_mem m b h
theorem words_loop (l : List UInt8) (hl : l.length ≤ 100000) : ∀ (k i : Nat) (out : List ByteArray) (f : Nat), i + k = l.length → k < f → out.length ≤ i →
  iter f (fun y9 : (Int × (List ByteArray)) => cond (decide (y9.1 < ((ofL l).size : Int))) (((byteAt (ofL l) y9.1)).bind fun r10 => cond (decide (r10 = (32 : Int))) (some (.inl ((w64 (y9.1 + (1 : Int))), y9.2))) (jn (iter LF (fun y11 : Int => cond (decide (y11 < ((ofL l).size : Int))) (((byteAt (ofL l) y11)).bind fun r12 => cond (!(decide (r12 = (32 : Int)))) (some (.inl (w64 (y11 + (1 : Int))))) (some (.inr (.inl y11)))) (some (.inr (.inl y11)))) y9.1) (fun y13 : Int => ((cutC (ofL l) y9.1 y13)).bind fun r14 => ((appC y9.2 [(ByteArray.extract (ofL l) (Int.toNat y9.1) (Int.toNat y13))])).bind fun r15 => some (.inl (y13, r15))))) (some (.inr y9.2))) (((i : Nat) : Int), out)
   = some (out ++ (wd [] (l.drop i)).map ofL) := by
 intro k
 induction k using Nat.strongRecOn with
 | _ k ih =>
  intro i out f hk hf ho
  obtain ⟨f, rfl⟩ : ∃ g, f = g + 1 := ⟨f - 1, by omega⟩
  by_cases h0 : k = 0
  ·subst h0
   have hi : i = l.length := by omega
   subst hi
   simp only [iter, ofL_size, decNn, zF, List.drop_length]
   simp [wd]
  ·have hlt : i < l.length := by omega
   have hx : l[i]? = some l[i] := List.getElem?_eq_getElem hlt
   have hd : l.drop i = l[i] :: l.drop (i + 1) := List.drop_eq_getElem_cons hlt
   rw [iter]
   simp only [ofL_size, decNN hlt, zT, byteAt_ofL hx, zB, b32]
   by_cases h : l[i] = 32
   ·simp only [h, decide_true, zT, upW (show i + 1 < 9223372036854775808 by omega)]
    have ih' := ih (k - 1) (by omega) (i + 1) out f (by omega) (by omega) (by omega)
    simp only [ofL_size, b32] at ih'
    refine Eq.trans ih' ?_
    rw [hd, h]
    simp [wd]
   ·simp only [h, decide_false, zF]
    have he := end_loop (ρ := (Int × List ByteArray) ⊕ List ByteArray) l hl k i LF hk (by show k < 9223372036854775808; omega)
    simp only [ofL_size, b32] at he
    rw [he]
    simp only [jin]
    have hn : no32 l[i] = true := by simp [no32, h]
    generalize hu : (l.drop i).takeWhile no32 = u
    have hu1 : 1 ≤ u.length := by rw [← hu, hd, List.takeWhile_cons, hn]; simp
    have happ : l.drop i = u ++ l.drop (i + u.length) := by
     have := tw_app (l.drop i)
     rw [hu, List.drop_drop] at this
     exact this
    have hul : i + u.length ≤ l.length := by
     have := congrArg List.length happ
     rw [List.length_drop, List.length_append, List.length_drop] at this
     omega
    have hrest : l.drop (i + u.length) = [] ∨ ∃ r', l.drop (i + u.length) = 32 :: r' := by
     have := tw_rest (l.drop i)
     rw [hu, List.drop_drop] at this
     exact this
    have hmem : ∀ b ∈ u, b ≠ 32 := by
     intro b hb
     rw [← hu] at hb
     have := tw_mem _ _ hb
     simpa [no32] using this
    have hcut : cutC (ofL l) (i : Int) ((i + u.length : Nat) : Int) = some () := cutC_of (by rw [ofL_size]; omega)
    have hex : ByteArray.extract (ofL l) (Int.toNat (i : Int)) (Int.toNat ((i + u.length : Nat) : Int)) = ofL u := by
     rw [ext_extract, ofL_data2, Int.toNat_natCast, Int.toNat_natCast]
     congr 1
     rw [happ, show i + u.length - i = u.length by omega, List.take_left]
    simp only [hcut, zB, hex, appC_of (show out.length + [ofL u].length ≤ 1099511627776 by simp; omega)]
    have ih' := ih (k - u.length) (by omega) (i + u.length) (out ++ [ofL u]) f (by omega) (by omega) (by simp; omega)
    simp only [ofL_size, b32] at ih'
    refine Eq.trans ih' ?_
    rw [happ, wd_cut u _ (by intro e; rw [e] at hu1; simp at hu1) hmem hrest]
    simp
def wordsB (s : ByteArray) : List ByteArray := (wd [] s.data.toList).map ofL
theorem G26_words (s : ByteArray) (hs : s.size ≤ 100000) : G26 LF s = some (wordsB s) := by
 have e := words_loop s.data.toList (by rw [← size_len]; exact hs) s.data.toList.length 0 [] LF (by omega) (by show s.data.toList.length < 9223372036854775808; rw [← size_len]; omega) (by simp)
 rw [ofL_back] at e
 unfold G26 wordsB
 refine Eq.trans e ?_
 simp
end Go.K
namespace Go.K
open Go.Sl Go.Sx Go.Proofs
theorem trimC_dig2 {d : List UInt8} (h : d.length ≤ 9223372036854775807) : ∃ r, trimC (ofL d) (bts [48, 49, 50, 51, 52, 53, 54, 55, 56, 57]) = some r ∧ (r.data.toList == ([] : List UInt8)) = d.all isD := by
 obtain ⟨r, h1, h2⟩ := trimC_dig h
 exact ⟨r, h1, by rw [← h2, ByteArray.toList_eq]⟩
def badW (r12 : ByteArray) : Option (Bool ⊕ (List Int × Int) ⊕ (List Int ⊕ Int)) := cond (decide ((r12.size : Int) > (9 : Int))) (some (.inl true)) (((byteAt r12 (0 : Int))).bind fun r13 => cond (decide (r13 = (48 : Int))) (cond (!(r12.data.toList == [(UInt8.ofNat 48)])) (some (.inl true)) (((trimC r12 (bts [48, 49, 50, 51, 52, 53, 54, 55, 56, 57]))).bind fun r14 => some (.inl (!(r14.data.toList == ([] : List UInt8)))))) (((trimC r12 (bts [48, 49, 50, 51, 52, 53, 54, 55, 56, 57]))).bind fun r15 => some (.inl (!(r15.data.toList == ([] : List UInt8))))))
theorem badW_ok (c : UInt8) (r : List UInt8) (hl : (c :: r).length ≤ 1000000) : badW (ofL (c :: r)) = some (.inl (!okD 9 (c :: r))) := by
 unfold badW
 simp only [ofL_size]
 by_cases h9 : (c :: r).length > 9
 ·have o : okD 9 (c :: r) = false := by unfold okD; rw [zD (by omega)]; rfl
  simp only [zE (show (((c :: r).length : Nat) : Int) > 9 by omega), zT, o, Bool.not_false]
 ·obtain ⟨t, t1, t2⟩ := trimC_dig2 (d := c :: r) (by omega)
  simp only [zD (show ¬ (((c :: r).length : Nat) : Int) > 9 by omega), zF, byteAt_0, zB, b48, t1, t2]
  by_cases hc : c = 48
  ·subst hc
   cases r with
   | nil =>
    have e : ((ofL [48]).data.toList == [UInt8.ofNat 48]) = true := by rw [ofL_data2]; rfl
    simp only [decide_true, zT, e, Bool.not_true, zF]
    rfl
   | cons x r =>
    have e : ((ofL (48 :: x :: r)).data.toList == [UInt8.ofNat 48]) = false := by rw [ofL_data2]; rfl
    have o : okD 9 (48 :: x :: r) = false := by unfold okD; rw [zD (fun k => k.2.2 ⟨by simp, rfl⟩)]; rfl
    simp only [decide_true, zT, e, Bool.not_false, o]
  ·have o : okD 9 (c :: r) = (c :: r).all isD := by
    unfold okD
    rw [zE ⟨by simp, by omega, fun k => hc (by simpa using k.2)⟩, Bool.true_and]
   simp only [hc, decide_false, zF, o]
theorem okD_up {d : List UInt8} (h : okD 9 d = true) : okD 13 d = true := by
 unfold okD at h ⊢
 simp only [za, decide_eq_true_eq] at h ⊢
 exact ⟨⟨h.1.1, by omega, h.1.2.2⟩, h.2⟩
theorem G22_nums (ws : List ByteArray) (n : Int) (hl : ws.length ≤ 1000000) (hw : ∀ w ∈ ws, w.size ≠ 0 ∧ w.size ≤ 1000000) : G22 LF (ws, n) = some (bif ws.all okW then .inl (ws.map valW) else .inr n) := by
 unfold G22
 refine (iter_go (fun i (a : List Int) => (a, i)) (numS (.inr n : List Int ⊕ Int)) (fun i a => a.length = i) ws (fun a => some (.inl a)) [] ?_ ?_ ?_ (by show _ < 9223372036854775808; omega) rfl).trans ?_
 ·intro i w a hx ha
  have hi := gt_of hx
  obtain ⟨hz, hsz⟩ := hw w (List.mem_of_getElem? hx)
  have hwl : w.data.toList ≠ [] := by
   intro e
   rw [size_len, e] at hz
   exact hz rfl
  obtain ⟨c, r, hcr⟩ := List.exists_cons_of_ne_nil hwl
  have hwe : w = ofL (c :: r) := ofL_eq hcr
  have hb := badW_ok c r (by rw [← hcr, ← size_len]; exact hsz)
  have hok : okW w = okD 9 (c :: r) := by unfold okW; rw [hcr]
  have hval : valW w = valD (c :: r) := by unfold valW; rw [hcr]
  unfold badW at hb
  rw [← hwe, ← hok] at hb
  simp only [decNN hi, zT, getI_nat hx, zB, hb, jin]
  unfold numS
  cases h : okW w with
  | true =>
   have ha2 : atoiC w = some (valW w) := by rw [hwe, atoiC_pos (okD_up (by rw [← hok]; exact h)), hval.symm, hwe]
   simp only [Bool.not_true, zF, zT, ha2, zB, appC_of (show a.length + [valW w].length ≤ 1099511627776 by simp; omega), upW (show i + 1 < 9223372036854775808 by omega)]
  | false => rfl
 ·intro i w a a' hx ha hs
  unfold numS at hs
  revert hs
  cases okW w <;> intro hs
  ·cases hs
  ·cases hs; simp [ha]
 ·intro a _
  simp only [decNn]; rfl
 ·rw [numS_fold]
  cases ws.all okW <;> simp
end Go.K
namespace Go.K
open Go.Sl Go.Sx Go.Proofs
theorem scan_no {σ ρ : Type} : ∀ (l : List σ) (i : Nat), scan (fun (_ : σ) (_ : Nat) => (none : Option ρ)) l i = none
 | [], _ => rfl
 | _ :: l, i => scan_no l (i + 1)
theorem G30_refl (h : HeapK) (hl : h.length < LF) : G30 LF (h, h) = some true := by
 unfold G30
 simp only [decide_true, Bool.not_true, zF]
 refine (iter_scan (fun (_ : Int × Int) (_ : Nat) => (none : Option Bool)) h (some true) ?_ ?_ hl).trans ?_
 ·intro i x hx _
  have hi := gt_of hx
  have : h.length < 9223372036854775808 := hl
  simp only [decNN hi, zT, getI_nat hx, zB, decide_true, Bool.and_true, Bool.not_true, zF, upW (show i + 1 < 9223372036854775808 by omega)]
 ·intro _
  simp only [decNn, zF]; rfl
 ·rw [scan_no]
abbrev XS := PUnit ⊕ (Int ⊕ Bool)
noncomputable def rndS (h : HoldK) (y : Int) : Option (Int ⊕ XS) :=
 jn (cond (decide (y < (h.length : Int))) (some (.inl ())) (some (.inr (.inr (.inl ()))))) (fun _ : PUnit => jn (((getI h y)).bind fun r => ((getI h y)).bind fun r' => ((G30 LF (r, r'))).bind fun r'' => some (.inl r'')) (fun y376 : Bool => cond (!y376) (some (.inr (.inr (.inr false)))) (some (.inl (w64 (y + (1 : Int)))))))
noncomputable def holdS (h : HoldK) (i : Int) : Option (Int ⊕ Bool) :=
 jn (jn (some (.inl (!(decide ((h.length : Int) = (h.length : Int)))))) (fun y202 : Bool => cond y202 (some (.inr (.inr false))) (iter LF (rndS h) (0 : Int)))) (fun _ : PUnit => some (.inl (w64 (i + (1 : Int)))))
theorem holdS_ok (h : HoldK) (hl : h.length < LF) (hh : ∀ x ∈ h, x.length < LF) (i : Int) : holdS h i = some (.inl (w64 (i + 1))) := by
 unfold holdS
 have key : iter LF (rndS h) (0 : Int) = some (.inl ()) := by
  refine (iter_scan (fun (_ : HeapK) (_ : Nat) => (none : Option XS)) h (some (.inl ())) ?_ ?_ hl).trans ?_
  ·intro i x hx _
   have hi := gt_of hx
   have : h.length < 9223372036854775808 := hl
   unfold rndS
   simp only [decNN hi, zT, jin, getI_nat hx, zB, G30_refl x (hh x (List.mem_of_getElem? hx)), Bool.not_true, zF, upW (show i + 1 < 9223372036854775808 by omega)]
  ·intro _
   unfold rndS
   simp only [decNn, zF]; rfl
  ·rw [scan_no]
 simp only [decide_true, Bool.not_true, jin, zF, key]
theorem G8_refl (s : StockK) (hl : s.1.length < LF) (hh : ∀ h ∈ holds s, h.length < LF ∧ ∀ x ∈ h, x.length < LF) : G8 LF (s, s) = some true := by
 unfold G8
 dsimp only
 rw [show decide ((s.1.length : Int) = (s.1.length : Int)) = true from zE rfl, Bool.not_true, zF]
 refine (iter_scan (fun (_ : LotK) (_ : Nat) => (none : Option Bool)) s.1 (some true) ?_ ?_ hl).trans ?_
 ·intro i x hx _
  have hi := gt_of hx
  have : s.1.length < 9223372036854775808 := hl
  simp only [decNN hi, zT, getI_nat hx, zB, decide_true, Bool.and_true, Bool.not_true, zF, upW (show i + 1 < 9223372036854775808 by omega)]
 ·intro _
  rw [decNn, zF]
  congr 1
  refine (iter_scan (fun (_ : HoldK) (_ : Nat) => (none : Option Bool)) (holds s) (some true) ?_ ?_ (by show 9 < 9223372036854775808; omega)).trans ?_
  ·intro i x hx _
   have hm := hh x (List.mem_of_getElem? hx)
   have hi : i < 9 := gt_of hx
   refine Eq.trans ?_ ((holdS_ok x hm.1 hm.2 (i : Int)).trans (by rw [upW (show i + 1 < 9223372036854775808 by omega)]))
   match i, hi, hx with
   | 0, _, hx => cases hx; rfl
   | 1, _, hx => cases hx; rfl
   | 2, _, hx => cases hx; rfl
   | 3, _, hx => cases hx; rfl
   | 4, _, hx => cases hx; rfl
   | 5, _, hx => cases hx; rfl
   | 6, _, hx => cases hx; rfl
   | 7, _, hx => cases hx; rfl
   | 8, _, hx => cases hx; rfl
   | n + 9, h, _ => omega
  ·intro _
   have e9 : ((holds s).length : Int) = 9 := rfl
   simp only [e9]
   rfl
  ·rw [scan_no]
 ·rw [scan_no]
end Go.K
namespace Go.K
open Go.Sl Go.Sx Go.Proofs
theorem scan_none {σ ρ : Type} (g : σ → Nat → Option ρ) : ∀ (l : List σ) (i : Nat), scan g l i = none → ∀ x ∈ l, ∃ j, g x j = none
 | [], _, _, x, hx => by cases hx
 | y :: l, i, h, x, hx => by
  simp only [scan] at h
  cases hy : g y i with
  | some e => rw [hy] at h; cases h
  | none =>
   rw [hy] at h
   rcases List.mem_cons.1 hx with rfl | hx
   ·exact ⟨i, hy⟩
   ·exact scan_none g l (i + 1) h x hx
theorem scan_some {σ ρ : Type} (g : σ → Nat → Option ρ) (Q : ρ → Prop) (hg : ∀ x j e, g x j = some e → Q e) : ∀ (l : List σ) (i : Nat) (e : ρ), scan g l i = some e → Q e
 | [], _, _, h => by cases h
 | y :: l, i, e, h => by
  simp only [scan] at h
  cases hy : g y i with
  | some e' => rw [hy] at h; cases h; exact hg _ _ _ hy
  | none => rw [hy] at h; exact scan_some g Q hg l (i + 1) e h
theorem partS_all (h : HeapK) : ∀ (l : HeapK) (i : Nat) (a : Int), foldS (partS h) l i a ≠ .inr false → ∀ p ∈ l, inB p.1 1 9999 = true ∧ inB p.2 1 100000000 = true
 | [], _, _, _, p, hp => by cases hp
 | q :: l, i, a, hn, p, hp => by
  simp only [foldS] at hn
  cases hc : partS h q i a with
  | inr b =>
   rw [hc] at hn
   exfalso
   unfold partS at hc
   cases hb : (!inB q.1 1 9999 || (!inB q.2 1 100000000 || (decide (0 < i) && decide ((h.getD (i - 1) partD).1 ≥ q.1)))) with
   | true => rw [hb] at hc; cases hc; exact hn rfl
   | false => rw [hb] at hc; cases hc
  | inl a' =>
   rw [hc] at hn
   rcases List.mem_cons.1 hp with rfl | hp
   ·unfold partS at hc
    cases h1 : inB p.1 1 9999 with
    | false => rw [h1] at hc; cases hc
    | true =>
     cases h2 : inB p.2 1 100000000 with
     | false => rw [h1, h2] at hc; cases hc
     | true => exact ⟨rfl, rfl⟩
   ·exact partS_all h l (i + 1) a' hn p hp
theorem heapB_all {h : HeapK} (hb : heapB h = true) : ∀ p ∈ h, inB p.1 1 9999 = true ∧ inB p.2 1 100000000 = true := by
 refine partS_all h h 0 0 fun hc => ?_
 unfold heapB at hb
 split at hb
 ·cases hb
 ·rw [hc] at hb; cases hb
theorem inB_iff {n lo hi : Int} : inB n lo hi = true ↔ lo ≤ n ∧ n ≤ hi := by unfold inB; simp
structure StokOk (s : StockK) : Prop where
 l40 : s.1.length ≤ 40
 lots : ∀ x ∈ s.1, (1 ≤ x.1 ∧ x.1 ≤ 9999) ∧ (1 ≤ x.2.1 ∧ x.2.1 ≤ 9) ∧ (1 ≤ x.2.2.1 ∧ x.2.2.1 ≤ 9) ∧ (0 ≤ x.2.2.2 ∧ x.2.2.2 ≤ 10000)
 h4 : ∀ h ∈ holds s, h.length ≤ 4
 parts : ∀ h ∈ holds s, ∀ x ∈ h, (1 ≤ x.length ∧ x.length ≤ 40) ∧ ∀ p ∈ x, (1 ≤ p.1 ∧ p.1 ≤ 9999) ∧ (1 ≤ p.2 ∧ p.2 ≤ 100000000)
theorem holdE_62 {lots : List LotK} {h : HoldK} {e : Int} (he : holdE lots h = some e) : e = 62 := by
 unfold holdE at he
 split at he
 ·cases he; rfl
 ·split at he
  ·rename_i e' hs; cases he; exact heapE_62 lots h 0 _ hs
  ·split at he
   ·cases he; rfl
   ·cases he
theorem chk_zero {s : StockK} : chkE s = 0 ∨ chkE s = 62 := by
 unfold chkE
 split
 ·exact .inr rfl
 ·cases hs : scan (fun h (_ : Nat) => holdE s.1 h) (holds s) 0 with
  | none => exact .inl rfl
  | some e => exact .inr (scan_some _ (fun e => e = 62) (fun x _ e h => holdE_62 h) _ _ _ hs)
theorem chk_ok {s : StockK} (h : chkE s = 0) : StokOk s := by
 unfold chkE at h
 by_cases h0 : lotsE s.1 = 0
 ·rw [if_neg (by simp [h0])] at h
  obtain ⟨h40, _, hl⟩ := lots_ris h0
  have hs : scan (fun h (_ : Nat) => holdE s.1 h) (holds s) 0 = none := by
   cases hs : scan (fun h (_ : Nat) => holdE s.1 h) (holds s) 0 with
   | none => rfl
   | some e =>
    have := scan_some _ (fun e => e = 62) (fun x _ e h => holdE_62 h) _ _ _ hs
    rw [hs, this] at h; cases h
  have key : ∀ x ∈ holds s, x.length ≤ 4 ∧ ∀ y ∈ x, heapE s.1 y = none := by
   intro x hx
   obtain ⟨_, hj⟩ := scan_none _ _ _ hs x hx
   unfold holdE at hj
   split at hj
   ·cases hj
   ·refine ⟨by omega, fun y hy => ?_⟩
    split at hj
    ·cases hj
    ·rename_i hsn
     obtain ⟨_, h2⟩ := scan_none _ _ _ hsn y hy
     exact h2
  refine ⟨h40, fun x hx => ?_, fun x hx => (key x hx).1, fun x hx y hy => ?_⟩
  ·have := hl x hx
   unfold lotB at this
   simp only [za, inB_iff] at this
   exact ⟨this.1.1.1, this.1.1.2, this.1.2, this.2⟩
  ·have hn := (key x hx).2 y hy
   unfold heapE at hn
   cases hb : heapB y with
   | false => rw [hb] at hn; cases hn
   | true =>
    rw [hb] at hn
    have h40 := heapB_len hb
    refine ⟨⟨?_, h40⟩, fun p hp => ?_⟩
    ·by_cases hz : y.length = 0
     ·rw [zE hz] at hn; cases hn
     ·omega
    ·have := heapB_all hb p hp
     simpa only [inB_iff] using this
 ·rw [if_pos (by simpa using h0)] at h; cases h
end Go.K
namespace Go.K
open Go.Sl Go.Sx Go.Proofs
abbrev PRk := StockK × (Int × Int)
abbrev XP := (Int × StockK) ⊕ PRk
def zeroS : StockK := ([], ([], ([], ([], ([], ([], ([], ([], ([], [])))))))))
def addHeap (s : StockK) (h : HeapK) : Nat → StockK
 | 0 => (s.1, (s.2.1 ++ [h], (s.2.2.1, (s.2.2.2.1, (s.2.2.2.2.1, (s.2.2.2.2.2.1, (s.2.2.2.2.2.2.1, (s.2.2.2.2.2.2.2.1, (s.2.2.2.2.2.2.2.2.1, s.2.2.2.2.2.2.2.2.2)))))))))
 | 1 => (s.1, (s.2.1, (s.2.2.1 ++ [h], (s.2.2.2.1, (s.2.2.2.2.1, (s.2.2.2.2.2.1, (s.2.2.2.2.2.2.1, (s.2.2.2.2.2.2.2.1, (s.2.2.2.2.2.2.2.2.1, s.2.2.2.2.2.2.2.2.2)))))))))
 | 2 => (s.1, (s.2.1, (s.2.2.1, (s.2.2.2.1 ++ [h], (s.2.2.2.2.1, (s.2.2.2.2.2.1, (s.2.2.2.2.2.2.1, (s.2.2.2.2.2.2.2.1, (s.2.2.2.2.2.2.2.2.1, s.2.2.2.2.2.2.2.2.2)))))))))
 | 3 => (s.1, (s.2.1, (s.2.2.1, (s.2.2.2.1, (s.2.2.2.2.1 ++ [h], (s.2.2.2.2.2.1, (s.2.2.2.2.2.2.1, (s.2.2.2.2.2.2.2.1, (s.2.2.2.2.2.2.2.2.1, s.2.2.2.2.2.2.2.2.2)))))))))
 | 4 => (s.1, (s.2.1, (s.2.2.1, (s.2.2.2.1, (s.2.2.2.2.1, (s.2.2.2.2.2.1 ++ [h], (s.2.2.2.2.2.2.1, (s.2.2.2.2.2.2.2.1, (s.2.2.2.2.2.2.2.2.1, s.2.2.2.2.2.2.2.2.2)))))))))
 | 5 => (s.1, (s.2.1, (s.2.2.1, (s.2.2.2.1, (s.2.2.2.2.1, (s.2.2.2.2.2.1, (s.2.2.2.2.2.2.1 ++ [h], (s.2.2.2.2.2.2.2.1, (s.2.2.2.2.2.2.2.2.1, s.2.2.2.2.2.2.2.2.2)))))))))
 | 6 => (s.1, (s.2.1, (s.2.2.1, (s.2.2.2.1, (s.2.2.2.2.1, (s.2.2.2.2.2.1, (s.2.2.2.2.2.2.1, (s.2.2.2.2.2.2.2.1 ++ [h], (s.2.2.2.2.2.2.2.2.1, s.2.2.2.2.2.2.2.2.2)))))))))
 | 7 => (s.1, (s.2.1, (s.2.2.1, (s.2.2.2.1, (s.2.2.2.2.1, (s.2.2.2.2.2.1, (s.2.2.2.2.2.2.1, (s.2.2.2.2.2.2.2.1, (s.2.2.2.2.2.2.2.2.1 ++ [h], s.2.2.2.2.2.2.2.2.2)))))))))
 | 8 => (s.1, (s.2.1, (s.2.2.1, (s.2.2.2.1, (s.2.2.2.2.1, (s.2.2.2.2.2.1, (s.2.2.2.2.2.2.1, (s.2.2.2.2.2.2.2.1, (s.2.2.2.2.2.2.2.2.1, s.2.2.2.2.2.2.2.2.2 ++ [h])))))))))
 | _ => s
def pairsL : List Int → HeapK
 | a :: b :: r => (a, b) :: pairsL r
 | _ => []
theorem pairs_loop {ρ : Type} (n : List Int) (hl : n.length ≤ 1000000) (fin : HeapK → Option ρ) : ∀ (k i : Nat) (r : List Int) (acc : HeapK) (f : Nat), r.length = 2 * k → n.drop i = r → i + r.length = n.length → acc.length ≤ i → r.length < f →
  iter f (fun y163 : (Int × (List (Int × Int))) => cond (decide (y163.1 < (n.length : Int))) (((getI n y163.1)).bind fun r164 => ((getI n (w64 (y163.1 + (1 : Int))))).bind fun r165 => ((appC y163.2 [(r164, r165)])).bind fun r166 => some (.inl ((w64 (y163.1 + (2 : Int))), r166))) (outR (fin y163.2))) ((i : Int), acc) = fin (acc ++ pairsL r)
 | 0, i, r, acc, f, hk, hd, hi, ha, hf => by
  obtain ⟨f, rfl⟩ : ∃ m, f = m + 1 := ⟨f - 1, by omega⟩
  have hr : r = [] := List.eq_nil_of_length_eq_zero (by omega)
  subst hr
  have hi' : i = n.length := by simpa using hi
  subst hi'
  simp only [iter, decNn, zF, pairsL, List.append_nil]
  cases fin acc <;> rfl
 | k + 1, i, r, acc, f, hk, hd, hi, ha, hf => by
  obtain ⟨f, rfl⟩ : ∃ m, f = m + 1 := ⟨f - 1, by omega⟩
  match r, hk with
  | a :: b :: r, hk =>
   simp only [zC] at hk hi hf
   have h0 : n[i]? = some a := by
    have := congrArg (fun l => l[0]?) hd
    simpa using this
   have h1 : n[i + 1]? = some b := by
    have := congrArg (fun l => l[1]?) hd
    simpa using this
   have hd2 : n.drop (i + 2) = r := by
    have := congrArg (fun l => l.drop 2) hd
    simpa [List.drop_drop] using this
   have e2 : w64 ((i : Int) + 2) = ((i + 2 : Nat) : Int) := by rw [w64_id (by omega) (by omega)]; omega
   have ih := pairs_loop n hl fin k (i + 2) r (acc ++ [(a, b)]) f (by omega) hd2 (by omega) (by simp only [List.length_append, zC, zL]; omega) (by omega)
   simp only [iter, decNN (show i < n.length by omega), zT, getI_nat h0, getI_nat h1, zB, upW (show i + 1 < 9223372036854775808 by omega), appC_of (show acc.length + [(a, b)].length ≤ 1099511627776 by simp only [zC, zL]; omega), e2]
   rw [ih, pairsL, List.append_assoc]
   rfl
def isHoldB (n : Int) : Bool := inB n 0 8
theorem G23_hold (lf : Nat) (n : Int) : G23 lf n = some (isHoldB n) := by unfold G23 isHoldB; rw [G48_in]; rfl
theorem G28_hold (lf : Nat) (n : Int) : G28 lf n = some (isHoldB n) := by unfold G28 isHoldB; rw [G54_in]; rfl
def caseS (s : StockK) (w : ByteArray) (n : List Int) : Option StockK :=
 if w.data.toList = [108, 111, 116] ∧ n.length = 4 then some (s.1 ++ [(n.getD 0 0, (n.getD 1 0, (n.getD 2 0, n.getD 3 0)))], s.2)
 else if w.data.toList = [104, 101, 97, 112] ∧ (3 ≤ n.length ∧ n.length % 2 = 1 ∧ isHoldB (n.getD 0 0) = true) then some (addHeap s (pairsL n.tail) (n.getD 0 0).toNat) else none
structure Sml (s : StockK) (i : Nat) : Prop where
 l : s.1.length ≤ i
 h : ∀ x ∈ holds s, x.length ≤ i
theorem mem_mod {α : Type} (f : α → α) : ∀ (l : List α) (k : Nat) (x : α), x ∈ l.modify k f → ∃ y ∈ l, x = y ∨ x = f y
 | [], k, x, hx => by simp at hx
 | a :: l, 0, x, hx => by
  rw [List.modify_zero_cons] at hx
  rcases List.mem_cons.1 hx with rfl | hx
  ·exact ⟨a, List.mem_cons_self .., .inr rfl⟩
  ·exact ⟨x, List.mem_cons_of_mem _ hx, .inl rfl⟩
 | a :: l, k + 1, x, hx => by
  rw [List.modify_succ_cons] at hx
  rcases List.mem_cons.1 hx with rfl | hx
  ·exact ⟨x, List.mem_cons_self .., .inl rfl⟩
  ·obtain ⟨y, hy, h⟩ := mem_mod f l k x hx
   exact ⟨y, List.mem_cons_of_mem _ hy, h⟩
theorem holds_mod (s : StockK) (h : HeapK) (k : Nat) (hk : k < 9) : holds (addHeap s h k) = (holds s).modify k (· ++ [h]) := by
 match k, hk with
 | 0, _ | 1, _ | 2, _ | 3, _ | 4, _ | 5, _ | 6, _ | 7, _ | 8, _ => rfl
 | n + 9, h => omega
theorem holds_add (s : StockK) (h : HeapK) (k : Nat) : ∀ x ∈ holds (addHeap s h k), ∃ y ∈ holds s, x = y ∨ x = y ++ [h] := by
 intro x hx
 by_cases hk : k < 9
 ·rw [holds_mod s h k hk] at hx
  exact mem_mod _ _ _ _ hx
 ·obtain ⟨n, rfl⟩ : ∃ n, k = n + 9 := ⟨k - 9, by omega⟩
  exact ⟨x, hx, .inl rfl⟩
theorem addHeap_1 (s : StockK) (h : HeapK) (k : Nat) : (addHeap s h k).1 = s.1 := by
 match k with
 | 0 | 1 | 2 | 3 | 4 | 5 | 6 | 7 | 8 => rfl
 | n + 9 => rfl
theorem Sml.add {s : StockK} {i : Nat} (m : Sml s i) (h : HeapK) (k : Nat) : Sml (addHeap s h k) (i + 1) :=
 ⟨by rw [addHeap_1]; have := m.l; omega, fun x hx => by
  obtain ⟨y, hy, e⟩ := holds_add s h k x hx
  have := m.h y hy
  rcases e with rfl | rfl
  ·omega
  ·simp only [List.length_append, zC, zL]; omega⟩
theorem Sml.up {s : StockK} {i : Nat} (m : Sml s i) : Sml s (i + 1) := ⟨Nat.le_succ_of_le m.l, fun x hx => Nat.le_succ_of_le (m.h x hx)⟩
theorem caseS_sml {s s' : StockK} {i : Nat} {w : ByteArray} {n : List Int} (m : Sml s i) (h : caseS s w n = some s') : Sml s' (i + 1) := by
 unfold caseS at h
 split at h
 ·cases h
  exact ⟨by have := m.l; simp only [List.length_append, zC, zL]; omega, fun x hx => Nat.le_succ_of_le (m.h x hx)⟩
 ·split at h
  ·cases h; exact m.add _ _
  ·cases h
end Go.K
namespace Go.K
open Go.Sl Go.Sx Go.Proofs
noncomputable def app6 (s : StockK) (n : List Int) (h : HeapK) : Option (StockK ⊕ XP) :=
 (((getI n (0 : Int))).bind fun r167 => ((getI n (0 : Int))).bind fun r168 => cond (decide (r168 = (0 : Int))) (((appC s.2.1 [h])).bind fun r169 => cond (decide (r167 = (0 : Int))) (some (.inl (s.1, (r169, (s.2.2.1, (s.2.2.2.1, (s.2.2.2.2.1, (s.2.2.2.2.2.1, (s.2.2.2.2.2.2.1, (s.2.2.2.2.2.2.2.1, (s.2.2.2.2.2.2.2.2.1, s.2.2.2.2.2.2.2.2.2))))))))))) (cond (decide (r167 = (1 : Int))) (none) (cond (decide (r167 = (2 : Int))) (none) (cond (decide (r167 = (3 : Int))) (none) (cond (decide (r167 = (4 : Int))) (none) (cond (decide (r167 = (5 : Int))) (none) (cond (decide (r167 = (6 : Int))) (none) (cond (decide (r167 = (7 : Int))) (none) (cond (decide (r167 = (8 : Int))) (none) ((outI))))))))))) (cond (decide (r168 = (1 : Int))) (((appC s.2.2.1 [h])).bind fun r172 => cond (decide (r167 = (0 : Int))) (none) (cond (decide (r167 = (1 : Int))) (some (.inl (s.1, (s.2.1, (r172, (s.2.2.2.1, (s.2.2.2.2.1, (s.2.2.2.2.2.1, (s.2.2.2.2.2.2.1, (s.2.2.2.2.2.2.2.1, (s.2.2.2.2.2.2.2.2.1, s.2.2.2.2.2.2.2.2.2))))))))))) (cond (decide (r167 = (2 : Int))) (none) (cond (decide (r167 = (3 : Int))) (none) (cond (decide (r167 = (4 : Int))) (none) (cond (decide (r167 = (5 : Int))) (none) (cond (decide (r167 = (6 : Int))) (none) (cond (decide (r167 = (7 : Int))) (none) (cond (decide (r167 = (8 : Int))) (none) ((outI))))))))))) (cond (decide (r168 = (2 : Int))) (((appC s.2.2.2.1 [h])).bind fun r175 => cond (decide (r167 = (0 : Int))) (none) (cond (decide (r167 = (1 : Int))) (none) (cond (decide (r167 = (2 : Int))) (some (.inl (s.1, (s.2.1, (s.2.2.1, (r175, (s.2.2.2.2.1, (s.2.2.2.2.2.1, (s.2.2.2.2.2.2.1, (s.2.2.2.2.2.2.2.1, (s.2.2.2.2.2.2.2.2.1, s.2.2.2.2.2.2.2.2.2))))))))))) (cond (decide (r167 = (3 : Int))) (none) (cond (decide (r167 = (4 : Int))) (none) (cond (decide (r167 = (5 : Int))) (none) (cond (decide (r167 = (6 : Int))) (none) (cond (decide (r167 = (7 : Int))) (none) (cond (decide (r167 = (8 : Int))) (none) ((outI))))))))))) (cond (decide (r168 = (3 : Int))) (((appC s.2.2.2.2.1 [h])).bind fun r178 => cond (decide (r167 = (0 : Int))) (none) (cond (decide (r167 = (1 : Int))) (none) (cond (decide (r167 = (2 : Int))) (none) (cond (decide (r167 = (3 : Int))) (some (.inl (s.1, (s.2.1, (s.2.2.1, (s.2.2.2.1, (r178, (s.2.2.2.2.2.1, (s.2.2.2.2.2.2.1, (s.2.2.2.2.2.2.2.1, (s.2.2.2.2.2.2.2.2.1, s.2.2.2.2.2.2.2.2.2))))))))))) (cond (decide (r167 = (4 : Int))) (none) (cond (decide (r167 = (5 : Int))) (none) (cond (decide (r167 = (6 : Int))) (none) (cond (decide (r167 = (7 : Int))) (none) (cond (decide (r167 = (8 : Int))) (none) ((outI))))))))))) (cond (decide (r168 = (4 : Int))) (((appC s.2.2.2.2.2.1 [h])).bind fun r181 => cond (decide (r167 = (0 : Int))) (none) (cond (decide (r167 = (1 : Int))) (none) (cond (decide (r167 = (2 : Int))) (none) (cond (decide (r167 = (3 : Int))) (none) (cond (decide (r167 = (4 : Int))) (some (.inl (s.1, (s.2.1, (s.2.2.1, (s.2.2.2.1, (s.2.2.2.2.1, (r181, (s.2.2.2.2.2.2.1, (s.2.2.2.2.2.2.2.1, (s.2.2.2.2.2.2.2.2.1, s.2.2.2.2.2.2.2.2.2))))))))))) (cond (decide (r167 = (5 : Int))) (none) (cond (decide (r167 = (6 : Int))) (none) (cond (decide (r167 = (7 : Int))) (none) (cond (decide (r167 = (8 : Int))) (none) ((outI))))))))))) (cond (decide (r168 = (5 : Int))) (((appC s.2.2.2.2.2.2.1 [h])).bind fun r184 => cond (decide (r167 = (0 : Int))) (none) (cond (decide (r167 = (1 : Int))) (none) (cond (decide (r167 = (2 : Int))) (none) (cond (decide (r167 = (3 : Int))) (none) (cond (decide (r167 = (4 : Int))) (none) (cond (decide (r167 = (5 : Int))) (some (.inl (s.1, (s.2.1, (s.2.2.1, (s.2.2.2.1, (s.2.2.2.2.1, (s.2.2.2.2.2.1, (r184, (s.2.2.2.2.2.2.2.1, (s.2.2.2.2.2.2.2.2.1, s.2.2.2.2.2.2.2.2.2))))))))))) (cond (decide (r167 = (6 : Int))) (none) (cond (decide (r167 = (7 : Int))) (none) (cond (decide (r167 = (8 : Int))) (none) ((outI))))))))))) (cond (decide (r168 = (6 : Int))) (((appC s.2.2.2.2.2.2.2.1 [h])).bind fun r187 => cond (decide (r167 = (0 : Int))) (none) (cond (decide (r167 = (1 : Int))) (none) (cond (decide (r167 = (2 : Int))) (none) (cond (decide (r167 = (3 : Int))) (none) (cond (decide (r167 = (4 : Int))) (none) (cond (decide (r167 = (5 : Int))) (none) (cond (decide (r167 = (6 : Int))) (some (.inl (s.1, (s.2.1, (s.2.2.1, (s.2.2.2.1, (s.2.2.2.2.1, (s.2.2.2.2.2.1, (s.2.2.2.2.2.2.1, (r187, (s.2.2.2.2.2.2.2.2.1, s.2.2.2.2.2.2.2.2.2))))))))))) (cond (decide (r167 = (7 : Int))) (none) (cond (decide (r167 = (8 : Int))) (none) ((outI))))))))))) (cond (decide (r168 = (7 : Int))) (((appC s.2.2.2.2.2.2.2.2.1 [h])).bind fun r190 => cond (decide (r167 = (0 : Int))) (none) (cond (decide (r167 = (1 : Int))) (none) (cond (decide (r167 = (2 : Int))) (none) (cond (decide (r167 = (3 : Int))) (none) (cond (decide (r167 = (4 : Int))) (none) (cond (decide (r167 = (5 : Int))) (none) (cond (decide (r167 = (6 : Int))) (none) (cond (decide (r167 = (7 : Int))) (some (.inl (s.1, (s.2.1, (s.2.2.1, (s.2.2.2.1, (s.2.2.2.2.1, (s.2.2.2.2.2.1, (s.2.2.2.2.2.2.1, (s.2.2.2.2.2.2.2.1, (r190, s.2.2.2.2.2.2.2.2.2))))))))))) (cond (decide (r167 = (8 : Int))) (none) ((outI))))))))))) (cond (decide (r168 = (8 : Int))) (((appC s.2.2.2.2.2.2.2.2.2 [h])).bind fun r193 => cond (decide (r167 = (0 : Int))) (none) (cond (decide (r167 = (1 : Int))) (none) (cond (decide (r167 = (2 : Int))) (none) (cond (decide (r167 = (3 : Int))) (none) (cond (decide (r167 = (4 : Int))) (none) (cond (decide (r167 = (5 : Int))) (none) (cond (decide (r167 = (6 : Int))) (none) (cond (decide (r167 = (7 : Int))) (none) (cond (decide (r167 = (8 : Int))) (some (.inl (s.1, (s.2.1, (s.2.2.1, (s.2.2.2.1, (s.2.2.2.2.1, (s.2.2.2.2.2.1, (s.2.2.2.2.2.2.1, (s.2.2.2.2.2.2.2.1, (s.2.2.2.2.2.2.2.2.1, r193))))))))))) ((outI))))))))))) ((outI)))))))))))
noncomputable def case6 (lf : Nat) (s : StockK) (i : Int) (ws : List ByteArray) (n : List Int) : Option (StockK ⊕ XP) :=
 jn (((getI ws (0 : Int))).bind fun r152 => cond (r152.data.toList == [(UInt8.ofNat 108), (UInt8.ofNat 111), (UInt8.ofNat 116)]) (some (.inl (decide ((n.length : Int) = (4 : Int))))) (some (.inl false))) (fun y153 : Bool => cond y153 (((getI n (0 : Int))).bind fun r154 => ((getI n (1 : Int))).bind fun r155 => ((getI n (2 : Int))).bind fun r156 => ((getI n (3 : Int))).bind fun r157 => ((appC s.1 [(r154, (r155, (r156, r157)))])).bind fun r158 => some (.inl (r158, (s.2.1, (s.2.2.1, (s.2.2.2.1, (s.2.2.2.2.1, (s.2.2.2.2.2.1, (s.2.2.2.2.2.2.1, (s.2.2.2.2.2.2.2.1, (s.2.2.2.2.2.2.2.2.1, s.2.2.2.2.2.2.2.2.2))))))))))) (jn (((getI ws (0 : Int))).bind fun r159 => cond (r159.data.toList == [(UInt8.ofNat 104), (UInt8.ofNat 101), (UInt8.ofNat 97), (UInt8.ofNat 112)]) (cond (decide ((n.length : Int) ≥ (3 : Int))) (cond (decide ((Int.tmod (n.length : Int) (2 : Int)) = (1 : Int))) (((getI n (0 : Int))).bind fun r160 => ((G23 lf r160)).bind fun r161 => some (.inl r161)) (some (.inl false))) (some (.inl false))) (some (.inl false))) (fun y162 : Bool => cond y162 (iter lf (fun y163 : (Int × (List (Int × Int))) => cond (decide (y163.1 < (n.length : Int))) (((getI n y163.1)).bind fun r164 => ((getI n (w64 (y163.1 + (1 : Int))))).bind fun r165 => ((appC y163.2 [(r164, r165)])).bind fun r166 => some (.inl ((w64 (y163.1 + (2 : Int))), r166))) (outR (app6 s n y163.2))) ((1 : Int), ([] : List (Int × Int)))) (some (.inr (.inr ((([] : List (Int × (Int × (Int × Int)))), (([] : List (List (Int × Int))), (([] : List (List (Int × Int))), (([] : List (List (Int × Int))), (([] : List (List (Int × Int))), (([] : List (List (Int × Int))), (([] : List (List (Int × Int))), (([] : List (List (Int × Int))), (([] : List (List (Int × Int))), ([] : List (List (Int × Int)))))))))))), ((w64 (i + (1 : Int))), (12 : Int)))))))))
theorem app6_ok {s : StockK} {n : List Int} {h : HeapK} {k : Nat} (hk : getI n 0 = some (k : Int)) (h9 : k < 9) (hs : ∀ x ∈ holds s, x.length ≤ 1000000) : app6 s n h = some (.inl (addHeap s h k)) := by
 match k, h9, hk with
 | 0, _, hk =>
  refine Eq.trans (b := ((appC s.2.1 [h])).bind fun r => some (.inl (s.1, (r, (s.2.2.1, (s.2.2.2.1, (s.2.2.2.2.1, (s.2.2.2.2.2.1, (s.2.2.2.2.2.2.1, (s.2.2.2.2.2.2.2.1, (s.2.2.2.2.2.2.2.2.1, s.2.2.2.2.2.2.2.2.2))))))))))) (by unfold app6; rw [hk]; rfl) ?_
  rw [appC_of (by have := hs s.2.1 (by unfold holds; exact List.mem_cons_self ..); simp only [zC, zL]; omega)]
  rfl
 | 1, _, hk =>
  refine Eq.trans (b := ((appC s.2.2.1 [h])).bind fun r => some (.inl (s.1, (s.2.1, (r, (s.2.2.2.1, (s.2.2.2.2.1, (s.2.2.2.2.2.1, (s.2.2.2.2.2.2.1, (s.2.2.2.2.2.2.2.1, (s.2.2.2.2.2.2.2.2.1, s.2.2.2.2.2.2.2.2.2))))))))))) (by unfold app6; rw [hk]; rfl) ?_
  rw [appC_of (by have := hs s.2.2.1 (by unfold holds; exact List.mem_cons_of_mem _ (List.mem_cons_self ..)); simp only [zC, zL]; omega)]
  rfl
 | 2, _, hk =>
  refine Eq.trans (b := ((appC s.2.2.2.1 [h])).bind fun r => some (.inl (s.1, (s.2.1, (s.2.2.1, (r, (s.2.2.2.2.1, (s.2.2.2.2.2.1, (s.2.2.2.2.2.2.1, (s.2.2.2.2.2.2.2.1, (s.2.2.2.2.2.2.2.2.1, s.2.2.2.2.2.2.2.2.2))))))))))) (by unfold app6; rw [hk]; rfl) ?_
  rw [appC_of (by have := hs s.2.2.2.1 (by unfold holds; exact List.mem_cons_of_mem _ (List.mem_cons_of_mem _ (List.mem_cons_self ..))); simp only [zC, zL]; omega)]
  rfl
 | 3, _, hk =>
  refine Eq.trans (b := ((appC s.2.2.2.2.1 [h])).bind fun r => some (.inl (s.1, (s.2.1, (s.2.2.1, (s.2.2.2.1, (r, (s.2.2.2.2.2.1, (s.2.2.2.2.2.2.1, (s.2.2.2.2.2.2.2.1, (s.2.2.2.2.2.2.2.2.1, s.2.2.2.2.2.2.2.2.2))))))))))) (by unfold app6; rw [hk]; rfl) ?_
  rw [appC_of (by have := hs s.2.2.2.2.1 (by unfold holds; exact List.mem_cons_of_mem _ (List.mem_cons_of_mem _ (List.mem_cons_of_mem _ (List.mem_cons_self ..)))); simp only [zC, zL]; omega)]
  rfl
 | 4, _, hk =>
  refine Eq.trans (b := ((appC s.2.2.2.2.2.1 [h])).bind fun r => some (.inl (s.1, (s.2.1, (s.2.2.1, (s.2.2.2.1, (s.2.2.2.2.1, (r, (s.2.2.2.2.2.2.1, (s.2.2.2.2.2.2.2.1, (s.2.2.2.2.2.2.2.2.1, s.2.2.2.2.2.2.2.2.2))))))))))) (by unfold app6; rw [hk]; rfl) ?_
  rw [appC_of (by have := hs s.2.2.2.2.2.1 (by unfold holds; exact List.mem_cons_of_mem _ (List.mem_cons_of_mem _ (List.mem_cons_of_mem _ (List.mem_cons_of_mem _ (List.mem_cons_self ..))))); simp only [zC, zL]; omega)]
  rfl
 | 5, _, hk =>
  refine Eq.trans (b := ((appC s.2.2.2.2.2.2.1 [h])).bind fun r => some (.inl (s.1, (s.2.1, (s.2.2.1, (s.2.2.2.1, (s.2.2.2.2.1, (s.2.2.2.2.2.1, (r, (s.2.2.2.2.2.2.2.1, (s.2.2.2.2.2.2.2.2.1, s.2.2.2.2.2.2.2.2.2))))))))))) (by unfold app6; rw [hk]; rfl) ?_
  rw [appC_of (by have := hs s.2.2.2.2.2.2.1 (by unfold holds; exact List.mem_cons_of_mem _ (List.mem_cons_of_mem _ (List.mem_cons_of_mem _ (List.mem_cons_of_mem _ (List.mem_cons_of_mem _ (List.mem_cons_self ..)))))); simp only [zC, zL]; omega)]
  rfl
 | 6, _, hk =>
  refine Eq.trans (b := ((appC s.2.2.2.2.2.2.2.1 [h])).bind fun r => some (.inl (s.1, (s.2.1, (s.2.2.1, (s.2.2.2.1, (s.2.2.2.2.1, (s.2.2.2.2.2.1, (s.2.2.2.2.2.2.1, (r, (s.2.2.2.2.2.2.2.2.1, s.2.2.2.2.2.2.2.2.2))))))))))) (by unfold app6; rw [hk]; rfl) ?_
  rw [appC_of (by have := hs s.2.2.2.2.2.2.2.1 (by unfold holds; exact List.mem_cons_of_mem _ (List.mem_cons_of_mem _ (List.mem_cons_of_mem _ (List.mem_cons_of_mem _ (List.mem_cons_of_mem _ (List.mem_cons_of_mem _ (List.mem_cons_self ..))))))); simp only [zC, zL]; omega)]
  rfl
 | 7, _, hk =>
  refine Eq.trans (b := ((appC s.2.2.2.2.2.2.2.2.1 [h])).bind fun r => some (.inl (s.1, (s.2.1, (s.2.2.1, (s.2.2.2.1, (s.2.2.2.2.1, (s.2.2.2.2.2.1, (s.2.2.2.2.2.2.1, (s.2.2.2.2.2.2.2.1, (r, s.2.2.2.2.2.2.2.2.2))))))))))) (by unfold app6; rw [hk]; rfl) ?_
  rw [appC_of (by have := hs s.2.2.2.2.2.2.2.2.1 (by unfold holds; exact List.mem_cons_of_mem _ (List.mem_cons_of_mem _ (List.mem_cons_of_mem _ (List.mem_cons_of_mem _ (List.mem_cons_of_mem _ (List.mem_cons_of_mem _ (List.mem_cons_of_mem _ (List.mem_cons_self ..)))))))); simp only [zC, zL]; omega)]
  rfl
 | 8, _, hk =>
  refine Eq.trans (b := ((appC s.2.2.2.2.2.2.2.2.2 [h])).bind fun r => some (.inl (s.1, (s.2.1, (s.2.2.1, (s.2.2.2.1, (s.2.2.2.2.1, (s.2.2.2.2.2.1, (s.2.2.2.2.2.2.1, (s.2.2.2.2.2.2.2.1, (s.2.2.2.2.2.2.2.2.1, r))))))))))) (by unfold app6; rw [hk]; rfl) ?_
  rw [appC_of (by have := hs s.2.2.2.2.2.2.2.2.2 (by unfold holds; exact List.mem_cons_of_mem _ (List.mem_cons_of_mem _ (List.mem_cons_of_mem _ (List.mem_cons_of_mem _ (List.mem_cons_of_mem _ (List.mem_cons_of_mem _ (List.mem_cons_of_mem _ (List.mem_cons_of_mem _ (List.mem_cons_self ..))))))))); simp only [zC, zL]; omega)]
  rfl
 | k + 9, h9, _ => omega
theorem getD_some {l : List Int} {i : Nat} (h : i < l.length) : getI l (i : Int) = some (l.getD i 0) := getD_of 0 h
theorem case6_ok {s : StockK} {i : Int} {w : ByteArray} {ws : List ByteArray} {n : List Int} (hn : n.length ≤ 100000) (m : Sml s 100000) :
  case6 LF s i (w :: ws) n = some (match caseS s w n with | some s' => .inl s' | none => .inr (.inr (zeroS, (w64 (i + 1), 12)))) := by
 have e0 : getI (w :: ws) 0 = some w := rfl
 have eL : ([(UInt8.ofNat 108), (UInt8.ofNat 111), (UInt8.ofNat 116)] : List UInt8) = [108, 111, 116] := rfl
 have eH : ([(UInt8.ofNat 104), (UInt8.ofNat 101), (UInt8.ofNat 97), (UInt8.ofNat 112)] : List UInt8) = [104, 101, 97, 112] := rfl
 unfold case6 caseS
 rw [e0, eL, eH]
 simp only [zB]
 have heap : ¬ (w.data.toList = [108, 111, 116] ∧ n.length = 4) → (jn (cond (w.data.toList == [104, 101, 97, 112]) (cond (decide ((n.length : Int) ≥ (3 : Int))) (cond (decide ((Int.tmod (n.length : Int) (2 : Int)) = (1 : Int))) (((getI n (0 : Int))).bind fun r160 => ((G23 LF r160)).bind fun r161 => some (.inl r161)) (some (.inl false))) (some (.inl false))) (some (.inl false))) (fun y162 : Bool => cond y162 (iter LF (fun y163 : (Int × (List (Int × Int))) => cond (decide (y163.1 < (n.length : Int))) (((getI n y163.1)).bind fun r164 => ((getI n (w64 (y163.1 + (1 : Int))))).bind fun r165 => ((appC y163.2 [(r164, r165)])).bind fun r166 => some (.inl ((w64 (y163.1 + (2 : Int))), r166))) (outR (app6 s n y163.2))) ((1 : Int), ([] : List (Int × Int)))) (some (.inr (.inr (zeroS, ((w64 (i + (1 : Int))), (12 : Int))))))) : Option (StockK ⊕ XP)) = some (match (if w.data.toList = [104, 101, 97, 112] ∧ (3 ≤ n.length ∧ n.length % 2 = 1 ∧ isHoldB (n.getD 0 0) = true) then some (addHeap s (pairsL n.tail) (n.getD 0 0).toNat) else none) with | some s' => .inl s' | none => .inr (.inr (zeroS, (w64 (i + 1), 12)))) := by
  intro _
  by_cases h1 : w.data.toList = [104, 101, 97, 112]
  ·rw [show (w.data.toList == [104, 101, 97, 112]) = true from by rw [h1]; rfl, zT]
   by_cases h2 : 3 ≤ n.length
   ·rw [zE (show (n.length : Int) ≥ 3 by omega), zT]
    have em : Int.tmod (n.length : Int) 2 = ((n.length % 2 : Nat) : Int) := by rw [Int.tmod_eq_emod_of_nonneg (by omega)]; omega
    rw [em]
    by_cases h3 : n.length % 2 = 1
    ·rw [zE (show ((n.length % 2 : Nat) : Int) = 1 by omega), zT, show getI n 0 = some (n.getD 0 0) from getD_some (i := 0) (by omega)]
     rw [zB, G23_hold, zB, jin]
     cases h4 : isHoldB (n.getD 0 0) with
     | true =>
      rw [zT, if_pos ⟨h1, h2, h3, rfl⟩]
      have hb := inB_iff.1 h4
      obtain ⟨k, hk⟩ : ∃ k : Nat, n.getD 0 0 = (k : Int) := ⟨(n.getD 0 0).toNat, by omega⟩
      have hl := pairs_loop n (by omega) (fun h => app6 s n h) ((n.length - 1) / 2) 1 n.tail [] LF (by rw [List.length_tail]; omega) List.drop_one (by rw [List.length_tail]; omega) (by simp) (by rw [List.length_tail]; show _ < 9223372036854775808; omega)
      refine hl.trans ?_
      rw [List.nil_append, app6_ok (k := k) (by rw [← hk]; exact getD_some (i := 0) (by omega)) (by omega) (fun x hx => by have := m.h x hx; omega), hk]
      rfl
     | false =>
      rw [zF, if_neg (fun h => by cases h.2.2.2)]
    ·rw [zD (show ¬ ((n.length % 2 : Nat) : Int) = 1 by omega), zF, jin, zF, if_neg (fun h => h3 h.2.2.1)]
   ·rw [zD (show ¬ (n.length : Int) ≥ 3 by omega), zF, jin, zF, if_neg (fun h => h2 h.2.1)]
  ·rw [show (w.data.toList == [104, 101, 97, 112]) = false from by simpa using h1, zF, jin, zF, if_neg (fun h => h1 h.1)]
 by_cases h1 : w.data.toList = [108, 111, 116]
 ·rw [show (w.data.toList == [108, 111, 116]) = true from by rw [h1]; rfl, zT, jin]
  by_cases h2 : n.length = 4
  ·rw [zE (show (n.length : Int) = 4 by omega), zT, if_pos ⟨h1, h2⟩]
   rw [show getI n 0 = some (n.getD 0 0) from getD_some (i := 0) (by omega), show getI n 1 = some (n.getD 1 0) from getD_some (i := 1) (by omega), show getI n 2 = some (n.getD 2 0) from getD_some (i := 2) (by omega), show getI n 3 = some (n.getD 3 0) from getD_some (i := 3) (by omega)]
   rw [zB, zB, zB, zB, appC_of (by have := m.l; simp only [zC, zL]; omega)]
   rfl
  ·rw [zD (show ¬ (n.length : Int) = 4 by omega), zF, if_neg (fun h => h2 h.2)]
   exact heap fun h => h2 h.2
 ·rw [show (w.data.toList == [108, 111, 116]) = false from by simpa using h1, zF, jin, zF, if_neg (fun h => h1 h.1)]
  exact heap fun h => h1 h.1
end Go.K
namespace Go.K
open Go.Sl Go.Sx Go.Proofs
noncomputable def big6 (lf : Nat) (s : StockK) (i : Int) (r143 : List ByteArray) : Option (StockK ⊕ XP) :=
 (((getI r143 i)).bind fun r145 => ((fieldsC (fun y146 : Nat => (isSp y146)) r145)).bind fun r147 => cond (decide ((r147.length : Int) = (0 : Int))) (some (.inl (s.1, (s.2.1, (s.2.2.1, (s.2.2.2.1, (s.2.2.2.2.1, (s.2.2.2.2.2.1, (s.2.2.2.2.2.2.1, (s.2.2.2.2.2.2.2.1, (s.2.2.2.2.2.2.2.2.1, s.2.2.2.2.2.2.2.2.2))))))))))) (((byteAt r145 (0 : Int))).bind fun r148 => cond (decide (r148 = (35 : Int))) (some (.inl (s.1, (s.2.1, (s.2.2.1, (s.2.2.2.1, (s.2.2.2.2.1, (s.2.2.2.2.2.1, (s.2.2.2.2.2.2.1, (s.2.2.2.2.2.2.2.1, (s.2.2.2.2.2.2.2.2.1, s.2.2.2.2.2.2.2.2.2))))))))))) (((subI r147 (1 : Int) (r147.length : Int))).bind fun r149 => ((G22 lf (r149, (w64 (i + (1 : Int)))))).bind fun r150 => sm r150 (fun r151 : (List Int) => case6 lf s i r147 r151) (fun r196 : Int => outR (outR (some ((([] : List (Int × (Int × (Int × Int)))), (([] : List (List (Int × Int))), (([] : List (List (Int × Int))), (([] : List (List (Int × Int))), (([] : List (List (Int × Int))), (([] : List (List (Int × Int))), (([] : List (List (Int × Int))), (([] : List (List (Int × Int))), (([] : List (List (Int × Int))), ([] : List (List (Int × Int)))))))))))), (r196, (12 : Int)))))))))
noncomputable def fin6 (lf : Nat) (s : StockK) : Option PRk := ((G24 lf s)).bind fun r198 => cond (!(decide (r198 = (0 : Int)))) (some (zeroS, ((0 : Int), r198))) (some (s, ((0 : Int), (0 : Int))))
theorem G6_def (lf : Nat) (x : ByteArray) : G6 lf x = cond (decide ((x.size : Int) > (40000 : Int))) (some (zeroS, ((0 : Int), (2 : Int)))) (((splitC x (bts [10]))).bind fun r143 => iter lf (fun y144 : Int × StockK => cond (decide (y144.1 < (r143.length : Int))) (jn (big6 lf y144.2 y144.1 r143) (fun y197 : StockK => some (.inl ((w64 (y144.1 + (1 : Int))), y197)))) (outR (fin6 lf y144.2))) ((0 : Int), zeroS)) := by
 unfold G6
 simp only [ag_self, ar_self]
 rfl
theorem wd_ne : ∀ (r cur : List UInt8), ∀ u ∈ wd cur r, u ≠ [] ∧ u.length ≤ cur.length + r.length
 | [], cur, u, h => by
  unfold wd at h
  split at h
  ·cases h
  ·rename_i hc
   rcases List.mem_singleton.1 h with rfl
   exact ⟨hc, by simp⟩
 | b :: r, cur, u, h => by
  unfold wd at h
  split at h
  ·split at h
   ·rename_i hc; subst hc
    have := wd_ne r [] u h
    exact ⟨this.1, by simp only [zC, zL] at this ⊢; omega⟩
   ·rename_i hc
    rcases List.mem_cons.1 h with rfl | h
    ·exact ⟨hc, by simp only [zC]; omega⟩
    ·have := wd_ne r [] u h
     exact ⟨this.1, by simp only [zC, zL] at this ⊢; omega⟩
  ·have := wd_ne r (cur ++ [b]) u h
   exact ⟨this.1, by simp only [zC, List.length_append, zL] at this ⊢; omega⟩
theorem wordsB_ne {s w : ByteArray} (h : w ∈ wordsB s) : w.size ≠ 0 ∧ w.size ≤ s.size := by
 unfold wordsB at h
 obtain ⟨u, hu, rfl⟩ := List.mem_map.1 h
 have := wd_ne _ _ u hu
 rw [ofL_size, size_len s]
 have h0 : u.length ≠ 0 := fun e => this.1 (List.eq_nil_of_length_eq_zero e)
 exact ⟨h0, by simpa using this.2⟩
theorem wordsB_len (s : ByteArray) : (wordsB s).length ≤ s.size + 1 := by
 unfold wordsB
 rw [List.length_map, size_len]
 exact wd_len _ _
def lineSt (l : ByteArray) (i : Nat) (s : StockK) : StockK ⊕ PRk := match wordsB l with
 | [] => .inl s
 | w :: ws => if l.data.toList.head? = some 35 then .inl s
  else bif ws.all okW then (match caseS s w (ws.map valW) with
   | some s' => .inl s'
   | none => .inr (zeroS, (((i + 1 : Nat) : Int), 12)))
  else .inr (zeroS, (((i + 1 : Nat) : Int), 12))
def finS (s : StockK) : PRk := if chkE s = 0 then (s, (0, 0)) else (zeroS, (0, chkE s))
def parseB (t : ByteArray) : PRk := if 40000 < t.size then (zeroS, (0, 2)) else match foldS lineSt (linesB t) 0 zeroS with
 | .inl s => finS s
 | .inr e => e
theorem lineSt_sml {l : ByteArray} {i : Nat} {s s' : StockK} (m : Sml s i) (h : lineSt l i s = .inl s') : Sml s' (i + 1) := by
 unfold lineSt at h
 split at h
 ·cases h; exact m.up
 ·split at h
  ·cases h; exact m.up
  ·rename_i w ws hw _
   cases hb : ws.all okW with
   | false => rw [hb] at h; cases h
   | true =>
    rw [hb, zT] at h
    split at h
    ·rename_i s2 hc
     cases h
     exact caseS_sml m hc
    ·cases h
theorem lineSt_of {l : ByteArray} {i : Nat} {s : StockK} {w : ByteArray} {ws : List ByteArray} (h : wordsB l = w :: ws) : lineSt l i s = if l.data.toList.head? = some 35 then .inl s
  else bif ws.all okW then (match caseS s w (ws.map valW) with
   | some s' => .inl s'
   | none => .inr (zeroS, (((i + 1 : Nat) : Int), 12)))
  else .inr (zeroS, (((i + 1 : Nat) : Int), 12)) := by unfold lineSt; rw [h]
theorem lineSt_nil {l : ByteArray} {i : Nat} {s : StockK} (h : wordsB l = []) : lineSt l i s = .inl s := by unfold lineSt; rw [h]
theorem subI_tail {α : Type} (w : α) (ws : List α) : subI (w :: ws) 1 ((w :: ws).length : Int) = some ws := by
 unfold subI
 rw [if_pos (by simp only [zC]; omega)]
 simp
theorem words_head {l : ByteArray} {w : ByteArray} {ws : List ByteArray} (h : wordsB l = w :: ws) : ∃ c r, l.data.toList = c :: r := by
 cases hl : l.data.toList with
 | nil => unfold wordsB at h; rw [hl] at h; cases h
 | cons c r => exact ⟨c, r, rfl⟩
theorem zero_sml : Sml zeroS 0 := ⟨Nat.le_refl _, fun x hx => by
 simp only [holds, zeroS, List.mem_cons, List.not_mem_nil, or_false] at hx
 rcases hx with rfl | rfl | rfl | rfl | rfl | rfl | rfl | rfl | rfl <;> exact Nat.le_refl _⟩
theorem Sml.mono {s : StockK} {i j : Nat} (m : Sml s i) (h : i ≤ j) : Sml s j := ⟨Nat.le_trans m.l h, fun x hx => Nat.le_trans (m.h x hx) h⟩
theorem big6_ok {s : StockK} {i : Nat} {L : List ByteArray} {l : ByteArray} (hx : L[i]? = some l) (hi : i ≤ 50000) (hl : l.size ≤ 40000) (m : Sml s i) :
  big6 LF s i L = some (match lineSt l i s with | .inl s' => .inl s' | .inr e => .inr (.inr e)) := by
 unfold big6
 rw [getI_nat hx, zB, show (fun y146 : Nat => isSp y146) = is32 from rfl, fieldsC_wd (by omega), zB]
 cases hw : wordsB l with
 | nil =>
  rw [lineSt_nil hw, show (wd [] l.data.toList).map ofL = [] from hw]; rfl
 | cons w ws =>
  rw [show (wd [] l.data.toList).map ofL = w :: ws from hw]
  obtain ⟨c, r, hc⟩ := words_head hw
  have hb0 : byteAt l 0 = some ((c.toNat : Nat) : Int) := byteAt_nat (i := 0) (by rw [hc]; rfl)
  rw [zD (show ¬ (((w :: ws).length : Nat) : Int) = 0 by simp only [zC]; omega), zF, hb0, zB, lineSt_of hw, hc]
  by_cases h35 : c = 35
  ·subst h35
   rw [show (35 :: r : List UInt8).head? = some 35 from rfl, if_pos rfl]
   rfl
  ·rw [zD (show ¬ ((c.toNat : Nat) : Int) = 35 from fun h => h35 (b35.1 h)), zF, if_neg (by simpa using h35)]
   have hwl := wordsB_len l
   rw [hw, zC] at hwl
   have hne : ∀ u ∈ ws, u.size ≠ 0 ∧ u.size ≤ 1000000 := fun u hu => by
    have := wordsB_ne (s := l) (w := u) (by rw [hw]; exact List.mem_cons_of_mem _ hu)
    exact ⟨this.1, by omega⟩
   have hL := subI_tail w ws
   rw [hL, zB, G22_nums ws _ (by omega) hne, zB]
   cases hok : ws.all okW with
   | false =>
    rw [zF, zF, upW (show i + 1 < 9223372036854775808 by omega)]
    rfl
   | true =>
    rw [zT, zT]
    show case6 LF s i (w :: ws) (ws.map valW) = _
    rw [case6_ok (by rw [List.length_map]; omega) (m.mono (by omega)), upW (show i + 1 < 9223372036854775808 by omega)]
    cases caseS s w (ws.map valW) <;> rfl
theorem fin6_ok (s : StockK) : fin6 LF s = some (finS s) := by
 unfold fin6 finS
 rw [G24_chk, zB]
 by_cases h : chkE s = 0
 ·rw [zE h, if_pos h]; rfl
 ·rw [zD h, if_neg h]; rfl
theorem foldS_trim (l : List UInt8) (s : StockK) : foldS lineSt ((sp l).map ofL) 0 s = foldS lineSt ((lns l).map ofL) 0 s := by
 unfold lns trimE
 split
 ·rename_i h
  have hne := sp_ne l
  have e : sp l = (sp l).dropLast ++ [[]] := by
   have h1 := List.dropLast_concat_getLast hne
   rw [List.getLast?_eq_some_getLast hne] at h
   rw [Option.some.inj h] at h1
   exact h1.symm
  conv => lhs; rw [e]
  rw [List.map_append, foldS_app]
  cases foldS lineSt (List.map ofL (sp l).dropLast) 0 s with
  | inr e => rfl
  | inl s' => rfl
 ·rfl
theorem G6_parse (x : ByteArray) : G6 LF x = some (parseB x) := by
 rw [G6_def]
 unfold parseB
 by_cases h : 40000 < x.size
 ·rw [zE (show (x.size : Int) > 40000 by omega), if_pos h]; rfl
 ·rw [zD (show ¬ (x.size : Int) > 40000 by omega), if_neg h, zF, splitC_sp (by omega), zB]
  have hsz : x.data.toList.length ≤ 40000 := by rw [← size_len]; omega
  have hll := sp_len x.data.toList
  refine (iter_go (fun (i : Int) (s : StockK) => (i, s)) lineSt (fun i s => Sml s i) ((sp x.data.toList).map ofL) (fun s => some (finS s)) zeroS ?_ ?_ ?_ (by rw [List.length_map]; show _ < 9223372036854775808; omega) zero_sml).trans ?_
  ·intro i l s hx m
   have hi := gt_of hx
   rw [List.length_map] at hi
   have hl : l.size ≤ 40000 := by
    obtain ⟨u, hu, rfl⟩ := List.mem_map.1 (List.mem_of_getElem? hx)
    have := sp_mem _ u hu
    rw [ofL_size]; omega
   show cond (decide ((i : Int) < (((sp x.data.toList).map ofL).length : Int))) (jn (big6 LF s i ((sp x.data.toList).map ofL)) _) _ = _
   rw [decNN (by rw [List.length_map]; exact hi), zT, big6_ok hx (by omega) hl m]
   cases lineSt l i s with
   | inl s' =>
    show some (Sum.inl (w64 ((i : Int) + 1), s')) = _
    rw [upW (show i + 1 < 9223372036854775808 by omega)]
   | inr e => rfl
  ·intro i l s s' hx m he
   exact lineSt_sml m he
  ·intro s m
   show cond (decide (((((sp x.data.toList).map ofL).length : Nat) : Int) < (((sp x.data.toList).map ofL).length : Int))) _ (outR (fin6 LF s)) = _
   rw [decNn, zF, fin6_ok]
  ·rw [foldS_trim]
   unfold linesB
   cases foldS lineSt ((lns x.data.toList).map ofL) 0 zeroS <;> rfl
end Go.K
namespace Go.K
open Go.Sl Go.Sx Go.Proofs
def S7 : FuncId → Sp := fun g => match g with
 | 7 => { joins := [(7, [(.cell 5 0, .own (.pair .i (.pair .i (.pair .i .i))) 55), (.cell 5 1, .own (.sl (.pair .i .i)) 42), (.cell 5 2, .own (.sl (.pair .i .i)) 42), (.cell 5 3, .own (.sl (.pair .i .i)) 42), (.cell 5 4, .own (.sl (.pair .i .i)) 42), (.cell 5 5, .own (.sl (.pair .i .i)) 42), (.cell 5 6, .own (.sl (.pair .i .i)) 42), (.cell 5 7, .own (.sl (.pair .i .i)) 42), (.cell 5 8, .own (.sl (.pair .i .i)) 42), (.cell 5 9, .own (.sl (.pair .i .i)) 42)]), (14, [(.slot 102, .dat .bool)]), (12, [(.slot 58, .dat .bool)])], loops := [(17, [(.slot 12, .dat .i), (.cell 11 0, .own (.pair .i .i) 46)]), (6, [(.slot 7, .dat .i), (.cell 5 0, .own (.pair .i (.pair .i (.pair .i .i))) 55), (.cell 5 1, .own (.sl (.pair .i .i)) 42), (.cell 5 2, .own (.sl (.pair .i .i)) 42), (.cell 5 3, .own (.sl (.pair .i .i)) 42), (.cell 5 4, .own (.sl (.pair .i .i)) 42), (.cell 5 5, .own (.sl (.pair .i .i)) 42), (.cell 5 6, .own (.sl (.pair .i .i)) 42), (.cell 5 7, .own (.sl (.pair .i .i)) 42), (.cell 5 8, .own (.sl (.pair .i .i)) 42), (.cell 5 9, .own (.sl (.pair .i .i)) 42)])], fz := [(20, [(.cell 11 0, .dat (.sl (.pair .i .i)))])] }
 | _ => {}
noncomputable def F7 (P : Program) (lf : Nat) (x : tt [(false, .str)]) : Option (tt [(true, Yu), (false, .i), (false, .i)]) := fnF P (C33 P lf) S7 7 [(false, .str)] [(true, Yu), (false, .i), (false, .i)] lf x
noncomputable def C7 (P : Program) (lf : Nat) : FuncId → Option Con := extC (C33 P lf) 7 (dataCon [(false, .str)] [(true, Yu), (false, .i), (false, .i)] (F7 P lf))
end Go.K
namespace Go.K
open Go.Sl Go.Sx Go.Proofs
noncomputable def G7 (lf : Nat) (x : ByteArray) : Option ((Ys × (Int × Int))) :=
 cond (decide ((x.size : Int) > (40000 : Int))) (some ((([] : List (Int × (Int × (Int × Int)))), (([] : List (List (Int × Int))), (([] : List (List (Int × Int))), (([] : List (List (Int × Int))), (([] : List (List (Int × Int))), (([] : List (List (Int × Int))), (([] : List (List (Int × Int))), (([] : List (List (Int × Int))), (([] : List (List (Int × Int))), ([] : List (List (Int × Int)))))))))))), ((0 : Int), (2 : Int)))) (((G25 lf x)).bind fun r141 => iter lf (fun y142 : (Int × Ys) => cond (decide (y142.1 < (r141.length : Int))) (jn (((getI r141 y142.1)).bind fun r143 => ((G26 lf r143)).bind fun r144 => cond (decide ((r144.length : Int) = (0 : Int))) (some (.inl (y142.2.1, (y142.2.2.1, (y142.2.2.2.1, (y142.2.2.2.2.1, (y142.2.2.2.2.2.1, (y142.2.2.2.2.2.2.1, (y142.2.2.2.2.2.2.2.1, (y142.2.2.2.2.2.2.2.2.1, (y142.2.2.2.2.2.2.2.2.2.1, y142.2.2.2.2.2.2.2.2.2.2))))))))))) (((getI r141 y142.1)).bind fun r145 => ((byteAt r145 (0 : Int))).bind fun r146 => cond (decide (r146 = (35 : Int))) (some (.inl (y142.2.1, (y142.2.2.1, (y142.2.2.2.1, (y142.2.2.2.2.1, (y142.2.2.2.2.2.1, (y142.2.2.2.2.2.2.1, (y142.2.2.2.2.2.2.2.1, (y142.2.2.2.2.2.2.2.2.1, (y142.2.2.2.2.2.2.2.2.2.1, y142.2.2.2.2.2.2.2.2.2.2))))))))))) (((subI r144 (1 : Int) (r144.length : Int))).bind fun r147 => ((G27 lf r147)).bind fun r148 => jn (cond r148.2 (((getI r144 (0 : Int))).bind fun r149 => cond (r149.data.toList == [(UInt8.ofNat 108), (UInt8.ofNat 111), (UInt8.ofNat 116)]) (some (.inl (decide ((r148.1.length : Int) = (4 : Int))))) (some (.inl false))) (some (.inl false))) (fun y150 : Bool => cond y150 (((getI r148.1 (0 : Int))).bind fun r151 => ((getI r148.1 (1 : Int))).bind fun r152 => ((getI r148.1 (2 : Int))).bind fun r153 => ((getI r148.1 (3 : Int))).bind fun r154 => ((appC y142.2.1 [(r151, (r152, (r153, r154)))])).bind fun r155 => some (.inl (r155, (y142.2.2.1, (y142.2.2.2.1, (y142.2.2.2.2.1, (y142.2.2.2.2.2.1, (y142.2.2.2.2.2.2.1, (y142.2.2.2.2.2.2.2.1, (y142.2.2.2.2.2.2.2.2.1, (y142.2.2.2.2.2.2.2.2.2.1, y142.2.2.2.2.2.2.2.2.2.2))))))))))) (jn (cond (!r148.2) (some (.inl true)) (((getI r144 (0 : Int))).bind fun r156 => cond (!(r156.data.toList == [(UInt8.ofNat 104), (UInt8.ofNat 101), (UInt8.ofNat 97), (UInt8.ofNat 112)])) (some (.inl true)) (cond (decide ((r148.1.length : Int) < (3 : Int))) (some (.inl true)) (cond (decide ((Int.tmod (r148.1.length : Int) (2 : Int)) = (0 : Int))) (some (.inl true)) (((getI r148.1 (0 : Int))).bind fun r157 => ((G28 lf r157)).bind fun r158 => some (.inl (!r158))))))) (fun y159 : Bool => cond y159 (some (.inr (.inr ((([] : List (Int × (Int × (Int × Int)))), (([] : List (List (Int × Int))), (([] : List (List (Int × Int))), (([] : List (List (Int × Int))), (([] : List (List (Int × Int))), (([] : List (List (Int × Int))), (([] : List (List (Int × Int))), (([] : List (List (Int × Int))), (([] : List (List (Int × Int))), ([] : List (List (Int × Int)))))))))))), ((w64 (y142.1 + (1 : Int))), (12 : Int)))))) (iter lf (fun y160 : (Int × (List (Int × Int))) => cond (decide (y160.1 < (r148.1.length : Int))) (((getI r148.1 y160.1)).bind fun r161 => ((getI r148.1 (w64 (y160.1 + (1 : Int))))).bind fun r162 => ((appC y160.2 [(r161, r162)])).bind fun r163 => some (.inl ((w64 (y160.1 + (2 : Int))), r163))) (outR (((getI r148.1 (0 : Int))).bind fun r164 => ((getI r148.1 (0 : Int))).bind fun r165 => cond (decide (r165 = (0 : Int))) (ar (((appC y142.2.2.1 [y160.2])).bind fun r166 => cond (decide (r164 = (0 : Int))) (some (.inl (y142.2.1, (r166, (y142.2.2.2.1, (y142.2.2.2.2.1, (y142.2.2.2.2.2.1, (y142.2.2.2.2.2.2.1, (y142.2.2.2.2.2.2.2.1, (y142.2.2.2.2.2.2.2.2.1, (y142.2.2.2.2.2.2.2.2.2.1, y142.2.2.2.2.2.2.2.2.2.2))))))))))) (cond (decide (r164 = (1 : Int))) (none) (cond (decide (r164 = (2 : Int))) (none) (cond (decide (r164 = (3 : Int))) (none) (cond (decide (r164 = (4 : Int))) (none) (cond (decide (r164 = (5 : Int))) (none) (cond (decide (r164 = (6 : Int))) (none) (cond (decide (r164 = (7 : Int))) (none) (cond (decide (r164 = (8 : Int))) (none) ((outI)))))))))))) (cond (decide (r165 = (1 : Int))) (ar (((appC y142.2.2.2.1 [y160.2])).bind fun r169 => cond (decide (r164 = (0 : Int))) (none) (cond (decide (r164 = (1 : Int))) (some (.inl (y142.2.1, (y142.2.2.1, (r169, (y142.2.2.2.2.1, (y142.2.2.2.2.2.1, (y142.2.2.2.2.2.2.1, (y142.2.2.2.2.2.2.2.1, (y142.2.2.2.2.2.2.2.2.1, (y142.2.2.2.2.2.2.2.2.2.1, y142.2.2.2.2.2.2.2.2.2.2))))))))))) (cond (decide (r164 = (2 : Int))) (none) (cond (decide (r164 = (3 : Int))) (none) (cond (decide (r164 = (4 : Int))) (none) (cond (decide (r164 = (5 : Int))) (none) (cond (decide (r164 = (6 : Int))) (none) (cond (decide (r164 = (7 : Int))) (none) (cond (decide (r164 = (8 : Int))) (none) ((outI)))))))))))) (cond (decide (r165 = (2 : Int))) (ar (((appC y142.2.2.2.2.1 [y160.2])).bind fun r172 => cond (decide (r164 = (0 : Int))) (none) (cond (decide (r164 = (1 : Int))) (none) (cond (decide (r164 = (2 : Int))) (some (.inl (y142.2.1, (y142.2.2.1, (y142.2.2.2.1, (r172, (y142.2.2.2.2.2.1, (y142.2.2.2.2.2.2.1, (y142.2.2.2.2.2.2.2.1, (y142.2.2.2.2.2.2.2.2.1, (y142.2.2.2.2.2.2.2.2.2.1, y142.2.2.2.2.2.2.2.2.2.2))))))))))) (cond (decide (r164 = (3 : Int))) (none) (cond (decide (r164 = (4 : Int))) (none) (cond (decide (r164 = (5 : Int))) (none) (cond (decide (r164 = (6 : Int))) (none) (cond (decide (r164 = (7 : Int))) (none) (cond (decide (r164 = (8 : Int))) (none) ((outI)))))))))))) (cond (decide (r165 = (3 : Int))) (ar (((appC y142.2.2.2.2.2.1 [y160.2])).bind fun r175 => cond (decide (r164 = (0 : Int))) (none) (cond (decide (r164 = (1 : Int))) (none) (cond (decide (r164 = (2 : Int))) (none) (cond (decide (r164 = (3 : Int))) (some (.inl (y142.2.1, (y142.2.2.1, (y142.2.2.2.1, (y142.2.2.2.2.1, (r175, (y142.2.2.2.2.2.2.1, (y142.2.2.2.2.2.2.2.1, (y142.2.2.2.2.2.2.2.2.1, (y142.2.2.2.2.2.2.2.2.2.1, y142.2.2.2.2.2.2.2.2.2.2))))))))))) (cond (decide (r164 = (4 : Int))) (none) (cond (decide (r164 = (5 : Int))) (none) (cond (decide (r164 = (6 : Int))) (none) (cond (decide (r164 = (7 : Int))) (none) (cond (decide (r164 = (8 : Int))) (none) ((outI)))))))))))) (cond (decide (r165 = (4 : Int))) (ar (((appC y142.2.2.2.2.2.2.1 [y160.2])).bind fun r178 => cond (decide (r164 = (0 : Int))) (none) (cond (decide (r164 = (1 : Int))) (none) (cond (decide (r164 = (2 : Int))) (none) (cond (decide (r164 = (3 : Int))) (none) (cond (decide (r164 = (4 : Int))) (some (.inl (y142.2.1, (y142.2.2.1, (y142.2.2.2.1, (y142.2.2.2.2.1, (y142.2.2.2.2.2.1, (r178, (y142.2.2.2.2.2.2.2.1, (y142.2.2.2.2.2.2.2.2.1, (y142.2.2.2.2.2.2.2.2.2.1, y142.2.2.2.2.2.2.2.2.2.2))))))))))) (cond (decide (r164 = (5 : Int))) (none) (cond (decide (r164 = (6 : Int))) (none) (cond (decide (r164 = (7 : Int))) (none) (cond (decide (r164 = (8 : Int))) (none) ((outI)))))))))))) (cond (decide (r165 = (5 : Int))) (ar (((appC y142.2.2.2.2.2.2.2.1 [y160.2])).bind fun r181 => cond (decide (r164 = (0 : Int))) (none) (cond (decide (r164 = (1 : Int))) (none) (cond (decide (r164 = (2 : Int))) (none) (cond (decide (r164 = (3 : Int))) (none) (cond (decide (r164 = (4 : Int))) (none) (cond (decide (r164 = (5 : Int))) (some (.inl (y142.2.1, (y142.2.2.1, (y142.2.2.2.1, (y142.2.2.2.2.1, (y142.2.2.2.2.2.1, (y142.2.2.2.2.2.2.1, (r181, (y142.2.2.2.2.2.2.2.2.1, (y142.2.2.2.2.2.2.2.2.2.1, y142.2.2.2.2.2.2.2.2.2.2))))))))))) (cond (decide (r164 = (6 : Int))) (none) (cond (decide (r164 = (7 : Int))) (none) (cond (decide (r164 = (8 : Int))) (none) ((outI)))))))))))) (cond (decide (r165 = (6 : Int))) (ar (((appC y142.2.2.2.2.2.2.2.2.1 [y160.2])).bind fun r184 => cond (decide (r164 = (0 : Int))) (none) (cond (decide (r164 = (1 : Int))) (none) (cond (decide (r164 = (2 : Int))) (none) (cond (decide (r164 = (3 : Int))) (none) (cond (decide (r164 = (4 : Int))) (none) (cond (decide (r164 = (5 : Int))) (none) (cond (decide (r164 = (6 : Int))) (some (.inl (y142.2.1, (y142.2.2.1, (y142.2.2.2.1, (y142.2.2.2.2.1, (y142.2.2.2.2.2.1, (y142.2.2.2.2.2.2.1, (y142.2.2.2.2.2.2.2.1, (r184, (y142.2.2.2.2.2.2.2.2.2.1, y142.2.2.2.2.2.2.2.2.2.2))))))))))) (cond (decide (r164 = (7 : Int))) (none) (cond (decide (r164 = (8 : Int))) (none) ((outI)))))))))))) (cond (decide (r165 = (7 : Int))) (ar (((appC y142.2.2.2.2.2.2.2.2.2.1 [y160.2])).bind fun r187 => cond (decide (r164 = (0 : Int))) (none) (cond (decide (r164 = (1 : Int))) (none) (cond (decide (r164 = (2 : Int))) (none) (cond (decide (r164 = (3 : Int))) (none) (cond (decide (r164 = (4 : Int))) (none) (cond (decide (r164 = (5 : Int))) (none) (cond (decide (r164 = (6 : Int))) (none) (cond (decide (r164 = (7 : Int))) (some (.inl (y142.2.1, (y142.2.2.1, (y142.2.2.2.1, (y142.2.2.2.2.1, (y142.2.2.2.2.2.1, (y142.2.2.2.2.2.2.1, (y142.2.2.2.2.2.2.2.1, (y142.2.2.2.2.2.2.2.2.1, (r187, y142.2.2.2.2.2.2.2.2.2.2))))))))))) (cond (decide (r164 = (8 : Int))) (none) ((outI)))))))))))) (cond (decide (r165 = (8 : Int))) (ar (((appC y142.2.2.2.2.2.2.2.2.2.2 [y160.2])).bind fun r190 => cond (decide (r164 = (0 : Int))) (none) (cond (decide (r164 = (1 : Int))) (none) (cond (decide (r164 = (2 : Int))) (none) (cond (decide (r164 = (3 : Int))) (none) (cond (decide (r164 = (4 : Int))) (none) (cond (decide (r164 = (5 : Int))) (none) (cond (decide (r164 = (6 : Int))) (none) (cond (decide (r164 = (7 : Int))) (none) (cond (decide (r164 = (8 : Int))) (some (.inl (y142.2.1, (y142.2.2.1, (y142.2.2.2.1, (y142.2.2.2.2.1, (y142.2.2.2.2.2.1, (y142.2.2.2.2.2.2.1, (y142.2.2.2.2.2.2.2.1, (y142.2.2.2.2.2.2.2.2.1, (y142.2.2.2.2.2.2.2.2.2.1, r190))))))))))) ((outI)))))))))))) ((outI))))))))))))) ((1 : Int), ([] : List (Int × Int)))))))))) (fun y193 : Ys => some (.inl ((w64 (y142.1 + (1 : Int))), (y193.1, (y193.2.1, (y193.2.2.1, (y193.2.2.2.1, (y193.2.2.2.2.1, (y193.2.2.2.2.2.1, (y193.2.2.2.2.2.2.1, (y193.2.2.2.2.2.2.2.1, (y193.2.2.2.2.2.2.2.2.1, y193.2.2.2.2.2.2.2.2.2))))))))))))) (outR (((G29 lf (y142.2.1, (y142.2.2.1, (y142.2.2.2.1, (y142.2.2.2.2.1, (y142.2.2.2.2.2.1, (y142.2.2.2.2.2.2.1, (y142.2.2.2.2.2.2.2.1, (y142.2.2.2.2.2.2.2.2.1, (y142.2.2.2.2.2.2.2.2.2.1, y142.2.2.2.2.2.2.2.2.2.2))))))))))).bind fun r194 => cond (!(decide (r194 = (0 : Int)))) (some ((([] : List (Int × (Int × (Int × Int)))), (([] : List (List (Int × Int))), (([] : List (List (Int × Int))), (([] : List (List (Int × Int))), (([] : List (List (Int × Int))), (([] : List (List (Int × Int))), (([] : List (List (Int × Int))), (([] : List (List (Int × Int))), (([] : List (List (Int × Int))), ([] : List (List (Int × Int)))))))))))), ((0 : Int), (62 : Int)))) (some ((y142.2.1, (y142.2.2.1, (y142.2.2.2.1, (y142.2.2.2.2.1, (y142.2.2.2.2.2.1, (y142.2.2.2.2.2.2.1, (y142.2.2.2.2.2.2.2.1, (y142.2.2.2.2.2.2.2.2.1, (y142.2.2.2.2.2.2.2.2.2.1, y142.2.2.2.2.2.2.2.2.2.2))))))))), ((0 : Int), (0 : Int))))))) ((0 : Int), (([] : List (Int × (Int × (Int × Int)))), (([] : List (List (Int × Int))), (([] : List (List (Int × Int))), (([] : List (List (Int × Int))), (([] : List (List (Int × Int))), (([] : List (List (Int × Int))), (([] : List (List (Int × Int))), (([] : List (List (Int × Int))), (([] : List (List (Int × Int))), ([] : List (List (Int × Int))))))))))))))
theorem F7_G (lf : Nat) (x : ByteArray) : F7 Tryz.prog lf x = G7 lf x := by
 unfold G7
 simp only [← F25_G lf, ← F26_G lf, ← F27_G lf, ← F28_G lf, ← F29_G lf, ← Lib.toList_data]
 kernel_rfl
end Go.K
namespace Go.K
open Go.Sl Go.Sx Go.Proofs
noncomputable def case7 (lf : Nat) (s : StockK) (i : Int) (ws : List ByteArray) (n : List Int) (ok : Bool) : Option (StockK ⊕ XP) :=
 jn (cond ok (((getI ws (0 : Int))).bind fun r149 => cond (r149.data.toList == [(UInt8.ofNat 108), (UInt8.ofNat 111), (UInt8.ofNat 116)]) (some (.inl (decide ((n.length : Int) = (4 : Int))))) (some (.inl false))) (some (.inl false))) (fun y150 : Bool => cond y150 (((getI n (0 : Int))).bind fun r151 => ((getI n (1 : Int))).bind fun r152 => ((getI n (2 : Int))).bind fun r153 => ((getI n (3 : Int))).bind fun r154 => ((appC s.1 [(r151, (r152, (r153, r154)))])).bind fun r155 => some (.inl (r155, (s.2.1, (s.2.2.1, (s.2.2.2.1, (s.2.2.2.2.1, (s.2.2.2.2.2.1, (s.2.2.2.2.2.2.1, (s.2.2.2.2.2.2.2.1, (s.2.2.2.2.2.2.2.2.1, s.2.2.2.2.2.2.2.2.2))))))))))) (jn (cond (!ok) (some (.inl true)) (((getI ws (0 : Int))).bind fun r156 => cond (!(r156.data.toList == [(UInt8.ofNat 104), (UInt8.ofNat 101), (UInt8.ofNat 97), (UInt8.ofNat 112)])) (some (.inl true)) (cond (decide ((n.length : Int) < (3 : Int))) (some (.inl true)) (cond (decide ((Int.tmod (n.length : Int) (2 : Int)) = (0 : Int))) (some (.inl true)) (((getI n (0 : Int))).bind fun r157 => ((G28 lf r157)).bind fun r158 => some (.inl (!r158))))))) (fun y159 : Bool => cond y159 (some (.inr (.inr (zeroS, ((w64 (i + (1 : Int))), (12 : Int)))))) (iter lf (fun y160 : (Int × (List (Int × Int))) => cond (decide (y160.1 < (n.length : Int))) (((getI n y160.1)).bind fun r161 => ((getI n (w64 (y160.1 + (1 : Int))))).bind fun r162 => ((appC y160.2 [(r161, r162)])).bind fun r163 => some (.inl ((w64 (y160.1 + (2 : Int))), r163))) (outR (app6 s n y160.2))) ((1 : Int), ([] : List (Int × Int)))))))
noncomputable def big7 (lf : Nat) (s : StockK) (i : Int) (r141 : List ByteArray) : Option (StockK ⊕ XP) :=
 ((getI r141 i)).bind fun r143 => ((G26 lf r143)).bind fun r144 => cond (decide ((r144.length : Int) = (0 : Int))) (some (.inl s)) (((getI r141 i)).bind fun r145 => ((byteAt r145 (0 : Int))).bind fun r146 => cond (decide (r146 = (35 : Int))) (some (.inl s)) (((subI r144 (1 : Int) (r144.length : Int))).bind fun r147 => ((G27 lf r147)).bind fun r148 => case7 lf s i r144 r148.1 r148.2))
noncomputable def fin7 (lf : Nat) (s : StockK) : Option PRk := ((G29 lf s)).bind fun r194 => cond (!(decide (r194 = (0 : Int)))) (some (zeroS, ((0 : Int), (62 : Int)))) (some (s, ((0 : Int), (0 : Int))))
theorem G7_def (lf : Nat) (x : ByteArray) : G7 lf x = cond (decide ((x.size : Int) > (40000 : Int))) (some (zeroS, ((0 : Int), (2 : Int)))) (((G25 lf x)).bind fun r141 => iter lf (fun y142 : (Int × StockK) => cond (decide (y142.1 < (r141.length : Int))) (jn (big7 lf y142.2 y142.1 r141) (fun y193 : StockK => some (.inl ((w64 (y142.1 + (1 : Int))), y193)))) (outR (fin7 lf y142.2))) ((0 : Int), zeroS)) := by
 unfold G7
 simp only [ag_self, ar_self]
 rfl
theorem case7_no {s : StockK} {i : Int} {ws : List ByteArray} {n : List Int} : case7 LF s i ws n false = some (.inr (.inr (zeroS, (w64 (i + 1), 12)))) := rfl
theorem case7_ok {s : StockK} {i : Int} {w : ByteArray} {ws : List ByteArray} {n : List Int} (hn : n.length ≤ 100000) (m : Sml s 100000) :
  case7 LF s i (w :: ws) n true = some (match caseS s w n with | some s' => .inl s' | none => .inr (.inr (zeroS, (w64 (i + 1), 12)))) := by
 have e0 : getI (w :: ws) 0 = some w := rfl
 have eL : ([(UInt8.ofNat 108), (UInt8.ofNat 111), (UInt8.ofNat 116)] : List UInt8) = [108, 111, 116] := rfl
 have eH : ([(UInt8.ofNat 104), (UInt8.ofNat 101), (UInt8.ofNat 97), (UInt8.ofNat 112)] : List UInt8) = [104, 101, 97, 112] := rfl
 unfold case7 caseS
 rw [e0, eL, eH]
 simp only [zB, zT, Bool.not_true, zF]
 have heap : (jn (cond (!(w.data.toList == [104, 101, 97, 112])) (some (.inl true)) (cond (decide ((n.length : Int) < (3 : Int))) (some (.inl true)) (cond (decide ((Int.tmod (n.length : Int) (2 : Int)) = (0 : Int))) (some (.inl true)) (((getI n (0 : Int))).bind fun r157 => ((G28 LF r157)).bind fun r158 => some (.inl (!r158)))))) (fun y159 : Bool => cond y159 (some (.inr (.inr (zeroS, ((w64 (i + (1 : Int))), (12 : Int)))))) (iter LF (fun y160 : (Int × (List (Int × Int))) => cond (decide (y160.1 < (n.length : Int))) (((getI n y160.1)).bind fun r161 => ((getI n (w64 (y160.1 + (1 : Int))))).bind fun r162 => ((appC y160.2 [(r161, r162)])).bind fun r163 => some (.inl ((w64 (y160.1 + (2 : Int))), r163))) (outR (app6 s n y160.2))) ((1 : Int), ([] : List (Int × Int))))) : Option (StockK ⊕ XP)) = some (match (if w.data.toList = [104, 101, 97, 112] ∧ (3 ≤ n.length ∧ n.length % 2 = 1 ∧ isHoldB (n.getD 0 0) = true) then some (addHeap s (pairsL n.tail) (n.getD 0 0).toNat) else none) with | some s' => .inl s' | none => .inr (.inr (zeroS, (w64 (i + 1), 12)))) := by
  by_cases h1 : w.data.toList = [104, 101, 97, 112]
  ·rw [show (w.data.toList == [104, 101, 97, 112]) = true from by rw [h1]; rfl, Bool.not_true, zF]
   by_cases h2 : 3 ≤ n.length
   ·rw [zD (show ¬ (n.length : Int) < 3 by omega), zF]
    have em : Int.tmod (n.length : Int) 2 = ((n.length % 2 : Nat) : Int) := by rw [Int.tmod_eq_emod_of_nonneg (by omega)]; omega
    rw [em]
    by_cases h3 : n.length % 2 = 1
    ·rw [zD (show ¬ ((n.length % 2 : Nat) : Int) = 0 by omega), zF, show getI n 0 = some (n.getD 0 0) from getD_some (i := 0) (by omega)]
     rw [zB, G28_hold, zB, jin]
     cases h4 : isHoldB (n.getD 0 0) with
     | true =>
      rw [Bool.not_true, zF, if_pos ⟨h1, h2, h3, rfl⟩]
      have hb := inB_iff.1 h4
      obtain ⟨k, hk⟩ : ∃ k : Nat, n.getD 0 0 = (k : Int) := ⟨(n.getD 0 0).toNat, by omega⟩
      have hl := pairs_loop n (by omega) (fun h => app6 s n h) ((n.length - 1) / 2) 1 n.tail [] LF (by rw [List.length_tail]; omega) List.drop_one (by rw [List.length_tail]; omega) (by simp) (by rw [List.length_tail]; show _ < 9223372036854775808; omega)
      refine hl.trans ?_
      rw [List.nil_append, app6_ok (k := k) (by rw [← hk]; exact getD_some (i := 0) (by omega)) (by omega) (fun x hx => by have := m.h x hx; omega), hk]
      rfl
     | false =>
      rw [Bool.not_false, zT, if_neg (fun h => by cases h.2.2.2)]
    ·rw [zE (show ((n.length % 2 : Nat) : Int) = 0 by omega), zT, jin, zT, if_neg (fun h => h3 h.2.2.1)]
   ·rw [zE (show (n.length : Int) < 3 by omega), zT, jin, zT, if_neg (fun h => h2 h.2.1)]
  ·rw [show (w.data.toList == [104, 101, 97, 112]) = false from by simpa using h1, Bool.not_false, zT, jin, zT, if_neg (fun h => h1 h.1)]
 by_cases h1 : w.data.toList = [108, 111, 116]
 ·rw [show (w.data.toList == [108, 111, 116]) = true from by rw [h1]; rfl, zT, jin]
  by_cases h2 : n.length = 4
  ·rw [zE (show (n.length : Int) = 4 by omega), zT, if_pos ⟨h1, h2⟩]
   rw [show getI n 0 = some (n.getD 0 0) from getD_some (i := 0) (by omega), show getI n 1 = some (n.getD 1 0) from getD_some (i := 1) (by omega), show getI n 2 = some (n.getD 2 0) from getD_some (i := 2) (by omega), show getI n 3 = some (n.getD 3 0) from getD_some (i := 3) (by omega)]
   rw [zB, zB, zB, zB, appC_of (by have := m.l; simp only [zC, zL]; omega)]
   rfl
  ·rw [zD (show ¬ (n.length : Int) = 4 by omega), zF, if_neg (fun h => h2 h.2)]
   exact heap
 ·rw [show (w.data.toList == [108, 111, 116]) = false from by simpa using h1, zF, jin, zF, if_neg (fun h => h1 h.1)]
  exact heap
theorem big7_ok {s : StockK} {i : Nat} {L : List ByteArray} {l : ByteArray} (hx : L[i]? = some l) (hi : i ≤ 50000) (hl : l.size ≤ 40000) (m : Sml s i) :
  big7 LF s i L = some (match lineSt l i s with | .inl s' => .inl s' | .inr e => .inr (.inr e)) := by
 unfold big7
 rw [getI_nat hx, zB, G26_words l (by omega), zB]
 cases hw : wordsB l with
 | nil => rw [lineSt_nil hw]; rfl
 | cons w ws =>
  obtain ⟨c, r, hc⟩ := words_head hw
  have hb0 : byteAt l 0 = some ((c.toNat : Nat) : Int) := byteAt_nat (i := 0) (by rw [hc]; rfl)
  rw [zD (show ¬ (((w :: ws).length : Nat) : Int) = 0 by simp only [zC]; omega), zF, zB, hb0, zB, lineSt_of hw, hc]
  by_cases h35 : c = 35
  ·subst h35
   rw [show (35 :: r : List UInt8).head? = some 35 from rfl, if_pos rfl]
   rfl
  ·rw [zD (show ¬ ((c.toNat : Nat) : Int) = 35 from fun h => h35 (b35.1 h)), zF, if_neg (by simpa using h35)]
   have hwl := wordsB_len l
   rw [hw, zC] at hwl
   have hL := subI_tail w ws
   rw [hL, zB, G27_nums ws (by omega), zB]
   cases hok : ws.all okW with
   | false =>
    rw [zF, zF]
    show case7 LF s i (w :: ws) [] false = _
    rw [case7_no, upW (show i + 1 < 9223372036854775808 by omega)]
   | true =>
    rw [zT, zT]
    show case7 LF s i (w :: ws) (ws.map valW) true = _
    rw [case7_ok (by rw [List.length_map]; omega) (m.mono (by omega)), upW (show i + 1 < 9223372036854775808 by omega)]
    cases caseS s w (ws.map valW) <;> rfl
theorem fin7_ok (s : StockK) : fin7 LF s = some (finS s) := by
 unfold fin7 finS
 rw [G29_chk, zB]
 by_cases h : chkE s = 0
 ·rw [zE h, if_pos h]; rfl
 ·rw [zD h, if_neg h]
  rcases chk_zero (s := s) with h0 | h0
  ·exact absurd h0 h
  ·rw [h0]; rfl
theorem G7_parse (x : ByteArray) : G7 LF x = some (parseB x) := by
 rw [G7_def]
 unfold parseB
 by_cases h : 40000 < x.size
 ·rw [zE (show (x.size : Int) > 40000 by omega), if_pos h]; rfl
 ·rw [zD (show ¬ (x.size : Int) > 40000 by omega), if_neg h, zF, G25_lines (by omega), zB]
  have hll := linesB_len x
  refine (iter_go (fun (i : Int) (s : StockK) => (i, s)) lineSt (fun i s => Sml s i) (linesB x) (fun s => some (finS s)) zeroS ?_ ?_ ?_ (by show _ < 9223372036854775808; omega) zero_sml).trans ?_
  ·intro i l s hx m
   have hi := gt_of hx
   have hl : l.size ≤ 40000 := by have := linesB_size (List.mem_of_getElem? hx); omega
   show cond (decide ((i : Int) < ((linesB x).length : Int))) (jn (big7 LF s i (linesB x)) _) _ = _
   rw [decNN hi, zT, big7_ok hx (by omega) hl m]
   cases lineSt l i s with
   | inl s' =>
    show some (Sum.inl (w64 ((i : Int) + 1), s')) = _
    rw [upW (show i + 1 < 9223372036854775808 by omega)]
   | inr e => rfl
  ·intro i l s s' hx m he
   exact lineSt_sml m he
  ·intro s m
   show cond (decide ((((linesB x).length : Nat) : Int) < ((linesB x).length : Int))) _ (outR (fin7 LF s)) = _
   rw [decNn, zF, fin7_ok]
  ·cases foldS lineSt (linesB x) 0 zeroS <;> rfl
end Go.K
namespace Go.K
open Go.Sl Go.Sx Go.Proofs
def S10 : FuncId → Sp := fun g => match g with
 | 10 => { joins := [(11, [(.slot 4, .dat .str)]), (21, [(.slot 4, .dat .str)]), (18, [(.slot 4, .dat .str)]), (19, []), (15, [])], loops := [(17, [(.slot 4, .dat .str), (.slot 9, .dat .i)]), (13, [(.slot 4, .dat .str), (.slot 8, .dat .i)]), (10, [(.slot 4, .dat .str), (.slot 7, .dat .i)]), (5, [(.slot 4, .dat .str), (.slot 5, .dat .i)])] }
 | _ => {}
noncomputable def F10 (P : Program) (lf : Nat) (x : tt [(true, Yu)]) : Option (tt [(false, .str), (false, .i)]) := fnF P (C7 P lf) S10 10 [(true, Yu)] [(false, .str), (false, .i)] lf x
noncomputable def C10 (P : Program) (lf : Nat) : FuncId → Option Con := extC (C7 P lf) 10 (dataCon [(true, Yu)] [(false, .str), (false, .i)] (F10 P lf))
end Go.K
namespace Go.K
open Go.Sl Go.Sx Go.Proofs
abbrev S2 := ByteArray × Int
end Go.K
namespace Go.K
open Go.Sl Go.Sx Go.Proofs
def S3 : FuncId → Sp := fun _ => {}
noncomputable def F3 (P : Program) (lf : Nat) (x : tt [(false, .str)]) : Option (tt [(false, .bool)]) := fnF P (C10 P lf) S3 3 [(false, .str)] [(false, .bool)] lf x
theorem F3_eq (lf : Nat) (a0 : ByteArray) : F3 Tryz.prog lf a0 =
 ((F6 Tryz.prog lf a0)).bind fun r4 => ((F7 Tryz.prog lf a0)).bind fun r5 => ((F8 Tryz.prog lf ((r4.1.1, (r4.1.2.1, (r4.1.2.2.1, (r4.1.2.2.2.1, (r4.1.2.2.2.2.1, (r4.1.2.2.2.2.2.1, (r4.1.2.2.2.2.2.2.1, (r4.1.2.2.2.2.2.2.2.1, (r4.1.2.2.2.2.2.2.2.2.1, r4.1.2.2.2.2.2.2.2.2.2))))))))), (r5.1.1, (r5.1.2.1, (r5.1.2.2.1, (r5.1.2.2.2.1, (r5.1.2.2.2.2.1, (r5.1.2.2.2.2.2.1, (r5.1.2.2.2.2.2.2.1, (r5.1.2.2.2.2.2.2.2.1, (r5.1.2.2.2.2.2.2.2.2.1, r5.1.2.2.2.2.2.2.2.2.2)))))))))))).bind fun r6 => cond r6 (cond (decide (r4.2.1 = r5.2.1)) (some (decide (r4.2.2 = r5.2.2))) (some false)) (some false) := by kernel_rfl
end Go.K
namespace Go.K
open Go.Sl Go.Sx Go.Proofs
noncomputable def G3 (lf : Nat) (x : ByteArray) : Option (Bool) :=
 ((G6 lf x)).bind fun r4 => ((G7 lf x)).bind fun r5 => ((G8 lf ((r4.1.1, (r4.1.2.1, (r4.1.2.2.1, (r4.1.2.2.2.1, (r4.1.2.2.2.2.1, (r4.1.2.2.2.2.2.1, (r4.1.2.2.2.2.2.2.1, (r4.1.2.2.2.2.2.2.2.1, (r4.1.2.2.2.2.2.2.2.2.1, r4.1.2.2.2.2.2.2.2.2.2))))))))), (r5.1.1, (r5.1.2.1, (r5.1.2.2.1, (r5.1.2.2.2.1, (r5.1.2.2.2.2.1, (r5.1.2.2.2.2.2.1, (r5.1.2.2.2.2.2.2.1, (r5.1.2.2.2.2.2.2.2.1, (r5.1.2.2.2.2.2.2.2.2.1, r5.1.2.2.2.2.2.2.2.2.2)))))))))))).bind fun r6 => cond r6 (cond (decide (r4.2.1 = r5.2.1)) (some (decide (r4.2.2 = r5.2.2))) (some false)) (some false)
theorem F3_G (lf : Nat) (x : ByteArray) : F3 Tryz.prog lf x = G3 lf x := (F3_eq lf x).trans (by
 unfold G3
 (try simp only [F6_G, F7_G, F8_G, agree_self, Lib.toList_data]); first | done | rfl)
end Go.K
namespace Go.K
open Go.Sl Go.Sx Go.Proofs
theorem lineSt_err {l : ByteArray} {i : Nat} {s : StockK} {e : PRk} (h : lineSt l i s = .inr e) : e.1 = zeroS := by
 unfold lineSt at h
 split at h
 ·cases h
 ·split at h
  ·cases h
  ·rename_i w ws _ _
   cases hb : ws.all okW with
   | false => rw [hb] at h; cases h; rfl
   | true =>
    rw [hb, zT] at h
    split at h
    ·cases h
    ·cases h; rfl
theorem fold_err : ∀ (ls : List ByteArray) (i : Nat) (s : StockK) (e : PRk), foldS lineSt ls i s = .inr e → e.1 = zeroS
 | [], _, _, _, h => by cases h
 | l :: ls, i, s, e, h => by
  simp only [foldS] at h
  cases hc : lineSt l i s with
  | inl s' => rw [hc] at h; exact fold_err ls (i + 1) s' e h
  | inr e' => rw [hc] at h; cases h; exact lineSt_err hc
theorem zeroS_ok : StokOk zeroS := by
 have hz : ∀ h ∈ holds zeroS, h = [] := fun h hh => by
  simp only [holds, zeroS, List.mem_cons, List.not_mem_nil, or_false] at hh
  rcases hh with rfl | rfl | rfl | rfl | rfl | rfl | rfl | rfl | rfl <;> rfl
 exact ⟨Nat.zero_le _, fun x hx => (by cases hx), fun h hh => by rw [hz h hh]; exact Nat.zero_le _, fun h hh x hx => by rw [hz h hh] at hx; cases hx⟩
theorem parseB_ok (x : ByteArray) : StokOk (parseB x).1 := by
 unfold parseB
 split
 ·exact zeroS_ok
 ·cases hf : foldS lineSt (linesB x) 0 zeroS with
  | inl s =>
   show StokOk (finS s).1
   unfold finS
   split
   ·rename_i h; exact chk_ok h
   ·exact zeroS_ok
  | inr e =>
   show StokOk e.1
   rw [fold_err _ _ _ _ hf]
   exact zeroS_ok
theorem same_ok {s : StockK} (k : StokOk s) : G8 LF (s, s) = some true :=
 G8_refl s (Nat.lt_of_le_of_lt k.l40 (by show 40 < 9223372036854775808; omega)) fun h hh => ⟨Nat.lt_of_le_of_lt (k.h4 h hh) (by show 4 < 9223372036854775808; omega), fun x hx => Nat.lt_of_le_of_lt (k.parts h hh x hx).1.2 (by show 40 < 9223372036854775808; omega)⟩
theorem G3_true (x : ByteArray) : G3 LF x = some true := by
 unfold G3
 rw [G6_parse, zB, G7_parse, zB]
 have e := same_ok (parseB_ok x)
 refine Eq.trans (b := ((G8 LF ((parseB x).1, (parseB x).1)).bind fun r6 => cond r6 (cond (decide ((parseB x).2.1 = (parseB x).2.1)) (some (decide ((parseB x).2.2 = (parseB x).2.2))) (some false)) (some false))) rfl ?_
 rw [e, zB, zT, zE rfl, zT, zE rfl]
end Go.K
namespace Go.Proofs
open Go.Shelf Go.RowKit Go.Lib
set_option maxHeartbeats 1000000 in
set_option maxRecDepth 100000 in
theorem Tryz.copyChk_used (b : Nat) (w : World) (h0 : w.cell? ⟨b, 0, none⟩ = some (.pointer (some ⟨b, 0, none⟩))) :
  Calls Tryz.prog 84 #[.pointer (some ⟨b, 0, none⟩)] w fun e w' => e = .returned (.tuple #[]) ∧ w' = w := by
 obtain ⟨j, hj, _⟩ := Option.map_eq_some_iff.1 (show (Tryz.prog.info? 73).map (·.size) = some 2 by kernel_rfl)
 go_enter Tryz.func84, Tryz.ntmps84
 go_wp2
 rw [Lib.run_neq_ptr_same w _ Tryz.underlying70 hj]
 go_wp2
 go_end0
 exact ⟨rfl, rfl⟩
set_option maxHeartbeats 1000000 in
set_option maxRecDepth 100000 in
theorem Tryz.copyChk_fresh (b : Nat) (w : World) (h0 : w.cell? ⟨b, 0, none⟩ = some (.pointer none)) (hsh : w.shape? b = some (73, 2)) (hfz : w.frozen? ⟨b, 0, none⟩ = false) :
  Calls Tryz.prog 84 #[.pointer (some ⟨b, 0, none⟩)] w fun e w' => e = .returned (.tuple #[]) ∧ w' = w.setCell ⟨b, 0, none⟩ (.pointer (some ⟨b, 0, none⟩)) := by
 obtain ⟨j, hj, hjs⟩ := Option.map_eq_some_iff.1 (show (Tryz.prog.info? 73).map (·.size) = some 2 by kernel_rfl)
 go_enter Tryz.func84, Tryz.ntmps84
 go_wp2
 rw [Lib.run_to_unsafe w ⟨b, 0, none⟩ Tryz.underlying70 Tryz.underlying159 hj (by rw [hjs]; decide) hsh (Nat.zero_lt_succ 1)]
 simp only [Result.andThen]
 rw [Oper.upon_value]
 go_wp2
 rw [run_callFunc_extern Tryz.func103 (by kernel_rfl) (by kernel_rfl) (by kernel_rfl) (e := Extern.AbiNoEscape.same) (by kernel_rfl)]
 rw [Lib.run_noEscape]
 simp only [Result.andThen]
 rw [Oper.upon_value]
 go_wp2
 rw [Lib.run_from_unsafe w ⟨b, 0, none⟩ Tryz.underlying159 Tryz.underlying70 hj hsh (show liesAt Tryz.prog Tryz.prog.depth 73 (2 / Tryz.prog.cellsOf 73) 0 73 1 = true by kernel_rfl)]
 simp only [Result.andThen]
 rw [Oper.upon_value]
 go_wp2
 go_end0
 exact ⟨rfl, rfl⟩
theorem Tryz.isBlank (W : World) (r : Nat) : FnGives Tryz.prog 21 #[] #[encR r] (.bool (Nat.beq r 32)) W := by
 unfold FnGives
 have e : Nat.beq r 32 = decide ((r : Int) = 32) := by
  cases h : Nat.beq r 32 with
  | true => have := zN h; simp; omega
  | false => have := Nat.ne_of_beq_eq_false h; simp; omega
 rw [e]
 go_enter Tryz.func21, Tryz.ntmps21
 go_wp2
 go_ret
 exact ⟨rfl, 0, rfl⟩
end Go.Proofs
namespace Go.Sx
open Go.Sl
section
variable {β : Type} {f : β → Value} {h h' : Zone} {L : List Atom} {w : World}
def getK : List (Int × β) → Int → Option β
 | [], _ => none
 | p :: D, k => bif p.1 == k then some p.2 else getK D k
def putK : List (Int × β) → Int → β → List (Int × β)
 | [], k, v => [(k, v)]
 | p :: D, k, v => bif decide (k < p.1) then (k, v) :: p :: D else bif k == p.1 then (k, v) :: D else p :: putK D k v
def Rise (D : List (Int × β)) : Prop := D.Pairwise fun p q => p.1 < q.1
theorem putK_mem : ∀ {D : List (Int × β)} {k : Int} {v : β}, Rise D → ∀ j u, (j, u) ∈ putK D k v ↔ (j = k ∧ u = v) ∨ (j ≠ k ∧ (j, u) ∈ D)
 | [], k, v, _, j, u => by simp only [putK, List.mem_singleton, Prod.mk.injEq, List.not_mem_nil, and_false, or_false]
 | p :: D, k, v, hr, j, u => by
  have hp := List.pairwise_cons.1 hr
  unfold putK
  by_cases h1 : k < p.1
  ·simp only [h1, decide_true, zT, List.mem_cons, Prod.mk.injEq]
   constructor
   ·rintro (h | h | h)
    ·exact .inl h
    ·refine .inr ⟨?_, .inl h⟩
     have : j = p.1 := by rw [← h]
     omega
    ·have := hp.1 _ h
     simp only at this
     exact .inr ⟨by omega, .inr h⟩
   ·rintro (h | ⟨_, h⟩)
    ·exact .inl h
    ·exact .inr h
  ·simp only [h1, decide_false, zF]
   by_cases h2 : k = p.1
   ·subst h2
    simp only [beq_self_eq_true, zT, List.mem_cons, Prod.mk.injEq]
    constructor
    ·rintro (h | h)
     ·exact .inl h
     ·have := hp.1 _ h
      simp only at this
      exact .inr ⟨by omega, .inr h⟩
    ·rintro (h | ⟨h, h' | h'⟩)
     ·exact .inl h
     ·exact absurd (by rw [← h']) h
     ·exact .inr h'
   ·have h3 : (k == p.1) = false := by simpa using h2
    simp only [h3, zF, List.mem_cons]
    rw [putK_mem hp.2]
    constructor
    ·rintro (h | h | ⟨h, h'⟩)
     ·refine .inr ⟨?_, .inl h⟩
      have : j = p.1 := by rw [← h]
      omega
     ·exact .inl h
     ·exact .inr ⟨h, .inr h'⟩
    ·rintro (h | ⟨h, h' | h'⟩)
     ·exact .inr (.inl h)
     ·exact .inl h'
     ·exact .inr (.inr ⟨h, h'⟩)
theorem putK_rise : ∀ {D : List (Int × β)} {k : Int} {v : β}, Rise D → Rise (putK D k v)
 | [], k, v, _ => List.pairwise_singleton _ _
 | p :: D, k, v, hr => by
  have hp := List.pairwise_cons.1 hr
  unfold putK
  by_cases h1 : k < p.1
  ·simp only [h1, decide_true, zT]
   exact List.pairwise_cons.2 ⟨fun q hq => by
    rcases List.mem_cons.1 hq with rfl | hq
    ·exact h1
    ·have := hp.1 q hq; simp only; omega, hr⟩
  ·simp only [h1, decide_false, zF]
   by_cases h2 : k = p.1
   ·subst h2
    simp only [beq_self_eq_true, zT]
    exact List.pairwise_cons.2 ⟨hp.1, hp.2⟩
   ·have h3 : (k == p.1) = false := by simpa using h2
    simp only [h3, zF]
    refine List.pairwise_cons.2 ⟨fun q hq => ?_, putK_rise hp.2⟩
    obtain ⟨j, u⟩ := q
    rcases (putK_mem hp.2 j u).1 hq with ⟨rfl, _⟩ | ⟨_, hq⟩
    ·simp only; omega
    ·exact hp.1 _ hq
theorem getK_mem : ∀ {D : List (Int × β)} {k : Int} {v : β}, Rise D → (getK D k = some v ↔ (k, v) ∈ D)
 | [], k, v, _ => by simp [getK]
 | p :: D, k, v, hr => by
  have hp := List.pairwise_cons.1 hr
  unfold getK
  by_cases h1 : p.1 = k
  ·subst h1
   simp only [beq_self_eq_true, zT, zI, List.mem_cons]
   constructor
   ·rintro rfl; exact .inl rfl
   ·rintro (h | h)
    ·rw [← h]
    ·have := hp.1 _ h; simp only at this; omega
  ·have h3 : (p.1 == k) = false := by simpa using h1
   simp only [h3, zF, List.mem_cons]
   rw [getK_mem hp.2]
   constructor
   ·exact .inr
   ·rintro (h | h)
    ·exact absurd (by rw [← h]) h1
    ·exact h
theorem getK_none {D : List (Int × β)} {k : Int} (hr : Rise D) (h : ∀ v, (k, v) ∉ D) : getK D k = none := by
 cases e : getK D k with
 | none => rfl
 | some v => exact absurd ((getK_mem hr).1 e) (h v)
theorem rise_ext : ∀ {D E : List (Int × β)}, Rise D → Rise E → (∀ p, p ∈ D ↔ p ∈ E) → D = E
 | [], [], _, _, _ => rfl
 | [], q :: E, _, _, h => by have := (h q).2 (by simp); cases this
 | p :: D, [], _, _, h => by have := (h p).1 (by simp); cases this
 | p :: D, q :: E, hD, hE, h => by
  have hp := List.pairwise_cons.1 hD
  have hq := List.pairwise_cons.1 hE
  have e : p = q := by
   rcases List.mem_cons.1 ((h p).1 (by simp)) with e | e
   ·exact e
   ·rcases List.mem_cons.1 ((h q).2 (by simp)) with e' | e'
    ·exact e'.symm
    ·have h1 := hq.1 _ e; have h2 := hp.1 _ e'; omega
  subst e
  congr 1
  refine rise_ext hp.2 hq.2 fun r => ?_
  have hr := h r
  simp only [List.mem_cons] at hr
  constructor
  ·intro hm
   rcases hr.1 (.inr hm) with e | e
   ·subst e; have := hp.1 _ hm; omega
   ·exact e
  ·intro hm
   rcases hr.2 (.inr hm) with e | e
   ·subst e; have := hq.1 _ hm; omega
   ·exact e
def ent (f : β → Value) (t : Int × β × Nat) : MapEntry := { key := .int .i64 t.1, val := f t.2.1, born := t.2.2 }
structure MapM (l : List (Int × β × Nat)) (clock : Nat) (D : List (Int × β)) : Prop where
 rise : Rise D
 keys : (l.map (·.1)).Nodup
 borns : (l.map (·.2.2)).Nodup
 old : ∀ t ∈ l, t.2.2 < clock
 mem : ∀ k v, (k, v) ∈ D ↔ ∃ b, (k, v, b) ∈ l
def mobj (f : β → Value) (l : List (Int × β × Nat)) (clock : Nat) : Obj := .map (l.map (ent f)).toArray clock
theorem MapM.nil : MapM ([] : List (Int × β × Nat)) 0 [] := ⟨List.Pairwise.nil, List.nodup_nil, List.nodup_nil, by simp, by simp⟩
def MapR (f : β → Value) (h : Zone) (o : Option Nat) (D : List (Int × β)) : Prop :=
 (o = none ∧ D = []) ∨ ∃ r l clock, o = some r ∧ h.blk r = some (mobj f l clock) ∧ MapM l clock D
theorem MapR.mono (k : h.le h') {o : Option Nat} {D : List (Int × β)} (s : MapR f h o D) : MapR f h' o D := by
 rcases s with s | ⟨r, l, clock, e, hb, hm⟩
 ·exact .inl s
 ·exact .inr ⟨r, l, clock, e, k.blk _ _ hb, hm⟩
theorem MapR.nil' (f : β → Value) (h : Zone) : MapR f h none [] := .inl ⟨rfl, rfl⟩
def mapA (f : β → Value) (r : Nat) (D : List (Int × β)) : Atom :=
 ⟨fun _ z => ∃ l clock, z = Hp.one r (mobj f l clock) ∧ MapM l clock D, fun _ _ _ _ e => e⟩
def Ty.map (f : β → Value) : Ty (List (Int × β)) where
 size := 1
 rep h cs D := ∃ o, cs = [.map o] ∧ MapR f h o D
 len := by rintro h cs x ⟨o, rfl, _⟩; rfl
 one := by rintro h cs x ⟨o, rfl, _⟩ v hv; simp only [List.mem_singleton] at hv; subst hv; rfl
 mono := by rintro h h' cs x k ⟨o, e, s⟩; exact ⟨o, e, s.mono k⟩
theorem mapRep {o : Option Nat} {D : List (Int × β)} (s : MapR f h o D) : (Ty.map f).rep h [.map o] D := ⟨o, rfl, s⟩
theorem _root_.Go.Sl.St.mapShare (s : St h L w) {j : Nat} {r : Nat} {D : List (Int × β)} (hj : L[j]? = some (mapA f r D)) :
  ∃ h', h.le h' ∧ St h' (L.set j emp) w ∧ MapR f h' (some r) D := by
 obtain ⟨h', x, hle, hx, hxb, hs⟩ := s.freeze hj
 obtain ⟨l, clock, rfl, hm⟩ := hx
 exact ⟨h', hle, hs, .inr ⟨r, l, clock, rfl, Hp.one_le.1 hxb, hm⟩⟩
theorem findNow_ent {k : Int} : ∀ (l : List (Int × β × Nat)) (i : Nat),
  (Instr.findNow (.int .i64) (.int .i64 k) (l.map (ent f)) i = some none ∧ ∀ v b, (k, v, b) ∉ l) ∨
  ∃ j v b, l[j]? = some (k, v, b) ∧ Instr.findNow (.int .i64) (.int .i64 k) (l.map (ent f)) i = some (some (i + j, f v))
 | [], i => .inl ⟨rfl, by simp⟩
 | (k', v', b') :: l, i => by
  by_cases e : k' = k
  ·subst e
   exact .inr ⟨0, v', b', rfl, by simp [Instr.findNow, Instr.sameNow, ent]⟩
  ·have e' : ¬ k = k' := fun h => e h.symm
   have e2 : (k == k') = false := by simpa using e'
   rcases findNow_ent l (i + 1) with ⟨h1, h2⟩ | ⟨j, v, b, h1, h2⟩
   ·refine .inl ⟨by simpa [Instr.findNow, Instr.sameNow, ent, e2] using h1, fun v b hm => ?_⟩
    rcases List.mem_cons.1 hm with h | h
    ·simp only [Prod.mk.injEq] at h; exact e' h.1
    ·exact h2 v b h
   ·refine ⟨j + 1, v, b, h1, ?_⟩ |> .inr
    have : i + (j + 1) = i + 1 + j := by omega
    rw [this]
    simpa [Instr.findNow, Instr.sameNow, ent, e2] using h2
theorem isKey_int (k : Int) : MapKept.IsKey (.int .i64) (.int .i64 k) := by simp [MapKept.IsKey]
theorem toList_mobj (l : List (Int × β × Nat)) : (l.map (ent f)).toArray.toList = l.map (ent f) := rfl
structure MapOK (P : Program) (t : TypeId) (z : Value) : Prop where
 ex : ∃ kt et, P.underlying t = some (.map kt et) ∧ P.underlying kt = some (.int .i64) ∧ ∀ w, (zeroValue et).run P w = .ok z w
theorem MapOK.of {P : Program} {t kt et : TypeId} {z : Value} (h1 : P.underlying t = some (.map kt et)) (h2 : P.underlying kt = some (.int .i64)) (h3 : runO P (zeroValue et) [] = some (z, [], [])) : MapOK P t z :=
 ⟨kt, et, h1, h2, fun w => runO_sound (w := w) _ h3 (by simp)⟩
def LookR (f : β → Value) (w : World) (o : Option Nat) (D : List (Int × β)) : Prop :=
 (o = none ∧ D = []) ∨ ∃ r l clock, o = some r ∧ w.heap[r]? = some (mobj f l clock) ∧ MapM l clock D
theorem St.blk (s : St h L w) {r : Nat} {o : Obj} (e : h.blk r = some o) : w.heap[r]? = some o := by
 obtain ⟨z, _, _, hb, _⟩ := s.sep
 exact hb _ _ e
theorem MapR.look {o : Option Nat} {D : List (Int × β)} (m : MapR f h o D) (s : St h L w) : LookR f w o D := by
 rcases m with m | ⟨r, l, clock, e, hb, hm⟩
 ·exact .inl m
 ·exact .inr ⟨r, l, clock, e, St.blk s hb, hm⟩
theorem LookR.drew {o : Option Nat} {D : List (Int × β)} (m : LookR f w o D) : LookR f w.drew o D := m
def lkK (D : List (Int × β)) (k : Int) (z : β) : β := (getK D k).getD z
def hasK (D : List (Int × β)) (k : Int) : Bool := (getK D k).isSome
theorem LookR.run {P : Program} {t : TypeId} {o : Option Nat} {D : List (Int × β)} {k : Int} {c : Bool} {z : β} (m : LookR f w o D) (hM : MapOK P t (f z)) :
  (Instr.lookup t (.map o) (.int .i64 k) c).run P w = .ok (bif c then .tuple #[f (lkK D k z), .bool (hasK D k)] else f (lkK D k z)) w := by
 obtain ⟨kt, et, h1, h2, h3⟩ := hM.ex
 rcases m with ⟨rfl, rfl⟩ | ⟨r, l, clock, rfl, hb, hm⟩
 ·have g : Instr.findNow (.int .i64) (.int .i64 k) (#[] : Array MapEntry).toList 0 = some none := rfl
  unfold Instr.lookup
  simp only [Sem.run_bind, run_underlying h1, Result.andThen_ok, Sem.run_pure, MapKept.run_checkKey h2 (isKey_int k), MapKept.run_findKey h2 g, h3, lkK, hasK, getK, Option.getD_none, Option.isSome_none]
  cases c <;> rfl
 ·unfold Instr.lookup
  rcases findNow_ent (f := f) (k := k) l 0 with ⟨g1, g2⟩ | ⟨j, v, b, g1, g2⟩
  ·have hn : getK D k = none := getK_none hm.rise fun v hv => by obtain ⟨b, hb⟩ := (hm.mem k v).1 hv; exact g2 v b hb
   simp only [Sem.run_bind, run_underlying h1, Result.andThen_ok, Sem.run_pure, MapKept.run_getObj_map hb, toList_mobj, MapKept.run_checkKey h2 (isKey_int k), MapKept.run_findKey h2 g1, h3, lkK, hasK, hn, Option.getD_none, Option.isSome_none]
   cases c <;> rfl
  ·have hn : getK D k = some v := (getK_mem hm.rise).2 ((hm.mem k v).2 ⟨b, List.mem_of_getElem? g1⟩)
   simp only [Sem.run_bind, run_underlying h1, Result.andThen_ok, Sem.run_pure, MapKept.run_getObj_map hb, toList_mobj, MapKept.run_checkKey h2 (isKey_int k), MapKept.run_findKey h2 g2, lkK, hasK, hn, Option.getD_some, Option.isSome_some]
   cases c <;> rfl
theorem modify_map {γ δ : Type} (g : γ → δ) (p : δ → δ) (q : γ → γ) (e : ∀ x, p (g x) = g (q x)) : ∀ (l : List γ) (j : Nat), (l.map g).modify j p = (l.modify j q).map g
 | [], j => by simp
 | x :: l, 0 => by simp [e]
 | x :: l, j + 1 => by simp [modify_map g p q e l j]
theorem mem_modify {γ : Type} {p : γ → γ} : ∀ {l : List γ} {j : Nat} {x : γ}, l[j]? = some x → ∀ y, y ∈ l.modify j p ↔ y = p x ∨ ∃ i, i ≠ j ∧ l[i]? = some y
 | [], j, x, h, y => by simp at h
 | a :: l, 0, x, h, y => by
  simp only [List.getElem?_cons_zero, zI] at h
  subst h
  simp only [List.modify_zero_cons, List.mem_cons]
  constructor
  ·rintro (h | h)
   ·exact .inl h
   ·obtain ⟨i, hi⟩ := List.getElem?_of_mem h
    exact .inr ⟨i + 1, by omega, by simpa using hi⟩
  ·rintro (h | ⟨i, hne, hi⟩)
   ·exact .inl h
   ·cases i with
    | zero => exact absurd rfl hne
    | succ i => exact .inr (List.mem_of_getElem? (by simpa using hi))
 | a :: l, j + 1, x, h, y => by
  simp only [List.getElem?_cons_succ] at h
  simp only [List.modify_succ_cons, List.mem_cons, mem_modify h y]
  constructor
  ·rintro (rfl | h | ⟨i, hne, hi⟩)
   ·exact .inr ⟨0, by omega, by simp⟩
   ·exact .inl h
   ·exact .inr ⟨i + 1, by omega, by simpa using hi⟩
  ·rintro (h | ⟨i, hne, hi⟩)
   ·exact .inr (.inl h)
   ·cases i with
    | zero => simp only [List.getElem?_cons_zero, zI] at hi; exact .inl hi.symm
    | succ i => exact .inr (.inr ⟨i, by omega, by simpa using hi⟩)
theorem key_inj : ∀ {l : List (Int × β × Nat)}, (l.map (·.1)).Nodup → ∀ {i j : Nat} {k : Int} {x y : β × Nat}, l[i]? = some (k, x) → l[j]? = some (k, y) → i = j := by
 intro l hn i j k x y hi hj
 have h1 : (l.map (·.1))[i]? = some k := by rw [List.getElem?_map, hi]; rfl
 have h2 : (l.map (·.1))[j]? = some k := by rw [List.getElem?_map, hj]; rfl
 exact (List.getElem?_inj (List.getElem?_eq_some_iff.1 h1).1 hn).1 (h1.trans h2.symm)
theorem map_modify_same {γ δ : Type} (g : γ → δ) (q : γ → γ) : ∀ (l : List γ) (j : Nat), (∀ x, l[j]? = some x → g (q x) = g x) → (l.modify j q).map g = l.map g
 | [], j, _ => by simp
 | x :: l, 0, e => by simp [e x (by simp)]
 | x :: l, j + 1, e => by simp [map_modify_same g q l j (fun y hy => e y (by simpa using hy))]
theorem MapM.put {l : List (Int × β × Nat)} {clock : Nat} {D : List (Int × β)} (m : MapM l clock D) {j : Nat} {k : Int} {u v : β} {b : Nat} (hj : l[j]? = some (k, u, b)) :
  MapM (l.modify j fun t => (k, v, t.2.2)) clock (putK D k v) := by
 refine ⟨putK_rise m.rise, ?_, ?_, fun t ht => ?_, fun k' v' => ?_⟩
 ·rw [map_modify_same]
  ·exact m.keys
  ·intro x hx; rw [hj] at hx; simp only [zI] at hx; subst hx; rfl
 ·rw [map_modify_same]
  ·exact m.borns
  ·intro x hx; rfl
 ·rcases (mem_modify hj t).1 ht with rfl | ⟨i, _, hi⟩
  ·exact m.old (k, u, b) (List.mem_of_getElem? hj)
  ·exact m.old _ (List.mem_of_getElem? hi)
 ·rw [putK_mem m.rise]
  constructor
  ·rintro (⟨rfl, rfl⟩ | ⟨hne, hm⟩)
   ·exact ⟨b, (mem_modify hj _).2 (.inl rfl)⟩
   ·obtain ⟨b', hb'⟩ := (m.mem _ _).1 hm
    obtain ⟨i, hi⟩ := List.getElem?_of_mem hb'
    refine ⟨b', (mem_modify hj _).2 (.inr ⟨i, fun e => ?_, hi⟩)⟩
    subst e; rw [hj] at hi; simp only [zI, Prod.mk.injEq] at hi; exact hne hi.1.symm
  ·rintro ⟨b', hb'⟩
   rcases (mem_modify hj _).1 hb' with e | ⟨i, hne, hi⟩
   ·simp only [Prod.mk.injEq] at e; exact .inl ⟨e.1, e.2.1⟩
   ·refine .inr ⟨fun e => hne ?_, (m.mem _ _).2 ⟨b', List.mem_of_getElem? hi⟩⟩
    subst e
    exact key_inj m.keys hi hj
theorem MapM.push {l : List (Int × β × Nat)} {clock : Nat} {D : List (Int × β)} (m : MapM l clock D) {k : Int} {v : β} (hk : ∀ v b, (k, v, b) ∉ l) :
  MapM (l ++ [(k, v, clock)]) (clock + 1) (putK D k v) := by
 refine ⟨putK_rise m.rise, ?_, ?_, fun t ht => ?_, fun k' v' => ?_⟩
 ·rw [List.map_append, List.nodup_append]
  refine ⟨m.keys, by simp, fun a ha b hb => ?_⟩
  obtain ⟨⟨k0, v0, b0⟩, ht, rfl⟩ := List.mem_map.1 ha
  simp only [List.map_cons, List.map_nil, List.mem_singleton] at hb
  subst hb
  intro e
  simp only at e
  subst e
  exact hk _ _ ht
 ·rw [List.map_append, List.nodup_append]
  refine ⟨m.borns, by simp, fun a ha b hb => ?_⟩
  obtain ⟨t, ht, rfl⟩ := List.mem_map.1 ha
  simp only [List.map_cons, List.map_nil, List.mem_singleton] at hb
  have := m.old _ ht
  omega
 ·rcases List.mem_append.1 ht with ht | ht
  ·have := m.old _ ht; omega
  ·simp only [List.mem_singleton] at ht; subst ht; simp
 ·rw [putK_mem m.rise]
  constructor
  ·rintro (⟨rfl, rfl⟩ | ⟨hne, hm⟩)
   ·exact ⟨clock, by simp⟩
   ·obtain ⟨b', hb'⟩ := (m.mem _ _).1 hm
    exact ⟨b', List.mem_append_left _ hb'⟩
  ·rintro ⟨b', hb'⟩
   rcases List.mem_append.1 hb' with hb' | hb'
   ·exact .inr ⟨fun e => hk v' b' (e ▸ hb'), (m.mem _ _).2 ⟨b', hb'⟩⟩
   ·simp only [List.mem_singleton, Prod.mk.injEq] at hb'; exact .inl ⟨hb'.1, hb'.2.1⟩
theorem run_put {P : Program} {t : TypeId} {z : Value} {r : Nat} {l : List (Int × β × Nat)} {clock : Nat} {D : List (Int × β)} {k : Int} {v : β} (hM : MapOK P t z) (hb : w.heap[r]? = some (mobj f l clock)) (m : MapM l clock D) :
  ∃ l' clock', (Instr.mapUpdate t (.map (some r)) (.int .i64 k) (f v)).run P w = .ok () { w with heap := w.heap.setIfInBounds r (mobj f l' clock') } ∧ MapM l' clock' (putK D k v) := by
 obtain ⟨kt, et, h1, h2, _⟩ := hM.ex
 rcases findNow_ent (f := f) (k := k) l 0 with ⟨g1, g2⟩ | ⟨j, u, b, g1, g2⟩
 ·refine ⟨l ++ [(k, v, clock)], clock + 1, ?_, m.push g2⟩
  unfold Instr.mapUpdate
  simp only [Sem.run_bind, run_underlying h1, Result.andThen_ok, MapKept.run_getObj_map hb, toList_mobj, MapKept.run_checkKey h2 (isKey_int k), MapKept.run_findKey h2 g1, MapKept.run_setObj_map _ hb]
  simp [mobj, ent]
 ·refine ⟨l.modify j fun t => (k, v, t.2.2), clock, ?_, m.put g1⟩
  have e1 : ((l.map (ent f)).toArray[0 + j]?.map (·.key)).getD (.int .i64 k) = .int .i64 k := by
   rw [Nat.zero_add]
   simp [g1, ent]
  unfold Instr.mapUpdate
  simp only [Sem.run_bind, run_underlying h1, Result.andThen_ok, MapKept.run_getObj_map hb, toList_mobj, MapKept.run_checkKey h2 (isKey_int k), MapKept.run_findKey h2 g2, MapKept.run_setObj_map _ hb, e1, MapKept.run_keyThatStays (isKey_int k)]
  rw [Nat.zero_add, List.modify_toArray, modify_map (ent f) _ (fun t => (k, v, t.2.2)) (fun x => rfl)]
  rfl
theorem _root_.Go.Sl.St.turn (s : St h L w) {j r : Nat} {A B : Atom} {o o' : Obj} (hj : L[j]? = some A) (hA : ∀ z, A.P h z → z = Hp.one r o) (hB : B.P h (Hp.one r o')) : St h (L.set j B) { w with heap := w.heap.setIfInBounds r o' } := by
 obtain ⟨x, hx, hxw, _, hset⟩ := s.focus hj
 have hx' := hA x hx
 subst hx'
 have h1 : w.heap[r]? = some o := Hp.one_le.1 hxw
 have h2 := MapKept.heap_set (o' := o') h1
 refine hset _ _ _ hB (Hp.one_le.2 h2.1) (fun k _ hne => h2.2 k fun e => ?_) (fun k o'' hk => ?_) rfl rfl rfl
 ·subst e; simp [Hp.one] at hne
 ·right; unfold Hp.one at hk ⊢; split at hk <;> simp_all
end
section
variable {β : Type} {f : β → Value} {h h' : Zone} {L : List Atom} {w : World}
variable {P : Program} {a : Act} {N : Nat} {fl : FL} {ds : List Deferred} {ε : Px} {R : Array Oper} {m : List Nat} {S : World → Prop} {K : Act → World → Prop} {pl : List (Nat × Bool)}
def lookAt (R : Array Oper) (N : Nat) (pl : List (Nat × Bool)) (fl : FL) : Option (Nat × Option Nat × TypeId × Option Nat × Int × Bool) :=
 match opAt R N pl fl with
 | some (i, o) => match o.op with
  | .lookup t x k c => match ev fl x, ev fl k with
   | .map r, .int .i64 n => some (i, o.dst, t, r, n, c)
   | _, _ => none
  | _ => none
 | none => none
theorem p_lookup {i : Nat} {d : Option Nat} {t : TypeId} {o : Option Nat} {k : Int} {c : Bool} {z : β} {D : List (Int × β)} (hf : Fr a N fl ds) (ho : lookAt R N pl fl = some (i, d, t, o, k, c)) (hM : MapOK P t (f z)) (hD : LookR f w o D)
  (kk : ∀ a', Fr a' N (putF fl d (bif c then .tuple #[f (lkK D k z), .bool (hasK D k)] else f (lkK D k z))) ds → (m.contains i = false → S w) ∧ wpPlan ε P R m S K pl.tail a' w) : wpPlan ε P R m S K pl a w := by
 unfold lookAt at ho
 cases h1 : opAt R N pl fl with
 | none => rw [h1] at ho; simp at ho
 | some q =>
  obtain ⟨i', op⟩ := q
  rw [h1] at ho
  simp only at ho
  split at ho
  ·rename_i t' x k' c' hop
   split at ho
   ·rename_i r n hx hk
    simp only [zI, Prod.mk.injEq] at ho
    obtain ⟨rfl, rfl, rfl, rfl, rfl, rfl⟩ := ho
    refine p_val hf h1 ?_ kk
    have := hD.run (P := P) (t := t') (k := n) (c := c') hM
    simp [execOp, hop, hx, hk, this, Result.andThen]
   ·cases ho
  ·cases ho
def putAt (R : Array Oper) (N : Nat) (pl : List (Nat × Bool)) (fl : FL) : Option (Nat × TypeId × Nat × Int × Value) :=
 match opAt R N pl fl with
 | some (i, o) => match o.op, o.dst with
  | .mapUpdate t m k v, none => match ev fl m, ev fl k with
   | .map (some r), .int .i64 n => some (i, t, r, n, ev fl v)
   | _, _ => none
  | .insert t m k v, none => match ev fl m, ev fl k with
   | .map (some r), .int .i64 n => some (i, t, r, n, ev fl v)
   | _, _ => none
  | _, _ => none
 | none => none
theorem putAt_run {i : Nat} {t : TypeId} {r : Nat} {k : Int} {v : Value} {w' : World} (ho : putAt R N pl fl = some (i, t, r, k, v)) (hst : (Instr.mapUpdate t (.map (some r)) (.int .i64 k) v).run P w = .ok () w') :
  ∃ o, opAt R N pl fl = some (i, o) ∧ o.dst = none ∧ (execOp (ev fl) o).run P w = .ok .skip w' := by
 unfold putAt at ho
 cases h1 : opAt R N pl fl with
 | none => rw [h1] at ho; simp at ho
 | some q =>
  obtain ⟨i', o⟩ := q
  rw [h1] at ho
  simp only at ho
  split at ho
  ·rename_i t' x k' v' hop hdst
   split at ho
   ·rename_i r' n hx hk
    simp only [zI, Prod.mk.injEq] at ho
    obtain ⟨rfl, rfl, rfl, rfl, rfl⟩ := ho
    exact ⟨o, rfl, hdst, by simp [execOp, hop, hx, hk, hst, Result.andThen]⟩
   ·cases ho
  ·rename_i t' x k' v' hop hdst
   split at ho
   ·rename_i r' n hx hk
    simp only [zI, Prod.mk.injEq] at ho
    obtain ⟨rfl, rfl, rfl, rfl, rfl⟩ := ho
    exact ⟨o, rfl, hdst, by simp [execOp, hop, hx, hk, hst, Result.andThen]⟩
   ·cases ho
  ·cases ho
theorem p_put {i j : Nat} {t : TypeId} {z : Value} {r : Nat} {k : Int} {v : β} {D : List (Int × β)} (hS : St h L w) (hf : Fr a N fl ds) (hj : L[j]? = some (mapA f r D)) (ho : putAt R N pl fl = some (i, t, r, k, f v)) (hM : MapOK P t z)
  (kk : ∀ w' a', St h (L.set j (mapA f r (putK D k v))) w' → Fr a' N fl ds → (m.contains i = false → S w') ∧ wpPlan ε P R m S K pl.tail a' w') : wpPlan ε P R m S K pl a w := by
 obtain ⟨x, ⟨l, clock, rfl, hm⟩, hxw, _, _⟩ := hS.focus hj
 obtain ⟨l', clock', hrun, hm'⟩ := run_put (k := k) (v := v) hM (Hp.one_le.1 hxw) hm
 obtain ⟨o, hop, hd, hex⟩ := putAt_run ho hrun
 refine p_skip hf hop hex fun a' hf' => ?_
 rw [hd] at hf'
 refine kk _ a' ?_ hf'
 obtain ⟨x, hx, hxw', _, hset⟩ := hS.focus hj
 have h1 : w.heap[r]? = some (mobj f l clock) := Hp.one_le.1 hxw
 obtain ⟨l2, c2, e2, _⟩ := hx
 subst e2
 have h2 := MapKept.heap_set (o' := mobj f l' clock') h1
 refine hset _ _ (Hp.one r (mobj f l' clock')) ⟨l', clock', rfl, hm'⟩ (Hp.one_le.2 h2.1) (fun k _ hne => h2.2 k fun e => ?_) (fun k o'' hk => ?_) rfl rfl rfl
 ·subst e; simp [Hp.one] at hne
 ·right; unfold Hp.one at hk ⊢; split at hk <;> simp_all
theorem p_makeMap {i : Nat} {d : Option Nat} (f : β → Value) (hS : St h L w) (hf : Fr a N fl ds) (he : ∀ b, newAt P R N pl fl b = some (i, d, .map #[] 0, .map (some b)))
  (k : ∀ b w' a', St h (mapA f b [] :: L) w' → Fr a' N (putF fl d (.map (some b))) ds → (m.contains i = false → S w') ∧ wpPlan ε P R m S K pl.tail a' w') : wpPlan ε P R m S K pl a w :=
 p_new (o := fun _ => .map #[] 0) (v := fun b => .map (some b)) hS hf he fun b w' a' hS' hf' => k b w' a' (hS'.conv (i := 0) rfl fun z hz => ⟨[], 0, hz, MapM.nil⟩) hf'
def iterA (f : β → Value) (b : Nat) (left : List (Int × β)) : Atom :=
 ⟨fun h z => (z = Hp.one b (.mapIter none 0 #[] 0) ∧ left = []) ∨ ∃ m l clock seen c0, ∃ D : List (Int × β), h.blk m = some (mobj f l clock) ∧ MapM l clock D ∧ z = Hp.one b (.mapIter (some m) clock seen c0) ∧ clock ≤ c0 ∧ left = (l.filter fun t => !seen.contains t.2.2).map (fun t => (t.1, t.2.1)),
  fun _ _ _ k e => e.imp (fun x => x) fun ⟨m, l, clock, seen, c0, D, e1, e2⟩ => ⟨m, l, clock, seen, c0, D, k.blk _ _ e1, e2⟩⟩
def iterE (f : β → Value) (b : Nat) (left : List (Int × β)) (k : Int) (v : β) : Atom :=
 ⟨fun h z => ∃ (m : Nat) (l : List (Int × β × Nat)) (clock : Nat) (seen : Array Nat) (born : Nat), ∃ D : List (Int × β), h.blk m = some (mobj f l clock) ∧ MapM l clock D ∧ z = Hp.one b (.mapIter (some m) clock (seen.push born) clock) ∧ (k, v, born) ∈ l ∧ left = (l.filter fun t => !(seen.push born).contains t.2.2).map (fun t => (t.1, t.2.1)),
  fun _ _ _ k ⟨m, l, clock, seen, born, D, e1, e2⟩ => ⟨m, l, clock, seen, born, D, k.blk _ _ e1, e2⟩⟩
theorem iterE_A {b : Nat} {left : List (Int × β)} {k : Int} {v : β} (z : Hp) (e : (iterE f b left k v).P h z) : (iterA f b left).P h z := by
 obtain ⟨m, l, clock, seen, born, D, e1, e2, e3, _, e4⟩ := e
 exact .inr ⟨m, l, clock, seen.push born, clock, D, e1, e2, e3, Nat.le_refl _, e4⟩
def rangeAt (R : Array Oper) (N : Nat) (pl : List (Nat × Bool)) (fl : FL) : Option (Nat × Option Nat × TypeId × Option Nat) :=
 match opAt R N pl fl with
 | some (i, o) => match o.op with
  | .range t x => match ev fl x with
   | .map r => some (i, o.dst, t, r)
   | _ => none
  | _ => none
 | none => none
theorem filter_none (l : List (Int × β × Nat)) : (l.filter fun t => !(#[] : Array Nat).contains t.2.2) = l := List.filter_eq_self.2 (fun _ _ => by simp)
theorem p_range {i : Nat} {d : Option Nat} {t : TypeId} {o : Option Nat} {z : Value} {D : List (Int × β)} (hS : St h L w) (hf : Fr a N fl ds) (ho : rangeAt R N pl fl = some (i, d, t, o)) (hM : MapOK P t z) (hD : MapR f h o D)
  (kk : ∀ b w' a' left, (∀ p, p ∈ left ↔ p ∈ D) → St h (iterA f b left :: L) w' → Fr a' N (putF fl d (.pointer (some ⟨b, 0, none⟩))) ds → (m.contains i = false → S w') ∧ wpPlan ε P R m S K pl.tail a' w') : wpPlan ε P R m S K pl a w := by
 obtain ⟨kt, et, h1, h2, _⟩ := hM.ex
 unfold rangeAt at ho
 cases e1 : opAt R N pl fl with
 | none => rw [e1] at ho; simp at ho
 | some q =>
  obtain ⟨i', op⟩ := q
  rw [e1] at ho
  simp only at ho
  split at ho
  ·rename_i t' x hop
   split at ho
   ·rename_i r hx
    simp only [zI, Prod.mk.injEq] at ho
    obtain ⟨rfl, rfl, rfl, rfl⟩ := ho
    rcases hD with ⟨rfl, rfl⟩ | ⟨r, l, clock, rfl, hb, hm⟩
    ·have hrun := run_range_nilMap (P := P) w t' kt et h1
     refine p_val hf e1 (by simp [execOp, hop, hx, hrun, Result.andThen]) fun a' hf' => kk _ _ a' [] (by simp) (hS.new _ _ (.inl ⟨rfl, rfl⟩)) hf'
    ·have hrun := run_range_map (P := P) w t' kt et r _ clock h1 (St.blk hS hb)
     refine p_val hf e1 (by simp [execOp, hop, hx, hrun, Result.andThen]) fun a' hf' => kk _ _ a' (l.map fun t => (t.1, t.2.1)) (fun p => ?_) (hS.new _ _ (.inr ⟨r, l, clock, #[], clock, D, hb, hm, rfl, Nat.le_refl _, congrArg (List.map fun t : Int × β × Nat => (t.1, t.2.1)) (filter_none l).symm⟩)) hf'
     obtain ⟨k, v⟩ := p
     rw [hm.mem, List.mem_map]
     constructor
     ·rintro ⟨⟨k', v', b'⟩, ht, e⟩; simp only [Prod.mk.injEq] at e; obtain ⟨rfl, rfl⟩ := e; exact ⟨b', ht⟩
     ·rintro ⟨b, hb'⟩; exact ⟨_, hb', rfl⟩
   ·cases ho
  ·cases ho
def nextAt (R : Array Oper) (N : Nat) (pl : List (Nat × Bool)) (fl : FL) : Option (Nat × Option Nat × Nat) :=
 match opAt R N pl fl with
 | some (i, o) => match o.op with
  | .next x false => match ev fl x with
   | .pointer (some ⟨b, 0, none⟩) => some (i, o.dst, b)
   | _ => none
  | _ => none
 | none => none
theorem p_next {i j b : Nat} {d : Option Nat} {left : List (Int × β)} (hS : St h L w) (hf : Fr a N fl ds) (ho : nextAt R N pl fl = some (i, d, b)) (hj : L[j]? = some (iterA f b left))
  (k0 : left = [] → ∀ a', Fr a' N (putF fl d (.tuple #[.bool false])) ds → (m.contains i = false → S w) ∧ wpPlan ε P R m S K pl.tail a' w)
  (k1 : ∀ (k : Int) (v : β) left' w' a', (∀ p, p ∈ left ↔ p = (k, v) ∨ p ∈ left') → left'.length < left.length → St h (L.set j (iterE f b left' k v)) w' → Fr a' N (putF fl d (.tuple #[.bool true, .int .i64 k, f v])) ds → (m.contains i = false → S w') ∧ wpPlan ε P R m S K pl.tail a' w') : wpPlan ε P R m S K pl a w := by
 unfold nextAt at ho
 cases e1 : opAt R N pl fl with
 | none => rw [e1] at ho; simp at ho
 | some q =>
  obtain ⟨i', op⟩ := q
  rw [e1] at ho
  simp only at ho
  split at ho
  ·rename_i x hop
   split at ho
   ·rename_i b' hx
    simp only [zI, Prod.mk.injEq] at ho
    obtain ⟨rfl, rfl, rfl⟩ := ho
    obtain ⟨x0, hx0, hxw, hdx, hset⟩ := hS.focus hj
    rcases hx0 with ⟨rfl, rfl⟩ | ⟨m', l, clock, seen, c0, D, hb, hm, rfl, hc, rfl⟩
    ·have hr : w.heap[b']? = some (.mapIter none 0 #[] 0) := Hp.one_le.1 hxw
     have hrun : (Instr.next (.pointer (some ⟨b', 0, none⟩)) false op.type).run P w = .ok (.tuple #[.bool false]) w := by
      simp only [Instr.next, getObj, Sem.run_bind, Sem.run, hr, Result.andThen]
      rfl
     exact p_val hf e1 (by simp [execOp, hop, hx, hrun, Result.andThen]) fun a' hf' => k0 rfl a' hf'
    ·have hr : w.heap[b']? = some (.mapIter (some m') clock seen c0) := Hp.one_le.1 hxw
     have hb' : w.heap[m']? = some (.map (l.map (ent f)).toArray clock) := St.blk hS hb
     have hne : m' ≠ b' := fun e => by
      subst e
      rcases hdx m' with e | e
      ·rw [hb] at e; cases e
      ·simp [Hp.one] at e
     have hleft : (leftOf (l.map (ent f)).toArray seen).toList = (l.filter fun t => !seen.contains t.2.2).map (ent f) := by
      unfold leftOf
      rw [Array.toList_filter, toList_mobj, List.filter_map]
      rfl
     rcases run_next_at (P := P) w op.type b' m' clock c0 seen _ clock hr hb' (fun x hx => by
       rw [toList_mobj] at hx
       obtain ⟨t, ht, rfl⟩ := List.mem_map.1 hx
       exact hm.old t ht) hc with ⟨h0, hrun⟩ | ⟨e, he, w1, hal, hrun⟩
     ·refine p_val hf e1 (by simp [execOp, hop, hx, hrun, Result.andThen]) fun a' hf' => k0 ?_ a' hf'
      have : (leftOf (l.map (ent f)).toArray seen).toList = [] := List.eq_nil_of_length_eq_zero (by simpa using h0)
      rw [hleft] at this
      simp only [List.map_eq_nil_iff] at this
      rw [this]; rfl
     ·rw [hleft] at he
      obtain ⟨⟨k, v, born⟩, ht, rfl⟩ := List.mem_map.1 he
      have htl : (k, v, born) ∈ l := (List.mem_filter.1 ht).1
      have hsn : seen.contains born = false := by simpa using (List.mem_filter.1 ht).2
      have hr1 : w1.heap[b']? = some (.mapIter (some m') clock seen c0) := by rcases hal with rfl | rfl <;> exact hr
      have h2 := MapKept.heap_set (o' := .mapIter (some m') clock (seen.push born) clock) hr1
      have hrun' : (Instr.next (.pointer (some ⟨b', 0, none⟩)) false op.type).run P w = .ok (.tuple #[.bool true, .int .i64 k, f v]) (Go.ChangeMaps.setBlock w1 b' (.mapIter (some m') clock (seen.push born) clock)) := hrun
      refine p_val hf e1 (by simp [execOp, hop, hx, hrun', Result.andThen]; rfl) fun a' hf' => k1 k v ((l.filter fun t => !(seen.push born).contains t.2.2).map fun t => (t.1, t.2.1)) _ a' (fun p => ?_) ?_ ?_ hf'
      ·simp only [List.mem_map, List.mem_filter]
       constructor
       ·rintro ⟨t, ⟨ht1, ht2⟩, rfl⟩
        by_cases hb2 : t.2.2 = born
        ·left
         have hi := List.getElem?_of_mem ht1
         have hj2 := List.getElem?_of_mem htl
         obtain ⟨i1, hi⟩ := hi
         obtain ⟨j1, hj2⟩ := hj2
         have g1 : (l.map (·.2.2))[i1]? = some born := by rw [List.getElem?_map, hi]; simp [hb2]
         have g2 : (l.map (·.2.2))[j1]? = some born := by rw [List.getElem?_map, hj2]; rfl
         have := (List.getElem?_inj (List.getElem?_eq_some_iff.1 g1).1 hm.borns).1 (g1.trans g2.symm)
         subst this
         rw [hi] at hj2
         simp only [zI] at hj2
         subst hj2; rfl
        ·refine .inr ⟨t, ⟨ht1, ?_⟩, rfl⟩
         rw [contains_push]
         simp only [Bool.not_or, za]
         exact ⟨ht2, by simpa using hb2⟩
       ·rintro (rfl | ⟨t, ⟨ht1, ht2⟩, rfl⟩)
        ·exact ⟨_, ⟨htl, by simpa using hsn⟩, rfl⟩
        ·refine ⟨t, ⟨ht1, ?_⟩, rfl⟩
         rw [contains_push] at ht2
         simp only [Bool.not_or, za] at ht2
         exact ht2.1
      ·have h3 := left_shrinks (l.map (ent f)).toArray seen (ent f (k, v, born)) (by rw [hleft]; exact List.mem_map.2 ⟨_, ht, rfl⟩)
       have hleft2 : (leftOf (l.map (ent f)).toArray (seen.push born)).toList = (l.filter fun t => !(seen.push born).contains t.2.2).map (ent f) := by
        unfold leftOf
        rw [Array.toList_filter, toList_mobj, List.filter_map]
        rfl
       have l1 := congrArg List.length hleft
       have l2 := congrArg List.length hleft2
       simp only [Array.length_toList, List.length_map] at l1 l2
       have e3 : (ent f (k, v, born)).born = born := rfl
       rw [e3, l1, l2] at h3
       simpa only [List.length_map] using h3
      ·have hz : (iterE f b' ((l.filter fun t => !(seen.push born).contains t.2.2).map fun t => (t.1, t.2.1)) k v).P h (Hp.one b' (.mapIter (some m') clock (seen.push born) clock)) := ⟨m', l, clock, seen, born, D, hb, hm, rfl, htl, rfl⟩
       have hw1 : ∀ k : Nat, w1.heap[k]? = w.heap[k]? := by rcases hal with rfl | rfl <;> exact fun _ => rfl
       refine hset _ _ _ hz (Hp.one_le.2 h2.1) (fun q _ hq => ?_) (fun q o'' hq => ?_) (by rcases hal with rfl | rfl <;> rfl) (by rcases hal with rfl | rfl <;> rfl) (by rcases hal with rfl | rfl <;> rfl)
       ·exact (h2.2 q fun e => by subst e; simp [Hp.one] at hq).trans (hw1 q)
       ·right; unfold Hp.one at hq ⊢; split at hq <;> simp_all
   ·cases ho
  ·cases ho
def entryAt (R : Array Oper) (N : Nat) (pl : List (Nat × Bool)) (fl : FL) : Option (Nat × Option Nat × Nat) :=
 match opAt R N pl fl with
 | some (i, o) => match o.op with
  | .entry x => match ev fl x with
   | .pointer (some ⟨b, 0, none⟩) => some (i, o.dst, b)
   | _ => none
  | _ => none
 | none => none
theorem p_entry {i j b : Nat} {d : Option Nat} {left : List (Int × β)} {k : Int} {v : β} (hS : St h L w) (hf : Fr a N fl ds) (ho : entryAt R N pl fl = some (i, d, b)) (hj : L[j]? = some (iterE f b left k v))
  (kk : ∀ a', Fr a' N (putF fl d (.tuple #[.int .i64 k, f v])) ds → (m.contains i = false → S w) ∧ wpPlan ε P R m S K pl.tail a' w) : wpPlan ε P R m S K pl a w := by
 unfold entryAt at ho
 cases e1 : opAt R N pl fl with
 | none => rw [e1] at ho; simp at ho
 | some q =>
  obtain ⟨i', op⟩ := q
  rw [e1] at ho
  simp only at ho
  split at ho
  ·rename_i x hop
   split at ho
   ·rename_i b' hx
    simp only [zI, Prod.mk.injEq] at ho
    obtain ⟨rfl, rfl, rfl⟩ := ho
    obtain ⟨x0, ⟨m', l, clock, seen, born, D, hb, hm, rfl, htl, rfl⟩, hxw, hdx, hset⟩ := hS.focus hj
    have hr : w.heap[b']? = some (.mapIter (some m') clock (seen.push born) clock) := Hp.one_le.1 hxw
    have hb' : w.heap[m']? = some (.map (l.map (ent f)).toArray clock) := St.blk hS hb
    have hrun : (Instr.entry (.pointer (some ⟨b', 0, none⟩))).run P w = .ok (.tuple #[.int .i64 k, f v]) w := run_entry_at (P := P) w b' m' clock seen _ clock (ent f (k, v, born)) hr hb' (by rw [toList_mobj]; exact List.mem_map.2 ⟨_, htl, rfl⟩) (by
     rw [toList_mobj, List.map_map]; exact hm.borns)
    exact p_val hf e1 (by simp [execOp, hop, hx, hrun, Result.andThen]) fun a' hf' => kk a' hf'
   ·cases ho
  ·cases ho
def uniK (D : List (Int × Bool)) (l : List (Int × Bool)) : List (Int × Bool) := l.foldl (fun a p => putK a p.1 true) D
theorem uniK_rise : ∀ {l D : List (Int × Bool)}, Rise D → Rise (uniK D l)
 | [], _, h => h
 | _ :: l, _, h => uniK_rise (l := l) (putK_rise h)
theorem uniK_mem : ∀ {l D : List (Int × Bool)}, Rise D → ∀ j u, (j, u) ∈ uniK D l ↔ (u = true ∧ ∃ v, (j, v) ∈ l) ∨ ((∀ v, (j, v) ∉ l) ∧ (j, u) ∈ D)
 | [], D, h, j, u => by simp [uniK]
 | p :: l, D, h, j, u => by
  show (j, u) ∈ uniK (putK D p.1 true) l ↔ _
  rw [uniK_mem (putK_rise h), putK_mem h]
  obtain ⟨k, x⟩ := p
  by_cases e : j = k
  ·subst e
   constructor
   ·rintro (⟨h1, v, h2⟩ | ⟨h1, ⟨_, h2⟩ | ⟨h2, _⟩⟩)
    ·exact .inl ⟨h1, v, List.mem_cons_of_mem _ h2⟩
    ·exact .inl ⟨h2, x, by simp⟩
    ·exact absurd rfl h2
   ·rintro (⟨h1, v, h2⟩ | ⟨h1, h2⟩)
    ·by_cases e2 : ∃ v, (j, v) ∈ l
     ·exact .inl ⟨h1, e2⟩
     ·exact .inr ⟨fun v hv => e2 ⟨v, hv⟩, .inl ⟨rfl, h1⟩⟩
    ·exact absurd (by simp) (h1 x)
  ·have hk : ∀ v, (j, v) ∈ (k, x) :: l ↔ (j, v) ∈ l := fun v => by simp [e]
   simp only [hk, e, false_and, ne_eq, not_false_eq_true, true_and, false_or]
theorem uniK_step {D left left' : List (Int × Bool)} {k : Int} {v : Bool} (h : Rise D) (e : ∀ p, p ∈ left ↔ p = (k, v) ∨ p ∈ left') : uniK D left = uniK (putK D k true) left' := by
 have e2 : uniK (putK D k true) left' = uniK D ((k, v) :: left') := rfl
 rw [e2]
 refine rise_ext (uniK_rise h) (uniK_rise h) fun p => ?_
 obtain ⟨j, u⟩ := p
 simp only [uniK_mem h, e, List.mem_cons]
theorem uniK_same {D left left' : List (Int × Bool)} (h : Rise D) (e : ∀ p, p ∈ left ↔ p ∈ left') : uniK D left = uniK D left' := by
 refine rise_ext (uniK_rise h) (uniK_rise h) fun p => ?_
 obtain ⟨j, u⟩ := p
 simp only [uniK_mem h, e]
theorem _root_.Go.Sl.St.mapRise (s : St h L w) {j r : Nat} {D : List (Int × β)} (hj : L[j]? = some (mapA f r D)) : Rise D := by
 obtain ⟨x, ⟨l, clock, rfl, hm⟩, _, _, _⟩ := s.focus hj
 exact hm.rise
theorem MapM.len {l : List (Int × β × Nat)} {clock : Nat} {D : List (Int × β)} (m : MapM l clock D) : l.length = D.length := by
 have h1 : (l.map fun t => (t.1, t.2.1)).length = D.length := by
  have hn1 : (l.map (·.1)).Nodup := m.keys
  have hn2 : (D.map (·.1)).Nodup := by
   have := m.rise
   unfold Rise at this
   rw [List.Nodup, List.pairwise_map]
   exact this.imp fun h e => by omega
  have e : ∀ k, k ∈ l.map (·.1) ↔ k ∈ D.map (·.1) := fun k => by
   simp only [List.mem_map]
   constructor
   ·rintro ⟨⟨k', v, b⟩, ht, rfl⟩; exact ⟨(k', v), (m.mem _ _).2 ⟨b, ht⟩, rfl⟩
   ·rintro ⟨⟨k', v⟩, ht, rfl⟩; obtain ⟨b, hb⟩ := (m.mem _ _).1 ht; exact ⟨(k', v, b), hb, rfl⟩
  have := ((List.perm_ext_iff_of_nodup hn1 hn2).2 e).length_eq
  simpa using this
 simpa using h1
end
end Go.Sx
namespace Go.Sx
open Go.Sl
structure Part where
 lot : Int
 mass : Int
 deriving DecidableEq
def PartT : Ty Part := Ty.flat 2 (fun p => [.int .i64 p.lot, .int .i64 p.mass]) (fun _ => rfl) (fun _ => rfl)
structure Lot where
 id : Int
 owner : Int
 grade : Int
 wet : Int
 deriving DecidableEq
def LotT : Ty Lot := Ty.flat 4 (fun p => [.int .i64 p.id, .int .i64 p.owner, .int .i64 p.grade, .int .i64 p.wet]) (fun _ => rfl) (fun _ => rfl)
structure Deed where
 kind : Int
 lot : Int
 frm : Int
 «to» : Int
 mass : Int
 deriving DecidableEq
def DeedT : Ty Deed := Ty.flat 5 (fun p => [.int .i64 p.kind, .int .i64 p.lot, .int .i64 p.frm, .int .i64 p.to, .int .i64 p.mass]) (fun _ => rfl) (fun _ => rfl)
end Go.Sx
namespace Go.Sx
open Go.Sl
section
variable {α : Type} {T : Ty α} {h h' : Zone} {L : List Atom} {w : World} {E : TypeId}
theorem _root_.Go.Sl.St.splitE (s : St h L w) {i : Nat} {A : Atom} (hi : L[i]? = some A) :
  ∃ x, A.P h x ∧ ∀ (B C : Atom) (x1 x2 : Hp), B.P h x1 → C.P h x2 → x1.apart x2 → x = x1.add x2 → St h (B :: L.set i C) w := by
 obtain ⟨z, hz, hd, hb, hzw⟩ := s.sep
 obtain ⟨u, v, hu, duv, e, hset⟩ := hz.focus hi
 subst e
 refine ⟨u, hu, fun B C x1 x2 h1 h2 d12 e' => ?_⟩
 subst e'
 obtain ⟨d1, d2⟩ := Hp.add_apart.1 duv
 refine ⟨⟨x1.add (x2.add v), ⟨x1, x2.add v, h1, hset h C x2 (Zone.le_refl h) h2 d2, Hp.apart_add.2 ⟨d12, d1⟩, rfl⟩, ?_, hb, ?_⟩, s.os, s.tape, s.output⟩
 ·rw [← Hp.add_assoc]; exact hd
 ·rw [← Hp.add_assoc]; exact hzw
def star (A B : Atom) : Atom := ⟨fun h z => ∃ x y, A.P h x ∧ B.P h y ∧ x.apart y ∧ z = x.add y, fun _ _ _ k ⟨x, y, hx, hy, d, e⟩ => ⟨x, y, A.mono _ _ _ k hx, B.mono _ _ _ k hy, d, e⟩⟩
structure Pl where
 lots : List Lot
 holds : List (List (List Part))
 may : List (List (List (Int × Bool)))
abbrev HeapT : Ty (List Part) := Ty.slice PartT
abbrev SetT : Ty (List (Int × Bool)) := Ty.map Value.bool
def plA (X E1 E2 : TypeId) (b : Nat) (P : Pl) : Atom :=
 ⟨fun h z => ∃ o c vs ms, SliceR LotT h o c P.lots ∧ vs.length = 9 ∧ ms.length = 9 ∧ (star (ownA SetT E2 ms P.may) (star (ownA HeapT E1 vs P.holds) (box b (.slice o P.lots.length c :: (vs ++ ms)) X))).P h z,
  fun _ _ _ k ⟨o, c, vs, ms, e1, e2, e3, e4⟩ => ⟨o, c, vs, ms, e1.mono k, e2, e3, (star _ _).mono _ _ _ k e4⟩⟩
theorem _root_.Go.Sl.St.plOpen (s : St h L w) {i : Nat} {X E1 E2 : TypeId} {b : Nat} {P : Pl} (hi : L[i]? = some (plA X E1 E2 b P)) :
  ∃ o c v0 v1 v2 v3 v4 v5 v6 v7 v8 m0 m1 m2 m3 m4 m5 m6 m7 m8, SliceR LotT h o c P.lots ∧
   St h (ownA HeapT E1 [v0, v1, v2, v3, v4, v5, v6, v7, v8] P.holds :: ownA SetT E2 [m0, m1, m2, m3, m4, m5, m6, m7, m8] P.may ::
    L.set i (box b [.slice o P.lots.length c, v0, v1, v2, v3, v4, v5, v6, v7, v8, m0, m1, m2, m3, m4, m5, m6, m7, m8] X)) w := by
 obtain ⟨x, ⟨o, c, vs, ms, e1, e2, e3, x1, x2, hx1, hx2, d12, e4⟩, hset⟩ := s.splitE hi
 obtain ⟨v0, v1, v2, v3, v4, v5, v6, v7, v8, rfl⟩ := nine e2
 obtain ⟨m0, m1, m2, m3, m4, m5, m6, m7, m8, rfl⟩ := nine e3
 have s1 := hset _ _ _ _ hx1 hx2 d12 e4
 have hlt : i < L.length := (List.getElem?_eq_some_iff.1 hi).1
 have hi1 : (ownA SetT E2 [m0, m1, m2, m3, m4, m5, m6, m7, m8] P.may :: L.set i (star (ownA HeapT E1 [v0, v1, v2, v3, v4, v5, v6, v7, v8] P.holds) (box b (.slice o P.lots.length c :: ([v0, v1, v2, v3, v4, v5, v6, v7, v8] ++ [m0, m1, m2, m3, m4, m5, m6, m7, m8])) X)))[i + 1]? = some (star (ownA HeapT E1 [v0, v1, v2, v3, v4, v5, v6, v7, v8] P.holds) (box b (.slice o P.lots.length c :: ([v0, v1, v2, v3, v4, v5, v6, v7, v8] ++ [m0, m1, m2, m3, m4, m5, m6, m7, m8])) X)) := by
  rw [List.getElem?_cons_succ, List.getElem?_set_self hlt]
 have s2 := s1.split hi1 fun z e => e
 rw [List.set_cons_succ, List.set_set] at s2
 exact ⟨o, c, v0, v1, v2, v3, v4, v5, v6, v7, v8, m0, m1, m2, m3, m4, m5, m6, m7, m8, e1, s2⟩
theorem _root_.Go.Sl.St.plClose (s : St h L w) {i j k : Nat} {X E1 E2 : TypeId} {b : Nat} {o : Option Addr} {c : Nat} {lots : List Lot} {holds : List (List (List Part))} {may : List (List (List (Int × Bool)))} {v0 v1 v2 v3 v4 v5 v6 v7 v8 m0 m1 m2 m3 m4 m5 m6 m7 m8 : Value}
  (hi : L[i]? = some (box b [.slice o lots.length c, v0, v1, v2, v3, v4, v5, v6, v7, v8, m0, m1, m2, m3, m4, m5, m6, m7, m8] X)) (hl : SliceR LotT h o c lots)
  (hj : L[j]? = some (ownA HeapT E1 [v0, v1, v2, v3, v4, v5, v6, v7, v8] holds)) (hk : L[k]? = some (ownA SetT E2 [m0, m1, m2, m3, m4, m5, m6, m7, m8] may)) (hji : j ≠ i) (hki : k ≠ i) (hkj : k ≠ j) :
  St h (((L.set i (plA X E1 E2 b ⟨lots, holds, may⟩)).set j emp).set k emp) w := by
 have s1 := s.join (C := star (ownA HeapT E1 [v0, v1, v2, v3, v4, v5, v6, v7, v8] holds) (box b [.slice o lots.length c, v0, v1, v2, v3, v4, v5, v6, v7, v8, m0, m1, m2, m3, m4, m5, m6, m7, m8] X)) hi hj hji
  fun x y hx hy d => ⟨y, x, hy, hx, Hp.apart_comm d, Hp.add_comm d⟩
 have hlt : i < L.length := (List.getElem?_eq_some_iff.1 hi).1
 have hi1 : ((L.set i (star (ownA HeapT E1 [v0, v1, v2, v3, v4, v5, v6, v7, v8] holds) (box b [.slice o lots.length c, v0, v1, v2, v3, v4, v5, v6, v7, v8, m0, m1, m2, m3, m4, m5, m6, m7, m8] X))).set j emp)[i]? = some (star (ownA HeapT E1 [v0, v1, v2, v3, v4, v5, v6, v7, v8] holds) (box b [.slice o lots.length c, v0, v1, v2, v3, v4, v5, v6, v7, v8, m0, m1, m2, m3, m4, m5, m6, m7, m8] X)) := by
  rw [List.getElem?_set_ne hji, List.getElem?_set_self hlt]
 have hk1 : ((L.set i (star (ownA HeapT E1 [v0, v1, v2, v3, v4, v5, v6, v7, v8] holds) (box b [.slice o lots.length c, v0, v1, v2, v3, v4, v5, v6, v7, v8, m0, m1, m2, m3, m4, m5, m6, m7, m8] X))).set j emp)[k]? = some (ownA SetT E2 [m0, m1, m2, m3, m4, m5, m6, m7, m8] may) := by
  rw [List.getElem?_set_ne (Ne.symm hkj), List.getElem?_set_ne (Ne.symm hki)]; exact hk
 have s2 := s1.join (C := plA X E1 E2 b ⟨lots, holds, may⟩) hi1 hk1 hki fun x y hx hy d => ⟨o, c, [v0, v1, v2, v3, v4, v5, v6, v7, v8], [m0, m1, m2, m3, m4, m5, m6, m7, m8], hl, rfl, rfl, y, x, hy, hx, Hp.apart_comm d, Hp.add_comm d⟩
 rw [List.set_comm _ _ hji, List.set_set] at s2
 exact s2
def plO (X E1 E2 : TypeId) (p : Option Addr) (x : Option Pl) : Atom :=
 ⟨fun h z => match x with | none => p = none ∧ z = Hp.nil | some P => ∃ b, p = some ⟨b, 0, none⟩ ∧ (plA X E1 E2 b P).P h z,
  fun _ _ _ k e => by
   cases x with
   | none => exact e
   | some P => obtain ⟨b, e1, e2⟩ := e; exact ⟨b, e1, (plA X E1 E2 b P).mono _ _ _ k e2⟩⟩
theorem _root_.Go.Sl.St.plNone (s : St h L w) (X E1 E2 : TypeId) : St h (plO X E1 E2 none none :: L) w := by
 obtain ⟨z, hz, hd, hb, hzw⟩ := s.sep
 exact ⟨⟨z, ⟨Hp.nil, z, ⟨rfl, rfl⟩, hz, Hp.apart_comm (Hp.apart_nil _), rfl⟩, hd, hb, hzw⟩, s.os, s.tape, s.output⟩
theorem _root_.Go.Sl.St.plSome (s : St h L w) {i : Nat} {X E1 E2 : TypeId} {b : Nat} {P : Pl} (hi : L[i]? = some (plA X E1 E2 b P)) : St h (L.set i (plO X E1 E2 (some ⟨b, 0, none⟩) (some P))) w :=
 s.conv hi fun z e => ⟨b, rfl, e⟩
theorem _root_.Go.Sl.St.plGet (s : St h L w) {i : Nat} {X E1 E2 : TypeId} {p : Option Addr} {P : Pl} (hi : L[i]? = some (plO X E1 E2 p (some P))) : ∃ b, p = some ⟨b, 0, none⟩ ∧ St h (L.set i (plA X E1 E2 b P)) w := by
 obtain ⟨x, ⟨b, e1, e2⟩, _, _, _⟩ := s.focus hi
 refine ⟨b, e1, s.conv hi fun z ⟨b', e1', e2'⟩ => ?_⟩
 rw [e1] at e1'
 simp only [zI, Addr.mk.injEq, and_true] at e1'
 rw [e1']; exact e2'
def rawA (y : Hp) : Atom := ⟨fun _ z => z = y, fun _ _ _ _ e => e⟩
theorem lend {P : Program} {f : FuncId} {args : Array Value} {v : Value} (s : St h L w) {j : Nat} {vs : List Value} {D : List (List α)} {n : Nat} (hj : L[j]? = some (ownA T E vs D)) (hn : vs.length = n)
  (k : ∀ h1 L1, h.le h1 → (Ty.arr n (Ty.slice T)).rep h1 vs D → St h1 L1 w → Calls P f args w fun e w' => ∃ u, e = .returned u ∧ ∃ h2, h1.le h2 ∧ u = v ∧ St h2 L1 w') :
  Calls P f args w fun e w' => ∃ u, e = .returned u ∧ ∃ h2, h.le h2 ∧ u = v ∧ St h2 L w' := by
 obtain ⟨z, hz, hd, hb, hzw⟩ := s.sep
 obtain ⟨x, y, hx, dxy, e, hset⟩ := hz.focus hj
 subst e
 obtain ⟨d1, d2⟩ := Hp.apart_add.1 hd
 let h1 : Zone := ⟨h.blk.add x, h.os, h.tape, h.output⟩
 have hle : h.le h1 := ⟨Hp.le_add_left _ _, rfl, rfl, rfl⟩
 have hxw : x.le (fun b => w.heap[b]?) := Hp.le_trans (Hp.le_add_left _ _) hzw
 have hyw : y.le (fun b => w.heap[b]?) := Hp.le_trans (Hp.le_add_right dxy) hzw
 have hx1 := (ownA T E vs D).mono _ _ _ hle hx
 obtain ⟨os, f1, f2, f3⟩ := hx1
 have hrep : (Ty.arr n (Ty.slice T)).rep h1 vs D := by
  subst hn
  have hl : vs.length = D.length := ownA_len hx
  have : (Ty.arr D.length (Ty.slice T)).rep h1 vs D := ⟨rfl, by rw [f2]; exact ownRows f1 f3 (Hp.le_add_right d1)⟩
  rw [hl]; exact this
 have s1 : St h1 [rawA y] w := ⟨⟨y, ⟨y, Hp.nil, rfl, rfl, Hp.apart_nil _, (Hp.add_nil y).symm⟩, Hp.add_apart.2 ⟨d2, dxy⟩, Hp.add_le hb hxw, hyw⟩, s.os, s.tape, s.output⟩
 refine (k h1 [rawA y] hle hrep s1).mono fun e w' ⟨u, he, h2, hle2, hu, s2⟩ => ⟨u, he, ?_⟩
 obtain ⟨z', ⟨y', q, hy', hq, _, e'⟩, hd', hb', hzw'⟩ := s2.sep
 have ey : y' = y := hy'
 have eq : q = Hp.nil := hq
 subst ey eq
 rw [Hp.add_nil] at e'
 subst e'
 let h3 : Zone := ⟨fun b => if (x b).isSome then none else h2.blk b, h2.os, h2.tape, h2.output⟩
 have hle3 : h.le h3 := by
  refine ⟨fun b o ho => ?_, hle2.os.trans hle.os, hle2.tape.trans hle.tape, hle2.output.trans hle.output⟩
  have hxb : x b = none := by
   rcases d1 b with e | e
   ·rw [e] at ho; cases ho
   ·exact e
  show (if (x b).isSome then none else h2.blk b) = some o
  rw [hxb]
  exact hle2.blk _ _ (hle.blk _ _ ho)
 have hx2 : x.le h2.blk := Hp.le_trans (Hp.le_add_right d1) hle2.blk
 have h32 : h3.blk.le h2.blk := fun b o ho => by
  have ho' : (if (x b).isSome then none else h2.blk b) = some o := ho
  split at ho'
  ·cases ho'
  ·exact ho'
 refine ⟨h3, hle3, hu, ⟨⟨x.add z', ?_, ?_, ?_, ?_⟩, s2.os, s2.tape, s2.output⟩⟩
 ·have := hset h3 (ownA T E vs D) x hle3 ((ownA T E vs D).mono _ _ _ hle3 hx) dxy
  have e0 : L.set j (ownA T E vs D) = L := set_same hj
  rwa [e0] at this
 ·refine Hp.apart_add.2 ⟨fun b => ?_, fun b => ?_⟩
  ·cases hxb : x b with
   | none => exact .inr rfl
   | some o => left; show (if (x b).isSome then none else h2.blk b) = none; rw [hxb]; rfl
  ·rcases hd' b with e | e
   ·left; show (if (x b).isSome then none else h2.blk b) = none; split
    ·rfl
    ·exact e
   ·exact .inr e
 ·exact Hp.le_trans h32 hb'
 ·exact Hp.add_le (Hp.le_trans hx2 hb') hzw'
def fnV : Option Nat → Value
 | some n => .func (.func n) #[] #[]
 | none => .nilFunc
structure DRow where
 lot : Bool
 frm : Bool
 «to» : Bool
 mass : Bool
 fn : Option Nat
def rowV (r : DRow) : Value := .agg #[.bool r.lot, .bool r.frm, .bool r.to, .bool r.mass, fnV r.fn]
def zrow : DRow := ⟨false, false, false, false, none⟩
structure Bag where
 parts : List Part
 may : List (Int × Bool)
def BagT : Ty Bag where
 size := 2
 rep h cs x := ∃ o c m, cs = [.slice o x.parts.length c, .map m] ∧ SliceR PartT h o c x.parts ∧ MapR Value.bool h m x.may
 len := by rintro h cs x ⟨o, c, m, rfl, _, _⟩; rfl
 one := by rintro h cs x ⟨o, c, m, rfl, _, _⟩ v hv; simp only [List.mem_cons, List.not_mem_nil, or_false] at hv; rcases hv with rfl | rfl <;> rfl
 mono := by rintro h h' cs x k ⟨o, c, m, e, s1, s2⟩; exact ⟨o, c, m, e, s1.mono k, s2.mono k⟩
theorem bagRep {x : Bag} {o : Option Addr} {c : Nat} {m : Option Nat} (s1 : SliceR PartT h o c x.parts) (s2 : MapR Value.bool h m x.may) : BagT.rep h [.slice o x.parts.length c, .map m] x := ⟨o, c, m, rfl, s1, s2⟩
theorem _root_.Go.Sl.St.addEmp (s : St h L w) : St h (emp :: L) w := by
 obtain ⟨z, hz, hd, hb, hzw⟩ := s.sep
 exact ⟨⟨z, ⟨Hp.nil, z, rfl, hz, Hp.apart_comm (Hp.apart_nil _), rfl⟩, hd, hb, hzw⟩, s.os, s.tape, s.output⟩
theorem _root_.Go.Sl.St.swapTo (s : St h L w) {i j : Nat} {A : Atom} (hi : L[i]? = some A) (hj : L[j]? = some emp) (hij : i ≠ j) : St h ((L.set j A).set i emp) w :=
 s.join hj hi hij fun x y hx hy d => by
  have ex : x = Hp.nil := hx
  subst ex
  rw [Hp.nil_add]; exact hy
def getO {γ : Type} (D : List (Option γ)) (i : Int) : Option γ := (getI D i).bind fun x => x
theorem getO_spec {γ : Type} {D : List (Option γ)} {i : Int} {d : γ} (e : getO D i = some d) : i.toNat < D.length ∧ (0 ≤ i ∧ i < D.length) ∧ D[i.toNat]? = some (some d) := by
 unfold getO at e
 cases hg : getI D i with
 | none => rw [hg] at e; cases e
 | some x =>
  rw [hg] at e
  simp only [zB] at e
  subst e
  obtain ⟨h1, h2⟩ := getI_spec hg
  exact ⟨(List.getElem?_eq_some_iff.1 h2).1, h1, h2⟩
def allS {γ : Type} : List (Option γ) → Option (List γ)
 | [] => some []
 | none :: _ => none
 | some d :: D => (allS D).map fun l => d :: l
theorem allS_spec {γ : Type} : ∀ {D : List (Option γ)} {l : List γ}, allS D = some l → D = l.map some
 | [], l, e => by simp only [allS, zI] at e; subst e; rfl
 | none :: _, l, e => by cases e
 | some d :: D, l, e => by
  simp only [allS] at e
  cases h : allS D with
  | none => rw [h] at e; cases e
  | some m =>
   rw [h] at e
   simp only [Option.map_some, zI] at e
   subst e
   rw [allS_spec h]; rfl
def cellO (T : Ty α) (E : TypeId) (p : Option Addr × Nat) : Option (List α) → Atom
 | none => emp
 | some d => ownS T E p.1 p.2 d
def ownOL (T : Ty α) (E : TypeId) (os : List (Option Addr × Nat)) (D : List (Option (List α))) : List Atom := List.zipWith (fun p d => cellO T E p d) os D
structure OShape (vs : List Value) (os : List (Option Addr × Nat)) (D : List (Option (List α))) : Prop where
 l1 : os.length = D.length
 l2 : vs.length = D.length
 one : oneCells vs = true
 at_ : ∀ (i : Nat) (d : List α) (p : Option Addr × Nat), D[i]? = some (some d) → os[i]? = some p → vs[i]? = some (Value.slice p.1 d.length p.2)
def ownO (T : Ty α) (E : TypeId) (vs : List Value) (D : List (Option (List α))) : Atom :=
 ⟨fun h z => ∃ os, OShape vs os D ∧ Sep h (ownOL T E os D) z, fun _ _ _ k e => e.elim fun os e => ⟨os, e.1, e.2.mono k⟩⟩
def ownP (T : Ty α) (E : TypeId) (vs : List Value) (D : List (Option (List α))) (n : Nat) : Atom :=
 ⟨fun h z => ∃ os, OShape vs os D ∧ Sep h ((ownOL T E os D).set n emp) z, fun _ _ _ k e => e.elim fun os e => ⟨os, e.1, e.2.mono k⟩⟩
theorem oneCells_of {vs : List Value} (h : ∀ v ∈ vs, v.oneCell' = true) : oneCells vs = true := by
 induction vs with
 | nil => rfl
 | cons v vs ih => simp only [oneCells, za]; exact ⟨h v (by simp), ih fun u hu => h u (by simp [hu])⟩
theorem oneCells_set : ∀ {vs : List Value} {n : Nat} {v : Value}, oneCells vs = true → v.oneCell' = true → oneCells (vs.set n v) = true
 | [], n, v, h, _ => h
 | u :: vs, 0, v, h, k => by simp only [oneCells, za, List.set_cons_zero] at h ⊢; exact ⟨k, h.2⟩
 | u :: vs, n + 1, v, h, k => by simp only [oneCells, za, List.set_cons_succ] at h ⊢; exact ⟨h.1, oneCells_set h.2 k⟩
theorem Sep.emps : ∀ n, Sep h (List.replicate n emp) Hp.nil
 | 0 => rfl
 | n + 1 => ⟨Hp.nil, Hp.nil, rfl, Sep.emps n, Hp.apart_nil _, rfl⟩
theorem ownOL_none (T : Ty α) (E : TypeId) : ∀ n (os : List (Option Addr × Nat)), os.length = n → ownOL T E os (List.replicate n none) = List.replicate n emp
 | 0, [], _ => rfl
 | n + 1, p :: os, e => by
  have := ownOL_none T E n os (by simpa using e)
  show cellO T E p none :: ownOL T E os (List.replicate n none) = emp :: List.replicate n emp
  rw [this]; rfl
theorem _root_.Go.Sl.St.ownNewO (s : St h L w) (T : Ty α) (E : TypeId) {n : Nat} {vs : List Value} (hn : vs.length = n) (h1 : oneCells vs = true) : St h (ownO T E vs (List.replicate n none) :: L) w := by
 obtain ⟨z, hz, hd, hb, hzw⟩ := s.sep
 refine ⟨⟨z, ⟨Hp.nil, z, ⟨List.replicate n (none, 0), ⟨by simp, by simp [hn], h1, fun i d p hd => ?_⟩, ?_⟩, hz, Hp.apart_comm (Hp.apart_nil _), rfl⟩, hd, hb, hzw⟩, s.os, s.tape, s.output⟩
 ·rw [List.getElem?_replicate] at hd; split at hd <;> cases hd
 ·rw [ownOL_none T E n _ (by simp)]; exact Sep.emps n
theorem ownOL_get {os : List (Option Addr × Nat)} {D : List (Option (List α))} {n : Nat} {p : Option Addr × Nat} {d : Option (List α)} (hp : os[n]? = some p) (hd : D[n]? = some d) : (ownOL T E os D)[n]? = some (cellO T E p d) := by
 unfold ownOL; rw [List.getElem?_zipWith, hp, hd]
theorem ownOL_set : ∀ {os : List (Option Addr × Nat)} {D : List (Option (List α))} {n : Nat} {p : Option Addr × Nat} {d : Option (List α)}, ownOL T E (os.set n p) (D.set n d) = (ownOL T E os D).set n (cellO T E p d)
 | [], D, n, p, d => by simp [ownOL]
 | _ :: _, [], n, p, d => by simp [ownOL]
 | a :: os, b :: D, 0, p, d => by simp [ownOL]
 | a :: os, b :: D, n + 1, p, d => by
  have := ownOL_set (os := os) (D := D) (n := n) (p := p) (d := d)
  simpa [ownOL] using this
theorem _root_.Go.Sl.St.ownOpenO (s : St h L w) {j : Nat} {vs : List Value} {D : List (Option (List α))} (hj : L[j]? = some (ownO T E vs D)) {i : Int} {d : List α} (e : getO D i = some d) :
  ∃ o cap, vs[i.toNat]? = some (.slice o d.length cap) ∧ (0 ≤ i ∧ i < vs.length) ∧ St h (ownS T E o cap d :: L.set j (ownP T E vs D i.toNat)) w := by
 obtain ⟨hlt, hb, hx⟩ := getO_spec e
 obtain ⟨x, ⟨os, sh, e3⟩, hset⟩ := s.splitE hj
 have hlt' : i.toNat < os.length := by rw [sh.l1]; exact hlt
 obtain ⟨x1, y, hx', dxy, ez, hset'⟩ := e3.focus (ownOL_get (List.getElem?_eq_getElem hlt') hx)
 refine ⟨os[i.toNat].1, os[i.toNat].2, sh.at_ _ _ _ hx (List.getElem?_eq_getElem hlt'), ⟨hb.1, by rw [sh.l2]; exact hb.2⟩, hset _ _ x1 y hx' ⟨os, sh, ?_⟩ dxy ez⟩
 have := hset' h emp Hp.nil (Zone.le_refl h) rfl (Hp.apart_comm (Hp.apart_nil _))
 rwa [Hp.nil_add] at this
theorem _root_.Go.Sl.St.ownOpenS (s : St h L w) {j : Nat} {vs : List Value} {D : List (Option (List α))} (hj : L[j]? = some (ownO T E vs D)) {i : Int} {y : Option (List α)} (e : getI D i = some y) :
  (0 ≤ i ∧ i < vs.length) ∧ St h (L.set j (ownP T E vs D i.toNat)) w := by
 obtain ⟨hb, hx⟩ := getI_spec e
 have hlt := (List.getElem?_eq_some_iff.1 hx).1
 obtain ⟨x, ⟨os, sh, e3⟩, hset⟩ := s.splitE hj
 have hlt' : i.toNat < os.length := by rw [sh.l1]; exact hlt
 obtain ⟨x1, y', hx', dxy, ez, hset'⟩ := e3.focus (ownOL_get (List.getElem?_eq_getElem hlt') hx)
 have h2 := hset' h emp Hp.nil (Zone.le_refl h) rfl (Hp.apart_comm (Hp.apart_nil _))
 rw [Hp.nil_add] at h2
 exact ⟨⟨hb.1, by rw [sh.l2]; exact hb.2⟩, (hset anyA (ownP T E vs D i.toNat) x1 y' trivial ⟨os, sh, h2⟩ dxy ez).tail⟩
theorem _root_.Go.Sl.St.ownCloseO (s : St h L w) {j k : Nat} {vs : List Value} {D : List (Option (List α))} {n : Nat} {o : Option Addr} {cap : Nat} {d : List α} (hj : L[j]? = some (ownP T E vs D n)) (hk : L[k]? = some (ownS T E o cap d)) (hjk : k ≠ j) (hn : n < D.length) :
  St h ((L.set j (ownO T E (vs.set n (.slice o d.length cap)) (D.set n (some d)))).set k emp) w := by
 refine s.join hj hk hjk fun x y ⟨os, sh, e3⟩ hy dxy => ⟨os.set n (o, cap), ⟨by simp [sh.l1], by simp [sh.l2], oneCells_set sh.one rfl, fun i d' p hd hp => ?_⟩, ?_⟩
 ·by_cases hi : i = n
  ·subst hi
   rw [List.getElem?_set_self hn] at hd
   rw [List.getElem?_set_self (by rw [sh.l1]; exact hn)] at hp
   simp only [zI] at hd hp
   subst hd hp
   rw [List.getElem?_set_self (by rw [sh.l2]; exact hn)]
  ·rw [List.getElem?_set_ne (Ne.symm hi)] at hd hp ⊢
   exact sh.at_ i d' p hd hp
 ·rw [ownOL_set]
  have hnl : n < (ownOL T E os D).length := by simp [ownOL, sh.l1]; exact hn
  have hg : ((ownOL T E os D).set n emp)[n]? = some emp := by rw [List.getElem?_set_self hnl]
  obtain ⟨a, b, ha, dab, ez, hset⟩ := e3.focus hg
  have ha' : a = Hp.nil := ha
  subst ha'
  rw [Hp.nil_add] at ez
  subst ez
  have := hset h (ownS T E o cap d) y (Zone.le_refl h) hy (Hp.apart_comm dxy)
  rw [List.set_set] at this
  rw [Hp.add_comm dxy]
  exact this
theorem ownOL_all (T : Ty α) (E : TypeId) : ∀ (os : List (Option Addr × Nat)) (l : List (List α)), ownOL T E os (l.map some) = ownL T E os l
 | [], _ => by simp [ownOL, ownL]
 | _ :: _, [] => by simp [ownOL, ownL]
 | p :: os, d :: l => by
  have := ownOL_all T E os l
  simpa [ownOL, ownL, cellO] using this
theorem cells_all : ∀ {vs : List Value} {os : List (Option Addr × Nat)} {l : List (List α)}, os.length = l.length → vs.length = l.length → (∀ (i : Nat) (d : List α) (p : Option Addr × Nat), l[i]? = some d → os[i]? = some p → vs[i]? = some (Value.slice p.1 d.length p.2)) → vs = cellL os l
 | [], os, [], _, _, _ => by cases os <;> rfl
 | [], _, _ :: _, _, e2, _ => by cases e2
 | _ :: _, _, [], _, e2, _ => by cases e2
 | _ :: _, [], _ :: _, e1, _, _ => by cases e1
 | v :: vs, p :: os, d :: l, e1, e2, k => by
  have h0 := k 0 d p rfl rfl
  simp only [List.getElem?_cons_zero, zI] at h0
  have := cells_all (vs := vs) (os := os) (l := l) (by simpa using e1) (by simpa using e2) fun i d' p' hd hp => k (i + 1) d' p' hd hp
  show v :: vs = Value.slice p.1 d.length p.2 :: cellL os l
  rw [h0, ← this]
theorem _root_.Go.Sl.St.ownAll (s : St h L w) {j : Nat} {vs : List Value} {D : List (Option (List α))} {l : List (List α)} (hj : L[j]? = some (ownO T E vs D)) (e : allS D = some l) : St h (L.set j (ownA T E vs l)) w := by
 have e' := allS_spec e
 subst e'
 refine s.conv hj fun z ⟨os, sh, e3⟩ => ⟨os, by simpa using sh.l1, cells_all (by simpa using sh.l1) (by simpa using sh.l2) fun i d p hd hp => sh.at_ i d p (by rw [List.getElem?_map, hd]; rfl) hp, ?_⟩
 rw [ownOL_all] at e3; exact e3
theorem _root_.Go.Sl.St.ownOnesO (s : St h L w) {j : Nat} {vs : List Value} {D : List (Option (List α))} (hj : L[j]? = some (ownO T E vs D)) : oneCells vs = true := by
 obtain ⟨z, ⟨os, sh, _⟩, _, _, _⟩ := s.focus hj
 exact sh.one
def cpC {γ : Type} (xs ys : List γ) : Option Unit := if xs.length = ys.length then some () else none
theorem cpC_spec {γ : Type} {xs ys : List γ} {u : Unit} (e : cpC xs ys = some u) : xs.length = ys.length := by
 unfold cpC at e
 split at e
 ·assumption
 ·cases e
section
variable {P : Program} {a : Act} {N : Nat} {fl : FL} {ds : List Deferred} {ε : Px} {R : Array Oper} {m : List Nat} {S : World → Prop} {K : Act → World → Prop} {pl : List (Nat × Bool)} {o : Option Addr} {cap : Nat} {xs ys : List α}
def cpAt (R : Array Oper) (N : Nat) (pl : List (Nat × Bool)) (fl : FL) : Option (Nat × Option Nat × TypeId × Value × Value) :=
 match opAt R N pl fl with
 | some (i, o) => match o.op with
  | .call { callee := .builtin .copy, args := ⟨[s, x]⟩, argTypes := ⟨[t, _]⟩ } => some (i, o.dst, t, ev fl s, ev fl x)
  | _ => none
 | none => none
theorem run_copy {t ty t' : TypeId} {z : Value} (hE : ElemOK P t E T.size z) {o2 : Option Addr} {c2 : Nat} (hS : St h L w) {j : Nat} (hj : L[j]? = some (ownS T E o cap xs))
  (hsrc : SrcR T h w o2 ys) (hlen : xs.length = ys.length) :
  ∃ w', (Builtin.copy_ #[t, t'] ty #[.slice o xs.length cap, .slice o2 ys.length c2]).run P w = .ok (.int .i64 ys.length) w' ∧ St h (L.set j (ownS T E o cap ys)) w' := by
 obtain ⟨x, hx, hxw, dx, hset⟩ := hS.focus hj
 obtain ⟨i, hi, hsize, hby, hz⟩ := hE.info
 have hx' : OwnP T E o cap xs h x := hx
 have hmin : Nat.min ys.length xs.length = ys.length := by rw [hlen]; exact Nat.min_self _
 have same : ys = [] → St h (L.set j (ownS T E o cap ys)) w := fun e => by
  have e2 : xs = [] := List.eq_nil_of_length_eq_zero (by rw [hlen, e]; rfl)
  subst e e2
  exact hset w _ x hx hxw (fun _ _ _ => rfl) (fun b o e => .inr (by rw [e]; rfl)) rfl rfl rfl
 rcases hsrc with ⟨rfl, rfl⟩ | ⟨ad, news, rfl, hnews, hcell⟩
 ·refine ⟨w, ?_, same rfl⟩
  simp only [Builtin.copy_]
  cases o <;> simp [run_underlying hE.und, sizeOf, typeInfo, hi, Builtin.lenOf, Builtin.firstCells, storeCells, Result.andThen, goInt, Sem.run]
 ·have hfc := run_firstCells_some (P := P) (w := w) T.size ys.length ad ys.length c2 news (by rw [hnews.len]) hcell
  rcases hx' with ⟨rfl, rfl, rfl, rfl⟩ | ⟨g, cur, rfl, rfl, h1, h2, h3, h4⟩
  ·have ey : ys = [] := List.eq_nil_of_length_eq_zero (by rw [← hlen]; rfl)
   refine ⟨w, ?_, same ey⟩
   subst ey
   have hfc' : (Builtin.firstCells T.size 0 (.slice (some ad) 0 c2)).run P w = .ok news.toArray w := hfc
   simp [Builtin.copy_, run_underlying hE.und, sizeOf, typeInfo, hi, Builtin.lenOf, hsize, hfc', Result.andThen, goInt, Sem.run]
  ·have hb : w.heap[g]? = some (.cells cur E (0, 0)) := Hp.one_le.1 hxw
   have hnl : news.length = ys.length * T.size := hnews.len
   have hfit : news.length ≤ cur.size := by
    rw [hnl, h3, ← hlen]
    exact Nat.mul_le_mul_right _ h1
   have hst := run_storeCells_at (P := P) g 0 E news 0 cur w hb (by simpa using hfit) hnews.one
   simp only [Nat.add_zero] at hst
   refine ⟨w.setRow g (cur.toList.take 0 ++ news ++ cur.toList.drop (0 + news.length)).toArray, ?_, ?_⟩
   ·simp only [Builtin.copy_]
    simp [run_underlying hE.und, sizeOf, typeInfo, hi, Builtin.lenOf, hsize, hlen, hfc, Result.andThen, goInt]
    simp only [List.take_zero, List.nil_append, Nat.zero_add] at hst ⊢
    rw [hst]
   ·have hn0 : news.length ≤ cur.toList.length := by simpa using hfit
    have hcur : (cur.toList.take 0 ++ news ++ cur.toList.drop (0 + news.length)).toArray.toList.take (ys.length * T.size) = news := by
     simp only [List.take_zero, List.nil_append, List.take_append, ← hnl, List.take_length, Nat.sub_self, List.append_nil]
    refine hset _ _ (Hp.one g (.cells (cur.toList.take 0 ++ news ++ cur.toList.drop (0 + news.length)).toArray E (0, 0))) (.inr ⟨g, _, rfl, rfl, by rw [← hlen]; exact h1, h2, ?_, by rw [hcur]; exact hnews⟩) (Hp.one_le.2 (setRow_heap w g _ _ E (0, 0) hb)) (fun k hk hne => setRow_other w g k _ fun e => by subst e; simp [Hp.one] at hne) (fun k o' hk => ?_) rfl rfl rfl
    ·rw [← h3]; simp; omega
    ·right; unfold Hp.one at hk ⊢; split at hk <;> simp_all
theorem p_copy {i j : Nat} {d : Option Nat} {t : TypeId} {z : Value} {o2 : Option Addr} {c2 : Nat} {u : Unit} (hE : ElemOK P t E T.size z) (hS : St h L w) (hf : Fr a N fl ds) (hj : L[j]? = some (ownS T E o cap xs))
  (ho : cpAt R N pl fl = some (i, d, t, .slice o xs.length cap, .slice o2 ys.length c2)) (hsrc : SrcR T h w o2 ys) (hz : cpC xs ys = some u)
  (k : ∀ w' a', St h (L.set j (ownS T E o cap ys)) w' → Fr a' N (putF fl d (.int .i64 ys.length)) ds → (m.contains i = false → S w') ∧ wpPlan ε P R m S K pl.tail a' w') : wpPlan ε P R m S K pl a w := by
 have hlen := cpC_spec hz
 unfold cpAt at ho
 cases h1 : opAt R N pl fl with
 | none => rw [h1] at ho; simp at ho
 | some q =>
  obtain ⟨i', op⟩ := q
  rw [h1] at ho
  simp only at ho
  split at ho
  ·rename_i s x t1 t2 hop
   simp only [zI, Prod.mk.injEq] at ho
   obtain ⟨rfl, rfl, rfl, hs, hx⟩ := ho
   obtain ⟨w', hrun, hS'⟩ := run_copy (ty := op.type) (c2 := c2) (t' := t2) hE hS hj hsrc hlen
   refine p_val (w' := w') (v := .int .i64 ys.length) hf h1 ?_ fun a' hf' => k w' a' hS' hf'
   simp only [execOp, hop, resolve, invoke, builtin, Sem.run_bind, Sem.run_pure, Result.andThen_ok, List.map_toArray, List.map_cons, List.map_nil, hs, hx, hrun]
  ·cases ho
end
end
end Go.Sx
namespace Go.Sx
open Go.Sl
variable {P : Program} {a : Act} {N : Nat} {fl : FL} {ds : List Deferred} {ε : Px} {w : World} {R : Array Oper} {m : List Nat} {S : World → Prop} {K K' : Act → World → Prop} {pl : List (Nat × Bool)} {ro : Option Nat} {c : Code} {Q : Exit → Act → World → Prop} {oF oC : List Obl} {h : Zone} {L : List Atom}
theorem look_sub {fl r : FL} (e : ∀ t v, look r t = some v → look fl t = some v) (hf : Fr a N fl ds) : Fr a N r ds := ⟨hf.size, hf.defers, fun t v hl => hf.look t v (e t v hl)⟩
theorem Fr.lit (hf : Fr a N fl ds) {b l : Bool} (k : Nat) (e : b = l) (hk : Sx.look fl k = some (.bool b) := by kernel_rfl) : Fr a N ((k, .bool l) :: fl) ds := by
 subst e
 refine look_sub (fun t v hl => ?_) hf
 simp only [Sx.look] at hl
 cases hb : Nat.beq k t with
 | true => rw [hb] at hl; have := zN hb; subst this; simpa [hk] using hl
 | false => rw [hb] at hl; exact hl
theorem Fr.to {r : FL} (hf : Fr a N fl ds) (hk : keepF fl (keys r) = some r := by kernel_rfl) : Fr a N r ds := hf.keep hk
def fr3 : Option (FL × List Obl × List Obl) → FL
 | some (r, _) => r
 | none => []
def ob3 : Option (FL × List Obl × List Obl) → Option (List Obl × List Obl)
 | some (_, o) => some o
 | none => none
theorem keepF_keys {fl : FL} : ∀ {ks : List Nat} {r : FL}, keepF fl ks = some r → keys r = ks
 | [], r, h => by simp only [keepF, zI] at h; subst h; rfl
 | k :: ks, r, h => by
  simp only [keepF] at h
  split at h
  ·rename_i h1 h2
   simp only [zI] at h
   subst h
   have := keepF_keys h2
   simp only [keys, List.map_cons] at this ⊢
   rw [this]
  ·cases h
def Keyed (X : List Nat → Option (FL × List Obl × List Obl)) : Prop := ∀ ks r o, X ks = some (r, o) → keys r = ks
theorem Keyed.use {X : List Nat → Option (FL × List Obl × List Obl)} (hX : Keyed X) {ks : List Nat} (e : ob3 (X ks) = some (oF, oC)) : X (keys (fr3 (X ks))) = some (fr3 (X ks), oF, oC) := by
 cases h1 : X ks with
 | none => rw [h1] at e; cases e
 | some t =>
  obtain ⟨r, o⟩ := t
  rw [h1] at e
  simp only [ob3, zI] at e
  subst e
  show X (keys r) = some (r, oF, oC)
  rw [hX _ _ _ h1, h1]
theorem keyed_XK {os : List Value} : Keyed (evXK P R N m pl fl os) := fun ks r o e => by
 obtain ⟨oF, oC⟩ := o
 obtain ⟨fl1, _, h2⟩ := evXK_spec e
 exact keepF_keys h2
theorem keyed_if {b : Bool} {X : List Nat → Option (FL × List Obl × List Obl)} (hX : Keyed X) : Keyed (fun ks => bif b then X ks else none) := fun ks r o e => by
 cases b with
 | false => cases e
 | true => exact hX ks r o e
theorem keyed_R {os : List Value} : Keyed (evR P c N fl os) := keyed_if keyed_XK
theorem keyed_SR {os : List Value} : Keyed (evSR P c N fl os) := keyed_if keyed_R
theorem keyed_RD {os : List Value} : Keyed (evRD P c pl m N fl os) := keyed_if keyed_XK
theorem keyed_SRD {os : List Value} : Keyed (evSRD P c pl m N fl os) := keyed_if keyed_RD
theorem c_S (n : Nat) (os : List Value) (ks : List Nat) (hSw : S w) (hf : Fr a N fl ds) (hF : ∀ w', S w' → HA w' oF) (hC : HA w oC)
  (k : ∀ a', Fr a' N (fr3 (evXK P R N m (pl.take n) fl os ks)) ds → wpPlan ε P R m S K (pl.drop n) a' w) (he : ob3 (evXK P R N m (pl.take n) fl os ks) = some (oF, oC) := by kernel_rfl) : wpPlan ε P R m S K pl a w :=
 p_qS n os _ oF oC hSw hf (keyed_XK.use he) hF hC k
theorem c_E (n : Nat) (os : List Value) (ks : List Nat) (hf : Fr a N fl ds) (hF : HA w oF) (hC : HA w oC)
  (k : ∀ a', Fr a' N (fr3 (evXK P R N m (pl.take n) fl os ks)) ds → wpPlan ε P R m (fun x => x = w) K (pl.drop n) a' w) (he : ob3 (evXK P R N m (pl.take n) fl os ks) = some (oF, oC) := by kernel_rfl) : wpPlan ε P R m (fun x => x = w) K pl a w :=
 p_qE n os _ oF oC hf (keyed_XK.use he) hF hC k
theorem c_n (n : Nat) (os : List Value) (ks : List Nat) (hf : Fr a N fl ds) (hC : HA w oC)
  (k : ∀ a', Fr a' N (fr3 (evXK P R N m (pl.take n) fl os ks)) ds → wpPlan ε P R m (fun _ => True) K (pl.drop n) a' w) (he : ob3 (evXK P R N m (pl.take n) fl os ks) = some ([], oC) := by kernel_rfl) : wpPlan ε P R m (fun _ => True) K pl a w :=
 p_qn n os _ oC hf (keyed_XK.use he) hC k
theorem c_z (os : List Value) (ks : List Nat) (hf : Fr a N fl ds) (hC : HA w oC)
  (k : ∀ a', Fr a' N (fr3 (evXK P R N m pl fl os ks)) ds → K a' w) (he : ob3 (evXK P R N m pl fl os ks) = some ([], oC) := by kernel_rfl) : wpPlan ε P R m (fun _ => True) K pl a w :=
 p_qz os _ oC hf (keyed_XK.use he) hC k
theorem c_t (os : List Value) (ks : List Nat) (hf : Fr a N fl ds) (hC : HA w oC)
  (k : ∀ a', Fr a' N (fr3 (evXK P R N m pl fl os ks)) ds → K' a' w) (he : ob3 (evXK P R N m pl fl os ks) = some ([], oC) := by kernel_rfl) : wpPlan ε P R m (fun _ => True) (fun a w => Exit.then K' Q .normal a w) pl a w :=
 p_qt os _ oC hf (keyed_XK.use he) hC k
theorem c_tE (os : List Value) (ks : List Nat) (hf : Fr a N fl ds) (hF : HA w oF) (hC : HA w oC)
  (k : ∀ a', Fr a' N (fr3 (evXK P R N m pl fl os ks)) ds → K' a' w) (he : ob3 (evXK P R N m pl fl os ks) = some (oF, oC) := by kernel_rfl) : wpPlan ε P R m (fun x => x = w) (fun a w => Exit.then K' Q .normal a w) pl a w :=
 p_qtE os _ oF oC hf (keyed_XK.use he) hF hC k
theorem c_q (os : List Value) (ks : List Nat) (hf : Fr a N fl ds) (hC : HA w oC)
  (k : ∀ a', Fr a' N (fr3 (evR P c N fl os ks)) ds → Q .normal a' w) (he : ob3 (evR P c N fl os ks) = some ([], oC) := by kernel_rfl) : c.cw ro P Q a w :=
 w_q os _ oC hf (keyed_R.use he) hC k
theorem c_sq (os : List Value) (ks : List Nat) (hf : Fr a N fl ds) (hC : HA w oC)
  (k : ∀ a', Fr a' N (fr3 (evSR P c N fl os ks)) ds → (cr c).cw ro P Q a' w) (he : ob3 (evSR P c N fl os ks) = some ([], oC) := by kernel_rfl) : c.cw ro P Q a w :=
 w_sq os _ oC hf (keyed_SR.use he) hC k
theorem c_qD (pl : List (Nat × Bool)) (m : List Nat) (os : List Value) (ks : List Nat) (hf : Fr a N fl ds) (hF : HA w.drew oF) (hC : HA w.drew oC)
  (k : ∀ a', Fr a' N (fr3 (evRD P c pl m N fl os ks)) ds → Q .normal a' w.drew) (he : ob3 (evRD P c pl m N fl os ks) = some (oF, oC) := by kernel_rfl) : c.cw ro P Q a w :=
 w_qD pl m os _ oF oC hf (keyed_RD.use he) hF hC k
theorem c_sqD (pl : List (Nat × Bool)) (m : List Nat) (os : List Value) (ks : List Nat) (hf : Fr a N fl ds) (hF : HA w.drew oF) (hC : HA w.drew oC)
  (k : ∀ a', Fr a' N (fr3 (evSRD P c pl m N fl os ks)) ds → (cr c).cw ro P Q a' w.drew) (he : ob3 (evSRD P c pl m N fl os ks) = some (oF, oC) := by kernel_rfl) : c.cw ro P Q a w :=
 w_sqD pl m os _ oF oC hf (keyed_SRD.use he) hF hC k
def iAt : List (Nat × Bool) → Nat
 | [] => 0
 | (i, _) :: _ => i
def dAt (R : Array Oper) (pl : List (Nat × Bool)) : Option Nat := match R[iAt pl]? with
 | some o => o.dst
 | none => none
theorem c_call {f : FuncId} {args : Array Value} (hf : Fr a N fl ds)
  {Φ : Value → World → Prop} (hc : Calls P f args w fun e w' => ∃ v, e = .returned v ∧ Φ v w')
  (k : ∀ v w' a', Φ v w' → Fr a' N (putF fl (dAt R pl) v) ds → (m.contains (iAt pl) = false → S w') ∧ wpPlan ε P R m S K pl.tail a' w')
  (ho : callAt P R N pl fl = some (iAt pl, dAt R pl, f, args) := by kernel_rfl) : wpPlan ε P R m S K pl a w := p_call hf ho hc k
theorem c_box (cs : List Value) (T : TypeId) (hS : St h L w) (hf : Fr a N fl ds)
  (k : ∀ b w' a', St h (box b cs T :: L) w' → Fr a' N (putF fl (dAt R pl) (.pointer (some ⟨b, 0, none⟩))) ds → (m.contains (iAt pl) = false → S w') ∧ wpPlan ε P R m S K pl.tail a' w')
  (he : ∀ b, newAt P R N pl fl b = some (iAt pl, dAt R pl, .cells cs.toArray T (0, 0), .pointer (some ⟨b, 0, none⟩)) := by intro b; kernel_rfl) : wpPlan ε P R m S K pl a w := p_box hS hf he k
def offAt (P : Program) (R : Array Oper) (N : Nat) (pl : List (Nat × Bool)) (fl : FL) : Nat := match storeAt P R N pl fl with
 | some (_, A, _) => A.off
 | none => 0
def vsAt (P : Program) (R : Array Oper) (N : Nat) (pl : List (Nat × Bool)) (fl : FL) : List Value := match storeAt P R N pl fl with
 | some (_, _, vs) => vs
 | none => []
theorem c_st (j : Nat) (cs' : List Value) {b : Nat} {cs : List Value} {T : TypeId} (hS : St h L w) (hf : Fr a N fl ds) (hj : L[j]? = some (box b cs T))
  (k : ∀ w' a', St h (L.set j (box b cs' T)) w' → Fr a' N fl ds → (m.contains (iAt pl) = false → S w') ∧ wpPlan ε P R m S K pl.tail a' w')
  (ho : storeAt P R N pl fl = some (iAt pl, ⟨b, offAt P R N pl fl, none⟩, vsAt P R N pl fl) := by kernel_rfl)
  (hfit : (Nat.ble (offAt P R N pl fl + (vsAt P R N pl fl).length) cs.length && oneCells (vsAt P R N pl fl)) = true := by kernel_rfl)
  (hcs : splice cs (offAt P R N pl fl) (vsAt P R N pl fl) = cs' := by kernel_rfl) : wpPlan ε P R m S K pl a w := p_store_eq hS hf hj ho hfit hcs k
theorem c_rt (os : List Value) (v : Value) {fn : Func} {R' : Ending → World → Prop} {obs : List Obl} (hf : Fr a N fl) (hob : HA w obs) (k : R' (.returned v) w) (he : resAt P fn fl os = some (v, obs) := by kernel_rfl) : postM P fn R' .ret a w := p_ret hf he hob k
theorem c_fall (os : List Value) (v : Value) {fn : Func} {R' : Ending → World → Prop} {obs : List Obl} (hf : Fr a N fl) (hob : HA w obs) (k : R' (.returned v) w) (he : resAt P fn fl os = some (v, obs) := by kernel_rfl) : postM P fn R' .normal a w := p_fall hf he hob k
theorem c_seq (k : (cl c).cw ro P (Exit.then (fun a w => (cr c).cw ro P Q a w) Q) a w) (hc : isSeq c = true := by kernel_rfl) : c.cw ro P Q a w := w_seq hc k
theorem c_block (id : Nat) (k : (cl c).cw ro P (Exit.inBlock id Q) a w) (hc : blockId c = some id := by kernel_rfl) : c.cw ro P Q a w := w_block hc k
theorem c_exit (id : Nat) (k : Q (.exit id) a w) (hc : exitId c = some id := by kernel_rfl) : c.cw ro P Q a w := w_exit hc k
theorem c_ret (k : Q .ret a w) (hc : isRet c = true := by kernel_rfl) : c.cw ro P Q a w := w_ret hc k
theorem c_skip (k : Q .normal a w) (hc : isSkip c = true := by kernel_rfl) : c.cw ro P Q a w := w_skip hc k
theorem c_if (b : Bool) (hf : Fr a N fl ds) (kt : b = true → (cl c).cw ro P Q a w) (ke : b = false → (cr c).cw ro P Q a w) (hc : condV c fl = some (.bool b) := by kernel_rfl) : c.cw ro P Q a w := w_if hf hc kt ke
theorem c_mid (M : Act → World → Prop) (k1 : (cl c).cw ro P (Exit.then M Q) a w) (k2 : ∀ a w, M a w → (cr c).cw ro P Q a w) (hc : isSeq c = true := by kernel_rfl) : c.cw ro P Q a w := w_mid hc M k1 k2
theorem c_sr (k : wpPlan noP P (cops (cl c)) [] (fun _ => True) (fun a w => Exit.then (fun a w => (cr c).cw ro P Q a w) Q .normal a w) (planSeq (cl c)) a w) (hc : (isSeq c && (isReg false (cl c) && noDefer (cops (cl c)))) = true := by kernel_rfl) : c.cw ro P Q a w := w_sr hc k
theorem c_reg (k : wpPlan noP P (cops c) [] (fun _ => True) (fun a w => Q .normal a w) (planSeq c) a w) (hc : (isReg false c && noDefer (cops c)) = true := by kernel_rfl) : c.cw ro P Q a w := w_reg hc k
theorem c_dt (k : K' a w) (hp : pl.isEmpty = true := by kernel_rfl) : wpPlan ε P R m S (fun a w => Exit.then K' Q .normal a w) pl a w := p_dt hp k
theorem c_done (k : K a w) (hp : pl.isEmpty = true := by kernel_rfl) : wpPlan ε P R m S K pl a w := p_done hp k
theorem c_loop (T : Nat → Act → World → Prop) (n : Nat) (h0 : T n a w)
  (k : ∀ n a w, T n a w → (cl c).cw ro P (Exit.then (fun a' w' => ∃ j, j < n ∧ T j a' w') Q) a w) (hc : isLoop c = true := by kernel_rfl) : c.cw ro P Q a w := w_loop hc T n h0 k
theorem c_regD (pl : List (Nat × Bool)) (m : List Nat) (S : World → Prop) (hS0 : S w.drew)
  (k : wpPlan noP P (cops c) m S (fun a w => Q .normal a w) pl a w.drew) (hm : P.follows .mixedOrders = true := by kernel_rfl) (hB : drawOK c pl m = true := by kernel_rfl) : c.cw ro P Q a w := w_regD hm pl m S hB hS0 k
theorem zr {h : Zone} : h.le h := Zone.le_refl _
theorem zt {a b c : Zone} (h : a.le b) (k : b.le c) : a.le c := Zone.le_trans h k
theorem bft (b : Bool) : b = true ∨ b = false := Bool.eq_false_or_eq_true b
end Go.Sx
namespace Go.Proofs.YtpooahfamelfnaaGreatDoor
open Go.Sl Go.Sx
theorem _root_.Go.Sx.ElemOK.up {P : Program} {t E : TypeId} {s : Nat} {z : Value} {a b : Nat} (h : ElemOK P t E s z a) (hab : a ≤ b) : ElemOK P t E s z b := by
 obtain ⟨h1, ⟨i, h2, h3, h4, h5⟩, h6, h7, h8⟩ := h
 exact ⟨h1, ⟨i, h2, h3, Nat.le_trans h4 hab, h5⟩, h6, h7, Nat.lt_of_lt_of_le h8 hab⟩
theorem el23 {nb : Nat} (hb : 32 ≤ nb := by decide) : ElemOK Tryz.prog 23 55 4 (.agg #[.int .i64 0, .int .i64 0, .int .i64 0, .int .i64 0]) nb := (ElemOK.of (nb := 32) (i := (Tryz.prog.info? 55).getD default) (by kernel_rfl) (by kernel_rfl) (by kernel_rfl) (by decide) (by kernel_rfl)).up hb
theorem el24 {nb : Nat} (hb : 24 ≤ nb := by decide) : ElemOK Tryz.prog 24 42 1 (.agg #[.slice none 0 0]) nb := (ElemOK.of (nb := 24) (i := (Tryz.prog.info? 42).getD default) (by kernel_rfl) (by kernel_rfl) (by kernel_rfl) (by decide) (by kernel_rfl)).up hb
theorem el40 {nb : Nat} (hb : 16 ≤ nb := by decide) : ElemOK Tryz.prog 40 46 2 (.agg #[.int .i64 0, .int .i64 0]) nb := (ElemOK.of (nb := 16) (i := (Tryz.prog.info? 46).getD default) (by kernel_rfl) (by kernel_rfl) (by kernel_rfl) (by decide) (by kernel_rfl)).up hb
theorem el62 {nb : Nat} (hb : 8 ≤ nb := by decide) : ElemOK Tryz.prog 62 3 1 (.int .i64 0) nb := (ElemOK.of (nb := 8) (i := (Tryz.prog.info? 3).getD default) (by kernel_rfl) (by kernel_rfl) (by kernel_rfl) (by decide) (by kernel_rfl)).up hb
theorem el82 {nb : Nat} (hb : 8 ≤ nb := by decide) : ElemOK Tryz.prog 82 97 1 (.map none) nb := (ElemOK.of (nb := 8) (i := (Tryz.prog.info? 97).getD default) (by kernel_rfl) (by kernel_rfl) (by kernel_rfl) (by decide) (by kernel_rfl)).up hb
theorem mp97 : MapOK Tryz.prog 97 (Value.bool false) := MapOK.of (kt := 3) (et := 4) (by kernel_rfl) (by kernel_rfl) (by kernel_rfl)
theorem mp143 : MapOK Tryz.prog 143 (rowV zrow) := MapOK.of (kt := 3) (et := 142) (by kernel_rfl) (by kernel_rfl) (by kernel_rfl)
end Go.Proofs.YtpooahfamelfnaaGreatDoor
