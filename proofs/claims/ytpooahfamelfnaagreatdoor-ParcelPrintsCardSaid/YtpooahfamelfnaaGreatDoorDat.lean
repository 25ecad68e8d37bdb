/-
 A part of the walk and of the plain law of one given statement. No condition.
-/
import Derived.Test.YtpooahfamelfnaaGreatDoorR2
import Derived.Test.YtpooahfamelfnaaGreatDoorProg
import Derived.Shelf.Strings.BuilderX
import Derived.Shelf.RegionOpenPlain
import Derived.Lib.Strings
import Derived.Lib.Slices
import Derived.Lib.Walk
import Derived.Lib.Builder
import Derived.Lib.UnsafeStr
import Derived.WalkKit
import Derived.Laws.Externs
import Derived.Test.YtpooahfamelfnaaGreatDoorKl
import Derived.Maps.RangeRun
set_option linter.unusedVariables false
set_option linter.unusedSimpArgs false
set_option maxRecDepth 100000
set_option maxHeartbeats 0
namespace Go.K
noncomputable section
open Go.Sl Go.Sx Go.Proofs
def G54 (lf : Nat) (x : (Int × (Int × Int))) : Option (Bool) :=
 cond (decide (x.1 ≥ x.2.1)) (some (decide (x.1 ≤ x.2.2))) (some false)
theorem F54_G (lf : Nat) (x : (Int × (Int × Int))) : F54 Tryz.prog lf x = G54 lf x := by
 obtain ⟨_, ⟨_, _⟩⟩ := x
 unfold G54
 kernel_rfl
def G82 (lf : Nat) (x : (Int × (Int × (Int × Int)))) : Option (Int) :=
 jn (((G54 lf (x.1, ((1 : Int), (9999 : Int))))).bind fun r9 => cond (!r9) (some (.inl true)) (((G54 lf (x.2.1, ((1 : Int), (9 : Int))))).bind fun r10 => cond (!r10) (some (.inl true)) (((G54 lf (x.2.2.1, ((1 : Int), (9 : Int))))).bind fun r11 => cond (!r11) (some (.inl true)) (((G54 lf (x.2.2.2, ((0 : Int), (10000 : Int))))).bind fun r12 => some (.inl (!r12)))))) (fun y13 : Bool => cond y13 (some (60 : Int)) (some (0 : Int)))
theorem F82_G (lf : Nat) (x : (Int × (Int × (Int × Int)))) : F82 Tryz.prog lf x = G82 lf x := by
 obtain ⟨_, ⟨_, ⟨_, _⟩⟩⟩ := x
 unfold G82
 (try simp only [← F54_G lf])
 kernel_rfl
def G55 (lf : Nat) (x : Yt) : Option (Int) :=
 cond (decide ((x.length : Int) > (40 : Int))) (some (60 : Int)) (iter lf (fun y7 : Int => cond (decide (y7 < (x.length : Int))) (jn (((getI x y7)).bind fun r8 => ((G82 lf (r8.1, (r8.2.1, (r8.2.2.1, r8.2.2.2))))).bind fun r9 => cond (!(decide (r9 = (0 : Int)))) (some (.inl true)) (cond (decide (y7 > (0 : Int))) (((getI x (w64 (y7 - (1 : Int))))).bind fun r10 => ((getI x y7)).bind fun r11 => some (.inl (decide (r10.1 ≥ r11.1)))) (some (.inl false)))) (fun y12 : Bool => cond y12 (some (.inr (60 : Int))) (some (.inl (w64 (y7 + (1 : Int))))))) (some (.inr (0 : Int)))) (0 : Int))
theorem F55_G (lf : Nat) (x : Yt) : F55 Tryz.prog lf x = G55 lf x := by
 unfold G55
 (try simp only [← F82_G lf])
 kernel_rfl
def G56 (lf : Nat) (x : (List (Int × Int))) : Option (Bool) :=
 cond (decide ((x.length : Int) > (40 : Int))) (some false) (iter lf (fun y8 : (Int × Int) => cond (decide (y8.2 < (x.length : Int))) (((getI x y8.2)).bind fun r9 => jn (((G54 lf (r9.1, ((1 : Int), (9999 : Int))))).bind fun r10 => cond (!r10) (some (.inl true)) (((G54 lf (r9.2, ((1 : Int), (100000000 : Int))))).bind fun r11 => cond (!r11) (some (.inl true)) (cond (decide (y8.2 > (0 : Int))) (((getI x (w64 (y8.2 - (1 : Int))))).bind fun r12 => some (.inl (decide (r12.1 ≥ r9.1)))) (some (.inl false))))) (fun y13 : Bool => cond y13 (some (.inr false)) (some (.inl ((w64 (y8.1 + r9.2)), (w64 (y8.2 + (1 : Int)))))))) (some (.inr (decide (y8.1 ≤ (100000000 : Int)))))) ((0 : Int), (0 : Int)))
theorem F56_G (lf : Nat) (x : (List (Int × Int))) : F56 Tryz.prog lf x = G56 lf x := by
 unfold G56
 (try simp only [← F54_G lf])
 kernel_rfl
def G83 (lf : Nat) (x : (List (Int × Int))) : Option (Int) :=
 iter lf (fun y4 : (Int × Int) => cond (decide (y4.2 < (x.length : Int))) (((getI x y4.2)).bind fun r5 => some (.inl ((w64 (y4.1 + r5.2)), (w64 (y4.2 + (1 : Int)))))) (some (.inr y4.1))) ((0 : Int), (0 : Int))
theorem F83_G (lf : Nat) (x : (List (Int × Int))) : F83 Tryz.prog lf x = G83 lf x := by
 unfold G83
 kernel_rfl
def G58 (lf : Nat) (x : Yr) : Option (Int) :=
 iter lf (fun y5 : (Int × Int) => cond (decide (y5.2 < (x.length : Int))) (((getI x y5.2)).bind fun r6 => ((G83 lf r6)).bind fun r7 => some (.inl ((w64 (y5.1 + r7)), (w64 (y5.2 + (1 : Int)))))) (some (.inr y5.1))) ((0 : Int), (0 : Int))
theorem F58_G (lf : Nat) (x : Yr) : F58 Tryz.prog lf x = G58 lf x := by
 unfold G58
 (try simp only [← F83_G lf])
 kernel_rfl
def G57 (lf : Nat) (x : (Yt × Int)) : Option (Int) :=
 iter lf (fun y4 : Int => cond (decide (y4 < (x.1.length : Int))) (((getI x.1 y4)).bind fun r5 => cond (decide (r5.1 = x.2)) (some (.inr y4)) (some (.inl (w64 (y4 + (1 : Int)))))) (some (.inr (-1 : Int)))) (0 : Int)
theorem F57_G (lf : Nat) (x : (Yt × Int)) : F57 Tryz.prog lf x = G57 lf x := by
 obtain ⟨_, _⟩ := x
 unfold G57
 kernel_rfl
def G29 (lf : Nat) (x : Ys) : Option (Int) :=
 ((G55 lf x.1)).bind fun r24 => cond (!(decide (r24 = (0 : Int)))) (some (62 : Int)) (iter lf (fun y25 : Int => cond (decide (y25 < (9 : Int))) (jn (cond (decide (y25 = (0 : Int))) (some (.inl x.2.1)) (cond (decide (y25 = (1 : Int))) (some (.inl x.2.2.1)) (cond (decide (y25 = (2 : Int))) (some (.inl x.2.2.2.1)) (cond (decide (y25 = (3 : Int))) (some (.inl x.2.2.2.2.1)) (cond (decide (y25 = (4 : Int))) (some (.inl x.2.2.2.2.2.1)) (cond (decide (y25 = (5 : Int))) (some (.inl x.2.2.2.2.2.2.1)) (cond (decide (y25 = (6 : Int))) (some (.inl x.2.2.2.2.2.2.2.1)) (cond (decide (y25 = (7 : Int))) (some (.inl x.2.2.2.2.2.2.2.2.1)) (cond (decide (y25 = (8 : Int))) (some (.inl x.2.2.2.2.2.2.2.2.2)) ((outI))))))))))) (fun y26 : Yr => cond (decide ((y26.length : Int) > (4 : Int))) (some (.inr (62 : Int))) (iter lf (fun y27 : Int => cond (decide (y27 < (y26.length : Int))) (jn (((getI y26 y27)).bind fun r28 => ((G56 lf r28)).bind fun r29 => cond (!r29) (some (.inl true)) (((getI y26 y27)).bind fun r30 => some (.inl (decide ((r30.length : Int) = (0 : Int)))))) (fun y31 : Bool => cond y31 (some (.inr (.inr (62 : Int)))) (iter lf (fun y32 : Int => ((getI y26 y27)).bind fun r33 => cond (decide (y32 < (r33.length : Int))) (((getI y26 y27)).bind fun r34 => ((getI r34 y32)).bind fun r35 => ((G57 lf (x.1, r35.1))).bind fun r36 => cond (decide (r36 < (0 : Int))) (some (.inr (.inr (.inr (62 : Int))))) (some (.inl (w64 (y32 + (1 : Int)))))) (some (.inr (.inl (w64 (y27 + (1 : Int))))))) (0 : Int)))) (outR (((G58 lf y26)).bind fun r37 => cond (decide (r37 > (100000000 : Int))) (some (.inr (62 : Int))) (some (.inl (w64 (y25 + (1 : Int)))))))) (0 : Int)))) (some (.inr (0 : Int)))) (0 : Int))
theorem F29_G (lf : Nat) (x : Ys) : F29 Tryz.prog lf x = G29 lf x := by
 obtain ⟨_, ⟨_, ⟨_, ⟨_, ⟨_, ⟨_, ⟨_, ⟨_, ⟨_, _⟩⟩⟩⟩⟩⟩⟩⟩⟩ := x
 unfold G29
 (try simp only [← F55_G lf, ← F56_G lf, ← F57_G lf, ← F58_G lf])
 kernel_rfl
def G30 (lf : Nat) (x : ((List (Int × Int)) × (List (Int × Int)))) : Option (Bool) :=
 cond (!(decide ((x.1.length : Int) = (x.2.length : Int)))) (some false) (iter lf (fun y5 : Int => cond (decide (y5 < (x.1.length : Int))) (((getI x.1 y5)).bind fun r6 => ((getI x.2 y5)).bind fun r7 => cond (!((decide (r6.1 = r7.1)) && ((decide (r6.2 = r7.2)) && true))) (some (.inr false)) (some (.inl (w64 (y5 + (1 : Int)))))) (some (.inr true))) (0 : Int))
theorem F30_G (lf : Nat) (x : ((List (Int × Int)) × (List (Int × Int)))) : F30 Tryz.prog lf x = G30 lf x := by
 obtain ⟨_, _⟩ := x
 unfold G30
 kernel_rfl
def G8 (lf : Nat) (x : (Ys × Ys)) : Option (Bool) :=
 cond (!(decide ((x.1.1.length : Int) = (x.2.1.length : Int)))) (some false) (iter lf (fun y198 : Int => cond (decide (y198 < (x.1.1.length : Int))) (((getI x.1.1 y198)).bind fun r199 => ((getI x.2.1 y198)).bind fun r200 => cond (!((decide (r199.1 = r200.1)) && ((decide (r199.2.1 = r200.2.1)) && ((decide (r199.2.2.1 = r200.2.2.1)) && ((decide (r199.2.2.2 = r200.2.2.2)) && true))))) (some (.inr false)) (some (.inl (w64 (y198 + (1 : Int)))))) (outR (iter lf (fun y201 : Int => cond (decide (y201 < (9 : Int))) (jn (jn (cond (decide (y201 = (0 : Int))) (cond (decide (y201 = (0 : Int))) (some (.inl (!(decide ((x.1.2.1.length : Int) = (x.2.2.1.length : Int)))))) (cond (decide (y201 = (1 : Int))) (some (.inl (!(decide ((x.1.2.1.length : Int) = (x.2.2.2.1.length : Int)))))) (cond (decide (y201 = (2 : Int))) (some (.inl (!(decide ((x.1.2.1.length : Int) = (x.2.2.2.2.1.length : Int)))))) (cond (decide (y201 = (3 : Int))) (some (.inl (!(decide ((x.1.2.1.length : Int) = (x.2.2.2.2.2.1.length : Int)))))) (cond (decide (y201 = (4 : Int))) (some (.inl (!(decide ((x.1.2.1.length : Int) = (x.2.2.2.2.2.2.1.length : Int)))))) (cond (decide (y201 = (5 : Int))) (some (.inl (!(decide ((x.1.2.1.length : Int) = (x.2.2.2.2.2.2.2.1.length : Int)))))) (cond (decide (y201 = (6 : Int))) (some (.inl (!(decide ((x.1.2.1.length : Int) = (x.2.2.2.2.2.2.2.2.1.length : Int)))))) (cond (decide (y201 = (7 : Int))) (some (.inl (!(decide ((x.1.2.1.length : Int) = (x.2.2.2.2.2.2.2.2.2.1.length : Int)))))) (cond (decide (y201 = (8 : Int))) (some (.inl (!(decide ((x.1.2.1.length : Int) = (x.2.2.2.2.2.2.2.2.2.2.length : Int)))))) ((outI))))))))))) (cond (decide (y201 = (1 : Int))) (cond (decide (y201 = (0 : Int))) (some (.inl (!(decide ((x.1.2.2.1.length : Int) = (x.2.2.1.length : Int)))))) (cond (decide (y201 = (1 : Int))) (some (.inl (!(decide ((x.1.2.2.1.length : Int) = (x.2.2.2.1.length : Int)))))) (cond (decide (y201 = (2 : Int))) (some (.inl (!(decide ((x.1.2.2.1.length : Int) = (x.2.2.2.2.1.length : Int)))))) (cond (decide (y201 = (3 : Int))) (some (.inl (!(decide ((x.1.2.2.1.length : Int) = (x.2.2.2.2.2.1.length : Int)))))) (cond (decide (y201 = (4 : Int))) (some (.inl (!(decide ((x.1.2.2.1.length : Int) = (x.2.2.2.2.2.2.1.length : Int)))))) (cond (decide (y201 = (5 : Int))) (some (.inl (!(decide ((x.1.2.2.1.length : Int) = (x.2.2.2.2.2.2.2.1.length : Int)))))) (cond (decide (y201 = (6 : Int))) (some (.inl (!(decide ((x.1.2.2.1.length : Int) = (x.2.2.2.2.2.2.2.2.1.length : Int)))))) (cond (decide (y201 = (7 : Int))) (some (.inl (!(decide ((x.1.2.2.1.length : Int) = (x.2.2.2.2.2.2.2.2.2.1.length : Int)))))) (cond (decide (y201 = (8 : Int))) (some (.inl (!(decide ((x.1.2.2.1.length : Int) = (x.2.2.2.2.2.2.2.2.2.2.length : Int)))))) ((outI))))))))))) (cond (decide (y201 = (2 : Int))) (cond (decide (y201 = (0 : Int))) (some (.inl (!(decide ((x.1.2.2.2.1.length : Int) = (x.2.2.1.length : Int)))))) (cond (decide (y201 = (1 : Int))) (some (.inl (!(decide ((x.1.2.2.2.1.length : Int) = (x.2.2.2.1.length : Int)))))) (cond (decide (y201 = (2 : Int))) (some (.inl (!(decide ((x.1.2.2.2.1.length : Int) = (x.2.2.2.2.1.length : Int)))))) (cond (decide (y201 = (3 : Int))) (some (.inl (!(decide ((x.1.2.2.2.1.length : Int) = (x.2.2.2.2.2.1.length : Int)))))) (cond (decide (y201 = (4 : Int))) (some (.inl (!(decide ((x.1.2.2.2.1.length : Int) = (x.2.2.2.2.2.2.1.length : Int)))))) (cond (decide (y201 = (5 : Int))) (some (.inl (!(decide ((x.1.2.2.2.1.length : Int) = (x.2.2.2.2.2.2.2.1.length : Int)))))) (cond (decide (y201 = (6 : Int))) (some (.inl (!(decide ((x.1.2.2.2.1.length : Int) = (x.2.2.2.2.2.2.2.2.1.length : Int)))))) (cond (decide (y201 = (7 : Int))) (some (.inl (!(decide ((x.1.2.2.2.1.length : Int) = (x.2.2.2.2.2.2.2.2.2.1.length : Int)))))) (cond (decide (y201 = (8 : Int))) (some (.inl (!(decide ((x.1.2.2.2.1.length : Int) = (x.2.2.2.2.2.2.2.2.2.2.length : Int)))))) ((outI))))))))))) (cond (decide (y201 = (3 : Int))) (cond (decide (y201 = (0 : Int))) (some (.inl (!(decide ((x.1.2.2.2.2.1.length : Int) = (x.2.2.1.length : Int)))))) (cond (decide (y201 = (1 : Int))) (some (.inl (!(decide ((x.1.2.2.2.2.1.length : Int) = (x.2.2.2.1.length : Int)))))) (cond (decide (y201 = (2 : Int))) (some (.inl (!(decide ((x.1.2.2.2.2.1.length : Int) = (x.2.2.2.2.1.length : Int)))))) (cond (decide (y201 = (3 : Int))) (some (.inl (!(decide ((x.1.2.2.2.2.1.length : Int) = (x.2.2.2.2.2.1.length : Int)))))) (cond (decide (y201 = (4 : Int))) (some (.inl (!(decide ((x.1.2.2.2.2.1.length : Int) = (x.2.2.2.2.2.2.1.length : Int)))))) (cond (decide (y201 = (5 : Int))) (some (.inl (!(decide ((x.1.2.2.2.2.1.length : Int) = (x.2.2.2.2.2.2.2.1.length : Int)))))) (cond (decide (y201 = (6 : Int))) (some (.inl (!(decide ((x.1.2.2.2.2.1.length : Int) = (x.2.2.2.2.2.2.2.2.1.length : Int)))))) (cond (decide (y201 = (7 : Int))) (some (.inl (!(decide ((x.1.2.2.2.2.1.length : Int) = (x.2.2.2.2.2.2.2.2.2.1.length : Int)))))) (cond (decide (y201 = (8 : Int))) (some (.inl (!(decide ((x.1.2.2.2.2.1.length : Int) = (x.2.2.2.2.2.2.2.2.2.2.length : Int)))))) ((outI))))))))))) (cond (decide (y201 = (4 : Int))) (cond (decide (y201 = (0 : Int))) (some (.inl (!(decide ((x.1.2.2.2.2.2.1.length : Int) = (x.2.2.1.length : Int)))))) (cond (decide (y201 = (1 : Int))) (some (.inl (!(decide ((x.1.2.2.2.2.2.1.length : Int) = (x.2.2.2.1.length : Int)))))) (cond (decide (y201 = (2 : Int))) (some (.inl (!(decide ((x.1.2.2.2.2.2.1.length : Int) = (x.2.2.2.2.1.length : Int)))))) (cond (decide (y201 = (3 : Int))) (some (.inl (!(decide ((x.1.2.2.2.2.2.1.length : Int) = (x.2.2.2.2.2.1.length : Int)))))) (cond (decide (y201 = (4 : Int))) (some (.inl (!(decide ((x.1.2.2.2.2.2.1.length : Int) = (x.2.2.2.2.2.2.1.length : Int)))))) (cond (decide (y201 = (5 : Int))) (some (.inl (!(decide ((x.1.2.2.2.2.2.1.length : Int) = (x.2.2.2.2.2.2.2.1.length : Int)))))) (cond (decide (y201 = (6 : Int))) (some (.inl (!(decide ((x.1.2.2.2.2.2.1.length : Int) = (x.2.2.2.2.2.2.2.2.1.length : Int)))))) (cond (decide (y201 = (7 : Int))) (some (.inl (!(decide ((x.1.2.2.2.2.2.1.length : Int) = (x.2.2.2.2.2.2.2.2.2.1.length : Int)))))) (cond (decide (y201 = (8 : Int))) (some (.inl (!(decide ((x.1.2.2.2.2.2.1.length : Int) = (x.2.2.2.2.2.2.2.2.2.2.length : Int)))))) ((outI))))))))))) (cond (decide (y201 = (5 : Int))) (cond (decide (y201 = (0 : Int))) (some (.inl (!(decide ((x.1.2.2.2.2.2.2.1.length : Int) = (x.2.2.1.length : Int)))))) (cond (decide (y201 = (1 : Int))) (some (.inl (!(decide ((x.1.2.2.2.2.2.2.1.length : Int) = (x.2.2.2.1.length : Int)))))) (cond (decide (y201 = (2 : Int))) (some (.inl (!(decide ((x.1.2.2.2.2.2.2.1.length : Int) = (x.2.2.2.2.1.length : Int)))))) (cond (decide (y201 = (3 : Int))) (some (.inl (!(decide ((x.1.2.2.2.2.2.2.1.length : Int) = (x.2.2.2.2.2.1.length : Int)))))) (cond (decide (y201 = (4 : Int))) (some (.inl (!(decide ((x.1.2.2.2.2.2.2.1.length : Int) = (x.2.2.2.2.2.2.1.length : Int)))))) (cond (decide (y201 = (5 : Int))) (some (.inl (!(decide ((x.1.2.2.2.2.2.2.1.length : Int) = (x.2.2.2.2.2.2.2.1.length : Int)))))) (cond (decide (y201 = (6 : Int))) (some (.inl (!(decide ((x.1.2.2.2.2.2.2.1.length : Int) = (x.2.2.2.2.2.2.2.2.1.length : Int)))))) (cond (decide (y201 = (7 : Int))) (some (.inl (!(decide ((x.1.2.2.2.2.2.2.1.length : Int) = (x.2.2.2.2.2.2.2.2.2.1.length : Int)))))) (cond (decide (y201 = (8 : Int))) (some (.inl (!(decide ((x.1.2.2.2.2.2.2.1.length : Int) = (x.2.2.2.2.2.2.2.2.2.2.length : Int)))))) ((outI))))))))))) (cond (decide (y201 = (6 : Int))) (cond (decide (y201 = (0 : Int))) (some (.inl (!(decide ((x.1.2.2.2.2.2.2.2.1.length : Int) = (x.2.2.1.length : Int)))))) (cond (decide (y201 = (1 : Int))) (some (.inl (!(decide ((x.1.2.2.2.2.2.2.2.1.length : Int) = (x.2.2.2.1.length : Int)))))) (cond (decide (y201 = (2 : Int))) (some (.inl (!(decide ((x.1.2.2.2.2.2.2.2.1.length : Int) = (x.2.2.2.2.1.length : Int)))))) (cond (decide (y201 = (3 : Int))) (some (.inl (!(decide ((x.1.2.2.2.2.2.2.2.1.length : Int) = (x.2.2.2.2.2.1.length : Int)))))) (cond (decide (y201 = (4 : Int))) (some (.inl (!(decide ((x.1.2.2.2.2.2.2.2.1.length : Int) = (x.2.2.2.2.2.2.1.length : Int)))))) (cond (decide (y201 = (5 : Int))) (some (.inl (!(decide ((x.1.2.2.2.2.2.2.2.1.length : Int) = (x.2.2.2.2.2.2.2.1.length : Int)))))) (cond (decide (y201 = (6 : Int))) (some (.inl (!(decide ((x.1.2.2.2.2.2.2.2.1.length : Int) = (x.2.2.2.2.2.2.2.2.1.length : Int)))))) (cond (decide (y201 = (7 : Int))) (some (.inl (!(decide ((x.1.2.2.2.2.2.2.2.1.length : Int) = (x.2.2.2.2.2.2.2.2.2.1.length : Int)))))) (cond (decide (y201 = (8 : Int))) (some (.inl (!(decide ((x.1.2.2.2.2.2.2.2.1.length : Int) = (x.2.2.2.2.2.2.2.2.2.2.length : Int)))))) ((outI))))))))))) (cond (decide (y201 = (7 : Int))) (cond (decide (y201 = (0 : Int))) (some (.inl (!(decide ((x.1.2.2.2.2.2.2.2.2.1.length : Int) = (x.2.2.1.length : Int)))))) (cond (decide (y201 = (1 : Int))) (some (.inl (!(decide ((x.1.2.2.2.2.2.2.2.2.1.length : Int) = (x.2.2.2.1.length : Int)))))) (cond (decide (y201 = (2 : Int))) (some (.inl (!(decide ((x.1.2.2.2.2.2.2.2.2.1.length : Int) = (x.2.2.2.2.1.length : Int)))))) (cond (decide (y201 = (3 : Int))) (some (.inl (!(decide ((x.1.2.2.2.2.2.2.2.2.1.length : Int) = (x.2.2.2.2.2.1.length : Int)))))) (cond (decide (y201 = (4 : Int))) (some (.inl (!(decide ((x.1.2.2.2.2.2.2.2.2.1.length : Int) = (x.2.2.2.2.2.2.1.length : Int)))))) (cond (decide (y201 = (5 : Int))) (some (.inl (!(decide ((x.1.2.2.2.2.2.2.2.2.1.length : Int) = (x.2.2.2.2.2.2.2.1.length : Int)))))) (cond (decide (y201 = (6 : Int))) (some (.inl (!(decide ((x.1.2.2.2.2.2.2.2.2.1.length : Int) = (x.2.2.2.2.2.2.2.2.1.length : Int)))))) (cond (decide (y201 = (7 : Int))) (some (.inl (!(decide ((x.1.2.2.2.2.2.2.2.2.1.length : Int) = (x.2.2.2.2.2.2.2.2.2.1.length : Int)))))) (cond (decide (y201 = (8 : Int))) (some (.inl (!(decide ((x.1.2.2.2.2.2.2.2.2.1.length : Int) = (x.2.2.2.2.2.2.2.2.2.2.length : Int)))))) ((outI))))))))))) (cond (decide (y201 = (8 : Int))) (cond (decide (y201 = (0 : Int))) (some (.inl (!(decide ((x.1.2.2.2.2.2.2.2.2.2.length : Int) = (x.2.2.1.length : Int)))))) (cond (decide (y201 = (1 : Int))) (some (.inl (!(decide ((x.1.2.2.2.2.2.2.2.2.2.length : Int) = (x.2.2.2.1.length : Int)))))) (cond (decide (y201 = (2 : Int))) (some (.inl (!(decide ((x.1.2.2.2.2.2.2.2.2.2.length : Int) = (x.2.2.2.2.1.length : Int)))))) (cond (decide (y201 = (3 : Int))) (some (.inl (!(decide ((x.1.2.2.2.2.2.2.2.2.2.length : Int) = (x.2.2.2.2.2.1.length : Int)))))) (cond (decide (y201 = (4 : Int))) (some (.inl (!(decide ((x.1.2.2.2.2.2.2.2.2.2.length : Int) = (x.2.2.2.2.2.2.1.length : Int)))))) (cond (decide (y201 = (5 : Int))) (some (.inl (!(decide ((x.1.2.2.2.2.2.2.2.2.2.length : Int) = (x.2.2.2.2.2.2.2.1.length : Int)))))) (cond (decide (y201 = (6 : Int))) (some (.inl (!(decide ((x.1.2.2.2.2.2.2.2.2.2.length : Int) = (x.2.2.2.2.2.2.2.2.1.length : Int)))))) (cond (decide (y201 = (7 : Int))) (some (.inl (!(decide ((x.1.2.2.2.2.2.2.2.2.2.length : Int) = (x.2.2.2.2.2.2.2.2.2.1.length : Int)))))) (cond (decide (y201 = (8 : Int))) (some (.inl (!(decide ((x.1.2.2.2.2.2.2.2.2.2.length : Int) = (x.2.2.2.2.2.2.2.2.2.2.length : Int)))))) ((outI))))))))))) ((outI))))))))))) (fun y202 : Bool => cond y202 (some (.inr (.inr false))) (iter lf (fun y203 : Int => jn (cond (decide (y201 = (0 : Int))) (cond (decide (y203 < (x.1.2.1.length : Int))) (some (.inl ())) (some (.inr (.inr (.inl ()))))) (cond (decide (y201 = (1 : Int))) (cond (decide (y203 < (x.1.2.2.1.length : Int))) (some (.inl ())) (some (.inr (.inr (.inl ()))))) (cond (decide (y201 = (2 : Int))) (cond (decide (y203 < (x.1.2.2.2.1.length : Int))) (some (.inl ())) (some (.inr (.inr (.inl ()))))) (cond (decide (y201 = (3 : Int))) (cond (decide (y203 < (x.1.2.2.2.2.1.length : Int))) (some (.inl ())) (some (.inr (.inr (.inl ()))))) (cond (decide (y201 = (4 : Int))) (cond (decide (y203 < (x.1.2.2.2.2.2.1.length : Int))) (some (.inl ())) (some (.inr (.inr (.inl ()))))) (cond (decide (y201 = (5 : Int))) (cond (decide (y203 < (x.1.2.2.2.2.2.2.1.length : Int))) (some (.inl ())) (some (.inr (.inr (.inl ()))))) (cond (decide (y201 = (6 : Int))) (cond (decide (y203 < (x.1.2.2.2.2.2.2.2.1.length : Int))) (some (.inl ())) (some (.inr (.inr (.inl ()))))) (cond (decide (y201 = (7 : Int))) (cond (decide (y203 < (x.1.2.2.2.2.2.2.2.2.1.length : Int))) (some (.inl ())) (some (.inr (.inr (.inl ()))))) (cond (decide (y201 = (8 : Int))) (cond (decide (y203 < (x.1.2.2.2.2.2.2.2.2.2.length : Int))) (some (.inl ())) (some (.inr (.inr (.inl ()))))) ((outI))))))))))) (fun y204 : PUnit => jn (cond (decide (y201 = (0 : Int))) (((getI x.1.2.1 y203)).bind fun r205 => cond (decide (y201 = (0 : Int))) (((getI x.2.2.1 y203)).bind fun r206 => ((G30 lf (r205, r206))).bind fun r207 => some (.inl r207)) (cond (decide (y201 = (1 : Int))) (((getI x.2.2.2.1 y203)).bind fun r208 => ((G30 lf (r205, r208))).bind fun r209 => some (.inl r209)) (cond (decide (y201 = (2 : Int))) (((getI x.2.2.2.2.1 y203)).bind fun r210 => ((G30 lf (r205, r210))).bind fun r211 => some (.inl r211)) (cond (decide (y201 = (3 : Int))) (((getI x.2.2.2.2.2.1 y203)).bind fun r212 => ((G30 lf (r205, r212))).bind fun r213 => some (.inl r213)) (cond (decide (y201 = (4 : Int))) (((getI x.2.2.2.2.2.2.1 y203)).bind fun r214 => ((G30 lf (r205, r214))).bind fun r215 => some (.inl r215)) (cond (decide (y201 = (5 : Int))) (((getI x.2.2.2.2.2.2.2.1 y203)).bind fun r216 => ((G30 lf (r205, r216))).bind fun r217 => some (.inl r217)) (cond (decide (y201 = (6 : Int))) (((getI x.2.2.2.2.2.2.2.2.1 y203)).bind fun r218 => ((G30 lf (r205, r218))).bind fun r219 => some (.inl r219)) (cond (decide (y201 = (7 : Int))) (((getI x.2.2.2.2.2.2.2.2.2.1 y203)).bind fun r220 => ((G30 lf (r205, r220))).bind fun r221 => some (.inl r221)) (cond (decide (y201 = (8 : Int))) (((getI x.2.2.2.2.2.2.2.2.2.2 y203)).bind fun r222 => ((G30 lf (r205, r222))).bind fun r223 => some (.inl r223)) ((outI))))))))))) (cond (decide (y201 = (1 : Int))) (((getI x.1.2.2.1 y203)).bind fun r224 => cond (decide (y201 = (0 : Int))) (((getI x.2.2.1 y203)).bind fun r225 => ((G30 lf (r224, r225))).bind fun r226 => some (.inl r226)) (cond (decide (y201 = (1 : Int))) (((getI x.2.2.2.1 y203)).bind fun r227 => ((G30 lf (r224, r227))).bind fun r228 => some (.inl r228)) (cond (decide (y201 = (2 : Int))) (((getI x.2.2.2.2.1 y203)).bind fun r229 => ((G30 lf (r224, r229))).bind fun r230 => some (.inl r230)) (cond (decide (y201 = (3 : Int))) (((getI x.2.2.2.2.2.1 y203)).bind fun r231 => ((G30 lf (r224, r231))).bind fun r232 => some (.inl r232)) (cond (decide (y201 = (4 : Int))) (((getI x.2.2.2.2.2.2.1 y203)).bind fun r233 => ((G30 lf (r224, r233))).bind fun r234 => some (.inl r234)) (cond (decide (y201 = (5 : Int))) (((getI x.2.2.2.2.2.2.2.1 y203)).bind fun r235 => ((G30 lf (r224, r235))).bind fun r236 => some (.inl r236)) (cond (decide (y201 = (6 : Int))) (((getI x.2.2.2.2.2.2.2.2.1 y203)).bind fun r237 => ((G30 lf (r224, r237))).bind fun r238 => some (.inl r238)) (cond (decide (y201 = (7 : Int))) (((getI x.2.2.2.2.2.2.2.2.2.1 y203)).bind fun r239 => ((G30 lf (r224, r239))).bind fun r240 => some (.inl r240)) (cond (decide (y201 = (8 : Int))) (((getI x.2.2.2.2.2.2.2.2.2.2 y203)).bind fun r241 => ((G30 lf (r224, r241))).bind fun r242 => some (.inl r242)) ((outI))))))))))) (cond (decide (y201 = (2 : Int))) (((getI x.1.2.2.2.1 y203)).bind fun r243 => cond (decide (y201 = (0 : Int))) (((getI x.2.2.1 y203)).bind fun r244 => ((G30 lf (r243, r244))).bind fun r245 => some (.inl r245)) (cond (decide (y201 = (1 : Int))) (((getI x.2.2.2.1 y203)).bind fun r246 => ((G30 lf (r243, r246))).bind fun r247 => some (.inl r247)) (cond (decide (y201 = (2 : Int))) (((getI x.2.2.2.2.1 y203)).bind fun r248 => ((G30 lf (r243, r248))).bind fun r249 => some (.inl r249)) (cond (decide (y201 = (3 : Int))) (((getI x.2.2.2.2.2.1 y203)).bind fun r250 => ((G30 lf (r243, r250))).bind fun r251 => some (.inl r251)) (cond (decide (y201 = (4 : Int))) (((getI x.2.2.2.2.2.2.1 y203)).bind fun r252 => ((G30 lf (r243, r252))).bind fun r253 => some (.inl r253)) (cond (decide (y201 = (5 : Int))) (((getI x.2.2.2.2.2.2.2.1 y203)).bind fun r254 => ((G30 lf (r243, r254))).bind fun r255 => some (.inl r255)) (cond (decide (y201 = (6 : Int))) (((getI x.2.2.2.2.2.2.2.2.1 y203)).bind fun r256 => ((G30 lf (r243, r256))).bind fun r257 => some (.inl r257)) (cond (decide (y201 = (7 : Int))) (((getI x.2.2.2.2.2.2.2.2.2.1 y203)).bind fun r258 => ((G30 lf (r243, r258))).bind fun r259 => some (.inl r259)) (cond (decide (y201 = (8 : Int))) (((getI x.2.2.2.2.2.2.2.2.2.2 y203)).bind fun r260 => ((G30 lf (r243, r260))).bind fun r261 => some (.inl r261)) ((outI))))))))))) (cond (decide (y201 = (3 : Int))) (((getI x.1.2.2.2.2.1 y203)).bind fun r262 => cond (decide (y201 = (0 : Int))) (((getI x.2.2.1 y203)).bind fun r263 => ((G30 lf (r262, r263))).bind fun r264 => some (.inl r264)) (cond (decide (y201 = (1 : Int))) (((getI x.2.2.2.1 y203)).bind fun r265 => ((G30 lf (r262, r265))).bind fun r266 => some (.inl r266)) (cond (decide (y201 = (2 : Int))) (((getI x.2.2.2.2.1 y203)).bind fun r267 => ((G30 lf (r262, r267))).bind fun r268 => some (.inl r268)) (cond (decide (y201 = (3 : Int))) (((getI x.2.2.2.2.2.1 y203)).bind fun r269 => ((G30 lf (r262, r269))).bind fun r270 => some (.inl r270)) (cond (decide (y201 = (4 : Int))) (((getI x.2.2.2.2.2.2.1 y203)).bind fun r271 => ((G30 lf (r262, r271))).bind fun r272 => some (.inl r272)) (cond (decide (y201 = (5 : Int))) (((getI x.2.2.2.2.2.2.2.1 y203)).bind fun r273 => ((G30 lf (r262, r273))).bind fun r274 => some (.inl r274)) (cond (decide (y201 = (6 : Int))) (((getI x.2.2.2.2.2.2.2.2.1 y203)).bind fun r275 => ((G30 lf (r262, r275))).bind fun r276 => some (.inl r276)) (cond (decide (y201 = (7 : Int))) (((getI x.2.2.2.2.2.2.2.2.2.1 y203)).bind fun r277 => ((G30 lf (r262, r277))).bind fun r278 => some (.inl r278)) (cond (decide (y201 = (8 : Int))) (((getI x.2.2.2.2.2.2.2.2.2.2 y203)).bind fun r279 => ((G30 lf (r262, r279))).bind fun r280 => some (.inl r280)) ((outI))))))))))) (cond (decide (y201 = (4 : Int))) (((getI x.1.2.2.2.2.2.1 y203)).bind fun r281 => cond (decide (y201 = (0 : Int))) (((getI x.2.2.1 y203)).bind fun r282 => ((G30 lf (r281, r282))).bind fun r283 => some (.inl r283)) (cond (decide (y201 = (1 : Int))) (((getI x.2.2.2.1 y203)).bind fun r284 => ((G30 lf (r281, r284))).bind fun r285 => some (.inl r285)) (cond (decide (y201 = (2 : Int))) (((getI x.2.2.2.2.1 y203)).bind fun r286 => ((G30 lf (r281, r286))).bind fun r287 => some (.inl r287)) (cond (decide (y201 = (3 : Int))) (((getI x.2.2.2.2.2.1 y203)).bind fun r288 => ((G30 lf (r281, r288))).bind fun r289 => some (.inl r289)) (cond (decide (y201 = (4 : Int))) (((getI x.2.2.2.2.2.2.1 y203)).bind fun r290 => ((G30 lf (r281, r290))).bind fun r291 => some (.inl r291)) (cond (decide (y201 = (5 : Int))) (((getI x.2.2.2.2.2.2.2.1 y203)).bind fun r292 => ((G30 lf (r281, r292))).bind fun r293 => some (.inl r293)) (cond (decide (y201 = (6 : Int))) (((getI x.2.2.2.2.2.2.2.2.1 y203)).bind fun r294 => ((G30 lf (r281, r294))).bind fun r295 => some (.inl r295)) (cond (decide (y201 = (7 : Int))) (((getI x.2.2.2.2.2.2.2.2.2.1 y203)).bind fun r296 => ((G30 lf (r281, r296))).bind fun r297 => some (.inl r297)) (cond (decide (y201 = (8 : Int))) (((getI x.2.2.2.2.2.2.2.2.2.2 y203)).bind fun r298 => ((G30 lf (r281, r298))).bind fun r299 => some (.inl r299)) ((outI))))))))))) (cond (decide (y201 = (5 : Int))) (((getI x.1.2.2.2.2.2.2.1 y203)).bind fun r300 => cond (decide (y201 = (0 : Int))) (((getI x.2.2.1 y203)).bind fun r301 => ((G30 lf (r300, r301))).bind fun r302 => some (.inl r302)) (cond (decide (y201 = (1 : Int))) (((getI x.2.2.2.1 y203)).bind fun r303 => ((G30 lf (r300, r303))).bind fun r304 => some (.inl r304)) (cond (decide (y201 = (2 : Int))) (((getI x.2.2.2.2.1 y203)).bind fun r305 => ((G30 lf (r300, r305))).bind fun r306 => some (.inl r306)) (cond (decide (y201 = (3 : Int))) (((getI x.2.2.2.2.2.1 y203)).bind fun r307 => ((G30 lf (r300, r307))).bind fun r308 => some (.inl r308)) (cond (decide (y201 = (4 : Int))) (((getI x.2.2.2.2.2.2.1 y203)).bind fun r309 => ((G30 lf (r300, r309))).bind fun r310 => some (.inl r310)) (cond (decide (y201 = (5 : Int))) (((getI x.2.2.2.2.2.2.2.1 y203)).bind fun r311 => ((G30 lf (r300, r311))).bind fun r312 => some (.inl r312)) (cond (decide (y201 = (6 : Int))) (((getI x.2.2.2.2.2.2.2.2.1 y203)).bind fun r313 => ((G30 lf (r300, r313))).bind fun r314 => some (.inl r314)) (cond (decide (y201 = (7 : Int))) (((getI x.2.2.2.2.2.2.2.2.2.1 y203)).bind fun r315 => ((G30 lf (r300, r315))).bind fun r316 => some (.inl r316)) (cond (decide (y201 = (8 : Int))) (((getI x.2.2.2.2.2.2.2.2.2.2 y203)).bind fun r317 => ((G30 lf (r300, r317))).bind fun r318 => some (.inl r318)) ((outI))))))))))) (cond (decide (y201 = (6 : Int))) (((getI x.1.2.2.2.2.2.2.2.1 y203)).bind fun r319 => cond (decide (y201 = (0 : Int))) (((getI x.2.2.1 y203)).bind fun r320 => ((G30 lf (r319, r320))).bind fun r321 => some (.inl r321)) (cond (decide (y201 = (1 : Int))) (((getI x.2.2.2.1 y203)).bind fun r322 => ((G30 lf (r319, r322))).bind fun r323 => some (.inl r323)) (cond (decide (y201 = (2 : Int))) (((getI x.2.2.2.2.1 y203)).bind fun r324 => ((G30 lf (r319, r324))).bind fun r325 => some (.inl r325)) (cond (decide (y201 = (3 : Int))) (((getI x.2.2.2.2.2.1 y203)).bind fun r326 => ((G30 lf (r319, r326))).bind fun r327 => some (.inl r327)) (cond (decide (y201 = (4 : Int))) (((getI x.2.2.2.2.2.2.1 y203)).bind fun r328 => ((G30 lf (r319, r328))).bind fun r329 => some (.inl r329)) (cond (decide (y201 = (5 : Int))) (((getI x.2.2.2.2.2.2.2.1 y203)).bind fun r330 => ((G30 lf (r319, r330))).bind fun r331 => some (.inl r331)) (cond (decide (y201 = (6 : Int))) (((getI x.2.2.2.2.2.2.2.2.1 y203)).bind fun r332 => ((G30 lf (r319, r332))).bind fun r333 => some (.inl r333)) (cond (decide (y201 = (7 : Int))) (((getI x.2.2.2.2.2.2.2.2.2.1 y203)).bind fun r334 => ((G30 lf (r319, r334))).bind fun r335 => some (.inl r335)) (cond (decide (y201 = (8 : Int))) (((getI x.2.2.2.2.2.2.2.2.2.2 y203)).bind fun r336 => ((G30 lf (r319, r336))).bind fun r337 => some (.inl r337)) ((outI))))))))))) (cond (decide (y201 = (7 : Int))) (((getI x.1.2.2.2.2.2.2.2.2.1 y203)).bind fun r338 => cond (decide (y201 = (0 : Int))) (((getI x.2.2.1 y203)).bind fun r339 => ((G30 lf (r338, r339))).bind fun r340 => some (.inl r340)) (cond (decide (y201 = (1 : Int))) (((getI x.2.2.2.1 y203)).bind fun r341 => ((G30 lf (r338, r341))).bind fun r342 => some (.inl r342)) (cond (decide (y201 = (2 : Int))) (((getI x.2.2.2.2.1 y203)).bind fun r343 => ((G30 lf (r338, r343))).bind fun r344 => some (.inl r344)) (cond (decide (y201 = (3 : Int))) (((getI x.2.2.2.2.2.1 y203)).bind fun r345 => ((G30 lf (r338, r345))).bind fun r346 => some (.inl r346)) (cond (decide (y201 = (4 : Int))) (((getI x.2.2.2.2.2.2.1 y203)).bind fun r347 => ((G30 lf (r338, r347))).bind fun r348 => some (.inl r348)) (cond (decide (y201 = (5 : Int))) (((getI x.2.2.2.2.2.2.2.1 y203)).bind fun r349 => ((G30 lf (r338, r349))).bind fun r350 => some (.inl r350)) (cond (decide (y201 = (6 : Int))) (((getI x.2.2.2.2.2.2.2.2.1 y203)).bind fun r351 => ((G30 lf (r338, r351))).bind fun r352 => some (.inl r352)) (cond (decide (y201 = (7 : Int))) (((getI x.2.2.2.2.2.2.2.2.2.1 y203)).bind fun r353 => ((G30 lf (r338, r353))).bind fun r354 => some (.inl r354)) (cond (decide (y201 = (8 : Int))) (((getI x.2.2.2.2.2.2.2.2.2.2 y203)).bind fun r355 => ((G30 lf (r338, r355))).bind fun r356 => some (.inl r356)) ((outI))))))))))) (cond (decide (y201 = (8 : Int))) (((getI x.1.2.2.2.2.2.2.2.2.2 y203)).bind fun r357 => cond (decide (y201 = (0 : Int))) (((getI x.2.2.1 y203)).bind fun r358 => ((G30 lf (r357, r358))).bind fun r359 => some (.inl r359)) (cond (decide (y201 = (1 : Int))) (((getI x.2.2.2.1 y203)).bind fun r360 => ((G30 lf (r357, r360))).bind fun r361 => some (.inl r361)) (cond (decide (y201 = (2 : Int))) (((getI x.2.2.2.2.1 y203)).bind fun r362 => ((G30 lf (r357, r362))).bind fun r363 => some (.inl r363)) (cond (decide (y201 = (3 : Int))) (((getI x.2.2.2.2.2.1 y203)).bind fun r364 => ((G30 lf (r357, r364))).bind fun r365 => some (.inl r365)) (cond (decide (y201 = (4 : Int))) (((getI x.2.2.2.2.2.2.1 y203)).bind fun r366 => ((G30 lf (r357, r366))).bind fun r367 => some (.inl r367)) (cond (decide (y201 = (5 : Int))) (((getI x.2.2.2.2.2.2.2.1 y203)).bind fun r368 => ((G30 lf (r357, r368))).bind fun r369 => some (.inl r369)) (cond (decide (y201 = (6 : Int))) (((getI x.2.2.2.2.2.2.2.2.1 y203)).bind fun r370 => ((G30 lf (r357, r370))).bind fun r371 => some (.inl r371)) (cond (decide (y201 = (7 : Int))) (((getI x.2.2.2.2.2.2.2.2.2.1 y203)).bind fun r372 => ((G30 lf (r357, r372))).bind fun r373 => some (.inl r373)) (cond (decide (y201 = (8 : Int))) (((getI x.2.2.2.2.2.2.2.2.2.2 y203)).bind fun r374 => ((G30 lf (r357, r374))).bind fun r375 => some (.inl r375)) ((outI))))))))))) ((outI))))))))))) (fun y376 : Bool => cond (!y376) (some (.inr (.inr (.inr false)))) (some (.inl (w64 (y203 + (1 : Int)))))))) (0 : Int)))) (fun y377 : PUnit => some (.inl (w64 (y201 + (1 : Int)))))) (some (.inr true))) (0 : Int)))) (0 : Int))
theorem F8_G (lf : Nat) (x : (Ys × Ys)) : F8 Tryz.prog lf x = G8 lf x := by
 obtain ⟨⟨_, ⟨_, ⟨_, ⟨_, ⟨_, ⟨_, ⟨_, ⟨_, ⟨_, _⟩⟩⟩⟩⟩⟩⟩⟩⟩, ⟨_, ⟨_, ⟨_, ⟨_, ⟨_, ⟨_, ⟨_, ⟨_, ⟨_, _⟩⟩⟩⟩⟩⟩⟩⟩⟩⟩ := x
 unfold G8
 (try simp only [← F30_G lf])
 kernel_rfl
def G33 (lf : Nat) : Nat → Int → Option (ByteArray)
 | 0, _ => none
 | n + 1, x => cond (decide (x < (10 : Int))) (some (strI [(Go.IntKind.wrap .u8 (w64 ((48 : Int) + x)))])) (((G33 lf n (w64 (Int.tdiv x (10 : Int))))).bind fun r5 => ((catC r5 (strI [(Go.IntKind.wrap .u8 (w64 ((48 : Int) + (Int.tmod x (10 : Int)))))]))).bind fun r6 => some (r5 ++ (strI [(Go.IntKind.wrap .u8 (w64 ((48 : Int) + (Int.tmod x (10 : Int)))))])))
theorem F33_G (lf : Nat) : ∀ (n : Nat) (x : Int), F33 Tryz.prog lf n x = G33 lf n x
 | 0, _ => rfl
 | n + 1, x => (F33_eq lf n x).trans (by
  unfold G33
  (try simp only [F33_G lf n, agree_self, Lib.toList_data]); first | done | rfl)
end
end Go.K
namespace Go.K
open Go.Sl Go.Sx Go.Proofs
abbrev LotK := Int × (Int × (Int × Int))
abbrev HeapK := List (Int × Int)
abbrev HoldK := List (List (Int × Int))
theorem gt_of {α : Type} {l : List α} {i : Nat} {x : α} (h : l[i]? = some x) : i < l.length := (List.getElem?_eq_some_iff.1 h).1
theorem jin {α ρ : Type} (a : α) (f : α → Option ρ) : jn (some (.inl a)) f = f a := rfl
theorem decNN {i n : Nat} (h : i < n) : decide ((i : Int) < (n : Int)) = true := zE (by omega)
theorem decNn (n : Nat) : decide ((n : Int) < (n : Int)) = false := zD (by omega)
theorem upW {i : Nat} (h : i + 1 < 9223372036854775808) : w64 ((i : Int) + 1) = ((i + 1 : Nat) : Int) := by
 rw [w64_id (by omega) (by omega)]; omega
theorem dnW {i : Nat} (h : i < 9223372036854775808) (h0 : 0 < i) : w64 ((i : Int) - 1) = ((i - 1 : Nat) : Int) := by
 rw [w64_id (by omega) (by omega)]; omega
def inB (n lo hi : Int) : Bool := decide (lo ≤ n) && decide (n ≤ hi)
theorem G48_in (lf : Nat) (n lo hi : Int) : G48 lf (n, (lo, hi)) = some (inB n lo hi) := by
 unfold G48 inB
 simp only
 cases decide (lo ≤ n) <;> rfl
theorem G54_in (lf : Nat) (n lo hi : Int) : G54 lf (n, (lo, hi)) = some (inB n lo hi) := by
 unfold G54 inB
 simp only [ge_iff_le]
 cases decide (lo ≤ n) <;> rfl
def lotB (l : LotK) : Bool := inB l.1 1 9999 && inB l.2.1 1 9 && inB l.2.2.1 1 9 && inB l.2.2.2 0 10000
theorem G17_lot (lf : Nat) (a b c d : Int) : G17 lf (a, (b, (c, d))) = some (bif lotB (a, (b, (c, d))) then 0 else 60) := by
 unfold G17 lotB
 simp only [G48_in, zB]
 cases inB a 1 9999 <;> cases inB b 1 9 <;> cases inB c 1 9 <;> cases inB d 0 10000 <;> rfl
theorem G82_lot (lf : Nat) (a b c d : Int) : G82 lf (a, (b, (c, d))) = some (bif lotB (a, (b, (c, d))) then 0 else 60) := by
 unfold G82 lotB
 simp only [G54_in, zB]
 cases inB a 1 9999 <;> cases inB b 1 9 <;> cases inB c 1 9 <;> cases inB d 0 10000 <;> rfl
def lotD : LotK := (0, (0, (0, 0)))
def lotsS (l : List LotK) (x : LotK) (i : Nat) : Option Int := bif !lotB x || (decide (0 < i) && decide ((l.getD (i - 1) lotD).1 ≥ x.1)) then some 60 else none
def lotsE (l : List LotK) : Int := if 40 < l.length then 60 else (scan (lotsS l) l 0).getD 0
theorem getD_of {α : Type} {l : List α} {i : Nat} (d : α) (h : i < l.length) : getI l (i : Int) = some (l.getD i d) := by
 apply getI_nat
 rw [List.getD_eq_getElem?_getD, List.getElem?_eq_getElem h]; rfl
theorem G52_lots (l : List LotK) : G52 LF l = some (lotsE l) := by
 unfold G52 lotsE
 by_cases h : 40 < l.length
 ·simp only [h, if_true, zE (show (l.length : Int) > 40 by omega), zT]
 ·simp only [h, if_false, zD (show ¬ (l.length : Int) > 40 by omega), zF]
  refine (iter_scan (lotsS l) l (some 0) ?_ ?_ (by show _ < 9223372036854775808; omega)).trans ?_
  ·intro i x hx _
   have hi := gt_of hx
   obtain ⟨a, b, c, d⟩ := x
   simp only [decNN hi, zT, getI_nat hx, zB, G17_lot, upW (show i + 1 < 9223372036854775808 by omega)]
   unfold lotsS
   cases lotB (a, (b, (c, d))) with
   | false => rfl
   | true =>
    by_cases h0 : 0 < i
    ·simp only [zE (show (i : Int) > 0 by omega), zE h0, zT, dnW (show i < 9223372036854775808 by omega) h0, getD_of lotD (show i - 1 < l.length by omega), zB, decide_true, Bool.not_true, zF, jin, Bool.true_and, Bool.false_or]
     cases decide ((l.getD (i - 1) lotD).1 ≥ a) <;> rfl
    ·simp only [zD (show ¬ (i : Int) > 0 by omega), zD h0]; rfl
  ·intro _
   simp only [decNn, zF]; rfl
  ·cases scan (lotsS l) l 0 <;> rfl
theorem G55_lots (l : List LotK) : G55 LF l = some (lotsE l) := by
 unfold G55 lotsE
 by_cases h : 40 < l.length
 ·simp only [h, if_true, zE (show (l.length : Int) > 40 by omega), zT]
 ·simp only [h, if_false, zD (show ¬ (l.length : Int) > 40 by omega), zF]
  refine (iter_scan (lotsS l) l (some 0) ?_ ?_ (by show _ < 9223372036854775808; omega)).trans ?_
  ·intro i x hx _
   have hi := gt_of hx
   obtain ⟨a, b, c, d⟩ := x
   simp only [decNN hi, zT, getI_nat hx, zB, G82_lot, upW (show i + 1 < 9223372036854775808 by omega)]
   unfold lotsS
   cases lotB (a, (b, (c, d))) with
   | false => rfl
   | true =>
    by_cases h0 : 0 < i
    ·simp only [zE (show (i : Int) > 0 by omega), zE h0, zT, dnW (show i < 9223372036854775808 by omega) h0, getD_of lotD (show i - 1 < l.length by omega), zB, decide_true, Bool.not_true, zF, jin, Bool.true_and, Bool.false_or]
     cases decide ((l.getD (i - 1) lotD).1 ≥ a) <;> rfl
    ·simp only [zD (show ¬ (i : Int) > 0 by omega), zD h0]; rfl
  ·intro _
   simp only [decNn, zF]; rfl
  ·cases scan (lotsS l) l 0 <;> rfl
end Go.K
namespace Go.K
open Go.Sl Go.Sx Go.Proofs
theorem iter_while {α ρ : Type} {f : α → Option (α ⊕ ρ)} (I : α → Prop) (mu : α → Nat) (Q : ρ → Prop)
  (h : ∀ y, I y → (∃ y', f y = some (.inl y') ∧ I y' ∧ mu y' < mu y) ∨ (∃ r, f y = some (.inr r) ∧ Q r)) : ∀ (n : Nat) (y : α), I y → mu y < n → ∃ r, iter n f y = some r ∧ Q r
 | 0, y, _, hn => absurd hn (Nat.not_lt_zero _)
 | n + 1, y, hi, hn => by
  rcases h y hi with ⟨y', e, h1, h2⟩ | ⟨r, e, hq⟩
  ·obtain ⟨r, e2, hq⟩ := iter_while I mu Q h n y' h1 (by omega)
   exact ⟨r, by simp only [iter, e, e2], hq⟩
  ·exact ⟨r, by simp only [iter, e], hq⟩
theorem same_heap (lf : Nat) (x : HeapK) : G56 lf x = G37 lf x := by
 unfold G56 G37
 simp only [G48_in, G54_in]
theorem same_mass (lf : Nat) (x : HeapK) : G83 lf x = G38 lf x := rfl
theorem same_total (lf : Nat) (x : HoldK) : G58 lf x = G41 lf x := by
 unfold G58 G41
 simp only [same_mass]
def risB (l : List LotK) : Prop := ∀ i j : Nat, i < j → j < l.length → (l.getD i lotD).1 < (l.getD j lotD).1
theorem lots_ris {l : List LotK} (h : lotsE l = 0) : l.length ≤ 40 ∧ risB l ∧ ∀ x ∈ l, lotB x = true := by
 unfold lotsE at h
 by_cases h40 : 40 < l.length
 ·rw [if_pos h40] at h; cases h
 ·rw [if_neg h40] at h
  have hs : scan (lotsS l) l 0 = none := by
   cases hc : scan (lotsS l) l 0 with
   | none => rfl
   | some e =>
    rw [hc] at h
    simp only [Option.getD_some] at h
    have key : ∀ (m : List LotK) (i : Nat) (e : Int), scan (lotsS l) m i = some e → e = 60 := by
     intro m
     induction m with
     | nil => intro i e h; cases h
     | cons x m ih =>
      intro i e h
      simp only [scan] at h
      cases hg : lotsS l x i with
      | none => rw [hg] at h; exact ih _ _ h
      | some u =>
       rw [hg] at h
       cases h
       unfold lotsS at hg
       revert hg
       cases (!lotB x || (decide (0 < i) && decide ((l.getD (i - 1) lotD).1 ≥ x.1))) <;> intro hg
       ·cases hg
       ·cases hg; rfl
    have := key l 0 e hc
    omega
  have key : ∀ (m : List LotK) (i : Nat), scan (lotsS l) m i = none → ∀ (k : Nat) (x : LotK), m[k]? = some x → lotsS l x (i + k) = none := by
   intro m
   induction m with
   | nil => intro i _ k x hx; cases hx
   | cons y m ih =>
    intro i hm k x hx
    simp only [scan] at hm
    cases hg : lotsS l y i with
    | some u => rw [hg] at hm; cases hm
    | none =>
     rw [hg] at hm
     cases k with
     | zero =>
      simp only [List.getElem?_cons_zero, zI] at hx
      subst hx; exact hg
     | succ k =>
      have := ih (i + 1) hm k x (by simpa using hx)
      rwa [show i + 1 + k = i + (k + 1) by omega] at this
  have at1 : ∀ (k : Nat) (x : LotK), l[k]? = some x → lotB x = true ∧ (0 < k → (l.getD (k - 1) lotD).1 < x.1) := by
   intro k x hx
   have := key l 0 hs k x hx
   rw [Nat.zero_add] at this
   unfold lotsS at this
   cases hb : lotB x with
   | false => rw [hb] at this; cases this
   | true =>
    refine ⟨rfl, fun h0 => ?_⟩
    rw [hb, zE h0] at this
    simp only [Bool.not_true, Bool.false_or, Bool.true_and] at this
    by_cases hh : (l.getD (k - 1) lotD).1 ≥ x.1
    ·rw [zE hh] at this; cases this
    ·omega
  refine ⟨by omega, ?_, fun x hx => ?_⟩
  ·have step : ∀ (d i : Nat), i + d + 1 < l.length → (l.getD i lotD).1 < (l.getD (i + d + 1) lotD).1 := by
    intro d
    induction d with
    | zero =>
     intro i hi
     have hx : l[i + 1]? = some (l.getD (i + 1) lotD) := by rw [List.getD_eq_getElem?_getD, List.getElem?_eq_getElem (by omega)]; rfl
     have := (at1 (i + 1) _ hx).2 (by omega)
     simpa using this
    | succ d ih =>
     intro i hi
     have h1 := ih i (by omega)
     have hx : l[i + (d + 1) + 1]? = some (l.getD (i + (d + 1) + 1) lotD) := by rw [List.getD_eq_getElem?_getD, List.getElem?_eq_getElem (by omega)]; rfl
     have := (at1 (i + (d + 1) + 1) _ hx).2 (by omega)
     rw [show i + (d + 1) + 1 - 1 = i + d + 1 by omega] at this
     omega
   intro i j hij hj
   have := step (j - i - 1) i (by omega)
   rwa [show i + (j - i - 1) + 1 = j by omega] at this
  ·obtain ⟨k, hk, e⟩ := List.getElem_of_mem hx
   exact (at1 k x (by rw [List.getElem?_eq_getElem hk, e])).1
end Go.K
namespace Go.K
open Go.Sl Go.Sx Go.Proofs
theorem wrap64 {n : Int} (h : 0 ≤ n ∧ n < 9223372036854775808) : Go.IntKind.wrap .u64 n = n := by
 unfold Go.IntKind.wrap
 have e : n % (2 ^ IntKind.u64.bits : Int) = n := Int.emod_eq_of_lt h.1 (by show n < 18446744073709551616; omega)
 simp only [e]
 rfl
theorem midW {a b : Nat} (h : a + b < 1000) : w64 (Int.fdiv (Go.IntKind.wrap .u64 (w64 ((a : Int) + (b : Int)))) (2 : Int)) = (((a + b) / 2 : Nat) : Int) := by
 rw [w64_id (n := (a : Int) + b) (by omega) (by omega), wrap64 (by omega)]
 have : Int.fdiv ((a : Int) + (b : Int)) 2 = (((a + b) / 2 : Nat) : Int) := by
  rw [Int.fdiv_eq_ediv_of_nonneg _ (by omega)]
  omega
 rw [this, w64_id (by omega) (by omega)]
def hasL (l : List LotK) (id : Int) : Bool := l.any fun x => decide (x.1 = id)
theorem hasL_iff {l : List LotK} {id : Int} : hasL l id = true ↔ ∃ j : Nat, j < l.length ∧ (l.getD j lotD).1 = id := by
 unfold hasL
 rw [List.any_eq_true]
 constructor
 ·rintro ⟨x, hx, e⟩
  obtain ⟨j, hj, ex⟩ := List.getElem_of_mem hx
  refine ⟨j, hj, ?_⟩
  rw [List.getD_eq_getElem?_getD, List.getElem?_eq_getElem hj]
  simp only [Option.getD_some, ex]
  simpa using e
 ·rintro ⟨j, hj, e⟩
  refine ⟨l[j], List.getElem_mem hj, ?_⟩
  rw [List.getD_eq_getElem?_getD, List.getElem?_eq_getElem hj] at e
  simpa using e
theorem G42_has {l : List LotK} {id : Int} (hl : l.length ≤ 40) (hr : risB l) : ∃ r, G42 LF (l, id) = some r ∧ r.2 = hasL l id := by
 unfold G42
 refine iter_while (fun y : Int × Int => ∃ a b : Nat, y = ((a : Int), (b : Int)) ∧ a ≤ b ∧ b ≤ l.length ∧ (∀ j, j < a → (l.getD j lotD).1 < id) ∧ ∀ j, b ≤ j → j < l.length → id ≤ (l.getD j lotD).1)
  (fun y => (y.2 - y.1).toNat) (fun r : Int × Bool => r.2 = hasL l id) ?_ LF _ ⟨0, l.length, rfl, by omega, by omega, fun j h => by omega, fun j h1 h2 => by omega⟩ (show ((l.length : Int) - 0).toNat < 9223372036854775808 by omega)
 rintro y ⟨a, b, rfl, hab, hb, h1, h2⟩
 by_cases hlt : a < b
 ·refine .inl ?_
  have hm : (a + b) / 2 < l.length := by omega
  simp only [decNN hlt, zT, midW (show a + b < 1000 by omega), getD_of lotD hm, zB, decide_true, Bool.not_true, zF]
  by_cases hx : (l.getD ((a + b) / 2) lotD).1 < id
  ·refine ⟨((((a + b) / 2 + 1 : Nat) : Int), (b : Int)), ?_, ⟨(a + b) / 2 + 1, b, rfl, by omega, hb, fun j hj => ?_, h2⟩, by simp only; omega⟩
   ·simp only [hx, decide_true, zT, jin, upW (show (a + b) / 2 + 1 < 9223372036854775808 by omega)]
   ·by_cases e : j = (a + b) / 2
    ·subst e; exact hx
    ·have := hr j ((a + b) / 2) (by omega) hm
     omega
  ·refine ⟨((a : Int), (((a + b) / 2 : Nat) : Int)), ?_, ⟨a, (a + b) / 2, rfl, by omega, by omega, h1, fun j hj hjl => ?_⟩, by simp only; omega⟩
   ·simp only [hx, decide_false, zF]
    cases decide ((l.getD ((a + b) / 2) lotD).1 > id) <;> rfl
   ·by_cases e : j = (a + b) / 2
    ·subst e; omega
    ·have := hr ((a + b) / 2) j (by omega) hjl
     omega
 ·refine .inr ?_
  have hba : b = a := by omega
  subst hba
  simp only [decNn, zF]
  by_cases hn : b < l.length
  ·simp only [decNN hn, zT, getD_of lotD hn, zB, decide_true, Bool.not_true, zF]
   have hge := h2 b (Nat.le_refl _) hn
   have hlt' : ¬ (l.getD b lotD).1 < id := by omega
   simp only [hlt', decide_false, zF]
   by_cases hgt : (l.getD b lotD).1 > id
   ·simp only [hgt, decide_true, zT]
    refine ⟨_, rfl, ?_⟩
    simp only
    cases hh : hasL l id with
    | false => rfl
    | true =>
     obtain ⟨j, hj, e⟩ := hasL_iff.1 hh
     exfalso
     by_cases c : j < b
     ·have := h1 j c; omega
     ·by_cases c2 : j = b
      ·subst c2; omega
      ·have := hr b j (by omega) hj; omega
   ·simp only [hgt, decide_false, zF]
    refine ⟨_, rfl, ?_⟩
    simp only
    exact (hasL_iff.2 ⟨b, hn, by omega⟩).symm
  ·have : decide ((b : Int) < (l.length : Int)) = false := zD (by omega)
   simp only [this, zF]
   refine ⟨_, rfl, ?_⟩
   simp only
   cases hh : hasL l id with
   | false => rfl
   | true =>
    obtain ⟨j, hj, e⟩ := hasL_iff.1 hh
    have := h1 j (by omega)
    omega
theorem G57_has {l : List LotK} {id : Int} (hl : l.length ≤ 40) : ∃ r, G57 LF (l, id) = some r ∧ decide (r < 0) = !hasL l id := by
 unfold G57
 refine iter_while (fun y : Int => ∃ a : Nat, y = (a : Int) ∧ a ≤ l.length ∧ ∀ j, j < a → (l.getD j lotD).1 ≠ id) (fun y => (l.length : Int).toNat - y.toNat) (fun r : Int => decide (r < 0) = !hasL l id) ?_ LF _ ⟨0, rfl, by omega, fun j h => by omega⟩ (by show _ < 9223372036854775808; omega)
 rintro y ⟨a, rfl, ha, h1⟩
 by_cases hlt : a < l.length
 ·simp only [decNN hlt, zT, getD_of lotD hlt, zB]
  by_cases he : (l.getD a lotD).1 = id
  ·refine .inr ⟨(a : Int), by simp only [he, decide_true, zT], ?_⟩
   rw [hasL_iff.2 ⟨a, hlt, he⟩, zD (by omega)]; rfl
  ·refine .inl ⟨((a + 1 : Nat) : Int), ?_, ⟨a + 1, rfl, by omega, fun j hj => ?_⟩, by omega⟩
   ·simp only [he, decide_false, zF, upW (show a + 1 < 9223372036854775808 by omega)]
   ·by_cases e : j = a
    ·subst e; exact he
    ·exact h1 j (by omega)
 ·have hal : a = l.length := by omega
  subst hal
  simp only [decNn, zF]
  refine .inr ⟨-1, rfl, ?_⟩
  cases hh : hasL l id with
  | false => rfl
  | true =>
   obtain ⟨j, hj, e⟩ := hasL_iff.1 hh
   exact absurd e (h1 j hj)
end Go.K
namespace Go.K
open Go.Sl Go.Sx Go.Proofs
def massK (h : HeapK) : Int := h.foldl (fun a p => w64 (a + p.2)) 0
def totalK (h : HoldK) : Int := h.foldl (fun a p => w64 (a + massK p)) 0
theorem G38_mass (h : HeapK) (hl : h.length < LF) : G38 LF h = some (massK h) := by
 unfold G38 massK
 refine (iter_foldI (fun i (a : Int) => (a, i)) (fun (p : Int × Int) _ a => w64 (a + p.2)) (fun _ _ => True) h (fun a => some a) 0 ?_ (fun _ _ _ _ _ => trivial) ?_ hl trivial).trans (by rw [foldI_const])
 ·intro i x a hx _
  have hi := gt_of hx
  simp only [decNN hi, zT, getI_nat hx, zB, upW (show i + 1 < 9223372036854775808 from Nat.lt_of_le_of_lt hi hl)]
 ·intro a _
  simp only [decNn]; rfl
theorem G41_total (h : HoldK) (hl : h.length < LF) (hh : ∀ x ∈ h, x.length < LF) : G41 LF h = some (totalK h) := by
 unfold G41 totalK
 refine (iter_foldI (fun i (a : Int) => (a, i)) (fun (p : HeapK) _ a => w64 (a + massK p)) (fun _ _ => True) h (fun a => some a) 0 ?_ (fun _ _ _ _ _ => trivial) ?_ hl trivial).trans (by rw [foldI_const])
 ·intro i x a hx _
  have hi := gt_of hx
  simp only [decNN hi, zT, getI_nat hx, zB, G38_mass x (hh x (List.mem_of_getElem? hx)), upW (show i + 1 < 9223372036854775808 from Nat.lt_of_le_of_lt hi hl)]
 ·intro a _
  simp only [decNn]; rfl
def partD : Int × Int := (0, 0)
def partS (h : HeapK) (p : Int × Int) (i : Nat) (a : Int) : Int ⊕ Bool := bif !inB p.1 1 9999 || (!inB p.2 1 100000000 || (decide (0 < i) && decide ((h.getD (i - 1) partD).1 ≥ p.1))) then .inr false else .inl (w64 (a + p.2))
def heapB (h : HeapK) : Bool := if 40 < h.length then false else match foldS (partS h) h 0 0 with
 | .inl s => decide (s ≤ 100000000)
 | .inr b => b
theorem G37_heap (h : HeapK) : G37 LF h = some (heapB h) := by
 unfold G37 heapB
 by_cases h40 : 40 < h.length
 ·simp only [h40, if_true, zE (show (h.length : Int) > 40 by omega), zT]
 ·simp only [h40, if_false, zD (show ¬ (h.length : Int) > 40 by omega), zF]
  refine (iter_go (fun i (a : Int) => (a, i)) (partS h) (fun _ _ => True) h (fun s => some (decide (s ≤ 100000000))) 0 ?_ (fun _ _ _ _ _ _ _ => trivial) ?_ (by show _ < 9223372036854775808; omega) trivial).trans ?_
  ·intro i x a hx _
   have hi := gt_of hx
   simp only [decNN hi, zT, getI_nat hx, zB, G48_in, upW (show i + 1 < 9223372036854775808 by omega)]
   unfold partS
   cases inB x.1 1 9999 with
   | false => rfl
   | true =>
    cases inB x.2 1 100000000 with
    | false => rfl
    | true =>
     by_cases h0 : 0 < i
     ·simp only [zE (show (i : Int) > 0 by omega), zE h0, zT, dnW (show i < 9223372036854775808 by omega) h0, getD_of partD (show i - 1 < h.length by omega), zB, Bool.not_true, zF, jin, Bool.true_and, Bool.false_or]
      cases decide ((h.getD (i - 1) partD).1 ≥ x.1) <;> rfl
     ·simp only [zD (show ¬ (i : Int) > 0 by omega), zD h0]; rfl
  ·intro a _
   simp only [decNn]; rfl
  ·cases foldS (partS h) h 0 0 <;> rfl
theorem heapB_len {h : HeapK} (hb : heapB h = true) : h.length ≤ 40 := by
 unfold heapB at hb
 by_cases h40 : 40 < h.length
 ·rw [if_pos h40] at hb; cases hb
 ·omega
end Go.K
namespace Go.K
open Go.Sl Go.Sx Go.Proofs
abbrev StockK := List LotK × (HoldK × (HoldK × (HoldK × (HoldK × (HoldK × (HoldK × (HoldK × (HoldK × HoldK))))))))
def holds (s : StockK) : List HoldK := [s.2.1, s.2.2.1, s.2.2.2.1, s.2.2.2.2.1, s.2.2.2.2.2.1, s.2.2.2.2.2.2.1, s.2.2.2.2.2.2.2.1, s.2.2.2.2.2.2.2.2.1, s.2.2.2.2.2.2.2.2.2]
theorem pick9 {ρ : Type} {a1 a2 a3 a4 a5 a6 a7 a8 a9 : HoldK} {i : Nat} {x : HoldK} (h : [a1, a2, a3, a4, a5, a6, a7, a8, a9][i]? = some x) :
  (cond (decide ((i : Int) = (0 : Int))) (some (.inl a1)) (cond (decide ((i : Int) = (1 : Int))) (some (.inl a2)) (cond (decide ((i : Int) = (2 : Int))) (some (.inl a3)) (cond (decide ((i : Int) = (3 : Int))) (some (.inl a4)) (cond (decide ((i : Int) = (4 : Int))) (some (.inl a5)) (cond (decide ((i : Int) = (5 : Int))) (some (.inl a6)) (cond (decide ((i : Int) = (6 : Int))) (some (.inl a7)) (cond (decide ((i : Int) = (7 : Int))) (some (.inl a8)) (cond (decide ((i : Int) = (8 : Int))) (some (.inl a9)) outI)))))))) : Option (HoldK ⊕ ρ)) = some (.inl x) := by
 match i, h with
 | 0, h => cases h; rfl
 | 1, h => cases h; rfl
 | 2, h => cases h; rfl
 | 3, h => cases h; rfl
 | 4, h => cases h; rfl
 | 5, h => cases h; rfl
 | 6, h => cases h; rfl
 | 7, h => cases h; rfl
 | 8, h => cases h; rfl
 | n + 9, h => simp at h
def heapE (lots : List LotK) (h : HeapK) : Option Int := bif !heapB h || decide (h.length = 0) || !(h.all fun p => hasL lots p.1) then some 62 else none
def holdE (lots : List LotK) (h : HoldK) : Option Int := if 4 < h.length then some 62 else match scan (fun x (_ : Nat) => heapE lots x) h 0 with
 | some e => some e
 | none => if totalK h > 100000000 then some 62 else none
def chkE (s : StockK) : Int := if lotsE s.1 ≠ 0 then 62 else (scan (fun h (_ : Nat) => holdE s.1 h) (holds s) 0).getD 0
theorem scan_allB {σ ρ : Type} (p : σ → Bool) (X : ρ) : ∀ (l : List σ) (i : Nat), scan (fun x (_ : Nat) => bif p x then none else some X) l i = bif l.all p then none else some X
 | [], _ => rfl
 | x :: l, i => by
  simp only [scan, List.all_cons]
  cases p x with
  | true => simp only [zT, Bool.true_and]; exact scan_allB p X l (i + 1)
  | false => rfl
theorem parts24 {ρ : Type} (lots : List LotK) (hl : lots.length ≤ 40) (hr : risB lots) (h : HeapK) (hh : h.length < LF) (X Y : ρ) :
  iter LF (fun y : Int => cond (decide (y < (h.length : Int))) (((getI h y)).bind fun r29 => ((G42 LF (lots, r29.1))).bind fun r30 => cond (!r30.2) (some (.inr X)) (some (.inl (w64 (y + (1 : Int)))))) (some (.inr Y))) (0 : Int) = some (bif h.all (fun p => hasL lots p.1) then Y else X) := by
 refine (iter_scan (fun (p : Int × Int) (_ : Nat) => bif hasL lots p.1 then none else some X) h (some Y) ?_ ?_ hh).trans ?_
 ·intro i x hx _
  have hi := gt_of hx
  obtain ⟨r, e, e2⟩ := G42_has (id := x.1) hl hr
  simp only [decNN hi, zT, getI_nat hx, zB, e, e2, upW (show i + 1 < 9223372036854775808 from Nat.lt_of_le_of_lt hi hh)]
  cases hasL lots x.1 <;> rfl
 ·intro _
  simp only [decNn, zF]; rfl
 ·rw [scan_allB]
  cases h.all (fun p => hasL lots p.1) <;> rfl
theorem hold24 {ρ : Type} (lots : List LotK) (hl : lots.length ≤ 40) (hr : risB lots) (h : HoldK) (h4 : h.length ≤ 4) (X Y : ρ) (Z : Option ρ) (hZ : (∀ x ∈ h, heapB x = true) → Z = some Y) :
  iter LF (fun y24 : Int => cond (decide (y24 < (h.length : Int))) (((getI h y24)).bind fun r25 => jn (((G37 LF r25)).bind fun r26 => cond (!r26) (some (.inl true)) (some (.inl (decide ((r25.length : Int) = (0 : Int)))))) (fun y27 : Bool => cond y27 (some (.inr X)) (iter LF (fun y28 : Int => cond (decide (y28 < (r25.length : Int))) (((getI r25 y28)).bind fun r29 => ((G42 LF (lots, r29.1))).bind fun r30 => cond (!r30.2) (some (.inr (.inr X))) (some (.inl (w64 (y28 + (1 : Int)))))) (some (.inr (.inl (w64 (y24 + (1 : Int))))))) (0 : Int)))) (outR Z)) (0 : Int)
   = some (match scan (fun x (_ : Nat) => heapE lots x) h 0 with | some _ => X | none => Y) := by
 refine (iter_scan (fun (x : HeapK) (_ : Nat) => (heapE lots x).map fun _ => X) h Z ?_ ?_ (by show _ < 9223372036854775808; omega)).trans ?_
 ·intro i x hx _
  have hi := gt_of hx
  simp only [decNN hi, zT, getI_nat hx, zB, G37_heap]
  unfold heapE
  cases hb : heapB x with
  | false => rfl
  | true =>
   have hxl := heapB_len hb
   simp only [Bool.not_true, zF, jin, Bool.false_or, parts24 lots hl hr x (by show _ < 9223372036854775808; omega), upW (show i + 1 < 9223372036854775808 by omega)]
   by_cases h0 : x.length = 0
   ·simp only [h0]; rfl
   ·simp only [zD (show ¬ (x.length : Int) = 0 by omega), zD h0]
    cases x.all (fun p => hasL lots p.1) <;> rfl
 ·intro _
  simp only [decNn, zF]
 ·have key : ∀ (l : List HeapK) (i : Nat), scan (fun (x : HeapK) (_ : Nat) => (heapE lots x).map fun _ => X) l i = (scan (fun x (_ : Nat) => heapE lots x) l i).map fun _ => X := by
   intro l
   induction l with
   | nil => intro i; rfl
   | cons x l ih =>
    intro i
    simp only [scan]
    cases heapE lots x with
    | none => exact ih _
    | some e => rfl
  rw [key]
  cases hs : scan (fun x (_ : Nat) => heapE lots x) h 0 with
  | some e => rfl
  | none =>
   simp only [Option.map_none]
   refine hZ ?_
   have all : ∀ (l : List HeapK) (i : Nat), scan (fun x (_ : Nat) => heapE lots x) l i = none → ∀ x ∈ l, heapB x = true := by
    intro l
    induction l with
    | nil => intro i _ x hx; cases hx
    | cons y l ih =>
     intro i hn x hx
     simp only [scan] at hn
     cases hy : heapE lots y with
     | some e => rw [hy] at hn; cases hn
     | none =>
      rw [hy] at hn
      rcases List.mem_cons.1 hx with rfl | hx
      ·unfold heapE at hy
       cases hb : heapB x with
       | true => rfl
       | false => rw [hb] at hy; cases hy
      ·exact ih _ hn x hx
   exact all h 0 hs
end Go.K
namespace Go.K
open Go.Sl Go.Sx Go.Proofs
theorem heapE_62 (lots : List LotK) : ∀ (l : List HeapK) (i : Nat) (e : Int), scan (fun x (_ : Nat) => heapE lots x) l i = some e → e = 62 := by
 intro l
 induction l with
 | nil => intro i e h; cases h
 | cons x l ih =>
  intro i e h
  simp only [scan] at h
  cases hg : heapE lots x with
  | none => rw [hg] at h; exact ih _ _ h
  | some u =>
   rw [hg] at h
   cases h
   unfold heapE at hg
   revert hg
   cases (!heapB x || decide (x.length = 0) || !(x.all fun p => hasL lots p.1)) <;> intro hg
   ·cases hg
   ·cases hg; rfl
theorem tail24 (x : HoldK) (h4 : x.length ≤ 4) (i : Nat) (hi : i < 9) (h : ∀ y ∈ x, heapB y = true) :
  (((G41 LF x)).bind fun r31 => cond (decide (r31 > (100000000 : Int))) (some (.inr (62 : Int))) (some (.inl (w64 ((i : Int) + (1 : Int)))))) = some (if totalK x > 100000000 then (.inr 62 : Int ⊕ Int) else .inl ((i + 1 : Nat) : Int)) := by
 rw [G41_total x (by show _ < 9223372036854775808; omega) (fun y hy => by have := heapB_len (h y hy); show _ < 9223372036854775808; omega)]
 simp only [zB, upW (show i + 1 < 9223372036854775808 by omega)]
 by_cases c : totalK x > 100000000
 ·simp only [c, decide_true, zT, if_true]
 ·simp only [c, decide_false, zF, if_false]
theorem G24_chk (s : StockK) : G24 LF s = some (chkE s) := by
 unfold G24 chkE
 simp only [G52_lots, zB]
 by_cases h0 : lotsE s.1 = 0
 ·obtain ⟨hl, hr, _⟩ := lots_ris h0
  simp only [h0, decide_true, Bool.not_true, zF, ne_eq, not_true_eq_false, if_false]
  refine (iter_scan (fun h (_ : Nat) => holdE s.1 h) (holds s) (some 0) ?_ ?_ (by show 9 < 9223372036854775808; omega)).trans ?_
  ·intro i x hx _
   have hi : i < 9 := gt_of hx
   simp only [zE (show (i : Int) < 9 by omega), zT]
   rw [pick9 hx]
   simp only [jin]
   unfold holdE
   by_cases h4 : 4 < x.length
   ·simp only [h4, if_true, zE (show (x.length : Int) > 4 by omega), zT]
   ·simp only [h4, if_false, zD (show ¬ (x.length : Int) > 4 by omega), zF]
    rw [hold24 s.1 hl hr x (by omega) (.inr 62) (if totalK x > 100000000 then (.inr 62 : Int ⊕ Int) else .inl ((i + 1 : Nat) : Int)) _ (fun h => tail24 x (by omega) i hi h)]
    cases hs : scan (fun x (_ : Nat) => heapE s.1 x) x 0 with
    | some e => have := heapE_62 s.1 x 0 e hs; subst this; rfl
    | none =>
     simp only
     by_cases c : totalK x > 100000000
     ·simp only [c, if_true]
     ·simp only [c, if_false]
  ·intro _
   have e9 : ((holds s).length : Int) = 9 := rfl
   simp only [e9]
   rfl
  ·cases scan (fun h (_ : Nat) => holdE s.1 h) (holds s) 0 <;> rfl
 ·simp only [h0, decide_false, Bool.not_false, zT, ne_eq, not_false_eq_true, if_true]
end Go.K
namespace Go.K
open Go.Sl Go.Sx Go.Proofs
theorem parts29 {ρ : Type} (lots : List LotK) (hl : lots.length ≤ 40) (hs : HoldK) (k : Nat) (h : HeapK) (hk : hs[k]? = some h) (hh : h.length < LF) (X Y : ρ) :
  iter LF (fun y32 : Int => ((getI hs (k : Int))).bind fun r33 => cond (decide (y32 < (r33.length : Int))) (((getI hs (k : Int))).bind fun r34 => ((getI r34 y32)).bind fun r35 => ((G57 LF (lots, r35.1))).bind fun r36 => cond (decide (r36 < (0 : Int))) (some (.inr X)) (some (.inl (w64 (y32 + (1 : Int)))))) (some (.inr Y))) (0 : Int) = some (bif h.all (fun p => hasL lots p.1) then Y else X) := by
 simp only [getI_nat hk, zB]
 refine (iter_scan (fun (p : Int × Int) (_ : Nat) => bif hasL lots p.1 then none else some X) h (some Y) ?_ ?_ hh).trans ?_
 ·intro i x hx _
  have hi := gt_of hx
  obtain ⟨r, e, e2⟩ := G57_has (id := x.1) hl
  simp only [decNN hi, zT, getI_nat hx, zB, e, e2, upW (show i + 1 < 9223372036854775808 from Nat.lt_of_le_of_lt hi hh)]
  cases hasL lots x.1 <;> rfl
 ·intro _
  simp only [decNn, zF]; rfl
 ·rw [scan_allB]
  cases h.all (fun p => hasL lots p.1) <;> rfl
theorem hold29 {ρ : Type} (lots : List LotK) (hl : lots.length ≤ 40) (h : HoldK) (h4 : h.length ≤ 4) (X Y : ρ) (Z : Option ρ) (hZ : (∀ x ∈ h, heapB x = true) → Z = some Y) :
  iter LF (fun y27 : Int => cond (decide (y27 < (h.length : Int))) (jn (((getI h y27)).bind fun r28 => ((G56 LF r28)).bind fun r29 => cond (!r29) (some (.inl true)) (((getI h y27)).bind fun r30 => some (.inl (decide ((r30.length : Int) = (0 : Int)))))) (fun y31 : Bool => cond y31 (some (.inr X)) (iter LF (fun y32 : Int => ((getI h y27)).bind fun r33 => cond (decide (y32 < (r33.length : Int))) (((getI h y27)).bind fun r34 => ((getI r34 y32)).bind fun r35 => ((G57 LF (lots, r35.1))).bind fun r36 => cond (decide (r36 < (0 : Int))) (some (.inr (.inr X))) (some (.inl (w64 (y32 + (1 : Int)))))) (some (.inr (.inl (w64 (y27 + (1 : Int))))))) (0 : Int)))) (outR Z)) (0 : Int)
   = some (match scan (fun x (_ : Nat) => heapE lots x) h 0 with | some _ => X | none => Y) := by
 refine (iter_scan (fun (x : HeapK) (_ : Nat) => (heapE lots x).map fun _ => X) h Z ?_ ?_ (by show _ < 9223372036854775808; omega)).trans ?_
 ·intro i x hx _
  have hi := gt_of hx
  simp only [decNN hi, zT, same_heap]
  by_cases hb : heapB x = true
  ·have hxl := heapB_len hb
   have hp := parts29 (ρ := Int ⊕ ρ) lots hl h i x hx (by show _ < 9223372036854775808; omega) (.inr X) (.inl (w64 ((i : Int) + 1)))
   simp only [hp]
   simp only [getI_nat hx, zB, G37_heap, hb, Bool.not_true, zF, jin, upW (show i + 1 < 9223372036854775808 by omega)]
   unfold heapE
   simp only [hb, Bool.not_true, Bool.false_or]
   by_cases h0 : x.length = 0
   ·simp only [h0]; rfl
   ·simp only [zD (show ¬ (x.length : Int) = 0 by omega), zD h0]
    cases x.all (fun p => hasL lots p.1) <;> rfl
  ·have hb' : heapB x = false := by simpa using hb
   simp only [getI_nat hx, zB, G37_heap, hb', Bool.not_false, zT, jin]
   unfold heapE
   simp only [hb']; rfl
 ·intro _
  simp only [decNn, zF]
 ·have key : ∀ (l : List HeapK) (i : Nat), scan (fun (x : HeapK) (_ : Nat) => (heapE lots x).map fun _ => X) l i = (scan (fun x (_ : Nat) => heapE lots x) l i).map fun _ => X := by
   intro l
   induction l with
   | nil => intro i; rfl
   | cons x l ih =>
    intro i
    simp only [scan]
    cases heapE lots x with
    | none => exact ih _
    | some e => rfl
  rw [key]
  cases hs : scan (fun x (_ : Nat) => heapE lots x) h 0 with
  | some e => rfl
  | none =>
   simp only [Option.map_none]
   refine hZ ?_
   have all : ∀ (l : List HeapK) (i : Nat), scan (fun x (_ : Nat) => heapE lots x) l i = none → ∀ x ∈ l, heapB x = true := by
    intro l
    induction l with
    | nil => intro i _ x hx; cases hx
    | cons y l ih =>
     intro i hn x hx
     simp only [scan] at hn
     cases hy : heapE lots y with
     | some e => rw [hy] at hn; cases hn
     | none =>
      rw [hy] at hn
      rcases List.mem_cons.1 hx with rfl | hx
      ·unfold heapE at hy
       cases hb : heapB x with
       | true => rfl
       | false => rw [hb] at hy; cases hy
      ·exact ih _ hn x hx
   exact all h 0 hs
theorem G29_chk (s : StockK) : G29 LF s = some (chkE s) := by
 unfold G29 chkE
 simp only [G55_lots, zB]
 by_cases h0 : lotsE s.1 = 0
 ·obtain ⟨hl, hr, _⟩ := lots_ris h0
  simp only [h0, decide_true, Bool.not_true, zF, ne_eq, not_true_eq_false, if_false]
  refine (iter_scan (fun h (_ : Nat) => holdE s.1 h) (holds s) (some 0) ?_ ?_ (by show 9 < 9223372036854775808; omega)).trans ?_
  ·intro i x hx _
   have hi : i < 9 := gt_of hx
   simp only [zE (show (i : Int) < 9 by omega), zT, same_total]
   rw [pick9 hx]
   simp only [jin]
   unfold holdE
   by_cases h4 : 4 < x.length
   ·simp only [h4, if_true, zE (show (x.length : Int) > 4 by omega), zT]
   ·simp only [h4, if_false, zD (show ¬ (x.length : Int) > 4 by omega), zF]
    rw [hold29 s.1 hl x (by omega) (.inr 62) (if totalK x > 100000000 then (.inr 62 : Int ⊕ Int) else .inl ((i + 1 : Nat) : Int)) _ (fun h => tail24 x (by omega) i hi h)]
    cases hs : scan (fun x (_ : Nat) => heapE s.1 x) x 0 with
    | some e => have := heapE_62 s.1 x 0 e hs; subst this; rfl
    | none =>
     simp only
     by_cases c : totalK x > 100000000
     ·simp only [c, if_true]
     ·simp only [c, if_false]
  ·intro _
   have e9 : ((holds s).length : Int) = 9 := rfl
   simp only [e9]
   rfl
  ·cases scan (fun h (_ : Nat) => holdE s.1 h) (holds s) 0 <;> rfl
 ·simp only [h0, decide_false, Bool.not_false, zT, ne_eq, not_false_eq_true, if_true]
end Go.K
namespace Go.K
open Go.Sl Go.Sx Go.Proofs
def okW (w : ByteArray) : Bool := okD 9 w.data.toList
def valW (w : ByteArray) : Int := valD w.data.toList
def numS {ρ : Type} (bad : ρ) (w : ByteArray) (_ : Nat) (a : List Int) : List Int ⊕ ρ := bif okW w then .inl (a ++ [valW w]) else .inr bad
theorem numS_fold {ρ : Type} (bad : ρ) : ∀ (l : List ByteArray) (i : Nat) (a : List Int), foldS (numS bad) l i a = bif l.all okW then .inl (a ++ l.map valW) else .inr bad
 | [], i, a => by simp [foldS]
 | w :: l, i, a => by
  simp only [foldS, numS, List.all_cons]
  cases h : okW w with
  | true =>
   simp only [zT, Bool.true_and]
   rw [numS_fold bad l (i + 1)]
   simp
  | false => rfl
end Go.K
namespace Go.K
open Go.Sl Go.Sx Go.Proofs
theorem ofL_data2 (l : List UInt8) : (ofL l).data.toList = l := ofL_data l
def linesB (s : ByteArray) : List ByteArray := (lns s.data.toList).map ofL
theorem sp_mem : ∀ (l x : List UInt8), x ∈ sp l → x.length ≤ l.length
 | [], x, h => by
  rcases List.mem_singleton.1 h with rfl
  exact Nat.le_refl _
 | b :: r, x, h => by
  have ih := sp_mem r
  unfold sp at h
  split at h
  ·rcases List.mem_cons.1 h with rfl | h
   ·exact Nat.zero_le _
   ·have := ih x h
    rw [zC]; omega
  ·split at h
   ·rename_i y ys hy
    rcases List.mem_cons.1 h with rfl | h
    ·have := ih y (by rw [hy]; exact List.mem_cons_self ..)
     simp only [zC]; omega
    ·have := ih x (by rw [hy]; exact List.mem_cons_of_mem _ h)
     rw [zC]; omega
   ·rcases List.mem_singleton.1 h with rfl
    simp only [zC, zL]; omega
end Go.K
namespace Go.K
open Go.Sl Go.Sx Go.Proofs
theorem wd_cut (u r : List UInt8) (hu : u ≠ []) (h : ∀ b ∈ u, b ≠ 32) (hr : r = [] ∨ ∃ r', r = 32 :: r') : wd [] (u ++ r) = u :: wd [] r := by
 rcases hr with rfl | ⟨r', rfl⟩
 ·rw [List.append_nil, wd_one u hu h]; rfl
 ·rw [wd_sp u r' hu h]; simp [wd]
def wordsB (s : ByteArray) : List ByteArray := (wd [] s.data.toList).map ofL
end Go.K
namespace Go.K
open Go.Sl Go.Sx Go.Proofs
theorem trimC_dig2 {d : List UInt8} (h : d.length ≤ 9223372036854775807) : ∃ r, trimC (ofL d) (bts [48, 49, 50, 51, 52, 53, 54, 55, 56, 57]) = some r ∧ (r.data.toList == ([] : List UInt8)) = d.all isD := by
 obtain ⟨r, h1, h2⟩ := trimC_dig h
 exact ⟨r, h1, by rw [← h2, ByteArray.toList_eq]⟩
def badW (r12 : ByteArray) : Option (Bool ⊕ (List Int × Int) ⊕ (List Int ⊕ Int)) := cond (decide ((r12.size : Int) > (9 : Int))) (some (.inl true)) (((byteAt r12 (0 : Int))).bind fun r13 => cond (decide (r13 = (48 : Int))) (cond (!(r12.data.toList == [(UInt8.ofNat 48)])) (some (.inl true)) (((trimC r12 (bts [48, 49, 50, 51, 52, 53, 54, 55, 56, 57]))).bind fun r14 => some (.inl (!(r14.data.toList == ([] : List UInt8)))))) (((trimC r12 (bts [48, 49, 50, 51, 52, 53, 54, 55, 56, 57]))).bind fun r15 => some (.inl (!(r15.data.toList == ([] : List UInt8))))))
theorem badW_ok (c : UInt8) (r : List UInt8) (hl : (c :: r).length ≤ 1000000) : badW (ofL (c :: r)) = some (.inl (!okD 9 (c :: r))) := by
 unfold badW
 simp only [ofL_size]
 by_cases h9 : (c :: r).length > 9
 ·have o : okD 9 (c :: r) = false := by unfold okD; rw [zD (by omega)]; rfl
  simp only [zE (show (((c :: r).length : Nat) : Int) > 9 by omega), zT, o, Bool.not_false]
 ·obtain ⟨t, t1, t2⟩ := trimC_dig2 (d := c :: r) (by omega)
  simp only [zD (show ¬ (((c :: r).length : Nat) : Int) > 9 by omega), zF, byteAt_0, zB, b48, t1, t2]
  by_cases hc : c = 48
  ·subst hc
   cases r with
   | nil =>
    have e : ((ofL [48]).data.toList == [UInt8.ofNat 48]) = true := by rw [ofL_data2]; rfl
    simp only [decide_true, zT, e, Bool.not_true, zF]
    rfl
   | cons x r =>
    have e : ((ofL (48 :: x :: r)).data.toList == [UInt8.ofNat 48]) = false := by rw [ofL_data2]; rfl
    have o : okD 9 (48 :: x :: r) = false := by unfold okD; rw [zD (fun k => k.2.2 ⟨by simp, rfl⟩)]; rfl
    simp only [decide_true, zT, e, Bool.not_false, o]
  ·have o : okD 9 (c :: r) = (c :: r).all isD := by
    unfold okD
    rw [zE ⟨by simp, by omega, fun k => hc (by simpa using k.2)⟩, Bool.true_and]
   simp only [hc, decide_false, zF, o]
theorem okD_up {d : List UInt8} (h : okD 9 d = true) : okD 13 d = true := by
 unfold okD at h ⊢
 simp only [za, decide_eq_true_eq] at h ⊢
 exact ⟨⟨h.1.1, by omega, h.1.2.2⟩, h.2⟩
theorem G22_nums (ws : List ByteArray) (n : Int) (hl : ws.length ≤ 1000000) (hw : ∀ w ∈ ws, w.size ≠ 0 ∧ w.size ≤ 1000000) : G22 LF (ws, n) = some (bif ws.all okW then .inl (ws.map valW) else .inr n) := by
 unfold G22
 refine (iter_go (fun i (a : List Int) => (a, i)) (numS (.inr n : List Int ⊕ Int)) (fun i a => a.length = i) ws (fun a => some (.inl a)) [] ?_ ?_ ?_ (by show _ < 9223372036854775808; omega) rfl).trans ?_
 ·intro i w a hx ha
  have hi := gt_of hx
  obtain ⟨hz, hsz⟩ := hw w (List.mem_of_getElem? hx)
  have hwl : w.data.toList ≠ [] := by
   intro e
   rw [size_len, e] at hz
   exact hz rfl
  obtain ⟨c, r, hcr⟩ := List.exists_cons_of_ne_nil hwl
  have hwe : w = ofL (c :: r) := ofL_eq hcr
  have hb := badW_ok c r (by rw [← hcr, ← size_len]; exact hsz)
  have hok : okW w = okD 9 (c :: r) := by unfold okW; rw [hcr]
  have hval : valW w = valD (c :: r) := by unfold valW; rw [hcr]
  unfold badW at hb
  rw [← hwe, ← hok] at hb
  simp only [decNN hi, zT, getI_nat hx, zB, hb, jin]
  unfold numS
  cases h : okW w with
  | true =>
   have ha2 : atoiC w = some (valW w) := by rw [hwe, atoiC_pos (okD_up (by rw [← hok]; exact h)), hval.symm, hwe]
   simp only [Bool.not_true, zF, zT, ha2, zB, appC_of (show a.length + [valW w].length ≤ 1099511627776 by simp; omega), upW (show i + 1 < 9223372036854775808 by omega)]
  | false => rfl
 ·intro i w a a' hx ha hs
  unfold numS at hs
  revert hs
  cases okW w <;> intro hs
  ·cases hs
  ·cases hs; simp [ha]
 ·intro a _
  simp only [decNn]; rfl
 ·rw [numS_fold]
  cases ws.all okW <;> simp
end Go.K
namespace Go.K
open Go.Sl Go.Sx Go.Proofs
theorem cond_if {α : Type} (b : Prop) [Decidable b] (x y : α) : cond (decide b) x y = if b then x else y := by by_cases h : b <;> simp [h]
theorem G33_pos (lf : Nat) : ∀ (k u : Nat), u < 10 ^ (k + 1) → u < 10000000000000000 → G33 lf (k + 1) (u : Int) = some ⟨(Lib.decDigits u).toArray⟩
 | k, u, h1, h2 => by
  rw [G33.eq_2]
  simp only [cond_if]
  by_cases h : u < 10
  ·have c3 : (u : Int) < 10 := by omega
   simp only [c3, if_true]
   rw [dig_one h, dec_small h]
  ·have c3 : ¬ (u : Int) < 10 := by omega
   simp only [c3, if_false]
   cases k with
   | zero => omega
   | succ k =>
    have e1 : w64 (Int.tdiv (u : Int) 10) = ((u / 10 : Nat) : Int) := by
     rw [show Int.tdiv (u : Int) 10 = ((u / 10 : Nat) : Int) from rfl, w64_id (by omega) (by omega)]
    have e2 : Int.tmod (u : Int) 10 = ((u % 10 : Nat) : Int) := rfl
    have hp : 10 ^ (k + 1 + 1) = 10 ^ (k + 1) * 10 := Nat.pow_succ ..
    rw [e1, e2, G33_pos lf k (u / 10) (by omega) (by omega), dig_one (Nat.mod_lt _ (by decide)), dec_big h]
    have := (dec_len (u / 10)).2
    simp only [zB, cat_of _ _ (show (Lib.decDigits (u / 10)).length + [UInt8.ofNat (48 + u % 10)].length ≤ 9223372036854775807 by simp; omega), app_L]
theorem G33_it (lf m : Nat) (hm : 16 ≤ m) {n : Int} (h : 0 ≤ n ∧ n ≤ 1000000000000) : G33 lf m n = some (It n) := by
 obtain ⟨k, rfl⟩ : ∃ k, m = k + 2 := ⟨m - 2, by omega⟩
 have hp : 10 ^ 13 ≤ 10 ^ (k + 2) := Nat.pow_le_pow_right (by decide) (by omega)
 have e10 : 10 ^ 13 = 10000000000000 := by decide
 obtain ⟨u, rfl⟩ : ∃ u : Nat, n = (u : Int) := ⟨n.toNat, by omega⟩
 rw [G33_pos lf (k + 1) u (show u < 10 ^ (k + 1 + 1) from Nat.lt_of_lt_of_le (show u < 10 ^ 13 by omega) hp) (by omega)]
 unfold It Lib.itoa
 rw [if_neg (by omega), Int.toNat_natCast]
theorem itoaC_it {n : Int} (h : 0 ≤ n ∧ n ≤ 1000000000000) : itoaC n = some (It n) := by
 unfold itoaC It; rw [if_pos (by omega)]
end Go.K
namespace Go.K
open Go.Sl Go.Sx Go.Proofs
theorem scan_no {σ ρ : Type} : ∀ (l : List σ) (i : Nat), scan (fun (_ : σ) (_ : Nat) => (none : Option ρ)) l i = none
 | [], _ => rfl
 | _ :: l, i => scan_no l (i + 1)
theorem G30_refl (h : HeapK) (hl : h.length < LF) : G30 LF (h, h) = some true := by
 unfold G30
 simp only [decide_true, Bool.not_true, zF]
 refine (iter_scan (fun (_ : Int × Int) (_ : Nat) => (none : Option Bool)) h (some true) ?_ ?_ hl).trans ?_
 ·intro i x hx _
  have hi := gt_of hx
  have : h.length < 9223372036854775808 := hl
  simp only [decNN hi, zT, getI_nat hx, zB, decide_true, Bool.and_true, Bool.not_true, zF, upW (show i + 1 < 9223372036854775808 by omega)]
 ·intro _
  simp only [decNn, zF]; rfl
 ·rw [scan_no]
abbrev XS := PUnit ⊕ (Int ⊕ Bool)
noncomputable def rndS (h : HoldK) (y : Int) : Option (Int ⊕ XS) :=
 jn (cond (decide (y < (h.length : Int))) (some (.inl ())) (some (.inr (.inr (.inl ()))))) (fun _ : PUnit => jn (((getI h y)).bind fun r => ((getI h y)).bind fun r' => ((G30 LF (r, r'))).bind fun r'' => some (.inl r'')) (fun y376 : Bool => cond (!y376) (some (.inr (.inr (.inr false)))) (some (.inl (w64 (y + (1 : Int)))))))
noncomputable def holdS (h : HoldK) (i : Int) : Option (Int ⊕ Bool) :=
 jn (jn (some (.inl (!(decide ((h.length : Int) = (h.length : Int)))))) (fun y202 : Bool => cond y202 (some (.inr (.inr false))) (iter LF (rndS h) (0 : Int)))) (fun _ : PUnit => some (.inl (w64 (i + (1 : Int)))))
theorem holdS_ok (h : HoldK) (hl : h.length < LF) (hh : ∀ x ∈ h, x.length < LF) (i : Int) : holdS h i = some (.inl (w64 (i + 1))) := by
 unfold holdS
 have key : iter LF (rndS h) (0 : Int) = some (.inl ()) := by
  refine (iter_scan (fun (_ : HeapK) (_ : Nat) => (none : Option XS)) h (some (.inl ())) ?_ ?_ hl).trans ?_
  ·intro i x hx _
   have hi := gt_of hx
   have : h.length < 9223372036854775808 := hl
   unfold rndS
   simp only [decNN hi, zT, jin, getI_nat hx, zB, G30_refl x (hh x (List.mem_of_getElem? hx)), Bool.not_true, zF, upW (show i + 1 < 9223372036854775808 by omega)]
  ·intro _
   unfold rndS
   simp only [decNn, zF]; rfl
  ·rw [scan_no]
 simp only [decide_true, Bool.not_true, jin, zF, key]
theorem G8_refl (s : StockK) (hl : s.1.length < LF) (hh : ∀ h ∈ holds s, h.length < LF ∧ ∀ x ∈ h, x.length < LF) : G8 LF (s, s) = some true := by
 unfold G8
 dsimp only
 rw [show decide ((s.1.length : Int) = (s.1.length : Int)) = true from zE rfl, Bool.not_true, zF]
 refine (iter_scan (fun (_ : LotK) (_ : Nat) => (none : Option Bool)) s.1 (some true) ?_ ?_ hl).trans ?_
 ·intro i x hx _
  have hi := gt_of hx
  have : s.1.length < 9223372036854775808 := hl
  simp only [decNN hi, zT, getI_nat hx, zB, decide_true, Bool.and_true, Bool.not_true, zF, upW (show i + 1 < 9223372036854775808 by omega)]
 ·intro _
  rw [decNn, zF]
  congr 1
  refine (iter_scan (fun (_ : HoldK) (_ : Nat) => (none : Option Bool)) (holds s) (some true) ?_ ?_ (by show 9 < 9223372036854775808; omega)).trans ?_
  ·intro i x hx _
   have hm := hh x (List.mem_of_getElem? hx)
   have hi : i < 9 := gt_of hx
   refine Eq.trans ?_ ((holdS_ok x hm.1 hm.2 (i : Int)).trans (by rw [upW (show i + 1 < 9223372036854775808 by omega)]))
   match i, hi, hx with
   | 0, _, hx => cases hx; rfl
   | 1, _, hx => cases hx; rfl
   | 2, _, hx => cases hx; rfl
   | 3, _, hx => cases hx; rfl
   | 4, _, hx => cases hx; rfl
   | 5, _, hx => cases hx; rfl
   | 6, _, hx => cases hx; rfl
   | 7, _, hx => cases hx; rfl
   | 8, _, hx => cases hx; rfl
   | n + 9, h, _ => omega
  ·intro _
   have e9 : ((holds s).length : Int) = 9 := rfl
   simp only [e9]
   rfl
  ·rw [scan_no]
 ·rw [scan_no]
end Go.K
namespace Go.K
open Go.Sl Go.Sx Go.Proofs
theorem scan_none {σ ρ : Type} (g : σ → Nat → Option ρ) : ∀ (l : List σ) (i : Nat), scan g l i = none → ∀ x ∈ l, ∃ j, g x j = none
 | [], _, _, x, hx => by cases hx
 | y :: l, i, h, x, hx => by
  simp only [scan] at h
  cases hy : g y i with
  | some e => rw [hy] at h; cases h
  | none =>
   rw [hy] at h
   rcases List.mem_cons.1 hx with rfl | hx
   ·exact ⟨i, hy⟩
   ·exact scan_none g l (i + 1) h x hx
theorem scan_some {σ ρ : Type} (g : σ → Nat → Option ρ) (Q : ρ → Prop) (hg : ∀ x j e, g x j = some e → Q e) : ∀ (l : List σ) (i : Nat) (e : ρ), scan g l i = some e → Q e
 | [], _, _, h => by cases h
 | y :: l, i, e, h => by
  simp only [scan] at h
  cases hy : g y i with
  | some e' => rw [hy] at h; cases h; exact hg _ _ _ hy
  | none => rw [hy] at h; exact scan_some g Q hg l (i + 1) e h
theorem partS_all (h : HeapK) : ∀ (l : HeapK) (i : Nat) (a : Int), foldS (partS h) l i a ≠ .inr false → ∀ p ∈ l, inB p.1 1 9999 = true ∧ inB p.2 1 100000000 = true
 | [], _, _, _, p, hp => by cases hp
 | q :: l, i, a, hn, p, hp => by
  simp only [foldS] at hn
  cases hc : partS h q i a with
  | inr b =>
   rw [hc] at hn
   exfalso
   unfold partS at hc
   cases hb : (!inB q.1 1 9999 || (!inB q.2 1 100000000 || (decide (0 < i) && decide ((h.getD (i - 1) partD).1 ≥ q.1)))) with
   | true => rw [hb] at hc; cases hc; exact hn rfl
   | false => rw [hb] at hc; cases hc
  | inl a' =>
   rw [hc] at hn
   rcases List.mem_cons.1 hp with rfl | hp
   ·unfold partS at hc
    cases h1 : inB p.1 1 9999 with
    | false => rw [h1] at hc; cases hc
    | true =>
     cases h2 : inB p.2 1 100000000 with
     | false => rw [h1, h2] at hc; cases hc
     | true => exact ⟨rfl, rfl⟩
   ·exact partS_all h l (i + 1) a' hn p hp
theorem heapB_all {h : HeapK} (hb : heapB h = true) : ∀ p ∈ h, inB p.1 1 9999 = true ∧ inB p.2 1 100000000 = true := by
 refine partS_all h h 0 0 fun hc => ?_
 unfold heapB at hb
 split at hb
 ·cases hb
 ·rw [hc] at hb; cases hb
theorem inB_iff {n lo hi : Int} : inB n lo hi = true ↔ lo ≤ n ∧ n ≤ hi := by unfold inB; simp
structure StokOk (s : StockK) : Prop where
 l40 : s.1.length ≤ 40
 lots : ∀ x ∈ s.1, (1 ≤ x.1 ∧ x.1 ≤ 9999) ∧ (1 ≤ x.2.1 ∧ x.2.1 ≤ 9) ∧ (1 ≤ x.2.2.1 ∧ x.2.2.1 ≤ 9) ∧ (0 ≤ x.2.2.2 ∧ x.2.2.2 ≤ 10000)
 h4 : ∀ h ∈ holds s, h.length ≤ 4
 parts : ∀ h ∈ holds s, ∀ x ∈ h, (1 ≤ x.length ∧ x.length ≤ 40) ∧ ∀ p ∈ x, (1 ≤ p.1 ∧ p.1 ≤ 9999) ∧ (1 ≤ p.2 ∧ p.2 ≤ 100000000)
theorem holdE_62 {lots : List LotK} {h : HoldK} {e : Int} (he : holdE lots h = some e) : e = 62 := by
 unfold holdE at he
 split at he
 ·cases he; rfl
 ·split at he
  ·rename_i e' hs; cases he; exact heapE_62 lots h 0 _ hs
  ·split at he
   ·cases he; rfl
   ·cases he
theorem chk_zero {s : StockK} : chkE s = 0 ∨ chkE s = 62 := by
 unfold chkE
 split
 ·exact .inr rfl
 ·cases hs : scan (fun h (_ : Nat) => holdE s.1 h) (holds s) 0 with
  | none => exact .inl rfl
  | some e => exact .inr (scan_some _ (fun e => e = 62) (fun x _ e h => holdE_62 h) _ _ _ hs)
theorem chk_ok {s : StockK} (h : chkE s = 0) : StokOk s := by
 unfold chkE at h
 by_cases h0 : lotsE s.1 = 0
 ·rw [if_neg (by simp [h0])] at h
  obtain ⟨h40, _, hl⟩ := lots_ris h0
  have hs : scan (fun h (_ : Nat) => holdE s.1 h) (holds s) 0 = none := by
   cases hs : scan (fun h (_ : Nat) => holdE s.1 h) (holds s) 0 with
   | none => rfl
   | some e =>
    have := scan_some _ (fun e => e = 62) (fun x _ e h => holdE_62 h) _ _ _ hs
    rw [hs, this] at h; cases h
  have key : ∀ x ∈ holds s, x.length ≤ 4 ∧ ∀ y ∈ x, heapE s.1 y = none := by
   intro x hx
   obtain ⟨_, hj⟩ := scan_none _ _ _ hs x hx
   unfold holdE at hj
   split at hj
   ·cases hj
   ·refine ⟨by omega, fun y hy => ?_⟩
    split at hj
    ·cases hj
    ·rename_i hsn
     obtain ⟨_, h2⟩ := scan_none _ _ _ hsn y hy
     exact h2
  refine ⟨h40, fun x hx => ?_, fun x hx => (key x hx).1, fun x hx y hy => ?_⟩
  ·have := hl x hx
   unfold lotB at this
   simp only [za, inB_iff] at this
   exact ⟨this.1.1.1, this.1.1.2, this.1.2, this.2⟩
  ·have hn := (key x hx).2 y hy
   unfold heapE at hn
   cases hb : heapB y with
   | false => rw [hb] at hn; cases hn
   | true =>
    rw [hb] at hn
    have h40 := heapB_len hb
    refine ⟨⟨?_, h40⟩, fun p hp => ?_⟩
    ·by_cases hz : y.length = 0
     ·rw [zE hz] at hn; cases hn
     ·omega
    ·have := heapB_all hb p hp
     simpa only [inB_iff] using this
 ·rw [if_pos (by simpa using h0)] at h; cases h
end Go.K
namespace Go.K
open Go.Sl Go.Sx Go.Proofs
def bI (l : List UInt8) : List Int := l.map fun b => ((b.toNat : Nat) : Int)
theorem bI_len (l : List UInt8) : (bI l).length = l.length := by simp [bI]
theorem strI_bI (l : List UInt8) : strI (bI l) = ofL l := ofL_eq (by
 rw [strI_data]; unfold bI; rw [List.map_map]
 conv => rhs; rw [← List.map_id l]
 apply List.map_congr_left
 intro b _
 simp)
def wI (n : Int) : List UInt8 := 32 :: Lib.itoa n
theorem bytes_wI (n : Int) : bytesI (bts [32] ++ It n) = bI (wI n) := by
 unfold bytesI bI wI
 rw [app_data]
 rfl
theorem it_len13 {n : Int} (h : 0 ≤ n ∧ n ≤ 1000000000000) : (Lib.itoa n).length ≤ 13 := by
 rw [itoa_pos (by omega)]
 exact dec_len10 12 n.toNat (by omega)
theorem wI_len {n : Int} (h : 0 ≤ n ∧ n ≤ 1000000000000) : (wI n).length ≤ 14 := by
 have := it_len13 h
 unfold wI; simp only [zC]; omega
theorem flat_len {α : Type} (f : α → List UInt8) (k : Nat) : ∀ l : List α, (∀ x ∈ l, (f x).length ≤ k) → (l.flatMap f).length ≤ k * l.length
 | [], _ => by simp
 | x :: l, h => by
  have h1 := h x (List.mem_cons_self ..)
  have h2 := flat_len f k l fun y hy => h y (List.mem_cons_of_mem _ hy)
  simp only [List.flatMap_cons, List.length_append, zC, Nat.mul_succ]
  omega
theorem foldl_flat {α β : Type} (f : α → List β) : ∀ (l : List α) (a : List β), l.foldl (fun a x => a ++ f x) a = a ++ l.flatMap f
 | [], a => by simp
 | x :: l, a => by rw [List.foldl_cons, foldl_flat f l, List.flatMap_cons, List.append_assoc]
theorem appB {a b : List UInt8} (h : a.length + b.length ≤ 1099511627776) : appC (bI a) (bI b) = some (bI (a ++ b)) := by
 rw [appC_of (by rw [bI_len, bI_len]; exact h)]
 unfold bI; rw [List.map_append]
theorem nums_loop {ρ : Type} (l : List Int) (hl : l.length ≤ 1000) (hn : ∀ n ∈ l, 0 ≤ n ∧ n ≤ 1000000000000) (fin : List Int → Option ρ) (a : List UInt8) (ha : a.length ≤ 1000000) :
  iter LF (fun y : (Int × (List Int)) => cond (decide (y.1 < (l.length : Int))) (((getI l y.1)).bind fun r101 => ((getI l y.1)).bind fun r102 => ((itoaC r102)).bind fun r103 => ((catC (bts [32]) r103)).bind fun r104 => ((appC y.2 (bytesI ((bts [32]) ++ r103)))).bind fun r105 => some (.inl ((w64 (y.1 + (1 : Int))), r105))) (outR (fin y.2))) ((0 : Int), bI a) = fin (bI (a ++ l.flatMap wI)) := by
 refine (iter_foldI (fun (i : Int) b => (i, bI b)) (fun x _ b => b ++ wI x) (fun i b => b.length ≤ 1000000 + 14 * i) l (fun b => fin (bI b)) a ?_ ?_ ?_ (by show _ < 9223372036854775808; omega) (by omega)).trans ?_
 ·intro i x b hx hb
  have hi := gt_of hx
  have hx' := hn x (List.mem_of_getElem? hx)
  have hw := wI_len hx'
  have h13 := it_len13 hx'
  have e : (It x).size ≤ 13 := by unfold It; rw [size_len]; simpa using h13
  simp only [decNN hi, zT, getI_nat hx, zB, itoaC_it hx', catC_of (show (bts [32]).size + (It x).size ≤ 9223372036854775807 by rw [bts_size]; simp only [zC, zL]; omega), bytes_wI, appB (show b.length + (wI x).length ≤ 1099511627776 by omega), upW (show i + 1 < 9223372036854775808 by omega)]
 ·intro i x b hx hb
  have hw := wI_len (hn x (List.mem_of_getElem? hx))
  simp only [List.length_append]; omega
 ·intro b _
  simp only [decNn, zF]
 ·rw [foldI_const, foldl_flat]
def lineL (w : List UInt8) (l : List Int) : List UInt8 := w ++ (l.flatMap wI ++ [10])
def lotW (x : LotK) : List Int := [x.1, x.2.1, x.2.2.1, x.2.2.2]
def lotL (x : LotK) : List UInt8 := lineL [108, 111, 116] (lotW x)
def heapW (i : Int) (h : HeapK) : List Int := i :: h.flatMap fun p => [p.1, p.2]
def heapL (i : Int) (h : HeapK) : List UInt8 := lineL [104, 101, 97, 112] (heapW i h)
def holdL (i : Nat) (h : HoldK) : List UInt8 := h.flatMap (heapL (i : Int))
def printL (s : StockK) : List UInt8 := s.1.flatMap lotL ++ ((holds s).zipIdx.flatMap fun p => holdL p.2 p.1)
theorem lineL_len (w : List UInt8) (l : List Int) (h : ∀ n ∈ l, 0 ≤ n ∧ n ≤ 1000000000000) : (lineL w l).length ≤ w.length + 14 * l.length + 1 := by
 have := flat_len wI 14 l fun x hx => wI_len (h x hx)
 unfold lineL; simp only [List.length_append, zC, zL]; omega
theorem lotW_in {s : StockK} (k : StokOk s) {x : LotK} (hx : x ∈ s.1) : ∀ n ∈ lotW x, 0 ≤ n ∧ n ≤ 1000000000000 := by
 have := k.lots x hx
 intro n hn
 simp only [lotW, List.mem_cons, List.not_mem_nil, or_false] at hn
 rcases hn with rfl | rfl | rfl | rfl <;> omega
theorem heapW_in {s : StockK} (k : StokOk s) {h : HoldK} (hh : h ∈ holds s) {x : HeapK} (hx : x ∈ h) {i : Int} (hi : 0 ≤ i ∧ i < 9) : ∀ n ∈ heapW i x, 0 ≤ n ∧ n ≤ 1000000000000 := by
 have := (k.parts h hh x hx).2
 intro n hn
 simp only [heapW, List.mem_cons, List.mem_flatMap, List.not_mem_nil, or_false] at hn
 rcases hn with rfl | ⟨p, hp, hn⟩
 ·omega
 ·have := this p hp
  rcases hn with rfl | rfl <;> omega
theorem heapW_len (i : Int) (x : HeapK) : (heapW i x).length = 1 + 2 * x.length := by
 unfold heapW
 have : ∀ l : HeapK, (l.flatMap fun p => [p.1, p.2]).length = 2 * l.length := by
  intro l
  induction l with
  | nil => rfl
  | cons p l ih => simp only [List.flatMap_cons, List.length_append, zC, zL, ih]; omega
 simp only [zC, this]; omega
theorem parts_loop {ρ : Type} (x : HeapK) (hx : x.length ≤ 40) (i : Int) (fin : List Int → Option ρ) :
  iter LF (fun y111 : ((List Int) × Int) => cond (decide (y111.2 < (x.length : Int))) (((getI x y111.2)).bind fun r112 => ((appC y111.1 [r112.1, r112.2])).bind fun r113 => some (.inl (r113, (w64 (y111.2 + (1 : Int)))))) (outR (fin y111.1))) ([i], (0 : Int)) = fin (heapW i x) := by
 refine (iter_foldI (fun (i : Int) (b : List Int) => (b, i)) (fun (p : Int × Int) _ b => b ++ [p.1, p.2]) (fun i b => b.length ≤ 1 + 2 * i) x (fun b => fin b) [i] ?_ ?_ ?_ (by show _ < 9223372036854775808; omega) (by simp)).trans ?_
 ·intro j p b hp hb
  have hj := gt_of hp
  simp only [decNN hj, zT, getI_nat hp, zB, appC_of (show b.length + [p.1, p.2].length ≤ 1099511627776 by simp only [zC, zL]; omega), upW (show j + 1 < 9223372036854775808 by omega)]
 ·intro j p b hp hb
  simp only [List.length_append, zC, zL]; omega
 ·intro b _
  simp only [decNn, zF]
 ·rw [foldI_const (fun (p : Int × Int) b => b ++ [p.1, p.2]), foldl_flat]
  rfl
theorem pickP {ρ : Type} {a1 a2 a3 a4 a5 a6 a7 a8 a9 : HoldK} {i : Nat} {x : HoldK} (h : [a1, a2, a3, a4, a5, a6, a7, a8, a9][i]? = some x) :
  (cond (decide ((i : Int) = (0 : Int))) (some (.inl ((i : Int), a1))) (cond (decide ((i : Int) = (1 : Int))) (some (.inl ((i : Int), a2))) (cond (decide ((i : Int) = (2 : Int))) (some (.inl ((i : Int), a3))) (cond (decide ((i : Int) = (3 : Int))) (some (.inl ((i : Int), a4))) (cond (decide ((i : Int) = (4 : Int))) (some (.inl ((i : Int), a5))) (cond (decide ((i : Int) = (5 : Int))) (some (.inl ((i : Int), a6))) (cond (decide ((i : Int) = (6 : Int))) (some (.inl ((i : Int), a7))) (cond (decide ((i : Int) = (7 : Int))) (some (.inl ((i : Int), a8))) (cond (decide ((i : Int) = (8 : Int))) (some (.inl ((i : Int), a9))) outI)))))))) : Option ((Int × HoldK) ⊕ ρ)) = some (.inl ((i : Int), x)) := by
 match i, h with
 | 0, h => cases h; rfl
 | 1, h => cases h; rfl
 | 2, h => cases h; rfl
 | 3, h => cases h; rfl
 | 4, h => cases h; rfl
 | 5, h => cases h; rfl
 | 6, h => cases h; rfl
 | 7, h => cases h; rfl
 | 8, h => cases h; rfl
 | n + 9, h => simp at h
theorem heaps_loop {s : StockK} (k : StokOk s) {h : HoldK} (hh : h ∈ holds s) {ρ : Type} (i : Nat) (hi : i < 9) (fin : List Int → Option ρ) (a : List UInt8) (ha : a.length ≤ 50000) :
  iter LF (fun y109 : (Int × (List Int)) => cond (decide (y109.1 < (h.length : Int))) (((getI h y109.1)).bind fun r110 => iter LF (fun y111 : ((List Int) × Int) => cond (decide (y111.2 < (r110.length : Int))) (((getI r110 y111.2)).bind fun r112 => ((appC y111.1 [r112.1, r112.2])).bind fun r113 => some (.inl (r113, (w64 (y111.2 + (1 : Int)))))) (outR (((appC y109.2 [(104 : Int), (101 : Int), (97 : Int), (112 : Int)])).bind fun r114 => iter LF (fun y115 : (Int × (List Int)) => cond (decide (y115.1 < (y111.1.length : Int))) (((getI y111.1 y115.1)).bind fun r116 => ((getI y111.1 y115.1)).bind fun r117 => ((itoaC r117)).bind fun r118 => ((catC (bts [32]) r118)).bind fun r119 => ((appC y115.2 (bytesI ((bts [32]) ++ r118)))).bind fun r120 => some (.inl ((w64 (y115.1 + (1 : Int))), r120))) (outR (((appC y115.2 [(10 : Int)])).bind fun r121 => some (.inl ((w64 (y109.1 + (1 : Int))), r121))))) ((0 : Int), r114)))) ([(i : Int)], (0 : Int))) (outR (fin y109.2))) ((0 : Int), bI a) = fin (bI (a ++ holdL i h)) := by
 have h4 := k.h4 h hh
 refine (iter_foldI (fun (j : Int) b => (j, bI b)) (fun x _ b => b ++ heapL (i : Int) x) (fun j b => b.length ≤ 50000 + 2000 * j) h (fun b => fin (bI b)) a ?_ ?_ ?_ (by show _ < 9223372036854775808; omega) (by omega)).trans ?_
 ·intro j x b hx hb
  have hj := gt_of hx
  have hxm := List.mem_of_getElem? hx
  have hp := (k.parts h hh x hxm).1
  have hw := heapW_in k hh hxm (i := (i : Int)) (by omega)
  have hl := heapW_len (i : Int) x
  have hfl := flat_len wI 14 (heapW (i : Int) x) fun y hy => wI_len (hw y hy)
  simp only [decNN hj, zT, getI_nat hx, zB]
  refine (parts_loop (ρ := (Int × List Int) ⊕ ρ) x (by omega) (i : Int) (fun z => ((appC (bI b) [(104 : Int), (101 : Int), (97 : Int), (112 : Int)])).bind fun r114 => iter LF (fun y115 : (Int × (List Int)) => cond (decide (y115.1 < (z.length : Int))) (((getI z y115.1)).bind fun r116 => ((getI z y115.1)).bind fun r117 => ((itoaC r117)).bind fun r118 => ((catC (bts [32]) r118)).bind fun r119 => ((appC y115.2 (bytesI ((bts [32]) ++ r118)))).bind fun r120 => some (.inl ((w64 (y115.1 + (1 : Int))), r120))) (outR (((appC y115.2 [(10 : Int)])).bind fun r121 => some (.inl ((w64 ((j : Int) + (1 : Int))), r121))))) ((0 : Int), r114))).trans ?_
  rw [show [(104 : Int), (101 : Int), (97 : Int), (112 : Int)] = bI [104, 101, 97, 112] from rfl, appB (by simp only [zC, zL]; omega)]
  simp only [zB]
  refine (nums_loop (ρ := (Int × List Int) ⊕ ρ) (heapW (i : Int) x) (by omega) hw (fun z => ((appC z [(10 : Int)])).bind fun r121 => some (.inl ((w64 ((j : Int) + (1 : Int))), r121))) _ (by simp only [List.length_append, zC, zL]; omega)).trans ?_
  rw [show [(10 : Int)] = bI [10] from rfl, appB (by simp only [List.length_append, zC, zL]; omega)]
  simp only [zB, upW (show j + 1 < 9223372036854775808 by omega)]
  unfold heapL lineL
  simp only [List.append_assoc]
 ·intro j x b hx hb
  have hxm := List.mem_of_getElem? hx
  have hp := (k.parts h hh x hxm).1
  have hl := heapW_len (i : Int) x
  have := lineL_len [104, 101, 97, 112] (heapW (i : Int) x) (heapW_in k hh hxm (i := (i : Int)) (by omega))
  simp only [List.length_append, heapL]
  simp only [zC, zL] at this
  omega
 ·intro b _
  simp only [decNn, zF]
 ·rw [foldI_const (fun x b => b ++ heapL (i : Int) x), foldl_flat]
  rfl
theorem holdL_len {s : StockK} (k : StokOk s) {h : HoldK} (hh : h ∈ holds s) {i : Nat} (hi : i < 9) : (holdL i h).length ≤ 5000 := by
 have := flat_len (heapL (i : Int)) 1200 h fun x hx => by
  have hp := (k.parts h hh x hx).1
  have hl := heapW_len (i : Int) x
  have := lineL_len [104, 101, 97, 112] (heapW (i : Int) x) (heapW_in k hh hx (i := (i : Int)) (by omega))
  unfold heapL
  simp only [zC, zL] at this
  omega
 have h4 := k.h4 h hh
 unfold holdL
 omega
theorem foldI_idx {α β : Type} (f : Nat → α → List β) : ∀ (l : List α) (i : Nat) (a : List β), foldI (fun x i b => b ++ f i x) l i a = a ++ (l.zipIdx i).flatMap fun p => f p.2 p.1
 | [], i, a => by simp [foldI]
 | x :: l, i, a => by
  simp only [foldI]
  rw [foldI_idx f l (i + 1), List.zipIdx_cons, List.flatMap_cons, List.append_assoc]
noncomputable def finP (z : List Int) : Option (ByteArray × Int) := cond (emp0 z) (((lenC (z.length : Int) ([] : List Int))).bind fun r123 => some ((bts []), (0 : Int))) (((getI z (0 : Int))).bind fun r124 => ((getI z (0 : Int))).bind fun r125 => ((lenC (z.length : Int) z)).bind fun r126 => some ((strI z), (0 : Int)))
theorem finP_ok (l : List UInt8) : finP (bI l) = some (ofL l, 0) := by
 cases l with
 | nil => rfl
 | cons c r =>
  unfold finP
  rw [show emp0 (bI (c :: r)) = false from rfl, show getI (bI (c :: r)) 0 = some ((c.toNat : Nat) : Int) from rfl, lenC_of, strI_bI]
  rfl
noncomputable def holdsF (s : StockK) (y107 : Int × List Int) : Option ((Int × List Int) ⊕ (ByteArray × Int)) := cond (decide (y107.1 < (9 : Int))) (jn (cond (decide (y107.1 = (0 : Int))) (some (.inl (y107.1, s.2.1))) (cond (decide (y107.1 = (1 : Int))) (some (.inl (y107.1, s.2.2.1))) (cond (decide (y107.1 = (2 : Int))) (some (.inl (y107.1, s.2.2.2.1))) (cond (decide (y107.1 = (3 : Int))) (some (.inl (y107.1, s.2.2.2.2.1))) (cond (decide (y107.1 = (4 : Int))) (some (.inl (y107.1, s.2.2.2.2.2.1))) (cond (decide (y107.1 = (5 : Int))) (some (.inl (y107.1, s.2.2.2.2.2.2.1))) (cond (decide (y107.1 = (6 : Int))) (some (.inl (y107.1, s.2.2.2.2.2.2.2.1))) (cond (decide (y107.1 = (7 : Int))) (some (.inl (y107.1, s.2.2.2.2.2.2.2.2.1))) (cond (decide (y107.1 = (8 : Int))) (some (.inl (y107.1, s.2.2.2.2.2.2.2.2.2))) ((outI))))))))))) (fun y108 : (Int × Yr) => iter LF (fun y109 : (Int × (List Int)) => cond (decide (y109.1 < (y108.2.length : Int))) (((getI y108.2 y109.1)).bind fun r110 => iter LF (fun y111 : ((List Int) × Int) => cond (decide (y111.2 < (r110.length : Int))) (((getI r110 y111.2)).bind fun r112 => ((appC y111.1 [r112.1, r112.2])).bind fun r113 => some (.inl (r113, (w64 (y111.2 + (1 : Int)))))) (outR (((appC y109.2 [(104 : Int), (101 : Int), (97 : Int), (112 : Int)])).bind fun r114 => iter LF (fun y115 : (Int × (List Int)) => cond (decide (y115.1 < (y111.1.length : Int))) (((getI y111.1 y115.1)).bind fun r116 => ((getI y111.1 y115.1)).bind fun r117 => ((itoaC r117)).bind fun r118 => ((catC (bts [32]) r118)).bind fun r119 => ((appC y115.2 (bytesI ((bts [32]) ++ r118)))).bind fun r120 => some (.inl ((w64 (y115.1 + (1 : Int))), r120))) (outR (((appC y115.2 [(10 : Int)])).bind fun r121 => some (.inl ((w64 (y109.1 + (1 : Int))), r121))))) ((0 : Int), r114)))) ([y108.1], (0 : Int))) (some (.inr (.inl ((w64 (y107.1 + (1 : Int))), y109.2))))) ((0 : Int), y107.2))) (outR (finP y107.2))
def tailL (s : StockK) : List UInt8 := (holds s).zipIdx.flatMap fun p => holdL p.2 p.1
theorem holds_loop {s : StockK} (k : StokOk s) (a : List UInt8) (ha : a.length ≤ 2400) : iter LF (holdsF s) ((0 : Int), bI a) = some (ofL (a ++ tailL s), 0) := by
 refine (iter_foldI (fun (i : Int) b => (i, bI b)) (fun x i b => b ++ holdL i x) (fun i b => b.length ≤ 2400 + 5000 * i) (holds s) (fun b => finP (bI b)) a ?_ ?_ ?_ (by show 9 < 9223372036854775808; omega) (by omega)).trans ?_
 ·intro i x b hx hb
  have hi : i < 9 := gt_of hx
  have hxm := List.mem_of_getElem? hx
  unfold holdsF
  simp only [zE (show (i : Int) < 9 by omega), zT]
  rw [pickP hx]
  show jn (some (.inl ((i : Int), x))) _ = _
  rw [jin]
  refine (heaps_loop (ρ := (Int × List Int) ⊕ (ByteArray × Int)) k hxm i hi (fun z => some (.inl (w64 ((i : Int) + 1), z))) b (by omega)).trans ?_
  rw [upW (show i + 1 < 9223372036854775808 by omega)]
 ·intro i x b hx hb
  have hi : i < 9 := gt_of hx
  have := holdL_len k (List.mem_of_getElem? hx) hi
  simp only [List.length_append]; omega
 ·intro b _
  have e9 : ((holds s).length : Int) = 9 := rfl
  unfold holdsF
  simp only [e9, Int.lt_irrefl, decide_false, zF]
 ·rw [foldI_idx (fun i x => holdL i x), finP_ok]
  unfold tailL; rfl
theorem G9_print (s : StockK) : G9 LF s = some (if chkE s = 0 then (ofL (printL s), 0) else (bts [], chkE s)) := by
 unfold G9
 rw [show ((s.1, (s.2.1, (s.2.2.1, (s.2.2.2.1, (s.2.2.2.2.1, (s.2.2.2.2.2.1, (s.2.2.2.2.2.2.1, (s.2.2.2.2.2.2.2.1, (s.2.2.2.2.2.2.2.2.1, s.2.2.2.2.2.2.2.2.2))))))))) : StockK) = s from rfl, G24_chk]
 rw [zB]
 by_cases h0 : chkE s = 0
 ·have k := chk_ok h0
  have hl40 := k.l40
  rw [if_pos h0, h0, show decide ((0 : Int) = 0) = true from rfl, Bool.not_true, zF]
  refine (iter_foldI (fun (i : Int) b => (i, bI b)) (fun x _ b => b ++ lotL x) (fun i b => b.length ≤ 60 * i) s.1 (fun b => iter LF (holdsF s) ((0 : Int), bI b)) [] ?_ ?_ ?_ (by show _ < 9223372036854775808; omega) (by simp)).trans ?_
  ·intro i x b hx hb
   have hi := gt_of hx
   have hxm := List.mem_of_getElem? hx
   have hfl := flat_len wI 14 (lotW x) fun y hy => wI_len (lotW_in k hxm y hy)
   have e4 : (lotW x).length = 4 := rfl
   simp only [decNN hi, zT, getI_nat hx, zB]
   rw [show [(108 : Int), (111 : Int), (116 : Int)] = bI [108, 111, 116] from rfl, appB (by simp only [zC, zL]; omega)]
   simp only [zB]
   refine (nums_loop (ρ := (Int × List Int) ⊕ (ByteArray × Int)) [x.1, x.2.1, x.2.2.1, x.2.2.2] (by simp) (lotW_in k hxm) (fun z => ((appC z [(10 : Int)])).bind fun r106 => some (.inl ((w64 ((i : Int) + (1 : Int))), r106))) _ (by simp only [List.length_append, zC, zL]; omega)).trans ?_
   have hfl' : ([x.1, x.2.1, x.2.2.1, x.2.2.2].flatMap wI).length ≤ 14 * 4 := hfl
   rw [show [(10 : Int)] = bI [10] from rfl, appB (by simp only [List.length_append, zC, zL]; omega)]
   simp only [zB, upW (show i + 1 < 9223372036854775808 by omega)]
   unfold lotL lineL lotW
   simp only [List.append_assoc]
  ·intro i x b hx hb
   have hxm := List.mem_of_getElem? hx
   have := lineL_len [108, 111, 116] (lotW x) (lotW_in k hxm)
   have e4 : (lotW x).length = 4 := rfl
   simp only [List.length_append, lotL]
   simp only [zC, zL] at this
   omega
  ·intro b _
   simp only [decNn, zF]
   congr 1
  ·rw [foldI_const (fun x b => b ++ lotL x), foldl_flat, List.nil_append]
   have h1 := flat_len lotL 60 s.1 fun x hx => by
    have := lineL_len [108, 111, 116] (lotW x) (lotW_in k hx)
    have e4 : (lotW x).length = 4 := rfl
    unfold lotL
    simp only [zC, zL] at this
    omega
   exact holds_loop k _ (by omega)
 ·rw [if_neg h0, zD h0, Bool.not_false, zT]
end Go.K
namespace Go.K
open Go.Sl Go.Sx Go.Proofs
abbrev PRk := StockK × (Int × Int)
abbrev XP := (Int × StockK) ⊕ PRk
def zeroS : StockK := ([], ([], ([], ([], ([], ([], ([], ([], ([], [])))))))))
def addHeap (s : StockK) (h : HeapK) : Nat → StockK
 | 0 => (s.1, (s.2.1 ++ [h], (s.2.2.1, (s.2.2.2.1, (s.2.2.2.2.1, (s.2.2.2.2.2.1, (s.2.2.2.2.2.2.1, (s.2.2.2.2.2.2.2.1, (s.2.2.2.2.2.2.2.2.1, s.2.2.2.2.2.2.2.2.2)))))))))
 | 1 => (s.1, (s.2.1, (s.2.2.1 ++ [h], (s.2.2.2.1, (s.2.2.2.2.1, (s.2.2.2.2.2.1, (s.2.2.2.2.2.2.1, (s.2.2.2.2.2.2.2.1, (s.2.2.2.2.2.2.2.2.1, s.2.2.2.2.2.2.2.2.2)))))))))
 | 2 => (s.1, (s.2.1, (s.2.2.1, (s.2.2.2.1 ++ [h], (s.2.2.2.2.1, (s.2.2.2.2.2.1, (s.2.2.2.2.2.2.1, (s.2.2.2.2.2.2.2.1, (s.2.2.2.2.2.2.2.2.1, s.2.2.2.2.2.2.2.2.2)))))))))
 | 3 => (s.1, (s.2.1, (s.2.2.1, (s.2.2.2.1, (s.2.2.2.2.1 ++ [h], (s.2.2.2.2.2.1, (s.2.2.2.2.2.2.1, (s.2.2.2.2.2.2.2.1, (s.2.2.2.2.2.2.2.2.1, s.2.2.2.2.2.2.2.2.2)))))))))
 | 4 => (s.1, (s.2.1, (s.2.2.1, (s.2.2.2.1, (s.2.2.2.2.1, (s.2.2.2.2.2.1 ++ [h], (s.2.2.2.2.2.2.1, (s.2.2.2.2.2.2.2.1, (s.2.2.2.2.2.2.2.2.1, s.2.2.2.2.2.2.2.2.2)))))))))
 | 5 => (s.1, (s.2.1, (s.2.2.1, (s.2.2.2.1, (s.2.2.2.2.1, (s.2.2.2.2.2.1, (s.2.2.2.2.2.2.1 ++ [h], (s.2.2.2.2.2.2.2.1, (s.2.2.2.2.2.2.2.2.1, s.2.2.2.2.2.2.2.2.2)))))))))
 | 6 => (s.1, (s.2.1, (s.2.2.1, (s.2.2.2.1, (s.2.2.2.2.1, (s.2.2.2.2.2.1, (s.2.2.2.2.2.2.1, (s.2.2.2.2.2.2.2.1 ++ [h], (s.2.2.2.2.2.2.2.2.1, s.2.2.2.2.2.2.2.2.2)))))))))
 | 7 => (s.1, (s.2.1, (s.2.2.1, (s.2.2.2.1, (s.2.2.2.2.1, (s.2.2.2.2.2.1, (s.2.2.2.2.2.2.1, (s.2.2.2.2.2.2.2.1, (s.2.2.2.2.2.2.2.2.1 ++ [h], s.2.2.2.2.2.2.2.2.2)))))))))
 | 8 => (s.1, (s.2.1, (s.2.2.1, (s.2.2.2.1, (s.2.2.2.2.1, (s.2.2.2.2.2.1, (s.2.2.2.2.2.2.1, (s.2.2.2.2.2.2.2.1, (s.2.2.2.2.2.2.2.2.1, s.2.2.2.2.2.2.2.2.2 ++ [h])))))))))
 | _ => s
def pairsL : List Int → HeapK
 | a :: b :: r => (a, b) :: pairsL r
 | _ => []
theorem pairs_loop {ρ : Type} (n : List Int) (hl : n.length ≤ 1000000) (fin : HeapK → Option ρ) : ∀ (k i : Nat) (r : List Int) (acc : HeapK) (f : Nat), r.length = 2 * k → n.drop i = r → i + r.length = n.length → acc.length ≤ i → r.length < f →
  iter f (fun y163 : (Int × (List (Int × Int))) => cond (decide (y163.1 < (n.length : Int))) (((getI n y163.1)).bind fun r164 => ((getI n (w64 (y163.1 + (1 : Int))))).bind fun r165 => ((appC y163.2 [(r164, r165)])).bind fun r166 => some (.inl ((w64 (y163.1 + (2 : Int))), r166))) (outR (fin y163.2))) ((i : Int), acc) = fin (acc ++ pairsL r)
 | 0, i, r, acc, f, hk, hd, hi, ha, hf => by
  obtain ⟨f, rfl⟩ : ∃ m, f = m + 1 := ⟨f - 1, by omega⟩
  have hr : r = [] := List.eq_nil_of_length_eq_zero (by omega)
  subst hr
  have hi' : i = n.length := by simpa using hi
  subst hi'
  simp only [iter, decNn, zF, pairsL, List.append_nil]
  cases fin acc <;> rfl
 | k + 1, i, r, acc, f, hk, hd, hi, ha, hf => by
  obtain ⟨f, rfl⟩ : ∃ m, f = m + 1 := ⟨f - 1, by omega⟩
  match r, hk with
  | a :: b :: r, hk =>
   simp only [zC] at hk hi hf
   have h0 : n[i]? = some a := by
    have := congrArg (fun l => l[0]?) hd
    simpa using this
   have h1 : n[i + 1]? = some b := by
    have := congrArg (fun l => l[1]?) hd
    simpa using this
   have hd2 : n.drop (i + 2) = r := by
    have := congrArg (fun l => l.drop 2) hd
    simpa [List.drop_drop] using this
   have e2 : w64 ((i : Int) + 2) = ((i + 2 : Nat) : Int) := by rw [w64_id (by omega) (by omega)]; omega
   have ih := pairs_loop n hl fin k (i + 2) r (acc ++ [(a, b)]) f (by omega) hd2 (by omega) (by simp only [List.length_append, zC, zL]; omega) (by omega)
   simp only [iter, decNN (show i < n.length by omega), zT, getI_nat h0, getI_nat h1, zB, upW (show i + 1 < 9223372036854775808 by omega), appC_of (show acc.length + [(a, b)].length ≤ 1099511627776 by simp only [zC, zL]; omega), e2]
   rw [ih, pairsL, List.append_assoc]
   rfl
def isHoldB (n : Int) : Bool := inB n 0 8
theorem G23_hold (lf : Nat) (n : Int) : G23 lf n = some (isHoldB n) := by unfold G23 isHoldB; rw [G48_in]; rfl
def caseS (s : StockK) (w : ByteArray) (n : List Int) : Option StockK :=
 if w.data.toList = [108, 111, 116] ∧ n.length = 4 then some (s.1 ++ [(n.getD 0 0, (n.getD 1 0, (n.getD 2 0, n.getD 3 0)))], s.2)
 else if w.data.toList = [104, 101, 97, 112] ∧ (3 ≤ n.length ∧ n.length % 2 = 1 ∧ isHoldB (n.getD 0 0) = true) then some (addHeap s (pairsL n.tail) (n.getD 0 0).toNat) else none
structure Sml (s : StockK) (i : Nat) : Prop where
 l : s.1.length ≤ i
 h : ∀ x ∈ holds s, x.length ≤ i
theorem mem_mod {α : Type} (f : α → α) : ∀ (l : List α) (k : Nat) (x : α), x ∈ l.modify k f → ∃ y ∈ l, x = y ∨ x = f y
 | [], k, x, hx => by simp at hx
 | a :: l, 0, x, hx => by
  rw [List.modify_zero_cons] at hx
  rcases List.mem_cons.1 hx with rfl | hx
  ·exact ⟨a, List.mem_cons_self .., .inr rfl⟩
  ·exact ⟨x, List.mem_cons_of_mem _ hx, .inl rfl⟩
 | a :: l, k + 1, x, hx => by
  rw [List.modify_succ_cons] at hx
  rcases List.mem_cons.1 hx with rfl | hx
  ·exact ⟨x, List.mem_cons_self .., .inl rfl⟩
  ·obtain ⟨y, hy, h⟩ := mem_mod f l k x hx
   exact ⟨y, List.mem_cons_of_mem _ hy, h⟩
theorem holds_mod (s : StockK) (h : HeapK) (k : Nat) (hk : k < 9) : holds (addHeap s h k) = (holds s).modify k (· ++ [h]) := by
 match k, hk with
 | 0, _ | 1, _ | 2, _ | 3, _ | 4, _ | 5, _ | 6, _ | 7, _ | 8, _ => rfl
 | n + 9, h => omega
theorem holds_add (s : StockK) (h : HeapK) (k : Nat) : ∀ x ∈ holds (addHeap s h k), ∃ y ∈ holds s, x = y ∨ x = y ++ [h] := by
 intro x hx
 by_cases hk : k < 9
 ·rw [holds_mod s h k hk] at hx
  exact mem_mod _ _ _ _ hx
 ·obtain ⟨n, rfl⟩ : ∃ n, k = n + 9 := ⟨k - 9, by omega⟩
  exact ⟨x, hx, .inl rfl⟩
theorem addHeap_1 (s : StockK) (h : HeapK) (k : Nat) : (addHeap s h k).1 = s.1 := by
 match k with
 | 0 | 1 | 2 | 3 | 4 | 5 | 6 | 7 | 8 => rfl
 | n + 9 => rfl
theorem Sml.add {s : StockK} {i : Nat} (m : Sml s i) (h : HeapK) (k : Nat) : Sml (addHeap s h k) (i + 1) :=
 ⟨by rw [addHeap_1]; have := m.l; omega, fun x hx => by
  obtain ⟨y, hy, e⟩ := holds_add s h k x hx
  have := m.h y hy
  rcases e with rfl | rfl
  ·omega
  ·simp only [List.length_append, zC, zL]; omega⟩
theorem Sml.up {s : StockK} {i : Nat} (m : Sml s i) : Sml s (i + 1) := ⟨Nat.le_succ_of_le m.l, fun x hx => Nat.le_succ_of_le (m.h x hx)⟩
theorem caseS_sml {s s' : StockK} {i : Nat} {w : ByteArray} {n : List Int} (m : Sml s i) (h : caseS s w n = some s') : Sml s' (i + 1) := by
 unfold caseS at h
 split at h
 ·cases h
  exact ⟨by have := m.l; simp only [List.length_append, zC, zL]; omega, fun x hx => Nat.le_succ_of_le (m.h x hx)⟩
 ·split at h
  ·cases h; exact m.add _ _
  ·cases h
end Go.K
namespace Go.K
open Go.Sl Go.Sx Go.Proofs
noncomputable def app6 (s : StockK) (n : List Int) (h : HeapK) : Option (StockK ⊕ XP) :=
 (((getI n (0 : Int))).bind fun r167 => ((getI n (0 : Int))).bind fun r168 => cond (decide (r168 = (0 : Int))) (((appC s.2.1 [h])).bind fun r169 => cond (decide (r167 = (0 : Int))) (some (.inl (s.1, (r169, (s.2.2.1, (s.2.2.2.1, (s.2.2.2.2.1, (s.2.2.2.2.2.1, (s.2.2.2.2.2.2.1, (s.2.2.2.2.2.2.2.1, (s.2.2.2.2.2.2.2.2.1, s.2.2.2.2.2.2.2.2.2))))))))))) (cond (decide (r167 = (1 : Int))) (none) (cond (decide (r167 = (2 : Int))) (none) (cond (decide (r167 = (3 : Int))) (none) (cond (decide (r167 = (4 : Int))) (none) (cond (decide (r167 = (5 : Int))) (none) (cond (decide (r167 = (6 : Int))) (none) (cond (decide (r167 = (7 : Int))) (none) (cond (decide (r167 = (8 : Int))) (none) ((outI))))))))))) (cond (decide (r168 = (1 : Int))) (((appC s.2.2.1 [h])).bind fun r172 => cond (decide (r167 = (0 : Int))) (none) (cond (decide (r167 = (1 : Int))) (some (.inl (s.1, (s.2.1, (r172, (s.2.2.2.1, (s.2.2.2.2.1, (s.2.2.2.2.2.1, (s.2.2.2.2.2.2.1, (s.2.2.2.2.2.2.2.1, (s.2.2.2.2.2.2.2.2.1, s.2.2.2.2.2.2.2.2.2))))))))))) (cond (decide (r167 = (2 : Int))) (none) (cond (decide (r167 = (3 : Int))) (none) (cond (decide (r167 = (4 : Int))) (none) (cond (decide (r167 = (5 : Int))) (none) (cond (decide (r167 = (6 : Int))) (none) (cond (decide (r167 = (7 : Int))) (none) (cond (decide (r167 = (8 : Int))) (none) ((outI))))))))))) (cond (decide (r168 = (2 : Int))) (((appC s.2.2.2.1 [h])).bind fun r175 => cond (decide (r167 = (0 : Int))) (none) (cond (decide (r167 = (1 : Int))) (none) (cond (decide (r167 = (2 : Int))) (some (.inl (s.1, (s.2.1, (s.2.2.1, (r175, (s.2.2.2.2.1, (s.2.2.2.2.2.1, (s.2.2.2.2.2.2.1, (s.2.2.2.2.2.2.2.1, (s.2.2.2.2.2.2.2.2.1, s.2.2.2.2.2.2.2.2.2))))))))))) (cond (decide (r167 = (3 : Int))) (none) (cond (decide (r167 = (4 : Int))) (none) (cond (decide (r167 = (5 : Int))) (none) (cond (decide (r167 = (6 : Int))) (none) (cond (decide (r167 = (7 : Int))) (none) (cond (decide (r167 = (8 : Int))) (none) ((outI))))))))))) (cond (decide (r168 = (3 : Int))) (((appC s.2.2.2.2.1 [h])).bind fun r178 => cond (decide (r167 = (0 : Int))) (none) (cond (decide (r167 = (1 : Int))) (none) (cond (decide (r167 = (2 : Int))) (none) (cond (decide (r167 = (3 : Int))) (some (.inl (s.1, (s.2.1, (s.2.2.1, (s.2.2.2.1, (r178, (s.2.2.2.2.2.1, (s.2.2.2.2.2.2.1, (s.2.2.2.2.2.2.2.1, (s.2.2.2.2.2.2.2.2.1, s.2.2.2.2.2.2.2.2.2))))))))))) (cond (decide (r167 = (4 : Int))) (none) (cond (decide (r167 = (5 : Int))) (none) (cond (decide (r167 = (6 : Int))) (none) (cond (decide (r167 = (7 : Int))) (none) (cond (decide (r167 = (8 : Int))) (none) ((outI))))))))))) (cond (decide (r168 = (4 : Int))) (((appC s.2.2.2.2.2.1 [h])).bind fun r181 => cond (decide (r167 = (0 : Int))) (none) (cond (decide (r167 = (1 : Int))) (none) (cond (decide (r167 = (2 : Int))) (none) (cond (decide (r167 = (3 : Int))) (none) (cond (decide (r167 = (4 : Int))) (some (.inl (s.1, (s.2.1, (s.2.2.1, (s.2.2.2.1, (s.2.2.2.2.1, (r181, (s.2.2.2.2.2.2.1, (s.2.2.2.2.2.2.2.1, (s.2.2.2.2.2.2.2.2.1, s.2.2.2.2.2.2.2.2.2))))))))))) (cond (decide (r167 = (5 : Int))) (none) (cond (decide (r167 = (6 : Int))) (none) (cond (decide (r167 = (7 : Int))) (none) (cond (decide (r167 = (8 : Int))) (none) ((outI))))))))))) (cond (decide (r168 = (5 : Int))) (((appC s.2.2.2.2.2.2.1 [h])).bind fun r184 => cond (decide (r167 = (0 : Int))) (none) (cond (decide (r167 = (1 : Int))) (none) (cond (decide (r167 = (2 : Int))) (none) (cond (decide (r167 = (3 : Int))) (none) (cond (decide (r167 = (4 : Int))) (none) (cond (decide (r167 = (5 : Int))) (some (.inl (s.1, (s.2.1, (s.2.2.1, (s.2.2.2.1, (s.2.2.2.2.1, (s.2.2.2.2.2.1, (r184, (s.2.2.2.2.2.2.2.1, (s.2.2.2.2.2.2.2.2.1, s.2.2.2.2.2.2.2.2.2))))))))))) (cond (decide (r167 = (6 : Int))) (none) (cond (decide (r167 = (7 : Int))) (none) (cond (decide (r167 = (8 : Int))) (none) ((outI))))))))))) (cond (decide (r168 = (6 : Int))) (((appC s.2.2.2.2.2.2.2.1 [h])).bind fun r187 => cond (decide (r167 = (0 : Int))) (none) (cond (decide (r167 = (1 : Int))) (none) (cond (decide (r167 = (2 : Int))) (none) (cond (decide (r167 = (3 : Int))) (none) (cond (decide (r167 = (4 : Int))) (none) (cond (decide (r167 = (5 : Int))) (none) (cond (decide (r167 = (6 : Int))) (some (.inl (s.1, (s.2.1, (s.2.2.1, (s.2.2.2.1, (s.2.2.2.2.1, (s.2.2.2.2.2.1, (s.2.2.2.2.2.2.1, (r187, (s.2.2.2.2.2.2.2.2.1, s.2.2.2.2.2.2.2.2.2))))))))))) (cond (decide (r167 = (7 : Int))) (none) (cond (decide (r167 = (8 : Int))) (none) ((outI))))))))))) (cond (decide (r168 = (7 : Int))) (((appC s.2.2.2.2.2.2.2.2.1 [h])).bind fun r190 => cond (decide (r167 = (0 : Int))) (none) (cond (decide (r167 = (1 : Int))) (none) (cond (decide (r167 = (2 : Int))) (none) (cond (decide (r167 = (3 : Int))) (none) (cond (decide (r167 = (4 : Int))) (none) (cond (decide (r167 = (5 : Int))) (none) (cond (decide (r167 = (6 : Int))) (none) (cond (decide (r167 = (7 : Int))) (some (.inl (s.1, (s.2.1, (s.2.2.1, (s.2.2.2.1, (s.2.2.2.2.1, (s.2.2.2.2.2.1, (s.2.2.2.2.2.2.1, (s.2.2.2.2.2.2.2.1, (r190, s.2.2.2.2.2.2.2.2.2))))))))))) (cond (decide (r167 = (8 : Int))) (none) ((outI))))))))))) (cond (decide (r168 = (8 : Int))) (((appC s.2.2.2.2.2.2.2.2.2 [h])).bind fun r193 => cond (decide (r167 = (0 : Int))) (none) (cond (decide (r167 = (1 : Int))) (none) (cond (decide (r167 = (2 : Int))) (none) (cond (decide (r167 = (3 : Int))) (none) (cond (decide (r167 = (4 : Int))) (none) (cond (decide (r167 = (5 : Int))) (none) (cond (decide (r167 = (6 : Int))) (none) (cond (decide (r167 = (7 : Int))) (none) (cond (decide (r167 = (8 : Int))) (some (.inl (s.1, (s.2.1, (s.2.2.1, (s.2.2.2.1, (s.2.2.2.2.1, (s.2.2.2.2.2.1, (s.2.2.2.2.2.2.1, (s.2.2.2.2.2.2.2.1, (s.2.2.2.2.2.2.2.2.1, r193))))))))))) ((outI))))))))))) ((outI)))))))))))
noncomputable def case6 (lf : Nat) (s : StockK) (i : Int) (ws : List ByteArray) (n : List Int) : Option (StockK ⊕ XP) :=
 jn (((getI ws (0 : Int))).bind fun r152 => cond (r152.data.toList == [(UInt8.ofNat 108), (UInt8.ofNat 111), (UInt8.ofNat 116)]) (some (.inl (decide ((n.length : Int) = (4 : Int))))) (some (.inl false))) (fun y153 : Bool => cond y153 (((getI n (0 : Int))).bind fun r154 => ((getI n (1 : Int))).bind fun r155 => ((getI n (2 : Int))).bind fun r156 => ((getI n (3 : Int))).bind fun r157 => ((appC s.1 [(r154, (r155, (r156, r157)))])).bind fun r158 => some (.inl (r158, (s.2.1, (s.2.2.1, (s.2.2.2.1, (s.2.2.2.2.1, (s.2.2.2.2.2.1, (s.2.2.2.2.2.2.1, (s.2.2.2.2.2.2.2.1, (s.2.2.2.2.2.2.2.2.1, s.2.2.2.2.2.2.2.2.2))))))))))) (jn (((getI ws (0 : Int))).bind fun r159 => cond (r159.data.toList == [(UInt8.ofNat 104), (UInt8.ofNat 101), (UInt8.ofNat 97), (UInt8.ofNat 112)]) (cond (decide ((n.length : Int) ≥ (3 : Int))) (cond (decide ((Int.tmod (n.length : Int) (2 : Int)) = (1 : Int))) (((getI n (0 : Int))).bind fun r160 => ((G23 lf r160)).bind fun r161 => some (.inl r161)) (some (.inl false))) (some (.inl false))) (some (.inl false))) (fun y162 : Bool => cond y162 (iter lf (fun y163 : (Int × (List (Int × Int))) => cond (decide (y163.1 < (n.length : Int))) (((getI n y163.1)).bind fun r164 => ((getI n (w64 (y163.1 + (1 : Int))))).bind fun r165 => ((appC y163.2 [(r164, r165)])).bind fun r166 => some (.inl ((w64 (y163.1 + (2 : Int))), r166))) (outR (app6 s n y163.2))) ((1 : Int), ([] : List (Int × Int)))) (some (.inr (.inr ((([] : List (Int × (Int × (Int × Int)))), (([] : List (List (Int × Int))), (([] : List (List (Int × Int))), (([] : List (List (Int × Int))), (([] : List (List (Int × Int))), (([] : List (List (Int × Int))), (([] : List (List (Int × Int))), (([] : List (List (Int × Int))), (([] : List (List (Int × Int))), ([] : List (List (Int × Int)))))))))))), ((w64 (i + (1 : Int))), (12 : Int)))))))))
theorem app6_ok {s : StockK} {n : List Int} {h : HeapK} {k : Nat} (hk : getI n 0 = some (k : Int)) (h9 : k < 9) (hs : ∀ x ∈ holds s, x.length ≤ 1000000) : app6 s n h = some (.inl (addHeap s h k)) := by
 match k, h9, hk with
 | 0, _, hk =>
  refine Eq.trans (b := ((appC s.2.1 [h])).bind fun r => some (.inl (s.1, (r, (s.2.2.1, (s.2.2.2.1, (s.2.2.2.2.1, (s.2.2.2.2.2.1, (s.2.2.2.2.2.2.1, (s.2.2.2.2.2.2.2.1, (s.2.2.2.2.2.2.2.2.1, s.2.2.2.2.2.2.2.2.2))))))))))) (by unfold app6; rw [hk]; rfl) ?_
  rw [appC_of (by have := hs s.2.1 (by unfold holds; exact List.mem_cons_self ..); simp only [zC, zL]; omega)]
  rfl
 | 1, _, hk =>
  refine Eq.trans (b := ((appC s.2.2.1 [h])).bind fun r => some (.inl (s.1, (s.2.1, (r, (s.2.2.2.1, (s.2.2.2.2.1, (s.2.2.2.2.2.1, (s.2.2.2.2.2.2.1, (s.2.2.2.2.2.2.2.1, (s.2.2.2.2.2.2.2.2.1, s.2.2.2.2.2.2.2.2.2))))))))))) (by unfold app6; rw [hk]; rfl) ?_
  rw [appC_of (by have := hs s.2.2.1 (by unfold holds; exact List.mem_cons_of_mem _ (List.mem_cons_self ..)); simp only [zC, zL]; omega)]
  rfl
 | 2, _, hk =>
  refine Eq.trans (b := ((appC s.2.2.2.1 [h])).bind fun r => some (.inl (s.1, (s.2.1, (s.2.2.1, (r, (s.2.2.2.2.1, (s.2.2.2.2.2.1, (s.2.2.2.2.2.2.1, (s.2.2.2.2.2.2.2.1, (s.2.2.2.2.2.2.2.2.1, s.2.2.2.2.2.2.2.2.2))))))))))) (by unfold app6; rw [hk]; rfl) ?_
  rw [appC_of (by have := hs s.2.2.2.1 (by unfold holds; exact List.mem_cons_of_mem _ (List.mem_cons_of_mem _ (List.mem_cons_self ..))); simp only [zC, zL]; omega)]
  rfl
 | 3, _, hk =>
  refine Eq.trans (b := ((appC s.2.2.2.2.1 [h])).bind fun r => some (.inl (s.1, (s.2.1, (s.2.2.1, (s.2.2.2.1, (r, (s.2.2.2.2.2.1, (s.2.2.2.2.2.2.1, (s.2.2.2.2.2.2.2.1, (s.2.2.2.2.2.2.2.2.1, s.2.2.2.2.2.2.2.2.2))))))))))) (by unfold app6; rw [hk]; rfl) ?_
  rw [appC_of (by have := hs s.2.2.2.2.1 (by unfold holds; exact List.mem_cons_of_mem _ (List.mem_cons_of_mem _ (List.mem_cons_of_mem _ (List.mem_cons_self ..)))); simp only [zC, zL]; omega)]
  rfl
 | 4, _, hk =>
  refine Eq.trans (b := ((appC s.2.2.2.2.2.1 [h])).bind fun r => some (.inl (s.1, (s.2.1, (s.2.2.1, (s.2.2.2.1, (s.2.2.2.2.1, (r, (s.2.2.2.2.2.2.1, (s.2.2.2.2.2.2.2.1, (s.2.2.2.2.2.2.2.2.1, s.2.2.2.2.2.2.2.2.2))))))))))) (by unfold app6; rw [hk]; rfl) ?_
  rw [appC_of (by have := hs s.2.2.2.2.2.1 (by unfold holds; exact List.mem_cons_of_mem _ (List.mem_cons_of_mem _ (List.mem_cons_of_mem _ (List.mem_cons_of_mem _ (List.mem_cons_self ..))))); simp only [zC, zL]; omega)]
  rfl
 | 5, _, hk =>
  refine Eq.trans (b := ((appC s.2.2.2.2.2.2.1 [h])).bind fun r => some (.inl (s.1, (s.2.1, (s.2.2.1, (s.2.2.2.1, (s.2.2.2.2.1, (s.2.2.2.2.2.1, (r, (s.2.2.2.2.2.2.2.1, (s.2.2.2.2.2.2.2.2.1, s.2.2.2.2.2.2.2.2.2))))))))))) (by unfold app6; rw [hk]; rfl) ?_
  rw [appC_of (by have := hs s.2.2.2.2.2.2.1 (by unfold holds; exact List.mem_cons_of_mem _ (List.mem_cons_of_mem _ (List.mem_cons_of_mem _ (List.mem_cons_of_mem _ (List.mem_cons_of_mem _ (List.mem_cons_self ..)))))); simp only [zC, zL]; omega)]
  rfl
 | 6, _, hk =>
  refine Eq.trans (b := ((appC s.2.2.2.2.2.2.2.1 [h])).bind fun r => some (.inl (s.1, (s.2.1, (s.2.2.1, (s.2.2.2.1, (s.2.2.2.2.1, (s.2.2.2.2.2.1, (s.2.2.2.2.2.2.1, (r, (s.2.2.2.2.2.2.2.2.1, s.2.2.2.2.2.2.2.2.2))))))))))) (by unfold app6; rw [hk]; rfl) ?_
  rw [appC_of (by have := hs s.2.2.2.2.2.2.2.1 (by unfold holds; exact List.mem_cons_of_mem _ (List.mem_cons_of_mem _ (List.mem_cons_of_mem _ (List.mem_cons_of_mem _ (List.mem_cons_of_mem _ (List.mem_cons_of_mem _ (List.mem_cons_self ..))))))); simp only [zC, zL]; omega)]
  rfl
 | 7, _, hk =>
  refine Eq.trans (b := ((appC s.2.2.2.2.2.2.2.2.1 [h])).bind fun r => some (.inl (s.1, (s.2.1, (s.2.2.1, (s.2.2.2.1, (s.2.2.2.2.1, (s.2.2.2.2.2.1, (s.2.2.2.2.2.2.1, (s.2.2.2.2.2.2.2.1, (r, s.2.2.2.2.2.2.2.2.2))))))))))) (by unfold app6; rw [hk]; rfl) ?_
  rw [appC_of (by have := hs s.2.2.2.2.2.2.2.2.1 (by unfold holds; exact List.mem_cons_of_mem _ (List.mem_cons_of_mem _ (List.mem_cons_of_mem _ (List.mem_cons_of_mem _ (List.mem_cons_of_mem _ (List.mem_cons_of_mem _ (List.mem_cons_of_mem _ (List.mem_cons_self ..)))))))); simp only [zC, zL]; omega)]
  rfl
 | 8, _, hk =>
  refine Eq.trans (b := ((appC s.2.2.2.2.2.2.2.2.2 [h])).bind fun r => some (.inl (s.1, (s.2.1, (s.2.2.1, (s.2.2.2.1, (s.2.2.2.2.1, (s.2.2.2.2.2.1, (s.2.2.2.2.2.2.1, (s.2.2.2.2.2.2.2.1, (s.2.2.2.2.2.2.2.2.1, r))))))))))) (by unfold app6; rw [hk]; rfl) ?_
  rw [appC_of (by have := hs s.2.2.2.2.2.2.2.2.2 (by unfold holds; exact List.mem_cons_of_mem _ (List.mem_cons_of_mem _ (List.mem_cons_of_mem _ (List.mem_cons_of_mem _ (List.mem_cons_of_mem _ (List.mem_cons_of_mem _ (List.mem_cons_of_mem _ (List.mem_cons_of_mem _ (List.mem_cons_self ..))))))))); simp only [zC, zL]; omega)]
  rfl
 | k + 9, h9, _ => omega
theorem getD_some {l : List Int} {i : Nat} (h : i < l.length) : getI l (i : Int) = some (l.getD i 0) := getD_of 0 h
theorem case6_ok {s : StockK} {i : Int} {w : ByteArray} {ws : List ByteArray} {n : List Int} (hn : n.length ≤ 100000) (m : Sml s 100000) :
  case6 LF s i (w :: ws) n = some (match caseS s w n with | some s' => .inl s' | none => .inr (.inr (zeroS, (w64 (i + 1), 12)))) := by
 have e0 : getI (w :: ws) 0 = some w := rfl
 have eL : ([(UInt8.ofNat 108), (UInt8.ofNat 111), (UInt8.ofNat 116)] : List UInt8) = [108, 111, 116] := rfl
 have eH : ([(UInt8.ofNat 104), (UInt8.ofNat 101), (UInt8.ofNat 97), (UInt8.ofNat 112)] : List UInt8) = [104, 101, 97, 112] := rfl
 unfold case6 caseS
 rw [e0, eL, eH]
 simp only [zB]
 have heap : ¬ (w.data.toList = [108, 111, 116] ∧ n.length = 4) → (jn (cond (w.data.toList == [104, 101, 97, 112]) (cond (decide ((n.length : Int) ≥ (3 : Int))) (cond (decide ((Int.tmod (n.length : Int) (2 : Int)) = (1 : Int))) (((getI n (0 : Int))).bind fun r160 => ((G23 LF r160)).bind fun r161 => some (.inl r161)) (some (.inl false))) (some (.inl false))) (some (.inl false))) (fun y162 : Bool => cond y162 (iter LF (fun y163 : (Int × (List (Int × Int))) => cond (decide (y163.1 < (n.length : Int))) (((getI n y163.1)).bind fun r164 => ((getI n (w64 (y163.1 + (1 : Int))))).bind fun r165 => ((appC y163.2 [(r164, r165)])).bind fun r166 => some (.inl ((w64 (y163.1 + (2 : Int))), r166))) (outR (app6 s n y163.2))) ((1 : Int), ([] : List (Int × Int)))) (some (.inr (.inr (zeroS, ((w64 (i + (1 : Int))), (12 : Int))))))) : Option (StockK ⊕ XP)) = some (match (if w.data.toList = [104, 101, 97, 112] ∧ (3 ≤ n.length ∧ n.length % 2 = 1 ∧ isHoldB (n.getD 0 0) = true) then some (addHeap s (pairsL n.tail) (n.getD 0 0).toNat) else none) with | some s' => .inl s' | none => .inr (.inr (zeroS, (w64 (i + 1), 12)))) := by
  intro _
  by_cases h1 : w.data.toList = [104, 101, 97, 112]
  ·rw [show (w.data.toList == [104, 101, 97, 112]) = true from by rw [h1]; rfl, zT]
   by_cases h2 : 3 ≤ n.length
   ·rw [zE (show (n.length : Int) ≥ 3 by omega), zT]
    have em : Int.tmod (n.length : Int) 2 = ((n.length % 2 : Nat) : Int) := by rw [Int.tmod_eq_emod_of_nonneg (by omega)]; omega
    rw [em]
    by_cases h3 : n.length % 2 = 1
    ·rw [zE (show ((n.length % 2 : Nat) : Int) = 1 by omega), zT, show getI n 0 = some (n.getD 0 0) from getD_some (i := 0) (by omega)]
     rw [zB, G23_hold, zB, jin]
     cases h4 : isHoldB (n.getD 0 0) with
     | true =>
      rw [zT, if_pos ⟨h1, h2, h3, rfl⟩]
      have hb := inB_iff.1 h4
      obtain ⟨k, hk⟩ : ∃ k : Nat, n.getD 0 0 = (k : Int) := ⟨(n.getD 0 0).toNat, by omega⟩
      have hl := pairs_loop n (by omega) (fun h => app6 s n h) ((n.length - 1) / 2) 1 n.tail [] LF (by rw [List.length_tail]; omega) List.drop_one (by rw [List.length_tail]; omega) (by simp) (by rw [List.length_tail]; show _ < 9223372036854775808; omega)
      refine hl.trans ?_
      rw [List.nil_append, app6_ok (k := k) (by rw [← hk]; exact getD_some (i := 0) (by omega)) (by omega) (fun x hx => by have := m.h x hx; omega), hk]
      rfl
     | false =>
      rw [zF, if_neg (fun h => by cases h.2.2.2)]
    ·rw [zD (show ¬ ((n.length % 2 : Nat) : Int) = 1 by omega), zF, jin, zF, if_neg (fun h => h3 h.2.2.1)]
   ·rw [zD (show ¬ (n.length : Int) ≥ 3 by omega), zF, jin, zF, if_neg (fun h => h2 h.2.1)]
  ·rw [show (w.data.toList == [104, 101, 97, 112]) = false from by simpa using h1, zF, jin, zF, if_neg (fun h => h1 h.1)]
 by_cases h1 : w.data.toList = [108, 111, 116]
 ·rw [show (w.data.toList == [108, 111, 116]) = true from by rw [h1]; rfl, zT, jin]
  by_cases h2 : n.length = 4
  ·rw [zE (show (n.length : Int) = 4 by omega), zT, if_pos ⟨h1, h2⟩]
   rw [show getI n 0 = some (n.getD 0 0) from getD_some (i := 0) (by omega), show getI n 1 = some (n.getD 1 0) from getD_some (i := 1) (by omega), show getI n 2 = some (n.getD 2 0) from getD_some (i := 2) (by omega), show getI n 3 = some (n.getD 3 0) from getD_some (i := 3) (by omega)]
   rw [zB, zB, zB, zB, appC_of (by have := m.l; simp only [zC, zL]; omega)]
   rfl
  ·rw [zD (show ¬ (n.length : Int) = 4 by omega), zF, if_neg (fun h => h2 h.2)]
   exact heap fun h => h2 h.2
 ·rw [show (w.data.toList == [108, 111, 116]) = false from by simpa using h1, zF, jin, zF, if_neg (fun h => h1 h.1)]
  exact heap fun h => h1 h.1
end Go.K
namespace Go.K
open Go.Sl Go.Sx Go.Proofs
noncomputable def big6 (lf : Nat) (s : StockK) (i : Int) (r143 : List ByteArray) : Option (StockK ⊕ XP) :=
 (((getI r143 i)).bind fun r145 => ((fieldsC (fun y146 : Nat => (isSp y146)) r145)).bind fun r147 => cond (decide ((r147.length : Int) = (0 : Int))) (some (.inl (s.1, (s.2.1, (s.2.2.1, (s.2.2.2.1, (s.2.2.2.2.1, (s.2.2.2.2.2.1, (s.2.2.2.2.2.2.1, (s.2.2.2.2.2.2.2.1, (s.2.2.2.2.2.2.2.2.1, s.2.2.2.2.2.2.2.2.2))))))))))) (((byteAt r145 (0 : Int))).bind fun r148 => cond (decide (r148 = (35 : Int))) (some (.inl (s.1, (s.2.1, (s.2.2.1, (s.2.2.2.1, (s.2.2.2.2.1, (s.2.2.2.2.2.1, (s.2.2.2.2.2.2.1, (s.2.2.2.2.2.2.2.1, (s.2.2.2.2.2.2.2.2.1, s.2.2.2.2.2.2.2.2.2))))))))))) (((subI r147 (1 : Int) (r147.length : Int))).bind fun r149 => ((G22 lf (r149, (w64 (i + (1 : Int)))))).bind fun r150 => sm r150 (fun r151 : (List Int) => case6 lf s i r147 r151) (fun r196 : Int => outR (outR (some ((([] : List (Int × (Int × (Int × Int)))), (([] : List (List (Int × Int))), (([] : List (List (Int × Int))), (([] : List (List (Int × Int))), (([] : List (List (Int × Int))), (([] : List (List (Int × Int))), (([] : List (List (Int × Int))), (([] : List (List (Int × Int))), (([] : List (List (Int × Int))), ([] : List (List (Int × Int)))))))))))), (r196, (12 : Int)))))))))
noncomputable def fin6 (lf : Nat) (s : StockK) : Option PRk := ((G24 lf s)).bind fun r198 => cond (!(decide (r198 = (0 : Int)))) (some (zeroS, ((0 : Int), r198))) (some (s, ((0 : Int), (0 : Int))))
theorem G6_def (lf : Nat) (x : ByteArray) : G6 lf x = cond (decide ((x.size : Int) > (40000 : Int))) (some (zeroS, ((0 : Int), (2 : Int)))) (((splitC x (bts [10]))).bind fun r143 => iter lf (fun y144 : Int × StockK => cond (decide (y144.1 < (r143.length : Int))) (jn (big6 lf y144.2 y144.1 r143) (fun y197 : StockK => some (.inl ((w64 (y144.1 + (1 : Int))), y197)))) (outR (fin6 lf y144.2))) ((0 : Int), zeroS)) := by
 unfold G6
 simp only [ag_self, ar_self]
 rfl
theorem wd_ne : ∀ (r cur : List UInt8), ∀ u ∈ wd cur r, u ≠ [] ∧ u.length ≤ cur.length + r.length
 | [], cur, u, h => by
  unfold wd at h
  split at h
  ·cases h
  ·rename_i hc
   rcases List.mem_singleton.1 h with rfl
   exact ⟨hc, by simp⟩
 | b :: r, cur, u, h => by
  unfold wd at h
  split at h
  ·split at h
   ·rename_i hc; subst hc
    have := wd_ne r [] u h
    exact ⟨this.1, by simp only [zC, zL] at this ⊢; omega⟩
   ·rename_i hc
    rcases List.mem_cons.1 h with rfl | h
    ·exact ⟨hc, by simp only [zC]; omega⟩
    ·have := wd_ne r [] u h
     exact ⟨this.1, by simp only [zC, zL] at this ⊢; omega⟩
  ·have := wd_ne r (cur ++ [b]) u h
   exact ⟨this.1, by simp only [zC, List.length_append, zL] at this ⊢; omega⟩
theorem wordsB_ne {s w : ByteArray} (h : w ∈ wordsB s) : w.size ≠ 0 ∧ w.size ≤ s.size := by
 unfold wordsB at h
 obtain ⟨u, hu, rfl⟩ := List.mem_map.1 h
 have := wd_ne _ _ u hu
 rw [ofL_size, size_len s]
 have h0 : u.length ≠ 0 := fun e => this.1 (List.eq_nil_of_length_eq_zero e)
 exact ⟨h0, by simpa using this.2⟩
theorem wordsB_len (s : ByteArray) : (wordsB s).length ≤ s.size + 1 := by
 unfold wordsB
 rw [List.length_map, size_len]
 exact wd_len _ _
def lineSt (l : ByteArray) (i : Nat) (s : StockK) : StockK ⊕ PRk := match wordsB l with
 | [] => .inl s
 | w :: ws => if l.data.toList.head? = some 35 then .inl s
  else bif ws.all okW then (match caseS s w (ws.map valW) with
   | some s' => .inl s'
   | none => .inr (zeroS, (((i + 1 : Nat) : Int), 12)))
  else .inr (zeroS, (((i + 1 : Nat) : Int), 12))
def finS (s : StockK) : PRk := if chkE s = 0 then (s, (0, 0)) else (zeroS, (0, chkE s))
def parseB (t : ByteArray) : PRk := if 40000 < t.size then (zeroS, (0, 2)) else match foldS lineSt (linesB t) 0 zeroS with
 | .inl s => finS s
 | .inr e => e
theorem lineSt_sml {l : ByteArray} {i : Nat} {s s' : StockK} (m : Sml s i) (h : lineSt l i s = .inl s') : Sml s' (i + 1) := by
 unfold lineSt at h
 split at h
 ·cases h; exact m.up
 ·split at h
  ·cases h; exact m.up
  ·rename_i w ws hw _
   cases hb : ws.all okW with
   | false => rw [hb] at h; cases h
   | true =>
    rw [hb, zT] at h
    split at h
    ·rename_i s2 hc
     cases h
     exact caseS_sml m hc
    ·cases h
theorem lineSt_of {l : ByteArray} {i : Nat} {s : StockK} {w : ByteArray} {ws : List ByteArray} (h : wordsB l = w :: ws) : lineSt l i s = if l.data.toList.head? = some 35 then .inl s
  else bif ws.all okW then (match caseS s w (ws.map valW) with
   | some s' => .inl s'
   | none => .inr (zeroS, (((i + 1 : Nat) : Int), 12)))
  else .inr (zeroS, (((i + 1 : Nat) : Int), 12)) := by unfold lineSt; rw [h]
theorem lineSt_nil {l : ByteArray} {i : Nat} {s : StockK} (h : wordsB l = []) : lineSt l i s = .inl s := by unfold lineSt; rw [h]
theorem subI_tail {α : Type} (w : α) (ws : List α) : subI (w :: ws) 1 ((w :: ws).length : Int) = some ws := by
 unfold subI
 rw [if_pos (by simp only [zC]; omega)]
 simp
theorem words_head {l : ByteArray} {w : ByteArray} {ws : List ByteArray} (h : wordsB l = w :: ws) : ∃ c r, l.data.toList = c :: r := by
 cases hl : l.data.toList with
 | nil => unfold wordsB at h; rw [hl] at h; cases h
 | cons c r => exact ⟨c, r, rfl⟩
theorem zero_sml : Sml zeroS 0 := ⟨Nat.le_refl _, fun x hx => by
 simp only [holds, zeroS, List.mem_cons, List.not_mem_nil, or_false] at hx
 rcases hx with rfl | rfl | rfl | rfl | rfl | rfl | rfl | rfl | rfl <;> exact Nat.le_refl _⟩
theorem Sml.mono {s : StockK} {i j : Nat} (m : Sml s i) (h : i ≤ j) : Sml s j := ⟨Nat.le_trans m.l h, fun x hx => Nat.le_trans (m.h x hx) h⟩
theorem big6_ok {s : StockK} {i : Nat} {L : List ByteArray} {l : ByteArray} (hx : L[i]? = some l) (hi : i ≤ 50000) (hl : l.size ≤ 40000) (m : Sml s i) :
  big6 LF s i L = some (match lineSt l i s with | .inl s' => .inl s' | .inr e => .inr (.inr e)) := by
 unfold big6
 rw [getI_nat hx, zB, show (fun y146 : Nat => isSp y146) = is32 from rfl, fieldsC_wd (by omega), zB]
 cases hw : wordsB l with
 | nil =>
  rw [lineSt_nil hw, show (wd [] l.data.toList).map ofL = [] from hw]; rfl
 | cons w ws =>
  rw [show (wd [] l.data.toList).map ofL = w :: ws from hw]
  obtain ⟨c, r, hc⟩ := words_head hw
  have hb0 : byteAt l 0 = some ((c.toNat : Nat) : Int) := byteAt_nat (i := 0) (by rw [hc]; rfl)
  rw [zD (show ¬ (((w :: ws).length : Nat) : Int) = 0 by simp only [zC]; omega), zF, hb0, zB, lineSt_of hw, hc]
  by_cases h35 : c = 35
  ·subst h35
   rw [show (35 :: r : List UInt8).head? = some 35 from rfl, if_pos rfl]
   rfl
  ·rw [zD (show ¬ ((c.toNat : Nat) : Int) = 35 from fun h => h35 (b35.1 h)), zF, if_neg (by simpa using h35)]
   have hwl := wordsB_len l
   rw [hw, zC] at hwl
   have hne : ∀ u ∈ ws, u.size ≠ 0 ∧ u.size ≤ 1000000 := fun u hu => by
    have := wordsB_ne (s := l) (w := u) (by rw [hw]; exact List.mem_cons_of_mem _ hu)
    exact ⟨this.1, by omega⟩
   have hL := subI_tail w ws
   rw [hL, zB, G22_nums ws _ (by omega) hne, zB]
   cases hok : ws.all okW with
   | false =>
    rw [zF, zF, upW (show i + 1 < 9223372036854775808 by omega)]
    rfl
   | true =>
    rw [zT, zT]
    show case6 LF s i (w :: ws) (ws.map valW) = _
    rw [case6_ok (by rw [List.length_map]; omega) (m.mono (by omega)), upW (show i + 1 < 9223372036854775808 by omega)]
    cases caseS s w (ws.map valW) <;> rfl
theorem fin6_ok (s : StockK) : fin6 LF s = some (finS s) := by
 unfold fin6 finS
 rw [G24_chk, zB]
 by_cases h : chkE s = 0
 ·rw [zE h, if_pos h]; rfl
 ·rw [zD h, if_neg h]; rfl
theorem foldS_trim (l : List UInt8) (s : StockK) : foldS lineSt ((sp l).map ofL) 0 s = foldS lineSt ((lns l).map ofL) 0 s := by
 unfold lns trimE
 split
 ·rename_i h
  have hne := sp_ne l
  have e : sp l = (sp l).dropLast ++ [[]] := by
   have h1 := List.dropLast_concat_getLast hne
   rw [List.getLast?_eq_some_getLast hne] at h
   rw [Option.some.inj h] at h1
   exact h1.symm
  conv => lhs; rw [e]
  rw [List.map_append, foldS_app]
  cases foldS lineSt (List.map ofL (sp l).dropLast) 0 s with
  | inr e => rfl
  | inl s' => rfl
 ·rfl
theorem G6_parse (x : ByteArray) : G6 LF x = some (parseB x) := by
 rw [G6_def]
 unfold parseB
 by_cases h : 40000 < x.size
 ·rw [zE (show (x.size : Int) > 40000 by omega), if_pos h]; rfl
 ·rw [zD (show ¬ (x.size : Int) > 40000 by omega), if_neg h, zF, splitC_sp (by omega), zB]
  have hsz : x.data.toList.length ≤ 40000 := by rw [← size_len]; omega
  have hll := sp_len x.data.toList
  refine (iter_go (fun (i : Int) (s : StockK) => (i, s)) lineSt (fun i s => Sml s i) ((sp x.data.toList).map ofL) (fun s => some (finS s)) zeroS ?_ ?_ ?_ (by rw [List.length_map]; show _ < 9223372036854775808; omega) zero_sml).trans ?_
  ·intro i l s hx m
   have hi := gt_of hx
   rw [List.length_map] at hi
   have hl : l.size ≤ 40000 := by
    obtain ⟨u, hu, rfl⟩ := List.mem_map.1 (List.mem_of_getElem? hx)
    have := sp_mem _ u hu
    rw [ofL_size]; omega
   show cond (decide ((i : Int) < (((sp x.data.toList).map ofL).length : Int))) (jn (big6 LF s i ((sp x.data.toList).map ofL)) _) _ = _
   rw [decNN (by rw [List.length_map]; exact hi), zT, big6_ok hx (by omega) hl m]
   cases lineSt l i s with
   | inl s' =>
    show some (Sum.inl (w64 ((i : Int) + 1), s')) = _
    rw [upW (show i + 1 < 9223372036854775808 by omega)]
   | inr e => rfl
  ·intro i l s s' hx m he
   exact lineSt_sml m he
  ·intro s m
   show cond (decide (((((sp x.data.toList).map ofL).length : Nat) : Int) < (((sp x.data.toList).map ofL).length : Int))) _ (outR (fin6 LF s)) = _
   rw [decNn, zF, fin6_ok]
  ·rw [foldS_trim]
   unfold linesB
   cases foldS lineSt ((lns x.data.toList).map ofL) 0 zeroS <;> rfl
end Go.K
namespace Go.K
open Go.Sl Go.Sx Go.Proofs
def S10 : FuncId → Sp := fun g => match g with
 | 10 => { joins := [(11, [(.slot 4, .dat .str)]), (21, [(.slot 4, .dat .str)]), (18, [(.slot 4, .dat .str)]), (19, []), (15, [])], loops := [(17, [(.slot 4, .dat .str), (.slot 9, .dat .i)]), (13, [(.slot 4, .dat .str), (.slot 8, .dat .i)]), (10, [(.slot 4, .dat .str), (.slot 7, .dat .i)]), (5, [(.slot 4, .dat .str), (.slot 5, .dat .i)])] }
 | _ => {}
noncomputable def F10 (P : Program) (lf : Nat) (x : tt [(true, Yu)]) : Option (tt [(false, .str), (false, .i)]) := fnF P (C33 P lf) S10 10 [(true, Yu)] [(false, .str), (false, .i)] lf x
noncomputable def C10 (P : Program) (lf : Nat) : FuncId → Option Con := extC (C33 P lf) 10 (dataCon [(true, Yu)] [(false, .str), (false, .i)] (F10 P lf))
end Go.K
namespace Go.K
open Go.Sl Go.Sx Go.Proofs
noncomputable def G10 (lf : Nat) (x : Ys) : Option ((ByteArray × Int)) :=
 ((G29 lf (x.1, (x.2.1, (x.2.2.1, (x.2.2.2.1, (x.2.2.2.2.1, (x.2.2.2.2.2.1, (x.2.2.2.2.2.2.1, (x.2.2.2.2.2.2.2.1, (x.2.2.2.2.2.2.2.2.1, x.2.2.2.2.2.2.2.2.2))))))))))).bind fun r121 => cond (!(decide (r121 = (0 : Int)))) (some ((bts []), (62 : Int))) (iter lf (fun y122 : (ByteArray × Int) => cond (decide (y122.2 < (x.1.length : Int))) (((getI x.1 y122.2)).bind fun r123 => ((catC y122.1 (bts [108, 111, 116, 32]))).bind fun r124 => ((G33 lf lf r123.1)).bind fun r125 => ((catC (y122.1 ++ (bts [108, 111, 116, 32])) r125)).bind fun r126 => ((catC ((y122.1 ++ (bts [108, 111, 116, 32])) ++ r125) (bts [32]))).bind fun r127 => ((G33 lf lf r123.2.1)).bind fun r128 => ((catC (((y122.1 ++ (bts [108, 111, 116, 32])) ++ r125) ++ (bts [32])) r128)).bind fun r129 => ((catC ((((y122.1 ++ (bts [108, 111, 116, 32])) ++ r125) ++ (bts [32])) ++ r128) (bts [32]))).bind fun r130 => ((G33 lf lf r123.2.2.1)).bind fun r131 => ((catC (((((y122.1 ++ (bts [108, 111, 116, 32])) ++ r125) ++ (bts [32])) ++ r128) ++ (bts [32])) r131)).bind fun r132 => ((catC ((((((y122.1 ++ (bts [108, 111, 116, 32])) ++ r125) ++ (bts [32])) ++ r128) ++ (bts [32])) ++ r131) (bts [32]))).bind fun r133 => ((G33 lf lf r123.2.2.2)).bind fun r134 => ((catC (((((((y122.1 ++ (bts [108, 111, 116, 32])) ++ r125) ++ (bts [32])) ++ r128) ++ (bts [32])) ++ r131) ++ (bts [32])) r134)).bind fun r135 => ((catC ((((((((y122.1 ++ (bts [108, 111, 116, 32])) ++ r125) ++ (bts [32])) ++ r128) ++ (bts [32])) ++ r131) ++ (bts [32])) ++ r134) (bts [10]))).bind fun r136 => some (.inl ((((((((((y122.1 ++ (bts [108, 111, 116, 32])) ++ r125) ++ (bts [32])) ++ r128) ++ (bts [32])) ++ r131) ++ (bts [32])) ++ r134) ++ (bts [10])), (w64 (y122.2 + (1 : Int)))))) (outR (iter lf (fun y137 : (ByteArray × Int) => cond (decide (y137.2 < (9 : Int))) (jn (iter lf (fun y138 : (ByteArray × Int) => jn (cond (decide (y137.2 = (0 : Int))) (cond (decide (y138.2 < (x.2.1.length : Int))) (some (.inl ())) (some (.inr (.inr (.inl y138.1))))) (cond (decide (y137.2 = (1 : Int))) (cond (decide (y138.2 < (x.2.2.1.length : Int))) (some (.inl ())) (some (.inr (.inr (.inl y138.1))))) (cond (decide (y137.2 = (2 : Int))) (cond (decide (y138.2 < (x.2.2.2.1.length : Int))) (some (.inl ())) (some (.inr (.inr (.inl y138.1))))) (cond (decide (y137.2 = (3 : Int))) (cond (decide (y138.2 < (x.2.2.2.2.1.length : Int))) (some (.inl ())) (some (.inr (.inr (.inl y138.1))))) (cond (decide (y137.2 = (4 : Int))) (cond (decide (y138.2 < (x.2.2.2.2.2.1.length : Int))) (some (.inl ())) (some (.inr (.inr (.inl y138.1))))) (cond (decide (y137.2 = (5 : Int))) (cond (decide (y138.2 < (x.2.2.2.2.2.2.1.length : Int))) (some (.inl ())) (some (.inr (.inr (.inl y138.1))))) (cond (decide (y137.2 = (6 : Int))) (cond (decide (y138.2 < (x.2.2.2.2.2.2.2.1.length : Int))) (some (.inl ())) (some (.inr (.inr (.inl y138.1))))) (cond (decide (y137.2 = (7 : Int))) (cond (decide (y138.2 < (x.2.2.2.2.2.2.2.2.1.length : Int))) (some (.inl ())) (some (.inr (.inr (.inl y138.1))))) (cond (decide (y137.2 = (8 : Int))) (cond (decide (y138.2 < (x.2.2.2.2.2.2.2.2.2.length : Int))) (some (.inl ())) (some (.inr (.inr (.inl y138.1))))) ((outI))))))))))) (fun y139 : PUnit => ((catC y138.1 (bts [104, 101, 97, 112, 32]))).bind fun r140 => ((G33 lf lf y137.2)).bind fun r141 => ((catC (y138.1 ++ (bts [104, 101, 97, 112, 32])) r141)).bind fun r142 => jn (iter lf (fun y143 : (ByteArray × Int) => jn (cond (decide (y137.2 = (0 : Int))) (((getI x.2.1 y138.2)).bind fun r144 => cond (decide (y143.2 < (r144.length : Int))) (some (.inl ())) (some (.inr (.inr (.inl y143.1))))) (cond (decide (y137.2 = (1 : Int))) (((getI x.2.2.1 y138.2)).bind fun r145 => cond (decide (y143.2 < (r145.length : Int))) (some (.inl ())) (some (.inr (.inr (.inl y143.1))))) (cond (decide (y137.2 = (2 : Int))) (((getI x.2.2.2.1 y138.2)).bind fun r146 => cond (decide (y143.2 < (r146.length : Int))) (some (.inl ())) (some (.inr (.inr (.inl y143.1))))) (cond (decide (y137.2 = (3 : Int))) (((getI x.2.2.2.2.1 y138.2)).bind fun r147 => cond (decide (y143.2 < (r147.length : Int))) (some (.inl ())) (some (.inr (.inr (.inl y143.1))))) (cond (decide (y137.2 = (4 : Int))) (((getI x.2.2.2.2.2.1 y138.2)).bind fun r148 => cond (decide (y143.2 < (r148.length : Int))) (some (.inl ())) (some (.inr (.inr (.inl y143.1))))) (cond (decide (y137.2 = (5 : Int))) (((getI x.2.2.2.2.2.2.1 y138.2)).bind fun r149 => cond (decide (y143.2 < (r149.length : Int))) (some (.inl ())) (some (.inr (.inr (.inl y143.1))))) (cond (decide (y137.2 = (6 : Int))) (((getI x.2.2.2.2.2.2.2.1 y138.2)).bind fun r150 => cond (decide (y143.2 < (r150.length : Int))) (some (.inl ())) (some (.inr (.inr (.inl y143.1))))) (cond (decide (y137.2 = (7 : Int))) (((getI x.2.2.2.2.2.2.2.2.1 y138.2)).bind fun r151 => cond (decide (y143.2 < (r151.length : Int))) (some (.inl ())) (some (.inr (.inr (.inl y143.1))))) (cond (decide (y137.2 = (8 : Int))) (((getI x.2.2.2.2.2.2.2.2.2 y138.2)).bind fun r152 => cond (decide (y143.2 < (r152.length : Int))) (some (.inl ())) (some (.inr (.inr (.inl y143.1))))) ((outI))))))))))) (fun y153 : PUnit => jn (cond (decide (y137.2 = (0 : Int))) (((getI x.2.1 y138.2)).bind fun r154 => ((getI r154 y143.2)).bind fun r155 => ((catC y143.1 (bts [32]))).bind fun r156 => ((G33 lf lf r155.1)).bind fun r157 => ((catC (y143.1 ++ (bts [32])) r157)).bind fun r158 => ((catC ((y143.1 ++ (bts [32])) ++ r157) (bts [32]))).bind fun r159 => ((G33 lf lf r155.2)).bind fun r160 => ((catC (((y143.1 ++ (bts [32])) ++ r157) ++ (bts [32])) r160)).bind fun r161 => some (.inl ((((y143.1 ++ (bts [32])) ++ r157) ++ (bts [32])) ++ r160))) (cond (decide (y137.2 = (1 : Int))) (((getI x.2.2.1 y138.2)).bind fun r162 => ((getI r162 y143.2)).bind fun r163 => ((catC y143.1 (bts [32]))).bind fun r164 => ((G33 lf lf r163.1)).bind fun r165 => ((catC (y143.1 ++ (bts [32])) r165)).bind fun r166 => ((catC ((y143.1 ++ (bts [32])) ++ r165) (bts [32]))).bind fun r167 => ((G33 lf lf r163.2)).bind fun r168 => ((catC (((y143.1 ++ (bts [32])) ++ r165) ++ (bts [32])) r168)).bind fun r169 => some (.inl ((((y143.1 ++ (bts [32])) ++ r165) ++ (bts [32])) ++ r168))) (cond (decide (y137.2 = (2 : Int))) (((getI x.2.2.2.1 y138.2)).bind fun r170 => ((getI r170 y143.2)).bind fun r171 => ((catC y143.1 (bts [32]))).bind fun r172 => ((G33 lf lf r171.1)).bind fun r173 => ((catC (y143.1 ++ (bts [32])) r173)).bind fun r174 => ((catC ((y143.1 ++ (bts [32])) ++ r173) (bts [32]))).bind fun r175 => ((G33 lf lf r171.2)).bind fun r176 => ((catC (((y143.1 ++ (bts [32])) ++ r173) ++ (bts [32])) r176)).bind fun r177 => some (.inl ((((y143.1 ++ (bts [32])) ++ r173) ++ (bts [32])) ++ r176))) (cond (decide (y137.2 = (3 : Int))) (((getI x.2.2.2.2.1 y138.2)).bind fun r178 => ((getI r178 y143.2)).bind fun r179 => ((catC y143.1 (bts [32]))).bind fun r180 => ((G33 lf lf r179.1)).bind fun r181 => ((catC (y143.1 ++ (bts [32])) r181)).bind fun r182 => ((catC ((y143.1 ++ (bts [32])) ++ r181) (bts [32]))).bind fun r183 => ((G33 lf lf r179.2)).bind fun r184 => ((catC (((y143.1 ++ (bts [32])) ++ r181) ++ (bts [32])) r184)).bind fun r185 => some (.inl ((((y143.1 ++ (bts [32])) ++ r181) ++ (bts [32])) ++ r184))) (cond (decide (y137.2 = (4 : Int))) (((getI x.2.2.2.2.2.1 y138.2)).bind fun r186 => ((getI r186 y143.2)).bind fun r187 => ((catC y143.1 (bts [32]))).bind fun r188 => ((G33 lf lf r187.1)).bind fun r189 => ((catC (y143.1 ++ (bts [32])) r189)).bind fun r190 => ((catC ((y143.1 ++ (bts [32])) ++ r189) (bts [32]))).bind fun r191 => ((G33 lf lf r187.2)).bind fun r192 => ((catC (((y143.1 ++ (bts [32])) ++ r189) ++ (bts [32])) r192)).bind fun r193 => some (.inl ((((y143.1 ++ (bts [32])) ++ r189) ++ (bts [32])) ++ r192))) (cond (decide (y137.2 = (5 : Int))) (((getI x.2.2.2.2.2.2.1 y138.2)).bind fun r194 => ((getI r194 y143.2)).bind fun r195 => ((catC y143.1 (bts [32]))).bind fun r196 => ((G33 lf lf r195.1)).bind fun r197 => ((catC (y143.1 ++ (bts [32])) r197)).bind fun r198 => ((catC ((y143.1 ++ (bts [32])) ++ r197) (bts [32]))).bind fun r199 => ((G33 lf lf r195.2)).bind fun r200 => ((catC (((y143.1 ++ (bts [32])) ++ r197) ++ (bts [32])) r200)).bind fun r201 => some (.inl ((((y143.1 ++ (bts [32])) ++ r197) ++ (bts [32])) ++ r200))) (cond (decide (y137.2 = (6 : Int))) (((getI x.2.2.2.2.2.2.2.1 y138.2)).bind fun r202 => ((getI r202 y143.2)).bind fun r203 => ((catC y143.1 (bts [32]))).bind fun r204 => ((G33 lf lf r203.1)).bind fun r205 => ((catC (y143.1 ++ (bts [32])) r205)).bind fun r206 => ((catC ((y143.1 ++ (bts [32])) ++ r205) (bts [32]))).bind fun r207 => ((G33 lf lf r203.2)).bind fun r208 => ((catC (((y143.1 ++ (bts [32])) ++ r205) ++ (bts [32])) r208)).bind fun r209 => some (.inl ((((y143.1 ++ (bts [32])) ++ r205) ++ (bts [32])) ++ r208))) (cond (decide (y137.2 = (7 : Int))) (((getI x.2.2.2.2.2.2.2.2.1 y138.2)).bind fun r210 => ((getI r210 y143.2)).bind fun r211 => ((catC y143.1 (bts [32]))).bind fun r212 => ((G33 lf lf r211.1)).bind fun r213 => ((catC (y143.1 ++ (bts [32])) r213)).bind fun r214 => ((catC ((y143.1 ++ (bts [32])) ++ r213) (bts [32]))).bind fun r215 => ((G33 lf lf r211.2)).bind fun r216 => ((catC (((y143.1 ++ (bts [32])) ++ r213) ++ (bts [32])) r216)).bind fun r217 => some (.inl ((((y143.1 ++ (bts [32])) ++ r213) ++ (bts [32])) ++ r216))) (cond (decide (y137.2 = (8 : Int))) (((getI x.2.2.2.2.2.2.2.2.2 y138.2)).bind fun r218 => ((getI r218 y143.2)).bind fun r219 => ((catC y143.1 (bts [32]))).bind fun r220 => ((G33 lf lf r219.1)).bind fun r221 => ((catC (y143.1 ++ (bts [32])) r221)).bind fun r222 => ((catC ((y143.1 ++ (bts [32])) ++ r221) (bts [32]))).bind fun r223 => ((G33 lf lf r219.2)).bind fun r224 => ((catC (((y143.1 ++ (bts [32])) ++ r221) ++ (bts [32])) r224)).bind fun r225 => some (.inl ((((y143.1 ++ (bts [32])) ++ r221) ++ (bts [32])) ++ r224))) ((outI))))))))))) (fun y226 : ByteArray => some (.inl (y226, (w64 (y143.2 + (1 : Int)))))))) (((y138.1 ++ (bts [104, 101, 97, 112, 32])) ++ r141), (0 : Int))) (fun y227 : ByteArray => ((catC y227 (bts [10]))).bind fun r228 => some (.inl ((y227 ++ (bts [10])), (w64 (y138.2 + (1 : Int)))))))) (y137.1, (0 : Int))) (fun y229 : ByteArray => some (.inl (y229, (w64 (y137.2 + (1 : Int))))))) (some (.inr (y137.1, (0 : Int))))) (y122.1, (0 : Int))))) ((bts []), (0 : Int)))
theorem F10_G (lf : Nat) (x : Ys) : F10 Tryz.prog lf x = G10 lf x := by
 obtain ⟨_, ⟨_, ⟨_, ⟨_, ⟨_, ⟨_, ⟨_, ⟨_, ⟨_, _⟩⟩⟩⟩⟩⟩⟩⟩⟩ := x
 unfold G10
 (try simp only [← F29_G lf, ← F33_G lf])
 kernel_rfl
end Go.K
namespace Go.K
open Go.Sl Go.Sx Go.Proofs
theorem ofL_app (a b : List UInt8) : ofL a ++ ofL b = ofL (a ++ b) := app_L a b
theorem catO {a b : List UInt8} (h : a.length + b.length ≤ 9223372036854775807) : catC (ofL a) (ofL b) = some () := cat_of a b h
theorem G33_o {n : Int} (h : 0 ≤ n ∧ n ≤ 1000000000000) : G33 LF LF n = some (ofL (Lib.itoa n)) := G33_it LF LF (by show 16 ≤ 9223372036854775808; omega) h
abbrev S2 := ByteArray × Int
abbrev Q1 := ByteArray ⊕ (S2 ⊕ S2)
abbrev Q2 := ByteArray ⊕ (S2 ⊕ Q1)
noncomputable def partF (h : HoldK) (j : Int) (y : S2) : Option (S2 ⊕ Q2) :=
 jn (((getI h j)).bind fun r => cond (decide (y.2 < (r.length : Int))) (some (.inl ())) (some (.inr (.inr (.inl y.1))))) (fun _ : PUnit => jn (((getI h j)).bind fun r154 => ((getI r154 y.2)).bind fun r155 => ((catC y.1 (bts [32]))).bind fun r156 => ((G33 LF LF r155.1)).bind fun r157 => ((catC (y.1 ++ (bts [32])) r157)).bind fun r158 => ((catC ((y.1 ++ (bts [32])) ++ r157) (bts [32]))).bind fun r159 => ((G33 LF LF r155.2)).bind fun r160 => ((catC (((y.1 ++ (bts [32])) ++ r157) ++ (bts [32])) r160)).bind fun r161 => some (.inl ((((y.1 ++ (bts [32])) ++ r157) ++ (bts [32])) ++ r160))) (fun y226 : ByteArray => some (.inl (y226, (w64 (y.2 + (1 : Int)))))))
noncomputable def heapF (i : Int) (h : HoldK) (y : S2) : Option (S2 ⊕ Q1) :=
 jn (cond (decide (y.2 < (h.length : Int))) (some (.inl ())) (some (.inr (.inr (.inl y.1))))) (fun _ : PUnit => ((catC y.1 (bts [104, 101, 97, 112, 32]))).bind fun r140 => ((G33 LF LF i)).bind fun r141 => ((catC (y.1 ++ (bts [104, 101, 97, 112, 32])) r141)).bind fun r142 => jn (iter LF (partF h y.2) (((y.1 ++ (bts [104, 101, 97, 112, 32])) ++ r141), (0 : Int))) (fun y227 : ByteArray => ((catC y227 (bts [10]))).bind fun r228 => some (.inl ((y227 ++ (bts [10])), (w64 (y.2 + (1 : Int)))))))
noncomputable def holdF (i : Int) (h : HoldK) (b : ByteArray) : Option (S2 ⊕ S2) :=
 jn (iter LF (heapF i h) (b, (0 : Int))) (fun y229 : ByteArray => some (.inl (y229, (w64 (i + (1 : Int))))))
def ptL (p : Int × Int) : List UInt8 := wI p.1 ++ wI p.2
theorem ptL_len {p : Int × Int} (h : (1 ≤ p.1 ∧ p.1 ≤ 9999) ∧ (1 ≤ p.2 ∧ p.2 ≤ 100000000)) : (ptL p).length ≤ 28 := by
 have h1 := wI_len (n := p.1) (by omega)
 have h2 := wI_len (n := p.2) (by omega)
 unfold ptL; rw [List.length_append]; omega
theorem b32o : bts [32] = ofL [32] := rfl
theorem b10o : bts [10] = ofL [10] := rfl
theorem parts_iter {h : HoldK} {j : Nat} {x : HeapK} (hj : h[j]? = some x) (hx : x.length ≤ 40) (hp : ∀ p ∈ x, (1 ≤ p.1 ∧ p.1 ≤ 9999) ∧ (1 ≤ p.2 ∧ p.2 ≤ 100000000)) (a : List UInt8) (ha : a.length ≤ 1000000) :
  iter LF (partF h (j : Int)) (ofL a, (0 : Int)) = some (.inl (ofL (a ++ x.flatMap ptL))) := by
 refine (iter_foldI (fun (i : Int) b => (ofL b, i)) (fun p _ b => b ++ ptL p) (fun i b => b.length ≤ 1000000 + 28 * i) x (fun b => some (.inl (ofL b))) a ?_ ?_ ?_ (by show _ < 9223372036854775808; omega) (by omega)).trans ?_
 ·intro k p b hk hb
  have hi := gt_of hk
  have hpp := hp p (List.mem_of_getElem? hk)
  have h1 := it_len13 (n := p.1) (by omega)
  have h2 := it_len13 (n := p.2) (by omega)
  unfold partF
  dsimp only
  rw [getI_nat hj, zB, decNN hi, zT, jin, zB, getI_nat hk, zB, b32o, catO (by simp only [zC, zL]; omega), zB, G33_o (by omega), zB, ofL_app, catO (by simp only [List.length_append, zC, zL]; omega), zB, ofL_app, catO (by simp only [List.length_append, zC, zL]; omega), zB, G33_o (by omega), zB, ofL_app, catO (by simp only [List.length_append, zC, zL]; omega), zB, ofL_app, jin, upW (show k + 1 < 9223372036854775808 by omega)]
  simp only [ptL, wI, List.append_assoc, List.cons_append, List.nil_append]
 ·intro k p b hk hb
  have := ptL_len (hp p (List.mem_of_getElem? hk))
  rw [List.length_append]; omega
 ·intro b _
  unfold partF
  dsimp only
  rw [getI_nat hj, zB, decNn, zF]
  rfl
 ·rw [foldI_const (fun p b => b ++ ptL p), foldl_flat]
theorem heapL_eq (i : Int) (x : HeapK) : heapL i x = [104, 101, 97, 112] ++ (wI i ++ (x.flatMap ptL ++ [10])) := by
 unfold heapL lineL heapW
 have : ∀ l : HeapK, (l.flatMap fun p => [p.1, p.2]).flatMap wI = l.flatMap ptL := by
  intro l
  induction l with
  | nil => rfl
  | cons p l ih =>
   simp only [List.flatMap_cons, List.flatMap_append, List.flatMap_nil, List.append_nil, ih, ptL, List.append_assoc]
 rw [List.flatMap_cons, this, List.append_assoc]
theorem heaps_iter {s : StockK} (k : StokOk s) {h : HoldK} (hh : h ∈ holds s) {i : Nat} (hi : i < 9) (a : List UInt8) (ha : a.length ≤ 60000) :
  iter LF (heapF (i : Int) h) (ofL a, (0 : Int)) = some (.inl (ofL (a ++ holdL i h))) := by
 have h4 := k.h4 h hh
 refine (iter_foldI (fun (j : Int) b => (ofL b, j)) (fun x _ b => b ++ heapL (i : Int) x) (fun j b => b.length ≤ 60000 + 2000 * j) h (fun b => some (.inl (ofL b))) a ?_ ?_ ?_ (by show _ < 9223372036854775808; omega) (by omega)).trans ?_
 ·intro j x b hj hb
  have hlt := gt_of hj
  have hm := k.parts h hh x (List.mem_of_getElem? hj)
  have h1 := it_len13 (n := (i : Int)) (by omega)
  have hf := flat_len ptL 28 x fun p hp => ptL_len (hm.2 p hp)
  unfold heapF
  dsimp only
  rw [decNN hlt, zT, jin, show bts [104, 101, 97, 112, 32] = ofL [104, 101, 97, 112, 32] from rfl, catO (by simp only [zC, zL]; omega), zB, G33_o (by omega), zB, ofL_app, catO (by simp only [List.length_append, zC, zL]; omega), zB, ofL_app, parts_iter hj hm.1.2 hm.2 _ (by simp only [List.length_append, zC, zL]; omega), jin, b10o, catO (by simp only [List.length_append, zC, zL]; omega), zB, ofL_app, upW (show j + 1 < 9223372036854775808 by omega), heapL_eq]
  simp only [wI, List.append_assoc, List.cons_append, List.nil_append]
 ·intro j x b hj hb
  have hm := k.parts h hh x (List.mem_of_getElem? hj)
  have h1 := wI_len (n := (i : Int)) (by omega)
  have hf := flat_len ptL 28 x fun p hp => ptL_len (hm.2 p hp)
  rw [heapL_eq]
  simp only [List.length_append, zC, zL]; omega
 ·intro b _
  unfold heapF
  dsimp only
  rw [decNn, zF]
  rfl
 ·rw [foldI_const (fun x b => b ++ heapL (i : Int) x), foldl_flat]
  rfl
theorem holdF_ok {s : StockK} (k : StokOk s) {h : HoldK} (hh : h ∈ holds s) {i : Nat} (hi : i < 9) (a : List UInt8) (ha : a.length ≤ 60000) :
  holdF (i : Int) h (ofL a) = some (.inl (ofL (a ++ holdL i h), ((i + 1 : Nat) : Int))) := by
 unfold holdF
 rw [heaps_iter k hh hi a ha, jin, upW (show i + 1 < 9223372036854775808 by omega)]
theorem G10_print (s : StockK) : G10 LF s = some (if chkE s = 0 then (ofL (printL s), 0) else (bts [], 62)) := by
 unfold G10
 rw [show ((s.1, (s.2.1, (s.2.2.1, (s.2.2.2.1, (s.2.2.2.2.1, (s.2.2.2.2.2.1, (s.2.2.2.2.2.2.1, (s.2.2.2.2.2.2.2.1, (s.2.2.2.2.2.2.2.2.1, s.2.2.2.2.2.2.2.2.2))))))))) : StockK) = s from rfl, G29_chk]
 rw [zB]
 by_cases h0 : chkE s = 0
 ·have k := chk_ok h0
  have hl40 := k.l40
  rw [if_pos h0, h0, show decide ((0 : Int) = 0) = true from rfl, Bool.not_true, zF]
  refine (iter_foldI (fun (i : Int) b => (ofL b, i)) (fun x _ b => b ++ lotL x) (fun i b => b.length ≤ 60 * i) s.1 (fun b => some (ofL (b ++ tailL s), 0)) [] ?_ ?_ ?_ (by show _ < 9223372036854775808; omega) (by simp)).trans ?_
  ·intro i x b hx hb
   have hi := gt_of hx
   have hm := k.lots x (List.mem_of_getElem? hx)
   have h1 := it_len13 (n := x.1) (by omega)
   have h2 := it_len13 (n := x.2.1) (by omega)
   have h3 := it_len13 (n := x.2.2.1) (by omega)
   have h4 := it_len13 (n := x.2.2.2) (by omega)
   dsimp only
   rw [decNN hi, zT, getI_nat hx, zB, show bts [108, 111, 116, 32] = ofL [108, 111, 116, 32] from rfl, catO (by simp only [zC, zL]; omega), zB, G33_o (by omega), zB, ofL_app, b32o, b10o]
   rw [catO (by simp only [List.length_append, zC, zL]; omega), zB, ofL_app, catO (by simp only [List.length_append, zC, zL]; omega), zB, G33_o (by omega), zB, ofL_app]
   rw [catO (by simp only [List.length_append, zC, zL]; omega), zB, ofL_app, catO (by simp only [List.length_append, zC, zL]; omega), zB, G33_o (by omega), zB, ofL_app]
   rw [catO (by simp only [List.length_append, zC, zL]; omega), zB, ofL_app, catO (by simp only [List.length_append, zC, zL]; omega), zB, G33_o (by omega), zB, ofL_app]
   rw [catO (by simp only [List.length_append, zC, zL]; omega), zB, ofL_app, catO (by simp only [List.length_append, zC, zL]; omega), zB, ofL_app, upW (show i + 1 < 9223372036854775808 by omega)]
   simp only [lotL, lineL, lotW, List.flatMap_cons, List.flatMap_nil, wI, List.append_assoc, List.cons_append, List.nil_append]
  ·intro i x b hx hb
   have hm := k.lots x (List.mem_of_getElem? hx)
   have := lineL_len [108, 111, 116] (lotW x) (lotW_in k (List.mem_of_getElem? hx))
   have e4 : (lotW x).length = 4 := rfl
   rw [List.length_append]
   unfold lotL
   simp only [zC, zL] at this
   omega
  ·intro b hb
   dsimp only
   rw [decNn, zF]
   congr 1
   refine (iter_foldI (fun (i : Int) b => (ofL b, i)) (fun x i b => b ++ holdL i x) (fun i b => b.length ≤ 2400 + 5000 * i) (holds s) (fun b => some (ofL b, 0)) b ?_ ?_ ?_ (by show 9 < 9223372036854775808; omega) (by omega)).trans ?_
   ·intro i h c hx hc
    have hi : i < 9 := gt_of hx
    have hm := List.mem_of_getElem? hx
    refine Eq.trans ?_ (holdF_ok k hm hi c (by omega))
    match i, hi, hx with
    | 0, _, hx => cases hx; rfl
    | 1, _, hx => cases hx; rfl
    | 2, _, hx => cases hx; rfl
    | 3, _, hx => cases hx; rfl
    | 4, _, hx => cases hx; rfl
    | 5, _, hx => cases hx; rfl
    | 6, _, hx => cases hx; rfl
    | 7, _, hx => cases hx; rfl
    | 8, _, hx => cases hx; rfl
    | n + 9, h, _ => omega
   ·intro i h c hx hc
    have hi : i < 9 := gt_of hx
    have := holdL_len k (List.mem_of_getElem? hx) hi
    rw [List.length_append]; omega
   ·intro c _
    rfl
   ·rw [foldI_idx (fun i x => holdL i x)]
    rfl
  ·rw [foldI_const (fun x b => b ++ lotL x), foldl_flat, List.nil_append]
   rfl
 ·rw [if_neg h0, zD h0, Bool.not_false, zT]
end Go.K
namespace Go.K
open Go.Sl Go.Sx Go.Proofs
def lnW (w : List UInt8) (l : List Int) : List UInt8 := w ++ l.flatMap wI
theorem lineL_ln (w : List UInt8) (l : List Int) : lineL w l = lnW w l ++ [10] := by unfold lineL lnW; rw [List.append_assoc]
theorem wI_no {c : UInt8} (hc : c ≠ 45) (h32 : c ≠ 32) (hd : isD c = false) (n : Int) : ∀ b ∈ wI n, b ≠ c := by
 intro b hb
 rcases List.mem_cons.1 hb with rfl | hb
 ·exact fun e => h32 e.symm
 ·exact itoa_no hb hc hd
theorem lnW_no10 (w : List UInt8) (hw : ∀ b ∈ w, b ≠ 10) (l : List Int) : ∀ b ∈ lnW w l, b ≠ 10 := by
 intro b hb
 unfold lnW at hb
 rcases List.mem_append.1 hb with hb | hb
 ·exact hw b hb
 ·obtain ⟨n, _, hn⟩ := List.mem_flatMap.1 hb
  exact wI_no (by decide) (by decide) (by decide) n b hn
theorem sp_cut : ∀ (u r : List UInt8), (∀ b ∈ u, b ≠ 10) → sp (u ++ 10 :: r) = u :: sp r
 | [], r, _ => by simp [sp]
 | c :: u, r, h => by
  have ih := sp_cut u r fun b hb => h b (List.mem_cons_of_mem _ hb)
  rw [List.cons_append, sp, if_neg (h c (List.mem_cons_self ..)), ih]
theorem sp_lines : ∀ ls : List (List UInt8), (∀ l ∈ ls, ∀ b ∈ l, b ≠ 10) → sp (ls.flatMap fun l => l ++ [10]) = ls ++ [[]]
 | [], _ => rfl
 | l :: ls, h => by
  rw [List.flatMap_cons, List.append_assoc]
  show sp (l ++ 10 :: (ls.flatMap fun l => l ++ [10])) = _
  rw [sp_cut l _ (h l (List.mem_cons_self ..)), sp_lines ls fun x hx => h x (List.mem_cons_of_mem _ hx)]
  rfl
theorem lns_lines (ls : List (List UInt8)) (h : ∀ l ∈ ls, ∀ b ∈ l, b ≠ 10) : lns (ls.flatMap fun l => l ++ [10]) = ls := by
 unfold lns trimE
 rw [sp_lines ls h]
 simp
theorem wd_32 (r : List UInt8) : wd [] (32 :: r) = wd [] r := by rw [wd, if_pos rfl, if_pos rfl]
theorem flat_head (l : List Int) : l.flatMap wI = [] ∨ ∃ r, l.flatMap wI = 32 :: r := by
 cases l with
 | nil => exact .inl rfl
 | cons n l => exact .inr ⟨_, rfl⟩
theorem wd_nums : ∀ l : List Int, wd [] (l.flatMap wI) = l.map Lib.itoa
 | [] => by simp [wd]
 | n :: l => by
  rw [List.flatMap_cons]
  show wd [] (32 :: (Lib.itoa n ++ l.flatMap wI)) = _
  rw [wd_32, wd_cut (Lib.itoa n) _ (itoa_ne n) (fun b hb => itoa_no hb (by decide) (by decide)) (flat_head l), wd_nums l]
  rfl
theorem wd_ln (w : List UInt8) (hw : w ≠ []) (h : ∀ b ∈ w, b ≠ 32) (l : List Int) : wd [] (lnW w l) = w :: l.map Lib.itoa := by
 unfold lnW
 rw [wd_cut w _ hw h (flat_head l), wd_nums]
theorem words_ln (w : List UInt8) (hw : w ≠ []) (h : ∀ b ∈ w, b ≠ 32) (l : List Int) : wordsB (ofL (lnW w l)) = ofL w :: l.map It := by
 unfold wordsB
 rw [ofL_data2, wd_ln w hw h, List.map_cons, List.map_map]
 rfl
theorem okW_it {n : Int} (h : 0 ≤ n ∧ n ≤ 999999999) : okW (It n) = true ∧ valW (It n) = n := by
 unfold okW valW It
 rw [show (⟨(Lib.itoa n).toArray⟩ : ByteArray).data.toList = Lib.itoa n from ofL_data _, itoa_pos (by omega)]
 refine ⟨dec_ok (k := 8) (by omega) (by omega), ?_⟩
 rw [dec_val]; omega
theorem vals_it : ∀ l : List Int, (∀ n ∈ l, 0 ≤ n ∧ n ≤ 999999999) → (l.map It).all okW = true ∧ (l.map It).map valW = l
 | [], _ => ⟨rfl, rfl⟩
 | n :: l, h => by
  have h1 := okW_it (h n (List.mem_cons_self ..))
  have h2 := vals_it l fun x hx => h x (List.mem_cons_of_mem _ hx)
  exact ⟨by rw [List.map_cons, List.all_cons, h1.1, h2.1]; rfl, by rw [List.map_cons, List.map_cons, h1.2, h2.2]⟩
theorem line_ln {w : List UInt8} {c : UInt8} {r : List UInt8} (hw : w = c :: r) (h35 : c ≠ 35) (h : ∀ b ∈ w, b ≠ 32) {l : List Int} (hl : ∀ n ∈ l, 0 ≤ n ∧ n ≤ 999999999) {s s' : StockK} (i : Nat) (hc : caseS s (ofL w) l = some s') :
  lineSt (ofL (lnW w l)) i s = .inl s' := by
 have hv := vals_it l hl
 rw [lineSt_of (words_ln w (by rw [hw]; simp) h l), if_neg (by
  rw [ofL_data2]; unfold lnW; rw [hw]; simpa using h35), hv.1, zT, hv.2, hc]
def lotLn (x : LotK) : List UInt8 := lnW [108, 111, 116] (lotW x)
def heapLn (i : Nat) (x : HeapK) : List UInt8 := lnW [104, 101, 97, 112] (heapW (i : Int) x)
theorem lots_fold {s : StockK} (k : StokOk s) : ∀ (l : List LotK) (i : Nat) (t : StockK), (∀ x ∈ l, x ∈ s.1) → foldS lineSt ((l.map lotLn).map ofL) i t = .inl (t.1 ++ l, t.2)
 | [], i, t, _ => by rw [List.append_nil]; rfl
 | x :: l, i, t, h => by
  have hx := k.lots x (h x (List.mem_cons_self ..))
  have hs : lineSt (ofL (lotLn x)) i t = .inl (t.1 ++ [x], t.2) := by
   refine line_ln (c := 108) (r := [111, 116]) rfl (by decide) (by decide) (fun n hn => ?_) i ?_
   ·simp only [lotW, List.mem_cons, List.not_mem_nil, or_false] at hn
    rcases hn with rfl | rfl | rfl | rfl <;> omega
   ·unfold caseS
    rw [if_pos ⟨ofL_data2 _, rfl⟩]
    rfl
  rw [List.map_cons, List.map_cons]
  simp only [foldS, hs]
  rw [lots_fold k l (i + 1) _ fun y hy => h y (List.mem_cons_of_mem _ hy), List.append_assoc]
  rfl
theorem pairsL_flat : ∀ h : HeapK, pairsL (h.flatMap fun p => [p.1, p.2]) = h
 | [] => rfl
 | p :: h => by
  rw [List.flatMap_cons]
  show (p.1, p.2) :: pairsL (h.flatMap fun p => [p.1, p.2]) = _
  rw [pairsL_flat h]
theorem heap_line {s : StockK} (k : StokOk s) {h : HoldK} (hh : h ∈ holds s) {x : HeapK} (hx : x ∈ h) {j : Nat} (hj : j < 9) (i : Nat) (t : StockK) :
  lineSt (ofL (heapLn j x)) i t = .inl (addHeap t x j) := by
 have hm := k.parts h hh x hx
 refine line_ln (c := 104) (r := [101, 97, 112]) rfl (by decide) (by decide) (fun n hn => ?_) i ?_
 ·simp only [heapW, List.mem_cons, List.mem_flatMap, List.not_mem_nil, or_false] at hn
  rcases hn with rfl | ⟨p, hp, hn⟩
  ·omega
  ·have := hm.2 p hp
   rcases hn with rfl | rfl <;> omega
 ·have hl := heapW_len (j : Int) x
  have h0 : (heapW (j : Int) x).getD 0 0 = (j : Int) := rfl
  unfold caseS
  rw [if_neg (fun h => by rw [ofL_data2] at h; cases h.1), h0, if_pos ⟨ofL_data2 _, by omega, by omega, inB_iff.2 ⟨by omega, by omega⟩⟩, Int.toNat_natCast]
  unfold heapW
  rw [List.tail_cons, pairsL_flat]
theorem heaps_fold {s : StockK} (k : StokOk s) {h : HoldK} (hh : h ∈ holds s) {j : Nat} (hj : j < 9) : ∀ (l : HoldK) (i : Nat) (t : StockK), (∀ x ∈ l, x ∈ h) → foldS lineSt ((l.map (heapLn j)).map ofL) i t = .inl (l.foldl (fun t x => addHeap t x j) t)
 | [], i, t, _ => rfl
 | x :: l, i, t, hl => by
  rw [List.map_cons, List.map_cons]
  simp only [foldS, heap_line k hh (hl x (List.mem_cons_self ..)) hj i t]
  rw [heaps_fold k hh hj l (i + 1) _ fun y hy => hl y (List.mem_cons_of_mem _ hy)]
  rfl
def addHeaps (s : StockK) (l : HoldK) : Nat → StockK
 | 0 => (s.1, (s.2.1 ++ l, (s.2.2.1, (s.2.2.2.1, (s.2.2.2.2.1, (s.2.2.2.2.2.1, (s.2.2.2.2.2.2.1, (s.2.2.2.2.2.2.2.1, (s.2.2.2.2.2.2.2.2.1, s.2.2.2.2.2.2.2.2.2)))))))))
 | 1 => (s.1, (s.2.1, (s.2.2.1 ++ l, (s.2.2.2.1, (s.2.2.2.2.1, (s.2.2.2.2.2.1, (s.2.2.2.2.2.2.1, (s.2.2.2.2.2.2.2.1, (s.2.2.2.2.2.2.2.2.1, s.2.2.2.2.2.2.2.2.2)))))))))
 | 2 => (s.1, (s.2.1, (s.2.2.1, (s.2.2.2.1 ++ l, (s.2.2.2.2.1, (s.2.2.2.2.2.1, (s.2.2.2.2.2.2.1, (s.2.2.2.2.2.2.2.1, (s.2.2.2.2.2.2.2.2.1, s.2.2.2.2.2.2.2.2.2)))))))))
 | 3 => (s.1, (s.2.1, (s.2.2.1, (s.2.2.2.1, (s.2.2.2.2.1 ++ l, (s.2.2.2.2.2.1, (s.2.2.2.2.2.2.1, (s.2.2.2.2.2.2.2.1, (s.2.2.2.2.2.2.2.2.1, s.2.2.2.2.2.2.2.2.2)))))))))
 | 4 => (s.1, (s.2.1, (s.2.2.1, (s.2.2.2.1, (s.2.2.2.2.1, (s.2.2.2.2.2.1 ++ l, (s.2.2.2.2.2.2.1, (s.2.2.2.2.2.2.2.1, (s.2.2.2.2.2.2.2.2.1, s.2.2.2.2.2.2.2.2.2)))))))))
 | 5 => (s.1, (s.2.1, (s.2.2.1, (s.2.2.2.1, (s.2.2.2.2.1, (s.2.2.2.2.2.1, (s.2.2.2.2.2.2.1 ++ l, (s.2.2.2.2.2.2.2.1, (s.2.2.2.2.2.2.2.2.1, s.2.2.2.2.2.2.2.2.2)))))))))
 | 6 => (s.1, (s.2.1, (s.2.2.1, (s.2.2.2.1, (s.2.2.2.2.1, (s.2.2.2.2.2.1, (s.2.2.2.2.2.2.1, (s.2.2.2.2.2.2.2.1 ++ l, (s.2.2.2.2.2.2.2.2.1, s.2.2.2.2.2.2.2.2.2)))))))))
 | 7 => (s.1, (s.2.1, (s.2.2.1, (s.2.2.2.1, (s.2.2.2.2.1, (s.2.2.2.2.2.1, (s.2.2.2.2.2.2.1, (s.2.2.2.2.2.2.2.1, (s.2.2.2.2.2.2.2.2.1 ++ l, s.2.2.2.2.2.2.2.2.2)))))))))
 | 8 => (s.1, (s.2.1, (s.2.2.1, (s.2.2.2.1, (s.2.2.2.2.1, (s.2.2.2.2.2.1, (s.2.2.2.2.2.2.1, (s.2.2.2.2.2.2.2.1, (s.2.2.2.2.2.2.2.2.1, s.2.2.2.2.2.2.2.2.2 ++ l)))))))))
 | _ => s
theorem adds_step (s : StockK) (x : HeapK) (l : HoldK) {j : Nat} (hj : j < 9) : addHeaps (addHeap s x j) l j = addHeaps s (x :: l) j := by
 match j, hj with
 | 0, _ | 1, _ | 2, _ | 3, _ | 4, _ | 5, _ | 6, _ | 7, _ | 8, _ => simp only [addHeaps, addHeap, List.append_assoc, List.cons_append, List.nil_append]
 | n + 9, h => omega
theorem adds_nil (s : StockK) {j : Nat} (hj : j < 9) : addHeaps s [] j = s := by
 match j, hj with
 | 0, _ | 1, _ | 2, _ | 3, _ | 4, _ | 5, _ | 6, _ | 7, _ | 8, _ => simp only [addHeaps, List.append_nil]
 | n + 9, h => omega
theorem foldl_adds {j : Nat} (hj : j < 9) : ∀ (l : HoldK) (t : StockK), l.foldl (fun t x => addHeap t x j) t = addHeaps t l j
 | [], t => (adds_nil t hj).symm
 | x :: l, t => by rw [List.foldl_cons, foldl_adds hj l, adds_step t x l hj]
def tailLns (s : StockK) : List (List UInt8) := (holds s).zipIdx.flatMap fun p => p.1.map (heapLn p.2)
def linesOf (s : StockK) : List (List UInt8) := s.1.map lotLn ++ tailLns s
theorem map_flat {α : Type} (f g : α → List UInt8) (h : ∀ x, f x = g x ++ [10]) : ∀ l : List α, l.flatMap f = (l.map g).flatMap fun y => y ++ [10]
 | [] => rfl
 | x :: l => by rw [List.flatMap_cons, List.map_cons, List.flatMap_cons, h, map_flat f g h l]
theorem printL_lines (s : StockK) : printL s = (linesOf s).flatMap fun l => l ++ [10] := by
 unfold printL linesOf tailLns
 rw [List.flatMap_append, map_flat lotL lotLn (fun x => lineL_ln _ _)]
 congr 1
 rw [List.flatMap_assoc]
 congr 1
 funext p
 exact map_flat (heapL (p.2 : Int)) (heapLn p.2) (fun x => lineL_ln _ _) p.1
theorem linesOf_no10 (s : StockK) : ∀ l ∈ linesOf s, ∀ b ∈ l, b ≠ 10 := by
 intro l hl
 unfold linesOf tailLns at hl
 rcases List.mem_append.1 hl with hl | hl
 ·obtain ⟨x, _, rfl⟩ := List.mem_map.1 hl
  exact lnW_no10 _ (by decide) _
 ·obtain ⟨p, _, hp⟩ := List.mem_flatMap.1 hl
  obtain ⟨x, _, rfl⟩ := List.mem_map.1 hp
  exact lnW_no10 _ (by decide) _
theorem foldS_seq {σ A ρ : Type} {step : σ → Nat → A → A ⊕ ρ} {l m : List σ} {i : Nat} {a b : A} (h : foldS step l i a = .inl b) : foldS step (l ++ m) i a = foldS step m (i + l.length) b := by rw [foldS_app, h]
theorem hstep {s : StockK} (k : StokOk s) {h : HoldK} {j : Nat} (hh : h ∈ holds s) (hj : j < 9) (i : Nat) (t : StockK) : foldS lineSt ((h.map (heapLn j)).map ofL) i t = .inl (addHeaps t h j) :=
 (heaps_fold k hh hj h i t fun x hx => hx).trans (congrArg Sum.inl (foldl_adds hj h t))
theorem tail_fold {s : StockK} (k : StokOk s) (i : Nat) : foldS lineSt ((tailLns s).map ofL) i (s.1, zeroS.2) = .inl s := by
 obtain ⟨l, h0, h1, h2, h3, h4, h5, h6, h7, h8⟩ := s
 have e : tailLns (l, h0, h1, h2, h3, h4, h5, h6, h7, h8) = h0.map (heapLn 0) ++ (h1.map (heapLn 1) ++ (h2.map (heapLn 2) ++ (h3.map (heapLn 3) ++ (h4.map (heapLn 4) ++ (h5.map (heapLn 5) ++ (h6.map (heapLn 6) ++ (h7.map (heapLn 7) ++ (h8.map (heapLn 8) ++ [])))))))) := rfl
 rw [e]
 simp only [List.map_append]
 have hm : ∀ x ∈ holds (l, h0, h1, h2, h3, h4, h5, h6, h7, h8), x ∈ holds (l, h0, h1, h2, h3, h4, h5, h6, h7, h8) := fun _ h => h
 rw [foldS_seq (hstep k (h := h0) (j := 0) (by simp [holds]) (by omega) _ _)]
 rw [foldS_seq (hstep k (h := h1) (j := 1) (by simp [holds]) (by omega) _ _)]
 rw [foldS_seq (hstep k (h := h2) (j := 2) (by simp [holds]) (by omega) _ _)]
 rw [foldS_seq (hstep k (h := h3) (j := 3) (by simp [holds]) (by omega) _ _)]
 rw [foldS_seq (hstep k (h := h4) (j := 4) (by simp [holds]) (by omega) _ _)]
 rw [foldS_seq (hstep k (h := h5) (j := 5) (by simp [holds]) (by omega) _ _)]
 rw [foldS_seq (hstep k (h := h6) (j := 6) (by simp [holds]) (by omega) _ _)]
 rw [foldS_seq (hstep k (h := h7) (j := 7) (by simp [holds]) (by omega) _ _)]
 rw [foldS_seq (hstep k (h := h8) (j := 8) (by simp [holds]) (by omega) _ _)]
 rfl
theorem itoa_w {n : Int} (k : Nat) (h : 0 ≤ n ∧ n < (10 : Int) ^ (k + 1)) : (wI n).length ≤ k + 2 := by
 unfold wI
 rw [itoa_pos (by omega), zC]
 have := dec_len10 k n.toNat (by
  have e : ((10 ^ (k + 1) : Nat) : Int) = (10 : Int) ^ (k + 1) := by push_cast; rfl
  omega)
 omega
theorem printL_len {s : StockK} (k : StokOk s) : (printL s).length ≤ 40000 := by
 have hl := flat_len lotL 20 s.1 fun x hx => by
  have hm := k.lots x hx
  have h1 := itoa_w (n := x.1) 3 (by omega)
  have h2 := itoa_w (n := x.2.1) 0 (by omega)
  have h3 := itoa_w (n := x.2.2.1) 0 (by omega)
  have h4 := itoa_w (n := x.2.2.2) 4 (by omega)
  simp only [lotL, lineL, lotW, List.flatMap_cons, List.flatMap_nil, List.length_append, zC, zL]
  omega
 have ht : ∀ (hs : List HoldK) (i : Nat), (∀ h ∈ hs, h ∈ holds s) → i + hs.length ≤ 9 → ((hs.zipIdx i).flatMap fun p => holdL p.2 p.1).length ≤ 2600 * hs.length := by
  intro hs
  induction hs with
  | nil => intro i _ _; simp
  | cons h hs ih =>
   intro i hm hi
   simp only [zC] at hi
   have hh := hm h (List.mem_cons_self ..)
   have h4 := k.h4 h hh
   have ih' := ih (i + 1) (fun x hx => hm x (List.mem_cons_of_mem _ hx)) (by omega)
   have hb := flat_len (heapL (i : Int)) 650 h fun x hx => by
    have hp := k.parts h hh x hx
    have hw := itoa_w (n := (i : Int)) 0 (by omega)
    have hf := flat_len ptL 16 x fun p hpm => by
     have hq := hp.2 p hpm
     have h1 := itoa_w (n := p.1) 3 (by omega)
     have h2 := itoa_w (n := p.2) 8 (by omega)
     unfold ptL
     rw [List.length_append]; omega
    rw [heapL_eq]
    simp only [List.length_append, zC, zL]; omega
   rw [List.zipIdx_cons, List.flatMap_cons, List.length_append, zC]
   have : (holdL i h).length ≤ 2600 := by unfold holdL; omega
   show (holdL i h).length + _ ≤ _
   omega
 have h9 := ht (holds s) 0 (fun h hh => hh) (by show 0 + 9 ≤ 9; omega)
 have e9 : (holds s).length = 9 := rfl
 have h40 := k.l40
 unfold printL
 rw [List.length_append]
 omega
theorem parse_print {s : StockK} (h : chkE s = 0) : parseB (ofL (printL s)) = (s, (0, 0)) := by
 have k := chk_ok h
 unfold parseB
 have hlen := printL_len k
 rw [if_neg (by rw [ofL_size]; omega)]
 unfold linesB
 rw [ofL_data2, printL_lines, lns_lines _ (linesOf_no10 s)]
 unfold linesOf
 rw [List.map_append, foldS_seq (lots_fold k s.1 0 zeroS fun x hx => hx)]
 rw [show ((zeroS.1 ++ s.1, zeroS.2) : StockK) = (s.1, zeroS.2) from rfl, tail_fold k]
 show finS s = _
 unfold finS
 rw [if_pos h]
end Go.K
namespace Go.K
open Go.Sl Go.Sx Go.Proofs
def S4 : FuncId → Sp := fun g => match g with
 | 4 => { joins := [(5, [(.slot 34, .dat .bool)])] }
 | _ => {}
noncomputable def F4 (P : Program) (lf : Nat) (x : tt [(true, Yu)]) : Option (tt [(false, .bool)]) := fnF P (C10 P lf) S4 4 [(true, Yu)] [(false, .bool)] lf x
end Go.K
namespace Go.K
open Go.Sl Go.Sx Go.Proofs
noncomputable def G4 (lf : Nat) (x : Ys) : Option (Bool) :=
 ((G9 lf (x.1, (x.2.1, (x.2.2.1, (x.2.2.2.1, (x.2.2.2.2.1, (x.2.2.2.2.2.1, (x.2.2.2.2.2.2.1, (x.2.2.2.2.2.2.2.1, (x.2.2.2.2.2.2.2.2.1, x.2.2.2.2.2.2.2.2.2))))))))))).bind fun r15 => ((G10 lf (x.1, (x.2.1, (x.2.2.1, (x.2.2.2.1, (x.2.2.2.2.1, (x.2.2.2.2.2.1, (x.2.2.2.2.2.2.1, (x.2.2.2.2.2.2.2.1, (x.2.2.2.2.2.2.2.2.1, x.2.2.2.2.2.2.2.2.2))))))))))).bind fun r16 => jn (cond (!(r15.1.data.toList == r16.1.data.toList)) (some (.inl true)) (some (.inl (!(decide (r15.2 = r16.2)))))) (fun y17 : Bool => cond y17 (some false) (cond (!(decide (r15.2 = (0 : Int)))) (some true) (((G6 lf r15.1)).bind fun r18 => ((G8 lf ((x.1, (x.2.1, (x.2.2.1, (x.2.2.2.1, (x.2.2.2.2.1, (x.2.2.2.2.2.1, (x.2.2.2.2.2.2.1, (x.2.2.2.2.2.2.2.1, (x.2.2.2.2.2.2.2.2.1, x.2.2.2.2.2.2.2.2.2))))))))), (r18.1.1, (r18.1.2.1, (r18.1.2.2.1, (r18.1.2.2.2.1, (r18.1.2.2.2.2.1, (r18.1.2.2.2.2.2.1, (r18.1.2.2.2.2.2.2.1, (r18.1.2.2.2.2.2.2.2.1, (r18.1.2.2.2.2.2.2.2.2.1, r18.1.2.2.2.2.2.2.2.2.2)))))))))))).bind fun r19 => cond (decide (r18.2.2 = (0 : Int))) (cond (decide (r18.2.1 = (0 : Int))) (some r19) (some false)) (some false))))
theorem F4_G (lf : Nat) (x : Ys) : F4 Tryz.prog lf x = G4 lf x := by
 obtain ⟨_, ⟨_, ⟨_, ⟨_, ⟨_, ⟨_, ⟨_, ⟨_, ⟨_, _⟩⟩⟩⟩⟩⟩⟩⟩⟩ := x
 unfold G4
 (try simp only [← F6_G lf, ← F8_G lf, ← F9_G lf, ← F10_G lf, ← Lib.toList_data])
 kernel_rfl
end Go.K
namespace Go.K
open Go.Sl Go.Sx Go.Proofs
theorem same_ok {s : StockK} (k : StokOk s) : G8 LF (s, s) = some true :=
 G8_refl s (Nat.lt_of_le_of_lt k.l40 (by show 40 < 9223372036854775808; omega)) fun h hh => ⟨Nat.lt_of_le_of_lt (k.h4 h hh) (by show 4 < 9223372036854775808; omega), fun x hx => Nat.lt_of_le_of_lt (k.parts h hh x hx).1.2 (by show 40 < 9223372036854775808; omega)⟩
theorem print_same (s : StockK) : (if chkE s = 0 then (ofL (printL s), 0) else (bts [], chkE s) : ByteArray × Int) = if chkE s = 0 then (ofL (printL s), 0) else (bts [], 62) := by
 rcases chk_zero (s := s) with h | h
 ·rw [if_pos h, if_pos h]
 ·rw [h]
theorem G4_true (s : StockK) : G4 LF s = some true := by
 unfold G4
 rw [show ((s.1, (s.2.1, (s.2.2.1, (s.2.2.2.1, (s.2.2.2.2.1, (s.2.2.2.2.2.1, (s.2.2.2.2.2.2.1, (s.2.2.2.2.2.2.2.1, (s.2.2.2.2.2.2.2.2.1, s.2.2.2.2.2.2.2.2.2))))))))) : StockK) = s from rfl, G9_print, zB, G10_print, zB, print_same]
 by_cases h : chkE s = 0
 ·rw [if_pos h]
  have hb : ((ofL (printL s)).data.toList == (ofL (printL s)).data.toList) = true := by simp
  have e := same_ok (chk_ok h)
  dsimp only
  rw [hb, Bool.not_true, zF, jin, show decide ((0 : Int) = 0) = true from rfl, Bool.not_true, zF, zF, G6_parse, zB, parse_print h]
  refine Eq.trans (b := ((G8 LF (s, s)).bind fun r19 => cond (decide ((0 : Int) = (0 : Int))) (cond (decide ((0 : Int) = (0 : Int))) (some r19) (some false)) (some false))) rfl ?_
  rw [e, zB]
  rfl
 ·rw [if_neg h]
  rfl
end Go.K
namespace Go.Proofs
open Go.Shelf Go.RowKit Go.Lib
set_option maxHeartbeats 1000000 in
set_option maxRecDepth 100000 in
theorem Tryz.copyChk_used (b : Nat) (w : World) (h0 : w.cell? ⟨b, 0, none⟩ = some (.pointer (some ⟨b, 0, none⟩))) :
  Calls Tryz.prog 84 #[.pointer (some ⟨b, 0, none⟩)] w fun e w' => e = .returned (.tuple #[]) ∧ w' = w := by
 obtain ⟨j, hj, _⟩ := Option.map_eq_some_iff.1 (show (Tryz.prog.info? 73).map (·.size) = some 2 by kernel_rfl)
 go_enter Tryz.func84, Tryz.ntmps84
 go_wp2
 rw [Lib.run_neq_ptr_same w _ Tryz.underlying70 hj]
 go_wp2
 go_end0
 exact ⟨rfl, rfl⟩
set_option maxHeartbeats 1000000 in
set_option maxRecDepth 100000 in
theorem Tryz.copyChk_fresh (b : Nat) (w : World) (h0 : w.cell? ⟨b, 0, none⟩ = some (.pointer none)) (hsh : w.shape? b = some (73, 2)) (hfz : w.frozen? ⟨b, 0, none⟩ = false) :
  Calls Tryz.prog 84 #[.pointer (some ⟨b, 0, none⟩)] w fun e w' => e = .returned (.tuple #[]) ∧ w' = w.setCell ⟨b, 0, none⟩ (.pointer (some ⟨b, 0, none⟩)) := by
 obtain ⟨j, hj, hjs⟩ := Option.map_eq_some_iff.1 (show (Tryz.prog.info? 73).map (·.size) = some 2 by kernel_rfl)
 go_enter Tryz.func84, Tryz.ntmps84
 go_wp2
 rw [Lib.run_to_unsafe w ⟨b, 0, none⟩ Tryz.underlying70 Tryz.underlying159 hj (by rw [hjs]; decide) hsh (Nat.zero_lt_succ 1)]
 simp only [Result.andThen]
 rw [Oper.upon_value]
 go_wp2
 rw [run_callFunc_extern Tryz.func103 (by kernel_rfl) (by kernel_rfl) (by kernel_rfl) (e := Extern.AbiNoEscape.same) (by kernel_rfl)]
 rw [Lib.run_noEscape]
 simp only [Result.andThen]
 rw [Oper.upon_value]
 go_wp2
 rw [Lib.run_from_unsafe w ⟨b, 0, none⟩ Tryz.underlying159 Tryz.underlying70 hj hsh (show liesAt Tryz.prog Tryz.prog.depth 73 (2 / Tryz.prog.cellsOf 73) 0 73 1 = true by kernel_rfl)]
 simp only [Result.andThen]
 rw [Oper.upon_value]
 go_wp2
 go_end0
 exact ⟨rfl, rfl⟩
theorem Tryz.isBlank (W : World) (r : Nat) : FnGives Tryz.prog 21 #[] #[encR r] (.bool (Nat.beq r 32)) W := by
 unfold FnGives
 have e : Nat.beq r 32 = decide ((r : Int) = 32) := by
  cases h : Nat.beq r 32 with
  | true => have := zN h; simp; omega
  | false => have := Nat.ne_of_beq_eq_false h; simp; omega
 rw [e]
 go_enter Tryz.func21, Tryz.ntmps21
 go_wp2
 go_ret
 exact ⟨rfl, 0, rfl⟩
end Go.Proofs
namespace Go.Sx
open Go.Sl
section
variable {β : Type} {f : β → Value} {h h' : Zone} {L : List Atom} {w : World}
def getK : List (Int × β) → Int → Option β
 | [], _ => none
 | p :: D, k => bif p.1 == k then some p.2 else getK D k
def putK : List (Int × β) → Int → β → List (Int × β)
 | [], k, v => [(k, v)]
 | p :: D, k, v => bif decide (k < p.1) then (k, v) :: p :: D else bif k == p.1 then (k, v) :: D else p :: putK D k v
def Rise (D : List (Int × β)) : Prop := D.Pairwise fun p q => p.1 < q.1
theorem putK_mem : ∀ {D : List (Int × β)} {k : Int} {v : β}, Rise D → ∀ j u, (j, u) ∈ putK D k v ↔ (j = k ∧ u = v) ∨ (j ≠ k ∧ (j, u) ∈ D)
 | [], k, v, _, j, u => by simp only [putK, List.mem_singleton, Prod.mk.injEq, List.not_mem_nil, and_false, or_false]
 | p :: D, k, v, hr, j, u => by
  have hp := List.pairwise_cons.1 hr
  unfold putK
  by_cases h1 : k < p.1
  ·simp only [h1, decide_true, zT, List.mem_cons, Prod.mk.injEq]
   constructor
   ·rintro (h | h | h)
    ·exact .inl h
    ·refine .inr ⟨?_, .inl h⟩
     have : j = p.1 := by rw [← h]
     omega
    ·have := hp.1 _ h
     simp only at this
     exact .inr ⟨by omega, .inr h⟩
   ·rintro (h | ⟨_, h⟩)
    ·exact .inl h
    ·exact .inr h
  ·simp only [h1, decide_false, zF]
   by_cases h2 : k = p.1
   ·subst h2
    simp only [beq_self_eq_true, zT, List.mem_cons, Prod.mk.injEq]
    constructor
    ·rintro (h | h)
     ·exact .inl h
     ·have := hp.1 _ h
      simp only at this
      exact .inr ⟨by omega, .inr h⟩
    ·rintro (h | ⟨h, h' | h'⟩)
     ·exact .inl h
     ·exact absurd (by rw [← h']) h
     ·exact .inr h'
   ·have h3 : (k == p.1) = false := by simpa using h2
    simp only [h3, zF, List.mem_cons]
    rw [putK_mem hp.2]
    constructor
    ·rintro (h | h | ⟨h, h'⟩)
     ·refine .inr ⟨?_, .inl h⟩
      have : j = p.1 := by rw [← h]
      omega
     ·exact .inl h
     ·exact .inr ⟨h, .inr h'⟩
    ·rintro (h | ⟨h, h' | h'⟩)
     ·exact .inr (.inl h)
     ·exact .inl h'
     ·exact .inr (.inr ⟨h, h'⟩)
theorem putK_rise : ∀ {D : List (Int × β)} {k : Int} {v : β}, Rise D → Rise (putK D k v)
 | [], k, v, _ => List.pairwise_singleton _ _
 | p :: D, k, v, hr => by
  have hp := List.pairwise_cons.1 hr
  unfold putK
  by_cases h1 : k < p.1
  ·simp only [h1, decide_true, zT]
   exact List.pairwise_cons.2 ⟨fun q hq => by
    rcases List.mem_cons.1 hq with rfl | hq
    ·exact h1
    ·have := hp.1 q hq; simp only; omega, hr⟩
  ·simp only [h1, decide_false, zF]
   by_cases h2 : k = p.1
   ·subst h2
    simp only [beq_self_eq_true, zT]
    exact List.pairwise_cons.2 ⟨hp.1, hp.2⟩
   ·have h3 : (k == p.1) = false := by simpa using h2
    simp only [h3, zF]
    refine List.pairwise_cons.2 ⟨fun q hq => ?_, putK_rise hp.2⟩
    obtain ⟨j, u⟩ := q
    rcases (putK_mem hp.2 j u).1 hq with ⟨rfl, _⟩ | ⟨_, hq⟩
    ·simp only; omega
    ·exact hp.1 _ hq
theorem getK_mem : ∀ {D : List (Int × β)} {k : Int} {v : β}, Rise D → (getK D k = some v ↔ (k, v) ∈ D)
 | [], k, v, _ => by simp [getK]
 | p :: D, k, v, hr => by
  have hp := List.pairwise_cons.1 hr
  unfold getK
  by_cases h1 : p.1 = k
  ·subst h1
   simp only [beq_self_eq_true, zT, zI, List.mem_cons]
   constructor
   ·rintro rfl; exact .inl rfl
   ·rintro (h | h)
    ·rw [← h]
    ·have := hp.1 _ h; simp only at this; omega
  ·have h3 : (p.1 == k) = false := by simpa using h1
   simp only [h3, zF, List.mem_cons]
   rw [getK_mem hp.2]
   constructor
   ·exact .inr
   ·rintro (h | h)
    ·exact absurd (by rw [← h]) h1
    ·exact h
theorem getK_none {D : List (Int × β)} {k : Int} (hr : Rise D) (h : ∀ v, (k, v) ∉ D) : getK D k = none := by
 cases e : getK D k with
 | none => rfl
 | some v => exact absurd ((getK_mem hr).1 e) (h v)
theorem rise_ext : ∀ {D E : List (Int × β)}, Rise D → Rise E → (∀ p, p ∈ D ↔ p ∈ E) → D = E
 | [], [], _, _, _ => rfl
 | [], q :: E, _, _, h => by have := (h q).2 (by simp); cases this
 | p :: D, [], _, _, h => by have := (h p).1 (by simp); cases this
 | p :: D, q :: E, hD, hE, h => by
  have hp := List.pairwise_cons.1 hD
  have hq := List.pairwise_cons.1 hE
  have e : p = q := by
   rcases List.mem_cons.1 ((h p).1 (by simp)) with e | e
   ·exact e
   ·rcases List.mem_cons.1 ((h q).2 (by simp)) with e' | e'
    ·exact e'.symm
    ·have h1 := hq.1 _ e; have h2 := hp.1 _ e'; omega
  subst e
  congr 1
  refine rise_ext hp.2 hq.2 fun r => ?_
  have hr := h r
  simp only [List.mem_cons] at hr
  constructor
  ·intro hm
   rcases hr.1 (.inr hm) with e | e
   ·subst e; have := hp.1 _ hm; omega
   ·exact e
  ·intro hm
   rcases hr.2 (.inr hm) with e | e
   ·subst e; have := hq.1 _ hm; omega
   ·exact e
def ent (f : β → Value) (t : Int × β × Nat) : MapEntry := { key := .int .i64 t.1, val := f t.2.1, born := t.2.2 }
structure MapM (l : List (Int × β × Nat)) (clock : Nat) (D : List (Int × β)) : Prop where
 rise : Rise D
 keys : (l.map (·.1)).Nodup
 borns : (l.map (·.2.2)).Nodup
 old : ∀ t ∈ l, t.2.2 < clock
 mem : ∀ k v, (k, v) ∈ D ↔ ∃ b, (k, v, b) ∈ l
def mobj (f : β → Value) (l : List (Int × β × Nat)) (clock : Nat) : Obj := .map (l.map (ent f)).toArray clock
theorem MapM.nil : MapM ([] : List (Int × β × Nat)) 0 [] := ⟨List.Pairwise.nil, List.nodup_nil, List.nodup_nil, by simp, by simp⟩
def MapR (f : β → Value) (h : Zone) (o : Option Nat) (D : List (Int × β)) : Prop :=
 (o = none ∧ D = []) ∨ ∃ r l clock, o = some r ∧ h.blk r = some (mobj f l clock) ∧ MapM l clock D
theorem MapR.mono (k : h.le h') {o : Option Nat} {D : List (Int × β)} (s : MapR f h o D) : MapR f h' o D := by
 rcases s with s | ⟨r, l, clock, e, hb, hm⟩
 ·exact .inl s
 ·exact .inr ⟨r, l, clock, e, k.blk _ _ hb, hm⟩
theorem MapR.nil' (f : β → Value) (h : Zone) : MapR f h none [] := .inl ⟨rfl, rfl⟩
def mapA (f : β → Value) (r : Nat) (D : List (Int × β)) : Atom :=
 ⟨fun _ z => ∃ l clock, z = Hp.one r (mobj f l clock) ∧ MapM l clock D, fun _ _ _ _ e => e⟩
def Ty.map (f : β → Value) : Ty (List (Int × β)) where
 size := 1
 rep h cs D := ∃ o, cs = [.map o] ∧ MapR f h o D
 len := by rintro h cs x ⟨o, rfl, _⟩; rfl
 one := by rintro h cs x ⟨o, rfl, _⟩ v hv; simp only [List.mem_singleton] at hv; subst hv; rfl
 mono := by rintro h h' cs x k ⟨o, e, s⟩; exact ⟨o, e, s.mono k⟩
theorem mapRep {o : Option Nat} {D : List (Int × β)} (s : MapR f h o D) : (Ty.map f).rep h [.map o] D := ⟨o, rfl, s⟩
theorem _root_.Go.Sl.St.mapShare (s : St h L w) {j : Nat} {r : Nat} {D : List (Int × β)} (hj : L[j]? = some (mapA f r D)) :
  ∃ h', h.le h' ∧ St h' (L.set j emp) w ∧ MapR f h' (some r) D := by
 obtain ⟨h', x, hle, hx, hxb, hs⟩ := s.freeze hj
 obtain ⟨l, clock, rfl, hm⟩ := hx
 exact ⟨h', hle, hs, .inr ⟨r, l, clock, rfl, Hp.one_le.1 hxb, hm⟩⟩
theorem findNow_ent {k : Int} : ∀ (l : List (Int × β × Nat)) (i : Nat),
  (Instr.findNow (.int .i64) (.int .i64 k) (l.map (ent f)) i = some none ∧ ∀ v b, (k, v, b) ∉ l) ∨
  ∃ j v b, l[j]? = some (k, v, b) ∧ Instr.findNow (.int .i64) (.int .i64 k) (l.map (ent f)) i = some (some (i + j, f v))
 | [], i => .inl ⟨rfl, by simp⟩
 | (k', v', b') :: l, i => by
  by_cases e : k' = k
  ·subst e
   exact .inr ⟨0, v', b', rfl, by simp [Instr.findNow, Instr.sameNow, ent]⟩
  ·have e' : ¬ k = k' := fun h => e h.symm
   have e2 : (k == k') = false := by simpa using e'
   rcases findNow_ent l (i + 1) with ⟨h1, h2⟩ | ⟨j, v, b, h1, h2⟩
   ·refine .inl ⟨by simpa [Instr.findNow, Instr.sameNow, ent, e2] using h1, fun v b hm => ?_⟩
    rcases List.mem_cons.1 hm with h | h
    ·simp only [Prod.mk.injEq] at h; exact e' h.1
    ·exact h2 v b h
   ·refine ⟨j + 1, v, b, h1, ?_⟩ |> .inr
    have : i + (j + 1) = i + 1 + j := by omega
    rw [this]
    simpa [Instr.findNow, Instr.sameNow, ent, e2] using h2
theorem isKey_int (k : Int) : MapKept.IsKey (.int .i64) (.int .i64 k) := by simp [MapKept.IsKey]
theorem toList_mobj (l : List (Int × β × Nat)) : (l.map (ent f)).toArray.toList = l.map (ent f) := rfl
structure MapOK (P : Program) (t : TypeId) (z : Value) : Prop where
 ex : ∃ kt et, P.underlying t = some (.map kt et) ∧ P.underlying kt = some (.int .i64) ∧ ∀ w, (zeroValue et).run P w = .ok z w
theorem MapOK.of {P : Program} {t kt et : TypeId} {z : Value} (h1 : P.underlying t = some (.map kt et)) (h2 : P.underlying kt = some (.int .i64)) (h3 : runO P (zeroValue et) [] = some (z, [], [])) : MapOK P t z :=
 ⟨kt, et, h1, h2, fun w => runO_sound (w := w) _ h3 (by simp)⟩
def LookR (f : β → Value) (w : World) (o : Option Nat) (D : List (Int × β)) : Prop :=
 (o = none ∧ D = []) ∨ ∃ r l clock, o = some r ∧ w.heap[r]? = some (mobj f l clock) ∧ MapM l clock D
theorem St.blk (s : St h L w) {r : Nat} {o : Obj} (e : h.blk r = some o) : w.heap[r]? = some o := by
 obtain ⟨z, _, _, hb, _⟩ := s.sep
 exact hb _ _ e
theorem MapR.look {o : Option Nat} {D : List (Int × β)} (m : MapR f h o D) (s : St h L w) : LookR f w o D := by
 rcases m with m | ⟨r, l, clock, e, hb, hm⟩
 ·exact .inl m
 ·exact .inr ⟨r, l, clock, e, St.blk s hb, hm⟩
theorem LookR.drew {o : Option Nat} {D : List (Int × β)} (m : LookR f w o D) : LookR f w.drew o D := m
def lkK (D : List (Int × β)) (k : Int) (z : β) : β := (getK D k).getD z
def hasK (D : List (Int × β)) (k : Int) : Bool := (getK D k).isSome
theorem LookR.run {P : Program} {t : TypeId} {o : Option Nat} {D : List (Int × β)} {k : Int} {c : Bool} {z : β} (m : LookR f w o D) (hM : MapOK P t (f z)) :
  (Instr.lookup t (.map o) (.int .i64 k) c).run P w = .ok (bif c then .tuple #[f (lkK D k z), .bool (hasK D k)] else f (lkK D k z)) w := by
 obtain ⟨kt, et, h1, h2, h3⟩ := hM.ex
 rcases m with ⟨rfl, rfl⟩ | ⟨r, l, clock, rfl, hb, hm⟩
 ·have g : Instr.findNow (.int .i64) (.int .i64 k) (#[] : Array MapEntry).toList 0 = some none := rfl
  unfold Instr.lookup
  simp only [Sem.run_bind, run_underlying h1, Result.andThen_ok, Sem.run_pure, MapKept.run_checkKey h2 (isKey_int k), MapKept.run_findKey h2 g, h3, lkK, hasK, getK, Option.getD_none, Option.isSome_none]
  cases c <;> rfl
 ·unfold Instr.lookup
  rcases findNow_ent (f := f) (k := k) l 0 with ⟨g1, g2⟩ | ⟨j, v, b, g1, g2⟩
  ·have hn : getK D k = none := getK_none hm.rise fun v hv => by obtain ⟨b, hb⟩ := (hm.mem k v).1 hv; exact g2 v b hb
   simp only [Sem.run_bind, run_underlying h1, Result.andThen_ok, Sem.run_pure, MapKept.run_getObj_map hb, toList_mobj, MapKept.run_checkKey h2 (isKey_int k), MapKept.run_findKey h2 g1, h3, lkK, hasK, hn, Option.getD_none, Option.isSome_none]
   cases c <;> rfl
  ·have hn : getK D k = some v := (getK_mem hm.rise).2 ((hm.mem k v).2 ⟨b, List.mem_of_getElem? g1⟩)
   simp only [Sem.run_bind, run_underlying h1, Result.andThen_ok, Sem.run_pure, MapKept.run_getObj_map hb, toList_mobj, MapKept.run_checkKey h2 (isKey_int k), MapKept.run_findKey h2 g2, lkK, hasK, hn, Option.getD_some, Option.isSome_some]
   cases c <;> rfl
theorem modify_map {γ δ : Type} (g : γ → δ) (p : δ → δ) (q : γ → γ) (e : ∀ x, p (g x) = g (q x)) : ∀ (l : List γ) (j : Nat), (l.map g).modify j p = (l.modify j q).map g
 | [], j => by simp
 | x :: l, 0 => by simp [e]
 | x :: l, j + 1 => by simp [modify_map g p q e l j]
theorem mem_modify {γ : Type} {p : γ → γ} : ∀ {l : List γ} {j : Nat} {x : γ}, l[j]? = some x → ∀ y, y ∈ l.modify j p ↔ y = p x ∨ ∃ i, i ≠ j ∧ l[i]? = some y
 | [], j, x, h, y => by simp at h
 | a :: l, 0, x, h, y => by
  simp only [List.getElem?_cons_zero, zI] at h
  subst h
  simp only [List.modify_zero_cons, List.mem_cons]
  constructor
  ·rintro (h | h)
   ·exact .inl h
   ·obtain ⟨i, hi⟩ := List.getElem?_of_mem h
    exact .inr ⟨i + 1, by omega, by simpa using hi⟩
  ·rintro (h | ⟨i, hne, hi⟩)
   ·exact .inl h
   ·cases i with
    | zero => exact absurd rfl hne
    | succ i => exact .inr (List.mem_of_getElem? (by simpa using hi))
 | a :: l, j + 1, x, h, y => by
  simp only [List.getElem?_cons_succ] at h
  simp only [List.modify_succ_cons, List.mem_cons, mem_modify h y]
  constructor
  ·rintro (rfl | h | ⟨i, hne, hi⟩)
   ·exact .inr ⟨0, by omega, by simp⟩
   ·exact .inl h
   ·exact .inr ⟨i + 1, by omega, by simpa using hi⟩
  ·rintro (h | ⟨i, hne, hi⟩)
   ·exact .inr (.inl h)
   ·cases i with
    | zero => simp only [List.getElem?_cons_zero, zI] at hi; exact .inl hi.symm
    | succ i => exact .inr (.inr ⟨i, by omega, by simpa using hi⟩)
theorem key_inj : ∀ {l : List (Int × β × Nat)}, (l.map (·.1)).Nodup → ∀ {i j : Nat} {k : Int} {x y : β × Nat}, l[i]? = some (k, x) → l[j]? = some (k, y) → i = j := by
 intro l hn i j k x y hi hj
 have h1 : (l.map (·.1))[i]? = some k := by rw [List.getElem?_map, hi]; rfl
 have h2 : (l.map (·.1))[j]? = some k := by rw [List.getElem?_map, hj]; rfl
 exact (List.getElem?_inj (List.getElem?_eq_some_iff.1 h1).1 hn).1 (h1.trans h2.symm)
theorem map_modify_same {γ δ : Type} (g : γ → δ) (q : γ → γ) : ∀ (l : List γ) (j : Nat), (∀ x, l[j]? = some x → g (q x) = g x) → (l.modify j q).map g = l.map g
 | [], j, _ => by simp
 | x :: l, 0, e => by simp [e x (by simp)]
 | x :: l, j + 1, e => by simp [map_modify_same g q l j (fun y hy => e y (by simpa using hy))]
theorem MapM.put {l : List (Int × β × Nat)} {clock : Nat} {D : List (Int × β)} (m : MapM l clock D) {j : Nat} {k : Int} {u v : β} {b : Nat} (hj : l[j]? = some (k, u, b)) :
  MapM (l.modify j fun t => (k, v, t.2.2)) clock (putK D k v) := by
 refine ⟨putK_rise m.rise, ?_, ?_, fun t ht => ?_, fun k' v' => ?_⟩
 ·rw [map_modify_same]
  ·exact m.keys
  ·intro x hx; rw [hj] at hx; simp only [zI] at hx; subst hx; rfl
 ·rw [map_modify_same]
  ·exact m.borns
  ·intro x hx; rfl
 ·rcases (mem_modify hj t).1 ht with rfl | ⟨i, _, hi⟩
  ·exact m.old (k, u, b) (List.mem_of_getElem? hj)
  ·exact m.old _ (List.mem_of_getElem? hi)
 ·rw [putK_mem m.rise]
  constructor
  ·rintro (⟨rfl, rfl⟩ | ⟨hne, hm⟩)
   ·exact ⟨b, (mem_modify hj _).2 (.inl rfl)⟩
   ·obtain ⟨b', hb'⟩ := (m.mem _ _).1 hm
    obtain ⟨i, hi⟩ := List.getElem?_of_mem hb'
    refine ⟨b', (mem_modify hj _).2 (.inr ⟨i, fun e => ?_, hi⟩)⟩
    subst e; rw [hj] at hi; simp only [zI, Prod.mk.injEq] at hi; exact hne hi.1.symm
  ·rintro ⟨b', hb'⟩
   rcases (mem_modify hj _).1 hb' with e | ⟨i, hne, hi⟩
   ·simp only [Prod.mk.injEq] at e; exact .inl ⟨e.1, e.2.1⟩
   ·refine .inr ⟨fun e => hne ?_, (m.mem _ _).2 ⟨b', List.mem_of_getElem? hi⟩⟩
    subst e
    exact key_inj m.keys hi hj
theorem MapM.push {l : List (Int × β × Nat)} {clock : Nat} {D : List (Int × β)} (m : MapM l clock D) {k : Int} {v : β} (hk : ∀ v b, (k, v, b) ∉ l) :
  MapM (l ++ [(k, v, clock)]) (clock + 1) (putK D k v) := by
 refine ⟨putK_rise m.rise, ?_, ?_, fun t ht => ?_, fun k' v' => ?_⟩
 ·rw [List.map_append, List.nodup_append]
  refine ⟨m.keys, by simp, fun a ha b hb => ?_⟩
  obtain ⟨⟨k0, v0, b0⟩, ht, rfl⟩ := List.mem_map.1 ha
  simp only [List.map_cons, List.map_nil, List.mem_singleton] at hb
  subst hb
  intro e
  simp only at e
  subst e
  exact hk _ _ ht
 ·rw [List.map_append, List.nodup_append]
  refine ⟨m.borns, by simp, fun a ha b hb => ?_⟩
  obtain ⟨t, ht, rfl⟩ := List.mem_map.1 ha
  simp only [List.map_cons, List.map_nil, List.mem_singleton] at hb
  have := m.old _ ht
  omega
 ·rcases List.mem_append.1 ht with ht | ht
  ·have := m.old _ ht; omega
  ·simp only [List.mem_singleton] at ht; subst ht; simp
 ·rw [putK_mem m.rise]
  constructor
  ·rintro (⟨rfl, rfl⟩ | ⟨hne, hm⟩)
   ·exact ⟨clock, by simp⟩
   ·obtain ⟨b', hb'⟩ := (m.mem _ _).1 hm
    exact ⟨b', List.mem_append_left _ hb'⟩
  ·rintro ⟨b', hb'⟩
   rcases List.mem_append.1 hb' with hb' | hb'
   ·exact .inr ⟨fun e => hk v' b' (e ▸ hb'), (m.mem _ _).2 ⟨b', hb'⟩⟩
   ·simp only [List.mem_singleton, Prod.mk.injEq] at hb'; exact .inl ⟨hb'.1, hb'.2.1⟩
theorem run_put {P : Program} {t : TypeId} {z : Value} {r : Nat} {l : List (Int × β × Nat)} {clock : Nat} {D : List (Int × β)} {k : Int} {v : β} (hM : MapOK P t z) (hb : w.heap[r]? = some (mobj f l clock)) (m : MapM l clock D) :
  ∃ l' clock', (Instr.mapUpdate t (.map (some r)) (.int .i64 k) (f v)).run P w = .ok () { w with heap := w.heap.setIfInBounds r (mobj f l' clock') } ∧ MapM l' clock' (putK D k v) := by
 obtain ⟨kt, et, h1, h2, _⟩ := hM.ex
 rcases findNow_ent (f := f) (k := k) l 0 with ⟨g1, g2⟩ | ⟨j, u, b, g1, g2⟩
 ·refine ⟨l ++ [(k, v, clock)], clock + 1, ?_, m.push g2⟩
  unfold Instr.mapUpdate
  simp only [Sem.run_bind, run_underlying h1, Result.andThen_ok, MapKept.run_getObj_map hb, toList_mobj, MapKept.run_checkKey h2 (isKey_int k), MapKept.run_findKey h2 g1, MapKept.run_setObj_map _ hb]
  simp [mobj, ent]
 ·refine ⟨l.modify j fun t => (k, v, t.2.2), clock, ?_, m.put g1⟩
  have e1 : ((l.map (ent f)).toArray[0 + j]?.map (·.key)).getD (.int .i64 k) = .int .i64 k := by
   rw [Nat.zero_add]
   simp [g1, ent]
  unfold Instr.mapUpdate
  simp only [Sem.run_bind, run_underlying h1, Result.andThen_ok, MapKept.run_getObj_map hb, toList_mobj, MapKept.run_checkKey h2 (isKey_int k), MapKept.run_findKey h2 g2, MapKept.run_setObj_map _ hb, e1, MapKept.run_keyThatStays (isKey_int k)]
  rw [Nat.zero_add, List.modify_toArray, modify_map (ent f) _ (fun t => (k, v, t.2.2)) (fun x => rfl)]
  rfl
theorem _root_.Go.Sl.St.turn (s : St h L w) {j r : Nat} {A B : Atom} {o o' : Obj} (hj : L[j]? = some A) (hA : ∀ z, A.P h z → z = Hp.one r o) (hB : B.P h (Hp.one r o')) : St h (L.set j B) { w with heap := w.heap.setIfInBounds r o' } := by
 obtain ⟨x, hx, hxw, _, hset⟩ := s.focus hj
 have hx' := hA x hx
 subst hx'
 have h1 : w.heap[r]? = some o := Hp.one_le.1 hxw
 have h2 := MapKept.heap_set (o' := o') h1
 refine hset _ _ _ hB (Hp.one_le.2 h2.1) (fun k _ hne => h2.2 k fun e => ?_) (fun k o'' hk => ?_) rfl rfl rfl
 ·subst e; simp [Hp.one] at hne
 ·right; unfold Hp.one at hk ⊢; split at hk <;> simp_all
end
section
variable {β : Type} {f : β → Value} {h h' : Zone} {L : List Atom} {w : World}
variable {P : Program} {a : Act} {N : Nat} {fl : FL} {ds : List Deferred} {ε : Px} {R : Array Oper} {m : List Nat} {S : World → Prop} {K : Act → World → Prop} {pl : List (Nat × Bool)}
def lookAt (R : Array Oper) (N : Nat) (pl : List (Nat × Bool)) (fl : FL) : Option (Nat × Option Nat × TypeId × Option Nat × Int × Bool) :=
 match opAt R N pl fl with
 | some (i, o) => match o.op with
  | .lookup t x k c => match ev fl x, ev fl k with
   | .map r, .int .i64 n => some (i, o.dst, t, r, n, c)
   | _, _ => none
  | _ => none
 | none => none
theorem p_lookup {i : Nat} {d : Option Nat} {t : TypeId} {o : Option Nat} {k : Int} {c : Bool} {z : β} {D : List (Int × β)} (hf : Fr a N fl ds) (ho : lookAt R N pl fl = some (i, d, t, o, k, c)) (hM : MapOK P t (f z)) (hD : LookR f w o D)
  (kk : ∀ a', Fr a' N (putF fl d (bif c then .tuple #[f (lkK D k z), .bool (hasK D k)] else f (lkK D k z))) ds → (m.contains i = false → S w) ∧ wpPlan ε P R m S K pl.tail a' w) : wpPlan ε P R m S K pl a w := by
 unfold lookAt at ho
 cases h1 : opAt R N pl fl with
 | none => rw [h1] at ho; simp at ho
 | some q =>
  obtain ⟨i', op⟩ := q
  rw [h1] at ho
  simp only at ho
  split at ho
  ·rename_i t' x k' c' hop
   split at ho
   ·rename_i r n hx hk
    simp only [zI, Prod.mk.injEq] at ho
    obtain ⟨rfl, rfl, rfl, rfl, rfl, rfl⟩ := ho
    refine p_val hf h1 ?_ kk
    have := hD.run (P := P) (t := t') (k := n) (c := c') hM
    simp [execOp, hop, hx, hk, this, Result.andThen]
   ·cases ho
  ·cases ho
def putAt (R : Array Oper) (N : Nat) (pl : List (Nat × Bool)) (fl : FL) : Option (Nat × TypeId × Nat × Int × Value) :=
 match opAt R N pl fl with
 | some (i, o) => match o.op, o.dst with
  | .mapUpdate t m k v, none => match ev fl m, ev fl k with
   | .map (some r), .int .i64 n => some (i, t, r, n, ev fl v)
   | _, _ => none
  | .insert t m k v, none => match ev fl m, ev fl k with
   | .map (some r), .int .i64 n => some (i, t, r, n, ev fl v)
   | _, _ => none
  | _, _ => none
 | none => none
theorem putAt_run {i : Nat} {t : TypeId} {r : Nat} {k : Int} {v : Value} {w' : World} (ho : putAt R N pl fl = some (i, t, r, k, v)) (hst : (Instr.mapUpdate t (.map (some r)) (.int .i64 k) v).run P w = .ok () w') :
  ∃ o, opAt R N pl fl = some (i, o) ∧ o.dst = none ∧ (execOp (ev fl) o).run P w = .ok .skip w' := by
 unfold putAt at ho
 cases h1 : opAt R N pl fl with
 | none => rw [h1] at ho; simp at ho
 | some q =>
  obtain ⟨i', o⟩ := q
  rw [h1] at ho
  simp only at ho
  split at ho
  ·rename_i t' x k' v' hop hdst
   split at ho
   ·rename_i r' n hx hk
    simp only [zI, Prod.mk.injEq] at ho
    obtain ⟨rfl, rfl, rfl, rfl, rfl⟩ := ho
    exact ⟨o, rfl, hdst, by simp [execOp, hop, hx, hk, hst, Result.andThen]⟩
   ·cases ho
  ·rename_i t' x k' v' hop hdst
   split at ho
   ·rename_i r' n hx hk
    simp only [zI, Prod.mk.injEq] at ho
    obtain ⟨rfl, rfl, rfl, rfl, rfl⟩ := ho
    exact ⟨o, rfl, hdst, by simp [execOp, hop, hx, hk, hst, Result.andThen]⟩
   ·cases ho
  ·cases ho
theorem p_put {i j : Nat} {t : TypeId} {z : Value} {r : Nat} {k : Int} {v : β} {D : List (Int × β)} (hS : St h L w) (hf : Fr a N fl ds) (hj : L[j]? = some (mapA f r D)) (ho : putAt R N pl fl = some (i, t, r, k, f v)) (hM : MapOK P t z)
  (kk : ∀ w' a', St h (L.set j (mapA f r (putK D k v))) w' → Fr a' N fl ds → (m.contains i = false → S w') ∧ wpPlan ε P R m S K pl.tail a' w') : wpPlan ε P R m S K pl a w := by
 obtain ⟨x, ⟨l, clock, rfl, hm⟩, hxw, _, _⟩ := hS.focus hj
 obtain ⟨l', clock', hrun, hm'⟩ := run_put (k := k) (v := v) hM (Hp.one_le.1 hxw) hm
 obtain ⟨o, hop, hd, hex⟩ := putAt_run ho hrun
 refine p_skip hf hop hex fun a' hf' => ?_
 rw [hd] at hf'
 refine kk _ a' ?_ hf'
 obtain ⟨x, hx, hxw', _, hset⟩ := hS.focus hj
 have h1 : w.heap[r]? = some (mobj f l clock) := Hp.one_le.1 hxw
 obtain ⟨l2, c2, e2, _⟩ := hx
 subst e2
 have h2 := MapKept.heap_set (o' := mobj f l' clock') h1
 refine hset _ _ (Hp.one r (mobj f l' clock')) ⟨l', clock', rfl, hm'⟩ (Hp.one_le.2 h2.1) (fun k _ hne => h2.2 k fun e => ?_) (fun k o'' hk => ?_) rfl rfl rfl
 ·subst e; simp [Hp.one] at hne
 ·right; unfold Hp.one at hk ⊢; split at hk <;> simp_all
theorem p_makeMap {i : Nat} {d : Option Nat} (f : β → Value) (hS : St h L w) (hf : Fr a N fl ds) (he : ∀ b, newAt P R N pl fl b = some (i, d, .map #[] 0, .map (some b)))
  (k : ∀ b w' a', St h (mapA f b [] :: L) w' → Fr a' N (putF fl d (.map (some b))) ds → (m.contains i = false → S w') ∧ wpPlan ε P R m S K pl.tail a' w') : wpPlan ε P R m S K pl a w :=
 p_new (o := fun _ => .map #[] 0) (v := fun b => .map (some b)) hS hf he fun b w' a' hS' hf' => k b w' a' (hS'.conv (i := 0) rfl fun z hz => ⟨[], 0, hz, MapM.nil⟩) hf'
def iterA (f : β → Value) (b : Nat) (left : List (Int × β)) : Atom :=
 ⟨fun h z => (z = Hp.one b (.mapIter none 0 #[] 0) ∧ left = []) ∨ ∃ m l clock seen c0, ∃ D : List (Int × β), h.blk m = some (mobj f l clock) ∧ MapM l clock D ∧ z = Hp.one b (.mapIter (some m) clock seen c0) ∧ clock ≤ c0 ∧ left = (l.filter fun t => !seen.contains t.2.2).map (fun t => (t.1, t.2.1)),
  fun _ _ _ k e => e.imp (fun x => x) fun ⟨m, l, clock, seen, c0, D, e1, e2⟩ => ⟨m, l, clock, seen, c0, D, k.blk _ _ e1, e2⟩⟩
def iterE (f : β → Value) (b : Nat) (left : List (Int × β)) (k : Int) (v : β) : Atom :=
 ⟨fun h z => ∃ (m : Nat) (l : List (Int × β × Nat)) (clock : Nat) (seen : Array Nat) (born : Nat), ∃ D : List (Int × β), h.blk m = some (mobj f l clock) ∧ MapM l clock D ∧ z = Hp.one b (.mapIter (some m) clock (seen.push born) clock) ∧ (k, v, born) ∈ l ∧ left = (l.filter fun t => !(seen.push born).contains t.2.2).map (fun t => (t.1, t.2.1)),
  fun _ _ _ k ⟨m, l, clock, seen, born, D, e1, e2⟩ => ⟨m, l, clock, seen, born, D, k.blk _ _ e1, e2⟩⟩
theorem iterE_A {b : Nat} {left : List (Int × β)} {k : Int} {v : β} (z : Hp) (e : (iterE f b left k v).P h z) : (iterA f b left).P h z := by
 obtain ⟨m, l, clock, seen, born, D, e1, e2, e3, _, e4⟩ := e
 exact .inr ⟨m, l, clock, seen.push born, clock, D, e1, e2, e3, Nat.le_refl _, e4⟩
def rangeAt (R : Array Oper) (N : Nat) (pl : List (Nat × Bool)) (fl : FL) : Option (Nat × Option Nat × TypeId × Option Nat) :=
 match opAt R N pl fl with
 | some (i, o) => match o.op with
  | .range t x => match ev fl x with
   | .map r => some (i, o.dst, t, r)
   | _ => none
  | _ => none
 | none => none
theorem filter_none (l : List (Int × β × Nat)) : (l.filter fun t => !(#[] : Array Nat).contains t.2.2) = l := List.filter_eq_self.2 (fun _ _ => by simp)
theorem p_range {i : Nat} {d : Option Nat} {t : TypeId} {o : Option Nat} {z : Value} {D : List (Int × β)} (hS : St h L w) (hf : Fr a N fl ds) (ho : rangeAt R N pl fl = some (i, d, t, o)) (hM : MapOK P t z) (hD : MapR f h o D)
  (kk : ∀ b w' a' left, (∀ p, p ∈ left ↔ p ∈ D) → St h (iterA f b left :: L) w' → Fr a' N (putF fl d (.pointer (some ⟨b, 0, none⟩))) ds → (m.contains i = false → S w') ∧ wpPlan ε P R m S K pl.tail a' w') : wpPlan ε P R m S K pl a w := by
 obtain ⟨kt, et, h1, h2, _⟩ := hM.ex
 unfold rangeAt at ho
 cases e1 : opAt R N pl fl with
 | none => rw [e1] at ho; simp at ho
 | some q =>
  obtain ⟨i', op⟩ := q
  rw [e1] at ho
  simp only at ho
  split at ho
  ·rename_i t' x hop
   split at ho
   ·rename_i r hx
    simp only [zI, Prod.mk.injEq] at ho
    obtain ⟨rfl, rfl, rfl, rfl⟩ := ho
    rcases hD with ⟨rfl, rfl⟩ | ⟨r, l, clock, rfl, hb, hm⟩
    ·have hrun := run_range_nilMap (P := P) w t' kt et h1
     refine p_val hf e1 (by simp [execOp, hop, hx, hrun, Result.andThen]) fun a' hf' => kk _ _ a' [] (by simp) (hS.new _ _ (.inl ⟨rfl, rfl⟩)) hf'
    ·have hrun := run_range_map (P := P) w t' kt et r _ clock h1 (St.blk hS hb)
     refine p_val hf e1 (by simp [execOp, hop, hx, hrun, Result.andThen]) fun a' hf' => kk _ _ a' (l.map fun t => (t.1, t.2.1)) (fun p => ?_) (hS.new _ _ (.inr ⟨r, l, clock, #[], clock, D, hb, hm, rfl, Nat.le_refl _, congrArg (List.map fun t : Int × β × Nat => (t.1, t.2.1)) (filter_none l).symm⟩)) hf'
     obtain ⟨k, v⟩ := p
     rw [hm.mem, List.mem_map]
     constructor
     ·rintro ⟨⟨k', v', b'⟩, ht, e⟩; simp only [Prod.mk.injEq] at e; obtain ⟨rfl, rfl⟩ := e; exact ⟨b', ht⟩
     ·rintro ⟨b, hb'⟩; exact ⟨_, hb', rfl⟩
   ·cases ho
  ·cases ho
def nextAt (R : Array Oper) (N : Nat) (pl : List (Nat × Bool)) (fl : FL) : Option (Nat × Option Nat × Nat) :=
 match opAt R N pl fl with
 | some (i, o) => match o.op with
  | .next x false => match ev fl x with
   | .pointer (some ⟨b, 0, none⟩) => some (i, o.dst, b)
   | _ => none
  | _ => none
 | none => none
theorem p_next {i j b : Nat} {d : Option Nat} {left : List (Int × β)} (hS : St h L w) (hf : Fr a N fl ds) (ho : nextAt R N pl fl = some (i, d, b)) (hj : L[j]? = some (iterA f b left))
  (k0 : left = [] → ∀ a', Fr a' N (putF fl d (.tuple #[.bool false])) ds → (m.contains i = false → S w) ∧ wpPlan ε P R m S K pl.tail a' w)
  (k1 : ∀ (k : Int) (v : β) left' w' a', (∀ p, p ∈ left ↔ p = (k, v) ∨ p ∈ left') → left'.length < left.length → St h (L.set j (iterE f b left' k v)) w' → Fr a' N (putF fl d (.tuple #[.bool true, .int .i64 k, f v])) ds → (m.contains i = false → S w') ∧ wpPlan ε P R m S K pl.tail a' w') : wpPlan ε P R m S K pl a w := by
 unfold nextAt at ho
 cases e1 : opAt R N pl fl with
 | none => rw [e1] at ho; simp at ho
 | some q =>
  obtain ⟨i', op⟩ := q
  rw [e1] at ho
  simp only at ho
  split at ho
  ·rename_i x hop
   split at ho
   ·rename_i b' hx
    simp only [zI, Prod.mk.injEq] at ho
    obtain ⟨rfl, rfl, rfl⟩ := ho
    obtain ⟨x0, hx0, hxw, hdx, hset⟩ := hS.focus hj
    rcases hx0 with ⟨rfl, rfl⟩ | ⟨m', l, clock, seen, c0, D, hb, hm, rfl, hc, rfl⟩
    ·have hr : w.heap[b']? = some (.mapIter none 0 #[] 0) := Hp.one_le.1 hxw
     have hrun : (Instr.next (.pointer (some ⟨b', 0, none⟩)) false op.type).run P w = .ok (.tuple #[.bool false]) w := by
      simp only [Instr.next, getObj, Sem.run_bind, Sem.run, hr, Result.andThen]
      rfl
     exact p_val hf e1 (by simp [execOp, hop, hx, hrun, Result.andThen]) fun a' hf' => k0 rfl a' hf'
    ·have hr : w.heap[b']? = some (.mapIter (some m') clock seen c0) := Hp.one_le.1 hxw
     have hb' : w.heap[m']? = some (.map (l.map (ent f)).toArray clock) := St.blk hS hb
     have hne : m' ≠ b' := fun e => by
      subst e
      rcases hdx m' with e | e
      ·rw [hb] at e; cases e
      ·simp [Hp.one] at e
     have hleft : (leftOf (l.map (ent f)).toArray seen).toList = (l.filter fun t => !seen.contains t.2.2).map (ent f) := by
      unfold leftOf
      rw [Array.toList_filter, toList_mobj, List.filter_map]
      rfl
     rcases run_next_at (P := P) w op.type b' m' clock c0 seen _ clock hr hb' (fun x hx => by
       rw [toList_mobj] at hx
       obtain ⟨t, ht, rfl⟩ := List.mem_map.1 hx
       exact hm.old t ht) hc with ⟨h0, hrun⟩ | ⟨e, he, w1, hal, hrun⟩
     ·refine p_val hf e1 (by simp [execOp, hop, hx, hrun, Result.andThen]) fun a' hf' => k0 ?_ a' hf'
      have : (leftOf (l.map (ent f)).toArray seen).toList = [] := List.eq_nil_of_length_eq_zero (by simpa using h0)
      rw [hleft] at this
      simp only [List.map_eq_nil_iff] at this
      rw [this]; rfl
     ·rw [hleft] at he
      obtain ⟨⟨k, v, born⟩, ht, rfl⟩ := List.mem_map.1 he
      have htl : (k, v, born) ∈ l := (List.mem_filter.1 ht).1
      have hsn : seen.contains born = false := by simpa using (List.mem_filter.1 ht).2
      have hr1 : w1.heap[b']? = some (.mapIter (some m') clock seen c0) := by rcases hal with rfl | rfl <;> exact hr
      have h2 := MapKept.heap_set (o' := .mapIter (some m') clock (seen.push born) clock) hr1
      have hrun' : (Instr.next (.pointer (some ⟨b', 0, none⟩)) false op.type).run P w = .ok (.tuple #[.bool true, .int .i64 k, f v]) (Go.ChangeMaps.setBlock w1 b' (.mapIter (some m') clock (seen.push born) clock)) := hrun
      refine p_val hf e1 (by simp [execOp, hop, hx, hrun', Result.andThen]; rfl) fun a' hf' => k1 k v ((l.filter fun t => !(seen.push born).contains t.2.2).map fun t => (t.1, t.2.1)) _ a' (fun p => ?_) ?_ ?_ hf'
      ·simp only [List.mem_map, List.mem_filter]
       constructor
       ·rintro ⟨t, ⟨ht1, ht2⟩, rfl⟩
        by_cases hb2 : t.2.2 = born
        ·left
         have hi := List.getElem?_of_mem ht1
         have hj2 := List.getElem?_of_mem htl
         obtain ⟨i1, hi⟩ := hi
         obtain ⟨j1, hj2⟩ := hj2
         have g1 : (l.map (·.2.2))[i1]? = some born := by rw [List.getElem?_map, hi]; simp [hb2]
         have g2 : (l.map (·.2.2))[j1]? = some born := by rw [List.getElem?_map, hj2]; rfl
         have := (List.getElem?_inj (List.getElem?_eq_some_iff.1 g1).1 hm.borns).1 (g1.trans g2.symm)
         subst this
         rw [hi] at hj2
         simp only [zI] at hj2
         subst hj2; rfl
        ·refine .inr ⟨t, ⟨ht1, ?_⟩, rfl⟩
         rw [contains_push]
         simp only [Bool.not_or, za]
         exact ⟨ht2, by simpa using hb2⟩
       ·rintro (rfl | ⟨t, ⟨ht1, ht2⟩, rfl⟩)
        ·exact ⟨_, ⟨htl, by simpa using hsn⟩, rfl⟩
        ·refine ⟨t, ⟨ht1, ?_⟩, rfl⟩
         rw [contains_push] at ht2
         simp only [Bool.not_or, za] at ht2
         exact ht2.1
      ·have h3 := left_shrinks (l.map (ent f)).toArray seen (ent f (k, v, born)) (by rw [hleft]; exact List.mem_map.2 ⟨_, ht, rfl⟩)
       have hleft2 : (leftOf (l.map (ent f)).toArray (seen.push born)).toList = (l.filter fun t => !(seen.push born).contains t.2.2).map (ent f) := by
        unfold leftOf
        rw [Array.toList_filter, toList_mobj, List.filter_map]
        rfl
       have l1 := congrArg List.length hleft
       have l2 := congrArg List.length hleft2
       simp only [Array.length_toList, List.length_map] at l1 l2
       have e3 : (ent f (k, v, born)).born = born := rfl
       rw [e3, l1, l2] at h3
       simpa only [List.length_map] using h3
      ·have hz : (iterE f b' ((l.filter fun t => !(seen.push born).contains t.2.2).map fun t => (t.1, t.2.1)) k v).P h (Hp.one b' (.mapIter (some m') clock (seen.push born) clock)) := ⟨m', l, clock, seen, born, D, hb, hm, rfl, htl, rfl⟩
       have hw1 : ∀ k : Nat, w1.heap[k]? = w.heap[k]? := by rcases hal with rfl | rfl <;> exact fun _ => rfl
       refine hset _ _ _ hz (Hp.one_le.2 h2.1) (fun q _ hq => ?_) (fun q o'' hq => ?_) (by rcases hal with rfl | rfl <;> rfl) (by rcases hal with rfl | rfl <;> rfl) (by rcases hal with rfl | rfl <;> rfl)
       ·exact (h2.2 q fun e => by subst e; simp [Hp.one] at hq).trans (hw1 q)
       ·right; unfold Hp.one at hq ⊢; split at hq <;> simp_all
   ·cases ho
  ·cases ho
def entryAt (R : Array Oper) (N : Nat) (pl : List (Nat × Bool)) (fl : FL) : Option (Nat × Option Nat × Nat) :=
 match opAt R N pl fl with
 | some (i, o) => match o.op with
  | .entry x => match ev fl x with
   | .pointer (some ⟨b, 0, none⟩) => some (i, o.dst, b)
   | _ => none
  | _ => none
 | none => none
theorem p_entry {i j b : Nat} {d : Option Nat} {left : List (Int × β)} {k : Int} {v : β} (hS : St h L w) (hf : Fr a N fl ds) (ho : entryAt R N pl fl = some (i, d, b)) (hj : L[j]? = some (iterE f b left k v))
  (kk : ∀ a', Fr a' N (putF fl d (.tuple #[.int .i64 k, f v])) ds → (m.contains i = false → S w) ∧ wpPlan ε P R m S K pl.tail a' w) : wpPlan ε P R m S K pl a w := by
 unfold entryAt at ho
 cases e1 : opAt R N pl fl with
 | none => rw [e1] at ho; simp at ho
 | some q =>
  obtain ⟨i', op⟩ := q
  rw [e1] at ho
  simp only at ho
  split at ho
  ·rename_i x hop
   split at ho
   ·rename_i b' hx
    simp only [zI, Prod.mk.injEq] at ho
    obtain ⟨rfl, rfl, rfl⟩ := ho
    obtain ⟨x0, ⟨m', l, clock, seen, born, D, hb, hm, rfl, htl, rfl⟩, hxw, hdx, hset⟩ := hS.focus hj
    have hr : w.heap[b']? = some (.mapIter (some m') clock (seen.push born) clock) := Hp.one_le.1 hxw
    have hb' : w.heap[m']? = some (.map (l.map (ent f)).toArray clock) := St.blk hS hb
    have hrun : (Instr.entry (.pointer (some ⟨b', 0, none⟩))).run P w = .ok (.tuple #[.int .i64 k, f v]) w := run_entry_at (P := P) w b' m' clock seen _ clock (ent f (k, v, born)) hr hb' (by rw [toList_mobj]; exact List.mem_map.2 ⟨_, htl, rfl⟩) (by
     rw [toList_mobj, List.map_map]; exact hm.borns)
    exact p_val hf e1 (by simp [execOp, hop, hx, hrun, Result.andThen]) fun a' hf' => kk a' hf'
   ·cases ho
  ·cases ho
def uniK (D : List (Int × Bool)) (l : List (Int × Bool)) : List (Int × Bool) := l.foldl (fun a p => putK a p.1 true) D
theorem uniK_rise : ∀ {l D : List (Int × Bool)}, Rise D → Rise (uniK D l)
 | [], _, h => h
 | _ :: l, _, h => uniK_rise (l := l) (putK_rise h)
theorem uniK_mem : ∀ {l D : List (Int × Bool)}, Rise D → ∀ j u, (j, u) ∈ uniK D l ↔ (u = true ∧ ∃ v, (j, v) ∈ l) ∨ ((∀ v, (j, v) ∉ l) ∧ (j, u) ∈ D)
 | [], D, h, j, u => by simp [uniK]
 | p :: l, D, h, j, u => by
  show (j, u) ∈ uniK (putK D p.1 true) l ↔ _
  rw [uniK_mem (putK_rise h), putK_mem h]
  obtain ⟨k, x⟩ := p
  by_cases e : j = k
  ·subst e
   constructor
   ·rintro (⟨h1, v, h2⟩ | ⟨h1, ⟨_, h2⟩ | ⟨h2, _⟩⟩)
    ·exact .inl ⟨h1, v, List.mem_cons_of_mem _ h2⟩
    ·exact .inl ⟨h2, x, by simp⟩
    ·exact absurd rfl h2
   ·rintro (⟨h1, v, h2⟩ | ⟨h1, h2⟩)
    ·by_cases e2 : ∃ v, (j, v) ∈ l
     ·exact .inl ⟨h1, e2⟩
     ·exact .inr ⟨fun v hv => e2 ⟨v, hv⟩, .inl ⟨rfl, h1⟩⟩
    ·exact absurd (by simp) (h1 x)
  ·have hk : ∀ v, (j, v) ∈ (k, x) :: l ↔ (j, v) ∈ l := fun v => by simp [e]
   simp only [hk, e, false_and, ne_eq, not_false_eq_true, true_and, false_or]
theorem uniK_step {D left left' : List (Int × Bool)} {k : Int} {v : Bool} (h : Rise D) (e : ∀ p, p ∈ left ↔ p = (k, v) ∨ p ∈ left') : uniK D left = uniK (putK D k true) left' := by
 have e2 : uniK (putK D k true) left' = uniK D ((k, v) :: left') := rfl
 rw [e2]
 refine rise_ext (uniK_rise h) (uniK_rise h) fun p => ?_
 obtain ⟨j, u⟩ := p
 simp only [uniK_mem h, e, List.mem_cons]
theorem uniK_same {D left left' : List (Int × Bool)} (h : Rise D) (e : ∀ p, p ∈ left ↔ p ∈ left') : uniK D left = uniK D left' := by
 refine rise_ext (uniK_rise h) (uniK_rise h) fun p => ?_
 obtain ⟨j, u⟩ := p
 simp only [uniK_mem h, e]
theorem _root_.Go.Sl.St.mapRise (s : St h L w) {j r : Nat} {D : List (Int × β)} (hj : L[j]? = some (mapA f r D)) : Rise D := by
 obtain ⟨x, ⟨l, clock, rfl, hm⟩, _, _, _⟩ := s.focus hj
 exact hm.rise
theorem MapM.len {l : List (Int × β × Nat)} {clock : Nat} {D : List (Int × β)} (m : MapM l clock D) : l.length = D.length := by
 have h1 : (l.map fun t => (t.1, t.2.1)).length = D.length := by
  have hn1 : (l.map (·.1)).Nodup := m.keys
  have hn2 : (D.map (·.1)).Nodup := by
   have := m.rise
   unfold Rise at this
   rw [List.Nodup, List.pairwise_map]
   exact this.imp fun h e => by omega
  have e : ∀ k, k ∈ l.map (·.1) ↔ k ∈ D.map (·.1) := fun k => by
   simp only [List.mem_map]
   constructor
   ·rintro ⟨⟨k', v, b⟩, ht, rfl⟩; exact ⟨(k', v), (m.mem _ _).2 ⟨b, ht⟩, rfl⟩
   ·rintro ⟨⟨k', v⟩, ht, rfl⟩; obtain ⟨b, hb⟩ := (m.mem _ _).1 ht; exact ⟨(k', v, b), hb, rfl⟩
  have := ((List.perm_ext_iff_of_nodup hn1 hn2).2 e).length_eq
  simpa using this
 simpa using h1
end
end Go.Sx
namespace Go.Sx
open Go.Sl
structure Part where
 lot : Int
 mass : Int
 deriving DecidableEq
def PartT : Ty Part := Ty.flat 2 (fun p => [.int .i64 p.lot, .int .i64 p.mass]) (fun _ => rfl) (fun _ => rfl)
structure Lot where
 id : Int
 owner : Int
 grade : Int
 wet : Int
 deriving DecidableEq
def LotT : Ty Lot := Ty.flat 4 (fun p => [.int .i64 p.id, .int .i64 p.owner, .int .i64 p.grade, .int .i64 p.wet]) (fun _ => rfl) (fun _ => rfl)
structure Deed where
 kind : Int
 lot : Int
 frm : Int
 «to» : Int
 mass : Int
 deriving DecidableEq
def DeedT : Ty Deed := Ty.flat 5 (fun p => [.int .i64 p.kind, .int .i64 p.lot, .int .i64 p.frm, .int .i64 p.to, .int .i64 p.mass]) (fun _ => rfl) (fun _ => rfl)
end Go.Sx
