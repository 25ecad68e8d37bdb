/-
  A part of the walk and of the plain law of one given statement. No condition.
-/
import Derived.Test.YtlkffcddfpghkaaGreatDoorRG
import Derived.Test.YtlkffcddfpghkaaGreatDoorProg
import Derived.Test.YtlkffcddfpghkaaGreatDoorRN13
import Derived.Test.YtlkffcddfpghkaaGreatDoorK7
import Derived.Test.YtlkffcddfpghkaaGreatDoorG3
import Derived.Shelf.Sort.Plain
import Derived.Shelf.Slices.In.SortNone
import Derived.Shelf.SlicesG.CompactI
import Derived.Shelf.Spec.SlicesGrow
import Derived.Sort.OwnSortedInts
import Derived.Shelf.Strings.OnBuilder
import Derived.Lib.Join
import Derived.WalkKit
import Derived.Test.YtlkffcddfpghkaaGreatDoorSh
import Derived.Shelf.RegionOpenPlain
import Derived.Lib.Slices
import Derived.Lib.Walk
import Derived.Laws.Externs
import Derived.ProofKit
import Derived.OpenShut
import Derived.Stop.Joined
import Derived.Deep.Slices
import Derived.SizedLaws
import Derived.Shelf.Vars
import Derived.Lay
import Derived.LaidMore
set_option linter.unusedVariables false
set_option maxRecDepth 100000
set_option maxHeartbeats 0
namespace Go.K
open Go.Sl Go.Sx Go.Proofs
def S107x : FuncId → Sp := fun g => match g with
  | 107 => { joins := [(8, [(.slot 57, .dat .bool)])], loops := [(4, [(.slot 16, .dat .i)])] }
  | 128 => { nz := [(11, [12])] }
  | _ => {}
noncomputable def F107x (P : Program) (lf : Nat) (x : tt [(true, (.pair .str (.pair (.sl (.pair .str (.pair .i .i))) (.sl Yq)))), (false, (.sl (.pair .str (.pair .i .i))))]) : Option (tt [(false, .bool)]) := fnF P (C33 P lf) S107x 107 [(true, (.pair .str (.pair (.sl (.pair .str (.pair .i .i))) (.sl Yq)))), (false, (.sl (.pair .str (.pair .i .i))))] [(false, .bool)] lf x
noncomputable def C107x (P : Program) (lf : Nat) : FuncId → Option Con := extC (C33 P lf) 107 (dataCon [(true, (.pair .str (.pair (.sl (.pair .str (.pair .i .i))) (.sl Yq)))), (false, (.sl (.pair .str (.pair .i .i))))] [(false, .bool)] (F107x P lf))
theorem F107x_eq (lf : Nat) (a0 : ByteArray) (a1 : Yf) (a2 : Yr) (a3 : Yf) : F107x Tryz.prog lf ((a0, (a1, a2)), a3) =
  cond (!(decide ((a3.length : Int) = (a1.length : Int)))) (some false) (iter lf (fun y8 : Int => cond (decide (y8 < (a3.length : Int))) (((getI a3 y8)).bind fun r9 => ((getI a1 y8)).bind fun r10 => jn (cond (!((ByteArray.toList r9.1) == (ByteArray.toList r10.1))) (some (.inl true)) (cond (decide (r9.2.1 > r9.2.2)) (some (.inl true)) (cond (decide (r9.2.1 < r10.2.1)) (some (.inl true)) (some (.inl (decide (r9.2.2 > r10.2.2))))))) (fun y11 : Bool => cond y11 (some (.inr false)) (some (.inl (w64 (y8 + (1 : Int))))))) (some (.inr true))) (0 : Int)) := by kernel_rfl
def S56x : FuncId → Sp := fun g => match g with
  | 56 => { loops := [(10, [(.slot 6, .own (.sl .i) 41), (.slot 26, .dat .i)]), (7, [(.slot 6, .own (.sl .i) 41), (.slot 20, .dat .i)]), (3, [(.slot 3, .own (.sl .i) 41), (.slot 14, .dat .i)])] }
  | 128 => { nz := [(11, [12])] }
  | _ => {}
noncomputable def F56x (P : Program) (lf : Nat) (x : tt [(false, (.sl (.sl .i)))]) : Option (tt [(false, (.sl (.sl .i)))]) := fnF P (C107x P lf) S56x 56 [(false, (.sl (.sl .i)))] [(false, (.sl (.sl .i)))] lf x
noncomputable def C56x (P : Program) (lf : Nat) : FuncId → Option Con := extC (C107x P lf) 56 (dataCon [(false, (.sl (.sl .i)))] [(false, (.sl (.sl .i)))] (F56x P lf))
theorem F56x_eq (lf : Nat) (a0 : (List (List Int))) : F56x Tryz.prog lf a0 =
  iter lf (fun y14 : ((List (List Int)) × Int) => cond (decide (y14.2 < (a0.length : Int))) (((getI a0 y14.2)).bind fun r15 => iter lf (fun y16 : ((List (List Int)) × Int) => cond (decide (y16.2 < (y14.1.length : Int))) (((getI y14.1 y16.2)).bind fun r17 => ((getI y14.1 y16.2)).bind fun r18 => iter lf (fun y19 : ((List (List Int)) × Int) => cond (decide (y19.2 < (r15.length : Int))) (((getI r15 y19.2)).bind fun r20 => ((appC ([] : List Int) r18)).bind fun r21 => ((appC r21 [r20])).bind fun r22 => ((appC y19.1 [r22])).bind fun r23 => some (.inl (r23, (w64 (y19.2 + (1 : Int)))))) (some (.inr (.inl (y19.1, (w64 (y16.2 + (1 : Int)))))))) (y16.1, (0 : Int))) (some (.inr (.inl (y16.1, (w64 (y14.2 + (1 : Int)))))))) (([] : List (List Int)), (0 : Int))) (some (.inr y14.1))) ([([] : List Int)], (0 : Int)) := by kernel_rfl
def S57x : FuncId → Sp := fun g => match g with
  | 57 => { joins := [(22, [(.slot 7, .own .bool 4)]), (8, [(.slot 10, .dat .i)])], loops := [(3, [(.slot 18, .dat .i), (.slot 7, .own .bool 4)])] }
  | 128 => { nz := [(11, [12])] }
  | _ => {}
noncomputable def F57x (P : Program) (lf : Nat) (x : tt [(false, (.sl (.pair .str (.pair .i .i)))), (true, (.sl Yp)), (false, (.sl .i))]) : Option (tt [(false, .bool)]) := fnF P (C56x P lf) S57x 57 [(false, (.sl (.pair .str (.pair .i .i)))), (true, (.sl Yp)), (false, (.sl .i))] [(false, .bool)] lf x
noncomputable def C57x (P : Program) (lf : Nat) : FuncId → Option Con := extC (C56x P lf) 57 (dataCon [(false, (.sl (.pair .str (.pair .i .i)))), (true, (.sl Yp)), (false, (.sl .i))] [(false, .bool)] (F57x P lf))
theorem F57x_eq (lf : Nat) (a0 : Yf) (a1 : Yt) (a2 : (List Int)) : F57x Tryz.prog lf (a0, (a1, a2)) =
  ((mkC (a1.length : Int) false)).bind fun r95 => iter lf (fun y96 : (Int × (List Bool)) => cond (decide (y96.1 < (a1.length : Int))) (jn (((getI a1 y96.1)).bind fun r97 => jn (((F98 Tryz.prog lf r97.1)).bind fun r98 => cond r98 (((F111 Tryz.prog lf (a0, r97.2.2.2.1))).bind fun r99 => ((getI a2 r99)).bind fun r100 => some (.inl r100)) (some (.inl (0 : Int)))) (fun y101 : Int => cond (decide (r97.1 = (0 : Int))) (((getI y96.2 y96.1)).bind fun r102 => ((getI y96.2 y96.1)).bind fun r103 => ((setI y96.2 y96.1 true)).bind fun r104 => some (.inl r104)) (cond (decide (r97.1 = (1 : Int))) (((getI y96.2 y96.1)).bind fun r105 => ((getI y96.2 y96.1)).bind fun r106 => ((setI y96.2 y96.1 (decide (y101 < r97.2.2.2.2)))).bind fun r107 => some (.inl r107)) (cond (decide (r97.1 = (2 : Int))) (((getI y96.2 y96.1)).bind fun r108 => ((getI y96.2 y96.1)).bind fun r109 => ((setI y96.2 y96.1 (decide (y101 ≤ r97.2.2.2.2)))).bind fun r110 => some (.inl r110)) (cond (decide (r97.1 = (3 : Int))) (((getI y96.2 y96.1)).bind fun r111 => ((getI y96.2 y96.1)).bind fun r112 => ((setI y96.2 y96.1 (decide (y101 = r97.2.2.2.2)))).bind fun r113 => some (.inl r113)) (cond (decide (r97.1 = (4 : Int))) (((getI y96.2 r97.2.1)).bind fun r114 => ((getI y96.2 r97.2.1)).bind fun r115 => ((getI y96.2 y96.1)).bind fun r116 => ((getI y96.2 y96.1)).bind fun r117 => ((setI y96.2 y96.1 (!r115))).bind fun r118 => some (.inl r118)) (cond (decide (r97.1 = (5 : Int))) (((getI y96.2 r97.2.1)).bind fun r119 => ((getI y96.2 r97.2.1)).bind fun r120 => cond r120 (((getI y96.2 r97.2.2.1)).bind fun r121 => ((getI y96.2 r97.2.2.1)).bind fun r122 => ((getI y96.2 y96.1)).bind fun r123 => ((getI y96.2 y96.1)).bind fun r124 => ((setI y96.2 y96.1 r122)).bind fun r125 => some (.inl r125)) (((getI y96.2 y96.1)).bind fun r126 => ((getI y96.2 y96.1)).bind fun r127 => ((setI y96.2 y96.1 false)).bind fun r128 => some (.inl r128))) (((getI y96.2 r97.2.1)).bind fun r129 => ((getI y96.2 r97.2.1)).bind fun r130 => cond r130 (((getI y96.2 y96.1)).bind fun r131 => ((getI y96.2 y96.1)).bind fun r132 => ((setI y96.2 y96.1 true)).bind fun r133 => some (.inl r133)) (((getI y96.2 r97.2.2.1)).bind fun r134 => ((getI y96.2 r97.2.2.1)).bind fun r135 => ((getI y96.2 y96.1)).bind fun r136 => ((getI y96.2 y96.1)).bind fun r137 => ((setI y96.2 y96.1 r135)).bind fun r138 => some (.inl r138)))))))))) (fun y139 : (List Bool) => some (.inl ((w64 (y96.1 + (1 : Int))), y139)))) (outR (((getI y96.2 (w64 ((y96.2.length : Int) - (1 : Int))))).bind fun r140 => ((getI y96.2 (w64 ((y96.2.length : Int) - (1 : Int))))).bind fun r141 => some r141))) ((0 : Int), r95) := by kernel_rfl
def S26x : FuncId → Sp := fun g => match g with
  | 26 => { loops := [(3, [(.slot 17, .dat .i), (.slot 7, .own .bool 4)])] }
  | 40 => { joins := [(6, [(.slot 10, .dat .bool)])], loops := [(7, [(.slot 10, .dat .bool), (.slot 37, .dat .i)]), (3, [(.slot 7, .own .bool 4), (.slot 16, .dat .i)])] }
  | 128 => { nz := [(11, [12])] }
  | _ => {}
noncomputable def F26x (P : Program) (lf : Nat) (x : tt [(true, (.pair .str (.pair (.sl (.pair .str (.pair .i .i))) (.sl Yq)))), (false, .i), (false, (.sl .i))]) : Option (tt [(false, (.sl .bool))]) := fnF P (C57x P lf) S26x 26 [(true, (.pair .str (.pair (.sl (.pair .str (.pair .i .i))) (.sl Yq)))), (false, .i), (false, (.sl .i))] [(false, (.sl .bool))] lf x
noncomputable def C26x (P : Program) (lf : Nat) : FuncId → Option Con := extC (C57x P lf) 26 (dataCon [(true, (.pair .str (.pair (.sl (.pair .str (.pair .i .i))) (.sl Yq)))), (false, .i), (false, (.sl .i))] [(false, (.sl .bool))] (F26x P lf))
theorem F26x_eq (lf : Nat) (a0 : ByteArray) (a1 : Yf) (a2 : Yr) (a3 : Int) (a4 : (List Int)) : F26x Tryz.prog lf ((a0, (a1, a2)), (a3, a4)) =
  iter lf (fun y41 : ((List Bool) × Int) => cond (decide (y41.2 < (a2.length : Int))) (((getI a2 y41.2)).bind fun r42 => jn (((F126 Tryz.prog lf (a3, (r42.2.1, r42.2.2.1)))).bind fun r43 => cond r43 (((F57x Tryz.prog lf (a1, (r42.2.2.2.1, a4)))).bind fun r44 => some (.inl r44)) (some (.inl false))) (fun y45 : Bool => iter lf (fun y46 : (Bool × Int) => cond (decide (y46.2 < (r42.2.2.2.2.2.length : Int))) (((getI r42.2.2.2.2.2 y46.2)).bind fun r47 => ((F37 Tryz.prog lf ((a0, (a1, a2)), r47))).bind fun r48 => ((getI y41.1 r48)).bind fun r49 => ((getI y41.1 r48)).bind fun r50 => cond r50 (some (.inl (false, (w64 (y46.2 + (1 : Int)))))) (some (.inl (y46.1, (w64 (y46.2 + (1 : Int))))))) (outR (((appC y41.1 [y46.1])).bind fun r51 => some (.inl (r51, (w64 (y41.2 + (1 : Int)))))))) (y45, (0 : Int)))) (outR (iter lf (fun y52 : (Int × (List Bool)) => cond (decide (y52.1 < (a2.length : Int))) (((getI a2 y52.1)).bind fun r53 => ((getI y52.2 y52.1)).bind fun r54 => ((getI y52.2 y52.1)).bind fun r55 => cond (!r55) (((getI y52.2 y52.1)).bind fun r56 => ((getI y52.2 y52.1)).bind fun r57 => ((setI y52.2 y52.1 true)).bind fun r58 => some (.inl ((w64 (y52.1 + (1 : Int))), r58))) (((F57x Tryz.prog lf (a1, (r53.2.2.2.2.1, a4)))).bind fun r59 => ((getI y52.2 y52.1)).bind fun r60 => ((getI y52.2 y52.1)).bind fun r61 => ((setI y52.2 y52.1 r59)).bind fun r62 => some (.inl ((w64 (y52.1 + (1 : Int))), r62)))) (some (.inr y52.2))) ((0 : Int), y41.1)))) (([] : List Bool), (0 : Int)) := by kernel_rfl
def S40x : FuncId → Sp := fun g => match g with
  | 40 => { joins := [(6, [(.slot 10, .dat .bool)])], loops := [(7, [(.slot 10, .dat .bool), (.slot 37, .dat .i)]), (3, [(.slot 7, .own .bool 4), (.slot 16, .dat .i)])] }
  | 128 => { nz := [(11, [12])] }
  | _ => {}
noncomputable def F40x (P : Program) (lf : Nat) (x : tt [(true, (.pair .str (.pair (.sl (.pair .str (.pair .i .i))) (.sl Yq)))), (false, .i), (false, (.sl .i))]) : Option (tt [(false, (.sl .bool))]) := fnF P (C26x P lf) S40x 40 [(true, (.pair .str (.pair (.sl (.pair .str (.pair .i .i))) (.sl Yq)))), (false, .i), (false, (.sl .i))] [(false, (.sl .bool))] lf x
noncomputable def C40x (P : Program) (lf : Nat) : FuncId → Option Con := extC (C26x P lf) 40 (dataCon [(true, (.pair .str (.pair (.sl (.pair .str (.pair .i .i))) (.sl Yq)))), (false, .i), (false, (.sl .i))] [(false, (.sl .bool))] (F40x P lf))
theorem F40x_eq (lf : Nat) (a0 : ByteArray) (a1 : Yf) (a2 : Yr) (a3 : Int) (a4 : (List Int)) : F40x Tryz.prog lf ((a0, (a1, a2)), (a3, a4)) =
  iter lf (fun y18 : ((List Bool) × Int) => cond (decide (y18.2 < (a2.length : Int))) (((getI a2 y18.2)).bind fun r19 => jn (((F126 Tryz.prog lf (a3, (r19.2.1, r19.2.2.1)))).bind fun r20 => cond r20 (((F57x Tryz.prog lf (a1, (r19.2.2.2.1, a4)))).bind fun r21 => some (.inl r21)) (some (.inl false))) (fun y22 : Bool => iter lf (fun y23 : (Bool × Int) => cond (decide (y23.2 < (r19.2.2.2.2.2.length : Int))) (((getI r19.2.2.2.2.2 y23.2)).bind fun r24 => ((F37 Tryz.prog lf ((a0, (a1, a2)), r24))).bind fun r25 => ((getI y18.1 r25)).bind fun r26 => ((getI y18.1 r25)).bind fun r27 => cond r27 (some (.inl (false, (w64 (y23.2 + (1 : Int)))))) (some (.inl (y23.1, (w64 (y23.2 + (1 : Int))))))) (outR (((appC y18.1 [y23.1])).bind fun r28 => some (.inl (r28, (w64 (y18.2 + (1 : Int)))))))) (y22, (0 : Int)))) (some (.inr y18.1))) (([] : List Bool), (0 : Int)) := by kernel_rfl
def S28x : FuncId → Sp := fun g => match g with
  | 28 => { joins := [(5, [(.slot 20, .dat .bool)])], loops := [(2, [(.slot 9, .dat .i)])] }
  | 128 => { nz := [(11, [12])] }
  | _ => {}
noncomputable def F28x (P : Program) (lf : Nat) (x : tt [(false, (.sl .bool)), (false, .i)]) : Option (tt [(false, .bool)]) := fnF P (C40x P lf) S28x 28 [(false, (.sl .bool)), (false, .i)] [(false, .bool)] lf x
noncomputable def C28x (P : Program) (lf : Nat) : FuncId → Option Con := extC (C40x P lf) 28 (dataCon [(false, (.sl .bool)), (false, .i)] [(false, .bool)] (F28x P lf))
theorem F28x_eq (lf : Nat) (a0 : (List Bool)) (a1 : Int) : F28x Tryz.prog lf (a0, a1) =
  iter lf (fun y5 : Int => cond (decide (y5 < (a0.length : Int))) (((getI a0 y5)).bind fun r6 => jn (cond (!r6) (some (.inl (!(decide (y5 = a1))))) (some (.inl false))) (fun y7 : Bool => cond y7 (some (.inr false)) (some (.inl (w64 (y5 + (1 : Int))))))) (some (.inr true))) (0 : Int) := by kernel_rfl
def S148x : FuncId → Sp := fun g => match g with
  | 148 => { joins := [(2, [(.slot 8, .dat .bool)])] }
  | 128 => { nz := [(11, [12])] }
  | _ => {}
noncomputable def F148x (P : Program) (lf : Nat) (x : tt [(false, .bool), (false, .bool)]) : Option (tt [(false, .i)]) := fnF P (C28x P lf) S148x 148 [(false, .bool), (false, .bool)] [(false, .i)] lf x
noncomputable def C148x (P : Program) (lf : Nat) : FuncId → Option Con := extC (C28x P lf) 148 (dataCon [(false, .bool), (false, .bool)] [(false, .i)] (F148x P lf))
theorem F148x_eq (lf : Nat) (a0 : Bool) (a1 : Bool) : F148x Tryz.prog lf (a0, a1) =
  jn (cond a0 (some (.inl a1)) (some (.inl false))) (fun y3 : Bool => cond y3 (some (2 : Int)) (cond a0 (some (1 : Int)) (some (0 : Int)))) := by kernel_rfl
def S149x : FuncId → Sp := fun g => match g with
  | 149 => { joins := [(5, [(.slot 26, .dat .bool)])] }
  | 128 => { nz := [(11, [12])] }
  | _ => {}
noncomputable def F149x (P : Program) (lf : Nat) (x : tt [(true, (.pair .str (.pair (.sl (.pair .str (.pair .i .i))) (.sl Yq)))), (false, .i), (false, .bool), (false, .i), (false, (.sl (.pair .str (.pair .i .i))))]) : Option (tt [(false, .i)]) := fnF P (C148x P lf) S149x 149 [(true, (.pair .str (.pair (.sl (.pair .str (.pair .i .i))) (.sl Yq)))), (false, .i), (false, .bool), (false, .i), (false, (.sl (.pair .str (.pair .i .i))))] [(false, .i)] lf x
noncomputable def C149x (P : Program) (lf : Nat) : FuncId → Option Con := extC (C148x P lf) 149 (dataCon [(true, (.pair .str (.pair (.sl (.pair .str (.pair .i .i))) (.sl Yq)))), (false, .i), (false, .bool), (false, .i), (false, (.sl (.pair .str (.pair .i .i))))] [(false, .i)] (F149x P lf))
theorem F149x_eq (lf : Nat) (a0 : ByteArray) (a1 : Yf) (a2 : Yr) (a3 : Int) (a4 : Bool) (a5 : Int) (a6 : Yf) : F149x Tryz.prog lf ((a0, (a1, a2)), (a3, (a4, (a5, a6)))) =
  ((F32 Tryz.prog lf (a0, (a1, a2)))).bind fun r12 => cond (!(decide (r12 = (0 : Int)))) (some r12) (jn (cond a4 (((F126 Tryz.prog lf (a3, ((0 : Int), (w64 ((a2.length : Int) - (1 : Int))))))).bind fun r13 => some (.inl (!r13))) (some (.inl false))) (fun y14 : Bool => cond y14 (some (47 : Int)) (((F126 Tryz.prog lf (a5, ((0 : Int), (100000 : Int))))).bind fun r15 => cond (!r15) (some (45 : Int)) (((F107x Tryz.prog lf ((a0, (a1, a2)), a6))).bind fun r16 => cond (!r16) (some (44 : Int)) (some (0 : Int)))))) := by kernel_rfl
def S27x : FuncId → Sp := fun g => match g with
  | 128 => { nz := [(11, [12])] }
  | _ => {}
noncomputable def F27x (P : Program) (lf : Nat) (x : tt [(true, (.pair .str (.pair (.sl (.pair .str (.pair .i .i))) (.sl Yq)))), (false, (.sl (.pair .str (.pair .i .i))))]) : Option (tt [(false, (.sl (.sl .i)))]) := fnF P (C149x P lf) S27x 27 [(true, (.pair .str (.pair (.sl (.pair .str (.pair .i .i))) (.sl Yq)))), (false, (.sl (.pair .str (.pair .i .i))))] [(false, (.sl (.sl .i)))] lf x
noncomputable def C27x (P : Program) (lf : Nat) : FuncId → Option Con := extC (C149x P lf) 27 (dataCon [(true, (.pair .str (.pair (.sl (.pair .str (.pair .i .i))) (.sl Yq)))), (false, (.sl (.pair .str (.pair .i .i))))] [(false, (.sl (.sl .i)))] (F27x P lf))
theorem F27x_eq (lf : Nat) (a0 : ByteArray) (a1 : Yf) (a2 : Yr) (a3 : Yf) : F27x Tryz.prog lf ((a0, (a1, a2)), a3) =
  ((F109 Tryz.prog lf (a0, (a1, a2)))).bind fun r7 => ((F108 Tryz.prog lf (a3, r7))).bind fun r8 => ((F56x Tryz.prog lf r8)).bind fun r9 => some r9 := by kernel_rfl
def S150x : FuncId → Sp := fun g => match g with
  | 128 => { nz := [(11, [12])] }
  | _ => {}
noncomputable def F150x (P : Program) (lf : Nat) (x : tt [(false, .bool)]) : Option (tt [(false, .i)]) := fnF P (C27x P lf) S150x 150 [(false, .bool)] [(false, .i)] lf x
noncomputable def C150x (P : Program) (lf : Nat) : FuncId → Option Con := extC (C27x P lf) 150 (dataCon [(false, .bool)] [(false, .i)] (F150x P lf))
theorem F150x_eq (lf : Nat) (a0 : Bool) : F150x Tryz.prog lf a0 =
  cond a0 (some (0 : Int)) (some (1 : Int)) := by kernel_rfl
def S151x : FuncId → Sp := fun g => match g with
  | 151 => { loops := [(4, [(.slot 7, .dat .bool), (.slot 8, .dat .bool), (.slot 15, .dat .i)])] }
  | 128 => { nz := [(11, [12])] }
  | _ => {}
noncomputable def F151x (P : Program) (lf : Nat) (x : tt [(true, (.pair .str (.pair (.sl (.pair .str (.pair .i .i))) (.sl Yq)))), (false, .i), (false, (.sl (.pair .str (.pair .i .i))))]) : Option (tt [(false, .i)]) := fnF P (C150x P lf) S151x 151 [(true, (.pair .str (.pair (.sl (.pair .str (.pair .i .i))) (.sl Yq)))), (false, .i), (false, (.sl (.pair .str (.pair .i .i))))] [(false, .i)] lf x
noncomputable def C151x (P : Program) (lf : Nat) : FuncId → Option Con := extC (C150x P lf) 151 (dataCon [(true, (.pair .str (.pair (.sl (.pair .str (.pair .i .i))) (.sl Yq)))), (false, .i), (false, (.sl (.pair .str (.pair .i .i))))] [(false, .i)] (F151x P lf))
theorem F151x_eq (lf : Nat) (a0 : ByteArray) (a1 : Yf) (a2 : Yr) (a3 : Int) (a4 : Yf) : F151x Tryz.prog lf ((a0, (a1, a2)), (a3, a4)) =
  ((F27x Tryz.prog lf ((a0, (a1, a2)), a4))).bind fun r13 => iter lf (fun y14 : (Bool × (Bool × Int)) => cond (decide (y14.2.2 < (r13.length : Int))) (((getI r13 y14.2.2)).bind fun r15 => ((F26x Tryz.prog lf ((a0, (a1, a2)), (a3, r15)))).bind fun r16 => ((F28x Tryz.prog lf (r16, (-1 : Int)))).bind fun r17 => cond r17 (some (.inl (true, (y14.2.1, (w64 (y14.2.2 + (1 : Int))))))) (some (.inl (y14.1, (true, (w64 (y14.2.2 + (1 : Int)))))))) (outR (((F148x Tryz.prog lf (y14.1, y14.2.1))).bind fun r18 => some r18))) (false, (false, (0 : Int))) := by kernel_rfl
def S70x : FuncId → Sp := fun g => match g with
  | 128 => { nz := [(11, [12])] }
  | _ => {}
noncomputable def F70x (P : Program) (lf : Nat) (x : tt [(true, (.pair .str (.pair (.sl (.pair .str (.pair .i .i))) (.sl Yq)))), (false, .i), (false, (.sl (.pair .str (.pair .i .i))))]) : Option (tt [(false, .i), (false, .i)]) := fnF P (C151x P lf) S70x 70 [(true, (.pair .str (.pair (.sl (.pair .str (.pair .i .i))) (.sl Yq)))), (false, .i), (false, (.sl (.pair .str (.pair .i .i))))] [(false, .i), (false, .i)] lf x
noncomputable def C70x (P : Program) (lf : Nat) : FuncId → Option Con := extC (C151x P lf) 70 (dataCon [(true, (.pair .str (.pair (.sl (.pair .str (.pair .i .i))) (.sl Yq)))), (false, .i), (false, (.sl (.pair .str (.pair .i .i))))] [(false, .i), (false, .i)] (F70x P lf))
theorem F70x_eq (lf : Nat) (a0 : ByteArray) (a1 : Yf) (a2 : Yr) (a3 : Int) (a4 : Yf) : F70x Tryz.prog lf ((a0, (a1, a2)), (a3, a4)) =
  ((F149x Tryz.prog lf ((a0, (a1, a2)), ((0 : Int), (false, (a3, a4)))))).bind fun r7 => cond (!(decide (r7 = (0 : Int)))) (some ((0 : Int), r7)) (((F151x Tryz.prog lf ((a0, (a1, a2)), (a3, a4)))).bind fun r8 => some (r8, (0 : Int))) := by kernel_rfl
def S66x : FuncId → Sp := fun g => match g with
  | 66 => { joins := [(7, [(.slot 41, .dat .bool)])], loops := [(18, [(.slot 10, .dat .bool), (.slot 11, .dat .bool), (.slot 59, .dat .i)]), (4, [(.slot 19, .dat .i)])] }
  | 128 => { nz := [(11, [12])] }
  | _ => {}
noncomputable def F66x (P : Program) (lf : Nat) (x : tt [(false, (.sl (.pair .str (.pair .i .i)))), (true, (.sl Yp))]) : Option (tt [(false, .i), (false, .i)]) := fnF P (C70x P lf) S66x 66 [(false, (.sl (.pair .str (.pair .i .i)))), (true, (.sl Yp))] [(false, .i), (false, .i)] lf x
noncomputable def C66x (P : Program) (lf : Nat) : FuncId → Option Con := extC (C70x P lf) 66 (dataCon [(false, (.sl (.pair .str (.pair .i .i)))), (true, (.sl Yp))] [(false, .i), (false, .i)] (F66x P lf))
theorem F66x_eq (lf : Nat) (a0 : Yf) (a1 : Yt) : F66x Tryz.prog lf (a0, a1) =
  cond (decide ((a0.length : Int) > (6 : Int))) (some ((0 : Int), (2 : Int))) (iter lf (fun y18 : Int => cond (decide (y18 < (a0.length : Int))) (((getI a0 y18)).bind fun r19 => jn (((F99 Tryz.prog lf r19.1)).bind fun r20 => cond (!r20) (some (.inl true)) (((F117 Tryz.prog lf (r19.2.1, r19.2.2))).bind fun r21 => cond (!r21) (some (.inl true)) (((F111 Tryz.prog lf (a0, r19.1))).bind fun r22 => some (.inl (decide (r22 < y18)))))) (fun y23 : Bool => cond y23 (some (.inr ((0 : Int), (44 : Int)))) (some (.inl (w64 (y18 + (1 : Int))))))) (outR (((F30 Tryz.prog lf (a0, a1))).bind fun r24 => cond (!(decide (r24 = (0 : Int)))) (some ((0 : Int), r24)) (((F108 Tryz.prog lf (a0, [a1]))).bind fun r25 => ((F119 Tryz.prog lf r25)).bind fun r26 => cond (decide (r26 > (4000 : Int))) (some ((0 : Int), (2 : Int))) (((F56x Tryz.prog lf r25)).bind fun r27 => iter lf (fun y28 : (Bool × (Bool × Int)) => cond (decide (y28.2.2 < (r27.length : Int))) (((getI r27 y28.2.2)).bind fun r29 => ((F57x Tryz.prog lf (a0, (a1, r29)))).bind fun r30 => cond r30 (some (.inl (true, (y28.2.1, (w64 (y28.2.2 + (1 : Int))))))) (some (.inl (y28.1, (true, (w64 (y28.2.2 + (1 : Int)))))))) (outR (((F148x Tryz.prog lf (y28.1, y28.2.1))).bind fun r31 => some (r31, (0 : Int))))) (false, (false, (0 : Int)))))))) (0 : Int)) := by kernel_rfl
def S65x : FuncId → Sp := fun g => match g with
  | 209 => { joins := [(12, [(.slot 7, .dat .i), (.slot 3, .own .i 3)])], loops := [(9, [(.slot 7, .dat .i), (.slot 3, .own .i 3)]), (3, [(.slot 4, .own .i 3), (.slot 13, .dat .i)]), (1, [(.slot 3, .own .i 3), (.cell 0 0 [1], .own .bool 4)])] }
  | 65 => { joins := [(7, [(.slot 40, .dat .bool)])], loops := [(4, [(.slot 18, .dat .i)])] }
  | 128 => { nz := [(11, [12])] }
  | _ => {}
noncomputable def F65x (P : Program) (lf : Nat) (x : tt [(false, (.sl (.pair .str (.pair .i .i)))), (true, (.sl Yp))]) : Option (tt [(false, .i), (false, .i)]) := fnF P (C66x P lf) S65x 65 [(false, (.sl (.pair .str (.pair .i .i)))), (true, (.sl Yp))] [(false, .i), (false, .i)] lf x
noncomputable def C65x (P : Program) (lf : Nat) : FuncId → Option Con := extC (C66x P lf) 65 (dataCon [(false, (.sl (.pair .str (.pair .i .i)))), (true, (.sl Yp))] [(false, .i), (false, .i)] (F65x P lf))
theorem F65x_eq (lf : Nat) (a0 : Yf) (a1 : Yt) : F65x Tryz.prog lf (a0, a1) =
  cond (decide ((a0.length : Int) > (6 : Int))) (some ((0 : Int), (2 : Int))) (iter lf (fun y72 : Int => cond (decide (y72 < (a0.length : Int))) (((getI a0 y72)).bind fun r73 => jn (((F94 Tryz.prog lf r73.1)).bind fun r74 => cond (!r74) (some (.inl true)) (((F112 Tryz.prog lf (r73.1, (r73.2.1, r73.2.2)))).bind fun r75 => cond (!r75) (some (.inl true)) (((subI a0 (0 : Int) y72)).bind fun r76 => ((F110 Tryz.prog lf (r76, r73.1))).bind fun r77 => some (.inl (decide (r77 ≥ (0 : Int))))))) (fun y78 : Bool => cond y78 (some (.inr ((0 : Int), (44 : Int)))) (some (.inl (w64 (y72 + (1 : Int))))))) (outR (((F29 Tryz.prog lf (a0, a1))).bind fun r79 => cond (!(decide (r79 = (0 : Int)))) (some ((0 : Int), r79)) (((F115 Tryz.prog lf (a0, [a1]))).bind fun r80 => ((F114 Tryz.prog lf r80)).bind fun r81 => cond (decide (r81 > (4000 : Int))) (some ((0 : Int), (2 : Int))) (((F131 Tryz.prog lf ())).bind fun r82 => ((mkC (r80.length : Int) (0 : Int))).bind fun r83 => iter lf (fun y84 : ((List Int) × (List Bool)) => iter lf (fun y85 : ((List Int) × Int) => cond (decide (y85.2 < (y84.1.length : Int))) (((getI y84.1 y85.2)).bind fun r86 => ((getI y84.1 y85.2)).bind fun r87 => ((getI r80 y85.2)).bind fun r88 => ((getI r88 r87)).bind fun r89 => ((appC y85.1 [r89])).bind fun r90 => some (.inl (r90, (w64 (y85.2 + (1 : Int)))))) (outR (((F147 Tryz.prog lf ((a0, y85.1), (a1, ())))).bind fun r91 => ((appC y84.2 [r91])).bind fun r92 => jn (iter lf (fun y93 : (Int × (List Int)) => cond (decide (y93.1 ≥ (0 : Int))) (((getI y93.2 y93.1)).bind fun r94 => ((getI y93.2 y93.1)).bind fun r95 => ((getI r80 y93.1)).bind fun r96 => cond (decide (r95 = (w64 ((r96.length : Int) - (1 : Int))))) (((getI y93.2 y93.1)).bind fun r97 => ((getI y93.2 y93.1)).bind fun r98 => ((setI y93.2 y93.1 (0 : Int))).bind fun r99 => some (.inl ((w64 (y93.1 - (1 : Int))), r99))) (some (.inr (.inl (y93.1, y93.2))))) (some (.inr (.inl (y93.1, y93.2))))) ((w64 ((r80.length : Int) - (1 : Int))), y84.1)) (fun y100 : (Int × (List Int)) => cond (decide (y100.1 < (0 : Int))) (outR (((F125 Tryz.prog lf r92)).bind fun r101 => some (r101, (0 : Int)))) (((getI y100.2 y100.1)).bind fun r102 => ((getI y100.2 y100.1)).bind fun r103 => ((getI y100.2 y100.1)).bind fun r104 => ((getI y100.2 y100.1)).bind fun r105 => ((setI y100.2 y100.1 (w64 (r103 + (1 : Int))))).bind fun r106 => some (.inl (r106, r92))))))) (([] : List Int), (0 : Int))) (r83, ([] : List Bool))))))) (0 : Int)) := by kernel_rfl
def S67x : FuncId → Sp := fun g => match g with
  | 209 => { joins := [(12, [(.slot 7, .dat .i), (.slot 3, .own .i 3)])], loops := [(9, [(.slot 7, .dat .i), (.slot 3, .own .i 3)]), (3, [(.slot 4, .own .i 3), (.slot 13, .dat .i)]), (1, [(.slot 3, .own .i 3), (.cell 0 0 [3, 1], .own .bool 4)])] }
  | 175 => { fz := [(4, [(.slot 6, .dat (.sl .i))])] }
  | 67 => { joins := [(2, [(.slot 10, .dat .i)])] }
  | 128 => { nz := [(11, [12])] }
  | _ => {}
noncomputable def F67x (P : Program) (lf : Nat) (x : tt [(true, (.pair .str (.pair (.sl (.pair .str (.pair .i .i))) (.sl Yq)))), (false, .i), (false, .i), (false, (.sl (.pair .str (.pair .i .i))))]) : Option (tt [(false, .i), (false, .i)]) := fnF P (C65x P lf) S67x 67 [(true, (.pair .str (.pair (.sl (.pair .str (.pair .i .i))) (.sl Yq)))), (false, .i), (false, .i), (false, (.sl (.pair .str (.pair .i .i))))] [(false, .i), (false, .i)] lf x
noncomputable def C67x (P : Program) (lf : Nat) : FuncId → Option Con := extC (C65x P lf) 67 (dataCon [(true, (.pair .str (.pair (.sl (.pair .str (.pair .i .i))) (.sl Yq)))), (false, .i), (false, .i), (false, (.sl (.pair .str (.pair .i .i))))] [(false, .i), (false, .i)] (F67x P lf))
theorem F67x_eq (lf : Nat) (a0 : ByteArray) (a1 : Yf) (a2 : Yr) (a3 : Int) (a4 : Int) (a5 : Yf) : F67x Tryz.prog lf ((a0, (a1, a2)), (a3, (a4, a5))) =
  jn (((F31 Tryz.prog lf (a0, (a1, a2)))).bind fun r77 => cond (!(decide (r77 = (0 : Int)))) (some (.inl r77)) (((F91 Tryz.prog lf (a3, ((0 : Int), (w64 ((a2.length : Int) - (1 : Int))))))).bind fun r78 => cond (!r78) (some (.inl (47 : Int))) (((F91 Tryz.prog lf (a4, ((0 : Int), (100000 : Int))))).bind fun r79 => cond (!r79) (some (.inl (45 : Int))) (((F173 Tryz.prog lf ((a0, (a1, a2)), a5))).bind fun r80 => cond (!r80) (some (.inl (44 : Int))) (some (.inl (0 : Int))))))) (fun y81 : Int => cond (!(decide (y81 = (0 : Int)))) (some ((0 : Int), y81)) (((F131 Tryz.prog lf ())).bind fun r82 => ((F116 Tryz.prog lf (a0, (a1, a2)))).bind fun r83 => ((F115 Tryz.prog lf (a5, r83))).bind fun r84 => ((mkC (r84.length : Int) (0 : Int))).bind fun r85 => iter lf (fun y86 : ((List Int) × (List Bool)) => iter lf (fun y87 : ((List Int) × Int) => cond (decide (y87.2 < (y86.1.length : Int))) (((getI y86.1 y87.2)).bind fun r88 => ((getI y86.1 y87.2)).bind fun r89 => ((getI r84 y87.2)).bind fun r90 => ((getI r90 r89)).bind fun r91 => ((appC y87.1 [r91])).bind fun r92 => some (.inl (r92, (w64 (y87.2 + (1 : Int)))))) (outR (((F130 Tryz.prog lf ((a0, (a1, a2)), (a4, (y87.1, ()))))).bind fun r93 => ((getI r93.1 a3)).bind fun r94 => ((appC y86.2 [r94])).bind fun r95 => jn (iter lf (fun y96 : (Int × (List Int)) => cond (decide (y96.1 ≥ (0 : Int))) (((getI y96.2 y96.1)).bind fun r97 => ((getI y96.2 y96.1)).bind fun r98 => ((getI r84 y96.1)).bind fun r99 => cond (decide (r98 = (w64 ((r99.length : Int) - (1 : Int))))) (((getI y96.2 y96.1)).bind fun r100 => ((getI y96.2 y96.1)).bind fun r101 => ((setI y96.2 y96.1 (0 : Int))).bind fun r102 => some (.inl ((w64 (y96.1 - (1 : Int))), r102))) (some (.inr (.inl (y96.1, y96.2))))) (some (.inr (.inl (y96.1, y96.2))))) ((w64 ((r84.length : Int) - (1 : Int))), y86.1)) (fun y103 : (Int × (List Int)) => cond (decide (y103.1 < (0 : Int))) (outR (((F125 Tryz.prog lf r95)).bind fun r104 => some (r104, (0 : Int)))) (((getI y103.2 y103.1)).bind fun r105 => ((getI y103.2 y103.1)).bind fun r106 => ((getI y103.2 y103.1)).bind fun r107 => ((getI y103.2 y103.1)).bind fun r108 => ((setI y103.2 y103.1 (w64 (r106 + (1 : Int))))).bind fun r109 => some (.inl (r109, r95))))))) (([] : List Int), (0 : Int))) (r85, ([] : List Bool)))) := by kernel_rfl
def S38x : FuncId → Sp := fun g => match g with
  | 38 => { joins := [(11, [(.cell 10 0, .oo .bool 49 4), (.cell 9 0, .oo .bool 49 4)]), (5, [(.slot 9, .bx 168 .bool 49 4), (.slot 10, .bx 168 .bool 49 4)]), (2, [(.slot 8, .dat .i)])], loops := [(14, [(.slot 14, .own (.pair .i (.pair .i .i)) 68), (.slot 75, .dat .i), (.cell 9 0, .dat (.sl (.sl .bool))), (.cell 10 0, .dat (.sl (.sl .bool)))]), (8, [(.slot 40, .dat .i), (.cell 10 0, .oo .bool 49 4), (.cell 9 0, .oo .bool 49 4)])], soft := [(10, [7, 18])], pl := [(10, .fr 0 (.fr 1 (.fr 2 (.fr 3 (.fr 4 (.fr 5 (.fr 6 (.fr 8 (.fr 9 (.fr 10 (.fr 11 (.fr 12 (.fr 15 (.fr 16 (.fr 17 (.fr 19 (.fr 20 (.fr 21 (.fr 22 (.fr 23 (.four 7 (.three 13 (.three 14 (.two 18 (.one 24 (.one 25 (.fr 26 (.one 27 (.fr 28 (.one 29 (.nil))))))) 24 (.one 18 (.one 25 (.fr 26 (.one 27 (.fr 28 (.one 29 (.nil)))))))) 18 (.two 14 (.one 24 (.one 25 (.fr 26 (.one 27 (.fr 28 (.one 29 (.nil))))))) 24 (.one 14 (.one 25 (.fr 26 (.one 27 (.fr 28 (.one 29 (.nil)))))))) 24 (.two 14 (.one 18 (.one 25 (.fr 26 (.one 27 (.fr 28 (.one 29 (.nil))))))) 18 (.one 14 (.one 25 (.fr 26 (.one 27 (.fr 28 (.one 29 (.nil))))))))) 18 (.two 13 (.two 14 (.one 24 (.one 25 (.fr 26 (.one 27 (.fr 28 (.one 29 (.nil))))))) 24 (.one 14 (.one 25 (.fr 26 (.one 27 (.fr 28 (.one 29 (.nil)))))))) 24 (.one 13 (.one 14 (.one 25 (.fr 26 (.one 27 (.fr 28 (.one 29 (.nil))))))))) 24 (.two 13 (.two 14 (.one 18 (.one 25 (.fr 26 (.one 27 (.fr 28 (.one 29 (.nil))))))) 18 (.one 14 (.one 25 (.fr 26 (.one 27 (.fr 28 (.one 29 (.nil)))))))) 18 (.one 13 (.one 14 (.one 25 (.fr 26 (.one 27 (.fr 28 (.one 29 (.nil)))))))))) 13 (.three 7 (.three 14 (.two 18 (.one 24 (.one 25 (.fr 26 (.one 27 (.fr 28 (.one 29 (.nil))))))) 24 (.one 18 (.one 25 (.fr 26 (.one 27 (.fr 28 (.one 29 (.nil)))))))) 18 (.two 14 (.one 24 (.one 25 (.fr 26 (.one 27 (.fr 28 (.one 29 (.nil))))))) 24 (.one 14 (.one 25 (.fr 26 (.one 27 (.fr 28 (.one 29 (.nil)))))))) 24 (.two 14 (.one 18 (.one 25 (.fr 26 (.one 27 (.fr 28 (.one 29 (.nil))))))) 18 (.one 14 (.one 25 (.fr 26 (.one 27 (.fr 28 (.one 29 (.nil))))))))) 18 (.two 7 (.two 14 (.one 24 (.one 25 (.fr 26 (.one 27 (.fr 28 (.one 29 (.nil))))))) 24 (.one 14 (.one 25 (.fr 26 (.one 27 (.fr 28 (.one 29 (.nil)))))))) 24 (.one 7 (.one 14 (.one 25 (.fr 26 (.one 27 (.fr 28 (.one 29 (.nil))))))))) 24 (.two 7 (.two 14 (.one 18 (.one 25 (.fr 26 (.one 27 (.fr 28 (.one 29 (.nil))))))) 18 (.one 14 (.one 25 (.fr 26 (.one 27 (.fr 28 (.one 29 (.nil)))))))) 18 (.one 7 (.one 14 (.one 25 (.fr 26 (.one 27 (.fr 28 (.one 29 (.nil)))))))))) 18 (.three 7 (.two 13 (.two 14 (.one 24 (.one 25 (.fr 26 (.one 27 (.fr 28 (.one 29 (.nil))))))) 24 (.one 14 (.one 25 (.fr 26 (.one 27 (.fr 28 (.one 29 (.nil)))))))) 24 (.one 13 (.one 14 (.one 25 (.fr 26 (.one 27 (.fr 28 (.one 29 (.nil))))))))) 13 (.two 7 (.two 14 (.one 24 (.one 25 (.fr 26 (.one 27 (.fr 28 (.one 29 (.nil))))))) 24 (.one 14 (.one 25 (.fr 26 (.one 27 (.fr 28 (.one 29 (.nil)))))))) 24 (.one 7 (.one 14 (.one 25 (.fr 26 (.one 27 (.fr 28 (.one 29 (.nil))))))))) 24 (.two 7 (.one 13 (.one 14 (.one 25 (.fr 26 (.one 27 (.fr 28 (.one 29 (.nil)))))))) 13 (.one 7 (.one 14 (.one 25 (.fr 26 (.one 27 (.fr 28 (.one 29 (.nil)))))))))) 24 (.three 7 (.two 13 (.two 14 (.one 18 (.one 25 (.fr 26 (.one 27 (.fr 28 (.one 29 (.nil))))))) 18 (.one 14 (.one 25 (.fr 26 (.one 27 (.fr 28 (.one 29 (.nil)))))))) 18 (.one 13 (.one 14 (.one 25 (.fr 26 (.one 27 (.fr 28 (.one 29 (.nil))))))))) 13 (.two 7 (.two 14 (.one 18 (.one 25 (.fr 26 (.one 27 (.fr 28 (.one 29 (.nil))))))) 18 (.one 14 (.one 25 (.fr 26 (.one 27 (.fr 28 (.one 29 (.nil)))))))) 18 (.one 7 (.one 14 (.one 25 (.fr 26 (.one 27 (.fr 28 (.one 29 (.nil))))))))) 18 (.two 7 (.one 13 (.one 14 (.one 25 (.fr 26 (.one 27 (.fr 28 (.one 29 (.nil)))))))) 13 (.one 7 (.one 14 (.one 25 (.fr 26 (.one 27 (.fr 28 (.one 29 (.nil))))))))))))))))))))))))))))))), (4, .fr 0 (.fr 1 (.fr 2 (.fr 4 (.four 3 (.three 5 (.fr 6 (.three 7 (.two 8 (.one 9 (.one 10 (.one 11 (.nil)))) 9 (.one 8 (.one 10 (.one 11 (.nil))))) 8 (.two 7 (.one 9 (.one 10 (.one 11 (.nil)))) 9 (.two 7 (.one 10 (.one 11 (.nil))) 10 (.one 7 (.one 11 (.nil))))) 9 (.two 7 (.one 8 (.one 10 (.one 11 (.nil)))) 8 (.two 7 (.one 10 (.one 11 (.nil))) 10 (.one 7 (.one 11 (.nil))))))) 8 (.two 5 (.fr 6 (.two 7 (.one 9 (.one 10 (.one 11 (.nil)))) 9 (.two 7 (.one 10 (.one 11 (.nil))) 10 (.one 7 (.one 11 (.nil)))))) 9 (.two 5 (.fr 6 (.two 7 (.one 10 (.one 11 (.nil))) 10 (.one 7 (.one 11 (.nil))))) 10 (.one 5 (.fr 6 (.one 7 (.one 11 (.nil))))))) 9 (.two 5 (.fr 6 (.two 7 (.one 8 (.one 10 (.one 11 (.nil)))) 8 (.two 7 (.one 10 (.one 11 (.nil))) 10 (.one 7 (.one 11 (.nil)))))) 8 (.two 5 (.fr 6 (.two 7 (.one 10 (.one 11 (.nil))) 10 (.one 7 (.one 11 (.nil))))) 10 (.one 5 (.fr 6 (.one 7 (.one 11 (.nil)))))))) 5 (.fr 6 (.four 3 (.three 7 (.two 8 (.one 9 (.one 10 (.one 11 (.nil)))) 9 (.one 8 (.one 10 (.one 11 (.nil))))) 8 (.two 7 (.one 9 (.one 10 (.one 11 (.nil)))) 9 (.two 7 (.one 10 (.one 11 (.nil))) 10 (.one 7 (.one 11 (.nil))))) 9 (.two 7 (.one 8 (.one 10 (.one 11 (.nil)))) 8 (.two 7 (.one 10 (.one 11 (.nil))) 10 (.one 7 (.one 11 (.nil)))))) 7 (.three 3 (.two 8 (.one 9 (.one 10 (.one 11 (.nil)))) 9 (.one 8 (.one 10 (.one 11 (.nil))))) 8 (.two 3 (.one 9 (.one 10 (.one 11 (.nil)))) 9 (.one 3 (.one 10 (.one 11 (.nil))))) 9 (.two 3 (.one 8 (.one 10 (.one 11 (.nil)))) 8 (.one 3 (.one 10 (.one 11 (.nil)))))) 8 (.three 3 (.two 7 (.one 9 (.one 10 (.one 11 (.nil)))) 9 (.two 7 (.one 10 (.one 11 (.nil))) 10 (.one 7 (.one 11 (.nil))))) 7 (.two 3 (.one 9 (.one 10 (.one 11 (.nil)))) 9 (.one 3 (.one 10 (.one 11 (.nil))))) 9 (.two 3 (.two 7 (.one 10 (.one 11 (.nil))) 10 (.one 7 (.one 11 (.nil)))) 7 (.one 3 (.one 10 (.one 11 (.nil)))))) 9 (.three 3 (.two 7 (.one 8 (.one 10 (.one 11 (.nil)))) 8 (.two 7 (.one 10 (.one 11 (.nil))) 10 (.one 7 (.one 11 (.nil))))) 7 (.two 3 (.one 8 (.one 10 (.one 11 (.nil)))) 8 (.one 3 (.one 10 (.one 11 (.nil))))) 8 (.two 3 (.two 7 (.one 10 (.one 11 (.nil))) 10 (.one 7 (.one 11 (.nil)))) 7 (.one 3 (.one 10 (.one 11 (.nil)))))))) 8 (.three 3 (.two 5 (.fr 6 (.two 7 (.one 9 (.one 10 (.one 11 (.nil)))) 9 (.two 7 (.one 10 (.one 11 (.nil))) 10 (.one 7 (.one 11 (.nil)))))) 9 (.two 5 (.fr 6 (.two 7 (.one 10 (.one 11 (.nil))) 10 (.one 7 (.one 11 (.nil))))) 10 (.one 5 (.fr 6 (.one 7 (.one 11 (.nil))))))) 5 (.fr 6 (.three 3 (.two 7 (.one 9 (.one 10 (.one 11 (.nil)))) 9 (.two 7 (.one 10 (.one 11 (.nil))) 10 (.one 7 (.one 11 (.nil))))) 7 (.two 3 (.one 9 (.one 10 (.one 11 (.nil)))) 9 (.one 3 (.one 10 (.one 11 (.nil))))) 9 (.two 3 (.two 7 (.one 10 (.one 11 (.nil))) 10 (.one 7 (.one 11 (.nil)))) 7 (.one 3 (.one 10 (.one 11 (.nil))))))) 9 (.two 3 (.two 5 (.fr 6 (.two 7 (.one 10 (.one 11 (.nil))) 10 (.one 7 (.one 11 (.nil))))) 10 (.one 5 (.fr 6 (.one 7 (.one 11 (.nil)))))) 5 (.fr 6 (.two 3 (.two 7 (.one 10 (.one 11 (.nil))) 10 (.one 7 (.one 11 (.nil)))) 7 (.one 3 (.one 10 (.one 11 (.nil)))))))) 9 (.three 3 (.two 5 (.fr 6 (.two 7 (.one 8 (.one 10 (.one 11 (.nil)))) 8 (.two 7 (.one 10 (.one 11 (.nil))) 10 (.one 7 (.one 11 (.nil)))))) 8 (.two 5 (.fr 6 (.two 7 (.one 10 (.one 11 (.nil))) 10 (.one 7 (.one 11 (.nil))))) 10 (.one 5 (.fr 6 (.one 7 (.one 11 (.nil))))))) 5 (.fr 6 (.three 3 (.two 7 (.one 8 (.one 10 (.one 11 (.nil)))) 8 (.two 7 (.one 10 (.one 11 (.nil))) 10 (.one 7 (.one 11 (.nil))))) 7 (.two 3 (.one 8 (.one 10 (.one 11 (.nil)))) 8 (.one 3 (.one 10 (.one 11 (.nil))))) 8 (.two 3 (.two 7 (.one 10 (.one 11 (.nil))) 10 (.one 7 (.one 11 (.nil)))) 7 (.one 3 (.one 10 (.one 11 (.nil))))))) 8 (.two 3 (.two 5 (.fr 6 (.two 7 (.one 10 (.one 11 (.nil))) 10 (.one 7 (.one 11 (.nil))))) 10 (.one 5 (.fr 6 (.one 7 (.one 11 (.nil)))))) 5 (.fr 6 (.two 3 (.two 7 (.one 10 (.one 11 (.nil))) 10 (.one 7 (.one 11 (.nil)))) 7 (.one 3 (.one 10 (.one 11 (.nil))))))))))))), (16, .fr 0 (.fr 1 (.fr 2 (.fr 3 (.fr 4 (.fr 5 (.fr 7 (.fr 8 (.fr 9 (.fr 10 (.one 6 (.one 11 (.fr 12 (.one 13 (.one 14 (.one 15 (.nil)))))))))))))))))] }
  | 209 => { joins := [(12, [(.slot 7, .dat .i), (.slot 3, .own .i 3)])], loops := [(9, [(.slot 7, .dat .i), (.slot 3, .own .i 3)]), (3, [(.slot 4, .own .i 3), (.slot 13, .dat .i)]), (1, [(.slot 3, .own .i 3), (.cell 0 0 [3, 1], .oo .bool 49 4), (.cell 0 0 [3, 2], .oo .bool 49 4)])] }
  | 175 => { fz := [(4, [(.slot 6, .dat (.sl .i))])] }
  | 128 => { nz := [(11, [12])] }
  | _ => {}
noncomputable def F38x (P : Program) (lf : Nat) (x : tt [(true, (.pair .str (.pair (.sl (.pair .str (.pair .i .i))) (.sl Yq)))), (false, .i), (false, (.sl (.pair .str (.pair .i .i))))]) : Option (tt [(false, (.sl (.pair .i (.pair .i .i)))), (false, .i)]) := fnF P (C67x P lf) S38x 38 [(true, (.pair .str (.pair (.sl (.pair .str (.pair .i .i))) (.sl Yq)))), (false, .i), (false, (.sl (.pair .str (.pair .i .i))))] [(false, (.sl (.pair .i (.pair .i .i)))), (false, .i)] lf x
noncomputable def C38x (P : Program) (lf : Nat) : FuncId → Option Con := extC (C67x P lf) 38 (dataCon [(true, (.pair .str (.pair (.sl (.pair .str (.pair .i .i))) (.sl Yq)))), (false, .i), (false, (.sl (.pair .str (.pair .i .i))))] [(false, (.sl (.pair .i (.pair .i .i)))), (false, .i)] (F38x P lf))
theorem F38x_eq (lf : Nat) (a0 : ByteArray) (a1 : Yf) (a2 : Yr) (a3 : Int) (a4 : Yf) : F38x Tryz.prog lf ((a0, (a1, a2)), (a3, a4)) =
  jn (((F31 Tryz.prog lf (a0, (a1, a2)))).bind fun r1059 => cond (!(decide (r1059 = (0 : Int)))) (some (.inl r1059)) (((F91 Tryz.prog lf (a3, ((0 : Int), (100000 : Int))))).bind fun r1060 => cond (!r1060) (some (.inl (45 : Int))) (((F173 Tryz.prog lf ((a0, (a1, a2)), a4))).bind fun r1061 => cond (!r1061) (some (.inl (44 : Int))) (some (.inl (0 : Int)))))) (fun y1062 : Int => cond (!(decide (y1062 = (0 : Int)))) (some (([] : List (Int × (Int × Int))), y1062)) (jn (agree (((mkC (a2.length : Int) ([] : List Bool))).bind fun r1063 => agree (agree (((mkC (a2.length : Int) ([] : List Bool))).bind fun r1064 => agree (some (.inl (r1063, r1064))) (some (.inl (r1063, r1064)))) (agree (agree (((mkC (a2.length : Int) ([] : List Bool))).bind fun r1065 => some (.inl (r1063, r1065))) (agree (((mkC (a2.length : Int) ([] : List Bool))).bind fun r1066 => some (.inl (r1063, r1066))) (((mkC (a2.length : Int) ([] : List Bool))).bind fun r1067 => some (.inl (r1063, r1067))))) (agree (((mkC (a2.length : Int) ([] : List Bool))).bind fun r1068 => some (.inl (r1063, r1068))) (agree (((mkC (a2.length : Int) ([] : List Bool))).bind fun r1069 => some (.inl (r1063, r1069))) (((mkC (a2.length : Int) ([] : List Bool))).bind fun r1070 => some (.inl (r1063, r1070))))))) (agree (agree (agree (((mkC (a2.length : Int) ([] : List Bool))).bind fun r1071 => some (.inl (r1063, r1071))) (agree (((mkC (a2.length : Int) ([] : List Bool))).bind fun r1072 => some (.inl (r1063, r1072))) (((mkC (a2.length : Int) ([] : List Bool))).bind fun r1073 => some (.inl (r1063, r1073))))) (agree (agree (((mkC (a2.length : Int) ([] : List Bool))).bind fun r1074 => some (.inl (r1063, r1074))) (((mkC (a2.length : Int) ([] : List Bool))).bind fun r1075 => some (.inl (r1063, r1075)))) (((mkC (a2.length : Int) ([] : List Bool))).bind fun r1076 => some (.inl (r1063, r1076))))) (agree (agree (((mkC (a2.length : Int) ([] : List Bool))).bind fun r1077 => some (.inl (r1063, r1077))) (agree (((mkC (a2.length : Int) ([] : List Bool))).bind fun r1078 => some (.inl (r1063, r1078))) (((mkC (a2.length : Int) ([] : List Bool))).bind fun r1079 => some (.inl (r1063, r1079))))) (agree (agree (((mkC (a2.length : Int) ([] : List Bool))).bind fun r1080 => some (.inl (r1063, r1080))) (((mkC (a2.length : Int) ([] : List Bool))).bind fun r1081 => some (.inl (r1063, r1081)))) (((mkC (a2.length : Int) ([] : List Bool))).bind fun r1082 => some (.inl (r1063, r1082))))))) (agree (agree (((mkC (a2.length : Int) ([] : List Bool))).bind fun r1083 => agree (((mkC (a2.length : Int) ([] : List Bool))).bind fun r1084 => agree (some (.inl (r1083, r1084))) (some (.inl (r1083, r1084)))) (agree (agree (((mkC (a2.length : Int) ([] : List Bool))).bind fun r1085 => some (.inl (r1083, r1085))) (agree (((mkC (a2.length : Int) ([] : List Bool))).bind fun r1086 => some (.inl (r1083, r1086))) (((mkC (a2.length : Int) ([] : List Bool))).bind fun r1087 => some (.inl (r1083, r1087))))) (agree (((mkC (a2.length : Int) ([] : List Bool))).bind fun r1088 => some (.inl (r1083, r1088))) (agree (((mkC (a2.length : Int) ([] : List Bool))).bind fun r1089 => some (.inl (r1083, r1089))) (((mkC (a2.length : Int) ([] : List Bool))).bind fun r1090 => some (.inl (r1083, r1090))))))) (agree (((mkC (a2.length : Int) ([] : List Bool))).bind fun r1091 => agree (((mkC (a2.length : Int) ([] : List Bool))).bind fun r1092 => agree (some (.inl (r1092, r1091))) (some (.inl (r1092, r1091)))) (agree (agree (((mkC (a2.length : Int) ([] : List Bool))).bind fun r1093 => some (.inl (r1093, r1091))) (((mkC (a2.length : Int) ([] : List Bool))).bind fun r1094 => some (.inl (r1094, r1091)))) (agree (((mkC (a2.length : Int) ([] : List Bool))).bind fun r1095 => some (.inl (r1095, r1091))) (((mkC (a2.length : Int) ([] : List Bool))).bind fun r1096 => some (.inl (r1096, r1091)))))) (agree (agree (((mkC (a2.length : Int) ([] : List Bool))).bind fun r1097 => agree (((mkC (a2.length : Int) ([] : List Bool))).bind fun r1098 => some (.inl (r1097, r1098))) (agree (((mkC (a2.length : Int) ([] : List Bool))).bind fun r1099 => some (.inl (r1097, r1099))) (((mkC (a2.length : Int) ([] : List Bool))).bind fun r1100 => some (.inl (r1097, r1100))))) (agree (((mkC (a2.length : Int) ([] : List Bool))).bind fun r1101 => agree (((mkC (a2.length : Int) ([] : List Bool))).bind fun r1102 => some (.inl (r1102, r1101))) (((mkC (a2.length : Int) ([] : List Bool))).bind fun r1103 => some (.inl (r1103, r1101)))) (agree (((mkC (a2.length : Int) ([] : List Bool))).bind fun r1104 => agree (((mkC (a2.length : Int) ([] : List Bool))).bind fun r1105 => some (.inl (r1104, r1105))) (((mkC (a2.length : Int) ([] : List Bool))).bind fun r1106 => some (.inl (r1104, r1106)))) (((mkC (a2.length : Int) ([] : List Bool))).bind fun r1107 => ((mkC (a2.length : Int) ([] : List Bool))).bind fun r1108 => some (.inl (r1108, r1107)))))) (agree (((mkC (a2.length : Int) ([] : List Bool))).bind fun r1109 => agree (((mkC (a2.length : Int) ([] : List Bool))).bind fun r1110 => some (.inl (r1109, r1110))) (agree (((mkC (a2.length : Int) ([] : List Bool))).bind fun r1111 => some (.inl (r1109, r1111))) (((mkC (a2.length : Int) ([] : List Bool))).bind fun r1112 => some (.inl (r1109, r1112))))) (agree (((mkC (a2.length : Int) ([] : List Bool))).bind fun r1113 => agree (((mkC (a2.length : Int) ([] : List Bool))).bind fun r1114 => some (.inl (r1114, r1113))) (((mkC (a2.length : Int) ([] : List Bool))).bind fun r1115 => some (.inl (r1115, r1113)))) (agree (((mkC (a2.length : Int) ([] : List Bool))).bind fun r1116 => agree (((mkC (a2.length : Int) ([] : List Bool))).bind fun r1117 => some (.inl (r1116, r1117))) (((mkC (a2.length : Int) ([] : List Bool))).bind fun r1118 => some (.inl (r1116, r1118)))) (((mkC (a2.length : Int) ([] : List Bool))).bind fun r1119 => ((mkC (a2.length : Int) ([] : List Bool))).bind fun r1120 => some (.inl (r1120, r1119))))))))) (agree (agree (((mkC (a2.length : Int) ([] : List Bool))).bind fun r1121 => agree (agree (((mkC (a2.length : Int) ([] : List Bool))).bind fun r1122 => some (.inl (r1121, r1122))) (agree (((mkC (a2.length : Int) ([] : List Bool))).bind fun r1123 => some (.inl (r1121, r1123))) (((mkC (a2.length : Int) ([] : List Bool))).bind fun r1124 => some (.inl (r1121, r1124))))) (agree (agree (((mkC (a2.length : Int) ([] : List Bool))).bind fun r1125 => some (.inl (r1121, r1125))) (((mkC (a2.length : Int) ([] : List Bool))).bind fun r1126 => some (.inl (r1121, r1126)))) (((mkC (a2.length : Int) ([] : List Bool))).bind fun r1127 => some (.inl (r1121, r1127))))) (agree (agree (((mkC (a2.length : Int) ([] : List Bool))).bind fun r1128 => agree (((mkC (a2.length : Int) ([] : List Bool))).bind fun r1129 => some (.inl (r1128, r1129))) (agree (((mkC (a2.length : Int) ([] : List Bool))).bind fun r1130 => some (.inl (r1128, r1130))) (((mkC (a2.length : Int) ([] : List Bool))).bind fun r1131 => some (.inl (r1128, r1131))))) (agree (((mkC (a2.length : Int) ([] : List Bool))).bind fun r1132 => agree (((mkC (a2.length : Int) ([] : List Bool))).bind fun r1133 => some (.inl (r1133, r1132))) (((mkC (a2.length : Int) ([] : List Bool))).bind fun r1134 => some (.inl (r1134, r1132)))) (agree (((mkC (a2.length : Int) ([] : List Bool))).bind fun r1135 => agree (((mkC (a2.length : Int) ([] : List Bool))).bind fun r1136 => some (.inl (r1135, r1136))) (((mkC (a2.length : Int) ([] : List Bool))).bind fun r1137 => some (.inl (r1135, r1137)))) (((mkC (a2.length : Int) ([] : List Bool))).bind fun r1138 => ((mkC (a2.length : Int) ([] : List Bool))).bind fun r1139 => some (.inl (r1139, r1138)))))) (agree (((mkC (a2.length : Int) ([] : List Bool))).bind fun r1140 => agree (agree (((mkC (a2.length : Int) ([] : List Bool))).bind fun r1141 => some (.inl (r1140, r1141))) (((mkC (a2.length : Int) ([] : List Bool))).bind fun r1142 => some (.inl (r1140, r1142)))) (((mkC (a2.length : Int) ([] : List Bool))).bind fun r1143 => some (.inl (r1140, r1143)))) (agree (((mkC (a2.length : Int) ([] : List Bool))).bind fun r1144 => agree (((mkC (a2.length : Int) ([] : List Bool))).bind fun r1145 => some (.inl (r1144, r1145))) (((mkC (a2.length : Int) ([] : List Bool))).bind fun r1146 => some (.inl (r1144, r1146)))) (((mkC (a2.length : Int) ([] : List Bool))).bind fun r1147 => ((mkC (a2.length : Int) ([] : List Bool))).bind fun r1148 => some (.inl (r1148, r1147))))))) (agree (((mkC (a2.length : Int) ([] : List Bool))).bind fun r1149 => agree (agree (((mkC (a2.length : Int) ([] : List Bool))).bind fun r1150 => some (.inl (r1149, r1150))) (agree (((mkC (a2.length : Int) ([] : List Bool))).bind fun r1151 => some (.inl (r1149, r1151))) (((mkC (a2.length : Int) ([] : List Bool))).bind fun r1152 => some (.inl (r1149, r1152))))) (agree (agree (((mkC (a2.length : Int) ([] : List Bool))).bind fun r1153 => some (.inl (r1149, r1153))) (((mkC (a2.length : Int) ([] : List Bool))).bind fun r1154 => some (.inl (r1149, r1154)))) (((mkC (a2.length : Int) ([] : List Bool))).bind fun r1155 => some (.inl (r1149, r1155))))) (agree (agree (((mkC (a2.length : Int) ([] : List Bool))).bind fun r1156 => agree (((mkC (a2.length : Int) ([] : List Bool))).bind fun r1157 => some (.inl (r1156, r1157))) (agree (((mkC (a2.length : Int) ([] : List Bool))).bind fun r1158 => some (.inl (r1156, r1158))) (((mkC (a2.length : Int) ([] : List Bool))).bind fun r1159 => some (.inl (r1156, r1159))))) (agree (((mkC (a2.length : Int) ([] : List Bool))).bind fun r1160 => agree (((mkC (a2.length : Int) ([] : List Bool))).bind fun r1161 => some (.inl (r1161, r1160))) (((mkC (a2.length : Int) ([] : List Bool))).bind fun r1162 => some (.inl (r1162, r1160)))) (agree (((mkC (a2.length : Int) ([] : List Bool))).bind fun r1163 => agree (((mkC (a2.length : Int) ([] : List Bool))).bind fun r1164 => some (.inl (r1163, r1164))) (((mkC (a2.length : Int) ([] : List Bool))).bind fun r1165 => some (.inl (r1163, r1165)))) (((mkC (a2.length : Int) ([] : List Bool))).bind fun r1166 => ((mkC (a2.length : Int) ([] : List Bool))).bind fun r1167 => some (.inl (r1167, r1166)))))) (agree (((mkC (a2.length : Int) ([] : List Bool))).bind fun r1168 => agree (agree (((mkC (a2.length : Int) ([] : List Bool))).bind fun r1169 => some (.inl (r1168, r1169))) (((mkC (a2.length : Int) ([] : List Bool))).bind fun r1170 => some (.inl (r1168, r1170)))) (((mkC (a2.length : Int) ([] : List Bool))).bind fun r1171 => some (.inl (r1168, r1171)))) (agree (((mkC (a2.length : Int) ([] : List Bool))).bind fun r1172 => agree (((mkC (a2.length : Int) ([] : List Bool))).bind fun r1173 => some (.inl (r1172, r1173))) (((mkC (a2.length : Int) ([] : List Bool))).bind fun r1174 => some (.inl (r1172, r1174)))) (((mkC (a2.length : Int) ([] : List Bool))).bind fun r1175 => ((mkC (a2.length : Int) ([] : List Bool))).bind fun r1176 => some (.inl (r1176, r1175)))))))))) (fun y1177 : ((List (List Bool)) × (List (List Bool))) => ((F131 Tryz.prog lf ())).bind fun r1178 => ((F116 Tryz.prog lf (a0, (a1, a2)))).bind fun r1179 => ((F115 Tryz.prog lf (a4, r1179))).bind fun r1180 => ((mkC (r1180.length : Int) (0 : Int))).bind fun r1181 => iter lf (fun y1182 : ((List Int) × ((List (List Bool)) × (List (List Bool)))) => iter lf (fun y1183 : ((List Int) × Int) => cond (decide (y1183.2 < (y1182.1.length : Int))) (((getI y1182.1 y1183.2)).bind fun r1184 => ((getI y1182.1 y1183.2)).bind fun r1185 => ((getI r1180 y1183.2)).bind fun r1186 => ((getI r1186 r1185)).bind fun r1187 => ((appC y1183.1 [r1187])).bind fun r1188 => some (.inl (r1188, (w64 (y1183.2 + (1 : Int)))))) (outR (((F130 Tryz.prog lf ((a0, (a1, a2)), (a3, (y1183.1, ()))))).bind fun r1189 => iter lf (fun y1190 : (Int × ((List (List Bool)) × (List (List Bool)))) => cond (decide (y1190.1 < (a2.length : Int))) (jn (((getI y1190.2.2 y1190.1)).bind fun r1191 => ((getI r1189.1 y1190.1)).bind fun r1192 => ((getI y1190.2.1 y1190.1)).bind fun r1193 => ((getI r1189.2 y1190.1)).bind fun r1194 => agree (((getI y1190.2.2 y1190.1)).bind fun r1195 => agree (agree (((appC r1195 [r1192])).bind fun r1196 => agree (((getI y1190.2.1 y1190.1)).bind fun r1197 => ((appC r1197 [r1194])).bind fun r1198 => ((getI y1190.2.2 y1190.1)).bind fun r1199 => cond (decide (y1190.1 = y1190.1)) (((setI y1190.2.2 y1190.1 r1196)).bind fun r1200 => ((getI y1190.2.1 y1190.1)).bind fun r1201 => cond (decide (y1190.1 = y1190.1)) (((setI y1190.2.1 y1190.1 r1198)).bind fun r1202 => some (.inl (r1202, r1200))) ((outI))) ((outI))) (((getI y1190.2.1 y1190.1)).bind fun r1203 => ((appC r1203 [r1194])).bind fun r1204 => ((getI y1190.2.2 y1190.1)).bind fun r1205 => cond (decide (y1190.1 = y1190.1)) (((setI y1190.2.2 y1190.1 r1196)).bind fun r1206 => ((getI y1190.2.1 y1190.1)).bind fun r1207 => cond (decide (y1190.1 = y1190.1)) (((setI y1190.2.1 y1190.1 r1204)).bind fun r1208 => some (.inl (r1208, r1206))) ((outI))) ((outI)))) (agree (((getI y1190.2.1 y1190.1)).bind fun r1209 => agree (((appC r1195 [r1192])).bind fun r1210 => ((appC r1209 [r1194])).bind fun r1211 => ((getI y1190.2.2 y1190.1)).bind fun r1212 => cond (decide (y1190.1 = y1190.1)) (((setI y1190.2.2 y1190.1 r1210)).bind fun r1213 => ((getI y1190.2.1 y1190.1)).bind fun r1214 => cond (decide (y1190.1 = y1190.1)) (((setI y1190.2.1 y1190.1 r1211)).bind fun r1215 => some (.inl (r1215, r1213))) ((outI))) ((outI))) (((appC r1195 [r1192])).bind fun r1216 => ((appC r1209 [r1194])).bind fun r1217 => ((getI y1190.2.2 y1190.1)).bind fun r1218 => cond (decide (y1190.1 = y1190.1)) (((setI y1190.2.2 y1190.1 r1216)).bind fun r1219 => ((getI y1190.2.1 y1190.1)).bind fun r1220 => cond (decide (y1190.1 = y1190.1)) (((setI y1190.2.1 y1190.1 r1217)).bind fun r1221 => some (.inl (r1221, r1219))) ((outI))) ((outI)))) (agree (((appC r1195 [r1192])).bind fun r1222 => ((getI y1190.2.1 y1190.1)).bind fun r1223 => ((appC r1223 [r1194])).bind fun r1224 => ((getI y1190.2.2 y1190.1)).bind fun r1225 => cond (decide (y1190.1 = y1190.1)) (((setI y1190.2.2 y1190.1 r1222)).bind fun r1226 => ((getI y1190.2.1 y1190.1)).bind fun r1227 => cond (decide (y1190.1 = y1190.1)) (((setI y1190.2.1 y1190.1 r1224)).bind fun r1228 => some (.inl (r1228, r1226))) ((outI))) ((outI))) (((getI y1190.2.1 y1190.1)).bind fun r1229 => ((appC r1195 [r1192])).bind fun r1230 => ((appC r1229 [r1194])).bind fun r1231 => ((getI y1190.2.2 y1190.1)).bind fun r1232 => cond (decide (y1190.1 = y1190.1)) (((setI y1190.2.2 y1190.1 r1230)).bind fun r1233 => ((getI y1190.2.1 y1190.1)).bind fun r1234 => cond (decide (y1190.1 = y1190.1)) (((setI y1190.2.1 y1190.1 r1231)).bind fun r1235 => some (.inl (r1235, r1233))) ((outI))) ((outI)))))) (agree (((getI y1190.2.1 y1190.1)).bind fun r1236 => agree (agree (((appC r1195 [r1192])).bind fun r1237 => ((appC r1236 [r1194])).bind fun r1238 => ((getI y1190.2.2 y1190.1)).bind fun r1239 => cond (decide (y1190.1 = y1190.1)) (((setI y1190.2.2 y1190.1 r1237)).bind fun r1240 => ((getI y1190.2.1 y1190.1)).bind fun r1241 => cond (decide (y1190.1 = y1190.1)) (((setI y1190.2.1 y1190.1 r1238)).bind fun r1242 => some (.inl (r1242, r1240))) ((outI))) ((outI))) (((appC r1195 [r1192])).bind fun r1243 => ((appC r1236 [r1194])).bind fun r1244 => ((getI y1190.2.2 y1190.1)).bind fun r1245 => cond (decide (y1190.1 = y1190.1)) (((setI y1190.2.2 y1190.1 r1243)).bind fun r1246 => ((getI y1190.2.1 y1190.1)).bind fun r1247 => cond (decide (y1190.1 = y1190.1)) (((setI y1190.2.1 y1190.1 r1244)).bind fun r1248 => some (.inl (r1248, r1246))) ((outI))) ((outI)))) (((appC r1195 [r1192])).bind fun r1249 => ((appC r1236 [r1194])).bind fun r1250 => ((getI y1190.2.2 y1190.1)).bind fun r1251 => cond (decide (y1190.1 = y1190.1)) (((setI y1190.2.2 y1190.1 r1249)).bind fun r1252 => ((getI y1190.2.1 y1190.1)).bind fun r1253 => cond (decide (y1190.1 = y1190.1)) (((setI y1190.2.1 y1190.1 r1250)).bind fun r1254 => some (.inl (r1254, r1252))) ((outI))) ((outI)))) (agree (agree (((appC r1195 [r1192])).bind fun r1255 => ((getI y1190.2.1 y1190.1)).bind fun r1256 => ((appC r1256 [r1194])).bind fun r1257 => ((getI y1190.2.2 y1190.1)).bind fun r1258 => cond (decide (y1190.1 = y1190.1)) (((setI y1190.2.2 y1190.1 r1255)).bind fun r1259 => ((getI y1190.2.1 y1190.1)).bind fun r1260 => cond (decide (y1190.1 = y1190.1)) (((setI y1190.2.1 y1190.1 r1257)).bind fun r1261 => some (.inl (r1261, r1259))) ((outI))) ((outI))) (((getI y1190.2.1 y1190.1)).bind fun r1262 => ((appC r1195 [r1192])).bind fun r1263 => ((appC r1262 [r1194])).bind fun r1264 => ((getI y1190.2.2 y1190.1)).bind fun r1265 => cond (decide (y1190.1 = y1190.1)) (((setI y1190.2.2 y1190.1 r1263)).bind fun r1266 => ((getI y1190.2.1 y1190.1)).bind fun r1267 => cond (decide (y1190.1 = y1190.1)) (((setI y1190.2.1 y1190.1 r1264)).bind fun r1268 => some (.inl (r1268, r1266))) ((outI))) ((outI)))) (((getI y1190.2.1 y1190.1)).bind fun r1269 => ((appC r1195 [r1192])).bind fun r1270 => ((appC r1269 [r1194])).bind fun r1271 => ((getI y1190.2.2 y1190.1)).bind fun r1272 => cond (decide (y1190.1 = y1190.1)) (((setI y1190.2.2 y1190.1 r1270)).bind fun r1273 => ((getI y1190.2.1 y1190.1)).bind fun r1274 => cond (decide (y1190.1 = y1190.1)) (((setI y1190.2.1 y1190.1 r1271)).bind fun r1275 => some (.inl (r1275, r1273))) ((outI))) ((outI)))))) (agree (agree (((getI y1190.2.2 y1190.1)).bind fun r1276 => agree (((appC r1276 [r1192])).bind fun r1277 => agree (((getI y1190.2.1 y1190.1)).bind fun r1278 => ((appC r1278 [r1194])).bind fun r1279 => ((getI y1190.2.2 y1190.1)).bind fun r1280 => cond (decide (y1190.1 = y1190.1)) (((setI y1190.2.2 y1190.1 r1277)).bind fun r1281 => ((getI y1190.2.1 y1190.1)).bind fun r1282 => cond (decide (y1190.1 = y1190.1)) (((setI y1190.2.1 y1190.1 r1279)).bind fun r1283 => some (.inl (r1283, r1281))) ((outI))) ((outI))) (((getI y1190.2.1 y1190.1)).bind fun r1284 => ((appC r1284 [r1194])).bind fun r1285 => ((getI y1190.2.2 y1190.1)).bind fun r1286 => cond (decide (y1190.1 = y1190.1)) (((setI y1190.2.2 y1190.1 r1277)).bind fun r1287 => ((getI y1190.2.1 y1190.1)).bind fun r1288 => cond (decide (y1190.1 = y1190.1)) (((setI y1190.2.1 y1190.1 r1285)).bind fun r1289 => some (.inl (r1289, r1287))) ((outI))) ((outI)))) (agree (((getI y1190.2.1 y1190.1)).bind fun r1290 => agree (((appC r1276 [r1192])).bind fun r1291 => ((appC r1290 [r1194])).bind fun r1292 => ((getI y1190.2.2 y1190.1)).bind fun r1293 => cond (decide (y1190.1 = y1190.1)) (((setI y1190.2.2 y1190.1 r1291)).bind fun r1294 => ((getI y1190.2.1 y1190.1)).bind fun r1295 => cond (decide (y1190.1 = y1190.1)) (((setI y1190.2.1 y1190.1 r1292)).bind fun r1296 => some (.inl (r1296, r1294))) ((outI))) ((outI))) (((appC r1276 [r1192])).bind fun r1297 => ((appC r1290 [r1194])).bind fun r1298 => ((getI y1190.2.2 y1190.1)).bind fun r1299 => cond (decide (y1190.1 = y1190.1)) (((setI y1190.2.2 y1190.1 r1297)).bind fun r1300 => ((getI y1190.2.1 y1190.1)).bind fun r1301 => cond (decide (y1190.1 = y1190.1)) (((setI y1190.2.1 y1190.1 r1298)).bind fun r1302 => some (.inl (r1302, r1300))) ((outI))) ((outI)))) (agree (((appC r1276 [r1192])).bind fun r1303 => ((getI y1190.2.1 y1190.1)).bind fun r1304 => ((appC r1304 [r1194])).bind fun r1305 => ((getI y1190.2.2 y1190.1)).bind fun r1306 => cond (decide (y1190.1 = y1190.1)) (((setI y1190.2.2 y1190.1 r1303)).bind fun r1307 => ((getI y1190.2.1 y1190.1)).bind fun r1308 => cond (decide (y1190.1 = y1190.1)) (((setI y1190.2.1 y1190.1 r1305)).bind fun r1309 => some (.inl (r1309, r1307))) ((outI))) ((outI))) (((getI y1190.2.1 y1190.1)).bind fun r1310 => ((appC r1276 [r1192])).bind fun r1311 => ((appC r1310 [r1194])).bind fun r1312 => ((getI y1190.2.2 y1190.1)).bind fun r1313 => cond (decide (y1190.1 = y1190.1)) (((setI y1190.2.2 y1190.1 r1311)).bind fun r1314 => ((getI y1190.2.1 y1190.1)).bind fun r1315 => cond (decide (y1190.1 = y1190.1)) (((setI y1190.2.1 y1190.1 r1312)).bind fun r1316 => some (.inl (r1316, r1314))) ((outI))) ((outI)))))) (agree (((getI y1190.2.1 y1190.1)).bind fun r1317 => agree (((getI y1190.2.2 y1190.1)).bind fun r1318 => agree (((appC r1318 [r1192])).bind fun r1319 => ((appC r1317 [r1194])).bind fun r1320 => ((getI y1190.2.2 y1190.1)).bind fun r1321 => cond (decide (y1190.1 = y1190.1)) (((setI y1190.2.2 y1190.1 r1319)).bind fun r1322 => ((getI y1190.2.1 y1190.1)).bind fun r1323 => cond (decide (y1190.1 = y1190.1)) (((setI y1190.2.1 y1190.1 r1320)).bind fun r1324 => some (.inl (r1324, r1322))) ((outI))) ((outI))) (((appC r1318 [r1192])).bind fun r1325 => ((appC r1317 [r1194])).bind fun r1326 => ((getI y1190.2.2 y1190.1)).bind fun r1327 => cond (decide (y1190.1 = y1190.1)) (((setI y1190.2.2 y1190.1 r1325)).bind fun r1328 => ((getI y1190.2.1 y1190.1)).bind fun r1329 => cond (decide (y1190.1 = y1190.1)) (((setI y1190.2.1 y1190.1 r1326)).bind fun r1330 => some (.inl (r1330, r1328))) ((outI))) ((outI)))) (((getI y1190.2.2 y1190.1)).bind fun r1331 => ((appC r1331 [r1192])).bind fun r1332 => ((appC r1317 [r1194])).bind fun r1333 => ((getI y1190.2.2 y1190.1)).bind fun r1334 => cond (decide (y1190.1 = y1190.1)) (((setI y1190.2.2 y1190.1 r1332)).bind fun r1335 => ((getI y1190.2.1 y1190.1)).bind fun r1336 => cond (decide (y1190.1 = y1190.1)) (((setI y1190.2.1 y1190.1 r1333)).bind fun r1337 => some (.inl (r1337, r1335))) ((outI))) ((outI)))) (agree (((getI y1190.2.2 y1190.1)).bind fun r1338 => agree (((appC r1338 [r1192])).bind fun r1339 => ((getI y1190.2.1 y1190.1)).bind fun r1340 => ((appC r1340 [r1194])).bind fun r1341 => ((getI y1190.2.2 y1190.1)).bind fun r1342 => cond (decide (y1190.1 = y1190.1)) (((setI y1190.2.2 y1190.1 r1339)).bind fun r1343 => ((getI y1190.2.1 y1190.1)).bind fun r1344 => cond (decide (y1190.1 = y1190.1)) (((setI y1190.2.1 y1190.1 r1341)).bind fun r1345 => some (.inl (r1345, r1343))) ((outI))) ((outI))) (((getI y1190.2.1 y1190.1)).bind fun r1346 => ((appC r1338 [r1192])).bind fun r1347 => ((appC r1346 [r1194])).bind fun r1348 => ((getI y1190.2.2 y1190.1)).bind fun r1349 => cond (decide (y1190.1 = y1190.1)) (((setI y1190.2.2 y1190.1 r1347)).bind fun r1350 => ((getI y1190.2.1 y1190.1)).bind fun r1351 => cond (decide (y1190.1 = y1190.1)) (((setI y1190.2.1 y1190.1 r1348)).bind fun r1352 => some (.inl (r1352, r1350))) ((outI))) ((outI)))) (((getI y1190.2.1 y1190.1)).bind fun r1353 => ((getI y1190.2.2 y1190.1)).bind fun r1354 => ((appC r1354 [r1192])).bind fun r1355 => ((appC r1353 [r1194])).bind fun r1356 => ((getI y1190.2.2 y1190.1)).bind fun r1357 => cond (decide (y1190.1 = y1190.1)) (((setI y1190.2.2 y1190.1 r1355)).bind fun r1358 => ((getI y1190.2.1 y1190.1)).bind fun r1359 => cond (decide (y1190.1 = y1190.1)) (((setI y1190.2.1 y1190.1 r1356)).bind fun r1360 => some (.inl (r1360, r1358))) ((outI))) ((outI)))))) (agree (((getI y1190.2.1 y1190.1)).bind fun r1361 => agree (((getI y1190.2.2 y1190.1)).bind fun r1362 => agree (agree (((appC r1362 [r1192])).bind fun r1363 => ((appC r1361 [r1194])).bind fun r1364 => ((getI y1190.2.2 y1190.1)).bind fun r1365 => cond (decide (y1190.1 = y1190.1)) (((setI y1190.2.2 y1190.1 r1363)).bind fun r1366 => ((getI y1190.2.1 y1190.1)).bind fun r1367 => cond (decide (y1190.1 = y1190.1)) (((setI y1190.2.1 y1190.1 r1364)).bind fun r1368 => some (.inl (r1368, r1366))) ((outI))) ((outI))) (((appC r1362 [r1192])).bind fun r1369 => ((appC r1361 [r1194])).bind fun r1370 => ((getI y1190.2.2 y1190.1)).bind fun r1371 => cond (decide (y1190.1 = y1190.1)) (((setI y1190.2.2 y1190.1 r1369)).bind fun r1372 => ((getI y1190.2.1 y1190.1)).bind fun r1373 => cond (decide (y1190.1 = y1190.1)) (((setI y1190.2.1 y1190.1 r1370)).bind fun r1374 => some (.inl (r1374, r1372))) ((outI))) ((outI)))) (((appC r1362 [r1192])).bind fun r1375 => ((appC r1361 [r1194])).bind fun r1376 => ((getI y1190.2.2 y1190.1)).bind fun r1377 => cond (decide (y1190.1 = y1190.1)) (((setI y1190.2.2 y1190.1 r1375)).bind fun r1378 => ((getI y1190.2.1 y1190.1)).bind fun r1379 => cond (decide (y1190.1 = y1190.1)) (((setI y1190.2.1 y1190.1 r1376)).bind fun r1380 => some (.inl (r1380, r1378))) ((outI))) ((outI)))) (agree (agree (((getI y1190.2.2 y1190.1)).bind fun r1381 => agree (((appC r1381 [r1192])).bind fun r1382 => ((appC r1361 [r1194])).bind fun r1383 => ((getI y1190.2.2 y1190.1)).bind fun r1384 => cond (decide (y1190.1 = y1190.1)) (((setI y1190.2.2 y1190.1 r1382)).bind fun r1385 => ((getI y1190.2.1 y1190.1)).bind fun r1386 => cond (decide (y1190.1 = y1190.1)) (((setI y1190.2.1 y1190.1 r1383)).bind fun r1387 => some (.inl (r1387, r1385))) ((outI))) ((outI))) (((appC r1381 [r1192])).bind fun r1388 => ((appC r1361 [r1194])).bind fun r1389 => ((getI y1190.2.2 y1190.1)).bind fun r1390 => cond (decide (y1190.1 = y1190.1)) (((setI y1190.2.2 y1190.1 r1388)).bind fun r1391 => ((getI y1190.2.1 y1190.1)).bind fun r1392 => cond (decide (y1190.1 = y1190.1)) (((setI y1190.2.1 y1190.1 r1389)).bind fun r1393 => some (.inl (r1393, r1391))) ((outI))) ((outI)))) (((getI y1190.2.2 y1190.1)).bind fun r1394 => ((appC r1394 [r1192])).bind fun r1395 => ((appC r1361 [r1194])).bind fun r1396 => ((getI y1190.2.2 y1190.1)).bind fun r1397 => cond (decide (y1190.1 = y1190.1)) (((setI y1190.2.2 y1190.1 r1395)).bind fun r1398 => ((getI y1190.2.1 y1190.1)).bind fun r1399 => cond (decide (y1190.1 = y1190.1)) (((setI y1190.2.1 y1190.1 r1396)).bind fun r1400 => some (.inl (r1400, r1398))) ((outI))) ((outI)))) (agree (((getI y1190.2.2 y1190.1)).bind fun r1401 => ((appC r1401 [r1192])).bind fun r1402 => ((appC r1361 [r1194])).bind fun r1403 => ((getI y1190.2.2 y1190.1)).bind fun r1404 => cond (decide (y1190.1 = y1190.1)) (((setI y1190.2.2 y1190.1 r1402)).bind fun r1405 => ((getI y1190.2.1 y1190.1)).bind fun r1406 => cond (decide (y1190.1 = y1190.1)) (((setI y1190.2.1 y1190.1 r1403)).bind fun r1407 => some (.inl (r1407, r1405))) ((outI))) ((outI))) (((getI y1190.2.2 y1190.1)).bind fun r1408 => ((appC r1408 [r1192])).bind fun r1409 => ((appC r1361 [r1194])).bind fun r1410 => ((getI y1190.2.2 y1190.1)).bind fun r1411 => cond (decide (y1190.1 = y1190.1)) (((setI y1190.2.2 y1190.1 r1409)).bind fun r1412 => ((getI y1190.2.1 y1190.1)).bind fun r1413 => cond (decide (y1190.1 = y1190.1)) (((setI y1190.2.1 y1190.1 r1410)).bind fun r1414 => some (.inl (r1414, r1412))) ((outI))) ((outI)))))) (agree (((getI y1190.2.2 y1190.1)).bind fun r1415 => agree (agree (((appC r1415 [r1192])).bind fun r1416 => ((getI y1190.2.1 y1190.1)).bind fun r1417 => ((appC r1417 [r1194])).bind fun r1418 => ((getI y1190.2.2 y1190.1)).bind fun r1419 => cond (decide (y1190.1 = y1190.1)) (((setI y1190.2.2 y1190.1 r1416)).bind fun r1420 => ((getI y1190.2.1 y1190.1)).bind fun r1421 => cond (decide (y1190.1 = y1190.1)) (((setI y1190.2.1 y1190.1 r1418)).bind fun r1422 => some (.inl (r1422, r1420))) ((outI))) ((outI))) (((getI y1190.2.1 y1190.1)).bind fun r1423 => ((appC r1415 [r1192])).bind fun r1424 => ((appC r1423 [r1194])).bind fun r1425 => ((getI y1190.2.2 y1190.1)).bind fun r1426 => cond (decide (y1190.1 = y1190.1)) (((setI y1190.2.2 y1190.1 r1424)).bind fun r1427 => ((getI y1190.2.1 y1190.1)).bind fun r1428 => cond (decide (y1190.1 = y1190.1)) (((setI y1190.2.1 y1190.1 r1425)).bind fun r1429 => some (.inl (r1429, r1427))) ((outI))) ((outI)))) (((getI y1190.2.1 y1190.1)).bind fun r1430 => ((appC r1415 [r1192])).bind fun r1431 => ((appC r1430 [r1194])).bind fun r1432 => ((getI y1190.2.2 y1190.1)).bind fun r1433 => cond (decide (y1190.1 = y1190.1)) (((setI y1190.2.2 y1190.1 r1431)).bind fun r1434 => ((getI y1190.2.1 y1190.1)).bind fun r1435 => cond (decide (y1190.1 = y1190.1)) (((setI y1190.2.1 y1190.1 r1432)).bind fun r1436 => some (.inl (r1436, r1434))) ((outI))) ((outI)))) (agree (agree (((getI y1190.2.2 y1190.1)).bind fun r1437 => agree (((appC r1437 [r1192])).bind fun r1438 => ((getI y1190.2.1 y1190.1)).bind fun r1439 => ((appC r1439 [r1194])).bind fun r1440 => ((getI y1190.2.2 y1190.1)).bind fun r1441 => cond (decide (y1190.1 = y1190.1)) (((setI y1190.2.2 y1190.1 r1438)).bind fun r1442 => ((getI y1190.2.1 y1190.1)).bind fun r1443 => cond (decide (y1190.1 = y1190.1)) (((setI y1190.2.1 y1190.1 r1440)).bind fun r1444 => some (.inl (r1444, r1442))) ((outI))) ((outI))) (((getI y1190.2.1 y1190.1)).bind fun r1445 => ((appC r1437 [r1192])).bind fun r1446 => ((appC r1445 [r1194])).bind fun r1447 => ((getI y1190.2.2 y1190.1)).bind fun r1448 => cond (decide (y1190.1 = y1190.1)) (((setI y1190.2.2 y1190.1 r1446)).bind fun r1449 => ((getI y1190.2.1 y1190.1)).bind fun r1450 => cond (decide (y1190.1 = y1190.1)) (((setI y1190.2.1 y1190.1 r1447)).bind fun r1451 => some (.inl (r1451, r1449))) ((outI))) ((outI)))) (((getI y1190.2.1 y1190.1)).bind fun r1452 => ((getI y1190.2.2 y1190.1)).bind fun r1453 => ((appC r1453 [r1192])).bind fun r1454 => ((appC r1452 [r1194])).bind fun r1455 => ((getI y1190.2.2 y1190.1)).bind fun r1456 => cond (decide (y1190.1 = y1190.1)) (((setI y1190.2.2 y1190.1 r1454)).bind fun r1457 => ((getI y1190.2.1 y1190.1)).bind fun r1458 => cond (decide (y1190.1 = y1190.1)) (((setI y1190.2.1 y1190.1 r1455)).bind fun r1459 => some (.inl (r1459, r1457))) ((outI))) ((outI)))) (((getI y1190.2.1 y1190.1)).bind fun r1460 => agree (((getI y1190.2.2 y1190.1)).bind fun r1461 => ((appC r1461 [r1192])).bind fun r1462 => ((appC r1460 [r1194])).bind fun r1463 => ((getI y1190.2.2 y1190.1)).bind fun r1464 => cond (decide (y1190.1 = y1190.1)) (((setI y1190.2.2 y1190.1 r1462)).bind fun r1465 => ((getI y1190.2.1 y1190.1)).bind fun r1466 => cond (decide (y1190.1 = y1190.1)) (((setI y1190.2.1 y1190.1 r1463)).bind fun r1467 => some (.inl (r1467, r1465))) ((outI))) ((outI))) (((getI y1190.2.2 y1190.1)).bind fun r1468 => ((appC r1468 [r1192])).bind fun r1469 => ((appC r1460 [r1194])).bind fun r1470 => ((getI y1190.2.2 y1190.1)).bind fun r1471 => cond (decide (y1190.1 = y1190.1)) (((setI y1190.2.2 y1190.1 r1469)).bind fun r1472 => ((getI y1190.2.1 y1190.1)).bind fun r1473 => cond (decide (y1190.1 = y1190.1)) (((setI y1190.2.1 y1190.1 r1470)).bind fun r1474 => some (.inl (r1474, r1472))) ((outI))) ((outI))))))))) (fun y1475 : ((List (List Bool)) × (List (List Bool))) => some (.inl ((w64 (y1190.1 + (1 : Int))), (y1475.1, y1475.2))))) (outR (jn (iter lf (fun y1476 : (Int × (List Int)) => cond (decide (y1476.1 ≥ (0 : Int))) (((getI y1476.2 y1476.1)).bind fun r1477 => ((getI y1476.2 y1476.1)).bind fun r1478 => ((getI r1180 y1476.1)).bind fun r1479 => cond (decide (r1478 = (w64 ((r1479.length : Int) - (1 : Int))))) (((getI y1476.2 y1476.1)).bind fun r1480 => ((getI y1476.2 y1476.1)).bind fun r1481 => ((setI y1476.2 y1476.1 (0 : Int))).bind fun r1482 => some (.inl ((w64 (y1476.1 - (1 : Int))), r1482))) (some (.inr (.inl (y1476.1, y1476.2))))) (some (.inr (.inl (y1476.1, y1476.2))))) ((w64 ((r1180.length : Int) - (1 : Int))), y1182.1)) (fun y1483 : (Int × (List Int)) => cond (decide (y1483.1 < (0 : Int))) (outR (iter lf (fun y1484 : ((List (Int × (Int × Int))) × (Int × ((List (List Bool)) × (List (List Bool))))) => cond (decide (y1484.2.1 < (a2.length : Int))) (((getI y1484.2.2.1 y1484.2.1)).bind fun r1485 => ((getI y1484.2.2.2 y1484.2.1)).bind fun r1486 => ((F125 Tryz.prog lf r1485)).bind fun r1487 => ((F125 Tryz.prog lf r1486)).bind fun r1488 => ((appC y1484.1 [(y1484.2.1, (r1487, r1488))])).bind fun r1489 => some (.inl (r1489, ((w64 (y1484.2.1 + (1 : Int))), (y1484.2.2.1, y1484.2.2.2))))) (some (.inr (y1484.1, (0 : Int))))) (([] : List (Int × (Int × Int))), ((0 : Int), (y1190.2.2, y1190.2.1))))) (((getI y1483.2 y1483.1)).bind fun r1490 => ((getI y1483.2 y1483.1)).bind fun r1491 => ((getI y1483.2 y1483.1)).bind fun r1492 => ((getI y1483.2 y1483.1)).bind fun r1493 => ((setI y1483.2 y1483.1 (w64 (r1491 + (1 : Int))))).bind fun r1494 => some (.inl (r1494, (y1190.2.1, y1190.2.2)))))))) ((0 : Int), (y1182.2.1, y1182.2.2))))) (([] : List Int), (0 : Int))) (r1181, (y1177.2, y1177.1))))) := by kernel_rfl
def S69x : FuncId → Sp := fun g => match g with
  | 69 => { joins := [(16, [(.cell 10 0, .own .bool 4), (.cell 10 1, .own .bool 4)]), (7, [(.slot 11, .b2 199 .bool 4)]), (6, [(.slot 10, .b2 199 .bool 4)])], loops := [(21, [(.slot 17, .own (.pair .i (.pair .i .i)) 68), (.slot 83, .dat .i)]), (13, [(.slot 57, .dat .i), (.cell 11 0, .own .bool 4), (.cell 10 0, .own .bool 4), (.cell 10 1, .own .bool 4), (.cell 11 1, .own .bool 4)]), (8, [(.slot 43, .dat .i), (.cell 11 0, .own .bool 4), (.cell 10 0, .own .bool 4), (.cell 10 1, .own .bool 4), (.cell 11 1, .own .bool 4)])] }
  | 128 => { nz := [(11, [12])] }
  | _ => {}
noncomputable def F69x (P : Program) (lf : Nat) (x : tt [(true, (.pair .str (.pair (.sl (.pair .str (.pair .i .i))) (.sl Yq)))), (false, .i), (false, (.sl (.pair .str (.pair .i .i))))]) : Option (tt [(false, (.sl (.pair .i (.pair .i .i)))), (false, .i)]) := fnF P (C38x P lf) S69x 69 [(true, (.pair .str (.pair (.sl (.pair .str (.pair .i .i))) (.sl Yq)))), (false, .i), (false, (.sl (.pair .str (.pair .i .i))))] [(false, (.sl (.pair .i (.pair .i .i)))), (false, .i)] lf x
noncomputable def C69x (P : Program) (lf : Nat) : FuncId → Option Con := extC (C38x P lf) 69 (dataCon [(true, (.pair .str (.pair (.sl (.pair .str (.pair .i .i))) (.sl Yq)))), (false, .i), (false, (.sl (.pair .str (.pair .i .i))))] [(false, (.sl (.pair .i (.pair .i .i)))), (false, .i)] (F69x P lf))
theorem F69x_eq (lf : Nat) (a0 : ByteArray) (a1 : Yf) (a2 : Yr) (a3 : Int) (a4 : Yf) : F69x Tryz.prog lf ((a0, (a1, a2)), (a3, a4)) =
  ((F149x Tryz.prog lf ((a0, (a1, a2)), ((0 : Int), (false, (a3, a4)))))).bind fun r121 => cond (!(decide (r121 = (0 : Int)))) (some (([] : List (Int × (Int × Int))), r121)) (jn (agree (((mkC (a2.length : Int) false)).bind fun r122 => agree (((mkC (a2.length : Int) false)).bind fun r123 => some (.inl (r122, r123))) (((mkC (a2.length : Int) false)).bind fun r124 => some (.inl (r122, r124)))) (agree (((mkC (a2.length : Int) false)).bind fun r125 => agree (((mkC (a2.length : Int) false)).bind fun r126 => some (.inl (r126, r125))) (((mkC (a2.length : Int) false)).bind fun r127 => some (.inl (r127, r125)))) (agree (((mkC (a2.length : Int) false)).bind fun r128 => ((mkC (a2.length : Int) false)).bind fun r129 => some (.inl (r128, r129))) (((mkC (a2.length : Int) false)).bind fun r130 => ((mkC (a2.length : Int) false)).bind fun r131 => some (.inl (r131, r130)))))) (fun y132 : ((List Bool) × (List Bool)) => jn (agree (((mkC (a2.length : Int) false)).bind fun r133 => agree (((mkC (a2.length : Int) false)).bind fun r134 => some (.inl (r133, r134))) (((mkC (a2.length : Int) false)).bind fun r135 => some (.inl (r133, r135)))) (agree (((mkC (a2.length : Int) false)).bind fun r136 => agree (((mkC (a2.length : Int) false)).bind fun r137 => some (.inl (r137, r136))) (((mkC (a2.length : Int) false)).bind fun r138 => some (.inl (r138, r136)))) (agree (((mkC (a2.length : Int) false)).bind fun r139 => ((mkC (a2.length : Int) false)).bind fun r140 => some (.inl (r139, r140))) (((mkC (a2.length : Int) false)).bind fun r141 => ((mkC (a2.length : Int) false)).bind fun r142 => some (.inl (r142, r141)))))) (fun y143 : ((List Bool) × (List Bool)) => ((F27x Tryz.prog lf ((a0, (a1, a2)), a4))).bind fun r144 => iter lf (fun y145 : (Int × ((List Bool) × ((List Bool) × ((List Bool) × (List Bool))))) => cond (decide (y145.1 < (r144.length : Int))) (((getI r144 y145.1)).bind fun r146 => ((F40x Tryz.prog lf ((a0, (a1, a2)), (a3, r146)))).bind fun r147 => ((F26x Tryz.prog lf ((a0, (a1, a2)), (a3, r146)))).bind fun r148 => iter lf (fun y149 : (Int × ((List Bool) × ((List Bool) × ((List Bool) × (List Bool))))) => cond (decide (y149.1 < (r147.length : Int))) (jn (((getI r147 y149.1)).bind fun r150 => ((F150x Tryz.prog lf r150)).bind fun r151 => cond (decide (r151 = (0 : Int))) (((getI y149.2.2.1 y149.1)).bind fun r152 => ((getI y149.2.2.1 y149.1)).bind fun r153 => ((setI y149.2.2.1 y149.1 true)).bind fun r154 => some (.inl (r154, y149.2.2.2.1))) (cond (decide (r151 = (1 : Int))) (((getI y149.2.2.2.1 y149.1)).bind fun r155 => ((getI y149.2.2.2.1 y149.1)).bind fun r156 => ((setI y149.2.2.2.1 y149.1 true)).bind fun r157 => some (.inl (y149.2.2.1, r157))) ((outI)))) (fun y158 : ((List Bool) × (List Bool)) => ((getI r148 y149.1)).bind fun r159 => ((F150x Tryz.prog lf r159)).bind fun r160 => cond (decide (r160 = (0 : Int))) (((getI y149.2.1 y149.1)).bind fun r161 => ((getI y149.2.1 y149.1)).bind fun r162 => ((setI y149.2.1 y149.1 true)).bind fun r163 => some (.inl ((w64 (y149.1 + (1 : Int))), (r163, (y158.1, (y158.2, y149.2.2.2.2)))))) (cond (decide (r160 = (1 : Int))) (((getI y149.2.2.2.2 y149.1)).bind fun r164 => ((getI y149.2.2.2.2 y149.1)).bind fun r165 => ((setI y149.2.2.2.2 y149.1 true)).bind fun r166 => some (.inl ((w64 (y149.1 + (1 : Int))), (y149.2.1, (y158.1, (y158.2, r166)))))) ((outI))))) (some (.inr (.inl ((w64 (y145.1 + (1 : Int))), (y149.2.1, (y149.2.2.1, (y149.2.2.2.1, y149.2.2.2.2)))))))) ((0 : Int), (y145.2.1, (y145.2.2.1, (y145.2.2.2.1, y145.2.2.2.2))))) (outR (iter lf (fun y167 : ((List (Int × (Int × Int))) × Int) => cond (decide (y167.2 < (a2.length : Int))) (((getI y145.2.2.1 y167.2)).bind fun r168 => ((getI y145.2.2.1 y167.2)).bind fun r169 => ((getI y145.2.2.2.1 y167.2)).bind fun r170 => ((getI y145.2.2.2.1 y167.2)).bind fun r171 => ((getI y145.2.1 y167.2)).bind fun r172 => ((getI y145.2.1 y167.2)).bind fun r173 => ((getI y145.2.2.2.2 y167.2)).bind fun r174 => ((getI y145.2.2.2.2 y167.2)).bind fun r175 => ((F148x Tryz.prog lf (r169, r171))).bind fun r176 => ((F148x Tryz.prog lf (r173, r175))).bind fun r177 => ((appC y167.1 [(y167.2, (r176, r177))])).bind fun r178 => some (.inl (r178, (w64 (y167.2 + (1 : Int)))))) (some (.inr (y167.1, (0 : Int))))) (([] : List (Int × (Int × Int))), (0 : Int))))) ((0 : Int), (y143.1, (y132.1, (y132.2, y143.2))))))) := by kernel_rfl
def S68x : FuncId → Sp := fun g => match g with
  | 128 => { nz := [(11, [12])] }
  | _ => {}
noncomputable def F68x (P : Program) (lf : Nat) (x : tt [(true, (.pair .str (.pair (.sl (.pair .str (.pair .i .i))) (.sl Yq)))), (false, .i), (false, .i), (false, (.sl (.pair .str (.pair .i .i))))]) : Option (tt [(false, .i), (false, .i)]) := fnF P (C69x P lf) S68x 68 [(true, (.pair .str (.pair (.sl (.pair .str (.pair .i .i))) (.sl Yq)))), (false, .i), (false, .i), (false, (.sl (.pair .str (.pair .i .i))))] [(false, .i), (false, .i)] lf x
noncomputable def C68x (P : Program) (lf : Nat) : FuncId → Option Con := extC (C69x P lf) 68 (dataCon [(true, (.pair .str (.pair (.sl (.pair .str (.pair .i .i))) (.sl Yq)))), (false, .i), (false, .i), (false, (.sl (.pair .str (.pair .i .i))))] [(false, .i), (false, .i)] (F68x P lf))
theorem F68x_eq (lf : Nat) (a0 : ByteArray) (a1 : Yf) (a2 : Yr) (a3 : Int) (a4 : Int) (a5 : Yf) : F68x Tryz.prog lf ((a0, (a1, a2)), (a3, (a4, a5))) =
  ((F149x Tryz.prog lf ((a0, (a1, a2)), (a3, (true, (a4, a5)))))).bind fun r9 => cond (!(decide (r9 = (0 : Int)))) (some ((0 : Int), r9)) (((F69x Tryz.prog lf ((a0, (a1, a2)), (a4, a5)))).bind fun r10 => ((getI r10.1 a3)).bind fun r11 => some (r11.2.1, (0 : Int))) := by kernel_rfl
def S45x : FuncId → Sp := fun g => match g with
  | 45 => { loops := [(4, [(.slot 13, .dat .i)])] }
  | 128 => { nz := [(11, [12])] }
  | _ => {}
noncomputable def F45x (P : Program) (lf : Nat) (x : tt [(false, (.sl (.pair .i (.pair .i .i)))), (false, (.sl (.pair .i (.pair .i .i))))]) : Option (tt [(false, .bool)]) := fnF P (C68x P lf) S45x 45 [(false, (.sl (.pair .i (.pair .i .i)))), (false, (.sl (.pair .i (.pair .i .i))))] [(false, .bool)] lf x
noncomputable def C45x (P : Program) (lf : Nat) : FuncId → Option Con := extC (C68x P lf) 45 (dataCon [(false, (.sl (.pair .i (.pair .i .i)))), (false, (.sl (.pair .i (.pair .i .i))))] [(false, .bool)] (F45x P lf))
theorem F45x_eq (lf : Nat) (a0 : (List (Int × (Int × Int)))) (a1 : (List (Int × (Int × Int)))) : F45x Tryz.prog lf (a0, a1) =
  cond (!(decide ((a0.length : Int) = (a1.length : Int)))) (some false) (iter lf (fun y5 : Int => cond (decide (y5 < (a0.length : Int))) (((getI a0 y5)).bind fun r6 => ((getI a1 y5)).bind fun r7 => cond (!((decide (r6.1 = r7.1)) && ((decide (r6.2.1 = r7.2.1)) && ((decide (r6.2.2 = r7.2.2)) && true)))) (some (.inr false)) (some (.inl (w64 (y5 + (1 : Int)))))) (some (.inr true))) (0 : Int)) := by kernel_rfl
def S13x : FuncId → Sp := fun g => match g with
  | 128 => { nz := [(11, [12])] }
  | _ => {}
noncomputable def F13x (P : Program) (lf : Nat) (x : tt [(true, (.pair .str (.pair (.sl (.pair .str (.pair .i .i))) (.sl Yq)))), (true, (.pair .i (.pair .i (.pair (.sl (.pair .str (.pair .i .i))) .str)))), (true, (.sl Yp))]) : Option (tt [(false, .bool)]) := fnF P (C45x P lf) S13x 13 [(true, (.pair .str (.pair (.sl (.pair .str (.pair .i .i))) (.sl Yq)))), (true, (.pair .i (.pair .i (.pair (.sl (.pair .str (.pair .i .i))) .str)))), (true, (.sl Yp))] [(false, .bool)] lf x
theorem F13x_eq (lf : Nat) (a0 : ByteArray) (a1 : Yf) (a2 : Yr) (a3 : Int) (a4 : Int) (a5 : Yf) (a6 : ByteArray) (a7 : Yt) : F13x Tryz.prog lf ((a0, (a1, a2)), ((a3, (a4, (a5, a6))), a7)) =
  ((F65x Tryz.prog lf (a5, a7))).bind fun r18 => ((F66x Tryz.prog lf (a5, a7))).bind fun r19 => ((F67x Tryz.prog lf ((a0, (a1, a2)), (a3, (a4, a5))))).bind fun r20 => ((F68x Tryz.prog lf ((a0, (a1, a2)), (a3, (a4, a5))))).bind fun r21 => ((F38x Tryz.prog lf ((a0, (a1, a2)), (a4, a5)))).bind fun r22 => ((F69x Tryz.prog lf ((a0, (a1, a2)), (a4, a5)))).bind fun r23 => ((F23 Tryz.prog lf ((a0, (a1, a2)), (a4, a5)))).bind fun r24 => ((F70x Tryz.prog lf ((a0, (a1, a2)), (a4, a5)))).bind fun r25 => cond (decide (r18.1 = r19.1)) (cond (decide (r18.2 = r19.2)) (cond (decide (r20.1 = r21.1)) (cond (decide (r20.2 = r21.2)) (((F45x Tryz.prog lf (r22.1, r23.1))).bind fun r26 => cond r26 (cond (decide (r22.2 = r23.2)) (cond (decide (r24.1 = r25.1)) (cond (decide (r24.2 = r25.2)) (((F22 Tryz.prog lf ())).bind fun r27 => some r27) (some false)) (some false)) (some false)) (some false)) (some false)) (some false)) (some false)) (some false) := by kernel_rfl
end Go.K
set_option linter.unusedSimpArgs false
namespace Go.K
open Go.Sl Go.Sx Go.Proofs
theorem F107x_G (lf : Nat) (x : ((ByteArray × (Yf × Yr)) × Yf)) : F107x Tryz.prog lf x = G107 lf x := (F107x_eq lf x.1.1 x.1.2.1 x.1.2.2 x.2).trans (by
  unfold G107
  (try simp only [agree_self, Lib.toList_data]); first | done | rfl)
theorem F56x_G (lf : Nat) (x : (List (List Int))) : F56x Tryz.prog lf x = G56 lf x := (F56x_eq lf x).trans (by
  unfold G56
  (try simp only [agree_self, Lib.toList_data]); first | done | rfl)
theorem F57x_G (lf : Nat) (x : (Yf × (Yt × (List Int)))) : F57x Tryz.prog lf x = G57 lf x := (F57x_eq lf x.1 x.2.1 x.2.2).trans (by
  unfold G57
  (try simp only [F98_G, F111_G, agree_self, Lib.toList_data]); first | done | rfl)
theorem F26x_G (lf : Nat) (x : ((ByteArray × (Yf × Yr)) × (Int × (List Int)))) : F26x Tryz.prog lf x = G26 lf x := (F26x_eq lf x.1.1 x.1.2.1 x.1.2.2 x.2.1 x.2.2).trans (by
  unfold G26
  (try simp only [F37_G, F57x_G, F126_G, agree_self, Lib.toList_data]); first | done | rfl)
theorem F40x_G (lf : Nat) (x : ((ByteArray × (Yf × Yr)) × (Int × (List Int)))) : F40x Tryz.prog lf x = G40 lf x := (F40x_eq lf x.1.1 x.1.2.1 x.1.2.2 x.2.1 x.2.2).trans (by
  unfold G40
  (try simp only [F37_G, F57x_G, F126_G, agree_self, Lib.toList_data]); first | done | rfl)
theorem F28x_G (lf : Nat) (x : ((List Bool) × Int)) : F28x Tryz.prog lf x = G28 lf x := (F28x_eq lf x.1 x.2).trans (by
  unfold G28
  (try simp only [agree_self, Lib.toList_data]); first | done | rfl)
theorem F148x_G (lf : Nat) (x : (Bool × Bool)) : F148x Tryz.prog lf x = G148 lf x := (F148x_eq lf x.1 x.2).trans (by
  unfold G148
  (try simp only [agree_self, Lib.toList_data]); first | done | rfl)
theorem F149x_G (lf : Nat) (x : ((ByteArray × (Yf × Yr)) × (Int × (Bool × (Int × Yf))))) : F149x Tryz.prog lf x = G149 lf x := (F149x_eq lf x.1.1 x.1.2.1 x.1.2.2 x.2.1 x.2.2.1 x.2.2.2.1 x.2.2.2.2).trans (by
  unfold G149
  (try simp only [F32_G, F107x_G, F126_G, agree_self, Lib.toList_data]); first | done | rfl)
theorem F27x_G (lf : Nat) (x : ((ByteArray × (Yf × Yr)) × Yf)) : F27x Tryz.prog lf x = G27 lf x := (F27x_eq lf x.1.1 x.1.2.1 x.1.2.2 x.2).trans (by
  unfold G27
  (try simp only [F56x_G, F108_G, F109_G, agree_self, Lib.toList_data]); first | done | rfl)
theorem F150x_G (lf : Nat) (x : Bool) : F150x Tryz.prog lf x = G150 lf x := (F150x_eq lf x).trans (by
  unfold G150
  (try simp only [agree_self, Lib.toList_data]); first | done | rfl)
theorem F151x_G (lf : Nat) (x : ((ByteArray × (Yf × Yr)) × (Int × Yf))) : F151x Tryz.prog lf x = G151 lf x := (F151x_eq lf x.1.1 x.1.2.1 x.1.2.2 x.2.1 x.2.2).trans (by
  unfold G151
  (try simp only [F26x_G, F27x_G, F28x_G, F148x_G, agree_self, Lib.toList_data]); first | done | rfl)
theorem F70x_G (lf : Nat) (x : ((ByteArray × (Yf × Yr)) × (Int × Yf))) : F70x Tryz.prog lf x = G70 lf x := (F70x_eq lf x.1.1 x.1.2.1 x.1.2.2 x.2.1 x.2.2).trans (by
  unfold G70
  (try simp only [F149x_G, F151x_G, agree_self, Lib.toList_data]); first | done | rfl)
theorem F66x_G (lf : Nat) (x : (Yf × Yt)) : F66x Tryz.prog lf x = G66 lf x := (F66x_eq lf x.1 x.2).trans (by
  unfold G66
  (try simp only [F30_G, F56x_G, F57x_G, F99_G, F108_G, F111_G, F117_G, F119_G, F148x_G, agree_self, Lib.toList_data]); first | done | rfl)
theorem F65x_G (lf : Nat) (x : (Yf × Yt)) : F65x Tryz.prog lf x = G65 lf x := (F65x_eq lf x.1 x.2).trans (by
  unfold G65
  (try simp only [F29_G, F94_G, F110_G, F112_G, F114_G, F115_G, F125_G, F131_G, F147_G, agree_self, Lib.toList_data]); first | done | rfl)
theorem F67x_G (lf : Nat) (x : ((ByteArray × (Yf × Yr)) × (Int × (Int × Yf)))) : F67x Tryz.prog lf x = G67 lf x := (F67x_eq lf x.1.1 x.1.2.1 x.1.2.2 x.2.1 x.2.2.1 x.2.2.2).trans (by
  unfold G67
  (try simp only [F31_G, F91_G, F115_G, F116_G, F125_G, F130_G, F131_G, F173_G, agree_self, Lib.toList_data]); first | done | rfl)
theorem F38x_G (lf : Nat) (x : ((ByteArray × (Yf × Yr)) × (Int × Yf))) : F38x Tryz.prog lf x = G38 lf x := (F38x_eq lf x.1.1 x.1.2.1 x.1.2.2 x.2.1 x.2.2).trans (by
  unfold G38
  (try simp only [F31_G, F91_G, F115_G, F116_G, F125_G, F130_G, F131_G, F173_G, agree_self, Lib.toList_data]); first | done | rfl)
theorem F69x_G (lf : Nat) (x : ((ByteArray × (Yf × Yr)) × (Int × Yf))) : F69x Tryz.prog lf x = G69 lf x := (F69x_eq lf x.1.1 x.1.2.1 x.1.2.2 x.2.1 x.2.2).trans (by
  unfold G69
  (try simp only [F26x_G, F27x_G, F40x_G, F148x_G, F149x_G, F150x_G, agree_self, Lib.toList_data]); first | done | rfl)
theorem F68x_G (lf : Nat) (x : ((ByteArray × (Yf × Yr)) × (Int × (Int × Yf)))) : F68x Tryz.prog lf x = G68 lf x := (F68x_eq lf x.1.1 x.1.2.1 x.1.2.2 x.2.1 x.2.2.1 x.2.2.2).trans (by
  unfold G68
  (try simp only [F69x_G, F149x_G, agree_self, Lib.toList_data]); first | done | rfl)
theorem F45x_G (lf : Nat) (x : ((List (Int × (Int × Int))) × (List (Int × (Int × Int))))) : F45x Tryz.prog lf x = G45 lf x := (F45x_eq lf x.1 x.2).trans (by
  unfold G45
  (try simp only [agree_self, Lib.toList_data]); first | done | rfl)
theorem F13x_G (lf : Nat) (x : ((ByteArray × (Yf × Yr)) × ((Int × (Int × (Yf × ByteArray))) × Yt))) : F13x Tryz.prog lf x = G13 lf x := (F13x_eq lf x.1.1 x.1.2.1 x.1.2.2 x.2.1.1 x.2.1.2.1 x.2.1.2.2.1 x.2.1.2.2.2 x.2.2).trans (by
  unfold G13
  (try simp only [F22_G, F23_G, F38x_G, F45x_G, F65x_G, F66x_G, F67x_G, F68x_G, F69x_G, F70x_G, agree_self, Lib.toList_data]); first | done | rfl)
end Go.K
namespace Go.Sx
open Go.Sl Go.Shelf Go.Proofs
variable {P : Program} {ρ : Ren} {h : Zone} {L : List Atom} {w : World} {E : TypeId} {o : Option Addr} {cap : Nat} {xs : List Int}
theorem rows_int : ∀ {xs : List Int} {cs : List Value}, Rows Ty.int h cs xs ↔ cs = xs.map (Value.int .i64)
  | [], cs => by simp [Rows]
  | x :: xs, cs => by
    constructor
    · rintro ⟨c, d, rfl, hc, hd⟩
      have hc' : c = [.int .i64 x] := hc
      rw [hc', (rows_int (xs := xs)).1 hd]
      rfl
    · intro e
      subst e
      exact ⟨[.int .i64 x], xs.map (Value.int .i64), rfl, rfl, rows_int.2 rfl⟩
theorem own_ints {cur : Array Value} (hr : Rows Ty.int h (cur.toList.take (xs.length * Ty.int.size)) xs) : cur.toList.take xs.length = xs.map (Value.int .i64) := by
  have := rows_int.1 hr
  simpa [Ty.int] using this
theorem St.ownPut (hS : St h L w) {j : Nat} {g : Nat} {ys : List Int} (hj : L[j]? = some (ownS Ty.int E (some ⟨g, 0, none⟩) cap xs)) (hl : ys.length = xs.length) (n : Nat) (os : Array Obj) :
    St h (L.set j (ownS Ty.int E (some ⟨g, 0, none⟩) cap ys)) (Sort.grow (Sort.putRow (Value.int .i64) (Sort.ahead w n) g 0 ys.toArray) os) := by
  obtain ⟨x, hx, hxw, dx, hset⟩ := hS.focus hj
  rcases hx with ⟨e, _⟩ | ⟨g', cur, e, rfl, h1, h2, h3, h4⟩
  · cases e
  · have hg : g' = g := by cases e; rfl
    subst hg
    have hb : w.heap[g']? = some (.cells cur E (0, 0)) := Hp.one_le.1 hxw
    have hsz : cur.size = cap := by simpa [Ty.int] using h3
    have hlen : ys.length ≤ cur.size := by omega
    have hgr := grownBy_sortedI (w := w) (g := g') (n := n) (os := os) ys.toArray
    refine hset _ (ownS Ty.int E (some ⟨g', 0, none⟩) cap ys) (Hp.one g' (.cells (Sort.putCells (Value.int .i64) 0 ys.toArray cur) E (0, 0)))
      (.inr ⟨g', _, rfl, rfl, by omega, h2, by simp [Sort.putCells, h3], ?_⟩) (Hp.one_le.2 (heap_sortedI ys.toArray hb)) (fun b hb' hn => hgr.block b hb' fun e => ?_) (fun b o' e => .inr ?_) hgr.os hgr.tape hgr.output
    · have := take_putCellsI cur ys hlen
      have e1 : ys.length * Ty.int.size = ys.length := by simp [Ty.int]
      rw [e1, this]
      exact rows_int.2 rfl
    · cases e; simp [Hp.one] at hn
    · unfold Hp.one at e ⊢
      split at e
      · rename_i hbg; simp [hbg]
      · cases e
theorem sortOwn (Ly : Lays.n189 P ρ) (hS : St h L w) {j : Nat} (hj : L[j]? = some (ownS Ty.int E o cap xs)) (hsz : xs.length ≤ 4398046511104) :
    Calls P (ρ.f 189) #[.slice o xs.length cap] w fun e w' => ∃ v, e = .returned v ∧ v = .tuple #[] ∧ St h (L.set j (ownS Ty.int E o cap (sortL xs))) w' := by
  obtain ⟨x, hx, hxw, dx, hset⟩ := hS.focus hj
  rcases hx with ⟨rfl, rfl, rfl, rfl⟩ | ⟨g, cur, rfl, rfl, h1, h2, h3, h4⟩
  · refine (Any.slices_Sort_int_none Ly none 0 w).mono ?_
    rintro e w' ⟨rfl, rfl⟩
    refine ⟨_, rfl, rfl, ?_⟩
    have : sortL [] = [] := rfl
    rw [this]
    exact hset w' (ownS Ty.int E none 0 []) Hp.nil (.inl ⟨rfl, rfl, rfl, rfl⟩) (Hp.nil_le _) (fun _ _ _ => rfl) (fun b o e => by simp [Hp.nil] at e) rfl rfl rfl
  · have hb : w.heap[g]? = some (.cells cur E (0, 0)) := Hp.one_le.1 hxw
    have hH := holds_of_blockI hb (own_ints h4)
    refine (Any.slices_Sort_int Ly g 0 cap xs w hH (Array.getElem?_eq_some_iff.1 hb).1 (by omega)).mono ?_
    rintro e w' ⟨rfl, n, os, rfl⟩
    rw [sortL_eq]
    exact ⟨_, rfl, rfl, St.ownPut hS hj (sortL_len xs).symm n os⟩
theorem compactOwn (Ly : SlLaysN.n43 P ρ) (hS : St h L w) {j : Nat} (hj : L[j]? = some (ownS Ty.int E o cap xs)) (hsz : xs.length ≤ 4398046511104) :
    Calls P (ρ.f 43) #[.slice o xs.length cap] w fun e w' => ∃ v, e = .returned v ∧ v = .slice o (compL xs).length cap ∧ St h (L.set j (ownS Ty.int E o cap (compL xs))) w' := by
  obtain ⟨x, hx, hxw, dx, hset⟩ := hS.focus hj
  rcases hx with ⟨rfl, rfl, rfl, rfl⟩ | ⟨g, cur, rfl, rfl, h1, h2, h3, h4⟩
  · refine (AnyG.slices_Compact_int_empty Ly none 0 w).mono ?_
    rintro e w' ⟨rfl, rfl⟩
    have hc : compL [] = [] := by simp [compL, Lib.compact, Lib.compactUpTo]
    rw [hc]
    exact ⟨_, rfl, rfl, hset w' (ownS Ty.int E none 0 []) Hp.nil (.inl ⟨rfl, rfl, rfl, rfl⟩) (Hp.nil_le _) (fun _ _ _ => rfl) (fun b o e => by simp [Hp.nil] at e) rfl rfl rfl⟩
  · have hb : w.heap[g]? = some (.cells cur E (0, 0)) := Hp.one_le.1 hxw
    have hH := holds_of_blockI hb (own_ints h4)
    refine (AnyG.slices_Compact_int Ly g 0 cap xs w hH (by omega) h1).mono ?_
    rintro e w' ⟨rfl, q, rfl⟩
    have hle : (Lib.compact xs).length ≤ xs.length := by
      unfold Lib.compact Lib.compactUpTo
      rw [List.length_map]
      exact Nat.le_trans (List.length_filter_le _ _) (by simp)
    have hlen : (Lib.compact xs ++ List.replicate (xs.length - (Lib.compact xs).length) 0).length = xs.length := by
      rw [List.length_append, List.length_replicate]; omega
    have h5 := St.ownPut hS hj hlen q #[]
    rw [Sort.grow_empty] at h5
    refine ⟨_, rfl, rfl, ?_⟩
    have hlt := (List.getElem?_eq_some_iff.1 hj).1
    have h6 := h5.ownTake (j := j) (T := Ty.int) (E := E) (o := some ⟨g, 0, none⟩) (cap := cap) (xs := Lib.compact xs ++ List.replicate (xs.length - (Lib.compact xs).length) 0) (by simp [hlt]) (n := (Lib.compact xs).length) (by rw [hlen]; exact hle)
    have h7 : (Lib.compact xs ++ List.replicate (xs.length - (Lib.compact xs).length) 0).take (Lib.compact xs).length = compL xs := by simp [compL]
    rw [h7] at h6
    simpa using h6
def lenC {α : Type} (xs : List α) : Option Unit := if xs.length ≤ 1099511627776 then some () else none
theorem lenC_spec {α : Type} {xs : List α} {u : Unit} (e : lenC xs = some u) : xs.length ≤ 1099511627776 := by
  unfold lenC at e
  split at e
  · assumption
  · cases e
end Go.Sx
namespace Go.K
open Go.Sl Go.Sx Go.Proofs Go.Shelf Go.RowKit
variable {P : Program} {ρ' : Ren} {E : Env}
theorem foldl_sum (k : Nat) : ∀ (xs : List ByteArray) (n : Nat), xs.foldl (fun n x => n + x.size + k) n = n + (xs.map fun x => x.size + k).sum
  | [], n => by simp
  | x :: xs, n => by rw [List.foldl_cons, foldl_sum k xs]; simp; omega
theorem join_data (sep : ByteArray) : ∀ (xs : List ByteArray) (r : ByteArray), (xs.foldl (fun r y => r ++ sep ++ y) r).data.toList = r.data.toList ++ (xs.map fun y => sep.data.toList ++ y.data.toList).flatten
  | [], r => by simp
  | y :: xs, r => by rw [List.foldl_cons, join_data sep xs]; simp [ByteArray.data_append]
theorem size_len' (s : ByteArray) : s.size = s.data.toList.length := by simp
theorem lens_eq : ∀ xs : List ByteArray, Lib.lens (xs.map (·.data.toList)) = (xs.map (·.size)).sum
  | [] => rfl
  | x :: xs => by
    have := lens_eq xs
    simp only [Lib.lens, List.map_cons, List.flatten_cons, List.length_append, List.sum_cons] at this ⊢
    rw [this, size_len']
theorem sum_add (k : Nat) : ∀ xs : List ByteArray, (xs.map fun x => x.size + (k + 1)).sum = (xs.map (·.size)).sum + k * xs.length + xs.length
  | [] => by simp
  | x :: xs => by
    simp only [List.map_cons, List.sum_cons, sum_add k xs, List.length_cons, Nat.mul_add]; omega
theorem joinC_lib {sep : ByteArray} {xs : List ByteArray} {y : ByteArray} (h : joinC sep xs = some y) : y = ⟨(Lib.join (xs.map (·.data.toList)) sep.data.toList).toArray⟩ ∧ (Lib.join (xs.map (·.data.toList)) sep.data.toList).length ≤ 140737488355328 ∧ xs.length ≤ 140737488355328 := by
  unfold joinC at h
  split at h
  · rename_i hc
    rw [foldl_sum, sum_add] at hc
    have hll := lens_eq xs
    cases xs with
    | nil =>
      simp only [Option.some.injEq] at h
      subst h
      exact ⟨rfl, by simp [Lib.join_nil], by simp⟩
    | cons x xs =>
      simp only [Option.some.injEq] at h
      have hj : (Lib.join ((x :: xs).map (·.data.toList)) sep.data.toList) = y.data.toList := by
        rw [← h, join_data, List.map_cons, Lib.join_cons]
        congr 1
        unfold Lib.joinTail
        rw [List.map_map]
        rfl
      have hlen := Lib.join_length x.data.toList (xs.map (·.data.toList)) sep.data.toList
      rw [List.map_cons] at hj hll
      simp only [List.length_cons, List.length_map] at hc hlen
      rw [hll] at hlen
      refine ⟨?_, ?_, ?_⟩
      · rw [List.map_cons, hj]
      · rw [List.map_cons, hlen]
        have hs : sep.data.toList.length = sep.size := (size_len' sep).symm
        rw [hs]
        have := Nat.mul_le_mul (Nat.le_refl sep.size) (show xs.length ≤ xs.length + 1 by omega)
        omega
      · simp only [List.length_cons]; omega
  · cases h
theorem join_valid (Ly : Lays.n156 P ρ') (X : Builder.Extra P ρ') : Valid E P (ρ'.f 156) [aSs, aS] [aS] fun x => joinC x.2 x.1 := by
  intro x y hx z L w vs hz hrep hs
  obtain ⟨v, r, rfl, hv, u, rfl, hu⟩ := hrep
  have h2 := rep_str hu
  subst h2
  obtain ⟨rfl, hl, hn⟩ := joinC_lib hx
  have hv' := rep1 hv
  obtain ⟨o, c, e1, hsl⟩ := hv'
  simp only [List.cons.injEq, and_true] at e1
  subst e1
  have fin : ∀ (o : Option Addr), (o = none → x.1 = []) → (∀ a, o = some a → ∀ j s, x.1[j]? = some s → z.cell? (a.add j) = some (.string s)) → x.1.length ≤ c → Calls P (ρ'.f 156) #[.slice o x.1.length c, .string x.2] w fun e w' => e = .returned (.string ⟨(Lib.join (x.1.map (·.data.toList)) x.2.data.toList).toArray⟩) ∧ Below w.heap.size w w' := by
    intro o h0 h1 hcap
    cases hx1 : x.1 with
    | nil =>
      simp only [List.length_nil]
      refine (Any.strings_Join_none Ly X o c x.2 w).mono fun e w' ⟨he, hw⟩ => ⟨he, hw ▸ Below.refl _ _⟩
    | cons s0 ss =>
      cases o with
      | none => rw [h0 rfl] at hx1; cases hx1
      | some a =>
        have hc0 := h1 a rfl 0 s0 (by rw [hx1]; rfl)
        have hspot : a.spot = none ∧ (a.add 0) = a := by
          constructor
          · unfold Zone.cell? at hc0
            split at hc0
            · split at hc0
              · cases hc0
              · rename_i hsp
                rw [add_zero' a] at hsp
                cases hs : a.spot with
                | none => rfl
                | some q => rw [hs] at hsp; simp at hsp
            · cases hc0
          · exact add_zero' a
        obtain ⟨bk, off, sp⟩ := a
        obtain ⟨hsp, _⟩ := hspot
        simp only at hsp
        subst hsp
        have hcell : ∀ (j : Nat) s, (s0 :: ss)[j]? = some s → w.cell? ⟨bk, off + j, none⟩ = some (.string s) := fun j s hj => by
          have := h1 _ rfl j s (by rw [hx1]; exact hj)
          have := hs.cell this
          have ha : (⟨bk, off, none⟩ : Addr).add j = ⟨bk, off + j, none⟩ := by unfold Addr.add; split <;> simp_all
          rwa [ha] at this
        have hbk : bk < w.heap.size := by
          have := hcell 0 s0 rfl
          unfold World.cell? at this
          cases hb : w.heap[bk]? with
          | none => rw [hb] at this; cases this
          | some ob => exact (Array.getElem?_eq_some_iff.1 hb).1
        rw [hx1] at hl hn hcap
        exact Any.strings_Join Ly X bk off c (s0 :: ss) x.2 w hcell hbk hn hcap hl
  refine (fin o (fun e => (hsl.hnil e).1) (fun a e j s hj => ?_) hsl.hcap).mono ?_
  · obtain ⟨cs, hr, hc⟩ := hsl.hat a e j s hj
    have hr' : cs = [.string s] := hr
    have := hc 0 (.string s) (by rw [hr']; rfl)
    have e1 : j * (TC.str.ty).size = j := by show j * 1 = j; omega
    rw [e1] at this
    rwa [add_zero'] at this
  · rintro en w' ⟨rfl, hb⟩
    exact ⟨_, z, rfl, Zone.le_refl _, ⟨[.string _], rfl, _, rfl, .inr ⟨rfl, rfl⟩⟩, hs.of_below hb⟩
end Go.K
namespace Go.Proofs
open Go.Shelf Go.RowKit Go.Lib
theorem Tryz.isBlank (W : World) (r : Nat) : FnGives Tryz.prog 158 #[] #[encR r] (.bool (Nat.beq r 32)) W := by
  unfold FnGives
  have e : Nat.beq r 32 = decide ((r : Int) = 32) := by
    cases h : Nat.beq r 32 with
    | true => have := Nat.eq_of_beq_eq_true h; simp; omega
    | false => have := Nat.ne_of_beq_eq_false h; simp; omega
  rw [e]
  go_enter Tryz.func158, Tryz.ntmps158
  go_wp2
  go_ret
  exact ⟨rfl, 0, rfl⟩
theorem Tryz.extraB : Builder.Extra Tryz.prog Tryz.join_ren := {
  sizeBuilder := by kernel_rfl
  liesBuilder := by kernel_rfl
  t5 := Tryz.underlying5
  a5 := Tryz.isAgg5
  z5 := Tryz.sizeOf5
  v5 := Tryz.zeroValue5
  infoByte := by kernel_rfl
  cellsByte := by kernel_rfl
  sizeByte := by kernel_rfl
  neB5 := by decide }
end Go.Proofs
namespace Go.K
open Go.Sl Go.Sx Go.Proofs Go.Shelf Go.RowKit
theorem mixedT : Tryz.prog.follows .mixedOrders = true := by kernel_rfl
abbrev HC (E : Env) (C : FuncId → Option Con) : Prop := ∀ L, envA E ∈ L → ∀ g con, C g = some con → ConOk Tryz.prog L con g
theorem sort_row : RowOk Tryz.prog 182 .i sortL := ⟨fun xs => (sortL_len xs).symm, fun hS hj hl => sortOwn Tryz.sortI hS hj hl⟩
theorem comp_cut : CutOk Tryz.prog 183 .i compL := fun hS hj hl => compactOwn Tryz.compactI hS hj hl
theorem ct_ok (lf : Nat) : HC (envT Tryz.prog 0) (CT Tryz.prog lf) := by
  intro L hL
  unfold CT
  refine extC_ok (extC_ok (extC_ok (extC_ok (extC_ok (extC_ok (extC_ok (extC_ok (fun g con h => by cases h) ?a) ?b) ?c) ?d) ?e) ?f) ?g) ?h
  case a => exact dataCon_ok (itoa_valid Tryz.itoa) hL
  case b => exact dataCon_ok (trim_valid Tryz.trim (by kernel_rfl)) hL
  case c => exact rowCon_ok sort_row
  case d => exact cutCon_ok comp_cut
  case e => exact dataCon_ok (split_valid Tryz.split (by kernel_rfl)) hL
  case f => exact atoiCon_ok Tryz.atoi
  case g => exact fieldsCon_ok Tryz.fields (enters_of Tryz.func158 (by kernel_rfl) rfl) (fun W x => Tryz.isBlank W x) (by kernel_rfl) (by kernel_rfl)
  case h => exact dataCon_ok (join_valid Tryz.join Tryz.extraB) hL
end Go.K
namespace Go.K
open Go.Sl Go.Sx Go.Proofs
theorem kcCT : HC (envT Tryz.prog 0) (CT Tryz.prog LF) := ct_ok LF
theorem kc91 : HC (envT Tryz.prog 0) (C91 Tryz.prog LF) := fun L hL => extC_ok (kcCT L hL) (dataCon_ok (fnF_valid mixedT kcCT 91 _ _ LF) hL)
theorem kc223 : HC (envT Tryz.prog 0) (C223 Tryz.prog LF) := fun L hL => extC_ok (kc91 L hL) (dataCon_ok (fnF_valid mixedT kc91 223 _ _ LF) hL)
theorem kc180 : HC (envT Tryz.prog 0) (C180 Tryz.prog LF) := fun L hL => extC_ok (kc223 L hL) (dataCon_ok (fnF_valid mixedT kc223 180 _ _ LF) hL)
theorem kc165 : HC (envT Tryz.prog 0) (C165 Tryz.prog LF) := fun L hL => extC_ok (kc180 L hL) (dataCon_ok (fnF_valid mixedT kc180 165 _ _ LF) hL)
theorem kc94 : HC (envT Tryz.prog 0) (C94 Tryz.prog LF) := fun L hL => extC_ok (kc165 L hL) (dataCon_ok (fnF_valid mixedT kc165 94 _ _ LF) hL)
theorem kc158 : HC (envT Tryz.prog 0) (C158 Tryz.prog LF) := fun L hL => extC_ok (kc94 L hL) (dataCon_ok (fnF_valid mixedT kc94 158 _ _ LF) hL)
theorem kc86 : HC (envT Tryz.prog 0) (C86 Tryz.prog LF) := fun L hL => extC_ok (kc158 L hL) (dataCon_ok (fnF_valid mixedT kc158 86 _ _ LF) hL)
theorem kc244 : HC (envT Tryz.prog 0) (C244 Tryz.prog LF) := fun L hL => extC_ok (kc86 L hL) (dataCon_ok (fnF_valid mixedT kc86 244 _ _ LF) hL)
theorem kc215 : HC (envT Tryz.prog 0) (C215 Tryz.prog LF) := fun L hL => extC_ok (kc244 L hL) (refCon_ok (fnR_valid mixedT kc244 215 _ _ _ _ _ _ LF) hL)
theorem kc216 : HC (envT Tryz.prog 0) (C216 Tryz.prog LF) := fun L hL => extC_ok (kc215 L hL) (refCon_ok (fnR_valid mixedT kc215 216 _ _ _ _ _ _ LF) hL)
theorem kc162 : HC (envT Tryz.prog 0) (C162 Tryz.prog LF) := fun L hL => extC_ok (kc216 L hL) (refCon_ok (recR_valid mixedT kc216 (fun _ => rfl) (fun _ _ => rfl) LF) hL)
theorem kc17 : HC (envT Tryz.prog 0) (C17 Tryz.prog LF) := fun L hL => extC_ok (kc162 L hL) (dataCon_ok (fnF_valid mixedT kc162 17 _ _ LF) hL)
theorem kc110 : HC (envT Tryz.prog 0) (C110 Tryz.prog LF) := fun L hL => extC_ok (kc17 L hL) (dataCon_ok (fnF_valid mixedT kc17 110 _ _ LF) hL)
theorem kc190 : HC (envT Tryz.prog 0) (C190 Tryz.prog LF) := fun L hL => extC_ok (kc110 L hL) (dataCon_ok (fnF_valid mixedT kc110 190 _ _ LF) hL)
theorem kc188 : HC (envT Tryz.prog 0) (C188 Tryz.prog LF) := fun L hL => extC_ok (kc190 L hL) (dataCon_ok (fnF_valid mixedT kc190 188 _ _ LF) hL)
theorem kc189 : HC (envT Tryz.prog 0) (C189 Tryz.prog LF) := fun L hL => extC_ok (kc188 L hL) (dataCon_ok (fnF_valid mixedT kc188 189 _ _ LF) hL)
theorem kc191 : HC (envT Tryz.prog 0) (C191 Tryz.prog LF) := fun L hL => extC_ok (kc189 L hL) (dataCon_ok (fnF_valid mixedT kc189 191 _ _ LF) hL)
theorem kc192 : HC (envT Tryz.prog 0) (C192 Tryz.prog LF) := fun L hL => extC_ok (kc191 L hL) (dataCon_ok (fnF_valid mixedT kc191 192 _ _ LF) hL)
theorem kc193 : HC (envT Tryz.prog 0) (C193 Tryz.prog LF) := fun L hL => extC_ok (kc192 L hL) (dataCon_ok (fnF_valid mixedT kc192 193 _ _ LF) hL)
theorem kc194 : HC (envT Tryz.prog 0) (C194 Tryz.prog LF) := fun L hL => extC_ok (kc193 L hL) (dataCon_ok (fnF_valid mixedT kc193 194 _ _ LF) hL)
theorem kc195 : HC (envT Tryz.prog 0) (C195 Tryz.prog LF) := fun L hL => extC_ok (kc194 L hL) (dataCon_ok (fnF_valid mixedT kc194 195 _ _ LF) hL)
theorem kc131 : HC (envT Tryz.prog 0) (C131 Tryz.prog LF) := fun L hL => extC_ok (kc195 L hL) (dataCon_ok (fnF_valid mixedT kc195 131 _ _ LF) hL)
theorem kc147 : HC (envT Tryz.prog 0) (C147 Tryz.prog LF) := fun L hL => extC_ok (kc131 L hL) (dataCon_ok (fnF_valid mixedT kc131 147 _ _ LF) hL)
theorem kc36 : HC (envT Tryz.prog 0) (C36 Tryz.prog LF) := fun L hL => extC_ok (kc147 L hL) (dataCon_ok (fnF_valid mixedT kc147 36 _ _ LF) hL)
theorem kc130 : HC (envT Tryz.prog 0) (C130 Tryz.prog LF) := fun L hL => extC_ok (kc36 L hL) (dataCon_ok (fnF_valid mixedT kc36 130 _ _ LF) hL)
theorem kc116 : HC (envT Tryz.prog 0) (C116 Tryz.prog LF) := fun L hL => extC_ok (kc130 L hL) (dataCon_ok (fnF_valid mixedT kc130 116 _ _ LF) hL)
theorem kc181 : HC (envT Tryz.prog 0) (C181 Tryz.prog LF) := fun L hL => extC_ok (kc116 L hL) (dataCon_ok (fnF_valid mixedT kc116 181 _ _ LF) hL)
theorem kc115 : HC (envT Tryz.prog 0) (C115 Tryz.prog LF) := fun L hL => extC_ok (kc181 L hL) (dataCon_ok (fnF_valid mixedT kc181 115 _ _ LF) hL)
theorem kc106 : HC (envT Tryz.prog 0) (C106 Tryz.prog LF) := fun L hL => extC_ok (kc115 L hL) (dataCon_ok (fnF_valid mixedT kc115 106 _ _ LF) hL)
theorem kc174 : HC (envT Tryz.prog 0) (C174 Tryz.prog LF) := fun L hL => extC_ok (kc106 L hL) (dataCon_ok (fnF_valid mixedT kc106 174 _ _ LF) hL)
theorem kc125 : HC (envT Tryz.prog 0) (C125 Tryz.prog LF) := fun L hL => extC_ok (kc174 L hL) (dataCon_ok (fnF_valid mixedT kc174 125 _ _ LF) hL)
theorem kc133 : HC (envT Tryz.prog 0) (C133 Tryz.prog LF) := fun L hL => extC_ok (kc125 L hL) (dataCon_ok (fnF_valid mixedT kc125 133 _ _ LF) hL)
theorem kc104 : HC (envT Tryz.prog 0) (C104 Tryz.prog LF) := fun L hL => extC_ok (kc133 L hL) (dataCon_ok (fnF_valid mixedT kc133 104 _ _ LF) hL)
theorem kc266 : HC (envT Tryz.prog 0) (C266 Tryz.prog LF) := fun L hL => extC_ok (kc104 L hL) (dataCon_ok (fnF_valid mixedT kc104 266 _ _ LF) hL)
theorem kc199 : HC (envT Tryz.prog 0) (C199 Tryz.prog LF) := fun L hL => extC_ok (kc266 L hL) (panCon_ok (fnP_valid mixedT kc266 199 _ _ _ _ LF) hL)
theorem kc198 : HC (envT Tryz.prog 0) (C198 Tryz.prog LF) := fun L hL => extC_ok (kc199 L hL) (refCon_ok (fnR_valid mixedT kc199 198 _ _ _ _ _ _ LF) hL)
theorem kc200 : HC (envT Tryz.prog 0) (C200 Tryz.prog LF) := fun L hL => extC_ok (kc198 L hL) (refCon_ok (fnR_valid mixedT kc198 200 _ _ _ _ _ _ LF) hL)
theorem kc239 : HC (envT Tryz.prog 0) (C239 Tryz.prog LF) := fun L hL => extC_ok (kc200 L hL) (refCon_ok (fnR_valid mixedT kc200 239 _ _ _ _ _ _ LF) hL)
theorem kc201 : HC (envT Tryz.prog 0) (C201 Tryz.prog LF) := fun L hL => extC_ok (kc239 L hL) (refCon_ok (fnR_valid mixedT kc239 201 _ _ _ _ _ _ LF) hL)
theorem kc240 : HC (envT Tryz.prog 0) (C240 Tryz.prog LF) := fun L hL => extC_ok (kc201 L hL) (refCon_ok (fnR_valid mixedT kc201 240 _ _ _ _ _ _ LF) hL)
theorem kc202 : HC (envT Tryz.prog 0) (C202 Tryz.prog LF) := fun L hL => extC_ok (kc240 L hL) (refCon_ok (fnR_valid mixedT kc240 202 _ _ _ _ _ _ LF) hL)
theorem kc93 : HC (envT Tryz.prog 0) (C93 Tryz.prog LF) := fun L hL => extC_ok (kc202 L hL) (dataCon_ok (fnF_valid mixedT kc202 93 _ _ LF) hL)
theorem kc92 : HC (envT Tryz.prog 0) (C92 Tryz.prog LF) := fun L hL => extC_ok (kc93 L hL) (dataCon_ok (fnF_valid mixedT kc93 92 _ _ LF) hL)
theorem kc29 : HC (envT Tryz.prog 0) (C29 Tryz.prog LF) := fun L hL => extC_ok (kc92 L hL) (dataCon_ok (fnF_valid mixedT kc92 29 _ _ LF) hL)
theorem kc112 : HC (envT Tryz.prog 0) (C112 Tryz.prog LF) := fun L hL => extC_ok (kc29 L hL) (dataCon_ok (fnF_valid mixedT kc29 112 _ _ LF) hL)
theorem kc113 : HC (envT Tryz.prog 0) (C113 Tryz.prog LF) := fun L hL => extC_ok (kc112 L hL) (dataCon_ok (fnF_valid mixedT kc112 113 _ _ LF) hL)
theorem kc114 : HC (envT Tryz.prog 0) (C114 Tryz.prog LF) := fun L hL => extC_ok (kc113 L hL) (dataCon_ok (fnF_valid mixedT kc113 114 _ _ LF) hL)
theorem kc31 : HC (envT Tryz.prog 0) (C31 Tryz.prog LF) := fun L hL => extC_ok (kc114 L hL) (dataCon_ok (fnF_valid mixedT kc114 31 _ _ LF) hL)
theorem kc62 : HC (envT Tryz.prog 0) (C62 Tryz.prog LF) := fun L hL => extC_ok (kc31 L hL) (dataCon_ok (fnF_valid mixedT kc31 62 _ _ LF) hL)
theorem kc61 : HC (envT Tryz.prog 0) (C61 Tryz.prog LF) := fun L hL => extC_ok (kc62 L hL) (dataCon_ok (fnF_valid mixedT kc62 61 _ _ LF) hL)
theorem kc222 : HC (envT Tryz.prog 0) (C222 Tryz.prog LF) := fun L hL => extC_ok (kc61 L hL) (dataCon_ok (fnF_valid mixedT kc61 222 _ _ LF) hL)
theorem kc173 : HC (envT Tryz.prog 0) (C173 Tryz.prog LF) := fun L hL => extC_ok (kc222 L hL) (dataCon_ok (fnF_valid mixedT kc222 173 _ _ LF) hL)
theorem kc23 : HC (envT Tryz.prog 0) (C23 Tryz.prog LF) := fun L hL => extC_ok (kc173 L hL) (dataCon_ok (fnF_valid mixedT kc173 23 _ _ LF) hL)
theorem kc24 : HC (envT Tryz.prog 0) (C24 Tryz.prog LF) := fun L hL => extC_ok (kc23 L hL) (dataCon_ok (fnF_valid mixedT kc23 24 _ _ LF) hL)
theorem kc127 : HC (envT Tryz.prog 0) (C127 Tryz.prog LF) := fun L hL => extC_ok (kc24 L hL) (dataCon_ok (fnF_valid mixedT kc24 127 _ _ LF) hL)
theorem kc132 : HC (envT Tryz.prog 0) (C132 Tryz.prog LF) := fun L hL => extC_ok (kc127 L hL) (dataCon_ok (fnF_valid mixedT kc127 132 _ _ LF) hL)
theorem kc47 : HC (envT Tryz.prog 0) (C47 Tryz.prog LF) := fun L hL => extC_ok (kc132 L hL) (dataCon_ok (fnF_valid mixedT kc132 47 _ _ LF) hL)
theorem kc49 : HC (envT Tryz.prog 0) (C49 Tryz.prog LF) := fun L hL => extC_ok (kc47 L hL) (dataCon_ok (fnF_valid mixedT kc47 49 _ _ LF) hL)
theorem kc167 : HC (envT Tryz.prog 0) (C167 Tryz.prog LF) := fun L hL => extC_ok (kc49 L hL) (dataCon_ok (fnF_valid mixedT kc49 167 _ _ LF) hL)
theorem kc246 : HC (envT Tryz.prog 0) (C246 Tryz.prog LF) := fun L hL => extC_ok (kc167 L hL) (dataCon_ok (fnF_valid mixedT kc167 246 _ _ LF) hL)
theorem kc220 : HC (envT Tryz.prog 0) (C220 Tryz.prog LF) := fun L hL => extC_ok (kc246 L hL) (dataCon_ok (fnF_valid mixedT kc246 220 _ _ LF) hL)
theorem kc166 : HC (envT Tryz.prog 0) (C166 Tryz.prog LF) := fun L hL => extC_ok (kc220 L hL) (dataCon_ok (fnF_valid mixedT kc220 166 _ _ LF) hL)
theorem kc95 : HC (envT Tryz.prog 0) (C95 Tryz.prog LF) := fun L hL => extC_ok (kc166 L hL) (dataCon_ok (fnF_valid mixedT kc166 95 _ _ LF) hL)
theorem kc96 : HC (envT Tryz.prog 0) (C96 Tryz.prog LF) := fun L hL => extC_ok (kc95 L hL) (dataCon_ok (rec_valid mixedT kc95 (fun _ => rfl) (fun _ _ => rfl) LF) hL)
theorem kc19 : HC (envT Tryz.prog 0) (C19 Tryz.prog LF) := fun L hL => extC_ok (kc96 L hL) (dataCon_ok (fnF_valid mixedT kc96 19 _ _ LF) hL)
theorem kc128 : HC (envT Tryz.prog 0) (C128 Tryz.prog LF) := fun L hL => extC_ok (kc19 L hL) (dataCon_ok (fnF_valid mixedT kc19 128 _ _ LF) hL)
theorem kc41 : HC (envT Tryz.prog 0) (C41 Tryz.prog LF) := fun L hL => extC_ok (kc128 L hL) (dataCon_ok (fnF_valid mixedT kc128 41 _ _ LF) hL)
theorem kc102 : HC (envT Tryz.prog 0) (C102 Tryz.prog LF) := fun L hL => extC_ok (kc41 L hL) (dataCon_ok (fnF_valid mixedT kc41 102 _ _ LF) hL)
theorem kc22 : HC (envT Tryz.prog 0) (C22 Tryz.prog LF) := fun L hL => extC_ok (kc102 L hL) (dataCon_ok (fnF_valid mixedT kc102 22 _ _ LF) hL)
theorem kc126 : HC (envT Tryz.prog 0) (C126 Tryz.prog LF) := fun L hL => extC_ok (kc22 L hL) (dataCon_ok (fnF_valid mixedT kc22 126 _ _ LF) hL)
theorem kc168 : HC (envT Tryz.prog 0) (C168 Tryz.prog LF) := fun L hL => extC_ok (kc126 L hL) (dataCon_ok (fnF_valid mixedT kc126 168 _ _ LF) hL)
theorem kc84 : HC (envT Tryz.prog 0) (C84 Tryz.prog LF) := fun L hL => extC_ok (kc168 L hL) (dataCon_ok (fnF_valid mixedT kc168 84 _ _ LF) hL)
theorem kc99 : HC (envT Tryz.prog 0) (C99 Tryz.prog LF) := fun L hL => extC_ok (kc84 L hL) (dataCon_ok (fnF_valid mixedT kc84 99 _ _ LF) hL)
theorem kc117 : HC (envT Tryz.prog 0) (C117 Tryz.prog LF) := fun L hL => extC_ok (kc99 L hL) (dataCon_ok (fnF_valid mixedT kc99 117 _ _ LF) hL)
theorem kc98 : HC (envT Tryz.prog 0) (C98 Tryz.prog LF) := fun L hL => extC_ok (kc117 L hL) (dataCon_ok (fnF_valid mixedT kc117 98 _ _ LF) hL)
theorem kc97 : HC (envT Tryz.prog 0) (C97 Tryz.prog LF) := fun L hL => extC_ok (kc98 L hL) (dataCon_ok (fnF_valid mixedT kc98 97 _ _ LF) hL)
theorem kc111 : HC (envT Tryz.prog 0) (C111 Tryz.prog LF) := fun L hL => extC_ok (kc97 L hL) (dataCon_ok (fnF_valid mixedT kc97 111 _ _ LF) hL)
theorem kc30 : HC (envT Tryz.prog 0) (C30 Tryz.prog LF) := fun L hL => extC_ok (kc111 L hL) (dataCon_ok (fnF_valid mixedT kc111 30 _ _ LF) hL)
theorem kc37 : HC (envT Tryz.prog 0) (C37 Tryz.prog LF) := fun L hL => extC_ok (kc30 L hL) (dataCon_ok (fnF_valid mixedT kc30 37 _ _ LF) hL)
theorem kc118 : HC (envT Tryz.prog 0) (C118 Tryz.prog LF) := fun L hL => extC_ok (kc37 L hL) (dataCon_ok (fnF_valid mixedT kc37 118 _ _ LF) hL)
theorem kc109 : HC (envT Tryz.prog 0) (C109 Tryz.prog LF) := fun L hL => extC_ok (kc118 L hL) (dataCon_ok (fnF_valid mixedT kc118 109 _ _ LF) hL)
theorem kc176 : HC (envT Tryz.prog 0) (C176 Tryz.prog LF) := fun L hL => extC_ok (kc109 L hL) (dataCon_ok (fnF_valid mixedT kc109 176 _ _ LF) hL)
theorem kc177 : HC (envT Tryz.prog 0) (C177 Tryz.prog LF) := fun L hL => extC_ok (kc176 L hL) (dataCon_ok (fnF_valid mixedT kc176 177 _ _ LF) hL)
theorem kc108 : HC (envT Tryz.prog 0) (C108 Tryz.prog LF) := fun L hL => extC_ok (kc177 L hL) (dataCon_ok (fnF_valid mixedT kc177 108 _ _ LF) hL)
theorem kc120 : HC (envT Tryz.prog 0) (C120 Tryz.prog LF) := fun L hL => extC_ok (kc108 L hL) (dataCon_ok (fnF_valid mixedT kc108 120 _ _ LF) hL)
theorem kc119 : HC (envT Tryz.prog 0) (C119 Tryz.prog LF) := fun L hL => extC_ok (kc120 L hL) (dataCon_ok (fnF_valid mixedT kc120 119 _ _ LF) hL)
theorem kc32 : HC (envT Tryz.prog 0) (C32 Tryz.prog LF) := fun L hL => extC_ok (kc119 L hL) (dataCon_ok (fnF_valid mixedT kc119 32 _ _ LF) hL)
theorem kc33 : HC (envT Tryz.prog 0) (C33 Tryz.prog LF) := fun L hL => extC_ok (kc32 L hL) (dataCon_ok (fnF_valid mixedT kc32 33 _ _ LF) hL)
end Go.K
namespace Go.K
open Go.Sl Go.Sx Go.Proofs
theorem kc107x : HC (envT Tryz.prog 0) (C107x Tryz.prog LF) := fun L hL => extC_ok (kc33 L hL) (dataCon_ok (fnF_valid mixedT kc33 107 _ _ LF) hL)
theorem kc56x : HC (envT Tryz.prog 0) (C56x Tryz.prog LF) := fun L hL => extC_ok (kc107x L hL) (dataCon_ok (fnF_valid mixedT kc107x 56 _ _ LF) hL)
theorem kc57x : HC (envT Tryz.prog 0) (C57x Tryz.prog LF) := fun L hL => extC_ok (kc56x L hL) (dataCon_ok (fnF_valid mixedT kc56x 57 _ _ LF) hL)
theorem kc26x : HC (envT Tryz.prog 0) (C26x Tryz.prog LF) := fun L hL => extC_ok (kc57x L hL) (dataCon_ok (fnF_valid mixedT kc57x 26 _ _ LF) hL)
theorem kc40x : HC (envT Tryz.prog 0) (C40x Tryz.prog LF) := fun L hL => extC_ok (kc26x L hL) (dataCon_ok (fnF_valid mixedT kc26x 40 _ _ LF) hL)
theorem kc28x : HC (envT Tryz.prog 0) (C28x Tryz.prog LF) := fun L hL => extC_ok (kc40x L hL) (dataCon_ok (fnF_valid mixedT kc40x 28 _ _ LF) hL)
theorem kc148x : HC (envT Tryz.prog 0) (C148x Tryz.prog LF) := fun L hL => extC_ok (kc28x L hL) (dataCon_ok (fnF_valid mixedT kc28x 148 _ _ LF) hL)
theorem kc149x : HC (envT Tryz.prog 0) (C149x Tryz.prog LF) := fun L hL => extC_ok (kc148x L hL) (dataCon_ok (fnF_valid mixedT kc148x 149 _ _ LF) hL)
theorem kc27x : HC (envT Tryz.prog 0) (C27x Tryz.prog LF) := fun L hL => extC_ok (kc149x L hL) (dataCon_ok (fnF_valid mixedT kc149x 27 _ _ LF) hL)
theorem kc150x : HC (envT Tryz.prog 0) (C150x Tryz.prog LF) := fun L hL => extC_ok (kc27x L hL) (dataCon_ok (fnF_valid mixedT kc27x 150 _ _ LF) hL)
theorem kc151x : HC (envT Tryz.prog 0) (C151x Tryz.prog LF) := fun L hL => extC_ok (kc150x L hL) (dataCon_ok (fnF_valid mixedT kc150x 151 _ _ LF) hL)
theorem kc70x : HC (envT Tryz.prog 0) (C70x Tryz.prog LF) := fun L hL => extC_ok (kc151x L hL) (dataCon_ok (fnF_valid mixedT kc151x 70 _ _ LF) hL)
theorem kc66x : HC (envT Tryz.prog 0) (C66x Tryz.prog LF) := fun L hL => extC_ok (kc70x L hL) (dataCon_ok (fnF_valid mixedT kc70x 66 _ _ LF) hL)
theorem kc65x : HC (envT Tryz.prog 0) (C65x Tryz.prog LF) := fun L hL => extC_ok (kc66x L hL) (dataCon_ok (fnF_valid mixedT kc66x 65 _ _ LF) hL)
theorem kc67x : HC (envT Tryz.prog 0) (C67x Tryz.prog LF) := fun L hL => extC_ok (kc65x L hL) (dataCon_ok (fnF_valid mixedT kc65x 67 _ _ LF) hL)
theorem kc38x : HC (envT Tryz.prog 0) (C38x Tryz.prog LF) := fun L hL => extC_ok (kc67x L hL) (dataCon_ok (fnF_valid mixedT kc67x 38 _ _ LF) hL)
theorem kc69x : HC (envT Tryz.prog 0) (C69x Tryz.prog LF) := fun L hL => extC_ok (kc38x L hL) (dataCon_ok (fnF_valid mixedT kc38x 69 _ _ LF) hL)
theorem kc68x : HC (envT Tryz.prog 0) (C68x Tryz.prog LF) := fun L hL => extC_ok (kc69x L hL) (dataCon_ok (fnF_valid mixedT kc69x 68 _ _ LF) hL)
theorem kc45x : HC (envT Tryz.prog 0) (C45x Tryz.prog LF) := fun L hL => extC_ok (kc68x L hL) (dataCon_ok (fnF_valid mixedT kc68x 45 _ _ LF) hL)
end Go.K
namespace Go.Sx
open Go.Sl Go.RowKit Go.ChangeShapes
def Opens {α : Type} (P : Program) (t : TypeId) (T : Ty α) (ok : α → Prop) : Prop :=
  ∀ (H : Type) (enc : TypeId × Value → H) (W : World) (fuel : Nat) (cs : List Value) (d : DataW H × List MemPlace),
    DataW.trod enc P W 0 (fun _ => true) true fuel t cs = some d → ∃ x, T.rep (Zone.all W) cs x ∧ ok x
theorem mapM_mem {α β : Type} {f : α → Option β} : ∀ {l : List α} {ys : List β}, l.mapM f = some ys → ∀ a ∈ l, ∃ y, f a = some y
  | [], _, _, a, ha => by cases ha
  | x :: l, ys, h, a, ha => by
    rw [List.mapM_cons] at h
    cases hx : f x with
    | none => rw [hx] at h; simp at h
    | some y =>
      rw [hx] at h
      simp only [Option.pure_def, Option.bind_eq_bind, Option.bind_some] at h
      cases hl : l.mapM f with
      | none => rw [hl] at h; simp at h
      | some zs =>
        rcases List.mem_cons.1 ha with e | e
        · subst e; exact ⟨y, hx⟩
        · exact mapM_mem hl a e
section
variable {H : Type} {enc : TypeId × Value → H} {P : Program} {W : World} {fuel : Nat} {t : TypeId} {cs : List Value} {d : DataW H × List MemPlace}
theorem trod_fields {fs : Array Field} (ht : P.underlying t = some (.struct fs)) (h : DataW.trod enc P W 0 (fun _ => true) true fuel t cs = some d) :
    cs.length = P.cellsOf t ∧ ∃ n, ∀ f ∈ fs.toList, ∃ y, DataW.trod enc P W 0 (fun _ => true) true n f.type ((cs.drop f.offset).take (P.cellsOf f.type)) = some y := by
  cases fuel with
  | zero => simp [DataW.trod] at h
  | succ n =>
    simp only [DataW.trod, ht] at h
    by_cases hl : cs.length = P.cellsOf t
    · rw [if_pos hl] at h
      refine ⟨hl, n, fun f hf => ?_⟩
      cases hm : fs.toList.mapM fun f => DataW.trod enc P W 0 (fun _ => true) true n f.type ((cs.drop f.offset).take (P.cellsOf f.type)) with
      | none => rw [hm] at h; simp at h
      | some ys => exact mapM_mem hm f hf
    · rw [if_neg hl] at h; cases h
theorem trod_items {m : Nat} {e : TypeId} (ht : P.underlying t = some (.array m e)) (h : DataW.trod enc P W 0 (fun _ => true) true fuel t cs = some d) :
    cs.length = P.cellsOf t ∧ ∃ n, ∀ i, i < m → ∃ y, DataW.trod enc P W 0 (fun _ => true) true n e ((cs.drop (i * P.cellsOf e)).take (P.cellsOf e)) = some y := by
  cases fuel with
  | zero => simp [DataW.trod] at h
  | succ n =>
    simp only [DataW.trod, ht] at h
    by_cases hl : cs.length = P.cellsOf t
    · rw [if_pos hl] at h
      refine ⟨hl, n, fun i hi => ?_⟩
      cases hm : (List.range m).mapM fun i => DataW.trod enc P W 0 (fun _ => true) true n e ((cs.drop (i * P.cellsOf e)).take (P.cellsOf e)) with
      | none => rw [hm] at h; simp at h
      | some ys => exact mapM_mem hm i (List.mem_range.2 hi)
    · rw [if_neg hl] at h; cases h
end
theorem opens_slice {α : Type} {P : Program} {t e : TypeId} {T : Ty α} {ok : α → Prop} (ht : P.underlying t = some (.slice e)) (he : P.cellsOf e = T.size) (h : Opens P e T ok) : Opens P t (Ty.slice T) (fun xs => (∀ x ∈ xs, ok x) ∧ xs.length ≤ maxLen) := fun H enc W fuel cs d hd => by
  rcases Go.Deep.open_slice ht hd with ⟨rfl, _⟩ | ⟨a, len, cap, m, n, D, Pl, rfl, _, hl, hm, hmm, _, hx⟩
  · exact ⟨[], ⟨none, 0, rfl, SliceR.nil' T _⟩, ⟨(fun _ h => by cases h), by simp⟩⟩
  · simp only [if_true] at hmm
    have hall : ∀ i, i < len → ∃ x, (∃ c, T.rep (Zone.all W) c x ∧ ∀ j v, c[j]? = some v → (Zone.all W).cell? ((a.add (i * T.size)).add j) = some v) ∧ ok x := fun i hi => by
      obtain ⟨cs', h1, h2⟩ := hx i (by omega)
      obtain ⟨x, hr, ho⟩ := h H enc W n cs' _ h2
      refine ⟨x, ⟨cs', hr, fun j v hj => ?_⟩, ho⟩
      rw [he] at h1
      obtain ⟨_, hlen, hc⟩ := World.cells?_some h1
      have hlt : j < cs'.length := (List.getElem?_eq_some_iff.1 hj).1
      exact (hc j (by omega)).trans hj
    have key : ∀ k, k ≤ len → ∃ xs : List α, xs.length = k ∧ (∀ x ∈ xs, ok x) ∧ ∀ i x, xs[i]? = some x → ∃ c, T.rep (Zone.all W) c x ∧ ∀ j v, c[j]? = some v → (Zone.all W).cell? ((a.add (i * T.size)).add j) = some v := by
      intro k
      induction k with
      | zero => exact fun _ => ⟨[], rfl, (fun _ h => by cases h), (fun i x h => by simp at h)⟩
      | succ k ih =>
        intro hk
        obtain ⟨xs, h1, h2, h3⟩ := ih (by omega)
        obtain ⟨x, hx1, hx2⟩ := hall k (by omega)
        refine ⟨xs ++ [x], by simp [h1], fun y hy => ?_, fun i y hy => ?_⟩
        · rcases List.mem_append.1 hy with e | e
          · exact h2 y e
          · simp only [List.mem_singleton] at e; exact e ▸ hx2
        · rw [List.getElem?_append] at hy
          split at hy
          · exact h3 i y hy
          · rename_i hge
            have : i - xs.length = 0 := by
              have := (List.getElem?_eq_some_iff.1 hy).1
              simp at this; omega
            rw [this] at hy
            simp only [List.getElem?_cons_zero, Option.some.injEq] at hy
            subst hy
            have : i = k := by omega
            subst this
            exact hx1
    obtain ⟨xs, h1, h2, h3⟩ := key len (Nat.le_refl _)
    refine ⟨xs, ⟨some a, cap, by rw [h1], ⟨by omega, hm, (fun e => by cases e), fun b e i x hi => ?_⟩⟩, ⟨h2, by omega⟩⟩
    cases e
    exact h3 i x hi
section
variable {H : Type} {enc : TypeId × Value → H} {P : Program} {W : World} {base : Nat} {t : TypeId} {v : Value} {d : DataW H} {ps : List MemPlace}
theorem arg_agg {α : Type} {T : Ty α} {ok : α → Prop} (hs : (match P.underlying t with | some (.struct _) => true | some (.array _ _) => true | _ => false) = true) (hv : Value.okWide P W .any base t v) (h : DataW.Trod enc P W 0 (fun _ => true) true t v d ps) (ho : Opens P t T ok) :
    ∃ cs x, v = .agg cs.toArray ∧ T.rep (Zone.all W) cs x ∧ ok x := by
  obtain ⟨fuel, hf⟩ := h
  obtain ⟨x, hx, hok⟩ := ho H enc W fuel _ _ hf
  have : ∃ cs, v = .agg cs := by
    unfold Value.okWide at hv
    split at hs
    · rename_i fs ht; rw [ht] at hv; obtain ⟨cs, e, _⟩ := hv; exact ⟨cs, e⟩
    · rename_i m e ht; rw [ht] at hv; obtain ⟨cs, e, _⟩ := hv; exact ⟨cs, e⟩
    · cases hs
  obtain ⟨cs, rfl⟩ := this
  exact ⟨cs.toList, x, rfl, hx, hok⟩
theorem trodAll_stays (hl : laidOutB P = true) {W' : World} (hb : Below W.heap.size W W') : ∀ {ts : List TypeId} {vs : List Value} {ds : List (DataW H)} {ps : List MemPlace}, (ts.all fun t => P.readableRec t && Nat.blt t P.types.size) = true →
    DataW.TrodAll enc P W 0 (fun _ => true) true ts vs ds ps → (∀ p ∈ ps, p.block < W.heap.size) → DataW.TrodAll enc P W' 0 (fun b => decide (b < W.heap.size)) true ts vs ds ps
  | [], [], [], _, _, h, _ => h
  | t :: ts, v :: vs, d :: ds, _, hr, ⟨p, q, h1, h2, e⟩, hlt => by
    simp only [List.all_cons, Bool.and_eq_true, Nat.blt_eq] at hr
    subst e
    exact ⟨p, q, Below.trod hl hr.1.1 hr.1.2 h1 hb (fun x hx => hlt x (List.mem_append_left _ hx)), trodAll_stays hl hb hr.2 h2 (fun x hx => hlt x (List.mem_append_right _ hx)), rfl⟩
  | [], _ :: _, _, _, _, h, _ => h.elim
  | [], [], _ :: _, _, _, h, _ => h.elim
  | _ :: _, [], _, _, _, h, _ => h.elim
  | _ :: _, _ :: _, [], _, _, h, _ => h.elim
theorem post_true {f : Func} {s : ChangeSpec} {args : Array Value} {ds : List (DataW H)} {before : List MemPlace} {apart : Bool} {W' : World} {tb : TypeId} (hl : laidOutB P = true) (hvars : s.vars = []) (hr : (f.params.toList.all fun t => P.readableRec t && Nat.blt t P.types.size) = true)
    (hres : f.resultTypes = #[tb]) (hu : P.underlying tb = some .bool) (hW : DataW.Whole enc P f.params.toList s.vars apart W args.toList ds [] before) (hb : Below W.heap.size W W') (hs : s.fn H (ds ++ []) = { results := [.lit (.bool true)], args := ds }) :
    s.post enc P f apart true false false W args (.bool true) W' := by
  have hlt := hW.lt
  have hW0 := hW
  obtain ⟨p, q, hA, hV, rfl, _, _⟩ := hW
  rw [hvars] at hV
  obtain ⟨_, rfl⟩ := trodVars_none hV
  refine ⟨ds, [], p ++ [], [], p, [], hW0, ?_, ?_, ?_, hb.frame _, fun h => by cases h⟩
  · rw [hs, hres]; exact trodAll_mk1 (shut_bool hu true)
  · rw [hs]; exact trodAll_stays hl hb hr hA (fun x hx => hlt x (by simpa using hx))
  · rw [hs, hvars]; rfl
end
end Go.Sx
namespace Go.Sx
structure A2 where
  a0 : Int
  a1 : Int
  deriving DecidableEq
structure A3 where
  a0 : Int
  a1 : Int
  a2 : Int
  deriving DecidableEq
end Go.Sx
namespace Go.Sx
open Go.Sl Go.RowKit Go.ChangeShapes Go.Proofs
variable {H : Type} {enc : TypeId × Value → H}
theorem returns_and_shaped {a : Assume} {C : Checked} {os : Os} {f : FuncId} {fn : Func} {s : ChangeSpec} {conds : List PathCond} {apart fresh handsOn again : Bool} {X : World → Array Value → Prop}
    (hX : ∀ (w w' : World) (args : Array Value), w.heap = w'.heap → X w args → X w' args)
    (own : ownKnob C.prog.godebug = none) (started : os.Started) (noInit : C.prog.inits.idxOf? f = none) (hfn : C.prog.funcs[f]? = some fn)
    (witness : ∃ (w : World) (tape : Tape) (i : Input), w.os = os ∧ (w.forCall tape i).Shaped C.prog ∧ i.vars = [] ∧ Input.okWide C.prog (w.forCall tape i) .any w.heap.size f i ∧
      ((s.pre enc C.prog fn conds apart (w.forCall tape i).memory i.args ∧ X (w.forCall tape i).memory i.args) ∧ sizedMet enc C.prog fn (OpenSpec.ofChange s) apart (w.forCall tape i).memory i.args) ∧ a.holds C.prog (lone (Frame.enter C.prog f i.args .normal) [] (w.forCall tape i)))
    (contract : ∀ (W : World) (base : Nat) (args : Array Value) (ds gs : List (DataW H)) (before : List MemPlace),
      (∀ (j : Nat) t v, fn.params[j]? = some t → args[j]? = some v → Value.okWide C.prog W .any base t v) →
      DataW.Whole enc C.prog fn.params.toList s.vars apart W args.toList ds gs before → X W args → W.ShapedOpen C.prog →
      Calls C.prog f args W fun e W' => ∃ v, e = .returned v ∧ s.post enc C.prog fn apart fresh handsOn again W args v W') :
    ReturnsInHanded a C os f .any (fun w args => (s.pre enc C.prog fn conds apart w args ∧ X w args) ∧ sizedMet enc C.prog fn (OpenSpec.ofChange s) apart w args) (s.post enc C.prog fn apart fresh handsOn again) := by
  refine returnsInHanded_of_calls own started noInit witness ?_
  intro w tape i _ hsh _ hok hpre hholds
  obtain ⟨_, _, _, fn', hfn', _, _, _, _, hval⟩ := hok
  have e : fn' = fn := Option.some.inj (hfn'.symm.trans hfn)
  subst e
  obtain ⟨⟨⟨ds, gs, before, hw, hc⟩, hx⟩, hz⟩ := hpre
  have hw' := DataW.Whole.of_heap (w' := w.forCall tape i) (by rfl) hw
  refine (contract (w.forCall tape i) w.heap.size i.args ds gs before hval hw' (hX _ _ _ (by rfl) hx) hsh).mono fun e W' ⟨v, he, hp⟩ => ?_
  subst he
  exact ChangeSpec.post_blind hp
theorem env_of {P : Program} {W : World} {g : Nat} (h1 : Lib.TabIs P W "internal/strconv.uint64pow10" .u64 Lib.pow10Tab) (h2 : ∃ m, W.cell? ⟨g, 0, none⟩ = some (.int .i64 m)) : Sx.Env P g (Zone.all W) := by
  refine ⟨fun L w hS => ?_, ?_⟩
  · have hle := hS.whole
    unfold Lib.TabIs World.var? at h1 ⊢
    cases hg : P.globalNamed "internal/strconv.uint64pow10" with
    | none => rw [hg] at h1; cases h1
    | some b =>
      rw [hg] at h1
      simp only [Option.bind_some] at h1 ⊢
      cases hb : W.heap[b]? with
      | none => rw [hb] at h1; cases h1
      | some o =>
        have hb' : w.heap[b]? = some o := hle.blk b o hb
        rw [hb'] ; rw [hb] at h1; exact h1
  · obtain ⟨m, hm⟩ := h2
    exact ⟨m, hm⟩
end Go.Sx
namespace Go.K
open Go.Sl Go.Sx Go.RowKit Go.ChangeShapes Go.Proofs
def opF (P : Program) (rec : TypeId → TC → Bool) : List Field → Nat → TC → Bool
  | [f], off, u => Nat.beq f.offset off && (Nat.beq (P.cellsOf f.type) u.size && rec f.type u)
  | f :: g :: r, off, .pair a b => (Nat.beq f.offset off && (Nat.beq (P.cellsOf f.type) a.size && rec f.type a)) && opF P rec (g :: r) (off + a.size) b
  | _, _, _ => false
def opA (rec : TypeId → TC → Bool) (e : TypeId) (k : Nat) : Nat → TC → Bool
  | 1, u => Nat.beq k u.size && rec e u
  | n + 2, .pair a b => (Nat.beq k a.size && rec e a) && opA rec e k (n + 1) b
  | _, _ => false
def opB (P : Program) : Nat → TypeId → TC → Bool
  | 0, _, _ => false
  | n + 1, t, u => match P.underlying t with
    | some (.int .i64) => (match u with | .int .i64 => true | _ => false)
    | some .string => (match u with | .str => true | _ => false)
    | some (.slice e) => (match u with | .sl v => Nat.beq (P.cellsOf e) v.size && opB P n e v | _ => false)
    | some (.struct fs) => Nat.beq (P.cellsOf t) u.size && opF P (opB P n) fs.toList 0 u
    | some (.array m e) => Nat.beq (P.cellsOf t) u.size && opA (opB P n) e (P.cellsOf e) m u
    | _ => false
theorem opB_ok {P : Program} : ∀ (n : Nat) {t : TypeId} {u : TC}, opB P n t u = true → Opens P t u.ty (fun _ => True)
  | 0, _, _, h => by cases h
  | n + 1, t, u, h => by
    unfold opB at h
    split at h
    · rename_i ht
      split at h
      · intro H enc W fuel cs d hd
        obtain ⟨m, rfl, _, _⟩ := DataW.trod_int ht hd
        exact ⟨m, rfl, trivial⟩
      · cases h
    · rename_i ht
      split at h
      · intro H enc W fuel cs d hd
        obtain ⟨s, rfl, _, _⟩ := DataW.trod_string ht hd
        exact ⟨s, rfl, trivial⟩
      · cases h
    · rename_i e ht
      split at h
      · rename_i v
        simp only [Bool.and_eq_true, Nat.beq_eq] at h
        intro H enc W fuel cs d hd
        obtain ⟨x, hx, _⟩ := opens_slice ht (h.1.trans v.size_eq.symm) (opB_ok n h.2) H enc W fuel cs d hd
        exact ⟨x, hx, trivial⟩
      · cases h
    · rename_i fs ht
      simp only [Bool.and_eq_true, Nat.beq_eq] at h
      obtain ⟨h0, h1⟩ := h
      intro H enc W fuel cs d hd
      obtain ⟨hl, k, hx⟩ := trod_fields ht hd
      have key : ∀ (l : List Field) (off : Nat) (u : TC), (∀ f ∈ l, f ∈ fs.toList) → opF P (opB P n) l off u = true → cs.length = off + u.size → ∃ x, u.ty.rep (Zone.all W) (cs.drop off) x := by
        intro l
        induction l with
        | nil => intro off u _ hh _; simp [opF] at hh
        | cons f r ih =>
          intro off u hsub hh hlen
          cases r with
          | nil =>
            simp only [opF, Bool.and_eq_true, Nat.beq_eq] at hh
            obtain ⟨e1, e2, e3⟩ := hh
            obtain ⟨y, hy⟩ := hx f (hsub f (List.mem_cons_self ..))
            rw [e1, e2, List.take_of_length_le (by rw [List.length_drop]; omega)] at hy
            obtain ⟨x, hx', _⟩ := opB_ok n e3 H enc W k _ y hy
            exact ⟨x, hx'⟩
          | cons g r =>
            cases u with
            | pair a b =>
              simp only [opF, Bool.and_eq_true, Nat.beq_eq] at hh
              obtain ⟨⟨e1, e2, e3⟩, e4⟩ := hh
              simp only [TC.size] at hlen
              obtain ⟨y, hy⟩ := hx f (hsub f (List.mem_cons_self ..))
              rw [e1, e2] at hy
              obtain ⟨x1, r1, _⟩ := opB_ok n e3 H enc W k _ y hy
              obtain ⟨x2, r2⟩ := ih (off + a.size) b (fun q hq => hsub q (List.mem_cons_of_mem _ hq)) e4 (by omega)
              refine ⟨(x1, x2), (cs.drop off).take a.size, cs.drop (off + a.size), ?_, r1, r2⟩
              rw [← List.drop_drop, List.take_append_drop]
            | _ => simp [opF] at hh
      obtain ⟨x, hx'⟩ := key fs.toList 0 u (fun _ h => h) h1 (by omega)
      exact ⟨x, by simpa using hx', trivial⟩
    · rename_i m e ht
      simp only [Bool.and_eq_true, Nat.beq_eq] at h
      obtain ⟨h0, h1⟩ := h
      intro H enc W fuel cs d hd
      obtain ⟨hl, k, hx⟩ := trod_items ht hd
      have key : ∀ (q i : Nat) (u : TC), i + q = m → opA (opB P n) e (P.cellsOf e) q u = true → cs.length = i * P.cellsOf e + u.size → ∃ x, u.ty.rep (Zone.all W) (cs.drop (i * P.cellsOf e)) x := by
        intro q
        induction q with
        | zero => intro i u _ hh _; simp [opA] at hh
        | succ q ih =>
          intro i u hq hh hlen
          cases q with
          | zero =>
            simp only [opA, Bool.and_eq_true, Nat.beq_eq] at hh
            obtain ⟨y, hy⟩ := hx i (by omega)
            rw [List.take_of_length_le (by rw [List.length_drop]; omega)] at hy
            obtain ⟨x, hx', _⟩ := opB_ok n hh.2 H enc W k _ y hy
            exact ⟨x, hx'⟩
          | succ q =>
            cases u with
            | pair a b =>
              simp only [opA, Bool.and_eq_true, Nat.beq_eq] at hh
              obtain ⟨⟨e2, e3⟩, e4⟩ := hh
              simp only [TC.size] at hlen
              obtain ⟨y, hy⟩ := hx i (by omega)
              obtain ⟨x1, r1, _⟩ := opB_ok n e3 H enc W k _ y hy
              obtain ⟨x2, r2⟩ := ih (i + 1) b (by omega) e4 (by rw [Nat.add_mul]; omega)
              refine ⟨(x1, x2), (cs.drop (i * P.cellsOf e)).take (P.cellsOf e), cs.drop ((i + 1) * P.cellsOf e), ?_, r1, r2⟩
              rw [Nat.add_mul, Nat.one_mul, ← List.drop_drop, List.take_append_drop]
            | _ => simp [opA] at hh
      obtain ⟨x, hx'⟩ := key m 0 u (by omega) h1 (by omega)
      exact ⟨x, by simpa using hx', trivial⟩
    · cases h
section
variable {H : Type} {enc : TypeId × Value → H} {P : Program} {W : World} {base : Nat} {t : TypeId} {v : Value} {d : DataW H} {ps : List MemPlace}
theorem oA {u : TC} (hs : (match P.underlying t with | some (.struct _) => true | some (.array _ _) => true | _ => false) = true) (hb : opB P 12 t u = true) (hv : Value.okWide P W .any base t v) (h : DataW.Trod enc P W 0 (fun _ => true) true t v d ps) : ∃ x : u.den, repA (Zone.all W) (true, u) v x := by
  obtain ⟨cs, x, rfl, hr, _⟩ := arg_agg hs hv h (opB_ok 12 hb)
  exact ⟨x, .inl ⟨rfl, cs, rfl, hr⟩⟩
end
end Go.K
