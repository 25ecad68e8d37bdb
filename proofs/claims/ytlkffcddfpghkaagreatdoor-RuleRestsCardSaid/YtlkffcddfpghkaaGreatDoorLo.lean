/-
  A part of the walk and of the plain law of one given statement. No condition.
-/
import Derived.Test.YtlkffcddfpghkaaGreatDoorR13
import Derived.Test.YtlkffcddfpghkaaGreatDoorProg
import Derived.Test.YtlkffcddfpghkaaGreatDoorK8
import Derived.Test.YtlkffcddfpghkaaGreatDoorG6
import Derived.Shelf.Sort.Plain
import Derived.Shelf.Slices.In.SortNone
import Derived.Shelf.SlicesG.CompactI
import Derived.Shelf.Spec.SlicesGrow
import Derived.Sort.OwnSortedInts
import Derived.Shelf.Strings.OnBuilder
import Derived.Lib.Join
import Derived.WalkKit
import Derived.Test.YtlkffcddfpghkaaGreatDoorSh
import Derived.Shelf.RegionOpenPlain
import Derived.Lib.Slices
import Derived.Lib.Walk
import Derived.Laws.Externs
import Derived.ProofKit
import Derived.OpenShut
import Derived.Stop.Joined
import Derived.Deep.Slices
import Derived.SizedLaws
import Derived.Shelf.Vars
import Derived.Lay
import Derived.LaidMore
set_option linter.unusedVariables false
set_option maxRecDepth 100000
set_option maxHeartbeats 0
namespace Go.K
open Go.Sl Go.Sx Go.Proofs
def S65 : FuncId → Sp := fun g => match g with
  | 209 => { joins := [(12, [(.slot 7, .dat .i), (.slot 3, .own .i 3)])], loops := [(9, [(.slot 7, .dat .i), (.slot 3, .own .i 3)]), (3, [(.slot 4, .own .i 3), (.slot 13, .dat .i)]), (1, [(.slot 3, .own .i 3), (.cell 0 0 [1], .own .bool 4)])] }
  | 65 => { joins := [(7, [(.slot 40, .dat .bool)])], loops := [(4, [(.slot 18, .dat .i)])] }
  | 128 => { nz := [(11, [12])] }
  | _ => {}
noncomputable def F65 (P : Program) (lf : Nat) (x : tt [(false, (.sl (.pair .str (.pair .i .i)))), (true, (.sl (.pair .i (.pair .i (.pair .i (.pair .str .i))))))]) : Option (tt [(false, .i), (false, .i)]) := fnF P (C76 P lf) S65 65 [(false, (.sl (.pair .str (.pair .i .i)))), (true, (.sl (.pair .i (.pair .i (.pair .i (.pair .str .i))))))] [(false, .i), (false, .i)] lf x
noncomputable def C65 (P : Program) (lf : Nat) : FuncId → Option Con := extC (C76 P lf) 65 (dataCon [(false, (.sl (.pair .str (.pair .i .i)))), (true, (.sl (.pair .i (.pair .i (.pair .i (.pair .str .i))))))] [(false, .i), (false, .i)] (F65 P lf))
def S67 : FuncId → Sp := fun g => match g with
  | 209 => { joins := [(12, [(.slot 7, .dat .i), (.slot 3, .own .i 3)])], loops := [(9, [(.slot 7, .dat .i), (.slot 3, .own .i 3)]), (3, [(.slot 4, .own .i 3), (.slot 13, .dat .i)]), (1, [(.slot 3, .own .i 3), (.cell 0 0 [3, 1], .own .bool 4)])] }
  | 175 => { fz := [(4, [(.slot 6, .dat (.sl .i))])] }
  | 67 => { joins := [(2, [(.slot 10, .dat .i)])] }
  | 128 => { nz := [(11, [12])] }
  | _ => {}
noncomputable def F67 (P : Program) (lf : Nat) (x : tt [(true, (.pair .str (.pair (.sl (.pair .str (.pair .i .i))) (.sl (.pair .str (.pair .i (.pair .i (.pair (.sl (.pair .i (.pair .i (.pair .i (.pair .str .i))))) (.pair (.sl (.pair .i (.pair .i (.pair .i (.pair .str .i))))) (.sl .str)))))))))), (false, .i), (false, .i), (false, (.sl (.pair .str (.pair .i .i))))]) : Option (tt [(false, .i), (false, .i)]) := fnF P (C65 P lf) S67 67 [(true, (.pair .str (.pair (.sl (.pair .str (.pair .i .i))) (.sl (.pair .str (.pair .i (.pair .i (.pair (.sl (.pair .i (.pair .i (.pair .i (.pair .str .i))))) (.pair (.sl (.pair .i (.pair .i (.pair .i (.pair .str .i))))) (.sl .str)))))))))), (false, .i), (false, .i), (false, (.sl (.pair .str (.pair .i .i))))] [(false, .i), (false, .i)] lf x
noncomputable def C67 (P : Program) (lf : Nat) : FuncId → Option Con := extC (C65 P lf) 67 (dataCon [(true, (.pair .str (.pair (.sl (.pair .str (.pair .i .i))) (.sl (.pair .str (.pair .i (.pair .i (.pair (.sl (.pair .i (.pair .i (.pair .i (.pair .str .i))))) (.pair (.sl (.pair .i (.pair .i (.pair .i (.pair .str .i))))) (.sl .str)))))))))), (false, .i), (false, .i), (false, (.sl (.pair .str (.pair .i .i))))] [(false, .i), (false, .i)] (F67 P lf))
def S78 : FuncId → Sp := fun g => match g with
  | 78 => { joins := [(2, [(.slot 8, .dat .i)])], loops := [(9, [(.slot 10, .own .str 9), (.slot 29, .dat .i)])] }
  | 128 => { nz := [(11, [12])] }
  | _ => {}
noncomputable def F78 (P : Program) (lf : Nat) (x : tt [(true, (.pair .str (.pair (.sl (.pair .str (.pair .i .i))) (.sl (.pair .str (.pair .i (.pair .i (.pair (.sl (.pair .i (.pair .i (.pair .i (.pair .str .i))))) (.pair (.sl (.pair .i (.pair .i (.pair .i (.pair .str .i))))) (.sl .str)))))))))), (false, .i), (false, (.sl (.pair .str (.pair .i .i))))]) : Option (tt [(false, (.sl .str)), (false, .i)]) := fnF P (C67 P lf) S78 78 [(true, (.pair .str (.pair (.sl (.pair .str (.pair .i .i))) (.sl (.pair .str (.pair .i (.pair .i (.pair (.sl (.pair .i (.pair .i (.pair .i (.pair .str .i))))) (.pair (.sl (.pair .i (.pair .i (.pair .i (.pair .str .i))))) (.sl .str)))))))))), (false, .i), (false, (.sl (.pair .str (.pair .i .i))))] [(false, (.sl .str)), (false, .i)] lf x
noncomputable def C78 (P : Program) (lf : Nat) : FuncId → Option Con := extC (C67 P lf) 78 (dataCon [(true, (.pair .str (.pair (.sl (.pair .str (.pair .i .i))) (.sl (.pair .str (.pair .i (.pair .i (.pair (.sl (.pair .i (.pair .i (.pair .i (.pair .str .i))))) (.pair (.sl (.pair .i (.pair .i (.pair .i (.pair .str .i))))) (.sl .str)))))))))), (false, .i), (false, (.sl (.pair .str (.pair .i .i))))] [(false, (.sl .str)), (false, .i)] (F78 P lf))
theorem F78_eq (lf : Nat) (a0 : ByteArray) (a1 : (List (ByteArray × (Int × Int)))) (a2 : (List (ByteArray × (Int × (Int × ((List (Int × (Int × (Int × (ByteArray × Int))))) × ((List (Int × (Int × (Int × (ByteArray × Int))))) × (List ByteArray)))))))) (a3 : Int) (a4 : (List (ByteArray × (Int × Int)))) : F78 Tryz.prog lf ((a0, (a1, a2)), (a3, a4)) =
  jn (((F31 Tryz.prog lf (a0, (a1, a2)))).bind fun r16 => cond (!(decide (r16 = (0 : Int)))) (some (.inl r16)) (((F91 Tryz.prog lf (a3, ((0 : Int), (100000 : Int))))).bind fun r17 => cond (!r17) (some (.inl (45 : Int))) (((F173 Tryz.prog lf ((a0, (a1, a2)), a4))).bind fun r18 => cond (!r18) (some (.inl (44 : Int))) (some (.inl (0 : Int)))))) (fun y19 : Int => cond (!(decide (y19 = (0 : Int)))) (some (([] : List ByteArray), y19)) (((F104 Tryz.prog lf ((a0, (a1, a2)), (a3, a4)))).bind fun r20 => cond (decide (r20 = (2 : Int))) (some (([] : List ByteArray), (0 : Int))) (iter lf (fun y21 : ((List ByteArray) × Int) => cond (decide (y21.2 < (a1.length : Int))) (((getI a1 y21.2)).bind fun r22 => ((F156 Tryz.prog lf (a4, (y21.2, (r22.2.1, r22.2.2))))).bind fun r23 => ((F104 Tryz.prog lf ((a0, (a1, a2)), (a3, r23)))).bind fun r24 => cond (!(decide (r24 = r20))) (((appC y21.1 [r22.1])).bind fun r25 => some (.inl (r25, (w64 (y21.2 + (1 : Int)))))) (some (.inl (y21.1, (w64 (y21.2 + (1 : Int))))))) (some (.inr (y21.1, (0 : Int))))) (([] : List ByteArray), (0 : Int))))) := by kernel_rfl
def S80 : FuncId → Sp := fun g => match g with
  | 80 => { joins := [(19, [(.slot 82, .dat .bool)]), (15, [(.cell 16 1, .dat .i)]), (2, [(.slot 10, .dat .i)])], loops := [(10, [(.slot 12, .own (.pair .i .i) 46), (.slot 39, .dat .i)])] }
  | 128 => { nz := [(11, [12])] }
  | _ => {}
noncomputable def F80 (P : Program) (lf : Nat) (x : tt [(true, (.pair .str (.pair (.sl (.pair .str (.pair .i .i))) (.sl (.pair .str (.pair .i (.pair .i (.pair (.sl (.pair .i (.pair .i (.pair .i (.pair .str .i))))) (.pair (.sl (.pair .i (.pair .i (.pair .i (.pair .str .i))))) (.sl .str)))))))))), (false, .i), (false, (.sl (.pair .str (.pair .i .i)))), (false, .str)]) : Option (tt [(false, (.sl (.pair .i .i))), (false, .i)]) := fnF P (C78 P lf) S80 80 [(true, (.pair .str (.pair (.sl (.pair .str (.pair .i .i))) (.sl (.pair .str (.pair .i (.pair .i (.pair (.sl (.pair .i (.pair .i (.pair .i (.pair .str .i))))) (.pair (.sl (.pair .i (.pair .i (.pair .i (.pair .str .i))))) (.sl .str)))))))))), (false, .i), (false, (.sl (.pair .str (.pair .i .i)))), (false, .str)] [(false, (.sl (.pair .i .i))), (false, .i)] lf x
noncomputable def C80 (P : Program) (lf : Nat) : FuncId → Option Con := extC (C78 P lf) 80 (dataCon [(true, (.pair .str (.pair (.sl (.pair .str (.pair .i .i))) (.sl (.pair .str (.pair .i (.pair .i (.pair (.sl (.pair .i (.pair .i (.pair .i (.pair .str .i))))) (.pair (.sl (.pair .i (.pair .i (.pair .i (.pair .str .i))))) (.sl .str)))))))))), (false, .i), (false, (.sl (.pair .str (.pair .i .i)))), (false, .str)] [(false, (.sl (.pair .i .i))), (false, .i)] (F80 P lf))
theorem F80_eq (lf : Nat) (a0 : ByteArray) (a1 : (List (ByteArray × (Int × Int)))) (a2 : (List (ByteArray × (Int × (Int × ((List (Int × (Int × (Int × (ByteArray × Int))))) × ((List (Int × (Int × (Int × (ByteArray × Int))))) × (List ByteArray)))))))) (a3 : Int) (a4 : (List (ByteArray × (Int × Int)))) (a5 : ByteArray) : F80 Tryz.prog lf ((a0, (a1, a2)), (a3, (a4, a5))) =
  jn (((F31 Tryz.prog lf (a0, (a1, a2)))).bind fun r29 => cond (!(decide (r29 = (0 : Int)))) (some (.inl r29)) (((F91 Tryz.prog lf (a3, ((0 : Int), (100000 : Int))))).bind fun r30 => cond (!r30) (some (.inl (45 : Int))) (((F173 Tryz.prog lf ((a0, (a1, a2)), a4))).bind fun r31 => cond (!r31) (some (.inl (44 : Int))) (some (.inl (0 : Int)))))) (fun y32 : Int => cond (!(decide (y32 = (0 : Int)))) (some (([] : List (Int × Int)), y32)) (((F110 Tryz.prog lf (a4, a5))).bind fun r33 => cond (decide (r33 < (0 : Int))) (some (([] : List (Int × Int)), (40 : Int))) (((F116 Tryz.prog lf (a0, (a1, a2)))).bind fun r34 => ((F115 Tryz.prog lf (a4, r34))).bind fun r35 => ((getI r35 r33)).bind fun r36 => iter lf (fun y37 : ((List (Int × Int)) × Int) => cond (decide (y37.2 < (r36.length : Int))) (((getI r36 y37.2)).bind fun r38 => ((getI a4 r33)).bind fun r39 => jn (cond (decide ((w64 (y37.2 + (1 : Int))) < (r36.length : Int))) (((getI r36 (w64 (y37.2 + (1 : Int))))).bind fun r40 => some (.inl (w64 (r40 - (1 : Int))))) (some (.inl r39.2.2))) (fun y41 : Int => ((F156 Tryz.prog lf (a4, (r33, (r38, r38))))).bind fun r42 => ((F104 Tryz.prog lf ((a0, (a1, a2)), (a3, r42)))).bind fun r43 => cond (!(decide (r43 = (1 : Int)))) (some (.inl (y37.1, (w64 (y37.2 + (1 : Int)))))) (jn (cond (decide ((w64 ((y37.1.length : Int) - (1 : Int))) ≥ (0 : Int))) (((getI y37.1 (w64 ((y37.1.length : Int) - (1 : Int))))).bind fun r44 => ((getI y37.1 (w64 ((y37.1.length : Int) - (1 : Int))))).bind fun r45 => some (.inl (decide ((w64 (r45.2 + (1 : Int))) = r38)))) (some (.inl false))) (fun y46 : Bool => cond y46 (((getI y37.1 (w64 ((y37.1.length : Int) - (1 : Int))))).bind fun r47 => ((getI y37.1 (w64 ((y37.1.length : Int) - (1 : Int))))).bind fun r48 => ((setI y37.1 (w64 ((y37.1.length : Int) - (1 : Int))) (r48.1, y41))).bind fun r49 => some (.inl (r49, (w64 (y37.2 + (1 : Int)))))) (((appC y37.1 [(r38, y41)])).bind fun r50 => some (.inl (r50, (w64 (y37.2 + (1 : Int)))))))))) (some (.inr (y37.1, (0 : Int))))) (([] : List (Int × Int)), (0 : Int))))) := by kernel_rfl
def S42 : FuncId → Sp := fun g => match g with
  | 42 => { joins := [(9, [(.slot 82, .dat .bool)]), (5, [(.slot 44, .dat .bool)])] }
  | 128 => { nz := [(11, [12])] }
  | _ => {}
noncomputable def F42 (P : Program) (lf : Nat) (x : tt [(true, (.pair .str (.pair (.sl (.pair .str (.pair .i .i))) (.sl (.pair .str (.pair .i (.pair .i (.pair (.sl (.pair .i (.pair .i (.pair .i (.pair .str .i))))) (.pair (.sl (.pair .i (.pair .i (.pair .i (.pair .str .i))))) (.sl .str)))))))))), (true, (.pair .i (.pair .i (.pair .i (.sl .i)))))]) : Option (tt [(false, .i)]) := fnF P (C80 P lf) S42 42 [(true, (.pair .str (.pair (.sl (.pair .str (.pair .i .i))) (.sl (.pair .str (.pair .i (.pair .i (.pair (.sl (.pair .i (.pair .i (.pair .i (.pair .str .i))))) (.pair (.sl (.pair .i (.pair .i (.pair .i (.pair .str .i))))) (.sl .str)))))))))), (true, (.pair .i (.pair .i (.pair .i (.sl .i)))))] [(false, .i)] lf x
noncomputable def C42 (P : Program) (lf : Nat) : FuncId → Option Con := extC (C80 P lf) 42 (dataCon [(true, (.pair .str (.pair (.sl (.pair .str (.pair .i .i))) (.sl (.pair .str (.pair .i (.pair .i (.pair (.sl (.pair .i (.pair .i (.pair .i (.pair .str .i))))) (.pair (.sl (.pair .i (.pair .i (.pair .i (.pair .str .i))))) (.sl .str)))))))))), (true, (.pair .i (.pair .i (.pair .i (.sl .i)))))] [(false, .i)] (F42 P lf))
def S46 : FuncId → Sp := fun g => match g with
  | 46 => { loops := [(6, [(.slot 5, .own .i 3), (.slot 17, .dat .i)])] }
  | 128 => { nz := [(11, [12])] }
  | _ => {}
noncomputable def F46 (P : Program) (lf : Nat) (x : tt [(true, (.pair .str (.pair (.sl (.pair .str (.pair .i .i))) (.sl (.pair .str (.pair .i (.pair .i (.pair (.sl (.pair .i (.pair .i (.pair .i (.pair .str .i))))) (.pair (.sl (.pair .i (.pair .i (.pair .i (.pair .str .i))))) (.sl .str))))))))))]) : Option (tt [(false, (.sl .i)), (false, .i)]) := fnF P (C42 P lf) S46 46 [(true, (.pair .str (.pair (.sl (.pair .str (.pair .i .i))) (.sl (.pair .str (.pair .i (.pair .i (.pair (.sl (.pair .i (.pair .i (.pair .i (.pair .str .i))))) (.pair (.sl (.pair .i (.pair .i (.pair .i (.pair .str .i))))) (.sl .str))))))))))] [(false, (.sl .i)), (false, .i)] lf x
noncomputable def C46 (P : Program) (lf : Nat) : FuncId → Option Con := extC (C42 P lf) 46 (dataCon [(true, (.pair .str (.pair (.sl (.pair .str (.pair .i .i))) (.sl (.pair .str (.pair .i (.pair .i (.pair (.sl (.pair .i (.pair .i (.pair .i (.pair .str .i))))) (.pair (.sl (.pair .i (.pair .i (.pair .i (.pair .str .i))))) (.sl .str))))))))))] [(false, (.sl .i)), (false, .i)] (F46 P lf))
def S48 : FuncId → Sp := fun g => match g with
  | 48 => { joins := [(5, [(.slot 36, .dat .bool)]), (2, [(.slot 7, .dat .i)])] }
  | 128 => { nz := [(11, [12])] }
  | _ => {}
noncomputable def F48 (P : Program) (lf : Nat) (x : tt [(true, (.pair .str (.pair (.sl (.pair .str (.pair .i .i))) (.sl (.pair .str (.pair .i (.pair .i (.pair (.sl (.pair .i (.pair .i (.pair .i (.pair .str .i))))) (.pair (.sl (.pair .i (.pair .i (.pair .i (.pair .str .i))))) (.sl .str)))))))))), (false, .i), (true, (.pair .i (.sl .i)))]) : Option (tt [(false, .i)]) := fnF P (C46 P lf) S48 48 [(true, (.pair .str (.pair (.sl (.pair .str (.pair .i .i))) (.sl (.pair .str (.pair .i (.pair .i (.pair (.sl (.pair .i (.pair .i (.pair .i (.pair .str .i))))) (.pair (.sl (.pair .i (.pair .i (.pair .i (.pair .str .i))))) (.sl .str)))))))))), (false, .i), (true, (.pair .i (.sl .i)))] [(false, .i)] lf x
noncomputable def C48 (P : Program) (lf : Nat) : FuncId → Option Con := extC (C46 P lf) 48 (dataCon [(true, (.pair .str (.pair (.sl (.pair .str (.pair .i .i))) (.sl (.pair .str (.pair .i (.pair .i (.pair (.sl (.pair .i (.pair .i (.pair .i (.pair .str .i))))) (.pair (.sl (.pair .i (.pair .i (.pair .i (.pair .str .i))))) (.sl .str)))))))))), (false, .i), (true, (.pair .i (.sl .i)))] [(false, .i)] (F48 P lf))
def S44 : FuncId → Sp := fun g => match g with
  | 128 => { nz := [(11, [12])] }
  | _ => {}
noncomputable def F44 (P : Program) (lf : Nat) (x : tt [(true, (.pair .str (.pair (.sl (.pair .str (.pair .i .i))) (.sl (.pair .str (.pair .i (.pair .i (.pair (.sl (.pair .i (.pair .i (.pair .i (.pair .str .i))))) (.pair (.sl (.pair .i (.pair .i (.pair .i (.pair .str .i))))) (.sl .str))))))))))]) : Option (tt [(false, (.sl .i)), (false, .i)]) := fnF P (C48 P lf) S44 44 [(true, (.pair .str (.pair (.sl (.pair .str (.pair .i .i))) (.sl (.pair .str (.pair .i (.pair .i (.pair (.sl (.pair .i (.pair .i (.pair .i (.pair .str .i))))) (.pair (.sl (.pair .i (.pair .i (.pair .i (.pair .str .i))))) (.sl .str))))))))))] [(false, (.sl .i)), (false, .i)] lf x
noncomputable def C44 (P : Program) (lf : Nat) : FuncId → Option Con := extC (C48 P lf) 44 (dataCon [(true, (.pair .str (.pair (.sl (.pair .str (.pair .i .i))) (.sl (.pair .str (.pair .i (.pair .i (.pair (.sl (.pair .i (.pair .i (.pair .i (.pair .str .i))))) (.pair (.sl (.pair .i (.pair .i (.pair .i (.pair .str .i))))) (.sl .str))))))))))] [(false, (.sl .i)), (false, .i)] (F44 P lf))
def S55 : FuncId → Sp := fun g => match g with
  | 128 => { nz := [(11, [12])] }
  | _ => {}
noncomputable def F55 (P : Program) (lf : Nat) (x : tt [(true, (.pair .str (.pair (.sl (.pair .str (.pair .i .i))) (.sl (.pair .str (.pair .i (.pair .i (.pair (.sl (.pair .i (.pair .i (.pair .i (.pair .str .i))))) (.pair (.sl (.pair .i (.pair .i (.pair .i (.pair .str .i))))) (.sl .str))))))))))]) : Option (tt [(false, (.sl (.sl .i))), (false, .i)]) := fnF P (C44 P lf) S55 55 [(true, (.pair .str (.pair (.sl (.pair .str (.pair .i .i))) (.sl (.pair .str (.pair .i (.pair .i (.pair (.sl (.pair .i (.pair .i (.pair .i (.pair .str .i))))) (.pair (.sl (.pair .i (.pair .i (.pair .i (.pair .str .i))))) (.sl .str))))))))))] [(false, (.sl (.sl .i))), (false, .i)] lf x
noncomputable def C55 (P : Program) (lf : Nat) : FuncId → Option Con := extC (C44 P lf) 55 (dataCon [(true, (.pair .str (.pair (.sl (.pair .str (.pair .i .i))) (.sl (.pair .str (.pair .i (.pair .i (.pair (.sl (.pair .i (.pair .i (.pair .i (.pair .str .i))))) (.pair (.sl (.pair .i (.pair .i (.pair .i (.pair .str .i))))) (.sl .str))))))))))] [(false, (.sl (.sl .i))), (false, .i)] (F55 P lf))
def S73 : FuncId → Sp := fun g => match g with
  | 73 => { joins := [(2, [(.slot 6, .dat .i)])], loops := [(6, [(.slot 7, .own .i 3), (.slot 19, .dat .i)])] }
  | 128 => { nz := [(11, [12])] }
  | _ => {}
noncomputable def F73 (P : Program) (lf : Nat) (x : tt [(true, (.pair .str (.pair (.sl (.pair .str (.pair .i .i))) (.sl (.pair .str (.pair .i (.pair .i (.pair (.sl (.pair .i (.pair .i (.pair .i (.pair .str .i))))) (.pair (.sl (.pair .i (.pair .i (.pair .i (.pair .str .i))))) (.sl .str)))))))))), (false, .i)]) : Option (tt [(false, (.sl .i)), (false, .i)]) := fnF P (C55 P lf) S73 73 [(true, (.pair .str (.pair (.sl (.pair .str (.pair .i .i))) (.sl (.pair .str (.pair .i (.pair .i (.pair (.sl (.pair .i (.pair .i (.pair .i (.pair .str .i))))) (.pair (.sl (.pair .i (.pair .i (.pair .i (.pair .str .i))))) (.sl .str)))))))))), (false, .i)] [(false, (.sl .i)), (false, .i)] lf x
noncomputable def C73 (P : Program) (lf : Nat) : FuncId → Option Con := extC (C55 P lf) 73 (dataCon [(true, (.pair .str (.pair (.sl (.pair .str (.pair .i .i))) (.sl (.pair .str (.pair .i (.pair .i (.pair (.sl (.pair .i (.pair .i (.pair .i (.pair .str .i))))) (.pair (.sl (.pair .i (.pair .i (.pair .i (.pair .str .i))))) (.sl .str)))))))))), (false, .i)] [(false, (.sl .i)), (false, .i)] (F73 P lf))
def S4 : FuncId → Sp := fun g => match g with
  | 4 => { joins := [(15, [(.slot 110, .dat .bool)]), (10, [(.slot 84, .dat .bool)])], loops := [(22, [(.slot 128, .dat .i)]), (12, [(.slot 88, .dat .i)])] }
  | 128 => { nz := [(11, [12])] }
  | _ => {}
noncomputable def F4 (P : Program) (lf : Nat) (x : tt [(true, (.pair .str (.pair (.sl (.pair .str (.pair .i .i))) (.sl (.pair .str (.pair .i (.pair .i (.pair (.sl (.pair .i (.pair .i (.pair .i (.pair .str .i))))) (.pair (.sl (.pair .i (.pair .i (.pair .i (.pair .str .i))))) (.sl .str)))))))))), (true, (.pair .i (.pair .i (.pair (.sl (.pair .str (.pair .i .i))) .str))))]) : Option (tt [(false, .bool)]) := fnF P (C73 P lf) S4 4 [(true, (.pair .str (.pair (.sl (.pair .str (.pair .i .i))) (.sl (.pair .str (.pair .i (.pair .i (.pair (.sl (.pair .i (.pair .i (.pair .i (.pair .str .i))))) (.pair (.sl (.pair .i (.pair .i (.pair .i (.pair .str .i))))) (.sl .str)))))))))), (true, (.pair .i (.pair .i (.pair (.sl (.pair .str (.pair .i .i))) .str))))] [(false, .bool)] lf x
noncomputable def C4 (P : Program) (lf : Nat) : FuncId → Option Con := extC (C73 P lf) 4 (dataCon [(true, (.pair .str (.pair (.sl (.pair .str (.pair .i .i))) (.sl (.pair .str (.pair .i (.pair .i (.pair (.sl (.pair .i (.pair .i (.pair .i (.pair .str .i))))) (.pair (.sl (.pair .i (.pair .i (.pair .i (.pair .str .i))))) (.sl .str)))))))))), (true, (.pair .i (.pair .i (.pair (.sl (.pair .str (.pair .i .i))) .str))))] [(false, .bool)] (F4 P lf))
def S9 : FuncId → Sp := fun g => match g with
  | 9 => { joins := [(23, [(.slot 116, .dat .bool)]), (21, [(.slot 83, .dat .bool)])], loops := [(14, [(.slot 12, .dat .bool), (.slot 51, .dat .i)]), (10, [(.slot 46, .dat .i)])] }
  | 128 => { nz := [(11, [12])] }
  | _ => {}
noncomputable def F9 (P : Program) (lf : Nat) (x : tt [(true, (.pair .str (.pair (.sl (.pair .str (.pair .i .i))) (.sl (.pair .str (.pair .i (.pair .i (.pair (.sl (.pair .i (.pair .i (.pair .i (.pair .str .i))))) (.pair (.sl (.pair .i (.pair .i (.pair .i (.pair .str .i))))) (.sl .str)))))))))), (false, .i), (false, (.sl .i))]) : Option (tt [(false, .bool)]) := fnF P (C4 P lf) S9 9 [(true, (.pair .str (.pair (.sl (.pair .str (.pair .i .i))) (.sl (.pair .str (.pair .i (.pair .i (.pair (.sl (.pair .i (.pair .i (.pair .i (.pair .str .i))))) (.pair (.sl (.pair .i (.pair .i (.pair .i (.pair .str .i))))) (.sl .str)))))))))), (false, .i), (false, (.sl .i))] [(false, .bool)] lf x
noncomputable def C9 (P : Program) (lf : Nat) : FuncId → Option Con := extC (C4 P lf) 9 (dataCon [(true, (.pair .str (.pair (.sl (.pair .str (.pair .i .i))) (.sl (.pair .str (.pair .i (.pair .i (.pair (.sl (.pair .i (.pair .i (.pair .i (.pair .str .i))))) (.pair (.sl (.pair .i (.pair .i (.pair .i (.pair .str .i))))) (.sl .str)))))))))), (false, .i), (false, (.sl .i))] [(false, .bool)] (F9 P lf))
def S15 : FuncId → Sp := fun g => match g with
  | 128 => { nz := [(11, [12])] }
  | _ => {}
noncomputable def F15 (P : Program) (lf : Nat) (x : tt [(true, (.pair .str (.pair (.sl (.pair .str (.pair .i .i))) (.sl (.pair .str (.pair .i (.pair .i (.pair (.sl (.pair .i (.pair .i (.pair .i (.pair .str .i))))) (.pair (.sl (.pair .i (.pair .i (.pair .i (.pair .str .i))))) (.sl .str)))))))))), (true, (.pair .i (.pair .i (.pair (.sl (.pair .str (.pair .i .i))) .str))))]) : Option (tt [(false, .bool)]) := fnF P (C9 P lf) S15 15 [(true, (.pair .str (.pair (.sl (.pair .str (.pair .i .i))) (.sl (.pair .str (.pair .i (.pair .i (.pair (.sl (.pair .i (.pair .i (.pair .i (.pair .str .i))))) (.pair (.sl (.pair .i (.pair .i (.pair .i (.pair .str .i))))) (.sl .str)))))))))), (true, (.pair .i (.pair .i (.pair (.sl (.pair .str (.pair .i .i))) .str))))] [(false, .bool)] lf x
noncomputable def C15 (P : Program) (lf : Nat) : FuncId → Option Con := extC (C9 P lf) 15 (dataCon [(true, (.pair .str (.pair (.sl (.pair .str (.pair .i .i))) (.sl (.pair .str (.pair .i (.pair .i (.pair (.sl (.pair .i (.pair .i (.pair .i (.pair .str .i))))) (.pair (.sl (.pair .i (.pair .i (.pair .i (.pair .str .i))))) (.sl .str)))))))))), (true, (.pair .i (.pair .i (.pair (.sl (.pair .str (.pair .i .i))) .str))))] [(false, .bool)] (F15 P lf))
def S12 : FuncId → Sp := fun g => match g with
  | 12 => { joins := [(8, [(.slot 92, .dat .bool)])] }
  | 128 => { nz := [(11, [12])] }
  | _ => {}
noncomputable def F12 (P : Program) (lf : Nat) (x : tt [(true, (.pair .str (.pair (.sl (.pair .str (.pair .i .i))) (.sl (.pair .str (.pair .i (.pair .i (.pair (.sl (.pair .i (.pair .i (.pair .i (.pair .str .i))))) (.pair (.sl (.pair .i (.pair .i (.pair .i (.pair .str .i))))) (.sl .str)))))))))), (true, (.pair .i (.pair .i (.pair .i (.sl .i))))), (true, (.pair .i (.sl .i)))]) : Option (tt [(false, .bool)]) := fnF P (C15 P lf) S12 12 [(true, (.pair .str (.pair (.sl (.pair .str (.pair .i .i))) (.sl (.pair .str (.pair .i (.pair .i (.pair (.sl (.pair .i (.pair .i (.pair .i (.pair .str .i))))) (.pair (.sl (.pair .i (.pair .i (.pair .i (.pair .str .i))))) (.sl .str)))))))))), (true, (.pair .i (.pair .i (.pair .i (.sl .i))))), (true, (.pair .i (.sl .i)))] [(false, .bool)] lf x
noncomputable def C12 (P : Program) (lf : Nat) : FuncId → Option Con := extC (C15 P lf) 12 (dataCon [(true, (.pair .str (.pair (.sl (.pair .str (.pair .i .i))) (.sl (.pair .str (.pair .i (.pair .i (.pair (.sl (.pair .i (.pair .i (.pair .i (.pair .str .i))))) (.pair (.sl (.pair .i (.pair .i (.pair .i (.pair .str .i))))) (.sl .str)))))))))), (true, (.pair .i (.pair .i (.pair .i (.sl .i))))), (true, (.pair .i (.sl .i)))] [(false, .bool)] (F12 P lf))
end Go.K
set_option linter.unusedVariables false
set_option linter.unusedSimpArgs false
set_option maxRecDepth 100000
set_option maxHeartbeats 0
namespace Go.K
open Go.Sl Go.Sx Go.Proofs
noncomputable def G78 (lf : Nat) (x : ((ByteArray × ((List (ByteArray × (Int × Int))) × (List (ByteArray × (Int × (Int × ((List (Int × (Int × (Int × (ByteArray × Int))))) × ((List (Int × (Int × (Int × (ByteArray × Int))))) × (List ByteArray))))))))) × (Int × (List (ByteArray × (Int × Int)))))) : Option (((List ByteArray) × Int)) :=
  jn (((G31 lf (x.1.1, (x.1.2.1, x.1.2.2)))).bind fun r16 => cond (!(decide (r16 = (0 : Int)))) (some (.inl r16)) (((G91 lf (x.2.1, ((0 : Int), (100000 : Int))))).bind fun r17 => cond (!r17) (some (.inl (45 : Int))) (((G173 lf ((x.1.1, (x.1.2.1, x.1.2.2)), x.2.2))).bind fun r18 => cond (!r18) (some (.inl (44 : Int))) (some (.inl (0 : Int)))))) (fun y19 : Int => cond (!(decide (y19 = (0 : Int)))) (some (([] : List ByteArray), y19)) (((G104 lf ((x.1.1, (x.1.2.1, x.1.2.2)), (x.2.1, x.2.2)))).bind fun r20 => cond (decide (r20 = (2 : Int))) (some (([] : List ByteArray), (0 : Int))) (iter lf (fun y21 : ((List ByteArray) × Int) => cond (decide (y21.2 < (x.1.2.1.length : Int))) (((getI x.1.2.1 y21.2)).bind fun r22 => ((G156 lf (x.2.2, (y21.2, (r22.2.1, r22.2.2))))).bind fun r23 => ((G104 lf ((x.1.1, (x.1.2.1, x.1.2.2)), (x.2.1, r23)))).bind fun r24 => cond (!(decide (r24 = r20))) (((appC y21.1 [r22.1])).bind fun r25 => some (.inl (r25, (w64 (y21.2 + (1 : Int)))))) (some (.inl (y21.1, (w64 (y21.2 + (1 : Int))))))) (some (.inr (y21.1, (0 : Int))))) (([] : List ByteArray), (0 : Int)))))
theorem F78_G (lf : Nat) (x : ((ByteArray × ((List (ByteArray × (Int × Int))) × (List (ByteArray × (Int × (Int × ((List (Int × (Int × (Int × (ByteArray × Int))))) × ((List (Int × (Int × (Int × (ByteArray × Int))))) × (List ByteArray))))))))) × (Int × (List (ByteArray × (Int × Int)))))) : F78 Tryz.prog lf x = G78 lf x := (F78_eq lf x.1.1 x.1.2.1 x.1.2.2 x.2.1 x.2.2).trans (by
  unfold G78
  (try simp only [F31_G, F91_G, F104_G, F156_G, F173_G, agree_self, Lib.toList_data]); first | done | rfl)
noncomputable def G80 (lf : Nat) (x : ((ByteArray × ((List (ByteArray × (Int × Int))) × (List (ByteArray × (Int × (Int × ((List (Int × (Int × (Int × (ByteArray × Int))))) × ((List (Int × (Int × (Int × (ByteArray × Int))))) × (List ByteArray))))))))) × (Int × ((List (ByteArray × (Int × Int))) × ByteArray)))) : Option (((List (Int × Int)) × Int)) :=
  jn (((G31 lf (x.1.1, (x.1.2.1, x.1.2.2)))).bind fun r29 => cond (!(decide (r29 = (0 : Int)))) (some (.inl r29)) (((G91 lf (x.2.1, ((0 : Int), (100000 : Int))))).bind fun r30 => cond (!r30) (some (.inl (45 : Int))) (((G173 lf ((x.1.1, (x.1.2.1, x.1.2.2)), x.2.2.1))).bind fun r31 => cond (!r31) (some (.inl (44 : Int))) (some (.inl (0 : Int)))))) (fun y32 : Int => cond (!(decide (y32 = (0 : Int)))) (some (([] : List (Int × Int)), y32)) (((G110 lf (x.2.2.1, x.2.2.2))).bind fun r33 => cond (decide (r33 < (0 : Int))) (some (([] : List (Int × Int)), (40 : Int))) (((G116 lf (x.1.1, (x.1.2.1, x.1.2.2)))).bind fun r34 => ((G115 lf (x.2.2.1, r34))).bind fun r35 => ((getI r35 r33)).bind fun r36 => iter lf (fun y37 : ((List (Int × Int)) × Int) => cond (decide (y37.2 < (r36.length : Int))) (((getI r36 y37.2)).bind fun r38 => ((getI x.2.2.1 r33)).bind fun r39 => jn (cond (decide ((w64 (y37.2 + (1 : Int))) < (r36.length : Int))) (((getI r36 (w64 (y37.2 + (1 : Int))))).bind fun r40 => some (.inl (w64 (r40 - (1 : Int))))) (some (.inl r39.2.2))) (fun y41 : Int => ((G156 lf (x.2.2.1, (r33, (r38, r38))))).bind fun r42 => ((G104 lf ((x.1.1, (x.1.2.1, x.1.2.2)), (x.2.1, r42)))).bind fun r43 => cond (!(decide (r43 = (1 : Int)))) (some (.inl (y37.1, (w64 (y37.2 + (1 : Int)))))) (jn (cond (decide ((w64 ((y37.1.length : Int) - (1 : Int))) ≥ (0 : Int))) (((getI y37.1 (w64 ((y37.1.length : Int) - (1 : Int))))).bind fun r44 => ((getI y37.1 (w64 ((y37.1.length : Int) - (1 : Int))))).bind fun r45 => some (.inl (decide ((w64 (r45.2 + (1 : Int))) = r38)))) (some (.inl false))) (fun y46 : Bool => cond y46 (((getI y37.1 (w64 ((y37.1.length : Int) - (1 : Int))))).bind fun r47 => ((getI y37.1 (w64 ((y37.1.length : Int) - (1 : Int))))).bind fun r48 => ((setI y37.1 (w64 ((y37.1.length : Int) - (1 : Int))) (r48.1, y41))).bind fun r49 => some (.inl (r49, (w64 (y37.2 + (1 : Int)))))) (((appC y37.1 [(r38, y41)])).bind fun r50 => some (.inl (r50, (w64 (y37.2 + (1 : Int)))))))))) (some (.inr (y37.1, (0 : Int))))) (([] : List (Int × Int)), (0 : Int)))))
theorem F80_G (lf : Nat) (x : ((ByteArray × ((List (ByteArray × (Int × Int))) × (List (ByteArray × (Int × (Int × ((List (Int × (Int × (Int × (ByteArray × Int))))) × ((List (Int × (Int × (Int × (ByteArray × Int))))) × (List ByteArray))))))))) × (Int × ((List (ByteArray × (Int × Int))) × ByteArray)))) : F80 Tryz.prog lf x = G80 lf x := (F80_eq lf x.1.1 x.1.2.1 x.1.2.2 x.2.1 x.2.2.1 x.2.2.2).trans (by
  unfold G80
  (try simp only [F31_G, F91_G, F104_G, F110_G, F115_G, F116_G, F156_G, F173_G, agree_self, Lib.toList_data]); first | done | rfl)
end Go.K
set_option linter.unusedVariables false
set_option maxRecDepth 100000
set_option maxHeartbeats 0
namespace Go.K
open Go.Sl Go.Sx Go.Proofs
abbrev AO7 : List AT := [(true, (.pair .str (.pair (.sl (.pair .str (.pair .i .i))) (.sl (.pair .str (.pair .i (.pair .i (.pair (.sl (.pair .i (.pair .i (.pair .i (.pair .str .i))))) (.pair (.sl (.pair .i (.pair .i (.pair .i (.pair .str .i))))) (.sl .str)))))))))), (true, (.pair .i (.pair .i .i))), (false, (.sl .i))]
abbrev RO7 : List AT := [(false, .bool)]
def S7 : FuncId → Sp := fun g => match g with
  | 7 => { joins := [(23, [(.slot 102, .dat .bool)])], loops := [(20, [(.slot 15, .dat .bool), (.slot 89, .dat .i)]), (9, [(.slot 52, .dat .i)])] }
  | 128 => { nz := [(11, [12])] }
  | _ => {}
noncomputable def F7 (P : Program) (lf : Nat) (x : tt AO7) : Option (tt RO7) := fnF P (C12 P lf) S7 7 AO7 RO7 lf x
noncomputable def C7 (P : Program) (lf : Nat) : FuncId → Option Con := extC (C12 P lf) 7 (dataCon AO7 RO7 (F7 P lf))
abbrev AO16 : List AT := [(true, (.pair .str (.pair (.sl (.pair .str (.pair .i .i))) (.sl (.pair .str (.pair .i (.pair .i (.pair (.sl (.pair .i (.pair .i (.pair .i (.pair .str .i))))) (.pair (.sl (.pair .i (.pair .i (.pair .i (.pair .str .i))))) (.sl .str)))))))))), (true, (.pair .i (.pair .i (.pair (.sl (.pair .str (.pair .i .i))) .str)))), (true, (.pair .i .i))]
abbrev RO16 : List AT := [(false, .bool)]
def S16 : FuncId → Sp := fun g => match g with
  | 16 => { joins := [(21, [(.slot 163, .dat .bool)]), (12, [(.slot 114, .dat .bool)]), (6, [(.slot 60, .dat .bool)])], loops := [(18, [(.slot 21, .dat .bool), (.slot 150, .dat .i)])] }
  | 128 => { nz := [(11, [12])] }
  | _ => {}
noncomputable def F16 (P : Program) (lf : Nat) (x : tt AO16) : Option (tt RO16) := fnF P (C7 P lf) S16 16 AO16 RO16 lf x
theorem F16_eq (lf : Nat) (a0 : ByteArray) (a1 : (List (ByteArray × (Int × Int)))) (a2 : (List (ByteArray × (Int × (Int × ((List (Int × (Int × (Int × (ByteArray × Int))))) × ((List (Int × (Int × (Int × (ByteArray × Int))))) × (List ByteArray)))))))) (a3 : Int) (a4 : Int) (a5 : (List (ByteArray × (Int × Int)))) (a6 : ByteArray) (a7 : Int) (a8 : Int) : F16 Tryz.prog lf ((a0, (a1, a2)), ((a3, (a4, (a5, a6))), (a7, a8))) =
  ((F23 Tryz.prog lf ((a0, (a1, a2)), (a4, a5)))).bind fun r32 => ((F78 Tryz.prog lf ((a0, (a1, a2)), (a4, a5)))).bind fun r33 => ((F25 Tryz.prog lf ((a0, (a1, a2)), (a3, (a4, (a5, a6)))))).bind fun r34 => cond (!r34) (cond (!(decide (r32.2 = (0 : Int)))) (cond (!(decide (r33.2 = (0 : Int)))) (((F22 Tryz.prog lf ())).bind fun r35 => some r35) (some false)) (some false)) (jn (cond (!(decide (r32.2 = (0 : Int)))) (some (.inl true)) (some (.inl (!(decide (r33.2 = (0 : Int))))))) (fun y36 : Bool => cond y36 (some false) (((F43 Tryz.prog lf (((0 : Int), (w64 ((a1.length : Int) - (1 : Int)))), a7))).bind fun r37 => ((getI a1 r37)).bind fun r38 => ((getI a1 r37)).bind fun r39 => ((F43 Tryz.prog lf ((r39.2.1, r39.2.2), a8))).bind fun r40 => ((F83 Tryz.prog lf (a5, (r37, (r40, r40))))).bind fun r41 => ((F23 Tryz.prog lf ((a0, (a1, a2)), (a4, r41)))).bind fun r42 => jn (cond (!(decide (r42.2 = (0 : Int)))) (some (.inl true)) (cond (!(decide (r32.1 = (2 : Int)))) (((F84 Tryz.prog lf (r33.1, r38.1))).bind fun r43 => cond (!r43) (some (.inl (!(decide (r42.1 = r32.1))))) (some (.inl false))) (some (.inl false)))) (fun y44 : Bool => cond y44 (some false) (((getI a5 r37)).bind fun r45 => ((F43 Tryz.prog lf ((r45.2.1, r45.2.2), a8))).bind fun r46 => ((F80 Tryz.prog lf ((a0, (a1, a2)), (a4, (a5, r38.1))))).bind fun r47 => ((F83 Tryz.prog lf (a5, (r37, (r46, r46))))).bind fun r48 => ((F23 Tryz.prog lf ((a0, (a1, a2)), (a4, r48)))).bind fun r49 => iter lf (fun y50 : (Bool × Int) => cond (decide (y50.2 < (r47.1.length : Int))) (((getI r47.1 y50.2)).bind fun r51 => jn (cond (decide (r51.1 ≤ r46)) (some (.inl (decide (r46 ≤ r51.2)))) (some (.inl false))) (fun y52 : Bool => cond y52 (some (.inl (true, (w64 (y50.2 + (1 : Int)))))) (some (.inl (y50.1, (w64 (y50.2 + (1 : Int)))))))) (outR (cond (decide (r47.2 = (0 : Int))) (cond (decide (r49.2 = (0 : Int))) (cond (decide (y50.1 = (decide (r49.1 = (1 : Int))))) (((F22 Tryz.prog lf ())).bind fun r53 => some r53) (some false)) (some false)) (some false)))) (false, (0 : Int))))))) := by kernel_rfl
end Go.K
set_option linter.unusedVariables false
set_option linter.unusedSimpArgs false
set_option maxRecDepth 100000
set_option maxHeartbeats 0
namespace Go.K
open Go.Sl Go.Sx Go.Proofs
noncomputable def G16 (lf : Nat) (x : ((ByteArray × ((List (ByteArray × (Int × Int))) × (List (ByteArray × (Int × (Int × ((List (Int × (Int × (Int × (ByteArray × Int))))) × ((List (Int × (Int × (Int × (ByteArray × Int))))) × (List ByteArray))))))))) × ((Int × (Int × ((List (ByteArray × (Int × Int))) × ByteArray))) × (Int × Int)))) : Option (Bool) :=
  ((G23 lf ((x.1.1, (x.1.2.1, x.1.2.2)), (x.2.1.2.1, x.2.1.2.2.1)))).bind fun r32 => ((G78 lf ((x.1.1, (x.1.2.1, x.1.2.2)), (x.2.1.2.1, x.2.1.2.2.1)))).bind fun r33 => ((G25 lf ((x.1.1, (x.1.2.1, x.1.2.2)), (x.2.1.1, (x.2.1.2.1, (x.2.1.2.2.1, x.2.1.2.2.2)))))).bind fun r34 => cond (!r34) (cond (!(decide (r32.2 = (0 : Int)))) (cond (!(decide (r33.2 = (0 : Int)))) (((G22 lf ())).bind fun r35 => some r35) (some false)) (some false)) (jn (cond (!(decide (r32.2 = (0 : Int)))) (some (.inl true)) (some (.inl (!(decide (r33.2 = (0 : Int))))))) (fun y36 : Bool => cond y36 (some false) (((G43 lf (((0 : Int), (w64 ((x.1.2.1.length : Int) - (1 : Int)))), x.2.2.1))).bind fun r37 => ((getI x.1.2.1 r37)).bind fun r38 => ((getI x.1.2.1 r37)).bind fun r39 => ((G43 lf ((r39.2.1, r39.2.2), x.2.2.2))).bind fun r40 => ((G83 lf (x.2.1.2.2.1, (r37, (r40, r40))))).bind fun r41 => ((G23 lf ((x.1.1, (x.1.2.1, x.1.2.2)), (x.2.1.2.1, r41)))).bind fun r42 => jn (cond (!(decide (r42.2 = (0 : Int)))) (some (.inl true)) (cond (!(decide (r32.1 = (2 : Int)))) (((G84 lf (r33.1, r38.1))).bind fun r43 => cond (!r43) (some (.inl (!(decide (r42.1 = r32.1))))) (some (.inl false))) (some (.inl false)))) (fun y44 : Bool => cond y44 (some false) (((getI x.2.1.2.2.1 r37)).bind fun r45 => ((G43 lf ((r45.2.1, r45.2.2), x.2.2.2))).bind fun r46 => ((G80 lf ((x.1.1, (x.1.2.1, x.1.2.2)), (x.2.1.2.1, (x.2.1.2.2.1, r38.1))))).bind fun r47 => ((G83 lf (x.2.1.2.2.1, (r37, (r46, r46))))).bind fun r48 => ((G23 lf ((x.1.1, (x.1.2.1, x.1.2.2)), (x.2.1.2.1, r48)))).bind fun r49 => iter lf (fun y50 : (Bool × Int) => cond (decide (y50.2 < (r47.1.length : Int))) (((getI r47.1 y50.2)).bind fun r51 => jn (cond (decide (r51.1 ≤ r46)) (some (.inl (decide (r46 ≤ r51.2)))) (some (.inl false))) (fun y52 : Bool => cond y52 (some (.inl (true, (w64 (y50.2 + (1 : Int)))))) (some (.inl (y50.1, (w64 (y50.2 + (1 : Int)))))))) (outR (cond (decide (r47.2 = (0 : Int))) (cond (decide (r49.2 = (0 : Int))) (cond (decide (y50.1 = (decide (r49.1 = (1 : Int))))) (((G22 lf ())).bind fun r53 => some r53) (some false)) (some false)) (some false)))) (false, (0 : Int)))))))
theorem F16_G (lf : Nat) (x : ((ByteArray × ((List (ByteArray × (Int × Int))) × (List (ByteArray × (Int × (Int × ((List (Int × (Int × (Int × (ByteArray × Int))))) × ((List (Int × (Int × (Int × (ByteArray × Int))))) × (List ByteArray))))))))) × ((Int × (Int × ((List (ByteArray × (Int × Int))) × ByteArray))) × (Int × Int)))) : F16 Tryz.prog lf x = G16 lf x := (F16_eq lf x.1.1 x.1.2.1 x.1.2.2 x.2.1.1 x.2.1.2.1 x.2.1.2.2.1 x.2.1.2.2.2 x.2.2.1 x.2.2.2).trans (by
  unfold G16
  (try simp only [F22_G, F23_G, F25_G, F43_G, F78_G, F80_G, F83_G, F84_G, agree_self, Lib.toList_data]); first | done | rfl)
end Go.K
set_option linter.unusedVariables false
set_option linter.unusedSimpArgs false
set_option maxRecDepth 100000
namespace Go.K
open Go.Sl Go.Sx Go.Proofs
theorem castN_lt {k : List Nat} {i : Nat} (h : i < k.length) : decide ((i : Int) < ((castN k).length : Int)) = true := decide_eq_true (by simp [castN]; omega)
theorem vals_of {ρ : Type} {ls : List (List Int)} {k : List Nat} (hk : okI ls k) (hb : ls.length ≤ 1000) {f : List Int × Int → Option ((List Int × Int) ⊕ ρ)} {K : Option ρ}
    (h1 : ∀ (a : List Int) (i : Nat), i < k.length → f (a, (i : Int)) = ((getI (castN k) (i : Int))).bind fun r77 => ((getI (castN k) (i : Int))).bind fun r78 => ((getI ls (i : Int))).bind fun r79 => ((getI r79 r78)).bind fun r80 => ((appC a [r80])).bind fun r81 => some (.inl (r81, (w64 ((i : Int) + (1 : Int))))))
    (h2 : f (valsI ls k, ((castN k).length : Int)) = outR K) : iter LF f (([] : List Int), (0 : Int)) = K := by
  have hl := okI_len hk
  have hcl : (castN k).length = k.length := by simp [castN]
  refine (iter_foldI (f := f) (fun i a => (a, i)) (fun (x : Nat) i (a : List Int) => a ++ [(ls.getD i []).getD x 0]) (fun i a => a = valsI (ls.take i) (k.take i)) k (fun _ => K) []
    (fun i x a hx hg => ?_) (fun i x a hx hg => ?_) (fun a hg => ?_) (by show k.length < 9223372036854775808; omega) (by simp [valsI])).trans rfl
  · obtain ⟨c, hc, hlt⟩ := okI_get hk hx
    have hi := (List.getElem?_eq_some_iff.1 hx).1
    have hn : c[x]? = some c[x] := List.getElem?_eq_getElem hlt
    have hal : a.length ≤ 1000 := by rw [hg, vals_len (by simp; omega)]; simp; omega
    rw [h1 a i hi, getI_nat (show (castN k)[i]? = some (x : Int) by simp [castN, hx]), getI_nat hc]
    simp only [Option.bind_some, getI_nat hn, appC_of (show a.length + [c[x]].length ≤ 1099511627776 by simp; omega), succ_W (show i + 1 < 9223372036854775808 by omega)]
    simp [hc, hn]
  · have hi := (List.getElem?_eq_some_iff.1 hx).1
    have e1 := vals_take hk (i + 1) (by omega)
    have e0 := vals_take hk i (by omega)
    obtain ⟨c, hc, hlt⟩ := okI_get hk hx
    have t1 : k.take (i + 1) = k.take i ++ [x] := by rw [List.take_add_one, hx]; rfl
    have t2 : ls.take (i + 1) = ls.take i ++ [c] := by rw [List.take_add_one, hc]; rfl
    rw [t1, t2, vals_snoc _ _ (by simp; omega), ← hg]
    simp [hc]
  · have : a = valsI ls k := by rw [hg, List.take_length, ← hl, List.take_length]
    rw [this, ← hcl]; exact h2
theorem adv_of {ρ : Type} {ls : List (List Int)} {k : List Nat} (hk : okI ls k) (hb : ls.length ≤ 1000) (hcl : ∀ c ∈ ls, c.length < LF) (END : Option ρ) (NEXT : List Int → Option ρ) :
    jn (iter LF (fun y85 : (Int × (List Int)) => cond (decide (y85.1 ≥ (0 : Int))) (((getI y85.2 y85.1)).bind fun r86 => ((getI y85.2 y85.1)).bind fun r87 => ((getI ls y85.1)).bind fun r88 => cond (decide (r87 = (w64 ((r88.length : Int) - (1 : Int))))) (((getI y85.2 y85.1)).bind fun r89 => ((getI y85.2 y85.1)).bind fun r90 => ((setI y85.2 y85.1 (0 : Int))).bind fun r91 => some (.inl ((w64 (y85.1 - (1 : Int))), r91))) (some (.inr (.inl (y85.1, y85.2))))) (some (.inr (.inl (y85.1, y85.2))))) ((w64 ((ls.length : Int) - (1 : Int))), castN k))
      (fun y92 : (Int × (List Int)) => cond (decide (y92.1 < (0 : Int))) END (((getI y92.2 y92.1)).bind fun r94 => ((getI y92.2 y92.1)).bind fun r95 => ((getI y92.2 y92.1)).bind fun r96 => ((getI y92.2 y92.1)).bind fun r97 => ((setI y92.2 y92.1 (w64 (r95 + (1 : Int))))).bind NEXT))
    = match nxt ls k with
      | none => END
      | some k' => NEXT (castN k') := by
  have hkl := okI_len hk
  obtain ⟨i, at', h1, h2⟩ := adv_loop (ρ := (Int × List Int) ⊕ ρ) (ls := ls) (fun y => .inl y) hb hcl (f := fun y85 : (Int × (List Int)) => cond (decide (y85.1 ≥ (0 : Int))) (((getI y85.2 y85.1)).bind fun r86 => ((getI y85.2 y85.1)).bind fun r87 => ((getI ls y85.1)).bind fun r88 => cond (decide (r87 = (w64 ((r88.length : Int) - (1 : Int))))) (((getI y85.2 y85.1)).bind fun r89 => ((getI y85.2 y85.1)).bind fun r90 => ((setI y85.2 y85.1 (0 : Int))).bind fun r91 => some (.inl ((w64 (y85.1 - (1 : Int))), r91))) (some (.inr (.inl (y85.1, y85.2))))) (some (.inr (.inl (y85.1, y85.2)))))
    (fun at_ => rfl)
    (fun j x at_ c e1 e2 e3 e4 => by
      have hc := hcl c (List.mem_of_getElem? e2)
      have hc' : c.length < 9223372036854775808 := hc
      have d1 : decide ((j : Int) ≥ 0) = true := decide_eq_true (by omega)
      have d2 : decide ((x : Int) = w64 ((c.length : Int) - 1)) = true := decide_eq_true (by rw [w64_in (by omega)]; omega)
      simp only [d1, d2, cond_true, getI_nat e1, getI_nat e2, Option.bind_some])
    (fun j x at_ c e1 e2 e3 e4 => by
      have hc := hcl c (List.mem_of_getElem? e2)
      have hc' : c.length < 9223372036854775808 := hc
      have d1 : decide ((j : Int) ≥ 0) = true := decide_eq_true (by omega)
      have d2 : decide ((x : Int) = w64 ((c.length : Int) - 1)) = false := decide_eq_false (by rw [w64_in (by omega)]; omega)
      simp only [d1, d2, cond_true, cond_false, getI_nat e1, getI_nat e2, Option.bind_some])
    k.length ls [] k 0 LF (by simp) rfl hk (by show k.length < 9223372036854775808; omega)
  have hst : w64 ((ls.length : Int) - 1) = (k.length : Int) - 1 := by rw [w64_in (by omega)]; omega
  simp only [List.replicate_zero, List.append_nil] at h1 h2
  rw [hst, h1]
  simp only [jl]
  cases hn : nxt ls k with
  | none =>
    rw [hn] at h2
    subst h2
    rfl
  | some k' =>
    rw [hn] at h2
    obtain ⟨j, r, rfl, e1, e2⟩ := h2
    have d1 : decide ((j : Int) < 0) = false := decide_eq_false (by omega)
    simp only [d1, cond_false, getI_nat e1, Option.bind_some, e2]
theorem mkC_zer (ls : List (List Int)) (h : ls.length ≤ 1000) : mkC (ls.length : Int) (0 : Int) = some (castN (zerN ls)) := by
  unfold mkC
  rw [if_pos (by omega)]
  simp only [castN, zerN, List.map_map, Int.toNat_natCast]
  congr 1
  exact List.map_const'.symm
def prodL (l : List (List Int)) : Nat := l.foldr (fun x n => x.length * n) 1
theorem choL_len : ∀ l : List (List Int), (choL l).length = prodL l
  | [] => rfl
  | x :: l => by
    have ih := choL_len l
    show (x.flatMap fun n => (choL l).map (n :: ·)).length = x.length * prodL l
    rw [← ih]
    induction x with
    | nil => simp
    | cons a x ihx => rw [List.flatMap_cons, List.length_append, ihx, List.length_map, List.length_cons, Nat.add_mul]; omega
theorem prod_pos : ∀ {l : List (List Int)}, (∀ x ∈ l, x ≠ []) → 1 ≤ prodL l
  | [], _ => Nat.le_refl _
  | x :: l, h => Nat.mul_pos (List.length_pos_iff.2 (h x (List.mem_cons_self ..))) (prod_pos fun y hy => h y (List.mem_cons_of_mem _ hy))
theorem many_prod : ∀ (l : List (List Int)) (n : Nat), (∀ x ∈ l, x ≠ [] ∧ x.length ≤ 1000000) → 1 ≤ n → n ≤ 4001 →
    l.foldl (fun (n : Int) x => if (4001 : Int) < w64 (n * (x.length : Int)) then 4001 else w64 (n * (x.length : Int))) (n : Int) ≤ 4000 → n * prodL l ≤ 4000
  | [], n, _, _, h2, h => by
    simp only [List.foldl_nil] at h
    simp [prodL]; omega
  | x :: l, n, hl, h1, h2, h => by
    obtain ⟨hx0, hx1⟩ := hl x (List.mem_cons_self ..)
    have hxp := List.length_pos_iff.2 hx0
    have hb : n * x.length ≤ 4001 * 1000000 := Nat.mul_le_mul h2 hx1
    have hp : n ≤ n * x.length := Nat.le_mul_of_pos_right _ hxp
    have he : w64 ((n : Int) * (x.length : Int)) = ((n * x.length : Nat) : Int) := by
      rw [← Int.natCast_mul, w64_in (by omega)]
    rw [List.foldl_cons, he] at h
    have hprod := prod_pos (l := l) fun y hy => (hl y (List.mem_cons_of_mem _ hy)).1
    by_cases hc : 4001 < n * x.length
    · rw [if_pos (by omega)] at h
      have := many_prod l 4001 (fun y hy => hl y (List.mem_cons_of_mem _ hy)) (by omega) (by omega) h
      have : 4001 * 1 ≤ 4001 * prodL l := Nat.mul_le_mul (Nat.le_refl _) hprod
      omega
    · rw [if_neg (by omega)] at h
      have := many_prod l (n * x.length) (fun y hy => hl y (List.mem_cons_of_mem _ hy)) (by omega) (by omega) h
      show n * (x.length * prodL l) ≤ 4000
      rw [← Nat.mul_assoc]; exact this
theorem rise_le : ∀ {l m : List Int}, Rise l → Rise m → (∀ x ∈ l, x ∈ m) → l.length ≤ m.length
  | [], _, _, _, _ => by simp
  | a :: l, [], _, _, h => absurd (h a (List.mem_cons_self ..)) (by simp)
  | a :: l, b :: m, hl, hm, h => by
    obtain ⟨l1, l2⟩ := List.pairwise_cons.1 hl
    obtain ⟨m1, m2⟩ := List.pairwise_cons.1 hm
    by_cases e : a = b
    · subst e
      have := rise_le l2 m2 fun x hx => by
        rcases List.mem_cons.1 (h x (List.mem_cons_of_mem _ hx)) with e | e
        · subst e; exact absurd (l1 x hx) (Int.lt_irrefl _)
        · exact e
      simp only [List.length_cons]; omega
    · have ha : a ∈ m := by
        rcases List.mem_cons.1 (h a (List.mem_cons_self ..)) with e' | e'
        · exact absurd e' e
        · exact e'
      have hb := m1 a ha
      have := rise_le hl m2 fun x hx => by
        rcases List.mem_cons.1 (h x hx) with e' | e'
        · rcases List.mem_cons.1 hx with e2 | e2
          · subst e2; exact ha
          · have := l1 x e2; omega
        · exact e'
      simp only [List.length_cons] at this ⊢; omega
theorem cuts_mem (cs : List Cnd) (x : Fct) : Rise (cutsOf cs x) ∧ ∀ n, n ∈ cutsOf cs x ↔ n = x.2.1 ∨ n ∈ cutN x cs := by
  obtain ⟨h1, h2⟩ := sc_rise (x.2.1 :: cutN x cs)
  exact ⟨h1, fun n => by rw [show cutsOf cs x = compL (sortL (x.2.1 :: cutN x cs)) from rfl, h2, List.mem_cons]⟩
theorem cuts_ne (cs : List Cnd) (x : Fct) : cutsOf cs x ≠ [] := fun e => by
  have := (cuts_mem cs x).2 x.2.1
  rw [e] at this
  simp at this
theorem cutN_mem {x : Fct} {cs : List Cnd} {n : Int} : n ∈ cutN x cs ↔ (∃ c ∈ cs, ∃ t ∈ c, t.2.2.2.1 = x.1 ∧ n ∈ partsL t) ∧ x.2.1 < n ∧ n ≤ x.2.2 := by
  unfold cutN cutT
  simp only [List.mem_flatMap]
  constructor
  · rintro ⟨c, hc, t, ht, hn⟩
    cases hd : decide (t.2.2.2.1 = x.1) with
    | false => rw [hd] at hn; simp at hn
    | true =>
      rw [hd] at hn
      simp only [cond_true, List.mem_filter] at hn
      obtain ⟨h1, h2⟩ := hn
      unfold inS at h2
      simp only [Bool.and_eq_true, decide_eq_true_eq] at h2
      exact ⟨⟨c, hc, t, ht, of_decide_eq_true hd, h1⟩, h2.1, h2.2⟩
  · rintro ⟨⟨c, hc, t, ht, e, h1⟩, h2, h3⟩
    refine ⟨c, hc, t, ht, ?_⟩
    rw [decide_eq_true e]
    simp only [cond_true, List.mem_filter]
    exact ⟨h1, by unfold inS; simp [h2, h3]⟩
theorem cutN_len (x : Fct) (cs : List Cnd) (hc : cs.length ≤ 100) (ht : ∀ c ∈ cs, List.length c ≤ 1000) : (cutN x cs).length ≤ 200000 := by
  have := flat_len (fun c : Cnd => c.flatMap (cutT x)) 2000 cs (fun c hc => by
    have h1 := flat_len (cutT x) 2 c (fun t _ => cutT_len x t)
    have h2 := ht c hc
    omega)
  unfold cutN; omega
theorem compact_le (xs : List Int) : (compL xs).length ≤ xs.length := by
  unfold compL Lib.compact Lib.compactUpTo
  rw [List.length_map]
  exact Nat.le_trans (List.length_filter_le _ _) (by simp)
theorem cuts_len (x : Fct) (cs : List Cnd) (hc : cs.length ≤ 100) (ht : ∀ c ∈ cs, List.length c ≤ 1000) : (cutsOf cs x).length ≤ 200001 := by
  have h1 := compact_le (sortL (x.2.1 :: cutN x cs))
  have h2 := sortL_len (x.2.1 :: cutN x cs)
  have h3 := cutN_len x cs hc ht
  unfold cutsOf
  simp only [List.length_cons] at h2
  omega
theorem cuts_le {cs : List Cnd} {x y : Fct} (h : fitB x y = true) : (cutsOf cs y).length ≤ (cutsOf cs x).length := by
  unfold fitB at h
  simp only [Bool.and_eq_true, decide_eq_true_eq] at h
  obtain ⟨e, h1, h2, h3⟩ := h
  obtain ⟨r1, m1⟩ := cuts_mem cs y
  obtain ⟨r2, m2⟩ := cuts_mem cs x
  -- without the least one
  have tl : ∀ {z : Fct}, ∃ t, cutsOf cs z = z.2.1 :: t ∧ ∀ n, n ∈ t ↔ n ∈ cutN z cs := by
    intro z
    obtain ⟨r, m⟩ := cuts_mem cs z
    cases hz : cutsOf cs z with
    | nil => exact absurd hz (cuts_ne cs z)
    | cons a t =>
      rw [hz] at r m
      obtain ⟨p1, p2⟩ := List.pairwise_cons.1 r
      have hlo : ∀ n, n ∈ cutN z cs → z.2.1 < n := fun n hn => (cutN_mem.1 hn).2.1
      have ha : a = z.2.1 := by
        rcases (m a).1 (List.mem_cons_self ..) with e | e
        · exact e
        · have h1 := hlo a e
          rcases List.mem_cons.1 ((m z.2.1).2 (.inl rfl)) with e' | e'
          · exact e'.symm
          · have := p1 _ e'; omega
      subst ha
      refine ⟨t, rfl, fun n => ⟨fun hn => ?_, fun hn => ?_⟩⟩
      · rcases (m n).1 (List.mem_cons_of_mem _ hn) with e | e
        · subst e; exact absurd (p1 _ hn) (Int.lt_irrefl _)
        · exact e
      · rcases List.mem_cons.1 ((m n).2 (.inr hn)) with e | e
        · subst e; exact absurd (hlo _ hn) (Int.lt_irrefl _)
        · exact e
  obtain ⟨t1, e1, n1⟩ := tl (z := y)
  obtain ⟨t2, e2, n2⟩ := tl (z := x)
  rw [e1] at r1
  rw [e2] at r2
  rw [e1, e2]
  have := rise_le (List.pairwise_cons.1 r1).2 (List.pairwise_cons.1 r2).2 fun n hn => by
    rw [n2, cutN_mem]
    obtain ⟨⟨c, hc, t, ht, e', hp⟩, h4, h5⟩ := cutN_mem.1 ((n1 n).1 hn)
    exact ⟨⟨c, hc, t, ht, by rw [e', e], hp⟩, by omega, by omega⟩
  simp only [List.length_cons]; omega
theorem fit_iff {f g : List Fct} (h : fitS f g = true) : f.length = g.length ∧ ∀ (i : Nat) (x y : Fct), f[i]? = some x → g[i]? = some y → fitB x y = true := by
  unfold fitS at h
  simp only [Bool.and_eq_true, decide_eq_true_eq, List.all_eq_true] at h
  refine ⟨h.1, fun i x y hx hy => h.2 (x, y) (List.mem_of_getElem? (i := i) ?_)⟩
  rw [List.getElem?_zip_eq_some]
  exact ⟨hx, hy⟩
theorem prod_le : ∀ {l m : List (List Int)}, l.length = m.length → (∀ (i : Nat) (x y : List Int), l[i]? = some x → m[i]? = some y → x.length ≤ y.length) → prodL l ≤ prodL m
  | [], [], _, _ => Nat.le_refl _
  | x :: l, y :: m, h, hh => Nat.mul_le_mul (hh 0 x y rfl rfl) (prod_le (by simpa using h) fun i a b ha hb => hh (i + 1) a b (by simpa using ha) (by simpa using hb))
  | [], _ :: _, h, _ => by simp at h
  | _ :: _, [], h, _ => by simp at h
theorem VC.cl {c : Cd} (h : VC c) : (condsL c.2.2).length ≤ 100 := by rw [conds_len]; have := h.ll; omega
theorem VC.cs {c : Cd} (h : VC c) : ∀ x ∈ condsL c.2.2, List.length x ≤ 1000 := conds_short h.rs
theorem starts_ne (f : List Fct) (cs : List Cnd) : ∀ x ∈ startsL f cs, x ≠ [] := by
  intro x hx
  unfold startsL at hx
  obtain ⟨y, _, rfl⟩ := List.mem_map.1 hx
  exact cuts_ne cs y
theorem starts_get {f : List Fct} {cs : List Cnd} {i : Nat} {x : List Int} (h : (startsL f cs)[i]? = some x) : ∃ y, f[i]? = some y ∧ x = cutsOf cs y := by
  unfold startsL at h
  rw [List.getElem?_map] at h
  cases hf : f[i]? with
  | none => rw [hf] at h; cases h
  | some y => rw [hf] at h; cases h; exact ⟨y, rfl, rfl⟩
theorem VC.prod {c : Cd} (h : VC c) : prodL (startsL c.2.1 (condsL c.2.2)) ≤ 4000 := by
  have := many_prod (startsL c.2.1 (condsL c.2.2)) 1 (fun x hx => ⟨starts_ne _ _ x hx, by
    unfold startsL at hx
    obtain ⟨y, _, rfl⟩ := List.mem_map.1 hx
    have := cuts_len y (condsL c.2.2) h.cl h.cs
    omega⟩) (by omega) (by omega) h.mn
  omega
structure VF (c : Cd) (f : List Fct) : Prop where
  ln : f.length = c.2.1.length
  cs : (choL (startsL f (condsL c.2.2))).length ≤ 4000
  fit : ∀ (i : Nat) (x y : Fct), c.2.1[i]? = some x → f[i]? = some y → fitB x y = true
theorem VF.of {c : Cd} (h : VC c) {f : List Fct} (hf : fitS c.2.1 f = true) : VF c f := by
  obtain ⟨h1, h2⟩ := fit_iff hf
  refine ⟨h1.symm, ?_, h2⟩
  rw [choL_len]
  refine Nat.le_trans (prod_le (m := startsL c.2.1 (condsL c.2.2)) (by simp [startsL, h1]) fun i x y hx hy => ?_) h.prod
  obtain ⟨u, hu, rfl⟩ := starts_get hx
  obtain ⟨w, hw, rfl⟩ := starts_get hy
  exact cuts_le (h2 i w u hw hu)
theorem VC.fact {c : Cd} (h : VC c) {i : Nat} {x : Fct} (hx : c.2.1[i]? = some x) : nmB x.1 = true ∧ (c.2.1.take i).any (fun y => decide (y.1 = x.1)) = false ∧ -1000000000000 ≤ x.2.1 ∧ x.2.1 ≤ x.2.2 ∧ x.2.2 ≤ 1000000000000 := by
  have := scan_none h.fs i x hx
  rw [Nat.zero_add] at this
  unfold factS at this
  cases h1 : !nmB x.1 || (c.2.1.take i).any fun y => decide (y.1 = x.1) with
  | true => rw [h1] at this; cases this
  | false =>
    rw [h1] at this
    simp only [Bool.or_eq_false_iff, Bool.not_eq_false'] at h1
    cases h2 : spanB x with
    | false => rw [h2] at this; cases this
    | true => unfold spanB at h2; exact ⟨h1.1, h1.2, of_decide_eq_true h2⟩
theorem cho_len : ∀ {l : List (List Int)} {v : List Int}, v ∈ choL l → v.length = l.length
  | [], v, h => by simp [choL] at h; subst h; rfl
  | x :: l, v, h => by
    simp only [choL, List.mem_flatMap, List.mem_map] at h
    obtain ⟨n, _, u, hu, rfl⟩ := h
    simp [cho_len hu]
theorem cho_ne {l : List (List Int)} (h : ∀ x ∈ l, x ≠ []) : choL l ≠ [] := by
  have := prod_pos h
  rw [← choL_len] at this
  exact List.length_pos_iff.1 this
theorem VF.vlen {c : Cd} {f : List Fct} (h : VF c f) {v : List Int} (hv : v ∈ casesL c f) : v.length = c.2.1.length := by
  rw [cho_len hv]; simp [startsL, h.ln]
end Go.K
set_option linter.unusedVariables false
set_option linter.unusedSimpArgs false
set_option maxRecDepth 100000
namespace Go.K
open Go.Sl Go.Sx Go.Proofs
theorem G106_idx (l : List Bool) (b : Bool) (hl : l.length < LF) : G106 LF (l, b) = some (idxI (fun x => decide (b = x)) l) := by
  unfold G106
  refine (iter_find (fun x => decide (b = x)) (fun i => (i : Int)) l (some (-1)) ?_ ?_ hl).trans ?_
  · intro i x hx
    have hi := lt_of_get hx
    simp only [dlt hi, cond_true, getI_nat hx, Option.bind_some, succ_W (Nat.lt_of_le_of_lt hi hl)]
    cases decide (b = x) <;> rfl
  · simp only [dnlt]; rfl
  · unfold idxI; cases idx (fun x => decide (b = x)) l 0 <;> rfl
theorem any_not (l : List Bool) : (l.any fun x => decide (false = x)) = l.any fun b => !b := by
  congr 1; funext b; cases b <;> rfl
theorem any_id (l : List Bool) : (l.any fun x => decide (true = x)) = l.any fun b => b := by
  congr 1; funext b; cases b <;> rfl
theorem G174_any (l : List Bool) (b : Bool) (hl : l.length < LF) : G174 LF (l, b) = some (l.any fun x => decide (b = x)) := by
  unfold G174
  simp only [G106_idx l b hl, Option.bind_some, idxI_nonneg]
theorem G125_ans (l : List Bool) (hl : l.length < LF) : G125 LF l = some (ansL l) := by
  unfold G125 ansL
  simp only [G174_any l _ hl, Option.bind_some, any_not, any_id]
  cases l.any fun b => !b with
  | false => rfl
  | true => cases l.any fun b => b <;> rfl
theorem G222_fit (x y : Fct) : G222 LF (x, y) = some (fitB x y) := by
  unfold G222 fitB
  simp only [eqD]
  by_cases h0 : x.1 = y.1
  · by_cases h1 : x.2.1 ≤ y.2.1
    · by_cases h2 : y.2.1 ≤ y.2.2
      · by_cases h3 : y.2.2 ≤ x.2.2 <;> simp [h0, h1, h2, h3]
      · simp [h0, h1, h2]
    · simp [h0, h1]
  · simp [h0]
theorem scan_all {σ : Type} (p : σ → Bool) : ∀ (l : List σ) (i : Nat), (scan (fun x _ => bif p x then none else some false) l i).getD true = l.all p
  | [], _ => rfl
  | x :: l, i => by
    simp only [scan, List.all_cons]
    cases p x with
    | true => simp only [cond_true, Bool.true_and]; exact scan_all p l (i + 1)
    | false => rfl
theorem G173_fit (c : Cd) (f : List Fct) (hl : c.2.1.length < LF) : G173 LF (c, f) = some (fitS c.2.1 f) := by
  unfold G173 fitS
  by_cases he : c.2.1.length = f.length
  · have e1 : decide ((c.2.1.length : Int) = (f.length : Int)) = true := decide_eq_true (by omega)
    have hz : (c.2.1.zip f).length = c.2.1.length := by simp [he]
    simp only [e1, Bool.not_true, cond_false, decide_eq_true he, Bool.true_and]
    refine (iter_scan (fun (p : Fct × Fct) _ => bif fitB p.1 p.2 then none else some false) (c.2.1.zip f) (some true) ?_ ?_ (by omega)).trans ?_
    · intro i p hp _
      obtain ⟨h1, h2⟩ := List.getElem?_zip_eq_some.1 hp
      have hi := lt_of_get h1
      simp only [dlt hi, cond_true, getI_nat h1, getI_nat h2, Option.bind_some, G222_fit, succ_W (Nat.lt_of_le_of_lt hi hl)]
      cases fitB p.1 p.2 <;> rfl
    · intro _
      rw [hz]
      simp only [dnlt]; rfl
    · exact (getD_none _ _).trans (congrArg some (scan_all (fun p : Fct × Fct => fitB p.1 p.2) _ _))
  · have e1 : decide ((c.2.1.length : Int) = (f.length : Int)) = false := decide_eq_false (by omega)
    simp only [e1, Bool.not_false, cond_true, decide_eq_false he, Bool.false_and]
theorem VC.of_code {c : Cd} (h : codeE c = 0) : c.2.1.length < LF := by
  have := (VC.of h).fl
  show c.2.1.length < 9223372036854775808; omega
theorem asked_P {ρ : Type} (c : Cd) (d : Int) (f : List Fct) (K : Int → Option ρ) :
    jn (((G31 LF c)).bind fun r10 => cond (!(decide (r10 = (0 : Int)))) (some (.inl r10)) (((G91 LF (d, ((0 : Int), (100000 : Int))))).bind fun r11 => cond (!r11) (some (.inl (45 : Int))) (((G173 LF (c, f))).bind fun r12 => cond (!r12) (some (.inl (44 : Int))) (some (.inl (0 : Int)))))) K = K (askE c d f) := by
  unfold askE
  simp only [G31_code, Option.bind_some]
  by_cases h : codeE c = 0
  · simp only [h, decide_true, Bool.not_true, cond_false, G91_in, Option.bind_some, G173_fit c f (VC.of_code h), ne_eq, not_true, if_false]
    by_cases h2 : 0 ≤ d ∧ d ≤ 100000
    · simp only [decide_eq_true h2, Bool.not_true, cond_false, h2, not_true, if_false]
      cases fitS c.2.1 f <;> rfl
    · simp only [decide_eq_false h2, Bool.not_false, cond_true, jl]
      rw [if_pos h2]
  · simp only [h, decide_false, Bool.not_false, cond_true, jl, ne_eq, not_false_eq_true, if_true]
theorem G107_fit (c : Cd) (f : List Fct) (hl : c.2.1.length < LF) : G107 LF (c, f) = some (fitS c.2.1 f) := by
  unfold G107 fitS
  by_cases he : c.2.1.length = f.length
  · have e1 : decide ((f.length : Int) = (c.2.1.length : Int)) = true := decide_eq_true (by omega)
    have hz : (c.2.1.zip f).length = f.length := by simp [he]
    simp only [e1, Bool.not_true, cond_false, decide_eq_true he, Bool.true_and]
    refine (iter_scan (fun (p : Fct × Fct) _ => bif fitB p.1 p.2 then none else some false) (c.2.1.zip f) (some true) ?_ ?_ (by omega)).trans ?_
    · intro i p hp _
      obtain ⟨h1, h2⟩ := List.getElem?_zip_eq_some.1 hp
      have hi := lt_of_get h2
      simp only [dlt hi, cond_true, getI_nat h1, getI_nat h2, Option.bind_some, eqD, succ_W (Nat.lt_of_le_of_lt hi (by omega))]
      unfold fitB
      by_cases h0 : p.1.1 = p.2.1
      · by_cases c1 : p.2.2.1 > p.2.2.2
        · have : ¬ (p.1.2.1 ≤ p.2.2.1 ∧ p.2.2.1 ≤ p.2.2.2 ∧ p.2.2.2 ≤ p.1.2.2) := by omega
          simp [h0, c1, this, jl]
        · by_cases c2 : p.2.2.1 < p.1.2.1
          · have : ¬ (p.1.2.1 ≤ p.2.2.1 ∧ p.2.2.1 ≤ p.2.2.2 ∧ p.2.2.2 ≤ p.1.2.2) := by omega
            simp [h0, c1, c2, this, jl]
          · by_cases c3 : p.2.2.2 > p.1.2.2
            · have : ¬ (p.1.2.1 ≤ p.2.2.1 ∧ p.2.2.1 ≤ p.2.2.2 ∧ p.2.2.2 ≤ p.1.2.2) := by omega
              simp [h0, c1, c2, c3, this, jl]
            · have : p.1.2.1 ≤ p.2.2.1 ∧ p.2.2.1 ≤ p.2.2.2 ∧ p.2.2.2 ≤ p.1.2.2 := by omega
              simp [h0, c1, c2, c3, this, jl]
      · have h0' : ¬ p.2.1 = p.1.1 := fun e => h0 e.symm
        simp [h0, h0', jl]
    · intro _
      rw [hz]
      simp only [dnlt]; rfl
    · exact (getD_none _ _).trans (congrArg some (scan_all (fun p : Fct × Fct => fitB p.1 p.2) _ _))
  · have e1 : decide ((f.length : Int) = (c.2.1.length : Int)) = false := decide_eq_false (by omega)
    simp only [e1, Bool.not_false, cond_true, decide_eq_false he, Bool.false_and]
theorem ask_ok {c : Cd} {d : Int} {f : List Fct} (h : askE c d f = 0) : VC c ∧ (0 ≤ d ∧ d ≤ 100000) ∧ fitS c.2.1 f = true := by
  unfold askE at h
  split at h
  · rename_i h1; exact absurd h h1
  · rename_i h1
    split at h
    · cases h
    · rename_i h2
      cases h3 : fitS c.2.1 f with
      | false => rw [h3] at h; cases h
      | true => exact ⟨VC.of (by simpa using h1), by simpa using h2, rfl⟩
def allK (l : List Bool) : Bool := !l.any fun b => !b
def keptA (c : Cd) (d : Int) (f : List Fct) : Int := ansL ((casesL c f).map fun v => allK (keptL c d v))
theorem starts_len (f : List Fct) (cs : List Cnd) : (startsL f cs).length = f.length := by simp [startsL]
theorem starts_cl (f : List Fct) {c : Cd} (h : VC c) : ∀ x ∈ startsL f (condsL c.2.2), x.length < LF := by
  intro x hx
  unfold startsL at hx
  obtain ⟨y, _, rfl⟩ := List.mem_map.1 hx
  have := cuts_len y (condsL c.2.2) h.cl h.cs
  show (cutsOf (condsL c.2.2) y).length < 9223372036854775808; omega
theorem go_fold {V S ρ : Type} (g : V → S → S) : ∀ (l : List V) (s : S), goS (ρ := ρ) (fun v s => .inl (g v s)) l s = .inl (l.foldl (fun s v => g v s) s)
  | [], s => rfl
  | v :: l, s => by simp only [goS, List.foldl_cons]; exact go_fold g l _
theorem fold_map {V B : Type} (g : V → B) : ∀ (l : List V) (s : List B), l.foldl (fun s v => s ++ [g v]) s = s ++ l.map g
  | [], s => by simp
  | v :: l, s => by rw [List.foldl_cons, fold_map g l]; simp
theorem G104_kept {c : Cd} (h : VC c) {d : Int} {f : List Fct} (hf : VF c f) : G104 LF (c, (d, f)) = some (keptA c d f) := by
  have hfl := h.fl
  have hfn := hf.ln
  have hls := starts_len f (condsL c.2.2)
  unfold G104
  simp only [show G131 LF () = some () by rfl, Option.bind_some, G116_conds _ _ _ (show c.2.2.length ≤ 1000 by have := h.ll; omega), G115_starts _ _ (show f.length ≤ 1000 by omega) (show (condsL c.2.2).length ≤ 1000 by have := h.cl; omega) h.cs, mkC_zer _ (show (startsL f (condsL c.2.2)).length ≤ 1000 by omega)]
  refine (iter_odo (fun i s => (i, s)) (startsL f (condsL c.2.2)) (starts_ne _ _) (fun v s => .inl (s ++ [allK (keptL c d v)])) (fun n s => s.length = n) (fun s => some (ansL s)) ?_ ?_ (by have := hf.cs; show _ < 9223372036854775808; omega) [] rfl).trans ?_
  · intro k s n hk hv hn hs
    have hcs := hf.cs
    have hvl := hf.vlen hv
    have hkl : (keptL c d (valsI (startsL f (condsL c.2.2)) k)).length < LF := by rw [keptL_len]; exact h.ll'
    have hs' : (s ++ [allK (keptL c d (valsI (startsL f (condsL c.2.2)) k))]).length < LF := by show _ < 9223372036854775808; simp; omega
    refine vals_of hk (show (startsL f (condsL c.2.2)).length ≤ 1000 by omega) (fun a i hi => by simp only [castN_lt hi, cond_true]) ?_
    simp only [dnlt, cond_false]
    congr 1
    simp only [G130_judge (c := (c.1, (c.2.1, c.2.2))) h hvl, Option.bind_some, G174_any _ _ hkl, any_not, appC_of (show s.length + [!(keptL c d (valsI (startsL f (condsL c.2.2)) k)).any fun b => !b].length ≤ 1099511627776 by simp; omega)]
    refine (adv_of hk (show (startsL f (condsL c.2.2)).length ≤ 1000 by omega) (starts_cl f h) _ _).trans ?_
    cases nxt (startsL f (condsL c.2.2)) k with
    | some k' => rfl
    | none =>
      simp only
      rw [show (s ++ [!(keptL c d (valsI (startsL f (condsL c.2.2)) k)).any fun b => !b]) = s ++ [allK (keptL c d (valsI (startsL f (condsL c.2.2)) k))] from rfl, G125_ans _ hs']
      rfl
  · intro v s s' n _ _ hs he
    cases he
    simp [hs]
  · rw [go_fold, fold_map]
    rfl
theorem G23_kept (c : Cd) (d : Int) (f : List Fct) : G23 LF (c, (d, f)) = some (if askE c d f = 0 then (keptA c d f, 0) else (0, askE c d f)) := by
  unfold G23
  rw [asked_P (c.1, (c.2.1, c.2.2)) d f]
  by_cases h : askE c d f = 0
  · obtain ⟨h1, h2, h3⟩ := ask_ok h
    simp only [h, decide_true, Bool.not_true, cond_false, if_true]
    rw [show G104 LF ((c.1, (c.2.1, c.2.2)), (d, f)) = some (keptA c d f) from G104_kept h1 (VF.of h1 h3)]
    rfl
  · simp only [h, decide_false, Bool.not_false, cond_true, if_false]
end Go.K
set_option linter.unusedVariables false
set_option linter.unusedSimpArgs false
set_option maxRecDepth 100000
namespace Go.K
open Go.Sl Go.Sx Go.Proofs
theorem VF.prod {c : Cd} {f : List Fct} (h : VF c f) : prodL (startsL f (condsL c.2.2)) ≤ 4000 := by rw [← choL_len]; exact h.cs
end Go.K
namespace Go.K
theorem sane_true : G22 LF () = some true := by kernel_rfl
end Go.K
set_option linter.unusedVariables false
set_option linter.unusedSimpArgs false
set_option maxRecDepth 100000
namespace Go.K
open Go.Sl Go.Sx Go.Proofs
theorem ans_one {l : List Bool} : ansL l = 1 ↔ ∀ b ∈ l, b = true := by
  unfold ansL
  cases h : l.any fun b => !b with
  | false =>
    simp only [Bool.not_false, cond_true, true_iff]
    intro b hb
    rw [List.any_eq_false] at h
    have := h b hb
    cases b <;> simp_all
  | true =>
    simp only [Bool.not_true, cond_false]
    rw [List.any_eq_true] at h
    obtain ⟨b, hb, hn⟩ := h
    constructor
    · intro e
      exfalso
      revert e
      cases l.any fun b => b <;> simp
    · intro e
      have := e b hb
      subst this
      cases hn
theorem ans_cases (l : List Bool) : ansL l = 1 ∨ ansL l = 0 ∨ ansL l = 2 := by
  unfold ansL
  cases l.any fun b => !b with
  | false => exact .inl rfl
  | true => cases l.any fun b => b with
    | false => exact .inr (.inl rfl)
    | true => exact .inr (.inr rfl)
theorem cho_get : ∀ {l : List (List Int)} {v : List Int}, v ∈ choL l → ∀ {i : Nat} {n : Int}, v[i]? = some n → ∃ x, l[i]? = some x ∧ n ∈ x
  | [], v, h, i, n, hn => by simp [choL] at h; subst h; simp at hn
  | x :: l, v, h, i, n, hn => by
    simp only [choL, List.mem_flatMap, List.mem_map] at h
    obtain ⟨m, hm, u, hu, rfl⟩ := h
    cases i with
    | zero => simp at hn; subst hn; exact ⟨x, rfl, hm⟩
    | succ i =>
      obtain ⟨y, h1, h2⟩ := cho_get hu (i := i) (n := n) (by simpa using hn)
      exact ⟨y, by simpa using h1, h2⟩
theorem cut_in {cs : List Cnd} {x : Fct} (hx : x.2.1 ≤ x.2.2) {n : Int} (h : n ∈ cutsOf cs x) : x.2.1 ≤ n ∧ n ≤ x.2.2 := by
  rcases ((cuts_mem cs x).2 n).1 h with e | e
  · subst e; exact ⟨Int.le_refl _, hx⟩
  · obtain ⟨_, h1, h2⟩ := cutN_mem.1 e
    exact ⟨by omega, h2⟩
theorem VF.le {c : Cd} {f : List Fct} (h : VF c f) {i : Nat} {x : Fct} (hx : f[i]? = some x) : x.2.1 ≤ x.2.2 := by
  have hi := lt_of_get hx
  have hl := h.ln
  have := h.fit i _ x (List.getElem?_eq_getElem (show i < c.2.1.length by omega)) hx
  unfold fitB at this
  simp only [Bool.and_eq_true, decide_eq_true_eq] at this
  exact this.2.2.1
theorem VF.vin {c : Cd} {f : List Fct} (h : VF c f) {v : List Int} (hv : v ∈ casesL c f) {i : Nat} {x : Fct} {n : Int} (hx : f[i]? = some x) (hn : v[i]? = some n) : x.2.1 ≤ n ∧ n ≤ x.2.2 := by
  obtain ⟨y, h1, h2⟩ := cho_get hv hn
  obtain ⟨z, h3, rfl⟩ := starts_get h1
  rw [hx] at h3
  cases h3
  exact cut_in (h.le hx) h2
end Go.K
set_option linter.unusedVariables false
set_option linter.unusedSimpArgs false
set_option maxRecDepth 100000
namespace Go.K
open Go.Sl Go.Sx Go.Proofs
def near1 (l : List Int) (n m : Int) : Prop := m ∈ l ∧ m ≤ n ∧ ∀ k ∈ l, k ≤ n → k ≤ m
theorem near_ex : ∀ {l : List Int} {n : Int}, (∃ k ∈ l, k ≤ n) → ∃ m, near1 l n m
  | [], _, ⟨_, h, _⟩ => by cases h
  | a :: l, n, h => by
    by_cases hl : ∃ k ∈ l, k ≤ n
    · obtain ⟨m, h1, h2, h3⟩ := near_ex hl
      by_cases ha : a ≤ n ∧ m < a
      · exact ⟨a, List.mem_cons_self .., ha.1, fun k hk hkn => by
          rcases List.mem_cons.1 hk with e | e
          · omega
          · have := h3 k e hkn; omega⟩
      · exact ⟨m, List.mem_cons_of_mem _ h1, h2, fun k hk hkn => by
          rcases List.mem_cons.1 hk with e | e
          · subst e; omega
          · exact h3 k e hkn⟩
    · obtain ⟨k, hk, hkn⟩ := h
      rcases List.mem_cons.1 hk with e | e
      · subst e
        exact ⟨k, List.mem_cons_self .., hkn, fun q hq hqn => by
          rcases List.mem_cons.1 hq with e | e
          · omega
          · exact absurd ⟨q, e, hqn⟩ hl⟩
      · exact absurd ⟨k, e, hkn⟩ hl
theorem cho_ex : ∀ {ls : List (List Int)} {v : List Int} (Q : Nat → Int → Int → Prop), v.length = ls.length → (∀ i x n, ls[i]? = some x → v[i]? = some n → ∃ m ∈ x, Q i n m) →
    ∃ w ∈ choL ls, w.length = v.length ∧ ∀ i n m, v[i]? = some n → w[i]? = some m → Q i n m
  | [], [], Q, _, _ => ⟨[], by simp [choL], rfl, fun i n m h => by simp at h⟩
  | x :: ls, n :: v, Q, hl, h => by
    obtain ⟨m, hm, hq⟩ := h 0 x n rfl rfl
    obtain ⟨w, hw, hwl, hww⟩ := cho_ex (ls := ls) (v := v) (fun i => Q (i + 1)) (by simpa using hl) (fun i y k hy hk => h (i + 1) y k (by simpa using hy) (by simpa using hk))
    refine ⟨m :: w, ?_, by simp [hwl], fun i a b ha hb => ?_⟩
    · simp only [choL, List.mem_flatMap, List.mem_map]
      exact ⟨m, hm, w, hw, rfl⟩
    · cases i with
      | zero => simp at ha hb; subst ha hb; exact hq
      | succ i => exact hww i a b (by simpa using ha) (by simpa using hb)
  | [], _ :: _, _, h, _ => by simp at h
  | _ :: _, [], _, h, _ => by simp at h
def Near (c : Cd) (f : List Fct) (v w : List Int) : Prop := w.length = v.length ∧ ∀ (i : Nat) (x : Fct) (n m : Int), f[i]? = some x → v[i]? = some n → w[i]? = some m → near1 (cutsOf (condsL c.2.2) x) n m
def In (f : List Fct) (v : List Int) : Prop := v.length = f.length ∧ ∀ (i : Nat) (x : Fct) (n : Int), f[i]? = some x → v[i]? = some n → x.2.1 ≤ n ∧ n ≤ x.2.2
theorem cell_ex {c : Cd} {f : List Fct} {v : List Int} (hv : In f v) : ∃ w ∈ casesL c f, Near c f v w := by
  obtain ⟨w, h1, h2, h3⟩ := cho_ex (ls := startsL f (condsL c.2.2)) (v := v) (fun i n m => ∀ x, f[i]? = some x → near1 (cutsOf (condsL c.2.2) x) n m) (by rw [starts_len]; exact hv.1) (fun i x n hx hn => by
    obtain ⟨y, hy, rfl⟩ := starts_get hx
    obtain ⟨b1, b2⟩ := hv.2 i y n hy hn
    obtain ⟨m, hm⟩ := near_ex (l := cutsOf (condsL c.2.2) y) (n := n) ⟨y.2.1, ((cuts_mem _ y).2 _).2 (.inl rfl), b1⟩
    exact ⟨m, hm.1, fun z hz => by rw [hy] at hz; cases hz; exact hm⟩)
  exact ⟨w, h1, h2, fun i x n m hx hn hm => h3 i n m hn hm x hx⟩
theorem cut_side {cs : List Cnd} {x : Fct} {n m : Int} (hx : x.2.1 ≤ n ∧ n ≤ x.2.2) (h : near1 (cutsOf cs x) n m) {cd : Cnd} {t : Tm} (hc : cd ∈ cs) (ht : t ∈ cd) (hn : t.2.2.2.1 = x.1) {k : Int} (hk : k ∈ partsL t) : n < k ↔ m < k := by
  obtain ⟨h1, h2, h3⟩ := h
  have hlo : x.2.1 ≤ m := h3 _ (((cuts_mem cs x).2 _).2 (.inl rfl)) hx.1
  by_cases hk1 : x.2.1 < k
  · by_cases hk2 : k ≤ x.2.2
    · have hmem : k ∈ cutsOf cs x := ((cuts_mem cs x).2 k).2 (.inr (cutN_mem.2 ⟨⟨cd, hc, t, ht, hn, hk⟩, hk1, hk2⟩))
      constructor
      · intro h; omega
      · intro h
        by_cases hkn : k ≤ n
        · have := h3 k hmem hkn; omega
        · omega
    · omega
  · omega
theorem Near.term {c : Cd} (h : VC c) {f : List Fct} (hf : VF c f) {v w : List Int} (hv : In f v) (hw : Near c f v w) {cd : Cnd} (hc : cd ∈ condsL c.2.2) (hcd : condE c.2.1 cd = 0) {i : Nat} {t : Tm} (ht : cd[i]? = some t) (l : List Bool) : tmSo c.2.1 v t l = tmSo c.2.1 w t l := by
  obtain ⟨c1, c2, c3⟩ := cond_short hcd
  have hs := c3 i t ht
  have hkd := term_kd hs
  obtain ⟨hshp, hsh2⟩ := term_ok hs
  have htm := List.mem_of_getElem? ht
  cases hkd with
  | tru => rfl
  | neg _ => rfl
  | bin h0 _ _ => rcases h0 with rfl | rfl <;> rfl
  | cmp h1 h2 =>
    rename_i k a b s n
    obtain ⟨p, hp, hpl, x, hx, hxs⟩ := plF_get h2
    have hfl := hf.ln
    have hvl := hv.1
    have hwl := hw.1
    have hfp : f[p]? = some f[p] := List.getElem?_eq_getElem (by omega)
    have hname : x.1 = f[p].1 := by
      have := hf.fit p x f[p] hx hfp
      unfold fitB at this
      simp only [Bool.and_eq_true, decide_eq_true_eq] at this
      exact this.1
    have hvp : v[p]? = some v[p] := List.getElem?_eq_getElem (by omega)
    have hwp : w[p]? = some w[p] := List.getElem?_eq_getElem (by omega)
    have hin := hv.2 p _ _ hfp hvp
    have hne := hw.2 p _ _ _ hfp hvp hwp
    have hside : ∀ q, q ∈ partsL (k, (a, (b, (s, n)))) → (v[p] < q ↔ w[p] < q) := fun q hq => cut_side hin hne hc htm (by show s = f[p].1; rw [← hname, hxs]) hq
    have gv : v.getD (plF c.2.1 s).toNat 0 = v[p] := by rw [hp, Int.toNat_natCast, List.getD_eq_getElem?_getD, hvp]; rfl
    have gw : w.getD (plF c.2.1 s).toNat 0 = w[p] := by rw [hp, Int.toNat_natCast, List.getD_eq_getElem?_getD, hwp]; rfl
    have hnb : -1000000000000 ≤ n ∧ n ≤ 1000000000000 := by
      unfold shp at hshp
      simp only at hshp
      rw [if_neg (by omega), if_pos (by omega), decide_eq_true_eq] at hshp
      exact hshp.2.2
    have hw1 : w64 (n + 1) = n + 1 := w64_in (by omega)
    unfold tmSo
    simp only [gv, gw]
    rcases h1 with rfl | rfl | rfl
    · have := hside n (by simp [partsL])
      rw [if_neg (by decide), if_pos rfl, if_neg (by decide), if_pos rfl]
      exact decide_eq_decide.2 this
    · have := hside (n + 1) (by simp [partsL, hw1])
      rw [if_neg (by decide), if_neg (by decide), if_pos rfl, if_neg (by decide), if_neg (by decide), if_pos rfl]
      exact decide_eq_decide.2 (by omega)
    · have e1 := hside n (by simp [partsL])
      have e2 := hside (n + 1) (by simp [partsL, hw1])
      rw [if_neg (by decide), if_neg (by decide), if_neg (by decide), if_pos rfl, if_neg (by decide), if_neg (by decide), if_neg (by decide), if_pos rfl]
      exact decide_eq_decide.2 (by omega)
theorem Near.so {c : Cd} (h : VC c) {f : List Fct} (hf : VF c f) {v w : List Int} (hv : In f v) (hw : Near c f v w) {cd : Cnd} (hc : cd ∈ condsL c.2.2) (hcd : condE c.2.1 cd = 0) : soB c.2.1 v cd = soB c.2.1 w cd := by
  unfold soB soL
  congr 1
  have key : ∀ (m : Cnd), (∀ t ∈ m, t ∈ cd) → ∀ l, m.foldl (fun l t => l ++ [tmSo c.2.1 v t l]) l = m.foldl (fun l t => l ++ [tmSo c.2.1 w t l]) l := by
    intro m
    induction m with
    | nil => intro _ l; rfl
    | cons t m ih =>
      intro hs l
      obtain ⟨i, hi⟩ := List.mem_iff_getElem?.1 (hs t (List.mem_cons_self ..))
      rw [List.foldl_cons, List.foldl_cons, hw.term h hf hv hc hcd hi, ih (fun q hq => hs q (List.mem_cons_of_mem _ hq))]
  exact key cd (fun _ h => h) []
theorem conds_mem {l : List Rl} {r : Rl} (h : r ∈ l) : r.2.2.2.1 ∈ condsL l ∧ r.2.2.2.2.1 ∈ condsL l := by
  unfold condsL
  exact ⟨List.mem_flatMap.2 ⟨r, h, List.mem_cons_self ..⟩, List.mem_flatMap.2 ⟨r, h, List.mem_cons_of_mem _ (List.mem_cons_self ..)⟩⟩
theorem VC.conds {c : Cd} (h : VC c) {r : Rl} (hr : r ∈ c.2.2) : condE c.2.1 r.2.2.2.1 = 0 ∧ condE c.2.1 r.2.2.2.2.1 = 0 := by
  obtain ⟨i, hi⟩ := List.mem_iff_getElem?.1 hr
  obtain ⟨_, _, _, h1, h2, _⟩ := h.rule hi
  exact ⟨h1, h2⟩
theorem Near.binds {c : Cd} (h : VC c) {f : List Fct} (hf : VF c f) {v w : List Int} (hv : In f v) (hw : Near c f v w) (d : Int) : bindsL c d v = bindsL c d w := by
  unfold bindsL
  have key : ∀ (m : List Rl), (∀ r ∈ m, r ∈ c.2.2) → ∀ out, nbL c.2.1 c.2.2 d v m out = nbL c.2.1 c.2.2 d w m out := by
    intro m
    induction m with
    | nil => intro _ out; rfl
    | cons r m ih =>
      intro hs out
      have hr := hs r (List.mem_cons_self ..)
      have e : bindB c.2.1 c.2.2 d v r out = bindB c.2.1 c.2.2 d w r out := by
        unfold bindB
        rw [hw.so h hf hv (conds_mem hr).1 (h.conds hr).1]
      simp only [nbL, e]
      rw [ih (fun q hq => hs q (List.mem_cons_of_mem _ hq))]
  exact key c.2.2 (fun _ h => h) []
theorem Near.kept {c : Cd} (h : VC c) {f : List Fct} (hf : VF c f) {v w : List Int} (hv : In f v) (hw : Near c f v w) (d : Int) : keptL c d v = keptL c d w := by
  unfold keptL
  rw [hw.binds h hf hv d]
  have key : ∀ (m : List Rl), (∀ r ∈ m, r ∈ c.2.2) → ∀ bs : List Bool, List.zipWith (fun b (r : Rl) => !b || soB c.2.1 v r.2.2.2.2.1) bs m = List.zipWith (fun b (r : Rl) => !b || soB c.2.1 w r.2.2.2.2.1) bs m := by
    intro m
    induction m with
    | nil => intro _ bs; simp
    | cons r m ih =>
      intro hs bs
      have hr := hs r (List.mem_cons_self ..)
      cases bs with
      | nil => rfl
      | cons b bs =>
        simp only [List.zipWith_cons_cons]
        rw [hw.so h hf hv (conds_mem hr).2 (h.conds hr).2, ih (fun q hq => hs q (List.mem_cons_of_mem _ hq))]
  exact key c.2.2 (fun _ h => h) _
theorem cases_in {c : Cd} {f : List Fct} (hf : VF c f) {v : List Int} (hv : v ∈ casesL c f) : In f v := ⟨by rw [hf.vlen hv, hf.ln], fun i x n hx hn => hf.vin hv hx hn⟩
theorem kept_one {c : Cd} (h : VC c) {f : List Fct} (hf : VF c f) {d : Int} : keptA c d f = 1 ↔ ∀ v, In f v → allK (keptL c d v) = true := by
  unfold keptA
  rw [ans_one]
  constructor
  · intro ha v hv
    obtain ⟨w, hw, hn⟩ := cell_ex (c := c) hv
    rw [hn.kept h hf hv]
    exact ha _ (List.mem_map.2 ⟨w, hw, rfl⟩)
  · intro ha b hb
    obtain ⟨v, hv, rfl⟩ := List.mem_map.1 hb
    exact ha v (cases_in hf hv)
theorem ans_zero {l : List Bool} (hne : l ≠ []) : ansL l = 0 ↔ ∀ b ∈ l, b = false := by
  unfold ansL
  cases h1 : l.any fun b => !b with
  | false =>
    simp only [Bool.not_false, cond_true]
    constructor
    · intro h; cases h
    · intro h
      cases l with
      | nil => exact absurd rfl hne
      | cons b l =>
        have := h b (List.mem_cons_self ..)
        subst this
        simp at h1
  | true =>
    simp only [Bool.not_true, cond_false]
    cases h2 : l.any fun b => b with
    | false =>
      simp only [Bool.not_false, cond_true, true_iff]
      intro b hb
      rw [List.any_eq_false] at h2
      have := h2 b hb
      simpa using this
    | true =>
      simp only [Bool.not_true, cond_false]
      constructor
      · intro h; cases h
      · intro h
        rw [List.any_eq_true] at h2
        obtain ⟨b, hb, hbt⟩ := h2
        rw [h b hb] at hbt
        cases hbt
theorem kept_zero {c : Cd} (h : VC c) {f : List Fct} (hf : VF c f) {d : Int} : keptA c d f = 0 ↔ ∀ v, In f v → allK (keptL c d v) = false := by
  unfold keptA
  have hne : ((casesL c f).map fun v => allK (keptL c d v)) ≠ [] := by
    have : casesL c f ≠ [] := cho_ne (starts_ne _ _)
    simpa using this
  rw [ans_zero hne]
  constructor
  · intro ha v hv
    obtain ⟨w, hw, hn⟩ := cell_ex (c := c) hv
    rw [hn.kept h hf hv]
    exact ha _ (List.mem_map.2 ⟨w, hw, rfl⟩)
  · intro ha b hb
    obtain ⟨v, hv, rfl⟩ := List.mem_map.1 hb
    exact ha v (cases_in hf hv)
end Go.K
set_option linter.unusedVariables false
set_option linter.unusedSimpArgs false
set_option maxRecDepth 100000
namespace Go.K
open Go.Sl Go.Sx Go.Proofs
def chg (f : List Fct) (i : Nat) (lo hi : Int) : List Fct := f.set i ((f.getD i (bts [], (0, 0))).1, (lo, hi))
theorem setI_nat {α : Type} {l : List α} {i : Nat} {x : α} (h : i < l.length) : setI l (i : Int) x = some (l.set i x) := by
  unfold setI
  rw [if_pos (by omega)]
  simp
theorem G156_chg (f : List Fct) (i : Nat) (lo hi : Int) (h : i < f.length) (hl : f.length ≤ 1000) : G156 LF (f, ((i : Int), (lo, hi))) = some (chg f i lo hi) := by
  unfold G156
  have d : decide ((f.length : Int) = 0) = false := decide_eq_false (by omega)
  simp only [d, cond_false, appC_of (show ([] : List Fct).length + f.length ≤ 1099511627776 by simp; omega), List.nil_append, Option.bind_some, jl, getI_getD (l := f) (n := i) (bts [], (0, 0)) h, setI_nat h]
  rfl
theorem G83_chg (f : List Fct) (i : Nat) (lo hi : Int) (h : i < f.length) (hl : f.length ≤ 1000) : G83 LF (f, ((i : Int), (lo, hi))) = some (chg f i lo hi) := by
  unfold G83
  simp only [appC_of (show ([] : List Fct).length + f.length ≤ 1099511627776 by simp; omega), List.nil_append, Option.bind_some, getI_getD (l := f) (n := i) (bts [], (0, 0)) h, setI_nat h]
  rfl
theorem VF.mk' {c : Cd} (h : VC c) {f : List Fct} (h1 : f.length = c.2.1.length) (h2 : ∀ (i : Nat) (x y : Fct), c.2.1[i]? = some x → f[i]? = some y → fitB x y = true) : VF c f := by
  refine ⟨h1, ?_, h2⟩
  rw [choL_len]
  refine Nat.le_trans (prod_le (m := startsL c.2.1 (condsL c.2.2)) (by simp [startsL, h1]) fun i x y hx hy => ?_) h.prod
  obtain ⟨u, hu, rfl⟩ := starts_get hx
  obtain ⟨w, hw, rfl⟩ := starts_get hy
  exact cuts_le (h2 i w u hw hu)
theorem chg_get {f : List Fct} {i : Nat} {lo hi : Int} {j : Nat} {y : Fct} (h : (chg f i lo hi)[j]? = some y) : (j = i ∧ y.2 = (lo, hi) ∧ ∃ x, f[i]? = some x ∧ x.1 = y.1) ∨ (j ≠ i ∧ f[j]? = some y) := by
  unfold chg at h
  rw [List.getElem?_set] at h
  by_cases e : i = j
  · subst e
    left
    rw [if_pos rfl] at h
    split at h
    · rename_i hl
      cases h
      exact ⟨rfl, rfl, f[i], List.getElem?_eq_getElem hl, by rw [List.getD_eq_getElem?_getD, List.getElem?_eq_getElem hl]; rfl⟩
    · cases h
  · rw [if_neg e] at h
    exact .inr ⟨fun e' => e e'.symm, h⟩
theorem VF.chg {c : Cd} (h : VC c) {f : List Fct} (hf : VF c f) {i : Nat} {lo hi : Int} (hb : ∀ x, c.2.1[i]? = some x → x.2.1 ≤ lo ∧ lo ≤ hi ∧ hi ≤ x.2.2) : VF c (chg f i lo hi) := by
  refine VF.mk' h (by unfold Go.K.chg; rw [List.length_set, hf.ln]) fun j x y hx hy => ?_
  rcases chg_get hy with ⟨rfl, e, z, hz, hn⟩ | ⟨_, hy'⟩
  · have h1 := hf.fit j x z hx hz
    have h2 := hb x hx
    unfold fitB at h1 ⊢
    simp only [Bool.and_eq_true, decide_eq_true_eq] at h1 ⊢
    rw [e]
    exact ⟨by rw [h1.1, hn], h2⟩
  · exact hf.fit j x y hx hy'
theorem in_chg {c : Cd} (h : VC c) {f : List Fct} (hf : VF c f) {i : Nat} {x : Fct} (hx : c.2.1[i]? = some x) {v : List Int} (hv : In f v) : In (chg f i x.2.1 x.2.2) v := by
  refine ⟨by unfold chg; rw [List.length_set]; exact hv.1, fun j y n hy hn => ?_⟩
  rcases chg_get hy with ⟨rfl, e, z, hz, _⟩ | ⟨_, hy'⟩
  · have h1 := hv.2 j z n hz hn
    have h2 := hf.fit j x z hx hz
    unfold fitB at h2
    simp only [Bool.and_eq_true, decide_eq_true_eq] at h2
    rw [e]
    simp only
    omega
  · exact hv.2 j y n hy' hn
theorem kept_two {c : Cd} (h : VC c) {f g : List Fct} (hf : VF c f) (hg : VF c g) (hfg : ∀ v, In f v → In g v) {d : Int} (h2 : keptA c d f = 2) : keptA c d g = 2 := by
  rcases ans_cases ((casesL c g).map fun v => allK (keptL c d v)) with e | e | e
  · have h1 : keptA c d f = 1 := (kept_one h hf).2 fun v hv => (kept_one h hg).1 e v (hfg v hv)
    rw [h1] at h2; cases h2
  · have h1 : keptA c d f = 0 := (kept_zero h hf).2 fun v hv => (kept_zero h hg).1 e v (hfg v hv)
    rw [h1] at h2; cases h2
  · exact e
def restS (c : Cd) (d : Int) (f : List Fct) (x : Fct) (i : Nat) : List ByteArray := bif !decide (keptA c d (chg f i x.2.1 x.2.2) = keptA c d f) then [x.1] else []
def restA (c : Cd) (d : Int) (f : List Fct) : List ByteArray := foldI (fun x i a => a ++ restS c d f x i) c.2.1 0 []
theorem rest_len (c : Cd) (d : Int) (f : List Fct) : ∀ (l : List Fct) (i : Nat) (a : List ByteArray), (foldI (fun x i a => a ++ restS c d f x i) l i a).length ≤ a.length + l.length
  | [], _, _ => by simp [foldI]
  | x :: l, i, a => by
    have := rest_len c d f l (i + 1) (a ++ restS c d f x i)
    have h1 : (restS c d f x i).length ≤ 1 := by unfold restS; cases !decide (keptA c d (chg f i x.2.1 x.2.2) = keptA c d f) <;> simp
    simp only [foldI, List.length_cons]
    rw [List.length_append] at this; omega
theorem VC.chgF {c : Cd} (h : VC c) {f : List Fct} (hf : VF c f) {i : Nat} {x : Fct} (hx : c.2.1[i]? = some x) : VF c (chg f i x.2.1 x.2.2) :=
  hf.chg h fun y hy => by rw [hx] at hy; cases hy; have := h.fact hx; omega
theorem G78_rests (c : Cd) (d : Int) (f : List Fct) : G78 LF (c, (d, f)) = some (if askE c d f = 0 then (restA c d f, 0) else ([], askE c d f)) := by
  unfold G78
  rw [asked_P (c.1, (c.2.1, c.2.2)) d f]
  by_cases he : askE c d f = 0
  · obtain ⟨h, h2, h3⟩ := ask_ok he
    have hf := VF.of h h3
    have hfl := h.fl
    have hfn := hf.ln
    simp only [he, decide_true, Bool.not_true, cond_false, if_true, show G104 LF ((c.1, (c.2.1, c.2.2)), (d, f)) = some (keptA c d f) from G104_kept h hf, Option.bind_some]
    by_cases hk : keptA c d f = 2
    · simp only [hk, decide_true, cond_true]
      have : restA c d f = [] := by
        unfold restA
        have key : ∀ (l : List Fct) (i : Nat) (a : List ByteArray), (∀ j x, l[j]? = some x → c.2.1[i + j]? = some x) → foldI (fun x i a => a ++ restS c d f x i) l i a = a := by
          intro l
          induction l with
          | nil => intro i a _; rfl
          | cons x l ih =>
            intro i a hs
            have hx : c.2.1[i]? = some x := by simpa using hs 0 x rfl
            have e : restS c d f x i = [] := by
              unfold restS
              rw [kept_two h hf (h.chgF hf hx) (fun v hv => in_chg h hf hx hv) hk, hk]
              rfl
            simp only [foldI, e, List.append_nil]
            exact ih (i + 1) a fun j y hy => by
              have := hs (j + 1) y (by simpa using hy)
              rwa [show i + (j + 1) = i + 1 + j by omega] at this
        exact key c.2.1 0 [] (fun j x hx => by simpa using hx)
      rw [this]
    · simp only [decide_eq_false hk, cond_false]
      refine (iter_foldI (fun i a => (a, i)) (fun (x : Fct) i a => a ++ restS c d f x i) (fun i a => a.length ≤ i) c.2.1 (fun a => some (a, 0)) [] ?_ ?_ ?_ h.fl' (by simp)).trans rfl
      · intro i x a hx ha
        have hi := lt_of_get hx
        simp only [dlt hi, cond_true, getI_nat hx, Option.bind_some, G156_chg f i _ _ (by omega) (by omega), show G104 LF ((c.1, (c.2.1, c.2.2)), (d, chg f i x.2.1 x.2.2)) = some (keptA c d (chg f i x.2.1 x.2.2)) from G104_kept h (h.chgF hf hx), succ_W (show i + 1 < 9223372036854775808 by omega), appC_of (show a.length + [x.1].length ≤ 1099511627776 by simp; omega)]
        unfold restS
        cases decide (keptA c d (chg f i x.2.1 x.2.2) = keptA c d f) <;> simp
      · intro i x a hx ha
        have h1 : (restS c d f x i).length ≤ 1 := by unfold restS; cases !decide (keptA c d (chg f i x.2.1 x.2.2) = keptA c d f) <;> simp
        rw [List.length_append]; omega
      · intro a _
        simp only [dnlt]; rfl
  · simp only [he, decide_false, Bool.not_false, cond_true, if_false]
def lastR (l : List (Int × Int)) : Int × Int := l.getD (l.length - 1) (0, 0)
def alS (c : Cd) (d : Int) (f : List Fct) (p : Nat) (cs : List Int) (n : Int) (k : Nat) (out : List (Int × Int)) : List (Int × Int) :=
  let hi := if k + 1 < cs.length then w64 (cs.getD (k + 1) 0 - 1) else (f.getD p (bts [], (0, 0))).2.2
  if keptA c d (chg f p n n) = 1 then (if out ≠ [] ∧ w64 ((lastR out).2 + 1) = n then out.set (out.length - 1) ((lastR out).1, hi) else out ++ [(n, hi)]) else out
def alA (c : Cd) (d : Int) (f : List Fct) (p : Nat) : List (Int × Int) := foldI (alS c d f p (cutsOf (condsL c.2.2) (f.getD p (bts [], (0, 0))))) (cutsOf (condsL c.2.2) (f.getD p (bts [], (0, 0)))) 0 []
theorem alS_len (c : Cd) (d : Int) (f : List Fct) (p : Nat) (cs : List Int) (n : Int) (k : Nat) (out : List (Int × Int)) : (alS c d f p cs n k out).length ≤ out.length + 1 := by
  unfold alS
  simp only
  split
  · split
    · rw [List.length_set]; omega
    · simp
  · omega
theorem al_len (c : Cd) (d : Int) (f : List Fct) (p : Nat) (cs : List Int) : ∀ (l : List Int) (i : Nat) (a : List (Int × Int)), (foldI (alS c d f p cs) l i a).length ≤ a.length + l.length
  | [], _, _ => by simp [foldI]
  | x :: l, i, a => by
    have h1 := al_len c d f p cs l (i + 1) (alS c d f p cs x i a)
    have h2 := alS_len c d f p cs x i a
    simp only [foldI, List.length_cons]; omega
theorem fit_idx {f g : List Fct} (h1 : f.length = g.length) (h : ∀ (i : Nat) (x y : Fct), f[i]? = some x → g[i]? = some y → x.1 = y.1) (s : ByteArray) : plF f s = plF g s := by
  unfold plF idxI
  have key : ∀ (f g : List Fct) (i : Nat), f.length = g.length → (∀ (i : Nat) (x y : Fct), f[i]? = some x → g[i]? = some y → x.1 = y.1) → idx (fun x => decide (x.1 = s)) f i = idx (fun x => decide (x.1 = s)) g i := by
    intro f
    induction f with
    | nil => intro g i hl _; cases g with | nil => rfl | cons _ _ => simp at hl
    | cons x f ih =>
      intro g i hl hh
      cases g with
      | nil => simp at hl
      | cons y g =>
        have e := hh 0 x y rfl rfl
        simp only [idx, e]
        rw [ih g (i + 1) (by simpa using hl) fun j a b ha hb => hh (j + 1) a b (by simpa using ha) (by simpa using hb)]
  rw [key f g 0 h1 h]
theorem alCut {c : Cd} (h : VC c) {f : List Fct} (hf : VF c f) {p : Nat} {x : Fct} (hx : f[p]? = some x) {n : Int} (hn : n ∈ cutsOf (condsL c.2.2) x) : VF c (chg f p n n) := by
  refine hf.chg h fun y hy => ?_
  have h1 := cut_in (hf.le hx) hn
  have h2 := hf.fit p y x hy hx
  unfold fitB at h2
  simp only [Bool.and_eq_true, decide_eq_true_eq] at h2
  omega
theorem last_get {l : List (Int × Int)} (h : l ≠ []) (hl : l.length ≤ 1000000) : getI l (w64 ((l.length : Int) - 1)) = some (lastR l) := by
  have hp := List.length_pos_iff.2 h
  rw [w64_in (by omega), show (l.length : Int) - 1 = ((l.length - 1 : Nat) : Int) by omega, getI_getD (0, 0) (by omega)]
  rfl
theorem last_set {l : List (Int × Int)} (h : l ≠ []) (hl : l.length ≤ 1000000) (y : Int × Int) : setI l (w64 ((l.length : Int) - 1)) y = some (l.set (l.length - 1) y) := by
  have hp := List.length_pos_iff.2 h
  rw [w64_in (by omega), show (l.length : Int) - 1 = ((l.length - 1 : Nat) : Int) by omega, setI_nat (by omega)]
def allowA (c : Cd) (d : Int) (f : List Fct) (s : ByteArray) : List (Int × Int) × Int := if askE c d f = 0 then (if plF c.2.1 s < 0 then ([], 40) else (alA c d f (plF c.2.1 s).toNat, 0)) else ([], askE c d f)
end Go.K
set_option linter.unusedVariables false
set_option linter.unusedSimpArgs false
set_option maxRecDepth 100000
namespace Go.K
open Go.Sl Go.Sx Go.Proofs
abbrev Cl := Int × (Int × (Int × List Int))
end Go.K
set_option linter.unusedVariables false
set_option linter.unusedSimpArgs false
set_option maxRecDepth 100000
namespace Go.K
open Go.Sl Go.Sx Go.Proofs
def pkI (lo hi n : Int) : Int := lo + Int.tmod (Int.tmod n (hi - lo + 1) + (hi - lo + 1)) (hi - lo + 1)
theorem pkI_in {lo hi : Int} (h : lo ≤ hi) (n : Int) : lo ≤ pkI lo hi n ∧ pkI lo hi n ≤ hi := by
  unfold pkI
  have hw : 0 < hi - lo + 1 := by omega
  have h1 := Int.lt_tmod_of_pos n hw
  have h3 := Int.tmod_nonneg (a := Int.tmod n (hi - lo + 1) + (hi - lo + 1)) (hi - lo + 1) (by omega)
  have h4 := Int.tmod_lt_of_pos (Int.tmod n (hi - lo + 1) + (hi - lo + 1)) hw
  omega
theorem G43_pick {lo hi : Int} (h : lo ≤ hi) (h1 : -1000000000000 ≤ lo) (h2 : hi ≤ 1000000000000) (n : Int) : G43 LF ((lo, hi), n) = some (pkI lo hi n) := by
  have hw : 0 < hi - lo + 1 := by omega
  have e1 : w64 (hi - lo) = hi - lo := w64_in (by omega)
  have e2 : w64 (hi - lo + 1) = hi - lo + 1 := w64_in (by omega)
  have a1 := Int.lt_tmod_of_pos n hw
  have a2 := Int.tmod_lt_of_pos n hw
  have e3 : w64 (Int.tmod n (hi - lo + 1) + (hi - lo + 1)) = Int.tmod n (hi - lo + 1) + (hi - lo + 1) := w64_in (by omega)
  have hn : nz (hi - lo + 1) = some () := by unfold nz; rw [if_pos (by omega)]
  have hp := pkI_in h n
  unfold G43
  simp only [e1, e2, hn, Option.bind_some, e3]
  show some (w64 (pkI lo hi n)) = _
  rw [w64_in (by omega)]
theorem VC.spans {c : Cd} (h : VC c) : ∀ x ∈ c.2.1, -1000000000000 ≤ x.2.1 ∧ x.2.1 ≤ x.2.2 ∧ x.2.2 ≤ 1000000000000 := by
  intro x hx
  obtain ⟨i, hi⟩ := List.mem_iff_getElem?.1 hx
  exact (h.fact hi).2.2
end Go.K
set_option linter.unusedVariables false
set_option linter.unusedSimpArgs false
set_option maxRecDepth 100000
namespace Go.K
open Go.Sl Go.Sx Go.Proofs
theorem any_loop {σ ρ : Type} {f : Bool × Int → Option ((Bool × Int) ⊕ ρ)} (l : List σ) (p : σ → Bool) (R : Option ρ)
    (h1 : ∀ (k : Nat) x b, l[k]? = some x → f (b, (k : Nat)) = some (.inl (b || p x, ((k + 1 : Nat) : Int))))
    (h2 : f (l.any p, (l.length : Nat)) = outR R) (hl : l.length < LF) :
    iter LF f (false, 0) = R := by
  rw [iter_foldI (fun i (b : Bool) => (b, i)) (fun (x : σ) _ b => b || p x) (fun k b => b = (l.take k).any p) l (fun _ => R) false (fun k x b hx _ => h1 k x b hx) (fun k x b hx hb => by
    rw [List.take_add_one, hx, hb]
    simp) (fun b hb => by rw [hb, List.take_length]; exact h2) hl rfl]
end Go.K
set_option linter.unusedVariables false
set_option linter.unusedSimpArgs false
set_option maxRecDepth 100000
namespace Go.K
open Go.Sl Go.Sx Go.Proofs
theorem find_pl {f : List Fct} {s : ByteArray} (h : ¬ plF f s < 0) : ∃ p : Nat, plF f s = (p : Int) ∧ p < f.length := by
  have hn : decide (plF f s ≥ 0) = true := decide_eq_true (by omega)
  rw [plF_nn] at hn
  obtain ⟨p, e, hl, _⟩ := plF_get hn
  exact ⟨p, e, hl⟩
theorem G80_allow (c : Cd) (d : Int) (f : List Fct) (s : ByteArray) : G80 LF (c, (d, (f, s))) = some (allowA c d f s) := by
  unfold G80 allowA
  rw [asked_P (c.1, (c.2.1, c.2.2)) d f]
  by_cases he : askE c d f = 0
  · obtain ⟨h, h2, h3⟩ := ask_ok he
    have hf := VF.of h h3
    have hfl := h.fl
    have hfn := hf.ln
    have hfL : f.length < LF := by show f.length < 9223372036854775808; omega
    have hpe : plF f s = plF c.2.1 s := fit_idx hfn (fun i x y hx hy => by
      have := hf.fit i y x hy hx
      unfold fitB at this
      simp only [Bool.and_eq_true, decide_eq_true_eq] at this
      exact this.1.symm) s
    simp only [he, decide_true, Bool.not_true, cond_false, if_true, G110_plc f s hfL, hpe, Option.bind_some]
    by_cases hp : plF c.2.1 s < 0
    · simp only [hp, decide_true, cond_true, if_true]
    · obtain ⟨p, hpp, hpl⟩ := find_pl hp
      have hpf : p < f.length := by omega
      simp only [hpp, decide_eq_false (show ¬ (p : Int) < 0 by omega), cond_false, if_neg (show ¬ (p : Int) < 0 by omega), G116_conds _ _ _ (show c.2.2.length ≤ 1000 by have := h.ll; omega), G115_starts _ _ (show f.length ≤ 1000 by omega) (show (condsL c.2.2).length ≤ 1000 by have := h.cl; omega) h.cs, Option.bind_some, Int.toNat_natCast]
      have hfp : f[p]? = some (f.getD p (bts [], (0, 0))) := by rw [List.getD_eq_getElem?_getD, List.getElem?_eq_getElem hpf]; rfl
      have hst : getI (startsL f (condsL c.2.2)) (p : Int) = some (cutsOf (condsL c.2.2) (f.getD p (bts [], (0, 0)))) := by
        apply getI_nat
        unfold startsL
        rw [List.getElem?_map, hfp]; rfl
      have hcl := cuts_len (f.getD p (bts [], (0, 0))) (condsL c.2.2) h.cl h.cs
      simp only [hst, Option.bind_some, getI_nat hfp]
      unfold alA
      generalize hcs : cutsOf (condsL c.2.2) (f.getD p (bts [], (0, 0))) = cs at hcl
      refine (iter_foldI (fun i a => (a, i)) (alS c d f p cs) (fun i a => a.length ≤ i) cs (fun a => some (a, 0)) [] ?_ ?_ ?_ (by show cs.length < 9223372036854775808; omega) (by simp)).trans rfl
      · intro k n out hn ho
        have hk := lt_of_get hn
        have hin : n ∈ cutsOf (condsL c.2.2) (f.getD p (bts [], (0, 0))) := by rw [hcs]; exact List.mem_of_getElem? hn
        have hvf := alCut h hf hfp hin
        have hk1 : w64 ((k : Int) + 1) = ((k + 1 : Nat) : Int) := succ_W (show k + 1 < 9223372036854775808 by omega)
        simp only [dlt hk, cond_true, getI_nat hn, Option.bind_some, hk1]
        have hhi : ∀ {ρ : Type} (K : Int → Option ρ), jn (cond (decide (((k + 1 : Nat) : Int) < (cs.length : Int))) (((getI cs ((k + 1 : Nat) : Int))).bind fun r40 => some (.inl (w64 (r40 - (1 : Int))))) (some (.inl (f.getD p (bts [], (0, 0))).2.2))) K = K (if k + 1 < cs.length then w64 (cs.getD (k + 1) 0 - 1) else (f.getD p (bts [], (0, 0))).2.2) := by
          intro ρ K
          by_cases hkl : k + 1 < cs.length
          · simp only [dlt hkl, cond_true, getI_getD (l := cs) (n := k + 1) 0 hkl, Option.bind_some, jl, if_pos hkl]
          · have dd : decide (((k + 1 : Nat) : Int) < (cs.length : Int)) = false := decide_eq_false (by omega)
            simp only [dd, cond_false, jl, if_neg hkl]
        rw [hhi]
        simp only [G156_chg f p _ _ hpf (by omega), Option.bind_some, show G104 LF ((c.1, (c.2.1, c.2.2)), (d, chg f p n n)) = some (keptA c d (chg f p n n)) from G104_kept h hvf]
        unfold alS
        simp only
        by_cases hk2 : keptA c d (chg f p n n) = 1
        · simp only [hk2, decide_true, Bool.not_true, cond_false, if_true]
          by_cases ho0 : out = []
          · subst ho0
            simp only [List.length_nil]
            rw [show decide (w64 (((0 : Nat) : Int) - 1) ≥ 0) = false by rw [w64_in (by omega)]; rfl]
            simp only [cond_false, jl, appC_of (show ([] : List (Int × Int)).length + [(n, (if k + 1 < cs.length then w64 (cs.getD (k + 1) 0 - 1) else (f.getD p (bts [], (0, 0))).2.2))].length ≤ 1099511627776 by simp), Option.bind_some]
            simp
          · have hp0 := List.length_pos_iff.2 ho0
            have dd : decide (w64 ((out.length : Int) - 1) ≥ 0) = true := decide_eq_true (by rw [w64_in (by omega)]; omega)
            simp only [dd, cond_true, last_get ho0 (by omega), Option.bind_some, jl, last_set ho0 (by omega)]
            by_cases hj : w64 ((lastR out).2 + 1) = n
            · simp only [hj, decide_true, cond_true]
              simp [ho0]
            · simp only [decide_eq_false hj, cond_false, appC_of (show out.length + [(n, (if k + 1 < cs.length then w64 (cs.getD (k + 1) 0 - 1) else (f.getD p (bts [], (0, 0))).2.2))].length ≤ 1099511627776 by simp; omega), Option.bind_some]
              simp [hj]
        · simp only [decide_eq_false hk2, Bool.not_false, cond_true, if_neg hk2]
      · intro k n out _ ho
        have := alS_len c d f p cs n k out
        omega
      · intro a _
        simp only [dnlt]; rfl
  · simp only [he, decide_false, Bool.not_false, cond_true, if_false]
end Go.K
set_option linter.unusedVariables false
set_option linter.unusedSimpArgs false
set_option maxRecDepth 100000
namespace Go.K
open Go.Sl Go.Sx Go.Proofs
theorem foldI_inv {σ A : Type} {g : σ → Nat → A → A} (good : Nat → A → Prop) (all : List σ) (hg : ∀ i x a, all[i]? = some x → good i a → good (i + 1) (g x i a)) (a : A) (h0 : good 0 a) : good all.length (foldI g all 0 a) := by
  suffices H : ∀ (k i : Nat) (a : A), i + k = all.length → good i a → good all.length (foldI g (all.drop i) i a) from by simpa using H all.length 0 a (by omega) h0
  intro k
  induction k with
  | zero =>
    intro i a hi hgd
    rw [show i = all.length by omega, List.drop_length]
    rw [show i = all.length by omega] at hgd
    exact hgd
  | succ k ih =>
    intro i a hi hgd
    have hlt : i < all.length := by omega
    rw [List.drop_eq_getElem_cons hlt]
    exact ih (i + 1) _ (by omega) (hg i _ a (List.getElem?_eq_getElem hlt) hgd)
theorem rise_lt {l : List Int} (h : Rise l) {i j : Nat} {a b : Int} (hi : l[i]? = some a) (hj : l[j]? = some b) (hij : i < j) : a < b := by
  obtain ⟨hil, rfl⟩ := List.getElem?_eq_some_iff.1 hi
  obtain ⟨hjl, rfl⟩ := List.getElem?_eq_some_iff.1 hj
  exact List.pairwise_iff_getElem.1 h i j hil hjl hij
def hiK (cs : List Int) (hi : Int) (k : Nat) : Int := if k + 1 < cs.length then w64 (cs.getD (k + 1) 0 - 1) else hi
theorem hiK_lt {cs : List Int} {hi : Int} {k : Nat} (h : k + 1 < cs.length) (hb : ∀ n ∈ cs, -1000000000000 ≤ n ∧ n ≤ 1000000000000) : ∃ q, cs[k + 1]? = some q ∧ hiK cs hi k = q - 1 := by
  refine ⟨cs[k + 1], List.getElem?_eq_getElem h, ?_⟩
  have := hb _ (List.getElem_mem h)
  unfold hiK
  rw [if_pos h, List.getD_eq_getElem?_getD, List.getElem?_eq_getElem h, Option.getD_some, w64_in (by omega)]
theorem near_cell {cs : List Int} (hr : Rise cs) (hb : ∀ n ∈ cs, -1000000000000 ≤ n ∧ n ≤ 1000000000000) {hi m n : Int} (hm : m ≤ hi) (hn : near1 cs m n) (P : Int → Prop) :
    (∃ k q, cs[k]? = some q ∧ P q ∧ q ≤ m ∧ m ≤ hiK cs hi k) ↔ P n := by
  obtain ⟨h1, h2, h3⟩ := hn
  constructor
  · rintro ⟨k, q, hk, hp, hq, hle⟩
    obtain ⟨j, hj⟩ := List.mem_iff_getElem?.1 h1
    have hqn := h3 q (List.mem_of_getElem? hk) hq
    by_cases e : q = n
    · rwa [← e]
    · exfalso
      have hkj : k < j := by
        by_cases hc : k < j
        · exact hc
        · exfalso
          by_cases hc2 : j = k
          · subst hc2; rw [hk] at hj; cases hj; exact e rfl
          · have := rise_lt hr hj hk (by omega); omega
      have hjl := lt_of_get hj
      obtain ⟨s, hs, he⟩ := hiK_lt (hi := hi) (k := k) (by omega) hb
      rw [he] at hle
      by_cases hc : j = k + 1
      · subst hc; rw [hs] at hj; cases hj; omega
      · have := rise_lt hr hs hj (by omega); omega
  · intro hp
    obtain ⟨k, hk⟩ := List.mem_iff_getElem?.1 h1
    refine ⟨k, n, hk, hp, h2, ?_⟩
    by_cases hl : k + 1 < cs.length
    · obtain ⟨s, hs, he⟩ := hiK_lt (hi := hi) hl hb
      rw [he]
      have hlt := rise_lt hr hk hs (by omega)
      by_cases hc : s ≤ m
      · have := h3 s (List.mem_of_getElem? hs) hc; omega
      · omega
    · unfold hiK; rw [if_neg hl]; exact hm
theorem al_cover {c : Cd} {d : Int} {f : List Fct} {p : Nat} {cs : List Int} (hr : Rise cs) (hb : ∀ n ∈ cs, -1000000000000 ≤ n ∧ n ≤ 1000000000000) (hhi : ∀ n ∈ cs, n ≤ (f.getD p (bts [], (0, 0))).2.2) (hh : (f.getD p (bts [], (0, 0))).2.2 ≤ 1000000000000) (m : Int) :
    (∃ r ∈ foldI (alS c d f p cs) cs 0 [], r.1 ≤ m ∧ m ≤ r.2) ↔ ∃ k q, cs[k]? = some q ∧ keptA c d (chg f p q q) = 1 ∧ q ≤ m ∧ m ≤ hiK cs (f.getD p (bts [], (0, 0))).2.2 k := by
  have key := foldI_inv (g := alS c d f p cs) (fun i (out : List (Int × Int)) => ((∃ r ∈ out, r.1 ≤ m ∧ m ≤ r.2) ↔ ∃ k q, k < i ∧ cs[k]? = some q ∧ keptA c d (chg f p q q) = 1 ∧ q ≤ m ∧ m ≤ hiK cs (f.getD p (bts [], (0, 0))).2.2 k) ∧ ∀ r ∈ out, -1000000000000 ≤ r.1 ∧ r.1 ≤ r.2 ∧ r.2 ≤ 1000000000000) cs ?_ [] ?_
  · refine key.1.trans ⟨fun ⟨k, q, _, h⟩ => ⟨k, q, h⟩, fun ⟨k, q, h⟩ => ⟨k, q, lt_of_get h.1, h⟩⟩
  · intro i n out hn ⟨hI, hO⟩
    have hnm := List.mem_of_getElem? hn
    have hnb := hb n hnm
    have hnh := hhi n hnm
    have hH : n ≤ hiK cs (f.getD p (bts [], (0, 0))).2.2 i ∧ hiK cs (f.getD p (bts [], (0, 0))).2.2 i ≤ 1000000000000 := by
      by_cases hl : i + 1 < cs.length
      · obtain ⟨s, hs, he⟩ := hiK_lt (hi := (f.getD p (bts [], (0, 0))).2.2) hl hb
        have := rise_lt hr hn hs (by omega)
        have := hb s (List.mem_of_getElem? hs)
        omega
      · unfold hiK; rw [if_neg hl]; omega
    have step : ∀ {Q : Prop}, (Q ↔ ((∃ r ∈ out, r.1 ≤ m ∧ m ≤ r.2) ∨ (keptA c d (chg f p n n) = 1 ∧ n ≤ m ∧ m ≤ hiK cs (f.getD p (bts [], (0, 0))).2.2 i))) → (Q ↔ ∃ k q, k < i + 1 ∧ cs[k]? = some q ∧ keptA c d (chg f p q q) = 1 ∧ q ≤ m ∧ m ≤ hiK cs (f.getD p (bts [], (0, 0))).2.2 k) := by
      intro Q hQ
      rw [hQ, hI]
      constructor
      · rintro (⟨k, q, h1, h2⟩ | h)
        · exact ⟨k, q, by omega, h2⟩
        · exact ⟨i, n, by omega, hn, h⟩
      · rintro ⟨k, q, h1, h2, h3⟩
        by_cases e : k = i
        · subst e
          rw [hn] at h2; cases h2
          exact .inr h3
        · exact .inl ⟨k, q, by omega, h2, h3⟩
    unfold alS
    simp only
    by_cases hk : keptA c d (chg f p n n) = 1
    · rw [if_pos hk]
      change (_ ↔ _) ∧ _
      rw [show (if i + 1 < cs.length then w64 (cs.getD (i + 1) 0 - 1) else (f.getD p (bts [], (0, 0))).2.2) = hiK cs (f.getD p (bts [], (0, 0))).2.2 i from rfl]
      generalize hiK cs (f.getD p (bts [], (0, 0))).2.2 i = H at hH step
      by_cases hj : out ≠ [] ∧ w64 ((lastR out).2 + 1) = n
      · rw [if_pos hj]
        obtain ⟨hne, hw⟩ := hj
        rcases List.eq_nil_or_concat out with e | ⟨ini, l, rfl⟩
        · exact absurd e hne
        · rw [List.concat_eq_append] at *
          have hlast : lastR (ini ++ [l]) = l := by unfold lastR; simp
          have hset : (ini ++ [l]).set ((ini ++ [l]).length - 1) ((lastR (ini ++ [l])).1, H) = ini ++ [(l.1, H)] := by
            rw [hlast]; simp
          have hlb := hO l (by simp)
          rw [hlast, w64_in (by omega)] at hw
          rw [hset]
          refine ⟨step ?_, ?_⟩
          · simp only [List.mem_append, List.mem_singleton, or_and_right, exists_or, exists_eq_left, hk, true_and]
            constructor
            · rintro (h | ⟨h1, h2⟩)
              · exact .inl (.inl h)
              · by_cases hc : m ≤ l.2
                · exact .inl (.inr ⟨h1, hc⟩)
                · exact .inr ⟨by omega, h2⟩
            · rintro ((h | ⟨h1, h2⟩) | ⟨h1, h2⟩)
              · exact .inl h
              · exact .inr ⟨h1, by omega⟩
              · exact .inr ⟨by omega, h2⟩
          · intro r hr
            rcases List.mem_append.1 hr with h | h
            · exact hO r (by simp [h])
            · simp only [List.mem_singleton] at h
              subst h
              simp only
              omega
      · rw [if_neg hj]
        refine ⟨step ?_, ?_⟩
        · simp only [List.mem_append, List.mem_singleton, or_and_right, exists_or, exists_eq_left, hk, true_and]
        · intro r hr
          rcases List.mem_append.1 hr with h | h
          · exact hO r h
          · simp only [List.mem_singleton] at h
            subst h
            simp only
            omega
    · rw [if_neg hk]
      exact ⟨step ⟨.inl, fun h => h.elim id fun h => absurd h.1 hk⟩, hO⟩
  · exact ⟨⟨fun ⟨r, hr, _⟩ => by (cases hr), fun ⟨k, q, h, _⟩ => by omega⟩, fun r hr => by cases hr⟩
end Go.K
set_option linter.unusedVariables false
set_option linter.unusedSimpArgs false
set_option maxRecDepth 100000
namespace Go.K
open Go.Sl Go.Sx Go.Proofs
theorem chg_ne {f : List Fct} {i j : Nat} {lo hi : Int} (h : j ≠ i) : (chg f i lo hi)[j]? = f[j]? := by
  unfold chg; rw [List.getElem?_set, if_neg (fun e => h e.symm)]
theorem chg_eq {f : List Fct} {i : Nat} {x : Fct} {lo hi : Int} (h : f[i]? = some x) : (chg f i lo hi)[i]? = some (x.1, (lo, hi)) := by
  unfold chg
  rw [List.getElem?_set, if_pos rfl, if_pos (lt_of_get h), List.getD_eq_getElem?_getD, h]; rfl
theorem chg_len (f : List Fct) (i : Nat) (lo hi : Int) : (chg f i lo hi).length = f.length := by unfold chg; rw [List.length_set]
theorem near_swap {c : Cd} (h : VC c) {f : List Fct} (hf : VF c f) {p : Nat} {v w : List Int} (hv : In f v) (hw : In f w) (hs : ∀ i n, i ≠ p → v[i]? = some n → w[i]? = some n)
    (hp : ∀ x n m, f[p]? = some x → v[p]? = some n → w[p]? = some m → near1 (cutsOf (condsL c.2.2) x) n m) (d : Int) : keptL c d v = keptL c d w := by
  obtain ⟨u, hu, hn⟩ := cell_ex (c := c) hw
  have hvu : Near c f v u := ⟨by rw [hn.1, hw.1, hv.1], fun i x n m hx hvn hm => by
    by_cases e : i = p
    · subst e
      have hwl : i < w.length := by rw [hw.1]; exact lt_of_get hx
      have hq : w[i]? = some w[i] := List.getElem?_eq_getElem hwl
      obtain ⟨a1, a2, a3⟩ := hn.2 i x _ m hx hq hm
      obtain ⟨b1, b2, b3⟩ := hp x n _ hx hvn hq
      have := a3 _ b1 (Int.le_refl _)
      rw [show m = w[i] by omega]
      exact ⟨b1, b2, b3⟩
    · exact hn.2 i x n m hx (hs i n e hvn) hm⟩
  rw [hvu.kept h hf hv d, hn.kept h hf hw d]
theorem in_one {f : List Fct} {p : Nat} {a : Int} {v : List Int} (hv : In (chg f p a a) v) {x : Fct} (hx : f[p]? = some x) : v[p]? = some a := by
  have hl : p < v.length := by rw [hv.1, chg_len]; exact lt_of_get hx
  have hq : v[p]? = some v[p] := List.getElem?_eq_getElem hl
  have := hv.2 p _ _ (chg_eq hx) hq
  simp only at this
  rw [hq, show v[p] = a by omega]
theorem in_of_one {f : List Fct} {p : Nat} {a : Int} {v : List Int} (hv : In (chg f p a a) v) {x : Fct} (hx : f[p]? = some x) (ha : x.2.1 ≤ a ∧ a ≤ x.2.2) : In f v := by
  refine ⟨by rw [hv.1, chg_len], fun i y n hy hn => ?_⟩
  by_cases e : i = p
  · subst e
    rw [in_one hv hx] at hn
    rw [hx] at hy
    cases hn; cases hy; exact ha
  · exact hv.2 i y n (by rw [chg_ne e]; exact hy) hn
theorem in_set {f : List Fct} {p : Nat} {a b : Int} {v : List Int} (hv : In (chg f p a a) v) : In (chg f p b b) (v.set p b) := by
  refine ⟨by rw [List.length_set, hv.1, chg_len, chg_len], fun i y n hy hn => ?_⟩
  by_cases e : i = p
  · subst e
    rcases chg_get hy with ⟨_, e2, _⟩ | ⟨e2, _⟩
    · rw [List.getElem?_set, if_pos rfl] at hn
      split at hn
      · cases hn; rw [e2]; simp
      · cases hn
    · exact absurd rfl e2
  · rw [chg_ne e] at hy
    rw [List.getElem?_set, if_neg (fun q => e q.symm)] at hn
    exact hv.2 i y n (by rw [chg_ne e]; exact hy) hn
theorem kept_cell {c : Cd} (h : VC c) {f : List Fct} (hf : VF c f) {p : Nat} {x : Fct} (hx : f[p]? = some x) {n m : Int} (hn : x.2.1 ≤ n ∧ n ≤ x.2.2) (hm : near1 (cutsOf (condsL c.2.2) x) n m) (hfn : VF c (chg f p n n)) (hfm : VF c (chg f p m m)) (d : Int) :
    keptA c d (chg f p n n) = 1 ↔ keptA c d (chg f p m m) = 1 := by
  have hmb := cut_in (hf.le hx) hm.1
  rw [kept_one h hfn, kept_one h hfm]
  constructor
  · intro ha w hw
    have hv := in_set (b := n) hw
    have e := near_swap h hf (p := p) (v := w.set p n) (w := w) (in_of_one hv hx hn) (in_of_one hw hx ⟨by omega, by omega⟩) (fun i k hi hk => by rwa [List.getElem?_set, if_neg (fun q => hi q.symm)] at hk) (fun y a b hy h1 h2 => by
      rw [in_one hv hx] at h1
      rw [in_one hw hx] at h2
      rw [hx] at hy
      cases h1; cases h2; cases hy; exact hm) d
    rw [← e]
    exact ha _ hv
  · intro ha v hv
    have hw := in_set (b := m) hv
    have e := near_swap h hf (p := p) (v := v) (w := v.set p m) (in_of_one hv hx hn) (in_of_one hw hx ⟨by omega, by omega⟩) (fun i k hi hk => by rwa [List.getElem?_set, if_neg (fun q => hi q.symm)]) (fun y a b hy h1 h2 => by
      rw [in_one hv hx] at h1
      rw [in_one hw hx] at h2
      rw [hx] at hy
      cases h1; cases h2; cases hy; exact hm) d
    rw [e]
    exact ha _ hw
theorem fold_memX {σ B : Type} (g : σ → Nat → List B) : ∀ (l : List σ) (k : Nat) (a : List B) (x : B), x ∈ foldI (fun y j a => a ++ g y j) l k a ↔ x ∈ a ∨ ∃ j y, l[j]? = some y ∧ x ∈ g y (k + j)
  | [], k, a, x => by simp [foldI]
  | y :: l, k, a, x => by
    simp only [foldI]
    rw [fold_memX g l (k + 1) (a ++ g y k) x, List.mem_append]
    constructor
    · rintro ((h | h) | ⟨j, z, h1, h2⟩)
      · exact .inl h
      · exact .inr ⟨0, y, rfl, h⟩
      · exact .inr ⟨j + 1, z, by simpa using h1, by rwa [show k + (j + 1) = k + 1 + j by omega]⟩
    · rintro (h | ⟨j, z, h1, h2⟩)
      · exact .inl (.inl h)
      · cases j with
        | zero => simp at h1; subst h1; exact .inl (.inr h2)
        | succ j => exact .inr ⟨j, z, by simpa using h1, by rwa [show k + 1 + j = k + (j + 1) by omega]⟩
theorem rest_not {c : Cd} {d : Int} {f : List Fct} {p : Nat} {x : Fct} (hx : c.2.1[p]? = some x) (h : x.1 ∉ restA c d f) : keptA c d (chg f p x.2.1 x.2.2) = keptA c d f := by
  by_cases e : keptA c d (chg f p x.2.1 x.2.2) = keptA c d f
  · exact e
  · exfalso
    apply h
    unfold restA
    rw [fold_memX (restS c d f)]
    refine .inr ⟨p, x, hx, ?_⟩
    unfold restS
    rw [Nat.zero_add, decide_eq_false e]
    simp
theorem kept_within {c : Cd} (h : VC c) {f : List Fct} (hf : VF c f) {p : Nat} {x : Fct} (hx : c.2.1[p]? = some x) {n : Int} (hn : x.2.1 ≤ n ∧ n ≤ x.2.2) {d : Int} (h2 : keptA c d f ≠ 2) (hr : x.1 ∉ restA c d f) : keptA c d (chg f p n n) = keptA c d f := by
  have e := rest_not hx hr
  have hw : VF c (chg f p x.2.1 x.2.2) := h.chgF hf hx
  have hone : VF c (chg f p n n) := hf.chg h fun y hy => by rw [hx] at hy; cases hy; omega
  have hfx : p < f.length := by rw [hf.ln]; exact lt_of_get hx
  have hfp : f[p]? = some f[p] := List.getElem?_eq_getElem hfx
  have sub : ∀ v, In (chg f p n n) v → In (chg f p x.2.1 x.2.2) v := fun v hv => ⟨by rw [hv.1, chg_len, chg_len], fun i y k hy hk => by
    by_cases ei : i = p
    · subst ei
      rw [in_one hv hfp] at hk
      cases hk
      rw [chg_eq hfp] at hy
      cases hy
      exact hn
    · rw [chg_ne ei] at hy
      exact hv.2 i y k (by rw [chg_ne ei]; exact hy) hk⟩
  rcases ans_cases ((casesL c f).map fun v => allK (keptL c d v)) with e1 | e1 | e1
  · rw [show keptA c d f = 1 from e1] at e ⊢
    exact (kept_one h hone).2 fun v hv => (kept_one h hw).1 e v (sub v hv)
  · rw [show keptA c d f = 0 from e1] at e ⊢
    exact (kept_zero h hone).2 fun v hv => (kept_zero h hw).1 e v (sub v hv)
  · exact absurd e1 h2
theorem plF_self {c : Cd} (h : VC c) {p : Nat} {x : Fct} (hx : c.2.1[p]? = some x) : plF c.2.1 x.1 = (p : Int) := by
  unfold plF idxI
  cases hi : idx (fun y : Fct => decide (y.1 = x.1)) c.2.1 0 with
  | none =>
    have := idx_none.1 hi x (List.mem_of_getElem? hx)
    simp at this
  | some n =>
    obtain ⟨y, h1, h2, h3⟩ := idx_some hi
    simp only [decide_eq_true_eq] at h2
    by_cases e : n = p
    · rw [e]
    · exfalso
      by_cases hlt : n < p
      · have := (h.fact hx).2.1
        rw [List.any_eq_false] at this
        refine this y ?_ (by simpa using h2)
        exact List.mem_of_getElem? (i := n) (by rw [List.getElem?_take, if_pos hlt]; exact h1)
      · have := h3 p x (by omega) hx
        simp at this
theorem fitS_of {f g : List Fct} (h1 : f.length = g.length) (h : ∀ (i : Nat) (x y : Fct), f[i]? = some x → g[i]? = some y → fitB x y = true) : fitS f g = true := by
  unfold fitS
  simp only [Bool.and_eq_true, decide_eq_true_eq, List.all_eq_true]
  refine ⟨h1, fun p hp => ?_⟩
  obtain ⟨i, hi⟩ := List.mem_iff_getElem?.1 hp
  obtain ⟨a, b⟩ := List.getElem?_zip_eq_some.1 hi
  exact h i p.1 p.2 a b
theorem ask_of {c : Cd} (he : codeE c = 0) {d : Int} (hd : 0 ≤ d ∧ d ≤ 100000) {f : List Fct} (hf : VF c f) : askE c d f = 0 := by
  unfold askE
  rw [if_neg (by simp [he]), if_neg (fun e => e hd), fitS_of hf.ln.symm hf.fit]
  rfl
theorem G25_ask (c : Cd) (k d : Int) (f : List Fct) (s : ByteArray) : G25 LF (c, (k, (d, (f, s)))) = some (decide (askE c d f = 0)) := by
  unfold G25 askE
  simp only [show G32 LF (c.1, (c.2.1, c.2.2)) = some (codeE c) from G32_code c, Option.bind_some]
  by_cases he : codeE c = 0
  · have h := VC.of he
    simp only [he, decide_true, cond_true, ne_eq, not_true, if_false]
    by_cases h0 : 0 ≤ d
    · by_cases h1 : d ≤ 100000
      · simp only [decide_eq_true (show d ≥ 0 from h0), decide_eq_true h1, cond_true, show G107 LF ((c.1, (c.2.1, c.2.2)), f) = some (fitS c.2.1 f) from G107_fit c f h.fl', Option.bind_some, if_neg (fun e : ¬ (0 ≤ d ∧ d ≤ 100000) => e ⟨h0, h1⟩)]
        cases fitS c.2.1 f <;> rfl
      · simp only [decide_eq_true (show d ≥ 0 from h0), decide_eq_false h1, cond_true, cond_false, if_pos (fun e : 0 ≤ d ∧ d ≤ 100000 => h1 e.2)]
        rfl
    · simp only [decide_eq_false (show ¬ d ≥ 0 from h0), cond_false, if_pos (fun e : 0 ≤ d ∧ d ≤ 100000 => h0 e.1)]
      rfl
  · simp only [he, decide_false, cond_false, ne_eq, not_false_eq_true, if_true]
theorem G84_has (l : List ByteArray) (s : ByteArray) (hl : l.length < LF) : G84 LF (l, s) = some (l.any fun y => decide (y = s)) := by
  unfold G84
  refine (iter_find (fun y => decide (y = s)) (fun _ => true) l (some false) ?_ ?_ hl).trans ?_
  · intro i y hy
    have hi := lt_of_get hy
    simp only [dlt hi, cond_true, getI_nat hy, Option.bind_some, eqD, succ_W (Nat.lt_of_le_of_lt hi hl)]
    cases decide (y = s) <;> rfl
  · simp only [dnlt]; rfl
  · rw [← idx_any]
    cases idx (fun y => decide (y = s)) l 0 <;> rfl
theorem rest_short {c : Cd} (h : VC c) (d : Int) (f : List Fct) : (restA c d f).length < LF := by
  have := rest_len c d f c.2.1 0 []
  have := h.fl
  show (restA c d f).length < 9223372036854775808
  unfold restA
  simp only [List.length_nil] at *
  omega
theorem G16_true (x : Cd × ((Int × (Int × (List Fct × ByteArray))) × (Int × Int))) : G16 LF x = some true := by
  obtain ⟨c, ⟨k0, d, f, s⟩, a0, b0⟩ := x
  unfold G16
  simp only [show ∀ f, G23 LF ((c.1, (c.2.1, c.2.2)), (d, f)) = _ from G23_kept c d, show G78 LF ((c.1, (c.2.1, c.2.2)), (d, f)) = _ from G78_rests c d f, show G25 LF ((c.1, (c.2.1, c.2.2)), (k0, (d, (f, s)))) = _ from G25_ask c k0 d f s, Option.bind_some]
  by_cases he : askE c d f = 0
  · obtain ⟨h, hd, hfit⟩ := ask_ok he
    have hc0 : codeE c = 0 := by
      unfold askE at he
      split at he
      · exact absurd he (by assumption)
      · omega
    have hf := VF.of h hfit
    have hfl := h.fl
    have hfn := hf.ln
    have hne := List.length_pos_iff.2 h.fn
    have w1 : w64 ((c.2.1.length : Int) - 1) = (c.2.1.length : Int) - 1 := w64_in (by omega)
    obtain ⟨i1, i2⟩ := pkI_in (lo := 0) (hi := (c.2.1.length : Int) - 1) (by omega) a0
    have hgi := G43_pick (lo := 0) (hi := (c.2.1.length : Int) - 1) (by omega) (by omega) (by omega) a0
    generalize pkI 0 ((c.2.1.length : Int) - 1) a0 = I at i1 i2 hgi
    obtain ⟨p, rfl⟩ := Int.eq_ofNat_of_zero_le i1
    have hp : p < c.2.1.length := by omega
    have hx : c.2.1[p]? = some c.2.1[p] := List.getElem?_eq_getElem hp
    have hy : f[p]? = some f[p] := List.getElem?_eq_getElem (by omega)
    generalize c.2.1[p] = x at hx
    generalize f[p] = y at hy
    obtain ⟨x0, x1, x2⟩ := h.spans x (List.mem_of_getElem? hx)
    have hxy := hf.fit p x y hx hy
    unfold fitB at hxy
    simp only [Bool.and_eq_true, decide_eq_true_eq] at hxy
    obtain ⟨hnm, y0, y1, y2⟩ := hxy
    obtain ⟨n1, n2⟩ := pkI_in (lo := x.2.1) (hi := x.2.2) x1 b0
    have hgn := G43_pick x1 x0 x2 b0
    generalize pkI x.2.1 x.2.2 b0 = n at n1 n2 hgn
    obtain ⟨m1, m2⟩ := pkI_in (lo := y.2.1) (hi := y.2.2) y1 b0
    have hgm := G43_pick (lo := y.2.1) (hi := y.2.2) y1 (by omega) (by omega) b0
    generalize pkI y.2.1 y.2.2 b0 = m at m1 m2 hgm
    have hvn : VF c (chg f p n n) := hf.chg h fun z hz => by rw [hx] at hz; cases hz; omega
    have hvm : VF c (chg f p m m) := hf.chg h fun z hz => by rw [hx] at hz; cases hz; omega
    simp only [he, if_true, decide_true, Bool.not_true, cond_false, jl, w1, hgi, Option.bind_some, getI_nat hx, getI_nat hy, hgn, hgm, G83_chg f p _ _ (show p < f.length by omega) (show f.length ≤ 1000 by omega), ask_of hc0 hd hvn, ask_of hc0 hd hvm, G84_has _ x.1 (rest_short h d f), show ∀ s, G80 LF ((c.1, (c.2.1, c.2.2)), (d, (f, s))) = _ from G80_allow c d f]
    have K1 : ∀ {ρ : Type} (K : Bool → Option ρ), jn (cond (!(decide (keptA c d f = (2 : Int)))) (cond (!((restA c d f).any fun y => decide (y = x.1))) (some (.inl (!(decide (keptA c d (chg f p n n) = keptA c d f))))) (some (.inl false))) (some (.inl false))) K = K false := by
      intro ρ K
      by_cases h2 : keptA c d f = 2
      · simp only [h2, decide_true, Bool.not_true, cond_false, jl]
      · cases hr : (restA c d f).any fun y => decide (y = x.1) with
        | true => simp only [decide_eq_false h2, Bool.not_false, Bool.not_true, cond_true, cond_false, jl]
        | false =>
          have hnr : x.1 ∉ restA c d f := fun hm => by
            rw [List.any_eq_false] at hr
            exact hr x.1 hm (by simp)
          simp only [decide_eq_false h2, Bool.not_false, cond_true, jl, kept_within h hf hx ⟨n1, n2⟩ h2 hnr, decide_true, Bool.not_true]
    rw [K1]
    simp only [cond_false]
    have hal : (allowA c d f x.1) = (alA c d f p, 0) := by
      unfold allowA
      rw [if_pos he, plF_self h hx, if_neg (by omega), Int.toNat_natCast]
    have hcu := (cuts_mem (condsL c.2.2) y).1
    have hgd : f.getD p (bts [], (0, 0)) = y := by rw [List.getD_eq_getElem?_getD, hy]; rfl
    have hcb : ∀ q ∈ cutsOf (condsL c.2.2) y, -1000000000000 ≤ q ∧ q ≤ 1000000000000 := fun q hq => by have := cut_in (hf.le hy) hq; omega
    have hall : ((alA c d f p).any fun r => decide (r.1 ≤ m) && decide (m ≤ r.2)) = decide (keptA c d (chg f p m m) = 1) := by
      obtain ⟨q, hq⟩ := near_ex (l := cutsOf (condsL c.2.2) y) (n := m) ⟨y.2.1, ((cuts_mem _ y).2 _).2 (.inl rfl), m1⟩
      have e1 := al_cover (c := c) (d := d) (f := f) (p := p) (cs := cutsOf (condsL c.2.2) y) hcu hcb (fun k hk => by rw [hgd]; exact (cut_in (hf.le hy) hk).2) (by rw [hgd]; omega) m
      rw [near_cell hcu hcb (by rw [hgd]; exact m2) hq (fun k => keptA c d (chg f p k k) = 1)] at e1
      rw [← kept_cell h hf hy ⟨m1, m2⟩ hq hvm (alCut h hf hy hq.1) d] at e1
      rw [Bool.eq_iff_iff, List.any_eq_true, decide_eq_true_eq, ← e1]
      unfold alA
      rw [hgd]
      constructor
      · rintro ⟨r, hr, hb⟩
        simp only [Bool.and_eq_true, decide_eq_true_eq] at hb
        exact ⟨r, hr, hb⟩
      · rintro ⟨r, hr, hb⟩
        exact ⟨r, hr, by simp only [Bool.and_eq_true, decide_eq_true_eq]; exact hb⟩
    have hlen : (alA c d f p).length < LF := by
      have h1 := al_len c d f p (cutsOf (condsL c.2.2) y) (cutsOf (condsL c.2.2) y) 0 []
      have h2 := cuts_len y (condsL c.2.2) h.cl h.cs
      show (alA c d f p).length < 9223372036854775808
      unfold alA
      rw [hgd]
      simp only [List.length_nil] at h1
      omega
    rw [hal]
    refine any_loop (alA c d f p) (fun r => decide (r.1 ≤ m) && decide (m ≤ r.2)) (some true) ?_ ?_ hlen
    · intro k r b hr
      have hk := lt_of_get hr
      simp only [dlt hk, cond_true, getI_nat hr, Option.bind_some, succ_W (Nat.lt_of_le_of_lt hk hlen)]
      cases decide (r.1 ≤ m) <;> cases decide (m ≤ r.2) <;> cases b <;> rfl
    · rw [hall]
      simp only [dnlt, cond_false, decide_true, cond_true, sane_true, Option.bind_some]
  · simp only [he, if_false, decide_false, Bool.not_false, cond_true, sane_true, Option.bind_some]
end Go.K
namespace Go.Sx
open Go.Sl Go.Shelf Go.Proofs
variable {P : Program} {ρ : Ren} {h : Zone} {L : List Atom} {w : World} {E : TypeId} {o : Option Addr} {cap : Nat} {xs : List Int}
theorem rows_int : ∀ {xs : List Int} {cs : List Value}, Rows Ty.int h cs xs ↔ cs = xs.map (Value.int .i64)
  | [], cs => by simp [Rows]
  | x :: xs, cs => by
    constructor
    · rintro ⟨c, d, rfl, hc, hd⟩
      have hc' : c = [.int .i64 x] := hc
      rw [hc', (rows_int (xs := xs)).1 hd]
      rfl
    · intro e
      subst e
      exact ⟨[.int .i64 x], xs.map (Value.int .i64), rfl, rfl, rows_int.2 rfl⟩
theorem own_ints {cur : Array Value} (hr : Rows Ty.int h (cur.toList.take (xs.length * Ty.int.size)) xs) : cur.toList.take xs.length = xs.map (Value.int .i64) := by
  have := rows_int.1 hr
  simpa [Ty.int] using this
theorem St.ownPut (hS : St h L w) {j : Nat} {g : Nat} {ys : List Int} (hj : L[j]? = some (ownS Ty.int E (some ⟨g, 0, none⟩) cap xs)) (hl : ys.length = xs.length) (n : Nat) (os : Array Obj) :
    St h (L.set j (ownS Ty.int E (some ⟨g, 0, none⟩) cap ys)) (Sort.grow (Sort.putRow (Value.int .i64) (Sort.ahead w n) g 0 ys.toArray) os) := by
  obtain ⟨x, hx, hxw, dx, hset⟩ := hS.focus hj
  rcases hx with ⟨e, _⟩ | ⟨g', cur, e, rfl, h1, h2, h3, h4⟩
  · cases e
  · have hg : g' = g := by cases e; rfl
    subst hg
    have hb : w.heap[g']? = some (.cells cur E (0, 0)) := Hp.one_le.1 hxw
    have hsz : cur.size = cap := by simpa [Ty.int] using h3
    have hlen : ys.length ≤ cur.size := by omega
    have hgr := grownBy_sortedI (w := w) (g := g') (n := n) (os := os) ys.toArray
    refine hset _ (ownS Ty.int E (some ⟨g', 0, none⟩) cap ys) (Hp.one g' (.cells (Sort.putCells (Value.int .i64) 0 ys.toArray cur) E (0, 0)))
      (.inr ⟨g', _, rfl, rfl, by omega, h2, by simp [Sort.putCells, h3], ?_⟩) (Hp.one_le.2 (heap_sortedI ys.toArray hb)) (fun b hb' hn => hgr.block b hb' fun e => ?_) (fun b o' e => .inr ?_) hgr.os hgr.tape hgr.output
    · have := take_putCellsI cur ys hlen
      have e1 : ys.length * Ty.int.size = ys.length := by simp [Ty.int]
      rw [e1, this]
      exact rows_int.2 rfl
    · cases e; simp [Hp.one] at hn
    · unfold Hp.one at e ⊢
      split at e
      · rename_i hbg; simp [hbg]
      · cases e
theorem sortOwn (Ly : Lays.n189 P ρ) (hS : St h L w) {j : Nat} (hj : L[j]? = some (ownS Ty.int E o cap xs)) (hsz : xs.length ≤ 4398046511104) :
    Calls P (ρ.f 189) #[.slice o xs.length cap] w fun e w' => ∃ v, e = .returned v ∧ v = .tuple #[] ∧ St h (L.set j (ownS Ty.int E o cap (sortL xs))) w' := by
  obtain ⟨x, hx, hxw, dx, hset⟩ := hS.focus hj
  rcases hx with ⟨rfl, rfl, rfl, rfl⟩ | ⟨g, cur, rfl, rfl, h1, h2, h3, h4⟩
  · refine (Any.slices_Sort_int_none Ly none 0 w).mono ?_
    rintro e w' ⟨rfl, rfl⟩
    refine ⟨_, rfl, rfl, ?_⟩
    have : sortL [] = [] := rfl
    rw [this]
    exact hset w' (ownS Ty.int E none 0 []) Hp.nil (.inl ⟨rfl, rfl, rfl, rfl⟩) (Hp.nil_le _) (fun _ _ _ => rfl) (fun b o e => by simp [Hp.nil] at e) rfl rfl rfl
  · have hb : w.heap[g]? = some (.cells cur E (0, 0)) := Hp.one_le.1 hxw
    have hH := holds_of_blockI hb (own_ints h4)
    refine (Any.slices_Sort_int Ly g 0 cap xs w hH (Array.getElem?_eq_some_iff.1 hb).1 (by omega)).mono ?_
    rintro e w' ⟨rfl, n, os, rfl⟩
    rw [sortL_eq]
    exact ⟨_, rfl, rfl, St.ownPut hS hj (sortL_len xs).symm n os⟩
theorem compactOwn (Ly : SlLaysN.n43 P ρ) (hS : St h L w) {j : Nat} (hj : L[j]? = some (ownS Ty.int E o cap xs)) (hsz : xs.length ≤ 4398046511104) :
    Calls P (ρ.f 43) #[.slice o xs.length cap] w fun e w' => ∃ v, e = .returned v ∧ v = .slice o (compL xs).length cap ∧ St h (L.set j (ownS Ty.int E o cap (compL xs))) w' := by
  obtain ⟨x, hx, hxw, dx, hset⟩ := hS.focus hj
  rcases hx with ⟨rfl, rfl, rfl, rfl⟩ | ⟨g, cur, rfl, rfl, h1, h2, h3, h4⟩
  · refine (AnyG.slices_Compact_int_empty Ly none 0 w).mono ?_
    rintro e w' ⟨rfl, rfl⟩
    have hc : compL [] = [] := by simp [compL, Lib.compact, Lib.compactUpTo]
    rw [hc]
    exact ⟨_, rfl, rfl, hset w' (ownS Ty.int E none 0 []) Hp.nil (.inl ⟨rfl, rfl, rfl, rfl⟩) (Hp.nil_le _) (fun _ _ _ => rfl) (fun b o e => by simp [Hp.nil] at e) rfl rfl rfl⟩
  · have hb : w.heap[g]? = some (.cells cur E (0, 0)) := Hp.one_le.1 hxw
    have hH := holds_of_blockI hb (own_ints h4)
    refine (AnyG.slices_Compact_int Ly g 0 cap xs w hH (by omega) h1).mono ?_
    rintro e w' ⟨rfl, q, rfl⟩
    have hle : (Lib.compact xs).length ≤ xs.length := by
      unfold Lib.compact Lib.compactUpTo
      rw [List.length_map]
      exact Nat.le_trans (List.length_filter_le _ _) (by simp)
    have hlen : (Lib.compact xs ++ List.replicate (xs.length - (Lib.compact xs).length) 0).length = xs.length := by
      rw [List.length_append, List.length_replicate]; omega
    have h5 := St.ownPut hS hj hlen q #[]
    rw [Sort.grow_empty] at h5
    refine ⟨_, rfl, rfl, ?_⟩
    have hlt := (List.getElem?_eq_some_iff.1 hj).1
    have h6 := h5.ownTake (j := j) (T := Ty.int) (E := E) (o := some ⟨g, 0, none⟩) (cap := cap) (xs := Lib.compact xs ++ List.replicate (xs.length - (Lib.compact xs).length) 0) (by simp [hlt]) (n := (Lib.compact xs).length) (by rw [hlen]; exact hle)
    have h7 : (Lib.compact xs ++ List.replicate (xs.length - (Lib.compact xs).length) 0).take (Lib.compact xs).length = compL xs := by simp [compL]
    rw [h7] at h6
    simpa using h6
def lenC {α : Type} (xs : List α) : Option Unit := if xs.length ≤ 1099511627776 then some () else none
theorem lenC_spec {α : Type} {xs : List α} {u : Unit} (e : lenC xs = some u) : xs.length ≤ 1099511627776 := by
  unfold lenC at e
  split at e
  · assumption
  · cases e
end Go.Sx
set_option linter.unusedVariables false
set_option linter.unusedSimpArgs false
set_option maxRecDepth 100000
namespace Go.K
open Go.Sl Go.Sx Go.Proofs Go.Shelf Go.RowKit
variable {P : Program} {ρ' : Ren} {E : Env}
theorem foldl_sum (k : Nat) : ∀ (xs : List ByteArray) (n : Nat), xs.foldl (fun n x => n + x.size + k) n = n + (xs.map fun x => x.size + k).sum
  | [], n => by simp
  | x :: xs, n => by rw [List.foldl_cons, foldl_sum k xs]; simp; omega
theorem join_data (sep : ByteArray) : ∀ (xs : List ByteArray) (r : ByteArray), (xs.foldl (fun r y => r ++ sep ++ y) r).data.toList = r.data.toList ++ (xs.map fun y => sep.data.toList ++ y.data.toList).flatten
  | [], r => by simp
  | y :: xs, r => by rw [List.foldl_cons, join_data sep xs]; simp [ByteArray.data_append]
theorem size_len' (s : ByteArray) : s.size = s.data.toList.length := by simp
theorem lens_eq : ∀ xs : List ByteArray, Lib.lens (xs.map (·.data.toList)) = (xs.map (·.size)).sum
  | [] => rfl
  | x :: xs => by
    have := lens_eq xs
    simp only [Lib.lens, List.map_cons, List.flatten_cons, List.length_append, List.sum_cons] at this ⊢
    rw [this, size_len']
theorem sum_add (k : Nat) : ∀ xs : List ByteArray, (xs.map fun x => x.size + (k + 1)).sum = (xs.map (·.size)).sum + k * xs.length + xs.length
  | [] => by simp
  | x :: xs => by
    simp only [List.map_cons, List.sum_cons, sum_add k xs, List.length_cons, Nat.mul_add]; omega
theorem joinC_lib {sep : ByteArray} {xs : List ByteArray} {y : ByteArray} (h : joinC sep xs = some y) : y = ⟨(Lib.join (xs.map (·.data.toList)) sep.data.toList).toArray⟩ ∧ (Lib.join (xs.map (·.data.toList)) sep.data.toList).length ≤ 140737488355328 ∧ xs.length ≤ 140737488355328 := by
  unfold joinC at h
  split at h
  · rename_i hc
    rw [foldl_sum, sum_add] at hc
    have hll := lens_eq xs
    cases xs with
    | nil =>
      simp only [Option.some.injEq] at h
      subst h
      exact ⟨rfl, by simp [Lib.join_nil], by simp⟩
    | cons x xs =>
      simp only [Option.some.injEq] at h
      have hj : (Lib.join ((x :: xs).map (·.data.toList)) sep.data.toList) = y.data.toList := by
        rw [← h, join_data, List.map_cons, Lib.join_cons]
        congr 1
        unfold Lib.joinTail
        rw [List.map_map]
        rfl
      have hlen := Lib.join_length x.data.toList (xs.map (·.data.toList)) sep.data.toList
      rw [List.map_cons] at hj hll
      simp only [List.length_cons, List.length_map] at hc hlen
      rw [hll] at hlen
      refine ⟨?_, ?_, ?_⟩
      · rw [List.map_cons, hj]
      · rw [List.map_cons, hlen]
        have hs : sep.data.toList.length = sep.size := (size_len' sep).symm
        rw [hs]
        have := Nat.mul_le_mul (Nat.le_refl sep.size) (show xs.length ≤ xs.length + 1 by omega)
        omega
      · simp only [List.length_cons]; omega
  · cases h
theorem join_valid (Ly : Lays.n156 P ρ') (X : Builder.Extra P ρ') : Valid E P (ρ'.f 156) [aSs, aS] [aS] fun x => joinC x.2 x.1 := by
  intro x y hx z L w vs hz hrep hs
  obtain ⟨v, r, rfl, hv, u, rfl, hu⟩ := hrep
  have h2 := rep_str hu
  subst h2
  obtain ⟨rfl, hl, hn⟩ := joinC_lib hx
  have hv' := rep1 hv
  obtain ⟨o, c, e1, hsl⟩ := hv'
  simp only [List.cons.injEq, and_true] at e1
  subst e1
  have fin : ∀ (o : Option Addr), (o = none → x.1 = []) → (∀ a, o = some a → ∀ j s, x.1[j]? = some s → z.cell? (a.add j) = some (.string s)) → x.1.length ≤ c → Calls P (ρ'.f 156) #[.slice o x.1.length c, .string x.2] w fun e w' => e = .returned (.string ⟨(Lib.join (x.1.map (·.data.toList)) x.2.data.toList).toArray⟩) ∧ Below w.heap.size w w' := by
    intro o h0 h1 hcap
    cases hx1 : x.1 with
    | nil =>
      simp only [List.length_nil]
      refine (Any.strings_Join_none Ly X o c x.2 w).mono fun e w' ⟨he, hw⟩ => ⟨he, hw ▸ Below.refl _ _⟩
    | cons s0 ss =>
      cases o with
      | none => rw [h0 rfl] at hx1; cases hx1
      | some a =>
        have hc0 := h1 a rfl 0 s0 (by rw [hx1]; rfl)
        have hspot : a.spot = none ∧ (a.add 0) = a := by
          constructor
          · unfold Zone.cell? at hc0
            split at hc0
            · split at hc0
              · cases hc0
              · rename_i hsp
                rw [add_zero' a] at hsp
                cases hs : a.spot with
                | none => rfl
                | some q => rw [hs] at hsp; simp at hsp
            · cases hc0
          · exact add_zero' a
        obtain ⟨bk, off, sp⟩ := a
        obtain ⟨hsp, _⟩ := hspot
        simp only at hsp
        subst hsp
        have hcell : ∀ (j : Nat) s, (s0 :: ss)[j]? = some s → w.cell? ⟨bk, off + j, none⟩ = some (.string s) := fun j s hj => by
          have := h1 _ rfl j s (by rw [hx1]; exact hj)
          have := hs.cell this
          have ha : (⟨bk, off, none⟩ : Addr).add j = ⟨bk, off + j, none⟩ := by unfold Addr.add; split <;> simp_all
          rwa [ha] at this
        have hbk : bk < w.heap.size := by
          have := hcell 0 s0 rfl
          unfold World.cell? at this
          cases hb : w.heap[bk]? with
          | none => rw [hb] at this; cases this
          | some ob => exact (Array.getElem?_eq_some_iff.1 hb).1
        rw [hx1] at hl hn hcap
        exact Any.strings_Join Ly X bk off c (s0 :: ss) x.2 w hcell hbk hn hcap hl
  refine (fin o (fun e => (hsl.hnil e).1) (fun a e j s hj => ?_) hsl.hcap).mono ?_
  · obtain ⟨cs, hr, hc⟩ := hsl.hat a e j s hj
    have hr' : cs = [.string s] := hr
    have := hc 0 (.string s) (by rw [hr']; rfl)
    have e1 : j * (TC.str.ty).size = j := by show j * 1 = j; omega
    rw [e1] at this
    rwa [add_zero'] at this
  · rintro en w' ⟨rfl, hb⟩
    exact ⟨_, z, rfl, Zone.le_refl _, ⟨[.string _], rfl, _, rfl, .inr ⟨rfl, rfl⟩⟩, hs.of_below hb⟩
end Go.K
set_option linter.unusedVariables false
set_option linter.unusedSimpArgs false
set_option maxRecDepth 100000
namespace Go.Proofs
open Go.Shelf Go.RowKit Go.Lib
theorem Tryz.isBlank (W : World) (r : Nat) : FnGives Tryz.prog 158 #[] #[encR r] (.bool (Nat.beq r 32)) W := by
  unfold FnGives
  have e : Nat.beq r 32 = decide ((r : Int) = 32) := by
    cases h : Nat.beq r 32 with
    | true => have := Nat.eq_of_beq_eq_true h; simp; omega
    | false => have := Nat.ne_of_beq_eq_false h; simp; omega
  rw [e]
  go_enter Tryz.func158, Tryz.ntmps158
  go_wp2
  go_ret
  exact ⟨rfl, 0, rfl⟩
theorem Tryz.extraB : Builder.Extra Tryz.prog Tryz.join_ren := {
  sizeBuilder := by kernel_rfl
  liesBuilder := by kernel_rfl
  t5 := Tryz.underlying5
  a5 := Tryz.isAgg5
  z5 := Tryz.sizeOf5
  v5 := Tryz.zeroValue5
  infoByte := by kernel_rfl
  cellsByte := by kernel_rfl
  sizeByte := by kernel_rfl
  neB5 := by decide }
end Go.Proofs
namespace Go.K
open Go.Sl Go.Sx Go.Proofs Go.Shelf Go.RowKit
theorem mixedT : Tryz.prog.follows .mixedOrders = true := by kernel_rfl
abbrev HC (E : Env) (C : FuncId → Option Con) : Prop := ∀ L, envA E ∈ L → ∀ g con, C g = some con → ConOk Tryz.prog L con g
theorem sort_row : RowOk Tryz.prog 182 .i sortL := ⟨fun xs => (sortL_len xs).symm, fun hS hj hl => sortOwn Tryz.sortI hS hj hl⟩
theorem comp_cut : CutOk Tryz.prog 183 .i compL := fun hS hj hl => compactOwn Tryz.compactI hS hj hl
theorem ct_ok (lf : Nat) : HC (envT Tryz.prog 0) (CT Tryz.prog lf) := by
  intro L hL
  unfold CT
  refine extC_ok (extC_ok (extC_ok (extC_ok (extC_ok (extC_ok (extC_ok (extC_ok (fun g con h => by cases h) ?a) ?b) ?c) ?d) ?e) ?f) ?g) ?h
  case a => exact dataCon_ok (itoa_valid Tryz.itoa) hL
  case b => exact dataCon_ok (trim_valid Tryz.trim (by kernel_rfl)) hL
  case c => exact rowCon_ok sort_row
  case d => exact cutCon_ok comp_cut
  case e => exact dataCon_ok (split_valid Tryz.split (by kernel_rfl)) hL
  case f => exact atoiCon_ok Tryz.atoi
  case g => exact fieldsCon_ok Tryz.fields (enters_of Tryz.func158 (by kernel_rfl) rfl) (fun W x => Tryz.isBlank W x) (by kernel_rfl) (by kernel_rfl)
  case h => exact dataCon_ok (join_valid Tryz.join Tryz.extraB) hL
end Go.K
set_option linter.unusedVariables false
set_option maxRecDepth 100000
namespace Go.K
open Go.Sl Go.Sx Go.Proofs
theorem kcCT : HC (envT Tryz.prog 0) (CT Tryz.prog LF) := ct_ok LF
theorem kc91 : HC (envT Tryz.prog 0) (C91 Tryz.prog LF) := fun L hL => extC_ok (kcCT L hL) (dataCon_ok (fnF_valid mixedT kcCT 91 _ _ LF) hL)
theorem kc223 : HC (envT Tryz.prog 0) (C223 Tryz.prog LF) := fun L hL => extC_ok (kc91 L hL) (dataCon_ok (fnF_valid mixedT kc91 223 _ _ LF) hL)
theorem kc180 : HC (envT Tryz.prog 0) (C180 Tryz.prog LF) := fun L hL => extC_ok (kc223 L hL) (dataCon_ok (fnF_valid mixedT kc223 180 _ _ LF) hL)
theorem kc165 : HC (envT Tryz.prog 0) (C165 Tryz.prog LF) := fun L hL => extC_ok (kc180 L hL) (dataCon_ok (fnF_valid mixedT kc180 165 _ _ LF) hL)
theorem kc94 : HC (envT Tryz.prog 0) (C94 Tryz.prog LF) := fun L hL => extC_ok (kc165 L hL) (dataCon_ok (fnF_valid mixedT kc165 94 _ _ LF) hL)
theorem kc158 : HC (envT Tryz.prog 0) (C158 Tryz.prog LF) := fun L hL => extC_ok (kc94 L hL) (dataCon_ok (fnF_valid mixedT kc94 158 _ _ LF) hL)
theorem kc86 : HC (envT Tryz.prog 0) (C86 Tryz.prog LF) := fun L hL => extC_ok (kc158 L hL) (dataCon_ok (fnF_valid mixedT kc158 86 _ _ LF) hL)
theorem kc244 : HC (envT Tryz.prog 0) (C244 Tryz.prog LF) := fun L hL => extC_ok (kc86 L hL) (dataCon_ok (fnF_valid mixedT kc86 244 _ _ LF) hL)
theorem kc215 : HC (envT Tryz.prog 0) (C215 Tryz.prog LF) := fun L hL => extC_ok (kc244 L hL) (refCon_ok (fnR_valid mixedT kc244 215 _ _ _ _ _ _ LF) hL)
theorem kc216 : HC (envT Tryz.prog 0) (C216 Tryz.prog LF) := fun L hL => extC_ok (kc215 L hL) (refCon_ok (fnR_valid mixedT kc215 216 _ _ _ _ _ _ LF) hL)
theorem kc162 : HC (envT Tryz.prog 0) (C162 Tryz.prog LF) := fun L hL => extC_ok (kc216 L hL) (refCon_ok (recR_valid mixedT kc216 (fun _ => rfl) (fun _ _ => rfl) LF) hL)
theorem kc17 : HC (envT Tryz.prog 0) (C17 Tryz.prog LF) := fun L hL => extC_ok (kc162 L hL) (dataCon_ok (fnF_valid mixedT kc162 17 _ _ LF) hL)
theorem kc110 : HC (envT Tryz.prog 0) (C110 Tryz.prog LF) := fun L hL => extC_ok (kc17 L hL) (dataCon_ok (fnF_valid mixedT kc17 110 _ _ LF) hL)
theorem kc190 : HC (envT Tryz.prog 0) (C190 Tryz.prog LF) := fun L hL => extC_ok (kc110 L hL) (dataCon_ok (fnF_valid mixedT kc110 190 _ _ LF) hL)
theorem kc188 : HC (envT Tryz.prog 0) (C188 Tryz.prog LF) := fun L hL => extC_ok (kc190 L hL) (dataCon_ok (fnF_valid mixedT kc190 188 _ _ LF) hL)
theorem kc189 : HC (envT Tryz.prog 0) (C189 Tryz.prog LF) := fun L hL => extC_ok (kc188 L hL) (dataCon_ok (fnF_valid mixedT kc188 189 _ _ LF) hL)
theorem kc191 : HC (envT Tryz.prog 0) (C191 Tryz.prog LF) := fun L hL => extC_ok (kc189 L hL) (dataCon_ok (fnF_valid mixedT kc189 191 _ _ LF) hL)
theorem kc192 : HC (envT Tryz.prog 0) (C192 Tryz.prog LF) := fun L hL => extC_ok (kc191 L hL) (dataCon_ok (fnF_valid mixedT kc191 192 _ _ LF) hL)
theorem kc193 : HC (envT Tryz.prog 0) (C193 Tryz.prog LF) := fun L hL => extC_ok (kc192 L hL) (dataCon_ok (fnF_valid mixedT kc192 193 _ _ LF) hL)
theorem kc194 : HC (envT Tryz.prog 0) (C194 Tryz.prog LF) := fun L hL => extC_ok (kc193 L hL) (dataCon_ok (fnF_valid mixedT kc193 194 _ _ LF) hL)
theorem kc195 : HC (envT Tryz.prog 0) (C195 Tryz.prog LF) := fun L hL => extC_ok (kc194 L hL) (dataCon_ok (fnF_valid mixedT kc194 195 _ _ LF) hL)
theorem kc131 : HC (envT Tryz.prog 0) (C131 Tryz.prog LF) := fun L hL => extC_ok (kc195 L hL) (dataCon_ok (fnF_valid mixedT kc195 131 _ _ LF) hL)
theorem kc147 : HC (envT Tryz.prog 0) (C147 Tryz.prog LF) := fun L hL => extC_ok (kc131 L hL) (dataCon_ok (fnF_valid mixedT kc131 147 _ _ LF) hL)
theorem kc36 : HC (envT Tryz.prog 0) (C36 Tryz.prog LF) := fun L hL => extC_ok (kc147 L hL) (dataCon_ok (fnF_valid mixedT kc147 36 _ _ LF) hL)
theorem kc130 : HC (envT Tryz.prog 0) (C130 Tryz.prog LF) := fun L hL => extC_ok (kc36 L hL) (dataCon_ok (fnF_valid mixedT kc36 130 _ _ LF) hL)
theorem kc116 : HC (envT Tryz.prog 0) (C116 Tryz.prog LF) := fun L hL => extC_ok (kc130 L hL) (dataCon_ok (fnF_valid mixedT kc130 116 _ _ LF) hL)
theorem kc181 : HC (envT Tryz.prog 0) (C181 Tryz.prog LF) := fun L hL => extC_ok (kc116 L hL) (dataCon_ok (fnF_valid mixedT kc116 181 _ _ LF) hL)
theorem kc115 : HC (envT Tryz.prog 0) (C115 Tryz.prog LF) := fun L hL => extC_ok (kc181 L hL) (dataCon_ok (fnF_valid mixedT kc181 115 _ _ LF) hL)
theorem kc106 : HC (envT Tryz.prog 0) (C106 Tryz.prog LF) := fun L hL => extC_ok (kc115 L hL) (dataCon_ok (fnF_valid mixedT kc115 106 _ _ LF) hL)
theorem kc174 : HC (envT Tryz.prog 0) (C174 Tryz.prog LF) := fun L hL => extC_ok (kc106 L hL) (dataCon_ok (fnF_valid mixedT kc106 174 _ _ LF) hL)
theorem kc125 : HC (envT Tryz.prog 0) (C125 Tryz.prog LF) := fun L hL => extC_ok (kc174 L hL) (dataCon_ok (fnF_valid mixedT kc174 125 _ _ LF) hL)
theorem kc133 : HC (envT Tryz.prog 0) (C133 Tryz.prog LF) := fun L hL => extC_ok (kc125 L hL) (dataCon_ok (fnF_valid mixedT kc125 133 _ _ LF) hL)
theorem kc104 : HC (envT Tryz.prog 0) (C104 Tryz.prog LF) := fun L hL => extC_ok (kc133 L hL) (dataCon_ok (fnF_valid mixedT kc133 104 _ _ LF) hL)
theorem kc266 : HC (envT Tryz.prog 0) (C266 Tryz.prog LF) := fun L hL => extC_ok (kc104 L hL) (dataCon_ok (fnF_valid mixedT kc104 266 _ _ LF) hL)
theorem kc199 : HC (envT Tryz.prog 0) (C199 Tryz.prog LF) := fun L hL => extC_ok (kc266 L hL) (panCon_ok (fnP_valid mixedT kc266 199 _ _ _ _ LF) hL)
theorem kc198 : HC (envT Tryz.prog 0) (C198 Tryz.prog LF) := fun L hL => extC_ok (kc199 L hL) (refCon_ok (fnR_valid mixedT kc199 198 _ _ _ _ _ _ LF) hL)
theorem kc200 : HC (envT Tryz.prog 0) (C200 Tryz.prog LF) := fun L hL => extC_ok (kc198 L hL) (refCon_ok (fnR_valid mixedT kc198 200 _ _ _ _ _ _ LF) hL)
theorem kc239 : HC (envT Tryz.prog 0) (C239 Tryz.prog LF) := fun L hL => extC_ok (kc200 L hL) (refCon_ok (fnR_valid mixedT kc200 239 _ _ _ _ _ _ LF) hL)
theorem kc201 : HC (envT Tryz.prog 0) (C201 Tryz.prog LF) := fun L hL => extC_ok (kc239 L hL) (refCon_ok (fnR_valid mixedT kc239 201 _ _ _ _ _ _ LF) hL)
theorem kc240 : HC (envT Tryz.prog 0) (C240 Tryz.prog LF) := fun L hL => extC_ok (kc201 L hL) (refCon_ok (fnR_valid mixedT kc201 240 _ _ _ _ _ _ LF) hL)
theorem kc202 : HC (envT Tryz.prog 0) (C202 Tryz.prog LF) := fun L hL => extC_ok (kc240 L hL) (refCon_ok (fnR_valid mixedT kc240 202 _ _ _ _ _ _ LF) hL)
theorem kc93 : HC (envT Tryz.prog 0) (C93 Tryz.prog LF) := fun L hL => extC_ok (kc202 L hL) (dataCon_ok (fnF_valid mixedT kc202 93 _ _ LF) hL)
theorem kc92 : HC (envT Tryz.prog 0) (C92 Tryz.prog LF) := fun L hL => extC_ok (kc93 L hL) (dataCon_ok (fnF_valid mixedT kc93 92 _ _ LF) hL)
theorem kc29 : HC (envT Tryz.prog 0) (C29 Tryz.prog LF) := fun L hL => extC_ok (kc92 L hL) (dataCon_ok (fnF_valid mixedT kc92 29 _ _ LF) hL)
theorem kc112 : HC (envT Tryz.prog 0) (C112 Tryz.prog LF) := fun L hL => extC_ok (kc29 L hL) (dataCon_ok (fnF_valid mixedT kc29 112 _ _ LF) hL)
theorem kc113 : HC (envT Tryz.prog 0) (C113 Tryz.prog LF) := fun L hL => extC_ok (kc112 L hL) (dataCon_ok (fnF_valid mixedT kc112 113 _ _ LF) hL)
theorem kc114 : HC (envT Tryz.prog 0) (C114 Tryz.prog LF) := fun L hL => extC_ok (kc113 L hL) (dataCon_ok (fnF_valid mixedT kc113 114 _ _ LF) hL)
theorem kc31 : HC (envT Tryz.prog 0) (C31 Tryz.prog LF) := fun L hL => extC_ok (kc114 L hL) (dataCon_ok (fnF_valid mixedT kc114 31 _ _ LF) hL)
theorem kc62 : HC (envT Tryz.prog 0) (C62 Tryz.prog LF) := fun L hL => extC_ok (kc31 L hL) (dataCon_ok (fnF_valid mixedT kc31 62 _ _ LF) hL)
theorem kc61 : HC (envT Tryz.prog 0) (C61 Tryz.prog LF) := fun L hL => extC_ok (kc62 L hL) (dataCon_ok (fnF_valid mixedT kc62 61 _ _ LF) hL)
theorem kc222 : HC (envT Tryz.prog 0) (C222 Tryz.prog LF) := fun L hL => extC_ok (kc61 L hL) (dataCon_ok (fnF_valid mixedT kc61 222 _ _ LF) hL)
theorem kc173 : HC (envT Tryz.prog 0) (C173 Tryz.prog LF) := fun L hL => extC_ok (kc222 L hL) (dataCon_ok (fnF_valid mixedT kc222 173 _ _ LF) hL)
theorem kc23 : HC (envT Tryz.prog 0) (C23 Tryz.prog LF) := fun L hL => extC_ok (kc173 L hL) (dataCon_ok (fnF_valid mixedT kc173 23 _ _ LF) hL)
theorem kc24 : HC (envT Tryz.prog 0) (C24 Tryz.prog LF) := fun L hL => extC_ok (kc23 L hL) (dataCon_ok (fnF_valid mixedT kc23 24 _ _ LF) hL)
theorem kc127 : HC (envT Tryz.prog 0) (C127 Tryz.prog LF) := fun L hL => extC_ok (kc24 L hL) (dataCon_ok (fnF_valid mixedT kc24 127 _ _ LF) hL)
theorem kc132 : HC (envT Tryz.prog 0) (C132 Tryz.prog LF) := fun L hL => extC_ok (kc127 L hL) (dataCon_ok (fnF_valid mixedT kc127 132 _ _ LF) hL)
theorem kc47 : HC (envT Tryz.prog 0) (C47 Tryz.prog LF) := fun L hL => extC_ok (kc132 L hL) (dataCon_ok (fnF_valid mixedT kc132 47 _ _ LF) hL)
theorem kc49 : HC (envT Tryz.prog 0) (C49 Tryz.prog LF) := fun L hL => extC_ok (kc47 L hL) (dataCon_ok (fnF_valid mixedT kc47 49 _ _ LF) hL)
theorem kc167 : HC (envT Tryz.prog 0) (C167 Tryz.prog LF) := fun L hL => extC_ok (kc49 L hL) (dataCon_ok (fnF_valid mixedT kc49 167 _ _ LF) hL)
theorem kc246 : HC (envT Tryz.prog 0) (C246 Tryz.prog LF) := fun L hL => extC_ok (kc167 L hL) (dataCon_ok (fnF_valid mixedT kc167 246 _ _ LF) hL)
theorem kc220 : HC (envT Tryz.prog 0) (C220 Tryz.prog LF) := fun L hL => extC_ok (kc246 L hL) (dataCon_ok (fnF_valid mixedT kc246 220 _ _ LF) hL)
theorem kc166 : HC (envT Tryz.prog 0) (C166 Tryz.prog LF) := fun L hL => extC_ok (kc220 L hL) (dataCon_ok (fnF_valid mixedT kc220 166 _ _ LF) hL)
theorem kc95 : HC (envT Tryz.prog 0) (C95 Tryz.prog LF) := fun L hL => extC_ok (kc166 L hL) (dataCon_ok (fnF_valid mixedT kc166 95 _ _ LF) hL)
theorem kc96 : HC (envT Tryz.prog 0) (C96 Tryz.prog LF) := fun L hL => extC_ok (kc95 L hL) (dataCon_ok (rec_valid mixedT kc95 (fun _ => rfl) (fun _ _ => rfl) LF) hL)
theorem kc19 : HC (envT Tryz.prog 0) (C19 Tryz.prog LF) := fun L hL => extC_ok (kc96 L hL) (dataCon_ok (fnF_valid mixedT kc96 19 _ _ LF) hL)
theorem kc128 : HC (envT Tryz.prog 0) (C128 Tryz.prog LF) := fun L hL => extC_ok (kc19 L hL) (dataCon_ok (fnF_valid mixedT kc19 128 _ _ LF) hL)
theorem kc41 : HC (envT Tryz.prog 0) (C41 Tryz.prog LF) := fun L hL => extC_ok (kc128 L hL) (dataCon_ok (fnF_valid mixedT kc128 41 _ _ LF) hL)
theorem kc102 : HC (envT Tryz.prog 0) (C102 Tryz.prog LF) := fun L hL => extC_ok (kc41 L hL) (dataCon_ok (fnF_valid mixedT kc41 102 _ _ LF) hL)
theorem kc22 : HC (envT Tryz.prog 0) (C22 Tryz.prog LF) := fun L hL => extC_ok (kc102 L hL) (dataCon_ok (fnF_valid mixedT kc102 22 _ _ LF) hL)
theorem kc126 : HC (envT Tryz.prog 0) (C126 Tryz.prog LF) := fun L hL => extC_ok (kc22 L hL) (dataCon_ok (fnF_valid mixedT kc22 126 _ _ LF) hL)
theorem kc168 : HC (envT Tryz.prog 0) (C168 Tryz.prog LF) := fun L hL => extC_ok (kc126 L hL) (dataCon_ok (fnF_valid mixedT kc126 168 _ _ LF) hL)
theorem kc84 : HC (envT Tryz.prog 0) (C84 Tryz.prog LF) := fun L hL => extC_ok (kc168 L hL) (dataCon_ok (fnF_valid mixedT kc168 84 _ _ LF) hL)
theorem kc99 : HC (envT Tryz.prog 0) (C99 Tryz.prog LF) := fun L hL => extC_ok (kc84 L hL) (dataCon_ok (fnF_valid mixedT kc84 99 _ _ LF) hL)
theorem kc117 : HC (envT Tryz.prog 0) (C117 Tryz.prog LF) := fun L hL => extC_ok (kc99 L hL) (dataCon_ok (fnF_valid mixedT kc99 117 _ _ LF) hL)
theorem kc98 : HC (envT Tryz.prog 0) (C98 Tryz.prog LF) := fun L hL => extC_ok (kc117 L hL) (dataCon_ok (fnF_valid mixedT kc117 98 _ _ LF) hL)
theorem kc97 : HC (envT Tryz.prog 0) (C97 Tryz.prog LF) := fun L hL => extC_ok (kc98 L hL) (dataCon_ok (fnF_valid mixedT kc98 97 _ _ LF) hL)
theorem kc111 : HC (envT Tryz.prog 0) (C111 Tryz.prog LF) := fun L hL => extC_ok (kc97 L hL) (dataCon_ok (fnF_valid mixedT kc97 111 _ _ LF) hL)
theorem kc30 : HC (envT Tryz.prog 0) (C30 Tryz.prog LF) := fun L hL => extC_ok (kc111 L hL) (dataCon_ok (fnF_valid mixedT kc111 30 _ _ LF) hL)
theorem kc37 : HC (envT Tryz.prog 0) (C37 Tryz.prog LF) := fun L hL => extC_ok (kc30 L hL) (dataCon_ok (fnF_valid mixedT kc30 37 _ _ LF) hL)
theorem kc118 : HC (envT Tryz.prog 0) (C118 Tryz.prog LF) := fun L hL => extC_ok (kc37 L hL) (dataCon_ok (fnF_valid mixedT kc37 118 _ _ LF) hL)
theorem kc109 : HC (envT Tryz.prog 0) (C109 Tryz.prog LF) := fun L hL => extC_ok (kc118 L hL) (dataCon_ok (fnF_valid mixedT kc118 109 _ _ LF) hL)
theorem kc176 : HC (envT Tryz.prog 0) (C176 Tryz.prog LF) := fun L hL => extC_ok (kc109 L hL) (dataCon_ok (fnF_valid mixedT kc109 176 _ _ LF) hL)
theorem kc177 : HC (envT Tryz.prog 0) (C177 Tryz.prog LF) := fun L hL => extC_ok (kc176 L hL) (dataCon_ok (fnF_valid mixedT kc176 177 _ _ LF) hL)
theorem kc108 : HC (envT Tryz.prog 0) (C108 Tryz.prog LF) := fun L hL => extC_ok (kc177 L hL) (dataCon_ok (fnF_valid mixedT kc177 108 _ _ LF) hL)
theorem kc120 : HC (envT Tryz.prog 0) (C120 Tryz.prog LF) := fun L hL => extC_ok (kc108 L hL) (dataCon_ok (fnF_valid mixedT kc108 120 _ _ LF) hL)
theorem kc119 : HC (envT Tryz.prog 0) (C119 Tryz.prog LF) := fun L hL => extC_ok (kc120 L hL) (dataCon_ok (fnF_valid mixedT kc120 119 _ _ LF) hL)
theorem kc32 : HC (envT Tryz.prog 0) (C32 Tryz.prog LF) := fun L hL => extC_ok (kc119 L hL) (dataCon_ok (fnF_valid mixedT kc119 32 _ _ LF) hL)
theorem kc33 : HC (envT Tryz.prog 0) (C33 Tryz.prog LF) := fun L hL => extC_ok (kc32 L hL) (dataCon_ok (fnF_valid mixedT kc32 33 _ _ LF) hL)
theorem kc107 : HC (envT Tryz.prog 0) (C107 Tryz.prog LF) := fun L hL => extC_ok (kc33 L hL) (dataCon_ok (fnF_valid mixedT kc33 107 _ _ LF) hL)
theorem kc56 : HC (envT Tryz.prog 0) (C56 Tryz.prog LF) := fun L hL => extC_ok (kc107 L hL) (dataCon_ok (fnF_valid mixedT kc107 56 _ _ LF) hL)
theorem kc57 : HC (envT Tryz.prog 0) (C57 Tryz.prog LF) := fun L hL => extC_ok (kc56 L hL) (dataCon_ok (fnF_valid mixedT kc56 57 _ _ LF) hL)
theorem kc40 : HC (envT Tryz.prog 0) (C40 Tryz.prog LF) := fun L hL => extC_ok (kc57 L hL) (dataCon_ok (fnF_valid mixedT kc57 40 _ _ LF) hL)
theorem kc28 : HC (envT Tryz.prog 0) (C28 Tryz.prog LF) := fun L hL => extC_ok (kc40 L hL) (dataCon_ok (fnF_valid mixedT kc40 28 _ _ LF) hL)
theorem kc148 : HC (envT Tryz.prog 0) (C148 Tryz.prog LF) := fun L hL => extC_ok (kc28 L hL) (dataCon_ok (fnF_valid mixedT kc28 148 _ _ LF) hL)
theorem kc149 : HC (envT Tryz.prog 0) (C149 Tryz.prog LF) := fun L hL => extC_ok (kc148 L hL) (dataCon_ok (fnF_valid mixedT kc148 149 _ _ LF) hL)
theorem kc27 : HC (envT Tryz.prog 0) (C27 Tryz.prog LF) := fun L hL => extC_ok (kc149 L hL) (dataCon_ok (fnF_valid mixedT kc149 27 _ _ LF) hL)
theorem kc150 : HC (envT Tryz.prog 0) (C150 Tryz.prog LF) := fun L hL => extC_ok (kc27 L hL) (dataCon_ok (fnF_valid mixedT kc27 150 _ _ LF) hL)
theorem kc142 : HC (envT Tryz.prog 0) (C142 Tryz.prog LF) := fun L hL => extC_ok (kc150 L hL) (dataCon_ok (fnF_valid mixedT kc150 142 _ _ LF) hL)
theorem kc145 : HC (envT Tryz.prog 0) (C145 Tryz.prog LF) := fun L hL => extC_ok (kc142 L hL) (dataCon_ok (fnF_valid mixedT kc142 145 _ _ LF) hL)
theorem kc83 : HC (envT Tryz.prog 0) (C83 Tryz.prog LF) := fun L hL => extC_ok (kc145 L hL) (dataCon_ok (fnF_valid mixedT kc145 83 _ _ LF) hL)
theorem kc129 : HC (envT Tryz.prog 0) (C129 Tryz.prog LF) := fun L hL => extC_ok (kc83 L hL) (dataCon_ok (fnF_valid mixedT kc83 129 _ _ LF) hL)
theorem kc156 : HC (envT Tryz.prog 0) (C156 Tryz.prog LF) := fun L hL => extC_ok (kc129 L hL) (dataCon_ok (fnF_valid mixedT kc129 156 _ _ LF) hL)
theorem kc43 : HC (envT Tryz.prog 0) (C43 Tryz.prog LF) := fun L hL => extC_ok (kc156 L hL) (dataCon_ok (fnF_valid mixedT kc156 43 _ _ LF) hL)
theorem kc39 : HC (envT Tryz.prog 0) (C39 Tryz.prog LF) := fun L hL => extC_ok (kc43 L hL) (dataCon_ok (fnF_valid mixedT kc43 39 _ _ LF) hL)
theorem kc25 : HC (envT Tryz.prog 0) (C25 Tryz.prog LF) := fun L hL => extC_ok (kc39 L hL) (dataCon_ok (fnF_valid mixedT kc39 25 _ _ LF) hL)
theorem kc45 : HC (envT Tryz.prog 0) (C45 Tryz.prog LF) := fun L hL => extC_ok (kc25 L hL) (dataCon_ok (fnF_valid mixedT kc25 45 _ _ LF) hL)
theorem kc21 : HC (envT Tryz.prog 0) (C21 Tryz.prog LF) := fun L hL => extC_ok (kc45 L hL) (dataCon_ok (fnF_valid mixedT kc45 21 _ _ LF) hL)
theorem kc82 : HC (envT Tryz.prog 0) (C82 Tryz.prog LF) := fun L hL => extC_ok (kc21 L hL) (dataCon_ok (fnF_valid mixedT kc21 82 _ _ LF) hL)
theorem kcD26 : HC (envT Tryz.prog 0) (D26 Tryz.prog LF) := fun L hL => extC_ok (kc82 L hL) (dataCon_ok (fnF_valid mixedT kc57 26 _ _ LF) hL)
theorem kc151 : HC (envT Tryz.prog 0) (C151 Tryz.prog LF) := fun L hL => extC_ok (kcD26 L hL) (dataCon_ok (fnF_valid mixedT kcD26 151 _ _ LF) hL)
theorem kc70 : HC (envT Tryz.prog 0) (C70 Tryz.prog LF) := fun L hL => extC_ok (kc151 L hL) (dataCon_ok (fnF_valid mixedT kc151 70 _ _ LF) hL)
theorem kc77 : HC (envT Tryz.prog 0) (C77 Tryz.prog LF) := fun L hL => extC_ok (kc70 L hL) (dataCon_ok (fnF_valid mixedT kc70 77 _ _ LF) hL)
theorem kc79 : HC (envT Tryz.prog 0) (C79 Tryz.prog LF) := fun L hL => extC_ok (kc77 L hL) (dataCon_ok (fnF_valid mixedT kc77 79 _ _ LF) hL)
theorem kc81 : HC (envT Tryz.prog 0) (C81 Tryz.prog LF) := fun L hL => extC_ok (kc79 L hL) (dataCon_ok (fnF_valid mixedT kc79 81 _ _ LF) hL)
theorem kc66 : HC (envT Tryz.prog 0) (C66 Tryz.prog LF) := fun L hL => extC_ok (kc81 L hL) (dataCon_ok (fnF_valid mixedT kc81 66 _ _ LF) hL)
theorem kc143 : HC (envT Tryz.prog 0) (C143 Tryz.prog LF) := fun L hL => extC_ok (kc66 L hL) (dataCon_ok (fnF_valid mixedT kc66 143 _ _ LF) hL)
theorem kc58 : HC (envT Tryz.prog 0) (C58 Tryz.prog LF) := fun L hL => extC_ok (kc143 L hL) (dataCon_ok (fnF_valid mixedT kc143 58 _ _ LF) hL)
theorem kc63 : HC (envT Tryz.prog 0) (C63 Tryz.prog LF) := fun L hL => extC_ok (kc58 L hL) (dataCon_ok (fnF_valid mixedT kc58 63 _ _ LF) hL)
theorem kc144 : HC (envT Tryz.prog 0) (C144 Tryz.prog LF) := fun L hL => extC_ok (kc63 L hL) (dataCon_ok (fnF_valid mixedT kc63 144 _ _ LF) hL)
theorem kc60 : HC (envT Tryz.prog 0) (C60 Tryz.prog LF) := fun L hL => extC_ok (kc144 L hL) (dataCon_ok (fnF_valid mixedT kc144 60 _ _ LF) hL)
theorem kc59 : HC (envT Tryz.prog 0) (C59 Tryz.prog LF) := fun L hL => extC_ok (kc60 L hL) (dataCon_ok (fnF_valid mixedT kc60 59 _ _ LF) hL)
theorem kc64 : HC (envT Tryz.prog 0) (C64 Tryz.prog LF) := fun L hL => extC_ok (kc59 L hL) (dataCon_ok (fnF_valid mixedT kc59 64 _ _ LF) hL)
theorem kc74 : HC (envT Tryz.prog 0) (C74 Tryz.prog LF) := fun L hL => extC_ok (kc64 L hL) (dataCon_ok (fnF_valid mixedT kc64 74 _ _ LF) hL)
theorem kc75 : HC (envT Tryz.prog 0) (C75 Tryz.prog LF) := fun L hL => extC_ok (kc74 L hL) (dataCon_ok (fnF_valid mixedT kc74 75 _ _ LF) hL)
theorem kc76 : HC (envT Tryz.prog 0) (C76 Tryz.prog LF) := fun L hL => extC_ok (kc75 L hL) (dataCon_ok (fnF_valid mixedT kc75 76 _ _ LF) hL)
theorem kc65 : HC (envT Tryz.prog 0) (C65 Tryz.prog LF) := fun L hL => extC_ok (kc76 L hL) (dataCon_ok (fnF_valid mixedT kc76 65 _ _ LF) hL)
theorem kc67 : HC (envT Tryz.prog 0) (C67 Tryz.prog LF) := fun L hL => extC_ok (kc65 L hL) (dataCon_ok (fnF_valid mixedT kc65 67 _ _ LF) hL)
theorem kc78 : HC (envT Tryz.prog 0) (C78 Tryz.prog LF) := fun L hL => extC_ok (kc67 L hL) (dataCon_ok (fnF_valid mixedT kc67 78 _ _ LF) hL)
theorem kc80 : HC (envT Tryz.prog 0) (C80 Tryz.prog LF) := fun L hL => extC_ok (kc78 L hL) (dataCon_ok (fnF_valid mixedT kc78 80 _ _ LF) hL)
theorem kc42 : HC (envT Tryz.prog 0) (C42 Tryz.prog LF) := fun L hL => extC_ok (kc80 L hL) (dataCon_ok (fnF_valid mixedT kc80 42 _ _ LF) hL)
theorem kc46 : HC (envT Tryz.prog 0) (C46 Tryz.prog LF) := fun L hL => extC_ok (kc42 L hL) (dataCon_ok (fnF_valid mixedT kc42 46 _ _ LF) hL)
theorem kc48 : HC (envT Tryz.prog 0) (C48 Tryz.prog LF) := fun L hL => extC_ok (kc46 L hL) (dataCon_ok (fnF_valid mixedT kc46 48 _ _ LF) hL)
theorem kc44 : HC (envT Tryz.prog 0) (C44 Tryz.prog LF) := fun L hL => extC_ok (kc48 L hL) (dataCon_ok (fnF_valid mixedT kc48 44 _ _ LF) hL)
theorem kc55 : HC (envT Tryz.prog 0) (C55 Tryz.prog LF) := fun L hL => extC_ok (kc44 L hL) (dataCon_ok (fnF_valid mixedT kc44 55 _ _ LF) hL)
theorem kc73 : HC (envT Tryz.prog 0) (C73 Tryz.prog LF) := fun L hL => extC_ok (kc55 L hL) (dataCon_ok (fnF_valid mixedT kc55 73 _ _ LF) hL)
theorem kc4 : HC (envT Tryz.prog 0) (C4 Tryz.prog LF) := fun L hL => extC_ok (kc73 L hL) (dataCon_ok (fnF_valid mixedT kc73 4 _ _ LF) hL)
theorem kc9 : HC (envT Tryz.prog 0) (C9 Tryz.prog LF) := fun L hL => extC_ok (kc4 L hL) (dataCon_ok (fnF_valid mixedT kc4 9 _ _ LF) hL)
theorem kc15 : HC (envT Tryz.prog 0) (C15 Tryz.prog LF) := fun L hL => extC_ok (kc9 L hL) (dataCon_ok (fnF_valid mixedT kc9 15 _ _ LF) hL)
theorem kc12 : HC (envT Tryz.prog 0) (C12 Tryz.prog LF) := fun L hL => extC_ok (kc15 L hL) (dataCon_ok (fnF_valid mixedT kc15 12 _ _ LF) hL)
theorem kc7 : HC (envT Tryz.prog 0) (C7 Tryz.prog LF) := fun L hL => extC_ok (kc12 L hL) (dataCon_ok (fnF_valid mixedT kc12 7 _ _ LF) hL)
end Go.K
set_option linter.unusedVariables false
namespace Go.Sx
open Go.Sl Go.RowKit Go.ChangeShapes
def Opens {α : Type} (P : Program) (t : TypeId) (T : Ty α) (ok : α → Prop) : Prop :=
  ∀ (H : Type) (enc : TypeId × Value → H) (W : World) (fuel : Nat) (cs : List Value) (d : DataW H × List MemPlace),
    DataW.trod enc P W 0 (fun _ => true) true fuel t cs = some d → ∃ x, T.rep (Zone.all W) cs x ∧ ok x
theorem mapM_mem {α β : Type} {f : α → Option β} : ∀ {l : List α} {ys : List β}, l.mapM f = some ys → ∀ a ∈ l, ∃ y, f a = some y
  | [], _, _, a, ha => by cases ha
  | x :: l, ys, h, a, ha => by
    rw [List.mapM_cons] at h
    cases hx : f x with
    | none => rw [hx] at h; simp at h
    | some y =>
      rw [hx] at h
      simp only [Option.pure_def, Option.bind_eq_bind, Option.bind_some] at h
      cases hl : l.mapM f with
      | none => rw [hl] at h; simp at h
      | some zs =>
        rcases List.mem_cons.1 ha with e | e
        · subst e; exact ⟨y, hx⟩
        · exact mapM_mem hl a e
section
variable {H : Type} {enc : TypeId × Value → H} {P : Program} {W : World} {fuel : Nat} {t : TypeId} {cs : List Value} {d : DataW H × List MemPlace}
theorem trod_fields {fs : Array Field} (ht : P.underlying t = some (.struct fs)) (h : DataW.trod enc P W 0 (fun _ => true) true fuel t cs = some d) :
    cs.length = P.cellsOf t ∧ ∃ n, ∀ f ∈ fs.toList, ∃ y, DataW.trod enc P W 0 (fun _ => true) true n f.type ((cs.drop f.offset).take (P.cellsOf f.type)) = some y := by
  cases fuel with
  | zero => simp [DataW.trod] at h
  | succ n =>
    simp only [DataW.trod, ht] at h
    by_cases hl : cs.length = P.cellsOf t
    · rw [if_pos hl] at h
      refine ⟨hl, n, fun f hf => ?_⟩
      cases hm : fs.toList.mapM fun f => DataW.trod enc P W 0 (fun _ => true) true n f.type ((cs.drop f.offset).take (P.cellsOf f.type)) with
      | none => rw [hm] at h; simp at h
      | some ys => exact mapM_mem hm f hf
    · rw [if_neg hl] at h; cases h
theorem trod_items {m : Nat} {e : TypeId} (ht : P.underlying t = some (.array m e)) (h : DataW.trod enc P W 0 (fun _ => true) true fuel t cs = some d) :
    cs.length = P.cellsOf t ∧ ∃ n, ∀ i, i < m → ∃ y, DataW.trod enc P W 0 (fun _ => true) true n e ((cs.drop (i * P.cellsOf e)).take (P.cellsOf e)) = some y := by
  cases fuel with
  | zero => simp [DataW.trod] at h
  | succ n =>
    simp only [DataW.trod, ht] at h
    by_cases hl : cs.length = P.cellsOf t
    · rw [if_pos hl] at h
      refine ⟨hl, n, fun i hi => ?_⟩
      cases hm : (List.range m).mapM fun i => DataW.trod enc P W 0 (fun _ => true) true n e ((cs.drop (i * P.cellsOf e)).take (P.cellsOf e)) with
      | none => rw [hm] at h; simp at h
      | some ys => exact mapM_mem hm i (List.mem_range.2 hi)
    · rw [if_neg hl] at h; cases h
end
theorem opens_slice {α : Type} {P : Program} {t e : TypeId} {T : Ty α} {ok : α → Prop} (ht : P.underlying t = some (.slice e)) (he : P.cellsOf e = T.size) (h : Opens P e T ok) : Opens P t (Ty.slice T) (fun xs => (∀ x ∈ xs, ok x) ∧ xs.length ≤ maxLen) := fun H enc W fuel cs d hd => by
  rcases Go.Deep.open_slice ht hd with ⟨rfl, _⟩ | ⟨a, len, cap, m, n, D, Pl, rfl, _, hl, hm, hmm, _, hx⟩
  · exact ⟨[], ⟨none, 0, rfl, SliceR.nil' T _⟩, ⟨(fun _ h => by cases h), by simp⟩⟩
  · simp only [if_true] at hmm
    have hall : ∀ i, i < len → ∃ x, (∃ c, T.rep (Zone.all W) c x ∧ ∀ j v, c[j]? = some v → (Zone.all W).cell? ((a.add (i * T.size)).add j) = some v) ∧ ok x := fun i hi => by
      obtain ⟨cs', h1, h2⟩ := hx i (by omega)
      obtain ⟨x, hr, ho⟩ := h H enc W n cs' _ h2
      refine ⟨x, ⟨cs', hr, fun j v hj => ?_⟩, ho⟩
      rw [he] at h1
      obtain ⟨_, hlen, hc⟩ := World.cells?_some h1
      have hlt : j < cs'.length := (List.getElem?_eq_some_iff.1 hj).1
      exact (hc j (by omega)).trans hj
    have key : ∀ k, k ≤ len → ∃ xs : List α, xs.length = k ∧ (∀ x ∈ xs, ok x) ∧ ∀ i x, xs[i]? = some x → ∃ c, T.rep (Zone.all W) c x ∧ ∀ j v, c[j]? = some v → (Zone.all W).cell? ((a.add (i * T.size)).add j) = some v := by
      intro k
      induction k with
      | zero => exact fun _ => ⟨[], rfl, (fun _ h => by cases h), (fun i x h => by simp at h)⟩
      | succ k ih =>
        intro hk
        obtain ⟨xs, h1, h2, h3⟩ := ih (by omega)
        obtain ⟨x, hx1, hx2⟩ := hall k (by omega)
        refine ⟨xs ++ [x], by simp [h1], fun y hy => ?_, fun i y hy => ?_⟩
        · rcases List.mem_append.1 hy with e | e
          · exact h2 y e
          · simp only [List.mem_singleton] at e; exact e ▸ hx2
        · rw [List.getElem?_append] at hy
          split at hy
          · exact h3 i y hy
          · rename_i hge
            have : i - xs.length = 0 := by
              have := (List.getElem?_eq_some_iff.1 hy).1
              simp at this; omega
            rw [this] at hy
            simp only [List.getElem?_cons_zero, Option.some.injEq] at hy
            subst hy
            have : i = k := by omega
            subst this
            exact hx1
    obtain ⟨xs, h1, h2, h3⟩ := key len (Nat.le_refl _)
    refine ⟨xs, ⟨some a, cap, by rw [h1], ⟨by omega, hm, (fun e => by cases e), fun b e i x hi => ?_⟩⟩, ⟨h2, by omega⟩⟩
    cases e
    exact h3 i x hi
section
variable {H : Type} {enc : TypeId × Value → H} {P : Program} {W : World} {base : Nat} {t : TypeId} {v : Value} {d : DataW H} {ps : List MemPlace}
theorem arg_agg {α : Type} {T : Ty α} {ok : α → Prop} (hs : (match P.underlying t with | some (.struct _) => true | some (.array _ _) => true | _ => false) = true) (hv : Value.okWide P W .any base t v) (h : DataW.Trod enc P W 0 (fun _ => true) true t v d ps) (ho : Opens P t T ok) :
    ∃ cs x, v = .agg cs.toArray ∧ T.rep (Zone.all W) cs x ∧ ok x := by
  obtain ⟨fuel, hf⟩ := h
  obtain ⟨x, hx, hok⟩ := ho H enc W fuel _ _ hf
  have : ∃ cs, v = .agg cs := by
    unfold Value.okWide at hv
    split at hs
    · rename_i fs ht; rw [ht] at hv; obtain ⟨cs, e, _⟩ := hv; exact ⟨cs, e⟩
    · rename_i m e ht; rw [ht] at hv; obtain ⟨cs, e, _⟩ := hv; exact ⟨cs, e⟩
    · cases hs
  obtain ⟨cs, rfl⟩ := this
  exact ⟨cs.toList, x, rfl, hx, hok⟩
theorem trodAll_stays (hl : laidOutB P = true) {W' : World} (hb : Below W.heap.size W W') : ∀ {ts : List TypeId} {vs : List Value} {ds : List (DataW H)} {ps : List MemPlace}, (ts.all fun t => P.readableRec t && Nat.blt t P.types.size) = true →
    DataW.TrodAll enc P W 0 (fun _ => true) true ts vs ds ps → (∀ p ∈ ps, p.block < W.heap.size) → DataW.TrodAll enc P W' 0 (fun b => decide (b < W.heap.size)) true ts vs ds ps
  | [], [], [], _, _, h, _ => h
  | t :: ts, v :: vs, d :: ds, _, hr, ⟨p, q, h1, h2, e⟩, hlt => by
    simp only [List.all_cons, Bool.and_eq_true, Nat.blt_eq] at hr
    subst e
    exact ⟨p, q, Below.trod hl hr.1.1 hr.1.2 h1 hb (fun x hx => hlt x (List.mem_append_left _ hx)), trodAll_stays hl hb hr.2 h2 (fun x hx => hlt x (List.mem_append_right _ hx)), rfl⟩
  | [], _ :: _, _, _, _, h, _ => h.elim
  | [], [], _ :: _, _, _, h, _ => h.elim
  | _ :: _, [], _, _, _, h, _ => h.elim
  | _ :: _, _ :: _, [], _, _, h, _ => h.elim
theorem post_true {f : Func} {s : ChangeSpec} {args : Array Value} {ds : List (DataW H)} {before : List MemPlace} {apart : Bool} {W' : World} {tb : TypeId} (hl : laidOutB P = true) (hvars : s.vars = []) (hr : (f.params.toList.all fun t => P.readableRec t && Nat.blt t P.types.size) = true)
    (hres : f.resultTypes = #[tb]) (hu : P.underlying tb = some .bool) (hW : DataW.Whole enc P f.params.toList s.vars apart W args.toList ds [] before) (hb : Below W.heap.size W W') (hs : s.fn H (ds ++ []) = { results := [.lit (.bool true)], args := ds }) :
    s.post enc P f apart true false false W args (.bool true) W' := by
  have hlt := hW.lt
  have hW0 := hW
  obtain ⟨p, q, hA, hV, rfl, _, _⟩ := hW
  rw [hvars] at hV
  obtain ⟨_, rfl⟩ := trodVars_none hV
  refine ⟨ds, [], p ++ [], [], p, [], hW0, ?_, ?_, ?_, hb.frame _, fun h => by cases h⟩
  · rw [hs, hres]; exact trodAll_mk1 (shut_bool hu true)
  · rw [hs]; exact trodAll_stays hl hb hr hA (fun x hx => hlt x (by simpa using hx))
  · rw [hs, hvars]; rfl
end
end Go.Sx
namespace Go.Sx
structure A2 where
  a0 : Int
  a1 : Int
  deriving DecidableEq
structure A3 where
  a0 : Int
  a1 : Int
  a2 : Int
  deriving DecidableEq
end Go.Sx
set_option linter.unusedVariables false
namespace Go.Sx
open Go.Sl Go.RowKit Go.ChangeShapes Go.Proofs
variable {H : Type} {enc : TypeId × Value → H}
theorem returns_and_shaped {a : Assume} {C : Checked} {os : Os} {f : FuncId} {fn : Func} {s : ChangeSpec} {conds : List PathCond} {apart fresh handsOn again : Bool} {X : World → Array Value → Prop}
    (hX : ∀ (w w' : World) (args : Array Value), w.heap = w'.heap → X w args → X w' args)
    (own : ownKnob C.prog.godebug = none) (started : os.Started) (noInit : C.prog.inits.idxOf? f = none) (hfn : C.prog.funcs[f]? = some fn)
    (witness : ∃ (w : World) (tape : Tape) (i : Input), w.os = os ∧ (w.forCall tape i).Shaped C.prog ∧ i.vars = [] ∧ Input.okWide C.prog (w.forCall tape i) .any w.heap.size f i ∧
      ((s.pre enc C.prog fn conds apart (w.forCall tape i).memory i.args ∧ X (w.forCall tape i).memory i.args) ∧ sizedMet enc C.prog fn (OpenSpec.ofChange s) apart (w.forCall tape i).memory i.args) ∧ a.holds C.prog (lone (Frame.enter C.prog f i.args .normal) [] (w.forCall tape i)))
    (contract : ∀ (W : World) (base : Nat) (args : Array Value) (ds gs : List (DataW H)) (before : List MemPlace),
      (∀ (j : Nat) t v, fn.params[j]? = some t → args[j]? = some v → Value.okWide C.prog W .any base t v) →
      DataW.Whole enc C.prog fn.params.toList s.vars apart W args.toList ds gs before → X W args → W.ShapedOpen C.prog →
      Calls C.prog f args W fun e W' => ∃ v, e = .returned v ∧ s.post enc C.prog fn apart fresh handsOn again W args v W') :
    ReturnsInHanded a C os f .any (fun w args => (s.pre enc C.prog fn conds apart w args ∧ X w args) ∧ sizedMet enc C.prog fn (OpenSpec.ofChange s) apart w args) (s.post enc C.prog fn apart fresh handsOn again) := by
  refine returnsInHanded_of_calls own started noInit witness ?_
  intro w tape i _ hsh _ hok hpre hholds
  obtain ⟨_, _, _, fn', hfn', _, _, _, _, hval⟩ := hok
  have e : fn' = fn := Option.some.inj (hfn'.symm.trans hfn)
  subst e
  obtain ⟨⟨⟨ds, gs, before, hw, hc⟩, hx⟩, hz⟩ := hpre
  have hw' := DataW.Whole.of_heap (w' := w.forCall tape i) (by rfl) hw
  refine (contract (w.forCall tape i) w.heap.size i.args ds gs before hval hw' (hX _ _ _ (by rfl) hx) hsh).mono fun e W' ⟨v, he, hp⟩ => ?_
  subst he
  exact ChangeSpec.post_blind hp
theorem env_of {P : Program} {W : World} {g : Nat} (h1 : Lib.TabIs P W "internal/strconv.uint64pow10" .u64 Lib.pow10Tab) (h2 : ∃ m, W.cell? ⟨g, 0, none⟩ = some (.int .i64 m)) : Sx.Env P g (Zone.all W) := by
  refine ⟨fun L w hS => ?_, ?_⟩
  · have hle := hS.whole
    unfold Lib.TabIs World.var? at h1 ⊢
    cases hg : P.globalNamed "internal/strconv.uint64pow10" with
    | none => rw [hg] at h1; cases h1
    | some b =>
      rw [hg] at h1
      simp only [Option.bind_some] at h1 ⊢
      cases hb : W.heap[b]? with
      | none => rw [hb] at h1; cases h1
      | some o =>
        have hb' : w.heap[b]? = some o := hle.blk b o hb
        rw [hb'] ; rw [hb] at h1; exact h1
  · obtain ⟨m, hm⟩ := h2
    exact ⟨m, hm⟩
end Go.Sx
set_option linter.unusedVariables false
namespace Go.K
open Go.Sl Go.Sx Go.RowKit Go.ChangeShapes Go.Proofs
def opF (P : Program) (rec : TypeId → TC → Bool) : List Field → Nat → TC → Bool
  | [f], off, u => Nat.beq f.offset off && (Nat.beq (P.cellsOf f.type) u.size && rec f.type u)
  | f :: g :: r, off, .pair a b => (Nat.beq f.offset off && (Nat.beq (P.cellsOf f.type) a.size && rec f.type a)) && opF P rec (g :: r) (off + a.size) b
  | _, _, _ => false
def opA (rec : TypeId → TC → Bool) (e : TypeId) (k : Nat) : Nat → TC → Bool
  | 1, u => Nat.beq k u.size && rec e u
  | n + 2, .pair a b => (Nat.beq k a.size && rec e a) && opA rec e k (n + 1) b
  | _, _ => false
def opB (P : Program) : Nat → TypeId → TC → Bool
  | 0, _, _ => false
  | n + 1, t, u => match P.underlying t with
    | some (.int .i64) => (match u with | .int .i64 => true | _ => false)
    | some .string => (match u with | .str => true | _ => false)
    | some (.slice e) => (match u with | .sl v => Nat.beq (P.cellsOf e) v.size && opB P n e v | _ => false)
    | some (.struct fs) => Nat.beq (P.cellsOf t) u.size && opF P (opB P n) fs.toList 0 u
    | some (.array m e) => Nat.beq (P.cellsOf t) u.size && opA (opB P n) e (P.cellsOf e) m u
    | _ => false
theorem opB_ok {P : Program} : ∀ (n : Nat) {t : TypeId} {u : TC}, opB P n t u = true → Opens P t u.ty (fun _ => True)
  | 0, _, _, h => by cases h
  | n + 1, t, u, h => by
    unfold opB at h
    split at h
    · rename_i ht
      split at h
      · intro H enc W fuel cs d hd
        obtain ⟨m, rfl, _, _⟩ := DataW.trod_int ht hd
        exact ⟨m, rfl, trivial⟩
      · cases h
    · rename_i ht
      split at h
      · intro H enc W fuel cs d hd
        obtain ⟨s, rfl, _, _⟩ := DataW.trod_string ht hd
        exact ⟨s, rfl, trivial⟩
      · cases h
    · rename_i e ht
      split at h
      · rename_i v
        simp only [Bool.and_eq_true, Nat.beq_eq] at h
        intro H enc W fuel cs d hd
        obtain ⟨x, hx, _⟩ := opens_slice ht (h.1.trans v.size_eq.symm) (opB_ok n h.2) H enc W fuel cs d hd
        exact ⟨x, hx, trivial⟩
      · cases h
    · rename_i fs ht
      simp only [Bool.and_eq_true, Nat.beq_eq] at h
      obtain ⟨h0, h1⟩ := h
      intro H enc W fuel cs d hd
      obtain ⟨hl, k, hx⟩ := trod_fields ht hd
      have key : ∀ (l : List Field) (off : Nat) (u : TC), (∀ f ∈ l, f ∈ fs.toList) → opF P (opB P n) l off u = true → cs.length = off + u.size → ∃ x, u.ty.rep (Zone.all W) (cs.drop off) x := by
        intro l
        induction l with
        | nil => intro off u _ hh _; simp [opF] at hh
        | cons f r ih =>
          intro off u hsub hh hlen
          cases r with
          | nil =>
            simp only [opF, Bool.and_eq_true, Nat.beq_eq] at hh
            obtain ⟨e1, e2, e3⟩ := hh
            obtain ⟨y, hy⟩ := hx f (hsub f (List.mem_cons_self ..))
            rw [e1, e2, List.take_of_length_le (by rw [List.length_drop]; omega)] at hy
            obtain ⟨x, hx', _⟩ := opB_ok n e3 H enc W k _ y hy
            exact ⟨x, hx'⟩
          | cons g r =>
            cases u with
            | pair a b =>
              simp only [opF, Bool.and_eq_true, Nat.beq_eq] at hh
              obtain ⟨⟨e1, e2, e3⟩, e4⟩ := hh
              simp only [TC.size] at hlen
              obtain ⟨y, hy⟩ := hx f (hsub f (List.mem_cons_self ..))
              rw [e1, e2] at hy
              obtain ⟨x1, r1, _⟩ := opB_ok n e3 H enc W k _ y hy
              obtain ⟨x2, r2⟩ := ih (off + a.size) b (fun q hq => hsub q (List.mem_cons_of_mem _ hq)) e4 (by omega)
              refine ⟨(x1, x2), (cs.drop off).take a.size, cs.drop (off + a.size), ?_, r1, r2⟩
              rw [← List.drop_drop, List.take_append_drop]
            | _ => simp [opF] at hh
      obtain ⟨x, hx'⟩ := key fs.toList 0 u (fun _ h => h) h1 (by omega)
      exact ⟨x, by simpa using hx', trivial⟩
    · rename_i m e ht
      simp only [Bool.and_eq_true, Nat.beq_eq] at h
      obtain ⟨h0, h1⟩ := h
      intro H enc W fuel cs d hd
      obtain ⟨hl, k, hx⟩ := trod_items ht hd
      have key : ∀ (q i : Nat) (u : TC), i + q = m → opA (opB P n) e (P.cellsOf e) q u = true → cs.length = i * P.cellsOf e + u.size → ∃ x, u.ty.rep (Zone.all W) (cs.drop (i * P.cellsOf e)) x := by
        intro q
        induction q with
        | zero => intro i u _ hh _; simp [opA] at hh
        | succ q ih =>
          intro i u hq hh hlen
          cases q with
          | zero =>
            simp only [opA, Bool.and_eq_true, Nat.beq_eq] at hh
            obtain ⟨y, hy⟩ := hx i (by omega)
            rw [List.take_of_length_le (by rw [List.length_drop]; omega)] at hy
            obtain ⟨x, hx', _⟩ := opB_ok n hh.2 H enc W k _ y hy
            exact ⟨x, hx'⟩
          | succ q =>
            cases u with
            | pair a b =>
              simp only [opA, Bool.and_eq_true, Nat.beq_eq] at hh
              obtain ⟨⟨e2, e3⟩, e4⟩ := hh
              simp only [TC.size] at hlen
              obtain ⟨y, hy⟩ := hx i (by omega)
              obtain ⟨x1, r1, _⟩ := opB_ok n e3 H enc W k _ y hy
              obtain ⟨x2, r2⟩ := ih (i + 1) b (by omega) e4 (by rw [Nat.add_mul]; omega)
              refine ⟨(x1, x2), (cs.drop (i * P.cellsOf e)).take (P.cellsOf e), cs.drop ((i + 1) * P.cellsOf e), ?_, r1, r2⟩
              rw [Nat.add_mul, Nat.one_mul, ← List.drop_drop, List.take_append_drop]
            | _ => simp [opA] at hh
      obtain ⟨x, hx'⟩ := key m 0 u (by omega) h1 (by omega)
      exact ⟨x, by simpa using hx', trivial⟩
    · cases h
section
variable {H : Type} {enc : TypeId × Value → H} {P : Program} {W : World} {base : Nat} {t : TypeId} {v : Value} {d : DataW H} {ps : List MemPlace}
theorem oA {u : TC} (hs : (match P.underlying t with | some (.struct _) => true | some (.array _ _) => true | _ => false) = true) (hb : opB P 12 t u = true) (hv : Value.okWide P W .any base t v) (h : DataW.Trod enc P W 0 (fun _ => true) true t v d ps) : ∃ x : u.den, repA (Zone.all W) (true, u) v x := by
  obtain ⟨cs, x, rfl, hr, _⟩ := arg_agg hs hv h (opB_ok 12 hb)
  exact ⟨x, .inl ⟨rfl, cs, rfl, hr⟩⟩
end
end Go.K
