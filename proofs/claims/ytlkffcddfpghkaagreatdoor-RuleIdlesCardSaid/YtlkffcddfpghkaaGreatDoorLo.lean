/-
  A part of the walk and of the plain law of one given statement. No condition.
-/
import Derived.Test.YtlkffcddfpghkaaGreatDoorR13
import Derived.Test.YtlkffcddfpghkaaGreatDoorProg
import Derived.Test.YtlkffcddfpghkaaGreatDoorK8
import Derived.Test.YtlkffcddfpghkaaGreatDoorG5
import Derived.Shelf.Sort.Plain
import Derived.Shelf.Slices.In.SortNone
import Derived.Shelf.SlicesG.CompactI
import Derived.Shelf.Spec.SlicesGrow
import Derived.Sort.OwnSortedInts
import Derived.Shelf.Strings.OnBuilder
import Derived.Lib.Join
import Derived.WalkKit
import Derived.Test.YtlkffcddfpghkaaGreatDoorSh
import Derived.Shelf.RegionOpenPlain
import Derived.Lib.Slices
import Derived.Lib.Walk
import Derived.Laws.Externs
import Derived.ProofKit
import Derived.OpenShut
import Derived.Stop.Joined
import Derived.Deep.Slices
import Derived.SizedLaws
import Derived.Shelf.Vars
import Derived.Lay
import Derived.LaidMore
set_option linter.unusedVariables false
set_option maxRecDepth 100000
set_option maxHeartbeats 0
namespace Go.K
open Go.Sl Go.Sx Go.Proofs
def S65 : FuncId → Sp := fun g => match g with
  | 209 => { joins := [(12, [(.slot 7, .dat .i), (.slot 3, .own .i 3)])], loops := [(9, [(.slot 7, .dat .i), (.slot 3, .own .i 3)]), (3, [(.slot 4, .own .i 3), (.slot 13, .dat .i)]), (1, [(.slot 3, .own .i 3), (.cell 0 0 [1], .own .bool 4)])] }
  | 65 => { joins := [(7, [(.slot 40, .dat .bool)])], loops := [(4, [(.slot 18, .dat .i)])] }
  | 128 => { nz := [(11, [12])] }
  | _ => {}
noncomputable def F65 (P : Program) (lf : Nat) (x : tt [(false, (.sl (.pair .str (.pair .i .i)))), (true, (.sl (.pair .i (.pair .i (.pair .i (.pair .str .i))))))]) : Option (tt [(false, .i), (false, .i)]) := fnF P (C76 P lf) S65 65 [(false, (.sl (.pair .str (.pair .i .i)))), (true, (.sl (.pair .i (.pair .i (.pair .i (.pair .str .i))))))] [(false, .i), (false, .i)] lf x
noncomputable def C65 (P : Program) (lf : Nat) : FuncId → Option Con := extC (C76 P lf) 65 (dataCon [(false, (.sl (.pair .str (.pair .i .i)))), (true, (.sl (.pair .i (.pair .i (.pair .i (.pair .str .i))))))] [(false, .i), (false, .i)] (F65 P lf))
def S67 : FuncId → Sp := fun g => match g with
  | 209 => { joins := [(12, [(.slot 7, .dat .i), (.slot 3, .own .i 3)])], loops := [(9, [(.slot 7, .dat .i), (.slot 3, .own .i 3)]), (3, [(.slot 4, .own .i 3), (.slot 13, .dat .i)]), (1, [(.slot 3, .own .i 3), (.cell 0 0 [3, 1], .own .bool 4)])] }
  | 175 => { fz := [(4, [(.slot 6, .dat (.sl .i))])] }
  | 67 => { joins := [(2, [(.slot 10, .dat .i)])] }
  | 128 => { nz := [(11, [12])] }
  | _ => {}
noncomputable def F67 (P : Program) (lf : Nat) (x : tt [(true, (.pair .str (.pair (.sl (.pair .str (.pair .i .i))) (.sl (.pair .str (.pair .i (.pair .i (.pair (.sl (.pair .i (.pair .i (.pair .i (.pair .str .i))))) (.pair (.sl (.pair .i (.pair .i (.pair .i (.pair .str .i))))) (.sl .str)))))))))), (false, .i), (false, .i), (false, (.sl (.pair .str (.pair .i .i))))]) : Option (tt [(false, .i), (false, .i)]) := fnF P (C65 P lf) S67 67 [(true, (.pair .str (.pair (.sl (.pair .str (.pair .i .i))) (.sl (.pair .str (.pair .i (.pair .i (.pair (.sl (.pair .i (.pair .i (.pair .i (.pair .str .i))))) (.pair (.sl (.pair .i (.pair .i (.pair .i (.pair .str .i))))) (.sl .str)))))))))), (false, .i), (false, .i), (false, (.sl (.pair .str (.pair .i .i))))] [(false, .i), (false, .i)] lf x
noncomputable def C67 (P : Program) (lf : Nat) : FuncId → Option Con := extC (C65 P lf) 67 (dataCon [(true, (.pair .str (.pair (.sl (.pair .str (.pair .i .i))) (.sl (.pair .str (.pair .i (.pair .i (.pair (.sl (.pair .i (.pair .i (.pair .i (.pair .str .i))))) (.pair (.sl (.pair .i (.pair .i (.pair .i (.pair .str .i))))) (.sl .str)))))))))), (false, .i), (false, .i), (false, (.sl (.pair .str (.pair .i .i))))] [(false, .i), (false, .i)] (F67 P lf))
def S78 : FuncId → Sp := fun g => match g with
  | 78 => { joins := [(2, [(.slot 8, .dat .i)])], loops := [(9, [(.slot 10, .own .str 9), (.slot 29, .dat .i)])] }
  | 128 => { nz := [(11, [12])] }
  | _ => {}
noncomputable def F78 (P : Program) (lf : Nat) (x : tt [(true, (.pair .str (.pair (.sl (.pair .str (.pair .i .i))) (.sl (.pair .str (.pair .i (.pair .i (.pair (.sl (.pair .i (.pair .i (.pair .i (.pair .str .i))))) (.pair (.sl (.pair .i (.pair .i (.pair .i (.pair .str .i))))) (.sl .str)))))))))), (false, .i), (false, (.sl (.pair .str (.pair .i .i))))]) : Option (tt [(false, (.sl .str)), (false, .i)]) := fnF P (C67 P lf) S78 78 [(true, (.pair .str (.pair (.sl (.pair .str (.pair .i .i))) (.sl (.pair .str (.pair .i (.pair .i (.pair (.sl (.pair .i (.pair .i (.pair .i (.pair .str .i))))) (.pair (.sl (.pair .i (.pair .i (.pair .i (.pair .str .i))))) (.sl .str)))))))))), (false, .i), (false, (.sl (.pair .str (.pair .i .i))))] [(false, (.sl .str)), (false, .i)] lf x
noncomputable def C78 (P : Program) (lf : Nat) : FuncId → Option Con := extC (C67 P lf) 78 (dataCon [(true, (.pair .str (.pair (.sl (.pair .str (.pair .i .i))) (.sl (.pair .str (.pair .i (.pair .i (.pair (.sl (.pair .i (.pair .i (.pair .i (.pair .str .i))))) (.pair (.sl (.pair .i (.pair .i (.pair .i (.pair .str .i))))) (.sl .str)))))))))), (false, .i), (false, (.sl (.pair .str (.pair .i .i))))] [(false, (.sl .str)), (false, .i)] (F78 P lf))
def S80 : FuncId → Sp := fun g => match g with
  | 80 => { joins := [(19, [(.slot 82, .dat .bool)]), (15, [(.cell 16 1, .dat .i)]), (2, [(.slot 10, .dat .i)])], loops := [(10, [(.slot 12, .own (.pair .i .i) 46), (.slot 39, .dat .i)])] }
  | 128 => { nz := [(11, [12])] }
  | _ => {}
noncomputable def F80 (P : Program) (lf : Nat) (x : tt [(true, (.pair .str (.pair (.sl (.pair .str (.pair .i .i))) (.sl (.pair .str (.pair .i (.pair .i (.pair (.sl (.pair .i (.pair .i (.pair .i (.pair .str .i))))) (.pair (.sl (.pair .i (.pair .i (.pair .i (.pair .str .i))))) (.sl .str)))))))))), (false, .i), (false, (.sl (.pair .str (.pair .i .i)))), (false, .str)]) : Option (tt [(false, (.sl (.pair .i .i))), (false, .i)]) := fnF P (C78 P lf) S80 80 [(true, (.pair .str (.pair (.sl (.pair .str (.pair .i .i))) (.sl (.pair .str (.pair .i (.pair .i (.pair (.sl (.pair .i (.pair .i (.pair .i (.pair .str .i))))) (.pair (.sl (.pair .i (.pair .i (.pair .i (.pair .str .i))))) (.sl .str)))))))))), (false, .i), (false, (.sl (.pair .str (.pair .i .i)))), (false, .str)] [(false, (.sl (.pair .i .i))), (false, .i)] lf x
noncomputable def C80 (P : Program) (lf : Nat) : FuncId → Option Con := extC (C78 P lf) 80 (dataCon [(true, (.pair .str (.pair (.sl (.pair .str (.pair .i .i))) (.sl (.pair .str (.pair .i (.pair .i (.pair (.sl (.pair .i (.pair .i (.pair .i (.pair .str .i))))) (.pair (.sl (.pair .i (.pair .i (.pair .i (.pair .str .i))))) (.sl .str)))))))))), (false, .i), (false, (.sl (.pair .str (.pair .i .i)))), (false, .str)] [(false, (.sl (.pair .i .i))), (false, .i)] (F80 P lf))
def S42 : FuncId → Sp := fun g => match g with
  | 42 => { joins := [(9, [(.slot 82, .dat .bool)]), (5, [(.slot 44, .dat .bool)])] }
  | 128 => { nz := [(11, [12])] }
  | _ => {}
noncomputable def F42 (P : Program) (lf : Nat) (x : tt [(true, (.pair .str (.pair (.sl (.pair .str (.pair .i .i))) (.sl (.pair .str (.pair .i (.pair .i (.pair (.sl (.pair .i (.pair .i (.pair .i (.pair .str .i))))) (.pair (.sl (.pair .i (.pair .i (.pair .i (.pair .str .i))))) (.sl .str)))))))))), (true, (.pair .i (.pair .i (.pair .i (.sl .i)))))]) : Option (tt [(false, .i)]) := fnF P (C80 P lf) S42 42 [(true, (.pair .str (.pair (.sl (.pair .str (.pair .i .i))) (.sl (.pair .str (.pair .i (.pair .i (.pair (.sl (.pair .i (.pair .i (.pair .i (.pair .str .i))))) (.pair (.sl (.pair .i (.pair .i (.pair .i (.pair .str .i))))) (.sl .str)))))))))), (true, (.pair .i (.pair .i (.pair .i (.sl .i)))))] [(false, .i)] lf x
noncomputable def C42 (P : Program) (lf : Nat) : FuncId → Option Con := extC (C80 P lf) 42 (dataCon [(true, (.pair .str (.pair (.sl (.pair .str (.pair .i .i))) (.sl (.pair .str (.pair .i (.pair .i (.pair (.sl (.pair .i (.pair .i (.pair .i (.pair .str .i))))) (.pair (.sl (.pair .i (.pair .i (.pair .i (.pair .str .i))))) (.sl .str)))))))))), (true, (.pair .i (.pair .i (.pair .i (.sl .i)))))] [(false, .i)] (F42 P lf))
def S46 : FuncId → Sp := fun g => match g with
  | 46 => { loops := [(6, [(.slot 5, .own .i 3), (.slot 17, .dat .i)])] }
  | 128 => { nz := [(11, [12])] }
  | _ => {}
noncomputable def F46 (P : Program) (lf : Nat) (x : tt [(true, (.pair .str (.pair (.sl (.pair .str (.pair .i .i))) (.sl (.pair .str (.pair .i (.pair .i (.pair (.sl (.pair .i (.pair .i (.pair .i (.pair .str .i))))) (.pair (.sl (.pair .i (.pair .i (.pair .i (.pair .str .i))))) (.sl .str))))))))))]) : Option (tt [(false, (.sl .i)), (false, .i)]) := fnF P (C42 P lf) S46 46 [(true, (.pair .str (.pair (.sl (.pair .str (.pair .i .i))) (.sl (.pair .str (.pair .i (.pair .i (.pair (.sl (.pair .i (.pair .i (.pair .i (.pair .str .i))))) (.pair (.sl (.pair .i (.pair .i (.pair .i (.pair .str .i))))) (.sl .str))))))))))] [(false, (.sl .i)), (false, .i)] lf x
noncomputable def C46 (P : Program) (lf : Nat) : FuncId → Option Con := extC (C42 P lf) 46 (dataCon [(true, (.pair .str (.pair (.sl (.pair .str (.pair .i .i))) (.sl (.pair .str (.pair .i (.pair .i (.pair (.sl (.pair .i (.pair .i (.pair .i (.pair .str .i))))) (.pair (.sl (.pair .i (.pair .i (.pair .i (.pair .str .i))))) (.sl .str))))))))))] [(false, (.sl .i)), (false, .i)] (F46 P lf))
theorem F46_eq (lf : Nat) (a0 : ByteArray) (a1 : (List (ByteArray × (Int × Int)))) (a2 : (List (ByteArray × (Int × (Int × ((List (Int × (Int × (Int × (ByteArray × Int))))) × ((List (Int × (Int × (Int × (ByteArray × Int))))) × (List ByteArray)))))))) : F46 Tryz.prog lf (a0, (a1, a2)) =
  ((F31 Tryz.prog lf (a0, (a1, a2)))).bind fun r8 => cond (!(decide (r8 = (0 : Int)))) (some (([] : List Int), r8)) (iter lf (fun y9 : ((List Int) × Int) => cond (decide (y9.2 < (a2.length : Int))) (((F132 Tryz.prog lf ((a0, (a1, a2)), y9.2))).bind fun r10 => cond (!r10.2) (((appC y9.1 [y9.2])).bind fun r11 => some (.inl (r11, (w64 (y9.2 + (1 : Int)))))) (some (.inl (y9.1, (w64 (y9.2 + (1 : Int))))))) (some (.inr (y9.1, (0 : Int))))) (([] : List Int), (0 : Int))) := by kernel_rfl
def S48 : FuncId → Sp := fun g => match g with
  | 48 => { joins := [(5, [(.slot 36, .dat .bool)]), (2, [(.slot 7, .dat .i)])] }
  | 128 => { nz := [(11, [12])] }
  | _ => {}
noncomputable def F48 (P : Program) (lf : Nat) (x : tt [(true, (.pair .str (.pair (.sl (.pair .str (.pair .i .i))) (.sl (.pair .str (.pair .i (.pair .i (.pair (.sl (.pair .i (.pair .i (.pair .i (.pair .str .i))))) (.pair (.sl (.pair .i (.pair .i (.pair .i (.pair .str .i))))) (.sl .str)))))))))), (false, .i), (true, (.pair .i (.sl .i)))]) : Option (tt [(false, .i)]) := fnF P (C46 P lf) S48 48 [(true, (.pair .str (.pair (.sl (.pair .str (.pair .i .i))) (.sl (.pair .str (.pair .i (.pair .i (.pair (.sl (.pair .i (.pair .i (.pair .i (.pair .str .i))))) (.pair (.sl (.pair .i (.pair .i (.pair .i (.pair .str .i))))) (.sl .str)))))))))), (false, .i), (true, (.pair .i (.sl .i)))] [(false, .i)] lf x
noncomputable def C48 (P : Program) (lf : Nat) : FuncId → Option Con := extC (C46 P lf) 48 (dataCon [(true, (.pair .str (.pair (.sl (.pair .str (.pair .i .i))) (.sl (.pair .str (.pair .i (.pair .i (.pair (.sl (.pair .i (.pair .i (.pair .i (.pair .str .i))))) (.pair (.sl (.pair .i (.pair .i (.pair .i (.pair .str .i))))) (.sl .str)))))))))), (false, .i), (true, (.pair .i (.sl .i)))] [(false, .i)] (F48 P lf))
theorem F48_eq (lf : Nat) (a0 : ByteArray) (a1 : (List (ByteArray × (Int × Int)))) (a2 : (List (ByteArray × (Int × (Int × ((List (Int × (Int × (Int × (ByteArray × Int))))) × ((List (Int × (Int × (Int × (ByteArray × Int))))) × (List ByteArray)))))))) (a3 : Int) (a4 : Int) (a5 : (List Int)) : F48 Tryz.prog lf ((a0, (a1, a2)), (a3, (a4, a5))) =
  jn (((F31 Tryz.prog lf (a0, (a1, a2)))).bind fun r15 => cond (!(decide (r15 = (0 : Int)))) (some (.inl r15)) (((F91 Tryz.prog lf (a3, ((0 : Int), (w64 ((a2.length : Int) - (1 : Int))))))).bind fun r16 => cond (!r16) (some (.inl (47 : Int))) (some (.inl (0 : Int))))) (fun y17 : Int => cond (!(decide (y17 = (0 : Int)))) (some y17) (jn (((F91 Tryz.prog lf (a4, ((0 : Int), (100000 : Int))))).bind fun r18 => cond (!r18) (some (.inl true)) (((F129 Tryz.prog lf ((a0, (a1, a2)), a5))).bind fun r19 => cond (!r19) (some (.inl true)) (((F131 Tryz.prog lf ())).bind fun r20 => ((F130 Tryz.prog lf ((a0, (a1, a2)), (a4, (a5, ()))))).bind fun r21 => ((F133 Tryz.prog lf ((r21.1, r21.2), a3))).bind fun r22 => some (.inl (!r22))))) (fun y23 : Bool => cond y23 (some (42 : Int)) (some (0 : Int))))) := by kernel_rfl
def S44 : FuncId → Sp := fun g => match g with
  | 128 => { nz := [(11, [12])] }
  | _ => {}
noncomputable def F44 (P : Program) (lf : Nat) (x : tt [(true, (.pair .str (.pair (.sl (.pair .str (.pair .i .i))) (.sl (.pair .str (.pair .i (.pair .i (.pair (.sl (.pair .i (.pair .i (.pair .i (.pair .str .i))))) (.pair (.sl (.pair .i (.pair .i (.pair .i (.pair .str .i))))) (.sl .str))))))))))]) : Option (tt [(false, (.sl .i)), (false, .i)]) := fnF P (C48 P lf) S44 44 [(true, (.pair .str (.pair (.sl (.pair .str (.pair .i .i))) (.sl (.pair .str (.pair .i (.pair .i (.pair (.sl (.pair .i (.pair .i (.pair .i (.pair .str .i))))) (.pair (.sl (.pair .i (.pair .i (.pair .i (.pair .str .i))))) (.sl .str))))))))))] [(false, (.sl .i)), (false, .i)] lf x
noncomputable def C44 (P : Program) (lf : Nat) : FuncId → Option Con := extC (C48 P lf) 44 (dataCon [(true, (.pair .str (.pair (.sl (.pair .str (.pair .i .i))) (.sl (.pair .str (.pair .i (.pair .i (.pair (.sl (.pair .i (.pair .i (.pair .i (.pair .str .i))))) (.pair (.sl (.pair .i (.pair .i (.pair .i (.pair .str .i))))) (.sl .str))))))))))] [(false, (.sl .i)), (false, .i)] (F44 P lf))
def S55 : FuncId → Sp := fun g => match g with
  | 128 => { nz := [(11, [12])] }
  | _ => {}
noncomputable def F55 (P : Program) (lf : Nat) (x : tt [(true, (.pair .str (.pair (.sl (.pair .str (.pair .i .i))) (.sl (.pair .str (.pair .i (.pair .i (.pair (.sl (.pair .i (.pair .i (.pair .i (.pair .str .i))))) (.pair (.sl (.pair .i (.pair .i (.pair .i (.pair .str .i))))) (.sl .str))))))))))]) : Option (tt [(false, (.sl (.sl .i))), (false, .i)]) := fnF P (C44 P lf) S55 55 [(true, (.pair .str (.pair (.sl (.pair .str (.pair .i .i))) (.sl (.pair .str (.pair .i (.pair .i (.pair (.sl (.pair .i (.pair .i (.pair .i (.pair .str .i))))) (.pair (.sl (.pair .i (.pair .i (.pair .i (.pair .str .i))))) (.sl .str))))))))))] [(false, (.sl (.sl .i))), (false, .i)] lf x
noncomputable def C55 (P : Program) (lf : Nat) : FuncId → Option Con := extC (C44 P lf) 55 (dataCon [(true, (.pair .str (.pair (.sl (.pair .str (.pair .i .i))) (.sl (.pair .str (.pair .i (.pair .i (.pair (.sl (.pair .i (.pair .i (.pair .i (.pair .str .i))))) (.pair (.sl (.pair .i (.pair .i (.pair .i (.pair .str .i))))) (.sl .str))))))))))] [(false, (.sl (.sl .i))), (false, .i)] (F55 P lf))
def S73 : FuncId → Sp := fun g => match g with
  | 73 => { joins := [(2, [(.slot 6, .dat .i)])], loops := [(6, [(.slot 7, .own .i 3), (.slot 19, .dat .i)])] }
  | 128 => { nz := [(11, [12])] }
  | _ => {}
noncomputable def F73 (P : Program) (lf : Nat) (x : tt [(true, (.pair .str (.pair (.sl (.pair .str (.pair .i .i))) (.sl (.pair .str (.pair .i (.pair .i (.pair (.sl (.pair .i (.pair .i (.pair .i (.pair .str .i))))) (.pair (.sl (.pair .i (.pair .i (.pair .i (.pair .str .i))))) (.sl .str)))))))))), (false, .i)]) : Option (tt [(false, (.sl .i)), (false, .i)]) := fnF P (C55 P lf) S73 73 [(true, (.pair .str (.pair (.sl (.pair .str (.pair .i .i))) (.sl (.pair .str (.pair .i (.pair .i (.pair (.sl (.pair .i (.pair .i (.pair .i (.pair .str .i))))) (.pair (.sl (.pair .i (.pair .i (.pair .i (.pair .str .i))))) (.sl .str)))))))))), (false, .i)] [(false, (.sl .i)), (false, .i)] lf x
noncomputable def C73 (P : Program) (lf : Nat) : FuncId → Option Con := extC (C55 P lf) 73 (dataCon [(true, (.pair .str (.pair (.sl (.pair .str (.pair .i .i))) (.sl (.pair .str (.pair .i (.pair .i (.pair (.sl (.pair .i (.pair .i (.pair .i (.pair .str .i))))) (.pair (.sl (.pair .i (.pair .i (.pair .i (.pair .str .i))))) (.sl .str)))))))))), (false, .i)] [(false, (.sl .i)), (false, .i)] (F73 P lf))
def S4 : FuncId → Sp := fun g => match g with
  | 4 => { joins := [(15, [(.slot 110, .dat .bool)]), (10, [(.slot 84, .dat .bool)])], loops := [(22, [(.slot 128, .dat .i)]), (12, [(.slot 88, .dat .i)])] }
  | 128 => { nz := [(11, [12])] }
  | _ => {}
noncomputable def F4 (P : Program) (lf : Nat) (x : tt [(true, (.pair .str (.pair (.sl (.pair .str (.pair .i .i))) (.sl (.pair .str (.pair .i (.pair .i (.pair (.sl (.pair .i (.pair .i (.pair .i (.pair .str .i))))) (.pair (.sl (.pair .i (.pair .i (.pair .i (.pair .str .i))))) (.sl .str)))))))))), (true, (.pair .i (.pair .i (.pair (.sl (.pair .str (.pair .i .i))) .str))))]) : Option (tt [(false, .bool)]) := fnF P (C73 P lf) S4 4 [(true, (.pair .str (.pair (.sl (.pair .str (.pair .i .i))) (.sl (.pair .str (.pair .i (.pair .i (.pair (.sl (.pair .i (.pair .i (.pair .i (.pair .str .i))))) (.pair (.sl (.pair .i (.pair .i (.pair .i (.pair .str .i))))) (.sl .str)))))))))), (true, (.pair .i (.pair .i (.pair (.sl (.pair .str (.pair .i .i))) .str))))] [(false, .bool)] lf x
noncomputable def C4 (P : Program) (lf : Nat) : FuncId → Option Con := extC (C73 P lf) 4 (dataCon [(true, (.pair .str (.pair (.sl (.pair .str (.pair .i .i))) (.sl (.pair .str (.pair .i (.pair .i (.pair (.sl (.pair .i (.pair .i (.pair .i (.pair .str .i))))) (.pair (.sl (.pair .i (.pair .i (.pair .i (.pair .str .i))))) (.sl .str)))))))))), (true, (.pair .i (.pair .i (.pair (.sl (.pair .str (.pair .i .i))) .str))))] [(false, .bool)] (F4 P lf))
def S9 : FuncId → Sp := fun g => match g with
  | 9 => { joins := [(23, [(.slot 116, .dat .bool)]), (21, [(.slot 83, .dat .bool)])], loops := [(14, [(.slot 12, .dat .bool), (.slot 51, .dat .i)]), (10, [(.slot 46, .dat .i)])] }
  | 128 => { nz := [(11, [12])] }
  | _ => {}
noncomputable def F9 (P : Program) (lf : Nat) (x : tt [(true, (.pair .str (.pair (.sl (.pair .str (.pair .i .i))) (.sl (.pair .str (.pair .i (.pair .i (.pair (.sl (.pair .i (.pair .i (.pair .i (.pair .str .i))))) (.pair (.sl (.pair .i (.pair .i (.pair .i (.pair .str .i))))) (.sl .str)))))))))), (false, .i), (false, (.sl .i))]) : Option (tt [(false, .bool)]) := fnF P (C4 P lf) S9 9 [(true, (.pair .str (.pair (.sl (.pair .str (.pair .i .i))) (.sl (.pair .str (.pair .i (.pair .i (.pair (.sl (.pair .i (.pair .i (.pair .i (.pair .str .i))))) (.pair (.sl (.pair .i (.pair .i (.pair .i (.pair .str .i))))) (.sl .str)))))))))), (false, .i), (false, (.sl .i))] [(false, .bool)] lf x
theorem F9_eq (lf : Nat) (a0 : ByteArray) (a1 : (List (ByteArray × (Int × Int)))) (a2 : (List (ByteArray × (Int × (Int × ((List (Int × (Int × (Int × (ByteArray × Int))))) × ((List (Int × (Int × (Int × (ByteArray × Int))))) × (List ByteArray)))))))) (a3 : Int) (a4 : (List Int)) : F9 Tryz.prog lf ((a0, (a1, a2)), (a3, a4)) =
  ((F46 Tryz.prog lf (a0, (a1, a2)))).bind fun r31 => ((F32 Tryz.prog lf (a0, (a1, a2)))).bind fun r32 => cond (!(decide (r32 = (0 : Int)))) (cond (!(decide (r31.2 = (0 : Int)))) (((F22 Tryz.prog lf ())).bind fun r33 => some r33) (some false)) (cond (!(decide (r31.2 = (0 : Int)))) (some false) (((F39 Tryz.prog lf (a1, a4))).bind fun r34 => ((F43 Tryz.prog lf (((0 : Int), (100000 : Int)), a3))).bind fun r35 => ((F26 Tryz.prog lf ((a0, (a1, a2)), (r35, r34)))).bind fun r36 => iter lf (fun y37 : Int => cond (decide (y37 < (a2.length : Int))) (iter lf (fun y38 : (Bool × Int) => cond (decide (y38.2 < (r31.1.length : Int))) (((getI r31.1 y38.2)).bind fun r39 => cond (decide (r39 = y37)) (some (.inl (true, (w64 (y38.2 + (1 : Int)))))) (some (.inl (y38.1, (w64 (y38.2 + (1 : Int))))))) (outR (((F47 Tryz.prog lf ((a0, (a1, a2)), y37))).bind fun r40 => jn (cond (!(decide (y38.1 = (decide (r40.2 = (3 : Int)))))) (some (.inl true)) (cond (!y38.1) (cond (!(decide (r40.2 = (0 : Int)))) (some (.inl true)) (((F48 Tryz.prog lf ((a0, (a1, a2)), (y37, (r40.1.1, r40.1.2))))).bind fun r41 => some (.inl (!(decide (r41 = (0 : Int))))))) (some (.inl false)))) (fun y42 : Bool => cond y42 (some (.inr false)) (jn (cond y38.1 (((F28 Tryz.prog lf (r36, y37))).bind fun r43 => cond r43 (((getI r36 y37)).bind fun r44 => cond (!r44) (some (.inl true)) (((F48 Tryz.prog lf ((a0, (a1, a2)), (y37, (r35, r34))))).bind fun r45 => ((F28 Tryz.prog lf (r36, y37))).bind fun r46 => cond r46 (((getI r36 y37)).bind fun r47 => some (.inl (!(decide ((decide (r45 = (0 : Int))) = (!r47)))))) (some (.inl (!(decide ((decide (r45 = (0 : Int))) = false))))))) (((F48 Tryz.prog lf ((a0, (a1, a2)), (y37, (r35, r34))))).bind fun r48 => ((F28 Tryz.prog lf (r36, y37))).bind fun r49 => cond r49 (((getI r36 y37)).bind fun r50 => some (.inl (!(decide ((decide (r48 = (0 : Int))) = (!r50)))))) (some (.inl (!(decide ((decide (r48 = (0 : Int))) = false))))))) (((F48 Tryz.prog lf ((a0, (a1, a2)), (y37, (r35, r34))))).bind fun r51 => ((F28 Tryz.prog lf (r36, y37))).bind fun r52 => cond r52 (((getI r36 y37)).bind fun r53 => some (.inl (!(decide ((decide (r51 = (0 : Int))) = (!r53)))))) (some (.inl (!(decide ((decide (r51 = (0 : Int))) = false))))))) (fun y54 : Bool => cond y54 (some (.inr false)) (some (.inl (w64 (y37 + (1 : Int))))))))))) (false, (0 : Int))) (outR (((F22 Tryz.prog lf ())).bind fun r55 => some r55))) (0 : Int))) := by kernel_rfl
end Go.K
set_option linter.unusedVariables false
set_option linter.unusedSimpArgs false
set_option maxRecDepth 100000
set_option maxHeartbeats 0
namespace Go.K
open Go.Sl Go.Sx Go.Proofs
noncomputable def G46 (lf : Nat) (x : (ByteArray × ((List (ByteArray × (Int × Int))) × (List (ByteArray × (Int × (Int × ((List (Int × (Int × (Int × (ByteArray × Int))))) × ((List (Int × (Int × (Int × (ByteArray × Int))))) × (List ByteArray)))))))))) : Option (((List Int) × Int)) :=
  ((G31 lf (x.1, (x.2.1, x.2.2)))).bind fun r8 => cond (!(decide (r8 = (0 : Int)))) (some (([] : List Int), r8)) (iter lf (fun y9 : ((List Int) × Int) => cond (decide (y9.2 < (x.2.2.length : Int))) (((G132 lf ((x.1, (x.2.1, x.2.2)), y9.2))).bind fun r10 => cond (!r10.2) (((appC y9.1 [y9.2])).bind fun r11 => some (.inl (r11, (w64 (y9.2 + (1 : Int)))))) (some (.inl (y9.1, (w64 (y9.2 + (1 : Int))))))) (some (.inr (y9.1, (0 : Int))))) (([] : List Int), (0 : Int)))
theorem F46_G (lf : Nat) (x : (ByteArray × ((List (ByteArray × (Int × Int))) × (List (ByteArray × (Int × (Int × ((List (Int × (Int × (Int × (ByteArray × Int))))) × ((List (Int × (Int × (Int × (ByteArray × Int))))) × (List ByteArray)))))))))) : F46 Tryz.prog lf x = G46 lf x := (F46_eq lf x.1 x.2.1 x.2.2).trans (by
  unfold G46
  (try simp only [F31_G, F132_G, agree_self, Lib.toList_data]); first | done | rfl)
noncomputable def G48 (lf : Nat) (x : ((ByteArray × ((List (ByteArray × (Int × Int))) × (List (ByteArray × (Int × (Int × ((List (Int × (Int × (Int × (ByteArray × Int))))) × ((List (Int × (Int × (Int × (ByteArray × Int))))) × (List ByteArray))))))))) × (Int × (Int × (List Int))))) : Option (Int) :=
  jn (((G31 lf (x.1.1, (x.1.2.1, x.1.2.2)))).bind fun r15 => cond (!(decide (r15 = (0 : Int)))) (some (.inl r15)) (((G91 lf (x.2.1, ((0 : Int), (w64 ((x.1.2.2.length : Int) - (1 : Int))))))).bind fun r16 => cond (!r16) (some (.inl (47 : Int))) (some (.inl (0 : Int))))) (fun y17 : Int => cond (!(decide (y17 = (0 : Int)))) (some y17) (jn (((G91 lf (x.2.2.1, ((0 : Int), (100000 : Int))))).bind fun r18 => cond (!r18) (some (.inl true)) (((G129 lf ((x.1.1, (x.1.2.1, x.1.2.2)), x.2.2.2))).bind fun r19 => cond (!r19) (some (.inl true)) (((G131 lf ())).bind fun r20 => ((G130 lf ((x.1.1, (x.1.2.1, x.1.2.2)), (x.2.2.1, (x.2.2.2, ()))))).bind fun r21 => ((G133 lf ((r21.1, r21.2), x.2.1))).bind fun r22 => some (.inl (!r22))))) (fun y23 : Bool => cond y23 (some (42 : Int)) (some (0 : Int)))))
theorem F48_G (lf : Nat) (x : ((ByteArray × ((List (ByteArray × (Int × Int))) × (List (ByteArray × (Int × (Int × ((List (Int × (Int × (Int × (ByteArray × Int))))) × ((List (Int × (Int × (Int × (ByteArray × Int))))) × (List ByteArray))))))))) × (Int × (Int × (List Int))))) : F48 Tryz.prog lf x = G48 lf x := (F48_eq lf x.1.1 x.1.2.1 x.1.2.2 x.2.1 x.2.2.1 x.2.2.2).trans (by
  unfold G48
  (try simp only [F31_G, F91_G, F129_G, F130_G, F131_G, F133_G, agree_self, Lib.toList_data]); first | done | rfl)
noncomputable def G9 (lf : Nat) (x : ((ByteArray × ((List (ByteArray × (Int × Int))) × (List (ByteArray × (Int × (Int × ((List (Int × (Int × (Int × (ByteArray × Int))))) × ((List (Int × (Int × (Int × (ByteArray × Int))))) × (List ByteArray))))))))) × (Int × (List Int)))) : Option (Bool) :=
  ((G46 lf (x.1.1, (x.1.2.1, x.1.2.2)))).bind fun r31 => ((G32 lf (x.1.1, (x.1.2.1, x.1.2.2)))).bind fun r32 => cond (!(decide (r32 = (0 : Int)))) (cond (!(decide (r31.2 = (0 : Int)))) (((G22 lf ())).bind fun r33 => some r33) (some false)) (cond (!(decide (r31.2 = (0 : Int)))) (some false) (((G39 lf (x.1.2.1, x.2.2))).bind fun r34 => ((G43 lf (((0 : Int), (100000 : Int)), x.2.1))).bind fun r35 => ((G26 lf ((x.1.1, (x.1.2.1, x.1.2.2)), (r35, r34)))).bind fun r36 => iter lf (fun y37 : Int => cond (decide (y37 < (x.1.2.2.length : Int))) (iter lf (fun y38 : (Bool × Int) => cond (decide (y38.2 < (r31.1.length : Int))) (((getI r31.1 y38.2)).bind fun r39 => cond (decide (r39 = y37)) (some (.inl (true, (w64 (y38.2 + (1 : Int)))))) (some (.inl (y38.1, (w64 (y38.2 + (1 : Int))))))) (outR (((G47 lf ((x.1.1, (x.1.2.1, x.1.2.2)), y37))).bind fun r40 => jn (cond (!(decide (y38.1 = (decide (r40.2 = (3 : Int)))))) (some (.inl true)) (cond (!y38.1) (cond (!(decide (r40.2 = (0 : Int)))) (some (.inl true)) (((G48 lf ((x.1.1, (x.1.2.1, x.1.2.2)), (y37, (r40.1.1, r40.1.2))))).bind fun r41 => some (.inl (!(decide (r41 = (0 : Int))))))) (some (.inl false)))) (fun y42 : Bool => cond y42 (some (.inr false)) (jn (cond y38.1 (((G28 lf (r36, y37))).bind fun r43 => cond r43 (((getI r36 y37)).bind fun r44 => cond (!r44) (some (.inl true)) (((G48 lf ((x.1.1, (x.1.2.1, x.1.2.2)), (y37, (r35, r34))))).bind fun r45 => ((G28 lf (r36, y37))).bind fun r46 => cond r46 (((getI r36 y37)).bind fun r47 => some (.inl (!(decide ((decide (r45 = (0 : Int))) = (!r47)))))) (some (.inl (!(decide ((decide (r45 = (0 : Int))) = false))))))) (((G48 lf ((x.1.1, (x.1.2.1, x.1.2.2)), (y37, (r35, r34))))).bind fun r48 => ((G28 lf (r36, y37))).bind fun r49 => cond r49 (((getI r36 y37)).bind fun r50 => some (.inl (!(decide ((decide (r48 = (0 : Int))) = (!r50)))))) (some (.inl (!(decide ((decide (r48 = (0 : Int))) = false))))))) (((G48 lf ((x.1.1, (x.1.2.1, x.1.2.2)), (y37, (r35, r34))))).bind fun r51 => ((G28 lf (r36, y37))).bind fun r52 => cond r52 (((getI r36 y37)).bind fun r53 => some (.inl (!(decide ((decide (r51 = (0 : Int))) = (!r53)))))) (some (.inl (!(decide ((decide (r51 = (0 : Int))) = false))))))) (fun y54 : Bool => cond y54 (some (.inr false)) (some (.inl (w64 (y37 + (1 : Int))))))))))) (false, (0 : Int))) (outR (((G22 lf ())).bind fun r55 => some r55))) (0 : Int)))
theorem F9_G (lf : Nat) (x : ((ByteArray × ((List (ByteArray × (Int × Int))) × (List (ByteArray × (Int × (Int × ((List (Int × (Int × (Int × (ByteArray × Int))))) × ((List (Int × (Int × (Int × (ByteArray × Int))))) × (List ByteArray))))))))) × (Int × (List Int)))) : F9 Tryz.prog lf x = G9 lf x := (F9_eq lf x.1.1 x.1.2.1 x.1.2.2 x.2.1 x.2.2).trans (by
  unfold G9
  (try simp only [F22_G, F26_G, F28_G, F32_G, F39_G, F43_G, F46_G, F47_G, F48_G, agree_self, Lib.toList_data]); first | done | rfl)
end Go.K
set_option linter.unusedVariables false
set_option linter.unusedSimpArgs false
set_option maxRecDepth 100000
namespace Go.K
open Go.Sl Go.Sx Go.Proofs
theorem castN_lt {k : List Nat} {i : Nat} (h : i < k.length) : decide ((i : Int) < ((castN k).length : Int)) = true := decide_eq_true (by simp [castN]; omega)
theorem vals_of {ρ : Type} {ls : List (List Int)} {k : List Nat} (hk : okI ls k) (hb : ls.length ≤ 1000) {f : List Int × Int → Option ((List Int × Int) ⊕ ρ)} {K : Option ρ}
    (h1 : ∀ (a : List Int) (i : Nat), i < k.length → f (a, (i : Int)) = ((getI (castN k) (i : Int))).bind fun r77 => ((getI (castN k) (i : Int))).bind fun r78 => ((getI ls (i : Int))).bind fun r79 => ((getI r79 r78)).bind fun r80 => ((appC a [r80])).bind fun r81 => some (.inl (r81, (w64 ((i : Int) + (1 : Int))))))
    (h2 : f (valsI ls k, ((castN k).length : Int)) = outR K) : iter LF f (([] : List Int), (0 : Int)) = K := by
  have hl := okI_len hk
  have hcl : (castN k).length = k.length := by simp [castN]
  refine (iter_foldI (f := f) (fun i a => (a, i)) (fun (x : Nat) i (a : List Int) => a ++ [(ls.getD i []).getD x 0]) (fun i a => a = valsI (ls.take i) (k.take i)) k (fun _ => K) []
    (fun i x a hx hg => ?_) (fun i x a hx hg => ?_) (fun a hg => ?_) (by show k.length < 9223372036854775808; omega) (by simp [valsI])).trans rfl
  · obtain ⟨c, hc, hlt⟩ := okI_get hk hx
    have hi := (List.getElem?_eq_some_iff.1 hx).1
    have hn : c[x]? = some c[x] := List.getElem?_eq_getElem hlt
    have hal : a.length ≤ 1000 := by rw [hg, vals_len (by simp; omega)]; simp; omega
    rw [h1 a i hi, getI_nat (show (castN k)[i]? = some (x : Int) by simp [castN, hx]), getI_nat hc]
    simp only [Option.bind_some, getI_nat hn, appC_of (show a.length + [c[x]].length ≤ 1099511627776 by simp; omega), succ_W (show i + 1 < 9223372036854775808 by omega)]
    simp [hc, hn]
  · have hi := (List.getElem?_eq_some_iff.1 hx).1
    have e1 := vals_take hk (i + 1) (by omega)
    have e0 := vals_take hk i (by omega)
    obtain ⟨c, hc, hlt⟩ := okI_get hk hx
    have t1 : k.take (i + 1) = k.take i ++ [x] := by rw [List.take_add_one, hx]; rfl
    have t2 : ls.take (i + 1) = ls.take i ++ [c] := by rw [List.take_add_one, hc]; rfl
    rw [t1, t2, vals_snoc _ _ (by simp; omega), ← hg]
    simp [hc]
  · have : a = valsI ls k := by rw [hg, List.take_length, ← hl, List.take_length]
    rw [this, ← hcl]; exact h2
theorem adv_of {ρ : Type} {ls : List (List Int)} {k : List Nat} (hk : okI ls k) (hb : ls.length ≤ 1000) (hcl : ∀ c ∈ ls, c.length < LF) (END : Option ρ) (NEXT : List Int → Option ρ) :
    jn (iter LF (fun y85 : (Int × (List Int)) => cond (decide (y85.1 ≥ (0 : Int))) (((getI y85.2 y85.1)).bind fun r86 => ((getI y85.2 y85.1)).bind fun r87 => ((getI ls y85.1)).bind fun r88 => cond (decide (r87 = (w64 ((r88.length : Int) - (1 : Int))))) (((getI y85.2 y85.1)).bind fun r89 => ((getI y85.2 y85.1)).bind fun r90 => ((setI y85.2 y85.1 (0 : Int))).bind fun r91 => some (.inl ((w64 (y85.1 - (1 : Int))), r91))) (some (.inr (.inl (y85.1, y85.2))))) (some (.inr (.inl (y85.1, y85.2))))) ((w64 ((ls.length : Int) - (1 : Int))), castN k))
      (fun y92 : (Int × (List Int)) => cond (decide (y92.1 < (0 : Int))) END (((getI y92.2 y92.1)).bind fun r94 => ((getI y92.2 y92.1)).bind fun r95 => ((getI y92.2 y92.1)).bind fun r96 => ((getI y92.2 y92.1)).bind fun r97 => ((setI y92.2 y92.1 (w64 (r95 + (1 : Int))))).bind NEXT))
    = match nxt ls k with
      | none => END
      | some k' => NEXT (castN k') := by
  have hkl := okI_len hk
  obtain ⟨i, at', h1, h2⟩ := adv_loop (ρ := (Int × List Int) ⊕ ρ) (ls := ls) (fun y => .inl y) hb hcl (f := fun y85 : (Int × (List Int)) => cond (decide (y85.1 ≥ (0 : Int))) (((getI y85.2 y85.1)).bind fun r86 => ((getI y85.2 y85.1)).bind fun r87 => ((getI ls y85.1)).bind fun r88 => cond (decide (r87 = (w64 ((r88.length : Int) - (1 : Int))))) (((getI y85.2 y85.1)).bind fun r89 => ((getI y85.2 y85.1)).bind fun r90 => ((setI y85.2 y85.1 (0 : Int))).bind fun r91 => some (.inl ((w64 (y85.1 - (1 : Int))), r91))) (some (.inr (.inl (y85.1, y85.2))))) (some (.inr (.inl (y85.1, y85.2)))))
    (fun at_ => rfl)
    (fun j x at_ c e1 e2 e3 e4 => by
      have hc := hcl c (List.mem_of_getElem? e2)
      have hc' : c.length < 9223372036854775808 := hc
      have d1 : decide ((j : Int) ≥ 0) = true := decide_eq_true (by omega)
      have d2 : decide ((x : Int) = w64 ((c.length : Int) - 1)) = true := decide_eq_true (by rw [w64_in (by omega)]; omega)
      simp only [d1, d2, cond_true, getI_nat e1, getI_nat e2, Option.bind_some])
    (fun j x at_ c e1 e2 e3 e4 => by
      have hc := hcl c (List.mem_of_getElem? e2)
      have hc' : c.length < 9223372036854775808 := hc
      have d1 : decide ((j : Int) ≥ 0) = true := decide_eq_true (by omega)
      have d2 : decide ((x : Int) = w64 ((c.length : Int) - 1)) = false := decide_eq_false (by rw [w64_in (by omega)]; omega)
      simp only [d1, d2, cond_true, cond_false, getI_nat e1, getI_nat e2, Option.bind_some])
    k.length ls [] k 0 LF (by simp) rfl hk (by show k.length < 9223372036854775808; omega)
  have hst : w64 ((ls.length : Int) - 1) = (k.length : Int) - 1 := by rw [w64_in (by omega)]; omega
  simp only [List.replicate_zero, List.append_nil] at h1 h2
  rw [hst, h1]
  simp only [jl]
  cases hn : nxt ls k with
  | none =>
    rw [hn] at h2
    subst h2
    rfl
  | some k' =>
    rw [hn] at h2
    obtain ⟨j, r, rfl, e1, e2⟩ := h2
    have d1 : decide ((j : Int) < 0) = false := decide_eq_false (by omega)
    simp only [d1, cond_false, getI_nat e1, Option.bind_some, e2]
theorem mkC_zer (ls : List (List Int)) (h : ls.length ≤ 1000) : mkC (ls.length : Int) (0 : Int) = some (castN (zerN ls)) := by
  unfold mkC
  rw [if_pos (by omega)]
  simp only [castN, zerN, List.map_map, Int.toNat_natCast]
  congr 1
  exact List.map_const'.symm
def prodL (l : List (List Int)) : Nat := l.foldr (fun x n => x.length * n) 1
theorem choL_len : ∀ l : List (List Int), (choL l).length = prodL l
  | [] => rfl
  | x :: l => by
    have ih := choL_len l
    show (x.flatMap fun n => (choL l).map (n :: ·)).length = x.length * prodL l
    rw [← ih]
    induction x with
    | nil => simp
    | cons a x ihx => rw [List.flatMap_cons, List.length_append, ihx, List.length_map, List.length_cons, Nat.add_mul]; omega
theorem prod_pos : ∀ {l : List (List Int)}, (∀ x ∈ l, x ≠ []) → 1 ≤ prodL l
  | [], _ => Nat.le_refl _
  | x :: l, h => Nat.mul_pos (List.length_pos_iff.2 (h x (List.mem_cons_self ..))) (prod_pos fun y hy => h y (List.mem_cons_of_mem _ hy))
theorem many_prod : ∀ (l : List (List Int)) (n : Nat), (∀ x ∈ l, x ≠ [] ∧ x.length ≤ 1000000) → 1 ≤ n → n ≤ 4001 →
    l.foldl (fun (n : Int) x => if (4001 : Int) < w64 (n * (x.length : Int)) then 4001 else w64 (n * (x.length : Int))) (n : Int) ≤ 4000 → n * prodL l ≤ 4000
  | [], n, _, _, h2, h => by
    simp only [List.foldl_nil] at h
    simp [prodL]; omega
  | x :: l, n, hl, h1, h2, h => by
    obtain ⟨hx0, hx1⟩ := hl x (List.mem_cons_self ..)
    have hxp := List.length_pos_iff.2 hx0
    have hb : n * x.length ≤ 4001 * 1000000 := Nat.mul_le_mul h2 hx1
    have hp : n ≤ n * x.length := Nat.le_mul_of_pos_right _ hxp
    have he : w64 ((n : Int) * (x.length : Int)) = ((n * x.length : Nat) : Int) := by
      rw [← Int.natCast_mul, w64_in (by omega)]
    rw [List.foldl_cons, he] at h
    have hprod := prod_pos (l := l) fun y hy => (hl y (List.mem_cons_of_mem _ hy)).1
    by_cases hc : 4001 < n * x.length
    · rw [if_pos (by omega)] at h
      have := many_prod l 4001 (fun y hy => hl y (List.mem_cons_of_mem _ hy)) (by omega) (by omega) h
      have : 4001 * 1 ≤ 4001 * prodL l := Nat.mul_le_mul (Nat.le_refl _) hprod
      omega
    · rw [if_neg (by omega)] at h
      have := many_prod l (n * x.length) (fun y hy => hl y (List.mem_cons_of_mem _ hy)) (by omega) (by omega) h
      show n * (x.length * prodL l) ≤ 4000
      rw [← Nat.mul_assoc]; exact this
theorem rise_le : ∀ {l m : List Int}, Rise l → Rise m → (∀ x ∈ l, x ∈ m) → l.length ≤ m.length
  | [], _, _, _, _ => by simp
  | a :: l, [], _, _, h => absurd (h a (List.mem_cons_self ..)) (by simp)
  | a :: l, b :: m, hl, hm, h => by
    obtain ⟨l1, l2⟩ := List.pairwise_cons.1 hl
    obtain ⟨m1, m2⟩ := List.pairwise_cons.1 hm
    by_cases e : a = b
    · subst e
      have := rise_le l2 m2 fun x hx => by
        rcases List.mem_cons.1 (h x (List.mem_cons_of_mem _ hx)) with e | e
        · subst e; exact absurd (l1 x hx) (Int.lt_irrefl _)
        · exact e
      simp only [List.length_cons]; omega
    · have ha : a ∈ m := by
        rcases List.mem_cons.1 (h a (List.mem_cons_self ..)) with e' | e'
        · exact absurd e' e
        · exact e'
      have hb := m1 a ha
      have := rise_le hl m2 fun x hx => by
        rcases List.mem_cons.1 (h x hx) with e' | e'
        · rcases List.mem_cons.1 hx with e2 | e2
          · subst e2; exact ha
          · have := l1 x e2; omega
        · exact e'
      simp only [List.length_cons] at this ⊢; omega
theorem cuts_mem (cs : List Cnd) (x : Fct) : Rise (cutsOf cs x) ∧ ∀ n, n ∈ cutsOf cs x ↔ n = x.2.1 ∨ n ∈ cutN x cs := by
  obtain ⟨h1, h2⟩ := sc_rise (x.2.1 :: cutN x cs)
  exact ⟨h1, fun n => by rw [show cutsOf cs x = compL (sortL (x.2.1 :: cutN x cs)) from rfl, h2, List.mem_cons]⟩
theorem cuts_ne (cs : List Cnd) (x : Fct) : cutsOf cs x ≠ [] := fun e => by
  have := (cuts_mem cs x).2 x.2.1
  rw [e] at this
  simp at this
theorem cutN_mem {x : Fct} {cs : List Cnd} {n : Int} : n ∈ cutN x cs ↔ (∃ c ∈ cs, ∃ t ∈ c, t.2.2.2.1 = x.1 ∧ n ∈ partsL t) ∧ x.2.1 < n ∧ n ≤ x.2.2 := by
  unfold cutN cutT
  simp only [List.mem_flatMap]
  constructor
  · rintro ⟨c, hc, t, ht, hn⟩
    cases hd : decide (t.2.2.2.1 = x.1) with
    | false => rw [hd] at hn; simp at hn
    | true =>
      rw [hd] at hn
      simp only [cond_true, List.mem_filter] at hn
      obtain ⟨h1, h2⟩ := hn
      unfold inS at h2
      simp only [Bool.and_eq_true, decide_eq_true_eq] at h2
      exact ⟨⟨c, hc, t, ht, of_decide_eq_true hd, h1⟩, h2.1, h2.2⟩
  · rintro ⟨⟨c, hc, t, ht, e, h1⟩, h2, h3⟩
    refine ⟨c, hc, t, ht, ?_⟩
    rw [decide_eq_true e]
    simp only [cond_true, List.mem_filter]
    exact ⟨h1, by unfold inS; simp [h2, h3]⟩
theorem cutN_len (x : Fct) (cs : List Cnd) (hc : cs.length ≤ 100) (ht : ∀ c ∈ cs, List.length c ≤ 1000) : (cutN x cs).length ≤ 200000 := by
  have := flat_len (fun c : Cnd => c.flatMap (cutT x)) 2000 cs (fun c hc => by
    have h1 := flat_len (cutT x) 2 c (fun t _ => cutT_len x t)
    have h2 := ht c hc
    omega)
  unfold cutN; omega
theorem compact_le (xs : List Int) : (compL xs).length ≤ xs.length := by
  unfold compL Lib.compact Lib.compactUpTo
  rw [List.length_map]
  exact Nat.le_trans (List.length_filter_le _ _) (by simp)
theorem cuts_len (x : Fct) (cs : List Cnd) (hc : cs.length ≤ 100) (ht : ∀ c ∈ cs, List.length c ≤ 1000) : (cutsOf cs x).length ≤ 200001 := by
  have h1 := compact_le (sortL (x.2.1 :: cutN x cs))
  have h2 := sortL_len (x.2.1 :: cutN x cs)
  have h3 := cutN_len x cs hc ht
  unfold cutsOf
  simp only [List.length_cons] at h2
  omega
theorem cuts_le {cs : List Cnd} {x y : Fct} (h : fitB x y = true) : (cutsOf cs y).length ≤ (cutsOf cs x).length := by
  unfold fitB at h
  simp only [Bool.and_eq_true, decide_eq_true_eq] at h
  obtain ⟨e, h1, h2, h3⟩ := h
  obtain ⟨r1, m1⟩ := cuts_mem cs y
  obtain ⟨r2, m2⟩ := cuts_mem cs x
  -- without the least one
  have tl : ∀ {z : Fct}, ∃ t, cutsOf cs z = z.2.1 :: t ∧ ∀ n, n ∈ t ↔ n ∈ cutN z cs := by
    intro z
    obtain ⟨r, m⟩ := cuts_mem cs z
    cases hz : cutsOf cs z with
    | nil => exact absurd hz (cuts_ne cs z)
    | cons a t =>
      rw [hz] at r m
      obtain ⟨p1, p2⟩ := List.pairwise_cons.1 r
      have hlo : ∀ n, n ∈ cutN z cs → z.2.1 < n := fun n hn => (cutN_mem.1 hn).2.1
      have ha : a = z.2.1 := by
        rcases (m a).1 (List.mem_cons_self ..) with e | e
        · exact e
        · have h1 := hlo a e
          rcases List.mem_cons.1 ((m z.2.1).2 (.inl rfl)) with e' | e'
          · exact e'.symm
          · have := p1 _ e'; omega
      subst ha
      refine ⟨t, rfl, fun n => ⟨fun hn => ?_, fun hn => ?_⟩⟩
      · rcases (m n).1 (List.mem_cons_of_mem _ hn) with e | e
        · subst e; exact absurd (p1 _ hn) (Int.lt_irrefl _)
        · exact e
      · rcases List.mem_cons.1 ((m n).2 (.inr hn)) with e | e
        · subst e; exact absurd (hlo _ hn) (Int.lt_irrefl _)
        · exact e
  obtain ⟨t1, e1, n1⟩ := tl (z := y)
  obtain ⟨t2, e2, n2⟩ := tl (z := x)
  rw [e1] at r1
  rw [e2] at r2
  rw [e1, e2]
  have := rise_le (List.pairwise_cons.1 r1).2 (List.pairwise_cons.1 r2).2 fun n hn => by
    rw [n2, cutN_mem]
    obtain ⟨⟨c, hc, t, ht, e', hp⟩, h4, h5⟩ := cutN_mem.1 ((n1 n).1 hn)
    exact ⟨⟨c, hc, t, ht, by rw [e', e], hp⟩, by omega, by omega⟩
  simp only [List.length_cons]; omega
theorem fit_iff {f g : List Fct} (h : fitS f g = true) : f.length = g.length ∧ ∀ (i : Nat) (x y : Fct), f[i]? = some x → g[i]? = some y → fitB x y = true := by
  unfold fitS at h
  simp only [Bool.and_eq_true, decide_eq_true_eq, List.all_eq_true] at h
  refine ⟨h.1, fun i x y hx hy => h.2 (x, y) (List.mem_of_getElem? (i := i) ?_)⟩
  rw [List.getElem?_zip_eq_some]
  exact ⟨hx, hy⟩
theorem prod_le : ∀ {l m : List (List Int)}, l.length = m.length → (∀ (i : Nat) (x y : List Int), l[i]? = some x → m[i]? = some y → x.length ≤ y.length) → prodL l ≤ prodL m
  | [], [], _, _ => Nat.le_refl _
  | x :: l, y :: m, h, hh => Nat.mul_le_mul (hh 0 x y rfl rfl) (prod_le (by simpa using h) fun i a b ha hb => hh (i + 1) a b (by simpa using ha) (by simpa using hb))
  | [], _ :: _, h, _ => by simp at h
  | _ :: _, [], h, _ => by simp at h
theorem VC.cl {c : Cd} (h : VC c) : (condsL c.2.2).length ≤ 100 := by rw [conds_len]; have := h.ll; omega
theorem VC.cs {c : Cd} (h : VC c) : ∀ x ∈ condsL c.2.2, List.length x ≤ 1000 := conds_short h.rs
theorem starts_ne (f : List Fct) (cs : List Cnd) : ∀ x ∈ startsL f cs, x ≠ [] := by
  intro x hx
  unfold startsL at hx
  obtain ⟨y, _, rfl⟩ := List.mem_map.1 hx
  exact cuts_ne cs y
theorem starts_get {f : List Fct} {cs : List Cnd} {i : Nat} {x : List Int} (h : (startsL f cs)[i]? = some x) : ∃ y, f[i]? = some y ∧ x = cutsOf cs y := by
  unfold startsL at h
  rw [List.getElem?_map] at h
  cases hf : f[i]? with
  | none => rw [hf] at h; cases h
  | some y => rw [hf] at h; cases h; exact ⟨y, rfl, rfl⟩
theorem VC.prod {c : Cd} (h : VC c) : prodL (startsL c.2.1 (condsL c.2.2)) ≤ 4000 := by
  have := many_prod (startsL c.2.1 (condsL c.2.2)) 1 (fun x hx => ⟨starts_ne _ _ x hx, by
    unfold startsL at hx
    obtain ⟨y, _, rfl⟩ := List.mem_map.1 hx
    have := cuts_len y (condsL c.2.2) h.cl h.cs
    omega⟩) (by omega) (by omega) h.mn
  omega
structure VF (c : Cd) (f : List Fct) : Prop where
  ln : f.length = c.2.1.length
  cs : (choL (startsL f (condsL c.2.2))).length ≤ 4000
  fit : ∀ (i : Nat) (x y : Fct), c.2.1[i]? = some x → f[i]? = some y → fitB x y = true
theorem VF.of {c : Cd} (h : VC c) {f : List Fct} (hf : fitS c.2.1 f = true) : VF c f := by
  obtain ⟨h1, h2⟩ := fit_iff hf
  refine ⟨h1.symm, ?_, h2⟩
  rw [choL_len]
  refine Nat.le_trans (prod_le (m := startsL c.2.1 (condsL c.2.2)) (by simp [startsL, h1]) fun i x y hx hy => ?_) h.prod
  obtain ⟨u, hu, rfl⟩ := starts_get hx
  obtain ⟨w, hw, rfl⟩ := starts_get hy
  exact cuts_le (h2 i w u hw hu)
theorem fitB_self {x : Fct} (h : x.2.1 ≤ x.2.2) : fitB x x = true := by unfold fitB; simp [h]
theorem VC.fact {c : Cd} (h : VC c) {i : Nat} {x : Fct} (hx : c.2.1[i]? = some x) : nmB x.1 = true ∧ (c.2.1.take i).any (fun y => decide (y.1 = x.1)) = false ∧ -1000000000000 ≤ x.2.1 ∧ x.2.1 ≤ x.2.2 ∧ x.2.2 ≤ 1000000000000 := by
  have := scan_none h.fs i x hx
  rw [Nat.zero_add] at this
  unfold factS at this
  cases h1 : !nmB x.1 || (c.2.1.take i).any fun y => decide (y.1 = x.1) with
  | true => rw [h1] at this; cases this
  | false =>
    rw [h1] at this
    simp only [Bool.or_eq_false_iff, Bool.not_eq_false'] at h1
    cases h2 : spanB x with
    | false => rw [h2] at this; cases this
    | true => unfold spanB at h2; exact ⟨h1.1, h1.2, of_decide_eq_true h2⟩
theorem VF.self {c : Cd} (h : VC c) : VF c c.2.1 := ⟨rfl, by rw [choL_len]; exact h.prod, fun i x y hx hy => by
  rw [hx] at hy; cases hy
  exact fitB_self (h.fact hx).2.2.2.1⟩
theorem cho_len : ∀ {l : List (List Int)} {v : List Int}, v ∈ choL l → v.length = l.length
  | [], v, h => by simp [choL] at h; subst h; rfl
  | x :: l, v, h => by
    simp only [choL, List.mem_flatMap, List.mem_map] at h
    obtain ⟨n, _, u, hu, rfl⟩ := h
    simp [cho_len hu]
theorem VF.vlen {c : Cd} {f : List Fct} (h : VF c f) {v : List Int} (hv : v ∈ casesL c f) : v.length = c.2.1.length := by
  rw [cho_len hv]; simp [startsL, h.ln]
end Go.K
set_option linter.unusedVariables false
set_option linter.unusedSimpArgs false
set_option maxRecDepth 100000
namespace Go.K
open Go.Sl Go.Sx Go.Proofs
theorem scan_all {σ : Type} (p : σ → Bool) : ∀ (l : List σ) (i : Nat), (scan (fun x _ => bif p x then none else some false) l i).getD true = l.all p
  | [], _ => rfl
  | x :: l, i => by
    simp only [scan, List.all_cons]
    cases p x with
    | true => simp only [cond_true, Bool.true_and]; exact scan_all p l (i + 1)
    | false => rfl
theorem starts_len (f : List Fct) (cs : List Cnd) : (startsL f cs).length = f.length := by simp [startsL]
theorem starts_cl (f : List Fct) {c : Cd} (h : VC c) : ∀ x ∈ startsL f (condsL c.2.2), x.length < LF := by
  intro x hx
  unfold startsL at hx
  obtain ⟨y, _, rfl⟩ := List.mem_map.1 hx
  have := cuts_len y (condsL c.2.2) h.cl h.cs
  show (cutsOf (condsL c.2.2) y).length < 9223372036854775808; omega
end Go.K
set_option linter.unusedVariables false
set_option linter.unusedSimpArgs false
set_option maxRecDepth 100000
namespace Go.K
open Go.Sl Go.Sx Go.Proofs
theorem VF.prod {c : Cd} {f : List Fct} (h : VF c f) : prodL (startsL f (condsL c.2.2)) ≤ 4000 := by rw [← choL_len]; exact h.cs
def allBut (l : List Bool) (k : Int) : Bool := (scan (fun x i => bif !x && !decide ((i : Int) = k) then some false else none) l 0).isNone
theorem G28_all (l : List Bool) (k : Int) (hl : l.length < LF) : G28 LF (l, k) = some (allBut l k) := by
  unfold G28 allBut
  refine (iter_scan (fun (x : Bool) i => bif !x && !decide ((i : Int) = k) then some false else none) l (some true) ?_ ?_ hl).trans ?_
  · intro i x hx _
    have hi := lt_of_get hx
    simp only [dlt hi, cond_true, getI_nat hx, Option.bind_some, succ_W (Nat.lt_of_le_of_lt hi hl)]
    cases x with
    | true => rfl
    | false => cases decide ((i : Int) = k) <;> rfl
  · intro _
    simp only [dnlt]; rfl
  · have key : ∀ (l : List Bool) (i : Nat) (e : Bool), scan (fun (x : Bool) i => bif !x && !decide ((i : Int) = k) then some false else none) l i = some e → e = false := by
      intro l
      induction l with
      | nil => intro i e h; cases h
      | cons x l ih =>
        intro i e h
        simp only [scan] at h
        cases hc : (!x && !decide ((i : Int) = k)) with
        | true => rw [hc] at h; cases h; rfl
        | false => rw [hc] at h; exact ih _ _ h
    cases h : scan (fun (x : Bool) i => bif !x && !decide ((i : Int) = k) then some false else none) l 0 with
    | none => rfl
    | some e => rw [key l 0 e h]; rfl
end Go.K
namespace Go.K
theorem sane_true : G22 LF () = some true := by kernel_rfl
end Go.K
set_option linter.unusedVariables false
set_option linter.unusedSimpArgs false
set_option maxRecDepth 100000
namespace Go.K
open Go.Sl Go.Sx Go.Proofs
theorem cho_get : ∀ {l : List (List Int)} {v : List Int}, v ∈ choL l → ∀ {i : Nat} {n : Int}, v[i]? = some n → ∃ x, l[i]? = some x ∧ n ∈ x
  | [], v, h, i, n, hn => by simp [choL] at h; subst h; simp at hn
  | x :: l, v, h, i, n, hn => by
    simp only [choL, List.mem_flatMap, List.mem_map] at h
    obtain ⟨m, hm, u, hu, rfl⟩ := h
    cases i with
    | zero => simp at hn; subst hn; exact ⟨x, rfl, hm⟩
    | succ i =>
      obtain ⟨y, h1, h2⟩ := cho_get hu (i := i) (n := n) (by simpa using hn)
      exact ⟨y, by simpa using h1, h2⟩
theorem cut_in {cs : List Cnd} {x : Fct} (hx : x.2.1 ≤ x.2.2) {n : Int} (h : n ∈ cutsOf cs x) : x.2.1 ≤ n ∧ n ≤ x.2.2 := by
  rcases ((cuts_mem cs x).2 n).1 h with e | e
  · subst e; exact ⟨Int.le_refl _, hx⟩
  · obtain ⟨_, h1, h2⟩ := cutN_mem.1 e
    exact ⟨by omega, h2⟩
theorem VF.le {c : Cd} {f : List Fct} (h : VF c f) {i : Nat} {x : Fct} (hx : f[i]? = some x) : x.2.1 ≤ x.2.2 := by
  have hi := lt_of_get hx
  have hl := h.ln
  have := h.fit i _ x (List.getElem?_eq_getElem (show i < c.2.1.length by omega)) hx
  unfold fitB at this
  simp only [Bool.and_eq_true, decide_eq_true_eq] at this
  exact this.2.2.1
theorem VF.vin {c : Cd} {f : List Fct} (h : VF c f) {v : List Int} (hv : v ∈ casesL c f) {i : Nat} {x : Fct} {n : Int} (hx : f[i]? = some x) (hn : v[i]? = some n) : x.2.1 ≤ n ∧ n ≤ x.2.2 := by
  obtain ⟨y, h1, h2⟩ := cho_get hv hn
  obtain ⟨z, h3, rfl⟩ := starts_get h1
  rw [hx] at h3
  cases h3
  exact cut_in (h.le hx) h2
end Go.K
set_option linter.unusedVariables false
set_option linter.unusedSimpArgs false
set_option maxRecDepth 100000
namespace Go.K
open Go.Sl Go.Sx Go.Proofs
def near1 (l : List Int) (n m : Int) : Prop := m ∈ l ∧ m ≤ n ∧ ∀ k ∈ l, k ≤ n → k ≤ m
theorem near_ex : ∀ {l : List Int} {n : Int}, (∃ k ∈ l, k ≤ n) → ∃ m, near1 l n m
  | [], _, ⟨_, h, _⟩ => by cases h
  | a :: l, n, h => by
    by_cases hl : ∃ k ∈ l, k ≤ n
    · obtain ⟨m, h1, h2, h3⟩ := near_ex hl
      by_cases ha : a ≤ n ∧ m < a
      · exact ⟨a, List.mem_cons_self .., ha.1, fun k hk hkn => by
          rcases List.mem_cons.1 hk with e | e
          · omega
          · have := h3 k e hkn; omega⟩
      · exact ⟨m, List.mem_cons_of_mem _ h1, h2, fun k hk hkn => by
          rcases List.mem_cons.1 hk with e | e
          · subst e; omega
          · exact h3 k e hkn⟩
    · obtain ⟨k, hk, hkn⟩ := h
      rcases List.mem_cons.1 hk with e | e
      · subst e
        exact ⟨k, List.mem_cons_self .., hkn, fun q hq hqn => by
          rcases List.mem_cons.1 hq with e | e
          · omega
          · exact absurd ⟨q, e, hqn⟩ hl⟩
      · exact absurd ⟨k, e, hkn⟩ hl
theorem cho_ex : ∀ {ls : List (List Int)} {v : List Int} (Q : Nat → Int → Int → Prop), v.length = ls.length → (∀ i x n, ls[i]? = some x → v[i]? = some n → ∃ m ∈ x, Q i n m) →
    ∃ w ∈ choL ls, w.length = v.length ∧ ∀ i n m, v[i]? = some n → w[i]? = some m → Q i n m
  | [], [], Q, _, _ => ⟨[], by simp [choL], rfl, fun i n m h => by simp at h⟩
  | x :: ls, n :: v, Q, hl, h => by
    obtain ⟨m, hm, hq⟩ := h 0 x n rfl rfl
    obtain ⟨w, hw, hwl, hww⟩ := cho_ex (ls := ls) (v := v) (fun i => Q (i + 1)) (by simpa using hl) (fun i y k hy hk => h (i + 1) y k (by simpa using hy) (by simpa using hk))
    refine ⟨m :: w, ?_, by simp [hwl], fun i a b ha hb => ?_⟩
    · simp only [choL, List.mem_flatMap, List.mem_map]
      exact ⟨m, hm, w, hw, rfl⟩
    · cases i with
      | zero => simp at ha hb; subst ha hb; exact hq
      | succ i => exact hww i a b (by simpa using ha) (by simpa using hb)
  | [], _ :: _, _, h, _ => by simp at h
  | _ :: _, [], _, h, _ => by simp at h
def Near (c : Cd) (f : List Fct) (v w : List Int) : Prop := w.length = v.length ∧ ∀ (i : Nat) (x : Fct) (n m : Int), f[i]? = some x → v[i]? = some n → w[i]? = some m → near1 (cutsOf (condsL c.2.2) x) n m
def In (f : List Fct) (v : List Int) : Prop := v.length = f.length ∧ ∀ (i : Nat) (x : Fct) (n : Int), f[i]? = some x → v[i]? = some n → x.2.1 ≤ n ∧ n ≤ x.2.2
theorem cell_ex {c : Cd} {f : List Fct} {v : List Int} (hv : In f v) : ∃ w ∈ casesL c f, Near c f v w := by
  obtain ⟨w, h1, h2, h3⟩ := cho_ex (ls := startsL f (condsL c.2.2)) (v := v) (fun i n m => ∀ x, f[i]? = some x → near1 (cutsOf (condsL c.2.2) x) n m) (by rw [starts_len]; exact hv.1) (fun i x n hx hn => by
    obtain ⟨y, hy, rfl⟩ := starts_get hx
    obtain ⟨b1, b2⟩ := hv.2 i y n hy hn
    obtain ⟨m, hm⟩ := near_ex (l := cutsOf (condsL c.2.2) y) (n := n) ⟨y.2.1, ((cuts_mem _ y).2 _).2 (.inl rfl), b1⟩
    exact ⟨m, hm.1, fun z hz => by rw [hy] at hz; cases hz; exact hm⟩)
  exact ⟨w, h1, h2, fun i x n m hx hn hm => h3 i n m hn hm x hx⟩
theorem cut_side {cs : List Cnd} {x : Fct} {n m : Int} (hx : x.2.1 ≤ n ∧ n ≤ x.2.2) (h : near1 (cutsOf cs x) n m) {cd : Cnd} {t : Tm} (hc : cd ∈ cs) (ht : t ∈ cd) (hn : t.2.2.2.1 = x.1) {k : Int} (hk : k ∈ partsL t) : n < k ↔ m < k := by
  obtain ⟨h1, h2, h3⟩ := h
  have hlo : x.2.1 ≤ m := h3 _ (((cuts_mem cs x).2 _).2 (.inl rfl)) hx.1
  by_cases hk1 : x.2.1 < k
  · by_cases hk2 : k ≤ x.2.2
    · have hmem : k ∈ cutsOf cs x := ((cuts_mem cs x).2 k).2 (.inr (cutN_mem.2 ⟨⟨cd, hc, t, ht, hn, hk⟩, hk1, hk2⟩))
      constructor
      · intro h; omega
      · intro h
        by_cases hkn : k ≤ n
        · have := h3 k hmem hkn; omega
        · omega
    · omega
  · omega
theorem Near.term {c : Cd} (h : VC c) {f : List Fct} (hf : VF c f) {v w : List Int} (hv : In f v) (hw : Near c f v w) {cd : Cnd} (hc : cd ∈ condsL c.2.2) (hcd : condE c.2.1 cd = 0) {i : Nat} {t : Tm} (ht : cd[i]? = some t) (l : List Bool) : tmSo c.2.1 v t l = tmSo c.2.1 w t l := by
  obtain ⟨c1, c2, c3⟩ := cond_short hcd
  have hs := c3 i t ht
  have hkd := term_kd hs
  obtain ⟨hshp, hsh2⟩ := term_ok hs
  have htm := List.mem_of_getElem? ht
  cases hkd with
  | tru => rfl
  | neg _ => rfl
  | bin h0 _ _ => rcases h0 with rfl | rfl <;> rfl
  | cmp h1 h2 =>
    rename_i k a b s n
    obtain ⟨p, hp, hpl, x, hx, hxs⟩ := plF_get h2
    have hfl := hf.ln
    have hvl := hv.1
    have hwl := hw.1
    have hfp : f[p]? = some f[p] := List.getElem?_eq_getElem (by omega)
    have hname : x.1 = f[p].1 := by
      have := hf.fit p x f[p] hx hfp
      unfold fitB at this
      simp only [Bool.and_eq_true, decide_eq_true_eq] at this
      exact this.1
    have hvp : v[p]? = some v[p] := List.getElem?_eq_getElem (by omega)
    have hwp : w[p]? = some w[p] := List.getElem?_eq_getElem (by omega)
    have hin := hv.2 p _ _ hfp hvp
    have hne := hw.2 p _ _ _ hfp hvp hwp
    have hside : ∀ q, q ∈ partsL (k, (a, (b, (s, n)))) → (v[p] < q ↔ w[p] < q) := fun q hq => cut_side hin hne hc htm (by show s = f[p].1; rw [← hname, hxs]) hq
    have gv : v.getD (plF c.2.1 s).toNat 0 = v[p] := by rw [hp, Int.toNat_natCast, List.getD_eq_getElem?_getD, hvp]; rfl
    have gw : w.getD (plF c.2.1 s).toNat 0 = w[p] := by rw [hp, Int.toNat_natCast, List.getD_eq_getElem?_getD, hwp]; rfl
    have hnb : -1000000000000 ≤ n ∧ n ≤ 1000000000000 := by
      unfold shp at hshp
      simp only at hshp
      rw [if_neg (by omega), if_pos (by omega), decide_eq_true_eq] at hshp
      exact hshp.2.2
    have hw1 : w64 (n + 1) = n + 1 := w64_in (by omega)
    unfold tmSo
    simp only [gv, gw]
    rcases h1 with rfl | rfl | rfl
    · have := hside n (by simp [partsL])
      rw [if_neg (by decide), if_pos rfl, if_neg (by decide), if_pos rfl]
      exact decide_eq_decide.2 this
    · have := hside (n + 1) (by simp [partsL, hw1])
      rw [if_neg (by decide), if_neg (by decide), if_pos rfl, if_neg (by decide), if_neg (by decide), if_pos rfl]
      exact decide_eq_decide.2 (by omega)
    · have e1 := hside n (by simp [partsL])
      have e2 := hside (n + 1) (by simp [partsL, hw1])
      rw [if_neg (by decide), if_neg (by decide), if_neg (by decide), if_pos rfl, if_neg (by decide), if_neg (by decide), if_neg (by decide), if_pos rfl]
      exact decide_eq_decide.2 (by omega)
theorem Near.so {c : Cd} (h : VC c) {f : List Fct} (hf : VF c f) {v w : List Int} (hv : In f v) (hw : Near c f v w) {cd : Cnd} (hc : cd ∈ condsL c.2.2) (hcd : condE c.2.1 cd = 0) : soB c.2.1 v cd = soB c.2.1 w cd := by
  unfold soB soL
  congr 1
  have key : ∀ (m : Cnd), (∀ t ∈ m, t ∈ cd) → ∀ l, m.foldl (fun l t => l ++ [tmSo c.2.1 v t l]) l = m.foldl (fun l t => l ++ [tmSo c.2.1 w t l]) l := by
    intro m
    induction m with
    | nil => intro _ l; rfl
    | cons t m ih =>
      intro hs l
      obtain ⟨i, hi⟩ := List.mem_iff_getElem?.1 (hs t (List.mem_cons_self ..))
      rw [List.foldl_cons, List.foldl_cons, hw.term h hf hv hc hcd hi, ih (fun q hq => hs q (List.mem_cons_of_mem _ hq))]
  exact key cd (fun _ h => h) []
theorem conds_mem {l : List Rl} {r : Rl} (h : r ∈ l) : r.2.2.2.1 ∈ condsL l ∧ r.2.2.2.2.1 ∈ condsL l := by
  unfold condsL
  exact ⟨List.mem_flatMap.2 ⟨r, h, List.mem_cons_self ..⟩, List.mem_flatMap.2 ⟨r, h, List.mem_cons_of_mem _ (List.mem_cons_self ..)⟩⟩
theorem VC.conds {c : Cd} (h : VC c) {r : Rl} (hr : r ∈ c.2.2) : condE c.2.1 r.2.2.2.1 = 0 ∧ condE c.2.1 r.2.2.2.2.1 = 0 := by
  obtain ⟨i, hi⟩ := List.mem_iff_getElem?.1 hr
  obtain ⟨_, _, _, h1, h2, _⟩ := h.rule hi
  exact ⟨h1, h2⟩
theorem Near.binds {c : Cd} (h : VC c) {f : List Fct} (hf : VF c f) {v w : List Int} (hv : In f v) (hw : Near c f v w) (d : Int) : bindsL c d v = bindsL c d w := by
  unfold bindsL
  have key : ∀ (m : List Rl), (∀ r ∈ m, r ∈ c.2.2) → ∀ out, nbL c.2.1 c.2.2 d v m out = nbL c.2.1 c.2.2 d w m out := by
    intro m
    induction m with
    | nil => intro _ out; rfl
    | cons r m ih =>
      intro hs out
      have hr := hs r (List.mem_cons_self ..)
      have e : bindB c.2.1 c.2.2 d v r out = bindB c.2.1 c.2.2 d w r out := by
        unfold bindB
        rw [hw.so h hf hv (conds_mem hr).1 (h.conds hr).1]
      simp only [nbL, e]
      rw [ih (fun q hq => hs q (List.mem_cons_of_mem _ hq))]
  exact key c.2.2 (fun _ h => h) []
theorem Near.kept {c : Cd} (h : VC c) {f : List Fct} (hf : VF c f) {v w : List Int} (hv : In f v) (hw : Near c f v w) (d : Int) : keptL c d v = keptL c d w := by
  unfold keptL
  rw [hw.binds h hf hv d]
  have key : ∀ (m : List Rl), (∀ r ∈ m, r ∈ c.2.2) → ∀ bs : List Bool, List.zipWith (fun b (r : Rl) => !b || soB c.2.1 v r.2.2.2.2.1) bs m = List.zipWith (fun b (r : Rl) => !b || soB c.2.1 w r.2.2.2.2.1) bs m := by
    intro m
    induction m with
    | nil => intro _ bs; simp
    | cons r m ih =>
      intro hs bs
      have hr := hs r (List.mem_cons_self ..)
      cases bs with
      | nil => rfl
      | cons b bs =>
        simp only [List.zipWith_cons_cons]
        rw [hw.so h hf hv (conds_mem hr).2 (h.conds hr).2, ih (fun q hq => hs q (List.mem_cons_of_mem _ hq))]
  exact key c.2.2 (fun _ h => h) _
theorem cases_in {c : Cd} {f : List Fct} (hf : VF c f) {v : List Int} (hv : v ∈ casesL c f) : In f v := ⟨by rw [hf.vlen hv, hf.ln], fun i x n hx hn => hf.vin hv hx hn⟩
end Go.K
set_option linter.unusedVariables false
set_option linter.unusedSimpArgs false
set_option maxRecDepth 100000
namespace Go.K
open Go.Sl Go.Sx Go.Proofs
def dayR (r : Rl) : List Int := r.2.1 :: if r.2.2.1 < 100000 then [w64 (r.2.2.1 + 1)] else []
theorem dayR_len (r : Rl) : (dayR r).length ≤ 2 := by unfold dayR; split <;> simp
theorem daysL_eq (l : List Rl) : daysL l = compL (sortL (0 :: l.flatMap dayR)) := rfl
theorem days_len (l : List Rl) : (daysL l).length ≤ 2 * l.length + 1 := by
  have h1 := compact_le (sortL (0 :: l.flatMap dayR))
  have h2 := sortL_len (0 :: l.flatMap dayR)
  have h3 := flat_len dayR 2 l (fun r _ => dayR_len r)
  rw [daysL_eq]
  simp only [List.length_cons] at h2
  omega
theorem G127_days (c : Cd) (hl : c.2.2.length ≤ 1000) : G127 LF c = some (daysL c.2.2) := by
  unfold G127
  refine (iter_app (fun i a => (a, i)) dayR c.2.2 (fun a => some (compL (sortL a))) 2 (fun r _ => dayR_len r) [0] ?_ ?_ (by show c.2.2.length < 9223372036854775808; omega)).trans ?_
  · intro i r a hr ha hi
    simp only [List.length_singleton] at ha
    simp only [dlt hi, cond_true, getI_nat hr, Option.bind_some, appC_of (show a.length + [r.2.1].length ≤ 1099511627776 by simp; omega), succ_W (show i + 1 < 9223372036854775808 by omega)]
    unfold dayR
    by_cases h : r.2.2.1 < 100000
    · simp only [decide_eq_true h, cond_true, if_pos h, appC_of (show (a ++ [r.2.1]).length + [w64 (r.2.2.1 + 1)].length ≤ 1099511627776 by simp; omega), Option.bind_some]
      simp
    · simp only [decide_eq_false h, cond_false, if_neg h]
  · intro a ha
    simp only [List.length_singleton] at ha
    have h1 : a.length ≤ 1099511627776 := by omega
    have h2 : (sortL a).length ≤ 1099511627776 := by rw [← sortL_len]; exact h1
    simp only [dnlt, cond_false, ltC_of h1, ltC_of h2, Option.bind_some]
  · rfl
def alo (l : List Bool) (i : Nat) : Bool := !l.getD i true && allBut l (i : Int)
theorem allBut_iff (l : List Bool) (i : Nat) : allBut l (i : Int) = true ↔ ∀ (j : Nat) (b : Bool), l[j]? = some b → j ≠ i → b = true := by
  unfold allBut
  have key : ∀ (m : List Bool) (k : Nat), (scan (fun (x : Bool) (q : Nat) => bif !x && !decide ((q : Int) = (i : Int)) then some false else none) m k).isNone = true ↔ ∀ (j : Nat) (b : Bool), m[j]? = some b → k + j ≠ i → b = true := by
    intro m
    induction m with
    | nil => intro k; simp [scan]
    | cons x m ih =>
      intro k
      simp only [scan]
      by_cases hk : k = i
      · subst hk
        simp only [decide_true, Bool.not_true, Bool.and_false, cond_false]
        rw [ih]
        constructor
        · intro h j b hj hne
          cases j with
          | zero => exact absurd rfl hne
          | succ j => exact h j b (by simpa using hj) (by omega)
        · intro h j b hj hne
          exact h (j + 1) b (by simpa using hj) (by omega)
      · have : decide ((k : Int) = (i : Int)) = false := decide_eq_false (by omega)
        rw [this]
        cases x with
        | true =>
          simp only [Bool.not_true, Bool.false_and, cond_false]
          rw [ih]
          constructor
          · intro h j b hj hne
            cases j with
            | zero => simp at hj; exact hj
            | succ j => exact h j b (by simpa using hj) (by omega)
          · intro h j b hj hne
            exact h (j + 1) b (by simpa using hj) (by omega)
        | false =>
          simp only [Bool.not_false, Bool.and_self, cond_true, Option.isNone_some, Bool.false_eq_true, false_iff]
          intro h
          have := h 0 false rfl (by omega)
          cases this
  have := key l 0
  simpa using this
theorem G133_alone (b l : List Bool) (i : Nat) (hi : i < l.length) (hl : l.length < LF) : G133 LF ((b, l), (i : Int)) = some (alo l i) := by
  unfold G133
  refine (iter_scan (fun (x : Bool) (j : Nat) => if x = decide (j = i) then some false else none) l (some true) ?_ ?_ hl).trans ?_
  · intro j x hx _
    have hj := lt_of_get hx
    have e : decide ((j : Int) = (i : Int)) = decide (j = i) := decide_eq_decide.2 (by omega)
    simp only [dlt hj, cond_true, getI_nat hx, Option.bind_some, e, succ_W (Nat.lt_of_le_of_lt hj hl)]
    by_cases h : x = decide (j = i) <;> simp [h]
  · intro _
    simp only [dnlt]; rfl
  · have key : ∀ (m : List Bool) (k : Nat), (scan (fun (x : Bool) (j : Nat) => if x = decide (j = i) then some false else none) m k = none ∨ scan (fun (x : Bool) (j : Nat) => if x = decide (j = i) then some false else none) m k = some false) ∧ (scan (fun (x : Bool) (j : Nat) => if x = decide (j = i) then some false else none) m k = none ↔ ∀ (j : Nat) (b : Bool), m[j]? = some b → b = !decide (k + j = i)) := by
      intro m
      induction m with
      | nil => intro k; simp [scan]
      | cons x m ih =>
        intro k
        simp only [scan]
        by_cases h : x = decide (k = i)
        · rw [if_pos h]
          refine ⟨.inr rfl, ?_⟩
          constructor
          · intro e; cases e
          · intro e
            have := e 0 x rfl
            rw [Nat.add_zero] at this
            rw [h] at this
            cases hd : decide (k = i) <;> rw [hd] at this <;> cases this
        · rw [if_neg h]
          refine ⟨(ih (k + 1)).1, ?_⟩
          rw [(ih (k + 1)).2]
          constructor
          · intro e j b hj
            cases j with
            | zero =>
              simp at hj; subst hj
              rw [Nat.add_zero]
              cases x <;> cases hd : decide (k = i) <;> simp_all
            | succ j =>
              have := e j b (by simpa using hj)
              rwa [show k + 1 + j = k + (j + 1) by omega] at this
          · intro e j b hj
            have := e (j + 1) b (by simpa using hj)
            rwa [show k + (j + 1) = k + 1 + j by omega] at this
    obtain ⟨k1, k2⟩ := key l 0
    have hval : alo l i = true ↔ scan (fun (x : Bool) (j : Nat) => if x = decide (j = i) then some false else none) l 0 = none := by
      rw [k2]
      unfold alo
      rw [Bool.and_eq_true, allBut_iff]
      constructor
      · rintro ⟨h1, h2⟩ j b hj
        rw [Nat.zero_add]
        by_cases e : j = i
        · subst e
          rw [List.getD_eq_getElem?_getD, hj] at h1
          simp at h1
          simp [h1]
        · rw [h2 j b hj e]; simp [e]
      · intro h
        refine ⟨?_, fun j b hj hne => ?_⟩
        · have := h i l[i] (List.getElem?_eq_getElem hi)
          rw [List.getD_eq_getElem?_getD, List.getElem?_eq_getElem hi]
          simp at this
          simp [this]
        · have := h j b hj
          rw [Nat.zero_add] at this
          simpa [hne] using this
    rcases k1 with e | e
    · rw [e]; rw [hval.2 e]
    · rw [e]
      cases ha : alo l i with
      | false => rfl
      | true => rw [hval.1 ha] at e; cases e
def witD (c : Cd) (i : Nat) (d : Int) : Option (List Int) := (casesL c c.2.1).find? fun v => alo (keptL c d v) i
def witS (c : Cd) (i : Nat) (d : Int) (_ : Nat) : Option ((Int × List Int) × Bool) := (witD c i d).map fun v => ((d, v), true)
def witA (c : Cd) (i : Nat) : (Int × List Int) × Bool := (scan (witS c i) (daysL c.2.2) 0).getD ((0, []), false)
theorem bind_out {c : Cd} (h : VC c) {i : Nat} {r : Rl} (hr : c.2.2[i]? = some r) {d : Int} (hd : ¬ (r.2.1 ≤ d ∧ d ≤ r.2.2.1)) (v : List Int) : (bindsL c d v).getD i true = false := by
  unfold bindsL
  have key : ∀ (m : List Rl) (j : Nat) (out : List Bool), m[j]? = some r → (nbL c.2.1 c.2.2 d v m out)[j]? = some false := by
    intro m
    induction m with
    | nil => intro j out hj; simp at hj
    | cons q m ih =>
      intro j out hj
      cases j with
      | zero =>
        simp at hj; subst hj
        simp only [nbL, List.getElem?_cons_zero]
        unfold bindB
        rw [decide_eq_false hd]; rfl
      | succ j =>
        simp only [nbL, List.getElem?_cons_succ]
        exact ih j _ (by simpa using hj)
  rw [List.getD_eq_getElem?_getD, key c.2.2 i [] hr]; rfl
theorem kept_get {c : Cd} {i : Nat} {r : Rl} (hr : c.2.2[i]? = some r) (d : Int) (v : List Int) : (keptL c d v)[i]? = some (!(bindsL c d v).getD i true || soB c.2.1 v r.2.2.2.2.1) := by
  have hi := lt_of_get hr
  have hb := bindsL_len c d v
  unfold keptL
  rw [List.getElem?_zipWith, hr, List.getElem?_eq_getElem (show i < (bindsL c d v).length by omega), List.getD_eq_getElem?_getD, List.getElem?_eq_getElem (show i < (bindsL c d v).length by omega)]
  rfl
theorem wit_out {c : Cd} (h : VC c) {i : Nat} {r : Rl} (hr : c.2.2[i]? = some r) {d : Int} (hd : ¬ (r.2.1 ≤ d ∧ d ≤ r.2.2.1)) : witD c i d = none := by
  unfold witD
  rw [List.find?_eq_none]
  intro v _
  have : (keptL c d v).getD i true = true := by rw [List.getD_eq_getElem?_getD, kept_get hr, bind_out h hr hd]; rfl
  unfold alo
  rw [this]
  simp
def wstep (c : Cd) (i : Nat) (d : Int) (v : List Int) (_ : Unit) : Unit ⊕ ((Int × List Int) × Bool) := if alo (keptL c d v) i then .inr ((d, v), true) else .inl ()
theorem go_wit (c : Cd) (i : Nat) (d : Int) : ∀ l : List (List Int), goS (wstep c i d) l () = match (l.find? fun v => alo (keptL c d v) i) with
    | some v => .inr ((d, v), true)
    | none => .inl ()
  | [] => rfl
  | v :: l => by
    simp only [goS, List.find?]
    unfold wstep
    cases alo (keptL c d v) i with
    | true => rfl
    | false => simp only [Bool.false_eq_true, if_false]; exact go_wit c i d l
theorem scan_some {σ ρ : Type} (g : σ → Nat → Option ρ) (l : List σ) (d : ρ) : (match scan g l 0 with | some e => some e | none => some d) = some ((scan g l 0).getD d) := getD_none _ _
theorem G132_wit {c : Cd} (h : VC c) {i : Nat} (hi : i < c.2.2.length) : G132 LF (c, (i : Int)) = some (witA c i) := by
  have hf := VF.self h
  have hfl := h.fl
  have hll := h.ll
  have hls := starts_len c.2.1 (condsL c.2.2)
  have hdl := days_len c.2.2
  unfold G132
  simp only [G127_days (c.1, (c.2.1, c.2.2)) (show c.2.2.length ≤ 1000 by omega), Option.bind_some]
  refine (iter_scan (witS c i) (daysL c.2.2) (some ((0, []), false)) ?_ ?_ (by show (daysL c.2.2).length < 9223372036854775808; omega)).trans (scan_some _ _ _)
  · intro k d hd _
    have hk := lt_of_get hd
    have hr : c.2.2[i]? = some c.2.2[i] := List.getElem?_eq_getElem hi
    have hk1 : w64 ((k : Int) + 1) = ((k + 1 : Nat) : Int) := succ_W (show k + 1 < 9223372036854775808 by omega)
    simp only [dlt hk, cond_true, getI_nat hd, getI_nat hr, Option.bind_some, G91_in, hk1]
    by_cases hin : c.2.2[i].2.1 ≤ d ∧ d ≤ c.2.2[i].2.2.1
    · simp only [decide_eq_true hin, Bool.not_true, cond_false, show G131 LF () = some () by rfl, Option.bind_some, G116_conds _ _ _ (show c.2.2.length ≤ 1000 by omega), G115_starts _ _ (show c.2.1.length ≤ 1000 by omega) (show (condsL c.2.2).length ≤ 1000 by have := h.cl; omega) h.cs, mkC_zer _ (show (startsL c.2.1 (condsL c.2.2)).length ≤ 1000 by omega)]
      refine (iter_odo (ρ := Int ⊕ ((Int × List Int) × Bool)) (fun i (_ : Unit) => i) (startsL c.2.1 (condsL c.2.2)) (starts_ne _ _) (fun v u => match wstep c i d v u with | .inl u => .inl u | .inr e => .inr (.inr e)) (fun _ _ => True) (fun _ => some (.inl ((k + 1 : Nat) : Int))) ?_ (fun _ _ _ _ _ _ _ _ => trivial) (by have := hf.cs; show _ < 9223372036854775808; omega) () trivial).trans ?_
      · intro q s n hq hv hn _
        have hvl := hf.vlen hv
        have hkl : (keptL c d (valsI (startsL c.2.1 (condsL c.2.2)) q)).length < LF := by rw [keptL_len]; exact h.ll'
        refine vals_of hq (show (startsL c.2.1 (condsL c.2.2)).length ≤ 1000 by omega) (fun a i hi => by simp only [castN_lt hi, cond_true]) ?_
        simp only [dnlt, cond_false]
        congr 1
        simp only [G130_judge (c := (c.1, (c.2.1, c.2.2))) h hvl, Option.bind_some, show G133 LF ((bindsL (c.1, (c.2.1, c.2.2)) d (valsI (startsL c.2.1 (condsL c.2.2)) q), keptL (c.1, (c.2.1, c.2.2)) d (valsI (startsL c.2.1 (condsL c.2.2)) q)), (i : Int)) = some (alo (keptL c d (valsI (startsL c.2.1 (condsL c.2.2)) q)) i) from G133_alone _ _ i (by rw [keptL_len]; exact hi) hkl]
        unfold wstep
        cases alo (keptL c d (valsI (startsL c.2.1 (condsL c.2.2)) q)) i with
        | true => rfl
        | false =>
          simp only [cond_false, Bool.false_eq_true, if_false]
          refine (adv_of hq (show (startsL c.2.1 (condsL c.2.2)).length ≤ 1000 by omega) (starts_cl c.2.1 h) _ _).trans ?_
          cases nxt (startsL c.2.1 (condsL c.2.2)) q with
          | some k' => rfl
          | none => rfl
      · have lift : ∀ l : List (List Int), goS (ρ := Int ⊕ ((Int × List Int) × Bool)) (fun v (u : Unit) => match wstep c i d v u with | .inl u => .inl u | .inr e => .inr (.inr e)) l () = match goS (wstep c i d) l () with | .inl u => .inl u | .inr e => .inr (.inr e) := by
          intro l
          induction l with
          | nil => rfl
          | cons v l ih =>
            simp only [goS]
            cases wstep c i d v () with
            | inl u => exact ih
            | inr e => rfl
        rw [lift, go_wit]
        unfold witS witD casesL
        cases ((choL (startsL c.2.1 (condsL c.2.2))).find? fun v => alo (keptL c d v) i) <;> rfl
    · simp only [decide_eq_false hin, Bool.not_false, cond_true]
      unfold witS
      rw [wit_out h hr hin]
      rfl
  · intro _
    simp only [dnlt]; rfl
def witR (c : Cd) (i : Int) : (Int × List Int) × Int :=
  if codeE c ≠ 0 then ((0, []), codeE c) else if 0 ≤ i ∧ i ≤ (c.2.2.length : Int) - 1 then (if (witA c i.toNat).2 then ((witA c i.toNat).1, 0) else ((0, []), 3)) else ((0, []), 47)
theorem G47_wit (c : Cd) (i : Int) : G47 LF (c, i) = some (witR c i) := by
  unfold G47 witR
  simp only [show G31 LF (c.1, (c.2.1, c.2.2)) = some (codeE c) from G31_code c, Option.bind_some]
  by_cases he : codeE c = 0
  · have h := VC.of he
    have hll := h.ll
    have hw : w64 ((c.2.2.length : Int) - 1) = (c.2.2.length : Int) - 1 := w64_in (by omega)
    simp only [he, decide_true, Bool.not_true, cond_false, G91_in, Option.bind_some, hw, ne_eq, not_true, if_false]
    by_cases hi : 0 ≤ i ∧ i ≤ (c.2.2.length : Int) - 1
    · rw [if_pos hi]
      obtain ⟨n, rfl⟩ := Int.eq_ofNat_of_zero_le hi.1
      simp only [decide_eq_true hi, Bool.not_true, cond_false, jl, decide_true, show G132 LF ((c.1, (c.2.1, c.2.2)), (n : Int)) = some (witA c n) from G132_wit h (by omega), Option.bind_some, Int.toNat_natCast]
      cases (witA c n).2 <;> rfl
    · rw [if_neg hi]
      simp only [decide_eq_false hi, Bool.not_false, cond_true, jl, show decide ((47 : Int) = 0) = false by rfl]
  · simp only [he, decide_false, Bool.not_false, cond_true, jl, ne_eq, not_false_eq_true, if_true]
end Go.K
set_option linter.unusedVariables false
set_option linter.unusedSimpArgs false
set_option maxRecDepth 100000
namespace Go.K
open Go.Sl Go.Sx Go.Proofs
def idlS (c : Cd) (_ : Rl) (i : Nat) : List Int := bif (witA c i).2 then [] else [(i : Int)]
def idlA (c : Cd) : List Int := foldI (fun r i a => a ++ idlS c r i) c.2.2 0 []
theorem idlS_len (c : Cd) (r : Rl) (i : Nat) : (idlS c r i).length ≤ 1 := by unfold idlS; cases (witA c i).2 <;> simp
theorem idl_len (c : Cd) : ∀ (l : List Rl) (i : Nat) (a : List Int), (foldI (fun r i a => a ++ idlS c r i) l i a).length ≤ a.length + l.length
  | [], _, _ => by simp [foldI]
  | r :: l, i, a => by
    have h1 := idl_len c l (i + 1) (a ++ idlS c r i)
    have h2 := idlS_len c r i
    simp only [foldI, List.length_cons]
    rw [List.length_append] at h1; omega
theorem G46_idle (c : Cd) : G46 LF c = some (if codeE c = 0 then (idlA c, 0) else ([], codeE c)) := by
  unfold G46
  simp only [show G31 LF (c.1, (c.2.1, c.2.2)) = some (codeE c) from G31_code c, Option.bind_some]
  by_cases he : codeE c = 0
  · have h := VC.of he
    have hll := h.ll
    simp only [he, decide_true, Bool.not_true, cond_false, if_true]
    refine (iter_foldI (fun i a => (a, i)) (fun (r : Rl) i a => a ++ idlS c r i) (fun i a => a.length ≤ i) c.2.2 (fun a => some (a, 0)) [] ?_ ?_ ?_ h.ll' (by simp)).trans rfl
    · intro i r a hr ha
      have hi := lt_of_get hr
      simp only [dlt hi, cond_true, show G132 LF ((c.1, (c.2.1, c.2.2)), (i : Int)) = some (witA c i) from G132_wit h hi, Option.bind_some, succ_W (show i + 1 < 9223372036854775808 by omega), appC_of (show a.length + [(i : Int)].length ≤ 1099511627776 by simp; omega)]
      unfold idlS
      cases (witA c i).2 <;> simp
    · intro i r a _ ha
      have := idlS_len c r i
      rw [List.length_append]; omega
    · intro a _
      simp only [dnlt]; rfl
  · simp only [he, decide_false, Bool.not_false, cond_true, if_false]
def valB (f : List Fct) (v : List Int) : Bool := decide (f.length = v.length) && (f.zip v).all fun p => decide (p.1.2.1 ≤ p.2 ∧ p.2 ≤ p.1.2.2)
theorem val_in {f : List Fct} {v : List Int} : valB f v = true ↔ In f v := by
  unfold valB In
  simp only [Bool.and_eq_true, decide_eq_true_eq, List.all_eq_true]
  constructor
  · rintro ⟨h1, h2⟩
    exact ⟨h1.symm, fun i x n hx hn => h2 (x, n) (List.mem_of_getElem? (i := i) (List.getElem?_zip_eq_some.2 ⟨hx, hn⟩))⟩
  · rintro ⟨h1, h2⟩
    refine ⟨h1.symm, fun p hp => ?_⟩
    obtain ⟨i, hi⟩ := List.mem_iff_getElem?.1 hp
    obtain ⟨a, b⟩ := List.getElem?_zip_eq_some.1 hi
    exact h2 i p.1 p.2 a b
theorem G129_val (c : Cd) (v : List Int) (hl : c.2.1.length < LF) : G129 LF (c, v) = some (valB c.2.1 v) := by
  unfold G129 valB
  by_cases he : c.2.1.length = v.length
  · have e1 : decide ((c.2.1.length : Int) = (v.length : Int)) = true := decide_eq_true (by omega)
    have hz : (c.2.1.zip v).length = c.2.1.length := by simp [he]
    simp only [e1, Bool.not_true, cond_false, decide_eq_true he, Bool.true_and]
    refine (iter_scan (fun (p : Fct × Int) _ => bif decide (p.1.2.1 ≤ p.2 ∧ p.2 ≤ p.1.2.2) then none else some false) (c.2.1.zip v) (some true) ?_ ?_ (by omega)).trans ?_
    · intro i p hp _
      obtain ⟨h1, h2⟩ := List.getElem?_zip_eq_some.1 hp
      have hi := lt_of_get h1
      simp only [dlt hi, cond_true, getI_nat h1, getI_nat h2, Option.bind_some, G91_in, succ_W (Nat.lt_of_le_of_lt hi hl)]
      cases decide (p.1.2.1 ≤ p.2 ∧ p.2 ≤ p.1.2.2) <;> rfl
    · intro _
      rw [hz]
      simp only [dnlt]; rfl
    · exact (getD_none _ _).trans (congrArg some (scan_all (fun p : Fct × Int => decide (p.1.2.1 ≤ p.2 ∧ p.2 ≤ p.1.2.2)) _ _))
  · have e1 : decide ((c.2.1.length : Int) = (v.length : Int)) = false := decide_eq_false (by omega)
    simp only [e1, Bool.not_false, cond_true, decide_eq_false he, Bool.false_and]
def chwR (c : Cd) (i d : Int) (v : List Int) : Int :=
  if codeE c ≠ 0 then codeE c else if 0 ≤ i ∧ i ≤ (c.2.2.length : Int) - 1 then (if (0 ≤ d ∧ d ≤ 100000) ∧ valB c.2.1 v = true ∧ alo (keptL c d v) i.toNat = true then 0 else 42) else 47
theorem G48_chw (c : Cd) (i d : Int) (v : List Int) : G48 LF (c, (i, (d, v))) = some (chwR c i d v) := by
  unfold G48 chwR
  simp only [show G31 LF (c.1, (c.2.1, c.2.2)) = some (codeE c) from G31_code c, Option.bind_some]
  by_cases he : codeE c = 0
  · have h := VC.of he
    have hll := h.ll
    have hw : w64 ((c.2.2.length : Int) - 1) = (c.2.2.length : Int) - 1 := w64_in (by omega)
    simp only [he, decide_true, Bool.not_true, cond_false, G91_in, Option.bind_some, hw, ne_eq, not_true, if_false]
    by_cases hi : 0 ≤ i ∧ i ≤ (c.2.2.length : Int) - 1
    · rw [if_pos hi]
      obtain ⟨n, rfl⟩ := Int.eq_ofNat_of_zero_le hi.1
      simp only [decide_eq_true hi, Bool.not_true, cond_false, jl, decide_true, Int.toNat_natCast]
      by_cases hd : 0 ≤ d ∧ d ≤ 100000
      · simp only [decide_eq_true hd, Bool.not_true, cond_false, G129_val (c.1, (c.2.1, c.2.2)) v h.fl', Option.bind_some]
        cases hv : valB c.2.1 v with
        | false => simp only [Bool.not_false, cond_true, jl]; rw [if_neg (fun e => by cases e.2.1)]
        | true =>
          have hvl := (val_in.1 hv).1
          have hkl : (keptL c d v).length < LF := by rw [keptL_len]; exact h.ll'
          simp only [Bool.not_true, cond_false, show G131 LF () = some () by rfl, G130_judge (c := (c.1, (c.2.1, c.2.2))) h hvl, Option.bind_some, show G133 LF ((bindsL (c.1, (c.2.1, c.2.2)) d v, keptL (c.1, (c.2.1, c.2.2)) d v), (n : Int)) = some (alo (keptL c d v) n) from G133_alone _ _ n (by rw [keptL_len]; show n < c.2.2.length; omega) hkl]
          cases alo (keptL c d v) n with
          | false => simp only [Bool.not_false, cond_true, jl]; rw [if_neg (fun e => by cases e.2.2)]
          | true => simp only [Bool.not_true, cond_false, jl]; simp [hd]
      · simp only [decide_eq_false hd, Bool.not_false, cond_true, jl]
        rw [if_neg (fun e => hd e.1)]
    · rw [if_neg hi]
      simp only [decide_eq_false hi, Bool.not_false, cond_true, jl, show decide ((47 : Int) = 0) = false by rfl]
  · simp only [he, decide_false, Bool.not_false, cond_true, jl, ne_eq, not_false_eq_true, if_true]
end Go.K
set_option linter.unusedVariables false
set_option linter.unusedSimpArgs false
set_option maxRecDepth 100000
namespace Go.K
open Go.Sl Go.Sx Go.Proofs
abbrev Cl := Int × (Int × (Int × List Int))
end Go.K
set_option linter.unusedVariables false
set_option linter.unusedSimpArgs false
set_option maxRecDepth 100000
namespace Go.K
open Go.Sl Go.Sx Go.Proofs
theorem find_mem {α : Type} {p : α → Bool} : ∀ {l : List α} {x : α}, l.find? p = some x → x ∈ l
  | y :: l, x, h => by
    rw [List.find?_cons] at h
    cases hp : p y with
    | true => rw [hp] at h; cases h; exact List.mem_cons_self ..
    | false => rw [hp] at h; exact List.mem_cons_of_mem _ (find_mem h)
theorem scan_mem {σ ρ : Type} {g : σ → Nat → Option ρ} : ∀ {l : List σ} {i : Nat} {e : ρ}, scan g l i = some e → ∃ x ∈ l, ∃ k, g x k = some e
  | x :: l, i, e, h => by
    simp only [scan] at h
    cases hg : g x i with
    | some e' => rw [hg] at h; cases h; exact ⟨x, List.mem_cons_self .., i, hg⟩
    | none =>
      rw [hg] at h
      obtain ⟨y, hy, k, hk⟩ := scan_mem h
      exact ⟨y, List.mem_cons_of_mem _ hy, k, hk⟩
theorem witA_of {c : Cd} {i : Nat} (hw : (witA c i).2 = true) : (witA c i).1.1 ∈ daysL c.2.2 ∧ (witA c i).1.2 ∈ casesL c c.2.1 ∧ alo (keptL c (witA c i).1.1 (witA c i).1.2) i = true := by
  unfold witA at hw ⊢
  cases hs : scan (witS c i) (daysL c.2.2) 0 with
  | none => rw [hs] at hw; cases hw
  | some e =>
    simp only [Option.getD_some]
    obtain ⟨d, hd, k, hk⟩ := scan_mem hs
    unfold witS at hk
    cases hf : witD c i d with
    | none => rw [hf] at hk; cases hk
    | some v =>
      rw [hf] at hk
      cases hk
      have hq : alo (keptL c d v) i = true := by simpa using List.find?_some (p := fun v => alo (keptL c d v) i) hf
      exact ⟨hd, find_mem (p := fun v => alo (keptL c d v) i) hf, hq⟩
theorem fold_mem {σ B : Type} (g : Nat → List B) : ∀ (l : List σ) (k : Nat) (a : List B) (x : B), x ∈ foldI (fun _ j a => a ++ g j) l k a ↔ x ∈ a ∨ ∃ j, k ≤ j ∧ j < k + l.length ∧ x ∈ g j
  | [], k, a, x => by
    simp only [foldI, List.length_nil, Nat.add_zero]
    exact ⟨.inl, fun h => h.elim id fun ⟨j, h1, h2, _⟩ => by omega⟩
  | y :: l, k, a, x => by
    simp only [foldI, List.length_cons]
    rw [fold_mem g l (k + 1) (a ++ g k) x, List.mem_append]
    constructor
    · rintro ((h | h) | ⟨j, h1, h2, h3⟩)
      · exact .inl h
      · exact .inr ⟨k, Nat.le_refl _, by omega, h⟩
      · exact .inr ⟨j, by omega, by omega, h3⟩
    · rintro (h | ⟨j, h1, h2, h3⟩)
      · exact .inl (.inl h)
      · by_cases e : j = k
        · subst e; exact .inl (.inr h3)
        · exact .inr ⟨j, by omega, by omega, h3⟩
end Go.K
set_option linter.unusedVariables false
set_option linter.unusedSimpArgs false
set_option maxRecDepth 100000
namespace Go.K
open Go.Sl Go.Sx Go.Proofs
def pkI (lo hi n : Int) : Int := lo + Int.tmod (Int.tmod n (hi - lo + 1) + (hi - lo + 1)) (hi - lo + 1)
theorem pkI_in {lo hi : Int} (h : lo ≤ hi) (n : Int) : lo ≤ pkI lo hi n ∧ pkI lo hi n ≤ hi := by
  unfold pkI
  have hw : 0 < hi - lo + 1 := by omega
  have h1 := Int.lt_tmod_of_pos n hw
  have h3 := Int.tmod_nonneg (a := Int.tmod n (hi - lo + 1) + (hi - lo + 1)) (hi - lo + 1) (by omega)
  have h4 := Int.tmod_lt_of_pos (Int.tmod n (hi - lo + 1) + (hi - lo + 1)) hw
  omega
theorem G43_pick {lo hi : Int} (h : lo ≤ hi) (h1 : -1000000000000 ≤ lo) (h2 : hi ≤ 1000000000000) (n : Int) : G43 LF ((lo, hi), n) = some (pkI lo hi n) := by
  have hw : 0 < hi - lo + 1 := by omega
  have e1 : w64 (hi - lo) = hi - lo := w64_in (by omega)
  have e2 : w64 (hi - lo + 1) = hi - lo + 1 := w64_in (by omega)
  have a1 := Int.lt_tmod_of_pos n hw
  have a2 := Int.tmod_lt_of_pos n hw
  have e3 : w64 (Int.tmod n (hi - lo + 1) + (hi - lo + 1)) = Int.tmod n (hi - lo + 1) + (hi - lo + 1) := w64_in (by omega)
  have hn : nz (hi - lo + 1) = some () := by unfold nz; rw [if_pos (by omega)]
  have hp := pkI_in h n
  unfold G43
  simp only [e1, e2, hn, Option.bind_some, e3]
  show some (w64 (pkI lo hi n)) = _
  rw [w64_in (by omega)]
def pksL {σ B : Type} (h : σ → Nat → B) : List σ → Nat → List B
  | [], _ => []
  | x :: l, k => h x k :: pksL h l (k + 1)
theorem pks_fold {σ B : Type} (h : σ → Nat → B) : ∀ (l : List σ) (k : Nat) (a : List B), foldI (fun x i a => a ++ [h x i]) l k a = a ++ pksL h l k
  | [], _, a => by simp [foldI, pksL]
  | x :: l, k, a => by simp only [foldI, pksL]; rw [pks_fold h l (k + 1)]; simp
theorem pks_get {σ B : Type} (h : σ → Nat → B) : ∀ (l : List σ) (k i : Nat), (pksL h l k)[i]? = (l[i]?).map fun x => h x (k + i)
  | [], _, _ => rfl
  | x :: l, k, 0 => rfl
  | x :: l, k, i + 1 => by
    simp only [pksL, List.getElem?_cons_succ]
    rw [pks_get h l (k + 1) i, show k + 1 + i = k + (i + 1) by omega]
theorem pks_len {σ B : Type} (h : σ → Nat → B) : ∀ (l : List σ) (k : Nat), (pksL h l k).length = l.length
  | [], _ => rfl
  | x :: l, k => by simp [pksL, pks_len h l]
def pkN (p : List Int) (i : Nat) : Int := if 0 < p.length then p.getD (i % p.length) 0 else 0
def pickV (f : List Fct) (p : List Int) : List Int := pksL (fun x i => pkI x.2.1 x.2.2 (pkN p i)) f 0
theorem G39_picks (f : List Fct) (p : List Int) (hl : f.length ≤ 1000) (hf : ∀ x ∈ f, -1000000000000 ≤ x.2.1 ∧ x.2.1 ≤ x.2.2 ∧ x.2.2 ≤ 1000000000000) : G39 LF (f, p) = some (pickV f p) := by
  unfold G39
  refine (iter_foldI (fun i a => (a, i)) (fun (x : Fct) i a => a ++ [pkI x.2.1 x.2.2 (pkN p i)]) (fun i a => a.length = i) f (fun a => some a) [] ?_ ?_ ?_ (by show f.length < 9223372036854775808; omega) rfl).trans ?_
  · intro i x a hx ha
    have hi := lt_of_get hx
    obtain ⟨b1, b2, b3⟩ := hf x (List.mem_of_getElem? hx)
    simp only [dlt hi, cond_true, getI_nat hx, Option.bind_some, succ_W (show i + 1 < 9223372036854775808 by omega)]
    have key : ∀ {ρ : Type} (K : Int → Option ρ), jn (cond (decide ((p.length : Int) > (0 : Int))) (((nz (p.length : Int))).bind fun r12 => ((getI p (Int.tmod (i : Int) (p.length : Int)))).bind fun r13 => some (.inl r13)) (some (.inl (0 : Int)))) K = K (pkN p i) := by
      intro ρ K
      unfold pkN
      by_cases hp : 0 < p.length
      · have hn : nz (p.length : Int) = some () := by unfold nz; rw [if_pos (by omega)]
        rw [if_pos hp, ← Int.ofNat_tmod, getI_getD (l := p) 0 (Nat.mod_lt _ hp)]
        simp only [decide_eq_true (show (p.length : Int) > 0 by omega), cond_true, hn, Option.bind_some, jl]
      · rw [if_neg hp]
        simp only [decide_eq_false (show ¬ (p.length : Int) > 0 by omega), cond_false, jl]
    rw [key]
    simp only [G43_pick b2 b1 b3, Option.bind_some, appC_of (show a.length + [pkI x.2.1 x.2.2 (pkN p i)].length ≤ 1099511627776 by simp; omega)]
  · intro i x a _ ha
    simp [ha]
  · intro a _
    simp only [dnlt]; rfl
  · rw [pks_fold (fun (x : Fct) i => pkI x.2.1 x.2.2 (pkN p i))]
    rfl
theorem VC.spans {c : Cd} (h : VC c) : ∀ x ∈ c.2.1, -1000000000000 ≤ x.2.1 ∧ x.2.1 ≤ x.2.2 ∧ x.2.2 ≤ 1000000000000 := by
  intro x hx
  obtain ⟨i, hi⟩ := List.mem_iff_getElem?.1 hx
  exact (h.fact hi).2.2
theorem pickV_in {f : List Fct} (hf : ∀ x ∈ f, x.2.1 ≤ x.2.2) (p : List Int) : In f (pickV f p) := by
  refine ⟨pks_len _ _ _, fun i x n hx hn => ?_⟩
  unfold pickV at hn
  rw [pks_get, hx] at hn
  simp only [Option.map_some, Option.some.injEq] at hn
  subst hn
  exact pkI_in (hf x (List.mem_of_getElem? hx)) _
theorem days_mem {l : List Rl} {n : Int} : n ∈ daysL l ↔ n = 0 ∨ ∃ r ∈ l, n ∈ dayR r := by
  rw [daysL_eq, (sc_rise _).2, List.mem_cons, List.mem_flatMap]
theorem days_in {c : Cd} (h : VC c) {n : Int} (hn : n ∈ daysL c.2.2) : 0 ≤ n ∧ n ≤ 100000 := by
  rcases days_mem.1 hn with rfl | ⟨r, hr, hm⟩
  · omega
  · obtain ⟨i, hi⟩ := List.mem_iff_getElem?.1 hr
    obtain ⟨_, _, h3, _⟩ := h.rule hi
    unfold dayR at hm
    rcases List.mem_cons.1 hm with rfl | hm
    · omega
    · split at hm
      · rw [w64_in (by omega)] at hm
        simp only [List.mem_singleton] at hm
        omega
      · cases hm
theorem day_near {c : Cd} (h : VC c) {d : Int} (h0 : 0 ≤ d) (h1 : d ≤ 100000) : ∃ e ∈ daysL c.2.2, ∀ r ∈ c.2.2, (r.2.1 ≤ d ∧ d ≤ r.2.2.1) ↔ (r.2.1 ≤ e ∧ e ≤ r.2.2.1) := by
  obtain ⟨e, e1, e2, e3⟩ := near_ex (l := daysL c.2.2) (n := d) ⟨0, days_mem.2 (.inl rfl), h0⟩
  refine ⟨e, e1, fun r hr => ?_⟩
  obtain ⟨i, hi⟩ := List.mem_iff_getElem?.1 hr
  obtain ⟨_, _, b, _⟩ := h.rule hi
  have m1 : r.2.1 ∈ daysL c.2.2 := days_mem.2 (.inr ⟨r, hr, List.mem_cons_self ..⟩)
  constructor
  · rintro ⟨a1, a2⟩
    have := e3 _ m1 a1
    omega
  · rintro ⟨a1, a2⟩
    refine ⟨by omega, ?_⟩
    by_cases hc : d ≤ r.2.2.1
    · exact hc
    · exfalso
      have m2 : r.2.2.1 + 1 ∈ daysL c.2.2 := days_mem.2 (.inr ⟨r, hr, by
        unfold dayR
        rw [if_pos (by omega), w64_in (by omega)]
        simp⟩)
      have := e3 _ m2 (by omega)
      omega
theorem day_binds {c : Cd} {d e : Int} (hd : ∀ r ∈ c.2.2, (r.2.1 ≤ d ∧ d ≤ r.2.2.1) ↔ (r.2.1 ≤ e ∧ e ≤ r.2.2.1)) (v : List Int) : bindsL c d v = bindsL c e v := by
  unfold bindsL
  have key : ∀ (m : List Rl), (∀ r ∈ m, r ∈ c.2.2) → ∀ out, nbL c.2.1 c.2.2 d v m out = nbL c.2.1 c.2.2 e v m out := by
    intro m
    induction m with
    | nil => intro _ out; rfl
    | cons r m ih =>
      intro hs out
      have e : bindB c.2.1 c.2.2 d v r out = bindB c.2.1 c.2.2 e v r out := by
        unfold bindB
        rw [decide_eq_decide.2 (hd r (hs r (List.mem_cons_self ..)))]
      simp only [nbL, e]
      rw [ih (fun q hq => hs q (List.mem_cons_of_mem _ hq))]
  exact key c.2.2 (fun _ h => h) []
theorem cell_day {c : Cd} (h : VC c) {f : List Fct} (hf : VF c f) {d : Int} (h0 : 0 ≤ d) (h1 : d ≤ 100000) {v : List Int} (hv : In f v) :
    ∃ e ∈ daysL c.2.2, ∃ w ∈ casesL c f, Near c f v w ∧ bindsL c d v = bindsL c e w ∧ keptL c d v = keptL c e w := by
  obtain ⟨e, he, hd⟩ := day_near h h0 h1
  obtain ⟨w, hw, hn⟩ := cell_ex (c := c) hv
  have hb : bindsL c d v = bindsL c e v := day_binds hd v
  refine ⟨e, he, w, hw, hn, hb.trans (hn.binds h hf hv e), ?_⟩
  rw [← hn.kept h hf hv e]
  unfold keptL
  rw [hb]
theorem wit_of {c : Cd} {i : Nat} {d : Int} {v : List Int} (hd : d ∈ daysL c.2.2) (hv : v ∈ casesL c c.2.1) (h : alo (keptL c d v) i = true) : (witA c i).2 = true := by
  have hw : (witD c i d).isSome = true := by
    unfold witD
    rw [List.find?_isSome]
    exact ⟨v, hv, h⟩
  unfold witA
  cases hs : scan (witS c i) (daysL c.2.2) 0 with
  | some e =>
    obtain ⟨d', _, k, hk⟩ := scan_mem hs
    unfold witS at hk
    cases hq : witD c i d' with
    | none => rw [hq] at hk; cases hk
    | some v => rw [hq] at hk; cases hk; rfl
  | none =>
    exfalso
    have : ∀ (l : List Int) (k : Nat), d ∈ l → scan (witS c i) l k = none → False := by
      intro l
      induction l with
      | nil => intro k hm; cases hm
      | cons x l ih =>
        intro k hm hn
        simp only [scan] at hn
        rcases List.mem_cons.1 hm with rfl | hm
        · obtain ⟨u, hu⟩ := Option.isSome_iff_exists.1 hw
          unfold witS at hn
          rw [hu] at hn
          cases hn
        · cases hx : witS c i x k with
          | some e => rw [hx] at hn; cases hn
          | none => rw [hx] at hn; exact ih _ hm hn
    exact this _ _ hd hs
theorem wit_none {c : Cd} (h : VC c) {i : Nat} (hw : (witA c i).2 = false) {d : Int} (h0 : 0 ≤ d) (h1 : d ≤ 100000) {v : List Int} (hv : In c.2.1 v) : alo (keptL c d v) i = false := by
  obtain ⟨e, he, w, hcw, _, _, hk⟩ := cell_day h (VF.self h) h0 h1 hv
  cases ha : alo (keptL c d v) i with
  | false => rfl
  | true =>
    rw [hk] at ha
    rw [wit_of he hcw ha] at hw
    cases hw
end Go.K
set_option linter.unusedVariables false
set_option linter.unusedSimpArgs false
set_option maxRecDepth 100000
namespace Go.K
open Go.Sl Go.Sx Go.Proofs
theorem idl_mem {c : Cd} {x : Int} : x ∈ idlA c ↔ ∃ i : Nat, x = i ∧ i < c.2.2.length ∧ (witA c i).2 = false := by
  unfold idlA
  rw [show (fun (r : Rl) i a => a ++ idlS c r i) = (fun (_ : Rl) i a => a ++ idlS c (bts [], (0, (0, ([], ([], []))))) i) from rfl, fold_mem (fun i => idlS c (bts [], (0, (0, ([], ([], []))))) i)]
  constructor
  · rintro (h | ⟨j, _, h2, h3⟩)
    · cases h
    · unfold idlS at h3
      cases hw : (witA c j).2 with
      | true => rw [hw] at h3; cases h3
      | false =>
        rw [hw] at h3
        simp only [cond_false, List.mem_singleton] at h3
        exact ⟨j, h3, by omega, hw⟩
  · rintro ⟨i, rfl, h2, h3⟩
    refine .inr ⟨i, by omega, by omega, ?_⟩
    unfold idlS
    rw [h3]
    simp
theorem any_loop {σ ρ : Type} {f : Bool × Int → Option ((Bool × Int) ⊕ ρ)} (l : List σ) (p : σ → Bool) (R : Option ρ)
    (h1 : ∀ (k : Nat) x b, l[k]? = some x → f (b, (k : Nat)) = some (.inl (b || p x, ((k + 1 : Nat) : Int))))
    (h2 : f (l.any p, (l.length : Nat)) = outR R) (hl : l.length < LF) :
    iter LF f (false, 0) = R := by
  rw [iter_foldI (fun i (b : Bool) => (b, i)) (fun (x : σ) _ b => b || p x) (fun k b => b = (l.take k).any p) l (fun _ => R) false (fun k x b hx _ => h1 k x b hx) (fun k x b hx hb => by
    rw [List.take_add_one, hx, hb]
    simp) (fun b hb => by rw [hb, List.take_length]; exact h2) hl rfl]
theorem idl_any {c : Cd} {i : Nat} (hi : i < c.2.2.length) : ((idlA c).any fun x => decide (x = (i : Int))) = !(witA c i).2 := by
  cases hw : (witA c i).2 with
  | false =>
    rw [Bool.not_false, List.any_eq_true]
    exact ⟨i, idl_mem.2 ⟨i, rfl, hi, hw⟩, by simp⟩
  | true =>
    rw [Bool.not_true, List.any_eq_false]
    intro x hx
    obtain ⟨j, rfl, _, hj⟩ := idl_mem.1 hx
    simp only [decide_eq_true_eq]
    intro e
    rw [show j = i by omega, hw] at hj
    cases hj
theorem chwR_in {c : Cd} (he : codeE c = 0) {i : Nat} (hi : i < c.2.2.length) {d : Int} (h0 : 0 ≤ d) (h1 : d ≤ 100000) {v : List Int} (hv : In c.2.1 v) : chwR c (i : Int) d v = if alo (keptL c d v) i = true then 0 else 42 := by
  unfold chwR
  rw [if_neg (by simp [he]), if_pos (by omega), Int.toNat_natCast]
  have := val_in.2 hv
  by_cases ha : alo (keptL c d v) i = true
  · rw [if_pos ⟨⟨h0, h1⟩, this, ha⟩, if_pos ha]
  · rw [if_neg (fun e => ha e.2.2), if_neg ha]
theorem witR_in {c : Cd} (he : codeE c = 0) {i : Nat} (hi : i < c.2.2.length) : witR c (i : Int) = if (witA c i).2 = true then ((witA c i).1, 0) else ((0, []), 3) := by
  unfold witR
  rw [if_neg (by simp [he]), if_pos (by omega), Int.toNat_natCast]
theorem wch {ρ : Type} {l : List Bool} {i : Nat} (hi : i < l.length) : cond (allBut l (i : Int)) (((getI l (i : Int))).bind fun r => some (.inl (!(decide ((decide ((if alo l i = true then (0 : Int) else 42) = 0)) = (!r)))))) (some (.inl (!(decide ((decide ((if alo l i = true then (0 : Int) else 42) = 0)) = false))))) = (some (.inl false) : Option (Bool ⊕ ρ)) := by
  rw [getI_getD (l := l) true hi]
  unfold alo
  cases allBut l (i : Int) with
  | false => simp
  | true =>
    cases l.getD i true <;> simp
theorem G9_true (x : Cd × (Int × List Int)) : G9 LF x = some true := by
  obtain ⟨c, d0, p⟩ := x
  unfold G9
  simp only [show G46 LF (c.1, (c.2.1, c.2.2)) = _ from G46_idle c, show G32 LF (c.1, (c.2.1, c.2.2)) = some (codeE c) from G32_code c, Option.bind_some]
  by_cases he : codeE c = 0
  · have h := VC.of he
    have hfl := h.fl
    have hll := h.ll
    have hvi : In c.2.1 (pickV c.2.1 p) := pickV_in (fun x hx => (h.spans x hx).2.1) p
    have hil : (idlA c).length < LF := by
      have h1 := idl_len c c.2.2 0 []
      simp only [List.length_nil] at h1
      show (idlA c).length < 9223372036854775808
      unfold idlA; omega
    obtain ⟨q0, q1⟩ := pkI_in (lo := 0) (hi := 100000) (by omega) d0
    simp only [he, if_true, decide_true, Bool.not_true, cond_false, G39_picks c.2.1 p (by omega) h.spans, G43_pick (lo := 0) (hi := 100000) (by omega) (by omega) (by omega) d0, Option.bind_some, show G26 LF ((c.1, (c.2.1, c.2.2)), (pkI 0 100000 d0, pickV c.2.1 p)) = some (keptL c (pkI 0 100000 d0) (pickV c.2.1 p)) from G26_kept h hvi.1]
    generalize pkI 0 100000 d0 = d at q0 q1
    generalize pickV c.2.1 p = v at hvi
    have hkl : (keptL c d v).length = c.2.2.length := keptL_len _ _ _
    refine (iter_scan (fun (_ : Rl) _ => none) c.2.2 (some true) ?_ ?_ h.ll').trans ?_
    · intro i r hr _
      have hi := lt_of_get hr
      have hi1 : w64 ((i : Int) + 1) = ((i + 1 : Nat) : Int) := succ_W (show i + 1 < 9223372036854775808 by omega)
      simp only [dlt hi, cond_true]
      refine (any_loop (ρ := Int ⊕ Bool) (idlA c) (fun x => decide (x = (i : Int))) (some (.inl ((i + 1 : Nat) : Int))) ?_ ?_ hil)
      · intro k x b hx
        have hk := lt_of_get hx
        have hk1 : w64 ((k : Int) + 1) = ((k + 1 : Nat) : Int) := succ_W (Nat.lt_of_le_of_lt hk hil)
        simp only [dlt hk, cond_true, getI_nat hx, Option.bind_some, hk1]
        cases decide (x = (i : Int)) <;> simp
      · rw [idl_any hi]
        simp only [dnlt, cond_false, show G47 LF ((c.1, (c.2.1, c.2.2)), (i : Int)) = some (witR c (i : Int)) from G47_wit c (i : Int), witR_in he hi, Option.bind_some, show ∀ i d v, G48 LF ((c.1, (c.2.1, c.2.2)), (i, (d, v))) = _ from G48_chw c, chwR_in he hi q0 q1 hvi, G28_all (keptL c d v) (i : Int) (by rw [hkl]; exact h.ll'), hi1]
        cases hw : (witA c i).2 with
        | true =>
          obtain ⟨w1, w2, w3⟩ := witA_of hw
          obtain ⟨w4, w5⟩ := days_in h w1
          have hcw := chwR_in he hi w4 w5 (cases_in (VF.self h) w2)
          rw [if_pos w3] at hcw
          simp only [Bool.not_true, if_true, hcw, decide_true, Bool.not_false, cond_true, cond_false, Option.bind_some, jl, show decide ((0 : Int) = 3) = false by rfl]
          rw [wch (by omega)]
          rfl
        | false =>
          have hal := wit_none h hw q0 q1 hvi
          have hwc := wch (ρ := Int ⊕ Bool) (l := keptL c d v) (i := i) (by omega)
          simp only [Bool.not_false, Bool.false_eq_true, if_false, decide_true, Bool.not_true, cond_true, cond_false, jl, hwc]
          have hg : allBut (keptL c d v) (i : Int) = true → (keptL c d v).getD i true = true := by
            intro hb
            unfold alo at hal
            rw [hb] at hal
            simpa using hal
          rw [getI_getD (l := keptL c d v) true (by omega)]
          cases hb : allBut (keptL c d v) (i : Int) with
          | false => rfl
          | true =>
            rw [hg hb]
            rfl
    · intro _
      simp only [dnlt, cond_false, sane_true]; rfl
    · have : ∀ (l : List Rl) k, scan (fun (_ : Rl) _ => (none : Option Bool)) l k = none := by
        intro l
        induction l with
        | nil => intro _; rfl
        | cons x l ih => intro k; exact ih _
      simp only [this]
  · simp only [he, if_false, decide_false, Bool.not_false, cond_true, sane_true, Option.bind_some]
end Go.K
namespace Go.Sx
open Go.Sl Go.Shelf Go.Proofs
variable {P : Program} {ρ : Ren} {h : Zone} {L : List Atom} {w : World} {E : TypeId} {o : Option Addr} {cap : Nat} {xs : List Int}
theorem rows_int : ∀ {xs : List Int} {cs : List Value}, Rows Ty.int h cs xs ↔ cs = xs.map (Value.int .i64)
  | [], cs => by simp [Rows]
  | x :: xs, cs => by
    constructor
    · rintro ⟨c, d, rfl, hc, hd⟩
      have hc' : c = [.int .i64 x] := hc
      rw [hc', (rows_int (xs := xs)).1 hd]
      rfl
    · intro e
      subst e
      exact ⟨[.int .i64 x], xs.map (Value.int .i64), rfl, rfl, rows_int.2 rfl⟩
theorem own_ints {cur : Array Value} (hr : Rows Ty.int h (cur.toList.take (xs.length * Ty.int.size)) xs) : cur.toList.take xs.length = xs.map (Value.int .i64) := by
  have := rows_int.1 hr
  simpa [Ty.int] using this
theorem St.ownPut (hS : St h L w) {j : Nat} {g : Nat} {ys : List Int} (hj : L[j]? = some (ownS Ty.int E (some ⟨g, 0, none⟩) cap xs)) (hl : ys.length = xs.length) (n : Nat) (os : Array Obj) :
    St h (L.set j (ownS Ty.int E (some ⟨g, 0, none⟩) cap ys)) (Sort.grow (Sort.putRow (Value.int .i64) (Sort.ahead w n) g 0 ys.toArray) os) := by
  obtain ⟨x, hx, hxw, dx, hset⟩ := hS.focus hj
  rcases hx with ⟨e, _⟩ | ⟨g', cur, e, rfl, h1, h2, h3, h4⟩
  · cases e
  · have hg : g' = g := by cases e; rfl
    subst hg
    have hb : w.heap[g']? = some (.cells cur E (0, 0)) := Hp.one_le.1 hxw
    have hsz : cur.size = cap := by simpa [Ty.int] using h3
    have hlen : ys.length ≤ cur.size := by omega
    have hgr := grownBy_sortedI (w := w) (g := g') (n := n) (os := os) ys.toArray
    refine hset _ (ownS Ty.int E (some ⟨g', 0, none⟩) cap ys) (Hp.one g' (.cells (Sort.putCells (Value.int .i64) 0 ys.toArray cur) E (0, 0)))
      (.inr ⟨g', _, rfl, rfl, by omega, h2, by simp [Sort.putCells, h3], ?_⟩) (Hp.one_le.2 (heap_sortedI ys.toArray hb)) (fun b hb' hn => hgr.block b hb' fun e => ?_) (fun b o' e => .inr ?_) hgr.os hgr.tape hgr.output
    · have := take_putCellsI cur ys hlen
      have e1 : ys.length * Ty.int.size = ys.length := by simp [Ty.int]
      rw [e1, this]
      exact rows_int.2 rfl
    · cases e; simp [Hp.one] at hn
    · unfold Hp.one at e ⊢
      split at e
      · rename_i hbg; simp [hbg]
      · cases e
theorem sortOwn (Ly : Lays.n189 P ρ) (hS : St h L w) {j : Nat} (hj : L[j]? = some (ownS Ty.int E o cap xs)) (hsz : xs.length ≤ 1099511627776) :
    Calls P (ρ.f 189) #[.slice o xs.length cap] w fun e w' => ∃ v, e = .returned v ∧ v = .tuple #[] ∧ St h (L.set j (ownS Ty.int E o cap (sortL xs))) w' := by
  obtain ⟨x, hx, hxw, dx, hset⟩ := hS.focus hj
  rcases hx with ⟨rfl, rfl, rfl, rfl⟩ | ⟨g, cur, rfl, rfl, h1, h2, h3, h4⟩
  · refine (Any.slices_Sort_int_none Ly none 0 w).mono ?_
    rintro e w' ⟨rfl, rfl⟩
    refine ⟨_, rfl, rfl, ?_⟩
    have : sortL [] = [] := rfl
    rw [this]
    exact hset w' (ownS Ty.int E none 0 []) Hp.nil (.inl ⟨rfl, rfl, rfl, rfl⟩) (Hp.nil_le _) (fun _ _ _ => rfl) (fun b o e => by simp [Hp.nil] at e) rfl rfl rfl
  · have hb : w.heap[g]? = some (.cells cur E (0, 0)) := Hp.one_le.1 hxw
    have hH := holds_of_blockI hb (own_ints h4)
    refine (Any.slices_Sort_int Ly g 0 cap xs w hH (Array.getElem?_eq_some_iff.1 hb).1 (by omega)).mono ?_
    rintro e w' ⟨rfl, n, os, rfl⟩
    rw [sortL_eq]
    exact ⟨_, rfl, rfl, St.ownPut hS hj (sortL_len xs).symm n os⟩
theorem compactOwn (Ly : SlLaysN.n43 P ρ) (hS : St h L w) {j : Nat} (hj : L[j]? = some (ownS Ty.int E o cap xs)) (hsz : xs.length ≤ 1099511627776) :
    Calls P (ρ.f 43) #[.slice o xs.length cap] w fun e w' => ∃ v, e = .returned v ∧ v = .slice o (compL xs).length cap ∧ St h (L.set j (ownS Ty.int E o cap (compL xs))) w' := by
  obtain ⟨x, hx, hxw, dx, hset⟩ := hS.focus hj
  rcases hx with ⟨rfl, rfl, rfl, rfl⟩ | ⟨g, cur, rfl, rfl, h1, h2, h3, h4⟩
  · refine (AnyG.slices_Compact_int_empty Ly none 0 w).mono ?_
    rintro e w' ⟨rfl, rfl⟩
    have hc : compL [] = [] := by simp [compL, Lib.compact, Lib.compactUpTo]
    rw [hc]
    exact ⟨_, rfl, rfl, hset w' (ownS Ty.int E none 0 []) Hp.nil (.inl ⟨rfl, rfl, rfl, rfl⟩) (Hp.nil_le _) (fun _ _ _ => rfl) (fun b o e => by simp [Hp.nil] at e) rfl rfl rfl⟩
  · have hb : w.heap[g]? = some (.cells cur E (0, 0)) := Hp.one_le.1 hxw
    have hH := holds_of_blockI hb (own_ints h4)
    refine (AnyG.slices_Compact_int Ly g 0 cap xs w hH (by omega) h1).mono ?_
    rintro e w' ⟨rfl, q, rfl⟩
    have hle : (Lib.compact xs).length ≤ xs.length := by
      unfold Lib.compact Lib.compactUpTo
      rw [List.length_map]
      exact Nat.le_trans (List.length_filter_le _ _) (by simp)
    have hlen : (Lib.compact xs ++ List.replicate (xs.length - (Lib.compact xs).length) 0).length = xs.length := by
      rw [List.length_append, List.length_replicate]; omega
    have h5 := St.ownPut hS hj hlen q #[]
    rw [Sort.grow_empty] at h5
    refine ⟨_, rfl, rfl, ?_⟩
    have hlt := (List.getElem?_eq_some_iff.1 hj).1
    have h6 := h5.ownTake (j := j) (T := Ty.int) (E := E) (o := some ⟨g, 0, none⟩) (cap := cap) (xs := Lib.compact xs ++ List.replicate (xs.length - (Lib.compact xs).length) 0) (by simp [hlt]) (n := (Lib.compact xs).length) (by rw [hlen]; exact hle)
    have h7 : (Lib.compact xs ++ List.replicate (xs.length - (Lib.compact xs).length) 0).take (Lib.compact xs).length = compL xs := by simp [compL]
    rw [h7] at h6
    simpa using h6
def lenC {α : Type} (xs : List α) : Option Unit := if xs.length ≤ 1099511627776 then some () else none
theorem lenC_spec {α : Type} {xs : List α} {u : Unit} (e : lenC xs = some u) : xs.length ≤ 1099511627776 := by
  unfold lenC at e
  split at e
  · assumption
  · cases e
end Go.Sx
set_option linter.unusedVariables false
set_option linter.unusedSimpArgs false
set_option maxRecDepth 100000
namespace Go.K
open Go.Sl Go.Sx Go.Proofs Go.Shelf Go.RowKit
variable {P : Program} {ρ' : Ren} {E : Env}
theorem foldl_sum (k : Nat) : ∀ (xs : List ByteArray) (n : Nat), xs.foldl (fun n x => n + x.size + k) n = n + (xs.map fun x => x.size + k).sum
  | [], n => by simp
  | x :: xs, n => by rw [List.foldl_cons, foldl_sum k xs]; simp; omega
theorem join_data (sep : ByteArray) : ∀ (xs : List ByteArray) (r : ByteArray), (xs.foldl (fun r y => r ++ sep ++ y) r).data.toList = r.data.toList ++ (xs.map fun y => sep.data.toList ++ y.data.toList).flatten
  | [], r => by simp
  | y :: xs, r => by rw [List.foldl_cons, join_data sep xs]; simp [ByteArray.data_append]
theorem size_len' (s : ByteArray) : s.size = s.data.toList.length := by simp
theorem lens_eq : ∀ xs : List ByteArray, Lib.lens (xs.map (·.data.toList)) = (xs.map (·.size)).sum
  | [] => rfl
  | x :: xs => by
    have := lens_eq xs
    simp only [Lib.lens, List.map_cons, List.flatten_cons, List.length_append, List.sum_cons] at this ⊢
    rw [this, size_len']
theorem sum_add (k : Nat) : ∀ xs : List ByteArray, (xs.map fun x => x.size + (k + 1)).sum = (xs.map (·.size)).sum + k * xs.length + xs.length
  | [] => by simp
  | x :: xs => by
    simp only [List.map_cons, List.sum_cons, sum_add k xs, List.length_cons, Nat.mul_add]; omega
theorem joinC_lib {sep : ByteArray} {xs : List ByteArray} {y : ByteArray} (h : joinC sep xs = some y) : y = ⟨(Lib.join (xs.map (·.data.toList)) sep.data.toList).toArray⟩ ∧ (Lib.join (xs.map (·.data.toList)) sep.data.toList).length ≤ 140737488355328 ∧ xs.length ≤ 140737488355328 := by
  unfold joinC at h
  split at h
  · rename_i hc
    rw [foldl_sum, sum_add] at hc
    have hll := lens_eq xs
    cases xs with
    | nil =>
      simp only [Option.some.injEq] at h
      subst h
      exact ⟨rfl, by simp [Lib.join_nil], by simp⟩
    | cons x xs =>
      simp only [Option.some.injEq] at h
      have hj : (Lib.join ((x :: xs).map (·.data.toList)) sep.data.toList) = y.data.toList := by
        rw [← h, join_data, List.map_cons, Lib.join_cons]
        congr 1
        unfold Lib.joinTail
        rw [List.map_map]
        rfl
      have hlen := Lib.join_length x.data.toList (xs.map (·.data.toList)) sep.data.toList
      rw [List.map_cons] at hj hll
      simp only [List.length_cons, List.length_map] at hc hlen
      rw [hll] at hlen
      refine ⟨?_, ?_, ?_⟩
      · rw [List.map_cons, hj]
      · rw [List.map_cons, hlen]
        have hs : sep.data.toList.length = sep.size := (size_len' sep).symm
        rw [hs]
        have := Nat.mul_le_mul (Nat.le_refl sep.size) (show xs.length ≤ xs.length + 1 by omega)
        omega
      · simp only [List.length_cons]; omega
  · cases h
theorem join_valid (Ly : Lays.n156 P ρ') (X : Builder.Extra P ρ') : Valid E P (ρ'.f 156) [aSs, aS] [aS] fun x => joinC x.2 x.1 := by
  intro x y hx z L w vs hz hrep hs
  obtain ⟨v, r, rfl, hv, u, rfl, hu⟩ := hrep
  have h2 := rep_str hu
  subst h2
  obtain ⟨rfl, hl, hn⟩ := joinC_lib hx
  have hv' := rep1 hv
  obtain ⟨o, c, e1, hsl⟩ := hv'
  simp only [List.cons.injEq, and_true] at e1
  subst e1
  have fin : ∀ (o : Option Addr), (o = none → x.1 = []) → (∀ a, o = some a → ∀ j s, x.1[j]? = some s → z.cell? (a.add j) = some (.string s)) → x.1.length ≤ c → Calls P (ρ'.f 156) #[.slice o x.1.length c, .string x.2] w fun e w' => e = .returned (.string ⟨(Lib.join (x.1.map (·.data.toList)) x.2.data.toList).toArray⟩) ∧ Below w.heap.size w w' := by
    intro o h0 h1 hcap
    cases hx1 : x.1 with
    | nil =>
      simp only [List.length_nil]
      refine (Any.strings_Join_none Ly X o c x.2 w).mono fun e w' ⟨he, hw⟩ => ⟨he, hw ▸ Below.refl _ _⟩
    | cons s0 ss =>
      cases o with
      | none => rw [h0 rfl] at hx1; cases hx1
      | some a =>
        have hc0 := h1 a rfl 0 s0 (by rw [hx1]; rfl)
        have hspot : a.spot = none ∧ (a.add 0) = a := by
          constructor
          · unfold Zone.cell? at hc0
            split at hc0
            · split at hc0
              · cases hc0
              · rename_i hsp
                rw [add_zero' a] at hsp
                cases hs : a.spot with
                | none => rfl
                | some q => rw [hs] at hsp; simp at hsp
            · cases hc0
          · exact add_zero' a
        obtain ⟨bk, off, sp⟩ := a
        obtain ⟨hsp, _⟩ := hspot
        simp only at hsp
        subst hsp
        have hcell : ∀ (j : Nat) s, (s0 :: ss)[j]? = some s → w.cell? ⟨bk, off + j, none⟩ = some (.string s) := fun j s hj => by
          have := h1 _ rfl j s (by rw [hx1]; exact hj)
          have := hs.cell this
          have ha : (⟨bk, off, none⟩ : Addr).add j = ⟨bk, off + j, none⟩ := by unfold Addr.add; split <;> simp_all
          rwa [ha] at this
        have hbk : bk < w.heap.size := by
          have := hcell 0 s0 rfl
          unfold World.cell? at this
          cases hb : w.heap[bk]? with
          | none => rw [hb] at this; cases this
          | some ob => exact (Array.getElem?_eq_some_iff.1 hb).1
        rw [hx1] at hl hn hcap
        exact Any.strings_Join Ly X bk off c (s0 :: ss) x.2 w hcell hbk hn hcap hl
  refine (fin o (fun e => (hsl.hnil e).1) (fun a e j s hj => ?_) hsl.hcap).mono ?_
  · obtain ⟨cs, hr, hc⟩ := hsl.hat a e j s hj
    have hr' : cs = [.string s] := hr
    have := hc 0 (.string s) (by rw [hr']; rfl)
    have e1 : j * (TC.str.ty).size = j := by show j * 1 = j; omega
    rw [e1] at this
    rwa [add_zero'] at this
  · rintro en w' ⟨rfl, hb⟩
    exact ⟨_, z, rfl, Zone.le_refl _, ⟨[.string _], rfl, _, rfl, .inr ⟨rfl, rfl⟩⟩, hs.of_below hb⟩
end Go.K
set_option linter.unusedVariables false
set_option linter.unusedSimpArgs false
set_option maxRecDepth 100000
namespace Go.Proofs
open Go.Shelf Go.RowKit Go.Lib
theorem Tryz.isBlank (W : World) (r : Nat) : FnGives Tryz.prog 158 #[] #[encR r] (.bool (Nat.beq r 32)) W := by
  unfold FnGives
  have e : Nat.beq r 32 = decide ((r : Int) = 32) := by
    cases h : Nat.beq r 32 with
    | true => have := Nat.eq_of_beq_eq_true h; simp; omega
    | false => have := Nat.ne_of_beq_eq_false h; simp; omega
  rw [e]
  go_enter Tryz.func158, Tryz.ntmps158
  go_wp2
  go_ret
  exact ⟨rfl, 0, rfl⟩
theorem Tryz.extraB : Builder.Extra Tryz.prog Tryz.join_ren := {
  sizeBuilder := by kernel_rfl
  liesBuilder := by kernel_rfl
  t5 := Tryz.underlying5
  a5 := Tryz.isAgg5
  z5 := Tryz.sizeOf5
  v5 := Tryz.zeroValue5
  infoByte := by kernel_rfl
  cellsByte := by kernel_rfl
  sizeByte := by kernel_rfl
  neB5 := by decide }
end Go.Proofs
namespace Go.K
open Go.Sl Go.Sx Go.Proofs Go.Shelf Go.RowKit
theorem mixedT : Tryz.prog.follows .mixedOrders = true := by kernel_rfl
abbrev HC (E : Env) (C : FuncId → Option Con) : Prop := ∀ L, envA E ∈ L → ∀ g con, C g = some con → ConOk Tryz.prog L con g
theorem sort_row : RowOk Tryz.prog 182 .i sortL := ⟨fun xs => (sortL_len xs).symm, fun hS hj hl => sortOwn Tryz.sortI hS hj hl⟩
theorem comp_cut : CutOk Tryz.prog 183 .i compL := fun hS hj hl => compactOwn Tryz.compactI hS hj hl
theorem ct_ok (lf : Nat) : HC (envT Tryz.prog 0) (CT Tryz.prog lf) := by
  intro L hL
  unfold CT
  refine extC_ok (extC_ok (extC_ok (extC_ok (extC_ok (extC_ok (extC_ok (extC_ok (fun g con h => by cases h) ?a) ?b) ?c) ?d) ?e) ?f) ?g) ?h
  case a => exact dataCon_ok (itoa_valid Tryz.itoa) hL
  case b => exact dataCon_ok (trim_valid Tryz.trim (by kernel_rfl)) hL
  case c => exact rowCon_ok sort_row
  case d => exact cutCon_ok comp_cut
  case e => exact dataCon_ok (split_valid Tryz.split (by kernel_rfl)) hL
  case f => exact atoiCon_ok Tryz.atoi
  case g => exact fieldsCon_ok Tryz.fields (enters_of Tryz.func158 (by kernel_rfl) rfl) (fun W x => Tryz.isBlank W x) (by kernel_rfl) (by kernel_rfl)
  case h => exact dataCon_ok (join_valid Tryz.join Tryz.extraB) hL
end Go.K
set_option linter.unusedVariables false
set_option maxRecDepth 100000
namespace Go.K
open Go.Sl Go.Sx Go.Proofs
theorem kcCT : HC (envT Tryz.prog 0) (CT Tryz.prog LF) := ct_ok LF
theorem kc91 : HC (envT Tryz.prog 0) (C91 Tryz.prog LF) := fun L hL => extC_ok (kcCT L hL) (dataCon_ok (fnF_valid mixedT kcCT 91 _ _ LF) hL)
theorem kc223 : HC (envT Tryz.prog 0) (C223 Tryz.prog LF) := fun L hL => extC_ok (kc91 L hL) (dataCon_ok (fnF_valid mixedT kc91 223 _ _ LF) hL)
theorem kc180 : HC (envT Tryz.prog 0) (C180 Tryz.prog LF) := fun L hL => extC_ok (kc223 L hL) (dataCon_ok (fnF_valid mixedT kc223 180 _ _ LF) hL)
theorem kc165 : HC (envT Tryz.prog 0) (C165 Tryz.prog LF) := fun L hL => extC_ok (kc180 L hL) (dataCon_ok (fnF_valid mixedT kc180 165 _ _ LF) hL)
theorem kc94 : HC (envT Tryz.prog 0) (C94 Tryz.prog LF) := fun L hL => extC_ok (kc165 L hL) (dataCon_ok (fnF_valid mixedT kc165 94 _ _ LF) hL)
theorem kc158 : HC (envT Tryz.prog 0) (C158 Tryz.prog LF) := fun L hL => extC_ok (kc94 L hL) (dataCon_ok (fnF_valid mixedT kc94 158 _ _ LF) hL)
theorem kc86 : HC (envT Tryz.prog 0) (C86 Tryz.prog LF) := fun L hL => extC_ok (kc158 L hL) (dataCon_ok (fnF_valid mixedT kc158 86 _ _ LF) hL)
theorem kc244 : HC (envT Tryz.prog 0) (C244 Tryz.prog LF) := fun L hL => extC_ok (kc86 L hL) (dataCon_ok (fnF_valid mixedT kc86 244 _ _ LF) hL)
theorem kc215 : HC (envT Tryz.prog 0) (C215 Tryz.prog LF) := fun L hL => extC_ok (kc244 L hL) (refCon_ok (fnR_valid mixedT kc244 215 _ _ _ _ _ _ LF) hL)
theorem kc216 : HC (envT Tryz.prog 0) (C216 Tryz.prog LF) := fun L hL => extC_ok (kc215 L hL) (refCon_ok (fnR_valid mixedT kc215 216 _ _ _ _ _ _ LF) hL)
theorem kc162 : HC (envT Tryz.prog 0) (C162 Tryz.prog LF) := fun L hL => extC_ok (kc216 L hL) (refCon_ok (recR_valid mixedT kc216 (fun _ => rfl) (fun _ _ => rfl) LF) hL)
theorem kc17 : HC (envT Tryz.prog 0) (C17 Tryz.prog LF) := fun L hL => extC_ok (kc162 L hL) (dataCon_ok (fnF_valid mixedT kc162 17 _ _ LF) hL)
theorem kc110 : HC (envT Tryz.prog 0) (C110 Tryz.prog LF) := fun L hL => extC_ok (kc17 L hL) (dataCon_ok (fnF_valid mixedT kc17 110 _ _ LF) hL)
theorem kc190 : HC (envT Tryz.prog 0) (C190 Tryz.prog LF) := fun L hL => extC_ok (kc110 L hL) (dataCon_ok (fnF_valid mixedT kc110 190 _ _ LF) hL)
theorem kc188 : HC (envT Tryz.prog 0) (C188 Tryz.prog LF) := fun L hL => extC_ok (kc190 L hL) (dataCon_ok (fnF_valid mixedT kc190 188 _ _ LF) hL)
theorem kc189 : HC (envT Tryz.prog 0) (C189 Tryz.prog LF) := fun L hL => extC_ok (kc188 L hL) (dataCon_ok (fnF_valid mixedT kc188 189 _ _ LF) hL)
theorem kc191 : HC (envT Tryz.prog 0) (C191 Tryz.prog LF) := fun L hL => extC_ok (kc189 L hL) (dataCon_ok (fnF_valid mixedT kc189 191 _ _ LF) hL)
theorem kc192 : HC (envT Tryz.prog 0) (C192 Tryz.prog LF) := fun L hL => extC_ok (kc191 L hL) (dataCon_ok (fnF_valid mixedT kc191 192 _ _ LF) hL)
theorem kc193 : HC (envT Tryz.prog 0) (C193 Tryz.prog LF) := fun L hL => extC_ok (kc192 L hL) (dataCon_ok (fnF_valid mixedT kc192 193 _ _ LF) hL)
theorem kc194 : HC (envT Tryz.prog 0) (C194 Tryz.prog LF) := fun L hL => extC_ok (kc193 L hL) (dataCon_ok (fnF_valid mixedT kc193 194 _ _ LF) hL)
theorem kc195 : HC (envT Tryz.prog 0) (C195 Tryz.prog LF) := fun L hL => extC_ok (kc194 L hL) (dataCon_ok (fnF_valid mixedT kc194 195 _ _ LF) hL)
theorem kc131 : HC (envT Tryz.prog 0) (C131 Tryz.prog LF) := fun L hL => extC_ok (kc195 L hL) (dataCon_ok (fnF_valid mixedT kc195 131 _ _ LF) hL)
theorem kc147 : HC (envT Tryz.prog 0) (C147 Tryz.prog LF) := fun L hL => extC_ok (kc131 L hL) (dataCon_ok (fnF_valid mixedT kc131 147 _ _ LF) hL)
theorem kc36 : HC (envT Tryz.prog 0) (C36 Tryz.prog LF) := fun L hL => extC_ok (kc147 L hL) (dataCon_ok (fnF_valid mixedT kc147 36 _ _ LF) hL)
theorem kc130 : HC (envT Tryz.prog 0) (C130 Tryz.prog LF) := fun L hL => extC_ok (kc36 L hL) (dataCon_ok (fnF_valid mixedT kc36 130 _ _ LF) hL)
theorem kc116 : HC (envT Tryz.prog 0) (C116 Tryz.prog LF) := fun L hL => extC_ok (kc130 L hL) (dataCon_ok (fnF_valid mixedT kc130 116 _ _ LF) hL)
theorem kc181 : HC (envT Tryz.prog 0) (C181 Tryz.prog LF) := fun L hL => extC_ok (kc116 L hL) (dataCon_ok (fnF_valid mixedT kc116 181 _ _ LF) hL)
theorem kc115 : HC (envT Tryz.prog 0) (C115 Tryz.prog LF) := fun L hL => extC_ok (kc181 L hL) (dataCon_ok (fnF_valid mixedT kc181 115 _ _ LF) hL)
theorem kc106 : HC (envT Tryz.prog 0) (C106 Tryz.prog LF) := fun L hL => extC_ok (kc115 L hL) (dataCon_ok (fnF_valid mixedT kc115 106 _ _ LF) hL)
theorem kc174 : HC (envT Tryz.prog 0) (C174 Tryz.prog LF) := fun L hL => extC_ok (kc106 L hL) (dataCon_ok (fnF_valid mixedT kc106 174 _ _ LF) hL)
theorem kc125 : HC (envT Tryz.prog 0) (C125 Tryz.prog LF) := fun L hL => extC_ok (kc174 L hL) (dataCon_ok (fnF_valid mixedT kc174 125 _ _ LF) hL)
theorem kc133 : HC (envT Tryz.prog 0) (C133 Tryz.prog LF) := fun L hL => extC_ok (kc125 L hL) (dataCon_ok (fnF_valid mixedT kc125 133 _ _ LF) hL)
theorem kc104 : HC (envT Tryz.prog 0) (C104 Tryz.prog LF) := fun L hL => extC_ok (kc133 L hL) (dataCon_ok (fnF_valid mixedT kc133 104 _ _ LF) hL)
theorem kc266 : HC (envT Tryz.prog 0) (C266 Tryz.prog LF) := fun L hL => extC_ok (kc104 L hL) (dataCon_ok (fnF_valid mixedT kc104 266 _ _ LF) hL)
theorem kc199 : HC (envT Tryz.prog 0) (C199 Tryz.prog LF) := fun L hL => extC_ok (kc266 L hL) (panCon_ok (fnP_valid mixedT kc266 199 _ _ _ _ LF) hL)
theorem kc198 : HC (envT Tryz.prog 0) (C198 Tryz.prog LF) := fun L hL => extC_ok (kc199 L hL) (refCon_ok (fnR_valid mixedT kc199 198 _ _ _ _ _ _ LF) hL)
theorem kc200 : HC (envT Tryz.prog 0) (C200 Tryz.prog LF) := fun L hL => extC_ok (kc198 L hL) (refCon_ok (fnR_valid mixedT kc198 200 _ _ _ _ _ _ LF) hL)
theorem kc239 : HC (envT Tryz.prog 0) (C239 Tryz.prog LF) := fun L hL => extC_ok (kc200 L hL) (refCon_ok (fnR_valid mixedT kc200 239 _ _ _ _ _ _ LF) hL)
theorem kc201 : HC (envT Tryz.prog 0) (C201 Tryz.prog LF) := fun L hL => extC_ok (kc239 L hL) (refCon_ok (fnR_valid mixedT kc239 201 _ _ _ _ _ _ LF) hL)
theorem kc240 : HC (envT Tryz.prog 0) (C240 Tryz.prog LF) := fun L hL => extC_ok (kc201 L hL) (refCon_ok (fnR_valid mixedT kc201 240 _ _ _ _ _ _ LF) hL)
theorem kc202 : HC (envT Tryz.prog 0) (C202 Tryz.prog LF) := fun L hL => extC_ok (kc240 L hL) (refCon_ok (fnR_valid mixedT kc240 202 _ _ _ _ _ _ LF) hL)
theorem kc93 : HC (envT Tryz.prog 0) (C93 Tryz.prog LF) := fun L hL => extC_ok (kc202 L hL) (dataCon_ok (fnF_valid mixedT kc202 93 _ _ LF) hL)
theorem kc92 : HC (envT Tryz.prog 0) (C92 Tryz.prog LF) := fun L hL => extC_ok (kc93 L hL) (dataCon_ok (fnF_valid mixedT kc93 92 _ _ LF) hL)
theorem kc29 : HC (envT Tryz.prog 0) (C29 Tryz.prog LF) := fun L hL => extC_ok (kc92 L hL) (dataCon_ok (fnF_valid mixedT kc92 29 _ _ LF) hL)
theorem kc112 : HC (envT Tryz.prog 0) (C112 Tryz.prog LF) := fun L hL => extC_ok (kc29 L hL) (dataCon_ok (fnF_valid mixedT kc29 112 _ _ LF) hL)
theorem kc113 : HC (envT Tryz.prog 0) (C113 Tryz.prog LF) := fun L hL => extC_ok (kc112 L hL) (dataCon_ok (fnF_valid mixedT kc112 113 _ _ LF) hL)
theorem kc114 : HC (envT Tryz.prog 0) (C114 Tryz.prog LF) := fun L hL => extC_ok (kc113 L hL) (dataCon_ok (fnF_valid mixedT kc113 114 _ _ LF) hL)
theorem kc31 : HC (envT Tryz.prog 0) (C31 Tryz.prog LF) := fun L hL => extC_ok (kc114 L hL) (dataCon_ok (fnF_valid mixedT kc114 31 _ _ LF) hL)
theorem kc62 : HC (envT Tryz.prog 0) (C62 Tryz.prog LF) := fun L hL => extC_ok (kc31 L hL) (dataCon_ok (fnF_valid mixedT kc31 62 _ _ LF) hL)
theorem kc61 : HC (envT Tryz.prog 0) (C61 Tryz.prog LF) := fun L hL => extC_ok (kc62 L hL) (dataCon_ok (fnF_valid mixedT kc62 61 _ _ LF) hL)
theorem kc222 : HC (envT Tryz.prog 0) (C222 Tryz.prog LF) := fun L hL => extC_ok (kc61 L hL) (dataCon_ok (fnF_valid mixedT kc61 222 _ _ LF) hL)
theorem kc173 : HC (envT Tryz.prog 0) (C173 Tryz.prog LF) := fun L hL => extC_ok (kc222 L hL) (dataCon_ok (fnF_valid mixedT kc222 173 _ _ LF) hL)
theorem kc23 : HC (envT Tryz.prog 0) (C23 Tryz.prog LF) := fun L hL => extC_ok (kc173 L hL) (dataCon_ok (fnF_valid mixedT kc173 23 _ _ LF) hL)
theorem kc24 : HC (envT Tryz.prog 0) (C24 Tryz.prog LF) := fun L hL => extC_ok (kc23 L hL) (dataCon_ok (fnF_valid mixedT kc23 24 _ _ LF) hL)
theorem kc127 : HC (envT Tryz.prog 0) (C127 Tryz.prog LF) := fun L hL => extC_ok (kc24 L hL) (dataCon_ok (fnF_valid mixedT kc24 127 _ _ LF) hL)
theorem kc132 : HC (envT Tryz.prog 0) (C132 Tryz.prog LF) := fun L hL => extC_ok (kc127 L hL) (dataCon_ok (fnF_valid mixedT kc127 132 _ _ LF) hL)
theorem kc47 : HC (envT Tryz.prog 0) (C47 Tryz.prog LF) := fun L hL => extC_ok (kc132 L hL) (dataCon_ok (fnF_valid mixedT kc132 47 _ _ LF) hL)
theorem kc49 : HC (envT Tryz.prog 0) (C49 Tryz.prog LF) := fun L hL => extC_ok (kc47 L hL) (dataCon_ok (fnF_valid mixedT kc47 49 _ _ LF) hL)
theorem kc167 : HC (envT Tryz.prog 0) (C167 Tryz.prog LF) := fun L hL => extC_ok (kc49 L hL) (dataCon_ok (fnF_valid mixedT kc49 167 _ _ LF) hL)
theorem kc246 : HC (envT Tryz.prog 0) (C246 Tryz.prog LF) := fun L hL => extC_ok (kc167 L hL) (dataCon_ok (fnF_valid mixedT kc167 246 _ _ LF) hL)
theorem kc220 : HC (envT Tryz.prog 0) (C220 Tryz.prog LF) := fun L hL => extC_ok (kc246 L hL) (dataCon_ok (fnF_valid mixedT kc246 220 _ _ LF) hL)
theorem kc166 : HC (envT Tryz.prog 0) (C166 Tryz.prog LF) := fun L hL => extC_ok (kc220 L hL) (dataCon_ok (fnF_valid mixedT kc220 166 _ _ LF) hL)
theorem kc95 : HC (envT Tryz.prog 0) (C95 Tryz.prog LF) := fun L hL => extC_ok (kc166 L hL) (dataCon_ok (fnF_valid mixedT kc166 95 _ _ LF) hL)
theorem kc96 : HC (envT Tryz.prog 0) (C96 Tryz.prog LF) := fun L hL => extC_ok (kc95 L hL) (dataCon_ok (rec_valid mixedT kc95 (fun _ => rfl) (fun _ _ => rfl) LF) hL)
theorem kc19 : HC (envT Tryz.prog 0) (C19 Tryz.prog LF) := fun L hL => extC_ok (kc96 L hL) (dataCon_ok (fnF_valid mixedT kc96 19 _ _ LF) hL)
theorem kc128 : HC (envT Tryz.prog 0) (C128 Tryz.prog LF) := fun L hL => extC_ok (kc19 L hL) (dataCon_ok (fnF_valid mixedT kc19 128 _ _ LF) hL)
theorem kc41 : HC (envT Tryz.prog 0) (C41 Tryz.prog LF) := fun L hL => extC_ok (kc128 L hL) (dataCon_ok (fnF_valid mixedT kc128 41 _ _ LF) hL)
theorem kc102 : HC (envT Tryz.prog 0) (C102 Tryz.prog LF) := fun L hL => extC_ok (kc41 L hL) (dataCon_ok (fnF_valid mixedT kc41 102 _ _ LF) hL)
theorem kc22 : HC (envT Tryz.prog 0) (C22 Tryz.prog LF) := fun L hL => extC_ok (kc102 L hL) (dataCon_ok (fnF_valid mixedT kc102 22 _ _ LF) hL)
theorem kc126 : HC (envT Tryz.prog 0) (C126 Tryz.prog LF) := fun L hL => extC_ok (kc22 L hL) (dataCon_ok (fnF_valid mixedT kc22 126 _ _ LF) hL)
theorem kc168 : HC (envT Tryz.prog 0) (C168 Tryz.prog LF) := fun L hL => extC_ok (kc126 L hL) (dataCon_ok (fnF_valid mixedT kc126 168 _ _ LF) hL)
theorem kc84 : HC (envT Tryz.prog 0) (C84 Tryz.prog LF) := fun L hL => extC_ok (kc168 L hL) (dataCon_ok (fnF_valid mixedT kc168 84 _ _ LF) hL)
theorem kc99 : HC (envT Tryz.prog 0) (C99 Tryz.prog LF) := fun L hL => extC_ok (kc84 L hL) (dataCon_ok (fnF_valid mixedT kc84 99 _ _ LF) hL)
theorem kc117 : HC (envT Tryz.prog 0) (C117 Tryz.prog LF) := fun L hL => extC_ok (kc99 L hL) (dataCon_ok (fnF_valid mixedT kc99 117 _ _ LF) hL)
theorem kc98 : HC (envT Tryz.prog 0) (C98 Tryz.prog LF) := fun L hL => extC_ok (kc117 L hL) (dataCon_ok (fnF_valid mixedT kc117 98 _ _ LF) hL)
theorem kc97 : HC (envT Tryz.prog 0) (C97 Tryz.prog LF) := fun L hL => extC_ok (kc98 L hL) (dataCon_ok (fnF_valid mixedT kc98 97 _ _ LF) hL)
theorem kc111 : HC (envT Tryz.prog 0) (C111 Tryz.prog LF) := fun L hL => extC_ok (kc97 L hL) (dataCon_ok (fnF_valid mixedT kc97 111 _ _ LF) hL)
theorem kc30 : HC (envT Tryz.prog 0) (C30 Tryz.prog LF) := fun L hL => extC_ok (kc111 L hL) (dataCon_ok (fnF_valid mixedT kc111 30 _ _ LF) hL)
theorem kc37 : HC (envT Tryz.prog 0) (C37 Tryz.prog LF) := fun L hL => extC_ok (kc30 L hL) (dataCon_ok (fnF_valid mixedT kc30 37 _ _ LF) hL)
theorem kc118 : HC (envT Tryz.prog 0) (C118 Tryz.prog LF) := fun L hL => extC_ok (kc37 L hL) (dataCon_ok (fnF_valid mixedT kc37 118 _ _ LF) hL)
theorem kc109 : HC (envT Tryz.prog 0) (C109 Tryz.prog LF) := fun L hL => extC_ok (kc118 L hL) (dataCon_ok (fnF_valid mixedT kc118 109 _ _ LF) hL)
theorem kc176 : HC (envT Tryz.prog 0) (C176 Tryz.prog LF) := fun L hL => extC_ok (kc109 L hL) (dataCon_ok (fnF_valid mixedT kc109 176 _ _ LF) hL)
theorem kc177 : HC (envT Tryz.prog 0) (C177 Tryz.prog LF) := fun L hL => extC_ok (kc176 L hL) (dataCon_ok (fnF_valid mixedT kc176 177 _ _ LF) hL)
theorem kc108 : HC (envT Tryz.prog 0) (C108 Tryz.prog LF) := fun L hL => extC_ok (kc177 L hL) (dataCon_ok (fnF_valid mixedT kc177 108 _ _ LF) hL)
theorem kc120 : HC (envT Tryz.prog 0) (C120 Tryz.prog LF) := fun L hL => extC_ok (kc108 L hL) (dataCon_ok (fnF_valid mixedT kc108 120 _ _ LF) hL)
theorem kc119 : HC (envT Tryz.prog 0) (C119 Tryz.prog LF) := fun L hL => extC_ok (kc120 L hL) (dataCon_ok (fnF_valid mixedT kc120 119 _ _ LF) hL)
theorem kc32 : HC (envT Tryz.prog 0) (C32 Tryz.prog LF) := fun L hL => extC_ok (kc119 L hL) (dataCon_ok (fnF_valid mixedT kc119 32 _ _ LF) hL)
theorem kc33 : HC (envT Tryz.prog 0) (C33 Tryz.prog LF) := fun L hL => extC_ok (kc32 L hL) (dataCon_ok (fnF_valid mixedT kc32 33 _ _ LF) hL)
theorem kc107 : HC (envT Tryz.prog 0) (C107 Tryz.prog LF) := fun L hL => extC_ok (kc33 L hL) (dataCon_ok (fnF_valid mixedT kc33 107 _ _ LF) hL)
theorem kc56 : HC (envT Tryz.prog 0) (C56 Tryz.prog LF) := fun L hL => extC_ok (kc107 L hL) (dataCon_ok (fnF_valid mixedT kc107 56 _ _ LF) hL)
theorem kc57 : HC (envT Tryz.prog 0) (C57 Tryz.prog LF) := fun L hL => extC_ok (kc56 L hL) (dataCon_ok (fnF_valid mixedT kc56 57 _ _ LF) hL)
theorem kc40 : HC (envT Tryz.prog 0) (C40 Tryz.prog LF) := fun L hL => extC_ok (kc57 L hL) (dataCon_ok (fnF_valid mixedT kc57 40 _ _ LF) hL)
theorem kc28 : HC (envT Tryz.prog 0) (C28 Tryz.prog LF) := fun L hL => extC_ok (kc40 L hL) (dataCon_ok (fnF_valid mixedT kc40 28 _ _ LF) hL)
theorem kc148 : HC (envT Tryz.prog 0) (C148 Tryz.prog LF) := fun L hL => extC_ok (kc28 L hL) (dataCon_ok (fnF_valid mixedT kc28 148 _ _ LF) hL)
theorem kc149 : HC (envT Tryz.prog 0) (C149 Tryz.prog LF) := fun L hL => extC_ok (kc148 L hL) (dataCon_ok (fnF_valid mixedT kc148 149 _ _ LF) hL)
theorem kc27 : HC (envT Tryz.prog 0) (C27 Tryz.prog LF) := fun L hL => extC_ok (kc149 L hL) (dataCon_ok (fnF_valid mixedT kc149 27 _ _ LF) hL)
theorem kc150 : HC (envT Tryz.prog 0) (C150 Tryz.prog LF) := fun L hL => extC_ok (kc27 L hL) (dataCon_ok (fnF_valid mixedT kc27 150 _ _ LF) hL)
theorem kc142 : HC (envT Tryz.prog 0) (C142 Tryz.prog LF) := fun L hL => extC_ok (kc150 L hL) (dataCon_ok (fnF_valid mixedT kc150 142 _ _ LF) hL)
theorem kc145 : HC (envT Tryz.prog 0) (C145 Tryz.prog LF) := fun L hL => extC_ok (kc142 L hL) (dataCon_ok (fnF_valid mixedT kc142 145 _ _ LF) hL)
theorem kc83 : HC (envT Tryz.prog 0) (C83 Tryz.prog LF) := fun L hL => extC_ok (kc145 L hL) (dataCon_ok (fnF_valid mixedT kc145 83 _ _ LF) hL)
theorem kc129 : HC (envT Tryz.prog 0) (C129 Tryz.prog LF) := fun L hL => extC_ok (kc83 L hL) (dataCon_ok (fnF_valid mixedT kc83 129 _ _ LF) hL)
theorem kc156 : HC (envT Tryz.prog 0) (C156 Tryz.prog LF) := fun L hL => extC_ok (kc129 L hL) (dataCon_ok (fnF_valid mixedT kc129 156 _ _ LF) hL)
theorem kc43 : HC (envT Tryz.prog 0) (C43 Tryz.prog LF) := fun L hL => extC_ok (kc156 L hL) (dataCon_ok (fnF_valid mixedT kc156 43 _ _ LF) hL)
theorem kc39 : HC (envT Tryz.prog 0) (C39 Tryz.prog LF) := fun L hL => extC_ok (kc43 L hL) (dataCon_ok (fnF_valid mixedT kc43 39 _ _ LF) hL)
theorem kc25 : HC (envT Tryz.prog 0) (C25 Tryz.prog LF) := fun L hL => extC_ok (kc39 L hL) (dataCon_ok (fnF_valid mixedT kc39 25 _ _ LF) hL)
theorem kc45 : HC (envT Tryz.prog 0) (C45 Tryz.prog LF) := fun L hL => extC_ok (kc25 L hL) (dataCon_ok (fnF_valid mixedT kc25 45 _ _ LF) hL)
theorem kc21 : HC (envT Tryz.prog 0) (C21 Tryz.prog LF) := fun L hL => extC_ok (kc45 L hL) (dataCon_ok (fnF_valid mixedT kc45 21 _ _ LF) hL)
theorem kc82 : HC (envT Tryz.prog 0) (C82 Tryz.prog LF) := fun L hL => extC_ok (kc21 L hL) (dataCon_ok (fnF_valid mixedT kc21 82 _ _ LF) hL)
theorem kcD26 : HC (envT Tryz.prog 0) (D26 Tryz.prog LF) := fun L hL => extC_ok (kc82 L hL) (dataCon_ok (fnF_valid mixedT kc57 26 _ _ LF) hL)
theorem kc151 : HC (envT Tryz.prog 0) (C151 Tryz.prog LF) := fun L hL => extC_ok (kcD26 L hL) (dataCon_ok (fnF_valid mixedT kcD26 151 _ _ LF) hL)
theorem kc70 : HC (envT Tryz.prog 0) (C70 Tryz.prog LF) := fun L hL => extC_ok (kc151 L hL) (dataCon_ok (fnF_valid mixedT kc151 70 _ _ LF) hL)
theorem kc77 : HC (envT Tryz.prog 0) (C77 Tryz.prog LF) := fun L hL => extC_ok (kc70 L hL) (dataCon_ok (fnF_valid mixedT kc70 77 _ _ LF) hL)
theorem kc79 : HC (envT Tryz.prog 0) (C79 Tryz.prog LF) := fun L hL => extC_ok (kc77 L hL) (dataCon_ok (fnF_valid mixedT kc77 79 _ _ LF) hL)
theorem kc81 : HC (envT Tryz.prog 0) (C81 Tryz.prog LF) := fun L hL => extC_ok (kc79 L hL) (dataCon_ok (fnF_valid mixedT kc79 81 _ _ LF) hL)
theorem kc66 : HC (envT Tryz.prog 0) (C66 Tryz.prog LF) := fun L hL => extC_ok (kc81 L hL) (dataCon_ok (fnF_valid mixedT kc81 66 _ _ LF) hL)
theorem kc143 : HC (envT Tryz.prog 0) (C143 Tryz.prog LF) := fun L hL => extC_ok (kc66 L hL) (dataCon_ok (fnF_valid mixedT kc66 143 _ _ LF) hL)
theorem kc58 : HC (envT Tryz.prog 0) (C58 Tryz.prog LF) := fun L hL => extC_ok (kc143 L hL) (dataCon_ok (fnF_valid mixedT kc143 58 _ _ LF) hL)
theorem kc63 : HC (envT Tryz.prog 0) (C63 Tryz.prog LF) := fun L hL => extC_ok (kc58 L hL) (dataCon_ok (fnF_valid mixedT kc58 63 _ _ LF) hL)
theorem kc144 : HC (envT Tryz.prog 0) (C144 Tryz.prog LF) := fun L hL => extC_ok (kc63 L hL) (dataCon_ok (fnF_valid mixedT kc63 144 _ _ LF) hL)
theorem kc60 : HC (envT Tryz.prog 0) (C60 Tryz.prog LF) := fun L hL => extC_ok (kc144 L hL) (dataCon_ok (fnF_valid mixedT kc144 60 _ _ LF) hL)
theorem kc59 : HC (envT Tryz.prog 0) (C59 Tryz.prog LF) := fun L hL => extC_ok (kc60 L hL) (dataCon_ok (fnF_valid mixedT kc60 59 _ _ LF) hL)
theorem kc64 : HC (envT Tryz.prog 0) (C64 Tryz.prog LF) := fun L hL => extC_ok (kc59 L hL) (dataCon_ok (fnF_valid mixedT kc59 64 _ _ LF) hL)
theorem kc74 : HC (envT Tryz.prog 0) (C74 Tryz.prog LF) := fun L hL => extC_ok (kc64 L hL) (dataCon_ok (fnF_valid mixedT kc64 74 _ _ LF) hL)
theorem kc75 : HC (envT Tryz.prog 0) (C75 Tryz.prog LF) := fun L hL => extC_ok (kc74 L hL) (dataCon_ok (fnF_valid mixedT kc74 75 _ _ LF) hL)
theorem kc76 : HC (envT Tryz.prog 0) (C76 Tryz.prog LF) := fun L hL => extC_ok (kc75 L hL) (dataCon_ok (fnF_valid mixedT kc75 76 _ _ LF) hL)
theorem kc65 : HC (envT Tryz.prog 0) (C65 Tryz.prog LF) := fun L hL => extC_ok (kc76 L hL) (dataCon_ok (fnF_valid mixedT kc76 65 _ _ LF) hL)
theorem kc67 : HC (envT Tryz.prog 0) (C67 Tryz.prog LF) := fun L hL => extC_ok (kc65 L hL) (dataCon_ok (fnF_valid mixedT kc65 67 _ _ LF) hL)
theorem kc78 : HC (envT Tryz.prog 0) (C78 Tryz.prog LF) := fun L hL => extC_ok (kc67 L hL) (dataCon_ok (fnF_valid mixedT kc67 78 _ _ LF) hL)
theorem kc80 : HC (envT Tryz.prog 0) (C80 Tryz.prog LF) := fun L hL => extC_ok (kc78 L hL) (dataCon_ok (fnF_valid mixedT kc78 80 _ _ LF) hL)
theorem kc42 : HC (envT Tryz.prog 0) (C42 Tryz.prog LF) := fun L hL => extC_ok (kc80 L hL) (dataCon_ok (fnF_valid mixedT kc80 42 _ _ LF) hL)
theorem kc46 : HC (envT Tryz.prog 0) (C46 Tryz.prog LF) := fun L hL => extC_ok (kc42 L hL) (dataCon_ok (fnF_valid mixedT kc42 46 _ _ LF) hL)
theorem kc48 : HC (envT Tryz.prog 0) (C48 Tryz.prog LF) := fun L hL => extC_ok (kc46 L hL) (dataCon_ok (fnF_valid mixedT kc46 48 _ _ LF) hL)
theorem kc44 : HC (envT Tryz.prog 0) (C44 Tryz.prog LF) := fun L hL => extC_ok (kc48 L hL) (dataCon_ok (fnF_valid mixedT kc48 44 _ _ LF) hL)
theorem kc55 : HC (envT Tryz.prog 0) (C55 Tryz.prog LF) := fun L hL => extC_ok (kc44 L hL) (dataCon_ok (fnF_valid mixedT kc44 55 _ _ LF) hL)
theorem kc73 : HC (envT Tryz.prog 0) (C73 Tryz.prog LF) := fun L hL => extC_ok (kc55 L hL) (dataCon_ok (fnF_valid mixedT kc55 73 _ _ LF) hL)
theorem kc4 : HC (envT Tryz.prog 0) (C4 Tryz.prog LF) := fun L hL => extC_ok (kc73 L hL) (dataCon_ok (fnF_valid mixedT kc73 4 _ _ LF) hL)
end Go.K
set_option linter.unusedVariables false
namespace Go.Sx
open Go.Sl Go.RowKit Go.ChangeShapes
def I64 (n : Int) : Prop := -9223372036854775808 ≤ n ∧ n ≤ 9223372036854775807
def Opens {α : Type} (P : Program) (t : TypeId) (T : Ty α) (ok : α → Prop) : Prop :=
  ∀ (H : Type) (enc : TypeId × Value → H) (W : World) (fuel : Nat) (cs : List Value) (d : DataW H × List MemPlace),
    DataW.trod enc P W 0 (fun _ => true) true fuel t cs = some d → ∃ x, T.rep (Zone.all W) cs x ∧ ok x
theorem mapM_mem {α β : Type} {f : α → Option β} : ∀ {l : List α} {ys : List β}, l.mapM f = some ys → ∀ a ∈ l, ∃ y, f a = some y
  | [], _, _, a, ha => by cases ha
  | x :: l, ys, h, a, ha => by
    rw [List.mapM_cons] at h
    cases hx : f x with
    | none => rw [hx] at h; simp at h
    | some y =>
      rw [hx] at h
      simp only [Option.pure_def, Option.bind_eq_bind, Option.bind_some] at h
      cases hl : l.mapM f with
      | none => rw [hl] at h; simp at h
      | some zs =>
        rcases List.mem_cons.1 ha with e | e
        · subst e; exact ⟨y, hx⟩
        · exact mapM_mem hl a e
section
variable {H : Type} {enc : TypeId × Value → H} {P : Program} {W : World} {fuel : Nat} {t : TypeId} {cs : List Value} {d : DataW H × List MemPlace}
theorem trod_fields {fs : Array Field} (ht : P.underlying t = some (.struct fs)) (h : DataW.trod enc P W 0 (fun _ => true) true fuel t cs = some d) :
    cs.length = P.cellsOf t ∧ ∃ n, ∀ f ∈ fs.toList, ∃ y, DataW.trod enc P W 0 (fun _ => true) true n f.type ((cs.drop f.offset).take (P.cellsOf f.type)) = some y := by
  cases fuel with
  | zero => simp [DataW.trod] at h
  | succ n =>
    simp only [DataW.trod, ht] at h
    by_cases hl : cs.length = P.cellsOf t
    · rw [if_pos hl] at h
      refine ⟨hl, n, fun f hf => ?_⟩
      cases hm : fs.toList.mapM fun f => DataW.trod enc P W 0 (fun _ => true) true n f.type ((cs.drop f.offset).take (P.cellsOf f.type)) with
      | none => rw [hm] at h; simp at h
      | some ys => exact mapM_mem hm f hf
    · rw [if_neg hl] at h; cases h
theorem trod_items {m : Nat} {e : TypeId} (ht : P.underlying t = some (.array m e)) (h : DataW.trod enc P W 0 (fun _ => true) true fuel t cs = some d) :
    cs.length = P.cellsOf t ∧ ∃ n, ∀ i, i < m → ∃ y, DataW.trod enc P W 0 (fun _ => true) true n e ((cs.drop (i * P.cellsOf e)).take (P.cellsOf e)) = some y := by
  cases fuel with
  | zero => simp [DataW.trod] at h
  | succ n =>
    simp only [DataW.trod, ht] at h
    by_cases hl : cs.length = P.cellsOf t
    · rw [if_pos hl] at h
      refine ⟨hl, n, fun i hi => ?_⟩
      cases hm : (List.range m).mapM fun i => DataW.trod enc P W 0 (fun _ => true) true n e ((cs.drop (i * P.cellsOf e)).take (P.cellsOf e)) with
      | none => rw [hm] at h; simp at h
      | some ys => exact mapM_mem hm i (List.mem_range.2 hi)
    · rw [if_neg hl] at h; cases h
end
theorem wf_I64 {n : Int} (h : (Lit.int .i64 n).wf = true) : I64 n := by
  have e1 : IntKind.i64.min = -9223372036854775808 := by decide
  have e2 : IntKind.i64.max = 9223372036854775807 := by decide
  simp only [Lit.wf, e1, e2, Bool.and_eq_true, decide_eq_true_eq] at h
  exact h
theorem opens_slice {α : Type} {P : Program} {t e : TypeId} {T : Ty α} {ok : α → Prop} (ht : P.underlying t = some (.slice e)) (he : P.cellsOf e = T.size) (h : Opens P e T ok) : Opens P t (Ty.slice T) (fun xs => (∀ x ∈ xs, ok x) ∧ xs.length ≤ maxLen) := fun H enc W fuel cs d hd => by
  rcases Go.Deep.open_slice ht hd with ⟨rfl, _⟩ | ⟨a, len, cap, m, n, D, Pl, rfl, _, hl, hm, hmm, _, hx⟩
  · exact ⟨[], ⟨none, 0, rfl, SliceR.nil' T _⟩, ⟨(fun _ h => by cases h), by simp⟩⟩
  · simp only [if_true] at hmm
    have hall : ∀ i, i < len → ∃ x, (∃ c, T.rep (Zone.all W) c x ∧ ∀ j v, c[j]? = some v → (Zone.all W).cell? ((a.add (i * T.size)).add j) = some v) ∧ ok x := fun i hi => by
      obtain ⟨cs', h1, h2⟩ := hx i (by omega)
      obtain ⟨x, hr, ho⟩ := h H enc W n cs' _ h2
      refine ⟨x, ⟨cs', hr, fun j v hj => ?_⟩, ho⟩
      rw [he] at h1
      obtain ⟨_, hlen, hc⟩ := World.cells?_some h1
      have hlt : j < cs'.length := (List.getElem?_eq_some_iff.1 hj).1
      exact (hc j (by omega)).trans hj
    have key : ∀ k, k ≤ len → ∃ xs : List α, xs.length = k ∧ (∀ x ∈ xs, ok x) ∧ ∀ i x, xs[i]? = some x → ∃ c, T.rep (Zone.all W) c x ∧ ∀ j v, c[j]? = some v → (Zone.all W).cell? ((a.add (i * T.size)).add j) = some v := by
      intro k
      induction k with
      | zero => exact fun _ => ⟨[], rfl, (fun _ h => by cases h), (fun i x h => by simp at h)⟩
      | succ k ih =>
        intro hk
        obtain ⟨xs, h1, h2, h3⟩ := ih (by omega)
        obtain ⟨x, hx1, hx2⟩ := hall k (by omega)
        refine ⟨xs ++ [x], by simp [h1], fun y hy => ?_, fun i y hy => ?_⟩
        · rcases List.mem_append.1 hy with e | e
          · exact h2 y e
          · simp only [List.mem_singleton] at e; exact e ▸ hx2
        · rw [List.getElem?_append] at hy
          split at hy
          · exact h3 i y hy
          · rename_i hge
            have : i - xs.length = 0 := by
              have := (List.getElem?_eq_some_iff.1 hy).1
              simp at this; omega
            rw [this] at hy
            simp only [List.getElem?_cons_zero, Option.some.injEq] at hy
            subst hy
            have : i = k := by omega
            subst this
            exact hx1
    obtain ⟨xs, h1, h2, h3⟩ := key len (Nat.le_refl _)
    refine ⟨xs, ⟨some a, cap, by rw [h1], ⟨by omega, hm, (fun e => by cases e), fun b e i x hi => ?_⟩⟩, ⟨h2, by omega⟩⟩
    cases e
    exact h3 i x hi
section
variable {H : Type} {enc : TypeId × Value → H} {P : Program} {W : World} {base : Nat} {t : TypeId} {v : Value} {d : DataW H} {ps : List MemPlace}
theorem arg_agg {α : Type} {T : Ty α} {ok : α → Prop} (hs : (match P.underlying t with | some (.struct _) => true | some (.array _ _) => true | _ => false) = true) (hv : Value.okWide P W .any base t v) (h : DataW.Trod enc P W 0 (fun _ => true) true t v d ps) (ho : Opens P t T ok) :
    ∃ cs x, v = .agg cs.toArray ∧ T.rep (Zone.all W) cs x ∧ ok x := by
  obtain ⟨fuel, hf⟩ := h
  obtain ⟨x, hx, hok⟩ := ho H enc W fuel _ _ hf
  have : ∃ cs, v = .agg cs := by
    unfold Value.okWide at hv
    split at hs
    · rename_i fs ht; rw [ht] at hv; obtain ⟨cs, e, _⟩ := hv; exact ⟨cs, e⟩
    · rename_i m e ht; rw [ht] at hv; obtain ⟨cs, e, _⟩ := hv; exact ⟨cs, e⟩
    · cases hs
  obtain ⟨cs, rfl⟩ := this
  exact ⟨cs.toList, x, rfl, hx, hok⟩
theorem arg_int (ht : P.underlying t = some (.int .i64)) (hv : Value.okWide P W .any base t v) (h : DataW.Trod enc P W 0 (fun _ => true) true t v d ps) : ∃ n, v = .int .i64 n ∧ I64 n := by
  obtain ⟨n, rfl, _, _, hw⟩ := open_int ht hv h
  exact ⟨n, rfl, wf_I64 hw⟩
theorem arg_slice {α : Type} {e : TypeId} {T : Ty α} {ok : α → Prop} (ht : P.underlying t = some (.slice e)) (he : P.cellsOf e = T.size) (hv : Value.okWide P W .any base t v) (h : DataW.Trod enc P W 0 (fun _ => true) true t v d ps) (ho : Opens P e T ok) :
    ∃ o xs cap, v = .slice o (List.length xs) cap ∧ SliceR T (Zone.all W) o cap xs ∧ (∀ x ∈ xs, ok x) ∧ xs.length ≤ maxLen := by
  obtain ⟨fuel, hf⟩ := h
  obtain ⟨o, len, cap, rfl⟩ := Go.WideShapes.okWide_slice ht hv
  obtain ⟨xs, ⟨o', cap', e1, hs⟩, hok, hl⟩ := opens_slice ht he ho H enc W fuel _ _ hf
  simp only [Value.cells, List.cons.injEq, Value.slice.injEq, and_true] at e1
  obtain ⟨rfl, rfl, rfl⟩ := e1
  exact ⟨o, xs, cap, rfl, hs, hok, hl⟩
theorem trodAll_stays (hl : laidOutB P = true) {W' : World} (hb : Below W.heap.size W W') : ∀ {ts : List TypeId} {vs : List Value} {ds : List (DataW H)} {ps : List MemPlace}, (ts.all fun t => P.readableRec t && Nat.blt t P.types.size) = true →
    DataW.TrodAll enc P W 0 (fun _ => true) true ts vs ds ps → (∀ p ∈ ps, p.block < W.heap.size) → DataW.TrodAll enc P W' 0 (fun b => decide (b < W.heap.size)) true ts vs ds ps
  | [], [], [], _, _, h, _ => h
  | t :: ts, v :: vs, d :: ds, _, hr, ⟨p, q, h1, h2, e⟩, hlt => by
    simp only [List.all_cons, Bool.and_eq_true, Nat.blt_eq] at hr
    subst e
    exact ⟨p, q, Below.trod hl hr.1.1 hr.1.2 h1 hb (fun x hx => hlt x (List.mem_append_left _ hx)), trodAll_stays hl hb hr.2 h2 (fun x hx => hlt x (List.mem_append_right _ hx)), rfl⟩
  | [], _ :: _, _, _, _, h, _ => h.elim
  | [], [], _ :: _, _, _, h, _ => h.elim
  | _ :: _, [], _, _, _, h, _ => h.elim
  | _ :: _, _ :: _, [], _, _, h, _ => h.elim
theorem post_true {f : Func} {s : ChangeSpec} {args : Array Value} {ds : List (DataW H)} {before : List MemPlace} {apart : Bool} {W' : World} {tb : TypeId} (hl : laidOutB P = true) (hvars : s.vars = []) (hr : (f.params.toList.all fun t => P.readableRec t && Nat.blt t P.types.size) = true)
    (hres : f.resultTypes = #[tb]) (hu : P.underlying tb = some .bool) (hW : DataW.Whole enc P f.params.toList s.vars apart W args.toList ds [] before) (hb : Below W.heap.size W W') (hs : s.fn H (ds ++ []) = { results := [.lit (.bool true)], args := ds }) :
    s.post enc P f apart true false false W args (.bool true) W' := by
  have hlt := hW.lt
  have hW0 := hW
  obtain ⟨p, q, hA, hV, rfl, _, _⟩ := hW
  rw [hvars] at hV
  obtain ⟨_, rfl⟩ := trodVars_none hV
  refine ⟨ds, [], p ++ [], [], p, [], hW0, ?_, ?_, ?_, hb.frame _, fun h => by cases h⟩
  · rw [hs, hres]; exact trodAll_mk1 (shut_bool hu true)
  · rw [hs]; exact trodAll_stays hl hb hr hA (fun x hx => hlt x (by simpa using hx))
  · rw [hs, hvars]; rfl
end
end Go.Sx
namespace Go.Sx
structure A2 where
  a0 : Int
  a1 : Int
  deriving DecidableEq
structure A3 where
  a0 : Int
  a1 : Int
  a2 : Int
  deriving DecidableEq
end Go.Sx
set_option linter.unusedVariables false
namespace Go.Sx
open Go.Sl Go.RowKit Go.ChangeShapes Go.Proofs
variable {H : Type} {enc : TypeId × Value → H}
theorem returns_and_shaped {a : Assume} {C : Checked} {os : Os} {f : FuncId} {fn : Func} {s : ChangeSpec} {conds : List PathCond} {apart fresh handsOn again : Bool} {X : World → Array Value → Prop}
    (hX : ∀ (w w' : World) (args : Array Value), w.heap = w'.heap → X w args → X w' args)
    (own : ownKnob C.prog.godebug = none) (started : os.Started) (noInit : C.prog.inits.idxOf? f = none) (hfn : C.prog.funcs[f]? = some fn)
    (witness : ∃ (w : World) (tape : Tape) (i : Input), w.os = os ∧ (w.forCall tape i).Shaped C.prog ∧ i.vars = [] ∧ Input.okWide C.prog (w.forCall tape i) .any w.heap.size f i ∧
      ((s.pre enc C.prog fn conds apart (w.forCall tape i).memory i.args ∧ X (w.forCall tape i).memory i.args) ∧ sizedMet enc C.prog fn (OpenSpec.ofChange s) apart (w.forCall tape i).memory i.args) ∧ a.holds C.prog (lone (Frame.enter C.prog f i.args .normal) [] (w.forCall tape i)))
    (contract : ∀ (W : World) (base : Nat) (args : Array Value) (ds gs : List (DataW H)) (before : List MemPlace),
      (∀ (j : Nat) t v, fn.params[j]? = some t → args[j]? = some v → Value.okWide C.prog W .any base t v) →
      DataW.Whole enc C.prog fn.params.toList s.vars apart W args.toList ds gs before → X W args → W.ShapedOpen C.prog →
      Calls C.prog f args W fun e W' => ∃ v, e = .returned v ∧ s.post enc C.prog fn apart fresh handsOn again W args v W') :
    ReturnsInHanded a C os f .any (fun w args => (s.pre enc C.prog fn conds apart w args ∧ X w args) ∧ sizedMet enc C.prog fn (OpenSpec.ofChange s) apart w args) (s.post enc C.prog fn apart fresh handsOn again) := by
  refine returnsInHanded_of_calls own started noInit witness ?_
  intro w tape i _ hsh _ hok hpre hholds
  obtain ⟨_, _, _, fn', hfn', _, _, _, _, hval⟩ := hok
  have e : fn' = fn := Option.some.inj (hfn'.symm.trans hfn)
  subst e
  obtain ⟨⟨⟨ds, gs, before, hw, hc⟩, hx⟩, hz⟩ := hpre
  have hw' := DataW.Whole.of_heap (w' := w.forCall tape i) (by rfl) hw
  refine (contract (w.forCall tape i) w.heap.size i.args ds gs before hval hw' (hX _ _ _ (by rfl) hx) hsh).mono fun e W' ⟨v, he, hp⟩ => ?_
  subst he
  exact ChangeSpec.post_blind hp
theorem env_of {P : Program} {W : World} {g : Nat} (h1 : Lib.TabIs P W "internal/strconv.uint64pow10" .u64 Lib.pow10Tab) (h2 : ∃ m, W.cell? ⟨g, 0, none⟩ = some (.int .i64 m)) : Sx.Env P g (Zone.all W) := by
  refine ⟨fun L w hS => ?_, ?_⟩
  · have hle := hS.whole
    unfold Lib.TabIs World.var? at h1 ⊢
    cases hg : P.globalNamed "internal/strconv.uint64pow10" with
    | none => rw [hg] at h1; cases h1
    | some b =>
      rw [hg] at h1
      simp only [Option.bind_some] at h1 ⊢
      cases hb : W.heap[b]? with
      | none => rw [hb] at h1; cases h1
      | some o =>
        have hb' : w.heap[b]? = some o := hle.blk b o hb
        rw [hb'] ; rw [hb] at h1; exact h1
  · obtain ⟨m, hm⟩ := h2
    exact ⟨m, hm⟩
end Go.Sx
set_option linter.unusedVariables false
namespace Go.K
open Go.Sl Go.Sx Go.RowKit Go.ChangeShapes Go.Proofs
def opF (P : Program) (rec : TypeId → TC → Bool) : List Field → Nat → TC → Bool
  | [f], off, u => Nat.beq f.offset off && (Nat.beq (P.cellsOf f.type) u.size && rec f.type u)
  | f :: g :: r, off, .pair a b => (Nat.beq f.offset off && (Nat.beq (P.cellsOf f.type) a.size && rec f.type a)) && opF P rec (g :: r) (off + a.size) b
  | _, _, _ => false
def opA (rec : TypeId → TC → Bool) (e : TypeId) (k : Nat) : Nat → TC → Bool
  | 1, u => Nat.beq k u.size && rec e u
  | n + 2, .pair a b => (Nat.beq k a.size && rec e a) && opA rec e k (n + 1) b
  | _, _ => false
def opB (P : Program) : Nat → TypeId → TC → Bool
  | 0, _, _ => false
  | n + 1, t, u => match P.underlying t with
    | some (.int .i64) => (match u with | .int .i64 => true | _ => false)
    | some .string => (match u with | .str => true | _ => false)
    | some (.slice e) => (match u with | .sl v => Nat.beq (P.cellsOf e) v.size && opB P n e v | _ => false)
    | some (.struct fs) => Nat.beq (P.cellsOf t) u.size && opF P (opB P n) fs.toList 0 u
    | some (.array m e) => Nat.beq (P.cellsOf t) u.size && opA (opB P n) e (P.cellsOf e) m u
    | _ => false
theorem opB_ok {P : Program} : ∀ (n : Nat) {t : TypeId} {u : TC}, opB P n t u = true → Opens P t u.ty (fun _ => True)
  | 0, _, _, h => by cases h
  | n + 1, t, u, h => by
    unfold opB at h
    split at h
    · rename_i ht
      split at h
      · intro H enc W fuel cs d hd
        obtain ⟨m, rfl, _, _⟩ := DataW.trod_int ht hd
        exact ⟨m, rfl, trivial⟩
      · cases h
    · rename_i ht
      split at h
      · intro H enc W fuel cs d hd
        obtain ⟨s, rfl, _, _⟩ := DataW.trod_string ht hd
        exact ⟨s, rfl, trivial⟩
      · cases h
    · rename_i e ht
      split at h
      · rename_i v
        simp only [Bool.and_eq_true, Nat.beq_eq] at h
        intro H enc W fuel cs d hd
        obtain ⟨x, hx, _⟩ := opens_slice ht (h.1.trans v.size_eq.symm) (opB_ok n h.2) H enc W fuel cs d hd
        exact ⟨x, hx, trivial⟩
      · cases h
    · rename_i fs ht
      simp only [Bool.and_eq_true, Nat.beq_eq] at h
      obtain ⟨h0, h1⟩ := h
      intro H enc W fuel cs d hd
      obtain ⟨hl, k, hx⟩ := trod_fields ht hd
      have key : ∀ (l : List Field) (off : Nat) (u : TC), (∀ f ∈ l, f ∈ fs.toList) → opF P (opB P n) l off u = true → cs.length = off + u.size → ∃ x, u.ty.rep (Zone.all W) (cs.drop off) x := by
        intro l
        induction l with
        | nil => intro off u _ hh _; simp [opF] at hh
        | cons f r ih =>
          intro off u hsub hh hlen
          cases r with
          | nil =>
            simp only [opF, Bool.and_eq_true, Nat.beq_eq] at hh
            obtain ⟨e1, e2, e3⟩ := hh
            obtain ⟨y, hy⟩ := hx f (hsub f (List.mem_cons_self ..))
            rw [e1, e2, List.take_of_length_le (by rw [List.length_drop]; omega)] at hy
            obtain ⟨x, hx', _⟩ := opB_ok n e3 H enc W k _ y hy
            exact ⟨x, hx'⟩
          | cons g r =>
            cases u with
            | pair a b =>
              simp only [opF, Bool.and_eq_true, Nat.beq_eq] at hh
              obtain ⟨⟨e1, e2, e3⟩, e4⟩ := hh
              simp only [TC.size] at hlen
              obtain ⟨y, hy⟩ := hx f (hsub f (List.mem_cons_self ..))
              rw [e1, e2] at hy
              obtain ⟨x1, r1, _⟩ := opB_ok n e3 H enc W k _ y hy
              obtain ⟨x2, r2⟩ := ih (off + a.size) b (fun q hq => hsub q (List.mem_cons_of_mem _ hq)) e4 (by omega)
              refine ⟨(x1, x2), (cs.drop off).take a.size, cs.drop (off + a.size), ?_, r1, r2⟩
              rw [← List.drop_drop, List.take_append_drop]
            | _ => simp [opF] at hh
      obtain ⟨x, hx'⟩ := key fs.toList 0 u (fun _ h => h) h1 (by omega)
      exact ⟨x, by simpa using hx', trivial⟩
    · rename_i m e ht
      simp only [Bool.and_eq_true, Nat.beq_eq] at h
      obtain ⟨h0, h1⟩ := h
      intro H enc W fuel cs d hd
      obtain ⟨hl, k, hx⟩ := trod_items ht hd
      have key : ∀ (q i : Nat) (u : TC), i + q = m → opA (opB P n) e (P.cellsOf e) q u = true → cs.length = i * P.cellsOf e + u.size → ∃ x, u.ty.rep (Zone.all W) (cs.drop (i * P.cellsOf e)) x := by
        intro q
        induction q with
        | zero => intro i u _ hh _; simp [opA] at hh
        | succ q ih =>
          intro i u hq hh hlen
          cases q with
          | zero =>
            simp only [opA, Bool.and_eq_true, Nat.beq_eq] at hh
            obtain ⟨y, hy⟩ := hx i (by omega)
            rw [List.take_of_length_le (by rw [List.length_drop]; omega)] at hy
            obtain ⟨x, hx', _⟩ := opB_ok n hh.2 H enc W k _ y hy
            exact ⟨x, hx'⟩
          | succ q =>
            cases u with
            | pair a b =>
              simp only [opA, Bool.and_eq_true, Nat.beq_eq] at hh
              obtain ⟨⟨e2, e3⟩, e4⟩ := hh
              simp only [TC.size] at hlen
              obtain ⟨y, hy⟩ := hx i (by omega)
              obtain ⟨x1, r1, _⟩ := opB_ok n e3 H enc W k _ y hy
              obtain ⟨x2, r2⟩ := ih (i + 1) b (by omega) e4 (by rw [Nat.add_mul]; omega)
              refine ⟨(x1, x2), (cs.drop (i * P.cellsOf e)).take (P.cellsOf e), cs.drop ((i + 1) * P.cellsOf e), ?_, r1, r2⟩
              rw [Nat.add_mul, Nat.one_mul, ← List.drop_drop, List.take_append_drop]
            | _ => simp [opA] at hh
      obtain ⟨x, hx'⟩ := key m 0 u (by omega) h1 (by omega)
      exact ⟨x, by simpa using hx', trivial⟩
    · cases h
section
variable {H : Type} {enc : TypeId × Value → H} {P : Program} {W : World} {base : Nat} {t : TypeId} {v : Value} {d : DataW H} {ps : List MemPlace}
theorem oA {u : TC} (hs : (match P.underlying t with | some (.struct _) => true | some (.array _ _) => true | _ => false) = true) (hb : opB P 12 t u = true) (hv : Value.okWide P W .any base t v) (h : DataW.Trod enc P W 0 (fun _ => true) true t v d ps) : ∃ x : u.den, repA (Zone.all W) (true, u) v x := by
  obtain ⟨cs, x, rfl, hr, _⟩ := arg_agg hs hv h (opB_ok 12 hb)
  exact ⟨x, .inl ⟨rfl, cs, rfl, hr⟩⟩
theorem oL {u : TC} {e : TypeId} (ht : P.underlying t = some (.slice e)) (he : P.cellsOf e = u.size) (hb : opB P 12 e u = true) (hv : Value.okWide P W .any base t v) (h : DataW.Trod enc P W 0 (fun _ => true) true t v d ps) : ∃ x : List u.den, repA (Zone.all W) (false, .sl u) v x ∧ x.length ≤ maxLen := by
  obtain ⟨o, x, c, rfl, hr, _, hl⟩ := arg_slice ht (he.trans u.size_eq.symm) hv h (opB_ok 12 hb)
  exact ⟨x, .inr ⟨rfl, o, c, rfl, hr⟩, hl⟩
theorem oI (ht : P.underlying t = some (.int .i64)) (hv : Value.okWide P W .any base t v) (h : DataW.Trod enc P W 0 (fun _ => true) true t v d ps) : ∃ x : Int, repA (Zone.all W) (false, .i) v x ∧ I64 x := by
  obtain ⟨x, rfl, hl⟩ := arg_int ht hv h
  exact ⟨x, .inr ⟨rfl, rfl⟩, hl⟩
end
end Go.K
