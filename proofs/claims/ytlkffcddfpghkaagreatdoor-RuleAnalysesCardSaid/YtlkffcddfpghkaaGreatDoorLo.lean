/-
  A part of the walk and of the plain law of one given statement. No condition.
-/
import Derived.Test.YtlkffcddfpghkaaGreatDoorR13
import Derived.Test.YtlkffcddfpghkaaGreatDoorProg
import Derived.Test.YtlkffcddfpghkaaGreatDoorK8
import Derived.Test.YtlkffcddfpghkaaGreatDoorG5
import Derived.Shelf.Sort.Plain
import Derived.Shelf.Slices.In.SortNone
import Derived.Shelf.SlicesG.CompactI
import Derived.Shelf.Spec.SlicesGrow
import Derived.Sort.OwnSortedInts
import Derived.Shelf.Strings.OnBuilder
import Derived.Lib.Join
import Derived.WalkKit
import Derived.Test.YtlkffcddfpghkaaGreatDoorSh
import Derived.Shelf.RegionOpenPlain
import Derived.Lib.Slices
import Derived.Lib.Walk
import Derived.Laws.Externs
import Derived.ProofKit
import Derived.OpenShut
import Derived.Stop.Joined
import Derived.Deep.Slices
import Derived.SizedLaws
import Derived.Shelf.Vars
import Derived.Lay
import Derived.LaidMore
set_option linter.unusedVariables false
set_option maxRecDepth 100000
set_option maxHeartbeats 0
namespace Go.K
open Go.Sl Go.Sx Go.Proofs
def S65 : FuncId → Sp := fun g => match g with
  | 209 => { joins := [(12, [(.slot 7, .dat .i), (.slot 3, .own .i 3)])], loops := [(9, [(.slot 7, .dat .i), (.slot 3, .own .i 3)]), (3, [(.slot 4, .own .i 3), (.slot 13, .dat .i)]), (1, [(.slot 3, .own .i 3), (.cell 0 0 [1], .own .bool 4)])] }
  | 65 => { joins := [(7, [(.slot 40, .dat .bool)])], loops := [(4, [(.slot 18, .dat .i)])] }
  | 128 => { nz := [(11, [12])] }
  | _ => {}
noncomputable def F65 (P : Program) (lf : Nat) (x : tt [(false, (.sl (.pair .str (.pair .i .i)))), (true, (.sl (.pair .i (.pair .i (.pair .i (.pair .str .i))))))]) : Option (tt [(false, .i), (false, .i)]) := fnF P (C76 P lf) S65 65 [(false, (.sl (.pair .str (.pair .i .i)))), (true, (.sl (.pair .i (.pair .i (.pair .i (.pair .str .i))))))] [(false, .i), (false, .i)] lf x
noncomputable def C65 (P : Program) (lf : Nat) : FuncId → Option Con := extC (C76 P lf) 65 (dataCon [(false, (.sl (.pair .str (.pair .i .i)))), (true, (.sl (.pair .i (.pair .i (.pair .i (.pair .str .i))))))] [(false, .i), (false, .i)] (F65 P lf))
def S67 : FuncId → Sp := fun g => match g with
  | 209 => { joins := [(12, [(.slot 7, .dat .i), (.slot 3, .own .i 3)])], loops := [(9, [(.slot 7, .dat .i), (.slot 3, .own .i 3)]), (3, [(.slot 4, .own .i 3), (.slot 13, .dat .i)]), (1, [(.slot 3, .own .i 3), (.cell 0 0 [3, 1], .own .bool 4)])] }
  | 175 => { fz := [(4, [(.slot 6, .dat (.sl .i))])] }
  | 67 => { joins := [(2, [(.slot 10, .dat .i)])] }
  | 128 => { nz := [(11, [12])] }
  | _ => {}
noncomputable def F67 (P : Program) (lf : Nat) (x : tt [(true, (.pair .str (.pair (.sl (.pair .str (.pair .i .i))) (.sl (.pair .str (.pair .i (.pair .i (.pair (.sl (.pair .i (.pair .i (.pair .i (.pair .str .i))))) (.pair (.sl (.pair .i (.pair .i (.pair .i (.pair .str .i))))) (.sl .str)))))))))), (false, .i), (false, .i), (false, (.sl (.pair .str (.pair .i .i))))]) : Option (tt [(false, .i), (false, .i)]) := fnF P (C65 P lf) S67 67 [(true, (.pair .str (.pair (.sl (.pair .str (.pair .i .i))) (.sl (.pair .str (.pair .i (.pair .i (.pair (.sl (.pair .i (.pair .i (.pair .i (.pair .str .i))))) (.pair (.sl (.pair .i (.pair .i (.pair .i (.pair .str .i))))) (.sl .str)))))))))), (false, .i), (false, .i), (false, (.sl (.pair .str (.pair .i .i))))] [(false, .i), (false, .i)] lf x
noncomputable def C67 (P : Program) (lf : Nat) : FuncId → Option Con := extC (C65 P lf) 67 (dataCon [(true, (.pair .str (.pair (.sl (.pair .str (.pair .i .i))) (.sl (.pair .str (.pair .i (.pair .i (.pair (.sl (.pair .i (.pair .i (.pair .i (.pair .str .i))))) (.pair (.sl (.pair .i (.pair .i (.pair .i (.pair .str .i))))) (.sl .str)))))))))), (false, .i), (false, .i), (false, (.sl (.pair .str (.pair .i .i))))] [(false, .i), (false, .i)] (F67 P lf))
def S78 : FuncId → Sp := fun g => match g with
  | 78 => { joins := [(2, [(.slot 8, .dat .i)])], loops := [(9, [(.slot 10, .own .str 9), (.slot 29, .dat .i)])] }
  | 128 => { nz := [(11, [12])] }
  | _ => {}
noncomputable def F78 (P : Program) (lf : Nat) (x : tt [(true, (.pair .str (.pair (.sl (.pair .str (.pair .i .i))) (.sl (.pair .str (.pair .i (.pair .i (.pair (.sl (.pair .i (.pair .i (.pair .i (.pair .str .i))))) (.pair (.sl (.pair .i (.pair .i (.pair .i (.pair .str .i))))) (.sl .str)))))))))), (false, .i), (false, (.sl (.pair .str (.pair .i .i))))]) : Option (tt [(false, (.sl .str)), (false, .i)]) := fnF P (C67 P lf) S78 78 [(true, (.pair .str (.pair (.sl (.pair .str (.pair .i .i))) (.sl (.pair .str (.pair .i (.pair .i (.pair (.sl (.pair .i (.pair .i (.pair .i (.pair .str .i))))) (.pair (.sl (.pair .i (.pair .i (.pair .i (.pair .str .i))))) (.sl .str)))))))))), (false, .i), (false, (.sl (.pair .str (.pair .i .i))))] [(false, (.sl .str)), (false, .i)] lf x
noncomputable def C78 (P : Program) (lf : Nat) : FuncId → Option Con := extC (C67 P lf) 78 (dataCon [(true, (.pair .str (.pair (.sl (.pair .str (.pair .i .i))) (.sl (.pair .str (.pair .i (.pair .i (.pair (.sl (.pair .i (.pair .i (.pair .i (.pair .str .i))))) (.pair (.sl (.pair .i (.pair .i (.pair .i (.pair .str .i))))) (.sl .str)))))))))), (false, .i), (false, (.sl (.pair .str (.pair .i .i))))] [(false, (.sl .str)), (false, .i)] (F78 P lf))
def S80 : FuncId → Sp := fun g => match g with
  | 80 => { joins := [(19, [(.slot 82, .dat .bool)]), (15, [(.cell 16 1, .dat .i)]), (2, [(.slot 10, .dat .i)])], loops := [(10, [(.slot 12, .own (.pair .i .i) 46), (.slot 39, .dat .i)])] }
  | 128 => { nz := [(11, [12])] }
  | _ => {}
noncomputable def F80 (P : Program) (lf : Nat) (x : tt [(true, (.pair .str (.pair (.sl (.pair .str (.pair .i .i))) (.sl (.pair .str (.pair .i (.pair .i (.pair (.sl (.pair .i (.pair .i (.pair .i (.pair .str .i))))) (.pair (.sl (.pair .i (.pair .i (.pair .i (.pair .str .i))))) (.sl .str)))))))))), (false, .i), (false, (.sl (.pair .str (.pair .i .i)))), (false, .str)]) : Option (tt [(false, (.sl (.pair .i .i))), (false, .i)]) := fnF P (C78 P lf) S80 80 [(true, (.pair .str (.pair (.sl (.pair .str (.pair .i .i))) (.sl (.pair .str (.pair .i (.pair .i (.pair (.sl (.pair .i (.pair .i (.pair .i (.pair .str .i))))) (.pair (.sl (.pair .i (.pair .i (.pair .i (.pair .str .i))))) (.sl .str)))))))))), (false, .i), (false, (.sl (.pair .str (.pair .i .i)))), (false, .str)] [(false, (.sl (.pair .i .i))), (false, .i)] lf x
noncomputable def C80 (P : Program) (lf : Nat) : FuncId → Option Con := extC (C78 P lf) 80 (dataCon [(true, (.pair .str (.pair (.sl (.pair .str (.pair .i .i))) (.sl (.pair .str (.pair .i (.pair .i (.pair (.sl (.pair .i (.pair .i (.pair .i (.pair .str .i))))) (.pair (.sl (.pair .i (.pair .i (.pair .i (.pair .str .i))))) (.sl .str)))))))))), (false, .i), (false, (.sl (.pair .str (.pair .i .i)))), (false, .str)] [(false, (.sl (.pair .i .i))), (false, .i)] (F80 P lf))
def S42 : FuncId → Sp := fun g => match g with
  | 42 => { joins := [(9, [(.slot 82, .dat .bool)]), (5, [(.slot 44, .dat .bool)])] }
  | 128 => { nz := [(11, [12])] }
  | _ => {}
noncomputable def F42 (P : Program) (lf : Nat) (x : tt [(true, (.pair .str (.pair (.sl (.pair .str (.pair .i .i))) (.sl (.pair .str (.pair .i (.pair .i (.pair (.sl (.pair .i (.pair .i (.pair .i (.pair .str .i))))) (.pair (.sl (.pair .i (.pair .i (.pair .i (.pair .str .i))))) (.sl .str)))))))))), (true, (.pair .i (.pair .i (.pair .i (.sl .i)))))]) : Option (tt [(false, .i)]) := fnF P (C80 P lf) S42 42 [(true, (.pair .str (.pair (.sl (.pair .str (.pair .i .i))) (.sl (.pair .str (.pair .i (.pair .i (.pair (.sl (.pair .i (.pair .i (.pair .i (.pair .str .i))))) (.pair (.sl (.pair .i (.pair .i (.pair .i (.pair .str .i))))) (.sl .str)))))))))), (true, (.pair .i (.pair .i (.pair .i (.sl .i)))))] [(false, .i)] lf x
noncomputable def C42 (P : Program) (lf : Nat) : FuncId → Option Con := extC (C80 P lf) 42 (dataCon [(true, (.pair .str (.pair (.sl (.pair .str (.pair .i .i))) (.sl (.pair .str (.pair .i (.pair .i (.pair (.sl (.pair .i (.pair .i (.pair .i (.pair .str .i))))) (.pair (.sl (.pair .i (.pair .i (.pair .i (.pair .str .i))))) (.sl .str)))))))))), (true, (.pair .i (.pair .i (.pair .i (.sl .i)))))] [(false, .i)] (F42 P lf))
theorem F42_eq (lf : Nat) (a0 : ByteArray) (a1 : (List (ByteArray × (Int × Int)))) (a2 : (List (ByteArray × (Int × (Int × ((List (Int × (Int × (Int × (ByteArray × Int))))) × ((List (Int × (Int × (Int × (ByteArray × Int))))) × (List ByteArray)))))))) (a3 : Int) (a4 : Int) (a5 : Int) (a6 : (List Int)) : F42 Tryz.prog lf ((a0, (a1, a2)), (a3, (a4, (a5, a6)))) =
  ((F31 Tryz.prog lf (a0, (a1, a2)))).bind fun r28 => cond (!(decide (r28 = (0 : Int)))) (some r28) (jn (cond (decide (a3 < (0 : Int))) (some (.inl true)) (cond (decide (a3 ≥ a4)) (some (.inl true)) (cond (decide (a4 ≥ (a2.length : Int))) (some (.inl true)) (((F91 Tryz.prog lf (a5, ((0 : Int), (100000 : Int))))).bind fun r29 => cond (!r29) (some (.inl true)) (((F129 Tryz.prog lf ((a0, (a1, a2)), a6))).bind fun r30 => some (.inl (!r30))))))) (fun y31 : Bool => cond y31 (some (42 : Int)) (agree (((F131 Tryz.prog lf ())).bind fun r32 => agree (((F130 Tryz.prog lf ((a0, (a1, a2)), (a5, (a6, ()))))).bind fun r33 => ((F128 Tryz.prog lf ((a0, (a1, a2)), (a3, (a4, a5))))).bind fun r34 => jn (cond (!r34.2) (some (.inl true)) (((getI r33.1 a3)).bind fun r35 => cond (!r35) (some (.inl true)) (((getI r33.1 a4)).bind fun r36 => some (.inl (!r36))))) (fun y37 : Bool => cond y37 (some (42 : Int)) (some (0 : Int)))) (((F130 Tryz.prog lf ((a0, (a1, a2)), (a5, (a6, ()))))).bind fun r38 => ((F128 Tryz.prog lf ((a0, (a1, a2)), (a3, (a4, a5))))).bind fun r39 => jn (cond (!r39.2) (some (.inl true)) (((getI r38.1 a3)).bind fun r40 => cond (!r40) (some (.inl true)) (((getI r38.1 a4)).bind fun r41 => some (.inl (!r41))))) (fun y42 : Bool => cond y42 (some (42 : Int)) (some (0 : Int))))) (((F131 Tryz.prog lf ())).bind fun r43 => ((F130 Tryz.prog lf ((a0, (a1, a2)), (a5, (a6, ()))))).bind fun r44 => ((F128 Tryz.prog lf ((a0, (a1, a2)), (a3, (a4, a5))))).bind fun r45 => jn (cond (!r45.2) (some (.inl true)) (((getI r44.1 a3)).bind fun r46 => cond (!r46) (some (.inl true)) (((getI r44.1 a4)).bind fun r47 => some (.inl (!r47))))) (fun y48 : Bool => cond y48 (some (42 : Int)) (some (0 : Int))))))) := by kernel_rfl
def S46 : FuncId → Sp := fun g => match g with
  | 46 => { loops := [(6, [(.slot 5, .own .i 3), (.slot 17, .dat .i)])] }
  | 128 => { nz := [(11, [12])] }
  | _ => {}
noncomputable def F46 (P : Program) (lf : Nat) (x : tt [(true, (.pair .str (.pair (.sl (.pair .str (.pair .i .i))) (.sl (.pair .str (.pair .i (.pair .i (.pair (.sl (.pair .i (.pair .i (.pair .i (.pair .str .i))))) (.pair (.sl (.pair .i (.pair .i (.pair .i (.pair .str .i))))) (.sl .str))))))))))]) : Option (tt [(false, (.sl .i)), (false, .i)]) := fnF P (C42 P lf) S46 46 [(true, (.pair .str (.pair (.sl (.pair .str (.pair .i .i))) (.sl (.pair .str (.pair .i (.pair .i (.pair (.sl (.pair .i (.pair .i (.pair .i (.pair .str .i))))) (.pair (.sl (.pair .i (.pair .i (.pair .i (.pair .str .i))))) (.sl .str))))))))))] [(false, (.sl .i)), (false, .i)] lf x
noncomputable def C46 (P : Program) (lf : Nat) : FuncId → Option Con := extC (C42 P lf) 46 (dataCon [(true, (.pair .str (.pair (.sl (.pair .str (.pair .i .i))) (.sl (.pair .str (.pair .i (.pair .i (.pair (.sl (.pair .i (.pair .i (.pair .i (.pair .str .i))))) (.pair (.sl (.pair .i (.pair .i (.pair .i (.pair .str .i))))) (.sl .str))))))))))] [(false, (.sl .i)), (false, .i)] (F46 P lf))
theorem F46_eq (lf : Nat) (a0 : ByteArray) (a1 : (List (ByteArray × (Int × Int)))) (a2 : (List (ByteArray × (Int × (Int × ((List (Int × (Int × (Int × (ByteArray × Int))))) × ((List (Int × (Int × (Int × (ByteArray × Int))))) × (List ByteArray)))))))) : F46 Tryz.prog lf (a0, (a1, a2)) =
  ((F31 Tryz.prog lf (a0, (a1, a2)))).bind fun r8 => cond (!(decide (r8 = (0 : Int)))) (some (([] : List Int), r8)) (iter lf (fun y9 : ((List Int) × Int) => cond (decide (y9.2 < (a2.length : Int))) (((F132 Tryz.prog lf ((a0, (a1, a2)), y9.2))).bind fun r10 => cond (!r10.2) (((appC y9.1 [y9.2])).bind fun r11 => some (.inl (r11, (w64 (y9.2 + (1 : Int)))))) (some (.inl (y9.1, (w64 (y9.2 + (1 : Int))))))) (some (.inr (y9.1, (0 : Int))))) (([] : List Int), (0 : Int))) := by kernel_rfl
def S48 : FuncId → Sp := fun g => match g with
  | 48 => { joins := [(5, [(.slot 36, .dat .bool)]), (2, [(.slot 7, .dat .i)])] }
  | 128 => { nz := [(11, [12])] }
  | _ => {}
noncomputable def F48 (P : Program) (lf : Nat) (x : tt [(true, (.pair .str (.pair (.sl (.pair .str (.pair .i .i))) (.sl (.pair .str (.pair .i (.pair .i (.pair (.sl (.pair .i (.pair .i (.pair .i (.pair .str .i))))) (.pair (.sl (.pair .i (.pair .i (.pair .i (.pair .str .i))))) (.sl .str)))))))))), (false, .i), (true, (.pair .i (.sl .i)))]) : Option (tt [(false, .i)]) := fnF P (C46 P lf) S48 48 [(true, (.pair .str (.pair (.sl (.pair .str (.pair .i .i))) (.sl (.pair .str (.pair .i (.pair .i (.pair (.sl (.pair .i (.pair .i (.pair .i (.pair .str .i))))) (.pair (.sl (.pair .i (.pair .i (.pair .i (.pair .str .i))))) (.sl .str)))))))))), (false, .i), (true, (.pair .i (.sl .i)))] [(false, .i)] lf x
noncomputable def C48 (P : Program) (lf : Nat) : FuncId → Option Con := extC (C46 P lf) 48 (dataCon [(true, (.pair .str (.pair (.sl (.pair .str (.pair .i .i))) (.sl (.pair .str (.pair .i (.pair .i (.pair (.sl (.pair .i (.pair .i (.pair .i (.pair .str .i))))) (.pair (.sl (.pair .i (.pair .i (.pair .i (.pair .str .i))))) (.sl .str)))))))))), (false, .i), (true, (.pair .i (.sl .i)))] [(false, .i)] (F48 P lf))
theorem F48_eq (lf : Nat) (a0 : ByteArray) (a1 : (List (ByteArray × (Int × Int)))) (a2 : (List (ByteArray × (Int × (Int × ((List (Int × (Int × (Int × (ByteArray × Int))))) × ((List (Int × (Int × (Int × (ByteArray × Int))))) × (List ByteArray)))))))) (a3 : Int) (a4 : Int) (a5 : (List Int)) : F48 Tryz.prog lf ((a0, (a1, a2)), (a3, (a4, a5))) =
  jn (((F31 Tryz.prog lf (a0, (a1, a2)))).bind fun r15 => cond (!(decide (r15 = (0 : Int)))) (some (.inl r15)) (((F91 Tryz.prog lf (a3, ((0 : Int), (w64 ((a2.length : Int) - (1 : Int))))))).bind fun r16 => cond (!r16) (some (.inl (47 : Int))) (some (.inl (0 : Int))))) (fun y17 : Int => cond (!(decide (y17 = (0 : Int)))) (some y17) (jn (((F91 Tryz.prog lf (a4, ((0 : Int), (100000 : Int))))).bind fun r18 => cond (!r18) (some (.inl true)) (((F129 Tryz.prog lf ((a0, (a1, a2)), a5))).bind fun r19 => cond (!r19) (some (.inl true)) (((F131 Tryz.prog lf ())).bind fun r20 => ((F130 Tryz.prog lf ((a0, (a1, a2)), (a4, (a5, ()))))).bind fun r21 => ((F133 Tryz.prog lf ((r21.1, r21.2), a3))).bind fun r22 => some (.inl (!r22))))) (fun y23 : Bool => cond y23 (some (42 : Int)) (some (0 : Int))))) := by kernel_rfl
def S44 : FuncId → Sp := fun g => match g with
  | 128 => { nz := [(11, [12])] }
  | _ => {}
noncomputable def F44 (P : Program) (lf : Nat) (x : tt [(true, (.pair .str (.pair (.sl (.pair .str (.pair .i .i))) (.sl (.pair .str (.pair .i (.pair .i (.pair (.sl (.pair .i (.pair .i (.pair .i (.pair .str .i))))) (.pair (.sl (.pair .i (.pair .i (.pair .i (.pair .str .i))))) (.sl .str))))))))))]) : Option (tt [(false, (.sl .i)), (false, .i)]) := fnF P (C48 P lf) S44 44 [(true, (.pair .str (.pair (.sl (.pair .str (.pair .i .i))) (.sl (.pair .str (.pair .i (.pair .i (.pair (.sl (.pair .i (.pair .i (.pair .i (.pair .str .i))))) (.pair (.sl (.pair .i (.pair .i (.pair .i (.pair .str .i))))) (.sl .str))))))))))] [(false, (.sl .i)), (false, .i)] lf x
noncomputable def C44 (P : Program) (lf : Nat) : FuncId → Option Con := extC (C48 P lf) 44 (dataCon [(true, (.pair .str (.pair (.sl (.pair .str (.pair .i .i))) (.sl (.pair .str (.pair .i (.pair .i (.pair (.sl (.pair .i (.pair .i (.pair .i (.pair .str .i))))) (.pair (.sl (.pair .i (.pair .i (.pair .i (.pair .str .i))))) (.sl .str))))))))))] [(false, (.sl .i)), (false, .i)] (F44 P lf))
def S55 : FuncId → Sp := fun g => match g with
  | 128 => { nz := [(11, [12])] }
  | _ => {}
noncomputable def F55 (P : Program) (lf : Nat) (x : tt [(true, (.pair .str (.pair (.sl (.pair .str (.pair .i .i))) (.sl (.pair .str (.pair .i (.pair .i (.pair (.sl (.pair .i (.pair .i (.pair .i (.pair .str .i))))) (.pair (.sl (.pair .i (.pair .i (.pair .i (.pair .str .i))))) (.sl .str))))))))))]) : Option (tt [(false, (.sl (.sl .i))), (false, .i)]) := fnF P (C44 P lf) S55 55 [(true, (.pair .str (.pair (.sl (.pair .str (.pair .i .i))) (.sl (.pair .str (.pair .i (.pair .i (.pair (.sl (.pair .i (.pair .i (.pair .i (.pair .str .i))))) (.pair (.sl (.pair .i (.pair .i (.pair .i (.pair .str .i))))) (.sl .str))))))))))] [(false, (.sl (.sl .i))), (false, .i)] lf x
noncomputable def C55 (P : Program) (lf : Nat) : FuncId → Option Con := extC (C44 P lf) 55 (dataCon [(true, (.pair .str (.pair (.sl (.pair .str (.pair .i .i))) (.sl (.pair .str (.pair .i (.pair .i (.pair (.sl (.pair .i (.pair .i (.pair .i (.pair .str .i))))) (.pair (.sl (.pair .i (.pair .i (.pair .i (.pair .str .i))))) (.sl .str))))))))))] [(false, (.sl (.sl .i))), (false, .i)] (F55 P lf))
def S73 : FuncId → Sp := fun g => match g with
  | 73 => { joins := [(2, [(.slot 6, .dat .i)])], loops := [(6, [(.slot 7, .own .i 3), (.slot 19, .dat .i)])] }
  | 128 => { nz := [(11, [12])] }
  | _ => {}
noncomputable def F73 (P : Program) (lf : Nat) (x : tt [(true, (.pair .str (.pair (.sl (.pair .str (.pair .i .i))) (.sl (.pair .str (.pair .i (.pair .i (.pair (.sl (.pair .i (.pair .i (.pair .i (.pair .str .i))))) (.pair (.sl (.pair .i (.pair .i (.pair .i (.pair .str .i))))) (.sl .str)))))))))), (false, .i)]) : Option (tt [(false, (.sl .i)), (false, .i)]) := fnF P (C55 P lf) S73 73 [(true, (.pair .str (.pair (.sl (.pair .str (.pair .i .i))) (.sl (.pair .str (.pair .i (.pair .i (.pair (.sl (.pair .i (.pair .i (.pair .i (.pair .str .i))))) (.pair (.sl (.pair .i (.pair .i (.pair .i (.pair .str .i))))) (.sl .str)))))))))), (false, .i)] [(false, (.sl .i)), (false, .i)] lf x
noncomputable def C73 (P : Program) (lf : Nat) : FuncId → Option Con := extC (C55 P lf) 73 (dataCon [(true, (.pair .str (.pair (.sl (.pair .str (.pair .i .i))) (.sl (.pair .str (.pair .i (.pair .i (.pair (.sl (.pair .i (.pair .i (.pair .i (.pair .str .i))))) (.pair (.sl (.pair .i (.pair .i (.pair .i (.pair .str .i))))) (.sl .str)))))))))), (false, .i)] [(false, (.sl .i)), (false, .i)] (F73 P lf))
def S4 : FuncId → Sp := fun g => match g with
  | 4 => { joins := [(15, [(.slot 110, .dat .bool)]), (10, [(.slot 84, .dat .bool)])], loops := [(22, [(.slot 128, .dat .i)]), (12, [(.slot 88, .dat .i)])] }
  | 128 => { nz := [(11, [12])] }
  | _ => {}
noncomputable def F4 (P : Program) (lf : Nat) (x : tt [(true, (.pair .str (.pair (.sl (.pair .str (.pair .i .i))) (.sl (.pair .str (.pair .i (.pair .i (.pair (.sl (.pair .i (.pair .i (.pair .i (.pair .str .i))))) (.pair (.sl (.pair .i (.pair .i (.pair .i (.pair .str .i))))) (.sl .str)))))))))), (true, (.pair .i (.pair .i (.pair (.sl (.pair .str (.pair .i .i))) .str))))]) : Option (tt [(false, .bool)]) := fnF P (C73 P lf) S4 4 [(true, (.pair .str (.pair (.sl (.pair .str (.pair .i .i))) (.sl (.pair .str (.pair .i (.pair .i (.pair (.sl (.pair .i (.pair .i (.pair .i (.pair .str .i))))) (.pair (.sl (.pair .i (.pair .i (.pair .i (.pair .str .i))))) (.sl .str)))))))))), (true, (.pair .i (.pair .i (.pair (.sl (.pair .str (.pair .i .i))) .str))))] [(false, .bool)] lf x
noncomputable def C4 (P : Program) (lf : Nat) : FuncId → Option Con := extC (C73 P lf) 4 (dataCon [(true, (.pair .str (.pair (.sl (.pair .str (.pair .i .i))) (.sl (.pair .str (.pair .i (.pair .i (.pair (.sl (.pair .i (.pair .i (.pair .i (.pair .str .i))))) (.pair (.sl (.pair .i (.pair .i (.pair .i (.pair .str .i))))) (.sl .str)))))))))), (true, (.pair .i (.pair .i (.pair (.sl (.pair .str (.pair .i .i))) .str))))] [(false, .bool)] (F4 P lf))
def S9 : FuncId → Sp := fun g => match g with
  | 9 => { joins := [(23, [(.slot 116, .dat .bool)]), (21, [(.slot 83, .dat .bool)])], loops := [(14, [(.slot 12, .dat .bool), (.slot 51, .dat .i)]), (10, [(.slot 46, .dat .i)])] }
  | 128 => { nz := [(11, [12])] }
  | _ => {}
noncomputable def F9 (P : Program) (lf : Nat) (x : tt [(true, (.pair .str (.pair (.sl (.pair .str (.pair .i .i))) (.sl (.pair .str (.pair .i (.pair .i (.pair (.sl (.pair .i (.pair .i (.pair .i (.pair .str .i))))) (.pair (.sl (.pair .i (.pair .i (.pair .i (.pair .str .i))))) (.sl .str)))))))))), (false, .i), (false, (.sl .i))]) : Option (tt [(false, .bool)]) := fnF P (C4 P lf) S9 9 [(true, (.pair .str (.pair (.sl (.pair .str (.pair .i .i))) (.sl (.pair .str (.pair .i (.pair .i (.pair (.sl (.pair .i (.pair .i (.pair .i (.pair .str .i))))) (.pair (.sl (.pair .i (.pair .i (.pair .i (.pair .str .i))))) (.sl .str)))))))))), (false, .i), (false, (.sl .i))] [(false, .bool)] lf x
noncomputable def C9 (P : Program) (lf : Nat) : FuncId → Option Con := extC (C4 P lf) 9 (dataCon [(true, (.pair .str (.pair (.sl (.pair .str (.pair .i .i))) (.sl (.pair .str (.pair .i (.pair .i (.pair (.sl (.pair .i (.pair .i (.pair .i (.pair .str .i))))) (.pair (.sl (.pair .i (.pair .i (.pair .i (.pair .str .i))))) (.sl .str)))))))))), (false, .i), (false, (.sl .i))] [(false, .bool)] (F9 P lf))
def S15 : FuncId → Sp := fun g => match g with
  | 128 => { nz := [(11, [12])] }
  | _ => {}
noncomputable def F15 (P : Program) (lf : Nat) (x : tt [(true, (.pair .str (.pair (.sl (.pair .str (.pair .i .i))) (.sl (.pair .str (.pair .i (.pair .i (.pair (.sl (.pair .i (.pair .i (.pair .i (.pair .str .i))))) (.pair (.sl (.pair .i (.pair .i (.pair .i (.pair .str .i))))) (.sl .str)))))))))), (true, (.pair .i (.pair .i (.pair (.sl (.pair .str (.pair .i .i))) .str))))]) : Option (tt [(false, .bool)]) := fnF P (C9 P lf) S15 15 [(true, (.pair .str (.pair (.sl (.pair .str (.pair .i .i))) (.sl (.pair .str (.pair .i (.pair .i (.pair (.sl (.pair .i (.pair .i (.pair .i (.pair .str .i))))) (.pair (.sl (.pair .i (.pair .i (.pair .i (.pair .str .i))))) (.sl .str)))))))))), (true, (.pair .i (.pair .i (.pair (.sl (.pair .str (.pair .i .i))) .str))))] [(false, .bool)] lf x
noncomputable def C15 (P : Program) (lf : Nat) : FuncId → Option Con := extC (C9 P lf) 15 (dataCon [(true, (.pair .str (.pair (.sl (.pair .str (.pair .i .i))) (.sl (.pair .str (.pair .i (.pair .i (.pair (.sl (.pair .i (.pair .i (.pair .i (.pair .str .i))))) (.pair (.sl (.pair .i (.pair .i (.pair .i (.pair .str .i))))) (.sl .str)))))))))), (true, (.pair .i (.pair .i (.pair (.sl (.pair .str (.pair .i .i))) .str))))] [(false, .bool)] (F15 P lf))
def S12 : FuncId → Sp := fun g => match g with
  | 12 => { joins := [(8, [(.slot 92, .dat .bool)])] }
  | 128 => { nz := [(11, [12])] }
  | _ => {}
noncomputable def F12 (P : Program) (lf : Nat) (x : tt [(true, (.pair .str (.pair (.sl (.pair .str (.pair .i .i))) (.sl (.pair .str (.pair .i (.pair .i (.pair (.sl (.pair .i (.pair .i (.pair .i (.pair .str .i))))) (.pair (.sl (.pair .i (.pair .i (.pair .i (.pair .str .i))))) (.sl .str)))))))))), (true, (.pair .i (.pair .i (.pair .i (.sl .i))))), (true, (.pair .i (.sl .i)))]) : Option (tt [(false, .bool)]) := fnF P (C15 P lf) S12 12 [(true, (.pair .str (.pair (.sl (.pair .str (.pair .i .i))) (.sl (.pair .str (.pair .i (.pair .i (.pair (.sl (.pair .i (.pair .i (.pair .i (.pair .str .i))))) (.pair (.sl (.pair .i (.pair .i (.pair .i (.pair .str .i))))) (.sl .str)))))))))), (true, (.pair .i (.pair .i (.pair .i (.sl .i))))), (true, (.pair .i (.sl .i)))] [(false, .bool)] lf x
theorem F12_eq (lf : Nat) (a0 : ByteArray) (a1 : (List (ByteArray × (Int × Int)))) (a2 : (List (ByteArray × (Int × (Int × ((List (Int × (Int × (Int × (ByteArray × Int))))) × ((List (Int × (Int × (Int × (ByteArray × Int))))) × (List ByteArray)))))))) (a3 : Int) (a4 : Int) (a5 : Int) (a6 : (List Int)) (a7 : Int) (a8 : (List Int)) : F12 Tryz.prog lf ((a0, (a1, a2)), ((a3, (a4, (a5, a6))), (a7, a8))) =
  ((F41 Tryz.prog lf (a0, (a1, a2)))).bind fun r24 => ((F58 Tryz.prog lf (a0, (a1, a2)))).bind fun r25 => ((F46 Tryz.prog lf (a0, (a1, a2)))).bind fun r26 => ((F59 Tryz.prog lf (a0, (a1, a2)))).bind fun r27 => ((F47 Tryz.prog lf ((a0, (a1, a2)), a3))).bind fun r28 => ((F60 Tryz.prog lf ((a0, (a1, a2)), a3))).bind fun r29 => jn (((F61 Tryz.prog lf (r24.1, r25.1))).bind fun r30 => cond (!r30) (some (.inl true)) (cond (!(decide (r24.2 = r25.2))) (some (.inl true)) (((F62 Tryz.prog lf (r26.1, r27.1))).bind fun r31 => cond (!r31) (some (.inl true)) (cond (!(decide (r26.2 = r27.2))) (some (.inl true)) (cond (!(decide (r28.1.1 = r29.1.1))) (some (.inl true)) (((F62 Tryz.prog lf (r28.1.2, r29.1.2))).bind fun r32 => cond (!r32) (some (.inl true)) (some (.inl (!(decide (r28.2 = r29.2))))))))))) (fun y33 : Bool => cond y33 (some false) (((F42 Tryz.prog lf ((a0, (a1, a2)), (a3, (a4, (a5, a6)))))).bind fun r34 => ((F63 Tryz.prog lf ((a0, (a1, a2)), (a3, (a4, (a5, a6)))))).bind fun r35 => cond (decide (r34 = r35)) (((F48 Tryz.prog lf ((a0, (a1, a2)), (a4, (a7, a8))))).bind fun r36 => ((F64 Tryz.prog lf ((a0, (a1, a2)), (a4, (a7, a8))))).bind fun r37 => cond (decide (r36 = r37)) (((F22 Tryz.prog lf ())).bind fun r38 => some r38) (some false)) (some false))) := by kernel_rfl
end Go.K
set_option linter.unusedVariables false
set_option linter.unusedSimpArgs false
set_option maxRecDepth 100000
set_option maxHeartbeats 0
namespace Go.K
open Go.Sl Go.Sx Go.Proofs
def G143 (lf : Nat) (x : ((ByteArray × ((List (ByteArray × (Int × Int))) × (List (ByteArray × (Int × (Int × ((List (Int × (Int × (Int × (ByteArray × Int))))) × ((List (Int × (Int × (Int × (ByteArray × Int))))) × (List ByteArray))))))))) × (Int × (Int × Int)))) : Option (((List Int) × Bool)) :=
  ((G27 lf ((x.1.1, (x.1.2.1, x.1.2.2)), x.1.2.1))).bind fun r35 => iter lf (fun y36 : ((List Int) × (Bool × Int)) => cond (decide (y36.2.2 < (r35.length : Int))) (jn (((getI r35 y36.2.2)).bind fun r37 => ((G40 lf ((x.1.1, (x.1.2.1, x.1.2.2)), (x.2.2.2, r37)))).bind fun r38 => ((getI r38 x.2.1)).bind fun r39 => cond (!r39) (some (.inl (y36.1, y36.2.1))) (((getI r38 x.2.2.1)).bind fun r40 => cond (!r40) (some (.inl (y36.1, y36.2.1))) (jn (((getI x.1.2.2 x.2.1)).bind fun r41 => ((G57 lf (x.1.2.1, (r41.2.2.2.2.1, r37)))).bind fun r42 => cond r42 (((getI x.1.2.2 x.2.2.1)).bind fun r43 => ((G57 lf (x.1.2.1, (r43.2.2.2.2.1, r37)))).bind fun r44 => some (.inl r44)) (some (.inl false))) (fun y45 : Bool => cond y45 (some (.inr (.inr (([] : List Int), false)))) (cond (!y36.2.1) (some (.inl (r37, true))) (some (.inl (y36.1, y36.2.1)))))))) (fun y46 : ((List Int) × Bool) => some (.inl (y46.1, (y46.2, (w64 (y36.2.2 + (1 : Int)))))))) (some (.inr (y36.1, y36.2.1)))) (([] : List Int), (false, (0 : Int)))
theorem F143_G (lf : Nat) (x : ((ByteArray × ((List (ByteArray × (Int × Int))) × (List (ByteArray × (Int × (Int × ((List (Int × (Int × (Int × (ByteArray × Int))))) × ((List (Int × (Int × (Int × (ByteArray × Int))))) × (List ByteArray))))))))) × (Int × (Int × Int)))) : F143 Tryz.prog lf x = G143 lf x := (F143_eq lf x.1.1 x.1.2.1 x.1.2.2 x.2.1 x.2.2.1 x.2.2.2).trans (by
  unfold G143
  (try simp only [F27_G, F40_G, F57_G, agree_self, Lib.toList_data]); first | done | rfl)
def G58 (lf : Nat) (x : (ByteArray × ((List (ByteArray × (Int × Int))) × (List (ByteArray × (Int × (Int × ((List (Int × (Int × (Int × (ByteArray × Int))))) × ((List (Int × (Int × (Int × (ByteArray × Int))))) × (List ByteArray)))))))))) : Option (((List (Int × (Int × (Int × (List Int))))) × Int)) :=
  ((G32 lf (x.1, (x.2.1, x.2.2)))).bind fun r14 => cond (!(decide (r14 = (0 : Int)))) (some (([] : List (Int × (Int × (Int × (List Int))))), r14)) (iter lf (fun y15 : ((List (Int × (Int × (Int × (List Int))))) × Int) => cond (decide (y15.2 < (x.2.2.length : Int))) (iter lf (fun y16 : ((List (Int × (Int × (Int × (List Int))))) × Int) => cond (decide (y16.2 < (x.2.2.length : Int))) (((G142 lf (x.1, (x.2.1, x.2.2)))).bind fun r17 => iter lf (fun y18 : ((List (Int × (Int × (Int × (List Int))))) × Int) => cond (decide (y18.2 < (r17.length : Int))) (((getI r17 y18.2)).bind fun r19 => ((G143 lf ((x.1, (x.2.1, x.2.2)), (y15.2, (y16.2, r19))))).bind fun r20 => cond r20.2 (((appC y18.1 [(y15.2, (y16.2, (r19, r20.1)))])).bind fun r21 => some (.inr (.inl (r21, (w64 (y16.2 + (1 : Int))))))) (some (.inl (y18.1, (w64 (y18.2 + (1 : Int))))))) (some (.inr (.inl (y18.1, (w64 (y16.2 + (1 : Int)))))))) (y16.1, (0 : Int))) (some (.inr (.inl (y16.1, (w64 (y15.2 + (1 : Int)))))))) (y15.1, (w64 (y15.2 + (1 : Int))))) (some (.inr (y15.1, (0 : Int))))) (([] : List (Int × (Int × (Int × (List Int))))), (0 : Int)))
theorem F58_G (lf : Nat) (x : (ByteArray × ((List (ByteArray × (Int × Int))) × (List (ByteArray × (Int × (Int × ((List (Int × (Int × (Int × (ByteArray × Int))))) × ((List (Int × (Int × (Int × (ByteArray × Int))))) × (List ByteArray)))))))))) : F58 Tryz.prog lf x = G58 lf x := (F58_eq lf x.1 x.2.1 x.2.2).trans (by
  unfold G58
  (try simp only [F32_G, F142_G, F143_G, agree_self, Lib.toList_data]); first | done | rfl)
def G63 (lf : Nat) (x : ((ByteArray × ((List (ByteArray × (Int × Int))) × (List (ByteArray × (Int × (Int × ((List (Int × (Int × (Int × (ByteArray × Int))))) × ((List (Int × (Int × (Int × (ByteArray × Int))))) × (List ByteArray))))))))) × (Int × (Int × (Int × (List Int)))))) : Option (Int) :=
  ((G32 lf (x.1.1, (x.1.2.1, x.1.2.2)))).bind fun r16 => cond (!(decide (r16 = (0 : Int)))) (some r16) (jn (cond (decide (x.2.1 < (0 : Int))) (some (.inl true)) (cond (decide (x.2.1 ≥ x.2.2.1)) (some (.inl true)) (cond (decide (x.2.2.1 ≥ (x.1.2.2.length : Int))) (some (.inl true)) (((G126 lf (x.2.2.2.1, ((0 : Int), (100000 : Int))))).bind fun r17 => cond (!r17) (some (.inl true)) (((G145 lf ((x.1.1, (x.1.2.1, x.1.2.2)), x.2.2.2.2))).bind fun r18 => some (.inl (!r18))))))) (fun y19 : Bool => cond y19 (some (42 : Int)) (((G143 lf ((x.1.1, (x.1.2.1, x.1.2.2)), (x.2.1, (x.2.2.1, x.2.2.2.1))))).bind fun r20 => ((G40 lf ((x.1.1, (x.1.2.1, x.1.2.2)), (x.2.2.2.1, x.2.2.2.2)))).bind fun r21 => jn (cond (!r20.2) (some (.inl true)) (((getI r21 x.2.1)).bind fun r22 => cond (!r22) (some (.inl true)) (((getI r21 x.2.2.1)).bind fun r23 => some (.inl (!r23))))) (fun y24 : Bool => cond y24 (some (42 : Int)) (some (0 : Int))))))
theorem F63_G (lf : Nat) (x : ((ByteArray × ((List (ByteArray × (Int × Int))) × (List (ByteArray × (Int × (Int × ((List (Int × (Int × (Int × (ByteArray × Int))))) × ((List (Int × (Int × (Int × (ByteArray × Int))))) × (List ByteArray))))))))) × (Int × (Int × (Int × (List Int)))))) : F63 Tryz.prog lf x = G63 lf x := (F63_eq lf x.1.1 x.1.2.1 x.1.2.2 x.2.1 x.2.2.1 x.2.2.2.1 x.2.2.2.2).trans (by
  unfold G63
  (try simp only [F32_G, F40_G, F126_G, F143_G, F145_G, agree_self, Lib.toList_data]); first | done | rfl)
def G144 (lf : Nat) (x : ((ByteArray × ((List (ByteArray × (Int × Int))) × (List (ByteArray × (Int × (Int × ((List (Int × (Int × (Int × (ByteArray × Int))))) × ((List (Int × (Int × (Int × (ByteArray × Int))))) × (List ByteArray))))))))) × (Int × (Int × (List Int))))) : Option (Bool) :=
  ((G26 lf ((x.1.1, (x.1.2.1, x.1.2.2)), (x.2.2.1, x.2.2.2)))).bind fun r9 => ((getI r9 x.2.1)).bind fun r10 => cond (!r10) (((G28 lf (r9, x.2.1))).bind fun r11 => some r11) (some false)
theorem F144_G (lf : Nat) (x : ((ByteArray × ((List (ByteArray × (Int × Int))) × (List (ByteArray × (Int × (Int × ((List (Int × (Int × (Int × (ByteArray × Int))))) × ((List (Int × (Int × (Int × (ByteArray × Int))))) × (List ByteArray))))))))) × (Int × (Int × (List Int))))) : F144 Tryz.prog lf x = G144 lf x := (F144_eq lf x.1.1 x.1.2.1 x.1.2.2 x.2.1 x.2.2.1 x.2.2.2).trans (by
  unfold G144
  (try simp only [F26_G, F28_G, agree_self, Lib.toList_data]); first | done | rfl)
def G60 (lf : Nat) (x : ((ByteArray × ((List (ByteArray × (Int × Int))) × (List (ByteArray × (Int × (Int × ((List (Int × (Int × (Int × (ByteArray × Int))))) × ((List (Int × (Int × (Int × (ByteArray × Int))))) × (List ByteArray))))))))) × Int)) : Option (((Int × (List Int)) × Int)) :=
  ((G32 lf (x.1.1, (x.1.2.1, x.1.2.2)))).bind fun r13 => cond (!(decide (r13 = (0 : Int)))) (some (((0 : Int), ([] : List Int)), r13)) (((G126 lf (x.2, ((0 : Int), (w64 ((x.1.2.2.length : Int) - (1 : Int))))))).bind fun r14 => cond (!r14) (some (((0 : Int), ([] : List Int)), (47 : Int))) (((G142 lf (x.1.1, (x.1.2.1, x.1.2.2)))).bind fun r15 => iter lf (fun y16 : Int => cond (decide (y16 < (r15.length : Int))) (((getI r15 y16)).bind fun r17 => ((G27 lf ((x.1.1, (x.1.2.1, x.1.2.2)), x.1.2.1))).bind fun r18 => iter lf (fun y19 : Int => cond (decide (y19 < (r18.length : Int))) (((getI r18 y19)).bind fun r20 => ((G144 lf ((x.1.1, (x.1.2.1, x.1.2.2)), (x.2, (r17, r20))))).bind fun r21 => cond r21 (some (.inr (.inr ((r17, r20), (0 : Int))))) (some (.inl (w64 (y19 + (1 : Int)))))) (some (.inr (.inl (w64 (y16 + (1 : Int))))))) (0 : Int)) (some (.inr (((0 : Int), ([] : List Int)), (3 : Int))))) (0 : Int)))
theorem F60_G (lf : Nat) (x : ((ByteArray × ((List (ByteArray × (Int × Int))) × (List (ByteArray × (Int × (Int × ((List (Int × (Int × (Int × (ByteArray × Int))))) × ((List (Int × (Int × (Int × (ByteArray × Int))))) × (List ByteArray))))))))) × Int)) : F60 Tryz.prog lf x = G60 lf x := (F60_eq lf x.1.1 x.1.2.1 x.1.2.2 x.2).trans (by
  unfold G60
  (try simp only [F27_G, F32_G, F126_G, F142_G, F144_G, agree_self, Lib.toList_data]); first | done | rfl)
def G59 (lf : Nat) (x : (ByteArray × ((List (ByteArray × (Int × Int))) × (List (ByteArray × (Int × (Int × ((List (Int × (Int × (Int × (ByteArray × Int))))) × ((List (Int × (Int × (Int × (ByteArray × Int))))) × (List ByteArray)))))))))) : Option (((List Int) × Int)) :=
  ((G32 lf (x.1, (x.2.1, x.2.2)))).bind fun r8 => cond (!(decide (r8 = (0 : Int)))) (some (([] : List Int), r8)) (iter lf (fun y9 : ((List Int) × Int) => cond (decide (y9.2 < (x.2.2.length : Int))) (((G60 lf ((x.1, (x.2.1, x.2.2)), y9.2))).bind fun r10 => cond (decide (r10.2 = (3 : Int))) (((appC y9.1 [y9.2])).bind fun r11 => some (.inl (r11, (w64 (y9.2 + (1 : Int)))))) (some (.inl (y9.1, (w64 (y9.2 + (1 : Int))))))) (some (.inr (y9.1, (0 : Int))))) (([] : List Int), (0 : Int)))
theorem F59_G (lf : Nat) (x : (ByteArray × ((List (ByteArray × (Int × Int))) × (List (ByteArray × (Int × (Int × ((List (Int × (Int × (Int × (ByteArray × Int))))) × ((List (Int × (Int × (Int × (ByteArray × Int))))) × (List ByteArray)))))))))) : F59 Tryz.prog lf x = G59 lf x := (F59_eq lf x.1 x.2.1 x.2.2).trans (by
  unfold G59
  (try simp only [F32_G, F60_G, agree_self, Lib.toList_data]); first | done | rfl)
def G64 (lf : Nat) (x : ((ByteArray × ((List (ByteArray × (Int × Int))) × (List (ByteArray × (Int × (Int × ((List (Int × (Int × (Int × (ByteArray × Int))))) × ((List (Int × (Int × (Int × (ByteArray × Int))))) × (List ByteArray))))))))) × (Int × (Int × (List Int))))) : Option (Int) :=
  ((G32 lf (x.1.1, (x.1.2.1, x.1.2.2)))).bind fun r12 => cond (!(decide (r12 = (0 : Int)))) (some r12) (((G126 lf (x.2.1, ((0 : Int), (w64 ((x.1.2.2.length : Int) - (1 : Int))))))).bind fun r13 => cond (!r13) (some (47 : Int)) (jn (((G126 lf (x.2.2.1, ((0 : Int), (100000 : Int))))).bind fun r14 => cond (!r14) (some (.inl true)) (((G145 lf ((x.1.1, (x.1.2.1, x.1.2.2)), x.2.2.2))).bind fun r15 => cond (!r15) (some (.inl true)) (((G144 lf ((x.1.1, (x.1.2.1, x.1.2.2)), (x.2.1, (x.2.2.1, x.2.2.2))))).bind fun r16 => some (.inl (!r16))))) (fun y17 : Bool => cond y17 (some (42 : Int)) (some (0 : Int)))))
theorem F64_G (lf : Nat) (x : ((ByteArray × ((List (ByteArray × (Int × Int))) × (List (ByteArray × (Int × (Int × ((List (Int × (Int × (Int × (ByteArray × Int))))) × ((List (Int × (Int × (Int × (ByteArray × Int))))) × (List ByteArray))))))))) × (Int × (Int × (List Int))))) : F64 Tryz.prog lf x = G64 lf x := (F64_eq lf x.1.1 x.1.2.1 x.1.2.2 x.2.1 x.2.2.1 x.2.2.2).trans (by
  unfold G64
  (try simp only [F32_G, F126_G, F144_G, F145_G, agree_self, Lib.toList_data]); first | done | rfl)
end Go.K
set_option linter.unusedVariables false
set_option linter.unusedSimpArgs false
set_option maxRecDepth 100000
set_option maxHeartbeats 0
namespace Go.K
open Go.Sl Go.Sx Go.Proofs
noncomputable def G42 (lf : Nat) (x : ((ByteArray × ((List (ByteArray × (Int × Int))) × (List (ByteArray × (Int × (Int × ((List (Int × (Int × (Int × (ByteArray × Int))))) × ((List (Int × (Int × (Int × (ByteArray × Int))))) × (List ByteArray))))))))) × (Int × (Int × (Int × (List Int)))))) : Option (Int) :=
  ((G31 lf (x.1.1, (x.1.2.1, x.1.2.2)))).bind fun r28 => cond (!(decide (r28 = (0 : Int)))) (some r28) (jn (cond (decide (x.2.1 < (0 : Int))) (some (.inl true)) (cond (decide (x.2.1 ≥ x.2.2.1)) (some (.inl true)) (cond (decide (x.2.2.1 ≥ (x.1.2.2.length : Int))) (some (.inl true)) (((G91 lf (x.2.2.2.1, ((0 : Int), (100000 : Int))))).bind fun r29 => cond (!r29) (some (.inl true)) (((G129 lf ((x.1.1, (x.1.2.1, x.1.2.2)), x.2.2.2.2))).bind fun r30 => some (.inl (!r30))))))) (fun y31 : Bool => cond y31 (some (42 : Int)) (((G131 lf ())).bind fun r32 => ((G130 lf ((x.1.1, (x.1.2.1, x.1.2.2)), (x.2.2.2.1, (x.2.2.2.2, ()))))).bind fun r33 => ((G128 lf ((x.1.1, (x.1.2.1, x.1.2.2)), (x.2.1, (x.2.2.1, x.2.2.2.1))))).bind fun r34 => jn (cond (!r34.2) (some (.inl true)) (((getI r33.1 x.2.1)).bind fun r35 => cond (!r35) (some (.inl true)) (((getI r33.1 x.2.2.1)).bind fun r36 => some (.inl (!r36))))) (fun y37 : Bool => cond y37 (some (42 : Int)) (some (0 : Int))))))
theorem F42_G (lf : Nat) (x : ((ByteArray × ((List (ByteArray × (Int × Int))) × (List (ByteArray × (Int × (Int × ((List (Int × (Int × (Int × (ByteArray × Int))))) × ((List (Int × (Int × (Int × (ByteArray × Int))))) × (List ByteArray))))))))) × (Int × (Int × (Int × (List Int)))))) : F42 Tryz.prog lf x = G42 lf x := (F42_eq lf x.1.1 x.1.2.1 x.1.2.2 x.2.1 x.2.2.1 x.2.2.2.1 x.2.2.2.2).trans (by
  unfold G42
  (try simp only [F31_G, F91_G, F128_G, F129_G, F130_G, F131_G, agree_self, Lib.toList_data]); first | done | rfl)
noncomputable def G46 (lf : Nat) (x : (ByteArray × ((List (ByteArray × (Int × Int))) × (List (ByteArray × (Int × (Int × ((List (Int × (Int × (Int × (ByteArray × Int))))) × ((List (Int × (Int × (Int × (ByteArray × Int))))) × (List ByteArray)))))))))) : Option (((List Int) × Int)) :=
  ((G31 lf (x.1, (x.2.1, x.2.2)))).bind fun r8 => cond (!(decide (r8 = (0 : Int)))) (some (([] : List Int), r8)) (iter lf (fun y9 : ((List Int) × Int) => cond (decide (y9.2 < (x.2.2.length : Int))) (((G132 lf ((x.1, (x.2.1, x.2.2)), y9.2))).bind fun r10 => cond (!r10.2) (((appC y9.1 [y9.2])).bind fun r11 => some (.inl (r11, (w64 (y9.2 + (1 : Int)))))) (some (.inl (y9.1, (w64 (y9.2 + (1 : Int))))))) (some (.inr (y9.1, (0 : Int))))) (([] : List Int), (0 : Int)))
theorem F46_G (lf : Nat) (x : (ByteArray × ((List (ByteArray × (Int × Int))) × (List (ByteArray × (Int × (Int × ((List (Int × (Int × (Int × (ByteArray × Int))))) × ((List (Int × (Int × (Int × (ByteArray × Int))))) × (List ByteArray)))))))))) : F46 Tryz.prog lf x = G46 lf x := (F46_eq lf x.1 x.2.1 x.2.2).trans (by
  unfold G46
  (try simp only [F31_G, F132_G, agree_self, Lib.toList_data]); first | done | rfl)
noncomputable def G48 (lf : Nat) (x : ((ByteArray × ((List (ByteArray × (Int × Int))) × (List (ByteArray × (Int × (Int × ((List (Int × (Int × (Int × (ByteArray × Int))))) × ((List (Int × (Int × (Int × (ByteArray × Int))))) × (List ByteArray))))))))) × (Int × (Int × (List Int))))) : Option (Int) :=
  jn (((G31 lf (x.1.1, (x.1.2.1, x.1.2.2)))).bind fun r15 => cond (!(decide (r15 = (0 : Int)))) (some (.inl r15)) (((G91 lf (x.2.1, ((0 : Int), (w64 ((x.1.2.2.length : Int) - (1 : Int))))))).bind fun r16 => cond (!r16) (some (.inl (47 : Int))) (some (.inl (0 : Int))))) (fun y17 : Int => cond (!(decide (y17 = (0 : Int)))) (some y17) (jn (((G91 lf (x.2.2.1, ((0 : Int), (100000 : Int))))).bind fun r18 => cond (!r18) (some (.inl true)) (((G129 lf ((x.1.1, (x.1.2.1, x.1.2.2)), x.2.2.2))).bind fun r19 => cond (!r19) (some (.inl true)) (((G131 lf ())).bind fun r20 => ((G130 lf ((x.1.1, (x.1.2.1, x.1.2.2)), (x.2.2.1, (x.2.2.2, ()))))).bind fun r21 => ((G133 lf ((r21.1, r21.2), x.2.1))).bind fun r22 => some (.inl (!r22))))) (fun y23 : Bool => cond y23 (some (42 : Int)) (some (0 : Int)))))
theorem F48_G (lf : Nat) (x : ((ByteArray × ((List (ByteArray × (Int × Int))) × (List (ByteArray × (Int × (Int × ((List (Int × (Int × (Int × (ByteArray × Int))))) × ((List (Int × (Int × (Int × (ByteArray × Int))))) × (List ByteArray))))))))) × (Int × (Int × (List Int))))) : F48 Tryz.prog lf x = G48 lf x := (F48_eq lf x.1.1 x.1.2.1 x.1.2.2 x.2.1 x.2.2.1 x.2.2.2).trans (by
  unfold G48
  (try simp only [F31_G, F91_G, F129_G, F130_G, F131_G, F133_G, agree_self, Lib.toList_data]); first | done | rfl)
noncomputable def G12 (lf : Nat) (x : ((ByteArray × ((List (ByteArray × (Int × Int))) × (List (ByteArray × (Int × (Int × ((List (Int × (Int × (Int × (ByteArray × Int))))) × ((List (Int × (Int × (Int × (ByteArray × Int))))) × (List ByteArray))))))))) × ((Int × (Int × (Int × (List Int)))) × (Int × (List Int))))) : Option (Bool) :=
  ((G41 lf (x.1.1, (x.1.2.1, x.1.2.2)))).bind fun r24 => ((G58 lf (x.1.1, (x.1.2.1, x.1.2.2)))).bind fun r25 => ((G46 lf (x.1.1, (x.1.2.1, x.1.2.2)))).bind fun r26 => ((G59 lf (x.1.1, (x.1.2.1, x.1.2.2)))).bind fun r27 => ((G47 lf ((x.1.1, (x.1.2.1, x.1.2.2)), x.2.1.1))).bind fun r28 => ((G60 lf ((x.1.1, (x.1.2.1, x.1.2.2)), x.2.1.1))).bind fun r29 => jn (((G61 lf (r24.1, r25.1))).bind fun r30 => cond (!r30) (some (.inl true)) (cond (!(decide (r24.2 = r25.2))) (some (.inl true)) (((G62 lf (r26.1, r27.1))).bind fun r31 => cond (!r31) (some (.inl true)) (cond (!(decide (r26.2 = r27.2))) (some (.inl true)) (cond (!(decide (r28.1.1 = r29.1.1))) (some (.inl true)) (((G62 lf (r28.1.2, r29.1.2))).bind fun r32 => cond (!r32) (some (.inl true)) (some (.inl (!(decide (r28.2 = r29.2))))))))))) (fun y33 : Bool => cond y33 (some false) (((G42 lf ((x.1.1, (x.1.2.1, x.1.2.2)), (x.2.1.1, (x.2.1.2.1, (x.2.1.2.2.1, x.2.1.2.2.2)))))).bind fun r34 => ((G63 lf ((x.1.1, (x.1.2.1, x.1.2.2)), (x.2.1.1, (x.2.1.2.1, (x.2.1.2.2.1, x.2.1.2.2.2)))))).bind fun r35 => cond (decide (r34 = r35)) (((G48 lf ((x.1.1, (x.1.2.1, x.1.2.2)), (x.2.1.2.1, (x.2.2.1, x.2.2.2))))).bind fun r36 => ((G64 lf ((x.1.1, (x.1.2.1, x.1.2.2)), (x.2.1.2.1, (x.2.2.1, x.2.2.2))))).bind fun r37 => cond (decide (r36 = r37)) (((G22 lf ())).bind fun r38 => some r38) (some false)) (some false)))
theorem F12_G (lf : Nat) (x : ((ByteArray × ((List (ByteArray × (Int × Int))) × (List (ByteArray × (Int × (Int × ((List (Int × (Int × (Int × (ByteArray × Int))))) × ((List (Int × (Int × (Int × (ByteArray × Int))))) × (List ByteArray))))))))) × ((Int × (Int × (Int × (List Int)))) × (Int × (List Int))))) : F12 Tryz.prog lf x = G12 lf x := (F12_eq lf x.1.1 x.1.2.1 x.1.2.2 x.2.1.1 x.2.1.2.1 x.2.1.2.2.1 x.2.1.2.2.2 x.2.2.1 x.2.2.2).trans (by
  unfold G12
  (try simp only [F22_G, F41_G, F42_G, F46_G, F47_G, F48_G, F58_G, F59_G, F60_G, F61_G, F62_G, F63_G, F64_G, agree_self, Lib.toList_data]); first | done | rfl)
end Go.K
set_option linter.unusedVariables false
set_option linter.unusedSimpArgs false
set_option maxRecDepth 100000
namespace Go.K
open Go.Sl Go.Sx Go.Proofs
theorem castN_lt {k : List Nat} {i : Nat} (h : i < k.length) : decide ((i : Int) < ((castN k).length : Int)) = true := decide_eq_true (by simp [castN]; omega)
theorem vals_of {ρ : Type} {ls : List (List Int)} {k : List Nat} (hk : okI ls k) (hb : ls.length ≤ 1000) {f : List Int × Int → Option ((List Int × Int) ⊕ ρ)} {K : Option ρ}
    (h1 : ∀ (a : List Int) (i : Nat), i < k.length → f (a, (i : Int)) = ((getI (castN k) (i : Int))).bind fun r77 => ((getI (castN k) (i : Int))).bind fun r78 => ((getI ls (i : Int))).bind fun r79 => ((getI r79 r78)).bind fun r80 => ((appC a [r80])).bind fun r81 => some (.inl (r81, (w64 ((i : Int) + (1 : Int))))))
    (h2 : f (valsI ls k, ((castN k).length : Int)) = outR K) : iter LF f (([] : List Int), (0 : Int)) = K := by
  have hl := okI_len hk
  have hcl : (castN k).length = k.length := by simp [castN]
  refine (iter_foldI (f := f) (fun i a => (a, i)) (fun (x : Nat) i (a : List Int) => a ++ [(ls.getD i []).getD x 0]) (fun i a => a = valsI (ls.take i) (k.take i)) k (fun _ => K) []
    (fun i x a hx hg => ?_) (fun i x a hx hg => ?_) (fun a hg => ?_) (by show k.length < 9223372036854775808; omega) (by simp [valsI])).trans rfl
  · obtain ⟨c, hc, hlt⟩ := okI_get hk hx
    have hi := (List.getElem?_eq_some_iff.1 hx).1
    have hn : c[x]? = some c[x] := List.getElem?_eq_getElem hlt
    have hal : a.length ≤ 1000 := by rw [hg, vals_len (by simp; omega)]; simp; omega
    rw [h1 a i hi, getI_nat (show (castN k)[i]? = some (x : Int) by simp [castN, hx]), getI_nat hc]
    simp only [Option.bind_some, getI_nat hn, appC_of (show a.length + [c[x]].length ≤ 1099511627776 by simp; omega), succ_W (show i + 1 < 9223372036854775808 by omega)]
    simp [hc, hn]
  · have hi := (List.getElem?_eq_some_iff.1 hx).1
    have e1 := vals_take hk (i + 1) (by omega)
    have e0 := vals_take hk i (by omega)
    obtain ⟨c, hc, hlt⟩ := okI_get hk hx
    have t1 : k.take (i + 1) = k.take i ++ [x] := by rw [List.take_add_one, hx]; rfl
    have t2 : ls.take (i + 1) = ls.take i ++ [c] := by rw [List.take_add_one, hc]; rfl
    rw [t1, t2, vals_snoc _ _ (by simp; omega), ← hg]
    simp [hc]
  · have : a = valsI ls k := by rw [hg, List.take_length, ← hl, List.take_length]
    rw [this, ← hcl]; exact h2
theorem adv_of {ρ : Type} {ls : List (List Int)} {k : List Nat} (hk : okI ls k) (hb : ls.length ≤ 1000) (hcl : ∀ c ∈ ls, c.length < LF) (END : Option ρ) (NEXT : List Int → Option ρ) :
    jn (iter LF (fun y85 : (Int × (List Int)) => cond (decide (y85.1 ≥ (0 : Int))) (((getI y85.2 y85.1)).bind fun r86 => ((getI y85.2 y85.1)).bind fun r87 => ((getI ls y85.1)).bind fun r88 => cond (decide (r87 = (w64 ((r88.length : Int) - (1 : Int))))) (((getI y85.2 y85.1)).bind fun r89 => ((getI y85.2 y85.1)).bind fun r90 => ((setI y85.2 y85.1 (0 : Int))).bind fun r91 => some (.inl ((w64 (y85.1 - (1 : Int))), r91))) (some (.inr (.inl (y85.1, y85.2))))) (some (.inr (.inl (y85.1, y85.2))))) ((w64 ((ls.length : Int) - (1 : Int))), castN k))
      (fun y92 : (Int × (List Int)) => cond (decide (y92.1 < (0 : Int))) END (((getI y92.2 y92.1)).bind fun r94 => ((getI y92.2 y92.1)).bind fun r95 => ((getI y92.2 y92.1)).bind fun r96 => ((getI y92.2 y92.1)).bind fun r97 => ((setI y92.2 y92.1 (w64 (r95 + (1 : Int))))).bind NEXT))
    = match nxt ls k with
      | none => END
      | some k' => NEXT (castN k') := by
  have hkl := okI_len hk
  obtain ⟨i, at', h1, h2⟩ := adv_loop (ρ := (Int × List Int) ⊕ ρ) (ls := ls) (fun y => .inl y) hb hcl (f := fun y85 : (Int × (List Int)) => cond (decide (y85.1 ≥ (0 : Int))) (((getI y85.2 y85.1)).bind fun r86 => ((getI y85.2 y85.1)).bind fun r87 => ((getI ls y85.1)).bind fun r88 => cond (decide (r87 = (w64 ((r88.length : Int) - (1 : Int))))) (((getI y85.2 y85.1)).bind fun r89 => ((getI y85.2 y85.1)).bind fun r90 => ((setI y85.2 y85.1 (0 : Int))).bind fun r91 => some (.inl ((w64 (y85.1 - (1 : Int))), r91))) (some (.inr (.inl (y85.1, y85.2))))) (some (.inr (.inl (y85.1, y85.2)))))
    (fun at_ => rfl)
    (fun j x at_ c e1 e2 e3 e4 => by
      have hc := hcl c (List.mem_of_getElem? e2)
      have hc' : c.length < 9223372036854775808 := hc
      have d1 : decide ((j : Int) ≥ 0) = true := decide_eq_true (by omega)
      have d2 : decide ((x : Int) = w64 ((c.length : Int) - 1)) = true := decide_eq_true (by rw [w64_in (by omega)]; omega)
      simp only [d1, d2, cond_true, getI_nat e1, getI_nat e2, Option.bind_some])
    (fun j x at_ c e1 e2 e3 e4 => by
      have hc := hcl c (List.mem_of_getElem? e2)
      have hc' : c.length < 9223372036854775808 := hc
      have d1 : decide ((j : Int) ≥ 0) = true := decide_eq_true (by omega)
      have d2 : decide ((x : Int) = w64 ((c.length : Int) - 1)) = false := decide_eq_false (by rw [w64_in (by omega)]; omega)
      simp only [d1, d2, cond_true, cond_false, getI_nat e1, getI_nat e2, Option.bind_some])
    k.length ls [] k 0 LF (by simp) rfl hk (by show k.length < 9223372036854775808; omega)
  have hst : w64 ((ls.length : Int) - 1) = (k.length : Int) - 1 := by rw [w64_in (by omega)]; omega
  simp only [List.replicate_zero, List.append_nil] at h1 h2
  rw [hst, h1]
  simp only [jl]
  cases hn : nxt ls k with
  | none =>
    rw [hn] at h2
    subst h2
    rfl
  | some k' =>
    rw [hn] at h2
    obtain ⟨j, r, rfl, e1, e2⟩ := h2
    have d1 : decide ((j : Int) < 0) = false := decide_eq_false (by omega)
    simp only [d1, cond_false, getI_nat e1, Option.bind_some, e2]
theorem mkC_zer (ls : List (List Int)) (h : ls.length ≤ 1000) : mkC (ls.length : Int) (0 : Int) = some (castN (zerN ls)) := by
  unfold mkC
  rw [if_pos (by omega)]
  simp only [castN, zerN, List.map_map, Int.toNat_natCast]
  congr 1
  exact List.map_const'.symm
def prodL (l : List (List Int)) : Nat := l.foldr (fun x n => x.length * n) 1
theorem choL_len : ∀ l : List (List Int), (choL l).length = prodL l
  | [] => rfl
  | x :: l => by
    have ih := choL_len l
    show (x.flatMap fun n => (choL l).map (n :: ·)).length = x.length * prodL l
    rw [← ih]
    induction x with
    | nil => simp
    | cons a x ihx => rw [List.flatMap_cons, List.length_append, ihx, List.length_map, List.length_cons, Nat.add_mul]; omega
theorem prod_pos : ∀ {l : List (List Int)}, (∀ x ∈ l, x ≠ []) → 1 ≤ prodL l
  | [], _ => Nat.le_refl _
  | x :: l, h => Nat.mul_pos (List.length_pos_iff.2 (h x (List.mem_cons_self ..))) (prod_pos fun y hy => h y (List.mem_cons_of_mem _ hy))
theorem many_prod : ∀ (l : List (List Int)) (n : Nat), (∀ x ∈ l, x ≠ [] ∧ x.length ≤ 1000000) → 1 ≤ n → n ≤ 4001 →
    l.foldl (fun (n : Int) x => if (4001 : Int) < w64 (n * (x.length : Int)) then 4001 else w64 (n * (x.length : Int))) (n : Int) ≤ 4000 → n * prodL l ≤ 4000
  | [], n, _, _, h2, h => by
    simp only [List.foldl_nil] at h
    simp [prodL]; omega
  | x :: l, n, hl, h1, h2, h => by
    obtain ⟨hx0, hx1⟩ := hl x (List.mem_cons_self ..)
    have hxp := List.length_pos_iff.2 hx0
    have hb : n * x.length ≤ 4001 * 1000000 := Nat.mul_le_mul h2 hx1
    have hp : n ≤ n * x.length := Nat.le_mul_of_pos_right _ hxp
    have he : w64 ((n : Int) * (x.length : Int)) = ((n * x.length : Nat) : Int) := by
      rw [← Int.natCast_mul, w64_in (by omega)]
    rw [List.foldl_cons, he] at h
    have hprod := prod_pos (l := l) fun y hy => (hl y (List.mem_cons_of_mem _ hy)).1
    by_cases hc : 4001 < n * x.length
    · rw [if_pos (by omega)] at h
      have := many_prod l 4001 (fun y hy => hl y (List.mem_cons_of_mem _ hy)) (by omega) (by omega) h
      have : 4001 * 1 ≤ 4001 * prodL l := Nat.mul_le_mul (Nat.le_refl _) hprod
      omega
    · rw [if_neg (by omega)] at h
      have := many_prod l (n * x.length) (fun y hy => hl y (List.mem_cons_of_mem _ hy)) (by omega) (by omega) h
      show n * (x.length * prodL l) ≤ 4000
      rw [← Nat.mul_assoc]; exact this
theorem rise_le : ∀ {l m : List Int}, Rise l → Rise m → (∀ x ∈ l, x ∈ m) → l.length ≤ m.length
  | [], _, _, _, _ => by simp
  | a :: l, [], _, _, h => absurd (h a (List.mem_cons_self ..)) (by simp)
  | a :: l, b :: m, hl, hm, h => by
    obtain ⟨l1, l2⟩ := List.pairwise_cons.1 hl
    obtain ⟨m1, m2⟩ := List.pairwise_cons.1 hm
    by_cases e : a = b
    · subst e
      have := rise_le l2 m2 fun x hx => by
        rcases List.mem_cons.1 (h x (List.mem_cons_of_mem _ hx)) with e | e
        · subst e; exact absurd (l1 x hx) (Int.lt_irrefl _)
        · exact e
      simp only [List.length_cons]; omega
    · have ha : a ∈ m := by
        rcases List.mem_cons.1 (h a (List.mem_cons_self ..)) with e' | e'
        · exact absurd e' e
        · exact e'
      have hb := m1 a ha
      have := rise_le hl m2 fun x hx => by
        rcases List.mem_cons.1 (h x hx) with e' | e'
        · rcases List.mem_cons.1 hx with e2 | e2
          · subst e2; exact ha
          · have := l1 x e2; omega
        · exact e'
      simp only [List.length_cons] at this ⊢; omega
theorem cuts_mem (cs : List Cnd) (x : Fct) : Rise (cutsOf cs x) ∧ ∀ n, n ∈ cutsOf cs x ↔ n = x.2.1 ∨ n ∈ cutN x cs := by
  obtain ⟨h1, h2⟩ := sc_rise (x.2.1 :: cutN x cs)
  exact ⟨h1, fun n => by rw [show cutsOf cs x = compL (sortL (x.2.1 :: cutN x cs)) from rfl, h2, List.mem_cons]⟩
theorem cuts_ne (cs : List Cnd) (x : Fct) : cutsOf cs x ≠ [] := fun e => by
  have := (cuts_mem cs x).2 x.2.1
  rw [e] at this
  simp at this
theorem cutN_mem {x : Fct} {cs : List Cnd} {n : Int} : n ∈ cutN x cs ↔ (∃ c ∈ cs, ∃ t ∈ c, t.2.2.2.1 = x.1 ∧ n ∈ partsL t) ∧ x.2.1 < n ∧ n ≤ x.2.2 := by
  unfold cutN cutT
  simp only [List.mem_flatMap]
  constructor
  · rintro ⟨c, hc, t, ht, hn⟩
    cases hd : decide (t.2.2.2.1 = x.1) with
    | false => rw [hd] at hn; simp at hn
    | true =>
      rw [hd] at hn
      simp only [cond_true, List.mem_filter] at hn
      obtain ⟨h1, h2⟩ := hn
      unfold inS at h2
      simp only [Bool.and_eq_true, decide_eq_true_eq] at h2
      exact ⟨⟨c, hc, t, ht, of_decide_eq_true hd, h1⟩, h2.1, h2.2⟩
  · rintro ⟨⟨c, hc, t, ht, e, h1⟩, h2, h3⟩
    refine ⟨c, hc, t, ht, ?_⟩
    rw [decide_eq_true e]
    simp only [cond_true, List.mem_filter]
    exact ⟨h1, by unfold inS; simp [h2, h3]⟩
theorem cutN_len (x : Fct) (cs : List Cnd) (hc : cs.length ≤ 100) (ht : ∀ c ∈ cs, List.length c ≤ 1000) : (cutN x cs).length ≤ 200000 := by
  have := flat_len (fun c : Cnd => c.flatMap (cutT x)) 2000 cs (fun c hc => by
    have h1 := flat_len (cutT x) 2 c (fun t _ => cutT_len x t)
    have h2 := ht c hc
    omega)
  unfold cutN; omega
theorem compact_le (xs : List Int) : (compL xs).length ≤ xs.length := by
  unfold compL Lib.compact Lib.compactUpTo
  rw [List.length_map]
  exact Nat.le_trans (List.length_filter_le _ _) (by simp)
theorem cuts_len (x : Fct) (cs : List Cnd) (hc : cs.length ≤ 100) (ht : ∀ c ∈ cs, List.length c ≤ 1000) : (cutsOf cs x).length ≤ 200001 := by
  have h1 := compact_le (sortL (x.2.1 :: cutN x cs))
  have h2 := sortL_len (x.2.1 :: cutN x cs)
  have h3 := cutN_len x cs hc ht
  unfold cutsOf
  simp only [List.length_cons] at h2
  omega
theorem cuts_le {cs : List Cnd} {x y : Fct} (h : fitB x y = true) : (cutsOf cs y).length ≤ (cutsOf cs x).length := by
  unfold fitB at h
  simp only [Bool.and_eq_true, decide_eq_true_eq] at h
  obtain ⟨e, h1, h2, h3⟩ := h
  obtain ⟨r1, m1⟩ := cuts_mem cs y
  obtain ⟨r2, m2⟩ := cuts_mem cs x
  -- without the least one
  have tl : ∀ {z : Fct}, ∃ t, cutsOf cs z = z.2.1 :: t ∧ ∀ n, n ∈ t ↔ n ∈ cutN z cs := by
    intro z
    obtain ⟨r, m⟩ := cuts_mem cs z
    cases hz : cutsOf cs z with
    | nil => exact absurd hz (cuts_ne cs z)
    | cons a t =>
      rw [hz] at r m
      obtain ⟨p1, p2⟩ := List.pairwise_cons.1 r
      have hlo : ∀ n, n ∈ cutN z cs → z.2.1 < n := fun n hn => (cutN_mem.1 hn).2.1
      have ha : a = z.2.1 := by
        rcases (m a).1 (List.mem_cons_self ..) with e | e
        · exact e
        · have h1 := hlo a e
          rcases List.mem_cons.1 ((m z.2.1).2 (.inl rfl)) with e' | e'
          · exact e'.symm
          · have := p1 _ e'; omega
      subst ha
      refine ⟨t, rfl, fun n => ⟨fun hn => ?_, fun hn => ?_⟩⟩
      · rcases (m n).1 (List.mem_cons_of_mem _ hn) with e | e
        · subst e; exact absurd (p1 _ hn) (Int.lt_irrefl _)
        · exact e
      · rcases List.mem_cons.1 ((m n).2 (.inr hn)) with e | e
        · subst e; exact absurd (hlo _ hn) (Int.lt_irrefl _)
        · exact e
  obtain ⟨t1, e1, n1⟩ := tl (z := y)
  obtain ⟨t2, e2, n2⟩ := tl (z := x)
  rw [e1] at r1
  rw [e2] at r2
  rw [e1, e2]
  have := rise_le (List.pairwise_cons.1 r1).2 (List.pairwise_cons.1 r2).2 fun n hn => by
    rw [n2, cutN_mem]
    obtain ⟨⟨c, hc, t, ht, e', hp⟩, h4, h5⟩ := cutN_mem.1 ((n1 n).1 hn)
    exact ⟨⟨c, hc, t, ht, by rw [e', e], hp⟩, by omega, by omega⟩
  simp only [List.length_cons]; omega
theorem fit_iff {f g : List Fct} (h : fitS f g = true) : f.length = g.length ∧ ∀ (i : Nat) (x y : Fct), f[i]? = some x → g[i]? = some y → fitB x y = true := by
  unfold fitS at h
  simp only [Bool.and_eq_true, decide_eq_true_eq, List.all_eq_true] at h
  refine ⟨h.1, fun i x y hx hy => h.2 (x, y) (List.mem_of_getElem? (i := i) ?_)⟩
  rw [List.getElem?_zip_eq_some]
  exact ⟨hx, hy⟩
theorem prod_le : ∀ {l m : List (List Int)}, l.length = m.length → (∀ (i : Nat) (x y : List Int), l[i]? = some x → m[i]? = some y → x.length ≤ y.length) → prodL l ≤ prodL m
  | [], [], _, _ => Nat.le_refl _
  | x :: l, y :: m, h, hh => Nat.mul_le_mul (hh 0 x y rfl rfl) (prod_le (by simpa using h) fun i a b ha hb => hh (i + 1) a b (by simpa using ha) (by simpa using hb))
  | [], _ :: _, h, _ => by simp at h
  | _ :: _, [], h, _ => by simp at h
theorem VC.cl {c : Cd} (h : VC c) : (condsL c.2.2).length ≤ 100 := by rw [conds_len]; have := h.ll; omega
theorem VC.cs {c : Cd} (h : VC c) : ∀ x ∈ condsL c.2.2, List.length x ≤ 1000 := conds_short h.rs
theorem starts_ne (f : List Fct) (cs : List Cnd) : ∀ x ∈ startsL f cs, x ≠ [] := by
  intro x hx
  unfold startsL at hx
  obtain ⟨y, _, rfl⟩ := List.mem_map.1 hx
  exact cuts_ne cs y
theorem starts_get {f : List Fct} {cs : List Cnd} {i : Nat} {x : List Int} (h : (startsL f cs)[i]? = some x) : ∃ y, f[i]? = some y ∧ x = cutsOf cs y := by
  unfold startsL at h
  rw [List.getElem?_map] at h
  cases hf : f[i]? with
  | none => rw [hf] at h; cases h
  | some y => rw [hf] at h; cases h; exact ⟨y, rfl, rfl⟩
theorem VC.prod {c : Cd} (h : VC c) : prodL (startsL c.2.1 (condsL c.2.2)) ≤ 4000 := by
  have := many_prod (startsL c.2.1 (condsL c.2.2)) 1 (fun x hx => ⟨starts_ne _ _ x hx, by
    unfold startsL at hx
    obtain ⟨y, _, rfl⟩ := List.mem_map.1 hx
    have := cuts_len y (condsL c.2.2) h.cl h.cs
    omega⟩) (by omega) (by omega) h.mn
  omega
structure VF (c : Cd) (f : List Fct) : Prop where
  ln : f.length = c.2.1.length
  cs : (choL (startsL f (condsL c.2.2))).length ≤ 4000
  fit : ∀ (i : Nat) (x y : Fct), c.2.1[i]? = some x → f[i]? = some y → fitB x y = true
theorem VF.of {c : Cd} (h : VC c) {f : List Fct} (hf : fitS c.2.1 f = true) : VF c f := by
  obtain ⟨h1, h2⟩ := fit_iff hf
  refine ⟨h1.symm, ?_, h2⟩
  rw [choL_len]
  refine Nat.le_trans (prod_le (m := startsL c.2.1 (condsL c.2.2)) (by simp [startsL, h1]) fun i x y hx hy => ?_) h.prod
  obtain ⟨u, hu, rfl⟩ := starts_get hx
  obtain ⟨w, hw, rfl⟩ := starts_get hy
  exact cuts_le (h2 i w u hw hu)
theorem fitB_self {x : Fct} (h : x.2.1 ≤ x.2.2) : fitB x x = true := by unfold fitB; simp [h]
theorem VC.fact {c : Cd} (h : VC c) {i : Nat} {x : Fct} (hx : c.2.1[i]? = some x) : nmB x.1 = true ∧ (c.2.1.take i).any (fun y => decide (y.1 = x.1)) = false ∧ -1000000000000 ≤ x.2.1 ∧ x.2.1 ≤ x.2.2 ∧ x.2.2 ≤ 1000000000000 := by
  have := scan_none h.fs i x hx
  rw [Nat.zero_add] at this
  unfold factS at this
  cases h1 : !nmB x.1 || (c.2.1.take i).any fun y => decide (y.1 = x.1) with
  | true => rw [h1] at this; cases this
  | false =>
    rw [h1] at this
    simp only [Bool.or_eq_false_iff, Bool.not_eq_false'] at h1
    cases h2 : spanB x with
    | false => rw [h2] at this; cases this
    | true => unfold spanB at h2; exact ⟨h1.1, h1.2, of_decide_eq_true h2⟩
theorem VF.self {c : Cd} (h : VC c) : VF c c.2.1 := ⟨rfl, by rw [choL_len]; exact h.prod, fun i x y hx hy => by
  rw [hx] at hy; cases hy
  exact fitB_self (h.fact hx).2.2.2.1⟩
theorem cho_len : ∀ {l : List (List Int)} {v : List Int}, v ∈ choL l → v.length = l.length
  | [], v, h => by simp [choL] at h; subst h; rfl
  | x :: l, v, h => by
    simp only [choL, List.mem_flatMap, List.mem_map] at h
    obtain ⟨n, _, u, hu, rfl⟩ := h
    simp [cho_len hu]
theorem VF.vlen {c : Cd} {f : List Fct} (h : VF c f) {v : List Int} (hv : v ∈ casesL c f) : v.length = c.2.1.length := by
  rw [cho_len hv]; simp [startsL, h.ln]
end Go.K
set_option linter.unusedVariables false
set_option linter.unusedSimpArgs false
set_option maxRecDepth 100000
namespace Go.K
open Go.Sl Go.Sx Go.Proofs
theorem scan_all {σ : Type} (p : σ → Bool) : ∀ (l : List σ) (i : Nat), (scan (fun x _ => bif p x then none else some false) l i).getD true = l.all p
  | [], _ => rfl
  | x :: l, i => by
    simp only [scan, List.all_cons]
    cases p x with
    | true => simp only [cond_true, Bool.true_and]; exact scan_all p l (i + 1)
    | false => rfl
theorem starts_len (f : List Fct) (cs : List Cnd) : (startsL f cs).length = f.length := by simp [startsL]
theorem starts_cl (f : List Fct) {c : Cd} (h : VC c) : ∀ x ∈ startsL f (condsL c.2.2), x.length < LF := by
  intro x hx
  unfold startsL at hx
  obtain ⟨y, _, rfl⟩ := List.mem_map.1 hx
  have := cuts_len y (condsL c.2.2) h.cl h.cs
  show (cutsOf (condsL c.2.2) y).length < 9223372036854775808; omega
end Go.K
set_option linter.unusedVariables false
set_option linter.unusedSimpArgs false
set_option maxRecDepth 100000
namespace Go.K
open Go.Sl Go.Sx Go.Proofs
def chF (ls : List (List Int)) (out : List (List Int)) : List (List Int) := ls.foldl (fun out x => out.flatMap fun y => x.map fun n => y ++ [n]) out
theorem chF_eq : ∀ (ls out : List (List Int)), chF ls out = out.flatMap fun y => (choL ls).map (y ++ ·)
  | [], out => by
    show out = _
    have : (fun y : List Int => (choL []).map (y ++ ·)) = fun y => [y] := by funext y; simp [choL]
    rw [this]; simp
  | x :: ls, out => by
    show chF ls (out.flatMap fun y => x.map fun n => y ++ [n]) = _
    rw [chF_eq ls, List.flatMap_assoc]
    congr 1
    funext y
    rw [List.flatMap_map]
    show (x.flatMap fun n => (choL ls).map ((y ++ [n]) ++ ·)) = (x.flatMap fun n => (choL ls).map (n :: ·)).map (y ++ ·)
    rw [List.map_flatMap]
    congr 1
    funext n
    rw [List.map_map]
    congr 1
    funext z
    simp
theorem chF_one (ls : List (List Int)) : chF ls [[]] = choL ls := by rw [chF_eq]; simp
theorem step_len (out : List (List Int)) (x : List Int) : (out.flatMap fun y => x.map fun n => y ++ [n]).length = out.length * x.length := by
  induction out with
  | nil => simp
  | cons y out ih => rw [List.flatMap_cons, List.length_append, ih, List.length_map, List.length_cons, Nat.add_mul]; omega
theorem G56_cho (ls : List (List Int)) (hne : ∀ x ∈ ls, x ≠ []) (hp : prodL ls ≤ 4000) (hl : ls.length ≤ 1000) : G56 LF ls = some (choL ls) := by
  unfold G56
  refine (iter_foldI (fun i a => (a, i)) (fun (x : List Int) _ out => out.flatMap fun y => x.map fun n => y ++ [n]) (fun i (a : List (List Int)) => a.length * prodL (ls.drop i) ≤ 4000 ∧ ∀ y ∈ a, y.length = i) ls (fun a => some a) [[]] ?_ ?_ ?_ (by show ls.length < 9223372036854775808; omega) ⟨by simp; exact hp, by simp⟩).trans ?_
  · intro i x a hx hg
    obtain ⟨g1, g2⟩ := hg
    have hi := lt_of_get hx
    have hd : ls.drop i = x :: ls.drop (i + 1) := by
      rw [List.drop_eq_getElem_cons hi]
      rw [List.getElem?_eq_getElem hi] at hx
      simp only [Option.some.injEq] at hx
      rw [hx]
    have hpos : 1 ≤ prodL (ls.drop (i + 1)) := prod_pos fun y hy => hne y (List.mem_of_mem_drop hy)
    have hmul : a.length * x.length ≤ 4000 := by
      rw [hd] at g1
      have e : a.length * (x.length * prodL (ls.drop (i + 1))) = (a.length * x.length) * prodL (ls.drop (i + 1)) := (Nat.mul_assoc _ _ _).symm
      have g1' : (a.length * x.length) * prodL (ls.drop (i + 1)) ≤ 4000 := by rw [← e]; exact g1
      have := Nat.mul_le_mul (Nat.le_refl (a.length * x.length)) hpos
      omega
    have hxp := List.length_pos_iff.2 (hne x (List.mem_of_getElem? hx))
    have hal : a.length ≤ 4000 := by
      have := Nat.le_mul_of_pos_right a.length hxp
      omega
    simp only [dlt hi, cond_true, getI_nat hx, Option.bind_some]
    refine (iter_foldI (fun i s => (s, i)) (fun (y : List Int) _ s => s ++ x.map fun n => y ++ [n]) (fun j (s : List (List Int)) => s.length = j * x.length) a (fun s => some (.inl (s, ((i + 1 : Nat) : Int)))) [] ?_ ?_ ?_ (by show a.length < 9223372036854775808; omega) (by simp)).trans ?_
    · intro j y s hy hs
      have hj := lt_of_get hy
      have hyl := g2 y (List.mem_of_getElem? hy)
      have hjm : j * x.length + x.length ≤ 4000 := by
        have := Nat.mul_le_mul (show j + 1 ≤ a.length by omega) (Nat.le_refl x.length)
        rw [Nat.add_mul] at this; omega
      simp only [dlt hj, cond_true, getI_nat hy, Option.bind_some]
      refine (iter_app (fun i s => (s, i)) (fun n : Int => [y ++ [n]]) x (fun s => some (.inl (s, ((j + 1 : Nat) : Int)))) 1 (fun _ _ => by simp) s ?_ ?_ (by show x.length < 9223372036854775808; omega)).trans ?_
      · intro q n u hq hu hql
        simp only [dlt hql, cond_true, getI_nat hq, Option.bind_some, appC_of (show ([] : List Int).length + y.length ≤ 1099511627776 by simp; omega), List.nil_append, appC_of (show y.length + [n].length ≤ 1099511627776 by simp; omega), appC_of (show u.length + [y ++ [n]].length ≤ 1099511627776 by simp; omega), succ_W (show q + 1 < 9223372036854775808 by omega)]
      · intro u _
        simp only [dnlt, succ_W (show j + 1 < 9223372036854775808 by omega)]; rfl
      · rw [← List.map_eq_flatMap]
    · intro j y s hy hs
      rw [List.length_append, List.length_map, hs, Nat.add_mul]; omega
    · intro s _
      simp only [dnlt, succ_W (show i + 1 < 9223372036854775808 by omega)]; rfl
    · rw [foldI_const]
      have : ∀ (l : List (List Int)) (s : List (List Int)), l.foldl (fun s y => s ++ x.map fun n => y ++ [n]) s = s ++ l.flatMap fun y => x.map fun n => y ++ [n] := by
        intro l
        induction l with
        | nil => intro s; simp
        | cons y l ih => intro s; rw [List.foldl_cons, ih]; simp
      rw [this]; rfl
  · intro i x a hx hg
    obtain ⟨g1, g2⟩ := hg
    have hi := lt_of_get hx
    have hd : ls.drop i = x :: ls.drop (i + 1) := by
      rw [List.drop_eq_getElem_cons hi]
      rw [List.getElem?_eq_getElem hi] at hx
      simp only [Option.some.injEq] at hx
      rw [hx]
    refine ⟨?_, fun y hy => ?_⟩
    · rw [step_len, Nat.mul_assoc]
      rw [hd] at g1
      exact g1
    · simp only [List.mem_flatMap, List.mem_map] at hy
      obtain ⟨z, hz, n, _, rfl⟩ := hy
      simp [g2 z hz]
  · intro a _
    simp only [dnlt]; rfl
  · rw [foldI_const]
    congr 1
    exact chF_one ls
theorem VF.prod {c : Cd} {f : List Fct} (h : VF c f) : prodL (startsL f (condsL c.2.2)) ≤ 4000 := by rw [← choL_len]; exact h.cs
theorem G27_cases {c : Cd} (h : VC c) {f : List Fct} (hf : VF c f) : G27 LF (c, f) = some (casesL c f) := by
  have hfl := h.fl
  have hfn := hf.ln
  unfold G27
  simp only [G109_conds (c.1, (c.2.1, c.2.2)) (show c.2.2.length ≤ 1000 by have := h.ll; omega), Option.bind_some, G108_starts _ _ (show f.length ≤ 1000 by omega) h.cl h.cs, G56_cho _ (starts_ne _ _) hf.prod (show (startsL f (condsL c.2.2)).length ≤ 1000 by rw [starts_len]; omega)]
  rfl
def allBut (l : List Bool) (k : Int) : Bool := (scan (fun x i => bif !x && !decide ((i : Int) = k) then some false else none) l 0).isNone
theorem G28_all (l : List Bool) (k : Int) (hl : l.length < LF) : G28 LF (l, k) = some (allBut l k) := by
  unfold G28 allBut
  refine (iter_scan (fun (x : Bool) i => bif !x && !decide ((i : Int) = k) then some false else none) l (some true) ?_ ?_ hl).trans ?_
  · intro i x hx _
    have hi := lt_of_get hx
    simp only [dlt hi, cond_true, getI_nat hx, Option.bind_some, succ_W (Nat.lt_of_le_of_lt hi hl)]
    cases x with
    | true => rfl
    | false => cases decide ((i : Int) = k) <;> rfl
  · intro _
    simp only [dnlt]; rfl
  · have key : ∀ (l : List Bool) (i : Nat) (e : Bool), scan (fun (x : Bool) i => bif !x && !decide ((i : Int) = k) then some false else none) l i = some e → e = false := by
      intro l
      induction l with
      | nil => intro i e h; cases h
      | cons x l ih =>
        intro i e h
        simp only [scan] at h
        cases hc : (!x && !decide ((i : Int) = k)) with
        | true => rw [hc] at h; cases h; rfl
        | false => rw [hc] at h; exact ih _ _ h
    cases h : scan (fun (x : Bool) i => bif !x && !decide ((i : Int) = k) then some false else none) l 0 with
    | none => rfl
    | some e => rw [key l 0 e h]; rfl
theorem iter_goS {V S α ρ : Type} {f : α → Option (α ⊕ ρ)} (mk : Int → S → α) (step : V → S → S ⊕ ρ) (all : List V) (fin : S → Option ρ) (s : S)
    (h1 : ∀ (i : Nat) v s, all[i]? = some v → f (mk (i : Nat) s) = some (match step v s with | .inl s' => .inl (mk ((i + 1 : Nat) : Int) s') | .inr e => .inr e))
    (h2 : ∀ s, f (mk (all.length : Nat) s) = outR (fin s)) (hl : all.length < LF) :
    iter LF f (mk 0 s) = match goS step all s with | .inl s' => fin s' | .inr e => some e := by
  rw [iter_go mk (fun v _ s => step v s) (fun _ _ => True) all fin s (fun i v s hv _ => h1 i v s hv) (fun _ _ _ _ _ _ _ => trivial) (fun s _ => h2 s) hl trivial]
  have : ∀ (l : List V) (i : Nat) (s : S), foldS (fun v _ s => step v s) l i s = goS step l s := by
    intro l
    induction l with
    | nil => intro i s; rfl
    | cons v l ih =>
      intro i s
      simp only [foldS, goS]
      cases step v s with
      | inl s' => exact ih _ _
      | inr e => rfl
  rw [this]
  cases goS step all s <;> rfl
end Go.K
namespace Go.K
theorem sane_true : G22 LF () = some true := by kernel_rfl
end Go.K
set_option linter.unusedVariables false
set_option linter.unusedSimpArgs false
set_option maxRecDepth 100000
namespace Go.K
open Go.Sl Go.Sx Go.Proofs
theorem VF.le {c : Cd} {f : List Fct} (h : VF c f) {i : Nat} {x : Fct} (hx : f[i]? = some x) : x.2.1 ≤ x.2.2 := by
  have hi := lt_of_get hx
  have hl := h.ln
  have := h.fit i _ x (List.getElem?_eq_getElem (show i < c.2.1.length by omega)) hx
  unfold fitB at this
  simp only [Bool.and_eq_true, decide_eq_true_eq] at this
  exact this.2.2.1
end Go.K
set_option linter.unusedVariables false
set_option linter.unusedSimpArgs false
set_option maxRecDepth 100000
namespace Go.K
open Go.Sl Go.Sx Go.Proofs
def near1 (l : List Int) (n m : Int) : Prop := m ∈ l ∧ m ≤ n ∧ ∀ k ∈ l, k ≤ n → k ≤ m
def Near (c : Cd) (f : List Fct) (v w : List Int) : Prop := w.length = v.length ∧ ∀ (i : Nat) (x : Fct) (n m : Int), f[i]? = some x → v[i]? = some n → w[i]? = some m → near1 (cutsOf (condsL c.2.2) x) n m
def In (f : List Fct) (v : List Int) : Prop := v.length = f.length ∧ ∀ (i : Nat) (x : Fct) (n : Int), f[i]? = some x → v[i]? = some n → x.2.1 ≤ n ∧ n ≤ x.2.2
theorem cut_side {cs : List Cnd} {x : Fct} {n m : Int} (hx : x.2.1 ≤ n ∧ n ≤ x.2.2) (h : near1 (cutsOf cs x) n m) {cd : Cnd} {t : Tm} (hc : cd ∈ cs) (ht : t ∈ cd) (hn : t.2.2.2.1 = x.1) {k : Int} (hk : k ∈ partsL t) : n < k ↔ m < k := by
  obtain ⟨h1, h2, h3⟩ := h
  have hlo : x.2.1 ≤ m := h3 _ (((cuts_mem cs x).2 _).2 (.inl rfl)) hx.1
  by_cases hk1 : x.2.1 < k
  · by_cases hk2 : k ≤ x.2.2
    · have hmem : k ∈ cutsOf cs x := ((cuts_mem cs x).2 k).2 (.inr (cutN_mem.2 ⟨⟨cd, hc, t, ht, hn, hk⟩, hk1, hk2⟩))
      constructor
      · intro h; omega
      · intro h
        by_cases hkn : k ≤ n
        · have := h3 k hmem hkn; omega
        · omega
    · omega
  · omega
theorem Near.term {c : Cd} (h : VC c) {f : List Fct} (hf : VF c f) {v w : List Int} (hv : In f v) (hw : Near c f v w) {cd : Cnd} (hc : cd ∈ condsL c.2.2) (hcd : condE c.2.1 cd = 0) {i : Nat} {t : Tm} (ht : cd[i]? = some t) (l : List Bool) : tmSo c.2.1 v t l = tmSo c.2.1 w t l := by
  obtain ⟨c1, c2, c3⟩ := cond_short hcd
  have hs := c3 i t ht
  have hkd := term_kd hs
  obtain ⟨hshp, hsh2⟩ := term_ok hs
  have htm := List.mem_of_getElem? ht
  cases hkd with
  | tru => rfl
  | neg _ => rfl
  | bin h0 _ _ => rcases h0 with rfl | rfl <;> rfl
  | cmp h1 h2 =>
    rename_i k a b s n
    obtain ⟨p, hp, hpl, x, hx, hxs⟩ := plF_get h2
    have hfl := hf.ln
    have hvl := hv.1
    have hwl := hw.1
    have hfp : f[p]? = some f[p] := List.getElem?_eq_getElem (by omega)
    have hname : x.1 = f[p].1 := by
      have := hf.fit p x f[p] hx hfp
      unfold fitB at this
      simp only [Bool.and_eq_true, decide_eq_true_eq] at this
      exact this.1
    have hvp : v[p]? = some v[p] := List.getElem?_eq_getElem (by omega)
    have hwp : w[p]? = some w[p] := List.getElem?_eq_getElem (by omega)
    have hin := hv.2 p _ _ hfp hvp
    have hne := hw.2 p _ _ _ hfp hvp hwp
    have hside : ∀ q, q ∈ partsL (k, (a, (b, (s, n)))) → (v[p] < q ↔ w[p] < q) := fun q hq => cut_side hin hne hc htm (by show s = f[p].1; rw [← hname, hxs]) hq
    have gv : v.getD (plF c.2.1 s).toNat 0 = v[p] := by rw [hp, Int.toNat_natCast, List.getD_eq_getElem?_getD, hvp]; rfl
    have gw : w.getD (plF c.2.1 s).toNat 0 = w[p] := by rw [hp, Int.toNat_natCast, List.getD_eq_getElem?_getD, hwp]; rfl
    have hnb : -1000000000000 ≤ n ∧ n ≤ 1000000000000 := by
      unfold shp at hshp
      simp only at hshp
      rw [if_neg (by omega), if_pos (by omega), decide_eq_true_eq] at hshp
      exact hshp.2.2
    have hw1 : w64 (n + 1) = n + 1 := w64_in (by omega)
    unfold tmSo
    simp only [gv, gw]
    rcases h1 with rfl | rfl | rfl
    · have := hside n (by simp [partsL])
      rw [if_neg (by decide), if_pos rfl, if_neg (by decide), if_pos rfl]
      exact decide_eq_decide.2 this
    · have := hside (n + 1) (by simp [partsL, hw1])
      rw [if_neg (by decide), if_neg (by decide), if_pos rfl, if_neg (by decide), if_neg (by decide), if_pos rfl]
      exact decide_eq_decide.2 (by omega)
    · have e1 := hside n (by simp [partsL])
      have e2 := hside (n + 1) (by simp [partsL, hw1])
      rw [if_neg (by decide), if_neg (by decide), if_neg (by decide), if_pos rfl, if_neg (by decide), if_neg (by decide), if_neg (by decide), if_pos rfl]
      exact decide_eq_decide.2 (by omega)
theorem Near.so {c : Cd} (h : VC c) {f : List Fct} (hf : VF c f) {v w : List Int} (hv : In f v) (hw : Near c f v w) {cd : Cnd} (hc : cd ∈ condsL c.2.2) (hcd : condE c.2.1 cd = 0) : soB c.2.1 v cd = soB c.2.1 w cd := by
  unfold soB soL
  congr 1
  have key : ∀ (m : Cnd), (∀ t ∈ m, t ∈ cd) → ∀ l, m.foldl (fun l t => l ++ [tmSo c.2.1 v t l]) l = m.foldl (fun l t => l ++ [tmSo c.2.1 w t l]) l := by
    intro m
    induction m with
    | nil => intro _ l; rfl
    | cons t m ih =>
      intro hs l
      obtain ⟨i, hi⟩ := List.mem_iff_getElem?.1 (hs t (List.mem_cons_self ..))
      rw [List.foldl_cons, List.foldl_cons, hw.term h hf hv hc hcd hi, ih (fun q hq => hs q (List.mem_cons_of_mem _ hq))]
  exact key cd (fun _ h => h) []
theorem conds_mem {l : List Rl} {r : Rl} (h : r ∈ l) : r.2.2.2.1 ∈ condsL l ∧ r.2.2.2.2.1 ∈ condsL l := by
  unfold condsL
  exact ⟨List.mem_flatMap.2 ⟨r, h, List.mem_cons_self ..⟩, List.mem_flatMap.2 ⟨r, h, List.mem_cons_of_mem _ (List.mem_cons_self ..)⟩⟩
theorem VC.conds {c : Cd} (h : VC c) {r : Rl} (hr : r ∈ c.2.2) : condE c.2.1 r.2.2.2.1 = 0 ∧ condE c.2.1 r.2.2.2.2.1 = 0 := by
  obtain ⟨i, hi⟩ := List.mem_iff_getElem?.1 hr
  obtain ⟨_, _, _, h1, h2, _⟩ := h.rule hi
  exact ⟨h1, h2⟩
theorem Near.binds {c : Cd} (h : VC c) {f : List Fct} (hf : VF c f) {v w : List Int} (hv : In f v) (hw : Near c f v w) (d : Int) : bindsL c d v = bindsL c d w := by
  unfold bindsL
  have key : ∀ (m : List Rl), (∀ r ∈ m, r ∈ c.2.2) → ∀ out, nbL c.2.1 c.2.2 d v m out = nbL c.2.1 c.2.2 d w m out := by
    intro m
    induction m with
    | nil => intro _ out; rfl
    | cons r m ih =>
      intro hs out
      have hr := hs r (List.mem_cons_self ..)
      have e : bindB c.2.1 c.2.2 d v r out = bindB c.2.1 c.2.2 d w r out := by
        unfold bindB
        rw [hw.so h hf hv (conds_mem hr).1 (h.conds hr).1]
      simp only [nbL, e]
      rw [ih (fun q hq => hs q (List.mem_cons_of_mem _ hq))]
  exact key c.2.2 (fun _ h => h) []
theorem Near.kept {c : Cd} (h : VC c) {f : List Fct} (hf : VF c f) {v w : List Int} (hv : In f v) (hw : Near c f v w) (d : Int) : keptL c d v = keptL c d w := by
  unfold keptL
  rw [hw.binds h hf hv d]
  have key : ∀ (m : List Rl), (∀ r ∈ m, r ∈ c.2.2) → ∀ bs : List Bool, List.zipWith (fun b (r : Rl) => !b || soB c.2.1 v r.2.2.2.2.1) bs m = List.zipWith (fun b (r : Rl) => !b || soB c.2.1 w r.2.2.2.2.1) bs m := by
    intro m
    induction m with
    | nil => intro _ bs; simp
    | cons r m ih =>
      intro hs bs
      have hr := hs r (List.mem_cons_self ..)
      cases bs with
      | nil => rfl
      | cons b bs =>
        simp only [List.zipWith_cons_cons]
        rw [hw.so h hf hv (conds_mem hr).2 (h.conds hr).2, ih (fun q hq => hs q (List.mem_cons_of_mem _ hq))]
  exact key c.2.2 (fun _ h => h) _
end Go.K
set_option linter.unusedVariables false
set_option linter.unusedSimpArgs false
set_option maxRecDepth 100000
namespace Go.K
open Go.Sl Go.Sx Go.Proofs
theorem same_loop {σ : Type} {f : Int → Option (Int ⊕ Bool)} (l : List σ) (h1 : ∀ (i : Nat) x, l[i]? = some x → f (i : Int) = some (.inl ((i + 1 : Nat) : Int))) (h2 : f (l.length : Int) = some (.inr true)) (hl : l.length < LF) : iter LF f 0 = some true := by
  refine (iter_scan (fun (_ : σ) _ => (none : Option Bool)) l (some true) (fun i x hx _ => h1 i x hx) (fun _ => h2) hl).trans ?_
  have : ∀ (l : List σ) (i : Nat), scan (fun (_ : σ) _ => (none : Option Bool)) l i = none := by
    intro l
    induction l with
    | nil => intro i; rfl
    | cons x l ih => intro i; simp only [scan]; exact ih _
  rw [this]
theorem G62_same (l : List Int) (hl : l.length < LF) : G62 LF (l, l) = some true := by
  unfold G62
  simp only [decide_true, Bool.not_true, cond_false]
  refine same_loop l (fun i x hx => ?_) ?_ hl
  · have hi := lt_of_get hx
    simp only [dlt hi, cond_true, getI_nat hx, Option.bind_some, decide_true, Bool.not_true, cond_false, succ_W (Nat.lt_of_le_of_lt hi hl)]
  · simp only [dnlt, cond_false]
end Go.K
set_option linter.unusedVariables false
set_option linter.unusedSimpArgs false
set_option maxRecDepth 100000
namespace Go.K
open Go.Sl Go.Sx Go.Proofs
def dayR (r : Rl) : List Int := r.2.1 :: if r.2.2.1 < 100000 then [w64 (r.2.2.1 + 1)] else []
theorem dayR_len (r : Rl) : (dayR r).length ≤ 2 := by unfold dayR; split <;> simp
theorem daysL_eq (l : List Rl) : daysL l = compL (sortL (0 :: l.flatMap dayR)) := rfl
theorem days_len (l : List Rl) : (daysL l).length ≤ 2 * l.length + 1 := by
  have h1 := compact_le (sortL (0 :: l.flatMap dayR))
  have h2 := sortL_len (0 :: l.flatMap dayR)
  have h3 := flat_len dayR 2 l (fun r _ => dayR_len r)
  rw [daysL_eq]
  simp only [List.length_cons] at h2
  omega
theorem G127_days (c : Cd) (hl : c.2.2.length ≤ 1000) : G127 LF c = some (daysL c.2.2) := by
  unfold G127
  refine (iter_app (fun i a => (a, i)) dayR c.2.2 (fun a => some (compL (sortL a))) 2 (fun r _ => dayR_len r) [0] ?_ ?_ (by show c.2.2.length < 9223372036854775808; omega)).trans ?_
  · intro i r a hr ha hi
    simp only [List.length_singleton] at ha
    simp only [dlt hi, cond_true, getI_nat hr, Option.bind_some, appC_of (show a.length + [r.2.1].length ≤ 1099511627776 by simp; omega), succ_W (show i + 1 < 9223372036854775808 by omega)]
    unfold dayR
    by_cases h : r.2.2.1 < 100000
    · simp only [decide_eq_true h, cond_true, if_pos h, appC_of (show (a ++ [r.2.1]).length + [w64 (r.2.2.1 + 1)].length ≤ 1099511627776 by simp; omega), Option.bind_some]
      simp
    · simp only [decide_eq_false h, cond_false, if_neg h]
  · intro a ha
    simp only [List.length_singleton] at ha
    have h1 : a.length ≤ 1099511627776 := by omega
    have h2 : (sortL a).length ≤ 1099511627776 := by rw [← sortL_len]; exact h1
    simp only [dnlt, cond_false, ltC_of h1, ltC_of h2, Option.bind_some]
  · rfl
theorem G142_days (c : Cd) (hl : c.2.2.length ≤ 1000) : G142 LF c = some (daysL c.2.2) := by
  unfold G142
  refine (iter_put (fun i a => (a, i)) dayR c.2.2 (fun a => some a) 2 (fun r _ => dayR_len r) [0] ?_ ?_ (by show c.2.2.length < 9223372036854775808; omega)).trans ?_
  · intro i r a hr ha hi
    simp only [List.length_singleton] at ha
    have hpl := putL_len a r.2.1
    simp only [dlt hi, cond_true, getI_nat hr, Option.bind_some, G177_put a r.2.1 (by omega), succ_W (show i + 1 < 9223372036854775808 by omega)]
    unfold dayR
    by_cases h : r.2.2.1 < 100000
    · simp only [decide_eq_true h, cond_true, if_pos h, G177_put (putL a r.2.1) (w64 (r.2.2.1 + 1)) (by omega), Option.bind_some]
      rfl
    · simp only [decide_eq_false h, cond_false, if_neg h]
      rfl
  · intro a _
    simp only [dnlt]; rfl
  · rw [putF_sort]; rfl
def alo (l : List Bool) (i : Nat) : Bool := !l.getD i true && allBut l (i : Int)
theorem allBut_iff (l : List Bool) (i : Nat) : allBut l (i : Int) = true ↔ ∀ (j : Nat) (b : Bool), l[j]? = some b → j ≠ i → b = true := by
  unfold allBut
  have key : ∀ (m : List Bool) (k : Nat), (scan (fun (x : Bool) (q : Nat) => bif !x && !decide ((q : Int) = (i : Int)) then some false else none) m k).isNone = true ↔ ∀ (j : Nat) (b : Bool), m[j]? = some b → k + j ≠ i → b = true := by
    intro m
    induction m with
    | nil => intro k; simp [scan]
    | cons x m ih =>
      intro k
      simp only [scan]
      by_cases hk : k = i
      · subst hk
        simp only [decide_true, Bool.not_true, Bool.and_false, cond_false]
        rw [ih]
        constructor
        · intro h j b hj hne
          cases j with
          | zero => exact absurd rfl hne
          | succ j => exact h j b (by simpa using hj) (by omega)
        · intro h j b hj hne
          exact h (j + 1) b (by simpa using hj) (by omega)
      · have : decide ((k : Int) = (i : Int)) = false := decide_eq_false (by omega)
        rw [this]
        cases x with
        | true =>
          simp only [Bool.not_true, Bool.false_and, cond_false]
          rw [ih]
          constructor
          · intro h j b hj hne
            cases j with
            | zero => simp at hj; exact hj
            | succ j => exact h j b (by simpa using hj) (by omega)
          · intro h j b hj hne
            exact h (j + 1) b (by simpa using hj) (by omega)
        | false =>
          simp only [Bool.not_false, Bool.and_self, cond_true, Option.isNone_some, Bool.false_eq_true, false_iff]
          intro h
          have := h 0 false rfl (by omega)
          cases this
  have := key l 0
  simpa using this
theorem G133_alone (b l : List Bool) (i : Nat) (hi : i < l.length) (hl : l.length < LF) : G133 LF ((b, l), (i : Int)) = some (alo l i) := by
  unfold G133
  refine (iter_scan (fun (x : Bool) (j : Nat) => if x = decide (j = i) then some false else none) l (some true) ?_ ?_ hl).trans ?_
  · intro j x hx _
    have hj := lt_of_get hx
    have e : decide ((j : Int) = (i : Int)) = decide (j = i) := decide_eq_decide.2 (by omega)
    simp only [dlt hj, cond_true, getI_nat hx, Option.bind_some, e, succ_W (Nat.lt_of_le_of_lt hj hl)]
    by_cases h : x = decide (j = i) <;> simp [h]
  · intro _
    simp only [dnlt]; rfl
  · have key : ∀ (m : List Bool) (k : Nat), (scan (fun (x : Bool) (j : Nat) => if x = decide (j = i) then some false else none) m k = none ∨ scan (fun (x : Bool) (j : Nat) => if x = decide (j = i) then some false else none) m k = some false) ∧ (scan (fun (x : Bool) (j : Nat) => if x = decide (j = i) then some false else none) m k = none ↔ ∀ (j : Nat) (b : Bool), m[j]? = some b → b = !decide (k + j = i)) := by
      intro m
      induction m with
      | nil => intro k; simp [scan]
      | cons x m ih =>
        intro k
        simp only [scan]
        by_cases h : x = decide (k = i)
        · rw [if_pos h]
          refine ⟨.inr rfl, ?_⟩
          constructor
          · intro e; cases e
          · intro e
            have := e 0 x rfl
            rw [Nat.add_zero] at this
            rw [h] at this
            cases hd : decide (k = i) <;> rw [hd] at this <;> cases this
        · rw [if_neg h]
          refine ⟨(ih (k + 1)).1, ?_⟩
          rw [(ih (k + 1)).2]
          constructor
          · intro e j b hj
            cases j with
            | zero =>
              simp at hj; subst hj
              rw [Nat.add_zero]
              cases x <;> cases hd : decide (k = i) <;> simp_all
            | succ j =>
              have := e j b (by simpa using hj)
              rwa [show k + 1 + j = k + (j + 1) by omega] at this
          · intro e j b hj
            have := e (j + 1) b (by simpa using hj)
            rwa [show k + (j + 1) = k + 1 + j by omega] at this
    obtain ⟨k1, k2⟩ := key l 0
    have hval : alo l i = true ↔ scan (fun (x : Bool) (j : Nat) => if x = decide (j = i) then some false else none) l 0 = none := by
      rw [k2]
      unfold alo
      rw [Bool.and_eq_true, allBut_iff]
      constructor
      · rintro ⟨h1, h2⟩ j b hj
        rw [Nat.zero_add]
        by_cases e : j = i
        · subst e
          rw [List.getD_eq_getElem?_getD, hj] at h1
          simp at h1
          simp [h1]
        · rw [h2 j b hj e]; simp [e]
      · intro h
        refine ⟨?_, fun j b hj hne => ?_⟩
        · have := h i l[i] (List.getElem?_eq_getElem hi)
          rw [List.getD_eq_getElem?_getD, List.getElem?_eq_getElem hi]
          simp at this
          simp [this]
        · have := h j b hj
          rw [Nat.zero_add] at this
          simpa [hne] using this
    rcases k1 with e | e
    · rw [e]; rw [hval.2 e]
    · rw [e]
      cases ha : alo l i with
      | false => rfl
      | true => rw [hval.1 ha] at e; cases e
theorem G144_alone {c : Cd} (h : VC c) {d : Int} {v : List Int} (hv : v.length = c.2.1.length) {i : Nat} (hi : i < c.2.2.length) : G144 LF (c, ((i : Int), (d, v))) = some (alo (keptL c d v) i) := by
  have hkl := keptL_len c d v
  have hl : (keptL c d v).length < LF := by rw [hkl]; exact h.ll'
  unfold G144
  simp only [show G26 LF ((c.1, (c.2.1, c.2.2)), (d, v)) = some (keptL c d v) from G26_kept h hv, Option.bind_some, getI_getD (l := keptL c d v) (n := i) true (by omega), G28_all _ _ hl]
  unfold alo
  cases (keptL c d v).getD i true <;> rfl
def witD (c : Cd) (i : Nat) (d : Int) : Option (List Int) := (casesL c c.2.1).find? fun v => alo (keptL c d v) i
def witS (c : Cd) (i : Nat) (d : Int) (_ : Nat) : Option ((Int × List Int) × Bool) := (witD c i d).map fun v => ((d, v), true)
def witA (c : Cd) (i : Nat) : (Int × List Int) × Bool := (scan (witS c i) (daysL c.2.2) 0).getD ((0, []), false)
theorem bind_out {c : Cd} (h : VC c) {i : Nat} {r : Rl} (hr : c.2.2[i]? = some r) {d : Int} (hd : ¬ (r.2.1 ≤ d ∧ d ≤ r.2.2.1)) (v : List Int) : (bindsL c d v).getD i true = false := by
  unfold bindsL
  have key : ∀ (m : List Rl) (j : Nat) (out : List Bool), m[j]? = some r → (nbL c.2.1 c.2.2 d v m out)[j]? = some false := by
    intro m
    induction m with
    | nil => intro j out hj; simp at hj
    | cons q m ih =>
      intro j out hj
      cases j with
      | zero =>
        simp at hj; subst hj
        simp only [nbL, List.getElem?_cons_zero]
        unfold bindB
        rw [decide_eq_false hd]; rfl
      | succ j =>
        simp only [nbL, List.getElem?_cons_succ]
        exact ih j _ (by simpa using hj)
  rw [List.getD_eq_getElem?_getD, key c.2.2 i [] hr]; rfl
theorem kept_get {c : Cd} {i : Nat} {r : Rl} (hr : c.2.2[i]? = some r) (d : Int) (v : List Int) : (keptL c d v)[i]? = some (!(bindsL c d v).getD i true || soB c.2.1 v r.2.2.2.2.1) := by
  have hi := lt_of_get hr
  have hb := bindsL_len c d v
  unfold keptL
  rw [List.getElem?_zipWith, hr, List.getElem?_eq_getElem (show i < (bindsL c d v).length by omega), List.getD_eq_getElem?_getD, List.getElem?_eq_getElem (show i < (bindsL c d v).length by omega)]
  rfl
theorem wit_out {c : Cd} (h : VC c) {i : Nat} {r : Rl} (hr : c.2.2[i]? = some r) {d : Int} (hd : ¬ (r.2.1 ≤ d ∧ d ≤ r.2.2.1)) : witD c i d = none := by
  unfold witD
  rw [List.find?_eq_none]
  intro v _
  have : (keptL c d v).getD i true = true := by rw [List.getD_eq_getElem?_getD, kept_get hr, bind_out h hr hd]; rfl
  unfold alo
  rw [this]
  simp
def wstep (c : Cd) (i : Nat) (d : Int) (v : List Int) (_ : Unit) : Unit ⊕ ((Int × List Int) × Bool) := if alo (keptL c d v) i then .inr ((d, v), true) else .inl ()
theorem go_wit (c : Cd) (i : Nat) (d : Int) : ∀ l : List (List Int), goS (wstep c i d) l () = match (l.find? fun v => alo (keptL c d v) i) with
    | some v => .inr ((d, v), true)
    | none => .inl ()
  | [] => rfl
  | v :: l => by
    simp only [goS, List.find?]
    unfold wstep
    cases alo (keptL c d v) i with
    | true => rfl
    | false => simp only [Bool.false_eq_true, if_false]; exact go_wit c i d l
theorem scan_some {σ ρ : Type} (g : σ → Nat → Option ρ) (l : List σ) (d : ρ) : (match scan g l 0 with | some e => some e | none => some d) = some ((scan g l 0).getD d) := getD_none _ _
theorem G132_wit {c : Cd} (h : VC c) {i : Nat} (hi : i < c.2.2.length) : G132 LF (c, (i : Int)) = some (witA c i) := by
  have hf := VF.self h
  have hfl := h.fl
  have hll := h.ll
  have hls := starts_len c.2.1 (condsL c.2.2)
  have hdl := days_len c.2.2
  unfold G132
  simp only [G127_days (c.1, (c.2.1, c.2.2)) (show c.2.2.length ≤ 1000 by omega), Option.bind_some]
  refine (iter_scan (witS c i) (daysL c.2.2) (some ((0, []), false)) ?_ ?_ (by show (daysL c.2.2).length < 9223372036854775808; omega)).trans (scan_some _ _ _)
  · intro k d hd _
    have hk := lt_of_get hd
    have hr : c.2.2[i]? = some c.2.2[i] := List.getElem?_eq_getElem hi
    have hk1 : w64 ((k : Int) + 1) = ((k + 1 : Nat) : Int) := succ_W (show k + 1 < 9223372036854775808 by omega)
    simp only [dlt hk, cond_true, getI_nat hd, getI_nat hr, Option.bind_some, G91_in, hk1]
    by_cases hin : c.2.2[i].2.1 ≤ d ∧ d ≤ c.2.2[i].2.2.1
    · simp only [decide_eq_true hin, Bool.not_true, cond_false, show G131 LF () = some () by rfl, Option.bind_some, G116_conds _ _ _ (show c.2.2.length ≤ 1000 by omega), G115_starts _ _ (show c.2.1.length ≤ 1000 by omega) (show (condsL c.2.2).length ≤ 1000 by have := h.cl; omega) h.cs, mkC_zer _ (show (startsL c.2.1 (condsL c.2.2)).length ≤ 1000 by omega)]
      refine (iter_odo (ρ := Int ⊕ ((Int × List Int) × Bool)) (fun i (_ : Unit) => i) (startsL c.2.1 (condsL c.2.2)) (starts_ne _ _) (fun v u => match wstep c i d v u with | .inl u => .inl u | .inr e => .inr (.inr e)) (fun _ _ => True) (fun _ => some (.inl ((k + 1 : Nat) : Int))) ?_ (fun _ _ _ _ _ _ _ _ => trivial) (by have := hf.cs; show _ < 9223372036854775808; omega) () trivial).trans ?_
      · intro q s n hq hv hn _
        have hvl := hf.vlen hv
        have hkl : (keptL c d (valsI (startsL c.2.1 (condsL c.2.2)) q)).length < LF := by rw [keptL_len]; exact h.ll'
        refine vals_of hq (show (startsL c.2.1 (condsL c.2.2)).length ≤ 1000 by omega) (fun a i hi => by simp only [castN_lt hi, cond_true]) ?_
        simp only [dnlt, cond_false]
        congr 1
        simp only [G130_judge (c := (c.1, (c.2.1, c.2.2))) h hvl, Option.bind_some, show G133 LF ((bindsL (c.1, (c.2.1, c.2.2)) d (valsI (startsL c.2.1 (condsL c.2.2)) q), keptL (c.1, (c.2.1, c.2.2)) d (valsI (startsL c.2.1 (condsL c.2.2)) q)), (i : Int)) = some (alo (keptL c d (valsI (startsL c.2.1 (condsL c.2.2)) q)) i) from G133_alone _ _ i (by rw [keptL_len]; exact hi) hkl]
        unfold wstep
        cases alo (keptL c d (valsI (startsL c.2.1 (condsL c.2.2)) q)) i with
        | true => rfl
        | false =>
          simp only [cond_false, Bool.false_eq_true, if_false]
          refine (adv_of hq (show (startsL c.2.1 (condsL c.2.2)).length ≤ 1000 by omega) (starts_cl c.2.1 h) _ _).trans ?_
          cases nxt (startsL c.2.1 (condsL c.2.2)) q with
          | some k' => rfl
          | none => rfl
      · have lift : ∀ l : List (List Int), goS (ρ := Int ⊕ ((Int × List Int) × Bool)) (fun v (u : Unit) => match wstep c i d v u with | .inl u => .inl u | .inr e => .inr (.inr e)) l () = match goS (wstep c i d) l () with | .inl u => .inl u | .inr e => .inr (.inr e) := by
          intro l
          induction l with
          | nil => rfl
          | cons v l ih =>
            simp only [goS]
            cases wstep c i d v () with
            | inl u => exact ih
            | inr e => rfl
        rw [lift, go_wit]
        unfold witS witD casesL
        cases ((choL (startsL c.2.1 (condsL c.2.2))).find? fun v => alo (keptL c d v) i) <;> rfl
    · simp only [decide_eq_false hin, Bool.not_false, cond_true]
      unfold witS
      rw [wit_out h hr hin]
      rfl
  · intro _
    simp only [dnlt]; rfl
def witR (c : Cd) (i : Int) : (Int × List Int) × Int :=
  if codeE c ≠ 0 then ((0, []), codeE c) else if 0 ≤ i ∧ i ≤ (c.2.2.length : Int) - 1 then (if (witA c i.toNat).2 then ((witA c i.toNat).1, 0) else ((0, []), 3)) else ((0, []), 47)
theorem G47_wit (c : Cd) (i : Int) : G47 LF (c, i) = some (witR c i) := by
  unfold G47 witR
  simp only [show G31 LF (c.1, (c.2.1, c.2.2)) = some (codeE c) from G31_code c, Option.bind_some]
  by_cases he : codeE c = 0
  · have h := VC.of he
    have hll := h.ll
    have hw : w64 ((c.2.2.length : Int) - 1) = (c.2.2.length : Int) - 1 := w64_in (by omega)
    simp only [he, decide_true, Bool.not_true, cond_false, G91_in, Option.bind_some, hw, ne_eq, not_true, if_false]
    by_cases hi : 0 ≤ i ∧ i ≤ (c.2.2.length : Int) - 1
    · rw [if_pos hi]
      obtain ⟨n, rfl⟩ := Int.eq_ofNat_of_zero_le hi.1
      simp only [decide_eq_true hi, Bool.not_true, cond_false, jl, decide_true, show G132 LF ((c.1, (c.2.1, c.2.2)), (n : Int)) = some (witA c n) from G132_wit h (by omega), Option.bind_some, Int.toNat_natCast]
      cases (witA c n).2 <;> rfl
    · rw [if_neg hi]
      simp only [decide_eq_false hi, Bool.not_false, cond_true, jl, show decide ((47 : Int) = 0) = false by rfl]
  · simp only [he, decide_false, Bool.not_false, cond_true, jl, ne_eq, not_false_eq_true, if_true]
theorem G60_wit (c : Cd) (i : Int) : G60 LF (c, i) = some (witR c i) := by
  unfold G60 witR
  simp only [show G32 LF (c.1, (c.2.1, c.2.2)) = some (codeE c) from G32_code c, Option.bind_some]
  by_cases he : codeE c = 0
  · have h := VC.of he
    have hf := VF.self h
    have hll := h.ll
    have hdl := days_len c.2.2
    have hlen : (casesL c c.2.1).length < LF := by have := hf.cs; show (choL (startsL c.2.1 (condsL c.2.2))).length < 9223372036854775808; omega
    have hw : w64 ((c.2.2.length : Int) - 1) = (c.2.2.length : Int) - 1 := w64_in (by omega)
    simp only [he, decide_true, Bool.not_true, cond_false, G126_in, Option.bind_some, hw, ne_eq, not_true, if_false]
    by_cases hi : 0 ≤ i ∧ i ≤ (c.2.2.length : Int) - 1
    · rw [if_pos hi]
      obtain ⟨n, rfl⟩ := Int.eq_ofNat_of_zero_le hi.1
      have hn : n < c.2.2.length := by omega
      simp only [decide_eq_true hi, Bool.not_true, cond_false, Int.toNat_natCast, G142_days (c.1, (c.2.1, c.2.2)) (show c.2.2.length ≤ 1000 by omega), Option.bind_some]
      refine (iter_scan (fun d k => (witS c n d k).map fun e => (e.1, (0 : Int))) (daysL c.2.2) (some ((0, []), 3)) ?_ ?_ (by show (daysL c.2.2).length < 9223372036854775808; omega)).trans ?_
      · intro k d hd _
        have hk := lt_of_get hd
        have hk1 : w64 ((k : Int) + 1) = ((k + 1 : Nat) : Int) := succ_W (show k + 1 < 9223372036854775808 by omega)
        simp only [dlt hk, cond_true, getI_nat hd, Option.bind_some, hk1, show G27 LF ((c.1, (c.2.1, c.2.2)), c.2.1) = some (casesL c c.2.1) from G27_cases h hf]
        refine (iter_scan (fun v _ => if alo (keptL c d v) n then some (.inr ((d, v), (0 : Int))) else none) (casesL c c.2.1) (some (.inl ((k + 1 : Nat) : Int))) ?_ ?_ hlen).trans ?_
        · intro q v hv _
          have hq := lt_of_get hv
          have hvl := hf.vlen (List.mem_of_getElem? hv)
          simp only [dlt hq, cond_true, getI_nat hv, Option.bind_some, show G144 LF ((c.1, (c.2.1, c.2.2)), ((n : Int), (d, v))) = some (alo (keptL c d v) n) from G144_alone h hvl hn, succ_W (Nat.lt_of_le_of_lt hq hlen)]
          cases alo (keptL c d v) n <;> rfl
        · intro _
          simp only [dnlt]; rfl
        · unfold witS witD
          have : ∀ (l : List (List Int)) (q : Nat), scan (fun v (_ : Nat) => if alo (keptL c d v) n then some (Sum.inr (α := Int) ((d, v), (0 : Int))) else none) l q = (l.find? fun v => alo (keptL c d v) n).map fun v => .inr ((d, v), 0) := by
            intro l
            induction l with
            | nil => intro q; rfl
            | cons v l ih =>
              intro q
              simp only [scan, List.find?]
              cases alo (keptL c d v) n with
              | true => rfl
              | false => simp only [Bool.false_eq_true, if_false]; exact ih _
          rw [this]
          cases ((casesL c c.2.1).find? fun v => alo (keptL c d v) n) <;> rfl
      · intro _
        simp only [dnlt]; rfl
      · unfold witA
        have : ∀ (l : List Int) (q : Nat), scan (fun d k => (witS c n d k).map fun e => (e.1, (0 : Int))) l q = (scan (witS c n) l q).map fun e => (e.1, 0) := by
          intro l
          induction l with
          | nil => intro q; rfl
          | cons d l ih =>
            intro q
            simp only [scan]
            cases witS c n d q with
            | some e => rfl
            | none => exact ih _
        have tru : ∀ (l : List Int) (q : Nat) e, scan (witS c n) l q = some e → e.2 = true := by
          intro l
          induction l with
          | nil => intro q e h; cases h
          | cons d l ih =>
            intro q e h
            simp only [scan] at h
            cases hw : witS c n d q with
            | some e' =>
              rw [hw] at h
              cases h
              unfold witS at hw
              cases hx : witD c n d with
              | none => rw [hx] at hw; cases hw
              | some v => rw [hx] at hw; cases hw; rfl
            | none => rw [hw] at h; exact ih _ _ h
        rw [this]
        cases hs : scan (witS c n) (daysL c.2.2) 0 with
        | none => rfl
        | some e => simp [tru _ _ _ hs]
    · rw [if_neg hi]
      simp only [decide_eq_false hi, Bool.not_false, cond_true]
  · simp only [he, decide_false, Bool.not_false, cond_true, ne_eq, not_false_eq_true, if_true]
end Go.K
set_option linter.unusedVariables false
set_option linter.unusedSimpArgs false
set_option maxRecDepth 100000
namespace Go.K
open Go.Sl Go.Sx Go.Proofs
def idlS (c : Cd) (_ : Rl) (i : Nat) : List Int := bif (witA c i).2 then [] else [(i : Int)]
def idlA (c : Cd) : List Int := foldI (fun r i a => a ++ idlS c r i) c.2.2 0 []
theorem idlS_len (c : Cd) (r : Rl) (i : Nat) : (idlS c r i).length ≤ 1 := by unfold idlS; cases (witA c i).2 <;> simp
theorem idl_len (c : Cd) : ∀ (l : List Rl) (i : Nat) (a : List Int), (foldI (fun r i a => a ++ idlS c r i) l i a).length ≤ a.length + l.length
  | [], _, _ => by simp [foldI]
  | r :: l, i, a => by
    have h1 := idl_len c l (i + 1) (a ++ idlS c r i)
    have h2 := idlS_len c r i
    simp only [foldI, List.length_cons]
    rw [List.length_append] at h1; omega
theorem G46_idle (c : Cd) : G46 LF c = some (if codeE c = 0 then (idlA c, 0) else ([], codeE c)) := by
  unfold G46
  simp only [show G31 LF (c.1, (c.2.1, c.2.2)) = some (codeE c) from G31_code c, Option.bind_some]
  by_cases he : codeE c = 0
  · have h := VC.of he
    have hll := h.ll
    simp only [he, decide_true, Bool.not_true, cond_false, if_true]
    refine (iter_foldI (fun i a => (a, i)) (fun (r : Rl) i a => a ++ idlS c r i) (fun i a => a.length ≤ i) c.2.2 (fun a => some (a, 0)) [] ?_ ?_ ?_ h.ll' (by simp)).trans rfl
    · intro i r a hr ha
      have hi := lt_of_get hr
      simp only [dlt hi, cond_true, show G132 LF ((c.1, (c.2.1, c.2.2)), (i : Int)) = some (witA c i) from G132_wit h hi, Option.bind_some, succ_W (show i + 1 < 9223372036854775808 by omega), appC_of (show a.length + [(i : Int)].length ≤ 1099511627776 by simp; omega)]
      unfold idlS
      cases (witA c i).2 <;> simp
    · intro i r a _ ha
      have := idlS_len c r i
      rw [List.length_append]; omega
    · intro a _
      simp only [dnlt]; rfl
  · simp only [he, decide_false, Bool.not_false, cond_true, if_false]
theorem witR_idle {c : Cd} (he : codeE c = 0) {i : Nat} (hi : i < c.2.2.length) : (witR c (i : Int)).2 = if (witA c i).2 then 0 else 3 := by
  unfold witR
  rw [if_neg (by simp [he]), if_pos (by omega), Int.toNat_natCast]
  split <;> rfl
theorem G59_idle (c : Cd) : G59 LF c = some (if codeE c = 0 then (idlA c, 0) else ([], codeE c)) := by
  unfold G59
  simp only [show G32 LF (c.1, (c.2.1, c.2.2)) = some (codeE c) from G32_code c, Option.bind_some]
  by_cases he : codeE c = 0
  · have h := VC.of he
    have hll := h.ll
    simp only [he, decide_true, Bool.not_true, cond_false, if_true]
    refine (iter_foldI (fun i a => (a, i)) (fun (r : Rl) i a => a ++ idlS c r i) (fun i a => a.length ≤ i) c.2.2 (fun a => some (a, 0)) [] ?_ ?_ ?_ h.ll' (by simp)).trans rfl
    · intro i r a hr ha
      have hi := lt_of_get hr
      simp only [dlt hi, cond_true, show G60 LF ((c.1, (c.2.1, c.2.2)), (i : Int)) = some (witR c (i : Int)) from G60_wit c (i : Int), Option.bind_some, witR_idle he hi, succ_W (show i + 1 < 9223372036854775808 by omega), appC_of (show a.length + [(i : Int)].length ≤ 1099511627776 by simp; omega)]
      unfold idlS
      cases (witA c i).2 <;> simp
    · intro i r a _ ha
      have := idlS_len c r i
      rw [List.length_append]; omega
    · intro a _
      simp only [dnlt]; rfl
  · simp only [he, decide_false, Bool.not_false, cond_true, if_false]
def valB (f : List Fct) (v : List Int) : Bool := decide (f.length = v.length) && (f.zip v).all fun p => decide (p.1.2.1 ≤ p.2 ∧ p.2 ≤ p.1.2.2)
theorem val_in {f : List Fct} {v : List Int} : valB f v = true ↔ In f v := by
  unfold valB In
  simp only [Bool.and_eq_true, decide_eq_true_eq, List.all_eq_true]
  constructor
  · rintro ⟨h1, h2⟩
    exact ⟨h1.symm, fun i x n hx hn => h2 (x, n) (List.mem_of_getElem? (i := i) (List.getElem?_zip_eq_some.2 ⟨hx, hn⟩))⟩
  · rintro ⟨h1, h2⟩
    refine ⟨h1.symm, fun p hp => ?_⟩
    obtain ⟨i, hi⟩ := List.mem_iff_getElem?.1 hp
    obtain ⟨a, b⟩ := List.getElem?_zip_eq_some.1 hi
    exact h2 i p.1 p.2 a b
theorem G129_val (c : Cd) (v : List Int) (hl : c.2.1.length < LF) : G129 LF (c, v) = some (valB c.2.1 v) := by
  unfold G129 valB
  by_cases he : c.2.1.length = v.length
  · have e1 : decide ((c.2.1.length : Int) = (v.length : Int)) = true := decide_eq_true (by omega)
    have hz : (c.2.1.zip v).length = c.2.1.length := by simp [he]
    simp only [e1, Bool.not_true, cond_false, decide_eq_true he, Bool.true_and]
    refine (iter_scan (fun (p : Fct × Int) _ => bif decide (p.1.2.1 ≤ p.2 ∧ p.2 ≤ p.1.2.2) then none else some false) (c.2.1.zip v) (some true) ?_ ?_ (by omega)).trans ?_
    · intro i p hp _
      obtain ⟨h1, h2⟩ := List.getElem?_zip_eq_some.1 hp
      have hi := lt_of_get h1
      simp only [dlt hi, cond_true, getI_nat h1, getI_nat h2, Option.bind_some, G91_in, succ_W (Nat.lt_of_le_of_lt hi hl)]
      cases decide (p.1.2.1 ≤ p.2 ∧ p.2 ≤ p.1.2.2) <;> rfl
    · intro _
      rw [hz]
      simp only [dnlt]; rfl
    · exact (getD_none _ _).trans (congrArg some (scan_all (fun p : Fct × Int => decide (p.1.2.1 ≤ p.2 ∧ p.2 ≤ p.1.2.2)) _ _))
  · have e1 : decide ((c.2.1.length : Int) = (v.length : Int)) = false := decide_eq_false (by omega)
    simp only [e1, Bool.not_false, cond_true, decide_eq_false he, Bool.false_and]
theorem G145_val (c : Cd) (v : List Int) (hl : c.2.1.length < LF) : G145 LF (c, v) = some (valB c.2.1 v) := by
  unfold G145 valB
  by_cases he : c.2.1.length = v.length
  · have e1 : decide ((v.length : Int) = (c.2.1.length : Int)) = true := decide_eq_true (by omega)
    have hz : (c.2.1.zip v).length = v.length := by simp [he]
    simp only [e1, Bool.not_true, cond_false, decide_eq_true he, Bool.true_and]
    refine (iter_scan (fun (p : Fct × Int) _ => bif decide (p.1.2.1 ≤ p.2 ∧ p.2 ≤ p.1.2.2) then none else some false) (c.2.1.zip v) (some true) ?_ ?_ (by omega)).trans ?_
    · intro i p hp _
      obtain ⟨h1, h2⟩ := List.getElem?_zip_eq_some.1 hp
      have hi := lt_of_get h2
      simp only [dlt hi, cond_true, getI_nat h1, getI_nat h2, Option.bind_some, G126_in, succ_W (Nat.lt_of_le_of_lt hi (by omega))]
      cases decide (p.1.2.1 ≤ p.2 ∧ p.2 ≤ p.1.2.2) <;> rfl
    · intro _
      rw [hz]
      simp only [dnlt]; rfl
    · exact (getD_none _ _).trans (congrArg some (scan_all (fun p : Fct × Int => decide (p.1.2.1 ≤ p.2 ∧ p.2 ≤ p.1.2.2)) _ _))
  · have e1 : decide ((v.length : Int) = (c.2.1.length : Int)) = false := decide_eq_false (by omega)
    simp only [e1, Bool.not_false, cond_true, decide_eq_false he, Bool.false_and]
def chwR (c : Cd) (i d : Int) (v : List Int) : Int :=
  if codeE c ≠ 0 then codeE c else if 0 ≤ i ∧ i ≤ (c.2.2.length : Int) - 1 then (if (0 ≤ d ∧ d ≤ 100000) ∧ valB c.2.1 v = true ∧ alo (keptL c d v) i.toNat = true then 0 else 42) else 47
theorem G48_chw (c : Cd) (i d : Int) (v : List Int) : G48 LF (c, (i, (d, v))) = some (chwR c i d v) := by
  unfold G48 chwR
  simp only [show G31 LF (c.1, (c.2.1, c.2.2)) = some (codeE c) from G31_code c, Option.bind_some]
  by_cases he : codeE c = 0
  · have h := VC.of he
    have hll := h.ll
    have hw : w64 ((c.2.2.length : Int) - 1) = (c.2.2.length : Int) - 1 := w64_in (by omega)
    simp only [he, decide_true, Bool.not_true, cond_false, G91_in, Option.bind_some, hw, ne_eq, not_true, if_false]
    by_cases hi : 0 ≤ i ∧ i ≤ (c.2.2.length : Int) - 1
    · rw [if_pos hi]
      obtain ⟨n, rfl⟩ := Int.eq_ofNat_of_zero_le hi.1
      simp only [decide_eq_true hi, Bool.not_true, cond_false, jl, decide_true, Int.toNat_natCast]
      by_cases hd : 0 ≤ d ∧ d ≤ 100000
      · simp only [decide_eq_true hd, Bool.not_true, cond_false, G129_val (c.1, (c.2.1, c.2.2)) v h.fl', Option.bind_some]
        cases hv : valB c.2.1 v with
        | false => simp only [Bool.not_false, cond_true, jl]; rw [if_neg (fun e => by cases e.2.1)]
        | true =>
          have hvl := (val_in.1 hv).1
          have hkl : (keptL c d v).length < LF := by rw [keptL_len]; exact h.ll'
          simp only [Bool.not_true, cond_false, show G131 LF () = some () by rfl, G130_judge (c := (c.1, (c.2.1, c.2.2))) h hvl, Option.bind_some, show G133 LF ((bindsL (c.1, (c.2.1, c.2.2)) d v, keptL (c.1, (c.2.1, c.2.2)) d v), (n : Int)) = some (alo (keptL c d v) n) from G133_alone _ _ n (by rw [keptL_len]; show n < c.2.2.length; omega) hkl]
          cases alo (keptL c d v) n with
          | false => simp only [Bool.not_false, cond_true, jl]; rw [if_neg (fun e => by cases e.2.2)]
          | true => simp only [Bool.not_true, cond_false, jl]; simp [hd]
      · simp only [decide_eq_false hd, Bool.not_false, cond_true, jl]
        rw [if_neg (fun e => hd e.1)]
    · rw [if_neg hi]
      simp only [decide_eq_false hi, Bool.not_false, cond_true, jl, show decide ((47 : Int) = 0) = false by rfl]
  · simp only [he, decide_false, Bool.not_false, cond_true, jl, ne_eq, not_false_eq_true, if_true]
theorem G64_chw (c : Cd) (i d : Int) (v : List Int) : G64 LF (c, (i, (d, v))) = some (chwR c i d v) := by
  unfold G64 chwR
  simp only [show G32 LF (c.1, (c.2.1, c.2.2)) = some (codeE c) from G32_code c, Option.bind_some]
  by_cases he : codeE c = 0
  · have h := VC.of he
    have hll := h.ll
    have hw : w64 ((c.2.2.length : Int) - 1) = (c.2.2.length : Int) - 1 := w64_in (by omega)
    simp only [he, decide_true, Bool.not_true, cond_false, G126_in, Option.bind_some, hw, ne_eq, not_true, if_false]
    by_cases hi : 0 ≤ i ∧ i ≤ (c.2.2.length : Int) - 1
    · rw [if_pos hi]
      obtain ⟨n, rfl⟩ := Int.eq_ofNat_of_zero_le hi.1
      simp only [decide_eq_true hi, Bool.not_true, cond_false, Int.toNat_natCast]
      by_cases hd : 0 ≤ d ∧ d ≤ 100000
      · simp only [decide_eq_true hd, Bool.not_true, cond_false, G145_val (c.1, (c.2.1, c.2.2)) v h.fl', Option.bind_some]
        cases hv : valB c.2.1 v with
        | false => simp only [Bool.not_false, cond_true, jl]; rw [if_neg (fun e => by cases e.2.1)]
        | true =>
          have hvl := (val_in.1 hv).1
          simp only [Bool.not_true, cond_false, show G144 LF ((c.1, (c.2.1, c.2.2)), ((n : Int), (d, v))) = some (alo (keptL c d v) n) from G144_alone h hvl (by omega), Option.bind_some]
          cases alo (keptL c d v) n with
          | false => simp only [Bool.not_false, cond_true, jl]; rw [if_neg (fun e => by cases e.2.2)]
          | true => simp only [Bool.not_true, cond_false, jl]; simp [hd]
      · simp only [decide_eq_false hd, Bool.not_false, cond_true, jl]
        rw [if_neg (fun e => hd e.1)]
    · rw [if_neg hi]
      simp only [decide_eq_false hi, Bool.not_false, cond_true]
  · simp only [he, decide_false, Bool.not_false, cond_true, ne_eq, not_false_eq_true, if_true]
def mustB (c : Cd) (i : Nat) (v : List Int) : Bool := soB c.2.1 v (c.2.2.getD i (bts [], (0, (0, ([], ([], [])))))).2.2.2.2.1
def clstep (c : Cd) (i j : Nat) (d : Int) (v : List Int) (s : Option (List Int)) : Option (List Int) ⊕ Unit :=
  if (bindsL c d v).getD i false = true ∧ (bindsL c d v).getD j false = true then (if mustB c i v = true ∧ mustB c j v = true then .inr () else .inl (s.or (some v))) else .inl s
def clA (c : Cd) (i j : Nat) (d : Int) : List Int × Bool := match goS (clstep c i j d) (casesL c c.2.1) none with
  | .inl (some v) => (v, true)
  | .inl none => ([], false)
  | .inr _ => ([], false)
theorem G128_clash {c : Cd} (h : VC c) {i j : Nat} (hi : i < c.2.2.length) (hj : j < c.2.2.length) (d : Int) : G128 LF (c, ((i : Int), ((j : Int), d))) = some (clA c i j d) := by
  have hf := VF.self h
  have hfl := h.fl
  have hll := h.ll
  have hls := starts_len c.2.1 (condsL c.2.2)
  have hri : c.2.2[i]? = some (c.2.2.getD i (bts [], (0, (0, ([], ([], [])))))) := by rw [List.getD_eq_getElem?_getD, List.getElem?_eq_getElem hi]; rfl
  have hrj : c.2.2[j]? = some (c.2.2.getD j (bts [], (0, (0, ([], ([], [])))))) := by rw [List.getD_eq_getElem?_getD, List.getElem?_eq_getElem hj]; rfl
  unfold G128
  simp only [show G131 LF () = some () by rfl, Option.bind_some, G116_conds _ _ _ (show c.2.2.length ≤ 1000 by omega), G115_starts _ _ (show c.2.1.length ≤ 1000 by omega) (show (condsL c.2.2).length ≤ 1000 by have := h.cl; omega) h.cs, mkC_zer _ (show (startsL c.2.1 (condsL c.2.2)).length ≤ 1000 by omega)]
  refine (iter_odo (ρ := List Int × Bool) (fun k (s : Option (List Int)) => (k, s.getD [])) (startsL c.2.1 (condsL c.2.2)) (starts_ne _ _) (fun v s => match clstep c i j d v s with | .inl s => .inl s | .inr _ => .inr ([], false)) (fun _ s => ∀ v, s = some v → v ≠ []) (fun s => some (match s with | some v => (v, true) | none => ([], false))) ?_ ?_ (by have := hf.cs; show _ < 9223372036854775808; omega) none (fun v e => by cases e)).trans ?_
  · intro q s n hq hv hn hs
    have hvl := hf.vlen hv
    have hvne : valsI (startsL c.2.1 (condsL c.2.2)) q ≠ [] := fun e => by
      rw [e] at hvl
      exact h.fn (List.eq_nil_of_length_eq_zero hvl.symm)
    have hbl : (bindsL c d (valsI (startsL c.2.1 (condsL c.2.2)) q)).length = c.2.2.length := bindsL_len _ _ _
    refine vals_of hq (show (startsL c.2.1 (condsL c.2.2)).length ≤ 1000 by omega) (fun a i hi => by simp only [castN_lt hi, cond_true]) ?_
    simp only [dnlt, cond_false]
    congr 1
    have hci := (h.conds (List.mem_of_getElem? hri)).2
    have hcj := (h.conds (List.mem_of_getElem? hrj)).2
    have e0 : ∀ (s' : Option (List Int)), jn (iter LF (fun y110 : (Int × (List Int)) => cond (decide (y110.1 ≥ (0 : Int))) (((getI y110.2 y110.1)).bind fun r111 => ((getI y110.2 y110.1)).bind fun r112 => ((getI (startsL c.2.1 (condsL c.2.2)) y110.1)).bind fun r113 => cond (decide (r112 = (w64 ((r113.length : Int) - (1 : Int))))) (((getI y110.2 y110.1)).bind fun r114 => ((getI y110.2 y110.1)).bind fun r115 => ((setI y110.2 y110.1 (0 : Int))).bind fun r116 => some (.inl ((w64 (y110.1 - (1 : Int))), r116))) (some (.inr (.inl (y110.1, y110.2))))) (some (.inr (.inl (y110.1, y110.2))))) ((w64 (((startsL c.2.1 (condsL c.2.2)).length : Int) - (1 : Int))), castN q)) (fun y117 : (Int × (List Int)) => cond (decide (y117.1 < (0 : Int))) (outR (some (s'.getD [], (!(decide (((s'.getD []).length : Int) = (0 : Int))))))) (((getI y117.2 y117.1)).bind fun r118 => ((getI y117.2 y117.1)).bind fun r119 => ((getI y117.2 y117.1)).bind fun r120 => ((getI y117.2 y117.1)).bind fun r121 => ((setI y117.2 y117.1 (w64 (r119 + (1 : Int))))).bind fun r122 => some (.inl (r122, s'.getD []))))
        = match nxt (startsL c.2.1 (condsL c.2.2)) q with
          | none => (outR (some (s'.getD [], (!(decide (((s'.getD []).length : Int) = (0 : Int)))))) : Option ((List Int × List Int) ⊕ (List Int × Bool)))
          | some k' => some (.inl (castN k', s'.getD [])) := fun s' => adv_of hq (show (startsL c.2.1 (condsL c.2.2)).length ≤ 1000 by omega) (starts_cl c.2.1 h) _ _
    have e1 : ∀ (s' : Option (List Int)), (∀ v, s' = some v → v ≠ []) → (match nxt (startsL c.2.1 (condsL c.2.2)) q with
          | none => (outR (some (s'.getD [], (!(decide (((s'.getD []).length : Int) = (0 : Int)))))) : Option ((List Int × List Int) ⊕ (List Int × Bool)))
          | some k' => some (.inl (castN k', s'.getD []))) = match nxt (startsL c.2.1 (condsL c.2.2)) q with
          | some k' => some (.inl (castN k', s'.getD []))
          | none => outR (some (match s' with | some v => (v, true) | none => ([], false))) := by
      intro s' hs'
      cases nxt (startsL c.2.1 (condsL c.2.2)) q with
      | some k' => rfl
      | none =>
        cases s' with
        | none => rfl
        | some v =>
          have hp := List.length_pos_iff.2 (hs' v rfl)
          have : decide ((v.length : Int) = 0) = false := decide_eq_false (by omega)
          simp only [Option.getD_some, this, Bool.not_false]
    have gi : getI (bindsL (c.1, (c.2.1, c.2.2)) d (valsI (startsL c.2.1 (condsL c.2.2)) q)) (i : Int) = some ((bindsL c d (valsI (startsL c.2.1 (condsL c.2.2)) q)).getD i false) := getI_getD (l := bindsL c d (valsI (startsL c.2.1 (condsL c.2.2)) q)) false (by omega)
    have gj : getI (bindsL (c.1, (c.2.1, c.2.2)) d (valsI (startsL c.2.1 (condsL c.2.2)) q)) (j : Int) = some ((bindsL c d (valsI (startsL c.2.1 (condsL c.2.2)) q)).getD j false) := getI_getD (l := bindsL c d (valsI (startsL c.2.1 (condsL c.2.2)) q)) false (by omega)
    simp only [G130_judge (c := (c.1, (c.2.1, c.2.2))) h hvl, Option.bind_some, gi, gj, getI_nat hri, getI_nat hrj, G147_so hci hvl h.fl', G147_so hcj hvl h.fl']
    unfold clstep mustB
    cases hbi : (bindsL c d (valsI (startsL c.2.1 (condsL c.2.2)) q)).getD i false with
    | false =>
      simp only [Bool.not_false, cond_true, jl, Bool.false_eq_true, false_and, if_false]
      exact (e0 s).trans (e1 s hs)
    | true =>
      simp only [Bool.not_true, cond_false]
      cases hbj : (bindsL c d (valsI (startsL c.2.1 (condsL c.2.2)) q)).getD j false with
      | false =>
        simp only [Bool.not_false, cond_true, jl, Bool.false_eq_true, and_false, if_false]
        exact (e0 s).trans (e1 s hs)
      | true =>
        simp only [Bool.not_true, cond_false, and_self, if_true]
        have nc : neC (valsI (startsL c.2.1 (condsL c.2.2)) q) = some () := by
          cases hq' : valsI (startsL c.2.1 (condsL c.2.2)) q with
          | nil => exact absurd hq' hvne
          | cons _ _ => rfl
        have go1 : ∀ (s' : Option (List Int)), s' = s.or (some (valsI (startsL c.2.1 (condsL c.2.2)) q)) → (∀ v, s' = some v → v ≠ []) := by
          intro s' es v ev
          subst es
          cases s with
          | none => cases ev; exact hvne
          | some u => cases ev; exact hs _ rfl
        have st : ∀ {ρ : Type} (K : List Int × List Int → Option ρ), jn (cond (decide (((s.getD []).length : Int) = (0 : Int))) (((neC (valsI (startsL c.2.1 (condsL c.2.2)) q))).bind fun r108 => some (.inl ((valsI (startsL c.2.1 (condsL c.2.2)) q), (valsI (startsL c.2.1 (condsL c.2.2)) q)))) (some (.inl ((valsI (startsL c.2.1 (condsL c.2.2)) q), s.getD [])))) K = K (valsI (startsL c.2.1 (condsL c.2.2)) q, (s.or (some (valsI (startsL c.2.1 (condsL c.2.2)) q))).getD []) := by
          intro ρ K
          cases s with
          | none => simp [nc, jl]
          | some u =>
            have hp := List.length_pos_iff.2 (hs u rfl)
            have : decide ((u.length : Int) = 0) = false := decide_eq_false (by omega)
            simp only [Option.getD_some, this, cond_false, jl, Option.or_some]
        cases hmi : soB c.2.1 (valsI (startsL c.2.1 (condsL c.2.2)) q) (c.2.2.getD i (bts [], (0, (0, ([], ([], [])))))).2.2.2.2.1 with
        | false =>
          simp only [cond_false, jl, Bool.false_eq_true, false_and, if_false]
          refine (st _).trans ?_
          exact (e0 _).trans (e1 _ (go1 _ rfl))
        | true =>
          simp only [cond_true, jl, true_and]
          cases hmj : soB c.2.1 (valsI (startsL c.2.1 (condsL c.2.2)) q) (c.2.2.getD j (bts [], (0, (0, ([], ([], [])))))).2.2.2.2.1 with
          | false =>
            simp only [cond_false, Bool.false_eq_true, if_false]
            refine (st _).trans ?_
            exact (e0 _).trans (e1 _ (go1 _ rfl))
          | true => simp [jr]
  · intro v s s' n hv hn hs he u hu
    have hvl := hf.vlen hv
    have hvne : v ≠ [] := fun e => by
      rw [e] at hvl
      exact h.fn (List.eq_nil_of_length_eq_zero hvl.symm)
    unfold clstep at he
    split at he
    · rename_i q e1
      cases he
      split at e1
      · split at e1
        · cases e1
        · cases e1
          cases s with
          | none => cases hu; exact hvne
          | some w => cases hu; exact hs _ rfl
      · cases e1
        exact hs u hu
    · cases he
  · have lift : ∀ (l : List (List Int)) (s : Option (List Int)), goS (ρ := List Int × Bool) (fun v s => match clstep c i j d v s with | .inl s => .inl s | .inr _ => .inr ([], false)) l s = match goS (clstep c i j d) l s with | .inl s => .inl s | .inr _ => .inr ([], false) := by
      intro l
      induction l with
      | nil => intro s; rfl
      | cons v l ih =>
        intro s
        simp only [goS]
        cases clstep c i j d v s with
        | inl s' => exact ih s'
        | inr e => rfl
    rw [lift]
    unfold clA casesL
    cases goS (clstep c i j d) (choL (startsL c.2.1 (condsL c.2.2))) none with
    | inl s => cases s <;> rfl
    | inr e => rfl
end Go.K
set_option linter.unusedVariables false
set_option linter.unusedSimpArgs false
set_option maxRecDepth 100000
namespace Go.K
open Go.Sl Go.Sx Go.Proofs
theorem iter_foldF {σ A α ρ : Type} {f : α → Option (α ⊕ ρ)} (mk : Int → A → α) (g : σ → Nat → A → A) (good : Nat → A → Prop) (all : List σ) (fin : A → Option ρ) (k0 : Nat) (hk0 : k0 ≤ all.length) (a : A)
    (h1 : ∀ i x a, all[i]? = some x → k0 ≤ i → good i a → f (mk (i : Nat) a) = some (.inl (mk ((i + 1 : Nat) : Int) (g x i a))))
    (hg : ∀ i x a, all[i]? = some x → k0 ≤ i → good i a → good (i + 1) (g x i a))
    (h2 : ∀ a, good all.length a → f (mk (all.length : Nat) a) = outR (fin a)) (hl : all.length < LF) (h0 : good k0 a) :
    iter LF f (mk (k0 : Nat) a) = fin (foldI g (all.drop k0) k0 a) := by
  suffices H : ∀ (k i : Nat) (a : A) (lf : Nat), k0 ≤ i → i + k = all.length → k < lf → good i a → iter lf f (mk (i : Nat) a) = fin (foldI g (all.drop i) i a) from
    H (all.length - k0) k0 a LF (Nat.le_refl _) (by omega) (by omega) h0
  intro k
  induction k with
  | zero =>
    intro i a lf hi0 hk hlf hgd
    obtain ⟨lf, rfl⟩ : ∃ n, lf = n + 1 := ⟨lf - 1, by omega⟩
    have hi : i = all.length := by omega
    subst hi
    simp only [iter, h2 a hgd, List.drop_length, foldI]
    cases fin a <;> rfl
  | succ k ih =>
    intro i a lf hi0 hk hlf hgd
    obtain ⟨lf, rfl⟩ : ∃ n, lf = n + 1 := ⟨lf - 1, by omega⟩
    have hlt : i < all.length := by omega
    have hx : all[i]? = some all[i] := List.getElem?_eq_getElem hlt
    simp only [iter, h1 i _ a hx hi0 hgd]
    rw [List.drop_eq_getElem_cons hlt]
    simp only [foldI]
    exact ih (i + 1) _ lf (by omega) (by omega) (by omega) (hg i _ a hx hi0 hgd)
theorem fold_st {σ B ρ : Type} (g : σ → Nat → Option B) (F : B → ρ) : ∀ (l : List σ) (i : Nat), foldS (fun x i (_ : Unit) => match g x i with | some e => .inr (F e) | none => .inl ()) l i () = match scan g l i with | some e => .inr (F e) | none => .inl ()
  | [], _ => rfl
  | x :: l, i => by
    simp only [foldS, scan]
    cases g x i with
    | some e => rfl
    | none => exact fold_st g F l (i + 1)
theorem iter_scan_st {σ B ρ : Type} {f : (List B × Int) → Option ((List B × Int) ⊕ ((List B × Int) ⊕ ρ))} (g : σ → Nat → Option B) (b : List B) (all : List σ) (n : Int)
    (h1 : ∀ k d, all[k]? = some d → f (b, (k : Nat)) = some (match g d k with | some e => .inr (.inl (b ++ [e], n)) | none => .inl (b, ((k + 1 : Nat) : Int))))
    (h2 : f (b, (all.length : Nat)) = some (.inr (.inl (b, n)))) (hl : all.length < LF) :
    iter LF f (b, 0) = some (.inl (b ++ (scan g all 0).toList, n)) := by
  have key := iter_go (f := f) (fun i (_ : Unit) => (b, i)) (fun x i _ => match g x i with | some e => .inr ((fun e => Sum.inl (b ++ [e], n)) e) | none => .inl ()) (fun _ _ => True) all (fun _ => some (.inl (b, n))) ()
    (fun i x a hx _ => by rw [h1 i x hx]; cases g x i <;> rfl) (fun _ _ _ _ _ _ _ => trivial) (fun _ _ => by rw [h2]; rfl) hl trivial
  rw [key, fold_st g (fun e => Sum.inl (b ++ [e], n))]
  cases scan g all 0 <;> simp
abbrev Cl := Int × (Int × (Int × List Int))
def clsS (c : Cd) (i j : Nat) (d : Int) (_ : Nat) : Option Cl := bif (clA c i j d).2 then some ((i : Int), ((j : Int), (d, (clA c i j d).1))) else none
def clsD (c : Cd) (i j : Nat) : List Cl := (scan (clsS c i j) (daysL c.2.2) 0).toList
def clsJ (c : Cd) (i : Nat) (a : List Cl) : List Cl := foldI (fun (_ : Rl) j a => a ++ clsD c i j) (c.2.2.drop (i + 1)) (i + 1) a
def clsA (c : Cd) : List Cl := foldI (fun (_ : Rl) i a => clsJ c i a) c.2.2 0 []
theorem clsD_len (c : Cd) (i j : Nat) : (clsD c i j).length ≤ 1 := by unfold clsD; cases scan (clsS c i j) (daysL c.2.2) 0 <;> simp
theorem fold_len {σ B : Type} (g : Nat → List B) (hg : ∀ j, (g j).length ≤ 1) : ∀ (l : List σ) (k : Nat) (a : List B), (foldI (fun _ j a => a ++ g j) l k a).length ≤ a.length + l.length
  | [], _, _ => by simp [foldI]
  | x :: l, k, a => by
    have h1 := fold_len g hg l (k + 1) (a ++ g k)
    have h2 := hg k
    simp only [foldI, List.length_cons]
    rw [List.length_append] at h1; omega
theorem clsJ_len (c : Cd) (i : Nat) (a : List Cl) : (clsJ c i a).length ≤ a.length + c.2.2.length := by
  have := fold_len (σ := Rl) (clsD c i) (clsD_len c i) (c.2.2.drop (i + 1)) (i + 1) a
  unfold clsJ
  rw [List.length_drop] at this; omega
theorem cls_loop {c : Cd} (h : VC c) (D : Option (List Int)) (hD : D = some (daysL c.2.2)) (CL : Int → Int → Int → Option (List Int × Bool)) (hC : ∀ (i j : Nat) (d : Int), i < c.2.2.length → j < c.2.2.length → CL i j d = some (clA c i j d)) :
    iter LF (fun y15 : (List Cl × Int) => cond (decide (y15.2 < (c.2.2.length : Int))) (iter LF (fun y16 : (List Cl × Int) => cond (decide (y16.2 < (c.2.2.length : Int))) (D.bind fun r17 => iter LF (fun y18 : (List Cl × Int) => cond (decide (y18.2 < (r17.length : Int))) (((getI r17 y18.2)).bind fun r19 => (CL y15.2 y16.2 r19).bind fun r20 => cond r20.2 (((appC y18.1 [(y15.2, (y16.2, (r19, r20.1)))])).bind fun r21 => some (.inr (.inl (r21, (w64 (y16.2 + (1 : Int))))))) (some (.inl (y18.1, (w64 (y18.2 + (1 : Int))))))) (some (.inr (.inl (y18.1, (w64 (y16.2 + (1 : Int)))))))) (y16.1, (0 : Int))) (some (.inr (.inl (y16.1, (w64 (y15.2 + (1 : Int)))))))) (y15.1, (w64 (y15.2 + (1 : Int))))) (some (.inr (y15.1, (0 : Int))))) (([] : List Cl), (0 : Int)) = some (clsA c, 0) := by
  have hll := h.ll
  have hdl := days_len c.2.2
  refine (iter_foldI (fun i a => (a, i)) (fun (_ : Rl) i a => clsJ c i a) (fun i a => a.length ≤ 12 * i) c.2.2 (fun a => some (a, 0)) [] ?_ ?_ ?_ h.ll' (by simp)).trans rfl
  · intro i r a hr ha
    have hi := lt_of_get hr
    have hi1 : w64 ((i : Int) + 1) = ((i + 1 : Nat) : Int) := succ_W (show i + 1 < 9223372036854775808 by omega)
    simp only [dlt hi, cond_true, hi1]
    refine (iter_foldF (ρ := (List Cl × Int) ⊕ (List Cl × Int)) (fun j a => (a, j)) (fun (_ : Rl) j a => a ++ clsD c i j) (fun j a => a.length ≤ 12 * i + j) c.2.2 (fun a => some (.inl (a, ((i + 1 : Nat) : Int)))) (i + 1) (by omega) a ?_ ?_ ?_ h.ll' (by omega)).trans rfl
    · intro j r2 b hr2 hj0 hb
      have hj := lt_of_get hr2
      have hj1 : w64 ((j : Int) + 1) = ((j + 1 : Nat) : Int) := succ_W (show j + 1 < 9223372036854775808 by omega)
      simp only [dlt hj, cond_true, hj1, hD, Option.bind_some]
      refine (iter_scan_st (clsS c i j) b (daysL c.2.2) ((j + 1 : Nat) : Int) ?_ ?_ (by show (daysL c.2.2).length < 9223372036854775808; omega)).trans ?_
      · intro k d hd
        have hk := lt_of_get hd
        have hk1 : w64 ((k : Int) + 1) = ((k + 1 : Nat) : Int) := succ_W (show k + 1 < 9223372036854775808 by omega)
        simp only [dlt hk, cond_true, getI_nat hd, Option.bind_some, hC i j d hi hj, hk1]
        unfold clsS
        cases (clA c i j d).2 with
        | true =>
          simp only [cond_true]
          rw [appC_of (by simp; omega)]
          rfl
        | false => rfl
      · simp only [dnlt]; rfl
      · unfold clsD
        cases scan (clsS c i j) (daysL c.2.2) 0 <;> simp
    · intro j r2 b _ _ hb
      have := clsD_len c i j
      rw [List.length_append]; omega
    · intro b _
      simp only [dnlt]; rfl
  · intro i r a _ ha
    have := clsJ_len c i a
    omega
  · intro a _
    simp only [dnlt]; rfl
theorem G41_clashes (c : Cd) : G41 LF c = some (if codeE c = 0 then (clsA c, 0) else ([], codeE c)) := by
  unfold G41
  simp only [show G31 LF (c.1, (c.2.1, c.2.2)) = some (codeE c) from G31_code c, Option.bind_some]
  by_cases he : codeE c = 0
  · have h := VC.of he
    have hll := h.ll
    simp only [he, decide_true, Bool.not_true, cond_false, if_true]
    exact cls_loop h (G127 LF (c.1, (c.2.1, c.2.2))) (G127_days (c.1, (c.2.1, c.2.2)) (show c.2.2.length ≤ 1000 by omega)) (fun i j d => G128 LF ((c.1, (c.2.1, c.2.2)), (i, (j, d)))) (fun i j d hi hj => G128_clash h hi hj d)
  · simp only [he, decide_false, Bool.not_false, cond_true, if_false]
theorem G143_clash {c : Cd} (h : VC c) {i j : Nat} (hi : i < c.2.2.length) (hj : j < c.2.2.length) (d : Int) : G143 LF (c, ((i : Int), ((j : Int), d))) = some (clA c i j d) := by
  have hf := VF.self h
  have hlen : (casesL c c.2.1).length < LF := by have := hf.cs; show (choL (startsL c.2.1 (condsL c.2.2))).length < 9223372036854775808; omega
  have hri : c.2.2[i]? = some (c.2.2.getD i (bts [], (0, (0, ([], ([], [])))))) := by rw [List.getD_eq_getElem?_getD, List.getElem?_eq_getElem hi]; rfl
  have hrj : c.2.2[j]? = some (c.2.2.getD j (bts [], (0, (0, ([], ([], [])))))) := by rw [List.getD_eq_getElem?_getD, List.getElem?_eq_getElem hj]; rfl
  have hci := (h.conds (List.mem_of_getElem? hri)).2
  have hcj := (h.conds (List.mem_of_getElem? hrj)).2
  unfold G143
  simp only [show G27 LF ((c.1, (c.2.1, c.2.2)), c.2.1) = some (casesL c c.2.1) from G27_cases h hf, Option.bind_some]
  refine (iter_goS (ρ := List Int × Bool) (fun k (s : Option (List Int)) => (s.getD [], (s.isSome, k))) (fun v s => match clstep c i j d v s with | .inl s => .inl s | .inr _ => .inr ([], false)) (casesL c c.2.1) (fun s => some (s.getD [], s.isSome)) none ?_ ?_ hlen).trans ?_
  · intro k v s hv
    have hk := lt_of_get hv
    have hvl := hf.vlen (List.mem_of_getElem? hv)
    have hbl : (bindsL c d v).length = c.2.2.length := bindsL_len _ _ _
    have gi : getI (bindsL c d v) (i : Int) = some ((bindsL c d v).getD i false) := getI_getD false (by omega)
    have gj : getI (bindsL c d v) (j : Int) = some ((bindsL c d v).getD j false) := getI_getD false (by omega)
    have hk1 : w64 ((k : Int) + 1) = ((k + 1 : Nat) : Int) := succ_W (Nat.lt_of_le_of_lt hk hlen)
    simp only [dlt hk, cond_true, getI_nat hv, Option.bind_some, show G40 LF ((c.1, (c.2.1, c.2.2)), (d, v)) = some (bindsL c d v) from G40_binds h hvl, gi, gj, getI_nat hri, getI_nat hrj, G57_so hci hvl h.fl', G57_so hcj hvl h.fl', hk1]
    unfold clstep mustB
    cases (bindsL c d v).getD i false with
    | false => rfl
    | true =>
      cases (bindsL c d v).getD j false with
      | false => rfl
      | true =>
        cases soB c.2.1 v (c.2.2.getD i (bts [], (0, (0, ([], ([], [])))))).2.2.2.2.1 with
        | false => cases s <;> rfl
        | true =>
          cases soB c.2.1 v (c.2.2.getD j (bts [], (0, (0, ([], ([], [])))))).2.2.2.2.1 with
          | false => cases s <;> rfl
          | true => rfl
  · intro s
    simp only [dnlt]; rfl
  · have lift : ∀ (l : List (List Int)) (s : Option (List Int)), goS (ρ := List Int × Bool) (fun v s => match clstep c i j d v s with | .inl s => .inl s | .inr _ => .inr ([], false)) l s = match goS (clstep c i j d) l s with | .inl s => .inl s | .inr _ => .inr ([], false) := by
      intro l
      induction l with
      | nil => intro s; rfl
      | cons v l ih =>
        intro s
        simp only [goS]
        cases clstep c i j d v s with
        | inl s' => exact ih s'
        | inr e => rfl
    rw [lift]
    unfold clA
    cases goS (clstep c i j d) (casesL c c.2.1) none with
    | inl s => cases s <;> rfl
    | inr e => rfl
theorem G58_clashes (c : Cd) : G58 LF c = some (if codeE c = 0 then (clsA c, 0) else ([], codeE c)) := by
  unfold G58
  simp only [show G32 LF (c.1, (c.2.1, c.2.2)) = some (codeE c) from G32_code c, Option.bind_some]
  by_cases he : codeE c = 0
  · have h := VC.of he
    have hll := h.ll
    simp only [he, decide_true, Bool.not_true, cond_false, if_true]
    exact cls_loop h (G142 LF (c.1, (c.2.1, c.2.2))) (G142_days (c.1, (c.2.1, c.2.2)) (show c.2.2.length ≤ 1000 by omega)) (fun i j d => G143 LF ((c.1, (c.2.1, c.2.2)), (i, (j, d)))) (fun i j d hi hj => G143_clash h hi hj d)
  · simp only [he, decide_false, Bool.not_false, cond_true, if_false]
def chkP (c : Cd) (i j d : Int) (v : List Int) : Bool := (decide (0 ≤ i) && decide (i < j) && decide (j < (c.2.2.length : Int))) && (decide (0 ≤ d ∧ d ≤ 100000) && valB c.2.1 v)
def chkR (c : Cd) (i j d : Int) (v : List Int) : Int :=
  if codeE c ≠ 0 then codeE c else if chkP c i j d v = true then (if (clA c i.toNat j.toNat d).2 = true ∧ (bindsL c d v).getD i.toNat false = true ∧ (bindsL c d v).getD j.toNat false = true then 0 else 42) else 42
theorem chk_pre {ρ : Type} (c : Cd) (i j d : Int) (v : List Int) (IN VAL : Option Bool) (h1 : IN = some (decide (0 ≤ d ∧ d ≤ 100000))) (h2 : VAL = some (valB c.2.1 v)) (K : Bool → Option ρ) :
    jn (cond (decide (i < (0 : Int))) (some (.inl true)) (cond (decide (i ≥ j)) (some (.inl true)) (cond (decide (j ≥ (c.2.2.length : Int))) (some (.inl true)) (IN.bind fun r29 => cond (!r29) (some (.inl true)) (VAL.bind fun r30 => some (.inl (!r30))))))) K = K (!chkP c i j d v) := by
  unfold chkP
  by_cases a : i < 0
  · have e : decide (0 ≤ i) = false := decide_eq_false (by omega)
    simp only [decide_eq_true a, cond_true, jl, e, Bool.false_and, Bool.not_false]
  · have e : decide (0 ≤ i) = true := decide_eq_true (by omega)
    by_cases b : i ≥ j
    · have e2 : decide (i < j) = false := decide_eq_false (by omega)
      simp only [decide_eq_false a, cond_false, decide_eq_true b, cond_true, jl, e, e2, Bool.and_false, Bool.false_and, Bool.not_false]
    · have e2 : decide (i < j) = true := decide_eq_true (by omega)
      by_cases g : j ≥ (c.2.2.length : Int)
      · have e3 : decide (j < (c.2.2.length : Int)) = false := decide_eq_false (by omega)
        simp only [decide_eq_false a, cond_false, decide_eq_false b, decide_eq_true g, cond_true, jl, e, e2, e3, Bool.and_false, Bool.false_and, Bool.not_false]
      · have e3 : decide (j < (c.2.2.length : Int)) = true := decide_eq_true (by omega)
        simp only [decide_eq_false a, cond_false, decide_eq_false b, decide_eq_false g, e, e2, e3, Bool.and_true, Bool.true_and, h1, h2, Option.bind_some]
        cases decide (0 ≤ d ∧ d ≤ 100000) with
        | false => rfl
        | true => cases valB c.2.1 v <;> rfl
theorem chk_post {ρ : Type} {c : Cd} {i j d : Int} {v : List Int} (hp : chkP c i j d v = true) (r : List Int × Bool) (K : Bool → Option ρ) :
    jn (cond (!r.2) (some (.inl true)) (((getI (bindsL c d v) i)).bind fun r35 => cond (!r35) (some (.inl true)) (((getI (bindsL c d v) j)).bind fun r36 => some (.inl (!r36))))) K = K (!decide (r.2 = true ∧ (bindsL c d v).getD i.toNat false = true ∧ (bindsL c d v).getD j.toNat false = true)) := by
  unfold chkP at hp
  simp only [Bool.and_eq_true, decide_eq_true_eq] at hp
  obtain ⟨⟨⟨h0, h1⟩, h2⟩, _⟩ := hp
  obtain ⟨a, rfl⟩ := Int.eq_ofNat_of_zero_le h0
  obtain ⟨b, rfl⟩ := Int.eq_ofNat_of_zero_le (show 0 ≤ j by omega)
  have hbl : (bindsL c d v).length = c.2.2.length := bindsL_len _ _ _
  rw [getI_getD (n := a) false (by omega), getI_getD (n := b) false (by omega)]
  simp only [Option.bind_some, Int.toNat_natCast, Bool.decide_and, Bool.decide_eq_true]
  generalize (bindsL c d v).getD a false = x
  generalize (bindsL c d v).getD b false = y
  cases r.2 <;> cases x <;> cases y <;> rfl
theorem chk_out {c : Cd} {i j d : Int} {v : List Int} (hp : chkP c i j d v = true) : (0 ≤ i ∧ i.toNat < c.2.2.length) ∧ (0 ≤ j ∧ j.toNat < c.2.2.length) ∧ valB c.2.1 v = true := by
  unfold chkP at hp
  simp only [Bool.and_eq_true, decide_eq_true_eq] at hp
  exact ⟨⟨by omega, by omega⟩, ⟨by omega, by omega⟩, hp.2.2⟩
theorem G42_chk (c : Cd) (i j d : Int) (v : List Int) : G42 LF (c, (i, (j, (d, v)))) = some (chkR c i j d v) := by
  unfold G42 chkR
  simp only [show G31 LF (c.1, (c.2.1, c.2.2)) = some (codeE c) from G31_code c, Option.bind_some]
  by_cases he : codeE c = 0
  · have h := VC.of he
    simp only [he, decide_true, Bool.not_true, cond_false, ne_eq, not_true, if_false]
    rw [chk_pre c i j d v _ _ (G91_in _ _ _) (show G129 LF ((c.1, (c.2.1, c.2.2)), v) = some (valB c.2.1 v) from G129_val c v h.fl')]
    cases hp : chkP c i j d v with
    | false => rfl
    | true =>
      obtain ⟨⟨i0, i1⟩, ⟨j0, j1⟩, hv⟩ := chk_out hp
      have hvl := (val_in.1 hv).1
      have hcl : G128 LF ((c.1, (c.2.1, c.2.2)), (i, (j, d))) = some (clA c i.toNat j.toNat d) := by
        have := G128_clash h i1 j1 d
        rwa [Int.toNat_of_nonneg i0, Int.toNat_of_nonneg j0] at this
      simp only [Bool.not_true, cond_false, show G131 LF () = some () by rfl, G130_judge (c := (c.1, (c.2.1, c.2.2))) h hvl, Option.bind_some, hcl, if_true]
      refine (chk_post (ρ := Int) hp _ _).trans ?_
      by_cases hq : (clA c i.toNat j.toNat d).2 = true ∧ (bindsL c d v).getD i.toNat false = true ∧ (bindsL c d v).getD j.toNat false = true
      · rw [if_pos hq, decide_eq_true hq]; rfl
      · rw [if_neg hq, decide_eq_false hq]; rfl
  · simp only [he, decide_false, Bool.not_false, cond_true, ne_eq, not_false_eq_true, if_true]
theorem G63_chk (c : Cd) (i j d : Int) (v : List Int) : G63 LF (c, (i, (j, (d, v)))) = some (chkR c i j d v) := by
  unfold G63 chkR
  simp only [show G32 LF (c.1, (c.2.1, c.2.2)) = some (codeE c) from G32_code c, Option.bind_some]
  by_cases he : codeE c = 0
  · have h := VC.of he
    simp only [he, decide_true, Bool.not_true, cond_false, ne_eq, not_true, if_false]
    rw [chk_pre c i j d v _ _ (G126_in _ _ _) (show G145 LF ((c.1, (c.2.1, c.2.2)), v) = some (valB c.2.1 v) from G145_val c v h.fl')]
    cases hp : chkP c i j d v with
    | false => rfl
    | true =>
      obtain ⟨⟨i0, i1⟩, ⟨j0, j1⟩, hv⟩ := chk_out hp
      have hvl := (val_in.1 hv).1
      have hcl : G143 LF ((c.1, (c.2.1, c.2.2)), (i, (j, d))) = some (clA c i.toNat j.toNat d) := by
        have := G143_clash h i1 j1 d
        rwa [Int.toNat_of_nonneg i0, Int.toNat_of_nonneg j0] at this
      simp only [Bool.not_true, cond_false, show G40 LF ((c.1, (c.2.1, c.2.2)), (d, v)) = some (bindsL c d v) from G40_binds h hvl, Option.bind_some, hcl, if_true]
      refine (chk_post (ρ := Int) hp _ _).trans ?_
      by_cases hq : (clA c i.toNat j.toNat d).2 = true ∧ (bindsL c d v).getD i.toNat false = true ∧ (bindsL c d v).getD j.toNat false = true
      · rw [if_pos hq, decide_eq_true hq]; rfl
      · rw [if_neg hq, decide_eq_false hq]; rfl
  · simp only [he, decide_false, Bool.not_false, cond_true, ne_eq, not_false_eq_true, if_true]
end Go.K
set_option linter.unusedVariables false
set_option linter.unusedSimpArgs false
set_option maxRecDepth 100000
namespace Go.K
open Go.Sl Go.Sx Go.Proofs
theorem find_mem {α : Type} {p : α → Bool} : ∀ {l : List α} {x : α}, l.find? p = some x → x ∈ l
  | y :: l, x, h => by
    rw [List.find?_cons] at h
    cases hp : p y with
    | true => rw [hp] at h; cases h; exact List.mem_cons_self ..
    | false => rw [hp] at h; exact List.mem_cons_of_mem _ (find_mem h)
theorem scan_mem {σ ρ : Type} {g : σ → Nat → Option ρ} : ∀ {l : List σ} {i : Nat} {e : ρ}, scan g l i = some e → ∃ x ∈ l, ∃ k, g x k = some e
  | x :: l, i, e, h => by
    simp only [scan] at h
    cases hg : g x i with
    | some e' => rw [hg] at h; cases h; exact ⟨x, List.mem_cons_self .., i, hg⟩
    | none =>
      rw [hg] at h
      obtain ⟨y, hy, k, hk⟩ := scan_mem h
      exact ⟨y, List.mem_cons_of_mem _ hy, k, hk⟩
theorem witA_of {c : Cd} {i : Nat} (hw : (witA c i).2 = true) : (witA c i).1.1 ∈ daysL c.2.2 ∧ (witA c i).1.2 ∈ casesL c c.2.1 ∧ alo (keptL c (witA c i).1.1 (witA c i).1.2) i = true := by
  unfold witA at hw ⊢
  cases hs : scan (witS c i) (daysL c.2.2) 0 with
  | none => rw [hs] at hw; cases hw
  | some e =>
    simp only [Option.getD_some]
    obtain ⟨d, hd, k, hk⟩ := scan_mem hs
    unfold witS at hk
    cases hf : witD c i d with
    | none => rw [hf] at hk; cases hk
    | some v =>
      rw [hf] at hk
      cases hk
      have hq : alo (keptL c d v) i = true := by simpa using List.find?_some (p := fun v => alo (keptL c d v) i) hf
      exact ⟨hd, find_mem (p := fun v => alo (keptL c d v) i) hf, hq⟩
theorem goS_mem {c : Cd} {i j : Nat} {d : Int} : ∀ {l : List (List Int)} {s : Option (List Int)} {v : List Int}, (s = none ∨ ∃ u, s = some u ∧ u ∈ casesL c c.2.1 ∧ (bindsL c d u).getD i false = true ∧ (bindsL c d u).getD j false = true) → (∀ x ∈ l, x ∈ casesL c c.2.1) → goS (clstep c i j d) l s = .inl (some v) → v ∈ casesL c c.2.1 ∧ (bindsL c d v).getD i false = true ∧ (bindsL c d v).getD j false = true
  | [], s, v, hs, _, h => by
    simp only [goS, Sum.inl.injEq] at h
    subst h
    rcases hs with e | ⟨u, e, hu⟩
    · cases e
    · cases e; exact hu
  | x :: l, s, v, hs, hm, h => by
    simp only [goS] at h
    cases hc : clstep c i j d x s with
    | inr e => rw [hc] at h; cases h
    | inl s' =>
      rw [hc] at h
      refine goS_mem ?_ (fun y hy => hm y (List.mem_cons_of_mem _ hy)) h
      unfold clstep at hc
      split at hc
      · rename_i hb
        split at hc
        · cases hc
        · cases hc
          cases s with
          | none => exact .inr ⟨x, rfl, hm x (List.mem_cons_self ..), hb⟩
          | some u => exact hs
      · cases hc; exact hs
theorem clA_of {c : Cd} {i j : Nat} {d : Int} (h : (clA c i j d).2 = true) : (clA c i j d).1 ∈ casesL c c.2.1 ∧ (bindsL c d (clA c i j d).1).getD i false = true ∧ (bindsL c d (clA c i j d).1).getD j false = true := by
  unfold clA at h ⊢
  cases hg : goS (clstep c i j d) (casesL c c.2.1) none with
  | inr e => rw [hg] at h; cases h
  | inl s =>
    cases s with
    | none => rw [hg] at h; cases h
    | some v => exact goS_mem (.inl rfl) (fun _ h => h) hg
theorem G61_same (l : List Cl) (hl : l.length < LF) (hv : ∀ x ∈ l, x.2.2.2.length < LF) : G61 LF (l, l) = some true := by
  unfold G61
  simp only [decide_true, Bool.not_true, cond_false]
  refine same_loop l ?_ ?_ hl
  · intro i x hx
    have hi := lt_of_get hx
    simp only [dlt hi, cond_true, getI_nat hx, Option.bind_some, decide_true, Bool.not_true, cond_false, G62_same _ (hv x (List.mem_of_getElem? hx)), jl, succ_W (Nat.lt_of_le_of_lt hi hl)]
  · simp only [dnlt]; rfl
theorem clsD_mem {c : Cd} {i j : Nat} {x : Cl} (h : x ∈ clsD c i j) : x.1 = i ∧ x.2.1 = j ∧ x.2.2.1 ∈ daysL c.2.2 ∧ clA c i j x.2.2.1 = (x.2.2.2, true) := by
  unfold clsD at h
  cases hs : scan (clsS c i j) (daysL c.2.2) 0 with
  | none => rw [hs] at h; cases h
  | some e =>
    rw [hs] at h
    simp only [Option.toList_some, List.mem_singleton] at h
    subst h
    obtain ⟨d, hd, k, hk⟩ := scan_mem hs
    unfold clsS at hk
    cases h2 : (clA c i j d).2 with
    | false => rw [h2] at hk; cases hk
    | true =>
      rw [h2] at hk
      simp only [cond_true, Option.some.injEq] at hk
      subst hk
      exact ⟨rfl, rfl, hd, by rw [← h2]⟩
theorem fold_mem {σ B : Type} (g : Nat → List B) : ∀ (l : List σ) (k : Nat) (a : List B) (x : B), x ∈ foldI (fun _ j a => a ++ g j) l k a ↔ x ∈ a ∨ ∃ j, k ≤ j ∧ j < k + l.length ∧ x ∈ g j
  | [], k, a, x => by
    simp only [foldI, List.length_nil, Nat.add_zero]
    exact ⟨.inl, fun h => h.elim id fun ⟨j, h1, h2, _⟩ => by omega⟩
  | y :: l, k, a, x => by
    simp only [foldI, List.length_cons]
    rw [fold_mem g l (k + 1) (a ++ g k) x, List.mem_append]
    constructor
    · rintro ((h | h) | ⟨j, h1, h2, h3⟩)
      · exact .inl h
      · exact .inr ⟨k, Nat.le_refl _, by omega, h⟩
      · exact .inr ⟨j, by omega, by omega, h3⟩
    · rintro (h | ⟨j, h1, h2, h3⟩)
      · exact .inl (.inl h)
      · by_cases e : j = k
        · subst e; exact .inl (.inr h3)
        · exact .inr ⟨j, by omega, by omega, h3⟩
theorem clsJ_mem {c : Cd} {i : Nat} {a : List Cl} {x : Cl} : x ∈ clsJ c i a ↔ x ∈ a ∨ ∃ j, i + 1 ≤ j ∧ j < c.2.2.length ∧ x ∈ clsD c i j := by
  unfold clsJ
  rw [fold_mem (clsD c i)]
  rw [List.length_drop]
  constructor
  · rintro (h | ⟨j, h1, h2, h3⟩)
    · exact .inl h
    · exact .inr ⟨j, h1, by omega, h3⟩
  · rintro (h | ⟨j, h1, h2, h3⟩)
    · exact .inl h
    · exact .inr ⟨j, h1, by omega, h3⟩
theorem clsA_mem {c : Cd} {x : Cl} : x ∈ clsA c ↔ ∃ i j : Nat, i < j ∧ j < c.2.2.length ∧ x ∈ clsD c i j := by
  have key : ∀ (l : List Rl) (k : Nat) (a : List Cl), x ∈ foldI (fun (_ : Rl) i a => clsJ c i a) l k a ↔ x ∈ a ∨ ∃ i, k ≤ i ∧ i < k + l.length ∧ ∃ j, i + 1 ≤ j ∧ j < c.2.2.length ∧ x ∈ clsD c i j := by
    intro l
    induction l with
    | nil =>
      intro k a
      simp only [foldI, List.length_nil, Nat.add_zero]
      exact ⟨.inl, fun h => h.elim id fun ⟨j, h1, h2, _⟩ => by omega⟩
    | cons y l ih =>
      intro k a
      simp only [foldI, List.length_cons]
      rw [ih, clsJ_mem]
      constructor
      · rintro ((h | h) | ⟨i, h1, h2, h3⟩)
        · exact .inl h
        · exact .inr ⟨k, Nat.le_refl _, by omega, h⟩
        · exact .inr ⟨i, by omega, by omega, h3⟩
      · rintro (h | ⟨i, h1, h2, h3⟩)
        · exact .inl (.inl h)
        · by_cases e : i = k
          · subst e; exact .inl (.inr h3)
          · exact .inr ⟨i, by omega, by omega, h3⟩
  unfold clsA
  rw [key]
  constructor
  · rintro (h | ⟨i, h1, h2, j, h3, h4, h5⟩)
    · cases h
    · exact ⟨i, j, by omega, h4, h5⟩
  · rintro ⟨i, j, h1, h2, h3⟩
    exact .inr ⟨i, by omega, by omega, j, by omega, h2, h3⟩
theorem clsA_len {c : Cd} (h : VC c) : (clsA c).length ≤ 144 := by
  have hll := h.ll
  have key : ∀ (l : List Rl) (k : Nat) (a : List Cl), (foldI (fun (_ : Rl) i a => clsJ c i a) l k a).length ≤ a.length + 12 * l.length := by
    intro l
    induction l with
    | nil => intro k a; simp [foldI]
    | cons y l ih =>
      intro k a
      have h1 := ih (k + 1) (clsJ c k a)
      have h2 := clsJ_len c k a
      simp only [foldI, List.length_cons]
      omega
  have := key c.2.2 0 []
  simp only [List.length_nil] at this
  unfold clsA
  omega
theorem clsA_vals {c : Cd} (h : VC c) {x : Cl} (hx : x ∈ clsA c) : x.2.2.2 ∈ casesL c c.2.1 := by
  obtain ⟨i, j, h1, h2, h3⟩ := clsA_mem.1 hx
  obtain ⟨e1, e2, e3, e4⟩ := clsD_mem h3
  have := (clA_of (c := c) (i := i) (j := j) (d := x.2.2.1) (by rw [e4])).1
  rwa [e4] at this
theorem witR_vlen (c : Cd) (i : Int) : (witR c i).1.2.length < LF := by
  unfold witR
  split
  · show 0 < LF; decide
  · rename_i he
    have he : codeE c = 0 := by omega
    have h := VC.of he
    split
    · split
      · rename_i hw
        obtain ⟨_, h2, _⟩ := witA_of hw
        rw [(VF.self h).vlen h2]
        exact h.fl'
      · show 0 < LF; decide
    · show 0 < LF; decide
theorem G12_true (x : Cd × (Cl × (Int × List Int))) : G12 LF x = some true := by
  obtain ⟨c, x2, x3⟩ := x
  unfold G12
  simp only [show G41 LF (c.1, (c.2.1, c.2.2)) = _ from G41_clashes c, show G58 LF (c.1, (c.2.1, c.2.2)) = _ from G58_clashes c, show G46 LF (c.1, (c.2.1, c.2.2)) = _ from G46_idle c, show G59 LF (c.1, (c.2.1, c.2.2)) = _ from G59_idle c, show ∀ i, G47 LF ((c.1, (c.2.1, c.2.2)), i) = _ from G47_wit c, show ∀ i, G60 LF ((c.1, (c.2.1, c.2.2)), i) = _ from G60_wit c, show ∀ i j d v, G42 LF ((c.1, (c.2.1, c.2.2)), (i, (j, (d, v)))) = _ from G42_chk c, show ∀ i j d v, G63 LF ((c.1, (c.2.1, c.2.2)), (i, (j, (d, v)))) = _ from G63_chk c, show ∀ i d v, G48 LF ((c.1, (c.2.1, c.2.2)), (i, (d, v))) = _ from G48_chw c, show ∀ i d v, G64 LF ((c.1, (c.2.1, c.2.2)), (i, (d, v))) = _ from G64_chw c, Option.bind_some, G62_same _ (witR_vlen c x2.1), decide_true, Bool.not_true, cond_false, cond_true]
  have hcl : G61 LF ((if codeE c = 0 then (clsA c, (0 : Int)) else ([], codeE c)).1, (if codeE c = 0 then (clsA c, (0 : Int)) else ([], codeE c)).1) = some true := by
    refine G61_same _ ?_ ?_
    · by_cases he : codeE c = 0
      · have := clsA_len (VC.of he)
        rw [if_pos he]; show (clsA c).length < 9223372036854775808; omega
      · rw [if_neg he]; show 0 < LF; decide
    · intro y hy
      by_cases he : codeE c = 0
      · rw [if_pos he] at hy
        rw [(VF.self (VC.of he)).vlen (clsA_vals (VC.of he) hy)]
        exact (VC.of he).fl'
      · rw [if_neg he] at hy; cases hy
  have hid : G62 LF ((if codeE c = 0 then (idlA c, (0 : Int)) else ([], codeE c)).1, (if codeE c = 0 then (idlA c, (0 : Int)) else ([], codeE c)).1) = some true := by
    refine G62_same _ ?_
    by_cases he : codeE c = 0
    · have h1 := idl_len c c.2.2 0 []
      have h2 := (VC.of he).ll
      simp only [List.length_nil] at h1
      rw [if_pos he]; show (idlA c).length < 9223372036854775808
      unfold idlA; omega
    · rw [if_neg he]; show 0 < LF; decide
  rw [hcl, hid]
  simp only [Option.bind_some, Bool.not_true, cond_false, jl, sane_true]
end Go.K
namespace Go.Sx
open Go.Sl Go.Shelf Go.Proofs
variable {P : Program} {ρ : Ren} {h : Zone} {L : List Atom} {w : World} {E : TypeId} {o : Option Addr} {cap : Nat} {xs : List Int}
theorem rows_int : ∀ {xs : List Int} {cs : List Value}, Rows Ty.int h cs xs ↔ cs = xs.map (Value.int .i64)
  | [], cs => by simp [Rows]
  | x :: xs, cs => by
    constructor
    · rintro ⟨c, d, rfl, hc, hd⟩
      have hc' : c = [.int .i64 x] := hc
      rw [hc', (rows_int (xs := xs)).1 hd]
      rfl
    · intro e
      subst e
      exact ⟨[.int .i64 x], xs.map (Value.int .i64), rfl, rfl, rows_int.2 rfl⟩
theorem own_ints {cur : Array Value} (hr : Rows Ty.int h (cur.toList.take (xs.length * Ty.int.size)) xs) : cur.toList.take xs.length = xs.map (Value.int .i64) := by
  have := rows_int.1 hr
  simpa [Ty.int] using this
theorem St.ownPut (hS : St h L w) {j : Nat} {g : Nat} {ys : List Int} (hj : L[j]? = some (ownS Ty.int E (some ⟨g, 0, none⟩) cap xs)) (hl : ys.length = xs.length) (n : Nat) (os : Array Obj) :
    St h (L.set j (ownS Ty.int E (some ⟨g, 0, none⟩) cap ys)) (Sort.grow (Sort.putRow (Value.int .i64) (Sort.ahead w n) g 0 ys.toArray) os) := by
  obtain ⟨x, hx, hxw, dx, hset⟩ := hS.focus hj
  rcases hx with ⟨e, _⟩ | ⟨g', cur, e, rfl, h1, h2, h3, h4⟩
  · cases e
  · have hg : g' = g := by cases e; rfl
    subst hg
    have hb : w.heap[g']? = some (.cells cur E (0, 0)) := Hp.one_le.1 hxw
    have hsz : cur.size = cap := by simpa [Ty.int] using h3
    have hlen : ys.length ≤ cur.size := by omega
    have hgr := grownBy_sortedI (w := w) (g := g') (n := n) (os := os) ys.toArray
    refine hset _ (ownS Ty.int E (some ⟨g', 0, none⟩) cap ys) (Hp.one g' (.cells (Sort.putCells (Value.int .i64) 0 ys.toArray cur) E (0, 0)))
      (.inr ⟨g', _, rfl, rfl, by omega, h2, by simp [Sort.putCells, h3], ?_⟩) (Hp.one_le.2 (heap_sortedI ys.toArray hb)) (fun b hb' hn => hgr.block b hb' fun e => ?_) (fun b o' e => .inr ?_) hgr.os hgr.tape hgr.output
    · have := take_putCellsI cur ys hlen
      have e1 : ys.length * Ty.int.size = ys.length := by simp [Ty.int]
      rw [e1, this]
      exact rows_int.2 rfl
    · cases e; simp [Hp.one] at hn
    · unfold Hp.one at e ⊢
      split at e
      · rename_i hbg; simp [hbg]
      · cases e
theorem sortOwn (Ly : Lays.n189 P ρ) (hS : St h L w) {j : Nat} (hj : L[j]? = some (ownS Ty.int E o cap xs)) (hsz : xs.length ≤ 1099511627776) :
    Calls P (ρ.f 189) #[.slice o xs.length cap] w fun e w' => ∃ v, e = .returned v ∧ v = .tuple #[] ∧ St h (L.set j (ownS Ty.int E o cap (sortL xs))) w' := by
  obtain ⟨x, hx, hxw, dx, hset⟩ := hS.focus hj
  rcases hx with ⟨rfl, rfl, rfl, rfl⟩ | ⟨g, cur, rfl, rfl, h1, h2, h3, h4⟩
  · refine (Any.slices_Sort_int_none Ly none 0 w).mono ?_
    rintro e w' ⟨rfl, rfl⟩
    refine ⟨_, rfl, rfl, ?_⟩
    have : sortL [] = [] := rfl
    rw [this]
    exact hset w' (ownS Ty.int E none 0 []) Hp.nil (.inl ⟨rfl, rfl, rfl, rfl⟩) (Hp.nil_le _) (fun _ _ _ => rfl) (fun b o e => by simp [Hp.nil] at e) rfl rfl rfl
  · have hb : w.heap[g]? = some (.cells cur E (0, 0)) := Hp.one_le.1 hxw
    have hH := holds_of_blockI hb (own_ints h4)
    refine (Any.slices_Sort_int Ly g 0 cap xs w hH (Array.getElem?_eq_some_iff.1 hb).1 (by omega)).mono ?_
    rintro e w' ⟨rfl, n, os, rfl⟩
    rw [sortL_eq]
    exact ⟨_, rfl, rfl, St.ownPut hS hj (sortL_len xs).symm n os⟩
theorem compactOwn (Ly : SlLaysN.n43 P ρ) (hS : St h L w) {j : Nat} (hj : L[j]? = some (ownS Ty.int E o cap xs)) (hsz : xs.length ≤ 1099511627776) :
    Calls P (ρ.f 43) #[.slice o xs.length cap] w fun e w' => ∃ v, e = .returned v ∧ v = .slice o (compL xs).length cap ∧ St h (L.set j (ownS Ty.int E o cap (compL xs))) w' := by
  obtain ⟨x, hx, hxw, dx, hset⟩ := hS.focus hj
  rcases hx with ⟨rfl, rfl, rfl, rfl⟩ | ⟨g, cur, rfl, rfl, h1, h2, h3, h4⟩
  · refine (AnyG.slices_Compact_int_empty Ly none 0 w).mono ?_
    rintro e w' ⟨rfl, rfl⟩
    have hc : compL [] = [] := by simp [compL, Lib.compact, Lib.compactUpTo]
    rw [hc]
    exact ⟨_, rfl, rfl, hset w' (ownS Ty.int E none 0 []) Hp.nil (.inl ⟨rfl, rfl, rfl, rfl⟩) (Hp.nil_le _) (fun _ _ _ => rfl) (fun b o e => by simp [Hp.nil] at e) rfl rfl rfl⟩
  · have hb : w.heap[g]? = some (.cells cur E (0, 0)) := Hp.one_le.1 hxw
    have hH := holds_of_blockI hb (own_ints h4)
    refine (AnyG.slices_Compact_int Ly g 0 cap xs w hH (by omega) h1).mono ?_
    rintro e w' ⟨rfl, q, rfl⟩
    have hle : (Lib.compact xs).length ≤ xs.length := by
      unfold Lib.compact Lib.compactUpTo
      rw [List.length_map]
      exact Nat.le_trans (List.length_filter_le _ _) (by simp)
    have hlen : (Lib.compact xs ++ List.replicate (xs.length - (Lib.compact xs).length) 0).length = xs.length := by
      rw [List.length_append, List.length_replicate]; omega
    have h5 := St.ownPut hS hj hlen q #[]
    rw [Sort.grow_empty] at h5
    refine ⟨_, rfl, rfl, ?_⟩
    have hlt := (List.getElem?_eq_some_iff.1 hj).1
    have h6 := h5.ownTake (j := j) (T := Ty.int) (E := E) (o := some ⟨g, 0, none⟩) (cap := cap) (xs := Lib.compact xs ++ List.replicate (xs.length - (Lib.compact xs).length) 0) (by simp [hlt]) (n := (Lib.compact xs).length) (by rw [hlen]; exact hle)
    have h7 : (Lib.compact xs ++ List.replicate (xs.length - (Lib.compact xs).length) 0).take (Lib.compact xs).length = compL xs := by simp [compL]
    rw [h7] at h6
    simpa using h6
def lenC {α : Type} (xs : List α) : Option Unit := if xs.length ≤ 1099511627776 then some () else none
theorem lenC_spec {α : Type} {xs : List α} {u : Unit} (e : lenC xs = some u) : xs.length ≤ 1099511627776 := by
  unfold lenC at e
  split at e
  · assumption
  · cases e
end Go.Sx
set_option linter.unusedVariables false
set_option linter.unusedSimpArgs false
set_option maxRecDepth 100000
namespace Go.K
open Go.Sl Go.Sx Go.Proofs Go.Shelf Go.RowKit
variable {P : Program} {ρ' : Ren} {E : Env}
theorem foldl_sum (k : Nat) : ∀ (xs : List ByteArray) (n : Nat), xs.foldl (fun n x => n + x.size + k) n = n + (xs.map fun x => x.size + k).sum
  | [], n => by simp
  | x :: xs, n => by rw [List.foldl_cons, foldl_sum k xs]; simp; omega
theorem join_data (sep : ByteArray) : ∀ (xs : List ByteArray) (r : ByteArray), (xs.foldl (fun r y => r ++ sep ++ y) r).data.toList = r.data.toList ++ (xs.map fun y => sep.data.toList ++ y.data.toList).flatten
  | [], r => by simp
  | y :: xs, r => by rw [List.foldl_cons, join_data sep xs]; simp [ByteArray.data_append]
theorem size_len' (s : ByteArray) : s.size = s.data.toList.length := by simp
theorem lens_eq : ∀ xs : List ByteArray, Lib.lens (xs.map (·.data.toList)) = (xs.map (·.size)).sum
  | [] => rfl
  | x :: xs => by
    have := lens_eq xs
    simp only [Lib.lens, List.map_cons, List.flatten_cons, List.length_append, List.sum_cons] at this ⊢
    rw [this, size_len']
theorem sum_add (k : Nat) : ∀ xs : List ByteArray, (xs.map fun x => x.size + (k + 1)).sum = (xs.map (·.size)).sum + k * xs.length + xs.length
  | [] => by simp
  | x :: xs => by
    simp only [List.map_cons, List.sum_cons, sum_add k xs, List.length_cons, Nat.mul_add]; omega
theorem joinC_lib {sep : ByteArray} {xs : List ByteArray} {y : ByteArray} (h : joinC sep xs = some y) : y = ⟨(Lib.join (xs.map (·.data.toList)) sep.data.toList).toArray⟩ ∧ (Lib.join (xs.map (·.data.toList)) sep.data.toList).length ≤ 140737488355328 ∧ xs.length ≤ 140737488355328 := by
  unfold joinC at h
  split at h
  · rename_i hc
    rw [foldl_sum, sum_add] at hc
    have hll := lens_eq xs
    cases xs with
    | nil =>
      simp only [Option.some.injEq] at h
      subst h
      exact ⟨rfl, by simp [Lib.join_nil], by simp⟩
    | cons x xs =>
      simp only [Option.some.injEq] at h
      have hj : (Lib.join ((x :: xs).map (·.data.toList)) sep.data.toList) = y.data.toList := by
        rw [← h, join_data, List.map_cons, Lib.join_cons]
        congr 1
        unfold Lib.joinTail
        rw [List.map_map]
        rfl
      have hlen := Lib.join_length x.data.toList (xs.map (·.data.toList)) sep.data.toList
      rw [List.map_cons] at hj hll
      simp only [List.length_cons, List.length_map] at hc hlen
      rw [hll] at hlen
      refine ⟨?_, ?_, ?_⟩
      · rw [List.map_cons, hj]
      · rw [List.map_cons, hlen]
        have hs : sep.data.toList.length = sep.size := (size_len' sep).symm
        rw [hs]
        have := Nat.mul_le_mul (Nat.le_refl sep.size) (show xs.length ≤ xs.length + 1 by omega)
        omega
      · simp only [List.length_cons]; omega
  · cases h
theorem join_valid (Ly : Lays.n156 P ρ') (X : Builder.Extra P ρ') : Valid E P (ρ'.f 156) [aSs, aS] [aS] fun x => joinC x.2 x.1 := by
  intro x y hx z L w vs hz hrep hs
  obtain ⟨v, r, rfl, hv, u, rfl, hu⟩ := hrep
  have h2 := rep_str hu
  subst h2
  obtain ⟨rfl, hl, hn⟩ := joinC_lib hx
  have hv' := rep1 hv
  obtain ⟨o, c, e1, hsl⟩ := hv'
  simp only [List.cons.injEq, and_true] at e1
  subst e1
  have fin : ∀ (o : Option Addr), (o = none → x.1 = []) → (∀ a, o = some a → ∀ j s, x.1[j]? = some s → z.cell? (a.add j) = some (.string s)) → x.1.length ≤ c → Calls P (ρ'.f 156) #[.slice o x.1.length c, .string x.2] w fun e w' => e = .returned (.string ⟨(Lib.join (x.1.map (·.data.toList)) x.2.data.toList).toArray⟩) ∧ Below w.heap.size w w' := by
    intro o h0 h1 hcap
    cases hx1 : x.1 with
    | nil =>
      simp only [List.length_nil]
      refine (Any.strings_Join_none Ly X o c x.2 w).mono fun e w' ⟨he, hw⟩ => ⟨he, hw ▸ Below.refl _ _⟩
    | cons s0 ss =>
      cases o with
      | none => rw [h0 rfl] at hx1; cases hx1
      | some a =>
        have hc0 := h1 a rfl 0 s0 (by rw [hx1]; rfl)
        have hspot : a.spot = none ∧ (a.add 0) = a := by
          constructor
          · unfold Zone.cell? at hc0
            split at hc0
            · split at hc0
              · cases hc0
              · rename_i hsp
                rw [add_zero' a] at hsp
                cases hs : a.spot with
                | none => rfl
                | some q => rw [hs] at hsp; simp at hsp
            · cases hc0
          · exact add_zero' a
        obtain ⟨bk, off, sp⟩ := a
        obtain ⟨hsp, _⟩ := hspot
        simp only at hsp
        subst hsp
        have hcell : ∀ (j : Nat) s, (s0 :: ss)[j]? = some s → w.cell? ⟨bk, off + j, none⟩ = some (.string s) := fun j s hj => by
          have := h1 _ rfl j s (by rw [hx1]; exact hj)
          have := hs.cell this
          have ha : (⟨bk, off, none⟩ : Addr).add j = ⟨bk, off + j, none⟩ := by unfold Addr.add; split <;> simp_all
          rwa [ha] at this
        have hbk : bk < w.heap.size := by
          have := hcell 0 s0 rfl
          unfold World.cell? at this
          cases hb : w.heap[bk]? with
          | none => rw [hb] at this; cases this
          | some ob => exact (Array.getElem?_eq_some_iff.1 hb).1
        rw [hx1] at hl hn hcap
        exact Any.strings_Join Ly X bk off c (s0 :: ss) x.2 w hcell hbk hn hcap hl
  refine (fin o (fun e => (hsl.hnil e).1) (fun a e j s hj => ?_) hsl.hcap).mono ?_
  · obtain ⟨cs, hr, hc⟩ := hsl.hat a e j s hj
    have hr' : cs = [.string s] := hr
    have := hc 0 (.string s) (by rw [hr']; rfl)
    have e1 : j * (TC.str.ty).size = j := by show j * 1 = j; omega
    rw [e1] at this
    rwa [add_zero'] at this
  · rintro en w' ⟨rfl, hb⟩
    exact ⟨_, z, rfl, Zone.le_refl _, ⟨[.string _], rfl, _, rfl, .inr ⟨rfl, rfl⟩⟩, hs.of_below hb⟩
end Go.K
set_option linter.unusedVariables false
set_option linter.unusedSimpArgs false
set_option maxRecDepth 100000
namespace Go.Proofs
open Go.Shelf Go.RowKit Go.Lib
theorem Tryz.isBlank (W : World) (r : Nat) : FnGives Tryz.prog 158 #[] #[encR r] (.bool (Nat.beq r 32)) W := by
  unfold FnGives
  have e : Nat.beq r 32 = decide ((r : Int) = 32) := by
    cases h : Nat.beq r 32 with
    | true => have := Nat.eq_of_beq_eq_true h; simp; omega
    | false => have := Nat.ne_of_beq_eq_false h; simp; omega
  rw [e]
  go_enter Tryz.func158, Tryz.ntmps158
  go_wp2
  go_ret
  exact ⟨rfl, 0, rfl⟩
theorem Tryz.extraB : Builder.Extra Tryz.prog Tryz.join_ren := {
  sizeBuilder := by kernel_rfl
  liesBuilder := by kernel_rfl
  t5 := Tryz.underlying5
  a5 := Tryz.isAgg5
  z5 := Tryz.sizeOf5
  v5 := Tryz.zeroValue5
  infoByte := by kernel_rfl
  cellsByte := by kernel_rfl
  sizeByte := by kernel_rfl
  neB5 := by decide }
end Go.Proofs
namespace Go.K
open Go.Sl Go.Sx Go.Proofs Go.Shelf Go.RowKit
theorem mixedT : Tryz.prog.follows .mixedOrders = true := by kernel_rfl
abbrev HC (E : Env) (C : FuncId → Option Con) : Prop := ∀ L, envA E ∈ L → ∀ g con, C g = some con → ConOk Tryz.prog L con g
theorem sort_row : RowOk Tryz.prog 182 .i sortL := ⟨fun xs => (sortL_len xs).symm, fun hS hj hl => sortOwn Tryz.sortI hS hj hl⟩
theorem comp_cut : CutOk Tryz.prog 183 .i compL := fun hS hj hl => compactOwn Tryz.compactI hS hj hl
theorem ct_ok (lf : Nat) : HC (envT Tryz.prog 0) (CT Tryz.prog lf) := by
  intro L hL
  unfold CT
  refine extC_ok (extC_ok (extC_ok (extC_ok (extC_ok (extC_ok (extC_ok (extC_ok (fun g con h => by cases h) ?a) ?b) ?c) ?d) ?e) ?f) ?g) ?h
  case a => exact dataCon_ok (itoa_valid Tryz.itoa) hL
  case b => exact dataCon_ok (trim_valid Tryz.trim (by kernel_rfl)) hL
  case c => exact rowCon_ok sort_row
  case d => exact cutCon_ok comp_cut
  case e => exact dataCon_ok (split_valid Tryz.split (by kernel_rfl)) hL
  case f => exact atoiCon_ok Tryz.atoi
  case g => exact fieldsCon_ok Tryz.fields (enters_of Tryz.func158 (by kernel_rfl) rfl) (fun W x => Tryz.isBlank W x) (by kernel_rfl) (by kernel_rfl)
  case h => exact dataCon_ok (join_valid Tryz.join Tryz.extraB) hL
end Go.K
set_option linter.unusedVariables false
set_option maxRecDepth 100000
namespace Go.K
open Go.Sl Go.Sx Go.Proofs
theorem kcCT : HC (envT Tryz.prog 0) (CT Tryz.prog LF) := ct_ok LF
theorem kc91 : HC (envT Tryz.prog 0) (C91 Tryz.prog LF) := fun L hL => extC_ok (kcCT L hL) (dataCon_ok (fnF_valid mixedT kcCT 91 _ _ LF) hL)
theorem kc223 : HC (envT Tryz.prog 0) (C223 Tryz.prog LF) := fun L hL => extC_ok (kc91 L hL) (dataCon_ok (fnF_valid mixedT kc91 223 _ _ LF) hL)
theorem kc180 : HC (envT Tryz.prog 0) (C180 Tryz.prog LF) := fun L hL => extC_ok (kc223 L hL) (dataCon_ok (fnF_valid mixedT kc223 180 _ _ LF) hL)
theorem kc165 : HC (envT Tryz.prog 0) (C165 Tryz.prog LF) := fun L hL => extC_ok (kc180 L hL) (dataCon_ok (fnF_valid mixedT kc180 165 _ _ LF) hL)
theorem kc94 : HC (envT Tryz.prog 0) (C94 Tryz.prog LF) := fun L hL => extC_ok (kc165 L hL) (dataCon_ok (fnF_valid mixedT kc165 94 _ _ LF) hL)
theorem kc158 : HC (envT Tryz.prog 0) (C158 Tryz.prog LF) := fun L hL => extC_ok (kc94 L hL) (dataCon_ok (fnF_valid mixedT kc94 158 _ _ LF) hL)
theorem kc86 : HC (envT Tryz.prog 0) (C86 Tryz.prog LF) := fun L hL => extC_ok (kc158 L hL) (dataCon_ok (fnF_valid mixedT kc158 86 _ _ LF) hL)
theorem kc244 : HC (envT Tryz.prog 0) (C244 Tryz.prog LF) := fun L hL => extC_ok (kc86 L hL) (dataCon_ok (fnF_valid mixedT kc86 244 _ _ LF) hL)
theorem kc215 : HC (envT Tryz.prog 0) (C215 Tryz.prog LF) := fun L hL => extC_ok (kc244 L hL) (refCon_ok (fnR_valid mixedT kc244 215 _ _ _ _ _ _ LF) hL)
theorem kc216 : HC (envT Tryz.prog 0) (C216 Tryz.prog LF) := fun L hL => extC_ok (kc215 L hL) (refCon_ok (fnR_valid mixedT kc215 216 _ _ _ _ _ _ LF) hL)
theorem kc162 : HC (envT Tryz.prog 0) (C162 Tryz.prog LF) := fun L hL => extC_ok (kc216 L hL) (refCon_ok (recR_valid mixedT kc216 (fun _ => rfl) (fun _ _ => rfl) LF) hL)
theorem kc17 : HC (envT Tryz.prog 0) (C17 Tryz.prog LF) := fun L hL => extC_ok (kc162 L hL) (dataCon_ok (fnF_valid mixedT kc162 17 _ _ LF) hL)
theorem kc110 : HC (envT Tryz.prog 0) (C110 Tryz.prog LF) := fun L hL => extC_ok (kc17 L hL) (dataCon_ok (fnF_valid mixedT kc17 110 _ _ LF) hL)
theorem kc190 : HC (envT Tryz.prog 0) (C190 Tryz.prog LF) := fun L hL => extC_ok (kc110 L hL) (dataCon_ok (fnF_valid mixedT kc110 190 _ _ LF) hL)
theorem kc188 : HC (envT Tryz.prog 0) (C188 Tryz.prog LF) := fun L hL => extC_ok (kc190 L hL) (dataCon_ok (fnF_valid mixedT kc190 188 _ _ LF) hL)
theorem kc189 : HC (envT Tryz.prog 0) (C189 Tryz.prog LF) := fun L hL => extC_ok (kc188 L hL) (dataCon_ok (fnF_valid mixedT kc188 189 _ _ LF) hL)
theorem kc191 : HC (envT Tryz.prog 0) (C191 Tryz.prog LF) := fun L hL => extC_ok (kc189 L hL) (dataCon_ok (fnF_valid mixedT kc189 191 _ _ LF) hL)
theorem kc192 : HC (envT Tryz.prog 0) (C192 Tryz.prog LF) := fun L hL => extC_ok (kc191 L hL) (dataCon_ok (fnF_valid mixedT kc191 192 _ _ LF) hL)
theorem kc193 : HC (envT Tryz.prog 0) (C193 Tryz.prog LF) := fun L hL => extC_ok (kc192 L hL) (dataCon_ok (fnF_valid mixedT kc192 193 _ _ LF) hL)
theorem kc194 : HC (envT Tryz.prog 0) (C194 Tryz.prog LF) := fun L hL => extC_ok (kc193 L hL) (dataCon_ok (fnF_valid mixedT kc193 194 _ _ LF) hL)
theorem kc195 : HC (envT Tryz.prog 0) (C195 Tryz.prog LF) := fun L hL => extC_ok (kc194 L hL) (dataCon_ok (fnF_valid mixedT kc194 195 _ _ LF) hL)
theorem kc131 : HC (envT Tryz.prog 0) (C131 Tryz.prog LF) := fun L hL => extC_ok (kc195 L hL) (dataCon_ok (fnF_valid mixedT kc195 131 _ _ LF) hL)
theorem kc147 : HC (envT Tryz.prog 0) (C147 Tryz.prog LF) := fun L hL => extC_ok (kc131 L hL) (dataCon_ok (fnF_valid mixedT kc131 147 _ _ LF) hL)
theorem kc36 : HC (envT Tryz.prog 0) (C36 Tryz.prog LF) := fun L hL => extC_ok (kc147 L hL) (dataCon_ok (fnF_valid mixedT kc147 36 _ _ LF) hL)
theorem kc130 : HC (envT Tryz.prog 0) (C130 Tryz.prog LF) := fun L hL => extC_ok (kc36 L hL) (dataCon_ok (fnF_valid mixedT kc36 130 _ _ LF) hL)
theorem kc116 : HC (envT Tryz.prog 0) (C116 Tryz.prog LF) := fun L hL => extC_ok (kc130 L hL) (dataCon_ok (fnF_valid mixedT kc130 116 _ _ LF) hL)
theorem kc181 : HC (envT Tryz.prog 0) (C181 Tryz.prog LF) := fun L hL => extC_ok (kc116 L hL) (dataCon_ok (fnF_valid mixedT kc116 181 _ _ LF) hL)
theorem kc115 : HC (envT Tryz.prog 0) (C115 Tryz.prog LF) := fun L hL => extC_ok (kc181 L hL) (dataCon_ok (fnF_valid mixedT kc181 115 _ _ LF) hL)
theorem kc106 : HC (envT Tryz.prog 0) (C106 Tryz.prog LF) := fun L hL => extC_ok (kc115 L hL) (dataCon_ok (fnF_valid mixedT kc115 106 _ _ LF) hL)
theorem kc174 : HC (envT Tryz.prog 0) (C174 Tryz.prog LF) := fun L hL => extC_ok (kc106 L hL) (dataCon_ok (fnF_valid mixedT kc106 174 _ _ LF) hL)
theorem kc125 : HC (envT Tryz.prog 0) (C125 Tryz.prog LF) := fun L hL => extC_ok (kc174 L hL) (dataCon_ok (fnF_valid mixedT kc174 125 _ _ LF) hL)
theorem kc133 : HC (envT Tryz.prog 0) (C133 Tryz.prog LF) := fun L hL => extC_ok (kc125 L hL) (dataCon_ok (fnF_valid mixedT kc125 133 _ _ LF) hL)
theorem kc104 : HC (envT Tryz.prog 0) (C104 Tryz.prog LF) := fun L hL => extC_ok (kc133 L hL) (dataCon_ok (fnF_valid mixedT kc133 104 _ _ LF) hL)
theorem kc266 : HC (envT Tryz.prog 0) (C266 Tryz.prog LF) := fun L hL => extC_ok (kc104 L hL) (dataCon_ok (fnF_valid mixedT kc104 266 _ _ LF) hL)
theorem kc199 : HC (envT Tryz.prog 0) (C199 Tryz.prog LF) := fun L hL => extC_ok (kc266 L hL) (panCon_ok (fnP_valid mixedT kc266 199 _ _ _ _ LF) hL)
theorem kc198 : HC (envT Tryz.prog 0) (C198 Tryz.prog LF) := fun L hL => extC_ok (kc199 L hL) (refCon_ok (fnR_valid mixedT kc199 198 _ _ _ _ _ _ LF) hL)
theorem kc200 : HC (envT Tryz.prog 0) (C200 Tryz.prog LF) := fun L hL => extC_ok (kc198 L hL) (refCon_ok (fnR_valid mixedT kc198 200 _ _ _ _ _ _ LF) hL)
theorem kc239 : HC (envT Tryz.prog 0) (C239 Tryz.prog LF) := fun L hL => extC_ok (kc200 L hL) (refCon_ok (fnR_valid mixedT kc200 239 _ _ _ _ _ _ LF) hL)
theorem kc201 : HC (envT Tryz.prog 0) (C201 Tryz.prog LF) := fun L hL => extC_ok (kc239 L hL) (refCon_ok (fnR_valid mixedT kc239 201 _ _ _ _ _ _ LF) hL)
theorem kc240 : HC (envT Tryz.prog 0) (C240 Tryz.prog LF) := fun L hL => extC_ok (kc201 L hL) (refCon_ok (fnR_valid mixedT kc201 240 _ _ _ _ _ _ LF) hL)
theorem kc202 : HC (envT Tryz.prog 0) (C202 Tryz.prog LF) := fun L hL => extC_ok (kc240 L hL) (refCon_ok (fnR_valid mixedT kc240 202 _ _ _ _ _ _ LF) hL)
theorem kc93 : HC (envT Tryz.prog 0) (C93 Tryz.prog LF) := fun L hL => extC_ok (kc202 L hL) (dataCon_ok (fnF_valid mixedT kc202 93 _ _ LF) hL)
theorem kc92 : HC (envT Tryz.prog 0) (C92 Tryz.prog LF) := fun L hL => extC_ok (kc93 L hL) (dataCon_ok (fnF_valid mixedT kc93 92 _ _ LF) hL)
theorem kc29 : HC (envT Tryz.prog 0) (C29 Tryz.prog LF) := fun L hL => extC_ok (kc92 L hL) (dataCon_ok (fnF_valid mixedT kc92 29 _ _ LF) hL)
theorem kc112 : HC (envT Tryz.prog 0) (C112 Tryz.prog LF) := fun L hL => extC_ok (kc29 L hL) (dataCon_ok (fnF_valid mixedT kc29 112 _ _ LF) hL)
theorem kc113 : HC (envT Tryz.prog 0) (C113 Tryz.prog LF) := fun L hL => extC_ok (kc112 L hL) (dataCon_ok (fnF_valid mixedT kc112 113 _ _ LF) hL)
theorem kc114 : HC (envT Tryz.prog 0) (C114 Tryz.prog LF) := fun L hL => extC_ok (kc113 L hL) (dataCon_ok (fnF_valid mixedT kc113 114 _ _ LF) hL)
theorem kc31 : HC (envT Tryz.prog 0) (C31 Tryz.prog LF) := fun L hL => extC_ok (kc114 L hL) (dataCon_ok (fnF_valid mixedT kc114 31 _ _ LF) hL)
theorem kc62 : HC (envT Tryz.prog 0) (C62 Tryz.prog LF) := fun L hL => extC_ok (kc31 L hL) (dataCon_ok (fnF_valid mixedT kc31 62 _ _ LF) hL)
theorem kc61 : HC (envT Tryz.prog 0) (C61 Tryz.prog LF) := fun L hL => extC_ok (kc62 L hL) (dataCon_ok (fnF_valid mixedT kc62 61 _ _ LF) hL)
theorem kc222 : HC (envT Tryz.prog 0) (C222 Tryz.prog LF) := fun L hL => extC_ok (kc61 L hL) (dataCon_ok (fnF_valid mixedT kc61 222 _ _ LF) hL)
theorem kc173 : HC (envT Tryz.prog 0) (C173 Tryz.prog LF) := fun L hL => extC_ok (kc222 L hL) (dataCon_ok (fnF_valid mixedT kc222 173 _ _ LF) hL)
theorem kc23 : HC (envT Tryz.prog 0) (C23 Tryz.prog LF) := fun L hL => extC_ok (kc173 L hL) (dataCon_ok (fnF_valid mixedT kc173 23 _ _ LF) hL)
theorem kc24 : HC (envT Tryz.prog 0) (C24 Tryz.prog LF) := fun L hL => extC_ok (kc23 L hL) (dataCon_ok (fnF_valid mixedT kc23 24 _ _ LF) hL)
theorem kc127 : HC (envT Tryz.prog 0) (C127 Tryz.prog LF) := fun L hL => extC_ok (kc24 L hL) (dataCon_ok (fnF_valid mixedT kc24 127 _ _ LF) hL)
theorem kc132 : HC (envT Tryz.prog 0) (C132 Tryz.prog LF) := fun L hL => extC_ok (kc127 L hL) (dataCon_ok (fnF_valid mixedT kc127 132 _ _ LF) hL)
theorem kc47 : HC (envT Tryz.prog 0) (C47 Tryz.prog LF) := fun L hL => extC_ok (kc132 L hL) (dataCon_ok (fnF_valid mixedT kc132 47 _ _ LF) hL)
theorem kc49 : HC (envT Tryz.prog 0) (C49 Tryz.prog LF) := fun L hL => extC_ok (kc47 L hL) (dataCon_ok (fnF_valid mixedT kc47 49 _ _ LF) hL)
theorem kc167 : HC (envT Tryz.prog 0) (C167 Tryz.prog LF) := fun L hL => extC_ok (kc49 L hL) (dataCon_ok (fnF_valid mixedT kc49 167 _ _ LF) hL)
theorem kc246 : HC (envT Tryz.prog 0) (C246 Tryz.prog LF) := fun L hL => extC_ok (kc167 L hL) (dataCon_ok (fnF_valid mixedT kc167 246 _ _ LF) hL)
theorem kc220 : HC (envT Tryz.prog 0) (C220 Tryz.prog LF) := fun L hL => extC_ok (kc246 L hL) (dataCon_ok (fnF_valid mixedT kc246 220 _ _ LF) hL)
theorem kc166 : HC (envT Tryz.prog 0) (C166 Tryz.prog LF) := fun L hL => extC_ok (kc220 L hL) (dataCon_ok (fnF_valid mixedT kc220 166 _ _ LF) hL)
theorem kc95 : HC (envT Tryz.prog 0) (C95 Tryz.prog LF) := fun L hL => extC_ok (kc166 L hL) (dataCon_ok (fnF_valid mixedT kc166 95 _ _ LF) hL)
theorem kc96 : HC (envT Tryz.prog 0) (C96 Tryz.prog LF) := fun L hL => extC_ok (kc95 L hL) (dataCon_ok (rec_valid mixedT kc95 (fun _ => rfl) (fun _ _ => rfl) LF) hL)
theorem kc19 : HC (envT Tryz.prog 0) (C19 Tryz.prog LF) := fun L hL => extC_ok (kc96 L hL) (dataCon_ok (fnF_valid mixedT kc96 19 _ _ LF) hL)
theorem kc128 : HC (envT Tryz.prog 0) (C128 Tryz.prog LF) := fun L hL => extC_ok (kc19 L hL) (dataCon_ok (fnF_valid mixedT kc19 128 _ _ LF) hL)
theorem kc41 : HC (envT Tryz.prog 0) (C41 Tryz.prog LF) := fun L hL => extC_ok (kc128 L hL) (dataCon_ok (fnF_valid mixedT kc128 41 _ _ LF) hL)
theorem kc102 : HC (envT Tryz.prog 0) (C102 Tryz.prog LF) := fun L hL => extC_ok (kc41 L hL) (dataCon_ok (fnF_valid mixedT kc41 102 _ _ LF) hL)
theorem kc22 : HC (envT Tryz.prog 0) (C22 Tryz.prog LF) := fun L hL => extC_ok (kc102 L hL) (dataCon_ok (fnF_valid mixedT kc102 22 _ _ LF) hL)
theorem kc126 : HC (envT Tryz.prog 0) (C126 Tryz.prog LF) := fun L hL => extC_ok (kc22 L hL) (dataCon_ok (fnF_valid mixedT kc22 126 _ _ LF) hL)
theorem kc168 : HC (envT Tryz.prog 0) (C168 Tryz.prog LF) := fun L hL => extC_ok (kc126 L hL) (dataCon_ok (fnF_valid mixedT kc126 168 _ _ LF) hL)
theorem kc84 : HC (envT Tryz.prog 0) (C84 Tryz.prog LF) := fun L hL => extC_ok (kc168 L hL) (dataCon_ok (fnF_valid mixedT kc168 84 _ _ LF) hL)
theorem kc99 : HC (envT Tryz.prog 0) (C99 Tryz.prog LF) := fun L hL => extC_ok (kc84 L hL) (dataCon_ok (fnF_valid mixedT kc84 99 _ _ LF) hL)
theorem kc117 : HC (envT Tryz.prog 0) (C117 Tryz.prog LF) := fun L hL => extC_ok (kc99 L hL) (dataCon_ok (fnF_valid mixedT kc99 117 _ _ LF) hL)
theorem kc98 : HC (envT Tryz.prog 0) (C98 Tryz.prog LF) := fun L hL => extC_ok (kc117 L hL) (dataCon_ok (fnF_valid mixedT kc117 98 _ _ LF) hL)
theorem kc97 : HC (envT Tryz.prog 0) (C97 Tryz.prog LF) := fun L hL => extC_ok (kc98 L hL) (dataCon_ok (fnF_valid mixedT kc98 97 _ _ LF) hL)
theorem kc111 : HC (envT Tryz.prog 0) (C111 Tryz.prog LF) := fun L hL => extC_ok (kc97 L hL) (dataCon_ok (fnF_valid mixedT kc97 111 _ _ LF) hL)
theorem kc30 : HC (envT Tryz.prog 0) (C30 Tryz.prog LF) := fun L hL => extC_ok (kc111 L hL) (dataCon_ok (fnF_valid mixedT kc111 30 _ _ LF) hL)
theorem kc37 : HC (envT Tryz.prog 0) (C37 Tryz.prog LF) := fun L hL => extC_ok (kc30 L hL) (dataCon_ok (fnF_valid mixedT kc30 37 _ _ LF) hL)
theorem kc118 : HC (envT Tryz.prog 0) (C118 Tryz.prog LF) := fun L hL => extC_ok (kc37 L hL) (dataCon_ok (fnF_valid mixedT kc37 118 _ _ LF) hL)
theorem kc109 : HC (envT Tryz.prog 0) (C109 Tryz.prog LF) := fun L hL => extC_ok (kc118 L hL) (dataCon_ok (fnF_valid mixedT kc118 109 _ _ LF) hL)
theorem kc176 : HC (envT Tryz.prog 0) (C176 Tryz.prog LF) := fun L hL => extC_ok (kc109 L hL) (dataCon_ok (fnF_valid mixedT kc109 176 _ _ LF) hL)
theorem kc177 : HC (envT Tryz.prog 0) (C177 Tryz.prog LF) := fun L hL => extC_ok (kc176 L hL) (dataCon_ok (fnF_valid mixedT kc176 177 _ _ LF) hL)
theorem kc108 : HC (envT Tryz.prog 0) (C108 Tryz.prog LF) := fun L hL => extC_ok (kc177 L hL) (dataCon_ok (fnF_valid mixedT kc177 108 _ _ LF) hL)
theorem kc120 : HC (envT Tryz.prog 0) (C120 Tryz.prog LF) := fun L hL => extC_ok (kc108 L hL) (dataCon_ok (fnF_valid mixedT kc108 120 _ _ LF) hL)
theorem kc119 : HC (envT Tryz.prog 0) (C119 Tryz.prog LF) := fun L hL => extC_ok (kc120 L hL) (dataCon_ok (fnF_valid mixedT kc120 119 _ _ LF) hL)
theorem kc32 : HC (envT Tryz.prog 0) (C32 Tryz.prog LF) := fun L hL => extC_ok (kc119 L hL) (dataCon_ok (fnF_valid mixedT kc119 32 _ _ LF) hL)
theorem kc33 : HC (envT Tryz.prog 0) (C33 Tryz.prog LF) := fun L hL => extC_ok (kc32 L hL) (dataCon_ok (fnF_valid mixedT kc32 33 _ _ LF) hL)
theorem kc107 : HC (envT Tryz.prog 0) (C107 Tryz.prog LF) := fun L hL => extC_ok (kc33 L hL) (dataCon_ok (fnF_valid mixedT kc33 107 _ _ LF) hL)
theorem kc56 : HC (envT Tryz.prog 0) (C56 Tryz.prog LF) := fun L hL => extC_ok (kc107 L hL) (dataCon_ok (fnF_valid mixedT kc107 56 _ _ LF) hL)
theorem kc57 : HC (envT Tryz.prog 0) (C57 Tryz.prog LF) := fun L hL => extC_ok (kc56 L hL) (dataCon_ok (fnF_valid mixedT kc56 57 _ _ LF) hL)
theorem kc40 : HC (envT Tryz.prog 0) (C40 Tryz.prog LF) := fun L hL => extC_ok (kc57 L hL) (dataCon_ok (fnF_valid mixedT kc57 40 _ _ LF) hL)
theorem kc28 : HC (envT Tryz.prog 0) (C28 Tryz.prog LF) := fun L hL => extC_ok (kc40 L hL) (dataCon_ok (fnF_valid mixedT kc40 28 _ _ LF) hL)
theorem kc148 : HC (envT Tryz.prog 0) (C148 Tryz.prog LF) := fun L hL => extC_ok (kc28 L hL) (dataCon_ok (fnF_valid mixedT kc28 148 _ _ LF) hL)
theorem kc149 : HC (envT Tryz.prog 0) (C149 Tryz.prog LF) := fun L hL => extC_ok (kc148 L hL) (dataCon_ok (fnF_valid mixedT kc148 149 _ _ LF) hL)
theorem kc27 : HC (envT Tryz.prog 0) (C27 Tryz.prog LF) := fun L hL => extC_ok (kc149 L hL) (dataCon_ok (fnF_valid mixedT kc149 27 _ _ LF) hL)
theorem kc150 : HC (envT Tryz.prog 0) (C150 Tryz.prog LF) := fun L hL => extC_ok (kc27 L hL) (dataCon_ok (fnF_valid mixedT kc27 150 _ _ LF) hL)
theorem kc142 : HC (envT Tryz.prog 0) (C142 Tryz.prog LF) := fun L hL => extC_ok (kc150 L hL) (dataCon_ok (fnF_valid mixedT kc150 142 _ _ LF) hL)
theorem kc145 : HC (envT Tryz.prog 0) (C145 Tryz.prog LF) := fun L hL => extC_ok (kc142 L hL) (dataCon_ok (fnF_valid mixedT kc142 145 _ _ LF) hL)
theorem kc83 : HC (envT Tryz.prog 0) (C83 Tryz.prog LF) := fun L hL => extC_ok (kc145 L hL) (dataCon_ok (fnF_valid mixedT kc145 83 _ _ LF) hL)
theorem kc129 : HC (envT Tryz.prog 0) (C129 Tryz.prog LF) := fun L hL => extC_ok (kc83 L hL) (dataCon_ok (fnF_valid mixedT kc83 129 _ _ LF) hL)
theorem kc156 : HC (envT Tryz.prog 0) (C156 Tryz.prog LF) := fun L hL => extC_ok (kc129 L hL) (dataCon_ok (fnF_valid mixedT kc129 156 _ _ LF) hL)
theorem kc43 : HC (envT Tryz.prog 0) (C43 Tryz.prog LF) := fun L hL => extC_ok (kc156 L hL) (dataCon_ok (fnF_valid mixedT kc156 43 _ _ LF) hL)
theorem kc39 : HC (envT Tryz.prog 0) (C39 Tryz.prog LF) := fun L hL => extC_ok (kc43 L hL) (dataCon_ok (fnF_valid mixedT kc43 39 _ _ LF) hL)
theorem kc25 : HC (envT Tryz.prog 0) (C25 Tryz.prog LF) := fun L hL => extC_ok (kc39 L hL) (dataCon_ok (fnF_valid mixedT kc39 25 _ _ LF) hL)
theorem kc45 : HC (envT Tryz.prog 0) (C45 Tryz.prog LF) := fun L hL => extC_ok (kc25 L hL) (dataCon_ok (fnF_valid mixedT kc25 45 _ _ LF) hL)
theorem kc21 : HC (envT Tryz.prog 0) (C21 Tryz.prog LF) := fun L hL => extC_ok (kc45 L hL) (dataCon_ok (fnF_valid mixedT kc45 21 _ _ LF) hL)
theorem kc82 : HC (envT Tryz.prog 0) (C82 Tryz.prog LF) := fun L hL => extC_ok (kc21 L hL) (dataCon_ok (fnF_valid mixedT kc21 82 _ _ LF) hL)
theorem kcD26 : HC (envT Tryz.prog 0) (D26 Tryz.prog LF) := fun L hL => extC_ok (kc82 L hL) (dataCon_ok (fnF_valid mixedT kc57 26 _ _ LF) hL)
theorem kc151 : HC (envT Tryz.prog 0) (C151 Tryz.prog LF) := fun L hL => extC_ok (kcD26 L hL) (dataCon_ok (fnF_valid mixedT kcD26 151 _ _ LF) hL)
theorem kc70 : HC (envT Tryz.prog 0) (C70 Tryz.prog LF) := fun L hL => extC_ok (kc151 L hL) (dataCon_ok (fnF_valid mixedT kc151 70 _ _ LF) hL)
theorem kc77 : HC (envT Tryz.prog 0) (C77 Tryz.prog LF) := fun L hL => extC_ok (kc70 L hL) (dataCon_ok (fnF_valid mixedT kc70 77 _ _ LF) hL)
theorem kc79 : HC (envT Tryz.prog 0) (C79 Tryz.prog LF) := fun L hL => extC_ok (kc77 L hL) (dataCon_ok (fnF_valid mixedT kc77 79 _ _ LF) hL)
theorem kc81 : HC (envT Tryz.prog 0) (C81 Tryz.prog LF) := fun L hL => extC_ok (kc79 L hL) (dataCon_ok (fnF_valid mixedT kc79 81 _ _ LF) hL)
theorem kc66 : HC (envT Tryz.prog 0) (C66 Tryz.prog LF) := fun L hL => extC_ok (kc81 L hL) (dataCon_ok (fnF_valid mixedT kc81 66 _ _ LF) hL)
theorem kc143 : HC (envT Tryz.prog 0) (C143 Tryz.prog LF) := fun L hL => extC_ok (kc66 L hL) (dataCon_ok (fnF_valid mixedT kc66 143 _ _ LF) hL)
theorem kc58 : HC (envT Tryz.prog 0) (C58 Tryz.prog LF) := fun L hL => extC_ok (kc143 L hL) (dataCon_ok (fnF_valid mixedT kc143 58 _ _ LF) hL)
theorem kc63 : HC (envT Tryz.prog 0) (C63 Tryz.prog LF) := fun L hL => extC_ok (kc58 L hL) (dataCon_ok (fnF_valid mixedT kc58 63 _ _ LF) hL)
theorem kc144 : HC (envT Tryz.prog 0) (C144 Tryz.prog LF) := fun L hL => extC_ok (kc63 L hL) (dataCon_ok (fnF_valid mixedT kc63 144 _ _ LF) hL)
theorem kc60 : HC (envT Tryz.prog 0) (C60 Tryz.prog LF) := fun L hL => extC_ok (kc144 L hL) (dataCon_ok (fnF_valid mixedT kc144 60 _ _ LF) hL)
theorem kc59 : HC (envT Tryz.prog 0) (C59 Tryz.prog LF) := fun L hL => extC_ok (kc60 L hL) (dataCon_ok (fnF_valid mixedT kc60 59 _ _ LF) hL)
theorem kc64 : HC (envT Tryz.prog 0) (C64 Tryz.prog LF) := fun L hL => extC_ok (kc59 L hL) (dataCon_ok (fnF_valid mixedT kc59 64 _ _ LF) hL)
theorem kc74 : HC (envT Tryz.prog 0) (C74 Tryz.prog LF) := fun L hL => extC_ok (kc64 L hL) (dataCon_ok (fnF_valid mixedT kc64 74 _ _ LF) hL)
theorem kc75 : HC (envT Tryz.prog 0) (C75 Tryz.prog LF) := fun L hL => extC_ok (kc74 L hL) (dataCon_ok (fnF_valid mixedT kc74 75 _ _ LF) hL)
theorem kc76 : HC (envT Tryz.prog 0) (C76 Tryz.prog LF) := fun L hL => extC_ok (kc75 L hL) (dataCon_ok (fnF_valid mixedT kc75 76 _ _ LF) hL)
theorem kc65 : HC (envT Tryz.prog 0) (C65 Tryz.prog LF) := fun L hL => extC_ok (kc76 L hL) (dataCon_ok (fnF_valid mixedT kc76 65 _ _ LF) hL)
theorem kc67 : HC (envT Tryz.prog 0) (C67 Tryz.prog LF) := fun L hL => extC_ok (kc65 L hL) (dataCon_ok (fnF_valid mixedT kc65 67 _ _ LF) hL)
theorem kc78 : HC (envT Tryz.prog 0) (C78 Tryz.prog LF) := fun L hL => extC_ok (kc67 L hL) (dataCon_ok (fnF_valid mixedT kc67 78 _ _ LF) hL)
theorem kc80 : HC (envT Tryz.prog 0) (C80 Tryz.prog LF) := fun L hL => extC_ok (kc78 L hL) (dataCon_ok (fnF_valid mixedT kc78 80 _ _ LF) hL)
theorem kc42 : HC (envT Tryz.prog 0) (C42 Tryz.prog LF) := fun L hL => extC_ok (kc80 L hL) (dataCon_ok (fnF_valid mixedT kc80 42 _ _ LF) hL)
theorem kc46 : HC (envT Tryz.prog 0) (C46 Tryz.prog LF) := fun L hL => extC_ok (kc42 L hL) (dataCon_ok (fnF_valid mixedT kc42 46 _ _ LF) hL)
theorem kc48 : HC (envT Tryz.prog 0) (C48 Tryz.prog LF) := fun L hL => extC_ok (kc46 L hL) (dataCon_ok (fnF_valid mixedT kc46 48 _ _ LF) hL)
theorem kc44 : HC (envT Tryz.prog 0) (C44 Tryz.prog LF) := fun L hL => extC_ok (kc48 L hL) (dataCon_ok (fnF_valid mixedT kc48 44 _ _ LF) hL)
theorem kc55 : HC (envT Tryz.prog 0) (C55 Tryz.prog LF) := fun L hL => extC_ok (kc44 L hL) (dataCon_ok (fnF_valid mixedT kc44 55 _ _ LF) hL)
theorem kc73 : HC (envT Tryz.prog 0) (C73 Tryz.prog LF) := fun L hL => extC_ok (kc55 L hL) (dataCon_ok (fnF_valid mixedT kc55 73 _ _ LF) hL)
theorem kc4 : HC (envT Tryz.prog 0) (C4 Tryz.prog LF) := fun L hL => extC_ok (kc73 L hL) (dataCon_ok (fnF_valid mixedT kc73 4 _ _ LF) hL)
theorem kc9 : HC (envT Tryz.prog 0) (C9 Tryz.prog LF) := fun L hL => extC_ok (kc4 L hL) (dataCon_ok (fnF_valid mixedT kc4 9 _ _ LF) hL)
theorem kc15 : HC (envT Tryz.prog 0) (C15 Tryz.prog LF) := fun L hL => extC_ok (kc9 L hL) (dataCon_ok (fnF_valid mixedT kc9 15 _ _ LF) hL)
end Go.K
set_option linter.unusedVariables false
namespace Go.Sx
open Go.Sl Go.RowKit Go.ChangeShapes
def Opens {α : Type} (P : Program) (t : TypeId) (T : Ty α) (ok : α → Prop) : Prop :=
  ∀ (H : Type) (enc : TypeId × Value → H) (W : World) (fuel : Nat) (cs : List Value) (d : DataW H × List MemPlace),
    DataW.trod enc P W 0 (fun _ => true) true fuel t cs = some d → ∃ x, T.rep (Zone.all W) cs x ∧ ok x
theorem mapM_mem {α β : Type} {f : α → Option β} : ∀ {l : List α} {ys : List β}, l.mapM f = some ys → ∀ a ∈ l, ∃ y, f a = some y
  | [], _, _, a, ha => by cases ha
  | x :: l, ys, h, a, ha => by
    rw [List.mapM_cons] at h
    cases hx : f x with
    | none => rw [hx] at h; simp at h
    | some y =>
      rw [hx] at h
      simp only [Option.pure_def, Option.bind_eq_bind, Option.bind_some] at h
      cases hl : l.mapM f with
      | none => rw [hl] at h; simp at h
      | some zs =>
        rcases List.mem_cons.1 ha with e | e
        · subst e; exact ⟨y, hx⟩
        · exact mapM_mem hl a e
section
variable {H : Type} {enc : TypeId × Value → H} {P : Program} {W : World} {fuel : Nat} {t : TypeId} {cs : List Value} {d : DataW H × List MemPlace}
theorem trod_fields {fs : Array Field} (ht : P.underlying t = some (.struct fs)) (h : DataW.trod enc P W 0 (fun _ => true) true fuel t cs = some d) :
    cs.length = P.cellsOf t ∧ ∃ n, ∀ f ∈ fs.toList, ∃ y, DataW.trod enc P W 0 (fun _ => true) true n f.type ((cs.drop f.offset).take (P.cellsOf f.type)) = some y := by
  cases fuel with
  | zero => simp [DataW.trod] at h
  | succ n =>
    simp only [DataW.trod, ht] at h
    by_cases hl : cs.length = P.cellsOf t
    · rw [if_pos hl] at h
      refine ⟨hl, n, fun f hf => ?_⟩
      cases hm : fs.toList.mapM fun f => DataW.trod enc P W 0 (fun _ => true) true n f.type ((cs.drop f.offset).take (P.cellsOf f.type)) with
      | none => rw [hm] at h; simp at h
      | some ys => exact mapM_mem hm f hf
    · rw [if_neg hl] at h; cases h
theorem trod_items {m : Nat} {e : TypeId} (ht : P.underlying t = some (.array m e)) (h : DataW.trod enc P W 0 (fun _ => true) true fuel t cs = some d) :
    cs.length = P.cellsOf t ∧ ∃ n, ∀ i, i < m → ∃ y, DataW.trod enc P W 0 (fun _ => true) true n e ((cs.drop (i * P.cellsOf e)).take (P.cellsOf e)) = some y := by
  cases fuel with
  | zero => simp [DataW.trod] at h
  | succ n =>
    simp only [DataW.trod, ht] at h
    by_cases hl : cs.length = P.cellsOf t
    · rw [if_pos hl] at h
      refine ⟨hl, n, fun i hi => ?_⟩
      cases hm : (List.range m).mapM fun i => DataW.trod enc P W 0 (fun _ => true) true n e ((cs.drop (i * P.cellsOf e)).take (P.cellsOf e)) with
      | none => rw [hm] at h; simp at h
      | some ys => exact mapM_mem hm i (List.mem_range.2 hi)
    · rw [if_neg hl] at h; cases h
end
theorem opens_slice {α : Type} {P : Program} {t e : TypeId} {T : Ty α} {ok : α → Prop} (ht : P.underlying t = some (.slice e)) (he : P.cellsOf e = T.size) (h : Opens P e T ok) : Opens P t (Ty.slice T) (fun xs => (∀ x ∈ xs, ok x) ∧ xs.length ≤ maxLen) := fun H enc W fuel cs d hd => by
  rcases Go.Deep.open_slice ht hd with ⟨rfl, _⟩ | ⟨a, len, cap, m, n, D, Pl, rfl, _, hl, hm, hmm, _, hx⟩
  · exact ⟨[], ⟨none, 0, rfl, SliceR.nil' T _⟩, ⟨(fun _ h => by cases h), by simp⟩⟩
  · simp only [if_true] at hmm
    have hall : ∀ i, i < len → ∃ x, (∃ c, T.rep (Zone.all W) c x ∧ ∀ j v, c[j]? = some v → (Zone.all W).cell? ((a.add (i * T.size)).add j) = some v) ∧ ok x := fun i hi => by
      obtain ⟨cs', h1, h2⟩ := hx i (by omega)
      obtain ⟨x, hr, ho⟩ := h H enc W n cs' _ h2
      refine ⟨x, ⟨cs', hr, fun j v hj => ?_⟩, ho⟩
      rw [he] at h1
      obtain ⟨_, hlen, hc⟩ := World.cells?_some h1
      have hlt : j < cs'.length := (List.getElem?_eq_some_iff.1 hj).1
      exact (hc j (by omega)).trans hj
    have key : ∀ k, k ≤ len → ∃ xs : List α, xs.length = k ∧ (∀ x ∈ xs, ok x) ∧ ∀ i x, xs[i]? = some x → ∃ c, T.rep (Zone.all W) c x ∧ ∀ j v, c[j]? = some v → (Zone.all W).cell? ((a.add (i * T.size)).add j) = some v := by
      intro k
      induction k with
      | zero => exact fun _ => ⟨[], rfl, (fun _ h => by cases h), (fun i x h => by simp at h)⟩
      | succ k ih =>
        intro hk
        obtain ⟨xs, h1, h2, h3⟩ := ih (by omega)
        obtain ⟨x, hx1, hx2⟩ := hall k (by omega)
        refine ⟨xs ++ [x], by simp [h1], fun y hy => ?_, fun i y hy => ?_⟩
        · rcases List.mem_append.1 hy with e | e
          · exact h2 y e
          · simp only [List.mem_singleton] at e; exact e ▸ hx2
        · rw [List.getElem?_append] at hy
          split at hy
          · exact h3 i y hy
          · rename_i hge
            have : i - xs.length = 0 := by
              have := (List.getElem?_eq_some_iff.1 hy).1
              simp at this; omega
            rw [this] at hy
            simp only [List.getElem?_cons_zero, Option.some.injEq] at hy
            subst hy
            have : i = k := by omega
            subst this
            exact hx1
    obtain ⟨xs, h1, h2, h3⟩ := key len (Nat.le_refl _)
    refine ⟨xs, ⟨some a, cap, by rw [h1], ⟨by omega, hm, (fun e => by cases e), fun b e i x hi => ?_⟩⟩, ⟨h2, by omega⟩⟩
    cases e
    exact h3 i x hi
section
variable {H : Type} {enc : TypeId × Value → H} {P : Program} {W : World} {base : Nat} {t : TypeId} {v : Value} {d : DataW H} {ps : List MemPlace}
theorem arg_agg {α : Type} {T : Ty α} {ok : α → Prop} (hs : (match P.underlying t with | some (.struct _) => true | some (.array _ _) => true | _ => false) = true) (hv : Value.okWide P W .any base t v) (h : DataW.Trod enc P W 0 (fun _ => true) true t v d ps) (ho : Opens P t T ok) :
    ∃ cs x, v = .agg cs.toArray ∧ T.rep (Zone.all W) cs x ∧ ok x := by
  obtain ⟨fuel, hf⟩ := h
  obtain ⟨x, hx, hok⟩ := ho H enc W fuel _ _ hf
  have : ∃ cs, v = .agg cs := by
    unfold Value.okWide at hv
    split at hs
    · rename_i fs ht; rw [ht] at hv; obtain ⟨cs, e, _⟩ := hv; exact ⟨cs, e⟩
    · rename_i m e ht; rw [ht] at hv; obtain ⟨cs, e, _⟩ := hv; exact ⟨cs, e⟩
    · cases hs
  obtain ⟨cs, rfl⟩ := this
  exact ⟨cs.toList, x, rfl, hx, hok⟩
theorem trodAll_stays (hl : laidOutB P = true) {W' : World} (hb : Below W.heap.size W W') : ∀ {ts : List TypeId} {vs : List Value} {ds : List (DataW H)} {ps : List MemPlace}, (ts.all fun t => P.readableRec t && Nat.blt t P.types.size) = true →
    DataW.TrodAll enc P W 0 (fun _ => true) true ts vs ds ps → (∀ p ∈ ps, p.block < W.heap.size) → DataW.TrodAll enc P W' 0 (fun b => decide (b < W.heap.size)) true ts vs ds ps
  | [], [], [], _, _, h, _ => h
  | t :: ts, v :: vs, d :: ds, _, hr, ⟨p, q, h1, h2, e⟩, hlt => by
    simp only [List.all_cons, Bool.and_eq_true, Nat.blt_eq] at hr
    subst e
    exact ⟨p, q, Below.trod hl hr.1.1 hr.1.2 h1 hb (fun x hx => hlt x (List.mem_append_left _ hx)), trodAll_stays hl hb hr.2 h2 (fun x hx => hlt x (List.mem_append_right _ hx)), rfl⟩
  | [], _ :: _, _, _, _, h, _ => h.elim
  | [], [], _ :: _, _, _, h, _ => h.elim
  | _ :: _, [], _, _, _, h, _ => h.elim
  | _ :: _, _ :: _, [], _, _, h, _ => h.elim
theorem post_true {f : Func} {s : ChangeSpec} {args : Array Value} {ds : List (DataW H)} {before : List MemPlace} {apart : Bool} {W' : World} {tb : TypeId} (hl : laidOutB P = true) (hvars : s.vars = []) (hr : (f.params.toList.all fun t => P.readableRec t && Nat.blt t P.types.size) = true)
    (hres : f.resultTypes = #[tb]) (hu : P.underlying tb = some .bool) (hW : DataW.Whole enc P f.params.toList s.vars apart W args.toList ds [] before) (hb : Below W.heap.size W W') (hs : s.fn H (ds ++ []) = { results := [.lit (.bool true)], args := ds }) :
    s.post enc P f apart true false false W args (.bool true) W' := by
  have hlt := hW.lt
  have hW0 := hW
  obtain ⟨p, q, hA, hV, rfl, _, _⟩ := hW
  rw [hvars] at hV
  obtain ⟨_, rfl⟩ := trodVars_none hV
  refine ⟨ds, [], p ++ [], [], p, [], hW0, ?_, ?_, ?_, hb.frame _, fun h => by cases h⟩
  · rw [hs, hres]; exact trodAll_mk1 (shut_bool hu true)
  · rw [hs]; exact trodAll_stays hl hb hr hA (fun x hx => hlt x (by simpa using hx))
  · rw [hs, hvars]; rfl
end
end Go.Sx
namespace Go.Sx
structure A2 where
  a0 : Int
  a1 : Int
  deriving DecidableEq
structure A3 where
  a0 : Int
  a1 : Int
  a2 : Int
  deriving DecidableEq
end Go.Sx
set_option linter.unusedVariables false
namespace Go.Sx
open Go.Sl Go.RowKit Go.ChangeShapes Go.Proofs
variable {H : Type} {enc : TypeId × Value → H}
theorem returns_and_shaped {a : Assume} {C : Checked} {os : Os} {f : FuncId} {fn : Func} {s : ChangeSpec} {conds : List PathCond} {apart fresh handsOn again : Bool} {X : World → Array Value → Prop}
    (hX : ∀ (w w' : World) (args : Array Value), w.heap = w'.heap → X w args → X w' args)
    (own : ownKnob C.prog.godebug = none) (started : os.Started) (noInit : C.prog.inits.idxOf? f = none) (hfn : C.prog.funcs[f]? = some fn)
    (witness : ∃ (w : World) (tape : Tape) (i : Input), w.os = os ∧ (w.forCall tape i).Shaped C.prog ∧ i.vars = [] ∧ Input.okWide C.prog (w.forCall tape i) .any w.heap.size f i ∧
      ((s.pre enc C.prog fn conds apart (w.forCall tape i).memory i.args ∧ X (w.forCall tape i).memory i.args) ∧ sizedMet enc C.prog fn (OpenSpec.ofChange s) apart (w.forCall tape i).memory i.args) ∧ a.holds C.prog (lone (Frame.enter C.prog f i.args .normal) [] (w.forCall tape i)))
    (contract : ∀ (W : World) (base : Nat) (args : Array Value) (ds gs : List (DataW H)) (before : List MemPlace),
      (∀ (j : Nat) t v, fn.params[j]? = some t → args[j]? = some v → Value.okWide C.prog W .any base t v) →
      DataW.Whole enc C.prog fn.params.toList s.vars apart W args.toList ds gs before → X W args → W.ShapedOpen C.prog →
      Calls C.prog f args W fun e W' => ∃ v, e = .returned v ∧ s.post enc C.prog fn apart fresh handsOn again W args v W') :
    ReturnsInHanded a C os f .any (fun w args => (s.pre enc C.prog fn conds apart w args ∧ X w args) ∧ sizedMet enc C.prog fn (OpenSpec.ofChange s) apart w args) (s.post enc C.prog fn apart fresh handsOn again) := by
  refine returnsInHanded_of_calls own started noInit witness ?_
  intro w tape i _ hsh _ hok hpre hholds
  obtain ⟨_, _, _, fn', hfn', _, _, _, _, hval⟩ := hok
  have e : fn' = fn := Option.some.inj (hfn'.symm.trans hfn)
  subst e
  obtain ⟨⟨⟨ds, gs, before, hw, hc⟩, hx⟩, hz⟩ := hpre
  have hw' := DataW.Whole.of_heap (w' := w.forCall tape i) (by rfl) hw
  refine (contract (w.forCall tape i) w.heap.size i.args ds gs before hval hw' (hX _ _ _ (by rfl) hx) hsh).mono fun e W' ⟨v, he, hp⟩ => ?_
  subst he
  exact ChangeSpec.post_blind hp
theorem env_of {P : Program} {W : World} {g : Nat} (h1 : Lib.TabIs P W "internal/strconv.uint64pow10" .u64 Lib.pow10Tab) (h2 : ∃ m, W.cell? ⟨g, 0, none⟩ = some (.int .i64 m)) : Sx.Env P g (Zone.all W) := by
  refine ⟨fun L w hS => ?_, ?_⟩
  · have hle := hS.whole
    unfold Lib.TabIs World.var? at h1 ⊢
    cases hg : P.globalNamed "internal/strconv.uint64pow10" with
    | none => rw [hg] at h1; cases h1
    | some b =>
      rw [hg] at h1
      simp only [Option.bind_some] at h1 ⊢
      cases hb : W.heap[b]? with
      | none => rw [hb] at h1; cases h1
      | some o =>
        have hb' : w.heap[b]? = some o := hle.blk b o hb
        rw [hb'] ; rw [hb] at h1; exact h1
  · obtain ⟨m, hm⟩ := h2
    exact ⟨m, hm⟩
end Go.Sx
set_option linter.unusedVariables false
namespace Go.K
open Go.Sl Go.Sx Go.RowKit Go.ChangeShapes Go.Proofs
def opF (P : Program) (rec : TypeId → TC → Bool) : List Field → Nat → TC → Bool
  | [f], off, u => Nat.beq f.offset off && (Nat.beq (P.cellsOf f.type) u.size && rec f.type u)
  | f :: g :: r, off, .pair a b => (Nat.beq f.offset off && (Nat.beq (P.cellsOf f.type) a.size && rec f.type a)) && opF P rec (g :: r) (off + a.size) b
  | _, _, _ => false
def opA (rec : TypeId → TC → Bool) (e : TypeId) (k : Nat) : Nat → TC → Bool
  | 1, u => Nat.beq k u.size && rec e u
  | n + 2, .pair a b => (Nat.beq k a.size && rec e a) && opA rec e k (n + 1) b
  | _, _ => false
def opB (P : Program) : Nat → TypeId → TC → Bool
  | 0, _, _ => false
  | n + 1, t, u => match P.underlying t with
    | some (.int .i64) => (match u with | .int .i64 => true | _ => false)
    | some .string => (match u with | .str => true | _ => false)
    | some (.slice e) => (match u with | .sl v => Nat.beq (P.cellsOf e) v.size && opB P n e v | _ => false)
    | some (.struct fs) => Nat.beq (P.cellsOf t) u.size && opF P (opB P n) fs.toList 0 u
    | some (.array m e) => Nat.beq (P.cellsOf t) u.size && opA (opB P n) e (P.cellsOf e) m u
    | _ => false
theorem opB_ok {P : Program} : ∀ (n : Nat) {t : TypeId} {u : TC}, opB P n t u = true → Opens P t u.ty (fun _ => True)
  | 0, _, _, h => by cases h
  | n + 1, t, u, h => by
    unfold opB at h
    split at h
    · rename_i ht
      split at h
      · intro H enc W fuel cs d hd
        obtain ⟨m, rfl, _, _⟩ := DataW.trod_int ht hd
        exact ⟨m, rfl, trivial⟩
      · cases h
    · rename_i ht
      split at h
      · intro H enc W fuel cs d hd
        obtain ⟨s, rfl, _, _⟩ := DataW.trod_string ht hd
        exact ⟨s, rfl, trivial⟩
      · cases h
    · rename_i e ht
      split at h
      · rename_i v
        simp only [Bool.and_eq_true, Nat.beq_eq] at h
        intro H enc W fuel cs d hd
        obtain ⟨x, hx, _⟩ := opens_slice ht (h.1.trans v.size_eq.symm) (opB_ok n h.2) H enc W fuel cs d hd
        exact ⟨x, hx, trivial⟩
      · cases h
    · rename_i fs ht
      simp only [Bool.and_eq_true, Nat.beq_eq] at h
      obtain ⟨h0, h1⟩ := h
      intro H enc W fuel cs d hd
      obtain ⟨hl, k, hx⟩ := trod_fields ht hd
      have key : ∀ (l : List Field) (off : Nat) (u : TC), (∀ f ∈ l, f ∈ fs.toList) → opF P (opB P n) l off u = true → cs.length = off + u.size → ∃ x, u.ty.rep (Zone.all W) (cs.drop off) x := by
        intro l
        induction l with
        | nil => intro off u _ hh _; simp [opF] at hh
        | cons f r ih =>
          intro off u hsub hh hlen
          cases r with
          | nil =>
            simp only [opF, Bool.and_eq_true, Nat.beq_eq] at hh
            obtain ⟨e1, e2, e3⟩ := hh
            obtain ⟨y, hy⟩ := hx f (hsub f (List.mem_cons_self ..))
            rw [e1, e2, List.take_of_length_le (by rw [List.length_drop]; omega)] at hy
            obtain ⟨x, hx', _⟩ := opB_ok n e3 H enc W k _ y hy
            exact ⟨x, hx'⟩
          | cons g r =>
            cases u with
            | pair a b =>
              simp only [opF, Bool.and_eq_true, Nat.beq_eq] at hh
              obtain ⟨⟨e1, e2, e3⟩, e4⟩ := hh
              simp only [TC.size] at hlen
              obtain ⟨y, hy⟩ := hx f (hsub f (List.mem_cons_self ..))
              rw [e1, e2] at hy
              obtain ⟨x1, r1, _⟩ := opB_ok n e3 H enc W k _ y hy
              obtain ⟨x2, r2⟩ := ih (off + a.size) b (fun q hq => hsub q (List.mem_cons_of_mem _ hq)) e4 (by omega)
              refine ⟨(x1, x2), (cs.drop off).take a.size, cs.drop (off + a.size), ?_, r1, r2⟩
              rw [← List.drop_drop, List.take_append_drop]
            | _ => simp [opF] at hh
      obtain ⟨x, hx'⟩ := key fs.toList 0 u (fun _ h => h) h1 (by omega)
      exact ⟨x, by simpa using hx', trivial⟩
    · rename_i m e ht
      simp only [Bool.and_eq_true, Nat.beq_eq] at h
      obtain ⟨h0, h1⟩ := h
      intro H enc W fuel cs d hd
      obtain ⟨hl, k, hx⟩ := trod_items ht hd
      have key : ∀ (q i : Nat) (u : TC), i + q = m → opA (opB P n) e (P.cellsOf e) q u = true → cs.length = i * P.cellsOf e + u.size → ∃ x, u.ty.rep (Zone.all W) (cs.drop (i * P.cellsOf e)) x := by
        intro q
        induction q with
        | zero => intro i u _ hh _; simp [opA] at hh
        | succ q ih =>
          intro i u hq hh hlen
          cases q with
          | zero =>
            simp only [opA, Bool.and_eq_true, Nat.beq_eq] at hh
            obtain ⟨y, hy⟩ := hx i (by omega)
            rw [List.take_of_length_le (by rw [List.length_drop]; omega)] at hy
            obtain ⟨x, hx', _⟩ := opB_ok n hh.2 H enc W k _ y hy
            exact ⟨x, hx'⟩
          | succ q =>
            cases u with
            | pair a b =>
              simp only [opA, Bool.and_eq_true, Nat.beq_eq] at hh
              obtain ⟨⟨e2, e3⟩, e4⟩ := hh
              simp only [TC.size] at hlen
              obtain ⟨y, hy⟩ := hx i (by omega)
              obtain ⟨x1, r1, _⟩ := opB_ok n e3 H enc W k _ y hy
              obtain ⟨x2, r2⟩ := ih (i + 1) b (by omega) e4 (by rw [Nat.add_mul]; omega)
              refine ⟨(x1, x2), (cs.drop (i * P.cellsOf e)).take (P.cellsOf e), cs.drop ((i + 1) * P.cellsOf e), ?_, r1, r2⟩
              rw [Nat.add_mul, Nat.one_mul, ← List.drop_drop, List.take_append_drop]
            | _ => simp [opA] at hh
      obtain ⟨x, hx'⟩ := key m 0 u (by omega) h1 (by omega)
      exact ⟨x, by simpa using hx', trivial⟩
    · cases h
section
variable {H : Type} {enc : TypeId × Value → H} {P : Program} {W : World} {base : Nat} {t : TypeId} {v : Value} {d : DataW H} {ps : List MemPlace}
theorem oA {u : TC} (hs : (match P.underlying t with | some (.struct _) => true | some (.array _ _) => true | _ => false) = true) (hb : opB P 12 t u = true) (hv : Value.okWide P W .any base t v) (h : DataW.Trod enc P W 0 (fun _ => true) true t v d ps) : ∃ x : u.den, repA (Zone.all W) (true, u) v x := by
  obtain ⟨cs, x, rfl, hr, _⟩ := arg_agg hs hv h (opB_ok 12 hb)
  exact ⟨x, .inl ⟨rfl, cs, rfl, hr⟩⟩
end
end Go.K
