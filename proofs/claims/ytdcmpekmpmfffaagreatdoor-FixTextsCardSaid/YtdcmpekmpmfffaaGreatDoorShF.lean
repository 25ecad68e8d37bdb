/-
  A part of the walk and of the plain law of one given statement. No condition.
-/
import Derived.Test.YtdcmpekmpmfffaaGreatDoorSh
/-
  A part of the walk and of the plain law of one given statement. No condition.
-/
import Derived.Test.YtdcmpekmpmfffaaGreatDoorFT0
import Derived.Test.YtdcmpekmpmfffaaGreatDoorK6
import Derived.Shelf.Sort.Plain
import Derived.Shelf.Slices.In.SortNone
import Derived.Shelf.SlicesG.CompactI
import Derived.Shelf.Spec.SlicesGrow
import Derived.Sort.OwnSortedInts
import Derived.Test.YtdcmpekmpmfffaaGreatDoorSh
import Derived.Test.YtdcmpekmpmfffaaGreatDoorRows
set_option linter.unusedVariables false
set_option maxRecDepth 100000
namespace Go.K
open Go.Sl Go.Sx Go.Proofs
variable {E : Env}
abbrev HC (E : Env) (C : FuncId → Option Con) : Prop := ∀ L g con, C g = some con → ConOk Tryz.prog (envA E :: L) con g
theorem mixedT : Tryz.prog.follows .mixedOrders = true := by kernel_rfl
def S32 : FuncId → Sp := fun _ => {}
noncomputable def F32 (P : Program) (lf : Nat) (x : tt [(false, .i), (false, .i), (false, .i)]) : Option (tt [(false, .bool)]) := fnF P (CT P lf) S32 32 [(false, .i), (false, .i), (false, .i)] [(false, .bool)] lf x
noncomputable def C32 (P : Program) (lf : Nat) : FuncId → Option Con := extC (CT P lf) 32 (dataCon [(false, .i), (false, .i), (false, .i)] [(false, .bool)] (F32 P lf))
theorem H32 (lf : Nat) (h : HC E (CT Tryz.prog lf)) : HC E (C32 Tryz.prog lf) := fun L => extC_ok (h L) (dataCon_ok (fnF_valid mixedT h 32 _ _ lf))
theorem F32_eq (lf : Nat) (a0 : Int) (a1 : Int) (a2 : Int) : F32 Tryz.prog lf (a0, (a1, a2)) =
  cond (decide (a1 ≤ a0)) (some (decide (a0 ≤ a2))) (some false) := by kernel_rfl
def S10 : FuncId → Sp := fun g => match g with
  | 10 => { joins := [(7, [(.slot 54, .dat .bool)])], loops := [(4, [(.slot 13, .dat .i)])] }
  | _ => {}
noncomputable def F10 (P : Program) (lf : Nat) (x : tt [(true, (.sl (.pair .i (.pair .i .i))))]) : Option (tt [(false, .i)]) := fnF P (C32 P lf) S10 10 [(true, (.sl (.pair .i (.pair .i .i))))] [(false, .i)] lf x
noncomputable def C10 (P : Program) (lf : Nat) : FuncId → Option Con := extC (C32 P lf) 10 (dataCon [(true, (.sl (.pair .i (.pair .i .i))))] [(false, .i)] (F10 P lf))
theorem H10 (lf : Nat) (h : HC E (C32 Tryz.prog lf)) : HC E (C10 Tryz.prog lf) := fun L => extC_ok (h L) (dataCon_ok (fnF_valid mixedT h 10 _ _ lf))
theorem F10_eq (lf : Nat) (a0 : (List (Int × (Int × Int)))) : F10 Tryz.prog lf a0 =
  ((F32 Tryz.prog lf ((a0.length : Int), ((1 : Int), (40 : Int))))).bind fun r13 => cond (!r13) (some (11 : Int)) (iter lf (fun y14 : Int => cond (decide (y14 < (a0.length : Int))) (((getI a0 y14)).bind fun r15 => jn (((F32 Tryz.prog lf (r15.1, ((0 : Int), (1000000 : Int))))).bind fun r16 => cond (!r16) (some (.inl true)) (cond (decide (r15.2.1 > r15.2.2)) (some (.inl true)) (cond (decide (r15.2.1 < (-1000000000 : Int))) (some (.inl true)) (cond (decide (r15.2.2 > (1000000000 : Int))) (some (.inl true)) (cond (decide (y14 > (0 : Int))) (((getI a0 (w64 (y14 - (1 : Int))))).bind fun r17 => some (.inl (decide (r17.1 ≥ r15.1)))) (some (.inl false))))))) (fun y18 : Bool => cond y18 (some (.inr (11 : Int))) (some (.inl (w64 (y14 + (1 : Int))))))) (some (.inr (0 : Int)))) (0 : Int)) := by kernel_rfl
def S4 : FuncId → Sp := fun g => match g with
  | 4 => { loops := [(6, [(.slot 16, .dat .i), (.cell 5 1, .own (.int .u8) 5)])], wr := [8], pu := [12] }
  | _ => {}
noncomputable def F4 (P : Program) (lf : Nat) (x : tt [(true, (.sl (.pair .i (.pair .i .i))))]) : Option (tt [(false, .str), (false, .i)]) := fnF P (C10 P lf) S4 4 [(true, (.sl (.pair .i (.pair .i .i))))] [(false, .str), (false, .i)] lf x
noncomputable def C4 (P : Program) (lf : Nat) : FuncId → Option Con := extC (C10 P lf) 4 (dataCon [(true, (.sl (.pair .i (.pair .i .i))))] [(false, .str), (false, .i)] (F4 P lf))
theorem H4 (lf : Nat) (h : HC E (C10 Tryz.prog lf)) : HC E (C4 Tryz.prog lf) := fun L => extC_ok (h L) (dataCon_ok (fnF_valid mixedT h 4 _ _ lf))
theorem F4_eq (lf : Nat) (a0 : (List (Int × (Int × Int)))) : F4 Tryz.prog lf a0 =
  ((F10 Tryz.prog lf a0)).bind fun r72 => cond (!(decide (r72 = (0 : Int)))) (some ((bts []), r72)) (iter lf (fun y73 : (Int × (List Int)) => cond (decide (y73.1 < (a0.length : Int))) (((getI a0 y73.1)).bind fun r74 => ((itoaC r74.1)).bind fun r75 => ((catC r75 (bts [32]))).bind fun r76 => ((itoaC r74.2.1)).bind fun r77 => ((catC (r75 ++ (bts [32])) r77)).bind fun r78 => ((catC ((r75 ++ (bts [32])) ++ r77) (bts [32]))).bind fun r79 => ((itoaC r74.2.2)).bind fun r80 => ((catC (((r75 ++ (bts [32])) ++ r77) ++ (bts [32])) r80)).bind fun r81 => ((catC ((((r75 ++ (bts [32])) ++ r77) ++ (bts [32])) ++ r80) (bts [10]))).bind fun r82 => ((appC y73.2 (bytesI (((((r75 ++ (bts [32])) ++ r77) ++ (bts [32])) ++ r80) ++ (bts [10]))))).bind fun r83 => some (.inl ((w64 (y73.1 + (1 : Int))), r83))) (outR (((getI y73.2 (0 : Int))).bind fun r84 => ((getI y73.2 (0 : Int))).bind fun r85 => ((lenC (y73.2.length : Int) y73.2)).bind fun r86 => some ((strI y73.2), (0 : Int))))) ((0 : Int), ([] : List Int))) := by kernel_rfl
def S20 : FuncId → Sp := fun g => match g with
  | 20 => { joins := [(3, [(.slot 47, .dat .bool)])] }
  | _ => {}
noncomputable def F20 (P : Program) (lf : Nat) (x : tt [(false, .str), (false, .i), (false, .bool)]) : Option (tt [(false, .i)] ⊕ ((true, .i) : AT).2.den) := fnP P (C4 P lf) S20 20 [(false, .str), (false, .i), (false, .bool)] [(false, .i)] 48 (true, .i) lf x
noncomputable def C20 (P : Program) (lf : Nat) : FuncId → Option Con := extC (C4 P lf) 20 (panCon [(false, .str), (false, .i), (false, .bool)] [(false, .i)] 48 (true, .i) (F20 P lf))
theorem H20 (lf : Nat) (h : HC E (C4 Tryz.prog lf)) : HC E (C20 Tryz.prog lf) := fun L => extC_ok (h L) (panCon_ok (fnP_valid mixedT h 20 _ _ _ _ lf))
theorem F20_eq (lf : Nat) (a0 : ByteArray) (a1 : Int) (a2 : Bool) : F20 Tryz.prog lf (a0, (a1, a2)) =
  jn (cond (cutPrefix a0 (bts [45])).2 (cond (!a2) (some (.inl true)) (cond ((ByteArray.toList (cutPrefix a0 (bts [45])).1) == [(UInt8.ofNat 48)]) (some (.inl true)) (cond ((ByteArray.toList (cutPrefix a0 (bts [45])).1) == ([] : List UInt8)) (some (.inl true)) (cond (decide (((cutPrefix a0 (bts [45])).1.size : Int) > (10 : Int))) (some (.inl true)) (((byteAt (cutPrefix a0 (bts [45])).1 (0 : Int))).bind fun r18 => cond (decide (r18 = (48 : Int))) (cond (!((ByteArray.toList (cutPrefix a0 (bts [45])).1) == [(UInt8.ofNat 48)])) (some (.inl true)) (((trimC (cutPrefix a0 (bts [45])).1 (bts [48, 49, 50, 51, 52, 53, 54, 55, 56, 57]))).bind fun r19 => some (.inl (!((ByteArray.toList r19) == ([] : List UInt8)))))) (((trimC (cutPrefix a0 (bts [45])).1 (bts [48, 49, 50, 51, 52, 53, 54, 55, 56, 57]))).bind fun r20 => some (.inl (!((ByteArray.toList r20) == ([] : List UInt8)))))))))) (cond ((ByteArray.toList (cutPrefix a0 (bts [45])).1) == ([] : List UInt8)) (some (.inl true)) (cond (decide (((cutPrefix a0 (bts [45])).1.size : Int) > (10 : Int))) (some (.inl true)) (((byteAt (cutPrefix a0 (bts [45])).1 (0 : Int))).bind fun r21 => cond (decide (r21 = (48 : Int))) (cond (!((ByteArray.toList (cutPrefix a0 (bts [45])).1) == [(UInt8.ofNat 48)])) (some (.inl true)) (((trimC (cutPrefix a0 (bts [45])).1 (bts [48, 49, 50, 51, 52, 53, 54, 55, 56, 57]))).bind fun r22 => some (.inl (!((ByteArray.toList r22) == ([] : List UInt8)))))) (((trimC (cutPrefix a0 (bts [45])).1 (bts [48, 49, 50, 51, 52, 53, 54, 55, 56, 57]))).bind fun r23 => some (.inl (!((ByteArray.toList r23) == ([] : List UInt8))))))))) (fun y24 : Bool => cond y24 (some (.inr a1)) (((atoiC a0)).bind fun r25 => some (.inl r25))) := by kernel_rfl
def S6 : FuncId → Sp := fun g => match g with
  | 6 => { joins := [(8, [(.slot 5, .dat (.sl .str))])], loops := [(10, [(.slot 32, .dat .i), (.cell 7 0, .own (.pair .i (.pair .i .i)) 39)])] }
  | _ => {}
noncomputable def F6 (P : Program) (lf : Nat) (x : tt [(false, .str)]) : Option (tt [(true, (.sl (.pair .i (.pair .i .i)))), (false, .i), (false, .i)]) := fnF P (C20 P lf) S6 6 [(false, .str)] [(true, (.sl (.pair .i (.pair .i .i)))), (false, .i), (false, .i)] lf x
noncomputable def C6 (P : Program) (lf : Nat) : FuncId → Option Con := extC (C20 P lf) 6 (dataCon [(false, .str)] [(true, (.sl (.pair .i (.pair .i .i)))), (false, .i), (false, .i)] (F6 P lf))
theorem H6 (lf : Nat) (h : HC E (C20 Tryz.prog lf)) : HC E (C6 Tryz.prog lf) := fun L => extC_ok (h L) (dataCon_ok (fnF_valid mixedT h 6 _ _ lf))
theorem F6_eq (lf : Nat) (a0 : ByteArray) : F6 Tryz.prog lf a0 =
  cond (decide ((a0.size : Int) > (8000 : Int))) (some (([] : List (Int × (Int × Int))), ((0 : Int), (2 : Int)))) (((splitC a0 (bts [10]))).bind fun r103 => jn (((getI r103 (w64 ((r103.length : Int) - (1 : Int))))).bind fun r104 => cond ((ByteArray.toList r104) == ([] : List UInt8)) (((subI r103 (0 : Int) (w64 ((r103.length : Int) - (1 : Int))))).bind fun r105 => some (.inl r105)) (some (.inl r103))) (fun y106 : (List ByteArray) => iter lf (fun y107 : (Int × (List (Int × (Int × Int)))) => cond (decide (y107.1 < (y106.length : Int))) (((getI y106 y107.1)).bind fun r108 => ((fieldsC (fun y109 : Nat => (isSp y109)) r108)).bind fun r110 => cond (decide ((r110.length : Int) = (0 : Int))) (some (.inl ((w64 (y107.1 + (1 : Int))), y107.2))) (((byteAt r108 (0 : Int))).bind fun r111 => cond (decide (r111 = (35 : Int))) (some (.inl ((w64 (y107.1 + (1 : Int))), y107.2))) (cond (!(decide ((r110.length : Int) = (3 : Int)))) (some (.inr (([] : List (Int × (Int × Int))), ((w64 (y107.1 + (1 : Int))), (12 : Int))))) (((getI r110 (0 : Int))).bind fun r112 => ((getI r110 (1 : Int))).bind fun r113 => ((getI r110 (2 : Int))).bind fun r114 => ((F20 Tryz.prog lf (r112, ((w64 (y107.1 + (1 : Int))), false)))).bind fun r115 => sm r115 (fun r116 : Int => ((F20 Tryz.prog lf (r113, ((w64 (y107.1 + (1 : Int))), true)))).bind fun r117 => sm r117 (fun r118 : Int => ((F20 Tryz.prog lf (r114, ((w64 (y107.1 + (1 : Int))), true)))).bind fun r119 => sm r119 (fun r120 : Int => ((appC y107.2 [(r116, (r118, r120))])).bind fun r121 => some (.inl ((w64 (y107.1 + (1 : Int))), r121))) (fun r122 : Int => outR (agree (some (([] : List (Int × (Int × Int))), (r122, (12 : Int)))) (some (([] : List (Int × (Int × Int))), (r122, (12 : Int))))))) (fun r123 : Int => outR (agree (some (([] : List (Int × (Int × Int))), (r123, (12 : Int)))) (some (([] : List (Int × (Int × Int))), (r123, (12 : Int))))))) (fun r124 : Int => outR (agree (some (([] : List (Int × (Int × Int))), (r124, (12 : Int)))) (some (([] : List (Int × (Int × Int))), (r124, (12 : Int)))))))))) (outR (cond (decide ((y107.2.length : Int) = (0 : Int))) (some (([] : List (Int × (Int × Int))), ((w64 ((y106.length : Int) + (1 : Int))), (12 : Int)))) (((F10 Tryz.prog lf y107.2)).bind fun r125 => cond (!(decide (r125 = (0 : Int)))) (some (([] : List (Int × (Int × Int))), ((0 : Int), r125))) (some (y107.2, ((0 : Int), (0 : Int)))))))) ((0 : Int), ([] : List (Int × (Int × Int)))))) := by kernel_rfl
def S14 : FuncId → Sp := fun g => match g with
  | 14 => { joins := [(7, [(.slot 63, .dat .bool)]), (2, [(.slot 14, .dat .bool)])], loops := [(4, [(.slot 18, .dat .i)])] }
  | _ => {}
noncomputable def F14 (P : Program) (lf : Nat) (x : tt [(true, (.sl (.pair .i (.pair .i .i))))]) : Option (tt [(false, .bool)]) := fnF P (C6 P lf) S14 14 [(true, (.sl (.pair .i (.pair .i .i))))] [(false, .bool)] lf x
noncomputable def C14 (P : Program) (lf : Nat) : FuncId → Option Con := extC (C6 P lf) 14 (dataCon [(true, (.sl (.pair .i (.pair .i .i))))] [(false, .bool)] (F14 P lf))
theorem H14 (lf : Nat) (h : HC E (C6 Tryz.prog lf)) : HC E (C14 Tryz.prog lf) := fun L => extC_ok (h L) (dataCon_ok (fnF_valid mixedT h 14 _ _ lf))
theorem F14_eq (lf : Nat) (a0 : (List (Int × (Int × Int)))) : F14 Tryz.prog lf a0 =
  jn (cond (decide ((a0.length : Int) < (1 : Int))) (some (.inl true)) (some (.inl (decide ((a0.length : Int) > (40 : Int)))))) (fun y8 : Bool => cond y8 (some false) (iter lf (fun y9 : Int => cond (decide (y9 < (a0.length : Int))) (((getI a0 y9)).bind fun r10 => jn (cond (decide (r10.1 < (0 : Int))) (some (.inl true)) (cond (decide (r10.1 > (1000000 : Int))) (some (.inl true)) (cond (decide (y9 > (0 : Int))) (((getI a0 (w64 (y9 - (1 : Int))))).bind fun r11 => cond (decide (r11.1 ≥ r10.1)) (some (.inl true)) (cond (decide (r10.2.1 < (-1000000000 : Int))) (some (.inl true)) (cond (decide (r10.2.1 > r10.2.2)) (some (.inl true)) (some (.inl (decide (r10.2.2 > (1000000000 : Int)))))))) (cond (decide (r10.2.1 < (-1000000000 : Int))) (some (.inl true)) (cond (decide (r10.2.1 > r10.2.2)) (some (.inl true)) (some (.inl (decide (r10.2.2 > (1000000000 : Int)))))))))) (fun y12 : Bool => cond y12 (some (.inr false)) (some (.inl (w64 (y9 + (1 : Int))))))) (some (.inr true))) (0 : Int))) := by kernel_rfl
def S21 : FuncId → Sp := fun g => match g with
  | 21 => { loops := [(4, [(.slot 3, .own .str 9), (.slot 4, .dat .i), (.slot 5, .dat .i)])] }
  | _ => {}
noncomputable def F21 (P : Program) (lf : Nat) (x : tt [(false, .str)]) : Option (tt [(false, (.sl .str))]) := fnF P (C14 P lf) S21 21 [(false, .str)] [(false, (.sl .str))] lf x
noncomputable def C21 (P : Program) (lf : Nat) : FuncId → Option Con := extC (C14 P lf) 21 (dataCon [(false, .str)] [(false, (.sl .str))] (F21 P lf))
theorem H21 (lf : Nat) (h : HC E (C14 Tryz.prog lf)) : HC E (C21 Tryz.prog lf) := fun L => extC_ok (h L) (dataCon_ok (fnF_valid mixedT h 21 _ _ lf))
theorem F21_eq (lf : Nat) (a0 : ByteArray) : F21 Tryz.prog lf a0 =
  iter lf (fun y14 : ((List ByteArray) × (Int × Int)) => cond (decide (y14.2.2 < (a0.size : Int))) (((byteAt a0 y14.2.2)).bind fun r15 => cond (decide (r15 = (10 : Int))) (((cutC a0 y14.2.1 y14.2.2)).bind fun r16 => ((appC y14.1 [(ByteArray.extract a0 (Int.toNat y14.2.1) (Int.toNat y14.2.2))])).bind fun r17 => some (.inl (r17, ((w64 (y14.2.2 + (1 : Int))), (w64 (y14.2.2 + (1 : Int))))))) (some (.inl (y14.1, (y14.2.1, (w64 (y14.2.2 + (1 : Int)))))))) (outR (cond (decide (y14.2.1 < (a0.size : Int))) (((cutC a0 y14.2.1 (a0.size : Int))).bind fun r18 => ((appC y14.1 [(ByteArray.extract a0 (Int.toNat y14.2.1) (Int.toNat (a0.size : Int)))])).bind fun r19 => some r19) (some y14.1)))) (([] : List ByteArray), ((0 : Int), (0 : Int))) := by kernel_rfl
def S22 : FuncId → Sp := fun g => match g with
  | 22 => { joins := [(7, [(.slot 21, .dat .bool)])], loops := [(4, [(.slot 4, .dat .str), (.slot 3, .own .str 9), (.slot 5, .dat .i)])] }
  | _ => {}
noncomputable def F22 (P : Program) (lf : Nat) (x : tt [(false, .str)]) : Option (tt [(false, (.sl .str))]) := fnF P (C21 P lf) S22 22 [(false, .str)] [(false, (.sl .str))] lf x
noncomputable def C22 (P : Program) (lf : Nat) : FuncId → Option Con := extC (C21 P lf) 22 (dataCon [(false, .str)] [(false, (.sl .str))] (F22 P lf))
theorem H22 (lf : Nat) (h : HC E (C21 Tryz.prog lf)) : HC E (C22 Tryz.prog lf) := fun L => extC_ok (h L) (dataCon_ok (fnF_valid mixedT h 22 _ _ lf))
theorem F22_eq (lf : Nat) (a0 : ByteArray) : F22 Tryz.prog lf a0 =
  iter lf (fun y13 : (ByteArray × ((List ByteArray) × Int)) => cond (decide (y13.2.2 ≤ (a0.size : Int))) (jn (cond (decide (y13.2.2 < (a0.size : Int))) (((byteAt a0 y13.2.2)).bind fun r14 => some (.inl (!(decide (r14 = (32 : Int)))))) (some (.inl false))) (fun y15 : Bool => cond y15 (((cutC a0 y13.2.2 (w64 (y13.2.2 + (1 : Int))))).bind fun r16 => ((catC y13.1 (ByteArray.extract a0 (Int.toNat y13.2.2) (Int.toNat (w64 (y13.2.2 + (1 : Int))))))).bind fun r17 => some (.inl ((y13.1 ++ (ByteArray.extract a0 (Int.toNat y13.2.2) (Int.toNat (w64 (y13.2.2 + (1 : Int)))))), (y13.2.1, (w64 (y13.2.2 + (1 : Int))))))) (cond (!((ByteArray.toList y13.1) == ([] : List UInt8))) (((appC y13.2.1 [y13.1])).bind fun r18 => some (.inl ((bts []), (r18, (w64 (y13.2.2 + (1 : Int))))))) (some (.inl ((bts []), (y13.2.1, (w64 (y13.2.2 + (1 : Int)))))))))) (some (.inr y13.2.1))) ((bts []), (([] : List ByteArray), (0 : Int))) := by kernel_rfl
def S23 : FuncId → Sp := fun g => match g with
  | 23 => { joins := [(12, [(.slot 63, .dat .bool)]), (6, [(.slot 47, .dat .bool)]), (5, [(.slot 8, .dat .i), (.slot 0, .dat .str)]), (3, [(.slot 26, .dat .bool)])], loops := [(9, [(.slot 9, .dat .i), (.slot 10, .dat .i)])] }
  | _ => {}
noncomputable def F23 (P : Program) (lf : Nat) (x : tt [(false, .str), (false, .i), (false, .bool)]) : Option (tt [(false, .i), (false, .bool)]) := fnF P (C22 P lf) S23 23 [(false, .str), (false, .i), (false, .bool)] [(false, .i), (false, .bool)] lf x
noncomputable def C23 (P : Program) (lf : Nat) : FuncId → Option Con := extC (C22 P lf) 23 (dataCon [(false, .str), (false, .i), (false, .bool)] [(false, .i), (false, .bool)] (F23 P lf))
theorem H23 (lf : Nat) (h : HC E (C22 Tryz.prog lf)) : HC E (C23 Tryz.prog lf) := fun L => extC_ok (h L) (dataCon_ok (fnF_valid mixedT h 23 _ _ lf))
theorem F23_eq (lf : Nat) (a0 : ByteArray) (a1 : Int) (a2 : Bool) : F23 Tryz.prog lf (a0, (a1, a2)) =
  jn (jn (cond a2 (cond (decide ((a0.size : Int) > (1 : Int))) (((byteAt a0 (0 : Int))).bind fun r24 => cond (decide (r24 = (45 : Int))) (((byteAt a0 (1 : Int))).bind fun r25 => some (.inl (!(decide (r25 = (48 : Int)))))) (some (.inl false))) (some (.inl false))) (some (.inl false))) (fun y26 : Bool => cond y26 (((cutC a0 (1 : Int) (a0.size : Int))).bind fun r27 => some (.inl ((-1 : Int), (ByteArray.extract a0 1 (Int.toNat (a0.size : Int)))))) (some (.inl ((1 : Int), a0))))) (fun y28 : (Int × ByteArray) => jn (cond (decide ((y28.2.size : Int) < (1 : Int))) (some (.inl true)) (cond (decide ((y28.2.size : Int) > a1)) (some (.inl true)) (cond (decide ((y28.2.size : Int) > (1 : Int))) (((byteAt y28.2 (0 : Int))).bind fun r29 => some (.inl (decide (r29 = (48 : Int))))) (some (.inl false))))) (fun y30 : Bool => cond y30 (some ((0 : Int), false)) (iter lf (fun y31 : (Int × Int) => cond (decide (y31.2 < (y28.2.size : Int))) (jn (((byteAt y28.2 y31.2)).bind fun r32 => cond (decide (r32 < (48 : Int))) (some (.inl true)) (((byteAt y28.2 y31.2)).bind fun r33 => some (.inl (decide (r33 > (57 : Int)))))) (fun y34 : Bool => cond y34 (some (.inr ((0 : Int), false))) (((byteAt y28.2 y31.2)).bind fun r35 => some (.inl ((w64 ((w64 ((10 : Int) * y31.1)) + (w64 (Go.IntKind.wrap .u8 (r35 - (48 : Int)))))), (w64 (y31.2 + (1 : Int)))))))) (some (.inr ((w64 (y28.1 * y31.1)), true)))) ((0 : Int), (0 : Int))))) := by kernel_rfl
def S7 : FuncId → Sp := fun g => match g with
  | 7 => { joins := [(16, [(.slot 75, .dat .bool)])], loops := [(6, [(.slot 24, .dat .i), (.cell 6 0, .own (.pair .i (.pair .i .i)) 39)])] }
  | _ => {}
noncomputable def F7 (P : Program) (lf : Nat) (x : tt [(false, .str)]) : Option (tt [(true, (.sl (.pair .i (.pair .i .i)))), (false, .i), (false, .i)]) := fnF P (C23 P lf) S7 7 [(false, .str)] [(true, (.sl (.pair .i (.pair .i .i)))), (false, .i), (false, .i)] lf x
noncomputable def C7 (P : Program) (lf : Nat) : FuncId → Option Con := extC (C23 P lf) 7 (dataCon [(false, .str)] [(true, (.sl (.pair .i (.pair .i .i)))), (false, .i), (false, .i)] (F7 P lf))
theorem H7 (lf : Nat) (h : HC E (C23 Tryz.prog lf)) : HC E (C7 Tryz.prog lf) := fun L => extC_ok (h L) (dataCon_ok (fnF_valid mixedT h 7 _ _ lf))
theorem F7_eq (lf : Nat) (a0 : ByteArray) : F7 Tryz.prog lf a0 =
  cond (decide ((a0.size : Int) > (8000 : Int))) (some (([] : List (Int × (Int × Int))), ((0 : Int), (2 : Int)))) (((F21 Tryz.prog lf a0)).bind fun r50 => iter lf (fun y51 : (Int × (List (Int × (Int × Int)))) => cond (decide (y51.1 < (r50.length : Int))) (((getI r50 y51.1)).bind fun r52 => ((F22 Tryz.prog lf r52)).bind fun r53 => cond (decide ((r53.length : Int) = (0 : Int))) (some (.inl ((w64 (y51.1 + (1 : Int))), y51.2))) (((byteAt r52 (0 : Int))).bind fun r54 => cond (decide (r54 = (35 : Int))) (some (.inl ((w64 (y51.1 + (1 : Int))), y51.2))) (cond (!(decide ((r53.length : Int) = (3 : Int)))) (some (.inr (([] : List (Int × (Int × Int))), ((w64 (y51.1 + (1 : Int))), (12 : Int))))) (((getI r53 (0 : Int))).bind fun r55 => ((F23 Tryz.prog lf (r55, ((10 : Int), false)))).bind fun r56 => ((getI r53 (1 : Int))).bind fun r57 => ((F23 Tryz.prog lf (r57, ((10 : Int), true)))).bind fun r58 => ((getI r53 (2 : Int))).bind fun r59 => ((F23 Tryz.prog lf (r59, ((10 : Int), true)))).bind fun r60 => jn (cond (!r56.2) (some (.inl true)) (cond (!r58.2) (some (.inl true)) (some (.inl (!r60.2))))) (fun y61 : Bool => cond y61 (some (.inr (([] : List (Int × (Int × Int))), ((w64 (y51.1 + (1 : Int))), (12 : Int))))) (((appC y51.2 [(r56.1, (r58.1, r60.1))])).bind fun r62 => some (.inl ((w64 (y51.1 + (1 : Int))), r62)))))))) (outR (cond (decide ((y51.2.length : Int) = (0 : Int))) (some (([] : List (Int × (Int × Int))), ((w64 ((r50.length : Int) + (1 : Int))), (12 : Int)))) (((F14 Tryz.prog lf y51.2)).bind fun r63 => cond (!r63) (some (([] : List (Int × (Int × Int))), ((0 : Int), (11 : Int)))) (some (y51.2, ((0 : Int), (0 : Int)))))))) ((0 : Int), ([] : List (Int × (Int × Int))))) := by kernel_rfl
def S8 : FuncId → Sp := fun g => match g with
  | 8 => { loops := [(4, [(.slot 16, .dat .i)])] }
  | _ => {}
noncomputable def F8 (P : Program) (lf : Nat) (x : tt [(true, (.sl (.pair .i (.pair .i .i)))), (true, (.sl (.pair .i (.pair .i .i))))]) : Option (tt [(false, .bool)]) := fnF P (C7 P lf) S8 8 [(true, (.sl (.pair .i (.pair .i .i)))), (true, (.sl (.pair .i (.pair .i .i))))] [(false, .bool)] lf x
noncomputable def C8 (P : Program) (lf : Nat) : FuncId → Option Con := extC (C7 P lf) 8 (dataCon [(true, (.sl (.pair .i (.pair .i .i)))), (true, (.sl (.pair .i (.pair .i .i))))] [(false, .bool)] (F8 P lf))
theorem H8 (lf : Nat) (h : HC E (C7 Tryz.prog lf)) : HC E (C8 Tryz.prog lf) := fun L => extC_ok (h L) (dataCon_ok (fnF_valid mixedT h 8 _ _ lf))
theorem F8_eq (lf : Nat) (a0 : (List (Int × (Int × Int)))) (a1 : (List (Int × (Int × Int)))) : F8 Tryz.prog lf (a0, a1) =
  cond (!(decide ((a0.length : Int) = (a1.length : Int)))) (some false) (iter lf (fun y7 : Int => cond (decide (y7 < (a0.length : Int))) (((getI a0 y7)).bind fun r8 => ((getI a1 y7)).bind fun r9 => cond (!((decide (r8.1 = r9.1)) && ((decide (r8.2.1 = r9.2.1)) && ((decide (r8.2.2 = r9.2.2)) && true)))) (some (.inr false)) (some (.inl (w64 (y7 + (1 : Int)))))) (some (.inr true))) (0 : Int)) := by kernel_rfl
def S15 : FuncId → Sp := fun _ => {}
noncomputable def F15 (P : Program) (lf : Nat) : Nat → tt [(false, .i)] → Option (tt [(false, .str)])
  | 0, _ => none
  | n + 1, x => fnF P (extC (C8 P lf) 15 (dataCon [(false, .i)] [(false, .str)] (F15 P lf n))) S15 15 [(false, .i)] [(false, .str)] lf x
noncomputable def C15 (P : Program) (lf : Nat) : FuncId → Option Con := extC (C8 P lf) 15 (dataCon [(false, .i)] [(false, .str)] (F15 P lf lf))
theorem H15 (lf : Nat) (h : HC E (C8 Tryz.prog lf)) : HC E (C15 Tryz.prog lf) := fun L => extC_ok (h L) (dataCon_ok (rec_valid mixedT h (fun _ => rfl) (fun _ _ => rfl) lf))
theorem F15_eq (lf n : Nat) (a0 : Int) : F15 Tryz.prog lf (n + 1) a0 =
  cond (decide (a0 < (-9 : Int))) (agree (((F15 Tryz.prog lf n (w64 (Int.tdiv a0 (10 : Int))))).bind fun r29 => ((catC r29 (strI [(Go.IntKind.wrap .u8 (w64 ((48 : Int) - (Int.tmod a0 (10 : Int)))))]))).bind fun r30 => some (r29 ++ (strI [(Go.IntKind.wrap .u8 (w64 ((48 : Int) - (Int.tmod a0 (10 : Int)))))]))) (((F15 Tryz.prog lf n (w64 (Int.tdiv a0 (10 : Int))))).bind fun r31 => ((catC r31 (strI [(Go.IntKind.wrap .u8 (w64 ((48 : Int) - (Int.tmod a0 (10 : Int)))))]))).bind fun r32 => some (r31 ++ (strI [(Go.IntKind.wrap .u8 (w64 ((48 : Int) - (Int.tmod a0 (10 : Int)))))])))) (cond (decide (a0 < (0 : Int))) (((F15 Tryz.prog lf n (w64 ((0 : Int) - a0)))).bind fun r33 => ((catC (bts [45]) r33)).bind fun r34 => some ((bts [45]) ++ r33)) (cond (decide (a0 < (10 : Int))) (some (strI [(Go.IntKind.wrap .u8 (w64 ((48 : Int) + a0)))])) (agree (((F15 Tryz.prog lf n (w64 (Int.tdiv a0 (10 : Int))))).bind fun r35 => ((catC r35 (strI [(Go.IntKind.wrap .u8 (w64 ((48 : Int) + (Int.tmod a0 (10 : Int)))))]))).bind fun r36 => some (r35 ++ (strI [(Go.IntKind.wrap .u8 (w64 ((48 : Int) + (Int.tmod a0 (10 : Int)))))]))) (((F15 Tryz.prog lf n (w64 (Int.tdiv a0 (10 : Int))))).bind fun r37 => ((catC r37 (strI [(Go.IntKind.wrap .u8 (w64 ((48 : Int) + (Int.tmod a0 (10 : Int)))))]))).bind fun r38 => some (r37 ++ (strI [(Go.IntKind.wrap .u8 (w64 ((48 : Int) + (Int.tmod a0 (10 : Int)))))])))))) := by kernel_rfl
def S5 : FuncId → Sp := fun g => match g with
  | 5 => { loops := [(5, [(.slot 4, .dat .str), (.slot 13, .dat .i)])] }
  | _ => {}
noncomputable def F5 (P : Program) (lf : Nat) (x : tt [(true, (.sl (.pair .i (.pair .i .i))))]) : Option (tt [(false, .str), (false, .i)]) := fnF P (C15 P lf) S5 5 [(true, (.sl (.pair .i (.pair .i .i))))] [(false, .str), (false, .i)] lf x
noncomputable def C5 (P : Program) (lf : Nat) : FuncId → Option Con := extC (C15 P lf) 5 (dataCon [(true, (.sl (.pair .i (.pair .i .i))))] [(false, .str), (false, .i)] (F5 P lf))
theorem H5 (lf : Nat) (h : HC E (C15 Tryz.prog lf)) : HC E (C5 Tryz.prog lf) := fun L => extC_ok (h L) (dataCon_ok (fnF_valid mixedT h 5 _ _ lf))
theorem F5_eq (lf : Nat) (a0 : (List (Int × (Int × Int)))) : F5 Tryz.prog lf a0 =
  ((F14 Tryz.prog lf a0)).bind fun r34 => cond (!r34) (some ((bts []), (11 : Int))) (iter lf (fun y35 : (ByteArray × Int) => cond (decide (y35.2 < (a0.length : Int))) (((getI a0 y35.2)).bind fun r36 => ((F15 Tryz.prog lf lf r36.1)).bind fun r37 => ((catC r37 (bts [32]))).bind fun r38 => ((F15 Tryz.prog lf lf r36.2.1)).bind fun r39 => ((catC (r37 ++ (bts [32])) r39)).bind fun r40 => ((catC ((r37 ++ (bts [32])) ++ r39) (bts [32]))).bind fun r41 => ((F15 Tryz.prog lf lf r36.2.2)).bind fun r42 => ((catC (((r37 ++ (bts [32])) ++ r39) ++ (bts [32])) r42)).bind fun r43 => ((catC ((((r37 ++ (bts [32])) ++ r39) ++ (bts [32])) ++ r42) (bts [10]))).bind fun r44 => ((catC y35.1 (((((r37 ++ (bts [32])) ++ r39) ++ (bts [32])) ++ r42) ++ (bts [10])))).bind fun r45 => some (.inl ((y35.1 ++ (((((r37 ++ (bts [32])) ++ r39) ++ (bts [32])) ++ r42) ++ (bts [10]))), (w64 (y35.2 + (1 : Int)))))) (some (.inr (y35.1, (0 : Int))))) ((bts []), (0 : Int))) := by kernel_rfl
def S3 : FuncId → Sp := fun g => match g with
  | 3 => { joins := [(6, [(.slot 63, .dat .bool)])] }
  | _ => {}
noncomputable def F3 (P : Program) (lf : Nat) (x : tt [(true, (.sl (.pair .i (.pair .i .i)))), (false, .str)]) : Option (tt [(false, .bool)]) := fnF P (C5 P lf) S3 3 [(true, (.sl (.pair .i (.pair .i .i)))), (false, .str)] [(false, .bool)] lf x
theorem F3_eq (lf : Nat) (a0 : (List (Int × (Int × Int)))) (a1 : ByteArray) : F3 Tryz.prog lf (a0, a1) =
  ((F4 Tryz.prog lf a0)).bind fun r17 => ((F5 Tryz.prog lf a0)).bind fun r18 => ((F6 Tryz.prog lf a1)).bind fun r19 => ((F7 Tryz.prog lf a1)).bind fun r20 => jn (cond (!((ByteArray.toList r17.1) == (ByteArray.toList r18.1))) (some (.inl true)) (cond (!(decide (r17.2 = r18.2))) (some (.inl true)) (((F8 Tryz.prog lf (r19.1, r20.1))).bind fun r21 => cond (!r21) (some (.inl true)) (cond (!(decide (r19.2.1 = r20.2.1))) (some (.inl true)) (some (.inl (!(decide (r19.2.2 = r20.2.2))))))))) (fun y22 : Bool => cond y22 (some false) (cond (!(decide (r17.2 = (0 : Int)))) (some true) (((F6 Tryz.prog lf r17.1)).bind fun r23 => cond (decide (r23.2.2 = (0 : Int))) (((F8 Tryz.prog lf (r23.1, a0))).bind fun r24 => cond r24 (some true) (some false)) (some false)))) := by kernel_rfl
end Go.K
set_option linter.unusedVariables false
set_option maxRecDepth 100000
namespace Go.K
open Go.Sl Go.Sx Go.Proofs
noncomputable def G32 (lf : Nat) (x : (Int × (Int × Int))) : Option Bool := F32 Tryz.prog lf x
theorem G32_eq (lf : Nat) (a0 : Int) (a1 : Int) (a2 : Int) : G32 lf (a0, (a1, a2)) =
  cond (decide (a1 ≤ a0)) (some (decide (a0 ≤ a2))) (some false) := F32_eq lf a0 a1 a2
noncomputable def G10 (lf : Nat) (x : (List (Int × (Int × Int)))) : Option Int := F10 Tryz.prog lf x
theorem G10_eq (lf : Nat) (a0 : (List (Int × (Int × Int)))) : G10 lf a0 =
  ((G32 lf ((a0.length : Int), ((1 : Int), (40 : Int))))).bind fun r13 => cond (!r13) (some (11 : Int)) (iter lf (fun y14 : Int => cond (decide (y14 < (a0.length : Int))) (((getI a0 y14)).bind fun r15 => jn (((G32 lf (r15.1, ((0 : Int), (1000000 : Int))))).bind fun r16 => cond (!r16) (some (.inl true)) (cond (decide (r15.2.1 > r15.2.2)) (some (.inl true)) (cond (decide (r15.2.1 < (-1000000000 : Int))) (some (.inl true)) (cond (decide (r15.2.2 > (1000000000 : Int))) (some (.inl true)) (cond (decide (y14 > (0 : Int))) (((getI a0 (w64 (y14 - (1 : Int))))).bind fun r17 => some (.inl (decide (r17.1 ≥ r15.1)))) (some (.inl false))))))) (fun y18 : Bool => cond y18 (some (.inr (11 : Int))) (some (.inl (w64 (y14 + (1 : Int))))))) (some (.inr (0 : Int)))) (0 : Int)) := F10_eq lf a0
noncomputable def G4 (lf : Nat) (x : (List (Int × (Int × Int)))) : Option (ByteArray × Int) := F4 Tryz.prog lf x
theorem G4_eq (lf : Nat) (a0 : (List (Int × (Int × Int)))) : G4 lf a0 =
  ((G10 lf a0)).bind fun r72 => cond (!(decide (r72 = (0 : Int)))) (some ((bts []), r72)) (iter lf (fun y73 : (Int × (List Int)) => cond (decide (y73.1 < (a0.length : Int))) (((getI a0 y73.1)).bind fun r74 => ((itoaC r74.1)).bind fun r75 => ((catC r75 (bts [32]))).bind fun r76 => ((itoaC r74.2.1)).bind fun r77 => ((catC (r75 ++ (bts [32])) r77)).bind fun r78 => ((catC ((r75 ++ (bts [32])) ++ r77) (bts [32]))).bind fun r79 => ((itoaC r74.2.2)).bind fun r80 => ((catC (((r75 ++ (bts [32])) ++ r77) ++ (bts [32])) r80)).bind fun r81 => ((catC ((((r75 ++ (bts [32])) ++ r77) ++ (bts [32])) ++ r80) (bts [10]))).bind fun r82 => ((appC y73.2 (bytesI (((((r75 ++ (bts [32])) ++ r77) ++ (bts [32])) ++ r80) ++ (bts [10]))))).bind fun r83 => some (.inl ((w64 (y73.1 + (1 : Int))), r83))) (outR (((getI y73.2 (0 : Int))).bind fun r84 => ((getI y73.2 (0 : Int))).bind fun r85 => ((lenC (y73.2.length : Int) y73.2)).bind fun r86 => some ((strI y73.2), (0 : Int))))) ((0 : Int), ([] : List Int))) := F4_eq lf a0
noncomputable def G20 (lf : Nat) (x : (ByteArray × (Int × Bool))) : Option (Int ⊕ Int) := F20 Tryz.prog lf x
theorem G20_eq (lf : Nat) (a0 : ByteArray) (a1 : Int) (a2 : Bool) : G20 lf (a0, (a1, a2)) =
  jn (cond (cutPrefix a0 (bts [45])).2 (cond (!a2) (some (.inl true)) (cond ((ByteArray.toList (cutPrefix a0 (bts [45])).1) == [(UInt8.ofNat 48)]) (some (.inl true)) (cond ((ByteArray.toList (cutPrefix a0 (bts [45])).1) == ([] : List UInt8)) (some (.inl true)) (cond (decide (((cutPrefix a0 (bts [45])).1.size : Int) > (10 : Int))) (some (.inl true)) (((byteAt (cutPrefix a0 (bts [45])).1 (0 : Int))).bind fun r18 => cond (decide (r18 = (48 : Int))) (cond (!((ByteArray.toList (cutPrefix a0 (bts [45])).1) == [(UInt8.ofNat 48)])) (some (.inl true)) (((trimC (cutPrefix a0 (bts [45])).1 (bts [48, 49, 50, 51, 52, 53, 54, 55, 56, 57]))).bind fun r19 => some (.inl (!((ByteArray.toList r19) == ([] : List UInt8)))))) (((trimC (cutPrefix a0 (bts [45])).1 (bts [48, 49, 50, 51, 52, 53, 54, 55, 56, 57]))).bind fun r20 => some (.inl (!((ByteArray.toList r20) == ([] : List UInt8)))))))))) (cond ((ByteArray.toList (cutPrefix a0 (bts [45])).1) == ([] : List UInt8)) (some (.inl true)) (cond (decide (((cutPrefix a0 (bts [45])).1.size : Int) > (10 : Int))) (some (.inl true)) (((byteAt (cutPrefix a0 (bts [45])).1 (0 : Int))).bind fun r21 => cond (decide (r21 = (48 : Int))) (cond (!((ByteArray.toList (cutPrefix a0 (bts [45])).1) == [(UInt8.ofNat 48)])) (some (.inl true)) (((trimC (cutPrefix a0 (bts [45])).1 (bts [48, 49, 50, 51, 52, 53, 54, 55, 56, 57]))).bind fun r22 => some (.inl (!((ByteArray.toList r22) == ([] : List UInt8)))))) (((trimC (cutPrefix a0 (bts [45])).1 (bts [48, 49, 50, 51, 52, 53, 54, 55, 56, 57]))).bind fun r23 => some (.inl (!((ByteArray.toList r23) == ([] : List UInt8))))))))) (fun y24 : Bool => cond y24 (some (.inr a1)) (((atoiC a0)).bind fun r25 => some (.inl r25))) := F20_eq lf a0 a1 a2
noncomputable def G6 (lf : Nat) (x : ByteArray) : Option ((List (Int × (Int × Int))) × (Int × Int)) := F6 Tryz.prog lf x
theorem G6_eq (lf : Nat) (a0 : ByteArray) : G6 lf a0 =
  cond (decide ((a0.size : Int) > (8000 : Int))) (some (([] : List (Int × (Int × Int))), ((0 : Int), (2 : Int)))) (((splitC a0 (bts [10]))).bind fun r103 => jn (((getI r103 (w64 ((r103.length : Int) - (1 : Int))))).bind fun r104 => cond ((ByteArray.toList r104) == ([] : List UInt8)) (((subI r103 (0 : Int) (w64 ((r103.length : Int) - (1 : Int))))).bind fun r105 => some (.inl r105)) (some (.inl r103))) (fun y106 : (List ByteArray) => iter lf (fun y107 : (Int × (List (Int × (Int × Int)))) => cond (decide (y107.1 < (y106.length : Int))) (((getI y106 y107.1)).bind fun r108 => ((fieldsC (fun y109 : Nat => (isSp y109)) r108)).bind fun r110 => cond (decide ((r110.length : Int) = (0 : Int))) (some (.inl ((w64 (y107.1 + (1 : Int))), y107.2))) (((byteAt r108 (0 : Int))).bind fun r111 => cond (decide (r111 = (35 : Int))) (some (.inl ((w64 (y107.1 + (1 : Int))), y107.2))) (cond (!(decide ((r110.length : Int) = (3 : Int)))) (some (.inr (([] : List (Int × (Int × Int))), ((w64 (y107.1 + (1 : Int))), (12 : Int))))) (((getI r110 (0 : Int))).bind fun r112 => ((getI r110 (1 : Int))).bind fun r113 => ((getI r110 (2 : Int))).bind fun r114 => ((G20 lf (r112, ((w64 (y107.1 + (1 : Int))), false)))).bind fun r115 => sm r115 (fun r116 : Int => ((G20 lf (r113, ((w64 (y107.1 + (1 : Int))), true)))).bind fun r117 => sm r117 (fun r118 : Int => ((G20 lf (r114, ((w64 (y107.1 + (1 : Int))), true)))).bind fun r119 => sm r119 (fun r120 : Int => ((appC y107.2 [(r116, (r118, r120))])).bind fun r121 => some (.inl ((w64 (y107.1 + (1 : Int))), r121))) (fun r122 : Int => outR (agree (some (([] : List (Int × (Int × Int))), (r122, (12 : Int)))) (some (([] : List (Int × (Int × Int))), (r122, (12 : Int))))))) (fun r123 : Int => outR (agree (some (([] : List (Int × (Int × Int))), (r123, (12 : Int)))) (some (([] : List (Int × (Int × Int))), (r123, (12 : Int))))))) (fun r124 : Int => outR (agree (some (([] : List (Int × (Int × Int))), (r124, (12 : Int)))) (some (([] : List (Int × (Int × Int))), (r124, (12 : Int)))))))))) (outR (cond (decide ((y107.2.length : Int) = (0 : Int))) (some (([] : List (Int × (Int × Int))), ((w64 ((y106.length : Int) + (1 : Int))), (12 : Int)))) (((G10 lf y107.2)).bind fun r125 => cond (!(decide (r125 = (0 : Int)))) (some (([] : List (Int × (Int × Int))), ((0 : Int), r125))) (some (y107.2, ((0 : Int), (0 : Int)))))))) ((0 : Int), ([] : List (Int × (Int × Int)))))) := F6_eq lf a0
noncomputable def G14 (lf : Nat) (x : (List (Int × (Int × Int)))) : Option Bool := F14 Tryz.prog lf x
theorem G14_eq (lf : Nat) (a0 : (List (Int × (Int × Int)))) : G14 lf a0 =
  jn (cond (decide ((a0.length : Int) < (1 : Int))) (some (.inl true)) (some (.inl (decide ((a0.length : Int) > (40 : Int)))))) (fun y8 : Bool => cond y8 (some false) (iter lf (fun y9 : Int => cond (decide (y9 < (a0.length : Int))) (((getI a0 y9)).bind fun r10 => jn (cond (decide (r10.1 < (0 : Int))) (some (.inl true)) (cond (decide (r10.1 > (1000000 : Int))) (some (.inl true)) (cond (decide (y9 > (0 : Int))) (((getI a0 (w64 (y9 - (1 : Int))))).bind fun r11 => cond (decide (r11.1 ≥ r10.1)) (some (.inl true)) (cond (decide (r10.2.1 < (-1000000000 : Int))) (some (.inl true)) (cond (decide (r10.2.1 > r10.2.2)) (some (.inl true)) (some (.inl (decide (r10.2.2 > (1000000000 : Int)))))))) (cond (decide (r10.2.1 < (-1000000000 : Int))) (some (.inl true)) (cond (decide (r10.2.1 > r10.2.2)) (some (.inl true)) (some (.inl (decide (r10.2.2 > (1000000000 : Int)))))))))) (fun y12 : Bool => cond y12 (some (.inr false)) (some (.inl (w64 (y9 + (1 : Int))))))) (some (.inr true))) (0 : Int))) := F14_eq lf a0
noncomputable def G21 (lf : Nat) (x : ByteArray) : Option (List ByteArray) := F21 Tryz.prog lf x
theorem G21_eq (lf : Nat) (a0 : ByteArray) : G21 lf a0 =
  iter lf (fun y14 : ((List ByteArray) × (Int × Int)) => cond (decide (y14.2.2 < (a0.size : Int))) (((byteAt a0 y14.2.2)).bind fun r15 => cond (decide (r15 = (10 : Int))) (((cutC a0 y14.2.1 y14.2.2)).bind fun r16 => ((appC y14.1 [(ByteArray.extract a0 (Int.toNat y14.2.1) (Int.toNat y14.2.2))])).bind fun r17 => some (.inl (r17, ((w64 (y14.2.2 + (1 : Int))), (w64 (y14.2.2 + (1 : Int))))))) (some (.inl (y14.1, (y14.2.1, (w64 (y14.2.2 + (1 : Int)))))))) (outR (cond (decide (y14.2.1 < (a0.size : Int))) (((cutC a0 y14.2.1 (a0.size : Int))).bind fun r18 => ((appC y14.1 [(ByteArray.extract a0 (Int.toNat y14.2.1) (Int.toNat (a0.size : Int)))])).bind fun r19 => some r19) (some y14.1)))) (([] : List ByteArray), ((0 : Int), (0 : Int))) := F21_eq lf a0
noncomputable def G22 (lf : Nat) (x : ByteArray) : Option (List ByteArray) := F22 Tryz.prog lf x
theorem G22_eq (lf : Nat) (a0 : ByteArray) : G22 lf a0 =
  iter lf (fun y13 : (ByteArray × ((List ByteArray) × Int)) => cond (decide (y13.2.2 ≤ (a0.size : Int))) (jn (cond (decide (y13.2.2 < (a0.size : Int))) (((byteAt a0 y13.2.2)).bind fun r14 => some (.inl (!(decide (r14 = (32 : Int)))))) (some (.inl false))) (fun y15 : Bool => cond y15 (((cutC a0 y13.2.2 (w64 (y13.2.2 + (1 : Int))))).bind fun r16 => ((catC y13.1 (ByteArray.extract a0 (Int.toNat y13.2.2) (Int.toNat (w64 (y13.2.2 + (1 : Int))))))).bind fun r17 => some (.inl ((y13.1 ++ (ByteArray.extract a0 (Int.toNat y13.2.2) (Int.toNat (w64 (y13.2.2 + (1 : Int)))))), (y13.2.1, (w64 (y13.2.2 + (1 : Int))))))) (cond (!((ByteArray.toList y13.1) == ([] : List UInt8))) (((appC y13.2.1 [y13.1])).bind fun r18 => some (.inl ((bts []), (r18, (w64 (y13.2.2 + (1 : Int))))))) (some (.inl ((bts []), (y13.2.1, (w64 (y13.2.2 + (1 : Int)))))))))) (some (.inr y13.2.1))) ((bts []), (([] : List ByteArray), (0 : Int))) := F22_eq lf a0
noncomputable def G23 (lf : Nat) (x : (ByteArray × (Int × Bool))) : Option (Int × Bool) := F23 Tryz.prog lf x
theorem G23_eq (lf : Nat) (a0 : ByteArray) (a1 : Int) (a2 : Bool) : G23 lf (a0, (a1, a2)) =
  jn (jn (cond a2 (cond (decide ((a0.size : Int) > (1 : Int))) (((byteAt a0 (0 : Int))).bind fun r24 => cond (decide (r24 = (45 : Int))) (((byteAt a0 (1 : Int))).bind fun r25 => some (.inl (!(decide (r25 = (48 : Int)))))) (some (.inl false))) (some (.inl false))) (some (.inl false))) (fun y26 : Bool => cond y26 (((cutC a0 (1 : Int) (a0.size : Int))).bind fun r27 => some (.inl ((-1 : Int), (ByteArray.extract a0 1 (Int.toNat (a0.size : Int)))))) (some (.inl ((1 : Int), a0))))) (fun y28 : (Int × ByteArray) => jn (cond (decide ((y28.2.size : Int) < (1 : Int))) (some (.inl true)) (cond (decide ((y28.2.size : Int) > a1)) (some (.inl true)) (cond (decide ((y28.2.size : Int) > (1 : Int))) (((byteAt y28.2 (0 : Int))).bind fun r29 => some (.inl (decide (r29 = (48 : Int))))) (some (.inl false))))) (fun y30 : Bool => cond y30 (some ((0 : Int), false)) (iter lf (fun y31 : (Int × Int) => cond (decide (y31.2 < (y28.2.size : Int))) (jn (((byteAt y28.2 y31.2)).bind fun r32 => cond (decide (r32 < (48 : Int))) (some (.inl true)) (((byteAt y28.2 y31.2)).bind fun r33 => some (.inl (decide (r33 > (57 : Int)))))) (fun y34 : Bool => cond y34 (some (.inr ((0 : Int), false))) (((byteAt y28.2 y31.2)).bind fun r35 => some (.inl ((w64 ((w64 ((10 : Int) * y31.1)) + (w64 (Go.IntKind.wrap .u8 (r35 - (48 : Int)))))), (w64 (y31.2 + (1 : Int)))))))) (some (.inr ((w64 (y28.1 * y31.1)), true)))) ((0 : Int), (0 : Int))))) := F23_eq lf a0 a1 a2
noncomputable def G7 (lf : Nat) (x : ByteArray) : Option ((List (Int × (Int × Int))) × (Int × Int)) := F7 Tryz.prog lf x
theorem G7_eq (lf : Nat) (a0 : ByteArray) : G7 lf a0 =
  cond (decide ((a0.size : Int) > (8000 : Int))) (some (([] : List (Int × (Int × Int))), ((0 : Int), (2 : Int)))) (((G21 lf a0)).bind fun r50 => iter lf (fun y51 : (Int × (List (Int × (Int × Int)))) => cond (decide (y51.1 < (r50.length : Int))) (((getI r50 y51.1)).bind fun r52 => ((G22 lf r52)).bind fun r53 => cond (decide ((r53.length : Int) = (0 : Int))) (some (.inl ((w64 (y51.1 + (1 : Int))), y51.2))) (((byteAt r52 (0 : Int))).bind fun r54 => cond (decide (r54 = (35 : Int))) (some (.inl ((w64 (y51.1 + (1 : Int))), y51.2))) (cond (!(decide ((r53.length : Int) = (3 : Int)))) (some (.inr (([] : List (Int × (Int × Int))), ((w64 (y51.1 + (1 : Int))), (12 : Int))))) (((getI r53 (0 : Int))).bind fun r55 => ((G23 lf (r55, ((10 : Int), false)))).bind fun r56 => ((getI r53 (1 : Int))).bind fun r57 => ((G23 lf (r57, ((10 : Int), true)))).bind fun r58 => ((getI r53 (2 : Int))).bind fun r59 => ((G23 lf (r59, ((10 : Int), true)))).bind fun r60 => jn (cond (!r56.2) (some (.inl true)) (cond (!r58.2) (some (.inl true)) (some (.inl (!r60.2))))) (fun y61 : Bool => cond y61 (some (.inr (([] : List (Int × (Int × Int))), ((w64 (y51.1 + (1 : Int))), (12 : Int))))) (((appC y51.2 [(r56.1, (r58.1, r60.1))])).bind fun r62 => some (.inl ((w64 (y51.1 + (1 : Int))), r62)))))))) (outR (cond (decide ((y51.2.length : Int) = (0 : Int))) (some (([] : List (Int × (Int × Int))), ((w64 ((r50.length : Int) + (1 : Int))), (12 : Int)))) (((G14 lf y51.2)).bind fun r63 => cond (!r63) (some (([] : List (Int × (Int × Int))), ((0 : Int), (11 : Int)))) (some (y51.2, ((0 : Int), (0 : Int)))))))) ((0 : Int), ([] : List (Int × (Int × Int))))) := F7_eq lf a0
noncomputable def G8 (lf : Nat) (x : ((List (Int × (Int × Int))) × (List (Int × (Int × Int))))) : Option Bool := F8 Tryz.prog lf x
theorem G8_eq (lf : Nat) (a0 : (List (Int × (Int × Int)))) (a1 : (List (Int × (Int × Int)))) : G8 lf (a0, a1) =
  cond (!(decide ((a0.length : Int) = (a1.length : Int)))) (some false) (iter lf (fun y7 : Int => cond (decide (y7 < (a0.length : Int))) (((getI a0 y7)).bind fun r8 => ((getI a1 y7)).bind fun r9 => cond (!((decide (r8.1 = r9.1)) && ((decide (r8.2.1 = r9.2.1)) && ((decide (r8.2.2 = r9.2.2)) && true)))) (some (.inr false)) (some (.inl (w64 (y7 + (1 : Int)))))) (some (.inr true))) (0 : Int)) := F8_eq lf a0 a1
noncomputable def G15 (lf n : Nat) (x : Int) : Option ByteArray := F15 Tryz.prog lf n x
theorem G15_eq (lf n : Nat) (a0 : Int) : G15 lf (n + 1) a0 =
  cond (decide (a0 < (-9 : Int))) (agree (((G15 lf n (w64 (Int.tdiv a0 (10 : Int))))).bind fun r29 => ((catC r29 (strI [(Go.IntKind.wrap .u8 (w64 ((48 : Int) - (Int.tmod a0 (10 : Int)))))]))).bind fun r30 => some (r29 ++ (strI [(Go.IntKind.wrap .u8 (w64 ((48 : Int) - (Int.tmod a0 (10 : Int)))))]))) (((G15 lf n (w64 (Int.tdiv a0 (10 : Int))))).bind fun r31 => ((catC r31 (strI [(Go.IntKind.wrap .u8 (w64 ((48 : Int) - (Int.tmod a0 (10 : Int)))))]))).bind fun r32 => some (r31 ++ (strI [(Go.IntKind.wrap .u8 (w64 ((48 : Int) - (Int.tmod a0 (10 : Int)))))])))) (cond (decide (a0 < (0 : Int))) (((G15 lf n (w64 ((0 : Int) - a0)))).bind fun r33 => ((catC (bts [45]) r33)).bind fun r34 => some ((bts [45]) ++ r33)) (cond (decide (a0 < (10 : Int))) (some (strI [(Go.IntKind.wrap .u8 (w64 ((48 : Int) + a0)))])) (agree (((G15 lf n (w64 (Int.tdiv a0 (10 : Int))))).bind fun r35 => ((catC r35 (strI [(Go.IntKind.wrap .u8 (w64 ((48 : Int) + (Int.tmod a0 (10 : Int)))))]))).bind fun r36 => some (r35 ++ (strI [(Go.IntKind.wrap .u8 (w64 ((48 : Int) + (Int.tmod a0 (10 : Int)))))]))) (((G15 lf n (w64 (Int.tdiv a0 (10 : Int))))).bind fun r37 => ((catC r37 (strI [(Go.IntKind.wrap .u8 (w64 ((48 : Int) + (Int.tmod a0 (10 : Int)))))]))).bind fun r38 => some (r37 ++ (strI [(Go.IntKind.wrap .u8 (w64 ((48 : Int) + (Int.tmod a0 (10 : Int)))))])))))) := F15_eq lf n a0
noncomputable def G5 (lf : Nat) (x : (List (Int × (Int × Int)))) : Option (ByteArray × Int) := F5 Tryz.prog lf x
theorem G5_eq (lf : Nat) (a0 : (List (Int × (Int × Int)))) : G5 lf a0 =
  ((G14 lf a0)).bind fun r34 => cond (!r34) (some ((bts []), (11 : Int))) (iter lf (fun y35 : (ByteArray × Int) => cond (decide (y35.2 < (a0.length : Int))) (((getI a0 y35.2)).bind fun r36 => ((G15 lf lf r36.1)).bind fun r37 => ((catC r37 (bts [32]))).bind fun r38 => ((G15 lf lf r36.2.1)).bind fun r39 => ((catC (r37 ++ (bts [32])) r39)).bind fun r40 => ((catC ((r37 ++ (bts [32])) ++ r39) (bts [32]))).bind fun r41 => ((G15 lf lf r36.2.2)).bind fun r42 => ((catC (((r37 ++ (bts [32])) ++ r39) ++ (bts [32])) r42)).bind fun r43 => ((catC ((((r37 ++ (bts [32])) ++ r39) ++ (bts [32])) ++ r42) (bts [10]))).bind fun r44 => ((catC y35.1 (((((r37 ++ (bts [32])) ++ r39) ++ (bts [32])) ++ r42) ++ (bts [10])))).bind fun r45 => some (.inl ((y35.1 ++ (((((r37 ++ (bts [32])) ++ r39) ++ (bts [32])) ++ r42) ++ (bts [10]))), (w64 (y35.2 + (1 : Int)))))) (some (.inr (y35.1, (0 : Int))))) ((bts []), (0 : Int))) := F5_eq lf a0
noncomputable def G3 (lf : Nat) (x : ((List (Int × (Int × Int))) × ByteArray)) : Option Bool := F3 Tryz.prog lf x
theorem G3_eq (lf : Nat) (a0 : (List (Int × (Int × Int)))) (a1 : ByteArray) : G3 lf (a0, a1) =
  ((G4 lf a0)).bind fun r17 => ((G5 lf a0)).bind fun r18 => ((G6 lf a1)).bind fun r19 => ((G7 lf a1)).bind fun r20 => jn (cond (!((ByteArray.toList r17.1) == (ByteArray.toList r18.1))) (some (.inl true)) (cond (!(decide (r17.2 = r18.2))) (some (.inl true)) (((G8 lf (r19.1, r20.1))).bind fun r21 => cond (!r21) (some (.inl true)) (cond (!(decide (r19.2.1 = r20.2.1))) (some (.inl true)) (some (.inl (!(decide (r19.2.2 = r20.2.2))))))))) (fun y22 : Bool => cond y22 (some false) (cond (!(decide (r17.2 = (0 : Int)))) (some true) (((G6 lf r17.1)).bind fun r23 => cond (decide (r23.2.2 = (0 : Int))) (((G8 lf (r23.1, a0))).bind fun r24 => cond r24 (some true) (some false)) (some false)))) := F3_eq lf a0 a1
end Go.K
set_option linter.unusedVariables false
set_option linter.unusedSimpArgs false
namespace Go.K
open Go.Sl Go.Sx Go.Proofs
theorem w64_id {n : Int} (h1 : -9223372036854775808 ≤ n) (h2 : n ≤ 9223372036854775807) : w64 n = n := by
  unfold w64 IntKind.wrap
  simp [IntKind.bits, IntKind.signed]
  omega
theorem succ_w {i : Nat} (h : i < 4000000000) : w64 ((i : Int) + 1) = ((i + 1 : Nat) : Int) := by
  rw [w64_id (by omega) (by omega)]; omega
theorem pred_w {i : Nat} (h : i < 4000000000) (h0 : 0 < i) : w64 ((i : Int) - 1) = ((i - 1 : Nat) : Int) := by
  rw [w64_id (by omega) (by omega)]; omega
theorem getI_nat {α : Type} {xs : List α} {i : Nat} {x : α} (h : xs[i]? = some x) : getI xs (i : Int) = some x := by simp [getI, h]
theorem byteAt_nat {s : ByteArray} {i : Nat} {b : UInt8} (h : s.data.toList[i]? = some b) : byteAt s (i : Int) = some ((b.toNat : Nat) : Int) := by
  unfold byteAt
  rw [if_pos (by omega)]
  have : s[(i : Int).toNat]? = some b := by
    show s[i]? = some b
    have hlt : i < s.data.size := by
      have := (List.getElem?_eq_some_iff.1 h).1
      simpa using this
    rw [getElem?_pos s i hlt]
    have h2 := (List.getElem?_eq_some_iff.1 h).2
    rw [← h2]; simp; rfl
  rw [this]; rfl
theorem size_len (s : ByteArray) : s.size = s.data.toList.length := by simp
theorem eqL' (s : ByteArray) (l : List UInt8) : (ByteArray.toList s == l) = decide (s.data.toList = l) := by
  rw [Lib.toList_data]
  by_cases h : s.data.toList = l <;> simp [h]
theorem ofL_data (l : List UInt8) : (⟨l.toArray⟩ : ByteArray).data.toList = l := by simp
theorem app_data (s t : ByteArray) : (s ++ t).data.toList = s.data.toList ++ t.data.toList := by
  simp [ByteArray.data_append]
theorem ext_data {s t : ByteArray} (h : s.data.toList = t.data.toList) : s = t := by
  obtain ⟨⟨a⟩⟩ := s; obtain ⟨⟨b⟩⟩ := t
  simp at h; rw [h]
theorem catC_of {s t : ByteArray} (h : s.size + t.size ≤ 9223372036854775807) : catC s t = some () := by unfold catC; rw [if_pos h]
theorem cutC_of {s : ByteArray} {a b : Int} (h : 0 ≤ a ∧ a ≤ b ∧ b ≤ (s.size : Int)) : cutC s a b = some () := by unfold cutC; rw [if_pos h]
theorem appC_of {α : Type} {xs ys : List α} (h : xs.length + ys.length ≤ 1099511627776) : appC xs ys = some (xs ++ ys) := by unfold appC; rw [if_pos h]
theorem lenC_of {α : Type} (xs : List α) : lenC (xs.length : Int) xs = some () := by unfold lenC; rw [if_pos rfl]
theorem strI_go : ∀ (l : List Int) (acc : ByteArray), (l.foldl (fun r n => r.push (UInt8.ofNat n.toNat)) acc).data.toList = acc.data.toList ++ l.map fun n => UInt8.ofNat n.toNat
  | [], acc => by simp
  | x :: l, acc => by
    rw [List.foldl_cons, strI_go l]
    simp [ByteArray.push]
theorem strI_data (l : List Int) : (strI l).data.toList = l.map fun n => UInt8.ofNat n.toNat := by
  unfold strI; rw [strI_go]; simp
theorem bytesI_back (s : ByteArray) : (bytesI s).map (fun n => UInt8.ofNat n.toNat) = s.data.toList := by
  unfold bytesI
  rw [List.map_map]
  have : ((fun n : Int => UInt8.ofNat n.toNat) ∘ fun b : UInt8 => ((b.toNat : Nat) : Int)) = id := by
    funext b; simp
  rw [this]; simp
def foldS {σ A ρ : Type} (step : σ → Nat → A → A ⊕ ρ) : List σ → Nat → A → A ⊕ ρ
  | [], _, a => .inl a
  | x :: r, i, a => match step x i a with
    | .inl a' => foldS step r (i + 1) a'
    | .inr e => .inr e
theorem iter_foldS {σ A α ρ : Type} {f : α → Option (α ⊕ ρ)} (mk : Int → A → α) (step : σ → Nat → A → A ⊕ ρ) (good : Nat → A → Prop) (all : List σ) (fin : A → ρ)
    (h1 : ∀ i x a, all[i]? = some x → good i a → f (mk (i : Nat) a) = some (match step x i a with | .inl a' => .inl (mk ((i + 1 : Nat) : Int) a') | .inr e => .inr e))
    (hg : ∀ i x a a', all[i]? = some x → good i a → step x i a = .inl a' → good (i + 1) a')
    (h2 : ∀ a, good all.length a → f (mk (all.length : Nat) a) = some (.inr (fin a))) :
    ∀ (k i : Nat) (a : A) (lf : Nat), i + k = all.length → k < lf → good i a → iter lf f (mk (i : Nat) a) = some (match foldS step (all.drop i) i a with | .inl a' => fin a' | .inr e => e)
  | 0, i, a, lf + 1, hk, hlf, hgd => by
    have hi : i = all.length := by omega
    subst hi
    simp only [iter, h2 a hgd, List.drop_length, foldS]
  | k + 1, i, a, lf + 1, hk, hlf, hgd => by
    have hlt : i < all.length := by omega
    have hx : all[i]? = some all[i] := List.getElem?_eq_getElem hlt
    simp only [iter, h1 i _ a hx hgd]
    rw [List.drop_eq_getElem_cons hlt]
    simp only [foldS]
    cases hs : step all[i] i a with
    | inl a' =>
      simp only
      exact iter_foldS mk step good all fin h1 hg h2 k (i + 1) a' lf (by omega) (by omega) (hg i _ a a' hx hgd hs)
    | inr e => rfl
  | _, _, _, 0, _, hlf, _ => by omega
theorem iter_all {σ A α ρ : Type} {f : α → Option (α ⊕ ρ)} (mk : Int → A → α) (step : σ → Nat → A → A ⊕ ρ) (good : Nat → A → Prop) (all : List σ) (fin : A → ρ) (a : A) (lf : Nat)
    (h1 : ∀ i x a, all[i]? = some x → good i a → f (mk (i : Nat) a) = some (match step x i a with | .inl a' => .inl (mk ((i + 1 : Nat) : Int) a') | .inr e => .inr e))
    (hg : ∀ i x a a', all[i]? = some x → good i a → step x i a = .inl a' → good (i + 1) a')
    (h2 : ∀ a, good all.length a → f (mk (all.length : Nat) a) = some (.inr (fin a))) (hlf : all.length < lf) (h0 : good 0 a) :
    iter lf f (mk 0 a) = some (match foldS step all 0 a with | .inl a' => fin a' | .inr e => e) := by
  have := iter_foldS mk step good all fin h1 hg h2 all.length 0 a lf (by omega) hlf h0
  simpa using this
end Go.K
set_option linter.unusedVariables false
set_option linter.unusedSimpArgs false
namespace Go.K
open Go.Sl Go.Sx Go.Proofs
abbrev T3 := Int × (Int × Int)
def okA (t : List T3) (p : T3) (i : Nat) : Bool :=
  decide (0 ≤ p.1 ∧ p.1 ≤ 1000000 ∧ p.2.1 ≤ p.2.2 ∧ -1000000000 ≤ p.2.1 ∧ p.2.2 ≤ 1000000000 ∧ (i = 0 ∨ (t.getD (i - 1) (0, 0, 0)).1 < p.1))
def okS {ρ : Type} (bad : ρ) (t : List T3) (p : T3) (i : Nat) (_ : Unit) : Unit ⊕ ρ := if okA t p i then .inl () else .inr bad
def isL {α β : Type} : α ⊕ β → Bool | .inl _ => true | .inr _ => false
def vt (t : List T3) : Bool := decide (1 ≤ t.length ∧ t.length ≤ 40) && isL (foldS (okS () t) t 0 ())
theorem okS_fold {ρ : Type} (bad : ρ) (t : List T3) : ∀ (l : List T3) (i : Nat), foldS (okS bad t) l i () = if isL (foldS (okS () t) l i ()) then .inl () else .inr bad
  | [], i => rfl
  | p :: l, i => by
    simp only [foldS, okS]
    by_cases h : okA t p i = true
    · simp only [h, if_true]; exact okS_fold bad t l (i + 1)
    · simp only [h, if_false]; rfl
theorem prev_get {t : List T3} {i : Nat} (h : i < t.length) (h0 : 0 < i) (hl : t.length ≤ 40) : getI t (w64 ((i : Int) - 1)) = some (t.getD (i - 1) (0, 0, 0)) := by
  rw [pred_w (by omega) h0]
  refine getI_nat ?_
  rw [List.getD_eq_getElem?_getD, List.getElem?_eq_getElem (show i - 1 < t.length by omega)]; rfl
theorem cond_if {α : Type} (p : Prop) [Decidable p] (a b : α) : cond (decide p) a b = if p then a else b := by
  by_cases h : p <;> simp [h]
theorem G10_vt (lf : Nat) (hlf : 41 < lf) (t : List T3) : G10 lf t = some (if vt t then 0 else 11) := by
  rw [G10_eq]
  rw [G32_eq]
  by_cases hl : 1 ≤ t.length ∧ t.length ≤ 40
  · have e1 : decide ((1 : Int) ≤ (t.length : Int)) = true := decide_eq_true (by omega)
    have e2 : decide ((t.length : Int) ≤ (40 : Int)) = true := decide_eq_true (by omega)
    simp only [e1, e2, cond_true, Option.bind_some, Bool.not_true, cond_false]
    refine Eq.trans (iter_all (fun (i : Int) (_ : Unit) => i) (okS (11 : Int) t) (fun _ _ => True) t (fun _ => (0 : Int)) () lf ?h1 (fun _ _ _ _ _ _ _ => trivial) ?h2 (by omega) trivial) ?_
    case h1 =>
      intro i x a hx _
      have hi := (List.getElem?_eq_some_iff.1 hx).1
      have hi' : decide ((i : Int) < (t.length : Int)) = true := decide_eq_true (by omega)
      simp only [hi', cond_true, getI_nat hx, Option.bind_some, G32_eq, okS, cond_if]
      by_cases h0 : 0 < i
      · have h0' : (i : Int) > 0 := by omega
        simp only [prev_get hi h0 hl.2, Option.bind_some, h0', if_true, succ_w (show i < 4000000000 by omega)]
        have hT : ∀ (_ : 0 ≤ x.1 ∧ x.1 ≤ 1000000 ∧ x.2.1 ≤ x.2.2 ∧ -1000000000 ≤ x.2.1 ∧ x.2.2 ≤ 1000000000 ∧ (i = 0 ∨ (t.getD (i - 1) (0, 0, 0)).1 < x.1)), okA t x i = true := fun h => decide_eq_true h
        have hF : ∀ (_ : ¬ (0 ≤ x.1 ∧ x.1 ≤ 1000000 ∧ x.2.1 ≤ x.2.2 ∧ -1000000000 ≤ x.2.1 ∧ x.2.2 ≤ 1000000000 ∧ (i = 0 ∨ (t.getD (i - 1) (0, 0, 0)).1 < x.1))), okA t x i = false := fun h => decide_eq_false h
        revert hT hF
        generalize t.getD (i - 1) (0, 0, 0) = q
        intro hT hF
        by_cases c1 : 0 ≤ x.1 <;> by_cases c2 : x.1 ≤ 1000000 <;> by_cases c3 : x.2.1 > x.2.2 <;> by_cases c4 : x.2.1 < -1000000000 <;> by_cases c5 : x.2.2 > 1000000000 <;> by_cases c6 : q.1 ≥ x.1 <;>
          (simp only [*, if_true, if_false, cond_true, cond_false, Option.bind_some, jn, Bool.not_true, Bool.not_false, decide_true, decide_false]
           first | (rw [hT (by omega)]; rfl) | (rw [hF (by omega)]; rfl))
      · have hz : i = 0 := by omega
        subst hz
        have hT : ∀ (_ : 0 ≤ x.1 ∧ x.1 ≤ 1000000 ∧ x.2.1 ≤ x.2.2 ∧ -1000000000 ≤ x.2.1 ∧ x.2.2 ≤ 1000000000), okA t x 0 = true := fun h => decide_eq_true ⟨h.1, h.2.1, h.2.2.1, h.2.2.2.1, h.2.2.2.2, .inl rfl⟩
        have hF : ∀ (_ : ¬ (0 ≤ x.1 ∧ x.1 ≤ 1000000 ∧ x.2.1 ≤ x.2.2 ∧ -1000000000 ≤ x.2.1 ∧ x.2.2 ≤ 1000000000)), okA t x 0 = false := fun h => decide_eq_false fun k => h ⟨k.1, k.2.1, k.2.2.1, k.2.2.2.1, k.2.2.2.2.1⟩
        simp only [show ¬ (((0 : Nat) : Int) > 0) by omega, if_false, succ_w (show 0 < 4000000000 by omega)]
        by_cases c1 : 0 ≤ x.1 <;> by_cases c2 : x.1 ≤ 1000000 <;> by_cases c3 : x.2.1 > x.2.2 <;> by_cases c4 : x.2.1 < -1000000000 <;> by_cases c5 : x.2.2 > 1000000000 <;>
          (simp only [*, if_true, if_false, cond_true, cond_false, Option.bind_some, jn, Bool.not_true, Bool.not_false, decide_true, decide_false]
           first | (rw [hT (by omega)]; rfl) | (rw [hF (by omega)]; rfl))
    case h2 =>
      intro a _
      simp
    · rw [okS_fold]
      unfold vt
      rw [decide_eq_true hl, Bool.true_and]
      cases isL (foldS (okS () t) t 0 ()) <;> rfl
  · have : vt t = false := by unfold vt; rw [decide_eq_false hl]; rfl
    rw [this]
    by_cases h1 : 1 ≤ t.length
    · have e1 : decide ((1 : Int) ≤ (t.length : Int)) = true := decide_eq_true (by omega)
      have e2 : decide ((t.length : Int) ≤ (40 : Int)) = false := decide_eq_false (by omega)
      simp [e1, e2]
    · have e1 : decide ((1 : Int) ≤ (t.length : Int)) = false := decide_eq_false (by omega)
      simp [e1]
theorem G14_vt (lf : Nat) (hlf : 41 < lf) (t : List T3) : G14 lf t = some (vt t) := by
  rw [G14_eq]
  by_cases hl : 1 ≤ t.length ∧ t.length ≤ 40
  · have e1 : decide ((t.length : Int) < (1 : Int)) = false := decide_eq_false (by omega)
    have e2 : decide ((t.length : Int) > (40 : Int)) = false := decide_eq_false (by omega)
    simp only [e1, e2, cond_false, jn]
    refine Eq.trans (iter_all (fun (i : Int) (_ : Unit) => i) (okS (false) t) (fun _ _ => True) t (fun _ => (true)) () lf ?h1 (fun _ _ _ _ _ _ _ => trivial) ?h2 (by omega) trivial) ?_
    case h1 =>
      intro i x a hx _
      have hi := (List.getElem?_eq_some_iff.1 hx).1
      have hi' : decide ((i : Int) < (t.length : Int)) = true := decide_eq_true (by omega)
      simp only [hi', cond_true, getI_nat hx, Option.bind_some, okS, cond_if]
      by_cases h0 : 0 < i
      · have h0' : (i : Int) > 0 := by omega
        simp only [prev_get hi h0 hl.2, Option.bind_some, h0', if_true, succ_w (show i < 4000000000 by omega)]
        have hT : ∀ (_ : 0 ≤ x.1 ∧ x.1 ≤ 1000000 ∧ x.2.1 ≤ x.2.2 ∧ -1000000000 ≤ x.2.1 ∧ x.2.2 ≤ 1000000000 ∧ (i = 0 ∨ (t.getD (i - 1) (0, 0, 0)).1 < x.1)), okA t x i = true := fun h => decide_eq_true h
        have hF : ∀ (_ : ¬ (0 ≤ x.1 ∧ x.1 ≤ 1000000 ∧ x.2.1 ≤ x.2.2 ∧ -1000000000 ≤ x.2.1 ∧ x.2.2 ≤ 1000000000 ∧ (i = 0 ∨ (t.getD (i - 1) (0, 0, 0)).1 < x.1))), okA t x i = false := fun h => decide_eq_false h
        revert hT hF
        generalize t.getD (i - 1) (0, 0, 0) = q
        intro hT hF
        by_cases c1 : x.1 < 0 <;> by_cases c2 : x.1 > 1000000 <;> by_cases c3 : x.2.1 > x.2.2 <;> by_cases c4 : x.2.1 < -1000000000 <;> by_cases c5 : x.2.2 > 1000000000 <;> by_cases c6 : q.1 ≥ x.1 <;>
          (simp only [*, if_true, if_false, cond_true, cond_false, Option.bind_some, jn, Bool.not_true, Bool.not_false, decide_true, decide_false]
           first | (rw [hT (by omega)]; rfl) | (rw [hF (by omega)]; rfl))
      · have hz : i = 0 := by omega
        subst hz
        have hT : ∀ (_ : 0 ≤ x.1 ∧ x.1 ≤ 1000000 ∧ x.2.1 ≤ x.2.2 ∧ -1000000000 ≤ x.2.1 ∧ x.2.2 ≤ 1000000000), okA t x 0 = true := fun h => decide_eq_true ⟨h.1, h.2.1, h.2.2.1, h.2.2.2.1, h.2.2.2.2, .inl rfl⟩
        have hF : ∀ (_ : ¬ (0 ≤ x.1 ∧ x.1 ≤ 1000000 ∧ x.2.1 ≤ x.2.2 ∧ -1000000000 ≤ x.2.1 ∧ x.2.2 ≤ 1000000000)), okA t x 0 = false := fun h => decide_eq_false fun k => h ⟨k.1, k.2.1, k.2.2.1, k.2.2.2.1, k.2.2.2.2.1⟩
        simp only [show ¬ (((0 : Nat) : Int) > 0) by omega, if_false, succ_w (show 0 < 4000000000 by omega)]
        by_cases c1 : x.1 < 0 <;> by_cases c2 : x.1 > 1000000 <;> by_cases c3 : x.2.1 > x.2.2 <;> by_cases c4 : x.2.1 < -1000000000 <;> by_cases c5 : x.2.2 > 1000000000 <;>
          (simp only [*, if_true, if_false, cond_true, cond_false, Option.bind_some, jn, Bool.not_true, Bool.not_false, decide_true, decide_false]
           first | (rw [hT (by omega)]; rfl) | (rw [hF (by omega)]; rfl))
    case h2 =>
      intro a _
      simp
    · rw [okS_fold]
      unfold vt
      rw [decide_eq_true hl, Bool.true_and]
      cases isL (foldS (okS () t) t 0 ()) <;> rfl
  · have : vt t = false := by unfold vt; rw [decide_eq_false hl]; rfl
    rw [this]
    by_cases h1 : 1 ≤ t.length
    · have e1 : decide ((t.length : Int) < (1 : Int)) = false := decide_eq_false (by omega)
      have e2 : decide ((t.length : Int) > (40 : Int)) = true := decide_eq_true (by omega)
      simp [e1, e2, jn]
    · have e1 : decide ((t.length : Int) < (1 : Int)) = true := decide_eq_true (by omega)
      simp [e1, jn]
end Go.K
set_option linter.unusedVariables false
set_option linter.unusedSimpArgs false
namespace Go.K
open Go.Sl Go.Sx Go.Proofs
def It (n : Int) : ByteArray := ⟨(Lib.itoa n).toArray⟩
theorem dec_small {u : Nat} (h : u < 10) : Lib.decDigits u = [UInt8.ofNat (48 + u)] := by rw [Lib.decDigits, dif_pos h]
theorem dec_big {u : Nat} (h : ¬ u < 10) : Lib.decDigits u = Lib.decDigits (u / 10) ++ [UInt8.ofNat (48 + u % 10)] := by rw [Lib.decDigits, dif_neg h]
theorem dec_len : ∀ (u : Nat), 1 ≤ (Lib.decDigits u).length ∧ (Lib.decDigits u).length ≤ u + 1 := by
  intro u
  induction u using Nat.strongRecOn with
  | _ u ih =>
    by_cases h : u < 10
    · rw [dec_small h]; simp
    · rw [dec_big h]
      have := ih (u / 10) (by omega)
      simp only [List.length_append, List.length_singleton]
      omega
theorem wrap8 {n : Int} (h : 0 ≤ n ∧ n < 256) : Go.IntKind.wrap .u8 n = n := by
  unfold Go.IntKind.wrap
  simp [IntKind.bits, IntKind.signed]
  omega
theorem dig_one {d : Nat} (h : d < 10) : strI [Go.IntKind.wrap .u8 (w64 ((48 : Int) + (d : Int)))] = ⟨[UInt8.ofNat (48 + d)].toArray⟩ := by
  rw [w64_id (by omega) (by omega), wrap8 (by omega)]
  apply ext_data
  rw [strI_data, ofL_data]
  have : ((48 : Int) + (d : Int)).toNat = 48 + d := by omega
  simp [this]
theorem cat_of (a b : List UInt8) (h : a.length + b.length ≤ 9223372036854775807) : catC ⟨a.toArray⟩ ⟨b.toArray⟩ = some () := catC_of (by
  rw [size_len, size_len]; simpa using h)
theorem app_L (a b : List UInt8) : (⟨a.toArray⟩ : ByteArray) ++ ⟨b.toArray⟩ = ⟨(a ++ b).toArray⟩ := by
  apply ext_data; rw [app_data]
theorem G15_pos (lf : Nat) : ∀ (k u : Nat), u < 10 ^ (k + 1) → u < 10000000000 → G15 lf (k + 1) (u : Int) = some ⟨(Lib.decDigits u).toArray⟩
  | k, u, h1, h2 => by
    rw [G15_eq]
    have c1 : ¬ ((u : Int) < -9) := by omega
    have c2 : ¬ ((u : Int) < 0) := by omega
    simp only [cond_if, c1, c2, if_false]
    by_cases h : u < 10
    · have c3 : (u : Int) < 10 := by omega
      simp only [c3, if_true]
      rw [dig_one h, dec_small h]
    · have c3 : ¬ (u : Int) < 10 := by omega
      simp only [c3, if_false, agree_self]
      cases k with
      | zero => omega
      | succ k =>
        have e1 : w64 (Int.tdiv (u : Int) 10) = ((u / 10 : Nat) : Int) := by
          rw [show Int.tdiv (u : Int) 10 = ((u / 10 : Nat) : Int) from rfl, w64_id (by omega) (by omega)]
        have e2 : Int.tmod (u : Int) 10 = ((u % 10 : Nat) : Int) := rfl
        have hp : 10 ^ (k + 1 + 1) = 10 ^ (k + 1) * 10 := Nat.pow_succ ..
        rw [e1, e2, G15_pos lf k (u / 10) (by omega) (by omega), dig_one (Nat.mod_lt _ (by decide)), dec_big h]
        have := (dec_len (u / 10)).2
        simp only [Option.bind_some, cat_of _ _ (show (Lib.decDigits (u / 10)).length + [UInt8.ofNat (48 + u % 10)].length ≤ 9223372036854775807 by simp; omega), app_L]
theorem G15_neg (lf : Nat) : ∀ (k u : Nat), 1 ≤ u → u < 10 ^ (k + 1) → u < 10000000000 → G15 lf (k + 2) (-(u : Int)) = some ⟨(45 :: Lib.decDigits u).toArray⟩
  | k, u, h0, h1, h2 => by
    rw [G15_eq]
    by_cases h : u < 10
    · have c1 : ¬ (-(u : Int) < -9) := by omega
      have c2 : -(u : Int) < 0 := by omega
      have e : w64 ((0 : Int) - -(u : Int)) = (u : Int) := by rw [w64_id (by omega) (by omega)]; omega
      simp only [cond_if, c1, c2, if_false, if_true, e]
      rw [G15_pos lf k u h1 h2]
      have := (dec_len u).2
      have hb : bts [45] = ⟨[(45 : UInt8)].toArray⟩ := rfl
      rw [hb]
      simp only [Option.bind_some, cat_of _ _ (show [(45 : UInt8)].length + (Lib.decDigits u).length ≤ 9223372036854775807 by simp; omega), app_L]
      rfl
    · have c1 : -(u : Int) < -9 := by omega
      simp only [cond_if, c1, if_true, agree_self]
      cases k with
      | zero => omega
      | succ k =>
        have e1 : w64 (Int.tdiv (-(u : Int)) 10) = -((u / 10 : Nat) : Int) := by
          rw [Int.neg_tdiv, show Int.tdiv (u : Int) 10 = ((u / 10 : Nat) : Int) from rfl, w64_id (by omega) (by omega)]
        have e2 : (48 : Int) - Int.tmod (-(u : Int)) 10 = (48 : Int) + ((u % 10 : Nat) : Int) := by
          rw [Int.neg_tmod, show Int.tmod (u : Int) 10 = ((u % 10 : Nat) : Int) from rfl]; omega
        have hp : 10 ^ (k + 1 + 1) = 10 ^ (k + 1) * 10 := Nat.pow_succ ..
        rw [e1, e2, G15_neg lf k (u / 10) (by omega) (by omega) (by omega), dig_one (Nat.mod_lt _ (by decide)), dec_big h]
        have := (dec_len (u / 10)).2
        simp only [Option.bind_some, cat_of _ _ (show (45 :: Lib.decDigits (u / 10)).length + [UInt8.ofNat (48 + u % 10)].length ≤ 9223372036854775807 by simp; omega), app_L]
        rfl
theorem G15_it (lf m : Nat) (hm : 12 ≤ m) {n : Int} (h : -1000000000 ≤ n ∧ n ≤ 1000000000) : G15 lf m n = some (It n) := by
  obtain ⟨k, rfl⟩ : ∃ k, m = k + 2 := ⟨m - 2, by omega⟩
  have hp : 10 ^ 10 ≤ 10 ^ (k + 1) * 10 ^ 0 := by
    rw [Nat.pow_zero, Nat.mul_one]; exact Nat.pow_le_pow_right (by decide) (by omega)
  simp only [Nat.pow_zero, Nat.mul_one] at hp
  have e10 : 10 ^ 10 = 10000000000 := by decide
  have hp2 : 10 ^ (k + 1 + 1) = 10 ^ (k + 1) * 10 := Nat.pow_succ ..
  unfold It Lib.itoa
  by_cases hn : n < 0
  · rw [if_pos hn]
    obtain ⟨u, hu⟩ : ∃ u : Nat, n = -(u : Int) := ⟨n.natAbs, by omega⟩
    subst hu
    have : (-(u : Int)).natAbs = u := by omega
    rw [this]
    exact G15_neg lf k u (by omega) (by omega) (by omega)
  · rw [if_neg hn]
    obtain ⟨u, hu⟩ : ∃ u : Nat, n = (u : Int) := ⟨n.toNat, by omega⟩
    subst hu
    exact G15_pos lf (k + 1) u (by omega) (by omega)
theorem itoaC_it {n : Int} (h : -1000000000 ≤ n ∧ n ≤ 1000000000) : itoaC n = some (It n) := by
  unfold itoaC It; rw [if_pos (by omega)]
theorem it_len {n : Int} (h : -1000000000 ≤ n ∧ n ≤ 1000000000) : 1 ≤ (It n).size ∧ (It n).size ≤ 1000000002 := by
  rw [size_len]
  unfold It
  rw [ofL_data]
  unfold Lib.itoa
  have h1 := dec_len n.natAbs
  have h2 := dec_len n.toNat
  split
  · simp only [List.length_cons]; omega
  · omega
def Ln (p : T3) : ByteArray := ((((It p.1 ++ bts [32]) ++ It p.2.1) ++ bts [32]) ++ It p.2.2) ++ bts [10]
end Go.K
set_option linter.unusedVariables false
set_option linter.unusedSimpArgs false
namespace Go.K
open Go.Sl Go.Sx Go.Proofs
theorem okS_all (t : List T3) : ∀ (l : List T3) (i : Nat), isL (foldS (okS () t) l i ()) = true → ∀ j p, l[j]? = some p → okA t p (i + j) = true
  | [], i, _, j, p, hj => by simp at hj
  | q :: l, i, h, j, p, hj => by
    simp only [foldS, okS] at h
    by_cases hq : okA t q i = true
    · simp only [hq, if_true] at h
      cases j with
      | zero => simp at hj; subst hj; exact hq
      | succ j =>
        have := okS_all t l (i + 1) h j p (by simpa using hj)
        rwa [show i + 1 + j = i + (j + 1) by omega] at this
    · simp only [hq, if_false] at h
      simp [isL] at h
theorem vt_all {t : List T3} (h : vt t = true) : (1 ≤ t.length ∧ t.length ≤ 40) ∧ ∀ {i : Nat} {p : T3}, t[i]? = some p → 0 ≤ p.1 ∧ p.1 ≤ 1000000 ∧ p.2.1 ≤ p.2.2 ∧ -1000000000 ≤ p.2.1 ∧ p.2.2 ≤ 1000000000 := by
  unfold vt at h
  simp only [Bool.and_eq_true, decide_eq_true_eq] at h
  refine ⟨h.1, fun {i} {p} hp => ?_⟩
  have := okS_all t t 0 h.2 i p hp
  have := of_decide_eq_true this
  exact ⟨this.1, this.2.1, this.2.2.1, this.2.2.2.1, this.2.2.2.2.1⟩
theorem fold_app {σ α ρ : Type} (g : σ → List α) : ∀ (l : List σ) (i : Nat) (a : List α), foldS (ρ := ρ) (fun p _ a => .inl (a ++ g p)) l i a = .inl (a ++ l.flatMap g)
  | [], i, a => by simp [foldS]
  | p :: l, i, a => by simp only [foldS]; rw [fold_app g l]; simp
theorem fold_appB {σ ρ : Type} (g : σ → ByteArray) : ∀ (l : List σ) (i : Nat) (a : ByteArray), ∃ r, foldS (ρ := ρ) (fun p _ a => .inl (a ++ g p)) l i a = .inl r ∧ r.data.toList = a.data.toList ++ l.flatMap fun p => (g p).data.toList
  | [], i, a => ⟨a, rfl, by simp⟩
  | p :: l, i, a => by
    obtain ⟨r, h1, h2⟩ := fold_appB g l (i + 1) (a ++ g p)
    exact ⟨r, h1, by rw [h2, app_data]; simp⟩
theorem size_app (s t : ByteArray) : (s ++ t).size = s.size + t.size := by
  rw [size_len, size_len, size_len, app_data, List.length_append]
theorem bts_size (l : List Nat) : (bts l).size = l.length := by rw [size_len]; simp [bts]
def PB (p : T3) : Prop := 0 ≤ p.1 ∧ p.1 ≤ 1000000 ∧ p.2.1 ≤ p.2.2 ∧ -1000000000 ≤ p.2.1 ∧ p.2.2 ≤ 1000000000
theorem ln_size {p : T3} (h : PB p) : 1 ≤ (Ln p).size ∧ (Ln p).size ≤ 3000000010 := by
  obtain ⟨h1, h2, h3, h4, h5⟩ := h
  have a1 := it_len (n := p.1) (by omega)
  have a2 := it_len (n := p.2.1) (by omega)
  have a3 := it_len (n := p.2.2) (by omega)
  unfold Ln
  simp only [size_app, bts_size, List.length_singleton]
  omega
def Pr (t : List T3) : List UInt8 := t.flatMap fun p => (Ln p).data.toList
theorem G4_pr (lf : Nat) (hlf : 41 < lf) (t : List T3) : G4 lf t = if vt t then (some (⟨(Pr t).toArray⟩, 0)) else some (bts [], 11) := by
  rw [G4_eq, G10_vt lf hlf]
  cases hv : vt t with
  | false => rfl
  | true =>
    obtain ⟨hl, hall⟩ := vt_all hv
    simp only [if_true, Option.bind_some, decide_true, Bool.not_true, cond_false]
    refine Eq.trans (iter_all (ρ := ByteArray × Int) (fun (i : Int) (a : List Int) => (i, a)) (fun p _ a => .inl (a ++ bytesI (Ln p))) (fun i a => a.length ≤ i * 3000000010 ∧ (0 < i → a ≠ [])) t (fun a => (strI a, 0)) [] lf ?h1 ?hg ?h2 (by omega) ⟨by simp, by omega⟩) ?_
    case h1 =>
      intro i x a hx hgd
      have hi := (List.getElem?_eq_some_iff.1 hx).1
      have hi' : decide ((i : Int) < (t.length : Int)) = true := decide_eq_true (by omega)
      have hb := hall hx
      obtain ⟨b1, b2, b3, b4, b5⟩ := hb
      have a1 := it_len (n := x.1) (by omega)
      have a2 := it_len (n := x.2.1) (by omega)
      have a3 := it_len (n := x.2.2) (by omega)
      have hln := ln_size (p := x) ⟨b1, b2, b3, b4, b5⟩
      have s1 := bts_size [32]
      have s2 := bts_size [10]
      simp only [List.length_singleton] at s1 s2
      simp only [hi', cond_true, getI_nat hx, Option.bind_some, itoaC_it (n := x.1) (by omega), itoaC_it (n := x.2.1) (by omega), itoaC_it (n := x.2.2) (by omega)]
      rw [catC_of (s := It x.1) (t := bts [32]) (by omega)]
      simp only [Option.bind_some]
      rw [catC_of (s := It x.1 ++ bts [32]) (t := It x.2.1) (by rw [size_app]; omega)]
      simp only [Option.bind_some]
      rw [catC_of (s := (It x.1 ++ bts [32]) ++ It x.2.1) (t := bts [32]) (by simp only [size_app]; omega)]
      simp only [Option.bind_some]
      rw [catC_of (s := ((It x.1 ++ bts [32]) ++ It x.2.1) ++ bts [32]) (t := It x.2.2) (by simp only [size_app]; omega)]
      simp only [Option.bind_some]
      rw [catC_of (s := (((It x.1 ++ bts [32]) ++ It x.2.1) ++ bts [32]) ++ It x.2.2) (t := bts [10]) (by simp only [size_app]; omega)]
      simp only [Option.bind_some]
      rw [show (((((It x.1 ++ bts [32]) ++ It x.2.1) ++ bts [32]) ++ It x.2.2) ++ bts [10]) = Ln x from rfl]
      rw [appC_of (xs := a) (ys := bytesI (Ln x)) (by rw [bytesI_len]; have := hgd.1; omega)]
      simp only [Option.bind_some]
      rw [succ_w (by omega)]
    case hg =>
      intro i x a a' hx hgd hs
      cases hs
      have hln := ln_size (p := x) (hall hx)
      refine ⟨by rw [List.length_append, bytesI_len]; have := hgd.1; omega, fun _ e => ?_⟩
      have h9 : (a ++ bytesI (Ln x)).length = 0 := by rw [e]; rfl
      rw [List.length_append, bytesI_len] at h9
      omega
    case h2 =>
      intro a hgd
      have hne := hgd.2 (by omega)
      obtain ⟨b, r, rfl⟩ := List.exists_cons_of_ne_nil hne
      simp only [Int.lt_irrefl, decide_false, cond_false]
      have h9 : getI (b :: r) 0 = some b := rfl
      simp only [h9, Option.bind_some, lenC_of]
      rfl
    · rw [fold_app]
      simp only [List.nil_append]
      have e1 : strI (t.flatMap fun p => bytesI (Ln p)) = ⟨(Pr t).toArray⟩ := by
        apply ext_data
        rw [strI_data, ofL_data, List.map_flatMap]
        unfold Pr
        congr 1
        funext p
        exact bytesI_back _
      rw [e1]
theorem G5_pr (lf : Nat) (hlf : 41 < lf) (t : List T3) : G5 lf t = if vt t then (some (⟨(Pr t).toArray⟩, 0)) else some (bts [], 11) := by
  rw [G5_eq, G14_vt lf hlf]
  cases hv : vt t with
  | false => rfl
  | true =>
    obtain ⟨hl, hall⟩ := vt_all hv
    simp only [if_true, Option.bind_some, Bool.not_true, cond_false]
    refine Eq.trans (iter_all (ρ := ByteArray × Int) (fun (i : Int) (a : ByteArray) => (a, i)) (fun p _ a => .inl (a ++ Ln p)) (fun i a => a.size ≤ i * 3000000010) t (fun a => (a, 0)) (bts []) lf ?h1 ?hg ?h2 (by omega) (by simp [bts_size])) ?_
    case h1 =>
      intro i x a hx hgd
      have hi := (List.getElem?_eq_some_iff.1 hx).1
      have hi' : decide ((i : Int) < (t.length : Int)) = true := decide_eq_true (by omega)
      have hb := hall hx
      obtain ⟨b1, b2, b3, b4, b5⟩ := hb
      have a1 := it_len (n := x.1) (by omega)
      have a2 := it_len (n := x.2.1) (by omega)
      have a3 := it_len (n := x.2.2) (by omega)
      have hln := ln_size (p := x) ⟨b1, b2, b3, b4, b5⟩
      have s1 := bts_size [32]
      have s2 := bts_size [10]
      simp only [List.length_singleton] at s1 s2
      simp only [hi', cond_true, getI_nat hx, Option.bind_some, G15_it lf lf (by omega) (n := x.1) (by omega), G15_it lf lf (by omega) (n := x.2.1) (by omega), G15_it lf lf (by omega) (n := x.2.2) (by omega)]
      rw [catC_of (s := It x.1) (t := bts [32]) (by omega)]
      simp only [Option.bind_some]
      rw [catC_of (s := It x.1 ++ bts [32]) (t := It x.2.1) (by rw [size_app]; omega)]
      simp only [Option.bind_some]
      rw [catC_of (s := (It x.1 ++ bts [32]) ++ It x.2.1) (t := bts [32]) (by simp only [size_app]; omega)]
      simp only [Option.bind_some]
      rw [catC_of (s := ((It x.1 ++ bts [32]) ++ It x.2.1) ++ bts [32]) (t := It x.2.2) (by simp only [size_app]; omega)]
      simp only [Option.bind_some]
      rw [catC_of (s := (((It x.1 ++ bts [32]) ++ It x.2.1) ++ bts [32]) ++ It x.2.2) (t := bts [10]) (by simp only [size_app]; omega)]
      simp only [Option.bind_some]
      rw [show (((((It x.1 ++ bts [32]) ++ It x.2.1) ++ bts [32]) ++ It x.2.2) ++ bts [10]) = Ln x from rfl]
      rw [catC_of (s := a) (t := Ln x) (by omega)]
      simp only [Option.bind_some]
      rw [succ_w (by omega)]
    case hg =>
      intro i x a a' hx hgd hs
      cases hs
      have hln := ln_size (p := x) (hall hx)
      show (a ++ Ln x).size ≤ _
      rw [size_app]; omega
    case h2 =>
      intro a hgd
      simp only [Int.lt_irrefl, decide_false, cond_false]
    · obtain ⟨r, h1, h2⟩ := fold_appB (ρ := ByteArray × Int) Ln t 0 (bts [])
      rw [h1]
      have e1 : r = ⟨(Pr t).toArray⟩ := by
        apply ext_data
        rw [h2, ofL_data]
        rfl
      simp only
      rw [e1]
end Go.K
set_option linter.unusedVariables false
set_option linter.unusedSimpArgs false
namespace Go.K
open Go.Sl Go.Sx Go.Proofs
def ofL (l : List UInt8) : ByteArray := ⟨l.toArray⟩
theorem ofL_back (s : ByteArray) : ofL s.data.toList = s := ext_data (ofL_data _)
theorem ofL_size (l : List UInt8) : (ofL l).size = l.length := by rw [size_len]; unfold ofL; rw [ofL_data]
theorem ofL_eq {s : ByteArray} {l : List UInt8} (h : s.data.toList = l) : s = ofL l := by rw [← h, ofL_back]
theorem ext_extract (s : ByteArray) (a b : Nat) : s.extract a b = ofL ((s.data.toList.drop a).take (b - a)) := ofL_eq (by rw [Lib.extract_data])
def sp : List UInt8 → List (List UInt8)
  | [] => [[]]
  | b :: r => if b = 10 then [] :: sp r else match sp r with
    | x :: xs => (b :: x) :: xs
    | [] => [[b]]
theorem sp_ne (l : List UInt8) : sp l ≠ [] := by
  cases l with
  | nil => simp [sp]
  | cons b r =>
    simp only [sp]
    split
    · simp
    · split <;> simp
theorem splitK_ne {b : UInt8} (h : b ≠ 10) (k : Nat) (l : List UInt8) : Lib.splitK [10] 0 k (b :: l) = match Lib.splitK [10] 0 k l with
    | x :: xs => (b :: x) :: xs
    | [] => [[b]] := by
  cases k with
  | zero => rfl
  | succ k =>
    have hp : ([10] : List UInt8).isPrefixOf (b :: l) = false := by simp [List.isPrefixOf, Ne.symm h]
    have hix : Lib.index (b :: l) [10] = if Lib.index l [10] == -1 then -1 else Lib.index l [10] + 1 := by rw [Lib.index, hp]; simp
    by_cases hm : Lib.index l [10] = -1
    · simp only [Lib.splitK, hix, hm]; rfl
    · have hge := Lib.index_ge l [10]
      obtain ⟨j, hj⟩ : ∃ j : Nat, Lib.index l [10] = j := ⟨(Lib.index l [10]).toNat, by omega⟩
      have e1 : ((j : Int) == -1) = false := by simp
      have e2 : ((j : Int) + 1 == -1) = false := by simp; omega
      have e3 : ((j : Int) + 1).toNat = j + 1 := by omega
      have e4 : j + 1 + [(10 : UInt8)].length = j + [(10 : UInt8)].length + 1 := by simp
      simp only [Lib.splitK, hix, hj, e1, Bool.false_eq_true, if_false, e2, e3, Int.toNat_natCast, Nat.add_zero, List.take_succ_cons, e4, List.drop_succ_cons]
theorem splitK_sp : ∀ l : List UInt8, Lib.splitK [10] 0 (Lib.count l [10]) l = sp l
  | [] => by rw [Lib.count_miss (by simp [Lib.index])]; rfl
  | b :: l => by
    by_cases h : b = 10
    · subst h
      rw [Lib.count_cons_eq, Nat.add_comm]
      have hix : Lib.index (10 :: l) [10] = 0 := by rw [Lib.index]; simp [List.isPrefixOf]
      simp only [Lib.splitK, hix, sp, if_true]
      have : ((0 : Int) == -1) = false := by decide
      simp only [this, Bool.false_eq_true, if_false, Int.toNat_zero, Nat.add_zero, List.take_zero, Nat.zero_add, List.length_singleton, List.drop_succ_cons, List.drop_zero, splitK_sp l]
    · rw [Lib.count_cons_ne b 10 l h, splitK_ne h, splitK_sp l]
      simp only [sp, h, if_false]
theorem bts10 : (bts [10]).data.toList = [10] := by simp [bts]
theorem splitC_sp {s : ByteArray} (h : s.size < 4294967281) : splitC s (bts [10]) = some ((sp s.data.toList).map ofL) := by
  unfold splitC
  rw [if_pos ⟨h, by decide⟩]
  have e := Lib.splitB_data (bts [10]) 0 (Lib.countB s (bts [10])) s
  unfold Lib.countB at e ⊢
  rw [bts10, splitK_sp] at e
  rw [← e, List.map_map, bts10]
  congr 1
  conv => lhs; rw [← List.map_id (Lib.splitB (bts [10]) 0 (Lib.count s.data.toList [10]) s)]
  refine List.map_congr_left fun x _ => ?_
  simp [ofL_back]
def trimE (l : List (List UInt8)) : List (List UInt8) := if l.getLast? = some [] then l.dropLast else l
def lns (l : List UInt8) : List (List UInt8) := trimE (sp l)
def spc (cur l : List UInt8) : List (List UInt8) := match sp l with
  | x :: xs => (cur ++ x) :: xs
  | [] => [cur]
theorem spc_nil (l : List UInt8) : spc [] l = sp l := by
  unfold spc
  cases h : sp l with
  | nil => exact absurd h (sp_ne l)
  | cons x xs => rfl
theorem spc_end (cur : List UInt8) : spc cur [] = [cur] := by simp [spc, sp]
theorem spc_10 (cur r : List UInt8) : spc cur (10 :: r) = cur :: sp r := by simp [spc, sp]
theorem spc_ne (cur : List UInt8) {b : UInt8} (h : b ≠ 10) (r : List UInt8) : spc cur (b :: r) = spc (cur ++ [b]) r := by
  unfold spc
  simp only [sp, h, if_false]
  cases sp r <;> simp
theorem trimE_cons (x : List UInt8) {l : List (List UInt8)} (h : l ≠ []) : trimE (x :: l) = x :: trimE l := by
  unfold trimE
  cases l with
  | nil => exact absurd rfl h
  | cons y l =>
    rw [List.getLast?_cons_cons]
    split
    · rfl
    · rfl
theorem spc_len (l : List UInt8) : ∀ cur, (spc cur l).length ≤ l.length + 1 := by
  induction l with
  | nil => intro cur; simp [spc_end]
  | cons b r ih =>
    intro cur
    by_cases h : b = 10
    · subst h; rw [spc_10, ← spc_nil r]; simpa using ih []
    · rw [spc_ne cur h]; have := ih (cur ++ [b]); simp only [List.length_cons]; omega
theorem sp_len (l : List UInt8) : (sp l).length ≤ l.length + 1 := by rw [← spc_nil]; exact spc_len l []
theorem trimE_len (l : List (List UInt8)) : (trimE l).length ≤ l.length := by unfold trimE; split <;> simp
def wd : List UInt8 → List UInt8 → List (List UInt8)
  | cur, [] => if cur = [] then [] else [cur]
  | cur, b :: r => if b = 32 then (if cur = [] then wd [] r else cur :: wd [] r) else wd (cur ++ [b]) r
theorem wd_skip : ∀ (u cur r : List UInt8), (∀ b ∈ u, b ≠ 32) → wd cur (u ++ r) = wd (cur ++ u) r
  | [], cur, r, _ => by simp
  | b :: u, cur, r, h => by
    simp only [List.cons_append, wd, h b (by simp), if_false]
    rw [wd_skip u (cur ++ [b]) r fun c hc => h c (by simp [hc])]
    simp
theorem wd_sp (u r : List UInt8) (hu : u ≠ []) (h : ∀ b ∈ u, b ≠ 32) : wd [] (u ++ 32 :: r) = u :: wd [] r := by
  rw [wd_skip u [] _ h]; simp [wd, hu]
theorem wd_one (u : List UInt8) (hu : u ≠ []) (h : ∀ b ∈ u, b ≠ 32) : wd [] u = [u] := by
  have := wd_skip u [] [] h
  simp only [List.append_nil, List.nil_append] at this
  rw [this]; simp [wd, hu]
theorem get_list (s : ByteArray) {i : Nat} (h : i < s.size) : s.data.toList[i]? = some (s.get! i) := by
  obtain ⟨⟨l⟩⟩ := s
  have h' : i < l.length := by simpa [size_len] using h
  show l[i]? = some ((⟨l⟩ : Array UInt8)[i]!)
  rw [List.getElem?_eq_getElem h']
  simp [h']
theorem dec32 (s : ByteArray) (i : Nat) (h : i < s.size) : 1 ≤ (Utf8.decode s i).2 ∧ i + (Utf8.decode s i).2 ≤ s.size ∧ ((Utf8.decode s i).1 = 32 → (Utf8.decode s i).2 = 1 ∧ s.get! i = 32) ∧
    ((Utf8.decode s i).1 ≠ 32 → ∀ j, i ≤ j → j < i + (Utf8.decode s i).2 → s.get! j ≠ 32) := by
  have hb : ∀ j, (s.get! j).toNat = 32 → s.get! j = 32 := fun j hj => by
    apply UInt8.toNat_inj.1; simpa using hj
  have hb' : ∀ j, s.get! j = 32 → (s.get! j).toNat = 32 := fun j hj => by rw [hj]; rfl
  rw [Lib.decode_at]
  have k1 := hb i
  have k1' := hb' i
  have k2' := hb' (i + 1)
  have k3' := hb' (i + 2)
  have k4' := hb' (i + 3)
  have h0 : (s.get! i).toNat < 256 := UInt8.toNat_lt _
  generalize e0 : (s.get! i).toNat = b0 at *
  generalize e1 : (s.get! (i + 1)).toNat = b1 at *
  generalize e2 : (s.get! (i + 2)).toNat = b2 at *
  generalize e3 : (s.get! (i + 3)).toNat = b3 at *
  have hj4 : ∀ j k, i ≤ j → j < i + k → k ≤ 4 → j = i ∨ (j = i + 1 ∧ 2 ≤ k) ∨ (j = i + 2 ∧ 3 ≤ k) ∨ (j = i + 3 ∧ 4 ≤ k) := fun j k _ _ _ => by omega
  have key : ∀ (r k : Nat), Lib.decodeN (s.size - i) b0 b1 b2 b3 = (r, k) → 1 ≤ k ∧ i + k ≤ s.size ∧ k ≤ 4 ∧ (r = 32 → k = 1 ∧ b0 = 32) ∧ (r ≠ 32 → b0 ≠ 32 ∧ (2 ≤ k → b1 ≠ 32) ∧ (3 ≤ k → b2 ≠ 32) ∧ (4 ≤ k → b3 ≠ 32)) := by
    intro r k hd
    unfold Lib.decodeN at hd
    by_cases c0 : b0 < 128
    · rw [if_pos c0] at hd; cases hd
      refine ⟨by omega, by omega, by omega, fun e => ⟨rfl, e⟩, fun e => ⟨e, by omega, by omega, by omega⟩⟩
    · rw [if_neg c0] at hd
      by_cases c1 : b0 / 32 = 6 ∧ (1 < s.size - i ∧ b1 / 64 = 2)
      · rw [if_pos c1] at hd
        split at hd <;> cases hd
        · refine ⟨by omega, by omega, by omega, by omega, fun e => ⟨by omega, by omega, by omega, by omega⟩⟩
        · refine ⟨by omega, by omega, by omega, by omega, fun e => ⟨by omega, by omega, by omega, by omega⟩⟩
      · rw [if_neg c1] at hd
        by_cases c2 : b0 / 16 = 14 ∧ (1 < s.size - i ∧ b1 / 64 = 2) ∧ (2 < s.size - i ∧ b2 / 64 = 2)
        · rw [if_pos c2] at hd
          split at hd <;> cases hd
          · refine ⟨by omega, by omega, by omega, by omega, fun e => ⟨by omega, by omega, by omega, by omega⟩⟩
          · refine ⟨by omega, by omega, by omega, by omega, fun e => ⟨by omega, by omega, by omega, by omega⟩⟩
        · rw [if_neg c2] at hd
          by_cases c3 : b0 / 8 = 30 ∧ (1 < s.size - i ∧ b1 / 64 = 2) ∧ (2 < s.size - i ∧ b2 / 64 = 2) ∧ (3 < s.size - i ∧ b3 / 64 = 2)
          · rw [if_pos c3] at hd
            split at hd <;> cases hd
            · refine ⟨by omega, by omega, by omega, by omega, fun e => ⟨by omega, by omega, by omega, by omega⟩⟩
            · refine ⟨by omega, by omega, by omega, by omega, fun e => ⟨by omega, by omega, by omega, by omega⟩⟩
          · rw [if_neg c3] at hd
            cases hd
            refine ⟨by omega, by omega, by omega, by omega, fun e => ⟨by omega, by omega, by omega, by omega⟩⟩
  obtain ⟨a1, a2, a3, a4, a5⟩ := key _ _ rfl
  refine ⟨a1, a2, fun h => ⟨(a4 h).1, k1 (a4 h).2⟩, fun h j j1 j2 hj => ?_⟩
  obtain ⟨q0, q1, q2, q3⟩ := a5 h
  rcases hj4 j _ j1 j2 a3 with rfl | ⟨rfl, hk⟩ | ⟨rfl, hk⟩ | ⟨rfl, hk⟩
  · exact q0 (k1' hj)
  · exact q1 hk (k2' hj)
  · exact q2 hk (k3' hj)
  · exact q3 hk (k4' hj)
def is32 (n : Nat) : Bool := Nat.beq n 32
theorem spans_wd (s : ByteArray) : ∀ (f pos : Nat) (st : Option Nat) (acc : List (Nat × Nat)), s.size ≤ pos + f → pos ≤ s.size → (∀ a, st = some a → a < pos) →
    ((Lib.closeSpans s (Lib.spansFromP is32 s f pos st acc)).map fun x => s.extract x.1 x.2) = (acc.map fun x => s.extract x.1 x.2) ++ (wd (Lib.openPiece s.data.toList st pos) (s.data.toList.drop pos)).map ofL := by
  intro f
  have hend : ∀ (pos : Nat) (st : Option Nat) (acc : List (Nat × Nat)), pos = s.size → (∀ a, st = some a → a < pos) → ((Lib.closeSpans s (acc, st)).map fun x => s.extract x.1 x.2) = (acc.map fun x => s.extract x.1 x.2) ++ (wd (Lib.openPiece s.data.toList st pos) (s.data.toList.drop pos)).map ofL := by
    intro pos st acc hp hst
    subst hp
    have hd : s.data.toList.drop s.size = [] := List.drop_eq_nil_of_le (by rw [size_len]; exact Nat.le_refl _)
    rw [hd]
    cases st with
    | none => simp [Lib.closeSpans, Lib.openPiece, wd]
    | some a =>
      have := Lib.pieceU_ne s.data.toList a s.size (hst a rfl) (by rw [size_len]; exact Nat.le_refl _)
      simp only [Lib.closeSpans, Lib.openPiece, wd, this, if_false, List.map_append, List.map_cons, List.map_nil, ext_extract]
      rfl
  induction f with
  | zero =>
    intro pos st acc h hp hst
    simp only [Lib.spansFromP]
    exact hend pos st acc (by omega) hst
  | succ f ih =>
    intro pos st acc h hp hst
    by_cases hlt : pos < s.size
    · obtain ⟨d1, d2, d3, d4⟩ := dec32 s pos hlt
      simp only [Lib.spansFromP, hlt, if_true]
      generalize hk : (Utf8.decode s pos).2 = k at *
      generalize hr : (Utf8.decode s pos).1 = r at *
      have hg := get_list s hlt
      have hdrop : s.data.toList.drop pos = s.get! pos :: s.data.toList.drop (pos + 1) := by
        obtain ⟨hl, he⟩ := List.getElem?_eq_some_iff.1 hg
        rw [List.drop_eq_getElem_cons hl, he]
      by_cases h32 : r = 32
      · have e32 : is32 r = true := by rw [h32]; rfl
        obtain ⟨rfl, hb⟩ := d3 h32
        simp only [e32, if_true]
        cases st with
        | none =>
          simp only
          rw [ih (pos + 1) none acc (by omega) (by omega) (by intro a ha; cases ha), hdrop, hb]
          simp [Lib.openPiece, wd]
        | some a =>
          have hne := Lib.pieceU_ne s.data.toList a pos (hst a rfl) (by rw [← size_len]; omega)
          simp only
          rw [ih (pos + 1) none (acc ++ [(a, pos)]) (by omega) (by omega) (by intro a ha; cases ha), hdrop, hb]
          simp only [Lib.openPiece, wd, if_true, hne, if_false, List.map_append, List.map_cons, List.map_nil, List.append_assoc, List.singleton_append, ext_extract]
          rfl
      · have e32 : is32 r = false := by
          cases hb : is32 r with
          | false => rfl
          | true => exact absurd (Nat.eq_of_beq_eq_true hb) h32
        simp only [e32, Bool.false_eq_true, if_false]
        have hsplit : s.data.toList.drop pos = (s.data.toList.drop pos).take k ++ s.data.toList.drop (pos + k) := by
          rw [← List.drop_drop, List.take_append_drop]
        have hall : ∀ b ∈ (s.data.toList.drop pos).take k, b ≠ 32 := by
          intro b hb
          obtain ⟨j, hj⟩ := List.getElem?_of_mem hb
          rw [List.getElem?_take] at hj
          split at hj
          · rw [List.getElem?_drop] at hj
            have hlj := (List.getElem?_eq_some_iff.1 hj).1
            rw [get_list s (by rw [size_len]; exact hlj)] at hj
            injection hj with hj
            rw [← hj]
            exact d4 h32 (pos + j) (by omega) (by omega)
          · cases hj
        have step : wd (Lib.openPiece s.data.toList st pos) (s.data.toList.drop pos) = wd (Lib.openPiece s.data.toList (some (st.getD pos)) (pos + k)) (s.data.toList.drop (pos + k)) := by
          conv => lhs; rw [hsplit]
          rw [wd_skip _ _ _ hall]
          congr 1
          cases st with
          | none => simp [Lib.openPiece, Lib.pieceU]
          | some a => exact Lib.pieceU_grow s.data.toList a pos k (by have := hst a rfl; omega)
        rw [step]
        cases st with
        | none => exact ih (pos + k) (some pos) acc (by omega) (by omega) (by intro a ha; cases ha; omega)
        | some a => exact ih (pos + k) (some a) acc (by omega) (by omega) (by intro b hb; cases hb; have := hst a rfl; omega)
    · rw [Lib.spansFromP_end _ _ _ _ _ _ hlt]
      exact hend pos st acc (by omega) hst
theorem fieldsC_wd {s : ByteArray} (h : s.size ≤ 4294967296) : fieldsC is32 s = some ((wd [] s.data.toList).map ofL) := by
  unfold fieldsC
  rw [if_pos h]
  unfold Lib.goFieldsP Lib.spansOfP
  rw [spans_wd s s.size 0 none [] (by omega) (by omega) (by intro a ha; cases ha)]
  simp [Lib.openPiece]
end Go.K
set_option linter.unusedVariables false
set_option linter.unusedSimpArgs false
namespace Go.K
open Go.Sl Go.Sx Go.Proofs
def isD (b : UInt8) : Bool := decide (48 ≤ b.toNat ∧ b.toNat ≤ 57)
def valF (d : List UInt8) (a : Int) : Int := d.foldl (fun n b => 10 * n + ((b.toNat : Int) - 48)) a
def valD (d : List UInt8) : Int := valF d 0
def okD (m : Nat) (d : List UInt8) : Bool := decide (1 ≤ d.length ∧ d.length ≤ m ∧ ¬ (1 < d.length ∧ d.head? = some 48)) && d.all isD
def num (m : Nat) (w : List UInt8) (sg : Bool) : Option Int :=
  if w.head? = some 45 then (if sg && okD m w.tail && decide (w.tail.head? ≠ some 48) then some (-valD w.tail) else none) else if okD m w then some (valD w) else none
def stepD {ρ : Type} (bad : ρ) (x : UInt8) (_ : Nat) (a : Int) : Int ⊕ ρ := if isD x then .inl (10 * a + ((x.toNat : Int) - 48)) else .inr bad
theorem stepD_fold {ρ : Type} (bad : ρ) : ∀ (l : List UInt8) (i : Nat) (a : Int), foldS (stepD bad) l i a = if l.all isD then .inl (valF l a) else .inr bad
  | [], i, a => rfl
  | x :: l, i, a => by
    simp only [foldS, stepD, List.all_cons, valF, List.foldl_cons]
    by_cases h : isD x = true
    · simp only [h, if_true, Bool.true_and]; exact stepD_fold bad l (i + 1) _
    · have h' : isD x = false := by simpa using h
      simp only [h', Bool.false_and, Bool.false_eq_true, if_false]
theorem isD_iff {b : UInt8} : isD b = true ↔ 48 ≤ b.toNat ∧ b.toNat ≤ 57 := by unfold isD; simp
theorem valF_bound : ∀ (l : List UInt8) (a : Int) (k : Nat), l.all isD = true → 0 ≤ a → a < 10 ^ k → 0 ≤ valF l a ∧ valF l a < 10 ^ (k + l.length)
  | [], a, k, _, h0, h1 => ⟨h0, by simpa [valF] using h1⟩
  | x :: l, a, k, h, h0, h1 => by
    simp only [List.all_cons, Bool.and_eq_true] at h
    have hx := isD_iff.1 h.1
    have hp : (10 : Int) ^ (k + 1) = 10 ^ k * 10 := Int.pow_succ ..
    have := valF_bound l (10 * a + ((x.toNat : Int) - 48)) (k + 1) h.2 (by omega) (by omega)
    rw [show k + (x :: l).length = k + 1 + l.length by simp; omega]
    exact this
noncomputable def St23 (lf : Nat) (a1 : Int) (y28 : Int × ByteArray) : Option (Int × Bool) :=
  jn (cond (decide ((y28.2.size : Int) < (1 : Int))) (some (.inl true)) (cond (decide ((y28.2.size : Int) > a1)) (some (.inl true)) (cond (decide ((y28.2.size : Int) > (1 : Int))) (((byteAt y28.2 (0 : Int))).bind fun r29 => some (.inl (decide (r29 = (48 : Int))))) (some (.inl false))))) (fun y30 : Bool => cond y30 (some ((0 : Int), false)) (iter lf (fun y31 : (Int × Int) => cond (decide (y31.2 < (y28.2.size : Int))) (jn (((byteAt y28.2 y31.2)).bind fun r32 => cond (decide (r32 < (48 : Int))) (some (.inl true)) (((byteAt y28.2 y31.2)).bind fun r33 => some (.inl (decide (r33 > (57 : Int)))))) (fun y34 : Bool => cond y34 (some (.inr ((0 : Int), false))) (((byteAt y28.2 y31.2)).bind fun r35 => some (.inl ((w64 ((w64 ((10 : Int) * y31.1)) + (w64 (Go.IntKind.wrap .u8 (r35 - (48 : Int)))))), (w64 (y31.2 + (1 : Int)))))))) (some (.inr ((w64 (y28.1 * y31.1)), true)))) ((0 : Int), (0 : Int))))
theorem byteAt_ofL {l : List UInt8} {i : Nat} {b : UInt8} (h : l[i]? = some b) : byteAt (ofL l) (i : Int) = some ((b.toNat : Nat) : Int) := byteAt_nat (by unfold ofL; rw [ofL_data]; exact h)
theorem byteAt_0 {c : UInt8} {l : List UInt8} : byteAt (ofL (c :: l)) 0 = some ((c.toNat : Nat) : Int) := byteAt_ofL (i := 0) rfl
theorem nat_eq {b : UInt8} {n : Nat} (hn : n < 256) : (((b.toNat : Nat) : Int) = (n : Int)) ↔ b = UInt8.ofNat n := by
  constructor
  · intro h
    apply UInt8.toNat_inj.1
    rw [UInt8.toNat_ofNat']
    omega
  · intro h
    subst h
    rw [UInt8.toNat_ofNat']
    omega
theorem b48 {b : UInt8} : (((b.toNat : Nat) : Int) = (48 : Int)) ↔ b = 48 := nat_eq (n := 48) (by omega)
theorem b45 {b : UInt8} : (((b.toNat : Nat) : Int) = (45 : Int)) ↔ b = 45 := nat_eq (n := 45) (by omega)
theorem b35 {b : UInt8} : (((b.toNat : Nat) : Int) = (35 : Int)) ↔ b = 35 := nat_eq (n := 35) (by omega)
theorem St23_ok (lf m : Nat) (hm : m ≤ 15) (hlf : m < lf) (sg : Int) (hs : sg = 1 ∨ sg = -1) (d : List UInt8) : St23 lf (m : Int) (sg, ofL d) = some (if okD m d then (sg * valD d, true) else (0, false)) := by
  unfold St23
  simp only [ofL_size]
  by_cases h1 : d.length < 1
  · have e : decide ((d.length : Int) < 1) = true := decide_eq_true (by omega)
    have o : okD m d = false := by unfold okD; rw [decide_eq_false (by omega)]; rfl
    simp only [e, cond_true, jn, o, Bool.false_eq_true, if_false]
  · have e : decide ((d.length : Int) < 1) = false := decide_eq_false (by omega)
    simp only [e, cond_false]
    by_cases h2 : d.length > m
    · have e : decide ((d.length : Int) > (m : Int)) = true := decide_eq_true (by omega)
      have o : okD m d = false := by unfold okD; rw [decide_eq_false (by omega)]; rfl
      simp only [e, cond_true, jn, o, Bool.false_eq_true, if_false]
    · have e : decide ((d.length : Int) > (m : Int)) = false := decide_eq_false (by omega)
      simp only [e, cond_false]
      obtain ⟨c, r, rfl⟩ := List.exists_cons_of_ne_nil (show d ≠ [] by intro hd; rw [hd] at h1; simp at h1)
      simp only [byteAt_0, Option.bind_some]
      have e3 : (cond (decide (((c :: r).length : Int) > 1)) (some (Sum.inl (decide ((((c.toNat : Nat) : Int)) = 48)))) (some (Sum.inl false)) : Option (Bool ⊕ (Int × Bool))) = some (.inl (decide (1 < (c :: r).length ∧ c = 48))) := by
        by_cases h3 : 1 < (c :: r).length
        · have e : decide (((c :: r).length : Int) > 1) = true := decide_eq_true (by omega)
          simp only [e, cond_true, h3, true_and, b48]
        · have e : decide (((c :: r).length : Int) > 1) = false := decide_eq_false (by omega)
          simp only [e, cond_false, h3, false_and, decide_false]
      rw [e3]
      simp only [jn]
      by_cases h4 : 1 < (c :: r).length ∧ c = 48
      · have o : okD m (c :: r) = false := by unfold okD; rw [decide_eq_false (fun k => k.2.2 ⟨h4.1, by simp [h4.2]⟩)]; rfl
        rw [o, decide_eq_true h4]
        rfl
      · have o : okD m (c :: r) = (c :: r).all isD := by unfold okD; rw [decide_eq_true ⟨by omega, by omega, fun k => h4 ⟨k.1, by simpa using k.2⟩⟩, Bool.true_and]
        rw [o]
        simp only [h4, decide_false, cond_false]
        refine Eq.trans (iter_all (fun (i : Int) (a : Int) => (a, i)) (stepD ((0 : Int), false)) (fun i a => 0 ≤ a ∧ a < 10 ^ i) (c :: r) (fun a => (w64 (sg * a), true)) 0 lf ?h1 ?hg ?h2 (by omega) ⟨by omega, by simp⟩) ?_
        case h1 =>
          intro i x a hx hgd
          have hi := (List.getElem?_eq_some_iff.1 hx).1
          have hi' : decide ((i : Int) < ((c :: r).length : Int)) = true := decide_eq_true (by omega)
          have hp : (10 : Int) ^ i ≤ 10 ^ 15 := by
            have := Nat.pow_le_pow_right (show 0 < 10 by decide) (show i ≤ 15 by omega)
            exact_mod_cast this
          have h15 : (10 : Int) ^ 15 = 1000000000000000 := by decide
          simp only [hi', cond_true, byteAt_ofL hx, Option.bind_some, stepD]
          by_cases c1 : (((x.toNat : Nat) : Int)) < 48
          · have : isD x = false := by unfold isD; rw [decide_eq_false (by omega)]
            simp [c1, jn, this]
          · by_cases c2 : (((x.toNat : Nat) : Int)) > 57
            · have : isD x = false := by unfold isD; rw [decide_eq_false (by omega)]
              simp [c1, c2, jn, this]
            · have : isD x = true := by unfold isD; rw [decide_eq_true (by omega)]
              simp only [c1, c2, decide_false, cond_false, jn, this, if_true]
              rw [wrap8 (by omega), w64_id (n := 10 * a) (by omega) (by omega), w64_id (n := ((x.toNat : Nat) : Int) - 48) (by omega) (by omega), w64_id (n := 10 * a + (((x.toNat : Nat) : Int) - 48)) (by omega) (by omega), succ_w (by omega)]
        case hg =>
          intro i x a a' hx hgd hst
          unfold stepD at hst
          split at hst
          · rename_i hD
            cases hst
            have := isD_iff.1 hD
            have hp : (10 : Int) ^ (i + 1) = 10 ^ i * 10 := Int.pow_succ ..
            omega
          · cases hst
        case h2 =>
          intro a _
          simp only [Int.lt_irrefl, decide_false, cond_false]
        · rw [stepD_fold]
          cases hD : (c :: r).all isD with
          | false => rfl
          | true =>
            have hb := valF_bound (c :: r) 0 0 hD (by omega) (by simp)
            have hp : (10 : Int) ^ (0 + (c :: r).length) ≤ 10 ^ 15 := by
              have := Nat.pow_le_pow_right (show 0 < 10 by decide) (show 0 + (c :: r).length ≤ 15 by omega)
              exact_mod_cast this
            have h15 : (10 : Int) ^ 15 = 1000000000000000 := by decide
            simp only [if_true]
            unfold valD
            rw [w64_id]
            · rcases hs with rfl | rfl <;> omega
            · rcases hs with rfl | rfl <;> omega
theorem G23_st (lf : Nat) (a0 : ByteArray) (a1 : Int) (a2 : Bool) : G23 lf (a0, (a1, a2)) =
  jn (jn (cond a2 (cond (decide ((a0.size : Int) > (1 : Int))) (((byteAt a0 (0 : Int))).bind fun r24 => cond (decide (r24 = (45 : Int))) (((byteAt a0 (1 : Int))).bind fun r25 => some (.inl (!(decide (r25 = (48 : Int)))))) (some (.inl false))) (some (.inl false))) (some (.inl false))) (fun y26 : Bool => cond y26 (((cutC a0 (1 : Int) (a0.size : Int))).bind fun r27 => some (.inl ((-1 : Int), (ByteArray.extract a0 1 (Int.toNat (a0.size : Int)))))) (some (.inl ((1 : Int), a0))))) (St23 lf a1) := G23_eq lf a0 a1 a2
theorem okD_45 (m : Nat) (r : List UInt8) : okD m (45 :: r) = false := by
  unfold okD
  rw [List.all_cons]
  have : isD 45 = false := by decide
  rw [this]; simp
theorem okD_nil (m : Nat) : okD m [] = false := by simp [okD]
def pairN (o : Option Int) : Int × Bool := match o with
  | some n => (n, true)
  | none => (0, false)
theorem G23_num (lf m : Nat) (hm : m ≤ 15) (hlf : m < lf) (l : List UInt8) (sg : Bool) : G23 lf (ofL l, ((m : Int), sg)) = some (pairN (num m l sg)) := by
  rw [G23_st]
  simp only [ofL_size]
  have pos : ∀ l, (l.head? ≠ some 45 ∨ okD m l = false) → (l.head? = some 45 → num m l sg = none) → St23 lf (m : Int) (1, ofL l) = some (pairN (num m l sg)) := by
    intro l h h2
    rw [St23_ok lf m hm hlf 1 (.inl rfl)]
    by_cases h45 : l.head? = some 45
    · rw [h2 h45]
      rcases h with h | h
      · exact absurd h45 h
      · rw [h]; rfl
    · unfold num
      rw [if_neg h45]
      cases okD m l with
      | true => simp [pairN]
      | false => rfl
  cases l with
  | nil =>
    have := pos [] (.inl (by simp)) (by simp)
    cases sg <;> simpa [jn] using this
  | cons c r =>
    by_cases h45 : c = 45
    · subst h45
      have neg : ∀ b, num m (45 :: r) b = if b && okD m r && decide (r.head? ≠ some 48) then some (-valD r) else none := fun b => by
        unfold num; rfl
      cases sg with
      | false =>
        have := pos (45 :: r) (.inr (okD_45 m r)) (fun _ => by rw [neg]; rfl)
        simpa [jn] using this
      | true =>
        cases r with
        | nil =>
          have := pos [45] (.inr (okD_45 m _)) (fun _ => by rw [neg, okD_nil]; rfl)
          simpa [jn] using this
        | cons x r =>
          have e1 : decide (((45 :: x :: r).length : Int) > 1) = true := decide_eq_true (by simp; omega)
          have e2 : byteAt (ofL (45 :: x :: r)) 1 = some ((x.toNat : Nat) : Int) := byteAt_ofL (i := 1) rfl
          have e3 : decide ((((45 : UInt8).toNat : Nat) : Int) = 45) = true := by decide
          simp only [e1, cond_true, byteAt_0, Option.bind_some, e3, e2, jn, b48]
          by_cases h48 : x = 48
          · subst h48
            have := pos (45 :: 48 :: r) (.inr (okD_45 m _)) (fun _ => by rw [neg]; simp)
            simpa [jn] using this
          · have e4 : cutC (ofL (45 :: x :: r)) 1 ((45 :: x :: r).length : Int) = some () := cutC_of ⟨by omega, by simp; omega, by rw [ofL_size]; exact Int.le_refl _⟩
            have e5 : (ofL (45 :: x :: r)).extract 1 (Int.toNat ((45 :: x :: r).length : Int)) = ofL (x :: r) := by
              rw [ext_extract, Int.toNat_natCast]; unfold ofL; rw [ofL_data]; simp
            simp only [h48, decide_false, Bool.not_false, cond_true, e4, Option.bind_some, e5]
            rw [St23_ok lf m hm hlf (-1) (.inr rfl), neg]
            cases okD m (x :: r) with
            | true => simp [h48, pairN]
            | false => rfl
    · have := pos (c :: r) (.inl (by simp [h45])) (by intro k; simp at k; exact absurd k h45)
      cases sg with
      | false => simpa [jn] using this
      | true =>
        by_cases h1 : 1 < (c :: r).length
        · have e1 : decide (((c :: r).length : Int) > 1) = true := decide_eq_true (by omega)
          simp only [e1, cond_true, byteAt_0, Option.bind_some, b45, h45, decide_false, cond_false, jn]
          exact this
        · have e1 : decide (((c :: r).length : Int) > 1) = false := decide_eq_false (by omega)
          simp only [e1, cond_true, cond_false, jn]
          exact this
theorem dig10 (b : UInt8) : (bts [48, 49, 50, 51, 52, 53, 54, 55, 56, 57]).data.toList.contains b = isD b := by
  have : ∀ n : Fin 256, (bts [48, 49, 50, 51, 52, 53, 54, 55, 56, 57]).data.toList.contains (UInt8.ofNat n.val) = isD (UInt8.ofNat n.val) := by decide +kernel
  have h := this ⟨b.toNat, UInt8.toNat_lt b⟩
  simpa using h
theorem dropW_nil {α : Type} {p : α → Bool} : ∀ {l : List α}, l.dropWhile p = [] ↔ l.all p = true
  | [] => by simp
  | x :: l => by
    rw [List.dropWhile_cons, List.all_cons]
    cases h : p x with
    | true => simpa using dropW_nil (p := p) (l := l)
    | false => simp
theorem trimS_nil (l cs : List UInt8) : Lib.trimS l cs = [] ↔ l.all (fun b => cs.contains b) = true := by
  unfold Lib.trimS Lib.trimLeftS Lib.trimRightS
  rw [dropW_nil, List.all_eq_true]
  constructor
  · intro h
    rw [List.all_eq_true]
    by_cases hd : (l.reverse.dropWhile (cs.contains ·)) = []
    · rw [dropW_nil, List.all_reverse, List.all_eq_true] at hd
      exact hd
    · exfalso
      obtain ⟨x, r, hx⟩ := List.exists_cons_of_ne_nil hd
      have h1 := List.head?_dropWhile_not (cs.contains ·) l.reverse
      rw [hx] at h1
      simp only [List.head?_cons] at h1
      have h2 := h x (by rw [hx]; simp)
      simp at h1 h2
      exact h1 h2
  · intro h x hx
    rw [List.all_eq_true] at h
    have hx' := List.mem_reverse.1 hx
    exact h x (List.mem_reverse.1 ((List.dropWhile_sublist _).mem hx'))
theorem trimC_dig {d : List UInt8} (h : d.length ≤ 9223372036854775807) : ∃ r, trimC (ofL d) (bts [48, 49, 50, 51, 52, 53, 54, 55, 56, 57]) = some r ∧ (ByteArray.toList r == ([] : List UInt8)) = d.all isD := by
  unfold trimC
  rw [if_pos ⟨by rw [ofL_size]; exact h, by decide, by decide +kernel⟩]
  refine ⟨_, rfl, ?_⟩
  rw [eqL', ofL_data]
  have e : (ofL d).data.toList = d := by unfold ofL; rw [ofL_data]
  rw [e]
  have : (fun b => (bts [48, 49, 50, 51, 52, 53, 54, 55, 56, 57]).data.toList.contains b) = isD := funext dig10
  have k := trimS_nil d (bts [48, 49, 50, 51, 52, 53, 54, 55, 56, 57]).data.toList
  rw [this] at k
  cases hD : d.all isD with
  | true => rw [decide_eq_true (k.2 hD)]
  | false => rw [decide_eq_false (fun h => by rw [k.1 h] at hD; cases hD)]
noncomputable def Dg (d : ByteArray) : Option (Bool ⊕ (Int ⊕ Int)) :=
  cond ((ByteArray.toList d) == ([] : List UInt8)) (some (.inl true)) (cond (decide ((d.size : Int) > (10 : Int))) (some (.inl true)) (((byteAt d (0 : Int))).bind fun r21 => cond (decide (r21 = (48 : Int))) (cond (!((ByteArray.toList d) == [(UInt8.ofNat 48)])) (some (.inl true)) (((trimC d (bts [48, 49, 50, 51, 52, 53, 54, 55, 56, 57]))).bind fun r22 => some (.inl (!((ByteArray.toList r22) == ([] : List UInt8)))))) (((trimC d (bts [48, 49, 50, 51, 52, 53, 54, 55, 56, 57]))).bind fun r23 => some (.inl (!((ByteArray.toList r23) == ([] : List UInt8)))))))
theorem Dg_ok (d : List UInt8) : Dg (ofL d) = some (.inl (!okD 10 d)) := by
  unfold Dg
  have eD : (ofL d).data.toList = d := by unfold ofL; rw [ofL_data]
  simp only [eqL', eD, ofL_size]
  cases d with
  | nil => simp [okD]
  | cons c r =>
    by_cases h2 : (c :: r).length > 10
    · have e : decide (((c :: r).length : Int) > 10) = true := decide_eq_true (by omega)
      have o : okD 10 (c :: r) = false := by unfold okD; rw [decide_eq_false (by omega)]; rfl
      simp only [e, cond_true, o, reduceCtorEq, decide_false, cond_false, Bool.not_false]
    · have e : decide (((c :: r).length : Int) > 10) = false := decide_eq_false (by omega)
      obtain ⟨t, ht, hD⟩ := trimC_dig (d := c :: r) (by omega)
      have hD' : decide (t.data.toList = []) = (c :: r).all isD := by rw [← hD, eqL']
      simp only [e, cond_false, byteAt_0, Option.bind_some, b48, ht, hD', reduceCtorEq, decide_false]
      by_cases h48 : c = 48
      · subst h48
        by_cases hr : r = []
        · subst hr; decide +kernel
        · have o : okD 10 (48 :: r) = false := by
            unfold okD
            rw [decide_eq_false (fun k => k.2.2 ⟨by cases r with | nil => exact absurd rfl hr | cons _ _ => simp, rfl⟩)]; rfl
          have : ¬ (48 :: r = [UInt8.ofNat 48]) := fun k => hr (by injection k)
          simp only [this, decide_true, decide_false, cond_true, Bool.not_false, o]
      · have o : okD 10 (c :: r) = (c :: r).all isD := by unfold okD; rw [decide_eq_true ⟨by simp, by omega, fun k => h48 (by simpa using k.2)⟩, Bool.true_and]
        simp only [h48, decide_false, cond_false, o]
theorem G20_dg (lf : Nat) (a0 : ByteArray) (a1 : Int) (a2 : Bool) : G20 lf (a0, (a1, a2)) =
  jn (cond (cutPrefix a0 (bts [45])).2 (cond (!a2) (some (.inl true)) (cond ((ByteArray.toList (cutPrefix a0 (bts [45])).1) == [(UInt8.ofNat 48)]) (some (.inl true)) (Dg (cutPrefix a0 (bts [45])).1))) (Dg (cutPrefix a0 (bts [45])).1)) (fun y24 : Bool => cond y24 (some (.inr a1)) (((atoiC a0)).bind fun r25 => some (.inl r25))) := G20_eq lf a0 a1 a2
theorem parse10 : ∀ (l : List UInt8) (acc : Nat), l.all isD = true → (acc + 1) * 10 ^ l.length ≤ 10 ^ 18 → ∃ u, Lib.parseUint10 acc l = .ok u ∧ (u : Int) = valF l acc ∧ u < 10 ^ 18
  | [], acc, _, h => ⟨acc, rfl, rfl, by simp at h; omega⟩
  | x :: l, acc, hD, h => by
    simp only [List.all_cons, Bool.and_eq_true] at hD
    have hx := isD_iff.1 hD.1
    have hp : 10 ^ (l.length + 1) = 10 ^ l.length * 10 := Nat.pow_succ ..
    simp only [List.length_cons, hp] at h
    have h1 : 1 ≤ 10 ^ l.length := Nat.one_le_pow _ _ (by decide)
    have h2 : (acc + 1) * 10 ≤ 10 ^ 18 := by
      calc (acc + 1) * 10 ≤ (acc + 1) * (10 ^ l.length * 10) := Nat.mul_le_mul_left _ (by omega)
        _ ≤ 10 ^ 18 := h
    have h3 : (acc * 10 + (x.toNat - 48) + 1) * 10 ^ l.length ≤ 10 ^ 18 := by
      calc (acc * 10 + (x.toNat - 48) + 1) * 10 ^ l.length ≤ ((acc + 1) * 10) * 10 ^ l.length := Nat.mul_le_mul_right _ (by omega)
        _ = (acc + 1) * (10 ^ l.length * 10) := by rw [Nat.mul_assoc, Nat.mul_comm 10]
        _ ≤ 10 ^ 18 := h
    have h18 : 10 ^ 18 = 1000000000000000000 := by decide
    obtain ⟨u, u1, u2, u3⟩ := parse10 l (acc * 10 + (x.toNat - 48)) hD.2 h3
    refine ⟨u, ?_, ?_, u3⟩
    · simp only [Lib.parseUint10]
      rw [if_pos hx, if_neg (by omega), if_neg (by omega), u1]
    · rw [u2]
      simp only [valF, List.foldl_cons]
      congr 1
      omega
theorem atoiC_pos {d : List UInt8} (h : okD 10 d = true) : atoiC (ofL d) = some (valD d) := by
  unfold okD at h
  simp only [Bool.and_eq_true, decide_eq_true_eq] at h
  obtain ⟨⟨h1, h2, _⟩, hD⟩ := h
  obtain ⟨c, r, rfl⟩ := List.exists_cons_of_ne_nil (show d ≠ [] by intro hd; rw [hd] at h1; simp at h1)
  have hp : (0 + 1) * 10 ^ (c :: r).length ≤ 10 ^ 18 := by
    rw [Nat.zero_add, Nat.one_mul]; exact Nat.pow_le_pow_right (by decide) (by omega)
  obtain ⟨u, u1, u2, u3⟩ := parse10 (c :: r) 0 hD hp
  have hc : isD c = true := by simp only [List.all_cons, Bool.and_eq_true] at hD; exact hD.1
  have hx := isD_iff.1 hc
  have eD : (ofL (c :: r)).data.toList = c :: r := by unfold ofL; rw [ofL_data]
  have h18 : 10 ^ 18 = 1000000000000000000 := by decide
  unfold atoiC
  rw [if_pos (by rw [ofL_size]; omega), eD]
  have e1 : ¬ (c.toNat = 43 ∨ c.toNat = 45) := by omega
  have e2 : ¬ c.toNat = 45 := by omega
  have hm : Lib.parseMag (c :: r) = .ok u := by unfold Lib.parseMag; rw [if_neg (by simp), u1]
  have ha : Lib.atoiAll (c :: r) = .ok (u : Int) := by
    unfold Lib.atoiAll
    simp only
    rw [if_neg e1, hm]
    simp only
    rw [if_neg (by omega), if_neg (by omega), if_neg e2]
  rw [ha]
  simp only
  rw [u2]; rfl
theorem atoiC_neg {d : List UInt8} (h : okD 10 d = true) : atoiC (ofL (45 :: d)) = some (-valD d) := by
  unfold okD at h
  simp only [Bool.and_eq_true, decide_eq_true_eq] at h
  obtain ⟨⟨h1, h2, _⟩, hD⟩ := h
  obtain ⟨c, r, rfl⟩ := List.exists_cons_of_ne_nil (show d ≠ [] by intro hd; rw [hd] at h1; simp at h1)
  have hp : (0 + 1) * 10 ^ (c :: r).length ≤ 10 ^ 18 := by
    rw [Nat.zero_add, Nat.one_mul]; exact Nat.pow_le_pow_right (by decide) (by omega)
  obtain ⟨u, u1, u2, u3⟩ := parse10 (c :: r) 0 hD hp
  have eD : (ofL (45 :: c :: r)).data.toList = 45 :: c :: r := by unfold ofL; rw [ofL_data]
  have h18 : 10 ^ 18 = 1000000000000000000 := by decide
  unfold atoiC
  rw [if_pos (by rw [ofL_size]; simp only [List.length_cons] at h2 ⊢; omega), eD]
  have e1 : ((45 : UInt8).toNat = 43 ∨ (45 : UInt8).toNat = 45) := .inr rfl
  have e2 : (45 : UInt8).toNat = 45 := rfl
  have hm : Lib.parseMag (c :: r) = .ok u := by unfold Lib.parseMag; rw [if_neg (by simp), u1]
  have ha : Lib.atoiAll (45 :: c :: r) = .ok (-(u : Int)) := by
    unfold Lib.atoiAll
    simp only
    rw [if_pos e1, hm]
    simp only
    rw [if_neg (by omega), if_neg (by omega), if_pos e2]
  rw [ha]
  simp only
  rw [u2]; rfl
theorem pre45_yes (r : List UInt8) : cutPrefix (ofL (45 :: r)) (bts [45]) = (ofL r, true) := by
  unfold cutPrefix
  have eD : (ofL (45 :: r)).data.toList = 45 :: r := ofL_data _
  have e2 : (bts [45]).data.toList = [45] := by simp [bts]
  rw [eD, e2]
  unfold Lib.trimPrefix Lib.hasPrefix
  simp [List.isPrefixOf, ofL]
theorem pre45_no (l : List UInt8) (h : l.head? ≠ some 45) : cutPrefix (ofL l) (bts [45]) = (ofL l, false) := by
  unfold cutPrefix
  have eD : (ofL l).data.toList = l := ofL_data _
  have e2 : (bts [45]).data.toList = [45] := by simp [bts]
  rw [eD, e2]
  unfold Lib.trimPrefix Lib.hasPrefix
  cases l with
  | nil => simp [List.isPrefixOf, ofL]
  | cons c r =>
    have hc : c ≠ 45 := by simpa using h
    have : ([45] : List UInt8).isPrefixOf (c :: r) = false := by simp [List.isPrefixOf, Ne.symm hc]
    rw [this]; simp [ofL]
theorem G20_num (lf : Nat) (l : List UInt8) (a1 : Int) (sg : Bool) : G20 lf (ofL l, (a1, sg)) = some (match num 10 l sg with | some n => .inl n | none => .inr a1) := by
  rw [G20_dg]
  by_cases h : l.head? = some 45
  · obtain ⟨r, rfl⟩ : ∃ r, l = 45 :: r := by
      cases l with
      | nil => simp at h
      | cons c r => simp at h; exact ⟨r, by rw [h]⟩
    have neg : ∀ b, num 10 (45 :: r) b = if b && okD 10 r && decide (r.head? ≠ some 48) then some (-valD r) else none := fun b => by
      unfold num; rfl
    rw [pre45_yes]
    simp only [cond_true]
    cases sg with
    | false => rw [neg]; simp [jn]
    | true =>
      have eD : (ofL r).data.toList = r := by unfold ofL; rw [ofL_data]
      simp only [Bool.not_true, cond_false, eqL', eD, Dg_ok]
      by_cases h0 : r = [48]
      · subst h0
        rw [neg]
        rfl
      · have e0 : decide (r = [UInt8.ofNat 48]) = false := decide_eq_false h0
        simp only [e0, cond_false, jn]
        rw [neg]
        cases ho : okD 10 r with
        | false => simp only [Bool.not_false, cond_true, Bool.and_false, Bool.false_and, Bool.false_eq_true, if_false]
        | true =>
          have h48 : r.head? ≠ some 48 := by
            intro hh
            unfold okD at ho
            simp only [Bool.and_eq_true, decide_eq_true_eq] at ho
            obtain ⟨⟨h1, h2, h3⟩, _⟩ := ho
            cases r with
            | nil => simp at h1
            | cons c t =>
              simp at hh
              subst hh
              cases t with
              | nil => exact h0 rfl
              | cons _ _ => exact h3 ⟨by simp, rfl⟩
          simp only [Bool.not_true, cond_false, atoiC_neg ho, Option.bind_some, h48, Bool.and_self, Bool.true_and, decide_true, ne_eq, not_false_eq_true, if_true]
  · rw [pre45_no l h]
    simp only [cond_false, Dg_ok, jn]
    unfold num
    rw [if_neg h]
    cases ho : okD 10 l with
    | false => simp
    | true => simp only [Bool.not_true, cond_false, atoiC_pos ho, Option.bind_some, if_true]
end Go.K
set_option linter.unusedVariables false
set_option linter.unusedSimpArgs false
namespace Go.K
open Go.Sl Go.Sx Go.Proofs
theorem ofL_data' (l : List UInt8) : (ofL l).data.toList = l := ofL_data l
theorem sp_mem : ∀ (l y : List UInt8), y ∈ sp l → y.length ≤ l.length
  | [], y, h => by simp [sp] at h; simp [h]
  | b :: r, y, h => by
    simp only [sp] at h
    split at h
    · rcases List.mem_cons.1 h with rfl | h
      · simp
      · have := sp_mem r y h; simp; omega
    · split at h
      · rename_i x xs e
        rcases List.mem_cons.1 h with rfl | h
        · have := sp_mem r x (by rw [e]; simp); simp; omega
        · have := sp_mem r y (by rw [e]; simp [h]); simp; omega
      · simp at h; simp [h]
theorem lns_mem (l y : List UInt8) (h : y ∈ lns l) : y.length ≤ l.length := by
  unfold lns trimE at h
  split at h
  · exact sp_mem l y ((List.dropLast_sublist _).subset h)
  · exact sp_mem l y h
theorem lns_len (l : List UInt8) : (lns l).length ≤ l.length + 1 := Nat.le_trans (trimE_len _) (sp_len l)
theorem G21_go (lf : Nat) (l : List UInt8) (hl : l.length ≤ 8000) : ∀ (k i fr : Nat) (out : List ByteArray) (f : Nat), i + k = l.length → fr ≤ i → k < f → out.length ≤ i →
    iter f (fun y14 : ((List ByteArray) × (Int × Int)) => cond (decide (y14.2.2 < ((ofL l).size : Int))) (((byteAt (ofL l) y14.2.2)).bind fun r15 => cond (decide (r15 = (10 : Int))) (((cutC (ofL l) y14.2.1 y14.2.2)).bind fun r16 => ((appC y14.1 [(ByteArray.extract (ofL l) (Int.toNat y14.2.1) (Int.toNat y14.2.2))])).bind fun r17 => some (.inl (r17, ((w64 (y14.2.2 + (1 : Int))), (w64 (y14.2.2 + (1 : Int))))))) (some (.inl (y14.1, (y14.2.1, (w64 (y14.2.2 + (1 : Int)))))))) (outR (cond (decide (y14.2.1 < ((ofL l).size : Int))) (((cutC (ofL l) y14.2.1 ((ofL l).size : Int))).bind fun r18 => ((appC y14.1 [(ByteArray.extract (ofL l) (Int.toNat y14.2.1) (Int.toNat ((ofL l).size : Int)))])).bind fun r19 => some r19) (some y14.1)))) (out, ((fr : Int), (i : Int))) = some (out ++ (trimE (spc (Lib.pieceU l fr i) (l.drop i))).map ofL)
  | 0, i, fr, out, f + 1, hk, hfr, hf, ho => by
    have hi : i = l.length := by omega
    subst hi
    have e1 : decide ((l.length : Int) < (l.length : Int)) = false := decide_eq_false (by omega)
    simp only [iter, ofL_size, e1, cond_false, List.drop_length, spc_end]
    by_cases h : fr < l.length
    · have e2 : decide ((fr : Int) < (l.length : Int)) = true := decide_eq_true (by omega)
      have hne := Lib.pieceU_ne l fr l.length h (Nat.le_refl _)
      rw [cutC_of (by rw [ofL_size]; omega), appC_of (by simp; omega)]
      simp only [e2, cond_true, Option.bind_some, outR, Int.toNat_natCast, ext_extract, ofL_data']
      have : trimE [Lib.pieceU l fr l.length] = [Lib.pieceU l fr l.length] := by unfold trimE; simp [hne]
      rw [this]; rfl
    · have e2 : decide ((fr : Int) < (l.length : Int)) = false := decide_eq_false (by omega)
      have hfr' : fr = l.length := by omega
      have : Lib.pieceU l fr l.length = [] := by rw [hfr']; simp [Lib.pieceU]
      rw [this]
      simp only [e2, cond_false, outR, trimE]
      simp
  | k + 1, i, fr, out, f + 1, hk, hfr, hf, ho => by
    have hlt : i < l.length := by omega
    have hx : l[i]? = some l[i] := List.getElem?_eq_getElem hlt
    have e1 : decide ((i : Int) < (l.length : Int)) = true := decide_eq_true (by omega)
    have hd : l.drop i = l[i] :: l.drop (i + 1) := List.drop_eq_getElem_cons hlt
    have b10 : (((l[i].toNat : Nat) : Int) = (10 : Int)) ↔ l[i] = 10 := nat_eq (n := 10) (by omega)
    simp only [iter, ofL_size, e1, cond_true, byteAt_ofL hx, Option.bind_some, b10, succ_w (show i < 4000000000 by omega)]
    rw [hd]
    by_cases h : l[i] = 10
    · rw [cutC_of (by rw [ofL_size]; omega), appC_of (by simp; omega)]
      simp only [h, decide_true, cond_true, Option.bind_some, Int.toNat_natCast, ext_extract, ofL_data']
      have ih := G21_go lf l hl k (i + 1) (i + 1) (out ++ [ofL (Lib.pieceU l fr i)]) f (by omega) (by omega) (by omega) (by simp; omega)
      simp only [ofL_size, ext_extract, ofL_data'] at ih
      refine Eq.trans ih ?_
      have : Lib.pieceU l (i + 1) (i + 1) = [] := by simp [Lib.pieceU]
      rw [this, spc_10, spc_nil, trimE_cons _ (sp_ne _)]
      simp
    · simp only [h, decide_false, cond_false]
      have ih := G21_go lf l hl k (i + 1) fr out f (by omega) (by omega) (by omega) (by omega)
      simp only [ofL_size] at ih
      refine Eq.trans ih ?_
      rw [spc_ne _ h]
      have : Lib.pieceU l fr i ++ [l[i]] = Lib.pieceU l fr (i + 1) := by
        rw [← Lib.pieceU_grow l fr i 1 hfr, hd]; rfl
      rw [this]
  | _, _, _, _, 0, _, _, hf, _ => by omega
theorem G21_lns (lf : Nat) (l : List UInt8) (hl : l.length ≤ 8000) (hlf : 8001 < lf) : G21 lf (ofL l) = some ((lns l).map ofL) := by
  rw [G21_eq]
  refine Eq.trans (G21_go lf l hl l.length 0 0 [] lf (by omega) (by omega) (by omega) (by simp)) ?_
  have : Lib.pieceU l 0 0 = [] := by simp [Lib.pieceU]
  rw [this, List.drop_zero, spc_nil]
  rfl
theorem G22_go (l : List UInt8) (hl : l.length ≤ 8000) : ∀ (k i : Nat) (word : ByteArray) (out : List ByteArray) (f : Nat), i + k = l.length → k + 1 < f → word.size ≤ i → out.length ≤ i →
    iter f (fun y13 : (ByteArray × ((List ByteArray) × Int)) => cond (decide (y13.2.2 ≤ ((ofL l).size : Int))) (jn (cond (decide (y13.2.2 < ((ofL l).size : Int))) (((byteAt (ofL l) y13.2.2)).bind fun r14 => some (.inl (!(decide (r14 = (32 : Int)))))) (some (.inl false))) (fun y15 : Bool => cond y15 (((cutC (ofL l) y13.2.2 (w64 (y13.2.2 + (1 : Int))))).bind fun r16 => ((catC y13.1 (ByteArray.extract (ofL l) (Int.toNat y13.2.2) (Int.toNat (w64 (y13.2.2 + (1 : Int))))))).bind fun r17 => some (.inl ((y13.1 ++ (ByteArray.extract (ofL l) (Int.toNat y13.2.2) (Int.toNat (w64 (y13.2.2 + (1 : Int)))))), (y13.2.1, (w64 (y13.2.2 + (1 : Int))))))) (cond (!((ByteArray.toList y13.1) == ([] : List UInt8))) (((appC y13.2.1 [y13.1])).bind fun r18 => some (.inl ((bts []), (r18, (w64 (y13.2.2 + (1 : Int))))))) (some (.inl ((bts []), (y13.2.1, (w64 (y13.2.2 + (1 : Int)))))))))) (some (.inr y13.2.1))) (word, (out, (i : Int))) = some (out ++ (wd word.data.toList (l.drop i)).map ofL)
  | 0, i, word, out, f + 2, hk, hf, hw, ho => by
    have hi : i = l.length := by omega
    subst hi
    have e1 : decide ((l.length : Int) < (l.length : Int)) = false := decide_eq_false (by omega)
    have e2 : decide ((l.length : Int) ≤ (l.length : Int)) = true := decide_eq_true (by omega)
    have e3 : decide (((l.length + 1 : Nat) : Int) ≤ (l.length : Int)) = false := decide_eq_false (by omega)
    simp only [iter, ofL_size, e1, e2, cond_false, cond_true, jn, eqL', List.drop_length, succ_w (show l.length < 4000000000 by omega)]
    by_cases h : word.data.toList = []
    · simp only [h, decide_true, Bool.not_true, cond_false, e3, wd, if_true, List.map_nil, List.append_nil]
    · rw [appC_of (by simp; omega)]
      simp only [h, decide_false, Bool.not_false, cond_true, Option.bind_some, e3, cond_false, wd, if_false, List.map_cons, List.map_nil, ofL_back]
  | k + 1, i, word, out, f + 1, hk, hf, hw, ho => by
    have hlt : i < l.length := by omega
    have hx : l[i]? = some l[i] := List.getElem?_eq_getElem hlt
    have e1 : decide ((i : Int) < (l.length : Int)) = true := decide_eq_true (by omega)
    have e2 : decide ((i : Int) ≤ (l.length : Int)) = true := decide_eq_true (by omega)
    have hd : l.drop i = l[i] :: l.drop (i + 1) := List.drop_eq_getElem_cons hlt
    have b32 : (((l[i].toNat : Nat) : Int) = (32 : Int)) ↔ l[i] = 32 := nat_eq (n := 32) (by omega)
    have hex : (ofL l).extract i (i + 1) = ofL [l[i]] := by
      rw [ext_extract, ofL_data', hd, show i + 1 - i = 1 by omega]; rfl
    simp only [iter, ofL_size, e1, e2, cond_true, byteAt_ofL hx, Option.bind_some, b32, succ_w (show i < 4000000000 by omega), jn, Int.toNat_natCast, hex, eqL']
    rw [hd]
    by_cases h : l[i] = 32
    · simp only [h, decide_true, Bool.not_true, cond_false]
      by_cases hw0 : word.data.toList = []
      · simp only [hw0, decide_true, Bool.not_true, cond_false]
        have ih := G22_go l hl k (i + 1) (bts []) out f (by omega) (by omega) (by rw [bts_size]; simp) (by omega)
        simp only [ofL_size, eqL'] at ih
        refine Eq.trans ih ?_
        simp [wd, bts]
      · rw [appC_of (by simp; omega)]
        simp only [hw0, decide_false, Bool.not_false, cond_true, Option.bind_some]
        have ih := G22_go l hl k (i + 1) (bts []) (out ++ [word]) f (by omega) (by omega) (by rw [bts_size]; simp) (by simp; omega)
        simp only [ofL_size, eqL'] at ih
        refine Eq.trans ih ?_
        simp only [wd, if_true, hw0, if_false, List.map_cons, ofL_back, List.append_assoc, List.singleton_append]
        rfl
    · rw [cutC_of (by rw [ofL_size]; omega), catC_of (by rw [ofL_size]; simp; omega)]
      simp only [h, decide_false, Bool.not_false, cond_true, Option.bind_some]
      have ih := G22_go l hl k (i + 1) (word ++ ofL [l[i]]) out f (by omega) (by omega) (by rw [size_app, ofL_size]; simp; omega) (by omega)
      simp only [ofL_size, eqL'] at ih
      refine Eq.trans ih ?_
      rw [app_data, ofL_data']
      simp only [wd, h, if_false]
  | 0, _, _, _, 0, _, hf, _, _ => by omega
  | 0, _, _, _, 1, _, hf, _, _ => by omega
  | _ + 1, _, _, _, 0, _, hf, _, _ => by omega
theorem G22_wd (lf : Nat) (l : List UInt8) (hl : l.length ≤ 8000) (hlf : 8002 < lf) : G22 lf (ofL l) = some ((wd [] l).map ofL) := by
  rw [G22_eq]
  refine Eq.trans (G22_go l hl l.length 0 (bts []) [] lf (by omega) (by omega) (by rw [bts_size]; simp) (by simp)) ?_
  simp [bts]
abbrev PR := List T3 × (Int × Int)
def lineS (l : List UInt8) (i : Nat) (t : List T3) : List T3 ⊕ PR :=
  if wd [] l = [] then .inl t else if l.head? = some 35 then .inl t else
  match wd [] l with
  | [a, b, c] => match num 10 a false, num 10 b true, num 10 c true with
    | some x, some y, some z => .inl (t ++ [(x, (y, z))])
    | _, _, _ => .inr ([], (((i + 1 : Nat) : Int), 12))
  | _ => .inr ([], (((i + 1 : Nat) : Int), 12))
def parseF (n : Nat) (t : List T3) : PR := if t = [] then ([], (((n + 1 : Nat) : Int), 12)) else if vt t then (t, (0, 0)) else ([], (0, 11))
def parseS (l : List UInt8) : PR := if 8000 < l.length then ([], (0, 2)) else match foldS lineS (lns l) 0 [] with
  | .inl t => parseF (lns l).length t
  | .inr e => e
theorem foldS_ofL {A ρ : Type} (step : List UInt8 → Nat → A → A ⊕ ρ) : ∀ (L : List (List UInt8)) (i : Nat) (a : A), foldS (fun x i a => step x.data.toList i a) (L.map ofL) i a = foldS step L i a
  | [], i, a => rfl
  | x :: L, i, a => by
    simp only [List.map_cons, foldS, ofL_data']
    cases step x i a with
    | inl a' => exact foldS_ofL step L (i + 1) a'
    | inr e => rfl
theorem lineS_len {l : List UInt8} {i : Nat} {t t' : List T3} (h : lineS l i t = .inl t') : t'.length ≤ t.length + 1 := by
  unfold lineS at h
  split at h
  · cases h; omega
  · split at h
    · cases h; omega
    · split at h
      · split at h
        · cases h; simp
        · cases h
      · cases h
theorem parseF_ok (lf : Nat) (n : Nat) (hn : n < 4000000000) (t : List T3) (v : List T3 → Option Int) (hv : v t = some (if vt t then 0 else 11)) :
    cond (decide ((t.length : Int) = (0 : Int))) (some (([] : List T3), ((w64 ((n : Int) + (1 : Int))), (12 : Int)))) ((v t).bind fun r125 => cond (!(decide (r125 = (0 : Int)))) (some (([] : List T3), ((0 : Int), r125))) (some (t, ((0 : Int), (0 : Int))))) = some (parseF n t) := by
  rw [hv, succ_w hn]
  unfold parseF
  cases t with
  | nil => simp
  | cons a r =>
    have : decide ((((a :: r).length : Nat) : Int) = 0) = false := decide_eq_false (by simp; omega)
    simp only [this, cond_false, Option.bind_some, reduceCtorEq, if_false]
    cases vt (a :: r) <;> simp
theorem parseF_ok' (lf : Nat) (n : Nat) (hn : n < 4000000000) (t : List T3) (v : List T3 → Option Bool) (hv : v t = some (vt t)) :
    cond (decide ((t.length : Int) = (0 : Int))) (some (([] : List T3), ((w64 ((n : Int) + (1 : Int))), (12 : Int)))) ((v t).bind fun r63 => cond (!r63) (some (([] : List T3), ((0 : Int), (11 : Int)))) (some (t, ((0 : Int), (0 : Int))))) = some (parseF n t) := by
  rw [hv, succ_w hn]
  unfold parseF
  cases t with
  | nil => simp
  | cons a r =>
    have : decide ((((a :: r).length : Nat) : Int) = 0) = false := decide_eq_false (by simp; omega)
    simp only [this, cond_false, Option.bind_some, reduceCtorEq, if_false]
    cases vt (a :: r) <;> simp
theorem wd_head {l : List UInt8} (h : wd [] l ≠ []) : ∃ c r, l = c :: r := by
  cases l with
  | nil => simp [wd] at h
  | cons c r => exact ⟨c, r, rfl⟩
theorem last_trim (l : List UInt8) (hl : l.length ≤ 8000) (f : List ByteArray → Option PR) : jn (((getI ((sp l).map ofL) (w64 ((((sp l).map ofL).length : Int) - (1 : Int))))).bind fun r104 => cond ((ByteArray.toList r104) == ([] : List UInt8)) (((subI ((sp l).map ofL) (0 : Int) (w64 ((((sp l).map ofL).length : Int) - (1 : Int))))).bind fun r105 => some (Sum.inl r105)) (some (.inl ((sp l).map ofL)))) f = f ((lns l).map ofL) := by
  have hlen := sp_len l
  have hne := sp_ne l
  unfold lns
  generalize sp l = S at *
  obtain ⟨ini, la, rfl⟩ : ∃ ini la, S = ini ++ [la] := ⟨S.dropLast, S.getLast hne, (List.dropLast_concat_getLast hne).symm⟩
  rw [List.length_append, List.length_singleton] at hlen
  have e1 : (((ini ++ [la]).map ofL).length : Int) = ((ini.length + 1 : Nat) : Int) := by simp
  rw [e1, pred_w (by omega) (by omega), show ini.length + 1 - 1 = ini.length by omega]
  have e2 : getI ((ini ++ [la]).map ofL) (ini.length : Int) = some (ofL la) := getI_nat (by simp)
  have e3 : subI ((ini ++ [la]).map ofL) 0 (ini.length : Int) = some (ini.map ofL) := by
    unfold subI
    rw [if_pos ⟨by omega, by omega, by simp; omega⟩]
    simp
  rw [e2, e3]
  simp only [Option.bind_some, eqL', ofL_data']
  unfold trimE
  by_cases h : la = []
  · subst h; simp [jn]
  · simp [h, jn]
theorem G6_parse (lf : Nat) (hlf : 8002 < lf) (l : List UInt8) : G6 lf (ofL l) = some (parseS l) := by
  rw [G6_eq, ofL_size]
  unfold parseS
  by_cases hl : 8000 < l.length
  · have e : decide ((l.length : Int) > 8000) = true := decide_eq_true (by omega)
    simp [e, hl]
  · have e : decide ((l.length : Int) > 8000) = false := decide_eq_false (by omega)
    simp only [e, cond_false, hl, if_false]
    rw [splitC_sp (by rw [ofL_size]; omega), ofL_data']
    simp only [Option.bind_some]
    rw [last_trim l (by omega)]
    have hM : ((lns l).map ofL).length ≤ 8001 := by rw [List.length_map]; have := lns_len l; omega
    refine Eq.trans (iter_all (ρ := PR) (fun (i : Int) (t : List T3) => (i, t)) (fun x i t => lineS x.data.toList i t) (fun i t => t.length ≤ i) ((lns l).map ofL) (parseF (lns l).length) [] lf ?h1 ?hg ?h2 (by omega) (by simp)) ?_
    case h1 =>
      intro i x t hx hgd
      have hi := (List.getElem?_eq_some_iff.1 hx).1
      have hi' : decide ((i : Int) < (((lns l).map ofL).length : Int)) = true := decide_eq_true (by omega)
      obtain ⟨y, hy, rfl⟩ : ∃ y ∈ lns l, ofL y = x := List.mem_map.1 (List.mem_of_getElem? hx)
      have hyl := lns_mem l y hy
      simp only [hi', cond_true, getI_nat hx, Option.bind_some, ofL_data']
      rw [show (fun y109 : Nat => isSp y109) = is32 from rfl, fieldsC_wd (by rw [ofL_size]; omega), ofL_data', succ_w (show i < 4000000000 by omega)]
      simp only [Option.bind_some, List.length_map]
      unfold lineS
      by_cases h0 : wd [] y = []
      · simp [h0]
      · obtain ⟨c, r, rfl⟩ := wd_head h0
        have e0 : decide ((((wd [] (c :: r)).length : Nat) : Int) = 0) = false := decide_eq_false (by intro h; exact h0 (List.eq_nil_of_length_eq_zero (by omega)))
        simp only [e0, cond_false, byteAt_0, Option.bind_some, b35, h0, if_false, List.head?_cons, Option.some.injEq]
        by_cases h35 : c = 35
        · simp [h35]
        · simp only [h35, decide_false, cond_false, if_false]
          generalize wd [] (c :: r) = W at *
          match W, h0, e0 with
          | [], h0, _ => exact absurd rfl h0
          | [a], _, _ => simp
          | [a, b], _, _ => simp
          | a :: b :: c :: d :: r, _, _ =>
            have : decide ((((a :: b :: c :: d :: r).length : Nat) : Int) = 3) = false := decide_eq_false (by simp; omega)
            simp only [List.length_map, this, Bool.not_false, cond_true]
          | [a, b, c], _, _ =>
            have e3 : decide ((([a, b, c].length : Nat) : Int) = 3) = true := by simp
            have g0 : getI ([a, b, c].map ofL) 0 = some (ofL a) := rfl
            have g1 : getI ([a, b, c].map ofL) 1 = some (ofL b) := rfl
            have g2 : getI ([a, b, c].map ofL) 2 = some (ofL c) := rfl
            simp only [e3, Bool.not_true, cond_false, g0, g1, g2, Option.bind_some, G20_num, agree_self]
            cases num 10 a false with
            | none => simp [sm, outR]
            | some n1 =>
              simp only [sm]
              cases num 10 b true with
              | none => simp [sm, outR]
              | some n2 =>
                simp only [sm, Option.bind_some]
                cases num 10 c true with
                | none => simp [sm, outR]
                | some n3 =>
                  simp only [sm, Option.bind_some]
                  rw [appC_of (by simp; omega)]
                  rfl
    case hg =>
      intro i x a a' hx hgd hst
      have := lineS_len hst
      omega
    case h2 =>
      intro t hgd
      simp only [Int.lt_irrefl, decide_false, cond_false]
      have := parseF_ok lf ((lns l).map ofL).length (by omega) t (G10 lf) (G10_vt lf (by omega) t)
      rw [this, List.length_map]
      rfl
    · rw [foldS_ofL lineS]
      cases foldS lineS (lns l) 0 [] <;> rfl
theorem G7_parse (lf : Nat) (hlf : 8002 < lf) (l : List UInt8) : G7 lf (ofL l) = some (parseS l) := by
  rw [G7_eq, ofL_size]
  unfold parseS
  by_cases hl : 8000 < l.length
  · have e : decide ((l.length : Int) > 8000) = true := decide_eq_true (by omega)
    simp [e, hl]
  · have e : decide ((l.length : Int) > 8000) = false := decide_eq_false (by omega)
    simp only [e, cond_false, hl, if_false]
    rw [G21_lns lf l (by omega) (by omega)]
    simp only [Option.bind_some]
    have hM : ((lns l).map ofL).length ≤ 8001 := by rw [List.length_map]; have := lns_len l; omega
    refine Eq.trans (iter_all (ρ := PR) (fun (i : Int) (t : List T3) => (i, t)) (fun x i t => lineS x.data.toList i t) (fun i t => t.length ≤ i) ((lns l).map ofL) (parseF (lns l).length) [] lf ?h1 ?hg ?h2 (by omega) (by simp)) ?_
    case h1 =>
      intro i x t hx hgd
      have hi := (List.getElem?_eq_some_iff.1 hx).1
      have hi' : decide ((i : Int) < (((lns l).map ofL).length : Int)) = true := decide_eq_true (by omega)
      obtain ⟨y, hy, rfl⟩ : ∃ y ∈ lns l, ofL y = x := List.mem_map.1 (List.mem_of_getElem? hx)
      have hyl := lns_mem l y hy
      simp only [hi', cond_true, getI_nat hx, Option.bind_some, ofL_data']
      rw [G22_wd lf y (by omega) (by omega), succ_w (show i < 4000000000 by omega)]
      simp only [Option.bind_some, List.length_map]
      unfold lineS
      by_cases h0 : wd [] y = []
      · simp [h0]
      · obtain ⟨c, r, rfl⟩ := wd_head h0
        have e0 : decide ((((wd [] (c :: r)).length : Nat) : Int) = 0) = false := decide_eq_false (by intro h; exact h0 (List.eq_nil_of_length_eq_zero (by omega)))
        simp only [e0, cond_false, byteAt_0, Option.bind_some, b35, h0, if_false, List.head?_cons, Option.some.injEq]
        by_cases h35 : c = 35
        · simp [h35]
        · simp only [h35, decide_false, cond_false, if_false]
          generalize wd [] (c :: r) = W at *
          match W, h0, e0 with
          | [], h0, _ => exact absurd rfl h0
          | [a], _, _ => simp
          | [a, b], _, _ => simp
          | a :: b :: c :: d :: r, _, _ =>
            have : decide ((((a :: b :: c :: d :: r).length : Nat) : Int) = 3) = false := decide_eq_false (by simp; omega)
            simp only [List.length_map, this, Bool.not_false, cond_true]
          | [a, b, c], _, _ =>
            have e3 : decide ((([a, b, c].length : Nat) : Int) = 3) = true := by simp
            have g0 : getI ([a, b, c].map ofL) 0 = some (ofL a) := rfl
            have g1 : getI ([a, b, c].map ofL) 1 = some (ofL b) := rfl
            have g2 : getI ([a, b, c].map ofL) 2 = some (ofL c) := rfl
            have n1 : ∀ w s, G23 lf (ofL w, ((10 : Int), s)) = some (pairN (num 10 w s)) := fun w s => G23_num lf 10 (by omega) (by omega) w s
            simp only [e3, Bool.not_true, cond_false, g0, g1, g2, Option.bind_some, n1]
            cases num 10 a false with
            | none => simp [jn, pairN]
            | some n1 =>
              cases num 10 b true with
              | none => simp [jn, pairN]
              | some n2 =>
                cases num 10 c true with
                | none => simp [jn, pairN]
                | some n3 =>
                  simp only [pairN, Bool.not_true, cond_false, jn]
                  rw [appC_of (by simp; omega)]
                  rfl
    case hg =>
      intro i x a a' hx hgd hst
      have := lineS_len hst
      omega
    case h2 =>
      intro t hgd
      simp only [Int.lt_irrefl, decide_false, cond_false]
      have := parseF_ok' lf ((lns l).map ofL).length (by omega) t (G14 lf) (G14_vt lf (by omega) t)
      rw [this, List.length_map]
      rfl
    · rw [foldS_ofL lineS]
      cases foldS lineS (lns l) 0 [] <;> rfl
end Go.K
set_option linter.unusedVariables false
set_option linter.unusedSimpArgs false
namespace Go.K
open Go.Sl Go.Sx Go.Proofs
theorem sp_cut : ∀ (u r : List UInt8), (∀ b ∈ u, b ≠ 10) → sp (u ++ 10 :: r) = u :: sp r
  | [], r, _ => by simp [sp]
  | b :: u, r, h => by
    have ih := sp_cut u r fun c hc => h c (by simp [hc])
    simp only [List.cons_append, sp, h b (by simp), if_false, ih]
theorem dec_all : ∀ u : Nat, ∀ b ∈ Lib.decDigits u, isD b = true := by
  intro u
  induction u using Nat.strongRecOn with
  | _ u ih =>
    intro b hb
    by_cases h : u < 10
    · rw [dec_small h] at hb
      simp only [List.mem_singleton] at hb
      subst hb
      rw [isD_iff, UInt8.toNat_ofNat']; omega
    · rw [dec_big h] at hb
      rcases List.mem_append.1 hb with hb | hb
      · exact ih (u / 10) (by omega) b hb
      · simp only [List.mem_singleton] at hb
        subst hb
        rw [isD_iff, UInt8.toNat_ofNat']; omega
theorem head_app {α : Type} {a b : List α} (h : a ≠ []) : (a ++ b).head? = a.head? := by
  cases a with
  | nil => exact absurd rfl h
  | cons _ _ => rfl
theorem dec_head : ∀ u : Nat, 1 ≤ u → (Lib.decDigits u).head? ≠ some 48 := by
  intro u
  induction u using Nat.strongRecOn with
  | _ u ih =>
    intro h1
    by_cases h : u < 10
    · rw [dec_small h]
      intro e
      simp only [List.head?_cons, Option.some.injEq] at e
      have := congrArg UInt8.toNat e
      rw [UInt8.toNat_ofNat'] at this
      have e48 : (48 : UInt8).toNat = 48 := rfl
      omega
    · rw [dec_big h]
      have hl := (dec_len (u / 10)).1
      rw [head_app (by intro e; rw [e] at hl; simp at hl)]
      exact ih (u / 10) (by omega) (by omega)
theorem dec_len10 : ∀ (k u : Nat), u < 10 ^ (k + 1) → (Lib.decDigits u).length ≤ k + 1
  | k, u, h => by
    by_cases h1 : u < 10
    · rw [dec_small h1]; simp
    · cases k with
      | zero => simp at h; omega
      | succ k =>
        rw [dec_big h1]
        have hp : 10 ^ (k + 1 + 1) = 10 ^ (k + 1) * 10 := Nat.pow_succ ..
        have := dec_len10 k (u / 10) (by omega)
        simp; omega
theorem valF_app (a b : List UInt8) (n : Int) : valF (a ++ b) n = valF b (valF a n) := by unfold valF; rw [List.foldl_append]
theorem dec_val : ∀ u : Nat, valD (Lib.decDigits u) = (u : Int) := by
  intro u
  induction u using Nat.strongRecOn with
  | _ u ih =>
    by_cases h : u < 10
    · rw [dec_small h]
      unfold valD valF
      simp only [List.foldl_cons, List.foldl_nil, UInt8.toNat_ofNat']
      omega
    · have e := ih (u / 10) (by omega)
      rw [dec_big h]
      unfold valD at e ⊢
      rw [valF_app, e]
      unfold valF
      simp only [List.foldl_cons, List.foldl_nil, UInt8.toNat_ofNat']
      omega
theorem dec_ok {m k u : Nat} (h : u < 10 ^ (k + 1)) (hm : k + 1 ≤ m) : okD m (Lib.decDigits u) = true := by
  unfold okD
  rw [Bool.and_eq_true, decide_eq_true_eq]
  have h1 := (dec_len u).1
  have h2 := dec_len10 k u h
  refine ⟨⟨h1, by omega, fun ⟨k1, k2⟩ => ?_⟩, List.all_eq_true.2 (dec_all u)⟩
  by_cases hu : 1 ≤ u
  · exact dec_head u hu k2
  · have : u = 0 := by omega
    subst this
    rw [dec_small (by omega)] at k1
    simp at k1
theorem itoa_neg {n : Int} (h : n < 0) : Lib.itoa n = 45 :: Lib.decDigits n.natAbs := by unfold Lib.itoa; rw [if_pos h]
theorem itoa_pos {n : Int} (h : ¬ n < 0) : Lib.itoa n = Lib.decDigits n.toNat := by unfold Lib.itoa; rw [if_neg h]
theorem num_itoa {n : Int} {sg : Bool} (hs : n < 0 → sg = true) (h : -9999999999 ≤ n ∧ n ≤ 9999999999) : num 10 (Lib.itoa n) sg = some n := by
  have e10 : 10 ^ (9 + 1) = 10000000000 := by decide
  unfold num
  by_cases hn : n < 0
  · rw [itoa_neg hn, hs hn]
    have ok := dec_ok (m := 10) (k := 9) (u := n.natAbs) (by omega) (by omega)
    have hh := dec_head n.natAbs (by omega)
    simp only [List.head?_cons, if_true, List.tail_cons, ok, Bool.true_and, decide_eq_true_eq, hh, ne_eq, not_false_eq_true, dec_val]
    congr 1
    omega
  · rw [itoa_pos hn]
    have ok := dec_ok (m := 10) (k := 9) (u := n.toNat) (by omega) (by omega)
    have hh : (Lib.decDigits n.toNat).head? ≠ some 45 := by
      intro e
      have := isD_iff.1 (dec_all n.toNat 45 (List.mem_of_mem_head? e))
      have e45 : (45 : UInt8).toNat = 45 := rfl
      omega
    rw [if_neg hh, ok, dec_val]
    simp only [if_true]
    congr 1
    omega
theorem itoa_mem {n : Int} {b : UInt8} (h : b ∈ Lib.itoa n) : b = 45 ∨ isD b = true := by
  by_cases hn : n < 0
  · rw [itoa_neg hn] at h
    rcases List.mem_cons.1 h with h | h
    · exact .inl h
    · exact .inr (dec_all _ b h)
  · rw [itoa_pos hn] at h
    exact .inr (dec_all _ b h)
theorem itoa_no {n : Int} {b c : UInt8} (h : b ∈ Lib.itoa n) (hc : c ≠ 45) (hd : isD c = false) : b ≠ c := by
  rintro rfl
  rcases itoa_mem h with h | h
  · exact hc h
  · rw [hd] at h; cases h
theorem itoa_ne (n : Int) : Lib.itoa n ≠ [] := by
  intro e
  by_cases hn : n < 0
  · rw [itoa_neg hn] at e; cases e
  · rw [itoa_pos hn] at e
    have := (dec_len n.toNat).1
    rw [e] at this
    simp at this
theorem itoa_len {n : Int} (h : -9999999999 ≤ n ∧ n ≤ 9999999999) : (Lib.itoa n).length ≤ 11 := by
  have e10 : 10 ^ (9 + 1) = 10000000000 := by decide
  by_cases hn : n < 0
  · rw [itoa_neg hn]
    have := dec_len10 9 n.natAbs (by omega)
    simp; omega
  · rw [itoa_pos hn]
    have := dec_len10 9 n.toNat (by omega)
    omega
def lnL (p : T3) : List UInt8 := Lib.itoa p.1 ++ 32 :: (Lib.itoa p.2.1 ++ 32 :: Lib.itoa p.2.2)
theorem Ln_data (p : T3) : (Ln p).data.toList = lnL p ++ [10] := by
  have e32 : (bts [32]).data.toList = [32] := by simp [bts]
  have ei : ∀ n, (It n).data.toList = Lib.itoa n := fun n => ofL_data _
  unfold Ln lnL
  simp only [app_data, e32, bts10, ei]
  simp
theorem lnL_no10 (p : T3) : ∀ b ∈ lnL p, b ≠ 10 := by
  intro b hb
  unfold lnL at hb
  simp only [List.mem_append, List.mem_cons] at hb
  rcases hb with hb | rfl | hb | rfl | hb
  · exact itoa_no hb (by decide) (by decide)
  · decide
  · exact itoa_no hb (by decide) (by decide)
  · decide
  · exact itoa_no hb (by decide) (by decide)
theorem sp_Pr : ∀ t : List T3, sp (Pr t) = t.map lnL ++ [[]]
  | [] => rfl
  | p :: t => by
    have : Pr (p :: t) = lnL p ++ 10 :: Pr t := by
      unfold Pr
      rw [List.flatMap_cons, Ln_data]
      simp
    rw [this, sp_cut _ _ (lnL_no10 p), sp_Pr t]
    rfl
theorem lns_Pr (t : List T3) : lns (Pr t) = t.map lnL := by
  unfold lns
  rw [sp_Pr]
  unfold trimE
  simp
theorem wd_lnL (p : T3) : wd [] (lnL p) = [Lib.itoa p.1, Lib.itoa p.2.1, Lib.itoa p.2.2] := by
  have h : ∀ n : Int, ∀ b ∈ Lib.itoa n, b ≠ 32 := fun n b hb => itoa_no hb (by decide) (by decide)
  unfold lnL
  rw [wd_sp _ _ (itoa_ne _) (h _), wd_sp _ _ (itoa_ne _) (h _), wd_one _ (itoa_ne _) (h _)]
theorem lnL_head (p : T3) : (lnL p).head? ≠ some 35 := by
  unfold lnL
  rw [head_app (itoa_ne _)]
  intro e
  exact itoa_no (List.mem_of_mem_head? e) (c := 35) (by decide) (by decide) rfl
theorem lineS_lnL (p : T3) (hp : PB p) (i : Nat) (t : List T3) : lineS (lnL p) i t = .inl (t ++ [p]) := by
  obtain ⟨h1, h2, h3, h4, h5⟩ := hp
  unfold lineS
  rw [wd_lnL, if_neg (by simp), if_neg (lnL_head p)]
  simp only
  rw [num_itoa (by omega) (by omega), num_itoa (by simp) (by omega), num_itoa (by simp) (by omega)]
theorem foldS_lnL : ∀ (t : List T3) (i : Nat) (a : List T3), (∀ p ∈ t, PB p) → foldS lineS (t.map lnL) i a = .inl (a ++ t)
  | [], i, a, _ => by simp [foldS]
  | p :: t, i, a, h => by
    simp only [List.map_cons, foldS, lineS_lnL p (h p (by simp))]
    rw [foldS_lnL t (i + 1) (a ++ [p]) fun q hq => h q (by simp [hq])]
    simp
theorem Pr_len : ∀ (t : List T3), (∀ p ∈ t, PB p) → (Pr t).length ≤ 36 * t.length
  | [], _ => by simp [Pr]
  | p :: t, h => by
    have ih := Pr_len t fun q hq => h q (by simp [hq])
    obtain ⟨h1, h2, h3, h4, h5⟩ := h p (by simp)
    have a1 := itoa_len (n := p.1) (by omega)
    have a2 := itoa_len (n := p.2.1) (by omega)
    have a3 := itoa_len (n := p.2.2) (by omega)
    unfold Pr at ih ⊢
    rw [List.flatMap_cons, Ln_data]
    unfold lnL
    simp only [List.length_append, List.length_cons, List.length_nil] at ih ⊢
    omega
theorem parse_Pr (t : List T3) (h : vt t = true) : parseS (Pr t) = (t, (0, 0)) := by
  obtain ⟨hl, hall⟩ := vt_all h
  have hP : ∀ p ∈ t, PB p := fun p hp => by
    obtain ⟨i, hi⟩ := List.getElem?_of_mem hp
    exact hall hi
  have hlen := Pr_len t hP
  unfold parseS
  rw [if_neg (by omega), lns_Pr, foldS_lnL t 0 [] hP]
  simp only [List.nil_append]
  unfold parseF
  rw [if_neg (by rintro rfl; simp at hl), if_pos h]
theorem G8_same (lf : Nat) (t : List T3) (h : t.length < lf) (hl : t.length ≤ 40) : G8 lf (t, t) = some true := by
  rw [G8_eq]
  simp only [decide_true, Bool.not_true, cond_false]
  refine Eq.trans (iter_all (fun (i : Int) (_ : Unit) => i) (fun (_ : T3) _ _ => Sum.inl ()) (fun _ _ => True) t (fun _ => true) () lf ?h1 (fun _ _ _ _ _ _ _ => trivial) ?h2 h trivial) ?_
  case h1 =>
    intro i x a hx _
    have hi := (List.getElem?_eq_some_iff.1 hx).1
    have hi' : decide ((i : Int) < (t.length : Int)) = true := decide_eq_true (by omega)
    simp only [hi', cond_true, getI_nat hx, Option.bind_some, decide_true, Bool.and_self, Bool.not_true, cond_false, succ_w (show i < 4000000000 by omega)]
  case h2 =>
    intro a _
    simp
  · have : ∀ (l : List T3) (i : Nat), foldS (ρ := Bool) (fun (_ : T3) _ (_ : Unit) => Sum.inl ()) l i () = .inl () := by
      intro l
      induction l with
      | nil => intro i; rfl
      | cons x l ih => intro i; simp only [foldS]; exact ih (i + 1)
    rw [this]
theorem lineS_inr {l : List UInt8} {i : Nat} {t : List T3} {e : PR} (h : lineS l i t = .inr e) : e.1 = [] := by
  unfold lineS at h
  split at h
  · cases h
  · split at h
    · cases h
    · split at h
      · split at h
        · cases h
        · cases h; rfl
      · cases h; rfl
theorem foldS_inr {l : List (List UInt8)} {i : Nat} {t : List T3} {e : PR} (h : foldS lineS l i t = .inr e) : e.1 = [] := by
  induction l generalizing i t with
  | nil => simp [foldS] at h
  | cons x l ih =>
    simp only [foldS] at h
    split at h
    · exact ih h
    · rename_i hx
      cases h
      exact lineS_inr hx
theorem parseS_len (l : List UInt8) : (parseS l).1.length ≤ 40 := by
  unfold parseS
  split
  · simp
  · split
    · unfold parseF
      split
      · simp
      · split
        · rename_i hv
          exact (vt_all hv).1.2
        · simp
    · rename_i h
      rw [foldS_inr h]; simp
theorem G3_true (lf : Nat) (hlf : 8002 < lf) (t : List T3) (s : ByteArray) : G3 lf (t, s) = some true := by
  obtain ⟨l, rfl⟩ : ∃ l, s = ofL l := ⟨_, (ofL_back s).symm⟩
  have hp := parseS_len l
  rw [G3_eq, G6_parse lf hlf, G7_parse lf hlf, G4_pr lf (by omega), G5_pr lf (by omega)]
  cases hv : vt t with
  | false =>
    simp only [Bool.false_eq_true, if_false, Option.bind_some, G8_same lf _ (show (parseS l).1.length < lf by omega) hp]
    simp [jn]
  | true =>
    have hr : G6 lf ⟨(Pr t).toArray⟩ = some (t, (0, 0)) := by
      rw [show (⟨(Pr t).toArray⟩ : ByteArray) = ofL (Pr t) from rfl, G6_parse lf hlf, parse_Pr t hv]
    have hl := (vt_all hv).1
    simp only [if_true, Option.bind_some, G8_same lf _ (show (parseS l).1.length < lf by omega) hp, hr, G8_same lf t (by omega) hl.2]
    simp [jn]
end Go.K
namespace Go.Sx
open Go.Sl Go.Shelf Go.Proofs
variable {P : Program} {ρ : Ren} {h : Zone} {L : List Atom} {w : World} {E : TypeId} {o : Option Addr} {cap : Nat} {xs : List Int}
theorem rows_int : ∀ {xs : List Int} {cs : List Value}, Rows Ty.int h cs xs ↔ cs = xs.map (Value.int .i64)
  | [], cs => by simp [Rows]
  | x :: xs, cs => by
    constructor
    · rintro ⟨c, d, rfl, hc, hd⟩
      have hc' : c = [.int .i64 x] := hc
      rw [hc', (rows_int (xs := xs)).1 hd]
      rfl
    · intro e
      subst e
      exact ⟨[.int .i64 x], xs.map (Value.int .i64), rfl, rfl, rows_int.2 rfl⟩
def insI (x : Int) : List Int → List Int
  | [] => [x]
  | y :: ys => bif decide (x ≤ y) then x :: y :: ys else y :: insI x ys
def sortL : List Int → List Int
  | [] => []
  | x :: xs => insI x (sortL xs)
theorem insI_perm (x : Int) : ∀ ys, (insI x ys).Perm (x :: ys)
  | [] => List.Perm.refl _
  | y :: ys => by
    unfold insI
    cases decide (x ≤ y) with
    | true => exact List.Perm.refl _
    | false => exact ((insI_perm x ys).cons y).trans (List.Perm.swap x y ys)
theorem sortL_perm : ∀ xs, (sortL xs).Perm xs
  | [] => List.Perm.refl _
  | x :: xs => (insI_perm x _).trans ((sortL_perm xs).cons x)
theorem insI_sorted (x : Int) : ∀ {ys : List Int}, ys.Pairwise (· ≤ ·) → (insI x ys).Pairwise (· ≤ ·)
  | [], _ => by simp [insI]
  | y :: ys, h => by
    obtain ⟨h1, h2⟩ := List.pairwise_cons.1 h
    unfold insI
    by_cases hxy : x ≤ y
    · simp only [hxy, decide_true, cond_true]
      refine List.pairwise_cons.2 ⟨fun z hz => ?_, h⟩
      rcases List.mem_cons.1 hz with e | e
      · omega
      · have := h1 z e; omega
    · simp only [hxy, decide_false, cond_false]
      refine List.pairwise_cons.2 ⟨fun z hz => ?_, insI_sorted x h2⟩
      rcases List.mem_cons.1 ((insI_perm x ys).mem_iff.1 hz) with e | e
      · omega
      · exact h1 z e
theorem sortL_sorted : ∀ xs, (sortL xs).Pairwise (· ≤ ·)
  | [] => List.Pairwise.nil
  | x :: xs => insI_sorted x (sortL_sorted xs)
theorem sortL_eq (xs : List Int) : (xs.mergeSort fun x y => decide (x ≤ y)) = sortL xs := by
  have h1 := List.pairwise_mergeSort (le := fun x y : Int => decide (x ≤ y)) (fun a b c h1 h2 => by simp at *; omega) (fun a b => by simp; omega) xs
  refine List.Perm.eq_of_pairwise (le := fun a b : Int => a ≤ b) (fun a b _ _ h1 h2 => by omega) (h1.imp (by simp)) (sortL_sorted xs) ((List.mergeSort_perm _ _).trans (sortL_perm xs).symm)
theorem sortL_len (xs : List Int) : xs.length = (sortL xs).length := (sortL_perm xs).length_eq.symm
theorem own_ints {cur : Array Value} (hr : Rows Ty.int h (cur.toList.take (xs.length * Ty.int.size)) xs) : cur.toList.take xs.length = xs.map (Value.int .i64) := by
  have := rows_int.1 hr
  simpa [Ty.int] using this
theorem St.ownPut (hS : St h L w) {j : Nat} {g : Nat} {ys : List Int} (hj : L[j]? = some (ownS Ty.int E (some ⟨g, 0, none⟩) cap xs)) (hl : ys.length = xs.length) (n : Nat) (os : Array Obj) :
    St h (L.set j (ownS Ty.int E (some ⟨g, 0, none⟩) cap ys)) (Sort.grow (Sort.putRow (Value.int .i64) (Sort.ahead w n) g 0 ys.toArray) os) := by
  obtain ⟨x, hx, hxw, dx, hset⟩ := hS.focus hj
  rcases hx with ⟨e, _⟩ | ⟨g', cur, e, rfl, h1, h2, h3, h4⟩
  · cases e
  · have hg : g' = g := by cases e; rfl
    subst hg
    have hb : w.heap[g']? = some (.cells cur E (0, 0)) := Hp.one_le.1 hxw
    have hsz : cur.size = cap := by simpa [Ty.int] using h3
    have hlen : ys.length ≤ cur.size := by omega
    have hgr := grownBy_sortedI (w := w) (g := g') (n := n) (os := os) ys.toArray
    refine hset _ (ownS Ty.int E (some ⟨g', 0, none⟩) cap ys) (Hp.one g' (.cells (Sort.putCells (Value.int .i64) 0 ys.toArray cur) E (0, 0)))
      (.inr ⟨g', _, rfl, rfl, by omega, h2, by simp [Sort.putCells, h3], ?_⟩) (Hp.one_le.2 (heap_sortedI ys.toArray hb)) (fun b hb' hn => hgr.block b hb' fun e => ?_) (fun b o' e => .inr ?_) hgr.os hgr.tape hgr.output
    · have := take_putCellsI cur ys hlen
      have e1 : ys.length * Ty.int.size = ys.length := by simp [Ty.int]
      rw [e1, this]
      exact rows_int.2 rfl
    · cases e; simp [Hp.one] at hn
    · unfold Hp.one at e ⊢
      split at e
      · rename_i hbg; simp [hbg]
      · cases e
theorem sortOwn (Ly : Lays.n189 P ρ) (hS : St h L w) {j : Nat} (hj : L[j]? = some (ownS Ty.int E o cap xs)) (hsz : xs.length ≤ 1099511627776) :
    Calls P (ρ.f 189) #[.slice o xs.length cap] w fun e w' => ∃ v, e = .returned v ∧ v = .tuple #[] ∧ St h (L.set j (ownS Ty.int E o cap (sortL xs))) w' := by
  obtain ⟨x, hx, hxw, dx, hset⟩ := hS.focus hj
  rcases hx with ⟨rfl, rfl, rfl, rfl⟩ | ⟨g, cur, rfl, rfl, h1, h2, h3, h4⟩
  · refine (Any.slices_Sort_int_none Ly none 0 w).mono ?_
    rintro e w' ⟨rfl, rfl⟩
    refine ⟨_, rfl, rfl, ?_⟩
    have : sortL [] = [] := rfl
    rw [this]
    exact hset w' (ownS Ty.int E none 0 []) Hp.nil (.inl ⟨rfl, rfl, rfl, rfl⟩) (Hp.nil_le _) (fun _ _ _ => rfl) (fun b o e => by simp [Hp.nil] at e) rfl rfl rfl
  · have hb : w.heap[g]? = some (.cells cur E (0, 0)) := Hp.one_le.1 hxw
    have hH := holds_of_blockI hb (own_ints h4)
    refine (Any.slices_Sort_int Ly g 0 cap xs w hH (Array.getElem?_eq_some_iff.1 hb).1 (by omega)).mono ?_
    rintro e w' ⟨rfl, n, os, rfl⟩
    rw [sortL_eq]
    exact ⟨_, rfl, rfl, St.ownPut hS hj (sortL_len xs).symm n os⟩
def compL (xs : List Int) : List Int := Lib.compact xs
theorem compactOwn (Ly : SlLaysN.n43 P ρ) (hS : St h L w) {j : Nat} (hj : L[j]? = some (ownS Ty.int E o cap xs)) (hsz : xs.length ≤ 1099511627776) :
    Calls P (ρ.f 43) #[.slice o xs.length cap] w fun e w' => ∃ v, e = .returned v ∧ v = .slice o (compL xs).length cap ∧ St h (L.set j (ownS Ty.int E o cap (compL xs))) w' := by
  obtain ⟨x, hx, hxw, dx, hset⟩ := hS.focus hj
  rcases hx with ⟨rfl, rfl, rfl, rfl⟩ | ⟨g, cur, rfl, rfl, h1, h2, h3, h4⟩
  · refine (AnyG.slices_Compact_int_empty Ly none 0 w).mono ?_
    rintro e w' ⟨rfl, rfl⟩
    have hc : compL [] = [] := by simp [compL, Lib.compact, Lib.compactUpTo]
    rw [hc]
    exact ⟨_, rfl, rfl, hset w' (ownS Ty.int E none 0 []) Hp.nil (.inl ⟨rfl, rfl, rfl, rfl⟩) (Hp.nil_le _) (fun _ _ _ => rfl) (fun b o e => by simp [Hp.nil] at e) rfl rfl rfl⟩
  · have hb : w.heap[g]? = some (.cells cur E (0, 0)) := Hp.one_le.1 hxw
    have hH := holds_of_blockI hb (own_ints h4)
    refine (AnyG.slices_Compact_int Ly g 0 cap xs w hH (by omega) h1).mono ?_
    rintro e w' ⟨rfl, q, rfl⟩
    have hle : (Lib.compact xs).length ≤ xs.length := by
      unfold Lib.compact Lib.compactUpTo
      rw [List.length_map]
      exact Nat.le_trans (List.length_filter_le _ _) (by simp)
    have hlen : (Lib.compact xs ++ List.replicate (xs.length - (Lib.compact xs).length) 0).length = xs.length := by
      rw [List.length_append, List.length_replicate]; omega
    have h5 := St.ownPut hS hj hlen q #[]
    rw [Sort.grow_empty] at h5
    refine ⟨_, rfl, rfl, ?_⟩
    have hlt := (List.getElem?_eq_some_iff.1 hj).1
    have h6 := h5.ownTake (j := j) (T := Ty.int) (E := E) (o := some ⟨g, 0, none⟩) (cap := cap) (xs := Lib.compact xs ++ List.replicate (xs.length - (Lib.compact xs).length) 0) (by simp [hlt]) (n := (Lib.compact xs).length) (by rw [hlen]; exact hle)
    have h7 : (Lib.compact xs ++ List.replicate (xs.length - (Lib.compact xs).length) 0).take (Lib.compact xs).length = compL xs := by simp [compL]
    rw [h7] at h6
    simpa using h6
def lenC {α : Type} (xs : List α) : Option Unit := if xs.length ≤ 1099511627776 then some () else none
theorem lenC_spec {α : Type} {xs : List α} {u : Unit} (e : lenC xs = some u) : xs.length ≤ 1099511627776 := by
  unfold lenC at e
  split at e
  · assumption
  · cases e
def growC (n : Int) : Option Unit := if 0 ≤ n ∧ n ≤ 1099511627776 then some () else none
theorem growNil {α : Type} {T : Ty α} {t : TypeId} {z : Value} (Ly : Lays8.n4 P ρ) (hE : ElemOK P t (ρ.t 25) T.size z) (hS : St h L w) {n : Int} {u : Unit} (hn : growC n = some u) :
    Calls P (ρ.f 4) #[.slice none 0 0, .int .i64 n] w fun e w' => ∃ v, e = .returned v ∧ ∃ o c, v = .slice o 0 c ∧ St h (ownS T (ρ.t 25) o c [] :: L) w' := by
  unfold growC at hn
  split at hn
  · rename_i hc
    obtain ⟨h0, h1⟩ := hc
    obtain ⟨k, rfl⟩ := Int.eq_ofNat_of_zero_le h0
    have hk : k ≤ 1099511627776 := by omega
    obtain ⟨i, hi, hsize, hby, hz⟩ := hE.info
    rcases Nat.eq_zero_or_pos k with e | e
    · subst e
      refine (Any8.slices_Grow_room Ly none 0 0 0 w (by omega) (by omega) (by omega) (by omega)).mono ?_
      rintro e w' ⟨rfl, rfl⟩
      exact ⟨_, rfl, none, 0, rfl, hS.ownNil T _⟩
    · have hb : (0 + k) * i.bytes ≤ 140737488355328 := by
        have := Nat.mul_le_mul hk hby
        simpa using this
      have hpos := hE.pos
      refine (Any8.slices_Grow_grow Ly i z hi hz (by omega) none 0 0 k [] w (by omega) (by omega) hb (by omega) (by simp) (fun _ => rfl) (fun a e => by cases e)).mono ?_
      rintro e w' ⟨rfl, rfl⟩
      refine ⟨_, rfl, _, _, rfl, ?_⟩
      have hge := grownCap_ge w (0 + k) 0 (ρ.t 25)
      have hle := grownCap_le_maxLen w (0 + k) 0 (ρ.t 25) (by simp only [maxLen]; omega)
      refine St.new hS.drew (ownS T (ρ.t 25) (some ⟨w.heap.size, 0, none⟩) _ []) _ (.inr ⟨w.heap.size, _, rfl, rfl, by simp, hle, ?_, by simp [Rows]⟩)
      simp only [Array.size_append, size_zeroCells, hE.zs, List.size_toArray, List.length_nil]
      simp only [Nat.zero_add, Nat.sub_zero] at hge ⊢
      rw [← Nat.add_mul]
      congr 1
      omega
  · cases hn
end Go.Sx
namespace Go.Sx
open Go.Sl
structure Rng where
  lo : Int
  hi : Int
  deriving DecidableEq
def RngT : Ty Rng := Ty.flat 2 (fun p => [.int .i64 p.lo, .int .i64 p.hi]) (fun _ => rfl) (fun _ => rfl)
structure Pt where
  x : Int
  lo : Int
  hi : Int
  deriving DecidableEq
def PtT : Ty Pt := Ty.flat 3 (fun p => [.int .i64 p.x, .int .i64 p.lo, .int .i64 p.hi]) (fun _ => rfl) (fun _ => rfl)
end Go.Sx
namespace Go.Proofs
open Go.Shelf Go.Sl Go.Sx
namespace YtdcmpekmpmfffaaGreatDoor
variable {h : Zone} {L : List Atom} {w : World} {E : TypeId} {o : Option Addr} {cap : Nat} {xs : List Int}
theorem sort79 (hS : St h L w) {j : Nat} (hj : L[j]? = some (ownS Ty.int E o cap xs)) (hsz : xs.length ≤ 1099511627776) :
    Calls Tryz.prog 79 #[.slice o xs.length cap] w fun e w' => ∃ v, e = .returned v ∧ v = .tuple #[] ∧ St h (L.set j (ownS Ty.int E o cap (sortL xs))) w' := sortOwn Tryz.sortI hS hj hsz
theorem compact80 (hS : St h L w) {j : Nat} (hj : L[j]? = some (ownS Ty.int E o cap xs)) (hsz : xs.length ≤ 1099511627776) :
    Calls Tryz.prog 80 #[.slice o xs.length cap] w fun e w' => ∃ v, e = .returned v ∧ v = .slice o (compL xs).length cap ∧ St h (L.set j (ownS Ty.int E o cap (compL xs))) w' := compactOwn Tryz.compactI hS hj hsz
theorem el22g : ElemOK Tryz.prog 22 39 3 (.agg #[.int .i64 0, .int .i64 0, .int .i64 0]) := ElemOK.of (i := (Tryz.prog.info? 39).getD default) (by kernel_rfl) (by kernel_rfl) (by kernel_rfl) (by kernel_rfl)
theorem grow103 (hS : St h L w) {n : Int} {u : Unit} (hn : growC n = some u) :
    Calls Tryz.prog 103 #[.slice none 0 0, .int .i64 n] w fun e w' => ∃ v, e = .returned v ∧ ∃ o c, v = .slice o 0 c ∧ St h (ownS PtT 39 o c [] :: L) w' := growNil (T := PtT) Tryz.growP el22g hS hn
end YtdcmpekmpmfffaaGreatDoor
end Go.Proofs
