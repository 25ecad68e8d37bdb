/-
  A part of the walk and of the plain law of one given statement. No condition.
-/
import Derived.Test.YtlkffcddfpghkaaGreatDoorG3
import Derived.Test.YtlkffcddfpghkaaGreatDoorProg
import Derived.Test.YtlkffcddfpghkaaGreatDoorKr
import Derived.Lib.Strings
import Derived.Sort.OwnSortedInts
import Derived.Test.YtlkffcddfpghkaaGreatDoorK7
set_option linter.unusedVariables false
set_option maxRecDepth 100000
set_option maxHeartbeats 0
namespace Go.K
open Go.Sl Go.Sx Go.Proofs
def S266 : FuncId → Sp := fun g => match g with
  | 266 => { loops := [(2, [(.slot 9, .dat .i)])] }
  | _ => {}
noncomputable def F266 (P : Program) (lf : Nat) (x : tt [(false, (.sl .str)), (false, .str)]) : Option (tt [(false, .bool)]) := fnF P (C104 P lf) S266 266 [(false, (.sl .str)), (false, .str)] [(false, .bool)] lf x
noncomputable def C266 (P : Program) (lf : Nat) : FuncId → Option Con := extC (C104 P lf) 266 (dataCon [(false, (.sl .str)), (false, .str)] [(false, .bool)] (F266 P lf))
theorem F266_eq (lf : Nat) (a0 : (List ByteArray)) (a1 : ByteArray) : F266 Tryz.prog lf (a0, a1) =
  iter lf (fun y4 : Int => cond (decide (y4 < (a0.length : Int))) (((getI a0 y4)).bind fun r5 => cond ((ByteArray.toList r5) == (ByteArray.toList a1)) (some (.inr true)) (some (.inl (w64 (y4 + (1 : Int)))))) (some (.inr false))) (0 : Int) := by kernel_rfl
def S199 : FuncId → Sp := fun _ => {}
noncomputable def F199 (P : Program) (lf : Nat) (x : tt [(false, .bool)]) : Option (tt [] ⊕ ((true, .i) : AT).2.den) := fnP P (C266 P lf) S199 199 [(false, .bool)] [] 122 (true, .i) lf x
noncomputable def C199 (P : Program) (lf : Nat) : FuncId → Option Con := extC (C266 P lf) 199 (panCon [(false, .bool)] [] 122 (true, .i) (F199 P lf))
theorem F199_eq (lf : Nat) (a0 : Bool) : F199 Tryz.prog lf a0 =
  cond (!a0) (some (.inr (0 : Int))) (some (.inl ())) := by kernel_rfl
abbrev CK198 : List CK := [.d (.sl .str)]
abbrev U198 : AT := (true, .i)
def S198 : FuncId → Sp := fun _ => {}
noncomputable def F198 (P : Program) (lf : Nat) (x : ckT CK198 × tt []) : Option ((ckT CK198 × tt [(false, .str)]) ⊕ U198.2.den) := fnR P (C199 P lf) S198 198 236 CK198 [] [(false, .str)] 122 U198 lf x
noncomputable def C198 (P : Program) (lf : Nat) : FuncId → Option Con := extC (C199 P lf) 198 (refCon 236 CK198 [] [(false, .str)] 122 U198 (F198 P lf))
theorem F198_eq (lf : Nat) (a0 : (List ByteArray)) : F198 Tryz.prog lf ((a0, ()), ()) =
  ((F199 Tryz.prog lf (decide ((a0.length : Int) > (0 : Int))))).bind fun r6 => sm r6 (fun r7 : PUnit => ((getI a0 (0 : Int))).bind fun r8 => ((subI a0 (1 : Int) (a0.length : Int))).bind fun r9 => some (.inl ((r9, ()), r8))) (fun r10 : Int => some (.inr r10)) := by kernel_rfl
abbrev CK200 : List CK := [.d (.sl .str)]
abbrev U200 : AT := (true, .i)
def S200 : FuncId → Sp := fun _ => {}
noncomputable def F200 (P : Program) (lf : Nat) (x : ckT CK200 × tt []) : Option ((ckT CK200 × tt [(false, .str)]) ⊕ U200.2.den) := fnR P (C198 P lf) S200 200 236 CK200 [] [(false, .str)] 122 U200 lf x
noncomputable def C200 (P : Program) (lf : Nat) : FuncId → Option Con := extC (C198 P lf) 200 (refCon 236 CK200 [] [(false, .str)] 122 U200 (F200 P lf))
theorem F200_eq (lf : Nat) (a0 : (List ByteArray)) : F200 Tryz.prog lf ((a0, ()), ()) =
  ((F198 Tryz.prog lf ((a0, ()), ()))).bind fun r8 => sm r8 (fun r9 : (((List ByteArray) × PUnit) × ByteArray) => ((F94 Tryz.prog lf r9.2)).bind fun r10 => ((F199 Tryz.prog lf r10)).bind fun r11 => sm r11 (fun r12 : PUnit => some (.inl ((r9.1.1, ()), r9.2))) (fun r13 : Int => some (.inr r13))) (fun r14 : Int => some (.inr r14)) := by kernel_rfl
abbrev CK239 : List CK := [.d (.sl .str)]
abbrev U239 : AT := (true, .i)
def S239 : FuncId → Sp := fun _ => {}
noncomputable def F239 (P : Program) (lf : Nat) (x : ckT CK239 × tt [(false, .bool)]) : Option ((ckT CK239 × tt [(false, .i)]) ⊕ U239.2.den) := fnR P (C200 P lf) S239 239 236 CK239 [(false, .bool)] [(false, .i)] 122 U239 lf x
noncomputable def C239 (P : Program) (lf : Nat) : FuncId → Option Con := extC (C200 P lf) 239 (refCon 236 CK239 [(false, .bool)] [(false, .i)] 122 U239 (F239 P lf))
theorem F239_eq (lf : Nat) (a0 : (List ByteArray)) (a1 : Bool) : F239 Tryz.prog lf ((a0, ()), a1) =
  ((F198 Tryz.prog lf ((a0, ()), ()))).bind fun r9 => sm r9 (fun r10 : (((List ByteArray) × PUnit) × ByteArray) => ((F244 Tryz.prog lf (r10.2, a1))).bind fun r11 => ((F199 Tryz.prog lf r11.2)).bind fun r12 => sm r12 (fun r13 : PUnit => some (.inl ((r10.1.1, ()), r11.1))) (fun r14 : Int => some (.inr r14))) (fun r15 : Int => some (.inr r15)) := by kernel_rfl
abbrev CK201 : List CK := [.d (.sl .str)]
abbrev U201 : AT := (true, .i)
def S201 : FuncId → Sp := fun _ => {}
noncomputable def F201 (P : Program) (lf : Nat) (x : ckT CK201 × tt []) : Option ((ckT CK201 × tt [(true, (.pair .str (.pair .i .i)))]) ⊕ U201.2.den) := fnR P (C239 P lf) S201 201 236 CK201 [] [(true, (.pair .str (.pair .i .i)))] 122 U201 lf x
noncomputable def C201 (P : Program) (lf : Nat) : FuncId → Option Con := extC (C239 P lf) 201 (refCon 236 CK201 [] [(true, (.pair .str (.pair .i .i)))] 122 U201 (F201 P lf))
theorem F201_eq (lf : Nat) (a0 : (List ByteArray)) : F201 Tryz.prog lf ((a0, ()), ()) =
  ((F200 Tryz.prog lf ((a0, ()), ()))).bind fun r10 => sm r10 (fun r11 : (((List ByteArray) × PUnit) × ByteArray) => ((F239 Tryz.prog lf ((r11.1.1, ()), true))).bind fun r12 => sm r12 (fun r13 : (((List ByteArray) × PUnit) × Int) => ((F239 Tryz.prog lf ((r13.1.1, ()), true))).bind fun r14 => sm r14 (fun r15 : (((List ByteArray) × PUnit) × Int) => some (.inl ((r15.1.1, ()), (r11.2, (r13.2, r15.2))))) (fun r16 : Int => some (.inr r16))) (fun r17 : Int => some (.inr r17))) (fun r18 : Int => some (.inr r18)) := by kernel_rfl
abbrev CK240 : List CK := [.d (.sl .str)]
abbrev U240 : AT := (true, .i)
def S240 : FuncId → Sp := fun g => match g with
  | 240 => { joins := [(4, [(.slot 5, .dat .i)])], loops := [(2, [(.slot 5, .dat .i)])] }
  | _ => {}
noncomputable def F240 (P : Program) (lf : Nat) (x : ckT CK240 × tt [(false, (.sl .str))]) : Option ((ckT CK240 × tt [(true, (.sl Yp))]) ⊕ U240.2.den) := fnR P (C201 P lf) S240 240 236 CK240 [(false, (.sl .str))] [(true, (.sl Yp))] 122 U240 lf x
noncomputable def C240 (P : Program) (lf : Nat) : FuncId → Option Con := extC (C201 P lf) 240 (refCon 236 CK240 [(false, (.sl .str))] [(true, (.sl Yp))] 122 U240 (F240 P lf))
theorem F240_eq (lf : Nat) (a0 : (List ByteArray)) (a1 : (List ByteArray)) : F240 Tryz.prog lf ((a0, ()), a1) =
  jn (iter lf (fun y13 : Int => cond (decide (y13 < (a0.length : Int))) (((getI a0 y13)).bind fun r14 => ((F266 Tryz.prog lf (a1, r14))).bind fun r15 => cond (!r15) (some (.inl (w64 (y13 + (1 : Int))))) (some (.inr (.inl y13)))) (some (.inr (.inl y13)))) (0 : Int)) (fun y16 : Int => ((subI a0 (0 : Int) y16)).bind fun r17 => ((joinC (bts [32]) r17)).bind fun r18 => ((F17 Tryz.prog lf r18)).bind fun r19 => ((F199 Tryz.prog lf (decide (r19.2.2 = (0 : Int))))).bind fun r20 => sm r20 (fun r21 : PUnit => ((subI a0 y16 (a0.length : Int))).bind fun r22 => some (.inl ((r22, ()), r19.1))) (fun r23 : Int => some (.inr r23))) := by kernel_rfl
abbrev CK202 : List CK := [.d (.sl .str)]
abbrev U202 : AT := (true, .i)
def S202 : FuncId → Sp := fun g => match g with
  | 202 => { joins := [(12, [(.cell 3 5, .own .str 9), (.cell 0 0, .dat (.sl .str))])], loops := [(12, [(.cell 3 5, .own .str 9), (.cell 0 0, .dat (.sl .str))])], wr := [13, 11] }
  | _ => {}
noncomputable def F202 (P : Program) (lf : Nat) (x : ckT CK202 × tt []) : Option ((ckT CK202 × tt [(true, Yq)]) ⊕ U202.2.den) := fnR P (C240 P lf) S202 202 236 CK202 [] [(true, Yq)] 122 U202 lf x
noncomputable def C202 (P : Program) (lf : Nat) : FuncId → Option Con := extC (C240 P lf) 202 (refCon 236 CK202 [] [(true, Yq)] 122 U202 (F202 P lf))
theorem F202_eq (lf : Nat) (a0 : (List ByteArray)) : F202 Tryz.prog lf ((a0, ()), ()) =
  ((F200 Tryz.prog lf ((a0, ()), ()))).bind fun r68 => sm r68 (fun r69 : (((List ByteArray) × PUnit) × ByteArray) => ((F239 Tryz.prog lf ((r69.1.1, ()), false))).bind fun r70 => sm r70 (fun r71 : (((List ByteArray) × PUnit) × Int) => ((F239 Tryz.prog lf ((r71.1.1, ()), false))).bind fun r72 => sm r72 (fun r73 : (((List ByteArray) × PUnit) × Int) => ((F198 Tryz.prog lf ((r73.1.1, ()), ()))).bind fun r74 => sm r74 (fun r75 : (((List ByteArray) × PUnit) × ByteArray) => ((F199 Tryz.prog lf ((ByteArray.toList r75.2) == [(UInt8.ofNat 119), (UInt8.ofNat 104), (UInt8.ofNat 101), (UInt8.ofNat 110)]))).bind fun r76 => sm r76 (fun r77 : PUnit => ((F240 Tryz.prog lf ((r75.1.1, ()), [(bts [109, 117, 115, 116])]))).bind fun r78 => sm r78 (fun r79 : (((List ByteArray) × PUnit) × Yt) => ((F198 Tryz.prog lf ((r79.1.1, ()), ()))).bind fun r80 => sm r80 (fun r81 : (((List ByteArray) × PUnit) × ByteArray) => ((F199 Tryz.prog lf ((ByteArray.toList r81.2) == [(UInt8.ofNat 109), (UInt8.ofNat 117), (UInt8.ofNat 115), (UInt8.ofNat 116)]))).bind fun r82 => sm r82 (fun r83 : PUnit => ((F240 Tryz.prog lf ((r81.1.1, ()), [(bts [117, 110, 108, 101, 115, 115])]))).bind fun r84 => sm r84 (fun r85 : (((List ByteArray) × PUnit) × Yt) => cond (decide ((r85.1.1.length : Int) > (0 : Int))) (((F198 Tryz.prog lf ((r85.1.1, ()), ()))).bind fun r86 => sm r86 (fun r87 : (((List ByteArray) × PUnit) × ByteArray) => jn (agree (((F200 Tryz.prog lf ((r87.1.1, ()), ()))).bind fun r88 => sm r88 (fun r89 : (((List ByteArray) × PUnit) × ByteArray) => ((appC ([] : List ByteArray) [r89.2])).bind fun r90 => some (.inl (r90, r89.1.1))) (fun r91 : Int => some (.inr (.inr r91)))) (((F200 Tryz.prog lf ((r87.1.1, ()), ()))).bind fun r92 => sm r92 (fun r93 : (((List ByteArray) × PUnit) × ByteArray) => agree (((appC ([] : List ByteArray) [r93.2])).bind fun r94 => some (.inl (r94, r93.1.1))) (((appC ([] : List ByteArray) [r93.2])).bind fun r95 => some (.inl (r95, r93.1.1)))) (fun r96 : Int => some (.inr (.inr r96))))) (fun y97 : ((List ByteArray) × (List ByteArray)) => iter lf (fun y98 : ((List ByteArray) × (List ByteArray)) => cond (decide ((y98.2.length : Int) > (0 : Int))) (agree (((F200 Tryz.prog lf ((y98.2, ()), ()))).bind fun r99 => sm r99 (fun r100 : (((List ByteArray) × PUnit) × ByteArray) => ((appC y98.1 [r100.2])).bind fun r101 => some (.inl (r101, r100.1.1))) (fun r102 : Int => some (.inr (.inr r102)))) (((F200 Tryz.prog lf ((y98.2, ()), ()))).bind fun r103 => sm r103 (fun r104 : (((List ByteArray) × PUnit) × ByteArray) => agree (((appC y98.1 [r104.2])).bind fun r105 => some (.inl (r105, r104.1.1))) (((appC y98.1 [r104.2])).bind fun r106 => some (.inl (r106, r104.1.1)))) (fun r107 : Int => some (.inr (.inr r107))))) (some (.inr (.inl ((y98.2, ()), (r69.2, (r71.2, (r73.2, (r79.2, (r85.2, y98.1)))))))))) (y97.1, y97.2))) (fun r108 : Int => some (.inr r108))) (some (.inl ((r85.1.1, ()), (r69.2, (r71.2, (r73.2, (r79.2, (r85.2, ([] : List ByteArray)))))))))) (fun r109 : Int => some (.inr r109))) (fun r110 : Int => some (.inr r110))) (fun r111 : Int => some (.inr r111))) (fun r112 : Int => some (.inr r112))) (fun r113 : Int => some (.inr r113))) (fun r114 : Int => some (.inr r114))) (fun r115 : Int => some (.inr r115))) (fun r116 : Int => some (.inr r116))) (fun r117 : Int => some (.inr r117)) := by kernel_rfl
def S93 : FuncId → Sp := fun _ => {}
noncomputable def F93 (P : Program) (lf : Nat) (x : tt [(false, .i)]) : Option (tt [(false, .bool)]) := fnF P (C202 P lf) S93 93 [(false, .i)] [(false, .bool)] lf x
noncomputable def C93 (P : Program) (lf : Nat) : FuncId → Option Con := extC (C202 P lf) 93 (dataCon [(false, .i)] [(false, .bool)] (F93 P lf))
theorem F93_eq (lf : Nat) (a0 : Int) : F93 Tryz.prog lf a0 =
  ((F91 Tryz.prog lf (a0, ((1 : Int), (3 : Int))))).bind fun r2 => some r2 := by kernel_rfl
def S92 : FuncId → Sp := fun g => match g with
  | 92 => { joins := [(17, [(.cell 5 0, .dat .i), (.cell 5 4, .dat .i), (.cell 5 3, .dat .str), (.cell 5 1, .dat .i), (.cell 5 2, .dat .i)]), (16, [(.slot 57, .dat .bool)]), (14, [(.slot 33, .dat .bool)])] }
  | _ => {}
noncomputable def F92 (P : Program) (lf : Nat) (x : tt [(true, Yp), (false, .i)]) : Option (tt [(false, .bool)]) := fnF P (C93 P lf) S92 92 [(true, Yp), (false, .i)] [(false, .bool)] lf x
noncomputable def C92 (P : Program) (lf : Nat) : FuncId → Option Con := extC (C93 P lf) 92 (dataCon [(true, Yp), (false, .i)] [(false, .bool)] (F92 P lf))
theorem F92_eq (lf : Nat) (a0 : Int) (a1 : Int) (a2 : Int) (a3 : ByteArray) (a4 : Int) (a5 : Int) : F92 Tryz.prog lf ((a0, (a1, (a2, (a3, a4)))), a5) =
  jn (cond (decide (a0 = (0 : Int))) (some (.inl ((0 : Int), (a4, (a3, (a1, a2)))))) (((F93 Tryz.prog lf a0)).bind fun r18 => cond r18 (((F91 Tryz.prog lf (a4, ((-1000000000000 : Int), (1000000000000 : Int))))).bind fun r19 => cond (!r19) (some (.inr false)) (some (.inl (a0, ((0 : Int), ((bts []), (a1, a2))))))) (cond (decide (a0 = (4 : Int))) (((F91 Tryz.prog lf (a1, ((0 : Int), (w64 (a5 - (1 : Int))))))).bind fun r20 => cond (!r20) (some (.inr false)) (some (.inl (a0, (a4, (a3, ((0 : Int), a2))))))) (jn (cond (decide (a0 = (5 : Int))) (some (.inl true)) (some (.inl (decide (a0 = (6 : Int)))))) (fun y21 : Bool => cond y21 (jn (((F91 Tryz.prog lf (a1, ((0 : Int), (w64 (a5 - (1 : Int))))))).bind fun r22 => cond (!r22) (some (.inl true)) (((F91 Tryz.prog lf (a2, ((0 : Int), (w64 (a5 - (1 : Int))))))).bind fun r23 => some (.inl (!r23)))) (fun y24 : Bool => cond y24 (some (.inr false)) (some (.inl (a0, (a4, (a3, ((0 : Int), (0 : Int))))))))) (some (.inr false))))))) (fun y25 : (Int × (Int × (ByteArray × (Int × Int)))) => some ((decide (y25.1 = a0)) && ((decide (y25.2.2.2.1 = (0 : Int))) && ((decide (y25.2.2.2.2 = (0 : Int))) && (((ByteArray.toList y25.2.2.1) == ([] : List UInt8)) && ((decide (y25.2.1 = (0 : Int))) && true)))))) := by kernel_rfl
def S29 : FuncId → Sp := fun g => match g with
  | 29 => { joins := [(9, [(.slot 32, .dat .bool)])], loops := [(4, [(.slot 14, .dat .i)])] }
  | _ => {}
noncomputable def F29 (P : Program) (lf : Nat) (x : tt [(false, (.sl (.pair .str (.pair .i .i)))), (true, (.sl Yp))]) : Option (tt [(false, .i)]) := fnF P (C92 P lf) S29 29 [(false, (.sl (.pair .str (.pair .i .i)))), (true, (.sl Yp))] [(false, .i)] lf x
noncomputable def C29 (P : Program) (lf : Nat) : FuncId → Option Con := extC (C92 P lf) 29 (dataCon [(false, (.sl (.pair .str (.pair .i .i)))), (true, (.sl Yp))] [(false, .i)] (F29 P lf))
theorem F29_eq (lf : Nat) (a0 : Yf) (a1 : Yt) : F29 Tryz.prog lf (a0, a1) =
  cond (decide ((a1.length : Int) > (30 : Int))) (some (2 : Int)) (iter lf (fun y8 : Int => cond (decide (y8 < (a1.length : Int))) (((getI a1 y8)).bind fun r9 => ((F92 Tryz.prog lf ((r9.1, (r9.2.1, (r9.2.2.1, (r9.2.2.2.1, r9.2.2.2.2)))), y8))).bind fun r10 => cond (!r10) (some (.inr (41 : Int))) (jn (((F93 Tryz.prog lf r9.1)).bind fun r11 => cond r11 (((F110 Tryz.prog lf (a0, r9.2.2.2.1))).bind fun r12 => some (.inl (decide (r12 < (0 : Int))))) (some (.inl false))) (fun y13 : Bool => cond y13 (some (.inr (40 : Int))) (some (.inl (w64 (y8 + (1 : Int)))))))) (outR (cond (decide ((a1.length : Int) = (0 : Int))) (some (41 : Int)) (some (0 : Int))))) (0 : Int)) := by kernel_rfl
def S112 : FuncId → Sp := fun _ => {}
noncomputable def F112 (P : Program) (lf : Nat) (x : tt [(true, (.pair .str (.pair .i .i)))]) : Option (tt [(false, .bool)]) := fnF P (C29 P lf) S112 112 [(true, (.pair .str (.pair .i .i)))] [(false, .bool)] lf x
noncomputable def C112 (P : Program) (lf : Nat) : FuncId → Option Con := extC (C29 P lf) 112 (dataCon [(true, (.pair .str (.pair .i .i)))] [(false, .bool)] (F112 P lf))
theorem F112_eq (lf : Nat) (a0 : ByteArray) (a1 : Int) (a2 : Int) : F112 Tryz.prog lf (a0, (a1, a2)) =
  cond (decide (a1 ≥ (-1000000000000 : Int))) (cond (decide (a1 ≤ a2)) (some (decide (a2 ≤ (1000000000000 : Int)))) (some false)) (some false) := by kernel_rfl
def S113 : FuncId → Sp := fun g => match g with
  | 113 => { joins := [(19, [(.slot 89, .dat .bool)]), (5, [(.slot 45, .dat .bool)]), (3, [(.slot 30, .dat .bool)])], loops := [(16, [(.slot 69, .dat .i)]), (7, [(.slot 51, .dat .i)])] }
  | _ => {}
noncomputable def F113 (P : Program) (lf : Nat) (x : tt [(true, (.pair .str (.pair (.sl (.pair .str (.pair .i .i))) (.sl Yq)))), (false, .i)]) : Option (tt [(false, .i)]) := fnF P (C112 P lf) S113 113 [(true, (.pair .str (.pair (.sl (.pair .str (.pair .i .i))) (.sl Yq)))), (false, .i)] [(false, .i)] lf x
noncomputable def C113 (P : Program) (lf : Nat) : FuncId → Option Con := extC (C112 P lf) 113 (dataCon [(true, (.pair .str (.pair (.sl (.pair .str (.pair .i .i))) (.sl Yq)))), (false, .i)] [(false, .i)] (F113 P lf))
theorem F113_eq (lf : Nat) (a0 : ByteArray) (a1 : Yf) (a2 : Yr) (a3 : Int) : F113 Tryz.prog lf ((a0, (a1, a2)), a3) =
  ((getI a2 a3)).bind fun r20 => jn (((F94 Tryz.prog lf r20.1)).bind fun r21 => cond (!r21) (some (.inl true)) (((subI a2 (0 : Int) a3)).bind fun r22 => ((F36 Tryz.prog lf (((bts []), (([] : List (ByteArray × (Int × Int))), r22)), r20.1))).bind fun r23 => some (.inl (decide (r23 ≥ (0 : Int)))))) (fun y24 : Bool => cond y24 (some (40 : Int)) (jn (cond (decide (r20.2.1 < (0 : Int))) (some (.inl true)) (cond (decide (r20.2.1 > r20.2.2.1)) (some (.inl true)) (some (.inl (decide (r20.2.2.1 > (100000 : Int))))))) (fun y25 : Bool => cond y25 (some (45 : Int)) (iter lf (fun y26 : Int => cond (decide (y26 < (2 : Int))) (cond (decide (y26 = (0 : Int))) (((F29 Tryz.prog lf (a1, r20.2.2.2.1))).bind fun r27 => cond (!(decide (r27 = (0 : Int)))) (some (.inr r27)) (some (.inl (w64 (y26 + (1 : Int)))))) (cond (decide (y26 = (1 : Int))) (((F29 Tryz.prog lf (a1, r20.2.2.2.2.1))).bind fun r28 => cond (!(decide (r28 = (0 : Int)))) (some (.inr r28)) (some (.inl (w64 (y26 + (1 : Int)))))) ((outI)))) (outR (cond (decide ((r20.2.2.2.2.2.length : Int) > (6 : Int))) (some (2 : Int)) (iter lf (fun y29 : Int => cond (decide (y29 < (r20.2.2.2.2.2.length : Int))) (((getI r20.2.2.2.2.2 y29)).bind fun r30 => jn (((subI a2 (0 : Int) a3)).bind fun r31 => ((F36 Tryz.prog lf (((bts []), (([] : List (ByteArray × (Int × Int))), r31)), r30))).bind fun r32 => cond (decide (r32 < (0 : Int))) (some (.inl true)) (((subI r20.2.2.2.2.2 (0 : Int) y29)).bind fun r33 => ((F180 Tryz.prog lf (r33, r30))).bind fun r34 => some (.inl r34))) (fun y35 : Bool => cond y35 (some (.inr (42 : Int))) (some (.inl (w64 (y29 + (1 : Int))))))) (some (.inr (0 : Int)))) (0 : Int))))) (0 : Int))))) := by kernel_rfl
def S114 : FuncId → Sp := fun g => match g with
  | 114 => { loops := [(3, [(.slot 3, .dat .i), (.slot 8, .dat .i)])] }
  | _ => {}
noncomputable def F114 (P : Program) (lf : Nat) (x : tt [(false, (.sl (.sl .i)))]) : Option (tt [(false, .i)]) := fnF P (C113 P lf) S114 114 [(false, (.sl (.sl .i)))] [(false, .i)] lf x
noncomputable def C114 (P : Program) (lf : Nat) : FuncId → Option Con := extC (C113 P lf) 114 (dataCon [(false, (.sl (.sl .i)))] [(false, .i)] (F114 P lf))
theorem F114_eq (lf : Nat) (a0 : (List (List Int))) : F114 Tryz.prog lf a0 =
  iter lf (fun y4 : (Int × Int) => cond (decide (y4.2 < (a0.length : Int))) (((getI a0 y4.2)).bind fun r5 => some (.inl ((if (4001 : Int) < (w64 (y4.1 * (r5.length : Int))) then (4001 : Int) else (w64 (y4.1 * (r5.length : Int)))), (w64 (y4.2 + (1 : Int)))))) (some (.inr y4.1))) ((1 : Int), (0 : Int)) := by kernel_rfl
def S31 : FuncId → Sp := fun g => match g with
  | 31 => { joins := [(11, [(.slot 49, .dat .bool)]), (6, [(.slot 17, .dat .bool)])], loops := [(16, [(.slot 57, .dat .i)]), (8, [(.slot 31, .dat .i)])] }
  | _ => {}
noncomputable def F31 (P : Program) (lf : Nat) (x : tt [(true, (.pair .str (.pair (.sl (.pair .str (.pair .i .i))) (.sl Yq))))]) : Option (tt [(false, .i)]) := fnF P (C114 P lf) S31 31 [(true, (.pair .str (.pair (.sl (.pair .str (.pair .i .i))) (.sl Yq))))] [(false, .i)] lf x
noncomputable def C31 (P : Program) (lf : Nat) : FuncId → Option Con := extC (C114 P lf) 31 (dataCon [(true, (.pair .str (.pair (.sl (.pair .str (.pair .i .i))) (.sl Yq))))] [(false, .i)] (F31 P lf))
theorem F31_eq (lf : Nat) (a0 : ByteArray) (a1 : Yf) (a2 : Yr) : F31 Tryz.prog lf (a0, (a1, a2)) =
  ((F94 Tryz.prog lf a0)).bind fun r17 => cond (!r17) (some (40 : Int)) (cond (decide ((a1.length : Int) = (0 : Int))) (some (43 : Int)) (jn (cond (decide ((a1.length : Int) > (6 : Int))) (some (.inl true)) (some (.inl (decide ((a2.length : Int) > (12 : Int)))))) (fun y18 : Bool => cond y18 (some (2 : Int)) (iter lf (fun y19 : Int => cond (decide (y19 < (a1.length : Int))) (((getI a1 y19)).bind fun r20 => jn (((F94 Tryz.prog lf r20.1)).bind fun r21 => cond (!r21) (some (.inl true)) (((subI a1 (0 : Int) y19)).bind fun r22 => ((F110 Tryz.prog lf (r22, r20.1))).bind fun r23 => some (.inl (decide (r23 ≥ (0 : Int)))))) (fun y24 : Bool => cond y24 (some (.inr (40 : Int))) (((F112 Tryz.prog lf (r20.1, (r20.2.1, r20.2.2)))).bind fun r25 => cond (!r25) (some (.inr (44 : Int))) (some (.inl (w64 (y19 + (1 : Int)))))))) (outR (iter lf (fun y26 : Int => cond (decide (y26 < (a2.length : Int))) (((F113 Tryz.prog lf ((a0, (a1, a2)), y26))).bind fun r27 => cond (!(decide (r27 = (0 : Int)))) (some (.inr r27)) (some (.inl (w64 (y26 + (1 : Int)))))) (outR (((F116 Tryz.prog lf (a0, (a1, a2)))).bind fun r28 => ((F115 Tryz.prog lf (a1, r28))).bind fun r29 => ((F114 Tryz.prog lf r29)).bind fun r30 => cond (decide (r30 > (4000 : Int))) (some (2 : Int)) (some (0 : Int))))) (0 : Int)))) (0 : Int))))) := by kernel_rfl
def S62 : FuncId → Sp := fun g => match g with
  | 62 => { loops := [(4, [(.slot 13, .dat .i)])] }
  | _ => {}
noncomputable def F62 (P : Program) (lf : Nat) (x : tt [(false, (.sl .i)), (false, (.sl .i))]) : Option (tt [(false, .bool)]) := fnF P (C31 P lf) S62 62 [(false, (.sl .i)), (false, (.sl .i))] [(false, .bool)] lf x
noncomputable def C62 (P : Program) (lf : Nat) : FuncId → Option Con := extC (C31 P lf) 62 (dataCon [(false, (.sl .i)), (false, (.sl .i))] [(false, .bool)] (F62 P lf))
theorem F62_eq (lf : Nat) (a0 : (List Int)) (a1 : (List Int)) : F62 Tryz.prog lf (a0, a1) =
  cond (!(decide ((a0.length : Int) = (a1.length : Int)))) (some false) (iter lf (fun y5 : Int => cond (decide (y5 < (a0.length : Int))) (((getI a0 y5)).bind fun r6 => ((getI a1 y5)).bind fun r7 => cond (!(decide (r6 = r7))) (some (.inr false)) (some (.inl (w64 (y5 + (1 : Int)))))) (some (.inr true))) (0 : Int)) := by kernel_rfl
def S61 : FuncId → Sp := fun g => match g with
  | 61 => { joins := [(7, [(.slot 66, .dat .bool)])], loops := [(4, [(.slot 13, .dat .i)])] }
  | _ => {}
noncomputable def F61 (P : Program) (lf : Nat) (x : tt [(false, (.sl (.pair .i (.pair .i (.pair .i (.sl .i)))))), (false, (.sl (.pair .i (.pair .i (.pair .i (.sl .i))))))]) : Option (tt [(false, .bool)]) := fnF P (C62 P lf) S61 61 [(false, (.sl (.pair .i (.pair .i (.pair .i (.sl .i)))))), (false, (.sl (.pair .i (.pair .i (.pair .i (.sl .i))))))] [(false, .bool)] lf x
noncomputable def C61 (P : Program) (lf : Nat) : FuncId → Option Con := extC (C62 P lf) 61 (dataCon [(false, (.sl (.pair .i (.pair .i (.pair .i (.sl .i)))))), (false, (.sl (.pair .i (.pair .i (.pair .i (.sl .i))))))] [(false, .bool)] (F61 P lf))
theorem F61_eq (lf : Nat) (a0 : (List (Int × (Int × (Int × (List Int)))))) (a1 : (List (Int × (Int × (Int × (List Int)))))) : F61 Tryz.prog lf (a0, a1) =
  cond (!(decide ((a0.length : Int) = (a1.length : Int)))) (some false) (iter lf (fun y13 : Int => cond (decide (y13 < (a0.length : Int))) (jn (((getI a0 y13)).bind fun r14 => ((getI a1 y13)).bind fun r15 => cond (!(decide (r14.1 = r15.1))) (some (.inl true)) (((getI a0 y13)).bind fun r16 => ((getI a1 y13)).bind fun r17 => cond (!(decide (r16.2.1 = r17.2.1))) (some (.inl true)) (((getI a0 y13)).bind fun r18 => ((getI a1 y13)).bind fun r19 => cond (!(decide (r18.2.2.1 = r19.2.2.1))) (some (.inl true)) (((getI a0 y13)).bind fun r20 => ((getI a1 y13)).bind fun r21 => ((F62 Tryz.prog lf (r20.2.2.2, r21.2.2.2))).bind fun r22 => some (.inl (!r22)))))) (fun y23 : Bool => cond y23 (some (.inr false)) (some (.inl (w64 (y13 + (1 : Int))))))) (some (.inr true))) (0 : Int)) := by kernel_rfl
def S222 : FuncId → Sp := fun _ => {}
noncomputable def F222 (P : Program) (lf : Nat) (x : tt [(true, (.pair .str (.pair .i .i))), (true, (.pair .str (.pair .i .i)))]) : Option (tt [(false, .bool)]) := fnF P (C61 P lf) S222 222 [(true, (.pair .str (.pair .i .i))), (true, (.pair .str (.pair .i .i)))] [(false, .bool)] lf x
noncomputable def C222 (P : Program) (lf : Nat) : FuncId → Option Con := extC (C61 P lf) 222 (dataCon [(true, (.pair .str (.pair .i .i))), (true, (.pair .str (.pair .i .i)))] [(false, .bool)] (F222 P lf))
theorem F222_eq (lf : Nat) (a0 : ByteArray) (a1 : Int) (a2 : Int) (a3 : ByteArray) (a4 : Int) (a5 : Int) : F222 Tryz.prog lf ((a0, (a1, a2)), (a3, (a4, a5))) =
  cond ((ByteArray.toList a0) == (ByteArray.toList a3)) (cond (decide (a4 ≥ a1)) (cond (decide (a4 ≤ a5)) (some (decide (a5 ≤ a2))) (some false)) (some false)) (some false) := by kernel_rfl
def S173 : FuncId → Sp := fun g => match g with
  | 221 => { loops := [(4, [(.slot 17, .dat .i)])] }
  | _ => {}
noncomputable def F173 (P : Program) (lf : Nat) (x : tt [(true, (.pair .str (.pair (.sl (.pair .str (.pair .i .i))) (.sl Yq)))), (false, (.sl (.pair .str (.pair .i .i))))]) : Option (tt [(false, .bool)]) := fnF P (C222 P lf) S173 173 [(true, (.pair .str (.pair (.sl (.pair .str (.pair .i .i))) (.sl Yq)))), (false, (.sl (.pair .str (.pair .i .i))))] [(false, .bool)] lf x
noncomputable def C173 (P : Program) (lf : Nat) : FuncId → Option Con := extC (C222 P lf) 173 (dataCon [(true, (.pair .str (.pair (.sl (.pair .str (.pair .i .i))) (.sl Yq)))), (false, (.sl (.pair .str (.pair .i .i))))] [(false, .bool)] (F173 P lf))
theorem F173_eq (lf : Nat) (a0 : ByteArray) (a1 : Yf) (a2 : Yr) (a3 : Yf) : F173 Tryz.prog lf ((a0, (a1, a2)), a3) =
  cond (!(decide ((a1.length : Int) = (a3.length : Int)))) (some false) (iter lf (fun y8 : Int => cond (decide (y8 < (a1.length : Int))) (((getI a1 y8)).bind fun r9 => ((getI a3 y8)).bind fun r10 => ((F222 Tryz.prog lf ((r9.1, (r9.2.1, r9.2.2)), (r10.1, (r10.2.1, r10.2.2))))).bind fun r11 => cond (!r11) (some (.inr false)) (some (.inl (w64 (y8 + (1 : Int)))))) (some (.inr true))) (0 : Int)) := by kernel_rfl
end Go.K
set_option linter.unusedSimpArgs false
namespace Go.K
open Go.Sl Go.Sx Go.Proofs
noncomputable def G266 (lf : Nat) (x : ((List ByteArray) × ByteArray)) : Option (Bool) :=
  iter lf (fun y4 : Int => cond (decide (y4 < (x.1.length : Int))) (((getI x.1 y4)).bind fun r5 => cond (r5.data.toList == x.2.data.toList) (some (.inr true)) (some (.inl (w64 (y4 + (1 : Int)))))) (some (.inr false))) (0 : Int)
theorem F266_G (lf : Nat) (x : ((List ByteArray) × ByteArray)) : F266 Tryz.prog lf x = G266 lf x := (F266_eq lf x.1 x.2).trans (by
  unfold G266
  (try simp only [agree_self, Lib.toList_data]); first | done | rfl)
noncomputable def G199 (lf : Nat) (x : Bool) : Option (Unit ⊕ Int) :=
  cond (!x) (some (.inr (0 : Int))) (some (.inl ()))
theorem F199_G (lf : Nat) (x : Bool) : F199 Tryz.prog lf x = G199 lf x := (F199_eq lf x).trans (by
  unfold G199
  (try simp only [agree_self, Lib.toList_data]); first | done | rfl)
noncomputable def G198 (lf : Nat) (x : (((List ByteArray) × Unit) × Unit)) : Option ((((List ByteArray) × Unit) × ByteArray) ⊕ Int) :=
  ((G199 lf (decide ((x.1.1.length : Int) > (0 : Int))))).bind fun r6 => sm r6 (fun r7 : PUnit => ((getI x.1.1 (0 : Int))).bind fun r8 => ((subI x.1.1 (1 : Int) (x.1.1.length : Int))).bind fun r9 => some (.inl ((r9, ()), r8))) (fun r10 : Int => some (.inr r10))
theorem F198_G (lf : Nat) (x : (((List ByteArray) × Unit) × Unit)) : F198 Tryz.prog lf x = G198 lf x := (F198_eq lf x.1.1).trans (by
  unfold G198
  (try simp only [F199_G, agree_self, Lib.toList_data]); first | done | rfl)
noncomputable def G200 (lf : Nat) (x : (((List ByteArray) × Unit) × Unit)) : Option ((((List ByteArray) × Unit) × ByteArray) ⊕ Int) :=
  ((G198 lf ((x.1.1, ()), ()))).bind fun r8 => sm r8 (fun r9 : (((List ByteArray) × PUnit) × ByteArray) => ((G94 lf r9.2)).bind fun r10 => ((G199 lf r10)).bind fun r11 => sm r11 (fun r12 : PUnit => some (.inl ((r9.1.1, ()), r9.2))) (fun r13 : Int => some (.inr r13))) (fun r14 : Int => some (.inr r14))
theorem F200_G (lf : Nat) (x : (((List ByteArray) × Unit) × Unit)) : F200 Tryz.prog lf x = G200 lf x := (F200_eq lf x.1.1).trans (by
  unfold G200
  (try simp only [F94_G, F198_G, F199_G, agree_self, Lib.toList_data]); first | done | rfl)
noncomputable def G239 (lf : Nat) (x : (((List ByteArray) × Unit) × Bool)) : Option ((((List ByteArray) × Unit) × Int) ⊕ Int) :=
  ((G198 lf ((x.1.1, ()), ()))).bind fun r9 => sm r9 (fun r10 : (((List ByteArray) × PUnit) × ByteArray) => ((G244 lf (r10.2, x.2))).bind fun r11 => ((G199 lf r11.2)).bind fun r12 => sm r12 (fun r13 : PUnit => some (.inl ((r10.1.1, ()), r11.1))) (fun r14 : Int => some (.inr r14))) (fun r15 : Int => some (.inr r15))
theorem F239_G (lf : Nat) (x : (((List ByteArray) × Unit) × Bool)) : F239 Tryz.prog lf x = G239 lf x := (F239_eq lf x.1.1 x.2).trans (by
  unfold G239
  (try simp only [F198_G, F199_G, F244_G, agree_self, Lib.toList_data]); first | done | rfl)
noncomputable def G201 (lf : Nat) (x : (((List ByteArray) × Unit) × Unit)) : Option ((((List ByteArray) × Unit) × (ByteArray × (Int × Int))) ⊕ Int) :=
  ((G200 lf ((x.1.1, ()), ()))).bind fun r10 => sm r10 (fun r11 : (((List ByteArray) × PUnit) × ByteArray) => ((G239 lf ((r11.1.1, ()), true))).bind fun r12 => sm r12 (fun r13 : (((List ByteArray) × PUnit) × Int) => ((G239 lf ((r13.1.1, ()), true))).bind fun r14 => sm r14 (fun r15 : (((List ByteArray) × PUnit) × Int) => some (.inl ((r15.1.1, ()), (r11.2, (r13.2, r15.2))))) (fun r16 : Int => some (.inr r16))) (fun r17 : Int => some (.inr r17))) (fun r18 : Int => some (.inr r18))
theorem F201_G (lf : Nat) (x : (((List ByteArray) × Unit) × Unit)) : F201 Tryz.prog lf x = G201 lf x := (F201_eq lf x.1.1).trans (by
  unfold G201
  (try simp only [F200_G, F239_G, agree_self, Lib.toList_data]); first | done | rfl)
noncomputable def G240 (lf : Nat) (x : (((List ByteArray) × Unit) × (List ByteArray))) : Option ((((List ByteArray) × Unit) × Yt) ⊕ Int) :=
  jn (iter lf (fun y13 : Int => cond (decide (y13 < (x.1.1.length : Int))) (((getI x.1.1 y13)).bind fun r14 => ((G266 lf (x.2, r14))).bind fun r15 => cond (!r15) (some (.inl (w64 (y13 + (1 : Int))))) (some (.inr (.inl y13)))) (some (.inr (.inl y13)))) (0 : Int)) (fun y16 : Int => ((subI x.1.1 (0 : Int) y16)).bind fun r17 => ((joinC (bts [32]) r17)).bind fun r18 => ((G17 lf r18)).bind fun r19 => ((G199 lf (decide (r19.2.2 = (0 : Int))))).bind fun r20 => sm r20 (fun r21 : PUnit => ((subI x.1.1 y16 (x.1.1.length : Int))).bind fun r22 => some (.inl ((r22, ()), r19.1))) (fun r23 : Int => some (.inr r23)))
theorem F240_G (lf : Nat) (x : (((List ByteArray) × Unit) × (List ByteArray))) : F240 Tryz.prog lf x = G240 lf x := (F240_eq lf x.1.1 x.2).trans (by
  unfold G240
  (try simp only [F17_G, F199_G, F266_G, agree_self, Lib.toList_data]); first | done | rfl)
noncomputable def G202 (lf : Nat) (x : (((List ByteArray) × Unit) × Unit)) : Option ((((List ByteArray) × Unit) × (ByteArray × (Int × (Int × (Yt × (Yt × (List ByteArray))))))) ⊕ Int) :=
  ((G200 lf ((x.1.1, ()), ()))).bind fun r68 => sm r68 (fun r69 : (((List ByteArray) × PUnit) × ByteArray) => ((G239 lf ((r69.1.1, ()), false))).bind fun r70 => sm r70 (fun r71 : (((List ByteArray) × PUnit) × Int) => ((G239 lf ((r71.1.1, ()), false))).bind fun r72 => sm r72 (fun r73 : (((List ByteArray) × PUnit) × Int) => ((G198 lf ((r73.1.1, ()), ()))).bind fun r74 => sm r74 (fun r75 : (((List ByteArray) × PUnit) × ByteArray) => ((G199 lf (r75.2.data.toList == [(UInt8.ofNat 119), (UInt8.ofNat 104), (UInt8.ofNat 101), (UInt8.ofNat 110)]))).bind fun r76 => sm r76 (fun r77 : PUnit => ((G240 lf ((r75.1.1, ()), [(bts [109, 117, 115, 116])]))).bind fun r78 => sm r78 (fun r79 : (((List ByteArray) × PUnit) × Yt) => ((G198 lf ((r79.1.1, ()), ()))).bind fun r80 => sm r80 (fun r81 : (((List ByteArray) × PUnit) × ByteArray) => ((G199 lf (r81.2.data.toList == [(UInt8.ofNat 109), (UInt8.ofNat 117), (UInt8.ofNat 115), (UInt8.ofNat 116)]))).bind fun r82 => sm r82 (fun r83 : PUnit => ((G240 lf ((r81.1.1, ()), [(bts [117, 110, 108, 101, 115, 115])]))).bind fun r84 => sm r84 (fun r85 : (((List ByteArray) × PUnit) × Yt) => cond (decide ((r85.1.1.length : Int) > (0 : Int))) (((G198 lf ((r85.1.1, ()), ()))).bind fun r86 => sm r86 (fun r87 : (((List ByteArray) × PUnit) × ByteArray) => jn (((G200 lf ((r87.1.1, ()), ()))).bind fun r88 => sm r88 (fun r89 : (((List ByteArray) × PUnit) × ByteArray) => ((appC ([] : List ByteArray) [r89.2])).bind fun r90 => some (.inl (r90, r89.1.1))) (fun r91 : Int => some (.inr (.inr r91)))) (fun y97 : ((List ByteArray) × (List ByteArray)) => iter lf (fun y98 : ((List ByteArray) × (List ByteArray)) => cond (decide ((y98.2.length : Int) > (0 : Int))) (((G200 lf ((y98.2, ()), ()))).bind fun r99 => sm r99 (fun r100 : (((List ByteArray) × PUnit) × ByteArray) => ((appC y98.1 [r100.2])).bind fun r101 => some (.inl (r101, r100.1.1))) (fun r102 : Int => some (.inr (.inr r102)))) (some (.inr (.inl ((y98.2, ()), (r69.2, (r71.2, (r73.2, (r79.2, (r85.2, y98.1)))))))))) (y97.1, y97.2))) (fun r108 : Int => some (.inr r108))) (some (.inl ((r85.1.1, ()), (r69.2, (r71.2, (r73.2, (r79.2, (r85.2, ([] : List ByteArray)))))))))) (fun r109 : Int => some (.inr r109))) (fun r110 : Int => some (.inr r110))) (fun r111 : Int => some (.inr r111))) (fun r112 : Int => some (.inr r112))) (fun r113 : Int => some (.inr r113))) (fun r114 : Int => some (.inr r114))) (fun r115 : Int => some (.inr r115))) (fun r116 : Int => some (.inr r116))) (fun r117 : Int => some (.inr r117))
theorem F202_G (lf : Nat) (x : (((List ByteArray) × Unit) × Unit)) : F202 Tryz.prog lf x = G202 lf x := (F202_eq lf x.1.1).trans (by
  unfold G202
  (try simp only [F198_G, F199_G, F200_G, F239_G, F240_G, agree_self, Lib.toList_data]); first | done | rfl)
noncomputable def G93 (lf : Nat) (x : Int) : Option (Bool) :=
  ((G91 lf (x, ((1 : Int), (3 : Int))))).bind fun r2 => some r2
theorem F93_G (lf : Nat) (x : Int) : F93 Tryz.prog lf x = G93 lf x := (F93_eq lf x).trans (by
  unfold G93
  (try simp only [F91_G, agree_self, Lib.toList_data]); first | done | rfl)
noncomputable def G92 (lf : Nat) (x : ((Int × (Int × (Int × (ByteArray × Int)))) × Int)) : Option (Bool) :=
  jn (cond (decide (x.1.1 = (0 : Int))) (some (.inl ((0 : Int), (x.1.2.2.2.2, (x.1.2.2.2.1, (x.1.2.1, x.1.2.2.1)))))) (((G93 lf x.1.1)).bind fun r18 => cond r18 (((G91 lf (x.1.2.2.2.2, ((-1000000000000 : Int), (1000000000000 : Int))))).bind fun r19 => cond (!r19) (some (.inr false)) (some (.inl (x.1.1, ((0 : Int), ((bts []), (x.1.2.1, x.1.2.2.1))))))) (cond (decide (x.1.1 = (4 : Int))) (((G91 lf (x.1.2.1, ((0 : Int), (w64 (x.2 - (1 : Int))))))).bind fun r20 => cond (!r20) (some (.inr false)) (some (.inl (x.1.1, (x.1.2.2.2.2, (x.1.2.2.2.1, ((0 : Int), x.1.2.2.1))))))) (jn (cond (decide (x.1.1 = (5 : Int))) (some (.inl true)) (some (.inl (decide (x.1.1 = (6 : Int)))))) (fun y21 : Bool => cond y21 (jn (((G91 lf (x.1.2.1, ((0 : Int), (w64 (x.2 - (1 : Int))))))).bind fun r22 => cond (!r22) (some (.inl true)) (((G91 lf (x.1.2.2.1, ((0 : Int), (w64 (x.2 - (1 : Int))))))).bind fun r23 => some (.inl (!r23)))) (fun y24 : Bool => cond y24 (some (.inr false)) (some (.inl (x.1.1, (x.1.2.2.2.2, (x.1.2.2.2.1, ((0 : Int), (0 : Int))))))))) (some (.inr false))))))) (fun y25 : (Int × (Int × (ByteArray × (Int × Int)))) => some ((decide (y25.1 = x.1.1)) && ((decide (y25.2.2.2.1 = (0 : Int))) && ((decide (y25.2.2.2.2 = (0 : Int))) && ((y25.2.2.1.data.toList == ([] : List UInt8)) && ((decide (y25.2.1 = (0 : Int))) && true))))))
theorem F92_G (lf : Nat) (x : ((Int × (Int × (Int × (ByteArray × Int)))) × Int)) : F92 Tryz.prog lf x = G92 lf x := (F92_eq lf x.1.1 x.1.2.1 x.1.2.2.1 x.1.2.2.2.1 x.1.2.2.2.2 x.2).trans (by
  unfold G92
  (try simp only [F91_G, F93_G, agree_self, Lib.toList_data]); first | done | rfl)
noncomputable def G29 (lf : Nat) (x : (Yf × Yt)) : Option (Int) :=
  cond (decide ((x.2.length : Int) > (30 : Int))) (some (2 : Int)) (iter lf (fun y8 : Int => cond (decide (y8 < (x.2.length : Int))) (((getI x.2 y8)).bind fun r9 => ((G92 lf ((r9.1, (r9.2.1, (r9.2.2.1, (r9.2.2.2.1, r9.2.2.2.2)))), y8))).bind fun r10 => cond (!r10) (some (.inr (41 : Int))) (jn (((G93 lf r9.1)).bind fun r11 => cond r11 (((G110 lf (x.1, r9.2.2.2.1))).bind fun r12 => some (.inl (decide (r12 < (0 : Int))))) (some (.inl false))) (fun y13 : Bool => cond y13 (some (.inr (40 : Int))) (some (.inl (w64 (y8 + (1 : Int)))))))) (outR (cond (decide ((x.2.length : Int) = (0 : Int))) (some (41 : Int)) (some (0 : Int))))) (0 : Int))
theorem F29_G (lf : Nat) (x : (Yf × Yt)) : F29 Tryz.prog lf x = G29 lf x := (F29_eq lf x.1 x.2).trans (by
  unfold G29
  (try simp only [F92_G, F93_G, F110_G, agree_self, Lib.toList_data]); first | done | rfl)
noncomputable def G112 (lf : Nat) (x : (ByteArray × (Int × Int))) : Option (Bool) :=
  cond (decide (x.2.1 ≥ (-1000000000000 : Int))) (cond (decide (x.2.1 ≤ x.2.2)) (some (decide (x.2.2 ≤ (1000000000000 : Int)))) (some false)) (some false)
theorem F112_G (lf : Nat) (x : (ByteArray × (Int × Int))) : F112 Tryz.prog lf x = G112 lf x := (F112_eq lf x.1 x.2.1 x.2.2).trans (by
  unfold G112
  (try simp only [agree_self, Lib.toList_data]); first | done | rfl)
noncomputable def G113 (lf : Nat) (x : ((ByteArray × (Yf × Yr)) × Int)) : Option (Int) :=
  ((getI x.1.2.2 x.2)).bind fun r20 => jn (((G94 lf r20.1)).bind fun r21 => cond (!r21) (some (.inl true)) (((subI x.1.2.2 (0 : Int) x.2)).bind fun r22 => ((G36 lf (((bts []), (([] : List (ByteArray × (Int × Int))), r22)), r20.1))).bind fun r23 => some (.inl (decide (r23 ≥ (0 : Int)))))) (fun y24 : Bool => cond y24 (some (40 : Int)) (jn (cond (decide (r20.2.1 < (0 : Int))) (some (.inl true)) (cond (decide (r20.2.1 > r20.2.2.1)) (some (.inl true)) (some (.inl (decide (r20.2.2.1 > (100000 : Int))))))) (fun y25 : Bool => cond y25 (some (45 : Int)) (iter lf (fun y26 : Int => cond (decide (y26 < (2 : Int))) (cond (decide (y26 = (0 : Int))) (((G29 lf (x.1.2.1, r20.2.2.2.1))).bind fun r27 => cond (!(decide (r27 = (0 : Int)))) (some (.inr r27)) (some (.inl (w64 (y26 + (1 : Int)))))) (cond (decide (y26 = (1 : Int))) (((G29 lf (x.1.2.1, r20.2.2.2.2.1))).bind fun r28 => cond (!(decide (r28 = (0 : Int)))) (some (.inr r28)) (some (.inl (w64 (y26 + (1 : Int)))))) ((outI)))) (outR (cond (decide ((r20.2.2.2.2.2.length : Int) > (6 : Int))) (some (2 : Int)) (iter lf (fun y29 : Int => cond (decide (y29 < (r20.2.2.2.2.2.length : Int))) (((getI r20.2.2.2.2.2 y29)).bind fun r30 => jn (((subI x.1.2.2 (0 : Int) x.2)).bind fun r31 => ((G36 lf (((bts []), (([] : List (ByteArray × (Int × Int))), r31)), r30))).bind fun r32 => cond (decide (r32 < (0 : Int))) (some (.inl true)) (((subI r20.2.2.2.2.2 (0 : Int) y29)).bind fun r33 => ((G180 lf (r33, r30))).bind fun r34 => some (.inl r34))) (fun y35 : Bool => cond y35 (some (.inr (42 : Int))) (some (.inl (w64 (y29 + (1 : Int))))))) (some (.inr (0 : Int)))) (0 : Int))))) (0 : Int)))))
theorem F113_G (lf : Nat) (x : ((ByteArray × (Yf × Yr)) × Int)) : F113 Tryz.prog lf x = G113 lf x := (F113_eq lf x.1.1 x.1.2.1 x.1.2.2 x.2).trans (by
  unfold G113
  (try simp only [F29_G, F36_G, F94_G, F180_G, agree_self, Lib.toList_data]); first | done | rfl)
noncomputable def G114 (lf : Nat) (x : (List (List Int))) : Option (Int) :=
  iter lf (fun y4 : (Int × Int) => cond (decide (y4.2 < (x.length : Int))) (((getI x y4.2)).bind fun r5 => some (.inl ((if (4001 : Int) < (w64 (y4.1 * (r5.length : Int))) then (4001 : Int) else (w64 (y4.1 * (r5.length : Int)))), (w64 (y4.2 + (1 : Int)))))) (some (.inr y4.1))) ((1 : Int), (0 : Int))
theorem F114_G (lf : Nat) (x : (List (List Int))) : F114 Tryz.prog lf x = G114 lf x := (F114_eq lf x).trans (by
  unfold G114
  (try simp only [agree_self, Lib.toList_data]); first | done | rfl)
noncomputable def G31 (lf : Nat) (x : (ByteArray × (Yf × Yr))) : Option (Int) :=
  ((G94 lf x.1)).bind fun r17 => cond (!r17) (some (40 : Int)) (cond (decide ((x.2.1.length : Int) = (0 : Int))) (some (43 : Int)) (jn (cond (decide ((x.2.1.length : Int) > (6 : Int))) (some (.inl true)) (some (.inl (decide ((x.2.2.length : Int) > (12 : Int)))))) (fun y18 : Bool => cond y18 (some (2 : Int)) (iter lf (fun y19 : Int => cond (decide (y19 < (x.2.1.length : Int))) (((getI x.2.1 y19)).bind fun r20 => jn (((G94 lf r20.1)).bind fun r21 => cond (!r21) (some (.inl true)) (((subI x.2.1 (0 : Int) y19)).bind fun r22 => ((G110 lf (r22, r20.1))).bind fun r23 => some (.inl (decide (r23 ≥ (0 : Int)))))) (fun y24 : Bool => cond y24 (some (.inr (40 : Int))) (((G112 lf (r20.1, (r20.2.1, r20.2.2)))).bind fun r25 => cond (!r25) (some (.inr (44 : Int))) (some (.inl (w64 (y19 + (1 : Int)))))))) (outR (iter lf (fun y26 : Int => cond (decide (y26 < (x.2.2.length : Int))) (((G113 lf ((x.1, (x.2.1, x.2.2)), y26))).bind fun r27 => cond (!(decide (r27 = (0 : Int)))) (some (.inr r27)) (some (.inl (w64 (y26 + (1 : Int)))))) (outR (((G116 lf (x.1, (x.2.1, x.2.2)))).bind fun r28 => ((G115 lf (x.2.1, r28))).bind fun r29 => ((G114 lf r29)).bind fun r30 => cond (decide (r30 > (4000 : Int))) (some (2 : Int)) (some (0 : Int))))) (0 : Int)))) (0 : Int)))))
theorem F31_G (lf : Nat) (x : (ByteArray × (Yf × Yr))) : F31 Tryz.prog lf x = G31 lf x := (F31_eq lf x.1 x.2.1 x.2.2).trans (by
  unfold G31
  (try simp only [F94_G, F110_G, F112_G, F113_G, F114_G, F115_G, F116_G, agree_self, Lib.toList_data]); first | done | rfl)
noncomputable def G62 (lf : Nat) (x : ((List Int) × (List Int))) : Option (Bool) :=
  cond (!(decide ((x.1.length : Int) = (x.2.length : Int)))) (some false) (iter lf (fun y5 : Int => cond (decide (y5 < (x.1.length : Int))) (((getI x.1 y5)).bind fun r6 => ((getI x.2 y5)).bind fun r7 => cond (!(decide (r6 = r7))) (some (.inr false)) (some (.inl (w64 (y5 + (1 : Int)))))) (some (.inr true))) (0 : Int))
theorem F62_G (lf : Nat) (x : ((List Int) × (List Int))) : F62 Tryz.prog lf x = G62 lf x := (F62_eq lf x.1 x.2).trans (by
  unfold G62
  (try simp only [agree_self, Lib.toList_data]); first | done | rfl)
noncomputable def G61 (lf : Nat) (x : ((List (Int × (Int × (Int × (List Int))))) × (List (Int × (Int × (Int × (List Int))))))) : Option (Bool) :=
  cond (!(decide ((x.1.length : Int) = (x.2.length : Int)))) (some false) (iter lf (fun y13 : Int => cond (decide (y13 < (x.1.length : Int))) (jn (((getI x.1 y13)).bind fun r14 => ((getI x.2 y13)).bind fun r15 => cond (!(decide (r14.1 = r15.1))) (some (.inl true)) (((getI x.1 y13)).bind fun r16 => ((getI x.2 y13)).bind fun r17 => cond (!(decide (r16.2.1 = r17.2.1))) (some (.inl true)) (((getI x.1 y13)).bind fun r18 => ((getI x.2 y13)).bind fun r19 => cond (!(decide (r18.2.2.1 = r19.2.2.1))) (some (.inl true)) (((getI x.1 y13)).bind fun r20 => ((getI x.2 y13)).bind fun r21 => ((G62 lf (r20.2.2.2, r21.2.2.2))).bind fun r22 => some (.inl (!r22)))))) (fun y23 : Bool => cond y23 (some (.inr false)) (some (.inl (w64 (y13 + (1 : Int))))))) (some (.inr true))) (0 : Int))
theorem F61_G (lf : Nat) (x : ((List (Int × (Int × (Int × (List Int))))) × (List (Int × (Int × (Int × (List Int))))))) : F61 Tryz.prog lf x = G61 lf x := (F61_eq lf x.1 x.2).trans (by
  unfold G61
  (try simp only [F62_G, agree_self, Lib.toList_data]); first | done | rfl)
noncomputable def G222 (lf : Nat) (x : ((ByteArray × (Int × Int)) × (ByteArray × (Int × Int)))) : Option (Bool) :=
  cond (x.1.1.data.toList == x.2.1.data.toList) (cond (decide (x.2.2.1 ≥ x.1.2.1)) (cond (decide (x.2.2.1 ≤ x.2.2.2)) (some (decide (x.2.2.2 ≤ x.1.2.2))) (some false)) (some false)) (some false)
theorem F222_G (lf : Nat) (x : ((ByteArray × (Int × Int)) × (ByteArray × (Int × Int)))) : F222 Tryz.prog lf x = G222 lf x := (F222_eq lf x.1.1 x.1.2.1 x.1.2.2 x.2.1 x.2.2.1 x.2.2.2).trans (by
  unfold G222
  (try simp only [agree_self, Lib.toList_data]); first | done | rfl)
noncomputable def G173 (lf : Nat) (x : ((ByteArray × (Yf × Yr)) × Yf)) : Option (Bool) :=
  cond (!(decide ((x.1.2.1.length : Int) = (x.2.length : Int)))) (some false) (iter lf (fun y8 : Int => cond (decide (y8 < (x.1.2.1.length : Int))) (((getI x.1.2.1 y8)).bind fun r9 => ((getI x.2 y8)).bind fun r10 => ((G222 lf ((r9.1, (r9.2.1, r9.2.2)), (r10.1, (r10.2.1, r10.2.2))))).bind fun r11 => cond (!r11) (some (.inr false)) (some (.inl (w64 (y8 + (1 : Int)))))) (some (.inr true))) (0 : Int))
theorem F173_G (lf : Nat) (x : ((ByteArray × (Yf × Yr)) × Yf)) : F173 Tryz.prog lf x = G173 lf x := (F173_eq lf x.1.1 x.1.2.1 x.1.2.2 x.2).trans (by
  unfold G173
  (try simp only [F222_G, agree_self, Lib.toList_data]); first | done | rfl)
end Go.K
namespace Go.K
open Go.Sl Go.Sx Go.Proofs
def S23 : FuncId → Sp := fun g => match g with
  | 23 => { joins := [(2, [(.slot 8, .dat .i)])] }
  | _ => {}
noncomputable def F23 (P : Program) (lf : Nat) (x : tt [(true, (.pair .str (.pair (.sl (.pair .str (.pair .i .i))) (.sl Yq)))), (false, .i), (false, (.sl (.pair .str (.pair .i .i))))]) : Option (tt [(false, .i), (false, .i)]) := fnF P (C173 P lf) S23 23 [(true, (.pair .str (.pair (.sl (.pair .str (.pair .i .i))) (.sl Yq)))), (false, .i), (false, (.sl (.pair .str (.pair .i .i))))] [(false, .i), (false, .i)] lf x
noncomputable def C23 (P : Program) (lf : Nat) : FuncId → Option Con := extC (C173 P lf) 23 (dataCon [(true, (.pair .str (.pair (.sl (.pair .str (.pair .i .i))) (.sl Yq)))), (false, .i), (false, (.sl (.pair .str (.pair .i .i))))] [(false, .i), (false, .i)] (F23 P lf))
theorem F23_eq (lf : Nat) (a0 : ByteArray) (a1 : Yf) (a2 : Yr) (a3 : Int) (a4 : Yf) : F23 Tryz.prog lf ((a0, (a1, a2)), (a3, a4)) =
  jn (((F31 Tryz.prog lf (a0, (a1, a2)))).bind fun r10 => cond (!(decide (r10 = (0 : Int)))) (some (.inl r10)) (((F91 Tryz.prog lf (a3, ((0 : Int), (100000 : Int))))).bind fun r11 => cond (!r11) (some (.inl (45 : Int))) (((F173 Tryz.prog lf ((a0, (a1, a2)), a4))).bind fun r12 => cond (!r12) (some (.inl (44 : Int))) (some (.inl (0 : Int)))))) (fun y13 : Int => cond (!(decide (y13 = (0 : Int)))) (some ((0 : Int), y13)) (((F104 Tryz.prog lf ((a0, (a1, a2)), (a3, a4)))).bind fun r14 => some (r14, (0 : Int)))) := by kernel_rfl
def S24 : FuncId → Sp := fun g => match g with
  | 209 => { joins := [(12, [(.slot 7, .dat .i), (.slot 3, .own .i 3)])], loops := [(9, [(.slot 7, .dat .i), (.slot 3, .own .i 3)]), (3, [(.slot 4, .own .i 3), (.slot 13, .dat .i)]), (1, [(.slot 3, .own .i 3)])] }
  | 175 => { fz := [(4, [(.slot 6, .dat (.sl .i))])] }
  | 24 => { joins := [(2, [(.slot 9, .dat .i)])] }
  | _ => {}
noncomputable def F24 (P : Program) (lf : Nat) (x : tt [(true, (.pair .str (.pair (.sl (.pair .str (.pair .i .i))) (.sl Yq)))), (false, .i), (false, (.sl (.pair .str (.pair .i .i))))]) : Option (tt [(false, .i), (false, (.sl .i)), (false, .i)]) := fnF P (C23 P lf) S24 24 [(true, (.pair .str (.pair (.sl (.pair .str (.pair .i .i))) (.sl Yq)))), (false, .i), (false, (.sl (.pair .str (.pair .i .i))))] [(false, .i), (false, (.sl .i)), (false, .i)] lf x
noncomputable def C24 (P : Program) (lf : Nat) : FuncId → Option Con := extC (C23 P lf) 24 (dataCon [(true, (.pair .str (.pair (.sl (.pair .str (.pair .i .i))) (.sl Yq)))), (false, .i), (false, (.sl (.pair .str (.pair .i .i))))] [(false, .i), (false, (.sl .i)), (false, .i)] (F24 P lf))
theorem F24_eq (lf : Nat) (a0 : ByteArray) (a1 : Yf) (a2 : Yr) (a3 : Int) (a4 : Yf) : F24 Tryz.prog lf ((a0, (a1, a2)), (a3, a4)) =
  jn (((F31 Tryz.prog lf (a0, (a1, a2)))).bind fun r71 => cond (!(decide (r71 = (0 : Int)))) (some (.inl r71)) (((F91 Tryz.prog lf (a3, ((0 : Int), (100000 : Int))))).bind fun r72 => cond (!r72) (some (.inl (45 : Int))) (((F173 Tryz.prog lf ((a0, (a1, a2)), a4))).bind fun r73 => cond (!r73) (some (.inl (44 : Int))) (some (.inl (0 : Int)))))) (fun y74 : Int => cond (!(decide (y74 = (0 : Int)))) (some ((0 : Int), (([] : List Int), y74))) (((F131 Tryz.prog lf ())).bind fun r75 => ((F116 Tryz.prog lf (a0, (a1, a2)))).bind fun r76 => ((F115 Tryz.prog lf (a4, r76))).bind fun r77 => ((mkC (r77.length : Int) (0 : Int))).bind fun r78 => iter lf (fun y79 : (List Int) => iter lf (fun y80 : ((List Int) × Int) => cond (decide (y80.2 < (y79.length : Int))) (((getI y79 y80.2)).bind fun r81 => ((getI y79 y80.2)).bind fun r82 => ((getI r77 y80.2)).bind fun r83 => ((getI r83 r82)).bind fun r84 => ((appC y80.1 [r84])).bind fun r85 => some (.inl (r85, (w64 (y80.2 + (1 : Int)))))) (outR (((F130 Tryz.prog lf ((a0, (a1, a2)), (a3, (y80.1, ()))))).bind fun r86 => ((F106 Tryz.prog lf (r86.2, false))).bind fun r87 => cond (decide (r87 ≥ (0 : Int))) (some (.inr (r87, (y80.1, (0 : Int))))) (jn (iter lf (fun y88 : (Int × (List Int)) => cond (decide (y88.1 ≥ (0 : Int))) (((getI y88.2 y88.1)).bind fun r89 => ((getI y88.2 y88.1)).bind fun r90 => ((getI r77 y88.1)).bind fun r91 => cond (decide (r90 = (w64 ((r91.length : Int) - (1 : Int))))) (((getI y88.2 y88.1)).bind fun r92 => ((getI y88.2 y88.1)).bind fun r93 => ((setI y88.2 y88.1 (0 : Int))).bind fun r94 => some (.inl ((w64 (y88.1 - (1 : Int))), r94))) (some (.inr (.inl (y88.1, y88.2))))) (some (.inr (.inl (y88.1, y88.2))))) ((w64 ((r77.length : Int) - (1 : Int))), y79)) (fun y95 : (Int × (List Int)) => cond (decide (y95.1 < (0 : Int))) (some (.inr ((0 : Int), (([] : List Int), (3 : Int))))) (((getI y95.2 y95.1)).bind fun r96 => ((getI y95.2 y95.1)).bind fun r97 => ((getI y95.2 y95.1)).bind fun r98 => ((getI y95.2 y95.1)).bind fun r99 => ((setI y95.2 y95.1 (w64 (r97 + (1 : Int))))).bind fun r100 => some (.inl r100))))))) (([] : List Int), (0 : Int))) r78)) := by kernel_rfl
def S127 : FuncId → Sp := fun g => match g with
  | 127 => { loops := [(3, [(.slot 3, .own .i 3), (.slot 10, .dat .i)])] }
  | _ => {}
noncomputable def F127 (P : Program) (lf : Nat) (x : tt [(true, (.pair .str (.pair (.sl (.pair .str (.pair .i .i))) (.sl Yq))))]) : Option (tt [(false, (.sl .i))]) := fnF P (C24 P lf) S127 127 [(true, (.pair .str (.pair (.sl (.pair .str (.pair .i .i))) (.sl Yq))))] [(false, (.sl .i))] lf x
noncomputable def C127 (P : Program) (lf : Nat) : FuncId → Option Con := extC (C24 P lf) 127 (dataCon [(true, (.pair .str (.pair (.sl (.pair .str (.pair .i .i))) (.sl Yq))))] [(false, (.sl .i))] (F127 P lf))
theorem F127_eq (lf : Nat) (a0 : ByteArray) (a1 : Yf) (a2 : Yr) : F127 Tryz.prog lf (a0, (a1, a2)) =
  iter lf (fun y10 : ((List Int) × Int) => cond (decide (y10.2 < (a2.length : Int))) (((getI a2 y10.2)).bind fun r11 => ((appC y10.1 [r11.2.1])).bind fun r12 => cond (decide (r11.2.2.1 < (100000 : Int))) (((appC r12 [(w64 (r11.2.2.1 + (1 : Int)))])).bind fun r13 => some (.inl (r13, (w64 (y10.2 + (1 : Int)))))) (some (.inl (r12, (w64 (y10.2 + (1 : Int))))))) (outR (((ltC y10.1)).bind fun r14 => ((ltC (sortL y10.1))).bind fun r15 => some (compL (sortL y10.1))))) ([(0 : Int)], (0 : Int)) := by kernel_rfl
def S132 : FuncId → Sp := fun g => match g with
  | 209 => { joins := [(12, [(.slot 7, .dat .i), (.slot 3, .own .i 3)])], loops := [(9, [(.slot 7, .dat .i), (.slot 3, .own .i 3)]), (3, [(.slot 4, .own .i 3), (.slot 13, .dat .i)]), (1, [(.slot 3, .own .i 3)])] }
  | 175 => { fz := [(4, [(.slot 6, .dat (.sl .i))])] }
  | 132 => { loops := [(2, [(.slot 13, .dat .i)])] }
  | _ => {}
noncomputable def F132 (P : Program) (lf : Nat) (x : tt [(true, (.pair .str (.pair (.sl (.pair .str (.pair .i .i))) (.sl Yq)))), (false, .i)]) : Option (tt [(true, (.pair .i (.sl .i))), (false, .bool)]) := fnF P (C127 P lf) S132 132 [(true, (.pair .str (.pair (.sl (.pair .str (.pair .i .i))) (.sl Yq)))), (false, .i)] [(true, (.pair .i (.sl .i))), (false, .bool)] lf x
noncomputable def C132 (P : Program) (lf : Nat) : FuncId → Option Con := extC (C127 P lf) 132 (dataCon [(true, (.pair .str (.pair (.sl (.pair .str (.pair .i .i))) (.sl Yq)))), (false, .i)] [(true, (.pair .i (.sl .i))), (false, .bool)] (F132 P lf))
theorem F132_eq (lf : Nat) (a0 : ByteArray) (a1 : Yf) (a2 : Yr) (a3 : Int) : F132 Tryz.prog lf ((a0, (a1, a2)), a3) =
  ((F127 Tryz.prog lf (a0, (a1, a2)))).bind fun r72 => iter lf (fun y73 : Int => cond (decide (y73 < (r72.length : Int))) (((getI r72 y73)).bind fun r74 => ((getI a2 a3)).bind fun r75 => ((getI a2 a3)).bind fun r76 => ((F91 Tryz.prog lf (r74, (r75.2.1, r76.2.2.1)))).bind fun r77 => cond (!r77) (some (.inl (w64 (y73 + (1 : Int))))) (((F131 Tryz.prog lf ())).bind fun r78 => ((F116 Tryz.prog lf (a0, (a1, a2)))).bind fun r79 => ((F115 Tryz.prog lf (a1, r79))).bind fun r80 => ((mkC (r80.length : Int) (0 : Int))).bind fun r81 => iter lf (fun y82 : (List Int) => iter lf (fun y83 : ((List Int) × Int) => cond (decide (y83.2 < (y82.length : Int))) (((getI y82 y83.2)).bind fun r84 => ((getI y82 y83.2)).bind fun r85 => ((getI r80 y83.2)).bind fun r86 => ((getI r86 r85)).bind fun r87 => ((appC y83.1 [r87])).bind fun r88 => some (.inl (r88, (w64 (y83.2 + (1 : Int)))))) (outR (((F130 Tryz.prog lf ((a0, (a1, a2)), (r74, (y83.1, ()))))).bind fun r89 => ((F133 Tryz.prog lf ((r89.1, r89.2), a3))).bind fun r90 => cond r90 (some (.inr (.inr ((r74, y83.1), true)))) (jn (iter lf (fun y91 : (Int × (List Int)) => cond (decide (y91.1 ≥ (0 : Int))) (((getI y91.2 y91.1)).bind fun r92 => ((getI y91.2 y91.1)).bind fun r93 => ((getI r80 y91.1)).bind fun r94 => cond (decide (r93 = (w64 ((r94.length : Int) - (1 : Int))))) (((getI y91.2 y91.1)).bind fun r95 => ((getI y91.2 y91.1)).bind fun r96 => ((setI y91.2 y91.1 (0 : Int))).bind fun r97 => some (.inl ((w64 (y91.1 - (1 : Int))), r97))) (some (.inr (.inl (y91.1, y91.2))))) (some (.inr (.inl (y91.1, y91.2))))) ((w64 ((r80.length : Int) - (1 : Int))), y82)) (fun y98 : (Int × (List Int)) => cond (decide (y98.1 < (0 : Int))) (some (.inr (.inl (w64 (y73 + (1 : Int)))))) (((getI y98.2 y98.1)).bind fun r99 => ((getI y98.2 y98.1)).bind fun r100 => ((getI y98.2 y98.1)).bind fun r101 => ((getI y98.2 y98.1)).bind fun r102 => ((setI y98.2 y98.1 (w64 (r100 + (1 : Int))))).bind fun r103 => some (.inl r103))))))) (([] : List Int), (0 : Int))) r81)) (some (.inr (((0 : Int), ([] : List Int)), false)))) (0 : Int) := by kernel_rfl
def S47 : FuncId → Sp := fun g => match g with
  | 47 => { joins := [(2, [(.slot 6, .dat .i)])] }
  | _ => {}
noncomputable def F47 (P : Program) (lf : Nat) (x : tt [(true, (.pair .str (.pair (.sl (.pair .str (.pair .i .i))) (.sl Yq)))), (false, .i)]) : Option (tt [(true, (.pair .i (.sl .i))), (false, .i)]) := fnF P (C132 P lf) S47 47 [(true, (.pair .str (.pair (.sl (.pair .str (.pair .i .i))) (.sl Yq)))), (false, .i)] [(true, (.pair .i (.sl .i))), (false, .i)] lf x
noncomputable def C47 (P : Program) (lf : Nat) : FuncId → Option Con := extC (C132 P lf) 47 (dataCon [(true, (.pair .str (.pair (.sl (.pair .str (.pair .i .i))) (.sl Yq)))), (false, .i)] [(true, (.pair .i (.sl .i))), (false, .i)] (F47 P lf))
theorem F47_eq (lf : Nat) (a0 : ByteArray) (a1 : Yf) (a2 : Yr) (a3 : Int) : F47 Tryz.prog lf ((a0, (a1, a2)), a3) =
  jn (((F31 Tryz.prog lf (a0, (a1, a2)))).bind fun r8 => cond (!(decide (r8 = (0 : Int)))) (some (.inl r8)) (((F91 Tryz.prog lf (a3, ((0 : Int), (w64 ((a2.length : Int) - (1 : Int))))))).bind fun r9 => cond (!r9) (some (.inl (47 : Int))) (some (.inl (0 : Int))))) (fun y10 : Int => cond (!(decide (y10 = (0 : Int)))) (some (((0 : Int), ([] : List Int)), y10)) (((F132 Tryz.prog lf ((a0, (a1, a2)), a3))).bind fun r11 => cond (!r11.2) (some (((0 : Int), ([] : List Int)), (3 : Int))) (some ((r11.1.1, r11.1.2), (0 : Int))))) := by kernel_rfl
end Go.K
namespace Go.K
open Go.Sl Go.Sx Go.Proofs
noncomputable def G23 (lf : Nat) (x : ((ByteArray × (Yf × Yr)) × (Int × Yf))) : Option ((Int × Int)) :=
  jn (((G31 lf (x.1.1, (x.1.2.1, x.1.2.2)))).bind fun r10 => cond (!(decide (r10 = (0 : Int)))) (some (.inl r10)) (((G91 lf (x.2.1, ((0 : Int), (100000 : Int))))).bind fun r11 => cond (!r11) (some (.inl (45 : Int))) (((G173 lf ((x.1.1, (x.1.2.1, x.1.2.2)), x.2.2))).bind fun r12 => cond (!r12) (some (.inl (44 : Int))) (some (.inl (0 : Int)))))) (fun y13 : Int => cond (!(decide (y13 = (0 : Int)))) (some ((0 : Int), y13)) (((G104 lf ((x.1.1, (x.1.2.1, x.1.2.2)), (x.2.1, x.2.2)))).bind fun r14 => some (r14, (0 : Int))))
theorem F23_G (lf : Nat) (x : ((ByteArray × (Yf × Yr)) × (Int × Yf))) : F23 Tryz.prog lf x = G23 lf x := (F23_eq lf x.1.1 x.1.2.1 x.1.2.2 x.2.1 x.2.2).trans (by
  unfold G23
  (try simp only [F31_G, F91_G, F104_G, F173_G, agree_self, Lib.toList_data]); first | done | rfl)
noncomputable def G24 (lf : Nat) (x : ((ByteArray × (Yf × Yr)) × (Int × Yf))) : Option ((Int × ((List Int) × Int))) :=
  jn (((G31 lf (x.1.1, (x.1.2.1, x.1.2.2)))).bind fun r71 => cond (!(decide (r71 = (0 : Int)))) (some (.inl r71)) (((G91 lf (x.2.1, ((0 : Int), (100000 : Int))))).bind fun r72 => cond (!r72) (some (.inl (45 : Int))) (((G173 lf ((x.1.1, (x.1.2.1, x.1.2.2)), x.2.2))).bind fun r73 => cond (!r73) (some (.inl (44 : Int))) (some (.inl (0 : Int)))))) (fun y74 : Int => cond (!(decide (y74 = (0 : Int)))) (some ((0 : Int), (([] : List Int), y74))) (((G131 lf ())).bind fun r75 => ((G116 lf (x.1.1, (x.1.2.1, x.1.2.2)))).bind fun r76 => ((G115 lf (x.2.2, r76))).bind fun r77 => ((mkC (r77.length : Int) (0 : Int))).bind fun r78 => iter lf (fun y79 : (List Int) => iter lf (fun y80 : ((List Int) × Int) => cond (decide (y80.2 < (y79.length : Int))) (((getI y79 y80.2)).bind fun r81 => ((getI y79 y80.2)).bind fun r82 => ((getI r77 y80.2)).bind fun r83 => ((getI r83 r82)).bind fun r84 => ((appC y80.1 [r84])).bind fun r85 => some (.inl (r85, (w64 (y80.2 + (1 : Int)))))) (outR (((G130 lf ((x.1.1, (x.1.2.1, x.1.2.2)), (x.2.1, (y80.1, ()))))).bind fun r86 => ((G106 lf (r86.2, false))).bind fun r87 => cond (decide (r87 ≥ (0 : Int))) (some (.inr (r87, (y80.1, (0 : Int))))) (jn (iter lf (fun y88 : (Int × (List Int)) => cond (decide (y88.1 ≥ (0 : Int))) (((getI y88.2 y88.1)).bind fun r89 => ((getI y88.2 y88.1)).bind fun r90 => ((getI r77 y88.1)).bind fun r91 => cond (decide (r90 = (w64 ((r91.length : Int) - (1 : Int))))) (((getI y88.2 y88.1)).bind fun r92 => ((getI y88.2 y88.1)).bind fun r93 => ((setI y88.2 y88.1 (0 : Int))).bind fun r94 => some (.inl ((w64 (y88.1 - (1 : Int))), r94))) (some (.inr (.inl (y88.1, y88.2))))) (some (.inr (.inl (y88.1, y88.2))))) ((w64 ((r77.length : Int) - (1 : Int))), y79)) (fun y95 : (Int × (List Int)) => cond (decide (y95.1 < (0 : Int))) (some (.inr ((0 : Int), (([] : List Int), (3 : Int))))) (((getI y95.2 y95.1)).bind fun r96 => ((getI y95.2 y95.1)).bind fun r97 => ((getI y95.2 y95.1)).bind fun r98 => ((getI y95.2 y95.1)).bind fun r99 => ((setI y95.2 y95.1 (w64 (r97 + (1 : Int))))).bind fun r100 => some (.inl r100))))))) (([] : List Int), (0 : Int))) r78))
theorem F24_G (lf : Nat) (x : ((ByteArray × (Yf × Yr)) × (Int × Yf))) : F24 Tryz.prog lf x = G24 lf x := (F24_eq lf x.1.1 x.1.2.1 x.1.2.2 x.2.1 x.2.2).trans (by
  unfold G24
  (try simp only [F31_G, F91_G, F106_G, F115_G, F116_G, F130_G, F131_G, F173_G, agree_self, Lib.toList_data]); first | done | rfl)
noncomputable def G127 (lf : Nat) (x : (ByteArray × (Yf × Yr))) : Option ((List Int)) :=
  iter lf (fun y10 : ((List Int) × Int) => cond (decide (y10.2 < (x.2.2.length : Int))) (((getI x.2.2 y10.2)).bind fun r11 => ((appC y10.1 [r11.2.1])).bind fun r12 => cond (decide (r11.2.2.1 < (100000 : Int))) (((appC r12 [(w64 (r11.2.2.1 + (1 : Int)))])).bind fun r13 => some (.inl (r13, (w64 (y10.2 + (1 : Int)))))) (some (.inl (r12, (w64 (y10.2 + (1 : Int))))))) (outR (((ltC y10.1)).bind fun r14 => ((ltC (sortL y10.1))).bind fun r15 => some (compL (sortL y10.1))))) ([(0 : Int)], (0 : Int))
theorem F127_G (lf : Nat) (x : (ByteArray × (Yf × Yr))) : F127 Tryz.prog lf x = G127 lf x := (F127_eq lf x.1 x.2.1 x.2.2).trans (by
  unfold G127
  (try simp only [agree_self, Lib.toList_data]); first | done | rfl)
noncomputable def G132 (lf : Nat) (x : ((ByteArray × (Yf × Yr)) × Int)) : Option (((Int × (List Int)) × Bool)) :=
  ((G127 lf (x.1.1, (x.1.2.1, x.1.2.2)))).bind fun r72 => iter lf (fun y73 : Int => cond (decide (y73 < (r72.length : Int))) (((getI r72 y73)).bind fun r74 => ((getI x.1.2.2 x.2)).bind fun r75 => ((getI x.1.2.2 x.2)).bind fun r76 => ((G91 lf (r74, (r75.2.1, r76.2.2.1)))).bind fun r77 => cond (!r77) (some (.inl (w64 (y73 + (1 : Int))))) (((G131 lf ())).bind fun r78 => ((G116 lf (x.1.1, (x.1.2.1, x.1.2.2)))).bind fun r79 => ((G115 lf (x.1.2.1, r79))).bind fun r80 => ((mkC (r80.length : Int) (0 : Int))).bind fun r81 => iter lf (fun y82 : (List Int) => iter lf (fun y83 : ((List Int) × Int) => cond (decide (y83.2 < (y82.length : Int))) (((getI y82 y83.2)).bind fun r84 => ((getI y82 y83.2)).bind fun r85 => ((getI r80 y83.2)).bind fun r86 => ((getI r86 r85)).bind fun r87 => ((appC y83.1 [r87])).bind fun r88 => some (.inl (r88, (w64 (y83.2 + (1 : Int)))))) (outR (((G130 lf ((x.1.1, (x.1.2.1, x.1.2.2)), (r74, (y83.1, ()))))).bind fun r89 => ((G133 lf ((r89.1, r89.2), x.2))).bind fun r90 => cond r90 (some (.inr (.inr ((r74, y83.1), true)))) (jn (iter lf (fun y91 : (Int × (List Int)) => cond (decide (y91.1 ≥ (0 : Int))) (((getI y91.2 y91.1)).bind fun r92 => ((getI y91.2 y91.1)).bind fun r93 => ((getI r80 y91.1)).bind fun r94 => cond (decide (r93 = (w64 ((r94.length : Int) - (1 : Int))))) (((getI y91.2 y91.1)).bind fun r95 => ((getI y91.2 y91.1)).bind fun r96 => ((setI y91.2 y91.1 (0 : Int))).bind fun r97 => some (.inl ((w64 (y91.1 - (1 : Int))), r97))) (some (.inr (.inl (y91.1, y91.2))))) (some (.inr (.inl (y91.1, y91.2))))) ((w64 ((r80.length : Int) - (1 : Int))), y82)) (fun y98 : (Int × (List Int)) => cond (decide (y98.1 < (0 : Int))) (some (.inr (.inl (w64 (y73 + (1 : Int)))))) (((getI y98.2 y98.1)).bind fun r99 => ((getI y98.2 y98.1)).bind fun r100 => ((getI y98.2 y98.1)).bind fun r101 => ((getI y98.2 y98.1)).bind fun r102 => ((setI y98.2 y98.1 (w64 (r100 + (1 : Int))))).bind fun r103 => some (.inl r103))))))) (([] : List Int), (0 : Int))) r81)) (some (.inr (((0 : Int), ([] : List Int)), false)))) (0 : Int)
theorem F132_G (lf : Nat) (x : ((ByteArray × (Yf × Yr)) × Int)) : F132 Tryz.prog lf x = G132 lf x := (F132_eq lf x.1.1 x.1.2.1 x.1.2.2 x.2).trans (by
  unfold G132
  (try simp only [F91_G, F115_G, F116_G, F127_G, F130_G, F131_G, F133_G, agree_self, Lib.toList_data]); first | done | rfl)
noncomputable def G47 (lf : Nat) (x : ((ByteArray × (Yf × Yr)) × Int)) : Option (((Int × (List Int)) × Int)) :=
  jn (((G31 lf (x.1.1, (x.1.2.1, x.1.2.2)))).bind fun r8 => cond (!(decide (r8 = (0 : Int)))) (some (.inl r8)) (((G91 lf (x.2, ((0 : Int), (w64 ((x.1.2.2.length : Int) - (1 : Int))))))).bind fun r9 => cond (!r9) (some (.inl (47 : Int))) (some (.inl (0 : Int))))) (fun y10 : Int => cond (!(decide (y10 = (0 : Int)))) (some (((0 : Int), ([] : List Int)), y10)) (((G132 lf ((x.1.1, (x.1.2.1, x.1.2.2)), x.2))).bind fun r11 => cond (!r11.2) (some (((0 : Int), ([] : List Int)), (3 : Int))) (some ((r11.1.1, r11.1.2), (0 : Int)))))
theorem F47_G (lf : Nat) (x : ((ByteArray × (Yf × Yr)) × Int)) : F47 Tryz.prog lf x = G47 lf x := (F47_eq lf x.1.1 x.1.2.1 x.1.2.2 x.2).trans (by
  unfold G47
  (try simp only [F31_G, F91_G, F132_G, agree_self, Lib.toList_data]); first | done | rfl)
end Go.K
namespace Go.K
open Go.Sl Go.Sx Go.Proofs
def S49 : FuncId → Sp := fun g => match g with
  | 49 => { joins := [(14, [(.slot 48, .dat .bool), (.cell 7 0, .dat .str), (.cell 7 1, .own (.pair .str (.pair .i .i)) 48), (.cell 7 2, .own Yq 60)]), (7, [(.slot 5, .dat (.sl .str))])], loops := [(10, [(.slot 8, .dat .bool), (.slot 31, .dat .i), (.cell 7 0, .dat .str), (.cell 7 1, .own (.pair .str (.pair .i .i)) 48), (.cell 7 2, .own Yq 60)])] }
  | 135 => { joins := [(13, [(.cell 1 0, .dat .str), (.cell 13 0, .dat (.sl .str)), (.cell 1 1, .own (.pair .str (.pair .i .i)) 48), (.cell 1 2, .own Yq 60)])], wr := [12, 10] }
  | _ => {}
noncomputable def F49 (P : Program) (lf : Nat) (x : tt [(false, .str)]) : Option (tt [(true, (.pair .str (.pair (.sl (.pair .str (.pair .i .i))) (.sl Yq)))), (false, .i), (false, .i)]) := fnF P (C47 P lf) S49 49 [(false, .str)] [(true, (.pair .str (.pair (.sl (.pair .str (.pair .i .i))) (.sl Yq)))), (false, .i), (false, .i)] lf x
noncomputable def C49 (P : Program) (lf : Nat) : FuncId → Option Con := extC (C47 P lf) 49 (dataCon [(false, .str)] [(true, (.pair .str (.pair (.sl (.pair .str (.pair .i .i))) (.sl Yq)))), (false, .i), (false, .i)] (F49 P lf))
theorem F49_eq (lf : Nat) (a0 : ByteArray) : F49 Tryz.prog lf a0 =
  cond (decide ((a0.size : Int) > (8000 : Int))) (some (((bts []), (([] : List (ByteArray × (Int × Int))), ([] : List (ByteArray × (Int × (Int × (Yt × (Yt × (List ByteArray))))))))), ((0 : Int), (2 : Int)))) (((splitC a0 (bts [10]))).bind fun r109 => jn (((getI r109 (w64 ((r109.length : Int) - (1 : Int))))).bind fun r110 => cond ((ByteArray.toList r110) == ([] : List UInt8)) (((subI r109 (0 : Int) (w64 ((r109.length : Int) - (1 : Int))))).bind fun r111 => some (.inl r111)) (some (.inl r109))) (fun y112 : (List ByteArray) => iter lf (fun y113 : (Bool × (Int × (ByteArray × (Yf × Yr)))) => cond (decide (y113.2.1 < (y112.length : Int))) (((getI y112 y113.2.1)).bind fun r114 => ((F86 Tryz.prog lf r114)).bind fun r115 => cond (decide ((r115.length : Int) = (0 : Int))) (some (.inl (y113.1, ((w64 (y113.2.1 + (1 : Int))), (y113.2.2.1, (y113.2.2.2.1, y113.2.2.2.2)))))) (((byteAt r114 (0 : Int))).bind fun r116 => cond (decide (r116 = (35 : Int))) (some (.inl (y113.1, ((w64 (y113.2.1 + (1 : Int))), (y113.2.2.1, (y113.2.2.2.1, y113.2.2.2.2)))))) (jn (((F86 Tryz.prog lf r114)).bind fun r117 => ((F198 Tryz.prog lf ((r117, ()), ()))).bind fun r118 => sm r118 (fun r119 : (((List ByteArray) × PUnit) × ByteArray) => ((F199 Tryz.prog lf (decide (y113.1 = (!((ByteArray.toList r119.2) == [(UInt8.ofNat 99), (UInt8.ofNat 111), (UInt8.ofNat 100), (UInt8.ofNat 101)])))))).bind fun r120 => sm r120 (fun r121 : PUnit => jn (cond ((ByteArray.toList r119.2) == [(UInt8.ofNat 99), (UInt8.ofNat 111), (UInt8.ofNat 100), (UInt8.ofNat 101)]) (((F200 Tryz.prog lf ((r119.1.1, ()), ()))).bind fun r122 => sm r122 (fun r123 : (((List ByteArray) × PUnit) × ByteArray) => some (.inl (r123.2, (r123.1.1, (y113.2.2.2.1, y113.2.2.2.2))))) (fun r124 : Int => some (.inr (.inl (true, (y113.2.2.1, (y113.2.2.2.1, y113.2.2.2.2))))))) (cond ((ByteArray.toList r119.2) == [(UInt8.ofNat 102), (UInt8.ofNat 97), (UInt8.ofNat 99), (UInt8.ofNat 116)]) (agree (((F201 Tryz.prog lf ((r119.1.1, ()), ()))).bind fun r125 => sm r125 (fun r126 : (((List ByteArray) × PUnit) × (ByteArray × (Int × Int))) => ((appC y113.2.2.2.1 [(r126.2.1, (r126.2.2.1, r126.2.2.2))])).bind fun r127 => some (.inl (y113.2.2.1, (r126.1.1, (r127, y113.2.2.2.2))))) (fun r128 : Int => some (.inr (.inl (true, (y113.2.2.1, (y113.2.2.2.1, y113.2.2.2.2))))))) (((F201 Tryz.prog lf ((r119.1.1, ()), ()))).bind fun r129 => sm r129 (fun r130 : (((List ByteArray) × PUnit) × (ByteArray × (Int × Int))) => agree (((appC y113.2.2.2.1 [(r130.2.1, (r130.2.2.1, r130.2.2.2))])).bind fun r131 => some (.inl (y113.2.2.1, (r130.1.1, (r131, y113.2.2.2.2))))) (((appC y113.2.2.2.1 [(r130.2.1, (r130.2.2.1, r130.2.2.2))])).bind fun r132 => some (.inl (y113.2.2.1, (r130.1.1, (r132, y113.2.2.2.2)))))) (fun r133 : Int => some (.inr (.inl (true, (y113.2.2.1, (y113.2.2.2.1, y113.2.2.2.2)))))))) (cond ((ByteArray.toList r119.2) == [(UInt8.ofNat 114), (UInt8.ofNat 117), (UInt8.ofNat 108), (UInt8.ofNat 101)]) (agree (((F202 Tryz.prog lf ((r119.1.1, ()), ()))).bind fun r134 => sm r134 (fun r135 : (((List ByteArray) × PUnit) × (ByteArray × (Int × (Int × (Yt × (Yt × (List ByteArray))))))) => ((appC y113.2.2.2.2 [(r135.2.1, (r135.2.2.1, (r135.2.2.2.1, (r135.2.2.2.2.1, (r135.2.2.2.2.2.1, r135.2.2.2.2.2.2)))))])).bind fun r136 => some (.inl (y113.2.2.1, (r135.1.1, (y113.2.2.2.1, r136))))) (fun r137 : Int => some (.inr (.inl (true, (y113.2.2.1, (y113.2.2.2.1, y113.2.2.2.2))))))) (((F202 Tryz.prog lf ((r119.1.1, ()), ()))).bind fun r138 => sm r138 (fun r139 : (((List ByteArray) × PUnit) × (ByteArray × (Int × (Int × (Yt × (Yt × (List ByteArray))))))) => agree (((appC y113.2.2.2.2 [(r139.2.1, (r139.2.2.1, (r139.2.2.2.1, (r139.2.2.2.2.1, (r139.2.2.2.2.2.1, r139.2.2.2.2.2.2)))))])).bind fun r140 => some (.inl (y113.2.2.1, (r139.1.1, (y113.2.2.2.1, r140))))) (((appC y113.2.2.2.2 [(r139.2.1, (r139.2.2.1, (r139.2.2.2.1, (r139.2.2.2.2.1, (r139.2.2.2.2.2.1, r139.2.2.2.2.2.2)))))])).bind fun r141 => some (.inl (y113.2.2.1, (r139.1.1, (y113.2.2.2.1, r141)))))) (fun r142 : Int => some (.inr (.inl (true, (y113.2.2.1, (y113.2.2.2.1, y113.2.2.2.2)))))))) (((F199 Tryz.prog lf false)).bind fun r143 => sm r143 (fun r144 : PUnit => some (.inl (y113.2.2.1, (r119.1.1, (y113.2.2.2.1, y113.2.2.2.2))))) (fun r145 : Int => some (.inr (.inl (true, (y113.2.2.1, (y113.2.2.2.1, y113.2.2.2.2)))))))))) (fun y146 : (ByteArray × ((List ByteArray) × (Yf × Yr))) => ((F199 Tryz.prog lf (decide ((y146.2.1.length : Int) = (0 : Int))))).bind fun r147 => sm r147 (fun r148 : PUnit => some (.inl (false, (y146.1, (y146.2.2.1, y146.2.2.2))))) (fun r149 : Int => some (.inl (true, (y146.1, (y146.2.2.1, y146.2.2.2))))))) (fun r150 : Int => some (.inl (true, (y113.2.2.1, (y113.2.2.2.1, y113.2.2.2.2)))))) (fun r151 : Int => some (.inl (true, (y113.2.2.1, (y113.2.2.2.1, y113.2.2.2.2)))))) (fun y152 : (Bool × (ByteArray × (Yf × Yr))) => cond y152.1 (some (.inr (((bts []), (([] : List (ByteArray × (Int × Int))), ([] : List (ByteArray × (Int × (Int × (Yt × (Yt × (List ByteArray))))))))), ((w64 (y113.2.1 + (1 : Int))), (46 : Int))))) (some (.inl (true, ((w64 (y113.2.1 + (1 : Int))), (y152.2.1, (y152.2.2.1, y152.2.2.2)))))))))) (outR (cond (!y113.1) (some (((bts []), (([] : List (ByteArray × (Int × Int))), ([] : List (ByteArray × (Int × (Int × (Yt × (Yt × (List ByteArray))))))))), ((w64 ((y112.length : Int) + (1 : Int))), (46 : Int)))) (((F31 Tryz.prog lf (y113.2.2.1, (y113.2.2.2.1, y113.2.2.2.2)))).bind fun r153 => cond (!(decide (r153 = (0 : Int)))) (some (((bts []), (([] : List (ByteArray × (Int × Int))), ([] : List (ByteArray × (Int × (Int × (Yt × (Yt × (List ByteArray))))))))), ((0 : Int), r153))) (some ((y113.2.2.1, (y113.2.2.2.1, y113.2.2.2.2)), ((0 : Int), (0 : Int)))))))) (false, ((0 : Int), ((bts []), (([] : List (ByteArray × (Int × Int))), ([] : List (ByteArray × (Int × (Int × (Yt × (Yt × (List ByteArray))))))))))))) := by kernel_rfl
end Go.K
namespace Go.K
open Go.Sl Go.Sx Go.Proofs
noncomputable def G49 (lf : Nat) (x : ByteArray) : Option (((ByteArray × (Yf × Yr)) × (Int × Int))) :=
  cond (decide ((x.size : Int) > (8000 : Int))) (some (((bts []), (([] : List (ByteArray × (Int × Int))), ([] : List (ByteArray × (Int × (Int × (Yt × (Yt × (List ByteArray))))))))), ((0 : Int), (2 : Int)))) (((splitC x (bts [10]))).bind fun r109 => jn (((getI r109 (w64 ((r109.length : Int) - (1 : Int))))).bind fun r110 => cond (r110.data.toList == ([] : List UInt8)) (((subI r109 (0 : Int) (w64 ((r109.length : Int) - (1 : Int))))).bind fun r111 => some (.inl r111)) (some (.inl r109))) (fun y112 : (List ByteArray) => iter lf (fun y113 : (Bool × (Int × (ByteArray × (Yf × Yr)))) => cond (decide (y113.2.1 < (y112.length : Int))) (((getI y112 y113.2.1)).bind fun r114 => ((G86 lf r114)).bind fun r115 => cond (decide ((r115.length : Int) = (0 : Int))) (some (.inl (y113.1, ((w64 (y113.2.1 + (1 : Int))), (y113.2.2.1, (y113.2.2.2.1, y113.2.2.2.2)))))) (((byteAt r114 (0 : Int))).bind fun r116 => cond (decide (r116 = (35 : Int))) (some (.inl (y113.1, ((w64 (y113.2.1 + (1 : Int))), (y113.2.2.1, (y113.2.2.2.1, y113.2.2.2.2)))))) (jn (((G86 lf r114)).bind fun r117 => ((G198 lf ((r117, ()), ()))).bind fun r118 => sm r118 (fun r119 : (((List ByteArray) × PUnit) × ByteArray) => ((G199 lf (decide (y113.1 = (!(r119.2.data.toList == [(UInt8.ofNat 99), (UInt8.ofNat 111), (UInt8.ofNat 100), (UInt8.ofNat 101)])))))).bind fun r120 => sm r120 (fun r121 : PUnit => jn (cond (r119.2.data.toList == [(UInt8.ofNat 99), (UInt8.ofNat 111), (UInt8.ofNat 100), (UInt8.ofNat 101)]) (((G200 lf ((r119.1.1, ()), ()))).bind fun r122 => sm r122 (fun r123 : (((List ByteArray) × PUnit) × ByteArray) => some (.inl (r123.2, (r123.1.1, (y113.2.2.2.1, y113.2.2.2.2))))) (fun r124 : Int => some (.inr (.inl (true, (y113.2.2.1, (y113.2.2.2.1, y113.2.2.2.2))))))) (cond (r119.2.data.toList == [(UInt8.ofNat 102), (UInt8.ofNat 97), (UInt8.ofNat 99), (UInt8.ofNat 116)]) (((G201 lf ((r119.1.1, ()), ()))).bind fun r125 => sm r125 (fun r126 : (((List ByteArray) × PUnit) × (ByteArray × (Int × Int))) => ((appC y113.2.2.2.1 [(r126.2.1, (r126.2.2.1, r126.2.2.2))])).bind fun r127 => some (.inl (y113.2.2.1, (r126.1.1, (r127, y113.2.2.2.2))))) (fun r128 : Int => some (.inr (.inl (true, (y113.2.2.1, (y113.2.2.2.1, y113.2.2.2.2))))))) (cond (r119.2.data.toList == [(UInt8.ofNat 114), (UInt8.ofNat 117), (UInt8.ofNat 108), (UInt8.ofNat 101)]) (((G202 lf ((r119.1.1, ()), ()))).bind fun r134 => sm r134 (fun r135 : (((List ByteArray) × PUnit) × (ByteArray × (Int × (Int × (Yt × (Yt × (List ByteArray))))))) => ((appC y113.2.2.2.2 [(r135.2.1, (r135.2.2.1, (r135.2.2.2.1, (r135.2.2.2.2.1, (r135.2.2.2.2.2.1, r135.2.2.2.2.2.2)))))])).bind fun r136 => some (.inl (y113.2.2.1, (r135.1.1, (y113.2.2.2.1, r136))))) (fun r137 : Int => some (.inr (.inl (true, (y113.2.2.1, (y113.2.2.2.1, y113.2.2.2.2))))))) (((G199 lf false)).bind fun r143 => sm r143 (fun r144 : PUnit => some (.inl (y113.2.2.1, (r119.1.1, (y113.2.2.2.1, y113.2.2.2.2))))) (fun r145 : Int => some (.inr (.inl (true, (y113.2.2.1, (y113.2.2.2.1, y113.2.2.2.2)))))))))) (fun y146 : (ByteArray × ((List ByteArray) × (Yf × Yr))) => ((G199 lf (decide ((y146.2.1.length : Int) = (0 : Int))))).bind fun r147 => sm r147 (fun r148 : PUnit => some (.inl (false, (y146.1, (y146.2.2.1, y146.2.2.2))))) (fun r149 : Int => some (.inl (true, (y146.1, (y146.2.2.1, y146.2.2.2))))))) (fun r150 : Int => some (.inl (true, (y113.2.2.1, (y113.2.2.2.1, y113.2.2.2.2)))))) (fun r151 : Int => some (.inl (true, (y113.2.2.1, (y113.2.2.2.1, y113.2.2.2.2)))))) (fun y152 : (Bool × (ByteArray × (Yf × Yr))) => cond y152.1 (some (.inr (((bts []), (([] : List (ByteArray × (Int × Int))), ([] : List (ByteArray × (Int × (Int × (Yt × (Yt × (List ByteArray))))))))), ((w64 (y113.2.1 + (1 : Int))), (46 : Int))))) (some (.inl (true, ((w64 (y113.2.1 + (1 : Int))), (y152.2.1, (y152.2.2.1, y152.2.2.2)))))))))) (outR (cond (!y113.1) (some (((bts []), (([] : List (ByteArray × (Int × Int))), ([] : List (ByteArray × (Int × (Int × (Yt × (Yt × (List ByteArray))))))))), ((w64 ((y112.length : Int) + (1 : Int))), (46 : Int)))) (((G31 lf (y113.2.2.1, (y113.2.2.2.1, y113.2.2.2.2)))).bind fun r153 => cond (!(decide (r153 = (0 : Int)))) (some (((bts []), (([] : List (ByteArray × (Int × Int))), ([] : List (ByteArray × (Int × (Int × (Yt × (Yt × (List ByteArray))))))))), ((0 : Int), r153))) (some ((y113.2.2.1, (y113.2.2.2.1, y113.2.2.2.2)), ((0 : Int), (0 : Int)))))))) (false, ((0 : Int), ((bts []), (([] : List (ByteArray × (Int × Int))), ([] : List (ByteArray × (Int × (Int × (Yt × (Yt × (List ByteArray)))))))))))))
theorem F49_G (lf : Nat) (x : ByteArray) : F49 Tryz.prog lf x = G49 lf x := (F49_eq lf x).trans (by
  unfold G49
  (try simp only [F31_G, F86_G, F198_G, F199_G, F200_G, F201_G, F202_G, agree_self, Lib.toList_data]); first | done | rfl)
end Go.K
namespace Go.K
open Go.Sl Go.Sx Go.Proofs
def S167 : FuncId → Sp := fun _ => {}
noncomputable def F167 (P : Program) (lf : Nat) (x : tt [(true, (.sl Yp)), (false, .i)]) : Option (tt [(false, .i)]) := fnF P (C49 P lf) S167 167 [(true, (.sl Yp)), (false, .i)] [(false, .i)] lf x
noncomputable def C167 (P : Program) (lf : Nat) : FuncId → Option Con := extC (C49 P lf) 167 (dataCon [(true, (.sl Yp)), (false, .i)] [(false, .i)] (F167 P lf))
theorem F167_eq (lf : Nat) (a0 : Yt) (a1 : Int) : F167 Tryz.prog lf (a0, a1) =
  ((getI a0 a1)).bind fun r3 => some r3.1 := by kernel_rfl
def S246 : FuncId → Sp := fun _ => {}
noncomputable def F246 (P : Program) (lf : Nat) (x : tt [(false, .i), (false, .bool)]) : Option (tt [(false, .str)]) := fnF P (C167 P lf) S246 246 [(false, .i), (false, .bool)] [(false, .str)] lf x
noncomputable def C246 (P : Program) (lf : Nat) : FuncId → Option Con := extC (C167 P lf) 246 (dataCon [(false, .i), (false, .bool)] [(false, .str)] (F246 P lf))
theorem F246_eq (lf : Nat) (a0 : Int) (a1 : Bool) : F246 Tryz.prog lf (a0, a1) =
  cond a1 (cond (decide (a0 = (1 : Int))) (some (bts [62, 61])) (cond (decide (a0 = (2 : Int))) (some (bts [62])) (cond (decide (a0 = (3 : Int))) (some (bts [33, 61])) (some (bts []))))) (cond (decide (a0 = (1 : Int))) (some (bts [60])) (cond (decide (a0 = (2 : Int))) (some (bts [60, 61])) (cond (decide (a0 = (3 : Int))) (some (bts [61])) (some (bts []))))) := by kernel_rfl
def S220 : FuncId → Sp := fun _ => {}
noncomputable def F220 (P : Program) (lf : Nat) (x : tt [(true, (.sl Yp)), (false, .i), (false, .bool)]) : Option (tt [(false, .str)]) := fnF P (C246 P lf) S220 220 [(true, (.sl Yp)), (false, .i), (false, .bool)] [(false, .str)] lf x
noncomputable def C220 (P : Program) (lf : Nat) : FuncId → Option Con := extC (C246 P lf) 220 (dataCon [(true, (.sl Yp)), (false, .i), (false, .bool)] [(false, .str)] (F220 P lf))
theorem F220_eq (lf : Nat) (a0 : Yt) (a1 : Int) (a2 : Bool) : F220 Tryz.prog lf (a0, (a1, a2)) =
  ((getI a0 a1)).bind fun r10 => ((catC r10.2.2.2.1 (bts [32]))).bind fun r11 => ((F246 Tryz.prog lf (r10.1, a2))).bind fun r12 => ((catC (r10.2.2.2.1 ++ (bts [32])) r12)).bind fun r13 => ((catC ((r10.2.2.2.1 ++ (bts [32])) ++ r12) (bts [32]))).bind fun r14 => ((itoaC r10.2.2.2.2)).bind fun r15 => ((catC (((r10.2.2.2.1 ++ (bts [32])) ++ r12) ++ (bts [32])) r15)).bind fun r16 => some ((((r10.2.2.2.1 ++ (bts [32])) ++ r12) ++ (bts [32])) ++ r15) := by kernel_rfl
def S166 : FuncId → Sp := fun _ => {}
noncomputable def F166 (P : Program) (lf : Nat) (x : tt [(true, (.sl Yp)), (false, .i)]) : Option (tt [(false, (.sl (.pair .str (.pair .i .bool))))]) := fnF P (C220 P lf) S166 166 [(true, (.sl Yp)), (false, .i)] [(false, (.sl (.pair .str (.pair .i .bool))))] lf x
noncomputable def C166 (P : Program) (lf : Nat) : FuncId → Option Con := extC (C220 P lf) 166 (dataCon [(true, (.sl Yp)), (false, .i)] [(false, (.sl (.pair .str (.pair .i .bool))))] (F166 P lf))
theorem F166_eq (lf : Nat) (a0 : Yt) (a1 : Int) : F166 Tryz.prog lf (a0, a1) =
  ((getI a0 a1)).bind fun r13 => cond (decide (r13.1 = (0 : Int))) (some [((bts [116, 114, 117, 101]), ((0 : Int), false))]) (cond (decide (r13.1 = (4 : Int))) (((F167 Tryz.prog lf (a0, r13.2.1))).bind fun r14 => ((F93 Tryz.prog lf r14)).bind fun r15 => cond r15 (((F220 Tryz.prog lf (a0, (r13.2.1, true)))).bind fun r16 => some [(r16, ((0 : Int), false))]) (((F167 Tryz.prog lf (a0, r13.2.1))).bind fun r17 => cond (decide (r17 = (5 : Int))) (some [((bts [110, 111, 116]), ((0 : Int), false)), ((bts []), (r13.2.1, true))]) (((F167 Tryz.prog lf (a0, r13.2.1))).bind fun r18 => some [((bts [110, 111, 116]), ((0 : Int), false)), ((bts []), (r13.2.1, (decide (r18 = (6 : Int)))))]))) (cond (decide (r13.1 = (5 : Int))) (((F167 Tryz.prog lf (a0, r13.2.1))).bind fun r19 => ((F167 Tryz.prog lf (a0, r13.2.2.1))).bind fun r20 => cond (decide (r20 = (5 : Int))) (some [((bts []), (r13.2.1, (decide (r19 = (6 : Int))))), ((bts [97, 110, 100]), ((0 : Int), false)), ((bts []), (r13.2.2.1, true))]) (((F167 Tryz.prog lf (a0, r13.2.2.1))).bind fun r21 => some [((bts []), (r13.2.1, (decide (r19 = (6 : Int))))), ((bts [97, 110, 100]), ((0 : Int), false)), ((bts []), (r13.2.2.1, (decide (r21 = (6 : Int)))))])) (cond (decide (r13.1 = (6 : Int))) (((F167 Tryz.prog lf (a0, r13.2.2.1))).bind fun r22 => some [((bts []), (r13.2.1, false)), ((bts [111, 114]), ((0 : Int), false)), ((bts []), (r13.2.2.1, (decide (r22 = (6 : Int)))))]) (((F220 Tryz.prog lf (a0, (a1, false)))).bind fun r23 => some [(r23, ((0 : Int), false))])))) := by kernel_rfl
def S95 : FuncId → Sp := fun g => match g with
  | 95 => { joins := [(22, [(.slot 7, .dat .i), (.slot 8, .dat .i)])], loops := [(6, [(.slot 6, .dat .i), (.slot 7, .dat .i), (.slot 8, .dat .i), (.slot 22, .dat .i)]), (2, [(.slot 2, .own .i 3), (.slot 3, .own .i 3), (.slot 4, .own .i 3), (.slot 15, .dat .i)])] }
  | _ => {}
noncomputable def F95 (P : Program) (lf : Nat) (x : tt [(true, (.sl Yp))]) : Option (tt [(false, (.sl .i)), (false, (.sl .i)), (false, (.sl .i))]) := fnF P (C166 P lf) S95 95 [(true, (.sl Yp))] [(false, (.sl .i)), (false, (.sl .i)), (false, (.sl .i))] lf x
noncomputable def C95 (P : Program) (lf : Nat) : FuncId → Option Con := extC (C166 P lf) 95 (dataCon [(true, (.sl Yp))] [(false, (.sl .i)), (false, (.sl .i)), (false, (.sl .i))] (F95 P lf))
theorem F95_eq (lf : Nat) (a0 : Yt) : F95 Tryz.prog lf a0 =
  iter lf (fun y26 : ((List Int) × ((List Int) × ((List Int) × Int))) => cond (decide (y26.2.2.2 < (a0.length : Int))) (((F166 Tryz.prog lf (a0, y26.2.2.2))).bind fun r27 => iter lf (fun y28 : (Int × (Int × (Int × Int))) => cond (decide (y28.2.2.2 < (r27.length : Int))) (((getI r27 y28.2.2.2)).bind fun r29 => cond (!((ByteArray.toList r29.1) == ([] : List UInt8))) (some (.inl ((w64 ((w64 (y28.1 + (1 : Int))) + (r29.1.size : Int))), (y28.2.1, (y28.2.2.1, (w64 (y28.2.2.2 + (1 : Int)))))))) (((getI y26.2.2.1 r29.2.1)).bind fun r30 => ((getI y26.2.2.1 r29.2.1)).bind fun r31 => ((getI y26.1 r29.2.1)).bind fun r32 => ((getI y26.1 r29.2.1)).bind fun r33 => ((getI y26.2.1 r29.2.1)).bind fun r34 => ((getI y26.2.1 r29.2.1)).bind fun r35 => cond r29.2.2 (some (.inl ((w64 ((w64 ((w64 (y28.1 + (1 : Int))) + r33)) + (4 : Int))), ((w64 (y28.2.1 + r35)), ((if (w64 (r31 + (1 : Int))) > y28.2.2.1 then (w64 (r31 + (1 : Int))) else y28.2.2.1), (w64 (y28.2.2.2 + (1 : Int)))))))) (some (.inl ((w64 ((w64 (y28.1 + (1 : Int))) + r33)), ((w64 (y28.2.1 + r35)), ((if r31 > y28.2.2.1 then r31 else y28.2.2.1), (w64 (y28.2.2.2 + (1 : Int)))))))))) (outR (jn (((F167 Tryz.prog lf (a0, y26.2.2.2))).bind fun r36 => cond (!(decide (r36 = (4 : Int)))) (some (.inl (y28.2.1, y28.2.2.1))) (((getI a0 y26.2.2.2)).bind fun r37 => ((F167 Tryz.prog lf (a0, r37.2.1))).bind fun r38 => ((F93 Tryz.prog lf r38)).bind fun r39 => cond r39 (some (.inl ((2 : Int), y28.2.2.1))) (some (.inl (y28.2.1, (w64 (y28.2.2.1 + (1 : Int)))))))) (fun y40 : (Int × Int) => ((appC y26.1 [(if (8001 : Int) < y28.1 then (8001 : Int) else y28.1)])).bind fun r41 => ((appC y26.2.1 [(if (31 : Int) < y40.1 then (31 : Int) else y40.1)])).bind fun r42 => ((appC y26.2.2.1 [y40.2])).bind fun r43 => some (.inl (r41, (r42, (r43, (w64 (y26.2.2.2 + (1 : Int))))))))))) ((-1 : Int), ((1 : Int), ((0 : Int), (0 : Int))))) (some (.inr (y26.1, (y26.2.1, y26.2.2.1))))) (([] : List Int), (([] : List Int), (([] : List Int), (0 : Int)))) := by kernel_rfl
def S96 : FuncId → Sp := fun g => match g with
  | 96 => { loops := [(3, [(.slot 5, .own .str 9), (.slot 12, .dat .i)])] }
  | _ => {}
noncomputable def F96 (P : Program) (lf : Nat) : Nat → tt [(true, (.sl Yp)), (false, .i)] → Option (tt [(false, .str)])
  | 0, _ => none
  | n + 1, x => fnF P (extC (C95 P lf) 96 (dataCon [(true, (.sl Yp)), (false, .i)] [(false, .str)] (F96 P lf n))) S96 96 [(true, (.sl Yp)), (false, .i)] [(false, .str)] lf x
noncomputable def C96 (P : Program) (lf : Nat) : FuncId → Option Con := extC (C95 P lf) 96 (dataCon [(true, (.sl Yp)), (false, .i)] [(false, .str)] (F96 P lf lf))
theorem F96_eq (lf n : Nat) (a0 : Yt) (a1 : Int) : F96 Tryz.prog lf (n + 1) (a0, a1) =
  ((F166 Tryz.prog lf (a0, a1))).bind fun r14 => iter lf (fun y15 : ((List ByteArray) × Int) => cond (decide (y15.2 < (r14.length : Int))) (((getI r14 y15.2)).bind fun r16 => cond (!((ByteArray.toList r16.1) == ([] : List UInt8))) (((appC y15.1 [r16.1])).bind fun r17 => some (.inl (r17, (w64 (y15.2 + (1 : Int)))))) (cond r16.2.2 (((F96 Tryz.prog lf n (a0, r16.2.1))).bind fun r18 => ((catC (bts [40, 32]) r18)).bind fun r19 => ((catC ((bts [40, 32]) ++ r18) (bts [32, 41]))).bind fun r20 => ((appC y15.1 [(((bts [40, 32]) ++ r18) ++ (bts [32, 41]))])).bind fun r21 => some (.inl (r21, (w64 (y15.2 + (1 : Int)))))) (((F96 Tryz.prog lf n (a0, r16.2.1))).bind fun r22 => ((appC y15.1 [r22])).bind fun r23 => some (.inl (r23, (w64 (y15.2 + (1 : Int)))))))) (outR (((joinC (bts [32]) y15.1)).bind fun r24 => some r24))) (([] : List ByteArray), (0 : Int)) := by kernel_rfl
def S19 : FuncId → Sp := fun g => match g with
  | 19 => { joins := [(15, [(.slot 59, .dat .bool)]), (7, [(.slot 38, .dat .bool)])], loops := [(4, [(.slot 19, .dat .i)])] }
  | _ => {}
noncomputable def F19 (P : Program) (lf : Nat) (x : tt [(true, (.sl Yp))]) : Option (tt [(false, .str), (false, .i)]) := fnF P (C96 P lf) S19 19 [(true, (.sl Yp))] [(false, .str), (false, .i)] lf x
noncomputable def C19 (P : Program) (lf : Nat) : FuncId → Option Con := extC (C96 P lf) 19 (dataCon [(true, (.sl Yp))] [(false, .str), (false, .i)] (F19 P lf))
theorem F19_eq (lf : Nat) (a0 : Yt) : F19 Tryz.prog lf a0 =
  ((F91 Tryz.prog lf ((a0.length : Int), ((1 : Int), (30 : Int))))).bind fun r14 => cond (!r14) (some ((bts []), (41 : Int))) (iter lf (fun y15 : Int => cond (decide (y15 < (a0.length : Int))) (((getI a0 y15)).bind fun r16 => jn (((F92 Tryz.prog lf ((r16.1, (r16.2.1, (r16.2.2.1, (r16.2.2.2.1, r16.2.2.2.2)))), y15))).bind fun r17 => cond (!r17) (some (.inl true)) (((F93 Tryz.prog lf r16.1)).bind fun r18 => cond r18 (((F94 Tryz.prog lf r16.2.2.2.1)).bind fun r19 => some (.inl (!r19))) (some (.inl false)))) (fun y20 : Bool => cond y20 (some (.inr ((bts []), (41 : Int)))) (some (.inl (w64 (y15 + (1 : Int))))))) (outR (((F95 Tryz.prog lf a0)).bind fun r21 => ((getI r21.2.2 (w64 ((a0.length : Int) - (1 : Int))))).bind fun r22 => cond (decide (r22 > (8 : Int))) (some ((bts []), (41 : Int))) (jn (((getI r21.1 (w64 ((a0.length : Int) - (1 : Int))))).bind fun r23 => cond (decide (r23 > (8000 : Int))) (some (.inl true)) (((getI r21.2.1 (w64 ((a0.length : Int) - (1 : Int))))).bind fun r24 => some (.inl (decide (r24 > (30 : Int)))))) (fun y25 : Bool => cond y25 (some ((bts []), (2 : Int))) (((F96 Tryz.prog lf lf (a0, (w64 ((a0.length : Int) - (1 : Int)))))).bind fun r26 => some (r26, (0 : Int)))))))) (0 : Int)) := by kernel_rfl
end Go.K
namespace Go.K
open Go.Sl Go.Sx Go.Proofs
noncomputable def G167 (lf : Nat) (x : (Yt × Int)) : Option (Int) :=
  ((getI x.1 x.2)).bind fun r3 => some r3.1
theorem F167_G (lf : Nat) (x : (Yt × Int)) : F167 Tryz.prog lf x = G167 lf x := (F167_eq lf x.1 x.2).trans (by
  unfold G167
  (try simp only [agree_self, Lib.toList_data]); first | done | rfl)
noncomputable def G246 (lf : Nat) (x : (Int × Bool)) : Option (ByteArray) :=
  cond x.2 (cond (decide (x.1 = (1 : Int))) (some (bts [62, 61])) (cond (decide (x.1 = (2 : Int))) (some (bts [62])) (cond (decide (x.1 = (3 : Int))) (some (bts [33, 61])) (some (bts []))))) (cond (decide (x.1 = (1 : Int))) (some (bts [60])) (cond (decide (x.1 = (2 : Int))) (some (bts [60, 61])) (cond (decide (x.1 = (3 : Int))) (some (bts [61])) (some (bts [])))))
theorem F246_G (lf : Nat) (x : (Int × Bool)) : F246 Tryz.prog lf x = G246 lf x := (F246_eq lf x.1 x.2).trans (by
  unfold G246
  (try simp only [agree_self, Lib.toList_data]); first | done | rfl)
noncomputable def G220 (lf : Nat) (x : (Yt × (Int × Bool))) : Option (ByteArray) :=
  ((getI x.1 x.2.1)).bind fun r10 => ((catC r10.2.2.2.1 (bts [32]))).bind fun r11 => ((G246 lf (r10.1, x.2.2))).bind fun r12 => ((catC (r10.2.2.2.1 ++ (bts [32])) r12)).bind fun r13 => ((catC ((r10.2.2.2.1 ++ (bts [32])) ++ r12) (bts [32]))).bind fun r14 => ((itoaC r10.2.2.2.2)).bind fun r15 => ((catC (((r10.2.2.2.1 ++ (bts [32])) ++ r12) ++ (bts [32])) r15)).bind fun r16 => some ((((r10.2.2.2.1 ++ (bts [32])) ++ r12) ++ (bts [32])) ++ r15)
theorem F220_G (lf : Nat) (x : (Yt × (Int × Bool))) : F220 Tryz.prog lf x = G220 lf x := (F220_eq lf x.1 x.2.1 x.2.2).trans (by
  unfold G220
  (try simp only [F246_G, agree_self, Lib.toList_data]); first | done | rfl)
noncomputable def G166 (lf : Nat) (x : (Yt × Int)) : Option ((List (ByteArray × (Int × Bool)))) :=
  ((getI x.1 x.2)).bind fun r13 => cond (decide (r13.1 = (0 : Int))) (some [((bts [116, 114, 117, 101]), ((0 : Int), false))]) (cond (decide (r13.1 = (4 : Int))) (((G167 lf (x.1, r13.2.1))).bind fun r14 => ((G93 lf r14)).bind fun r15 => cond r15 (((G220 lf (x.1, (r13.2.1, true)))).bind fun r16 => some [(r16, ((0 : Int), false))]) (((G167 lf (x.1, r13.2.1))).bind fun r17 => cond (decide (r17 = (5 : Int))) (some [((bts [110, 111, 116]), ((0 : Int), false)), ((bts []), (r13.2.1, true))]) (((G167 lf (x.1, r13.2.1))).bind fun r18 => some [((bts [110, 111, 116]), ((0 : Int), false)), ((bts []), (r13.2.1, (decide (r18 = (6 : Int)))))]))) (cond (decide (r13.1 = (5 : Int))) (((G167 lf (x.1, r13.2.1))).bind fun r19 => ((G167 lf (x.1, r13.2.2.1))).bind fun r20 => cond (decide (r20 = (5 : Int))) (some [((bts []), (r13.2.1, (decide (r19 = (6 : Int))))), ((bts [97, 110, 100]), ((0 : Int), false)), ((bts []), (r13.2.2.1, true))]) (((G167 lf (x.1, r13.2.2.1))).bind fun r21 => some [((bts []), (r13.2.1, (decide (r19 = (6 : Int))))), ((bts [97, 110, 100]), ((0 : Int), false)), ((bts []), (r13.2.2.1, (decide (r21 = (6 : Int)))))])) (cond (decide (r13.1 = (6 : Int))) (((G167 lf (x.1, r13.2.2.1))).bind fun r22 => some [((bts []), (r13.2.1, false)), ((bts [111, 114]), ((0 : Int), false)), ((bts []), (r13.2.2.1, (decide (r22 = (6 : Int)))))]) (((G220 lf (x.1, (x.2, false)))).bind fun r23 => some [(r23, ((0 : Int), false))]))))
theorem F166_G (lf : Nat) (x : (Yt × Int)) : F166 Tryz.prog lf x = G166 lf x := (F166_eq lf x.1 x.2).trans (by
  unfold G166
  (try simp only [F93_G, F167_G, F220_G, agree_self, Lib.toList_data]); first | done | rfl)
noncomputable def G95 (lf : Nat) (x : Yt) : Option (((List Int) × ((List Int) × (List Int)))) :=
  iter lf (fun y26 : ((List Int) × ((List Int) × ((List Int) × Int))) => cond (decide (y26.2.2.2 < (x.length : Int))) (((G166 lf (x, y26.2.2.2))).bind fun r27 => iter lf (fun y28 : (Int × (Int × (Int × Int))) => cond (decide (y28.2.2.2 < (r27.length : Int))) (((getI r27 y28.2.2.2)).bind fun r29 => cond (!(r29.1.data.toList == ([] : List UInt8))) (some (.inl ((w64 ((w64 (y28.1 + (1 : Int))) + (r29.1.size : Int))), (y28.2.1, (y28.2.2.1, (w64 (y28.2.2.2 + (1 : Int)))))))) (((getI y26.2.2.1 r29.2.1)).bind fun r30 => ((getI y26.2.2.1 r29.2.1)).bind fun r31 => ((getI y26.1 r29.2.1)).bind fun r32 => ((getI y26.1 r29.2.1)).bind fun r33 => ((getI y26.2.1 r29.2.1)).bind fun r34 => ((getI y26.2.1 r29.2.1)).bind fun r35 => cond r29.2.2 (some (.inl ((w64 ((w64 ((w64 (y28.1 + (1 : Int))) + r33)) + (4 : Int))), ((w64 (y28.2.1 + r35)), ((if (w64 (r31 + (1 : Int))) > y28.2.2.1 then (w64 (r31 + (1 : Int))) else y28.2.2.1), (w64 (y28.2.2.2 + (1 : Int)))))))) (some (.inl ((w64 ((w64 (y28.1 + (1 : Int))) + r33)), ((w64 (y28.2.1 + r35)), ((if r31 > y28.2.2.1 then r31 else y28.2.2.1), (w64 (y28.2.2.2 + (1 : Int)))))))))) (outR (jn (((G167 lf (x, y26.2.2.2))).bind fun r36 => cond (!(decide (r36 = (4 : Int)))) (some (.inl (y28.2.1, y28.2.2.1))) (((getI x y26.2.2.2)).bind fun r37 => ((G167 lf (x, r37.2.1))).bind fun r38 => ((G93 lf r38)).bind fun r39 => cond r39 (some (.inl ((2 : Int), y28.2.2.1))) (some (.inl (y28.2.1, (w64 (y28.2.2.1 + (1 : Int)))))))) (fun y40 : (Int × Int) => ((appC y26.1 [(if (8001 : Int) < y28.1 then (8001 : Int) else y28.1)])).bind fun r41 => ((appC y26.2.1 [(if (31 : Int) < y40.1 then (31 : Int) else y40.1)])).bind fun r42 => ((appC y26.2.2.1 [y40.2])).bind fun r43 => some (.inl (r41, (r42, (r43, (w64 (y26.2.2.2 + (1 : Int))))))))))) ((-1 : Int), ((1 : Int), ((0 : Int), (0 : Int))))) (some (.inr (y26.1, (y26.2.1, y26.2.2.1))))) (([] : List Int), (([] : List Int), (([] : List Int), (0 : Int))))
theorem F95_G (lf : Nat) (x : Yt) : F95 Tryz.prog lf x = G95 lf x := (F95_eq lf x).trans (by
  unfold G95
  (try simp only [F93_G, F166_G, F167_G, agree_self, Lib.toList_data]); first | done | rfl)
noncomputable def G96 (lf : Nat) : Nat → (Yt × Int) → Option (ByteArray)
  | 0, _ => none
  | n + 1, x => ((G166 lf (x.1, x.2))).bind fun r14 => iter lf (fun y15 : ((List ByteArray) × Int) => cond (decide (y15.2 < (r14.length : Int))) (((getI r14 y15.2)).bind fun r16 => cond (!(r16.1.data.toList == ([] : List UInt8))) (((appC y15.1 [r16.1])).bind fun r17 => some (.inl (r17, (w64 (y15.2 + (1 : Int)))))) (cond r16.2.2 (((G96 lf n (x.1, r16.2.1))).bind fun r18 => ((catC (bts [40, 32]) r18)).bind fun r19 => ((catC ((bts [40, 32]) ++ r18) (bts [32, 41]))).bind fun r20 => ((appC y15.1 [(((bts [40, 32]) ++ r18) ++ (bts [32, 41]))])).bind fun r21 => some (.inl (r21, (w64 (y15.2 + (1 : Int)))))) (((G96 lf n (x.1, r16.2.1))).bind fun r22 => ((appC y15.1 [r22])).bind fun r23 => some (.inl (r23, (w64 (y15.2 + (1 : Int)))))))) (outR (((joinC (bts [32]) y15.1)).bind fun r24 => some r24))) (([] : List ByteArray), (0 : Int))
theorem F96_G (lf : Nat) : ∀ (n : Nat) (x : (Yt × Int)), F96 Tryz.prog lf n x = G96 lf n x
  | 0, _ => rfl
  | n + 1, x => (F96_eq lf n x.1 x.2).trans (by
    unfold G96
    (try simp only [F96_G lf n, F166_G, agree_self, Lib.toList_data]); first | done | rfl)
noncomputable def G19 (lf : Nat) (x : Yt) : Option ((ByteArray × Int)) :=
  ((G91 lf ((x.length : Int), ((1 : Int), (30 : Int))))).bind fun r14 => cond (!r14) (some ((bts []), (41 : Int))) (iter lf (fun y15 : Int => cond (decide (y15 < (x.length : Int))) (((getI x y15)).bind fun r16 => jn (((G92 lf ((r16.1, (r16.2.1, (r16.2.2.1, (r16.2.2.2.1, r16.2.2.2.2)))), y15))).bind fun r17 => cond (!r17) (some (.inl true)) (((G93 lf r16.1)).bind fun r18 => cond r18 (((G94 lf r16.2.2.2.1)).bind fun r19 => some (.inl (!r19))) (some (.inl false)))) (fun y20 : Bool => cond y20 (some (.inr ((bts []), (41 : Int)))) (some (.inl (w64 (y15 + (1 : Int))))))) (outR (((G95 lf x)).bind fun r21 => ((getI r21.2.2 (w64 ((x.length : Int) - (1 : Int))))).bind fun r22 => cond (decide (r22 > (8 : Int))) (some ((bts []), (41 : Int))) (jn (((getI r21.1 (w64 ((x.length : Int) - (1 : Int))))).bind fun r23 => cond (decide (r23 > (8000 : Int))) (some (.inl true)) (((getI r21.2.1 (w64 ((x.length : Int) - (1 : Int))))).bind fun r24 => some (.inl (decide (r24 > (30 : Int)))))) (fun y25 : Bool => cond y25 (some ((bts []), (2 : Int))) (((G96 lf lf (x, (w64 ((x.length : Int) - (1 : Int)))))).bind fun r26 => some (r26, (0 : Int)))))))) (0 : Int))
theorem F19_G (lf : Nat) (x : Yt) : F19 Tryz.prog lf x = G19 lf x := (F19_eq lf x).trans (by
  unfold G19
  (try simp only [F91_G, F92_G, F93_G, F94_G, F95_G, F96_G, agree_self, Lib.toList_data]); first | done | rfl)
end Go.K
namespace Go.K
open Go.Sl Go.Sx Go.Proofs
def S128 : FuncId → Sp := fun g => match g with
  | 209 => { joins := [(12, [(.slot 7, .dat .i), (.slot 3, .own .i 3)]), (8, [(.slot 4, .dat (.sl .i)), (.cell 0 0 [3, 2], .dat (.nsl .i))])], loops := [(9, [(.slot 7, .dat .i), (.slot 3, .own .i 3)]), (3, [(.slot 4, .own .i 3), (.slot 13, .dat .i)]), (1, [(.slot 3, .own .i 3), (.cell 0 0 [3, 2], .dat (.nsl .i))])] }
  | 128 => { joins := [(9, [(.slot 60, .dat .bool)])], nz := [(11, [12])] }
  | 175 => { fz := [(4, [(.slot 6, .dat (.sl .i))])] }
  | _ => {}
noncomputable def F128 (P : Program) (lf : Nat) (x : tt [(true, (.pair .str (.pair (.sl (.pair .str (.pair .i .i))) (.sl Yq)))), (false, .i), (false, .i), (false, .i)]) : Option (tt [(false, (.sl .i)), (false, .bool)]) := fnF P (C19 P lf) S128 128 [(true, (.pair .str (.pair (.sl (.pair .str (.pair .i .i))) (.sl Yq)))), (false, .i), (false, .i), (false, .i)] [(false, (.sl .i)), (false, .bool)] lf x
noncomputable def C128 (P : Program) (lf : Nat) : FuncId → Option Con := extC (C19 P lf) 128 (dataCon [(true, (.pair .str (.pair (.sl (.pair .str (.pair .i .i))) (.sl Yq)))), (false, .i), (false, .i), (false, .i)] [(false, (.sl .i)), (false, .bool)] (F128 P lf))
theorem F128_eq (lf : Nat) (a0 : ByteArray) (a1 : Yf) (a2 : Yr) (a3 : Int) (a4 : Int) (a5 : Int) : F128 Tryz.prog lf ((a0, (a1, a2)), (a3, (a4, a5))) =
  ((F131 Tryz.prog lf ())).bind fun r88 => ((F131 Tryz.prog lf ())).bind fun r89 => ((F116 Tryz.prog lf (a0, (a1, a2)))).bind fun r90 => ((F115 Tryz.prog lf (a1, r90))).bind fun r91 => ((mkC (r91.length : Int) (0 : Int))).bind fun r92 => iter lf (fun y93 : ((List Int) × (List Int)) => iter lf (fun y94 : ((List Int) × Int) => cond (decide (y94.2 < (y93.1.length : Int))) (((getI y93.1 y94.2)).bind fun r95 => ((getI y93.1 y94.2)).bind fun r96 => ((getI r91 y94.2)).bind fun r97 => ((getI r97 r96)).bind fun r98 => ((appC y94.1 [r98])).bind fun r99 => some (.inl (r99, (w64 (y94.2 + (1 : Int)))))) (outR (jn (((F130 Tryz.prog lf ((a0, (a1, a2)), (a5, (y94.1, ()))))).bind fun r100 => ((getI r100.1 a3)).bind fun r101 => cond (!r101) (some (.inl (y94.1, y93.2))) (((getI r100.1 a4)).bind fun r102 => cond (!r102) (some (.inl (y94.1, y93.2))) (jn (((getI a2 a3)).bind fun r103 => ((F147 Tryz.prog lf ((a1, y94.1), (r103.2.2.2.2.1, ())))).bind fun r104 => cond r104 (((getI a2 a4)).bind fun r105 => ((F147 Tryz.prog lf ((a1, y94.1), (r105.2.2.2.2.1, ())))).bind fun r106 => some (.inl r106)) (some (.inl false))) (fun y107 : Bool => cond y107 (some (.inr (.inr (([] : List Int), false)))) (cond (decide ((y93.2.length : Int) = (0 : Int))) (((neC y94.1)).bind fun r108 => some (.inl (y94.1, y94.1))) (some (.inl (y94.1, y93.2)))))))) (fun y109 : ((List Int) × (List Int)) => jn (iter lf (fun y110 : (Int × (List Int)) => cond (decide (y110.1 ≥ (0 : Int))) (((getI y110.2 y110.1)).bind fun r111 => ((getI y110.2 y110.1)).bind fun r112 => ((getI r91 y110.1)).bind fun r113 => cond (decide (r112 = (w64 ((r113.length : Int) - (1 : Int))))) (((getI y110.2 y110.1)).bind fun r114 => ((getI y110.2 y110.1)).bind fun r115 => ((setI y110.2 y110.1 (0 : Int))).bind fun r116 => some (.inl ((w64 (y110.1 - (1 : Int))), r116))) (some (.inr (.inl (y110.1, y110.2))))) (some (.inr (.inl (y110.1, y110.2))))) ((w64 ((r91.length : Int) - (1 : Int))), y93.1)) (fun y117 : (Int × (List Int)) => cond (decide (y117.1 < (0 : Int))) (outR (agree (some (y109.2, (!(decide ((y109.2.length : Int) = (0 : Int)))))) (some (y109.2, (!(decide ((y109.2.length : Int) = (0 : Int)))))))) (((getI y117.2 y117.1)).bind fun r118 => ((getI y117.2 y117.1)).bind fun r119 => ((getI y117.2 y117.1)).bind fun r120 => ((getI y117.2 y117.1)).bind fun r121 => ((setI y117.2 y117.1 (w64 (r119 + (1 : Int))))).bind fun r122 => some (.inl (r122, y109.2)))))))) (([] : List Int), (0 : Int))) (r92, ([] : List Int)) := by kernel_rfl
def S41 : FuncId → Sp := fun g => match g with
  | 41 => { loops := [(12, [(.slot 5, .own (.pair .i (.pair .i (.pair .i (.sl .i)))) 75), (.slot 35, .dat .i)]), (9, [(.slot 5, .own (.pair .i (.pair .i (.pair .i (.sl .i)))) 75), (.slot 7, .dat .i)]), (6, [(.slot 5, .own (.pair .i (.pair .i (.pair .i (.sl .i)))) 75), (.slot 20, .dat .i)])] }
  | 128 => { nz := [(11, [12])] }
  | _ => {}
noncomputable def F41 (P : Program) (lf : Nat) (x : tt [(true, (.pair .str (.pair (.sl (.pair .str (.pair .i .i))) (.sl Yq))))]) : Option (tt [(false, (.sl (.pair .i (.pair .i (.pair .i (.sl .i)))))), (false, .i)]) := fnF P (C128 P lf) S41 41 [(true, (.pair .str (.pair (.sl (.pair .str (.pair .i .i))) (.sl Yq))))] [(false, (.sl (.pair .i (.pair .i (.pair .i (.sl .i)))))), (false, .i)] lf x
noncomputable def C41 (P : Program) (lf : Nat) : FuncId → Option Con := extC (C128 P lf) 41 (dataCon [(true, (.pair .str (.pair (.sl (.pair .str (.pair .i .i))) (.sl Yq))))] [(false, (.sl (.pair .i (.pair .i (.pair .i (.sl .i)))))), (false, .i)] (F41 P lf))
theorem F41_eq (lf : Nat) (a0 : ByteArray) (a1 : Yf) (a2 : Yr) : F41 Tryz.prog lf (a0, (a1, a2)) =
  ((F31 Tryz.prog lf (a0, (a1, a2)))).bind fun r14 => cond (!(decide (r14 = (0 : Int)))) (some (([] : List (Int × (Int × (Int × (List Int))))), r14)) (iter lf (fun y15 : ((List (Int × (Int × (Int × (List Int))))) × Int) => cond (decide (y15.2 < (a2.length : Int))) (iter lf (fun y16 : ((List (Int × (Int × (Int × (List Int))))) × Int) => cond (decide (y16.2 < (a2.length : Int))) (((F127 Tryz.prog lf (a0, (a1, a2)))).bind fun r17 => iter lf (fun y18 : ((List (Int × (Int × (Int × (List Int))))) × Int) => cond (decide (y18.2 < (r17.length : Int))) (((getI r17 y18.2)).bind fun r19 => ((F128 Tryz.prog lf ((a0, (a1, a2)), (y15.2, (y16.2, r19))))).bind fun r20 => cond r20.2 (((appC y18.1 [(y15.2, (y16.2, (r19, r20.1)))])).bind fun r21 => some (.inr (.inl (r21, (w64 (y16.2 + (1 : Int))))))) (some (.inl (y18.1, (w64 (y18.2 + (1 : Int))))))) (some (.inr (.inl (y18.1, (w64 (y16.2 + (1 : Int)))))))) (y16.1, (0 : Int))) (some (.inr (.inl (y16.1, (w64 (y15.2 + (1 : Int)))))))) (y15.1, (w64 (y15.2 + (1 : Int))))) (some (.inr (y15.1, (0 : Int))))) (([] : List (Int × (Int × (Int × (List Int))))), (0 : Int))) := by kernel_rfl
def S102 : FuncId → Sp := fun g => match g with
  | 128 => { nz := [(11, [12])] }
  | _ => {}
noncomputable def F102 (P : Program) (lf : Nat) (x : tt []) : Option (tt [(false, .str)]) := fnF P (C41 P lf) S102 102 [] [(false, .str)] lf x
noncomputable def C102 (P : Program) (lf : Nat) : FuncId → Option Con := extC (C41 P lf) 102 (dataCon [] [(false, .str)] (F102 P lf))
theorem F102_eq (lf : Nat) : F102 Tryz.prog lf () =
  some (bts [99, 111, 100, 101, 32, 112, 111, 114, 116, 10, 102, 97, 99, 116, 32, 100, 114, 97, 102, 116, 32, 48, 32, 49, 50, 48, 48, 48, 10, 102, 97, 99, 116, 32, 114, 97, 105, 110, 32, 48, 32, 53, 48, 10, 114, 117, 108, 101, 32, 100, 101, 101, 112, 32, 48, 32, 57, 57, 32, 119, 104, 101, 110, 32, 116, 114, 117, 101, 32, 109, 117, 115, 116, 32, 100, 114, 97, 102, 116, 32, 60, 61, 32, 57, 48, 48, 48, 10, 114, 117, 108, 101, 32, 116, 105, 100, 101, 32, 53, 48, 32, 50, 48, 48, 32, 119, 104, 101, 110, 32, 114, 97, 105, 110, 32, 62, 61, 32, 49, 48, 32, 109, 117, 115, 116, 32, 100, 114, 97, 102, 116, 32, 60, 61, 32, 57, 53, 48, 48, 32, 117, 110, 108, 101, 115, 115, 32, 100, 101, 101, 112, 10, 114, 117, 108, 101, 32, 108, 105, 103, 104, 116, 32, 48, 32, 50, 48, 48, 32, 119, 104, 101, 110, 32, 114, 97, 105, 110, 32, 60, 32, 49, 48, 32, 109, 117, 115, 116, 32, 100, 114, 97, 102, 116, 32, 62, 32, 57, 50, 48, 48, 10]) := by kernel_rfl
def S22 : FuncId → Sp := fun g => match g with
  | 22 => { joins := [(10, [(.slot 19, .dat .bool)])] }
  | 128 => { nz := [(11, [12])] }
  | _ => {}
noncomputable def F22 (P : Program) (lf : Nat) (x : tt []) : Option (tt [(false, .bool)]) := fnF P (C102 P lf) S22 22 [] [(false, .bool)] lf x
noncomputable def C22 (P : Program) (lf : Nat) : FuncId → Option Con := extC (C102 P lf) 22 (dataCon [] [(false, .bool)] (F22 P lf))
theorem F22_eq (lf : Nat) : F22 Tryz.prog lf () =
  ((F102 Tryz.prog lf ())).bind fun r12 => ((F49 Tryz.prog lf r12)).bind fun r13 => ((F23 Tryz.prog lf ((r13.1.1, (r13.1.2.1, r13.1.2.2)), ((150 : Int), [((bts [100, 114, 97, 102, 116]), ((9000 : Int), (9300 : Int))), ((bts [114, 97, 105, 110]), ((0 : Int), (5 : Int)))])))).bind fun r14 => ((F24 Tryz.prog lf ((r13.1.1, (r13.1.2.1, r13.1.2.2)), ((150 : Int), [((bts [100, 114, 97, 102, 116]), ((9000 : Int), (9300 : Int))), ((bts [114, 97, 105, 110]), ((0 : Int), (5 : Int)))])))).bind fun r15 => ((F41 Tryz.prog lf (r13.1.1, (r13.1.2.1, r13.1.2.2)))).bind fun r16 => ((F47 Tryz.prog lf ((r13.1.1, (r13.1.2.1, r13.1.2.2)), (1 : Int)))).bind fun r17 => ((F17 Tryz.prog lf (bts [114, 97, 105, 110, 32, 62, 61, 32, 49, 48, 32, 111, 114, 32, 110, 111, 116, 32, 100, 114, 97, 102, 116, 32, 61, 32, 51]))).bind fun r18 => ((F19 Tryz.prog lf r18.1)).bind fun r19 => jn (cond (decide (r13.2.2 = (0 : Int))) (cond (decide (r14.2 = (0 : Int))) (cond (decide (r15.2.2 = (0 : Int))) (cond (decide (r16.2 = (0 : Int))) (cond (decide (r17.2 = (0 : Int))) (cond (decide (r18.2.2 = (0 : Int))) (some (.inl (decide (r19.2 = (0 : Int))))) (some (.inl false))) (some (.inl false))) (some (.inl false))) (some (.inl false))) (some (.inl false))) (some (.inl false))) (fun y20 : Bool => cond y20 (cond (decide (r14.1 = (2 : Int))) (cond (decide (r15.1 = (2 : Int))) (((F62 Tryz.prog lf (r15.2.1, [(9000 : Int), (0 : Int)]))).bind fun r21 => cond r21 (((F61 Tryz.prog lf (r16.1, [((0 : Int), ((2 : Int), ((0 : Int), [(0 : Int), (0 : Int)])))]))).bind fun r22 => cond r22 (cond (decide (r17.1.1 = (100 : Int))) (((F62 Tryz.prog lf (r17.1.2, [(9501 : Int), (10 : Int)]))).bind fun r23 => cond r23 (cond (decide ((r18.1.length : Int) = (5 : Int))) (some ((ByteArray.toList r19.1) == [(UInt8.ofNat 114), (UInt8.ofNat 97), (UInt8.ofNat 105), (UInt8.ofNat 110), (UInt8.ofNat 32), (UInt8.ofNat 62), (UInt8.ofNat 61), (UInt8.ofNat 32), (UInt8.ofNat 49), (UInt8.ofNat 48), (UInt8.ofNat 32), (UInt8.ofNat 111), (UInt8.ofNat 114), (UInt8.ofNat 32), (UInt8.ofNat 100), (UInt8.ofNat 114), (UInt8.ofNat 97), (UInt8.ofNat 102), (UInt8.ofNat 116), (UInt8.ofNat 32), (UInt8.ofNat 33), (UInt8.ofNat 61), (UInt8.ofNat 32), (UInt8.ofNat 51)])) (some false)) (some false)) (some false)) (some false)) (some false)) (some false)) (some false)) (some false)) := by kernel_rfl
end Go.K
namespace Go.K
open Go.Sl Go.Sx Go.Proofs
noncomputable def G128 (lf : Nat) (x : ((ByteArray × (Yf × Yr)) × (Int × (Int × Int)))) : Option (((List Int) × Bool)) :=
  ((G131 lf ())).bind fun r88 => ((G131 lf ())).bind fun r89 => ((G116 lf (x.1.1, (x.1.2.1, x.1.2.2)))).bind fun r90 => ((G115 lf (x.1.2.1, r90))).bind fun r91 => ((mkC (r91.length : Int) (0 : Int))).bind fun r92 => iter lf (fun y93 : ((List Int) × (List Int)) => iter lf (fun y94 : ((List Int) × Int) => cond (decide (y94.2 < (y93.1.length : Int))) (((getI y93.1 y94.2)).bind fun r95 => ((getI y93.1 y94.2)).bind fun r96 => ((getI r91 y94.2)).bind fun r97 => ((getI r97 r96)).bind fun r98 => ((appC y94.1 [r98])).bind fun r99 => some (.inl (r99, (w64 (y94.2 + (1 : Int)))))) (outR (jn (((G130 lf ((x.1.1, (x.1.2.1, x.1.2.2)), (x.2.2.2, (y94.1, ()))))).bind fun r100 => ((getI r100.1 x.2.1)).bind fun r101 => cond (!r101) (some (.inl (y94.1, y93.2))) (((getI r100.1 x.2.2.1)).bind fun r102 => cond (!r102) (some (.inl (y94.1, y93.2))) (jn (((getI x.1.2.2 x.2.1)).bind fun r103 => ((G147 lf ((x.1.2.1, y94.1), (r103.2.2.2.2.1, ())))).bind fun r104 => cond r104 (((getI x.1.2.2 x.2.2.1)).bind fun r105 => ((G147 lf ((x.1.2.1, y94.1), (r105.2.2.2.2.1, ())))).bind fun r106 => some (.inl r106)) (some (.inl false))) (fun y107 : Bool => cond y107 (some (.inr (.inr (([] : List Int), false)))) (cond (decide ((y93.2.length : Int) = (0 : Int))) (((neC y94.1)).bind fun r108 => some (.inl (y94.1, y94.1))) (some (.inl (y94.1, y93.2)))))))) (fun y109 : ((List Int) × (List Int)) => jn (iter lf (fun y110 : (Int × (List Int)) => cond (decide (y110.1 ≥ (0 : Int))) (((getI y110.2 y110.1)).bind fun r111 => ((getI y110.2 y110.1)).bind fun r112 => ((getI r91 y110.1)).bind fun r113 => cond (decide (r112 = (w64 ((r113.length : Int) - (1 : Int))))) (((getI y110.2 y110.1)).bind fun r114 => ((getI y110.2 y110.1)).bind fun r115 => ((setI y110.2 y110.1 (0 : Int))).bind fun r116 => some (.inl ((w64 (y110.1 - (1 : Int))), r116))) (some (.inr (.inl (y110.1, y110.2))))) (some (.inr (.inl (y110.1, y110.2))))) ((w64 ((r91.length : Int) - (1 : Int))), y93.1)) (fun y117 : (Int × (List Int)) => cond (decide (y117.1 < (0 : Int))) (outR (some (y109.2, (!(decide ((y109.2.length : Int) = (0 : Int))))))) (((getI y117.2 y117.1)).bind fun r118 => ((getI y117.2 y117.1)).bind fun r119 => ((getI y117.2 y117.1)).bind fun r120 => ((getI y117.2 y117.1)).bind fun r121 => ((setI y117.2 y117.1 (w64 (r119 + (1 : Int))))).bind fun r122 => some (.inl (r122, y109.2)))))))) (([] : List Int), (0 : Int))) (r92, ([] : List Int))
theorem F128_G (lf : Nat) (x : ((ByteArray × (Yf × Yr)) × (Int × (Int × Int)))) : F128 Tryz.prog lf x = G128 lf x := (F128_eq lf x.1.1 x.1.2.1 x.1.2.2 x.2.1 x.2.2.1 x.2.2.2).trans (by
  unfold G128
  (try simp only [F115_G, F116_G, F130_G, F131_G, F147_G, agree_self, Lib.toList_data]); first | done | rfl)
noncomputable def G41 (lf : Nat) (x : (ByteArray × (Yf × Yr))) : Option (((List (Int × (Int × (Int × (List Int))))) × Int)) :=
  ((G31 lf (x.1, (x.2.1, x.2.2)))).bind fun r14 => cond (!(decide (r14 = (0 : Int)))) (some (([] : List (Int × (Int × (Int × (List Int))))), r14)) (iter lf (fun y15 : ((List (Int × (Int × (Int × (List Int))))) × Int) => cond (decide (y15.2 < (x.2.2.length : Int))) (iter lf (fun y16 : ((List (Int × (Int × (Int × (List Int))))) × Int) => cond (decide (y16.2 < (x.2.2.length : Int))) (((G127 lf (x.1, (x.2.1, x.2.2)))).bind fun r17 => iter lf (fun y18 : ((List (Int × (Int × (Int × (List Int))))) × Int) => cond (decide (y18.2 < (r17.length : Int))) (((getI r17 y18.2)).bind fun r19 => ((G128 lf ((x.1, (x.2.1, x.2.2)), (y15.2, (y16.2, r19))))).bind fun r20 => cond r20.2 (((appC y18.1 [(y15.2, (y16.2, (r19, r20.1)))])).bind fun r21 => some (.inr (.inl (r21, (w64 (y16.2 + (1 : Int))))))) (some (.inl (y18.1, (w64 (y18.2 + (1 : Int))))))) (some (.inr (.inl (y18.1, (w64 (y16.2 + (1 : Int)))))))) (y16.1, (0 : Int))) (some (.inr (.inl (y16.1, (w64 (y15.2 + (1 : Int)))))))) (y15.1, (w64 (y15.2 + (1 : Int))))) (some (.inr (y15.1, (0 : Int))))) (([] : List (Int × (Int × (Int × (List Int))))), (0 : Int)))
theorem F41_G (lf : Nat) (x : (ByteArray × (Yf × Yr))) : F41 Tryz.prog lf x = G41 lf x := (F41_eq lf x.1 x.2.1 x.2.2).trans (by
  unfold G41
  (try simp only [F31_G, F127_G, F128_G, agree_self, Lib.toList_data]); first | done | rfl)
noncomputable def G102 (lf : Nat) (x : Unit) : Option (ByteArray) :=
  some (bts [99, 111, 100, 101, 32, 112, 111, 114, 116, 10, 102, 97, 99, 116, 32, 100, 114, 97, 102, 116, 32, 48, 32, 49, 50, 48, 48, 48, 10, 102, 97, 99, 116, 32, 114, 97, 105, 110, 32, 48, 32, 53, 48, 10, 114, 117, 108, 101, 32, 100, 101, 101, 112, 32, 48, 32, 57, 57, 32, 119, 104, 101, 110, 32, 116, 114, 117, 101, 32, 109, 117, 115, 116, 32, 100, 114, 97, 102, 116, 32, 60, 61, 32, 57, 48, 48, 48, 10, 114, 117, 108, 101, 32, 116, 105, 100, 101, 32, 53, 48, 32, 50, 48, 48, 32, 119, 104, 101, 110, 32, 114, 97, 105, 110, 32, 62, 61, 32, 49, 48, 32, 109, 117, 115, 116, 32, 100, 114, 97, 102, 116, 32, 60, 61, 32, 57, 53, 48, 48, 32, 117, 110, 108, 101, 115, 115, 32, 100, 101, 101, 112, 10, 114, 117, 108, 101, 32, 108, 105, 103, 104, 116, 32, 48, 32, 50, 48, 48, 32, 119, 104, 101, 110, 32, 114, 97, 105, 110, 32, 60, 32, 49, 48, 32, 109, 117, 115, 116, 32, 100, 114, 97, 102, 116, 32, 62, 32, 57, 50, 48, 48, 10])
theorem F102_G (lf : Nat) (x : Unit) : F102 Tryz.prog lf x = G102 lf x := (F102_eq lf ).trans (by
  unfold G102
  (try simp only [agree_self, Lib.toList_data]); first | done | rfl)
noncomputable def G22 (lf : Nat) (x : Unit) : Option (Bool) :=
  ((G102 lf ())).bind fun r12 => ((G49 lf r12)).bind fun r13 => ((G23 lf ((r13.1.1, (r13.1.2.1, r13.1.2.2)), ((150 : Int), [((bts [100, 114, 97, 102, 116]), ((9000 : Int), (9300 : Int))), ((bts [114, 97, 105, 110]), ((0 : Int), (5 : Int)))])))).bind fun r14 => ((G24 lf ((r13.1.1, (r13.1.2.1, r13.1.2.2)), ((150 : Int), [((bts [100, 114, 97, 102, 116]), ((9000 : Int), (9300 : Int))), ((bts [114, 97, 105, 110]), ((0 : Int), (5 : Int)))])))).bind fun r15 => ((G41 lf (r13.1.1, (r13.1.2.1, r13.1.2.2)))).bind fun r16 => ((G47 lf ((r13.1.1, (r13.1.2.1, r13.1.2.2)), (1 : Int)))).bind fun r17 => ((G17 lf (bts [114, 97, 105, 110, 32, 62, 61, 32, 49, 48, 32, 111, 114, 32, 110, 111, 116, 32, 100, 114, 97, 102, 116, 32, 61, 32, 51]))).bind fun r18 => ((G19 lf r18.1)).bind fun r19 => jn (cond (decide (r13.2.2 = (0 : Int))) (cond (decide (r14.2 = (0 : Int))) (cond (decide (r15.2.2 = (0 : Int))) (cond (decide (r16.2 = (0 : Int))) (cond (decide (r17.2 = (0 : Int))) (cond (decide (r18.2.2 = (0 : Int))) (some (.inl (decide (r19.2 = (0 : Int))))) (some (.inl false))) (some (.inl false))) (some (.inl false))) (some (.inl false))) (some (.inl false))) (some (.inl false))) (fun y20 : Bool => cond y20 (cond (decide (r14.1 = (2 : Int))) (cond (decide (r15.1 = (2 : Int))) (((G62 lf (r15.2.1, [(9000 : Int), (0 : Int)]))).bind fun r21 => cond r21 (((G61 lf (r16.1, [((0 : Int), ((2 : Int), ((0 : Int), [(0 : Int), (0 : Int)])))]))).bind fun r22 => cond r22 (cond (decide (r17.1.1 = (100 : Int))) (((G62 lf (r17.1.2, [(9501 : Int), (10 : Int)]))).bind fun r23 => cond r23 (cond (decide ((r18.1.length : Int) = (5 : Int))) (some (r19.1.data.toList == [(UInt8.ofNat 114), (UInt8.ofNat 97), (UInt8.ofNat 105), (UInt8.ofNat 110), (UInt8.ofNat 32), (UInt8.ofNat 62), (UInt8.ofNat 61), (UInt8.ofNat 32), (UInt8.ofNat 49), (UInt8.ofNat 48), (UInt8.ofNat 32), (UInt8.ofNat 111), (UInt8.ofNat 114), (UInt8.ofNat 32), (UInt8.ofNat 100), (UInt8.ofNat 114), (UInt8.ofNat 97), (UInt8.ofNat 102), (UInt8.ofNat 116), (UInt8.ofNat 32), (UInt8.ofNat 33), (UInt8.ofNat 61), (UInt8.ofNat 32), (UInt8.ofNat 51)])) (some false)) (some false)) (some false)) (some false)) (some false)) (some false)) (some false)) (some false))
theorem F22_G (lf : Nat) (x : Unit) : F22 Tryz.prog lf x = G22 lf x := (F22_eq lf ).trans (by
  unfold G22
  (try simp only [F17_G, F19_G, F23_G, F24_G, F41_G, F47_G, F49_G, F61_G, F62_G, F102_G, agree_self, Lib.toList_data]); first | done | rfl)
end Go.K
namespace Go.K
open Go.Sl Go.Sx Go.Proofs
theorem w64_id {n : Int} (h1 : -9223372036854775808 ≤ n) (h2 : n ≤ 9223372036854775807) : w64 n = n := by
  unfold w64 IntKind.wrap
  simp [IntKind.bits, IntKind.signed]
  omega
theorem getI_nat {α : Type} {xs : List α} {i : Nat} {x : α} (h : xs[i]? = some x) : getI xs (i : Int) = some x := by simp [getI, h]
theorem byteAt_nat {s : ByteArray} {i : Nat} {b : UInt8} (h : s.data.toList[i]? = some b) : byteAt s (i : Int) = some ((b.toNat : Nat) : Int) := by
  unfold byteAt
  rw [if_pos (by omega)]
  have : s[(i : Int).toNat]? = some b := by
    show s[i]? = some b
    have hlt : i < s.data.size := by
      have := (List.getElem?_eq_some_iff.1 h).1
      simpa using this
    rw [getElem?_pos s i hlt]
    have h2 := (List.getElem?_eq_some_iff.1 h).2
    rw [← h2]; simp; rfl
  rw [this]; rfl
theorem size_len (s : ByteArray) : s.size = s.data.toList.length := by simp
theorem ext_data {s t : ByteArray} (h : s.data.toList = t.data.toList) : s = t := by
  obtain ⟨⟨a⟩⟩ := s; obtain ⟨⟨b⟩⟩ := t
  simp at h; rw [h]
theorem appC_of {α : Type} [b : Inhabited (Byt α)] {xs ys : List α} (h : xs.length + ys.length ≤ 1099511627776) (hb : b.default.n ≤ 128 := by decide) : appC xs ys = some (xs ++ ys) := by
  unfold appC; rw [if_pos]
  have := Nat.mul_le_mul h hb
  omega
def foldS {σ A ρ : Type} (step : σ → Nat → A → A ⊕ ρ) : List σ → Nat → A → A ⊕ ρ
  | [], _, a => .inl a
  | x :: r, i, a => match step x i a with
    | .inl a' => foldS step r (i + 1) a'
    | .inr e => .inr e
end Go.K
namespace Go.K
open Go.Sl Go.Sx Go.Proofs
abbrev LF : Nat := 9223372036854775808
theorem jl {α ρ : Type} (y : α) (f : α → Option ρ) : jn (some (.inl y)) f = f y := rfl
theorem jr {α ρ : Type} (r : ρ) (f : α → Option ρ) : jn (some (.inr r)) f = some r := rfl
theorem succ_W {i : Nat} (h : i + 1 < LF) : w64 ((i : Int) + 1) = ((i + 1 : Nat) : Int) := by
  have : i + 1 < 9223372036854775808 := h
  rw [w64_id (by omega) (by omega)]; omega
theorem w64_in {n : Int} (h : -9223372036854775808 ≤ n ∧ n ≤ 9223372036854775807) : w64 n = n := w64_id (by omega) (by omega)
theorem iter_go {σ A α ρ : Type} {f : α → Option (α ⊕ ρ)} (mk : Int → A → α) (step : σ → Nat → A → A ⊕ ρ) (good : Nat → A → Prop) (all : List σ) (fin : A → Option ρ) (a : A)
    (h1 : ∀ i x a, all[i]? = some x → good i a → f (mk (i : Nat) a) = some (match step x i a with | .inl a' => .inl (mk ((i + 1 : Nat) : Int) a') | .inr e => .inr e))
    (hg : ∀ i x a a', all[i]? = some x → good i a → step x i a = .inl a' → good (i + 1) a')
    (h2 : ∀ a, good all.length a → f (mk (all.length : Nat) a) = outR (fin a)) (hl : all.length < LF) (h0 : good 0 a) :
    iter LF f (mk 0 a) = match foldS step all 0 a with | .inl a' => fin a' | .inr e => some e := by
  suffices H : ∀ (k i : Nat) (a : A) (lf : Nat), i + k = all.length → k < lf → good i a → iter lf f (mk (i : Nat) a) = match foldS step (all.drop i) i a with | .inl a' => fin a' | .inr e => some e by
    have := H all.length 0 a LF (by omega) hl h0
    simpa using this
  intro k
  induction k with
  | zero =>
    intro i a lf hk hlf hgd
    obtain ⟨lf, rfl⟩ : ∃ n, lf = n + 1 := ⟨lf - 1, by omega⟩
    have hi : i = all.length := by omega
    subst hi
    simp only [iter, h2 a hgd, List.drop_length, foldS]
    cases fin a <;> rfl
  | succ k ih =>
    intro i a lf hk hlf hgd
    obtain ⟨lf, rfl⟩ : ∃ n, lf = n + 1 := ⟨lf - 1, by omega⟩
    have hlt : i < all.length := by omega
    have hx : all[i]? = some all[i] := List.getElem?_eq_getElem hlt
    simp only [iter, h1 i _ a hx hgd]
    rw [List.drop_eq_getElem_cons hlt]
    simp only [foldS]
    cases hs : step all[i] i a with
    | inl a' => exact ih (i + 1) a' lf (by omega) (by omega) (hg i _ a a' hx hgd hs)
    | inr e => rfl
def scan {σ ρ : Type} (g : σ → Nat → Option ρ) : List σ → Nat → Option ρ
  | [], _ => none
  | x :: r, i => match g x i with
    | some e => some e
    | none => scan g r (i + 1)
theorem foldS_scan {σ ρ : Type} (g : σ → Nat → Option ρ) : ∀ (l : List σ) (i : Nat), foldS (fun x i (_ : Unit) => match g x i with | some e => .inr e | none => .inl ()) l i () = match scan g l i with | some e => .inr e | none => .inl ()
  | [], i => rfl
  | x :: l, i => by
    simp only [foldS, scan]
    cases g x i with
    | some e => rfl
    | none => exact foldS_scan g l (i + 1)
theorem iter_scan {σ ρ : Type} {f : Int → Option (Int ⊕ ρ)} (g : σ → Nat → Option ρ) (all : List σ) (fin : Option ρ)
    (h1 : ∀ i x, all[i]? = some x → scan g (all.take i) 0 = none → f ((i : Nat) : Int) = some (match g x i with | some e => .inr e | none => .inl ((i + 1 : Nat) : Int)))
    (h2 : scan g all 0 = none → f ((all.length : Nat) : Int) = outR fin) (hl : all.length < LF) :
    iter LF f 0 = match scan g all 0 with | some e => some e | none => fin := by
  have tk : ∀ (l m : List σ) (i : Nat), scan g (l ++ m) i = match scan g l i with | some e => some e | none => scan g m (i + l.length) := by
    intro l
    induction l with
    | nil => intro m i; simp [scan]
    | cons x l ih =>
      intro m i
      simp only [List.cons_append, scan]
      cases g x i with
      | some e => rfl
      | none => simp only [ih]; rw [show i + 1 + l.length = i + (x :: l).length by simp; omega]
  have key := iter_go (f := f) (fun i (_ : Unit) => i) (fun x i _ => match g x i with | some e => .inr e | none => .inl ()) (fun i _ => scan g (all.take i) 0 = none) all (fun _ => fin) ()
    (fun i x a hx hg => by
      rw [h1 i x hx hg]
      cases g x i <;> rfl)
    (fun i x a a' hx hg hs => by
      have hlt := (List.getElem?_eq_some_iff.1 hx).1
      have hxe := (List.getElem?_eq_some_iff.1 hx).2
      have e1 : all.take (i + 1) = all.take i ++ [x] := by rw [List.take_add_one, hx]; rfl
      rw [e1, tk, hg]
      simp only [scan, List.length_take, Nat.zero_add]
      rw [show min i all.length = i by omega]
      cases h : g x i with
      | some e => rw [h] at hs; cases hs
      | none => rfl)
    (fun a hg => h2 (by simpa using hg)) hl (by simp [scan])
  rw [key, foldS_scan]
  cases scan g all 0 <;> rfl
def foldI {σ A : Type} (g : σ → Nat → A → A) : List σ → Nat → A → A
  | [], _, a => a
  | x :: r, i, a => foldI g r (i + 1) (g x i a)
theorem foldS_foldI {σ A ρ : Type} (g : σ → Nat → A → A) : ∀ (l : List σ) (i : Nat) (a : A), foldS (ρ := ρ) (fun x i a => .inl (g x i a)) l i a = .inl (foldI g l i a)
  | [], _, _ => rfl
  | x :: l, i, a => by simp only [foldS, foldI]; exact foldS_foldI g l (i + 1) _
theorem iter_foldI {σ A α ρ : Type} {f : α → Option (α ⊕ ρ)} (mk : Int → A → α) (g : σ → Nat → A → A) (good : Nat → A → Prop) (all : List σ) (fin : A → Option ρ) (a : A)
    (h1 : ∀ i x a, all[i]? = some x → good i a → f (mk (i : Nat) a) = some (.inl (mk ((i + 1 : Nat) : Int) (g x i a))))
    (hg : ∀ i x a, all[i]? = some x → good i a → good (i + 1) (g x i a))
    (h2 : ∀ a, good all.length a → f (mk (all.length : Nat) a) = outR (fin a)) (hl : all.length < LF) (h0 : good 0 a) :
    iter LF f (mk 0 a) = fin (foldI g all 0 a) := by
  rw [iter_go mk (fun x i a => .inl (g x i a)) good all fin a h1 (fun i x a a' hx hgd hs => by cases hs; exact hg i x a hx hgd) h2 hl h0, foldS_foldI]
theorem foldI_const {σ A : Type} (g : σ → A → A) : ∀ (l : List σ) (i : Nat) (a : A), foldI (fun x _ a => g x a) l i a = l.foldl (fun a x => g x a) a
  | [], _, _ => rfl
  | x :: l, i, a => by simp only [foldI, List.foldl_cons]; exact foldI_const g l (i + 1) _
def idx {σ : Type} (p : σ → Bool) : List σ → Nat → Option Nat
  | [], _ => none
  | x :: r, i => bif p x then some i else idx p r (i + 1)
theorem scan_idx {σ ρ : Type} (p : σ → Bool) (F : Nat → ρ) : ∀ (l : List σ) (i : Nat), scan (fun x i => bif p x then some (F i) else none) l i = (idx p l i).map F
  | [], _ => rfl
  | x :: l, i => by
    simp only [scan, idx]
    cases p x with
    | true => rfl
    | false => exact scan_idx p F l (i + 1)
theorem idx_shift {σ : Type} (p : σ → Bool) : ∀ (l : List σ) (i : Nat), idx p l i = (idx p l 0).map (· + i)
  | [], _ => rfl
  | x :: l, i => by
    simp only [idx]
    cases p x with
    | true => simp
    | false =>
      simp only [cond_false]
      rw [idx_shift p l (i + 1), idx_shift p l (0 + 1)]
      cases idx p l 0 with
      | none => rfl
      | some n => simp; omega
theorem idx_some {σ : Type} {p : σ → Bool} : ∀ {l : List σ} {n : Nat}, idx p l 0 = some n → ∃ x, l[n]? = some x ∧ p x = true ∧ ∀ m y, m < n → l[m]? = some y → p y = false
  | [], _, h => by cases h
  | x :: l, n, h => by
    simp only [idx] at h
    cases hp : p x with
    | true =>
      rw [hp] at h
      simp only [cond_true, Option.some.injEq] at h
      subst h
      exact ⟨x, rfl, hp, fun m y hm => by omega⟩
    | false =>
      rw [hp] at h
      simp only [cond_false] at h
      rw [idx_shift] at h
      cases h2 : idx p l 0 with
      | none => rw [h2] at h; cases h
      | some k =>
        rw [h2] at h
        simp only [Option.map_some, Option.some.injEq] at h
        subst h
        obtain ⟨y, e1, e2, e3⟩ := idx_some h2
        refine ⟨y, by simpa using e1, e2, fun m z hm hz => ?_⟩
        cases m with
        | zero => simp at hz; subst hz; exact hp
        | succ m => exact e3 m z (by omega) (by simpa using hz)
theorem idx_none {σ : Type} {p : σ → Bool} : ∀ {l : List σ} {i : Nat}, idx p l i = none ↔ ∀ x ∈ l, p x = false
  | [], _ => by simp [idx]
  | x :: l, i => by
    simp only [idx, List.mem_cons, forall_eq_or_imp]
    cases hp : p x with
    | true => simp
    | false => simp only [cond_false, true_and]; exact idx_none
theorem idx_lt {σ : Type} {p : σ → Bool} {l : List σ} {n : Nat} (h : idx p l 0 = some n) : n < l.length := by
  obtain ⟨x, e, _⟩ := idx_some h
  exact (List.getElem?_eq_some_iff.1 e).1
def idxI {σ : Type} (p : σ → Bool) (l : List σ) : Int := match idx p l 0 with
  | some n => (n : Int)
  | none => -1
theorem iter_find {σ ρ : Type} {f : Int → Option (Int ⊕ ρ)} (p : σ → Bool) (F : Nat → ρ) (all : List σ) (fin : Option ρ)
    (h1 : ∀ i x, all[i]? = some x → f ((i : Nat) : Int) = some (bif p x then .inr (F i) else .inl ((i + 1 : Nat) : Int)))
    (h2 : f ((all.length : Nat) : Int) = outR fin) (hl : all.length < LF) :
    iter LF f 0 = match idx p all 0 with | some n => some (F n) | none => fin := by
  rw [iter_scan (fun x i => bif p x then some (F i) else none) all fin (fun i x hx _ => by rw [h1 i x hx]; cases p x <;> rfl) (fun _ => h2) hl, scan_idx]
  cases idx p all 0 <;> rfl
theorem idx_any {σ : Type} (p : σ → Bool) (l : List σ) : (idx p l 0).isSome = l.any p := by
  cases h : idx p l 0 with
  | none => rw [idx_none] at h; simp; intro x hx; simp [h x hx]
  | some n =>
    obtain ⟨x, e, hp, _⟩ := idx_some h
    simp only [Option.isSome_some]
    exact (List.any_eq_true.2 ⟨x, List.mem_of_getElem? e, hp⟩).symm
theorem idxI_nonneg {σ : Type} (p : σ → Bool) (l : List σ) : decide (idxI p l ≥ 0) = l.any p := by
  rw [← idx_any]; unfold idxI
  cases idx p l 0 with
  | none => rfl
  | some n => simp
theorem idxI_neg {σ : Type} (p : σ → Bool) (l : List σ) : decide (idxI p l < 0) = !l.any p := by
  rw [← idx_any]; unfold idxI
  cases idx p l 0 with
  | none => rfl
  | some n => simp
theorem scan_any {σ : Type} {ρ : Type} (p : σ → Bool) (e : ρ) (l : List σ) : scan (fun x _ => bif p x then some e else none) l 0 = bif l.any p then some e else none := by
  rw [scan_idx (fun x => p x) (fun _ => e), ← idx_any]
  cases idx p l 0 <;> rfl
theorem iter_app {σ B α ρ : Type} {f : α → Option (α ⊕ ρ)} (mk : Int → List B → α) (h : σ → List B) (all : List σ) (fin : List B → Option ρ) (c : Nat) (hc : ∀ x ∈ all, (h x).length ≤ c) (a0 : List B)
    (h1 : ∀ i x a, all[i]? = some x → a.length ≤ a0.length + c * i → i < all.length → f (mk (i : Nat) a) = some (.inl (mk ((i + 1 : Nat) : Int) (a ++ h x))))
    (h2 : ∀ a, a.length ≤ a0.length + c * all.length → f (mk (all.length : Nat) a) = outR (fin a)) (hl : all.length < LF) :
    iter LF f (mk 0 a0) = fin (a0 ++ all.flatMap h) := by
  rw [iter_foldI mk (fun x _ a => a ++ h x) (fun i a => a.length ≤ a0.length + c * i) all fin a0 (fun i x a hx hg => h1 i x a hx hg (List.getElem?_eq_some_iff.1 hx).1)
    (fun i x a hx hg => by
      have := hc x (List.mem_of_getElem? hx)
      rw [List.length_append, Nat.mul_add]; omega) h2 hl (by omega)]
  rw [foldI_const]
  congr 1
  clear h1 h2 hc hl
  induction all generalizing a0 with
  | nil => simp
  | cons x l ih => rw [List.foldl_cons, ih, List.flatMap_cons, List.append_assoc]
theorem subI_take {α : Type} {xs : List α} {i : Nat} (h : i ≤ xs.length) : subI xs 0 (i : Int) = some (xs.take i) := by
  unfold subI
  rw [if_pos (by omega)]
  simp
theorem ltC_big {α : Type} {xs : List α} (h : xs.length ≤ 4398046511104) : ltC xs = some () := by unfold ltC; rw [if_pos h]
theorem ltC_of {α : Type} {xs : List α} (h : xs.length ≤ 1099511627776) : ltC xs = some () := ltC_big (by omega)
theorem dlt {i n : Nat} (h : i < n) : decide ((i : Int) < (n : Int)) = true := decide_eq_true (by omega)
theorem dnlt (n : Nat) : decide ((n : Int) < (n : Int)) = false := decide_eq_false (by omega)
end Go.K
namespace Go.Sx
open Go.Sl Go.Proofs
def Rise (l : List Int) : Prop := l.Pairwise (· < ·)
theorem rise_ext : ∀ {l m : List Int}, Rise l → Rise m → (∀ x, x ∈ l ↔ x ∈ m) → l = m
  | [], [], _, _, _ => rfl
  | [], b :: m, _, _, h => absurd ((h b).2 (List.mem_cons_self ..)) (List.not_mem_nil)
  | a :: l, [], _, _, h => absurd ((h a).1 (List.mem_cons_self ..)) (List.not_mem_nil)
  | a :: l, b :: m, hl, hm, h => by
    obtain ⟨h1, h2⟩ := List.pairwise_cons.1 hl
    obtain ⟨k1, k2⟩ := List.pairwise_cons.1 hm
    have e : a = b := by
      rcases List.mem_cons.1 ((h a).1 (List.mem_cons_self ..)) with e | e
      · exact e
      · rcases List.mem_cons.1 ((h b).2 (List.mem_cons_self ..)) with e' | e'
        · exact e'.symm
        · have := k1 a e; have := h1 b e'; omega
    subst e
    congr 1
    refine rise_ext h2 k2 fun x => ⟨fun hx => ?_, fun hx => ?_⟩
    · rcases List.mem_cons.1 ((h x).1 (List.mem_cons_of_mem _ hx)) with e | e
      · subst e; exact absurd (h1 x hx) (Int.lt_irrefl _)
      · exact e
    · rcases List.mem_cons.1 ((h x).2 (List.mem_cons_of_mem _ hx)) with e | e
      · subst e; exact absurd (k1 x hx) (Int.lt_irrefl _)
      · exact e
theorem compU {d : Array Int} (hs : ∀ i j, i < j → j < d.size → d[i]! ≤ d[j]!) : ∀ m, m ≤ d.size → Rise (Lib.compactUpTo d m) ∧ ∀ x, x ∈ Lib.compactUpTo d m ↔ ∃ j, j < m ∧ d[j]! = x
  | 0, _ => by simp [Lib.compactUpTo, Rise]
  | m + 1, hm => by
    obtain ⟨h1, h2⟩ := compU hs m (by omega)
    rw [Lib.compactUpTo_succ]
    by_cases hk : Lib.keeps d m = true
    · rw [if_pos hk]
      have hlt : ∀ x ∈ Lib.compactUpTo d m, x < d[m]! := fun x hx => by
        obtain ⟨j, hj, rfl⟩ := (h2 x).1 hx
        unfold Lib.keeps at hk
        have hk' := of_decide_eq_true hk
        have hne := hk'.resolve_left (by omega)
        have a1 : d[m - 1]! ≤ d[m]! := hs (m - 1) m (by omega) (by omega)
        have a2 : d[j]! ≤ d[m - 1]! := by
          rcases Nat.eq_or_lt_of_le (show j ≤ m - 1 by omega) with e | e
          · rw [e]; exact Int.le_refl _
          · exact hs j (m - 1) e (by omega)
        omega
      refine ⟨List.pairwise_append.2 ⟨h1, List.pairwise_singleton _ _, fun x hx y hy => ?_⟩, fun x => ?_⟩
      · simp only [List.mem_singleton] at hy; subst hy; exact hlt x hx
      · rw [List.mem_append, h2, List.mem_singleton]
        refine ⟨fun h => ?_, fun ⟨j, hj, e⟩ => ?_⟩
        · rcases h with ⟨j, hj, e⟩ | e
          · exact ⟨j, by omega, e⟩
          · exact ⟨m, by omega, e.symm⟩
        · rcases Nat.eq_or_lt_of_le (Nat.le_of_lt_succ hj) with e' | e'
          · subst e'; exact .inr e.symm
          · exact .inl ⟨j, e', e⟩
    · rw [if_neg hk, List.append_nil]
      refine ⟨h1, fun x => ?_⟩
      rw [h2]
      refine ⟨fun ⟨j, hj, e⟩ => ⟨j, by omega, e⟩, fun ⟨j, hj, e⟩ => ?_⟩
      rcases Nat.eq_or_lt_of_le (Nat.le_of_lt_succ hj) with e' | e'
      · subst e'
        unfold Lib.keeps at hk
        have hk' : ¬ (j = 0 ∨ d[j]! ≠ d[j - 1]!) := fun h => hk (decide_eq_true h)
        have h0 : j ≠ 0 := fun h => hk' (.inl h)
        have he : d[j]! = d[j - 1]! := Classical.byContradiction fun h => hk' (.inr h)
        exact ⟨j - 1, by omega, he ▸ e⟩
      · exact ⟨j, e', e⟩
theorem compL_rise {ys : List Int} (h : ys.Pairwise (· ≤ ·)) : Rise (compL ys) ∧ ∀ x, x ∈ compL ys ↔ x ∈ ys := by
  have hs : ∀ i j, i < j → j < ys.toArray.size → ys.toArray[i]! ≤ ys.toArray[j]! := fun i j hij hj => by
    simp only [List.size_toArray] at hj
    have hi : i < ys.length := by omega
    have := List.pairwise_iff_getElem.1 h i j hi hj hij
    simpa [hi, hj] using this
  obtain ⟨h1, h2⟩ := compU hs ys.length (by simp)
  refine ⟨h1, fun x => ?_⟩
  show x ∈ Lib.compactUpTo ys.toArray ys.length ↔ _
  rw [h2, List.mem_iff_getElem]
  constructor
  · rintro ⟨j, hj, e⟩
    exact ⟨j, hj, by simpa [hj] using e⟩
  · rintro ⟨j, hj, e⟩
    exact ⟨j, hj, by simpa [hj] using e⟩
theorem sc_rise (xs : List Int) : Rise (compL (sortL xs)) ∧ ∀ x, x ∈ compL (sortL xs) ↔ x ∈ xs := by
  obtain ⟨h1, h2⟩ := compL_rise (sortL_sorted xs)
  exact ⟨h1, fun x => (h2 x).trans (sortL_perm xs).mem_iff⟩
theorem Rise.get {l : List Int} (h : Rise l) {i j : Nat} (hi : i < j) (hj : j < l.length) : l[i] < l[j] := List.pairwise_iff_getElem.1 h i j (by omega) hj hi
end Go.Sx
namespace Go.K
open Go.Sl Go.Sx Go.Proofs
abbrev Tm := Int × (Int × (Int × (ByteArray × Int)))
abbrev Cnd := List Tm
abbrev Fct := ByteArray × (Int × Int)
abbrev Rl := ByteArray × (Int × (Int × (Cnd × (Cnd × List ByteArray))))
abbrev Cd := ByteArray × (List Fct × List Rl)
theorem eqD (s t : ByteArray) : (s.data.toList == t.data.toList) = decide (s = t) := by
  by_cases h : s = t
  · subst h; simp
  · have : s.data.toList ≠ t.data.toList := fun e => h (ext_data e)
    simp [h]
    exact fun e => this (by rw [e])
def letB (b : UInt8) : Bool := decide (97 ≤ b.toNat) && decide (b.toNat ≤ 122)
def digB (b : UInt8) : Bool := decide (48 ≤ b.toNat) && decide (b.toNat ≤ 57)
def words10 : List ByteArray := [bts [99, 111, 100, 101], bts [102, 97, 99, 116], bts [114, 117, 108, 101], bts [119, 104, 101, 110], bts [109, 117, 115, 116], bts [117, 110, 108, 101, 115, 115], bts [97, 110, 100], bts [111, 114], bts [110, 111, 116], bts [116, 114, 117, 101]]
def chB (b : UInt8) (i : Nat) : Option Bool := bif letB b || (digB b && !decide (i = 0)) then none else some false
def nmB (s : ByteArray) : Bool := decide (1 ≤ s.size ∧ s.size ≤ 12) && !(words10.any fun w => decide (s = w)) && (scan chB s.data.toList 0).isNone
def cmpK (k : Int) : Bool := decide (1 ≤ k ∧ k ≤ 3)
def shp (t : Tm) (i : Int) : Bool :=
  if t.1 = 0 then decide (t.2.1 = 0 ∧ t.2.2.1 = 0 ∧ t.2.2.2.1 = bts [] ∧ t.2.2.2.2 = 0)
  else if 1 ≤ t.1 ∧ t.1 ≤ 3 then decide (t.2.1 = 0 ∧ t.2.2.1 = 0 ∧ -1000000000000 ≤ t.2.2.2.2 ∧ t.2.2.2.2 ≤ 1000000000000)
  else if t.1 = 4 then decide (t.2.2.2.1 = bts [] ∧ t.2.2.2.2 = 0 ∧ 0 ≤ t.2.1 ∧ t.2.1 ≤ i - 1 ∧ t.2.2.1 = 0)
  else if t.1 = 5 ∨ t.1 = 6 then decide (t.2.2.2.1 = bts [] ∧ t.2.2.2.2 = 0 ∧ 0 ≤ t.2.1 ∧ t.2.1 ≤ i - 1 ∧ 0 ≤ t.2.2.1 ∧ t.2.2.1 ≤ i - 1)
  else false
def plF (f : List Fct) (s : ByteArray) : Int := idxI (fun x => decide (x.1 = s)) f
def condS (f : List Fct) (t : Tm) (i : Nat) : Option Int :=
  bif !shp t i then some 41 else bif cmpK t.1 && !f.any (fun x => decide (x.1 = t.2.2.2.1)) then some 40 else none
def condE (f : List Fct) (c : Cnd) : Int :=
  if 30 < c.length then 2 else if c = [] then 41 else (scan (condS f) c 0).getD 0
def fnd (l : List Rl) (s : ByteArray) : Int := idxI (fun r => decide (r.1 = s)) l
def hasR (l : List Rl) (s : ByteArray) : Bool := l.any fun r => decide (r.1 = s)
def unlS (l : List Rl) (u : List ByteArray) (s : ByteArray) (k : Nat) : Option Int :=
  bif !hasR l s || (u.take k).any (fun x => decide (x = s)) then some 42 else none
def ruleE (f : List Fct) (l : List Rl) (i : Nat) (r : Rl) : Int :=
  bif !nmB r.1 || hasR (l.take i) r.1 then 40
  else if r.2.1 < 0 ∨ r.2.1 > r.2.2.1 ∨ r.2.2.1 > 100000 then 45
  else if condE f r.2.2.2.1 ≠ 0 then condE f r.2.2.2.1
  else if condE f r.2.2.2.2.1 ≠ 0 then condE f r.2.2.2.2.1
  else if 6 < r.2.2.2.2.2.length then 2
  else (scan (unlS (l.take i) r.2.2.2.2.2) r.2.2.2.2.2 0).getD 0
def spanB (x : Fct) : Bool := decide (-1000000000000 ≤ x.2.1 ∧ x.2.1 ≤ x.2.2 ∧ x.2.2 ≤ 1000000000000)
def factS (f : List Fct) (x : Fct) (i : Nat) : Option Int :=
  bif !nmB x.1 || (f.take i).any (fun y => decide (y.1 = x.1)) then some 40 else bif !spanB x then some 44 else none
def ruleS (f : List Fct) (l : List Rl) (r : Rl) (i : Nat) : Option Int := if ruleE f l i r ≠ 0 then some (ruleE f l i r) else none
def condsL (l : List Rl) : List Cnd := l.flatMap fun r => [r.2.2.2.1, r.2.2.2.2.1]
def partsL (t : Tm) : List Int := if t.1 = 1 then [t.2.2.2.2] else if t.1 = 2 then [w64 (t.2.2.2.2 + 1)] else if t.1 = 3 then [t.2.2.2.2, w64 (t.2.2.2.2 + 1)] else []
def inS (x : Fct) (n : Int) : Bool := decide (n > x.2.1) && decide (n ≤ x.2.2)
def cutT (x : Fct) (t : Tm) : List Int := bif decide (t.2.2.2.1 = x.1) then (partsL t).filter (inS x) else []
def cutN (x : Fct) (cs : List Cnd) : List Int := cs.flatMap fun c => c.flatMap (cutT x)
def cutsOf (cs : List Cnd) (x : Fct) : List Int := compL (sortL (x.2.1 :: cutN x cs))
def startsL (f : List Fct) (cs : List Cnd) : List (List Int) := f.map (cutsOf cs)
def manyL (l : List (List Int)) : Int := l.foldl (fun n x => if (4001 : Int) < w64 (n * (x.length : Int)) then 4001 else w64 (n * (x.length : Int))) 1
def codeE (c : Cd) : Int :=
  bif !nmB c.1 then 40 else if c.2.1 = [] then 43 else if 6 < c.2.1.length ∨ 12 < c.2.2.length then 2
  else match scan (factS c.2.1) c.2.1 0 with
    | some e => e
    | none => match scan (ruleS c.2.1 c.2.2) c.2.2 0 with
      | some e => e
      | none => if manyL (startsL c.2.1 (condsL c.2.2)) > 4000 then 2 else 0
def fitB (x y : Fct) : Bool := decide (x.1 = y.1) && decide (x.2.1 ≤ y.2.1 ∧ y.2.1 ≤ y.2.2 ∧ y.2.2 ≤ x.2.2)
def fitS (f g : List Fct) : Bool := decide (f.length = g.length) && (f.zip g).all fun p => fitB p.1 p.2
def tmSo (f : List Fct) (v : List Int) (t : Tm) (l : List Bool) : Bool :=
  let n := v.getD (plF f t.2.2.2.1).toNat 0
  if t.1 = 0 then true else if t.1 = 1 then decide (n < t.2.2.2.2) else if t.1 = 2 then decide (n ≤ t.2.2.2.2) else if t.1 = 3 then decide (n = t.2.2.2.2)
  else if t.1 = 4 then !l.getD t.2.1.toNat false else if t.1 = 5 then l.getD t.2.1.toNat false && l.getD t.2.2.1.toNat false else l.getD t.2.1.toNat false || l.getD t.2.2.1.toNat false
def soL (f : List Fct) (v : List Int) (c : Cnd) : List Bool := c.foldl (fun l t => l ++ [tmSo f v t l]) []
def soB (f : List Fct) (v : List Int) (c : Cnd) : Bool := (soL f v c).getLastD false
def bindB (f : List Fct) (l : List Rl) (d : Int) (v : List Int) (r : Rl) (out : List Bool) : Bool :=
  (decide (r.2.1 ≤ d ∧ d ≤ r.2.2.1) && soB f v r.2.2.2.1) && r.2.2.2.2.2.all fun s => !out.getD (fnd l s).toNat false
def nbL (f : List Fct) (l : List Rl) (d : Int) (v : List Int) : List Rl → List Bool → List Bool
  | [], _ => []
  | r :: m, out => bindB f l d v r out :: nbL f l d v m (out ++ [bindB f l d v r out])
def bindsL (c : Cd) (d : Int) (v : List Int) : List Bool := nbL c.2.1 c.2.2 d v c.2.2 []
def keptL (c : Cd) (d : Int) (v : List Int) : List Bool := List.zipWith (fun b r => !b || soB c.2.1 v r.2.2.2.2.1) (bindsL c d v) c.2.2
def choL : List (List Int) → List (List Int)
  | [] => [[]]
  | x :: l => x.flatMap fun n => (choL l).map (n :: ·)
def ansL (l : List Bool) : Int := bif !l.any (fun b => !b) then 1 else bif !l.any (fun b => b) then 0 else 2
def casesL (c : Cd) (f : List Fct) : List (List Int) := choL (startsL f (condsL c.2.2))
def askE (c : Cd) (d : Int) (f : List Fct) : Int := if codeE c ≠ 0 then codeE c else if ¬ (0 ≤ d ∧ d ≤ 100000) then 45 else bif !fitS c.2.1 f then 44 else 0
end Go.K
namespace Go.K
open Go.Sl Go.Sx Go.Proofs
def okI : List (List Int) → List Nat → Prop
  | [], [] => True
  | x :: l, k :: r => k < x.length ∧ okI l r
  | _, _ => False
def valsI : List (List Int) → List Nat → List Int
  | x :: l, k :: r => x.getD k 0 :: valsI l r
  | _, _ => []
def zerN {α : Type} (l : List α) : List Nat := l.map fun _ => 0
def nxt : List (List Int) → List Nat → Option (List Nat)
  | x :: l, k :: r => match nxt l r with
    | some r' => some (k :: r')
    | none => if k + 1 < x.length then some ((k + 1) :: zerN r) else none
  | _, _ => none
def restI : List (List Int) → List Nat → List (List Int)
  | x :: l, k :: r => (restI l r).map (x.getD k 0 :: ·) ++ (x.drop (k + 1)).flatMap fun n => (choL l).map (n :: ·)
  | _, _ => [[]]
theorem okI_len : ∀ {l : List (List Int)} {k : List Nat}, okI l k → l.length = k.length
  | [], [], _ => rfl
  | x :: l, k :: r, h => by simp [okI_len h.2]
  | [], _ :: _, h => h.elim
  | _ :: _, [], h => h.elim
theorem okI_get : ∀ {l : List (List Int)} {k : List Nat} {i n : Nat}, okI l k → k[i]? = some n → ∃ x, l[i]? = some x ∧ n < x.length
  | x :: l, k :: r, 0, n, h, hi => by simp at hi; subst hi; exact ⟨x, rfl, h.1⟩
  | x :: l, k :: r, i + 1, n, h, hi => by simpa using okI_get h.2 (by simpa using hi)
  | [], [], _, _, _, hi => by simp at hi
  | [], _ :: _, _, _, h, _ => h.elim
  | _ :: _, [], _, _, h, _ => h.elim
theorem zer_ok : ∀ {l : List (List Int)} (_ : ∀ x ∈ l, x ≠ []) {α : Type} {r : List α}, r.length = l.length → okI l (zerN r)
  | [], _, _, [], _ => trivial
  | x :: l, h, _, _ :: r, e => ⟨List.length_pos_iff.2 (h x (List.mem_cons_self ..)), zer_ok (fun y hy => h y (List.mem_cons_of_mem _ hy)) (by simpa using e)⟩
theorem rest_zer : ∀ {l : List (List Int)} (_ : ∀ x ∈ l, x ≠ []) {α : Type} {r : List α}, r.length = l.length → restI l (zerN r) = choL l
  | [], _, _, [], _ => rfl
  | [] :: l, h, _, _ :: r, e => absurd rfl (h [] (List.mem_cons_self ..))
  | (n :: x) :: l, h, _, _ :: r, e => by
    show (restI l (zerN r)).map _ ++ _ = _
    rw [rest_zer (fun y hy => h y (List.mem_cons_of_mem _ hy)) (by simpa using e)]
    simp [choL]
theorem rest_next : ∀ {l : List (List Int)} (_ : ∀ x ∈ l, x ≠ []) {k : List Nat}, okI l k → restI l k = valsI l k :: match nxt l k with
    | some k' => restI l k'
    | none => []
  | [], _, [], _ => rfl
  | [], _, _ :: _, h => h.elim
  | _ :: _, _, [], h => h.elim
  | x :: l, h, k :: r, hk => by
    have ih := rest_next (fun y hy => h y (List.mem_cons_of_mem _ hy)) hk.2
    show (restI l r).map _ ++ _ = _
    rw [ih]
    cases hn : nxt l r with
    | some r' => simp only [nxt, hn, valsI, restI, List.map_cons, List.cons_append]
    | none =>
      simp only [nxt, hn, valsI, List.map_cons, List.map_nil, List.cons_append, List.nil_append]
      by_cases hk1 : k + 1 < x.length
      · rw [if_pos hk1]
        simp only [restI]
        rw [rest_zer (fun y hy => h y (List.mem_cons_of_mem _ hy)) (okI_len hk.2).symm, List.drop_eq_getElem_cons hk1, List.flatMap_cons]
        simp only [List.getD_eq_getElem?_getD, List.getElem?_eq_getElem hk1, Option.getD_some]
      · rw [if_neg hk1, List.drop_eq_nil_of_le (by omega)]
        simp
theorem nxt_ok : ∀ {l : List (List Int)} (_ : ∀ x ∈ l, x ≠ []) {k k' : List Nat}, okI l k → nxt l k = some k' → okI l k'
  | [], _, [], _, _, e => by cases e
  | [], _, _ :: _, _, h, _ => h.elim
  | _ :: _, _, [], _, h, _ => h.elim
  | x :: l, h, k :: r, k', hk, e => by
    simp only [nxt] at e
    cases hn : nxt l r with
    | some r' =>
      rw [hn] at e
      simp only [Option.some.injEq] at e
      subst e
      exact ⟨hk.1, nxt_ok (fun y hy => h y (List.mem_cons_of_mem _ hy)) hk.2 hn⟩
    | none =>
      rw [hn] at e
      simp only at e
      split at e
      · rename_i h1
        simp only [Option.some.injEq] at e
        subst e
        exact ⟨h1, zer_ok (fun y hy => h y (List.mem_cons_of_mem _ hy)) (okI_len hk.2).symm⟩
      · cases e
theorem rest_sub : ∀ {l : List (List Int)} {k : List Nat}, okI l k → ∀ v ∈ restI l k, v ∈ choL l
  | [], [], _, v, hv => by simpa [restI, choL] using hv
  | x :: l, k :: r, h, v, hv => by
    simp only [restI, List.mem_append, List.mem_map, List.mem_flatMap, choL] at hv ⊢
    rcases hv with ⟨u, hu, rfl⟩ | ⟨n, hn, u, hu, rfl⟩
    · refine ⟨x.getD k 0, ?_, u, rest_sub h.2 u hu, rfl⟩
      rw [List.getD_eq_getElem?_getD, List.getElem?_eq_getElem h.1]
      exact List.getElem_mem h.1
    · exact ⟨n, List.mem_of_mem_drop hn, u, hu, rfl⟩
  | [], _ :: _, h, _, _ => h.elim
  | _ :: _, [], h, _, _ => h.elim
def goS {V S ρ : Type} (step : V → S → S ⊕ ρ) : List V → S → S ⊕ ρ
  | [], s => .inl s
  | v :: r, s => match step v s with
    | .inl s' => goS step r s'
    | .inr e => .inr e
def castN (k : List Nat) : List Int := k.map fun n : Nat => (n : Int)
theorem iter_odo {S α ρ : Type} {f : α → Option (α ⊕ ρ)} (mk : List Int → S → α) (ls : List (List Int)) (hne : ∀ x ∈ ls, x ≠ []) (step : List Int → S → S ⊕ ρ) (good : Nat → S → Prop) (fin : S → Option ρ)
    (h : ∀ k s n, okI ls k → valsI ls k ∈ choL ls → n < (choL ls).length → good n s → f (mk (castN k) s) = match step (valsI ls k) s with
      | .inr e => some (.inr e)
      | .inl s' => match nxt ls k with
        | some k' => some (.inl (mk (castN k') s'))
        | none => outR (fin s'))
    (hg : ∀ v s s' n, v ∈ choL ls → n < (choL ls).length → good n s → step v s = .inl s' → good (n + 1) s') (hlen : (choL ls).length < LF) (s0 : S) (h0 : good 0 s0) :
    iter LF f (mk (castN (zerN ls)) s0) = match goS step (choL ls) s0 with
      | .inl s => fin s
      | .inr e => some e := by
  suffices H : ∀ (m : Nat) (k : List Nat) (s : S) (lf n : Nat), okI ls k → (restI ls k).length = m → n + m = (choL ls).length → m < lf → good n s → iter lf f (mk (castN k) s) = match goS step (restI ls k) s with
      | .inl s => fin s
      | .inr e => some e by
    have hz := zer_ok hne (r := ls) rfl
    have hr := rest_zer hne (r := ls) rfl
    have := H (choL ls).length (zerN ls) s0 LF 0 hz (by rw [hr]) (by omega) hlen h0
    rw [hr] at this
    exact this
  intro m
  induction m with
  | zero =>
    intro k s lf n hk hm
    rw [rest_next hne hk] at hm
    simp at hm
  | succ m ih =>
    intro k s lf n hk hm hn hlf hgd
    obtain ⟨lf, rfl⟩ : ∃ q, lf = q + 1 := ⟨lf - 1, by omega⟩
    have hv : valsI ls k ∈ choL ls := rest_sub hk _ (by rw [rest_next hne hk]; exact List.mem_cons_self ..)
    have e := h k s n hk hv (by omega) hgd
    rw [rest_next hne hk] at hm ⊢
    simp only [List.length_cons, Nat.add_right_cancel_iff] at hm
    simp only [iter, e, goS]
    cases hs : step (valsI ls k) s with
    | inr e => rfl
    | inl s' =>
      have hgd' := hg _ _ _ n hv (by omega) hgd hs
      simp only
      cases hx : nxt ls k with
      | none =>
        simp only [goS]
        cases fin s' <;> rfl
      | some k' =>
        rw [hx] at hm
        exact ih k' s' lf (n + 1) (nxt_ok hne hk hx) hm (by omega) (by omega) hgd'
theorem vals_snoc : ∀ {A : List (List Int)} {p : List Nat} (c : List Int) (x : Nat), A.length = p.length → valsI (A ++ [c]) (p ++ [x]) = valsI A p ++ [c.getD x 0]
  | [], [], _, _, _ => rfl
  | a :: A, y :: p, c, x, h => by
    simp only [List.cons_append, valsI]
    rw [vals_snoc c x (by simpa using h)]
theorem vals_len : ∀ {l : List (List Int)} {k : List Nat}, l.length = k.length → (valsI l k).length = l.length
  | [], [], _ => rfl
  | x :: l, k :: r, h => by simp [valsI, vals_len (l := l) (k := r) (by simpa using h)]
theorem vals_take {l : List (List Int)} {k : List Nat} (h : okI l k) : ∀ i, i ≤ k.length → foldI (fun (x : Nat) i (a : List Int) => a ++ [(l.getD i []).getD x 0]) (k.take i) 0 [] = valsI (l.take i) (k.take i)
  | 0, _ => by simp [foldI, valsI]
  | i + 1, hi => by
    have hl := okI_len h
    have e1 : k.take (i + 1) = k.take i ++ [k[i]] := by rw [List.take_add_one, List.getElem?_eq_getElem (by omega)]; rfl
    have e2 : l.take (i + 1) = l.take i ++ [l[i]'(by omega)] := by rw [List.take_add_one, List.getElem?_eq_getElem (by omega)]; rfl
    have app : ∀ (g : Nat → Nat → List Int → List Int) (a b : List Nat) (i : Nat) (s : List Int), foldI g (a ++ b) i s = foldI g b (i + a.length) (foldI g a i s) := by
      intro g a
      induction a with
      | nil => intro b i s; simp [foldI]
      | cons y a iha => intro b i s; simp only [List.cons_append, foldI, iha]; rw [show i + 1 + a.length = i + (y :: a).length by simp; omega]
    rw [e1, e2, vals_snoc _ _ (by simp; omega), app, vals_take h i (by omega)]
    simp only [foldI, List.length_take, Nat.zero_add]
    rw [show min i k.length = i by omega, List.getD_eq_getElem?_getD (l := l), List.getElem?_eq_getElem (show i < l.length by omega)]
    rfl
theorem nxt_snoc : ∀ {A : List (List Int)} {p : List Nat} (c : List Int) (x : Nat), A.length = p.length → nxt (A ++ [c]) (p ++ [x]) = if x + 1 < c.length then some (p ++ [x + 1]) else (nxt A p).map (· ++ [0])
  | [], [], c, x, _ => by
    simp only [List.nil_append, nxt]
    split <;> simp [zerN]
  | a :: A, y :: p, c, x, h => by
    simp only [List.cons_append, nxt]
    rw [nxt_snoc c x (by simpa using h)]
    by_cases hx : x + 1 < c.length
    · simp [hx]
    · simp only [hx, if_false]
      cases nxt A p with
      | some p' => simp
      | none =>
        simp only [Option.map_none]
        split <;> simp [zerN]
theorem setI_at {xs ys : List Int} {x v : Int} : setI (xs ++ x :: ys) (xs.length : Int) v = some (xs ++ v :: ys) := by simp [setI]; omega
theorem adv_loop {ρ : Type} {ls : List (List Int)} {f : Int × List Int → Option ((Int × List Int) ⊕ ρ)} (K : Int × List Int → ρ) (hbig : ls.length ≤ 1000) (hcl : ∀ c ∈ ls, c.length < LF)
    (hneg : ∀ at_, f (-1, at_) = some (.inr (K (-1, at_))))
    (hmax : ∀ (j x : Nat) (at_ : List Int) (c : List Int), at_[j]? = some (x : Int) → ls[j]? = some c → x + 1 = c.length → j < 1000 → f ((j : Int), at_) = (setI at_ (j : Int) 0).bind fun r => some (.inl (w64 ((j : Int) - 1), r)))
    (hno : ∀ (j x : Nat) (at_ : List Int) (c : List Int), at_[j]? = some (x : Int) → ls[j]? = some c → x + 1 < c.length → j < 1000 → f ((j : Int), at_) = some (.inr (K ((j : Int), at_)))) :
    ∀ (n : Nat) (A B : List (List Int)) (p : List Nat) (m lf : Nat), ls = A ++ B → p.length = n → okI A p → n < lf → ∃ i at', iter lf f ((p.length : Int) - 1, castN p ++ List.replicate m 0) = some (K (i, at')) ∧ match nxt A p with
      | none => i = -1
      | some p' => ∃ (j : Nat) (r : Int), i = (j : Int) ∧ at'[j]? = some r ∧ setI at' (j : Int) (w64 (r + 1)) = some (castN p' ++ List.replicate m 0) := by
  intro n
  induction n with
  | zero =>
    intro A B p m lf hls hp hk hlf
    obtain ⟨lf, rfl⟩ : ∃ q, lf = q + 1 := ⟨lf - 1, by omega⟩
    have hp0 : p = [] := List.eq_nil_of_length_eq_zero hp
    subst hp0
    have hA : A = [] := List.eq_nil_of_length_eq_zero (by rw [okI_len hk]; rfl)
    subst hA
    refine ⟨-1, List.replicate m 0, ?_, rfl⟩
    simp only [iter, castN, List.map_nil, List.nil_append, List.length_nil]
    rw [show ((0 : Nat) : Int) - 1 = -1 by rfl, hneg]
  | succ n ih =>
    intro A B p m lf hls hp hk hlf
    obtain ⟨lf, rfl⟩ : ∃ q, lf = q + 1 := ⟨lf - 1, by omega⟩
    have hAl := okI_len hk
    obtain ⟨p0, x, rfl⟩ : ∃ p0 x, p = p0 ++ [x] := ⟨p.dropLast, p.getLast (by intro e; subst e; simp at hp), (List.dropLast_concat_getLast _).symm⟩
    obtain ⟨A0, c, rfl⟩ : ∃ A0 c, A = A0 ++ [c] := ⟨A.dropLast, A.getLast (by intro e; subst e; simp at hAl), (List.dropLast_concat_getLast _).symm⟩
    simp only [List.length_append, List.length_singleton, Nat.add_right_cancel_iff] at hp hAl
    have hget : (castN (p0 ++ [x]) ++ List.replicate m 0)[n]? = some (x : Int) := by
      rw [← hp]; simp [castN]
    have hlc : ls[n]? = some c := by rw [hls, ← hp, ← hAl]; simp
    have hxc : x < c.length := by
      obtain ⟨c', hc', hlt⟩ := okI_get (i := n) (n := x) hk (by rw [← hp]; simp)
      rw [← hp, ← hAl] at hc'
      simp at hc'
      subst hc'; exact hlt
    have hk0 : okI A0 p0 := by
      have : ∀ {A0 : List (List Int)} {p0 : List Nat}, A0.length = p0.length → okI (A0 ++ [c]) (p0 ++ [x]) → okI A0 p0 := by
        intro A0
        induction A0 with
        | nil => intro p0 hl h; have : p0 = [] := List.eq_nil_of_length_eq_zero hl.symm; subst this; trivial
        | cons a A0 iha =>
          intro p0 hl h
          cases p0 with
          | nil => simp at hl
          | cons y p0 => exact ⟨h.1, iha (by simpa using hl) h.2⟩
      exact this hAl hk
    have hn1 : n < 1000 := by
      have : ls.length = (A0 ++ [c] ++ B).length := by rw [hls]
      simp at this; omega
    have hst : (((p0 ++ [x]).length : Nat) : Int) - 1 = (n : Int) := by simp [hp]
    rw [hst, nxt_snoc c x hAl]
    by_cases hx : x + 1 < c.length
    · rw [if_pos hx]
      refine ⟨(n : Int), castN (p0 ++ [x]) ++ List.replicate m 0, ?_, n, (x : Int), rfl, hget, ?_⟩
      · simp only [iter, hno n x _ c hget hlc hx hn1]
      · have e : castN (p0 ++ [x]) ++ List.replicate m 0 = castN p0 ++ (x : Int) :: List.replicate m 0 := by simp [castN]
        have el : ((n : Nat) : Int) = ((castN p0).length : Int) := by simp [castN, hp]
        rw [e, el, setI_at]
        have hc := hcl c (List.mem_of_getElem? hlc)
        rw [succ_W (show x + 1 < LF by omega)]
        simp [castN]
    · rw [if_neg hx]
      have e : castN (p0 ++ [x]) ++ List.replicate m 0 = castN p0 ++ (x : Int) :: List.replicate m 0 := by simp [castN]
      have el : ((n : Nat) : Int) = ((castN p0).length : Int) := by simp [castN, hp]
      have hs : setI (castN (p0 ++ [x]) ++ List.replicate m 0) (n : Int) 0 = some (castN p0 ++ List.replicate (m + 1) 0) := by
        rw [e, el, setI_at]; simp [List.replicate_succ]
      obtain ⟨i, at', h1, h2⟩ := ih A0 ([c] ++ B) p0 (m + 1) lf (by rw [hls]; simp) hp hk0 (by omega)
      refine ⟨i, at', ?_, ?_⟩
      · simp only [iter, hmax n x _ c hget hlc (by omega) hn1, hs, Option.bind_some]
        rw [← h1, w64_in (by omega), hp]
      · cases hnx : nxt A0 p0 with
        | none => rw [hnx] at h2; simpa using h2
        | some p' =>
          rw [hnx] at h2
          obtain ⟨j, r, e1, e2, e3⟩ := h2
          refine ⟨j, r, e1, e2, ?_⟩
          rw [e3]
          simp [castN, List.replicate_succ]
end Go.K
namespace Go.K
open Go.Sl Go.Sx Go.Proofs
theorem G91_in (a b c : Int) : G91 LF (a, (b, c)) = some (decide (b ≤ a ∧ a ≤ c)) := by
  unfold G91
  by_cases h1 : b ≤ a <;> by_cases h2 : a ≤ c <;> simp [h1, h2]
theorem G93_cmp (k : Int) : G93 LF k = some (cmpK k) := by
  unfold G93
  simp only [G91_in, Option.bind_some]; rfl
theorem emp_eq (s : ByteArray) : (s.data.toList == ([] : List UInt8)) = decide (s = bts []) := (eqD s (bts []))
theorem lt_of_get {α : Type} {l : List α} {i : Nat} {x : α} (h : l[i]? = some x) : i < l.length := (List.getElem?_eq_some_iff.1 h).1
theorem G223_idx (l : List ByteArray) (s : ByteArray) (hl : l.length < LF) : G223 LF (l, s) = some (idxI (fun x => decide (s = x)) l) := by
  unfold G223
  refine (iter_find (fun x => decide (s = x)) (fun i => (i : Int)) l (some (-1)) ?_ ?_ hl).trans ?_
  · intro i x hx
    have hi := lt_of_get hx
    simp only [dlt hi, cond_true, getI_nat hx, Option.bind_some, eqD, succ_W (Nat.lt_of_le_of_lt hi hl)]
    cases decide (s = x) <;> rfl
  · simp only [dnlt]; rfl
  · unfold idxI; cases idx (fun x => decide (s = x)) l 0 <;> rfl
theorem G180_any (l : List ByteArray) (s : ByteArray) (hl : l.length < LF) : G180 LF (l, s) = some (l.any fun x => decide (s = x)) := by
  unfold G180
  simp only [G223_idx l s hl, Option.bind_some, idxI_nonneg]
theorem G165_any (s : ByteArray) : G165 LF s = some (words10.any fun x => decide (s = x)) := by
  unfold G165
  rw [G180_any _ _ (by decide)]
  rfl
theorem chB_false : ∀ {l : List UInt8} {i : Nat} {e : Bool}, scan chB l i = some e → e = false
  | [], _, _, h => by cases h
  | b :: l, i, e, h => by
    simp only [scan] at h
    cases hc : chB b i with
    | none => rw [hc] at h; exact chB_false h
    | some q =>
      rw [hc] at h
      unfold chB at hc
      cases hb : (letB b || (digB b && !decide (i = 0))) with
      | true => rw [hb] at hc; cases hc
      | false => rw [hb] at hc; cases hc; cases h; rfl
theorem G94_nm (s : ByteArray) : G94 LF s = some (nmB s) := by
  unfold G94
  simp only [G91_in, Option.bind_some, G165_any]
  unfold nmB
  by_cases h1 : 1 ≤ s.size ∧ s.size ≤ 12
  · have hs : s.size < LF := by show s.size < 9223372036854775808; omega
    have e1 : decide ((1 : Int) ≤ (s.size : Int) ∧ (s.size : Int) ≤ 12) = true := decide_eq_true (by omega)
    simp only [e1, decide_eq_true h1, Bool.not_true, cond_false, jl, jr, Bool.true_and]
    cases hw : words10.any fun x => decide (s = x) with
    | true => rfl
    | false =>
      simp only [cond_false, Bool.not_false, Bool.true_and]
      have hz : s.data.toList.length = s.size := (size_len s).symm
      have key := iter_scan (f := fun y15 : Int => cond (decide (y15 < (s.size : Int))) (jn (((byteAt s y15)).bind fun r16 => cond (decide (r16 ≥ (97 : Int))) (((byteAt s y15)).bind fun r17 => some (.inl (decide (r17 ≤ (122 : Int))))) (some (.inl false))) (fun y18 : Bool => jn (((byteAt s y15)).bind fun r19 => cond (decide (r19 ≥ (48 : Int))) (((byteAt s y15)).bind fun r20 => some (.inl (decide (r20 ≤ (57 : Int))))) (some (.inl false))) (fun y21 : Bool => jn (cond (!y18) (cond (decide (y15 = (0 : Int))) (some (.inl true)) (some (.inl (!y21)))) (some (.inl false))) (fun y22 : Bool => cond y22 (some (.inr false)) (some (.inl (w64 (y15 + (1 : Int))))))))) (some (.inr true))) chB s.data.toList (some true) ?_ ?_ (by rw [hz]; exact hs)
      · rw [key]
        cases hw2 : scan chB s.data.toList 0 with
        | none => rfl
        | some e => exact congrArg some (chB_false hw2)
      · intro i b hb _
        have hi : i < s.size := by rw [← hz]; exact lt_of_get hb
        simp only [dlt hi, cond_true, byteAt_nat hb, Option.bind_some, succ_W (Nat.lt_of_le_of_lt hi hs)]
        have q1 : decide ((b.toNat : Int) ≥ 97) = decide (97 ≤ b.toNat) := decide_eq_decide.2 (by omega)
        have q2 : decide ((b.toNat : Int) ≤ 122) = decide (b.toNat ≤ 122) := decide_eq_decide.2 (by omega)
        have q3 : decide ((b.toNat : Int) ≥ 48) = decide (48 ≤ b.toNat) := decide_eq_decide.2 (by omega)
        have q4 : decide ((b.toNat : Int) ≤ 57) = decide (b.toNat ≤ 57) := decide_eq_decide.2 (by omega)
        have q5 : decide ((i : Int) = 0) = decide (i = 0) := decide_eq_decide.2 (by omega)
        unfold chB letB digB
        rw [q1, q2, q3, q4, q5]
        cases decide (97 ≤ b.toNat) <;> cases decide (b.toNat ≤ 122) <;> cases decide (48 ≤ b.toNat) <;> cases decide (b.toNat ≤ 57) <;> cases decide (i = 0) <;> rfl
      · intro _
        rw [hz]
        simp only [dnlt]; rfl
  · have e1 : decide ((1 : Int) ≤ (s.size : Int) ∧ (s.size : Int) ≤ 12) = false := decide_eq_false (by omega)
    simp only [e1, decide_eq_false h1, Bool.not_false, cond_true, jl, jr, Bool.false_and]
theorem plF_neg (f : List Fct) (s : ByteArray) : decide (plF f s < 0) = !f.any fun x => decide (x.1 = s) := idxI_neg _ _
theorem plF_nn (f : List Fct) (s : ByteArray) : decide (plF f s ≥ 0) = f.any fun x => decide (x.1 = s) := idxI_nonneg _ _
theorem fnd_neg (l : List Rl) (s : ByteArray) : decide (fnd l s < 0) = !hasR l s := idxI_neg _ _
theorem fnd_nn (l : List Rl) (s : ByteArray) : decide (fnd l s ≥ 0) = hasR l s := idxI_nonneg _ _
theorem G110_plc (f : List Fct) (s : ByteArray) (hl : f.length < LF) : G110 LF (f, s) = some (plF f s) := by
  unfold G110 plF
  refine (iter_find (fun x => decide (x.1 = s)) (fun i => (i : Int)) f (some (-1)) ?_ ?_ hl).trans ?_
  · intro i x hx
    have hi := lt_of_get hx
    simp only [dlt hi, cond_true, getI_nat hx, Option.bind_some, eqD, succ_W (Nat.lt_of_le_of_lt hi hl)]
    cases decide (x.1 = s) <;> rfl
  · simp only [dnlt]; rfl
  · unfold idxI; cases idx (fun x : Fct => decide (x.1 = s)) f 0 <;> rfl
theorem G36_fnd (n : ByteArray) (f : List Fct) (l : List Rl) (s : ByteArray) (hl : l.length < LF) : G36 LF ((n, (f, l)), s) = some (fnd l s) := by
  unfold G36 fnd
  refine (iter_find (fun x => decide (x.1 = s)) (fun i => (i : Int)) l (some (-1)) ?_ ?_ hl).trans ?_
  · intro i x hx
    have hi := lt_of_get hx
    simp only [dlt hi, cond_true, getI_nat hx, Option.bind_some, eqD, succ_W (Nat.lt_of_le_of_lt hi hl)]
    cases decide (x.1 = s) <;> rfl
  · simp only [dnlt]; rfl
  · unfold idxI; cases idx (fun x : Rl => decide (x.1 = s)) l 0 <;> rfl
theorem G92_shp (t : Tm) (i : Nat) (hi : i < LF) : G92 LF (t, (i : Int)) = some (shp t i) := by
  obtain ⟨k, a, b, s, n⟩ := t
  have hp : w64 ((i : Int) - 1) = (i : Int) - 1 := (by have : i < 9223372036854775808 := hi; exact w64_id (by omega) (by omega))
  unfold G92 shp
  simp only [G93_cmp, G91_in, Option.bind_some, hp, emp_eq, cmpK]
  by_cases k0 : k = 0
  · subst k0
    simp only [decide_true, cond_true, jl, jr, if_true]
    by_cases c1 : a = 0 <;> by_cases c2 : b = 0 <;> by_cases c3 : s = bts [] <;> by_cases c4 : n = 0 <;> simp [c1, c2, c3, c4, jl, jr]
  · by_cases k1 : 1 ≤ k ∧ k ≤ 3
    · have k4 : ¬ k = 4 := by omega
      simp only [k0, k1, k4, decide_false, decide_true, cond_true, cond_false, jl, jr, if_true, if_false, and_self]
      by_cases c1 : a = 0 <;> by_cases c2 : b = 0 <;> by_cases c3 : -1000000000000 ≤ n ∧ n ≤ 1000000000000 <;> simp [c1, c2, c3, jl, jr]
    · by_cases k4 : k = 4
      · subst k4
        simp only [k0, k1, decide_false, decide_true, cond_true, cond_false, jl, jr, if_true, if_false]
        by_cases c1 : 0 ≤ a ∧ a ≤ (i : Int) - 1 <;> by_cases c2 : b = 0 <;> by_cases c3 : s = bts [] <;> by_cases c4 : n = 0 <;> simp [c1, c2, c3, c4, jl, jr]
      · by_cases k5 : k = 5
        · subst k5
          simp only [k0, k1, k4, decide_false, decide_true, cond_true, cond_false, jl, jr, if_true, if_false, true_or]
          by_cases c1 : 0 ≤ a ∧ a ≤ (i : Int) - 1 <;> by_cases c2 : 0 ≤ b ∧ b ≤ (i : Int) - 1 <;> by_cases c3 : s = bts [] <;> by_cases c4 : n = 0 <;> simp [c1, c2, c3, c4, jl, jr]
        · by_cases k6 : k = 6
          · subst k6
            simp only [k0, k1, k4, k5, decide_false, decide_true, cond_true, cond_false, jl, jr, if_true, if_false, or_true]
            by_cases c1 : 0 ≤ a ∧ a ≤ (i : Int) - 1 <;> by_cases c2 : 0 ≤ b ∧ b ≤ (i : Int) - 1 <;> by_cases c3 : s = bts [] <;> by_cases c4 : n = 0 <;> simp [c1, c2, c3, c4, jl, jr]
          · simp only [k0, k1, k4, k5, k6, decide_false, cond_false, jl, jr, if_false, or_self]
theorem G29_cond (f : List Fct) (c : Cnd) (hf : f.length < LF) : G29 LF (f, c) = some (condE f c) := by
  unfold G29 condE
  by_cases h1 : 30 < c.length
  · have e1 : decide ((c.length : Int) > 30) = true := decide_eq_true (by omega)
    simp only [e1, cond_true, h1, if_true]
  · have e1 : decide ((c.length : Int) > 30) = false := decide_eq_false (by omega)
    simp only [e1, cond_false, h1, if_false]
    have hl : c.length < LF := by show c.length < 9223372036854775808; omega
    refine (iter_scan (condS f) c (if c = [] then some 41 else some 0) ?_ ?_ hl).trans ?_
    · intro i t ht _
      have hi := lt_of_get ht
      obtain ⟨k, a, b, s, n⟩ := t
      simp only [dlt hi, cond_true, getI_nat ht, Option.bind_some, G92_shp _ i (Nat.lt_trans hi hl), G93_cmp, G110_plc f s hf, succ_W (Nat.lt_of_le_of_lt hi hl)]
      unfold condS
      cases shp (k, a, b, s, n) i with
      | false => rfl
      | true =>
        simp only [Bool.not_true, cond_false]
        cases cmpK k with
        | false => rfl
        | true =>
          simp only [cond_true, jl, jr, Bool.true_and, plF_neg]
          cases f.any (fun x => decide (x.1 = s)) <;> rfl
    · intro _
      simp only [dnlt, cond_false]
      by_cases h0 : c = []
      · subst h0; rfl
      · have e0 : decide ((c.length : Int) = 0) = false := decide_eq_false (by have := List.length_pos_iff.2 h0; omega)
        simp [e0, h0]
    · by_cases h0 : c = []
      · subst h0; rfl
      · simp only [h0, if_false]
        cases scan (condS f) c 0 <;> rfl
end Go.K
namespace Go.K
open Go.Sl Go.Sx Go.Proofs
theorem G116_conds (n : ByteArray) (f : List Fct) (l : List Rl) (h : l.length ≤ 1000) : G116 LF (n, (f, l)) = some (condsL l) := by
  unfold G116
  refine (iter_app (fun i a => (a, i)) (fun r : Rl => [r.2.2.2.1, r.2.2.2.2.1]) l (fun a => some a) 2 (fun _ _ => by simp) [] ?_ ?_ (by show l.length < 9223372036854775808; omega)).trans ?_
  · intro i x a hx ha hi
    simp only [List.length_nil] at ha
    simp only [dlt hi, cond_true, getI_nat hx, Option.bind_some, succ_W (show i + 1 < 9223372036854775808 by omega), appC_of (show a.length + [x.2.2.2.1, x.2.2.2.2.1].length ≤ 1099511627776 by simp; omega)]
  · intro a _
    simp only [dnlt]; rfl
  · rfl
theorem G181_parts (t : Tm) : G181 LF t = some (partsL t) := by
  unfold G181 partsL
  by_cases h1 : t.1 = 1
  · simp [h1]
  · by_cases h2 : t.1 = 2
    · simp [h2]
    · by_cases h3 : t.1 = 3 <;> simp [h1, h2, h3]
theorem parts_len (t : Tm) : (partsL t).length ≤ 2 := by
  unfold partsL
  split
  · simp
  · split
    · simp
    · split <;> simp
theorem flat_filter {α : Type} (p : α → Bool) : ∀ l : List α, (l.flatMap fun n => bif p n then [n] else []) = l.filter p
  | [] => rfl
  | x :: l => by
    rw [List.flatMap_cons, flat_filter p l]
    cases h : p x <;> simp [h]
theorem cutT_len (x : Fct) (t : Tm) : (cutT x t).length ≤ 2 := by
  unfold cutT
  cases decide (t.2.2.2.1 = x.1) with
  | false => simp
  | true => exact Nat.le_trans (List.length_filter_le _ _) (parts_len t)
theorem flat_len {α β : Type} (g : α → List β) (k : Nat) : ∀ (l : List α), (∀ x ∈ l, (g x).length ≤ k) → (l.flatMap g).length ≤ k * l.length
  | [], _ => by simp
  | x :: l, h => by
    have h1 := h x (List.mem_cons_self ..)
    have h2 := flat_len g k l (fun y hy => h y (List.mem_cons_of_mem _ hy))
    rw [List.flatMap_cons, List.length_append, List.length_cons, Nat.mul_add]; omega
theorem G115_starts (f : List Fct) (cs : List Cnd) (hf : f.length ≤ 1000) (hc : cs.length ≤ 1000) (ht : ∀ c ∈ cs, c.length ≤ 1000) : G115 LF (f, cs) = some (startsL f cs) := by
  unfold G115 startsL
  refine (iter_app (fun i a => (a, i)) (fun x : Fct => [cutsOf cs x]) f (fun a => some a) 1 (fun _ _ => by simp) [] ?_ ?_ (by show f.length < 9223372036854775808; omega)).trans ?_
  · intro i x A hx hA hi
    simp only [List.length_nil] at hA
    simp only [dlt hi, cond_true, getI_nat hx, Option.bind_some]
    refine (iter_app (fun i a => (a, i)) (fun c : Cnd => c.flatMap (cutT x)) cs (fun a => some (.inl (A ++ [compL (sortL a)], ((i + 1 : Nat) : Int)))) 2000 (fun c hc => by
        have h1 := flat_len (cutT x) 2 c (fun t _ => cutT_len x t)
        have h2 := ht c hc
        omega) [x.2.1] ?_ ?_ (by show cs.length < 9223372036854775808; omega)).trans ?_
    · intro j c a hj ha hjl
      simp only [List.length_singleton] at ha
      simp only [dlt hjl, cond_true, getI_nat hj, Option.bind_some]
      have hcl := ht c (List.mem_of_getElem? hj)
      refine (iter_app (fun i a => (a, i)) (cutT x) c (fun a => some (.inl (a, ((j + 1 : Nat) : Int)))) 2 (fun t _ => cutT_len x t) a ?_ ?_ (by show c.length < 9223372036854775808; omega)).trans ?_
      · intro k t b hk hb hkl
        simp only [dlt hkl, cond_true, getI_nat hk, Option.bind_some, eqD, G181_parts, succ_W (show k + 1 < 9223372036854775808 by omega)]
        unfold cutT
        cases hd : decide (t.2.2.2.1 = x.1) with
        | false => simp
        | true =>
          simp only [Bool.not_true, cond_false, cond_true]
          rw [← flat_filter]
          have hp := parts_len t
          refine (iter_app (fun i a => (a, i)) (fun n => bif inS x n then [n] else []) (partsL t) (fun b => some (.inl (b, ((k + 1 : Nat) : Int)))) 1 (fun n _ => by cases inS x n <;> simp) b ?_ ?_ (by show (partsL t).length < 9223372036854775808; omega)).trans ?_
          · intro q n d hq hd hql
            simp only [dlt hql, cond_true, getI_nat hq, Option.bind_some, succ_W (show q + 1 < 9223372036854775808 by omega), appC_of (show d.length + [n].length ≤ 1099511627776 by simp; omega)]
            unfold inS
            cases decide (n > x.2.1) <;> cases decide (n ≤ x.2.2) <;> simp [jl]
          · intro d _
            simp only [dnlt]; rfl
          · rfl
      · intro b _
        simp only [dnlt, succ_W (show j + 1 < 9223372036854775808 by omega)]; rfl
      · rfl
    · intro a ha
      simp only [List.length_singleton] at ha
      have h1 : a.length ≤ 1099511627776 := by omega
      have h2 : (sortL a).length ≤ 1099511627776 := by rw [← sortL_len]; exact h1
      simp only [dnlt, cond_false, ltC_of h1, ltC_of h2, Option.bind_some, appC_of (show A.length + [compL (sortL a)].length ≤ 1099511627776 by simp; omega), succ_W (show i + 1 < 9223372036854775808 by omega)]
    · rfl
  · intro a _
    simp only [dnlt]; rfl
  · rw [List.nil_append, ← List.map_eq_flatMap]
theorem G114_many (l : List (List Int)) (h : l.length ≤ 1000) : G114 LF l = some (manyL l) := by
  unfold G114 manyL
  refine (iter_foldI (fun i a => (a, i)) (fun (x : List Int) _ n => if (4001 : Int) < w64 (n * (x.length : Int)) then 4001 else w64 (n * (x.length : Int))) (fun _ _ => True) l (fun a => some a) 1 ?_ (fun _ _ _ _ _ => trivial) ?_ (by show l.length < 9223372036854775808; omega) trivial).trans ?_
  · intro i x a hx _
    have hi := lt_of_get hx
    simp only [dlt hi, cond_true, getI_nat hx, Option.bind_some, succ_W (show i + 1 < 9223372036854775808 by omega)]
  · intro a _
    simp only [dnlt]; rfl
  · rw [foldI_const]
end Go.K
namespace Go.K
open Go.Sl Go.Sx Go.Proofs
theorem G112_span (x : Fct) : G112 LF x = some (spanB x) := by
  unfold G112 spanB
  have q1 : decide (x.2.1 ≥ -1000000000000) = decide (-1000000000000 ≤ x.2.1) := rfl
  by_cases h1 : -1000000000000 ≤ x.2.1
  · by_cases h2 : x.2.1 ≤ x.2.2
    · by_cases h3 : x.2.2 ≤ 1000000000000
      · simp only [q1, decide_eq_true h1, decide_eq_true h2, decide_eq_true h3, cond_true, decide_eq_true (And.intro h1 (And.intro h2 h3))]
      · simp only [q1, decide_eq_true h1, decide_eq_true h2, decide_eq_false h3, cond_true, decide_eq_false (fun h : _ ∧ _ ∧ _ => h3 h.2.2)]
    · simp only [q1, decide_eq_true h1, decide_eq_false h2, cond_true, cond_false, decide_eq_false (fun h : _ ∧ _ ∧ _ => h2 h.2.1)]
  · simp only [q1, decide_eq_false h1, cond_false, decide_eq_false (fun h : _ ∧ _ ∧ _ => h1 h.1)]
theorem getD_none {ρ : Type} (o : Option ρ) (d : ρ) : (match o with | some e => some e | none => some d) = some (o.getD d) := by cases o <;> rfl
theorem unlS_eq (l : List Rl) (u : List ByteArray) (s : ByteArray) (k : Nat) : unlS l u s k = bif (!hasR l s) || (u.take k).any (fun x => decide (s = x)) then some 42 else none := by
  unfold unlS
  have : (fun x : ByteArray => decide (x = s)) = fun x => decide (s = x) := by funext x; exact decide_eq_decide.2 eq_comm
  rw [this]
theorem iter_two {ρ : Type} {f : Int → Option (Int ⊕ ρ)} {e0 e1 : Int} {g : Int → ρ} {fin : Option ρ} (h0 : f 0 = some (if e0 = 0 then .inl 1 else .inr (g e0))) (h1 : f 1 = some (if e1 = 0 then .inl 2 else .inr (g e1))) (h2 : f 2 = outR fin) :
    iter LF f 0 = if e0 = 0 then (if e1 = 0 then fin else some (g e1)) else some (g e0) := by
  have key : ∀ n, iter (n + 3) f 0 = if e0 = 0 then (if e1 = 0 then fin else some (g e1)) else some (g e0) := by
   intro n
   simp only [iter, h0]
   by_cases z0 : e0 = 0
   · simp only [z0, if_true, h1]
     by_cases z1 : e1 = 0
     · simp only [z1, if_true, h2]
       cases fin <;> rfl
     · simp only [z1, if_false]
   · simp only [z0, if_false]
  exact key 9223372036854775805
theorem scan_none {σ ρ : Type} {g : σ → Nat → Option ρ} : ∀ {l : List σ} {i : Nat}, scan g l i = none → ∀ j x, l[j]? = some x → g x (i + j) = none
  | [], _, _, _, _, hx => by simp at hx
  | y :: l, i, h, j, x, hx => by
    simp only [scan] at h
    cases hg : g y i with
    | some e => rw [hg] at h; cases h
    | none =>
      rw [hg] at h
      cases j with
      | zero => simp at hx; subst hx; exact hg
      | succ j =>
        have := scan_none h j x (by simpa using hx)
        rwa [show i + 1 + j = i + (j + 1) by omega] at this
theorem cond_short {f : List Fct} {c : Cnd} (h : condE f c = 0) : 1 ≤ c.length ∧ c.length ≤ 30 ∧ ∀ i t, c[i]? = some t → condS f t i = none := by
  unfold condE at h
  split at h
  · cases h
  · split at h
    · cases h
    · rename_i h1 h2
      refine ⟨List.length_pos_iff.2 h2, by omega, fun i t ht => ?_⟩
      cases hs : scan (condS f) c 0 with
      | none =>
        have := scan_none hs i t ht
        rwa [Nat.zero_add] at this
      | some e =>
        rw [hs] at h
        simp only [Option.getD_some] at h
        subst h
        exfalso
        have key : ∀ (l : Cnd) (i : Nat), scan (condS f) l i ≠ some 0 := by
          intro l
          induction l with
          | nil => intro i; simp [scan]
          | cons t l ih =>
            intro i
            simp only [scan]
            cases hc : condS f t i with
            | none => exact ih (i + 1)
            | some e =>
              unfold condS at hc
              intro he
              simp only [Option.some.injEq] at he
              subst he
              cases h1 : shp t i with
              | false => rw [h1] at hc; cases hc
              | true =>
                rw [h1] at hc
                simp only [Bool.not_true, cond_false] at hc
                revert hc
                cases cmpK t.1 && !f.any (fun x => decide (x.1 = t.2.2.2.1)) <;> simp
        exact key c 0 hs
theorem rule_ok {f : List Fct} {l : List Rl} {i : Nat} {r : Rl} (h : ruleE f l i r = 0) : nmB r.1 = true ∧ hasR (l.take i) r.1 = false ∧ (0 ≤ r.2.1 ∧ r.2.1 ≤ r.2.2.1 ∧ r.2.2.1 ≤ 100000) ∧ condE f r.2.2.2.1 = 0 ∧ condE f r.2.2.2.2.1 = 0 ∧ r.2.2.2.2.2.length ≤ 6 ∧ (scan (unlS (l.take i) r.2.2.2.2.2) r.2.2.2.2.2 0).getD 0 = 0 := by
  unfold ruleE at h
  cases h1 : !nmB r.1 || hasR (l.take i) r.1 with
  | true => rw [h1] at h; cases h
  | false =>
    rw [h1] at h
    simp only [cond_false] at h
    simp only [Bool.or_eq_false_iff, Bool.not_eq_false'] at h1
    split at h
    · cases h
    · rename_i h2
      split at h
      · rename_i h3; exact absurd h h3
      · rename_i h3
        split at h
        · rename_i h4; exact absurd h h4
        · rename_i h4
          split at h
          · cases h
          · rename_i h5
            exact ⟨h1.1, h1.2, by omega, by simpa using h3, by simpa using h4, by omega, h⟩
theorem rules_ok {f : List Fct} {l : List Rl} (h : scan (ruleS f l) l 0 = none) {i : Nat} {r : Rl} (hr : l[i]? = some r) : ruleE f l i r = 0 := by
  have := scan_none h i r hr
  rw [Nat.zero_add] at this
  unfold ruleS at this
  split at this
  · cases this
  · rename_i h2; simpa using h2
theorem conds_short {f : List Fct} {l : List Rl} (h : scan (ruleS f l) l 0 = none) : ∀ c ∈ condsL l, List.length c ≤ 1000 := by
  intro c hc
  unfold condsL at hc
  obtain ⟨r, hr, hc⟩ := List.mem_flatMap.1 hc
  obtain ⟨i, hi, rfl⟩ := List.mem_iff_getElem.1 hr
  obtain ⟨_, _, _, h1, h2, _⟩ := rule_ok (rules_ok h (List.getElem?_eq_getElem hi))
  simp only [List.mem_cons, List.not_mem_nil, or_false] at hc
  rcases hc with rfl | rfl
  · have := (cond_short h1).2.1; omega
  · have := (cond_short h2).2.1; omega
theorem G113_rule (c : Cd) (i : Nat) (r : Rl) (hr : c.2.2[i]? = some r) (hf : c.2.1.length < LF) (hl : c.2.2.length ≤ 1000) : G113 LF (c, (i : Int)) = some (ruleE c.2.1 c.2.2 i r) := by
  have hi := lt_of_get hr
  have hi' : i < LF := by show i < 9223372036854775808; omega
  have htl : (c.2.2.take i).length < LF := by rw [List.length_take]; show min i c.2.2.length < 9223372036854775808; omega
  unfold G113 ruleE
  simp only [getI_nat hr, Option.bind_some, G94_nm, subI_take (Nat.le_of_lt hi), G36_fnd _ _ _ _ htl, fnd_nn, fnd_neg]
  cases hnm : nmB r.1 with
  | false => simp [jl]
  | true =>
    simp only [Bool.not_true, cond_false, jl, Bool.false_or]
    cases hh : hasR (c.2.2.take i) r.1 with
    | true => rfl
    | false =>
      simp only [cond_false]
      by_cases hd : r.2.1 < 0 ∨ r.2.1 > r.2.2.1 ∨ r.2.2.1 > 100000
      · rw [if_pos hd]
        by_cases d1 : r.2.1 < 0
        · simp [d1, jl]
        · by_cases d2 : r.2.1 > r.2.2.1
          · simp [d1, d2, jl]
          · have d3 : r.2.2.1 > 100000 := by omega
            simp [d1, d2, d3, jl]
      · rw [if_neg hd]
        have d1 : ¬ r.2.1 < 0 := by omega
        have d2 : ¬ r.2.1 > r.2.2.1 := by omega
        have d3 : ¬ r.2.2.1 > 100000 := by omega
        simp only [d1, d2, d3, decide_false, cond_false, jl]
        refine (iter_two (e0 := condE c.2.1 r.2.2.2.1) (e1 := condE c.2.1 r.2.2.2.2.1) (g := fun e => e) (fin := if 6 < r.2.2.2.2.2.length then some 2 else some ((scan (unlS (c.2.2.take i) r.2.2.2.2.2) r.2.2.2.2.2 0).getD 0)) ?_ ?_ ?_).trans ?_
        · simp only [show decide ((0 : Int) < 2) = true by rfl, decide_true, cond_true, G29_cond _ _ hf, Option.bind_some]
          by_cases h0 : condE c.2.1 r.2.2.2.1 = 0 <;> simp [h0]
          rfl
        · simp only [show decide ((1 : Int) < 2) = true by rfl, show decide ((1 : Int) = 0) = false by rfl, decide_true, cond_true, cond_false, G29_cond _ _ hf, Option.bind_some]
          by_cases h0 : condE c.2.1 r.2.2.2.2.1 = 0 <;> simp [h0]
          rfl
        · simp only [show decide ((2 : Int) < 2) = false by rfl, cond_false]
          congr 1
          by_cases hu6 : 6 < r.2.2.2.2.2.length
          · have : decide ((r.2.2.2.2.2.length : Int) > 6) = true := decide_eq_true (by omega)
            simp only [this, cond_true, hu6, if_true]
          · have : decide ((r.2.2.2.2.2.length : Int) > 6) = false := decide_eq_false (by omega)
            have hu : r.2.2.2.2.2.length < LF := by show r.2.2.2.2.2.length < 9223372036854775808; omega
            simp only [this, cond_false, hu6, if_false]
            refine (iter_scan (unlS (c.2.2.take i) r.2.2.2.2.2) r.2.2.2.2.2 (some 0) ?_ ?_ hu).trans (getD_none _ _)
            · intro k s hk _
              have hkl := lt_of_get hk
              have htu : (r.2.2.2.2.2.take k).length < LF := by rw [List.length_take]; omega
              simp only [dlt hkl, cond_true, getI_nat hk, Option.bind_some, subI_take (Nat.le_of_lt hkl), G180_any _ _ htu, succ_W (Nat.lt_of_le_of_lt hkl hu), unlS_eq]
              cases hasR (c.2.2.take i) s <;> simp [jl]
              cases (r.2.2.2.2.2.take k).any fun x => decide (s = x) <;> rfl
            · intro _
              simp only [dnlt]; rfl
        · by_cases h0 : condE c.2.1 r.2.2.2.1 = 0
          · by_cases h1 : condE c.2.1 r.2.2.2.2.1 = 0
            · by_cases hu6 : 6 < r.2.2.2.2.2.length <;> simp [h0, h1, hu6]
            · simp [h0, h1]
          · simp [h0]
theorem G31_code (c : Cd) : G31 LF c = some (codeE c) := by
  unfold G31 codeE
  simp only [G94_nm, Option.bind_some]
  cases nmB c.1 with
  | false => rfl
  | true =>
    simp only [Bool.not_true, cond_false]
    by_cases h0 : c.2.1 = []
    · simp [h0]
    · have e0 : decide ((c.2.1.length : Int) = 0) = false := decide_eq_false (by have := List.length_pos_iff.2 h0; omega)
      rw [if_neg h0]
      simp only [e0, cond_false]
      by_cases h1 : 6 < c.2.1.length ∨ 12 < c.2.2.length
      · rw [if_pos h1]
        by_cases h2 : 6 < c.2.1.length
        · have : decide ((c.2.1.length : Int) > 6) = true := decide_eq_true (by omega)
          simp [this, jl]
        · have a1 : decide ((c.2.1.length : Int) > 6) = false := decide_eq_false (by omega)
          have a2 : decide ((c.2.2.length : Int) > 12) = true := decide_eq_true (by omega)
          simp [a1, a2, jl]
      · rw [if_neg h1]
        have a1 : decide ((c.2.1.length : Int) > 6) = false := decide_eq_false (by omega)
        have a2 : decide ((c.2.2.length : Int) > 12) = false := decide_eq_false (by omega)
        simp only [a1, a2, cond_false, jl]
        have hf6 : c.2.1.length ≤ 6 := by omega
        have hl12 : c.2.2.length ≤ 12 := by omega
        have hf : c.2.1.length < LF := by show c.2.1.length < 9223372036854775808; omega
        have hl : c.2.2.length < LF := by show c.2.2.length < 9223372036854775808; omega
        refine (iter_scan (factS c.2.1) c.2.1 (match scan (ruleS c.2.1 c.2.2) c.2.2 0 with
            | some e => some e
            | none => some (if manyL (startsL c.2.1 (condsL c.2.2)) > 4000 then 2 else 0)) ?_ ?_ hf).trans ?_
        · intro i x hx _
          have hi := lt_of_get hx
          have htl : (c.2.1.take i).length < LF := by rw [List.length_take]; omega
          simp only [dlt hi, cond_true, getI_nat hx, Option.bind_some, G94_nm, subI_take (Nat.le_of_lt hi), G110_plc _ _ htl, plF_nn, G112_span, succ_W (Nat.lt_of_le_of_lt hi hf)]
          unfold factS
          cases nmB x.1 with
          | false => rfl
          | true =>
            simp only [Bool.not_true, cond_false, jl, Bool.false_or]
            cases (c.2.1.take i).any fun y => decide (y.1 = x.1) with
            | true => rfl
            | false => simp only [cond_false]; cases spanB x <;> rfl
        · intro _
          simp only [dnlt, cond_false]
          congr 1
          refine (iter_scan (ruleS c.2.1 c.2.2) c.2.2 (some (if manyL (startsL c.2.1 (condsL c.2.2)) > 4000 then 2 else 0)) ?_ ?_ hl).trans ?_
          · intro i r hr _
            have hi := lt_of_get hr
            simp only [dlt hi, cond_true, Option.bind_some, G113_rule c i r hr hf (by omega), succ_W (Nat.lt_of_le_of_lt hi hl)]
            unfold ruleS
            by_cases hz : ruleE c.2.1 c.2.2 i r = 0 <;> simp [hz]
          · intro hs
            simp only [dnlt, cond_false]
            congr 1
            have hcl : (condsL c.2.2).length ≤ 1000 := by
              have := flat_len (fun r : Rl => [r.2.2.2.1, r.2.2.2.2.1]) 2 c.2.2 (fun _ _ => by simp)
              unfold condsL; omega
            simp only [G116_conds _ _ _ (show c.2.2.length ≤ 1000 by omega), Option.bind_some, G115_starts _ _ (show c.2.1.length ≤ 1000 by omega) hcl (conds_short hs), G114_many _ (show (startsL c.2.1 (condsL c.2.2)).length ≤ 1000 by unfold startsL; rw [List.length_map]; omega)]
            by_cases hm : manyL (startsL c.2.1 (condsL c.2.2)) > 4000 <;> simp [hm]
          · cases scan (ruleS c.2.1 c.2.2) c.2.2 0 <;> rfl
        · cases scan (factS c.2.1) c.2.1 0 with
          | some e => rfl
          | none => cases scan (ruleS c.2.1 c.2.2) c.2.2 0 <;> rfl
end Go.K
namespace Go.K
open Go.Sl Go.Sx Go.Proofs
def S126 : FuncId → Sp := fun g => match g with
  | 128 => { nz := [(11, [12])] }
  | _ => {}
noncomputable def F126 (P : Program) (lf : Nat) (x : tt [(false, .i), (false, .i), (false, .i)]) : Option (tt [(false, .bool)]) := fnF P (C22 P lf) S126 126 [(false, .i), (false, .i), (false, .i)] [(false, .bool)] lf x
noncomputable def C126 (P : Program) (lf : Nat) : FuncId → Option Con := extC (C22 P lf) 126 (dataCon [(false, .i), (false, .i), (false, .i)] [(false, .bool)] (F126 P lf))
theorem F126_eq (lf : Nat) (a0 : Int) (a1 : Int) (a2 : Int) : F126 Tryz.prog lf (a0, (a1, a2)) =
  cond (decide (a1 ≤ a0)) (some (decide (a0 ≤ a2))) (some false) := by kernel_rfl
def S168 : FuncId → Sp := fun g => match g with
  | 128 => { nz := [(11, [12])] }
  | _ => {}
noncomputable def F168 (P : Program) (lf : Nat) (x : tt []) : Option (tt [(false, (.sl .str))]) := fnF P (C126 P lf) S168 168 [] [(false, (.sl .str))] lf x
noncomputable def C168 (P : Program) (lf : Nat) : FuncId → Option Con := extC (C126 P lf) 168 (dataCon [] [(false, (.sl .str))] (F168 P lf))
theorem F168_eq (lf : Nat) : F168 Tryz.prog lf () =
  some [(bts [99, 111, 100, 101]), (bts [102, 97, 99, 116]), (bts [114, 117, 108, 101]), (bts [119, 104, 101, 110]), (bts [109, 117, 115, 116]), (bts [117, 110, 108, 101, 115, 115]), (bts [97, 110, 100]), (bts [111, 114]), (bts [110, 111, 116]), (bts [116, 114, 117, 101])] := by kernel_rfl
def S84 : FuncId → Sp := fun g => match g with
  | 84 => { loops := [(2, [(.slot 9, .dat .i)])] }
  | 128 => { nz := [(11, [12])] }
  | _ => {}
noncomputable def F84 (P : Program) (lf : Nat) (x : tt [(false, (.sl .str)), (false, .str)]) : Option (tt [(false, .bool)]) := fnF P (C168 P lf) S84 84 [(false, (.sl .str)), (false, .str)] [(false, .bool)] lf x
noncomputable def C84 (P : Program) (lf : Nat) : FuncId → Option Con := extC (C168 P lf) 84 (dataCon [(false, (.sl .str)), (false, .str)] [(false, .bool)] (F84 P lf))
theorem F84_eq (lf : Nat) (a0 : (List ByteArray)) (a1 : ByteArray) : F84 Tryz.prog lf (a0, a1) =
  iter lf (fun y4 : Int => cond (decide (y4 < (a0.length : Int))) (((getI a0 y4)).bind fun r5 => cond ((ByteArray.toList r5) == (ByteArray.toList a1)) (some (.inr true)) (some (.inl (w64 (y4 + (1 : Int)))))) (some (.inr false))) (0 : Int) := by kernel_rfl
def S99 : FuncId → Sp := fun g => match g with
  | 99 => { joins := [(9, [(.slot 54, .dat .bool)]), (8, [(.slot 5, .dat .bool)]), (7, [(.slot 4, .dat .bool)]), (2, [(.slot 18, .dat .bool)])], loops := [(4, [(.slot 3, .dat .i)])] }
  | 128 => { nz := [(11, [12])] }
  | _ => {}
noncomputable def F99 (P : Program) (lf : Nat) (x : tt [(false, .str)]) : Option (tt [(false, .bool)]) := fnF P (C84 P lf) S99 99 [(false, .str)] [(false, .bool)] lf x
noncomputable def C99 (P : Program) (lf : Nat) : FuncId → Option Con := extC (C84 P lf) 99 (dataCon [(false, .str)] [(false, .bool)] (F99 P lf))
theorem F99_eq (lf : Nat) (a0 : ByteArray) : F99 Tryz.prog lf a0 =
  jn (cond (decide ((a0.size : Int) < (1 : Int))) (some (.inl true)) (cond (decide ((a0.size : Int) > (12 : Int))) (some (.inl true)) (((F168 Tryz.prog lf ())).bind fun r12 => ((F84 Tryz.prog lf (r12, a0))).bind fun r13 => some (.inl r13)))) (fun y14 : Bool => cond y14 (some false) (iter lf (fun y15 : Int => cond (decide (y15 < (a0.size : Int))) (jn (((byteAt a0 y15)).bind fun r16 => cond (decide ((97 : Int) ≤ r16)) (((byteAt a0 y15)).bind fun r17 => some (.inl (decide (r17 ≤ (122 : Int))))) (some (.inl false))) (fun y18 : Bool => jn (((byteAt a0 y15)).bind fun r19 => cond (decide ((48 : Int) ≤ r19)) (((byteAt a0 y15)).bind fun r20 => some (.inl (decide (r20 ≤ (57 : Int))))) (some (.inl false))) (fun y21 : Bool => jn (cond (!y18) (cond (!y21) (some (.inl true)) (some (.inl (decide (y15 = (0 : Int)))))) (some (.inl false))) (fun y22 : Bool => cond y22 (some (.inr false)) (some (.inl (w64 (y15 + (1 : Int))))))))) (some (.inr true))) (0 : Int))) := by kernel_rfl
def S117 : FuncId → Sp := fun g => match g with
  | 128 => { nz := [(11, [12])] }
  | _ => {}
noncomputable def F117 (P : Program) (lf : Nat) (x : tt [(true, (.pair .i .i))]) : Option (tt [(false, .bool)]) := fnF P (C99 P lf) S117 117 [(true, (.pair .i .i))] [(false, .bool)] lf x
noncomputable def C117 (P : Program) (lf : Nat) : FuncId → Option Con := extC (C99 P lf) 117 (dataCon [(true, (.pair .i .i))] [(false, .bool)] (F117 P lf))
theorem F117_eq (lf : Nat) (a0 : Int) (a1 : Int) : F117 Tryz.prog lf (a0, a1) =
  cond (decide ((-1000000000000 : Int) ≤ a0)) (cond (decide (a0 ≤ a1)) (some (decide (a1 ≤ (1000000000000 : Int)))) (some false)) (some false) := by kernel_rfl
def S98 : FuncId → Sp := fun g => match g with
  | 128 => { nz := [(11, [12])] }
  | _ => {}
noncomputable def F98 (P : Program) (lf : Nat) (x : tt [(false, .i)]) : Option (tt [(false, .bool)]) := fnF P (C117 P lf) S98 98 [(false, .i)] [(false, .bool)] lf x
noncomputable def C98 (P : Program) (lf : Nat) : FuncId → Option Con := extC (C117 P lf) 98 (dataCon [(false, .i)] [(false, .bool)] (F98 P lf))
theorem F98_eq (lf : Nat) (a0 : Int) : F98 Tryz.prog lf a0 =
  cond (decide (a0 = (1 : Int))) (some true) (cond (decide (a0 = (2 : Int))) (some true) (some (decide (a0 = (3 : Int))))) := by kernel_rfl
def S97 : FuncId → Sp := fun g => match g with
  | 97 => { joins := [(15, [(.slot 61, .dat .bool)]), (10, [(.slot 33, .dat .bool)]), (4, [(.slot 7, .dat .bool)])] }
  | 128 => { nz := [(11, [12])] }
  | _ => {}
noncomputable def F97 (P : Program) (lf : Nat) (x : tt [(true, Yp), (false, .i)]) : Option (tt [(false, .bool)]) := fnF P (C98 P lf) S97 97 [(true, Yp), (false, .i)] [(false, .bool)] lf x
noncomputable def C97 (P : Program) (lf : Nat) : FuncId → Option Con := extC (C98 P lf) 97 (dataCon [(true, Yp), (false, .i)] [(false, .bool)] (F97 P lf))
theorem F97_eq (lf : Nat) (a0 : Int) (a1 : Int) (a2 : Int) (a3 : ByteArray) (a4 : Int) (a5 : Int) : F97 Tryz.prog lf ((a0, (a1, (a2, (a3, a4)))), a5) =
  ((F126 Tryz.prog lf (a1, ((0 : Int), (w64 (a5 - (1 : Int))))))).bind fun r12 => ((F126 Tryz.prog lf (a2, ((0 : Int), (w64 (a5 - (1 : Int))))))).bind fun r13 => jn (cond ((ByteArray.toList a3) == ([] : List UInt8)) (some (.inl (decide (a4 = (0 : Int))))) (some (.inl false))) (fun y14 : Bool => cond (decide (a0 = (0 : Int))) (some ((decide (a0 = (0 : Int))) && ((decide (a1 = (0 : Int))) && ((decide (a2 = (0 : Int))) && (((ByteArray.toList a3) == ([] : List UInt8)) && ((decide (a4 = (0 : Int))) && true)))))) (jn (cond (decide (a0 = (1 : Int))) (some (.inl (decide (a0 = (1 : Int))))) (cond (decide (a0 = (2 : Int))) (some (.inl (decide (a0 = (2 : Int))))) (some (.inl (decide (a0 = (3 : Int))))))) (fun y15 : Bool => cond y15 (cond (decide (a1 = (0 : Int))) (cond (decide (a2 = (0 : Int))) (((F126 Tryz.prog lf (a4, ((-1000000000000 : Int), (1000000000000 : Int))))).bind fun r16 => some r16) (some false)) (some false)) (cond (decide (a0 = (4 : Int))) (cond y14 (cond r12 (some (decide (a2 = (0 : Int)))) (some false)) (some false)) (jn (cond (decide (a0 = (5 : Int))) (some (.inl (decide (a0 = (5 : Int))))) (some (.inl (decide (a0 = (6 : Int)))))) (fun y17 : Bool => cond y17 (cond y14 (cond r12 (some r13) (some false)) (some false)) (some false))))))) := by kernel_rfl
def S111 : FuncId → Sp := fun g => match g with
  | 111 => { loops := [(2, [(.slot 9, .dat .i)])] }
  | 128 => { nz := [(11, [12])] }
  | _ => {}
noncomputable def F111 (P : Program) (lf : Nat) (x : tt [(false, (.sl (.pair .str (.pair .i .i)))), (false, .str)]) : Option (tt [(false, .i)]) := fnF P (C97 P lf) S111 111 [(false, (.sl (.pair .str (.pair .i .i)))), (false, .str)] [(false, .i)] lf x
noncomputable def C111 (P : Program) (lf : Nat) : FuncId → Option Con := extC (C97 P lf) 111 (dataCon [(false, (.sl (.pair .str (.pair .i .i)))), (false, .str)] [(false, .i)] (F111 P lf))
theorem F111_eq (lf : Nat) (a0 : Yf) (a1 : ByteArray) : F111 Tryz.prog lf (a0, a1) =
  iter lf (fun y4 : Int => cond (decide (y4 < (a0.length : Int))) (((getI a0 y4)).bind fun r5 => cond ((ByteArray.toList r5.1) == (ByteArray.toList a1)) (some (.inr y4)) (some (.inl (w64 (y4 + (1 : Int)))))) (some (.inr (-1 : Int)))) (0 : Int) := by kernel_rfl
def S30 : FuncId → Sp := fun g => match g with
  | 30 => { joins := [(11, [(.slot 36, .dat .bool)])], loops := [(6, [(.slot 18, .dat .i)])] }
  | 128 => { nz := [(11, [12])] }
  | _ => {}
noncomputable def F30 (P : Program) (lf : Nat) (x : tt [(false, (.sl (.pair .str (.pair .i .i)))), (true, (.sl Yp))]) : Option (tt [(false, .i)]) := fnF P (C111 P lf) S30 30 [(false, (.sl (.pair .str (.pair .i .i)))), (true, (.sl Yp))] [(false, .i)] lf x
noncomputable def C30 (P : Program) (lf : Nat) : FuncId → Option Con := extC (C111 P lf) 30 (dataCon [(false, (.sl (.pair .str (.pair .i .i)))), (true, (.sl Yp))] [(false, .i)] (F30 P lf))
theorem F30_eq (lf : Nat) (a0 : Yf) (a1 : Yt) : F30 Tryz.prog lf (a0, a1) =
  cond (decide ((a1.length : Int) > (30 : Int))) (some (2 : Int)) (cond (decide ((a1.length : Int) = (0 : Int))) (some (41 : Int)) (iter lf (fun y8 : Int => cond (decide (y8 < (a1.length : Int))) (((getI a1 y8)).bind fun r9 => ((F97 Tryz.prog lf ((r9.1, (r9.2.1, (r9.2.2.1, (r9.2.2.2.1, r9.2.2.2.2)))), y8))).bind fun r10 => cond (!r10) (some (.inr (41 : Int))) (jn (((F98 Tryz.prog lf r9.1)).bind fun r11 => cond r11 (((F111 Tryz.prog lf (a0, r9.2.2.2.1))).bind fun r12 => some (.inl (decide (r12 < (0 : Int))))) (some (.inl false))) (fun y13 : Bool => cond y13 (some (.inr (40 : Int))) (some (.inl (w64 (y8 + (1 : Int)))))))) (some (.inr (0 : Int)))) (0 : Int))) := by kernel_rfl
def S37 : FuncId → Sp := fun g => match g with
  | 37 => { loops := [(2, [(.slot 10, .dat .i)])] }
  | 128 => { nz := [(11, [12])] }
  | _ => {}
noncomputable def F37 (P : Program) (lf : Nat) (x : tt [(true, (.pair .str (.pair (.sl (.pair .str (.pair .i .i))) (.sl Yq)))), (false, .str)]) : Option (tt [(false, .i)]) := fnF P (C30 P lf) S37 37 [(true, (.pair .str (.pair (.sl (.pair .str (.pair .i .i))) (.sl Yq)))), (false, .str)] [(false, .i)] lf x
noncomputable def C37 (P : Program) (lf : Nat) : FuncId → Option Con := extC (C30 P lf) 37 (dataCon [(true, (.pair .str (.pair (.sl (.pair .str (.pair .i .i))) (.sl Yq)))), (false, .str)] [(false, .i)] (F37 P lf))
theorem F37_eq (lf : Nat) (a0 : ByteArray) (a1 : Yf) (a2 : Yr) (a3 : ByteArray) : F37 Tryz.prog lf ((a0, (a1, a2)), a3) =
  iter lf (fun y6 : Int => cond (decide (y6 < (a2.length : Int))) (((getI a2 y6)).bind fun r7 => cond ((ByteArray.toList r7.1) == (ByteArray.toList a3)) (some (.inr y6)) (some (.inl (w64 (y6 + (1 : Int)))))) (some (.inr (-1 : Int)))) (0 : Int) := by kernel_rfl
def S118 : FuncId → Sp := fun g => match g with
  | 118 => { joins := [(18, [(.slot 86, .dat .bool)]), (9, [(.slot 6, .dat .i)]), (5, [(.slot 41, .dat .bool)]), (3, [(.slot 26, .dat .bool)])], loops := [(14, [(.slot 64, .dat .i)])] }
  | 128 => { nz := [(11, [12])] }
  | _ => {}
noncomputable def F118 (P : Program) (lf : Nat) (x : tt [(true, (.pair .str (.pair (.sl (.pair .str (.pair .i .i))) (.sl Yq)))), (false, .i)]) : Option (tt [(false, .i)]) := fnF P (C37 P lf) S118 118 [(true, (.pair .str (.pair (.sl (.pair .str (.pair .i .i))) (.sl Yq)))), (false, .i)] [(false, .i)] lf x
noncomputable def C118 (P : Program) (lf : Nat) : FuncId → Option Con := extC (C37 P lf) 118 (dataCon [(true, (.pair .str (.pair (.sl (.pair .str (.pair .i .i))) (.sl Yq)))), (false, .i)] [(false, .i)] (F118 P lf))
theorem F118_eq (lf : Nat) (a0 : ByteArray) (a1 : Yf) (a2 : Yr) (a3 : Int) : F118 Tryz.prog lf ((a0, (a1, a2)), a3) =
  ((getI a2 a3)).bind fun r18 => jn (((F99 Tryz.prog lf r18.1)).bind fun r19 => cond (!r19) (some (.inl true)) (((F37 Tryz.prog lf ((a0, (a1, a2)), r18.1))).bind fun r20 => some (.inl (decide (r20 < a3))))) (fun y21 : Bool => cond y21 (some (40 : Int)) (jn (cond (decide (r18.2.1 < (0 : Int))) (some (.inl true)) (cond (decide (r18.2.1 > r18.2.2.1)) (some (.inl true)) (some (.inl (decide (r18.2.2.1 > (100000 : Int))))))) (fun y22 : Bool => cond y22 (some (45 : Int)) (((F30 Tryz.prog lf (a1, r18.2.2.2.1))).bind fun r23 => jn (cond (decide (r23 = (0 : Int))) (((F30 Tryz.prog lf (a1, r18.2.2.2.2.1))).bind fun r24 => some (.inl r24)) (some (.inl r23))) (fun y25 : Int => cond (!(decide (y25 = (0 : Int)))) (some y25) (cond (decide ((r18.2.2.2.2.2.length : Int) > (6 : Int))) (some (2 : Int)) (iter lf (fun y26 : Int => cond (decide (y26 < (r18.2.2.2.2.2.length : Int))) (((getI r18.2.2.2.2.2 y26)).bind fun r27 => ((F37 Tryz.prog lf ((a0, (a1, a2)), r27))).bind fun r28 => jn (cond (decide (r28 < (0 : Int))) (some (.inl true)) (cond (decide (r28 ≥ a3)) (some (.inl true)) (((subI r18.2.2.2.2.2 (0 : Int) y26)).bind fun r29 => ((F84 Tryz.prog lf (r29, r27))).bind fun r30 => some (.inl r30)))) (fun y31 : Bool => cond y31 (some (.inr (42 : Int))) (some (.inl (w64 (y26 + (1 : Int))))))) (some (.inr (0 : Int)))) (0 : Int)))))))) := by kernel_rfl
def S109 : FuncId → Sp := fun g => match g with
  | 109 => { loops := [(3, [(.slot 3, .own (.sl Yp) 24), (.slot 9, .dat .i)])] }
  | 128 => { nz := [(11, [12])] }
  | _ => {}
noncomputable def F109 (P : Program) (lf : Nat) (x : tt [(true, (.pair .str (.pair (.sl (.pair .str (.pair .i .i))) (.sl Yq))))]) : Option (tt [(false, (.sl (.sl Yp)))]) := fnF P (C118 P lf) S109 109 [(true, (.pair .str (.pair (.sl (.pair .str (.pair .i .i))) (.sl Yq))))] [(false, (.sl (.sl Yp)))] lf x
noncomputable def C109 (P : Program) (lf : Nat) : FuncId → Option Con := extC (C118 P lf) 109 (dataCon [(true, (.pair .str (.pair (.sl (.pair .str (.pair .i .i))) (.sl Yq))))] [(false, (.sl (.sl Yp)))] (F109 P lf))
theorem F109_eq (lf : Nat) (a0 : ByteArray) (a1 : Yf) (a2 : Yr) : F109 Tryz.prog lf (a0, (a1, a2)) =
  iter lf (fun y7 : ((List Yt) × Int) => cond (decide (y7.2 < (a2.length : Int))) (((getI a2 y7.2)).bind fun r8 => ((appC y7.1 [r8.2.2.2.1, r8.2.2.2.2.1])).bind fun r9 => some (.inl (r9, (w64 (y7.2 + (1 : Int)))))) (some (.inr y7.1))) (([] : List Yt), (0 : Int)) := by kernel_rfl
def S176 : FuncId → Sp := fun g => match g with
  | 128 => { nz := [(11, [12])] }
  | _ => {}
noncomputable def F176 (P : Program) (lf : Nat) (x : tt [(true, Yp)]) : Option (tt [(false, (.sl .i))]) := fnF P (C109 P lf) S176 176 [(true, Yp)] [(false, (.sl .i))] lf x
noncomputable def C176 (P : Program) (lf : Nat) : FuncId → Option Con := extC (C109 P lf) 176 (dataCon [(true, Yp)] [(false, (.sl .i))] (F176 P lf))
theorem F176_eq (lf : Nat) (a0 : Int) (a1 : Int) (a2 : Int) (a3 : ByteArray) (a4 : Int) : F176 Tryz.prog lf (a0, (a1, (a2, (a3, a4)))) =
  cond (decide (a0 = (1 : Int))) (some [a4]) (cond (decide (a0 = (2 : Int))) (some [(w64 (a4 + (1 : Int)))]) (cond (decide (a0 = (3 : Int))) (some [a4, (w64 (a4 + (1 : Int)))]) (some ([] : List Int)))) := by kernel_rfl
def S177 : FuncId → Sp := fun g => match g with
  | 177 => { joins := [(5, [(.slot 33, .dat .bool)]), (4, [(.slot 5, .dat .i)])], loops := [(2, [(.slot 5, .dat .i)])] }
  | 128 => { nz := [(11, [12])] }
  | _ => {}
noncomputable def F177 (P : Program) (lf : Nat) (x : tt [(false, (.sl .i)), (false, .i)]) : Option (tt [(false, (.sl .i))]) := fnF P (C176 P lf) S177 177 [(false, (.sl .i)), (false, .i)] [(false, (.sl .i))] lf x
noncomputable def C177 (P : Program) (lf : Nat) : FuncId → Option Con := extC (C176 P lf) 177 (dataCon [(false, (.sl .i)), (false, .i)] [(false, (.sl .i))] (F177 P lf))
theorem F177_eq (lf : Nat) (a0 : (List Int)) (a1 : Int) : F177 Tryz.prog lf (a0, a1) =
  jn (iter lf (fun y12 : Int => cond (decide (y12 > (0 : Int))) (((getI a0 (w64 (y12 - (1 : Int))))).bind fun r13 => cond (decide (r13 ≥ a1)) (some (.inl (w64 (y12 - (1 : Int))))) (some (.inr (.inl y12)))) (some (.inr (.inl y12)))) (a0.length : Int)) (fun y14 : Int => jn (cond (decide (y14 < (a0.length : Int))) (((getI a0 y14)).bind fun r15 => some (.inl (decide (r15 = a1)))) (some (.inl false))) (fun y16 : Bool => cond y16 (some a0) (((subI a0 (0 : Int) y14)).bind fun r17 => ((appC ([] : List Int) r17)).bind fun r18 => ((appC r18 [a1])).bind fun r19 => ((subI a0 y14 (a0.length : Int))).bind fun r20 => ((appC r19 r20)).bind fun r21 => some r21))) := by kernel_rfl
def S108 : FuncId → Sp := fun g => match g with
  | 108 => { joins := [(16, [(.slot 63, .dat .bool)])], loops := [(13, [(.slot 8, .dat (.sl .i)), (.slot 41, .dat .i)]), (10, [(.slot 8, .dat (.sl .i)), (.slot 34, .dat .i)]), (7, [(.slot 8, .dat (.sl .i)), (.slot 27, .dat .i)]), (3, [(.slot 5, .own (.sl .i) 41), (.slot 17, .dat .i)])] }
  | 128 => { nz := [(11, [12])] }
  | _ => {}
noncomputable def F108 (P : Program) (lf : Nat) (x : tt [(false, (.sl (.pair .str (.pair .i .i)))), (false, (.sl (.sl Yp)))]) : Option (tt [(false, (.sl (.sl .i)))]) := fnF P (C177 P lf) S108 108 [(false, (.sl (.pair .str (.pair .i .i)))), (false, (.sl (.sl Yp)))] [(false, (.sl (.sl .i)))] lf x
noncomputable def C108 (P : Program) (lf : Nat) : FuncId → Option Con := extC (C177 P lf) 108 (dataCon [(false, (.sl (.pair .str (.pair .i .i)))), (false, (.sl (.sl Yp)))] [(false, (.sl (.sl .i)))] (F108 P lf))
theorem F108_eq (lf : Nat) (a0 : Yf) (a1 : (List Yt)) : F108 Tryz.prog lf (a0, a1) =
  iter lf (fun y44 : ((List (List Int)) × Int) => cond (decide (y44.2 < (a0.length : Int))) (((getI a0 y44.2)).bind fun r45 => iter lf (fun y46 : ((List Int) × Int) => cond (decide (y46.2 < (a1.length : Int))) (((getI a1 y46.2)).bind fun r47 => iter lf (fun y48 : ((List Int) × Int) => cond (decide (y48.2 < (r47.length : Int))) (((getI r47 y48.2)).bind fun r49 => ((F176 Tryz.prog lf (r49.1, (r49.2.1, (r49.2.2.1, (r49.2.2.2.1, r49.2.2.2.2)))))).bind fun r50 => iter lf (fun y51 : ((List Int) × Int) => cond (decide (y51.2 < (r50.length : Int))) (((getI r50 y51.2)).bind fun r52 => jn (cond ((ByteArray.toList r49.2.2.2.1) == (ByteArray.toList r45.1)) (cond (decide (r52 > r45.2.1)) (some (.inl (decide (r52 ≤ r45.2.2)))) (some (.inl false))) (some (.inl false))) (fun y53 : Bool => cond y53 (((F177 Tryz.prog lf (y51.1, r52))).bind fun r54 => some (.inl (r54, (w64 (y51.2 + (1 : Int)))))) (some (.inl (y51.1, (w64 (y51.2 + (1 : Int)))))))) (some (.inr (.inl (y51.1, (w64 (y48.2 + (1 : Int)))))))) (y48.1, (0 : Int))) (some (.inr (.inl (y48.1, (w64 (y46.2 + (1 : Int)))))))) (y46.1, (0 : Int))) (outR (((appC y44.1 [y46.1])).bind fun r55 => some (.inl (r55, (w64 (y44.2 + (1 : Int)))))))) ([r45.2.1], (0 : Int))) (some (.inr y44.1))) (([] : List (List Int)), (0 : Int)) := by kernel_rfl
def S120 : FuncId → Sp := fun g => match g with
  | 128 => { nz := [(11, [12])] }
  | _ => {}
noncomputable def F120 (P : Program) (lf : Nat) (x : tt [(true, (.pair .str (.pair (.sl (.pair .str (.pair .i .i))) (.sl Yq))))]) : Option (tt [(false, (.sl (.sl .i)))]) := fnF P (C108 P lf) S120 120 [(true, (.pair .str (.pair (.sl (.pair .str (.pair .i .i))) (.sl Yq))))] [(false, (.sl (.sl .i)))] lf x
noncomputable def C120 (P : Program) (lf : Nat) : FuncId → Option Con := extC (C108 P lf) 120 (dataCon [(true, (.pair .str (.pair (.sl (.pair .str (.pair .i .i))) (.sl Yq))))] [(false, (.sl (.sl .i)))] (F120 P lf))
theorem F120_eq (lf : Nat) (a0 : ByteArray) (a1 : Yf) (a2 : Yr) : F120 Tryz.prog lf (a0, (a1, a2)) =
  ((F109 Tryz.prog lf (a0, (a1, a2)))).bind fun r5 => ((F108 Tryz.prog lf (a1, r5))).bind fun r6 => some r6 := by kernel_rfl
def S119 : FuncId → Sp := fun g => match g with
  | 119 => { loops := [(3, [(.slot 3, .dat .i), (.slot 8, .dat .i)])] }
  | 128 => { nz := [(11, [12])] }
  | _ => {}
noncomputable def F119 (P : Program) (lf : Nat) (x : tt [(false, (.sl (.sl .i)))]) : Option (tt [(false, .i)]) := fnF P (C120 P lf) S119 119 [(false, (.sl (.sl .i)))] [(false, .i)] lf x
noncomputable def C119 (P : Program) (lf : Nat) : FuncId → Option Con := extC (C120 P lf) 119 (dataCon [(false, (.sl (.sl .i)))] [(false, .i)] (F119 P lf))
theorem F119_eq (lf : Nat) (a0 : (List (List Int))) : F119 Tryz.prog lf a0 =
  iter lf (fun y4 : (Int × Int) => cond (decide (y4.2 < (a0.length : Int))) (((getI a0 y4.2)).bind fun r5 => some (.inl ((if (4001 : Int) < (w64 (y4.1 * (r5.length : Int))) then (4001 : Int) else (w64 (y4.1 * (r5.length : Int)))), (w64 (y4.2 + (1 : Int)))))) (some (.inr y4.1))) ((1 : Int), (0 : Int)) := by kernel_rfl
def S32 : FuncId → Sp := fun g => match g with
  | 32 => { joins := [(11, [(.slot 45, .dat .bool)]), (6, [(.slot 24, .dat .bool)])], loops := [(16, [(.slot 54, .dat .i)]), (8, [(.slot 28, .dat .i)])] }
  | 128 => { nz := [(11, [12])] }
  | _ => {}
noncomputable def F32 (P : Program) (lf : Nat) (x : tt [(true, (.pair .str (.pair (.sl (.pair .str (.pair .i .i))) (.sl Yq))))]) : Option (tt [(false, .i)]) := fnF P (C119 P lf) S32 32 [(true, (.pair .str (.pair (.sl (.pair .str (.pair .i .i))) (.sl Yq))))] [(false, .i)] lf x
noncomputable def C32 (P : Program) (lf : Nat) : FuncId → Option Con := extC (C119 P lf) 32 (dataCon [(true, (.pair .str (.pair (.sl (.pair .str (.pair .i .i))) (.sl Yq))))] [(false, .i)] (F32 P lf))
theorem F32_eq (lf : Nat) (a0 : ByteArray) (a1 : Yf) (a2 : Yr) : F32 Tryz.prog lf (a0, (a1, a2)) =
  ((F99 Tryz.prog lf a0)).bind fun r15 => cond (!r15) (some (40 : Int)) (cond (decide ((a1.length : Int) = (0 : Int))) (some (43 : Int)) (jn (cond (decide ((a1.length : Int) > (6 : Int))) (some (.inl true)) (some (.inl (decide ((a2.length : Int) > (12 : Int)))))) (fun y16 : Bool => cond y16 (some (2 : Int)) (iter lf (fun y17 : Int => cond (decide (y17 < (a1.length : Int))) (((getI a1 y17)).bind fun r18 => jn (((F99 Tryz.prog lf r18.1)).bind fun r19 => cond (!r19) (some (.inl true)) (((F111 Tryz.prog lf (a1, r18.1))).bind fun r20 => some (.inl (decide (r20 < y17))))) (fun y21 : Bool => cond y21 (some (.inr (40 : Int))) (((F117 Tryz.prog lf (r18.2.1, r18.2.2))).bind fun r22 => cond (!r22) (some (.inr (44 : Int))) (some (.inl (w64 (y17 + (1 : Int)))))))) (outR (iter lf (fun y23 : Int => cond (decide (y23 < (a2.length : Int))) (((F118 Tryz.prog lf ((a0, (a1, a2)), y23))).bind fun r24 => cond (!(decide (r24 = (0 : Int)))) (some (.inr r24)) (some (.inl (w64 (y23 + (1 : Int)))))) (outR (((F120 Tryz.prog lf (a0, (a1, a2)))).bind fun r25 => ((F119 Tryz.prog lf r25)).bind fun r26 => cond (decide (r26 > (4000 : Int))) (some (2 : Int)) (some (0 : Int))))) (0 : Int)))) (0 : Int))))) := by kernel_rfl
def S33 : FuncId → Sp := fun g => match g with
  | 33 => { loops := [(4, [(.slot 13, .dat .i)])] }
  | 128 => { nz := [(11, [12])] }
  | _ => {}
noncomputable def F33 (P : Program) (lf : Nat) (x : tt [(false, (.sl .str)), (false, (.sl .str))]) : Option (tt [(false, .bool)]) := fnF P (C32 P lf) S33 33 [(false, (.sl .str)), (false, (.sl .str))] [(false, .bool)] lf x
noncomputable def C33 (P : Program) (lf : Nat) : FuncId → Option Con := extC (C32 P lf) 33 (dataCon [(false, (.sl .str)), (false, (.sl .str))] [(false, .bool)] (F33 P lf))
end Go.K
namespace Go.K
open Go.Sl Go.Sx Go.Proofs
noncomputable def G126 (lf : Nat) (x : (Int × (Int × Int))) : Option (Bool) :=
  cond (decide (x.2.1 ≤ x.1)) (some (decide (x.1 ≤ x.2.2))) (some false)
theorem F126_G (lf : Nat) (x : (Int × (Int × Int))) : F126 Tryz.prog lf x = G126 lf x := (F126_eq lf x.1 x.2.1 x.2.2).trans (by
  unfold G126
  (try simp only [agree_self, Lib.toList_data]); first | done | rfl)
noncomputable def G168 (lf : Nat) (x : Unit) : Option ((List ByteArray)) :=
  some [(bts [99, 111, 100, 101]), (bts [102, 97, 99, 116]), (bts [114, 117, 108, 101]), (bts [119, 104, 101, 110]), (bts [109, 117, 115, 116]), (bts [117, 110, 108, 101, 115, 115]), (bts [97, 110, 100]), (bts [111, 114]), (bts [110, 111, 116]), (bts [116, 114, 117, 101])]
theorem F168_G (lf : Nat) (x : Unit) : F168 Tryz.prog lf x = G168 lf x := (F168_eq lf ).trans (by
  unfold G168
  (try simp only [agree_self, Lib.toList_data]); first | done | rfl)
noncomputable def G84 (lf : Nat) (x : ((List ByteArray) × ByteArray)) : Option (Bool) :=
  iter lf (fun y4 : Int => cond (decide (y4 < (x.1.length : Int))) (((getI x.1 y4)).bind fun r5 => cond (r5.data.toList == x.2.data.toList) (some (.inr true)) (some (.inl (w64 (y4 + (1 : Int)))))) (some (.inr false))) (0 : Int)
theorem F84_G (lf : Nat) (x : ((List ByteArray) × ByteArray)) : F84 Tryz.prog lf x = G84 lf x := (F84_eq lf x.1 x.2).trans (by
  unfold G84
  (try simp only [agree_self, Lib.toList_data]); first | done | rfl)
noncomputable def G99 (lf : Nat) (x : ByteArray) : Option (Bool) :=
  jn (cond (decide ((x.size : Int) < (1 : Int))) (some (.inl true)) (cond (decide ((x.size : Int) > (12 : Int))) (some (.inl true)) (((G168 lf ())).bind fun r12 => ((G84 lf (r12, x))).bind fun r13 => some (.inl r13)))) (fun y14 : Bool => cond y14 (some false) (iter lf (fun y15 : Int => cond (decide (y15 < (x.size : Int))) (jn (((byteAt x y15)).bind fun r16 => cond (decide ((97 : Int) ≤ r16)) (((byteAt x y15)).bind fun r17 => some (.inl (decide (r17 ≤ (122 : Int))))) (some (.inl false))) (fun y18 : Bool => jn (((byteAt x y15)).bind fun r19 => cond (decide ((48 : Int) ≤ r19)) (((byteAt x y15)).bind fun r20 => some (.inl (decide (r20 ≤ (57 : Int))))) (some (.inl false))) (fun y21 : Bool => jn (cond (!y18) (cond (!y21) (some (.inl true)) (some (.inl (decide (y15 = (0 : Int)))))) (some (.inl false))) (fun y22 : Bool => cond y22 (some (.inr false)) (some (.inl (w64 (y15 + (1 : Int))))))))) (some (.inr true))) (0 : Int)))
theorem F99_G (lf : Nat) (x : ByteArray) : F99 Tryz.prog lf x = G99 lf x := (F99_eq lf x).trans (by
  unfold G99
  (try simp only [F84_G, F168_G, agree_self, Lib.toList_data]); first | done | rfl)
noncomputable def G117 (lf : Nat) (x : (Int × Int)) : Option (Bool) :=
  cond (decide ((-1000000000000 : Int) ≤ x.1)) (cond (decide (x.1 ≤ x.2)) (some (decide (x.2 ≤ (1000000000000 : Int)))) (some false)) (some false)
theorem F117_G (lf : Nat) (x : (Int × Int)) : F117 Tryz.prog lf x = G117 lf x := (F117_eq lf x.1 x.2).trans (by
  unfold G117
  (try simp only [agree_self, Lib.toList_data]); first | done | rfl)
noncomputable def G98 (lf : Nat) (x : Int) : Option (Bool) :=
  cond (decide (x = (1 : Int))) (some true) (cond (decide (x = (2 : Int))) (some true) (some (decide (x = (3 : Int)))))
theorem F98_G (lf : Nat) (x : Int) : F98 Tryz.prog lf x = G98 lf x := (F98_eq lf x).trans (by
  unfold G98
  (try simp only [agree_self, Lib.toList_data]); first | done | rfl)
noncomputable def G97 (lf : Nat) (x : ((Int × (Int × (Int × (ByteArray × Int)))) × Int)) : Option (Bool) :=
  ((G126 lf (x.1.2.1, ((0 : Int), (w64 (x.2 - (1 : Int))))))).bind fun r12 => ((G126 lf (x.1.2.2.1, ((0 : Int), (w64 (x.2 - (1 : Int))))))).bind fun r13 => jn (cond (x.1.2.2.2.1.data.toList == ([] : List UInt8)) (some (.inl (decide (x.1.2.2.2.2 = (0 : Int))))) (some (.inl false))) (fun y14 : Bool => cond (decide (x.1.1 = (0 : Int))) (some ((decide (x.1.1 = (0 : Int))) && ((decide (x.1.2.1 = (0 : Int))) && ((decide (x.1.2.2.1 = (0 : Int))) && ((x.1.2.2.2.1.data.toList == ([] : List UInt8)) && ((decide (x.1.2.2.2.2 = (0 : Int))) && true)))))) (jn (cond (decide (x.1.1 = (1 : Int))) (some (.inl (decide (x.1.1 = (1 : Int))))) (cond (decide (x.1.1 = (2 : Int))) (some (.inl (decide (x.1.1 = (2 : Int))))) (some (.inl (decide (x.1.1 = (3 : Int))))))) (fun y15 : Bool => cond y15 (cond (decide (x.1.2.1 = (0 : Int))) (cond (decide (x.1.2.2.1 = (0 : Int))) (((G126 lf (x.1.2.2.2.2, ((-1000000000000 : Int), (1000000000000 : Int))))).bind fun r16 => some r16) (some false)) (some false)) (cond (decide (x.1.1 = (4 : Int))) (cond y14 (cond r12 (some (decide (x.1.2.2.1 = (0 : Int)))) (some false)) (some false)) (jn (cond (decide (x.1.1 = (5 : Int))) (some (.inl (decide (x.1.1 = (5 : Int))))) (some (.inl (decide (x.1.1 = (6 : Int)))))) (fun y17 : Bool => cond y17 (cond y14 (cond r12 (some r13) (some false)) (some false)) (some false)))))))
theorem F97_G (lf : Nat) (x : ((Int × (Int × (Int × (ByteArray × Int)))) × Int)) : F97 Tryz.prog lf x = G97 lf x := (F97_eq lf x.1.1 x.1.2.1 x.1.2.2.1 x.1.2.2.2.1 x.1.2.2.2.2 x.2).trans (by
  unfold G97
  (try simp only [F126_G, agree_self, Lib.toList_data]); first | done | rfl)
noncomputable def G111 (lf : Nat) (x : (Yf × ByteArray)) : Option (Int) :=
  iter lf (fun y4 : Int => cond (decide (y4 < (x.1.length : Int))) (((getI x.1 y4)).bind fun r5 => cond (r5.1.data.toList == x.2.data.toList) (some (.inr y4)) (some (.inl (w64 (y4 + (1 : Int)))))) (some (.inr (-1 : Int)))) (0 : Int)
theorem F111_G (lf : Nat) (x : (Yf × ByteArray)) : F111 Tryz.prog lf x = G111 lf x := (F111_eq lf x.1 x.2).trans (by
  unfold G111
  (try simp only [agree_self, Lib.toList_data]); first | done | rfl)
noncomputable def G30 (lf : Nat) (x : (Yf × Yt)) : Option (Int) :=
  cond (decide ((x.2.length : Int) > (30 : Int))) (some (2 : Int)) (cond (decide ((x.2.length : Int) = (0 : Int))) (some (41 : Int)) (iter lf (fun y8 : Int => cond (decide (y8 < (x.2.length : Int))) (((getI x.2 y8)).bind fun r9 => ((G97 lf ((r9.1, (r9.2.1, (r9.2.2.1, (r9.2.2.2.1, r9.2.2.2.2)))), y8))).bind fun r10 => cond (!r10) (some (.inr (41 : Int))) (jn (((G98 lf r9.1)).bind fun r11 => cond r11 (((G111 lf (x.1, r9.2.2.2.1))).bind fun r12 => some (.inl (decide (r12 < (0 : Int))))) (some (.inl false))) (fun y13 : Bool => cond y13 (some (.inr (40 : Int))) (some (.inl (w64 (y8 + (1 : Int)))))))) (some (.inr (0 : Int)))) (0 : Int)))
theorem F30_G (lf : Nat) (x : (Yf × Yt)) : F30 Tryz.prog lf x = G30 lf x := (F30_eq lf x.1 x.2).trans (by
  unfold G30
  (try simp only [F97_G, F98_G, F111_G, agree_self, Lib.toList_data]); first | done | rfl)
noncomputable def G37 (lf : Nat) (x : ((ByteArray × (Yf × Yr)) × ByteArray)) : Option (Int) :=
  iter lf (fun y6 : Int => cond (decide (y6 < (x.1.2.2.length : Int))) (((getI x.1.2.2 y6)).bind fun r7 => cond (r7.1.data.toList == x.2.data.toList) (some (.inr y6)) (some (.inl (w64 (y6 + (1 : Int)))))) (some (.inr (-1 : Int)))) (0 : Int)
theorem F37_G (lf : Nat) (x : ((ByteArray × (Yf × Yr)) × ByteArray)) : F37 Tryz.prog lf x = G37 lf x := (F37_eq lf x.1.1 x.1.2.1 x.1.2.2 x.2).trans (by
  unfold G37
  (try simp only [agree_self, Lib.toList_data]); first | done | rfl)
noncomputable def G118 (lf : Nat) (x : ((ByteArray × (Yf × Yr)) × Int)) : Option (Int) :=
  ((getI x.1.2.2 x.2)).bind fun r18 => jn (((G99 lf r18.1)).bind fun r19 => cond (!r19) (some (.inl true)) (((G37 lf ((x.1.1, (x.1.2.1, x.1.2.2)), r18.1))).bind fun r20 => some (.inl (decide (r20 < x.2))))) (fun y21 : Bool => cond y21 (some (40 : Int)) (jn (cond (decide (r18.2.1 < (0 : Int))) (some (.inl true)) (cond (decide (r18.2.1 > r18.2.2.1)) (some (.inl true)) (some (.inl (decide (r18.2.2.1 > (100000 : Int))))))) (fun y22 : Bool => cond y22 (some (45 : Int)) (((G30 lf (x.1.2.1, r18.2.2.2.1))).bind fun r23 => jn (cond (decide (r23 = (0 : Int))) (((G30 lf (x.1.2.1, r18.2.2.2.2.1))).bind fun r24 => some (.inl r24)) (some (.inl r23))) (fun y25 : Int => cond (!(decide (y25 = (0 : Int)))) (some y25) (cond (decide ((r18.2.2.2.2.2.length : Int) > (6 : Int))) (some (2 : Int)) (iter lf (fun y26 : Int => cond (decide (y26 < (r18.2.2.2.2.2.length : Int))) (((getI r18.2.2.2.2.2 y26)).bind fun r27 => ((G37 lf ((x.1.1, (x.1.2.1, x.1.2.2)), r27))).bind fun r28 => jn (cond (decide (r28 < (0 : Int))) (some (.inl true)) (cond (decide (r28 ≥ x.2)) (some (.inl true)) (((subI r18.2.2.2.2.2 (0 : Int) y26)).bind fun r29 => ((G84 lf (r29, r27))).bind fun r30 => some (.inl r30)))) (fun y31 : Bool => cond y31 (some (.inr (42 : Int))) (some (.inl (w64 (y26 + (1 : Int))))))) (some (.inr (0 : Int)))) (0 : Int))))))))
theorem F118_G (lf : Nat) (x : ((ByteArray × (Yf × Yr)) × Int)) : F118 Tryz.prog lf x = G118 lf x := (F118_eq lf x.1.1 x.1.2.1 x.1.2.2 x.2).trans (by
  unfold G118
  (try simp only [F30_G, F37_G, F84_G, F99_G, agree_self, Lib.toList_data]); first | done | rfl)
noncomputable def G109 (lf : Nat) (x : (ByteArray × (Yf × Yr))) : Option ((List Yt)) :=
  iter lf (fun y7 : ((List Yt) × Int) => cond (decide (y7.2 < (x.2.2.length : Int))) (((getI x.2.2 y7.2)).bind fun r8 => ((appC y7.1 [r8.2.2.2.1, r8.2.2.2.2.1])).bind fun r9 => some (.inl (r9, (w64 (y7.2 + (1 : Int)))))) (some (.inr y7.1))) (([] : List Yt), (0 : Int))
theorem F109_G (lf : Nat) (x : (ByteArray × (Yf × Yr))) : F109 Tryz.prog lf x = G109 lf x := (F109_eq lf x.1 x.2.1 x.2.2).trans (by
  unfold G109
  (try simp only [agree_self, Lib.toList_data]); first | done | rfl)
noncomputable def G176 (lf : Nat) (x : (Int × (Int × (Int × (ByteArray × Int))))) : Option ((List Int)) :=
  cond (decide (x.1 = (1 : Int))) (some [x.2.2.2.2]) (cond (decide (x.1 = (2 : Int))) (some [(w64 (x.2.2.2.2 + (1 : Int)))]) (cond (decide (x.1 = (3 : Int))) (some [x.2.2.2.2, (w64 (x.2.2.2.2 + (1 : Int)))]) (some ([] : List Int))))
theorem F176_G (lf : Nat) (x : (Int × (Int × (Int × (ByteArray × Int))))) : F176 Tryz.prog lf x = G176 lf x := (F176_eq lf x.1 x.2.1 x.2.2.1 x.2.2.2.1 x.2.2.2.2).trans (by
  unfold G176
  (try simp only [agree_self, Lib.toList_data]); first | done | rfl)
noncomputable def G177 (lf : Nat) (x : ((List Int) × Int)) : Option ((List Int)) :=
  jn (iter lf (fun y12 : Int => cond (decide (y12 > (0 : Int))) (((getI x.1 (w64 (y12 - (1 : Int))))).bind fun r13 => cond (decide (r13 ≥ x.2)) (some (.inl (w64 (y12 - (1 : Int))))) (some (.inr (.inl y12)))) (some (.inr (.inl y12)))) (x.1.length : Int)) (fun y14 : Int => jn (cond (decide (y14 < (x.1.length : Int))) (((getI x.1 y14)).bind fun r15 => some (.inl (decide (r15 = x.2)))) (some (.inl false))) (fun y16 : Bool => cond y16 (some x.1) (((subI x.1 (0 : Int) y14)).bind fun r17 => ((appC ([] : List Int) r17)).bind fun r18 => ((appC r18 [x.2])).bind fun r19 => ((subI x.1 y14 (x.1.length : Int))).bind fun r20 => ((appC r19 r20)).bind fun r21 => some r21)))
theorem F177_G (lf : Nat) (x : ((List Int) × Int)) : F177 Tryz.prog lf x = G177 lf x := (F177_eq lf x.1 x.2).trans (by
  unfold G177
  (try simp only [agree_self, Lib.toList_data]); first | done | rfl)
noncomputable def G108 (lf : Nat) (x : (Yf × (List Yt))) : Option ((List (List Int))) :=
  iter lf (fun y44 : ((List (List Int)) × Int) => cond (decide (y44.2 < (x.1.length : Int))) (((getI x.1 y44.2)).bind fun r45 => iter lf (fun y46 : ((List Int) × Int) => cond (decide (y46.2 < (x.2.length : Int))) (((getI x.2 y46.2)).bind fun r47 => iter lf (fun y48 : ((List Int) × Int) => cond (decide (y48.2 < (r47.length : Int))) (((getI r47 y48.2)).bind fun r49 => ((G176 lf (r49.1, (r49.2.1, (r49.2.2.1, (r49.2.2.2.1, r49.2.2.2.2)))))).bind fun r50 => iter lf (fun y51 : ((List Int) × Int) => cond (decide (y51.2 < (r50.length : Int))) (((getI r50 y51.2)).bind fun r52 => jn (cond (r49.2.2.2.1.data.toList == r45.1.data.toList) (cond (decide (r52 > r45.2.1)) (some (.inl (decide (r52 ≤ r45.2.2)))) (some (.inl false))) (some (.inl false))) (fun y53 : Bool => cond y53 (((G177 lf (y51.1, r52))).bind fun r54 => some (.inl (r54, (w64 (y51.2 + (1 : Int)))))) (some (.inl (y51.1, (w64 (y51.2 + (1 : Int)))))))) (some (.inr (.inl (y51.1, (w64 (y48.2 + (1 : Int)))))))) (y48.1, (0 : Int))) (some (.inr (.inl (y48.1, (w64 (y46.2 + (1 : Int)))))))) (y46.1, (0 : Int))) (outR (((appC y44.1 [y46.1])).bind fun r55 => some (.inl (r55, (w64 (y44.2 + (1 : Int)))))))) ([r45.2.1], (0 : Int))) (some (.inr y44.1))) (([] : List (List Int)), (0 : Int))
theorem F108_G (lf : Nat) (x : (Yf × (List Yt))) : F108 Tryz.prog lf x = G108 lf x := (F108_eq lf x.1 x.2).trans (by
  unfold G108
  (try simp only [F176_G, F177_G, agree_self, Lib.toList_data]); first | done | rfl)
noncomputable def G120 (lf : Nat) (x : (ByteArray × (Yf × Yr))) : Option ((List (List Int))) :=
  ((G109 lf (x.1, (x.2.1, x.2.2)))).bind fun r5 => ((G108 lf (x.2.1, r5))).bind fun r6 => some r6
theorem F120_G (lf : Nat) (x : (ByteArray × (Yf × Yr))) : F120 Tryz.prog lf x = G120 lf x := (F120_eq lf x.1 x.2.1 x.2.2).trans (by
  unfold G120
  (try simp only [F108_G, F109_G, agree_self, Lib.toList_data]); first | done | rfl)
noncomputable def G119 (lf : Nat) (x : (List (List Int))) : Option (Int) :=
  iter lf (fun y4 : (Int × Int) => cond (decide (y4.2 < (x.length : Int))) (((getI x y4.2)).bind fun r5 => some (.inl ((if (4001 : Int) < (w64 (y4.1 * (r5.length : Int))) then (4001 : Int) else (w64 (y4.1 * (r5.length : Int)))), (w64 (y4.2 + (1 : Int)))))) (some (.inr y4.1))) ((1 : Int), (0 : Int))
theorem F119_G (lf : Nat) (x : (List (List Int))) : F119 Tryz.prog lf x = G119 lf x := (F119_eq lf x).trans (by
  unfold G119
  (try simp only [agree_self, Lib.toList_data]); first | done | rfl)
noncomputable def G32 (lf : Nat) (x : (ByteArray × (Yf × Yr))) : Option (Int) :=
  ((G99 lf x.1)).bind fun r15 => cond (!r15) (some (40 : Int)) (cond (decide ((x.2.1.length : Int) = (0 : Int))) (some (43 : Int)) (jn (cond (decide ((x.2.1.length : Int) > (6 : Int))) (some (.inl true)) (some (.inl (decide ((x.2.2.length : Int) > (12 : Int)))))) (fun y16 : Bool => cond y16 (some (2 : Int)) (iter lf (fun y17 : Int => cond (decide (y17 < (x.2.1.length : Int))) (((getI x.2.1 y17)).bind fun r18 => jn (((G99 lf r18.1)).bind fun r19 => cond (!r19) (some (.inl true)) (((G111 lf (x.2.1, r18.1))).bind fun r20 => some (.inl (decide (r20 < y17))))) (fun y21 : Bool => cond y21 (some (.inr (40 : Int))) (((G117 lf (r18.2.1, r18.2.2))).bind fun r22 => cond (!r22) (some (.inr (44 : Int))) (some (.inl (w64 (y17 + (1 : Int)))))))) (outR (iter lf (fun y23 : Int => cond (decide (y23 < (x.2.2.length : Int))) (((G118 lf ((x.1, (x.2.1, x.2.2)), y23))).bind fun r24 => cond (!(decide (r24 = (0 : Int)))) (some (.inr r24)) (some (.inl (w64 (y23 + (1 : Int)))))) (outR (((G120 lf (x.1, (x.2.1, x.2.2)))).bind fun r25 => ((G119 lf r25)).bind fun r26 => cond (decide (r26 > (4000 : Int))) (some (2 : Int)) (some (0 : Int))))) (0 : Int)))) (0 : Int)))))
theorem F32_G (lf : Nat) (x : (ByteArray × (Yf × Yr))) : F32 Tryz.prog lf x = G32 lf x := (F32_eq lf x.1 x.2.1 x.2.2).trans (by
  unfold G32
  (try simp only [F99_G, F111_G, F117_G, F118_G, F119_G, F120_G, agree_self, Lib.toList_data]); first | done | rfl)
end Go.K
namespace Go.K
open Go.Sl Go.Sx Go.Proofs
noncomputable def G107 (lf : Nat) (x : ((ByteArray × (Yf × Yr)) × Yf)) : Option (Bool) :=
  cond (!(decide ((x.2.length : Int) = (x.1.2.1.length : Int)))) (some false) (iter lf (fun y8 : Int => cond (decide (y8 < (x.2.length : Int))) (((getI x.2 y8)).bind fun r9 => ((getI x.1.2.1 y8)).bind fun r10 => jn (cond (!(r9.1.data.toList == r10.1.data.toList)) (some (.inl true)) (cond (decide (r9.2.1 > r9.2.2)) (some (.inl true)) (cond (decide (r9.2.1 < r10.2.1)) (some (.inl true)) (some (.inl (decide (r9.2.2 > r10.2.2))))))) (fun y11 : Bool => cond y11 (some (.inr false)) (some (.inl (w64 (y8 + (1 : Int))))))) (some (.inr true))) (0 : Int))
noncomputable def G56 (lf : Nat) (x : (List (List Int))) : Option ((List (List Int))) :=
  iter lf (fun y14 : ((List (List Int)) × Int) => cond (decide (y14.2 < (x.length : Int))) (((getI x y14.2)).bind fun r15 => iter lf (fun y16 : ((List (List Int)) × Int) => cond (decide (y16.2 < (y14.1.length : Int))) (((getI y14.1 y16.2)).bind fun r17 => ((getI y14.1 y16.2)).bind fun r18 => iter lf (fun y19 : ((List (List Int)) × Int) => cond (decide (y19.2 < (r15.length : Int))) (((getI r15 y19.2)).bind fun r20 => ((appC ([] : List Int) r18)).bind fun r21 => ((appC r21 [r20])).bind fun r22 => ((appC y19.1 [r22])).bind fun r23 => some (.inl (r23, (w64 (y19.2 + (1 : Int)))))) (some (.inr (.inl (y19.1, (w64 (y16.2 + (1 : Int)))))))) (y16.1, (0 : Int))) (some (.inr (.inl (y16.1, (w64 (y14.2 + (1 : Int)))))))) (([] : List (List Int)), (0 : Int))) (some (.inr y14.1))) ([([] : List Int)], (0 : Int))
noncomputable def G57 (lf : Nat) (x : (Yf × (Yt × (List Int)))) : Option (Bool) :=
  ((mkC (x.2.1.length : Int) false)).bind fun r95 => iter lf (fun y96 : (Int × (List Bool)) => cond (decide (y96.1 < (x.2.1.length : Int))) (jn (((getI x.2.1 y96.1)).bind fun r97 => jn (((G98 lf r97.1)).bind fun r98 => cond r98 (((G111 lf (x.1, r97.2.2.2.1))).bind fun r99 => ((getI x.2.2 r99)).bind fun r100 => some (.inl r100)) (some (.inl (0 : Int)))) (fun y101 : Int => cond (decide (r97.1 = (0 : Int))) (((getI y96.2 y96.1)).bind fun r102 => ((getI y96.2 y96.1)).bind fun r103 => ((setI y96.2 y96.1 true)).bind fun r104 => some (.inl r104)) (cond (decide (r97.1 = (1 : Int))) (((getI y96.2 y96.1)).bind fun r105 => ((getI y96.2 y96.1)).bind fun r106 => ((setI y96.2 y96.1 (decide (y101 < r97.2.2.2.2)))).bind fun r107 => some (.inl r107)) (cond (decide (r97.1 = (2 : Int))) (((getI y96.2 y96.1)).bind fun r108 => ((getI y96.2 y96.1)).bind fun r109 => ((setI y96.2 y96.1 (decide (y101 ≤ r97.2.2.2.2)))).bind fun r110 => some (.inl r110)) (cond (decide (r97.1 = (3 : Int))) (((getI y96.2 y96.1)).bind fun r111 => ((getI y96.2 y96.1)).bind fun r112 => ((setI y96.2 y96.1 (decide (y101 = r97.2.2.2.2)))).bind fun r113 => some (.inl r113)) (cond (decide (r97.1 = (4 : Int))) (((getI y96.2 r97.2.1)).bind fun r114 => ((getI y96.2 r97.2.1)).bind fun r115 => ((getI y96.2 y96.1)).bind fun r116 => ((getI y96.2 y96.1)).bind fun r117 => ((setI y96.2 y96.1 (!r115))).bind fun r118 => some (.inl r118)) (cond (decide (r97.1 = (5 : Int))) (((getI y96.2 r97.2.1)).bind fun r119 => ((getI y96.2 r97.2.1)).bind fun r120 => cond r120 (((getI y96.2 r97.2.2.1)).bind fun r121 => ((getI y96.2 r97.2.2.1)).bind fun r122 => ((getI y96.2 y96.1)).bind fun r123 => ((getI y96.2 y96.1)).bind fun r124 => ((setI y96.2 y96.1 r122)).bind fun r125 => some (.inl r125)) (((getI y96.2 y96.1)).bind fun r126 => ((getI y96.2 y96.1)).bind fun r127 => ((setI y96.2 y96.1 false)).bind fun r128 => some (.inl r128))) (((getI y96.2 r97.2.1)).bind fun r129 => ((getI y96.2 r97.2.1)).bind fun r130 => cond r130 (((getI y96.2 y96.1)).bind fun r131 => ((getI y96.2 y96.1)).bind fun r132 => ((setI y96.2 y96.1 true)).bind fun r133 => some (.inl r133)) (((getI y96.2 r97.2.2.1)).bind fun r134 => ((getI y96.2 r97.2.2.1)).bind fun r135 => ((getI y96.2 y96.1)).bind fun r136 => ((getI y96.2 y96.1)).bind fun r137 => ((setI y96.2 y96.1 r135)).bind fun r138 => some (.inl r138)))))))))) (fun y139 : (List Bool) => some (.inl ((w64 (y96.1 + (1 : Int))), y139)))) (outR (((getI y96.2 (w64 ((y96.2.length : Int) - (1 : Int))))).bind fun r140 => ((getI y96.2 (w64 ((y96.2.length : Int) - (1 : Int))))).bind fun r141 => some r141))) ((0 : Int), r95)
noncomputable def G40 (lf : Nat) (x : ((ByteArray × (Yf × Yr)) × (Int × (List Int)))) : Option ((List Bool)) :=
  iter lf (fun y18 : ((List Bool) × Int) => cond (decide (y18.2 < (x.1.2.2.length : Int))) (((getI x.1.2.2 y18.2)).bind fun r19 => jn (((G126 lf (x.2.1, (r19.2.1, r19.2.2.1)))).bind fun r20 => cond r20 (((G57 lf (x.1.2.1, (r19.2.2.2.1, x.2.2)))).bind fun r21 => some (.inl r21)) (some (.inl false))) (fun y22 : Bool => iter lf (fun y23 : (Bool × Int) => cond (decide (y23.2 < (r19.2.2.2.2.2.length : Int))) (((getI r19.2.2.2.2.2 y23.2)).bind fun r24 => ((G37 lf ((x.1.1, (x.1.2.1, x.1.2.2)), r24))).bind fun r25 => ((getI y18.1 r25)).bind fun r26 => ((getI y18.1 r25)).bind fun r27 => cond r27 (some (.inl (false, (w64 (y23.2 + (1 : Int)))))) (some (.inl (y23.1, (w64 (y23.2 + (1 : Int))))))) (outR (((appC y18.1 [y23.1])).bind fun r28 => some (.inl (r28, (w64 (y18.2 + (1 : Int)))))))) (y22, (0 : Int)))) (some (.inr y18.1))) (([] : List Bool), (0 : Int))
noncomputable def G28 (lf : Nat) (x : ((List Bool) × Int)) : Option (Bool) :=
  iter lf (fun y5 : Int => cond (decide (y5 < (x.1.length : Int))) (((getI x.1 y5)).bind fun r6 => jn (cond (!r6) (some (.inl (!(decide (y5 = x.2))))) (some (.inl false))) (fun y7 : Bool => cond y7 (some (.inr false)) (some (.inl (w64 (y5 + (1 : Int))))))) (some (.inr true))) (0 : Int)
noncomputable def G148 (lf : Nat) (x : (Bool × Bool)) : Option (Int) :=
  jn (cond x.1 (some (.inl x.2)) (some (.inl false))) (fun y3 : Bool => cond y3 (some (2 : Int)) (cond x.1 (some (1 : Int)) (some (0 : Int))))
noncomputable def G149 (lf : Nat) (x : ((ByteArray × (Yf × Yr)) × (Int × (Bool × (Int × Yf))))) : Option (Int) :=
  ((G32 lf (x.1.1, (x.1.2.1, x.1.2.2)))).bind fun r12 => cond (!(decide (r12 = (0 : Int)))) (some r12) (jn (cond x.2.2.1 (((G126 lf (x.2.1, ((0 : Int), (w64 ((x.1.2.2.length : Int) - (1 : Int))))))).bind fun r13 => some (.inl (!r13))) (some (.inl false))) (fun y14 : Bool => cond y14 (some (47 : Int)) (((G126 lf (x.2.2.2.1, ((0 : Int), (100000 : Int))))).bind fun r15 => cond (!r15) (some (45 : Int)) (((G107 lf ((x.1.1, (x.1.2.1, x.1.2.2)), x.2.2.2.2))).bind fun r16 => cond (!r16) (some (44 : Int)) (some (0 : Int))))))
noncomputable def G27 (lf : Nat) (x : ((ByteArray × (Yf × Yr)) × Yf)) : Option ((List (List Int))) :=
  ((G109 lf (x.1.1, (x.1.2.1, x.1.2.2)))).bind fun r7 => ((G108 lf (x.2, r7))).bind fun r8 => ((G56 lf r8)).bind fun r9 => some r9
noncomputable def G150 (lf : Nat) (x : Bool) : Option (Int) :=
  cond x (some (0 : Int)) (some (1 : Int))
end Go.K
namespace Go.K
open Go.Sl Go.Sx Go.Proofs
noncomputable def G45 (lf : Nat) (x : ((List (Int × (Int × Int))) × (List (Int × (Int × Int))))) : Option (Bool) :=
  cond (!(decide ((x.1.length : Int) = (x.2.length : Int)))) (some false) (iter lf (fun y5 : Int => cond (decide (y5 < (x.1.length : Int))) (((getI x.1 y5)).bind fun r6 => ((getI x.2 y5)).bind fun r7 => cond (!((decide (r6.1 = r7.1)) && ((decide (r6.2.1 = r7.2.1)) && ((decide (r6.2.2 = r7.2.2)) && true)))) (some (.inr false)) (some (.inl (w64 (y5 + (1 : Int)))))) (some (.inr true))) (0 : Int))
end Go.K
namespace Go.K
open Go.Sl Go.Sx Go.Proofs
noncomputable def G26 (lf : Nat) (x : ((ByteArray × (Yf × Yr)) × (Int × (List Int)))) : Option ((List Bool)) :=
  iter lf (fun y41 : ((List Bool) × Int) => cond (decide (y41.2 < (x.1.2.2.length : Int))) (((getI x.1.2.2 y41.2)).bind fun r42 => jn (((G126 lf (x.2.1, (r42.2.1, r42.2.2.1)))).bind fun r43 => cond r43 (((G57 lf (x.1.2.1, (r42.2.2.2.1, x.2.2)))).bind fun r44 => some (.inl r44)) (some (.inl false))) (fun y45 : Bool => iter lf (fun y46 : (Bool × Int) => cond (decide (y46.2 < (r42.2.2.2.2.2.length : Int))) (((getI r42.2.2.2.2.2 y46.2)).bind fun r47 => ((G37 lf ((x.1.1, (x.1.2.1, x.1.2.2)), r47))).bind fun r48 => ((getI y41.1 r48)).bind fun r49 => ((getI y41.1 r48)).bind fun r50 => cond r50 (some (.inl (false, (w64 (y46.2 + (1 : Int)))))) (some (.inl (y46.1, (w64 (y46.2 + (1 : Int))))))) (outR (((appC y41.1 [y46.1])).bind fun r51 => some (.inl (r51, (w64 (y41.2 + (1 : Int)))))))) (y45, (0 : Int)))) (outR (iter lf (fun y52 : (Int × (List Bool)) => cond (decide (y52.1 < (x.1.2.2.length : Int))) (((getI x.1.2.2 y52.1)).bind fun r53 => ((getI y52.2 y52.1)).bind fun r54 => ((getI y52.2 y52.1)).bind fun r55 => cond (!r55) (((getI y52.2 y52.1)).bind fun r56 => ((getI y52.2 y52.1)).bind fun r57 => ((setI y52.2 y52.1 true)).bind fun r58 => some (.inl ((w64 (y52.1 + (1 : Int))), r58))) (((G57 lf (x.1.2.1, (r53.2.2.2.2.1, x.2.2)))).bind fun r59 => ((getI y52.2 y52.1)).bind fun r60 => ((getI y52.2 y52.1)).bind fun r61 => ((setI y52.2 y52.1 r59)).bind fun r62 => some (.inl ((w64 (y52.1 + (1 : Int))), r62)))) (some (.inr y52.2))) ((0 : Int), y41.1)))) (([] : List Bool), (0 : Int))
end Go.K
namespace Go.K
open Go.Sl Go.Sx Go.Proofs
theorem G126_in (a b c : Int) : G126 LF (a, (b, c)) = some (decide (b ≤ a ∧ a ≤ c)) := by
  unfold G126
  by_cases h1 : b ≤ a <;> by_cases h2 : a ≤ c <;> simp [h1, h2]
theorem G168_words : G168 LF () = some words10 := rfl
theorem G84_any (l : List ByteArray) (s : ByteArray) (hl : l.length < LF) : G84 LF (l, s) = some (l.any fun x => decide (x = s)) := by
  unfold G84
  refine (iter_find (fun x => decide (x = s)) (fun _ => true) l (some false) ?_ ?_ hl).trans ?_
  · intro i x hx
    have hi := lt_of_get hx
    simp only [dlt hi, cond_true, getI_nat hx, Option.bind_some, eqD, succ_W (Nat.lt_of_le_of_lt hi hl)]
    cases decide (x = s) <;> rfl
  · simp only [dnlt]; rfl
  · rw [← idx_any]; cases idx (fun x => decide (x = s)) l 0 <;> rfl
theorem G99_nm (s : ByteArray) : G99 LF s = some (nmB s) := by
  unfold G99
  simp only [G168_words, Option.bind_some, G84_any _ _ (show words10.length < LF by decide)]
  unfold nmB
  by_cases h1 : 1 ≤ s.size ∧ s.size ≤ 12
  · have hs : s.size < LF := by show s.size < 9223372036854775808; omega
    have e1 : decide ((s.size : Int) < 1) = false := decide_eq_false (by omega)
    have e2 : decide ((s.size : Int) > 12) = false := decide_eq_false (by omega)
    have ew : (words10.any fun x => decide (x = s)) = words10.any fun w => decide (s = w) := by
      congr 1; funext x; exact decide_eq_decide.2 eq_comm
    simp only [e1, e2, ew, decide_eq_true h1, cond_false, jl, jr, Bool.true_and]
    cases hw : words10.any fun x => decide (s = x) with
    | true => rfl
    | false =>
      simp only [cond_false, Bool.not_false, Bool.true_and]
      have hz : s.data.toList.length = s.size := (size_len s).symm
      refine (iter_scan chB s.data.toList (some true) ?_ ?_ (by rw [hz]; exact hs)).trans ?_
      · intro i b hb _
        have hi : i < s.size := by rw [← hz]; exact lt_of_get hb
        simp only [dlt hi, cond_true, byteAt_nat hb, Option.bind_some, succ_W (Nat.lt_of_le_of_lt hi hs)]
        have q1 : decide ((97 : Int) ≤ (b.toNat : Int)) = decide (97 ≤ b.toNat) := decide_eq_decide.2 (by omega)
        have q2 : decide ((b.toNat : Int) ≤ 122) = decide (b.toNat ≤ 122) := decide_eq_decide.2 (by omega)
        have q3 : decide ((48 : Int) ≤ (b.toNat : Int)) = decide (48 ≤ b.toNat) := decide_eq_decide.2 (by omega)
        have q4 : decide ((b.toNat : Int) ≤ 57) = decide (b.toNat ≤ 57) := decide_eq_decide.2 (by omega)
        have q5 : decide ((i : Int) = 0) = decide (i = 0) := decide_eq_decide.2 (by omega)
        unfold chB letB digB
        rw [q1, q2, q3, q4, q5]
        cases decide (97 ≤ b.toNat) <;> cases decide (b.toNat ≤ 122) <;> cases decide (48 ≤ b.toNat) <;> cases decide (b.toNat ≤ 57) <;> cases decide (i = 0) <;> rfl
      · intro _
        rw [hz]
        simp only [dnlt]; rfl
      · cases hw2 : scan chB s.data.toList 0 with
        | none => rfl
        | some e => exact congrArg some (chB_false hw2)
  · rw [decide_eq_false h1]
    simp only [Bool.false_and]
    by_cases h2 : s.size < 1
    · have e1 : decide ((s.size : Int) < 1) = true := decide_eq_true (by omega)
      simp only [e1, cond_true, jl]
    · have e1 : decide ((s.size : Int) < 1) = false := decide_eq_false (by omega)
      have e2 : decide ((s.size : Int) > 12) = true := decide_eq_true (by omega)
      simp only [e1, e2, cond_true, cond_false, jl]
theorem G117_span (n : ByteArray) (a b : Int) : G117 LF (a, b) = some (spanB (n, (a, b))) := by
  unfold G117 spanB
  by_cases h1 : -1000000000000 ≤ a
  · by_cases h2 : a ≤ b
    · by_cases h3 : b ≤ 1000000000000
      · simp only [decide_eq_true h1, decide_eq_true h2, decide_eq_true h3, cond_true, decide_eq_true (And.intro h1 (And.intro h2 h3))]
      · simp only [decide_eq_true h1, decide_eq_true h2, decide_eq_false h3, cond_true, decide_eq_false (fun h : _ ∧ _ ∧ _ => h3 h.2.2)]
    · simp only [decide_eq_true h1, decide_eq_false h2, cond_true, cond_false, decide_eq_false (fun h : _ ∧ _ ∧ _ => h2 h.2.1)]
  · simp only [decide_eq_false h1, cond_false, decide_eq_false (fun h : _ ∧ _ ∧ _ => h1 h.1)]
theorem G98_cmp (k : Int) : G98 LF k = some (cmpK k) := by
  unfold G98 cmpK
  by_cases h1 : k = 1
  · subst h1; rfl
  · by_cases h2 : k = 2
    · subst h2; rfl
    · by_cases h3 : k = 3
      · subst h3; rfl
      · have : ¬ (1 ≤ k ∧ k ≤ 3) := by omega
        simp [h1, h2, h3, this]
theorem G97_shp (t : Tm) (i : Nat) (hi : i < LF) : G97 LF (t, (i : Int)) = some (shp t i) := by
  obtain ⟨k, a, b, s, n⟩ := t
  have hp : w64 ((i : Int) - 1) = (i : Int) - 1 := (by have : i < 9223372036854775808 := hi; exact w64_id (by omega) (by omega))
  unfold G97 shp
  simp only [G126_in, Option.bind_some, hp, emp_eq]
  have e1 : decide (k = 1) = true → 1 ≤ k ∧ k ≤ 3 := fun h => by have := of_decide_eq_true h; omega
  by_cases c0 : s = bts []
  · by_cases c1 : n = 0
    · simp only [c0, c1, decide_true, cond_true, jl]
      by_cases k0 : k = 0
      · subst k0; by_cases c2 : a = 0 <;> by_cases c3 : b = 0 <;> simp [c2, c3]
      · by_cases k1 : 1 ≤ k ∧ k ≤ 3
        · have hk : jn (ρ := Bool) (cond (decide (k = 1)) (some (.inl (decide (k = 1)))) (cond (decide (k = 2)) (some (.inl (decide (k = 2)))) (some (.inl (decide (k = 3)))))) = fun f => f true := by
            funext f
            have : k = 1 ∨ k = 2 ∨ k = 3 := by omega
            rcases this with rfl | rfl | rfl <;> rfl
          simp only [k0, decide_false, cond_false, hk, if_false, k1, if_true, cond_true]
          by_cases c2 : a = 0 <;> by_cases c3 : b = 0 <;> simp [c2, c3]
        · have hk : jn (ρ := Bool) (cond (decide (k = 1)) (some (.inl (decide (k = 1)))) (cond (decide (k = 2)) (some (.inl (decide (k = 2)))) (some (.inl (decide (k = 3)))))) = fun f => f false := by
            funext f
            have h1 : ¬ k = 1 := by omega
            have h2 : ¬ k = 2 := by omega
            have h3 : ¬ k = 3 := by omega
            simp [h1, h2, h3, jl]
          simp only [k0, decide_false, cond_false, hk, if_false, k1]
          by_cases k4 : k = 4
          · subst k4; by_cases c2 : 0 ≤ a ∧ a ≤ (i : Int) - 1 <;> by_cases c3 : b = 0 <;> simp [c2, c3]
          · by_cases k5 : k = 5
            · subst k5; by_cases c2 : 0 ≤ a ∧ a ≤ (i : Int) - 1 <;> by_cases c3 : 0 ≤ b ∧ b ≤ (i : Int) - 1 <;> simp [c2, c3, jl]
            · by_cases k6 : k = 6
              · subst k6; by_cases c2 : 0 ≤ a ∧ a ≤ (i : Int) - 1 <;> by_cases c3 : 0 ≤ b ∧ b ≤ (i : Int) - 1 <;> simp [c2, c3, jl]
              · simp [k4, k5, k6, jl]
    · simp only [c0, c1, decide_true, decide_false, cond_true, jl]
      by_cases k0 : k = 0
      · subst k0; by_cases c2 : a = 0 <;> by_cases c3 : b = 0 <;> simp [c2, c3]
      · by_cases k1 : 1 ≤ k ∧ k ≤ 3
        · have hk : jn (ρ := Bool) (cond (decide (k = 1)) (some (.inl (decide (k = 1)))) (cond (decide (k = 2)) (some (.inl (decide (k = 2)))) (some (.inl (decide (k = 3)))))) = fun f => f true := by
            funext f
            have : k = 1 ∨ k = 2 ∨ k = 3 := by omega
            rcases this with rfl | rfl | rfl <;> rfl
          simp only [k0, decide_false, cond_false, hk, if_false, k1, if_true, cond_true]
          by_cases c2 : a = 0 <;> by_cases c3 : b = 0 <;> simp [c2, c3]
        · have hk : jn (ρ := Bool) (cond (decide (k = 1)) (some (.inl (decide (k = 1)))) (cond (decide (k = 2)) (some (.inl (decide (k = 2)))) (some (.inl (decide (k = 3)))))) = fun f => f false := by
            funext f
            have h1 : ¬ k = 1 := by omega
            have h2 : ¬ k = 2 := by omega
            have h3 : ¬ k = 3 := by omega
            simp [h1, h2, h3, jl]
          simp only [k0, decide_false, cond_false, hk, if_false, k1]
          by_cases k4 : k = 4
          · subst k4; simp
          · by_cases k5 : k = 5
            · subst k5; simp [jl]
            · by_cases k6 : k = 6
              · subst k6; simp [jl]
              · simp [k4, k5, k6, jl]
  · simp only [c0, decide_false, cond_false, jl]
    by_cases k0 : k = 0
    · subst k0; by_cases c2 : a = 0 <;> by_cases c3 : b = 0 <;> simp [c2, c3]
    · by_cases k1 : 1 ≤ k ∧ k ≤ 3
      · have hk : jn (ρ := Bool) (cond (decide (k = 1)) (some (.inl (decide (k = 1)))) (cond (decide (k = 2)) (some (.inl (decide (k = 2)))) (some (.inl (decide (k = 3)))))) = fun f => f true := by
          funext f
          have : k = 1 ∨ k = 2 ∨ k = 3 := by omega
          rcases this with rfl | rfl | rfl <;> rfl
        simp only [k0, decide_false, cond_false, hk, if_false, k1, if_true, cond_true]
        by_cases c2 : a = 0 <;> by_cases c3 : b = 0 <;> simp [c2, c3]
      · have hk : jn (ρ := Bool) (cond (decide (k = 1)) (some (.inl (decide (k = 1)))) (cond (decide (k = 2)) (some (.inl (decide (k = 2)))) (some (.inl (decide (k = 3)))))) = fun f => f false := by
          funext f
          have h1 : ¬ k = 1 := by omega
          have h2 : ¬ k = 2 := by omega
          have h3 : ¬ k = 3 := by omega
          simp [h1, h2, h3, jl]
        simp only [k0, decide_false, cond_false, hk, if_false, k1]
        by_cases k4 : k = 4
        · subst k4; simp
        · by_cases k5 : k = 5
          · subst k5; simp [jl]
          · by_cases k6 : k = 6
            · subst k6; simp [jl]
            · simp [k4, k5, k6, jl]
theorem G111_plF (f : List Fct) (s : ByteArray) (hl : f.length < LF) : G111 LF (f, s) = some (plF f s) := by
  unfold G111 plF
  refine (iter_find (fun x => decide (x.1 = s)) (fun i => (i : Int)) f (some (-1)) ?_ ?_ hl).trans ?_
  · intro i x hx
    have hi := lt_of_get hx
    simp only [dlt hi, cond_true, getI_nat hx, Option.bind_some, eqD, succ_W (Nat.lt_of_le_of_lt hi hl)]
    cases decide (x.1 = s) <;> rfl
  · simp only [dnlt]; rfl
  · unfold idxI; cases idx (fun x : Fct => decide (x.1 = s)) f 0 <;> rfl
theorem G37_fnd (c : Cd) (s : ByteArray) (hl : c.2.2.length < LF) : G37 LF (c, s) = some (fnd c.2.2 s) := by
  unfold G37 fnd
  refine (iter_find (fun x => decide (x.1 = s)) (fun i => (i : Int)) c.2.2 (some (-1)) ?_ ?_ hl).trans ?_
  · intro i x hx
    have hi := lt_of_get hx
    simp only [dlt hi, cond_true, getI_nat hx, Option.bind_some, eqD, succ_W (Nat.lt_of_le_of_lt hi hl)]
    cases decide (x.1 = s) <;> rfl
  · simp only [dnlt]; rfl
  · unfold idxI; cases idx (fun x : Rl => decide (x.1 = s)) c.2.2 0 <;> rfl
theorem G30_cond (f : List Fct) (c : Cnd) (hf : f.length < LF) : G30 LF (f, c) = some (condE f c) := by
  unfold G30 condE
  by_cases h1 : 30 < c.length
  · have e1 : decide ((c.length : Int) > 30) = true := decide_eq_true (by omega)
    simp only [e1, cond_true, h1, if_true]
  · have e1 : decide ((c.length : Int) > 30) = false := decide_eq_false (by omega)
    simp only [e1, cond_false, h1, if_false]
    have hl : c.length < LF := by show c.length < 9223372036854775808; omega
    by_cases h0 : c = []
    · subst h0; rfl
    · have e0 : decide ((c.length : Int) = 0) = false := decide_eq_false (by have := List.length_pos_iff.2 h0; omega)
      simp only [e0, cond_false, h0, if_false]
      refine (iter_scan (condS f) c (some 0) ?_ ?_ hl).trans (getD_none _ _)
      · intro i t ht _
        have hi := lt_of_get ht
        obtain ⟨k, a, b, s, n⟩ := t
        simp only [dlt hi, cond_true, getI_nat ht, Option.bind_some, G97_shp _ i (Nat.lt_trans hi hl), G98_cmp, G111_plF f s hf, succ_W (Nat.lt_of_le_of_lt hi hl)]
        unfold condS
        cases shp (k, a, b, s, n) i with
        | false => rfl
        | true =>
          simp only [Bool.not_true, cond_false]
          cases cmpK k with
          | false => rfl
          | true =>
            simp only [cond_true, jl, jr, Bool.true_and, plF_neg]
            cases f.any (fun x => decide (x.1 = s)) <;> rfl
      · intro _
        simp only [dnlt]; rfl
theorem idx_take {σ : Type} (p : σ → Bool) : ∀ (l : List σ) (i : Nat), decide (idxI p l < (i : Int)) = (!l.any p || (l.take i).any p)
  | l, i => by
    cases h : idx p l 0 with
    | none =>
      have hn := idx_none.1 h
      have : l.any p = false := by simp; intro x hx; simp [hn x hx]
      unfold idxI; rw [h, this]; simp; omega
    | some n =>
      obtain ⟨x, e1, e2, e3⟩ := idx_some h
      have : l.any p = true := List.any_eq_true.2 ⟨x, List.mem_of_getElem? e1, e2⟩
      unfold idxI; rw [h, this]
      simp only [Bool.not_true, Bool.false_or]
      by_cases hni : n < i
      · have : (l.take i).any p = true := List.any_eq_true.2 ⟨x, List.mem_of_getElem? (i := n) (by rw [List.getElem?_take, if_pos hni]; exact e1), e2⟩
        rw [this]; simp; omega
      · have : (l.take i).any p = false := by
          rw [List.any_eq_false]
          intro y hy
          obtain ⟨m, hm, hym⟩ := List.mem_iff_getElem.1 hy
          have hmi : m < i := by rw [List.length_take] at hm; omega
          have := e3 m y (by omega) (by rw [List.getElem_take] at hym; rw [← hym]; exact List.getElem?_eq_getElem _)
          simp [this]
        rw [this]; simp; omega
end Go.K
