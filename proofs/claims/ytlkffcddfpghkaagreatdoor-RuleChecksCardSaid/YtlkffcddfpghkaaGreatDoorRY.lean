/-
  A part of the walk and of the plain law of one given statement. No condition.
-/
import Derived.Test.YtlkffcddfpghkaaGreatDoorG6
import Derived.Test.YtlkffcddfpghkaaGreatDoorProg
import Derived.Test.YtlkffcddfpghkaaGreatDoorKe
import Derived.Lib.Strings
import Derived.Sort.OwnSortedInts
import Derived.Test.YtlkffcddfpghkaaGreatDoorK8
set_option linter.unusedVariables false
set_option maxRecDepth 100000
set_option maxHeartbeats 0
namespace Go.K
open Go.Sl Go.Sx Go.Proofs
def S167 : FuncId → Sp := fun _ => {}
noncomputable def F167 (P : Program) (lf : Nat) (x : tt [(true, (.sl (.pair .i (.pair .i (.pair .i (.pair .str .i)))))), (false, .i)]) : Option (tt [(false, .i)]) := fnF P (C49 P lf) S167 167 [(true, (.sl (.pair .i (.pair .i (.pair .i (.pair .str .i)))))), (false, .i)] [(false, .i)] lf x
noncomputable def C167 (P : Program) (lf : Nat) : FuncId → Option Con := extC (C49 P lf) 167 (dataCon [(true, (.sl (.pair .i (.pair .i (.pair .i (.pair .str .i)))))), (false, .i)] [(false, .i)] (F167 P lf))
theorem F167_eq (lf : Nat) (a0 : (List (Int × (Int × (Int × (ByteArray × Int)))))) (a1 : Int) : F167 Tryz.prog lf (a0, a1) =
  ((getI a0 a1)).bind fun r3 => some r3.1 := by kernel_rfl
def S246 : FuncId → Sp := fun _ => {}
noncomputable def F246 (P : Program) (lf : Nat) (x : tt [(false, .i), (false, .bool)]) : Option (tt [(false, .str)]) := fnF P (C167 P lf) S246 246 [(false, .i), (false, .bool)] [(false, .str)] lf x
noncomputable def C246 (P : Program) (lf : Nat) : FuncId → Option Con := extC (C167 P lf) 246 (dataCon [(false, .i), (false, .bool)] [(false, .str)] (F246 P lf))
theorem F246_eq (lf : Nat) (a0 : Int) (a1 : Bool) : F246 Tryz.prog lf (a0, a1) =
  cond a1 (cond (decide (a0 = (1 : Int))) (some (bts [62, 61])) (cond (decide (a0 = (2 : Int))) (some (bts [62])) (cond (decide (a0 = (3 : Int))) (some (bts [33, 61])) (some (bts []))))) (cond (decide (a0 = (1 : Int))) (some (bts [60])) (cond (decide (a0 = (2 : Int))) (some (bts [60, 61])) (cond (decide (a0 = (3 : Int))) (some (bts [61])) (some (bts []))))) := by kernel_rfl
def S220 : FuncId → Sp := fun _ => {}
noncomputable def F220 (P : Program) (lf : Nat) (x : tt [(true, (.sl (.pair .i (.pair .i (.pair .i (.pair .str .i)))))), (false, .i), (false, .bool)]) : Option (tt [(false, .str)]) := fnF P (C246 P lf) S220 220 [(true, (.sl (.pair .i (.pair .i (.pair .i (.pair .str .i)))))), (false, .i), (false, .bool)] [(false, .str)] lf x
noncomputable def C220 (P : Program) (lf : Nat) : FuncId → Option Con := extC (C246 P lf) 220 (dataCon [(true, (.sl (.pair .i (.pair .i (.pair .i (.pair .str .i)))))), (false, .i), (false, .bool)] [(false, .str)] (F220 P lf))
theorem F220_eq (lf : Nat) (a0 : (List (Int × (Int × (Int × (ByteArray × Int)))))) (a1 : Int) (a2 : Bool) : F220 Tryz.prog lf (a0, (a1, a2)) =
  ((getI a0 a1)).bind fun r10 => ((catC r10.2.2.2.1 (bts [32]))).bind fun r11 => ((F246 Tryz.prog lf (r10.1, a2))).bind fun r12 => ((catC (r10.2.2.2.1 ++ (bts [32])) r12)).bind fun r13 => ((catC ((r10.2.2.2.1 ++ (bts [32])) ++ r12) (bts [32]))).bind fun r14 => ((itoaC r10.2.2.2.2)).bind fun r15 => ((catC (((r10.2.2.2.1 ++ (bts [32])) ++ r12) ++ (bts [32])) r15)).bind fun r16 => some ((((r10.2.2.2.1 ++ (bts [32])) ++ r12) ++ (bts [32])) ++ r15) := by kernel_rfl
def S166 : FuncId → Sp := fun _ => {}
noncomputable def F166 (P : Program) (lf : Nat) (x : tt [(true, (.sl (.pair .i (.pair .i (.pair .i (.pair .str .i)))))), (false, .i)]) : Option (tt [(false, (.sl (.pair .str (.pair .i .bool))))]) := fnF P (C220 P lf) S166 166 [(true, (.sl (.pair .i (.pair .i (.pair .i (.pair .str .i)))))), (false, .i)] [(false, (.sl (.pair .str (.pair .i .bool))))] lf x
noncomputable def C166 (P : Program) (lf : Nat) : FuncId → Option Con := extC (C220 P lf) 166 (dataCon [(true, (.sl (.pair .i (.pair .i (.pair .i (.pair .str .i)))))), (false, .i)] [(false, (.sl (.pair .str (.pair .i .bool))))] (F166 P lf))
theorem F166_eq (lf : Nat) (a0 : (List (Int × (Int × (Int × (ByteArray × Int)))))) (a1 : Int) : F166 Tryz.prog lf (a0, a1) =
  ((getI a0 a1)).bind fun r13 => cond (decide (r13.1 = (0 : Int))) (some [((bts [116, 114, 117, 101]), ((0 : Int), false))]) (cond (decide (r13.1 = (4 : Int))) (((F167 Tryz.prog lf (a0, r13.2.1))).bind fun r14 => ((F93 Tryz.prog lf r14)).bind fun r15 => cond r15 (((F220 Tryz.prog lf (a0, (r13.2.1, true)))).bind fun r16 => some [(r16, ((0 : Int), false))]) (((F167 Tryz.prog lf (a0, r13.2.1))).bind fun r17 => cond (decide (r17 = (5 : Int))) (some [((bts [110, 111, 116]), ((0 : Int), false)), ((bts []), (r13.2.1, true))]) (((F167 Tryz.prog lf (a0, r13.2.1))).bind fun r18 => some [((bts [110, 111, 116]), ((0 : Int), false)), ((bts []), (r13.2.1, (decide (r18 = (6 : Int)))))]))) (cond (decide (r13.1 = (5 : Int))) (((F167 Tryz.prog lf (a0, r13.2.1))).bind fun r19 => ((F167 Tryz.prog lf (a0, r13.2.2.1))).bind fun r20 => cond (decide (r20 = (5 : Int))) (some [((bts []), (r13.2.1, (decide (r19 = (6 : Int))))), ((bts [97, 110, 100]), ((0 : Int), false)), ((bts []), (r13.2.2.1, true))]) (((F167 Tryz.prog lf (a0, r13.2.2.1))).bind fun r21 => some [((bts []), (r13.2.1, (decide (r19 = (6 : Int))))), ((bts [97, 110, 100]), ((0 : Int), false)), ((bts []), (r13.2.2.1, (decide (r21 = (6 : Int)))))])) (cond (decide (r13.1 = (6 : Int))) (((F167 Tryz.prog lf (a0, r13.2.2.1))).bind fun r22 => some [((bts []), (r13.2.1, false)), ((bts [111, 114]), ((0 : Int), false)), ((bts []), (r13.2.2.1, (decide (r22 = (6 : Int)))))]) (((F220 Tryz.prog lf (a0, (a1, false)))).bind fun r23 => some [(r23, ((0 : Int), false))])))) := by kernel_rfl
def S95 : FuncId → Sp := fun g => match g with
  | 95 => { joins := [(22, [(.slot 7, .dat .i), (.slot 8, .dat .i)])], loops := [(6, [(.slot 6, .dat .i), (.slot 7, .dat .i), (.slot 8, .dat .i), (.slot 22, .dat .i)]), (2, [(.slot 2, .own .i 3), (.slot 3, .own .i 3), (.slot 4, .own .i 3), (.slot 15, .dat .i)])] }
  | _ => {}
noncomputable def F95 (P : Program) (lf : Nat) (x : tt [(true, (.sl (.pair .i (.pair .i (.pair .i (.pair .str .i))))))]) : Option (tt [(false, (.sl .i)), (false, (.sl .i)), (false, (.sl .i))]) := fnF P (C166 P lf) S95 95 [(true, (.sl (.pair .i (.pair .i (.pair .i (.pair .str .i))))))] [(false, (.sl .i)), (false, (.sl .i)), (false, (.sl .i))] lf x
noncomputable def C95 (P : Program) (lf : Nat) : FuncId → Option Con := extC (C166 P lf) 95 (dataCon [(true, (.sl (.pair .i (.pair .i (.pair .i (.pair .str .i))))))] [(false, (.sl .i)), (false, (.sl .i)), (false, (.sl .i))] (F95 P lf))
theorem F95_eq (lf : Nat) (a0 : (List (Int × (Int × (Int × (ByteArray × Int)))))) : F95 Tryz.prog lf a0 =
  iter lf (fun y26 : ((List Int) × ((List Int) × ((List Int) × Int))) => cond (decide (y26.2.2.2 < (a0.length : Int))) (((F166 Tryz.prog lf (a0, y26.2.2.2))).bind fun r27 => iter lf (fun y28 : (Int × (Int × (Int × Int))) => cond (decide (y28.2.2.2 < (r27.length : Int))) (((getI r27 y28.2.2.2)).bind fun r29 => cond (!((ByteArray.toList r29.1) == ([] : List UInt8))) (some (.inl ((w64 ((w64 (y28.1 + (1 : Int))) + (r29.1.size : Int))), (y28.2.1, (y28.2.2.1, (w64 (y28.2.2.2 + (1 : Int)))))))) (((getI y26.2.2.1 r29.2.1)).bind fun r30 => ((getI y26.2.2.1 r29.2.1)).bind fun r31 => ((getI y26.1 r29.2.1)).bind fun r32 => ((getI y26.1 r29.2.1)).bind fun r33 => ((getI y26.2.1 r29.2.1)).bind fun r34 => ((getI y26.2.1 r29.2.1)).bind fun r35 => cond r29.2.2 (some (.inl ((w64 ((w64 ((w64 (y28.1 + (1 : Int))) + r33)) + (4 : Int))), ((w64 (y28.2.1 + r35)), ((if (w64 (r31 + (1 : Int))) > y28.2.2.1 then (w64 (r31 + (1 : Int))) else y28.2.2.1), (w64 (y28.2.2.2 + (1 : Int)))))))) (some (.inl ((w64 ((w64 (y28.1 + (1 : Int))) + r33)), ((w64 (y28.2.1 + r35)), ((if r31 > y28.2.2.1 then r31 else y28.2.2.1), (w64 (y28.2.2.2 + (1 : Int)))))))))) (outR (jn (((F167 Tryz.prog lf (a0, y26.2.2.2))).bind fun r36 => cond (!(decide (r36 = (4 : Int)))) (some (.inl (y28.2.1, y28.2.2.1))) (((getI a0 y26.2.2.2)).bind fun r37 => ((F167 Tryz.prog lf (a0, r37.2.1))).bind fun r38 => ((F93 Tryz.prog lf r38)).bind fun r39 => cond r39 (some (.inl ((2 : Int), y28.2.2.1))) (some (.inl (y28.2.1, (w64 (y28.2.2.1 + (1 : Int)))))))) (fun y40 : (Int × Int) => ((appC y26.1 [(if (8001 : Int) < y28.1 then (8001 : Int) else y28.1)])).bind fun r41 => ((appC y26.2.1 [(if (31 : Int) < y40.1 then (31 : Int) else y40.1)])).bind fun r42 => ((appC y26.2.2.1 [y40.2])).bind fun r43 => some (.inl (r41, (r42, (r43, (w64 (y26.2.2.2 + (1 : Int))))))))))) ((-1 : Int), ((1 : Int), ((0 : Int), (0 : Int))))) (some (.inr (y26.1, (y26.2.1, y26.2.2.1))))) (([] : List Int), (([] : List Int), (([] : List Int), (0 : Int)))) := by kernel_rfl
def S96 : FuncId → Sp := fun g => match g with
  | 96 => { loops := [(3, [(.slot 5, .own .str 9), (.slot 12, .dat .i)])] }
  | _ => {}
noncomputable def F96 (P : Program) (lf : Nat) : Nat → tt [(true, (.sl (.pair .i (.pair .i (.pair .i (.pair .str .i)))))), (false, .i)] → Option (tt [(false, .str)])
  | 0, _ => none
  | n + 1, x => fnF P (extC (C95 P lf) 96 (dataCon [(true, (.sl (.pair .i (.pair .i (.pair .i (.pair .str .i)))))), (false, .i)] [(false, .str)] (F96 P lf n))) S96 96 [(true, (.sl (.pair .i (.pair .i (.pair .i (.pair .str .i)))))), (false, .i)] [(false, .str)] lf x
noncomputable def C96 (P : Program) (lf : Nat) : FuncId → Option Con := extC (C95 P lf) 96 (dataCon [(true, (.sl (.pair .i (.pair .i (.pair .i (.pair .str .i)))))), (false, .i)] [(false, .str)] (F96 P lf lf))
theorem F96_eq (lf n : Nat) (a0 : (List (Int × (Int × (Int × (ByteArray × Int)))))) (a1 : Int) : F96 Tryz.prog lf (n + 1) (a0, a1) =
  ((F166 Tryz.prog lf (a0, a1))).bind fun r14 => iter lf (fun y15 : ((List ByteArray) × Int) => cond (decide (y15.2 < (r14.length : Int))) (((getI r14 y15.2)).bind fun r16 => cond (!((ByteArray.toList r16.1) == ([] : List UInt8))) (((appC y15.1 [r16.1])).bind fun r17 => some (.inl (r17, (w64 (y15.2 + (1 : Int)))))) (cond r16.2.2 (((F96 Tryz.prog lf n (a0, r16.2.1))).bind fun r18 => ((catC (bts [40, 32]) r18)).bind fun r19 => ((catC ((bts [40, 32]) ++ r18) (bts [32, 41]))).bind fun r20 => ((appC y15.1 [(((bts [40, 32]) ++ r18) ++ (bts [32, 41]))])).bind fun r21 => some (.inl (r21, (w64 (y15.2 + (1 : Int)))))) (((F96 Tryz.prog lf n (a0, r16.2.1))).bind fun r22 => ((appC y15.1 [r22])).bind fun r23 => some (.inl (r23, (w64 (y15.2 + (1 : Int)))))))) (outR (((joinC (bts [32]) y15.1)).bind fun r24 => some r24))) (([] : List ByteArray), (0 : Int)) := by kernel_rfl
def S19 : FuncId → Sp := fun g => match g with
  | 19 => { joins := [(15, [(.slot 59, .dat .bool)]), (7, [(.slot 38, .dat .bool)])], loops := [(4, [(.slot 19, .dat .i)])] }
  | _ => {}
noncomputable def F19 (P : Program) (lf : Nat) (x : tt [(true, (.sl (.pair .i (.pair .i (.pair .i (.pair .str .i))))))]) : Option (tt [(false, .str), (false, .i)]) := fnF P (C96 P lf) S19 19 [(true, (.sl (.pair .i (.pair .i (.pair .i (.pair .str .i))))))] [(false, .str), (false, .i)] lf x
noncomputable def C19 (P : Program) (lf : Nat) : FuncId → Option Con := extC (C96 P lf) 19 (dataCon [(true, (.sl (.pair .i (.pair .i (.pair .i (.pair .str .i))))))] [(false, .str), (false, .i)] (F19 P lf))
theorem F19_eq (lf : Nat) (a0 : (List (Int × (Int × (Int × (ByteArray × Int)))))) : F19 Tryz.prog lf a0 =
  ((F91 Tryz.prog lf ((a0.length : Int), ((1 : Int), (30 : Int))))).bind fun r14 => cond (!r14) (some ((bts []), (41 : Int))) (iter lf (fun y15 : Int => cond (decide (y15 < (a0.length : Int))) (((getI a0 y15)).bind fun r16 => jn (((F92 Tryz.prog lf ((r16.1, (r16.2.1, (r16.2.2.1, (r16.2.2.2.1, r16.2.2.2.2)))), y15))).bind fun r17 => cond (!r17) (some (.inl true)) (((F93 Tryz.prog lf r16.1)).bind fun r18 => cond r18 (((F94 Tryz.prog lf r16.2.2.2.1)).bind fun r19 => some (.inl (!r19))) (some (.inl false)))) (fun y20 : Bool => cond y20 (some (.inr ((bts []), (41 : Int)))) (some (.inl (w64 (y15 + (1 : Int))))))) (outR (((F95 Tryz.prog lf a0)).bind fun r21 => ((getI r21.2.2 (w64 ((a0.length : Int) - (1 : Int))))).bind fun r22 => cond (decide (r22 > (8 : Int))) (some ((bts []), (41 : Int))) (jn (((getI r21.1 (w64 ((a0.length : Int) - (1 : Int))))).bind fun r23 => cond (decide (r23 > (8000 : Int))) (some (.inl true)) (((getI r21.2.1 (w64 ((a0.length : Int) - (1 : Int))))).bind fun r24 => some (.inl (decide (r24 > (30 : Int)))))) (fun y25 : Bool => cond y25 (some ((bts []), (2 : Int))) (((F96 Tryz.prog lf lf (a0, (w64 ((a0.length : Int) - (1 : Int)))))).bind fun r26 => some (r26, (0 : Int)))))))) (0 : Int)) := by kernel_rfl
end Go.K
set_option linter.unusedVariables false
set_option linter.unusedSimpArgs false
set_option maxRecDepth 100000
set_option maxHeartbeats 0
namespace Go.K
open Go.Sl Go.Sx Go.Proofs
noncomputable def G167 (lf : Nat) (x : ((List (Int × (Int × (Int × (ByteArray × Int))))) × Int)) : Option (Int) :=
  ((getI x.1 x.2)).bind fun r3 => some r3.1
theorem F167_G (lf : Nat) (x : ((List (Int × (Int × (Int × (ByteArray × Int))))) × Int)) : F167 Tryz.prog lf x = G167 lf x := (F167_eq lf x.1 x.2).trans (by
  unfold G167
  (try simp only [agree_self, Lib.toList_data]); first | done | rfl)
noncomputable def G246 (lf : Nat) (x : (Int × Bool)) : Option (ByteArray) :=
  cond x.2 (cond (decide (x.1 = (1 : Int))) (some (bts [62, 61])) (cond (decide (x.1 = (2 : Int))) (some (bts [62])) (cond (decide (x.1 = (3 : Int))) (some (bts [33, 61])) (some (bts []))))) (cond (decide (x.1 = (1 : Int))) (some (bts [60])) (cond (decide (x.1 = (2 : Int))) (some (bts [60, 61])) (cond (decide (x.1 = (3 : Int))) (some (bts [61])) (some (bts [])))))
theorem F246_G (lf : Nat) (x : (Int × Bool)) : F246 Tryz.prog lf x = G246 lf x := (F246_eq lf x.1 x.2).trans (by
  unfold G246
  (try simp only [agree_self, Lib.toList_data]); first | done | rfl)
noncomputable def G220 (lf : Nat) (x : ((List (Int × (Int × (Int × (ByteArray × Int))))) × (Int × Bool))) : Option (ByteArray) :=
  ((getI x.1 x.2.1)).bind fun r10 => ((catC r10.2.2.2.1 (bts [32]))).bind fun r11 => ((G246 lf (r10.1, x.2.2))).bind fun r12 => ((catC (r10.2.2.2.1 ++ (bts [32])) r12)).bind fun r13 => ((catC ((r10.2.2.2.1 ++ (bts [32])) ++ r12) (bts [32]))).bind fun r14 => ((itoaC r10.2.2.2.2)).bind fun r15 => ((catC (((r10.2.2.2.1 ++ (bts [32])) ++ r12) ++ (bts [32])) r15)).bind fun r16 => some ((((r10.2.2.2.1 ++ (bts [32])) ++ r12) ++ (bts [32])) ++ r15)
theorem F220_G (lf : Nat) (x : ((List (Int × (Int × (Int × (ByteArray × Int))))) × (Int × Bool))) : F220 Tryz.prog lf x = G220 lf x := (F220_eq lf x.1 x.2.1 x.2.2).trans (by
  unfold G220
  (try simp only [F246_G, agree_self, Lib.toList_data]); first | done | rfl)
noncomputable def G166 (lf : Nat) (x : ((List (Int × (Int × (Int × (ByteArray × Int))))) × Int)) : Option ((List (ByteArray × (Int × Bool)))) :=
  ((getI x.1 x.2)).bind fun r13 => cond (decide (r13.1 = (0 : Int))) (some [((bts [116, 114, 117, 101]), ((0 : Int), false))]) (cond (decide (r13.1 = (4 : Int))) (((G167 lf (x.1, r13.2.1))).bind fun r14 => ((G93 lf r14)).bind fun r15 => cond r15 (((G220 lf (x.1, (r13.2.1, true)))).bind fun r16 => some [(r16, ((0 : Int), false))]) (((G167 lf (x.1, r13.2.1))).bind fun r17 => cond (decide (r17 = (5 : Int))) (some [((bts [110, 111, 116]), ((0 : Int), false)), ((bts []), (r13.2.1, true))]) (((G167 lf (x.1, r13.2.1))).bind fun r18 => some [((bts [110, 111, 116]), ((0 : Int), false)), ((bts []), (r13.2.1, (decide (r18 = (6 : Int)))))]))) (cond (decide (r13.1 = (5 : Int))) (((G167 lf (x.1, r13.2.1))).bind fun r19 => ((G167 lf (x.1, r13.2.2.1))).bind fun r20 => cond (decide (r20 = (5 : Int))) (some [((bts []), (r13.2.1, (decide (r19 = (6 : Int))))), ((bts [97, 110, 100]), ((0 : Int), false)), ((bts []), (r13.2.2.1, true))]) (((G167 lf (x.1, r13.2.2.1))).bind fun r21 => some [((bts []), (r13.2.1, (decide (r19 = (6 : Int))))), ((bts [97, 110, 100]), ((0 : Int), false)), ((bts []), (r13.2.2.1, (decide (r21 = (6 : Int)))))])) (cond (decide (r13.1 = (6 : Int))) (((G167 lf (x.1, r13.2.2.1))).bind fun r22 => some [((bts []), (r13.2.1, false)), ((bts [111, 114]), ((0 : Int), false)), ((bts []), (r13.2.2.1, (decide (r22 = (6 : Int)))))]) (((G220 lf (x.1, (x.2, false)))).bind fun r23 => some [(r23, ((0 : Int), false))]))))
theorem F166_G (lf : Nat) (x : ((List (Int × (Int × (Int × (ByteArray × Int))))) × Int)) : F166 Tryz.prog lf x = G166 lf x := (F166_eq lf x.1 x.2).trans (by
  unfold G166
  (try simp only [F93_G, F167_G, F220_G, agree_self, Lib.toList_data]); first | done | rfl)
noncomputable def G95 (lf : Nat) (x : (List (Int × (Int × (Int × (ByteArray × Int)))))) : Option (((List Int) × ((List Int) × (List Int)))) :=
  iter lf (fun y26 : ((List Int) × ((List Int) × ((List Int) × Int))) => cond (decide (y26.2.2.2 < (x.length : Int))) (((G166 lf (x, y26.2.2.2))).bind fun r27 => iter lf (fun y28 : (Int × (Int × (Int × Int))) => cond (decide (y28.2.2.2 < (r27.length : Int))) (((getI r27 y28.2.2.2)).bind fun r29 => cond (!(r29.1.data.toList == ([] : List UInt8))) (some (.inl ((w64 ((w64 (y28.1 + (1 : Int))) + (r29.1.size : Int))), (y28.2.1, (y28.2.2.1, (w64 (y28.2.2.2 + (1 : Int)))))))) (((getI y26.2.2.1 r29.2.1)).bind fun r30 => ((getI y26.2.2.1 r29.2.1)).bind fun r31 => ((getI y26.1 r29.2.1)).bind fun r32 => ((getI y26.1 r29.2.1)).bind fun r33 => ((getI y26.2.1 r29.2.1)).bind fun r34 => ((getI y26.2.1 r29.2.1)).bind fun r35 => cond r29.2.2 (some (.inl ((w64 ((w64 ((w64 (y28.1 + (1 : Int))) + r33)) + (4 : Int))), ((w64 (y28.2.1 + r35)), ((if (w64 (r31 + (1 : Int))) > y28.2.2.1 then (w64 (r31 + (1 : Int))) else y28.2.2.1), (w64 (y28.2.2.2 + (1 : Int)))))))) (some (.inl ((w64 ((w64 (y28.1 + (1 : Int))) + r33)), ((w64 (y28.2.1 + r35)), ((if r31 > y28.2.2.1 then r31 else y28.2.2.1), (w64 (y28.2.2.2 + (1 : Int)))))))))) (outR (jn (((G167 lf (x, y26.2.2.2))).bind fun r36 => cond (!(decide (r36 = (4 : Int)))) (some (.inl (y28.2.1, y28.2.2.1))) (((getI x y26.2.2.2)).bind fun r37 => ((G167 lf (x, r37.2.1))).bind fun r38 => ((G93 lf r38)).bind fun r39 => cond r39 (some (.inl ((2 : Int), y28.2.2.1))) (some (.inl (y28.2.1, (w64 (y28.2.2.1 + (1 : Int)))))))) (fun y40 : (Int × Int) => ((appC y26.1 [(if (8001 : Int) < y28.1 then (8001 : Int) else y28.1)])).bind fun r41 => ((appC y26.2.1 [(if (31 : Int) < y40.1 then (31 : Int) else y40.1)])).bind fun r42 => ((appC y26.2.2.1 [y40.2])).bind fun r43 => some (.inl (r41, (r42, (r43, (w64 (y26.2.2.2 + (1 : Int))))))))))) ((-1 : Int), ((1 : Int), ((0 : Int), (0 : Int))))) (some (.inr (y26.1, (y26.2.1, y26.2.2.1))))) (([] : List Int), (([] : List Int), (([] : List Int), (0 : Int))))
theorem F95_G (lf : Nat) (x : (List (Int × (Int × (Int × (ByteArray × Int)))))) : F95 Tryz.prog lf x = G95 lf x := (F95_eq lf x).trans (by
  unfold G95
  (try simp only [F93_G, F166_G, F167_G, agree_self, Lib.toList_data]); first | done | rfl)
noncomputable def G96 (lf : Nat) : Nat → ((List (Int × (Int × (Int × (ByteArray × Int))))) × Int) → Option (ByteArray)
  | 0, _ => none
  | n + 1, x => ((G166 lf (x.1, x.2))).bind fun r14 => iter lf (fun y15 : ((List ByteArray) × Int) => cond (decide (y15.2 < (r14.length : Int))) (((getI r14 y15.2)).bind fun r16 => cond (!(r16.1.data.toList == ([] : List UInt8))) (((appC y15.1 [r16.1])).bind fun r17 => some (.inl (r17, (w64 (y15.2 + (1 : Int)))))) (cond r16.2.2 (((G96 lf n (x.1, r16.2.1))).bind fun r18 => ((catC (bts [40, 32]) r18)).bind fun r19 => ((catC ((bts [40, 32]) ++ r18) (bts [32, 41]))).bind fun r20 => ((appC y15.1 [(((bts [40, 32]) ++ r18) ++ (bts [32, 41]))])).bind fun r21 => some (.inl (r21, (w64 (y15.2 + (1 : Int)))))) (((G96 lf n (x.1, r16.2.1))).bind fun r22 => ((appC y15.1 [r22])).bind fun r23 => some (.inl (r23, (w64 (y15.2 + (1 : Int)))))))) (outR (((joinC (bts [32]) y15.1)).bind fun r24 => some r24))) (([] : List ByteArray), (0 : Int))
theorem F96_G (lf : Nat) : ∀ (n : Nat) (x : ((List (Int × (Int × (Int × (ByteArray × Int))))) × Int)), F96 Tryz.prog lf n x = G96 lf n x
  | 0, _ => rfl
  | n + 1, x => (F96_eq lf n x.1 x.2).trans (by
    unfold G96
    (try simp only [F96_G lf n, F166_G, agree_self, Lib.toList_data]); first | done | rfl)
noncomputable def G19 (lf : Nat) (x : (List (Int × (Int × (Int × (ByteArray × Int)))))) : Option ((ByteArray × Int)) :=
  ((G91 lf ((x.length : Int), ((1 : Int), (30 : Int))))).bind fun r14 => cond (!r14) (some ((bts []), (41 : Int))) (iter lf (fun y15 : Int => cond (decide (y15 < (x.length : Int))) (((getI x y15)).bind fun r16 => jn (((G92 lf ((r16.1, (r16.2.1, (r16.2.2.1, (r16.2.2.2.1, r16.2.2.2.2)))), y15))).bind fun r17 => cond (!r17) (some (.inl true)) (((G93 lf r16.1)).bind fun r18 => cond r18 (((G94 lf r16.2.2.2.1)).bind fun r19 => some (.inl (!r19))) (some (.inl false)))) (fun y20 : Bool => cond y20 (some (.inr ((bts []), (41 : Int)))) (some (.inl (w64 (y15 + (1 : Int))))))) (outR (((G95 lf x)).bind fun r21 => ((getI r21.2.2 (w64 ((x.length : Int) - (1 : Int))))).bind fun r22 => cond (decide (r22 > (8 : Int))) (some ((bts []), (41 : Int))) (jn (((getI r21.1 (w64 ((x.length : Int) - (1 : Int))))).bind fun r23 => cond (decide (r23 > (8000 : Int))) (some (.inl true)) (((getI r21.2.1 (w64 ((x.length : Int) - (1 : Int))))).bind fun r24 => some (.inl (decide (r24 > (30 : Int)))))) (fun y25 : Bool => cond y25 (some ((bts []), (2 : Int))) (((G96 lf lf (x, (w64 ((x.length : Int) - (1 : Int)))))).bind fun r26 => some (r26, (0 : Int)))))))) (0 : Int))
theorem F19_G (lf : Nat) (x : (List (Int × (Int × (Int × (ByteArray × Int)))))) : F19 Tryz.prog lf x = G19 lf x := (F19_eq lf x).trans (by
  unfold G19
  (try simp only [F91_G, F92_G, F93_G, F94_G, F95_G, F96_G, agree_self, Lib.toList_data]); first | done | rfl)
end Go.K
set_option linter.unusedVariables false
set_option maxRecDepth 100000
set_option maxHeartbeats 0
namespace Go.K
open Go.Sl Go.Sx Go.Proofs
def S128 : FuncId → Sp := fun g => match g with
  | 209 => { joins := [(12, [(.slot 7, .dat .i), (.slot 3, .own .i 3)]), (8, [(.slot 4, .dat (.sl .i)), (.cell 0 0 [3, 2], .dat (.nsl .i))])], loops := [(9, [(.slot 7, .dat .i), (.slot 3, .own .i 3)]), (3, [(.slot 4, .own .i 3), (.slot 13, .dat .i)]), (1, [(.slot 3, .own .i 3), (.cell 0 0 [3, 2], .dat (.nsl .i))])] }
  | 128 => { joins := [(9, [(.slot 60, .dat .bool)])], nz := [(11, [12])] }
  | 175 => { fz := [(4, [(.slot 6, .dat (.sl .i))])] }
  | _ => {}
noncomputable def F128 (P : Program) (lf : Nat) (x : tt [(true, (.pair .str (.pair (.sl (.pair .str (.pair .i .i))) (.sl (.pair .str (.pair .i (.pair .i (.pair (.sl (.pair .i (.pair .i (.pair .i (.pair .str .i))))) (.pair (.sl (.pair .i (.pair .i (.pair .i (.pair .str .i))))) (.sl .str)))))))))), (false, .i), (false, .i), (false, .i)]) : Option (tt [(false, (.sl .i)), (false, .bool)]) := fnF P (C19 P lf) S128 128 [(true, (.pair .str (.pair (.sl (.pair .str (.pair .i .i))) (.sl (.pair .str (.pair .i (.pair .i (.pair (.sl (.pair .i (.pair .i (.pair .i (.pair .str .i))))) (.pair (.sl (.pair .i (.pair .i (.pair .i (.pair .str .i))))) (.sl .str)))))))))), (false, .i), (false, .i), (false, .i)] [(false, (.sl .i)), (false, .bool)] lf x
noncomputable def C128 (P : Program) (lf : Nat) : FuncId → Option Con := extC (C19 P lf) 128 (dataCon [(true, (.pair .str (.pair (.sl (.pair .str (.pair .i .i))) (.sl (.pair .str (.pair .i (.pair .i (.pair (.sl (.pair .i (.pair .i (.pair .i (.pair .str .i))))) (.pair (.sl (.pair .i (.pair .i (.pair .i (.pair .str .i))))) (.sl .str)))))))))), (false, .i), (false, .i), (false, .i)] [(false, (.sl .i)), (false, .bool)] (F128 P lf))
theorem F128_eq (lf : Nat) (a0 : ByteArray) (a1 : (List (ByteArray × (Int × Int)))) (a2 : (List (ByteArray × (Int × (Int × ((List (Int × (Int × (Int × (ByteArray × Int))))) × ((List (Int × (Int × (Int × (ByteArray × Int))))) × (List ByteArray)))))))) (a3 : Int) (a4 : Int) (a5 : Int) : F128 Tryz.prog lf ((a0, (a1, a2)), (a3, (a4, a5))) =
  ((F131 Tryz.prog lf ())).bind fun r88 => ((F131 Tryz.prog lf ())).bind fun r89 => ((F116 Tryz.prog lf (a0, (a1, a2)))).bind fun r90 => ((F115 Tryz.prog lf (a1, r90))).bind fun r91 => ((mkC (r91.length : Int) (0 : Int))).bind fun r92 => iter lf (fun y93 : ((List Int) × (List Int)) => iter lf (fun y94 : ((List Int) × Int) => cond (decide (y94.2 < (y93.1.length : Int))) (((getI y93.1 y94.2)).bind fun r95 => ((getI y93.1 y94.2)).bind fun r96 => ((getI r91 y94.2)).bind fun r97 => ((getI r97 r96)).bind fun r98 => ((appC y94.1 [r98])).bind fun r99 => some (.inl (r99, (w64 (y94.2 + (1 : Int)))))) (outR (jn (((F130 Tryz.prog lf ((a0, (a1, a2)), (a5, (y94.1, ()))))).bind fun r100 => ((getI r100.1 a3)).bind fun r101 => cond (!r101) (some (.inl (y94.1, y93.2))) (((getI r100.1 a4)).bind fun r102 => cond (!r102) (some (.inl (y94.1, y93.2))) (jn (((getI a2 a3)).bind fun r103 => ((F147 Tryz.prog lf ((a1, y94.1), (r103.2.2.2.2.1, ())))).bind fun r104 => cond r104 (((getI a2 a4)).bind fun r105 => ((F147 Tryz.prog lf ((a1, y94.1), (r105.2.2.2.2.1, ())))).bind fun r106 => some (.inl r106)) (some (.inl false))) (fun y107 : Bool => cond y107 (some (.inr (.inr (([] : List Int), false)))) (cond (decide ((y93.2.length : Int) = (0 : Int))) (((neC y94.1)).bind fun r108 => some (.inl (y94.1, y94.1))) (some (.inl (y94.1, y93.2)))))))) (fun y109 : ((List Int) × (List Int)) => jn (iter lf (fun y110 : (Int × (List Int)) => cond (decide (y110.1 ≥ (0 : Int))) (((getI y110.2 y110.1)).bind fun r111 => ((getI y110.2 y110.1)).bind fun r112 => ((getI r91 y110.1)).bind fun r113 => cond (decide (r112 = (w64 ((r113.length : Int) - (1 : Int))))) (((getI y110.2 y110.1)).bind fun r114 => ((getI y110.2 y110.1)).bind fun r115 => ((setI y110.2 y110.1 (0 : Int))).bind fun r116 => some (.inl ((w64 (y110.1 - (1 : Int))), r116))) (some (.inr (.inl (y110.1, y110.2))))) (some (.inr (.inl (y110.1, y110.2))))) ((w64 ((r91.length : Int) - (1 : Int))), y93.1)) (fun y117 : (Int × (List Int)) => cond (decide (y117.1 < (0 : Int))) (outR (agree (some (y109.2, (!(decide ((y109.2.length : Int) = (0 : Int)))))) (some (y109.2, (!(decide ((y109.2.length : Int) = (0 : Int)))))))) (((getI y117.2 y117.1)).bind fun r118 => ((getI y117.2 y117.1)).bind fun r119 => ((getI y117.2 y117.1)).bind fun r120 => ((getI y117.2 y117.1)).bind fun r121 => ((setI y117.2 y117.1 (w64 (r119 + (1 : Int))))).bind fun r122 => some (.inl (r122, y109.2)))))))) (([] : List Int), (0 : Int))) (r92, ([] : List Int)) := by kernel_rfl
def S41 : FuncId → Sp := fun g => match g with
  | 41 => { loops := [(12, [(.slot 5, .own (.pair .i (.pair .i (.pair .i (.sl .i)))) 75), (.slot 35, .dat .i)]), (9, [(.slot 5, .own (.pair .i (.pair .i (.pair .i (.sl .i)))) 75), (.slot 7, .dat .i)]), (6, [(.slot 5, .own (.pair .i (.pair .i (.pair .i (.sl .i)))) 75), (.slot 20, .dat .i)])] }
  | 128 => { nz := [(11, [12])] }
  | _ => {}
noncomputable def F41 (P : Program) (lf : Nat) (x : tt [(true, (.pair .str (.pair (.sl (.pair .str (.pair .i .i))) (.sl (.pair .str (.pair .i (.pair .i (.pair (.sl (.pair .i (.pair .i (.pair .i (.pair .str .i))))) (.pair (.sl (.pair .i (.pair .i (.pair .i (.pair .str .i))))) (.sl .str))))))))))]) : Option (tt [(false, (.sl (.pair .i (.pair .i (.pair .i (.sl .i)))))), (false, .i)]) := fnF P (C128 P lf) S41 41 [(true, (.pair .str (.pair (.sl (.pair .str (.pair .i .i))) (.sl (.pair .str (.pair .i (.pair .i (.pair (.sl (.pair .i (.pair .i (.pair .i (.pair .str .i))))) (.pair (.sl (.pair .i (.pair .i (.pair .i (.pair .str .i))))) (.sl .str))))))))))] [(false, (.sl (.pair .i (.pair .i (.pair .i (.sl .i)))))), (false, .i)] lf x
noncomputable def C41 (P : Program) (lf : Nat) : FuncId → Option Con := extC (C128 P lf) 41 (dataCon [(true, (.pair .str (.pair (.sl (.pair .str (.pair .i .i))) (.sl (.pair .str (.pair .i (.pair .i (.pair (.sl (.pair .i (.pair .i (.pair .i (.pair .str .i))))) (.pair (.sl (.pair .i (.pair .i (.pair .i (.pair .str .i))))) (.sl .str))))))))))] [(false, (.sl (.pair .i (.pair .i (.pair .i (.sl .i)))))), (false, .i)] (F41 P lf))
theorem F41_eq (lf : Nat) (a0 : ByteArray) (a1 : (List (ByteArray × (Int × Int)))) (a2 : (List (ByteArray × (Int × (Int × ((List (Int × (Int × (Int × (ByteArray × Int))))) × ((List (Int × (Int × (Int × (ByteArray × Int))))) × (List ByteArray)))))))) : F41 Tryz.prog lf (a0, (a1, a2)) =
  ((F31 Tryz.prog lf (a0, (a1, a2)))).bind fun r14 => cond (!(decide (r14 = (0 : Int)))) (some (([] : List (Int × (Int × (Int × (List Int))))), r14)) (iter lf (fun y15 : ((List (Int × (Int × (Int × (List Int))))) × Int) => cond (decide (y15.2 < (a2.length : Int))) (iter lf (fun y16 : ((List (Int × (Int × (Int × (List Int))))) × Int) => cond (decide (y16.2 < (a2.length : Int))) (((F127 Tryz.prog lf (a0, (a1, a2)))).bind fun r17 => iter lf (fun y18 : ((List (Int × (Int × (Int × (List Int))))) × Int) => cond (decide (y18.2 < (r17.length : Int))) (((getI r17 y18.2)).bind fun r19 => ((F128 Tryz.prog lf ((a0, (a1, a2)), (y15.2, (y16.2, r19))))).bind fun r20 => cond r20.2 (((appC y18.1 [(y15.2, (y16.2, (r19, r20.1)))])).bind fun r21 => some (.inr (.inl (r21, (w64 (y16.2 + (1 : Int))))))) (some (.inl (y18.1, (w64 (y18.2 + (1 : Int))))))) (some (.inr (.inl (y18.1, (w64 (y16.2 + (1 : Int)))))))) (y16.1, (0 : Int))) (some (.inr (.inl (y16.1, (w64 (y15.2 + (1 : Int)))))))) (y15.1, (w64 (y15.2 + (1 : Int))))) (some (.inr (y15.1, (0 : Int))))) (([] : List (Int × (Int × (Int × (List Int))))), (0 : Int))) := by kernel_rfl
def S102 : FuncId → Sp := fun g => match g with
  | 128 => { nz := [(11, [12])] }
  | _ => {}
noncomputable def F102 (P : Program) (lf : Nat) (x : tt []) : Option (tt [(false, .str)]) := fnF P (C41 P lf) S102 102 [] [(false, .str)] lf x
noncomputable def C102 (P : Program) (lf : Nat) : FuncId → Option Con := extC (C41 P lf) 102 (dataCon [] [(false, .str)] (F102 P lf))
theorem F102_eq (lf : Nat) : F102 Tryz.prog lf () =
  some (bts [99, 111, 100, 101, 32, 112, 111, 114, 116, 10, 102, 97, 99, 116, 32, 100, 114, 97, 102, 116, 32, 48, 32, 49, 50, 48, 48, 48, 10, 102, 97, 99, 116, 32, 114, 97, 105, 110, 32, 48, 32, 53, 48, 10, 114, 117, 108, 101, 32, 100, 101, 101, 112, 32, 48, 32, 57, 57, 32, 119, 104, 101, 110, 32, 116, 114, 117, 101, 32, 109, 117, 115, 116, 32, 100, 114, 97, 102, 116, 32, 60, 61, 32, 57, 48, 48, 48, 10, 114, 117, 108, 101, 32, 116, 105, 100, 101, 32, 53, 48, 32, 50, 48, 48, 32, 119, 104, 101, 110, 32, 114, 97, 105, 110, 32, 62, 61, 32, 49, 48, 32, 109, 117, 115, 116, 32, 100, 114, 97, 102, 116, 32, 60, 61, 32, 57, 53, 48, 48, 32, 117, 110, 108, 101, 115, 115, 32, 100, 101, 101, 112, 10, 114, 117, 108, 101, 32, 108, 105, 103, 104, 116, 32, 48, 32, 50, 48, 48, 32, 119, 104, 101, 110, 32, 114, 97, 105, 110, 32, 60, 32, 49, 48, 32, 109, 117, 115, 116, 32, 100, 114, 97, 102, 116, 32, 62, 32, 57, 50, 48, 48, 10]) := by kernel_rfl
def S22 : FuncId → Sp := fun g => match g with
  | 22 => { joins := [(10, [(.slot 19, .dat .bool)])] }
  | 128 => { nz := [(11, [12])] }
  | _ => {}
noncomputable def F22 (P : Program) (lf : Nat) (x : tt []) : Option (tt [(false, .bool)]) := fnF P (C102 P lf) S22 22 [] [(false, .bool)] lf x
noncomputable def C22 (P : Program) (lf : Nat) : FuncId → Option Con := extC (C102 P lf) 22 (dataCon [] [(false, .bool)] (F22 P lf))
theorem F22_eq (lf : Nat) : F22 Tryz.prog lf () =
  ((F102 Tryz.prog lf ())).bind fun r12 => ((F49 Tryz.prog lf r12)).bind fun r13 => ((F23 Tryz.prog lf ((r13.1.1, (r13.1.2.1, r13.1.2.2)), ((150 : Int), [((bts [100, 114, 97, 102, 116]), ((9000 : Int), (9300 : Int))), ((bts [114, 97, 105, 110]), ((0 : Int), (5 : Int)))])))).bind fun r14 => ((F24 Tryz.prog lf ((r13.1.1, (r13.1.2.1, r13.1.2.2)), ((150 : Int), [((bts [100, 114, 97, 102, 116]), ((9000 : Int), (9300 : Int))), ((bts [114, 97, 105, 110]), ((0 : Int), (5 : Int)))])))).bind fun r15 => ((F41 Tryz.prog lf (r13.1.1, (r13.1.2.1, r13.1.2.2)))).bind fun r16 => ((F47 Tryz.prog lf ((r13.1.1, (r13.1.2.1, r13.1.2.2)), (1 : Int)))).bind fun r17 => ((F17 Tryz.prog lf (bts [114, 97, 105, 110, 32, 62, 61, 32, 49, 48, 32, 111, 114, 32, 110, 111, 116, 32, 100, 114, 97, 102, 116, 32, 61, 32, 51]))).bind fun r18 => ((F19 Tryz.prog lf r18.1)).bind fun r19 => jn (cond (decide (r13.2.2 = (0 : Int))) (cond (decide (r14.2 = (0 : Int))) (cond (decide (r15.2.2 = (0 : Int))) (cond (decide (r16.2 = (0 : Int))) (cond (decide (r17.2 = (0 : Int))) (cond (decide (r18.2.2 = (0 : Int))) (some (.inl (decide (r19.2 = (0 : Int))))) (some (.inl false))) (some (.inl false))) (some (.inl false))) (some (.inl false))) (some (.inl false))) (some (.inl false))) (fun y20 : Bool => cond y20 (cond (decide (r14.1 = (2 : Int))) (cond (decide (r15.1 = (2 : Int))) (((F62 Tryz.prog lf (r15.2.1, [(9000 : Int), (0 : Int)]))).bind fun r21 => cond r21 (((F61 Tryz.prog lf (r16.1, [((0 : Int), ((2 : Int), ((0 : Int), [(0 : Int), (0 : Int)])))]))).bind fun r22 => cond r22 (cond (decide (r17.1.1 = (100 : Int))) (((F62 Tryz.prog lf (r17.1.2, [(9501 : Int), (10 : Int)]))).bind fun r23 => cond r23 (cond (decide ((r18.1.length : Int) = (5 : Int))) (some ((ByteArray.toList r19.1) == [(UInt8.ofNat 114), (UInt8.ofNat 97), (UInt8.ofNat 105), (UInt8.ofNat 110), (UInt8.ofNat 32), (UInt8.ofNat 62), (UInt8.ofNat 61), (UInt8.ofNat 32), (UInt8.ofNat 49), (UInt8.ofNat 48), (UInt8.ofNat 32), (UInt8.ofNat 111), (UInt8.ofNat 114), (UInt8.ofNat 32), (UInt8.ofNat 100), (UInt8.ofNat 114), (UInt8.ofNat 97), (UInt8.ofNat 102), (UInt8.ofNat 116), (UInt8.ofNat 32), (UInt8.ofNat 33), (UInt8.ofNat 61), (UInt8.ofNat 32), (UInt8.ofNat 51)])) (some false)) (some false)) (some false)) (some false)) (some false)) (some false)) (some false)) (some false)) := by kernel_rfl
end Go.K
set_option linter.unusedVariables false
set_option linter.unusedSimpArgs false
set_option maxRecDepth 100000
set_option maxHeartbeats 0
namespace Go.K
open Go.Sl Go.Sx Go.Proofs
noncomputable def G128 (lf : Nat) (x : ((ByteArray × ((List (ByteArray × (Int × Int))) × (List (ByteArray × (Int × (Int × ((List (Int × (Int × (Int × (ByteArray × Int))))) × ((List (Int × (Int × (Int × (ByteArray × Int))))) × (List ByteArray))))))))) × (Int × (Int × Int)))) : Option (((List Int) × Bool)) :=
  ((G131 lf ())).bind fun r88 => ((G131 lf ())).bind fun r89 => ((G116 lf (x.1.1, (x.1.2.1, x.1.2.2)))).bind fun r90 => ((G115 lf (x.1.2.1, r90))).bind fun r91 => ((mkC (r91.length : Int) (0 : Int))).bind fun r92 => iter lf (fun y93 : ((List Int) × (List Int)) => iter lf (fun y94 : ((List Int) × Int) => cond (decide (y94.2 < (y93.1.length : Int))) (((getI y93.1 y94.2)).bind fun r95 => ((getI y93.1 y94.2)).bind fun r96 => ((getI r91 y94.2)).bind fun r97 => ((getI r97 r96)).bind fun r98 => ((appC y94.1 [r98])).bind fun r99 => some (.inl (r99, (w64 (y94.2 + (1 : Int)))))) (outR (jn (((G130 lf ((x.1.1, (x.1.2.1, x.1.2.2)), (x.2.2.2, (y94.1, ()))))).bind fun r100 => ((getI r100.1 x.2.1)).bind fun r101 => cond (!r101) (some (.inl (y94.1, y93.2))) (((getI r100.1 x.2.2.1)).bind fun r102 => cond (!r102) (some (.inl (y94.1, y93.2))) (jn (((getI x.1.2.2 x.2.1)).bind fun r103 => ((G147 lf ((x.1.2.1, y94.1), (r103.2.2.2.2.1, ())))).bind fun r104 => cond r104 (((getI x.1.2.2 x.2.2.1)).bind fun r105 => ((G147 lf ((x.1.2.1, y94.1), (r105.2.2.2.2.1, ())))).bind fun r106 => some (.inl r106)) (some (.inl false))) (fun y107 : Bool => cond y107 (some (.inr (.inr (([] : List Int), false)))) (cond (decide ((y93.2.length : Int) = (0 : Int))) (((neC y94.1)).bind fun r108 => some (.inl (y94.1, y94.1))) (some (.inl (y94.1, y93.2)))))))) (fun y109 : ((List Int) × (List Int)) => jn (iter lf (fun y110 : (Int × (List Int)) => cond (decide (y110.1 ≥ (0 : Int))) (((getI y110.2 y110.1)).bind fun r111 => ((getI y110.2 y110.1)).bind fun r112 => ((getI r91 y110.1)).bind fun r113 => cond (decide (r112 = (w64 ((r113.length : Int) - (1 : Int))))) (((getI y110.2 y110.1)).bind fun r114 => ((getI y110.2 y110.1)).bind fun r115 => ((setI y110.2 y110.1 (0 : Int))).bind fun r116 => some (.inl ((w64 (y110.1 - (1 : Int))), r116))) (some (.inr (.inl (y110.1, y110.2))))) (some (.inr (.inl (y110.1, y110.2))))) ((w64 ((r91.length : Int) - (1 : Int))), y93.1)) (fun y117 : (Int × (List Int)) => cond (decide (y117.1 < (0 : Int))) (outR (some (y109.2, (!(decide ((y109.2.length : Int) = (0 : Int))))))) (((getI y117.2 y117.1)).bind fun r118 => ((getI y117.2 y117.1)).bind fun r119 => ((getI y117.2 y117.1)).bind fun r120 => ((getI y117.2 y117.1)).bind fun r121 => ((setI y117.2 y117.1 (w64 (r119 + (1 : Int))))).bind fun r122 => some (.inl (r122, y109.2)))))))) (([] : List Int), (0 : Int))) (r92, ([] : List Int))
theorem F128_G (lf : Nat) (x : ((ByteArray × ((List (ByteArray × (Int × Int))) × (List (ByteArray × (Int × (Int × ((List (Int × (Int × (Int × (ByteArray × Int))))) × ((List (Int × (Int × (Int × (ByteArray × Int))))) × (List ByteArray))))))))) × (Int × (Int × Int)))) : F128 Tryz.prog lf x = G128 lf x := (F128_eq lf x.1.1 x.1.2.1 x.1.2.2 x.2.1 x.2.2.1 x.2.2.2).trans (by
  unfold G128
  (try simp only [F115_G, F116_G, F130_G, F131_G, F147_G, agree_self, Lib.toList_data]); first | done | rfl)
noncomputable def G41 (lf : Nat) (x : (ByteArray × ((List (ByteArray × (Int × Int))) × (List (ByteArray × (Int × (Int × ((List (Int × (Int × (Int × (ByteArray × Int))))) × ((List (Int × (Int × (Int × (ByteArray × Int))))) × (List ByteArray)))))))))) : Option (((List (Int × (Int × (Int × (List Int))))) × Int)) :=
  ((G31 lf (x.1, (x.2.1, x.2.2)))).bind fun r14 => cond (!(decide (r14 = (0 : Int)))) (some (([] : List (Int × (Int × (Int × (List Int))))), r14)) (iter lf (fun y15 : ((List (Int × (Int × (Int × (List Int))))) × Int) => cond (decide (y15.2 < (x.2.2.length : Int))) (iter lf (fun y16 : ((List (Int × (Int × (Int × (List Int))))) × Int) => cond (decide (y16.2 < (x.2.2.length : Int))) (((G127 lf (x.1, (x.2.1, x.2.2)))).bind fun r17 => iter lf (fun y18 : ((List (Int × (Int × (Int × (List Int))))) × Int) => cond (decide (y18.2 < (r17.length : Int))) (((getI r17 y18.2)).bind fun r19 => ((G128 lf ((x.1, (x.2.1, x.2.2)), (y15.2, (y16.2, r19))))).bind fun r20 => cond r20.2 (((appC y18.1 [(y15.2, (y16.2, (r19, r20.1)))])).bind fun r21 => some (.inr (.inl (r21, (w64 (y16.2 + (1 : Int))))))) (some (.inl (y18.1, (w64 (y18.2 + (1 : Int))))))) (some (.inr (.inl (y18.1, (w64 (y16.2 + (1 : Int)))))))) (y16.1, (0 : Int))) (some (.inr (.inl (y16.1, (w64 (y15.2 + (1 : Int)))))))) (y15.1, (w64 (y15.2 + (1 : Int))))) (some (.inr (y15.1, (0 : Int))))) (([] : List (Int × (Int × (Int × (List Int))))), (0 : Int)))
theorem F41_G (lf : Nat) (x : (ByteArray × ((List (ByteArray × (Int × Int))) × (List (ByteArray × (Int × (Int × ((List (Int × (Int × (Int × (ByteArray × Int))))) × ((List (Int × (Int × (Int × (ByteArray × Int))))) × (List ByteArray)))))))))) : F41 Tryz.prog lf x = G41 lf x := (F41_eq lf x.1 x.2.1 x.2.2).trans (by
  unfold G41
  (try simp only [F31_G, F127_G, F128_G, agree_self, Lib.toList_data]); first | done | rfl)
noncomputable def G102 (lf : Nat) (x : Unit) : Option (ByteArray) :=
  some (bts [99, 111, 100, 101, 32, 112, 111, 114, 116, 10, 102, 97, 99, 116, 32, 100, 114, 97, 102, 116, 32, 48, 32, 49, 50, 48, 48, 48, 10, 102, 97, 99, 116, 32, 114, 97, 105, 110, 32, 48, 32, 53, 48, 10, 114, 117, 108, 101, 32, 100, 101, 101, 112, 32, 48, 32, 57, 57, 32, 119, 104, 101, 110, 32, 116, 114, 117, 101, 32, 109, 117, 115, 116, 32, 100, 114, 97, 102, 116, 32, 60, 61, 32, 57, 48, 48, 48, 10, 114, 117, 108, 101, 32, 116, 105, 100, 101, 32, 53, 48, 32, 50, 48, 48, 32, 119, 104, 101, 110, 32, 114, 97, 105, 110, 32, 62, 61, 32, 49, 48, 32, 109, 117, 115, 116, 32, 100, 114, 97, 102, 116, 32, 60, 61, 32, 57, 53, 48, 48, 32, 117, 110, 108, 101, 115, 115, 32, 100, 101, 101, 112, 10, 114, 117, 108, 101, 32, 108, 105, 103, 104, 116, 32, 48, 32, 50, 48, 48, 32, 119, 104, 101, 110, 32, 114, 97, 105, 110, 32, 60, 32, 49, 48, 32, 109, 117, 115, 116, 32, 100, 114, 97, 102, 116, 32, 62, 32, 57, 50, 48, 48, 10])
theorem F102_G (lf : Nat) (x : Unit) : F102 Tryz.prog lf x = G102 lf x := (F102_eq lf ).trans (by
  unfold G102
  (try simp only [agree_self, Lib.toList_data]); first | done | rfl)
noncomputable def G22 (lf : Nat) (x : Unit) : Option (Bool) :=
  ((G102 lf ())).bind fun r12 => ((G49 lf r12)).bind fun r13 => ((G23 lf ((r13.1.1, (r13.1.2.1, r13.1.2.2)), ((150 : Int), [((bts [100, 114, 97, 102, 116]), ((9000 : Int), (9300 : Int))), ((bts [114, 97, 105, 110]), ((0 : Int), (5 : Int)))])))).bind fun r14 => ((G24 lf ((r13.1.1, (r13.1.2.1, r13.1.2.2)), ((150 : Int), [((bts [100, 114, 97, 102, 116]), ((9000 : Int), (9300 : Int))), ((bts [114, 97, 105, 110]), ((0 : Int), (5 : Int)))])))).bind fun r15 => ((G41 lf (r13.1.1, (r13.1.2.1, r13.1.2.2)))).bind fun r16 => ((G47 lf ((r13.1.1, (r13.1.2.1, r13.1.2.2)), (1 : Int)))).bind fun r17 => ((G17 lf (bts [114, 97, 105, 110, 32, 62, 61, 32, 49, 48, 32, 111, 114, 32, 110, 111, 116, 32, 100, 114, 97, 102, 116, 32, 61, 32, 51]))).bind fun r18 => ((G19 lf r18.1)).bind fun r19 => jn (cond (decide (r13.2.2 = (0 : Int))) (cond (decide (r14.2 = (0 : Int))) (cond (decide (r15.2.2 = (0 : Int))) (cond (decide (r16.2 = (0 : Int))) (cond (decide (r17.2 = (0 : Int))) (cond (decide (r18.2.2 = (0 : Int))) (some (.inl (decide (r19.2 = (0 : Int))))) (some (.inl false))) (some (.inl false))) (some (.inl false))) (some (.inl false))) (some (.inl false))) (some (.inl false))) (fun y20 : Bool => cond y20 (cond (decide (r14.1 = (2 : Int))) (cond (decide (r15.1 = (2 : Int))) (((G62 lf (r15.2.1, [(9000 : Int), (0 : Int)]))).bind fun r21 => cond r21 (((G61 lf (r16.1, [((0 : Int), ((2 : Int), ((0 : Int), [(0 : Int), (0 : Int)])))]))).bind fun r22 => cond r22 (cond (decide (r17.1.1 = (100 : Int))) (((G62 lf (r17.1.2, [(9501 : Int), (10 : Int)]))).bind fun r23 => cond r23 (cond (decide ((r18.1.length : Int) = (5 : Int))) (some (r19.1.data.toList == [(UInt8.ofNat 114), (UInt8.ofNat 97), (UInt8.ofNat 105), (UInt8.ofNat 110), (UInt8.ofNat 32), (UInt8.ofNat 62), (UInt8.ofNat 61), (UInt8.ofNat 32), (UInt8.ofNat 49), (UInt8.ofNat 48), (UInt8.ofNat 32), (UInt8.ofNat 111), (UInt8.ofNat 114), (UInt8.ofNat 32), (UInt8.ofNat 100), (UInt8.ofNat 114), (UInt8.ofNat 97), (UInt8.ofNat 102), (UInt8.ofNat 116), (UInt8.ofNat 32), (UInt8.ofNat 33), (UInt8.ofNat 61), (UInt8.ofNat 32), (UInt8.ofNat 51)])) (some false)) (some false)) (some false)) (some false)) (some false)) (some false)) (some false)) (some false))
theorem F22_G (lf : Nat) (x : Unit) : F22 Tryz.prog lf x = G22 lf x := (F22_eq lf ).trans (by
  unfold G22
  (try simp only [F17_G, F19_G, F23_G, F24_G, F41_G, F47_G, F49_G, F61_G, F62_G, F102_G, agree_self, Lib.toList_data]); first | done | rfl)
end Go.K
set_option linter.unusedVariables false
set_option linter.unusedSimpArgs false
namespace Go.K
open Go.Sl Go.Sx Go.Proofs
theorem w64_id {n : Int} (h1 : -9223372036854775808 ≤ n) (h2 : n ≤ 9223372036854775807) : w64 n = n := by
  unfold w64 IntKind.wrap
  simp [IntKind.bits, IntKind.signed]
  omega
theorem getI_nat {α : Type} {xs : List α} {i : Nat} {x : α} (h : xs[i]? = some x) : getI xs (i : Int) = some x := by simp [getI, h]
theorem byteAt_nat {s : ByteArray} {i : Nat} {b : UInt8} (h : s.data.toList[i]? = some b) : byteAt s (i : Int) = some ((b.toNat : Nat) : Int) := by
  unfold byteAt
  rw [if_pos (by omega)]
  have : s[(i : Int).toNat]? = some b := by
    show s[i]? = some b
    have hlt : i < s.data.size := by
      have := (List.getElem?_eq_some_iff.1 h).1
      simpa using this
    rw [getElem?_pos s i hlt]
    have h2 := (List.getElem?_eq_some_iff.1 h).2
    rw [← h2]; simp; rfl
  rw [this]; rfl
theorem size_len (s : ByteArray) : s.size = s.data.toList.length := by simp
theorem ext_data {s t : ByteArray} (h : s.data.toList = t.data.toList) : s = t := by
  obtain ⟨⟨a⟩⟩ := s; obtain ⟨⟨b⟩⟩ := t
  simp at h; rw [h]
theorem appC_of {α : Type} [b : Inhabited (Byt α)] {xs ys : List α} (h : xs.length + ys.length ≤ 1099511627776) (hb : b.default.n ≤ 128 := by decide) : appC xs ys = some (xs ++ ys) := by
  unfold appC; rw [if_pos]
  have := Nat.mul_le_mul h hb
  omega
theorem appC_len {α : Type} [b : Inhabited (Byt α)] {xs ys : List α} (h : (xs.length + ys.length) * b.default.n ≤ 140737488355328) : appC xs ys = some (xs ++ ys) := by unfold appC; rw [if_pos h]
def foldS {σ A ρ : Type} (step : σ → Nat → A → A ⊕ ρ) : List σ → Nat → A → A ⊕ ρ
  | [], _, a => .inl a
  | x :: r, i, a => match step x i a with
    | .inl a' => foldS step r (i + 1) a'
    | .inr e => .inr e
end Go.K
set_option linter.unusedVariables false
set_option linter.unusedSimpArgs false
namespace Go.K
open Go.Sl Go.Sx Go.Proofs
abbrev LF : Nat := 9223372036854775808
theorem jl {α ρ : Type} (y : α) (f : α → Option ρ) : jn (some (.inl y)) f = f y := rfl
theorem jr {α ρ : Type} (r : ρ) (f : α → Option ρ) : jn (some (.inr r)) f = some r := rfl
theorem succ_W {i : Nat} (h : i + 1 < LF) : w64 ((i : Int) + 1) = ((i + 1 : Nat) : Int) := by
  have : i + 1 < 9223372036854775808 := h
  rw [w64_id (by omega) (by omega)]; omega
theorem w64_in {n : Int} (h : -9223372036854775808 ≤ n ∧ n ≤ 9223372036854775807) : w64 n = n := w64_id (by omega) (by omega)
theorem iter_go {σ A α ρ : Type} {f : α → Option (α ⊕ ρ)} (mk : Int → A → α) (step : σ → Nat → A → A ⊕ ρ) (good : Nat → A → Prop) (all : List σ) (fin : A → Option ρ) (a : A)
    (h1 : ∀ i x a, all[i]? = some x → good i a → f (mk (i : Nat) a) = some (match step x i a with | .inl a' => .inl (mk ((i + 1 : Nat) : Int) a') | .inr e => .inr e))
    (hg : ∀ i x a a', all[i]? = some x → good i a → step x i a = .inl a' → good (i + 1) a')
    (h2 : ∀ a, good all.length a → f (mk (all.length : Nat) a) = outR (fin a)) (hl : all.length < LF) (h0 : good 0 a) :
    iter LF f (mk 0 a) = match foldS step all 0 a with | .inl a' => fin a' | .inr e => some e := by
  suffices H : ∀ (k i : Nat) (a : A) (lf : Nat), i + k = all.length → k < lf → good i a → iter lf f (mk (i : Nat) a) = match foldS step (all.drop i) i a with | .inl a' => fin a' | .inr e => some e by
    have := H all.length 0 a LF (by omega) hl h0
    simpa using this
  intro k
  induction k with
  | zero =>
    intro i a lf hk hlf hgd
    obtain ⟨lf, rfl⟩ : ∃ n, lf = n + 1 := ⟨lf - 1, by omega⟩
    have hi : i = all.length := by omega
    subst hi
    simp only [iter, h2 a hgd, List.drop_length, foldS]
    cases fin a <;> rfl
  | succ k ih =>
    intro i a lf hk hlf hgd
    obtain ⟨lf, rfl⟩ : ∃ n, lf = n + 1 := ⟨lf - 1, by omega⟩
    have hlt : i < all.length := by omega
    have hx : all[i]? = some all[i] := List.getElem?_eq_getElem hlt
    simp only [iter, h1 i _ a hx hgd]
    rw [List.drop_eq_getElem_cons hlt]
    simp only [foldS]
    cases hs : step all[i] i a with
    | inl a' => exact ih (i + 1) a' lf (by omega) (by omega) (hg i _ a a' hx hgd hs)
    | inr e => rfl
def scan {σ ρ : Type} (g : σ → Nat → Option ρ) : List σ → Nat → Option ρ
  | [], _ => none
  | x :: r, i => match g x i with
    | some e => some e
    | none => scan g r (i + 1)
theorem foldS_scan {σ ρ : Type} (g : σ → Nat → Option ρ) : ∀ (l : List σ) (i : Nat), foldS (fun x i (_ : Unit) => match g x i with | some e => .inr e | none => .inl ()) l i () = match scan g l i with | some e => .inr e | none => .inl ()
  | [], i => rfl
  | x :: l, i => by
    simp only [foldS, scan]
    cases g x i with
    | some e => rfl
    | none => exact foldS_scan g l (i + 1)
theorem iter_scan {σ ρ : Type} {f : Int → Option (Int ⊕ ρ)} (g : σ → Nat → Option ρ) (all : List σ) (fin : Option ρ)
    (h1 : ∀ i x, all[i]? = some x → scan g (all.take i) 0 = none → f ((i : Nat) : Int) = some (match g x i with | some e => .inr e | none => .inl ((i + 1 : Nat) : Int)))
    (h2 : scan g all 0 = none → f ((all.length : Nat) : Int) = outR fin) (hl : all.length < LF) :
    iter LF f 0 = match scan g all 0 with | some e => some e | none => fin := by
  have tk : ∀ (l m : List σ) (i : Nat), scan g (l ++ m) i = match scan g l i with | some e => some e | none => scan g m (i + l.length) := by
    intro l
    induction l with
    | nil => intro m i; simp [scan]
    | cons x l ih =>
      intro m i
      simp only [List.cons_append, scan]
      cases g x i with
      | some e => rfl
      | none => simp only [ih]; rw [show i + 1 + l.length = i + (x :: l).length by simp; omega]
  have key := iter_go (f := f) (fun i (_ : Unit) => i) (fun x i _ => match g x i with | some e => .inr e | none => .inl ()) (fun i _ => scan g (all.take i) 0 = none) all (fun _ => fin) ()
    (fun i x a hx hg => by
      rw [h1 i x hx hg]
      cases g x i <;> rfl)
    (fun i x a a' hx hg hs => by
      have hlt := (List.getElem?_eq_some_iff.1 hx).1
      have hxe := (List.getElem?_eq_some_iff.1 hx).2
      have e1 : all.take (i + 1) = all.take i ++ [x] := by rw [List.take_add_one, hx]; rfl
      rw [e1, tk, hg]
      simp only [scan, List.length_take, Nat.zero_add]
      rw [show min i all.length = i by omega]
      cases h : g x i with
      | some e => rw [h] at hs; cases hs
      | none => rfl)
    (fun a hg => h2 (by simpa using hg)) hl (by simp [scan])
  rw [key, foldS_scan]
  cases scan g all 0 <;> rfl
def foldI {σ A : Type} (g : σ → Nat → A → A) : List σ → Nat → A → A
  | [], _, a => a
  | x :: r, i, a => foldI g r (i + 1) (g x i a)
theorem foldS_foldI {σ A ρ : Type} (g : σ → Nat → A → A) : ∀ (l : List σ) (i : Nat) (a : A), foldS (ρ := ρ) (fun x i a => .inl (g x i a)) l i a = .inl (foldI g l i a)
  | [], _, _ => rfl
  | x :: l, i, a => by simp only [foldS, foldI]; exact foldS_foldI g l (i + 1) _
theorem iter_foldI {σ A α ρ : Type} {f : α → Option (α ⊕ ρ)} (mk : Int → A → α) (g : σ → Nat → A → A) (good : Nat → A → Prop) (all : List σ) (fin : A → Option ρ) (a : A)
    (h1 : ∀ i x a, all[i]? = some x → good i a → f (mk (i : Nat) a) = some (.inl (mk ((i + 1 : Nat) : Int) (g x i a))))
    (hg : ∀ i x a, all[i]? = some x → good i a → good (i + 1) (g x i a))
    (h2 : ∀ a, good all.length a → f (mk (all.length : Nat) a) = outR (fin a)) (hl : all.length < LF) (h0 : good 0 a) :
    iter LF f (mk 0 a) = fin (foldI g all 0 a) := by
  rw [iter_go mk (fun x i a => .inl (g x i a)) good all fin a h1 (fun i x a a' hx hgd hs => by cases hs; exact hg i x a hx hgd) h2 hl h0, foldS_foldI]
theorem foldI_const {σ A : Type} (g : σ → A → A) : ∀ (l : List σ) (i : Nat) (a : A), foldI (fun x _ a => g x a) l i a = l.foldl (fun a x => g x a) a
  | [], _, _ => rfl
  | x :: l, i, a => by simp only [foldI, List.foldl_cons]; exact foldI_const g l (i + 1) _
def idx {σ : Type} (p : σ → Bool) : List σ → Nat → Option Nat
  | [], _ => none
  | x :: r, i => bif p x then some i else idx p r (i + 1)
theorem scan_idx {σ ρ : Type} (p : σ → Bool) (F : Nat → ρ) : ∀ (l : List σ) (i : Nat), scan (fun x i => bif p x then some (F i) else none) l i = (idx p l i).map F
  | [], _ => rfl
  | x :: l, i => by
    simp only [scan, idx]
    cases p x with
    | true => rfl
    | false => exact scan_idx p F l (i + 1)
theorem idx_shift {σ : Type} (p : σ → Bool) : ∀ (l : List σ) (i : Nat), idx p l i = (idx p l 0).map (· + i)
  | [], _ => rfl
  | x :: l, i => by
    simp only [idx]
    cases p x with
    | true => simp
    | false =>
      simp only [cond_false]
      rw [idx_shift p l (i + 1), idx_shift p l (0 + 1)]
      cases idx p l 0 with
      | none => rfl
      | some n => simp; omega
theorem idx_some {σ : Type} {p : σ → Bool} : ∀ {l : List σ} {n : Nat}, idx p l 0 = some n → ∃ x, l[n]? = some x ∧ p x = true ∧ ∀ m y, m < n → l[m]? = some y → p y = false
  | [], _, h => by cases h
  | x :: l, n, h => by
    simp only [idx] at h
    cases hp : p x with
    | true =>
      rw [hp] at h
      simp only [cond_true, Option.some.injEq] at h
      subst h
      exact ⟨x, rfl, hp, fun m y hm => by omega⟩
    | false =>
      rw [hp] at h
      simp only [cond_false] at h
      rw [idx_shift] at h
      cases h2 : idx p l 0 with
      | none => rw [h2] at h; cases h
      | some k =>
        rw [h2] at h
        simp only [Option.map_some, Option.some.injEq] at h
        subst h
        obtain ⟨y, e1, e2, e3⟩ := idx_some h2
        refine ⟨y, by simpa using e1, e2, fun m z hm hz => ?_⟩
        cases m with
        | zero => simp at hz; subst hz; exact hp
        | succ m => exact e3 m z (by omega) (by simpa using hz)
theorem idx_none {σ : Type} {p : σ → Bool} : ∀ {l : List σ} {i : Nat}, idx p l i = none ↔ ∀ x ∈ l, p x = false
  | [], _ => by simp [idx]
  | x :: l, i => by
    simp only [idx, List.mem_cons, forall_eq_or_imp]
    cases hp : p x with
    | true => simp
    | false => simp only [cond_false, true_and]; exact idx_none
theorem idx_lt {σ : Type} {p : σ → Bool} {l : List σ} {n : Nat} (h : idx p l 0 = some n) : n < l.length := by
  obtain ⟨x, e, _⟩ := idx_some h
  exact (List.getElem?_eq_some_iff.1 e).1
def idxI {σ : Type} (p : σ → Bool) (l : List σ) : Int := match idx p l 0 with
  | some n => (n : Int)
  | none => -1
theorem iter_find {σ ρ : Type} {f : Int → Option (Int ⊕ ρ)} (p : σ → Bool) (F : Nat → ρ) (all : List σ) (fin : Option ρ)
    (h1 : ∀ i x, all[i]? = some x → f ((i : Nat) : Int) = some (bif p x then .inr (F i) else .inl ((i + 1 : Nat) : Int)))
    (h2 : f ((all.length : Nat) : Int) = outR fin) (hl : all.length < LF) :
    iter LF f 0 = match idx p all 0 with | some n => some (F n) | none => fin := by
  rw [iter_scan (fun x i => bif p x then some (F i) else none) all fin (fun i x hx _ => by rw [h1 i x hx]; cases p x <;> rfl) (fun _ => h2) hl, scan_idx]
  cases idx p all 0 <;> rfl
theorem idx_any {σ : Type} (p : σ → Bool) (l : List σ) : (idx p l 0).isSome = l.any p := by
  cases h : idx p l 0 with
  | none => rw [idx_none] at h; simp; intro x hx; simp [h x hx]
  | some n =>
    obtain ⟨x, e, hp, _⟩ := idx_some h
    simp only [Option.isSome_some]
    exact (List.any_eq_true.2 ⟨x, List.mem_of_getElem? e, hp⟩).symm
theorem idxI_nonneg {σ : Type} (p : σ → Bool) (l : List σ) : decide (idxI p l ≥ 0) = l.any p := by
  rw [← idx_any]; unfold idxI
  cases idx p l 0 with
  | none => rfl
  | some n => simp
theorem idxI_neg {σ : Type} (p : σ → Bool) (l : List σ) : decide (idxI p l < 0) = !l.any p := by
  rw [← idx_any]; unfold idxI
  cases idx p l 0 with
  | none => rfl
  | some n => simp
theorem iter_app {σ B α ρ : Type} {f : α → Option (α ⊕ ρ)} (mk : Int → List B → α) (h : σ → List B) (all : List σ) (fin : List B → Option ρ) (c : Nat) (hc : ∀ x ∈ all, (h x).length ≤ c) (a0 : List B)
    (h1 : ∀ i x a, all[i]? = some x → a.length ≤ a0.length + c * i → i < all.length → f (mk (i : Nat) a) = some (.inl (mk ((i + 1 : Nat) : Int) (a ++ h x))))
    (h2 : ∀ a, a.length ≤ a0.length + c * all.length → f (mk (all.length : Nat) a) = outR (fin a)) (hl : all.length < LF) :
    iter LF f (mk 0 a0) = fin (a0 ++ all.flatMap h) := by
  rw [iter_foldI mk (fun x _ a => a ++ h x) (fun i a => a.length ≤ a0.length + c * i) all fin a0 (fun i x a hx hg => h1 i x a hx hg (List.getElem?_eq_some_iff.1 hx).1)
    (fun i x a hx hg => by
      have := hc x (List.mem_of_getElem? hx)
      rw [List.length_append, Nat.mul_add]; omega) h2 hl (by omega)]
  rw [foldI_const]
  congr 1
  clear h1 h2 hc hl
  induction all generalizing a0 with
  | nil => simp
  | cons x l ih => rw [List.foldl_cons, ih, List.flatMap_cons, List.append_assoc]
theorem subI_take {α : Type} {xs : List α} {i : Nat} (h : i ≤ xs.length) : subI xs 0 (i : Int) = some (xs.take i) := by
  unfold subI
  rw [if_pos (by omega)]
  simp
theorem ltC_big {α : Type} {xs : List α} (h : xs.length ≤ 4398046511104) : ltC xs = some () := by unfold ltC; rw [if_pos h]
theorem ltC_of {α : Type} {xs : List α} (h : xs.length ≤ 1099511627776) : ltC xs = some () := ltC_big (by omega)
theorem dlt {i n : Nat} (h : i < n) : decide ((i : Int) < (n : Int)) = true := decide_eq_true (by omega)
theorem dnlt (n : Nat) : decide ((n : Int) < (n : Int)) = false := decide_eq_false (by omega)
end Go.K
namespace Go.Sx
open Go.Sl Go.Proofs
def Rise (l : List Int) : Prop := l.Pairwise (· < ·)
theorem rise_ext : ∀ {l m : List Int}, Rise l → Rise m → (∀ x, x ∈ l ↔ x ∈ m) → l = m
  | [], [], _, _, _ => rfl
  | [], b :: m, _, _, h => absurd ((h b).2 (List.mem_cons_self ..)) (List.not_mem_nil)
  | a :: l, [], _, _, h => absurd ((h a).1 (List.mem_cons_self ..)) (List.not_mem_nil)
  | a :: l, b :: m, hl, hm, h => by
    obtain ⟨h1, h2⟩ := List.pairwise_cons.1 hl
    obtain ⟨k1, k2⟩ := List.pairwise_cons.1 hm
    have e : a = b := by
      rcases List.mem_cons.1 ((h a).1 (List.mem_cons_self ..)) with e | e
      · exact e
      · rcases List.mem_cons.1 ((h b).2 (List.mem_cons_self ..)) with e' | e'
        · exact e'.symm
        · have := k1 a e; have := h1 b e'; omega
    subst e
    congr 1
    refine rise_ext h2 k2 fun x => ⟨fun hx => ?_, fun hx => ?_⟩
    · rcases List.mem_cons.1 ((h x).1 (List.mem_cons_of_mem _ hx)) with e | e
      · subst e; exact absurd (h1 x hx) (Int.lt_irrefl _)
      · exact e
    · rcases List.mem_cons.1 ((h x).2 (List.mem_cons_of_mem _ hx)) with e | e
      · subst e; exact absurd (k1 x hx) (Int.lt_irrefl _)
      · exact e
theorem compU {d : Array Int} (hs : ∀ i j, i < j → j < d.size → d[i]! ≤ d[j]!) : ∀ m, m ≤ d.size → Rise (Lib.compactUpTo d m) ∧ ∀ x, x ∈ Lib.compactUpTo d m ↔ ∃ j, j < m ∧ d[j]! = x
  | 0, _ => by simp [Lib.compactUpTo, Rise]
  | m + 1, hm => by
    obtain ⟨h1, h2⟩ := compU hs m (by omega)
    rw [Lib.compactUpTo_succ]
    by_cases hk : Lib.keeps d m = true
    · rw [if_pos hk]
      have hlt : ∀ x ∈ Lib.compactUpTo d m, x < d[m]! := fun x hx => by
        obtain ⟨j, hj, rfl⟩ := (h2 x).1 hx
        unfold Lib.keeps at hk
        have hk' := of_decide_eq_true hk
        have hne := hk'.resolve_left (by omega)
        have a1 : d[m - 1]! ≤ d[m]! := hs (m - 1) m (by omega) (by omega)
        have a2 : d[j]! ≤ d[m - 1]! := by
          rcases Nat.eq_or_lt_of_le (show j ≤ m - 1 by omega) with e | e
          · rw [e]; exact Int.le_refl _
          · exact hs j (m - 1) e (by omega)
        omega
      refine ⟨List.pairwise_append.2 ⟨h1, List.pairwise_singleton _ _, fun x hx y hy => ?_⟩, fun x => ?_⟩
      · simp only [List.mem_singleton] at hy; subst hy; exact hlt x hx
      · rw [List.mem_append, h2, List.mem_singleton]
        refine ⟨fun h => ?_, fun ⟨j, hj, e⟩ => ?_⟩
        · rcases h with ⟨j, hj, e⟩ | e
          · exact ⟨j, by omega, e⟩
          · exact ⟨m, by omega, e.symm⟩
        · rcases Nat.eq_or_lt_of_le (Nat.le_of_lt_succ hj) with e' | e'
          · subst e'; exact .inr e.symm
          · exact .inl ⟨j, e', e⟩
    · rw [if_neg hk, List.append_nil]
      refine ⟨h1, fun x => ?_⟩
      rw [h2]
      refine ⟨fun ⟨j, hj, e⟩ => ⟨j, by omega, e⟩, fun ⟨j, hj, e⟩ => ?_⟩
      rcases Nat.eq_or_lt_of_le (Nat.le_of_lt_succ hj) with e' | e'
      · subst e'
        unfold Lib.keeps at hk
        have hk' : ¬ (j = 0 ∨ d[j]! ≠ d[j - 1]!) := fun h => hk (decide_eq_true h)
        have h0 : j ≠ 0 := fun h => hk' (.inl h)
        have he : d[j]! = d[j - 1]! := Classical.byContradiction fun h => hk' (.inr h)
        exact ⟨j - 1, by omega, he ▸ e⟩
      · exact ⟨j, e', e⟩
theorem compL_rise {ys : List Int} (h : ys.Pairwise (· ≤ ·)) : Rise (compL ys) ∧ ∀ x, x ∈ compL ys ↔ x ∈ ys := by
  have hs : ∀ i j, i < j → j < ys.toArray.size → ys.toArray[i]! ≤ ys.toArray[j]! := fun i j hij hj => by
    simp only [List.size_toArray] at hj
    have hi : i < ys.length := by omega
    have := List.pairwise_iff_getElem.1 h i j hi hj hij
    simpa [hi, hj] using this
  obtain ⟨h1, h2⟩ := compU hs ys.length (by simp)
  refine ⟨h1, fun x => ?_⟩
  show x ∈ Lib.compactUpTo ys.toArray ys.length ↔ _
  rw [h2, List.mem_iff_getElem]
  constructor
  · rintro ⟨j, hj, e⟩
    exact ⟨j, hj, by simpa [hj] using e⟩
  · rintro ⟨j, hj, e⟩
    exact ⟨j, hj, by simpa [hj] using e⟩
theorem sc_rise (xs : List Int) : Rise (compL (sortL xs)) ∧ ∀ x, x ∈ compL (sortL xs) ↔ x ∈ xs := by
  obtain ⟨h1, h2⟩ := compL_rise (sortL_sorted xs)
  exact ⟨h1, fun x => (h2 x).trans (sortL_perm xs).mem_iff⟩
theorem Rise.get {l : List Int} (h : Rise l) {i j : Nat} (hi : i < j) (hj : j < l.length) : l[i] < l[j] := List.pairwise_iff_getElem.1 h i j (by omega) hj hi
end Go.Sx
set_option linter.unusedVariables false
set_option linter.unusedSimpArgs false
namespace Go.K
open Go.Sl Go.Sx Go.Proofs
abbrev Tm := Int × (Int × (Int × (ByteArray × Int)))
abbrev Cnd := List Tm
abbrev Fct := ByteArray × (Int × Int)
abbrev Rl := ByteArray × (Int × (Int × (Cnd × (Cnd × List ByteArray))))
abbrev Cd := ByteArray × (List Fct × List Rl)
theorem eqD (s t : ByteArray) : (s.data.toList == t.data.toList) = decide (s = t) := by
  by_cases h : s = t
  · subst h; simp
  · have : s.data.toList ≠ t.data.toList := fun e => h (ext_data e)
    simp [h]
    exact fun e => this (by rw [e])
def letB (b : UInt8) : Bool := decide (97 ≤ b.toNat) && decide (b.toNat ≤ 122)
def digB (b : UInt8) : Bool := decide (48 ≤ b.toNat) && decide (b.toNat ≤ 57)
def words10 : List ByteArray := [bts [99, 111, 100, 101], bts [102, 97, 99, 116], bts [114, 117, 108, 101], bts [119, 104, 101, 110], bts [109, 117, 115, 116], bts [117, 110, 108, 101, 115, 115], bts [97, 110, 100], bts [111, 114], bts [110, 111, 116], bts [116, 114, 117, 101]]
def chB (b : UInt8) (i : Nat) : Option Bool := bif letB b || (digB b && !decide (i = 0)) then none else some false
def nmB (s : ByteArray) : Bool := decide (1 ≤ s.size ∧ s.size ≤ 12) && !(words10.any fun w => decide (s = w)) && (scan chB s.data.toList 0).isNone
def cmpK (k : Int) : Bool := decide (1 ≤ k ∧ k ≤ 3)
def shp (t : Tm) (i : Int) : Bool :=
  if t.1 = 0 then decide (t.2.1 = 0 ∧ t.2.2.1 = 0 ∧ t.2.2.2.1 = bts [] ∧ t.2.2.2.2 = 0)
  else if 1 ≤ t.1 ∧ t.1 ≤ 3 then decide (t.2.1 = 0 ∧ t.2.2.1 = 0 ∧ -1000000000000 ≤ t.2.2.2.2 ∧ t.2.2.2.2 ≤ 1000000000000)
  else if t.1 = 4 then decide (t.2.2.2.1 = bts [] ∧ t.2.2.2.2 = 0 ∧ 0 ≤ t.2.1 ∧ t.2.1 ≤ i - 1 ∧ t.2.2.1 = 0)
  else if t.1 = 5 ∨ t.1 = 6 then decide (t.2.2.2.1 = bts [] ∧ t.2.2.2.2 = 0 ∧ 0 ≤ t.2.1 ∧ t.2.1 ≤ i - 1 ∧ 0 ≤ t.2.2.1 ∧ t.2.2.1 ≤ i - 1)
  else false
def plF (f : List Fct) (s : ByteArray) : Int := idxI (fun x => decide (x.1 = s)) f
def condS (f : List Fct) (t : Tm) (i : Nat) : Option Int :=
  bif !shp t i then some 41 else bif cmpK t.1 && !f.any (fun x => decide (x.1 = t.2.2.2.1)) then some 40 else none
def condE (f : List Fct) (c : Cnd) : Int :=
  if 30 < c.length then 2 else if c = [] then 41 else (scan (condS f) c 0).getD 0
def fnd (l : List Rl) (s : ByteArray) : Int := idxI (fun r => decide (r.1 = s)) l
def hasR (l : List Rl) (s : ByteArray) : Bool := l.any fun r => decide (r.1 = s)
def unlS (l : List Rl) (u : List ByteArray) (s : ByteArray) (k : Nat) : Option Int :=
  bif !hasR l s || (u.take k).any (fun x => decide (x = s)) then some 42 else none
def ruleE (f : List Fct) (l : List Rl) (i : Nat) (r : Rl) : Int :=
  bif !nmB r.1 || hasR (l.take i) r.1 then 40
  else if r.2.1 < 0 ∨ r.2.1 > r.2.2.1 ∨ r.2.2.1 > 100000 then 45
  else if condE f r.2.2.2.1 ≠ 0 then condE f r.2.2.2.1
  else if condE f r.2.2.2.2.1 ≠ 0 then condE f r.2.2.2.2.1
  else if 6 < r.2.2.2.2.2.length then 2
  else (scan (unlS (l.take i) r.2.2.2.2.2) r.2.2.2.2.2 0).getD 0
def spanB (x : Fct) : Bool := decide (-1000000000000 ≤ x.2.1 ∧ x.2.1 ≤ x.2.2 ∧ x.2.2 ≤ 1000000000000)
def factS (f : List Fct) (x : Fct) (i : Nat) : Option Int :=
  bif !nmB x.1 || (f.take i).any (fun y => decide (y.1 = x.1)) then some 40 else bif !spanB x then some 44 else none
def ruleS (f : List Fct) (l : List Rl) (r : Rl) (i : Nat) : Option Int := if ruleE f l i r ≠ 0 then some (ruleE f l i r) else none
def condsL (l : List Rl) : List Cnd := l.flatMap fun r => [r.2.2.2.1, r.2.2.2.2.1]
def partsL (t : Tm) : List Int := if t.1 = 1 then [t.2.2.2.2] else if t.1 = 2 then [w64 (t.2.2.2.2 + 1)] else if t.1 = 3 then [t.2.2.2.2, w64 (t.2.2.2.2 + 1)] else []
def inS (x : Fct) (n : Int) : Bool := decide (n > x.2.1) && decide (n ≤ x.2.2)
def cutT (x : Fct) (t : Tm) : List Int := bif decide (t.2.2.2.1 = x.1) then (partsL t).filter (inS x) else []
def cutN (x : Fct) (cs : List Cnd) : List Int := cs.flatMap fun c => c.flatMap (cutT x)
def cutsOf (cs : List Cnd) (x : Fct) : List Int := compL (sortL (x.2.1 :: cutN x cs))
def startsL (f : List Fct) (cs : List Cnd) : List (List Int) := f.map (cutsOf cs)
def manyL (l : List (List Int)) : Int := l.foldl (fun n x => if (4001 : Int) < w64 (n * (x.length : Int)) then 4001 else w64 (n * (x.length : Int))) 1
def codeE (c : Cd) : Int :=
  bif !nmB c.1 then 40 else if c.2.1 = [] then 43 else if 6 < c.2.1.length ∨ 12 < c.2.2.length then 2
  else match scan (factS c.2.1) c.2.1 0 with
    | some e => e
    | none => match scan (ruleS c.2.1 c.2.2) c.2.2 0 with
      | some e => e
      | none => if manyL (startsL c.2.1 (condsL c.2.2)) > 4000 then 2 else 0
def fitB (x y : Fct) : Bool := decide (x.1 = y.1) && decide (x.2.1 ≤ y.2.1 ∧ y.2.1 ≤ y.2.2 ∧ y.2.2 ≤ x.2.2)
def fitS (f g : List Fct) : Bool := decide (f.length = g.length) && (f.zip g).all fun p => fitB p.1 p.2
def tmSo (f : List Fct) (v : List Int) (t : Tm) (l : List Bool) : Bool :=
  let n := v.getD (plF f t.2.2.2.1).toNat 0
  if t.1 = 0 then true else if t.1 = 1 then decide (n < t.2.2.2.2) else if t.1 = 2 then decide (n ≤ t.2.2.2.2) else if t.1 = 3 then decide (n = t.2.2.2.2)
  else if t.1 = 4 then !l.getD t.2.1.toNat false else if t.1 = 5 then l.getD t.2.1.toNat false && l.getD t.2.2.1.toNat false else l.getD t.2.1.toNat false || l.getD t.2.2.1.toNat false
def soL (f : List Fct) (v : List Int) (c : Cnd) : List Bool := c.foldl (fun l t => l ++ [tmSo f v t l]) []
def soB (f : List Fct) (v : List Int) (c : Cnd) : Bool := (soL f v c).getLastD false
def bindB (f : List Fct) (l : List Rl) (d : Int) (v : List Int) (r : Rl) (out : List Bool) : Bool :=
  (decide (r.2.1 ≤ d ∧ d ≤ r.2.2.1) && soB f v r.2.2.2.1) && r.2.2.2.2.2.all fun s => !out.getD (fnd l s).toNat false
def nbL (f : List Fct) (l : List Rl) (d : Int) (v : List Int) : List Rl → List Bool → List Bool
  | [], _ => []
  | r :: m, out => bindB f l d v r out :: nbL f l d v m (out ++ [bindB f l d v r out])
def bindsL (c : Cd) (d : Int) (v : List Int) : List Bool := nbL c.2.1 c.2.2 d v c.2.2 []
def keptL (c : Cd) (d : Int) (v : List Int) : List Bool := List.zipWith (fun b r => !b || soB c.2.1 v r.2.2.2.2.1) (bindsL c d v) c.2.2
def choL : List (List Int) → List (List Int)
  | [] => [[]]
  | x :: l => x.flatMap fun n => (choL l).map (n :: ·)
end Go.K
set_option linter.unusedVariables false
set_option linter.unusedSimpArgs false
set_option maxRecDepth 100000
namespace Go.K
open Go.Sl Go.Sx Go.Proofs
theorem G91_in (a b c : Int) : G91 LF (a, (b, c)) = some (decide (b ≤ a ∧ a ≤ c)) := by
  unfold G91
  by_cases h1 : b ≤ a <;> by_cases h2 : a ≤ c <;> simp [h1, h2]
theorem G93_cmp (k : Int) : G93 LF k = some (cmpK k) := by
  unfold G93
  simp only [G91_in, Option.bind_some]; rfl
theorem emp_eq (s : ByteArray) : (s.data.toList == ([] : List UInt8)) = decide (s = bts []) := (eqD s (bts []))
theorem lt_of_get {α : Type} {l : List α} {i : Nat} {x : α} (h : l[i]? = some x) : i < l.length := (List.getElem?_eq_some_iff.1 h).1
theorem G223_idx (l : List ByteArray) (s : ByteArray) (hl : l.length < LF) : G223 LF (l, s) = some (idxI (fun x => decide (s = x)) l) := by
  unfold G223
  refine (iter_find (fun x => decide (s = x)) (fun i => (i : Int)) l (some (-1)) ?_ ?_ hl).trans ?_
  · intro i x hx
    have hi := lt_of_get hx
    simp only [dlt hi, cond_true, getI_nat hx, Option.bind_some, eqD, succ_W (Nat.lt_of_le_of_lt hi hl)]
    cases decide (s = x) <;> rfl
  · simp only [dnlt]; rfl
  · unfold idxI; cases idx (fun x => decide (s = x)) l 0 <;> rfl
theorem G180_any (l : List ByteArray) (s : ByteArray) (hl : l.length < LF) : G180 LF (l, s) = some (l.any fun x => decide (s = x)) := by
  unfold G180
  simp only [G223_idx l s hl, Option.bind_some, idxI_nonneg]
theorem G165_any (s : ByteArray) : G165 LF s = some (words10.any fun x => decide (s = x)) := by
  unfold G165
  rw [G180_any _ _ (by decide)]
  rfl
theorem chB_false : ∀ {l : List UInt8} {i : Nat} {e : Bool}, scan chB l i = some e → e = false
  | [], _, _, h => by cases h
  | b :: l, i, e, h => by
    simp only [scan] at h
    cases hc : chB b i with
    | none => rw [hc] at h; exact chB_false h
    | some q =>
      rw [hc] at h
      unfold chB at hc
      cases hb : (letB b || (digB b && !decide (i = 0))) with
      | true => rw [hb] at hc; cases hc
      | false => rw [hb] at hc; cases hc; cases h; rfl
theorem G94_nm (s : ByteArray) : G94 LF s = some (nmB s) := by
  unfold G94
  simp only [G91_in, Option.bind_some, G165_any]
  unfold nmB
  by_cases h1 : 1 ≤ s.size ∧ s.size ≤ 12
  · have hs : s.size < LF := by show s.size < 9223372036854775808; omega
    have e1 : decide ((1 : Int) ≤ (s.size : Int) ∧ (s.size : Int) ≤ 12) = true := decide_eq_true (by omega)
    simp only [e1, decide_eq_true h1, Bool.not_true, cond_false, jl, jr, Bool.true_and]
    cases hw : words10.any fun x => decide (s = x) with
    | true => rfl
    | false =>
      simp only [cond_false, Bool.not_false, Bool.true_and]
      have hz : s.data.toList.length = s.size := (size_len s).symm
      have key := iter_scan (f := fun y15 : Int => cond (decide (y15 < (s.size : Int))) (jn (((byteAt s y15)).bind fun r16 => cond (decide (r16 ≥ (97 : Int))) (((byteAt s y15)).bind fun r17 => some (.inl (decide (r17 ≤ (122 : Int))))) (some (.inl false))) (fun y18 : Bool => jn (((byteAt s y15)).bind fun r19 => cond (decide (r19 ≥ (48 : Int))) (((byteAt s y15)).bind fun r20 => some (.inl (decide (r20 ≤ (57 : Int))))) (some (.inl false))) (fun y21 : Bool => jn (cond (!y18) (cond (decide (y15 = (0 : Int))) (some (.inl true)) (some (.inl (!y21)))) (some (.inl false))) (fun y22 : Bool => cond y22 (some (.inr false)) (some (.inl (w64 (y15 + (1 : Int))))))))) (some (.inr true))) chB s.data.toList (some true) ?_ ?_ (by rw [hz]; exact hs)
      · rw [key]
        cases hw2 : scan chB s.data.toList 0 with
        | none => rfl
        | some e => exact congrArg some (chB_false hw2)
      · intro i b hb _
        have hi : i < s.size := by rw [← hz]; exact lt_of_get hb
        simp only [dlt hi, cond_true, byteAt_nat hb, Option.bind_some, succ_W (Nat.lt_of_le_of_lt hi hs)]
        have q1 : decide ((b.toNat : Int) ≥ 97) = decide (97 ≤ b.toNat) := decide_eq_decide.2 (by omega)
        have q2 : decide ((b.toNat : Int) ≤ 122) = decide (b.toNat ≤ 122) := decide_eq_decide.2 (by omega)
        have q3 : decide ((b.toNat : Int) ≥ 48) = decide (48 ≤ b.toNat) := decide_eq_decide.2 (by omega)
        have q4 : decide ((b.toNat : Int) ≤ 57) = decide (b.toNat ≤ 57) := decide_eq_decide.2 (by omega)
        have q5 : decide ((i : Int) = 0) = decide (i = 0) := decide_eq_decide.2 (by omega)
        unfold chB letB digB
        rw [q1, q2, q3, q4, q5]
        cases decide (97 ≤ b.toNat) <;> cases decide (b.toNat ≤ 122) <;> cases decide (48 ≤ b.toNat) <;> cases decide (b.toNat ≤ 57) <;> cases decide (i = 0) <;> rfl
      · intro _
        rw [hz]
        simp only [dnlt]; rfl
  · have e1 : decide ((1 : Int) ≤ (s.size : Int) ∧ (s.size : Int) ≤ 12) = false := decide_eq_false (by omega)
    simp only [e1, decide_eq_false h1, Bool.not_false, cond_true, jl, jr, Bool.false_and]
theorem plF_neg (f : List Fct) (s : ByteArray) : decide (plF f s < 0) = !f.any fun x => decide (x.1 = s) := idxI_neg _ _
theorem plF_nn (f : List Fct) (s : ByteArray) : decide (plF f s ≥ 0) = f.any fun x => decide (x.1 = s) := idxI_nonneg _ _
theorem fnd_neg (l : List Rl) (s : ByteArray) : decide (fnd l s < 0) = !hasR l s := idxI_neg _ _
theorem fnd_nn (l : List Rl) (s : ByteArray) : decide (fnd l s ≥ 0) = hasR l s := idxI_nonneg _ _
theorem G110_plc (f : List Fct) (s : ByteArray) (hl : f.length < LF) : G110 LF (f, s) = some (plF f s) := by
  unfold G110 plF
  refine (iter_find (fun x => decide (x.1 = s)) (fun i => (i : Int)) f (some (-1)) ?_ ?_ hl).trans ?_
  · intro i x hx
    have hi := lt_of_get hx
    simp only [dlt hi, cond_true, getI_nat hx, Option.bind_some, eqD, succ_W (Nat.lt_of_le_of_lt hi hl)]
    cases decide (x.1 = s) <;> rfl
  · simp only [dnlt]; rfl
  · unfold idxI; cases idx (fun x : Fct => decide (x.1 = s)) f 0 <;> rfl
theorem G36_fnd (n : ByteArray) (f : List Fct) (l : List Rl) (s : ByteArray) (hl : l.length < LF) : G36 LF ((n, (f, l)), s) = some (fnd l s) := by
  unfold G36 fnd
  refine (iter_find (fun x => decide (x.1 = s)) (fun i => (i : Int)) l (some (-1)) ?_ ?_ hl).trans ?_
  · intro i x hx
    have hi := lt_of_get hx
    simp only [dlt hi, cond_true, getI_nat hx, Option.bind_some, eqD, succ_W (Nat.lt_of_le_of_lt hi hl)]
    cases decide (x.1 = s) <;> rfl
  · simp only [dnlt]; rfl
  · unfold idxI; cases idx (fun x : Rl => decide (x.1 = s)) l 0 <;> rfl
theorem G92_shp (t : Tm) (i : Nat) (hi : i < LF) : G92 LF (t, (i : Int)) = some (shp t i) := by
  obtain ⟨k, a, b, s, n⟩ := t
  have hp : w64 ((i : Int) - 1) = (i : Int) - 1 := (by have : i < 9223372036854775808 := hi; exact w64_id (by omega) (by omega))
  unfold G92 shp
  simp only [G93_cmp, G91_in, Option.bind_some, hp, emp_eq, cmpK]
  by_cases k0 : k = 0
  · subst k0
    simp only [decide_true, cond_true, jl, jr, if_true]
    by_cases c1 : a = 0 <;> by_cases c2 : b = 0 <;> by_cases c3 : s = bts [] <;> by_cases c4 : n = 0 <;> simp [c1, c2, c3, c4, jl, jr]
  · by_cases k1 : 1 ≤ k ∧ k ≤ 3
    · have k4 : ¬ k = 4 := by omega
      simp only [k0, k1, k4, decide_false, decide_true, cond_true, cond_false, jl, jr, if_true, if_false, and_self]
      by_cases c1 : a = 0 <;> by_cases c2 : b = 0 <;> by_cases c3 : -1000000000000 ≤ n ∧ n ≤ 1000000000000 <;> simp [c1, c2, c3, jl, jr]
    · by_cases k4 : k = 4
      · subst k4
        simp only [k0, k1, decide_false, decide_true, cond_true, cond_false, jl, jr, if_true, if_false]
        by_cases c1 : 0 ≤ a ∧ a ≤ (i : Int) - 1 <;> by_cases c2 : b = 0 <;> by_cases c3 : s = bts [] <;> by_cases c4 : n = 0 <;> simp [c1, c2, c3, c4, jl, jr]
      · by_cases k5 : k = 5
        · subst k5
          simp only [k0, k1, k4, decide_false, decide_true, cond_true, cond_false, jl, jr, if_true, if_false, true_or]
          by_cases c1 : 0 ≤ a ∧ a ≤ (i : Int) - 1 <;> by_cases c2 : 0 ≤ b ∧ b ≤ (i : Int) - 1 <;> by_cases c3 : s = bts [] <;> by_cases c4 : n = 0 <;> simp [c1, c2, c3, c4, jl, jr]
        · by_cases k6 : k = 6
          · subst k6
            simp only [k0, k1, k4, k5, decide_false, decide_true, cond_true, cond_false, jl, jr, if_true, if_false, or_true]
            by_cases c1 : 0 ≤ a ∧ a ≤ (i : Int) - 1 <;> by_cases c2 : 0 ≤ b ∧ b ≤ (i : Int) - 1 <;> by_cases c3 : s = bts [] <;> by_cases c4 : n = 0 <;> simp [c1, c2, c3, c4, jl, jr]
          · simp only [k0, k1, k4, k5, k6, decide_false, cond_false, jl, jr, if_false, or_self]
theorem G29_cond (f : List Fct) (c : Cnd) (hf : f.length < LF) : G29 LF (f, c) = some (condE f c) := by
  unfold G29 condE
  by_cases h1 : 30 < c.length
  · have e1 : decide ((c.length : Int) > 30) = true := decide_eq_true (by omega)
    simp only [e1, cond_true, h1, if_true]
  · have e1 : decide ((c.length : Int) > 30) = false := decide_eq_false (by omega)
    simp only [e1, cond_false, h1, if_false]
    have hl : c.length < LF := by show c.length < 9223372036854775808; omega
    refine (iter_scan (condS f) c (if c = [] then some 41 else some 0) ?_ ?_ hl).trans ?_
    · intro i t ht _
      have hi := lt_of_get ht
      obtain ⟨k, a, b, s, n⟩ := t
      simp only [dlt hi, cond_true, getI_nat ht, Option.bind_some, G92_shp _ i (Nat.lt_trans hi hl), G93_cmp, G110_plc f s hf, succ_W (Nat.lt_of_le_of_lt hi hl)]
      unfold condS
      cases shp (k, a, b, s, n) i with
      | false => rfl
      | true =>
        simp only [Bool.not_true, cond_false]
        cases cmpK k with
        | false => rfl
        | true =>
          simp only [cond_true, jl, jr, Bool.true_and, plF_neg]
          cases f.any (fun x => decide (x.1 = s)) <;> rfl
    · intro _
      simp only [dnlt, cond_false]
      by_cases h0 : c = []
      · subst h0; rfl
      · have e0 : decide ((c.length : Int) = 0) = false := decide_eq_false (by have := List.length_pos_iff.2 h0; omega)
        simp [e0, h0]
    · by_cases h0 : c = []
      · subst h0; rfl
      · simp only [h0, if_false]
        cases scan (condS f) c 0 <;> rfl
end Go.K
set_option linter.unusedVariables false
set_option linter.unusedSimpArgs false
set_option maxRecDepth 100000
namespace Go.K
open Go.Sl Go.Sx Go.Proofs
theorem G116_conds (n : ByteArray) (f : List Fct) (l : List Rl) (h : l.length ≤ 1000) : G116 LF (n, (f, l)) = some (condsL l) := by
  unfold G116
  refine (iter_app (fun i a => (a, i)) (fun r : Rl => [r.2.2.2.1, r.2.2.2.2.1]) l (fun a => some a) 2 (fun _ _ => by simp) [] ?_ ?_ (by show l.length < 9223372036854775808; omega)).trans ?_
  · intro i x a hx ha hi
    simp only [List.length_nil] at ha
    simp only [dlt hi, cond_true, getI_nat hx, Option.bind_some, succ_W (show i + 1 < 9223372036854775808 by omega), appC_of (show a.length + [x.2.2.2.1, x.2.2.2.2.1].length ≤ 1099511627776 by simp; omega)]
  · intro a _
    simp only [dnlt]; rfl
  · rfl
theorem G181_parts (t : Tm) : G181 LF t = some (partsL t) := by
  unfold G181 partsL
  by_cases h1 : t.1 = 1
  · simp [h1]
  · by_cases h2 : t.1 = 2
    · simp [h2]
    · by_cases h3 : t.1 = 3 <;> simp [h1, h2, h3]
theorem parts_len (t : Tm) : (partsL t).length ≤ 2 := by
  unfold partsL
  split
  · simp
  · split
    · simp
    · split <;> simp
theorem flat_filter {α : Type} (p : α → Bool) : ∀ l : List α, (l.flatMap fun n => bif p n then [n] else []) = l.filter p
  | [] => rfl
  | x :: l => by
    rw [List.flatMap_cons, flat_filter p l]
    cases h : p x <;> simp [h]
theorem cutT_len (x : Fct) (t : Tm) : (cutT x t).length ≤ 2 := by
  unfold cutT
  cases decide (t.2.2.2.1 = x.1) with
  | false => simp
  | true => exact Nat.le_trans (List.length_filter_le _ _) (parts_len t)
theorem flat_len {α β : Type} (g : α → List β) (k : Nat) : ∀ (l : List α), (∀ x ∈ l, (g x).length ≤ k) → (l.flatMap g).length ≤ k * l.length
  | [], _ => by simp
  | x :: l, h => by
    have h1 := h x (List.mem_cons_self ..)
    have h2 := flat_len g k l (fun y hy => h y (List.mem_cons_of_mem _ hy))
    rw [List.flatMap_cons, List.length_append, List.length_cons, Nat.mul_add]; omega
theorem G115_starts (f : List Fct) (cs : List Cnd) (hf : f.length ≤ 1000) (hc : cs.length ≤ 1000) (ht : ∀ c ∈ cs, c.length ≤ 1000) : G115 LF (f, cs) = some (startsL f cs) := by
  unfold G115 startsL
  refine (iter_app (fun i a => (a, i)) (fun x : Fct => [cutsOf cs x]) f (fun a => some a) 1 (fun _ _ => by simp) [] ?_ ?_ (by show f.length < 9223372036854775808; omega)).trans ?_
  · intro i x A hx hA hi
    simp only [List.length_nil] at hA
    simp only [dlt hi, cond_true, getI_nat hx, Option.bind_some]
    refine (iter_app (fun i a => (a, i)) (fun c : Cnd => c.flatMap (cutT x)) cs (fun a => some (.inl (A ++ [compL (sortL a)], ((i + 1 : Nat) : Int)))) 2000 (fun c hc => by
        have h1 := flat_len (cutT x) 2 c (fun t _ => cutT_len x t)
        have h2 := ht c hc
        omega) [x.2.1] ?_ ?_ (by show cs.length < 9223372036854775808; omega)).trans ?_
    · intro j c a hj ha hjl
      simp only [List.length_singleton] at ha
      simp only [dlt hjl, cond_true, getI_nat hj, Option.bind_some]
      have hcl := ht c (List.mem_of_getElem? hj)
      refine (iter_app (fun i a => (a, i)) (cutT x) c (fun a => some (.inl (a, ((j + 1 : Nat) : Int)))) 2 (fun t _ => cutT_len x t) a ?_ ?_ (by show c.length < 9223372036854775808; omega)).trans ?_
      · intro k t b hk hb hkl
        simp only [dlt hkl, cond_true, getI_nat hk, Option.bind_some, eqD, G181_parts, succ_W (show k + 1 < 9223372036854775808 by omega)]
        unfold cutT
        cases hd : decide (t.2.2.2.1 = x.1) with
        | false => simp
        | true =>
          simp only [Bool.not_true, cond_false, cond_true]
          rw [← flat_filter]
          have hp := parts_len t
          refine (iter_app (fun i a => (a, i)) (fun n => bif inS x n then [n] else []) (partsL t) (fun b => some (.inl (b, ((k + 1 : Nat) : Int)))) 1 (fun n _ => by cases inS x n <;> simp) b ?_ ?_ (by show (partsL t).length < 9223372036854775808; omega)).trans ?_
          · intro q n d hq hd hql
            simp only [dlt hql, cond_true, getI_nat hq, Option.bind_some, succ_W (show q + 1 < 9223372036854775808 by omega), appC_of (show d.length + [n].length ≤ 1099511627776 by simp; omega)]
            unfold inS
            cases decide (n > x.2.1) <;> cases decide (n ≤ x.2.2) <;> simp [jl]
          · intro d _
            simp only [dnlt]; rfl
          · rfl
      · intro b _
        simp only [dnlt, succ_W (show j + 1 < 9223372036854775808 by omega)]; rfl
      · rfl
    · intro a ha
      simp only [List.length_singleton] at ha
      have h1 : a.length ≤ 1099511627776 := by omega
      have h2 : (sortL a).length ≤ 1099511627776 := by rw [← sortL_len]; exact h1
      simp only [dnlt, cond_false, ltC_of h1, ltC_of h2, Option.bind_some, appC_of (show A.length + [compL (sortL a)].length ≤ 1099511627776 by simp; omega), succ_W (show i + 1 < 9223372036854775808 by omega)]
    · rfl
  · intro a _
    simp only [dnlt]; rfl
  · rw [List.nil_append, ← List.map_eq_flatMap]
theorem G114_many (l : List (List Int)) (h : l.length ≤ 1000) : G114 LF l = some (manyL l) := by
  unfold G114 manyL
  refine (iter_foldI (fun i a => (a, i)) (fun (x : List Int) _ n => if (4001 : Int) < w64 (n * (x.length : Int)) then 4001 else w64 (n * (x.length : Int))) (fun _ _ => True) l (fun a => some a) 1 ?_ (fun _ _ _ _ _ => trivial) ?_ (by show l.length < 9223372036854775808; omega) trivial).trans ?_
  · intro i x a hx _
    have hi := lt_of_get hx
    simp only [dlt hi, cond_true, getI_nat hx, Option.bind_some, succ_W (show i + 1 < 9223372036854775808 by omega)]
  · intro a _
    simp only [dnlt]; rfl
  · rw [foldI_const]
end Go.K
set_option linter.unusedVariables false
set_option linter.unusedSimpArgs false
set_option maxRecDepth 100000
namespace Go.K
open Go.Sl Go.Sx Go.Proofs
theorem G112_span (x : Fct) : G112 LF x = some (spanB x) := by
  unfold G112 spanB
  have q1 : decide (x.2.1 ≥ -1000000000000) = decide (-1000000000000 ≤ x.2.1) := rfl
  by_cases h1 : -1000000000000 ≤ x.2.1
  · by_cases h2 : x.2.1 ≤ x.2.2
    · by_cases h3 : x.2.2 ≤ 1000000000000
      · simp only [q1, decide_eq_true h1, decide_eq_true h2, decide_eq_true h3, cond_true, decide_eq_true (And.intro h1 (And.intro h2 h3))]
      · simp only [q1, decide_eq_true h1, decide_eq_true h2, decide_eq_false h3, cond_true, decide_eq_false (fun h : _ ∧ _ ∧ _ => h3 h.2.2)]
    · simp only [q1, decide_eq_true h1, decide_eq_false h2, cond_true, cond_false, decide_eq_false (fun h : _ ∧ _ ∧ _ => h2 h.2.1)]
  · simp only [q1, decide_eq_false h1, cond_false, decide_eq_false (fun h : _ ∧ _ ∧ _ => h1 h.1)]
theorem getD_none {ρ : Type} (o : Option ρ) (d : ρ) : (match o with | some e => some e | none => some d) = some (o.getD d) := by cases o <;> rfl
theorem unlS_eq (l : List Rl) (u : List ByteArray) (s : ByteArray) (k : Nat) : unlS l u s k = bif (!hasR l s) || (u.take k).any (fun x => decide (s = x)) then some 42 else none := by
  unfold unlS
  have : (fun x : ByteArray => decide (x = s)) = fun x => decide (s = x) := by funext x; exact decide_eq_decide.2 eq_comm
  rw [this]
theorem iter_two {ρ : Type} {f : Int → Option (Int ⊕ ρ)} {e0 e1 : Int} {g : Int → ρ} {fin : Option ρ} (h0 : f 0 = some (if e0 = 0 then .inl 1 else .inr (g e0))) (h1 : f 1 = some (if e1 = 0 then .inl 2 else .inr (g e1))) (h2 : f 2 = outR fin) :
    iter LF f 0 = if e0 = 0 then (if e1 = 0 then fin else some (g e1)) else some (g e0) := by
  have key : ∀ n, iter (n + 3) f 0 = if e0 = 0 then (if e1 = 0 then fin else some (g e1)) else some (g e0) := by
   intro n
   simp only [iter, h0]
   by_cases z0 : e0 = 0
   · simp only [z0, if_true, h1]
     by_cases z1 : e1 = 0
     · simp only [z1, if_true, h2]
       cases fin <;> rfl
     · simp only [z1, if_false]
   · simp only [z0, if_false]
  exact key 9223372036854775805
theorem scan_none {σ ρ : Type} {g : σ → Nat → Option ρ} : ∀ {l : List σ} {i : Nat}, scan g l i = none → ∀ j x, l[j]? = some x → g x (i + j) = none
  | [], _, _, _, _, hx => by simp at hx
  | y :: l, i, h, j, x, hx => by
    simp only [scan] at h
    cases hg : g y i with
    | some e => rw [hg] at h; cases h
    | none =>
      rw [hg] at h
      cases j with
      | zero => simp at hx; subst hx; exact hg
      | succ j =>
        have := scan_none h j x (by simpa using hx)
        rwa [show i + 1 + j = i + (j + 1) by omega] at this
theorem cond_short {f : List Fct} {c : Cnd} (h : condE f c = 0) : 1 ≤ c.length ∧ c.length ≤ 30 ∧ ∀ i t, c[i]? = some t → condS f t i = none := by
  unfold condE at h
  split at h
  · cases h
  · split at h
    · cases h
    · rename_i h1 h2
      refine ⟨List.length_pos_iff.2 h2, by omega, fun i t ht => ?_⟩
      cases hs : scan (condS f) c 0 with
      | none =>
        have := scan_none hs i t ht
        rwa [Nat.zero_add] at this
      | some e =>
        rw [hs] at h
        simp only [Option.getD_some] at h
        subst h
        exfalso
        have key : ∀ (l : Cnd) (i : Nat), scan (condS f) l i ≠ some 0 := by
          intro l
          induction l with
          | nil => intro i; simp [scan]
          | cons t l ih =>
            intro i
            simp only [scan]
            cases hc : condS f t i with
            | none => exact ih (i + 1)
            | some e =>
              unfold condS at hc
              intro he
              simp only [Option.some.injEq] at he
              subst he
              cases h1 : shp t i with
              | false => rw [h1] at hc; cases hc
              | true =>
                rw [h1] at hc
                simp only [Bool.not_true, cond_false] at hc
                revert hc
                cases cmpK t.1 && !f.any (fun x => decide (x.1 = t.2.2.2.1)) <;> simp
        exact key c 0 hs
theorem rule_ok {f : List Fct} {l : List Rl} {i : Nat} {r : Rl} (h : ruleE f l i r = 0) : nmB r.1 = true ∧ hasR (l.take i) r.1 = false ∧ (0 ≤ r.2.1 ∧ r.2.1 ≤ r.2.2.1 ∧ r.2.2.1 ≤ 100000) ∧ condE f r.2.2.2.1 = 0 ∧ condE f r.2.2.2.2.1 = 0 ∧ r.2.2.2.2.2.length ≤ 6 ∧ (scan (unlS (l.take i) r.2.2.2.2.2) r.2.2.2.2.2 0).getD 0 = 0 := by
  unfold ruleE at h
  cases h1 : !nmB r.1 || hasR (l.take i) r.1 with
  | true => rw [h1] at h; cases h
  | false =>
    rw [h1] at h
    simp only [cond_false] at h
    simp only [Bool.or_eq_false_iff, Bool.not_eq_false'] at h1
    split at h
    · cases h
    · rename_i h2
      split at h
      · rename_i h3; exact absurd h h3
      · rename_i h3
        split at h
        · rename_i h4; exact absurd h h4
        · rename_i h4
          split at h
          · cases h
          · rename_i h5
            exact ⟨h1.1, h1.2, by omega, by simpa using h3, by simpa using h4, by omega, h⟩
theorem rules_ok {f : List Fct} {l : List Rl} (h : scan (ruleS f l) l 0 = none) {i : Nat} {r : Rl} (hr : l[i]? = some r) : ruleE f l i r = 0 := by
  have := scan_none h i r hr
  rw [Nat.zero_add] at this
  unfold ruleS at this
  split at this
  · cases this
  · rename_i h2; simpa using h2
theorem conds_short {f : List Fct} {l : List Rl} (h : scan (ruleS f l) l 0 = none) : ∀ c ∈ condsL l, List.length c ≤ 1000 := by
  intro c hc
  unfold condsL at hc
  obtain ⟨r, hr, hc⟩ := List.mem_flatMap.1 hc
  obtain ⟨i, hi, rfl⟩ := List.mem_iff_getElem.1 hr
  obtain ⟨_, _, _, h1, h2, _⟩ := rule_ok (rules_ok h (List.getElem?_eq_getElem hi))
  simp only [List.mem_cons, List.not_mem_nil, or_false] at hc
  rcases hc with rfl | rfl
  · have := (cond_short h1).2.1; omega
  · have := (cond_short h2).2.1; omega
theorem G113_rule (c : Cd) (i : Nat) (r : Rl) (hr : c.2.2[i]? = some r) (hf : c.2.1.length < LF) (hl : c.2.2.length ≤ 1000) : G113 LF (c, (i : Int)) = some (ruleE c.2.1 c.2.2 i r) := by
  have hi := lt_of_get hr
  have hi' : i < LF := by show i < 9223372036854775808; omega
  have htl : (c.2.2.take i).length < LF := by rw [List.length_take]; show min i c.2.2.length < 9223372036854775808; omega
  unfold G113 ruleE
  simp only [getI_nat hr, Option.bind_some, G94_nm, subI_take (Nat.le_of_lt hi), G36_fnd _ _ _ _ htl, fnd_nn, fnd_neg]
  cases hnm : nmB r.1 with
  | false => simp [jl]
  | true =>
    simp only [Bool.not_true, cond_false, jl, Bool.false_or]
    cases hh : hasR (c.2.2.take i) r.1 with
    | true => rfl
    | false =>
      simp only [cond_false]
      by_cases hd : r.2.1 < 0 ∨ r.2.1 > r.2.2.1 ∨ r.2.2.1 > 100000
      · rw [if_pos hd]
        by_cases d1 : r.2.1 < 0
        · simp [d1, jl]
        · by_cases d2 : r.2.1 > r.2.2.1
          · simp [d1, d2, jl]
          · have d3 : r.2.2.1 > 100000 := by omega
            simp [d1, d2, d3, jl]
      · rw [if_neg hd]
        have d1 : ¬ r.2.1 < 0 := by omega
        have d2 : ¬ r.2.1 > r.2.2.1 := by omega
        have d3 : ¬ r.2.2.1 > 100000 := by omega
        simp only [d1, d2, d3, decide_false, cond_false, jl]
        refine (iter_two (e0 := condE c.2.1 r.2.2.2.1) (e1 := condE c.2.1 r.2.2.2.2.1) (g := fun e => e) (fin := if 6 < r.2.2.2.2.2.length then some 2 else some ((scan (unlS (c.2.2.take i) r.2.2.2.2.2) r.2.2.2.2.2 0).getD 0)) ?_ ?_ ?_).trans ?_
        · simp only [show decide ((0 : Int) < 2) = true by rfl, decide_true, cond_true, G29_cond _ _ hf, Option.bind_some]
          by_cases h0 : condE c.2.1 r.2.2.2.1 = 0 <;> simp [h0]
          rfl
        · simp only [show decide ((1 : Int) < 2) = true by rfl, show decide ((1 : Int) = 0) = false by rfl, decide_true, cond_true, cond_false, G29_cond _ _ hf, Option.bind_some]
          by_cases h0 : condE c.2.1 r.2.2.2.2.1 = 0 <;> simp [h0]
          rfl
        · simp only [show decide ((2 : Int) < 2) = false by rfl, cond_false]
          congr 1
          by_cases hu6 : 6 < r.2.2.2.2.2.length
          · have : decide ((r.2.2.2.2.2.length : Int) > 6) = true := decide_eq_true (by omega)
            simp only [this, cond_true, hu6, if_true]
          · have : decide ((r.2.2.2.2.2.length : Int) > 6) = false := decide_eq_false (by omega)
            have hu : r.2.2.2.2.2.length < LF := by show r.2.2.2.2.2.length < 9223372036854775808; omega
            simp only [this, cond_false, hu6, if_false]
            refine (iter_scan (unlS (c.2.2.take i) r.2.2.2.2.2) r.2.2.2.2.2 (some 0) ?_ ?_ hu).trans (getD_none _ _)
            · intro k s hk _
              have hkl := lt_of_get hk
              have htu : (r.2.2.2.2.2.take k).length < LF := by rw [List.length_take]; omega
              simp only [dlt hkl, cond_true, getI_nat hk, Option.bind_some, subI_take (Nat.le_of_lt hkl), G180_any _ _ htu, succ_W (Nat.lt_of_le_of_lt hkl hu), unlS_eq]
              cases hasR (c.2.2.take i) s <;> simp [jl]
              cases (r.2.2.2.2.2.take k).any fun x => decide (s = x) <;> rfl
            · intro _
              simp only [dnlt]; rfl
        · by_cases h0 : condE c.2.1 r.2.2.2.1 = 0
          · by_cases h1 : condE c.2.1 r.2.2.2.2.1 = 0
            · by_cases hu6 : 6 < r.2.2.2.2.2.length <;> simp [h0, h1, hu6]
            · simp [h0, h1]
          · simp [h0]
theorem G31_code (c : Cd) : G31 LF c = some (codeE c) := by
  unfold G31 codeE
  simp only [G94_nm, Option.bind_some]
  cases nmB c.1 with
  | false => rfl
  | true =>
    simp only [Bool.not_true, cond_false]
    by_cases h0 : c.2.1 = []
    · simp [h0]
    · have e0 : decide ((c.2.1.length : Int) = 0) = false := decide_eq_false (by have := List.length_pos_iff.2 h0; omega)
      rw [if_neg h0]
      simp only [e0, cond_false]
      by_cases h1 : 6 < c.2.1.length ∨ 12 < c.2.2.length
      · rw [if_pos h1]
        by_cases h2 : 6 < c.2.1.length
        · have : decide ((c.2.1.length : Int) > 6) = true := decide_eq_true (by omega)
          simp [this, jl]
        · have a1 : decide ((c.2.1.length : Int) > 6) = false := decide_eq_false (by omega)
          have a2 : decide ((c.2.2.length : Int) > 12) = true := decide_eq_true (by omega)
          simp [a1, a2, jl]
      · rw [if_neg h1]
        have a1 : decide ((c.2.1.length : Int) > 6) = false := decide_eq_false (by omega)
        have a2 : decide ((c.2.2.length : Int) > 12) = false := decide_eq_false (by omega)
        simp only [a1, a2, cond_false, jl]
        have hf6 : c.2.1.length ≤ 6 := by omega
        have hl12 : c.2.2.length ≤ 12 := by omega
        have hf : c.2.1.length < LF := by show c.2.1.length < 9223372036854775808; omega
        have hl : c.2.2.length < LF := by show c.2.2.length < 9223372036854775808; omega
        refine (iter_scan (factS c.2.1) c.2.1 (match scan (ruleS c.2.1 c.2.2) c.2.2 0 with
            | some e => some e
            | none => some (if manyL (startsL c.2.1 (condsL c.2.2)) > 4000 then 2 else 0)) ?_ ?_ hf).trans ?_
        · intro i x hx _
          have hi := lt_of_get hx
          have htl : (c.2.1.take i).length < LF := by rw [List.length_take]; omega
          simp only [dlt hi, cond_true, getI_nat hx, Option.bind_some, G94_nm, subI_take (Nat.le_of_lt hi), G110_plc _ _ htl, plF_nn, G112_span, succ_W (Nat.lt_of_le_of_lt hi hf)]
          unfold factS
          cases nmB x.1 with
          | false => rfl
          | true =>
            simp only [Bool.not_true, cond_false, jl, Bool.false_or]
            cases (c.2.1.take i).any fun y => decide (y.1 = x.1) with
            | true => rfl
            | false => simp only [cond_false]; cases spanB x <;> rfl
        · intro _
          simp only [dnlt, cond_false]
          congr 1
          refine (iter_scan (ruleS c.2.1 c.2.2) c.2.2 (some (if manyL (startsL c.2.1 (condsL c.2.2)) > 4000 then 2 else 0)) ?_ ?_ hl).trans ?_
          · intro i r hr _
            have hi := lt_of_get hr
            simp only [dlt hi, cond_true, Option.bind_some, G113_rule c i r hr hf (by omega), succ_W (Nat.lt_of_le_of_lt hi hl)]
            unfold ruleS
            by_cases hz : ruleE c.2.1 c.2.2 i r = 0 <;> simp [hz]
          · intro hs
            simp only [dnlt, cond_false]
            congr 1
            have hcl : (condsL c.2.2).length ≤ 1000 := by
              have := flat_len (fun r : Rl => [r.2.2.2.1, r.2.2.2.2.1]) 2 c.2.2 (fun _ _ => by simp)
              unfold condsL; omega
            simp only [G116_conds _ _ _ (show c.2.2.length ≤ 1000 by omega), Option.bind_some, G115_starts _ _ (show c.2.1.length ≤ 1000 by omega) hcl (conds_short hs), G114_many _ (show (startsL c.2.1 (condsL c.2.2)).length ≤ 1000 by unfold startsL; rw [List.length_map]; omega)]
            by_cases hm : manyL (startsL c.2.1 (condsL c.2.2)) > 4000 <;> simp [hm]
          · cases scan (ruleS c.2.1 c.2.2) c.2.2 0 <;> rfl
        · cases scan (factS c.2.1) c.2.1 0 with
          | some e => rfl
          | none => cases scan (ruleS c.2.1 c.2.2) c.2.2 0 <;> rfl
end Go.K
set_option linter.unusedVariables false
set_option maxRecDepth 100000
set_option maxHeartbeats 0
namespace Go.K
open Go.Sl Go.Sx Go.Proofs
def S126 : FuncId → Sp := fun g => match g with
  | 128 => { nz := [(11, [12])] }
  | _ => {}
noncomputable def F126 (P : Program) (lf : Nat) (x : tt [(false, .i), (false, .i), (false, .i)]) : Option (tt [(false, .bool)]) := fnF P (C22 P lf) S126 126 [(false, .i), (false, .i), (false, .i)] [(false, .bool)] lf x
noncomputable def C126 (P : Program) (lf : Nat) : FuncId → Option Con := extC (C22 P lf) 126 (dataCon [(false, .i), (false, .i), (false, .i)] [(false, .bool)] (F126 P lf))
theorem F126_eq (lf : Nat) (a0 : Int) (a1 : Int) (a2 : Int) : F126 Tryz.prog lf (a0, (a1, a2)) =
  cond (decide (a1 ≤ a0)) (some (decide (a0 ≤ a2))) (some false) := by kernel_rfl
def S168 : FuncId → Sp := fun g => match g with
  | 128 => { nz := [(11, [12])] }
  | _ => {}
noncomputable def F168 (P : Program) (lf : Nat) (x : tt []) : Option (tt [(false, (.sl .str))]) := fnF P (C126 P lf) S168 168 [] [(false, (.sl .str))] lf x
noncomputable def C168 (P : Program) (lf : Nat) : FuncId → Option Con := extC (C126 P lf) 168 (dataCon [] [(false, (.sl .str))] (F168 P lf))
theorem F168_eq (lf : Nat) : F168 Tryz.prog lf () =
  some [(bts [99, 111, 100, 101]), (bts [102, 97, 99, 116]), (bts [114, 117, 108, 101]), (bts [119, 104, 101, 110]), (bts [109, 117, 115, 116]), (bts [117, 110, 108, 101, 115, 115]), (bts [97, 110, 100]), (bts [111, 114]), (bts [110, 111, 116]), (bts [116, 114, 117, 101])] := by kernel_rfl
def S84 : FuncId → Sp := fun g => match g with
  | 84 => { loops := [(2, [(.slot 9, .dat .i)])] }
  | 128 => { nz := [(11, [12])] }
  | _ => {}
noncomputable def F84 (P : Program) (lf : Nat) (x : tt [(false, (.sl .str)), (false, .str)]) : Option (tt [(false, .bool)]) := fnF P (C168 P lf) S84 84 [(false, (.sl .str)), (false, .str)] [(false, .bool)] lf x
noncomputable def C84 (P : Program) (lf : Nat) : FuncId → Option Con := extC (C168 P lf) 84 (dataCon [(false, (.sl .str)), (false, .str)] [(false, .bool)] (F84 P lf))
theorem F84_eq (lf : Nat) (a0 : (List ByteArray)) (a1 : ByteArray) : F84 Tryz.prog lf (a0, a1) =
  iter lf (fun y4 : Int => cond (decide (y4 < (a0.length : Int))) (((getI a0 y4)).bind fun r5 => cond ((ByteArray.toList r5) == (ByteArray.toList a1)) (some (.inr true)) (some (.inl (w64 (y4 + (1 : Int)))))) (some (.inr false))) (0 : Int) := by kernel_rfl
def S99 : FuncId → Sp := fun g => match g with
  | 99 => { joins := [(9, [(.slot 54, .dat .bool)]), (8, [(.slot 5, .dat .bool)]), (7, [(.slot 4, .dat .bool)]), (2, [(.slot 18, .dat .bool)])], loops := [(4, [(.slot 3, .dat .i)])] }
  | 128 => { nz := [(11, [12])] }
  | _ => {}
noncomputable def F99 (P : Program) (lf : Nat) (x : tt [(false, .str)]) : Option (tt [(false, .bool)]) := fnF P (C84 P lf) S99 99 [(false, .str)] [(false, .bool)] lf x
noncomputable def C99 (P : Program) (lf : Nat) : FuncId → Option Con := extC (C84 P lf) 99 (dataCon [(false, .str)] [(false, .bool)] (F99 P lf))
theorem F99_eq (lf : Nat) (a0 : ByteArray) : F99 Tryz.prog lf a0 =
  jn (cond (decide ((a0.size : Int) < (1 : Int))) (some (.inl true)) (cond (decide ((a0.size : Int) > (12 : Int))) (some (.inl true)) (((F168 Tryz.prog lf ())).bind fun r12 => ((F84 Tryz.prog lf (r12, a0))).bind fun r13 => some (.inl r13)))) (fun y14 : Bool => cond y14 (some false) (iter lf (fun y15 : Int => cond (decide (y15 < (a0.size : Int))) (jn (((byteAt a0 y15)).bind fun r16 => cond (decide ((97 : Int) ≤ r16)) (((byteAt a0 y15)).bind fun r17 => some (.inl (decide (r17 ≤ (122 : Int))))) (some (.inl false))) (fun y18 : Bool => jn (((byteAt a0 y15)).bind fun r19 => cond (decide ((48 : Int) ≤ r19)) (((byteAt a0 y15)).bind fun r20 => some (.inl (decide (r20 ≤ (57 : Int))))) (some (.inl false))) (fun y21 : Bool => jn (cond (!y18) (cond (!y21) (some (.inl true)) (some (.inl (decide (y15 = (0 : Int)))))) (some (.inl false))) (fun y22 : Bool => cond y22 (some (.inr false)) (some (.inl (w64 (y15 + (1 : Int))))))))) (some (.inr true))) (0 : Int))) := by kernel_rfl
def S117 : FuncId → Sp := fun g => match g with
  | 128 => { nz := [(11, [12])] }
  | _ => {}
noncomputable def F117 (P : Program) (lf : Nat) (x : tt [(true, (.pair .i .i))]) : Option (tt [(false, .bool)]) := fnF P (C99 P lf) S117 117 [(true, (.pair .i .i))] [(false, .bool)] lf x
noncomputable def C117 (P : Program) (lf : Nat) : FuncId → Option Con := extC (C99 P lf) 117 (dataCon [(true, (.pair .i .i))] [(false, .bool)] (F117 P lf))
theorem F117_eq (lf : Nat) (a0 : Int) (a1 : Int) : F117 Tryz.prog lf (a0, a1) =
  cond (decide ((-1000000000000 : Int) ≤ a0)) (cond (decide (a0 ≤ a1)) (some (decide (a1 ≤ (1000000000000 : Int)))) (some false)) (some false) := by kernel_rfl
def S98 : FuncId → Sp := fun g => match g with
  | 128 => { nz := [(11, [12])] }
  | _ => {}
noncomputable def F98 (P : Program) (lf : Nat) (x : tt [(false, .i)]) : Option (tt [(false, .bool)]) := fnF P (C117 P lf) S98 98 [(false, .i)] [(false, .bool)] lf x
noncomputable def C98 (P : Program) (lf : Nat) : FuncId → Option Con := extC (C117 P lf) 98 (dataCon [(false, .i)] [(false, .bool)] (F98 P lf))
theorem F98_eq (lf : Nat) (a0 : Int) : F98 Tryz.prog lf a0 =
  cond (decide (a0 = (1 : Int))) (some true) (cond (decide (a0 = (2 : Int))) (some true) (some (decide (a0 = (3 : Int))))) := by kernel_rfl
def S97 : FuncId → Sp := fun g => match g with
  | 97 => { joins := [(15, [(.slot 61, .dat .bool)]), (10, [(.slot 33, .dat .bool)]), (4, [(.slot 7, .dat .bool)])] }
  | 128 => { nz := [(11, [12])] }
  | _ => {}
noncomputable def F97 (P : Program) (lf : Nat) (x : tt [(true, (.pair .i (.pair .i (.pair .i (.pair .str .i))))), (false, .i)]) : Option (tt [(false, .bool)]) := fnF P (C98 P lf) S97 97 [(true, (.pair .i (.pair .i (.pair .i (.pair .str .i))))), (false, .i)] [(false, .bool)] lf x
noncomputable def C97 (P : Program) (lf : Nat) : FuncId → Option Con := extC (C98 P lf) 97 (dataCon [(true, (.pair .i (.pair .i (.pair .i (.pair .str .i))))), (false, .i)] [(false, .bool)] (F97 P lf))
theorem F97_eq (lf : Nat) (a0 : Int) (a1 : Int) (a2 : Int) (a3 : ByteArray) (a4 : Int) (a5 : Int) : F97 Tryz.prog lf ((a0, (a1, (a2, (a3, a4)))), a5) =
  ((F126 Tryz.prog lf (a1, ((0 : Int), (w64 (a5 - (1 : Int))))))).bind fun r12 => ((F126 Tryz.prog lf (a2, ((0 : Int), (w64 (a5 - (1 : Int))))))).bind fun r13 => jn (cond ((ByteArray.toList a3) == ([] : List UInt8)) (some (.inl (decide (a4 = (0 : Int))))) (some (.inl false))) (fun y14 : Bool => cond (decide (a0 = (0 : Int))) (some ((decide (a0 = (0 : Int))) && ((decide (a1 = (0 : Int))) && ((decide (a2 = (0 : Int))) && (((ByteArray.toList a3) == ([] : List UInt8)) && ((decide (a4 = (0 : Int))) && true)))))) (jn (cond (decide (a0 = (1 : Int))) (some (.inl (decide (a0 = (1 : Int))))) (cond (decide (a0 = (2 : Int))) (some (.inl (decide (a0 = (2 : Int))))) (some (.inl (decide (a0 = (3 : Int))))))) (fun y15 : Bool => cond y15 (cond (decide (a1 = (0 : Int))) (cond (decide (a2 = (0 : Int))) (((F126 Tryz.prog lf (a4, ((-1000000000000 : Int), (1000000000000 : Int))))).bind fun r16 => some r16) (some false)) (some false)) (cond (decide (a0 = (4 : Int))) (cond y14 (cond r12 (some (decide (a2 = (0 : Int)))) (some false)) (some false)) (jn (cond (decide (a0 = (5 : Int))) (some (.inl (decide (a0 = (5 : Int))))) (some (.inl (decide (a0 = (6 : Int)))))) (fun y17 : Bool => cond y17 (cond y14 (cond r12 (some r13) (some false)) (some false)) (some false))))))) := by kernel_rfl
def S111 : FuncId → Sp := fun g => match g with
  | 111 => { loops := [(2, [(.slot 9, .dat .i)])] }
  | 128 => { nz := [(11, [12])] }
  | _ => {}
noncomputable def F111 (P : Program) (lf : Nat) (x : tt [(false, (.sl (.pair .str (.pair .i .i)))), (false, .str)]) : Option (tt [(false, .i)]) := fnF P (C97 P lf) S111 111 [(false, (.sl (.pair .str (.pair .i .i)))), (false, .str)] [(false, .i)] lf x
noncomputable def C111 (P : Program) (lf : Nat) : FuncId → Option Con := extC (C97 P lf) 111 (dataCon [(false, (.sl (.pair .str (.pair .i .i)))), (false, .str)] [(false, .i)] (F111 P lf))
theorem F111_eq (lf : Nat) (a0 : (List (ByteArray × (Int × Int)))) (a1 : ByteArray) : F111 Tryz.prog lf (a0, a1) =
  iter lf (fun y4 : Int => cond (decide (y4 < (a0.length : Int))) (((getI a0 y4)).bind fun r5 => cond ((ByteArray.toList r5.1) == (ByteArray.toList a1)) (some (.inr y4)) (some (.inl (w64 (y4 + (1 : Int)))))) (some (.inr (-1 : Int)))) (0 : Int) := by kernel_rfl
def S30 : FuncId → Sp := fun g => match g with
  | 30 => { joins := [(11, [(.slot 36, .dat .bool)])], loops := [(6, [(.slot 18, .dat .i)])] }
  | 128 => { nz := [(11, [12])] }
  | _ => {}
noncomputable def F30 (P : Program) (lf : Nat) (x : tt [(false, (.sl (.pair .str (.pair .i .i)))), (true, (.sl (.pair .i (.pair .i (.pair .i (.pair .str .i))))))]) : Option (tt [(false, .i)]) := fnF P (C111 P lf) S30 30 [(false, (.sl (.pair .str (.pair .i .i)))), (true, (.sl (.pair .i (.pair .i (.pair .i (.pair .str .i))))))] [(false, .i)] lf x
noncomputable def C30 (P : Program) (lf : Nat) : FuncId → Option Con := extC (C111 P lf) 30 (dataCon [(false, (.sl (.pair .str (.pair .i .i)))), (true, (.sl (.pair .i (.pair .i (.pair .i (.pair .str .i))))))] [(false, .i)] (F30 P lf))
theorem F30_eq (lf : Nat) (a0 : (List (ByteArray × (Int × Int)))) (a1 : (List (Int × (Int × (Int × (ByteArray × Int)))))) : F30 Tryz.prog lf (a0, a1) =
  cond (decide ((a1.length : Int) > (30 : Int))) (some (2 : Int)) (cond (decide ((a1.length : Int) = (0 : Int))) (some (41 : Int)) (iter lf (fun y8 : Int => cond (decide (y8 < (a1.length : Int))) (((getI a1 y8)).bind fun r9 => ((F97 Tryz.prog lf ((r9.1, (r9.2.1, (r9.2.2.1, (r9.2.2.2.1, r9.2.2.2.2)))), y8))).bind fun r10 => cond (!r10) (some (.inr (41 : Int))) (jn (((F98 Tryz.prog lf r9.1)).bind fun r11 => cond r11 (((F111 Tryz.prog lf (a0, r9.2.2.2.1))).bind fun r12 => some (.inl (decide (r12 < (0 : Int))))) (some (.inl false))) (fun y13 : Bool => cond y13 (some (.inr (40 : Int))) (some (.inl (w64 (y8 + (1 : Int)))))))) (some (.inr (0 : Int)))) (0 : Int))) := by kernel_rfl
def S37 : FuncId → Sp := fun g => match g with
  | 37 => { loops := [(2, [(.slot 10, .dat .i)])] }
  | 128 => { nz := [(11, [12])] }
  | _ => {}
noncomputable def F37 (P : Program) (lf : Nat) (x : tt [(true, (.pair .str (.pair (.sl (.pair .str (.pair .i .i))) (.sl (.pair .str (.pair .i (.pair .i (.pair (.sl (.pair .i (.pair .i (.pair .i (.pair .str .i))))) (.pair (.sl (.pair .i (.pair .i (.pair .i (.pair .str .i))))) (.sl .str)))))))))), (false, .str)]) : Option (tt [(false, .i)]) := fnF P (C30 P lf) S37 37 [(true, (.pair .str (.pair (.sl (.pair .str (.pair .i .i))) (.sl (.pair .str (.pair .i (.pair .i (.pair (.sl (.pair .i (.pair .i (.pair .i (.pair .str .i))))) (.pair (.sl (.pair .i (.pair .i (.pair .i (.pair .str .i))))) (.sl .str)))))))))), (false, .str)] [(false, .i)] lf x
noncomputable def C37 (P : Program) (lf : Nat) : FuncId → Option Con := extC (C30 P lf) 37 (dataCon [(true, (.pair .str (.pair (.sl (.pair .str (.pair .i .i))) (.sl (.pair .str (.pair .i (.pair .i (.pair (.sl (.pair .i (.pair .i (.pair .i (.pair .str .i))))) (.pair (.sl (.pair .i (.pair .i (.pair .i (.pair .str .i))))) (.sl .str)))))))))), (false, .str)] [(false, .i)] (F37 P lf))
theorem F37_eq (lf : Nat) (a0 : ByteArray) (a1 : (List (ByteArray × (Int × Int)))) (a2 : (List (ByteArray × (Int × (Int × ((List (Int × (Int × (Int × (ByteArray × Int))))) × ((List (Int × (Int × (Int × (ByteArray × Int))))) × (List ByteArray)))))))) (a3 : ByteArray) : F37 Tryz.prog lf ((a0, (a1, a2)), a3) =
  iter lf (fun y6 : Int => cond (decide (y6 < (a2.length : Int))) (((getI a2 y6)).bind fun r7 => cond ((ByteArray.toList r7.1) == (ByteArray.toList a3)) (some (.inr y6)) (some (.inl (w64 (y6 + (1 : Int)))))) (some (.inr (-1 : Int)))) (0 : Int) := by kernel_rfl
def S118 : FuncId → Sp := fun g => match g with
  | 118 => { joins := [(18, [(.slot 86, .dat .bool)]), (9, [(.slot 6, .dat .i)]), (5, [(.slot 41, .dat .bool)]), (3, [(.slot 26, .dat .bool)])], loops := [(14, [(.slot 64, .dat .i)])] }
  | 128 => { nz := [(11, [12])] }
  | _ => {}
noncomputable def F118 (P : Program) (lf : Nat) (x : tt [(true, (.pair .str (.pair (.sl (.pair .str (.pair .i .i))) (.sl (.pair .str (.pair .i (.pair .i (.pair (.sl (.pair .i (.pair .i (.pair .i (.pair .str .i))))) (.pair (.sl (.pair .i (.pair .i (.pair .i (.pair .str .i))))) (.sl .str)))))))))), (false, .i)]) : Option (tt [(false, .i)]) := fnF P (C37 P lf) S118 118 [(true, (.pair .str (.pair (.sl (.pair .str (.pair .i .i))) (.sl (.pair .str (.pair .i (.pair .i (.pair (.sl (.pair .i (.pair .i (.pair .i (.pair .str .i))))) (.pair (.sl (.pair .i (.pair .i (.pair .i (.pair .str .i))))) (.sl .str)))))))))), (false, .i)] [(false, .i)] lf x
noncomputable def C118 (P : Program) (lf : Nat) : FuncId → Option Con := extC (C37 P lf) 118 (dataCon [(true, (.pair .str (.pair (.sl (.pair .str (.pair .i .i))) (.sl (.pair .str (.pair .i (.pair .i (.pair (.sl (.pair .i (.pair .i (.pair .i (.pair .str .i))))) (.pair (.sl (.pair .i (.pair .i (.pair .i (.pair .str .i))))) (.sl .str)))))))))), (false, .i)] [(false, .i)] (F118 P lf))
theorem F118_eq (lf : Nat) (a0 : ByteArray) (a1 : (List (ByteArray × (Int × Int)))) (a2 : (List (ByteArray × (Int × (Int × ((List (Int × (Int × (Int × (ByteArray × Int))))) × ((List (Int × (Int × (Int × (ByteArray × Int))))) × (List ByteArray)))))))) (a3 : Int) : F118 Tryz.prog lf ((a0, (a1, a2)), a3) =
  ((getI a2 a3)).bind fun r18 => jn (((F99 Tryz.prog lf r18.1)).bind fun r19 => cond (!r19) (some (.inl true)) (((F37 Tryz.prog lf ((a0, (a1, a2)), r18.1))).bind fun r20 => some (.inl (decide (r20 < a3))))) (fun y21 : Bool => cond y21 (some (40 : Int)) (jn (cond (decide (r18.2.1 < (0 : Int))) (some (.inl true)) (cond (decide (r18.2.1 > r18.2.2.1)) (some (.inl true)) (some (.inl (decide (r18.2.2.1 > (100000 : Int))))))) (fun y22 : Bool => cond y22 (some (45 : Int)) (((F30 Tryz.prog lf (a1, r18.2.2.2.1))).bind fun r23 => jn (cond (decide (r23 = (0 : Int))) (((F30 Tryz.prog lf (a1, r18.2.2.2.2.1))).bind fun r24 => some (.inl r24)) (some (.inl r23))) (fun y25 : Int => cond (!(decide (y25 = (0 : Int)))) (some y25) (cond (decide ((r18.2.2.2.2.2.length : Int) > (6 : Int))) (some (2 : Int)) (iter lf (fun y26 : Int => cond (decide (y26 < (r18.2.2.2.2.2.length : Int))) (((getI r18.2.2.2.2.2 y26)).bind fun r27 => ((F37 Tryz.prog lf ((a0, (a1, a2)), r27))).bind fun r28 => jn (cond (decide (r28 < (0 : Int))) (some (.inl true)) (cond (decide (r28 ≥ a3)) (some (.inl true)) (((subI r18.2.2.2.2.2 (0 : Int) y26)).bind fun r29 => ((F84 Tryz.prog lf (r29, r27))).bind fun r30 => some (.inl r30)))) (fun y31 : Bool => cond y31 (some (.inr (42 : Int))) (some (.inl (w64 (y26 + (1 : Int))))))) (some (.inr (0 : Int)))) (0 : Int)))))))) := by kernel_rfl
def S109 : FuncId → Sp := fun g => match g with
  | 109 => { loops := [(3, [(.slot 3, .own (.sl (.pair .i (.pair .i (.pair .i (.pair .str .i))))) 24), (.slot 9, .dat .i)])] }
  | 128 => { nz := [(11, [12])] }
  | _ => {}
noncomputable def F109 (P : Program) (lf : Nat) (x : tt [(true, (.pair .str (.pair (.sl (.pair .str (.pair .i .i))) (.sl (.pair .str (.pair .i (.pair .i (.pair (.sl (.pair .i (.pair .i (.pair .i (.pair .str .i))))) (.pair (.sl (.pair .i (.pair .i (.pair .i (.pair .str .i))))) (.sl .str))))))))))]) : Option (tt [(false, (.sl (.sl (.pair .i (.pair .i (.pair .i (.pair .str .i)))))))]) := fnF P (C118 P lf) S109 109 [(true, (.pair .str (.pair (.sl (.pair .str (.pair .i .i))) (.sl (.pair .str (.pair .i (.pair .i (.pair (.sl (.pair .i (.pair .i (.pair .i (.pair .str .i))))) (.pair (.sl (.pair .i (.pair .i (.pair .i (.pair .str .i))))) (.sl .str))))))))))] [(false, (.sl (.sl (.pair .i (.pair .i (.pair .i (.pair .str .i)))))))] lf x
noncomputable def C109 (P : Program) (lf : Nat) : FuncId → Option Con := extC (C118 P lf) 109 (dataCon [(true, (.pair .str (.pair (.sl (.pair .str (.pair .i .i))) (.sl (.pair .str (.pair .i (.pair .i (.pair (.sl (.pair .i (.pair .i (.pair .i (.pair .str .i))))) (.pair (.sl (.pair .i (.pair .i (.pair .i (.pair .str .i))))) (.sl .str))))))))))] [(false, (.sl (.sl (.pair .i (.pair .i (.pair .i (.pair .str .i)))))))] (F109 P lf))
theorem F109_eq (lf : Nat) (a0 : ByteArray) (a1 : (List (ByteArray × (Int × Int)))) (a2 : (List (ByteArray × (Int × (Int × ((List (Int × (Int × (Int × (ByteArray × Int))))) × ((List (Int × (Int × (Int × (ByteArray × Int))))) × (List ByteArray)))))))) : F109 Tryz.prog lf (a0, (a1, a2)) =
  iter lf (fun y7 : ((List (List (Int × (Int × (Int × (ByteArray × Int)))))) × Int) => cond (decide (y7.2 < (a2.length : Int))) (((getI a2 y7.2)).bind fun r8 => ((appC y7.1 [r8.2.2.2.1, r8.2.2.2.2.1])).bind fun r9 => some (.inl (r9, (w64 (y7.2 + (1 : Int)))))) (some (.inr y7.1))) (([] : List (List (Int × (Int × (Int × (ByteArray × Int)))))), (0 : Int)) := by kernel_rfl
def S176 : FuncId → Sp := fun g => match g with
  | 128 => { nz := [(11, [12])] }
  | _ => {}
noncomputable def F176 (P : Program) (lf : Nat) (x : tt [(true, (.pair .i (.pair .i (.pair .i (.pair .str .i)))))]) : Option (tt [(false, (.sl .i))]) := fnF P (C109 P lf) S176 176 [(true, (.pair .i (.pair .i (.pair .i (.pair .str .i)))))] [(false, (.sl .i))] lf x
noncomputable def C176 (P : Program) (lf : Nat) : FuncId → Option Con := extC (C109 P lf) 176 (dataCon [(true, (.pair .i (.pair .i (.pair .i (.pair .str .i)))))] [(false, (.sl .i))] (F176 P lf))
theorem F176_eq (lf : Nat) (a0 : Int) (a1 : Int) (a2 : Int) (a3 : ByteArray) (a4 : Int) : F176 Tryz.prog lf (a0, (a1, (a2, (a3, a4)))) =
  cond (decide (a0 = (1 : Int))) (some [a4]) (cond (decide (a0 = (2 : Int))) (some [(w64 (a4 + (1 : Int)))]) (cond (decide (a0 = (3 : Int))) (some [a4, (w64 (a4 + (1 : Int)))]) (some ([] : List Int)))) := by kernel_rfl
def S177 : FuncId → Sp := fun g => match g with
  | 177 => { joins := [(5, [(.slot 33, .dat .bool)]), (4, [(.slot 5, .dat .i)])], loops := [(2, [(.slot 5, .dat .i)])] }
  | 128 => { nz := [(11, [12])] }
  | _ => {}
noncomputable def F177 (P : Program) (lf : Nat) (x : tt [(false, (.sl .i)), (false, .i)]) : Option (tt [(false, (.sl .i))]) := fnF P (C176 P lf) S177 177 [(false, (.sl .i)), (false, .i)] [(false, (.sl .i))] lf x
noncomputable def C177 (P : Program) (lf : Nat) : FuncId → Option Con := extC (C176 P lf) 177 (dataCon [(false, (.sl .i)), (false, .i)] [(false, (.sl .i))] (F177 P lf))
theorem F177_eq (lf : Nat) (a0 : (List Int)) (a1 : Int) : F177 Tryz.prog lf (a0, a1) =
  jn (iter lf (fun y12 : Int => cond (decide (y12 > (0 : Int))) (((getI a0 (w64 (y12 - (1 : Int))))).bind fun r13 => cond (decide (r13 ≥ a1)) (some (.inl (w64 (y12 - (1 : Int))))) (some (.inr (.inl y12)))) (some (.inr (.inl y12)))) (a0.length : Int)) (fun y14 : Int => jn (cond (decide (y14 < (a0.length : Int))) (((getI a0 y14)).bind fun r15 => some (.inl (decide (r15 = a1)))) (some (.inl false))) (fun y16 : Bool => cond y16 (some a0) (((subI a0 (0 : Int) y14)).bind fun r17 => ((appC ([] : List Int) r17)).bind fun r18 => ((appC r18 [a1])).bind fun r19 => ((subI a0 y14 (a0.length : Int))).bind fun r20 => ((appC r19 r20)).bind fun r21 => some r21))) := by kernel_rfl
def S108 : FuncId → Sp := fun g => match g with
  | 108 => { joins := [(16, [(.slot 63, .dat .bool)])], loops := [(13, [(.slot 8, .dat (.sl .i)), (.slot 41, .dat .i)]), (10, [(.slot 8, .dat (.sl .i)), (.slot 34, .dat .i)]), (7, [(.slot 8, .dat (.sl .i)), (.slot 27, .dat .i)]), (3, [(.slot 5, .own (.sl .i) 41), (.slot 17, .dat .i)])] }
  | 128 => { nz := [(11, [12])] }
  | _ => {}
noncomputable def F108 (P : Program) (lf : Nat) (x : tt [(false, (.sl (.pair .str (.pair .i .i)))), (false, (.sl (.sl (.pair .i (.pair .i (.pair .i (.pair .str .i)))))))]) : Option (tt [(false, (.sl (.sl .i)))]) := fnF P (C177 P lf) S108 108 [(false, (.sl (.pair .str (.pair .i .i)))), (false, (.sl (.sl (.pair .i (.pair .i (.pair .i (.pair .str .i)))))))] [(false, (.sl (.sl .i)))] lf x
noncomputable def C108 (P : Program) (lf : Nat) : FuncId → Option Con := extC (C177 P lf) 108 (dataCon [(false, (.sl (.pair .str (.pair .i .i)))), (false, (.sl (.sl (.pair .i (.pair .i (.pair .i (.pair .str .i)))))))] [(false, (.sl (.sl .i)))] (F108 P lf))
theorem F108_eq (lf : Nat) (a0 : (List (ByteArray × (Int × Int)))) (a1 : (List (List (Int × (Int × (Int × (ByteArray × Int))))))) : F108 Tryz.prog lf (a0, a1) =
  iter lf (fun y44 : ((List (List Int)) × Int) => cond (decide (y44.2 < (a0.length : Int))) (((getI a0 y44.2)).bind fun r45 => iter lf (fun y46 : ((List Int) × Int) => cond (decide (y46.2 < (a1.length : Int))) (((getI a1 y46.2)).bind fun r47 => iter lf (fun y48 : ((List Int) × Int) => cond (decide (y48.2 < (r47.length : Int))) (((getI r47 y48.2)).bind fun r49 => ((F176 Tryz.prog lf (r49.1, (r49.2.1, (r49.2.2.1, (r49.2.2.2.1, r49.2.2.2.2)))))).bind fun r50 => iter lf (fun y51 : ((List Int) × Int) => cond (decide (y51.2 < (r50.length : Int))) (((getI r50 y51.2)).bind fun r52 => jn (cond ((ByteArray.toList r49.2.2.2.1) == (ByteArray.toList r45.1)) (cond (decide (r52 > r45.2.1)) (some (.inl (decide (r52 ≤ r45.2.2)))) (some (.inl false))) (some (.inl false))) (fun y53 : Bool => cond y53 (((F177 Tryz.prog lf (y51.1, r52))).bind fun r54 => some (.inl (r54, (w64 (y51.2 + (1 : Int)))))) (some (.inl (y51.1, (w64 (y51.2 + (1 : Int)))))))) (some (.inr (.inl (y51.1, (w64 (y48.2 + (1 : Int)))))))) (y48.1, (0 : Int))) (some (.inr (.inl (y48.1, (w64 (y46.2 + (1 : Int)))))))) (y46.1, (0 : Int))) (outR (((appC y44.1 [y46.1])).bind fun r55 => some (.inl (r55, (w64 (y44.2 + (1 : Int)))))))) ([r45.2.1], (0 : Int))) (some (.inr y44.1))) (([] : List (List Int)), (0 : Int)) := by kernel_rfl
def S120 : FuncId → Sp := fun g => match g with
  | 128 => { nz := [(11, [12])] }
  | _ => {}
noncomputable def F120 (P : Program) (lf : Nat) (x : tt [(true, (.pair .str (.pair (.sl (.pair .str (.pair .i .i))) (.sl (.pair .str (.pair .i (.pair .i (.pair (.sl (.pair .i (.pair .i (.pair .i (.pair .str .i))))) (.pair (.sl (.pair .i (.pair .i (.pair .i (.pair .str .i))))) (.sl .str))))))))))]) : Option (tt [(false, (.sl (.sl .i)))]) := fnF P (C108 P lf) S120 120 [(true, (.pair .str (.pair (.sl (.pair .str (.pair .i .i))) (.sl (.pair .str (.pair .i (.pair .i (.pair (.sl (.pair .i (.pair .i (.pair .i (.pair .str .i))))) (.pair (.sl (.pair .i (.pair .i (.pair .i (.pair .str .i))))) (.sl .str))))))))))] [(false, (.sl (.sl .i)))] lf x
noncomputable def C120 (P : Program) (lf : Nat) : FuncId → Option Con := extC (C108 P lf) 120 (dataCon [(true, (.pair .str (.pair (.sl (.pair .str (.pair .i .i))) (.sl (.pair .str (.pair .i (.pair .i (.pair (.sl (.pair .i (.pair .i (.pair .i (.pair .str .i))))) (.pair (.sl (.pair .i (.pair .i (.pair .i (.pair .str .i))))) (.sl .str))))))))))] [(false, (.sl (.sl .i)))] (F120 P lf))
theorem F120_eq (lf : Nat) (a0 : ByteArray) (a1 : (List (ByteArray × (Int × Int)))) (a2 : (List (ByteArray × (Int × (Int × ((List (Int × (Int × (Int × (ByteArray × Int))))) × ((List (Int × (Int × (Int × (ByteArray × Int))))) × (List ByteArray)))))))) : F120 Tryz.prog lf (a0, (a1, a2)) =
  ((F109 Tryz.prog lf (a0, (a1, a2)))).bind fun r5 => ((F108 Tryz.prog lf (a1, r5))).bind fun r6 => some r6 := by kernel_rfl
def S119 : FuncId → Sp := fun g => match g with
  | 119 => { loops := [(3, [(.slot 3, .dat .i), (.slot 8, .dat .i)])] }
  | 128 => { nz := [(11, [12])] }
  | _ => {}
noncomputable def F119 (P : Program) (lf : Nat) (x : tt [(false, (.sl (.sl .i)))]) : Option (tt [(false, .i)]) := fnF P (C120 P lf) S119 119 [(false, (.sl (.sl .i)))] [(false, .i)] lf x
noncomputable def C119 (P : Program) (lf : Nat) : FuncId → Option Con := extC (C120 P lf) 119 (dataCon [(false, (.sl (.sl .i)))] [(false, .i)] (F119 P lf))
theorem F119_eq (lf : Nat) (a0 : (List (List Int))) : F119 Tryz.prog lf a0 =
  iter lf (fun y4 : (Int × Int) => cond (decide (y4.2 < (a0.length : Int))) (((getI a0 y4.2)).bind fun r5 => some (.inl ((if (4001 : Int) < (w64 (y4.1 * (r5.length : Int))) then (4001 : Int) else (w64 (y4.1 * (r5.length : Int)))), (w64 (y4.2 + (1 : Int)))))) (some (.inr y4.1))) ((1 : Int), (0 : Int)) := by kernel_rfl
def S32 : FuncId → Sp := fun g => match g with
  | 32 => { joins := [(11, [(.slot 45, .dat .bool)]), (6, [(.slot 24, .dat .bool)])], loops := [(16, [(.slot 54, .dat .i)]), (8, [(.slot 28, .dat .i)])] }
  | 128 => { nz := [(11, [12])] }
  | _ => {}
noncomputable def F32 (P : Program) (lf : Nat) (x : tt [(true, (.pair .str (.pair (.sl (.pair .str (.pair .i .i))) (.sl (.pair .str (.pair .i (.pair .i (.pair (.sl (.pair .i (.pair .i (.pair .i (.pair .str .i))))) (.pair (.sl (.pair .i (.pair .i (.pair .i (.pair .str .i))))) (.sl .str))))))))))]) : Option (tt [(false, .i)]) := fnF P (C119 P lf) S32 32 [(true, (.pair .str (.pair (.sl (.pair .str (.pair .i .i))) (.sl (.pair .str (.pair .i (.pair .i (.pair (.sl (.pair .i (.pair .i (.pair .i (.pair .str .i))))) (.pair (.sl (.pair .i (.pair .i (.pair .i (.pair .str .i))))) (.sl .str))))))))))] [(false, .i)] lf x
noncomputable def C32 (P : Program) (lf : Nat) : FuncId → Option Con := extC (C119 P lf) 32 (dataCon [(true, (.pair .str (.pair (.sl (.pair .str (.pair .i .i))) (.sl (.pair .str (.pair .i (.pair .i (.pair (.sl (.pair .i (.pair .i (.pair .i (.pair .str .i))))) (.pair (.sl (.pair .i (.pair .i (.pair .i (.pair .str .i))))) (.sl .str))))))))))] [(false, .i)] (F32 P lf))
theorem F32_eq (lf : Nat) (a0 : ByteArray) (a1 : (List (ByteArray × (Int × Int)))) (a2 : (List (ByteArray × (Int × (Int × ((List (Int × (Int × (Int × (ByteArray × Int))))) × ((List (Int × (Int × (Int × (ByteArray × Int))))) × (List ByteArray)))))))) : F32 Tryz.prog lf (a0, (a1, a2)) =
  ((F99 Tryz.prog lf a0)).bind fun r15 => cond (!r15) (some (40 : Int)) (cond (decide ((a1.length : Int) = (0 : Int))) (some (43 : Int)) (jn (cond (decide ((a1.length : Int) > (6 : Int))) (some (.inl true)) (some (.inl (decide ((a2.length : Int) > (12 : Int)))))) (fun y16 : Bool => cond y16 (some (2 : Int)) (iter lf (fun y17 : Int => cond (decide (y17 < (a1.length : Int))) (((getI a1 y17)).bind fun r18 => jn (((F99 Tryz.prog lf r18.1)).bind fun r19 => cond (!r19) (some (.inl true)) (((F111 Tryz.prog lf (a1, r18.1))).bind fun r20 => some (.inl (decide (r20 < y17))))) (fun y21 : Bool => cond y21 (some (.inr (40 : Int))) (((F117 Tryz.prog lf (r18.2.1, r18.2.2))).bind fun r22 => cond (!r22) (some (.inr (44 : Int))) (some (.inl (w64 (y17 + (1 : Int)))))))) (outR (iter lf (fun y23 : Int => cond (decide (y23 < (a2.length : Int))) (((F118 Tryz.prog lf ((a0, (a1, a2)), y23))).bind fun r24 => cond (!(decide (r24 = (0 : Int)))) (some (.inr r24)) (some (.inl (w64 (y23 + (1 : Int)))))) (outR (((F120 Tryz.prog lf (a0, (a1, a2)))).bind fun r25 => ((F119 Tryz.prog lf r25)).bind fun r26 => cond (decide (r26 > (4000 : Int))) (some (2 : Int)) (some (0 : Int))))) (0 : Int)))) (0 : Int))))) := by kernel_rfl
def S33 : FuncId → Sp := fun g => match g with
  | 33 => { loops := [(4, [(.slot 13, .dat .i)])] }
  | 128 => { nz := [(11, [12])] }
  | _ => {}
noncomputable def F33 (P : Program) (lf : Nat) (x : tt [(false, (.sl .str)), (false, (.sl .str))]) : Option (tt [(false, .bool)]) := fnF P (C32 P lf) S33 33 [(false, (.sl .str)), (false, (.sl .str))] [(false, .bool)] lf x
noncomputable def C33 (P : Program) (lf : Nat) : FuncId → Option Con := extC (C32 P lf) 33 (dataCon [(false, (.sl .str)), (false, (.sl .str))] [(false, .bool)] (F33 P lf))
theorem F33_eq (lf : Nat) (a0 : (List ByteArray)) (a1 : (List ByteArray)) : F33 Tryz.prog lf (a0, a1) =
  cond (!(decide ((a0.length : Int) = (a1.length : Int)))) (some false) (iter lf (fun y5 : Int => cond (decide (y5 < (a0.length : Int))) (((getI a0 y5)).bind fun r6 => ((getI a1 y5)).bind fun r7 => cond (!((ByteArray.toList r6) == (ByteArray.toList r7))) (some (.inr false)) (some (.inl (w64 (y5 + (1 : Int)))))) (some (.inr true))) (0 : Int)) := by kernel_rfl
end Go.K
set_option linter.unusedVariables false
set_option linter.unusedSimpArgs false
set_option maxRecDepth 100000
set_option maxHeartbeats 0
namespace Go.K
open Go.Sl Go.Sx Go.Proofs
noncomputable def G126 (lf : Nat) (x : (Int × (Int × Int))) : Option (Bool) :=
  cond (decide (x.2.1 ≤ x.1)) (some (decide (x.1 ≤ x.2.2))) (some false)
theorem F126_G (lf : Nat) (x : (Int × (Int × Int))) : F126 Tryz.prog lf x = G126 lf x := (F126_eq lf x.1 x.2.1 x.2.2).trans (by
  unfold G126
  (try simp only [agree_self, Lib.toList_data]); first | done | rfl)
noncomputable def G168 (lf : Nat) (x : Unit) : Option ((List ByteArray)) :=
  some [(bts [99, 111, 100, 101]), (bts [102, 97, 99, 116]), (bts [114, 117, 108, 101]), (bts [119, 104, 101, 110]), (bts [109, 117, 115, 116]), (bts [117, 110, 108, 101, 115, 115]), (bts [97, 110, 100]), (bts [111, 114]), (bts [110, 111, 116]), (bts [116, 114, 117, 101])]
theorem F168_G (lf : Nat) (x : Unit) : F168 Tryz.prog lf x = G168 lf x := (F168_eq lf ).trans (by
  unfold G168
  (try simp only [agree_self, Lib.toList_data]); first | done | rfl)
noncomputable def G84 (lf : Nat) (x : ((List ByteArray) × ByteArray)) : Option (Bool) :=
  iter lf (fun y4 : Int => cond (decide (y4 < (x.1.length : Int))) (((getI x.1 y4)).bind fun r5 => cond (r5.data.toList == x.2.data.toList) (some (.inr true)) (some (.inl (w64 (y4 + (1 : Int)))))) (some (.inr false))) (0 : Int)
theorem F84_G (lf : Nat) (x : ((List ByteArray) × ByteArray)) : F84 Tryz.prog lf x = G84 lf x := (F84_eq lf x.1 x.2).trans (by
  unfold G84
  (try simp only [agree_self, Lib.toList_data]); first | done | rfl)
noncomputable def G99 (lf : Nat) (x : ByteArray) : Option (Bool) :=
  jn (cond (decide ((x.size : Int) < (1 : Int))) (some (.inl true)) (cond (decide ((x.size : Int) > (12 : Int))) (some (.inl true)) (((G168 lf ())).bind fun r12 => ((G84 lf (r12, x))).bind fun r13 => some (.inl r13)))) (fun y14 : Bool => cond y14 (some false) (iter lf (fun y15 : Int => cond (decide (y15 < (x.size : Int))) (jn (((byteAt x y15)).bind fun r16 => cond (decide ((97 : Int) ≤ r16)) (((byteAt x y15)).bind fun r17 => some (.inl (decide (r17 ≤ (122 : Int))))) (some (.inl false))) (fun y18 : Bool => jn (((byteAt x y15)).bind fun r19 => cond (decide ((48 : Int) ≤ r19)) (((byteAt x y15)).bind fun r20 => some (.inl (decide (r20 ≤ (57 : Int))))) (some (.inl false))) (fun y21 : Bool => jn (cond (!y18) (cond (!y21) (some (.inl true)) (some (.inl (decide (y15 = (0 : Int)))))) (some (.inl false))) (fun y22 : Bool => cond y22 (some (.inr false)) (some (.inl (w64 (y15 + (1 : Int))))))))) (some (.inr true))) (0 : Int)))
theorem F99_G (lf : Nat) (x : ByteArray) : F99 Tryz.prog lf x = G99 lf x := (F99_eq lf x).trans (by
  unfold G99
  (try simp only [F84_G, F168_G, agree_self, Lib.toList_data]); first | done | rfl)
noncomputable def G117 (lf : Nat) (x : (Int × Int)) : Option (Bool) :=
  cond (decide ((-1000000000000 : Int) ≤ x.1)) (cond (decide (x.1 ≤ x.2)) (some (decide (x.2 ≤ (1000000000000 : Int)))) (some false)) (some false)
theorem F117_G (lf : Nat) (x : (Int × Int)) : F117 Tryz.prog lf x = G117 lf x := (F117_eq lf x.1 x.2).trans (by
  unfold G117
  (try simp only [agree_self, Lib.toList_data]); first | done | rfl)
noncomputable def G98 (lf : Nat) (x : Int) : Option (Bool) :=
  cond (decide (x = (1 : Int))) (some true) (cond (decide (x = (2 : Int))) (some true) (some (decide (x = (3 : Int)))))
theorem F98_G (lf : Nat) (x : Int) : F98 Tryz.prog lf x = G98 lf x := (F98_eq lf x).trans (by
  unfold G98
  (try simp only [agree_self, Lib.toList_data]); first | done | rfl)
noncomputable def G97 (lf : Nat) (x : ((Int × (Int × (Int × (ByteArray × Int)))) × Int)) : Option (Bool) :=
  ((G126 lf (x.1.2.1, ((0 : Int), (w64 (x.2 - (1 : Int))))))).bind fun r12 => ((G126 lf (x.1.2.2.1, ((0 : Int), (w64 (x.2 - (1 : Int))))))).bind fun r13 => jn (cond (x.1.2.2.2.1.data.toList == ([] : List UInt8)) (some (.inl (decide (x.1.2.2.2.2 = (0 : Int))))) (some (.inl false))) (fun y14 : Bool => cond (decide (x.1.1 = (0 : Int))) (some ((decide (x.1.1 = (0 : Int))) && ((decide (x.1.2.1 = (0 : Int))) && ((decide (x.1.2.2.1 = (0 : Int))) && ((x.1.2.2.2.1.data.toList == ([] : List UInt8)) && ((decide (x.1.2.2.2.2 = (0 : Int))) && true)))))) (jn (cond (decide (x.1.1 = (1 : Int))) (some (.inl (decide (x.1.1 = (1 : Int))))) (cond (decide (x.1.1 = (2 : Int))) (some (.inl (decide (x.1.1 = (2 : Int))))) (some (.inl (decide (x.1.1 = (3 : Int))))))) (fun y15 : Bool => cond y15 (cond (decide (x.1.2.1 = (0 : Int))) (cond (decide (x.1.2.2.1 = (0 : Int))) (((G126 lf (x.1.2.2.2.2, ((-1000000000000 : Int), (1000000000000 : Int))))).bind fun r16 => some r16) (some false)) (some false)) (cond (decide (x.1.1 = (4 : Int))) (cond y14 (cond r12 (some (decide (x.1.2.2.1 = (0 : Int)))) (some false)) (some false)) (jn (cond (decide (x.1.1 = (5 : Int))) (some (.inl (decide (x.1.1 = (5 : Int))))) (some (.inl (decide (x.1.1 = (6 : Int)))))) (fun y17 : Bool => cond y17 (cond y14 (cond r12 (some r13) (some false)) (some false)) (some false)))))))
theorem F97_G (lf : Nat) (x : ((Int × (Int × (Int × (ByteArray × Int)))) × Int)) : F97 Tryz.prog lf x = G97 lf x := (F97_eq lf x.1.1 x.1.2.1 x.1.2.2.1 x.1.2.2.2.1 x.1.2.2.2.2 x.2).trans (by
  unfold G97
  (try simp only [F126_G, agree_self, Lib.toList_data]); first | done | rfl)
noncomputable def G111 (lf : Nat) (x : ((List (ByteArray × (Int × Int))) × ByteArray)) : Option (Int) :=
  iter lf (fun y4 : Int => cond (decide (y4 < (x.1.length : Int))) (((getI x.1 y4)).bind fun r5 => cond (r5.1.data.toList == x.2.data.toList) (some (.inr y4)) (some (.inl (w64 (y4 + (1 : Int)))))) (some (.inr (-1 : Int)))) (0 : Int)
theorem F111_G (lf : Nat) (x : ((List (ByteArray × (Int × Int))) × ByteArray)) : F111 Tryz.prog lf x = G111 lf x := (F111_eq lf x.1 x.2).trans (by
  unfold G111
  (try simp only [agree_self, Lib.toList_data]); first | done | rfl)
noncomputable def G30 (lf : Nat) (x : ((List (ByteArray × (Int × Int))) × (List (Int × (Int × (Int × (ByteArray × Int))))))) : Option (Int) :=
  cond (decide ((x.2.length : Int) > (30 : Int))) (some (2 : Int)) (cond (decide ((x.2.length : Int) = (0 : Int))) (some (41 : Int)) (iter lf (fun y8 : Int => cond (decide (y8 < (x.2.length : Int))) (((getI x.2 y8)).bind fun r9 => ((G97 lf ((r9.1, (r9.2.1, (r9.2.2.1, (r9.2.2.2.1, r9.2.2.2.2)))), y8))).bind fun r10 => cond (!r10) (some (.inr (41 : Int))) (jn (((G98 lf r9.1)).bind fun r11 => cond r11 (((G111 lf (x.1, r9.2.2.2.1))).bind fun r12 => some (.inl (decide (r12 < (0 : Int))))) (some (.inl false))) (fun y13 : Bool => cond y13 (some (.inr (40 : Int))) (some (.inl (w64 (y8 + (1 : Int)))))))) (some (.inr (0 : Int)))) (0 : Int)))
theorem F30_G (lf : Nat) (x : ((List (ByteArray × (Int × Int))) × (List (Int × (Int × (Int × (ByteArray × Int))))))) : F30 Tryz.prog lf x = G30 lf x := (F30_eq lf x.1 x.2).trans (by
  unfold G30
  (try simp only [F97_G, F98_G, F111_G, agree_self, Lib.toList_data]); first | done | rfl)
noncomputable def G37 (lf : Nat) (x : ((ByteArray × ((List (ByteArray × (Int × Int))) × (List (ByteArray × (Int × (Int × ((List (Int × (Int × (Int × (ByteArray × Int))))) × ((List (Int × (Int × (Int × (ByteArray × Int))))) × (List ByteArray))))))))) × ByteArray)) : Option (Int) :=
  iter lf (fun y6 : Int => cond (decide (y6 < (x.1.2.2.length : Int))) (((getI x.1.2.2 y6)).bind fun r7 => cond (r7.1.data.toList == x.2.data.toList) (some (.inr y6)) (some (.inl (w64 (y6 + (1 : Int)))))) (some (.inr (-1 : Int)))) (0 : Int)
theorem F37_G (lf : Nat) (x : ((ByteArray × ((List (ByteArray × (Int × Int))) × (List (ByteArray × (Int × (Int × ((List (Int × (Int × (Int × (ByteArray × Int))))) × ((List (Int × (Int × (Int × (ByteArray × Int))))) × (List ByteArray))))))))) × ByteArray)) : F37 Tryz.prog lf x = G37 lf x := (F37_eq lf x.1.1 x.1.2.1 x.1.2.2 x.2).trans (by
  unfold G37
  (try simp only [agree_self, Lib.toList_data]); first | done | rfl)
noncomputable def G118 (lf : Nat) (x : ((ByteArray × ((List (ByteArray × (Int × Int))) × (List (ByteArray × (Int × (Int × ((List (Int × (Int × (Int × (ByteArray × Int))))) × ((List (Int × (Int × (Int × (ByteArray × Int))))) × (List ByteArray))))))))) × Int)) : Option (Int) :=
  ((getI x.1.2.2 x.2)).bind fun r18 => jn (((G99 lf r18.1)).bind fun r19 => cond (!r19) (some (.inl true)) (((G37 lf ((x.1.1, (x.1.2.1, x.1.2.2)), r18.1))).bind fun r20 => some (.inl (decide (r20 < x.2))))) (fun y21 : Bool => cond y21 (some (40 : Int)) (jn (cond (decide (r18.2.1 < (0 : Int))) (some (.inl true)) (cond (decide (r18.2.1 > r18.2.2.1)) (some (.inl true)) (some (.inl (decide (r18.2.2.1 > (100000 : Int))))))) (fun y22 : Bool => cond y22 (some (45 : Int)) (((G30 lf (x.1.2.1, r18.2.2.2.1))).bind fun r23 => jn (cond (decide (r23 = (0 : Int))) (((G30 lf (x.1.2.1, r18.2.2.2.2.1))).bind fun r24 => some (.inl r24)) (some (.inl r23))) (fun y25 : Int => cond (!(decide (y25 = (0 : Int)))) (some y25) (cond (decide ((r18.2.2.2.2.2.length : Int) > (6 : Int))) (some (2 : Int)) (iter lf (fun y26 : Int => cond (decide (y26 < (r18.2.2.2.2.2.length : Int))) (((getI r18.2.2.2.2.2 y26)).bind fun r27 => ((G37 lf ((x.1.1, (x.1.2.1, x.1.2.2)), r27))).bind fun r28 => jn (cond (decide (r28 < (0 : Int))) (some (.inl true)) (cond (decide (r28 ≥ x.2)) (some (.inl true)) (((subI r18.2.2.2.2.2 (0 : Int) y26)).bind fun r29 => ((G84 lf (r29, r27))).bind fun r30 => some (.inl r30)))) (fun y31 : Bool => cond y31 (some (.inr (42 : Int))) (some (.inl (w64 (y26 + (1 : Int))))))) (some (.inr (0 : Int)))) (0 : Int))))))))
theorem F118_G (lf : Nat) (x : ((ByteArray × ((List (ByteArray × (Int × Int))) × (List (ByteArray × (Int × (Int × ((List (Int × (Int × (Int × (ByteArray × Int))))) × ((List (Int × (Int × (Int × (ByteArray × Int))))) × (List ByteArray))))))))) × Int)) : F118 Tryz.prog lf x = G118 lf x := (F118_eq lf x.1.1 x.1.2.1 x.1.2.2 x.2).trans (by
  unfold G118
  (try simp only [F30_G, F37_G, F84_G, F99_G, agree_self, Lib.toList_data]); first | done | rfl)
noncomputable def G109 (lf : Nat) (x : (ByteArray × ((List (ByteArray × (Int × Int))) × (List (ByteArray × (Int × (Int × ((List (Int × (Int × (Int × (ByteArray × Int))))) × ((List (Int × (Int × (Int × (ByteArray × Int))))) × (List ByteArray)))))))))) : Option ((List (List (Int × (Int × (Int × (ByteArray × Int))))))) :=
  iter lf (fun y7 : ((List (List (Int × (Int × (Int × (ByteArray × Int)))))) × Int) => cond (decide (y7.2 < (x.2.2.length : Int))) (((getI x.2.2 y7.2)).bind fun r8 => ((appC y7.1 [r8.2.2.2.1, r8.2.2.2.2.1])).bind fun r9 => some (.inl (r9, (w64 (y7.2 + (1 : Int)))))) (some (.inr y7.1))) (([] : List (List (Int × (Int × (Int × (ByteArray × Int)))))), (0 : Int))
theorem F109_G (lf : Nat) (x : (ByteArray × ((List (ByteArray × (Int × Int))) × (List (ByteArray × (Int × (Int × ((List (Int × (Int × (Int × (ByteArray × Int))))) × ((List (Int × (Int × (Int × (ByteArray × Int))))) × (List ByteArray)))))))))) : F109 Tryz.prog lf x = G109 lf x := (F109_eq lf x.1 x.2.1 x.2.2).trans (by
  unfold G109
  (try simp only [agree_self, Lib.toList_data]); first | done | rfl)
noncomputable def G176 (lf : Nat) (x : (Int × (Int × (Int × (ByteArray × Int))))) : Option ((List Int)) :=
  cond (decide (x.1 = (1 : Int))) (some [x.2.2.2.2]) (cond (decide (x.1 = (2 : Int))) (some [(w64 (x.2.2.2.2 + (1 : Int)))]) (cond (decide (x.1 = (3 : Int))) (some [x.2.2.2.2, (w64 (x.2.2.2.2 + (1 : Int)))]) (some ([] : List Int))))
theorem F176_G (lf : Nat) (x : (Int × (Int × (Int × (ByteArray × Int))))) : F176 Tryz.prog lf x = G176 lf x := (F176_eq lf x.1 x.2.1 x.2.2.1 x.2.2.2.1 x.2.2.2.2).trans (by
  unfold G176
  (try simp only [agree_self, Lib.toList_data]); first | done | rfl)
noncomputable def G177 (lf : Nat) (x : ((List Int) × Int)) : Option ((List Int)) :=
  jn (iter lf (fun y12 : Int => cond (decide (y12 > (0 : Int))) (((getI x.1 (w64 (y12 - (1 : Int))))).bind fun r13 => cond (decide (r13 ≥ x.2)) (some (.inl (w64 (y12 - (1 : Int))))) (some (.inr (.inl y12)))) (some (.inr (.inl y12)))) (x.1.length : Int)) (fun y14 : Int => jn (cond (decide (y14 < (x.1.length : Int))) (((getI x.1 y14)).bind fun r15 => some (.inl (decide (r15 = x.2)))) (some (.inl false))) (fun y16 : Bool => cond y16 (some x.1) (((subI x.1 (0 : Int) y14)).bind fun r17 => ((appC ([] : List Int) r17)).bind fun r18 => ((appC r18 [x.2])).bind fun r19 => ((subI x.1 y14 (x.1.length : Int))).bind fun r20 => ((appC r19 r20)).bind fun r21 => some r21)))
theorem F177_G (lf : Nat) (x : ((List Int) × Int)) : F177 Tryz.prog lf x = G177 lf x := (F177_eq lf x.1 x.2).trans (by
  unfold G177
  (try simp only [agree_self, Lib.toList_data]); first | done | rfl)
noncomputable def G108 (lf : Nat) (x : ((List (ByteArray × (Int × Int))) × (List (List (Int × (Int × (Int × (ByteArray × Int)))))))) : Option ((List (List Int))) :=
  iter lf (fun y44 : ((List (List Int)) × Int) => cond (decide (y44.2 < (x.1.length : Int))) (((getI x.1 y44.2)).bind fun r45 => iter lf (fun y46 : ((List Int) × Int) => cond (decide (y46.2 < (x.2.length : Int))) (((getI x.2 y46.2)).bind fun r47 => iter lf (fun y48 : ((List Int) × Int) => cond (decide (y48.2 < (r47.length : Int))) (((getI r47 y48.2)).bind fun r49 => ((G176 lf (r49.1, (r49.2.1, (r49.2.2.1, (r49.2.2.2.1, r49.2.2.2.2)))))).bind fun r50 => iter lf (fun y51 : ((List Int) × Int) => cond (decide (y51.2 < (r50.length : Int))) (((getI r50 y51.2)).bind fun r52 => jn (cond (r49.2.2.2.1.data.toList == r45.1.data.toList) (cond (decide (r52 > r45.2.1)) (some (.inl (decide (r52 ≤ r45.2.2)))) (some (.inl false))) (some (.inl false))) (fun y53 : Bool => cond y53 (((G177 lf (y51.1, r52))).bind fun r54 => some (.inl (r54, (w64 (y51.2 + (1 : Int)))))) (some (.inl (y51.1, (w64 (y51.2 + (1 : Int)))))))) (some (.inr (.inl (y51.1, (w64 (y48.2 + (1 : Int)))))))) (y48.1, (0 : Int))) (some (.inr (.inl (y48.1, (w64 (y46.2 + (1 : Int)))))))) (y46.1, (0 : Int))) (outR (((appC y44.1 [y46.1])).bind fun r55 => some (.inl (r55, (w64 (y44.2 + (1 : Int)))))))) ([r45.2.1], (0 : Int))) (some (.inr y44.1))) (([] : List (List Int)), (0 : Int))
theorem F108_G (lf : Nat) (x : ((List (ByteArray × (Int × Int))) × (List (List (Int × (Int × (Int × (ByteArray × Int)))))))) : F108 Tryz.prog lf x = G108 lf x := (F108_eq lf x.1 x.2).trans (by
  unfold G108
  (try simp only [F176_G, F177_G, agree_self, Lib.toList_data]); first | done | rfl)
noncomputable def G120 (lf : Nat) (x : (ByteArray × ((List (ByteArray × (Int × Int))) × (List (ByteArray × (Int × (Int × ((List (Int × (Int × (Int × (ByteArray × Int))))) × ((List (Int × (Int × (Int × (ByteArray × Int))))) × (List ByteArray)))))))))) : Option ((List (List Int))) :=
  ((G109 lf (x.1, (x.2.1, x.2.2)))).bind fun r5 => ((G108 lf (x.2.1, r5))).bind fun r6 => some r6
theorem F120_G (lf : Nat) (x : (ByteArray × ((List (ByteArray × (Int × Int))) × (List (ByteArray × (Int × (Int × ((List (Int × (Int × (Int × (ByteArray × Int))))) × ((List (Int × (Int × (Int × (ByteArray × Int))))) × (List ByteArray)))))))))) : F120 Tryz.prog lf x = G120 lf x := (F120_eq lf x.1 x.2.1 x.2.2).trans (by
  unfold G120
  (try simp only [F108_G, F109_G, agree_self, Lib.toList_data]); first | done | rfl)
noncomputable def G119 (lf : Nat) (x : (List (List Int))) : Option (Int) :=
  iter lf (fun y4 : (Int × Int) => cond (decide (y4.2 < (x.length : Int))) (((getI x y4.2)).bind fun r5 => some (.inl ((if (4001 : Int) < (w64 (y4.1 * (r5.length : Int))) then (4001 : Int) else (w64 (y4.1 * (r5.length : Int)))), (w64 (y4.2 + (1 : Int)))))) (some (.inr y4.1))) ((1 : Int), (0 : Int))
theorem F119_G (lf : Nat) (x : (List (List Int))) : F119 Tryz.prog lf x = G119 lf x := (F119_eq lf x).trans (by
  unfold G119
  (try simp only [agree_self, Lib.toList_data]); first | done | rfl)
noncomputable def G32 (lf : Nat) (x : (ByteArray × ((List (ByteArray × (Int × Int))) × (List (ByteArray × (Int × (Int × ((List (Int × (Int × (Int × (ByteArray × Int))))) × ((List (Int × (Int × (Int × (ByteArray × Int))))) × (List ByteArray)))))))))) : Option (Int) :=
  ((G99 lf x.1)).bind fun r15 => cond (!r15) (some (40 : Int)) (cond (decide ((x.2.1.length : Int) = (0 : Int))) (some (43 : Int)) (jn (cond (decide ((x.2.1.length : Int) > (6 : Int))) (some (.inl true)) (some (.inl (decide ((x.2.2.length : Int) > (12 : Int)))))) (fun y16 : Bool => cond y16 (some (2 : Int)) (iter lf (fun y17 : Int => cond (decide (y17 < (x.2.1.length : Int))) (((getI x.2.1 y17)).bind fun r18 => jn (((G99 lf r18.1)).bind fun r19 => cond (!r19) (some (.inl true)) (((G111 lf (x.2.1, r18.1))).bind fun r20 => some (.inl (decide (r20 < y17))))) (fun y21 : Bool => cond y21 (some (.inr (40 : Int))) (((G117 lf (r18.2.1, r18.2.2))).bind fun r22 => cond (!r22) (some (.inr (44 : Int))) (some (.inl (w64 (y17 + (1 : Int)))))))) (outR (iter lf (fun y23 : Int => cond (decide (y23 < (x.2.2.length : Int))) (((G118 lf ((x.1, (x.2.1, x.2.2)), y23))).bind fun r24 => cond (!(decide (r24 = (0 : Int)))) (some (.inr r24)) (some (.inl (w64 (y23 + (1 : Int)))))) (outR (((G120 lf (x.1, (x.2.1, x.2.2)))).bind fun r25 => ((G119 lf r25)).bind fun r26 => cond (decide (r26 > (4000 : Int))) (some (2 : Int)) (some (0 : Int))))) (0 : Int)))) (0 : Int)))))
theorem F32_G (lf : Nat) (x : (ByteArray × ((List (ByteArray × (Int × Int))) × (List (ByteArray × (Int × (Int × ((List (Int × (Int × (Int × (ByteArray × Int))))) × ((List (Int × (Int × (Int × (ByteArray × Int))))) × (List ByteArray)))))))))) : F32 Tryz.prog lf x = G32 lf x := (F32_eq lf x.1 x.2.1 x.2.2).trans (by
  unfold G32
  (try simp only [F99_G, F111_G, F117_G, F118_G, F119_G, F120_G, agree_self, Lib.toList_data]); first | done | rfl)
noncomputable def G33 (lf : Nat) (x : ((List ByteArray) × (List ByteArray))) : Option (Bool) :=
  cond (!(decide ((x.1.length : Int) = (x.2.length : Int)))) (some false) (iter lf (fun y5 : Int => cond (decide (y5 < (x.1.length : Int))) (((getI x.1 y5)).bind fun r6 => ((getI x.2 y5)).bind fun r7 => cond (!(r6.data.toList == r7.data.toList)) (some (.inr false)) (some (.inl (w64 (y5 + (1 : Int)))))) (some (.inr true))) (0 : Int))
theorem F33_G (lf : Nat) (x : ((List ByteArray) × (List ByteArray))) : F33 Tryz.prog lf x = G33 lf x := (F33_eq lf x.1 x.2).trans (by
  unfold G33
  (try simp only [agree_self, Lib.toList_data]); first | done | rfl)
end Go.K
set_option linter.unusedVariables false
set_option maxRecDepth 100000
set_option maxHeartbeats 0
namespace Go.K
open Go.Sl Go.Sx Go.Proofs
def S107 : FuncId → Sp := fun g => match g with
  | 107 => { joins := [(8, [(.slot 57, .dat .bool)])], loops := [(4, [(.slot 16, .dat .i)])] }
  | 128 => { nz := [(11, [12])] }
  | _ => {}
noncomputable def F107 (P : Program) (lf : Nat) (x : tt [(true, (.pair .str (.pair (.sl (.pair .str (.pair .i .i))) (.sl (.pair .str (.pair .i (.pair .i (.pair (.sl (.pair .i (.pair .i (.pair .i (.pair .str .i))))) (.pair (.sl (.pair .i (.pair .i (.pair .i (.pair .str .i))))) (.sl .str)))))))))), (false, (.sl (.pair .str (.pair .i .i))))]) : Option (tt [(false, .bool)]) := fnF P (C33 P lf) S107 107 [(true, (.pair .str (.pair (.sl (.pair .str (.pair .i .i))) (.sl (.pair .str (.pair .i (.pair .i (.pair (.sl (.pair .i (.pair .i (.pair .i (.pair .str .i))))) (.pair (.sl (.pair .i (.pair .i (.pair .i (.pair .str .i))))) (.sl .str)))))))))), (false, (.sl (.pair .str (.pair .i .i))))] [(false, .bool)] lf x
noncomputable def C107 (P : Program) (lf : Nat) : FuncId → Option Con := extC (C33 P lf) 107 (dataCon [(true, (.pair .str (.pair (.sl (.pair .str (.pair .i .i))) (.sl (.pair .str (.pair .i (.pair .i (.pair (.sl (.pair .i (.pair .i (.pair .i (.pair .str .i))))) (.pair (.sl (.pair .i (.pair .i (.pair .i (.pair .str .i))))) (.sl .str)))))))))), (false, (.sl (.pair .str (.pair .i .i))))] [(false, .bool)] (F107 P lf))
def S56 : FuncId → Sp := fun g => match g with
  | 56 => { loops := [(10, [(.slot 6, .own (.sl .i) 41), (.slot 26, .dat .i)]), (7, [(.slot 6, .own (.sl .i) 41), (.slot 20, .dat .i)]), (3, [(.slot 3, .own (.sl .i) 41), (.slot 14, .dat .i)])] }
  | 128 => { nz := [(11, [12])] }
  | _ => {}
noncomputable def F56 (P : Program) (lf : Nat) (x : tt [(false, (.sl (.sl .i)))]) : Option (tt [(false, (.sl (.sl .i)))]) := fnF P (C107 P lf) S56 56 [(false, (.sl (.sl .i)))] [(false, (.sl (.sl .i)))] lf x
noncomputable def C56 (P : Program) (lf : Nat) : FuncId → Option Con := extC (C107 P lf) 56 (dataCon [(false, (.sl (.sl .i)))] [(false, (.sl (.sl .i)))] (F56 P lf))
def S57 : FuncId → Sp := fun g => match g with
  | 57 => { joins := [(22, [(.slot 7, .own .bool 4)]), (8, [(.slot 10, .dat .i)])], loops := [(3, [(.slot 18, .dat .i), (.slot 7, .own .bool 4)])] }
  | 128 => { nz := [(11, [12])] }
  | _ => {}
noncomputable def F57 (P : Program) (lf : Nat) (x : tt [(false, (.sl (.pair .str (.pair .i .i)))), (true, (.sl (.pair .i (.pair .i (.pair .i (.pair .str .i)))))), (false, (.sl .i))]) : Option (tt [(false, .bool)]) := fnF P (C56 P lf) S57 57 [(false, (.sl (.pair .str (.pair .i .i)))), (true, (.sl (.pair .i (.pair .i (.pair .i (.pair .str .i)))))), (false, (.sl .i))] [(false, .bool)] lf x
noncomputable def C57 (P : Program) (lf : Nat) : FuncId → Option Con := extC (C56 P lf) 57 (dataCon [(false, (.sl (.pair .str (.pair .i .i)))), (true, (.sl (.pair .i (.pair .i (.pair .i (.pair .str .i)))))), (false, (.sl .i))] [(false, .bool)] (F57 P lf))
def S40 : FuncId → Sp := fun g => match g with
  | 40 => { joins := [(6, [(.slot 10, .dat .bool)])], loops := [(7, [(.slot 10, .dat .bool), (.slot 37, .dat .i)]), (3, [(.slot 7, .own .bool 4), (.slot 16, .dat .i)])] }
  | 128 => { nz := [(11, [12])] }
  | _ => {}
noncomputable def F40 (P : Program) (lf : Nat) (x : tt [(true, (.pair .str (.pair (.sl (.pair .str (.pair .i .i))) (.sl (.pair .str (.pair .i (.pair .i (.pair (.sl (.pair .i (.pair .i (.pair .i (.pair .str .i))))) (.pair (.sl (.pair .i (.pair .i (.pair .i (.pair .str .i))))) (.sl .str)))))))))), (false, .i), (false, (.sl .i))]) : Option (tt [(false, (.sl .bool))]) := fnF P (C57 P lf) S40 40 [(true, (.pair .str (.pair (.sl (.pair .str (.pair .i .i))) (.sl (.pair .str (.pair .i (.pair .i (.pair (.sl (.pair .i (.pair .i (.pair .i (.pair .str .i))))) (.pair (.sl (.pair .i (.pair .i (.pair .i (.pair .str .i))))) (.sl .str)))))))))), (false, .i), (false, (.sl .i))] [(false, (.sl .bool))] lf x
noncomputable def C40 (P : Program) (lf : Nat) : FuncId → Option Con := extC (C57 P lf) 40 (dataCon [(true, (.pair .str (.pair (.sl (.pair .str (.pair .i .i))) (.sl (.pair .str (.pair .i (.pair .i (.pair (.sl (.pair .i (.pair .i (.pair .i (.pair .str .i))))) (.pair (.sl (.pair .i (.pair .i (.pair .i (.pair .str .i))))) (.sl .str)))))))))), (false, .i), (false, (.sl .i))] [(false, (.sl .bool))] (F40 P lf))
def S28 : FuncId → Sp := fun g => match g with
  | 28 => { joins := [(5, [(.slot 20, .dat .bool)])], loops := [(2, [(.slot 9, .dat .i)])] }
  | 128 => { nz := [(11, [12])] }
  | _ => {}
noncomputable def F28 (P : Program) (lf : Nat) (x : tt [(false, (.sl .bool)), (false, .i)]) : Option (tt [(false, .bool)]) := fnF P (C40 P lf) S28 28 [(false, (.sl .bool)), (false, .i)] [(false, .bool)] lf x
noncomputable def C28 (P : Program) (lf : Nat) : FuncId → Option Con := extC (C40 P lf) 28 (dataCon [(false, (.sl .bool)), (false, .i)] [(false, .bool)] (F28 P lf))
def S148 : FuncId → Sp := fun g => match g with
  | 148 => { joins := [(2, [(.slot 8, .dat .bool)])] }
  | 128 => { nz := [(11, [12])] }
  | _ => {}
noncomputable def F148 (P : Program) (lf : Nat) (x : tt [(false, .bool), (false, .bool)]) : Option (tt [(false, .i)]) := fnF P (C28 P lf) S148 148 [(false, .bool), (false, .bool)] [(false, .i)] lf x
noncomputable def C148 (P : Program) (lf : Nat) : FuncId → Option Con := extC (C28 P lf) 148 (dataCon [(false, .bool), (false, .bool)] [(false, .i)] (F148 P lf))
def S149 : FuncId → Sp := fun g => match g with
  | 149 => { joins := [(5, [(.slot 26, .dat .bool)])] }
  | 128 => { nz := [(11, [12])] }
  | _ => {}
noncomputable def F149 (P : Program) (lf : Nat) (x : tt [(true, (.pair .str (.pair (.sl (.pair .str (.pair .i .i))) (.sl (.pair .str (.pair .i (.pair .i (.pair (.sl (.pair .i (.pair .i (.pair .i (.pair .str .i))))) (.pair (.sl (.pair .i (.pair .i (.pair .i (.pair .str .i))))) (.sl .str)))))))))), (false, .i), (false, .bool), (false, .i), (false, (.sl (.pair .str (.pair .i .i))))]) : Option (tt [(false, .i)]) := fnF P (C148 P lf) S149 149 [(true, (.pair .str (.pair (.sl (.pair .str (.pair .i .i))) (.sl (.pair .str (.pair .i (.pair .i (.pair (.sl (.pair .i (.pair .i (.pair .i (.pair .str .i))))) (.pair (.sl (.pair .i (.pair .i (.pair .i (.pair .str .i))))) (.sl .str)))))))))), (false, .i), (false, .bool), (false, .i), (false, (.sl (.pair .str (.pair .i .i))))] [(false, .i)] lf x
noncomputable def C149 (P : Program) (lf : Nat) : FuncId → Option Con := extC (C148 P lf) 149 (dataCon [(true, (.pair .str (.pair (.sl (.pair .str (.pair .i .i))) (.sl (.pair .str (.pair .i (.pair .i (.pair (.sl (.pair .i (.pair .i (.pair .i (.pair .str .i))))) (.pair (.sl (.pair .i (.pair .i (.pair .i (.pair .str .i))))) (.sl .str)))))))))), (false, .i), (false, .bool), (false, .i), (false, (.sl (.pair .str (.pair .i .i))))] [(false, .i)] (F149 P lf))
def S27 : FuncId → Sp := fun g => match g with
  | 128 => { nz := [(11, [12])] }
  | _ => {}
noncomputable def F27 (P : Program) (lf : Nat) (x : tt [(true, (.pair .str (.pair (.sl (.pair .str (.pair .i .i))) (.sl (.pair .str (.pair .i (.pair .i (.pair (.sl (.pair .i (.pair .i (.pair .i (.pair .str .i))))) (.pair (.sl (.pair .i (.pair .i (.pair .i (.pair .str .i))))) (.sl .str)))))))))), (false, (.sl (.pair .str (.pair .i .i))))]) : Option (tt [(false, (.sl (.sl .i)))]) := fnF P (C149 P lf) S27 27 [(true, (.pair .str (.pair (.sl (.pair .str (.pair .i .i))) (.sl (.pair .str (.pair .i (.pair .i (.pair (.sl (.pair .i (.pair .i (.pair .i (.pair .str .i))))) (.pair (.sl (.pair .i (.pair .i (.pair .i (.pair .str .i))))) (.sl .str)))))))))), (false, (.sl (.pair .str (.pair .i .i))))] [(false, (.sl (.sl .i)))] lf x
noncomputable def C27 (P : Program) (lf : Nat) : FuncId → Option Con := extC (C149 P lf) 27 (dataCon [(true, (.pair .str (.pair (.sl (.pair .str (.pair .i .i))) (.sl (.pair .str (.pair .i (.pair .i (.pair (.sl (.pair .i (.pair .i (.pair .i (.pair .str .i))))) (.pair (.sl (.pair .i (.pair .i (.pair .i (.pair .str .i))))) (.sl .str)))))))))), (false, (.sl (.pair .str (.pair .i .i))))] [(false, (.sl (.sl .i)))] (F27 P lf))
def S150 : FuncId → Sp := fun g => match g with
  | 128 => { nz := [(11, [12])] }
  | _ => {}
noncomputable def F150 (P : Program) (lf : Nat) (x : tt [(false, .bool)]) : Option (tt [(false, .i)]) := fnF P (C27 P lf) S150 150 [(false, .bool)] [(false, .i)] lf x
noncomputable def C150 (P : Program) (lf : Nat) : FuncId → Option Con := extC (C27 P lf) 150 (dataCon [(false, .bool)] [(false, .i)] (F150 P lf))
end Go.K
set_option linter.unusedVariables false
set_option maxRecDepth 100000
set_option maxHeartbeats 0
namespace Go.K
open Go.Sl Go.Sx Go.Proofs
def S142 : FuncId → Sp := fun g => match g with
  | 142 => { loops := [(3, [(.slot 3, .dat (.sl .i)), (.slot 10, .dat .i)])] }
  | 128 => { nz := [(11, [12])] }
  | _ => {}
noncomputable def F142 (P : Program) (lf : Nat) (x : tt [(true, (.pair .str (.pair (.sl (.pair .str (.pair .i .i))) (.sl (.pair .str (.pair .i (.pair .i (.pair (.sl (.pair .i (.pair .i (.pair .i (.pair .str .i))))) (.pair (.sl (.pair .i (.pair .i (.pair .i (.pair .str .i))))) (.sl .str))))))))))]) : Option (tt [(false, (.sl .i))]) := fnF P (C150 P lf) S142 142 [(true, (.pair .str (.pair (.sl (.pair .str (.pair .i .i))) (.sl (.pair .str (.pair .i (.pair .i (.pair (.sl (.pair .i (.pair .i (.pair .i (.pair .str .i))))) (.pair (.sl (.pair .i (.pair .i (.pair .i (.pair .str .i))))) (.sl .str))))))))))] [(false, (.sl .i))] lf x
noncomputable def C142 (P : Program) (lf : Nat) : FuncId → Option Con := extC (C150 P lf) 142 (dataCon [(true, (.pair .str (.pair (.sl (.pair .str (.pair .i .i))) (.sl (.pair .str (.pair .i (.pair .i (.pair (.sl (.pair .i (.pair .i (.pair .i (.pair .str .i))))) (.pair (.sl (.pair .i (.pair .i (.pair .i (.pair .str .i))))) (.sl .str))))))))))] [(false, (.sl .i))] (F142 P lf))
def S145 : FuncId → Sp := fun g => match g with
  | 145 => { loops := [(4, [(.slot 15, .dat .i)])] }
  | 128 => { nz := [(11, [12])] }
  | _ => {}
noncomputable def F145 (P : Program) (lf : Nat) (x : tt [(true, (.pair .str (.pair (.sl (.pair .str (.pair .i .i))) (.sl (.pair .str (.pair .i (.pair .i (.pair (.sl (.pair .i (.pair .i (.pair .i (.pair .str .i))))) (.pair (.sl (.pair .i (.pair .i (.pair .i (.pair .str .i))))) (.sl .str)))))))))), (false, (.sl .i))]) : Option (tt [(false, .bool)]) := fnF P (C142 P lf) S145 145 [(true, (.pair .str (.pair (.sl (.pair .str (.pair .i .i))) (.sl (.pair .str (.pair .i (.pair .i (.pair (.sl (.pair .i (.pair .i (.pair .i (.pair .str .i))))) (.pair (.sl (.pair .i (.pair .i (.pair .i (.pair .str .i))))) (.sl .str)))))))))), (false, (.sl .i))] [(false, .bool)] lf x
noncomputable def C145 (P : Program) (lf : Nat) : FuncId → Option Con := extC (C142 P lf) 145 (dataCon [(true, (.pair .str (.pair (.sl (.pair .str (.pair .i .i))) (.sl (.pair .str (.pair .i (.pair .i (.pair (.sl (.pair .i (.pair .i (.pair .i (.pair .str .i))))) (.pair (.sl (.pair .i (.pair .i (.pair .i (.pair .str .i))))) (.sl .str)))))))))), (false, (.sl .i))] [(false, .bool)] (F145 P lf))
def S83 : FuncId → Sp := fun g => match g with
  | 128 => { nz := [(11, [12])] }
  | _ => {}
noncomputable def F83 (P : Program) (lf : Nat) (x : tt [(false, (.sl (.pair .str (.pair .i .i)))), (false, .i), (true, (.pair .i .i))]) : Option (tt [(false, (.sl (.pair .str (.pair .i .i))))]) := fnF P (C145 P lf) S83 83 [(false, (.sl (.pair .str (.pair .i .i)))), (false, .i), (true, (.pair .i .i))] [(false, (.sl (.pair .str (.pair .i .i))))] lf x
noncomputable def C83 (P : Program) (lf : Nat) : FuncId → Option Con := extC (C145 P lf) 83 (dataCon [(false, (.sl (.pair .str (.pair .i .i)))), (false, .i), (true, (.pair .i .i))] [(false, (.sl (.pair .str (.pair .i .i))))] (F83 P lf))
def S129 : FuncId → Sp := fun g => match g with
  | 186 => { loops := [(4, [(.slot 17, .dat .i)])] }
  | 128 => { nz := [(11, [12])] }
  | _ => {}
noncomputable def F129 (P : Program) (lf : Nat) (x : tt [(true, (.pair .str (.pair (.sl (.pair .str (.pair .i .i))) (.sl (.pair .str (.pair .i (.pair .i (.pair (.sl (.pair .i (.pair .i (.pair .i (.pair .str .i))))) (.pair (.sl (.pair .i (.pair .i (.pair .i (.pair .str .i))))) (.sl .str)))))))))), (false, (.sl .i))]) : Option (tt [(false, .bool)]) := fnF P (C83 P lf) S129 129 [(true, (.pair .str (.pair (.sl (.pair .str (.pair .i .i))) (.sl (.pair .str (.pair .i (.pair .i (.pair (.sl (.pair .i (.pair .i (.pair .i (.pair .str .i))))) (.pair (.sl (.pair .i (.pair .i (.pair .i (.pair .str .i))))) (.sl .str)))))))))), (false, (.sl .i))] [(false, .bool)] lf x
noncomputable def C129 (P : Program) (lf : Nat) : FuncId → Option Con := extC (C83 P lf) 129 (dataCon [(true, (.pair .str (.pair (.sl (.pair .str (.pair .i .i))) (.sl (.pair .str (.pair .i (.pair .i (.pair (.sl (.pair .i (.pair .i (.pair .i (.pair .str .i))))) (.pair (.sl (.pair .i (.pair .i (.pair .i (.pair .str .i))))) (.sl .str)))))))))), (false, (.sl .i))] [(false, .bool)] (F129 P lf))
def S156 : FuncId → Sp := fun g => match g with
  | 156 => { joins := [(2, [(.slot 0, .own (.pair .str (.pair .i .i)) 48)])] }
  | 128 => { nz := [(11, [12])] }
  | _ => {}
noncomputable def F156 (P : Program) (lf : Nat) (x : tt [(false, (.sl (.pair .str (.pair .i .i)))), (false, .i), (true, (.pair .i .i))]) : Option (tt [(false, (.sl (.pair .str (.pair .i .i))))]) := fnF P (C129 P lf) S156 156 [(false, (.sl (.pair .str (.pair .i .i)))), (false, .i), (true, (.pair .i .i))] [(false, (.sl (.pair .str (.pair .i .i))))] lf x
noncomputable def C156 (P : Program) (lf : Nat) : FuncId → Option Con := extC (C129 P lf) 156 (dataCon [(false, (.sl (.pair .str (.pair .i .i)))), (false, .i), (true, (.pair .i .i))] [(false, (.sl (.pair .str (.pair .i .i))))] (F156 P lf))
def S43 : FuncId → Sp := fun g => match g with
  | 128 => { nz := [(11, [12])] }
  | _ => {}
noncomputable def F43 (P : Program) (lf : Nat) (x : tt [(true, (.pair .i .i)), (false, .i)]) : Option (tt [(false, .i)]) := fnF P (C156 P lf) S43 43 [(true, (.pair .i .i)), (false, .i)] [(false, .i)] lf x
noncomputable def C43 (P : Program) (lf : Nat) : FuncId → Option Con := extC (C156 P lf) 43 (dataCon [(true, (.pair .i .i)), (false, .i)] [(false, .i)] (F43 P lf))
def S39 : FuncId → Sp := fun g => match g with
  | 39 => { joins := [(8, [(.slot 8, .dat .i)])], loops := [(3, [(.slot 5, .own .i 3), (.slot 11, .dat .i)])] }
  | 128 => { nz := [(11, [12])] }
  | _ => {}
noncomputable def F39 (P : Program) (lf : Nat) (x : tt [(false, (.sl (.pair .str (.pair .i .i)))), (false, (.sl .i))]) : Option (tt [(false, (.sl .i))]) := fnF P (C43 P lf) S39 39 [(false, (.sl (.pair .str (.pair .i .i)))), (false, (.sl .i))] [(false, (.sl .i))] lf x
noncomputable def C39 (P : Program) (lf : Nat) : FuncId → Option Con := extC (C43 P lf) 39 (dataCon [(false, (.sl (.pair .str (.pair .i .i)))), (false, (.sl .i))] [(false, (.sl .i))] (F39 P lf))
def S25 : FuncId → Sp := fun g => match g with
  | 128 => { nz := [(11, [12])] }
  | _ => {}
noncomputable def F25 (P : Program) (lf : Nat) (x : tt [(true, (.pair .str (.pair (.sl (.pair .str (.pair .i .i))) (.sl (.pair .str (.pair .i (.pair .i (.pair (.sl (.pair .i (.pair .i (.pair .i (.pair .str .i))))) (.pair (.sl (.pair .i (.pair .i (.pair .i (.pair .str .i))))) (.sl .str)))))))))), (true, (.pair .i (.pair .i (.pair (.sl (.pair .str (.pair .i .i))) .str))))]) : Option (tt [(false, .bool)]) := fnF P (C39 P lf) S25 25 [(true, (.pair .str (.pair (.sl (.pair .str (.pair .i .i))) (.sl (.pair .str (.pair .i (.pair .i (.pair (.sl (.pair .i (.pair .i (.pair .i (.pair .str .i))))) (.pair (.sl (.pair .i (.pair .i (.pair .i (.pair .str .i))))) (.sl .str)))))))))), (true, (.pair .i (.pair .i (.pair (.sl (.pair .str (.pair .i .i))) .str))))] [(false, .bool)] lf x
noncomputable def C25 (P : Program) (lf : Nat) : FuncId → Option Con := extC (C39 P lf) 25 (dataCon [(true, (.pair .str (.pair (.sl (.pair .str (.pair .i .i))) (.sl (.pair .str (.pair .i (.pair .i (.pair (.sl (.pair .i (.pair .i (.pair .i (.pair .str .i))))) (.pair (.sl (.pair .i (.pair .i (.pair .i (.pair .str .i))))) (.sl .str)))))))))), (true, (.pair .i (.pair .i (.pair (.sl (.pair .str (.pair .i .i))) .str))))] [(false, .bool)] (F25 P lf))
def S45 : FuncId → Sp := fun g => match g with
  | 45 => { loops := [(4, [(.slot 13, .dat .i)])] }
  | 128 => { nz := [(11, [12])] }
  | _ => {}
noncomputable def F45 (P : Program) (lf : Nat) (x : tt [(false, (.sl (.pair .i (.pair .i .i)))), (false, (.sl (.pair .i (.pair .i .i))))]) : Option (tt [(false, .bool)]) := fnF P (C25 P lf) S45 45 [(false, (.sl (.pair .i (.pair .i .i)))), (false, (.sl (.pair .i (.pair .i .i))))] [(false, .bool)] lf x
noncomputable def C45 (P : Program) (lf : Nat) : FuncId → Option Con := extC (C25 P lf) 45 (dataCon [(false, (.sl (.pair .i (.pair .i .i)))), (false, (.sl (.pair .i (.pair .i .i))))] [(false, .bool)] (F45 P lf))
def S21 : FuncId → Sp := fun g => match g with
  | 21 => { loops := [(4, [(.slot 16, .dat .i)])] }
  | 128 => { nz := [(11, [12])] }
  | _ => {}
noncomputable def F21 (P : Program) (lf : Nat) (x : tt [(true, (.sl (.pair .i (.pair .i (.pair .i (.pair .str .i)))))), (true, (.sl (.pair .i (.pair .i (.pair .i (.pair .str .i))))))]) : Option (tt [(false, .bool)]) := fnF P (C45 P lf) S21 21 [(true, (.sl (.pair .i (.pair .i (.pair .i (.pair .str .i)))))), (true, (.sl (.pair .i (.pair .i (.pair .i (.pair .str .i))))))] [(false, .bool)] lf x
noncomputable def C21 (P : Program) (lf : Nat) : FuncId → Option Con := extC (C45 P lf) 21 (dataCon [(true, (.sl (.pair .i (.pair .i (.pair .i (.pair .str .i)))))), (true, (.sl (.pair .i (.pair .i (.pair .i (.pair .str .i))))))] [(false, .bool)] (F21 P lf))
def S82 : FuncId → Sp := fun g => match g with
  | 82 => { loops := [(4, [(.slot 13, .dat .i)])] }
  | 128 => { nz := [(11, [12])] }
  | _ => {}
noncomputable def F82 (P : Program) (lf : Nat) (x : tt [(false, (.sl (.pair .i .i))), (false, (.sl (.pair .i .i)))]) : Option (tt [(false, .bool)]) := fnF P (C21 P lf) S82 82 [(false, (.sl (.pair .i .i))), (false, (.sl (.pair .i .i)))] [(false, .bool)] lf x
noncomputable def C82 (P : Program) (lf : Nat) : FuncId → Option Con := extC (C21 P lf) 82 (dataCon [(false, (.sl (.pair .i .i))), (false, (.sl (.pair .i .i)))] [(false, .bool)] (F82 P lf))
end Go.K
set_option linter.unusedVariables false
set_option maxRecDepth 100000
set_option maxHeartbeats 0
namespace Go.K
open Go.Sl Go.Sx Go.Proofs
def S26 : FuncId → Sp := fun g => match g with
  | 26 => { loops := [(3, [(.slot 17, .dat .i), (.slot 7, .own .bool 4)])] }
  | 40 => { joins := [(6, [(.slot 10, .dat .bool)])], loops := [(7, [(.slot 10, .dat .bool), (.slot 37, .dat .i)]), (3, [(.slot 7, .own .bool 4), (.slot 16, .dat .i)])] }
  | 128 => { nz := [(11, [12])] }
  | _ => {}
noncomputable def F26 (P : Program) (lf : Nat) (x : tt [(true, (.pair .str (.pair (.sl (.pair .str (.pair .i .i))) (.sl (.pair .str (.pair .i (.pair .i (.pair (.sl (.pair .i (.pair .i (.pair .i (.pair .str .i))))) (.pair (.sl (.pair .i (.pair .i (.pair .i (.pair .str .i))))) (.sl .str)))))))))), (false, .i), (false, (.sl .i))]) : Option (tt [(false, (.sl .bool))]) := fnF P (C57 P lf) S26 26 [(true, (.pair .str (.pair (.sl (.pair .str (.pair .i .i))) (.sl (.pair .str (.pair .i (.pair .i (.pair (.sl (.pair .i (.pair .i (.pair .i (.pair .str .i))))) (.pair (.sl (.pair .i (.pair .i (.pair .i (.pair .str .i))))) (.sl .str)))))))))), (false, .i), (false, (.sl .i))] [(false, (.sl .bool))] lf x
noncomputable def D26 (P : Program) (lf : Nat) : FuncId → Option Con := extC (C82 P lf) 26 (dataCon [(true, (.pair .str (.pair (.sl (.pair .str (.pair .i .i))) (.sl (.pair .str (.pair .i (.pair .i (.pair (.sl (.pair .i (.pair .i (.pair .i (.pair .str .i))))) (.pair (.sl (.pair .i (.pair .i (.pair .i (.pair .str .i))))) (.sl .str)))))))))), (false, .i), (false, (.sl .i))] [(false, (.sl .bool))] (F26 P lf))
end Go.K
set_option linter.unusedVariables false
set_option linter.unusedSimpArgs false
set_option maxRecDepth 100000
namespace Go.K
open Go.Sl Go.Sx Go.Proofs
theorem G126_in (a b c : Int) : G126 LF (a, (b, c)) = some (decide (b ≤ a ∧ a ≤ c)) := by
  unfold G126
  by_cases h1 : b ≤ a <;> by_cases h2 : a ≤ c <;> simp [h1, h2]
theorem G168_words : G168 LF () = some words10 := rfl
theorem G84_any (l : List ByteArray) (s : ByteArray) (hl : l.length < LF) : G84 LF (l, s) = some (l.any fun x => decide (x = s)) := by
  unfold G84
  refine (iter_find (fun x => decide (x = s)) (fun _ => true) l (some false) ?_ ?_ hl).trans ?_
  · intro i x hx
    have hi := lt_of_get hx
    simp only [dlt hi, cond_true, getI_nat hx, Option.bind_some, eqD, succ_W (Nat.lt_of_le_of_lt hi hl)]
    cases decide (x = s) <;> rfl
  · simp only [dnlt]; rfl
  · rw [← idx_any]; cases idx (fun x => decide (x = s)) l 0 <;> rfl
theorem G99_nm (s : ByteArray) : G99 LF s = some (nmB s) := by
  unfold G99
  simp only [G168_words, Option.bind_some, G84_any _ _ (show words10.length < LF by decide)]
  unfold nmB
  by_cases h1 : 1 ≤ s.size ∧ s.size ≤ 12
  · have hs : s.size < LF := by show s.size < 9223372036854775808; omega
    have e1 : decide ((s.size : Int) < 1) = false := decide_eq_false (by omega)
    have e2 : decide ((s.size : Int) > 12) = false := decide_eq_false (by omega)
    have ew : (words10.any fun x => decide (x = s)) = words10.any fun w => decide (s = w) := by
      congr 1; funext x; exact decide_eq_decide.2 eq_comm
    simp only [e1, e2, ew, decide_eq_true h1, cond_false, jl, jr, Bool.true_and]
    cases hw : words10.any fun x => decide (s = x) with
    | true => rfl
    | false =>
      simp only [cond_false, Bool.not_false, Bool.true_and]
      have hz : s.data.toList.length = s.size := (size_len s).symm
      refine (iter_scan chB s.data.toList (some true) ?_ ?_ (by rw [hz]; exact hs)).trans ?_
      · intro i b hb _
        have hi : i < s.size := by rw [← hz]; exact lt_of_get hb
        simp only [dlt hi, cond_true, byteAt_nat hb, Option.bind_some, succ_W (Nat.lt_of_le_of_lt hi hs)]
        have q1 : decide ((97 : Int) ≤ (b.toNat : Int)) = decide (97 ≤ b.toNat) := decide_eq_decide.2 (by omega)
        have q2 : decide ((b.toNat : Int) ≤ 122) = decide (b.toNat ≤ 122) := decide_eq_decide.2 (by omega)
        have q3 : decide ((48 : Int) ≤ (b.toNat : Int)) = decide (48 ≤ b.toNat) := decide_eq_decide.2 (by omega)
        have q4 : decide ((b.toNat : Int) ≤ 57) = decide (b.toNat ≤ 57) := decide_eq_decide.2 (by omega)
        have q5 : decide ((i : Int) = 0) = decide (i = 0) := decide_eq_decide.2 (by omega)
        unfold chB letB digB
        rw [q1, q2, q3, q4, q5]
        cases decide (97 ≤ b.toNat) <;> cases decide (b.toNat ≤ 122) <;> cases decide (48 ≤ b.toNat) <;> cases decide (b.toNat ≤ 57) <;> cases decide (i = 0) <;> rfl
      · intro _
        rw [hz]
        simp only [dnlt]; rfl
      · cases hw2 : scan chB s.data.toList 0 with
        | none => rfl
        | some e => exact congrArg some (chB_false hw2)
  · rw [decide_eq_false h1]
    simp only [Bool.false_and]
    by_cases h2 : s.size < 1
    · have e1 : decide ((s.size : Int) < 1) = true := decide_eq_true (by omega)
      simp only [e1, cond_true, jl]
    · have e1 : decide ((s.size : Int) < 1) = false := decide_eq_false (by omega)
      have e2 : decide ((s.size : Int) > 12) = true := decide_eq_true (by omega)
      simp only [e1, e2, cond_true, cond_false, jl]
theorem G117_span (n : ByteArray) (a b : Int) : G117 LF (a, b) = some (spanB (n, (a, b))) := by
  unfold G117 spanB
  by_cases h1 : -1000000000000 ≤ a
  · by_cases h2 : a ≤ b
    · by_cases h3 : b ≤ 1000000000000
      · simp only [decide_eq_true h1, decide_eq_true h2, decide_eq_true h3, cond_true, decide_eq_true (And.intro h1 (And.intro h2 h3))]
      · simp only [decide_eq_true h1, decide_eq_true h2, decide_eq_false h3, cond_true, decide_eq_false (fun h : _ ∧ _ ∧ _ => h3 h.2.2)]
    · simp only [decide_eq_true h1, decide_eq_false h2, cond_true, cond_false, decide_eq_false (fun h : _ ∧ _ ∧ _ => h2 h.2.1)]
  · simp only [decide_eq_false h1, cond_false, decide_eq_false (fun h : _ ∧ _ ∧ _ => h1 h.1)]
theorem G98_cmp (k : Int) : G98 LF k = some (cmpK k) := by
  unfold G98 cmpK
  by_cases h1 : k = 1
  · subst h1; rfl
  · by_cases h2 : k = 2
    · subst h2; rfl
    · by_cases h3 : k = 3
      · subst h3; rfl
      · have : ¬ (1 ≤ k ∧ k ≤ 3) := by omega
        simp [h1, h2, h3, this]
theorem G97_shp (t : Tm) (i : Nat) (hi : i < LF) : G97 LF (t, (i : Int)) = some (shp t i) := by
  obtain ⟨k, a, b, s, n⟩ := t
  have hp : w64 ((i : Int) - 1) = (i : Int) - 1 := (by have : i < 9223372036854775808 := hi; exact w64_id (by omega) (by omega))
  unfold G97 shp
  simp only [G126_in, Option.bind_some, hp, emp_eq]
  have e1 : decide (k = 1) = true → 1 ≤ k ∧ k ≤ 3 := fun h => by have := of_decide_eq_true h; omega
  by_cases c0 : s = bts []
  · by_cases c1 : n = 0
    · simp only [c0, c1, decide_true, cond_true, jl]
      by_cases k0 : k = 0
      · subst k0; by_cases c2 : a = 0 <;> by_cases c3 : b = 0 <;> simp [c2, c3]
      · by_cases k1 : 1 ≤ k ∧ k ≤ 3
        · have hk : jn (ρ := Bool) (cond (decide (k = 1)) (some (.inl (decide (k = 1)))) (cond (decide (k = 2)) (some (.inl (decide (k = 2)))) (some (.inl (decide (k = 3)))))) = fun f => f true := by
            funext f
            have : k = 1 ∨ k = 2 ∨ k = 3 := by omega
            rcases this with rfl | rfl | rfl <;> rfl
          simp only [k0, decide_false, cond_false, hk, if_false, k1, if_true, cond_true]
          by_cases c2 : a = 0 <;> by_cases c3 : b = 0 <;> simp [c2, c3]
        · have hk : jn (ρ := Bool) (cond (decide (k = 1)) (some (.inl (decide (k = 1)))) (cond (decide (k = 2)) (some (.inl (decide (k = 2)))) (some (.inl (decide (k = 3)))))) = fun f => f false := by
            funext f
            have h1 : ¬ k = 1 := by omega
            have h2 : ¬ k = 2 := by omega
            have h3 : ¬ k = 3 := by omega
            simp [h1, h2, h3, jl]
          simp only [k0, decide_false, cond_false, hk, if_false, k1]
          by_cases k4 : k = 4
          · subst k4; by_cases c2 : 0 ≤ a ∧ a ≤ (i : Int) - 1 <;> by_cases c3 : b = 0 <;> simp [c2, c3]
          · by_cases k5 : k = 5
            · subst k5; by_cases c2 : 0 ≤ a ∧ a ≤ (i : Int) - 1 <;> by_cases c3 : 0 ≤ b ∧ b ≤ (i : Int) - 1 <;> simp [c2, c3, jl]
            · by_cases k6 : k = 6
              · subst k6; by_cases c2 : 0 ≤ a ∧ a ≤ (i : Int) - 1 <;> by_cases c3 : 0 ≤ b ∧ b ≤ (i : Int) - 1 <;> simp [c2, c3, jl]
              · simp [k4, k5, k6, jl]
    · simp only [c0, c1, decide_true, decide_false, cond_true, jl]
      by_cases k0 : k = 0
      · subst k0; by_cases c2 : a = 0 <;> by_cases c3 : b = 0 <;> simp [c2, c3]
      · by_cases k1 : 1 ≤ k ∧ k ≤ 3
        · have hk : jn (ρ := Bool) (cond (decide (k = 1)) (some (.inl (decide (k = 1)))) (cond (decide (k = 2)) (some (.inl (decide (k = 2)))) (some (.inl (decide (k = 3)))))) = fun f => f true := by
            funext f
            have : k = 1 ∨ k = 2 ∨ k = 3 := by omega
            rcases this with rfl | rfl | rfl <;> rfl
          simp only [k0, decide_false, cond_false, hk, if_false, k1, if_true, cond_true]
          by_cases c2 : a = 0 <;> by_cases c3 : b = 0 <;> simp [c2, c3]
        · have hk : jn (ρ := Bool) (cond (decide (k = 1)) (some (.inl (decide (k = 1)))) (cond (decide (k = 2)) (some (.inl (decide (k = 2)))) (some (.inl (decide (k = 3)))))) = fun f => f false := by
            funext f
            have h1 : ¬ k = 1 := by omega
            have h2 : ¬ k = 2 := by omega
            have h3 : ¬ k = 3 := by omega
            simp [h1, h2, h3, jl]
          simp only [k0, decide_false, cond_false, hk, if_false, k1]
          by_cases k4 : k = 4
          · subst k4; simp
          · by_cases k5 : k = 5
            · subst k5; simp [jl]
            · by_cases k6 : k = 6
              · subst k6; simp [jl]
              · simp [k4, k5, k6, jl]
  · simp only [c0, decide_false, cond_false, jl]
    by_cases k0 : k = 0
    · subst k0; by_cases c2 : a = 0 <;> by_cases c3 : b = 0 <;> simp [c2, c3]
    · by_cases k1 : 1 ≤ k ∧ k ≤ 3
      · have hk : jn (ρ := Bool) (cond (decide (k = 1)) (some (.inl (decide (k = 1)))) (cond (decide (k = 2)) (some (.inl (decide (k = 2)))) (some (.inl (decide (k = 3)))))) = fun f => f true := by
          funext f
          have : k = 1 ∨ k = 2 ∨ k = 3 := by omega
          rcases this with rfl | rfl | rfl <;> rfl
        simp only [k0, decide_false, cond_false, hk, if_false, k1, if_true, cond_true]
        by_cases c2 : a = 0 <;> by_cases c3 : b = 0 <;> simp [c2, c3]
      · have hk : jn (ρ := Bool) (cond (decide (k = 1)) (some (.inl (decide (k = 1)))) (cond (decide (k = 2)) (some (.inl (decide (k = 2)))) (some (.inl (decide (k = 3)))))) = fun f => f false := by
          funext f
          have h1 : ¬ k = 1 := by omega
          have h2 : ¬ k = 2 := by omega
          have h3 : ¬ k = 3 := by omega
          simp [h1, h2, h3, jl]
        simp only [k0, decide_false, cond_false, hk, if_false, k1]
        by_cases k4 : k = 4
        · subst k4; simp
        · by_cases k5 : k = 5
          · subst k5; simp [jl]
          · by_cases k6 : k = 6
            · subst k6; simp [jl]
            · simp [k4, k5, k6, jl]
theorem G111_plF (f : List Fct) (s : ByteArray) (hl : f.length < LF) : G111 LF (f, s) = some (plF f s) := by
  unfold G111 plF
  refine (iter_find (fun x => decide (x.1 = s)) (fun i => (i : Int)) f (some (-1)) ?_ ?_ hl).trans ?_
  · intro i x hx
    have hi := lt_of_get hx
    simp only [dlt hi, cond_true, getI_nat hx, Option.bind_some, eqD, succ_W (Nat.lt_of_le_of_lt hi hl)]
    cases decide (x.1 = s) <;> rfl
  · simp only [dnlt]; rfl
  · unfold idxI; cases idx (fun x : Fct => decide (x.1 = s)) f 0 <;> rfl
theorem G37_fnd (c : Cd) (s : ByteArray) (hl : c.2.2.length < LF) : G37 LF (c, s) = some (fnd c.2.2 s) := by
  unfold G37 fnd
  refine (iter_find (fun x => decide (x.1 = s)) (fun i => (i : Int)) c.2.2 (some (-1)) ?_ ?_ hl).trans ?_
  · intro i x hx
    have hi := lt_of_get hx
    simp only [dlt hi, cond_true, getI_nat hx, Option.bind_some, eqD, succ_W (Nat.lt_of_le_of_lt hi hl)]
    cases decide (x.1 = s) <;> rfl
  · simp only [dnlt]; rfl
  · unfold idxI; cases idx (fun x : Rl => decide (x.1 = s)) c.2.2 0 <;> rfl
theorem G30_cond (f : List Fct) (c : Cnd) (hf : f.length < LF) : G30 LF (f, c) = some (condE f c) := by
  unfold G30 condE
  by_cases h1 : 30 < c.length
  · have e1 : decide ((c.length : Int) > 30) = true := decide_eq_true (by omega)
    simp only [e1, cond_true, h1, if_true]
  · have e1 : decide ((c.length : Int) > 30) = false := decide_eq_false (by omega)
    simp only [e1, cond_false, h1, if_false]
    have hl : c.length < LF := by show c.length < 9223372036854775808; omega
    by_cases h0 : c = []
    · subst h0; rfl
    · have e0 : decide ((c.length : Int) = 0) = false := decide_eq_false (by have := List.length_pos_iff.2 h0; omega)
      simp only [e0, cond_false, h0, if_false]
      refine (iter_scan (condS f) c (some 0) ?_ ?_ hl).trans (getD_none _ _)
      · intro i t ht _
        have hi := lt_of_get ht
        obtain ⟨k, a, b, s, n⟩ := t
        simp only [dlt hi, cond_true, getI_nat ht, Option.bind_some, G97_shp _ i (Nat.lt_trans hi hl), G98_cmp, G111_plF f s hf, succ_W (Nat.lt_of_le_of_lt hi hl)]
        unfold condS
        cases shp (k, a, b, s, n) i with
        | false => rfl
        | true =>
          simp only [Bool.not_true, cond_false]
          cases cmpK k with
          | false => rfl
          | true =>
            simp only [cond_true, jl, jr, Bool.true_and, plF_neg]
            cases f.any (fun x => decide (x.1 = s)) <;> rfl
      · intro _
        simp only [dnlt]; rfl
theorem idx_take {σ : Type} (p : σ → Bool) : ∀ (l : List σ) (i : Nat), decide (idxI p l < (i : Int)) = (!l.any p || (l.take i).any p)
  | l, i => by
    cases h : idx p l 0 with
    | none =>
      have hn := idx_none.1 h
      have : l.any p = false := by simp; intro x hx; simp [hn x hx]
      unfold idxI; rw [h, this]; simp; omega
    | some n =>
      obtain ⟨x, e1, e2, e3⟩ := idx_some h
      have : l.any p = true := List.any_eq_true.2 ⟨x, List.mem_of_getElem? e1, e2⟩
      unfold idxI; rw [h, this]
      simp only [Bool.not_true, Bool.false_or]
      by_cases hni : n < i
      · have : (l.take i).any p = true := List.any_eq_true.2 ⟨x, List.mem_of_getElem? (i := n) (by rw [List.getElem?_take, if_pos hni]; exact e1), e2⟩
        rw [this]; simp; omega
      · have : (l.take i).any p = false := by
          rw [List.any_eq_false]
          intro y hy
          obtain ⟨m, hm, hym⟩ := List.mem_iff_getElem.1 hy
          have hmi : m < i := by rw [List.length_take] at hm; omega
          have := e3 m y (by omega) (by rw [List.getElem_take] at hym; rw [← hym]; exact List.getElem?_eq_getElem _)
          simp [this]
        rw [this]; simp; omega
end Go.K
set_option linter.unusedVariables false
set_option linter.unusedSimpArgs false
set_option maxRecDepth 100000
namespace Go.K
open Go.Sl Go.Sx Go.Proofs
theorem G118_rule (c : Cd) (i : Nat) (r : Rl) (hr : c.2.2[i]? = some r) (hf : c.2.1.length < LF) (hl : c.2.2.length ≤ 1000) : G118 LF (c, (i : Int)) = some (ruleE c.2.1 c.2.2 i r) := by
  have hi := lt_of_get hr
  have hi' : i < LF := by show i < 9223372036854775808; omega
  have hll : c.2.2.length < LF := by show c.2.2.length < 9223372036854775808; omega
  unfold G118 ruleE
  have hown : decide (fnd c.2.2 r.1 < (i : Int)) = hasR (c.2.2.take i) r.1 := by
    unfold fnd hasR
    rw [idx_take]
    have : (c.2.2.any fun x => decide (x.1 = r.1)) = true := List.any_eq_true.2 ⟨r, List.mem_of_getElem? hr, by simp⟩
    rw [this]; rfl
  simp only [getI_nat hr, Option.bind_some, G99_nm, G37_fnd (c.1, (c.2.1, c.2.2)) _ hll, hown]
  cases hnm : nmB r.1 with
  | false => simp [jl]
  | true =>
    simp only [Bool.not_true, cond_false, jl, Bool.false_or]
    cases hh : hasR (c.2.2.take i) r.1 with
    | true => rfl
    | false =>
      simp only [cond_false]
      by_cases hd : r.2.1 < 0 ∨ r.2.1 > r.2.2.1 ∨ r.2.2.1 > 100000
      · rw [if_pos hd]
        by_cases d1 : r.2.1 < 0
        · simp [d1, jl]
        · by_cases d2 : r.2.1 > r.2.2.1
          · simp [d1, d2, jl]
          · have d3 : r.2.2.1 > 100000 := by omega
            simp [d1, d2, d3, jl]
      · rw [if_neg hd]
        have d1 : ¬ r.2.1 < 0 := by omega
        have d2 : ¬ r.2.1 > r.2.2.1 := by omega
        have d3 : ¬ r.2.2.1 > 100000 := by omega
        simp only [d1, d2, d3, decide_false, cond_false, jl, G30_cond _ _ hf, Option.bind_some]
        by_cases h0 : condE c.2.1 r.2.2.2.1 = 0
        · simp only [h0, decide_true, cond_true, jl, ne_eq, not_true, if_false]
          by_cases h1 : condE c.2.1 r.2.2.2.2.1 = 0
          · simp only [h1, decide_true, Bool.not_true, cond_false, not_true, if_false]
            by_cases hu6 : 6 < r.2.2.2.2.2.length
            · have : decide ((r.2.2.2.2.2.length : Int) > 6) = true := decide_eq_true (by omega)
              simp only [this, cond_true, hu6, if_true]
            · have : decide ((r.2.2.2.2.2.length : Int) > 6) = false := decide_eq_false (by omega)
              have hu : r.2.2.2.2.2.length < LF := by show r.2.2.2.2.2.length < 9223372036854775808; omega
              simp only [this, cond_false, hu6, if_false]
              refine (iter_scan (unlS (c.2.2.take i) r.2.2.2.2.2) r.2.2.2.2.2 (some 0) ?_ ?_ hu).trans (getD_none _ _)
              · intro k s hk _
                have hkl := lt_of_get hk
                have htu : (r.2.2.2.2.2.take k).length < LF := by rw [List.length_take]; omega
                simp only [dlt hkl, cond_true, getI_nat hk, Option.bind_some, subI_take (Nat.le_of_lt hkl), G84_any _ _ htu, succ_W (Nat.lt_of_le_of_lt hkl hu)]
                have hlt : decide (fnd c.2.2 s < (i : Int)) = (!hasR c.2.2 s || hasR (c.2.2.take i) s) := idx_take _ _ _
                have hge : decide (fnd c.2.2 s ≥ (i : Int)) = !(!hasR c.2.2 s || hasR (c.2.2.take i) s) := by
                  rw [← hlt, ← decide_not]; exact decide_eq_decide.2 (by omega)
                have hneg := fnd_neg c.2.2 s
                rw [hge, hneg]
                have himp : hasR (c.2.2.take i) s = true → hasR c.2.2 s = true := fun h => by
                  unfold hasR at h ⊢
                  rw [List.any_eq_true] at h ⊢
                  obtain ⟨x, hx, hp⟩ := h
                  exact ⟨x, List.mem_of_mem_take hx, hp⟩
                unfold unlS
                cases h1 : hasR (c.2.2.take i) s with
                | true =>
                  rw [himp h1]
                  simp only [Bool.not_true, Bool.not_false, Bool.false_or, Bool.or_true, cond_false, jl]
                  cases (r.2.2.2.2.2.take k).any fun x => decide (x = s) <;> rfl
                | false => cases hasR c.2.2 s <;> rfl
              · intro _
                simp only [dnlt]; rfl
          · simp only [h1, decide_false, Bool.not_false, cond_true, not_false_eq_true, if_true]
        · simp only [h0, decide_false, cond_false, jl, Bool.not_false, cond_true, ne_eq, not_false_eq_true, if_true]
theorem G109_conds (c : Cd) (h : c.2.2.length ≤ 1000) : G109 LF c = some (condsL c.2.2) := by
  unfold G109
  refine (iter_app (fun i a => (a, i)) (fun r : Rl => [r.2.2.2.1, r.2.2.2.2.1]) c.2.2 (fun a => some a) 2 (fun _ _ => by simp) [] ?_ ?_ (by show c.2.2.length < 9223372036854775808; omega)).trans ?_
  · intro i x a hx ha hi
    simp only [List.length_nil] at ha
    simp only [dlt hi, cond_true, getI_nat hx, Option.bind_some, succ_W (show i + 1 < 9223372036854775808 by omega), appC_of (show a.length + [x.2.2.2.1, x.2.2.2.2.1].length ≤ 1099511627776 by simp; omega)]
  · intro a _
    simp only [dnlt]; rfl
  · rfl
theorem G176_parts (t : Tm) : G176 LF t = some (partsL t) := by
  unfold G176 partsL
  by_cases h1 : t.1 = 1
  · simp [h1]
  · by_cases h2 : t.1 = 2
    · simp [h2]
    · by_cases h3 : t.1 = 3 <;> simp [h1, h2, h3]
def cutAt (l : List Int) (n : Int) : Nat → Nat
  | 0 => 0
  | k + 1 => if l.getD k 0 ≥ n then cutAt l n k else k + 1
def putL (l : List Int) (n : Int) : List Int := if l[cutAt l n l.length]? = some n then l else l.take (cutAt l n l.length) ++ n :: l.drop (cutAt l n l.length)
theorem cutAt_le (l : List Int) (n : Int) : ∀ k, cutAt l n k ≤ k
  | 0 => Nat.le_refl _
  | k + 1 => by
    unfold cutAt
    split
    · exact Nat.le_succ_of_le (cutAt_le l n k)
    · exact Nat.le_refl _
theorem cutAt_rise {l : List Int} (hr : Rise l) (n : Int) : ∀ k, k ≤ l.length → (∀ i, i < cutAt l n k → l.getD i 0 < n) ∧ ∀ i, cutAt l n k ≤ i → i < k → n ≤ l.getD i 0
  | 0, _ => ⟨fun i hi => by simp [cutAt] at hi, fun i _ hi => by omega⟩
  | k + 1, hk => by
    unfold cutAt
    split
    · rename_i h
      obtain ⟨h1, h2⟩ := cutAt_rise hr n k (by omega)
      refine ⟨h1, fun i hi hlt => ?_⟩
      by_cases e : i = k
      · subst e; omega
      · exact h2 i hi (by omega)
    · rename_i h
      refine ⟨fun i hi => ?_, fun i hi hlt => by omega⟩
      by_cases e : i = k
      · subst e; omega
      · have := hr.get (i := i) (j := k) (by omega) (by omega)
        simp only [List.getD_eq_getElem?_getD, List.getElem?_eq_getElem (show k < l.length by omega), List.getElem?_eq_getElem (show i < l.length by omega), Option.getD_some] at h ⊢
        omega
theorem putL_len (l : List Int) (n : Int) : (putL l n).length ≤ l.length + 1 := by
  unfold putL
  split
  · omega
  · have := cutAt_le l n l.length
    simp; omega
theorem putL_rise {l : List Int} (hr : Rise l) (n : Int) : Rise (putL l n) ∧ ∀ x, x ∈ putL l n ↔ x ∈ l ∨ x = n := by
  obtain ⟨h1, h2⟩ := cutAt_rise hr n l.length (Nat.le_refl _)
  have hle := cutAt_le l n l.length
  unfold putL
  generalize cutAt l n l.length = k at *
  split
  · rename_i hk
    refine ⟨hr, fun x => ⟨.inl, fun h => ?_⟩⟩
    rcases h with h | h
    · exact h
    · subst h; exact List.mem_of_getElem? hk
  · rename_i hk
    have hlt : ∀ x ∈ l.take k, x < n := fun x hx => by
      obtain ⟨i, hi, rfl⟩ := List.mem_iff_getElem.1 hx
      rw [List.length_take] at hi
      have := h1 i (by omega)
      rw [List.getElem_take]
      rwa [List.getD_eq_getElem?_getD, List.getElem?_eq_getElem (show i < l.length by omega), Option.getD_some] at this
    have hgt : ∀ x ∈ l.drop k, n < x := fun x hx => by
      obtain ⟨i, hi, rfl⟩ := List.mem_iff_getElem.1 hx
      rw [List.length_drop] at hi
      rw [List.getElem_drop]
      have h0 := h2 k (Nat.le_refl _) (by omega)
      rw [List.getD_eq_getElem?_getD, List.getElem?_eq_getElem (show k < l.length by omega), Option.getD_some] at h0
      have hne : l[k] ≠ n := fun e => hk (by rw [List.getElem?_eq_getElem (show k < l.length by omega), e])
      by_cases e : i = 0
      · subst e; simp only [Nat.add_zero]; omega
      · have := hr.get (i := k) (j := k + i) (by omega) (by omega)
        omega
    have htd : l.take k ++ l.drop k = l := List.take_append_drop k l
    have hp := hr
    unfold Rise at hp ⊢
    rw [← htd, List.pairwise_append] at hp
    refine ⟨List.pairwise_append.2 ⟨hp.1, List.pairwise_cons.2 ⟨hgt, hp.2.1⟩, fun a ha b hb => ?_⟩, fun x => ?_⟩
    · rcases List.mem_cons.1 hb with e | e
      · subst e; exact hlt a ha
      · exact hp.2.2 a ha b e
    · constructor
      · intro hx
        rcases List.mem_append.1 hx with h | h
        · exact .inl (List.mem_of_mem_take h)
        · rcases List.mem_cons.1 h with e | e
          · exact .inr e
          · exact .inl (List.mem_of_mem_drop e)
      · intro hx
        rcases hx with h | h
        · rw [← htd] at h
          rcases List.mem_append.1 h with e | e
          · exact List.mem_append_left _ e
          · exact List.mem_append_right _ (List.mem_cons_of_mem _ e)
        · subst h; exact List.mem_append_right _ (List.mem_cons_self ..)
theorem G177_put (l : List Int) (n : Int) (hl : l.length ≤ 1000000) : G177 LF (l, n) = some (putL l n) := by
  unfold G177
  have loop : ∀ (k lf : Nat), k ≤ l.length → k < lf → iter (ρ := Int ⊕ List Int) lf (fun y12 : Int => cond (decide (y12 > (0 : Int))) (((getI l (w64 (y12 - (1 : Int))))).bind fun r13 => cond (decide (r13 ≥ n)) (some (.inl (w64 (y12 - (1 : Int))))) (some (.inr (.inl y12)))) (some (.inr (.inl y12)))) (k : Int) = some (.inl (cutAt l n k : Nat)) := by
    intro k
    induction k with
    | zero =>
      intro lf _ hlf
      obtain ⟨lf, rfl⟩ : ∃ q, lf = q + 1 := ⟨lf - 1, by omega⟩
      simp [iter, cutAt]
    | succ k ih =>
      intro lf hk hlf
      obtain ⟨lf, rfl⟩ : ∃ q, lf = q + 1 := ⟨lf - 1, by omega⟩
      have e1 : decide (((k + 1 : Nat) : Int) > 0) = true := decide_eq_true (by omega)
      have e2 : w64 (((k + 1 : Nat) : Int) - 1) = (k : Int) := by rw [w64_in (by omega)]; omega
      have e3 : l[k]? = some (l.getD k 0) := by rw [List.getD_eq_getElem?_getD, List.getElem?_eq_getElem (by omega)]; rfl
      simp only [iter, e1, e2, getI_nat e3, cond_true, Option.bind_some, cutAt]
      by_cases h : l.getD k 0 ≥ n
      · simp only [decide_eq_true h, cond_true, if_pos h]
        exact ih lf (by omega) (by omega)
      · simp only [decide_eq_false h, cond_false, if_neg h]
  rw [loop l.length LF (Nat.le_refl _) (by show l.length < 9223372036854775808; omega)]
  simp only [jl]
  have hle := cutAt_le l n l.length
  unfold putL
  by_cases hk : cutAt l n l.length < l.length
  · have e3 : l[cutAt l n l.length]? = some l[cutAt l n l.length] := List.getElem?_eq_getElem hk
    simp only [dlt hk, cond_true, getI_nat e3, Option.bind_some, jl]
    rw [e3]
    by_cases hn : l[cutAt l n l.length] = n
    · simp [hn]
    · have hn' : ¬ some l[cutAt l n l.length] = some n := fun e => hn (Option.some.inj e)
      have hd : subI l ((cutAt l n l.length : Nat) : Int) (l.length : Int) = some (l.drop (cutAt l n l.length)) := by
        unfold subI; rw [if_pos (by omega)]; simp
      simp only [decide_eq_false hn, cond_false, if_neg hn', subI_take hle, Option.bind_some, appC_of (show ([] : List Int).length + (l.take (cutAt l n l.length)).length ≤ 1099511627776 by simp; omega), List.nil_append, appC_of (show (l.take (cutAt l n l.length)).length + [n].length ≤ 1099511627776 by simp; omega), hd,
        appC_of (show (l.take (cutAt l n l.length) ++ [n]).length + (l.drop (cutAt l n l.length)).length ≤ 1099511627776 by simp; omega)]
      simp
  · have he : cutAt l n l.length = l.length := by omega
    have hd : subI l ((cutAt l n l.length : Nat) : Int) (l.length : Int) = some (l.drop (cutAt l n l.length)) := by
      unfold subI; rw [if_pos (by omega)]; simp
    have hno : l[cutAt l n l.length]? = none := List.getElem?_eq_none (by omega)
    have hz : decide (((cutAt l n l.length : Nat) : Int) < (l.length : Int)) = false := decide_eq_false (by omega)
    rw [hno]
    simp only [hz, cond_false, jl, subI_take hle, Option.bind_some, appC_of (show ([] : List Int).length + (l.take (cutAt l n l.length)).length ≤ 1099511627776 by simp; omega), List.nil_append, appC_of (show (l.take (cutAt l n l.length)).length + [n].length ≤ 1099511627776 by simp; omega), hd,
        appC_of (show (l.take (cutAt l n l.length) ++ [n]).length + (l.drop (cutAt l n l.length)).length ≤ 1099511627776 by simp; omega)]
    simp
theorem putF_len : ∀ (ns l : List Int), (ns.foldl putL l).length ≤ l.length + ns.length
  | [], l => by simp
  | n :: ns, l => by
    have h1 := putF_len ns (putL l n)
    have h2 := putL_len l n
    rw [List.foldl_cons, List.length_cons]; omega
theorem putF_rise : ∀ (ns : List Int) {l : List Int}, Rise l → Rise (ns.foldl putL l) ∧ ∀ x, x ∈ ns.foldl putL l ↔ x ∈ l ∨ x ∈ ns
  | [], l, h => ⟨h, fun x => by simp⟩
  | n :: ns, l, h => by
    obtain ⟨h1, h2⟩ := putL_rise h n
    obtain ⟨h3, h4⟩ := putF_rise ns h1
    refine ⟨h3, fun x => ?_⟩
    rw [List.foldl_cons, h4, h2, List.mem_cons, or_assoc]
theorem putF_sort (a : Int) (ns : List Int) : ns.foldl putL [a] = compL (sortL (a :: ns)) := by
  obtain ⟨h1, h2⟩ := putF_rise ns (l := [a]) (by simp [Rise])
  obtain ⟨h3, h4⟩ := sc_rise (a :: ns)
  refine rise_ext h1 h3 fun x => ?_
  rw [h2, h4, List.mem_singleton, List.mem_cons]
theorem iter_put {σ α ρ : Type} {f : α → Option (α ⊕ ρ)} (mk : Int → List Int → α) (h : σ → List Int) (all : List σ) (fin : List Int → Option ρ) (c : Nat) (hc : ∀ x ∈ all, (h x).length ≤ c) (a0 : List Int)
    (h1 : ∀ i x a, all[i]? = some x → a.length ≤ a0.length + c * i → i < all.length → f (mk (i : Nat) a) = some (.inl (mk ((i + 1 : Nat) : Int) ((h x).foldl putL a))))
    (h2 : ∀ a, a.length ≤ a0.length + c * all.length → f (mk (all.length : Nat) a) = outR (fin a)) (hl : all.length < LF) :
    iter LF f (mk 0 a0) = fin ((all.flatMap h).foldl putL a0) := by
  rw [iter_foldI mk (fun x _ a => (h x).foldl putL a) (fun i a => a.length ≤ a0.length + c * i) all fin a0 (fun i x a hx hg => h1 i x a hx hg (List.getElem?_eq_some_iff.1 hx).1)
    (fun i x a hx hg => by
      have := hc x (List.mem_of_getElem? hx)
      have := putF_len (h x) a
      rw [Nat.mul_add]; omega) h2 hl (by omega)]
  rw [foldI_const, List.foldl_flatMap]
theorem G108_starts (f : List Fct) (cs : List Cnd) (hf : f.length ≤ 1000) (hc : cs.length ≤ 100) (ht : ∀ c ∈ cs, c.length ≤ 1000) : G108 LF (f, cs) = some (startsL f cs) := by
  unfold G108 startsL
  refine (iter_app (fun i a => (a, i)) (fun x : Fct => [cutsOf cs x]) f (fun a => some a) 1 (fun _ _ => by simp) [] ?_ ?_ (by show f.length < 9223372036854775808; omega)).trans ?_
  · intro i x A hx hA hi
    simp only [List.length_nil] at hA
    simp only [dlt hi, cond_true, getI_nat hx, Option.bind_some]
    refine (iter_put (fun i a => (a, i)) (fun c : Cnd => c.flatMap (cutT x)) cs (fun a => some (.inl (A ++ [a], ((i + 1 : Nat) : Int)))) 2000 (fun c hc => by
        have h1 := flat_len (cutT x) 2 c (fun t _ => cutT_len x t)
        have h2 := ht c hc
        omega) [x.2.1] ?_ ?_ (by show cs.length < 9223372036854775808; omega)).trans ?_
    · intro j c a hj ha hjl
      simp only [List.length_singleton] at ha
      simp only [dlt hjl, cond_true, getI_nat hj, Option.bind_some]
      have hcl := ht c (List.mem_of_getElem? hj)
      refine (iter_put (fun i a => (a, i)) (cutT x) c (fun a => some (.inl (a, ((j + 1 : Nat) : Int)))) 2 (fun t _ => cutT_len x t) a ?_ ?_ (by show c.length < 9223372036854775808; omega)).trans ?_
      · intro k t b hk hb hkl
        simp only [dlt hkl, cond_true, getI_nat hk, Option.bind_some, eqD, G176_parts]
        have hp := parts_len t
        refine (iter_put (fun i a => (a, i)) (fun n => bif decide (t.2.2.2.1 = x.1) && inS x n then [n] else []) (partsL t) (fun b => some (.inl (b, ((k + 1 : Nat) : Int)))) 1 (fun n _ => by cases decide (t.2.2.2.1 = x.1) && inS x n <;> simp) b ?_ ?_ (by show (partsL t).length < 9223372036854775808; omega)).trans ?_
        · intro q n d hq hd hql
          have hdl : d.length ≤ 1000000 := by omega
          simp only [dlt hql, cond_true, getI_nat hq, Option.bind_some, succ_W (show q + 1 < 9223372036854775808 by omega), G177_put d n hdl]
          unfold inS
          cases decide (t.2.2.2.1 = x.1) <;> cases decide (n > x.2.1) <;> cases decide (n ≤ x.2.2) <;> simp [jl]
        · intro d _
          simp only [dnlt, succ_W (show k + 1 < 9223372036854775808 by omega)]; rfl
        · congr 3
          congr 1
          unfold cutT
          cases decide (t.2.2.2.1 = x.1) with
          | false => simp
          | true => simp only [Bool.true_and, cond_true]; exact flat_filter _ _
      · intro b _
        simp only [dnlt, succ_W (show j + 1 < 9223372036854775808 by omega)]; rfl
      · rfl
    · intro a ha
      simp only [List.length_singleton] at ha
      simp only [dnlt, cond_false, Option.bind_some, appC_of (show A.length + [a].length ≤ 1099511627776 by simp; omega), succ_W (show i + 1 < 9223372036854775808 by omega)]
    · rw [putF_sort]; rfl
  · intro a _
    simp only [dnlt]; rfl
  · rw [List.nil_append, ← List.map_eq_flatMap]
theorem G119_many (l : List (List Int)) (h : l.length ≤ 1000) : G119 LF l = some (manyL l) := by
  unfold G119 manyL
  refine (iter_foldI (fun i a => (a, i)) (fun (x : List Int) _ n => if (4001 : Int) < w64 (n * (x.length : Int)) then 4001 else w64 (n * (x.length : Int))) (fun _ _ => True) l (fun a => some a) 1 ?_ (fun _ _ _ _ _ => trivial) ?_ (by show l.length < 9223372036854775808; omega) trivial).trans ?_
  · intro i x a hx _
    have hi := lt_of_get hx
    simp only [dlt hi, cond_true, getI_nat hx, Option.bind_some, succ_W (show i + 1 < 9223372036854775808 by omega)]
  · intro a _
    simp only [dnlt]; rfl
  · rw [foldI_const]
theorem conds_len (l : List Rl) : (condsL l).length = 2 * l.length := by
  unfold condsL
  induction l with
  | nil => rfl
  | cons r l ih => rw [List.flatMap_cons, List.length_append, ih]; simp; omega
theorem G32_code (c : Cd) : G32 LF c = some (codeE c) := by
  unfold G32 codeE
  simp only [G99_nm, Option.bind_some]
  cases nmB c.1 with
  | false => rfl
  | true =>
    simp only [Bool.not_true, cond_false]
    by_cases h0 : c.2.1 = []
    · simp [h0]
    · have e0 : decide ((c.2.1.length : Int) = 0) = false := decide_eq_false (by have := List.length_pos_iff.2 h0; omega)
      rw [if_neg h0]
      simp only [e0, cond_false]
      by_cases h1 : 6 < c.2.1.length ∨ 12 < c.2.2.length
      · rw [if_pos h1]
        by_cases h2 : 6 < c.2.1.length
        · have : decide ((c.2.1.length : Int) > 6) = true := decide_eq_true (by omega)
          simp [this, jl]
        · have a1 : decide ((c.2.1.length : Int) > 6) = false := decide_eq_false (by omega)
          have a2 : decide ((c.2.2.length : Int) > 12) = true := decide_eq_true (by omega)
          simp [a1, a2, jl]
      · rw [if_neg h1]
        have a1 : decide ((c.2.1.length : Int) > 6) = false := decide_eq_false (by omega)
        have a2 : decide ((c.2.2.length : Int) > 12) = false := decide_eq_false (by omega)
        simp only [a1, a2, cond_false, jl]
        have hf6 : c.2.1.length ≤ 6 := by omega
        have hl12 : c.2.2.length ≤ 12 := by omega
        have hf : c.2.1.length < LF := by show c.2.1.length < 9223372036854775808; omega
        have hl : c.2.2.length < LF := by show c.2.2.length < 9223372036854775808; omega
        refine (iter_scan (factS c.2.1) c.2.1 (match scan (ruleS c.2.1 c.2.2) c.2.2 0 with
            | some e => some e
            | none => some (if manyL (startsL c.2.1 (condsL c.2.2)) > 4000 then 2 else 0)) ?_ ?_ hf).trans ?_
        · intro i x hx _
          have hi := lt_of_get hx
          have hown : decide (plF c.2.1 x.1 < (i : Int)) = (c.2.1.take i).any fun y => decide (y.1 = x.1) := by
            unfold plF
            rw [idx_take]
            have : (c.2.1.any fun y => decide (y.1 = x.1)) = true := List.any_eq_true.2 ⟨x, List.mem_of_getElem? hx, by simp⟩
            rw [this]; rfl
          simp only [dlt hi, cond_true, getI_nat hx, Option.bind_some, G99_nm, G111_plF _ _ hf, hown, G117_span x.1, succ_W (Nat.lt_of_le_of_lt hi hf)]
          unfold factS
          cases nmB x.1 with
          | false => rfl
          | true =>
            simp only [Bool.not_true, cond_false, jl, Bool.false_or]
            cases (c.2.1.take i).any fun y => decide (y.1 = x.1) with
            | true => rfl
            | false => simp only [cond_false]; cases spanB x <;> rfl
        · intro _
          simp only [dnlt, cond_false]
          congr 1
          refine (iter_scan (ruleS c.2.1 c.2.2) c.2.2 (some (if manyL (startsL c.2.1 (condsL c.2.2)) > 4000 then 2 else 0)) ?_ ?_ hl).trans ?_
          · intro i r hr _
            have hi := lt_of_get hr
            simp only [dlt hi, cond_true, Option.bind_some, G118_rule (c.1, (c.2.1, c.2.2)) i r hr hf (show c.2.2.length ≤ 1000 by omega), succ_W (Nat.lt_of_le_of_lt hi hl)]
            unfold ruleS
            by_cases hz : ruleE c.2.1 c.2.2 i r = 0 <;> simp [hz]
          · intro hs
            simp only [dnlt, cond_false]
            congr 1
            have hcl : (condsL c.2.2).length ≤ 100 := by rw [conds_len]; omega
            unfold G120
            simp only [G109_conds (c.1, (c.2.1, c.2.2)) (show c.2.2.length ≤ 1000 by omega), Option.bind_some, G108_starts _ _ (show c.2.1.length ≤ 1000 by omega) hcl (conds_short hs), G119_many _ (show (startsL c.2.1 (condsL c.2.2)).length ≤ 1000 by unfold startsL; rw [List.length_map]; omega)]
            by_cases hm : manyL (startsL c.2.1 (condsL c.2.2)) > 4000 <;> simp [hm]
          · cases scan (ruleS c.2.1 c.2.2) c.2.2 0 <;> rfl
        · cases scan (factS c.2.1) c.2.1 0 with
          | some e => rfl
          | none => cases scan (ruleS c.2.1 c.2.2) c.2.2 0 <;> rfl
end Go.K
set_option linter.unusedVariables false
set_option linter.unusedSimpArgs false
set_option maxRecDepth 100000
namespace Go.K
open Go.Sl Go.Sx Go.Proofs
theorem plF_get {f : List Fct} {s : ByteArray} (h : f.any (fun x => decide (x.1 = s)) = true) : ∃ n : Nat, plF f s = (n : Int) ∧ n < f.length ∧ ∃ x, f[n]? = some x ∧ x.1 = s := by
  rw [← idx_any] at h
  cases hi : idx (fun x : Fct => decide (x.1 = s)) f 0 with
  | none => rw [hi] at h; cases h
  | some n =>
    obtain ⟨x, e1, e2, _⟩ := idx_some hi
    exact ⟨n, by unfold plF idxI; rw [hi], idx_lt hi, x, e1, by simpa using e2⟩
theorem term_ok {f : List Fct} {t : Tm} {i : Nat} (h : condS f t i = none) : shp t i = true ∧ (cmpK t.1 = true → f.any (fun x => decide (x.1 = t.2.2.2.1)) = true) := by
  unfold condS at h
  cases h1 : shp t i with
  | false => rw [h1] at h; cases h
  | true =>
    rw [h1] at h
    simp only [Bool.not_true, cond_false] at h
    refine ⟨rfl, fun hc => ?_⟩
    rw [hc] at h
    cases h2 : f.any (fun x => decide (x.1 = t.2.2.2.1)) with
    | true => rfl
    | false => rw [h2] at h; cases h
inductive Kdt (f : List Fct) (i : Nat) : Tm → Prop
  | tru {a b s n} : Kdt f i (0, (a, (b, (s, n))))
  | cmp {k a b s n} : (k = 1 ∨ k = 2 ∨ k = 3) → f.any (fun x => decide (x.1 = s)) = true → Kdt f i (k, (a, (b, (s, n))))
  | neg {a : Nat} {b s n} : a < i → Kdt f i (4, ((a : Int), (b, (s, n))))
  | bin {k} {a b : Nat} {s n} : (k = 5 ∨ k = 6) → a < i → b < i → Kdt f i (k, ((a : Int), ((b : Int), (s, n))))
theorem term_kd {f : List Fct} {t : Tm} {i : Nat} (h : condS f t i = none) : Kdt f i t := by
  obtain ⟨h1, h2⟩ := term_ok h
  obtain ⟨k, a, b, s, n⟩ := t
  unfold shp at h1
  simp only at h1 h2
  by_cases k0 : k = 0
  · subst k0; exact .tru
  · rw [if_neg k0] at h1
    by_cases k1 : 1 ≤ k ∧ k ≤ 3
    · exact .cmp (by omega) (h2 (decide_eq_true k1))
    · rw [if_neg k1] at h1
      by_cases k4 : k = 4
      · subst k4
        simp only [if_true, decide_eq_true_eq] at h1
        obtain ⟨m, rfl⟩ := Int.eq_ofNat_of_zero_le h1.2.2.1
        exact .neg (by omega)
      · rw [if_neg k4] at h1
        by_cases k5 : k = 5 ∨ k = 6
        · rw [if_pos k5, decide_eq_true_eq] at h1
          obtain ⟨m, rfl⟩ := Int.eq_ofNat_of_zero_le h1.2.2.1
          obtain ⟨q, rfl⟩ := Int.eq_ofNat_of_zero_le h1.2.2.2.2.1
          exact .bin k5 (by omega) (by omega)
        · rw [if_neg k5] at h1; cases h1
end Go.K
set_option linter.unusedVariables false
set_option linter.unusedSimpArgs false
set_option maxRecDepth 100000
namespace Go.K
open Go.Sl Go.Sx Go.Proofs
structure VC (c : Cd) : Prop where
  fn : c.2.1 ≠ []
  fl : c.2.1.length ≤ 6
  ll : c.2.2.length ≤ 12
  fs : scan (factS c.2.1) c.2.1 0 = none
  rs : scan (ruleS c.2.1 c.2.2) c.2.2 0 = none
  mn : manyL (startsL c.2.1 (condsL c.2.2)) ≤ 4000
theorem VC.of {c : Cd} (h : codeE c = 0) : VC c := by
  unfold codeE at h
  cases h0 : nmB c.1 with
  | false => rw [h0] at h; cases h
  | true =>
    rw [h0] at h
    simp only [Bool.not_true, cond_false] at h
    split at h
    · cases h
    · rename_i h1
      split at h
      · cases h
      · rename_i h2
        have key : ∀ (e : Int) (l : List Fct) (i : Nat), scan (factS c.2.1) l i = some e → e ≠ 0 := by
          intro e l
          induction l with
          | nil => intro i hh; cases hh
          | cons x l ih =>
            intro i hh
            simp only [scan] at hh
            cases hf : factS c.2.1 x i with
            | none => rw [hf] at hh; exact ih _ hh
            | some e' =>
              rw [hf] at hh
              cases hh
              unfold factS at hf
              intro he
              subst he
              revert hf
              cases (!nmB x.1 || (c.2.1.take i).any fun y => decide (y.1 = x.1)) with
              | true => simp
              | false => cases spanB x <;> simp
        have key2 : ∀ (e : Int) (l : List Rl) (i : Nat), scan (ruleS c.2.1 c.2.2) l i = some e → e ≠ 0 := by
          intro e l
          induction l with
          | nil => intro i hh; cases hh
          | cons x l ih =>
            intro i hh
            simp only [scan] at hh
            cases hf : ruleS c.2.1 c.2.2 x i with
            | none => rw [hf] at hh; exact ih _ hh
            | some e' =>
              rw [hf] at hh
              cases hh
              unfold ruleS at hf
              split at hf
              · rename_i hz; cases hf; exact hz
              · cases hf
        split at h
        · rename_i e he; exact absurd h (key _ _ _ he)
        · rename_i he
          split at h
          · rename_i e he2; exact absurd h (key2 _ _ _ he2)
          · rename_i he2
            split at h
            · cases h
            · rename_i hm
              exact ⟨h1, by omega, by omega, he, he2, by omega⟩
theorem VC.rule {c : Cd} (h : VC c) {i : Nat} {r : Rl} (hr : c.2.2[i]? = some r) : nmB r.1 = true ∧ hasR (c.2.2.take i) r.1 = false ∧ (0 ≤ r.2.1 ∧ r.2.1 ≤ r.2.2.1 ∧ r.2.2.1 ≤ 100000) ∧ condE c.2.1 r.2.2.2.1 = 0 ∧ condE c.2.1 r.2.2.2.2.1 = 0 ∧ r.2.2.2.2.2.length ≤ 6 ∧ (scan (unlS (c.2.2.take i) r.2.2.2.2.2) r.2.2.2.2.2 0).getD 0 = 0 := rule_ok (rules_ok h.rs hr)
theorem VC.fl' {c : Cd} (h : VC c) : c.2.1.length < LF := by show c.2.1.length < 9223372036854775808; have := h.fl; omega
end Go.K
set_option linter.unusedVariables false
set_option maxRecDepth 100000
set_option maxHeartbeats 0
namespace Go.K
open Go.Sl Go.Sx Go.Proofs
def S151 : FuncId → Sp := fun g => match g with
  | 151 => { loops := [(4, [(.slot 7, .dat .bool), (.slot 8, .dat .bool), (.slot 15, .dat .i)])] }
  | 128 => { nz := [(11, [12])] }
  | _ => {}
noncomputable def F151 (P : Program) (lf : Nat) (x : tt [(true, (.pair .str (.pair (.sl (.pair .str (.pair .i .i))) (.sl (.pair .str (.pair .i (.pair .i (.pair (.sl (.pair .i (.pair .i (.pair .i (.pair .str .i))))) (.pair (.sl (.pair .i (.pair .i (.pair .i (.pair .str .i))))) (.sl .str)))))))))), (false, .i), (false, (.sl (.pair .str (.pair .i .i))))]) : Option (tt [(false, .i)]) := fnF P (D26 P lf) S151 151 [(true, (.pair .str (.pair (.sl (.pair .str (.pair .i .i))) (.sl (.pair .str (.pair .i (.pair .i (.pair (.sl (.pair .i (.pair .i (.pair .i (.pair .str .i))))) (.pair (.sl (.pair .i (.pair .i (.pair .i (.pair .str .i))))) (.sl .str)))))))))), (false, .i), (false, (.sl (.pair .str (.pair .i .i))))] [(false, .i)] lf x
noncomputable def C151 (P : Program) (lf : Nat) : FuncId → Option Con := extC (D26 P lf) 151 (dataCon [(true, (.pair .str (.pair (.sl (.pair .str (.pair .i .i))) (.sl (.pair .str (.pair .i (.pair .i (.pair (.sl (.pair .i (.pair .i (.pair .i (.pair .str .i))))) (.pair (.sl (.pair .i (.pair .i (.pair .i (.pair .str .i))))) (.sl .str)))))))))), (false, .i), (false, (.sl (.pair .str (.pair .i .i))))] [(false, .i)] (F151 P lf))
def S70 : FuncId → Sp := fun g => match g with
  | 128 => { nz := [(11, [12])] }
  | _ => {}
noncomputable def F70 (P : Program) (lf : Nat) (x : tt [(true, (.pair .str (.pair (.sl (.pair .str (.pair .i .i))) (.sl (.pair .str (.pair .i (.pair .i (.pair (.sl (.pair .i (.pair .i (.pair .i (.pair .str .i))))) (.pair (.sl (.pair .i (.pair .i (.pair .i (.pair .str .i))))) (.sl .str)))))))))), (false, .i), (false, (.sl (.pair .str (.pair .i .i))))]) : Option (tt [(false, .i), (false, .i)]) := fnF P (C151 P lf) S70 70 [(true, (.pair .str (.pair (.sl (.pair .str (.pair .i .i))) (.sl (.pair .str (.pair .i (.pair .i (.pair (.sl (.pair .i (.pair .i (.pair .i (.pair .str .i))))) (.pair (.sl (.pair .i (.pair .i (.pair .i (.pair .str .i))))) (.sl .str)))))))))), (false, .i), (false, (.sl (.pair .str (.pair .i .i))))] [(false, .i), (false, .i)] lf x
noncomputable def C70 (P : Program) (lf : Nat) : FuncId → Option Con := extC (C151 P lf) 70 (dataCon [(true, (.pair .str (.pair (.sl (.pair .str (.pair .i .i))) (.sl (.pair .str (.pair .i (.pair .i (.pair (.sl (.pair .i (.pair .i (.pair .i (.pair .str .i))))) (.pair (.sl (.pair .i (.pair .i (.pair .i (.pair .str .i))))) (.sl .str)))))))))), (false, .i), (false, (.sl (.pair .str (.pair .i .i))))] [(false, .i), (false, .i)] (F70 P lf))
def S77 : FuncId → Sp := fun g => match g with
  | 77 => { loops := [(8, [(.slot 34, .dat .i)]), (5, [(.slot 25, .dat .i)])] }
  | 128 => { nz := [(11, [12])] }
  | _ => {}
noncomputable def F77 (P : Program) (lf : Nat) (x : tt [(true, (.pair .str (.pair (.sl (.pair .str (.pair .i .i))) (.sl (.pair .str (.pair .i (.pair .i (.pair (.sl (.pair .i (.pair .i (.pair .i (.pair .str .i))))) (.pair (.sl (.pair .i (.pair .i (.pair .i (.pair .str .i))))) (.sl .str)))))))))), (false, .i), (false, (.sl (.pair .str (.pair .i .i))))]) : Option (tt [(false, .i), (false, (.sl .i)), (false, .i)]) := fnF P (C70 P lf) S77 77 [(true, (.pair .str (.pair (.sl (.pair .str (.pair .i .i))) (.sl (.pair .str (.pair .i (.pair .i (.pair (.sl (.pair .i (.pair .i (.pair .i (.pair .str .i))))) (.pair (.sl (.pair .i (.pair .i (.pair .i (.pair .str .i))))) (.sl .str)))))))))), (false, .i), (false, (.sl (.pair .str (.pair .i .i))))] [(false, .i), (false, (.sl .i)), (false, .i)] lf x
noncomputable def C77 (P : Program) (lf : Nat) : FuncId → Option Con := extC (C70 P lf) 77 (dataCon [(true, (.pair .str (.pair (.sl (.pair .str (.pair .i .i))) (.sl (.pair .str (.pair .i (.pair .i (.pair (.sl (.pair .i (.pair .i (.pair .i (.pair .str .i))))) (.pair (.sl (.pair .i (.pair .i (.pair .i (.pair .str .i))))) (.sl .str)))))))))), (false, .i), (false, (.sl (.pair .str (.pair .i .i))))] [(false, .i), (false, (.sl .i)), (false, .i)] (F77 P lf))
def S79 : FuncId → Sp := fun g => match g with
  | 79 => { loops := [(7, [(.slot 9, .own .str 9), (.slot 27, .dat .i)])] }
  | 128 => { nz := [(11, [12])] }
  | _ => {}
noncomputable def F79 (P : Program) (lf : Nat) (x : tt [(true, (.pair .str (.pair (.sl (.pair .str (.pair .i .i))) (.sl (.pair .str (.pair .i (.pair .i (.pair (.sl (.pair .i (.pair .i (.pair .i (.pair .str .i))))) (.pair (.sl (.pair .i (.pair .i (.pair .i (.pair .str .i))))) (.sl .str)))))))))), (false, .i), (false, (.sl (.pair .str (.pair .i .i))))]) : Option (tt [(false, (.sl .str)), (false, .i)]) := fnF P (C77 P lf) S79 79 [(true, (.pair .str (.pair (.sl (.pair .str (.pair .i .i))) (.sl (.pair .str (.pair .i (.pair .i (.pair (.sl (.pair .i (.pair .i (.pair .i (.pair .str .i))))) (.pair (.sl (.pair .i (.pair .i (.pair .i (.pair .str .i))))) (.sl .str)))))))))), (false, .i), (false, (.sl (.pair .str (.pair .i .i))))] [(false, (.sl .str)), (false, .i)] lf x
noncomputable def C79 (P : Program) (lf : Nat) : FuncId → Option Con := extC (C77 P lf) 79 (dataCon [(true, (.pair .str (.pair (.sl (.pair .str (.pair .i .i))) (.sl (.pair .str (.pair .i (.pair .i (.pair (.sl (.pair .i (.pair .i (.pair .i (.pair .str .i))))) (.pair (.sl (.pair .i (.pair .i (.pair .i (.pair .str .i))))) (.sl .str)))))))))), (false, .i), (false, (.sl (.pair .str (.pair .i .i))))] [(false, (.sl .str)), (false, .i)] (F79 P lf))
def S81 : FuncId → Sp := fun g => match g with
  | 81 => { joins := [(17, [(.slot 85, .dat .bool)]), (15, [(.slot 16, .dat .i)])], loops := [(10, [(.slot 12, .own (.pair .i .i) 46), (.slot 39, .dat .i)])] }
  | 128 => { nz := [(11, [12])] }
  | _ => {}
noncomputable def F81 (P : Program) (lf : Nat) (x : tt [(true, (.pair .str (.pair (.sl (.pair .str (.pair .i .i))) (.sl (.pair .str (.pair .i (.pair .i (.pair (.sl (.pair .i (.pair .i (.pair .i (.pair .str .i))))) (.pair (.sl (.pair .i (.pair .i (.pair .i (.pair .str .i))))) (.sl .str)))))))))), (false, .i), (false, (.sl (.pair .str (.pair .i .i)))), (false, .str)]) : Option (tt [(false, (.sl (.pair .i .i))), (false, .i)]) := fnF P (C79 P lf) S81 81 [(true, (.pair .str (.pair (.sl (.pair .str (.pair .i .i))) (.sl (.pair .str (.pair .i (.pair .i (.pair (.sl (.pair .i (.pair .i (.pair .i (.pair .str .i))))) (.pair (.sl (.pair .i (.pair .i (.pair .i (.pair .str .i))))) (.sl .str)))))))))), (false, .i), (false, (.sl (.pair .str (.pair .i .i)))), (false, .str)] [(false, (.sl (.pair .i .i))), (false, .i)] lf x
noncomputable def C81 (P : Program) (lf : Nat) : FuncId → Option Con := extC (C79 P lf) 81 (dataCon [(true, (.pair .str (.pair (.sl (.pair .str (.pair .i .i))) (.sl (.pair .str (.pair .i (.pair .i (.pair (.sl (.pair .i (.pair .i (.pair .i (.pair .str .i))))) (.pair (.sl (.pair .i (.pair .i (.pair .i (.pair .str .i))))) (.sl .str)))))))))), (false, .i), (false, (.sl (.pair .str (.pair .i .i)))), (false, .str)] [(false, (.sl (.pair .i .i))), (false, .i)] (F81 P lf))
def S66 : FuncId → Sp := fun g => match g with
  | 66 => { joins := [(7, [(.slot 41, .dat .bool)])], loops := [(18, [(.slot 10, .dat .bool), (.slot 11, .dat .bool), (.slot 59, .dat .i)]), (4, [(.slot 19, .dat .i)])] }
  | 128 => { nz := [(11, [12])] }
  | _ => {}
noncomputable def F66 (P : Program) (lf : Nat) (x : tt [(false, (.sl (.pair .str (.pair .i .i)))), (true, (.sl (.pair .i (.pair .i (.pair .i (.pair .str .i))))))]) : Option (tt [(false, .i), (false, .i)]) := fnF P (C81 P lf) S66 66 [(false, (.sl (.pair .str (.pair .i .i)))), (true, (.sl (.pair .i (.pair .i (.pair .i (.pair .str .i))))))] [(false, .i), (false, .i)] lf x
noncomputable def C66 (P : Program) (lf : Nat) : FuncId → Option Con := extC (C81 P lf) 66 (dataCon [(false, (.sl (.pair .str (.pair .i .i)))), (true, (.sl (.pair .i (.pair .i (.pair .i (.pair .str .i))))))] [(false, .i), (false, .i)] (F66 P lf))
def S143 : FuncId → Sp := fun g => match g with
  | 143 => { joins := [(13, [(.slot 10, .dat (.sl .i)), (.slot 11, .dat .bool)]), (9, [(.slot 61, .dat .bool)])], loops := [(4, [(.slot 10, .dat (.sl .i)), (.slot 11, .dat .bool), (.slot 20, .dat .i)])] }
  | 128 => { nz := [(11, [12])] }
  | _ => {}
noncomputable def F143 (P : Program) (lf : Nat) (x : tt [(true, (.pair .str (.pair (.sl (.pair .str (.pair .i .i))) (.sl (.pair .str (.pair .i (.pair .i (.pair (.sl (.pair .i (.pair .i (.pair .i (.pair .str .i))))) (.pair (.sl (.pair .i (.pair .i (.pair .i (.pair .str .i))))) (.sl .str)))))))))), (false, .i), (false, .i), (false, .i)]) : Option (tt [(false, (.sl .i)), (false, .bool)]) := fnF P (C66 P lf) S143 143 [(true, (.pair .str (.pair (.sl (.pair .str (.pair .i .i))) (.sl (.pair .str (.pair .i (.pair .i (.pair (.sl (.pair .i (.pair .i (.pair .i (.pair .str .i))))) (.pair (.sl (.pair .i (.pair .i (.pair .i (.pair .str .i))))) (.sl .str)))))))))), (false, .i), (false, .i), (false, .i)] [(false, (.sl .i)), (false, .bool)] lf x
noncomputable def C143 (P : Program) (lf : Nat) : FuncId → Option Con := extC (C66 P lf) 143 (dataCon [(true, (.pair .str (.pair (.sl (.pair .str (.pair .i .i))) (.sl (.pair .str (.pair .i (.pair .i (.pair (.sl (.pair .i (.pair .i (.pair .i (.pair .str .i))))) (.pair (.sl (.pair .i (.pair .i (.pair .i (.pair .str .i))))) (.sl .str)))))))))), (false, .i), (false, .i), (false, .i)] [(false, (.sl .i)), (false, .bool)] (F143 P lf))
def S58 : FuncId → Sp := fun g => match g with
  | 58 => { loops := [(12, [(.slot 5, .own (.pair .i (.pair .i (.pair .i (.sl .i)))) 75), (.slot 35, .dat .i)]), (9, [(.slot 5, .own (.pair .i (.pair .i (.pair .i (.sl .i)))) 75), (.slot 7, .dat .i)]), (6, [(.slot 5, .own (.pair .i (.pair .i (.pair .i (.sl .i)))) 75), (.slot 20, .dat .i)])] }
  | 128 => { nz := [(11, [12])] }
  | _ => {}
noncomputable def F58 (P : Program) (lf : Nat) (x : tt [(true, (.pair .str (.pair (.sl (.pair .str (.pair .i .i))) (.sl (.pair .str (.pair .i (.pair .i (.pair (.sl (.pair .i (.pair .i (.pair .i (.pair .str .i))))) (.pair (.sl (.pair .i (.pair .i (.pair .i (.pair .str .i))))) (.sl .str))))))))))]) : Option (tt [(false, (.sl (.pair .i (.pair .i (.pair .i (.sl .i)))))), (false, .i)]) := fnF P (C143 P lf) S58 58 [(true, (.pair .str (.pair (.sl (.pair .str (.pair .i .i))) (.sl (.pair .str (.pair .i (.pair .i (.pair (.sl (.pair .i (.pair .i (.pair .i (.pair .str .i))))) (.pair (.sl (.pair .i (.pair .i (.pair .i (.pair .str .i))))) (.sl .str))))))))))] [(false, (.sl (.pair .i (.pair .i (.pair .i (.sl .i)))))), (false, .i)] lf x
noncomputable def C58 (P : Program) (lf : Nat) : FuncId → Option Con := extC (C143 P lf) 58 (dataCon [(true, (.pair .str (.pair (.sl (.pair .str (.pair .i .i))) (.sl (.pair .str (.pair .i (.pair .i (.pair (.sl (.pair .i (.pair .i (.pair .i (.pair .str .i))))) (.pair (.sl (.pair .i (.pair .i (.pair .i (.pair .str .i))))) (.sl .str))))))))))] [(false, (.sl (.pair .i (.pair .i (.pair .i (.sl .i)))))), (false, .i)] (F58 P lf))
def S63 : FuncId → Sp := fun g => match g with
  | 63 => { joins := [(9, [(.slot 79, .dat .bool)]), (5, [(.slot 44, .dat .bool)])] }
  | 128 => { nz := [(11, [12])] }
  | _ => {}
noncomputable def F63 (P : Program) (lf : Nat) (x : tt [(true, (.pair .str (.pair (.sl (.pair .str (.pair .i .i))) (.sl (.pair .str (.pair .i (.pair .i (.pair (.sl (.pair .i (.pair .i (.pair .i (.pair .str .i))))) (.pair (.sl (.pair .i (.pair .i (.pair .i (.pair .str .i))))) (.sl .str)))))))))), (true, (.pair .i (.pair .i (.pair .i (.sl .i)))))]) : Option (tt [(false, .i)]) := fnF P (C58 P lf) S63 63 [(true, (.pair .str (.pair (.sl (.pair .str (.pair .i .i))) (.sl (.pair .str (.pair .i (.pair .i (.pair (.sl (.pair .i (.pair .i (.pair .i (.pair .str .i))))) (.pair (.sl (.pair .i (.pair .i (.pair .i (.pair .str .i))))) (.sl .str)))))))))), (true, (.pair .i (.pair .i (.pair .i (.sl .i)))))] [(false, .i)] lf x
noncomputable def C63 (P : Program) (lf : Nat) : FuncId → Option Con := extC (C58 P lf) 63 (dataCon [(true, (.pair .str (.pair (.sl (.pair .str (.pair .i .i))) (.sl (.pair .str (.pair .i (.pair .i (.pair (.sl (.pair .i (.pair .i (.pair .i (.pair .str .i))))) (.pair (.sl (.pair .i (.pair .i (.pair .i (.pair .str .i))))) (.sl .str)))))))))), (true, (.pair .i (.pair .i (.pair .i (.sl .i)))))] [(false, .i)] (F63 P lf))
def S144 : FuncId → Sp := fun g => match g with
  | 128 => { nz := [(11, [12])] }
  | _ => {}
noncomputable def F144 (P : Program) (lf : Nat) (x : tt [(true, (.pair .str (.pair (.sl (.pair .str (.pair .i .i))) (.sl (.pair .str (.pair .i (.pair .i (.pair (.sl (.pair .i (.pair .i (.pair .i (.pair .str .i))))) (.pair (.sl (.pair .i (.pair .i (.pair .i (.pair .str .i))))) (.sl .str)))))))))), (false, .i), (false, .i), (false, (.sl .i))]) : Option (tt [(false, .bool)]) := fnF P (C63 P lf) S144 144 [(true, (.pair .str (.pair (.sl (.pair .str (.pair .i .i))) (.sl (.pair .str (.pair .i (.pair .i (.pair (.sl (.pair .i (.pair .i (.pair .i (.pair .str .i))))) (.pair (.sl (.pair .i (.pair .i (.pair .i (.pair .str .i))))) (.sl .str)))))))))), (false, .i), (false, .i), (false, (.sl .i))] [(false, .bool)] lf x
noncomputable def C144 (P : Program) (lf : Nat) : FuncId → Option Con := extC (C63 P lf) 144 (dataCon [(true, (.pair .str (.pair (.sl (.pair .str (.pair .i .i))) (.sl (.pair .str (.pair .i (.pair .i (.pair (.sl (.pair .i (.pair .i (.pair .i (.pair .str .i))))) (.pair (.sl (.pair .i (.pair .i (.pair .i (.pair .str .i))))) (.sl .str)))))))))), (false, .i), (false, .i), (false, (.sl .i))] [(false, .bool)] (F144 P lf))
def S60 : FuncId → Sp := fun g => match g with
  | 60 => { loops := [(10, [(.slot 37, .dat .i)]), (7, [(.slot 28, .dat .i)])] }
  | 128 => { nz := [(11, [12])] }
  | _ => {}
noncomputable def F60 (P : Program) (lf : Nat) (x : tt [(true, (.pair .str (.pair (.sl (.pair .str (.pair .i .i))) (.sl (.pair .str (.pair .i (.pair .i (.pair (.sl (.pair .i (.pair .i (.pair .i (.pair .str .i))))) (.pair (.sl (.pair .i (.pair .i (.pair .i (.pair .str .i))))) (.sl .str)))))))))), (false, .i)]) : Option (tt [(true, (.pair .i (.sl .i))), (false, .i)]) := fnF P (C144 P lf) S60 60 [(true, (.pair .str (.pair (.sl (.pair .str (.pair .i .i))) (.sl (.pair .str (.pair .i (.pair .i (.pair (.sl (.pair .i (.pair .i (.pair .i (.pair .str .i))))) (.pair (.sl (.pair .i (.pair .i (.pair .i (.pair .str .i))))) (.sl .str)))))))))), (false, .i)] [(true, (.pair .i (.sl .i))), (false, .i)] lf x
noncomputable def C60 (P : Program) (lf : Nat) : FuncId → Option Con := extC (C144 P lf) 60 (dataCon [(true, (.pair .str (.pair (.sl (.pair .str (.pair .i .i))) (.sl (.pair .str (.pair .i (.pair .i (.pair (.sl (.pair .i (.pair .i (.pair .i (.pair .str .i))))) (.pair (.sl (.pair .i (.pair .i (.pair .i (.pair .str .i))))) (.sl .str)))))))))), (false, .i)] [(true, (.pair .i (.sl .i))), (false, .i)] (F60 P lf))
def S59 : FuncId → Sp := fun g => match g with
  | 59 => { loops := [(6, [(.slot 5, .own .i 3), (.slot 17, .dat .i)])] }
  | 128 => { nz := [(11, [12])] }
  | _ => {}
noncomputable def F59 (P : Program) (lf : Nat) (x : tt [(true, (.pair .str (.pair (.sl (.pair .str (.pair .i .i))) (.sl (.pair .str (.pair .i (.pair .i (.pair (.sl (.pair .i (.pair .i (.pair .i (.pair .str .i))))) (.pair (.sl (.pair .i (.pair .i (.pair .i (.pair .str .i))))) (.sl .str))))))))))]) : Option (tt [(false, (.sl .i)), (false, .i)]) := fnF P (C60 P lf) S59 59 [(true, (.pair .str (.pair (.sl (.pair .str (.pair .i .i))) (.sl (.pair .str (.pair .i (.pair .i (.pair (.sl (.pair .i (.pair .i (.pair .i (.pair .str .i))))) (.pair (.sl (.pair .i (.pair .i (.pair .i (.pair .str .i))))) (.sl .str))))))))))] [(false, (.sl .i)), (false, .i)] lf x
noncomputable def C59 (P : Program) (lf : Nat) : FuncId → Option Con := extC (C60 P lf) 59 (dataCon [(true, (.pair .str (.pair (.sl (.pair .str (.pair .i .i))) (.sl (.pair .str (.pair .i (.pair .i (.pair (.sl (.pair .i (.pair .i (.pair .i (.pair .str .i))))) (.pair (.sl (.pair .i (.pair .i (.pair .i (.pair .str .i))))) (.sl .str))))))))))] [(false, (.sl .i)), (false, .i)] (F59 P lf))
def S64 : FuncId → Sp := fun g => match g with
  | 64 => { joins := [(7, [(.slot 40, .dat .bool)])] }
  | 128 => { nz := [(11, [12])] }
  | _ => {}
noncomputable def F64 (P : Program) (lf : Nat) (x : tt [(true, (.pair .str (.pair (.sl (.pair .str (.pair .i .i))) (.sl (.pair .str (.pair .i (.pair .i (.pair (.sl (.pair .i (.pair .i (.pair .i (.pair .str .i))))) (.pair (.sl (.pair .i (.pair .i (.pair .i (.pair .str .i))))) (.sl .str)))))))))), (false, .i), (true, (.pair .i (.sl .i)))]) : Option (tt [(false, .i)]) := fnF P (C59 P lf) S64 64 [(true, (.pair .str (.pair (.sl (.pair .str (.pair .i .i))) (.sl (.pair .str (.pair .i (.pair .i (.pair (.sl (.pair .i (.pair .i (.pair .i (.pair .str .i))))) (.pair (.sl (.pair .i (.pair .i (.pair .i (.pair .str .i))))) (.sl .str)))))))))), (false, .i), (true, (.pair .i (.sl .i)))] [(false, .i)] lf x
noncomputable def C64 (P : Program) (lf : Nat) : FuncId → Option Con := extC (C59 P lf) 64 (dataCon [(true, (.pair .str (.pair (.sl (.pair .str (.pair .i .i))) (.sl (.pair .str (.pair .i (.pair .i (.pair (.sl (.pair .i (.pair .i (.pair .i (.pair .str .i))))) (.pair (.sl (.pair .i (.pair .i (.pair .i (.pair .str .i))))) (.sl .str)))))))))), (false, .i), (true, (.pair .i (.sl .i)))] [(false, .i)] (F64 P lf))
def S74 : FuncId → Sp := fun g => match g with
  | 74 => { loops := [(8, [(.slot 7, .own .i 3), (.slot 21, .dat .i)])] }
  | 128 => { nz := [(11, [12])] }
  | _ => {}
noncomputable def F74 (P : Program) (lf : Nat) (x : tt [(true, (.pair .str (.pair (.sl (.pair .str (.pair .i .i))) (.sl (.pair .str (.pair .i (.pair .i (.pair (.sl (.pair .i (.pair .i (.pair .i (.pair .str .i))))) (.pair (.sl (.pair .i (.pair .i (.pair .i (.pair .str .i))))) (.sl .str)))))))))), (false, .i)]) : Option (tt [(false, (.sl .i)), (false, .i)]) := fnF P (C64 P lf) S74 74 [(true, (.pair .str (.pair (.sl (.pair .str (.pair .i .i))) (.sl (.pair .str (.pair .i (.pair .i (.pair (.sl (.pair .i (.pair .i (.pair .i (.pair .str .i))))) (.pair (.sl (.pair .i (.pair .i (.pair .i (.pair .str .i))))) (.sl .str)))))))))), (false, .i)] [(false, (.sl .i)), (false, .i)] lf x
noncomputable def C74 (P : Program) (lf : Nat) : FuncId → Option Con := extC (C64 P lf) 74 (dataCon [(true, (.pair .str (.pair (.sl (.pair .str (.pair .i .i))) (.sl (.pair .str (.pair .i (.pair .i (.pair (.sl (.pair .i (.pair .i (.pair .i (.pair .str .i))))) (.pair (.sl (.pair .i (.pair .i (.pair .i (.pair .str .i))))) (.sl .str)))))))))), (false, .i)] [(false, (.sl .i)), (false, .i)] (F74 P lf))
def S75 : FuncId → Sp := fun g => match g with
  | 128 => { nz := [(11, [12])] }
  | _ => {}
noncomputable def F75 (P : Program) (lf : Nat) (x : tt [(true, (.pair .str (.pair (.sl (.pair .str (.pair .i .i))) (.sl (.pair .str (.pair .i (.pair .i (.pair (.sl (.pair .i (.pair .i (.pair .i (.pair .str .i))))) (.pair (.sl (.pair .i (.pair .i (.pair .i (.pair .str .i))))) (.sl .str))))))))))]) : Option (tt [(false, (.sl .i)), (false, .i)]) := fnF P (C74 P lf) S75 75 [(true, (.pair .str (.pair (.sl (.pair .str (.pair .i .i))) (.sl (.pair .str (.pair .i (.pair .i (.pair (.sl (.pair .i (.pair .i (.pair .i (.pair .str .i))))) (.pair (.sl (.pair .i (.pair .i (.pair .i (.pair .str .i))))) (.sl .str))))))))))] [(false, (.sl .i)), (false, .i)] lf x
noncomputable def C75 (P : Program) (lf : Nat) : FuncId → Option Con := extC (C74 P lf) 75 (dataCon [(true, (.pair .str (.pair (.sl (.pair .str (.pair .i .i))) (.sl (.pair .str (.pair .i (.pair .i (.pair (.sl (.pair .i (.pair .i (.pair .i (.pair .str .i))))) (.pair (.sl (.pair .i (.pair .i (.pair .i (.pair .str .i))))) (.sl .str))))))))))] [(false, (.sl .i)), (false, .i)] (F75 P lf))
def S76 : FuncId → Sp := fun g => match g with
  | 128 => { nz := [(11, [12])] }
  | _ => {}
noncomputable def F76 (P : Program) (lf : Nat) (x : tt [(true, (.pair .str (.pair (.sl (.pair .str (.pair .i .i))) (.sl (.pair .str (.pair .i (.pair .i (.pair (.sl (.pair .i (.pair .i (.pair .i (.pair .str .i))))) (.pair (.sl (.pair .i (.pair .i (.pair .i (.pair .str .i))))) (.sl .str))))))))))]) : Option (tt [(false, (.sl (.sl .i))), (false, .i)]) := fnF P (C75 P lf) S76 76 [(true, (.pair .str (.pair (.sl (.pair .str (.pair .i .i))) (.sl (.pair .str (.pair .i (.pair .i (.pair (.sl (.pair .i (.pair .i (.pair .i (.pair .str .i))))) (.pair (.sl (.pair .i (.pair .i (.pair .i (.pair .str .i))))) (.sl .str))))))))))] [(false, (.sl (.sl .i))), (false, .i)] lf x
noncomputable def C76 (P : Program) (lf : Nat) : FuncId → Option Con := extC (C75 P lf) 76 (dataCon [(true, (.pair .str (.pair (.sl (.pair .str (.pair .i .i))) (.sl (.pair .str (.pair .i (.pair .i (.pair (.sl (.pair .i (.pair .i (.pair .i (.pair .str .i))))) (.pair (.sl (.pair .i (.pair .i (.pair .i (.pair .str .i))))) (.sl .str))))))))))] [(false, (.sl (.sl .i))), (false, .i)] (F76 P lf))
end Go.K
set_option linter.unusedVariables false
set_option maxRecDepth 100000
set_option maxHeartbeats 0
namespace Go.K
open Go.Sl Go.Sx Go.Proofs
def S65 : FuncId → Sp := fun g => match g with
  | 209 => { joins := [(12, [(.slot 7, .dat .i), (.slot 3, .own .i 3)])], loops := [(9, [(.slot 7, .dat .i), (.slot 3, .own .i 3)]), (3, [(.slot 4, .own .i 3), (.slot 13, .dat .i)]), (1, [(.slot 3, .own .i 3), (.cell 0 0 [1], .own .bool 4)])] }
  | 65 => { joins := [(7, [(.slot 40, .dat .bool)])], loops := [(4, [(.slot 18, .dat .i)])] }
  | 128 => { nz := [(11, [12])] }
  | _ => {}
noncomputable def F65 (P : Program) (lf : Nat) (x : tt [(false, (.sl (.pair .str (.pair .i .i)))), (true, (.sl (.pair .i (.pair .i (.pair .i (.pair .str .i))))))]) : Option (tt [(false, .i), (false, .i)]) := fnF P (C76 P lf) S65 65 [(false, (.sl (.pair .str (.pair .i .i)))), (true, (.sl (.pair .i (.pair .i (.pair .i (.pair .str .i))))))] [(false, .i), (false, .i)] lf x
noncomputable def C65 (P : Program) (lf : Nat) : FuncId → Option Con := extC (C76 P lf) 65 (dataCon [(false, (.sl (.pair .str (.pair .i .i)))), (true, (.sl (.pair .i (.pair .i (.pair .i (.pair .str .i))))))] [(false, .i), (false, .i)] (F65 P lf))
def S67 : FuncId → Sp := fun g => match g with
  | 209 => { joins := [(12, [(.slot 7, .dat .i), (.slot 3, .own .i 3)])], loops := [(9, [(.slot 7, .dat .i), (.slot 3, .own .i 3)]), (3, [(.slot 4, .own .i 3), (.slot 13, .dat .i)]), (1, [(.slot 3, .own .i 3), (.cell 0 0 [3, 1], .own .bool 4)])] }
  | 175 => { fz := [(4, [(.slot 6, .dat (.sl .i))])] }
  | 67 => { joins := [(2, [(.slot 10, .dat .i)])] }
  | 128 => { nz := [(11, [12])] }
  | _ => {}
noncomputable def F67 (P : Program) (lf : Nat) (x : tt [(true, (.pair .str (.pair (.sl (.pair .str (.pair .i .i))) (.sl (.pair .str (.pair .i (.pair .i (.pair (.sl (.pair .i (.pair .i (.pair .i (.pair .str .i))))) (.pair (.sl (.pair .i (.pair .i (.pair .i (.pair .str .i))))) (.sl .str)))))))))), (false, .i), (false, .i), (false, (.sl (.pair .str (.pair .i .i))))]) : Option (tt [(false, .i), (false, .i)]) := fnF P (C65 P lf) S67 67 [(true, (.pair .str (.pair (.sl (.pair .str (.pair .i .i))) (.sl (.pair .str (.pair .i (.pair .i (.pair (.sl (.pair .i (.pair .i (.pair .i (.pair .str .i))))) (.pair (.sl (.pair .i (.pair .i (.pair .i (.pair .str .i))))) (.sl .str)))))))))), (false, .i), (false, .i), (false, (.sl (.pair .str (.pair .i .i))))] [(false, .i), (false, .i)] lf x
noncomputable def C67 (P : Program) (lf : Nat) : FuncId → Option Con := extC (C65 P lf) 67 (dataCon [(true, (.pair .str (.pair (.sl (.pair .str (.pair .i .i))) (.sl (.pair .str (.pair .i (.pair .i (.pair (.sl (.pair .i (.pair .i (.pair .i (.pair .str .i))))) (.pair (.sl (.pair .i (.pair .i (.pair .i (.pair .str .i))))) (.sl .str)))))))))), (false, .i), (false, .i), (false, (.sl (.pair .str (.pair .i .i))))] [(false, .i), (false, .i)] (F67 P lf))
def S78 : FuncId → Sp := fun g => match g with
  | 78 => { joins := [(2, [(.slot 8, .dat .i)])], loops := [(9, [(.slot 10, .own .str 9), (.slot 29, .dat .i)])] }
  | 128 => { nz := [(11, [12])] }
  | _ => {}
noncomputable def F78 (P : Program) (lf : Nat) (x : tt [(true, (.pair .str (.pair (.sl (.pair .str (.pair .i .i))) (.sl (.pair .str (.pair .i (.pair .i (.pair (.sl (.pair .i (.pair .i (.pair .i (.pair .str .i))))) (.pair (.sl (.pair .i (.pair .i (.pair .i (.pair .str .i))))) (.sl .str)))))))))), (false, .i), (false, (.sl (.pair .str (.pair .i .i))))]) : Option (tt [(false, (.sl .str)), (false, .i)]) := fnF P (C67 P lf) S78 78 [(true, (.pair .str (.pair (.sl (.pair .str (.pair .i .i))) (.sl (.pair .str (.pair .i (.pair .i (.pair (.sl (.pair .i (.pair .i (.pair .i (.pair .str .i))))) (.pair (.sl (.pair .i (.pair .i (.pair .i (.pair .str .i))))) (.sl .str)))))))))), (false, .i), (false, (.sl (.pair .str (.pair .i .i))))] [(false, (.sl .str)), (false, .i)] lf x
noncomputable def C78 (P : Program) (lf : Nat) : FuncId → Option Con := extC (C67 P lf) 78 (dataCon [(true, (.pair .str (.pair (.sl (.pair .str (.pair .i .i))) (.sl (.pair .str (.pair .i (.pair .i (.pair (.sl (.pair .i (.pair .i (.pair .i (.pair .str .i))))) (.pair (.sl (.pair .i (.pair .i (.pair .i (.pair .str .i))))) (.sl .str)))))))))), (false, .i), (false, (.sl (.pair .str (.pair .i .i))))] [(false, (.sl .str)), (false, .i)] (F78 P lf))
def S80 : FuncId → Sp := fun g => match g with
  | 80 => { joins := [(19, [(.slot 82, .dat .bool)]), (15, [(.cell 16 1, .dat .i)]), (2, [(.slot 10, .dat .i)])], loops := [(10, [(.slot 12, .own (.pair .i .i) 46), (.slot 39, .dat .i)])] }
  | 128 => { nz := [(11, [12])] }
  | _ => {}
noncomputable def F80 (P : Program) (lf : Nat) (x : tt [(true, (.pair .str (.pair (.sl (.pair .str (.pair .i .i))) (.sl (.pair .str (.pair .i (.pair .i (.pair (.sl (.pair .i (.pair .i (.pair .i (.pair .str .i))))) (.pair (.sl (.pair .i (.pair .i (.pair .i (.pair .str .i))))) (.sl .str)))))))))), (false, .i), (false, (.sl (.pair .str (.pair .i .i)))), (false, .str)]) : Option (tt [(false, (.sl (.pair .i .i))), (false, .i)]) := fnF P (C78 P lf) S80 80 [(true, (.pair .str (.pair (.sl (.pair .str (.pair .i .i))) (.sl (.pair .str (.pair .i (.pair .i (.pair (.sl (.pair .i (.pair .i (.pair .i (.pair .str .i))))) (.pair (.sl (.pair .i (.pair .i (.pair .i (.pair .str .i))))) (.sl .str)))))))))), (false, .i), (false, (.sl (.pair .str (.pair .i .i)))), (false, .str)] [(false, (.sl (.pair .i .i))), (false, .i)] lf x
noncomputable def C80 (P : Program) (lf : Nat) : FuncId → Option Con := extC (C78 P lf) 80 (dataCon [(true, (.pair .str (.pair (.sl (.pair .str (.pair .i .i))) (.sl (.pair .str (.pair .i (.pair .i (.pair (.sl (.pair .i (.pair .i (.pair .i (.pair .str .i))))) (.pair (.sl (.pair .i (.pair .i (.pair .i (.pair .str .i))))) (.sl .str)))))))))), (false, .i), (false, (.sl (.pair .str (.pair .i .i)))), (false, .str)] [(false, (.sl (.pair .i .i))), (false, .i)] (F80 P lf))
def S42 : FuncId → Sp := fun g => match g with
  | 42 => { joins := [(9, [(.slot 82, .dat .bool)]), (5, [(.slot 44, .dat .bool)])] }
  | 128 => { nz := [(11, [12])] }
  | _ => {}
noncomputable def F42 (P : Program) (lf : Nat) (x : tt [(true, (.pair .str (.pair (.sl (.pair .str (.pair .i .i))) (.sl (.pair .str (.pair .i (.pair .i (.pair (.sl (.pair .i (.pair .i (.pair .i (.pair .str .i))))) (.pair (.sl (.pair .i (.pair .i (.pair .i (.pair .str .i))))) (.sl .str)))))))))), (true, (.pair .i (.pair .i (.pair .i (.sl .i)))))]) : Option (tt [(false, .i)]) := fnF P (C80 P lf) S42 42 [(true, (.pair .str (.pair (.sl (.pair .str (.pair .i .i))) (.sl (.pair .str (.pair .i (.pair .i (.pair (.sl (.pair .i (.pair .i (.pair .i (.pair .str .i))))) (.pair (.sl (.pair .i (.pair .i (.pair .i (.pair .str .i))))) (.sl .str)))))))))), (true, (.pair .i (.pair .i (.pair .i (.sl .i)))))] [(false, .i)] lf x
noncomputable def C42 (P : Program) (lf : Nat) : FuncId → Option Con := extC (C80 P lf) 42 (dataCon [(true, (.pair .str (.pair (.sl (.pair .str (.pair .i .i))) (.sl (.pair .str (.pair .i (.pair .i (.pair (.sl (.pair .i (.pair .i (.pair .i (.pair .str .i))))) (.pair (.sl (.pair .i (.pair .i (.pair .i (.pair .str .i))))) (.sl .str)))))))))), (true, (.pair .i (.pair .i (.pair .i (.sl .i)))))] [(false, .i)] (F42 P lf))
def S46 : FuncId → Sp := fun g => match g with
  | 46 => { loops := [(6, [(.slot 5, .own .i 3), (.slot 17, .dat .i)])] }
  | 128 => { nz := [(11, [12])] }
  | _ => {}
noncomputable def F46 (P : Program) (lf : Nat) (x : tt [(true, (.pair .str (.pair (.sl (.pair .str (.pair .i .i))) (.sl (.pair .str (.pair .i (.pair .i (.pair (.sl (.pair .i (.pair .i (.pair .i (.pair .str .i))))) (.pair (.sl (.pair .i (.pair .i (.pair .i (.pair .str .i))))) (.sl .str))))))))))]) : Option (tt [(false, (.sl .i)), (false, .i)]) := fnF P (C42 P lf) S46 46 [(true, (.pair .str (.pair (.sl (.pair .str (.pair .i .i))) (.sl (.pair .str (.pair .i (.pair .i (.pair (.sl (.pair .i (.pair .i (.pair .i (.pair .str .i))))) (.pair (.sl (.pair .i (.pair .i (.pair .i (.pair .str .i))))) (.sl .str))))))))))] [(false, (.sl .i)), (false, .i)] lf x
noncomputable def C46 (P : Program) (lf : Nat) : FuncId → Option Con := extC (C42 P lf) 46 (dataCon [(true, (.pair .str (.pair (.sl (.pair .str (.pair .i .i))) (.sl (.pair .str (.pair .i (.pair .i (.pair (.sl (.pair .i (.pair .i (.pair .i (.pair .str .i))))) (.pair (.sl (.pair .i (.pair .i (.pair .i (.pair .str .i))))) (.sl .str))))))))))] [(false, (.sl .i)), (false, .i)] (F46 P lf))
def S48 : FuncId → Sp := fun g => match g with
  | 48 => { joins := [(5, [(.slot 36, .dat .bool)]), (2, [(.slot 7, .dat .i)])] }
  | 128 => { nz := [(11, [12])] }
  | _ => {}
noncomputable def F48 (P : Program) (lf : Nat) (x : tt [(true, (.pair .str (.pair (.sl (.pair .str (.pair .i .i))) (.sl (.pair .str (.pair .i (.pair .i (.pair (.sl (.pair .i (.pair .i (.pair .i (.pair .str .i))))) (.pair (.sl (.pair .i (.pair .i (.pair .i (.pair .str .i))))) (.sl .str)))))))))), (false, .i), (true, (.pair .i (.sl .i)))]) : Option (tt [(false, .i)]) := fnF P (C46 P lf) S48 48 [(true, (.pair .str (.pair (.sl (.pair .str (.pair .i .i))) (.sl (.pair .str (.pair .i (.pair .i (.pair (.sl (.pair .i (.pair .i (.pair .i (.pair .str .i))))) (.pair (.sl (.pair .i (.pair .i (.pair .i (.pair .str .i))))) (.sl .str)))))))))), (false, .i), (true, (.pair .i (.sl .i)))] [(false, .i)] lf x
noncomputable def C48 (P : Program) (lf : Nat) : FuncId → Option Con := extC (C46 P lf) 48 (dataCon [(true, (.pair .str (.pair (.sl (.pair .str (.pair .i .i))) (.sl (.pair .str (.pair .i (.pair .i (.pair (.sl (.pair .i (.pair .i (.pair .i (.pair .str .i))))) (.pair (.sl (.pair .i (.pair .i (.pair .i (.pair .str .i))))) (.sl .str)))))))))), (false, .i), (true, (.pair .i (.sl .i)))] [(false, .i)] (F48 P lf))
def S44 : FuncId → Sp := fun g => match g with
  | 128 => { nz := [(11, [12])] }
  | _ => {}
noncomputable def F44 (P : Program) (lf : Nat) (x : tt [(true, (.pair .str (.pair (.sl (.pair .str (.pair .i .i))) (.sl (.pair .str (.pair .i (.pair .i (.pair (.sl (.pair .i (.pair .i (.pair .i (.pair .str .i))))) (.pair (.sl (.pair .i (.pair .i (.pair .i (.pair .str .i))))) (.sl .str))))))))))]) : Option (tt [(false, (.sl .i)), (false, .i)]) := fnF P (C48 P lf) S44 44 [(true, (.pair .str (.pair (.sl (.pair .str (.pair .i .i))) (.sl (.pair .str (.pair .i (.pair .i (.pair (.sl (.pair .i (.pair .i (.pair .i (.pair .str .i))))) (.pair (.sl (.pair .i (.pair .i (.pair .i (.pair .str .i))))) (.sl .str))))))))))] [(false, (.sl .i)), (false, .i)] lf x
noncomputable def C44 (P : Program) (lf : Nat) : FuncId → Option Con := extC (C48 P lf) 44 (dataCon [(true, (.pair .str (.pair (.sl (.pair .str (.pair .i .i))) (.sl (.pair .str (.pair .i (.pair .i (.pair (.sl (.pair .i (.pair .i (.pair .i (.pair .str .i))))) (.pair (.sl (.pair .i (.pair .i (.pair .i (.pair .str .i))))) (.sl .str))))))))))] [(false, (.sl .i)), (false, .i)] (F44 P lf))
def S55 : FuncId → Sp := fun g => match g with
  | 128 => { nz := [(11, [12])] }
  | _ => {}
noncomputable def F55 (P : Program) (lf : Nat) (x : tt [(true, (.pair .str (.pair (.sl (.pair .str (.pair .i .i))) (.sl (.pair .str (.pair .i (.pair .i (.pair (.sl (.pair .i (.pair .i (.pair .i (.pair .str .i))))) (.pair (.sl (.pair .i (.pair .i (.pair .i (.pair .str .i))))) (.sl .str))))))))))]) : Option (tt [(false, (.sl (.sl .i))), (false, .i)]) := fnF P (C44 P lf) S55 55 [(true, (.pair .str (.pair (.sl (.pair .str (.pair .i .i))) (.sl (.pair .str (.pair .i (.pair .i (.pair (.sl (.pair .i (.pair .i (.pair .i (.pair .str .i))))) (.pair (.sl (.pair .i (.pair .i (.pair .i (.pair .str .i))))) (.sl .str))))))))))] [(false, (.sl (.sl .i))), (false, .i)] lf x
noncomputable def C55 (P : Program) (lf : Nat) : FuncId → Option Con := extC (C44 P lf) 55 (dataCon [(true, (.pair .str (.pair (.sl (.pair .str (.pair .i .i))) (.sl (.pair .str (.pair .i (.pair .i (.pair (.sl (.pair .i (.pair .i (.pair .i (.pair .str .i))))) (.pair (.sl (.pair .i (.pair .i (.pair .i (.pair .str .i))))) (.sl .str))))))))))] [(false, (.sl (.sl .i))), (false, .i)] (F55 P lf))
def S73 : FuncId → Sp := fun g => match g with
  | 73 => { joins := [(2, [(.slot 6, .dat .i)])], loops := [(6, [(.slot 7, .own .i 3), (.slot 19, .dat .i)])] }
  | 128 => { nz := [(11, [12])] }
  | _ => {}
noncomputable def F73 (P : Program) (lf : Nat) (x : tt [(true, (.pair .str (.pair (.sl (.pair .str (.pair .i .i))) (.sl (.pair .str (.pair .i (.pair .i (.pair (.sl (.pair .i (.pair .i (.pair .i (.pair .str .i))))) (.pair (.sl (.pair .i (.pair .i (.pair .i (.pair .str .i))))) (.sl .str)))))))))), (false, .i)]) : Option (tt [(false, (.sl .i)), (false, .i)]) := fnF P (C55 P lf) S73 73 [(true, (.pair .str (.pair (.sl (.pair .str (.pair .i .i))) (.sl (.pair .str (.pair .i (.pair .i (.pair (.sl (.pair .i (.pair .i (.pair .i (.pair .str .i))))) (.pair (.sl (.pair .i (.pair .i (.pair .i (.pair .str .i))))) (.sl .str)))))))))), (false, .i)] [(false, (.sl .i)), (false, .i)] lf x
noncomputable def C73 (P : Program) (lf : Nat) : FuncId → Option Con := extC (C55 P lf) 73 (dataCon [(true, (.pair .str (.pair (.sl (.pair .str (.pair .i .i))) (.sl (.pair .str (.pair .i (.pair .i (.pair (.sl (.pair .i (.pair .i (.pair .i (.pair .str .i))))) (.pair (.sl (.pair .i (.pair .i (.pair .i (.pair .str .i))))) (.sl .str)))))))))), (false, .i)] [(false, (.sl .i)), (false, .i)] (F73 P lf))
def S4 : FuncId → Sp := fun g => match g with
  | 4 => { joins := [(15, [(.slot 110, .dat .bool)]), (10, [(.slot 84, .dat .bool)])], loops := [(22, [(.slot 128, .dat .i)]), (12, [(.slot 88, .dat .i)])] }
  | 128 => { nz := [(11, [12])] }
  | _ => {}
noncomputable def F4 (P : Program) (lf : Nat) (x : tt [(true, (.pair .str (.pair (.sl (.pair .str (.pair .i .i))) (.sl (.pair .str (.pair .i (.pair .i (.pair (.sl (.pair .i (.pair .i (.pair .i (.pair .str .i))))) (.pair (.sl (.pair .i (.pair .i (.pair .i (.pair .str .i))))) (.sl .str)))))))))), (true, (.pair .i (.pair .i (.pair (.sl (.pair .str (.pair .i .i))) .str))))]) : Option (tt [(false, .bool)]) := fnF P (C73 P lf) S4 4 [(true, (.pair .str (.pair (.sl (.pair .str (.pair .i .i))) (.sl (.pair .str (.pair .i (.pair .i (.pair (.sl (.pair .i (.pair .i (.pair .i (.pair .str .i))))) (.pair (.sl (.pair .i (.pair .i (.pair .i (.pair .str .i))))) (.sl .str)))))))))), (true, (.pair .i (.pair .i (.pair (.sl (.pair .str (.pair .i .i))) .str))))] [(false, .bool)] lf x
noncomputable def C4 (P : Program) (lf : Nat) : FuncId → Option Con := extC (C73 P lf) 4 (dataCon [(true, (.pair .str (.pair (.sl (.pair .str (.pair .i .i))) (.sl (.pair .str (.pair .i (.pair .i (.pair (.sl (.pair .i (.pair .i (.pair .i (.pair .str .i))))) (.pair (.sl (.pair .i (.pair .i (.pair .i (.pair .str .i))))) (.sl .str)))))))))), (true, (.pair .i (.pair .i (.pair (.sl (.pair .str (.pair .i .i))) .str))))] [(false, .bool)] (F4 P lf))
def S9 : FuncId → Sp := fun g => match g with
  | 9 => { joins := [(23, [(.slot 116, .dat .bool)]), (21, [(.slot 83, .dat .bool)])], loops := [(14, [(.slot 12, .dat .bool), (.slot 51, .dat .i)]), (10, [(.slot 46, .dat .i)])] }
  | 128 => { nz := [(11, [12])] }
  | _ => {}
noncomputable def F9 (P : Program) (lf : Nat) (x : tt [(true, (.pair .str (.pair (.sl (.pair .str (.pair .i .i))) (.sl (.pair .str (.pair .i (.pair .i (.pair (.sl (.pair .i (.pair .i (.pair .i (.pair .str .i))))) (.pair (.sl (.pair .i (.pair .i (.pair .i (.pair .str .i))))) (.sl .str)))))))))), (false, .i), (false, (.sl .i))]) : Option (tt [(false, .bool)]) := fnF P (C4 P lf) S9 9 [(true, (.pair .str (.pair (.sl (.pair .str (.pair .i .i))) (.sl (.pair .str (.pair .i (.pair .i (.pair (.sl (.pair .i (.pair .i (.pair .i (.pair .str .i))))) (.pair (.sl (.pair .i (.pair .i (.pair .i (.pair .str .i))))) (.sl .str)))))))))), (false, .i), (false, (.sl .i))] [(false, .bool)] lf x
noncomputable def C9 (P : Program) (lf : Nat) : FuncId → Option Con := extC (C4 P lf) 9 (dataCon [(true, (.pair .str (.pair (.sl (.pair .str (.pair .i .i))) (.sl (.pair .str (.pair .i (.pair .i (.pair (.sl (.pair .i (.pair .i (.pair .i (.pair .str .i))))) (.pair (.sl (.pair .i (.pair .i (.pair .i (.pair .str .i))))) (.sl .str)))))))))), (false, .i), (false, (.sl .i))] [(false, .bool)] (F9 P lf))
def S15 : FuncId → Sp := fun g => match g with
  | 128 => { nz := [(11, [12])] }
  | _ => {}
noncomputable def F15 (P : Program) (lf : Nat) (x : tt [(true, (.pair .str (.pair (.sl (.pair .str (.pair .i .i))) (.sl (.pair .str (.pair .i (.pair .i (.pair (.sl (.pair .i (.pair .i (.pair .i (.pair .str .i))))) (.pair (.sl (.pair .i (.pair .i (.pair .i (.pair .str .i))))) (.sl .str)))))))))), (true, (.pair .i (.pair .i (.pair (.sl (.pair .str (.pair .i .i))) .str))))]) : Option (tt [(false, .bool)]) := fnF P (C9 P lf) S15 15 [(true, (.pair .str (.pair (.sl (.pair .str (.pair .i .i))) (.sl (.pair .str (.pair .i (.pair .i (.pair (.sl (.pair .i (.pair .i (.pair .i (.pair .str .i))))) (.pair (.sl (.pair .i (.pair .i (.pair .i (.pair .str .i))))) (.sl .str)))))))))), (true, (.pair .i (.pair .i (.pair (.sl (.pair .str (.pair .i .i))) .str))))] [(false, .bool)] lf x
noncomputable def C15 (P : Program) (lf : Nat) : FuncId → Option Con := extC (C9 P lf) 15 (dataCon [(true, (.pair .str (.pair (.sl (.pair .str (.pair .i .i))) (.sl (.pair .str (.pair .i (.pair .i (.pair (.sl (.pair .i (.pair .i (.pair .i (.pair .str .i))))) (.pair (.sl (.pair .i (.pair .i (.pair .i (.pair .str .i))))) (.sl .str)))))))))), (true, (.pair .i (.pair .i (.pair (.sl (.pair .str (.pair .i .i))) .str))))] [(false, .bool)] (F15 P lf))
def S12 : FuncId → Sp := fun g => match g with
  | 12 => { joins := [(8, [(.slot 92, .dat .bool)])] }
  | 128 => { nz := [(11, [12])] }
  | _ => {}
noncomputable def F12 (P : Program) (lf : Nat) (x : tt [(true, (.pair .str (.pair (.sl (.pair .str (.pair .i .i))) (.sl (.pair .str (.pair .i (.pair .i (.pair (.sl (.pair .i (.pair .i (.pair .i (.pair .str .i))))) (.pair (.sl (.pair .i (.pair .i (.pair .i (.pair .str .i))))) (.sl .str)))))))))), (true, (.pair .i (.pair .i (.pair .i (.sl .i))))), (true, (.pair .i (.sl .i)))]) : Option (tt [(false, .bool)]) := fnF P (C15 P lf) S12 12 [(true, (.pair .str (.pair (.sl (.pair .str (.pair .i .i))) (.sl (.pair .str (.pair .i (.pair .i (.pair (.sl (.pair .i (.pair .i (.pair .i (.pair .str .i))))) (.pair (.sl (.pair .i (.pair .i (.pair .i (.pair .str .i))))) (.sl .str)))))))))), (true, (.pair .i (.pair .i (.pair .i (.sl .i))))), (true, (.pair .i (.sl .i)))] [(false, .bool)] lf x
noncomputable def C12 (P : Program) (lf : Nat) : FuncId → Option Con := extC (C15 P lf) 12 (dataCon [(true, (.pair .str (.pair (.sl (.pair .str (.pair .i .i))) (.sl (.pair .str (.pair .i (.pair .i (.pair (.sl (.pair .i (.pair .i (.pair .i (.pair .str .i))))) (.pair (.sl (.pair .i (.pair .i (.pair .i (.pair .str .i))))) (.sl .str)))))))))), (true, (.pair .i (.pair .i (.pair .i (.sl .i))))), (true, (.pair .i (.sl .i)))] [(false, .bool)] (F12 P lf))
end Go.K
set_option linter.unusedVariables false
set_option maxRecDepth 100000
set_option maxHeartbeats 0
namespace Go.K
open Go.Sl Go.Sx Go.Proofs
abbrev AO7 : List AT := [(true, (.pair .str (.pair (.sl (.pair .str (.pair .i .i))) (.sl (.pair .str (.pair .i (.pair .i (.pair (.sl (.pair .i (.pair .i (.pair .i (.pair .str .i))))) (.pair (.sl (.pair .i (.pair .i (.pair .i (.pair .str .i))))) (.sl .str)))))))))), (true, (.pair .i (.pair .i .i))), (false, (.sl .i))]
abbrev RO7 : List AT := [(false, .bool)]
def S7 : FuncId → Sp := fun g => match g with
  | 7 => { joins := [(23, [(.slot 102, .dat .bool)])], loops := [(20, [(.slot 15, .dat .bool), (.slot 89, .dat .i)]), (9, [(.slot 52, .dat .i)])] }
  | 128 => { nz := [(11, [12])] }
  | _ => {}
noncomputable def F7 (P : Program) (lf : Nat) (x : tt AO7) : Option (tt RO7) := fnF P (C12 P lf) S7 7 AO7 RO7 lf x
noncomputable def C7 (P : Program) (lf : Nat) : FuncId → Option Con := extC (C12 P lf) 7 (dataCon AO7 RO7 (F7 P lf))
abbrev AO16 : List AT := [(true, (.pair .str (.pair (.sl (.pair .str (.pair .i .i))) (.sl (.pair .str (.pair .i (.pair .i (.pair (.sl (.pair .i (.pair .i (.pair .i (.pair .str .i))))) (.pair (.sl (.pair .i (.pair .i (.pair .i (.pair .str .i))))) (.sl .str)))))))))), (true, (.pair .i (.pair .i (.pair (.sl (.pair .str (.pair .i .i))) .str)))), (true, (.pair .i .i))]
abbrev RO16 : List AT := [(false, .bool)]
def S16 : FuncId → Sp := fun g => match g with
  | 16 => { joins := [(21, [(.slot 163, .dat .bool)]), (12, [(.slot 114, .dat .bool)]), (6, [(.slot 60, .dat .bool)])], loops := [(18, [(.slot 21, .dat .bool), (.slot 150, .dat .i)])] }
  | 128 => { nz := [(11, [12])] }
  | _ => {}
noncomputable def F16 (P : Program) (lf : Nat) (x : tt AO16) : Option (tt RO16) := fnF P (C7 P lf) S16 16 AO16 RO16 lf x
noncomputable def C16 (P : Program) (lf : Nat) : FuncId → Option Con := extC (C7 P lf) 16 (dataCon AO16 RO16 (F16 P lf))
end Go.K
set_option linter.unusedVariables false
set_option linter.unusedSimpArgs false
set_option maxRecDepth 100000
namespace Go.K
open Go.Sl Go.Sx Go.Proofs
def prodL (l : List (List Int)) : Nat := l.foldr (fun x n => x.length * n) 1
theorem choL_len : ∀ l : List (List Int), (choL l).length = prodL l
  | [] => rfl
  | x :: l => by
    have ih := choL_len l
    show (x.flatMap fun n => (choL l).map (n :: ·)).length = x.length * prodL l
    rw [← ih]
    induction x with
    | nil => simp
    | cons a x ihx => rw [List.flatMap_cons, List.length_append, ihx, List.length_map, List.length_cons, Nat.add_mul]; omega
theorem prod_pos : ∀ {l : List (List Int)}, (∀ x ∈ l, x ≠ []) → 1 ≤ prodL l
  | [], _ => Nat.le_refl _
  | x :: l, h => Nat.mul_pos (List.length_pos_iff.2 (h x (List.mem_cons_self ..))) (prod_pos fun y hy => h y (List.mem_cons_of_mem _ hy))
theorem many_prod : ∀ (l : List (List Int)) (n : Nat), (∀ x ∈ l, x ≠ [] ∧ x.length ≤ 1000000) → 1 ≤ n → n ≤ 4001 →
    l.foldl (fun (n : Int) x => if (4001 : Int) < w64 (n * (x.length : Int)) then 4001 else w64 (n * (x.length : Int))) (n : Int) ≤ 4000 → n * prodL l ≤ 4000
  | [], n, _, _, h2, h => by
    simp only [List.foldl_nil] at h
    simp [prodL]; omega
  | x :: l, n, hl, h1, h2, h => by
    obtain ⟨hx0, hx1⟩ := hl x (List.mem_cons_self ..)
    have hxp := List.length_pos_iff.2 hx0
    have hb : n * x.length ≤ 4001 * 1000000 := Nat.mul_le_mul h2 hx1
    have hp : n ≤ n * x.length := Nat.le_mul_of_pos_right _ hxp
    have he : w64 ((n : Int) * (x.length : Int)) = ((n * x.length : Nat) : Int) := by
      rw [← Int.natCast_mul, w64_in (by omega)]
    rw [List.foldl_cons, he] at h
    have hprod := prod_pos (l := l) fun y hy => (hl y (List.mem_cons_of_mem _ hy)).1
    by_cases hc : 4001 < n * x.length
    · rw [if_pos (by omega)] at h
      have := many_prod l 4001 (fun y hy => hl y (List.mem_cons_of_mem _ hy)) (by omega) (by omega) h
      have : 4001 * 1 ≤ 4001 * prodL l := Nat.mul_le_mul (Nat.le_refl _) hprod
      omega
    · rw [if_neg (by omega)] at h
      have := many_prod l (n * x.length) (fun y hy => hl y (List.mem_cons_of_mem _ hy)) (by omega) (by omega) h
      show n * (x.length * prodL l) ≤ 4000
      rw [← Nat.mul_assoc]; exact this
theorem rise_le : ∀ {l m : List Int}, Rise l → Rise m → (∀ x ∈ l, x ∈ m) → l.length ≤ m.length
  | [], _, _, _, _ => by simp
  | a :: l, [], _, _, h => absurd (h a (List.mem_cons_self ..)) (by simp)
  | a :: l, b :: m, hl, hm, h => by
    obtain ⟨l1, l2⟩ := List.pairwise_cons.1 hl
    obtain ⟨m1, m2⟩ := List.pairwise_cons.1 hm
    by_cases e : a = b
    · subst e
      have := rise_le l2 m2 fun x hx => by
        rcases List.mem_cons.1 (h x (List.mem_cons_of_mem _ hx)) with e | e
        · subst e; exact absurd (l1 x hx) (Int.lt_irrefl _)
        · exact e
      simp only [List.length_cons]; omega
    · have ha : a ∈ m := by
        rcases List.mem_cons.1 (h a (List.mem_cons_self ..)) with e' | e'
        · exact absurd e' e
        · exact e'
      have hb := m1 a ha
      have := rise_le hl m2 fun x hx => by
        rcases List.mem_cons.1 (h x hx) with e' | e'
        · rcases List.mem_cons.1 hx with e2 | e2
          · subst e2; exact ha
          · have := l1 x e2; omega
        · exact e'
      simp only [List.length_cons] at this ⊢; omega
theorem cuts_mem (cs : List Cnd) (x : Fct) : Rise (cutsOf cs x) ∧ ∀ n, n ∈ cutsOf cs x ↔ n = x.2.1 ∨ n ∈ cutN x cs := by
  obtain ⟨h1, h2⟩ := sc_rise (x.2.1 :: cutN x cs)
  exact ⟨h1, fun n => by rw [show cutsOf cs x = compL (sortL (x.2.1 :: cutN x cs)) from rfl, h2, List.mem_cons]⟩
theorem cuts_ne (cs : List Cnd) (x : Fct) : cutsOf cs x ≠ [] := fun e => by
  have := (cuts_mem cs x).2 x.2.1
  rw [e] at this
  simp at this
theorem cutN_mem {x : Fct} {cs : List Cnd} {n : Int} : n ∈ cutN x cs ↔ (∃ c ∈ cs, ∃ t ∈ c, t.2.2.2.1 = x.1 ∧ n ∈ partsL t) ∧ x.2.1 < n ∧ n ≤ x.2.2 := by
  unfold cutN cutT
  simp only [List.mem_flatMap]
  constructor
  · rintro ⟨c, hc, t, ht, hn⟩
    cases hd : decide (t.2.2.2.1 = x.1) with
    | false => rw [hd] at hn; simp at hn
    | true =>
      rw [hd] at hn
      simp only [cond_true, List.mem_filter] at hn
      obtain ⟨h1, h2⟩ := hn
      unfold inS at h2
      simp only [Bool.and_eq_true, decide_eq_true_eq] at h2
      exact ⟨⟨c, hc, t, ht, of_decide_eq_true hd, h1⟩, h2.1, h2.2⟩
  · rintro ⟨⟨c, hc, t, ht, e, h1⟩, h2, h3⟩
    refine ⟨c, hc, t, ht, ?_⟩
    rw [decide_eq_true e]
    simp only [cond_true, List.mem_filter]
    exact ⟨h1, by unfold inS; simp [h2, h3]⟩
theorem cutN_len (x : Fct) (cs : List Cnd) (hc : cs.length ≤ 100) (ht : ∀ c ∈ cs, List.length c ≤ 1000) : (cutN x cs).length ≤ 200000 := by
  have := flat_len (fun c : Cnd => c.flatMap (cutT x)) 2000 cs (fun c hc => by
    have h1 := flat_len (cutT x) 2 c (fun t _ => cutT_len x t)
    have h2 := ht c hc
    omega)
  unfold cutN; omega
theorem compact_le (xs : List Int) : (compL xs).length ≤ xs.length := by
  unfold compL Lib.compact Lib.compactUpTo
  rw [List.length_map]
  exact Nat.le_trans (List.length_filter_le _ _) (by simp)
theorem cuts_len (x : Fct) (cs : List Cnd) (hc : cs.length ≤ 100) (ht : ∀ c ∈ cs, List.length c ≤ 1000) : (cutsOf cs x).length ≤ 200001 := by
  have h1 := compact_le (sortL (x.2.1 :: cutN x cs))
  have h2 := sortL_len (x.2.1 :: cutN x cs)
  have h3 := cutN_len x cs hc ht
  unfold cutsOf
  simp only [List.length_cons] at h2
  omega
theorem cuts_le {cs : List Cnd} {x y : Fct} (h : fitB x y = true) : (cutsOf cs y).length ≤ (cutsOf cs x).length := by
  unfold fitB at h
  simp only [Bool.and_eq_true, decide_eq_true_eq] at h
  obtain ⟨e, h1, h2, h3⟩ := h
  obtain ⟨r1, m1⟩ := cuts_mem cs y
  obtain ⟨r2, m2⟩ := cuts_mem cs x
  -- without the least one
  have tl : ∀ {z : Fct}, ∃ t, cutsOf cs z = z.2.1 :: t ∧ ∀ n, n ∈ t ↔ n ∈ cutN z cs := by
    intro z
    obtain ⟨r, m⟩ := cuts_mem cs z
    cases hz : cutsOf cs z with
    | nil => exact absurd hz (cuts_ne cs z)
    | cons a t =>
      rw [hz] at r m
      obtain ⟨p1, p2⟩ := List.pairwise_cons.1 r
      have hlo : ∀ n, n ∈ cutN z cs → z.2.1 < n := fun n hn => (cutN_mem.1 hn).2.1
      have ha : a = z.2.1 := by
        rcases (m a).1 (List.mem_cons_self ..) with e | e
        · exact e
        · have h1 := hlo a e
          rcases List.mem_cons.1 ((m z.2.1).2 (.inl rfl)) with e' | e'
          · exact e'.symm
          · have := p1 _ e'; omega
      subst ha
      refine ⟨t, rfl, fun n => ⟨fun hn => ?_, fun hn => ?_⟩⟩
      · rcases (m n).1 (List.mem_cons_of_mem _ hn) with e | e
        · subst e; exact absurd (p1 _ hn) (Int.lt_irrefl _)
        · exact e
      · rcases List.mem_cons.1 ((m n).2 (.inr hn)) with e | e
        · subst e; exact absurd (hlo _ hn) (Int.lt_irrefl _)
        · exact e
  obtain ⟨t1, e1, n1⟩ := tl (z := y)
  obtain ⟨t2, e2, n2⟩ := tl (z := x)
  rw [e1] at r1
  rw [e2] at r2
  rw [e1, e2]
  have := rise_le (List.pairwise_cons.1 r1).2 (List.pairwise_cons.1 r2).2 fun n hn => by
    rw [n2, cutN_mem]
    obtain ⟨⟨c, hc, t, ht, e', hp⟩, h4, h5⟩ := cutN_mem.1 ((n1 n).1 hn)
    exact ⟨⟨c, hc, t, ht, by rw [e', e], hp⟩, by omega, by omega⟩
  simp only [List.length_cons]; omega
theorem fit_iff {f g : List Fct} (h : fitS f g = true) : f.length = g.length ∧ ∀ (i : Nat) (x y : Fct), f[i]? = some x → g[i]? = some y → fitB x y = true := by
  unfold fitS at h
  simp only [Bool.and_eq_true, decide_eq_true_eq, List.all_eq_true] at h
  refine ⟨h.1, fun i x y hx hy => h.2 (x, y) (List.mem_of_getElem? (i := i) ?_)⟩
  rw [List.getElem?_zip_eq_some]
  exact ⟨hx, hy⟩
theorem prod_le : ∀ {l m : List (List Int)}, l.length = m.length → (∀ (i : Nat) (x y : List Int), l[i]? = some x → m[i]? = some y → x.length ≤ y.length) → prodL l ≤ prodL m
  | [], [], _, _ => Nat.le_refl _
  | x :: l, y :: m, h, hh => Nat.mul_le_mul (hh 0 x y rfl rfl) (prod_le (by simpa using h) fun i a b ha hb => hh (i + 1) a b (by simpa using ha) (by simpa using hb))
  | [], _ :: _, h, _ => by simp at h
  | _ :: _, [], h, _ => by simp at h
theorem VC.cl {c : Cd} (h : VC c) : (condsL c.2.2).length ≤ 100 := by rw [conds_len]; have := h.ll; omega
theorem VC.cs {c : Cd} (h : VC c) : ∀ x ∈ condsL c.2.2, List.length x ≤ 1000 := conds_short h.rs
theorem starts_ne (f : List Fct) (cs : List Cnd) : ∀ x ∈ startsL f cs, x ≠ [] := by
  intro x hx
  unfold startsL at hx
  obtain ⟨y, _, rfl⟩ := List.mem_map.1 hx
  exact cuts_ne cs y
theorem starts_get {f : List Fct} {cs : List Cnd} {i : Nat} {x : List Int} (h : (startsL f cs)[i]? = some x) : ∃ y, f[i]? = some y ∧ x = cutsOf cs y := by
  unfold startsL at h
  rw [List.getElem?_map] at h
  cases hf : f[i]? with
  | none => rw [hf] at h; cases h
  | some y => rw [hf] at h; cases h; exact ⟨y, rfl, rfl⟩
theorem VC.prod {c : Cd} (h : VC c) : prodL (startsL c.2.1 (condsL c.2.2)) ≤ 4000 := by
  have := many_prod (startsL c.2.1 (condsL c.2.2)) 1 (fun x hx => ⟨starts_ne _ _ x hx, by
    unfold startsL at hx
    obtain ⟨y, _, rfl⟩ := List.mem_map.1 hx
    have := cuts_len y (condsL c.2.2) h.cl h.cs
    omega⟩) (by omega) (by omega) h.mn
  omega
structure VF (c : Cd) (f : List Fct) : Prop where
  ln : f.length = c.2.1.length
  cs : (choL (startsL f (condsL c.2.2))).length ≤ 4000
  fit : ∀ (i : Nat) (x y : Fct), c.2.1[i]? = some x → f[i]? = some y → fitB x y = true
theorem VF.of {c : Cd} (h : VC c) {f : List Fct} (hf : fitS c.2.1 f = true) : VF c f := by
  obtain ⟨h1, h2⟩ := fit_iff hf
  refine ⟨h1.symm, ?_, h2⟩
  rw [choL_len]
  refine Nat.le_trans (prod_le (m := startsL c.2.1 (condsL c.2.2)) (by simp [startsL, h1]) fun i x y hx hy => ?_) h.prod
  obtain ⟨u, hu, rfl⟩ := starts_get hx
  obtain ⟨w, hw, rfl⟩ := starts_get hy
  exact cuts_le (h2 i w u hw hu)
end Go.K
set_option linter.unusedVariables false
set_option linter.unusedSimpArgs false
set_option maxRecDepth 100000
namespace Go.K
open Go.Sl Go.Sx Go.Proofs
theorem VF.prod {c : Cd} {f : List Fct} (h : VF c f) : prodL (startsL f (condsL c.2.2)) ≤ 4000 := by rw [← choL_len]; exact h.cs
end Go.K
namespace Go.K
theorem sane_true : G22 LF () = some true := by kernel_rfl
end Go.K
set_option linter.unusedVariables false
set_option linter.unusedSimpArgs false
set_option maxRecDepth 100000
namespace Go.K
open Go.Sl Go.Sx Go.Proofs
theorem VF.le {c : Cd} {f : List Fct} (h : VF c f) {i : Nat} {x : Fct} (hx : f[i]? = some x) : x.2.1 ≤ x.2.2 := by
  have hi := lt_of_get hx
  have hl := h.ln
  have := h.fit i _ x (List.getElem?_eq_getElem (show i < c.2.1.length by omega)) hx
  unfold fitB at this
  simp only [Bool.and_eq_true, decide_eq_true_eq] at this
  exact this.2.2.1
end Go.K
set_option linter.unusedVariables false
set_option linter.unusedSimpArgs false
set_option maxRecDepth 100000
namespace Go.K
open Go.Sl Go.Sx Go.Proofs
def near1 (l : List Int) (n m : Int) : Prop := m ∈ l ∧ m ≤ n ∧ ∀ k ∈ l, k ≤ n → k ≤ m
def Near (c : Cd) (f : List Fct) (v w : List Int) : Prop := w.length = v.length ∧ ∀ (i : Nat) (x : Fct) (n m : Int), f[i]? = some x → v[i]? = some n → w[i]? = some m → near1 (cutsOf (condsL c.2.2) x) n m
def In (f : List Fct) (v : List Int) : Prop := v.length = f.length ∧ ∀ (i : Nat) (x : Fct) (n : Int), f[i]? = some x → v[i]? = some n → x.2.1 ≤ n ∧ n ≤ x.2.2
theorem cut_side {cs : List Cnd} {x : Fct} {n m : Int} (hx : x.2.1 ≤ n ∧ n ≤ x.2.2) (h : near1 (cutsOf cs x) n m) {cd : Cnd} {t : Tm} (hc : cd ∈ cs) (ht : t ∈ cd) (hn : t.2.2.2.1 = x.1) {k : Int} (hk : k ∈ partsL t) : n < k ↔ m < k := by
  obtain ⟨h1, h2, h3⟩ := h
  have hlo : x.2.1 ≤ m := h3 _ (((cuts_mem cs x).2 _).2 (.inl rfl)) hx.1
  by_cases hk1 : x.2.1 < k
  · by_cases hk2 : k ≤ x.2.2
    · have hmem : k ∈ cutsOf cs x := ((cuts_mem cs x).2 k).2 (.inr (cutN_mem.2 ⟨⟨cd, hc, t, ht, hn, hk⟩, hk1, hk2⟩))
      constructor
      · intro h; omega
      · intro h
        by_cases hkn : k ≤ n
        · have := h3 k hmem hkn; omega
        · omega
    · omega
  · omega
theorem Near.term {c : Cd} (h : VC c) {f : List Fct} (hf : VF c f) {v w : List Int} (hv : In f v) (hw : Near c f v w) {cd : Cnd} (hc : cd ∈ condsL c.2.2) (hcd : condE c.2.1 cd = 0) {i : Nat} {t : Tm} (ht : cd[i]? = some t) (l : List Bool) : tmSo c.2.1 v t l = tmSo c.2.1 w t l := by
  obtain ⟨c1, c2, c3⟩ := cond_short hcd
  have hs := c3 i t ht
  have hkd := term_kd hs
  obtain ⟨hshp, hsh2⟩ := term_ok hs
  have htm := List.mem_of_getElem? ht
  cases hkd with
  | tru => rfl
  | neg _ => rfl
  | bin h0 _ _ => rcases h0 with rfl | rfl <;> rfl
  | cmp h1 h2 =>
    rename_i k a b s n
    obtain ⟨p, hp, hpl, x, hx, hxs⟩ := plF_get h2
    have hfl := hf.ln
    have hvl := hv.1
    have hwl := hw.1
    have hfp : f[p]? = some f[p] := List.getElem?_eq_getElem (by omega)
    have hname : x.1 = f[p].1 := by
      have := hf.fit p x f[p] hx hfp
      unfold fitB at this
      simp only [Bool.and_eq_true, decide_eq_true_eq] at this
      exact this.1
    have hvp : v[p]? = some v[p] := List.getElem?_eq_getElem (by omega)
    have hwp : w[p]? = some w[p] := List.getElem?_eq_getElem (by omega)
    have hin := hv.2 p _ _ hfp hvp
    have hne := hw.2 p _ _ _ hfp hvp hwp
    have hside : ∀ q, q ∈ partsL (k, (a, (b, (s, n)))) → (v[p] < q ↔ w[p] < q) := fun q hq => cut_side hin hne hc htm (by show s = f[p].1; rw [← hname, hxs]) hq
    have gv : v.getD (plF c.2.1 s).toNat 0 = v[p] := by rw [hp, Int.toNat_natCast, List.getD_eq_getElem?_getD, hvp]; rfl
    have gw : w.getD (plF c.2.1 s).toNat 0 = w[p] := by rw [hp, Int.toNat_natCast, List.getD_eq_getElem?_getD, hwp]; rfl
    have hnb : -1000000000000 ≤ n ∧ n ≤ 1000000000000 := by
      unfold shp at hshp
      simp only at hshp
      rw [if_neg (by omega), if_pos (by omega), decide_eq_true_eq] at hshp
      exact hshp.2.2
    have hw1 : w64 (n + 1) = n + 1 := w64_in (by omega)
    unfold tmSo
    simp only [gv, gw]
    rcases h1 with rfl | rfl | rfl
    · have := hside n (by simp [partsL])
      rw [if_neg (by decide), if_pos rfl, if_neg (by decide), if_pos rfl]
      exact decide_eq_decide.2 this
    · have := hside (n + 1) (by simp [partsL, hw1])
      rw [if_neg (by decide), if_neg (by decide), if_pos rfl, if_neg (by decide), if_neg (by decide), if_pos rfl]
      exact decide_eq_decide.2 (by omega)
    · have e1 := hside n (by simp [partsL])
      have e2 := hside (n + 1) (by simp [partsL, hw1])
      rw [if_neg (by decide), if_neg (by decide), if_neg (by decide), if_pos rfl, if_neg (by decide), if_neg (by decide), if_neg (by decide), if_pos rfl]
      exact decide_eq_decide.2 (by omega)
theorem Near.so {c : Cd} (h : VC c) {f : List Fct} (hf : VF c f) {v w : List Int} (hv : In f v) (hw : Near c f v w) {cd : Cnd} (hc : cd ∈ condsL c.2.2) (hcd : condE c.2.1 cd = 0) : soB c.2.1 v cd = soB c.2.1 w cd := by
  unfold soB soL
  congr 1
  have key : ∀ (m : Cnd), (∀ t ∈ m, t ∈ cd) → ∀ l, m.foldl (fun l t => l ++ [tmSo c.2.1 v t l]) l = m.foldl (fun l t => l ++ [tmSo c.2.1 w t l]) l := by
    intro m
    induction m with
    | nil => intro _ l; rfl
    | cons t m ih =>
      intro hs l
      obtain ⟨i, hi⟩ := List.mem_iff_getElem?.1 (hs t (List.mem_cons_self ..))
      rw [List.foldl_cons, List.foldl_cons, hw.term h hf hv hc hcd hi, ih (fun q hq => hs q (List.mem_cons_of_mem _ hq))]
  exact key cd (fun _ h => h) []
theorem conds_mem {l : List Rl} {r : Rl} (h : r ∈ l) : r.2.2.2.1 ∈ condsL l ∧ r.2.2.2.2.1 ∈ condsL l := by
  unfold condsL
  exact ⟨List.mem_flatMap.2 ⟨r, h, List.mem_cons_self ..⟩, List.mem_flatMap.2 ⟨r, h, List.mem_cons_of_mem _ (List.mem_cons_self ..)⟩⟩
theorem VC.conds {c : Cd} (h : VC c) {r : Rl} (hr : r ∈ c.2.2) : condE c.2.1 r.2.2.2.1 = 0 ∧ condE c.2.1 r.2.2.2.2.1 = 0 := by
  obtain ⟨i, hi⟩ := List.mem_iff_getElem?.1 hr
  obtain ⟨_, _, _, h1, h2, _⟩ := h.rule hi
  exact ⟨h1, h2⟩
theorem Near.binds {c : Cd} (h : VC c) {f : List Fct} (hf : VF c f) {v w : List Int} (hv : In f v) (hw : Near c f v w) (d : Int) : bindsL c d v = bindsL c d w := by
  unfold bindsL
  have key : ∀ (m : List Rl), (∀ r ∈ m, r ∈ c.2.2) → ∀ out, nbL c.2.1 c.2.2 d v m out = nbL c.2.1 c.2.2 d w m out := by
    intro m
    induction m with
    | nil => intro _ out; rfl
    | cons r m ih =>
      intro hs out
      have hr := hs r (List.mem_cons_self ..)
      have e : bindB c.2.1 c.2.2 d v r out = bindB c.2.1 c.2.2 d w r out := by
        unfold bindB
        rw [hw.so h hf hv (conds_mem hr).1 (h.conds hr).1]
      simp only [nbL, e]
      rw [ih (fun q hq => hs q (List.mem_cons_of_mem _ hq))]
  exact key c.2.2 (fun _ h => h) []
theorem Near.kept {c : Cd} (h : VC c) {f : List Fct} (hf : VF c f) {v w : List Int} (hv : In f v) (hw : Near c f v w) (d : Int) : keptL c d v = keptL c d w := by
  unfold keptL
  rw [hw.binds h hf hv d]
  have key : ∀ (m : List Rl), (∀ r ∈ m, r ∈ c.2.2) → ∀ bs : List Bool, List.zipWith (fun b (r : Rl) => !b || soB c.2.1 v r.2.2.2.2.1) bs m = List.zipWith (fun b (r : Rl) => !b || soB c.2.1 w r.2.2.2.2.1) bs m := by
    intro m
    induction m with
    | nil => intro _ bs; simp
    | cons r m ih =>
      intro hs bs
      have hr := hs r (List.mem_cons_self ..)
      cases bs with
      | nil => rfl
      | cons b bs =>
        simp only [List.zipWith_cons_cons]
        rw [hw.so h hf hv (conds_mem hr).2 (h.conds hr).2, ih (fun q hq => hs q (List.mem_cons_of_mem _ hq))]
  exact key c.2.2 (fun _ h => h) _
end Go.K
set_option linter.unusedVariables false
set_option linter.unusedSimpArgs false
set_option maxRecDepth 100000
namespace Go.K
open Go.Sl Go.Sx Go.Proofs
theorem same_loop {σ : Type} {f : Int → Option (Int ⊕ Bool)} (l : List σ) (h1 : ∀ (i : Nat) x, l[i]? = some x → f (i : Int) = some (.inl ((i + 1 : Nat) : Int))) (h2 : f (l.length : Int) = some (.inr true)) (hl : l.length < LF) : iter LF f 0 = some true := by
  refine (iter_scan (fun (_ : σ) _ => (none : Option Bool)) l (some true) (fun i x hx _ => h1 i x hx) (fun _ => h2) hl).trans ?_
  have : ∀ (l : List σ) (i : Nat), scan (fun (_ : σ) _ => (none : Option Bool)) l i = none := by
    intro l
    induction l with
    | nil => intro i; rfl
    | cons x l ih => intro i; simp only [scan]; exact ih _
  rw [this]
theorem G33_same (l : List ByteArray) (hl : l.length < LF) : G33 LF (l, l) = some true := by
  unfold G33
  simp only [decide_true, Bool.not_true, cond_false]
  refine same_loop l (fun i x hx => ?_) ?_ hl
  · have hi := lt_of_get hx
    simp only [dlt hi, cond_true, getI_nat hx, Option.bind_some, eqD, decide_true, Bool.not_true, cond_false, succ_W (Nat.lt_of_le_of_lt hi hl)]
  · simp only [dnlt, cond_false]
end Go.K
set_option linter.unusedVariables false
set_option linter.unusedSimpArgs false
set_option maxRecDepth 100000
namespace Go.K
open Go.Sl Go.Sx Go.Proofs
abbrev Cl := Int × (Int × (Int × List Int))
end Go.K
