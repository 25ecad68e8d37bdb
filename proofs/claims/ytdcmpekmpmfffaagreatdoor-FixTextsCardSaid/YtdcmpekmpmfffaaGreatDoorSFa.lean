/-
  A part of the walk and of the plain law of one given statement. No condition.
-/
import Derived.Test.YtdcmpekmpmfffaaGreatDoorShF
import Derived.Test.YtdcmpekmpmfffaaGreatDoorK6
set_option linter.unusedVariables false
namespace Go.Proofs.YtdcmpekmpmfffaaGreatDoor
open Go.Sl Go.Sx
theorem el22 : ElemOK Tryz.prog 22 39 3 (.agg #[.int .i64 0, .int .i64 0, .int .i64 0]) := ElemOK.of (i := (Tryz.prog.info? 39).getD default) (by kernel_rfl) (by kernel_rfl) (by kernel_rfl) (by kernel_rfl)
theorem el67 : ElemOK Tryz.prog 67 59 2 (.agg #[.int .i64 0, .int .i64 0]) := ElemOK.of (i := (Tryz.prog.info? 59).getD default) (by kernel_rfl) (by kernel_rfl) (by kernel_rfl) (by kernel_rfl)
theorem el121 : ElemOK Tryz.prog 121 3 1 (.int .i64 0) := ElemOK.of (i := (Tryz.prog.info? 3).getD default) (by kernel_rfl) (by kernel_rfl) (by kernel_rfl) (by kernel_rfl)
def F24 (fuel : Nat)  : Option (List Pt) :=
  (some ([⟨0, 0, 0⟩, ⟨10, 5, 8⟩, ⟨40, 20, 20⟩]))
set_option maxRecDepth 100000 in
theorem f24_ok (fuel : Nat)  (r : List Pt) (hr : F24 fuel  = some r) (h : Zone) (L : List Atom) (w : World) (hS : St h L w)  :
    Calls Tryz.prog 24 #[] w fun e w' => ∃ v, e = .returned v ∧ (∃ h', ∃ o0 : Option Addr, ∃ c0 : Nat, Zone.le h h' ∧ v = .agg #[.slice o0 r.length c0] ∧ St h' L w' ∧ SliceR PtT h' o0 c0 r) := by
 refine calls_intro (N := 6) Tryz.func24 (by kernel_rfl) fun a hf => ?_
 refine w_sr (by kernel_rfl) ?_
 refine p_box (i := 0) (d := (some 0)) (cs := [.slice none 0 0]) (T := 24) (v := fun b1 => pB b1 0) hS hf (fun b => by kernel_rfl) fun b1 ww1 a1 hS1 hf1 => ⟨fun _ => trivial, ?_⟩
 refine p_dt (by kernel_rfl) ?_
 refine w_sr (by kernel_rfl) ?_
 refine p_qn 3 [] [(0, pB b1 0), (1, .agg #[vI 0, vI 0, vI 0]), (2, .agg #[vI 10, vI 5, vI 8]), (3, .agg #[vI 40, vI 20, vI 20])] [] hf1 (by kernel_rfl) .nil fun a2 hf2 => ?_
 refine p_box (i := 3) (d := (some 4)) (cs := [vI 0, vI 0, vI 0, vI 10, vI 5, vI 8, vI 40, vI 20, vI 20]) (T := 39) (v := fun b2 => .slice (some ⟨b2, 0, none⟩) 3 3) hS1 hf2 (fun b => by kernel_rfl) fun b2 ww2 a3 hS2 hf3 => ⟨fun _ => trivial, ?_⟩
 have hS3 := hS2.ownBox (T := PtT) (E := 39) (n := 3) (xs := [⟨0, 0, 0⟩, ⟨10, 5, 8⟩, ⟨40, 20, 20⟩]) (i := 0) rfl (Rows.cons (c := [vI 0, vI 0, vI 0]) rfl (Rows.cons (c := [vI 10, vI 5, vI 8]) rfl (Rows.cons (c := [vI 40, vI 20, vI 20]) rfl rfl))) rfl (by decide)
 refine p_qn 1 [] [(0, pB b1 0), (5, .agg #[.slice (some ⟨b2, 0, none⟩) 3 3])] [] hf3 (by kernel_rfl) .nil fun a4 hf4 => ?_
 refine p_store_eq (i := 5) (j := 1) (b := b1) (off := 0) (vs := [.slice (some ⟨b2, 0, none⟩) 3 3]) (cs' := [.slice (some ⟨b2, 0, none⟩) 3 3]) hS3 hf4 rfl (by kernel_rfl) (by kernel_rfl) rfl fun ww3 a5 hS4 hf5 => ⟨fun _ => trivial, ?_⟩
 refine p_dt (by kernel_rfl) ?_
 refine w_ret (by kernel_rfl) ?_
 obtain ⟨z1, k1, hS5, hx1⟩ := hS4.share (j := 0) rfl
 refine p_ret (os := [.slice (some ⟨b2, 0, none⟩) 3 3]) (v := .agg #[.slice (some ⟨b2, 0, none⟩) 3 3]) (obs := [.cell ⟨b1, 0, none⟩ (.slice (some ⟨b2, 0, none⟩) 3 3)]) hf5 (by kernel_rfl) (.cell (hS5.box (i := 1) rfl (j := 0) rfl) .nil) ?_
 obtain rfl := some_eq hr
 exact ⟨_, rfl, z1, (some ⟨b2, 0, none⟩), 3, k1, rfl, (St.drop 2 hS5), hx1⟩
def F42_j1 (y1 : Bool) : Option (Int) :=
  (cond y1 (some (10)) (some (0)))
def F42 (fuel : Nat) (x0_lo : Int) (x0_hi : Int) : Option (Int) :=
  (cond (decide (x0_lo > x0_hi)) (F42_j1 true) (cond (decide (x0_lo < (-1000000000000000 : Int))) (F42_j1 true) (F42_j1 (decide (x0_hi > (1000000000000000 : Int))))))
set_option maxRecDepth 100000 in
theorem f42_ok (fuel : Nat) (x0_lo : Int) (x0_hi : Int) (r : Int) (hr : F42 fuel x0_lo x0_hi = some r) (h : Zone) (L : List Atom) (w : World) (hS : St h L w)  :
    Calls Tryz.prog 42 #[.agg #[vI x0_lo, vI x0_hi]] w fun e w' => ∃ v, e = .returned v ∧ (∃ h', Zone.le h h' ∧ v = vI r ∧ St h' L w') := by
 refine calls_intro (N := 18) Tryz.func42 (by kernel_rfl) fun a hf => ?_
 refine w_sr (by kernel_rfl) ?_
 refine p_box (i := 0) (d := (some 1)) (cs := [vI x0_lo, vI x0_hi]) (T := 59) (v := fun b1 => pB b1 0) hS hf (fun b => by kernel_rfl) fun b1 ww1 a1 hS1 hf1 => ⟨fun _ => trivial, ?_⟩
 refine p_qt [] [(1, pB b1 0)] [] hf1 (by kernel_rfl) .nil fun a2 hf2 => ?_
 refine w_seq (by kernel_rfl) ?_
 refine w_mid (by kernel_rfl) (fun a w => ∃ z1 : Zone, ∃ y1 : Bool, Zone.le h z1 ∧ Fr a 18 [(17, .bool y1)] ∧ St z1 (box b1 [vI x0_lo, vI x0_hi] 59 :: L) w ∧ (F42_j1 y1) = some r) ?_ ?_
 ·skip
  refine w_reg (by kernel_rfl) ?_
  refine p_qn 6 [vI x0_lo, vI x0_hi] [(1, pB b1 0), (8, .bool (decide (x0_lo > x0_hi)))] [.cell ⟨b1, 0, none⟩ (vI x0_lo), .cell ⟨b1, 1, none⟩ (vI x0_hi)] hf2 (by kernel_rfl) (.cell (hS1.box (i := 0) rfl (j := 0) rfl) (.cell (hS1.box (i := 0) rfl (j := 1) rfl) .nil)) fun a3 hf3 => ?_
  rcases Bool.eq_false_or_eq_true (decide (x0_lo > x0_hi)) with hb1 | hb1
  ·have hr1 := cond_t hb1 hr
   have hf4 := Fr.conv hf3 (congrArg (fun z => ([(1, pB b1 0), (8, .bool z)] : FL)) hb1)
   refine p_qt [] [(17, .bool true)] [] hf4 (by kernel_rfl) .nil fun a4 hf5 => ?_
   have hf6 := Fr.keep (ks := [17]) (r := [(17, .bool true)]) hf5 (by kernel_rfl)
   exact ⟨h, true, (Zone.le_refl _), hf6, hS1, hr1⟩
  ·have hr2 := cond_f hb1 hr
   have hf7 := Fr.conv hf3 (congrArg (fun z => ([(1, pB b1 0), (8, .bool z)] : FL)) hb1)
   refine p_qn 5 [vI x0_lo] [(1, pB b1 0), (13, .bool (decide (x0_lo < (-1000000000000000 : Int))))] [.cell ⟨b1, 0, none⟩ (vI x0_lo)] hf7 (by kernel_rfl) (.cell (hS1.box (i := 0) rfl (j := 0) rfl) .nil) fun a5 hf8 => ?_
   rcases Bool.eq_false_or_eq_true (decide (x0_lo < (-1000000000000000 : Int))) with hb2 | hb2
   ·have hr3 := cond_t hb2 hr2
    have hf9 := Fr.conv hf8 (congrArg (fun z => ([(1, pB b1 0), (13, .bool z)] : FL)) hb2)
    refine p_qt [] [(17, .bool true)] [] hf9 (by kernel_rfl) .nil fun a6 hf10 => ?_
    have hf11 := Fr.keep (ks := [17]) (r := [(17, .bool true)]) hf10 (by kernel_rfl)
    exact ⟨h, true, (Zone.le_refl _), hf11, hS1, hr3⟩
   ·have hr4 := cond_f hb2 hr2
    have hf12 := Fr.conv hf8 (congrArg (fun z => ([(1, pB b1 0), (13, .bool z)] : FL)) hb2)
    refine p_qt [vI x0_hi] [(17, .bool (decide (x0_hi > (1000000000000000 : Int))))] [.cell ⟨b1, 1, none⟩ (vI x0_hi)] hf12 (by kernel_rfl) (.cell (hS1.box (i := 0) rfl (j := 1) rfl) .nil) fun a7 hf13 => ?_
    have hf14 := Fr.keep (ks := [17]) (r := [(17, .bool (decide (x0_hi > (1000000000000000 : Int))))]) hf13 (by kernel_rfl)
    exact ⟨h, (decide (x0_hi > (1000000000000000 : Int))), (Zone.le_refl _), hf14, hS1, hr4⟩
 ·rintro a8 ww2 ⟨z1, y1, k1, hf15, hS2, hr5⟩
  refine w_if hf15 (b := y1) (by kernel_rfl) (fun hb3 => ?_) (fun hb3 => ?_)
  ·have hr6 := cond_t hb3 hr5
   refine w_sq [] [(2, vI 10)] [] hf15 (by kernel_rfl) .nil fun a9 hf16 => ?_
   refine w_ret (by kernel_rfl) ?_
   refine r_then ?_
   refine p_ret (os := []) (v := vI 10) (obs := []) hf16 (by kernel_rfl) .nil ?_
   obtain rfl := some_eq hr6
   exact ⟨_, rfl, z1, k1, rfl, (St.drop 1 hS2)⟩
  ·have hr7 := cond_f hb3 hr5
   refine w_skip (by kernel_rfl) ?_
   refine n_then ?_
   refine w_sq [] [(2, vI 0)] [] hf15 (by kernel_rfl) .nil fun a10 hf17 => ?_
   refine w_ret (by kernel_rfl) ?_
   refine p_ret (os := []) (v := vI 0) (obs := []) hf17 (by kernel_rfl) .nil ?_
   obtain rfl := some_eq hr7
   exact ⟨_, rfl, z1, k1, rfl, (St.drop 1 hS2)⟩
def F70 (fuel : Nat) (x0_lo : Int) (x0_hi : Int) (x1_lo : Int) (x1_hi : Int) : Option (Int) :=
  ((F42 fuel x0_lo x0_hi).bind fun r1 => (cond (r1 != (0 : Int)) (some (r1)) ((F42 fuel x1_lo x1_hi).bind fun r2 => (some (r2)))))
set_option maxRecDepth 100000 in
theorem f70_ok (fuel : Nat) (x0_lo : Int) (x0_hi : Int) (x1_lo : Int) (x1_hi : Int) (r : Int) (hr : F70 fuel x0_lo x0_hi x1_lo x1_hi = some r) (h : Zone) (L : List Atom) (w : World) (hS : St h L w)  :
    Calls Tryz.prog 70 #[.agg #[vI x0_lo, vI x0_hi], .agg #[vI x1_lo, vI x1_hi]] w fun e w' => ∃ v, e = .returned v ∧ (∃ h', Zone.le h h' ∧ v = vI r ∧ St h' L w') := by
 refine calls_intro (N := 13) Tryz.func70 (by kernel_rfl) fun a hf => ?_
 refine w_sr (by kernel_rfl) ?_
 refine p_box (i := 0) (d := (some 2)) (cs := [vI x0_lo, vI x0_hi]) (T := 59) (v := fun b1 => pB b1 0) hS hf (fun b => by kernel_rfl) fun b1 ww1 a1 hS1 hf1 => ⟨fun _ => trivial, ?_⟩
 refine p_box (i := 1) (d := (some 3)) (cs := [vI x1_lo, vI x1_hi]) (T := 59) (v := fun b2 => pB b2 0) hS1 hf1 (fun b => by kernel_rfl) fun b2 ww2 a2 hS2 hf2 => ⟨fun _ => trivial, ?_⟩
 refine p_qt [] [(2, pB b1 0), (3, pB b2 0)] [] hf2 (by kernel_rfl) .nil fun a3 hf3 => ?_
 refine w_seq (by kernel_rfl) ?_
 refine w_sr (by kernel_rfl) ?_
 refine p_qn 1 [vI x0_lo, vI x0_hi] [(3, pB b2 0), (6, .agg #[vI x0_lo, vI x0_hi])] [.cell ⟨b1, 0, none⟩ (vI x0_lo), .cell ⟨b1, 1, none⟩ (vI x0_hi)] hf3 (by kernel_rfl) (.cell (hS2.box (i := 1) rfl (j := 0) rfl) (.cell (hS2.box (i := 1) rfl (j := 1) rfl) .nil)) fun a4 hf4 => ?_
 obtain ⟨r1, hd1, hr1⟩ := bind_some hr
 refine p_call (i := 1) (d := some 7) (f := 42) (args := #[.agg #[vI x0_lo, vI x0_hi]]) hf4 (by kernel_rfl) (f42_ok fuel x0_lo x0_hi r1 hd1 h _ _ hS2 ) ?_
 rintro v1 ww3 a5 ⟨z1, k1, rfl, hS3⟩ hf5
 refine ⟨fun _ => trivial, ?_⟩
 refine p_qt [] [(3, pB b2 0), (5, vI r1)] [] hf5 (by kernel_rfl) .nil fun a6 hf6 => ?_
 refine w_sq [] [(3, pB b2 0), (5, vI r1), (9, .bool (r1 != (0 : Int)))] [] hf6 (by kernel_rfl) .nil fun a7 hf7 => ?_
 refine w_if hf7 (b := (r1 != (0 : Int))) (by kernel_rfl) (fun hb1 => ?_) (fun hb1 => ?_)
 ·have hr2 := cond_t hb1 hr1
  refine w_sq [] [(4, vI r1)] [] hf7 (by kernel_rfl) .nil fun a8 hf8 => ?_
  refine w_ret (by kernel_rfl) ?_
  refine r_then ?_
  refine p_ret (os := []) (v := vI r1) (obs := []) hf8 (by kernel_rfl) .nil ?_
  obtain rfl := some_eq hr2
  exact ⟨_, rfl, z1, k1, rfl, (St.drop 2 hS3)⟩
 ·have hr3 := cond_f hb1 hr1
  refine w_skip (by kernel_rfl) ?_
  refine n_then ?_
  refine w_sr (by kernel_rfl) ?_
  refine p_qn 1 [vI x1_lo, vI x1_hi] [(11, .agg #[vI x1_lo, vI x1_hi])] [.cell ⟨b2, 0, none⟩ (vI x1_lo), .cell ⟨b2, 1, none⟩ (vI x1_hi)] hf7 (by kernel_rfl) (.cell (hS3.box (i := 0) rfl (j := 0) rfl) (.cell (hS3.box (i := 0) rfl (j := 1) rfl) .nil)) fun a9 hf9 => ?_
  obtain ⟨r2, hd2, hr4⟩ := bind_some hr3
  refine p_call (i := 1) (d := some 12) (f := 42) (args := #[.agg #[vI x1_lo, vI x1_hi]]) hf9 (by kernel_rfl) (f42_ok fuel x1_lo x1_hi r2 hd2 z1 _ _ hS3 ) ?_
  rintro v2 ww4 a10 ⟨z2, k2, rfl, hS4⟩ hf10
  refine ⟨fun _ => trivial, ?_⟩
  refine p_qt [] [(4, vI r2)] [] hf10 (by kernel_rfl) .nil fun a11 hf11 => ?_
  refine w_ret (by kernel_rfl) ?_
  refine p_ret (os := []) (v := vI r2) (obs := []) hf11 (by kernel_rfl) .nil ?_
  obtain rfl := some_eq hr4
  exact ⟨_, rfl, z2, (Zone.le_trans k1 k2), rfl, (St.drop 2 hS4)⟩
def F25_j1 (y1 : Int) (y2 : Int) (y3 : Int) : Option (Int × Int × Int) :=
  (some (y1, y2, y3))
def F25_j2 (k1 : Int → Int → Bool → Bool → Int → Option (Int × Int × Int)) (y4 : Int) (y5 : Int) (y6 : Int) (y7 : Bool) (y8 : Bool) : Option (Int × Int × Int) :=
  (k1 y5 y6 y7 y8 (w64 (y4 + (1 : Int))))
def F25_j4 (k1 : Int → Int → Bool → Bool → Int → Option (Int × Int × Int)) (p1 : Int) (y9 : Bool) (y4 : Int) (p2 : Int) (y10 : Int) (y11 : Int) (y12 : Bool) : Option (Int × Int × Int) :=
  (F25_j2 k1 y4 (if (w64 (p1 * p2)) < y10 then (w64 (p1 * p2)) else y10) (if (w64 (p1 * p2)) > y11 then (w64 (p1 * p2)) else y11) y12 y9)
def F25_j3 (k1 : Int → Int → Bool → Bool → Int → Option (Int × Int × Int)) (p1 : Int) (y13 : Int) (y14 : Int) (y15 : Bool) (y9 : Bool) (y4 : Int) (p2 : Int) (y16 : Bool) : Option (Int × Int × Int) :=
  (cond y16 (F25_j2 k1 y4 y13 y14 y15 true) (cond (!y15) (F25_j4 k1 p1 y9 y4 p2 (w64 (p1 * p2)) (w64 (p1 * p2)) true) (F25_j4 k1 p1 y9 y4 p2 y13 y14 y15)))
def F25_l2 (k2 : Int → Int → Bool → Bool → Int → Option (Int × Int × Int)) (x1_lo : Int) (x1_hi : Int) (y17 : Int) (p1 : Int) : Nat → Int → Int → Bool → Bool → Int → Option (Int × Int × Int)
  | 0, _, _, _, _, _ => none
  | n1 + 1, y13, y14, y15, y9, y4 =>
    let k1 : Int → Int → Bool → Bool → Int → Option (Int × Int × Int) := F25_l2 k2 x1_lo x1_hi y17 p1 n1
    (cond (decide (y4 < (2 : Int))) ((getI ([(x1_lo : Int), (x1_hi : Int)]) y4).bind fun p2 => (cond (p1 != (0 : Int)) ((nz (if (w64 (0 - p1)) > p1 then (w64 (0 - p1)) else p1)).bind fun _ => (F25_j3 k1 p1 y13 y14 y15 y9 y4 p2 (decide ((if (w64 (0 - p2)) > p2 then (w64 (0 - p2)) else p2) > (w64 (Int.tdiv 1000000000000000 (if (w64 (0 - p1)) > p1 then (w64 (0 - p1)) else p1))))))) (F25_j3 k1 p1 y13 y14 y15 y9 y4 p2 false))) (k2 y13 y14 y15 y9 (w64 (y17 + (1 : Int)))))
def F25_j5 (y18 : Int) (y19 : Int) (y20 : Int) : Option (Int × Int × Int) :=
  (F25_j1 y18 y19 y20)
def F25_j6 (y21 : Int) (y22 : Int) (y23 : Bool) : Option (Int × Int × Int) :=
  (cond y23 (F25_j5 0 0 5) (F25_j5 y21 y22 0))
def F25_l1 (fuel : Nat) (x0_lo : Int) (x0_hi : Int) (x1_lo : Int) (x1_hi : Int) : Nat → Int → Int → Bool → Bool → Int → Option (Int × Int × Int)
  | 0, _, _, _, _, _ => none
  | n2 + 1, y21, y22, y24, y25, y17 =>
    let k2 : Int → Int → Bool → Bool → Int → Option (Int × Int × Int) := F25_l1 fuel x0_lo x0_hi x1_lo x1_hi n2
    (cond (decide (y17 < (2 : Int))) ((getI ([(x0_lo : Int), (x0_hi : Int)]) y17).bind fun p1 => (F25_l2 k2 x1_lo x1_hi y17 p1 fuel y21 y22 y24 y25 0)) (cond y25 (F25_j6 y21 y22 true) ((F42 fuel y21 y22).bind fun r1 => (F25_j6 y21 y22 (r1 != (0 : Int))))))
def F25 (fuel : Nat) (x0_lo : Int) (x0_hi : Int) (x1_lo : Int) (x1_hi : Int) : Option (Int × Int × Int) :=
  ((F70 fuel x0_lo x0_hi x1_lo x1_hi).bind fun r2 => (cond (r2 != (0 : Int)) (F25_j1 0 0 r2) (F25_l1 fuel x0_lo x0_hi x1_lo x1_hi fuel 0 0 false false 0)))
set_option maxRecDepth 100000 in
theorem f25_ok (fuel : Nat) (x0_lo : Int) (x0_hi : Int) (x1_lo : Int) (x1_hi : Int) (r : Int × Int × Int) (hr : F25 fuel x0_lo x0_hi x1_lo x1_hi = some r) (h : Zone) (L : List Atom) (w : World) (hS : St h L w)  :
    Calls Tryz.prog 25 #[.agg #[vI x0_lo, vI x0_hi], .agg #[vI x1_lo, vI x1_hi]] w fun e w' => ∃ v, e = .returned v ∧ (∃ h', Zone.le h h' ∧ v = .tuple #[.agg #[vI r.1, vI r.2.1], vI r.2.2] ∧ St h' L w') := by
 refine calls_intro (N := 11) Tryz.func25 (by kernel_rfl) fun a hf => ?_
 refine w_sr (by kernel_rfl) ?_
 refine p_box (i := 0) (d := (some 2)) (cs := [vI x0_lo, vI x0_hi]) (T := 59) (v := fun b1 => pB b1 0) hS hf (fun b => by kernel_rfl) fun b1 ww1 a1 hS1 hf1 => ⟨fun _ => trivial, ?_⟩
 refine p_box (i := 1) (d := (some 3)) (cs := [vI x1_lo, vI x1_hi]) (T := 59) (v := fun b2 => pB b2 0) hS1 hf1 (fun b => by kernel_rfl) fun b2 ww2 a2 hS2 hf2 => ⟨fun _ => trivial, ?_⟩
 refine p_box (i := 2) (d := (some 4)) (cs := [vI 0, vI 0]) (T := 59) (v := fun b3 => pB b3 0) hS2 hf2 (fun b => by kernel_rfl) fun b3 ww3 a3 hS3 hf3 => ⟨fun _ => trivial, ?_⟩
 refine p_qt [] [(2, pB b1 0), (3, pB b2 0), (4, pB b3 0)] [] hf3 (by kernel_rfl) .nil fun a4 hf4 => ?_
 refine w_sr (by kernel_rfl) ?_
 refine p_qn 2 [vI x0_lo, vI x0_hi, vI x1_lo, vI x1_hi] [(4, pB b3 0), (6, .agg #[vI x0_lo, vI x0_hi]), (7, .agg #[vI x1_lo, vI x1_hi])] [.cell ⟨b1, 0, none⟩ (vI x0_lo), .cell ⟨b1, 1, none⟩ (vI x0_hi), .cell ⟨b2, 0, none⟩ (vI x1_lo), .cell ⟨b2, 1, none⟩ (vI x1_hi)] hf4 (by kernel_rfl) (.cell (hS3.box (i := 2) rfl (j := 0) rfl) (.cell (hS3.box (i := 2) rfl (j := 1) rfl) (.cell (hS3.box (i := 1) rfl (j := 0) rfl) (.cell (hS3.box (i := 1) rfl (j := 1) rfl) .nil)))) fun a5 hf5 => ?_
 refine p_call (i := 2) (d := some 8) (f := 39) (args := #[.agg #[vI x0_lo, vI x0_hi], .agg #[vI x1_lo, vI x1_hi], .func (.func 40) #[] #[]]) hf5 (by kernel_rfl) (Φ := fun v w => ∃ z1 : Zone, ∃ y1 : Int, ∃ y2 : Int, ∃ y3 : Int, Zone.le h z1 ∧ v = .tuple #[.agg #[vI y1, vI y2], vI y3] ∧ St z1 (box b3 [vI 0, vI 0] 59 :: box b2 [vI x1_lo, vI x1_hi] 59 :: box b1 [vI x0_lo, vI x0_hi] 59 :: L) w ∧ (F25_j1 y1 y2 y3) = some r) ?_ ?_
 ·refine calls_intro (N := 46) Tryz.func39 (by kernel_rfl) fun a6 hf6 => ?_
  refine w_sr (by kernel_rfl) ?_
  refine p_box (i := 0) (d := (some 3)) (cs := [vI x0_lo, vI x0_hi]) (T := 59) (v := fun b4 => pB b4 0) hS3 hf6 (fun b => by kernel_rfl) fun b4 ww4 a7 hS4 hf7 => ⟨fun _ => trivial, ?_⟩
  refine p_box (i := 1) (d := (some 4)) (cs := [vI x1_lo, vI x1_hi]) (T := 59) (v := fun b5 => pB b5 0) hS4 hf7 (fun b => by kernel_rfl) fun b5 ww5 a8 hS5 hf8 => ⟨fun _ => trivial, ?_⟩
  refine p_box (i := 2) (d := (some 6)) (cs := [vI 0, vI 0]) (T := 59) (v := fun b6 => pB b6 0) hS5 hf8 (fun b => by kernel_rfl) fun b6 ww6 a9 hS6 hf9 => ⟨fun _ => trivial, ?_⟩
  refine p_qt [] [(2, .func (.func 40) #[] #[]), (3, pB b4 0), (4, pB b5 0), (6, pB b6 0)] [] hf9 (by kernel_rfl) .nil fun a10 hf10 => ?_
  refine w_seq (by kernel_rfl) ?_
  refine w_sr (by kernel_rfl) ?_
  refine p_qn 2 [vI x0_lo, vI x0_hi, vI x1_lo, vI x1_hi] [(2, .func (.func 40) #[] #[]), (3, pB b4 0), (4, pB b5 0), (6, pB b6 0), (14, .agg #[vI x0_lo, vI x0_hi]), (15, .agg #[vI x1_lo, vI x1_hi])] [.cell ⟨b4, 0, none⟩ (vI x0_lo), .cell ⟨b4, 1, none⟩ (vI x0_hi), .cell ⟨b5, 0, none⟩ (vI x1_lo), .cell ⟨b5, 1, none⟩ (vI x1_hi)] hf10 (by kernel_rfl) (.cell (hS6.box (i := 2) rfl (j := 0) rfl) (.cell (hS6.box (i := 2) rfl (j := 1) rfl) (.cell (hS6.box (i := 1) rfl (j := 0) rfl) (.cell (hS6.box (i := 1) rfl (j := 1) rfl) .nil)))) fun a11 hf11 => ?_
  obtain ⟨r2, hd1, hr1⟩ := bind_some hr
  refine p_call (i := 2) (d := some 16) (f := 70) (args := #[.agg #[vI x0_lo, vI x0_hi], .agg #[vI x1_lo, vI x1_hi]]) hf11 (by kernel_rfl) (f70_ok fuel x0_lo x0_hi x1_lo x1_hi r2 hd1 h _ _ hS6 ) ?_
  rintro v1 ww7 a12 ⟨z2, k3, rfl, hS7⟩ hf12
  refine ⟨fun _ => trivial, ?_⟩
  refine p_qt [] [(2, .func (.func 40) #[] #[]), (3, pB b4 0), (4, pB b5 0), (6, pB b6 0), (8, vI r2)] [] hf12 (by kernel_rfl) .nil fun a13 hf13 => ?_
  refine w_sq [] [(2, .func (.func 40) #[] #[]), (3, pB b4 0), (4, pB b5 0), (6, pB b6 0), (8, vI r2), (18, .bool (r2 != (0 : Int)))] [] hf13 (by kernel_rfl) .nil fun a14 hf14 => ?_
  refine w_if hf14 (b := (r2 != (0 : Int))) (by kernel_rfl) (fun hb1 => ?_) (fun hb1 => ?_)
  ·have hr2 := cond_t hb1 hr1
   refine w_sr (by kernel_rfl) ?_
   refine p_qn 2 [] [(6, pB b6 0), (19, .agg #[vI 0, vI 0]), (20, vI r2)] [] hf14 (by kernel_rfl) .nil fun a15 hf15 => ?_
   refine p_store_eq (i := 2) (j := 0) (b := b6) (off := 0) (vs := [vI 0, vI 0]) (cs' := [vI 0, vI 0]) hS7 hf15 rfl (by kernel_rfl) (by kernel_rfl) rfl fun ww8 a16 hS8 hf16 => ⟨fun _ => trivial, ?_⟩
   refine p_qt [] [(6, pB b6 0), (7, vI r2)] [] hf16 (by kernel_rfl) .nil fun a17 hf17 => ?_
   refine w_ret (by kernel_rfl) ?_
   refine r_then ?_
   refine p_ret (os := [vI 0, vI 0]) (v := .tuple #[.agg #[vI 0, vI 0], vI r2]) (obs := [.cell ⟨b6, 0, none⟩ (vI 0), .cell ⟨b6, 1, none⟩ (vI 0)]) hf17 (by kernel_rfl) (.cell (hS8.box (i := 0) rfl (j := 0) rfl) (.cell (hS8.box (i := 0) rfl (j := 1) rfl) .nil)) ?_
   exact ⟨_, rfl, z2, 0, 0, r2, k3, rfl, (St.drop 3 hS8), hr2⟩
  ·have hr3 := cond_f hb1 hr1
   refine w_skip (by kernel_rfl) ?_
   refine n_then ?_
   refine w_sr (by kernel_rfl) ?_
   refine p_box (i := 0) (d := (some 9)) (cs := [vI 0, vI 0, .bool false, .bool false]) (T := 83) (v := fun b7 => pB b7 0) hS7 hf14 (fun b => by kernel_rfl) fun b7 ww9 a18 hS9 hf18 => ⟨fun _ => trivial, ?_⟩
   refine p_dt (by kernel_rfl) ?_
   refine w_seq (by kernel_rfl) ?_
   refine w_sq [vI x0_lo, vI x0_hi] [(2, .func (.func 40) #[] #[]), (4, pB b5 0), (6, pB b6 0), (9, pB b7 0), (25, .agg #[vI x0_lo, vI x0_hi]), (26, vI 0)] [.cell ⟨b4, 0, none⟩ (vI x0_lo), .cell ⟨b4, 1, none⟩ (vI x0_hi)] hf18 (by kernel_rfl) (.cell (hS9.box (i := 3) rfl (j := 0) rfl) (.cell (hS9.box (i := 3) rfl (j := 1) rfl) .nil)) fun a19 hf19 => ?_
   refine w_block (id := 0) (by kernel_rfl) ?_
   have hf20 := Fr.keep (ks := [2, 4, 6, 9, 25, 26]) (r := [(2, .func (.func 40) #[] #[]), (4, pB b5 0), (6, pB b6 0), (9, pB b7 0), (25, .agg #[vI x0_lo, vI x0_hi]), (26, vI 0)]) hf19 (by kernel_rfl)
   refine w_loop (by kernel_rfl) (fun n a w => ∃ z3 : Zone, ∃ y21 : Int, ∃ y22 : Int, ∃ y24 : Bool, ∃ y25 : Bool, ∃ y17 : Int, Zone.le z2 z3 ∧ Fr a 46 [(2, .func (.func 40) #[] #[]), (4, pB b5 0), (6, pB b6 0), (9, pB b7 0), (25, .agg #[vI x0_lo, vI x0_hi]), (26, vI y17)] ∧ St z3 (box b7 [vI y21, vI y22, .bool y24, .bool y25] 83 :: box b6 [vI 0, vI 0] 59 :: box b5 [vI x1_lo, vI x1_hi] 59 :: box b4 [vI x0_lo, vI x0_hi] 59 :: box b3 [vI 0, vI 0] 59 :: box b2 [vI x1_lo, vI x1_hi] 59 :: box b1 [vI x0_lo, vI x0_hi] 59 :: L) w ∧ (F25_l1 fuel x0_lo x0_hi x1_lo x1_hi n y21 y22 y24 y25 y17) = some r) fuel ⟨z2, 0, 0, false, false, 0, (Zone.le_refl _), hf20, hS9, hr3⟩ ?_
   rintro n3 a20 ww10 ⟨z3, y21, y22, y24, y25, y17, k4, hf21, hS10, hr4⟩
   cases n3 with
   | zero => cases hr4
   | succ n2 =>
   refine w_sq [] [(2, .func (.func 40) #[] #[]), (4, pB b5 0), (6, pB b6 0), (9, pB b7 0), (25, .agg #[vI x0_lo, vI x0_hi]), (26, vI y17), (27, .bool (decide (y17 < (2 : Int))))] [] hf21 (by kernel_rfl) .nil fun a21 hf22 => ?_
   refine w_seq (by kernel_rfl) ?_
   refine w_if hf22 (b := (decide (y17 < (2 : Int)))) (by kernel_rfl) (fun hb2 => ?_) (fun hb2 => ?_)
   ·have hr5 := cond_t hb2 hr4
    refine w_skip (by kernel_rfl) ?_
    refine n_then ?_
    refine w_seq (by kernel_rfl) ?_
    refine w_block (id := 1) (by kernel_rfl) ?_
    obtain ⟨p1, hp96206, hr6⟩ := bind_some hr5
    obtain ⟨hb3, hk1⟩ := getI_idx (f := Value.int .i64) (n := 2) rfl hp96206
    refine w_sq [vI p1] [(2, .func (.func 40) #[] #[]), (4, pB b5 0), (6, pB b6 0), (9, pB b7 0), (11, vI p1), (25, .agg #[vI x0_lo, vI x0_hi]), (26, vI y17)] [.prop (0 ≤ y17 ∧ y17 < (2 : Nat)), .prop ((#[vI x0_lo, vI x0_hi] : Array Value)[Int.toNat y17 * 1]? = some (vI p1))] hf22 (by kernel_rfl) (.prop hb3 (.prop hk1 .nil)) fun a22 hf23 => ?_
    refine w_sq [vI x1_lo, vI x1_hi] [(2, .func (.func 40) #[] #[]), (4, pB b5 0), (6, pB b6 0), (9, pB b7 0), (11, vI p1), (25, .agg #[vI x0_lo, vI x0_hi]), (26, vI y17), (33, .agg #[vI x1_lo, vI x1_hi]), (34, vI 0)] [.cell ⟨b5, 0, none⟩ (vI x1_lo), .cell ⟨b5, 1, none⟩ (vI x1_hi)] hf23 (by kernel_rfl) (.cell (hS10.box (i := 2) rfl (j := 0) rfl) (.cell (hS10.box (i := 2) rfl (j := 1) rfl) .nil)) fun a23 hf24 => ?_
    refine w_block (id := 2) (by kernel_rfl) ?_
    have hf25 := Fr.keep (ks := [2, 4, 6, 9, 11, 25, 26, 33, 34]) (r := [(2, .func (.func 40) #[] #[]), (4, pB b5 0), (6, pB b6 0), (9, pB b7 0), (11, vI p1), (25, .agg #[vI x0_lo, vI x0_hi]), (26, vI y17), (33, .agg #[vI x1_lo, vI x1_hi]), (34, vI 0)]) hf24 (by kernel_rfl)
    refine w_loop (by kernel_rfl) (fun n a w => ∃ z4 : Zone, ∃ y13 : Int, ∃ y14 : Int, ∃ y15 : Bool, ∃ y9 : Bool, ∃ y4 : Int, Zone.le z3 z4 ∧ Fr a 46 [(2, .func (.func 40) #[] #[]), (4, pB b5 0), (6, pB b6 0), (9, pB b7 0), (11, vI p1), (25, .agg #[vI x0_lo, vI x0_hi]), (26, vI y17), (33, .agg #[vI x1_lo, vI x1_hi]), (34, vI y4)] ∧ St z4 (box b7 [vI y13, vI y14, .bool y15, .bool y9] 83 :: box b6 [vI 0, vI 0] 59 :: box b5 [vI x1_lo, vI x1_hi] 59 :: box b4 [vI x0_lo, vI x0_hi] 59 :: box b3 [vI 0, vI 0] 59 :: box b2 [vI x1_lo, vI x1_hi] 59 :: box b1 [vI x0_lo, vI x0_hi] 59 :: L) w ∧ (F25_l2 (F25_l1 fuel x0_lo x0_hi x1_lo x1_hi n2) x1_lo x1_hi y17 p1 n y13 y14 y15 y9 y4) = some r) fuel ⟨z3, y21, y22, y24, y25, 0, (Zone.le_refl _), hf25, hS10, hr6⟩ ?_
    rintro n4 a24 ww11 ⟨z4, y13, y14, y15, y9, y4, k5, hf26, hS11, hr7⟩
    cases n4 with
    | zero => cases hr7
    | succ n1 =>
    refine w_sq [] [(2, .func (.func 40) #[] #[]), (4, pB b5 0), (6, pB b6 0), (9, pB b7 0), (11, vI p1), (25, .agg #[vI x0_lo, vI x0_hi]), (26, vI y17), (33, .agg #[vI x1_lo, vI x1_hi]), (34, vI y4), (35, .bool (decide (y4 < (2 : Int))))] [] hf26 (by kernel_rfl) .nil fun a25 hf27 => ?_
    refine w_seq (by kernel_rfl) ?_
    refine w_if hf27 (b := (decide (y4 < (2 : Int)))) (by kernel_rfl) (fun hb4 => ?_) (fun hb4 => ?_)
    ·have hr8 := cond_t hb4 hr7
     refine w_skip (by kernel_rfl) ?_
     refine n_then ?_
     refine w_seq (by kernel_rfl) ?_
     refine w_block (id := 3) (by kernel_rfl) ?_
     obtain ⟨p2, hp98984, hr9⟩ := bind_some hr8
     obtain ⟨hb5, hk2⟩ := getI_idx (f := Value.int .i64) (n := 2) rfl hp98984
     refine w_sq [vI p2] [(2, .func (.func 40) #[] #[]), (4, pB b5 0), (6, pB b6 0), (9, pB b7 0), (11, vI p1), (13, vI p2), (25, .agg #[vI x0_lo, vI x0_hi]), (26, vI y17), (33, .agg #[vI x1_lo, vI x1_hi]), (34, vI y4)] [.prop (0 ≤ y4 ∧ y4 < (2 : Nat)), .prop ((#[vI x1_lo, vI x1_hi] : Array Value)[Int.toNat y4 * 1]? = some (vI p2))] hf27 (by kernel_rfl) (.prop hb5 (.prop hk2 .nil)) fun a26 hf28 => ?_
     refine w_reg (by kernel_rfl) ?_
     refine p_qn 3 [] [(2, .func (.func 40) #[] #[]), (4, pB b5 0), (6, pB b6 0), (9, pB b7 0), (11, vI p1), (25, .agg #[vI x0_lo, vI x0_hi]), (26, vI y17), (33, .agg #[vI x1_lo, vI x1_hi]), (34, vI y4), (37, .func (.func 40) #[] #[]), (38, vI p1), (39, vI p2)] [] hf28 (by kernel_rfl) .nil fun a27 hf29 => ?_
     refine p_call (i := 3) (d := some 40) (f := 40) (args := #[pB b7 0, vI p1, vI p2]) hf29 (by kernel_rfl) (Φ := fun v w => ∃ z5 : Zone, ∃ y5 : Int, ∃ y6 : Int, ∃ y7 : Bool, ∃ y8 : Bool, Zone.le z4 z5 ∧ v = .tuple #[] ∧ St z5 (box b7 [vI y5, vI y6, .bool y7, .bool y8] 83 :: box b6 [vI 0, vI 0] 59 :: box b5 [vI x1_lo, vI x1_hi] 59 :: box b4 [vI x0_lo, vI x0_hi] 59 :: box b3 [vI 0, vI 0] 59 :: box b2 [vI x1_lo, vI x1_hi] 59 :: box b1 [vI x0_lo, vI x0_hi] 59 :: L) w ∧ (F25_j2 (F25_l2 (F25_l1 fuel x0_lo x0_hi x1_lo x1_hi n2) x1_lo x1_hi y17 p1 n1) y4 y5 y6 y7 y8) = some r) ?_ ?_
     ·refine calls_intro (N := 28) Tryz.func40 (by kernel_rfl) fun a28 hf30 => ?_
      refine w_seq (by kernel_rfl) ?_
      refine w_mid (by kernel_rfl) (fun a w => ∃ z6 : Zone, ∃ y16 : Bool, Zone.le z4 z6 ∧ Fr a 28 [(0, pB b7 0), (1, vI p1), (2, vI p2), (19, .bool y16)] ∧ St z6 (box b7 [vI y13, vI y14, .bool y15, .bool y9] 83 :: box b6 [vI 0, vI 0] 59 :: box b5 [vI x1_lo, vI x1_hi] 59 :: box b4 [vI x0_lo, vI x0_hi] 59 :: box b3 [vI 0, vI 0] 59 :: box b2 [vI x1_lo, vI x1_hi] 59 :: box b1 [vI x0_lo, vI x0_hi] 59 :: L) w ∧ (F25_j3 (F25_l2 (F25_l1 fuel x0_lo x0_hi x1_lo x1_hi n2) x1_lo x1_hi y17 p1 n1) p1 y13 y14 y15 y9 y4 p2 y16) = some r) ?_ ?_
      ·skip
       refine w_reg (by kernel_rfl) ?_
       refine p_qn 3 [] [(0, pB b7 0), (1, vI p1), (2, vI p2), (8, .bool (p1 != (0 : Int)))] [] hf30 (by kernel_rfl) .nil fun a29 hf31 => ?_
       rcases Bool.eq_false_or_eq_true (p1 != (0 : Int)) with hb6 | hb6
       ·have hr10 := cond_t hb6 hr9
        have hf32 := Fr.conv hf31 (congrArg (fun z => ([(0, pB b7 0), (1, vI p1), (2, vI p2), (8, .bool z)] : FL)) hb6)
        obtain ⟨u1, hd2, hr11⟩ := bind_some hr10
        refine p_qt [] [(0, pB b7 0), (1, vI p1), (2, vI p2), (19, .bool (decide ((if (w64 (0 - p2)) > p2 then (w64 (0 - p2)) else p2) > (w64 (Int.tdiv 1000000000000000 (if (w64 (0 - p1)) > p1 then (w64 (0 - p1)) else p1))))))] [.prop ((if (w64 (0 - p1)) > p1 then (w64 (0 - p1)) else p1) ≠ 0)] hf32 (by kernel_rfl) (.prop (nz_spec hd2) .nil) fun a30 hf33 => ?_
        have hf34 := Fr.keep (ks := [0, 1, 2, 19]) (r := [(0, pB b7 0), (1, vI p1), (2, vI p2), (19, .bool (decide ((if (w64 (0 - p2)) > p2 then (w64 (0 - p2)) else p2) > (w64 (Int.tdiv 1000000000000000 (if (w64 (0 - p1)) > p1 then (w64 (0 - p1)) else p1))))))]) hf33 (by kernel_rfl)
        exact ⟨z4, (decide ((if (w64 (0 - p2)) > p2 then (w64 (0 - p2)) else p2) > (w64 (Int.tdiv 1000000000000000 (if (w64 (0 - p1)) > p1 then (w64 (0 - p1)) else p1))))), (Zone.le_refl _), hf34, hS11, hr11⟩
       ·have hr12 := cond_f hb6 hr9
        have hf35 := Fr.conv hf31 (congrArg (fun z => ([(0, pB b7 0), (1, vI p1), (2, vI p2), (8, .bool z)] : FL)) hb6)
        refine p_qt [] [(0, pB b7 0), (1, vI p1), (2, vI p2), (19, .bool false)] [] hf35 (by kernel_rfl) .nil fun a31 hf36 => ?_
        have hf37 := Fr.keep (ks := [0, 1, 2, 19]) (r := [(0, pB b7 0), (1, vI p1), (2, vI p2), (19, .bool false)]) hf36 (by kernel_rfl)
        exact ⟨z4, false, (Zone.le_refl _), hf37, hS11, hr12⟩
      ·rintro a32 ww12 ⟨z6, y16, k6, hf38, hS12, hr13⟩
       refine w_if hf38 (b := y16) (by kernel_rfl) (fun hb7 => ?_) (fun hb7 => ?_)
       ·have hr14 := cond_t hb7 hr13
        refine w_sr (by kernel_rfl) ?_
        refine p_qn 3 [] [(22, pB b7 3)] [] hf38 (by kernel_rfl) .nil fun a33 hf39 => ?_
        refine p_store_eq (i := 3) (j := 0) (b := b7) (off := 3) (vs := [.bool true]) (cs' := [vI y13, vI y14, .bool y15, .bool true]) hS12 hf39 rfl (by kernel_rfl) (by kernel_rfl) rfl fun ww13 a34 hS13 hf40 => ⟨fun _ => trivial, ?_⟩
        refine p_dt (by kernel_rfl) ?_
        refine w_ret (by kernel_rfl) ?_
        refine r_then ?_
        refine p_ret (os := []) (v := .tuple #[]) (obs := []) hf40 (by kernel_rfl) .nil ?_
        exact ⟨_, rfl, z6, y13, y14, y15, true, k6, rfl, hS13, hr14⟩
       ·have hr15 := cond_f hb7 hr13
        refine w_skip (by kernel_rfl) ?_
        refine n_then ?_
        refine w_reg (by kernel_rfl) ?_
        refine p_qn 4 [] [(23, pB b7 0), (26, vI (w64 (p1 * p2)))] [] hf38 (by kernel_rfl) .nil fun a35 hf41 => ?_
        refine p_inl (i := 4) (d := some 27) (f := 41) (args := #[pB b7 0, vI (w64 (p1 * p2))]) (N' := 36) hf41 (by kernel_rfl) Tryz.func41 (by kernel_rfl) fun a36 hf42 => ?_
        refine w_mid (by kernel_rfl) (fun a w => ∃ z7 : Zone, ∃ y10 : Int, ∃ y11 : Int, ∃ y12 : Bool, Zone.le z6 z7 ∧ Fr a 36 [(0, pB b7 0), (1, vI (w64 (p1 * p2)))] ∧ St z7 (box b7 [vI y10, vI y11, .bool y12, .bool y9] 83 :: box b6 [vI 0, vI 0] 59 :: box b5 [vI x1_lo, vI x1_hi] 59 :: box b4 [vI x0_lo, vI x0_hi] 59 :: box b3 [vI 0, vI 0] 59 :: box b2 [vI x1_lo, vI x1_hi] 59 :: box b1 [vI x0_lo, vI x0_hi] 59 :: L) w ∧ (F25_j4 (F25_l2 (F25_l1 fuel x0_lo x0_hi x1_lo x1_hi n2) x1_lo x1_hi y17 p1 n1) p1 y9 y4 p2 y10 y11 y12) = some r) ?_ ?_
        ·skip
         refine w_sq [.bool y15] [(0, pB b7 0), (1, vI (w64 (p1 * p2))), (8, .bool (!y15))] [.cell ⟨b7, 2, none⟩ (.bool y15)] hf42 (by kernel_rfl) (.cell (hS12.box (i := 0) rfl (j := 2) rfl) .nil) fun a37 hf43 => ?_
         refine w_if hf43 (b := (!y15)) (by kernel_rfl) (fun hb8 => ?_) (fun hb8 => ?_)
         ·have hr16 := cond_t hb8 hr15
          refine w_reg (by kernel_rfl) ?_
          refine p_qn 7 [] [(0, pB b7 0), (1, vI (w64 (p1 * p2))), (10, pB b7 0), (13, .agg #[vI (w64 (p1 * p2)), vI (w64 (p1 * p2))]), (15, pB b7 0)] [] hf43 (by kernel_rfl) .nil fun a38 hf44 => ?_
          refine p_store_eq (i := 7) (j := 0) (b := b7) (off := 0) (vs := [vI (w64 (p1 * p2)), vI (w64 (p1 * p2))]) (cs' := [vI (w64 (p1 * p2)), vI (w64 (p1 * p2)), .bool y15, .bool y9]) hS12 hf44 rfl (by kernel_rfl) (by kernel_rfl) rfl fun ww14 a39 hS14 hf45 => ⟨fun _ => trivial, ?_⟩
          refine p_qn 2 [] [(0, pB b7 0), (1, vI (w64 (p1 * p2))), (17, pB b7 2)] [] hf45 (by kernel_rfl) .nil fun a40 hf46 => ?_
          refine p_store_eq (i := 10) (j := 0) (b := b7) (off := 2) (vs := [.bool true]) (cs' := [vI (w64 (p1 * p2)), vI (w64 (p1 * p2)), .bool true, .bool y9]) hS14 hf46 rfl (by kernel_rfl) (by kernel_rfl) rfl fun ww15 a41 hS15 hf47 => ⟨fun _ => trivial, ?_⟩
          refine p_dt (by kernel_rfl) ?_
          have hf48 := Fr.keep (ks := [0, 1]) (r := [(0, pB b7 0), (1, vI (w64 (p1 * p2)))]) hf47 (by kernel_rfl)
          exact ⟨z6, (w64 (p1 * p2)), (w64 (p1 * p2)), true, (Zone.le_refl _), hf48, hS15, hr16⟩
         ·have hr17 := cond_f hb8 hr15
          refine w_skip (by kernel_rfl) ?_
          refine n_then ?_
          have hf49 := Fr.keep (ks := [0, 1]) (r := [(0, pB b7 0), (1, vI (w64 (p1 * p2)))]) hf43 (by kernel_rfl)
          exact ⟨z6, y13, y14, y15, (Zone.le_refl _), hf49, hS12, hr17⟩
        ·rintro a42 ww16 ⟨z7, y10, y11, y12, k7, hf50, hS16, hr18⟩
         have hS17 := hS16.drew
         refine w_regD (by kernel_rfl) [(0, true), (1, true), (2, true), (3, true), (4, true), (5, true), (6, true), (7, true), (8, true), (9, true), (10, true), (11, true), (12, true), (13, true), (14, true), (15, true), (16, true), (17, true), (18, false)] [18] (fun x => x = ww16.drew) (by kernel_rfl) rfl ?_
         refine p_qE 18 [vI y10, vI y11] [(33, .agg #[vI (if (w64 (p1 * p2)) < y10 then (w64 (p1 * p2)) else y10), vI (if (w64 (p1 * p2)) > y11 then (w64 (p1 * p2)) else y11)]), (35, pB b7 0)] [.cell ⟨b7, 0, none⟩ (vI y10), .cell ⟨b7, 1, none⟩ (vI y11)] [] hf50 (by kernel_rfl) (.cell (hS17.box (i := 0) rfl (j := 0) rfl) (.cell (hS17.box (i := 0) rfl (j := 1) rfl) .nil)) .nil fun a43 hf51 => ?_
         refine p_store_eq (i := 18) (j := 0) (b := b7) (off := 0) (vs := [vI (if (w64 (p1 * p2)) < y10 then (w64 (p1 * p2)) else y10), vI (if (w64 (p1 * p2)) > y11 then (w64 (p1 * p2)) else y11)]) (cs' := [vI (if (w64 (p1 * p2)) < y10 then (w64 (p1 * p2)) else y10), vI (if (w64 (p1 * p2)) > y11 then (w64 (p1 * p2)) else y11), .bool y12, .bool y9]) hS17 hf51 rfl (by kernel_rfl) (by kernel_rfl) rfl fun ww17 a44 hS18 hf52 => ⟨fun e => absurd e (by decide), ?_⟩
         refine p_done (by kernel_rfl) ?_
         refine p_fall (os := []) (v := .tuple #[]) (obs := []) hf52 (by kernel_rfl) .nil ?_
         refine ⟨_, rfl, fun a45 hf53 => ?_⟩
         refine ⟨fun _ => trivial, ?_⟩
         refine p_done (by kernel_rfl) ?_
         refine p_fall (os := []) (v := .tuple #[]) (obs := []) hf53 (by kernel_rfl) .nil ?_
         exact ⟨_, rfl, z7, (if (w64 (p1 * p2)) < y10 then (w64 (p1 * p2)) else y10), (if (w64 (p1 * p2)) > y11 then (w64 (p1 * p2)) else y11), y12, y9, (Zone.le_trans k6 k7), rfl, hS18, hr18⟩
     ·rintro v2 ww18 a46 ⟨z5, y5, y6, y7, y8, k8, rfl, hS19, hr19⟩ hf54
      refine ⟨fun _ => trivial, ?_⟩
      refine p_done (by kernel_rfl) ?_
      refine n_block ?_
      refine n_then ?_
      refine w_q [] [(2, .func (.func 40) #[] #[]), (4, pB b5 0), (6, pB b6 0), (9, pB b7 0), (11, vI p1), (25, .agg #[vI x0_lo, vI x0_hi]), (26, vI y17), (33, .agg #[vI x1_lo, vI x1_hi]), (34, vI (w64 (y4 + (1 : Int))))] [] hf54 (by kernel_rfl) .nil fun a47 hf55 => ?_
      refine n_then ?_
      have hf56 := Fr.keep (ks := [2, 4, 6, 9, 11, 25, 26, 33, 34]) (r := [(2, .func (.func 40) #[] #[]), (4, pB b5 0), (6, pB b6 0), (9, pB b7 0), (11, vI p1), (25, .agg #[vI x0_lo, vI x0_hi]), (26, vI y17), (33, .agg #[vI x1_lo, vI x1_hi]), (34, vI (w64 (y4 + (1 : Int))))]) hf55 (by kernel_rfl)
      exact ⟨n1, Nat.lt_succ_self n1, z5, y5, y6, y7, y8, (w64 (y4 + (1 : Int))), (Zone.le_trans k5 k8), hf56, hS19, hr19⟩
    ·have hr20 := cond_f hb4 hr7
     refine w_exit (id := 2) (by kernel_rfl) ?_
     refine x_then ?_
     refine x_then ?_
     refine x_block ?_
     refine n_block ?_
     refine n_then ?_
     refine w_q [] [(2, .func (.func 40) #[] #[]), (4, pB b5 0), (6, pB b6 0), (9, pB b7 0), (25, .agg #[vI x0_lo, vI x0_hi]), (26, vI (w64 (y17 + (1 : Int))))] [] hf27 (by kernel_rfl) .nil fun a48 hf57 => ?_
     refine n_then ?_
     have hf58 := Fr.keep (ks := [2, 4, 6, 9, 25, 26]) (r := [(2, .func (.func 40) #[] #[]), (4, pB b5 0), (6, pB b6 0), (9, pB b7 0), (25, .agg #[vI x0_lo, vI x0_hi]), (26, vI (w64 (y17 + (1 : Int))))]) hf57 (by kernel_rfl)
     exact ⟨n2, Nat.lt_succ_self n2, z4, y13, y14, y15, y9, (w64 (y17 + (1 : Int))), (Zone.le_trans k4 k5), hf58, hS11, hr20⟩
   ·have hr21 := cond_f hb2 hr4
    refine w_exit (id := 0) (by kernel_rfl) ?_
    refine x_then ?_
    refine x_then ?_
    refine x_block ?_
    refine n_then ?_
    refine w_sr (by kernel_rfl) ?_
    refine p_call (i := 0) (d := some 43) (f := 71) (args := #[pB b7 0]) hf22 (by kernel_rfl) (Φ := fun v w => ∃ z8 : Zone, ∃ y18 : Int, ∃ y19 : Int, ∃ y20 : Int, Zone.le z3 z8 ∧ v = .tuple #[.agg #[vI y18, vI y19], vI y20] ∧ St z8 (box b7 [vI y21, vI y22, .bool y24, .bool y25] 83 :: box b6 [vI 0, vI 0] 59 :: box b5 [vI x1_lo, vI x1_hi] 59 :: box b4 [vI x0_lo, vI x0_hi] 59 :: box b3 [vI 0, vI 0] 59 :: box b2 [vI x1_lo, vI x1_hi] 59 :: box b1 [vI x0_lo, vI x0_hi] 59 :: L) w ∧ (F25_j5 y18 y19 y20) = some r) ?_ ?_
    ·refine calls_intro (N := 21) Tryz.func71 (by kernel_rfl) fun a49 hf59 => ?_
     refine w_sr (by kernel_rfl) ?_
     refine p_box (i := 0) (d := (some 2)) (cs := [vI 0, vI 0]) (T := 59) (v := fun b8 => pB b8 0) hS10 hf59 (fun b => by kernel_rfl) fun b8 ww19 a50 hS20 hf60 => ⟨fun _ => trivial, ?_⟩
     refine p_qt [] [(0, pB b7 0), (2, pB b8 0)] [] hf60 (by kernel_rfl) .nil fun a51 hf61 => ?_
     refine w_seq (by kernel_rfl) ?_
     refine w_mid (by kernel_rfl) (fun a w => ∃ z9 : Zone, ∃ y23 : Bool, Zone.le z3 z9 ∧ Fr a 21 [(0, pB b7 0), (2, pB b8 0), (15, .bool y23)] ∧ St z9 (box b8 [vI 0, vI 0] 59 :: box b7 [vI y21, vI y22, .bool y24, .bool y25] 83 :: box b6 [vI 0, vI 0] 59 :: box b5 [vI x1_lo, vI x1_hi] 59 :: box b4 [vI x0_lo, vI x0_hi] 59 :: box b3 [vI 0, vI 0] 59 :: box b2 [vI x1_lo, vI x1_hi] 59 :: box b1 [vI x0_lo, vI x0_hi] 59 :: L) w ∧ (F25_j6 y21 y22 y23) = some r) ?_ ?_
     ·skip
      refine w_reg (by kernel_rfl) ?_
      refine p_qn 5 [.bool y25] [(0, pB b7 0), (2, pB b8 0), (8, .bool y25)] [.cell ⟨b7, 3, none⟩ (.bool y25)] hf61 (by kernel_rfl) (.cell (hS20.box (i := 1) rfl (j := 3) rfl) .nil) fun a52 hf62 => ?_
      rcases Bool.eq_false_or_eq_true y25 with hb9 | hb9
      ·have hr22 := cond_t hb9 hr21
       have hf63 := Fr.conv hf62 (congrArg (fun z => ([(0, pB b7 0), (2, pB b8 0), (8, .bool z)] : FL)) hb9)
       refine p_qt [] [(0, pB b7 0), (2, pB b8 0), (15, .bool true)] [] hf63 (by kernel_rfl) .nil fun a53 hf64 => ?_
       have hf65 := Fr.keep (ks := [0, 2, 15]) (r := [(0, pB b7 0), (2, pB b8 0), (15, .bool true)]) hf64 (by kernel_rfl)
       exact ⟨z3, true, (Zone.le_refl _), hf65, hS20, hr22⟩
      ·have hr23 := cond_f hb9 hr21
       have hf66 := Fr.conv hf62 (congrArg (fun z => ([(0, pB b7 0), (2, pB b8 0), (8, .bool z)] : FL)) hb9)
       refine p_qn 4 [vI y21, vI y22] [(0, pB b7 0), (2, pB b8 0), (8, .bool false), (12, .agg #[vI y21, vI y22])] [.cell ⟨b7, 0, none⟩ (vI y21), .cell ⟨b7, 1, none⟩ (vI y22)] hf66 (by kernel_rfl) (.cell (hS20.box (i := 1) rfl (j := 0) rfl) (.cell (hS20.box (i := 1) rfl (j := 1) rfl) .nil)) fun a54 hf67 => ?_
       obtain ⟨r1, hd3, hr24⟩ := bind_some hr23
       refine p_call (i := 9) (d := some 13) (f := 42) (args := #[.agg #[vI y21, vI y22]]) hf67 (by kernel_rfl) (f42_ok fuel y21 y22 r1 hd3 z3 _ _ hS20 ) ?_
       rintro v3 ww20 a55 ⟨z10, k9, rfl, hS21⟩ hf68
       refine ⟨fun _ => trivial, ?_⟩
       refine p_qt [] [(0, pB b7 0), (2, pB b8 0), (15, .bool (r1 != (0 : Int)))] [] hf68 (by kernel_rfl) .nil fun a56 hf69 => ?_
       have hf70 := Fr.keep (ks := [0, 2, 15]) (r := [(0, pB b7 0), (2, pB b8 0), (15, .bool (r1 != (0 : Int)))]) hf69 (by kernel_rfl)
       exact ⟨z10, (r1 != (0 : Int)), k9, hf70, hS21, hr24⟩
     ·rintro a57 ww21 ⟨z9, y23, k10, hf71, hS22, hr25⟩
      refine w_if hf71 (b := y23) (by kernel_rfl) (fun hb10 => ?_) (fun hb10 => ?_)
      ·have hr26 := cond_t hb10 hr25
       refine w_sr (by kernel_rfl) ?_
       refine p_qn 1 [] [(2, pB b8 0), (16, .agg #[vI 0, vI 0])] [] hf71 (by kernel_rfl) .nil fun a58 hf72 => ?_
       refine p_store_eq (i := 1) (j := 0) (b := b8) (off := 0) (vs := [vI 0, vI 0]) (cs' := [vI 0, vI 0]) hS22 hf72 rfl (by kernel_rfl) (by kernel_rfl) rfl fun ww22 a59 hS23 hf73 => ⟨fun _ => trivial, ?_⟩
       refine p_qt [] [(2, pB b8 0), (3, vI 5)] [] hf73 (by kernel_rfl) .nil fun a60 hf74 => ?_
       refine w_ret (by kernel_rfl) ?_
       refine r_then ?_
       refine p_ret (os := [vI 0, vI 0]) (v := .tuple #[.agg #[vI 0, vI 0], vI 5]) (obs := [.cell ⟨b8, 0, none⟩ (vI 0), .cell ⟨b8, 1, none⟩ (vI 0)]) hf74 (by kernel_rfl) (.cell (hS23.box (i := 0) rfl (j := 0) rfl) (.cell (hS23.box (i := 0) rfl (j := 1) rfl) .nil)) ?_
       exact ⟨_, rfl, z9, 0, 0, 5, k10, rfl, (St.drop 1 hS23), hr26⟩
      ·have hr27 := cond_f hb10 hr25
       refine w_skip (by kernel_rfl) ?_
       refine n_then ?_
       refine w_sr (by kernel_rfl) ?_
       refine p_qn 4 [vI y21, vI y22] [(2, pB b8 0), (20, .agg #[vI y21, vI y22])] [.cell ⟨b7, 0, none⟩ (vI y21), .cell ⟨b7, 1, none⟩ (vI y22)] hf71 (by kernel_rfl) (.cell (hS22.box (i := 1) rfl (j := 0) rfl) (.cell (hS22.box (i := 1) rfl (j := 1) rfl) .nil)) fun a61 hf75 => ?_
       refine p_store_eq (i := 4) (j := 0) (b := b8) (off := 0) (vs := [vI y21, vI y22]) (cs' := [vI y21, vI y22]) hS22 hf75 rfl (by kernel_rfl) (by kernel_rfl) rfl fun ww23 a62 hS24 hf76 => ⟨fun _ => trivial, ?_⟩
       refine p_qt [] [(2, pB b8 0), (3, vI 0)] [] hf76 (by kernel_rfl) .nil fun a63 hf77 => ?_
       refine w_ret (by kernel_rfl) ?_
       refine p_ret (os := [vI y21, vI y22]) (v := .tuple #[.agg #[vI y21, vI y22], vI 0]) (obs := [.cell ⟨b8, 0, none⟩ (vI y21), .cell ⟨b8, 1, none⟩ (vI y22)]) hf77 (by kernel_rfl) (.cell (hS24.box (i := 0) rfl (j := 0) rfl) (.cell (hS24.box (i := 0) rfl (j := 1) rfl) .nil)) ?_
       exact ⟨_, rfl, z9, y21, y22, 0, k10, rfl, (St.drop 1 hS24), hr27⟩
    ·rintro v4 ww24 a64 ⟨z8, y18, y19, y20, k11, rfl, hS25, hr28⟩ hf78
     refine ⟨fun _ => trivial, ?_⟩
     refine p_qn 2 [] [(6, pB b6 0), (44, .agg #[vI y18, vI y19]), (45, vI y20)] [] hf78 (by kernel_rfl) .nil fun a65 hf79 => ?_
     refine p_store_eq (i := 3) (j := 1) (b := b6) (off := 0) (vs := [vI y18, vI y19]) (cs' := [vI y18, vI y19]) hS25 hf79 rfl (by kernel_rfl) (by kernel_rfl) rfl fun ww25 a66 hS26 hf80 => ⟨fun _ => trivial, ?_⟩
     refine p_qt [] [(6, pB b6 0), (7, vI y20)] [] hf80 (by kernel_rfl) .nil fun a67 hf81 => ?_
     refine w_ret (by kernel_rfl) ?_
     refine p_ret (os := [vI y18, vI y19]) (v := .tuple #[.agg #[vI y18, vI y19], vI y20]) (obs := [.cell ⟨b6, 0, none⟩ (vI y18), .cell ⟨b6, 1, none⟩ (vI y19)]) hf81 (by kernel_rfl) (.cell (hS26.box (i := 1) rfl (j := 0) rfl) (.cell (hS26.box (i := 1) rfl (j := 1) rfl) .nil)) ?_
     exact ⟨_, rfl, z8, y18, y19, y20, (Zone.le_trans (Zone.le_trans k3 k4) k11), rfl, (St.drop 4 hS26), hr28⟩
 ·rintro v5 ww26 a68 ⟨z1, y1, y2, y3, k12, rfl, hS27, hr29⟩ hf82
  refine ⟨fun _ => trivial, ?_⟩
  refine p_qn 2 [] [(4, pB b3 0), (9, .agg #[vI y1, vI y2]), (10, vI y3)] [] hf82 (by kernel_rfl) .nil fun a69 hf83 => ?_
  refine p_store_eq (i := 5) (j := 0) (b := b3) (off := 0) (vs := [vI y1, vI y2]) (cs' := [vI y1, vI y2]) hS27 hf83 rfl (by kernel_rfl) (by kernel_rfl) rfl fun ww27 a70 hS28 hf84 => ⟨fun _ => trivial, ?_⟩
  refine p_qt [] [(4, pB b3 0), (5, vI y3)] [] hf84 (by kernel_rfl) .nil fun a71 hf85 => ?_
  refine w_ret (by kernel_rfl) ?_
  refine p_ret (os := [vI y1, vI y2]) (v := .tuple #[.agg #[vI y1, vI y2], vI y3]) (obs := [.cell ⟨b3, 0, none⟩ (vI y1), .cell ⟨b3, 1, none⟩ (vI y2)]) hf85 (by kernel_rfl) (.cell (hS28.box (i := 0) rfl (j := 0) rfl) (.cell (hS28.box (i := 0) rfl (j := 1) rfl) .nil)) ?_
  obtain rfl := some_eq hr29
  exact ⟨_, rfl, z1, k12, rfl, (St.drop 3 hS28)⟩
def F32_j1 (y1 : Bool) : Option (Bool) :=
  (some (y1))
def F32 (fuel : Nat) (x0 : Int) (x1 : Int) (x2 : Int) : Option (Bool) :=
  (cond (decide (x1 ≤ x0)) (F32_j1 (decide (x0 ≤ x2))) (F32_j1 false))
set_option maxRecDepth 100000 in
theorem f32_ok (fuel : Nat) (x0 : Int) (x1 : Int) (x2 : Int) (r : Bool) (hr : F32 fuel x0 x1 x2 = some r) (h : Zone) (L : List Atom) (w : World) (hS : St h L w)  :
    Calls Tryz.prog 32 #[vI x0, vI x1, vI x2] w fun e w' => ∃ v, e = .returned v ∧ (∃ h', Zone.le h h' ∧ v = .bool r ∧ St h' L w') := by
 refine calls_intro (N := 15) Tryz.func32 (by kernel_rfl) fun a hf => ?_
 refine w_sq [] [(0, vI x0), (1, vI x1), (2, vI x2)] [] hf (by kernel_rfl) .nil fun a1 hf1 => ?_
 refine w_mid (by kernel_rfl) (fun a w => ∃ z1 : Zone, ∃ y1 : Bool, Zone.le h z1 ∧ Fr a 15 [(6, .bool y1)] ∧ St z1 (L) w ∧ (F32_j1 y1) = some r) ?_ ?_
 ·skip
  refine w_reg (by kernel_rfl) ?_
  refine p_qn 4 [] [(0, vI x0), (2, vI x2), (10, .bool (decide (x1 ≤ x0)))] [] hf1 (by kernel_rfl) .nil fun a2 hf2 => ?_
  rcases Bool.eq_false_or_eq_true (decide (x1 ≤ x0)) with hb1 | hb1
  ·have hr1 := cond_t hb1 hr
   have hf3 := Fr.conv hf2 (congrArg (fun z => ([(0, vI x0), (2, vI x2), (10, .bool z)] : FL)) hb1)
   refine p_qt [] [(6, .bool (decide (x0 ≤ x2)))] [] hf3 (by kernel_rfl) .nil fun a3 hf4 => ?_
   have hf5 := Fr.keep (ks := [6]) (r := [(6, .bool (decide (x0 ≤ x2)))]) hf4 (by kernel_rfl)
   exact ⟨h, (decide (x0 ≤ x2)), (Zone.le_refl _), hf5, hS, hr1⟩
  ·have hr2 := cond_f hb1 hr
   have hf6 := Fr.conv hf2 (congrArg (fun z => ([(0, vI x0), (2, vI x2), (10, .bool z)] : FL)) hb1)
   refine p_qt [] [(6, .bool false)] [] hf6 (by kernel_rfl) .nil fun a4 hf7 => ?_
   have hf8 := Fr.keep (ks := [6]) (r := [(6, .bool false)]) hf7 (by kernel_rfl)
   exact ⟨h, false, (Zone.le_refl _), hf8, hS, hr2⟩
 ·rintro a5 ww1 ⟨z1, y1, k1, hf9, hS1, hr3⟩
  refine w_ret (by kernel_rfl) ?_
  refine p_ret (os := []) (v := .bool y1) (obs := []) hf9 (by kernel_rfl) .nil ?_
  obtain rfl := some_eq hr3
  exact ⟨_, rfl, z1, k1, rfl, hS1⟩
def F10_j1 (k1 : Int → Option (Int)) (y1 : Int) (y2 : Bool) : Option (Int) :=
  (cond y2 (some (11)) (k1 (w64 (y1 + (1 : Int)))))
def F10_l1 (fuel : Nat) (x0 : List Pt) : Nat → Int → Option (Int)
  | 0, _ => none
  | n1 + 1, y1 =>
    let k1 : Int → Option (Int) := F10_l1 fuel x0 n1
    (cond (decide (y1 < (x0.length : Int))) ((getI x0 y1).bind fun p1 => ((F32 fuel p1.x 0 1000000).bind fun r1 => (cond (!r1) (F10_j1 k1 y1 true) (cond (decide (p1.lo > p1.hi)) (F10_j1 k1 y1 true) (cond (decide (p1.lo < (-1000000000 : Int))) (F10_j1 k1 y1 true) (cond (decide (p1.hi > (1000000000 : Int))) (F10_j1 k1 y1 true) (cond (decide (y1 > (0 : Int))) ((getI x0 (w64 (y1 - (1 : Int)))).bind fun p2 => (F10_j1 k1 y1 (decide (p2.x ≥ p1.x)))) (F10_j1 k1 y1 false)))))))) (some (0)))
def F10 (fuel : Nat) (x0 : List Pt) : Option (Int) :=
  ((F32 fuel (x0.length : Int) 1 40).bind fun r2 => (cond (!r2) (some (11)) (F10_l1 fuel x0 fuel 0)))
set_option maxRecDepth 100000 in
theorem f10_ok (fuel : Nat) (x0 : List Pt) (r : Int) (hr : F10 fuel x0 = some r) (h : Zone) (L : List Atom) (w : World) (hS : St h L w) (o_x0 : Option Addr) (c_x0 : Nat) (hx_x0 : SliceR PtT h o_x0 c_x0 x0) :
    Calls Tryz.prog 10 #[.agg #[.slice o_x0 x0.length c_x0]] w fun e w' => ∃ v, e = .returned v ∧ (∃ h', Zone.le h h' ∧ v = vI r ∧ St h' L w') := by
 refine calls_intro (N := 56) Tryz.func10 (by kernel_rfl) fun a hf => ?_
 refine w_sr (by kernel_rfl) ?_
 refine p_box (i := 0) (d := (some 1)) (cs := [.slice o_x0 x0.length c_x0]) (T := 24) (v := fun b1 => pB b1 0) hS hf (fun b => by kernel_rfl) fun b1 ww1 a1 hS1 hf1 => ⟨fun _ => trivial, ?_⟩
 refine p_qt [] [(1, pB b1 0)] [] hf1 (by kernel_rfl) .nil fun a2 hf2 => ?_
 refine w_seq (by kernel_rfl) ?_
 refine w_sr (by kernel_rfl) ?_
 refine p_qn 3 [.slice o_x0 x0.length c_x0] [(1, pB b1 0), (7, vI (x0.length : Int))] [.cell ⟨b1, 0, none⟩ (.slice o_x0 x0.length c_x0)] hf2 (by kernel_rfl) (.cell (hS1.box (i := 0) rfl (j := 0) rfl) .nil) fun a3 hf3 => ?_
 obtain ⟨r2, hd1, hr1⟩ := bind_some hr
 refine p_call (i := 3) (d := some 8) (f := 32) (args := #[vI (x0.length : Int), vI 1, vI 40]) hf3 (by kernel_rfl) (f32_ok fuel (x0.length : Int) 1 40 r2 hd1 h _ _ hS1 ) ?_
 rintro v1 ww2 a4 ⟨z1, k2, rfl, hS2⟩ hf4
 refine ⟨fun _ => trivial, ?_⟩
 refine p_qt [] [(1, pB b1 0), (9, .bool (!r2))] [] hf4 (by kernel_rfl) .nil fun a5 hf5 => ?_
 refine w_if hf5 (b := (!r2)) (by kernel_rfl) (fun hb1 => ?_) (fun hb1 => ?_)
 ·have hr2 := cond_t hb1 hr1
  refine w_sq [] [(2, vI 11)] [] hf5 (by kernel_rfl) .nil fun a6 hf6 => ?_
  refine w_ret (by kernel_rfl) ?_
  refine r_then ?_
  refine p_ret (os := []) (v := vI 11) (obs := []) hf6 (by kernel_rfl) .nil ?_
  obtain rfl := some_eq hr2
  exact ⟨_, rfl, z1, k2, rfl, (St.drop 1 hS2)⟩
 ·have hr3 := cond_f hb1 hr1
  refine w_skip (by kernel_rfl) ?_
  refine n_then ?_
  refine w_seq (by kernel_rfl) ?_
  refine w_sq [.slice o_x0 x0.length c_x0] [(1, pB b1 0), (11, .slice o_x0 x0.length c_x0), (12, vI (x0.length : Int)), (13, vI 0)] [.cell ⟨b1, 0, none⟩ (.slice o_x0 x0.length c_x0)] hf5 (by kernel_rfl) (.cell (hS2.box (i := 0) rfl (j := 0) rfl) .nil) fun a7 hf7 => ?_
  refine w_block (id := 0) (by kernel_rfl) ?_
  have hf8 := Fr.keep (ks := [1, 11, 12, 13]) (r := [(1, pB b1 0), (11, .slice o_x0 x0.length c_x0), (12, vI (x0.length : Int)), (13, vI 0)]) hf7 (by kernel_rfl)
  refine w_loop (by kernel_rfl) (fun n a w => ∃ z2 : Zone, ∃ y1 : Int, Zone.le z1 z2 ∧ Fr a 56 [(1, pB b1 0), (11, .slice o_x0 x0.length c_x0), (12, vI (x0.length : Int)), (13, vI y1)] ∧ St z2 (box b1 [.slice o_x0 x0.length c_x0] 24 :: L) w ∧ (F10_l1 fuel x0 n y1) = some r) fuel ⟨z1, 0, (Zone.le_refl _), hf8, hS2, hr3⟩ ?_
  rintro n2 a8 ww3 ⟨z2, y1, k3, hf9, hS3, hr4⟩
  cases n2 with
  | zero => cases hr4
  | succ n1 =>
  refine w_sq [] [(1, pB b1 0), (11, .slice o_x0 x0.length c_x0), (12, vI (x0.length : Int)), (13, vI y1), (14, .bool (decide (y1 < (x0.length : Int))))] [] hf9 (by kernel_rfl) .nil fun a9 hf10 => ?_
  refine w_seq (by kernel_rfl) ?_
  refine w_if hf10 (b := (decide (y1 < (x0.length : Int)))) (by kernel_rfl) (fun hb2 => ?_) (fun hb2 => ?_)
  ·have hr5 := cond_t hb2 hr4
   refine w_skip (by kernel_rfl) ?_
   refine n_then ?_
   refine w_seq (by kernel_rfl) ?_
   refine w_block (id := 1) (by kernel_rfl) ?_
   refine w_sr (by kernel_rfl) ?_
   obtain ⟨p1, hp2610, hr6⟩ := bind_some hr5
   obtain ⟨ad1, ho1, hb3, cc1, hc1, hk1⟩ := SliceR.getI (SliceR.mono (Zone.le_trans k2 k3) hx_x0) hp2610
   subst hc1
   refine p_qn 3 [.pointer (some ad1), vI p1.x, vI p1.lo, vI p1.hi] [(1, pB b1 0), (11, .slice o_x0 x0.length c_x0), (12, vI (x0.length : Int)), (13, vI y1), (15, vI y1), (17, .agg #[vI p1.x, vI p1.lo, vI p1.hi])] [.prop (o_x0 = some ad1), .prop (0 ≤ y1 ∧ y1 < (x0.length : Nat)), .cell ((ad1.add (Int.toNat y1 * 3)).add 0) (vI p1.x), .cell ((ad1.add (Int.toNat y1 * 3)).add 1) (vI p1.lo), .cell ((ad1.add (Int.toNat y1 * 3)).add 2) (vI p1.hi)] hf10 (by kernel_rfl) (.prop ho1 (.prop hb3 (.cell (hS3.cell (hk1 0 _ rfl)) (.cell (hS3.cell (hk1 1 _ rfl)) (.cell (hS3.cell (hk1 2 _ rfl)) .nil))))) fun a10 hf11 => ?_
   refine p_box (i := 3) (d := (some 4)) (cs := [vI 0, vI 0, vI 0]) (T := 39) (v := fun b2 => pB b2 0) hS3 hf11 (fun b => by kernel_rfl) fun b2 ww4 a11 hS4 hf12 => ⟨fun _ => trivial, ?_⟩
   refine p_qn 1 [] [(1, pB b1 0), (3, vI y1), (4, pB b2 0), (11, .slice o_x0 x0.length c_x0), (12, vI (x0.length : Int)), (13, vI y1), (17, .agg #[vI p1.x, vI p1.lo, vI p1.hi])] [] hf12 (by kernel_rfl) .nil fun a12 hf13 => ?_
   refine p_store_eq (i := 5) (j := 0) (b := b2) (off := 0) (vs := [vI p1.x, vI p1.lo, vI p1.hi]) (cs' := [vI p1.x, vI p1.lo, vI p1.hi]) hS4 hf13 rfl (by kernel_rfl) (by kernel_rfl) rfl fun ww5 a13 hS5 hf14 => ⟨fun _ => trivial, ?_⟩
   refine p_dt (by kernel_rfl) ?_
   refine w_mid (by kernel_rfl) (fun a w => ∃ z3 : Zone, ∃ y2 : Bool, Zone.le z2 z3 ∧ Fr a 56 [(1, pB b1 0), (11, .slice o_x0 x0.length c_x0), (12, vI (x0.length : Int)), (13, vI y1), (54, .bool y2)] ∧ St z3 (box b2 [vI p1.x, vI p1.lo, vI p1.hi] 39 :: box b1 [.slice o_x0 x0.length c_x0] 24 :: L) w ∧ (F10_j1 (F10_l1 fuel x0 n1) y1 y2) = some r) ?_ ?_
   ·skip
    have hS6 := hS5.drew
    have s1 : Sub z2 (box b2 [vI p1.x, vI p1.lo, vI p1.hi] 39 :: box b1 [.slice o_x0 x0.length c_x0] 24 :: L) _ := Sub.of (Zone.le_refl _) hS6
    refine w_regD (by kernel_rfl) [(0, true), (1, true), (2, false), (3, true), (4, true), (5, true), (6, true), (7, true), (8, true), (9, true), (10, true), (11, true), (12, true), (13, true), (14, true), (15, true), (16, true), (17, true), (18, true), (19, true), (20, true), (21, true), (22, true), (23, true), (24, true), (25, true), (26, true), (27, true), (28, true), (29, true), (30, true), (31, true), (32, true), (33, true), (34, true), (35, true), (36, true)] [] (Sub z2 (box b2 [vI p1.x, vI p1.lo, vI p1.hi] 39 :: box b1 [.slice o_x0 x0.length c_x0] 24 :: L)) (by kernel_rfl) s1 ?_
    refine p_qS 2 [vI p1.x] [(1, pB b1 0), (3, vI y1), (4, pB b2 0), (11, .slice o_x0 x0.length c_x0), (12, vI (x0.length : Int)), (13, vI y1), (19, vI p1.x)] [.cell ⟨b2, 0, none⟩ (vI p1.x)] [] s1 hf14 (by kernel_rfl) (fun _ s => (.cell (s.box (i := 0) rfl (j := 0) rfl) .nil)) .nil fun a14 hf15 => ?_
    obtain ⟨r1, hd2, hr7⟩ := bind_some hr6
    refine p_call (i := 2) (d := some 20) (f := 32) (args := #[vI p1.x, vI 0, vI 1000000]) hf15 (by kernel_rfl) (f32_ok fuel p1.x 0 1000000 r1 hd2 z2 _ _ hS6 ) ?_
    rintro v2 ww6 a15 ⟨z4, k4, rfl, hS7⟩ hf16
    refine ⟨fun _ => Sub.of k4 hS7, ?_⟩
    have s2 : Sub z2 (box b2 [vI p1.x, vI p1.lo, vI p1.hi] 39 :: box b1 [.slice o_x0 x0.length c_x0] 24 :: L) _ := Sub.of k4 hS7
    refine p_qS 2 [] [(1, pB b1 0), (3, vI y1), (4, pB b2 0), (11, .slice o_x0 x0.length c_x0), (12, vI (x0.length : Int)), (13, vI y1), (22, .bool (!r1))] [] [] s2 hf16 (by kernel_rfl) (fun _ s => .nil) .nil fun a16 hf17 => ?_
    rcases Bool.eq_false_or_eq_true (!r1) with hb4 | hb4
    ·have hr8 := cond_t hb4 hr7
     have hf18 := Fr.conv hf17 (congrArg (fun z => ([(1, pB b1 0), (3, vI y1), (4, pB b2 0), (11, .slice o_x0 x0.length c_x0), (12, vI (x0.length : Int)), (13, vI y1), (22, .bool z)] : FL)) hb4)
     refine p_qS 32 [] [(1, pB b1 0), (11, .slice o_x0 x0.length c_x0), (12, vI (x0.length : Int)), (13, vI y1), (23, undef), (24, undef), (25, undef), (26, undef), (27, undef), (30, undef), (31, undef), (32, undef), (35, undef), (36, undef), (37, undef), (40, undef), (41, undef), (42, undef), (43, undef), (44, undef), (45, undef), (46, undef), (47, undef), (48, undef), (49, undef), (50, undef), (51, undef), (52, undef), (53, undef), (54, .bool true)] [] [] s2 hf18 (by kernel_rfl) (fun _ s => .nil) .nil fun a17 hf19 => ?_
     refine p_dt (by kernel_rfl) ?_
     have hf20 := Fr.keep (ks := [1, 11, 12, 13, 54]) (r := [(1, pB b1 0), (11, .slice o_x0 x0.length c_x0), (12, vI (x0.length : Int)), (13, vI y1), (54, .bool true)]) hf19 (by kernel_rfl)
     exact ⟨z4, true, k4, hf20, hS7, hr8⟩
    ·have hr9 := cond_f hb4 hr7
     have hf21 := Fr.conv hf17 (congrArg (fun z => ([(1, pB b1 0), (3, vI y1), (4, pB b2 0), (11, .slice o_x0 x0.length c_x0), (12, vI (x0.length : Int)), (13, vI y1), (22, .bool z)] : FL)) hb4)
     refine p_qS 7 [vI p1.lo, vI p1.hi] [(1, pB b1 0), (3, vI y1), (4, pB b2 0), (11, .slice o_x0 x0.length c_x0), (12, vI (x0.length : Int)), (13, vI y1), (23, pB b2 1), (24, vI p1.lo), (25, pB b2 2), (26, vI p1.hi), (27, .bool (decide (p1.lo > p1.hi))), (29, .bool (decide (p1.lo > p1.hi)))] [.cell ⟨b2, 1, none⟩ (vI p1.lo), .cell ⟨b2, 2, none⟩ (vI p1.hi)] [] s2 hf21 (by kernel_rfl) (fun _ s => (.cell (s.box (i := 0) rfl (j := 1) rfl) (.cell (s.box (i := 0) rfl (j := 2) rfl) .nil))) .nil fun a18 hf22 => ?_
     rcases Bool.eq_false_or_eq_true (decide (p1.lo > p1.hi)) with hb5 | hb5
     ·have hr10 := cond_t hb5 hr9
      have hf23 := Fr.conv hf22 (congrArg (fun z => ([(1, pB b1 0), (3, vI y1), (4, pB b2 0), (11, .slice o_x0 x0.length c_x0), (12, vI (x0.length : Int)), (13, vI y1), (23, pB b2 1), (24, vI p1.lo), (25, pB b2 2), (26, vI p1.hi), (27, .bool (decide (p1.lo > p1.hi))), (29, .bool z)] : FL)) hb5)
      refine p_qS 25 [] [(1, pB b1 0), (11, .slice o_x0 x0.length c_x0), (12, vI (x0.length : Int)), (13, vI y1), (23, pB b2 1), (24, vI p1.lo), (25, pB b2 2), (26, vI p1.hi), (27, .bool (decide (p1.lo > p1.hi))), (30, undef), (31, undef), (32, undef), (35, undef), (36, undef), (37, undef), (40, undef), (41, undef), (42, undef), (43, undef), (44, undef), (45, undef), (46, undef), (47, undef), (48, undef), (49, undef), (50, undef), (51, undef), (52, undef), (53, undef), (54, .bool true)] [] [] s2 hf23 (by kernel_rfl) (fun _ s => .nil) .nil fun a19 hf24 => ?_
      refine p_dt (by kernel_rfl) ?_
      have hf25 := Fr.keep (ks := [1, 11, 12, 13, 54]) (r := [(1, pB b1 0), (11, .slice o_x0 x0.length c_x0), (12, vI (x0.length : Int)), (13, vI y1), (54, .bool true)]) hf24 (by kernel_rfl)
      exact ⟨z4, true, k4, hf25, hS7, hr10⟩
     ·have hr11 := cond_f hb5 hr9
      have hf26 := Fr.conv hf22 (congrArg (fun z => ([(1, pB b1 0), (3, vI y1), (4, pB b2 0), (11, .slice o_x0 x0.length c_x0), (12, vI (x0.length : Int)), (13, vI y1), (23, pB b2 1), (24, vI p1.lo), (25, pB b2 2), (26, vI p1.hi), (27, .bool (decide (p1.lo > p1.hi))), (29, .bool z)] : FL)) hb5)
      refine p_qS 5 [vI p1.lo] [(1, pB b1 0), (3, vI y1), (4, pB b2 0), (11, .slice o_x0 x0.length c_x0), (12, vI (x0.length : Int)), (13, vI y1), (23, pB b2 1), (24, vI p1.lo), (25, pB b2 2), (26, vI p1.hi), (27, .bool (decide (p1.lo > p1.hi))), (30, pB b2 1), (31, vI p1.lo), (32, .bool (decide (p1.lo < (-1000000000 : Int)))), (34, .bool (decide (p1.lo < (-1000000000 : Int))))] [.cell ⟨b2, 1, none⟩ (vI p1.lo)] [] s2 hf26 (by kernel_rfl) (fun _ s => (.cell (s.box (i := 0) rfl (j := 1) rfl) .nil)) .nil fun a20 hf27 => ?_
      rcases Bool.eq_false_or_eq_true (decide (p1.lo < (-1000000000 : Int))) with hb6 | hb6
      ·have hr12 := cond_t hb6 hr11
       have hf28 := Fr.conv hf27 (congrArg (fun z => ([(1, pB b1 0), (3, vI y1), (4, pB b2 0), (11, .slice o_x0 x0.length c_x0), (12, vI (x0.length : Int)), (13, vI y1), (23, pB b2 1), (24, vI p1.lo), (25, pB b2 2), (26, vI p1.hi), (27, .bool (decide (p1.lo > p1.hi))), (30, pB b2 1), (31, vI p1.lo), (32, .bool (decide (p1.lo < (-1000000000 : Int)))), (34, .bool z)] : FL)) hb6)
       refine p_qS 20 [] [(1, pB b1 0), (11, .slice o_x0 x0.length c_x0), (12, vI (x0.length : Int)), (13, vI y1), (23, pB b2 1), (24, vI p1.lo), (25, pB b2 2), (26, vI p1.hi), (27, .bool (decide (p1.lo > p1.hi))), (30, pB b2 1), (31, vI p1.lo), (32, .bool (decide (p1.lo < (-1000000000 : Int)))), (35, undef), (36, undef), (37, undef), (40, undef), (41, undef), (42, undef), (43, undef), (44, undef), (45, undef), (46, undef), (47, undef), (48, undef), (49, undef), (50, undef), (51, undef), (52, undef), (53, undef), (54, .bool true)] [] [] s2 hf28 (by kernel_rfl) (fun _ s => .nil) .nil fun a21 hf29 => ?_
       refine p_dt (by kernel_rfl) ?_
       have hf30 := Fr.keep (ks := [1, 11, 12, 13, 54]) (r := [(1, pB b1 0), (11, .slice o_x0 x0.length c_x0), (12, vI (x0.length : Int)), (13, vI y1), (54, .bool true)]) hf29 (by kernel_rfl)
       exact ⟨z4, true, k4, hf30, hS7, hr12⟩
      ·have hr13 := cond_f hb6 hr11
       have hf31 := Fr.conv hf27 (congrArg (fun z => ([(1, pB b1 0), (3, vI y1), (4, pB b2 0), (11, .slice o_x0 x0.length c_x0), (12, vI (x0.length : Int)), (13, vI y1), (23, pB b2 1), (24, vI p1.lo), (25, pB b2 2), (26, vI p1.hi), (27, .bool (decide (p1.lo > p1.hi))), (30, pB b2 1), (31, vI p1.lo), (32, .bool (decide (p1.lo < (-1000000000 : Int)))), (34, .bool z)] : FL)) hb6)
       refine p_qS 5 [vI p1.hi] [(1, pB b1 0), (3, vI y1), (4, pB b2 0), (11, .slice o_x0 x0.length c_x0), (12, vI (x0.length : Int)), (13, vI y1), (23, pB b2 1), (24, vI p1.lo), (25, pB b2 2), (26, vI p1.hi), (27, .bool (decide (p1.lo > p1.hi))), (30, pB b2 1), (31, vI p1.lo), (32, .bool (decide (p1.lo < (-1000000000 : Int)))), (35, pB b2 2), (36, vI p1.hi), (37, .bool (decide (p1.hi > (1000000000 : Int)))), (39, .bool (decide (p1.hi > (1000000000 : Int))))] [.cell ⟨b2, 2, none⟩ (vI p1.hi)] [] s2 hf31 (by kernel_rfl) (fun _ s => (.cell (s.box (i := 0) rfl (j := 2) rfl) .nil)) .nil fun a22 hf32 => ?_
       rcases Bool.eq_false_or_eq_true (decide (p1.hi > (1000000000 : Int))) with hb7 | hb7
       ·have hr14 := cond_t hb7 hr13
        have hf33 := Fr.conv hf32 (congrArg (fun z => ([(1, pB b1 0), (3, vI y1), (4, pB b2 0), (11, .slice o_x0 x0.length c_x0), (12, vI (x0.length : Int)), (13, vI y1), (23, pB b2 1), (24, vI p1.lo), (25, pB b2 2), (26, vI p1.hi), (27, .bool (decide (p1.lo > p1.hi))), (30, pB b2 1), (31, vI p1.lo), (32, .bool (decide (p1.lo < (-1000000000 : Int)))), (35, pB b2 2), (36, vI p1.hi), (37, .bool (decide (p1.hi > (1000000000 : Int)))), (39, .bool z)] : FL)) hb7)
        refine p_qS 15 [] [(1, pB b1 0), (11, .slice o_x0 x0.length c_x0), (12, vI (x0.length : Int)), (13, vI y1), (23, pB b2 1), (24, vI p1.lo), (25, pB b2 2), (26, vI p1.hi), (27, .bool (decide (p1.lo > p1.hi))), (30, pB b2 1), (31, vI p1.lo), (32, .bool (decide (p1.lo < (-1000000000 : Int)))), (35, pB b2 2), (36, vI p1.hi), (37, .bool (decide (p1.hi > (1000000000 : Int)))), (40, undef), (41, undef), (42, undef), (43, undef), (44, undef), (45, undef), (46, undef), (47, undef), (48, undef), (49, undef), (50, undef), (51, undef), (52, undef), (53, undef), (54, .bool true)] [] [] s2 hf33 (by kernel_rfl) (fun _ s => .nil) .nil fun a23 hf34 => ?_
        refine p_dt (by kernel_rfl) ?_
        have hf35 := Fr.keep (ks := [1, 11, 12, 13, 54]) (r := [(1, pB b1 0), (11, .slice o_x0 x0.length c_x0), (12, vI (x0.length : Int)), (13, vI y1), (54, .bool true)]) hf34 (by kernel_rfl)
        exact ⟨z4, true, k4, hf35, hS7, hr14⟩
       ·have hr15 := cond_f hb7 hr13
        have hf36 := Fr.conv hf32 (congrArg (fun z => ([(1, pB b1 0), (3, vI y1), (4, pB b2 0), (11, .slice o_x0 x0.length c_x0), (12, vI (x0.length : Int)), (13, vI y1), (23, pB b2 1), (24, vI p1.lo), (25, pB b2 2), (26, vI p1.hi), (27, .bool (decide (p1.lo > p1.hi))), (30, pB b2 1), (31, vI p1.lo), (32, .bool (decide (p1.lo < (-1000000000 : Int)))), (35, pB b2 2), (36, vI p1.hi), (37, .bool (decide (p1.hi > (1000000000 : Int)))), (39, .bool z)] : FL)) hb7)
        refine p_qS 3 [] [(1, pB b1 0), (3, vI y1), (4, pB b2 0), (11, .slice o_x0 x0.length c_x0), (12, vI (x0.length : Int)), (13, vI y1), (23, pB b2 1), (24, vI p1.lo), (25, pB b2 2), (26, vI p1.hi), (27, .bool (decide (p1.lo > p1.hi))), (30, pB b2 1), (31, vI p1.lo), (32, .bool (decide (p1.lo < (-1000000000 : Int)))), (35, pB b2 2), (36, vI p1.hi), (37, .bool (decide (p1.hi > (1000000000 : Int)))), (39, .bool false), (40, vI y1), (41, .bool (decide (y1 > (0 : Int)))), (42, .bool (decide (y1 > (0 : Int))))] [] [] s2 hf36 (by kernel_rfl) (fun _ s => .nil) .nil fun a24 hf37 => ?_
        rcases Bool.eq_false_or_eq_true (decide (y1 > (0 : Int))) with hb8 | hb8
        ·have hr16 := cond_t hb8 hr15
         have hf38 := Fr.conv hf37 (congrArg (fun z => ([(1, pB b1 0), (3, vI y1), (4, pB b2 0), (11, .slice o_x0 x0.length c_x0), (12, vI (x0.length : Int)), (13, vI y1), (23, pB b2 1), (24, vI p1.lo), (25, pB b2 2), (26, vI p1.hi), (27, .bool (decide (p1.lo > p1.hi))), (30, pB b2 1), (31, vI p1.lo), (32, .bool (decide (p1.lo < (-1000000000 : Int)))), (35, pB b2 2), (36, vI p1.hi), (37, .bool (decide (p1.hi > (1000000000 : Int)))), (39, .bool false), (40, vI y1), (41, .bool (decide (y1 > (0 : Int)))), (42, .bool z)] : FL)) hb8)
         obtain ⟨p2, hp2857, hr17⟩ := bind_some hr16
         obtain ⟨ad2, ho2, hb9, cc2, hc2, hk2⟩ := SliceR.getI (SliceR.mono (Zone.le_trans k2 k3) hx_x0) hp2857
         subst hc2
         refine p_qS 12 [.slice o_x0 x0.length c_x0, .pointer (some ad2), vI p2.x, vI p1.x] [(1, pB b1 0), (11, .slice o_x0 x0.length c_x0), (12, vI (x0.length : Int)), (13, vI y1), (23, pB b2 1), (24, vI p1.lo), (25, pB b2 2), (26, vI p1.hi), (27, .bool (decide (p1.lo > p1.hi))), (30, pB b2 1), (31, vI p1.lo), (32, .bool (decide (p1.lo < (-1000000000 : Int)))), (35, pB b2 2), (36, vI p1.hi), (37, .bool (decide (p1.hi > (1000000000 : Int)))), (40, vI y1), (41, .bool (decide (y1 > (0 : Int)))), (42, .bool true), (43, pB b1 0), (44, .slice o_x0 x0.length c_x0), (45, vI y1), (46, vI (w64 (y1 - (1 : Int)))), (47, .pointer (some (ad2.add (Int.toNat (w64 (y1 - (1 : Int))) * 3)))), (48, .pointer (some (ad2.add (Int.toNat (w64 (y1 - (1 : Int))) * 3)))), (49, vI p2.x), (50, pB b2 0), (51, vI p1.x), (52, .bool (decide (p2.x ≥ p1.x))), (53, .bool (decide (p2.x ≥ p1.x))), (54, .bool (decide (p2.x ≥ p1.x)))] [.cell ⟨b1, 0, none⟩ (.slice o_x0 x0.length c_x0), .prop (o_x0 = some ad2), .prop (0 ≤ (w64 (y1 - (1 : Int))) ∧ (w64 (y1 - (1 : Int))) < (x0.length : Nat)), .cell ((ad2.add (Int.toNat (w64 (y1 - (1 : Int))) * 3)).add 0) (vI p2.x), .cell ⟨b2, 0, none⟩ (vI p1.x)] [] s2 hf38 (by kernel_rfl) (fun _ s => (.cell (s.box (i := 1) rfl (j := 0) rfl) (.prop ho2 (.prop hb9 (.cell (s.cell (hk2 0 _ rfl)) (.cell (s.box (i := 0) rfl (j := 0) rfl) .nil)))))) .nil fun a25 hf39 => ?_
         refine p_dt (by kernel_rfl) ?_
         have hf40 := Fr.keep (ks := [1, 11, 12, 13, 54]) (r := [(1, pB b1 0), (11, .slice o_x0 x0.length c_x0), (12, vI (x0.length : Int)), (13, vI y1), (54, .bool (decide (p2.x ≥ p1.x)))]) hf39 (by kernel_rfl)
         exact ⟨z4, (decide (p2.x ≥ p1.x)), k4, hf40, hS7, hr17⟩
        ·have hr18 := cond_f hb8 hr15
         have hf41 := Fr.conv hf37 (congrArg (fun z => ([(1, pB b1 0), (3, vI y1), (4, pB b2 0), (11, .slice o_x0 x0.length c_x0), (12, vI (x0.length : Int)), (13, vI y1), (23, pB b2 1), (24, vI p1.lo), (25, pB b2 2), (26, vI p1.hi), (27, .bool (decide (p1.lo > p1.hi))), (30, pB b2 1), (31, vI p1.lo), (32, .bool (decide (p1.lo < (-1000000000 : Int)))), (35, pB b2 2), (36, vI p1.hi), (37, .bool (decide (p1.hi > (1000000000 : Int)))), (39, .bool false), (40, vI y1), (41, .bool (decide (y1 > (0 : Int)))), (42, .bool z)] : FL)) hb8)
         refine p_qS 12 [] [(1, pB b1 0), (11, .slice o_x0 x0.length c_x0), (12, vI (x0.length : Int)), (13, vI y1), (23, pB b2 1), (24, vI p1.lo), (25, pB b2 2), (26, vI p1.hi), (27, .bool (decide (p1.lo > p1.hi))), (30, pB b2 1), (31, vI p1.lo), (32, .bool (decide (p1.lo < (-1000000000 : Int)))), (35, pB b2 2), (36, vI p1.hi), (37, .bool (decide (p1.hi > (1000000000 : Int)))), (40, vI y1), (41, .bool (decide (y1 > (0 : Int)))), (42, .bool false), (43, undef), (44, undef), (45, undef), (46, undef), (47, undef), (48, undef), (49, undef), (50, undef), (51, undef), (52, undef), (53, .bool false), (54, .bool false)] [] [] s2 hf41 (by kernel_rfl) (fun _ s => .nil) .nil fun a26 hf42 => ?_
         refine p_dt (by kernel_rfl) ?_
         have hf43 := Fr.keep (ks := [1, 11, 12, 13, 54]) (r := [(1, pB b1 0), (11, .slice o_x0 x0.length c_x0), (12, vI (x0.length : Int)), (13, vI y1), (54, .bool false)]) hf42 (by kernel_rfl)
         exact ⟨z4, false, k4, hf43, hS7, hr18⟩
   ·rintro a27 ww7 ⟨z3, y2, k5, hf44, hS8, hr19⟩
    refine w_if hf44 (b := y2) (by kernel_rfl) (fun hb10 => ?_) (fun hb10 => ?_)
    ·have hr20 := cond_t hb10 hr19
     refine w_sq [] [(2, vI 11)] [] hf44 (by kernel_rfl) .nil fun a28 hf45 => ?_
     refine w_ret (by kernel_rfl) ?_
     refine r_block ?_
     refine r_then ?_
     refine r_then ?_
     refine r_block ?_
     refine r_then ?_
     refine p_ret (os := []) (v := vI 11) (obs := []) hf45 (by kernel_rfl) .nil ?_
     obtain rfl := some_eq hr20
     exact ⟨_, rfl, z3, (Zone.le_trans (Zone.le_trans k2 k3) k5), rfl, (St.drop 2 hS8)⟩
    ·have hr21 := cond_f hb10 hr19
     refine w_skip (by kernel_rfl) ?_
     refine n_block ?_
     refine n_then ?_
     refine w_q [] [(1, pB b1 0), (11, .slice o_x0 x0.length c_x0), (12, vI (x0.length : Int)), (13, vI (w64 (y1 + (1 : Int))))] [] hf44 (by kernel_rfl) .nil fun a29 hf46 => ?_
     refine n_then ?_
     have hf47 := Fr.keep (ks := [1, 11, 12, 13]) (r := [(1, pB b1 0), (11, .slice o_x0 x0.length c_x0), (12, vI (x0.length : Int)), (13, vI (w64 (y1 + (1 : Int))))]) hf46 (by kernel_rfl)
     exact ⟨n1, Nat.lt_succ_self n1, z3, (w64 (y1 + (1 : Int))), (Zone.le_trans k3 k5), hf47, (St.drop 1 hS8), hr21⟩
  ·have hr22 := cond_f hb2 hr4
   refine w_exit (id := 0) (by kernel_rfl) ?_
   refine x_then ?_
   refine x_then ?_
   refine x_block ?_
   refine n_then ?_
   refine w_sq [] [(2, vI 0)] [] hf10 (by kernel_rfl) .nil fun a30 hf48 => ?_
   refine w_ret (by kernel_rfl) ?_
   refine p_ret (os := []) (v := vI 0) (obs := []) hf48 (by kernel_rfl) .nil ?_
   obtain rfl := some_eq hr22
   exact ⟨_, rfl, z2, (Zone.le_trans k2 k3), rfl, (St.drop 1 hS3)⟩
def F72 (fuel : Nat) (x0 : List Pt) : Option (Int × Int) :=
  ((getI x0 0).bind fun p1 => ((getI x0 (w64 ((x0.length : Int) - (1 : Int)))).bind fun p2 => (some (p1.x, p2.x))))
set_option maxRecDepth 100000 in
theorem f72_ok (fuel : Nat) (x0 : List Pt) (r : Int × Int) (hr : F72 fuel x0 = some r) (h : Zone) (L : List Atom) (w : World) (hS : St h L w) (o_x0 : Option Addr) (c_x0 : Nat) (hx_x0 : SliceR PtT h o_x0 c_x0 x0) :
    Calls Tryz.prog 72 #[.agg #[.slice o_x0 x0.length c_x0]] w fun e w' => ∃ v, e = .returned v ∧ (v = .agg #[vI r.1, vI r.2] ∧ St h L w') := by
 refine calls_intro (N := 18) Tryz.func72 (by kernel_rfl) fun a hf => ?_
 refine w_sr (by kernel_rfl) ?_
 refine p_box (i := 0) (d := (some 1)) (cs := [.slice o_x0 x0.length c_x0]) (T := 24) (v := fun b1 => pB b1 0) hS hf (fun b => by kernel_rfl) fun b1 ww1 a1 hS1 hf1 => ⟨fun _ => trivial, ?_⟩
 refine p_box (i := 1) (d := (some 2)) (cs := [vI 0, vI 0]) (T := 59) (v := fun b2 => pB b2 0) hS1 hf1 (fun b => by kernel_rfl) fun b2 ww2 a2 hS2 hf2 => ⟨fun _ => trivial, ?_⟩
 refine p_dt (by kernel_rfl) ?_
 refine w_seq (by kernel_rfl) ?_
 have hS3 := hS2.drew
 refine w_regD (by kernel_rfl) [(0, true), (1, true), (2, true), (3, true), (4, true), (5, true), (6, true), (7, true), (8, true), (9, true), (10, true), (11, true), (12, true), (13, true), (14, true), (15, false)] [15] (fun x => x = ww2.drew) (by kernel_rfl) rfl ?_
 obtain ⟨p1, hp13, hr1⟩ := bind_some hr
 obtain ⟨ad1, ho1, hb1, cc1, hc1, hk1⟩ := SliceR.getI hx_x0 hp13
 subst hc1
 obtain ⟨p2, hp22, hr2⟩ := bind_some hr1
 obtain ⟨ad2, ho2, hb2, cc2, hc2, hk2⟩ := SliceR.getI hx_x0 hp22
 subst hc2
 refine p_qE 15 [.slice o_x0 x0.length c_x0, .pointer (some ad1), vI p1.x, .slice o_x0 x0.length c_x0, .slice o_x0 x0.length c_x0, .pointer (some ad2), vI p2.x] [(2, pB b2 0), (17, .agg #[vI p1.x, vI p2.x])] [.cell ⟨b1, 0, none⟩ (.slice o_x0 x0.length c_x0), .prop (o_x0 = some ad1), .prop (0 ≤ (0 : Int) ∧ (0 : Int) < (x0.length : Nat)), .cell ((ad1.add (Int.toNat 0 * 3)).add 0) (vI p1.x), .cell ⟨b1, 0, none⟩ (.slice o_x0 x0.length c_x0), .cell ⟨b1, 0, none⟩ (.slice o_x0 x0.length c_x0), .prop (o_x0 = some ad2), .prop (0 ≤ (w64 ((x0.length : Int) - (1 : Int))) ∧ (w64 ((x0.length : Int) - (1 : Int))) < (x0.length : Nat)), .cell ((ad2.add (Int.toNat (w64 ((x0.length : Int) - (1 : Int))) * 3)).add 0) (vI p2.x)] [] hf2 (by kernel_rfl) (.cell (hS3.box (i := 1) rfl (j := 0) rfl) (.prop ho1 (.prop hb1 (.cell (hS3.cell (hk1 0 _ rfl)) (.cell (hS3.box (i := 1) rfl (j := 0) rfl) (.cell (hS3.box (i := 1) rfl (j := 0) rfl) (.prop ho2 (.prop hb2 (.cell (hS3.cell (hk2 0 _ rfl)) .nil))))))))) .nil fun a3 hf3 => ?_
 refine p_store_eq (i := 15) (j := 0) (b := b2) (off := 0) (vs := [vI p1.x, vI p2.x]) (cs' := [vI p1.x, vI p2.x]) hS3 hf3 rfl (by kernel_rfl) (by kernel_rfl) rfl fun ww3 a4 hS4 hf4 => ⟨fun e => absurd e (by decide), ?_⟩
 refine p_dt (by kernel_rfl) ?_
 refine w_ret (by kernel_rfl) ?_
 refine p_ret (os := [vI p1.x, vI p2.x]) (v := .agg #[vI p1.x, vI p2.x]) (obs := [.cell ⟨b2, 0, none⟩ (vI p1.x), .cell ⟨b2, 1, none⟩ (vI p2.x)]) hf4 (by kernel_rfl) (.cell (hS4.box (i := 0) rfl (j := 0) rfl) (.cell (hS4.box (i := 0) rfl (j := 1) rfl) .nil)) ?_
 obtain rfl := some_eq hr2
 exact ⟨_, rfl, rfl, (St.drop 2 hS4)⟩
def F43_j1 (y1 : Bool) : Option (Bool) :=
  (some (y1))
def F43 (fuel : Nat) (x0 : List Pt) (x1_lo : Int) (x1_hi : Int) : Option (Bool) :=
  ((F72 fuel x0).bind fun r1 => (cond (decide (r1.1 ≤ x1_lo)) (F43_j1 (decide (x1_hi ≤ r1.2))) (F43_j1 false)))
set_option maxRecDepth 100000 in
theorem f43_ok (fuel : Nat) (x0 : List Pt) (x1_lo : Int) (x1_hi : Int) (r : Bool) (hr : F43 fuel x0 x1_lo x1_hi = some r) (h : Zone) (L : List Atom) (w : World) (hS : St h L w) (o_x0 : Option Addr) (c_x0 : Nat) (hx_x0 : SliceR PtT h o_x0 c_x0 x0) :
    Calls Tryz.prog 43 #[.agg #[.slice o_x0 x0.length c_x0], .agg #[vI x1_lo, vI x1_hi]] w fun e w' => ∃ v, e = .returned v ∧ (∃ h', Zone.le h h' ∧ v = .bool r ∧ St h' L w') := by
 refine calls_intro (N := 20) Tryz.func43 (by kernel_rfl) fun a hf => ?_
 refine w_sr (by kernel_rfl) ?_
 refine p_box (i := 0) (d := (some 2)) (cs := [.slice o_x0 x0.length c_x0]) (T := 24) (v := fun b1 => pB b1 0) hS hf (fun b => by kernel_rfl) fun b1 ww1 a1 hS1 hf1 => ⟨fun _ => trivial, ?_⟩
 refine p_box (i := 1) (d := (some 3)) (cs := [vI x1_lo, vI x1_hi]) (T := 59) (v := fun b2 => pB b2 0) hS1 hf1 (fun b => by kernel_rfl) fun b2 ww2 a2 hS2 hf2 => ⟨fun _ => trivial, ?_⟩
 refine p_qt [] [(2, pB b1 0), (3, pB b2 0)] [] hf2 (by kernel_rfl) .nil fun a3 hf3 => ?_
 refine w_sr (by kernel_rfl) ?_
 refine p_qn 1 [.slice o_x0 x0.length c_x0] [(3, pB b2 0), (6, .agg #[.slice o_x0 x0.length c_x0])] [.cell ⟨b1, 0, none⟩ (.slice o_x0 x0.length c_x0)] hf3 (by kernel_rfl) (.cell (hS2.box (i := 1) rfl (j := 0) rfl) .nil) fun a4 hf4 => ?_
 obtain ⟨r1, hd1, hr1⟩ := bind_some hr
 refine p_call (i := 1) (d := some 7) (f := 72) (args := #[.agg #[.slice o_x0 x0.length c_x0]]) hf4 (by kernel_rfl) (f72_ok fuel x0 r1 hd1 h _ _ hS2 o_x0 c_x0 hx_x0) ?_
 rintro v1 ww3 a5 ⟨rfl, hS3⟩ hf5
 refine ⟨fun _ => trivial, ?_⟩
 refine p_box (i := 2) (d := (some 5)) (cs := [vI 0, vI 0]) (T := 59) (v := fun b3 => pB b3 0) hS3 hf5 (fun b => by kernel_rfl) fun b3 ww4 a6 hS4 hf6 => ⟨fun _ => trivial, ?_⟩
 refine p_store_eq (i := 3) (j := 0) (b := b3) (off := 0) (vs := [vI r1.1, vI r1.2]) (cs' := [vI r1.1, vI r1.2]) hS4 hf6 rfl (by kernel_rfl) (by kernel_rfl) rfl fun ww5 a7 hS5 hf7 => ⟨fun _ => trivial, ?_⟩
 refine p_dt (by kernel_rfl) ?_
 refine w_mid (by kernel_rfl) (fun a w => ∃ z1 : Zone, ∃ y1 : Bool, Zone.le h z1 ∧ Fr a 20 [(4, .bool y1)] ∧ St z1 (box b3 [vI r1.1, vI r1.2] 59 :: box b2 [vI x1_lo, vI x1_hi] 59 :: box b1 [.slice o_x0 x0.length c_x0] 24 :: L) w ∧ (F43_j1 y1) = some r) ?_ ?_
 ·skip
  refine w_reg (by kernel_rfl) ?_
  refine p_qn 6 [vI r1.1, vI x1_lo] [(3, pB b2 0), (5, pB b3 0), (13, .bool (decide (r1.1 ≤ x1_lo)))] [.cell ⟨b3, 0, none⟩ (vI r1.1), .cell ⟨b2, 0, none⟩ (vI x1_lo)] hf7 (by kernel_rfl) (.cell (hS5.box (i := 0) rfl (j := 0) rfl) (.cell (hS5.box (i := 1) rfl (j := 0) rfl) .nil)) fun a8 hf8 => ?_
  rcases Bool.eq_false_or_eq_true (decide (r1.1 ≤ x1_lo)) with hb1 | hb1
  ·have hr2 := cond_t hb1 hr1
   have hf9 := Fr.conv hf8 (congrArg (fun z => ([(3, pB b2 0), (5, pB b3 0), (13, .bool z)] : FL)) hb1)
   refine p_qt [vI x1_hi, vI r1.2] [(4, .bool (decide (x1_hi ≤ r1.2)))] [.cell ⟨b2, 1, none⟩ (vI x1_hi), .cell ⟨b3, 1, none⟩ (vI r1.2)] hf9 (by kernel_rfl) (.cell (hS5.box (i := 1) rfl (j := 1) rfl) (.cell (hS5.box (i := 0) rfl (j := 1) rfl) .nil)) fun a9 hf10 => ?_
   have hf11 := Fr.keep (ks := [4]) (r := [(4, .bool (decide (x1_hi ≤ r1.2)))]) hf10 (by kernel_rfl)
   exact ⟨h, (decide (x1_hi ≤ r1.2)), (Zone.le_refl _), hf11, hS5, hr2⟩
  ·have hr3 := cond_f hb1 hr1
   have hf12 := Fr.conv hf8 (congrArg (fun z => ([(3, pB b2 0), (5, pB b3 0), (13, .bool z)] : FL)) hb1)
   refine p_qt [] [(4, .bool false)] [] hf12 (by kernel_rfl) .nil fun a10 hf13 => ?_
   have hf14 := Fr.keep (ks := [4]) (r := [(4, .bool false)]) hf13 (by kernel_rfl)
   exact ⟨h, false, (Zone.le_refl _), hf14, hS5, hr3⟩
 ·rintro a11 ww6 ⟨z1, y1, k1, hf15, hS6, hr4⟩
  refine w_ret (by kernel_rfl) ?_
  refine p_ret (os := []) (v := .bool y1) (obs := []) hf15 (by kernel_rfl) .nil ?_
  obtain rfl := some_eq hr4
  exact ⟨_, rfl, z1, k1, rfl, (St.drop 3 hS6)⟩
def F74 (fuel : Nat) (x0_a_x : Int) (x0_a_lo : Int) (x0_a_hi : Int) (x0_b_x : Int) (x0_b_lo : Int) (x0_b_hi : Int) (x1 : Int) : Option (Bool) :=
  ((F32 fuel x1 x0_a_x x0_b_x).bind fun r1 => (some (r1)))
set_option maxRecDepth 100000 in
theorem f74_ok (fuel : Nat) (x0_a_x : Int) (x0_a_lo : Int) (x0_a_hi : Int) (x0_b_x : Int) (x0_b_lo : Int) (x0_b_hi : Int) (x1 : Int) (r : Bool) (hr : F74 fuel x0_a_x x0_a_lo x0_a_hi x0_b_x x0_b_lo x0_b_hi x1 = some r) (h : Zone) (L : List Atom) (w : World) (hS : St h L w)  :
    Calls Tryz.prog 74 #[.agg #[vI x0_a_x, vI x0_a_lo, vI x0_a_hi, vI x0_b_x, vI x0_b_lo, vI x0_b_hi], vI x1] w fun e w' => ∃ v, e = .returned v ∧ (∃ h', Zone.le h h' ∧ v = .bool r ∧ St h' L w') := by
 refine calls_intro (N := 13) Tryz.func74 (by kernel_rfl) fun a hf => ?_
 refine w_sr (by kernel_rfl) ?_
 refine p_box (i := 0) (d := (some 2)) (cs := [vI x0_a_x, vI x0_a_lo, vI x0_a_hi, vI x0_b_x, vI x0_b_lo, vI x0_b_hi]) (T := 118) (v := fun b1 => pB b1 0) hS hf (fun b => by kernel_rfl) fun b1 ww1 a1 hS1 hf1 => ⟨fun _ => trivial, ?_⟩
 refine p_qt [] [(1, vI x1), (2, pB b1 0)] [] hf1 (by kernel_rfl) .nil fun a2 hf2 => ?_
 refine w_sr (by kernel_rfl) ?_
 refine p_qn 7 [vI x0_a_x, vI x0_b_x] [(5, vI x1), (8, vI x0_a_x), (11, vI x0_b_x)] [.cell ⟨b1, 0, none⟩ (vI x0_a_x), .cell ⟨b1, 3, none⟩ (vI x0_b_x)] hf2 (by kernel_rfl) (.cell (hS1.box (i := 0) rfl (j := 0) rfl) (.cell (hS1.box (i := 0) rfl (j := 3) rfl) .nil)) fun a3 hf3 => ?_
 obtain ⟨r1, hd1, hr1⟩ := bind_some hr
 refine p_call (i := 7) (d := some 12) (f := 32) (args := #[vI x1, vI x0_a_x, vI x0_b_x]) hf3 (by kernel_rfl) (f32_ok fuel x1 x0_a_x x0_b_x r1 hd1 h _ _ hS1 ) ?_
 rintro v1 ww2 a4 ⟨z1, k1, rfl, hS2⟩ hf4
 refine ⟨fun _ => trivial, ?_⟩
 refine p_qt [] [(4, .bool r1)] [] hf4 (by kernel_rfl) .nil fun a5 hf5 => ?_
 refine w_ret (by kernel_rfl) ?_
 refine p_ret (os := []) (v := .bool r1) (obs := []) hf5 (by kernel_rfl) .nil ?_
 obtain rfl := some_eq hr1
 exact ⟨_, rfl, z1, k1, rfl, (St.drop 1 hS2)⟩
def F102 (fuel : Nat) (x0_a_x : Int) (x0_a_lo : Int) (x0_a_hi : Int) (x0_b_x : Int) (x0_b_lo : Int) (x0_b_hi : Int) (x1 : Int) (x2 : Int) (x3 : Int) : Option (Int × Int) :=
  (cond ((x0_a_x == x0_b_x) && ((x0_a_lo == x0_b_lo) && ((x0_a_hi == x0_b_hi) && true))) (some (x1, 1)) (some ((w64 ((w64 (x1 * (w64 (x0_b_x - x3)))) + (w64 (x2 * (w64 (x3 - x0_a_x)))))), (w64 (x0_b_x - x0_a_x)))))
set_option maxRecDepth 100000 in
theorem f102_ok (fuel : Nat) (x0_a_x : Int) (x0_a_lo : Int) (x0_a_hi : Int) (x0_b_x : Int) (x0_b_lo : Int) (x0_b_hi : Int) (x1 : Int) (x2 : Int) (x3 : Int) (r : Int × Int) (hr : F102 fuel x0_a_x x0_a_lo x0_a_hi x0_b_x x0_b_lo x0_b_hi x1 x2 x3 = some r) (h : Zone) (L : List Atom) (w : World) (hS : St h L w)  :
    Calls Tryz.prog 102 #[.agg #[vI x0_a_x, vI x0_a_lo, vI x0_a_hi, vI x0_b_x, vI x0_b_lo, vI x0_b_hi], vI x1, vI x2, vI x3] w fun e w' => ∃ v, e = .returned v ∧ (v = .tuple #[vI r.1, vI r.2] ∧ St h L w') := by
 refine calls_intro (N := 38) Tryz.func102 (by kernel_rfl) fun a hf => ?_
 refine w_sr (by kernel_rfl) ?_
 refine p_box (i := 0) (d := (some 4)) (cs := [vI x0_a_x, vI x0_a_lo, vI x0_a_hi, vI x0_b_x, vI x0_b_lo, vI x0_b_hi]) (T := 118) (v := fun b1 => pB b1 0) hS hf (fun b => by kernel_rfl) fun b1 ww1 a1 hS1 hf1 => ⟨fun _ => trivial, ?_⟩
 refine p_qt [] [(1, vI x1), (2, vI x2), (3, vI x3), (4, pB b1 0)] [] hf1 (by kernel_rfl) .nil fun a2 hf2 => ?_
 refine w_seq (by kernel_rfl) ?_
 refine w_sq [vI x0_a_x, vI x0_a_lo, vI x0_a_hi, vI x0_b_x, vI x0_b_lo, vI x0_b_hi] [(1, vI x1), (2, vI x2), (3, vI x3), (4, pB b1 0), (14, .bool ((x0_a_x == x0_b_x) && ((x0_a_lo == x0_b_lo) && ((x0_a_hi == x0_b_hi) && true))))] [.cell ⟨b1, 0, none⟩ (vI x0_a_x), .cell ⟨b1, 1, none⟩ (vI x0_a_lo), .cell ⟨b1, 2, none⟩ (vI x0_a_hi), .cell ⟨b1, 3, none⟩ (vI x0_b_x), .cell ⟨b1, 4, none⟩ (vI x0_b_lo), .cell ⟨b1, 5, none⟩ (vI x0_b_hi)] hf2 (by kernel_rfl) (.cell (hS1.box (i := 0) rfl (j := 0) rfl) (.cell (hS1.box (i := 0) rfl (j := 1) rfl) (.cell (hS1.box (i := 0) rfl (j := 2) rfl) (.cell (hS1.box (i := 0) rfl (j := 3) rfl) (.cell (hS1.box (i := 0) rfl (j := 4) rfl) (.cell (hS1.box (i := 0) rfl (j := 5) rfl) .nil)))))) fun a3 hf3 => ?_
 refine w_if hf3 (b := ((x0_a_x == x0_b_x) && ((x0_a_lo == x0_b_lo) && ((x0_a_hi == x0_b_hi) && true)))) (by kernel_rfl) (fun hb1 => ?_) (fun hb1 => ?_)
 ·have hr1 := cond_t hb1 hr
  refine w_sq [] [(8, vI x1), (9, vI 1)] [] hf3 (by kernel_rfl) .nil fun a4 hf4 => ?_
  refine w_ret (by kernel_rfl) ?_
  refine r_then ?_
  refine p_ret (os := []) (v := .tuple #[vI x1, vI 1]) (obs := []) hf4 (by kernel_rfl) .nil ?_
  obtain rfl := some_eq hr1
  exact ⟨_, rfl, rfl, (St.drop 1 hS1)⟩
 ·have hr2 := cond_f hb1 hr
  refine w_skip (by kernel_rfl) ?_
  refine n_then ?_
  have hS2 := hS1.drew
  refine w_sqD [(0, true), (1, true), (2, true), (3, true), (4, true), (5, true), (6, true), (7, true), (8, true), (9, true), (10, true), (11, true), (12, true), (13, true), (14, true), (15, true), (16, true), (17, true), (18, true), (19, true), (20, true), (21, true), (22, true), (23, true)] [] [vI x0_b_x, vI x0_a_x, vI x0_b_x, vI x0_a_x] [(8, vI (w64 ((w64 (x1 * (w64 (x0_b_x - x3)))) + (w64 (x2 * (w64 (x3 - x0_a_x))))))), (9, vI (w64 (x0_b_x - x0_a_x)))] [.cell ⟨b1, 3, none⟩ (vI x0_b_x), .cell ⟨b1, 0, none⟩ (vI x0_a_x), .cell ⟨b1, 3, none⟩ (vI x0_b_x), .cell ⟨b1, 0, none⟩ (vI x0_a_x)] [] hf3 (by kernel_rfl) (.cell (hS2.box (i := 0) rfl (j := 3) rfl) (.cell (hS2.box (i := 0) rfl (j := 0) rfl) (.cell (hS2.box (i := 0) rfl (j := 3) rfl) (.cell (hS2.box (i := 0) rfl (j := 0) rfl) .nil)))) .nil fun a5 hf5 => ?_
  refine w_ret (by kernel_rfl) ?_
  refine p_ret (os := []) (v := .tuple #[vI (w64 ((w64 (x1 * (w64 (x0_b_x - x3)))) + (w64 (x2 * (w64 (x3 - x0_a_x)))))), vI (w64 (x0_b_x - x0_a_x))]) (obs := []) hf5 (by kernel_rfl) .nil ?_
  obtain rfl := some_eq hr2
  exact ⟨_, rfl, rfl, (St.drop 1 hS2)⟩
def F51 (fuel : Nat) (x0 : Int) (x1 : Int) : Option (Int) :=
  ((nz x1).bind fun _ => (cond (decide ((Int.tmod x0 x1) < (0 : Int))) ((nz x1).bind fun _ => (some ((w64 ((w64 (Int.tdiv x0 x1)) - (1 : Int)))))) ((nz x1).bind fun _ => (some ((w64 (Int.tdiv x0 x1)))))))
set_option maxRecDepth 100000 in
theorem f51_ok (fuel : Nat) (x0 : Int) (x1 : Int) (r : Int) (hr : F51 fuel x0 x1 = some r) (h : Zone) (L : List Atom) (w : World) (hS : St h L w)  :
    Calls Tryz.prog 51 #[vI x0, vI x1] w fun e w' => ∃ v, e = .returned v ∧ (v = vI r ∧ St h L w') := by
 refine calls_intro (N := 16) Tryz.func51 (by kernel_rfl) fun a hf => ?_
 refine w_sq [] [(0, vI x0), (1, vI x1)] [] hf (by kernel_rfl) .nil fun a1 hf1 => ?_
 refine w_seq (by kernel_rfl) ?_
 obtain ⟨u1, hd1, hr1⟩ := bind_some hr
 refine w_sq [] [(0, vI x0), (1, vI x1), (8, .bool (decide ((Int.tmod x0 x1) < (0 : Int))))] [.prop (x1 ≠ 0)] hf1 (by kernel_rfl) (.prop (nz_spec hd1) .nil) fun a2 hf2 => ?_
 refine w_if hf2 (b := (decide ((Int.tmod x0 x1) < (0 : Int)))) (by kernel_rfl) (fun hb1 => ?_) (fun hb1 => ?_)
 ·have hr2 := cond_t hb1 hr1
  obtain ⟨u2, hd2, hr3⟩ := bind_some hr2
  refine w_sq [] [(4, vI (w64 ((w64 (Int.tdiv x0 x1)) - (1 : Int))))] [.prop (x1 ≠ 0)] hf2 (by kernel_rfl) (.prop (nz_spec hd2) .nil) fun a3 hf3 => ?_
  refine w_ret (by kernel_rfl) ?_
  refine r_then ?_
  refine p_ret (os := []) (v := vI (w64 ((w64 (Int.tdiv x0 x1)) - (1 : Int)))) (obs := []) hf3 (by kernel_rfl) .nil ?_
  obtain rfl := some_eq hr3
  exact ⟨_, rfl, rfl, hS⟩
 ·have hr4 := cond_f hb1 hr1
  refine w_skip (by kernel_rfl) ?_
  refine n_then ?_
  obtain ⟨u3, hd3, hr5⟩ := bind_some hr4
  refine w_sq [] [(4, vI (w64 (Int.tdiv x0 x1)))] [.prop (x1 ≠ 0)] hf2 (by kernel_rfl) (.prop (nz_spec hd3) .nil) fun a4 hf4 => ?_
  refine w_ret (by kernel_rfl) ?_
  refine p_ret (os := []) (v := vI (w64 (Int.tdiv x0 x1))) (obs := []) hf4 (by kernel_rfl) .nil ?_
  obtain rfl := some_eq hr5
  exact ⟨_, rfl, rfl, hS⟩
def F52 (fuel : Nat) (x0 : Int) (x1 : Int) : Option (Int) :=
  ((F51 fuel (w64 (0 - x0)) x1).bind fun r1 => (some ((w64 (0 - r1)))))
set_option maxRecDepth 100000 in
theorem f52_ok (fuel : Nat) (x0 : Int) (x1 : Int) (r : Int) (hr : F52 fuel x0 x1 = some r) (h : Zone) (L : List Atom) (w : World) (hS : St h L w)  :
    Calls Tryz.prog 52 #[vI x0, vI x1] w fun e w' => ∃ v, e = .returned v ∧ (v = vI r ∧ St h L w') := by
 refine calls_intro (N := 10) Tryz.func52 (by kernel_rfl) fun a hf => ?_
 refine w_sq [] [(0, vI x0), (1, vI x1)] [] hf (by kernel_rfl) .nil fun a1 hf1 => ?_
 refine w_sr (by kernel_rfl) ?_
 refine p_qn 3 [] [(6, vI (w64 (0 - x0))), (7, vI x1)] [] hf1 (by kernel_rfl) .nil fun a2 hf2 => ?_
 obtain ⟨r1, hd1, hr1⟩ := bind_some hr
 refine p_call (i := 3) (d := some 8) (f := 51) (args := #[vI (w64 (0 - x0)), vI x1]) hf2 (by kernel_rfl) (f51_ok fuel (w64 (0 - x0)) x1 r1 hd1 h _ _ hS ) ?_
 rintro v1 ww1 a3 ⟨rfl, hS1⟩ hf3
 refine ⟨fun _ => trivial, ?_⟩
 refine p_qt [] [(4, vI (w64 (0 - r1)))] [] hf3 (by kernel_rfl) .nil fun a4 hf4 => ?_
 refine w_ret (by kernel_rfl) ?_
 refine p_ret (os := []) (v := vI (w64 (0 - r1))) (obs := []) hf4 (by kernel_rfl) .nil ?_
 obtain rfl := some_eq hr1
 exact ⟨_, rfl, rfl, hS1⟩
def F75 (fuel : Nat) (x0_a_x : Int) (x0_a_lo : Int) (x0_a_hi : Int) (x0_b_x : Int) (x0_b_lo : Int) (x0_b_hi : Int) (x1 : Int) : Option (Int × Int) :=
  ((F102 fuel x0_a_x x0_a_lo x0_a_hi x0_b_x x0_b_lo x0_b_hi x0_a_lo x0_b_lo x1).bind fun r1 => ((F102 fuel x0_a_x x0_a_lo x0_a_hi x0_b_x x0_b_lo x0_b_hi x0_a_hi x0_b_hi x1).bind fun r2 => ((F51 fuel r1.1 r1.2).bind fun r3 => ((F52 fuel r2.1 r2.2).bind fun r4 => (some (r3, r4))))))
set_option maxRecDepth 100000 in
theorem f75_ok (fuel : Nat) (x0_a_x : Int) (x0_a_lo : Int) (x0_a_hi : Int) (x0_b_x : Int) (x0_b_lo : Int) (x0_b_hi : Int) (x1 : Int) (r : Int × Int) (hr : F75 fuel x0_a_x x0_a_lo x0_a_hi x0_b_x x0_b_lo x0_b_hi x1 = some r) (h : Zone) (L : List Atom) (w : World) (hS : St h L w)  :
    Calls Tryz.prog 75 #[.agg #[vI x0_a_x, vI x0_a_lo, vI x0_a_hi, vI x0_b_x, vI x0_b_lo, vI x0_b_hi], vI x1] w fun e w' => ∃ v, e = .returned v ∧ (v = .agg #[vI r.1, vI r.2] ∧ St h L w') := by
 refine calls_intro (N := 40) Tryz.func75 (by kernel_rfl) fun a hf => ?_
 refine w_sr (by kernel_rfl) ?_
 refine p_box (i := 0) (d := (some 2)) (cs := [vI x0_a_x, vI x0_a_lo, vI x0_a_hi, vI x0_b_x, vI x0_b_lo, vI x0_b_hi]) (T := 118) (v := fun b1 => pB b1 0) hS hf (fun b => by kernel_rfl) fun b1 ww1 a1 hS1 hf1 => ⟨fun _ => trivial, ?_⟩
 refine p_box (i := 1) (d := (some 4)) (cs := [vI 0, vI 0]) (T := 59) (v := fun b2 => pB b2 0) hS1 hf1 (fun b => by kernel_rfl) fun b2 ww2 a2 hS2 hf2 => ⟨fun _ => trivial, ?_⟩
 refine p_dt (by kernel_rfl) ?_
 refine w_sr (by kernel_rfl) ?_
 refine p_qn 8 [vI x0_a_x, vI x0_a_lo, vI x0_a_hi, vI x0_b_x, vI x0_b_lo, vI x0_b_hi, vI x0_a_lo, vI x0_b_lo] [(1, vI x1), (2, pB b1 0), (4, pB b2 0), (10, .agg #[vI x0_a_x, vI x0_a_lo, vI x0_a_hi, vI x0_b_x, vI x0_b_lo, vI x0_b_hi]), (13, vI x0_a_lo), (16, vI x0_b_lo), (17, vI x1)] [.cell ⟨b1, 0, none⟩ (vI x0_a_x), .cell ⟨b1, 1, none⟩ (vI x0_a_lo), .cell ⟨b1, 2, none⟩ (vI x0_a_hi), .cell ⟨b1, 3, none⟩ (vI x0_b_x), .cell ⟨b1, 4, none⟩ (vI x0_b_lo), .cell ⟨b1, 5, none⟩ (vI x0_b_hi), .cell ⟨b1, 1, none⟩ (vI x0_a_lo), .cell ⟨b1, 4, none⟩ (vI x0_b_lo)] hf2 (by kernel_rfl) (.cell (hS2.box (i := 1) rfl (j := 0) rfl) (.cell (hS2.box (i := 1) rfl (j := 1) rfl) (.cell (hS2.box (i := 1) rfl (j := 2) rfl) (.cell (hS2.box (i := 1) rfl (j := 3) rfl) (.cell (hS2.box (i := 1) rfl (j := 4) rfl) (.cell (hS2.box (i := 1) rfl (j := 5) rfl) (.cell (hS2.box (i := 1) rfl (j := 1) rfl) (.cell (hS2.box (i := 1) rfl (j := 4) rfl) .nil)))))))) fun a3 hf3 => ?_
 obtain ⟨r1, hd1, hr1⟩ := bind_some hr
 refine p_call (i := 8) (d := some 18) (f := 102) (args := #[.agg #[vI x0_a_x, vI x0_a_lo, vI x0_a_hi, vI x0_b_x, vI x0_b_lo, vI x0_b_hi], vI x0_a_lo, vI x0_b_lo, vI x1]) hf3 (by kernel_rfl) (f102_ok fuel x0_a_x x0_a_lo x0_a_hi x0_b_x x0_b_lo x0_b_hi x0_a_lo x0_b_lo x1 r1 hd1 h _ _ hS2 ) ?_
 rintro v1 ww3 a4 ⟨rfl, hS3⟩ hf4
 refine ⟨fun _ => trivial, ?_⟩
 refine p_qt [] [(1, vI x1), (2, pB b1 0), (4, pB b2 0), (5, vI r1.1), (6, vI r1.2)] [] hf4 (by kernel_rfl) .nil fun a5 hf5 => ?_
 refine w_sr (by kernel_rfl) ?_
 refine p_qn 8 [vI x0_a_x, vI x0_a_lo, vI x0_a_hi, vI x0_b_x, vI x0_b_lo, vI x0_b_hi, vI x0_a_hi, vI x0_b_hi] [(4, pB b2 0), (5, vI r1.1), (6, vI r1.2), (22, .agg #[vI x0_a_x, vI x0_a_lo, vI x0_a_hi, vI x0_b_x, vI x0_b_lo, vI x0_b_hi]), (25, vI x0_a_hi), (28, vI x0_b_hi), (29, vI x1)] [.cell ⟨b1, 0, none⟩ (vI x0_a_x), .cell ⟨b1, 1, none⟩ (vI x0_a_lo), .cell ⟨b1, 2, none⟩ (vI x0_a_hi), .cell ⟨b1, 3, none⟩ (vI x0_b_x), .cell ⟨b1, 4, none⟩ (vI x0_b_lo), .cell ⟨b1, 5, none⟩ (vI x0_b_hi), .cell ⟨b1, 2, none⟩ (vI x0_a_hi), .cell ⟨b1, 5, none⟩ (vI x0_b_hi)] hf5 (by kernel_rfl) (.cell (hS3.box (i := 1) rfl (j := 0) rfl) (.cell (hS3.box (i := 1) rfl (j := 1) rfl) (.cell (hS3.box (i := 1) rfl (j := 2) rfl) (.cell (hS3.box (i := 1) rfl (j := 3) rfl) (.cell (hS3.box (i := 1) rfl (j := 4) rfl) (.cell (hS3.box (i := 1) rfl (j := 5) rfl) (.cell (hS3.box (i := 1) rfl (j := 2) rfl) (.cell (hS3.box (i := 1) rfl (j := 5) rfl) .nil)))))))) fun a6 hf6 => ?_
 obtain ⟨r2, hd2, hr2⟩ := bind_some hr1
 refine p_call (i := 8) (d := some 30) (f := 102) (args := #[.agg #[vI x0_a_x, vI x0_a_lo, vI x0_a_hi, vI x0_b_x, vI x0_b_lo, vI x0_b_hi], vI x0_a_hi, vI x0_b_hi, vI x1]) hf6 (by kernel_rfl) (f102_ok fuel x0_a_x x0_a_lo x0_a_hi x0_b_x x0_b_lo x0_b_hi x0_a_hi x0_b_hi x1 r2 hd2 h _ _ hS3 ) ?_
 rintro v2 ww4 a7 ⟨rfl, hS4⟩ hf7
 refine ⟨fun _ => trivial, ?_⟩
 refine p_qt [] [(4, pB b2 0), (5, vI r1.1), (6, vI r1.2), (7, vI r2.1), (8, vI r2.2)] [] hf7 (by kernel_rfl) .nil fun a8 hf8 => ?_
 refine w_sr (by kernel_rfl) ?_
 refine p_qn 2 [] [(4, pB b2 0), (7, vI r2.1), (8, vI r2.2), (33, vI r1.1), (34, vI r1.2)] [] hf8 (by kernel_rfl) .nil fun a9 hf9 => ?_
 obtain ⟨r3, hd3, hr3⟩ := bind_some hr2
 refine p_call (i := 2) (d := some 35) (f := 51) (args := #[vI r1.1, vI r1.2]) hf9 (by kernel_rfl) (f51_ok fuel r1.1 r1.2 r3 hd3 h _ _ hS4 ) ?_
 rintro v3 ww5 a10 ⟨rfl, hS5⟩ hf10
 refine ⟨fun _ => trivial, ?_⟩
 refine p_qn 2 [] [(4, pB b2 0), (35, vI r3), (36, vI r2.1), (37, vI r2.2)] [] hf10 (by kernel_rfl) .nil fun a11 hf11 => ?_
 obtain ⟨r4, hd4, hr4⟩ := bind_some hr3
 refine p_call (i := 5) (d := some 38) (f := 52) (args := #[vI r2.1, vI r2.2]) hf11 (by kernel_rfl) (f52_ok fuel r2.1 r2.2 r4 hd4 h _ _ hS5 ) ?_
 rintro v4 ww6 a12 ⟨rfl, hS6⟩ hf12
 refine ⟨fun _ => trivial, ?_⟩
 refine p_qn 1 [] [(4, pB b2 0), (39, .agg #[vI r3, vI r4])] [] hf12 (by kernel_rfl) .nil fun a13 hf13 => ?_
 refine p_store_eq (i := 7) (j := 0) (b := b2) (off := 0) (vs := [vI r3, vI r4]) (cs' := [vI r3, vI r4]) hS6 hf13 rfl (by kernel_rfl) (by kernel_rfl) rfl fun ww7 a14 hS7 hf14 => ⟨fun _ => trivial, ?_⟩
 refine p_dt (by kernel_rfl) ?_
 refine w_ret (by kernel_rfl) ?_
 refine p_ret (os := [vI r3, vI r4]) (v := .agg #[vI r3, vI r4]) (obs := [.cell ⟨b2, 0, none⟩ (vI r3), .cell ⟨b2, 1, none⟩ (vI r4)]) hf14 (by kernel_rfl) (.cell (hS7.box (i := 0) rfl (j := 0) rfl) (.cell (hS7.box (i := 0) rfl (j := 1) rfl) .nil)) ?_
 obtain rfl := some_eq hr4
 exact ⟨_, rfl, rfl, (St.drop 2 hS7)⟩
def F45_l1 (fuel : Nat) (x0 : List Pt) (x1 : Int) (d1 : List Pt) : Nat → Int → Option (Int × Int)
  | 0, _ => none
  | n1 + 1, y1 =>
    let k1 : Int → Option (Int × Int) := F45_l1 fuel x0 x1 d1 n1
    (cond (decide (y1 < (d1.length : Int))) ((getI d1 y1).bind fun p1 => ((getI x0 y1).bind fun p2 => ((F74 fuel p2.x p2.lo p2.hi p1.x p1.lo p1.hi x1).bind fun r1 => (cond r1 ((F75 fuel p2.x p2.lo p2.hi p1.x p1.lo p1.hi x1).bind fun r2 => (some (r2.1, r2.2))) (k1 (w64 (y1 + (1 : Int)))))))) (some (0, 0)))
def F45 (fuel : Nat) (x0 : List Pt) (x1 : Int) : Option (Int × Int) :=
  (cond ((x0.length : Int) == (1 : Int)) ((getI x0 0).bind fun p3 => ((getI x0 0).bind fun p4 => ((F74 fuel p3.x p3.lo p3.hi p4.x p4.lo p4.hi x1).bind fun r3 => (cond r3 ((F75 fuel p3.x p3.lo p3.hi p4.x p4.lo p4.hi x1).bind fun r4 => (some (r4.1, r4.2))) (some (0, 0)))))) ((subI x0 1 (x0.length : Int)).bind fun d1 => (F45_l1 fuel x0 x1 d1 fuel 0)))
set_option maxRecDepth 100000 in
theorem f45_ok (fuel : Nat) (x0 : List Pt) (x1 : Int) (r : Int × Int) (hr : F45 fuel x0 x1 = some r) (h : Zone) (L : List Atom) (w : World) (hS : St h L w) (o_x0 : Option Addr) (c_x0 : Nat) (hx_x0 : SliceR PtT h o_x0 c_x0 x0) :
    Calls Tryz.prog 45 #[.agg #[.slice o_x0 x0.length c_x0], vI x1] w fun e w' => ∃ v, e = .returned v ∧ (∃ h', Zone.le h h' ∧ v = .agg #[vI r.1, vI r.2] ∧ St h' L w') := by
 refine calls_intro (N := 16) Tryz.func45 (by kernel_rfl) fun a hf => ?_
 refine w_sr (by kernel_rfl) ?_
 refine p_box (i := 0) (d := (some 2)) (cs := [.slice o_x0 x0.length c_x0]) (T := 24) (v := fun b1 => pB b1 0) hS hf (fun b => by kernel_rfl) fun b1 ww1 a1 hS1 hf1 => ⟨fun _ => trivial, ?_⟩
 refine p_box (i := 1) (d := (some 3)) (cs := [vI x1]) (T := 3) (v := fun b2 => pB b2 0) hS1 hf1 (fun b => by kernel_rfl) fun b2 ww2 a2 hS2 hf2 => ⟨fun _ => trivial, ?_⟩
 refine p_box (i := 2) (d := (some 4)) (cs := [vI 0, vI 0]) (T := 59) (v := fun b3 => pB b3 0) hS2 hf2 (fun b => by kernel_rfl) fun b3 ww3 a3 hS3 hf3 => ⟨fun _ => trivial, ?_⟩
 refine p_dt (by kernel_rfl) ?_
 refine w_seq (by kernel_rfl) ?_
 refine w_sr (by kernel_rfl) ?_
 refine p_qn 1 [.slice o_x0 x0.length c_x0] [(3, pB b2 0), (4, pB b3 0), (6, .agg #[.slice o_x0 x0.length c_x0])] [.cell ⟨b1, 0, none⟩ (.slice o_x0 x0.length c_x0)] hf3 (by kernel_rfl) (.cell (hS3.box (i := 2) rfl (j := 0) rfl) .nil) fun a4 hf4 => ?_
 refine p_inl (i := 1) (d := some 7) (f := 73) (args := #[.agg #[.slice o_x0 x0.length c_x0]]) (N' := 4) hf4 (by kernel_rfl) Tryz.func73 (by kernel_rfl) fun a5 hf5 => ?_
 refine w_sr (by kernel_rfl) ?_
 refine p_box (i := 0) (d := (some 1)) (cs := [.slice o_x0 x0.length c_x0]) (T := 24) (v := fun b4 => pB b4 0) hS3 hf5 (fun b => by kernel_rfl) fun b4 ww4 a6 hS4 hf6 => ⟨fun _ => trivial, ?_⟩
 refine p_qt [] [(1, pB b4 0)] [] hf6 (by kernel_rfl) .nil fun a7 hf7 => ?_
 refine w_sq [] [(2, .func (.func 101) #[] #[pB b4 0])] [] hf7 (by kernel_rfl) .nil fun a8 hf8 => ?_
 refine w_ret (by kernel_rfl) ?_
 refine p_ret (os := []) (v := .func (.func 101) #[] #[pB b4 0]) (obs := []) hf8 (by kernel_rfl) .nil ?_
 refine ⟨_, rfl, fun a9 hf9 => ?_⟩
 refine ⟨fun _ => trivial, ?_⟩
 refine p_dt (by kernel_rfl) ?_
 refine w_block (id := 0) (by kernel_rfl) ?_
 have hf10 := Fr.keep (ks := [3, 4, 7]) (r := [(3, pB b2 0), (4, pB b3 0), (7, .func (.func 101) #[] #[pB b4 0])]) hf9 (by kernel_rfl)
 refine w_range (g := 7) (gf := 101) (lb := #[pB b4 0]) (by kernel_rfl) hf10 hS4 (by kernel_rfl) (fun l => by kernel_rfl) fun ps1 RA1 RB1 hps1 hA1 hB1 l1 D1 ww5 hS5 => ?_
 refine calls_intro (N := 40) Tryz.func101 (by kernel_rfl) fun a10 hf11 => ?_
 refine w_seq (by kernel_rfl) ?_
 refine w_sq [.slice o_x0 x0.length c_x0] [(0, .func (.yield l1) #[] #[]), (1, pB b4 0), (8, .bool ((x0.length : Int) == (1 : Int)))] [.cell ⟨b4, 0, none⟩ (.slice o_x0 x0.length c_x0)] hf11 (by kernel_rfl) (.cell (hS5.box (i := 2) rfl (j := 0) rfl) .nil) fun a11 hf12 => ?_
 refine w_if hf12 (b := ((x0.length : Int) == (1 : Int))) (by kernel_rfl) (fun hb1 => ?_) (fun hb1 => ?_)
 ·have hr1 := cond_t hb1 hr
  refine w_seq (by kernel_rfl) ?_
  refine w_regDY (by kernel_rfl) 10 [(0, true), (1, true), (2, true), (3, true), (4, true), (5, true), (6, true), (7, true), (8, true), (9, true)] [] (by kernel_rfl) ?_
  have hS6 := hS5.drew
  obtain ⟨p3, hp152, hr2⟩ := bind_some hr1
  obtain ⟨ad1, ho1, hb2, cc1, hc1, hk1⟩ := SliceR.getI hx_x0 hp152
  subst hc1
  obtain ⟨p4, hp161, hr3⟩ := bind_some hr2
  obtain ⟨ad2, ho2, hb3, cc2, hc2, hk2⟩ := SliceR.getI hx_x0 hp161
  subst hc2
  refine p_qzE [.slice o_x0 x0.length c_x0, .pointer (some ad1), vI p3.x, vI p3.lo, vI p3.hi, .slice o_x0 x0.length c_x0, .pointer (some ad2), vI p4.x, vI p4.lo, vI p4.hi] [(9, .func (.yield l1) #[] #[]), (18, .agg #[vI p3.x, vI p3.lo, vI p3.hi, vI p4.x, vI p4.lo, vI p4.hi])] [.cell ⟨b4, 0, none⟩ (.slice o_x0 x0.length c_x0), .prop (o_x0 = some ad1), .prop (0 ≤ (0 : Int) ∧ (0 : Int) < (x0.length : Nat)), .cell ((ad1.add (Int.toNat 0 * 3)).add 0) (vI p3.x), .cell ((ad1.add (Int.toNat 0 * 3)).add 1) (vI p3.lo), .cell ((ad1.add (Int.toNat 0 * 3)).add 2) (vI p3.hi), .cell ⟨b4, 0, none⟩ (.slice o_x0 x0.length c_x0), .prop (o_x0 = some ad2), .prop (0 ≤ (0 : Int) ∧ (0 : Int) < (x0.length : Nat)), .cell ((ad2.add (Int.toNat 0 * 3)).add 0) (vI p4.x), .cell ((ad2.add (Int.toNat 0 * 3)).add 1) (vI p4.lo), .cell ((ad2.add (Int.toNat 0 * 3)).add 2) (vI p4.hi)] [] hf12 (by kernel_rfl) (.cell (hS6.box (i := 2) rfl (j := 0) rfl) (.prop ho1 (.prop hb2 (.cell (hS6.cell (hk1 0 _ rfl)) (.cell (hS6.cell (hk1 1 _ rfl)) (.cell (hS6.cell (hk1 2 _ rfl)) (.cell (hS6.box (i := 2) rfl (j := 0) rfl) (.prop ho2 (.prop hb3 (.cell (hS6.cell (hk2 0 _ rfl)) (.cell (hS6.cell (hk2 1 _ rfl)) (.cell (hS6.cell (hk2 2 _ rfl)) .nil)))))))))))) .nil fun a12 hf13 => ?_
  refine p_yield (d := some 19) (l := l1) (args := #[.agg #[vI p3.x, vI p3.lo, vI p3.hi, vI p4.x, vI p4.lo, vI p4.hi]]) hf13 (by kernel_rfl) hS6 (j := 0) rfl (by rw [hps1]; kernel_rfl) fun a13 hf14 => ?_
  rw [hps1] at hf14
  refine cw_eq hA1 ?_
  refine w_reg (by kernel_rfl) ?_
  refine p_box (i := 0) (d := (some 5)) (cs := [vI 0, vI 0, vI 0, vI 0, vI 0, vI 0]) (T := 118) (v := fun b5 => pB b5 0) hS6 hf14 (fun b => by kernel_rfl) fun b5 ww6 a14 hS7 hf15 => ⟨fun _ => trivial, ?_⟩
  refine p_store_eq (i := 1) (j := 0) (b := b5) (off := 0) (vs := [vI p3.x, vI p3.lo, vI p3.hi, vI p4.x, vI p4.lo, vI p4.hi]) (cs' := [vI p3.x, vI p3.lo, vI p3.hi, vI p4.x, vI p4.lo, vI p4.hi]) hS7 hf15 rfl (by kernel_rfl) (by kernel_rfl) rfl fun ww7 a15 hS8 hf16 => ⟨fun _ => trivial, ?_⟩
  refine p_dt (by kernel_rfl) ?_
  refine p_begin hS8 (j := 1) rfl fun ww8 hS9 => ?_
  refine cw_eq hB1 ?_
  refine w_block (id := 1) (by kernel_rfl) ?_
  refine w_sr (by kernel_rfl) ?_
  refine p_qn 2 [vI p3.x, vI p3.lo, vI p3.hi, vI p4.x, vI p4.lo, vI p4.hi, vI x1] [(3, pB b2 0), (4, pB b3 0), (5, pB b5 0), (9, .agg #[vI p3.x, vI p3.lo, vI p3.hi, vI p4.x, vI p4.lo, vI p4.hi]), (10, vI x1)] [.cell ⟨b5, 0, none⟩ (vI p3.x), .cell ⟨b5, 1, none⟩ (vI p3.lo), .cell ⟨b5, 2, none⟩ (vI p3.hi), .cell ⟨b5, 3, none⟩ (vI p4.x), .cell ⟨b5, 4, none⟩ (vI p4.lo), .cell ⟨b5, 5, none⟩ (vI p4.hi), .cell ⟨b2, 0, none⟩ (vI x1)] hf16 (by kernel_rfl) (.cell (hS9.box (i := 0) rfl (j := 0) rfl) (.cell (hS9.box (i := 0) rfl (j := 1) rfl) (.cell (hS9.box (i := 0) rfl (j := 2) rfl) (.cell (hS9.box (i := 0) rfl (j := 3) rfl) (.cell (hS9.box (i := 0) rfl (j := 4) rfl) (.cell (hS9.box (i := 0) rfl (j := 5) rfl) (.cell (hS9.box (i := 5) rfl (j := 0) rfl) .nil))))))) fun a16 hf17 => ?_
  obtain ⟨r3, hd1, hr4⟩ := bind_some hr3
  refine p_call (i := 2) (d := some 11) (f := 74) (args := #[.agg #[vI p3.x, vI p3.lo, vI p3.hi, vI p4.x, vI p4.lo, vI p4.hi], vI x1]) hf17 (by kernel_rfl) (f74_ok fuel p3.x p3.lo p3.hi p4.x p4.lo p4.hi x1 r3 hd1 h _ _ hS9 ) ?_
  rintro v1 ww9 a17 ⟨z1, k2, rfl, hS10⟩ hf18
  refine ⟨fun _ => trivial, ?_⟩
  refine p_dt (by kernel_rfl) ?_
  refine w_if hf18 (b := r3) (by kernel_rfl) (fun hb4 => ?_) (fun hb4 => ?_)
  ·have hr5 := cond_t hb4 hr4
   refine w_sr (by kernel_rfl) ?_
   refine p_qn 2 [vI p3.x, vI p3.lo, vI p3.hi, vI p4.x, vI p4.lo, vI p4.hi, vI x1] [(4, pB b3 0), (12, .agg #[vI p3.x, vI p3.lo, vI p3.hi, vI p4.x, vI p4.lo, vI p4.hi]), (13, vI x1)] [.cell ⟨b5, 0, none⟩ (vI p3.x), .cell ⟨b5, 1, none⟩ (vI p3.lo), .cell ⟨b5, 2, none⟩ (vI p3.hi), .cell ⟨b5, 3, none⟩ (vI p4.x), .cell ⟨b5, 4, none⟩ (vI p4.lo), .cell ⟨b5, 5, none⟩ (vI p4.hi), .cell ⟨b2, 0, none⟩ (vI x1)] hf18 (by kernel_rfl) (.cell (hS10.box (i := 0) rfl (j := 0) rfl) (.cell (hS10.box (i := 0) rfl (j := 1) rfl) (.cell (hS10.box (i := 0) rfl (j := 2) rfl) (.cell (hS10.box (i := 0) rfl (j := 3) rfl) (.cell (hS10.box (i := 0) rfl (j := 4) rfl) (.cell (hS10.box (i := 0) rfl (j := 5) rfl) (.cell (hS10.box (i := 5) rfl (j := 0) rfl) .nil))))))) fun a18 hf19 => ?_
   obtain ⟨r4, hd2, hr6⟩ := bind_some hr5
   refine p_call (i := 2) (d := some 14) (f := 75) (args := #[.agg #[vI p3.x, vI p3.lo, vI p3.hi, vI p4.x, vI p4.lo, vI p4.hi], vI x1]) hf19 (by kernel_rfl) (f75_ok fuel p3.x p3.lo p3.hi p4.x p4.lo p4.hi x1 r4 hd2 z1 _ _ hS10 ) ?_
   rintro v2 ww10 a19 ⟨rfl, hS11⟩ hf20
   refine ⟨fun _ => trivial, ?_⟩
   refine p_store_eq (i := 3) (j := 4) (b := b3) (off := 0) (vs := [vI r4.1, vI r4.2]) (cs' := [vI r4.1, vI r4.2]) hS11 hf20 rfl (by kernel_rfl) (by kernel_rfl) rfl fun ww11 a20 hS12 hf21 => ⟨fun _ => trivial, ?_⟩
   refine p_dt (by kernel_rfl) ?_
   refine w_ret (by kernel_rfl) ?_
   refine r_block ?_
   refine p_roundR hS12 (j := 1) rfl fun ww12 a21 hS13 hf22 => ?_
   have hS14 := St.drop 1 hS13
   refine p_dt (by kernel_rfl) ?_
   refine w_ret (by kernel_rfl) ?_
   refine r_then ?_
   refine p_ret (os := []) (v := .tuple #[]) (obs := []) hf22 (by kernel_rfl) .nil ?_
   refine ⟨_, rfl, fun a22 hf23 => ?_⟩
   refine p_jumpR hS14 (j := 0) rfl (fun h => by cases h) fun ww13 hS15 => ?_
   refine r_block ?_
   refine r_then ?_
   refine p_retM hf23 ?_
   refine p_mark hS15 (j := 1) rfl fun ww14 hS16 => ?_
   refine p_end (os := [vI r4.1, vI r4.2]) (v := .agg #[vI r4.1, vI r4.2]) (obs := [.cell ⟨b3, 0, none⟩ (vI r4.1), .cell ⟨b3, 1, none⟩ (vI r4.2)]) hf23 (by kernel_rfl) (.cell (hS16.box (i := 3) rfl (j := 0) rfl) (.cell (hS16.box (i := 3) rfl (j := 1) rfl) .nil)) ?_
   obtain rfl := some_eq hr6
   exact ⟨_, rfl, z1, k2, rfl, (St.drop 6 hS16)⟩
  ·have hr7 := cond_f hb4 hr4
   refine w_skip (by kernel_rfl) ?_
   refine n_block ?_
   refine p_roundN hS10 (j := 1) rfl fun ww15 a23 hS17 hf24 => ?_
   have hS18 := St.drop 1 hS17
   refine p_dt (by kernel_rfl) ?_
   refine w_ret (by kernel_rfl) ?_
   refine r_then ?_
   refine p_ret (os := []) (v := .tuple #[]) (obs := []) hf24 (by kernel_rfl) .nil ?_
   refine ⟨_, rfl, fun a24 hf25 => ?_⟩
   refine p_jump0 hS18 (j := 0) rfl (fun h => by cases h) fun ww16 hS19 => ?_
   refine n_block ?_
   refine n_then ?_
   refine w_sr (by kernel_rfl) ?_
   refine p_qn 1 [] [(4, pB b3 0), (15, .agg #[vI 0, vI 0])] [] hf25 (by kernel_rfl) .nil fun a25 hf26 => ?_
   refine p_store_eq (i := 1) (j := 3) (b := b3) (off := 0) (vs := [vI 0, vI 0]) (cs' := [vI 0, vI 0]) hS19 hf26 rfl (by kernel_rfl) (by kernel_rfl) rfl fun ww17 a26 hS20 hf27 => ⟨fun _ => trivial, ?_⟩
   refine p_dt (by kernel_rfl) ?_
   refine w_ret (by kernel_rfl) ?_
   refine p_retM hf27 ?_
   refine p_mark hS20 (j := 1) rfl fun ww18 hS21 => ?_
   refine p_end (os := [vI 0, vI 0]) (v := .agg #[vI 0, vI 0]) (obs := [.cell ⟨b3, 0, none⟩ (vI 0), .cell ⟨b3, 1, none⟩ (vI 0)]) hf27 (by kernel_rfl) (.cell (hS21.box (i := 3) rfl (j := 0) rfl) (.cell (hS21.box (i := 3) rfl (j := 1) rfl) .nil)) ?_
   obtain rfl := some_eq hr7
   exact ⟨_, rfl, z1, k2, rfl, (St.drop 6 hS21)⟩
 ·have hr8 := cond_f hb1 hr
  refine w_skip (by kernel_rfl) ?_
  refine n_then ?_
  obtain ⟨d1, hd3, hr9⟩ := bind_some hr8
  obtain ⟨e1, q1, hv1, hb5, hx1⟩ := SliceR.subV hx_x0 hd3
  refine w_sq [.slice o_x0 x0.length c_x0, .slice e1 d1.length q1] [(0, .func (.yield l1) #[] #[]), (1, pB b4 0), (22, .slice e1 d1.length q1), (23, vI (d1.length : Int)), (24, vI 0)] [.cell ⟨b4, 0, none⟩ (.slice o_x0 x0.length c_x0), .prop ((.slice e1 d1.length q1 : Value) = .slice (subO o_x0 c_x0 (Int.toNat 1) 3) (Int.toNat (x0.length : Int) - Int.toNat 1) (c_x0 - Int.toNat 1)), .prop ((0 : Int) ≤ 1 ∧ (1 : Int) ≤ (x0.length : Int) ∧ (x0.length : Int) ≤ (c_x0 : Nat) ∧ x0.length ≤ c_x0)] hf12 (by kernel_rfl) (.cell (hS5.box (i := 2) rfl (j := 0) rfl) (.prop hv1 (.prop hb5 .nil))) fun a27 hf28 => ?_
  refine w_block (id := 0) (by kernel_rfl) ?_
  have hf29 := Fr.keep (ks := [0, 1, 22, 23, 24]) (r := [(0, .func (.yield l1) #[] #[]), (1, pB b4 0), (22, .slice e1 d1.length q1), (23, vI (d1.length : Int)), (24, vI 0)]) hf28 (by kernel_rfl)
  refine w_loop (by kernel_rfl) (fun n a w => ∃ z2 : Zone, ∃ y1 : Int, Zone.le h z2 ∧ Fr a 40 [(0, .func (.yield l1) #[] #[]), (1, pB b4 0), (22, .slice e1 d1.length q1), (23, vI (d1.length : Int)), (24, vI y1)] ∧ St z2 (loopA l1 16 [(3, pB b2 0), (4, pB b3 0), (7, .func (.func 101) #[] #[pB b4 0])] ps1 RA1 RB1 D1 .ready none :: defA D1 :: box b4 [.slice o_x0 x0.length c_x0] 24 :: box b3 [vI 0, vI 0] 59 :: box b2 [vI x1] 3 :: box b1 [.slice o_x0 x0.length c_x0] 24 :: L) w ∧ (F45_l1 fuel x0 x1 d1 n y1) = some r) fuel ⟨h, 0, (Zone.le_refl _), hf29, hS5, hr9⟩ ?_
  rintro n2 a28 ww19 ⟨z2, y1, k3, hf30, hS22, hr10⟩
  cases n2 with
  | zero => cases hr10
  | succ n1 =>
  refine w_sq [] [(0, .func (.yield l1) #[] #[]), (1, pB b4 0), (22, .slice e1 d1.length q1), (23, vI (d1.length : Int)), (24, vI y1), (25, .bool (decide (y1 < (d1.length : Int))))] [] hf30 (by kernel_rfl) .nil fun a29 hf31 => ?_
  refine w_seq (by kernel_rfl) ?_
  refine w_if hf31 (b := (decide (y1 < (d1.length : Int)))) (by kernel_rfl) (fun hb6 => ?_) (fun hb6 => ?_)
  ·have hr11 := cond_t hb6 hr10
   refine w_skip (by kernel_rfl) ?_
   refine n_then ?_
   refine w_seq (by kernel_rfl) ?_
   refine w_block (id := 1) (by kernel_rfl) ?_
   refine w_sr (by kernel_rfl) ?_
   obtain ⟨p1, hp1014, hr12⟩ := bind_some hr11
   obtain ⟨ad3, ho3, hb7, cc3, hc3, hk3⟩ := SliceR.getI (SliceR.mono k3 hx1) hp1014
   subst hc3
   refine p_qn 3 [.pointer (some ad3), vI p1.x, vI p1.lo, vI p1.hi] [(0, .func (.yield l1) #[] #[]), (1, pB b4 0), (22, .slice e1 d1.length q1), (23, vI (d1.length : Int)), (24, vI y1), (26, vI y1), (28, .agg #[vI p1.x, vI p1.lo, vI p1.hi])] [.prop (e1 = some ad3), .prop (0 ≤ y1 ∧ y1 < (d1.length : Nat)), .cell ((ad3.add (Int.toNat y1 * 3)).add 0) (vI p1.x), .cell ((ad3.add (Int.toNat y1 * 3)).add 1) (vI p1.lo), .cell ((ad3.add (Int.toNat y1 * 3)).add 2) (vI p1.hi)] hf31 (by kernel_rfl) (.prop ho3 (.prop hb7 (.cell (hS22.cell (hk3 0 _ rfl)) (.cell (hS22.cell (hk3 1 _ rfl)) (.cell (hS22.cell (hk3 2 _ rfl)) .nil))))) fun a30 hf32 => ?_
   refine p_box (i := 3) (d := (some 4)) (cs := [vI 0, vI 0, vI 0]) (T := 39) (v := fun b6 => pB b6 0) hS22 hf32 (fun b => by kernel_rfl) fun b6 ww20 a31 hS23 hf33 => ⟨fun _ => trivial, ?_⟩
   refine p_qn 1 [] [(0, .func (.yield l1) #[] #[]), (1, pB b4 0), (3, vI y1), (4, pB b6 0), (22, .slice e1 d1.length q1), (23, vI (d1.length : Int)), (24, vI y1), (28, .agg #[vI p1.x, vI p1.lo, vI p1.hi])] [] hf33 (by kernel_rfl) .nil fun a32 hf34 => ?_
   refine p_store_eq (i := 5) (j := 0) (b := b6) (off := 0) (vs := [vI p1.x, vI p1.lo, vI p1.hi]) (cs' := [vI p1.x, vI p1.lo, vI p1.hi]) hS23 hf34 rfl (by kernel_rfl) (by kernel_rfl) rfl fun ww21 a33 hS24 hf35 => ⟨fun _ => trivial, ?_⟩
   refine p_dt (by kernel_rfl) ?_
   refine w_seq (by kernel_rfl) ?_
   refine w_regDY (by kernel_rfl) 8 [(0, true), (1, true), (2, true), (3, true), (4, true), (5, true), (6, true), (7, true)] [(9, false)] (by kernel_rfl) ?_
   have hS25 := hS24.drew
   obtain ⟨p2, hp1037, hr13⟩ := bind_some hr12
   obtain ⟨ad4, ho4, hb8, cc4, hc4, hk4⟩ := SliceR.getI (SliceR.mono k3 hx_x0) hp1037
   subst hc4
   refine p_qzE [.slice o_x0 x0.length c_x0, .pointer (some ad4), vI p2.x, vI p2.lo, vI p2.hi, vI p1.x, vI p1.lo, vI p1.hi] [(0, .func (.yield l1) #[] #[]), (1, pB b4 0), (22, .slice e1 d1.length q1), (23, vI (d1.length : Int)), (24, vI y1), (29, .func (.yield l1) #[] #[]), (36, .agg #[vI p2.x, vI p2.lo, vI p2.hi, vI p1.x, vI p1.lo, vI p1.hi])] [.cell ⟨b4, 0, none⟩ (.slice o_x0 x0.length c_x0), .prop (o_x0 = some ad4), .prop (0 ≤ y1 ∧ y1 < (x0.length : Nat)), .cell ((ad4.add (Int.toNat y1 * 3)).add 0) (vI p2.x), .cell ((ad4.add (Int.toNat y1 * 3)).add 1) (vI p2.lo), .cell ((ad4.add (Int.toNat y1 * 3)).add 2) (vI p2.hi), .cell ⟨b6, 0, none⟩ (vI p1.x), .cell ⟨b6, 1, none⟩ (vI p1.lo), .cell ⟨b6, 2, none⟩ (vI p1.hi)] [] hf35 (by kernel_rfl) (.cell (hS25.box (i := 3) rfl (j := 0) rfl) (.prop ho4 (.prop hb8 (.cell (hS25.cell (hk4 0 _ rfl)) (.cell (hS25.cell (hk4 1 _ rfl)) (.cell (hS25.cell (hk4 2 _ rfl)) (.cell (hS25.box (i := 0) rfl (j := 0) rfl) (.cell (hS25.box (i := 0) rfl (j := 1) rfl) (.cell (hS25.box (i := 0) rfl (j := 2) rfl) .nil))))))))) .nil fun a34 hf36 => ?_
   refine p_yield (d := some 37) (l := l1) (args := #[.agg #[vI p2.x, vI p2.lo, vI p2.hi, vI p1.x, vI p1.lo, vI p1.hi]]) hf36 (by kernel_rfl) hS25 (j := 1) rfl (by rw [hps1]; kernel_rfl) fun a35 hf37 => ?_
   rw [hps1] at hf37
   refine cw_eq hA1 ?_
   refine w_reg (by kernel_rfl) ?_
   refine p_box (i := 0) (d := (some 5)) (cs := [vI 0, vI 0, vI 0, vI 0, vI 0, vI 0]) (T := 118) (v := fun b7 => pB b7 0) hS25 hf37 (fun b => by kernel_rfl) fun b7 ww22 a36 hS26 hf38 => ⟨fun _ => trivial, ?_⟩
   refine p_store_eq (i := 1) (j := 0) (b := b7) (off := 0) (vs := [vI p2.x, vI p2.lo, vI p2.hi, vI p1.x, vI p1.lo, vI p1.hi]) (cs' := [vI p2.x, vI p2.lo, vI p2.hi, vI p1.x, vI p1.lo, vI p1.hi]) hS26 hf38 rfl (by kernel_rfl) (by kernel_rfl) rfl fun ww23 a37 hS27 hf39 => ⟨fun _ => trivial, ?_⟩
   refine p_dt (by kernel_rfl) ?_
   refine p_begin hS27 (j := 2) rfl fun ww24 hS28 => ?_
   refine cw_eq hB1 ?_
   refine w_block (id := 1) (by kernel_rfl) ?_
   refine w_sr (by kernel_rfl) ?_
   refine p_qn 2 [vI p2.x, vI p2.lo, vI p2.hi, vI p1.x, vI p1.lo, vI p1.hi, vI x1] [(3, pB b2 0), (4, pB b3 0), (5, pB b7 0), (9, .agg #[vI p2.x, vI p2.lo, vI p2.hi, vI p1.x, vI p1.lo, vI p1.hi]), (10, vI x1)] [.cell ⟨b7, 0, none⟩ (vI p2.x), .cell ⟨b7, 1, none⟩ (vI p2.lo), .cell ⟨b7, 2, none⟩ (vI p2.hi), .cell ⟨b7, 3, none⟩ (vI p1.x), .cell ⟨b7, 4, none⟩ (vI p1.lo), .cell ⟨b7, 5, none⟩ (vI p1.hi), .cell ⟨b2, 0, none⟩ (vI x1)] hf39 (by kernel_rfl) (.cell (hS28.box (i := 0) rfl (j := 0) rfl) (.cell (hS28.box (i := 0) rfl (j := 1) rfl) (.cell (hS28.box (i := 0) rfl (j := 2) rfl) (.cell (hS28.box (i := 0) rfl (j := 3) rfl) (.cell (hS28.box (i := 0) rfl (j := 4) rfl) (.cell (hS28.box (i := 0) rfl (j := 5) rfl) (.cell (hS28.box (i := 6) rfl (j := 0) rfl) .nil))))))) fun a38 hf40 => ?_
   obtain ⟨r1, hd4, hr14⟩ := bind_some hr13
   refine p_call (i := 2) (d := some 11) (f := 74) (args := #[.agg #[vI p2.x, vI p2.lo, vI p2.hi, vI p1.x, vI p1.lo, vI p1.hi], vI x1]) hf40 (by kernel_rfl) (f74_ok fuel p2.x p2.lo p2.hi p1.x p1.lo p1.hi x1 r1 hd4 z2 _ _ hS28 ) ?_
   rintro v3 ww25 a39 ⟨z3, k4, rfl, hS29⟩ hf41
   refine ⟨fun _ => trivial, ?_⟩
   refine p_dt (by kernel_rfl) ?_
   refine w_if hf41 (b := r1) (by kernel_rfl) (fun hb9 => ?_) (fun hb9 => ?_)
   ·have hr15 := cond_t hb9 hr14
    refine w_sr (by kernel_rfl) ?_
    refine p_qn 2 [vI p2.x, vI p2.lo, vI p2.hi, vI p1.x, vI p1.lo, vI p1.hi, vI x1] [(4, pB b3 0), (12, .agg #[vI p2.x, vI p2.lo, vI p2.hi, vI p1.x, vI p1.lo, vI p1.hi]), (13, vI x1)] [.cell ⟨b7, 0, none⟩ (vI p2.x), .cell ⟨b7, 1, none⟩ (vI p2.lo), .cell ⟨b7, 2, none⟩ (vI p2.hi), .cell ⟨b7, 3, none⟩ (vI p1.x), .cell ⟨b7, 4, none⟩ (vI p1.lo), .cell ⟨b7, 5, none⟩ (vI p1.hi), .cell ⟨b2, 0, none⟩ (vI x1)] hf41 (by kernel_rfl) (.cell (hS29.box (i := 0) rfl (j := 0) rfl) (.cell (hS29.box (i := 0) rfl (j := 1) rfl) (.cell (hS29.box (i := 0) rfl (j := 2) rfl) (.cell (hS29.box (i := 0) rfl (j := 3) rfl) (.cell (hS29.box (i := 0) rfl (j := 4) rfl) (.cell (hS29.box (i := 0) rfl (j := 5) rfl) (.cell (hS29.box (i := 6) rfl (j := 0) rfl) .nil))))))) fun a40 hf42 => ?_
    obtain ⟨r2, hd5, hr16⟩ := bind_some hr15
    refine p_call (i := 2) (d := some 14) (f := 75) (args := #[.agg #[vI p2.x, vI p2.lo, vI p2.hi, vI p1.x, vI p1.lo, vI p1.hi], vI x1]) hf42 (by kernel_rfl) (f75_ok fuel p2.x p2.lo p2.hi p1.x p1.lo p1.hi x1 r2 hd5 z3 _ _ hS29 ) ?_
    rintro v4 ww26 a41 ⟨rfl, hS30⟩ hf43
    refine ⟨fun _ => trivial, ?_⟩
    refine p_store_eq (i := 3) (j := 5) (b := b3) (off := 0) (vs := [vI r2.1, vI r2.2]) (cs' := [vI r2.1, vI r2.2]) hS30 hf43 rfl (by kernel_rfl) (by kernel_rfl) rfl fun ww27 a42 hS31 hf44 => ⟨fun _ => trivial, ?_⟩
    refine p_dt (by kernel_rfl) ?_
    refine w_ret (by kernel_rfl) ?_
    refine r_block ?_
    refine p_roundR hS31 (j := 2) rfl fun ww28 a43 hS32 hf45 => ?_
    have hS33 := St.drop 1 hS32
    refine p_qt [] [(0, .func (.yield l1) #[] #[]), (1, pB b4 0), (22, .slice e1 d1.length q1), (23, vI (d1.length : Int)), (24, vI y1), (38, .bool true)] [] hf45 (by kernel_rfl) .nil fun a44 hf46 => ?_
    refine w_if_true hf46 (by kernel_rfl) ?_
    refine w_ret (by kernel_rfl) ?_
    refine r_block ?_
    refine r_then ?_
    refine r_then ?_
    refine r_block ?_
    refine p_ret (os := []) (v := .tuple #[]) (obs := []) hf46 (by kernel_rfl) .nil ?_
    refine ⟨_, rfl, fun a45 hf47 => ?_⟩
    refine p_jumpR hS33 (j := 1) rfl (fun h => by cases h) fun ww29 hS34 => ?_
    refine r_block ?_
    refine r_then ?_
    refine p_retM hf47 ?_
    refine p_mark hS34 (j := 2) rfl fun ww30 hS35 => ?_
    refine p_end (os := [vI r2.1, vI r2.2]) (v := .agg #[vI r2.1, vI r2.2]) (obs := [.cell ⟨b3, 0, none⟩ (vI r2.1), .cell ⟨b3, 1, none⟩ (vI r2.2)]) hf47 (by kernel_rfl) (.cell (hS35.box (i := 4) rfl (j := 0) rfl) (.cell (hS35.box (i := 4) rfl (j := 1) rfl) .nil)) ?_
    obtain rfl := some_eq hr16
    exact ⟨_, rfl, z3, (Zone.le_trans k3 k4), rfl, (St.drop 7 hS35)⟩
   ·have hr17 := cond_f hb9 hr14
    refine w_skip (by kernel_rfl) ?_
    refine n_block ?_
    refine p_roundN hS29 (j := 2) rfl fun ww31 a46 hS36 hf48 => ?_
    have hS37 := St.drop 1 hS36
    refine p_qt [] [(0, .func (.yield l1) #[] #[]), (1, pB b4 0), (22, .slice e1 d1.length q1), (23, vI (d1.length : Int)), (24, vI y1), (38, .bool false)] [] hf48 (by kernel_rfl) .nil fun a47 hf49 => ?_
    refine w_if_false hf49 (by kernel_rfl) ?_
    refine w_skip (by kernel_rfl) ?_
    refine n_block ?_
    refine n_then ?_
    refine w_q [] [(0, .func (.yield l1) #[] #[]), (1, pB b4 0), (22, .slice e1 d1.length q1), (23, vI (d1.length : Int)), (24, vI (w64 (y1 + (1 : Int))))] [] hf49 (by kernel_rfl) .nil fun a48 hf50 => ?_
    refine n_then ?_
    have hf51 := Fr.keep (ks := [0, 1, 22, 23, 24]) (r := [(0, .func (.yield l1) #[] #[]), (1, pB b4 0), (22, .slice e1 d1.length q1), (23, vI (d1.length : Int)), (24, vI (w64 (y1 + (1 : Int))))]) hf50 (by kernel_rfl)
    exact ⟨n1, Nat.lt_succ_self n1, z3, (w64 (y1 + (1 : Int))), (Zone.le_trans k3 k4), hf51, (St.drop 1 hS37), hr17⟩
  ·have hr18 := cond_f hb6 hr10
   refine w_exit (id := 0) (by kernel_rfl) ?_
   refine x_then ?_
   refine x_then ?_
   refine x_block ?_
   refine p_fall (os := []) (v := .tuple #[]) (obs := []) hf31 (by kernel_rfl) .nil ?_
   refine ⟨_, rfl, fun a49 hf52 => ?_⟩
   refine p_jump0 hS22 (j := 0) rfl (fun h => by cases h) fun ww32 hS38 => ?_
   refine n_block ?_
   refine n_then ?_
   refine w_sr (by kernel_rfl) ?_
   refine p_qn 1 [] [(4, pB b3 0), (15, .agg #[vI 0, vI 0])] [] hf52 (by kernel_rfl) .nil fun a50 hf53 => ?_
   refine p_store_eq (i := 1) (j := 3) (b := b3) (off := 0) (vs := [vI 0, vI 0]) (cs' := [vI 0, vI 0]) hS38 hf53 rfl (by kernel_rfl) (by kernel_rfl) rfl fun ww33 a51 hS39 hf54 => ⟨fun _ => trivial, ?_⟩
   refine p_dt (by kernel_rfl) ?_
   refine w_ret (by kernel_rfl) ?_
   refine p_retM hf54 ?_
   refine p_mark hS39 (j := 1) rfl fun ww34 hS40 => ?_
   refine p_end (os := [vI 0, vI 0]) (v := .agg #[vI 0, vI 0]) (obs := [.cell ⟨b3, 0, none⟩ (vI 0), .cell ⟨b3, 1, none⟩ (vI 0)]) hf54 (by kernel_rfl) (.cell (hS40.box (i := 3) rfl (j := 0) rfl) (.cell (hS40.box (i := 3) rfl (j := 1) rfl) .nil)) ?_
   obtain rfl := some_eq hr18
   exact ⟨_, rfl, z2, k3, rfl, (St.drop 6 hS40)⟩
def F26_j1 (k1 : Int → Int → Int → Option (Int × Int × Int)) (y1 : Int) (y2 : Int) (y3 : Int) : Option (Int × Int × Int) :=
  (k1 y2 y3 (w64 (y1 + (1 : Int))))
def F26_l1 (fuel : Nat) (x0 : List Pt) (x1_lo : Int) (x1_hi : Int) : Nat → Int → Int → Int → Option (Int × Int × Int)
  | 0, _, _, _ => none
  | n1 + 1, y4, y5, y1 =>
    let k1 : Int → Int → Int → Option (Int × Int × Int) := F26_l1 fuel x0 x1_lo x1_hi n1
    (cond (decide (y1 < (x0.length : Int))) ((getI x0 y1).bind fun p1 => ((F32 fuel p1.x x1_lo x1_hi).bind fun r1 => (cond r1 ((F45 fuel x0 p1.x).bind fun r2 => (F26_j1 k1 y1 (if r2.2 < (if r2.1 < y4 then r2.1 else y4) then r2.2 else (if r2.1 < y4 then r2.1 else y4)) (if r2.2 > (if r2.1 > y5 then r2.1 else y5) then r2.2 else (if r2.1 > y5 then r2.1 else y5)))) (F26_j1 k1 y1 y4 y5)))) (some (y4, y5, 0)))
def F26 (fuel : Nat) (x0 : List Pt) (x1_lo : Int) (x1_hi : Int) : Option (Int × Int × Int) :=
  ((F10 fuel x0).bind fun r3 => (cond (r3 != (0 : Int)) (some (0, 0, r3)) ((F42 fuel x1_lo x1_hi).bind fun r4 => (cond (r4 != (0 : Int)) (some (0, 0, r4)) ((F43 fuel x0 x1_lo x1_hi).bind fun r5 => (cond (!r5) (some (0, 0, 4)) ((F45 fuel x0 x1_lo).bind fun r6 => ((F45 fuel x0 x1_hi).bind fun r7 => (F26_l1 fuel x0 x1_lo x1_hi fuel (if r7.2 < (if r7.1 < (if r6.2 < (if r6.1 < r6.1 then r6.1 else r6.1) then r6.2 else (if r6.1 < r6.1 then r6.1 else r6.1)) then r7.1 else (if r6.2 < (if r6.1 < r6.1 then r6.1 else r6.1) then r6.2 else (if r6.1 < r6.1 then r6.1 else r6.1))) then r7.2 else (if r7.1 < (if r6.2 < (if r6.1 < r6.1 then r6.1 else r6.1) then r6.2 else (if r6.1 < r6.1 then r6.1 else r6.1)) then r7.1 else (if r6.2 < (if r6.1 < r6.1 then r6.1 else r6.1) then r6.2 else (if r6.1 < r6.1 then r6.1 else r6.1)))) (if r7.2 > (if r7.1 > (if r6.2 > (if r6.1 > r6.1 then r6.1 else r6.1) then r6.2 else (if r6.1 > r6.1 then r6.1 else r6.1)) then r7.1 else (if r6.2 > (if r6.1 > r6.1 then r6.1 else r6.1) then r6.2 else (if r6.1 > r6.1 then r6.1 else r6.1))) then r7.2 else (if r7.1 > (if r6.2 > (if r6.1 > r6.1 then r6.1 else r6.1) then r6.2 else (if r6.1 > r6.1 then r6.1 else r6.1)) then r7.1 else (if r6.2 > (if r6.1 > r6.1 then r6.1 else r6.1) then r6.2 else (if r6.1 > r6.1 then r6.1 else r6.1)))) 0)))))))))
set_option maxRecDepth 100000 in
theorem f26_ok (fuel : Nat) (x0 : List Pt) (x1_lo : Int) (x1_hi : Int) (r : Int × Int × Int) (hr : F26 fuel x0 x1_lo x1_hi = some r) (h : Zone) (L : List Atom) (w : World) (hS : St h L w) (o_x0 : Option Addr) (c_x0 : Nat) (hx_x0 : SliceR PtT h o_x0 c_x0 x0) :
    Calls Tryz.prog 26 #[.agg #[.slice o_x0 x0.length c_x0], .agg #[vI x1_lo, vI x1_hi]] w fun e w' => ∃ v, e = .returned v ∧ (∃ h', Zone.le h h' ∧ v = .tuple #[.agg #[vI r.1, vI r.2.1], vI r.2.2] ∧ St h' L w') := by
 refine calls_intro (N := 59) Tryz.func26 (by kernel_rfl) fun a hf => ?_
 refine w_sr (by kernel_rfl) ?_
 refine p_box (i := 0) (d := (some 2)) (cs := [.slice o_x0 x0.length c_x0]) (T := 24) (v := fun b1 => pB b1 0) hS hf (fun b => by kernel_rfl) fun b1 ww1 a1 hS1 hf1 => ⟨fun _ => trivial, ?_⟩
 refine p_box (i := 1) (d := (some 3)) (cs := [vI x1_lo, vI x1_hi]) (T := 59) (v := fun b2 => pB b2 0) hS1 hf1 (fun b => by kernel_rfl) fun b2 ww2 a2 hS2 hf2 => ⟨fun _ => trivial, ?_⟩
 refine p_box (i := 2) (d := (some 4)) (cs := [vI 0, vI 0]) (T := 59) (v := fun b3 => pB b3 0) hS2 hf2 (fun b => by kernel_rfl) fun b3 ww3 a3 hS3 hf3 => ⟨fun _ => trivial, ?_⟩
 refine p_qt [] [(2, pB b1 0), (3, pB b2 0), (4, pB b3 0)] [] hf3 (by kernel_rfl) .nil fun a4 hf4 => ?_
 refine w_seq (by kernel_rfl) ?_
 refine w_sr (by kernel_rfl) ?_
 refine p_qn 1 [.slice o_x0 x0.length c_x0] [(2, pB b1 0), (3, pB b2 0), (4, pB b3 0), (12, .agg #[.slice o_x0 x0.length c_x0])] [.cell ⟨b1, 0, none⟩ (.slice o_x0 x0.length c_x0)] hf4 (by kernel_rfl) (.cell (hS3.box (i := 2) rfl (j := 0) rfl) .nil) fun a5 hf5 => ?_
 obtain ⟨r3, hd1, hr1⟩ := bind_some hr
 refine p_call (i := 1) (d := some 13) (f := 10) (args := #[.agg #[.slice o_x0 x0.length c_x0]]) hf5 (by kernel_rfl) (f10_ok fuel x0 r3 hd1 h _ _ hS3 o_x0 c_x0 hx_x0) ?_
 rintro v1 ww4 a6 ⟨z1, k2, rfl, hS4⟩ hf6
 refine ⟨fun _ => trivial, ?_⟩
 refine p_qt [] [(2, pB b1 0), (3, pB b2 0), (4, pB b3 0), (6, vI r3)] [] hf6 (by kernel_rfl) .nil fun a7 hf7 => ?_
 refine w_sq [] [(2, pB b1 0), (3, pB b2 0), (4, pB b3 0), (6, vI r3), (15, .bool (r3 != (0 : Int)))] [] hf7 (by kernel_rfl) .nil fun a8 hf8 => ?_
 refine w_if hf8 (b := (r3 != (0 : Int))) (by kernel_rfl) (fun hb1 => ?_) (fun hb1 => ?_)
 ·have hr2 := cond_t hb1 hr1
  refine w_sr (by kernel_rfl) ?_
  refine p_qn 2 [] [(4, pB b3 0), (16, .agg #[vI 0, vI 0]), (17, vI r3)] [] hf8 (by kernel_rfl) .nil fun a9 hf9 => ?_
  refine p_store_eq (i := 2) (j := 0) (b := b3) (off := 0) (vs := [vI 0, vI 0]) (cs' := [vI 0, vI 0]) hS4 hf9 rfl (by kernel_rfl) (by kernel_rfl) rfl fun ww5 a10 hS5 hf10 => ⟨fun _ => trivial, ?_⟩
  refine p_qt [] [(4, pB b3 0), (5, vI r3)] [] hf10 (by kernel_rfl) .nil fun a11 hf11 => ?_
  refine w_ret (by kernel_rfl) ?_
  refine r_then ?_
  refine p_ret (os := [vI 0, vI 0]) (v := .tuple #[.agg #[vI 0, vI 0], vI r3]) (obs := [.cell ⟨b3, 0, none⟩ (vI 0), .cell ⟨b3, 1, none⟩ (vI 0)]) hf11 (by kernel_rfl) (.cell (hS5.box (i := 0) rfl (j := 0) rfl) (.cell (hS5.box (i := 0) rfl (j := 1) rfl) .nil)) ?_
  obtain rfl := some_eq hr2
  exact ⟨_, rfl, z1, k2, rfl, (St.drop 3 hS5)⟩
 ·have hr3 := cond_f hb1 hr1
  refine w_skip (by kernel_rfl) ?_
  refine n_then ?_
  refine w_seq (by kernel_rfl) ?_
  refine w_sr (by kernel_rfl) ?_
  refine p_qn 1 [vI x1_lo, vI x1_hi] [(2, pB b1 0), (3, pB b2 0), (4, pB b3 0), (18, .agg #[vI x1_lo, vI x1_hi])] [.cell ⟨b2, 0, none⟩ (vI x1_lo), .cell ⟨b2, 1, none⟩ (vI x1_hi)] hf8 (by kernel_rfl) (.cell (hS4.box (i := 1) rfl (j := 0) rfl) (.cell (hS4.box (i := 1) rfl (j := 1) rfl) .nil)) fun a12 hf12 => ?_
  obtain ⟨r4, hd2, hr4⟩ := bind_some hr3
  refine p_call (i := 1) (d := some 19) (f := 42) (args := #[.agg #[vI x1_lo, vI x1_hi]]) hf12 (by kernel_rfl) (f42_ok fuel x1_lo x1_hi r4 hd2 z1 _ _ hS4 ) ?_
  rintro v2 ww6 a13 ⟨z2, k3, rfl, hS6⟩ hf13
  refine ⟨fun _ => trivial, ?_⟩
  refine p_qt [] [(2, pB b1 0), (3, pB b2 0), (4, pB b3 0), (7, vI r4)] [] hf13 (by kernel_rfl) .nil fun a14 hf14 => ?_
  refine w_sq [] [(2, pB b1 0), (3, pB b2 0), (4, pB b3 0), (7, vI r4), (21, .bool (r4 != (0 : Int)))] [] hf14 (by kernel_rfl) .nil fun a15 hf15 => ?_
  refine w_if hf15 (b := (r4 != (0 : Int))) (by kernel_rfl) (fun hb2 => ?_) (fun hb2 => ?_)
  ·have hr5 := cond_t hb2 hr4
   refine w_sr (by kernel_rfl) ?_
   refine p_qn 2 [] [(4, pB b3 0), (22, .agg #[vI 0, vI 0]), (23, vI r4)] [] hf15 (by kernel_rfl) .nil fun a16 hf16 => ?_
   refine p_store_eq (i := 2) (j := 0) (b := b3) (off := 0) (vs := [vI 0, vI 0]) (cs' := [vI 0, vI 0]) hS6 hf16 rfl (by kernel_rfl) (by kernel_rfl) rfl fun ww7 a17 hS7 hf17 => ⟨fun _ => trivial, ?_⟩
   refine p_qt [] [(4, pB b3 0), (5, vI r4)] [] hf17 (by kernel_rfl) .nil fun a18 hf18 => ?_
   refine w_ret (by kernel_rfl) ?_
   refine r_then ?_
   refine p_ret (os := [vI 0, vI 0]) (v := .tuple #[.agg #[vI 0, vI 0], vI r4]) (obs := [.cell ⟨b3, 0, none⟩ (vI 0), .cell ⟨b3, 1, none⟩ (vI 0)]) hf18 (by kernel_rfl) (.cell (hS7.box (i := 0) rfl (j := 0) rfl) (.cell (hS7.box (i := 0) rfl (j := 1) rfl) .nil)) ?_
   obtain rfl := some_eq hr5
   exact ⟨_, rfl, z2, (Zone.le_trans k2 k3), rfl, (St.drop 3 hS7)⟩
  ·have hr6 := cond_f hb2 hr4
   refine w_skip (by kernel_rfl) ?_
   refine n_then ?_
   refine w_seq (by kernel_rfl) ?_
   refine w_sr (by kernel_rfl) ?_
   refine p_qn 2 [.slice o_x0 x0.length c_x0, vI x1_lo, vI x1_hi] [(2, pB b1 0), (3, pB b2 0), (4, pB b3 0), (24, .agg #[.slice o_x0 x0.length c_x0]), (25, .agg #[vI x1_lo, vI x1_hi])] [.cell ⟨b1, 0, none⟩ (.slice o_x0 x0.length c_x0), .cell ⟨b2, 0, none⟩ (vI x1_lo), .cell ⟨b2, 1, none⟩ (vI x1_hi)] hf15 (by kernel_rfl) (.cell (hS6.box (i := 2) rfl (j := 0) rfl) (.cell (hS6.box (i := 1) rfl (j := 0) rfl) (.cell (hS6.box (i := 1) rfl (j := 1) rfl) .nil))) fun a19 hf19 => ?_
   obtain ⟨r5, hd3, hr7⟩ := bind_some hr6
   refine p_call (i := 2) (d := some 26) (f := 43) (args := #[.agg #[.slice o_x0 x0.length c_x0], .agg #[vI x1_lo, vI x1_hi]]) hf19 (by kernel_rfl) (f43_ok fuel x0 x1_lo x1_hi r5 hd3 z2 _ _ hS6 o_x0 c_x0 (SliceR.mono (Zone.le_trans k2 k3) hx_x0)) ?_
   rintro v3 ww8 a20 ⟨z3, k4, rfl, hS8⟩ hf20
   refine ⟨fun _ => trivial, ?_⟩
   refine p_qt [] [(2, pB b1 0), (3, pB b2 0), (4, pB b3 0), (27, .bool (!r5))] [] hf20 (by kernel_rfl) .nil fun a21 hf21 => ?_
   refine w_if hf21 (b := (!r5)) (by kernel_rfl) (fun hb3 => ?_) (fun hb3 => ?_)
   ·have hr8 := cond_t hb3 hr7
    refine w_sr (by kernel_rfl) ?_
    refine p_qn 1 [] [(4, pB b3 0), (28, .agg #[vI 0, vI 0])] [] hf21 (by kernel_rfl) .nil fun a22 hf22 => ?_
    refine p_store_eq (i := 1) (j := 0) (b := b3) (off := 0) (vs := [vI 0, vI 0]) (cs' := [vI 0, vI 0]) hS8 hf22 rfl (by kernel_rfl) (by kernel_rfl) rfl fun ww9 a23 hS9 hf23 => ⟨fun _ => trivial, ?_⟩
    refine p_qt [] [(4, pB b3 0), (5, vI 4)] [] hf23 (by kernel_rfl) .nil fun a24 hf24 => ?_
    refine w_ret (by kernel_rfl) ?_
    refine r_then ?_
    refine p_ret (os := [vI 0, vI 0]) (v := .tuple #[.agg #[vI 0, vI 0], vI 4]) (obs := [.cell ⟨b3, 0, none⟩ (vI 0), .cell ⟨b3, 1, none⟩ (vI 0)]) hf24 (by kernel_rfl) (.cell (hS9.box (i := 0) rfl (j := 0) rfl) (.cell (hS9.box (i := 0) rfl (j := 1) rfl) .nil)) ?_
    obtain rfl := some_eq hr8
    exact ⟨_, rfl, z3, (Zone.le_trans (Zone.le_trans k2 k3) k4), rfl, (St.drop 3 hS9)⟩
   ·have hr9 := cond_f hb3 hr7
    refine w_skip (by kernel_rfl) ?_
    refine n_then ?_
    refine w_sr (by kernel_rfl) ?_
    refine p_box (i := 0) (d := (some 8)) (cs := [vI 0, vI 0, .bool false, .bool false]) (T := 83) (v := fun b4 => pB b4 0) hS8 hf21 (fun b => by kernel_rfl) fun b4 ww10 a25 hS10 hf25 => ⟨fun _ => trivial, ?_⟩
    refine p_dt (by kernel_rfl) ?_
    refine w_sq [] [(2, pB b1 0), (3, pB b2 0), (4, pB b3 0), (8, pB b4 0), (9, .func (.func 44) #[] #[pB b1 0, pB b4 0])] [] hf25 (by kernel_rfl) .nil fun a26 hf26 => ?_
    refine w_sr (by kernel_rfl) ?_
    refine p_qn 3 [vI x1_lo] [(2, pB b1 0), (3, pB b2 0), (4, pB b3 0), (8, pB b4 0), (9, .func (.func 44) #[] #[pB b1 0, pB b4 0]), (30, .func (.func 44) #[] #[pB b1 0, pB b4 0]), (32, vI x1_lo)] [.cell ⟨b2, 0, none⟩ (vI x1_lo)] hf26 (by kernel_rfl) (.cell (hS10.box (i := 2) rfl (j := 0) rfl) .nil) fun a27 hf27 => ?_
    refine p_inl (i := 3) (d := some 33) (f := 44) (args := #[vI x1_lo, pB b1 0, pB b4 0]) (N' := 14) hf27 (by kernel_rfl) Tryz.func44 (by kernel_rfl) fun a28 hf28 => ?_
    refine w_sr (by kernel_rfl) ?_
    refine p_qn 2 [.slice o_x0 x0.length c_x0] [(2, pB b4 0), (5, .agg #[.slice o_x0 x0.length c_x0]), (6, vI x1_lo)] [.cell ⟨b1, 0, none⟩ (.slice o_x0 x0.length c_x0)] hf28 (by kernel_rfl) (.cell (hS10.box (i := 3) rfl (j := 0) rfl) .nil) fun a29 hf29 => ?_
    obtain ⟨r6, hd4, hr10⟩ := bind_some hr9
    refine p_call (i := 2) (d := some 7) (f := 45) (args := #[.agg #[.slice o_x0 x0.length c_x0], vI x1_lo]) hf29 (by kernel_rfl) (f45_ok fuel x0 x1_lo r6 hd4 z3 _ _ hS10 o_x0 c_x0 (SliceR.mono (Zone.le_trans (Zone.le_trans k2 k3) k4) hx_x0)) ?_
    rintro v4 ww11 a30 ⟨z4, k5, rfl, hS11⟩ hf30
    refine ⟨fun _ => trivial, ?_⟩
    refine p_box (i := 3) (d := (some 4)) (cs := [vI 0, vI 0]) (T := 59) (v := fun b5 => pB b5 0) hS11 hf30 (fun b => by kernel_rfl) fun b5 ww12 a31 hS12 hf31 => ⟨fun _ => trivial, ?_⟩
    refine p_store_eq (i := 4) (j := 0) (b := b5) (off := 0) (vs := [vI r6.1, vI r6.2]) (cs' := [vI r6.1, vI r6.2]) hS12 hf31 rfl (by kernel_rfl) (by kernel_rfl) rfl fun ww13 a32 hS13 hf32 => ⟨fun _ => trivial, ?_⟩
    refine p_dt (by kernel_rfl) ?_
    refine w_sr (by kernel_rfl) ?_
    refine p_qn 2 [vI r6.1] [(2, pB b4 0), (4, pB b5 0), (9, vI r6.1)] [.cell ⟨b5, 0, none⟩ (vI r6.1)] hf32 (by kernel_rfl) (.cell (hS13.box (i := 0) rfl (j := 0) rfl) .nil) fun a33 hf33 => ?_
    refine p_inl (i := 2) (d := some 10) (f := 41) (args := #[pB b4 0, vI r6.1]) (N' := 36) hf33 (by kernel_rfl) Tryz.func41 (by kernel_rfl) fun a34 hf34 => ?_
    refine w_seq (by kernel_rfl) ?_
    refine w_sq [.bool false] [(0, pB b4 0), (1, vI r6.1), (8, .bool true)] [.cell ⟨b4, 2, none⟩ (.bool false)] hf34 (by kernel_rfl) (.cell (hS13.box (i := 1) rfl (j := 2) rfl) .nil) fun a35 hf35 => ?_
    refine w_if_true hf35 (by kernel_rfl) ?_
    refine w_reg (by kernel_rfl) ?_
    refine p_qn 7 [] [(0, pB b4 0), (1, vI r6.1), (10, pB b4 0), (13, .agg #[vI r6.1, vI r6.1]), (15, pB b4 0)] [] hf35 (by kernel_rfl) .nil fun a36 hf36 => ?_
    refine p_store_eq (i := 7) (j := 1) (b := b4) (off := 0) (vs := [vI r6.1, vI r6.1]) (cs' := [vI r6.1, vI r6.1, .bool false, .bool false]) hS13 hf36 rfl (by kernel_rfl) (by kernel_rfl) rfl fun ww14 a37 hS14 hf37 => ⟨fun _ => trivial, ?_⟩
    refine p_qn 2 [] [(0, pB b4 0), (1, vI r6.1), (17, pB b4 2)] [] hf37 (by kernel_rfl) .nil fun a38 hf38 => ?_
    refine p_store_eq (i := 10) (j := 1) (b := b4) (off := 2) (vs := [.bool true]) (cs' := [vI r6.1, vI r6.1, .bool true, .bool false]) hS14 hf38 rfl (by kernel_rfl) (by kernel_rfl) rfl fun ww15 a39 hS15 hf39 => ⟨fun _ => trivial, ?_⟩
    refine p_dt (by kernel_rfl) ?_
    have hS16 := hS15.drew
    refine w_regD (by kernel_rfl) [(0, true), (1, true), (2, true), (3, true), (4, true), (5, true), (6, true), (7, true), (8, true), (9, true), (10, true), (11, true), (12, true), (13, true), (14, true), (15, true), (16, true), (17, true), (18, false)] [18] (fun x => x = ww15.drew) (by kernel_rfl) rfl ?_
    refine p_qE 18 [vI r6.1, vI r6.1] [(33, .agg #[vI (if r6.1 < r6.1 then r6.1 else r6.1), vI (if r6.1 > r6.1 then r6.1 else r6.1)]), (35, pB b4 0)] [.cell ⟨b4, 0, none⟩ (vI r6.1), .cell ⟨b4, 1, none⟩ (vI r6.1)] [] hf39 (by kernel_rfl) (.cell (hS16.box (i := 1) rfl (j := 0) rfl) (.cell (hS16.box (i := 1) rfl (j := 1) rfl) .nil)) .nil fun a40 hf40 => ?_
    refine p_store_eq (i := 18) (j := 1) (b := b4) (off := 0) (vs := [vI (if r6.1 < r6.1 then r6.1 else r6.1), vI (if r6.1 > r6.1 then r6.1 else r6.1)]) (cs' := [vI (if r6.1 < r6.1 then r6.1 else r6.1), vI (if r6.1 > r6.1 then r6.1 else r6.1), .bool true, .bool false]) hS16 hf40 rfl (by kernel_rfl) (by kernel_rfl) rfl fun ww16 a41 hS17 hf41 => ⟨fun e => absurd e (by decide), ?_⟩
    refine p_done (by kernel_rfl) ?_
    refine p_fall (os := []) (v := .tuple #[]) (obs := []) hf41 (by kernel_rfl) .nil ?_
    refine ⟨_, rfl, fun a42 hf42 => ?_⟩
    refine ⟨fun _ => trivial, ?_⟩
    refine p_dt (by kernel_rfl) ?_
    refine w_reg (by kernel_rfl) ?_
    refine p_qn 2 [vI r6.2] [(2, pB b4 0), (12, vI r6.2)] [.cell ⟨b5, 1, none⟩ (vI r6.2)] hf42 (by kernel_rfl) (.cell (hS17.box (i := 0) rfl (j := 1) rfl) .nil) fun a43 hf43 => ?_
    refine p_inl (i := 2) (d := some 13) (f := 41) (args := #[pB b4 0, vI r6.2]) (N' := 36) hf43 (by kernel_rfl) Tryz.func41 (by kernel_rfl) fun a44 hf44 => ?_
    refine w_seq (by kernel_rfl) ?_
    refine w_sq [.bool true] [(0, pB b4 0), (1, vI r6.2), (8, .bool false)] [.cell ⟨b4, 2, none⟩ (.bool true)] hf44 (by kernel_rfl) (.cell (hS17.box (i := 1) rfl (j := 2) rfl) .nil) fun a45 hf45 => ?_
    refine w_if_false hf45 (by kernel_rfl) ?_
    refine w_skip (by kernel_rfl) ?_
    refine n_then ?_
    have hS18 := hS17.drew
    refine w_regD (by kernel_rfl) [(0, true), (1, true), (2, true), (3, true), (4, true), (5, true), (6, true), (7, true), (8, true), (9, true), (10, true), (11, true), (12, true), (13, true), (14, true), (15, true), (16, true), (17, true), (18, false)] [18] (fun x => x = ww16.drew) (by kernel_rfl) rfl ?_
    refine p_qE 18 [vI (if r6.1 < r6.1 then r6.1 else r6.1), vI (if r6.1 > r6.1 then r6.1 else r6.1)] [(33, .agg #[vI (if r6.2 < (if r6.1 < r6.1 then r6.1 else r6.1) then r6.2 else (if r6.1 < r6.1 then r6.1 else r6.1)), vI (if r6.2 > (if r6.1 > r6.1 then r6.1 else r6.1) then r6.2 else (if r6.1 > r6.1 then r6.1 else r6.1))]), (35, pB b4 0)] [.cell ⟨b4, 0, none⟩ (vI (if r6.1 < r6.1 then r6.1 else r6.1)), .cell ⟨b4, 1, none⟩ (vI (if r6.1 > r6.1 then r6.1 else r6.1))] [] hf45 (by kernel_rfl) (.cell (hS18.box (i := 1) rfl (j := 0) rfl) (.cell (hS18.box (i := 1) rfl (j := 1) rfl) .nil)) .nil fun a46 hf46 => ?_
    refine p_store_eq (i := 18) (j := 1) (b := b4) (off := 0) (vs := [vI (if r6.2 < (if r6.1 < r6.1 then r6.1 else r6.1) then r6.2 else (if r6.1 < r6.1 then r6.1 else r6.1)), vI (if r6.2 > (if r6.1 > r6.1 then r6.1 else r6.1) then r6.2 else (if r6.1 > r6.1 then r6.1 else r6.1))]) (cs' := [vI (if r6.2 < (if r6.1 < r6.1 then r6.1 else r6.1) then r6.2 else (if r6.1 < r6.1 then r6.1 else r6.1)), vI (if r6.2 > (if r6.1 > r6.1 then r6.1 else r6.1) then r6.2 else (if r6.1 > r6.1 then r6.1 else r6.1)), .bool true, .bool false]) hS18 hf46 rfl (by kernel_rfl) (by kernel_rfl) rfl fun ww17 a47 hS19 hf47 => ⟨fun e => absurd e (by decide), ?_⟩
    refine p_done (by kernel_rfl) ?_
    refine p_fall (os := []) (v := .tuple #[]) (obs := []) hf47 (by kernel_rfl) .nil ?_
    refine ⟨_, rfl, fun a48 hf48 => ?_⟩
    refine ⟨fun _ => trivial, ?_⟩
    refine p_done (by kernel_rfl) ?_
    refine p_fall (os := []) (v := .tuple #[]) (obs := []) hf48 (by kernel_rfl) .nil ?_
    refine ⟨_, rfl, fun a49 hf49 => ?_⟩
    have hS20 := St.drop 1 hS19
    refine ⟨fun _ => trivial, ?_⟩
    refine p_dt (by kernel_rfl) ?_
    refine w_sr (by kernel_rfl) ?_
    refine p_qn 3 [vI x1_hi] [(2, pB b1 0), (3, pB b2 0), (4, pB b3 0), (8, pB b4 0), (9, .func (.func 44) #[] #[pB b1 0, pB b4 0]), (34, .func (.func 44) #[] #[pB b1 0, pB b4 0]), (36, vI x1_hi)] [.cell ⟨b2, 1, none⟩ (vI x1_hi)] hf49 (by kernel_rfl) (.cell (hS20.box (i := 2) rfl (j := 1) rfl) .nil) fun a50 hf50 => ?_
    refine p_inl (i := 3) (d := some 37) (f := 44) (args := #[vI x1_hi, pB b1 0, pB b4 0]) (N' := 14) hf50 (by kernel_rfl) Tryz.func44 (by kernel_rfl) fun a51 hf51 => ?_
    refine w_sr (by kernel_rfl) ?_
    refine p_qn 2 [.slice o_x0 x0.length c_x0] [(2, pB b4 0), (5, .agg #[.slice o_x0 x0.length c_x0]), (6, vI x1_hi)] [.cell ⟨b1, 0, none⟩ (.slice o_x0 x0.length c_x0)] hf51 (by kernel_rfl) (.cell (hS20.box (i := 3) rfl (j := 0) rfl) .nil) fun a52 hf52 => ?_
    obtain ⟨r7, hd5, hr11⟩ := bind_some hr10
    refine p_call (i := 2) (d := some 7) (f := 45) (args := #[.agg #[.slice o_x0 x0.length c_x0], vI x1_hi]) hf52 (by kernel_rfl) (f45_ok fuel x0 x1_hi r7 hd5 z4 _ _ hS20 o_x0 c_x0 (SliceR.mono (Zone.le_trans (Zone.le_trans (Zone.le_trans k2 k3) k4) k5) hx_x0)) ?_
    rintro v5 ww18 a53 ⟨z5, k6, rfl, hS21⟩ hf53
    refine ⟨fun _ => trivial, ?_⟩
    refine p_box (i := 3) (d := (some 4)) (cs := [vI 0, vI 0]) (T := 59) (v := fun b6 => pB b6 0) hS21 hf53 (fun b => by kernel_rfl) fun b6 ww19 a54 hS22 hf54 => ⟨fun _ => trivial, ?_⟩
    refine p_store_eq (i := 4) (j := 0) (b := b6) (off := 0) (vs := [vI r7.1, vI r7.2]) (cs' := [vI r7.1, vI r7.2]) hS22 hf54 rfl (by kernel_rfl) (by kernel_rfl) rfl fun ww20 a55 hS23 hf55 => ⟨fun _ => trivial, ?_⟩
    refine p_dt (by kernel_rfl) ?_
    refine w_sr (by kernel_rfl) ?_
    refine p_qn 2 [vI r7.1] [(2, pB b4 0), (4, pB b6 0), (9, vI r7.1)] [.cell ⟨b6, 0, none⟩ (vI r7.1)] hf55 (by kernel_rfl) (.cell (hS23.box (i := 0) rfl (j := 0) rfl) .nil) fun a56 hf56 => ?_
    refine p_inl (i := 2) (d := some 10) (f := 41) (args := #[pB b4 0, vI r7.1]) (N' := 36) hf56 (by kernel_rfl) Tryz.func41 (by kernel_rfl) fun a57 hf57 => ?_
    refine w_seq (by kernel_rfl) ?_
    refine w_sq [.bool true] [(0, pB b4 0), (1, vI r7.1), (8, .bool false)] [.cell ⟨b4, 2, none⟩ (.bool true)] hf57 (by kernel_rfl) (.cell (hS23.box (i := 1) rfl (j := 2) rfl) .nil) fun a58 hf58 => ?_
    refine w_if_false hf58 (by kernel_rfl) ?_
    refine w_skip (by kernel_rfl) ?_
    refine n_then ?_
    have hS24 := hS23.drew
    refine w_regD (by kernel_rfl) [(0, true), (1, true), (2, true), (3, true), (4, true), (5, true), (6, true), (7, true), (8, true), (9, true), (10, true), (11, true), (12, true), (13, true), (14, true), (15, true), (16, true), (17, true), (18, false)] [18] (fun x => x = ww20.drew) (by kernel_rfl) rfl ?_
    refine p_qE 18 [vI (if r6.2 < (if r6.1 < r6.1 then r6.1 else r6.1) then r6.2 else (if r6.1 < r6.1 then r6.1 else r6.1)), vI (if r6.2 > (if r6.1 > r6.1 then r6.1 else r6.1) then r6.2 else (if r6.1 > r6.1 then r6.1 else r6.1))] [(33, .agg #[vI (if r7.1 < (if r6.2 < (if r6.1 < r6.1 then r6.1 else r6.1) then r6.2 else (if r6.1 < r6.1 then r6.1 else r6.1)) then r7.1 else (if r6.2 < (if r6.1 < r6.1 then r6.1 else r6.1) then r6.2 else (if r6.1 < r6.1 then r6.1 else r6.1))), vI (if r7.1 > (if r6.2 > (if r6.1 > r6.1 then r6.1 else r6.1) then r6.2 else (if r6.1 > r6.1 then r6.1 else r6.1)) then r7.1 else (if r6.2 > (if r6.1 > r6.1 then r6.1 else r6.1) then r6.2 else (if r6.1 > r6.1 then r6.1 else r6.1)))]), (35, pB b4 0)] [.cell ⟨b4, 0, none⟩ (vI (if r6.2 < (if r6.1 < r6.1 then r6.1 else r6.1) then r6.2 else (if r6.1 < r6.1 then r6.1 else r6.1))), .cell ⟨b4, 1, none⟩ (vI (if r6.2 > (if r6.1 > r6.1 then r6.1 else r6.1) then r6.2 else (if r6.1 > r6.1 then r6.1 else r6.1)))] [] hf58 (by kernel_rfl) (.cell (hS24.box (i := 1) rfl (j := 0) rfl) (.cell (hS24.box (i := 1) rfl (j := 1) rfl) .nil)) .nil fun a59 hf59 => ?_
    refine p_store_eq (i := 18) (j := 1) (b := b4) (off := 0) (vs := [vI (if r7.1 < (if r6.2 < (if r6.1 < r6.1 then r6.1 else r6.1) then r6.2 else (if r6.1 < r6.1 then r6.1 else r6.1)) then r7.1 else (if r6.2 < (if r6.1 < r6.1 then r6.1 else r6.1) then r6.2 else (if r6.1 < r6.1 then r6.1 else r6.1))), vI (if r7.1 > (if r6.2 > (if r6.1 > r6.1 then r6.1 else r6.1) then r6.2 else (if r6.1 > r6.1 then r6.1 else r6.1)) then r7.1 else (if r6.2 > (if r6.1 > r6.1 then r6.1 else r6.1) then r6.2 else (if r6.1 > r6.1 then r6.1 else r6.1)))]) (cs' := [vI (if r7.1 < (if r6.2 < (if r6.1 < r6.1 then r6.1 else r6.1) then r6.2 else (if r6.1 < r6.1 then r6.1 else r6.1)) then r7.1 else (if r6.2 < (if r6.1 < r6.1 then r6.1 else r6.1) then r6.2 else (if r6.1 < r6.1 then r6.1 else r6.1))), vI (if r7.1 > (if r6.2 > (if r6.1 > r6.1 then r6.1 else r6.1) then r6.2 else (if r6.1 > r6.1 then r6.1 else r6.1)) then r7.1 else (if r6.2 > (if r6.1 > r6.1 then r6.1 else r6.1) then r6.2 else (if r6.1 > r6.1 then r6.1 else r6.1))), .bool true, .bool false]) hS24 hf59 rfl (by kernel_rfl) (by kernel_rfl) rfl fun ww21 a60 hS25 hf60 => ⟨fun e => absurd e (by decide), ?_⟩
    refine p_done (by kernel_rfl) ?_
    refine p_fall (os := []) (v := .tuple #[]) (obs := []) hf60 (by kernel_rfl) .nil ?_
    refine ⟨_, rfl, fun a61 hf61 => ?_⟩
    refine ⟨fun _ => trivial, ?_⟩
    refine p_dt (by kernel_rfl) ?_
    refine w_reg (by kernel_rfl) ?_
    refine p_qn 2 [vI r7.2] [(2, pB b4 0), (12, vI r7.2)] [.cell ⟨b6, 1, none⟩ (vI r7.2)] hf61 (by kernel_rfl) (.cell (hS25.box (i := 0) rfl (j := 1) rfl) .nil) fun a62 hf62 => ?_
    refine p_inl (i := 2) (d := some 13) (f := 41) (args := #[pB b4 0, vI r7.2]) (N' := 36) hf62 (by kernel_rfl) Tryz.func41 (by kernel_rfl) fun a63 hf63 => ?_
    refine w_seq (by kernel_rfl) ?_
    refine w_sq [.bool true] [(0, pB b4 0), (1, vI r7.2), (8, .bool false)] [.cell ⟨b4, 2, none⟩ (.bool true)] hf63 (by kernel_rfl) (.cell (hS25.box (i := 1) rfl (j := 2) rfl) .nil) fun a64 hf64 => ?_
    refine w_if_false hf64 (by kernel_rfl) ?_
    refine w_skip (by kernel_rfl) ?_
    refine n_then ?_
    have hS26 := hS25.drew
    refine w_regD (by kernel_rfl) [(0, true), (1, true), (2, true), (3, true), (4, true), (5, true), (6, true), (7, true), (8, true), (9, true), (10, true), (11, true), (12, true), (13, true), (14, true), (15, true), (16, true), (17, true), (18, false)] [18] (fun x => x = ww21.drew) (by kernel_rfl) rfl ?_
    refine p_qE 18 [vI (if r7.1 < (if r6.2 < (if r6.1 < r6.1 then r6.1 else r6.1) then r6.2 else (if r6.1 < r6.1 then r6.1 else r6.1)) then r7.1 else (if r6.2 < (if r6.1 < r6.1 then r6.1 else r6.1) then r6.2 else (if r6.1 < r6.1 then r6.1 else r6.1))), vI (if r7.1 > (if r6.2 > (if r6.1 > r6.1 then r6.1 else r6.1) then r6.2 else (if r6.1 > r6.1 then r6.1 else r6.1)) then r7.1 else (if r6.2 > (if r6.1 > r6.1 then r6.1 else r6.1) then r6.2 else (if r6.1 > r6.1 then r6.1 else r6.1)))] [(33, .agg #[vI (if r7.2 < (if r7.1 < (if r6.2 < (if r6.1 < r6.1 then r6.1 else r6.1) then r6.2 else (if r6.1 < r6.1 then r6.1 else r6.1)) then r7.1 else (if r6.2 < (if r6.1 < r6.1 then r6.1 else r6.1) then r6.2 else (if r6.1 < r6.1 then r6.1 else r6.1))) then r7.2 else (if r7.1 < (if r6.2 < (if r6.1 < r6.1 then r6.1 else r6.1) then r6.2 else (if r6.1 < r6.1 then r6.1 else r6.1)) then r7.1 else (if r6.2 < (if r6.1 < r6.1 then r6.1 else r6.1) then r6.2 else (if r6.1 < r6.1 then r6.1 else r6.1)))), vI (if r7.2 > (if r7.1 > (if r6.2 > (if r6.1 > r6.1 then r6.1 else r6.1) then r6.2 else (if r6.1 > r6.1 then r6.1 else r6.1)) then r7.1 else (if r6.2 > (if r6.1 > r6.1 then r6.1 else r6.1) then r6.2 else (if r6.1 > r6.1 then r6.1 else r6.1))) then r7.2 else (if r7.1 > (if r6.2 > (if r6.1 > r6.1 then r6.1 else r6.1) then r6.2 else (if r6.1 > r6.1 then r6.1 else r6.1)) then r7.1 else (if r6.2 > (if r6.1 > r6.1 then r6.1 else r6.1) then r6.2 else (if r6.1 > r6.1 then r6.1 else r6.1))))]), (35, pB b4 0)] [.cell ⟨b4, 0, none⟩ (vI (if r7.1 < (if r6.2 < (if r6.1 < r6.1 then r6.1 else r6.1) then r6.2 else (if r6.1 < r6.1 then r6.1 else r6.1)) then r7.1 else (if r6.2 < (if r6.1 < r6.1 then r6.1 else r6.1) then r6.2 else (if r6.1 < r6.1 then r6.1 else r6.1)))), .cell ⟨b4, 1, none⟩ (vI (if r7.1 > (if r6.2 > (if r6.1 > r6.1 then r6.1 else r6.1) then r6.2 else (if r6.1 > r6.1 then r6.1 else r6.1)) then r7.1 else (if r6.2 > (if r6.1 > r6.1 then r6.1 else r6.1) then r6.2 else (if r6.1 > r6.1 then r6.1 else r6.1))))] [] hf64 (by kernel_rfl) (.cell (hS26.box (i := 1) rfl (j := 0) rfl) (.cell (hS26.box (i := 1) rfl (j := 1) rfl) .nil)) .nil fun a65 hf65 => ?_
    refine p_store_eq (i := 18) (j := 1) (b := b4) (off := 0) (vs := [vI (if r7.2 < (if r7.1 < (if r6.2 < (if r6.1 < r6.1 then r6.1 else r6.1) then r6.2 else (if r6.1 < r6.1 then r6.1 else r6.1)) then r7.1 else (if r6.2 < (if r6.1 < r6.1 then r6.1 else r6.1) then r6.2 else (if r6.1 < r6.1 then r6.1 else r6.1))) then r7.2 else (if r7.1 < (if r6.2 < (if r6.1 < r6.1 then r6.1 else r6.1) then r6.2 else (if r6.1 < r6.1 then r6.1 else r6.1)) then r7.1 else (if r6.2 < (if r6.1 < r6.1 then r6.1 else r6.1) then r6.2 else (if r6.1 < r6.1 then r6.1 else r6.1)))), vI (if r7.2 > (if r7.1 > (if r6.2 > (if r6.1 > r6.1 then r6.1 else r6.1) then r6.2 else (if r6.1 > r6.1 then r6.1 else r6.1)) then r7.1 else (if r6.2 > (if r6.1 > r6.1 then r6.1 else r6.1) then r6.2 else (if r6.1 > r6.1 then r6.1 else r6.1))) then r7.2 else (if r7.1 > (if r6.2 > (if r6.1 > r6.1 then r6.1 else r6.1) then r6.2 else (if r6.1 > r6.1 then r6.1 else r6.1)) then r7.1 else (if r6.2 > (if r6.1 > r6.1 then r6.1 else r6.1) then r6.2 else (if r6.1 > r6.1 then r6.1 else r6.1))))]) (cs' := [vI (if r7.2 < (if r7.1 < (if r6.2 < (if r6.1 < r6.1 then r6.1 else r6.1) then r6.2 else (if r6.1 < r6.1 then r6.1 else r6.1)) then r7.1 else (if r6.2 < (if r6.1 < r6.1 then r6.1 else r6.1) then r6.2 else (if r6.1 < r6.1 then r6.1 else r6.1))) then r7.2 else (if r7.1 < (if r6.2 < (if r6.1 < r6.1 then r6.1 else r6.1) then r6.2 else (if r6.1 < r6.1 then r6.1 else r6.1)) then r7.1 else (if r6.2 < (if r6.1 < r6.1 then r6.1 else r6.1) then r6.2 else (if r6.1 < r6.1 then r6.1 else r6.1)))), vI (if r7.2 > (if r7.1 > (if r6.2 > (if r6.1 > r6.1 then r6.1 else r6.1) then r6.2 else (if r6.1 > r6.1 then r6.1 else r6.1)) then r7.1 else (if r6.2 > (if r6.1 > r6.1 then r6.1 else r6.1) then r6.2 else (if r6.1 > r6.1 then r6.1 else r6.1))) then r7.2 else (if r7.1 > (if r6.2 > (if r6.1 > r6.1 then r6.1 else r6.1) then r6.2 else (if r6.1 > r6.1 then r6.1 else r6.1)) then r7.1 else (if r6.2 > (if r6.1 > r6.1 then r6.1 else r6.1) then r6.2 else (if r6.1 > r6.1 then r6.1 else r6.1)))), .bool true, .bool false]) hS26 hf65 rfl (by kernel_rfl) (by kernel_rfl) rfl fun ww22 a66 hS27 hf66 => ⟨fun e => absurd e (by decide), ?_⟩
    refine p_done (by kernel_rfl) ?_
    refine p_fall (os := []) (v := .tuple #[]) (obs := []) hf66 (by kernel_rfl) .nil ?_
    refine ⟨_, rfl, fun a67 hf67 => ?_⟩
    refine ⟨fun _ => trivial, ?_⟩
    refine p_done (by kernel_rfl) ?_
    refine p_fall (os := []) (v := .tuple #[]) (obs := []) hf67 (by kernel_rfl) .nil ?_
    refine ⟨_, rfl, fun a68 hf68 => ?_⟩
    have hS28 := St.drop 1 hS27
    refine ⟨fun _ => trivial, ?_⟩
    refine p_dt (by kernel_rfl) ?_
    refine w_seq (by kernel_rfl) ?_
    refine w_sq [.slice o_x0 x0.length c_x0] [(3, pB b2 0), (4, pB b3 0), (8, pB b4 0), (9, .func (.func 44) #[] #[pB b1 0, pB b4 0]), (39, .slice o_x0 x0.length c_x0), (40, vI (x0.length : Int)), (41, vI 0)] [.cell ⟨b1, 0, none⟩ (.slice o_x0 x0.length c_x0)] hf68 (by kernel_rfl) (.cell (hS28.box (i := 3) rfl (j := 0) rfl) .nil) fun a69 hf69 => ?_
    refine w_block (id := 0) (by kernel_rfl) ?_
    have hf70 := Fr.keep (ks := [3, 4, 8, 9, 39, 40, 41]) (r := [(3, pB b2 0), (4, pB b3 0), (8, pB b4 0), (9, .func (.func 44) #[] #[pB b1 0, pB b4 0]), (39, .slice o_x0 x0.length c_x0), (40, vI (x0.length : Int)), (41, vI 0)]) hf69 (by kernel_rfl)
    refine w_loop (by kernel_rfl) (fun n a w => ∃ z6 : Zone, ∃ y4 : Int, ∃ y5 : Int, ∃ y1 : Int, Zone.le z5 z6 ∧ Fr a 59 [(3, pB b2 0), (4, pB b3 0), (8, pB b4 0), (9, .func (.func 44) #[] #[pB b1 0, pB b4 0]), (39, .slice o_x0 x0.length c_x0), (40, vI (x0.length : Int)), (41, vI y1)] ∧ St z6 (box b4 [vI y4, vI y5, .bool true, .bool false] 83 :: box b3 [vI 0, vI 0] 59 :: box b2 [vI x1_lo, vI x1_hi] 59 :: box b1 [.slice o_x0 x0.length c_x0] 24 :: L) w ∧ (F26_l1 fuel x0 x1_lo x1_hi n y4 y5 y1) = some r) fuel ⟨z5, (if r7.2 < (if r7.1 < (if r6.2 < (if r6.1 < r6.1 then r6.1 else r6.1) then r6.2 else (if r6.1 < r6.1 then r6.1 else r6.1)) then r7.1 else (if r6.2 < (if r6.1 < r6.1 then r6.1 else r6.1) then r6.2 else (if r6.1 < r6.1 then r6.1 else r6.1))) then r7.2 else (if r7.1 < (if r6.2 < (if r6.1 < r6.1 then r6.1 else r6.1) then r6.2 else (if r6.1 < r6.1 then r6.1 else r6.1)) then r7.1 else (if r6.2 < (if r6.1 < r6.1 then r6.1 else r6.1) then r6.2 else (if r6.1 < r6.1 then r6.1 else r6.1)))), (if r7.2 > (if r7.1 > (if r6.2 > (if r6.1 > r6.1 then r6.1 else r6.1) then r6.2 else (if r6.1 > r6.1 then r6.1 else r6.1)) then r7.1 else (if r6.2 > (if r6.1 > r6.1 then r6.1 else r6.1) then r6.2 else (if r6.1 > r6.1 then r6.1 else r6.1))) then r7.2 else (if r7.1 > (if r6.2 > (if r6.1 > r6.1 then r6.1 else r6.1) then r6.2 else (if r6.1 > r6.1 then r6.1 else r6.1)) then r7.1 else (if r6.2 > (if r6.1 > r6.1 then r6.1 else r6.1) then r6.2 else (if r6.1 > r6.1 then r6.1 else r6.1)))), 0, (Zone.le_refl _), hf70, hS28, hr11⟩ ?_
    rintro n2 a70 ww23 ⟨z6, y4, y5, y1, k7, hf71, hS29, hr12⟩
    cases n2 with
    | zero => cases hr12
    | succ n1 =>
    refine w_sq [] [(3, pB b2 0), (4, pB b3 0), (8, pB b4 0), (9, .func (.func 44) #[] #[pB b1 0, pB b4 0]), (39, .slice o_x0 x0.length c_x0), (40, vI (x0.length : Int)), (41, vI y1), (42, .bool (decide (y1 < (x0.length : Int))))] [] hf71 (by kernel_rfl) .nil fun a71 hf72 => ?_
    refine w_seq (by kernel_rfl) ?_
    refine w_if hf72 (b := (decide (y1 < (x0.length : Int)))) (by kernel_rfl) (fun hb4 => ?_) (fun hb4 => ?_)
    ·have hr13 := cond_t hb4 hr12
     refine w_skip (by kernel_rfl) ?_
     refine n_then ?_
     refine w_mid (by kernel_rfl) (fun a w => ∃ z7 : Zone, ∃ y2 : Int, ∃ y3 : Int, Zone.le z6 z7 ∧ Fr a 59 [(3, pB b2 0), (4, pB b3 0), (8, pB b4 0), (9, .func (.func 44) #[] #[pB b1 0, pB b4 0]), (39, .slice o_x0 x0.length c_x0), (40, vI (x0.length : Int)), (41, vI y1)] ∧ St z7 (box b4 [vI y2, vI y3, .bool true, .bool false] 83 :: box b3 [vI 0, vI 0] 59 :: box b2 [vI x1_lo, vI x1_hi] 59 :: box b1 [.slice o_x0 x0.length c_x0] 24 :: L) w ∧ (F26_j1 (F26_l1 fuel x0 x1_lo x1_hi n1) y1 y2 y3) = some r) ?_ ?_
     ·skip
      refine w_block (id := 1) (by kernel_rfl) ?_
      refine w_sr (by kernel_rfl) ?_
      obtain ⟨p1, hp4548, hr14⟩ := bind_some hr13
      obtain ⟨ad1, ho1, hb5, cc1, hc1, hk1⟩ := SliceR.getI (SliceR.mono (Zone.le_trans (Zone.le_trans (Zone.le_trans (Zone.le_trans (Zone.le_trans k2 k3) k4) k5) k6) k7) hx_x0) hp4548
      subst hc1
      refine p_qn 2 [.pointer (some ad1), vI p1.x, vI p1.lo, vI p1.hi] [(3, pB b2 0), (4, pB b3 0), (8, pB b4 0), (9, .func (.func 44) #[] #[pB b1 0, pB b4 0]), (39, .slice o_x0 x0.length c_x0), (40, vI (x0.length : Int)), (41, vI y1), (44, .agg #[vI p1.x, vI p1.lo, vI p1.hi])] [.prop (o_x0 = some ad1), .prop (0 ≤ y1 ∧ y1 < (x0.length : Nat)), .cell ((ad1.add (Int.toNat y1 * 3)).add 0) (vI p1.x), .cell ((ad1.add (Int.toNat y1 * 3)).add 1) (vI p1.lo), .cell ((ad1.add (Int.toNat y1 * 3)).add 2) (vI p1.hi)] hf72 (by kernel_rfl) (.prop ho1 (.prop hb5 (.cell (hS29.cell (hk1 0 _ rfl)) (.cell (hS29.cell (hk1 1 _ rfl)) (.cell (hS29.cell (hk1 2 _ rfl)) .nil))))) fun a72 hf73 => ?_
      refine p_box (i := 2) (d := (some 11)) (cs := [vI 0, vI 0, vI 0]) (T := 39) (v := fun b7 => pB b7 0) hS29 hf73 (fun b => by kernel_rfl) fun b7 ww24 a73 hS30 hf74 => ⟨fun _ => trivial, ?_⟩
      refine p_store_eq (i := 3) (j := 0) (b := b7) (off := 0) (vs := [vI p1.x, vI p1.lo, vI p1.hi]) (cs' := [vI p1.x, vI p1.lo, vI p1.hi]) hS30 hf74 rfl (by kernel_rfl) (by kernel_rfl) rfl fun ww25 a74 hS31 hf75 => ⟨fun _ => trivial, ?_⟩
      refine p_dt (by kernel_rfl) ?_
      refine w_sr (by kernel_rfl) ?_
      refine p_qn 6 [vI p1.x, vI x1_lo, vI x1_hi] [(3, pB b2 0), (4, pB b3 0), (8, pB b4 0), (9, .func (.func 44) #[] #[pB b1 0, pB b4 0]), (11, pB b7 0), (39, .slice o_x0 x0.length c_x0), (40, vI (x0.length : Int)), (41, vI y1), (46, vI p1.x), (48, vI x1_lo), (50, vI x1_hi)] [.cell ⟨b7, 0, none⟩ (vI p1.x), .cell ⟨b2, 0, none⟩ (vI x1_lo), .cell ⟨b2, 1, none⟩ (vI x1_hi)] hf75 (by kernel_rfl) (.cell (hS31.box (i := 0) rfl (j := 0) rfl) (.cell (hS31.box (i := 3) rfl (j := 0) rfl) (.cell (hS31.box (i := 3) rfl (j := 1) rfl) .nil))) fun a75 hf76 => ?_
      obtain ⟨r1, hd6, hr15⟩ := bind_some hr14
      refine p_call (i := 6) (d := some 51) (f := 32) (args := #[vI p1.x, vI x1_lo, vI x1_hi]) hf76 (by kernel_rfl) (f32_ok fuel p1.x x1_lo x1_hi r1 hd6 z6 _ _ hS31 ) ?_
      rintro v6 ww26 a76 ⟨z8, k8, rfl, hS32⟩ hf77
      refine ⟨fun _ => trivial, ?_⟩
      refine p_dt (by kernel_rfl) ?_
      refine w_if hf77 (b := r1) (by kernel_rfl) (fun hb6 => ?_) (fun hb6 => ?_)
      ·have hr16 := cond_t hb6 hr15
       refine w_reg (by kernel_rfl) ?_
       refine p_qn 3 [vI p1.x] [(3, pB b2 0), (4, pB b3 0), (8, pB b4 0), (9, .func (.func 44) #[] #[pB b1 0, pB b4 0]), (39, .slice o_x0 x0.length c_x0), (40, vI (x0.length : Int)), (41, vI y1), (52, .func (.func 44) #[] #[pB b1 0, pB b4 0]), (54, vI p1.x)] [.cell ⟨b7, 0, none⟩ (vI p1.x)] hf77 (by kernel_rfl) (.cell (hS32.box (i := 0) rfl (j := 0) rfl) .nil) fun a77 hf78 => ?_
       refine p_inl (i := 3) (d := some 55) (f := 44) (args := #[vI p1.x, pB b1 0, pB b4 0]) (N' := 14) hf78 (by kernel_rfl) Tryz.func44 (by kernel_rfl) fun a78 hf79 => ?_
       refine w_sr (by kernel_rfl) ?_
       refine p_qn 2 [.slice o_x0 x0.length c_x0] [(2, pB b4 0), (5, .agg #[.slice o_x0 x0.length c_x0]), (6, vI p1.x)] [.cell ⟨b1, 0, none⟩ (.slice o_x0 x0.length c_x0)] hf79 (by kernel_rfl) (.cell (hS32.box (i := 4) rfl (j := 0) rfl) .nil) fun a79 hf80 => ?_
       obtain ⟨r2, hd7, hr17⟩ := bind_some hr16
       refine p_call (i := 2) (d := some 7) (f := 45) (args := #[.agg #[.slice o_x0 x0.length c_x0], vI p1.x]) hf80 (by kernel_rfl) (f45_ok fuel x0 p1.x r2 hd7 z8 _ _ hS32 o_x0 c_x0 (SliceR.mono (Zone.le_trans (Zone.le_trans (Zone.le_trans (Zone.le_trans (Zone.le_trans (Zone.le_trans k2 k3) k4) k5) k6) k7) k8) hx_x0)) ?_
       rintro v7 ww27 a80 ⟨z9, k9, rfl, hS33⟩ hf81
       refine ⟨fun _ => trivial, ?_⟩
       refine p_box (i := 3) (d := (some 4)) (cs := [vI 0, vI 0]) (T := 59) (v := fun b8 => pB b8 0) hS33 hf81 (fun b => by kernel_rfl) fun b8 ww28 a81 hS34 hf82 => ⟨fun _ => trivial, ?_⟩
       refine p_store_eq (i := 4) (j := 0) (b := b8) (off := 0) (vs := [vI r2.1, vI r2.2]) (cs' := [vI r2.1, vI r2.2]) hS34 hf82 rfl (by kernel_rfl) (by kernel_rfl) rfl fun ww29 a82 hS35 hf83 => ⟨fun _ => trivial, ?_⟩
       refine p_dt (by kernel_rfl) ?_
       refine w_sr (by kernel_rfl) ?_
       refine p_qn 2 [vI r2.1] [(2, pB b4 0), (4, pB b8 0), (9, vI r2.1)] [.cell ⟨b8, 0, none⟩ (vI r2.1)] hf83 (by kernel_rfl) (.cell (hS35.box (i := 0) rfl (j := 0) rfl) .nil) fun a83 hf84 => ?_
       refine p_inl (i := 2) (d := some 10) (f := 41) (args := #[pB b4 0, vI r2.1]) (N' := 36) hf84 (by kernel_rfl) Tryz.func41 (by kernel_rfl) fun a84 hf85 => ?_
       refine w_seq (by kernel_rfl) ?_
       refine w_sq [.bool true] [(0, pB b4 0), (1, vI r2.1), (8, .bool false)] [.cell ⟨b4, 2, none⟩ (.bool true)] hf85 (by kernel_rfl) (.cell (hS35.box (i := 2) rfl (j := 2) rfl) .nil) fun a85 hf86 => ?_
       refine w_if_false hf86 (by kernel_rfl) ?_
       refine w_skip (by kernel_rfl) ?_
       refine n_then ?_
       have hS36 := hS35.drew
       refine w_regD (by kernel_rfl) [(0, true), (1, true), (2, true), (3, true), (4, true), (5, true), (6, true), (7, true), (8, true), (9, true), (10, true), (11, true), (12, true), (13, true), (14, true), (15, true), (16, true), (17, true), (18, false)] [18] (fun x => x = ww29.drew) (by kernel_rfl) rfl ?_
       refine p_qE 18 [vI y4, vI y5] [(33, .agg #[vI (if r2.1 < y4 then r2.1 else y4), vI (if r2.1 > y5 then r2.1 else y5)]), (35, pB b4 0)] [.cell ⟨b4, 0, none⟩ (vI y4), .cell ⟨b4, 1, none⟩ (vI y5)] [] hf86 (by kernel_rfl) (.cell (hS36.box (i := 2) rfl (j := 0) rfl) (.cell (hS36.box (i := 2) rfl (j := 1) rfl) .nil)) .nil fun a86 hf87 => ?_
       refine p_store_eq (i := 18) (j := 2) (b := b4) (off := 0) (vs := [vI (if r2.1 < y4 then r2.1 else y4), vI (if r2.1 > y5 then r2.1 else y5)]) (cs' := [vI (if r2.1 < y4 then r2.1 else y4), vI (if r2.1 > y5 then r2.1 else y5), .bool true, .bool false]) hS36 hf87 rfl (by kernel_rfl) (by kernel_rfl) rfl fun ww30 a87 hS37 hf88 => ⟨fun e => absurd e (by decide), ?_⟩
       refine p_done (by kernel_rfl) ?_
       refine p_fall (os := []) (v := .tuple #[]) (obs := []) hf88 (by kernel_rfl) .nil ?_
       refine ⟨_, rfl, fun a88 hf89 => ?_⟩
       refine ⟨fun _ => trivial, ?_⟩
       refine p_dt (by kernel_rfl) ?_
       refine w_reg (by kernel_rfl) ?_
       refine p_qn 2 [vI r2.2] [(2, pB b4 0), (12, vI r2.2)] [.cell ⟨b8, 1, none⟩ (vI r2.2)] hf89 (by kernel_rfl) (.cell (hS37.box (i := 0) rfl (j := 1) rfl) .nil) fun a89 hf90 => ?_
       refine p_inl (i := 2) (d := some 13) (f := 41) (args := #[pB b4 0, vI r2.2]) (N' := 36) hf90 (by kernel_rfl) Tryz.func41 (by kernel_rfl) fun a90 hf91 => ?_
       refine w_seq (by kernel_rfl) ?_
       refine w_sq [.bool true] [(0, pB b4 0), (1, vI r2.2), (8, .bool false)] [.cell ⟨b4, 2, none⟩ (.bool true)] hf91 (by kernel_rfl) (.cell (hS37.box (i := 2) rfl (j := 2) rfl) .nil) fun a91 hf92 => ?_
       refine w_if_false hf92 (by kernel_rfl) ?_
       refine w_skip (by kernel_rfl) ?_
       refine n_then ?_
       have hS38 := hS37.drew
       refine w_regD (by kernel_rfl) [(0, true), (1, true), (2, true), (3, true), (4, true), (5, true), (6, true), (7, true), (8, true), (9, true), (10, true), (11, true), (12, true), (13, true), (14, true), (15, true), (16, true), (17, true), (18, false)] [18] (fun x => x = ww30.drew) (by kernel_rfl) rfl ?_
       refine p_qE 18 [vI (if r2.1 < y4 then r2.1 else y4), vI (if r2.1 > y5 then r2.1 else y5)] [(33, .agg #[vI (if r2.2 < (if r2.1 < y4 then r2.1 else y4) then r2.2 else (if r2.1 < y4 then r2.1 else y4)), vI (if r2.2 > (if r2.1 > y5 then r2.1 else y5) then r2.2 else (if r2.1 > y5 then r2.1 else y5))]), (35, pB b4 0)] [.cell ⟨b4, 0, none⟩ (vI (if r2.1 < y4 then r2.1 else y4)), .cell ⟨b4, 1, none⟩ (vI (if r2.1 > y5 then r2.1 else y5))] [] hf92 (by kernel_rfl) (.cell (hS38.box (i := 2) rfl (j := 0) rfl) (.cell (hS38.box (i := 2) rfl (j := 1) rfl) .nil)) .nil fun a92 hf93 => ?_
       refine p_store_eq (i := 18) (j := 2) (b := b4) (off := 0) (vs := [vI (if r2.2 < (if r2.1 < y4 then r2.1 else y4) then r2.2 else (if r2.1 < y4 then r2.1 else y4)), vI (if r2.2 > (if r2.1 > y5 then r2.1 else y5) then r2.2 else (if r2.1 > y5 then r2.1 else y5))]) (cs' := [vI (if r2.2 < (if r2.1 < y4 then r2.1 else y4) then r2.2 else (if r2.1 < y4 then r2.1 else y4)), vI (if r2.2 > (if r2.1 > y5 then r2.1 else y5) then r2.2 else (if r2.1 > y5 then r2.1 else y5)), .bool true, .bool false]) hS38 hf93 rfl (by kernel_rfl) (by kernel_rfl) rfl fun ww31 a93 hS39 hf94 => ⟨fun e => absurd e (by decide), ?_⟩
       refine p_done (by kernel_rfl) ?_
       refine p_fall (os := []) (v := .tuple #[]) (obs := []) hf94 (by kernel_rfl) .nil ?_
       refine ⟨_, rfl, fun a94 hf95 => ?_⟩
       refine ⟨fun _ => trivial, ?_⟩
       refine p_done (by kernel_rfl) ?_
       refine p_fall (os := []) (v := .tuple #[]) (obs := []) hf95 (by kernel_rfl) .nil ?_
       refine ⟨_, rfl, fun a95 hf96 => ?_⟩
       have hS40 := St.drop 1 hS39
       refine ⟨fun _ => trivial, ?_⟩
       refine p_done (by kernel_rfl) ?_
       refine n_block ?_
       refine n_then ?_
       have hf97 := Fr.keep (ks := [3, 4, 8, 9, 39, 40, 41]) (r := [(3, pB b2 0), (4, pB b3 0), (8, pB b4 0), (9, .func (.func 44) #[] #[pB b1 0, pB b4 0]), (39, .slice o_x0 x0.length c_x0), (40, vI (x0.length : Int)), (41, vI y1)]) hf96 (by kernel_rfl)
       exact ⟨z9, (if r2.2 < (if r2.1 < y4 then r2.1 else y4) then r2.2 else (if r2.1 < y4 then r2.1 else y4)), (if r2.2 > (if r2.1 > y5 then r2.1 else y5) then r2.2 else (if r2.1 > y5 then r2.1 else y5)), (Zone.le_trans k8 k9), hf97, (St.drop 1 hS40), hr17⟩
      ·have hr18 := cond_f hb6 hr15
       refine w_skip (by kernel_rfl) ?_
       refine n_block ?_
       refine n_then ?_
       have hf98 := Fr.keep (ks := [3, 4, 8, 9, 39, 40, 41]) (r := [(3, pB b2 0), (4, pB b3 0), (8, pB b4 0), (9, .func (.func 44) #[] #[pB b1 0, pB b4 0]), (39, .slice o_x0 x0.length c_x0), (40, vI (x0.length : Int)), (41, vI y1)]) hf77 (by kernel_rfl)
       exact ⟨z8, y4, y5, k8, hf98, (St.drop 1 hS32), hr18⟩
     ·rintro a96 ww32 ⟨z7, y2, y3, k10, hf99, hS41, hr19⟩
      refine w_q [] [(3, pB b2 0), (4, pB b3 0), (8, pB b4 0), (9, .func (.func 44) #[] #[pB b1 0, pB b4 0]), (39, .slice o_x0 x0.length c_x0), (40, vI (x0.length : Int)), (41, vI (w64 (y1 + (1 : Int))))] [] hf99 (by kernel_rfl) .nil fun a97 hf100 => ?_
      refine n_then ?_
      have hf101 := Fr.keep (ks := [3, 4, 8, 9, 39, 40, 41]) (r := [(3, pB b2 0), (4, pB b3 0), (8, pB b4 0), (9, .func (.func 44) #[] #[pB b1 0, pB b4 0]), (39, .slice o_x0 x0.length c_x0), (40, vI (x0.length : Int)), (41, vI (w64 (y1 + (1 : Int))))]) hf100 (by kernel_rfl)
      exact ⟨n1, Nat.lt_succ_self n1, z7, y2, y3, (w64 (y1 + (1 : Int))), (Zone.le_trans k7 k10), hf101, hS41, hr19⟩
    ·have hr20 := cond_f hb4 hr12
     refine w_exit (id := 0) (by kernel_rfl) ?_
     refine x_then ?_
     refine x_then ?_
     refine x_block ?_
     refine n_then ?_
     refine w_sr (by kernel_rfl) ?_
     refine p_qn 2 [vI y4, vI y5] [(4, pB b3 0), (58, .agg #[vI y4, vI y5])] [.cell ⟨b4, 0, none⟩ (vI y4), .cell ⟨b4, 1, none⟩ (vI y5)] hf72 (by kernel_rfl) (.cell (hS29.box (i := 0) rfl (j := 0) rfl) (.cell (hS29.box (i := 0) rfl (j := 1) rfl) .nil)) fun a98 hf102 => ?_
     refine p_store_eq (i := 2) (j := 1) (b := b3) (off := 0) (vs := [vI y4, vI y5]) (cs' := [vI y4, vI y5]) hS29 hf102 rfl (by kernel_rfl) (by kernel_rfl) rfl fun ww33 a99 hS42 hf103 => ⟨fun _ => trivial, ?_⟩
     refine p_qt [] [(4, pB b3 0), (5, vI 0)] [] hf103 (by kernel_rfl) .nil fun a100 hf104 => ?_
     refine w_ret (by kernel_rfl) ?_
     refine p_ret (os := [vI y4, vI y5]) (v := .tuple #[.agg #[vI y4, vI y5], vI 0]) (obs := [.cell ⟨b3, 0, none⟩ (vI y4), .cell ⟨b3, 1, none⟩ (vI y5)]) hf104 (by kernel_rfl) (.cell (hS42.box (i := 1) rfl (j := 0) rfl) (.cell (hS42.box (i := 1) rfl (j := 1) rfl) .nil)) ?_
     obtain rfl := some_eq hr20
     exact ⟨_, rfl, z6, (Zone.le_trans (Zone.le_trans (Zone.le_trans (Zone.le_trans (Zone.le_trans k2 k3) k4) k5) k6) k7), rfl, (St.drop 4 hS42)⟩
def F47 (fuel : Nat) (x0_lo : Int) (x0_hi : Int) (x1_lo : Int) (x1_hi : Int) : Option (Int × Int) :=
  (some ((w64 (x0_lo + x1_lo)), (w64 (x0_hi + x1_hi))))
set_option maxRecDepth 100000 in
theorem f47_ok (fuel : Nat) (x0_lo : Int) (x0_hi : Int) (x1_lo : Int) (x1_hi : Int) (r : Int × Int) (hr : F47 fuel x0_lo x0_hi x1_lo x1_hi = some r) (h : Zone) (L : List Atom) (w : World) (hS : St h L w)  :
    Calls Tryz.prog 47 #[.agg #[vI x0_lo, vI x0_hi], .agg #[vI x1_lo, vI x1_hi]] w fun e w' => ∃ v, e = .returned v ∧ (v = .agg #[vI r.1, vI r.2] ∧ St h L w') := by
 refine calls_intro (N := 16) Tryz.func47 (by kernel_rfl) fun a hf => ?_
 refine w_sr (by kernel_rfl) ?_
 refine p_box (i := 0) (d := (some 2)) (cs := [vI x0_lo, vI x0_hi]) (T := 59) (v := fun b1 => pB b1 0) hS hf (fun b => by kernel_rfl) fun b1 ww1 a1 hS1 hf1 => ⟨fun _ => trivial, ?_⟩
 refine p_box (i := 1) (d := (some 3)) (cs := [vI x1_lo, vI x1_hi]) (T := 59) (v := fun b2 => pB b2 0) hS1 hf1 (fun b => by kernel_rfl) fun b2 ww2 a2 hS2 hf2 => ⟨fun _ => trivial, ?_⟩
 refine p_box (i := 2) (d := (some 4)) (cs := [vI 0, vI 0]) (T := 59) (v := fun b3 => pB b3 0) hS2 hf2 (fun b => by kernel_rfl) fun b3 ww3 a3 hS3 hf3 => ⟨fun _ => trivial, ?_⟩
 refine p_dt (by kernel_rfl) ?_
 refine w_sr (by kernel_rfl) ?_
 refine p_qn 11 [vI x0_lo, vI x1_lo, vI x0_hi, vI x1_hi] [(4, pB b3 0), (15, .agg #[vI (w64 (x0_lo + x1_lo)), vI (w64 (x0_hi + x1_hi))])] [.cell ⟨b1, 0, none⟩ (vI x0_lo), .cell ⟨b2, 0, none⟩ (vI x1_lo), .cell ⟨b1, 1, none⟩ (vI x0_hi), .cell ⟨b2, 1, none⟩ (vI x1_hi)] hf3 (by kernel_rfl) (.cell (hS3.box (i := 2) rfl (j := 0) rfl) (.cell (hS3.box (i := 1) rfl (j := 0) rfl) (.cell (hS3.box (i := 2) rfl (j := 1) rfl) (.cell (hS3.box (i := 1) rfl (j := 1) rfl) .nil)))) fun a4 hf4 => ?_
 refine p_store_eq (i := 11) (j := 0) (b := b3) (off := 0) (vs := [vI (w64 (x0_lo + x1_lo)), vI (w64 (x0_hi + x1_hi))]) (cs' := [vI (w64 (x0_lo + x1_lo)), vI (w64 (x0_hi + x1_hi))]) hS3 hf4 rfl (by kernel_rfl) (by kernel_rfl) rfl fun ww4 a5 hS4 hf5 => ⟨fun _ => trivial, ?_⟩
 refine p_dt (by kernel_rfl) ?_
 refine w_ret (by kernel_rfl) ?_
 refine p_ret (os := [vI (w64 (x0_lo + x1_lo)), vI (w64 (x0_hi + x1_hi))]) (v := .agg #[vI (w64 (x0_lo + x1_lo)), vI (w64 (x0_hi + x1_hi))]) (obs := [.cell ⟨b3, 0, none⟩ (vI (w64 (x0_lo + x1_lo))), .cell ⟨b3, 1, none⟩ (vI (w64 (x0_hi + x1_hi)))]) hf5 (by kernel_rfl) (.cell (hS4.box (i := 0) rfl (j := 0) rfl) (.cell (hS4.box (i := 0) rfl (j := 1) rfl) .nil)) ?_
 obtain rfl := some_eq hr
 exact ⟨_, rfl, rfl, (St.drop 3 hS4)⟩
def F76 (fuel : Nat) (x0_lo : Int) (x0_hi : Int) (x1_lo : Int) (x1_hi : Int) : Option (Int × Int × Int) :=
  ((F70 fuel x0_lo x0_hi x1_lo x1_hi).bind fun r1 => (cond (r1 != (0 : Int)) (some (0, 0, r1)) (cond (decide ((if x1_lo > x0_lo then x1_lo else x0_lo) > (if x1_hi < x0_hi then x1_hi else x0_hi))) (some (0, 0, 3)) (some ((if x1_lo > x0_lo then x1_lo else x0_lo), (if x1_hi < x0_hi then x1_hi else x0_hi), 0)))))
set_option maxRecDepth 100000 in
theorem f76_ok (fuel : Nat) (x0_lo : Int) (x0_hi : Int) (x1_lo : Int) (x1_hi : Int) (r : Int × Int × Int) (hr : F76 fuel x0_lo x0_hi x1_lo x1_hi = some r) (h : Zone) (L : List Atom) (w : World) (hS : St h L w)  :
    Calls Tryz.prog 76 #[.agg #[vI x0_lo, vI x0_hi], .agg #[vI x1_lo, vI x1_hi]] w fun e w' => ∃ v, e = .returned v ∧ (∃ h', Zone.le h h' ∧ v = .tuple #[.agg #[vI r.1, vI r.2.1], vI r.2.2] ∧ St h' L w') := by
 refine calls_intro (N := 33) Tryz.func76 (by kernel_rfl) fun a hf => ?_
 refine w_sr (by kernel_rfl) ?_
 refine p_box (i := 0) (d := (some 2)) (cs := [vI x0_lo, vI x0_hi]) (T := 59) (v := fun b1 => pB b1 0) hS hf (fun b => by kernel_rfl) fun b1 ww1 a1 hS1 hf1 => ⟨fun _ => trivial, ?_⟩
 refine p_box (i := 1) (d := (some 3)) (cs := [vI x1_lo, vI x1_hi]) (T := 59) (v := fun b2 => pB b2 0) hS1 hf1 (fun b => by kernel_rfl) fun b2 ww2 a2 hS2 hf2 => ⟨fun _ => trivial, ?_⟩
 refine p_box (i := 2) (d := (some 4)) (cs := [vI 0, vI 0]) (T := 59) (v := fun b3 => pB b3 0) hS2 hf2 (fun b => by kernel_rfl) fun b3 ww3 a3 hS3 hf3 => ⟨fun _ => trivial, ?_⟩
 refine p_qt [] [(2, pB b1 0), (3, pB b2 0), (4, pB b3 0)] [] hf3 (by kernel_rfl) .nil fun a4 hf4 => ?_
 refine w_seq (by kernel_rfl) ?_
 refine w_sr (by kernel_rfl) ?_
 refine p_qn 2 [vI x0_lo, vI x0_hi, vI x1_lo, vI x1_hi] [(2, pB b1 0), (3, pB b2 0), (4, pB b3 0), (8, .agg #[vI x0_lo, vI x0_hi]), (9, .agg #[vI x1_lo, vI x1_hi])] [.cell ⟨b1, 0, none⟩ (vI x0_lo), .cell ⟨b1, 1, none⟩ (vI x0_hi), .cell ⟨b2, 0, none⟩ (vI x1_lo), .cell ⟨b2, 1, none⟩ (vI x1_hi)] hf4 (by kernel_rfl) (.cell (hS3.box (i := 2) rfl (j := 0) rfl) (.cell (hS3.box (i := 2) rfl (j := 1) rfl) (.cell (hS3.box (i := 1) rfl (j := 0) rfl) (.cell (hS3.box (i := 1) rfl (j := 1) rfl) .nil)))) fun a5 hf5 => ?_
 obtain ⟨r1, hd1, hr1⟩ := bind_some hr
 refine p_call (i := 2) (d := some 10) (f := 70) (args := #[.agg #[vI x0_lo, vI x0_hi], .agg #[vI x1_lo, vI x1_hi]]) hf5 (by kernel_rfl) (f70_ok fuel x0_lo x0_hi x1_lo x1_hi r1 hd1 h _ _ hS3 ) ?_
 rintro v1 ww4 a6 ⟨z1, k1, rfl, hS4⟩ hf6
 refine ⟨fun _ => trivial, ?_⟩
 refine p_qt [] [(2, pB b1 0), (3, pB b2 0), (4, pB b3 0), (6, vI r1)] [] hf6 (by kernel_rfl) .nil fun a7 hf7 => ?_
 refine w_sq [] [(2, pB b1 0), (3, pB b2 0), (4, pB b3 0), (6, vI r1), (12, .bool (r1 != (0 : Int)))] [] hf7 (by kernel_rfl) .nil fun a8 hf8 => ?_
 refine w_if hf8 (b := (r1 != (0 : Int))) (by kernel_rfl) (fun hb1 => ?_) (fun hb1 => ?_)
 ·have hr2 := cond_t hb1 hr1
  refine w_sr (by kernel_rfl) ?_
  refine p_qn 2 [] [(4, pB b3 0), (13, .agg #[vI 0, vI 0]), (14, vI r1)] [] hf8 (by kernel_rfl) .nil fun a9 hf9 => ?_
  refine p_store_eq (i := 2) (j := 0) (b := b3) (off := 0) (vs := [vI 0, vI 0]) (cs' := [vI 0, vI 0]) hS4 hf9 rfl (by kernel_rfl) (by kernel_rfl) rfl fun ww5 a10 hS5 hf10 => ⟨fun _ => trivial, ?_⟩
  refine p_qt [] [(4, pB b3 0), (5, vI r1)] [] hf10 (by kernel_rfl) .nil fun a11 hf11 => ?_
  refine w_ret (by kernel_rfl) ?_
  refine r_then ?_
  refine p_ret (os := [vI 0, vI 0]) (v := .tuple #[.agg #[vI 0, vI 0], vI r1]) (obs := [.cell ⟨b3, 0, none⟩ (vI 0), .cell ⟨b3, 1, none⟩ (vI 0)]) hf11 (by kernel_rfl) (.cell (hS5.box (i := 0) rfl (j := 0) rfl) (.cell (hS5.box (i := 0) rfl (j := 1) rfl) .nil)) ?_
  obtain rfl := some_eq hr2
  exact ⟨_, rfl, z1, k1, rfl, (St.drop 3 hS5)⟩
 ·have hr3 := cond_f hb1 hr1
  refine w_skip (by kernel_rfl) ?_
  refine n_then ?_
  refine w_sr (by kernel_rfl) ?_
  refine p_qn 11 [vI x0_lo, vI x1_lo, vI x0_hi, vI x1_hi] [(4, pB b3 0), (25, .agg #[vI (if x1_lo > x0_lo then x1_lo else x0_lo), vI (if x1_hi < x0_hi then x1_hi else x0_hi)])] [.cell ⟨b1, 0, none⟩ (vI x0_lo), .cell ⟨b2, 0, none⟩ (vI x1_lo), .cell ⟨b1, 1, none⟩ (vI x0_hi), .cell ⟨b2, 1, none⟩ (vI x1_hi)] hf8 (by kernel_rfl) (.cell (hS4.box (i := 2) rfl (j := 0) rfl) (.cell (hS4.box (i := 1) rfl (j := 0) rfl) (.cell (hS4.box (i := 2) rfl (j := 1) rfl) (.cell (hS4.box (i := 1) rfl (j := 1) rfl) .nil)))) fun a12 hf12 => ?_
  refine p_box (i := 11) (d := (some 7)) (cs := [vI 0, vI 0]) (T := 59) (v := fun b4 => pB b4 0) hS4 hf12 (fun b => by kernel_rfl) fun b4 ww6 a13 hS6 hf13 => ⟨fun _ => trivial, ?_⟩
  refine p_store_eq (i := 12) (j := 0) (b := b4) (off := 0) (vs := [vI (if x1_lo > x0_lo then x1_lo else x0_lo), vI (if x1_hi < x0_hi then x1_hi else x0_hi)]) (cs' := [vI (if x1_lo > x0_lo then x1_lo else x0_lo), vI (if x1_hi < x0_hi then x1_hi else x0_hi)]) hS6 hf13 rfl (by kernel_rfl) (by kernel_rfl) rfl fun ww7 a14 hS7 hf14 => ⟨fun _ => trivial, ?_⟩
  refine p_dt (by kernel_rfl) ?_
  refine w_seq (by kernel_rfl) ?_
  refine w_sq [vI (if x1_lo > x0_lo then x1_lo else x0_lo), vI (if x1_hi < x0_hi then x1_hi else x0_hi)] [(4, pB b3 0), (7, pB b4 0), (30, .bool (decide ((if x1_lo > x0_lo then x1_lo else x0_lo) > (if x1_hi < x0_hi then x1_hi else x0_hi))))] [.cell ⟨b4, 0, none⟩ (vI (if x1_lo > x0_lo then x1_lo else x0_lo)), .cell ⟨b4, 1, none⟩ (vI (if x1_hi < x0_hi then x1_hi else x0_hi))] hf14 (by kernel_rfl) (.cell (hS7.box (i := 0) rfl (j := 0) rfl) (.cell (hS7.box (i := 0) rfl (j := 1) rfl) .nil)) fun a15 hf15 => ?_
  refine w_if hf15 (b := (decide ((if x1_lo > x0_lo then x1_lo else x0_lo) > (if x1_hi < x0_hi then x1_hi else x0_hi)))) (by kernel_rfl) (fun hb2 => ?_) (fun hb2 => ?_)
  ·have hr4 := cond_t hb2 hr3
   refine w_sr (by kernel_rfl) ?_
   refine p_qn 1 [] [(4, pB b3 0), (31, .agg #[vI 0, vI 0])] [] hf15 (by kernel_rfl) .nil fun a16 hf16 => ?_
   refine p_store_eq (i := 1) (j := 1) (b := b3) (off := 0) (vs := [vI 0, vI 0]) (cs' := [vI 0, vI 0]) hS7 hf16 rfl (by kernel_rfl) (by kernel_rfl) rfl fun ww8 a17 hS8 hf17 => ⟨fun _ => trivial, ?_⟩
   refine p_qt [] [(4, pB b3 0), (5, vI 3)] [] hf17 (by kernel_rfl) .nil fun a18 hf18 => ?_
   refine w_ret (by kernel_rfl) ?_
   refine r_then ?_
   refine p_ret (os := [vI 0, vI 0]) (v := .tuple #[.agg #[vI 0, vI 0], vI 3]) (obs := [.cell ⟨b3, 0, none⟩ (vI 0), .cell ⟨b3, 1, none⟩ (vI 0)]) hf18 (by kernel_rfl) (.cell (hS8.box (i := 1) rfl (j := 0) rfl) (.cell (hS8.box (i := 1) rfl (j := 1) rfl) .nil)) ?_
   obtain rfl := some_eq hr4
   exact ⟨_, rfl, z1, k1, rfl, (St.drop 4 hS8)⟩
  ·have hr5 := cond_f hb2 hr3
   refine w_skip (by kernel_rfl) ?_
   refine n_then ?_
   refine w_sr (by kernel_rfl) ?_
   refine p_qn 1 [vI (if x1_lo > x0_lo then x1_lo else x0_lo), vI (if x1_hi < x0_hi then x1_hi else x0_hi)] [(4, pB b3 0), (32, .agg #[vI (if x1_lo > x0_lo then x1_lo else x0_lo), vI (if x1_hi < x0_hi then x1_hi else x0_hi)])] [.cell ⟨b4, 0, none⟩ (vI (if x1_lo > x0_lo then x1_lo else x0_lo)), .cell ⟨b4, 1, none⟩ (vI (if x1_hi < x0_hi then x1_hi else x0_hi))] hf15 (by kernel_rfl) (.cell (hS7.box (i := 0) rfl (j := 0) rfl) (.cell (hS7.box (i := 0) rfl (j := 1) rfl) .nil)) fun a19 hf19 => ?_
   refine p_store_eq (i := 1) (j := 1) (b := b3) (off := 0) (vs := [vI (if x1_lo > x0_lo then x1_lo else x0_lo), vI (if x1_hi < x0_hi then x1_hi else x0_hi)]) (cs' := [vI (if x1_lo > x0_lo then x1_lo else x0_lo), vI (if x1_hi < x0_hi then x1_hi else x0_hi)]) hS7 hf19 rfl (by kernel_rfl) (by kernel_rfl) rfl fun ww9 a20 hS9 hf20 => ⟨fun _ => trivial, ?_⟩
   refine p_qt [] [(4, pB b3 0), (5, vI 0)] [] hf20 (by kernel_rfl) .nil fun a21 hf21 => ?_
   refine w_ret (by kernel_rfl) ?_
   refine p_ret (os := [vI (if x1_lo > x0_lo then x1_lo else x0_lo), vI (if x1_hi < x0_hi then x1_hi else x0_hi)]) (v := .tuple #[.agg #[vI (if x1_lo > x0_lo then x1_lo else x0_lo), vI (if x1_hi < x0_hi then x1_hi else x0_hi)], vI 0]) (obs := [.cell ⟨b3, 0, none⟩ (vI (if x1_lo > x0_lo then x1_lo else x0_lo)), .cell ⟨b3, 1, none⟩ (vI (if x1_hi < x0_hi then x1_hi else x0_hi))]) hf21 (by kernel_rfl) (.cell (hS9.box (i := 1) rfl (j := 0) rfl) (.cell (hS9.box (i := 1) rfl (j := 1) rfl) .nil)) ?_
   obtain rfl := some_eq hr5
   exact ⟨_, rfl, z1, k1, rfl, (St.drop 4 hS9)⟩
def F77_l2 (x0 : List (List Pt)) : Nat → (List Pt) → Int → Option (List Pt)
  | 0, _, _ => none
  | n1 + 1, y1, y2 =>
    let k1 : (List Pt) → Int → Option (List Pt) := F77_l2 x0 n1
    (cond (decide (y2 < (x0.length : Int))) ((getI x0 y2).bind fun p1 => ((appC y1 p1).bind fun d1 => (k1 d1 (w64 (y2 + (1 : Int)))))) (some (y1)))
def F77_l1 (fuel : Nat) (x0 : List (List Pt)) : Nat → Int → Int → Option (List Pt)
  | 0, _, _ => none
  | n2 + 1, y3, y4 =>
    let k2 : Int → Int → Option (List Pt) := F77_l1 fuel x0 n2
    (cond (decide (y4 < (x0.length : Int))) ((getI x0 y4).bind fun p2 => (cond (decide ((w64 (y3 + (p2.length : Int))) < (0 : Int))) (none) (k2 (w64 (y3 + (p2.length : Int))) (w64 (y4 + (1 : Int)))))) ((growC y3).bind fun _ => (F77_l2 x0 fuel ([]) 0)))
def F77 (fuel : Nat) (x0 : List (List Pt)) : Option (List Pt) :=
  (F77_l1 fuel x0 fuel 0 0)
set_option maxRecDepth 100000 in
theorem f77_ok (fuel : Nat) (x0 : List (List Pt)) (r : List Pt) (hr : F77 fuel x0 = some r) (h : Zone) (L : List Atom) (w : World) (hS : St h L w) (o_x0 : Option Addr) (c_x0 : Nat) (hx_x0 : SliceR (Ty.slice PtT) h o_x0 c_x0 x0) :
    Calls Tryz.prog 77 #[.slice o_x0 x0.length c_x0] w fun e w' => ∃ v, e = .returned v ∧ (∃ h', ∃ o0 : Option Addr, ∃ c0 : Nat, Zone.le h h' ∧ v = .slice o0 r.length c0 ∧ St h' L w' ∧ SliceR PtT h' o0 c0 r) := by
 refine calls_intro (N := 36) Tryz.func77 (by kernel_rfl) fun a hf => ?_
 refine w_sq [] [(0, .slice o_x0 x0.length c_x0)] [] hf (by kernel_rfl) .nil fun a1 hf1 => ?_
 refine w_sq [] [(0, .slice o_x0 x0.length c_x0), (3, vI 0)] [] hf1 (by kernel_rfl) .nil fun a2 hf2 => ?_
 refine w_seq (by kernel_rfl) ?_
 refine w_sq [] [(0, .slice o_x0 x0.length c_x0), (3, vI 0), (9, .slice o_x0 x0.length c_x0), (10, vI (x0.length : Int)), (11, vI 0)] [] hf2 (by kernel_rfl) .nil fun a3 hf3 => ?_
 refine w_block (id := 0) (by kernel_rfl) ?_
 have hf4 := Fr.keep (ks := [0, 3, 9, 10, 11]) (r := [(0, .slice o_x0 x0.length c_x0), (3, vI 0), (9, .slice o_x0 x0.length c_x0), (10, vI (x0.length : Int)), (11, vI 0)]) hf3 (by kernel_rfl)
 refine w_loop (by kernel_rfl) (fun n a w => ∃ z1 : Zone, ∃ y3 : Int, ∃ y4 : Int, Zone.le h z1 ∧ Fr a 36 [(0, .slice o_x0 x0.length c_x0), (3, vI y3), (9, .slice o_x0 x0.length c_x0), (10, vI (x0.length : Int)), (11, vI y4)] ∧ St z1 (L) w ∧ (F77_l1 fuel x0 n y3 y4) = some r) fuel ⟨h, 0, 0, (Zone.le_refl _), hf4, hS, hr⟩ ?_
 rintro n3 a4 ww1 ⟨z1, y3, y4, k3, hf5, hS1, hr1⟩
 cases n3 with
 | zero => cases hr1
 | succ n2 =>
 refine w_sq [] [(0, .slice o_x0 x0.length c_x0), (3, vI y3), (9, .slice o_x0 x0.length c_x0), (10, vI (x0.length : Int)), (11, vI y4), (12, .bool (decide (y4 < (x0.length : Int))))] [] hf5 (by kernel_rfl) .nil fun a5 hf6 => ?_
 refine w_seq (by kernel_rfl) ?_
 refine w_if hf6 (b := (decide (y4 < (x0.length : Int)))) (by kernel_rfl) (fun hb1 => ?_) (fun hb1 => ?_)
 ·have hr2 := cond_t hb1 hr1
  refine w_skip (by kernel_rfl) ?_
  refine n_then ?_
  refine w_seq (by kernel_rfl) ?_
  refine w_block (id := 1) (by kernel_rfl) ?_
  obtain ⟨p2, hp438, hr3⟩ := bind_some hr2
  obtain ⟨ad1, ho1, hb2, cc1, hc1, hk1⟩ := SliceR.getI (SliceR.mono k3 hx_x0) hp438
  obtain ⟨e1, q1, rfl, hx1⟩ := hc1
  refine w_sq [.pointer (some ad1), .slice e1 p2.length q1] [(0, .slice o_x0 x0.length c_x0), (3, vI y3), (5, .slice e1 p2.length q1), (9, .slice o_x0 x0.length c_x0), (10, vI (x0.length : Int)), (11, vI y4)] [.prop (o_x0 = some ad1), .prop (0 ≤ y4 ∧ y4 < (x0.length : Nat)), .cell ((ad1.add (Int.toNat y4 * 1)).add 0) (.slice e1 p2.length q1)] hf6 (by kernel_rfl) (.prop ho1 (.prop hb2 (.cell (hS1.cell (hk1 0 _ rfl)) .nil))) fun a6 hf7 => ?_
  refine w_sq [] [(0, .slice o_x0 x0.length c_x0), (3, vI (w64 (y3 + (p2.length : Int)))), (9, .slice o_x0 x0.length c_x0), (10, vI (x0.length : Int)), (11, vI y4)] [] hf7 (by kernel_rfl) .nil fun a7 hf8 => ?_
  refine w_sq [] [(0, .slice o_x0 x0.length c_x0), (3, vI (w64 (y3 + (p2.length : Int)))), (9, .slice o_x0 x0.length c_x0), (10, vI (x0.length : Int)), (11, vI y4), (20, .bool (decide ((w64 (y3 + (p2.length : Int))) < (0 : Int))))] [] hf8 (by kernel_rfl) .nil fun a8 hf9 => ?_
  refine w_if hf9 (b := (decide ((w64 (y3 + (p2.length : Int))) < (0 : Int)))) (by kernel_rfl) (fun hb3 => ?_) (fun hb3 => ?_)
  ·have hr4 := cond_t hb3 hr3
   cases hr4
  ·have hr5 := cond_f hb3 hr3
   refine w_skip (by kernel_rfl) ?_
   refine n_block ?_
   refine n_then ?_
   refine w_q [] [(0, .slice o_x0 x0.length c_x0), (3, vI (w64 (y3 + (p2.length : Int)))), (9, .slice o_x0 x0.length c_x0), (10, vI (x0.length : Int)), (11, vI (w64 (y4 + (1 : Int))))] [] hf9 (by kernel_rfl) .nil fun a9 hf10 => ?_
   refine n_then ?_
   have hf11 := Fr.keep (ks := [0, 3, 9, 10, 11]) (r := [(0, .slice o_x0 x0.length c_x0), (3, vI (w64 (y3 + (p2.length : Int)))), (9, .slice o_x0 x0.length c_x0), (10, vI (x0.length : Int)), (11, vI (w64 (y4 + (1 : Int))))]) hf10 (by kernel_rfl)
   exact ⟨n2, Nat.lt_succ_self n2, z1, (w64 (y3 + (p2.length : Int))), (w64 (y4 + (1 : Int))), k3, hf11, hS1, hr5⟩
 ·have hr6 := cond_f hb1 hr1
  refine w_exit (id := 0) (by kernel_rfl) ?_
  refine x_then ?_
  refine x_then ?_
  refine x_block ?_
  refine n_then ?_
  refine w_sr (by kernel_rfl) ?_
  refine p_qn 1 [] [(0, .slice o_x0 x0.length c_x0), (23, vI y3)] [] hf6 (by kernel_rfl) .nil fun a10 hf12 => ?_
  obtain ⟨u1, hd1, hr7⟩ := bind_some hr6
  refine p_call (i := 1) (d := some 24) (f := 103) (args := #[.slice none 0 0, vI y3]) hf12 (by kernel_rfl) (grow103 hS1 hd1) ?_
  rintro v1 ww2 a11 ⟨e2, q2, rfl, hS2⟩ hf13
  refine ⟨fun _ => trivial, ?_⟩
  refine p_qt [] [(0, .slice o_x0 x0.length c_x0), (6, .slice e2 0 q2)] [] hf13 (by kernel_rfl) .nil fun a12 hf14 => ?_
  refine w_seq (by kernel_rfl) ?_
  refine w_sq [] [(6, .slice e2 0 q2), (25, .slice o_x0 x0.length c_x0), (26, vI (x0.length : Int)), (27, vI 0)] [] hf14 (by kernel_rfl) .nil fun a13 hf15 => ?_
  refine w_block (id := 2) (by kernel_rfl) ?_
  have hf16 := Fr.keep (ks := [6, 25, 26, 27]) (r := [(6, .slice e2 0 q2), (25, .slice o_x0 x0.length c_x0), (26, vI (x0.length : Int)), (27, vI 0)]) hf15 (by kernel_rfl)
  refine w_loop (by kernel_rfl) (fun n a w => ∃ z2 : Zone, ∃ y1 : List Pt, ∃ y2 : Int, ∃ e3 : Option Addr, ∃ q3 : Nat, Zone.le z1 z2 ∧ Fr a 36 [(6, .slice e3 y1.length q3), (25, .slice o_x0 x0.length c_x0), (26, vI (x0.length : Int)), (27, vI y2)] ∧ St z2 (ownS PtT 39 e3 q3 y1 :: L) w ∧ (F77_l2 x0 n y1 y2) = some r) fuel ⟨z1, [], 0, e2, q2, (Zone.le_refl _), hf16, hS2, hr7⟩ ?_
  rintro n4 a14 ww3 ⟨z2, y1, y2, e3, q3, k4, hf17, hS3, hr8⟩
  cases n4 with
  | zero => cases hr8
  | succ n1 =>
  refine w_sq [] [(6, .slice e3 y1.length q3), (25, .slice o_x0 x0.length c_x0), (26, vI (x0.length : Int)), (27, vI y2), (28, .bool (decide (y2 < (x0.length : Int))))] [] hf17 (by kernel_rfl) .nil fun a15 hf18 => ?_
  refine w_seq (by kernel_rfl) ?_
  refine w_if hf18 (b := (decide (y2 < (x0.length : Int)))) (by kernel_rfl) (fun hb4 => ?_) (fun hb4 => ?_)
  ·have hr9 := cond_t hb4 hr8
   refine w_skip (by kernel_rfl) ?_
   refine n_then ?_
   refine w_seq (by kernel_rfl) ?_
   refine w_block (id := 3) (by kernel_rfl) ?_
   obtain ⟨p1, hp1075, hr10⟩ := bind_some hr9
   obtain ⟨ad2, ho2, hb5, cc2, hc2, hk2⟩ := SliceR.getI (SliceR.mono (Zone.le_trans k3 k4) hx_x0) hp1075
   obtain ⟨e4, q4, rfl, hx2⟩ := hc2
   refine w_sq [.pointer (some ad2), .slice e4 p1.length q4] [(6, .slice e3 y1.length q3), (8, .slice e4 p1.length q4), (25, .slice o_x0 x0.length c_x0), (26, vI (x0.length : Int)), (27, vI y2)] [.prop (o_x0 = some ad2), .prop (0 ≤ y2 ∧ y2 < (x0.length : Nat)), .cell ((ad2.add (Int.toNat y2 * 1)).add 0) (.slice e4 p1.length q4)] hf18 (by kernel_rfl) (.prop ho2 (.prop hb5 (.cell (hS3.cell (hk2 0 _ rfl)) .nil))) fun a16 hf19 => ?_
   refine w_reg (by kernel_rfl) ?_
   refine p_qn 2 [] [(25, .slice o_x0 x0.length c_x0), (26, vI (x0.length : Int)), (27, vI y2), (31, .slice e3 y1.length q3), (32, .slice e4 p1.length q4)] [] hf19 (by kernel_rfl) .nil fun a17 hf20 => ?_
   obtain ⟨d1, hd2, hr11⟩ := bind_some hr10
   refine p_append (T := PtT) (i := 2) (j := 0) (d := some 33) (o2 := e4) (c2 := q4) (ys := p1) el22 hS3 hf20 rfl (by kernel_rfl) (SliceR.src hx2 hS3) hd2 fun e5 q5 ww4 a18 hS4 hf21 => ⟨fun _ => trivial, ?_⟩
   refine p_qz [] [(6, .slice e5 d1.length q5), (25, .slice o_x0 x0.length c_x0), (26, vI (x0.length : Int)), (27, vI y2)] [] hf21 (by kernel_rfl) .nil fun a19 hf22 => ?_
   refine n_block ?_
   refine n_then ?_
   refine w_q [] [(6, .slice e5 d1.length q5), (25, .slice o_x0 x0.length c_x0), (26, vI (x0.length : Int)), (27, vI (w64 (y2 + (1 : Int))))] [] hf22 (by kernel_rfl) .nil fun a20 hf23 => ?_
   refine n_then ?_
   have hf24 := Fr.keep (ks := [6, 25, 26, 27]) (r := [(6, .slice e5 d1.length q5), (25, .slice o_x0 x0.length c_x0), (26, vI (x0.length : Int)), (27, vI (w64 (y2 + (1 : Int))))]) hf23 (by kernel_rfl)
   exact ⟨n1, Nat.lt_succ_self n1, z2, d1, (w64 (y2 + (1 : Int))), e5, q5, k4, hf24, hS4, hr11⟩
  ·have hr12 := cond_f hb4 hr8
   refine w_exit (id := 2) (by kernel_rfl) ?_
   refine x_then ?_
   refine x_then ?_
   refine x_block ?_
   refine n_then ?_
   refine w_sq [] [(2, .slice e3 y1.length q3)] [] hf18 (by kernel_rfl) .nil fun a21 hf25 => ?_
   refine w_ret (by kernel_rfl) ?_
   obtain ⟨z3, k5, hS5, hx3⟩ := hS3.share (j := 0) rfl
   refine p_ret (os := []) (v := .slice e3 y1.length q3) (obs := []) hf25 (by kernel_rfl) .nil ?_
   obtain rfl := some_eq hr12
   exact ⟨_, rfl, z3, e3, q3, (Zone.le_trans (Zone.le_trans k3 k4) k5), rfl, (St.drop 1 hS5), hx3⟩
def F78_j1 (y1 : Bool) : Option (Bool) :=
  (some (y1))
def F78 (fuel : Nat) (x0_lo : Int) (x0_hi : Int) (x1 : Int) : Option (Bool) :=
  ((F42 fuel x0_lo x0_hi).bind fun r1 => (cond (r1 == (0 : Int)) ((F32 fuel x1 x0_lo x0_hi).bind fun r2 => (F78_j1 r2)) (F78_j1 false)))
set_option maxRecDepth 100000 in
theorem f78_ok (fuel : Nat) (x0_lo : Int) (x0_hi : Int) (x1 : Int) (r : Bool) (hr : F78 fuel x0_lo x0_hi x1 = some r) (h : Zone) (L : List Atom) (w : World) (hS : St h L w)  :
    Calls Tryz.prog 78 #[.agg #[vI x0_lo, vI x0_hi], vI x1] w fun e w' => ∃ v, e = .returned v ∧ (∃ h', Zone.le h h' ∧ v = .bool r ∧ St h' L w') := by
 refine calls_intro (N := 16) Tryz.func78 (by kernel_rfl) fun a hf => ?_
 refine w_sr (by kernel_rfl) ?_
 refine p_box (i := 0) (d := (some 2)) (cs := [vI x0_lo, vI x0_hi]) (T := 59) (v := fun b1 => pB b1 0) hS hf (fun b => by kernel_rfl) fun b1 ww1 a1 hS1 hf1 => ⟨fun _ => trivial, ?_⟩
 refine p_qt [] [(1, vI x1), (2, pB b1 0)] [] hf1 (by kernel_rfl) .nil fun a2 hf2 => ?_
 refine w_mid (by kernel_rfl) (fun a w => ∃ z1 : Zone, ∃ y1 : Bool, Zone.le h z1 ∧ Fr a 16 [(4, .bool y1)] ∧ St z1 (box b1 [vI x0_lo, vI x0_hi] 59 :: L) w ∧ (F78_j1 y1) = some r) ?_ ?_
 ·skip
  refine w_reg (by kernel_rfl) ?_
  refine p_qn 1 [vI x0_lo, vI x0_hi] [(1, vI x1), (2, pB b1 0), (5, .agg #[vI x0_lo, vI x0_hi])] [.cell ⟨b1, 0, none⟩ (vI x0_lo), .cell ⟨b1, 1, none⟩ (vI x0_hi)] hf2 (by kernel_rfl) (.cell (hS1.box (i := 0) rfl (j := 0) rfl) (.cell (hS1.box (i := 0) rfl (j := 1) rfl) .nil)) fun a3 hf3 => ?_
  obtain ⟨r1, hd1, hr1⟩ := bind_some hr
  refine p_call (i := 1) (d := some 6) (f := 42) (args := #[.agg #[vI x0_lo, vI x0_hi]]) hf3 (by kernel_rfl) (f42_ok fuel x0_lo x0_hi r1 hd1 h _ _ hS1 ) ?_
  rintro v1 ww2 a4 ⟨z2, k1, rfl, hS2⟩ hf4
  refine ⟨fun _ => trivial, ?_⟩
  refine p_qn 2 [] [(1, vI x1), (2, pB b1 0), (8, .bool (r1 == (0 : Int)))] [] hf4 (by kernel_rfl) .nil fun a5 hf5 => ?_
  rcases Bool.eq_false_or_eq_true (r1 == (0 : Int)) with hb1 | hb1
  ·have hr2 := cond_t hb1 hr1
   have hf6 := Fr.conv hf5 (congrArg (fun z => ([(1, vI x1), (2, pB b1 0), (8, .bool z)] : FL)) hb1)
   refine p_qn 5 [vI x0_lo, vI x0_hi] [(8, .bool true), (9, vI x1), (11, vI x0_lo), (13, vI x0_hi)] [.cell ⟨b1, 0, none⟩ (vI x0_lo), .cell ⟨b1, 1, none⟩ (vI x0_hi)] hf6 (by kernel_rfl) (.cell (hS2.box (i := 0) rfl (j := 0) rfl) (.cell (hS2.box (i := 0) rfl (j := 1) rfl) .nil)) fun a6 hf7 => ?_
   obtain ⟨r2, hd2, hr3⟩ := bind_some hr2
   refine p_call (i := 9) (d := some 14) (f := 32) (args := #[vI x1, vI x0_lo, vI x0_hi]) hf7 (by kernel_rfl) (f32_ok fuel x1 x0_lo x0_hi r2 hd2 z2 _ _ hS2 ) ?_
   rintro v2 ww3 a7 ⟨z3, k2, rfl, hS3⟩ hf8
   refine ⟨fun _ => trivial, ?_⟩
   refine p_qt [] [(4, .bool r2)] [] hf8 (by kernel_rfl) .nil fun a8 hf9 => ?_
   have hf10 := Fr.keep (ks := [4]) (r := [(4, .bool r2)]) hf9 (by kernel_rfl)
   exact ⟨z3, r2, (Zone.le_trans k1 k2), hf10, hS3, hr3⟩
  ·have hr4 := cond_f hb1 hr1
   have hf11 := Fr.conv hf5 (congrArg (fun z => ([(1, vI x1), (2, pB b1 0), (8, .bool z)] : FL)) hb1)
   refine p_qt [] [(4, .bool false)] [] hf11 (by kernel_rfl) .nil fun a9 hf12 => ?_
   have hf13 := Fr.keep (ks := [4]) (r := [(4, .bool false)]) hf12 (by kernel_rfl)
   exact ⟨z2, false, k1, hf13, hS2, hr4⟩
 ·rintro a10 ww4 ⟨z1, y1, k3, hf14, hS4, hr5⟩
  refine w_ret (by kernel_rfl) ?_
  refine p_ret (os := []) (v := .bool y1) (obs := []) hf14 (by kernel_rfl) .nil ?_
  obtain rfl := some_eq hr5
  exact ⟨_, rfl, z1, k3, rfl, (St.drop 1 hS4)⟩
def F27_j1 (y1 : List Pt) (y2 : Int) : Option (List Pt × Int) :=
  (some (y1, y2))
def F27_j3 (k1 : (List Int) → Int → Option (List Pt × Int)) (y3 : Int) (y4 : List Int) : Option (List Pt × Int) :=
  (k1 y4 (w64 (y3 + (1 : Int))))
def F27_j4 (y5 : List Pt) (y6 : Int) : Option (List Pt × Int) :=
  (F27_j1 y5 y6)
def F27_j5 (k2 : (List Pt) → Int → Option (List Pt × Int)) (y7 : List Pt) (y8 : Int) (p1 : Int) (r1 : Int × Int) (y9 : Bool) : Option (List Pt × Int) :=
  (cond y9 (F27_j4 ([]) 5) ((appC y7 ([⟨p1, r1.1, r1.2⟩])).bind fun d1 => (k2 d1 (w64 (y8 + (1 : Int))))))
def F27_l2 (fuel : Nat) (x0 : List Pt) (x1 : List Pt) (y10 : List Int) : Nat → (List Pt) → Int → Option (List Pt × Int)
  | 0, _, _ => none
  | n1 + 1, y7, y8 =>
    let k2 : (List Pt) → Int → Option (List Pt × Int) := F27_l2 fuel x0 x1 y10 n1
    (cond (decide (y8 < ((compL (sortL y10)).length : Int))) ((getI (compL (sortL y10)) y8).bind fun p1 => ((F45 fuel x0 p1).bind fun r2 => ((F45 fuel x1 p1).bind fun r3 => ((F47 fuel r2.1 r2.2 r3.1 r3.2).bind fun r1 => (cond (decide (r1.1 < (-1000000000 : Int))) (F27_j5 k2 y7 y8 p1 r1 true) (F27_j5 k2 y7 y8 p1 r1 (decide (r1.2 > (1000000000 : Int))))))))) (F27_j4 y7 0))
def F27_l1 (fuel : Nat) (x0 : List Pt) (x1 : List Pt) (y11 : Int) (y12 : Int) (r4 : List Pt) : Nat → (List Int) → Int → Option (List Pt × Int)
  | 0, _, _ => none
  | n2 + 1, y10, y3 =>
    let k1 : (List Int) → Int → Option (List Pt × Int) := F27_l1 fuel x0 x1 y11 y12 r4 n2
    (cond (decide (y3 < (r4.length : Int))) ((getI r4 y3).bind fun p2 => ((F78 fuel y11 y12 p2.x).bind fun r5 => (cond r5 ((appC y10 ([p2.x])).bind fun d2 => (F27_j3 k1 y3 d2)) (F27_j3 k1 y3 y10)))) ((lenC y10).bind fun _ => ((lenC (sortL y10)).bind fun _ => (cond (decide (((compL (sortL y10)).length : Int) > (40 : Int))) (F27_j1 ([]) 2) (F27_l2 fuel x0 x1 y10 fuel ([]) 0)))))
def F27_j2 (fuel : Nat) (x0 : List Pt) (x1 : List Pt) (y13 : Int) (y11 : Int) (y12 : Int) : Option (List Pt × Int) :=
  (cond (y13 != (0 : Int)) (F27_j1 ([]) 4) ((F77 fuel ([x0, x1])).bind fun r4 => (F27_l1 fuel x0 x1 y11 y12 r4 fuel ([]) 0)))
def F27 (fuel : Nat) (x0 : List Pt) (x1 : List Pt) : Option (List Pt × Int) :=
  ((F10 fuel x0).bind fun r6 => (cond (r6 != (0 : Int)) (F27_j1 ([]) r6) ((F10 fuel x1).bind fun r7 => (cond (r7 != (0 : Int)) (F27_j1 ([]) r7) ((F72 fuel x0).bind fun r8 => ((F72 fuel x1).bind fun r9 => ((F76 fuel r8.1 r8.2 r9.1 r9.2).bind fun r10 => (F27_j2 fuel x0 x1 r10.2.2 r10.1 r10.2.1))))))))
set_option maxRecDepth 100000 in
theorem f27_ok (fuel : Nat) (x0 : List Pt) (x1 : List Pt) (r : List Pt × Int) (hr : F27 fuel x0 x1 = some r) (h : Zone) (L : List Atom) (w : World) (hS : St h L w) (o_x0 : Option Addr) (c_x0 : Nat) (hx_x0 : SliceR PtT h o_x0 c_x0 x0) (o_x1 : Option Addr) (c_x1 : Nat) (hx_x1 : SliceR PtT h o_x1 c_x1 x1) :
    Calls Tryz.prog 27 #[.agg #[.slice o_x0 x0.length c_x0], .agg #[.slice o_x1 x1.length c_x1]] w fun e w' => ∃ v, e = .returned v ∧ (∃ h', ∃ o0 : Option Addr, ∃ c0 : Nat, Zone.le h h' ∧ v = .tuple #[.agg #[.slice o0 r.1.length c0], vI r.2] ∧ St h' L w' ∧ SliceR PtT h' o0 c0 r.1) := by
 refine calls_intro (N := 11) Tryz.func27 (by kernel_rfl) fun a hf => ?_
 refine w_sr (by kernel_rfl) ?_
 refine p_box (i := 0) (d := (some 2)) (cs := [.slice o_x0 x0.length c_x0]) (T := 24) (v := fun b1 => pB b1 0) hS hf (fun b => by kernel_rfl) fun b1 ww1 a1 hS1 hf1 => ⟨fun _ => trivial, ?_⟩
 refine p_box (i := 1) (d := (some 3)) (cs := [.slice o_x1 x1.length c_x1]) (T := 24) (v := fun b2 => pB b2 0) hS1 hf1 (fun b => by kernel_rfl) fun b2 ww2 a2 hS2 hf2 => ⟨fun _ => trivial, ?_⟩
 refine p_box (i := 2) (d := (some 4)) (cs := [.slice none 0 0]) (T := 24) (v := fun b3 => pB b3 0) hS2 hf2 (fun b => by kernel_rfl) fun b3 ww3 a3 hS3 hf3 => ⟨fun _ => trivial, ?_⟩
 refine p_qt [] [(2, pB b1 0), (3, pB b2 0), (4, pB b3 0)] [] hf3 (by kernel_rfl) .nil fun a4 hf4 => ?_
 refine w_sr (by kernel_rfl) ?_
 refine p_qn 2 [.slice o_x0 x0.length c_x0, .slice o_x1 x1.length c_x1] [(4, pB b3 0), (6, .agg #[.slice o_x0 x0.length c_x0]), (7, .agg #[.slice o_x1 x1.length c_x1])] [.cell ⟨b1, 0, none⟩ (.slice o_x0 x0.length c_x0), .cell ⟨b2, 0, none⟩ (.slice o_x1 x1.length c_x1)] hf4 (by kernel_rfl) (.cell (hS3.box (i := 2) rfl (j := 0) rfl) (.cell (hS3.box (i := 1) rfl (j := 0) rfl) .nil)) fun a5 hf5 => ?_
 refine p_call (i := 2) (d := some 8) (f := 46) (args := #[.agg #[.slice o_x0 x0.length c_x0], .agg #[.slice o_x1 x1.length c_x1], .func (.func 47) #[] #[]]) hf5 (by kernel_rfl) (Φ := fun v w => ∃ z1 : Zone, ∃ y1 : List Pt, ∃ y2 : Int, ∃ e1 : Option Addr, ∃ q1 : Nat, Zone.le h z1 ∧ v = .tuple #[.agg #[.slice e1 y1.length q1], vI y2] ∧ St z1 (ownS PtT 39 e1 q1 y1 :: box b3 [.slice none 0 0] 24 :: box b2 [.slice o_x1 x1.length c_x1] 24 :: box b1 [.slice o_x0 x0.length c_x0] 24 :: L) w ∧ (F27_j1 y1 y2) = some r) ?_ ?_
 ·refine calls_intro (N := 72) Tryz.func46 (by kernel_rfl) fun a6 hf6 => ?_
  refine w_sr (by kernel_rfl) ?_
  refine p_box (i := 0) (d := (some 3)) (cs := [.slice o_x0 x0.length c_x0]) (T := 24) (v := fun b4 => pB b4 0) hS3 hf6 (fun b => by kernel_rfl) fun b4 ww4 a7 hS4 hf7 => ⟨fun _ => trivial, ?_⟩
  refine p_box (i := 1) (d := (some 4)) (cs := [.slice o_x1 x1.length c_x1]) (T := 24) (v := fun b5 => pB b5 0) hS4 hf7 (fun b => by kernel_rfl) fun b5 ww5 a8 hS5 hf8 => ⟨fun _ => trivial, ?_⟩
  refine p_box (i := 2) (d := (some 5)) (cs := [.func (.func 47) #[] #[]]) (T := 90) (v := fun b6 => pB b6 0) hS5 hf8 (fun b => by kernel_rfl) fun b6 ww6 a9 hS6 hf9 => ⟨fun _ => trivial, ?_⟩
  refine p_box (i := 3) (d := (some 6)) (cs := [.slice none 0 0]) (T := 24) (v := fun b7 => pB b7 0) hS6 hf9 (fun b => by kernel_rfl) fun b7 ww7 a10 hS7 hf10 => ⟨fun _ => trivial, ?_⟩
  refine p_qt [] [(3, pB b4 0), (4, pB b5 0), (5, pB b6 0), (6, pB b7 0)] [] hf10 (by kernel_rfl) .nil fun a11 hf11 => ?_
  refine w_seq (by kernel_rfl) ?_
  refine w_sr (by kernel_rfl) ?_
  refine p_qn 1 [.slice o_x0 x0.length c_x0] [(3, pB b4 0), (4, pB b5 0), (5, pB b6 0), (6, pB b7 0), (15, .agg #[.slice o_x0 x0.length c_x0])] [.cell ⟨b4, 0, none⟩ (.slice o_x0 x0.length c_x0)] hf11 (by kernel_rfl) (.cell (hS7.box (i := 3) rfl (j := 0) rfl) .nil) fun a12 hf12 => ?_
  obtain ⟨r6, hd1, hr1⟩ := bind_some hr
  refine p_call (i := 1) (d := some 16) (f := 10) (args := #[.agg #[.slice o_x0 x0.length c_x0]]) hf12 (by kernel_rfl) (f10_ok fuel x0 r6 hd1 h _ _ hS7 o_x0 c_x0 hx_x0) ?_
  rintro v1 ww8 a13 ⟨z2, k3, rfl, hS8⟩ hf13
  refine ⟨fun _ => trivial, ?_⟩
  refine p_qt [] [(3, pB b4 0), (4, pB b5 0), (5, pB b6 0), (6, pB b7 0), (8, vI r6)] [] hf13 (by kernel_rfl) .nil fun a14 hf14 => ?_
  refine w_sq [] [(3, pB b4 0), (4, pB b5 0), (5, pB b6 0), (6, pB b7 0), (8, vI r6), (18, .bool (r6 != (0 : Int)))] [] hf14 (by kernel_rfl) .nil fun a15 hf15 => ?_
  refine w_if hf15 (b := (r6 != (0 : Int))) (by kernel_rfl) (fun hb1 => ?_) (fun hb1 => ?_)
  ·have hr2 := cond_t hb1 hr1
   refine w_sr (by kernel_rfl) ?_
   refine p_qn 2 [] [(6, pB b7 0), (19, .agg #[.slice none 0 0]), (20, vI r6)] [] hf15 (by kernel_rfl) .nil fun a16 hf16 => ?_
   refine p_store_eq (i := 2) (j := 0) (b := b7) (off := 0) (vs := [.slice none 0 0]) (cs' := [.slice none 0 0]) hS8 hf16 rfl (by kernel_rfl) (by kernel_rfl) rfl fun ww9 a17 hS9 hf17 => ⟨fun _ => trivial, ?_⟩
   refine p_qt [] [(6, pB b7 0), (7, vI r6)] [] hf17 (by kernel_rfl) .nil fun a18 hf18 => ?_
   refine w_ret (by kernel_rfl) ?_
   refine r_then ?_
   refine p_ret (os := [.slice none 0 0]) (v := .tuple #[.agg #[.slice none 0 0], vI r6]) (obs := [.cell ⟨b7, 0, none⟩ (.slice none 0 0)]) hf18 (by kernel_rfl) (.cell (hS9.box (i := 0) rfl (j := 0) rfl) .nil) ?_
   have hS10 := St.ownNil hS9 PtT 39
   exact ⟨_, rfl, z2, [], r6, none, 0, k3, rfl, (St.pick 5 [0] hS10 (by kernel_rfl)), hr2⟩
  ·have hr3 := cond_f hb1 hr1
   refine w_skip (by kernel_rfl) ?_
   refine n_then ?_
   refine w_seq (by kernel_rfl) ?_
   refine w_sr (by kernel_rfl) ?_
   refine p_qn 1 [.slice o_x1 x1.length c_x1] [(3, pB b4 0), (4, pB b5 0), (5, pB b6 0), (6, pB b7 0), (21, .agg #[.slice o_x1 x1.length c_x1])] [.cell ⟨b5, 0, none⟩ (.slice o_x1 x1.length c_x1)] hf15 (by kernel_rfl) (.cell (hS8.box (i := 2) rfl (j := 0) rfl) .nil) fun a19 hf19 => ?_
   obtain ⟨r7, hd2, hr4⟩ := bind_some hr3
   refine p_call (i := 1) (d := some 22) (f := 10) (args := #[.agg #[.slice o_x1 x1.length c_x1]]) hf19 (by kernel_rfl) (f10_ok fuel x1 r7 hd2 z2 _ _ hS8 o_x1 c_x1 (SliceR.mono k3 hx_x1)) ?_
   rintro v2 ww10 a20 ⟨z3, k4, rfl, hS11⟩ hf20
   refine ⟨fun _ => trivial, ?_⟩
   refine p_qt [] [(3, pB b4 0), (4, pB b5 0), (5, pB b6 0), (6, pB b7 0), (9, vI r7)] [] hf20 (by kernel_rfl) .nil fun a21 hf21 => ?_
   refine w_sq [] [(3, pB b4 0), (4, pB b5 0), (5, pB b6 0), (6, pB b7 0), (9, vI r7), (24, .bool (r7 != (0 : Int)))] [] hf21 (by kernel_rfl) .nil fun a22 hf22 => ?_
   refine w_if hf22 (b := (r7 != (0 : Int))) (by kernel_rfl) (fun hb2 => ?_) (fun hb2 => ?_)
   ·have hr5 := cond_t hb2 hr4
    refine w_sr (by kernel_rfl) ?_
    refine p_qn 2 [] [(6, pB b7 0), (25, .agg #[.slice none 0 0]), (26, vI r7)] [] hf22 (by kernel_rfl) .nil fun a23 hf23 => ?_
    refine p_store_eq (i := 2) (j := 0) (b := b7) (off := 0) (vs := [.slice none 0 0]) (cs' := [.slice none 0 0]) hS11 hf23 rfl (by kernel_rfl) (by kernel_rfl) rfl fun ww11 a24 hS12 hf24 => ⟨fun _ => trivial, ?_⟩
    refine p_qt [] [(6, pB b7 0), (7, vI r7)] [] hf24 (by kernel_rfl) .nil fun a25 hf25 => ?_
    refine w_ret (by kernel_rfl) ?_
    refine r_then ?_
    refine p_ret (os := [.slice none 0 0]) (v := .tuple #[.agg #[.slice none 0 0], vI r7]) (obs := [.cell ⟨b7, 0, none⟩ (.slice none 0 0)]) hf25 (by kernel_rfl) (.cell (hS12.box (i := 0) rfl (j := 0) rfl) .nil) ?_
    have hS13 := St.ownNil hS12 PtT 39
    exact ⟨_, rfl, z3, [], r7, none, 0, (Zone.le_trans k3 k4), rfl, (St.pick 5 [0] hS13 (by kernel_rfl)), hr5⟩
   ·have hr6 := cond_f hb2 hr4
    refine w_skip (by kernel_rfl) ?_
    refine n_then ?_
    refine w_mid (by kernel_rfl) (fun a w => ∃ z4 : Zone, ∃ y13 : Int, ∃ y11 : Int, ∃ y12 : Int, ∃ b8 : Nat, Zone.le z3 z4 ∧ Fr a 72 [(3, pB b4 0), (4, pB b5 0), (5, pB b6 0), (6, pB b7 0), (10, pB b8 0), (11, vI y13)] ∧ St z4 (box b8 [vI y11, vI y12] 59 :: box b7 [.slice none 0 0] 24 :: box b6 [.func (.func 47) #[] #[]] 90 :: box b5 [.slice o_x1 x1.length c_x1] 24 :: box b4 [.slice o_x0 x0.length c_x0] 24 :: box b3 [.slice none 0 0] 24 :: box b2 [.slice o_x1 x1.length c_x1] 24 :: box b1 [.slice o_x0 x0.length c_x0] 24 :: L) w ∧ (F27_j2 fuel x0 x1 y13 y11 y12) = some r) ?_ ?_
    ·skip
     have hS14 := hS11.drew
     have s1 : Sub z3 (box b7 [.slice none 0 0] 24 :: box b6 [.func (.func 47) #[] #[]] 90 :: box b5 [.slice o_x1 x1.length c_x1] 24 :: box b4 [.slice o_x0 x0.length c_x0] 24 :: box b3 [.slice none 0 0] 24 :: box b2 [.slice o_x1 x1.length c_x1] 24 :: box b1 [.slice o_x0 x0.length c_x0] 24 :: L) _ := Sub.of (Zone.le_refl _) hS14
     refine w_regB (by kernel_rfl) [3, 4, 9] (Sub z3 (box b7 [.slice none 0 0] 24 :: box b6 [.func (.func 47) #[] #[]] 90 :: box b5 [.slice o_x1 x1.length c_x1] 24 :: box b4 [.slice o_x0 x0.length c_x0] 24 :: box b3 [.slice none 0 0] 24 :: box b2 [.slice o_x1 x1.length c_x1] 24 :: box b1 [.slice o_x0 x0.length c_x0] 24 :: L)) (by kernel_rfl) ?_
     refine k_seg' 9 [(0, true), (2, true)] (by kernel_rfl) (by kernel_rfl) (At.start s1) (by kernel_rfl) ?_
     refine p_qS 2 [.slice o_x0 x0.length c_x0, .slice o_x1 x1.length c_x1] [(3, pB b4 0), (4, pB b5 0), (5, pB b6 0), (6, pB b7 0), (28, .agg #[.slice o_x0 x0.length c_x0]), (30, .agg #[.slice o_x1 x1.length c_x1])] [.cell ⟨b4, 0, none⟩ (.slice o_x0 x0.length c_x0), .cell ⟨b5, 0, none⟩ (.slice o_x1 x1.length c_x1)] [] s1 hf22 (by kernel_rfl) (fun _ s => (.cell (s.box (i := 3) rfl (j := 0) rfl) (.cell (s.box (i := 2) rfl (j := 0) rfl) .nil))) .nil fun a26 hf26 => ?_
     refine p_done (by kernel_rfl) ?_
     intro hA1
     refine k_any' 8 [1, 8] (by kernel_rfl) hA1 (by kernel_rfl) (by kernel_rfl) ?_
     refine (all_cons ?_ (all_cons ?_ all_nil))
     ·skip
      obtain ⟨r8, hd3, hr7⟩ := bind_some hr6
      refine p_call (i := 1) (d := some 29) (f := 72) (args := #[.agg #[.slice o_x0 x0.length c_x0]]) hf26 (by kernel_rfl) (f72_ok fuel x0 r8 hd3 z3 _ _ hS14 o_x0 c_x0 (SliceR.mono (Zone.le_trans k3 k4) hx_x0)) ?_
      rintro v3 ww12 a27 ⟨rfl, hS15⟩ hf27
      refine ⟨fun _ => Sub.of (Zone.le_refl _) hS15, ?_⟩
      refine p_done (by kernel_rfl) ?_
      intro hA2
      have s2 : Sub z3 (box b7 [.slice none 0 0] 24 :: box b6 [.func (.func 47) #[] #[]] 90 :: box b5 [.slice o_x1 x1.length c_x1] 24 :: box b4 [.slice o_x0 x0.length c_x0] 24 :: box b3 [.slice none 0 0] 24 :: box b2 [.slice o_x1 x1.length c_x1] 24 :: box b1 [.slice o_x0 x0.length c_x0] 24 :: L) _ := Sub.of (Zone.le_refl _) hS15
      refine k_seg' 8 [] (by kernel_rfl) (by kernel_rfl) hA2 (by kernel_rfl) ?_
      refine p_done (by kernel_rfl) ?_
      intro hA3
      refine k_any' 7 [3, 8] (by kernel_rfl) hA3 (by kernel_rfl) (by kernel_rfl) ?_
      refine (all_cons ?_ (all_cons ?_ all_nil))
      ·skip
       obtain ⟨r9, hd4, hr8⟩ := bind_some hr7
       refine p_call (i := 3) (d := some 31) (f := 72) (args := #[.agg #[.slice o_x1 x1.length c_x1]]) hf27 (by kernel_rfl) (f72_ok fuel x1 r9 hd4 z3 _ _ hS15 o_x1 c_x1 (SliceR.mono (Zone.le_trans k3 k4) hx_x1)) ?_
       rintro v4 ww13 a28 ⟨rfl, hS16⟩ hf28
       refine ⟨fun e => absurd e (by decide), ?_⟩
       refine p_done (by kernel_rfl) ?_
       intro hA4
       refine k_seg' 7 [] (by kernel_rfl) (by kernel_rfl) hA4 (by kernel_rfl) ?_
       refine p_done (by kernel_rfl) ?_
       intro hA5
       refine k_any' 6 [4, 8] (by kernel_rfl) hA5 (by kernel_rfl) (by kernel_rfl) ?_
       refine (all_cons ?_ (all_cons ?_ all_nil))
       ·skip
        obtain ⟨r10, hd5, hr9⟩ := bind_some hr8
        refine p_call (i := 4) (d := some 32) (f := 76) (args := #[.agg #[vI r8.1, vI r8.2], .agg #[vI r9.1, vI r9.2]]) hf28 (by kernel_rfl) (f76_ok fuel r8.1 r8.2 r9.1 r9.2 r10 hd5 z3 _ _ hS16 ) ?_
        rintro v5 ww14 a29 ⟨z5, k5, rfl, hS17⟩ hf29
        refine ⟨fun e => absurd e (by decide), ?_⟩
        refine p_done (by kernel_rfl) ?_
        intro hA6
        refine k_seg' 0 [(5, true), (6, true), (7, true), (8, false), (9, false), (10, true)] (by kernel_rfl) (by kernel_rfl) hA6 (by kernel_rfl) ?_
        refine p_qP 3 [] [(3, pB b4 0), (4, pB b5 0), (5, pB b6 0), (6, pB b7 0), (33, .agg #[vI r10.1, vI r10.2.1]), (34, vI r10.2.2)] [] hf29 (by kernel_rfl) (fun _ => .nil) fun a30 hf30 => ?_
        refine p_box (i := 8) (d := (some 10)) (cs := [vI 0, vI 0]) (T := 59) (v := fun b9 => pB b9 0) hS17 hf30 (fun b => by kernel_rfl) fun b9 ww15 a31 hS18 hf31 => ⟨fun _ => Sub.of k5 (St.drop 1 hS18), ?_⟩
        have s3 : Sub z3 (box b7 [.slice none 0 0] 24 :: box b6 [.func (.func 47) #[] #[]] 90 :: box b5 [.slice o_x1 x1.length c_x1] 24 :: box b4 [.slice o_x0 x0.length c_x0] 24 :: box b3 [.slice none 0 0] 24 :: box b2 [.slice o_x1 x1.length c_x1] 24 :: box b1 [.slice o_x0 x0.length c_x0] 24 :: L) _ := Sub.of k5 (St.drop 1 hS18)
        refine p_store_eq (i := 9) (j := 0) (b := b9) (off := 0) (vs := [vI r10.1, vI r10.2.1]) (cs' := [vI r10.1, vI r10.2.1]) hS18 hf31 rfl (by kernel_rfl) (by kernel_rfl) rfl fun ww16 a32 hS19 hf32 => ⟨fun e => absurd e (by decide), ?_⟩
        refine p_qP 1 [] [(3, pB b4 0), (4, pB b5 0), (5, pB b6 0), (6, pB b7 0), (10, pB b9 0), (11, vI r10.2.2)] [] hf32 (by kernel_rfl) (fun _ => .nil) fun a33 hf33 => ?_
        refine p_done (by kernel_rfl) ?_
        intro hA7
        refine k_done' (by kernel_rfl) (by kernel_rfl) ?_
        refine n_then ?_
        have hf34 := Fr.keep (ks := [3, 4, 5, 6, 10, 11]) (r := [(3, pB b4 0), (4, pB b5 0), (5, pB b6 0), (6, pB b7 0), (10, pB b9 0), (11, vI r10.2.2)]) hf33 (by kernel_rfl)
        exact ⟨z5, r10.2.2, r10.1, r10.2.1, b9, k5, hf34, (St.pick 1 [0] hS19 (by kernel_rfl)), hr9⟩
       ·skip
        refine p_box (i := 8) (d := (some 10)) (cs := [vI 0, vI 0]) (T := 59) (v := fun b10 => pB b10 0) hS16 hf28 (fun b => by kernel_rfl) fun b10 ww17 a34 hS20 hf35 => ⟨fun _ => Sub.of (Zone.le_refl _) (St.drop 1 hS20), ?_⟩
        refine p_done (by kernel_rfl) ?_
        intro hA8
        refine k_seg' 0 [(4, false), (5, true), (6, true), (7, true), (9, false), (10, true)] (by kernel_rfl) (by kernel_rfl) hA8 (by kernel_rfl) ?_
        obtain ⟨r11, hd6, hr10⟩ := bind_some hr8
        refine p_call (i := 4) (d := some 32) (f := 76) (args := #[.agg #[vI r8.1, vI r8.2], .agg #[vI r9.1, vI r9.2]]) hf35 (by kernel_rfl) (f76_ok fuel r8.1 r8.2 r9.1 r9.2 r11 hd6 z3 _ _ hS20 ) ?_
        rintro v6 ww18 a35 ⟨z6, k6, rfl, hS21⟩ hf36
        refine ⟨fun e => absurd e (by decide), ?_⟩
        refine p_qP 3 [] [(3, pB b4 0), (4, pB b5 0), (5, pB b6 0), (6, pB b7 0), (10, pB b10 0), (33, .agg #[vI r11.1, vI r11.2.1]), (34, vI r11.2.2)] [] hf36 (by kernel_rfl) (fun _ => .nil) fun a36 hf37 => ?_
        refine p_store_eq (i := 9) (j := 0) (b := b10) (off := 0) (vs := [vI r11.1, vI r11.2.1]) (cs' := [vI r11.1, vI r11.2.1]) hS21 hf37 rfl (by kernel_rfl) (by kernel_rfl) rfl fun ww19 a37 hS22 hf38 => ⟨fun e => absurd e (by decide), ?_⟩
        refine p_qP 1 [] [(3, pB b4 0), (4, pB b5 0), (5, pB b6 0), (6, pB b7 0), (10, pB b10 0), (11, vI r11.2.2)] [] hf38 (by kernel_rfl) (fun _ => .nil) fun a38 hf39 => ?_
        refine p_done (by kernel_rfl) ?_
        intro hA9
        refine k_done' (by kernel_rfl) (by kernel_rfl) ?_
        refine n_then ?_
        have hf40 := Fr.keep (ks := [3, 4, 5, 6, 10, 11]) (r := [(3, pB b4 0), (4, pB b5 0), (5, pB b6 0), (6, pB b7 0), (10, pB b10 0), (11, vI r11.2.2)]) hf39 (by kernel_rfl)
        exact ⟨z6, r11.2.2, r11.1, r11.2.1, b10, k6, hf40, (St.pick 1 [0] hS22 (by kernel_rfl)), hr10⟩
      ·skip
       refine p_box (i := 8) (d := (some 10)) (cs := [vI 0, vI 0]) (T := 59) (v := fun b11 => pB b11 0) hS15 hf27 (fun b => by kernel_rfl) fun b11 ww20 a39 hS23 hf41 => ⟨fun _ => Sub.of (Zone.le_refl _) (St.drop 1 hS23), ?_⟩
       refine p_done (by kernel_rfl) ?_
       intro hA10
       have s4 : Sub z3 (box b7 [.slice none 0 0] 24 :: box b6 [.func (.func 47) #[] #[]] 90 :: box b5 [.slice o_x1 x1.length c_x1] 24 :: box b4 [.slice o_x0 x0.length c_x0] 24 :: box b3 [.slice none 0 0] 24 :: box b2 [.slice o_x1 x1.length c_x1] 24 :: box b1 [.slice o_x0 x0.length c_x0] 24 :: L) _ := Sub.of (Zone.le_refl _) (St.drop 1 hS23)
       refine k_seg' 0 [(3, false), (4, false), (5, true), (6, true), (7, true), (9, false), (10, true)] (by kernel_rfl) (by kernel_rfl) hA10 (by kernel_rfl) ?_
       obtain ⟨r12, hd7, hr11⟩ := bind_some hr7
       refine p_call (i := 3) (d := some 31) (f := 72) (args := #[.agg #[.slice o_x1 x1.length c_x1]]) hf41 (by kernel_rfl) (f72_ok fuel x1 r12 hd7 z3 _ _ hS23 o_x1 c_x1 (SliceR.mono (Zone.le_trans k3 k4) hx_x1)) ?_
       rintro v7 ww21 a40 ⟨rfl, hS24⟩ hf42
       refine ⟨fun e => absurd e (by decide), ?_⟩
       obtain ⟨r13, hd8, hr12⟩ := bind_some hr11
       refine p_call (i := 4) (d := some 32) (f := 76) (args := #[.agg #[vI r8.1, vI r8.2], .agg #[vI r12.1, vI r12.2]]) hf42 (by kernel_rfl) (f76_ok fuel r8.1 r8.2 r12.1 r12.2 r13 hd8 z3 _ _ hS24 ) ?_
       rintro v8 ww22 a41 ⟨z7, k7, rfl, hS25⟩ hf43
       refine ⟨fun e => absurd e (by decide), ?_⟩
       refine p_qP 3 [] [(3, pB b4 0), (4, pB b5 0), (5, pB b6 0), (6, pB b7 0), (10, pB b11 0), (33, .agg #[vI r13.1, vI r13.2.1]), (34, vI r13.2.2)] [] hf43 (by kernel_rfl) (fun _ => .nil) fun a42 hf44 => ?_
       refine p_store_eq (i := 9) (j := 0) (b := b11) (off := 0) (vs := [vI r13.1, vI r13.2.1]) (cs' := [vI r13.1, vI r13.2.1]) hS25 hf44 rfl (by kernel_rfl) (by kernel_rfl) rfl fun ww23 a43 hS26 hf45 => ⟨fun e => absurd e (by decide), ?_⟩
       refine p_qP 1 [] [(3, pB b4 0), (4, pB b5 0), (5, pB b6 0), (6, pB b7 0), (10, pB b11 0), (11, vI r13.2.2)] [] hf45 (by kernel_rfl) (fun _ => .nil) fun a44 hf46 => ?_
       refine p_done (by kernel_rfl) ?_
       intro hA11
       refine k_done' (by kernel_rfl) (by kernel_rfl) ?_
       refine n_then ?_
       have hf47 := Fr.keep (ks := [3, 4, 5, 6, 10, 11]) (r := [(3, pB b4 0), (4, pB b5 0), (5, pB b6 0), (6, pB b7 0), (10, pB b11 0), (11, vI r13.2.2)]) hf46 (by kernel_rfl)
       exact ⟨z7, r13.2.2, r13.1, r13.2.1, b11, k7, hf47, (St.pick 1 [0] hS26 (by kernel_rfl)), hr12⟩
     ·skip
      refine p_box (i := 8) (d := (some 10)) (cs := [vI 0, vI 0]) (T := 59) (v := fun b12 => pB b12 0) hS14 hf26 (fun b => by kernel_rfl) fun b12 ww24 a45 hS27 hf48 => ⟨fun _ => Sub.of (Zone.le_refl _) (St.drop 1 hS27), ?_⟩
      refine p_done (by kernel_rfl) ?_
      intro hA12
      have s5 : Sub z3 (box b7 [.slice none 0 0] 24 :: box b6 [.func (.func 47) #[] #[]] 90 :: box b5 [.slice o_x1 x1.length c_x1] 24 :: box b4 [.slice o_x0 x0.length c_x0] 24 :: box b3 [.slice none 0 0] 24 :: box b2 [.slice o_x1 x1.length c_x1] 24 :: box b1 [.slice o_x0 x0.length c_x0] 24 :: L) _ := Sub.of (Zone.le_refl _) (St.drop 1 hS27)
      refine k_seg' 0 [(1, false), (3, false), (4, false), (5, true), (6, true), (7, true), (9, false), (10, true)] (by kernel_rfl) (by kernel_rfl) hA12 (by kernel_rfl) ?_
      obtain ⟨r14, hd9, hr13⟩ := bind_some hr6
      refine p_call (i := 1) (d := some 29) (f := 72) (args := #[.agg #[.slice o_x0 x0.length c_x0]]) hf48 (by kernel_rfl) (f72_ok fuel x0 r14 hd9 z3 _ _ hS27 o_x0 c_x0 (SliceR.mono (Zone.le_trans k3 k4) hx_x0)) ?_
      rintro v9 ww25 a46 ⟨rfl, hS28⟩ hf49
      refine ⟨fun _ => Sub.of (Zone.le_refl _) (St.drop 1 hS28), ?_⟩
      have s6 : Sub z3 (box b7 [.slice none 0 0] 24 :: box b6 [.func (.func 47) #[] #[]] 90 :: box b5 [.slice o_x1 x1.length c_x1] 24 :: box b4 [.slice o_x0 x0.length c_x0] 24 :: box b3 [.slice none 0 0] 24 :: box b2 [.slice o_x1 x1.length c_x1] 24 :: box b1 [.slice o_x0 x0.length c_x0] 24 :: L) _ := Sub.of (Zone.le_refl _) (St.drop 1 hS28)
      obtain ⟨r15, hd10, hr14⟩ := bind_some hr13
      refine p_call (i := 3) (d := some 31) (f := 72) (args := #[.agg #[.slice o_x1 x1.length c_x1]]) hf49 (by kernel_rfl) (f72_ok fuel x1 r15 hd10 z3 _ _ hS28 o_x1 c_x1 (SliceR.mono (Zone.le_trans k3 k4) hx_x1)) ?_
      rintro v10 ww26 a47 ⟨rfl, hS29⟩ hf50
      refine ⟨fun e => absurd e (by decide), ?_⟩
      obtain ⟨r16, hd11, hr15⟩ := bind_some hr14
      refine p_call (i := 4) (d := some 32) (f := 76) (args := #[.agg #[vI r14.1, vI r14.2], .agg #[vI r15.1, vI r15.2]]) hf50 (by kernel_rfl) (f76_ok fuel r14.1 r14.2 r15.1 r15.2 r16 hd11 z3 _ _ hS29 ) ?_
      rintro v11 ww27 a48 ⟨z8, k8, rfl, hS30⟩ hf51
      refine ⟨fun e => absurd e (by decide), ?_⟩
      refine p_qP 3 [] [(3, pB b4 0), (4, pB b5 0), (5, pB b6 0), (6, pB b7 0), (10, pB b12 0), (33, .agg #[vI r16.1, vI r16.2.1]), (34, vI r16.2.2)] [] hf51 (by kernel_rfl) (fun _ => .nil) fun a49 hf52 => ?_
      refine p_store_eq (i := 9) (j := 0) (b := b12) (off := 0) (vs := [vI r16.1, vI r16.2.1]) (cs' := [vI r16.1, vI r16.2.1]) hS30 hf52 rfl (by kernel_rfl) (by kernel_rfl) rfl fun ww28 a50 hS31 hf53 => ⟨fun e => absurd e (by decide), ?_⟩
      refine p_qP 1 [] [(3, pB b4 0), (4, pB b5 0), (5, pB b6 0), (6, pB b7 0), (10, pB b12 0), (11, vI r16.2.2)] [] hf53 (by kernel_rfl) (fun _ => .nil) fun a51 hf54 => ?_
      refine p_done (by kernel_rfl) ?_
      intro hA13
      refine k_done' (by kernel_rfl) (by kernel_rfl) ?_
      refine n_then ?_
      have hf55 := Fr.keep (ks := [3, 4, 5, 6, 10, 11]) (r := [(3, pB b4 0), (4, pB b5 0), (5, pB b6 0), (6, pB b7 0), (10, pB b12 0), (11, vI r16.2.2)]) hf54 (by kernel_rfl)
      exact ⟨z8, r16.2.2, r16.1, r16.2.1, b12, k8, hf55, (St.pick 1 [0] hS31 (by kernel_rfl)), hr15⟩
    ·rintro a52 ww29 ⟨z4, y13, y11, y12, b8, k9, hf56, hS32, hr16⟩
     refine w_seq (by kernel_rfl) ?_
     refine w_sq [] [(3, pB b4 0), (4, pB b5 0), (5, pB b6 0), (6, pB b7 0), (10, pB b8 0), (36, .bool (y13 != (0 : Int)))] [] hf56 (by kernel_rfl) .nil fun a53 hf57 => ?_
     refine w_if hf57 (b := (y13 != (0 : Int))) (by kernel_rfl) (fun hb3 => ?_) (fun hb3 => ?_)
     ·have hr17 := cond_t hb3 hr16
      refine w_sr (by kernel_rfl) ?_
      refine p_qn 1 [] [(6, pB b7 0), (37, .agg #[.slice none 0 0])] [] hf57 (by kernel_rfl) .nil fun a54 hf58 => ?_
      refine p_store_eq (i := 1) (j := 1) (b := b7) (off := 0) (vs := [.slice none 0 0]) (cs' := [.slice none 0 0]) hS32 hf58 rfl (by kernel_rfl) (by kernel_rfl) rfl fun ww30 a55 hS33 hf59 => ⟨fun _ => trivial, ?_⟩
      refine p_qt [] [(6, pB b7 0), (7, vI 4)] [] hf59 (by kernel_rfl) .nil fun a56 hf60 => ?_
      refine w_ret (by kernel_rfl) ?_
      refine r_then ?_
      refine p_ret (os := [.slice none 0 0]) (v := .tuple #[.agg #[.slice none 0 0], vI 4]) (obs := [.cell ⟨b7, 0, none⟩ (.slice none 0 0)]) hf60 (by kernel_rfl) (.cell (hS33.box (i := 1) rfl (j := 0) rfl) .nil) ?_
      have hS34 := St.ownNil hS33 PtT 39
      exact ⟨_, rfl, z4, [], 4, none, 0, (Zone.le_trans (Zone.le_trans k3 k4) k9), rfl, (St.pick 6 [0] hS34 (by kernel_rfl)), hr17⟩
     ·have hr18 := cond_f hb3 hr16
      refine w_skip (by kernel_rfl) ?_
      refine n_then ?_
      refine w_sq [] [(3, pB b4 0), (4, pB b5 0), (5, pB b6 0), (6, pB b7 0), (10, pB b8 0), (12, .slice none 0 0)] [] hf57 (by kernel_rfl) .nil fun a57 hf61 => ?_
      refine w_seq (by kernel_rfl) ?_
      refine w_sr (by kernel_rfl) ?_
      refine p_qn 4 [.slice o_x0 x0.length c_x0, .slice o_x1 x1.length c_x1] [(3, pB b4 0), (4, pB b5 0), (5, pB b6 0), (6, pB b7 0), (10, pB b8 0), (12, .slice none 0 0), (39, .slice o_x0 x0.length c_x0), (41, .slice o_x1 x1.length c_x1)] [.cell ⟨b4, 0, none⟩ (.slice o_x0 x0.length c_x0), .cell ⟨b5, 0, none⟩ (.slice o_x1 x1.length c_x1)] hf61 (by kernel_rfl) (.cell (hS32.box (i := 4) rfl (j := 0) rfl) (.cell (hS32.box (i := 3) rfl (j := 0) rfl) .nil)) fun a58 hf62 => ?_
      refine p_box (i := 4) (d := (some 42)) (cs := [.slice o_x0 x0.length c_x0, .slice o_x1 x1.length c_x1]) (T := 22) (v := fun b13 => .slice (some ⟨b13, 0, none⟩) 2 2) hS32 hf62 (fun b => by kernel_rfl) fun b13 ww31 a59 hS35 hf63 => ⟨fun _ => trivial, ?_⟩
      have hS36 := hS35.ownBox (T := (Ty.slice PtT)) (E := 22) (n := 2) (xs := [x0, x1]) (i := 0) rfl (Rows.cons (c := [.slice o_x0 x0.length c_x0]) (sliceRep ((SliceR.mono (Zone.le_trans (Zone.le_trans k3 k4) k9) hx_x0))) (Rows.cons (c := [.slice o_x1 x1.length c_x1]) (sliceRep ((SliceR.mono (Zone.le_trans (Zone.le_trans k3 k4) k9) hx_x1))) rfl)) rfl (by decide)
      obtain ⟨z9, k10, hS37, hx1⟩ := hS36.share (j := 0) rfl
      obtain ⟨r4, hd12, hr19⟩ := bind_some hr18
      refine p_call (i := 5) (d := some 43) (f := 77) (args := #[.slice (some ⟨b13, 0, none⟩) 2 2]) hf63 (by kernel_rfl) (f77_ok fuel ([x0, x1]) r4 hd12 z9 _ _ hS37 (some ⟨b13, 0, none⟩) 2 hx1) ?_
      rintro v12 ww32 a60 ⟨z10, e2, q2, k11, rfl, hS38, hx2⟩ hf64
      refine ⟨fun _ => trivial, ?_⟩
      refine p_qt [] [(3, pB b4 0), (4, pB b5 0), (5, pB b6 0), (6, pB b7 0), (10, pB b8 0), (12, .slice none 0 0), (43, .slice e2 r4.length q2), (44, vI (r4.length : Int)), (45, vI 0)] [] hf64 (by kernel_rfl) .nil fun a61 hf65 => ?_
      refine w_block (id := 0) (by kernel_rfl) ?_
      have hS39 := hS38.ownNil Ty.int 3
      have hf66 := Fr.keep (ks := [3, 4, 5, 6, 10, 12, 43, 44, 45]) (r := [(3, pB b4 0), (4, pB b5 0), (5, pB b6 0), (6, pB b7 0), (10, pB b8 0), (12, .slice none 0 0), (43, .slice e2 r4.length q2), (44, vI (r4.length : Int)), (45, vI 0)]) hf65 (by kernel_rfl)
      refine w_loop (by kernel_rfl) (fun n a w => ∃ z11 : Zone, ∃ y10 : List Int, ∃ y3 : Int, ∃ e3 : Option Addr, ∃ q3 : Nat, Zone.le z10 z11 ∧ Fr a 72 [(3, pB b4 0), (4, pB b5 0), (5, pB b6 0), (6, pB b7 0), (10, pB b8 0), (12, .slice e3 y10.length q3), (43, .slice e2 r4.length q2), (44, vI (r4.length : Int)), (45, vI y3)] ∧ St z11 (ownS Ty.int 3 e3 q3 y10 :: emp :: box b8 [vI y11, vI y12] 59 :: box b7 [.slice none 0 0] 24 :: box b6 [.func (.func 47) #[] #[]] 90 :: box b5 [.slice o_x1 x1.length c_x1] 24 :: box b4 [.slice o_x0 x0.length c_x0] 24 :: box b3 [.slice none 0 0] 24 :: box b2 [.slice o_x1 x1.length c_x1] 24 :: box b1 [.slice o_x0 x0.length c_x0] 24 :: L) w ∧ (F27_l1 fuel x0 x1 y11 y12 r4 n y10 y3) = some r) fuel ⟨z10, [], 0, none, 0, (Zone.le_refl _), hf66, hS39, hr19⟩ ?_
      rintro n3 a62 ww33 ⟨z11, y10, y3, e3, q3, k12, hf67, hS40, hr20⟩
      cases n3 with
      | zero => cases hr20
      | succ n2 =>
      refine w_sq [] [(3, pB b4 0), (4, pB b5 0), (5, pB b6 0), (6, pB b7 0), (10, pB b8 0), (12, .slice e3 y10.length q3), (43, .slice e2 r4.length q2), (44, vI (r4.length : Int)), (45, vI y3), (46, .bool (decide (y3 < (r4.length : Int))))] [] hf67 (by kernel_rfl) .nil fun a63 hf68 => ?_
      refine w_seq (by kernel_rfl) ?_
      refine w_if hf68 (b := (decide (y3 < (r4.length : Int)))) (by kernel_rfl) (fun hb4 => ?_) (fun hb4 => ?_)
      ·have hr21 := cond_t hb4 hr20
       refine w_skip (by kernel_rfl) ?_
       refine n_then ?_
       refine w_mid (by kernel_rfl) (fun a w => ∃ z12 : Zone, ∃ y4 : List Int, ∃ e4 : Option Addr, ∃ q4 : Nat, Zone.le z11 z12 ∧ Fr a 72 [(3, pB b4 0), (4, pB b5 0), (5, pB b6 0), (6, pB b7 0), (10, pB b8 0), (12, .slice e4 y4.length q4), (43, .slice e2 r4.length q2), (44, vI (r4.length : Int)), (45, vI y3)] ∧ St z12 (ownS Ty.int 3 e4 q4 y4 :: emp :: box b8 [vI y11, vI y12] 59 :: box b7 [.slice none 0 0] 24 :: box b6 [.func (.func 47) #[] #[]] 90 :: box b5 [.slice o_x1 x1.length c_x1] 24 :: box b4 [.slice o_x0 x0.length c_x0] 24 :: box b3 [.slice none 0 0] 24 :: box b2 [.slice o_x1 x1.length c_x1] 24 :: box b1 [.slice o_x0 x0.length c_x0] 24 :: L) w ∧ (F27_j3 (F27_l1 fuel x0 x1 y11 y12 r4 n2) y3 y4) = some r) ?_ ?_
       ·skip
        refine w_block (id := 1) (by kernel_rfl) ?_
        refine w_sr (by kernel_rfl) ?_
        obtain ⟨p2, hp17172, hr22⟩ := bind_some hr21
        obtain ⟨ad1, ho1, hb5, cc1, hc1, hk1⟩ := SliceR.getI (SliceR.mono k12 hx2) hp17172
        subst hc1
        refine p_qn 2 [.pointer (some ad1), vI p2.x, vI p2.lo, vI p2.hi] [(3, pB b4 0), (4, pB b5 0), (5, pB b6 0), (6, pB b7 0), (10, pB b8 0), (12, .slice e3 y10.length q3), (43, .slice e2 r4.length q2), (44, vI (r4.length : Int)), (45, vI y3), (48, .agg #[vI p2.x, vI p2.lo, vI p2.hi])] [.prop (e2 = some ad1), .prop (0 ≤ y3 ∧ y3 < (r4.length : Nat)), .cell ((ad1.add (Int.toNat y3 * 3)).add 0) (vI p2.x), .cell ((ad1.add (Int.toNat y3 * 3)).add 1) (vI p2.lo), .cell ((ad1.add (Int.toNat y3 * 3)).add 2) (vI p2.hi)] hf68 (by kernel_rfl) (.prop ho1 (.prop hb5 (.cell (hS40.cell (hk1 0 _ rfl)) (.cell (hS40.cell (hk1 1 _ rfl)) (.cell (hS40.cell (hk1 2 _ rfl)) .nil))))) fun a64 hf69 => ?_
        refine p_box (i := 2) (d := (some 14)) (cs := [vI 0, vI 0, vI 0]) (T := 39) (v := fun b14 => pB b14 0) hS40 hf69 (fun b => by kernel_rfl) fun b14 ww34 a65 hS41 hf70 => ⟨fun _ => trivial, ?_⟩
        refine p_store_eq (i := 3) (j := 0) (b := b14) (off := 0) (vs := [vI p2.x, vI p2.lo, vI p2.hi]) (cs' := [vI p2.x, vI p2.lo, vI p2.hi]) hS41 hf70 rfl (by kernel_rfl) (by kernel_rfl) rfl fun ww35 a66 hS42 hf71 => ⟨fun _ => trivial, ?_⟩
        refine p_dt (by kernel_rfl) ?_
        refine w_sr (by kernel_rfl) ?_
        refine p_qn 3 [vI y11, vI y12, vI p2.x] [(3, pB b4 0), (4, pB b5 0), (5, pB b6 0), (6, pB b7 0), (10, pB b8 0), (12, .slice e3 y10.length q3), (14, pB b14 0), (43, .slice e2 r4.length q2), (44, vI (r4.length : Int)), (45, vI y3), (49, .agg #[vI y11, vI y12]), (51, vI p2.x)] [.cell ⟨b8, 0, none⟩ (vI y11), .cell ⟨b8, 1, none⟩ (vI y12), .cell ⟨b14, 0, none⟩ (vI p2.x)] hf71 (by kernel_rfl) (.cell (hS42.box (i := 3) rfl (j := 0) rfl) (.cell (hS42.box (i := 3) rfl (j := 1) rfl) (.cell (hS42.box (i := 0) rfl (j := 0) rfl) .nil))) fun a67 hf72 => ?_
        obtain ⟨r5, hd13, hr23⟩ := bind_some hr22
        refine p_call (i := 3) (d := some 52) (f := 78) (args := #[.agg #[vI y11, vI y12], vI p2.x]) hf72 (by kernel_rfl) (f78_ok fuel y11 y12 p2.x r5 hd13 z11 _ _ hS42 ) ?_
        rintro v13 ww36 a68 ⟨z13, k13, rfl, hS43⟩ hf73
        refine ⟨fun _ => trivial, ?_⟩
        refine p_dt (by kernel_rfl) ?_
        refine w_if hf73 (b := r5) (by kernel_rfl) (fun hb6 => ?_) (fun hb6 => ?_)
        ·have hr24 := cond_t hb6 hr23
         refine w_reg (by kernel_rfl) ?_
         refine p_qn 3 [vI p2.x] [(3, pB b4 0), (4, pB b5 0), (5, pB b6 0), (6, pB b7 0), (10, pB b8 0), (43, .slice e2 r4.length q2), (44, vI (r4.length : Int)), (45, vI y3), (53, .slice e3 y10.length q3), (55, vI p2.x)] [.cell ⟨b14, 0, none⟩ (vI p2.x)] hf73 (by kernel_rfl) (.cell (hS43.box (i := 0) rfl (j := 0) rfl) .nil) fun a69 hf74 => ?_
         refine p_box (i := 3) (d := (some 56)) (cs := [vI p2.x]) (T := 3) (v := fun b15 => .slice (some ⟨b15, 0, none⟩) 1 1) hS43 hf74 (fun b => by kernel_rfl) fun b15 ww37 a70 hS44 hf75 => ⟨fun _ => trivial, ?_⟩
         have hS45 := hS44.ownBox (T := Ty.int) (E := 3) (n := 1) (xs := [p2.x]) (i := 0) rfl (Rows.cons (c := [vI p2.x]) rfl rfl) rfl (by decide)
         obtain ⟨d2, hd14, hr25⟩ := bind_some hr24
         refine p_append (T := Ty.int) (i := 4) (j := 2) (d := some 57) (o2 := (some ⟨b15, 0, none⟩)) (c2 := 1) (ys := ([p2.x])) el121 hS45 hf75 rfl (by kernel_rfl) (hS45.ownSrc (j := 0) rfl) hd14 fun e5 q5 ww38 a71 hS46 hf76 => ⟨fun _ => trivial, ?_⟩
         refine p_qz [] [(3, pB b4 0), (4, pB b5 0), (5, pB b6 0), (6, pB b7 0), (10, pB b8 0), (12, .slice e5 d2.length q5), (43, .slice e2 r4.length q2), (44, vI (r4.length : Int)), (45, vI y3)] [] hf76 (by kernel_rfl) .nil fun a72 hf77 => ?_
         refine n_block ?_
         refine n_then ?_
         have hf78 := Fr.keep (ks := [3, 4, 5, 6, 10, 12, 43, 44, 45]) (r := [(3, pB b4 0), (4, pB b5 0), (5, pB b6 0), (6, pB b7 0), (10, pB b8 0), (12, .slice e5 d2.length q5), (43, .slice e2 r4.length q2), (44, vI (r4.length : Int)), (45, vI y3)]) hf77 (by kernel_rfl)
         exact ⟨z13, d2, e5, q5, k13, hf78, (St.drop 2 hS46), hr25⟩
        ·have hr26 := cond_f hb6 hr23
         refine w_skip (by kernel_rfl) ?_
         refine n_block ?_
         refine n_then ?_
         have hf79 := Fr.keep (ks := [3, 4, 5, 6, 10, 12, 43, 44, 45]) (r := [(3, pB b4 0), (4, pB b5 0), (5, pB b6 0), (6, pB b7 0), (10, pB b8 0), (12, .slice e3 y10.length q3), (43, .slice e2 r4.length q2), (44, vI (r4.length : Int)), (45, vI y3)]) hf73 (by kernel_rfl)
         exact ⟨z13, y10, e3, q3, k13, hf79, (St.drop 1 hS43), hr26⟩
       ·rintro a73 ww39 ⟨z12, y4, e4, q4, k14, hf80, hS47, hr27⟩
        refine w_q [] [(3, pB b4 0), (4, pB b5 0), (5, pB b6 0), (6, pB b7 0), (10, pB b8 0), (12, .slice e4 y4.length q4), (43, .slice e2 r4.length q2), (44, vI (r4.length : Int)), (45, vI (w64 (y3 + (1 : Int))))] [] hf80 (by kernel_rfl) .nil fun a74 hf81 => ?_
        refine n_then ?_
        have hf82 := Fr.keep (ks := [3, 4, 5, 6, 10, 12, 43, 44, 45]) (r := [(3, pB b4 0), (4, pB b5 0), (5, pB b6 0), (6, pB b7 0), (10, pB b8 0), (12, .slice e4 y4.length q4), (43, .slice e2 r4.length q2), (44, vI (r4.length : Int)), (45, vI (w64 (y3 + (1 : Int))))]) hf81 (by kernel_rfl)
        exact ⟨n2, Nat.lt_succ_self n2, z12, y4, (w64 (y3 + (1 : Int))), e4, q4, (Zone.le_trans k12 k14), hf82, hS47, hr27⟩
      ·have hr28 := cond_f hb4 hr20
       refine w_exit (id := 0) (by kernel_rfl) ?_
       refine x_then ?_
       refine x_then ?_
       refine x_block ?_
       refine n_then ?_
       refine w_sr (by kernel_rfl) ?_
       refine p_qn 1 [] [(3, pB b4 0), (4, pB b5 0), (5, pB b6 0), (6, pB b7 0), (12, .slice e3 y10.length q3), (59, .slice e3 y10.length q3)] [] hf68 (by kernel_rfl) .nil fun a75 hf83 => ?_
       obtain ⟨u1, hd15, hr29⟩ := bind_some hr28
       refine p_call (i := 1) (d := some 60) (f := 79) (args := #[.slice e3 y10.length q3]) hf83 (by kernel_rfl) (sort79 hS40 (j := 0) rfl (lenC_spec hd15)) ?_
       rintro v14 ww40 a76 ⟨rfl, hS48⟩ hf84
       have hl1 := sortL_len y10
       have hf85 := Fr.conv (fl' := [(60, .tuple #[]), (3, pB b4 0), (4, pB b5 0), (5, pB b6 0), (6, pB b7 0), (12, .slice e3 ((sortL y10).length) q3), (59, .slice e3 ((sortL y10).length) q3)]) hf84 (by rw [hl1] <;> rfl)
       refine ⟨fun _ => trivial, ?_⟩
       refine p_dt (by kernel_rfl) ?_
       refine w_sr (by kernel_rfl) ?_
       refine p_qn 1 [] [(3, pB b4 0), (4, pB b5 0), (5, pB b6 0), (6, pB b7 0), (61, .slice e3 ((sortL y10).length) q3)] [] hf85 (by kernel_rfl) .nil fun a77 hf86 => ?_
       obtain ⟨u2, hd16, hr30⟩ := bind_some hr29
       refine p_call (i := 1) (d := some 62) (f := 80) (args := #[.slice e3 ((sortL y10).length) q3]) hf86 (by kernel_rfl) (compact80 hS48 (j := 0) rfl (lenC_spec hd16)) ?_
       rintro v15 ww41 a78 ⟨rfl, hS49⟩ hf87
       refine ⟨fun _ => trivial, ?_⟩
       refine p_qt [] [(3, pB b4 0), (4, pB b5 0), (5, pB b6 0), (6, pB b7 0), (12, .slice e3 ((compL (sortL y10)).length) q3)] [] hf87 (by kernel_rfl) .nil fun a79 hf88 => ?_
       refine w_seq (by kernel_rfl) ?_
       refine w_sq [] [(3, pB b4 0), (4, pB b5 0), (5, pB b6 0), (6, pB b7 0), (12, .slice e3 ((compL (sortL y10)).length) q3), (65, .bool (decide (((compL (sortL y10)).length : Int) > (40 : Int))))] [] hf88 (by kernel_rfl) .nil fun a80 hf89 => ?_
       refine w_if hf89 (b := (decide (((compL (sortL y10)).length : Int) > (40 : Int)))) (by kernel_rfl) (fun hb7 => ?_) (fun hb7 => ?_)
       ·have hr31 := cond_t hb7 hr30
        refine w_sr (by kernel_rfl) ?_
        refine p_qn 1 [] [(6, pB b7 0), (66, .agg #[.slice none 0 0])] [] hf89 (by kernel_rfl) .nil fun a81 hf90 => ?_
        refine p_store_eq (i := 1) (j := 3) (b := b7) (off := 0) (vs := [.slice none 0 0]) (cs' := [.slice none 0 0]) hS49 hf90 rfl (by kernel_rfl) (by kernel_rfl) rfl fun ww42 a82 hS50 hf91 => ⟨fun _ => trivial, ?_⟩
        refine p_qt [] [(6, pB b7 0), (7, vI 2)] [] hf91 (by kernel_rfl) .nil fun a83 hf92 => ?_
        refine w_ret (by kernel_rfl) ?_
        refine r_then ?_
        refine p_ret (os := [.slice none 0 0]) (v := .tuple #[.agg #[.slice none 0 0], vI 2]) (obs := [.cell ⟨b7, 0, none⟩ (.slice none 0 0)]) hf92 (by kernel_rfl) (.cell (hS50.box (i := 3) rfl (j := 0) rfl) .nil) ?_
        have hS51 := St.ownNil hS50 PtT 39
        exact ⟨_, rfl, z11, [], 2, none, 0, (Zone.le_trans (Zone.le_trans (Zone.le_trans (Zone.le_trans (Zone.le_trans k3 k4) k9) k10) k11) k12), rfl, (St.pick 8 [0] hS51 (by kernel_rfl)), hr31⟩
       ·have hr32 := cond_f hb7 hr30
        refine w_skip (by kernel_rfl) ?_
        refine n_then ?_
        refine w_sr (by kernel_rfl) ?_
        refine p_qn 2 [] [(6, pB b7 0), (67, .slice e3 ((compL (sortL y10)).length) q3), (68, .func (.func 82) #[] #[pB b6 0, pB b4 0, pB b5 0])] [] hf89 (by kernel_rfl) .nil fun a84 hf93 => ?_
        refine p_call (i := 2) (d := some 69) (f := 81) (args := #[.slice e3 ((compL (sortL y10)).length) q3, .func (.func 82) #[] #[pB b6 0, pB b4 0, pB b5 0]]) hf93 (by kernel_rfl) (Φ := fun v w => ∃ z14 : Zone, ∃ y5 : List Pt, ∃ y6 : Int, ∃ e6 : Option Addr, ∃ q6 : Nat, Zone.le z11 z14 ∧ v = .tuple #[.agg #[.slice e6 y5.length q6], vI y6] ∧ St z14 (ownS PtT 39 e6 q6 y5 :: ownS Ty.int 3 e3 q3 (compL (sortL y10)) :: emp :: box b8 [vI y11, vI y12] 59 :: box b7 [.slice none 0 0] 24 :: box b6 [.func (.func 47) #[] #[]] 90 :: box b5 [.slice o_x1 x1.length c_x1] 24 :: box b4 [.slice o_x0 x0.length c_x0] 24 :: box b3 [.slice none 0 0] 24 :: box b2 [.slice o_x1 x1.length c_x1] 24 :: box b1 [.slice o_x0 x0.length c_x0] 24 :: L) w ∧ (F27_j4 y5 y6) = some r) ?_ ?_
        ·refine calls_intro (N := 41) Tryz.func81 (by kernel_rfl) fun a85 hf94 => ?_
         refine w_sr (by kernel_rfl) ?_
         refine p_box (i := 0) (d := (some 4)) (cs := [.slice none 0 0]) (T := 24) (v := fun b16 => pB b16 0) hS49 hf94 (fun b => by kernel_rfl) fun b16 ww43 a86 hS52 hf95 => ⟨fun _ => trivial, ?_⟩
         refine p_qt [] [(0, .slice e3 ((compL (sortL y10)).length) q3), (1, .func (.func 82) #[] #[pB b6 0, pB b4 0, pB b5 0]), (4, pB b16 0)] [] hf95 (by kernel_rfl) .nil fun a87 hf96 => ?_
         refine w_sr (by kernel_rfl) ?_
         refine p_box (i := 0) (d := (some 6)) (cs := [.slice none 0 0]) (T := 24) (v := fun b17 => pB b17 0) hS52 hf96 (fun b => by kernel_rfl) fun b17 ww44 a88 hS53 hf97 => ⟨fun _ => trivial, ?_⟩
         refine p_dt (by kernel_rfl) ?_
         refine w_seq (by kernel_rfl) ?_
         refine w_sq [] [(1, .func (.func 82) #[] #[pB b6 0, pB b4 0, pB b5 0]), (4, pB b16 0), (6, pB b17 0), (10, .slice e3 ((compL (sortL y10)).length) q3), (11, vI ((compL (sortL y10)).length : Int)), (12, vI 0)] [] hf97 (by kernel_rfl) .nil fun a89 hf98 => ?_
         refine w_block (id := 0) (by kernel_rfl) ?_
         have hS54 := hS53.ownNil PtT 39
         have hf99 := Fr.keep (ks := [1, 4, 6, 10, 11, 12]) (r := [(1, .func (.func 82) #[] #[pB b6 0, pB b4 0, pB b5 0]), (4, pB b16 0), (6, pB b17 0), (10, .slice e3 ((compL (sortL y10)).length) q3), (11, vI ((compL (sortL y10)).length : Int)), (12, vI 0)]) hf98 (by kernel_rfl)
         refine w_loop (by kernel_rfl) (fun n a w => ∃ z15 : Zone, ∃ y7 : List Pt, ∃ y8 : Int, ∃ e7 : Option Addr, ∃ q7 : Nat, Zone.le z11 z15 ∧ Fr a 41 [(1, .func (.func 82) #[] #[pB b6 0, pB b4 0, pB b5 0]), (4, pB b16 0), (6, pB b17 0), (10, .slice e3 ((compL (sortL y10)).length) q3), (11, vI ((compL (sortL y10)).length : Int)), (12, vI y8)] ∧ St z15 (ownS PtT 39 e7 q7 y7 :: box b17 [.slice e7 y7.length q7] 24 :: box b16 [.slice none 0 0] 24 :: ownS Ty.int 3 e3 q3 (compL (sortL y10)) :: emp :: box b8 [vI y11, vI y12] 59 :: box b7 [.slice none 0 0] 24 :: box b6 [.func (.func 47) #[] #[]] 90 :: box b5 [.slice o_x1 x1.length c_x1] 24 :: box b4 [.slice o_x0 x0.length c_x0] 24 :: box b3 [.slice none 0 0] 24 :: box b2 [.slice o_x1 x1.length c_x1] 24 :: box b1 [.slice o_x0 x0.length c_x0] 24 :: L) w ∧ (F27_l2 fuel x0 x1 y10 n y7 y8) = some r) fuel ⟨z11, [], 0, none, 0, (Zone.le_refl _), hf99, hS54, hr32⟩ ?_
         rintro n4 a90 ww45 ⟨z15, y7, y8, e7, q7, k15, hf100, hS55, hr33⟩
         cases n4 with
         | zero => cases hr33
         | succ n1 =>
         refine w_sq [] [(1, .func (.func 82) #[] #[pB b6 0, pB b4 0, pB b5 0]), (4, pB b16 0), (6, pB b17 0), (10, .slice e3 ((compL (sortL y10)).length) q3), (11, vI ((compL (sortL y10)).length : Int)), (12, vI y8), (13, .bool (decide (y8 < ((compL (sortL y10)).length : Int))))] [] hf100 (by kernel_rfl) .nil fun a91 hf101 => ?_
         refine w_seq (by kernel_rfl) ?_
         refine w_if hf101 (b := (decide (y8 < ((compL (sortL y10)).length : Int)))) (by kernel_rfl) (fun hb8 => ?_) (fun hb8 => ?_)
         ·have hr34 := cond_t hb8 hr33
          refine w_skip (by kernel_rfl) ?_
          refine n_then ?_
          refine w_seq (by kernel_rfl) ?_
          refine w_block (id := 1) (by kernel_rfl) ?_
          obtain ⟨p1, hp28170, hr35⟩ := bind_some hr34
          obtain ⟨ad2, ho2, hb9, cc2, hc2, hk2⟩ := hS55.ownGet (j := 3) rfl hp28170
          subst hc2
          refine w_sq [.pointer (some ad2), vI p1] [(1, .func (.func 82) #[] #[pB b6 0, pB b4 0, pB b5 0]), (4, pB b16 0), (6, pB b17 0), (8, vI p1), (10, .slice e3 ((compL (sortL y10)).length) q3), (11, vI ((compL (sortL y10)).length : Int)), (12, vI y8)] [.prop (e3 = some ad2), .prop (0 ≤ y8 ∧ y8 < ((compL (sortL y10)).length : Nat)), .cell ((ad2.add (Int.toNat y8 * 1)).add 0) (vI p1)] hf101 (by kernel_rfl) (.prop ho2 (.prop hb9 (.cell (hk2 0 _ rfl) .nil))) fun a92 hf102 => ?_
          refine w_sr (by kernel_rfl) ?_
          refine p_qn 2 [] [(1, .func (.func 82) #[] #[pB b6 0, pB b4 0, pB b5 0]), (4, pB b16 0), (6, pB b17 0), (8, vI p1), (10, .slice e3 ((compL (sortL y10)).length) q3), (11, vI ((compL (sortL y10)).length : Int)), (12, vI y8), (16, .func (.func 82) #[] #[pB b6 0, pB b4 0, pB b5 0]), (17, vI p1)] [] hf102 (by kernel_rfl) .nil fun a93 hf103 => ?_
          refine p_inl (i := 2) (d := some 18) (f := 82) (args := #[vI p1, pB b6 0, pB b4 0, pB b5 0]) (N' := 14) hf103 (by kernel_rfl) Tryz.func82 (by kernel_rfl) fun a94 hf104 => ?_
          refine w_sr (by kernel_rfl) ?_
          refine p_box (i := 0) (d := (some 5)) (cs := [vI 0, vI 0]) (T := 59) (v := fun b18 => pB b18 0) hS55 hf104 (fun b => by kernel_rfl) fun b18 ww46 a95 hS56 hf105 => ⟨fun _ => trivial, ?_⟩
          refine p_dt (by kernel_rfl) ?_
          refine w_seq (by kernel_rfl) ?_
          have hS57 := hS56.drew
          have s7 : Sub z15 (box b18 [vI 0, vI 0] 59 :: ownS PtT 39 e7 q7 y7 :: box b17 [.slice e7 y7.length q7] 24 :: box b16 [.slice none 0 0] 24 :: ownS Ty.int 3 e3 q3 (compL (sortL y10)) :: emp :: box b8 [vI y11, vI y12] 59 :: box b7 [.slice none 0 0] 24 :: box b6 [.func (.func 47) #[] #[]] 90 :: box b5 [.slice o_x1 x1.length c_x1] 24 :: box b4 [.slice o_x0 x0.length c_x0] 24 :: box b3 [.slice none 0 0] 24 :: box b2 [.slice o_x1 x1.length c_x1] 24 :: box b1 [.slice o_x0 x0.length c_x0] 24 :: L) _ := Sub.of (Zone.le_refl _) hS57
          refine w_regD (by kernel_rfl) [(0, true), (1, true), (2, true), (4, true), (5, true), (3, false), (6, false), (7, false), (8, false)] [7, 8] (Sub z15 (box b18 [vI 0, vI 0] 59 :: ownS PtT 39 e7 q7 y7 :: box b17 [.slice e7 y7.length q7] 24 :: box b16 [.slice none 0 0] 24 :: ownS Ty.int 3 e3 q3 (compL (sortL y10)) :: emp :: box b8 [vI y11, vI y12] 59 :: box b7 [.slice none 0 0] 24 :: box b6 [.func (.func 47) #[] #[]] 90 :: box b5 [.slice o_x1 x1.length c_x1] 24 :: box b4 [.slice o_x0 x0.length c_x0] 24 :: box b3 [.slice none 0 0] 24 :: box b2 [.slice o_x1 x1.length c_x1] 24 :: box b1 [.slice o_x0 x0.length c_x0] 24 :: L)) (by kernel_rfl) s7 ?_
          refine p_qS 5 [.func (.func 47) #[] #[], .slice o_x0 x0.length c_x0, .slice o_x1 x1.length c_x1] [(5, pB b18 0), (6, .func (.func 47) #[] #[]), (7, .agg #[.slice o_x0 x0.length c_x0]), (8, vI p1), (10, .agg #[.slice o_x1 x1.length c_x1]), (11, vI p1)] [.cell ⟨b6, 0, none⟩ (.func (.func 47) #[] #[]), .cell ⟨b4, 0, none⟩ (.slice o_x0 x0.length c_x0), .cell ⟨b5, 0, none⟩ (.slice o_x1 x1.length c_x1)] [] s7 hf105 (by kernel_rfl) (fun _ s => (.cell (s.box (i := 8) rfl (j := 0) rfl) (.cell (s.box (i := 10) rfl (j := 0) rfl) (.cell (s.box (i := 9) rfl (j := 0) rfl) .nil)))) .nil fun a96 hf106 => ?_
          obtain ⟨r2, hd17, hr36⟩ := bind_some hr35
          refine p_call (i := 3) (d := some 9) (f := 45) (args := #[.agg #[.slice o_x0 x0.length c_x0], vI p1]) hf106 (by kernel_rfl) (f45_ok fuel x0 p1 r2 hd17 z15 _ _ hS57 o_x0 c_x0 (SliceR.mono (Zone.le_trans (Zone.le_trans (Zone.le_trans (Zone.le_trans (Zone.le_trans (Zone.le_trans k3 k4) k9) k10) k11) k12) k15) hx_x0)) ?_
          rintro v16 ww47 a97 ⟨z16, k16, rfl, hS58⟩ hf107
          refine ⟨fun _ => Sub.of k16 hS58, ?_⟩
          have s8 : Sub z15 (box b18 [vI 0, vI 0] 59 :: ownS PtT 39 e7 q7 y7 :: box b17 [.slice e7 y7.length q7] 24 :: box b16 [.slice none 0 0] 24 :: ownS Ty.int 3 e3 q3 (compL (sortL y10)) :: emp :: box b8 [vI y11, vI y12] 59 :: box b7 [.slice none 0 0] 24 :: box b6 [.func (.func 47) #[] #[]] 90 :: box b5 [.slice o_x1 x1.length c_x1] 24 :: box b4 [.slice o_x0 x0.length c_x0] 24 :: box b3 [.slice none 0 0] 24 :: box b2 [.slice o_x1 x1.length c_x1] 24 :: box b1 [.slice o_x0 x0.length c_x0] 24 :: L) _ := Sub.of k16 hS58
          obtain ⟨r3, hd18, hr37⟩ := bind_some hr36
          refine p_call (i := 6) (d := some 12) (f := 45) (args := #[.agg #[.slice o_x1 x1.length c_x1], vI p1]) hf107 (by kernel_rfl) (f45_ok fuel x1 p1 r3 hd18 z16 _ _ hS58 o_x1 c_x1 (SliceR.mono (Zone.le_trans (Zone.le_trans (Zone.le_trans (Zone.le_trans (Zone.le_trans (Zone.le_trans (Zone.le_trans k3 k4) k9) k10) k11) k12) k15) k16) hx_x1)) ?_
          rintro v17 ww48 a98 ⟨z17, k17, rfl, hS59⟩ hf108
          refine ⟨fun _ => Sub.of (Zone.le_trans k16 k17) hS59, ?_⟩
          have s9 : Sub z15 (box b18 [vI 0, vI 0] 59 :: ownS PtT 39 e7 q7 y7 :: box b17 [.slice e7 y7.length q7] 24 :: box b16 [.slice none 0 0] 24 :: ownS Ty.int 3 e3 q3 (compL (sortL y10)) :: emp :: box b8 [vI y11, vI y12] 59 :: box b7 [.slice none 0 0] 24 :: box b6 [.func (.func 47) #[] #[]] 90 :: box b5 [.slice o_x1 x1.length c_x1] 24 :: box b4 [.slice o_x0 x0.length c_x0] 24 :: box b3 [.slice none 0 0] 24 :: box b2 [.slice o_x1 x1.length c_x1] 24 :: box b1 [.slice o_x0 x0.length c_x0] 24 :: L) _ := Sub.of (Zone.le_trans k16 k17) hS59
          obtain ⟨r1, hd19, hr38⟩ := bind_some hr37
          refine p_call (i := 7) (d := some 13) (f := 47) (args := #[.agg #[vI r2.1, vI r2.2], .agg #[vI r3.1, vI r3.2]]) hf108 (by kernel_rfl) (f47_ok fuel r2.1 r2.2 r3.1 r3.2 r1 hd19 z17 _ _ hS59 ) ?_
          rintro v18 ww49 a99 ⟨rfl, hS60⟩ hf109
          refine ⟨fun e => absurd e (by decide), ?_⟩
          refine p_store_eq (i := 8) (j := 0) (b := b18) (off := 0) (vs := [vI r1.1, vI r1.2]) (cs' := [vI r1.1, vI r1.2]) hS60 hf109 rfl (by kernel_rfl) (by kernel_rfl) rfl fun ww50 a100 hS61 hf110 => ⟨fun e => absurd e (by decide), ?_⟩
          refine p_dt (by kernel_rfl) ?_
          refine w_ret (by kernel_rfl) ?_
          refine p_ret (os := [vI r1.1, vI r1.2]) (v := .agg #[vI r1.1, vI r1.2]) (obs := [.cell ⟨b18, 0, none⟩ (vI r1.1), .cell ⟨b18, 1, none⟩ (vI r1.2)]) hf110 (by kernel_rfl) (.cell (hS61.box (i := 0) rfl (j := 0) rfl) (.cell (hS61.box (i := 0) rfl (j := 1) rfl) .nil)) ?_
          refine ⟨_, rfl, fun a101 hf111 => ?_⟩
          have hS62 := St.drop 1 hS61
          refine ⟨fun _ => trivial, ?_⟩
          refine p_box (i := 3) (d := (some 9)) (cs := [vI 0, vI 0]) (T := 59) (v := fun b19 => pB b19 0) hS62 hf111 (fun b => by kernel_rfl) fun b19 ww51 a102 hS63 hf112 => ⟨fun _ => trivial, ?_⟩
          refine p_store_eq (i := 4) (j := 0) (b := b19) (off := 0) (vs := [vI r1.1, vI r1.2]) (cs' := [vI r1.1, vI r1.2]) hS63 hf112 rfl (by kernel_rfl) (by kernel_rfl) rfl fun ww52 a103 hS64 hf113 => ⟨fun _ => trivial, ?_⟩
          refine p_dt (by kernel_rfl) ?_
          refine w_seq (by kernel_rfl) ?_
          refine w_mid (by kernel_rfl) (fun a w => ∃ z18 : Zone, ∃ y9 : Bool, Zone.le z17 z18 ∧ Fr a 41 [(1, .func (.func 82) #[] #[pB b6 0, pB b4 0, pB b5 0]), (4, pB b16 0), (6, pB b17 0), (8, vI p1), (9, pB b19 0), (10, .slice e3 ((compL (sortL y10)).length) q3), (11, vI ((compL (sortL y10)).length : Int)), (12, vI y8), (26, .bool y9)] ∧ St z18 (box b19 [vI r1.1, vI r1.2] 59 :: ownS PtT 39 e7 q7 y7 :: box b17 [.slice e7 y7.length q7] 24 :: box b16 [.slice none 0 0] 24 :: ownS Ty.int 3 e3 q3 (compL (sortL y10)) :: emp :: box b8 [vI y11, vI y12] 59 :: box b7 [.slice none 0 0] 24 :: box b6 [.func (.func 47) #[] #[]] 90 :: box b5 [.slice o_x1 x1.length c_x1] 24 :: box b4 [.slice o_x0 x0.length c_x0] 24 :: box b3 [.slice none 0 0] 24 :: box b2 [.slice o_x1 x1.length c_x1] 24 :: box b1 [.slice o_x0 x0.length c_x0] 24 :: L) w ∧ (F27_j5 (F27_l2 fuel x0 x1 y10 n1) y7 y8 p1 r1 y9) = some r) ?_ ?_
          ·skip
           refine w_reg (by kernel_rfl) ?_
           refine p_qn 4 [vI r1.1] [(1, .func (.func 82) #[] #[pB b6 0, pB b4 0, pB b5 0]), (4, pB b16 0), (6, pB b17 0), (8, vI p1), (9, pB b19 0), (10, .slice e3 ((compL (sortL y10)).length) q3), (11, vI ((compL (sortL y10)).length : Int)), (12, vI y8), (22, .bool (decide (r1.1 < (-1000000000 : Int))))] [.cell ⟨b19, 0, none⟩ (vI r1.1)] hf113 (by kernel_rfl) (.cell (hS64.box (i := 0) rfl (j := 0) rfl) .nil) fun a104 hf114 => ?_
           rcases Bool.eq_false_or_eq_true (decide (r1.1 < (-1000000000 : Int))) with hb10 | hb10
           ·have hr39 := cond_t hb10 hr38
            have hf115 := Fr.conv hf114 (congrArg (fun z => ([(1, .func (.func 82) #[] #[pB b6 0, pB b4 0, pB b5 0]), (4, pB b16 0), (6, pB b17 0), (8, vI p1), (9, pB b19 0), (10, .slice e3 ((compL (sortL y10)).length) q3), (11, vI ((compL (sortL y10)).length : Int)), (12, vI y8), (22, .bool z)] : FL)) hb10)
            refine p_qt [] [(1, .func (.func 82) #[] #[pB b6 0, pB b4 0, pB b5 0]), (4, pB b16 0), (6, pB b17 0), (8, vI p1), (9, pB b19 0), (10, .slice e3 ((compL (sortL y10)).length) q3), (11, vI ((compL (sortL y10)).length : Int)), (12, vI y8), (23, undef), (24, undef), (25, undef), (26, .bool true)] [] hf115 (by kernel_rfl) .nil fun a105 hf116 => ?_
            have hf117 := Fr.keep (ks := [1, 4, 6, 8, 9, 10, 11, 12, 26]) (r := [(1, .func (.func 82) #[] #[pB b6 0, pB b4 0, pB b5 0]), (4, pB b16 0), (6, pB b17 0), (8, vI p1), (9, pB b19 0), (10, .slice e3 ((compL (sortL y10)).length) q3), (11, vI ((compL (sortL y10)).length : Int)), (12, vI y8), (26, .bool true)]) hf116 (by kernel_rfl)
            exact ⟨z17, true, (Zone.le_refl _), hf117, hS64, hr39⟩
           ·have hr40 := cond_f hb10 hr38
            have hf118 := Fr.conv hf114 (congrArg (fun z => ([(1, .func (.func 82) #[] #[pB b6 0, pB b4 0, pB b5 0]), (4, pB b16 0), (6, pB b17 0), (8, vI p1), (9, pB b19 0), (10, .slice e3 ((compL (sortL y10)).length) q3), (11, vI ((compL (sortL y10)).length : Int)), (12, vI y8), (22, .bool z)] : FL)) hb10)
            refine p_qt [vI r1.2] [(1, .func (.func 82) #[] #[pB b6 0, pB b4 0, pB b5 0]), (4, pB b16 0), (6, pB b17 0), (8, vI p1), (9, pB b19 0), (10, .slice e3 ((compL (sortL y10)).length) q3), (11, vI ((compL (sortL y10)).length : Int)), (12, vI y8), (23, pB b19 1), (24, vI r1.2), (25, .bool (decide (r1.2 > (1000000000 : Int)))), (26, .bool (decide (r1.2 > (1000000000 : Int))))] [.cell ⟨b19, 1, none⟩ (vI r1.2)] hf118 (by kernel_rfl) (.cell (hS64.box (i := 0) rfl (j := 1) rfl) .nil) fun a106 hf119 => ?_
            have hf120 := Fr.keep (ks := [1, 4, 6, 8, 9, 10, 11, 12, 26]) (r := [(1, .func (.func 82) #[] #[pB b6 0, pB b4 0, pB b5 0]), (4, pB b16 0), (6, pB b17 0), (8, vI p1), (9, pB b19 0), (10, .slice e3 ((compL (sortL y10)).length) q3), (11, vI ((compL (sortL y10)).length : Int)), (12, vI y8), (26, .bool (decide (r1.2 > (1000000000 : Int))))]) hf119 (by kernel_rfl)
            exact ⟨z17, (decide (r1.2 > (1000000000 : Int))), (Zone.le_refl _), hf120, hS64, hr40⟩
          ·rintro a107 ww53 ⟨z18, y9, k18, hf121, hS65, hr41⟩
           refine w_if hf121 (b := y9) (by kernel_rfl) (fun hb11 => ?_) (fun hb11 => ?_)
           ·have hr42 := cond_t hb11 hr41
            refine w_sr (by kernel_rfl) ?_
            refine p_qn 1 [] [(4, pB b16 0), (27, .agg #[.slice none 0 0])] [] hf121 (by kernel_rfl) .nil fun a108 hf122 => ?_
            refine p_store_eq (i := 1) (j := 3) (b := b16) (off := 0) (vs := [.slice none 0 0]) (cs' := [.slice none 0 0]) hS65 hf122 rfl (by kernel_rfl) (by kernel_rfl) rfl fun ww54 a109 hS66 hf123 => ⟨fun _ => trivial, ?_⟩
            refine p_qt [] [(4, pB b16 0), (5, vI 5)] [] hf123 (by kernel_rfl) .nil fun a110 hf124 => ?_
            refine w_ret (by kernel_rfl) ?_
            refine r_then ?_
            refine r_block ?_
            refine r_then ?_
            refine r_then ?_
            refine r_block ?_
            refine r_then ?_
            refine p_ret (os := [.slice none 0 0]) (v := .tuple #[.agg #[.slice none 0 0], vI 5]) (obs := [.cell ⟨b16, 0, none⟩ (.slice none 0 0)]) hf124 (by kernel_rfl) (.cell (hS66.box (i := 3) rfl (j := 0) rfl) .nil) ?_
            have hS67 := St.ownNil hS66 PtT 39
            exact ⟨_, rfl, z18, [], 5, none, 0, (Zone.le_trans (Zone.le_trans (Zone.le_trans k15 k16) k17) k18), rfl, (St.pick 5 [0] hS67 (by kernel_rfl)), hr42⟩
           ·have hr43 := cond_f hb11 hr41
            refine w_skip (by kernel_rfl) ?_
            refine n_then ?_
            refine w_reg (by kernel_rfl) ?_
            refine p_qn 8 [.slice e7 y7.length q7, vI r1.1, vI r1.2] [(1, .func (.func 82) #[] #[pB b6 0, pB b4 0, pB b5 0]), (4, pB b16 0), (6, pB b17 0), (10, .slice e3 ((compL (sortL y10)).length) q3), (11, vI ((compL (sortL y10)).length : Int)), (12, vI y8), (29, .slice e7 y7.length q7), (35, .agg #[vI p1, vI r1.1, vI r1.2])] [.cell ⟨b17, 0, none⟩ (.slice e7 y7.length q7), .cell ⟨b19, 0, none⟩ (vI r1.1), .cell ⟨b19, 1, none⟩ (vI r1.2)] hf121 (by kernel_rfl) (.cell (hS65.box (i := 2) rfl (j := 0) rfl) (.cell (hS65.box (i := 0) rfl (j := 0) rfl) (.cell (hS65.box (i := 0) rfl (j := 1) rfl) .nil))) fun a111 hf125 => ?_
            refine p_box (i := 8) (d := (some 36)) (cs := [vI p1, vI r1.1, vI r1.2]) (T := 39) (v := fun b20 => .slice (some ⟨b20, 0, none⟩) 1 1) hS65 hf125 (fun b => by kernel_rfl) fun b20 ww55 a112 hS68 hf126 => ⟨fun _ => trivial, ?_⟩
            have hS69 := hS68.ownBox (T := PtT) (E := 39) (n := 1) (xs := [⟨p1, r1.1, r1.2⟩]) (i := 0) rfl (Rows.cons (c := [vI p1, vI r1.1, vI r1.2]) rfl rfl) rfl (by decide)
            obtain ⟨d1, hd20, hr44⟩ := bind_some hr43
            refine p_append (T := PtT) (i := 9) (j := 2) (d := some 37) (o2 := (some ⟨b20, 0, none⟩)) (c2 := 1) (ys := ([⟨p1, r1.1, r1.2⟩])) el22 hS69 hf126 rfl (by kernel_rfl) (hS69.ownSrc (j := 0) rfl) hd20 fun e8 q8 ww56 a113 hS70 hf127 => ⟨fun _ => trivial, ?_⟩
            refine p_qn 1 [] [(1, .func (.func 82) #[] #[pB b6 0, pB b4 0, pB b5 0]), (4, pB b16 0), (6, pB b17 0), (10, .slice e3 ((compL (sortL y10)).length) q3), (11, vI ((compL (sortL y10)).length : Int)), (12, vI y8), (37, .slice e8 d1.length q8), (38, pB b17 0)] [] hf127 (by kernel_rfl) .nil fun a114 hf128 => ?_
            refine p_store_eq (i := 11) (j := 3) (b := b17) (off := 0) (vs := [.slice e8 d1.length q8]) (cs' := [.slice e8 d1.length q8]) hS70 hf128 rfl (by kernel_rfl) (by kernel_rfl) rfl fun ww57 a115 hS71 hf129 => ⟨fun _ => trivial, ?_⟩
            refine p_done (by kernel_rfl) ?_
            refine n_block ?_
            refine n_then ?_
            refine w_q [] [(1, .func (.func 82) #[] #[pB b6 0, pB b4 0, pB b5 0]), (4, pB b16 0), (6, pB b17 0), (10, .slice e3 ((compL (sortL y10)).length) q3), (11, vI ((compL (sortL y10)).length : Int)), (12, vI (w64 (y8 + (1 : Int))))] [] hf129 (by kernel_rfl) .nil fun a116 hf130 => ?_
            refine n_then ?_
            have hf131 := Fr.keep (ks := [1, 4, 6, 10, 11, 12]) (r := [(1, .func (.func 82) #[] #[pB b6 0, pB b4 0, pB b5 0]), (4, pB b16 0), (6, pB b17 0), (10, .slice e3 ((compL (sortL y10)).length) q3), (11, vI ((compL (sortL y10)).length : Int)), (12, vI (w64 (y8 + (1 : Int))))]) hf130 (by kernel_rfl)
            exact ⟨n1, Nat.lt_succ_self n1, z18, d1, (w64 (y8 + (1 : Int))), e8, q8, (Zone.le_trans (Zone.le_trans (Zone.le_trans k15 k16) k17) k18), hf131, (St.drop 2 hS71), hr44⟩
         ·have hr45 := cond_f hb8 hr33
          refine w_exit (id := 0) (by kernel_rfl) ?_
          refine x_then ?_
          refine x_then ?_
          refine x_block ?_
          refine n_then ?_
          refine w_sr (by kernel_rfl) ?_
          refine p_qn 1 [.slice e7 y7.length q7] [(4, pB b16 0), (40, .agg #[.slice e7 y7.length q7])] [.cell ⟨b17, 0, none⟩ (.slice e7 y7.length q7)] hf101 (by kernel_rfl) (.cell (hS55.box (i := 1) rfl (j := 0) rfl) .nil) fun a117 hf132 => ?_
          refine p_store_eq (i := 1) (j := 2) (b := b16) (off := 0) (vs := [.slice e7 y7.length q7]) (cs' := [.slice e7 y7.length q7]) hS55 hf132 rfl (by kernel_rfl) (by kernel_rfl) rfl fun ww58 a118 hS72 hf133 => ⟨fun _ => trivial, ?_⟩
          refine p_qt [] [(4, pB b16 0), (5, vI 0)] [] hf133 (by kernel_rfl) .nil fun a119 hf134 => ?_
          refine w_ret (by kernel_rfl) ?_
          refine p_ret (os := [.slice e7 y7.length q7]) (v := .tuple #[.agg #[.slice e7 y7.length q7], vI 0]) (obs := [.cell ⟨b16, 0, none⟩ (.slice e7 y7.length q7)]) hf134 (by kernel_rfl) (.cell (hS72.box (i := 2) rfl (j := 0) rfl) .nil) ?_
          exact ⟨_, rfl, z15, y7, 0, e7, q7, k15, rfl, (St.pick 3 [0] hS72 (by kernel_rfl)), hr45⟩
        ·rintro v19 ww59 a120 ⟨z14, y5, y6, e6, q6, k19, rfl, hS73, hr46⟩ hf135
         refine ⟨fun _ => trivial, ?_⟩
         refine p_qn 2 [] [(6, pB b7 0), (70, .agg #[.slice e6 y5.length q6]), (71, vI y6)] [] hf135 (by kernel_rfl) .nil fun a121 hf136 => ?_
         refine p_store_eq (i := 5) (j := 4) (b := b7) (off := 0) (vs := [.slice e6 y5.length q6]) (cs' := [.slice e6 y5.length q6]) hS73 hf136 rfl (by kernel_rfl) (by kernel_rfl) rfl fun ww60 a122 hS74 hf137 => ⟨fun _ => trivial, ?_⟩
         refine p_qt [] [(6, pB b7 0), (7, vI y6)] [] hf137 (by kernel_rfl) .nil fun a123 hf138 => ?_
         refine w_ret (by kernel_rfl) ?_
         refine p_ret (os := [.slice e6 y5.length q6]) (v := .tuple #[.agg #[.slice e6 y5.length q6], vI y6]) (obs := [.cell ⟨b7, 0, none⟩ (.slice e6 y5.length q6)]) hf138 (by kernel_rfl) (.cell (hS74.box (i := 4) rfl (j := 0) rfl) .nil) ?_
         exact ⟨_, rfl, z14, y5, y6, e6, q6, (Zone.le_trans (Zone.le_trans (Zone.le_trans (Zone.le_trans (Zone.le_trans (Zone.le_trans k3 k4) k9) k10) k11) k12) k19), rfl, (St.pick 8 [0] hS74 (by kernel_rfl)), hr46⟩
 ·rintro v20 ww61 a124 ⟨z1, y1, y2, e1, q1, k20, rfl, hS75, hr47⟩ hf139
  refine ⟨fun _ => trivial, ?_⟩
  refine p_qn 2 [] [(4, pB b3 0), (9, .agg #[.slice e1 y1.length q1]), (10, vI y2)] [] hf139 (by kernel_rfl) .nil fun a125 hf140 => ?_
  refine p_store_eq (i := 5) (j := 1) (b := b3) (off := 0) (vs := [.slice e1 y1.length q1]) (cs' := [.slice e1 y1.length q1]) hS75 hf140 rfl (by kernel_rfl) (by kernel_rfl) rfl fun ww62 a126 hS76 hf141 => ⟨fun _ => trivial, ?_⟩
  refine p_qt [] [(4, pB b3 0), (5, vI y2)] [] hf141 (by kernel_rfl) .nil fun a127 hf142 => ?_
  refine w_ret (by kernel_rfl) ?_
  obtain ⟨z19, k21, hS77, hx3⟩ := hS76.share (j := 0) rfl
  refine p_ret (os := [.slice e1 y1.length q1]) (v := .tuple #[.agg #[.slice e1 y1.length q1], vI y2]) (obs := [.cell ⟨b3, 0, none⟩ (.slice e1 y1.length q1)]) hf142 (by kernel_rfl) (.cell (hS77.box (i := 1) rfl (j := 0) rfl) .nil) ?_
  obtain rfl := some_eq hr47
  exact ⟨_, rfl, z19, e1, q1, (Zone.le_trans k20 k21), rfl, (St.drop 4 hS77), hx3⟩
def F28 (fuel : Nat)  : Option (List Pt) :=
  (some ([⟨5, 1, 2⟩, ⟨20, 1, 4⟩]))
set_option maxRecDepth 100000 in
theorem f28_ok (fuel : Nat)  (r : List Pt) (hr : F28 fuel  = some r) (h : Zone) (L : List Atom) (w : World) (hS : St h L w)  :
    Calls Tryz.prog 28 #[] w fun e w' => ∃ v, e = .returned v ∧ (∃ h', ∃ o0 : Option Addr, ∃ c0 : Nat, Zone.le h h' ∧ v = .agg #[.slice o0 r.length c0] ∧ St h' L w' ∧ SliceR PtT h' o0 c0 r) := by
 refine calls_intro (N := 5) Tryz.func28 (by kernel_rfl) fun a hf => ?_
 refine w_sr (by kernel_rfl) ?_
 refine p_box (i := 0) (d := (some 0)) (cs := [.slice none 0 0]) (T := 24) (v := fun b1 => pB b1 0) hS hf (fun b => by kernel_rfl) fun b1 ww1 a1 hS1 hf1 => ⟨fun _ => trivial, ?_⟩
 refine p_dt (by kernel_rfl) ?_
 refine w_sr (by kernel_rfl) ?_
 refine p_qn 2 [] [(0, pB b1 0), (1, .agg #[vI 5, vI 1, vI 2]), (2, .agg #[vI 20, vI 1, vI 4])] [] hf1 (by kernel_rfl) .nil fun a2 hf2 => ?_
 refine p_box (i := 2) (d := (some 3)) (cs := [vI 5, vI 1, vI 2, vI 20, vI 1, vI 4]) (T := 39) (v := fun b2 => .slice (some ⟨b2, 0, none⟩) 2 2) hS1 hf2 (fun b => by kernel_rfl) fun b2 ww2 a3 hS2 hf3 => ⟨fun _ => trivial, ?_⟩
 have hS3 := hS2.ownBox (T := PtT) (E := 39) (n := 2) (xs := [⟨5, 1, 2⟩, ⟨20, 1, 4⟩]) (i := 0) rfl (Rows.cons (c := [vI 5, vI 1, vI 2]) rfl (Rows.cons (c := [vI 20, vI 1, vI 4]) rfl rfl)) rfl (by decide)
 refine p_qn 1 [] [(0, pB b1 0), (4, .agg #[.slice (some ⟨b2, 0, none⟩) 2 2])] [] hf3 (by kernel_rfl) .nil fun a4 hf4 => ?_
 refine p_store_eq (i := 4) (j := 1) (b := b1) (off := 0) (vs := [.slice (some ⟨b2, 0, none⟩) 2 2]) (cs' := [.slice (some ⟨b2, 0, none⟩) 2 2]) hS3 hf4 rfl (by kernel_rfl) (by kernel_rfl) rfl fun ww3 a5 hS4 hf5 => ⟨fun _ => trivial, ?_⟩
 refine p_dt (by kernel_rfl) ?_
 refine w_ret (by kernel_rfl) ?_
 obtain ⟨z1, k1, hS5, hx1⟩ := hS4.share (j := 0) rfl
 refine p_ret (os := [.slice (some ⟨b2, 0, none⟩) 2 2]) (v := .agg #[.slice (some ⟨b2, 0, none⟩) 2 2]) (obs := [.cell ⟨b1, 0, none⟩ (.slice (some ⟨b2, 0, none⟩) 2 2)]) hf5 (by kernel_rfl) (.cell (hS5.box (i := 1) rfl (j := 0) rfl) .nil) ?_
 obtain rfl := some_eq hr
 exact ⟨_, rfl, z1, (some ⟨b2, 0, none⟩), 2, k1, rfl, (St.drop 2 hS5), hx1⟩
def F49 (fuel : Nat) (x0_x : Int) (x0_lo : Int) (x0_hi : Int) : Option (Int) :=
  (some (x0_lo))
set_option maxRecDepth 100000 in
theorem f49_ok (fuel : Nat) (x0_x : Int) (x0_lo : Int) (x0_hi : Int) (r : Int) (hr : F49 fuel x0_x x0_lo x0_hi = some r) (h : Zone) (L : List Atom) (w : World) (hS : St h L w)  :
    Calls Tryz.prog 49 #[.agg #[vI x0_x, vI x0_lo, vI x0_hi]] w fun e w' => ∃ v, e = .returned v ∧ (v = vI r ∧ St h L w') := by
 refine calls_intro (N := 5) Tryz.func49 (by kernel_rfl) fun a hf => ?_
 refine w_sr (by kernel_rfl) ?_
 refine p_box (i := 0) (d := (some 1)) (cs := [vI x0_x, vI x0_lo, vI x0_hi]) (T := 39) (v := fun b1 => pB b1 0) hS hf (fun b => by kernel_rfl) fun b1 ww1 a1 hS1 hf1 => ⟨fun _ => trivial, ?_⟩
 refine p_qt [] [(1, pB b1 0)] [] hf1 (by kernel_rfl) .nil fun a2 hf2 => ?_
 refine w_sq [vI x0_lo] [(2, vI x0_lo)] [.cell ⟨b1, 1, none⟩ (vI x0_lo)] hf2 (by kernel_rfl) (.cell (hS1.box (i := 0) rfl (j := 1) rfl) .nil) fun a3 hf3 => ?_
 refine w_ret (by kernel_rfl) ?_
 refine p_ret (os := []) (v := vI x0_lo) (obs := []) hf3 (by kernel_rfl) .nil ?_
 obtain rfl := some_eq hr
 exact ⟨_, rfl, rfl, (St.drop 1 hS1)⟩
def F50 (fuel : Nat) (x0_x : Int) (x0_lo : Int) (x0_hi : Int) : Option (Int) :=
  (some (x0_hi))
set_option maxRecDepth 100000 in
theorem f50_ok (fuel : Nat) (x0_x : Int) (x0_lo : Int) (x0_hi : Int) (r : Int) (hr : F50 fuel x0_x x0_lo x0_hi = some r) (h : Zone) (L : List Atom) (w : World) (hS : St h L w)  :
    Calls Tryz.prog 50 #[.agg #[vI x0_x, vI x0_lo, vI x0_hi]] w fun e w' => ∃ v, e = .returned v ∧ (v = vI r ∧ St h L w') := by
 refine calls_intro (N := 5) Tryz.func50 (by kernel_rfl) fun a hf => ?_
 refine w_sr (by kernel_rfl) ?_
 refine p_box (i := 0) (d := (some 1)) (cs := [vI x0_x, vI x0_lo, vI x0_hi]) (T := 39) (v := fun b1 => pB b1 0) hS hf (fun b => by kernel_rfl) fun b1 ww1 a1 hS1 hf1 => ⟨fun _ => trivial, ?_⟩
 refine p_qt [] [(1, pB b1 0)] [] hf1 (by kernel_rfl) .nil fun a2 hf2 => ?_
 refine w_sq [vI x0_hi] [(2, vI x0_hi)] [.cell ⟨b1, 2, none⟩ (vI x0_hi)] hf2 (by kernel_rfl) (.cell (hS1.box (i := 0) rfl (j := 2) rfl) .nil) fun a3 hf3 => ?_
 refine w_ret (by kernel_rfl) ?_
 refine p_ret (os := []) (v := vI x0_hi) (obs := []) hf3 (by kernel_rfl) .nil ?_
 obtain rfl := some_eq hr
 exact ⟨_, rfl, rfl, (St.drop 1 hS1)⟩
def F29_j6 (fuel : Nat) (y1 : Int) (y2 : Int) (y3 : Int) (y4 : Int) (y5 : Int) (y6 : Int) : Option (Int × Int × Int) :=
  ((F51 fuel y2 y3).bind fun r1 => ((F52 fuel y5 y6).bind fun r2 => (some ((w64 (y1 + r1)), (w64 (y4 + r2)), 0))))
def F29_j7 (fuel : Nat) (y1 : Int) (y2 : Int) (y3 : Int) (y7 : Int) (y8 : Int) (y9 : Int) : Option (Int × Int × Int) :=
  (F29_j6 fuel y1 y2 y3 y7 y8 y9)
def F29_j8 (k1 : Int → Int → Int → Int → Option (Int × Int × Int)) (y10 : Int) (y11 : Int) (y12 : Int) (y13 : Int) : Option (Int × Int × Int) :=
  (k1 y11 y12 y13 (w64 (y10 + (1 : Int))))
def F29_j9 (k1 : Int → Int → Int → Int → Option (Int × Int × Int)) (y10 : Int) (y14 : Int) (y15 : Int) (y16 : Int) : Option (Int × Int × Int) :=
  (F29_j8 k1 y10 y14 y15 y16)
def F29_l2 (fuel : Nat) (x0 : List Pt) (x1 : Int) (x2 : Int) (y1 : Int) (y2 : Int) (y3 : Int) (d1 : List Pt) : Nat → Int → Int → Int → Int → Option (Int × Int × Int)
  | 0, _, _, _, _ => none
  | n1 + 1, y17, y18, y19, y10 =>
    let k1 : Int → Int → Int → Int → Option (Int × Int × Int) := F29_l2 fuel x0 x1 x2 y1 y2 y3 d1 n1
    (cond (decide (y10 < (d1.length : Int))) ((getI d1 y10).bind fun p1 => ((getI x0 y10).bind fun p2 => (cond (decide ((if x1 > p2.x then x1 else p2.x) ≥ (if x2 < p1.x then x2 else p1.x))) (F29_j8 k1 y10 y17 y18 y19) ((F50 fuel p2.x p2.lo p2.hi).bind fun r3 => ((F50 fuel p1.x p1.lo p1.hi).bind fun r4 => ((F50 fuel p2.x p2.lo p2.hi).bind fun r5 => ((F51 fuel (w64 (r4 - r5)) (w64 (p1.x - p2.x))).bind fun r6 => ((F51 fuel (w64 ((w64 ((w64 (r4 - r5)) - (w64 (r6 * (w64 (p1.x - p2.x)))))) * (w64 ((w64 ((if x2 < p1.x then x2 else p1.x) - (if x1 > p2.x then x1 else p2.x))) * (w64 ((w64 ((if x1 > p2.x then x1 else p2.x) + (if x2 < p1.x then x2 else p1.x))) - (w64 ((2 : Int) * p2.x)))))))) (w64 (p1.x - p2.x))).bind fun r7 => ((F51 fuel (w64 ((w64 ((w64 (r4 - r5)) - (w64 (r6 * (w64 (p1.x - p2.x)))))) * (w64 ((w64 ((if x2 < p1.x then x2 else p1.x) - (if x1 > p2.x then x1 else p2.x))) * (w64 ((w64 ((if x1 > p2.x then x1 else p2.x) + (if x2 < p1.x then x2 else p1.x))) - (w64 ((2 : Int) * p2.x)))))))) (w64 (p1.x - p2.x))).bind fun r8 => (cond (decide ((w64 ((w64 ((w64 ((w64 (r4 - r5)) - (w64 (r6 * (w64 (p1.x - p2.x)))))) * (w64 ((w64 ((if x2 < p1.x then x2 else p1.x) - (if x1 > p2.x then x1 else p2.x))) * (w64 ((w64 ((if x1 > p2.x then x1 else p2.x) + (if x2 < p1.x then x2 else p1.x))) - (w64 ((2 : Int) * p2.x)))))))) - (w64 (r8 * (w64 (p1.x - p2.x)))))) > (0 : Int))) (F29_j9 k1 y10 (w64 ((w64 (y17 + (w64 ((w64 ((w64 ((2 : Int) * r3)) * (w64 ((if x2 < p1.x then x2 else p1.x) - (if x1 > p2.x then x1 else p2.x))))) + (w64 (r6 * (w64 ((w64 ((if x2 < p1.x then x2 else p1.x) - (if x1 > p2.x then x1 else p2.x))) * (w64 ((w64 ((if x1 > p2.x then x1 else p2.x) + (if x2 < p1.x then x2 else p1.x))) - (w64 ((2 : Int) * p2.x)))))))))))) + r7)) (w64 ((w64 (y18 * (w64 (p1.x - p2.x)))) + (w64 ((w64 ((w64 ((w64 ((w64 (r4 - r5)) - (w64 (r6 * (w64 (p1.x - p2.x)))))) * (w64 ((w64 ((if x2 < p1.x then x2 else p1.x) - (if x1 > p2.x then x1 else p2.x))) * (w64 ((w64 ((if x1 > p2.x then x1 else p2.x) + (if x2 < p1.x then x2 else p1.x))) - (w64 ((2 : Int) * p2.x)))))))) - (w64 (r8 * (w64 (p1.x - p2.x)))))) * y19)))) (w64 (y19 * (w64 (p1.x - p2.x))))) (F29_j9 k1 y10 (w64 ((w64 (y17 + (w64 ((w64 ((w64 ((2 : Int) * r3)) * (w64 ((if x2 < p1.x then x2 else p1.x) - (if x1 > p2.x then x1 else p2.x))))) + (w64 (r6 * (w64 ((w64 ((if x2 < p1.x then x2 else p1.x) - (if x1 > p2.x then x1 else p2.x))) * (w64 ((w64 ((if x1 > p2.x then x1 else p2.x) + (if x2 < p1.x then x2 else p1.x))) - (w64 ((2 : Int) * p2.x)))))))))))) + r7)) y18 y19))))))))))) (F29_j6 fuel y1 y2 y3 y17 y18 y19))
def F29_j2 (fuel : Nat) (x0 : List Pt) (x1 : Int) (x2 : Int) (y1 : Int) (y2 : Int) (y3 : Int) : Option (Int × Int × Int) :=
  (cond ((x0.length : Int) == (1 : Int)) ((getI x0 0).bind fun p3 => ((getI x0 0).bind fun p4 => (cond (decide ((if x1 > p3.x then x1 else p3.x) ≥ (if x2 < p4.x then x2 else p4.x))) (F29_j6 fuel y1 y2 y3 0 0 1) ((F50 fuel p3.x p3.lo p3.hi).bind fun r9 => ((F50 fuel p4.x p4.lo p4.hi).bind fun r10 => ((F50 fuel p3.x p3.lo p3.hi).bind fun r11 => ((F51 fuel (w64 (r10 - r11)) (w64 (p4.x - p3.x))).bind fun r12 => ((F51 fuel (w64 ((w64 ((w64 (r10 - r11)) - (w64 (r12 * (w64 (p4.x - p3.x)))))) * (w64 ((w64 ((if x2 < p4.x then x2 else p4.x) - (if x1 > p3.x then x1 else p3.x))) * (w64 ((w64 ((if x1 > p3.x then x1 else p3.x) + (if x2 < p4.x then x2 else p4.x))) - (w64 ((2 : Int) * p3.x)))))))) (w64 (p4.x - p3.x))).bind fun r13 => ((F51 fuel (w64 ((w64 ((w64 (r10 - r11)) - (w64 (r12 * (w64 (p4.x - p3.x)))))) * (w64 ((w64 ((if x2 < p4.x then x2 else p4.x) - (if x1 > p3.x then x1 else p3.x))) * (w64 ((w64 ((if x1 > p3.x then x1 else p3.x) + (if x2 < p4.x then x2 else p4.x))) - (w64 ((2 : Int) * p3.x)))))))) (w64 (p4.x - p3.x))).bind fun r14 => (cond (decide ((w64 ((w64 ((w64 ((w64 (r10 - r11)) - (w64 (r12 * (w64 (p4.x - p3.x)))))) * (w64 ((w64 ((if x2 < p4.x then x2 else p4.x) - (if x1 > p3.x then x1 else p3.x))) * (w64 ((w64 ((if x1 > p3.x then x1 else p3.x) + (if x2 < p4.x then x2 else p4.x))) - (w64 ((2 : Int) * p3.x)))))))) - (w64 (r14 * (w64 (p4.x - p3.x)))))) > (0 : Int))) (F29_j7 fuel y1 y2 y3 (w64 ((w64 ((0 : Int) + (w64 ((w64 ((w64 ((2 : Int) * r9)) * (w64 ((if x2 < p4.x then x2 else p4.x) - (if x1 > p3.x then x1 else p3.x))))) + (w64 (r12 * (w64 ((w64 ((if x2 < p4.x then x2 else p4.x) - (if x1 > p3.x then x1 else p3.x))) * (w64 ((w64 ((if x1 > p3.x then x1 else p3.x) + (if x2 < p4.x then x2 else p4.x))) - (w64 ((2 : Int) * p3.x)))))))))))) + r13)) (w64 ((w64 ((0 : Int) * (w64 (p4.x - p3.x)))) + (w64 ((w64 ((w64 ((w64 ((w64 (r10 - r11)) - (w64 (r12 * (w64 (p4.x - p3.x)))))) * (w64 ((w64 ((if x2 < p4.x then x2 else p4.x) - (if x1 > p3.x then x1 else p3.x))) * (w64 ((w64 ((if x1 > p3.x then x1 else p3.x) + (if x2 < p4.x then x2 else p4.x))) - (w64 ((2 : Int) * p3.x)))))))) - (w64 (r14 * (w64 (p4.x - p3.x)))))) * (1 : Int))))) (w64 ((1 : Int) * (w64 (p4.x - p3.x))))) (F29_j7 fuel y1 y2 y3 (w64 ((w64 ((0 : Int) + (w64 ((w64 ((w64 ((2 : Int) * r9)) * (w64 ((if x2 < p4.x then x2 else p4.x) - (if x1 > p3.x then x1 else p3.x))))) + (w64 (r12 * (w64 ((w64 ((if x2 < p4.x then x2 else p4.x) - (if x1 > p3.x then x1 else p3.x))) * (w64 ((w64 ((if x1 > p3.x then x1 else p3.x) + (if x2 < p4.x then x2 else p4.x))) - (w64 ((2 : Int) * p3.x)))))))))))) + r13)) 0 1))))))))))) ((subI x0 1 (x0.length : Int)).bind fun d1 => (F29_l2 fuel x0 x1 x2 y1 y2 y3 d1 fuel 0 0 1 0)))
def F29_j3 (fuel : Nat) (x0 : List Pt) (x1 : Int) (x2 : Int) (y20 : Int) (y21 : Int) (y22 : Int) : Option (Int × Int × Int) :=
  (F29_j2 fuel x0 x1 x2 y20 y21 y22)
def F29_j4 (k2 : Int → Int → Int → Int → Option (Int × Int × Int)) (y23 : Int) (y24 : Int) (y25 : Int) (y26 : Int) : Option (Int × Int × Int) :=
  (k2 y24 y25 y26 (w64 (y23 + (1 : Int))))
def F29_j5 (k2 : Int → Int → Int → Int → Option (Int × Int × Int)) (y23 : Int) (y27 : Int) (y28 : Int) (y29 : Int) : Option (Int × Int × Int) :=
  (F29_j4 k2 y23 y27 y28 y29)
def F29_l1 (fuel : Nat) (x0 : List Pt) (x1 : Int) (x2 : Int) (d2 : List Pt) : Nat → Int → Int → Int → Int → Option (Int × Int × Int)
  | 0, _, _, _, _ => none
  | n2 + 1, y30, y31, y32, y23 =>
    let k2 : Int → Int → Int → Int → Option (Int × Int × Int) := F29_l1 fuel x0 x1 x2 d2 n2
    (cond (decide (y23 < (d2.length : Int))) ((getI d2 y23).bind fun p5 => ((getI x0 y23).bind fun p6 => (cond (decide ((if x1 > p6.x then x1 else p6.x) ≥ (if x2 < p5.x then x2 else p5.x))) (F29_j4 k2 y23 y30 y31 y32) ((F49 fuel p6.x p6.lo p6.hi).bind fun r15 => ((F49 fuel p5.x p5.lo p5.hi).bind fun r16 => ((F49 fuel p6.x p6.lo p6.hi).bind fun r17 => ((F51 fuel (w64 (r16 - r17)) (w64 (p5.x - p6.x))).bind fun r18 => ((F51 fuel (w64 ((w64 ((w64 (r16 - r17)) - (w64 (r18 * (w64 (p5.x - p6.x)))))) * (w64 ((w64 ((if x2 < p5.x then x2 else p5.x) - (if x1 > p6.x then x1 else p6.x))) * (w64 ((w64 ((if x1 > p6.x then x1 else p6.x) + (if x2 < p5.x then x2 else p5.x))) - (w64 ((2 : Int) * p6.x)))))))) (w64 (p5.x - p6.x))).bind fun r19 => ((F51 fuel (w64 ((w64 ((w64 (r16 - r17)) - (w64 (r18 * (w64 (p5.x - p6.x)))))) * (w64 ((w64 ((if x2 < p5.x then x2 else p5.x) - (if x1 > p6.x then x1 else p6.x))) * (w64 ((w64 ((if x1 > p6.x then x1 else p6.x) + (if x2 < p5.x then x2 else p5.x))) - (w64 ((2 : Int) * p6.x)))))))) (w64 (p5.x - p6.x))).bind fun r20 => (cond (decide ((w64 ((w64 ((w64 ((w64 (r16 - r17)) - (w64 (r18 * (w64 (p5.x - p6.x)))))) * (w64 ((w64 ((if x2 < p5.x then x2 else p5.x) - (if x1 > p6.x then x1 else p6.x))) * (w64 ((w64 ((if x1 > p6.x then x1 else p6.x) + (if x2 < p5.x then x2 else p5.x))) - (w64 ((2 : Int) * p6.x)))))))) - (w64 (r20 * (w64 (p5.x - p6.x)))))) > (0 : Int))) (F29_j5 k2 y23 (w64 ((w64 (y30 + (w64 ((w64 ((w64 ((2 : Int) * r15)) * (w64 ((if x2 < p5.x then x2 else p5.x) - (if x1 > p6.x then x1 else p6.x))))) + (w64 (r18 * (w64 ((w64 ((if x2 < p5.x then x2 else p5.x) - (if x1 > p6.x then x1 else p6.x))) * (w64 ((w64 ((if x1 > p6.x then x1 else p6.x) + (if x2 < p5.x then x2 else p5.x))) - (w64 ((2 : Int) * p6.x)))))))))))) + r19)) (w64 ((w64 (y31 * (w64 (p5.x - p6.x)))) + (w64 ((w64 ((w64 ((w64 ((w64 (r16 - r17)) - (w64 (r18 * (w64 (p5.x - p6.x)))))) * (w64 ((w64 ((if x2 < p5.x then x2 else p5.x) - (if x1 > p6.x then x1 else p6.x))) * (w64 ((w64 ((if x1 > p6.x then x1 else p6.x) + (if x2 < p5.x then x2 else p5.x))) - (w64 ((2 : Int) * p6.x)))))))) - (w64 (r20 * (w64 (p5.x - p6.x)))))) * y32)))) (w64 (y32 * (w64 (p5.x - p6.x))))) (F29_j5 k2 y23 (w64 ((w64 (y30 + (w64 ((w64 ((w64 ((2 : Int) * r15)) * (w64 ((if x2 < p5.x then x2 else p5.x) - (if x1 > p6.x then x1 else p6.x))))) + (w64 (r18 * (w64 ((w64 ((if x2 < p5.x then x2 else p5.x) - (if x1 > p6.x then x1 else p6.x))) * (w64 ((w64 ((if x1 > p6.x then x1 else p6.x) + (if x2 < p5.x then x2 else p5.x))) - (w64 ((2 : Int) * p6.x)))))))))))) + r19)) y31 y32))))))))))) (F29_j2 fuel x0 x1 x2 y30 y31 y32))
def F29_j1 (fuel : Nat) (x0 : List Pt) (x1 : Int) (x2 : Int) (y33 : Bool) : Option (Int × Int × Int) :=
  (cond y33 (some (0, 0, 4)) (cond ((x0.length : Int) == (1 : Int)) ((getI x0 0).bind fun p7 => ((getI x0 0).bind fun p8 => (cond (decide ((if x1 > p7.x then x1 else p7.x) ≥ (if x2 < p8.x then x2 else p8.x))) (F29_j2 fuel x0 x1 x2 0 0 1) ((F49 fuel p7.x p7.lo p7.hi).bind fun r21 => ((F49 fuel p8.x p8.lo p8.hi).bind fun r22 => ((F49 fuel p7.x p7.lo p7.hi).bind fun r23 => ((F51 fuel (w64 (r22 - r23)) (w64 (p8.x - p7.x))).bind fun r24 => ((F51 fuel (w64 ((w64 ((w64 (r22 - r23)) - (w64 (r24 * (w64 (p8.x - p7.x)))))) * (w64 ((w64 ((if x2 < p8.x then x2 else p8.x) - (if x1 > p7.x then x1 else p7.x))) * (w64 ((w64 ((if x1 > p7.x then x1 else p7.x) + (if x2 < p8.x then x2 else p8.x))) - (w64 ((2 : Int) * p7.x)))))))) (w64 (p8.x - p7.x))).bind fun r25 => ((F51 fuel (w64 ((w64 ((w64 (r22 - r23)) - (w64 (r24 * (w64 (p8.x - p7.x)))))) * (w64 ((w64 ((if x2 < p8.x then x2 else p8.x) - (if x1 > p7.x then x1 else p7.x))) * (w64 ((w64 ((if x1 > p7.x then x1 else p7.x) + (if x2 < p8.x then x2 else p8.x))) - (w64 ((2 : Int) * p7.x)))))))) (w64 (p8.x - p7.x))).bind fun r26 => (cond (decide ((w64 ((w64 ((w64 ((w64 (r22 - r23)) - (w64 (r24 * (w64 (p8.x - p7.x)))))) * (w64 ((w64 ((if x2 < p8.x then x2 else p8.x) - (if x1 > p7.x then x1 else p7.x))) * (w64 ((w64 ((if x1 > p7.x then x1 else p7.x) + (if x2 < p8.x then x2 else p8.x))) - (w64 ((2 : Int) * p7.x)))))))) - (w64 (r26 * (w64 (p8.x - p7.x)))))) > (0 : Int))) (F29_j3 fuel x0 x1 x2 (w64 ((w64 ((0 : Int) + (w64 ((w64 ((w64 ((2 : Int) * r21)) * (w64 ((if x2 < p8.x then x2 else p8.x) - (if x1 > p7.x then x1 else p7.x))))) + (w64 (r24 * (w64 ((w64 ((if x2 < p8.x then x2 else p8.x) - (if x1 > p7.x then x1 else p7.x))) * (w64 ((w64 ((if x1 > p7.x then x1 else p7.x) + (if x2 < p8.x then x2 else p8.x))) - (w64 ((2 : Int) * p7.x)))))))))))) + r25)) (w64 ((w64 ((0 : Int) * (w64 (p8.x - p7.x)))) + (w64 ((w64 ((w64 ((w64 ((w64 (r22 - r23)) - (w64 (r24 * (w64 (p8.x - p7.x)))))) * (w64 ((w64 ((if x2 < p8.x then x2 else p8.x) - (if x1 > p7.x then x1 else p7.x))) * (w64 ((w64 ((if x1 > p7.x then x1 else p7.x) + (if x2 < p8.x then x2 else p8.x))) - (w64 ((2 : Int) * p7.x)))))))) - (w64 (r26 * (w64 (p8.x - p7.x)))))) * (1 : Int))))) (w64 ((1 : Int) * (w64 (p8.x - p7.x))))) (F29_j3 fuel x0 x1 x2 (w64 ((w64 ((0 : Int) + (w64 ((w64 ((w64 ((2 : Int) * r21)) * (w64 ((if x2 < p8.x then x2 else p8.x) - (if x1 > p7.x then x1 else p7.x))))) + (w64 (r24 * (w64 ((w64 ((if x2 < p8.x then x2 else p8.x) - (if x1 > p7.x then x1 else p7.x))) * (w64 ((w64 ((if x1 > p7.x then x1 else p7.x) + (if x2 < p8.x then x2 else p8.x))) - (w64 ((2 : Int) * p7.x)))))))))))) + r25)) 0 1))))))))))) ((subI x0 1 (x0.length : Int)).bind fun d2 => (F29_l1 fuel x0 x1 x2 d2 fuel 0 0 1 0))))
def F29 (fuel : Nat) (x0 : List Pt) (x1 : Int) (x2 : Int) : Option (Int × Int × Int) :=
  ((F10 fuel x0).bind fun r27 => (cond (r27 != (0 : Int)) (some (0, 0, r27)) (cond (decide (x1 > x2)) (F29_j1 fuel x0 x1 x2 true) ((F43 fuel x0 x1 x2).bind fun r28 => (F29_j1 fuel x0 x1 x2 (!r28))))))
end Go.Proofs.YtdcmpekmpmfffaaGreatDoor

