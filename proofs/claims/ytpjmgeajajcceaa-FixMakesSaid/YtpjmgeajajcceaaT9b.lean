/-
  The walks of functions 129, 73, 74, 91, 112, 12, 113, 122, 100, 30, 80, 92, 58, 114, 59, 60, 40, 61, 34, 107, 109, 49, 62, 9: what the code does is what a plain function computes. No condition.
-/
import Derived.Test.YtpjmgeajajcceaaT9a
set_option linter.unusedVariables false
namespace Go.Proofs.Ytpjmgeajajcceaa
open Go.Sl Go.Sx
def F49_j2 (fuel : Nat) (x1 : Int) (x2 : Int) (y2 : Int) (y3 : Int) : Option (Int × Int × Int) :=
  ((F109 fuel y2 x1 x2).bind fun r1 => ((F109 fuel (w64 (0 - y3)) x1 x2).bind fun r2 => (cond (!r1.2) (F49_j3 fuel r1 r2 true) (F49_j3 fuel r1 r2 (!r2.2)))))
def F49_j1 (fuel : Nat) (x0_lo : Int) (x0_hi : Int) (x1 : Int) (x2 : Int) (y4 : Bool) : Option (Int × Int × Int) :=
  (cond y4 (some (0, 0, 1)) (cond (decide (x1 < (0 : Int))) (F49_j2 fuel x1 x2 x0_hi x0_lo) (F49_j2 fuel x1 x2 x0_lo x0_hi)))
def F49 (fuel : Nat) (x0_lo : Int) (x0_hi : Int) (x1 : Int) (x2 : Int) : Option (Int × Int × Int) :=
  ((F34 fuel x0_lo x0_hi).bind fun r4 => (cond (!r4) (some (0, 0, 10)) (cond (decide (x1 < (-1000000000 : Int))) (F49_j1 fuel x0_lo x0_hi x1 x2 true) (cond (decide (x1 > (1000000000 : Int))) (F49_j1 fuel x0_lo x0_hi x1 x2 true) (cond (decide (x2 < (1 : Int))) (F49_j1 fuel x0_lo x0_hi x1 x2 true) (F49_j1 fuel x0_lo x0_hi x1 x2 (decide (x2 > (1000000000 : Int)))))))))
set_option maxRecDepth 100000 in
theorem f49_ok (fuel : Nat) (x0_lo : Int) (x0_hi : Int) (x1 : Int) (x2 : Int) (r : Int × Int × Int) (hr : F49 fuel x0_lo x0_hi x1 x2 = some r) (h : Zone) (L : List Atom) (w : World) (hS : St h L w)  :
    Calls Try.prog 49 #[.agg #[vI x0_lo, vI x0_hi], vI x1, vI x2] w fun e w' => ∃ v, e = .returned v ∧ (∃ h', Zone.le h h' ∧ v = .tuple #[.agg #[vI r.1, vI r.2.1], vI r.2.2] ∧ St h' L w') := by
 refine calls_intro (N := 71) Try.func49 (by kernel_rfl) fun a hf => ?_
 refine w_sr (by kernel_rfl) ?_
 refine p_box (i := 0) (d := (some 3)) (cs := [vI x0_lo, vI x0_hi]) (T := 41) (v := fun b1 => pB b1 0) hS hf (fun b => by kernel_rfl) fun b1 ww1 a1 hS1 hf1 => ⟨fun _ => trivial, ?_⟩
 refine p_box (i := 1) (d := (some 6)) (cs := [vI 0, vI 0]) (T := 41) (v := fun b2 => pB b2 0) hS1 hf1 (fun b => by kernel_rfl) fun b2 ww2 a2 hS2 hf2 => ⟨fun _ => trivial, ?_⟩
 refine p_qt [] [(1, vI x1), (2, vI x2), (3, pB b1 0), (6, pB b2 0)] [] hf2 (by kernel_rfl) .nil fun a3 hf3 => ?_
 refine w_seq (by kernel_rfl) ?_
 refine w_sr (by kernel_rfl) ?_
 refine p_qn 1 [vI x0_lo, vI x0_hi] [(1, vI x1), (2, vI x2), (3, pB b1 0), (6, pB b2 0), (14, .agg #[vI x0_lo, vI x0_hi])] [.cell ⟨b1, 0, none⟩ (vI x0_lo), .cell ⟨b1, 1, none⟩ (vI x0_hi)] hf3 (by kernel_rfl) (.cell (hS2.box (i := 1) rfl (j := 0) rfl) (.cell (hS2.box (i := 1) rfl (j := 1) rfl) .nil)) fun a4 hf4 => ?_
 obtain ⟨r4, hd1, hr1⟩ := bind_some hr
 refine p_call (i := 1) (d := some 15) (f := 34) (args := #[.agg #[vI x0_lo, vI x0_hi]]) hf4 (by kernel_rfl) (f34_ok fuel x0_lo x0_hi r4 hd1 h _ _ hS2 ) ?_
 rintro v1 ww3 a5 ⟨z1, k1, rfl, hS3⟩ hf5
 refine ⟨fun _ => trivial, ?_⟩
 refine p_qt [] [(1, vI x1), (2, vI x2), (3, pB b1 0), (6, pB b2 0), (16, .bool (!r4))] [] hf5 (by kernel_rfl) .nil fun a6 hf6 => ?_
 refine w_if hf6 (b := (!r4)) (by kernel_rfl) (fun hb1 => ?_) (fun hb1 => ?_)
 ·have hr2 := cond_t hb1 hr1
  refine w_sr (by kernel_rfl) ?_
  refine p_qn 1 [] [(6, pB b2 0), (17, .agg #[vI 0, vI 0])] [] hf6 (by kernel_rfl) .nil fun a7 hf7 => ?_
  refine p_store_eq (i := 1) (j := 0) (b := b2) (off := 0) (vs := [vI 0, vI 0]) (cs' := [vI 0, vI 0]) hS3 hf7 rfl (by kernel_rfl) (by kernel_rfl) rfl fun ww4 a8 hS4 hf8 => ⟨fun _ => trivial, ?_⟩
  refine p_qt [] [(6, pB b2 0), (7, vI 10)] [] hf8 (by kernel_rfl) .nil fun a9 hf9 => ?_
  refine w_ret (by kernel_rfl) ?_
  refine r_then ?_
  refine p_ret (os := [vI 0, vI 0]) (v := .tuple #[.agg #[vI 0, vI 0], vI 10]) (obs := [.cell ⟨b2, 0, none⟩ (vI 0), .cell ⟨b2, 1, none⟩ (vI 0)]) hf9 (by kernel_rfl) (.cell (hS4.box (i := 0) rfl (j := 0) rfl) (.cell (hS4.box (i := 0) rfl (j := 1) rfl) .nil)) ?_
  obtain rfl := some_eq hr2
  exact ⟨_, rfl, z1, k1, rfl, (St.drop 2 hS4)⟩
 ·have hr3 := cond_f hb1 hr1
  refine w_skip (by kernel_rfl) ?_
  refine n_then ?_
  refine w_seq (by kernel_rfl) ?_
  refine w_mid (by kernel_rfl) (fun a w => ∃ z2 : Zone, ∃ y4 : Bool, Zone.le z1 z2 ∧ Fr a 71 [(1, vI x1), (2, vI x2), (3, pB b1 0), (6, pB b2 0), (31, .bool y4)] ∧ St z2 (box b2 [vI 0, vI 0] 41 :: box b1 [vI x0_lo, vI x0_hi] 41 :: L) w ∧ (F49_j1 fuel x0_lo x0_hi x1 x2 y4) = some r) ?_ ?_
  ·skip
   refine w_reg (by kernel_rfl) ?_
   refine p_qn 3 [] [(1, vI x1), (2, vI x2), (3, pB b1 0), (6, pB b2 0), (20, .bool (decide (x1 < (-1000000000 : Int))))] [] hf6 (by kernel_rfl) .nil fun a10 hf10 => ?_
   rcases Bool.eq_false_or_eq_true (decide (x1 < (-1000000000 : Int))) with hb2 | hb2
   ·have hr4 := cond_t hb2 hr3
    have hf11 := Fr.conv hf10 (congrArg (fun z => ([(1, vI x1), (2, vI x2), (3, pB b1 0), (6, pB b2 0), (20, .bool z)] : FL)) hb2)
    refine p_qt [] [(1, vI x1), (2, vI x2), (3, pB b1 0), (6, pB b2 0), (31, .bool true)] [] hf11 (by kernel_rfl) .nil fun a11 hf12 => ?_
    have hf13 := Fr.keep (ks := [1, 2, 3, 6, 31]) (r := [(1, vI x1), (2, vI x2), (3, pB b1 0), (6, pB b2 0), (31, .bool true)]) hf12 (by kernel_rfl)
    exact ⟨z1, true, (Zone.le_refl _), hf13, hS3, hr4⟩
   ·have hr5 := cond_f hb2 hr3
    have hf14 := Fr.conv hf10 (congrArg (fun z => ([(1, vI x1), (2, vI x2), (3, pB b1 0), (6, pB b2 0), (20, .bool z)] : FL)) hb2)
    refine p_qn 4 [] [(1, vI x1), (2, vI x2), (3, pB b1 0), (6, pB b2 0), (24, .bool (decide (x1 > (1000000000 : Int))))] [] hf14 (by kernel_rfl) .nil fun a12 hf15 => ?_
    rcases Bool.eq_false_or_eq_true (decide (x1 > (1000000000 : Int))) with hb3 | hb3
    ·have hr6 := cond_t hb3 hr5
     have hf16 := Fr.conv hf15 (congrArg (fun z => ([(1, vI x1), (2, vI x2), (3, pB b1 0), (6, pB b2 0), (24, .bool z)] : FL)) hb3)
     refine p_qt [] [(1, vI x1), (2, vI x2), (3, pB b1 0), (6, pB b2 0), (31, .bool true)] [] hf16 (by kernel_rfl) .nil fun a13 hf17 => ?_
     have hf18 := Fr.keep (ks := [1, 2, 3, 6, 31]) (r := [(1, vI x1), (2, vI x2), (3, pB b1 0), (6, pB b2 0), (31, .bool true)]) hf17 (by kernel_rfl)
     exact ⟨z1, true, (Zone.le_refl _), hf18, hS3, hr6⟩
    ·have hr7 := cond_f hb3 hr5
     have hf19 := Fr.conv hf15 (congrArg (fun z => ([(1, vI x1), (2, vI x2), (3, pB b1 0), (6, pB b2 0), (24, .bool z)] : FL)) hb3)
     refine p_qn 4 [] [(1, vI x1), (2, vI x2), (3, pB b1 0), (6, pB b2 0), (28, .bool (decide (x2 < (1 : Int))))] [] hf19 (by kernel_rfl) .nil fun a14 hf20 => ?_
     rcases Bool.eq_false_or_eq_true (decide (x2 < (1 : Int))) with hb4 | hb4
     ·have hr8 := cond_t hb4 hr7
      have hf21 := Fr.conv hf20 (congrArg (fun z => ([(1, vI x1), (2, vI x2), (3, pB b1 0), (6, pB b2 0), (28, .bool z)] : FL)) hb4)
      refine p_qt [] [(1, vI x1), (2, vI x2), (3, pB b1 0), (6, pB b2 0), (31, .bool true)] [] hf21 (by kernel_rfl) .nil fun a15 hf22 => ?_
      have hf23 := Fr.keep (ks := [1, 2, 3, 6, 31]) (r := [(1, vI x1), (2, vI x2), (3, pB b1 0), (6, pB b2 0), (31, .bool true)]) hf22 (by kernel_rfl)
      exact ⟨z1, true, (Zone.le_refl _), hf23, hS3, hr8⟩
     ·have hr9 := cond_f hb4 hr7
      have hf24 := Fr.conv hf20 (congrArg (fun z => ([(1, vI x1), (2, vI x2), (3, pB b1 0), (6, pB b2 0), (28, .bool z)] : FL)) hb4)
      refine p_qt [] [(1, vI x1), (2, vI x2), (3, pB b1 0), (6, pB b2 0), (31, .bool (decide (x2 > (1000000000 : Int))))] [] hf24 (by kernel_rfl) .nil fun a16 hf25 => ?_
      have hf26 := Fr.keep (ks := [1, 2, 3, 6, 31]) (r := [(1, vI x1), (2, vI x2), (3, pB b1 0), (6, pB b2 0), (31, .bool (decide (x2 > (1000000000 : Int))))]) hf25 (by kernel_rfl)
      exact ⟨z1, (decide (x2 > (1000000000 : Int))), (Zone.le_refl _), hf26, hS3, hr9⟩
  ·rintro a17 ww5 ⟨z2, y4, k2, hf27, hS5, hr10⟩
   refine w_if hf27 (b := y4) (by kernel_rfl) (fun hb5 => ?_) (fun hb5 => ?_)
   ·have hr11 := cond_t hb5 hr10
    refine w_sr (by kernel_rfl) ?_
    refine p_qn 1 [] [(6, pB b2 0), (32, .agg #[vI 0, vI 0])] [] hf27 (by kernel_rfl) .nil fun a18 hf28 => ?_
    refine p_store_eq (i := 1) (j := 0) (b := b2) (off := 0) (vs := [vI 0, vI 0]) (cs' := [vI 0, vI 0]) hS5 hf28 rfl (by kernel_rfl) (by kernel_rfl) rfl fun ww6 a19 hS6 hf29 => ⟨fun _ => trivial, ?_⟩
    refine p_qt [] [(6, pB b2 0), (7, vI 1)] [] hf29 (by kernel_rfl) .nil fun a20 hf30 => ?_
    refine w_ret (by kernel_rfl) ?_
    refine r_then ?_
    refine p_ret (os := [vI 0, vI 0]) (v := .tuple #[.agg #[vI 0, vI 0], vI 1]) (obs := [.cell ⟨b2, 0, none⟩ (vI 0), .cell ⟨b2, 1, none⟩ (vI 0)]) hf30 (by kernel_rfl) (.cell (hS6.box (i := 0) rfl (j := 0) rfl) (.cell (hS6.box (i := 0) rfl (j := 1) rfl) .nil)) ?_
    obtain rfl := some_eq hr11
    exact ⟨_, rfl, z2, (Zone.le_trans k1 k2), rfl, (St.drop 2 hS6)⟩
   ·have hr12 := cond_f hb5 hr10
    refine w_skip (by kernel_rfl) ?_
    refine n_then ?_
    refine w_sq [vI x0_lo] [(1, vI x1), (2, vI x2), (3, pB b1 0), (6, pB b2 0), (8, vI x0_lo)] [.cell ⟨b1, 0, none⟩ (vI x0_lo)] hf27 (by kernel_rfl) (.cell (hS5.box (i := 1) rfl (j := 0) rfl) .nil) fun a21 hf31 => ?_
    refine w_sq [vI x0_hi] [(1, vI x1), (2, vI x2), (3, pB b1 0), (6, pB b2 0), (8, vI x0_lo), (9, vI x0_hi)] [.cell ⟨b1, 1, none⟩ (vI x0_hi)] hf31 (by kernel_rfl) (.cell (hS5.box (i := 1) rfl (j := 1) rfl) .nil) fun a22 hf32 => ?_
    refine w_mid (by kernel_rfl) (fun a w => ∃ z3 : Zone, ∃ y2 : Int, ∃ y3 : Int, Zone.le z2 z3 ∧ Fr a 71 [(1, vI x1), (2, vI x2), (6, pB b2 0), (8, vI y2), (9, vI y3)] ∧ St z3 (box b2 [vI 0, vI 0] 41 :: box b1 [vI x0_lo, vI x0_hi] 41 :: L) w ∧ (F49_j2 fuel x1 x2 y2 y3) = some r) ?_ ?_
    ·skip
     refine w_sq [] [(1, vI x1), (2, vI x2), (3, pB b1 0), (6, pB b2 0), (8, vI x0_lo), (9, vI x0_hi), (38, .bool (decide (x1 < (0 : Int))))] [] hf32 (by kernel_rfl) .nil fun a23 hf33 => ?_
     refine w_if hf33 (b := (decide (x1 < (0 : Int)))) (by kernel_rfl) (fun hb6 => ?_) (fun hb6 => ?_)
     ·have hr13 := cond_t hb6 hr12
      refine w_sq [vI x0_hi] [(1, vI x1), (2, vI x2), (3, pB b1 0), (6, pB b2 0), (8, vI x0_hi)] [.cell ⟨b1, 1, none⟩ (vI x0_hi)] hf33 (by kernel_rfl) (.cell (hS5.box (i := 1) rfl (j := 1) rfl) .nil) fun a24 hf34 => ?_
      refine w_q [vI x0_lo] [(1, vI x1), (2, vI x2), (6, pB b2 0), (8, vI x0_hi), (9, vI x0_lo)] [.cell ⟨b1, 0, none⟩ (vI x0_lo)] hf34 (by kernel_rfl) (.cell (hS5.box (i := 1) rfl (j := 0) rfl) .nil) fun a25 hf35 => ?_
      refine n_then ?_
      have hf36 := Fr.keep (ks := [1, 2, 6, 8, 9]) (r := [(1, vI x1), (2, vI x2), (6, pB b2 0), (8, vI x0_hi), (9, vI x0_lo)]) hf35 (by kernel_rfl)
      exact ⟨z2, x0_hi, x0_lo, (Zone.le_refl _), hf36, hS5, hr13⟩
     ·have hr14 := cond_f hb6 hr12
      refine w_skip (by kernel_rfl) ?_
      refine n_then ?_
      have hf37 := Fr.keep (ks := [1, 2, 6, 8, 9]) (r := [(1, vI x1), (2, vI x2), (6, pB b2 0), (8, vI x0_lo), (9, vI x0_hi)]) hf33 (by kernel_rfl)
      exact ⟨z2, x0_lo, x0_hi, (Zone.le_refl _), hf37, hS5, hr14⟩
    ·rintro a26 ww7 ⟨z3, y2, y3, k3, hf38, hS7, hr15⟩
     refine w_sr (by kernel_rfl) ?_
     refine p_qn 3 [] [(1, vI x1), (2, vI x2), (6, pB b2 0), (9, vI y3), (44, vI y2), (45, vI x1), (46, vI x2)] [] hf38 (by kernel_rfl) .nil fun a27 hf39 => ?_
     obtain ⟨r1, hd2, hr16⟩ := bind_some hr15
     refine p_call (i := 3) (d := some 47) (f := 109) (args := #[vI y2, vI x1, vI x2]) hf39 (by kernel_rfl) (f109_ok fuel y2 x1 x2 r1 hd2 z3 _ _ hS7 ) ?_
     rintro v2 ww8 a28 ⟨z4, k4, rfl, hS8⟩ hf40
     refine ⟨fun _ => trivial, ?_⟩
     refine p_qt [] [(1, vI x1), (2, vI x2), (6, pB b2 0), (9, vI y3), (10, vI r1.1), (11, .bool r1.2)] [] hf40 (by kernel_rfl) .nil fun a29 hf41 => ?_
     refine w_sr (by kernel_rfl) ?_
     refine p_qn 4 [] [(6, pB b2 0), (10, vI r1.1), (11, .bool r1.2), (52, vI (w64 (0 - y3))), (53, vI x1), (54, vI x2)] [] hf41 (by kernel_rfl) .nil fun a30 hf42 => ?_
     obtain ⟨r2, hd3, hr17⟩ := bind_some hr16
     refine p_call (i := 4) (d := some 55) (f := 109) (args := #[vI (w64 (0 - y3)), vI x1, vI x2]) hf42 (by kernel_rfl) (f109_ok fuel (w64 (0 - y3)) x1 x2 r2 hd3 z4 _ _ hS8 ) ?_
     rintro v3 ww9 a31 ⟨z5, k5, rfl, hS9⟩ hf43
     refine ⟨fun _ => trivial, ?_⟩
     refine p_qt [] [(6, pB b2 0), (10, vI r1.1), (11, .bool r1.2), (12, vI r2.1), (13, .bool r2.2)] [] hf43 (by kernel_rfl) .nil fun a32 hf44 => ?_
     refine w_seq (by kernel_rfl) ?_
     refine w_mid (by kernel_rfl) (fun a w => ∃ z6 : Zone, ∃ y1 : Bool, Zone.le z5 z6 ∧ Fr a 71 [(6, pB b2 0), (10, vI r1.1), (12, vI r2.1), (63, .bool y1)] ∧ St z6 (box b2 [vI 0, vI 0] 41 :: box b1 [vI x0_lo, vI x0_hi] 41 :: L) w ∧ (F49_j3 fuel r1 r2 y1) = some r) ?_ ?_
     ·skip
      refine w_reg (by kernel_rfl) ?_
      refine p_qn 3 [] [(6, pB b2 0), (10, vI r1.1), (12, vI r2.1), (13, .bool r2.2), (60, .bool (!r1.2))] [] hf44 (by kernel_rfl) .nil fun a33 hf45 => ?_
      rcases Bool.eq_false_or_eq_true (!r1.2) with hb7 | hb7
      ·have hr18 := cond_t hb7 hr17
       have hf46 := Fr.conv hf45 (congrArg (fun z => ([(6, pB b2 0), (10, vI r1.1), (12, vI r2.1), (13, .bool r2.2), (60, .bool z)] : FL)) hb7)
       refine p_qt [] [(6, pB b2 0), (10, vI r1.1), (12, vI r2.1), (63, .bool true)] [] hf46 (by kernel_rfl) .nil fun a34 hf47 => ?_
       have hf48 := Fr.keep (ks := [6, 10, 12, 63]) (r := [(6, pB b2 0), (10, vI r1.1), (12, vI r2.1), (63, .bool true)]) hf47 (by kernel_rfl)
       exact ⟨z5, true, (Zone.le_refl _), hf48, hS9, hr18⟩
      ·have hr19 := cond_f hb7 hr17
       have hf49 := Fr.conv hf45 (congrArg (fun z => ([(6, pB b2 0), (10, vI r1.1), (12, vI r2.1), (13, .bool r2.2), (60, .bool z)] : FL)) hb7)
       refine p_qt [] [(6, pB b2 0), (10, vI r1.1), (12, vI r2.1), (63, .bool (!r2.2))] [] hf49 (by kernel_rfl) .nil fun a35 hf50 => ?_
       have hf51 := Fr.keep (ks := [6, 10, 12, 63]) (r := [(6, pB b2 0), (10, vI r1.1), (12, vI r2.1), (63, .bool (!r2.2))]) hf50 (by kernel_rfl)
       exact ⟨z5, (!r2.2), (Zone.le_refl _), hf51, hS9, hr19⟩
     ·rintro a36 ww10 ⟨z6, y1, k6, hf52, hS10, hr20⟩
      refine w_if hf52 (b := y1) (by kernel_rfl) (fun hb8 => ?_) (fun hb8 => ?_)
      ·have hr21 := cond_t hb8 hr20
       refine w_sr (by kernel_rfl) ?_
       refine p_qn 1 [] [(6, pB b2 0), (64, .agg #[vI 0, vI 0])] [] hf52 (by kernel_rfl) .nil fun a37 hf53 => ?_
       refine p_store_eq (i := 1) (j := 0) (b := b2) (off := 0) (vs := [vI 0, vI 0]) (cs' := [vI 0, vI 0]) hS10 hf53 rfl (by kernel_rfl) (by kernel_rfl) rfl fun ww11 a38 hS11 hf54 => ⟨fun _ => trivial, ?_⟩
       refine p_qt [] [(6, pB b2 0), (7, vI 5)] [] hf54 (by kernel_rfl) .nil fun a39 hf55 => ?_
       refine w_ret (by kernel_rfl) ?_
       refine r_then ?_
       refine p_ret (os := [vI 0, vI 0]) (v := .tuple #[.agg #[vI 0, vI 0], vI 5]) (obs := [.cell ⟨b2, 0, none⟩ (vI 0), .cell ⟨b2, 1, none⟩ (vI 0)]) hf55 (by kernel_rfl) (.cell (hS11.box (i := 0) rfl (j := 0) rfl) (.cell (hS11.box (i := 0) rfl (j := 1) rfl) .nil)) ?_
       obtain rfl := some_eq hr21
       exact ⟨_, rfl, z6, (Zone.le_trans (Zone.le_trans (Zone.le_trans (Zone.le_trans (Zone.le_trans k1 k2) k3) k4) k5) k6), rfl, (St.drop 2 hS11)⟩
      ·have hr22 := cond_f hb8 hr20
       refine w_skip (by kernel_rfl) ?_
       refine n_then ?_
       refine w_sr (by kernel_rfl) ?_
       refine p_qn 3 [] [(6, pB b2 0), (65, vI r1.1), (67, vI (w64 (0 - r2.1)))] [] hf52 (by kernel_rfl) .nil fun a40 hf56 => ?_
       obtain ⟨r3, hd4, hr23⟩ := bind_some hr22
       refine p_call (i := 3) (d := some 68) (f := 107) (args := #[vI r1.1, vI (w64 (0 - r2.1))]) hf56 (by kernel_rfl) (f107_ok fuel r1.1 (w64 (0 - r2.1)) r3 hd4 z6 _ _ hS10 ) ?_
       rintro v4 ww12 a41 ⟨z7, k7, rfl, hS12⟩ hf57
       refine ⟨fun _ => trivial, ?_⟩
       refine p_qn 2 [] [(6, pB b2 0), (69, .agg #[vI r3.1, vI r3.2.1]), (70, vI r3.2.2)] [] hf57 (by kernel_rfl) .nil fun a42 hf58 => ?_
       refine p_store_eq (i := 6) (j := 0) (b := b2) (off := 0) (vs := [vI r3.1, vI r3.2.1]) (cs' := [vI r3.1, vI r3.2.1]) hS12 hf58 rfl (by kernel_rfl) (by kernel_rfl) rfl fun ww13 a43 hS13 hf59 => ⟨fun _ => trivial, ?_⟩
       refine p_qt [] [(6, pB b2 0), (7, vI r3.2.2)] [] hf59 (by kernel_rfl) .nil fun a44 hf60 => ?_
       refine w_ret (by kernel_rfl) ?_
       refine p_ret (os := [vI r3.1, vI r3.2.1]) (v := .tuple #[.agg #[vI r3.1, vI r3.2.1], vI r3.2.2]) (obs := [.cell ⟨b2, 0, none⟩ (vI r3.1), .cell ⟨b2, 1, none⟩ (vI r3.2.1)]) hf60 (by kernel_rfl) (.cell (hS13.box (i := 0) rfl (j := 0) rfl) (.cell (hS13.box (i := 0) rfl (j := 1) rfl) .nil)) ?_
       obtain rfl := some_eq hr23
       exact ⟨_, rfl, z7, (Zone.le_trans (Zone.le_trans (Zone.le_trans (Zone.le_trans (Zone.le_trans (Zone.le_trans k1 k2) k3) k4) k5) k6) k7), rfl, (St.drop 2 hS13)⟩
def F62_j1 (k1 : (List Pt) → Bool → Int → Option (List Pt × Int)) (y1 : List Pt) (y2 : Int) (p1 : Pt) (r1 : Int × Int × Int) (y3 : Bool) : Option (List Pt × Int) :=
  ((appC y1 ([⟨p1.x, r1.1, r1.2.1⟩])).bind fun d1 => (k1 d1 y3 (w64 (y2 + (1 : Int)))))
def F62_l1 (fuel : Nat) (x0 : List Pt) (x1 : Int) (x2 : Int) : Nat → (List Pt) → Bool → Int → Option (List Pt × Int)
  | 0, _, _, _ => none
  | n1 + 1, y1, y4, y2 =>
    let k1 : (List Pt) → Bool → Int → Option (List Pt × Int) := F62_l1 fuel x0 x1 x2 n1
    (cond (decide (y2 < (x0.length : Int))) ((getI x0 y2).bind fun p1 => ((F49 fuel p1.lo p1.hi x1 x2).bind fun r1 => (cond (r1.2.2 == (1 : Int)) (some ([], r1.2.2)) (cond y4 (F62_j1 k1 y1 y2 p1 r1 true) (F62_j1 k1 y1 y2 p1 r1 (r1.2.2 != (0 : Int))))))) (cond y4 (some ([], 5)) ((F113 fuel y1).bind fun r2 => (some (r2.1, r2.2)))))
def F62 (fuel : Nat) (x0 : List Pt) (x1 : Int) (x2 : Int) : Option (List Pt × Int) :=
  ((F12 fuel x0).bind fun r3 => (cond (!r3) (some ([], 11)) (F62_l1 fuel x0 x1 x2 fuel ([]) false 0)))
set_option maxRecDepth 100000 in
theorem f62_ok (fuel : Nat) (x0 : List Pt) (x1 : Int) (x2 : Int) (r : List Pt × Int) (hr : F62 fuel x0 x1 x2 = some r) (h : Zone) (L : List Atom) (w : World) (hS : St h L w) (o_x0 : Option Addr) (c_x0 : Nat) (hx_x0 : SliceR PtT h o_x0 c_x0 x0) :
    Calls Try.prog 62 #[.agg #[.slice o_x0 x0.length c_x0], vI x1, vI x2] w fun e w' => ∃ v, e = .returned v ∧ (∃ h', ∃ o0 : Option Addr, ∃ c0 : Nat, Zone.le h h' ∧ v = .tuple #[.agg #[.slice o0 r.1.length c0], vI r.2] ∧ St h' L w' ∧ SliceR PtT h' o0 c0 r.1) := by
 refine calls_intro (N := 62) Try.func62 (by kernel_rfl) fun a hf => ?_
 refine w_sr (by kernel_rfl) ?_
 refine p_box (i := 0) (d := (some 3)) (cs := [.slice o_x0 x0.length c_x0]) (T := 24) (v := fun b1 => pB b1 0) hS hf (fun b => by kernel_rfl) fun b1 ww1 a1 hS1 hf1 => ⟨fun _ => trivial, ?_⟩
 refine p_box (i := 1) (d := (some 6)) (cs := [.slice none 0 0]) (T := 24) (v := fun b2 => pB b2 0) hS1 hf1 (fun b => by kernel_rfl) fun b2 ww2 a2 hS2 hf2 => ⟨fun _ => trivial, ?_⟩
 refine p_qt [] [(1, vI x1), (2, vI x2), (3, pB b1 0), (6, pB b2 0)] [] hf2 (by kernel_rfl) .nil fun a3 hf3 => ?_
 refine w_seq (by kernel_rfl) ?_
 refine w_sr (by kernel_rfl) ?_
 refine p_qn 1 [.slice o_x0 x0.length c_x0] [(1, vI x1), (2, vI x2), (3, pB b1 0), (6, pB b2 0), (14, .agg #[.slice o_x0 x0.length c_x0])] [.cell ⟨b1, 0, none⟩ (.slice o_x0 x0.length c_x0)] hf3 (by kernel_rfl) (.cell (hS2.box (i := 1) rfl (j := 0) rfl) .nil) fun a4 hf4 => ?_
 obtain ⟨r3, hd1, hr1⟩ := bind_some hr
 refine p_call (i := 1) (d := some 15) (f := 12) (args := #[.agg #[.slice o_x0 x0.length c_x0]]) hf4 (by kernel_rfl) (f12_ok fuel x0 r3 hd1 h _ _ hS2 o_x0 c_x0 hx_x0) ?_
 rintro v1 ww3 a5 ⟨z1, k2, rfl, hS3⟩ hf5
 refine ⟨fun _ => trivial, ?_⟩
 refine p_qt [] [(1, vI x1), (2, vI x2), (3, pB b1 0), (6, pB b2 0), (16, .bool (!r3))] [] hf5 (by kernel_rfl) .nil fun a6 hf6 => ?_
 refine w_if hf6 (b := (!r3)) (by kernel_rfl) (fun hb1 => ?_) (fun hb1 => ?_)
 ·have hr2 := cond_t hb1 hr1
  refine w_sr (by kernel_rfl) ?_
  refine p_qn 1 [] [(6, pB b2 0), (17, .agg #[.slice none 0 0])] [] hf6 (by kernel_rfl) .nil fun a7 hf7 => ?_
  refine p_store_eq (i := 1) (j := 0) (b := b2) (off := 0) (vs := [.slice none 0 0]) (cs' := [.slice none 0 0]) hS3 hf7 rfl (by kernel_rfl) (by kernel_rfl) rfl fun ww4 a8 hS4 hf8 => ⟨fun _ => trivial, ?_⟩
  refine p_qt [] [(6, pB b2 0), (7, vI 11)] [] hf8 (by kernel_rfl) .nil fun a9 hf9 => ?_
  refine w_ret (by kernel_rfl) ?_
  refine r_then ?_
  refine p_ret (os := [.slice none 0 0]) (v := .tuple #[.agg #[.slice none 0 0], vI 11]) (obs := [.cell ⟨b2, 0, none⟩ (.slice none 0 0)]) hf9 (by kernel_rfl) (.cell (hS4.box (i := 0) rfl (j := 0) rfl) .nil) ?_
  obtain rfl := some_eq hr2
  exact ⟨_, rfl, z1, none, 0, k2, rfl, (St.drop 2 hS4), SliceR.nil' _ _⟩
 ·have hr3 := cond_f hb1 hr1
  refine w_skip (by kernel_rfl) ?_
  refine n_then ?_
  refine w_sq [] [(1, vI x1), (2, vI x2), (3, pB b1 0), (6, pB b2 0), (8, .slice none 0 0)] [] hf6 (by kernel_rfl) .nil fun a10 hf10 => ?_
  refine w_sq [] [(1, vI x1), (2, vI x2), (3, pB b1 0), (6, pB b2 0), (8, .slice none 0 0), (9, .bool false)] [] hf10 (by kernel_rfl) .nil fun a11 hf11 => ?_
  refine w_seq (by kernel_rfl) ?_
  refine w_sq [.slice o_x0 x0.length c_x0] [(1, vI x1), (2, vI x2), (6, pB b2 0), (8, .slice none 0 0), (9, .bool false), (19, .slice o_x0 x0.length c_x0), (20, vI (x0.length : Int)), (21, vI 0)] [.cell ⟨b1, 0, none⟩ (.slice o_x0 x0.length c_x0)] hf11 (by kernel_rfl) (.cell (hS3.box (i := 1) rfl (j := 0) rfl) .nil) fun a12 hf12 => ?_
  refine w_block (id := 0) (by kernel_rfl) ?_
  have hS5 := hS3.ownNil PtT 52
  have hf13 := Fr.keep (ks := [1, 2, 6, 8, 9, 19, 20, 21]) (r := [(1, vI x1), (2, vI x2), (6, pB b2 0), (8, .slice none 0 0), (9, .bool false), (19, .slice o_x0 x0.length c_x0), (20, vI (x0.length : Int)), (21, vI 0)]) hf12 (by kernel_rfl)
  refine w_loop (by kernel_rfl) (fun n a w => ∃ z2 : Zone, ∃ y1 : List Pt, ∃ y4 : Bool, ∃ y2 : Int, ∃ e1 : Option Addr, ∃ q1 : Nat, Zone.le z1 z2 ∧ Fr a 62 [(1, vI x1), (2, vI x2), (6, pB b2 0), (8, .slice e1 y1.length q1), (9, .bool y4), (19, .slice o_x0 x0.length c_x0), (20, vI (x0.length : Int)), (21, vI y2)] ∧ St z2 (ownS PtT 52 e1 q1 y1 :: box b2 [.slice none 0 0] 24 :: box b1 [.slice o_x0 x0.length c_x0] 24 :: L) w ∧ (F62_l1 fuel x0 x1 x2 n y1 y4 y2) = some r) fuel ⟨z1, [], false, 0, none, 0, (Zone.le_refl _), hf13, hS5, hr3⟩ ?_
  rintro n2 a13 ww5 ⟨z2, y1, y4, y2, e1, q1, k3, hf14, hS6, hr4⟩
  cases n2 with
  | zero => cases hr4
  | succ n1 =>
  refine w_sq [] [(1, vI x1), (2, vI x2), (6, pB b2 0), (8, .slice e1 y1.length q1), (9, .bool y4), (19, .slice o_x0 x0.length c_x0), (20, vI (x0.length : Int)), (21, vI y2), (22, .bool (decide (y2 < (x0.length : Int))))] [] hf14 (by kernel_rfl) .nil fun a14 hf15 => ?_
  refine w_seq (by kernel_rfl) ?_
  refine w_if hf15 (b := (decide (y2 < (x0.length : Int)))) (by kernel_rfl) (fun hb2 => ?_) (fun hb2 => ?_)
  ·have hr5 := cond_t hb2 hr4
   refine w_skip (by kernel_rfl) ?_
   refine n_then ?_
   refine w_seq (by kernel_rfl) ?_
   refine w_block (id := 1) (by kernel_rfl) ?_
   refine w_sr (by kernel_rfl) ?_
   obtain ⟨p1, hp2445, hr6⟩ := bind_some hr5
   obtain ⟨ad1, ho1, hb3, cc1, hc1, hk1⟩ := SliceR.getI (SliceR.mono (Zone.le_trans k2 k3) hx_x0) hp2445
   subst hc1
   refine p_qn 2 [.pointer (some ad1), vI p1.x, vI p1.lo, vI p1.hi] [(1, vI x1), (2, vI x2), (6, pB b2 0), (8, .slice e1 y1.length q1), (9, .bool y4), (19, .slice o_x0 x0.length c_x0), (20, vI (x0.length : Int)), (21, vI y2), (24, .agg #[vI p1.x, vI p1.lo, vI p1.hi])] [.prop (o_x0 = some ad1), .prop (0 ≤ y2 ∧ y2 < (x0.length : Nat)), .cell ((ad1.add (Int.toNat y2 * 3)).add 0) (vI p1.x), .cell ((ad1.add (Int.toNat y2 * 3)).add 1) (vI p1.lo), .cell ((ad1.add (Int.toNat y2 * 3)).add 2) (vI p1.hi)] hf15 (by kernel_rfl) (.prop ho1 (.prop hb3 (.cell (hS6.cell (hk1 0 _ rfl)) (.cell (hS6.cell (hk1 1 _ rfl)) (.cell (hS6.cell (hk1 2 _ rfl)) .nil))))) fun a15 hf16 => ?_
   refine p_box (i := 2) (d := (some 11)) (cs := [vI 0, vI 0, vI 0]) (T := 52) (v := fun b3 => pB b3 0) hS6 hf16 (fun b => by kernel_rfl) fun b3 ww6 a16 hS7 hf17 => ⟨fun _ => trivial, ?_⟩
   refine p_store_eq (i := 3) (j := 0) (b := b3) (off := 0) (vs := [vI p1.x, vI p1.lo, vI p1.hi]) (cs' := [vI p1.x, vI p1.lo, vI p1.hi]) hS7 hf17 rfl (by kernel_rfl) (by kernel_rfl) rfl fun ww7 a17 hS8 hf18 => ⟨fun _ => trivial, ?_⟩
   refine p_dt (by kernel_rfl) ?_
   refine w_sr (by kernel_rfl) ?_
   refine p_qn 7 [vI p1.lo, vI p1.hi] [(1, vI x1), (2, vI x2), (6, pB b2 0), (8, .slice e1 y1.length q1), (9, .bool y4), (11, pB b3 0), (19, .slice o_x0 x0.length c_x0), (20, vI (x0.length : Int)), (21, vI y2), (30, .agg #[vI p1.lo, vI p1.hi]), (31, vI x1), (32, vI x2)] [.cell ⟨b3, 1, none⟩ (vI p1.lo), .cell ⟨b3, 2, none⟩ (vI p1.hi)] hf18 (by kernel_rfl) (.cell (hS8.box (i := 0) rfl (j := 1) rfl) (.cell (hS8.box (i := 0) rfl (j := 2) rfl) .nil)) fun a18 hf19 => ?_
   obtain ⟨r1, hd2, hr7⟩ := bind_some hr6
   refine p_call (i := 7) (d := some 33) (f := 49) (args := #[.agg #[vI p1.lo, vI p1.hi], vI x1, vI x2]) hf19 (by kernel_rfl) (f49_ok fuel p1.lo p1.hi x1 x2 r1 hd2 z2 _ _ hS8 ) ?_
   rintro v2 ww8 a19 ⟨z3, k4, rfl, hS9⟩ hf20
   refine ⟨fun _ => trivial, ?_⟩
   refine p_qn 3 [] [(1, vI x1), (2, vI x2), (6, pB b2 0), (8, .slice e1 y1.length q1), (9, .bool y4), (11, pB b3 0), (19, .slice o_x0 x0.length c_x0), (20, vI (x0.length : Int)), (21, vI y2), (34, .agg #[vI r1.1, vI r1.2.1]), (35, vI r1.2.2)] [] hf20 (by kernel_rfl) .nil fun a20 hf21 => ?_
   refine p_box (i := 11) (d := (some 12)) (cs := [vI 0, vI 0]) (T := 41) (v := fun b4 => pB b4 0) hS9 hf21 (fun b => by kernel_rfl) fun b4 ww9 a21 hS10 hf22 => ⟨fun _ => trivial, ?_⟩
   refine p_store_eq (i := 12) (j := 0) (b := b4) (off := 0) (vs := [vI r1.1, vI r1.2.1]) (cs' := [vI r1.1, vI r1.2.1]) hS10 hf22 rfl (by kernel_rfl) (by kernel_rfl) rfl fun ww10 a22 hS11 hf23 => ⟨fun _ => trivial, ?_⟩
   refine p_qt [] [(1, vI x1), (2, vI x2), (6, pB b2 0), (8, .slice e1 y1.length q1), (9, .bool y4), (11, pB b3 0), (12, pB b4 0), (13, vI r1.2.2), (19, .slice o_x0 x0.length c_x0), (20, vI (x0.length : Int)), (21, vI y2)] [] hf23 (by kernel_rfl) .nil fun a23 hf24 => ?_
   refine w_seq (by kernel_rfl) ?_
   refine w_sq [] [(1, vI x1), (2, vI x2), (6, pB b2 0), (8, .slice e1 y1.length q1), (9, .bool y4), (11, pB b3 0), (12, pB b4 0), (13, vI r1.2.2), (19, .slice o_x0 x0.length c_x0), (20, vI (x0.length : Int)), (21, vI y2), (37, .bool (r1.2.2 == (1 : Int)))] [] hf24 (by kernel_rfl) .nil fun a24 hf25 => ?_
   refine w_if hf25 (b := (r1.2.2 == (1 : Int))) (by kernel_rfl) (fun hb4 => ?_) (fun hb4 => ?_)
   ·have hr8 := cond_t hb4 hr7
    refine w_sr (by kernel_rfl) ?_
    refine p_qn 2 [] [(6, pB b2 0), (38, .agg #[.slice none 0 0]), (39, vI r1.2.2)] [] hf25 (by kernel_rfl) .nil fun a25 hf26 => ?_
    refine p_store_eq (i := 2) (j := 3) (b := b2) (off := 0) (vs := [.slice none 0 0]) (cs' := [.slice none 0 0]) hS11 hf26 rfl (by kernel_rfl) (by kernel_rfl) rfl fun ww11 a26 hS12 hf27 => ⟨fun _ => trivial, ?_⟩
    refine p_qt [] [(6, pB b2 0), (7, vI r1.2.2)] [] hf27 (by kernel_rfl) .nil fun a27 hf28 => ?_
    refine w_ret (by kernel_rfl) ?_
    refine r_then ?_
    refine r_block ?_
    refine r_then ?_
    refine r_then ?_
    refine r_block ?_
    refine r_then ?_
    refine p_ret (os := [.slice none 0 0]) (v := .tuple #[.agg #[.slice none 0 0], vI r1.2.2]) (obs := [.cell ⟨b2, 0, none⟩ (.slice none 0 0)]) hf28 (by kernel_rfl) (.cell (hS12.box (i := 3) rfl (j := 0) rfl) .nil) ?_
    obtain rfl := some_eq hr8
    exact ⟨_, rfl, z3, none, 0, (Zone.le_trans (Zone.le_trans k2 k3) k4), rfl, (St.drop 5 hS12), SliceR.nil' _ _⟩
   ·have hr9 := cond_f hb4 hr7
    refine w_skip (by kernel_rfl) ?_
    refine n_then ?_
    refine w_mid (by kernel_rfl) (fun a w => ∃ z4 : Zone, ∃ y3 : Bool, Zone.le z3 z4 ∧ Fr a 62 [(1, vI x1), (2, vI x2), (6, pB b2 0), (8, .slice e1 y1.length q1), (9, .bool y3), (11, pB b3 0), (12, pB b4 0), (19, .slice o_x0 x0.length c_x0), (20, vI (x0.length : Int)), (21, vI y2)] ∧ St z4 (box b4 [vI r1.1, vI r1.2.1] 41 :: box b3 [vI p1.x, vI p1.lo, vI p1.hi] 52 :: ownS PtT 52 e1 q1 y1 :: box b2 [.slice none 0 0] 24 :: box b1 [.slice o_x0 x0.length c_x0] 24 :: L) w ∧ (F62_j1 (F62_l1 fuel x0 x1 x2 n1) y1 y2 p1 r1 y3) = some r) ?_ ?_
    ·skip
     refine w_reg (by kernel_rfl) ?_
     refine p_qn 2 [] [(1, vI x1), (2, vI x2), (6, pB b2 0), (8, .slice e1 y1.length q1), (11, pB b3 0), (12, pB b4 0), (13, vI r1.2.2), (19, .slice o_x0 x0.length c_x0), (20, vI (x0.length : Int)), (21, vI y2), (41, .bool y4)] [] hf25 (by kernel_rfl) .nil fun a28 hf29 => ?_
     rcases Bool.eq_false_or_eq_true y4 with hb5 | hb5
     ·have hr10 := cond_t hb5 hr9
      have hf30 := Fr.conv hf29 (congrArg (fun z => ([(1, vI x1), (2, vI x2), (6, pB b2 0), (8, .slice e1 y1.length q1), (11, pB b3 0), (12, pB b4 0), (13, vI r1.2.2), (19, .slice o_x0 x0.length c_x0), (20, vI (x0.length : Int)), (21, vI y2), (41, .bool z)] : FL)) hb5)
      refine p_qt [] [(1, vI x1), (2, vI x2), (6, pB b2 0), (8, .slice e1 y1.length q1), (9, .bool true), (11, pB b3 0), (12, pB b4 0), (19, .slice o_x0 x0.length c_x0), (20, vI (x0.length : Int)), (21, vI y2), (42, undef), (43, undef)] [] hf30 (by kernel_rfl) .nil fun a29 hf31 => ?_
      have hf32 := Fr.keep (ks := [1, 2, 6, 8, 9, 11, 12, 19, 20, 21]) (r := [(1, vI x1), (2, vI x2), (6, pB b2 0), (8, .slice e1 y1.length q1), (9, .bool true), (11, pB b3 0), (12, pB b4 0), (19, .slice o_x0 x0.length c_x0), (20, vI (x0.length : Int)), (21, vI y2)]) hf31 (by kernel_rfl)
      exact ⟨z3, true, (Zone.le_refl _), hf32, hS11, hr10⟩
     ·have hr11 := cond_f hb5 hr9
      have hf33 := Fr.conv hf29 (congrArg (fun z => ([(1, vI x1), (2, vI x2), (6, pB b2 0), (8, .slice e1 y1.length q1), (11, pB b3 0), (12, pB b4 0), (13, vI r1.2.2), (19, .slice o_x0 x0.length c_x0), (20, vI (x0.length : Int)), (21, vI y2), (41, .bool z)] : FL)) hb5)
      refine p_qt [] [(1, vI x1), (2, vI x2), (6, pB b2 0), (8, .slice e1 y1.length q1), (9, .bool (r1.2.2 != (0 : Int))), (11, pB b3 0), (12, pB b4 0), (19, .slice o_x0 x0.length c_x0), (20, vI (x0.length : Int)), (21, vI y2), (42, vI r1.2.2), (43, .bool (r1.2.2 != (0 : Int)))] [] hf33 (by kernel_rfl) .nil fun a30 hf34 => ?_
      have hf35 := Fr.keep (ks := [1, 2, 6, 8, 9, 11, 12, 19, 20, 21]) (r := [(1, vI x1), (2, vI x2), (6, pB b2 0), (8, .slice e1 y1.length q1), (9, .bool (r1.2.2 != (0 : Int))), (11, pB b3 0), (12, pB b4 0), (19, .slice o_x0 x0.length c_x0), (20, vI (x0.length : Int)), (21, vI y2)]) hf34 (by kernel_rfl)
      exact ⟨z3, (r1.2.2 != (0 : Int)), (Zone.le_refl _), hf35, hS11, hr11⟩
    ·rintro a31 ww12 ⟨z4, y3, k5, hf36, hS13, hr12⟩
     refine w_reg (by kernel_rfl) ?_
     refine p_qn 8 [vI p1.x, vI r1.1, vI r1.2.1] [(1, vI x1), (2, vI x2), (6, pB b2 0), (9, .bool y3), (19, .slice o_x0 x0.length c_x0), (20, vI (x0.length : Int)), (21, vI y2), (45, .slice e1 y1.length q1), (52, .agg #[vI p1.x, vI r1.1, vI r1.2.1])] [.cell ⟨b3, 0, none⟩ (vI p1.x), .cell ⟨b4, 0, none⟩ (vI r1.1), .cell ⟨b4, 1, none⟩ (vI r1.2.1)] hf36 (by kernel_rfl) (.cell (hS13.box (i := 1) rfl (j := 0) rfl) (.cell (hS13.box (i := 0) rfl (j := 0) rfl) (.cell (hS13.box (i := 0) rfl (j := 1) rfl) .nil))) fun a32 hf37 => ?_
     refine p_box (i := 8) (d := (some 53)) (cs := [vI p1.x, vI r1.1, vI r1.2.1]) (T := 52) (v := fun b5 => .slice (some ⟨b5, 0, none⟩) 1 1) hS13 hf37 (fun b => by kernel_rfl) fun b5 ww13 a33 hS14 hf38 => ⟨fun _ => trivial, ?_⟩
     have hS15 := hS14.ownBox (T := PtT) (E := 52) (n := 1) (xs := [⟨p1.x, r1.1, r1.2.1⟩]) (i := 0) rfl (Rows.cons (c := [vI p1.x, vI r1.1, vI r1.2.1]) rfl rfl) rfl (by decide)
     obtain ⟨d1, hd3, hr13⟩ := bind_some hr12
     refine p_append (T := PtT) (i := 9) (j := 3) (d := some 54) (o2 := (some ⟨b5, 0, none⟩)) (c2 := 1) (ys := ([⟨p1.x, r1.1, r1.2.1⟩])) el22 hS15 hf38 rfl (by kernel_rfl) (hS15.ownSrc (j := 0) rfl) hd3 fun e2 q2 ww14 a34 hS16 hf39 => ⟨fun _ => trivial, ?_⟩
     refine p_qz [] [(1, vI x1), (2, vI x2), (6, pB b2 0), (8, .slice e2 d1.length q2), (9, .bool y3), (19, .slice o_x0 x0.length c_x0), (20, vI (x0.length : Int)), (21, vI y2)] [] hf39 (by kernel_rfl) .nil fun a35 hf40 => ?_
     refine n_block ?_
     refine n_then ?_
     refine w_q [] [(1, vI x1), (2, vI x2), (6, pB b2 0), (8, .slice e2 d1.length q2), (9, .bool y3), (19, .slice o_x0 x0.length c_x0), (20, vI (x0.length : Int)), (21, vI (w64 (y2 + (1 : Int))))] [] hf40 (by kernel_rfl) .nil fun a36 hf41 => ?_
     refine n_then ?_
     have hf42 := Fr.keep (ks := [1, 2, 6, 8, 9, 19, 20, 21]) (r := [(1, vI x1), (2, vI x2), (6, pB b2 0), (8, .slice e2 d1.length q2), (9, .bool y3), (19, .slice o_x0 x0.length c_x0), (20, vI (x0.length : Int)), (21, vI (w64 (y2 + (1 : Int))))]) hf41 (by kernel_rfl)
     exact ⟨n1, Nat.lt_succ_self n1, z4, d1, y3, (w64 (y2 + (1 : Int))), e2, q2, (Zone.le_trans (Zone.le_trans k3 k4) k5), hf42, (St.drop 3 hS16), hr13⟩
  ·have hr14 := cond_f hb2 hr4
   refine w_exit (id := 0) (by kernel_rfl) ?_
   refine x_then ?_
   refine x_then ?_
   refine x_block ?_
   refine n_then ?_
   refine w_seq (by kernel_rfl) ?_
   refine w_sq [] [(6, pB b2 0), (8, .slice e1 y1.length q1), (56, .bool y4)] [] hf15 (by kernel_rfl) .nil fun a37 hf43 => ?_
   refine w_if hf43 (b := y4) (by kernel_rfl) (fun hb6 => ?_) (fun hb6 => ?_)
   ·have hr15 := cond_t hb6 hr14
    refine w_sr (by kernel_rfl) ?_
    refine p_qn 1 [] [(6, pB b2 0), (57, .agg #[.slice none 0 0])] [] hf43 (by kernel_rfl) .nil fun a38 hf44 => ?_
    refine p_store_eq (i := 1) (j := 1) (b := b2) (off := 0) (vs := [.slice none 0 0]) (cs' := [.slice none 0 0]) hS6 hf44 rfl (by kernel_rfl) (by kernel_rfl) rfl fun ww15 a39 hS17 hf45 => ⟨fun _ => trivial, ?_⟩
    refine p_qt [] [(6, pB b2 0), (7, vI 5)] [] hf45 (by kernel_rfl) .nil fun a40 hf46 => ?_
    refine w_ret (by kernel_rfl) ?_
    refine r_then ?_
    refine p_ret (os := [.slice none 0 0]) (v := .tuple #[.agg #[.slice none 0 0], vI 5]) (obs := [.cell ⟨b2, 0, none⟩ (.slice none 0 0)]) hf46 (by kernel_rfl) (.cell (hS17.box (i := 1) rfl (j := 0) rfl) .nil) ?_
    obtain rfl := some_eq hr15
    exact ⟨_, rfl, z2, none, 0, (Zone.le_trans k2 k3), rfl, (St.drop 3 hS17), SliceR.nil' _ _⟩
   ·have hr16 := cond_f hb6 hr14
    refine w_skip (by kernel_rfl) ?_
    refine n_then ?_
    refine w_sr (by kernel_rfl) ?_
    refine p_qn 1 [] [(6, pB b2 0), (58, .slice e1 y1.length q1)] [] hf43 (by kernel_rfl) .nil fun a41 hf47 => ?_
    obtain ⟨z5, k6, hS18, hx1⟩ := hS6.share (j := 0) rfl
    obtain ⟨r2, hd4, hr17⟩ := bind_some hr16
    refine p_call (i := 1) (d := some 59) (f := 113) (args := #[.slice e1 y1.length q1]) hf47 (by kernel_rfl) (f113_ok fuel y1 r2 hd4 z5 _ _ hS18 e1 q1 hx1) ?_
    rintro v3 ww16 a42 ⟨z6, e3, q3, k7, rfl, hS19, hx2⟩ hf48
    refine ⟨fun _ => trivial, ?_⟩
    refine p_qn 2 [] [(6, pB b2 0), (60, .agg #[.slice e3 r2.1.length q3]), (61, vI r2.2)] [] hf48 (by kernel_rfl) .nil fun a43 hf49 => ?_
    refine p_store_eq (i := 4) (j := 1) (b := b2) (off := 0) (vs := [.slice e3 r2.1.length q3]) (cs' := [.slice e3 r2.1.length q3]) hS19 hf49 rfl (by kernel_rfl) (by kernel_rfl) rfl fun ww17 a44 hS20 hf50 => ⟨fun _ => trivial, ?_⟩
    refine p_qt [] [(6, pB b2 0), (7, vI r2.2)] [] hf50 (by kernel_rfl) .nil fun a45 hf51 => ?_
    refine w_ret (by kernel_rfl) ?_
    refine p_ret (os := [.slice e3 r2.1.length q3]) (v := .tuple #[.agg #[.slice e3 r2.1.length q3], vI r2.2]) (obs := [.cell ⟨b2, 0, none⟩ (.slice e3 r2.1.length q3)]) hf51 (by kernel_rfl) (.cell (hS20.box (i := 1) rfl (j := 0) rfl) .nil) ?_
    obtain rfl := some_eq hr17
    exact ⟨_, rfl, z6, e3, q3, (Zone.le_trans (Zone.le_trans (Zone.le_trans k2 k3) k6) k7), rfl, (St.drop 3 hS20), hx2⟩
def F9_j1 (y1 : Bool) : Option (Bool) :=
  (some (y1))
def F9 (fuel : Nat) (x0 : List Pt) (x1 : List Pt) (y2 : Int) (y3 : Int) : Option (Bool) :=
  ((F57 fuel x0 x1).bind fun r1 => ((F58 fuel x0 x1).bind fun r2 => ((F59 fuel x0 x1).bind fun r3 => ((F60 fuel x0 x1).bind fun r4 => ((F61 fuel x0 y2 y3).bind fun r5 => ((F62 fuel x0 y2 y3).bind fun r6 => ((F63 fuel r1.1 r2.1).bind fun r7 => (cond r7 (cond (r1.2 == r2.2) ((F63 fuel r3.1 r4.1).bind fun r8 => (cond r8 (cond (r3.2 == r4.2) ((F63 fuel r5.1 r6.1).bind fun r9 => (cond r9 (cond (r5.2 == r6.2) ((F13 fuel ).bind fun r10 => (F9_j1 r10)) (F9_j1 false)) (F9_j1 false))) (F9_j1 false)) (F9_j1 false))) (F9_j1 false)) (F9_j1 false)))))))))
set_option maxRecDepth 100000 in
theorem f9_ok (fuel : Nat) (x0 : List Pt) (x1 : List Pt) (y2 : Int) (y3 : Int) (r : Bool) (hr : F9 fuel x0 x1 y2 y3 = some r) (h : Zone) (L : List Atom) (w : World) (hS : St h L w) (o_x0 : Option Addr) (c_x0 : Nat) (hx_x0 : SliceR PtT h o_x0 c_x0 x0) (o_x1 : Option Addr) (c_x1 : Nat) (hx_x1 : SliceR PtT h o_x1 c_x1 x1) :
    Calls Try.prog 9 #[.agg #[.slice o_x0 x0.length c_x0], .agg #[.slice o_x1 x1.length c_x1], .agg #[vI y2, vI y3]] w fun e w' => ∃ v, e = .returned v ∧ (∃ h', Zone.le h h' ∧ v = .bool r ∧ St h' L w') := by
 refine calls_intro (N := 92) Try.func9 (by kernel_rfl) fun a hf => ?_
 refine w_sr (by kernel_rfl) ?_
 refine p_box (i := 0) (d := (some 3)) (cs := [.slice o_x0 x0.length c_x0]) (T := 24) (v := fun b1 => pB b1 0) hS hf (fun b => by kernel_rfl) fun b1 ww1 a1 hS1 hf1 => ⟨fun _ => trivial, ?_⟩
 refine p_box (i := 1) (d := (some 4)) (cs := [.slice o_x1 x1.length c_x1]) (T := 24) (v := fun b2 => pB b2 0) hS1 hf1 (fun b => by kernel_rfl) fun b2 ww2 a2 hS2 hf2 => ⟨fun _ => trivial, ?_⟩
 refine p_box (i := 2) (d := (some 5)) (cs := [vI y2, vI y3]) (T := 42) (v := fun b3 => pB b3 0) hS2 hf2 (fun b => by kernel_rfl) fun b3 ww3 a3 hS3 hf3 => ⟨fun _ => trivial, ?_⟩
 refine p_qt [] [(3, pB b1 0), (4, pB b2 0), (5, pB b3 0)] [] hf3 (by kernel_rfl) .nil fun a4 hf4 => ?_
 refine w_sr (by kernel_rfl) ?_
 refine p_qn 2 [.slice o_x0 x0.length c_x0, .slice o_x1 x1.length c_x1] [(3, pB b1 0), (4, pB b2 0), (5, pB b3 0), (20, .agg #[.slice o_x0 x0.length c_x0]), (21, .agg #[.slice o_x1 x1.length c_x1])] [.cell ⟨b1, 0, none⟩ (.slice o_x0 x0.length c_x0), .cell ⟨b2, 0, none⟩ (.slice o_x1 x1.length c_x1)] hf4 (by kernel_rfl) (.cell (hS3.box (i := 2) rfl (j := 0) rfl) (.cell (hS3.box (i := 1) rfl (j := 0) rfl) .nil)) fun a5 hf5 => ?_
 obtain ⟨r1, hd1, hr1⟩ := bind_some hr
 refine p_call (i := 2) (d := some 22) (f := 57) (args := #[.agg #[.slice o_x0 x0.length c_x0], .agg #[.slice o_x1 x1.length c_x1]]) hf5 (by kernel_rfl) (f57_ok fuel x0 x1 r1 hd1 h _ _ hS3 o_x0 c_x0 hx_x0 o_x1 c_x1 hx_x1) ?_
 rintro v1 ww4 a6 ⟨z1, e1, q1, k1, rfl, hS4, hx1⟩ hf6
 refine ⟨fun _ => trivial, ?_⟩
 refine p_qn 3 [] [(3, pB b1 0), (4, pB b2 0), (5, pB b3 0), (23, .agg #[.slice e1 r1.1.length q1]), (24, vI r1.2)] [] hf6 (by kernel_rfl) .nil fun a7 hf7 => ?_
 refine p_box (i := 6) (d := (some 7)) (cs := [.slice none 0 0]) (T := 24) (v := fun b4 => pB b4 0) hS4 hf7 (fun b => by kernel_rfl) fun b4 ww5 a8 hS5 hf8 => ⟨fun _ => trivial, ?_⟩
 refine p_store_eq (i := 7) (j := 0) (b := b4) (off := 0) (vs := [.slice e1 r1.1.length q1]) (cs' := [.slice e1 r1.1.length q1]) hS5 hf8 rfl (by kernel_rfl) (by kernel_rfl) rfl fun ww6 a9 hS6 hf9 => ⟨fun _ => trivial, ?_⟩
 refine p_qt [] [(3, pB b1 0), (4, pB b2 0), (5, pB b3 0), (7, pB b4 0), (8, vI r1.2)] [] hf9 (by kernel_rfl) .nil fun a10 hf10 => ?_
 refine w_sr (by kernel_rfl) ?_
 refine p_qn 2 [.slice o_x0 x0.length c_x0, .slice o_x1 x1.length c_x1] [(3, pB b1 0), (4, pB b2 0), (5, pB b3 0), (7, pB b4 0), (8, vI r1.2), (26, .agg #[.slice o_x0 x0.length c_x0]), (27, .agg #[.slice o_x1 x1.length c_x1])] [.cell ⟨b1, 0, none⟩ (.slice o_x0 x0.length c_x0), .cell ⟨b2, 0, none⟩ (.slice o_x1 x1.length c_x1)] hf10 (by kernel_rfl) (.cell (hS6.box (i := 3) rfl (j := 0) rfl) (.cell (hS6.box (i := 2) rfl (j := 0) rfl) .nil)) fun a11 hf11 => ?_
 obtain ⟨r2, hd2, hr2⟩ := bind_some hr1
 refine p_call (i := 2) (d := some 28) (f := 58) (args := #[.agg #[.slice o_x0 x0.length c_x0], .agg #[.slice o_x1 x1.length c_x1]]) hf11 (by kernel_rfl) (f58_ok fuel x0 x1 r2 hd2 z1 _ _ hS6 o_x0 c_x0 (SliceR.mono k1 hx_x0) o_x1 c_x1 (SliceR.mono k1 hx_x1)) ?_
 rintro v2 ww7 a12 ⟨z2, e2, q2, k2, rfl, hS7, hx2⟩ hf12
 refine ⟨fun _ => trivial, ?_⟩
 refine p_qn 3 [] [(3, pB b1 0), (4, pB b2 0), (5, pB b3 0), (7, pB b4 0), (8, vI r1.2), (29, .agg #[.slice e2 r2.1.length q2]), (30, vI r2.2)] [] hf12 (by kernel_rfl) .nil fun a13 hf13 => ?_
 refine p_box (i := 6) (d := (some 9)) (cs := [.slice none 0 0]) (T := 24) (v := fun b5 => pB b5 0) hS7 hf13 (fun b => by kernel_rfl) fun b5 ww8 a14 hS8 hf14 => ⟨fun _ => trivial, ?_⟩
 refine p_store_eq (i := 7) (j := 0) (b := b5) (off := 0) (vs := [.slice e2 r2.1.length q2]) (cs' := [.slice e2 r2.1.length q2]) hS8 hf14 rfl (by kernel_rfl) (by kernel_rfl) rfl fun ww9 a15 hS9 hf15 => ⟨fun _ => trivial, ?_⟩
 refine p_qt [] [(3, pB b1 0), (4, pB b2 0), (5, pB b3 0), (7, pB b4 0), (8, vI r1.2), (9, pB b5 0), (10, vI r2.2)] [] hf15 (by kernel_rfl) .nil fun a16 hf16 => ?_
 refine w_sr (by kernel_rfl) ?_
 refine p_qn 2 [.slice o_x0 x0.length c_x0, .slice o_x1 x1.length c_x1] [(3, pB b1 0), (4, pB b2 0), (5, pB b3 0), (7, pB b4 0), (8, vI r1.2), (9, pB b5 0), (10, vI r2.2), (32, .agg #[.slice o_x0 x0.length c_x0]), (33, .agg #[.slice o_x1 x1.length c_x1])] [.cell ⟨b1, 0, none⟩ (.slice o_x0 x0.length c_x0), .cell ⟨b2, 0, none⟩ (.slice o_x1 x1.length c_x1)] hf16 (by kernel_rfl) (.cell (hS9.box (i := 4) rfl (j := 0) rfl) (.cell (hS9.box (i := 3) rfl (j := 0) rfl) .nil)) fun a17 hf17 => ?_
 obtain ⟨r3, hd3, hr3⟩ := bind_some hr2
 refine p_call (i := 2) (d := some 34) (f := 59) (args := #[.agg #[.slice o_x0 x0.length c_x0], .agg #[.slice o_x1 x1.length c_x1]]) hf17 (by kernel_rfl) (f59_ok fuel x0 x1 r3 hd3 z2 _ _ hS9 o_x0 c_x0 (SliceR.mono (Zone.le_trans k1 k2) hx_x0) o_x1 c_x1 (SliceR.mono (Zone.le_trans k1 k2) hx_x1)) ?_
 rintro v3 ww10 a18 ⟨z3, e3, q3, k3, rfl, hS10, hx3⟩ hf18
 refine ⟨fun _ => trivial, ?_⟩
 refine p_qn 3 [] [(3, pB b1 0), (4, pB b2 0), (5, pB b3 0), (7, pB b4 0), (8, vI r1.2), (9, pB b5 0), (10, vI r2.2), (35, .agg #[.slice e3 r3.1.length q3]), (36, vI r3.2)] [] hf18 (by kernel_rfl) .nil fun a19 hf19 => ?_
 refine p_box (i := 6) (d := (some 11)) (cs := [.slice none 0 0]) (T := 24) (v := fun b6 => pB b6 0) hS10 hf19 (fun b => by kernel_rfl) fun b6 ww11 a20 hS11 hf20 => ⟨fun _ => trivial, ?_⟩
 refine p_store_eq (i := 7) (j := 0) (b := b6) (off := 0) (vs := [.slice e3 r3.1.length q3]) (cs' := [.slice e3 r3.1.length q3]) hS11 hf20 rfl (by kernel_rfl) (by kernel_rfl) rfl fun ww12 a21 hS12 hf21 => ⟨fun _ => trivial, ?_⟩
 refine p_qt [] [(3, pB b1 0), (4, pB b2 0), (5, pB b3 0), (7, pB b4 0), (8, vI r1.2), (9, pB b5 0), (10, vI r2.2), (11, pB b6 0), (12, vI r3.2)] [] hf21 (by kernel_rfl) .nil fun a22 hf22 => ?_
 refine w_sr (by kernel_rfl) ?_
 refine p_qn 2 [.slice o_x0 x0.length c_x0, .slice o_x1 x1.length c_x1] [(3, pB b1 0), (5, pB b3 0), (7, pB b4 0), (8, vI r1.2), (9, pB b5 0), (10, vI r2.2), (11, pB b6 0), (12, vI r3.2), (38, .agg #[.slice o_x0 x0.length c_x0]), (39, .agg #[.slice o_x1 x1.length c_x1])] [.cell ⟨b1, 0, none⟩ (.slice o_x0 x0.length c_x0), .cell ⟨b2, 0, none⟩ (.slice o_x1 x1.length c_x1)] hf22 (by kernel_rfl) (.cell (hS12.box (i := 5) rfl (j := 0) rfl) (.cell (hS12.box (i := 4) rfl (j := 0) rfl) .nil)) fun a23 hf23 => ?_
 obtain ⟨r4, hd4, hr4⟩ := bind_some hr3
 refine p_call (i := 2) (d := some 40) (f := 60) (args := #[.agg #[.slice o_x0 x0.length c_x0], .agg #[.slice o_x1 x1.length c_x1]]) hf23 (by kernel_rfl) (f60_ok fuel x0 x1 r4 hd4 z3 _ _ hS12 o_x0 c_x0 (SliceR.mono (Zone.le_trans (Zone.le_trans k1 k2) k3) hx_x0) o_x1 c_x1 (SliceR.mono (Zone.le_trans (Zone.le_trans k1 k2) k3) hx_x1)) ?_
 rintro v4 ww13 a24 ⟨z4, e4, q4, k4, rfl, hS13, hx4⟩ hf24
 refine ⟨fun _ => trivial, ?_⟩
 refine p_qn 3 [] [(3, pB b1 0), (5, pB b3 0), (7, pB b4 0), (8, vI r1.2), (9, pB b5 0), (10, vI r2.2), (11, pB b6 0), (12, vI r3.2), (41, .agg #[.slice e4 r4.1.length q4]), (42, vI r4.2)] [] hf24 (by kernel_rfl) .nil fun a25 hf25 => ?_
 refine p_box (i := 6) (d := (some 13)) (cs := [.slice none 0 0]) (T := 24) (v := fun b7 => pB b7 0) hS13 hf25 (fun b => by kernel_rfl) fun b7 ww14 a26 hS14 hf26 => ⟨fun _ => trivial, ?_⟩
 refine p_store_eq (i := 7) (j := 0) (b := b7) (off := 0) (vs := [.slice e4 r4.1.length q4]) (cs' := [.slice e4 r4.1.length q4]) hS14 hf26 rfl (by kernel_rfl) (by kernel_rfl) rfl fun ww15 a27 hS15 hf27 => ⟨fun _ => trivial, ?_⟩
 refine p_qt [] [(3, pB b1 0), (5, pB b3 0), (7, pB b4 0), (8, vI r1.2), (9, pB b5 0), (10, vI r2.2), (11, pB b6 0), (12, vI r3.2), (13, pB b7 0), (14, vI r4.2)] [] hf27 (by kernel_rfl) .nil fun a28 hf28 => ?_
 refine w_sr (by kernel_rfl) ?_
 refine p_qn 5 [.slice o_x0 x0.length c_x0, vI y2, vI y3] [(3, pB b1 0), (5, pB b3 0), (7, pB b4 0), (8, vI r1.2), (9, pB b5 0), (10, vI r2.2), (11, pB b6 0), (12, vI r3.2), (13, pB b7 0), (14, vI r4.2), (44, .agg #[.slice o_x0 x0.length c_x0]), (46, vI y2), (48, vI y3)] [.cell ⟨b1, 0, none⟩ (.slice o_x0 x0.length c_x0), .prop ((0 : Int) ≤ 0 ∧ (0 : Int) < (2 : Nat)), .cell ⟨b3, 0, none⟩ (vI y2), .prop ((0 : Int) ≤ 1 ∧ (1 : Int) < (2 : Nat)), .cell ⟨b3, 1, none⟩ (vI y3)] hf28 (by kernel_rfl) (.cell (hS15.box (i := 6) rfl (j := 0) rfl) (.prop (by decide) (.cell (hS15.box (i := 4) rfl (j := 0) rfl) (.prop (by decide) (.cell (hS15.box (i := 4) rfl (j := 1) rfl) .nil))))) fun a29 hf29 => ?_
 obtain ⟨r5, hd5, hr5⟩ := bind_some hr4
 refine p_call (i := 5) (d := some 49) (f := 61) (args := #[.agg #[.slice o_x0 x0.length c_x0], vI y2, vI y3]) hf29 (by kernel_rfl) (f61_ok fuel x0 y2 y3 r5 hd5 z4 _ _ hS15 o_x0 c_x0 (SliceR.mono (Zone.le_trans (Zone.le_trans (Zone.le_trans k1 k2) k3) k4) hx_x0)) ?_
 rintro v5 ww16 a30 ⟨z5, e5, q5, k5, rfl, hS16, hx5⟩ hf30
 refine ⟨fun _ => trivial, ?_⟩
 refine p_qn 3 [] [(3, pB b1 0), (5, pB b3 0), (7, pB b4 0), (8, vI r1.2), (9, pB b5 0), (10, vI r2.2), (11, pB b6 0), (12, vI r3.2), (13, pB b7 0), (14, vI r4.2), (50, .agg #[.slice e5 r5.1.length q5]), (51, vI r5.2)] [] hf30 (by kernel_rfl) .nil fun a31 hf31 => ?_
 refine p_box (i := 9) (d := (some 15)) (cs := [.slice none 0 0]) (T := 24) (v := fun b8 => pB b8 0) hS16 hf31 (fun b => by kernel_rfl) fun b8 ww17 a32 hS17 hf32 => ⟨fun _ => trivial, ?_⟩
 refine p_store_eq (i := 10) (j := 0) (b := b8) (off := 0) (vs := [.slice e5 r5.1.length q5]) (cs' := [.slice e5 r5.1.length q5]) hS17 hf32 rfl (by kernel_rfl) (by kernel_rfl) rfl fun ww18 a33 hS18 hf33 => ⟨fun _ => trivial, ?_⟩
 refine p_qt [] [(3, pB b1 0), (5, pB b3 0), (7, pB b4 0), (8, vI r1.2), (9, pB b5 0), (10, vI r2.2), (11, pB b6 0), (12, vI r3.2), (13, pB b7 0), (14, vI r4.2), (15, pB b8 0), (16, vI r5.2)] [] hf33 (by kernel_rfl) .nil fun a34 hf34 => ?_
 refine w_sr (by kernel_rfl) ?_
 refine p_qn 5 [.slice o_x0 x0.length c_x0, vI y2, vI y3] [(7, pB b4 0), (8, vI r1.2), (9, pB b5 0), (10, vI r2.2), (11, pB b6 0), (12, vI r3.2), (13, pB b7 0), (14, vI r4.2), (15, pB b8 0), (16, vI r5.2), (53, .agg #[.slice o_x0 x0.length c_x0]), (55, vI y2), (57, vI y3)] [.cell ⟨b1, 0, none⟩ (.slice o_x0 x0.length c_x0), .prop ((0 : Int) ≤ 0 ∧ (0 : Int) < (2 : Nat)), .cell ⟨b3, 0, none⟩ (vI y2), .prop ((0 : Int) ≤ 1 ∧ (1 : Int) < (2 : Nat)), .cell ⟨b3, 1, none⟩ (vI y3)] hf34 (by kernel_rfl) (.cell (hS18.box (i := 7) rfl (j := 0) rfl) (.prop (by decide) (.cell (hS18.box (i := 5) rfl (j := 0) rfl) (.prop (by decide) (.cell (hS18.box (i := 5) rfl (j := 1) rfl) .nil))))) fun a35 hf35 => ?_
 obtain ⟨r6, hd6, hr6⟩ := bind_some hr5
 refine p_call (i := 5) (d := some 58) (f := 62) (args := #[.agg #[.slice o_x0 x0.length c_x0], vI y2, vI y3]) hf35 (by kernel_rfl) (f62_ok fuel x0 y2 y3 r6 hd6 z5 _ _ hS18 o_x0 c_x0 (SliceR.mono (Zone.le_trans (Zone.le_trans (Zone.le_trans (Zone.le_trans k1 k2) k3) k4) k5) hx_x0)) ?_
 rintro v6 ww19 a36 ⟨z6, e6, q6, k6, rfl, hS19, hx6⟩ hf36
 refine ⟨fun _ => trivial, ?_⟩
 refine p_qn 3 [] [(7, pB b4 0), (8, vI r1.2), (9, pB b5 0), (10, vI r2.2), (11, pB b6 0), (12, vI r3.2), (13, pB b7 0), (14, vI r4.2), (15, pB b8 0), (16, vI r5.2), (59, .agg #[.slice e6 r6.1.length q6]), (60, vI r6.2)] [] hf36 (by kernel_rfl) .nil fun a37 hf37 => ?_
 refine p_box (i := 9) (d := (some 17)) (cs := [.slice none 0 0]) (T := 24) (v := fun b9 => pB b9 0) hS19 hf37 (fun b => by kernel_rfl) fun b9 ww20 a38 hS20 hf38 => ⟨fun _ => trivial, ?_⟩
 refine p_store_eq (i := 10) (j := 0) (b := b9) (off := 0) (vs := [.slice e6 r6.1.length q6]) (cs' := [.slice e6 r6.1.length q6]) hS20 hf38 rfl (by kernel_rfl) (by kernel_rfl) rfl fun ww21 a39 hS21 hf39 => ⟨fun _ => trivial, ?_⟩
 refine p_qt [] [(7, pB b4 0), (8, vI r1.2), (9, pB b5 0), (10, vI r2.2), (11, pB b6 0), (12, vI r3.2), (13, pB b7 0), (14, vI r4.2), (15, pB b8 0), (16, vI r5.2), (17, pB b9 0), (18, vI r6.2)] [] hf39 (by kernel_rfl) .nil fun a40 hf40 => ?_
 refine w_mid (by kernel_rfl) (fun a w => ∃ z7 : Zone, ∃ y1 : Bool, Zone.le z6 z7 ∧ Fr a 92 [(6, .bool y1)] ∧ St z7 (box b9 [.slice e6 r6.1.length q6] 24 :: box b8 [.slice e5 r5.1.length q5] 24 :: box b7 [.slice e4 r4.1.length q4] 24 :: box b6 [.slice e3 r3.1.length q3] 24 :: box b5 [.slice e2 r2.1.length q2] 24 :: box b4 [.slice e1 r1.1.length q1] 24 :: box b3 [vI y2, vI y3] 42 :: box b2 [.slice o_x1 x1.length c_x1] 24 :: box b1 [.slice o_x0 x0.length c_x0] 24 :: L) w ∧ (F9_j1 y1) = some r) ?_ ?_
 ·skip
  refine w_reg (by kernel_rfl) ?_
  refine p_qn 2 [.slice e1 r1.1.length q1, .slice e2 r2.1.length q2] [(8, vI r1.2), (10, vI r2.2), (11, pB b6 0), (12, vI r3.2), (13, pB b7 0), (14, vI r4.2), (15, pB b8 0), (16, vI r5.2), (17, pB b9 0), (18, vI r6.2), (61, .agg #[.slice e1 r1.1.length q1]), (62, .agg #[.slice e2 r2.1.length q2])] [.cell ⟨b4, 0, none⟩ (.slice e1 r1.1.length q1), .cell ⟨b5, 0, none⟩ (.slice e2 r2.1.length q2)] hf40 (by kernel_rfl) (.cell (hS21.box (i := 5) rfl (j := 0) rfl) (.cell (hS21.box (i := 4) rfl (j := 0) rfl) .nil)) fun a41 hf41 => ?_
  obtain ⟨r7, hd7, hr7⟩ := bind_some hr6
  refine p_call (i := 2) (d := some 63) (f := 63) (args := #[.agg #[.slice e1 r1.1.length q1], .agg #[.slice e2 r2.1.length q2]]) hf41 (by kernel_rfl) (f63_ok fuel r1.1 r2.1 r7 hd7 z6 _ _ hS21 e1 q1 (SliceR.mono (Zone.le_trans (Zone.le_trans (Zone.le_trans (Zone.le_trans k2 k3) k4) k5) k6) hx1) e2 q2 (SliceR.mono (Zone.le_trans (Zone.le_trans (Zone.le_trans k3 k4) k5) k6) hx2)) ?_
  rintro v7 ww22 a42 ⟨z8, k7, rfl, hS22⟩ hf42
  refine ⟨fun _ => trivial, ?_⟩
  refine p_qn 1 [] [(8, vI r1.2), (10, vI r2.2), (11, pB b6 0), (12, vI r3.2), (13, pB b7 0), (14, vI r4.2), (15, pB b8 0), (16, vI r5.2), (17, pB b9 0), (18, vI r6.2), (64, .bool r7)] [] hf42 (by kernel_rfl) .nil fun a43 hf43 => ?_
  rcases Bool.eq_false_or_eq_true r7 with hb1 | hb1
  ·have hr8 := cond_t hb1 hr7
   have hf44 := Fr.conv hf43 (congrArg (fun z => ([(8, vI r1.2), (10, vI r2.2), (11, pB b6 0), (12, vI r3.2), (13, pB b7 0), (14, vI r4.2), (15, pB b8 0), (16, vI r5.2), (17, pB b9 0), (18, vI r6.2), (64, .bool z)] : FL)) hb1)
   refine p_qn 5 [] [(11, pB b6 0), (12, vI r3.2), (13, pB b7 0), (14, vI r4.2), (15, pB b8 0), (16, vI r5.2), (17, pB b9 0), (18, vI r6.2), (69, .bool (r1.2 == r2.2))] [] hf44 (by kernel_rfl) .nil fun a44 hf45 => ?_
   rcases Bool.eq_false_or_eq_true (r1.2 == r2.2) with hb2 | hb2
   ·have hr9 := cond_t hb2 hr8
    have hf46 := Fr.conv hf45 (congrArg (fun z => ([(11, pB b6 0), (12, vI r3.2), (13, pB b7 0), (14, vI r4.2), (15, pB b8 0), (16, vI r5.2), (17, pB b9 0), (18, vI r6.2), (69, .bool z)] : FL)) hb2)
    refine p_qn 2 [.slice e3 r3.1.length q3, .slice e4 r4.1.length q4] [(12, vI r3.2), (14, vI r4.2), (15, pB b8 0), (16, vI r5.2), (17, pB b9 0), (18, vI r6.2), (69, .bool true), (70, .agg #[.slice e3 r3.1.length q3]), (71, .agg #[.slice e4 r4.1.length q4])] [.cell ⟨b6, 0, none⟩ (.slice e3 r3.1.length q3), .cell ⟨b7, 0, none⟩ (.slice e4 r4.1.length q4)] hf46 (by kernel_rfl) (.cell (hS22.box (i := 3) rfl (j := 0) rfl) (.cell (hS22.box (i := 2) rfl (j := 0) rfl) .nil)) fun a45 hf47 => ?_
    obtain ⟨r8, hd8, hr10⟩ := bind_some hr9
    refine p_call (i := 11) (d := some 72) (f := 63) (args := #[.agg #[.slice e3 r3.1.length q3], .agg #[.slice e4 r4.1.length q4]]) hf47 (by kernel_rfl) (f63_ok fuel r3.1 r4.1 r8 hd8 z8 _ _ hS22 e3 q3 (SliceR.mono (Zone.le_trans (Zone.le_trans (Zone.le_trans k4 k5) k6) k7) hx3) e4 q4 (SliceR.mono (Zone.le_trans (Zone.le_trans k5 k6) k7) hx4)) ?_
    rintro v8 ww23 a46 ⟨z9, k8, rfl, hS23⟩ hf48
    refine ⟨fun _ => trivial, ?_⟩
    refine p_qn 2 [] [(12, vI r3.2), (14, vI r4.2), (15, pB b8 0), (16, vI r5.2), (17, pB b9 0), (18, vI r6.2), (74, .bool r8)] [] hf48 (by kernel_rfl) .nil fun a47 hf49 => ?_
    rcases Bool.eq_false_or_eq_true r8 with hb3 | hb3
    ·have hr11 := cond_t hb3 hr10
     have hf50 := Fr.conv hf49 (congrArg (fun z => ([(12, vI r3.2), (14, vI r4.2), (15, pB b8 0), (16, vI r5.2), (17, pB b9 0), (18, vI r6.2), (74, .bool z)] : FL)) hb3)
     refine p_qn 5 [] [(15, pB b8 0), (16, vI r5.2), (17, pB b9 0), (18, vI r6.2), (79, .bool (r3.2 == r4.2))] [] hf50 (by kernel_rfl) .nil fun a48 hf51 => ?_
     rcases Bool.eq_false_or_eq_true (r3.2 == r4.2) with hb4 | hb4
     ·have hr12 := cond_t hb4 hr11
      have hf52 := Fr.conv hf51 (congrArg (fun z => ([(15, pB b8 0), (16, vI r5.2), (17, pB b9 0), (18, vI r6.2), (79, .bool z)] : FL)) hb4)
      refine p_qn 2 [.slice e5 r5.1.length q5, .slice e6 r6.1.length q6] [(16, vI r5.2), (18, vI r6.2), (79, .bool true), (80, .agg #[.slice e5 r5.1.length q5]), (81, .agg #[.slice e6 r6.1.length q6])] [.cell ⟨b8, 0, none⟩ (.slice e5 r5.1.length q5), .cell ⟨b9, 0, none⟩ (.slice e6 r6.1.length q6)] hf52 (by kernel_rfl) (.cell (hS23.box (i := 1) rfl (j := 0) rfl) (.cell (hS23.box (i := 0) rfl (j := 0) rfl) .nil)) fun a49 hf53 => ?_
      obtain ⟨r9, hd9, hr13⟩ := bind_some hr12
      refine p_call (i := 21) (d := some 82) (f := 63) (args := #[.agg #[.slice e5 r5.1.length q5], .agg #[.slice e6 r6.1.length q6]]) hf53 (by kernel_rfl) (f63_ok fuel r5.1 r6.1 r9 hd9 z9 _ _ hS23 e5 q5 (SliceR.mono (Zone.le_trans (Zone.le_trans k6 k7) k8) hx5) e6 q6 (SliceR.mono (Zone.le_trans k7 k8) hx6)) ?_
      rintro v9 ww24 a50 ⟨z10, k9, rfl, hS24⟩ hf54
      refine ⟨fun _ => trivial, ?_⟩
      refine p_qn 2 [] [(16, vI r5.2), (18, vI r6.2), (84, .bool r9)] [] hf54 (by kernel_rfl) .nil fun a51 hf55 => ?_
      rcases Bool.eq_false_or_eq_true r9 with hb5 | hb5
      ·have hr14 := cond_t hb5 hr13
       have hf56 := Fr.conv hf55 (congrArg (fun z => ([(16, vI r5.2), (18, vI r6.2), (84, .bool z)] : FL)) hb5)
       refine p_qn 5 [] [(89, .bool (r5.2 == r6.2))] [] hf56 (by kernel_rfl) .nil fun a52 hf57 => ?_
       rcases Bool.eq_false_or_eq_true (r5.2 == r6.2) with hb6 | hb6
       ·have hr15 := cond_t hb6 hr14
        have hf58 := Fr.conv hf57 (congrArg (fun z => ([(89, .bool z)] : FL)) hb6)
        obtain ⟨r10, hd10, hr16⟩ := bind_some hr15
        refine p_call (i := 29) (d := some 90) (f := 13) (args := #[]) hf58 (by kernel_rfl) (f13_ok fuel  r10 hd10 z10 _ _ hS24 ) ?_
        rintro v10 ww25 a53 ⟨z11, k10, rfl, hS25⟩ hf59
        refine ⟨fun _ => trivial, ?_⟩
        refine p_qt [] [(6, .bool r10)] [] hf59 (by kernel_rfl) .nil fun a54 hf60 => ?_
        have hf61 := Fr.keep (ks := [6]) (r := [(6, .bool r10)]) hf60 (by kernel_rfl)
        exact ⟨z11, r10, (Zone.le_trans (Zone.le_trans (Zone.le_trans k7 k8) k9) k10), hf61, hS25, hr16⟩
       ·have hr17 := cond_f hb6 hr14
        have hf62 := Fr.conv hf57 (congrArg (fun z => ([(89, .bool z)] : FL)) hb6)
        refine p_qt [] [(6, .bool false)] [] hf62 (by kernel_rfl) .nil fun a55 hf63 => ?_
        have hf64 := Fr.keep (ks := [6]) (r := [(6, .bool false)]) hf63 (by kernel_rfl)
        exact ⟨z10, false, (Zone.le_trans (Zone.le_trans k7 k8) k9), hf64, hS24, hr17⟩
      ·have hr18 := cond_f hb5 hr13
       have hf65 := Fr.conv hf55 (congrArg (fun z => ([(16, vI r5.2), (18, vI r6.2), (84, .bool z)] : FL)) hb5)
       refine p_qt [] [(6, .bool false)] [] hf65 (by kernel_rfl) .nil fun a56 hf66 => ?_
       have hf67 := Fr.keep (ks := [6]) (r := [(6, .bool false)]) hf66 (by kernel_rfl)
       exact ⟨z10, false, (Zone.le_trans (Zone.le_trans k7 k8) k9), hf67, hS24, hr18⟩
     ·have hr19 := cond_f hb4 hr11
      have hf68 := Fr.conv hf51 (congrArg (fun z => ([(15, pB b8 0), (16, vI r5.2), (17, pB b9 0), (18, vI r6.2), (79, .bool z)] : FL)) hb4)
      refine p_qt [] [(6, .bool false)] [] hf68 (by kernel_rfl) .nil fun a57 hf69 => ?_
      have hf70 := Fr.keep (ks := [6]) (r := [(6, .bool false)]) hf69 (by kernel_rfl)
      exact ⟨z9, false, (Zone.le_trans k7 k8), hf70, hS23, hr19⟩
    ·have hr20 := cond_f hb3 hr10
     have hf71 := Fr.conv hf49 (congrArg (fun z => ([(12, vI r3.2), (14, vI r4.2), (15, pB b8 0), (16, vI r5.2), (17, pB b9 0), (18, vI r6.2), (74, .bool z)] : FL)) hb3)
     refine p_qt [] [(6, .bool false)] [] hf71 (by kernel_rfl) .nil fun a58 hf72 => ?_
     have hf73 := Fr.keep (ks := [6]) (r := [(6, .bool false)]) hf72 (by kernel_rfl)
     exact ⟨z9, false, (Zone.le_trans k7 k8), hf73, hS23, hr20⟩
   ·have hr21 := cond_f hb2 hr8
    have hf74 := Fr.conv hf45 (congrArg (fun z => ([(11, pB b6 0), (12, vI r3.2), (13, pB b7 0), (14, vI r4.2), (15, pB b8 0), (16, vI r5.2), (17, pB b9 0), (18, vI r6.2), (69, .bool z)] : FL)) hb2)
    refine p_qt [] [(6, .bool false)] [] hf74 (by kernel_rfl) .nil fun a59 hf75 => ?_
    have hf76 := Fr.keep (ks := [6]) (r := [(6, .bool false)]) hf75 (by kernel_rfl)
    exact ⟨z8, false, k7, hf76, hS22, hr21⟩
  ·have hr22 := cond_f hb1 hr7
   have hf77 := Fr.conv hf43 (congrArg (fun z => ([(8, vI r1.2), (10, vI r2.2), (11, pB b6 0), (12, vI r3.2), (13, pB b7 0), (14, vI r4.2), (15, pB b8 0), (16, vI r5.2), (17, pB b9 0), (18, vI r6.2), (64, .bool z)] : FL)) hb1)
   refine p_qt [] [(6, .bool false)] [] hf77 (by kernel_rfl) .nil fun a60 hf78 => ?_
   have hf79 := Fr.keep (ks := [6]) (r := [(6, .bool false)]) hf78 (by kernel_rfl)
   exact ⟨z8, false, k7, hf79, hS22, hr22⟩
 ·rintro a61 ww26 ⟨z7, y1, k11, hf80, hS26, hr23⟩
  refine w_ret (by kernel_rfl) ?_
  refine p_ret (os := []) (v := .bool y1) (obs := []) hf80 (by kernel_rfl) .nil ?_
  obtain rfl := some_eq hr23
  exact ⟨_, rfl, z7, (Zone.le_trans (Zone.le_trans (Zone.le_trans (Zone.le_trans (Zone.le_trans (Zone.le_trans k1 k2) k3) k4) k5) k6) k11), rfl, (St.drop 9 hS26)⟩
end Go.Proofs.Ytpjmgeajajcceaa

