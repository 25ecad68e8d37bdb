/-
  The walks of functions 12, 73, 74, 14, 80, 16, 17, 23, 27, 100, 30, 31, 32, 33, 34, 6: what the code does is what a plain function computes. No condition.
-/
import Derived.Test.YtpjmgeajajcceaaSFb
set_option linter.unusedVariables false
namespace Go.Proofs.Ytpjmgeajajcceaa
open Go.Sl Go.Sx
def F12_j2 (k1 : Int → Option (Bool)) (y1 : Int) (y2 : Bool) : Option (Bool) :=
  (cond y2 (some (false)) (k1 (w64 (y1 + (1 : Int)))))
def F12_l1 (x0 : List Pt) : Nat → Int → Option (Bool)
  | 0, _ => none
  | n1 + 1, y1 =>
    let k1 : Int → Option (Bool) := F12_l1 x0 n1
    (cond (decide (y1 < (x0.length : Int))) ((getI x0 y1).bind fun p1 => (cond (decide (p1.x < (0 : Int))) (F12_j2 k1 y1 true) (cond (decide (p1.x > (1000000 : Int))) (F12_j2 k1 y1 true) (cond (decide (y1 > (0 : Int))) ((getI x0 (w64 (y1 - (1 : Int)))).bind fun p2 => (cond (decide (p2.x ≥ p1.x)) (F12_j2 k1 y1 true) (cond (decide (p1.lo < (-1000000000 : Int))) (F12_j2 k1 y1 true) (cond (decide (p1.lo > p1.hi)) (F12_j2 k1 y1 true) (F12_j2 k1 y1 (decide (p1.hi > (1000000000 : Int)))))))) (cond (decide (p1.lo < (-1000000000 : Int))) (F12_j2 k1 y1 true) (cond (decide (p1.lo > p1.hi)) (F12_j2 k1 y1 true) (F12_j2 k1 y1 (decide (p1.hi > (1000000000 : Int)))))))))) (some (true)))
def F12_j1 (fuel : Nat) (x0 : List Pt) (y3 : Bool) : Option (Bool) :=
  (cond y3 (some (false)) (F12_l1 x0 fuel 0))
def F12 (fuel : Nat) (x0 : List Pt) : Option (Bool) :=
  (cond (decide ((x0.length : Int) < (1 : Int))) (F12_j1 fuel x0 true) (F12_j1 fuel x0 (decide ((x0.length : Int) > (40 : Int)))))
set_option maxRecDepth 100000 in
theorem f12_ok (fuel : Nat) (x0 : List Pt) (r : Bool) (hr : F12 fuel x0 = some r) (h : Zone) (L : List Atom) (w : World) (hS : St h L w) (o_x0 : Option Addr) (c_x0 : Nat) (hx_x0 : SliceR PtT h o_x0 c_x0 x0) :
    Calls Try.prog 12 #[.agg #[.slice o_x0 x0.length c_x0]] w fun e w' => ∃ v, e = .returned v ∧ (∃ h', Zone.le h h' ∧ v = .bool r ∧ St h' L w') := by
 refine calls_intro (N := 65) Try.func12 (by kernel_rfl) fun a hf => ?_
 refine w_sr (by kernel_rfl) ?_
 refine p_box (i := 0) (d := (some 1)) (cs := [.slice o_x0 x0.length c_x0]) (T := 24) (v := fun b1 => pB b1 0) hS hf (fun b => by kernel_rfl) fun b1 ww1 a1 hS1 hf1 => ⟨fun _ => trivial, ?_⟩
 refine p_qt [] [(1, pB b1 0)] [] hf1 (by kernel_rfl) .nil fun a2 hf2 => ?_
 refine w_seq (by kernel_rfl) ?_
 refine w_mid (by kernel_rfl) (fun a w => ∃ z1 : Zone, ∃ y3 : Bool, Zone.le h z1 ∧ Fr a 65 [(1, pB b1 0), (14, .bool y3)] ∧ St z1 (box b1 [.slice o_x0 x0.length c_x0] 24 :: L) w ∧ (F12_j1 fuel x0 y3) = some r) ?_ ?_
 ·skip
  refine w_reg (by kernel_rfl) ?_
  refine p_qn 5 [.slice o_x0 x0.length c_x0] [(1, pB b1 0), (9, .bool (decide ((x0.length : Int) < (1 : Int))))] [.cell ⟨b1, 0, none⟩ (.slice o_x0 x0.length c_x0)] hf2 (by kernel_rfl) (.cell (hS1.box (i := 0) rfl (j := 0) rfl) .nil) fun a3 hf3 => ?_
  rcases Bool.eq_false_or_eq_true (decide ((x0.length : Int) < (1 : Int))) with hb1 | hb1
  ·have hr1 := cond_t hb1 hr
   have hf4 := Fr.conv hf3 (congrArg (fun z => ([(1, pB b1 0), (9, .bool z)] : FL)) hb1)
   refine p_qt [] [(1, pB b1 0), (14, .bool true)] [] hf4 (by kernel_rfl) .nil fun a4 hf5 => ?_
   have hf6 := Fr.keep (ks := [1, 14]) (r := [(1, pB b1 0), (14, .bool true)]) hf5 (by kernel_rfl)
   exact ⟨h, true, (Zone.le_refl _), hf6, hS1, hr1⟩
  ·have hr2 := cond_f hb1 hr
   have hf7 := Fr.conv hf3 (congrArg (fun z => ([(1, pB b1 0), (9, .bool z)] : FL)) hb1)
   refine p_qt [.slice o_x0 x0.length c_x0] [(1, pB b1 0), (14, .bool (decide ((x0.length : Int) > (40 : Int))))] [.cell ⟨b1, 0, none⟩ (.slice o_x0 x0.length c_x0)] hf7 (by kernel_rfl) (.cell (hS1.box (i := 0) rfl (j := 0) rfl) .nil) fun a5 hf8 => ?_
   have hf9 := Fr.keep (ks := [1, 14]) (r := [(1, pB b1 0), (14, .bool (decide ((x0.length : Int) > (40 : Int))))]) hf8 (by kernel_rfl)
   exact ⟨h, (decide ((x0.length : Int) > (40 : Int))), (Zone.le_refl _), hf9, hS1, hr2⟩
 ·rintro a6 ww2 ⟨z1, y3, k2, hf10, hS2, hr3⟩
  refine w_if hf10 (b := y3) (by kernel_rfl) (fun hb2 => ?_) (fun hb2 => ?_)
  ·have hr4 := cond_t hb2 hr3
   refine w_sq [] [(2, .bool false)] [] hf10 (by kernel_rfl) .nil fun a7 hf11 => ?_
   refine w_ret (by kernel_rfl) ?_
   refine r_then ?_
   refine p_ret (os := []) (v := .bool false) (obs := []) hf11 (by kernel_rfl) .nil ?_
   obtain rfl := some_eq hr4
   exact ⟨_, rfl, z1, k2, rfl, (St.drop 1 hS2)⟩
  ·have hr5 := cond_f hb2 hr3
   refine w_skip (by kernel_rfl) ?_
   refine n_then ?_
   refine w_seq (by kernel_rfl) ?_
   refine w_sq [.slice o_x0 x0.length c_x0] [(1, pB b1 0), (16, .slice o_x0 x0.length c_x0), (17, vI (x0.length : Int)), (18, vI 0)] [.cell ⟨b1, 0, none⟩ (.slice o_x0 x0.length c_x0)] hf10 (by kernel_rfl) (.cell (hS2.box (i := 0) rfl (j := 0) rfl) .nil) fun a8 hf12 => ?_
   refine w_block (id := 0) (by kernel_rfl) ?_
   have hf13 := Fr.keep (ks := [1, 16, 17, 18]) (r := [(1, pB b1 0), (16, .slice o_x0 x0.length c_x0), (17, vI (x0.length : Int)), (18, vI 0)]) hf12 (by kernel_rfl)
   refine w_loop (by kernel_rfl) (fun n a w => ∃ z2 : Zone, ∃ y1 : Int, Zone.le z1 z2 ∧ Fr a 65 [(1, pB b1 0), (16, .slice o_x0 x0.length c_x0), (17, vI (x0.length : Int)), (18, vI y1)] ∧ St z2 (box b1 [.slice o_x0 x0.length c_x0] 24 :: L) w ∧ (F12_l1 x0 n y1) = some r) fuel ⟨z1, 0, (Zone.le_refl _), hf13, hS2, hr5⟩ ?_
   rintro n2 a9 ww3 ⟨z2, y1, k3, hf14, hS3, hr6⟩
   cases n2 with
   | zero => cases hr6
   | succ n1 =>
   refine w_sq [] [(1, pB b1 0), (16, .slice o_x0 x0.length c_x0), (17, vI (x0.length : Int)), (18, vI y1), (19, .bool (decide (y1 < (x0.length : Int))))] [] hf14 (by kernel_rfl) .nil fun a10 hf15 => ?_
   refine w_seq (by kernel_rfl) ?_
   refine w_if hf15 (b := (decide (y1 < (x0.length : Int)))) (by kernel_rfl) (fun hb3 => ?_) (fun hb3 => ?_)
   ·have hr7 := cond_t hb3 hr6
    refine w_skip (by kernel_rfl) ?_
    refine n_then ?_
    refine w_seq (by kernel_rfl) ?_
    refine w_block (id := 1) (by kernel_rfl) ?_
    refine w_sr (by kernel_rfl) ?_
    obtain ⟨p1, hp2448, hr8⟩ := bind_some hr7
    obtain ⟨ad1, ho1, hb4, cc1, hc1, hk1⟩ := SliceR.getI (SliceR.mono (Zone.le_trans k2 k3) hx_x0) hp2448
    subst hc1
    refine p_qn 3 [.pointer (some ad1), vI p1.x, vI p1.lo, vI p1.hi] [(1, pB b1 0), (16, .slice o_x0 x0.length c_x0), (17, vI (x0.length : Int)), (18, vI y1), (20, vI y1), (22, .agg #[vI p1.x, vI p1.lo, vI p1.hi])] [.prop (o_x0 = some ad1), .prop (0 ≤ y1 ∧ y1 < (x0.length : Nat)), .cell ((ad1.add (Int.toNat y1 * 3)).add 0) (vI p1.x), .cell ((ad1.add (Int.toNat y1 * 3)).add 1) (vI p1.lo), .cell ((ad1.add (Int.toNat y1 * 3)).add 2) (vI p1.hi)] hf15 (by kernel_rfl) (.prop ho1 (.prop hb4 (.cell (hS3.cell (hk1 0 _ rfl)) (.cell (hS3.cell (hk1 1 _ rfl)) (.cell (hS3.cell (hk1 2 _ rfl)) .nil))))) fun a11 hf16 => ?_
    refine p_box (i := 3) (d := (some 4)) (cs := [vI 0, vI 0, vI 0]) (T := 52) (v := fun b2 => pB b2 0) hS3 hf16 (fun b => by kernel_rfl) fun b2 ww4 a12 hS4 hf17 => ⟨fun _ => trivial, ?_⟩
    refine p_qn 1 [] [(1, pB b1 0), (3, vI y1), (4, pB b2 0), (16, .slice o_x0 x0.length c_x0), (17, vI (x0.length : Int)), (18, vI y1), (22, .agg #[vI p1.x, vI p1.lo, vI p1.hi])] [] hf17 (by kernel_rfl) .nil fun a13 hf18 => ?_
    refine p_store_eq (i := 5) (j := 0) (b := b2) (off := 0) (vs := [vI p1.x, vI p1.lo, vI p1.hi]) (cs' := [vI p1.x, vI p1.lo, vI p1.hi]) hS4 hf18 rfl (by kernel_rfl) (by kernel_rfl) rfl fun ww5 a14 hS5 hf19 => ⟨fun _ => trivial, ?_⟩
    refine p_dt (by kernel_rfl) ?_
    refine w_mid (by kernel_rfl) (fun a w => ∃ z3 : Zone, ∃ y2 : Bool, Zone.le z2 z3 ∧ Fr a 65 [(1, pB b1 0), (16, .slice o_x0 x0.length c_x0), (17, vI (x0.length : Int)), (18, vI y1), (63, .bool y2)] ∧ St z3 (box b2 [vI p1.x, vI p1.lo, vI p1.hi] 52 :: box b1 [.slice o_x0 x0.length c_x0] 24 :: L) w ∧ (F12_j2 (F12_l1 x0 n1) y1 y2) = some r) ?_ ?_
    ·skip
     have hS6 := hS5.drew
     refine w_regD (by kernel_rfl) [(0, true), (1, true), (2, true), (3, true), (4, true), (5, true), (6, true), (7, true), (8, true), (9, true), (10, true), (11, true), (12, true), (13, true), (14, true), (15, true), (16, true), (17, true), (18, true), (19, true), (20, true), (21, true), (22, true), (23, true), (24, true), (25, true), (26, true), (27, true), (28, true), (29, true), (30, true), (31, true), (32, true), (33, true), (34, true), (35, true), (36, true), (37, true), (38, true), (39, true), (40, true)] [] (fun x => x = ww5.drew) (by kernel_rfl) rfl ?_
     refine p_qE 4 [vI p1.x] [(1, pB b1 0), (3, vI y1), (4, pB b2 0), (16, .slice o_x0 x0.length c_x0), (17, vI (x0.length : Int)), (18, vI y1), (26, .bool (decide (p1.x < (0 : Int))))] [.cell ⟨b2, 0, none⟩ (vI p1.x)] [] hf19 (by kernel_rfl) (.cell (hS6.box (i := 0) rfl (j := 0) rfl) .nil) .nil fun a15 hf20 => ?_
     rcases Bool.eq_false_or_eq_true (decide (p1.x < (0 : Int))) with hb5 | hb5
     ·have hr9 := cond_t hb5 hr8
      have hf21 := Fr.conv hf20 (congrArg (fun z => ([(1, pB b1 0), (3, vI y1), (4, pB b2 0), (16, .slice o_x0 x0.length c_x0), (17, vI (x0.length : Int)), (18, vI y1), (26, .bool z)] : FL)) hb5)
      refine p_qtE [] [(1, pB b1 0), (16, .slice o_x0 x0.length c_x0), (17, vI (x0.length : Int)), (18, vI y1), (27, undef), (28, undef), (29, undef), (32, undef), (33, undef), (34, undef), (35, undef), (36, undef), (37, undef), (38, undef), (39, undef), (40, undef), (41, undef), (42, undef), (43, undef), (44, undef), (45, undef), (48, undef), (49, undef), (50, undef), (53, undef), (54, undef), (55, undef), (56, undef), (57, undef), (60, undef), (61, undef), (62, undef), (63, .bool true)] [] [] hf21 (by kernel_rfl) .nil .nil fun a16 hf22 => ?_
      have hf23 := Fr.keep (ks := [1, 16, 17, 18, 63]) (r := [(1, pB b1 0), (16, .slice o_x0 x0.length c_x0), (17, vI (x0.length : Int)), (18, vI y1), (63, .bool true)]) hf22 (by kernel_rfl)
      exact ⟨z2, true, (Zone.le_refl _), hf23, hS6, hr9⟩
     ·have hr10 := cond_f hb5 hr8
      have hf24 := Fr.conv hf20 (congrArg (fun z => ([(1, pB b1 0), (3, vI y1), (4, pB b2 0), (16, .slice o_x0 x0.length c_x0), (17, vI (x0.length : Int)), (18, vI y1), (26, .bool z)] : FL)) hb5)
      refine p_qE 5 [vI p1.x] [(1, pB b1 0), (3, vI y1), (4, pB b2 0), (16, .slice o_x0 x0.length c_x0), (17, vI (x0.length : Int)), (18, vI y1), (27, pB b2 0), (28, vI p1.x), (29, .bool (decide (p1.x > (1000000 : Int)))), (31, .bool (decide (p1.x > (1000000 : Int))))] [.cell ⟨b2, 0, none⟩ (vI p1.x)] [] hf24 (by kernel_rfl) (.cell (hS6.box (i := 0) rfl (j := 0) rfl) .nil) .nil fun a17 hf25 => ?_
      rcases Bool.eq_false_or_eq_true (decide (p1.x > (1000000 : Int))) with hb6 | hb6
      ·have hr11 := cond_t hb6 hr10
       have hf26 := Fr.conv hf25 (congrArg (fun z => ([(1, pB b1 0), (3, vI y1), (4, pB b2 0), (16, .slice o_x0 x0.length c_x0), (17, vI (x0.length : Int)), (18, vI y1), (27, pB b2 0), (28, vI p1.x), (29, .bool (decide (p1.x > (1000000 : Int)))), (31, .bool z)] : FL)) hb6)
       refine p_qtE [] [(1, pB b1 0), (16, .slice o_x0 x0.length c_x0), (17, vI (x0.length : Int)), (18, vI y1), (27, pB b2 0), (28, vI p1.x), (29, .bool (decide (p1.x > (1000000 : Int)))), (32, undef), (33, undef), (34, undef), (35, undef), (36, undef), (37, undef), (38, undef), (39, undef), (40, undef), (41, undef), (42, undef), (43, undef), (44, undef), (45, undef), (48, undef), (49, undef), (50, undef), (53, undef), (54, undef), (55, undef), (56, undef), (57, undef), (60, undef), (61, undef), (62, undef), (63, .bool true)] [] [] hf26 (by kernel_rfl) .nil .nil fun a18 hf27 => ?_
       have hf28 := Fr.keep (ks := [1, 16, 17, 18, 63]) (r := [(1, pB b1 0), (16, .slice o_x0 x0.length c_x0), (17, vI (x0.length : Int)), (18, vI y1), (63, .bool true)]) hf27 (by kernel_rfl)
       exact ⟨z2, true, (Zone.le_refl _), hf28, hS6, hr11⟩
      ·have hr12 := cond_f hb6 hr10
       have hf29 := Fr.conv hf25 (congrArg (fun z => ([(1, pB b1 0), (3, vI y1), (4, pB b2 0), (16, .slice o_x0 x0.length c_x0), (17, vI (x0.length : Int)), (18, vI y1), (27, pB b2 0), (28, vI p1.x), (29, .bool (decide (p1.x > (1000000 : Int)))), (31, .bool z)] : FL)) hb6)
       refine p_qE 3 [] [(1, pB b1 0), (3, vI y1), (4, pB b2 0), (16, .slice o_x0 x0.length c_x0), (17, vI (x0.length : Int)), (18, vI y1), (27, pB b2 0), (28, vI p1.x), (29, .bool (decide (p1.x > (1000000 : Int)))), (31, .bool false), (32, vI y1), (33, .bool (decide (y1 > (0 : Int)))), (34, .bool (decide (y1 > (0 : Int))))] [] [] hf29 (by kernel_rfl) .nil .nil fun a19 hf30 => ?_
       rcases Bool.eq_false_or_eq_true (decide (y1 > (0 : Int))) with hb7 | hb7
       ·have hr13 := cond_t hb7 hr12
        have hf31 := Fr.conv hf30 (congrArg (fun z => ([(1, pB b1 0), (3, vI y1), (4, pB b2 0), (16, .slice o_x0 x0.length c_x0), (17, vI (x0.length : Int)), (18, vI y1), (27, pB b2 0), (28, vI p1.x), (29, .bool (decide (p1.x > (1000000 : Int)))), (31, .bool false), (32, vI y1), (33, .bool (decide (y1 > (0 : Int)))), (34, .bool z)] : FL)) hb7)
        obtain ⟨p2, hp2672, hr14⟩ := bind_some hr13
        obtain ⟨ad2, ho2, hb8, cc2, hc2, hk2⟩ := SliceR.getI (SliceR.mono (Zone.le_trans k2 k3) hx_x0) hp2672
        subst hc2
        refine p_qE 13 [.slice o_x0 x0.length c_x0, .pointer (some ad2), vI p2.x, vI p1.x] [(1, pB b1 0), (4, pB b2 0), (16, .slice o_x0 x0.length c_x0), (17, vI (x0.length : Int)), (18, vI y1), (27, pB b2 0), (28, vI p1.x), (29, .bool (decide (p1.x > (1000000 : Int)))), (32, vI y1), (33, .bool (decide (y1 > (0 : Int)))), (34, .bool true), (35, pB b1 0), (36, .slice o_x0 x0.length c_x0), (37, vI y1), (38, vI (w64 (y1 - (1 : Int)))), (39, .pointer (some (ad2.add (Int.toNat (w64 (y1 - (1 : Int))) * 3)))), (40, .pointer (some (ad2.add (Int.toNat (w64 (y1 - (1 : Int))) * 3)))), (41, vI p2.x), (42, pB b2 0), (43, vI p1.x), (44, .bool (decide (p2.x ≥ p1.x))), (45, .bool (decide (p2.x ≥ p1.x))), (47, .bool (decide (p2.x ≥ p1.x)))] [.cell ⟨b1, 0, none⟩ (.slice o_x0 x0.length c_x0), .prop (o_x0 = some ad2), .prop (0 ≤ (w64 (y1 - (1 : Int))) ∧ (w64 (y1 - (1 : Int))) < (x0.length : Nat)), .cell ((ad2.add (Int.toNat (w64 (y1 - (1 : Int))) * 3)).add 0) (vI p2.x), .cell ⟨b2, 0, none⟩ (vI p1.x)] [] hf31 (by kernel_rfl) (.cell (hS6.box (i := 1) rfl (j := 0) rfl) (.prop ho2 (.prop hb8 (.cell (hS6.cell (hk2 0 _ rfl)) (.cell (hS6.box (i := 0) rfl (j := 0) rfl) .nil))))) .nil fun a20 hf32 => ?_
        rcases Bool.eq_false_or_eq_true (decide (p2.x ≥ p1.x)) with hb9 | hb9
        ·have hr15 := cond_t hb9 hr14
         have hf33 := Fr.conv hf32 (congrArg (fun z => ([(1, pB b1 0), (4, pB b2 0), (16, .slice o_x0 x0.length c_x0), (17, vI (x0.length : Int)), (18, vI y1), (27, pB b2 0), (28, vI p1.x), (29, .bool (decide (p1.x > (1000000 : Int)))), (32, vI y1), (33, .bool (decide (y1 > (0 : Int)))), (34, .bool true), (35, pB b1 0), (36, .slice o_x0 x0.length c_x0), (37, vI y1), (38, vI (w64 (y1 - (1 : Int)))), (39, .pointer (some (ad2.add (Int.toNat (w64 (y1 - (1 : Int))) * 3)))), (40, .pointer (some (ad2.add (Int.toNat (w64 (y1 - (1 : Int))) * 3)))), (41, vI p2.x), (42, pB b2 0), (43, vI p1.x), (44, .bool (decide (p2.x ≥ p1.x))), (45, .bool (decide (p2.x ≥ p1.x))), (47, .bool z)] : FL)) hb9)
         refine p_qtE [] [(1, pB b1 0), (16, .slice o_x0 x0.length c_x0), (17, vI (x0.length : Int)), (18, vI y1), (27, pB b2 0), (28, vI p1.x), (29, .bool (decide (p1.x > (1000000 : Int)))), (32, vI y1), (33, .bool (decide (y1 > (0 : Int)))), (34, .bool true), (35, pB b1 0), (36, .slice o_x0 x0.length c_x0), (37, vI y1), (38, vI (w64 (y1 - (1 : Int)))), (39, .pointer (some (ad2.add (Int.toNat (w64 (y1 - (1 : Int))) * 3)))), (40, .pointer (some (ad2.add (Int.toNat (w64 (y1 - (1 : Int))) * 3)))), (41, vI p2.x), (42, pB b2 0), (43, vI p1.x), (44, .bool (decide (p2.x ≥ p1.x))), (45, .bool (decide (p2.x ≥ p1.x))), (48, undef), (49, undef), (50, undef), (53, undef), (54, undef), (55, undef), (56, undef), (57, undef), (60, undef), (61, undef), (62, undef), (63, .bool true)] [] [] hf33 (by kernel_rfl) .nil .nil fun a21 hf34 => ?_
         have hf35 := Fr.keep (ks := [1, 16, 17, 18, 63]) (r := [(1, pB b1 0), (16, .slice o_x0 x0.length c_x0), (17, vI (x0.length : Int)), (18, vI y1), (63, .bool true)]) hf34 (by kernel_rfl)
         exact ⟨z2, true, (Zone.le_refl _), hf35, hS6, hr15⟩
        ·have hr16 := cond_f hb9 hr14
         have hf36 := Fr.conv hf32 (congrArg (fun z => ([(1, pB b1 0), (4, pB b2 0), (16, .slice o_x0 x0.length c_x0), (17, vI (x0.length : Int)), (18, vI y1), (27, pB b2 0), (28, vI p1.x), (29, .bool (decide (p1.x > (1000000 : Int)))), (32, vI y1), (33, .bool (decide (y1 > (0 : Int)))), (34, .bool true), (35, pB b1 0), (36, .slice o_x0 x0.length c_x0), (37, vI y1), (38, vI (w64 (y1 - (1 : Int)))), (39, .pointer (some (ad2.add (Int.toNat (w64 (y1 - (1 : Int))) * 3)))), (40, .pointer (some (ad2.add (Int.toNat (w64 (y1 - (1 : Int))) * 3)))), (41, vI p2.x), (42, pB b2 0), (43, vI p1.x), (44, .bool (decide (p2.x ≥ p1.x))), (45, .bool (decide (p2.x ≥ p1.x))), (47, .bool z)] : FL)) hb9)
         refine p_qE 5 [vI p1.lo] [(1, pB b1 0), (4, pB b2 0), (16, .slice o_x0 x0.length c_x0), (17, vI (x0.length : Int)), (18, vI y1), (27, pB b2 0), (28, vI p1.x), (29, .bool (decide (p1.x > (1000000 : Int)))), (32, vI y1), (33, .bool (decide (y1 > (0 : Int)))), (34, .bool true), (35, pB b1 0), (36, .slice o_x0 x0.length c_x0), (37, vI y1), (38, vI (w64 (y1 - (1 : Int)))), (39, .pointer (some (ad2.add (Int.toNat (w64 (y1 - (1 : Int))) * 3)))), (40, .pointer (some (ad2.add (Int.toNat (w64 (y1 - (1 : Int))) * 3)))), (41, vI p2.x), (42, pB b2 0), (43, vI p1.x), (44, .bool (decide (p2.x ≥ p1.x))), (45, .bool (decide (p2.x ≥ p1.x))), (48, pB b2 1), (49, vI p1.lo), (50, .bool (decide (p1.lo < (-1000000000 : Int)))), (52, .bool (decide (p1.lo < (-1000000000 : Int))))] [.cell ⟨b2, 1, none⟩ (vI p1.lo)] [] hf36 (by kernel_rfl) (.cell (hS6.box (i := 0) rfl (j := 1) rfl) .nil) .nil fun a22 hf37 => ?_
         rcases Bool.eq_false_or_eq_true (decide (p1.lo < (-1000000000 : Int))) with hb10 | hb10
         ·have hr17 := cond_t hb10 hr16
          have hf38 := Fr.conv hf37 (congrArg (fun z => ([(1, pB b1 0), (4, pB b2 0), (16, .slice o_x0 x0.length c_x0), (17, vI (x0.length : Int)), (18, vI y1), (27, pB b2 0), (28, vI p1.x), (29, .bool (decide (p1.x > (1000000 : Int)))), (32, vI y1), (33, .bool (decide (y1 > (0 : Int)))), (34, .bool true), (35, pB b1 0), (36, .slice o_x0 x0.length c_x0), (37, vI y1), (38, vI (w64 (y1 - (1 : Int)))), (39, .pointer (some (ad2.add (Int.toNat (w64 (y1 - (1 : Int))) * 3)))), (40, .pointer (some (ad2.add (Int.toNat (w64 (y1 - (1 : Int))) * 3)))), (41, vI p2.x), (42, pB b2 0), (43, vI p1.x), (44, .bool (decide (p2.x ≥ p1.x))), (45, .bool (decide (p2.x ≥ p1.x))), (48, pB b2 1), (49, vI p1.lo), (50, .bool (decide (p1.lo < (-1000000000 : Int)))), (52, .bool z)] : FL)) hb10)
          refine p_qtE [] [(1, pB b1 0), (16, .slice o_x0 x0.length c_x0), (17, vI (x0.length : Int)), (18, vI y1), (27, pB b2 0), (28, vI p1.x), (29, .bool (decide (p1.x > (1000000 : Int)))), (32, vI y1), (33, .bool (decide (y1 > (0 : Int)))), (34, .bool true), (35, pB b1 0), (36, .slice o_x0 x0.length c_x0), (37, vI y1), (38, vI (w64 (y1 - (1 : Int)))), (39, .pointer (some (ad2.add (Int.toNat (w64 (y1 - (1 : Int))) * 3)))), (40, .pointer (some (ad2.add (Int.toNat (w64 (y1 - (1 : Int))) * 3)))), (41, vI p2.x), (42, pB b2 0), (43, vI p1.x), (44, .bool (decide (p2.x ≥ p1.x))), (45, .bool (decide (p2.x ≥ p1.x))), (48, pB b2 1), (49, vI p1.lo), (50, .bool (decide (p1.lo < (-1000000000 : Int)))), (53, undef), (54, undef), (55, undef), (56, undef), (57, undef), (60, undef), (61, undef), (62, undef), (63, .bool true)] [] [] hf38 (by kernel_rfl) .nil .nil fun a23 hf39 => ?_
          have hf40 := Fr.keep (ks := [1, 16, 17, 18, 63]) (r := [(1, pB b1 0), (16, .slice o_x0 x0.length c_x0), (17, vI (x0.length : Int)), (18, vI y1), (63, .bool true)]) hf39 (by kernel_rfl)
          exact ⟨z2, true, (Zone.le_refl _), hf40, hS6, hr17⟩
         ·have hr18 := cond_f hb10 hr16
          have hf41 := Fr.conv hf37 (congrArg (fun z => ([(1, pB b1 0), (4, pB b2 0), (16, .slice o_x0 x0.length c_x0), (17, vI (x0.length : Int)), (18, vI y1), (27, pB b2 0), (28, vI p1.x), (29, .bool (decide (p1.x > (1000000 : Int)))), (32, vI y1), (33, .bool (decide (y1 > (0 : Int)))), (34, .bool true), (35, pB b1 0), (36, .slice o_x0 x0.length c_x0), (37, vI y1), (38, vI (w64 (y1 - (1 : Int)))), (39, .pointer (some (ad2.add (Int.toNat (w64 (y1 - (1 : Int))) * 3)))), (40, .pointer (some (ad2.add (Int.toNat (w64 (y1 - (1 : Int))) * 3)))), (41, vI p2.x), (42, pB b2 0), (43, vI p1.x), (44, .bool (decide (p2.x ≥ p1.x))), (45, .bool (decide (p2.x ≥ p1.x))), (48, pB b2 1), (49, vI p1.lo), (50, .bool (decide (p1.lo < (-1000000000 : Int)))), (52, .bool z)] : FL)) hb10)
          refine p_qE 7 [vI p1.lo, vI p1.hi] [(1, pB b1 0), (4, pB b2 0), (16, .slice o_x0 x0.length c_x0), (17, vI (x0.length : Int)), (18, vI y1), (27, pB b2 0), (28, vI p1.x), (29, .bool (decide (p1.x > (1000000 : Int)))), (32, vI y1), (33, .bool (decide (y1 > (0 : Int)))), (34, .bool true), (35, pB b1 0), (36, .slice o_x0 x0.length c_x0), (37, vI y1), (38, vI (w64 (y1 - (1 : Int)))), (39, .pointer (some (ad2.add (Int.toNat (w64 (y1 - (1 : Int))) * 3)))), (40, .pointer (some (ad2.add (Int.toNat (w64 (y1 - (1 : Int))) * 3)))), (41, vI p2.x), (42, pB b2 0), (43, vI p1.x), (44, .bool (decide (p2.x ≥ p1.x))), (45, .bool (decide (p2.x ≥ p1.x))), (48, pB b2 1), (49, vI p1.lo), (50, .bool (decide (p1.lo < (-1000000000 : Int)))), (53, pB b2 1), (54, vI p1.lo), (55, pB b2 2), (56, vI p1.hi), (57, .bool (decide (p1.lo > p1.hi))), (59, .bool (decide (p1.lo > p1.hi)))] [.cell ⟨b2, 1, none⟩ (vI p1.lo), .cell ⟨b2, 2, none⟩ (vI p1.hi)] [] hf41 (by kernel_rfl) (.cell (hS6.box (i := 0) rfl (j := 1) rfl) (.cell (hS6.box (i := 0) rfl (j := 2) rfl) .nil)) .nil fun a24 hf42 => ?_
          rcases Bool.eq_false_or_eq_true (decide (p1.lo > p1.hi)) with hb11 | hb11
          ·have hr19 := cond_t hb11 hr18
           have hf43 := Fr.conv hf42 (congrArg (fun z => ([(1, pB b1 0), (4, pB b2 0), (16, .slice o_x0 x0.length c_x0), (17, vI (x0.length : Int)), (18, vI y1), (27, pB b2 0), (28, vI p1.x), (29, .bool (decide (p1.x > (1000000 : Int)))), (32, vI y1), (33, .bool (decide (y1 > (0 : Int)))), (34, .bool true), (35, pB b1 0), (36, .slice o_x0 x0.length c_x0), (37, vI y1), (38, vI (w64 (y1 - (1 : Int)))), (39, .pointer (some (ad2.add (Int.toNat (w64 (y1 - (1 : Int))) * 3)))), (40, .pointer (some (ad2.add (Int.toNat (w64 (y1 - (1 : Int))) * 3)))), (41, vI p2.x), (42, pB b2 0), (43, vI p1.x), (44, .bool (decide (p2.x ≥ p1.x))), (45, .bool (decide (p2.x ≥ p1.x))), (48, pB b2 1), (49, vI p1.lo), (50, .bool (decide (p1.lo < (-1000000000 : Int)))), (53, pB b2 1), (54, vI p1.lo), (55, pB b2 2), (56, vI p1.hi), (57, .bool (decide (p1.lo > p1.hi))), (59, .bool z)] : FL)) hb11)
           refine p_qtE [] [(1, pB b1 0), (16, .slice o_x0 x0.length c_x0), (17, vI (x0.length : Int)), (18, vI y1), (27, pB b2 0), (28, vI p1.x), (29, .bool (decide (p1.x > (1000000 : Int)))), (32, vI y1), (33, .bool (decide (y1 > (0 : Int)))), (34, .bool true), (35, pB b1 0), (36, .slice o_x0 x0.length c_x0), (37, vI y1), (38, vI (w64 (y1 - (1 : Int)))), (39, .pointer (some (ad2.add (Int.toNat (w64 (y1 - (1 : Int))) * 3)))), (40, .pointer (some (ad2.add (Int.toNat (w64 (y1 - (1 : Int))) * 3)))), (41, vI p2.x), (42, pB b2 0), (43, vI p1.x), (44, .bool (decide (p2.x ≥ p1.x))), (45, .bool (decide (p2.x ≥ p1.x))), (48, pB b2 1), (49, vI p1.lo), (50, .bool (decide (p1.lo < (-1000000000 : Int)))), (53, pB b2 1), (54, vI p1.lo), (55, pB b2 2), (56, vI p1.hi), (57, .bool (decide (p1.lo > p1.hi))), (60, undef), (61, undef), (62, undef), (63, .bool true)] [] [] hf43 (by kernel_rfl) .nil .nil fun a25 hf44 => ?_
           have hf45 := Fr.keep (ks := [1, 16, 17, 18, 63]) (r := [(1, pB b1 0), (16, .slice o_x0 x0.length c_x0), (17, vI (x0.length : Int)), (18, vI y1), (63, .bool true)]) hf44 (by kernel_rfl)
           exact ⟨z2, true, (Zone.le_refl _), hf45, hS6, hr19⟩
          ·have hr20 := cond_f hb11 hr18
           have hf46 := Fr.conv hf42 (congrArg (fun z => ([(1, pB b1 0), (4, pB b2 0), (16, .slice o_x0 x0.length c_x0), (17, vI (x0.length : Int)), (18, vI y1), (27, pB b2 0), (28, vI p1.x), (29, .bool (decide (p1.x > (1000000 : Int)))), (32, vI y1), (33, .bool (decide (y1 > (0 : Int)))), (34, .bool true), (35, pB b1 0), (36, .slice o_x0 x0.length c_x0), (37, vI y1), (38, vI (w64 (y1 - (1 : Int)))), (39, .pointer (some (ad2.add (Int.toNat (w64 (y1 - (1 : Int))) * 3)))), (40, .pointer (some (ad2.add (Int.toNat (w64 (y1 - (1 : Int))) * 3)))), (41, vI p2.x), (42, pB b2 0), (43, vI p1.x), (44, .bool (decide (p2.x ≥ p1.x))), (45, .bool (decide (p2.x ≥ p1.x))), (48, pB b2 1), (49, vI p1.lo), (50, .bool (decide (p1.lo < (-1000000000 : Int)))), (53, pB b2 1), (54, vI p1.lo), (55, pB b2 2), (56, vI p1.hi), (57, .bool (decide (p1.lo > p1.hi))), (59, .bool z)] : FL)) hb11)
           refine p_qtE [vI p1.hi] [(1, pB b1 0), (16, .slice o_x0 x0.length c_x0), (17, vI (x0.length : Int)), (18, vI y1), (27, pB b2 0), (28, vI p1.x), (29, .bool (decide (p1.x > (1000000 : Int)))), (32, vI y1), (33, .bool (decide (y1 > (0 : Int)))), (34, .bool true), (35, pB b1 0), (36, .slice o_x0 x0.length c_x0), (37, vI y1), (38, vI (w64 (y1 - (1 : Int)))), (39, .pointer (some (ad2.add (Int.toNat (w64 (y1 - (1 : Int))) * 3)))), (40, .pointer (some (ad2.add (Int.toNat (w64 (y1 - (1 : Int))) * 3)))), (41, vI p2.x), (42, pB b2 0), (43, vI p1.x), (44, .bool (decide (p2.x ≥ p1.x))), (45, .bool (decide (p2.x ≥ p1.x))), (48, pB b2 1), (49, vI p1.lo), (50, .bool (decide (p1.lo < (-1000000000 : Int)))), (53, pB b2 1), (54, vI p1.lo), (55, pB b2 2), (56, vI p1.hi), (57, .bool (decide (p1.lo > p1.hi))), (60, pB b2 2), (61, vI p1.hi), (62, .bool (decide (p1.hi > (1000000000 : Int)))), (63, .bool (decide (p1.hi > (1000000000 : Int))))] [.cell ⟨b2, 2, none⟩ (vI p1.hi)] [] hf46 (by kernel_rfl) (.cell (hS6.box (i := 0) rfl (j := 2) rfl) .nil) .nil fun a26 hf47 => ?_
           have hf48 := Fr.keep (ks := [1, 16, 17, 18, 63]) (r := [(1, pB b1 0), (16, .slice o_x0 x0.length c_x0), (17, vI (x0.length : Int)), (18, vI y1), (63, .bool (decide (p1.hi > (1000000000 : Int))))]) hf47 (by kernel_rfl)
           exact ⟨z2, (decide (p1.hi > (1000000000 : Int))), (Zone.le_refl _), hf48, hS6, hr20⟩
       ·have hr21 := cond_f hb7 hr12
        have hf49 := Fr.conv hf30 (congrArg (fun z => ([(1, pB b1 0), (3, vI y1), (4, pB b2 0), (16, .slice o_x0 x0.length c_x0), (17, vI (x0.length : Int)), (18, vI y1), (27, pB b2 0), (28, vI p1.x), (29, .bool (decide (p1.x > (1000000 : Int)))), (31, .bool false), (32, vI y1), (33, .bool (decide (y1 > (0 : Int)))), (34, .bool z)] : FL)) hb7)
        refine p_qE 18 [vI p1.lo] [(1, pB b1 0), (4, pB b2 0), (16, .slice o_x0 x0.length c_x0), (17, vI (x0.length : Int)), (18, vI y1), (27, pB b2 0), (28, vI p1.x), (29, .bool (decide (p1.x > (1000000 : Int)))), (32, vI y1), (33, .bool (decide (y1 > (0 : Int)))), (34, .bool false), (35, undef), (36, undef), (37, undef), (38, undef), (39, undef), (40, undef), (41, undef), (42, undef), (43, undef), (44, undef), (45, .bool false), (48, pB b2 1), (49, vI p1.lo), (50, .bool (decide (p1.lo < (-1000000000 : Int)))), (52, .bool (decide (p1.lo < (-1000000000 : Int))))] [.cell ⟨b2, 1, none⟩ (vI p1.lo)] [] hf49 (by kernel_rfl) (.cell (hS6.box (i := 0) rfl (j := 1) rfl) .nil) .nil fun a27 hf50 => ?_
        rcases Bool.eq_false_or_eq_true (decide (p1.lo < (-1000000000 : Int))) with hb12 | hb12
        ·have hr22 := cond_t hb12 hr21
         have hf51 := Fr.conv hf50 (congrArg (fun z => ([(1, pB b1 0), (4, pB b2 0), (16, .slice o_x0 x0.length c_x0), (17, vI (x0.length : Int)), (18, vI y1), (27, pB b2 0), (28, vI p1.x), (29, .bool (decide (p1.x > (1000000 : Int)))), (32, vI y1), (33, .bool (decide (y1 > (0 : Int)))), (34, .bool false), (35, undef), (36, undef), (37, undef), (38, undef), (39, undef), (40, undef), (41, undef), (42, undef), (43, undef), (44, undef), (45, .bool false), (48, pB b2 1), (49, vI p1.lo), (50, .bool (decide (p1.lo < (-1000000000 : Int)))), (52, .bool z)] : FL)) hb12)
         refine p_qtE [] [(1, pB b1 0), (16, .slice o_x0 x0.length c_x0), (17, vI (x0.length : Int)), (18, vI y1), (27, pB b2 0), (28, vI p1.x), (29, .bool (decide (p1.x > (1000000 : Int)))), (32, vI y1), (33, .bool (decide (y1 > (0 : Int)))), (34, .bool false), (35, undef), (36, undef), (37, undef), (38, undef), (39, undef), (40, undef), (41, undef), (42, undef), (43, undef), (44, undef), (45, .bool false), (48, pB b2 1), (49, vI p1.lo), (50, .bool (decide (p1.lo < (-1000000000 : Int)))), (53, undef), (54, undef), (55, undef), (56, undef), (57, undef), (60, undef), (61, undef), (62, undef), (63, .bool true)] [] [] hf51 (by kernel_rfl) .nil .nil fun a28 hf52 => ?_
         have hf53 := Fr.keep (ks := [1, 16, 17, 18, 63]) (r := [(1, pB b1 0), (16, .slice o_x0 x0.length c_x0), (17, vI (x0.length : Int)), (18, vI y1), (63, .bool true)]) hf52 (by kernel_rfl)
         exact ⟨z2, true, (Zone.le_refl _), hf53, hS6, hr22⟩
        ·have hr23 := cond_f hb12 hr21
         have hf54 := Fr.conv hf50 (congrArg (fun z => ([(1, pB b1 0), (4, pB b2 0), (16, .slice o_x0 x0.length c_x0), (17, vI (x0.length : Int)), (18, vI y1), (27, pB b2 0), (28, vI p1.x), (29, .bool (decide (p1.x > (1000000 : Int)))), (32, vI y1), (33, .bool (decide (y1 > (0 : Int)))), (34, .bool false), (35, undef), (36, undef), (37, undef), (38, undef), (39, undef), (40, undef), (41, undef), (42, undef), (43, undef), (44, undef), (45, .bool false), (48, pB b2 1), (49, vI p1.lo), (50, .bool (decide (p1.lo < (-1000000000 : Int)))), (52, .bool z)] : FL)) hb12)
         refine p_qE 7 [vI p1.lo, vI p1.hi] [(1, pB b1 0), (4, pB b2 0), (16, .slice o_x0 x0.length c_x0), (17, vI (x0.length : Int)), (18, vI y1), (27, pB b2 0), (28, vI p1.x), (29, .bool (decide (p1.x > (1000000 : Int)))), (32, vI y1), (33, .bool (decide (y1 > (0 : Int)))), (34, .bool false), (35, undef), (36, undef), (37, undef), (38, undef), (39, undef), (40, undef), (41, undef), (42, undef), (43, undef), (44, undef), (45, .bool false), (48, pB b2 1), (49, vI p1.lo), (50, .bool (decide (p1.lo < (-1000000000 : Int)))), (53, pB b2 1), (54, vI p1.lo), (55, pB b2 2), (56, vI p1.hi), (57, .bool (decide (p1.lo > p1.hi))), (59, .bool (decide (p1.lo > p1.hi)))] [.cell ⟨b2, 1, none⟩ (vI p1.lo), .cell ⟨b2, 2, none⟩ (vI p1.hi)] [] hf54 (by kernel_rfl) (.cell (hS6.box (i := 0) rfl (j := 1) rfl) (.cell (hS6.box (i := 0) rfl (j := 2) rfl) .nil)) .nil fun a29 hf55 => ?_
         rcases Bool.eq_false_or_eq_true (decide (p1.lo > p1.hi)) with hb13 | hb13
         ·have hr24 := cond_t hb13 hr23
          have hf56 := Fr.conv hf55 (congrArg (fun z => ([(1, pB b1 0), (4, pB b2 0), (16, .slice o_x0 x0.length c_x0), (17, vI (x0.length : Int)), (18, vI y1), (27, pB b2 0), (28, vI p1.x), (29, .bool (decide (p1.x > (1000000 : Int)))), (32, vI y1), (33, .bool (decide (y1 > (0 : Int)))), (34, .bool false), (35, undef), (36, undef), (37, undef), (38, undef), (39, undef), (40, undef), (41, undef), (42, undef), (43, undef), (44, undef), (45, .bool false), (48, pB b2 1), (49, vI p1.lo), (50, .bool (decide (p1.lo < (-1000000000 : Int)))), (53, pB b2 1), (54, vI p1.lo), (55, pB b2 2), (56, vI p1.hi), (57, .bool (decide (p1.lo > p1.hi))), (59, .bool z)] : FL)) hb13)
          refine p_qtE [] [(1, pB b1 0), (16, .slice o_x0 x0.length c_x0), (17, vI (x0.length : Int)), (18, vI y1), (27, pB b2 0), (28, vI p1.x), (29, .bool (decide (p1.x > (1000000 : Int)))), (32, vI y1), (33, .bool (decide (y1 > (0 : Int)))), (34, .bool false), (35, undef), (36, undef), (37, undef), (38, undef), (39, undef), (40, undef), (41, undef), (42, undef), (43, undef), (44, undef), (45, .bool false), (48, pB b2 1), (49, vI p1.lo), (50, .bool (decide (p1.lo < (-1000000000 : Int)))), (53, pB b2 1), (54, vI p1.lo), (55, pB b2 2), (56, vI p1.hi), (57, .bool (decide (p1.lo > p1.hi))), (60, undef), (61, undef), (62, undef), (63, .bool true)] [] [] hf56 (by kernel_rfl) .nil .nil fun a30 hf57 => ?_
          have hf58 := Fr.keep (ks := [1, 16, 17, 18, 63]) (r := [(1, pB b1 0), (16, .slice o_x0 x0.length c_x0), (17, vI (x0.length : Int)), (18, vI y1), (63, .bool true)]) hf57 (by kernel_rfl)
          exact ⟨z2, true, (Zone.le_refl _), hf58, hS6, hr24⟩
         ·have hr25 := cond_f hb13 hr23
          have hf59 := Fr.conv hf55 (congrArg (fun z => ([(1, pB b1 0), (4, pB b2 0), (16, .slice o_x0 x0.length c_x0), (17, vI (x0.length : Int)), (18, vI y1), (27, pB b2 0), (28, vI p1.x), (29, .bool (decide (p1.x > (1000000 : Int)))), (32, vI y1), (33, .bool (decide (y1 > (0 : Int)))), (34, .bool false), (35, undef), (36, undef), (37, undef), (38, undef), (39, undef), (40, undef), (41, undef), (42, undef), (43, undef), (44, undef), (45, .bool false), (48, pB b2 1), (49, vI p1.lo), (50, .bool (decide (p1.lo < (-1000000000 : Int)))), (53, pB b2 1), (54, vI p1.lo), (55, pB b2 2), (56, vI p1.hi), (57, .bool (decide (p1.lo > p1.hi))), (59, .bool z)] : FL)) hb13)
          refine p_qtE [vI p1.hi] [(1, pB b1 0), (16, .slice o_x0 x0.length c_x0), (17, vI (x0.length : Int)), (18, vI y1), (27, pB b2 0), (28, vI p1.x), (29, .bool (decide (p1.x > (1000000 : Int)))), (32, vI y1), (33, .bool (decide (y1 > (0 : Int)))), (34, .bool false), (35, undef), (36, undef), (37, undef), (38, undef), (39, undef), (40, undef), (41, undef), (42, undef), (43, undef), (44, undef), (45, .bool false), (48, pB b2 1), (49, vI p1.lo), (50, .bool (decide (p1.lo < (-1000000000 : Int)))), (53, pB b2 1), (54, vI p1.lo), (55, pB b2 2), (56, vI p1.hi), (57, .bool (decide (p1.lo > p1.hi))), (60, pB b2 2), (61, vI p1.hi), (62, .bool (decide (p1.hi > (1000000000 : Int)))), (63, .bool (decide (p1.hi > (1000000000 : Int))))] [.cell ⟨b2, 2, none⟩ (vI p1.hi)] [] hf59 (by kernel_rfl) (.cell (hS6.box (i := 0) rfl (j := 2) rfl) .nil) .nil fun a31 hf60 => ?_
          have hf61 := Fr.keep (ks := [1, 16, 17, 18, 63]) (r := [(1, pB b1 0), (16, .slice o_x0 x0.length c_x0), (17, vI (x0.length : Int)), (18, vI y1), (63, .bool (decide (p1.hi > (1000000000 : Int))))]) hf60 (by kernel_rfl)
          exact ⟨z2, (decide (p1.hi > (1000000000 : Int))), (Zone.le_refl _), hf61, hS6, hr25⟩
    ·rintro a32 ww6 ⟨z3, y2, k4, hf62, hS7, hr26⟩
     refine w_if hf62 (b := y2) (by kernel_rfl) (fun hb14 => ?_) (fun hb14 => ?_)
     ·have hr27 := cond_t hb14 hr26
      refine w_sq [] [(2, .bool false)] [] hf62 (by kernel_rfl) .nil fun a33 hf63 => ?_
      refine w_ret (by kernel_rfl) ?_
      refine r_block ?_
      refine r_then ?_
      refine r_then ?_
      refine r_block ?_
      refine r_then ?_
      refine p_ret (os := []) (v := .bool false) (obs := []) hf63 (by kernel_rfl) .nil ?_
      obtain rfl := some_eq hr27
      exact ⟨_, rfl, z3, (Zone.le_trans (Zone.le_trans k2 k3) k4), rfl, (St.drop 2 hS7)⟩
     ·have hr28 := cond_f hb14 hr26
      refine w_skip (by kernel_rfl) ?_
      refine n_block ?_
      refine n_then ?_
      refine w_q [] [(1, pB b1 0), (16, .slice o_x0 x0.length c_x0), (17, vI (x0.length : Int)), (18, vI (w64 (y1 + (1 : Int))))] [] hf62 (by kernel_rfl) .nil fun a34 hf64 => ?_
      refine n_then ?_
      have hf65 := Fr.keep (ks := [1, 16, 17, 18]) (r := [(1, pB b1 0), (16, .slice o_x0 x0.length c_x0), (17, vI (x0.length : Int)), (18, vI (w64 (y1 + (1 : Int))))]) hf64 (by kernel_rfl)
      exact ⟨n1, Nat.lt_succ_self n1, z3, (w64 (y1 + (1 : Int))), (Zone.le_trans k3 k4), hf65, (St.drop 1 hS7), hr28⟩
   ·have hr29 := cond_f hb3 hr6
    refine w_exit (id := 0) (by kernel_rfl) ?_
    refine x_then ?_
    refine x_then ?_
    refine x_block ?_
    refine n_then ?_
    refine w_sq [] [(2, .bool true)] [] hf15 (by kernel_rfl) .nil fun a35 hf66 => ?_
    refine w_ret (by kernel_rfl) ?_
    refine p_ret (os := []) (v := .bool true) (obs := []) hf66 (by kernel_rfl) .nil ?_
    obtain rfl := some_eq hr29
    exact ⟨_, rfl, z2, (Zone.le_trans k2 k3), rfl, (St.drop 1 hS3)⟩
def F73 (fuel : Nat) (x0 : List Pt) : Option (Int) :=
  ((getI x0 0).bind fun p1 => (some (p1.x)))
set_option maxRecDepth 100000 in
theorem f73_ok (fuel : Nat) (x0 : List Pt) (r : Int) (hr : F73 fuel x0 = some r) (h : Zone) (L : List Atom) (w : World) (hS : St h L w) (o_x0 : Option Addr) (c_x0 : Nat) (hx_x0 : SliceR PtT h o_x0 c_x0 x0) :
    Calls Try.prog 73 #[.agg #[.slice o_x0 x0.length c_x0]] w fun e w' => ∃ v, e = .returned v ∧ (v = vI r ∧ St h L w') := by
 refine calls_intro (N := 8) Try.func73 (by kernel_rfl) fun a hf => ?_
 refine w_sr (by kernel_rfl) ?_
 refine p_box (i := 0) (d := (some 1)) (cs := [.slice o_x0 x0.length c_x0]) (T := 24) (v := fun b1 => pB b1 0) hS hf (fun b => by kernel_rfl) fun b1 ww1 a1 hS1 hf1 => ⟨fun _ => trivial, ?_⟩
 refine p_qt [] [(1, pB b1 0)] [] hf1 (by kernel_rfl) .nil fun a2 hf2 => ?_
 obtain ⟨p1, hp9, hr1⟩ := bind_some hr
 obtain ⟨ad1, ho1, hb1, cc1, hc1, hk1⟩ := SliceR.getI hx_x0 hp9
 subst hc1
 refine w_sq [.slice o_x0 x0.length c_x0, .pointer (some ad1), vI p1.x] [(2, vI p1.x)] [.cell ⟨b1, 0, none⟩ (.slice o_x0 x0.length c_x0), .prop (o_x0 = some ad1), .prop (0 ≤ (0 : Int) ∧ (0 : Int) < (x0.length : Nat)), .cell ((ad1.add (Int.toNat 0 * 3)).add 0) (vI p1.x)] hf2 (by kernel_rfl) (.cell (hS1.box (i := 0) rfl (j := 0) rfl) (.prop ho1 (.prop hb1 (.cell (hS1.cell (hk1 0 _ rfl)) .nil)))) fun a3 hf3 => ?_
 refine w_ret (by kernel_rfl) ?_
 refine p_ret (os := []) (v := vI p1.x) (obs := []) hf3 (by kernel_rfl) .nil ?_
 obtain rfl := some_eq hr1
 exact ⟨_, rfl, rfl, (St.drop 1 hS1)⟩
def F74 (fuel : Nat) (x0 : List Pt) : Option (Int) :=
  ((getI x0 (w64 ((x0.length : Int) - (1 : Int)))).bind fun p1 => (some (p1.x)))
set_option maxRecDepth 100000 in
theorem f74_ok (fuel : Nat) (x0 : List Pt) (r : Int) (hr : F74 fuel x0 = some r) (h : Zone) (L : List Atom) (w : World) (hS : St h L w) (o_x0 : Option Addr) (c_x0 : Nat) (hx_x0 : SliceR PtT h o_x0 c_x0 x0) :
    Calls Try.prog 74 #[.agg #[.slice o_x0 x0.length c_x0]] w fun e w' => ∃ v, e = .returned v ∧ (v = vI r ∧ St h L w') := by
 refine calls_intro (N := 12) Try.func74 (by kernel_rfl) fun a hf => ?_
 refine w_sr (by kernel_rfl) ?_
 refine p_box (i := 0) (d := (some 1)) (cs := [.slice o_x0 x0.length c_x0]) (T := 24) (v := fun b1 => pB b1 0) hS hf (fun b => by kernel_rfl) fun b1 ww1 a1 hS1 hf1 => ⟨fun _ => trivial, ?_⟩
 refine p_qt [] [(1, pB b1 0)] [] hf1 (by kernel_rfl) .nil fun a2 hf2 => ?_
 obtain ⟨p1, hp9, hr1⟩ := bind_some hr
 obtain ⟨ad1, ho1, hb1, cc1, hc1, hk1⟩ := SliceR.getI hx_x0 hp9
 subst hc1
 refine w_sq [.slice o_x0 x0.length c_x0, .slice o_x0 x0.length c_x0, .pointer (some ad1), vI p1.x] [(2, vI p1.x)] [.cell ⟨b1, 0, none⟩ (.slice o_x0 x0.length c_x0), .cell ⟨b1, 0, none⟩ (.slice o_x0 x0.length c_x0), .prop (o_x0 = some ad1), .prop (0 ≤ (w64 ((x0.length : Int) - (1 : Int))) ∧ (w64 ((x0.length : Int) - (1 : Int))) < (x0.length : Nat)), .cell ((ad1.add (Int.toNat (w64 ((x0.length : Int) - (1 : Int))) * 3)).add 0) (vI p1.x)] hf2 (by kernel_rfl) (.cell (hS1.box (i := 0) rfl (j := 0) rfl) (.cell (hS1.box (i := 0) rfl (j := 0) rfl) (.prop ho1 (.prop hb1 (.cell (hS1.cell (hk1 0 _ rfl)) .nil))))) fun a3 hf3 => ?_
 refine w_ret (by kernel_rfl) ?_
 refine p_ret (os := []) (v := vI p1.x) (obs := []) hf3 (by kernel_rfl) .nil ?_
 obtain rfl := some_eq hr1
 exact ⟨_, rfl, rfl, (St.drop 1 hS1)⟩
def F14 (fuel : Nat) (x0 : List Pt) (x1 : Int) : Option (Int) :=
  ((F73 fuel x0).bind fun r1 => ((F74 fuel x0).bind fun r2 => ((nz (w64 ((w64 (r2 - r1)) + (1 : Int)))).bind fun _ => ((nz (w64 ((w64 (r2 - r1)) + (1 : Int)))).bind fun _ => (some ((w64 (r1 + (Int.tmod (w64 ((Int.tmod x1 (w64 ((w64 (r2 - r1)) + (1 : Int)))) + (w64 ((w64 (r2 - r1)) + (1 : Int))))) (w64 ((w64 (r2 - r1)) + (1 : Int))))))))))))
set_option maxRecDepth 100000 in
theorem f14_ok (fuel : Nat) (x0 : List Pt) (x1 : Int) (r : Int) (hr : F14 fuel x0 x1 = some r) (h : Zone) (L : List Atom) (w : World) (hS : St h L w) (o_x0 : Option Addr) (c_x0 : Nat) (hx_x0 : SliceR PtT h o_x0 c_x0 x0) :
    Calls Try.prog 14 #[.agg #[.slice o_x0 x0.length c_x0], vI x1] w fun e w' => ∃ v, e = .returned v ∧ (v = vI r ∧ St h L w') := by
 refine calls_intro (N := 23) Try.func14 (by kernel_rfl) fun a hf => ?_
 refine w_sr (by kernel_rfl) ?_
 refine p_box (i := 0) (d := (some 2)) (cs := [.slice o_x0 x0.length c_x0]) (T := 24) (v := fun b1 => pB b1 0) hS hf (fun b => by kernel_rfl) fun b1 ww1 a1 hS1 hf1 => ⟨fun _ => trivial, ?_⟩
 refine p_qt [] [(1, vI x1), (2, pB b1 0)] [] hf1 (by kernel_rfl) .nil fun a2 hf2 => ?_
 refine w_sr (by kernel_rfl) ?_
 refine p_qn 1 [.slice o_x0 x0.length c_x0] [(1, vI x1), (2, pB b1 0), (7, .agg #[.slice o_x0 x0.length c_x0])] [.cell ⟨b1, 0, none⟩ (.slice o_x0 x0.length c_x0)] hf2 (by kernel_rfl) (.cell (hS1.box (i := 0) rfl (j := 0) rfl) .nil) fun a3 hf3 => ?_
 obtain ⟨r1, hd1, hr1⟩ := bind_some hr
 refine p_call (i := 1) (d := some 8) (f := 73) (args := #[.agg #[.slice o_x0 x0.length c_x0]]) hf3 (by kernel_rfl) (f73_ok fuel x0 r1 hd1 h _ _ hS1 o_x0 c_x0 hx_x0) ?_
 rintro v1 ww2 a4 ⟨rfl, hS2⟩ hf4
 refine ⟨fun _ => trivial, ?_⟩
 refine p_qt [] [(1, vI x1), (2, pB b1 0), (5, vI r1)] [] hf4 (by kernel_rfl) .nil fun a5 hf5 => ?_
 refine w_sr (by kernel_rfl) ?_
 refine p_qn 1 [.slice o_x0 x0.length c_x0] [(1, vI x1), (5, vI r1), (9, .agg #[.slice o_x0 x0.length c_x0])] [.cell ⟨b1, 0, none⟩ (.slice o_x0 x0.length c_x0)] hf5 (by kernel_rfl) (.cell (hS2.box (i := 0) rfl (j := 0) rfl) .nil) fun a6 hf6 => ?_
 obtain ⟨r2, hd2, hr2⟩ := bind_some hr1
 refine p_call (i := 1) (d := some 10) (f := 74) (args := #[.agg #[.slice o_x0 x0.length c_x0]]) hf6 (by kernel_rfl) (f74_ok fuel x0 r2 hd2 h _ _ hS2 o_x0 c_x0 hx_x0) ?_
 rintro v2 ww3 a7 ⟨rfl, hS3⟩ hf7
 refine ⟨fun _ => trivial, ?_⟩
 refine p_qt [] [(1, vI x1), (5, vI r1), (6, vI (w64 ((w64 (r2 - r1)) + (1 : Int))))] [] hf7 (by kernel_rfl) .nil fun a8 hf8 => ?_
 obtain ⟨u1, hd3, hr3⟩ := bind_some hr2
 obtain ⟨u2, hd4, hr4⟩ := bind_some hr3
 refine w_sq [] [(4, vI (w64 (r1 + (Int.tmod (w64 ((Int.tmod x1 (w64 ((w64 (r2 - r1)) + (1 : Int)))) + (w64 ((w64 (r2 - r1)) + (1 : Int))))) (w64 ((w64 (r2 - r1)) + (1 : Int)))))))] [.prop ((w64 ((w64 (r2 - r1)) + (1 : Int))) ≠ 0), .prop ((w64 ((w64 (r2 - r1)) + (1 : Int))) ≠ 0)] hf8 (by kernel_rfl) (.prop (nz_spec hd3) (.prop (nz_spec hd4) .nil)) fun a9 hf9 => ?_
 refine w_ret (by kernel_rfl) ?_
 refine p_ret (os := []) (v := vI (w64 (r1 + (Int.tmod (w64 ((Int.tmod x1 (w64 ((w64 (r2 - r1)) + (1 : Int)))) + (w64 ((w64 (r2 - r1)) + (1 : Int))))) (w64 ((w64 (r2 - r1)) + (1 : Int))))))) (obs := []) hf9 (by kernel_rfl) .nil ?_
 obtain rfl := some_eq hr4
 exact ⟨_, rfl, rfl, (St.drop 1 hS3)⟩
def F80_l1 (x0 : List Pt) : Nat → (List Int) → (List Int) → (List Int) → Int → Option (List Int × List Int × List Int)
  | 0, _, _, _, _ => none
  | n1 + 1, y1, y2, y3, y4 =>
    let k1 : (List Int) → (List Int) → (List Int) → Int → Option (List Int × List Int × List Int) := F80_l1 x0 n1
    (cond (decide (y4 < (x0.length : Int))) ((getI x0 y4).bind fun p1 => ((appC y3 ([p1.x])).bind fun d1 => ((appC y2 ([p1.lo])).bind fun d2 => ((appC y1 ([p1.hi])).bind fun d3 => (k1 d3 d2 d1 (w64 (y4 + (1 : Int)))))))) (some (y3, y2, y1)))
def F80 (fuel : Nat) (x0 : List Pt) : Option (List Int × List Int × List Int) :=
  (F80_l1 x0 fuel ([]) ([]) ([]) 0)
set_option maxRecDepth 100000 in
theorem f80_ok (fuel : Nat) (x0 : List Pt) (r : List Int × List Int × List Int) (hr : F80 fuel x0 = some r) (h : Zone) (L : List Atom) (w : World) (hS : St h L w) (o_x0 : Option Addr) (c_x0 : Nat) (hx_x0 : SliceR PtT h o_x0 c_x0 x0) :
    Calls Try.prog 80 #[.agg #[.slice o_x0 x0.length c_x0]] w fun e w' => ∃ v, e = .returned v ∧ (∃ h', ∃ o0 : Option Addr, ∃ c0 : Nat, ∃ o1 : Option Addr, ∃ c1 : Nat, ∃ o2 : Option Addr, ∃ c2 : Nat, Zone.le h h' ∧ v = .tuple #[.slice o0 r.1.length c0, .slice o1 r.2.1.length c1, .slice o2 r.2.2.length c2] ∧ St h' L w' ∧ SliceR Ty.int h' o0 c0 r.1 ∧ SliceR Ty.int h' o1 c1 r.2.1 ∧ SliceR Ty.int h' o2 c2 r.2.2) := by
 refine calls_intro (N := 36) Try.func80 (by kernel_rfl) fun a hf => ?_
 refine w_sr (by kernel_rfl) ?_
 refine p_box (i := 0) (d := (some 1)) (cs := [.slice o_x0 x0.length c_x0]) (T := 24) (v := fun b1 => pB b1 0) hS hf (fun b => by kernel_rfl) fun b1 ww1 a1 hS1 hf1 => ⟨fun _ => trivial, ?_⟩
 refine p_qt [] [(1, pB b1 0)] [] hf1 (by kernel_rfl) .nil fun a2 hf2 => ?_
 refine w_sq [] [(1, pB b1 0), (5, .slice none 0 0)] [] hf2 (by kernel_rfl) .nil fun a3 hf3 => ?_
 refine w_sq [] [(1, pB b1 0), (5, .slice none 0 0), (6, .slice none 0 0)] [] hf3 (by kernel_rfl) .nil fun a4 hf4 => ?_
 refine w_sq [] [(1, pB b1 0), (5, .slice none 0 0), (6, .slice none 0 0), (7, .slice none 0 0)] [] hf4 (by kernel_rfl) .nil fun a5 hf5 => ?_
 refine w_seq (by kernel_rfl) ?_
 refine w_sq [.slice o_x0 x0.length c_x0] [(5, .slice none 0 0), (6, .slice none 0 0), (7, .slice none 0 0), (11, .slice o_x0 x0.length c_x0), (12, vI (x0.length : Int)), (13, vI 0)] [.cell ⟨b1, 0, none⟩ (.slice o_x0 x0.length c_x0)] hf5 (by kernel_rfl) (.cell (hS1.box (i := 0) rfl (j := 0) rfl) .nil) fun a6 hf6 => ?_
 refine w_block (id := 0) (by kernel_rfl) ?_
 have hS2 := hS1.ownNil Ty.int 3
 have hS3 := hS2.ownNil Ty.int 3
 have hS4 := hS3.ownNil Ty.int 3
 have hf7 := Fr.keep (ks := [5, 6, 7, 11, 12, 13]) (r := [(5, .slice none 0 0), (6, .slice none 0 0), (7, .slice none 0 0), (11, .slice o_x0 x0.length c_x0), (12, vI (x0.length : Int)), (13, vI 0)]) hf6 (by kernel_rfl)
 refine w_loop (by kernel_rfl) (fun n a w => ∃ z1 : Zone, ∃ y1 : List Int, ∃ y2 : List Int, ∃ y3 : List Int, ∃ y4 : Int, ∃ e1 : Option Addr, ∃ q1 : Nat, ∃ e2 : Option Addr, ∃ q2 : Nat, ∃ e3 : Option Addr, ∃ q3 : Nat, Zone.le h z1 ∧ Fr a 36 [(5, .slice e3 y3.length q3), (6, .slice e2 y2.length q2), (7, .slice e1 y1.length q1), (11, .slice o_x0 x0.length c_x0), (12, vI (x0.length : Int)), (13, vI y4)] ∧ St z1 (ownS Ty.int 3 e1 q1 y1 :: ownS Ty.int 3 e2 q2 y2 :: ownS Ty.int 3 e3 q3 y3 :: box b1 [.slice o_x0 x0.length c_x0] 24 :: L) w ∧ (F80_l1 x0 n y1 y2 y3 y4) = some r) fuel ⟨h, [], [], [], 0, none, 0, none, 0, none, 0, (Zone.le_refl _), hf7, hS4, hr⟩ ?_
 rintro n2 a7 ww2 ⟨z1, y1, y2, y3, y4, e1, q1, e2, q2, e3, q3, k2, hf8, hS5, hr1⟩
 cases n2 with
 | zero => cases hr1
 | succ n1 =>
 refine w_sq [] [(5, .slice e3 y3.length q3), (6, .slice e2 y2.length q2), (7, .slice e1 y1.length q1), (11, .slice o_x0 x0.length c_x0), (12, vI (x0.length : Int)), (13, vI y4), (14, .bool (decide (y4 < (x0.length : Int))))] [] hf8 (by kernel_rfl) .nil fun a8 hf9 => ?_
 refine w_seq (by kernel_rfl) ?_
 refine w_if hf9 (b := (decide (y4 < (x0.length : Int)))) (by kernel_rfl) (fun hb1 => ?_) (fun hb1 => ?_)
 ·have hr2 := cond_t hb1 hr1
  refine w_skip (by kernel_rfl) ?_
  refine n_then ?_
  refine w_seq (by kernel_rfl) ?_
  refine w_block (id := 1) (by kernel_rfl) ?_
  refine w_sr (by kernel_rfl) ?_
  obtain ⟨p1, hp1984, hr3⟩ := bind_some hr2
  obtain ⟨ad1, ho1, hb2, cc1, hc1, hk1⟩ := SliceR.getI (SliceR.mono k2 hx_x0) hp1984
  subst hc1
  refine p_qn 2 [.pointer (some ad1), vI p1.x, vI p1.lo, vI p1.hi] [(5, .slice e3 y3.length q3), (6, .slice e2 y2.length q2), (7, .slice e1 y1.length q1), (11, .slice o_x0 x0.length c_x0), (12, vI (x0.length : Int)), (13, vI y4), (16, .agg #[vI p1.x, vI p1.lo, vI p1.hi])] [.prop (o_x0 = some ad1), .prop (0 ≤ y4 ∧ y4 < (x0.length : Nat)), .cell ((ad1.add (Int.toNat y4 * 3)).add 0) (vI p1.x), .cell ((ad1.add (Int.toNat y4 * 3)).add 1) (vI p1.lo), .cell ((ad1.add (Int.toNat y4 * 3)).add 2) (vI p1.hi)] hf9 (by kernel_rfl) (.prop ho1 (.prop hb2 (.cell (hS5.cell (hk1 0 _ rfl)) (.cell (hS5.cell (hk1 1 _ rfl)) (.cell (hS5.cell (hk1 2 _ rfl)) .nil))))) fun a9 hf10 => ?_
  refine p_box (i := 2) (d := (some 9)) (cs := [vI 0, vI 0, vI 0]) (T := 52) (v := fun b2 => pB b2 0) hS5 hf10 (fun b => by kernel_rfl) fun b2 ww3 a10 hS6 hf11 => ⟨fun _ => trivial, ?_⟩
  refine p_store_eq (i := 3) (j := 0) (b := b2) (off := 0) (vs := [vI p1.x, vI p1.lo, vI p1.hi]) (cs' := [vI p1.x, vI p1.lo, vI p1.hi]) hS6 hf11 rfl (by kernel_rfl) (by kernel_rfl) rfl fun ww4 a11 hS7 hf12 => ⟨fun _ => trivial, ?_⟩
  refine p_dt (by kernel_rfl) ?_
  refine w_sr (by kernel_rfl) ?_
  refine p_qn 3 [vI p1.x] [(6, .slice e2 y2.length q2), (7, .slice e1 y1.length q1), (9, pB b2 0), (11, .slice o_x0 x0.length c_x0), (12, vI (x0.length : Int)), (13, vI y4), (17, .slice e3 y3.length q3), (19, vI p1.x)] [.cell ⟨b2, 0, none⟩ (vI p1.x)] hf12 (by kernel_rfl) (.cell (hS7.box (i := 0) rfl (j := 0) rfl) .nil) fun a12 hf13 => ?_
  refine p_box (i := 3) (d := (some 20)) (cs := [vI p1.x]) (T := 3) (v := fun b3 => .slice (some ⟨b3, 0, none⟩) 1 1) hS7 hf13 (fun b => by kernel_rfl) fun b3 ww5 a13 hS8 hf14 => ⟨fun _ => trivial, ?_⟩
  have hS9 := hS8.ownBox (T := Ty.int) (E := 3) (n := 1) (xs := [p1.x]) (i := 0) rfl (Rows.cons (c := [vI p1.x]) rfl rfl) rfl (by decide)
  obtain ⟨d1, hd1, hr4⟩ := bind_some hr3
  refine p_append (T := Ty.int) (i := 4) (j := 4) (d := some 21) (o2 := (some ⟨b3, 0, none⟩)) (c2 := 1) (ys := ([p1.x])) el25 hS9 hf14 rfl (by kernel_rfl) (hS9.ownSrc (j := 0) rfl) hd1 fun e4 q4 ww6 a14 hS10 hf15 => ⟨fun _ => trivial, ?_⟩
  refine p_qt [] [(5, .slice e4 d1.length q4), (6, .slice e2 y2.length q2), (7, .slice e1 y1.length q1), (9, pB b2 0), (11, .slice o_x0 x0.length c_x0), (12, vI (x0.length : Int)), (13, vI y4)] [] hf15 (by kernel_rfl) .nil fun a15 hf16 => ?_
  refine w_sr (by kernel_rfl) ?_
  refine p_qn 3 [vI p1.lo] [(5, .slice e4 d1.length q4), (7, .slice e1 y1.length q1), (9, pB b2 0), (11, .slice o_x0 x0.length c_x0), (12, vI (x0.length : Int)), (13, vI y4), (22, .slice e2 y2.length q2), (24, vI p1.lo)] [.cell ⟨b2, 1, none⟩ (vI p1.lo)] hf16 (by kernel_rfl) (.cell (hS10.box (i := 1) rfl (j := 1) rfl) .nil) fun a16 hf17 => ?_
  refine p_box (i := 3) (d := (some 25)) (cs := [vI p1.lo]) (T := 3) (v := fun b4 => .slice (some ⟨b4, 0, none⟩) 1 1) hS10 hf17 (fun b => by kernel_rfl) fun b4 ww7 a17 hS11 hf18 => ⟨fun _ => trivial, ?_⟩
  have hS12 := hS11.ownBox (T := Ty.int) (E := 3) (n := 1) (xs := [p1.lo]) (i := 0) rfl (Rows.cons (c := [vI p1.lo]) rfl rfl) rfl (by decide)
  obtain ⟨d2, hd2, hr5⟩ := bind_some hr4
  refine p_append (T := Ty.int) (i := 4) (j := 4) (d := some 26) (o2 := (some ⟨b4, 0, none⟩)) (c2 := 1) (ys := ([p1.lo])) el25 hS12 hf18 rfl (by kernel_rfl) (hS12.ownSrc (j := 0) rfl) hd2 fun e5 q5 ww8 a18 hS13 hf19 => ⟨fun _ => trivial, ?_⟩
  refine p_qt [] [(5, .slice e4 d1.length q4), (6, .slice e5 d2.length q5), (7, .slice e1 y1.length q1), (9, pB b2 0), (11, .slice o_x0 x0.length c_x0), (12, vI (x0.length : Int)), (13, vI y4)] [] hf19 (by kernel_rfl) .nil fun a19 hf20 => ?_
  refine w_reg (by kernel_rfl) ?_
  refine p_qn 3 [vI p1.hi] [(5, .slice e4 d1.length q4), (6, .slice e5 d2.length q5), (11, .slice o_x0 x0.length c_x0), (12, vI (x0.length : Int)), (13, vI y4), (27, .slice e1 y1.length q1), (29, vI p1.hi)] [.cell ⟨b2, 2, none⟩ (vI p1.hi)] hf20 (by kernel_rfl) (.cell (hS13.box (i := 2) rfl (j := 2) rfl) .nil) fun a20 hf21 => ?_
  refine p_box (i := 3) (d := (some 30)) (cs := [vI p1.hi]) (T := 3) (v := fun b5 => .slice (some ⟨b5, 0, none⟩) 1 1) hS13 hf21 (fun b => by kernel_rfl) fun b5 ww9 a21 hS14 hf22 => ⟨fun _ => trivial, ?_⟩
  have hS15 := hS14.ownBox (T := Ty.int) (E := 3) (n := 1) (xs := [p1.hi]) (i := 0) rfl (Rows.cons (c := [vI p1.hi]) rfl rfl) rfl (by decide)
  obtain ⟨d3, hd3, hr6⟩ := bind_some hr5
  refine p_append (T := Ty.int) (i := 4) (j := 4) (d := some 31) (o2 := (some ⟨b5, 0, none⟩)) (c2 := 1) (ys := ([p1.hi])) el25 hS15 hf22 rfl (by kernel_rfl) (hS15.ownSrc (j := 0) rfl) hd3 fun e6 q6 ww10 a22 hS16 hf23 => ⟨fun _ => trivial, ?_⟩
  refine p_qz [] [(5, .slice e4 d1.length q4), (6, .slice e5 d2.length q5), (7, .slice e6 d3.length q6), (11, .slice o_x0 x0.length c_x0), (12, vI (x0.length : Int)), (13, vI y4)] [] hf23 (by kernel_rfl) .nil fun a23 hf24 => ?_
  refine n_block ?_
  refine n_then ?_
  refine w_q [] [(5, .slice e4 d1.length q4), (6, .slice e5 d2.length q5), (7, .slice e6 d3.length q6), (11, .slice o_x0 x0.length c_x0), (12, vI (x0.length : Int)), (13, vI (w64 (y4 + (1 : Int))))] [] hf24 (by kernel_rfl) .nil fun a24 hf25 => ?_
  refine n_then ?_
  have hf26 := Fr.keep (ks := [5, 6, 7, 11, 12, 13]) (r := [(5, .slice e4 d1.length q4), (6, .slice e5 d2.length q5), (7, .slice e6 d3.length q6), (11, .slice o_x0 x0.length c_x0), (12, vI (x0.length : Int)), (13, vI (w64 (y4 + (1 : Int))))]) hf25 (by kernel_rfl)
  exact ⟨n1, Nat.lt_succ_self n1, z1, d3, d2, d1, (w64 (y4 + (1 : Int))), e6, q6, e5, q5, e4, q4, k2, hf26, (St.drop 4 hS16), hr6⟩
 ·have hr7 := cond_f hb1 hr1
  refine w_exit (id := 0) (by kernel_rfl) ?_
  refine x_then ?_
  refine x_then ?_
  refine x_block ?_
  refine n_then ?_
  refine w_sq [] [(2, .slice e3 y3.length q3), (3, .slice e2 y2.length q2), (4, .slice e1 y1.length q1)] [] hf9 (by kernel_rfl) .nil fun a25 hf27 => ?_
  refine w_ret (by kernel_rfl) ?_
  obtain ⟨z2, k3, hS17, hx1⟩ := hS5.share (j := 2) rfl
  obtain ⟨z3, k4, hS18, hx2⟩ := hS17.share (j := 1) rfl
  obtain ⟨z4, k5, hS19, hx3⟩ := hS18.share (j := 0) rfl
  refine p_ret (os := []) (v := .tuple #[.slice e3 y3.length q3, .slice e2 y2.length q2, .slice e1 y1.length q1]) (obs := []) hf27 (by kernel_rfl) .nil ?_
  obtain rfl := some_eq hr7
  exact ⟨_, rfl, z4, e3, q3, e2, q2, e1, q1, (Zone.le_trans (Zone.le_trans (Zone.le_trans k2 k3) k4) k5), rfl, (St.drop 4 hS19), (SliceR.mono (Zone.le_trans k4 k5) hx1), (SliceR.mono k5 hx2), hx3⟩
def F16 (fuel : Nat) (x0 : List Pt) : Option (List Int) :=
  ((F80 fuel x0).bind fun r1 => (some (r1.1)))
set_option maxRecDepth 100000 in
theorem f16_ok (fuel : Nat) (x0 : List Pt) (r : List Int) (hr : F16 fuel x0 = some r) (h : Zone) (L : List Atom) (w : World) (hS : St h L w) (o_x0 : Option Addr) (c_x0 : Nat) (hx_x0 : SliceR PtT h o_x0 c_x0 x0) :
    Calls Try.prog 16 #[.agg #[.slice o_x0 x0.length c_x0]] w fun e w' => ∃ v, e = .returned v ∧ (∃ h', ∃ o0 : Option Addr, ∃ c0 : Nat, Zone.le h h' ∧ v = .slice o0 r.length c0 ∧ St h' L w' ∧ SliceR Ty.int h' o0 c0 r) := by
 refine calls_intro (N := 13) Try.func16 (by kernel_rfl) fun a hf => ?_
 refine w_sr (by kernel_rfl) ?_
 refine p_box (i := 0) (d := (some 1)) (cs := [.slice o_x0 x0.length c_x0]) (T := 24) (v := fun b1 => pB b1 0) hS hf (fun b => by kernel_rfl) fun b1 ww1 a1 hS1 hf1 => ⟨fun _ => trivial, ?_⟩
 refine p_qt [] [(1, pB b1 0)] [] hf1 (by kernel_rfl) .nil fun a2 hf2 => ?_
 refine w_sr (by kernel_rfl) ?_
 refine p_qn 1 [.slice o_x0 x0.length c_x0] [(7, .agg #[.slice o_x0 x0.length c_x0])] [.cell ⟨b1, 0, none⟩ (.slice o_x0 x0.length c_x0)] hf2 (by kernel_rfl) (.cell (hS1.box (i := 0) rfl (j := 0) rfl) .nil) fun a3 hf3 => ?_
 obtain ⟨r1, hd1, hr1⟩ := bind_some hr
 refine p_call (i := 1) (d := some 8) (f := 80) (args := #[.agg #[.slice o_x0 x0.length c_x0]]) hf3 (by kernel_rfl) (f80_ok fuel x0 r1 hd1 h _ _ hS1 o_x0 c_x0 hx_x0) ?_
 rintro v1 ww2 a4 ⟨z1, e1, q1, e2, q2, e3, q3, k1, rfl, hS2, hx1, hx2, hx3⟩ hf4
 refine ⟨fun _ => trivial, ?_⟩
 refine p_qt [] [(3, .slice e1 r1.1.length q1)] [] hf4 (by kernel_rfl) .nil fun a5 hf5 => ?_
 refine w_sq [] [(2, .slice e1 r1.1.length q1)] [] hf5 (by kernel_rfl) .nil fun a6 hf6 => ?_
 refine w_ret (by kernel_rfl) ?_
 refine p_ret (os := []) (v := .slice e1 r1.1.length q1) (obs := []) hf6 (by kernel_rfl) .nil ?_
 obtain rfl := some_eq hr1
 exact ⟨_, rfl, z1, e1, q1, k1, rfl, (St.drop 1 hS2), hx1⟩
def F17_j1 (k1 : (List Int) → Int → Option (List Int)) (y1 : List Int) (y2 : Int) (p1 : Pt) (y3 : Int) : Option (List Int) :=
  ((nz (w64 ((w64 (p1.hi - p1.lo)) + (1 : Int)))).bind fun _ => ((nz (w64 ((w64 (p1.hi - p1.lo)) + (1 : Int)))).bind fun _ => ((appC y1 ([(w64 (p1.lo + (Int.tmod (w64 ((Int.tmod y3 (w64 ((w64 (p1.hi - p1.lo)) + (1 : Int)))) + (w64 ((w64 (p1.hi - p1.lo)) + (1 : Int))))) (w64 ((w64 (p1.hi - p1.lo)) + (1 : Int))))))])).bind fun d1 => (k1 d1 (w64 (y2 + (1 : Int)))))))
def F17_l1 (x0_t : List Pt) (x0_c : List Int) : Nat → (List Int) → Int → Option (List Int)
  | 0, _, _ => none
  | n1 + 1, y1, y2 =>
    let k1 : (List Int) → Int → Option (List Int) := F17_l1 x0_t x0_c n1
    (cond (decide (y2 < (x0_t.length : Int))) ((getI x0_t y2).bind fun p1 => (cond (decide ((x0_c.length : Int) > (0 : Int))) ((nz (x0_c.length : Int)).bind fun _ => ((getI x0_c (Int.tmod y2 (x0_c.length : Int))).bind fun p2 => (F17_j1 k1 y1 y2 p1 p2))) (F17_j1 k1 y1 y2 p1 0))) (some (y1)))
def F17 (fuel : Nat) (x0_t : List Pt) (x0_c : List Int) : Option (List Int) :=
  (F17_l1 x0_t x0_c fuel ([]) 0)
set_option maxRecDepth 100000 in
theorem f17_ok (fuel : Nat) (x0_t : List Pt) (x0_c : List Int) (r : List Int) (hr : F17 fuel x0_t x0_c = some r) (h : Zone) (L : List Atom) (w : World) (hS : St h L w) (o_x0_t : Option Addr) (c_x0_t : Nat) (hx_x0_t : SliceR PtT h o_x0_t c_x0_t x0_t) (o_x0_c : Option Addr) (c_x0_c : Nat) (hx_x0_c : SliceR Ty.int h o_x0_c c_x0_c x0_c) :
    Calls Try.prog 17 #[.agg #[.slice o_x0_t x0_t.length c_x0_t, .slice o_x0_c x0_c.length c_x0_c]] w fun e w' => ∃ v, e = .returned v ∧ (∃ h', ∃ o0 : Option Addr, ∃ c0 : Nat, Zone.le h h' ∧ v = .slice o0 r.length c0 ∧ St h' L w' ∧ SliceR Ty.int h' o0 c0 r) := by
 refine calls_intro (N := 51) Try.func17 (by kernel_rfl) fun a hf => ?_
 refine w_sr (by kernel_rfl) ?_
 refine p_box (i := 0) (d := (some 1)) (cs := [.slice o_x0_t x0_t.length c_x0_t, .slice o_x0_c x0_c.length c_x0_c]) (T := 27) (v := fun b1 => pB b1 0) hS hf (fun b => by kernel_rfl) fun b1 ww1 a1 hS1 hf1 => ⟨fun _ => trivial, ?_⟩
 refine p_qt [] [(1, pB b1 0)] [] hf1 (by kernel_rfl) .nil fun a2 hf2 => ?_
 refine w_sq [] [(1, pB b1 0), (3, .slice none 0 0)] [] hf2 (by kernel_rfl) .nil fun a3 hf3 => ?_
 refine w_seq (by kernel_rfl) ?_
 refine w_sq [.slice o_x0_t x0_t.length c_x0_t] [(1, pB b1 0), (3, .slice none 0 0), (10, .slice o_x0_t x0_t.length c_x0_t), (11, vI (x0_t.length : Int)), (12, vI 0)] [.cell ⟨b1, 0, none⟩ (.slice o_x0_t x0_t.length c_x0_t)] hf3 (by kernel_rfl) (.cell (hS1.box (i := 0) rfl (j := 0) rfl) .nil) fun a4 hf4 => ?_
 refine w_block (id := 0) (by kernel_rfl) ?_
 have hS2 := hS1.ownNil Ty.int 3
 have hf5 := Fr.keep (ks := [1, 3, 10, 11, 12]) (r := [(1, pB b1 0), (3, .slice none 0 0), (10, .slice o_x0_t x0_t.length c_x0_t), (11, vI (x0_t.length : Int)), (12, vI 0)]) hf4 (by kernel_rfl)
 refine w_loop (by kernel_rfl) (fun n a w => ∃ z1 : Zone, ∃ y1 : List Int, ∃ y2 : Int, ∃ e1 : Option Addr, ∃ q1 : Nat, Zone.le h z1 ∧ Fr a 51 [(1, pB b1 0), (3, .slice e1 y1.length q1), (10, .slice o_x0_t x0_t.length c_x0_t), (11, vI (x0_t.length : Int)), (12, vI y2)] ∧ St z1 (ownS Ty.int 3 e1 q1 y1 :: box b1 [.slice o_x0_t x0_t.length c_x0_t, .slice o_x0_c x0_c.length c_x0_c] 27 :: L) w ∧ (F17_l1 x0_t x0_c n y1 y2) = some r) fuel ⟨h, [], 0, none, 0, (Zone.le_refl _), hf5, hS2, hr⟩ ?_
 rintro n2 a5 ww2 ⟨z1, y1, y2, e1, q1, k2, hf6, hS3, hr1⟩
 cases n2 with
 | zero => cases hr1
 | succ n1 =>
 refine w_sq [] [(1, pB b1 0), (3, .slice e1 y1.length q1), (10, .slice o_x0_t x0_t.length c_x0_t), (11, vI (x0_t.length : Int)), (12, vI y2), (13, .bool (decide (y2 < (x0_t.length : Int))))] [] hf6 (by kernel_rfl) .nil fun a6 hf7 => ?_
 refine w_seq (by kernel_rfl) ?_
 refine w_if hf7 (b := (decide (y2 < (x0_t.length : Int)))) (by kernel_rfl) (fun hb1 => ?_) (fun hb1 => ?_)
 ·have hr2 := cond_t hb1 hr1
  refine w_skip (by kernel_rfl) ?_
  refine n_then ?_
  refine w_seq (by kernel_rfl) ?_
  refine w_block (id := 1) (by kernel_rfl) ?_
  refine w_sr (by kernel_rfl) ?_
  obtain ⟨p1, hp2152, hr3⟩ := bind_some hr2
  obtain ⟨ad1, ho1, hb2, cc1, hc1, hk1⟩ := SliceR.getI (SliceR.mono k2 hx_x0_t) hp2152
  subst hc1
  refine p_qn 3 [.pointer (some ad1), vI p1.x, vI p1.lo, vI p1.hi] [(1, pB b1 0), (3, .slice e1 y1.length q1), (10, .slice o_x0_t x0_t.length c_x0_t), (11, vI (x0_t.length : Int)), (12, vI y2), (14, vI y2), (16, .agg #[vI p1.x, vI p1.lo, vI p1.hi])] [.prop (o_x0_t = some ad1), .prop (0 ≤ y2 ∧ y2 < (x0_t.length : Nat)), .cell ((ad1.add (Int.toNat y2 * 3)).add 0) (vI p1.x), .cell ((ad1.add (Int.toNat y2 * 3)).add 1) (vI p1.lo), .cell ((ad1.add (Int.toNat y2 * 3)).add 2) (vI p1.hi)] hf7 (by kernel_rfl) (.prop ho1 (.prop hb2 (.cell (hS3.cell (hk1 0 _ rfl)) (.cell (hS3.cell (hk1 1 _ rfl)) (.cell (hS3.cell (hk1 2 _ rfl)) .nil))))) fun a7 hf8 => ?_
  refine p_box (i := 3) (d := (some 5)) (cs := [vI 0, vI 0, vI 0]) (T := 52) (v := fun b2 => pB b2 0) hS3 hf8 (fun b => by kernel_rfl) fun b2 ww3 a8 hS4 hf9 => ⟨fun _ => trivial, ?_⟩
  refine p_qn 1 [] [(1, pB b1 0), (3, .slice e1 y1.length q1), (4, vI y2), (5, pB b2 0), (10, .slice o_x0_t x0_t.length c_x0_t), (11, vI (x0_t.length : Int)), (12, vI y2), (16, .agg #[vI p1.x, vI p1.lo, vI p1.hi])] [] hf9 (by kernel_rfl) .nil fun a9 hf10 => ?_
  refine p_store_eq (i := 5) (j := 0) (b := b2) (off := 0) (vs := [vI p1.x, vI p1.lo, vI p1.hi]) (cs' := [vI p1.x, vI p1.lo, vI p1.hi]) hS4 hf10 rfl (by kernel_rfl) (by kernel_rfl) rfl fun ww4 a10 hS5 hf11 => ⟨fun _ => trivial, ?_⟩
  refine p_dt (by kernel_rfl) ?_
  refine w_sq [] [(1, pB b1 0), (3, .slice e1 y1.length q1), (4, vI y2), (5, pB b2 0), (6, vI 0), (10, .slice o_x0_t x0_t.length c_x0_t), (11, vI (x0_t.length : Int)), (12, vI y2)] [] hf11 (by kernel_rfl) .nil fun a11 hf12 => ?_
  refine w_mid (by kernel_rfl) (fun a w => ∃ z2 : Zone, ∃ y3 : Int, Zone.le z1 z2 ∧ Fr a 51 [(1, pB b1 0), (3, .slice e1 y1.length q1), (5, pB b2 0), (6, vI y3), (10, .slice o_x0_t x0_t.length c_x0_t), (11, vI (x0_t.length : Int)), (12, vI y2)] ∧ St z2 (box b2 [vI p1.x, vI p1.lo, vI p1.hi] 52 :: ownS Ty.int 3 e1 q1 y1 :: box b1 [.slice o_x0_t x0_t.length c_x0_t, .slice o_x0_c x0_c.length c_x0_c] 27 :: L) w ∧ (F17_j1 (F17_l1 x0_t x0_c n1) y1 y2 p1 y3) = some r) ?_ ?_
  ·skip
   refine w_sq [.slice o_x0_c x0_c.length c_x0_c] [(1, pB b1 0), (3, .slice e1 y1.length q1), (4, vI y2), (5, pB b2 0), (6, vI 0), (10, .slice o_x0_t x0_t.length c_x0_t), (11, vI (x0_t.length : Int)), (12, vI y2), (20, .bool (decide ((x0_c.length : Int) > (0 : Int))))] [.cell ⟨b1, 1, none⟩ (.slice o_x0_c x0_c.length c_x0_c)] hf12 (by kernel_rfl) (.cell (hS5.box (i := 2) rfl (j := 1) rfl) .nil) fun a12 hf13 => ?_
   refine w_if hf13 (b := (decide ((x0_c.length : Int) > (0 : Int)))) (by kernel_rfl) (fun hb3 => ?_) (fun hb3 => ?_)
   ·have hr4 := cond_t hb3 hr3
    have hS6 := hS5.drew
    obtain ⟨u1, hd1, hr5⟩ := bind_some hr4
    obtain ⟨p2, hp2233, hr6⟩ := bind_some hr5
    obtain ⟨ad2, ho2, hb4, cc2, hc2, hk2⟩ := SliceR.getI (SliceR.mono k2 hx_x0_c) hp2233
    subst hc2
    refine w_qD [(0, true), (1, true), (2, true), (3, true), (4, true), (5, true), (6, true), (7, true), (8, true), (9, true)] [] [.slice o_x0_c x0_c.length c_x0_c, .slice o_x0_c x0_c.length c_x0_c, .pointer (some ad2), vI p2] [(1, pB b1 0), (3, .slice e1 y1.length q1), (5, pB b2 0), (6, vI p2), (10, .slice o_x0_t x0_t.length c_x0_t), (11, vI (x0_t.length : Int)), (12, vI y2)] [.cell ⟨b1, 1, none⟩ (.slice o_x0_c x0_c.length c_x0_c), .cell ⟨b1, 1, none⟩ (.slice o_x0_c x0_c.length c_x0_c), .prop ((x0_c.length : Int) ≠ 0), .prop (o_x0_c = some ad2), .prop (0 ≤ (Int.tmod y2 (x0_c.length : Int)) ∧ (Int.tmod y2 (x0_c.length : Int)) < (x0_c.length : Nat)), .cell ((ad2.add (Int.toNat (Int.tmod y2 (x0_c.length : Int)) * 1)).add 0) (vI p2)] [] hf13 (by kernel_rfl) (.cell (hS6.box (i := 2) rfl (j := 1) rfl) (.cell (hS6.box (i := 2) rfl (j := 1) rfl) (.prop (nz_spec hd1) (.prop ho2 (.prop hb4 (.cell (hS6.cell (hk2 0 _ rfl)) .nil)))))) .nil fun a13 hf14 => ?_
    refine n_then ?_
    have hf15 := Fr.keep (ks := [1, 3, 5, 6, 10, 11, 12]) (r := [(1, pB b1 0), (3, .slice e1 y1.length q1), (5, pB b2 0), (6, vI p2), (10, .slice o_x0_t x0_t.length c_x0_t), (11, vI (x0_t.length : Int)), (12, vI y2)]) hf14 (by kernel_rfl)
    exact ⟨z1, p2, (Zone.le_refl _), hf15, hS6, hr6⟩
   ·have hr7 := cond_f hb3 hr3
    refine w_skip (by kernel_rfl) ?_
    refine n_then ?_
    have hf16 := Fr.keep (ks := [1, 3, 5, 6, 10, 11, 12]) (r := [(1, pB b1 0), (3, .slice e1 y1.length q1), (5, pB b2 0), (6, vI 0), (10, .slice o_x0_t x0_t.length c_x0_t), (11, vI (x0_t.length : Int)), (12, vI y2)]) hf13 (by kernel_rfl)
    exact ⟨z1, 0, (Zone.le_refl _), hf16, hS5, hr7⟩
  ·rintro a14 ww5 ⟨z2, y3, k3, hf17, hS7, hr8⟩
   refine w_sq [vI p1.hi, vI p1.lo] [(1, pB b1 0), (3, .slice e1 y1.length q1), (5, pB b2 0), (6, vI y3), (7, vI (w64 ((w64 (p1.hi - p1.lo)) + (1 : Int)))), (10, .slice o_x0_t x0_t.length c_x0_t), (11, vI (x0_t.length : Int)), (12, vI y2)] [.cell ⟨b2, 2, none⟩ (vI p1.hi), .cell ⟨b2, 1, none⟩ (vI p1.lo)] hf17 (by kernel_rfl) (.cell (hS7.box (i := 0) rfl (j := 2) rfl) (.cell (hS7.box (i := 0) rfl (j := 1) rfl) .nil)) fun a15 hf18 => ?_
   have hS8 := hS7.drew
   refine w_regD (by kernel_rfl) [(0, true), (1, true), (2, true), (3, true), (4, true), (5, true), (6, true), (7, true), (8, true), (9, true), (10, true), (11, false), (12, false), (13, true)] [11, 12] (fun x => x = ww5.drew) (by kernel_rfl) rfl ?_
   obtain ⟨u2, hd2, hr9⟩ := bind_some hr8
   obtain ⟨u3, hd3, hr10⟩ := bind_some hr9
   refine p_qE 11 [vI p1.lo] [(1, pB b1 0), (10, .slice o_x0_t x0_t.length c_x0_t), (11, vI (x0_t.length : Int)), (12, vI y2), (36, .slice e1 y1.length q1), (46, vI (w64 (p1.lo + (Int.tmod (w64 ((Int.tmod y3 (w64 ((w64 (p1.hi - p1.lo)) + (1 : Int)))) + (w64 ((w64 (p1.hi - p1.lo)) + (1 : Int))))) (w64 ((w64 (p1.hi - p1.lo)) + (1 : Int)))))))] [.cell ⟨b2, 1, none⟩ (vI p1.lo), .prop ((w64 ((w64 (p1.hi - p1.lo)) + (1 : Int))) ≠ 0), .prop ((w64 ((w64 (p1.hi - p1.lo)) + (1 : Int))) ≠ 0)] [] hf18 (by kernel_rfl) (.cell (hS8.box (i := 0) rfl (j := 1) rfl) (.prop (nz_spec hd2) (.prop (nz_spec hd3) .nil))) .nil fun a16 hf19 => ?_
   refine p_box (i := 11) (d := (some 47)) (cs := [vI (w64 (p1.lo + (Int.tmod (w64 ((Int.tmod y3 (w64 ((w64 (p1.hi - p1.lo)) + (1 : Int)))) + (w64 ((w64 (p1.hi - p1.lo)) + (1 : Int))))) (w64 ((w64 (p1.hi - p1.lo)) + (1 : Int))))))]) (T := 3) (v := fun b3 => .slice (some ⟨b3, 0, none⟩) 1 1) hS8 hf19 (fun b => by kernel_rfl) fun b3 ww6 a17 hS9 hf20 => ⟨fun e => absurd e (by decide), ?_⟩
   have hS10 := hS9.ownBox (T := Ty.int) (E := 3) (n := 1) (xs := [(w64 (p1.lo + (Int.tmod (w64 ((Int.tmod y3 (w64 ((w64 (p1.hi - p1.lo)) + (1 : Int)))) + (w64 ((w64 (p1.hi - p1.lo)) + (1 : Int))))) (w64 ((w64 (p1.hi - p1.lo)) + (1 : Int))))))]) (i := 0) rfl (Rows.cons (c := [vI (w64 (p1.lo + (Int.tmod (w64 ((Int.tmod y3 (w64 ((w64 (p1.hi - p1.lo)) + (1 : Int)))) + (w64 ((w64 (p1.hi - p1.lo)) + (1 : Int))))) (w64 ((w64 (p1.hi - p1.lo)) + (1 : Int))))))]) rfl rfl) rfl (by decide)
   obtain ⟨d1, hd4, hr11⟩ := bind_some hr10
   refine p_append (T := Ty.int) (i := 12) (j := 2) (d := some 48) (o2 := (some ⟨b3, 0, none⟩)) (c2 := 1) (ys := ([(w64 (p1.lo + (Int.tmod (w64 ((Int.tmod y3 (w64 ((w64 (p1.hi - p1.lo)) + (1 : Int)))) + (w64 ((w64 (p1.hi - p1.lo)) + (1 : Int))))) (w64 ((w64 (p1.hi - p1.lo)) + (1 : Int))))))])) el25 hS10 hf20 rfl (by kernel_rfl) (hS10.ownSrc (j := 0) rfl) hd4 fun e2 q2 ww7 a18 hS11 hf21 => ⟨fun e => absurd e (by decide), ?_⟩
   refine p_qP 1 [] [(1, pB b1 0), (3, .slice e2 d1.length q2), (10, .slice o_x0_t x0_t.length c_x0_t), (11, vI (x0_t.length : Int)), (12, vI y2)] [] hf21 (by kernel_rfl) (fun _ => .nil) fun a19 hf22 => ?_
   refine p_done (by kernel_rfl) ?_
   refine n_block ?_
   refine n_then ?_
   refine w_q [] [(1, pB b1 0), (3, .slice e2 d1.length q2), (10, .slice o_x0_t x0_t.length c_x0_t), (11, vI (x0_t.length : Int)), (12, vI (w64 (y2 + (1 : Int))))] [] hf22 (by kernel_rfl) .nil fun a20 hf23 => ?_
   refine n_then ?_
   have hf24 := Fr.keep (ks := [1, 3, 10, 11, 12]) (r := [(1, pB b1 0), (3, .slice e2 d1.length q2), (10, .slice o_x0_t x0_t.length c_x0_t), (11, vI (x0_t.length : Int)), (12, vI (w64 (y2 + (1 : Int))))]) hf23 (by kernel_rfl)
   exact ⟨n1, Nat.lt_succ_self n1, z2, d1, (w64 (y2 + (1 : Int))), e2, q2, (Zone.le_trans k2 k3), hf24, (St.drop 2 hS11), hr11⟩
 ·have hr12 := cond_f hb1 hr1
  refine w_exit (id := 0) (by kernel_rfl) ?_
  refine x_then ?_
  refine x_then ?_
  refine x_block ?_
  refine n_then ?_
  refine w_sq [] [(2, .slice e1 y1.length q1)] [] hf7 (by kernel_rfl) .nil fun a21 hf25 => ?_
  refine w_ret (by kernel_rfl) ?_
  obtain ⟨z3, k4, hS12, hx1⟩ := hS3.share (j := 0) rfl
  refine p_ret (os := []) (v := .slice e1 y1.length q1) (obs := []) hf25 (by kernel_rfl) .nil ?_
  obtain rfl := some_eq hr12
  exact ⟨_, rfl, z3, e1, q1, (Zone.le_trans k2 k4), rfl, (St.drop 2 hS12), hx1⟩
def F23_j1 (y1 : List Rng) : Option (List Rng × Int) :=
  (some (y1, 0))
def F23_j2 (k1 : (List Rng) → Int → Int → Option (List Rng × Int)) (y2 : Int) (y3 : List Rng) : Option (List Rng × Int) :=
  (k1 y3 y2 (w64 (y2 + (1 : Int))))
def F23_j3 (k1 : (List Rng) → Int → Int → Option (List Rng × Int)) (y4 : List Rng) (y2 : Int) (y5 : Bool) : Option (List Rng × Int) :=
  (cond y5 ((getI y4 (w64 ((y4.length : Int) - (1 : Int)))).bind fun p1 => ((setI y4 (w64 ((y4.length : Int) - (1 : Int))) ({ p1 with hi := y2 })).bind fun d1 => (F23_j2 k1 y2 d1))) ((appC y4 ([⟨y2, y2⟩])).bind fun d2 => (F23_j2 k1 y2 d2)))
def F23_l1 (fuel : Nat) (x1 : Int) (p2 : Pt) (p3 : Pt) : Nat → (List Rng) → Int → Int → Option (List Rng × Int)
  | 0, _, _, _ => none
  | n1 + 1, y4, y6, y2 =>
    let k1 : (List Rng) → Int → Int → Option (List Rng × Int) := F23_l1 fuel x1 p2 p3 n1
    (cond (decide (y2 ≤ p3.x)) ((F121 fuel p2.x p2.lo p2.hi p3.x p3.lo p3.hi y2).bind fun r1 => (cond (!(decide (r1.1 ≥ x1))) (F23_j2 k1 y2 y4) (cond (decide ((w64 ((y4.length : Int) - (1 : Int))) ≥ (0 : Int))) ((getI y4 (w64 ((y4.length : Int) - (1 : Int)))).bind fun p4 => (F23_j3 k1 y4 y2 (p4.hi == (w64 (y2 - (1 : Int)))))) (F23_j3 k1 y4 y2 false)))) (F23_j1 y4))
def F23_j4 (k2 : (List Rng) → Int → Int → Option (List Rng × Int)) (y7 : Int) (y8 : List Rng) : Option (List Rng × Int) :=
  (k2 y8 y7 (w64 (y7 + (1 : Int))))
def F23_j5 (k2 : (List Rng) → Int → Int → Option (List Rng × Int)) (y9 : List Rng) (y7 : Int) (y10 : Bool) : Option (List Rng × Int) :=
  (cond y10 ((getI y9 (w64 ((y9.length : Int) - (1 : Int)))).bind fun p5 => ((setI y9 (w64 ((y9.length : Int) - (1 : Int))) ({ p5 with hi := y7 })).bind fun d3 => (F23_j4 k2 y7 d3))) ((appC y9 ([⟨y7, y7⟩])).bind fun d4 => (F23_j4 k2 y7 d4)))
def F23_l3 (fuel : Nat) (k3 : (List Rng) → Int → Int → Option (List Rng × Int)) (x1 : Int) (y11 : Int) (p6 : Pt) (p7 : Pt) : Nat → (List Rng) → Int → Int → Option (List Rng × Int)
  | 0, _, _, _ => none
  | n2 + 1, y9, y12, y7 =>
    let k2 : (List Rng) → Int → Int → Option (List Rng × Int) := F23_l3 fuel k3 x1 y11 p6 p7 n2
    (cond (decide (y7 ≤ p6.x)) ((F121 fuel p7.x p7.lo p7.hi p6.x p6.lo p6.hi y7).bind fun r2 => (cond (!(decide (r2.1 ≥ x1))) (F23_j4 k2 y7 y9) (cond (decide ((w64 ((y9.length : Int) - (1 : Int))) ≥ (0 : Int))) ((getI y9 (w64 ((y9.length : Int) - (1 : Int)))).bind fun p8 => (F23_j5 k2 y9 y7 (p8.hi == (w64 (y7 - (1 : Int)))))) (F23_j5 k2 y9 y7 false)))) (k3 y9 y12 (w64 (y11 + (1 : Int)))))
def F23_l2 (fuel : Nat) (x0 : List Pt) (x1 : Int) (d5 : List Pt) : Nat → (List Rng) → Int → Int → Option (List Rng × Int)
  | 0, _, _, _ => none
  | n3 + 1, y13, y14, y11 =>
    let k3 : (List Rng) → Int → Int → Option (List Rng × Int) := F23_l2 fuel x0 x1 d5 n3
    (cond (decide (y11 < (d5.length : Int))) ((getI d5 y11).bind fun p6 => ((getI x0 y11).bind fun p7 => (F23_l3 fuel k3 x1 y11 p6 p7 fuel y13 y14 (if (w64 (y14 + (1 : Int))) > p7.x then (w64 (y14 + (1 : Int))) else p7.x)))) (F23_j1 y13))
def F23 (fuel : Nat) (x0 : List Pt) (x1 : Int) : Option (List Rng × Int) :=
  ((F67 fuel x0).bind fun r3 => (cond (r3 != (0 : Int)) (some ([], r3)) (cond ((x0.length : Int) == (1 : Int)) ((getI x0 0).bind fun p2 => ((getI x0 0).bind fun p3 => (F23_l1 fuel x1 p2 p3 fuel ([]) (-1) (if 0 > p2.x then 0 else p2.x)))) ((subI x0 1 (x0.length : Int)).bind fun d5 => (F23_l2 fuel x0 x1 d5 fuel ([]) (-1) 0)))))
set_option maxRecDepth 100000 in
theorem f23_ok (fuel : Nat) (x0 : List Pt) (x1 : Int) (r : List Rng × Int) (hr : F23 fuel x0 x1 = some r) (h : Zone) (L : List Atom) (w : World) (hS : St h L w) (o_x0 : Option Addr) (c_x0 : Nat) (hx_x0 : SliceR PtT h o_x0 c_x0 x0) :
    Calls Try.prog 23 #[.agg #[.slice o_x0 x0.length c_x0], vI x1] w fun e w' => ∃ v, e = .returned v ∧ (∃ h', ∃ o0 : Option Addr, ∃ c0 : Nat, Zone.le h h' ∧ v = .tuple #[.slice o0 r.1.length c0, vI r.2] ∧ St h' L w' ∧ SliceR RngT h' o0 c0 r.1) := by
 refine calls_intro (N := 15) Try.func23 (by kernel_rfl) fun a hf => ?_
 refine w_sr (by kernel_rfl) ?_
 refine p_box (i := 0) (d := (some 2)) (cs := [.slice o_x0 x0.length c_x0]) (T := 24) (v := fun b1 => pB b1 0) hS hf (fun b => by kernel_rfl) fun b1 ww1 a1 hS1 hf1 => ⟨fun _ => trivial, ?_⟩
 refine p_box (i := 1) (d := (some 3)) (cs := [vI x1]) (T := 3) (v := fun b2 => pB b2 0) hS1 hf1 (fun b => by kernel_rfl) fun b2 ww2 a2 hS2 hf2 => ⟨fun _ => trivial, ?_⟩
 refine p_qt [] [(2, pB b1 0), (3, pB b2 0)] [] hf2 (by kernel_rfl) .nil fun a3 hf3 => ?_
 refine w_seq (by kernel_rfl) ?_
 refine w_sr (by kernel_rfl) ?_
 refine p_qn 1 [.slice o_x0 x0.length c_x0] [(2, pB b1 0), (3, pB b2 0), (7, .agg #[.slice o_x0 x0.length c_x0])] [.cell ⟨b1, 0, none⟩ (.slice o_x0 x0.length c_x0)] hf3 (by kernel_rfl) (.cell (hS2.box (i := 1) rfl (j := 0) rfl) .nil) fun a4 hf4 => ?_
 obtain ⟨r3, hd1, hr1⟩ := bind_some hr
 refine p_call (i := 1) (d := some 8) (f := 67) (args := #[.agg #[.slice o_x0 x0.length c_x0]]) hf4 (by kernel_rfl) (f67_ok fuel x0 r3 hd1 h _ _ hS2 o_x0 c_x0 hx_x0) ?_
 rintro v1 ww3 a5 ⟨z1, k4, rfl, hS3⟩ hf5
 refine ⟨fun _ => trivial, ?_⟩
 refine p_qt [] [(2, pB b1 0), (3, pB b2 0), (6, vI r3)] [] hf5 (by kernel_rfl) .nil fun a6 hf6 => ?_
 refine w_sq [] [(2, pB b1 0), (3, pB b2 0), (6, vI r3), (10, .bool (r3 != (0 : Int)))] [] hf6 (by kernel_rfl) .nil fun a7 hf7 => ?_
 refine w_if hf7 (b := (r3 != (0 : Int))) (by kernel_rfl) (fun hb1 => ?_) (fun hb1 => ?_)
 ·have hr2 := cond_t hb1 hr1
  refine w_sq [] [(4, .slice none 0 0), (5, vI r3)] [] hf7 (by kernel_rfl) .nil fun a8 hf8 => ?_
  refine w_ret (by kernel_rfl) ?_
  refine r_then ?_
  refine p_ret (os := []) (v := .tuple #[.slice none 0 0, vI r3]) (obs := []) hf8 (by kernel_rfl) .nil ?_
  obtain rfl := some_eq hr2
  exact ⟨_, rfl, z1, none, 0, k4, rfl, (St.drop 2 hS3), SliceR.nil' _ _⟩
 ·have hr3 := cond_f hb1 hr1
  refine w_skip (by kernel_rfl) ?_
  refine n_then ?_
  refine w_sr (by kernel_rfl) ?_
  refine p_qn 2 [.slice o_x0 x0.length c_x0] [(12, .agg #[.slice o_x0 x0.length c_x0]), (13, .func (.func 96) #[] #[pB b2 0])] [.cell ⟨b1, 0, none⟩ (.slice o_x0 x0.length c_x0)] hf7 (by kernel_rfl) (.cell (hS3.box (i := 1) rfl (j := 0) rfl) .nil) fun a9 hf9 => ?_
  refine p_call (i := 2) (d := some 14) (f := 93) (args := #[.agg #[.slice o_x0 x0.length c_x0], .func (.func 96) #[] #[pB b2 0]]) hf9 (by kernel_rfl) (Φ := fun v w => ∃ z2 : Zone, ∃ y1 : List Rng, ∃ e1 : Option Addr, ∃ q1 : Nat, Zone.le z1 z2 ∧ v = .slice e1 y1.length q1 ∧ St z2 (ownS RngT 41 e1 q1 y1 :: box b2 [vI x1] 3 :: box b1 [.slice o_x0 x0.length c_x0] 24 :: L) w ∧ (F23_j1 y1) = some r) ?_ ?_
  ·refine calls_intro (N := 60) Try.func93 (by kernel_rfl) fun a10 hf10 => ?_
   refine w_sr (by kernel_rfl) ?_
   refine p_box (i := 0) (d := (some 2)) (cs := [.slice o_x0 x0.length c_x0]) (T := 24) (v := fun b3 => pB b3 0) hS3 hf10 (fun b => by kernel_rfl) fun b3 ww4 a11 hS4 hf11 => ⟨fun _ => trivial, ?_⟩
   refine p_box (i := 1) (d := (some 3)) (cs := [.func (.func 96) #[] #[pB b2 0]]) (T := 61) (v := fun b4 => pB b4 0) hS4 hf11 (fun b => by kernel_rfl) fun b4 ww5 a12 hS5 hf12 => ⟨fun _ => trivial, ?_⟩
   refine p_qt [] [(2, pB b3 0), (3, pB b4 0)] [] hf12 (by kernel_rfl) .nil fun a13 hf13 => ?_
   refine w_sr (by kernel_rfl) ?_
   refine p_box (i := 0) (d := (some 5)) (cs := [.slice none 0 0]) (T := 45) (v := fun b5 => pB b5 0) hS5 hf13 (fun b => by kernel_rfl) fun b5 ww6 a14 hS6 hf14 => ⟨fun _ => trivial, ?_⟩
   refine p_dt (by kernel_rfl) ?_
   refine w_sr (by kernel_rfl) ?_
   refine p_box (i := 0) (d := (some 6)) (cs := [vI 0]) (T := 3) (v := fun b6 => pB b6 0) hS6 hf14 (fun b => by kernel_rfl) fun b6 ww7 a15 hS7 hf15 => ⟨fun _ => trivial, ?_⟩
   refine p_store_eq (i := 1) (j := 0) (b := b6) (off := 0) (vs := [vI (-1)]) (cs' := [vI (-1)]) hS7 hf15 rfl (by kernel_rfl) (by kernel_rfl) rfl fun ww8 a16 hS8 hf16 => ⟨fun _ => trivial, ?_⟩
   refine p_dt (by kernel_rfl) ?_
   refine w_seq (by kernel_rfl) ?_
   refine w_sr (by kernel_rfl) ?_
   refine p_qn 1 [.slice o_x0 x0.length c_x0] [(3, pB b4 0), (5, pB b5 0), (6, pB b6 0), (10, .agg #[.slice o_x0 x0.length c_x0])] [.cell ⟨b3, 0, none⟩ (.slice o_x0 x0.length c_x0)] hf16 (by kernel_rfl) (.cell (hS8.box (i := 3) rfl (j := 0) rfl) .nil) fun a17 hf17 => ?_
   refine p_inl (i := 1) (d := some 11) (f := 118) (args := #[.agg #[.slice o_x0 x0.length c_x0]]) (N' := 4) hf17 (by kernel_rfl) Try.func118 (by kernel_rfl) fun a18 hf18 => ?_
   refine w_sr (by kernel_rfl) ?_
   refine p_box (i := 0) (d := (some 1)) (cs := [.slice o_x0 x0.length c_x0]) (T := 24) (v := fun b7 => pB b7 0) hS8 hf18 (fun b => by kernel_rfl) fun b7 ww9 a19 hS9 hf19 => ⟨fun _ => trivial, ?_⟩
   refine p_qt [] [(1, pB b7 0)] [] hf19 (by kernel_rfl) .nil fun a20 hf20 => ?_
   refine w_sq [] [(2, .func (.func 130) #[] #[pB b7 0])] [] hf20 (by kernel_rfl) .nil fun a21 hf21 => ?_
   refine w_ret (by kernel_rfl) ?_
   refine p_ret (os := []) (v := .func (.func 130) #[] #[pB b7 0]) (obs := []) hf21 (by kernel_rfl) .nil ?_
   refine ⟨_, rfl, fun a22 hf22 => ?_⟩
   refine ⟨fun _ => trivial, ?_⟩
   refine p_dt (by kernel_rfl) ?_
   refine w_block (id := 0) (by kernel_rfl) ?_
   have hf23 := Fr.keep (ks := [3, 5, 6, 11]) (r := [(3, pB b4 0), (5, pB b5 0), (6, pB b6 0), (11, .func (.func 130) #[] #[pB b7 0])]) hf22 (by kernel_rfl)
   refine w_range (g := 11) (gf := 130) (lb := #[pB b7 0]) (by kernel_rfl) hf23 hS9 (by kernel_rfl) (fun l => by kernel_rfl) fun ps1 A1 B1 hps1 hA1 hB1 l1 D1 ww10 hS10 => ?_
   refine calls_intro (N := 40) Try.func130 (by kernel_rfl) fun a23 hf24 => ?_
   refine w_seq (by kernel_rfl) ?_
   refine w_sq [.slice o_x0 x0.length c_x0] [(0, .func (.yield l1) #[] #[]), (1, pB b7 0), (8, .bool ((x0.length : Int) == (1 : Int)))] [.cell ⟨b7, 0, none⟩ (.slice o_x0 x0.length c_x0)] hf24 (by kernel_rfl) (.cell (hS10.box (i := 2) rfl (j := 0) rfl) .nil) fun a24 hf25 => ?_
   refine w_if hf25 (b := ((x0.length : Int) == (1 : Int))) (by kernel_rfl) (fun hb2 => ?_) (fun hb2 => ?_)
   ·have hr4 := cond_t hb2 hr3
    refine w_seq (by kernel_rfl) ?_
    refine w_regDY (by kernel_rfl) 10 [(0, true), (1, true), (2, true), (3, true), (4, true), (5, true), (6, true), (7, true), (8, true), (9, true)] [] (by kernel_rfl) ?_
    have hS11 := hS10.drew
    obtain ⟨p2, hp23022, hr5⟩ := bind_some hr4
    obtain ⟨ad1, ho1, hb3, cc1, hc1, hk1⟩ := SliceR.getI (SliceR.mono k4 hx_x0) hp23022
    subst hc1
    obtain ⟨p3, hp23031, hr6⟩ := bind_some hr5
    obtain ⟨ad2, ho2, hb4, cc2, hc2, hk2⟩ := SliceR.getI (SliceR.mono k4 hx_x0) hp23031
    subst hc2
    refine p_qzE [.slice o_x0 x0.length c_x0, .pointer (some ad1), vI p2.x, vI p2.lo, vI p2.hi, .slice o_x0 x0.length c_x0, .pointer (some ad2), vI p3.x, vI p3.lo, vI p3.hi] [(9, .func (.yield l1) #[] #[]), (18, .agg #[vI p2.x, vI p2.lo, vI p2.hi, vI p3.x, vI p3.lo, vI p3.hi])] [.cell ⟨b7, 0, none⟩ (.slice o_x0 x0.length c_x0), .prop (o_x0 = some ad1), .prop (0 ≤ (0 : Int) ∧ (0 : Int) < (x0.length : Nat)), .cell ((ad1.add (Int.toNat 0 * 3)).add 0) (vI p2.x), .cell ((ad1.add (Int.toNat 0 * 3)).add 1) (vI p2.lo), .cell ((ad1.add (Int.toNat 0 * 3)).add 2) (vI p2.hi), .cell ⟨b7, 0, none⟩ (.slice o_x0 x0.length c_x0), .prop (o_x0 = some ad2), .prop (0 ≤ (0 : Int) ∧ (0 : Int) < (x0.length : Nat)), .cell ((ad2.add (Int.toNat 0 * 3)).add 0) (vI p3.x), .cell ((ad2.add (Int.toNat 0 * 3)).add 1) (vI p3.lo), .cell ((ad2.add (Int.toNat 0 * 3)).add 2) (vI p3.hi)] [] hf25 (by kernel_rfl) (.cell (hS11.box (i := 2) rfl (j := 0) rfl) (.prop ho1 (.prop hb3 (.cell (hS11.cell (hk1 0 _ rfl)) (.cell (hS11.cell (hk1 1 _ rfl)) (.cell (hS11.cell (hk1 2 _ rfl)) (.cell (hS11.box (i := 2) rfl (j := 0) rfl) (.prop ho2 (.prop hb4 (.cell (hS11.cell (hk2 0 _ rfl)) (.cell (hS11.cell (hk2 1 _ rfl)) (.cell (hS11.cell (hk2 2 _ rfl)) .nil)))))))))))) .nil fun a25 hf26 => ?_
    refine p_yield (d := some 19) (l := l1) (args := #[.agg #[vI p2.x, vI p2.lo, vI p2.hi, vI p3.x, vI p3.lo, vI p3.hi]]) hf26 (by kernel_rfl) hS11 (j := 0) rfl (by rw [hps1]; kernel_rfl) fun a26 hf27 => ?_
    rw [hps1] at hf27
    refine cw_eq hA1 ?_
    refine w_reg (by kernel_rfl) ?_
    refine p_box (i := 0) (d := (some 7)) (cs := [vI 0, vI 0, vI 0, vI 0, vI 0, vI 0]) (T := 127) (v := fun b8 => pB b8 0) hS11 hf27 (fun b => by kernel_rfl) fun b8 ww11 a27 hS12 hf28 => ⟨fun _ => trivial, ?_⟩
    refine p_store_eq (i := 1) (j := 0) (b := b8) (off := 0) (vs := [vI p2.x, vI p2.lo, vI p2.hi, vI p3.x, vI p3.lo, vI p3.hi]) (cs' := [vI p2.x, vI p2.lo, vI p2.hi, vI p3.x, vI p3.lo, vI p3.hi]) hS12 hf28 rfl (by kernel_rfl) (by kernel_rfl) rfl fun ww12 a28 hS13 hf29 => ⟨fun _ => trivial, ?_⟩
    refine p_dt (by kernel_rfl) ?_
    refine p_begin hS13 (j := 1) rfl fun ww13 hS14 => ?_
    refine cw_eq hB1 ?_
    refine w_block (id := 1) (by kernel_rfl) ?_
    refine w_sq [vI p2.x, vI (-1)] [(3, pB b4 0), (5, pB b5 0), (6, pB b6 0), (7, pB b8 0), (8, vI (if 0 > p2.x then 0 else p2.x))] [.cell ⟨b8, 0, none⟩ (vI p2.x), .cell ⟨b6, 0, none⟩ (vI (-1))] hf29 (by kernel_rfl) (.cell (hS14.box (i := 0) rfl (j := 0) rfl) (.cell (hS14.box (i := 4) rfl (j := 0) rfl) .nil)) fun a29 hf30 => ?_
    refine w_block (id := 2) (by kernel_rfl) ?_
    have hS15 := hS14.ownNil RngT 41
    have hf31 := Fr.keep (ks := [3, 5, 6, 7, 8]) (r := [(3, pB b4 0), (5, pB b5 0), (6, pB b6 0), (7, pB b8 0), (8, vI (if 0 > p2.x then 0 else p2.x))]) hf30 (by kernel_rfl)
    refine w_loop (by kernel_rfl) (fun n a w => ∃ z3 : Zone, ∃ y4 : List Rng, ∃ y6 : Int, ∃ y2 : Int, ∃ e2 : Option Addr, ∃ q2 : Nat, Zone.le z1 z3 ∧ Fr a 60 [(3, pB b4 0), (5, pB b5 0), (6, pB b6 0), (7, pB b8 0), (8, vI y2)] ∧ St z3 (ownS RngT 41 e2 q2 y4 :: box b8 [vI p2.x, vI p2.lo, vI p2.hi, vI p3.x, vI p3.lo, vI p3.hi] 127 :: loopA l1 60 [(3, pB b4 0), (5, pB b5 0), (6, pB b6 0), (11, .func (.func 130) #[] #[pB b7 0])] ps1 A1 B1 D1 .busy none :: defA D1 :: box b7 [.slice o_x0 x0.length c_x0] 24 :: box b6 [vI y6] 3 :: box b5 [.slice e2 y4.length q2] 45 :: box b4 [.func (.func 96) #[] #[pB b2 0]] 61 :: box b3 [.slice o_x0 x0.length c_x0] 24 :: box b2 [vI x1] 3 :: box b1 [.slice o_x0 x0.length c_x0] 24 :: L) w ∧ (F23_l1 fuel x1 p2 p3 n y4 y6 y2) = some r) fuel ⟨z1, [], -1, (if 0 > p2.x then 0 else p2.x), none, 0, (Zone.le_refl _), hf31, hS15, hr6⟩ ?_
    rintro n4 a30 ww14 ⟨z3, y4, y6, y2, e2, q2, k5, hf32, hS16, hr7⟩
    cases n4 with
    | zero => cases hr7
    | succ n1 =>
    refine w_seq (by kernel_rfl) ?_
    refine w_sq [vI p3.x] [(3, pB b4 0), (5, pB b5 0), (6, pB b6 0), (7, pB b8 0), (8, vI y2), (23, .bool (decide (y2 ≤ p3.x)))] [.cell ⟨b8, 3, none⟩ (vI p3.x)] hf32 (by kernel_rfl) (.cell (hS16.box (i := 1) rfl (j := 3) rfl) .nil) fun a31 hf33 => ?_
    refine w_if hf33 (b := (decide (y2 ≤ p3.x))) (by kernel_rfl) (fun hb5 => ?_) (fun hb5 => ?_)
    ·have hr8 := cond_t hb5 hr7
     refine w_skip (by kernel_rfl) ?_
     refine n_then ?_
     refine w_mid (by kernel_rfl) (fun a w => ∃ z4 : Zone, ∃ y3 : List Rng, ∃ e3 : Option Addr, ∃ q3 : Nat, Zone.le z3 z4 ∧ Fr a 60 [(3, pB b4 0), (5, pB b5 0), (6, pB b6 0), (7, pB b8 0), (8, vI y2)] ∧ St z4 (ownS RngT 41 e3 q3 y3 :: box b8 [vI p2.x, vI p2.lo, vI p2.hi, vI p3.x, vI p3.lo, vI p3.hi] 127 :: loopA l1 60 [(3, pB b4 0), (5, pB b5 0), (6, pB b6 0), (11, .func (.func 130) #[] #[pB b7 0])] ps1 A1 B1 D1 .busy none :: defA D1 :: box b7 [.slice o_x0 x0.length c_x0] 24 :: box b6 [vI y2] 3 :: box b5 [.slice e3 y3.length q3] 45 :: box b4 [.func (.func 96) #[] #[pB b2 0]] 61 :: box b3 [.slice o_x0 x0.length c_x0] 24 :: box b2 [vI x1] 3 :: box b1 [.slice o_x0 x0.length c_x0] 24 :: L) w ∧ (F23_j2 (F23_l1 fuel x1 p2 p3 n1) y2 y3) = some r) ?_ ?_
     ·skip
      refine w_block (id := 3) (by kernel_rfl) ?_
      refine w_sr (by kernel_rfl) ?_
      refine p_qn 1 [] [(3, pB b4 0), (5, pB b5 0), (6, pB b6 0), (7, pB b8 0), (8, vI y2), (26, vI y2)] [] hf33 (by kernel_rfl) .nil fun a32 hf34 => ?_
      refine p_store_eq (i := 1) (j := 5) (b := b6) (off := 0) (vs := [vI y2]) (cs' := [vI y2]) hS16 hf34 rfl (by kernel_rfl) (by kernel_rfl) rfl fun ww15 a33 hS17 hf35 => ⟨fun _ => trivial, ?_⟩
      refine p_dt (by kernel_rfl) ?_
      refine w_seq (by kernel_rfl) ?_
      refine w_seq (by kernel_rfl) ?_
      have hS18 := hS17.drew
      have s1 : Sub z3 (ownS RngT 41 e2 q2 y4 :: box b8 [vI p2.x, vI p2.lo, vI p2.hi, vI p3.x, vI p3.lo, vI p3.hi] 127 :: loopA l1 60 [(3, pB b4 0), (5, pB b5 0), (6, pB b6 0), (11, .func (.func 130) #[] #[pB b7 0])] ps1 A1 B1 D1 .busy none :: defA D1 :: box b7 [.slice o_x0 x0.length c_x0] 24 :: box b6 [vI y2] 3 :: box b5 [.slice e2 y4.length q2] 45 :: box b4 [.func (.func 96) #[] #[pB b2 0]] 61 :: box b3 [.slice o_x0 x0.length c_x0] 24 :: box b2 [vI x1] 3 :: box b1 [.slice o_x0 x0.length c_x0] 24 :: L) _ := Sub.of (Zone.le_refl _) hS18
      refine w_regD (by kernel_rfl) [(0, true), (1, true), (2, true), (3, false), (4, false), (5, true)] [4] (Sub z3 (ownS RngT 41 e2 q2 y4 :: box b8 [vI p2.x, vI p2.lo, vI p2.hi, vI p3.x, vI p3.lo, vI p3.hi] 127 :: loopA l1 60 [(3, pB b4 0), (5, pB b5 0), (6, pB b6 0), (11, .func (.func 130) #[] #[pB b7 0])] ps1 A1 B1 D1 .busy none :: defA D1 :: box b7 [.slice o_x0 x0.length c_x0] 24 :: box b6 [vI y2] 3 :: box b5 [.slice e2 y4.length q2] 45 :: box b4 [.func (.func 96) #[] #[pB b2 0]] 61 :: box b3 [.slice o_x0 x0.length c_x0] 24 :: box b2 [vI x1] 3 :: box b1 [.slice o_x0 x0.length c_x0] 24 :: L)) (by kernel_rfl) s1 ?_
      refine p_qS 3 [.func (.func 96) #[] #[pB b2 0], vI p2.x, vI p2.lo, vI p2.hi, vI p3.x, vI p3.lo, vI p3.hi] [(3, pB b4 0), (5, pB b5 0), (6, pB b6 0), (7, pB b8 0), (8, vI y2), (27, .func (.func 96) #[] #[pB b2 0]), (28, .agg #[vI p2.x, vI p2.lo, vI p2.hi, vI p3.x, vI p3.lo, vI p3.hi]), (29, vI y2)] [.cell ⟨b4, 0, none⟩ (.func (.func 96) #[] #[pB b2 0]), .cell ⟨b8, 0, none⟩ (vI p2.x), .cell ⟨b8, 1, none⟩ (vI p2.lo), .cell ⟨b8, 2, none⟩ (vI p2.hi), .cell ⟨b8, 3, none⟩ (vI p3.x), .cell ⟨b8, 4, none⟩ (vI p3.lo), .cell ⟨b8, 5, none⟩ (vI p3.hi)] [] s1 hf35 (by kernel_rfl) (fun _ s => (.cell (s.box (i := 7) rfl (j := 0) rfl) (.cell (s.box (i := 1) rfl (j := 0) rfl) (.cell (s.box (i := 1) rfl (j := 1) rfl) (.cell (s.box (i := 1) rfl (j := 2) rfl) (.cell (s.box (i := 1) rfl (j := 3) rfl) (.cell (s.box (i := 1) rfl (j := 4) rfl) (.cell (s.box (i := 1) rfl (j := 5) rfl) .nil)))))))) .nil fun a34 hf36 => ?_
      obtain ⟨r1, hd2, hr9⟩ := bind_some hr8
      refine p_call (i := 3) (d := some 30) (f := 121) (args := #[.agg #[vI p2.x, vI p2.lo, vI p2.hi, vI p3.x, vI p3.lo, vI p3.hi], vI y2]) hf36 (by kernel_rfl) (f121_ok fuel p2.x p2.lo p2.hi p3.x p3.lo p3.hi y2 r1 hd2 z3 _ _ hS18 ) ?_
      rintro v2 ww16 a35 ⟨rfl, hS19⟩ hf37
      refine ⟨fun _ => Sub.of (Zone.le_refl _) hS19, ?_⟩
      have s2 : Sub z3 (ownS RngT 41 e2 q2 y4 :: box b8 [vI p2.x, vI p2.lo, vI p2.hi, vI p3.x, vI p3.lo, vI p3.hi] 127 :: loopA l1 60 [(3, pB b4 0), (5, pB b5 0), (6, pB b6 0), (11, .func (.func 130) #[] #[pB b7 0])] ps1 A1 B1 D1 .busy none :: defA D1 :: box b7 [.slice o_x0 x0.length c_x0] 24 :: box b6 [vI y2] 3 :: box b5 [.slice e2 y4.length q2] 45 :: box b4 [.func (.func 96) #[] #[pB b2 0]] 61 :: box b3 [.slice o_x0 x0.length c_x0] 24 :: box b2 [vI x1] 3 :: box b1 [.slice o_x0 x0.length c_x0] 24 :: L) _ := Sub.of (Zone.le_refl _) hS19
      refine p_inl (i := 4) (d := some 31) (f := 96) (args := #[.agg #[vI r1.1, vI r1.2], pB b2 0]) (N' := 8) hf37 (by kernel_rfl) Try.func96 (by kernel_rfl) fun a36 hf38 => ?_
      refine w_sr (by kernel_rfl) ?_
      refine p_box (i := 0) (d := (some 2)) (cs := [vI r1.1, vI r1.2]) (T := 41) (v := fun b9 => pB b9 0) hS19 hf38 (fun b => by kernel_rfl) fun b9 ww17 a37 hS20 hf39 => ⟨fun _ => trivial, ?_⟩
      refine p_qt [] [(1, pB b2 0), (2, pB b9 0)] [] hf39 (by kernel_rfl) .nil fun a38 hf40 => ?_
      refine w_sq [vI r1.1, vI x1] [(3, .bool (decide (r1.1 ≥ x1)))] [.cell ⟨b9, 0, none⟩ (vI r1.1), .cell ⟨b2, 0, none⟩ (vI x1)] hf40 (by kernel_rfl) (.cell (hS20.box (i := 0) rfl (j := 0) rfl) (.cell (hS20.box (i := 10) rfl (j := 0) rfl) .nil)) fun a39 hf41 => ?_
      refine w_ret (by kernel_rfl) ?_
      refine p_ret (os := []) (v := .bool (decide (r1.1 ≥ x1))) (obs := []) hf41 (by kernel_rfl) .nil ?_
      refine ⟨_, rfl, fun a40 hf42 => ?_⟩
      have hS21 := St.drop 1 hS20
      refine ⟨fun e => absurd e (by decide), ?_⟩
      refine p_qP 1 [] [(3, pB b4 0), (5, pB b5 0), (6, pB b6 0), (7, pB b8 0), (8, vI y2), (32, .bool (!(decide (r1.1 ≥ x1))))] [] hf42 (by kernel_rfl) (fun _ => .nil) fun a41 hf43 => ?_
      refine p_dt (by kernel_rfl) ?_
      refine w_if hf43 (b := (!(decide (r1.1 ≥ x1)))) (by kernel_rfl) (fun hb6 => ?_) (fun hb6 => ?_)
      ·have hr10 := cond_t hb6 hr9
       refine w_exit (id := 3) (by kernel_rfl) ?_
       refine x_then ?_
       refine x_block ?_
       refine n_then ?_
       have hf44 := Fr.keep (ks := [3, 5, 6, 7, 8]) (r := [(3, pB b4 0), (5, pB b5 0), (6, pB b6 0), (7, pB b8 0), (8, vI y2)]) hf43 (by kernel_rfl)
       exact ⟨z3, y4, e2, q2, (Zone.le_refl _), hf44, hS21, hr10⟩
      ·have hr11 := cond_f hb6 hr9
       refine w_skip (by kernel_rfl) ?_
       refine n_then ?_
       refine w_sq [.slice e2 y4.length q2] [(3, pB b4 0), (5, pB b5 0), (6, pB b6 0), (7, pB b8 0), (8, vI y2), (9, vI (w64 ((y4.length : Int) - (1 : Int))))] [.cell ⟨b5, 0, none⟩ (.slice e2 y4.length q2)] hf43 (by kernel_rfl) (.cell (hS21.box (i := 6) rfl (j := 0) rfl) .nil) fun a42 hf45 => ?_
       refine w_mid (by kernel_rfl) (fun a w => ∃ z5 : Zone, ∃ y5 : Bool, Zone.le z3 z5 ∧ Fr a 60 [(3, pB b4 0), (5, pB b5 0), (6, pB b6 0), (7, pB b8 0), (8, vI y2), (9, vI (w64 ((y4.length : Int) - (1 : Int)))), (47, .bool y5)] ∧ St z5 (ownS RngT 41 e2 q2 y4 :: box b8 [vI p2.x, vI p2.lo, vI p2.hi, vI p3.x, vI p3.lo, vI p3.hi] 127 :: loopA l1 60 [(3, pB b4 0), (5, pB b5 0), (6, pB b6 0), (11, .func (.func 130) #[] #[pB b7 0])] ps1 A1 B1 D1 .busy none :: defA D1 :: box b7 [.slice o_x0 x0.length c_x0] 24 :: box b6 [vI y2] 3 :: box b5 [.slice e2 y4.length q2] 45 :: box b4 [.func (.func 96) #[] #[pB b2 0]] 61 :: box b3 [.slice o_x0 x0.length c_x0] 24 :: box b2 [vI x1] 3 :: box b1 [.slice o_x0 x0.length c_x0] 24 :: L) w ∧ (F23_j3 (F23_l1 fuel x1 p2 p3 n1) y4 y2 y5) = some r) ?_ ?_
       ·skip
        refine w_reg (by kernel_rfl) ?_
        refine p_qn 3 [] [(3, pB b4 0), (5, pB b5 0), (6, pB b6 0), (7, pB b8 0), (8, vI y2), (9, vI (w64 ((y4.length : Int) - (1 : Int)))), (38, .bool (decide ((w64 ((y4.length : Int) - (1 : Int))) ≥ (0 : Int))))] [] hf45 (by kernel_rfl) .nil fun a43 hf46 => ?_
        rcases Bool.eq_false_or_eq_true (decide ((w64 ((y4.length : Int) - (1 : Int))) ≥ (0 : Int))) with hb7 | hb7
        ·have hr12 := cond_t hb7 hr11
         have hf47 := Fr.conv hf46 (congrArg (fun z => ([(3, pB b4 0), (5, pB b5 0), (6, pB b6 0), (7, pB b8 0), (8, vI y2), (9, vI (w64 ((y4.length : Int) - (1 : Int)))), (38, .bool z)] : FL)) hb7)
         obtain ⟨p4, hp25107, hr13⟩ := bind_some hr12
         obtain ⟨ad3, ho3, hb8, cc3, hc3, hk3⟩ := hS21.ownGet (j := 0) rfl hp25107
         subst hc3
         refine p_qt [.slice e2 y4.length q2, .pointer (some ad3), vI p4.hi] [(3, pB b4 0), (5, pB b5 0), (6, pB b6 0), (7, pB b8 0), (8, vI y2), (9, vI (w64 ((y4.length : Int) - (1 : Int)))), (39, .slice e2 y4.length q2), (40, vI (w64 ((y4.length : Int) - (1 : Int)))), (41, .pointer (some (ad3.add (Int.toNat (w64 ((y4.length : Int) - (1 : Int))) * 2)))), (42, .pointer (some ((ad3.add (Int.toNat (w64 ((y4.length : Int) - (1 : Int))) * 2)).add 1))), (43, vI p4.hi), (44, vI y2), (45, vI (w64 (y2 - (1 : Int)))), (46, .bool (p4.hi == (w64 (y2 - (1 : Int))))), (47, .bool (p4.hi == (w64 (y2 - (1 : Int)))))] [.cell ⟨b5, 0, none⟩ (.slice e2 y4.length q2), .prop (e2 = some ad3), .prop (0 ≤ (w64 ((y4.length : Int) - (1 : Int))) ∧ (w64 ((y4.length : Int) - (1 : Int))) < (y4.length : Nat)), .cell ((ad3.add (Int.toNat (w64 ((y4.length : Int) - (1 : Int))) * 2)).add 1) (vI p4.hi)] hf47 (by kernel_rfl) (.cell (hS21.box (i := 6) rfl (j := 0) rfl) (.prop ho3 (.prop hb8 (.cell (hk3 1 _ rfl) .nil)))) fun a44 hf48 => ?_
         have hf49 := Fr.keep (ks := [3, 5, 6, 7, 8, 9, 47]) (r := [(3, pB b4 0), (5, pB b5 0), (6, pB b6 0), (7, pB b8 0), (8, vI y2), (9, vI (w64 ((y4.length : Int) - (1 : Int)))), (47, .bool (p4.hi == (w64 (y2 - (1 : Int)))))]) hf48 (by kernel_rfl)
         exact ⟨z3, (p4.hi == (w64 (y2 - (1 : Int)))), (Zone.le_refl _), hf49, hS21, hr13⟩
        ·have hr14 := cond_f hb7 hr11
         have hf50 := Fr.conv hf46 (congrArg (fun z => ([(3, pB b4 0), (5, pB b5 0), (6, pB b6 0), (7, pB b8 0), (8, vI y2), (9, vI (w64 ((y4.length : Int) - (1 : Int)))), (38, .bool z)] : FL)) hb7)
         refine p_qt [] [(3, pB b4 0), (5, pB b5 0), (6, pB b6 0), (7, pB b8 0), (8, vI y2), (9, vI (w64 ((y4.length : Int) - (1 : Int)))), (39, undef), (40, undef), (41, undef), (42, undef), (43, undef), (44, undef), (45, undef), (46, undef), (47, .bool false)] [] hf50 (by kernel_rfl) .nil fun a45 hf51 => ?_
         have hf52 := Fr.keep (ks := [3, 5, 6, 7, 8, 9, 47]) (r := [(3, pB b4 0), (5, pB b5 0), (6, pB b6 0), (7, pB b8 0), (8, vI y2), (9, vI (w64 ((y4.length : Int) - (1 : Int)))), (47, .bool false)]) hf51 (by kernel_rfl)
         exact ⟨z3, false, (Zone.le_refl _), hf52, hS21, hr14⟩
       ·rintro a46 ww18 ⟨z5, y5, k6, hf53, hS22, hr15⟩
        refine w_if hf53 (b := y5) (by kernel_rfl) (fun hb9 => ?_) (fun hb9 => ?_)
        ·have hr16 := cond_t hb9 hr15
         refine w_reg (by kernel_rfl) ?_
         obtain ⟨p1, hp25127, hr17⟩ := bind_some hr16
         obtain ⟨ad4, ho4, hb10, cc4, hc4, hk4⟩ := hS22.ownGet (j := 0) rfl hp25127
         subst hc4
         refine p_qn 5 [.slice e2 y4.length q2, .pointer (some ad4)] [(3, pB b4 0), (5, pB b5 0), (6, pB b6 0), (7, pB b8 0), (8, vI y2), (50, vI y2), (52, .pointer (some ((ad4.add (Int.toNat (w64 ((y4.length : Int) - (1 : Int))) * 2)).add 1)))] [.cell ⟨b5, 0, none⟩ (.slice e2 y4.length q2), .prop (e2 = some ad4), .prop (0 ≤ (w64 ((y4.length : Int) - (1 : Int))) ∧ (w64 ((y4.length : Int) - (1 : Int))) < (y4.length : Nat))] hf53 (by kernel_rfl) (.cell (hS22.box (i := 6) rfl (j := 0) rfl) (.prop ho4 (.prop hb10 .nil))) fun a47 hf54 => ?_
         obtain ⟨d1, hd3, hr18⟩ := bind_some hr17
         have hl1 := setI_len hd3
         refine p_setOwn (i := 5) (j := 0) (ad := ad4) (ix := (w64 ((y4.length : Int) - (1 : Int)))) (off := 1) (vs := [vI y2]) (x' := ({ p1 with hi := y2 })) hS22 hf54 rfl ho4 hp25127 (by kernel_rfl) (by kernel_rfl) rfl hd3 fun ww19 a48 hS23 hf55 => ?_
         have hS24 := St.convL (L' := ownS RngT 41 e2 q2 d1 :: box b8 [vI p2.x, vI p2.lo, vI p2.hi, vI p3.x, vI p3.lo, vI p3.hi] 127 :: loopA l1 60 [(3, pB b4 0), (5, pB b5 0), (6, pB b6 0), (11, .func (.func 130) #[] #[pB b7 0])] ps1 A1 B1 D1 .busy none :: defA D1 :: box b7 [.slice o_x0 x0.length c_x0] 24 :: box b6 [vI y2] 3 :: box b5 [.slice e2 d1.length q2] 45 :: box b4 [.func (.func 96) #[] #[pB b2 0]] 61 :: box b3 [.slice o_x0 x0.length c_x0] 24 :: box b2 [vI x1] 3 :: box b1 [.slice o_x0 x0.length c_x0] 24 :: L) hS23 (by rw [hl1] <;> rfl)
         refine ⟨fun _ => trivial, ?_⟩
         refine p_done (by kernel_rfl) ?_
         refine n_block ?_
         refine n_then ?_
         have hf56 := Fr.keep (ks := [3, 5, 6, 7, 8]) (r := [(3, pB b4 0), (5, pB b5 0), (6, pB b6 0), (7, pB b8 0), (8, vI y2)]) hf55 (by kernel_rfl)
         exact ⟨z5, d1, e2, q2, k6, hf56, hS24, hr18⟩
        ·have hr19 := cond_f hb9 hr15
         refine w_reg (by kernel_rfl) ?_
         refine p_qn 4 [.slice e2 y4.length q2] [(3, pB b4 0), (5, pB b5 0), (6, pB b6 0), (7, pB b8 0), (8, vI y2), (53, .slice e2 y4.length q2), (56, .agg #[vI y2, vI y2])] [.cell ⟨b5, 0, none⟩ (.slice e2 y4.length q2)] hf53 (by kernel_rfl) (.cell (hS22.box (i := 6) rfl (j := 0) rfl) .nil) fun a49 hf57 => ?_
         refine p_box (i := 4) (d := (some 57)) (cs := [vI y2, vI y2]) (T := 41) (v := fun b10 => .slice (some ⟨b10, 0, none⟩) 1 1) hS22 hf57 (fun b => by kernel_rfl) fun b10 ww20 a50 hS25 hf58 => ⟨fun _ => trivial, ?_⟩
         have hS26 := hS25.ownBox (T := RngT) (E := 41) (n := 1) (xs := [⟨y2, y2⟩]) (i := 0) rfl (Rows.cons (c := [vI y2, vI y2]) rfl rfl) rfl (by decide)
         obtain ⟨d2, hd4, hr20⟩ := bind_some hr19
         refine p_append (T := RngT) (i := 5) (j := 1) (d := some 58) (o2 := (some ⟨b10, 0, none⟩)) (c2 := 1) (ys := ([⟨y2, y2⟩])) el45 hS26 hf58 rfl (by kernel_rfl) (hS26.ownSrc (j := 0) rfl) hd4 fun e4 q4 ww21 a51 hS27 hf59 => ⟨fun _ => trivial, ?_⟩
         refine p_store_eq (i := 6) (j := 7) (b := b5) (off := 0) (vs := [.slice e4 d2.length q4]) (cs' := [.slice e4 d2.length q4]) hS27 hf59 rfl (by kernel_rfl) (by kernel_rfl) rfl fun ww22 a52 hS28 hf60 => ⟨fun _ => trivial, ?_⟩
         refine p_done (by kernel_rfl) ?_
         refine n_block ?_
         refine n_then ?_
         have hf61 := Fr.keep (ks := [3, 5, 6, 7, 8]) (r := [(3, pB b4 0), (5, pB b5 0), (6, pB b6 0), (7, pB b8 0), (8, vI y2)]) hf60 (by kernel_rfl)
         exact ⟨z5, d2, e4, q4, k6, hf61, (St.drop 1 hS28), hr20⟩
     ·rintro a53 ww23 ⟨z4, y3, e3, q3, k7, hf62, hS29, hr21⟩
      refine w_q [] [(3, pB b4 0), (5, pB b5 0), (6, pB b6 0), (7, pB b8 0), (8, vI (w64 (y2 + (1 : Int))))] [] hf62 (by kernel_rfl) .nil fun a54 hf63 => ?_
      refine n_then ?_
      have hf64 := Fr.keep (ks := [3, 5, 6, 7, 8]) (r := [(3, pB b4 0), (5, pB b5 0), (6, pB b6 0), (7, pB b8 0), (8, vI (w64 (y2 + (1 : Int))))]) hf63 (by kernel_rfl)
      exact ⟨n1, Nat.lt_succ_self n1, z4, y3, y2, (w64 (y2 + (1 : Int))), e3, q3, (Zone.le_trans k5 k7), hf64, hS29, hr21⟩
    ·have hr22 := cond_f hb5 hr7
     refine w_exit (id := 2) (by kernel_rfl) ?_
     refine x_then ?_
     refine x_then ?_
     refine x_block ?_
     refine n_block ?_
     refine p_roundN hS16 (j := 2) rfl fun ww24 a55 hS30 hf65 => ?_
     refine p_dt (by kernel_rfl) ?_
     refine w_ret (by kernel_rfl) ?_
     refine r_then ?_
     refine p_ret (os := []) (v := .tuple #[]) (obs := []) hf65 (by kernel_rfl) .nil ?_
     refine ⟨_, rfl, fun a56 hf66 => ?_⟩
     refine p_jump0 hS30 (j := 2) rfl (fun h => by cases h) fun ww25 hS31 => ?_
     refine n_block ?_
     refine n_then ?_
     refine w_sq [.slice e2 y4.length q2] [(4, .slice e2 y4.length q2)] [.cell ⟨b5, 0, none⟩ (.slice e2 y4.length q2)] hf66 (by kernel_rfl) (.cell (hS31.box (i := 6) rfl (j := 0) rfl) .nil) fun a57 hf67 => ?_
     refine w_ret (by kernel_rfl) ?_
     refine p_retM hf67 ?_
     refine p_mark hS31 (j := 3) rfl fun ww26 hS32 => ?_
     refine p_end (os := []) (v := .slice e2 y4.length q2) (obs := []) hf67 (by kernel_rfl) .nil ?_
     exact ⟨_, rfl, z3, y4, e2, q2, k5, rfl, (St.pick 9 [0] hS32 (by kernel_rfl)), hr22⟩
   ·have hr23 := cond_f hb2 hr3
    refine w_skip (by kernel_rfl) ?_
    refine n_then ?_
    obtain ⟨d5, hd5, hr24⟩ := bind_some hr23
    obtain ⟨e5, q5, hv1, hb11, hx1⟩ := SliceR.subV (SliceR.mono k4 hx_x0) hd5
    refine w_sq [.slice o_x0 x0.length c_x0, .slice e5 d5.length q5] [(0, .func (.yield l1) #[] #[]), (1, pB b7 0), (22, .slice e5 d5.length q5), (23, vI (d5.length : Int)), (24, vI 0)] [.cell ⟨b7, 0, none⟩ (.slice o_x0 x0.length c_x0), .prop ((.slice e5 d5.length q5 : Value) = .slice (subO o_x0 c_x0 (Int.toNat 1) 3) (Int.toNat (x0.length : Int) - Int.toNat 1) (c_x0 - Int.toNat 1)), .prop ((0 : Int) ≤ 1 ∧ (1 : Int) ≤ (x0.length : Int) ∧ (x0.length : Int) ≤ (c_x0 : Nat) ∧ x0.length ≤ c_x0)] hf25 (by kernel_rfl) (.cell (hS10.box (i := 2) rfl (j := 0) rfl) (.prop hv1 (.prop hb11 .nil))) fun a58 hf68 => ?_
    refine w_block (id := 0) (by kernel_rfl) ?_
    have hS33 := hS10.ownNil RngT 41
    have hf69 := Fr.keep (ks := [0, 1, 22, 23, 24]) (r := [(0, .func (.yield l1) #[] #[]), (1, pB b7 0), (22, .slice e5 d5.length q5), (23, vI (d5.length : Int)), (24, vI 0)]) hf68 (by kernel_rfl)
    refine w_loop (by kernel_rfl) (fun n a w => ∃ z6 : Zone, ∃ y13 : List Rng, ∃ y14 : Int, ∃ y11 : Int, ∃ e6 : Option Addr, ∃ q6 : Nat, Zone.le z1 z6 ∧ Fr a 40 [(0, .func (.yield l1) #[] #[]), (1, pB b7 0), (22, .slice e5 d5.length q5), (23, vI (d5.length : Int)), (24, vI y11)] ∧ St z6 (ownS RngT 41 e6 q6 y13 :: loopA l1 60 [(3, pB b4 0), (5, pB b5 0), (6, pB b6 0), (11, .func (.func 130) #[] #[pB b7 0])] ps1 A1 B1 D1 .ready none :: defA D1 :: box b7 [.slice o_x0 x0.length c_x0] 24 :: box b6 [vI y14] 3 :: box b5 [.slice e6 y13.length q6] 45 :: box b4 [.func (.func 96) #[] #[pB b2 0]] 61 :: box b3 [.slice o_x0 x0.length c_x0] 24 :: box b2 [vI x1] 3 :: box b1 [.slice o_x0 x0.length c_x0] 24 :: L) w ∧ (F23_l2 fuel x0 x1 d5 n y13 y14 y11) = some r) fuel ⟨z1, [], -1, 0, none, 0, (Zone.le_refl _), hf69, hS33, hr24⟩ ?_
    rintro n5 a59 ww27 ⟨z6, y13, y14, y11, e6, q6, k8, hf70, hS34, hr25⟩
    cases n5 with
    | zero => cases hr25
    | succ n3 =>
    refine w_sq [] [(0, .func (.yield l1) #[] #[]), (1, pB b7 0), (22, .slice e5 d5.length q5), (23, vI (d5.length : Int)), (24, vI y11), (25, .bool (decide (y11 < (d5.length : Int))))] [] hf70 (by kernel_rfl) .nil fun a60 hf71 => ?_
    refine w_seq (by kernel_rfl) ?_
    refine w_if hf71 (b := (decide (y11 < (d5.length : Int)))) (by kernel_rfl) (fun hb12 => ?_) (fun hb12 => ?_)
    ·have hr26 := cond_t hb12 hr25
     refine w_skip (by kernel_rfl) ?_
     refine n_then ?_
     refine w_seq (by kernel_rfl) ?_
     refine w_block (id := 1) (by kernel_rfl) ?_
     refine w_sr (by kernel_rfl) ?_
     obtain ⟨p6, hp40423, hr27⟩ := bind_some hr26
     obtain ⟨ad5, ho5, hb13, cc5, hc5, hk5⟩ := SliceR.getI (SliceR.mono k8 hx1) hp40423
     subst hc5
     refine p_qn 3 [.pointer (some ad5), vI p6.x, vI p6.lo, vI p6.hi] [(0, .func (.yield l1) #[] #[]), (1, pB b7 0), (22, .slice e5 d5.length q5), (23, vI (d5.length : Int)), (24, vI y11), (26, vI y11), (28, .agg #[vI p6.x, vI p6.lo, vI p6.hi])] [.prop (e5 = some ad5), .prop (0 ≤ y11 ∧ y11 < (d5.length : Nat)), .cell ((ad5.add (Int.toNat y11 * 3)).add 0) (vI p6.x), .cell ((ad5.add (Int.toNat y11 * 3)).add 1) (vI p6.lo), .cell ((ad5.add (Int.toNat y11 * 3)).add 2) (vI p6.hi)] hf71 (by kernel_rfl) (.prop ho5 (.prop hb13 (.cell (hS34.cell (hk5 0 _ rfl)) (.cell (hS34.cell (hk5 1 _ rfl)) (.cell (hS34.cell (hk5 2 _ rfl)) .nil))))) fun a61 hf72 => ?_
     refine p_box (i := 3) (d := (some 4)) (cs := [vI 0, vI 0, vI 0]) (T := 52) (v := fun b11 => pB b11 0) hS34 hf72 (fun b => by kernel_rfl) fun b11 ww28 a62 hS35 hf73 => ⟨fun _ => trivial, ?_⟩
     refine p_qn 1 [] [(0, .func (.yield l1) #[] #[]), (1, pB b7 0), (3, vI y11), (4, pB b11 0), (22, .slice e5 d5.length q5), (23, vI (d5.length : Int)), (24, vI y11), (28, .agg #[vI p6.x, vI p6.lo, vI p6.hi])] [] hf73 (by kernel_rfl) .nil fun a63 hf74 => ?_
     refine p_store_eq (i := 5) (j := 0) (b := b11) (off := 0) (vs := [vI p6.x, vI p6.lo, vI p6.hi]) (cs' := [vI p6.x, vI p6.lo, vI p6.hi]) hS35 hf74 rfl (by kernel_rfl) (by kernel_rfl) rfl fun ww29 a64 hS36 hf75 => ⟨fun _ => trivial, ?_⟩
     refine p_dt (by kernel_rfl) ?_
     refine w_seq (by kernel_rfl) ?_
     refine w_regDY (by kernel_rfl) 8 [(0, true), (1, true), (2, true), (3, true), (4, true), (5, true), (6, true), (7, true)] [(9, false)] (by kernel_rfl) ?_
     have hS37 := hS36.drew
     obtain ⟨p7, hp40446, hr28⟩ := bind_some hr27
     obtain ⟨ad6, ho6, hb14, cc6, hc6, hk6⟩ := SliceR.getI (SliceR.mono (Zone.le_trans k4 k8) hx_x0) hp40446
     subst hc6
     refine p_qzE [.slice o_x0 x0.length c_x0, .pointer (some ad6), vI p7.x, vI p7.lo, vI p7.hi, vI p6.x, vI p6.lo, vI p6.hi] [(0, .func (.yield l1) #[] #[]), (1, pB b7 0), (22, .slice e5 d5.length q5), (23, vI (d5.length : Int)), (24, vI y11), (29, .func (.yield l1) #[] #[]), (36, .agg #[vI p7.x, vI p7.lo, vI p7.hi, vI p6.x, vI p6.lo, vI p6.hi])] [.cell ⟨b7, 0, none⟩ (.slice o_x0 x0.length c_x0), .prop (o_x0 = some ad6), .prop (0 ≤ y11 ∧ y11 < (x0.length : Nat)), .cell ((ad6.add (Int.toNat y11 * 3)).add 0) (vI p7.x), .cell ((ad6.add (Int.toNat y11 * 3)).add 1) (vI p7.lo), .cell ((ad6.add (Int.toNat y11 * 3)).add 2) (vI p7.hi), .cell ⟨b11, 0, none⟩ (vI p6.x), .cell ⟨b11, 1, none⟩ (vI p6.lo), .cell ⟨b11, 2, none⟩ (vI p6.hi)] [] hf75 (by kernel_rfl) (.cell (hS37.box (i := 4) rfl (j := 0) rfl) (.prop ho6 (.prop hb14 (.cell (hS37.cell (hk6 0 _ rfl)) (.cell (hS37.cell (hk6 1 _ rfl)) (.cell (hS37.cell (hk6 2 _ rfl)) (.cell (hS37.box (i := 0) rfl (j := 0) rfl) (.cell (hS37.box (i := 0) rfl (j := 1) rfl) (.cell (hS37.box (i := 0) rfl (j := 2) rfl) .nil))))))))) .nil fun a65 hf76 => ?_
     refine p_yield (d := some 37) (l := l1) (args := #[.agg #[vI p7.x, vI p7.lo, vI p7.hi, vI p6.x, vI p6.lo, vI p6.hi]]) hf76 (by kernel_rfl) hS37 (j := 2) rfl (by rw [hps1]; kernel_rfl) fun a66 hf77 => ?_
     rw [hps1] at hf77
     refine cw_eq hA1 ?_
     refine w_reg (by kernel_rfl) ?_
     refine p_box (i := 0) (d := (some 7)) (cs := [vI 0, vI 0, vI 0, vI 0, vI 0, vI 0]) (T := 127) (v := fun b12 => pB b12 0) hS37 hf77 (fun b => by kernel_rfl) fun b12 ww30 a67 hS38 hf78 => ⟨fun _ => trivial, ?_⟩
     refine p_store_eq (i := 1) (j := 0) (b := b12) (off := 0) (vs := [vI p7.x, vI p7.lo, vI p7.hi, vI p6.x, vI p6.lo, vI p6.hi]) (cs' := [vI p7.x, vI p7.lo, vI p7.hi, vI p6.x, vI p6.lo, vI p6.hi]) hS38 hf78 rfl (by kernel_rfl) (by kernel_rfl) rfl fun ww31 a68 hS39 hf79 => ⟨fun _ => trivial, ?_⟩
     refine p_dt (by kernel_rfl) ?_
     refine p_begin hS39 (j := 3) rfl fun ww32 hS40 => ?_
     refine cw_eq hB1 ?_
     refine w_block (id := 1) (by kernel_rfl) ?_
     refine w_sq [vI p7.x, vI y14] [(3, pB b4 0), (5, pB b5 0), (6, pB b6 0), (7, pB b12 0), (8, vI (if (w64 (y14 + (1 : Int))) > p7.x then (w64 (y14 + (1 : Int))) else p7.x))] [.cell ⟨b12, 0, none⟩ (vI p7.x), .cell ⟨b6, 0, none⟩ (vI y14)] hf79 (by kernel_rfl) (.cell (hS40.box (i := 0) rfl (j := 0) rfl) (.cell (hS40.box (i := 6) rfl (j := 0) rfl) .nil)) fun a69 hf80 => ?_
     refine w_block (id := 2) (by kernel_rfl) ?_
     have hf81 := Fr.keep (ks := [3, 5, 6, 7, 8]) (r := [(3, pB b4 0), (5, pB b5 0), (6, pB b6 0), (7, pB b12 0), (8, vI (if (w64 (y14 + (1 : Int))) > p7.x then (w64 (y14 + (1 : Int))) else p7.x))]) hf80 (by kernel_rfl)
     refine w_loop (by kernel_rfl) (fun n a w => ∃ z7 : Zone, ∃ y9 : List Rng, ∃ y12 : Int, ∃ y7 : Int, ∃ e7 : Option Addr, ∃ q7 : Nat, Zone.le z6 z7 ∧ Fr a 60 [(3, pB b4 0), (5, pB b5 0), (6, pB b6 0), (7, pB b12 0), (8, vI y7)] ∧ St z7 (box b12 [vI p7.x, vI p7.lo, vI p7.hi, vI p6.x, vI p6.lo, vI p6.hi] 127 :: box b11 [vI p6.x, vI p6.lo, vI p6.hi] 52 :: ownS RngT 41 e7 q7 y9 :: loopA l1 60 [(3, pB b4 0), (5, pB b5 0), (6, pB b6 0), (11, .func (.func 130) #[] #[pB b7 0])] ps1 A1 B1 D1 .busy none :: defA D1 :: box b7 [.slice o_x0 x0.length c_x0] 24 :: box b6 [vI y12] 3 :: box b5 [.slice e7 y9.length q7] 45 :: box b4 [.func (.func 96) #[] #[pB b2 0]] 61 :: box b3 [.slice o_x0 x0.length c_x0] 24 :: box b2 [vI x1] 3 :: box b1 [.slice o_x0 x0.length c_x0] 24 :: L) w ∧ (F23_l3 fuel (F23_l2 fuel x0 x1 d5 n3) x1 y11 p6 p7 n y9 y12 y7) = some r) fuel ⟨z6, y13, y14, (if (w64 (y14 + (1 : Int))) > p7.x then (w64 (y14 + (1 : Int))) else p7.x), e6, q6, (Zone.le_refl _), hf81, hS40, hr28⟩ ?_
     rintro n6 a70 ww33 ⟨z7, y9, y12, y7, e7, q7, k9, hf82, hS41, hr29⟩
     cases n6 with
     | zero => cases hr29
     | succ n2 =>
     refine w_seq (by kernel_rfl) ?_
     refine w_sq [vI p6.x] [(3, pB b4 0), (5, pB b5 0), (6, pB b6 0), (7, pB b12 0), (8, vI y7), (23, .bool (decide (y7 ≤ p6.x)))] [.cell ⟨b12, 3, none⟩ (vI p6.x)] hf82 (by kernel_rfl) (.cell (hS41.box (i := 0) rfl (j := 3) rfl) .nil) fun a71 hf83 => ?_
     refine w_if hf83 (b := (decide (y7 ≤ p6.x))) (by kernel_rfl) (fun hb15 => ?_) (fun hb15 => ?_)
     ·have hr30 := cond_t hb15 hr29
      refine w_skip (by kernel_rfl) ?_
      refine n_then ?_
      refine w_mid (by kernel_rfl) (fun a w => ∃ z8 : Zone, ∃ y8 : List Rng, ∃ e8 : Option Addr, ∃ q8 : Nat, Zone.le z7 z8 ∧ Fr a 60 [(3, pB b4 0), (5, pB b5 0), (6, pB b6 0), (7, pB b12 0), (8, vI y7)] ∧ St z8 (box b12 [vI p7.x, vI p7.lo, vI p7.hi, vI p6.x, vI p6.lo, vI p6.hi] 127 :: box b11 [vI p6.x, vI p6.lo, vI p6.hi] 52 :: ownS RngT 41 e8 q8 y8 :: loopA l1 60 [(3, pB b4 0), (5, pB b5 0), (6, pB b6 0), (11, .func (.func 130) #[] #[pB b7 0])] ps1 A1 B1 D1 .busy none :: defA D1 :: box b7 [.slice o_x0 x0.length c_x0] 24 :: box b6 [vI y7] 3 :: box b5 [.slice e8 y8.length q8] 45 :: box b4 [.func (.func 96) #[] #[pB b2 0]] 61 :: box b3 [.slice o_x0 x0.length c_x0] 24 :: box b2 [vI x1] 3 :: box b1 [.slice o_x0 x0.length c_x0] 24 :: L) w ∧ (F23_j4 (F23_l3 fuel (F23_l2 fuel x0 x1 d5 n3) x1 y11 p6 p7 n2) y7 y8) = some r) ?_ ?_
      ·skip
       refine w_block (id := 3) (by kernel_rfl) ?_
       refine w_sr (by kernel_rfl) ?_
       refine p_qn 1 [] [(3, pB b4 0), (5, pB b5 0), (6, pB b6 0), (7, pB b12 0), (8, vI y7), (26, vI y7)] [] hf83 (by kernel_rfl) .nil fun a72 hf84 => ?_
       refine p_store_eq (i := 1) (j := 6) (b := b6) (off := 0) (vs := [vI y7]) (cs' := [vI y7]) hS41 hf84 rfl (by kernel_rfl) (by kernel_rfl) rfl fun ww34 a73 hS42 hf85 => ⟨fun _ => trivial, ?_⟩
       refine p_dt (by kernel_rfl) ?_
       refine w_seq (by kernel_rfl) ?_
       refine w_seq (by kernel_rfl) ?_
       have hS43 := hS42.drew
       have s3 : Sub z7 (box b12 [vI p7.x, vI p7.lo, vI p7.hi, vI p6.x, vI p6.lo, vI p6.hi] 127 :: box b11 [vI p6.x, vI p6.lo, vI p6.hi] 52 :: ownS RngT 41 e7 q7 y9 :: loopA l1 60 [(3, pB b4 0), (5, pB b5 0), (6, pB b6 0), (11, .func (.func 130) #[] #[pB b7 0])] ps1 A1 B1 D1 .busy none :: defA D1 :: box b7 [.slice o_x0 x0.length c_x0] 24 :: box b6 [vI y7] 3 :: box b5 [.slice e7 y9.length q7] 45 :: box b4 [.func (.func 96) #[] #[pB b2 0]] 61 :: box b3 [.slice o_x0 x0.length c_x0] 24 :: box b2 [vI x1] 3 :: box b1 [.slice o_x0 x0.length c_x0] 24 :: L) _ := Sub.of (Zone.le_refl _) hS43
       refine w_regD (by kernel_rfl) [(0, true), (1, true), (2, true), (3, false), (4, false), (5, true)] [4] (Sub z7 (box b12 [vI p7.x, vI p7.lo, vI p7.hi, vI p6.x, vI p6.lo, vI p6.hi] 127 :: box b11 [vI p6.x, vI p6.lo, vI p6.hi] 52 :: ownS RngT 41 e7 q7 y9 :: loopA l1 60 [(3, pB b4 0), (5, pB b5 0), (6, pB b6 0), (11, .func (.func 130) #[] #[pB b7 0])] ps1 A1 B1 D1 .busy none :: defA D1 :: box b7 [.slice o_x0 x0.length c_x0] 24 :: box b6 [vI y7] 3 :: box b5 [.slice e7 y9.length q7] 45 :: box b4 [.func (.func 96) #[] #[pB b2 0]] 61 :: box b3 [.slice o_x0 x0.length c_x0] 24 :: box b2 [vI x1] 3 :: box b1 [.slice o_x0 x0.length c_x0] 24 :: L)) (by kernel_rfl) s3 ?_
       refine p_qS 3 [.func (.func 96) #[] #[pB b2 0], vI p7.x, vI p7.lo, vI p7.hi, vI p6.x, vI p6.lo, vI p6.hi] [(3, pB b4 0), (5, pB b5 0), (6, pB b6 0), (7, pB b12 0), (8, vI y7), (27, .func (.func 96) #[] #[pB b2 0]), (28, .agg #[vI p7.x, vI p7.lo, vI p7.hi, vI p6.x, vI p6.lo, vI p6.hi]), (29, vI y7)] [.cell ⟨b4, 0, none⟩ (.func (.func 96) #[] #[pB b2 0]), .cell ⟨b12, 0, none⟩ (vI p7.x), .cell ⟨b12, 1, none⟩ (vI p7.lo), .cell ⟨b12, 2, none⟩ (vI p7.hi), .cell ⟨b12, 3, none⟩ (vI p6.x), .cell ⟨b12, 4, none⟩ (vI p6.lo), .cell ⟨b12, 5, none⟩ (vI p6.hi)] [] s3 hf85 (by kernel_rfl) (fun _ s => (.cell (s.box (i := 8) rfl (j := 0) rfl) (.cell (s.box (i := 0) rfl (j := 0) rfl) (.cell (s.box (i := 0) rfl (j := 1) rfl) (.cell (s.box (i := 0) rfl (j := 2) rfl) (.cell (s.box (i := 0) rfl (j := 3) rfl) (.cell (s.box (i := 0) rfl (j := 4) rfl) (.cell (s.box (i := 0) rfl (j := 5) rfl) .nil)))))))) .nil fun a74 hf86 => ?_
       obtain ⟨r2, hd6, hr31⟩ := bind_some hr30
       refine p_call (i := 3) (d := some 30) (f := 121) (args := #[.agg #[vI p7.x, vI p7.lo, vI p7.hi, vI p6.x, vI p6.lo, vI p6.hi], vI y7]) hf86 (by kernel_rfl) (f121_ok fuel p7.x p7.lo p7.hi p6.x p6.lo p6.hi y7 r2 hd6 z7 _ _ hS43 ) ?_
       rintro v3 ww35 a75 ⟨rfl, hS44⟩ hf87
       refine ⟨fun _ => Sub.of (Zone.le_refl _) hS44, ?_⟩
       have s4 : Sub z7 (box b12 [vI p7.x, vI p7.lo, vI p7.hi, vI p6.x, vI p6.lo, vI p6.hi] 127 :: box b11 [vI p6.x, vI p6.lo, vI p6.hi] 52 :: ownS RngT 41 e7 q7 y9 :: loopA l1 60 [(3, pB b4 0), (5, pB b5 0), (6, pB b6 0), (11, .func (.func 130) #[] #[pB b7 0])] ps1 A1 B1 D1 .busy none :: defA D1 :: box b7 [.slice o_x0 x0.length c_x0] 24 :: box b6 [vI y7] 3 :: box b5 [.slice e7 y9.length q7] 45 :: box b4 [.func (.func 96) #[] #[pB b2 0]] 61 :: box b3 [.slice o_x0 x0.length c_x0] 24 :: box b2 [vI x1] 3 :: box b1 [.slice o_x0 x0.length c_x0] 24 :: L) _ := Sub.of (Zone.le_refl _) hS44
       refine p_inl (i := 4) (d := some 31) (f := 96) (args := #[.agg #[vI r2.1, vI r2.2], pB b2 0]) (N' := 8) hf87 (by kernel_rfl) Try.func96 (by kernel_rfl) fun a76 hf88 => ?_
       refine w_sr (by kernel_rfl) ?_
       refine p_box (i := 0) (d := (some 2)) (cs := [vI r2.1, vI r2.2]) (T := 41) (v := fun b13 => pB b13 0) hS44 hf88 (fun b => by kernel_rfl) fun b13 ww36 a77 hS45 hf89 => ⟨fun _ => trivial, ?_⟩
       refine p_qt [] [(1, pB b2 0), (2, pB b13 0)] [] hf89 (by kernel_rfl) .nil fun a78 hf90 => ?_
       refine w_sq [vI r2.1, vI x1] [(3, .bool (decide (r2.1 ≥ x1)))] [.cell ⟨b13, 0, none⟩ (vI r2.1), .cell ⟨b2, 0, none⟩ (vI x1)] hf90 (by kernel_rfl) (.cell (hS45.box (i := 0) rfl (j := 0) rfl) (.cell (hS45.box (i := 11) rfl (j := 0) rfl) .nil)) fun a79 hf91 => ?_
       refine w_ret (by kernel_rfl) ?_
       refine p_ret (os := []) (v := .bool (decide (r2.1 ≥ x1))) (obs := []) hf91 (by kernel_rfl) .nil ?_
       refine ⟨_, rfl, fun a80 hf92 => ?_⟩
       have hS46 := St.drop 1 hS45
       refine ⟨fun e => absurd e (by decide), ?_⟩
       refine p_qP 1 [] [(3, pB b4 0), (5, pB b5 0), (6, pB b6 0), (7, pB b12 0), (8, vI y7), (32, .bool (!(decide (r2.1 ≥ x1))))] [] hf92 (by kernel_rfl) (fun _ => .nil) fun a81 hf93 => ?_
       refine p_dt (by kernel_rfl) ?_
       refine w_if hf93 (b := (!(decide (r2.1 ≥ x1)))) (by kernel_rfl) (fun hb16 => ?_) (fun hb16 => ?_)
       ·have hr32 := cond_t hb16 hr31
        refine w_exit (id := 3) (by kernel_rfl) ?_
        refine x_then ?_
        refine x_block ?_
        refine n_then ?_
        have hf94 := Fr.keep (ks := [3, 5, 6, 7, 8]) (r := [(3, pB b4 0), (5, pB b5 0), (6, pB b6 0), (7, pB b12 0), (8, vI y7)]) hf93 (by kernel_rfl)
        exact ⟨z7, y9, e7, q7, (Zone.le_refl _), hf94, hS46, hr32⟩
       ·have hr33 := cond_f hb16 hr31
        refine w_skip (by kernel_rfl) ?_
        refine n_then ?_
        refine w_sq [.slice e7 y9.length q7] [(3, pB b4 0), (5, pB b5 0), (6, pB b6 0), (7, pB b12 0), (8, vI y7), (9, vI (w64 ((y9.length : Int) - (1 : Int))))] [.cell ⟨b5, 0, none⟩ (.slice e7 y9.length q7)] hf93 (by kernel_rfl) (.cell (hS46.box (i := 7) rfl (j := 0) rfl) .nil) fun a82 hf95 => ?_
        refine w_mid (by kernel_rfl) (fun a w => ∃ z9 : Zone, ∃ y10 : Bool, Zone.le z7 z9 ∧ Fr a 60 [(3, pB b4 0), (5, pB b5 0), (6, pB b6 0), (7, pB b12 0), (8, vI y7), (9, vI (w64 ((y9.length : Int) - (1 : Int)))), (47, .bool y10)] ∧ St z9 (box b12 [vI p7.x, vI p7.lo, vI p7.hi, vI p6.x, vI p6.lo, vI p6.hi] 127 :: box b11 [vI p6.x, vI p6.lo, vI p6.hi] 52 :: ownS RngT 41 e7 q7 y9 :: loopA l1 60 [(3, pB b4 0), (5, pB b5 0), (6, pB b6 0), (11, .func (.func 130) #[] #[pB b7 0])] ps1 A1 B1 D1 .busy none :: defA D1 :: box b7 [.slice o_x0 x0.length c_x0] 24 :: box b6 [vI y7] 3 :: box b5 [.slice e7 y9.length q7] 45 :: box b4 [.func (.func 96) #[] #[pB b2 0]] 61 :: box b3 [.slice o_x0 x0.length c_x0] 24 :: box b2 [vI x1] 3 :: box b1 [.slice o_x0 x0.length c_x0] 24 :: L) w ∧ (F23_j5 (F23_l3 fuel (F23_l2 fuel x0 x1 d5 n3) x1 y11 p6 p7 n2) y9 y7 y10) = some r) ?_ ?_
        ·skip
         refine w_reg (by kernel_rfl) ?_
         refine p_qn 3 [] [(3, pB b4 0), (5, pB b5 0), (6, pB b6 0), (7, pB b12 0), (8, vI y7), (9, vI (w64 ((y9.length : Int) - (1 : Int)))), (38, .bool (decide ((w64 ((y9.length : Int) - (1 : Int))) ≥ (0 : Int))))] [] hf95 (by kernel_rfl) .nil fun a83 hf96 => ?_
         rcases Bool.eq_false_or_eq_true (decide ((w64 ((y9.length : Int) - (1 : Int))) ≥ (0 : Int))) with hb17 | hb17
         ·have hr34 := cond_t hb17 hr33
          have hf97 := Fr.conv hf96 (congrArg (fun z => ([(3, pB b4 0), (5, pB b5 0), (6, pB b6 0), (7, pB b12 0), (8, vI y7), (9, vI (w64 ((y9.length : Int) - (1 : Int)))), (38, .bool z)] : FL)) hb17)
          obtain ⟨p8, hp42331, hr35⟩ := bind_some hr34
          obtain ⟨ad7, ho7, hb18, cc7, hc7, hk7⟩ := hS46.ownGet (j := 2) rfl hp42331
          subst hc7
          refine p_qt [.slice e7 y9.length q7, .pointer (some ad7), vI p8.hi] [(3, pB b4 0), (5, pB b5 0), (6, pB b6 0), (7, pB b12 0), (8, vI y7), (9, vI (w64 ((y9.length : Int) - (1 : Int)))), (39, .slice e7 y9.length q7), (40, vI (w64 ((y9.length : Int) - (1 : Int)))), (41, .pointer (some (ad7.add (Int.toNat (w64 ((y9.length : Int) - (1 : Int))) * 2)))), (42, .pointer (some ((ad7.add (Int.toNat (w64 ((y9.length : Int) - (1 : Int))) * 2)).add 1))), (43, vI p8.hi), (44, vI y7), (45, vI (w64 (y7 - (1 : Int)))), (46, .bool (p8.hi == (w64 (y7 - (1 : Int))))), (47, .bool (p8.hi == (w64 (y7 - (1 : Int)))))] [.cell ⟨b5, 0, none⟩ (.slice e7 y9.length q7), .prop (e7 = some ad7), .prop (0 ≤ (w64 ((y9.length : Int) - (1 : Int))) ∧ (w64 ((y9.length : Int) - (1 : Int))) < (y9.length : Nat)), .cell ((ad7.add (Int.toNat (w64 ((y9.length : Int) - (1 : Int))) * 2)).add 1) (vI p8.hi)] hf97 (by kernel_rfl) (.cell (hS46.box (i := 7) rfl (j := 0) rfl) (.prop ho7 (.prop hb18 (.cell (hk7 1 _ rfl) .nil)))) fun a84 hf98 => ?_
          have hf99 := Fr.keep (ks := [3, 5, 6, 7, 8, 9, 47]) (r := [(3, pB b4 0), (5, pB b5 0), (6, pB b6 0), (7, pB b12 0), (8, vI y7), (9, vI (w64 ((y9.length : Int) - (1 : Int)))), (47, .bool (p8.hi == (w64 (y7 - (1 : Int)))))]) hf98 (by kernel_rfl)
          exact ⟨z7, (p8.hi == (w64 (y7 - (1 : Int)))), (Zone.le_refl _), hf99, hS46, hr35⟩
         ·have hr36 := cond_f hb17 hr33
          have hf100 := Fr.conv hf96 (congrArg (fun z => ([(3, pB b4 0), (5, pB b5 0), (6, pB b6 0), (7, pB b12 0), (8, vI y7), (9, vI (w64 ((y9.length : Int) - (1 : Int)))), (38, .bool z)] : FL)) hb17)
          refine p_qt [] [(3, pB b4 0), (5, pB b5 0), (6, pB b6 0), (7, pB b12 0), (8, vI y7), (9, vI (w64 ((y9.length : Int) - (1 : Int)))), (39, undef), (40, undef), (41, undef), (42, undef), (43, undef), (44, undef), (45, undef), (46, undef), (47, .bool false)] [] hf100 (by kernel_rfl) .nil fun a85 hf101 => ?_
          have hf102 := Fr.keep (ks := [3, 5, 6, 7, 8, 9, 47]) (r := [(3, pB b4 0), (5, pB b5 0), (6, pB b6 0), (7, pB b12 0), (8, vI y7), (9, vI (w64 ((y9.length : Int) - (1 : Int)))), (47, .bool false)]) hf101 (by kernel_rfl)
          exact ⟨z7, false, (Zone.le_refl _), hf102, hS46, hr36⟩
        ·rintro a86 ww37 ⟨z9, y10, k10, hf103, hS47, hr37⟩
         refine w_if hf103 (b := y10) (by kernel_rfl) (fun hb19 => ?_) (fun hb19 => ?_)
         ·have hr38 := cond_t hb19 hr37
          refine w_reg (by kernel_rfl) ?_
          obtain ⟨p5, hp42351, hr39⟩ := bind_some hr38
          obtain ⟨ad8, ho8, hb20, cc8, hc8, hk8⟩ := hS47.ownGet (j := 2) rfl hp42351
          subst hc8
          refine p_qn 5 [.slice e7 y9.length q7, .pointer (some ad8)] [(3, pB b4 0), (5, pB b5 0), (6, pB b6 0), (7, pB b12 0), (8, vI y7), (50, vI y7), (52, .pointer (some ((ad8.add (Int.toNat (w64 ((y9.length : Int) - (1 : Int))) * 2)).add 1)))] [.cell ⟨b5, 0, none⟩ (.slice e7 y9.length q7), .prop (e7 = some ad8), .prop (0 ≤ (w64 ((y9.length : Int) - (1 : Int))) ∧ (w64 ((y9.length : Int) - (1 : Int))) < (y9.length : Nat))] hf103 (by kernel_rfl) (.cell (hS47.box (i := 7) rfl (j := 0) rfl) (.prop ho8 (.prop hb20 .nil))) fun a87 hf104 => ?_
          obtain ⟨d3, hd7, hr40⟩ := bind_some hr39
          have hl2 := setI_len hd7
          refine p_setOwn (i := 5) (j := 2) (ad := ad8) (ix := (w64 ((y9.length : Int) - (1 : Int)))) (off := 1) (vs := [vI y7]) (x' := ({ p5 with hi := y7 })) hS47 hf104 rfl ho8 hp42351 (by kernel_rfl) (by kernel_rfl) rfl hd7 fun ww38 a88 hS48 hf105 => ?_
          have hS49 := St.convL (L' := box b12 [vI p7.x, vI p7.lo, vI p7.hi, vI p6.x, vI p6.lo, vI p6.hi] 127 :: box b11 [vI p6.x, vI p6.lo, vI p6.hi] 52 :: ownS RngT 41 e7 q7 d3 :: loopA l1 60 [(3, pB b4 0), (5, pB b5 0), (6, pB b6 0), (11, .func (.func 130) #[] #[pB b7 0])] ps1 A1 B1 D1 .busy none :: defA D1 :: box b7 [.slice o_x0 x0.length c_x0] 24 :: box b6 [vI y7] 3 :: box b5 [.slice e7 d3.length q7] 45 :: box b4 [.func (.func 96) #[] #[pB b2 0]] 61 :: box b3 [.slice o_x0 x0.length c_x0] 24 :: box b2 [vI x1] 3 :: box b1 [.slice o_x0 x0.length c_x0] 24 :: L) hS48 (by rw [hl2] <;> rfl)
          refine ⟨fun _ => trivial, ?_⟩
          refine p_done (by kernel_rfl) ?_
          refine n_block ?_
          refine n_then ?_
          have hf106 := Fr.keep (ks := [3, 5, 6, 7, 8]) (r := [(3, pB b4 0), (5, pB b5 0), (6, pB b6 0), (7, pB b12 0), (8, vI y7)]) hf105 (by kernel_rfl)
          exact ⟨z9, d3, e7, q7, k10, hf106, hS49, hr40⟩
         ·have hr41 := cond_f hb19 hr37
          refine w_reg (by kernel_rfl) ?_
          refine p_qn 4 [.slice e7 y9.length q7] [(3, pB b4 0), (5, pB b5 0), (6, pB b6 0), (7, pB b12 0), (8, vI y7), (53, .slice e7 y9.length q7), (56, .agg #[vI y7, vI y7])] [.cell ⟨b5, 0, none⟩ (.slice e7 y9.length q7)] hf103 (by kernel_rfl) (.cell (hS47.box (i := 7) rfl (j := 0) rfl) .nil) fun a89 hf107 => ?_
          refine p_box (i := 4) (d := (some 57)) (cs := [vI y7, vI y7]) (T := 41) (v := fun b14 => .slice (some ⟨b14, 0, none⟩) 1 1) hS47 hf107 (fun b => by kernel_rfl) fun b14 ww39 a90 hS50 hf108 => ⟨fun _ => trivial, ?_⟩
          have hS51 := hS50.ownBox (T := RngT) (E := 41) (n := 1) (xs := [⟨y7, y7⟩]) (i := 0) rfl (Rows.cons (c := [vI y7, vI y7]) rfl rfl) rfl (by decide)
          obtain ⟨d4, hd8, hr42⟩ := bind_some hr41
          refine p_append (T := RngT) (i := 5) (j := 3) (d := some 58) (o2 := (some ⟨b14, 0, none⟩)) (c2 := 1) (ys := ([⟨y7, y7⟩])) el45 hS51 hf108 rfl (by kernel_rfl) (hS51.ownSrc (j := 0) rfl) hd8 fun e9 q9 ww40 a91 hS52 hf109 => ⟨fun _ => trivial, ?_⟩
          refine p_store_eq (i := 6) (j := 8) (b := b5) (off := 0) (vs := [.slice e9 d4.length q9]) (cs' := [.slice e9 d4.length q9]) hS52 hf109 rfl (by kernel_rfl) (by kernel_rfl) rfl fun ww41 a92 hS53 hf110 => ⟨fun _ => trivial, ?_⟩
          refine p_done (by kernel_rfl) ?_
          refine n_block ?_
          refine n_then ?_
          have hf111 := Fr.keep (ks := [3, 5, 6, 7, 8]) (r := [(3, pB b4 0), (5, pB b5 0), (6, pB b6 0), (7, pB b12 0), (8, vI y7)]) hf110 (by kernel_rfl)
          exact ⟨z9, d4, e9, q9, k10, hf111, (St.drop 1 hS53), hr42⟩
      ·rintro a93 ww42 ⟨z8, y8, e8, q8, k11, hf112, hS54, hr43⟩
       refine w_q [] [(3, pB b4 0), (5, pB b5 0), (6, pB b6 0), (7, pB b12 0), (8, vI (w64 (y7 + (1 : Int))))] [] hf112 (by kernel_rfl) .nil fun a94 hf113 => ?_
       refine n_then ?_
       have hf114 := Fr.keep (ks := [3, 5, 6, 7, 8]) (r := [(3, pB b4 0), (5, pB b5 0), (6, pB b6 0), (7, pB b12 0), (8, vI (w64 (y7 + (1 : Int))))]) hf113 (by kernel_rfl)
       exact ⟨n2, Nat.lt_succ_self n2, z8, y8, y7, (w64 (y7 + (1 : Int))), e8, q8, (Zone.le_trans k9 k11), hf114, hS54, hr43⟩
     ·have hr44 := cond_f hb15 hr29
      refine w_exit (id := 2) (by kernel_rfl) ?_
      refine x_then ?_
      refine x_then ?_
      refine x_block ?_
      refine n_block ?_
      refine p_roundN hS41 (j := 3) rfl fun ww43 a95 hS55 hf115 => ?_
      have hS56 := St.drop 1 hS55
      refine p_qt [] [(0, .func (.yield l1) #[] #[]), (1, pB b7 0), (22, .slice e5 d5.length q5), (23, vI (d5.length : Int)), (24, vI y11), (38, .bool false)] [] hf115 (by kernel_rfl) .nil fun a96 hf116 => ?_
      refine w_if_false hf116 (by kernel_rfl) ?_
      refine w_skip (by kernel_rfl) ?_
      refine n_block ?_
      refine n_then ?_
      refine w_q [] [(0, .func (.yield l1) #[] #[]), (1, pB b7 0), (22, .slice e5 d5.length q5), (23, vI (d5.length : Int)), (24, vI (w64 (y11 + (1 : Int))))] [] hf116 (by kernel_rfl) .nil fun a97 hf117 => ?_
      refine n_then ?_
      have hf118 := Fr.keep (ks := [0, 1, 22, 23, 24]) (r := [(0, .func (.yield l1) #[] #[]), (1, pB b7 0), (22, .slice e5 d5.length q5), (23, vI (d5.length : Int)), (24, vI (w64 (y11 + (1 : Int))))]) hf117 (by kernel_rfl)
      exact ⟨n3, Nat.lt_succ_self n3, z7, y9, y12, (w64 (y11 + (1 : Int))), e7, q7, (Zone.le_trans k8 k9), hf118, (St.drop 1 hS56), hr44⟩
    ·have hr45 := cond_f hb12 hr25
     refine w_exit (id := 0) (by kernel_rfl) ?_
     refine x_then ?_
     refine x_then ?_
     refine x_block ?_
     refine p_fall (os := []) (v := .tuple #[]) (obs := []) hf71 (by kernel_rfl) .nil ?_
     refine ⟨_, rfl, fun a98 hf119 => ?_⟩
     refine p_jump0 hS34 (j := 1) rfl (fun h => by cases h) fun ww44 hS57 => ?_
     refine n_block ?_
     refine n_then ?_
     refine w_sq [.slice e6 y13.length q6] [(4, .slice e6 y13.length q6)] [.cell ⟨b5, 0, none⟩ (.slice e6 y13.length q6)] hf119 (by kernel_rfl) (.cell (hS57.box (i := 5) rfl (j := 0) rfl) .nil) fun a99 hf120 => ?_
     refine w_ret (by kernel_rfl) ?_
     refine p_retM hf120 ?_
     refine p_mark hS57 (j := 2) rfl fun ww45 hS58 => ?_
     refine p_end (os := []) (v := .slice e6 y13.length q6) (obs := []) hf120 (by kernel_rfl) .nil ?_
     exact ⟨_, rfl, z6, y13, e6, q6, k8, rfl, (St.pick 8 [0] hS58 (by kernel_rfl)), hr45⟩
  ·rintro v4 ww46 a100 ⟨z2, y1, e1, q1, k12, rfl, hS59, hr46⟩ hf121
   refine ⟨fun _ => trivial, ?_⟩
   refine p_qt [] [(4, .slice e1 y1.length q1), (5, vI 0)] [] hf121 (by kernel_rfl) .nil fun a101 hf122 => ?_
   refine w_ret (by kernel_rfl) ?_
   obtain ⟨z10, k13, hS60, hx2⟩ := hS59.share (j := 0) rfl
   refine p_ret (os := []) (v := .tuple #[.slice e1 y1.length q1, vI 0]) (obs := []) hf122 (by kernel_rfl) .nil ?_
   obtain rfl := some_eq hr46
   exact ⟨_, rfl, z10, e1, q1, (Zone.le_trans (Zone.le_trans k4 k12) k13), rfl, (St.drop 3 hS60), hx2⟩
def F27 (fuel : Nat) (x0 : List Pt) (x1 : Int) : Option (Int × Int × Int) :=
  ((F67 fuel x0).bind fun r1 => (cond (r1 != (0 : Int)) (some (0, 0, r1)) ((F81 fuel x0 x1 x1).bind fun r2 => (cond (!r2) (some (0, 0, 4)) ((F88 fuel x0 x1).bind fun r3 => (some (r3.1, r3.2, 0)))))))
set_option maxRecDepth 100000 in
theorem f27_ok (fuel : Nat) (x0 : List Pt) (x1 : Int) (r : Int × Int × Int) (hr : F27 fuel x0 x1 = some r) (h : Zone) (L : List Atom) (w : World) (hS : St h L w) (o_x0 : Option Addr) (c_x0 : Nat) (hx_x0 : SliceR PtT h o_x0 c_x0 x0) :
    Calls Try.prog 27 #[.agg #[.slice o_x0 x0.length c_x0], vI x1] w fun e w' => ∃ v, e = .returned v ∧ (∃ h', Zone.le h h' ∧ v = .tuple #[.agg #[vI r.1, vI r.2.1], vI r.2.2] ∧ St h' L w') := by
 refine calls_intro (N := 23) Try.func27 (by kernel_rfl) fun a hf => ?_
 refine w_sr (by kernel_rfl) ?_
 refine p_box (i := 0) (d := (some 2)) (cs := [.slice o_x0 x0.length c_x0]) (T := 24) (v := fun b1 => pB b1 0) hS hf (fun b => by kernel_rfl) fun b1 ww1 a1 hS1 hf1 => ⟨fun _ => trivial, ?_⟩
 refine p_box (i := 1) (d := (some 4)) (cs := [vI 0, vI 0]) (T := 41) (v := fun b2 => pB b2 0) hS1 hf1 (fun b => by kernel_rfl) fun b2 ww2 a2 hS2 hf2 => ⟨fun _ => trivial, ?_⟩
 refine p_qt [] [(1, vI x1), (2, pB b1 0), (4, pB b2 0)] [] hf2 (by kernel_rfl) .nil fun a3 hf3 => ?_
 refine w_seq (by kernel_rfl) ?_
 refine w_sr (by kernel_rfl) ?_
 refine p_qn 1 [.slice o_x0 x0.length c_x0] [(1, vI x1), (2, pB b1 0), (4, pB b2 0), (7, .agg #[.slice o_x0 x0.length c_x0])] [.cell ⟨b1, 0, none⟩ (.slice o_x0 x0.length c_x0)] hf3 (by kernel_rfl) (.cell (hS2.box (i := 1) rfl (j := 0) rfl) .nil) fun a4 hf4 => ?_
 obtain ⟨r1, hd1, hr1⟩ := bind_some hr
 refine p_call (i := 1) (d := some 8) (f := 67) (args := #[.agg #[.slice o_x0 x0.length c_x0]]) hf4 (by kernel_rfl) (f67_ok fuel x0 r1 hd1 h _ _ hS2 o_x0 c_x0 hx_x0) ?_
 rintro v1 ww3 a5 ⟨z1, k1, rfl, hS3⟩ hf5
 refine ⟨fun _ => trivial, ?_⟩
 refine p_qt [] [(1, vI x1), (2, pB b1 0), (4, pB b2 0), (6, vI r1)] [] hf5 (by kernel_rfl) .nil fun a6 hf6 => ?_
 refine w_sq [] [(1, vI x1), (2, pB b1 0), (4, pB b2 0), (6, vI r1), (10, .bool (r1 != (0 : Int)))] [] hf6 (by kernel_rfl) .nil fun a7 hf7 => ?_
 refine w_if hf7 (b := (r1 != (0 : Int))) (by kernel_rfl) (fun hb1 => ?_) (fun hb1 => ?_)
 ·have hr2 := cond_t hb1 hr1
  refine w_sr (by kernel_rfl) ?_
  refine p_qn 2 [] [(4, pB b2 0), (11, .agg #[vI 0, vI 0]), (12, vI r1)] [] hf7 (by kernel_rfl) .nil fun a8 hf8 => ?_
  refine p_store_eq (i := 2) (j := 0) (b := b2) (off := 0) (vs := [vI 0, vI 0]) (cs' := [vI 0, vI 0]) hS3 hf8 rfl (by kernel_rfl) (by kernel_rfl) rfl fun ww4 a9 hS4 hf9 => ⟨fun _ => trivial, ?_⟩
  refine p_qt [] [(4, pB b2 0), (5, vI r1)] [] hf9 (by kernel_rfl) .nil fun a10 hf10 => ?_
  refine w_ret (by kernel_rfl) ?_
  refine r_then ?_
  refine p_ret (os := [vI 0, vI 0]) (v := .tuple #[.agg #[vI 0, vI 0], vI r1]) (obs := [.cell ⟨b2, 0, none⟩ (vI 0), .cell ⟨b2, 1, none⟩ (vI 0)]) hf10 (by kernel_rfl) (.cell (hS4.box (i := 0) rfl (j := 0) rfl) (.cell (hS4.box (i := 0) rfl (j := 1) rfl) .nil)) ?_
  obtain rfl := some_eq hr2
  exact ⟨_, rfl, z1, k1, rfl, (St.drop 2 hS4)⟩
 ·have hr3 := cond_f hb1 hr1
  refine w_skip (by kernel_rfl) ?_
  refine n_then ?_
  refine w_seq (by kernel_rfl) ?_
  refine w_sr (by kernel_rfl) ?_
  refine p_qn 4 [.slice o_x0 x0.length c_x0] [(1, vI x1), (2, pB b1 0), (4, pB b2 0), (13, .agg #[.slice o_x0 x0.length c_x0]), (16, .agg #[vI x1, vI x1])] [.cell ⟨b1, 0, none⟩ (.slice o_x0 x0.length c_x0)] hf7 (by kernel_rfl) (.cell (hS3.box (i := 1) rfl (j := 0) rfl) .nil) fun a11 hf11 => ?_
  obtain ⟨r2, hd2, hr4⟩ := bind_some hr3
  refine p_call (i := 4) (d := some 17) (f := 81) (args := #[.agg #[.slice o_x0 x0.length c_x0], .agg #[vI x1, vI x1]]) hf11 (by kernel_rfl) (f81_ok fuel x0 x1 x1 r2 hd2 z1 _ _ hS3 o_x0 c_x0 (SliceR.mono k1 hx_x0)) ?_
  rintro v2 ww5 a12 ⟨z2, k2, rfl, hS5⟩ hf12
  refine ⟨fun _ => trivial, ?_⟩
  refine p_qt [] [(1, vI x1), (2, pB b1 0), (4, pB b2 0), (18, .bool (!r2))] [] hf12 (by kernel_rfl) .nil fun a13 hf13 => ?_
  refine w_if hf13 (b := (!r2)) (by kernel_rfl) (fun hb2 => ?_) (fun hb2 => ?_)
  ·have hr5 := cond_t hb2 hr4
   refine w_sr (by kernel_rfl) ?_
   refine p_qn 1 [] [(4, pB b2 0), (19, .agg #[vI 0, vI 0])] [] hf13 (by kernel_rfl) .nil fun a14 hf14 => ?_
   refine p_store_eq (i := 1) (j := 0) (b := b2) (off := 0) (vs := [vI 0, vI 0]) (cs' := [vI 0, vI 0]) hS5 hf14 rfl (by kernel_rfl) (by kernel_rfl) rfl fun ww6 a15 hS6 hf15 => ⟨fun _ => trivial, ?_⟩
   refine p_qt [] [(4, pB b2 0), (5, vI 4)] [] hf15 (by kernel_rfl) .nil fun a16 hf16 => ?_
   refine w_ret (by kernel_rfl) ?_
   refine r_then ?_
   refine p_ret (os := [vI 0, vI 0]) (v := .tuple #[.agg #[vI 0, vI 0], vI 4]) (obs := [.cell ⟨b2, 0, none⟩ (vI 0), .cell ⟨b2, 1, none⟩ (vI 0)]) hf16 (by kernel_rfl) (.cell (hS6.box (i := 0) rfl (j := 0) rfl) (.cell (hS6.box (i := 0) rfl (j := 1) rfl) .nil)) ?_
   obtain rfl := some_eq hr5
   exact ⟨_, rfl, z2, (Zone.le_trans k1 k2), rfl, (St.drop 2 hS6)⟩
  ·have hr6 := cond_f hb2 hr4
   refine w_skip (by kernel_rfl) ?_
   refine n_then ?_
   refine w_sr (by kernel_rfl) ?_
   refine p_qn 2 [.slice o_x0 x0.length c_x0] [(4, pB b2 0), (20, .agg #[.slice o_x0 x0.length c_x0]), (21, vI x1)] [.cell ⟨b1, 0, none⟩ (.slice o_x0 x0.length c_x0)] hf13 (by kernel_rfl) (.cell (hS5.box (i := 1) rfl (j := 0) rfl) .nil) fun a17 hf17 => ?_
   obtain ⟨r3, hd3, hr7⟩ := bind_some hr6
   refine p_call (i := 2) (d := some 22) (f := 88) (args := #[.agg #[.slice o_x0 x0.length c_x0], vI x1]) hf17 (by kernel_rfl) (f88_ok fuel x0 x1 r3 hd3 z2 _ _ hS5 o_x0 c_x0 (SliceR.mono (Zone.le_trans k1 k2) hx_x0)) ?_
   rintro v3 ww7 a18 ⟨z3, k3, rfl, hS7⟩ hf18
   refine ⟨fun _ => trivial, ?_⟩
   refine p_store_eq (i := 3) (j := 0) (b := b2) (off := 0) (vs := [vI r3.1, vI r3.2]) (cs' := [vI r3.1, vI r3.2]) hS7 hf18 rfl (by kernel_rfl) (by kernel_rfl) rfl fun ww8 a19 hS8 hf19 => ⟨fun _ => trivial, ?_⟩
   refine p_qt [] [(4, pB b2 0), (5, vI 0)] [] hf19 (by kernel_rfl) .nil fun a20 hf20 => ?_
   refine w_ret (by kernel_rfl) ?_
   refine p_ret (os := [vI r3.1, vI r3.2]) (v := .tuple #[.agg #[vI r3.1, vI r3.2], vI 0]) (obs := [.cell ⟨b2, 0, none⟩ (vI r3.1), .cell ⟨b2, 1, none⟩ (vI r3.2)]) hf20 (by kernel_rfl) (.cell (hS8.box (i := 0) rfl (j := 0) rfl) (.cell (hS8.box (i := 0) rfl (j := 1) rfl) .nil)) ?_
   obtain rfl := some_eq hr7
   exact ⟨_, rfl, z3, (Zone.le_trans (Zone.le_trans k1 k2) k3), rfl, (St.drop 2 hS8)⟩
def F100_j1 (y1 : Int) : Option (Int) :=
  (some (y1))
def F100 (fuel : Nat) (x0 : Int) (x1 : Int) : Option (Int) :=
  ((nz x1).bind fun _ => ((nz x1).bind fun _ => (cond (decide ((Int.tmod x0 x1) < (0 : Int))) (F100_j1 (w64 ((w64 (Int.tdiv x0 x1)) - (1 : Int)))) (F100_j1 (w64 (Int.tdiv x0 x1))))))
set_option maxRecDepth 100000 in
theorem f100_ok (fuel : Nat) (x0 : Int) (x1 : Int) (r : Int) (hr : F100 fuel x0 x1 = some r) (h : Zone) (L : List Atom) (w : World) (hS : St h L w)  :
    Calls Try.prog 100 #[vI x0, vI x1] w fun e w' => ∃ v, e = .returned v ∧ (∃ h', Zone.le h h' ∧ v = vI r ∧ St h' L w') := by
 refine calls_intro (N := 16) Try.func100 (by kernel_rfl) fun a hf => ?_
 refine w_sq [] [(0, vI x0), (1, vI x1)] [] hf (by kernel_rfl) .nil fun a1 hf1 => ?_
 obtain ⟨u1, hd1, hr1⟩ := bind_some hr
 refine w_sq [] [(0, vI x0), (1, vI x1), (5, vI (w64 (Int.tdiv x0 x1)))] [.prop (x1 ≠ 0)] hf1 (by kernel_rfl) (.prop (nz_spec hd1) .nil) fun a2 hf2 => ?_
 refine w_mid (by kernel_rfl) (fun a w => ∃ z1 : Zone, ∃ y1 : Int, Zone.le h z1 ∧ Fr a 16 [(5, vI y1)] ∧ St z1 (L) w ∧ (F100_j1 y1) = some r) ?_ ?_
 ·skip
  obtain ⟨u2, hd2, hr2⟩ := bind_some hr1
  refine w_sq [] [(5, vI (w64 (Int.tdiv x0 x1))), (12, .bool (decide ((Int.tmod x0 x1) < (0 : Int))))] [.prop (x1 ≠ 0)] hf2 (by kernel_rfl) (.prop (nz_spec hd2) .nil) fun a3 hf3 => ?_
  refine w_if hf3 (b := (decide ((Int.tmod x0 x1) < (0 : Int)))) (by kernel_rfl) (fun hb1 => ?_) (fun hb1 => ?_)
  ·have hr3 := cond_t hb1 hr2
   refine w_q [] [(5, vI (w64 ((w64 (Int.tdiv x0 x1)) - (1 : Int))))] [] hf3 (by kernel_rfl) .nil fun a4 hf4 => ?_
   refine n_then ?_
   have hf5 := Fr.keep (ks := [5]) (r := [(5, vI (w64 ((w64 (Int.tdiv x0 x1)) - (1 : Int))))]) hf4 (by kernel_rfl)
   exact ⟨h, (w64 ((w64 (Int.tdiv x0 x1)) - (1 : Int))), (Zone.le_refl _), hf5, hS, hr3⟩
  ·have hr4 := cond_f hb1 hr2
   refine w_skip (by kernel_rfl) ?_
   refine n_then ?_
   have hf6 := Fr.keep (ks := [5]) (r := [(5, vI (w64 (Int.tdiv x0 x1)))]) hf3 (by kernel_rfl)
   exact ⟨h, (w64 (Int.tdiv x0 x1)), (Zone.le_refl _), hf6, hS, hr4⟩
 ·rintro a5 ww1 ⟨z1, y1, k1, hf7, hS1, hr5⟩
  refine w_sq [] [(4, vI y1)] [] hf7 (by kernel_rfl) .nil fun a6 hf8 => ?_
  refine w_ret (by kernel_rfl) ?_
  refine p_ret (os := []) (v := vI y1) (obs := []) hf8 (by kernel_rfl) .nil ?_
  obtain rfl := some_eq hr5
  exact ⟨_, rfl, z1, k1, rfl, hS1⟩
def F30_j1 (fuel : Nat) (k1 : Int → Option (Int × Int × Int)) (x0 : List Int) (x1 : List Int) (x2 : Int) (y1 : Int) (y2 : Bool) : Option (Int × Int × Int) :=
  (cond y2 (k1 (w64 (y1 + (1 : Int)))) ((getI x0 y1).bind fun p1 => (cond (p1 == x2) ((getI x1 y1).bind fun p2 => (some (p2, 0, 1))) ((getI x0 (w64 (y1 + (1 : Int)))).bind fun p3 => ((getI x0 y1).bind fun p4 => ((getI x1 (w64 (y1 + (1 : Int)))).bind fun p5 => ((getI x1 y1).bind fun p6 => ((getI x0 y1).bind fun p7 => ((F100 fuel (w64 ((w64 (p5 - p6)) * (w64 (x2 - p7)))) (w64 (p3 - p4))).bind fun r1 => ((getI x1 y1).bind fun p8 => (some ((w64 (p8 + r1)), (w64 ((w64 ((w64 (p5 - p6)) * (w64 (x2 - p7)))) - (w64 (r1 * (w64 (p3 - p4)))))), (w64 (p3 - p4))))))))))))))
def F30_l1 (fuel : Nat) (x0 : List Int) (x1 : List Int) (x2 : Int) : Nat → Int → Option (Int × Int × Int)
  | 0, _ => none
  | n1 + 1, y1 =>
    let k1 : Int → Option (Int × Int × Int) := F30_l1 fuel x0 x1 x2 n1
    (cond (decide ((w64 (y1 + (1 : Int))) < (x0.length : Int))) ((getI x0 (w64 (y1 + (1 : Int)))).bind fun p9 => (F30_j1 fuel k1 x0 x1 x2 y1 (decide (p9 ≤ x2)))) (F30_j1 fuel k1 x0 x1 x2 y1 false))
def F30 (fuel : Nat) (x0 : List Int) (x1 : List Int) (x2 : Int) : Option (Int × Int × Int) :=
  (F30_l1 fuel x0 x1 x2 fuel 0)
set_option maxRecDepth 100000 in
theorem f30_ok (fuel : Nat) (x0 : List Int) (x1 : List Int) (x2 : Int) (r : Int × Int × Int) (hr : F30 fuel x0 x1 x2 = some r) (h : Zone) (L : List Atom) (w : World) (hS : St h L w) (o_x0 : Option Addr) (c_x0 : Nat) (hx_x0 : SliceR Ty.int h o_x0 c_x0 x0) (o_x1 : Option Addr) (c_x1 : Nat) (hx_x1 : SliceR Ty.int h o_x1 c_x1 x1) :
    Calls Try.prog 30 #[.slice o_x0 x0.length c_x0, .slice o_x1 x1.length c_x1, vI x2] w fun e w' => ∃ v, e = .returned v ∧ (∃ h', Zone.le h h' ∧ v = .agg #[vI r.1, vI r.2.1, vI r.2.2] ∧ St h' L w') := by
 refine calls_intro (N := 81) Try.func30 (by kernel_rfl) fun a hf => ?_
 refine w_sr (by kernel_rfl) ?_
 refine p_box (i := 0) (d := (some 6)) (cs := [vI 0, vI 0, vI 0]) (T := 56) (v := fun b1 => pB b1 0) hS hf (fun b => by kernel_rfl) fun b1 ww1 a1 hS1 hf1 => ⟨fun _ => trivial, ?_⟩
 refine p_dt (by kernel_rfl) ?_
 refine w_sq [] [(0, .slice o_x0 x0.length c_x0), (1, .slice o_x1 x1.length c_x1), (2, vI x2), (6, pB b1 0), (7, vI 0)] [] hf1 (by kernel_rfl) .nil fun a2 hf2 => ?_
 refine w_seq (by kernel_rfl) ?_
 refine w_block (id := 0) (by kernel_rfl) ?_
 have hf3 := Fr.keep (ks := [0, 1, 2, 6, 7]) (r := [(0, .slice o_x0 x0.length c_x0), (1, .slice o_x1 x1.length c_x1), (2, vI x2), (6, pB b1 0), (7, vI 0)]) hf2 (by kernel_rfl)
 refine w_loop (by kernel_rfl) (fun n a w => ∃ z1 : Zone, ∃ y1 : Int, Zone.le h z1 ∧ Fr a 81 [(0, .slice o_x0 x0.length c_x0), (1, .slice o_x1 x1.length c_x1), (2, vI x2), (6, pB b1 0), (7, vI y1)] ∧ St z1 (box b1 [vI 0, vI 0, vI 0] 56 :: L) w ∧ (F30_l1 fuel x0 x1 x2 n y1) = some r) fuel ⟨h, 0, (Zone.le_refl _), hf3, hS1, hr⟩ ?_
 rintro n2 a3 ww2 ⟨z1, y1, k2, hf4, hS2, hr1⟩
 cases n2 with
 | zero => cases hr1
 | succ n1 =>
 refine w_seq (by kernel_rfl) ?_
 refine w_mid (by kernel_rfl) (fun a w => ∃ z2 : Zone, ∃ y2 : Bool, Zone.le z1 z2 ∧ Fr a 81 [(0, .slice o_x0 x0.length c_x0), (1, .slice o_x1 x1.length c_x1), (2, vI x2), (6, pB b1 0), (7, vI y1), (24, .bool y2)] ∧ St z2 (box b1 [vI 0, vI 0, vI 0] 56 :: L) w ∧ (F30_j1 fuel (F30_l1 fuel x0 x1 x2 n1) x0 x1 x2 y1 y2) = some r) ?_ ?_
 ·skip
  refine w_reg (by kernel_rfl) ?_
  refine p_qn 6 [] [(0, .slice o_x0 x0.length c_x0), (1, .slice o_x1 x1.length c_x1), (2, vI x2), (6, pB b1 0), (7, vI y1), (16, .bool (decide ((w64 (y1 + (1 : Int))) < (x0.length : Int))))] [] hf4 (by kernel_rfl) .nil fun a4 hf5 => ?_
  rcases Bool.eq_false_or_eq_true (decide ((w64 (y1 + (1 : Int))) < (x0.length : Int))) with hb1 | hb1
  ·have hr2 := cond_t hb1 hr1
   have hf6 := Fr.conv hf5 (congrArg (fun z => ([(0, .slice o_x0 x0.length c_x0), (1, .slice o_x1 x1.length c_x1), (2, vI x2), (6, pB b1 0), (7, vI y1), (16, .bool z)] : FL)) hb1)
   obtain ⟨p9, hp795, hr3⟩ := bind_some hr2
   obtain ⟨ad1, ho1, hb2, cc1, hc1, hk1⟩ := SliceR.getI (SliceR.mono k2 hx_x0) hp795
   subst hc1
   refine p_qt [.pointer (some ad1), vI p9] [(0, .slice o_x0 x0.length c_x0), (1, .slice o_x1 x1.length c_x1), (2, vI x2), (6, pB b1 0), (7, vI y1), (17, .slice o_x0 x0.length c_x0), (18, vI y1), (19, vI (w64 (y1 + (1 : Int)))), (20, .pointer (some (ad1.add (Int.toNat (w64 (y1 + (1 : Int))) * 1)))), (21, vI p9), (22, vI x2), (23, .bool (decide (p9 ≤ x2))), (24, .bool (decide (p9 ≤ x2)))] [.prop (o_x0 = some ad1), .prop (0 ≤ (w64 (y1 + (1 : Int))) ∧ (w64 (y1 + (1 : Int))) < (x0.length : Nat)), .cell ((ad1.add (Int.toNat (w64 (y1 + (1 : Int))) * 1)).add 0) (vI p9)] hf6 (by kernel_rfl) (.prop ho1 (.prop hb2 (.cell (hS2.cell (hk1 0 _ rfl)) .nil))) fun a5 hf7 => ?_
   have hf8 := Fr.keep (ks := [0, 1, 2, 6, 7, 24]) (r := [(0, .slice o_x0 x0.length c_x0), (1, .slice o_x1 x1.length c_x1), (2, vI x2), (6, pB b1 0), (7, vI y1), (24, .bool (decide (p9 ≤ x2)))]) hf7 (by kernel_rfl)
   exact ⟨z1, (decide (p9 ≤ x2)), (Zone.le_refl _), hf8, hS2, hr3⟩
  ·have hr4 := cond_f hb1 hr1
   have hf9 := Fr.conv hf5 (congrArg (fun z => ([(0, .slice o_x0 x0.length c_x0), (1, .slice o_x1 x1.length c_x1), (2, vI x2), (6, pB b1 0), (7, vI y1), (16, .bool z)] : FL)) hb1)
   refine p_qt [] [(0, .slice o_x0 x0.length c_x0), (1, .slice o_x1 x1.length c_x1), (2, vI x2), (6, pB b1 0), (7, vI y1), (17, undef), (18, undef), (19, undef), (20, undef), (21, undef), (22, undef), (23, undef), (24, .bool false)] [] hf9 (by kernel_rfl) .nil fun a6 hf10 => ?_
   have hf11 := Fr.keep (ks := [0, 1, 2, 6, 7, 24]) (r := [(0, .slice o_x0 x0.length c_x0), (1, .slice o_x1 x1.length c_x1), (2, vI x2), (6, pB b1 0), (7, vI y1), (24, .bool false)]) hf10 (by kernel_rfl)
   exact ⟨z1, false, (Zone.le_refl _), hf11, hS2, hr4⟩
 ·rintro a7 ww3 ⟨z2, y2, k3, hf12, hS3, hr5⟩
  refine w_if hf12 (b := y2) (by kernel_rfl) (fun hb3 => ?_) (fun hb3 => ?_)
  ·have hr6 := cond_t hb3 hr5
   refine w_skip (by kernel_rfl) ?_
   refine n_then ?_
   refine w_block (id := 1) (by kernel_rfl) ?_
   refine w_q [] [(0, .slice o_x0 x0.length c_x0), (1, .slice o_x1 x1.length c_x1), (2, vI x2), (6, pB b1 0), (7, vI (w64 (y1 + (1 : Int))))] [] hf12 (by kernel_rfl) .nil fun a8 hf13 => ?_
   refine n_block ?_
   refine n_then ?_
   have hf14 := Fr.keep (ks := [0, 1, 2, 6, 7]) (r := [(0, .slice o_x0 x0.length c_x0), (1, .slice o_x1 x1.length c_x1), (2, vI x2), (6, pB b1 0), (7, vI (w64 (y1 + (1 : Int))))]) hf13 (by kernel_rfl)
   exact ⟨n1, Nat.lt_succ_self n1, z2, (w64 (y1 + (1 : Int))), (Zone.le_trans k2 k3), hf14, hS3, hr6⟩
  ·have hr7 := cond_f hb3 hr5
   refine w_exit (id := 0) (by kernel_rfl) ?_
   refine x_then ?_
   refine x_then ?_
   refine x_block ?_
   refine n_then ?_
   refine w_seq (by kernel_rfl) ?_
   obtain ⟨p1, hp847, hr8⟩ := bind_some hr7
   obtain ⟨ad2, ho2, hb4, cc2, hc2, hk2⟩ := SliceR.getI (SliceR.mono (Zone.le_trans k2 k3) hx_x0) hp847
   subst hc2
   refine w_sq [.pointer (some ad2), vI p1] [(0, .slice o_x0 x0.length c_x0), (1, .slice o_x1 x1.length c_x1), (2, vI x2), (6, pB b1 0), (7, vI y1), (32, .bool (p1 == x2))] [.prop (o_x0 = some ad2), .prop (0 ≤ y1 ∧ y1 < (x0.length : Nat)), .cell ((ad2.add (Int.toNat y1 * 1)).add 0) (vI p1)] hf12 (by kernel_rfl) (.prop ho2 (.prop hb4 (.cell (hS3.cell (hk2 0 _ rfl)) .nil))) fun a9 hf15 => ?_
   refine w_if hf15 (b := (p1 == x2)) (by kernel_rfl) (fun hb5 => ?_) (fun hb5 => ?_)
   ·have hr9 := cond_t hb5 hr8
    refine w_sr (by kernel_rfl) ?_
    obtain ⟨p2, hp861, hr10⟩ := bind_some hr9
    obtain ⟨ad3, ho3, hb6, cc3, hc3, hk3⟩ := SliceR.getI (SliceR.mono (Zone.le_trans k2 k3) hx_x1) hp861
    subst hc3
    refine p_qn 5 [.pointer (some ad3), vI p2] [(6, pB b1 0), (37, .agg #[vI p2, vI 0, vI 1])] [.prop (o_x1 = some ad3), .prop (0 ≤ y1 ∧ y1 < (x1.length : Nat)), .cell ((ad3.add (Int.toNat y1 * 1)).add 0) (vI p2)] hf15 (by kernel_rfl) (.prop ho3 (.prop hb6 (.cell (hS3.cell (hk3 0 _ rfl)) .nil))) fun a10 hf16 => ?_
    refine p_store_eq (i := 5) (j := 0) (b := b1) (off := 0) (vs := [vI p2, vI 0, vI 1]) (cs' := [vI p2, vI 0, vI 1]) hS3 hf16 rfl (by kernel_rfl) (by kernel_rfl) rfl fun ww4 a11 hS4 hf17 => ⟨fun _ => trivial, ?_⟩
    refine p_dt (by kernel_rfl) ?_
    refine w_ret (by kernel_rfl) ?_
    refine r_then ?_
    refine p_ret (os := [vI p2, vI 0, vI 1]) (v := .agg #[vI p2, vI 0, vI 1]) (obs := [.cell ⟨b1, 0, none⟩ (vI p2), .cell ⟨b1, 1, none⟩ (vI 0), .cell ⟨b1, 2, none⟩ (vI 1)]) hf17 (by kernel_rfl) (.cell (hS4.box (i := 0) rfl (j := 0) rfl) (.cell (hS4.box (i := 0) rfl (j := 1) rfl) (.cell (hS4.box (i := 0) rfl (j := 2) rfl) .nil))) ?_
    obtain rfl := some_eq hr10
    exact ⟨_, rfl, z2, (Zone.le_trans k2 k3), rfl, (St.drop 1 hS4)⟩
   ·have hr11 := cond_f hb5 hr8
    refine w_skip (by kernel_rfl) ?_
    refine n_then ?_
    have hS5 := hS3.drew
    obtain ⟨p3, hp877, hr12⟩ := bind_some hr11
    obtain ⟨ad4, ho4, hb7, cc4, hc4, hk4⟩ := SliceR.getI (SliceR.mono (Zone.le_trans k2 k3) hx_x0) hp877
    subst hc4
    obtain ⟨p4, hp886, hr13⟩ := bind_some hr12
    obtain ⟨ad5, ho5, hb8, cc5, hc5, hk5⟩ := SliceR.getI (SliceR.mono (Zone.le_trans k2 k3) hx_x0) hp886
    subst hc5
    refine w_sqD [(0, true), (1, true), (2, true), (3, true), (4, true), (5, true), (6, true), (7, true), (8, true), (9, true), (10, true)] [] [.pointer (some ad4), vI p3, .pointer (some ad5), vI p4] [(0, .slice o_x0 x0.length c_x0), (1, .slice o_x1 x1.length c_x1), (2, vI x2), (6, pB b1 0), (7, vI y1), (8, vI (w64 (p3 - p4)))] [.prop (o_x0 = some ad4), .prop (0 ≤ (w64 (y1 + (1 : Int))) ∧ (w64 (y1 + (1 : Int))) < (x0.length : Nat)), .cell ((ad4.add (Int.toNat (w64 (y1 + (1 : Int))) * 1)).add 0) (vI p3), .prop (o_x0 = some ad5), .prop (0 ≤ y1 ∧ y1 < (x0.length : Nat)), .cell ((ad5.add (Int.toNat y1 * 1)).add 0) (vI p4)] [] hf15 (by kernel_rfl) (.prop ho4 (.prop hb7 (.cell (hS5.cell (hk4 0 _ rfl)) (.prop ho5 (.prop hb8 (.cell (hS5.cell (hk5 0 _ rfl)) .nil)))))) .nil fun a12 hf18 => ?_
    have hS6 := hS5.drew
    obtain ⟨p5, hp898, hr14⟩ := bind_some hr13
    obtain ⟨ad6, ho6, hb9, cc6, hc6, hk6⟩ := SliceR.getI (SliceR.mono (Zone.le_trans k2 k3) hx_x1) hp898
    subst hc6
    obtain ⟨p6, hp907, hr15⟩ := bind_some hr14
    obtain ⟨ad7, ho7, hb10, cc7, hc7, hk7⟩ := SliceR.getI (SliceR.mono (Zone.le_trans k2 k3) hx_x1) hp907
    subst hc7
    obtain ⟨p7, hp916, hr16⟩ := bind_some hr15
    obtain ⟨ad8, ho8, hb11, cc8, hc8, hk8⟩ := SliceR.getI (SliceR.mono (Zone.le_trans k2 k3) hx_x0) hp916
    subst hc8
    refine w_sqD [(0, true), (1, true), (2, true), (3, true), (4, true), (5, true), (6, true), (7, true), (8, true), (9, true), (10, true), (11, true), (12, true), (13, true), (14, true), (15, true), (16, true), (17, true)] [] [.pointer (some ad6), vI p5, .pointer (some ad7), vI p6, .pointer (some ad8), vI p7] [(1, .slice o_x1 x1.length c_x1), (6, pB b1 0), (7, vI y1), (8, vI (w64 (p3 - p4))), (9, vI (w64 ((w64 (p5 - p6)) * (w64 (x2 - p7)))))] [.prop (o_x1 = some ad6), .prop (0 ≤ (w64 (y1 + (1 : Int))) ∧ (w64 (y1 + (1 : Int))) < (x1.length : Nat)), .cell ((ad6.add (Int.toNat (w64 (y1 + (1 : Int))) * 1)).add 0) (vI p5), .prop (o_x1 = some ad7), .prop (0 ≤ y1 ∧ y1 < (x1.length : Nat)), .cell ((ad7.add (Int.toNat y1 * 1)).add 0) (vI p6), .prop (o_x0 = some ad8), .prop (0 ≤ y1 ∧ y1 < (x0.length : Nat)), .cell ((ad8.add (Int.toNat y1 * 1)).add 0) (vI p7)] [] hf18 (by kernel_rfl) (.prop ho6 (.prop hb9 (.cell (hS6.cell (hk6 0 _ rfl)) (.prop ho7 (.prop hb10 (.cell (hS6.cell (hk7 0 _ rfl)) (.prop ho8 (.prop hb11 (.cell (hS6.cell (hk8 0 _ rfl)) .nil))))))))) .nil fun a13 hf19 => ?_
    refine w_sr (by kernel_rfl) ?_
    refine p_qn 2 [] [(1, .slice o_x1 x1.length c_x1), (6, pB b1 0), (7, vI y1), (8, vI (w64 (p3 - p4))), (9, vI (w64 ((w64 (p5 - p6)) * (w64 (x2 - p7))))), (65, vI (w64 ((w64 (p5 - p6)) * (w64 (x2 - p7))))), (66, vI (w64 (p3 - p4)))] [] hf19 (by kernel_rfl) .nil fun a14 hf20 => ?_
    obtain ⟨r1, hd1, hr17⟩ := bind_some hr16
    refine p_call (i := 2) (d := some 67) (f := 100) (args := #[vI (w64 ((w64 (p5 - p6)) * (w64 (x2 - p7)))), vI (w64 (p3 - p4))]) hf20 (by kernel_rfl) (f100_ok fuel (w64 ((w64 (p5 - p6)) * (w64 (x2 - p7)))) (w64 (p3 - p4)) r1 hd1 z2 _ _ hS6 ) ?_
    rintro v1 ww5 a15 ⟨z3, k4, rfl, hS7⟩ hf21
    refine ⟨fun _ => trivial, ?_⟩
    refine p_qt [] [(1, .slice o_x1 x1.length c_x1), (6, pB b1 0), (7, vI y1), (8, vI (w64 (p3 - p4))), (9, vI (w64 ((w64 (p5 - p6)) * (w64 (x2 - p7))))), (10, vI r1)] [] hf21 (by kernel_rfl) .nil fun a16 hf22 => ?_
    refine w_sr (by kernel_rfl) ?_
    obtain ⟨p8, hp946, hr18⟩ := bind_some hr17
    obtain ⟨ad9, ho9, hb12, cc9, hc9, hk9⟩ := SliceR.getI (SliceR.mono (Zone.le_trans (Zone.le_trans k2 k3) k4) hx_x1) hp946
    subst hc9
    refine p_qn 13 [.pointer (some ad9), vI p8] [(6, pB b1 0), (80, .agg #[vI (w64 (p8 + r1)), vI (w64 ((w64 ((w64 (p5 - p6)) * (w64 (x2 - p7)))) - (w64 (r1 * (w64 (p3 - p4)))))), vI (w64 (p3 - p4))])] [.prop (o_x1 = some ad9), .prop (0 ≤ y1 ∧ y1 < (x1.length : Nat)), .cell ((ad9.add (Int.toNat y1 * 1)).add 0) (vI p8)] hf22 (by kernel_rfl) (.prop ho9 (.prop hb12 (.cell (hS7.cell (hk9 0 _ rfl)) .nil))) fun a17 hf23 => ?_
    refine p_store_eq (i := 13) (j := 0) (b := b1) (off := 0) (vs := [vI (w64 (p8 + r1)), vI (w64 ((w64 ((w64 (p5 - p6)) * (w64 (x2 - p7)))) - (w64 (r1 * (w64 (p3 - p4)))))), vI (w64 (p3 - p4))]) (cs' := [vI (w64 (p8 + r1)), vI (w64 ((w64 ((w64 (p5 - p6)) * (w64 (x2 - p7)))) - (w64 (r1 * (w64 (p3 - p4)))))), vI (w64 (p3 - p4))]) hS7 hf23 rfl (by kernel_rfl) (by kernel_rfl) rfl fun ww6 a18 hS8 hf24 => ⟨fun _ => trivial, ?_⟩
    refine p_dt (by kernel_rfl) ?_
    refine w_ret (by kernel_rfl) ?_
    refine p_ret (os := [vI (w64 (p8 + r1)), vI (w64 ((w64 ((w64 (p5 - p6)) * (w64 (x2 - p7)))) - (w64 (r1 * (w64 (p3 - p4)))))), vI (w64 (p3 - p4))]) (v := .agg #[vI (w64 (p8 + r1)), vI (w64 ((w64 ((w64 (p5 - p6)) * (w64 (x2 - p7)))) - (w64 (r1 * (w64 (p3 - p4)))))), vI (w64 (p3 - p4))]) (obs := [.cell ⟨b1, 0, none⟩ (vI (w64 (p8 + r1))), .cell ⟨b1, 1, none⟩ (vI (w64 ((w64 ((w64 (p5 - p6)) * (w64 (x2 - p7)))) - (w64 (r1 * (w64 (p3 - p4))))))), .cell ⟨b1, 2, none⟩ (vI (w64 (p3 - p4)))]) hf24 (by kernel_rfl) (.cell (hS8.box (i := 0) rfl (j := 0) rfl) (.cell (hS8.box (i := 0) rfl (j := 1) rfl) (.cell (hS8.box (i := 0) rfl (j := 2) rfl) .nil))) ?_
    obtain rfl := some_eq hr18
    exact ⟨_, rfl, z3, (Zone.le_trans (Zone.le_trans k2 k3) k4), rfl, (St.drop 1 hS8)⟩
def F31_l1 (fuel : Nat) (x0 : List Pt) (x1 : List Int) : Nat → Int → Option (Int)
  | 0, _ => none
  | n1 + 1, y1 =>
    let k1 : Int → Option (Int) := F31_l1 fuel x0 x1 n1
    (cond (decide (y1 < (x0.length : Int))) ((getI x0 y1).bind fun p1 => ((getI x1 y1).bind fun p2 => ((F90 fuel p2 p1.lo p1.hi).bind fun r1 => (cond (!r1) (some (4)) (k1 (w64 (y1 + (1 : Int)))))))) (some (0)))
def F31 (fuel : Nat) (x0 : List Pt) (x1 : List Int) : Option (Int) :=
  ((F67 fuel x0).bind fun r2 => (cond (r2 != (0 : Int)) (some (r2)) (cond ((x1.length : Int) != (x0.length : Int)) (some (4)) (F31_l1 fuel x0 x1 fuel 0))))
set_option maxRecDepth 100000 in
theorem f31_ok (fuel : Nat) (x0 : List Pt) (x1 : List Int) (r : Int) (hr : F31 fuel x0 x1 = some r) (h : Zone) (L : List Atom) (w : World) (hS : St h L w) (o_x0 : Option Addr) (c_x0 : Nat) (hx_x0 : SliceR PtT h o_x0 c_x0 x0) (o_x1 : Option Addr) (c_x1 : Nat) (hx_x1 : SliceR Ty.int h o_x1 c_x1 x1) :
    Calls Try.prog 31 #[.agg #[.slice o_x0 x0.length c_x0], .slice o_x1 x1.length c_x1] w fun e w' => ∃ v, e = .returned v ∧ (∃ h', Zone.le h h' ∧ v = vI r ∧ St h' L w') := by
 refine calls_intro (N := 38) Try.func31 (by kernel_rfl) fun a hf => ?_
 refine w_sr (by kernel_rfl) ?_
 refine p_box (i := 0) (d := (some 2)) (cs := [.slice o_x0 x0.length c_x0]) (T := 24) (v := fun b1 => pB b1 0) hS hf (fun b => by kernel_rfl) fun b1 ww1 a1 hS1 hf1 => ⟨fun _ => trivial, ?_⟩
 refine p_qt [] [(1, .slice o_x1 x1.length c_x1), (2, pB b1 0)] [] hf1 (by kernel_rfl) .nil fun a2 hf2 => ?_
 refine w_seq (by kernel_rfl) ?_
 refine w_sr (by kernel_rfl) ?_
 refine p_qn 1 [.slice o_x0 x0.length c_x0] [(1, .slice o_x1 x1.length c_x1), (2, pB b1 0), (8, .agg #[.slice o_x0 x0.length c_x0])] [.cell ⟨b1, 0, none⟩ (.slice o_x0 x0.length c_x0)] hf2 (by kernel_rfl) (.cell (hS1.box (i := 0) rfl (j := 0) rfl) .nil) fun a3 hf3 => ?_
 obtain ⟨r2, hd1, hr1⟩ := bind_some hr
 refine p_call (i := 1) (d := some 9) (f := 67) (args := #[.agg #[.slice o_x0 x0.length c_x0]]) hf3 (by kernel_rfl) (f67_ok fuel x0 r2 hd1 h _ _ hS1 o_x0 c_x0 hx_x0) ?_
 rintro v1 ww2 a4 ⟨z1, k2, rfl, hS2⟩ hf4
 refine ⟨fun _ => trivial, ?_⟩
 refine p_qt [] [(1, .slice o_x1 x1.length c_x1), (2, pB b1 0), (5, vI r2)] [] hf4 (by kernel_rfl) .nil fun a5 hf5 => ?_
 refine w_sq [] [(1, .slice o_x1 x1.length c_x1), (2, pB b1 0), (5, vI r2), (11, .bool (r2 != (0 : Int)))] [] hf5 (by kernel_rfl) .nil fun a6 hf6 => ?_
 refine w_if hf6 (b := (r2 != (0 : Int))) (by kernel_rfl) (fun hb1 => ?_) (fun hb1 => ?_)
 ·have hr2 := cond_t hb1 hr1
  refine w_sq [] [(4, vI r2)] [] hf6 (by kernel_rfl) .nil fun a7 hf7 => ?_
  refine w_ret (by kernel_rfl) ?_
  refine r_then ?_
  refine p_ret (os := []) (v := vI r2) (obs := []) hf7 (by kernel_rfl) .nil ?_
  obtain rfl := some_eq hr2
  exact ⟨_, rfl, z1, k2, rfl, (St.drop 1 hS2)⟩
 ·have hr3 := cond_f hb1 hr1
  refine w_skip (by kernel_rfl) ?_
  refine n_then ?_
  refine w_seq (by kernel_rfl) ?_
  refine w_sq [.slice o_x0 x0.length c_x0] [(1, .slice o_x1 x1.length c_x1), (2, pB b1 0), (18, .bool ((x1.length : Int) != (x0.length : Int)))] [.cell ⟨b1, 0, none⟩ (.slice o_x0 x0.length c_x0)] hf6 (by kernel_rfl) (.cell (hS2.box (i := 0) rfl (j := 0) rfl) .nil) fun a8 hf8 => ?_
  refine w_if hf8 (b := ((x1.length : Int) != (x0.length : Int))) (by kernel_rfl) (fun hb2 => ?_) (fun hb2 => ?_)
  ·have hr4 := cond_t hb2 hr3
   refine w_sq [] [(4, vI 4)] [] hf8 (by kernel_rfl) .nil fun a9 hf9 => ?_
   refine w_ret (by kernel_rfl) ?_
   refine r_then ?_
   refine p_ret (os := []) (v := vI 4) (obs := []) hf9 (by kernel_rfl) .nil ?_
   obtain rfl := some_eq hr4
   exact ⟨_, rfl, z1, k2, rfl, (St.drop 1 hS2)⟩
  ·have hr5 := cond_f hb2 hr3
   refine w_skip (by kernel_rfl) ?_
   refine n_then ?_
   refine w_seq (by kernel_rfl) ?_
   refine w_sq [.slice o_x0 x0.length c_x0] [(1, .slice o_x1 x1.length c_x1), (20, .slice o_x0 x0.length c_x0), (21, vI (x0.length : Int)), (22, vI 0)] [.cell ⟨b1, 0, none⟩ (.slice o_x0 x0.length c_x0)] hf8 (by kernel_rfl) (.cell (hS2.box (i := 0) rfl (j := 0) rfl) .nil) fun a10 hf10 => ?_
   refine w_block (id := 0) (by kernel_rfl) ?_
   have hf11 := Fr.keep (ks := [1, 20, 21, 22]) (r := [(1, .slice o_x1 x1.length c_x1), (20, .slice o_x0 x0.length c_x0), (21, vI (x0.length : Int)), (22, vI 0)]) hf10 (by kernel_rfl)
   refine w_loop (by kernel_rfl) (fun n a w => ∃ z2 : Zone, ∃ y1 : Int, Zone.le z1 z2 ∧ Fr a 38 [(1, .slice o_x1 x1.length c_x1), (20, .slice o_x0 x0.length c_x0), (21, vI (x0.length : Int)), (22, vI y1)] ∧ St z2 (box b1 [.slice o_x0 x0.length c_x0] 24 :: L) w ∧ (F31_l1 fuel x0 x1 n y1) = some r) fuel ⟨z1, 0, (Zone.le_refl _), hf11, hS2, hr5⟩ ?_
   rintro n2 a11 ww3 ⟨z2, y1, k3, hf12, hS3, hr6⟩
   cases n2 with
   | zero => cases hr6
   | succ n1 =>
   refine w_sq [] [(1, .slice o_x1 x1.length c_x1), (20, .slice o_x0 x0.length c_x0), (21, vI (x0.length : Int)), (22, vI y1), (23, .bool (decide (y1 < (x0.length : Int))))] [] hf12 (by kernel_rfl) .nil fun a12 hf13 => ?_
   refine w_seq (by kernel_rfl) ?_
   refine w_if hf13 (b := (decide (y1 < (x0.length : Int)))) (by kernel_rfl) (fun hb3 => ?_) (fun hb3 => ?_)
   ·have hr7 := cond_t hb3 hr6
    refine w_skip (by kernel_rfl) ?_
    refine n_then ?_
    refine w_seq (by kernel_rfl) ?_
    refine w_block (id := 1) (by kernel_rfl) ?_
    refine w_sr (by kernel_rfl) ?_
    obtain ⟨p1, hp1026, hr8⟩ := bind_some hr7
    obtain ⟨ad1, ho1, hb4, cc1, hc1, hk1⟩ := SliceR.getI (SliceR.mono (Zone.le_trans k2 k3) hx_x0) hp1026
    subst hc1
    refine p_qn 3 [.pointer (some ad1), vI p1.x, vI p1.lo, vI p1.hi] [(1, .slice o_x1 x1.length c_x1), (20, .slice o_x0 x0.length c_x0), (21, vI (x0.length : Int)), (22, vI y1), (24, vI y1), (26, .agg #[vI p1.x, vI p1.lo, vI p1.hi])] [.prop (o_x0 = some ad1), .prop (0 ≤ y1 ∧ y1 < (x0.length : Nat)), .cell ((ad1.add (Int.toNat y1 * 3)).add 0) (vI p1.x), .cell ((ad1.add (Int.toNat y1 * 3)).add 1) (vI p1.lo), .cell ((ad1.add (Int.toNat y1 * 3)).add 2) (vI p1.hi)] hf13 (by kernel_rfl) (.prop ho1 (.prop hb4 (.cell (hS3.cell (hk1 0 _ rfl)) (.cell (hS3.cell (hk1 1 _ rfl)) (.cell (hS3.cell (hk1 2 _ rfl)) .nil))))) fun a13 hf14 => ?_
    refine p_box (i := 3) (d := (some 7)) (cs := [vI 0, vI 0, vI 0]) (T := 52) (v := fun b2 => pB b2 0) hS3 hf14 (fun b => by kernel_rfl) fun b2 ww4 a14 hS4 hf15 => ⟨fun _ => trivial, ?_⟩
    refine p_qn 1 [] [(1, .slice o_x1 x1.length c_x1), (6, vI y1), (7, pB b2 0), (20, .slice o_x0 x0.length c_x0), (21, vI (x0.length : Int)), (22, vI y1), (26, .agg #[vI p1.x, vI p1.lo, vI p1.hi])] [] hf15 (by kernel_rfl) .nil fun a15 hf16 => ?_
    refine p_store_eq (i := 5) (j := 0) (b := b2) (off := 0) (vs := [vI p1.x, vI p1.lo, vI p1.hi]) (cs' := [vI p1.x, vI p1.lo, vI p1.hi]) hS4 hf16 rfl (by kernel_rfl) (by kernel_rfl) rfl fun ww5 a16 hS5 hf17 => ⟨fun _ => trivial, ?_⟩
    refine p_dt (by kernel_rfl) ?_
    refine w_seq (by kernel_rfl) ?_
    have hS6 := hS5.drew
    refine w_regD (by kernel_rfl) [(0, true), (1, true), (2, true), (3, true), (4, true), (5, true), (6, true), (7, true), (8, false), (9, true)] [8] (fun x => x = ww5.drew) (by kernel_rfl) rfl ?_
    obtain ⟨p2, hp1049, hr9⟩ := bind_some hr8
    obtain ⟨ad2, ho2, hb5, cc2, hc2, hk2⟩ := SliceR.getI (SliceR.mono (Zone.le_trans k2 k3) hx_x1) hp1049
    subst hc2
    refine p_qE 8 [.pointer (some ad2), vI p2, vI p1.lo, vI p1.hi] [(1, .slice o_x1 x1.length c_x1), (20, .slice o_x0 x0.length c_x0), (21, vI (x0.length : Int)), (22, vI y1), (30, vI p2), (32, vI p1.lo), (34, vI p1.hi)] [.prop (o_x1 = some ad2), .prop (0 ≤ y1 ∧ y1 < (x1.length : Nat)), .cell ((ad2.add (Int.toNat y1 * 1)).add 0) (vI p2), .cell ⟨b2, 1, none⟩ (vI p1.lo), .cell ⟨b2, 2, none⟩ (vI p1.hi)] [] hf17 (by kernel_rfl) (.prop ho2 (.prop hb5 (.cell (hS6.cell (hk2 0 _ rfl)) (.cell (hS6.box (i := 0) rfl (j := 1) rfl) (.cell (hS6.box (i := 0) rfl (j := 2) rfl) .nil))))) .nil fun a17 hf18 => ?_
    obtain ⟨r1, hd2, hr10⟩ := bind_some hr9
    refine p_call (i := 8) (d := some 35) (f := 90) (args := #[vI p2, vI p1.lo, vI p1.hi]) hf18 (by kernel_rfl) (f90_ok fuel p2 p1.lo p1.hi r1 hd2 z2 _ _ hS6 ) ?_
    rintro v2 ww6 a18 ⟨z3, k4, rfl, hS7⟩ hf19
    refine ⟨fun e => absurd e (by decide), ?_⟩
    refine p_qP 1 [] [(1, .slice o_x1 x1.length c_x1), (20, .slice o_x0 x0.length c_x0), (21, vI (x0.length : Int)), (22, vI y1), (36, .bool (!r1))] [] hf19 (by kernel_rfl) (fun _ => .nil) fun a19 hf20 => ?_
    refine p_dt (by kernel_rfl) ?_
    refine w_if hf20 (b := (!r1)) (by kernel_rfl) (fun hb6 => ?_) (fun hb6 => ?_)
    ·have hr11 := cond_t hb6 hr10
     refine w_sq [] [(4, vI 4)] [] hf20 (by kernel_rfl) .nil fun a20 hf21 => ?_
     refine w_ret (by kernel_rfl) ?_
     refine r_block ?_
     refine r_then ?_
     refine r_then ?_
     refine r_block ?_
     refine r_then ?_
     refine p_ret (os := []) (v := vI 4) (obs := []) hf21 (by kernel_rfl) .nil ?_
     obtain rfl := some_eq hr11
     exact ⟨_, rfl, z3, (Zone.le_trans (Zone.le_trans k2 k3) k4), rfl, (St.drop 2 hS7)⟩
    ·have hr12 := cond_f hb6 hr10
     refine w_skip (by kernel_rfl) ?_
     refine n_block ?_
     refine n_then ?_
     refine w_q [] [(1, .slice o_x1 x1.length c_x1), (20, .slice o_x0 x0.length c_x0), (21, vI (x0.length : Int)), (22, vI (w64 (y1 + (1 : Int))))] [] hf20 (by kernel_rfl) .nil fun a21 hf22 => ?_
     refine n_then ?_
     have hf23 := Fr.keep (ks := [1, 20, 21, 22]) (r := [(1, .slice o_x1 x1.length c_x1), (20, .slice o_x0 x0.length c_x0), (21, vI (x0.length : Int)), (22, vI (w64 (y1 + (1 : Int))))]) hf22 (by kernel_rfl)
     exact ⟨n1, Nat.lt_succ_self n1, z3, (w64 (y1 + (1 : Int))), (Zone.le_trans k3 k4), hf23, (St.drop 1 hS7), hr12⟩
   ·have hr13 := cond_f hb3 hr6
    refine w_exit (id := 0) (by kernel_rfl) ?_
    refine x_then ?_
    refine x_then ?_
    refine x_block ?_
    refine n_then ?_
    refine w_sq [] [(4, vI 0)] [] hf13 (by kernel_rfl) .nil fun a22 hf24 => ?_
    refine w_ret (by kernel_rfl) ?_
    refine p_ret (os := []) (v := vI 0) (obs := []) hf24 (by kernel_rfl) .nil ?_
    obtain rfl := some_eq hr13
    exact ⟨_, rfl, z2, (Zone.le_trans k2 k3), rfl, (St.drop 1 hS3)⟩
def F32_j1 (y1 : Bool) : Option (Bool) :=
  (some (y1))
def F32 (fuel : Nat) (x0_lo : Int) (x0_hi : Int) (x1_w : Int) (x1_n : Int) (x1_d : Int) : Option (Bool) :=
  (cond (decide (x0_lo ≤ x1_w)) (cond (decide (x1_w < x0_hi)) (F32_j1 true) (cond (x1_w == x0_hi) (F32_j1 (x1_n == (0 : Int))) (F32_j1 false))) (F32_j1 false))
set_option maxRecDepth 100000 in
theorem f32_ok (fuel : Nat) (x0_lo : Int) (x0_hi : Int) (x1_w : Int) (x1_n : Int) (x1_d : Int) (r : Bool) (hr : F32 fuel x0_lo x0_hi x1_w x1_n x1_d = some r) (h : Zone) (L : List Atom) (w : World) (hS : St h L w)  :
    Calls Try.prog 32 #[.agg #[vI x0_lo, vI x0_hi], .agg #[vI x1_w, vI x1_n, vI x1_d]] w fun e w' => ∃ v, e = .returned v ∧ (∃ h', Zone.le h h' ∧ v = .bool r ∧ St h' L w') := by
 refine calls_intro (N := 29) Try.func32 (by kernel_rfl) fun a hf => ?_
 refine w_sr (by kernel_rfl) ?_
 refine p_box (i := 0) (d := (some 2)) (cs := [vI x0_lo, vI x0_hi]) (T := 41) (v := fun b1 => pB b1 0) hS hf (fun b => by kernel_rfl) fun b1 ww1 a1 hS1 hf1 => ⟨fun _ => trivial, ?_⟩
 refine p_box (i := 1) (d := (some 3)) (cs := [vI x1_w, vI x1_n, vI x1_d]) (T := 56) (v := fun b2 => pB b2 0) hS1 hf1 (fun b => by kernel_rfl) fun b2 ww2 a2 hS2 hf2 => ⟨fun _ => trivial, ?_⟩
 refine p_qt [] [(2, pB b1 0), (3, pB b2 0)] [] hf2 (by kernel_rfl) .nil fun a3 hf3 => ?_
 refine w_mid (by kernel_rfl) (fun a w => ∃ z1 : Zone, ∃ y1 : Bool, Zone.le h z1 ∧ Fr a 29 [(4, .bool y1)] ∧ St z1 (box b2 [vI x1_w, vI x1_n, vI x1_d] 56 :: box b1 [vI x0_lo, vI x0_hi] 41 :: L) w ∧ (F32_j1 y1) = some r) ?_ ?_
 ·skip
  refine w_reg (by kernel_rfl) ?_
  refine p_qn 6 [vI x0_lo, vI x1_w] [(2, pB b1 0), (3, pB b2 0), (10, .bool (decide (x0_lo ≤ x1_w)))] [.cell ⟨b1, 0, none⟩ (vI x0_lo), .cell ⟨b2, 0, none⟩ (vI x1_w)] hf3 (by kernel_rfl) (.cell (hS2.box (i := 1) rfl (j := 0) rfl) (.cell (hS2.box (i := 0) rfl (j := 0) rfl) .nil)) fun a4 hf4 => ?_
  rcases Bool.eq_false_or_eq_true (decide (x0_lo ≤ x1_w)) with hb1 | hb1
  ·have hr1 := cond_t hb1 hr
   have hf5 := Fr.conv hf4 (congrArg (fun z => ([(2, pB b1 0), (3, pB b2 0), (10, .bool z)] : FL)) hb1)
   refine p_qn 6 [vI x1_w, vI x0_hi] [(2, pB b1 0), (3, pB b2 0), (10, .bool true), (16, .bool (decide (x1_w < x0_hi)))] [.cell ⟨b2, 0, none⟩ (vI x1_w), .cell ⟨b1, 1, none⟩ (vI x0_hi)] hf5 (by kernel_rfl) (.cell (hS2.box (i := 0) rfl (j := 0) rfl) (.cell (hS2.box (i := 1) rfl (j := 1) rfl) .nil)) fun a5 hf6 => ?_
   rcases Bool.eq_false_or_eq_true (decide (x1_w < x0_hi)) with hb2 | hb2
   ·have hr2 := cond_t hb2 hr1
    have hf7 := Fr.conv hf6 (congrArg (fun z => ([(2, pB b1 0), (3, pB b2 0), (10, .bool true), (16, .bool z)] : FL)) hb2)
    refine p_qt [] [(4, .bool true)] [] hf7 (by kernel_rfl) .nil fun a6 hf8 => ?_
    have hf9 := Fr.keep (ks := [4]) (r := [(4, .bool true)]) hf8 (by kernel_rfl)
    exact ⟨h, true, (Zone.le_refl _), hf9, hS2, hr2⟩
   ·have hr3 := cond_f hb2 hr1
    have hf10 := Fr.conv hf6 (congrArg (fun z => ([(2, pB b1 0), (3, pB b2 0), (10, .bool true), (16, .bool z)] : FL)) hb2)
    refine p_qn 6 [vI x1_w, vI x0_hi] [(3, pB b2 0), (10, .bool true), (16, .bool false), (22, .bool (x1_w == x0_hi))] [.cell ⟨b2, 0, none⟩ (vI x1_w), .cell ⟨b1, 1, none⟩ (vI x0_hi)] hf10 (by kernel_rfl) (.cell (hS2.box (i := 0) rfl (j := 0) rfl) (.cell (hS2.box (i := 1) rfl (j := 1) rfl) .nil)) fun a7 hf11 => ?_
    rcases Bool.eq_false_or_eq_true (x1_w == x0_hi) with hb3 | hb3
    ·have hr4 := cond_t hb3 hr3
     have hf12 := Fr.conv hf11 (congrArg (fun z => ([(3, pB b2 0), (10, .bool true), (16, .bool false), (22, .bool z)] : FL)) hb3)
     refine p_qt [vI x1_n] [(4, .bool (x1_n == (0 : Int)))] [.cell ⟨b2, 1, none⟩ (vI x1_n)] hf12 (by kernel_rfl) (.cell (hS2.box (i := 0) rfl (j := 1) rfl) .nil) fun a8 hf13 => ?_
     have hf14 := Fr.keep (ks := [4]) (r := [(4, .bool (x1_n == (0 : Int)))]) hf13 (by kernel_rfl)
     exact ⟨h, (x1_n == (0 : Int)), (Zone.le_refl _), hf14, hS2, hr4⟩
    ·have hr5 := cond_f hb3 hr3
     have hf15 := Fr.conv hf11 (congrArg (fun z => ([(3, pB b2 0), (10, .bool true), (16, .bool false), (22, .bool z)] : FL)) hb3)
     refine p_qt [] [(4, .bool false)] [] hf15 (by kernel_rfl) .nil fun a9 hf16 => ?_
     have hf17 := Fr.keep (ks := [4]) (r := [(4, .bool false)]) hf16 (by kernel_rfl)
     exact ⟨h, false, (Zone.le_refl _), hf17, hS2, hr5⟩
  ·have hr6 := cond_f hb1 hr
   have hf18 := Fr.conv hf4 (congrArg (fun z => ([(2, pB b1 0), (3, pB b2 0), (10, .bool z)] : FL)) hb1)
   refine p_qt [] [(4, .bool false)] [] hf18 (by kernel_rfl) .nil fun a10 hf19 => ?_
   have hf20 := Fr.keep (ks := [4]) (r := [(4, .bool false)]) hf19 (by kernel_rfl)
   exact ⟨h, false, (Zone.le_refl _), hf20, hS2, hr6⟩
 ·rintro a11 ww3 ⟨z1, y1, k1, hf21, hS3, hr7⟩
  refine w_ret (by kernel_rfl) ?_
  refine p_ret (os := []) (v := .bool y1) (obs := []) hf21 (by kernel_rfl) .nil ?_
  obtain rfl := some_eq hr7
  exact ⟨_, rfl, z1, k1, rfl, (St.drop 2 hS3)⟩
def F33_j1 (k1 : Int → Option (Bool)) (y1 : Int) (y2 : Bool) : Option (Bool) :=
  (cond y2 (some (true)) (k1 (w64 (y1 + (1 : Int)))))
def F33_l1 (x0 : List Rng) (x1 : Int) : Nat → Int → Option (Bool)
  | 0, _ => none
  | n1 + 1, y1 =>
    let k1 : Int → Option (Bool) := F33_l1 x0 x1 n1
    (cond (decide (y1 < (x0.length : Int))) ((getI x0 y1).bind fun p1 => (cond (decide (p1.lo ≤ x1)) (F33_j1 k1 y1 (decide (x1 ≤ p1.hi))) (F33_j1 k1 y1 false))) (some (false)))
def F33 (fuel : Nat) (x0 : List Rng) (x1 : Int) : Option (Bool) :=
  (F33_l1 x0 x1 fuel 0)
set_option maxRecDepth 100000 in
theorem f33_ok (fuel : Nat) (x0 : List Rng) (x1 : Int) (r : Bool) (hr : F33 fuel x0 x1 = some r) (h : Zone) (L : List Atom) (w : World) (hS : St h L w) (o_x0 : Option Addr) (c_x0 : Nat) (hx_x0 : SliceR RngT h o_x0 c_x0 x0) :
    Calls Try.prog 33 #[.slice o_x0 x0.length c_x0, vI x1] w fun e w' => ∃ v, e = .returned v ∧ (∃ h', Zone.le h h' ∧ v = .bool r ∧ St h' L w') := by
 refine calls_intro (N := 24) Try.func33 (by kernel_rfl) fun a hf => ?_
 refine w_sq [] [(0, .slice o_x0 x0.length c_x0), (1, vI x1)] [] hf (by kernel_rfl) .nil fun a1 hf1 => ?_
 refine w_seq (by kernel_rfl) ?_
 refine w_sq [] [(1, vI x1), (7, .slice o_x0 x0.length c_x0), (8, vI (x0.length : Int)), (9, vI 0)] [] hf1 (by kernel_rfl) .nil fun a2 hf2 => ?_
 refine w_block (id := 0) (by kernel_rfl) ?_
 have hf3 := Fr.keep (ks := [1, 7, 8, 9]) (r := [(1, vI x1), (7, .slice o_x0 x0.length c_x0), (8, vI (x0.length : Int)), (9, vI 0)]) hf2 (by kernel_rfl)
 refine w_loop (by kernel_rfl) (fun n a w => ∃ z1 : Zone, ∃ y1 : Int, Zone.le h z1 ∧ Fr a 24 [(1, vI x1), (7, .slice o_x0 x0.length c_x0), (8, vI (x0.length : Int)), (9, vI y1)] ∧ St z1 (L) w ∧ (F33_l1 x0 x1 n y1) = some r) fuel ⟨h, 0, (Zone.le_refl _), hf3, hS, hr⟩ ?_
 rintro n2 a3 ww1 ⟨z1, y1, k2, hf4, hS1, hr1⟩
 cases n2 with
 | zero => cases hr1
 | succ n1 =>
 refine w_sq [] [(1, vI x1), (7, .slice o_x0 x0.length c_x0), (8, vI (x0.length : Int)), (9, vI y1), (10, .bool (decide (y1 < (x0.length : Int))))] [] hf4 (by kernel_rfl) .nil fun a4 hf5 => ?_
 refine w_seq (by kernel_rfl) ?_
 refine w_if hf5 (b := (decide (y1 < (x0.length : Int)))) (by kernel_rfl) (fun hb1 => ?_) (fun hb1 => ?_)
 ·have hr2 := cond_t hb1 hr1
  refine w_skip (by kernel_rfl) ?_
  refine n_then ?_
  refine w_seq (by kernel_rfl) ?_
  refine w_block (id := 1) (by kernel_rfl) ?_
  refine w_sr (by kernel_rfl) ?_
  obtain ⟨p1, hp865, hr3⟩ := bind_some hr2
  obtain ⟨ad1, ho1, hb2, cc1, hc1, hk1⟩ := SliceR.getI (SliceR.mono k2 hx_x0) hp865
  subst hc1
  refine p_qn 2 [.pointer (some ad1), vI p1.lo, vI p1.hi] [(1, vI x1), (7, .slice o_x0 x0.length c_x0), (8, vI (x0.length : Int)), (9, vI y1), (12, .agg #[vI p1.lo, vI p1.hi])] [.prop (o_x0 = some ad1), .prop (0 ≤ y1 ∧ y1 < (x0.length : Nat)), .cell ((ad1.add (Int.toNat y1 * 2)).add 0) (vI p1.lo), .cell ((ad1.add (Int.toNat y1 * 2)).add 1) (vI p1.hi)] hf5 (by kernel_rfl) (.prop ho1 (.prop hb2 (.cell (hS1.cell (hk1 0 _ rfl)) (.cell (hS1.cell (hk1 1 _ rfl)) .nil)))) fun a5 hf6 => ?_
  refine p_box (i := 2) (d := (some 6)) (cs := [vI 0, vI 0]) (T := 41) (v := fun b1 => pB b1 0) hS1 hf6 (fun b => by kernel_rfl) fun b1 ww2 a6 hS2 hf7 => ⟨fun _ => trivial, ?_⟩
  refine p_store_eq (i := 3) (j := 0) (b := b1) (off := 0) (vs := [vI p1.lo, vI p1.hi]) (cs' := [vI p1.lo, vI p1.hi]) hS2 hf7 rfl (by kernel_rfl) (by kernel_rfl) rfl fun ww3 a7 hS3 hf8 => ⟨fun _ => trivial, ?_⟩
  refine p_dt (by kernel_rfl) ?_
  refine w_mid (by kernel_rfl) (fun a w => ∃ z2 : Zone, ∃ y2 : Bool, Zone.le z1 z2 ∧ Fr a 24 [(1, vI x1), (7, .slice o_x0 x0.length c_x0), (8, vI (x0.length : Int)), (9, vI y1), (22, .bool y2)] ∧ St z2 (box b1 [vI p1.lo, vI p1.hi] 41 :: L) w ∧ (F33_j1 (F33_l1 x0 x1 n1) y1 y2) = some r) ?_ ?_
  ·skip
   refine w_reg (by kernel_rfl) ?_
   refine p_qn 5 [vI p1.lo] [(1, vI x1), (6, pB b1 0), (7, .slice o_x0 x0.length c_x0), (8, vI (x0.length : Int)), (9, vI y1), (17, .bool (decide (p1.lo ≤ x1)))] [.cell ⟨b1, 0, none⟩ (vI p1.lo)] hf8 (by kernel_rfl) (.cell (hS3.box (i := 0) rfl (j := 0) rfl) .nil) fun a8 hf9 => ?_
   rcases Bool.eq_false_or_eq_true (decide (p1.lo ≤ x1)) with hb3 | hb3
   ·have hr4 := cond_t hb3 hr3
    have hf10 := Fr.conv hf9 (congrArg (fun z => ([(1, vI x1), (6, pB b1 0), (7, .slice o_x0 x0.length c_x0), (8, vI (x0.length : Int)), (9, vI y1), (17, .bool z)] : FL)) hb3)
    refine p_qt [vI p1.hi] [(1, vI x1), (7, .slice o_x0 x0.length c_x0), (8, vI (x0.length : Int)), (9, vI y1), (18, vI x1), (19, pB b1 1), (20, vI p1.hi), (21, .bool (decide (x1 ≤ p1.hi))), (22, .bool (decide (x1 ≤ p1.hi)))] [.cell ⟨b1, 1, none⟩ (vI p1.hi)] hf10 (by kernel_rfl) (.cell (hS3.box (i := 0) rfl (j := 1) rfl) .nil) fun a9 hf11 => ?_
    have hf12 := Fr.keep (ks := [1, 7, 8, 9, 22]) (r := [(1, vI x1), (7, .slice o_x0 x0.length c_x0), (8, vI (x0.length : Int)), (9, vI y1), (22, .bool (decide (x1 ≤ p1.hi)))]) hf11 (by kernel_rfl)
    exact ⟨z1, (decide (x1 ≤ p1.hi)), (Zone.le_refl _), hf12, hS3, hr4⟩
   ·have hr5 := cond_f hb3 hr3
    have hf13 := Fr.conv hf9 (congrArg (fun z => ([(1, vI x1), (6, pB b1 0), (7, .slice o_x0 x0.length c_x0), (8, vI (x0.length : Int)), (9, vI y1), (17, .bool z)] : FL)) hb3)
    refine p_qt [] [(1, vI x1), (7, .slice o_x0 x0.length c_x0), (8, vI (x0.length : Int)), (9, vI y1), (18, undef), (19, undef), (20, undef), (21, undef), (22, .bool false)] [] hf13 (by kernel_rfl) .nil fun a10 hf14 => ?_
    have hf15 := Fr.keep (ks := [1, 7, 8, 9, 22]) (r := [(1, vI x1), (7, .slice o_x0 x0.length c_x0), (8, vI (x0.length : Int)), (9, vI y1), (22, .bool false)]) hf14 (by kernel_rfl)
    exact ⟨z1, false, (Zone.le_refl _), hf15, hS3, hr5⟩
  ·rintro a11 ww4 ⟨z2, y2, k3, hf16, hS4, hr6⟩
   refine w_if hf16 (b := y2) (by kernel_rfl) (fun hb4 => ?_) (fun hb4 => ?_)
   ·have hr7 := cond_t hb4 hr6
    refine w_sq [] [(4, .bool true)] [] hf16 (by kernel_rfl) .nil fun a12 hf17 => ?_
    refine w_ret (by kernel_rfl) ?_
    refine r_block ?_
    refine r_then ?_
    refine r_then ?_
    refine r_block ?_
    refine r_then ?_
    refine p_ret (os := []) (v := .bool true) (obs := []) hf17 (by kernel_rfl) .nil ?_
    obtain rfl := some_eq hr7
    exact ⟨_, rfl, z2, (Zone.le_trans k2 k3), rfl, (St.drop 1 hS4)⟩
   ·have hr8 := cond_f hb4 hr6
    refine w_skip (by kernel_rfl) ?_
    refine n_block ?_
    refine n_then ?_
    refine w_q [] [(1, vI x1), (7, .slice o_x0 x0.length c_x0), (8, vI (x0.length : Int)), (9, vI (w64 (y1 + (1 : Int))))] [] hf16 (by kernel_rfl) .nil fun a13 hf18 => ?_
    refine n_then ?_
    have hf19 := Fr.keep (ks := [1, 7, 8, 9]) (r := [(1, vI x1), (7, .slice o_x0 x0.length c_x0), (8, vI (x0.length : Int)), (9, vI (w64 (y1 + (1 : Int))))]) hf18 (by kernel_rfl)
    exact ⟨n1, Nat.lt_succ_self n1, z2, (w64 (y1 + (1 : Int))), (Zone.le_trans k2 k3), hf19, (St.drop 1 hS4), hr8⟩
 ·have hr9 := cond_f hb1 hr1
  refine w_exit (id := 0) (by kernel_rfl) ?_
  refine x_then ?_
  refine x_then ?_
  refine x_block ?_
  refine n_then ?_
  refine w_sq [] [(4, .bool false)] [] hf5 (by kernel_rfl) .nil fun a14 hf20 => ?_
  refine w_ret (by kernel_rfl) ?_
  refine p_ret (os := []) (v := .bool false) (obs := []) hf20 (by kernel_rfl) .nil ?_
  obtain rfl := some_eq hr9
  exact ⟨_, rfl, z1, k2, rfl, hS1⟩
def F34_j1 (y1 : Bool) : Option (Bool) :=
  (some (y1))
def F34 (fuel : Nat) (x0_lo : Int) (x0_hi : Int) : Option (Bool) :=
  (cond (decide ((-1000000000000000 : Int) ≤ x0_lo)) (cond (decide (x0_lo ≤ x0_hi)) (F34_j1 (decide (x0_hi ≤ (1000000000000000 : Int)))) (F34_j1 false)) (F34_j1 false))
set_option maxRecDepth 100000 in
theorem f34_ok (fuel : Nat) (x0_lo : Int) (x0_hi : Int) (r : Bool) (hr : F34 fuel x0_lo x0_hi = some r) (h : Zone) (L : List Atom) (w : World) (hS : St h L w)  :
    Calls Try.prog 34 #[.agg #[vI x0_lo, vI x0_hi]] w fun e w' => ∃ v, e = .returned v ∧ (∃ h', Zone.le h h' ∧ v = .bool r ∧ St h' L w') := by
 refine calls_intro (N := 18) Try.func34 (by kernel_rfl) fun a hf => ?_
 refine w_sr (by kernel_rfl) ?_
 refine p_box (i := 0) (d := (some 1)) (cs := [vI x0_lo, vI x0_hi]) (T := 41) (v := fun b1 => pB b1 0) hS hf (fun b => by kernel_rfl) fun b1 ww1 a1 hS1 hf1 => ⟨fun _ => trivial, ?_⟩
 refine p_qt [] [(1, pB b1 0)] [] hf1 (by kernel_rfl) .nil fun a2 hf2 => ?_
 refine w_mid (by kernel_rfl) (fun a w => ∃ z1 : Zone, ∃ y1 : Bool, Zone.le h z1 ∧ Fr a 18 [(2, .bool y1)] ∧ St z1 (box b1 [vI x0_lo, vI x0_hi] 41 :: L) w ∧ (F34_j1 y1) = some r) ?_ ?_
 ·skip
  refine w_reg (by kernel_rfl) ?_
  refine p_qn 4 [vI x0_lo] [(1, pB b1 0), (6, .bool (decide ((-1000000000000000 : Int) ≤ x0_lo)))] [.cell ⟨b1, 0, none⟩ (vI x0_lo)] hf2 (by kernel_rfl) (.cell (hS1.box (i := 0) rfl (j := 0) rfl) .nil) fun a3 hf3 => ?_
  rcases Bool.eq_false_or_eq_true (decide ((-1000000000000000 : Int) ≤ x0_lo)) with hb1 | hb1
  ·have hr1 := cond_t hb1 hr
   have hf4 := Fr.conv hf3 (congrArg (fun z => ([(1, pB b1 0), (6, .bool z)] : FL)) hb1)
   refine p_qn 7 [vI x0_lo, vI x0_hi] [(1, pB b1 0), (13, .bool (decide (x0_lo ≤ x0_hi)))] [.cell ⟨b1, 0, none⟩ (vI x0_lo), .cell ⟨b1, 1, none⟩ (vI x0_hi)] hf4 (by kernel_rfl) (.cell (hS1.box (i := 0) rfl (j := 0) rfl) (.cell (hS1.box (i := 0) rfl (j := 1) rfl) .nil)) fun a4 hf5 => ?_
   rcases Bool.eq_false_or_eq_true (decide (x0_lo ≤ x0_hi)) with hb2 | hb2
   ·have hr2 := cond_t hb2 hr1
    have hf6 := Fr.conv hf5 (congrArg (fun z => ([(1, pB b1 0), (13, .bool z)] : FL)) hb2)
    refine p_qt [vI x0_hi] [(2, .bool (decide (x0_hi ≤ (1000000000000000 : Int))))] [.cell ⟨b1, 1, none⟩ (vI x0_hi)] hf6 (by kernel_rfl) (.cell (hS1.box (i := 0) rfl (j := 1) rfl) .nil) fun a5 hf7 => ?_
    have hf8 := Fr.keep (ks := [2]) (r := [(2, .bool (decide (x0_hi ≤ (1000000000000000 : Int))))]) hf7 (by kernel_rfl)
    exact ⟨h, (decide (x0_hi ≤ (1000000000000000 : Int))), (Zone.le_refl _), hf8, hS1, hr2⟩
   ·have hr3 := cond_f hb2 hr1
    have hf9 := Fr.conv hf5 (congrArg (fun z => ([(1, pB b1 0), (13, .bool z)] : FL)) hb2)
    refine p_qt [] [(2, .bool false)] [] hf9 (by kernel_rfl) .nil fun a6 hf10 => ?_
    have hf11 := Fr.keep (ks := [2]) (r := [(2, .bool false)]) hf10 (by kernel_rfl)
    exact ⟨h, false, (Zone.le_refl _), hf11, hS1, hr3⟩
  ·have hr4 := cond_f hb1 hr
   have hf12 := Fr.conv hf3 (congrArg (fun z => ([(1, pB b1 0), (6, .bool z)] : FL)) hb1)
   refine p_qt [] [(2, .bool false)] [] hf12 (by kernel_rfl) .nil fun a7 hf13 => ?_
   have hf14 := Fr.keep (ks := [2]) (r := [(2, .bool false)]) hf13 (by kernel_rfl)
   exact ⟨h, false, (Zone.le_refl _), hf14, hS1, hr4⟩
 ·rintro a8 ww2 ⟨z1, y1, k1, hf15, hS2, hr5⟩
  refine w_ret (by kernel_rfl) ?_
  refine p_ret (os := []) (v := .bool y1) (obs := []) hf15 (by kernel_rfl) .nil ?_
  obtain rfl := some_eq hr5
  exact ⟨_, rfl, z1, k1, rfl, (St.drop 1 hS2)⟩
def F6_j3 (y1 : Bool) : Option (Bool) :=
  (some (y1))
def F6_j2 (fuel : Nat) (x0_t : List Pt) (x2_lo : Int) (x2_hi : Int) (r1 : Int) (r2 : Int × Int × Int) (y2 : Bool) : Option (Bool) :=
  (cond y2 (some (false)) ((F34 fuel x2_lo x2_hi).bind fun r3 => (cond (!r3) ((F13 fuel ).bind fun r4 => (some (r4))) ((F21 fuel x0_t x2_lo x2_hi).bind fun r5 => (cond (r5.2 == (0 : Int)) ((F33 fuel r5.1 r1).bind fun r6 => (cond r6 ((F13 fuel ).bind fun r7 => (F6_j3 r7)) ((F32 fuel x2_lo x2_hi r2.1 r2.2.1 r2.2.2).bind fun r8 => (cond (!r8) ((F13 fuel ).bind fun r9 => (F6_j3 r9)) (F6_j3 false))))) (F6_j3 false))))))
def F6_j1 (fuel : Nat) (x0_t : List Pt) (x2_lo : Int) (x2_hi : Int) (r1 : Int) (r2 : Int × Int × Int) (y3 : Bool) : Option (Bool) :=
  (cond y3 (some (false)) ((F23 fuel x0_t x2_lo).bind fun r10 => (cond (r10.2 != (0 : Int)) (F6_j2 fuel x0_t x2_lo x2_hi r1 r2 true) ((F33 fuel r10.1 r1).bind fun r11 => (cond r11 (F6_j2 fuel x0_t x2_lo x2_hi r1 r2 (decide (r2.1 < x2_lo))) (F6_j2 fuel x0_t x2_lo x2_hi r1 r2 false))))))
def F6 (fuel : Nat) (x0_t : List Pt) (x0_c : List Int) (y4 : Int) (y5 : Int) (y6 : Int) (x2_lo : Int) (x2_hi : Int) : Option (Bool) :=
  ((F12 fuel x0_t).bind fun r12 => (cond (!r12) ((F13 fuel ).bind fun r13 => (some (r13))) ((F17 fuel x0_t x0_c).bind fun r14 => ((F14 fuel x0_t y4).bind fun r1 => ((F14 fuel x0_t y5).bind fun r15 => ((F14 fuel x0_t y6).bind fun r16 => ((F16 fuel x0_t).bind fun r17 => ((F30 fuel r17 r14 r1).bind fun r2 => ((F27 fuel x0_t r1).bind fun r18 => ((F19 fuel x0_t (if r15 < r1 then r15 else r1) (if r16 > r1 then r16 else r1)).bind fun r19 => ((F31 fuel x0_t r14).bind fun r20 => (cond (r20 != (0 : Int)) (F6_j1 fuel x0_t x2_lo x2_hi r1 r2 true) (cond (r18.2.2 != (0 : Int)) (F6_j1 fuel x0_t x2_lo x2_hi r1 r2 true) (cond (r19.2.2 != (0 : Int)) (F6_j1 fuel x0_t x2_lo x2_hi r1 r2 true) ((F32 fuel r18.1 r18.2.1 r2.1 r2.2.1 r2.2.2).bind fun r21 => (cond (!r21) (F6_j1 fuel x0_t x2_lo x2_hi r1 r2 true) ((F32 fuel r19.1 r19.2.1 r2.1 r2.2.1 r2.2.2).bind fun r22 => (F6_j1 fuel x0_t x2_lo x2_hi r1 r2 (!r22)))))))))))))))))))
set_option maxRecDepth 100000 in
theorem f6_ok (fuel : Nat) (x0_t : List Pt) (x0_c : List Int) (y4 : Int) (y5 : Int) (y6 : Int) (x2_lo : Int) (x2_hi : Int) (r : Bool) (hr : F6 fuel x0_t x0_c y4 y5 y6 x2_lo x2_hi = some r) (h : Zone) (L : List Atom) (w : World) (hS : St h L w) (o_x0_t : Option Addr) (c_x0_t : Nat) (hx_x0_t : SliceR PtT h o_x0_t c_x0_t x0_t) (o_x0_c : Option Addr) (c_x0_c : Nat) (hx_x0_c : SliceR Ty.int h o_x0_c c_x0_c x0_c) :
    Calls Try.prog 6 #[.agg #[.slice o_x0_t x0_t.length c_x0_t, .slice o_x0_c x0_c.length c_x0_c], .agg #[vI y4, vI y5, vI y6], .agg #[vI x2_lo, vI x2_hi]] w fun e w' => ∃ v, e = .returned v ∧ (∃ h', Zone.le h h' ∧ v = .bool r ∧ St h' L w') := by
 refine calls_intro (N := 142) Try.func6 (by kernel_rfl) fun a hf => ?_
 refine w_sr (by kernel_rfl) ?_
 refine p_box (i := 0) (d := (some 3)) (cs := [.slice o_x0_t x0_t.length c_x0_t, .slice o_x0_c x0_c.length c_x0_c]) (T := 27) (v := fun b1 => pB b1 0) hS hf (fun b => by kernel_rfl) fun b1 ww1 a1 hS1 hf1 => ⟨fun _ => trivial, ?_⟩
 refine p_box (i := 1) (d := (some 4)) (cs := [vI y4, vI y5, vI y6]) (T := 28) (v := fun b2 => pB b2 0) hS1 hf1 (fun b => by kernel_rfl) fun b2 ww2 a2 hS2 hf2 => ⟨fun _ => trivial, ?_⟩
 refine p_box (i := 2) (d := (some 5)) (cs := [vI x2_lo, vI x2_hi]) (T := 41) (v := fun b3 => pB b3 0) hS2 hf2 (fun b => by kernel_rfl) fun b3 ww3 a3 hS3 hf3 => ⟨fun _ => trivial, ?_⟩
 refine p_qt [] [(3, pB b1 0), (4, pB b2 0), (5, pB b3 0)] [] hf3 (by kernel_rfl) .nil fun a4 hf4 => ?_
 refine w_seq (by kernel_rfl) ?_
 refine w_sr (by kernel_rfl) ?_
 refine p_qn 2 [.slice o_x0_t x0_t.length c_x0_t] [(3, pB b1 0), (4, pB b2 0), (5, pB b3 0), (21, .agg #[.slice o_x0_t x0_t.length c_x0_t])] [.cell ⟨b1, 0, none⟩ (.slice o_x0_t x0_t.length c_x0_t)] hf4 (by kernel_rfl) (.cell (hS3.box (i := 2) rfl (j := 0) rfl) .nil) fun a5 hf5 => ?_
 obtain ⟨r12, hd1, hr1⟩ := bind_some hr
 refine p_call (i := 2) (d := some 22) (f := 12) (args := #[.agg #[.slice o_x0_t x0_t.length c_x0_t]]) hf5 (by kernel_rfl) (f12_ok fuel x0_t r12 hd1 h _ _ hS3 o_x0_t c_x0_t hx_x0_t) ?_
 rintro v1 ww4 a6 ⟨z1, k1, rfl, hS4⟩ hf6
 refine ⟨fun _ => trivial, ?_⟩
 refine p_qt [] [(3, pB b1 0), (4, pB b2 0), (5, pB b3 0), (23, .bool (!r12))] [] hf6 (by kernel_rfl) .nil fun a7 hf7 => ?_
 refine w_if hf7 (b := (!r12)) (by kernel_rfl) (fun hb1 => ?_) (fun hb1 => ?_)
 ·have hr2 := cond_t hb1 hr1
  refine w_sr (by kernel_rfl) ?_
  obtain ⟨r13, hd2, hr3⟩ := bind_some hr2
  refine p_call (i := 0) (d := some 24) (f := 13) (args := #[]) hf7 (by kernel_rfl) (f13_ok fuel  r13 hd2 z1 _ _ hS4 ) ?_
  rintro v2 ww5 a8 ⟨z2, k2, rfl, hS5⟩ hf8
  refine ⟨fun _ => trivial, ?_⟩
  refine p_qt [] [(6, .bool r13)] [] hf8 (by kernel_rfl) .nil fun a9 hf9 => ?_
  refine w_ret (by kernel_rfl) ?_
  refine r_then ?_
  refine p_ret (os := []) (v := .bool r13) (obs := []) hf9 (by kernel_rfl) .nil ?_
  obtain rfl := some_eq hr3
  exact ⟨_, rfl, z2, (Zone.le_trans k1 k2), rfl, (St.drop 3 hS5)⟩
 ·have hr4 := cond_f hb1 hr1
  refine w_skip (by kernel_rfl) ?_
  refine n_then ?_
  refine w_sr (by kernel_rfl) ?_
  refine p_qn 1 [.slice o_x0_t x0_t.length c_x0_t, .slice o_x0_c x0_c.length c_x0_c] [(3, pB b1 0), (4, pB b2 0), (5, pB b3 0), (25, .agg #[.slice o_x0_t x0_t.length c_x0_t, .slice o_x0_c x0_c.length c_x0_c])] [.cell ⟨b1, 0, none⟩ (.slice o_x0_t x0_t.length c_x0_t), .cell ⟨b1, 1, none⟩ (.slice o_x0_c x0_c.length c_x0_c)] hf7 (by kernel_rfl) (.cell (hS4.box (i := 2) rfl (j := 0) rfl) (.cell (hS4.box (i := 2) rfl (j := 1) rfl) .nil)) fun a10 hf10 => ?_
  obtain ⟨r14, hd3, hr5⟩ := bind_some hr4
  refine p_call (i := 1) (d := some 26) (f := 17) (args := #[.agg #[.slice o_x0_t x0_t.length c_x0_t, .slice o_x0_c x0_c.length c_x0_c]]) hf10 (by kernel_rfl) (f17_ok fuel x0_t x0_c r14 hd3 z1 _ _ hS4 o_x0_t c_x0_t (SliceR.mono k1 hx_x0_t) o_x0_c c_x0_c (SliceR.mono k1 hx_x0_c)) ?_
  rintro v3 ww6 a11 ⟨z3, e1, q1, k3, rfl, hS6, hx1⟩ hf11
  refine ⟨fun _ => trivial, ?_⟩
  refine p_qt [] [(3, pB b1 0), (4, pB b2 0), (5, pB b3 0), (7, .slice e1 r14.length q1)] [] hf11 (by kernel_rfl) .nil fun a12 hf12 => ?_
  refine w_sr (by kernel_rfl) ?_
  refine p_qn 4 [.slice o_x0_t x0_t.length c_x0_t, vI y4] [(3, pB b1 0), (4, pB b2 0), (5, pB b3 0), (7, .slice e1 r14.length q1), (28, .agg #[.slice o_x0_t x0_t.length c_x0_t]), (30, vI y4)] [.cell ⟨b1, 0, none⟩ (.slice o_x0_t x0_t.length c_x0_t), .prop ((0 : Int) ≤ 0 ∧ (0 : Int) < (3 : Nat)), .cell ⟨b2, 0, none⟩ (vI y4)] hf12 (by kernel_rfl) (.cell (hS6.box (i := 2) rfl (j := 0) rfl) (.prop (by decide) (.cell (hS6.box (i := 1) rfl (j := 0) rfl) .nil))) fun a13 hf13 => ?_
  obtain ⟨r1, hd4, hr6⟩ := bind_some hr5
  refine p_call (i := 4) (d := some 31) (f := 14) (args := #[.agg #[.slice o_x0_t x0_t.length c_x0_t], vI y4]) hf13 (by kernel_rfl) (f14_ok fuel x0_t y4 r1 hd4 z3 _ _ hS6 o_x0_t c_x0_t (SliceR.mono (Zone.le_trans k1 k3) hx_x0_t)) ?_
  rintro v4 ww7 a14 ⟨rfl, hS7⟩ hf14
  refine ⟨fun _ => trivial, ?_⟩
  refine p_qt [] [(3, pB b1 0), (4, pB b2 0), (5, pB b3 0), (7, .slice e1 r14.length q1), (8, vI r1)] [] hf14 (by kernel_rfl) .nil fun a15 hf15 => ?_
  refine w_sr (by kernel_rfl) ?_
  refine p_qn 5 [.slice o_x0_t x0_t.length c_x0_t, vI y5] [(3, pB b1 0), (4, pB b2 0), (5, pB b3 0), (7, .slice e1 r14.length q1), (8, vI r1), (32, vI r1), (34, .agg #[.slice o_x0_t x0_t.length c_x0_t]), (36, vI y5)] [.cell ⟨b1, 0, none⟩ (.slice o_x0_t x0_t.length c_x0_t), .prop ((0 : Int) ≤ 1 ∧ (1 : Int) < (3 : Nat)), .cell ⟨b2, 1, none⟩ (vI y5)] hf15 (by kernel_rfl) (.cell (hS7.box (i := 2) rfl (j := 0) rfl) (.prop (by decide) (.cell (hS7.box (i := 1) rfl (j := 1) rfl) .nil))) fun a16 hf16 => ?_
  obtain ⟨r15, hd5, hr7⟩ := bind_some hr6
  refine p_call (i := 5) (d := some 37) (f := 14) (args := #[.agg #[.slice o_x0_t x0_t.length c_x0_t], vI y5]) hf16 (by kernel_rfl) (f14_ok fuel x0_t y5 r15 hd5 z3 _ _ hS7 o_x0_t c_x0_t (SliceR.mono (Zone.le_trans k1 k3) hx_x0_t)) ?_
  rintro v5 ww8 a17 ⟨rfl, hS8⟩ hf17
  refine ⟨fun _ => trivial, ?_⟩
  refine p_qt [] [(3, pB b1 0), (4, pB b2 0), (5, pB b3 0), (7, .slice e1 r14.length q1), (8, vI r1), (9, vI (if r15 < r1 then r15 else r1))] [] hf17 (by kernel_rfl) .nil fun a18 hf18 => ?_
  refine w_sr (by kernel_rfl) ?_
  refine p_qn 5 [.slice o_x0_t x0_t.length c_x0_t, vI y6] [(3, pB b1 0), (5, pB b3 0), (7, .slice e1 r14.length q1), (8, vI r1), (9, vI (if r15 < r1 then r15 else r1)), (39, vI r1), (41, .agg #[.slice o_x0_t x0_t.length c_x0_t]), (43, vI y6)] [.cell ⟨b1, 0, none⟩ (.slice o_x0_t x0_t.length c_x0_t), .prop ((0 : Int) ≤ 2 ∧ (2 : Int) < (3 : Nat)), .cell ⟨b2, 2, none⟩ (vI y6)] hf18 (by kernel_rfl) (.cell (hS8.box (i := 2) rfl (j := 0) rfl) (.prop (by decide) (.cell (hS8.box (i := 1) rfl (j := 2) rfl) .nil))) fun a19 hf19 => ?_
  obtain ⟨r16, hd6, hr8⟩ := bind_some hr7
  refine p_call (i := 5) (d := some 44) (f := 14) (args := #[.agg #[.slice o_x0_t x0_t.length c_x0_t], vI y6]) hf19 (by kernel_rfl) (f14_ok fuel x0_t y6 r16 hd6 z3 _ _ hS8 o_x0_t c_x0_t (SliceR.mono (Zone.le_trans k1 k3) hx_x0_t)) ?_
  rintro v6 ww9 a20 ⟨rfl, hS9⟩ hf20
  refine ⟨fun _ => trivial, ?_⟩
  refine p_qt [] [(3, pB b1 0), (5, pB b3 0), (7, .slice e1 r14.length q1), (8, vI r1), (9, vI (if r15 < r1 then r15 else r1)), (10, vI (if r16 > r1 then r16 else r1))] [] hf20 (by kernel_rfl) .nil fun a21 hf21 => ?_
  refine w_sr (by kernel_rfl) ?_
  refine p_qn 2 [.slice o_x0_t x0_t.length c_x0_t] [(3, pB b1 0), (5, pB b3 0), (7, .slice e1 r14.length q1), (8, vI r1), (9, vI (if r15 < r1 then r15 else r1)), (10, vI (if r16 > r1 then r16 else r1)), (47, .agg #[.slice o_x0_t x0_t.length c_x0_t])] [.cell ⟨b1, 0, none⟩ (.slice o_x0_t x0_t.length c_x0_t)] hf21 (by kernel_rfl) (.cell (hS9.box (i := 2) rfl (j := 0) rfl) .nil) fun a22 hf22 => ?_
  obtain ⟨r17, hd7, hr9⟩ := bind_some hr8
  refine p_call (i := 2) (d := some 48) (f := 16) (args := #[.agg #[.slice o_x0_t x0_t.length c_x0_t]]) hf22 (by kernel_rfl) (f16_ok fuel x0_t r17 hd7 z3 _ _ hS9 o_x0_t c_x0_t (SliceR.mono (Zone.le_trans k1 k3) hx_x0_t)) ?_
  rintro v7 ww10 a23 ⟨z4, e2, q2, k4, rfl, hS10, hx2⟩ hf23
  refine ⟨fun _ => trivial, ?_⟩
  refine p_qn 2 [] [(3, pB b1 0), (5, pB b3 0), (7, .slice e1 r14.length q1), (8, vI r1), (9, vI (if r15 < r1 then r15 else r1)), (10, vI (if r16 > r1 then r16 else r1)), (48, .slice e2 r17.length q2), (49, .slice e1 r14.length q1), (50, vI r1)] [] hf23 (by kernel_rfl) .nil fun a24 hf24 => ?_
  obtain ⟨r2, hd8, hr10⟩ := bind_some hr9
  refine p_call (i := 5) (d := some 51) (f := 30) (args := #[.slice e2 r17.length q2, .slice e1 r14.length q1, vI r1]) hf24 (by kernel_rfl) (f30_ok fuel r17 r14 r1 r2 hd8 z4 _ _ hS10 e2 q2 hx2 e1 q1 (SliceR.mono k4 hx1)) ?_
  rintro v8 ww11 a25 ⟨z5, k5, rfl, hS11⟩ hf25
  refine ⟨fun _ => trivial, ?_⟩
  refine p_box (i := 6) (d := (some 11)) (cs := [vI 0, vI 0, vI 0]) (T := 56) (v := fun b4 => pB b4 0) hS11 hf25 (fun b => by kernel_rfl) fun b4 ww12 a26 hS12 hf26 => ⟨fun _ => trivial, ?_⟩
  refine p_store_eq (i := 7) (j := 0) (b := b4) (off := 0) (vs := [vI r2.1, vI r2.2.1, vI r2.2.2]) (cs' := [vI r2.1, vI r2.2.1, vI r2.2.2]) hS12 hf26 rfl (by kernel_rfl) (by kernel_rfl) rfl fun ww13 a27 hS13 hf27 => ⟨fun _ => trivial, ?_⟩
  refine p_dt (by kernel_rfl) ?_
  refine w_sr (by kernel_rfl) ?_
  refine p_qn 3 [.slice o_x0_t x0_t.length c_x0_t] [(3, pB b1 0), (5, pB b3 0), (7, .slice e1 r14.length q1), (8, vI r1), (9, vI (if r15 < r1 then r15 else r1)), (10, vI (if r16 > r1 then r16 else r1)), (11, pB b4 0), (54, .agg #[.slice o_x0_t x0_t.length c_x0_t]), (55, vI r1)] [.cell ⟨b1, 0, none⟩ (.slice o_x0_t x0_t.length c_x0_t)] hf27 (by kernel_rfl) (.cell (hS13.box (i := 3) rfl (j := 0) rfl) .nil) fun a28 hf28 => ?_
  obtain ⟨r18, hd9, hr11⟩ := bind_some hr10
  refine p_call (i := 3) (d := some 56) (f := 27) (args := #[.agg #[.slice o_x0_t x0_t.length c_x0_t], vI r1]) hf28 (by kernel_rfl) (f27_ok fuel x0_t r1 r18 hd9 z5 _ _ hS13 o_x0_t c_x0_t (SliceR.mono (Zone.le_trans (Zone.le_trans (Zone.le_trans k1 k3) k4) k5) hx_x0_t)) ?_
  rintro v9 ww14 a29 ⟨z6, k6, rfl, hS14⟩ hf29
  refine ⟨fun _ => trivial, ?_⟩
  refine p_qn 3 [] [(3, pB b1 0), (5, pB b3 0), (7, .slice e1 r14.length q1), (8, vI r1), (9, vI (if r15 < r1 then r15 else r1)), (10, vI (if r16 > r1 then r16 else r1)), (11, pB b4 0), (57, .agg #[vI r18.1, vI r18.2.1]), (58, vI r18.2.2)] [] hf29 (by kernel_rfl) .nil fun a30 hf30 => ?_
  refine p_box (i := 7) (d := (some 12)) (cs := [vI 0, vI 0]) (T := 41) (v := fun b5 => pB b5 0) hS14 hf30 (fun b => by kernel_rfl) fun b5 ww15 a31 hS15 hf31 => ⟨fun _ => trivial, ?_⟩
  refine p_store_eq (i := 8) (j := 0) (b := b5) (off := 0) (vs := [vI r18.1, vI r18.2.1]) (cs' := [vI r18.1, vI r18.2.1]) hS15 hf31 rfl (by kernel_rfl) (by kernel_rfl) rfl fun ww16 a32 hS16 hf32 => ⟨fun _ => trivial, ?_⟩
  refine p_qt [] [(3, pB b1 0), (5, pB b3 0), (7, .slice e1 r14.length q1), (8, vI r1), (9, vI (if r15 < r1 then r15 else r1)), (10, vI (if r16 > r1 then r16 else r1)), (11, pB b4 0), (12, pB b5 0), (13, vI r18.2.2)] [] hf32 (by kernel_rfl) .nil fun a33 hf33 => ?_
  refine w_sr (by kernel_rfl) ?_
  refine p_qn 5 [.slice o_x0_t x0_t.length c_x0_t] [(3, pB b1 0), (5, pB b3 0), (7, .slice e1 r14.length q1), (8, vI r1), (11, pB b4 0), (12, pB b5 0), (13, vI r18.2.2), (61, .agg #[.slice o_x0_t x0_t.length c_x0_t]), (64, .agg #[vI (if r15 < r1 then r15 else r1), vI (if r16 > r1 then r16 else r1)])] [.cell ⟨b1, 0, none⟩ (.slice o_x0_t x0_t.length c_x0_t)] hf33 (by kernel_rfl) (.cell (hS16.box (i := 4) rfl (j := 0) rfl) .nil) fun a34 hf34 => ?_
  obtain ⟨r19, hd10, hr12⟩ := bind_some hr11
  refine p_call (i := 5) (d := some 65) (f := 19) (args := #[.agg #[.slice o_x0_t x0_t.length c_x0_t], .agg #[vI (if r15 < r1 then r15 else r1), vI (if r16 > r1 then r16 else r1)]]) hf34 (by kernel_rfl) (f19_ok fuel x0_t (if r15 < r1 then r15 else r1) (if r16 > r1 then r16 else r1) r19 hd10 z6 _ _ hS16 o_x0_t c_x0_t (SliceR.mono (Zone.le_trans (Zone.le_trans (Zone.le_trans (Zone.le_trans k1 k3) k4) k5) k6) hx_x0_t)) ?_
  rintro v10 ww17 a35 ⟨z7, k7, rfl, hS17⟩ hf35
  refine ⟨fun _ => trivial, ?_⟩
  refine p_qn 3 [] [(3, pB b1 0), (5, pB b3 0), (7, .slice e1 r14.length q1), (8, vI r1), (11, pB b4 0), (12, pB b5 0), (13, vI r18.2.2), (66, .agg #[vI r19.1, vI r19.2.1]), (67, vI r19.2.2)] [] hf35 (by kernel_rfl) .nil fun a36 hf36 => ?_
  refine p_box (i := 9) (d := (some 14)) (cs := [vI 0, vI 0]) (T := 41) (v := fun b6 => pB b6 0) hS17 hf36 (fun b => by kernel_rfl) fun b6 ww18 a37 hS18 hf37 => ⟨fun _ => trivial, ?_⟩
  refine p_store_eq (i := 10) (j := 0) (b := b6) (off := 0) (vs := [vI r19.1, vI r19.2.1]) (cs' := [vI r19.1, vI r19.2.1]) hS18 hf37 rfl (by kernel_rfl) (by kernel_rfl) rfl fun ww19 a38 hS19 hf38 => ⟨fun _ => trivial, ?_⟩
  refine p_qt [] [(3, pB b1 0), (5, pB b3 0), (7, .slice e1 r14.length q1), (8, vI r1), (11, pB b4 0), (12, pB b5 0), (13, vI r18.2.2), (14, pB b6 0), (15, vI r19.2.2)] [] hf38 (by kernel_rfl) .nil fun a39 hf39 => ?_
  refine w_seq (by kernel_rfl) ?_
  refine w_mid (by kernel_rfl) (fun a w => ∃ z8 : Zone, ∃ y3 : Bool, Zone.le z7 z8 ∧ Fr a 142 [(3, pB b1 0), (5, pB b3 0), (8, vI r1), (11, pB b4 0), (92, .bool y3)] ∧ St z8 (box b6 [vI r19.1, vI r19.2.1] 41 :: box b5 [vI r18.1, vI r18.2.1] 41 :: box b4 [vI r2.1, vI r2.2.1, vI r2.2.2] 56 :: box b3 [vI x2_lo, vI x2_hi] 41 :: box b2 [vI y4, vI y5, vI y6] 28 :: box b1 [.slice o_x0_t x0_t.length c_x0_t, .slice o_x0_c x0_c.length c_x0_c] 27 :: L) w ∧ (F6_j1 fuel x0_t x2_lo x2_hi r1 r2 y3) = some r) ?_ ?_
  ·skip
   refine w_reg (by kernel_rfl) ?_
   refine p_qn 3 [.slice o_x0_t x0_t.length c_x0_t] [(3, pB b1 0), (5, pB b3 0), (8, vI r1), (11, pB b4 0), (12, pB b5 0), (13, vI r18.2.2), (14, pB b6 0), (15, vI r19.2.2), (69, .agg #[.slice o_x0_t x0_t.length c_x0_t]), (70, .slice e1 r14.length q1)] [.cell ⟨b1, 0, none⟩ (.slice o_x0_t x0_t.length c_x0_t)] hf39 (by kernel_rfl) (.cell (hS19.box (i := 5) rfl (j := 0) rfl) .nil) fun a40 hf40 => ?_
   obtain ⟨r20, hd11, hr13⟩ := bind_some hr12
   refine p_call (i := 3) (d := some 71) (f := 31) (args := #[.agg #[.slice o_x0_t x0_t.length c_x0_t], .slice e1 r14.length q1]) hf40 (by kernel_rfl) (f31_ok fuel x0_t r14 r20 hd11 z7 _ _ hS19 o_x0_t c_x0_t (SliceR.mono (Zone.le_trans (Zone.le_trans (Zone.le_trans (Zone.le_trans (Zone.le_trans k1 k3) k4) k5) k6) k7) hx_x0_t) e1 q1 (SliceR.mono (Zone.le_trans (Zone.le_trans (Zone.le_trans k4 k5) k6) k7) hx1)) ?_
   rintro v11 ww20 a41 ⟨z9, k8, rfl, hS20⟩ hf41
   refine ⟨fun _ => trivial, ?_⟩
   refine p_qn 2 [] [(3, pB b1 0), (5, pB b3 0), (8, vI r1), (11, pB b4 0), (12, pB b5 0), (13, vI r18.2.2), (14, pB b6 0), (15, vI r19.2.2), (73, .bool (r20 != (0 : Int)))] [] hf41 (by kernel_rfl) .nil fun a42 hf42 => ?_
   rcases Bool.eq_false_or_eq_true (r20 != (0 : Int)) with hb2 | hb2
   ·have hr14 := cond_t hb2 hr13
    have hf43 := Fr.conv hf42 (congrArg (fun z => ([(3, pB b1 0), (5, pB b3 0), (8, vI r1), (11, pB b4 0), (12, pB b5 0), (13, vI r18.2.2), (14, pB b6 0), (15, vI r19.2.2), (73, .bool z)] : FL)) hb2)
    refine p_qt [] [(3, pB b1 0), (5, pB b3 0), (8, vI r1), (11, pB b4 0), (92, .bool true)] [] hf43 (by kernel_rfl) .nil fun a43 hf44 => ?_
    have hf45 := Fr.keep (ks := [3, 5, 8, 11, 92]) (r := [(3, pB b1 0), (5, pB b3 0), (8, vI r1), (11, pB b4 0), (92, .bool true)]) hf44 (by kernel_rfl)
    exact ⟨z9, true, k8, hf45, hS20, hr14⟩
   ·have hr15 := cond_f hb2 hr13
    have hf46 := Fr.conv hf42 (congrArg (fun z => ([(3, pB b1 0), (5, pB b3 0), (8, vI r1), (11, pB b4 0), (12, pB b5 0), (13, vI r18.2.2), (14, pB b6 0), (15, vI r19.2.2), (73, .bool z)] : FL)) hb2)
    refine p_qn 4 [] [(3, pB b1 0), (5, pB b3 0), (8, vI r1), (11, pB b4 0), (12, pB b5 0), (14, pB b6 0), (15, vI r19.2.2), (77, .bool (r18.2.2 != (0 : Int)))] [] hf46 (by kernel_rfl) .nil fun a44 hf47 => ?_
    rcases Bool.eq_false_or_eq_true (r18.2.2 != (0 : Int)) with hb3 | hb3
    ·have hr16 := cond_t hb3 hr15
     have hf48 := Fr.conv hf47 (congrArg (fun z => ([(3, pB b1 0), (5, pB b3 0), (8, vI r1), (11, pB b4 0), (12, pB b5 0), (14, pB b6 0), (15, vI r19.2.2), (77, .bool z)] : FL)) hb3)
     refine p_qt [] [(3, pB b1 0), (5, pB b3 0), (8, vI r1), (11, pB b4 0), (92, .bool true)] [] hf48 (by kernel_rfl) .nil fun a45 hf49 => ?_
     have hf50 := Fr.keep (ks := [3, 5, 8, 11, 92]) (r := [(3, pB b1 0), (5, pB b3 0), (8, vI r1), (11, pB b4 0), (92, .bool true)]) hf49 (by kernel_rfl)
     exact ⟨z9, true, k8, hf50, hS20, hr16⟩
    ·have hr17 := cond_f hb3 hr15
     have hf51 := Fr.conv hf47 (congrArg (fun z => ([(3, pB b1 0), (5, pB b3 0), (8, vI r1), (11, pB b4 0), (12, pB b5 0), (14, pB b6 0), (15, vI r19.2.2), (77, .bool z)] : FL)) hb3)
     refine p_qn 4 [] [(3, pB b1 0), (5, pB b3 0), (8, vI r1), (11, pB b4 0), (12, pB b5 0), (14, pB b6 0), (81, .bool (r19.2.2 != (0 : Int)))] [] hf51 (by kernel_rfl) .nil fun a46 hf52 => ?_
     rcases Bool.eq_false_or_eq_true (r19.2.2 != (0 : Int)) with hb4 | hb4
     ·have hr18 := cond_t hb4 hr17
      have hf53 := Fr.conv hf52 (congrArg (fun z => ([(3, pB b1 0), (5, pB b3 0), (8, vI r1), (11, pB b4 0), (12, pB b5 0), (14, pB b6 0), (81, .bool z)] : FL)) hb4)
      refine p_qt [] [(3, pB b1 0), (5, pB b3 0), (8, vI r1), (11, pB b4 0), (92, .bool true)] [] hf53 (by kernel_rfl) .nil fun a47 hf54 => ?_
      have hf55 := Fr.keep (ks := [3, 5, 8, 11, 92]) (r := [(3, pB b1 0), (5, pB b3 0), (8, vI r1), (11, pB b4 0), (92, .bool true)]) hf54 (by kernel_rfl)
      exact ⟨z9, true, k8, hf55, hS20, hr18⟩
     ·have hr19 := cond_f hb4 hr17
      have hf56 := Fr.conv hf52 (congrArg (fun z => ([(3, pB b1 0), (5, pB b3 0), (8, vI r1), (11, pB b4 0), (12, pB b5 0), (14, pB b6 0), (81, .bool z)] : FL)) hb4)
      refine p_qn 2 [vI r18.1, vI r18.2.1, vI r2.1, vI r2.2.1, vI r2.2.2] [(3, pB b1 0), (5, pB b3 0), (8, vI r1), (11, pB b4 0), (14, pB b6 0), (81, .bool false), (82, .agg #[vI r18.1, vI r18.2.1]), (83, .agg #[vI r2.1, vI r2.2.1, vI r2.2.2])] [.cell ⟨b5, 0, none⟩ (vI r18.1), .cell ⟨b5, 1, none⟩ (vI r18.2.1), .cell ⟨b4, 0, none⟩ (vI r2.1), .cell ⟨b4, 1, none⟩ (vI r2.2.1), .cell ⟨b4, 2, none⟩ (vI r2.2.2)] hf56 (by kernel_rfl) (.cell (hS20.box (i := 1) rfl (j := 0) rfl) (.cell (hS20.box (i := 1) rfl (j := 1) rfl) (.cell (hS20.box (i := 2) rfl (j := 0) rfl) (.cell (hS20.box (i := 2) rfl (j := 1) rfl) (.cell (hS20.box (i := 2) rfl (j := 2) rfl) .nil))))) fun a48 hf57 => ?_
      obtain ⟨r21, hd12, hr20⟩ := bind_some hr19
      refine p_call (i := 16) (d := some 84) (f := 32) (args := #[.agg #[vI r18.1, vI r18.2.1], .agg #[vI r2.1, vI r2.2.1, vI r2.2.2]]) hf57 (by kernel_rfl) (f32_ok fuel r18.1 r18.2.1 r2.1 r2.2.1 r2.2.2 r21 hd12 z9 _ _ hS20 ) ?_
      rintro v12 ww21 a49 ⟨z10, k9, rfl, hS21⟩ hf58
      refine ⟨fun _ => trivial, ?_⟩
      refine p_qn 3 [] [(3, pB b1 0), (5, pB b3 0), (8, vI r1), (11, pB b4 0), (14, pB b6 0), (87, .bool (!r21))] [] hf58 (by kernel_rfl) .nil fun a50 hf59 => ?_
      rcases Bool.eq_false_or_eq_true (!r21) with hb5 | hb5
      ·have hr21 := cond_t hb5 hr20
       have hf60 := Fr.conv hf59 (congrArg (fun z => ([(3, pB b1 0), (5, pB b3 0), (8, vI r1), (11, pB b4 0), (14, pB b6 0), (87, .bool z)] : FL)) hb5)
       refine p_qt [] [(3, pB b1 0), (5, pB b3 0), (8, vI r1), (11, pB b4 0), (92, .bool true)] [] hf60 (by kernel_rfl) .nil fun a51 hf61 => ?_
       have hf62 := Fr.keep (ks := [3, 5, 8, 11, 92]) (r := [(3, pB b1 0), (5, pB b3 0), (8, vI r1), (11, pB b4 0), (92, .bool true)]) hf61 (by kernel_rfl)
       exact ⟨z10, true, (Zone.le_trans k8 k9), hf62, hS21, hr21⟩
      ·have hr22 := cond_f hb5 hr20
       have hf63 := Fr.conv hf59 (congrArg (fun z => ([(3, pB b1 0), (5, pB b3 0), (8, vI r1), (11, pB b4 0), (14, pB b6 0), (87, .bool z)] : FL)) hb5)
       refine p_qn 2 [vI r19.1, vI r19.2.1, vI r2.1, vI r2.2.1, vI r2.2.2] [(3, pB b1 0), (5, pB b3 0), (8, vI r1), (11, pB b4 0), (87, .bool false), (88, .agg #[vI r19.1, vI r19.2.1]), (89, .agg #[vI r2.1, vI r2.2.1, vI r2.2.2])] [.cell ⟨b6, 0, none⟩ (vI r19.1), .cell ⟨b6, 1, none⟩ (vI r19.2.1), .cell ⟨b4, 0, none⟩ (vI r2.1), .cell ⟨b4, 1, none⟩ (vI r2.2.1), .cell ⟨b4, 2, none⟩ (vI r2.2.2)] hf63 (by kernel_rfl) (.cell (hS21.box (i := 0) rfl (j := 0) rfl) (.cell (hS21.box (i := 0) rfl (j := 1) rfl) (.cell (hS21.box (i := 2) rfl (j := 0) rfl) (.cell (hS21.box (i := 2) rfl (j := 1) rfl) (.cell (hS21.box (i := 2) rfl (j := 2) rfl) .nil))))) fun a52 hf64 => ?_
       obtain ⟨r22, hd13, hr23⟩ := bind_some hr22
       refine p_call (i := 22) (d := some 90) (f := 32) (args := #[.agg #[vI r19.1, vI r19.2.1], .agg #[vI r2.1, vI r2.2.1, vI r2.2.2]]) hf64 (by kernel_rfl) (f32_ok fuel r19.1 r19.2.1 r2.1 r2.2.1 r2.2.2 r22 hd13 z10 _ _ hS21 ) ?_
       rintro v13 ww22 a53 ⟨z11, k10, rfl, hS22⟩ hf65
       refine ⟨fun _ => trivial, ?_⟩
       refine p_qt [] [(3, pB b1 0), (5, pB b3 0), (8, vI r1), (11, pB b4 0), (92, .bool (!r22))] [] hf65 (by kernel_rfl) .nil fun a54 hf66 => ?_
       have hf67 := Fr.keep (ks := [3, 5, 8, 11, 92]) (r := [(3, pB b1 0), (5, pB b3 0), (8, vI r1), (11, pB b4 0), (92, .bool (!r22))]) hf66 (by kernel_rfl)
       exact ⟨z11, (!r22), (Zone.le_trans (Zone.le_trans k8 k9) k10), hf67, hS22, hr23⟩
  ·rintro a55 ww23 ⟨z8, y3, k11, hf68, hS23, hr24⟩
   refine w_if hf68 (b := y3) (by kernel_rfl) (fun hb6 => ?_) (fun hb6 => ?_)
   ·have hr25 := cond_t hb6 hr24
    refine w_sq [] [(6, .bool false)] [] hf68 (by kernel_rfl) .nil fun a56 hf69 => ?_
    refine w_ret (by kernel_rfl) ?_
    refine r_then ?_
    refine p_ret (os := []) (v := .bool false) (obs := []) hf69 (by kernel_rfl) .nil ?_
    obtain rfl := some_eq hr25
    exact ⟨_, rfl, z8, (Zone.le_trans (Zone.le_trans (Zone.le_trans (Zone.le_trans (Zone.le_trans (Zone.le_trans k1 k3) k4) k5) k6) k7) k11), rfl, (St.drop 6 hS23)⟩
   ·have hr26 := cond_f hb6 hr24
    refine w_skip (by kernel_rfl) ?_
    refine n_then ?_
    refine w_sr (by kernel_rfl) ?_
    refine p_qn 4 [.slice o_x0_t x0_t.length c_x0_t, vI x2_lo] [(3, pB b1 0), (5, pB b3 0), (8, vI r1), (11, pB b4 0), (95, .agg #[.slice o_x0_t x0_t.length c_x0_t]), (97, vI x2_lo)] [.cell ⟨b1, 0, none⟩ (.slice o_x0_t x0_t.length c_x0_t), .cell ⟨b3, 0, none⟩ (vI x2_lo)] hf68 (by kernel_rfl) (.cell (hS23.box (i := 5) rfl (j := 0) rfl) (.cell (hS23.box (i := 3) rfl (j := 0) rfl) .nil)) fun a57 hf70 => ?_
    obtain ⟨r10, hd14, hr27⟩ := bind_some hr26
    refine p_call (i := 4) (d := some 98) (f := 23) (args := #[.agg #[.slice o_x0_t x0_t.length c_x0_t], vI x2_lo]) hf70 (by kernel_rfl) (f23_ok fuel x0_t x2_lo r10 hd14 z8 _ _ hS23 o_x0_t c_x0_t (SliceR.mono (Zone.le_trans (Zone.le_trans (Zone.le_trans (Zone.le_trans (Zone.le_trans (Zone.le_trans k1 k3) k4) k5) k6) k7) k11) hx_x0_t)) ?_
    rintro v14 ww24 a58 ⟨z12, e3, q3, k12, rfl, hS24, hx3⟩ hf71
    refine ⟨fun _ => trivial, ?_⟩
    refine p_qt [] [(3, pB b1 0), (5, pB b3 0), (8, vI r1), (11, pB b4 0), (16, .slice e3 r10.1.length q3), (17, vI r10.2)] [] hf71 (by kernel_rfl) .nil fun a59 hf72 => ?_
    refine w_seq (by kernel_rfl) ?_
    refine w_mid (by kernel_rfl) (fun a w => ∃ z13 : Zone, ∃ y2 : Bool, Zone.le z12 z13 ∧ Fr a 142 [(3, pB b1 0), (5, pB b3 0), (8, vI r1), (11, pB b4 0), (114, .bool y2)] ∧ St z13 (box b6 [vI r19.1, vI r19.2.1] 41 :: box b5 [vI r18.1, vI r18.2.1] 41 :: box b4 [vI r2.1, vI r2.2.1, vI r2.2.2] 56 :: box b3 [vI x2_lo, vI x2_hi] 41 :: box b2 [vI y4, vI y5, vI y6] 28 :: box b1 [.slice o_x0_t x0_t.length c_x0_t, .slice o_x0_c x0_c.length c_x0_c] 27 :: L) w ∧ (F6_j2 fuel x0_t x2_lo x2_hi r1 r2 y2) = some r) ?_ ?_
    ·skip
     refine w_reg (by kernel_rfl) ?_
     refine p_qn 3 [] [(3, pB b1 0), (5, pB b3 0), (8, vI r1), (11, pB b4 0), (16, .slice e3 r10.1.length q3), (103, .bool (r10.2 != (0 : Int)))] [] hf72 (by kernel_rfl) .nil fun a60 hf73 => ?_
     rcases Bool.eq_false_or_eq_true (r10.2 != (0 : Int)) with hb7 | hb7
     ·have hr28 := cond_t hb7 hr27
      have hf74 := Fr.conv hf73 (congrArg (fun z => ([(3, pB b1 0), (5, pB b3 0), (8, vI r1), (11, pB b4 0), (16, .slice e3 r10.1.length q3), (103, .bool z)] : FL)) hb7)
      refine p_qt [] [(3, pB b1 0), (5, pB b3 0), (8, vI r1), (11, pB b4 0), (114, .bool true)] [] hf74 (by kernel_rfl) .nil fun a61 hf75 => ?_
      have hf76 := Fr.keep (ks := [3, 5, 8, 11, 114]) (r := [(3, pB b1 0), (5, pB b3 0), (8, vI r1), (11, pB b4 0), (114, .bool true)]) hf75 (by kernel_rfl)
      exact ⟨z12, true, (Zone.le_refl _), hf76, hS24, hr28⟩
     ·have hr29 := cond_f hb7 hr27
      have hf77 := Fr.conv hf73 (congrArg (fun z => ([(3, pB b1 0), (5, pB b3 0), (8, vI r1), (11, pB b4 0), (16, .slice e3 r10.1.length q3), (103, .bool z)] : FL)) hb7)
      refine p_qn 2 [] [(3, pB b1 0), (5, pB b3 0), (8, vI r1), (11, pB b4 0), (103, .bool false), (104, .slice e3 r10.1.length q3), (105, vI r1)] [] hf77 (by kernel_rfl) .nil fun a62 hf78 => ?_
      obtain ⟨r11, hd15, hr30⟩ := bind_some hr29
      refine p_call (i := 5) (d := some 106) (f := 33) (args := #[.slice e3 r10.1.length q3, vI r1]) hf78 (by kernel_rfl) (f33_ok fuel r10.1 r1 r11 hd15 z12 _ _ hS24 e3 q3 hx3) ?_
      rintro v15 ww25 a63 ⟨z14, k13, rfl, hS25⟩ hf79
      refine ⟨fun _ => trivial, ?_⟩
      refine p_qn 1 [] [(3, pB b1 0), (5, pB b3 0), (8, vI r1), (11, pB b4 0), (103, .bool false), (107, .bool r11)] [] hf79 (by kernel_rfl) .nil fun a64 hf80 => ?_
      rcases Bool.eq_false_or_eq_true r11 with hb8 | hb8
      ·have hr31 := cond_t hb8 hr30
       have hf81 := Fr.conv hf80 (congrArg (fun z => ([(3, pB b1 0), (5, pB b3 0), (8, vI r1), (11, pB b4 0), (103, .bool false), (107, .bool z)] : FL)) hb8)
       refine p_qt [vI r2.1, vI x2_lo] [(3, pB b1 0), (5, pB b3 0), (8, vI r1), (11, pB b4 0), (114, .bool (decide (r2.1 < x2_lo)))] [.cell ⟨b4, 0, none⟩ (vI r2.1), .cell ⟨b3, 0, none⟩ (vI x2_lo)] hf81 (by kernel_rfl) (.cell (hS25.box (i := 2) rfl (j := 0) rfl) (.cell (hS25.box (i := 3) rfl (j := 0) rfl) .nil)) fun a65 hf82 => ?_
       have hf83 := Fr.keep (ks := [3, 5, 8, 11, 114]) (r := [(3, pB b1 0), (5, pB b3 0), (8, vI r1), (11, pB b4 0), (114, .bool (decide (r2.1 < x2_lo)))]) hf82 (by kernel_rfl)
       exact ⟨z14, (decide (r2.1 < x2_lo)), k13, hf83, hS25, hr31⟩
      ·have hr32 := cond_f hb8 hr30
       have hf84 := Fr.conv hf80 (congrArg (fun z => ([(3, pB b1 0), (5, pB b3 0), (8, vI r1), (11, pB b4 0), (103, .bool false), (107, .bool z)] : FL)) hb8)
       refine p_qt [] [(3, pB b1 0), (5, pB b3 0), (8, vI r1), (11, pB b4 0), (114, .bool false)] [] hf84 (by kernel_rfl) .nil fun a66 hf85 => ?_
       have hf86 := Fr.keep (ks := [3, 5, 8, 11, 114]) (r := [(3, pB b1 0), (5, pB b3 0), (8, vI r1), (11, pB b4 0), (114, .bool false)]) hf85 (by kernel_rfl)
       exact ⟨z14, false, k13, hf86, hS25, hr32⟩
    ·rintro a67 ww26 ⟨z13, y2, k14, hf87, hS26, hr33⟩
     refine w_if hf87 (b := y2) (by kernel_rfl) (fun hb9 => ?_) (fun hb9 => ?_)
     ·have hr34 := cond_t hb9 hr33
      refine w_sq [] [(6, .bool false)] [] hf87 (by kernel_rfl) .nil fun a68 hf88 => ?_
      refine w_ret (by kernel_rfl) ?_
      refine r_then ?_
      refine p_ret (os := []) (v := .bool false) (obs := []) hf88 (by kernel_rfl) .nil ?_
      obtain rfl := some_eq hr34
      exact ⟨_, rfl, z13, (Zone.le_trans (Zone.le_trans (Zone.le_trans (Zone.le_trans (Zone.le_trans (Zone.le_trans (Zone.le_trans (Zone.le_trans k1 k3) k4) k5) k6) k7) k11) k12) k14), rfl, (St.drop 6 hS26)⟩
     ·have hr35 := cond_f hb9 hr33
      refine w_skip (by kernel_rfl) ?_
      refine n_then ?_
      refine w_seq (by kernel_rfl) ?_
      refine w_sr (by kernel_rfl) ?_
      refine p_qn 1 [vI x2_lo, vI x2_hi] [(3, pB b1 0), (5, pB b3 0), (8, vI r1), (11, pB b4 0), (115, .agg #[vI x2_lo, vI x2_hi])] [.cell ⟨b3, 0, none⟩ (vI x2_lo), .cell ⟨b3, 1, none⟩ (vI x2_hi)] hf87 (by kernel_rfl) (.cell (hS26.box (i := 3) rfl (j := 0) rfl) (.cell (hS26.box (i := 3) rfl (j := 1) rfl) .nil)) fun a69 hf89 => ?_
      obtain ⟨r3, hd16, hr36⟩ := bind_some hr35
      refine p_call (i := 1) (d := some 116) (f := 34) (args := #[.agg #[vI x2_lo, vI x2_hi]]) hf89 (by kernel_rfl) (f34_ok fuel x2_lo x2_hi r3 hd16 z13 _ _ hS26 ) ?_
      rintro v16 ww27 a70 ⟨z15, k15, rfl, hS27⟩ hf90
      refine ⟨fun _ => trivial, ?_⟩
      refine p_qt [] [(3, pB b1 0), (5, pB b3 0), (8, vI r1), (11, pB b4 0), (117, .bool (!r3))] [] hf90 (by kernel_rfl) .nil fun a71 hf91 => ?_
      refine w_if hf91 (b := (!r3)) (by kernel_rfl) (fun hb10 => ?_) (fun hb10 => ?_)
      ·have hr37 := cond_t hb10 hr36
       refine w_sr (by kernel_rfl) ?_
       obtain ⟨r4, hd17, hr38⟩ := bind_some hr37
       refine p_call (i := 0) (d := some 118) (f := 13) (args := #[]) hf91 (by kernel_rfl) (f13_ok fuel  r4 hd17 z15 _ _ hS27 ) ?_
       rintro v17 ww28 a72 ⟨z16, k16, rfl, hS28⟩ hf92
       refine ⟨fun _ => trivial, ?_⟩
       refine p_qt [] [(6, .bool r4)] [] hf92 (by kernel_rfl) .nil fun a73 hf93 => ?_
       refine w_ret (by kernel_rfl) ?_
       refine r_then ?_
       refine p_ret (os := []) (v := .bool r4) (obs := []) hf93 (by kernel_rfl) .nil ?_
       obtain rfl := some_eq hr38
       exact ⟨_, rfl, z16, (Zone.le_trans (Zone.le_trans (Zone.le_trans (Zone.le_trans (Zone.le_trans (Zone.le_trans (Zone.le_trans (Zone.le_trans (Zone.le_trans (Zone.le_trans k1 k3) k4) k5) k6) k7) k11) k12) k14) k15) k16), rfl, (St.drop 6 hS28)⟩
      ·have hr39 := cond_f hb10 hr36
       refine w_skip (by kernel_rfl) ?_
       refine n_then ?_
       refine w_sr (by kernel_rfl) ?_
       refine p_qn 3 [.slice o_x0_t x0_t.length c_x0_t, vI x2_lo, vI x2_hi] [(5, pB b3 0), (8, vI r1), (11, pB b4 0), (121, .agg #[.slice o_x0_t x0_t.length c_x0_t]), (122, .agg #[vI x2_lo, vI x2_hi])] [.cell ⟨b1, 0, none⟩ (.slice o_x0_t x0_t.length c_x0_t), .cell ⟨b3, 0, none⟩ (vI x2_lo), .cell ⟨b3, 1, none⟩ (vI x2_hi)] hf91 (by kernel_rfl) (.cell (hS27.box (i := 5) rfl (j := 0) rfl) (.cell (hS27.box (i := 3) rfl (j := 0) rfl) (.cell (hS27.box (i := 3) rfl (j := 1) rfl) .nil))) fun a74 hf94 => ?_
       obtain ⟨r5, hd18, hr40⟩ := bind_some hr39
       refine p_call (i := 3) (d := some 123) (f := 21) (args := #[.agg #[.slice o_x0_t x0_t.length c_x0_t], .agg #[vI x2_lo, vI x2_hi]]) hf94 (by kernel_rfl) (f21_ok fuel x0_t x2_lo x2_hi r5 hd18 z15 _ _ hS27 o_x0_t c_x0_t (SliceR.mono (Zone.le_trans (Zone.le_trans (Zone.le_trans (Zone.le_trans (Zone.le_trans (Zone.le_trans (Zone.le_trans (Zone.le_trans (Zone.le_trans k1 k3) k4) k5) k6) k7) k11) k12) k14) k15) hx_x0_t)) ?_
       rintro v18 ww29 a75 ⟨z17, e4, q4, k17, rfl, hS29, hx4⟩ hf95
       refine ⟨fun _ => trivial, ?_⟩
       refine p_qt [] [(5, pB b3 0), (8, vI r1), (11, pB b4 0), (18, .slice e4 r5.1.length q4), (19, vI r5.2)] [] hf95 (by kernel_rfl) .nil fun a76 hf96 => ?_
       refine w_mid (by kernel_rfl) (fun a w => ∃ z18 : Zone, ∃ y1 : Bool, Zone.le z17 z18 ∧ Fr a 142 [(6, .bool y1)] ∧ St z18 (box b6 [vI r19.1, vI r19.2.1] 41 :: box b5 [vI r18.1, vI r18.2.1] 41 :: box b4 [vI r2.1, vI r2.2.1, vI r2.2.2] 56 :: box b3 [vI x2_lo, vI x2_hi] 41 :: box b2 [vI y4, vI y5, vI y6] 28 :: box b1 [.slice o_x0_t x0_t.length c_x0_t, .slice o_x0_c x0_c.length c_x0_c] 27 :: L) w ∧ (F6_j3 y1) = some r) ?_ ?_
       ·skip
        refine w_reg (by kernel_rfl) ?_
        refine p_qn 3 [] [(5, pB b3 0), (8, vI r1), (11, pB b4 0), (18, .slice e4 r5.1.length q4), (128, .bool (r5.2 == (0 : Int)))] [] hf96 (by kernel_rfl) .nil fun a77 hf97 => ?_
        rcases Bool.eq_false_or_eq_true (r5.2 == (0 : Int)) with hb11 | hb11
        ·have hr41 := cond_t hb11 hr40
         have hf98 := Fr.conv hf97 (congrArg (fun z => ([(5, pB b3 0), (8, vI r1), (11, pB b4 0), (18, .slice e4 r5.1.length q4), (128, .bool z)] : FL)) hb11)
         refine p_qn 2 [] [(5, pB b3 0), (11, pB b4 0), (128, .bool true), (129, .slice e4 r5.1.length q4), (130, vI r1)] [] hf98 (by kernel_rfl) .nil fun a78 hf99 => ?_
         obtain ⟨r6, hd19, hr42⟩ := bind_some hr41
         refine p_call (i := 5) (d := some 131) (f := 33) (args := #[.slice e4 r5.1.length q4, vI r1]) hf99 (by kernel_rfl) (f33_ok fuel r5.1 r1 r6 hd19 z17 _ _ hS29 e4 q4 hx4) ?_
         rintro v19 ww30 a79 ⟨z19, k18, rfl, hS30⟩ hf100
         refine ⟨fun _ => trivial, ?_⟩
         refine p_qn 1 [] [(5, pB b3 0), (11, pB b4 0), (128, .bool true), (132, .bool r6)] [] hf100 (by kernel_rfl) .nil fun a80 hf101 => ?_
         rcases Bool.eq_false_or_eq_true r6 with hb12 | hb12
         ·have hr43 := cond_t hb12 hr42
          have hf102 := Fr.conv hf101 (congrArg (fun z => ([(5, pB b3 0), (11, pB b4 0), (128, .bool true), (132, .bool z)] : FL)) hb12)
          refine p_qn 7 [] [(139, .bool true)] [] hf102 (by kernel_rfl) .nil fun a81 hf103 => ?_
          obtain ⟨r7, hd20, hr44⟩ := bind_some hr43
          refine p_call (i := 14) (d := some 140) (f := 13) (args := #[]) hf103 (by kernel_rfl) (f13_ok fuel  r7 hd20 z19 _ _ hS30 ) ?_
          rintro v20 ww31 a82 ⟨z20, k19, rfl, hS31⟩ hf104
          refine ⟨fun _ => trivial, ?_⟩
          refine p_qt [] [(6, .bool r7)] [] hf104 (by kernel_rfl) .nil fun a83 hf105 => ?_
          have hf106 := Fr.keep (ks := [6]) (r := [(6, .bool r7)]) hf105 (by kernel_rfl)
          exact ⟨z20, r7, (Zone.le_trans k18 k19), hf106, hS31, hr44⟩
         ·have hr45 := cond_f hb12 hr42
          have hf107 := Fr.conv hf101 (congrArg (fun z => ([(5, pB b3 0), (11, pB b4 0), (128, .bool true), (132, .bool z)] : FL)) hb12)
          refine p_qn 2 [vI x2_lo, vI x2_hi, vI r2.1, vI r2.2.1, vI r2.2.2] [(128, .bool true), (132, .bool false), (133, .agg #[vI x2_lo, vI x2_hi]), (134, .agg #[vI r2.1, vI r2.2.1, vI r2.2.2])] [.cell ⟨b3, 0, none⟩ (vI x2_lo), .cell ⟨b3, 1, none⟩ (vI x2_hi), .cell ⟨b4, 0, none⟩ (vI r2.1), .cell ⟨b4, 1, none⟩ (vI r2.2.1), .cell ⟨b4, 2, none⟩ (vI r2.2.2)] hf107 (by kernel_rfl) (.cell (hS30.box (i := 3) rfl (j := 0) rfl) (.cell (hS30.box (i := 3) rfl (j := 1) rfl) (.cell (hS30.box (i := 2) rfl (j := 0) rfl) (.cell (hS30.box (i := 2) rfl (j := 1) rfl) (.cell (hS30.box (i := 2) rfl (j := 2) rfl) .nil))))) fun a84 hf108 => ?_
          obtain ⟨r8, hd21, hr46⟩ := bind_some hr45
          refine p_call (i := 9) (d := some 135) (f := 32) (args := #[.agg #[vI x2_lo, vI x2_hi], .agg #[vI r2.1, vI r2.2.1, vI r2.2.2]]) hf108 (by kernel_rfl) (f32_ok fuel x2_lo x2_hi r2.1 r2.2.1 r2.2.2 r8 hd21 z19 _ _ hS30 ) ?_
          rintro v21 ww32 a85 ⟨z21, k20, rfl, hS32⟩ hf109
          refine ⟨fun _ => trivial, ?_⟩
          refine p_qn 4 [] [(139, .bool (!r8))] [] hf109 (by kernel_rfl) .nil fun a86 hf110 => ?_
          rcases Bool.eq_false_or_eq_true (!r8) with hb13 | hb13
          ·have hr47 := cond_t hb13 hr46
           have hf111 := Fr.conv hf110 (congrArg (fun z => ([(139, .bool z)] : FL)) hb13)
           obtain ⟨r9, hd22, hr48⟩ := bind_some hr47
           refine p_call (i := 14) (d := some 140) (f := 13) (args := #[]) hf111 (by kernel_rfl) (f13_ok fuel  r9 hd22 z21 _ _ hS32 ) ?_
           rintro v22 ww33 a87 ⟨z22, k21, rfl, hS33⟩ hf112
           refine ⟨fun _ => trivial, ?_⟩
           refine p_qt [] [(6, .bool r9)] [] hf112 (by kernel_rfl) .nil fun a88 hf113 => ?_
           have hf114 := Fr.keep (ks := [6]) (r := [(6, .bool r9)]) hf113 (by kernel_rfl)
           exact ⟨z22, r9, (Zone.le_trans (Zone.le_trans k18 k20) k21), hf114, hS33, hr48⟩
          ·have hr49 := cond_f hb13 hr46
           have hf115 := Fr.conv hf110 (congrArg (fun z => ([(139, .bool z)] : FL)) hb13)
           refine p_qt [] [(6, .bool false)] [] hf115 (by kernel_rfl) .nil fun a89 hf116 => ?_
           have hf117 := Fr.keep (ks := [6]) (r := [(6, .bool false)]) hf116 (by kernel_rfl)
           exact ⟨z21, false, (Zone.le_trans k18 k20), hf117, hS32, hr49⟩
        ·have hr50 := cond_f hb11 hr40
         have hf118 := Fr.conv hf97 (congrArg (fun z => ([(5, pB b3 0), (8, vI r1), (11, pB b4 0), (18, .slice e4 r5.1.length q4), (128, .bool z)] : FL)) hb11)
         refine p_qt [] [(6, .bool false)] [] hf118 (by kernel_rfl) .nil fun a90 hf119 => ?_
         have hf120 := Fr.keep (ks := [6]) (r := [(6, .bool false)]) hf119 (by kernel_rfl)
         exact ⟨z17, false, (Zone.le_refl _), hf120, hS29, hr50⟩
       ·rintro a91 ww34 ⟨z18, y1, k22, hf121, hS34, hr51⟩
        refine w_ret (by kernel_rfl) ?_
        refine p_ret (os := []) (v := .bool y1) (obs := []) hf121 (by kernel_rfl) .nil ?_
        obtain rfl := some_eq hr51
        exact ⟨_, rfl, z18, (Zone.le_trans (Zone.le_trans (Zone.le_trans (Zone.le_trans (Zone.le_trans (Zone.le_trans (Zone.le_trans (Zone.le_trans (Zone.le_trans (Zone.le_trans (Zone.le_trans k1 k3) k4) k5) k6) k7) k11) k12) k14) k15) k17) k22), rfl, (St.drop 6 hS34)⟩
end Go.Proofs.Ytpjmgeajajcceaa
