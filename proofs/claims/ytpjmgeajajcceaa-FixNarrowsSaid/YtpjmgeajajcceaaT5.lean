/-
  The walks of functions 12, 73, 74, 14, 17, 27, 98, 28, 99, 29, 5: what the code does is what a plain function computes. No condition.
-/
import Derived.Test.YtpjmgeajajcceaaSFb
set_option linter.unusedVariables false
namespace Go.Proofs.Ytpjmgeajajcceaa
open Go.Sl Go.Sx
def F12_j2 (k1 : Int → Option (Bool)) (y1 : Int) (y2 : Bool) : Option (Bool) :=
  (cond y2 (some (false)) (k1 (w64 (y1 + (1 : Int)))))
def F12_l1 (x0 : List Pt) : Nat → Int → Option (Bool)
  | 0, _ => none
  | n1 + 1, y1 =>
    let k1 : Int → Option (Bool) := F12_l1 x0 n1
    (cond (decide (y1 < (x0.length : Int))) ((getI x0 y1).bind fun p1 => (cond (decide (p1.x < (0 : Int))) (F12_j2 k1 y1 true) (cond (decide (p1.x > (1000000 : Int))) (F12_j2 k1 y1 true) (cond (decide (y1 > (0 : Int))) ((getI x0 (w64 (y1 - (1 : Int)))).bind fun p2 => (cond (decide (p2.x ≥ p1.x)) (F12_j2 k1 y1 true) (cond (decide (p1.lo < (-1000000000 : Int))) (F12_j2 k1 y1 true) (cond (decide (p1.lo > p1.hi)) (F12_j2 k1 y1 true) (F12_j2 k1 y1 (decide (p1.hi > (1000000000 : Int)))))))) (cond (decide (p1.lo < (-1000000000 : Int))) (F12_j2 k1 y1 true) (cond (decide (p1.lo > p1.hi)) (F12_j2 k1 y1 true) (F12_j2 k1 y1 (decide (p1.hi > (1000000000 : Int)))))))))) (some (true)))
def F12_j1 (fuel : Nat) (x0 : List Pt) (y3 : Bool) : Option (Bool) :=
  (cond y3 (some (false)) (F12_l1 x0 fuel 0))
def F12 (fuel : Nat) (x0 : List Pt) : Option (Bool) :=
  (cond (decide ((x0.length : Int) < (1 : Int))) (F12_j1 fuel x0 true) (F12_j1 fuel x0 (decide ((x0.length : Int) > (40 : Int)))))
set_option maxRecDepth 100000 in
theorem f12_ok (fuel : Nat) (x0 : List Pt) (r : Bool) (hr : F12 fuel x0 = some r) (h : Zone) (L : List Atom) (w : World) (hS : St h L w) (o_x0 : Option Addr) (c_x0 : Nat) (hx_x0 : SliceR PtT h o_x0 c_x0 x0) :
    Calls Try.prog 12 #[.agg #[.slice o_x0 x0.length c_x0]] w fun e w' => ∃ v, e = .returned v ∧ (∃ h', Zone.le h h' ∧ v = .bool r ∧ St h' L w') := by
 refine calls_intro (N := 65) Try.func12 (by kernel_rfl) fun a hf => ?_
 refine w_sr (by kernel_rfl) ?_
 refine p_box (i := 0) (d := (some 1)) (cs := [.slice o_x0 x0.length c_x0]) (T := 24) (v := fun b1 => pB b1 0) hS hf (fun b => by kernel_rfl) fun b1 ww1 a1 hS1 hf1 => ⟨fun _ => trivial, ?_⟩
 refine p_qt [] [(1, pB b1 0)] [] hf1 (by kernel_rfl) .nil fun a2 hf2 => ?_
 refine w_seq (by kernel_rfl) ?_
 refine w_mid (by kernel_rfl) (fun a w => ∃ z1 : Zone, ∃ y3 : Bool, Zone.le h z1 ∧ Fr a 65 [(1, pB b1 0), (14, .bool y3)] ∧ St z1 (box b1 [.slice o_x0 x0.length c_x0] 24 :: L) w ∧ (F12_j1 fuel x0 y3) = some r) ?_ ?_
 ·skip
  refine w_reg (by kernel_rfl) ?_
  refine p_qn 5 [.slice o_x0 x0.length c_x0] [(1, pB b1 0), (9, .bool (decide ((x0.length : Int) < (1 : Int))))] [.cell ⟨b1, 0, none⟩ (.slice o_x0 x0.length c_x0)] hf2 (by kernel_rfl) (.cell (hS1.box (i := 0) rfl (j := 0) rfl) .nil) fun a3 hf3 => ?_
  rcases Bool.eq_false_or_eq_true (decide ((x0.length : Int) < (1 : Int))) with hb1 | hb1
  ·have hr1 := cond_t hb1 hr
   have hf4 := Fr.conv hf3 (congrArg (fun z => ([(1, pB b1 0), (9, .bool z)] : FL)) hb1)
   refine p_qt [] [(1, pB b1 0), (14, .bool true)] [] hf4 (by kernel_rfl) .nil fun a4 hf5 => ?_
   have hf6 := Fr.keep (ks := [1, 14]) (r := [(1, pB b1 0), (14, .bool true)]) hf5 (by kernel_rfl)
   exact ⟨h, true, (Zone.le_refl _), hf6, hS1, hr1⟩
  ·have hr2 := cond_f hb1 hr
   have hf7 := Fr.conv hf3 (congrArg (fun z => ([(1, pB b1 0), (9, .bool z)] : FL)) hb1)
   refine p_qt [.slice o_x0 x0.length c_x0] [(1, pB b1 0), (14, .bool (decide ((x0.length : Int) > (40 : Int))))] [.cell ⟨b1, 0, none⟩ (.slice o_x0 x0.length c_x0)] hf7 (by kernel_rfl) (.cell (hS1.box (i := 0) rfl (j := 0) rfl) .nil) fun a5 hf8 => ?_
   have hf9 := Fr.keep (ks := [1, 14]) (r := [(1, pB b1 0), (14, .bool (decide ((x0.length : Int) > (40 : Int))))]) hf8 (by kernel_rfl)
   exact ⟨h, (decide ((x0.length : Int) > (40 : Int))), (Zone.le_refl _), hf9, hS1, hr2⟩
 ·rintro a6 ww2 ⟨z1, y3, k2, hf10, hS2, hr3⟩
  refine w_if hf10 (b := y3) (by kernel_rfl) (fun hb2 => ?_) (fun hb2 => ?_)
  ·have hr4 := cond_t hb2 hr3
   refine w_sq [] [(2, .bool false)] [] hf10 (by kernel_rfl) .nil fun a7 hf11 => ?_
   refine w_ret (by kernel_rfl) ?_
   refine r_then ?_
   refine p_ret (os := []) (v := .bool false) (obs := []) hf11 (by kernel_rfl) .nil ?_
   obtain rfl := some_eq hr4
   exact ⟨_, rfl, z1, k2, rfl, (St.drop 1 hS2)⟩
  ·have hr5 := cond_f hb2 hr3
   refine w_skip (by kernel_rfl) ?_
   refine n_then ?_
   refine w_seq (by kernel_rfl) ?_
   refine w_sq [.slice o_x0 x0.length c_x0] [(1, pB b1 0), (16, .slice o_x0 x0.length c_x0), (17, vI (x0.length : Int)), (18, vI 0)] [.cell ⟨b1, 0, none⟩ (.slice o_x0 x0.length c_x0)] hf10 (by kernel_rfl) (.cell (hS2.box (i := 0) rfl (j := 0) rfl) .nil) fun a8 hf12 => ?_
   refine w_block (id := 0) (by kernel_rfl) ?_
   have hf13 := Fr.keep (ks := [1, 16, 17, 18]) (r := [(1, pB b1 0), (16, .slice o_x0 x0.length c_x0), (17, vI (x0.length : Int)), (18, vI 0)]) hf12 (by kernel_rfl)
   refine w_loop (by kernel_rfl) (fun n a w => ∃ z2 : Zone, ∃ y1 : Int, Zone.le z1 z2 ∧ Fr a 65 [(1, pB b1 0), (16, .slice o_x0 x0.length c_x0), (17, vI (x0.length : Int)), (18, vI y1)] ∧ St z2 (box b1 [.slice o_x0 x0.length c_x0] 24 :: L) w ∧ (F12_l1 x0 n y1) = some r) fuel ⟨z1, 0, (Zone.le_refl _), hf13, hS2, hr5⟩ ?_
   rintro n2 a9 ww3 ⟨z2, y1, k3, hf14, hS3, hr6⟩
   cases n2 with
   | zero => cases hr6
   | succ n1 =>
   refine w_sq [] [(1, pB b1 0), (16, .slice o_x0 x0.length c_x0), (17, vI (x0.length : Int)), (18, vI y1), (19, .bool (decide (y1 < (x0.length : Int))))] [] hf14 (by kernel_rfl) .nil fun a10 hf15 => ?_
   refine w_seq (by kernel_rfl) ?_
   refine w_if hf15 (b := (decide (y1 < (x0.length : Int)))) (by kernel_rfl) (fun hb3 => ?_) (fun hb3 => ?_)
   ·have hr7 := cond_t hb3 hr6
    refine w_skip (by kernel_rfl) ?_
    refine n_then ?_
    refine w_seq (by kernel_rfl) ?_
    refine w_block (id := 1) (by kernel_rfl) ?_
    refine w_sr (by kernel_rfl) ?_
    obtain ⟨p1, hp2448, hr8⟩ := bind_some hr7
    obtain ⟨ad1, ho1, hb4, cc1, hc1, hk1⟩ := SliceR.getI (SliceR.mono (Zone.le_trans k2 k3) hx_x0) hp2448
    subst hc1
    refine p_qn 3 [.pointer (some ad1), vI p1.x, vI p1.lo, vI p1.hi] [(1, pB b1 0), (16, .slice o_x0 x0.length c_x0), (17, vI (x0.length : Int)), (18, vI y1), (20, vI y1), (22, .agg #[vI p1.x, vI p1.lo, vI p1.hi])] [.prop (o_x0 = some ad1), .prop (0 ≤ y1 ∧ y1 < (x0.length : Nat)), .cell ((ad1.add (Int.toNat y1 * 3)).add 0) (vI p1.x), .cell ((ad1.add (Int.toNat y1 * 3)).add 1) (vI p1.lo), .cell ((ad1.add (Int.toNat y1 * 3)).add 2) (vI p1.hi)] hf15 (by kernel_rfl) (.prop ho1 (.prop hb4 (.cell (hS3.cell (hk1 0 _ rfl)) (.cell (hS3.cell (hk1 1 _ rfl)) (.cell (hS3.cell (hk1 2 _ rfl)) .nil))))) fun a11 hf16 => ?_
    refine p_box (i := 3) (d := (some 4)) (cs := [vI 0, vI 0, vI 0]) (T := 52) (v := fun b2 => pB b2 0) hS3 hf16 (fun b => by kernel_rfl) fun b2 ww4 a12 hS4 hf17 => ⟨fun _ => trivial, ?_⟩
    refine p_qn 1 [] [(1, pB b1 0), (3, vI y1), (4, pB b2 0), (16, .slice o_x0 x0.length c_x0), (17, vI (x0.length : Int)), (18, vI y1), (22, .agg #[vI p1.x, vI p1.lo, vI p1.hi])] [] hf17 (by kernel_rfl) .nil fun a13 hf18 => ?_
    refine p_store_eq (i := 5) (j := 0) (b := b2) (off := 0) (vs := [vI p1.x, vI p1.lo, vI p1.hi]) (cs' := [vI p1.x, vI p1.lo, vI p1.hi]) hS4 hf18 rfl (by kernel_rfl) (by kernel_rfl) rfl fun ww5 a14 hS5 hf19 => ⟨fun _ => trivial, ?_⟩
    refine p_dt (by kernel_rfl) ?_
    refine w_mid (by kernel_rfl) (fun a w => ∃ z3 : Zone, ∃ y2 : Bool, Zone.le z2 z3 ∧ Fr a 65 [(1, pB b1 0), (16, .slice o_x0 x0.length c_x0), (17, vI (x0.length : Int)), (18, vI y1), (63, .bool y2)] ∧ St z3 (box b2 [vI p1.x, vI p1.lo, vI p1.hi] 52 :: box b1 [.slice o_x0 x0.length c_x0] 24 :: L) w ∧ (F12_j2 (F12_l1 x0 n1) y1 y2) = some r) ?_ ?_
    ·skip
     have hS6 := hS5.drew
     refine w_regD (by kernel_rfl) [(0, true), (1, true), (2, true), (3, true), (4, true), (5, true), (6, true), (7, true), (8, true), (9, true), (10, true), (11, true), (12, true), (13, true), (14, true), (15, true), (16, true), (17, true), (18, true), (19, true), (20, true), (21, true), (22, true), (23, true), (24, true), (25, true), (26, true), (27, true), (28, true), (29, true), (30, true), (31, true), (32, true), (33, true), (34, true), (35, true), (36, true), (37, true), (38, true), (39, true), (40, true)] [] (fun x => x = ww5.drew) (by kernel_rfl) rfl ?_
     refine p_qE 4 [vI p1.x] [(1, pB b1 0), (3, vI y1), (4, pB b2 0), (16, .slice o_x0 x0.length c_x0), (17, vI (x0.length : Int)), (18, vI y1), (26, .bool (decide (p1.x < (0 : Int))))] [.cell ⟨b2, 0, none⟩ (vI p1.x)] [] hf19 (by kernel_rfl) (.cell (hS6.box (i := 0) rfl (j := 0) rfl) .nil) .nil fun a15 hf20 => ?_
     rcases Bool.eq_false_or_eq_true (decide (p1.x < (0 : Int))) with hb5 | hb5
     ·have hr9 := cond_t hb5 hr8
      have hf21 := Fr.conv hf20 (congrArg (fun z => ([(1, pB b1 0), (3, vI y1), (4, pB b2 0), (16, .slice o_x0 x0.length c_x0), (17, vI (x0.length : Int)), (18, vI y1), (26, .bool z)] : FL)) hb5)
      refine p_qtE [] [(1, pB b1 0), (16, .slice o_x0 x0.length c_x0), (17, vI (x0.length : Int)), (18, vI y1), (27, undef), (28, undef), (29, undef), (32, undef), (33, undef), (34, undef), (35, undef), (36, undef), (37, undef), (38, undef), (39, undef), (40, undef), (41, undef), (42, undef), (43, undef), (44, undef), (45, undef), (48, undef), (49, undef), (50, undef), (53, undef), (54, undef), (55, undef), (56, undef), (57, undef), (60, undef), (61, undef), (62, undef), (63, .bool true)] [] [] hf21 (by kernel_rfl) .nil .nil fun a16 hf22 => ?_
      have hf23 := Fr.keep (ks := [1, 16, 17, 18, 63]) (r := [(1, pB b1 0), (16, .slice o_x0 x0.length c_x0), (17, vI (x0.length : Int)), (18, vI y1), (63, .bool true)]) hf22 (by kernel_rfl)
      exact ⟨z2, true, (Zone.le_refl _), hf23, hS6, hr9⟩
     ·have hr10 := cond_f hb5 hr8
      have hf24 := Fr.conv hf20 (congrArg (fun z => ([(1, pB b1 0), (3, vI y1), (4, pB b2 0), (16, .slice o_x0 x0.length c_x0), (17, vI (x0.length : Int)), (18, vI y1), (26, .bool z)] : FL)) hb5)
      refine p_qE 5 [vI p1.x] [(1, pB b1 0), (3, vI y1), (4, pB b2 0), (16, .slice o_x0 x0.length c_x0), (17, vI (x0.length : Int)), (18, vI y1), (27, pB b2 0), (28, vI p1.x), (29, .bool (decide (p1.x > (1000000 : Int)))), (31, .bool (decide (p1.x > (1000000 : Int))))] [.cell ⟨b2, 0, none⟩ (vI p1.x)] [] hf24 (by kernel_rfl) (.cell (hS6.box (i := 0) rfl (j := 0) rfl) .nil) .nil fun a17 hf25 => ?_
      rcases Bool.eq_false_or_eq_true (decide (p1.x > (1000000 : Int))) with hb6 | hb6
      ·have hr11 := cond_t hb6 hr10
       have hf26 := Fr.conv hf25 (congrArg (fun z => ([(1, pB b1 0), (3, vI y1), (4, pB b2 0), (16, .slice o_x0 x0.length c_x0), (17, vI (x0.length : Int)), (18, vI y1), (27, pB b2 0), (28, vI p1.x), (29, .bool (decide (p1.x > (1000000 : Int)))), (31, .bool z)] : FL)) hb6)
       refine p_qtE [] [(1, pB b1 0), (16, .slice o_x0 x0.length c_x0), (17, vI (x0.length : Int)), (18, vI y1), (27, pB b2 0), (28, vI p1.x), (29, .bool (decide (p1.x > (1000000 : Int)))), (32, undef), (33, undef), (34, undef), (35, undef), (36, undef), (37, undef), (38, undef), (39, undef), (40, undef), (41, undef), (42, undef), (43, undef), (44, undef), (45, undef), (48, undef), (49, undef), (50, undef), (53, undef), (54, undef), (55, undef), (56, undef), (57, undef), (60, undef), (61, undef), (62, undef), (63, .bool true)] [] [] hf26 (by kernel_rfl) .nil .nil fun a18 hf27 => ?_
       have hf28 := Fr.keep (ks := [1, 16, 17, 18, 63]) (r := [(1, pB b1 0), (16, .slice o_x0 x0.length c_x0), (17, vI (x0.length : Int)), (18, vI y1), (63, .bool true)]) hf27 (by kernel_rfl)
       exact ⟨z2, true, (Zone.le_refl _), hf28, hS6, hr11⟩
      ·have hr12 := cond_f hb6 hr10
       have hf29 := Fr.conv hf25 (congrArg (fun z => ([(1, pB b1 0), (3, vI y1), (4, pB b2 0), (16, .slice o_x0 x0.length c_x0), (17, vI (x0.length : Int)), (18, vI y1), (27, pB b2 0), (28, vI p1.x), (29, .bool (decide (p1.x > (1000000 : Int)))), (31, .bool z)] : FL)) hb6)
       refine p_qE 3 [] [(1, pB b1 0), (3, vI y1), (4, pB b2 0), (16, .slice o_x0 x0.length c_x0), (17, vI (x0.length : Int)), (18, vI y1), (27, pB b2 0), (28, vI p1.x), (29, .bool (decide (p1.x > (1000000 : Int)))), (31, .bool false), (32, vI y1), (33, .bool (decide (y1 > (0 : Int)))), (34, .bool (decide (y1 > (0 : Int))))] [] [] hf29 (by kernel_rfl) .nil .nil fun a19 hf30 => ?_
       rcases Bool.eq_false_or_eq_true (decide (y1 > (0 : Int))) with hb7 | hb7
       ·have hr13 := cond_t hb7 hr12
        have hf31 := Fr.conv hf30 (congrArg (fun z => ([(1, pB b1 0), (3, vI y1), (4, pB b2 0), (16, .slice o_x0 x0.length c_x0), (17, vI (x0.length : Int)), (18, vI y1), (27, pB b2 0), (28, vI p1.x), (29, .bool (decide (p1.x > (1000000 : Int)))), (31, .bool false), (32, vI y1), (33, .bool (decide (y1 > (0 : Int)))), (34, .bool z)] : FL)) hb7)
        obtain ⟨p2, hp2672, hr14⟩ := bind_some hr13
        obtain ⟨ad2, ho2, hb8, cc2, hc2, hk2⟩ := SliceR.getI (SliceR.mono (Zone.le_trans k2 k3) hx_x0) hp2672
        subst hc2
        refine p_qE 13 [.slice o_x0 x0.length c_x0, .pointer (some ad2), vI p2.x, vI p1.x] [(1, pB b1 0), (4, pB b2 0), (16, .slice o_x0 x0.length c_x0), (17, vI (x0.length : Int)), (18, vI y1), (27, pB b2 0), (28, vI p1.x), (29, .bool (decide (p1.x > (1000000 : Int)))), (32, vI y1), (33, .bool (decide (y1 > (0 : Int)))), (34, .bool true), (35, pB b1 0), (36, .slice o_x0 x0.length c_x0), (37, vI y1), (38, vI (w64 (y1 - (1 : Int)))), (39, .pointer (some (ad2.add (Int.toNat (w64 (y1 - (1 : Int))) * 3)))), (40, .pointer (some (ad2.add (Int.toNat (w64 (y1 - (1 : Int))) * 3)))), (41, vI p2.x), (42, pB b2 0), (43, vI p1.x), (44, .bool (decide (p2.x ≥ p1.x))), (45, .bool (decide (p2.x ≥ p1.x))), (47, .bool (decide (p2.x ≥ p1.x)))] [.cell ⟨b1, 0, none⟩ (.slice o_x0 x0.length c_x0), .prop (o_x0 = some ad2), .prop (0 ≤ (w64 (y1 - (1 : Int))) ∧ (w64 (y1 - (1 : Int))) < (x0.length : Nat)), .cell ((ad2.add (Int.toNat (w64 (y1 - (1 : Int))) * 3)).add 0) (vI p2.x), .cell ⟨b2, 0, none⟩ (vI p1.x)] [] hf31 (by kernel_rfl) (.cell (hS6.box (i := 1) rfl (j := 0) rfl) (.prop ho2 (.prop hb8 (.cell (hS6.cell (hk2 0 _ rfl)) (.cell (hS6.box (i := 0) rfl (j := 0) rfl) .nil))))) .nil fun a20 hf32 => ?_
        rcases Bool.eq_false_or_eq_true (decide (p2.x ≥ p1.x)) with hb9 | hb9
        ·have hr15 := cond_t hb9 hr14
         have hf33 := Fr.conv hf32 (congrArg (fun z => ([(1, pB b1 0), (4, pB b2 0), (16, .slice o_x0 x0.length c_x0), (17, vI (x0.length : Int)), (18, vI y1), (27, pB b2 0), (28, vI p1.x), (29, .bool (decide (p1.x > (1000000 : Int)))), (32, vI y1), (33, .bool (decide (y1 > (0 : Int)))), (34, .bool true), (35, pB b1 0), (36, .slice o_x0 x0.length c_x0), (37, vI y1), (38, vI (w64 (y1 - (1 : Int)))), (39, .pointer (some (ad2.add (Int.toNat (w64 (y1 - (1 : Int))) * 3)))), (40, .pointer (some (ad2.add (Int.toNat (w64 (y1 - (1 : Int))) * 3)))), (41, vI p2.x), (42, pB b2 0), (43, vI p1.x), (44, .bool (decide (p2.x ≥ p1.x))), (45, .bool (decide (p2.x ≥ p1.x))), (47, .bool z)] : FL)) hb9)
         refine p_qtE [] [(1, pB b1 0), (16, .slice o_x0 x0.length c_x0), (17, vI (x0.length : Int)), (18, vI y1), (27, pB b2 0), (28, vI p1.x), (29, .bool (decide (p1.x > (1000000 : Int)))), (32, vI y1), (33, .bool (decide (y1 > (0 : Int)))), (34, .bool true), (35, pB b1 0), (36, .slice o_x0 x0.length c_x0), (37, vI y1), (38, vI (w64 (y1 - (1 : Int)))), (39, .pointer (some (ad2.add (Int.toNat (w64 (y1 - (1 : Int))) * 3)))), (40, .pointer (some (ad2.add (Int.toNat (w64 (y1 - (1 : Int))) * 3)))), (41, vI p2.x), (42, pB b2 0), (43, vI p1.x), (44, .bool (decide (p2.x ≥ p1.x))), (45, .bool (decide (p2.x ≥ p1.x))), (48, undef), (49, undef), (50, undef), (53, undef), (54, undef), (55, undef), (56, undef), (57, undef), (60, undef), (61, undef), (62, undef), (63, .bool true)] [] [] hf33 (by kernel_rfl) .nil .nil fun a21 hf34 => ?_
         have hf35 := Fr.keep (ks := [1, 16, 17, 18, 63]) (r := [(1, pB b1 0), (16, .slice o_x0 x0.length c_x0), (17, vI (x0.length : Int)), (18, vI y1), (63, .bool true)]) hf34 (by kernel_rfl)
         exact ⟨z2, true, (Zone.le_refl _), hf35, hS6, hr15⟩
        ·have hr16 := cond_f hb9 hr14
         have hf36 := Fr.conv hf32 (congrArg (fun z => ([(1, pB b1 0), (4, pB b2 0), (16, .slice o_x0 x0.length c_x0), (17, vI (x0.length : Int)), (18, vI y1), (27, pB b2 0), (28, vI p1.x), (29, .bool (decide (p1.x > (1000000 : Int)))), (32, vI y1), (33, .bool (decide (y1 > (0 : Int)))), (34, .bool true), (35, pB b1 0), (36, .slice o_x0 x0.length c_x0), (37, vI y1), (38, vI (w64 (y1 - (1 : Int)))), (39, .pointer (some (ad2.add (Int.toNat (w64 (y1 - (1 : Int))) * 3)))), (40, .pointer (some (ad2.add (Int.toNat (w64 (y1 - (1 : Int))) * 3)))), (41, vI p2.x), (42, pB b2 0), (43, vI p1.x), (44, .bool (decide (p2.x ≥ p1.x))), (45, .bool (decide (p2.x ≥ p1.x))), (47, .bool z)] : FL)) hb9)
         refine p_qE 5 [vI p1.lo] [(1, pB b1 0), (4, pB b2 0), (16, .slice o_x0 x0.length c_x0), (17, vI (x0.length : Int)), (18, vI y1), (27, pB b2 0), (28, vI p1.x), (29, .bool (decide (p1.x > (1000000 : Int)))), (32, vI y1), (33, .bool (decide (y1 > (0 : Int)))), (34, .bool true), (35, pB b1 0), (36, .slice o_x0 x0.length c_x0), (37, vI y1), (38, vI (w64 (y1 - (1 : Int)))), (39, .pointer (some (ad2.add (Int.toNat (w64 (y1 - (1 : Int))) * 3)))), (40, .pointer (some (ad2.add (Int.toNat (w64 (y1 - (1 : Int))) * 3)))), (41, vI p2.x), (42, pB b2 0), (43, vI p1.x), (44, .bool (decide (p2.x ≥ p1.x))), (45, .bool (decide (p2.x ≥ p1.x))), (48, pB b2 1), (49, vI p1.lo), (50, .bool (decide (p1.lo < (-1000000000 : Int)))), (52, .bool (decide (p1.lo < (-1000000000 : Int))))] [.cell ⟨b2, 1, none⟩ (vI p1.lo)] [] hf36 (by kernel_rfl) (.cell (hS6.box (i := 0) rfl (j := 1) rfl) .nil) .nil fun a22 hf37 => ?_
         rcases Bool.eq_false_or_eq_true (decide (p1.lo < (-1000000000 : Int))) with hb10 | hb10
         ·have hr17 := cond_t hb10 hr16
          have hf38 := Fr.conv hf37 (congrArg (fun z => ([(1, pB b1 0), (4, pB b2 0), (16, .slice o_x0 x0.length c_x0), (17, vI (x0.length : Int)), (18, vI y1), (27, pB b2 0), (28, vI p1.x), (29, .bool (decide (p1.x > (1000000 : Int)))), (32, vI y1), (33, .bool (decide (y1 > (0 : Int)))), (34, .bool true), (35, pB b1 0), (36, .slice o_x0 x0.length c_x0), (37, vI y1), (38, vI (w64 (y1 - (1 : Int)))), (39, .pointer (some (ad2.add (Int.toNat (w64 (y1 - (1 : Int))) * 3)))), (40, .pointer (some (ad2.add (Int.toNat (w64 (y1 - (1 : Int))) * 3)))), (41, vI p2.x), (42, pB b2 0), (43, vI p1.x), (44, .bool (decide (p2.x ≥ p1.x))), (45, .bool (decide (p2.x ≥ p1.x))), (48, pB b2 1), (49, vI p1.lo), (50, .bool (decide (p1.lo < (-1000000000 : Int)))), (52, .bool z)] : FL)) hb10)
          refine p_qtE [] [(1, pB b1 0), (16, .slice o_x0 x0.length c_x0), (17, vI (x0.length : Int)), (18, vI y1), (27, pB b2 0), (28, vI p1.x), (29, .bool (decide (p1.x > (1000000 : Int)))), (32, vI y1), (33, .bool (decide (y1 > (0 : Int)))), (34, .bool true), (35, pB b1 0), (36, .slice o_x0 x0.length c_x0), (37, vI y1), (38, vI (w64 (y1 - (1 : Int)))), (39, .pointer (some (ad2.add (Int.toNat (w64 (y1 - (1 : Int))) * 3)))), (40, .pointer (some (ad2.add (Int.toNat (w64 (y1 - (1 : Int))) * 3)))), (41, vI p2.x), (42, pB b2 0), (43, vI p1.x), (44, .bool (decide (p2.x ≥ p1.x))), (45, .bool (decide (p2.x ≥ p1.x))), (48, pB b2 1), (49, vI p1.lo), (50, .bool (decide (p1.lo < (-1000000000 : Int)))), (53, undef), (54, undef), (55, undef), (56, undef), (57, undef), (60, undef), (61, undef), (62, undef), (63, .bool true)] [] [] hf38 (by kernel_rfl) .nil .nil fun a23 hf39 => ?_
          have hf40 := Fr.keep (ks := [1, 16, 17, 18, 63]) (r := [(1, pB b1 0), (16, .slice o_x0 x0.length c_x0), (17, vI (x0.length : Int)), (18, vI y1), (63, .bool true)]) hf39 (by kernel_rfl)
          exact ⟨z2, true, (Zone.le_refl _), hf40, hS6, hr17⟩
         ·have hr18 := cond_f hb10 hr16
          have hf41 := Fr.conv hf37 (congrArg (fun z => ([(1, pB b1 0), (4, pB b2 0), (16, .slice o_x0 x0.length c_x0), (17, vI (x0.length : Int)), (18, vI y1), (27, pB b2 0), (28, vI p1.x), (29, .bool (decide (p1.x > (1000000 : Int)))), (32, vI y1), (33, .bool (decide (y1 > (0 : Int)))), (34, .bool true), (35, pB b1 0), (36, .slice o_x0 x0.length c_x0), (37, vI y1), (38, vI (w64 (y1 - (1 : Int)))), (39, .pointer (some (ad2.add (Int.toNat (w64 (y1 - (1 : Int))) * 3)))), (40, .pointer (some (ad2.add (Int.toNat (w64 (y1 - (1 : Int))) * 3)))), (41, vI p2.x), (42, pB b2 0), (43, vI p1.x), (44, .bool (decide (p2.x ≥ p1.x))), (45, .bool (decide (p2.x ≥ p1.x))), (48, pB b2 1), (49, vI p1.lo), (50, .bool (decide (p1.lo < (-1000000000 : Int)))), (52, .bool z)] : FL)) hb10)
          refine p_qE 7 [vI p1.lo, vI p1.hi] [(1, pB b1 0), (4, pB b2 0), (16, .slice o_x0 x0.length c_x0), (17, vI (x0.length : Int)), (18, vI y1), (27, pB b2 0), (28, vI p1.x), (29, .bool (decide (p1.x > (1000000 : Int)))), (32, vI y1), (33, .bool (decide (y1 > (0 : Int)))), (34, .bool true), (35, pB b1 0), (36, .slice o_x0 x0.length c_x0), (37, vI y1), (38, vI (w64 (y1 - (1 : Int)))), (39, .pointer (some (ad2.add (Int.toNat (w64 (y1 - (1 : Int))) * 3)))), (40, .pointer (some (ad2.add (Int.toNat (w64 (y1 - (1 : Int))) * 3)))), (41, vI p2.x), (42, pB b2 0), (43, vI p1.x), (44, .bool (decide (p2.x ≥ p1.x))), (45, .bool (decide (p2.x ≥ p1.x))), (48, pB b2 1), (49, vI p1.lo), (50, .bool (decide (p1.lo < (-1000000000 : Int)))), (53, pB b2 1), (54, vI p1.lo), (55, pB b2 2), (56, vI p1.hi), (57, .bool (decide (p1.lo > p1.hi))), (59, .bool (decide (p1.lo > p1.hi)))] [.cell ⟨b2, 1, none⟩ (vI p1.lo), .cell ⟨b2, 2, none⟩ (vI p1.hi)] [] hf41 (by kernel_rfl) (.cell (hS6.box (i := 0) rfl (j := 1) rfl) (.cell (hS6.box (i := 0) rfl (j := 2) rfl) .nil)) .nil fun a24 hf42 => ?_
          rcases Bool.eq_false_or_eq_true (decide (p1.lo > p1.hi)) with hb11 | hb11
          ·have hr19 := cond_t hb11 hr18
           have hf43 := Fr.conv hf42 (congrArg (fun z => ([(1, pB b1 0), (4, pB b2 0), (16, .slice o_x0 x0.length c_x0), (17, vI (x0.length : Int)), (18, vI y1), (27, pB b2 0), (28, vI p1.x), (29, .bool (decide (p1.x > (1000000 : Int)))), (32, vI y1), (33, .bool (decide (y1 > (0 : Int)))), (34, .bool true), (35, pB b1 0), (36, .slice o_x0 x0.length c_x0), (37, vI y1), (38, vI (w64 (y1 - (1 : Int)))), (39, .pointer (some (ad2.add (Int.toNat (w64 (y1 - (1 : Int))) * 3)))), (40, .pointer (some (ad2.add (Int.toNat (w64 (y1 - (1 : Int))) * 3)))), (41, vI p2.x), (42, pB b2 0), (43, vI p1.x), (44, .bool (decide (p2.x ≥ p1.x))), (45, .bool (decide (p2.x ≥ p1.x))), (48, pB b2 1), (49, vI p1.lo), (50, .bool (decide (p1.lo < (-1000000000 : Int)))), (53, pB b2 1), (54, vI p1.lo), (55, pB b2 2), (56, vI p1.hi), (57, .bool (decide (p1.lo > p1.hi))), (59, .bool z)] : FL)) hb11)
           refine p_qtE [] [(1, pB b1 0), (16, .slice o_x0 x0.length c_x0), (17, vI (x0.length : Int)), (18, vI y1), (27, pB b2 0), (28, vI p1.x), (29, .bool (decide (p1.x > (1000000 : Int)))), (32, vI y1), (33, .bool (decide (y1 > (0 : Int)))), (34, .bool true), (35, pB b1 0), (36, .slice o_x0 x0.length c_x0), (37, vI y1), (38, vI (w64 (y1 - (1 : Int)))), (39, .pointer (some (ad2.add (Int.toNat (w64 (y1 - (1 : Int))) * 3)))), (40, .pointer (some (ad2.add (Int.toNat (w64 (y1 - (1 : Int))) * 3)))), (41, vI p2.x), (42, pB b2 0), (43, vI p1.x), (44, .bool (decide (p2.x ≥ p1.x))), (45, .bool (decide (p2.x ≥ p1.x))), (48, pB b2 1), (49, vI p1.lo), (50, .bool (decide (p1.lo < (-1000000000 : Int)))), (53, pB b2 1), (54, vI p1.lo), (55, pB b2 2), (56, vI p1.hi), (57, .bool (decide (p1.lo > p1.hi))), (60, undef), (61, undef), (62, undef), (63, .bool true)] [] [] hf43 (by kernel_rfl) .nil .nil fun a25 hf44 => ?_
           have hf45 := Fr.keep (ks := [1, 16, 17, 18, 63]) (r := [(1, pB b1 0), (16, .slice o_x0 x0.length c_x0), (17, vI (x0.length : Int)), (18, vI y1), (63, .bool true)]) hf44 (by kernel_rfl)
           exact ⟨z2, true, (Zone.le_refl _), hf45, hS6, hr19⟩
          ·have hr20 := cond_f hb11 hr18
           have hf46 := Fr.conv hf42 (congrArg (fun z => ([(1, pB b1 0), (4, pB b2 0), (16, .slice o_x0 x0.length c_x0), (17, vI (x0.length : Int)), (18, vI y1), (27, pB b2 0), (28, vI p1.x), (29, .bool (decide (p1.x > (1000000 : Int)))), (32, vI y1), (33, .bool (decide (y1 > (0 : Int)))), (34, .bool true), (35, pB b1 0), (36, .slice o_x0 x0.length c_x0), (37, vI y1), (38, vI (w64 (y1 - (1 : Int)))), (39, .pointer (some (ad2.add (Int.toNat (w64 (y1 - (1 : Int))) * 3)))), (40, .pointer (some (ad2.add (Int.toNat (w64 (y1 - (1 : Int))) * 3)))), (41, vI p2.x), (42, pB b2 0), (43, vI p1.x), (44, .bool (decide (p2.x ≥ p1.x))), (45, .bool (decide (p2.x ≥ p1.x))), (48, pB b2 1), (49, vI p1.lo), (50, .bool (decide (p1.lo < (-1000000000 : Int)))), (53, pB b2 1), (54, vI p1.lo), (55, pB b2 2), (56, vI p1.hi), (57, .bool (decide (p1.lo > p1.hi))), (59, .bool z)] : FL)) hb11)
           refine p_qtE [vI p1.hi] [(1, pB b1 0), (16, .slice o_x0 x0.length c_x0), (17, vI (x0.length : Int)), (18, vI y1), (27, pB b2 0), (28, vI p1.x), (29, .bool (decide (p1.x > (1000000 : Int)))), (32, vI y1), (33, .bool (decide (y1 > (0 : Int)))), (34, .bool true), (35, pB b1 0), (36, .slice o_x0 x0.length c_x0), (37, vI y1), (38, vI (w64 (y1 - (1 : Int)))), (39, .pointer (some (ad2.add (Int.toNat (w64 (y1 - (1 : Int))) * 3)))), (40, .pointer (some (ad2.add (Int.toNat (w64 (y1 - (1 : Int))) * 3)))), (41, vI p2.x), (42, pB b2 0), (43, vI p1.x), (44, .bool (decide (p2.x ≥ p1.x))), (45, .bool (decide (p2.x ≥ p1.x))), (48, pB b2 1), (49, vI p1.lo), (50, .bool (decide (p1.lo < (-1000000000 : Int)))), (53, pB b2 1), (54, vI p1.lo), (55, pB b2 2), (56, vI p1.hi), (57, .bool (decide (p1.lo > p1.hi))), (60, pB b2 2), (61, vI p1.hi), (62, .bool (decide (p1.hi > (1000000000 : Int)))), (63, .bool (decide (p1.hi > (1000000000 : Int))))] [.cell ⟨b2, 2, none⟩ (vI p1.hi)] [] hf46 (by kernel_rfl) (.cell (hS6.box (i := 0) rfl (j := 2) rfl) .nil) .nil fun a26 hf47 => ?_
           have hf48 := Fr.keep (ks := [1, 16, 17, 18, 63]) (r := [(1, pB b1 0), (16, .slice o_x0 x0.length c_x0), (17, vI (x0.length : Int)), (18, vI y1), (63, .bool (decide (p1.hi > (1000000000 : Int))))]) hf47 (by kernel_rfl)
           exact ⟨z2, (decide (p1.hi > (1000000000 : Int))), (Zone.le_refl _), hf48, hS6, hr20⟩
       ·have hr21 := cond_f hb7 hr12
        have hf49 := Fr.conv hf30 (congrArg (fun z => ([(1, pB b1 0), (3, vI y1), (4, pB b2 0), (16, .slice o_x0 x0.length c_x0), (17, vI (x0.length : Int)), (18, vI y1), (27, pB b2 0), (28, vI p1.x), (29, .bool (decide (p1.x > (1000000 : Int)))), (31, .bool false), (32, vI y1), (33, .bool (decide (y1 > (0 : Int)))), (34, .bool z)] : FL)) hb7)
        refine p_qE 18 [vI p1.lo] [(1, pB b1 0), (4, pB b2 0), (16, .slice o_x0 x0.length c_x0), (17, vI (x0.length : Int)), (18, vI y1), (27, pB b2 0), (28, vI p1.x), (29, .bool (decide (p1.x > (1000000 : Int)))), (32, vI y1), (33, .bool (decide (y1 > (0 : Int)))), (34, .bool false), (35, undef), (36, undef), (37, undef), (38, undef), (39, undef), (40, undef), (41, undef), (42, undef), (43, undef), (44, undef), (45, .bool false), (48, pB b2 1), (49, vI p1.lo), (50, .bool (decide (p1.lo < (-1000000000 : Int)))), (52, .bool (decide (p1.lo < (-1000000000 : Int))))] [.cell ⟨b2, 1, none⟩ (vI p1.lo)] [] hf49 (by kernel_rfl) (.cell (hS6.box (i := 0) rfl (j := 1) rfl) .nil) .nil fun a27 hf50 => ?_
        rcases Bool.eq_false_or_eq_true (decide (p1.lo < (-1000000000 : Int))) with hb12 | hb12
        ·have hr22 := cond_t hb12 hr21
         have hf51 := Fr.conv hf50 (congrArg (fun z => ([(1, pB b1 0), (4, pB b2 0), (16, .slice o_x0 x0.length c_x0), (17, vI (x0.length : Int)), (18, vI y1), (27, pB b2 0), (28, vI p1.x), (29, .bool (decide (p1.x > (1000000 : Int)))), (32, vI y1), (33, .bool (decide (y1 > (0 : Int)))), (34, .bool false), (35, undef), (36, undef), (37, undef), (38, undef), (39, undef), (40, undef), (41, undef), (42, undef), (43, undef), (44, undef), (45, .bool false), (48, pB b2 1), (49, vI p1.lo), (50, .bool (decide (p1.lo < (-1000000000 : Int)))), (52, .bool z)] : FL)) hb12)
         refine p_qtE [] [(1, pB b1 0), (16, .slice o_x0 x0.length c_x0), (17, vI (x0.length : Int)), (18, vI y1), (27, pB b2 0), (28, vI p1.x), (29, .bool (decide (p1.x > (1000000 : Int)))), (32, vI y1), (33, .bool (decide (y1 > (0 : Int)))), (34, .bool false), (35, undef), (36, undef), (37, undef), (38, undef), (39, undef), (40, undef), (41, undef), (42, undef), (43, undef), (44, undef), (45, .bool false), (48, pB b2 1), (49, vI p1.lo), (50, .bool (decide (p1.lo < (-1000000000 : Int)))), (53, undef), (54, undef), (55, undef), (56, undef), (57, undef), (60, undef), (61, undef), (62, undef), (63, .bool true)] [] [] hf51 (by kernel_rfl) .nil .nil fun a28 hf52 => ?_
         have hf53 := Fr.keep (ks := [1, 16, 17, 18, 63]) (r := [(1, pB b1 0), (16, .slice o_x0 x0.length c_x0), (17, vI (x0.length : Int)), (18, vI y1), (63, .bool true)]) hf52 (by kernel_rfl)
         exact ⟨z2, true, (Zone.le_refl _), hf53, hS6, hr22⟩
        ·have hr23 := cond_f hb12 hr21
         have hf54 := Fr.conv hf50 (congrArg (fun z => ([(1, pB b1 0), (4, pB b2 0), (16, .slice o_x0 x0.length c_x0), (17, vI (x0.length : Int)), (18, vI y1), (27, pB b2 0), (28, vI p1.x), (29, .bool (decide (p1.x > (1000000 : Int)))), (32, vI y1), (33, .bool (decide (y1 > (0 : Int)))), (34, .bool false), (35, undef), (36, undef), (37, undef), (38, undef), (39, undef), (40, undef), (41, undef), (42, undef), (43, undef), (44, undef), (45, .bool false), (48, pB b2 1), (49, vI p1.lo), (50, .bool (decide (p1.lo < (-1000000000 : Int)))), (52, .bool z)] : FL)) hb12)
         refine p_qE 7 [vI p1.lo, vI p1.hi] [(1, pB b1 0), (4, pB b2 0), (16, .slice o_x0 x0.length c_x0), (17, vI (x0.length : Int)), (18, vI y1), (27, pB b2 0), (28, vI p1.x), (29, .bool (decide (p1.x > (1000000 : Int)))), (32, vI y1), (33, .bool (decide (y1 > (0 : Int)))), (34, .bool false), (35, undef), (36, undef), (37, undef), (38, undef), (39, undef), (40, undef), (41, undef), (42, undef), (43, undef), (44, undef), (45, .bool false), (48, pB b2 1), (49, vI p1.lo), (50, .bool (decide (p1.lo < (-1000000000 : Int)))), (53, pB b2 1), (54, vI p1.lo), (55, pB b2 2), (56, vI p1.hi), (57, .bool (decide (p1.lo > p1.hi))), (59, .bool (decide (p1.lo > p1.hi)))] [.cell ⟨b2, 1, none⟩ (vI p1.lo), .cell ⟨b2, 2, none⟩ (vI p1.hi)] [] hf54 (by kernel_rfl) (.cell (hS6.box (i := 0) rfl (j := 1) rfl) (.cell (hS6.box (i := 0) rfl (j := 2) rfl) .nil)) .nil fun a29 hf55 => ?_
         rcases Bool.eq_false_or_eq_true (decide (p1.lo > p1.hi)) with hb13 | hb13
         ·have hr24 := cond_t hb13 hr23
          have hf56 := Fr.conv hf55 (congrArg (fun z => ([(1, pB b1 0), (4, pB b2 0), (16, .slice o_x0 x0.length c_x0), (17, vI (x0.length : Int)), (18, vI y1), (27, pB b2 0), (28, vI p1.x), (29, .bool (decide (p1.x > (1000000 : Int)))), (32, vI y1), (33, .bool (decide (y1 > (0 : Int)))), (34, .bool false), (35, undef), (36, undef), (37, undef), (38, undef), (39, undef), (40, undef), (41, undef), (42, undef), (43, undef), (44, undef), (45, .bool false), (48, pB b2 1), (49, vI p1.lo), (50, .bool (decide (p1.lo < (-1000000000 : Int)))), (53, pB b2 1), (54, vI p1.lo), (55, pB b2 2), (56, vI p1.hi), (57, .bool (decide (p1.lo > p1.hi))), (59, .bool z)] : FL)) hb13)
          refine p_qtE [] [(1, pB b1 0), (16, .slice o_x0 x0.length c_x0), (17, vI (x0.length : Int)), (18, vI y1), (27, pB b2 0), (28, vI p1.x), (29, .bool (decide (p1.x > (1000000 : Int)))), (32, vI y1), (33, .bool (decide (y1 > (0 : Int)))), (34, .bool false), (35, undef), (36, undef), (37, undef), (38, undef), (39, undef), (40, undef), (41, undef), (42, undef), (43, undef), (44, undef), (45, .bool false), (48, pB b2 1), (49, vI p1.lo), (50, .bool (decide (p1.lo < (-1000000000 : Int)))), (53, pB b2 1), (54, vI p1.lo), (55, pB b2 2), (56, vI p1.hi), (57, .bool (decide (p1.lo > p1.hi))), (60, undef), (61, undef), (62, undef), (63, .bool true)] [] [] hf56 (by kernel_rfl) .nil .nil fun a30 hf57 => ?_
          have hf58 := Fr.keep (ks := [1, 16, 17, 18, 63]) (r := [(1, pB b1 0), (16, .slice o_x0 x0.length c_x0), (17, vI (x0.length : Int)), (18, vI y1), (63, .bool true)]) hf57 (by kernel_rfl)
          exact ⟨z2, true, (Zone.le_refl _), hf58, hS6, hr24⟩
         ·have hr25 := cond_f hb13 hr23
          have hf59 := Fr.conv hf55 (congrArg (fun z => ([(1, pB b1 0), (4, pB b2 0), (16, .slice o_x0 x0.length c_x0), (17, vI (x0.length : Int)), (18, vI y1), (27, pB b2 0), (28, vI p1.x), (29, .bool (decide (p1.x > (1000000 : Int)))), (32, vI y1), (33, .bool (decide (y1 > (0 : Int)))), (34, .bool false), (35, undef), (36, undef), (37, undef), (38, undef), (39, undef), (40, undef), (41, undef), (42, undef), (43, undef), (44, undef), (45, .bool false), (48, pB b2 1), (49, vI p1.lo), (50, .bool (decide (p1.lo < (-1000000000 : Int)))), (53, pB b2 1), (54, vI p1.lo), (55, pB b2 2), (56, vI p1.hi), (57, .bool (decide (p1.lo > p1.hi))), (59, .bool z)] : FL)) hb13)
          refine p_qtE [vI p1.hi] [(1, pB b1 0), (16, .slice o_x0 x0.length c_x0), (17, vI (x0.length : Int)), (18, vI y1), (27, pB b2 0), (28, vI p1.x), (29, .bool (decide (p1.x > (1000000 : Int)))), (32, vI y1), (33, .bool (decide (y1 > (0 : Int)))), (34, .bool false), (35, undef), (36, undef), (37, undef), (38, undef), (39, undef), (40, undef), (41, undef), (42, undef), (43, undef), (44, undef), (45, .bool false), (48, pB b2 1), (49, vI p1.lo), (50, .bool (decide (p1.lo < (-1000000000 : Int)))), (53, pB b2 1), (54, vI p1.lo), (55, pB b2 2), (56, vI p1.hi), (57, .bool (decide (p1.lo > p1.hi))), (60, pB b2 2), (61, vI p1.hi), (62, .bool (decide (p1.hi > (1000000000 : Int)))), (63, .bool (decide (p1.hi > (1000000000 : Int))))] [.cell ⟨b2, 2, none⟩ (vI p1.hi)] [] hf59 (by kernel_rfl) (.cell (hS6.box (i := 0) rfl (j := 2) rfl) .nil) .nil fun a31 hf60 => ?_
          have hf61 := Fr.keep (ks := [1, 16, 17, 18, 63]) (r := [(1, pB b1 0), (16, .slice o_x0 x0.length c_x0), (17, vI (x0.length : Int)), (18, vI y1), (63, .bool (decide (p1.hi > (1000000000 : Int))))]) hf60 (by kernel_rfl)
          exact ⟨z2, (decide (p1.hi > (1000000000 : Int))), (Zone.le_refl _), hf61, hS6, hr25⟩
    ·rintro a32 ww6 ⟨z3, y2, k4, hf62, hS7, hr26⟩
     refine w_if hf62 (b := y2) (by kernel_rfl) (fun hb14 => ?_) (fun hb14 => ?_)
     ·have hr27 := cond_t hb14 hr26
      refine w_sq [] [(2, .bool false)] [] hf62 (by kernel_rfl) .nil fun a33 hf63 => ?_
      refine w_ret (by kernel_rfl) ?_
      refine r_block ?_
      refine r_then ?_
      refine r_then ?_
      refine r_block ?_
      refine r_then ?_
      refine p_ret (os := []) (v := .bool false) (obs := []) hf63 (by kernel_rfl) .nil ?_
      obtain rfl := some_eq hr27
      exact ⟨_, rfl, z3, (Zone.le_trans (Zone.le_trans k2 k3) k4), rfl, (St.drop 2 hS7)⟩
     ·have hr28 := cond_f hb14 hr26
      refine w_skip (by kernel_rfl) ?_
      refine n_block ?_
      refine n_then ?_
      refine w_q [] [(1, pB b1 0), (16, .slice o_x0 x0.length c_x0), (17, vI (x0.length : Int)), (18, vI (w64 (y1 + (1 : Int))))] [] hf62 (by kernel_rfl) .nil fun a34 hf64 => ?_
      refine n_then ?_
      have hf65 := Fr.keep (ks := [1, 16, 17, 18]) (r := [(1, pB b1 0), (16, .slice o_x0 x0.length c_x0), (17, vI (x0.length : Int)), (18, vI (w64 (y1 + (1 : Int))))]) hf64 (by kernel_rfl)
      exact ⟨n1, Nat.lt_succ_self n1, z3, (w64 (y1 + (1 : Int))), (Zone.le_trans k3 k4), hf65, (St.drop 1 hS7), hr28⟩
   ·have hr29 := cond_f hb3 hr6
    refine w_exit (id := 0) (by kernel_rfl) ?_
    refine x_then ?_
    refine x_then ?_
    refine x_block ?_
    refine n_then ?_
    refine w_sq [] [(2, .bool true)] [] hf15 (by kernel_rfl) .nil fun a35 hf66 => ?_
    refine w_ret (by kernel_rfl) ?_
    refine p_ret (os := []) (v := .bool true) (obs := []) hf66 (by kernel_rfl) .nil ?_
    obtain rfl := some_eq hr29
    exact ⟨_, rfl, z2, (Zone.le_trans k2 k3), rfl, (St.drop 1 hS3)⟩
def F73 (fuel : Nat) (x0 : List Pt) : Option (Int) :=
  ((getI x0 0).bind fun p1 => (some (p1.x)))
set_option maxRecDepth 100000 in
theorem f73_ok (fuel : Nat) (x0 : List Pt) (r : Int) (hr : F73 fuel x0 = some r) (h : Zone) (L : List Atom) (w : World) (hS : St h L w) (o_x0 : Option Addr) (c_x0 : Nat) (hx_x0 : SliceR PtT h o_x0 c_x0 x0) :
    Calls Try.prog 73 #[.agg #[.slice o_x0 x0.length c_x0]] w fun e w' => ∃ v, e = .returned v ∧ (v = vI r ∧ St h L w') := by
 refine calls_intro (N := 8) Try.func73 (by kernel_rfl) fun a hf => ?_
 refine w_sr (by kernel_rfl) ?_
 refine p_box (i := 0) (d := (some 1)) (cs := [.slice o_x0 x0.length c_x0]) (T := 24) (v := fun b1 => pB b1 0) hS hf (fun b => by kernel_rfl) fun b1 ww1 a1 hS1 hf1 => ⟨fun _ => trivial, ?_⟩
 refine p_qt [] [(1, pB b1 0)] [] hf1 (by kernel_rfl) .nil fun a2 hf2 => ?_
 obtain ⟨p1, hp9, hr1⟩ := bind_some hr
 obtain ⟨ad1, ho1, hb1, cc1, hc1, hk1⟩ := SliceR.getI hx_x0 hp9
 subst hc1
 refine w_sq [.slice o_x0 x0.length c_x0, .pointer (some ad1), vI p1.x] [(2, vI p1.x)] [.cell ⟨b1, 0, none⟩ (.slice o_x0 x0.length c_x0), .prop (o_x0 = some ad1), .prop (0 ≤ (0 : Int) ∧ (0 : Int) < (x0.length : Nat)), .cell ((ad1.add (Int.toNat 0 * 3)).add 0) (vI p1.x)] hf2 (by kernel_rfl) (.cell (hS1.box (i := 0) rfl (j := 0) rfl) (.prop ho1 (.prop hb1 (.cell (hS1.cell (hk1 0 _ rfl)) .nil)))) fun a3 hf3 => ?_
 refine w_ret (by kernel_rfl) ?_
 refine p_ret (os := []) (v := vI p1.x) (obs := []) hf3 (by kernel_rfl) .nil ?_
 obtain rfl := some_eq hr1
 exact ⟨_, rfl, rfl, (St.drop 1 hS1)⟩
def F74 (fuel : Nat) (x0 : List Pt) : Option (Int) :=
  ((getI x0 (w64 ((x0.length : Int) - (1 : Int)))).bind fun p1 => (some (p1.x)))
set_option maxRecDepth 100000 in
theorem f74_ok (fuel : Nat) (x0 : List Pt) (r : Int) (hr : F74 fuel x0 = some r) (h : Zone) (L : List Atom) (w : World) (hS : St h L w) (o_x0 : Option Addr) (c_x0 : Nat) (hx_x0 : SliceR PtT h o_x0 c_x0 x0) :
    Calls Try.prog 74 #[.agg #[.slice o_x0 x0.length c_x0]] w fun e w' => ∃ v, e = .returned v ∧ (v = vI r ∧ St h L w') := by
 refine calls_intro (N := 12) Try.func74 (by kernel_rfl) fun a hf => ?_
 refine w_sr (by kernel_rfl) ?_
 refine p_box (i := 0) (d := (some 1)) (cs := [.slice o_x0 x0.length c_x0]) (T := 24) (v := fun b1 => pB b1 0) hS hf (fun b => by kernel_rfl) fun b1 ww1 a1 hS1 hf1 => ⟨fun _ => trivial, ?_⟩
 refine p_qt [] [(1, pB b1 0)] [] hf1 (by kernel_rfl) .nil fun a2 hf2 => ?_
 obtain ⟨p1, hp9, hr1⟩ := bind_some hr
 obtain ⟨ad1, ho1, hb1, cc1, hc1, hk1⟩ := SliceR.getI hx_x0 hp9
 subst hc1
 refine w_sq [.slice o_x0 x0.length c_x0, .slice o_x0 x0.length c_x0, .pointer (some ad1), vI p1.x] [(2, vI p1.x)] [.cell ⟨b1, 0, none⟩ (.slice o_x0 x0.length c_x0), .cell ⟨b1, 0, none⟩ (.slice o_x0 x0.length c_x0), .prop (o_x0 = some ad1), .prop (0 ≤ (w64 ((x0.length : Int) - (1 : Int))) ∧ (w64 ((x0.length : Int) - (1 : Int))) < (x0.length : Nat)), .cell ((ad1.add (Int.toNat (w64 ((x0.length : Int) - (1 : Int))) * 3)).add 0) (vI p1.x)] hf2 (by kernel_rfl) (.cell (hS1.box (i := 0) rfl (j := 0) rfl) (.cell (hS1.box (i := 0) rfl (j := 0) rfl) (.prop ho1 (.prop hb1 (.cell (hS1.cell (hk1 0 _ rfl)) .nil))))) fun a3 hf3 => ?_
 refine w_ret (by kernel_rfl) ?_
 refine p_ret (os := []) (v := vI p1.x) (obs := []) hf3 (by kernel_rfl) .nil ?_
 obtain rfl := some_eq hr1
 exact ⟨_, rfl, rfl, (St.drop 1 hS1)⟩
def F14 (fuel : Nat) (x0 : List Pt) (x1 : Int) : Option (Int) :=
  ((F73 fuel x0).bind fun r1 => ((F74 fuel x0).bind fun r2 => ((nz (w64 ((w64 (r2 - r1)) + (1 : Int)))).bind fun _ => ((nz (w64 ((w64 (r2 - r1)) + (1 : Int)))).bind fun _ => (some ((w64 (r1 + (Int.tmod (w64 ((Int.tmod x1 (w64 ((w64 (r2 - r1)) + (1 : Int)))) + (w64 ((w64 (r2 - r1)) + (1 : Int))))) (w64 ((w64 (r2 - r1)) + (1 : Int))))))))))))
set_option maxRecDepth 100000 in
theorem f14_ok (fuel : Nat) (x0 : List Pt) (x1 : Int) (r : Int) (hr : F14 fuel x0 x1 = some r) (h : Zone) (L : List Atom) (w : World) (hS : St h L w) (o_x0 : Option Addr) (c_x0 : Nat) (hx_x0 : SliceR PtT h o_x0 c_x0 x0) :
    Calls Try.prog 14 #[.agg #[.slice o_x0 x0.length c_x0], vI x1] w fun e w' => ∃ v, e = .returned v ∧ (v = vI r ∧ St h L w') := by
 refine calls_intro (N := 23) Try.func14 (by kernel_rfl) fun a hf => ?_
 refine w_sr (by kernel_rfl) ?_
 refine p_box (i := 0) (d := (some 2)) (cs := [.slice o_x0 x0.length c_x0]) (T := 24) (v := fun b1 => pB b1 0) hS hf (fun b => by kernel_rfl) fun b1 ww1 a1 hS1 hf1 => ⟨fun _ => trivial, ?_⟩
 refine p_qt [] [(1, vI x1), (2, pB b1 0)] [] hf1 (by kernel_rfl) .nil fun a2 hf2 => ?_
 refine w_sr (by kernel_rfl) ?_
 refine p_qn 1 [.slice o_x0 x0.length c_x0] [(1, vI x1), (2, pB b1 0), (7, .agg #[.slice o_x0 x0.length c_x0])] [.cell ⟨b1, 0, none⟩ (.slice o_x0 x0.length c_x0)] hf2 (by kernel_rfl) (.cell (hS1.box (i := 0) rfl (j := 0) rfl) .nil) fun a3 hf3 => ?_
 obtain ⟨r1, hd1, hr1⟩ := bind_some hr
 refine p_call (i := 1) (d := some 8) (f := 73) (args := #[.agg #[.slice o_x0 x0.length c_x0]]) hf3 (by kernel_rfl) (f73_ok fuel x0 r1 hd1 h _ _ hS1 o_x0 c_x0 hx_x0) ?_
 rintro v1 ww2 a4 ⟨rfl, hS2⟩ hf4
 refine ⟨fun _ => trivial, ?_⟩
 refine p_qt [] [(1, vI x1), (2, pB b1 0), (5, vI r1)] [] hf4 (by kernel_rfl) .nil fun a5 hf5 => ?_
 refine w_sr (by kernel_rfl) ?_
 refine p_qn 1 [.slice o_x0 x0.length c_x0] [(1, vI x1), (5, vI r1), (9, .agg #[.slice o_x0 x0.length c_x0])] [.cell ⟨b1, 0, none⟩ (.slice o_x0 x0.length c_x0)] hf5 (by kernel_rfl) (.cell (hS2.box (i := 0) rfl (j := 0) rfl) .nil) fun a6 hf6 => ?_
 obtain ⟨r2, hd2, hr2⟩ := bind_some hr1
 refine p_call (i := 1) (d := some 10) (f := 74) (args := #[.agg #[.slice o_x0 x0.length c_x0]]) hf6 (by kernel_rfl) (f74_ok fuel x0 r2 hd2 h _ _ hS2 o_x0 c_x0 hx_x0) ?_
 rintro v2 ww3 a7 ⟨rfl, hS3⟩ hf7
 refine ⟨fun _ => trivial, ?_⟩
 refine p_qt [] [(1, vI x1), (5, vI r1), (6, vI (w64 ((w64 (r2 - r1)) + (1 : Int))))] [] hf7 (by kernel_rfl) .nil fun a8 hf8 => ?_
 obtain ⟨u1, hd3, hr3⟩ := bind_some hr2
 obtain ⟨u2, hd4, hr4⟩ := bind_some hr3
 refine w_sq [] [(4, vI (w64 (r1 + (Int.tmod (w64 ((Int.tmod x1 (w64 ((w64 (r2 - r1)) + (1 : Int)))) + (w64 ((w64 (r2 - r1)) + (1 : Int))))) (w64 ((w64 (r2 - r1)) + (1 : Int)))))))] [.prop ((w64 ((w64 (r2 - r1)) + (1 : Int))) ≠ 0), .prop ((w64 ((w64 (r2 - r1)) + (1 : Int))) ≠ 0)] hf8 (by kernel_rfl) (.prop (nz_spec hd3) (.prop (nz_spec hd4) .nil)) fun a9 hf9 => ?_
 refine w_ret (by kernel_rfl) ?_
 refine p_ret (os := []) (v := vI (w64 (r1 + (Int.tmod (w64 ((Int.tmod x1 (w64 ((w64 (r2 - r1)) + (1 : Int)))) + (w64 ((w64 (r2 - r1)) + (1 : Int))))) (w64 ((w64 (r2 - r1)) + (1 : Int))))))) (obs := []) hf9 (by kernel_rfl) .nil ?_
 obtain rfl := some_eq hr4
 exact ⟨_, rfl, rfl, (St.drop 1 hS3)⟩
def F17_j1 (k1 : (List Int) → Int → Option (List Int)) (y1 : List Int) (y2 : Int) (p1 : Pt) (y3 : Int) : Option (List Int) :=
  ((nz (w64 ((w64 (p1.hi - p1.lo)) + (1 : Int)))).bind fun _ => ((nz (w64 ((w64 (p1.hi - p1.lo)) + (1 : Int)))).bind fun _ => ((appC y1 ([(w64 (p1.lo + (Int.tmod (w64 ((Int.tmod y3 (w64 ((w64 (p1.hi - p1.lo)) + (1 : Int)))) + (w64 ((w64 (p1.hi - p1.lo)) + (1 : Int))))) (w64 ((w64 (p1.hi - p1.lo)) + (1 : Int))))))])).bind fun d1 => (k1 d1 (w64 (y2 + (1 : Int)))))))
def F17_l1 (x0_t : List Pt) (x0_c : List Int) : Nat → (List Int) → Int → Option (List Int)
  | 0, _, _ => none
  | n1 + 1, y1, y2 =>
    let k1 : (List Int) → Int → Option (List Int) := F17_l1 x0_t x0_c n1
    (cond (decide (y2 < (x0_t.length : Int))) ((getI x0_t y2).bind fun p1 => (cond (decide ((x0_c.length : Int) > (0 : Int))) ((nz (x0_c.length : Int)).bind fun _ => ((getI x0_c (Int.tmod y2 (x0_c.length : Int))).bind fun p2 => (F17_j1 k1 y1 y2 p1 p2))) (F17_j1 k1 y1 y2 p1 0))) (some (y1)))
def F17 (fuel : Nat) (x0_t : List Pt) (x0_c : List Int) : Option (List Int) :=
  (F17_l1 x0_t x0_c fuel ([]) 0)
set_option maxRecDepth 100000 in
theorem f17_ok (fuel : Nat) (x0_t : List Pt) (x0_c : List Int) (r : List Int) (hr : F17 fuel x0_t x0_c = some r) (h : Zone) (L : List Atom) (w : World) (hS : St h L w) (o_x0_t : Option Addr) (c_x0_t : Nat) (hx_x0_t : SliceR PtT h o_x0_t c_x0_t x0_t) (o_x0_c : Option Addr) (c_x0_c : Nat) (hx_x0_c : SliceR Ty.int h o_x0_c c_x0_c x0_c) :
    Calls Try.prog 17 #[.agg #[.slice o_x0_t x0_t.length c_x0_t, .slice o_x0_c x0_c.length c_x0_c]] w fun e w' => ∃ v, e = .returned v ∧ (∃ h', ∃ o0 : Option Addr, ∃ c0 : Nat, Zone.le h h' ∧ v = .slice o0 r.length c0 ∧ St h' L w' ∧ SliceR Ty.int h' o0 c0 r) := by
 refine calls_intro (N := 51) Try.func17 (by kernel_rfl) fun a hf => ?_
 refine w_sr (by kernel_rfl) ?_
 refine p_box (i := 0) (d := (some 1)) (cs := [.slice o_x0_t x0_t.length c_x0_t, .slice o_x0_c x0_c.length c_x0_c]) (T := 27) (v := fun b1 => pB b1 0) hS hf (fun b => by kernel_rfl) fun b1 ww1 a1 hS1 hf1 => ⟨fun _ => trivial, ?_⟩
 refine p_qt [] [(1, pB b1 0)] [] hf1 (by kernel_rfl) .nil fun a2 hf2 => ?_
 refine w_sq [] [(1, pB b1 0), (3, .slice none 0 0)] [] hf2 (by kernel_rfl) .nil fun a3 hf3 => ?_
 refine w_seq (by kernel_rfl) ?_
 refine w_sq [.slice o_x0_t x0_t.length c_x0_t] [(1, pB b1 0), (3, .slice none 0 0), (10, .slice o_x0_t x0_t.length c_x0_t), (11, vI (x0_t.length : Int)), (12, vI 0)] [.cell ⟨b1, 0, none⟩ (.slice o_x0_t x0_t.length c_x0_t)] hf3 (by kernel_rfl) (.cell (hS1.box (i := 0) rfl (j := 0) rfl) .nil) fun a4 hf4 => ?_
 refine w_block (id := 0) (by kernel_rfl) ?_
 have hS2 := hS1.ownNil Ty.int 3
 have hf5 := Fr.keep (ks := [1, 3, 10, 11, 12]) (r := [(1, pB b1 0), (3, .slice none 0 0), (10, .slice o_x0_t x0_t.length c_x0_t), (11, vI (x0_t.length : Int)), (12, vI 0)]) hf4 (by kernel_rfl)
 refine w_loop (by kernel_rfl) (fun n a w => ∃ z1 : Zone, ∃ y1 : List Int, ∃ y2 : Int, ∃ e1 : Option Addr, ∃ q1 : Nat, Zone.le h z1 ∧ Fr a 51 [(1, pB b1 0), (3, .slice e1 y1.length q1), (10, .slice o_x0_t x0_t.length c_x0_t), (11, vI (x0_t.length : Int)), (12, vI y2)] ∧ St z1 (ownS Ty.int 3 e1 q1 y1 :: box b1 [.slice o_x0_t x0_t.length c_x0_t, .slice o_x0_c x0_c.length c_x0_c] 27 :: L) w ∧ (F17_l1 x0_t x0_c n y1 y2) = some r) fuel ⟨h, [], 0, none, 0, (Zone.le_refl _), hf5, hS2, hr⟩ ?_
 rintro n2 a5 ww2 ⟨z1, y1, y2, e1, q1, k2, hf6, hS3, hr1⟩
 cases n2 with
 | zero => cases hr1
 | succ n1 =>
 refine w_sq [] [(1, pB b1 0), (3, .slice e1 y1.length q1), (10, .slice o_x0_t x0_t.length c_x0_t), (11, vI (x0_t.length : Int)), (12, vI y2), (13, .bool (decide (y2 < (x0_t.length : Int))))] [] hf6 (by kernel_rfl) .nil fun a6 hf7 => ?_
 refine w_seq (by kernel_rfl) ?_
 refine w_if hf7 (b := (decide (y2 < (x0_t.length : Int)))) (by kernel_rfl) (fun hb1 => ?_) (fun hb1 => ?_)
 ·have hr2 := cond_t hb1 hr1
  refine w_skip (by kernel_rfl) ?_
  refine n_then ?_
  refine w_seq (by kernel_rfl) ?_
  refine w_block (id := 1) (by kernel_rfl) ?_
  refine w_sr (by kernel_rfl) ?_
  obtain ⟨p1, hp2152, hr3⟩ := bind_some hr2
  obtain ⟨ad1, ho1, hb2, cc1, hc1, hk1⟩ := SliceR.getI (SliceR.mono k2 hx_x0_t) hp2152
  subst hc1
  refine p_qn 3 [.pointer (some ad1), vI p1.x, vI p1.lo, vI p1.hi] [(1, pB b1 0), (3, .slice e1 y1.length q1), (10, .slice o_x0_t x0_t.length c_x0_t), (11, vI (x0_t.length : Int)), (12, vI y2), (14, vI y2), (16, .agg #[vI p1.x, vI p1.lo, vI p1.hi])] [.prop (o_x0_t = some ad1), .prop (0 ≤ y2 ∧ y2 < (x0_t.length : Nat)), .cell ((ad1.add (Int.toNat y2 * 3)).add 0) (vI p1.x), .cell ((ad1.add (Int.toNat y2 * 3)).add 1) (vI p1.lo), .cell ((ad1.add (Int.toNat y2 * 3)).add 2) (vI p1.hi)] hf7 (by kernel_rfl) (.prop ho1 (.prop hb2 (.cell (hS3.cell (hk1 0 _ rfl)) (.cell (hS3.cell (hk1 1 _ rfl)) (.cell (hS3.cell (hk1 2 _ rfl)) .nil))))) fun a7 hf8 => ?_
  refine p_box (i := 3) (d := (some 5)) (cs := [vI 0, vI 0, vI 0]) (T := 52) (v := fun b2 => pB b2 0) hS3 hf8 (fun b => by kernel_rfl) fun b2 ww3 a8 hS4 hf9 => ⟨fun _ => trivial, ?_⟩
  refine p_qn 1 [] [(1, pB b1 0), (3, .slice e1 y1.length q1), (4, vI y2), (5, pB b2 0), (10, .slice o_x0_t x0_t.length c_x0_t), (11, vI (x0_t.length : Int)), (12, vI y2), (16, .agg #[vI p1.x, vI p1.lo, vI p1.hi])] [] hf9 (by kernel_rfl) .nil fun a9 hf10 => ?_
  refine p_store_eq (i := 5) (j := 0) (b := b2) (off := 0) (vs := [vI p1.x, vI p1.lo, vI p1.hi]) (cs' := [vI p1.x, vI p1.lo, vI p1.hi]) hS4 hf10 rfl (by kernel_rfl) (by kernel_rfl) rfl fun ww4 a10 hS5 hf11 => ⟨fun _ => trivial, ?_⟩
  refine p_dt (by kernel_rfl) ?_
  refine w_sq [] [(1, pB b1 0), (3, .slice e1 y1.length q1), (4, vI y2), (5, pB b2 0), (6, vI 0), (10, .slice o_x0_t x0_t.length c_x0_t), (11, vI (x0_t.length : Int)), (12, vI y2)] [] hf11 (by kernel_rfl) .nil fun a11 hf12 => ?_
  refine w_mid (by kernel_rfl) (fun a w => ∃ z2 : Zone, ∃ y3 : Int, Zone.le z1 z2 ∧ Fr a 51 [(1, pB b1 0), (3, .slice e1 y1.length q1), (5, pB b2 0), (6, vI y3), (10, .slice o_x0_t x0_t.length c_x0_t), (11, vI (x0_t.length : Int)), (12, vI y2)] ∧ St z2 (box b2 [vI p1.x, vI p1.lo, vI p1.hi] 52 :: ownS Ty.int 3 e1 q1 y1 :: box b1 [.slice o_x0_t x0_t.length c_x0_t, .slice o_x0_c x0_c.length c_x0_c] 27 :: L) w ∧ (F17_j1 (F17_l1 x0_t x0_c n1) y1 y2 p1 y3) = some r) ?_ ?_
  ·skip
   refine w_sq [.slice o_x0_c x0_c.length c_x0_c] [(1, pB b1 0), (3, .slice e1 y1.length q1), (4, vI y2), (5, pB b2 0), (6, vI 0), (10, .slice o_x0_t x0_t.length c_x0_t), (11, vI (x0_t.length : Int)), (12, vI y2), (20, .bool (decide ((x0_c.length : Int) > (0 : Int))))] [.cell ⟨b1, 1, none⟩ (.slice o_x0_c x0_c.length c_x0_c)] hf12 (by kernel_rfl) (.cell (hS5.box (i := 2) rfl (j := 1) rfl) .nil) fun a12 hf13 => ?_
   refine w_if hf13 (b := (decide ((x0_c.length : Int) > (0 : Int)))) (by kernel_rfl) (fun hb3 => ?_) (fun hb3 => ?_)
   ·have hr4 := cond_t hb3 hr3
    have hS6 := hS5.drew
    obtain ⟨u1, hd1, hr5⟩ := bind_some hr4
    obtain ⟨p2, hp2233, hr6⟩ := bind_some hr5
    obtain ⟨ad2, ho2, hb4, cc2, hc2, hk2⟩ := SliceR.getI (SliceR.mono k2 hx_x0_c) hp2233
    subst hc2
    refine w_qD [(0, true), (1, true), (2, true), (3, true), (4, true), (5, true), (6, true), (7, true), (8, true), (9, true)] [] [.slice o_x0_c x0_c.length c_x0_c, .slice o_x0_c x0_c.length c_x0_c, .pointer (some ad2), vI p2] [(1, pB b1 0), (3, .slice e1 y1.length q1), (5, pB b2 0), (6, vI p2), (10, .slice o_x0_t x0_t.length c_x0_t), (11, vI (x0_t.length : Int)), (12, vI y2)] [.cell ⟨b1, 1, none⟩ (.slice o_x0_c x0_c.length c_x0_c), .cell ⟨b1, 1, none⟩ (.slice o_x0_c x0_c.length c_x0_c), .prop ((x0_c.length : Int) ≠ 0), .prop (o_x0_c = some ad2), .prop (0 ≤ (Int.tmod y2 (x0_c.length : Int)) ∧ (Int.tmod y2 (x0_c.length : Int)) < (x0_c.length : Nat)), .cell ((ad2.add (Int.toNat (Int.tmod y2 (x0_c.length : Int)) * 1)).add 0) (vI p2)] [] hf13 (by kernel_rfl) (.cell (hS6.box (i := 2) rfl (j := 1) rfl) (.cell (hS6.box (i := 2) rfl (j := 1) rfl) (.prop (nz_spec hd1) (.prop ho2 (.prop hb4 (.cell (hS6.cell (hk2 0 _ rfl)) .nil)))))) .nil fun a13 hf14 => ?_
    refine n_then ?_
    have hf15 := Fr.keep (ks := [1, 3, 5, 6, 10, 11, 12]) (r := [(1, pB b1 0), (3, .slice e1 y1.length q1), (5, pB b2 0), (6, vI p2), (10, .slice o_x0_t x0_t.length c_x0_t), (11, vI (x0_t.length : Int)), (12, vI y2)]) hf14 (by kernel_rfl)
    exact ⟨z1, p2, (Zone.le_refl _), hf15, hS6, hr6⟩
   ·have hr7 := cond_f hb3 hr3
    refine w_skip (by kernel_rfl) ?_
    refine n_then ?_
    have hf16 := Fr.keep (ks := [1, 3, 5, 6, 10, 11, 12]) (r := [(1, pB b1 0), (3, .slice e1 y1.length q1), (5, pB b2 0), (6, vI 0), (10, .slice o_x0_t x0_t.length c_x0_t), (11, vI (x0_t.length : Int)), (12, vI y2)]) hf13 (by kernel_rfl)
    exact ⟨z1, 0, (Zone.le_refl _), hf16, hS5, hr7⟩
  ·rintro a14 ww5 ⟨z2, y3, k3, hf17, hS7, hr8⟩
   refine w_sq [vI p1.hi, vI p1.lo] [(1, pB b1 0), (3, .slice e1 y1.length q1), (5, pB b2 0), (6, vI y3), (7, vI (w64 ((w64 (p1.hi - p1.lo)) + (1 : Int)))), (10, .slice o_x0_t x0_t.length c_x0_t), (11, vI (x0_t.length : Int)), (12, vI y2)] [.cell ⟨b2, 2, none⟩ (vI p1.hi), .cell ⟨b2, 1, none⟩ (vI p1.lo)] hf17 (by kernel_rfl) (.cell (hS7.box (i := 0) rfl (j := 2) rfl) (.cell (hS7.box (i := 0) rfl (j := 1) rfl) .nil)) fun a15 hf18 => ?_
   have hS8 := hS7.drew
   refine w_regD (by kernel_rfl) [(0, true), (1, true), (2, true), (3, true), (4, true), (5, true), (6, true), (7, true), (8, true), (9, true), (10, true), (11, false), (12, false), (13, true)] [11, 12] (fun x => x = ww5.drew) (by kernel_rfl) rfl ?_
   obtain ⟨u2, hd2, hr9⟩ := bind_some hr8
   obtain ⟨u3, hd3, hr10⟩ := bind_some hr9
   refine p_qE 11 [vI p1.lo] [(1, pB b1 0), (10, .slice o_x0_t x0_t.length c_x0_t), (11, vI (x0_t.length : Int)), (12, vI y2), (36, .slice e1 y1.length q1), (46, vI (w64 (p1.lo + (Int.tmod (w64 ((Int.tmod y3 (w64 ((w64 (p1.hi - p1.lo)) + (1 : Int)))) + (w64 ((w64 (p1.hi - p1.lo)) + (1 : Int))))) (w64 ((w64 (p1.hi - p1.lo)) + (1 : Int)))))))] [.cell ⟨b2, 1, none⟩ (vI p1.lo), .prop ((w64 ((w64 (p1.hi - p1.lo)) + (1 : Int))) ≠ 0), .prop ((w64 ((w64 (p1.hi - p1.lo)) + (1 : Int))) ≠ 0)] [] hf18 (by kernel_rfl) (.cell (hS8.box (i := 0) rfl (j := 1) rfl) (.prop (nz_spec hd2) (.prop (nz_spec hd3) .nil))) .nil fun a16 hf19 => ?_
   refine p_box (i := 11) (d := (some 47)) (cs := [vI (w64 (p1.lo + (Int.tmod (w64 ((Int.tmod y3 (w64 ((w64 (p1.hi - p1.lo)) + (1 : Int)))) + (w64 ((w64 (p1.hi - p1.lo)) + (1 : Int))))) (w64 ((w64 (p1.hi - p1.lo)) + (1 : Int))))))]) (T := 3) (v := fun b3 => .slice (some ⟨b3, 0, none⟩) 1 1) hS8 hf19 (fun b => by kernel_rfl) fun b3 ww6 a17 hS9 hf20 => ⟨fun e => absurd e (by decide), ?_⟩
   have hS10 := hS9.ownBox (T := Ty.int) (E := 3) (n := 1) (xs := [(w64 (p1.lo + (Int.tmod (w64 ((Int.tmod y3 (w64 ((w64 (p1.hi - p1.lo)) + (1 : Int)))) + (w64 ((w64 (p1.hi - p1.lo)) + (1 : Int))))) (w64 ((w64 (p1.hi - p1.lo)) + (1 : Int))))))]) (i := 0) rfl (Rows.cons (c := [vI (w64 (p1.lo + (Int.tmod (w64 ((Int.tmod y3 (w64 ((w64 (p1.hi - p1.lo)) + (1 : Int)))) + (w64 ((w64 (p1.hi - p1.lo)) + (1 : Int))))) (w64 ((w64 (p1.hi - p1.lo)) + (1 : Int))))))]) rfl rfl) rfl (by decide)
   obtain ⟨d1, hd4, hr11⟩ := bind_some hr10
   refine p_append (T := Ty.int) (i := 12) (j := 2) (d := some 48) (o2 := (some ⟨b3, 0, none⟩)) (c2 := 1) (ys := ([(w64 (p1.lo + (Int.tmod (w64 ((Int.tmod y3 (w64 ((w64 (p1.hi - p1.lo)) + (1 : Int)))) + (w64 ((w64 (p1.hi - p1.lo)) + (1 : Int))))) (w64 ((w64 (p1.hi - p1.lo)) + (1 : Int))))))])) el25 hS10 hf20 rfl (by kernel_rfl) (hS10.ownSrc (j := 0) rfl) hd4 fun e2 q2 ww7 a18 hS11 hf21 => ⟨fun e => absurd e (by decide), ?_⟩
   refine p_qP 1 [] [(1, pB b1 0), (3, .slice e2 d1.length q2), (10, .slice o_x0_t x0_t.length c_x0_t), (11, vI (x0_t.length : Int)), (12, vI y2)] [] hf21 (by kernel_rfl) (fun _ => .nil) fun a19 hf22 => ?_
   refine p_done (by kernel_rfl) ?_
   refine n_block ?_
   refine n_then ?_
   refine w_q [] [(1, pB b1 0), (3, .slice e2 d1.length q2), (10, .slice o_x0_t x0_t.length c_x0_t), (11, vI (x0_t.length : Int)), (12, vI (w64 (y2 + (1 : Int))))] [] hf22 (by kernel_rfl) .nil fun a20 hf23 => ?_
   refine n_then ?_
   have hf24 := Fr.keep (ks := [1, 3, 10, 11, 12]) (r := [(1, pB b1 0), (3, .slice e2 d1.length q2), (10, .slice o_x0_t x0_t.length c_x0_t), (11, vI (x0_t.length : Int)), (12, vI (w64 (y2 + (1 : Int))))]) hf23 (by kernel_rfl)
   exact ⟨n1, Nat.lt_succ_self n1, z2, d1, (w64 (y2 + (1 : Int))), e2, q2, (Zone.le_trans k2 k3), hf24, (St.drop 2 hS11), hr11⟩
 ·have hr12 := cond_f hb1 hr1
  refine w_exit (id := 0) (by kernel_rfl) ?_
  refine x_then ?_
  refine x_then ?_
  refine x_block ?_
  refine n_then ?_
  refine w_sq [] [(2, .slice e1 y1.length q1)] [] hf7 (by kernel_rfl) .nil fun a21 hf25 => ?_
  refine w_ret (by kernel_rfl) ?_
  obtain ⟨z3, k4, hS12, hx1⟩ := hS3.share (j := 0) rfl
  refine p_ret (os := []) (v := .slice e1 y1.length q1) (obs := []) hf25 (by kernel_rfl) .nil ?_
  obtain rfl := some_eq hr12
  exact ⟨_, rfl, z3, e1, q1, (Zone.le_trans k2 k4), rfl, (St.drop 2 hS12), hx1⟩
def F27 (fuel : Nat) (x0 : List Pt) (x1 : Int) : Option (Int × Int × Int) :=
  ((F67 fuel x0).bind fun r1 => (cond (r1 != (0 : Int)) (some (0, 0, r1)) ((F81 fuel x0 x1 x1).bind fun r2 => (cond (!r2) (some (0, 0, 4)) ((F88 fuel x0 x1).bind fun r3 => (some (r3.1, r3.2, 0)))))))
set_option maxRecDepth 100000 in
theorem f27_ok (fuel : Nat) (x0 : List Pt) (x1 : Int) (r : Int × Int × Int) (hr : F27 fuel x0 x1 = some r) (h : Zone) (L : List Atom) (w : World) (hS : St h L w) (o_x0 : Option Addr) (c_x0 : Nat) (hx_x0 : SliceR PtT h o_x0 c_x0 x0) :
    Calls Try.prog 27 #[.agg #[.slice o_x0 x0.length c_x0], vI x1] w fun e w' => ∃ v, e = .returned v ∧ (∃ h', Zone.le h h' ∧ v = .tuple #[.agg #[vI r.1, vI r.2.1], vI r.2.2] ∧ St h' L w') := by
 refine calls_intro (N := 23) Try.func27 (by kernel_rfl) fun a hf => ?_
 refine w_sr (by kernel_rfl) ?_
 refine p_box (i := 0) (d := (some 2)) (cs := [.slice o_x0 x0.length c_x0]) (T := 24) (v := fun b1 => pB b1 0) hS hf (fun b => by kernel_rfl) fun b1 ww1 a1 hS1 hf1 => ⟨fun _ => trivial, ?_⟩
 refine p_box (i := 1) (d := (some 4)) (cs := [vI 0, vI 0]) (T := 41) (v := fun b2 => pB b2 0) hS1 hf1 (fun b => by kernel_rfl) fun b2 ww2 a2 hS2 hf2 => ⟨fun _ => trivial, ?_⟩
 refine p_qt [] [(1, vI x1), (2, pB b1 0), (4, pB b2 0)] [] hf2 (by kernel_rfl) .nil fun a3 hf3 => ?_
 refine w_seq (by kernel_rfl) ?_
 refine w_sr (by kernel_rfl) ?_
 refine p_qn 1 [.slice o_x0 x0.length c_x0] [(1, vI x1), (2, pB b1 0), (4, pB b2 0), (7, .agg #[.slice o_x0 x0.length c_x0])] [.cell ⟨b1, 0, none⟩ (.slice o_x0 x0.length c_x0)] hf3 (by kernel_rfl) (.cell (hS2.box (i := 1) rfl (j := 0) rfl) .nil) fun a4 hf4 => ?_
 obtain ⟨r1, hd1, hr1⟩ := bind_some hr
 refine p_call (i := 1) (d := some 8) (f := 67) (args := #[.agg #[.slice o_x0 x0.length c_x0]]) hf4 (by kernel_rfl) (f67_ok fuel x0 r1 hd1 h _ _ hS2 o_x0 c_x0 hx_x0) ?_
 rintro v1 ww3 a5 ⟨z1, k1, rfl, hS3⟩ hf5
 refine ⟨fun _ => trivial, ?_⟩
 refine p_qt [] [(1, vI x1), (2, pB b1 0), (4, pB b2 0), (6, vI r1)] [] hf5 (by kernel_rfl) .nil fun a6 hf6 => ?_
 refine w_sq [] [(1, vI x1), (2, pB b1 0), (4, pB b2 0), (6, vI r1), (10, .bool (r1 != (0 : Int)))] [] hf6 (by kernel_rfl) .nil fun a7 hf7 => ?_
 refine w_if hf7 (b := (r1 != (0 : Int))) (by kernel_rfl) (fun hb1 => ?_) (fun hb1 => ?_)
 ·have hr2 := cond_t hb1 hr1
  refine w_sr (by kernel_rfl) ?_
  refine p_qn 2 [] [(4, pB b2 0), (11, .agg #[vI 0, vI 0]), (12, vI r1)] [] hf7 (by kernel_rfl) .nil fun a8 hf8 => ?_
  refine p_store_eq (i := 2) (j := 0) (b := b2) (off := 0) (vs := [vI 0, vI 0]) (cs' := [vI 0, vI 0]) hS3 hf8 rfl (by kernel_rfl) (by kernel_rfl) rfl fun ww4 a9 hS4 hf9 => ⟨fun _ => trivial, ?_⟩
  refine p_qt [] [(4, pB b2 0), (5, vI r1)] [] hf9 (by kernel_rfl) .nil fun a10 hf10 => ?_
  refine w_ret (by kernel_rfl) ?_
  refine r_then ?_
  refine p_ret (os := [vI 0, vI 0]) (v := .tuple #[.agg #[vI 0, vI 0], vI r1]) (obs := [.cell ⟨b2, 0, none⟩ (vI 0), .cell ⟨b2, 1, none⟩ (vI 0)]) hf10 (by kernel_rfl) (.cell (hS4.box (i := 0) rfl (j := 0) rfl) (.cell (hS4.box (i := 0) rfl (j := 1) rfl) .nil)) ?_
  obtain rfl := some_eq hr2
  exact ⟨_, rfl, z1, k1, rfl, (St.drop 2 hS4)⟩
 ·have hr3 := cond_f hb1 hr1
  refine w_skip (by kernel_rfl) ?_
  refine n_then ?_
  refine w_seq (by kernel_rfl) ?_
  refine w_sr (by kernel_rfl) ?_
  refine p_qn 4 [.slice o_x0 x0.length c_x0] [(1, vI x1), (2, pB b1 0), (4, pB b2 0), (13, .agg #[.slice o_x0 x0.length c_x0]), (16, .agg #[vI x1, vI x1])] [.cell ⟨b1, 0, none⟩ (.slice o_x0 x0.length c_x0)] hf7 (by kernel_rfl) (.cell (hS3.box (i := 1) rfl (j := 0) rfl) .nil) fun a11 hf11 => ?_
  obtain ⟨r2, hd2, hr4⟩ := bind_some hr3
  refine p_call (i := 4) (d := some 17) (f := 81) (args := #[.agg #[.slice o_x0 x0.length c_x0], .agg #[vI x1, vI x1]]) hf11 (by kernel_rfl) (f81_ok fuel x0 x1 x1 r2 hd2 z1 _ _ hS3 o_x0 c_x0 (SliceR.mono k1 hx_x0)) ?_
  rintro v2 ww5 a12 ⟨z2, k2, rfl, hS5⟩ hf12
  refine ⟨fun _ => trivial, ?_⟩
  refine p_qt [] [(1, vI x1), (2, pB b1 0), (4, pB b2 0), (18, .bool (!r2))] [] hf12 (by kernel_rfl) .nil fun a13 hf13 => ?_
  refine w_if hf13 (b := (!r2)) (by kernel_rfl) (fun hb2 => ?_) (fun hb2 => ?_)
  ·have hr5 := cond_t hb2 hr4
   refine w_sr (by kernel_rfl) ?_
   refine p_qn 1 [] [(4, pB b2 0), (19, .agg #[vI 0, vI 0])] [] hf13 (by kernel_rfl) .nil fun a14 hf14 => ?_
   refine p_store_eq (i := 1) (j := 0) (b := b2) (off := 0) (vs := [vI 0, vI 0]) (cs' := [vI 0, vI 0]) hS5 hf14 rfl (by kernel_rfl) (by kernel_rfl) rfl fun ww6 a15 hS6 hf15 => ⟨fun _ => trivial, ?_⟩
   refine p_qt [] [(4, pB b2 0), (5, vI 4)] [] hf15 (by kernel_rfl) .nil fun a16 hf16 => ?_
   refine w_ret (by kernel_rfl) ?_
   refine r_then ?_
   refine p_ret (os := [vI 0, vI 0]) (v := .tuple #[.agg #[vI 0, vI 0], vI 4]) (obs := [.cell ⟨b2, 0, none⟩ (vI 0), .cell ⟨b2, 1, none⟩ (vI 0)]) hf16 (by kernel_rfl) (.cell (hS6.box (i := 0) rfl (j := 0) rfl) (.cell (hS6.box (i := 0) rfl (j := 1) rfl) .nil)) ?_
   obtain rfl := some_eq hr5
   exact ⟨_, rfl, z2, (Zone.le_trans k1 k2), rfl, (St.drop 2 hS6)⟩
  ·have hr6 := cond_f hb2 hr4
   refine w_skip (by kernel_rfl) ?_
   refine n_then ?_
   refine w_sr (by kernel_rfl) ?_
   refine p_qn 2 [.slice o_x0 x0.length c_x0] [(4, pB b2 0), (20, .agg #[.slice o_x0 x0.length c_x0]), (21, vI x1)] [.cell ⟨b1, 0, none⟩ (.slice o_x0 x0.length c_x0)] hf13 (by kernel_rfl) (.cell (hS5.box (i := 1) rfl (j := 0) rfl) .nil) fun a17 hf17 => ?_
   obtain ⟨r3, hd3, hr7⟩ := bind_some hr6
   refine p_call (i := 2) (d := some 22) (f := 88) (args := #[.agg #[.slice o_x0 x0.length c_x0], vI x1]) hf17 (by kernel_rfl) (f88_ok fuel x0 x1 r3 hd3 z2 _ _ hS5 o_x0 c_x0 (SliceR.mono (Zone.le_trans k1 k2) hx_x0)) ?_
   rintro v3 ww7 a18 ⟨z3, k3, rfl, hS7⟩ hf18
   refine ⟨fun _ => trivial, ?_⟩
   refine p_store_eq (i := 3) (j := 0) (b := b2) (off := 0) (vs := [vI r3.1, vI r3.2]) (cs' := [vI r3.1, vI r3.2]) hS7 hf18 rfl (by kernel_rfl) (by kernel_rfl) rfl fun ww8 a19 hS8 hf19 => ⟨fun _ => trivial, ?_⟩
   refine p_qt [] [(4, pB b2 0), (5, vI 0)] [] hf19 (by kernel_rfl) .nil fun a20 hf20 => ?_
   refine w_ret (by kernel_rfl) ?_
   refine p_ret (os := [vI r3.1, vI r3.2]) (v := .tuple #[.agg #[vI r3.1, vI r3.2], vI 0]) (obs := [.cell ⟨b2, 0, none⟩ (vI r3.1), .cell ⟨b2, 1, none⟩ (vI r3.2)]) hf20 (by kernel_rfl) (.cell (hS8.box (i := 0) rfl (j := 0) rfl) (.cell (hS8.box (i := 0) rfl (j := 1) rfl) .nil)) ?_
   obtain rfl := some_eq hr7
   exact ⟨_, rfl, z3, (Zone.le_trans (Zone.le_trans k1 k2) k3), rfl, (St.drop 2 hS8)⟩
def F98 (fuel : Nat) (x0_x : Int) (x0_lo : Int) (x0_hi : Int) (x1_x : Int) (x1_lo : Int) (x1_hi : Int) : Option (Bool) :=
  (some ((decide (x1_lo ≥ x0_hi))))
set_option maxRecDepth 100000 in
theorem f98_ok (fuel : Nat) (x0_x : Int) (x0_lo : Int) (x0_hi : Int) (x1_x : Int) (x1_lo : Int) (x1_hi : Int) (r : Bool) (hr : F98 fuel x0_x x0_lo x0_hi x1_x x1_lo x1_hi = some r) (h : Zone) (L : List Atom) (w : World) (hS : St h L w)  :
    Calls Try.prog 98 #[.agg #[vI x0_x, vI x0_lo, vI x0_hi], .agg #[vI x1_x, vI x1_lo, vI x1_hi]] w fun e w' => ∃ v, e = .returned v ∧ (v = .bool r ∧ St h L w') := by
 refine calls_intro (N := 10) Try.func98 (by kernel_rfl) fun a hf => ?_
 refine w_sr (by kernel_rfl) ?_
 refine p_box (i := 0) (d := (some 2)) (cs := [vI x0_x, vI x0_lo, vI x0_hi]) (T := 52) (v := fun b1 => pB b1 0) hS hf (fun b => by kernel_rfl) fun b1 ww1 a1 hS1 hf1 => ⟨fun _ => trivial, ?_⟩
 refine p_box (i := 1) (d := (some 3)) (cs := [vI x1_x, vI x1_lo, vI x1_hi]) (T := 52) (v := fun b2 => pB b2 0) hS1 hf1 (fun b => by kernel_rfl) fun b2 ww2 a2 hS2 hf2 => ⟨fun _ => trivial, ?_⟩
 refine p_qt [] [(2, pB b1 0), (3, pB b2 0)] [] hf2 (by kernel_rfl) .nil fun a3 hf3 => ?_
 refine w_sq [vI x1_lo, vI x0_hi] [(4, .bool (decide (x1_lo ≥ x0_hi)))] [.cell ⟨b2, 1, none⟩ (vI x1_lo), .cell ⟨b1, 2, none⟩ (vI x0_hi)] hf3 (by kernel_rfl) (.cell (hS2.box (i := 0) rfl (j := 1) rfl) (.cell (hS2.box (i := 1) rfl (j := 2) rfl) .nil)) fun a4 hf4 => ?_
 refine w_ret (by kernel_rfl) ?_
 refine p_ret (os := []) (v := .bool (decide (x1_lo ≥ x0_hi))) (obs := []) hf4 (by kernel_rfl) .nil ?_
 obtain rfl := some_eq hr
 exact ⟨_, rfl, rfl, (St.drop 2 hS2)⟩
def F28_j1 (y1 : Bool) : Option (Bool) :=
  (some (y1))
def F28_l1 (fuel : Nat) (x0 : List Pt) (d1 : List Pt) : Nat → Int → Option (Bool)
  | 0, _ => none
  | n1 + 1, y2 =>
    let k1 : Int → Option (Bool) := F28_l1 fuel x0 d1 n1
    (cond (decide (y2 < (d1.length : Int))) ((getI d1 y2).bind fun p1 => ((getI x0 y2).bind fun p2 => ((F98 fuel p2.x p2.lo p2.hi p1.x p1.lo p1.hi).bind fun r1 => (cond (!r1) (F28_j1 false) (k1 (w64 (y2 + (1 : Int)))))))) (F28_j1 true))
def F28 (fuel : Nat) (x0 : List Pt) : Option (Bool) :=
  ((F67 fuel x0).bind fun r2 => (cond (r2 != (0 : Int)) (F28_j1 false) ((subI x0 1 (x0.length : Int)).bind fun d1 => (F28_l1 fuel x0 d1 fuel 0))))
set_option maxRecDepth 100000 in
theorem f28_ok (fuel : Nat) (x0 : List Pt) (r : Bool) (hr : F28 fuel x0 = some r) (h : Zone) (L : List Atom) (w : World) (hS : St h L w) (o_x0 : Option Addr) (c_x0 : Nat) (hx_x0 : SliceR PtT h o_x0 c_x0 x0) :
    Calls Try.prog 28 #[.agg #[.slice o_x0 x0.length c_x0]] w fun e w' => ∃ v, e = .returned v ∧ (∃ h', Zone.le h h' ∧ v = .bool r ∧ St h' L w') := by
 refine calls_intro (N := 5) Try.func28 (by kernel_rfl) fun a hf => ?_
 refine w_sr (by kernel_rfl) ?_
 refine p_box (i := 0) (d := (some 1)) (cs := [.slice o_x0 x0.length c_x0]) (T := 24) (v := fun b1 => pB b1 0) hS hf (fun b => by kernel_rfl) fun b1 ww1 a1 hS1 hf1 => ⟨fun _ => trivial, ?_⟩
 refine p_qt [] [(1, pB b1 0)] [] hf1 (by kernel_rfl) .nil fun a2 hf2 => ?_
 refine w_sr (by kernel_rfl) ?_
 refine p_qn 1 [.slice o_x0 x0.length c_x0] [(3, .agg #[.slice o_x0 x0.length c_x0])] [.cell ⟨b1, 0, none⟩ (.slice o_x0 x0.length c_x0)] hf2 (by kernel_rfl) (.cell (hS1.box (i := 0) rfl (j := 0) rfl) .nil) fun a3 hf3 => ?_
 refine p_call (i := 1) (d := some 4) (f := 97) (args := #[.agg #[.slice o_x0 x0.length c_x0], .func (.func 98) #[] #[]]) hf3 (by kernel_rfl) (Φ := fun v w => ∃ z1 : Zone, ∃ y1 : Bool, Zone.le h z1 ∧ v = .bool y1 ∧ St z1 (box b1 [.slice o_x0 x0.length c_x0] 24 :: L) w ∧ (F28_j1 y1) = some r) ?_ ?_
 ·refine calls_intro (N := 29) Try.func97 (by kernel_rfl) fun a4 hf4 => ?_
  refine w_sr (by kernel_rfl) ?_
  refine p_box (i := 0) (d := (some 2)) (cs := [.slice o_x0 x0.length c_x0]) (T := 24) (v := fun b2 => pB b2 0) hS1 hf4 (fun b => by kernel_rfl) fun b2 ww2 a5 hS2 hf5 => ⟨fun _ => trivial, ?_⟩
  refine p_qt [] [(1, .func (.func 98) #[] #[]), (2, pB b2 0)] [] hf5 (by kernel_rfl) .nil fun a6 hf6 => ?_
  refine w_seq (by kernel_rfl) ?_
  refine w_sr (by kernel_rfl) ?_
  refine p_qn 1 [.slice o_x0 x0.length c_x0] [(1, .func (.func 98) #[] #[]), (2, pB b2 0), (7, .agg #[.slice o_x0 x0.length c_x0])] [.cell ⟨b2, 0, none⟩ (.slice o_x0 x0.length c_x0)] hf6 (by kernel_rfl) (.cell (hS2.box (i := 0) rfl (j := 0) rfl) .nil) fun a7 hf7 => ?_
  obtain ⟨r2, hd1, hr1⟩ := bind_some hr
  refine p_call (i := 1) (d := some 8) (f := 67) (args := #[.agg #[.slice o_x0 x0.length c_x0]]) hf7 (by kernel_rfl) (f67_ok fuel x0 r2 hd1 h _ _ hS2 o_x0 c_x0 hx_x0) ?_
  rintro v1 ww3 a8 ⟨z2, k2, rfl, hS3⟩ hf8
  refine ⟨fun _ => trivial, ?_⟩
  refine p_qt [] [(1, .func (.func 98) #[] #[]), (2, pB b2 0), (9, .bool (r2 != (0 : Int)))] [] hf8 (by kernel_rfl) .nil fun a9 hf9 => ?_
  refine w_if hf9 (b := (r2 != (0 : Int))) (by kernel_rfl) (fun hb1 => ?_) (fun hb1 => ?_)
  ·have hr2 := cond_t hb1 hr1
   refine w_sq [] [(4, .bool false)] [] hf9 (by kernel_rfl) .nil fun a10 hf10 => ?_
   refine w_ret (by kernel_rfl) ?_
   refine r_then ?_
   refine p_ret (os := []) (v := .bool false) (obs := []) hf10 (by kernel_rfl) .nil ?_
   exact ⟨_, rfl, z2, false, k2, rfl, (St.drop 1 hS3), hr2⟩
  ·have hr3 := cond_f hb1 hr1
   refine w_skip (by kernel_rfl) ?_
   refine n_then ?_
   refine w_seq (by kernel_rfl) ?_
   obtain ⟨d1, hd2, hr4⟩ := bind_some hr3
   obtain ⟨e1, q1, hv1, hb2, hx1⟩ := SliceR.subV (SliceR.mono k2 hx_x0) hd2
   refine w_sq [.slice o_x0 x0.length c_x0, .slice e1 d1.length q1] [(1, .func (.func 98) #[] #[]), (2, pB b2 0), (12, .slice e1 d1.length q1), (13, vI (d1.length : Int)), (14, vI 0)] [.cell ⟨b2, 0, none⟩ (.slice o_x0 x0.length c_x0), .prop ((.slice e1 d1.length q1 : Value) = .slice (subO o_x0 c_x0 (Int.toNat 1) 3) (Int.toNat (x0.length : Int) - Int.toNat 1) (c_x0 - Int.toNat 1)), .prop ((0 : Int) ≤ 1 ∧ (1 : Int) ≤ (x0.length : Int) ∧ (x0.length : Int) ≤ (c_x0 : Nat) ∧ x0.length ≤ c_x0)] hf9 (by kernel_rfl) (.cell (hS3.box (i := 0) rfl (j := 0) rfl) (.prop hv1 (.prop hb2 .nil))) fun a11 hf11 => ?_
   refine w_block (id := 0) (by kernel_rfl) ?_
   have hf12 := Fr.keep (ks := [1, 2, 12, 13, 14]) (r := [(1, .func (.func 98) #[] #[]), (2, pB b2 0), (12, .slice e1 d1.length q1), (13, vI (d1.length : Int)), (14, vI 0)]) hf11 (by kernel_rfl)
   refine w_loop (by kernel_rfl) (fun n a w => ∃ z3 : Zone, ∃ y2 : Int, Zone.le z2 z3 ∧ Fr a 29 [(1, .func (.func 98) #[] #[]), (2, pB b2 0), (12, .slice e1 d1.length q1), (13, vI (d1.length : Int)), (14, vI y2)] ∧ St z3 (box b2 [.slice o_x0 x0.length c_x0] 24 :: box b1 [.slice o_x0 x0.length c_x0] 24 :: L) w ∧ (F28_l1 fuel x0 d1 n y2) = some r) fuel ⟨z2, 0, (Zone.le_refl _), hf12, hS3, hr4⟩ ?_
   rintro n2 a12 ww4 ⟨z3, y2, k3, hf13, hS4, hr5⟩
   cases n2 with
   | zero => cases hr5
   | succ n1 =>
   refine w_sq [] [(1, .func (.func 98) #[] #[]), (2, pB b2 0), (12, .slice e1 d1.length q1), (13, vI (d1.length : Int)), (14, vI y2), (15, .bool (decide (y2 < (d1.length : Int))))] [] hf13 (by kernel_rfl) .nil fun a13 hf14 => ?_
   refine w_seq (by kernel_rfl) ?_
   refine w_if hf14 (b := (decide (y2 < (d1.length : Int)))) (by kernel_rfl) (fun hb3 => ?_) (fun hb3 => ?_)
   ·have hr6 := cond_t hb3 hr5
    refine w_skip (by kernel_rfl) ?_
    refine n_then ?_
    refine w_seq (by kernel_rfl) ?_
    refine w_block (id := 1) (by kernel_rfl) ?_
    refine w_sr (by kernel_rfl) ?_
    obtain ⟨p1, hp2069, hr7⟩ := bind_some hr6
    obtain ⟨ad1, ho1, hb4, cc1, hc1, hk1⟩ := SliceR.getI (SliceR.mono k3 hx1) hp2069
    subst hc1
    refine p_qn 3 [.pointer (some ad1), vI p1.x, vI p1.lo, vI p1.hi] [(1, .func (.func 98) #[] #[]), (2, pB b2 0), (12, .slice e1 d1.length q1), (13, vI (d1.length : Int)), (14, vI y2), (16, vI y2), (18, .agg #[vI p1.x, vI p1.lo, vI p1.hi])] [.prop (e1 = some ad1), .prop (0 ≤ y2 ∧ y2 < (d1.length : Nat)), .cell ((ad1.add (Int.toNat y2 * 3)).add 0) (vI p1.x), .cell ((ad1.add (Int.toNat y2 * 3)).add 1) (vI p1.lo), .cell ((ad1.add (Int.toNat y2 * 3)).add 2) (vI p1.hi)] hf14 (by kernel_rfl) (.prop ho1 (.prop hb4 (.cell (hS4.cell (hk1 0 _ rfl)) (.cell (hS4.cell (hk1 1 _ rfl)) (.cell (hS4.cell (hk1 2 _ rfl)) .nil))))) fun a14 hf15 => ?_
    refine p_box (i := 3) (d := (some 6)) (cs := [vI 0, vI 0, vI 0]) (T := 52) (v := fun b3 => pB b3 0) hS4 hf15 (fun b => by kernel_rfl) fun b3 ww5 a15 hS5 hf16 => ⟨fun _ => trivial, ?_⟩
    refine p_qn 1 [] [(1, .func (.func 98) #[] #[]), (2, pB b2 0), (5, vI y2), (6, pB b3 0), (12, .slice e1 d1.length q1), (13, vI (d1.length : Int)), (14, vI y2), (18, .agg #[vI p1.x, vI p1.lo, vI p1.hi])] [] hf16 (by kernel_rfl) .nil fun a16 hf17 => ?_
    refine p_store_eq (i := 5) (j := 0) (b := b3) (off := 0) (vs := [vI p1.x, vI p1.lo, vI p1.hi]) (cs' := [vI p1.x, vI p1.lo, vI p1.hi]) hS5 hf17 rfl (by kernel_rfl) (by kernel_rfl) rfl fun ww6 a17 hS6 hf18 => ⟨fun _ => trivial, ?_⟩
    refine p_dt (by kernel_rfl) ?_
    refine w_seq (by kernel_rfl) ?_
    have hS7 := hS6.drew
    refine w_regD (by kernel_rfl) [(0, true), (1, true), (2, true), (3, true), (4, true), (5, true), (6, true), (7, false), (8, true)] [7] (fun x => x = ww6.drew) (by kernel_rfl) rfl ?_
    obtain ⟨p2, hp2092, hr8⟩ := bind_some hr7
    obtain ⟨ad2, ho2, hb5, cc2, hc2, hk2⟩ := SliceR.getI (SliceR.mono (Zone.le_trans k2 k3) hx_x0) hp2092
    subst hc2
    refine p_qE 7 [.slice o_x0 x0.length c_x0, .pointer (some ad2), vI p2.x, vI p2.lo, vI p2.hi, vI p1.x, vI p1.lo, vI p1.hi] [(1, .func (.func 98) #[] #[]), (2, pB b2 0), (12, .slice e1 d1.length q1), (13, vI (d1.length : Int)), (14, vI y2), (19, .func (.func 98) #[] #[]), (24, .agg #[vI p2.x, vI p2.lo, vI p2.hi]), (25, .agg #[vI p1.x, vI p1.lo, vI p1.hi])] [.cell ⟨b2, 0, none⟩ (.slice o_x0 x0.length c_x0), .prop (o_x0 = some ad2), .prop (0 ≤ y2 ∧ y2 < (x0.length : Nat)), .cell ((ad2.add (Int.toNat y2 * 3)).add 0) (vI p2.x), .cell ((ad2.add (Int.toNat y2 * 3)).add 1) (vI p2.lo), .cell ((ad2.add (Int.toNat y2 * 3)).add 2) (vI p2.hi), .cell ⟨b3, 0, none⟩ (vI p1.x), .cell ⟨b3, 1, none⟩ (vI p1.lo), .cell ⟨b3, 2, none⟩ (vI p1.hi)] [] hf18 (by kernel_rfl) (.cell (hS7.box (i := 1) rfl (j := 0) rfl) (.prop ho2 (.prop hb5 (.cell (hS7.cell (hk2 0 _ rfl)) (.cell (hS7.cell (hk2 1 _ rfl)) (.cell (hS7.cell (hk2 2 _ rfl)) (.cell (hS7.box (i := 0) rfl (j := 0) rfl) (.cell (hS7.box (i := 0) rfl (j := 1) rfl) (.cell (hS7.box (i := 0) rfl (j := 2) rfl) .nil))))))))) .nil fun a18 hf19 => ?_
    obtain ⟨r1, hd3, hr9⟩ := bind_some hr8
    refine p_call (i := 7) (d := some 26) (f := 98) (args := #[.agg #[vI p2.x, vI p2.lo, vI p2.hi], .agg #[vI p1.x, vI p1.lo, vI p1.hi]]) hf19 (by kernel_rfl) (f98_ok fuel p2.x p2.lo p2.hi p1.x p1.lo p1.hi r1 hd3 z3 _ _ hS7 ) ?_
    rintro v2 ww7 a19 ⟨rfl, hS8⟩ hf20
    refine ⟨fun e => absurd e (by decide), ?_⟩
    refine p_qP 1 [] [(1, .func (.func 98) #[] #[]), (2, pB b2 0), (12, .slice e1 d1.length q1), (13, vI (d1.length : Int)), (14, vI y2), (27, .bool (!r1))] [] hf20 (by kernel_rfl) (fun _ => .nil) fun a20 hf21 => ?_
    refine p_dt (by kernel_rfl) ?_
    refine w_if hf21 (b := (!r1)) (by kernel_rfl) (fun hb6 => ?_) (fun hb6 => ?_)
    ·have hr10 := cond_t hb6 hr9
     refine w_sq [] [(4, .bool false)] [] hf21 (by kernel_rfl) .nil fun a21 hf22 => ?_
     refine w_ret (by kernel_rfl) ?_
     refine r_block ?_
     refine r_then ?_
     refine r_then ?_
     refine r_block ?_
     refine r_then ?_
     refine p_ret (os := []) (v := .bool false) (obs := []) hf22 (by kernel_rfl) .nil ?_
     exact ⟨_, rfl, z3, false, (Zone.le_trans k2 k3), rfl, (St.drop 2 hS8), hr10⟩
    ·have hr11 := cond_f hb6 hr9
     refine w_skip (by kernel_rfl) ?_
     refine n_block ?_
     refine n_then ?_
     refine w_q [] [(1, .func (.func 98) #[] #[]), (2, pB b2 0), (12, .slice e1 d1.length q1), (13, vI (d1.length : Int)), (14, vI (w64 (y2 + (1 : Int))))] [] hf21 (by kernel_rfl) .nil fun a22 hf23 => ?_
     refine n_then ?_
     have hf24 := Fr.keep (ks := [1, 2, 12, 13, 14]) (r := [(1, .func (.func 98) #[] #[]), (2, pB b2 0), (12, .slice e1 d1.length q1), (13, vI (d1.length : Int)), (14, vI (w64 (y2 + (1 : Int))))]) hf23 (by kernel_rfl)
     exact ⟨n1, Nat.lt_succ_self n1, z3, (w64 (y2 + (1 : Int))), k3, hf24, (St.drop 1 hS8), hr11⟩
   ·have hr12 := cond_f hb3 hr5
    refine w_exit (id := 0) (by kernel_rfl) ?_
    refine x_then ?_
    refine x_then ?_
    refine x_block ?_
    refine n_then ?_
    refine w_sq [] [(4, .bool true)] [] hf14 (by kernel_rfl) .nil fun a23 hf25 => ?_
    refine w_ret (by kernel_rfl) ?_
    refine p_ret (os := []) (v := .bool true) (obs := []) hf25 (by kernel_rfl) .nil ?_
    exact ⟨_, rfl, z3, true, (Zone.le_trans k2 k3), rfl, (St.drop 1 hS4), hr12⟩
 ·rintro v3 ww8 a24 ⟨z1, y1, k4, rfl, hS9, hr13⟩ hf26
  refine ⟨fun _ => trivial, ?_⟩
  refine p_qt [] [(2, .bool y1)] [] hf26 (by kernel_rfl) .nil fun a25 hf27 => ?_
  refine w_ret (by kernel_rfl) ?_
  refine p_ret (os := []) (v := .bool y1) (obs := []) hf27 (by kernel_rfl) .nil ?_
  obtain rfl := some_eq hr13
  exact ⟨_, rfl, z1, k4, rfl, (St.drop 1 hS9)⟩
def F99 (fuel : Nat) (x0_x : Int) (x0_lo : Int) (x0_hi : Int) (x1_x : Int) (x1_lo : Int) (x1_hi : Int) : Option (Bool) :=
  (some ((decide (x1_hi ≤ x0_lo))))
set_option maxRecDepth 100000 in
theorem f99_ok (fuel : Nat) (x0_x : Int) (x0_lo : Int) (x0_hi : Int) (x1_x : Int) (x1_lo : Int) (x1_hi : Int) (r : Bool) (hr : F99 fuel x0_x x0_lo x0_hi x1_x x1_lo x1_hi = some r) (h : Zone) (L : List Atom) (w : World) (hS : St h L w)  :
    Calls Try.prog 99 #[.agg #[vI x0_x, vI x0_lo, vI x0_hi], .agg #[vI x1_x, vI x1_lo, vI x1_hi]] w fun e w' => ∃ v, e = .returned v ∧ (v = .bool r ∧ St h L w') := by
 refine calls_intro (N := 10) Try.func99 (by kernel_rfl) fun a hf => ?_
 refine w_sr (by kernel_rfl) ?_
 refine p_box (i := 0) (d := (some 2)) (cs := [vI x0_x, vI x0_lo, vI x0_hi]) (T := 52) (v := fun b1 => pB b1 0) hS hf (fun b => by kernel_rfl) fun b1 ww1 a1 hS1 hf1 => ⟨fun _ => trivial, ?_⟩
 refine p_box (i := 1) (d := (some 3)) (cs := [vI x1_x, vI x1_lo, vI x1_hi]) (T := 52) (v := fun b2 => pB b2 0) hS1 hf1 (fun b => by kernel_rfl) fun b2 ww2 a2 hS2 hf2 => ⟨fun _ => trivial, ?_⟩
 refine p_qt [] [(2, pB b1 0), (3, pB b2 0)] [] hf2 (by kernel_rfl) .nil fun a3 hf3 => ?_
 refine w_sq [vI x1_hi, vI x0_lo] [(4, .bool (decide (x1_hi ≤ x0_lo)))] [.cell ⟨b2, 2, none⟩ (vI x1_hi), .cell ⟨b1, 1, none⟩ (vI x0_lo)] hf3 (by kernel_rfl) (.cell (hS2.box (i := 0) rfl (j := 2) rfl) (.cell (hS2.box (i := 1) rfl (j := 1) rfl) .nil)) fun a4 hf4 => ?_
 refine w_ret (by kernel_rfl) ?_
 refine p_ret (os := []) (v := .bool (decide (x1_hi ≤ x0_lo))) (obs := []) hf4 (by kernel_rfl) .nil ?_
 obtain rfl := some_eq hr
 exact ⟨_, rfl, rfl, (St.drop 2 hS2)⟩
def F29_j1 (y1 : Bool) : Option (Bool) :=
  (some (y1))
def F29_l1 (fuel : Nat) (x0 : List Pt) (d1 : List Pt) : Nat → Int → Option (Bool)
  | 0, _ => none
  | n1 + 1, y2 =>
    let k1 : Int → Option (Bool) := F29_l1 fuel x0 d1 n1
    (cond (decide (y2 < (d1.length : Int))) ((getI d1 y2).bind fun p1 => ((getI x0 y2).bind fun p2 => ((F99 fuel p2.x p2.lo p2.hi p1.x p1.lo p1.hi).bind fun r1 => (cond (!r1) (F29_j1 false) (k1 (w64 (y2 + (1 : Int)))))))) (F29_j1 true))
def F29 (fuel : Nat) (x0 : List Pt) : Option (Bool) :=
  ((F67 fuel x0).bind fun r2 => (cond (r2 != (0 : Int)) (F29_j1 false) ((subI x0 1 (x0.length : Int)).bind fun d1 => (F29_l1 fuel x0 d1 fuel 0))))
set_option maxRecDepth 100000 in
theorem f29_ok (fuel : Nat) (x0 : List Pt) (r : Bool) (hr : F29 fuel x0 = some r) (h : Zone) (L : List Atom) (w : World) (hS : St h L w) (o_x0 : Option Addr) (c_x0 : Nat) (hx_x0 : SliceR PtT h o_x0 c_x0 x0) :
    Calls Try.prog 29 #[.agg #[.slice o_x0 x0.length c_x0]] w fun e w' => ∃ v, e = .returned v ∧ (∃ h', Zone.le h h' ∧ v = .bool r ∧ St h' L w') := by
 refine calls_intro (N := 5) Try.func29 (by kernel_rfl) fun a hf => ?_
 refine w_sr (by kernel_rfl) ?_
 refine p_box (i := 0) (d := (some 1)) (cs := [.slice o_x0 x0.length c_x0]) (T := 24) (v := fun b1 => pB b1 0) hS hf (fun b => by kernel_rfl) fun b1 ww1 a1 hS1 hf1 => ⟨fun _ => trivial, ?_⟩
 refine p_qt [] [(1, pB b1 0)] [] hf1 (by kernel_rfl) .nil fun a2 hf2 => ?_
 refine w_sr (by kernel_rfl) ?_
 refine p_qn 1 [.slice o_x0 x0.length c_x0] [(3, .agg #[.slice o_x0 x0.length c_x0])] [.cell ⟨b1, 0, none⟩ (.slice o_x0 x0.length c_x0)] hf2 (by kernel_rfl) (.cell (hS1.box (i := 0) rfl (j := 0) rfl) .nil) fun a3 hf3 => ?_
 refine p_call (i := 1) (d := some 4) (f := 97) (args := #[.agg #[.slice o_x0 x0.length c_x0], .func (.func 99) #[] #[]]) hf3 (by kernel_rfl) (Φ := fun v w => ∃ z1 : Zone, ∃ y1 : Bool, Zone.le h z1 ∧ v = .bool y1 ∧ St z1 (box b1 [.slice o_x0 x0.length c_x0] 24 :: L) w ∧ (F29_j1 y1) = some r) ?_ ?_
 ·refine calls_intro (N := 29) Try.func97 (by kernel_rfl) fun a4 hf4 => ?_
  refine w_sr (by kernel_rfl) ?_
  refine p_box (i := 0) (d := (some 2)) (cs := [.slice o_x0 x0.length c_x0]) (T := 24) (v := fun b2 => pB b2 0) hS1 hf4 (fun b => by kernel_rfl) fun b2 ww2 a5 hS2 hf5 => ⟨fun _ => trivial, ?_⟩
  refine p_qt [] [(1, .func (.func 99) #[] #[]), (2, pB b2 0)] [] hf5 (by kernel_rfl) .nil fun a6 hf6 => ?_
  refine w_seq (by kernel_rfl) ?_
  refine w_sr (by kernel_rfl) ?_
  refine p_qn 1 [.slice o_x0 x0.length c_x0] [(1, .func (.func 99) #[] #[]), (2, pB b2 0), (7, .agg #[.slice o_x0 x0.length c_x0])] [.cell ⟨b2, 0, none⟩ (.slice o_x0 x0.length c_x0)] hf6 (by kernel_rfl) (.cell (hS2.box (i := 0) rfl (j := 0) rfl) .nil) fun a7 hf7 => ?_
  obtain ⟨r2, hd1, hr1⟩ := bind_some hr
  refine p_call (i := 1) (d := some 8) (f := 67) (args := #[.agg #[.slice o_x0 x0.length c_x0]]) hf7 (by kernel_rfl) (f67_ok fuel x0 r2 hd1 h _ _ hS2 o_x0 c_x0 hx_x0) ?_
  rintro v1 ww3 a8 ⟨z2, k2, rfl, hS3⟩ hf8
  refine ⟨fun _ => trivial, ?_⟩
  refine p_qt [] [(1, .func (.func 99) #[] #[]), (2, pB b2 0), (9, .bool (r2 != (0 : Int)))] [] hf8 (by kernel_rfl) .nil fun a9 hf9 => ?_
  refine w_if hf9 (b := (r2 != (0 : Int))) (by kernel_rfl) (fun hb1 => ?_) (fun hb1 => ?_)
  ·have hr2 := cond_t hb1 hr1
   refine w_sq [] [(4, .bool false)] [] hf9 (by kernel_rfl) .nil fun a10 hf10 => ?_
   refine w_ret (by kernel_rfl) ?_
   refine r_then ?_
   refine p_ret (os := []) (v := .bool false) (obs := []) hf10 (by kernel_rfl) .nil ?_
   exact ⟨_, rfl, z2, false, k2, rfl, (St.drop 1 hS3), hr2⟩
  ·have hr3 := cond_f hb1 hr1
   refine w_skip (by kernel_rfl) ?_
   refine n_then ?_
   refine w_seq (by kernel_rfl) ?_
   obtain ⟨d1, hd2, hr4⟩ := bind_some hr3
   obtain ⟨e1, q1, hv1, hb2, hx1⟩ := SliceR.subV (SliceR.mono k2 hx_x0) hd2
   refine w_sq [.slice o_x0 x0.length c_x0, .slice e1 d1.length q1] [(1, .func (.func 99) #[] #[]), (2, pB b2 0), (12, .slice e1 d1.length q1), (13, vI (d1.length : Int)), (14, vI 0)] [.cell ⟨b2, 0, none⟩ (.slice o_x0 x0.length c_x0), .prop ((.slice e1 d1.length q1 : Value) = .slice (subO o_x0 c_x0 (Int.toNat 1) 3) (Int.toNat (x0.length : Int) - Int.toNat 1) (c_x0 - Int.toNat 1)), .prop ((0 : Int) ≤ 1 ∧ (1 : Int) ≤ (x0.length : Int) ∧ (x0.length : Int) ≤ (c_x0 : Nat) ∧ x0.length ≤ c_x0)] hf9 (by kernel_rfl) (.cell (hS3.box (i := 0) rfl (j := 0) rfl) (.prop hv1 (.prop hb2 .nil))) fun a11 hf11 => ?_
   refine w_block (id := 0) (by kernel_rfl) ?_
   have hf12 := Fr.keep (ks := [1, 2, 12, 13, 14]) (r := [(1, .func (.func 99) #[] #[]), (2, pB b2 0), (12, .slice e1 d1.length q1), (13, vI (d1.length : Int)), (14, vI 0)]) hf11 (by kernel_rfl)
   refine w_loop (by kernel_rfl) (fun n a w => ∃ z3 : Zone, ∃ y2 : Int, Zone.le z2 z3 ∧ Fr a 29 [(1, .func (.func 99) #[] #[]), (2, pB b2 0), (12, .slice e1 d1.length q1), (13, vI (d1.length : Int)), (14, vI y2)] ∧ St z3 (box b2 [.slice o_x0 x0.length c_x0] 24 :: box b1 [.slice o_x0 x0.length c_x0] 24 :: L) w ∧ (F29_l1 fuel x0 d1 n y2) = some r) fuel ⟨z2, 0, (Zone.le_refl _), hf12, hS3, hr4⟩ ?_
   rintro n2 a12 ww4 ⟨z3, y2, k3, hf13, hS4, hr5⟩
   cases n2 with
   | zero => cases hr5
   | succ n1 =>
   refine w_sq [] [(1, .func (.func 99) #[] #[]), (2, pB b2 0), (12, .slice e1 d1.length q1), (13, vI (d1.length : Int)), (14, vI y2), (15, .bool (decide (y2 < (d1.length : Int))))] [] hf13 (by kernel_rfl) .nil fun a13 hf14 => ?_
   refine w_seq (by kernel_rfl) ?_
   refine w_if hf14 (b := (decide (y2 < (d1.length : Int)))) (by kernel_rfl) (fun hb3 => ?_) (fun hb3 => ?_)
   ·have hr6 := cond_t hb3 hr5
    refine w_skip (by kernel_rfl) ?_
    refine n_then ?_
    refine w_seq (by kernel_rfl) ?_
    refine w_block (id := 1) (by kernel_rfl) ?_
    refine w_sr (by kernel_rfl) ?_
    obtain ⟨p1, hp2069, hr7⟩ := bind_some hr6
    obtain ⟨ad1, ho1, hb4, cc1, hc1, hk1⟩ := SliceR.getI (SliceR.mono k3 hx1) hp2069
    subst hc1
    refine p_qn 3 [.pointer (some ad1), vI p1.x, vI p1.lo, vI p1.hi] [(1, .func (.func 99) #[] #[]), (2, pB b2 0), (12, .slice e1 d1.length q1), (13, vI (d1.length : Int)), (14, vI y2), (16, vI y2), (18, .agg #[vI p1.x, vI p1.lo, vI p1.hi])] [.prop (e1 = some ad1), .prop (0 ≤ y2 ∧ y2 < (d1.length : Nat)), .cell ((ad1.add (Int.toNat y2 * 3)).add 0) (vI p1.x), .cell ((ad1.add (Int.toNat y2 * 3)).add 1) (vI p1.lo), .cell ((ad1.add (Int.toNat y2 * 3)).add 2) (vI p1.hi)] hf14 (by kernel_rfl) (.prop ho1 (.prop hb4 (.cell (hS4.cell (hk1 0 _ rfl)) (.cell (hS4.cell (hk1 1 _ rfl)) (.cell (hS4.cell (hk1 2 _ rfl)) .nil))))) fun a14 hf15 => ?_
    refine p_box (i := 3) (d := (some 6)) (cs := [vI 0, vI 0, vI 0]) (T := 52) (v := fun b3 => pB b3 0) hS4 hf15 (fun b => by kernel_rfl) fun b3 ww5 a15 hS5 hf16 => ⟨fun _ => trivial, ?_⟩
    refine p_qn 1 [] [(1, .func (.func 99) #[] #[]), (2, pB b2 0), (5, vI y2), (6, pB b3 0), (12, .slice e1 d1.length q1), (13, vI (d1.length : Int)), (14, vI y2), (18, .agg #[vI p1.x, vI p1.lo, vI p1.hi])] [] hf16 (by kernel_rfl) .nil fun a16 hf17 => ?_
    refine p_store_eq (i := 5) (j := 0) (b := b3) (off := 0) (vs := [vI p1.x, vI p1.lo, vI p1.hi]) (cs' := [vI p1.x, vI p1.lo, vI p1.hi]) hS5 hf17 rfl (by kernel_rfl) (by kernel_rfl) rfl fun ww6 a17 hS6 hf18 => ⟨fun _ => trivial, ?_⟩
    refine p_dt (by kernel_rfl) ?_
    refine w_seq (by kernel_rfl) ?_
    have hS7 := hS6.drew
    refine w_regD (by kernel_rfl) [(0, true), (1, true), (2, true), (3, true), (4, true), (5, true), (6, true), (7, false), (8, true)] [7] (fun x => x = ww6.drew) (by kernel_rfl) rfl ?_
    obtain ⟨p2, hp2092, hr8⟩ := bind_some hr7
    obtain ⟨ad2, ho2, hb5, cc2, hc2, hk2⟩ := SliceR.getI (SliceR.mono (Zone.le_trans k2 k3) hx_x0) hp2092
    subst hc2
    refine p_qE 7 [.slice o_x0 x0.length c_x0, .pointer (some ad2), vI p2.x, vI p2.lo, vI p2.hi, vI p1.x, vI p1.lo, vI p1.hi] [(1, .func (.func 99) #[] #[]), (2, pB b2 0), (12, .slice e1 d1.length q1), (13, vI (d1.length : Int)), (14, vI y2), (19, .func (.func 99) #[] #[]), (24, .agg #[vI p2.x, vI p2.lo, vI p2.hi]), (25, .agg #[vI p1.x, vI p1.lo, vI p1.hi])] [.cell ⟨b2, 0, none⟩ (.slice o_x0 x0.length c_x0), .prop (o_x0 = some ad2), .prop (0 ≤ y2 ∧ y2 < (x0.length : Nat)), .cell ((ad2.add (Int.toNat y2 * 3)).add 0) (vI p2.x), .cell ((ad2.add (Int.toNat y2 * 3)).add 1) (vI p2.lo), .cell ((ad2.add (Int.toNat y2 * 3)).add 2) (vI p2.hi), .cell ⟨b3, 0, none⟩ (vI p1.x), .cell ⟨b3, 1, none⟩ (vI p1.lo), .cell ⟨b3, 2, none⟩ (vI p1.hi)] [] hf18 (by kernel_rfl) (.cell (hS7.box (i := 1) rfl (j := 0) rfl) (.prop ho2 (.prop hb5 (.cell (hS7.cell (hk2 0 _ rfl)) (.cell (hS7.cell (hk2 1 _ rfl)) (.cell (hS7.cell (hk2 2 _ rfl)) (.cell (hS7.box (i := 0) rfl (j := 0) rfl) (.cell (hS7.box (i := 0) rfl (j := 1) rfl) (.cell (hS7.box (i := 0) rfl (j := 2) rfl) .nil))))))))) .nil fun a18 hf19 => ?_
    obtain ⟨r1, hd3, hr9⟩ := bind_some hr8
    refine p_call (i := 7) (d := some 26) (f := 99) (args := #[.agg #[vI p2.x, vI p2.lo, vI p2.hi], .agg #[vI p1.x, vI p1.lo, vI p1.hi]]) hf19 (by kernel_rfl) (f99_ok fuel p2.x p2.lo p2.hi p1.x p1.lo p1.hi r1 hd3 z3 _ _ hS7 ) ?_
    rintro v2 ww7 a19 ⟨rfl, hS8⟩ hf20
    refine ⟨fun e => absurd e (by decide), ?_⟩
    refine p_qP 1 [] [(1, .func (.func 99) #[] #[]), (2, pB b2 0), (12, .slice e1 d1.length q1), (13, vI (d1.length : Int)), (14, vI y2), (27, .bool (!r1))] [] hf20 (by kernel_rfl) (fun _ => .nil) fun a20 hf21 => ?_
    refine p_dt (by kernel_rfl) ?_
    refine w_if hf21 (b := (!r1)) (by kernel_rfl) (fun hb6 => ?_) (fun hb6 => ?_)
    ·have hr10 := cond_t hb6 hr9
     refine w_sq [] [(4, .bool false)] [] hf21 (by kernel_rfl) .nil fun a21 hf22 => ?_
     refine w_ret (by kernel_rfl) ?_
     refine r_block ?_
     refine r_then ?_
     refine r_then ?_
     refine r_block ?_
     refine r_then ?_
     refine p_ret (os := []) (v := .bool false) (obs := []) hf22 (by kernel_rfl) .nil ?_
     exact ⟨_, rfl, z3, false, (Zone.le_trans k2 k3), rfl, (St.drop 2 hS8), hr10⟩
    ·have hr11 := cond_f hb6 hr9
     refine w_skip (by kernel_rfl) ?_
     refine n_block ?_
     refine n_then ?_
     refine w_q [] [(1, .func (.func 99) #[] #[]), (2, pB b2 0), (12, .slice e1 d1.length q1), (13, vI (d1.length : Int)), (14, vI (w64 (y2 + (1 : Int))))] [] hf21 (by kernel_rfl) .nil fun a22 hf23 => ?_
     refine n_then ?_
     have hf24 := Fr.keep (ks := [1, 2, 12, 13, 14]) (r := [(1, .func (.func 99) #[] #[]), (2, pB b2 0), (12, .slice e1 d1.length q1), (13, vI (d1.length : Int)), (14, vI (w64 (y2 + (1 : Int))))]) hf23 (by kernel_rfl)
     exact ⟨n1, Nat.lt_succ_self n1, z3, (w64 (y2 + (1 : Int))), k3, hf24, (St.drop 1 hS8), hr11⟩
   ·have hr12 := cond_f hb3 hr5
    refine w_exit (id := 0) (by kernel_rfl) ?_
    refine x_then ?_
    refine x_then ?_
    refine x_block ?_
    refine n_then ?_
    refine w_sq [] [(4, .bool true)] [] hf14 (by kernel_rfl) .nil fun a23 hf25 => ?_
    refine w_ret (by kernel_rfl) ?_
    refine p_ret (os := []) (v := .bool true) (obs := []) hf25 (by kernel_rfl) .nil ?_
    exact ⟨_, rfl, z3, true, (Zone.le_trans k2 k3), rfl, (St.drop 1 hS4), hr12⟩
 ·rintro v3 ww8 a24 ⟨z1, y1, k4, rfl, hS9, hr13⟩ hf26
  refine ⟨fun _ => trivial, ?_⟩
  refine p_qt [] [(2, .bool y1)] [] hf26 (by kernel_rfl) .nil fun a25 hf27 => ?_
  refine w_ret (by kernel_rfl) ?_
  refine p_ret (os := []) (v := .bool y1) (obs := []) hf27 (by kernel_rfl) .nil ?_
  obtain rfl := some_eq hr13
  exact ⟨_, rfl, z1, k4, rfl, (St.drop 1 hS9)⟩
def F5_j2 (k1 : Int → Option (Bool)) (y1 : Int) (y2 : Bool) : Option (Bool) :=
  (cond y2 (some (false)) (k1 (w64 (y1 + (1 : Int)))))
def F5_l2 (fuel : Nat) (x0_t : List Pt) (r1 : List Int) (r2 : List Int) : Nat → Int → Option (Bool)
  | 0, _ => none
  | n1 + 1, y1 =>
    let k1 : Int → Option (Bool) := F5_l2 fuel x0_t r1 r2 n1
    (cond (decide (y1 < (r1.length : Int))) ((F28 fuel x0_t).bind fun r3 => (cond r3 ((getI r1 y1).bind fun p1 => ((getI r2 (w64 (y1 - (1 : Int)))).bind fun p2 => (cond (decide (p1 < p2)) (F5_j2 k1 y1 true) ((F29 fuel x0_t).bind fun r4 => (cond r4 ((getI r1 y1).bind fun p3 => ((getI r2 (w64 (y1 - (1 : Int)))).bind fun p4 => (F5_j2 k1 y1 (decide (p3 > p4))))) (F5_j2 k1 y1 false)))))) ((F29 fuel x0_t).bind fun r5 => (cond r5 ((getI r1 y1).bind fun p5 => ((getI r2 (w64 (y1 - (1 : Int)))).bind fun p6 => (F5_j2 k1 y1 (decide (p5 > p6))))) (F5_j2 k1 y1 false))))) ((F13 fuel ).bind fun r6 => (some (r6))))
def F5_j1 (fuel : Nat) (x0_t : List Pt) (r1 : List Int) (r2 : List Int) (y3 : Bool) : Option (Bool) :=
  (cond y3 (some (false)) (F5_l2 fuel x0_t r1 r2 fuel 1))
def F5_l1 (fuel : Nat) (x0_t : List Pt) (y4 : Int) (y5 : Int) (r1 : List Int) (r2 : List Int) : Nat → (List Pt) → Int → Option (Bool)
  | 0, _, _ => none
  | n2 + 1, y6, y7 =>
    let k2 : (List Pt) → Int → Option (Bool) := F5_l1 fuel x0_t y4 y5 r1 r2 n2
    (cond (decide (y7 < (x0_t.length : Int))) ((getI x0_t y7).bind fun p7 => ((getI r1 y7).bind fun p8 => ((getI r2 y7).bind fun p9 => ((getI r1 y7).bind fun p10 => ((getI r2 y7).bind fun p11 => ((appC y6 ([⟨p7.x, (if p9 < p8 then p9 else p8), (if p11 > p10 then p11 else p10)⟩])).bind fun d1 => (k2 d1 (w64 (y7 + (1 : Int)))))))))) ((F14 fuel y6 y4).bind fun r7 => ((F14 fuel y6 y5).bind fun r8 => ((F14 fuel y6 y4).bind fun r9 => ((F14 fuel y6 y5).bind fun r10 => ((F19 fuel y6 (if r8 < r7 then r8 else r7) (if r10 > r9 then r10 else r9)).bind fun r11 => ((F19 fuel x0_t (if r8 < r7 then r8 else r7) (if r10 > r9 then r10 else r9)).bind fun r12 => ((F18 fuel y6 (if r8 < r7 then r8 else r7) (if r10 > r9 then r10 else r9)).bind fun r13 => ((F18 fuel x0_t (if r8 < r7 then r8 else r7) (if r10 > r9 then r10 else r9)).bind fun r14 => ((F27 fuel y6 (if r8 < r7 then r8 else r7)).bind fun r15 => ((F27 fuel x0_t (if r8 < r7 then r8 else r7)).bind fun r16 => (cond (r11.2.2 != (0 : Int)) (F5_j1 fuel x0_t r1 r2 true) (cond (r12.2.2 != (0 : Int)) (F5_j1 fuel x0_t r1 r2 true) (cond (r13.2.2 != (0 : Int)) (F5_j1 fuel x0_t r1 r2 true) (cond (r14.2.2 != (0 : Int)) (F5_j1 fuel x0_t r1 r2 true) (cond (r15.2.2 != (0 : Int)) (F5_j1 fuel x0_t r1 r2 true) (cond (r16.2.2 != (0 : Int)) (F5_j1 fuel x0_t r1 r2 true) (cond (decide (r11.1 < r12.1)) (F5_j1 fuel x0_t r1 r2 true) (cond (decide (r11.2.1 > r12.2.1)) (F5_j1 fuel x0_t r1 r2 true) (cond (decide (r13.1 < r14.1)) (F5_j1 fuel x0_t r1 r2 true) (cond (decide (r13.2.1 > r14.2.1)) (F5_j1 fuel x0_t r1 r2 true) (cond (decide (r15.1 < r16.1)) (F5_j1 fuel x0_t r1 r2 true) (F5_j1 fuel x0_t r1 r2 (decide (r15.2.1 > r16.2.1)))))))))))))))))))))))))
def F5 (fuel : Nat) (x0_t : List Pt) (x0_c : List Int) (x1 : List Int) (y4 : Int) (y5 : Int) : Option (Bool) :=
  ((F12 fuel x0_t).bind fun r17 => (cond (!r17) ((F13 fuel ).bind fun r18 => (some (r18))) ((F17 fuel x0_t x0_c).bind fun r1 => ((F17 fuel x0_t x1).bind fun r2 => (F5_l1 fuel x0_t y4 y5 r1 r2 fuel ([]) 0)))))
set_option maxRecDepth 100000 in
theorem f5_ok (fuel : Nat) (x0_t : List Pt) (x0_c : List Int) (x1 : List Int) (y4 : Int) (y5 : Int) (r : Bool) (hr : F5 fuel x0_t x0_c x1 y4 y5 = some r) (h : Zone) (L : List Atom) (w : World) (hS : St h L w) (o_x0_t : Option Addr) (c_x0_t : Nat) (hx_x0_t : SliceR PtT h o_x0_t c_x0_t x0_t) (o_x0_c : Option Addr) (c_x0_c : Nat) (hx_x0_c : SliceR Ty.int h o_x0_c c_x0_c x0_c) (o_x1 : Option Addr) (c_x1 : Nat) (hx_x1 : SliceR Ty.int h o_x1 c_x1 x1) :
    Calls Try.prog 5 #[.agg #[.slice o_x0_t x0_t.length c_x0_t, .slice o_x0_c x0_c.length c_x0_c], .slice o_x1 x1.length c_x1, .agg #[vI y4, vI y5]] w fun e w' => ∃ v, e = .returned v ∧ (∃ h', Zone.le h h' ∧ v = .bool r ∧ St h' L w') := by
 refine calls_intro (N := 242) Try.func5 (by kernel_rfl) fun a hf => ?_
 refine w_sr (by kernel_rfl) ?_
 refine p_box (i := 0) (d := (some 3)) (cs := [.slice o_x0_t x0_t.length c_x0_t, .slice o_x0_c x0_c.length c_x0_c]) (T := 27) (v := fun b1 => pB b1 0) hS hf (fun b => by kernel_rfl) fun b1 ww1 a1 hS1 hf1 => ⟨fun _ => trivial, ?_⟩
 refine p_box (i := 1) (d := (some 5)) (cs := [vI y4, vI y5]) (T := 42) (v := fun b2 => pB b2 0) hS1 hf1 (fun b => by kernel_rfl) fun b2 ww2 a2 hS2 hf2 => ⟨fun _ => trivial, ?_⟩
 refine p_qt [] [(1, .slice o_x1 x1.length c_x1), (3, pB b1 0), (5, pB b2 0)] [] hf2 (by kernel_rfl) .nil fun a3 hf3 => ?_
 refine w_seq (by kernel_rfl) ?_
 refine w_sr (by kernel_rfl) ?_
 refine p_qn 2 [.slice o_x0_t x0_t.length c_x0_t] [(1, .slice o_x1 x1.length c_x1), (3, pB b1 0), (5, pB b2 0), (30, .agg #[.slice o_x0_t x0_t.length c_x0_t])] [.cell ⟨b1, 0, none⟩ (.slice o_x0_t x0_t.length c_x0_t)] hf3 (by kernel_rfl) (.cell (hS2.box (i := 1) rfl (j := 0) rfl) .nil) fun a4 hf4 => ?_
 obtain ⟨r17, hd1, hr1⟩ := bind_some hr
 refine p_call (i := 2) (d := some 31) (f := 12) (args := #[.agg #[.slice o_x0_t x0_t.length c_x0_t]]) hf4 (by kernel_rfl) (f12_ok fuel x0_t r17 hd1 h _ _ hS2 o_x0_t c_x0_t hx_x0_t) ?_
 rintro v1 ww3 a5 ⟨z1, k3, rfl, hS3⟩ hf5
 refine ⟨fun _ => trivial, ?_⟩
 refine p_qt [] [(1, .slice o_x1 x1.length c_x1), (3, pB b1 0), (5, pB b2 0), (32, .bool (!r17))] [] hf5 (by kernel_rfl) .nil fun a6 hf6 => ?_
 refine w_if hf6 (b := (!r17)) (by kernel_rfl) (fun hb1 => ?_) (fun hb1 => ?_)
 ·have hr2 := cond_t hb1 hr1
  refine w_sr (by kernel_rfl) ?_
  obtain ⟨r18, hd2, hr3⟩ := bind_some hr2
  refine p_call (i := 0) (d := some 33) (f := 13) (args := #[]) hf6 (by kernel_rfl) (f13_ok fuel  r18 hd2 z1 _ _ hS3 ) ?_
  rintro v2 ww4 a7 ⟨z2, k4, rfl, hS4⟩ hf7
  refine ⟨fun _ => trivial, ?_⟩
  refine p_qt [] [(6, .bool r18)] [] hf7 (by kernel_rfl) .nil fun a8 hf8 => ?_
  refine w_ret (by kernel_rfl) ?_
  refine r_then ?_
  refine p_ret (os := []) (v := .bool r18) (obs := []) hf8 (by kernel_rfl) .nil ?_
  obtain rfl := some_eq hr3
  exact ⟨_, rfl, z2, (Zone.le_trans k3 k4), rfl, (St.drop 2 hS4)⟩
 ·have hr4 := cond_f hb1 hr1
  refine w_skip (by kernel_rfl) ?_
  refine n_then ?_
  refine w_sr (by kernel_rfl) ?_
  refine p_qn 1 [.slice o_x0_t x0_t.length c_x0_t, .slice o_x0_c x0_c.length c_x0_c] [(1, .slice o_x1 x1.length c_x1), (3, pB b1 0), (5, pB b2 0), (34, .agg #[.slice o_x0_t x0_t.length c_x0_t, .slice o_x0_c x0_c.length c_x0_c])] [.cell ⟨b1, 0, none⟩ (.slice o_x0_t x0_t.length c_x0_t), .cell ⟨b1, 1, none⟩ (.slice o_x0_c x0_c.length c_x0_c)] hf6 (by kernel_rfl) (.cell (hS3.box (i := 1) rfl (j := 0) rfl) (.cell (hS3.box (i := 1) rfl (j := 1) rfl) .nil)) fun a9 hf9 => ?_
  obtain ⟨r1, hd3, hr5⟩ := bind_some hr4
  refine p_call (i := 1) (d := some 35) (f := 17) (args := #[.agg #[.slice o_x0_t x0_t.length c_x0_t, .slice o_x0_c x0_c.length c_x0_c]]) hf9 (by kernel_rfl) (f17_ok fuel x0_t x0_c r1 hd3 z1 _ _ hS3 o_x0_t c_x0_t (SliceR.mono k3 hx_x0_t) o_x0_c c_x0_c (SliceR.mono k3 hx_x0_c)) ?_
  rintro v3 ww5 a10 ⟨z3, e1, q1, k5, rfl, hS5, hx1⟩ hf10
  refine ⟨fun _ => trivial, ?_⟩
  refine p_qt [] [(1, .slice o_x1 x1.length c_x1), (3, pB b1 0), (5, pB b2 0), (7, .slice e1 r1.length q1)] [] hf10 (by kernel_rfl) .nil fun a11 hf11 => ?_
  refine w_sr (by kernel_rfl) ?_
  refine p_qn 4 [.slice o_x0_t x0_t.length c_x0_t] [(3, pB b1 0), (5, pB b2 0), (7, .slice e1 r1.length q1), (39, .agg #[.slice o_x0_t x0_t.length c_x0_t, .slice o_x1 x1.length c_x1])] [.cell ⟨b1, 0, none⟩ (.slice o_x0_t x0_t.length c_x0_t)] hf11 (by kernel_rfl) (.cell (hS5.box (i := 1) rfl (j := 0) rfl) .nil) fun a12 hf12 => ?_
  obtain ⟨r2, hd4, hr6⟩ := bind_some hr5
  refine p_call (i := 4) (d := some 40) (f := 17) (args := #[.agg #[.slice o_x0_t x0_t.length c_x0_t, .slice o_x1 x1.length c_x1]]) hf12 (by kernel_rfl) (f17_ok fuel x0_t x1 r2 hd4 z3 _ _ hS5 o_x0_t c_x0_t (SliceR.mono (Zone.le_trans k3 k5) hx_x0_t) o_x1 c_x1 (SliceR.mono (Zone.le_trans k3 k5) hx_x1)) ?_
  rintro v4 ww6 a13 ⟨z4, e2, q2, k6, rfl, hS6, hx2⟩ hf13
  refine ⟨fun _ => trivial, ?_⟩
  refine p_qt [] [(3, pB b1 0), (5, pB b2 0), (7, .slice e1 r1.length q1), (8, .slice e2 r2.length q2)] [] hf13 (by kernel_rfl) .nil fun a14 hf14 => ?_
  refine w_sr (by kernel_rfl) ?_
  refine p_qn 1 [] [(3, pB b1 0), (5, pB b2 0), (7, .slice e1 r1.length q1), (8, .slice e2 r2.length q2), (41, .agg #[.slice none 0 0])] [] hf14 (by kernel_rfl) .nil fun a15 hf15 => ?_
  refine p_box (i := 1) (d := (some 9)) (cs := [.slice none 0 0]) (T := 24) (v := fun b3 => pB b3 0) hS6 hf15 (fun b => by kernel_rfl) fun b3 ww7 a16 hS7 hf16 => ⟨fun _ => trivial, ?_⟩
  refine p_store_eq (i := 2) (j := 0) (b := b3) (off := 0) (vs := [.slice none 0 0]) (cs' := [.slice none 0 0]) hS7 hf16 rfl (by kernel_rfl) (by kernel_rfl) rfl fun ww8 a17 hS8 hf17 => ⟨fun _ => trivial, ?_⟩
  refine p_dt (by kernel_rfl) ?_
  refine w_seq (by kernel_rfl) ?_
  refine w_sq [.slice o_x0_t x0_t.length c_x0_t] [(3, pB b1 0), (5, pB b2 0), (7, .slice e1 r1.length q1), (8, .slice e2 r2.length q2), (9, pB b3 0), (44, .slice o_x0_t x0_t.length c_x0_t), (45, vI (x0_t.length : Int)), (46, vI 0)] [.cell ⟨b1, 0, none⟩ (.slice o_x0_t x0_t.length c_x0_t)] hf17 (by kernel_rfl) (.cell (hS8.box (i := 2) rfl (j := 0) rfl) .nil) fun a18 hf18 => ?_
  refine w_block (id := 0) (by kernel_rfl) ?_
  have hS9 := hS8.ownNil PtT 52
  have hf19 := Fr.keep (ks := [3, 5, 7, 8, 9, 44, 45, 46]) (r := [(3, pB b1 0), (5, pB b2 0), (7, .slice e1 r1.length q1), (8, .slice e2 r2.length q2), (9, pB b3 0), (44, .slice o_x0_t x0_t.length c_x0_t), (45, vI (x0_t.length : Int)), (46, vI 0)]) hf18 (by kernel_rfl)
  refine w_loop (by kernel_rfl) (fun n a w => ∃ z5 : Zone, ∃ y6 : List Pt, ∃ y7 : Int, ∃ e3 : Option Addr, ∃ q3 : Nat, Zone.le z4 z5 ∧ Fr a 242 [(3, pB b1 0), (5, pB b2 0), (7, .slice e1 r1.length q1), (8, .slice e2 r2.length q2), (9, pB b3 0), (44, .slice o_x0_t x0_t.length c_x0_t), (45, vI (x0_t.length : Int)), (46, vI y7)] ∧ St z5 (ownS PtT 52 e3 q3 y6 :: box b3 [.slice e3 y6.length q3] 24 :: box b2 [vI y4, vI y5] 42 :: box b1 [.slice o_x0_t x0_t.length c_x0_t, .slice o_x0_c x0_c.length c_x0_c] 27 :: L) w ∧ (F5_l1 fuel x0_t y4 y5 r1 r2 n y6 y7) = some r) fuel ⟨z4, [], 0, none, 0, (Zone.le_refl _), hf19, hS9, hr6⟩ ?_
  rintro n3 a19 ww9 ⟨z5, y6, y7, e3, q3, k7, hf20, hS10, hr7⟩
  cases n3 with
  | zero => cases hr7
  | succ n2 =>
  refine w_sq [] [(3, pB b1 0), (5, pB b2 0), (7, .slice e1 r1.length q1), (8, .slice e2 r2.length q2), (9, pB b3 0), (44, .slice o_x0_t x0_t.length c_x0_t), (45, vI (x0_t.length : Int)), (46, vI y7), (47, .bool (decide (y7 < (x0_t.length : Int))))] [] hf20 (by kernel_rfl) .nil fun a20 hf21 => ?_
  refine w_seq (by kernel_rfl) ?_
  refine w_if hf21 (b := (decide (y7 < (x0_t.length : Int)))) (by kernel_rfl) (fun hb2 => ?_) (fun hb2 => ?_)
  ·have hr8 := cond_t hb2 hr7
   refine w_skip (by kernel_rfl) ?_
   refine n_then ?_
   refine w_seq (by kernel_rfl) ?_
   refine w_block (id := 1) (by kernel_rfl) ?_
   refine w_sr (by kernel_rfl) ?_
   obtain ⟨p7, hp1999, hr9⟩ := bind_some hr8
   obtain ⟨ad1, ho1, hb3, cc1, hc1, hk1⟩ := SliceR.getI (SliceR.mono (Zone.le_trans (Zone.le_trans (Zone.le_trans k3 k5) k6) k7) hx_x0_t) hp1999
   subst hc1
   refine p_qn 3 [.pointer (some ad1), vI p7.x, vI p7.lo, vI p7.hi] [(3, pB b1 0), (5, pB b2 0), (7, .slice e1 r1.length q1), (8, .slice e2 r2.length q2), (9, pB b3 0), (44, .slice o_x0_t x0_t.length c_x0_t), (45, vI (x0_t.length : Int)), (46, vI y7), (48, vI y7), (50, .agg #[vI p7.x, vI p7.lo, vI p7.hi])] [.prop (o_x0_t = some ad1), .prop (0 ≤ y7 ∧ y7 < (x0_t.length : Nat)), .cell ((ad1.add (Int.toNat y7 * 3)).add 0) (vI p7.x), .cell ((ad1.add (Int.toNat y7 * 3)).add 1) (vI p7.lo), .cell ((ad1.add (Int.toNat y7 * 3)).add 2) (vI p7.hi)] hf21 (by kernel_rfl) (.prop ho1 (.prop hb3 (.cell (hS10.cell (hk1 0 _ rfl)) (.cell (hS10.cell (hk1 1 _ rfl)) (.cell (hS10.cell (hk1 2 _ rfl)) .nil))))) fun a21 hf22 => ?_
   refine p_box (i := 3) (d := (some 11)) (cs := [vI 0, vI 0, vI 0]) (T := 52) (v := fun b4 => pB b4 0) hS10 hf22 (fun b => by kernel_rfl) fun b4 ww10 a22 hS11 hf23 => ⟨fun _ => trivial, ?_⟩
   refine p_qn 1 [] [(3, pB b1 0), (5, pB b2 0), (7, .slice e1 r1.length q1), (8, .slice e2 r2.length q2), (9, pB b3 0), (10, vI y7), (11, pB b4 0), (44, .slice o_x0_t x0_t.length c_x0_t), (45, vI (x0_t.length : Int)), (46, vI y7), (50, .agg #[vI p7.x, vI p7.lo, vI p7.hi])] [] hf23 (by kernel_rfl) .nil fun a23 hf24 => ?_
   refine p_store_eq (i := 5) (j := 0) (b := b4) (off := 0) (vs := [vI p7.x, vI p7.lo, vI p7.hi]) (cs' := [vI p7.x, vI p7.lo, vI p7.hi]) hS11 hf24 rfl (by kernel_rfl) (by kernel_rfl) rfl fun ww11 a24 hS12 hf25 => ⟨fun _ => trivial, ?_⟩
   refine p_dt (by kernel_rfl) ?_
   have hS13 := hS12.drew
   have s1 : Sub z5 (box b4 [vI p7.x, vI p7.lo, vI p7.hi] 52 :: ownS PtT 52 e3 q3 y6 :: box b3 [.slice e3 y6.length q3] 24 :: box b2 [vI y4, vI y5] 42 :: box b1 [.slice o_x0_t x0_t.length c_x0_t, .slice o_x0_c x0_c.length c_x0_c] 27 :: L) _ := Sub.of (Zone.le_refl _) hS13
   refine w_regD (by kernel_rfl) [(0, true), (1, true), (2, true), (3, true), (4, true), (5, true), (6, true), (7, true), (8, true), (9, true), (10, true), (11, true), (12, true), (13, true), (14, true), (15, true), (16, true), (17, true), (18, true), (19, true), (20, true), (21, true), (22, true), (23, false), (24, false), (25, true), (26, false)] [24, 26] (Sub z5 (box b4 [vI p7.x, vI p7.lo, vI p7.hi] 52 :: ownS PtT 52 e3 q3 y6 :: box b3 [.slice e3 y6.length q3] 24 :: box b2 [vI y4, vI y5] 42 :: box b1 [.slice o_x0_t x0_t.length c_x0_t, .slice o_x0_c x0_c.length c_x0_c] 27 :: L)) (by kernel_rfl) s1 ?_
   obtain ⟨p8, hp2023, hr10⟩ := bind_some hr9
   obtain ⟨ad2, ho2, hb4, cc2, hc2, hk2⟩ := SliceR.getI (SliceR.mono (Zone.le_trans k6 k7) hx1) hp2023
   subst hc2
   obtain ⟨p9, hp2032, hr11⟩ := bind_some hr10
   obtain ⟨ad3, ho3, hb5, cc3, hc3, hk3⟩ := SliceR.getI (SliceR.mono k7 hx2) hp2032
   subst hc3
   obtain ⟨p10, hp2041, hr12⟩ := bind_some hr11
   obtain ⟨ad4, ho4, hb6, cc4, hc4, hk4⟩ := SliceR.getI (SliceR.mono (Zone.le_trans k6 k7) hx1) hp2041
   subst hc4
   obtain ⟨p11, hp2050, hr13⟩ := bind_some hr12
   obtain ⟨ad5, ho5, hb7, cc5, hc5, hk5⟩ := SliceR.getI (SliceR.mono k7 hx2) hp2050
   subst hc5
   refine p_qS 23 [.slice e3 y6.length q3, vI p7.x, .pointer (some ad2), vI p8, .pointer (some ad3), vI p9, .pointer (some ad4), vI p10, .pointer (some ad5), vI p11] [(3, pB b1 0), (5, pB b2 0), (7, .slice e1 r1.length q1), (8, .slice e2 r2.length q2), (9, pB b3 0), (44, .slice o_x0_t x0_t.length c_x0_t), (45, vI (x0_t.length : Int)), (46, vI y7), (52, .slice e3 y6.length q3), (73, .agg #[vI p7.x, vI (if p9 < p8 then p9 else p8), vI (if p11 > p10 then p11 else p10)])] [.cell ⟨b3, 0, none⟩ (.slice e3 y6.length q3), .cell ⟨b4, 0, none⟩ (vI p7.x), .prop (e1 = some ad2), .prop (0 ≤ y7 ∧ y7 < (r1.length : Nat)), .cell ((ad2.add (Int.toNat y7 * 1)).add 0) (vI p8), .prop (e2 = some ad3), .prop (0 ≤ y7 ∧ y7 < (r2.length : Nat)), .cell ((ad3.add (Int.toNat y7 * 1)).add 0) (vI p9), .prop (e1 = some ad4), .prop (0 ≤ y7 ∧ y7 < (r1.length : Nat)), .cell ((ad4.add (Int.toNat y7 * 1)).add 0) (vI p10), .prop (e2 = some ad5), .prop (0 ≤ y7 ∧ y7 < (r2.length : Nat)), .cell ((ad5.add (Int.toNat y7 * 1)).add 0) (vI p11)] [] s1 hf25 (by kernel_rfl) (fun _ s => (.cell (s.box (i := 2) rfl (j := 0) rfl) (.cell (s.box (i := 0) rfl (j := 0) rfl) (.prop ho2 (.prop hb4 (.cell (s.cell (hk2 0 _ rfl)) (.prop ho3 (.prop hb5 (.cell (s.cell (hk3 0 _ rfl)) (.prop ho4 (.prop hb6 (.cell (s.cell (hk4 0 _ rfl)) (.prop ho5 (.prop hb7 (.cell (s.cell (hk5 0 _ rfl)) .nil))))))))))))))) .nil fun a25 hf26 => ?_
   refine p_box (i := 23) (d := (some 74)) (cs := [vI p7.x, vI (if p9 < p8 then p9 else p8), vI (if p11 > p10 then p11 else p10)]) (T := 52) (v := fun b5 => .slice (some ⟨b5, 0, none⟩) 1 1) hS13 hf26 (fun b => by kernel_rfl) fun b5 ww12 a26 hS14 hf27 => ⟨fun _ => Sub.of (Zone.le_refl _) (St.drop 1 hS14), ?_⟩
   have hS15 := hS14.ownBox (T := PtT) (E := 52) (n := 1) (xs := [⟨p7.x, (if p9 < p8 then p9 else p8), (if p11 > p10 then p11 else p10)⟩]) (i := 0) rfl (Rows.cons (c := [vI p7.x, vI (if p9 < p8 then p9 else p8), vI (if p11 > p10 then p11 else p10)]) rfl rfl) rfl (by decide)
   have s2 : Sub z5 (box b4 [vI p7.x, vI p7.lo, vI p7.hi] 52 :: ownS PtT 52 e3 q3 y6 :: box b3 [.slice e3 y6.length q3] 24 :: box b2 [vI y4, vI y5] 42 :: box b1 [.slice o_x0_t x0_t.length c_x0_t, .slice o_x0_c x0_c.length c_x0_c] 27 :: L) _ := Sub.of (Zone.le_refl _) (St.drop 1 hS15)
   obtain ⟨d1, hd5, hr14⟩ := bind_some hr13
   refine p_append (T := PtT) (i := 24) (j := 2) (d := some 75) (o2 := (some ⟨b5, 0, none⟩)) (c2 := 1) (ys := ([⟨p7.x, (if p9 < p8 then p9 else p8), (if p11 > p10 then p11 else p10)⟩])) el22 hS15 hf27 rfl (by kernel_rfl) (hS15.ownSrc (j := 0) rfl) hd5 fun e4 q4 ww13 a27 hS16 hf28 => ⟨fun e => absurd e (by decide), ?_⟩
   refine p_qP 1 [] [(3, pB b1 0), (5, pB b2 0), (7, .slice e1 r1.length q1), (8, .slice e2 r2.length q2), (9, pB b3 0), (44, .slice o_x0_t x0_t.length c_x0_t), (45, vI (x0_t.length : Int)), (46, vI y7), (75, .slice e4 d1.length q4), (76, pB b3 0)] [] hf28 (by kernel_rfl) (fun _ => .nil) fun a28 hf29 => ?_
   refine p_store_eq (i := 26) (j := 3) (b := b3) (off := 0) (vs := [.slice e4 d1.length q4]) (cs' := [.slice e4 d1.length q4]) hS16 hf29 rfl (by kernel_rfl) (by kernel_rfl) rfl fun ww14 a29 hS17 hf30 => ⟨fun e => absurd e (by decide), ?_⟩
   refine p_done (by kernel_rfl) ?_
   refine n_block ?_
   refine n_then ?_
   refine w_q [] [(3, pB b1 0), (5, pB b2 0), (7, .slice e1 r1.length q1), (8, .slice e2 r2.length q2), (9, pB b3 0), (44, .slice o_x0_t x0_t.length c_x0_t), (45, vI (x0_t.length : Int)), (46, vI (w64 (y7 + (1 : Int))))] [] hf30 (by kernel_rfl) .nil fun a30 hf31 => ?_
   refine n_then ?_
   have hf32 := Fr.keep (ks := [3, 5, 7, 8, 9, 44, 45, 46]) (r := [(3, pB b1 0), (5, pB b2 0), (7, .slice e1 r1.length q1), (8, .slice e2 r2.length q2), (9, pB b3 0), (44, .slice o_x0_t x0_t.length c_x0_t), (45, vI (x0_t.length : Int)), (46, vI (w64 (y7 + (1 : Int))))]) hf31 (by kernel_rfl)
   exact ⟨n2, Nat.lt_succ_self n2, z5, d1, (w64 (y7 + (1 : Int))), e4, q4, k7, hf32, (St.drop 2 hS17), hr14⟩
  ·have hr15 := cond_f hb2 hr7
   refine w_exit (id := 0) (by kernel_rfl) ?_
   refine x_then ?_
   refine x_then ?_
   refine x_block ?_
   refine n_then ?_
   refine w_seq (by kernel_rfl) ?_
   have hS18 := hS10.drew
   have s3 : Sub z5 (anyA :: box b3 [.slice e3 y6.length q3] 24 :: box b2 [vI y4, vI y5] 42 :: box b1 [.slice o_x0_t x0_t.length c_x0_t, .slice o_x0_c x0_c.length c_x0_c] 27 :: L) _ := Sub.of (Zone.le_refl _) (hS18.mask (i := 0) rfl)
   refine w_regD (by kernel_rfl) [(0, true), (1, true), (2, true), (4, true), (5, true), (6, true), (3, false), (7, false), (8, true), (9, true)] [7] (Sub z5 (anyA :: box b3 [.slice e3 y6.length q3] 24 :: box b2 [vI y4, vI y5] 42 :: box b1 [.slice o_x0_t x0_t.length c_x0_t, .slice o_x0_c x0_c.length c_x0_c] 27 :: L)) (by kernel_rfl) s3 ?_
   refine p_qS 6 [.slice e3 y6.length q3, vI y4, .slice e3 y6.length q3, vI y5] [(3, pB b1 0), (5, pB b2 0), (7, .slice e1 r1.length q1), (8, .slice e2 r2.length q2), (9, pB b3 0), (78, .agg #[.slice e3 y6.length q3]), (80, vI y4), (82, .agg #[.slice e3 y6.length q3]), (84, vI y5)] [.cell ⟨b3, 0, none⟩ (.slice e3 y6.length q3), .prop ((0 : Int) ≤ 0 ∧ (0 : Int) < (2 : Nat)), .cell ⟨b2, 0, none⟩ (vI y4), .cell ⟨b3, 0, none⟩ (.slice e3 y6.length q3), .prop ((0 : Int) ≤ 1 ∧ (1 : Int) < (2 : Nat)), .cell ⟨b2, 1, none⟩ (vI y5)] [] s3 hf21 (by kernel_rfl) (fun _ s => (.cell (s.box (i := 1) rfl (j := 0) rfl) (.prop (by decide) (.cell (s.box (i := 2) rfl (j := 0) rfl) (.cell (s.box (i := 1) rfl (j := 0) rfl) (.prop (by decide) (.cell (s.box (i := 2) rfl (j := 1) rfl) .nil))))))) .nil fun a31 hf33 => ?_
   obtain ⟨z6, k8, hS19, hx3⟩ := hS18.share (j := 0) rfl
   obtain ⟨r7, hd6, hr16⟩ := bind_some hr15
   refine p_call (i := 3) (d := some 81) (f := 14) (args := #[.agg #[.slice e3 y6.length q3], vI y4]) hf33 (by kernel_rfl) (f14_ok fuel y6 y4 r7 hd6 z6 _ _ hS19 e3 q3 hx3) ?_
   rintro v5 ww15 a32 ⟨rfl, hS20⟩ hf34
   refine ⟨fun _ => Sub.of k8 (hS20.mask (i := 0) rfl), ?_⟩
   have s4 : Sub z5 (anyA :: box b3 [.slice e3 y6.length q3] 24 :: box b2 [vI y4, vI y5] 42 :: box b1 [.slice o_x0_t x0_t.length c_x0_t, .slice o_x0_c x0_c.length c_x0_c] 27 :: L) _ := Sub.of k8 (hS20.mask (i := 0) rfl)
   obtain ⟨r8, hd7, hr17⟩ := bind_some hr16
   refine p_call (i := 7) (d := some 85) (f := 14) (args := #[.agg #[.slice e3 y6.length q3], vI y5]) hf34 (by kernel_rfl) (f14_ok fuel y6 y5 r8 hd7 z6 _ _ hS20 e3 q3 hx3) ?_
   rintro v6 ww16 a33 ⟨rfl, hS21⟩ hf35
   refine ⟨fun e => absurd e (by decide), ?_⟩
   refine p_qP 2 [] [(3, pB b1 0), (5, pB b2 0), (7, .slice e1 r1.length q1), (8, .slice e2 r2.length q2), (9, pB b3 0), (12, vI (if r8 < r7 then r8 else r7))] [] hf35 (by kernel_rfl) (fun _ => .nil) fun a34 hf36 => ?_
   refine p_dt (by kernel_rfl) ?_
   refine w_seq (by kernel_rfl) ?_
   have hS22 := hS21.drew
   have s5 : Sub z6 (emp :: box b3 [.slice e3 y6.length q3] 24 :: box b2 [vI y4, vI y5] 42 :: box b1 [.slice o_x0_t x0_t.length c_x0_t, .slice o_x0_c x0_c.length c_x0_c] 27 :: L) _ := Sub.of (Zone.le_refl _) hS22
   refine w_regD (by kernel_rfl) [(0, true), (1, true), (2, true), (4, true), (5, true), (6, true), (3, false), (7, false), (8, true), (9, true)] [7] (Sub z6 (emp :: box b3 [.slice e3 y6.length q3] 24 :: box b2 [vI y4, vI y5] 42 :: box b1 [.slice o_x0_t x0_t.length c_x0_t, .slice o_x0_c x0_c.length c_x0_c] 27 :: L)) (by kernel_rfl) s5 ?_
   refine p_qS 6 [.slice e3 y6.length q3, vI y4, .slice e3 y6.length q3, vI y5] [(3, pB b1 0), (7, .slice e1 r1.length q1), (8, .slice e2 r2.length q2), (9, pB b3 0), (12, vI (if r8 < r7 then r8 else r7)), (87, .agg #[.slice e3 y6.length q3]), (89, vI y4), (91, .agg #[.slice e3 y6.length q3]), (93, vI y5)] [.cell ⟨b3, 0, none⟩ (.slice e3 y6.length q3), .prop ((0 : Int) ≤ 0 ∧ (0 : Int) < (2 : Nat)), .cell ⟨b2, 0, none⟩ (vI y4), .cell ⟨b3, 0, none⟩ (.slice e3 y6.length q3), .prop ((0 : Int) ≤ 1 ∧ (1 : Int) < (2 : Nat)), .cell ⟨b2, 1, none⟩ (vI y5)] [] s5 hf36 (by kernel_rfl) (fun _ s => (.cell (s.box (i := 1) rfl (j := 0) rfl) (.prop (by decide) (.cell (s.box (i := 2) rfl (j := 0) rfl) (.cell (s.box (i := 1) rfl (j := 0) rfl) (.prop (by decide) (.cell (s.box (i := 2) rfl (j := 1) rfl) .nil))))))) .nil fun a35 hf37 => ?_
   obtain ⟨r9, hd8, hr18⟩ := bind_some hr17
   refine p_call (i := 3) (d := some 90) (f := 14) (args := #[.agg #[.slice e3 y6.length q3], vI y4]) hf37 (by kernel_rfl) (f14_ok fuel y6 y4 r9 hd8 z6 _ _ hS22 e3 q3 hx3) ?_
   rintro v7 ww17 a36 ⟨rfl, hS23⟩ hf38
   refine ⟨fun _ => Sub.of (Zone.le_refl _) hS23, ?_⟩
   have s6 : Sub z6 (emp :: box b3 [.slice e3 y6.length q3] 24 :: box b2 [vI y4, vI y5] 42 :: box b1 [.slice o_x0_t x0_t.length c_x0_t, .slice o_x0_c x0_c.length c_x0_c] 27 :: L) _ := Sub.of (Zone.le_refl _) hS23
   obtain ⟨r10, hd9, hr19⟩ := bind_some hr18
   refine p_call (i := 7) (d := some 94) (f := 14) (args := #[.agg #[.slice e3 y6.length q3], vI y5]) hf38 (by kernel_rfl) (f14_ok fuel y6 y5 r10 hd9 z6 _ _ hS23 e3 q3 hx3) ?_
   rintro v8 ww18 a37 ⟨rfl, hS24⟩ hf39
   refine ⟨fun e => absurd e (by decide), ?_⟩
   refine p_qP 2 [] [(3, pB b1 0), (7, .slice e1 r1.length q1), (8, .slice e2 r2.length q2), (9, pB b3 0), (12, vI (if r8 < r7 then r8 else r7)), (13, vI (if r10 > r9 then r10 else r9))] [] hf39 (by kernel_rfl) (fun _ => .nil) fun a38 hf40 => ?_
   refine p_dt (by kernel_rfl) ?_
   refine w_sr (by kernel_rfl) ?_
   refine p_qn 4 [.slice e3 y6.length q3] [(3, pB b1 0), (7, .slice e1 r1.length q1), (8, .slice e2 r2.length q2), (9, pB b3 0), (12, vI (if r8 < r7 then r8 else r7)), (13, vI (if r10 > r9 then r10 else r9)), (97, .agg #[.slice e3 y6.length q3]), (100, .agg #[vI (if r8 < r7 then r8 else r7), vI (if r10 > r9 then r10 else r9)])] [.cell ⟨b3, 0, none⟩ (.slice e3 y6.length q3)] hf40 (by kernel_rfl) (.cell (hS24.box (i := 1) rfl (j := 0) rfl) .nil) fun a39 hf41 => ?_
   obtain ⟨r11, hd10, hr20⟩ := bind_some hr19
   refine p_call (i := 4) (d := some 101) (f := 19) (args := #[.agg #[.slice e3 y6.length q3], .agg #[vI (if r8 < r7 then r8 else r7), vI (if r10 > r9 then r10 else r9)]]) hf41 (by kernel_rfl) (f19_ok fuel y6 (if r8 < r7 then r8 else r7) (if r10 > r9 then r10 else r9) r11 hd10 z6 _ _ hS24 e3 q3 hx3) ?_
   rintro v9 ww19 a40 ⟨z7, k9, rfl, hS25⟩ hf42
   refine ⟨fun _ => trivial, ?_⟩
   refine p_qn 3 [] [(3, pB b1 0), (7, .slice e1 r1.length q1), (8, .slice e2 r2.length q2), (9, pB b3 0), (12, vI (if r8 < r7 then r8 else r7)), (13, vI (if r10 > r9 then r10 else r9)), (102, .agg #[vI r11.1, vI r11.2.1]), (103, vI r11.2.2)] [] hf42 (by kernel_rfl) .nil fun a41 hf43 => ?_
   refine p_box (i := 8) (d := (some 14)) (cs := [vI 0, vI 0]) (T := 41) (v := fun b6 => pB b6 0) hS25 hf43 (fun b => by kernel_rfl) fun b6 ww20 a42 hS26 hf44 => ⟨fun _ => trivial, ?_⟩
   refine p_store_eq (i := 9) (j := 0) (b := b6) (off := 0) (vs := [vI r11.1, vI r11.2.1]) (cs' := [vI r11.1, vI r11.2.1]) hS26 hf44 rfl (by kernel_rfl) (by kernel_rfl) rfl fun ww21 a43 hS27 hf45 => ⟨fun _ => trivial, ?_⟩
   refine p_qt [] [(3, pB b1 0), (7, .slice e1 r1.length q1), (8, .slice e2 r2.length q2), (9, pB b3 0), (12, vI (if r8 < r7 then r8 else r7)), (13, vI (if r10 > r9 then r10 else r9)), (14, pB b6 0), (15, vI r11.2.2)] [] hf45 (by kernel_rfl) .nil fun a44 hf46 => ?_
   refine w_sr (by kernel_rfl) ?_
   refine p_qn 5 [.slice o_x0_t x0_t.length c_x0_t] [(3, pB b1 0), (7, .slice e1 r1.length q1), (8, .slice e2 r2.length q2), (9, pB b3 0), (12, vI (if r8 < r7 then r8 else r7)), (13, vI (if r10 > r9 then r10 else r9)), (14, pB b6 0), (15, vI r11.2.2), (106, .agg #[.slice o_x0_t x0_t.length c_x0_t]), (109, .agg #[vI (if r8 < r7 then r8 else r7), vI (if r10 > r9 then r10 else r9)])] [.cell ⟨b1, 0, none⟩ (.slice o_x0_t x0_t.length c_x0_t)] hf46 (by kernel_rfl) (.cell (hS27.box (i := 4) rfl (j := 0) rfl) .nil) fun a45 hf47 => ?_
   obtain ⟨r12, hd11, hr21⟩ := bind_some hr20
   refine p_call (i := 5) (d := some 110) (f := 19) (args := #[.agg #[.slice o_x0_t x0_t.length c_x0_t], .agg #[vI (if r8 < r7 then r8 else r7), vI (if r10 > r9 then r10 else r9)]]) hf47 (by kernel_rfl) (f19_ok fuel x0_t (if r8 < r7 then r8 else r7) (if r10 > r9 then r10 else r9) r12 hd11 z7 _ _ hS27 o_x0_t c_x0_t (SliceR.mono (Zone.le_trans (Zone.le_trans (Zone.le_trans (Zone.le_trans (Zone.le_trans k3 k5) k6) k7) k8) k9) hx_x0_t)) ?_
   rintro v10 ww22 a46 ⟨z8, k10, rfl, hS28⟩ hf48
   refine ⟨fun _ => trivial, ?_⟩
   refine p_qn 3 [] [(3, pB b1 0), (7, .slice e1 r1.length q1), (8, .slice e2 r2.length q2), (9, pB b3 0), (12, vI (if r8 < r7 then r8 else r7)), (13, vI (if r10 > r9 then r10 else r9)), (14, pB b6 0), (15, vI r11.2.2), (111, .agg #[vI r12.1, vI r12.2.1]), (112, vI r12.2.2)] [] hf48 (by kernel_rfl) .nil fun a47 hf49 => ?_
   refine p_box (i := 9) (d := (some 16)) (cs := [vI 0, vI 0]) (T := 41) (v := fun b7 => pB b7 0) hS28 hf49 (fun b => by kernel_rfl) fun b7 ww23 a48 hS29 hf50 => ⟨fun _ => trivial, ?_⟩
   refine p_store_eq (i := 10) (j := 0) (b := b7) (off := 0) (vs := [vI r12.1, vI r12.2.1]) (cs' := [vI r12.1, vI r12.2.1]) hS29 hf50 rfl (by kernel_rfl) (by kernel_rfl) rfl fun ww24 a49 hS30 hf51 => ⟨fun _ => trivial, ?_⟩
   refine p_qt [] [(3, pB b1 0), (7, .slice e1 r1.length q1), (8, .slice e2 r2.length q2), (9, pB b3 0), (12, vI (if r8 < r7 then r8 else r7)), (13, vI (if r10 > r9 then r10 else r9)), (14, pB b6 0), (15, vI r11.2.2), (16, pB b7 0), (17, vI r12.2.2)] [] hf51 (by kernel_rfl) .nil fun a50 hf52 => ?_
   refine w_sr (by kernel_rfl) ?_
   refine p_qn 3 [.slice e3 y6.length q3] [(3, pB b1 0), (7, .slice e1 r1.length q1), (8, .slice e2 r2.length q2), (9, pB b3 0), (12, vI (if r8 < r7 then r8 else r7)), (13, vI (if r10 > r9 then r10 else r9)), (14, pB b6 0), (15, vI r11.2.2), (16, pB b7 0), (17, vI r12.2.2), (114, .agg #[.slice e3 y6.length q3]), (115, vI (if r8 < r7 then r8 else r7)), (116, vI (if r10 > r9 then r10 else r9))] [.cell ⟨b3, 0, none⟩ (.slice e3 y6.length q3)] hf52 (by kernel_rfl) (.cell (hS30.box (i := 3) rfl (j := 0) rfl) .nil) fun a51 hf53 => ?_
   obtain ⟨r13, hd12, hr22⟩ := bind_some hr21
   refine p_call (i := 3) (d := some 117) (f := 18) (args := #[.agg #[.slice e3 y6.length q3], vI (if r8 < r7 then r8 else r7), vI (if r10 > r9 then r10 else r9)]) hf53 (by kernel_rfl) (f18_ok fuel y6 (if r8 < r7 then r8 else r7) (if r10 > r9 then r10 else r9) r13 hd12 z8 _ _ hS30 e3 q3 (SliceR.mono (Zone.le_trans k9 k10) hx3)) ?_
   rintro v11 ww25 a52 ⟨z9, k11, rfl, hS31⟩ hf54
   refine ⟨fun _ => trivial, ?_⟩
   refine p_qt [] [(3, pB b1 0), (7, .slice e1 r1.length q1), (8, .slice e2 r2.length q2), (9, pB b3 0), (12, vI (if r8 < r7 then r8 else r7)), (13, vI (if r10 > r9 then r10 else r9)), (14, pB b6 0), (15, vI r11.2.2), (16, pB b7 0), (17, vI r12.2.2), (18, vI r13.1), (19, vI r13.2.1), (20, vI r13.2.2)] [] hf54 (by kernel_rfl) .nil fun a53 hf55 => ?_
   refine w_sr (by kernel_rfl) ?_
   refine p_qn 4 [.slice o_x0_t x0_t.length c_x0_t] [(3, pB b1 0), (7, .slice e1 r1.length q1), (8, .slice e2 r2.length q2), (9, pB b3 0), (12, vI (if r8 < r7 then r8 else r7)), (14, pB b6 0), (15, vI r11.2.2), (16, pB b7 0), (17, vI r12.2.2), (18, vI r13.1), (19, vI r13.2.1), (20, vI r13.2.2), (123, .agg #[.slice o_x0_t x0_t.length c_x0_t]), (124, vI (if r8 < r7 then r8 else r7)), (125, vI (if r10 > r9 then r10 else r9))] [.cell ⟨b1, 0, none⟩ (.slice o_x0_t x0_t.length c_x0_t)] hf55 (by kernel_rfl) (.cell (hS31.box (i := 5) rfl (j := 0) rfl) .nil) fun a54 hf56 => ?_
   obtain ⟨r14, hd13, hr23⟩ := bind_some hr22
   refine p_call (i := 4) (d := some 126) (f := 18) (args := #[.agg #[.slice o_x0_t x0_t.length c_x0_t], vI (if r8 < r7 then r8 else r7), vI (if r10 > r9 then r10 else r9)]) hf56 (by kernel_rfl) (f18_ok fuel x0_t (if r8 < r7 then r8 else r7) (if r10 > r9 then r10 else r9) r14 hd13 z9 _ _ hS31 o_x0_t c_x0_t (SliceR.mono (Zone.le_trans (Zone.le_trans (Zone.le_trans (Zone.le_trans (Zone.le_trans (Zone.le_trans (Zone.le_trans k3 k5) k6) k7) k8) k9) k10) k11) hx_x0_t)) ?_
   rintro v12 ww26 a55 ⟨z10, k12, rfl, hS32⟩ hf57
   refine ⟨fun _ => trivial, ?_⟩
   refine p_qt [] [(3, pB b1 0), (7, .slice e1 r1.length q1), (8, .slice e2 r2.length q2), (9, pB b3 0), (12, vI (if r8 < r7 then r8 else r7)), (14, pB b6 0), (15, vI r11.2.2), (16, pB b7 0), (17, vI r12.2.2), (18, vI r13.1), (19, vI r13.2.1), (20, vI r13.2.2), (21, vI r14.1), (22, vI r14.2.1), (23, vI r14.2.2)] [] hf57 (by kernel_rfl) .nil fun a56 hf58 => ?_
   refine w_sr (by kernel_rfl) ?_
   refine p_qn 2 [.slice e3 y6.length q3] [(3, pB b1 0), (7, .slice e1 r1.length q1), (8, .slice e2 r2.length q2), (12, vI (if r8 < r7 then r8 else r7)), (14, pB b6 0), (15, vI r11.2.2), (16, pB b7 0), (17, vI r12.2.2), (18, vI r13.1), (19, vI r13.2.1), (20, vI r13.2.2), (21, vI r14.1), (22, vI r14.2.1), (23, vI r14.2.2), (131, .agg #[.slice e3 y6.length q3]), (132, vI (if r8 < r7 then r8 else r7))] [.cell ⟨b3, 0, none⟩ (.slice e3 y6.length q3)] hf58 (by kernel_rfl) (.cell (hS32.box (i := 3) rfl (j := 0) rfl) .nil) fun a57 hf59 => ?_
   obtain ⟨r15, hd14, hr24⟩ := bind_some hr23
   refine p_call (i := 2) (d := some 133) (f := 27) (args := #[.agg #[.slice e3 y6.length q3], vI (if r8 < r7 then r8 else r7)]) hf59 (by kernel_rfl) (f27_ok fuel y6 (if r8 < r7 then r8 else r7) r15 hd14 z10 _ _ hS32 e3 q3 (SliceR.mono (Zone.le_trans (Zone.le_trans (Zone.le_trans k9 k10) k11) k12) hx3)) ?_
   rintro v13 ww27 a58 ⟨z11, k13, rfl, hS33⟩ hf60
   refine ⟨fun _ => trivial, ?_⟩
   refine p_qn 3 [] [(3, pB b1 0), (7, .slice e1 r1.length q1), (8, .slice e2 r2.length q2), (12, vI (if r8 < r7 then r8 else r7)), (14, pB b6 0), (15, vI r11.2.2), (16, pB b7 0), (17, vI r12.2.2), (18, vI r13.1), (19, vI r13.2.1), (20, vI r13.2.2), (21, vI r14.1), (22, vI r14.2.1), (23, vI r14.2.2), (134, .agg #[vI r15.1, vI r15.2.1]), (135, vI r15.2.2)] [] hf60 (by kernel_rfl) .nil fun a59 hf61 => ?_
   refine p_box (i := 6) (d := (some 24)) (cs := [vI 0, vI 0]) (T := 41) (v := fun b8 => pB b8 0) hS33 hf61 (fun b => by kernel_rfl) fun b8 ww28 a60 hS34 hf62 => ⟨fun _ => trivial, ?_⟩
   refine p_store_eq (i := 7) (j := 0) (b := b8) (off := 0) (vs := [vI r15.1, vI r15.2.1]) (cs' := [vI r15.1, vI r15.2.1]) hS34 hf62 rfl (by kernel_rfl) (by kernel_rfl) rfl fun ww29 a61 hS35 hf63 => ⟨fun _ => trivial, ?_⟩
   refine p_qt [] [(3, pB b1 0), (7, .slice e1 r1.length q1), (8, .slice e2 r2.length q2), (12, vI (if r8 < r7 then r8 else r7)), (14, pB b6 0), (15, vI r11.2.2), (16, pB b7 0), (17, vI r12.2.2), (18, vI r13.1), (19, vI r13.2.1), (20, vI r13.2.2), (21, vI r14.1), (22, vI r14.2.1), (23, vI r14.2.2), (24, pB b8 0), (25, vI r15.2.2)] [] hf63 (by kernel_rfl) .nil fun a62 hf64 => ?_
   refine w_sr (by kernel_rfl) ?_
   refine p_qn 3 [.slice o_x0_t x0_t.length c_x0_t] [(3, pB b1 0), (7, .slice e1 r1.length q1), (8, .slice e2 r2.length q2), (14, pB b6 0), (15, vI r11.2.2), (16, pB b7 0), (17, vI r12.2.2), (18, vI r13.1), (19, vI r13.2.1), (20, vI r13.2.2), (21, vI r14.1), (22, vI r14.2.1), (23, vI r14.2.2), (24, pB b8 0), (25, vI r15.2.2), (138, .agg #[.slice o_x0_t x0_t.length c_x0_t]), (139, vI (if r8 < r7 then r8 else r7))] [.cell ⟨b1, 0, none⟩ (.slice o_x0_t x0_t.length c_x0_t)] hf64 (by kernel_rfl) (.cell (hS35.box (i := 6) rfl (j := 0) rfl) .nil) fun a63 hf65 => ?_
   obtain ⟨r16, hd15, hr25⟩ := bind_some hr24
   refine p_call (i := 3) (d := some 140) (f := 27) (args := #[.agg #[.slice o_x0_t x0_t.length c_x0_t], vI (if r8 < r7 then r8 else r7)]) hf65 (by kernel_rfl) (f27_ok fuel x0_t (if r8 < r7 then r8 else r7) r16 hd15 z11 _ _ hS35 o_x0_t c_x0_t (SliceR.mono (Zone.le_trans (Zone.le_trans (Zone.le_trans (Zone.le_trans (Zone.le_trans (Zone.le_trans (Zone.le_trans (Zone.le_trans (Zone.le_trans k3 k5) k6) k7) k8) k9) k10) k11) k12) k13) hx_x0_t)) ?_
   rintro v14 ww30 a64 ⟨z12, k14, rfl, hS36⟩ hf66
   refine ⟨fun _ => trivial, ?_⟩
   refine p_qn 3 [] [(3, pB b1 0), (7, .slice e1 r1.length q1), (8, .slice e2 r2.length q2), (14, pB b6 0), (15, vI r11.2.2), (16, pB b7 0), (17, vI r12.2.2), (18, vI r13.1), (19, vI r13.2.1), (20, vI r13.2.2), (21, vI r14.1), (22, vI r14.2.1), (23, vI r14.2.2), (24, pB b8 0), (25, vI r15.2.2), (141, .agg #[vI r16.1, vI r16.2.1]), (142, vI r16.2.2)] [] hf66 (by kernel_rfl) .nil fun a65 hf67 => ?_
   refine p_box (i := 7) (d := (some 26)) (cs := [vI 0, vI 0]) (T := 41) (v := fun b9 => pB b9 0) hS36 hf67 (fun b => by kernel_rfl) fun b9 ww31 a66 hS37 hf68 => ⟨fun _ => trivial, ?_⟩
   refine p_store_eq (i := 8) (j := 0) (b := b9) (off := 0) (vs := [vI r16.1, vI r16.2.1]) (cs' := [vI r16.1, vI r16.2.1]) hS37 hf68 rfl (by kernel_rfl) (by kernel_rfl) rfl fun ww32 a67 hS38 hf69 => ⟨fun _ => trivial, ?_⟩
   refine p_qt [] [(3, pB b1 0), (7, .slice e1 r1.length q1), (8, .slice e2 r2.length q2), (14, pB b6 0), (15, vI r11.2.2), (16, pB b7 0), (17, vI r12.2.2), (18, vI r13.1), (19, vI r13.2.1), (20, vI r13.2.2), (21, vI r14.1), (22, vI r14.2.1), (23, vI r14.2.2), (24, pB b8 0), (25, vI r15.2.2), (26, pB b9 0), (27, vI r16.2.2)] [] hf69 (by kernel_rfl) .nil fun a68 hf70 => ?_
   refine w_seq (by kernel_rfl) ?_
   refine w_mid (by kernel_rfl) (fun a w => ∃ z13 : Zone, ∃ y3 : Bool, Zone.le z12 z13 ∧ Fr a 242 [(3, pB b1 0), (7, .slice e1 r1.length q1), (8, .slice e2 r2.length q2), (202, .bool y3)] ∧ St z13 (box b9 [vI r16.1, vI r16.2.1] 41 :: box b8 [vI r15.1, vI r15.2.1] 41 :: box b7 [vI r12.1, vI r12.2.1] 41 :: box b6 [vI r11.1, vI r11.2.1] 41 :: emp :: box b3 [.slice e3 y6.length q3] 24 :: box b2 [vI y4, vI y5] 42 :: box b1 [.slice o_x0_t x0_t.length c_x0_t, .slice o_x0_c x0_c.length c_x0_c] 27 :: L) w ∧ (F5_j1 fuel x0_t r1 r2 y3) = some r) ?_ ?_
   ·skip
    refine w_reg (by kernel_rfl) ?_
    refine p_qn 3 [] [(3, pB b1 0), (7, .slice e1 r1.length q1), (8, .slice e2 r2.length q2), (14, pB b6 0), (16, pB b7 0), (17, vI r12.2.2), (18, vI r13.1), (19, vI r13.2.1), (20, vI r13.2.2), (21, vI r14.1), (22, vI r14.2.1), (23, vI r14.2.2), (24, pB b8 0), (25, vI r15.2.2), (26, pB b9 0), (27, vI r16.2.2), (145, .bool (r11.2.2 != (0 : Int)))] [] hf70 (by kernel_rfl) .nil fun a69 hf71 => ?_
    rcases Bool.eq_false_or_eq_true (r11.2.2 != (0 : Int)) with hb8 | hb8
    ·have hr26 := cond_t hb8 hr25
     have hf72 := Fr.conv hf71 (congrArg (fun z => ([(3, pB b1 0), (7, .slice e1 r1.length q1), (8, .slice e2 r2.length q2), (14, pB b6 0), (16, pB b7 0), (17, vI r12.2.2), (18, vI r13.1), (19, vI r13.2.1), (20, vI r13.2.2), (21, vI r14.1), (22, vI r14.2.1), (23, vI r14.2.2), (24, pB b8 0), (25, vI r15.2.2), (26, pB b9 0), (27, vI r16.2.2), (145, .bool z)] : FL)) hb8)
     refine p_qt [] [(3, pB b1 0), (7, .slice e1 r1.length q1), (8, .slice e2 r2.length q2), (202, .bool true)] [] hf72 (by kernel_rfl) .nil fun a70 hf73 => ?_
     have hf74 := Fr.keep (ks := [3, 7, 8, 202]) (r := [(3, pB b1 0), (7, .slice e1 r1.length q1), (8, .slice e2 r2.length q2), (202, .bool true)]) hf73 (by kernel_rfl)
     exact ⟨z12, true, (Zone.le_refl _), hf74, hS38, hr26⟩
    ·have hr27 := cond_f hb8 hr25
     have hf75 := Fr.conv hf71 (congrArg (fun z => ([(3, pB b1 0), (7, .slice e1 r1.length q1), (8, .slice e2 r2.length q2), (14, pB b6 0), (16, pB b7 0), (17, vI r12.2.2), (18, vI r13.1), (19, vI r13.2.1), (20, vI r13.2.2), (21, vI r14.1), (22, vI r14.2.1), (23, vI r14.2.2), (24, pB b8 0), (25, vI r15.2.2), (26, pB b9 0), (27, vI r16.2.2), (145, .bool z)] : FL)) hb8)
     refine p_qn 4 [] [(3, pB b1 0), (7, .slice e1 r1.length q1), (8, .slice e2 r2.length q2), (14, pB b6 0), (16, pB b7 0), (18, vI r13.1), (19, vI r13.2.1), (20, vI r13.2.2), (21, vI r14.1), (22, vI r14.2.1), (23, vI r14.2.2), (24, pB b8 0), (25, vI r15.2.2), (26, pB b9 0), (27, vI r16.2.2), (149, .bool (r12.2.2 != (0 : Int)))] [] hf75 (by kernel_rfl) .nil fun a71 hf76 => ?_
     rcases Bool.eq_false_or_eq_true (r12.2.2 != (0 : Int)) with hb9 | hb9
     ·have hr28 := cond_t hb9 hr27
      have hf77 := Fr.conv hf76 (congrArg (fun z => ([(3, pB b1 0), (7, .slice e1 r1.length q1), (8, .slice e2 r2.length q2), (14, pB b6 0), (16, pB b7 0), (18, vI r13.1), (19, vI r13.2.1), (20, vI r13.2.2), (21, vI r14.1), (22, vI r14.2.1), (23, vI r14.2.2), (24, pB b8 0), (25, vI r15.2.2), (26, pB b9 0), (27, vI r16.2.2), (149, .bool z)] : FL)) hb9)
      refine p_qt [] [(3, pB b1 0), (7, .slice e1 r1.length q1), (8, .slice e2 r2.length q2), (202, .bool true)] [] hf77 (by kernel_rfl) .nil fun a72 hf78 => ?_
      have hf79 := Fr.keep (ks := [3, 7, 8, 202]) (r := [(3, pB b1 0), (7, .slice e1 r1.length q1), (8, .slice e2 r2.length q2), (202, .bool true)]) hf78 (by kernel_rfl)
      exact ⟨z12, true, (Zone.le_refl _), hf79, hS38, hr28⟩
     ·have hr29 := cond_f hb9 hr27
      have hf80 := Fr.conv hf76 (congrArg (fun z => ([(3, pB b1 0), (7, .slice e1 r1.length q1), (8, .slice e2 r2.length q2), (14, pB b6 0), (16, pB b7 0), (18, vI r13.1), (19, vI r13.2.1), (20, vI r13.2.2), (21, vI r14.1), (22, vI r14.2.1), (23, vI r14.2.2), (24, pB b8 0), (25, vI r15.2.2), (26, pB b9 0), (27, vI r16.2.2), (149, .bool z)] : FL)) hb9)
      refine p_qn 4 [] [(3, pB b1 0), (7, .slice e1 r1.length q1), (8, .slice e2 r2.length q2), (14, pB b6 0), (16, pB b7 0), (18, vI r13.1), (19, vI r13.2.1), (21, vI r14.1), (22, vI r14.2.1), (23, vI r14.2.2), (24, pB b8 0), (25, vI r15.2.2), (26, pB b9 0), (27, vI r16.2.2), (153, .bool (r13.2.2 != (0 : Int)))] [] hf80 (by kernel_rfl) .nil fun a73 hf81 => ?_
      rcases Bool.eq_false_or_eq_true (r13.2.2 != (0 : Int)) with hb10 | hb10
      ·have hr30 := cond_t hb10 hr29
       have hf82 := Fr.conv hf81 (congrArg (fun z => ([(3, pB b1 0), (7, .slice e1 r1.length q1), (8, .slice e2 r2.length q2), (14, pB b6 0), (16, pB b7 0), (18, vI r13.1), (19, vI r13.2.1), (21, vI r14.1), (22, vI r14.2.1), (23, vI r14.2.2), (24, pB b8 0), (25, vI r15.2.2), (26, pB b9 0), (27, vI r16.2.2), (153, .bool z)] : FL)) hb10)
       refine p_qt [] [(3, pB b1 0), (7, .slice e1 r1.length q1), (8, .slice e2 r2.length q2), (202, .bool true)] [] hf82 (by kernel_rfl) .nil fun a74 hf83 => ?_
       have hf84 := Fr.keep (ks := [3, 7, 8, 202]) (r := [(3, pB b1 0), (7, .slice e1 r1.length q1), (8, .slice e2 r2.length q2), (202, .bool true)]) hf83 (by kernel_rfl)
       exact ⟨z12, true, (Zone.le_refl _), hf84, hS38, hr30⟩
      ·have hr31 := cond_f hb10 hr29
       have hf85 := Fr.conv hf81 (congrArg (fun z => ([(3, pB b1 0), (7, .slice e1 r1.length q1), (8, .slice e2 r2.length q2), (14, pB b6 0), (16, pB b7 0), (18, vI r13.1), (19, vI r13.2.1), (21, vI r14.1), (22, vI r14.2.1), (23, vI r14.2.2), (24, pB b8 0), (25, vI r15.2.2), (26, pB b9 0), (27, vI r16.2.2), (153, .bool z)] : FL)) hb10)
       refine p_qn 4 [] [(3, pB b1 0), (7, .slice e1 r1.length q1), (8, .slice e2 r2.length q2), (14, pB b6 0), (16, pB b7 0), (18, vI r13.1), (19, vI r13.2.1), (21, vI r14.1), (22, vI r14.2.1), (24, pB b8 0), (25, vI r15.2.2), (26, pB b9 0), (27, vI r16.2.2), (157, .bool (r14.2.2 != (0 : Int)))] [] hf85 (by kernel_rfl) .nil fun a75 hf86 => ?_
       rcases Bool.eq_false_or_eq_true (r14.2.2 != (0 : Int)) with hb11 | hb11
       ·have hr32 := cond_t hb11 hr31
        have hf87 := Fr.conv hf86 (congrArg (fun z => ([(3, pB b1 0), (7, .slice e1 r1.length q1), (8, .slice e2 r2.length q2), (14, pB b6 0), (16, pB b7 0), (18, vI r13.1), (19, vI r13.2.1), (21, vI r14.1), (22, vI r14.2.1), (24, pB b8 0), (25, vI r15.2.2), (26, pB b9 0), (27, vI r16.2.2), (157, .bool z)] : FL)) hb11)
        refine p_qt [] [(3, pB b1 0), (7, .slice e1 r1.length q1), (8, .slice e2 r2.length q2), (202, .bool true)] [] hf87 (by kernel_rfl) .nil fun a76 hf88 => ?_
        have hf89 := Fr.keep (ks := [3, 7, 8, 202]) (r := [(3, pB b1 0), (7, .slice e1 r1.length q1), (8, .slice e2 r2.length q2), (202, .bool true)]) hf88 (by kernel_rfl)
        exact ⟨z12, true, (Zone.le_refl _), hf89, hS38, hr32⟩
       ·have hr33 := cond_f hb11 hr31
        have hf90 := Fr.conv hf86 (congrArg (fun z => ([(3, pB b1 0), (7, .slice e1 r1.length q1), (8, .slice e2 r2.length q2), (14, pB b6 0), (16, pB b7 0), (18, vI r13.1), (19, vI r13.2.1), (21, vI r14.1), (22, vI r14.2.1), (24, pB b8 0), (25, vI r15.2.2), (26, pB b9 0), (27, vI r16.2.2), (157, .bool z)] : FL)) hb11)
        refine p_qn 4 [] [(3, pB b1 0), (7, .slice e1 r1.length q1), (8, .slice e2 r2.length q2), (14, pB b6 0), (16, pB b7 0), (18, vI r13.1), (19, vI r13.2.1), (21, vI r14.1), (22, vI r14.2.1), (24, pB b8 0), (26, pB b9 0), (27, vI r16.2.2), (161, .bool (r15.2.2 != (0 : Int)))] [] hf90 (by kernel_rfl) .nil fun a77 hf91 => ?_
        rcases Bool.eq_false_or_eq_true (r15.2.2 != (0 : Int)) with hb12 | hb12
        ·have hr34 := cond_t hb12 hr33
         have hf92 := Fr.conv hf91 (congrArg (fun z => ([(3, pB b1 0), (7, .slice e1 r1.length q1), (8, .slice e2 r2.length q2), (14, pB b6 0), (16, pB b7 0), (18, vI r13.1), (19, vI r13.2.1), (21, vI r14.1), (22, vI r14.2.1), (24, pB b8 0), (26, pB b9 0), (27, vI r16.2.2), (161, .bool z)] : FL)) hb12)
         refine p_qt [] [(3, pB b1 0), (7, .slice e1 r1.length q1), (8, .slice e2 r2.length q2), (202, .bool true)] [] hf92 (by kernel_rfl) .nil fun a78 hf93 => ?_
         have hf94 := Fr.keep (ks := [3, 7, 8, 202]) (r := [(3, pB b1 0), (7, .slice e1 r1.length q1), (8, .slice e2 r2.length q2), (202, .bool true)]) hf93 (by kernel_rfl)
         exact ⟨z12, true, (Zone.le_refl _), hf94, hS38, hr34⟩
        ·have hr35 := cond_f hb12 hr33
         have hf95 := Fr.conv hf91 (congrArg (fun z => ([(3, pB b1 0), (7, .slice e1 r1.length q1), (8, .slice e2 r2.length q2), (14, pB b6 0), (16, pB b7 0), (18, vI r13.1), (19, vI r13.2.1), (21, vI r14.1), (22, vI r14.2.1), (24, pB b8 0), (26, pB b9 0), (27, vI r16.2.2), (161, .bool z)] : FL)) hb12)
         refine p_qn 4 [] [(3, pB b1 0), (7, .slice e1 r1.length q1), (8, .slice e2 r2.length q2), (14, pB b6 0), (16, pB b7 0), (18, vI r13.1), (19, vI r13.2.1), (21, vI r14.1), (22, vI r14.2.1), (24, pB b8 0), (26, pB b9 0), (165, .bool (r16.2.2 != (0 : Int)))] [] hf95 (by kernel_rfl) .nil fun a79 hf96 => ?_
         rcases Bool.eq_false_or_eq_true (r16.2.2 != (0 : Int)) with hb13 | hb13
         ·have hr36 := cond_t hb13 hr35
          have hf97 := Fr.conv hf96 (congrArg (fun z => ([(3, pB b1 0), (7, .slice e1 r1.length q1), (8, .slice e2 r2.length q2), (14, pB b6 0), (16, pB b7 0), (18, vI r13.1), (19, vI r13.2.1), (21, vI r14.1), (22, vI r14.2.1), (24, pB b8 0), (26, pB b9 0), (165, .bool z)] : FL)) hb13)
          refine p_qt [] [(3, pB b1 0), (7, .slice e1 r1.length q1), (8, .slice e2 r2.length q2), (202, .bool true)] [] hf97 (by kernel_rfl) .nil fun a80 hf98 => ?_
          have hf99 := Fr.keep (ks := [3, 7, 8, 202]) (r := [(3, pB b1 0), (7, .slice e1 r1.length q1), (8, .slice e2 r2.length q2), (202, .bool true)]) hf98 (by kernel_rfl)
          exact ⟨z12, true, (Zone.le_refl _), hf99, hS38, hr36⟩
         ·have hr37 := cond_f hb13 hr35
          have hf100 := Fr.conv hf96 (congrArg (fun z => ([(3, pB b1 0), (7, .slice e1 r1.length q1), (8, .slice e2 r2.length q2), (14, pB b6 0), (16, pB b7 0), (18, vI r13.1), (19, vI r13.2.1), (21, vI r14.1), (22, vI r14.2.1), (24, pB b8 0), (26, pB b9 0), (165, .bool z)] : FL)) hb13)
          refine p_qn 7 [vI r11.1, vI r12.1] [(3, pB b1 0), (7, .slice e1 r1.length q1), (8, .slice e2 r2.length q2), (14, pB b6 0), (16, pB b7 0), (18, vI r13.1), (19, vI r13.2.1), (21, vI r14.1), (22, vI r14.2.1), (24, pB b8 0), (26, pB b9 0), (172, .bool (decide (r11.1 < r12.1)))] [.cell ⟨b6, 0, none⟩ (vI r11.1), .cell ⟨b7, 0, none⟩ (vI r12.1)] hf100 (by kernel_rfl) (.cell (hS38.box (i := 3) rfl (j := 0) rfl) (.cell (hS38.box (i := 2) rfl (j := 0) rfl) .nil)) fun a81 hf101 => ?_
          rcases Bool.eq_false_or_eq_true (decide (r11.1 < r12.1)) with hb14 | hb14
          ·have hr38 := cond_t hb14 hr37
           have hf102 := Fr.conv hf101 (congrArg (fun z => ([(3, pB b1 0), (7, .slice e1 r1.length q1), (8, .slice e2 r2.length q2), (14, pB b6 0), (16, pB b7 0), (18, vI r13.1), (19, vI r13.2.1), (21, vI r14.1), (22, vI r14.2.1), (24, pB b8 0), (26, pB b9 0), (172, .bool z)] : FL)) hb14)
           refine p_qt [] [(3, pB b1 0), (7, .slice e1 r1.length q1), (8, .slice e2 r2.length q2), (202, .bool true)] [] hf102 (by kernel_rfl) .nil fun a82 hf103 => ?_
           have hf104 := Fr.keep (ks := [3, 7, 8, 202]) (r := [(3, pB b1 0), (7, .slice e1 r1.length q1), (8, .slice e2 r2.length q2), (202, .bool true)]) hf103 (by kernel_rfl)
           exact ⟨z12, true, (Zone.le_refl _), hf104, hS38, hr38⟩
          ·have hr39 := cond_f hb14 hr37
           have hf105 := Fr.conv hf101 (congrArg (fun z => ([(3, pB b1 0), (7, .slice e1 r1.length q1), (8, .slice e2 r2.length q2), (14, pB b6 0), (16, pB b7 0), (18, vI r13.1), (19, vI r13.2.1), (21, vI r14.1), (22, vI r14.2.1), (24, pB b8 0), (26, pB b9 0), (172, .bool z)] : FL)) hb14)
           refine p_qn 7 [vI r11.2.1, vI r12.2.1] [(3, pB b1 0), (7, .slice e1 r1.length q1), (8, .slice e2 r2.length q2), (18, vI r13.1), (19, vI r13.2.1), (21, vI r14.1), (22, vI r14.2.1), (24, pB b8 0), (26, pB b9 0), (179, .bool (decide (r11.2.1 > r12.2.1)))] [.cell ⟨b6, 1, none⟩ (vI r11.2.1), .cell ⟨b7, 1, none⟩ (vI r12.2.1)] hf105 (by kernel_rfl) (.cell (hS38.box (i := 3) rfl (j := 1) rfl) (.cell (hS38.box (i := 2) rfl (j := 1) rfl) .nil)) fun a83 hf106 => ?_
           rcases Bool.eq_false_or_eq_true (decide (r11.2.1 > r12.2.1)) with hb15 | hb15
           ·have hr40 := cond_t hb15 hr39
            have hf107 := Fr.conv hf106 (congrArg (fun z => ([(3, pB b1 0), (7, .slice e1 r1.length q1), (8, .slice e2 r2.length q2), (18, vI r13.1), (19, vI r13.2.1), (21, vI r14.1), (22, vI r14.2.1), (24, pB b8 0), (26, pB b9 0), (179, .bool z)] : FL)) hb15)
            refine p_qt [] [(3, pB b1 0), (7, .slice e1 r1.length q1), (8, .slice e2 r2.length q2), (202, .bool true)] [] hf107 (by kernel_rfl) .nil fun a84 hf108 => ?_
            have hf109 := Fr.keep (ks := [3, 7, 8, 202]) (r := [(3, pB b1 0), (7, .slice e1 r1.length q1), (8, .slice e2 r2.length q2), (202, .bool true)]) hf108 (by kernel_rfl)
            exact ⟨z12, true, (Zone.le_refl _), hf109, hS38, hr40⟩
           ·have hr41 := cond_f hb15 hr39
            have hf110 := Fr.conv hf106 (congrArg (fun z => ([(3, pB b1 0), (7, .slice e1 r1.length q1), (8, .slice e2 r2.length q2), (18, vI r13.1), (19, vI r13.2.1), (21, vI r14.1), (22, vI r14.2.1), (24, pB b8 0), (26, pB b9 0), (179, .bool z)] : FL)) hb15)
            refine p_qn 5 [] [(3, pB b1 0), (7, .slice e1 r1.length q1), (8, .slice e2 r2.length q2), (19, vI r13.2.1), (22, vI r14.2.1), (24, pB b8 0), (26, pB b9 0), (184, .bool (decide (r13.1 < r14.1)))] [] hf110 (by kernel_rfl) .nil fun a85 hf111 => ?_
            rcases Bool.eq_false_or_eq_true (decide (r13.1 < r14.1)) with hb16 | hb16
            ·have hr42 := cond_t hb16 hr41
             have hf112 := Fr.conv hf111 (congrArg (fun z => ([(3, pB b1 0), (7, .slice e1 r1.length q1), (8, .slice e2 r2.length q2), (19, vI r13.2.1), (22, vI r14.2.1), (24, pB b8 0), (26, pB b9 0), (184, .bool z)] : FL)) hb16)
             refine p_qt [] [(3, pB b1 0), (7, .slice e1 r1.length q1), (8, .slice e2 r2.length q2), (202, .bool true)] [] hf112 (by kernel_rfl) .nil fun a86 hf113 => ?_
             have hf114 := Fr.keep (ks := [3, 7, 8, 202]) (r := [(3, pB b1 0), (7, .slice e1 r1.length q1), (8, .slice e2 r2.length q2), (202, .bool true)]) hf113 (by kernel_rfl)
             exact ⟨z12, true, (Zone.le_refl _), hf114, hS38, hr42⟩
            ·have hr43 := cond_f hb16 hr41
             have hf115 := Fr.conv hf111 (congrArg (fun z => ([(3, pB b1 0), (7, .slice e1 r1.length q1), (8, .slice e2 r2.length q2), (19, vI r13.2.1), (22, vI r14.2.1), (24, pB b8 0), (26, pB b9 0), (184, .bool z)] : FL)) hb16)
             refine p_qn 5 [] [(3, pB b1 0), (7, .slice e1 r1.length q1), (8, .slice e2 r2.length q2), (24, pB b8 0), (26, pB b9 0), (189, .bool (decide (r13.2.1 > r14.2.1)))] [] hf115 (by kernel_rfl) .nil fun a87 hf116 => ?_
             rcases Bool.eq_false_or_eq_true (decide (r13.2.1 > r14.2.1)) with hb17 | hb17
             ·have hr44 := cond_t hb17 hr43
              have hf117 := Fr.conv hf116 (congrArg (fun z => ([(3, pB b1 0), (7, .slice e1 r1.length q1), (8, .slice e2 r2.length q2), (24, pB b8 0), (26, pB b9 0), (189, .bool z)] : FL)) hb17)
              refine p_qt [] [(3, pB b1 0), (7, .slice e1 r1.length q1), (8, .slice e2 r2.length q2), (202, .bool true)] [] hf117 (by kernel_rfl) .nil fun a88 hf118 => ?_
              have hf119 := Fr.keep (ks := [3, 7, 8, 202]) (r := [(3, pB b1 0), (7, .slice e1 r1.length q1), (8, .slice e2 r2.length q2), (202, .bool true)]) hf118 (by kernel_rfl)
              exact ⟨z12, true, (Zone.le_refl _), hf119, hS38, hr44⟩
             ·have hr45 := cond_f hb17 hr43
              have hf120 := Fr.conv hf116 (congrArg (fun z => ([(3, pB b1 0), (7, .slice e1 r1.length q1), (8, .slice e2 r2.length q2), (24, pB b8 0), (26, pB b9 0), (189, .bool z)] : FL)) hb17)
              refine p_qn 7 [vI r15.1, vI r16.1] [(3, pB b1 0), (7, .slice e1 r1.length q1), (8, .slice e2 r2.length q2), (24, pB b8 0), (26, pB b9 0), (196, .bool (decide (r15.1 < r16.1)))] [.cell ⟨b8, 0, none⟩ (vI r15.1), .cell ⟨b9, 0, none⟩ (vI r16.1)] hf120 (by kernel_rfl) (.cell (hS38.box (i := 1) rfl (j := 0) rfl) (.cell (hS38.box (i := 0) rfl (j := 0) rfl) .nil)) fun a89 hf121 => ?_
              rcases Bool.eq_false_or_eq_true (decide (r15.1 < r16.1)) with hb18 | hb18
              ·have hr46 := cond_t hb18 hr45
               have hf122 := Fr.conv hf121 (congrArg (fun z => ([(3, pB b1 0), (7, .slice e1 r1.length q1), (8, .slice e2 r2.length q2), (24, pB b8 0), (26, pB b9 0), (196, .bool z)] : FL)) hb18)
               refine p_qt [] [(3, pB b1 0), (7, .slice e1 r1.length q1), (8, .slice e2 r2.length q2), (202, .bool true)] [] hf122 (by kernel_rfl) .nil fun a90 hf123 => ?_
               have hf124 := Fr.keep (ks := [3, 7, 8, 202]) (r := [(3, pB b1 0), (7, .slice e1 r1.length q1), (8, .slice e2 r2.length q2), (202, .bool true)]) hf123 (by kernel_rfl)
               exact ⟨z12, true, (Zone.le_refl _), hf124, hS38, hr46⟩
              ·have hr47 := cond_f hb18 hr45
               have hf125 := Fr.conv hf121 (congrArg (fun z => ([(3, pB b1 0), (7, .slice e1 r1.length q1), (8, .slice e2 r2.length q2), (24, pB b8 0), (26, pB b9 0), (196, .bool z)] : FL)) hb18)
               refine p_qt [vI r15.2.1, vI r16.2.1] [(3, pB b1 0), (7, .slice e1 r1.length q1), (8, .slice e2 r2.length q2), (202, .bool (decide (r15.2.1 > r16.2.1)))] [.cell ⟨b8, 1, none⟩ (vI r15.2.1), .cell ⟨b9, 1, none⟩ (vI r16.2.1)] hf125 (by kernel_rfl) (.cell (hS38.box (i := 1) rfl (j := 1) rfl) (.cell (hS38.box (i := 0) rfl (j := 1) rfl) .nil)) fun a91 hf126 => ?_
               have hf127 := Fr.keep (ks := [3, 7, 8, 202]) (r := [(3, pB b1 0), (7, .slice e1 r1.length q1), (8, .slice e2 r2.length q2), (202, .bool (decide (r15.2.1 > r16.2.1)))]) hf126 (by kernel_rfl)
               exact ⟨z12, (decide (r15.2.1 > r16.2.1)), (Zone.le_refl _), hf127, hS38, hr47⟩
   ·rintro a92 ww33 ⟨z13, y3, k15, hf128, hS39, hr48⟩
    refine w_if hf128 (b := y3) (by kernel_rfl) (fun hb19 => ?_) (fun hb19 => ?_)
    ·have hr49 := cond_t hb19 hr48
     refine w_sq [] [(6, .bool false)] [] hf128 (by kernel_rfl) .nil fun a93 hf129 => ?_
     refine w_ret (by kernel_rfl) ?_
     refine r_then ?_
     refine p_ret (os := []) (v := .bool false) (obs := []) hf129 (by kernel_rfl) .nil ?_
     obtain rfl := some_eq hr49
     exact ⟨_, rfl, z13, (Zone.le_trans (Zone.le_trans (Zone.le_trans (Zone.le_trans (Zone.le_trans (Zone.le_trans (Zone.le_trans (Zone.le_trans (Zone.le_trans (Zone.le_trans (Zone.le_trans k3 k5) k6) k7) k8) k9) k10) k11) k12) k13) k14) k15), rfl, (St.drop 8 hS39)⟩
    ·have hr50 := cond_f hb19 hr48
     refine w_skip (by kernel_rfl) ?_
     refine n_then ?_
     refine w_seq (by kernel_rfl) ?_
     refine w_sq [] [(3, pB b1 0), (7, .slice e1 r1.length q1), (8, .slice e2 r2.length q2), (28, vI 1)] [] hf128 (by kernel_rfl) .nil fun a94 hf130 => ?_
     refine w_block (id := 2) (by kernel_rfl) ?_
     have hf131 := Fr.keep (ks := [3, 7, 8, 28]) (r := [(3, pB b1 0), (7, .slice e1 r1.length q1), (8, .slice e2 r2.length q2), (28, vI 1)]) hf130 (by kernel_rfl)
     refine w_loop (by kernel_rfl) (fun n a w => ∃ z14 : Zone, ∃ y1 : Int, Zone.le z13 z14 ∧ Fr a 242 [(3, pB b1 0), (7, .slice e1 r1.length q1), (8, .slice e2 r2.length q2), (28, vI y1)] ∧ St z14 (box b9 [vI r16.1, vI r16.2.1] 41 :: box b8 [vI r15.1, vI r15.2.1] 41 :: box b7 [vI r12.1, vI r12.2.1] 41 :: box b6 [vI r11.1, vI r11.2.1] 41 :: emp :: box b3 [.slice e3 y6.length q3] 24 :: box b2 [vI y4, vI y5] 42 :: box b1 [.slice o_x0_t x0_t.length c_x0_t, .slice o_x0_c x0_c.length c_x0_c] 27 :: L) w ∧ (F5_l2 fuel x0_t r1 r2 n y1) = some r) fuel ⟨z13, 1, (Zone.le_refl _), hf131, hS39, hr50⟩ ?_
     rintro n4 a95 ww34 ⟨z14, y1, k16, hf132, hS40, hr51⟩
     cases n4 with
     | zero => cases hr51
     | succ n1 =>
     refine w_seq (by kernel_rfl) ?_
     refine w_sq [] [(3, pB b1 0), (7, .slice e1 r1.length q1), (8, .slice e2 r2.length q2), (28, vI y1), (206, .bool (decide (y1 < (r1.length : Int))))] [] hf132 (by kernel_rfl) .nil fun a96 hf133 => ?_
     refine w_if hf133 (b := (decide (y1 < (r1.length : Int)))) (by kernel_rfl) (fun hb20 => ?_) (fun hb20 => ?_)
     ·have hr52 := cond_t hb20 hr51
      refine w_skip (by kernel_rfl) ?_
      refine n_then ?_
      refine w_seq (by kernel_rfl) ?_
      refine w_block (id := 3) (by kernel_rfl) ?_
      refine w_mid (by kernel_rfl) (fun a w => ∃ z15 : Zone, ∃ y2 : Bool, Zone.le z14 z15 ∧ Fr a 242 [(3, pB b1 0), (7, .slice e1 r1.length q1), (8, .slice e2 r2.length q2), (28, vI y1), (240, .bool y2)] ∧ St z15 (box b9 [vI r16.1, vI r16.2.1] 41 :: box b8 [vI r15.1, vI r15.2.1] 41 :: box b7 [vI r12.1, vI r12.2.1] 41 :: box b6 [vI r11.1, vI r11.2.1] 41 :: emp :: box b3 [.slice e3 y6.length q3] 24 :: box b2 [vI y4, vI y5] 42 :: box b1 [.slice o_x0_t x0_t.length c_x0_t, .slice o_x0_c x0_c.length c_x0_c] 27 :: L) w ∧ (F5_j2 (F5_l2 fuel x0_t r1 r2 n1) y1 y2) = some r) ?_ ?_
      ·skip
       have hS41 := hS40.drew
       have s7 : Sub z14 (box b9 [vI r16.1, vI r16.2.1] 41 :: box b8 [vI r15.1, vI r15.2.1] 41 :: box b7 [vI r12.1, vI r12.2.1] 41 :: box b6 [vI r11.1, vI r11.2.1] 41 :: emp :: box b3 [.slice e3 y6.length q3] 24 :: box b2 [vI y4, vI y5] 42 :: box b1 [.slice o_x0_t x0_t.length c_x0_t, .slice o_x0_c x0_c.length c_x0_c] 27 :: L) _ := Sub.of (Zone.le_refl _) hS41
       refine w_regD (by kernel_rfl) [(0, true), (1, true), (2, false), (3, true), (4, true), (5, true), (6, true), (7, true), (8, true), (9, true), (10, true), (11, true), (12, true), (13, true), (14, true), (15, true), (16, true), (17, true), (18, false), (19, true), (20, true), (21, true), (22, true), (23, true), (24, true), (25, true), (26, true), (27, true), (28, true), (29, true), (30, true), (31, true)] [] (Sub z14 (box b9 [vI r16.1, vI r16.2.1] 41 :: box b8 [vI r15.1, vI r15.2.1] 41 :: box b7 [vI r12.1, vI r12.2.1] 41 :: box b6 [vI r11.1, vI r11.2.1] 41 :: emp :: box b3 [.slice e3 y6.length q3] 24 :: box b2 [vI y4, vI y5] 42 :: box b1 [.slice o_x0_t x0_t.length c_x0_t, .slice o_x0_c x0_c.length c_x0_c] 27 :: L)) (by kernel_rfl) s7 ?_
       refine p_qS 2 [.slice o_x0_t x0_t.length c_x0_t] [(3, pB b1 0), (7, .slice e1 r1.length q1), (8, .slice e2 r2.length q2), (28, vI y1), (210, .agg #[.slice o_x0_t x0_t.length c_x0_t])] [.cell ⟨b1, 0, none⟩ (.slice o_x0_t x0_t.length c_x0_t)] [] s7 hf133 (by kernel_rfl) (fun _ s => (.cell (s.box (i := 7) rfl (j := 0) rfl) .nil)) .nil fun a97 hf134 => ?_
       obtain ⟨r3, hd16, hr53⟩ := bind_some hr52
       refine p_call (i := 2) (d := some 211) (f := 28) (args := #[.agg #[.slice o_x0_t x0_t.length c_x0_t]]) hf134 (by kernel_rfl) (f28_ok fuel x0_t r3 hd16 z14 _ _ hS41 o_x0_t c_x0_t (SliceR.mono (Zone.le_trans (Zone.le_trans (Zone.le_trans (Zone.le_trans (Zone.le_trans (Zone.le_trans (Zone.le_trans (Zone.le_trans (Zone.le_trans (Zone.le_trans (Zone.le_trans (Zone.le_trans k3 k5) k6) k7) k8) k9) k10) k11) k12) k13) k14) k15) k16) hx_x0_t)) ?_
       rintro v15 ww35 a98 ⟨z16, k17, rfl, hS42⟩ hf135
       refine ⟨fun _ => Sub.of k17 hS42, ?_⟩
       have s8 : Sub z14 (box b9 [vI r16.1, vI r16.2.1] 41 :: box b8 [vI r15.1, vI r15.2.1] 41 :: box b7 [vI r12.1, vI r12.2.1] 41 :: box b6 [vI r11.1, vI r11.2.1] 41 :: emp :: box b3 [.slice e3 y6.length q3] 24 :: box b2 [vI y4, vI y5] 42 :: box b1 [.slice o_x0_t x0_t.length c_x0_t, .slice o_x0_c x0_c.length c_x0_c] 27 :: L) _ := Sub.of k17 hS42
       refine p_qS 1 [] [(3, pB b1 0), (7, .slice e1 r1.length q1), (8, .slice e2 r2.length q2), (28, vI y1), (212, .bool r3)] [] [] s8 hf135 (by kernel_rfl) (fun _ s => .nil) .nil fun a99 hf136 => ?_
       rcases Bool.eq_false_or_eq_true r3 with hb21 | hb21
       ·have hr54 := cond_t hb21 hr53
        have hf137 := Fr.conv hf136 (congrArg (fun z => ([(3, pB b1 0), (7, .slice e1 r1.length q1), (8, .slice e2 r2.length q2), (28, vI y1), (212, .bool z)] : FL)) hb21)
        obtain ⟨p1, hp7873, hr55⟩ := bind_some hr54
        obtain ⟨ad6, ho6, hb22, cc6, hc6, hk6⟩ := SliceR.getI (SliceR.mono (Zone.le_trans (Zone.le_trans (Zone.le_trans (Zone.le_trans (Zone.le_trans (Zone.le_trans (Zone.le_trans (Zone.le_trans (Zone.le_trans (Zone.le_trans k6 k7) k8) k9) k10) k11) k12) k13) k14) k15) k16) hx1) hp7873
        subst hc6
        obtain ⟨p2, hp7882, hr56⟩ := bind_some hr55
        obtain ⟨ad7, ho7, hb23, cc7, hc7, hk7⟩ := SliceR.getI (SliceR.mono (Zone.le_trans (Zone.le_trans (Zone.le_trans (Zone.le_trans (Zone.le_trans (Zone.le_trans (Zone.le_trans (Zone.le_trans (Zone.le_trans k7 k8) k9) k10) k11) k12) k13) k14) k15) k16) hx2) hp7882
        subst hc7
        refine p_qS 12 [.pointer (some ad6), vI p1, .pointer (some ad7), vI p2] [(3, pB b1 0), (7, .slice e1 r1.length q1), (8, .slice e2 r2.length q2), (28, vI y1), (213, .slice e1 r1.length q1), (214, vI y1), (215, .pointer (some (ad6.add (Int.toNat y1 * 1)))), (216, vI p1), (217, .slice e2 r2.length q2), (218, vI y1), (219, vI (w64 (y1 - (1 : Int)))), (220, .pointer (some (ad7.add (Int.toNat (w64 (y1 - (1 : Int))) * 1)))), (221, vI p2), (222, .bool (decide (p1 < p2))), (224, .bool (decide (p1 < p2)))] [.prop (e1 = some ad6), .prop (0 ≤ y1 ∧ y1 < (r1.length : Nat)), .cell ((ad6.add (Int.toNat y1 * 1)).add 0) (vI p1), .prop (e2 = some ad7), .prop (0 ≤ (w64 (y1 - (1 : Int))) ∧ (w64 (y1 - (1 : Int))) < (r2.length : Nat)), .cell ((ad7.add (Int.toNat (w64 (y1 - (1 : Int))) * 1)).add 0) (vI p2)] [] s8 hf137 (by kernel_rfl) (fun _ s => (.prop ho6 (.prop hb22 (.cell (s.cell (hk6 0 _ rfl)) (.prop ho7 (.prop hb23 (.cell (s.cell (hk7 0 _ rfl)) .nil))))))) .nil fun a100 hf138 => ?_
        rcases Bool.eq_false_or_eq_true (decide (p1 < p2)) with hb24 | hb24
        ·have hr57 := cond_t hb24 hr56
         have hf139 := Fr.conv hf138 (congrArg (fun z => ([(3, pB b1 0), (7, .slice e1 r1.length q1), (8, .slice e2 r2.length q2), (28, vI y1), (213, .slice e1 r1.length q1), (214, vI y1), (215, .pointer (some (ad6.add (Int.toNat y1 * 1)))), (216, vI p1), (217, .slice e2 r2.length q2), (218, vI y1), (219, vI (w64 (y1 - (1 : Int)))), (220, .pointer (some (ad7.add (Int.toNat (w64 (y1 - (1 : Int))) * 1)))), (221, vI p2), (222, .bool (decide (p1 < p2))), (224, .bool z)] : FL)) hb24)
         refine p_qS 16 [] [(3, pB b1 0), (7, .slice e1 r1.length q1), (8, .slice e2 r2.length q2), (28, vI y1), (213, .slice e1 r1.length q1), (214, vI y1), (215, .pointer (some (ad6.add (Int.toNat y1 * 1)))), (216, vI p1), (217, .slice e2 r2.length q2), (218, vI y1), (219, vI (w64 (y1 - (1 : Int)))), (220, .pointer (some (ad7.add (Int.toNat (w64 (y1 - (1 : Int))) * 1)))), (221, vI p2), (222, .bool (decide (p1 < p2))), (225, undef), (226, undef), (227, undef), (228, undef), (229, undef), (230, undef), (231, undef), (232, undef), (233, undef), (234, undef), (235, undef), (236, undef), (237, undef), (238, undef), (239, undef), (240, .bool true)] [] [] s8 hf139 (by kernel_rfl) (fun _ s => .nil) .nil fun a101 hf140 => ?_
         refine p_dt (by kernel_rfl) ?_
         have hf141 := Fr.keep (ks := [3, 7, 8, 28, 240]) (r := [(3, pB b1 0), (7, .slice e1 r1.length q1), (8, .slice e2 r2.length q2), (28, vI y1), (240, .bool true)]) hf140 (by kernel_rfl)
         exact ⟨z16, true, k17, hf141, hS42, hr57⟩
        ·have hr58 := cond_f hb24 hr56
         have hf142 := Fr.conv hf138 (congrArg (fun z => ([(3, pB b1 0), (7, .slice e1 r1.length q1), (8, .slice e2 r2.length q2), (28, vI y1), (213, .slice e1 r1.length q1), (214, vI y1), (215, .pointer (some (ad6.add (Int.toNat y1 * 1)))), (216, vI p1), (217, .slice e2 r2.length q2), (218, vI y1), (219, vI (w64 (y1 - (1 : Int)))), (220, .pointer (some (ad7.add (Int.toNat (w64 (y1 - (1 : Int))) * 1)))), (221, vI p2), (222, .bool (decide (p1 < p2))), (224, .bool z)] : FL)) hb24)
         refine p_qS 2 [.slice o_x0_t x0_t.length c_x0_t] [(3, pB b1 0), (7, .slice e1 r1.length q1), (8, .slice e2 r2.length q2), (28, vI y1), (213, .slice e1 r1.length q1), (214, vI y1), (215, .pointer (some (ad6.add (Int.toNat y1 * 1)))), (216, vI p1), (217, .slice e2 r2.length q2), (218, vI y1), (219, vI (w64 (y1 - (1 : Int)))), (220, .pointer (some (ad7.add (Int.toNat (w64 (y1 - (1 : Int))) * 1)))), (221, vI p2), (222, .bool (decide (p1 < p2))), (224, .bool false), (225, pB b1 0), (226, .agg #[.slice o_x0_t x0_t.length c_x0_t])] [.cell ⟨b1, 0, none⟩ (.slice o_x0_t x0_t.length c_x0_t)] [] s8 hf142 (by kernel_rfl) (fun _ s => (.cell (s.box (i := 7) rfl (j := 0) rfl) .nil)) .nil fun a102 hf143 => ?_
         obtain ⟨r4, hd17, hr59⟩ := bind_some hr58
         refine p_call (i := 18) (d := some 227) (f := 29) (args := #[.agg #[.slice o_x0_t x0_t.length c_x0_t]]) hf143 (by kernel_rfl) (f29_ok fuel x0_t r4 hd17 z16 _ _ hS42 o_x0_t c_x0_t (SliceR.mono (Zone.le_trans (Zone.le_trans (Zone.le_trans (Zone.le_trans (Zone.le_trans (Zone.le_trans (Zone.le_trans (Zone.le_trans (Zone.le_trans (Zone.le_trans (Zone.le_trans (Zone.le_trans (Zone.le_trans k3 k5) k6) k7) k8) k9) k10) k11) k12) k13) k14) k15) k16) k17) hx_x0_t)) ?_
         rintro v16 ww36 a103 ⟨z17, k18, rfl, hS43⟩ hf144
         refine ⟨fun _ => Sub.of (Zone.le_trans k17 k18) hS43, ?_⟩
         have s9 : Sub z14 (box b9 [vI r16.1, vI r16.2.1] 41 :: box b8 [vI r15.1, vI r15.2.1] 41 :: box b7 [vI r12.1, vI r12.2.1] 41 :: box b6 [vI r11.1, vI r11.2.1] 41 :: emp :: box b3 [.slice e3 y6.length q3] 24 :: box b2 [vI y4, vI y5] 42 :: box b1 [.slice o_x0_t x0_t.length c_x0_t, .slice o_x0_c x0_c.length c_x0_c] 27 :: L) _ := Sub.of (Zone.le_trans k17 k18) hS43
         refine p_qS 1 [] [(3, pB b1 0), (7, .slice e1 r1.length q1), (8, .slice e2 r2.length q2), (28, vI y1), (213, .slice e1 r1.length q1), (214, vI y1), (215, .pointer (some (ad6.add (Int.toNat y1 * 1)))), (216, vI p1), (217, .slice e2 r2.length q2), (218, vI y1), (219, vI (w64 (y1 - (1 : Int)))), (220, .pointer (some (ad7.add (Int.toNat (w64 (y1 - (1 : Int))) * 1)))), (221, vI p2), (222, .bool (decide (p1 < p2))), (224, .bool false), (225, pB b1 0), (226, .agg #[.slice o_x0_t x0_t.length c_x0_t]), (227, .bool r4), (228, .bool r4)] [] [] s9 hf144 (by kernel_rfl) (fun _ s => .nil) .nil fun a104 hf145 => ?_
         rcases Bool.eq_false_or_eq_true r4 with hb25 | hb25
         ·have hr60 := cond_t hb25 hr59
          have hf146 := Fr.conv hf145 (congrArg (fun z => ([(3, pB b1 0), (7, .slice e1 r1.length q1), (8, .slice e2 r2.length q2), (28, vI y1), (213, .slice e1 r1.length q1), (214, vI y1), (215, .pointer (some (ad6.add (Int.toNat y1 * 1)))), (216, vI p1), (217, .slice e2 r2.length q2), (218, vI y1), (219, vI (w64 (y1 - (1 : Int)))), (220, .pointer (some (ad7.add (Int.toNat (w64 (y1 - (1 : Int))) * 1)))), (221, vI p2), (222, .bool (decide (p1 < p2))), (224, .bool false), (225, pB b1 0), (226, .agg #[.slice o_x0_t x0_t.length c_x0_t]), (227, .bool r4), (228, .bool z)] : FL)) hb25)
          obtain ⟨p3, hp7924, hr61⟩ := bind_some hr60
          obtain ⟨ad8, ho8, hb26, cc8, hc8, hk8⟩ := SliceR.getI (SliceR.mono (Zone.le_trans (Zone.le_trans (Zone.le_trans (Zone.le_trans (Zone.le_trans (Zone.le_trans (Zone.le_trans (Zone.le_trans (Zone.le_trans (Zone.le_trans k6 k7) k8) k9) k10) k11) k12) k13) k14) k15) k16) hx1) hp7924
          subst hc8
          obtain ⟨p4, hp7933, hr62⟩ := bind_some hr61
          obtain ⟨ad9, ho9, hb27, cc9, hc9, hk9⟩ := SliceR.getI (SliceR.mono (Zone.le_trans (Zone.le_trans (Zone.le_trans (Zone.le_trans (Zone.le_trans (Zone.le_trans (Zone.le_trans (Zone.le_trans (Zone.le_trans k7 k8) k9) k10) k11) k12) k13) k14) k15) k16) hx2) hp7933
          subst hc9
          refine p_qS 12 [.pointer (some ad8), vI p3, .pointer (some ad9), vI p4] [(3, pB b1 0), (7, .slice e1 r1.length q1), (8, .slice e2 r2.length q2), (28, vI y1), (213, .slice e1 r1.length q1), (214, vI y1), (215, .pointer (some (ad6.add (Int.toNat y1 * 1)))), (216, vI p1), (217, .slice e2 r2.length q2), (218, vI y1), (219, vI (w64 (y1 - (1 : Int)))), (220, .pointer (some (ad7.add (Int.toNat (w64 (y1 - (1 : Int))) * 1)))), (221, vI p2), (222, .bool (decide (p1 < p2))), (225, pB b1 0), (226, .agg #[.slice o_x0_t x0_t.length c_x0_t]), (227, .bool r4), (228, .bool true), (229, .slice e1 r1.length q1), (230, vI y1), (231, .pointer (some (ad8.add (Int.toNat y1 * 1)))), (232, vI p3), (233, .slice e2 r2.length q2), (234, vI y1), (235, vI (w64 (y1 - (1 : Int)))), (236, .pointer (some (ad9.add (Int.toNat (w64 (y1 - (1 : Int))) * 1)))), (237, vI p4), (238, .bool (decide (p3 > p4))), (239, .bool (decide (p3 > p4))), (240, .bool (decide (p3 > p4)))] [.prop (e1 = some ad8), .prop (0 ≤ y1 ∧ y1 < (r1.length : Nat)), .cell ((ad8.add (Int.toNat y1 * 1)).add 0) (vI p3), .prop (e2 = some ad9), .prop (0 ≤ (w64 (y1 - (1 : Int))) ∧ (w64 (y1 - (1 : Int))) < (r2.length : Nat)), .cell ((ad9.add (Int.toNat (w64 (y1 - (1 : Int))) * 1)).add 0) (vI p4)] [] s9 hf146 (by kernel_rfl) (fun _ s => (.prop ho8 (.prop hb26 (.cell (s.cell (hk8 0 _ rfl)) (.prop ho9 (.prop hb27 (.cell (s.cell (hk9 0 _ rfl)) .nil))))))) .nil fun a105 hf147 => ?_
          refine p_dt (by kernel_rfl) ?_
          have hf148 := Fr.keep (ks := [3, 7, 8, 28, 240]) (r := [(3, pB b1 0), (7, .slice e1 r1.length q1), (8, .slice e2 r2.length q2), (28, vI y1), (240, .bool (decide (p3 > p4)))]) hf147 (by kernel_rfl)
          exact ⟨z17, (decide (p3 > p4)), (Zone.le_trans k17 k18), hf148, hS43, hr62⟩
         ·have hr63 := cond_f hb25 hr59
          have hf149 := Fr.conv hf145 (congrArg (fun z => ([(3, pB b1 0), (7, .slice e1 r1.length q1), (8, .slice e2 r2.length q2), (28, vI y1), (213, .slice e1 r1.length q1), (214, vI y1), (215, .pointer (some (ad6.add (Int.toNat y1 * 1)))), (216, vI p1), (217, .slice e2 r2.length q2), (218, vI y1), (219, vI (w64 (y1 - (1 : Int)))), (220, .pointer (some (ad7.add (Int.toNat (w64 (y1 - (1 : Int))) * 1)))), (221, vI p2), (222, .bool (decide (p1 < p2))), (224, .bool false), (225, pB b1 0), (226, .agg #[.slice o_x0_t x0_t.length c_x0_t]), (227, .bool r4), (228, .bool z)] : FL)) hb25)
          refine p_qS 12 [] [(3, pB b1 0), (7, .slice e1 r1.length q1), (8, .slice e2 r2.length q2), (28, vI y1), (213, .slice e1 r1.length q1), (214, vI y1), (215, .pointer (some (ad6.add (Int.toNat y1 * 1)))), (216, vI p1), (217, .slice e2 r2.length q2), (218, vI y1), (219, vI (w64 (y1 - (1 : Int)))), (220, .pointer (some (ad7.add (Int.toNat (w64 (y1 - (1 : Int))) * 1)))), (221, vI p2), (222, .bool (decide (p1 < p2))), (225, pB b1 0), (226, .agg #[.slice o_x0_t x0_t.length c_x0_t]), (227, .bool r4), (228, .bool false), (229, undef), (230, undef), (231, undef), (232, undef), (233, undef), (234, undef), (235, undef), (236, undef), (237, undef), (238, undef), (239, .bool false), (240, .bool false)] [] [] s9 hf149 (by kernel_rfl) (fun _ s => .nil) .nil fun a106 hf150 => ?_
          refine p_dt (by kernel_rfl) ?_
          have hf151 := Fr.keep (ks := [3, 7, 8, 28, 240]) (r := [(3, pB b1 0), (7, .slice e1 r1.length q1), (8, .slice e2 r2.length q2), (28, vI y1), (240, .bool false)]) hf150 (by kernel_rfl)
          exact ⟨z17, false, (Zone.le_trans k17 k18), hf151, hS43, hr63⟩
       ·have hr64 := cond_f hb21 hr53
        have hf152 := Fr.conv hf136 (congrArg (fun z => ([(3, pB b1 0), (7, .slice e1 r1.length q1), (8, .slice e2 r2.length q2), (28, vI y1), (212, .bool z)] : FL)) hb21)
        refine p_qS 14 [.slice o_x0_t x0_t.length c_x0_t] [(3, pB b1 0), (7, .slice e1 r1.length q1), (8, .slice e2 r2.length q2), (28, vI y1), (213, undef), (214, undef), (215, undef), (216, undef), (217, undef), (218, undef), (219, undef), (220, undef), (221, undef), (222, undef), (224, .bool false), (225, pB b1 0), (226, .agg #[.slice o_x0_t x0_t.length c_x0_t])] [.cell ⟨b1, 0, none⟩ (.slice o_x0_t x0_t.length c_x0_t)] [] s8 hf152 (by kernel_rfl) (fun _ s => (.cell (s.box (i := 7) rfl (j := 0) rfl) .nil)) .nil fun a107 hf153 => ?_
        obtain ⟨r5, hd18, hr65⟩ := bind_some hr64
        refine p_call (i := 18) (d := some 227) (f := 29) (args := #[.agg #[.slice o_x0_t x0_t.length c_x0_t]]) hf153 (by kernel_rfl) (f29_ok fuel x0_t r5 hd18 z16 _ _ hS42 o_x0_t c_x0_t (SliceR.mono (Zone.le_trans (Zone.le_trans (Zone.le_trans (Zone.le_trans (Zone.le_trans (Zone.le_trans (Zone.le_trans (Zone.le_trans (Zone.le_trans (Zone.le_trans (Zone.le_trans (Zone.le_trans (Zone.le_trans k3 k5) k6) k7) k8) k9) k10) k11) k12) k13) k14) k15) k16) k17) hx_x0_t)) ?_
        rintro v17 ww37 a108 ⟨z18, k19, rfl, hS44⟩ hf154
        refine ⟨fun _ => Sub.of (Zone.le_trans k17 k19) hS44, ?_⟩
        have s10 : Sub z14 (box b9 [vI r16.1, vI r16.2.1] 41 :: box b8 [vI r15.1, vI r15.2.1] 41 :: box b7 [vI r12.1, vI r12.2.1] 41 :: box b6 [vI r11.1, vI r11.2.1] 41 :: emp :: box b3 [.slice e3 y6.length q3] 24 :: box b2 [vI y4, vI y5] 42 :: box b1 [.slice o_x0_t x0_t.length c_x0_t, .slice o_x0_c x0_c.length c_x0_c] 27 :: L) _ := Sub.of (Zone.le_trans k17 k19) hS44
        refine p_qS 1 [] [(3, pB b1 0), (7, .slice e1 r1.length q1), (8, .slice e2 r2.length q2), (28, vI y1), (213, undef), (214, undef), (215, undef), (216, undef), (217, undef), (218, undef), (219, undef), (220, undef), (221, undef), (222, undef), (224, .bool false), (225, pB b1 0), (226, .agg #[.slice o_x0_t x0_t.length c_x0_t]), (227, .bool r5), (228, .bool r5)] [] [] s10 hf154 (by kernel_rfl) (fun _ s => .nil) .nil fun a109 hf155 => ?_
        rcases Bool.eq_false_or_eq_true r5 with hb28 | hb28
        ·have hr66 := cond_t hb28 hr65
         have hf156 := Fr.conv hf155 (congrArg (fun z => ([(3, pB b1 0), (7, .slice e1 r1.length q1), (8, .slice e2 r2.length q2), (28, vI y1), (213, undef), (214, undef), (215, undef), (216, undef), (217, undef), (218, undef), (219, undef), (220, undef), (221, undef), (222, undef), (224, .bool false), (225, pB b1 0), (226, .agg #[.slice o_x0_t x0_t.length c_x0_t]), (227, .bool r5), (228, .bool z)] : FL)) hb28)
         obtain ⟨p5, hp7975, hr67⟩ := bind_some hr66
         obtain ⟨ad10, ho10, hb29, cc10, hc10, hk10⟩ := SliceR.getI (SliceR.mono (Zone.le_trans (Zone.le_trans (Zone.le_trans (Zone.le_trans (Zone.le_trans (Zone.le_trans (Zone.le_trans (Zone.le_trans (Zone.le_trans (Zone.le_trans k6 k7) k8) k9) k10) k11) k12) k13) k14) k15) k16) hx1) hp7975
         subst hc10
         obtain ⟨p6, hp7984, hr68⟩ := bind_some hr67
         obtain ⟨ad11, ho11, hb30, cc11, hc11, hk11⟩ := SliceR.getI (SliceR.mono (Zone.le_trans (Zone.le_trans (Zone.le_trans (Zone.le_trans (Zone.le_trans (Zone.le_trans (Zone.le_trans (Zone.le_trans (Zone.le_trans k7 k8) k9) k10) k11) k12) k13) k14) k15) k16) hx2) hp7984
         subst hc11
         refine p_qS 12 [.pointer (some ad10), vI p5, .pointer (some ad11), vI p6] [(3, pB b1 0), (7, .slice e1 r1.length q1), (8, .slice e2 r2.length q2), (28, vI y1), (213, undef), (214, undef), (215, undef), (216, undef), (217, undef), (218, undef), (219, undef), (220, undef), (221, undef), (222, undef), (225, pB b1 0), (226, .agg #[.slice o_x0_t x0_t.length c_x0_t]), (227, .bool r5), (228, .bool true), (229, .slice e1 r1.length q1), (230, vI y1), (231, .pointer (some (ad10.add (Int.toNat y1 * 1)))), (232, vI p5), (233, .slice e2 r2.length q2), (234, vI y1), (235, vI (w64 (y1 - (1 : Int)))), (236, .pointer (some (ad11.add (Int.toNat (w64 (y1 - (1 : Int))) * 1)))), (237, vI p6), (238, .bool (decide (p5 > p6))), (239, .bool (decide (p5 > p6))), (240, .bool (decide (p5 > p6)))] [.prop (e1 = some ad10), .prop (0 ≤ y1 ∧ y1 < (r1.length : Nat)), .cell ((ad10.add (Int.toNat y1 * 1)).add 0) (vI p5), .prop (e2 = some ad11), .prop (0 ≤ (w64 (y1 - (1 : Int))) ∧ (w64 (y1 - (1 : Int))) < (r2.length : Nat)), .cell ((ad11.add (Int.toNat (w64 (y1 - (1 : Int))) * 1)).add 0) (vI p6)] [] s10 hf156 (by kernel_rfl) (fun _ s => (.prop ho10 (.prop hb29 (.cell (s.cell (hk10 0 _ rfl)) (.prop ho11 (.prop hb30 (.cell (s.cell (hk11 0 _ rfl)) .nil))))))) .nil fun a110 hf157 => ?_
         refine p_dt (by kernel_rfl) ?_
         have hf158 := Fr.keep (ks := [3, 7, 8, 28, 240]) (r := [(3, pB b1 0), (7, .slice e1 r1.length q1), (8, .slice e2 r2.length q2), (28, vI y1), (240, .bool (decide (p5 > p6)))]) hf157 (by kernel_rfl)
         exact ⟨z18, (decide (p5 > p6)), (Zone.le_trans k17 k19), hf158, hS44, hr68⟩
        ·have hr69 := cond_f hb28 hr65
         have hf159 := Fr.conv hf155 (congrArg (fun z => ([(3, pB b1 0), (7, .slice e1 r1.length q1), (8, .slice e2 r2.length q2), (28, vI y1), (213, undef), (214, undef), (215, undef), (216, undef), (217, undef), (218, undef), (219, undef), (220, undef), (221, undef), (222, undef), (224, .bool false), (225, pB b1 0), (226, .agg #[.slice o_x0_t x0_t.length c_x0_t]), (227, .bool r5), (228, .bool z)] : FL)) hb28)
         refine p_qS 12 [] [(3, pB b1 0), (7, .slice e1 r1.length q1), (8, .slice e2 r2.length q2), (28, vI y1), (213, undef), (214, undef), (215, undef), (216, undef), (217, undef), (218, undef), (219, undef), (220, undef), (221, undef), (222, undef), (225, pB b1 0), (226, .agg #[.slice o_x0_t x0_t.length c_x0_t]), (227, .bool r5), (228, .bool false), (229, undef), (230, undef), (231, undef), (232, undef), (233, undef), (234, undef), (235, undef), (236, undef), (237, undef), (238, undef), (239, .bool false), (240, .bool false)] [] [] s10 hf159 (by kernel_rfl) (fun _ s => .nil) .nil fun a111 hf160 => ?_
         refine p_dt (by kernel_rfl) ?_
         have hf161 := Fr.keep (ks := [3, 7, 8, 28, 240]) (r := [(3, pB b1 0), (7, .slice e1 r1.length q1), (8, .slice e2 r2.length q2), (28, vI y1), (240, .bool false)]) hf160 (by kernel_rfl)
         exact ⟨z18, false, (Zone.le_trans k17 k19), hf161, hS44, hr69⟩
      ·rintro a112 ww38 ⟨z15, y2, k20, hf162, hS45, hr70⟩
       refine w_if hf162 (b := y2) (by kernel_rfl) (fun hb31 => ?_) (fun hb31 => ?_)
       ·have hr71 := cond_t hb31 hr70
        refine w_sq [] [(6, .bool false)] [] hf162 (by kernel_rfl) .nil fun a113 hf163 => ?_
        refine w_ret (by kernel_rfl) ?_
        refine r_block ?_
        refine r_then ?_
        refine r_then ?_
        refine r_block ?_
        refine r_then ?_
        refine p_ret (os := []) (v := .bool false) (obs := []) hf163 (by kernel_rfl) .nil ?_
        obtain rfl := some_eq hr71
        exact ⟨_, rfl, z15, (Zone.le_trans (Zone.le_trans (Zone.le_trans (Zone.le_trans (Zone.le_trans (Zone.le_trans (Zone.le_trans (Zone.le_trans (Zone.le_trans (Zone.le_trans (Zone.le_trans (Zone.le_trans (Zone.le_trans k3 k5) k6) k7) k8) k9) k10) k11) k12) k13) k14) k15) k16) k20), rfl, (St.drop 8 hS45)⟩
       ·have hr72 := cond_f hb31 hr70
        refine w_skip (by kernel_rfl) ?_
        refine n_block ?_
        refine n_then ?_
        refine w_q [] [(3, pB b1 0), (7, .slice e1 r1.length q1), (8, .slice e2 r2.length q2), (28, vI (w64 (y1 + (1 : Int))))] [] hf162 (by kernel_rfl) .nil fun a114 hf164 => ?_
        refine n_then ?_
        have hf165 := Fr.keep (ks := [3, 7, 8, 28]) (r := [(3, pB b1 0), (7, .slice e1 r1.length q1), (8, .slice e2 r2.length q2), (28, vI (w64 (y1 + (1 : Int))))]) hf164 (by kernel_rfl)
        exact ⟨n1, Nat.lt_succ_self n1, z15, (w64 (y1 + (1 : Int))), (Zone.le_trans k16 k20), hf165, hS45, hr72⟩
     ·have hr73 := cond_f hb20 hr51
      refine w_exit (id := 2) (by kernel_rfl) ?_
      refine x_then ?_
      refine x_then ?_
      refine x_block ?_
      refine n_then ?_
      refine w_sr (by kernel_rfl) ?_
      obtain ⟨r6, hd19, hr74⟩ := bind_some hr73
      refine p_call (i := 0) (d := some 241) (f := 13) (args := #[]) hf133 (by kernel_rfl) (f13_ok fuel  r6 hd19 z14 _ _ hS40 ) ?_
      rintro v18 ww39 a115 ⟨z19, k21, rfl, hS46⟩ hf166
      refine ⟨fun _ => trivial, ?_⟩
      refine p_qt [] [(6, .bool r6)] [] hf166 (by kernel_rfl) .nil fun a116 hf167 => ?_
      refine w_ret (by kernel_rfl) ?_
      refine p_ret (os := []) (v := .bool r6) (obs := []) hf167 (by kernel_rfl) .nil ?_
      obtain rfl := some_eq hr74
      exact ⟨_, rfl, z19, (Zone.le_trans (Zone.le_trans (Zone.le_trans (Zone.le_trans (Zone.le_trans (Zone.le_trans (Zone.le_trans (Zone.le_trans (Zone.le_trans (Zone.le_trans (Zone.le_trans (Zone.le_trans (Zone.le_trans k3 k5) k6) k7) k8) k9) k10) k11) k12) k13) k14) k15) k16) k21), rfl, (St.drop 8 hS46)⟩
end Go.Proofs.Ytpjmgeajajcceaa
