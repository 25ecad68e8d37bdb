/-
  The walks of functions 12, 73, 74, 14, 100, 78, 79, 15, 80, 16, 17, 3: what the code does is what a plain function computes. No condition.
-/
import Derived.Test.YtpjmgeajajcceaaSFb
set_option linter.unusedVariables false
namespace Go.Proofs.Ytpjmgeajajcceaa
open Go.Sl Go.Sx
def F12_j2 (k1 : Int → Option (Bool)) (y1 : Int) (y2 : Bool) : Option (Bool) :=
  (cond y2 (some (false)) (k1 (w64 (y1 + (1 : Int)))))
def F12_l1 (x0 : List Pt) : Nat → Int → Option (Bool)
  | 0, _ => none
  | n1 + 1, y1 =>
    let k1 : Int → Option (Bool) := F12_l1 x0 n1
    (cond (decide (y1 < (x0.length : Int))) ((getI x0 y1).bind fun p1 => (cond (decide (p1.x < (0 : Int))) (F12_j2 k1 y1 true) (cond (decide (p1.x > (1000000 : Int))) (F12_j2 k1 y1 true) (cond (decide (y1 > (0 : Int))) ((getI x0 (w64 (y1 - (1 : Int)))).bind fun p2 => (cond (decide (p2.x ≥ p1.x)) (F12_j2 k1 y1 true) (cond (decide (p1.lo < (-1000000000 : Int))) (F12_j2 k1 y1 true) (cond (decide (p1.lo > p1.hi)) (F12_j2 k1 y1 true) (F12_j2 k1 y1 (decide (p1.hi > (1000000000 : Int)))))))) (cond (decide (p1.lo < (-1000000000 : Int))) (F12_j2 k1 y1 true) (cond (decide (p1.lo > p1.hi)) (F12_j2 k1 y1 true) (F12_j2 k1 y1 (decide (p1.hi > (1000000000 : Int)))))))))) (some (true)))
def F12_j1 (fuel : Nat) (x0 : List Pt) (y3 : Bool) : Option (Bool) :=
  (cond y3 (some (false)) (F12_l1 x0 fuel 0))
def F12 (fuel : Nat) (x0 : List Pt) : Option (Bool) :=
  (cond (decide ((x0.length : Int) < (1 : Int))) (F12_j1 fuel x0 true) (F12_j1 fuel x0 (decide ((x0.length : Int) > (40 : Int)))))
set_option maxRecDepth 100000 in
theorem f12_ok (fuel : Nat) (x0 : List Pt) (r : Bool) (hr : F12 fuel x0 = some r) (h : Zone) (L : List Atom) (w : World) (hS : St h L w) (o_x0 : Option Addr) (c_x0 : Nat) (hx_x0 : SliceR PtT h o_x0 c_x0 x0) :
    Calls Try.prog 12 #[.agg #[.slice o_x0 x0.length c_x0]] w fun e w' => ∃ v, e = .returned v ∧ (∃ h', Zone.le h h' ∧ v = .bool r ∧ St h' L w') := by
 refine calls_intro (N := 65) Try.func12 (by kernel_rfl) fun a hf => ?_
 refine w_sr (by kernel_rfl) ?_
 refine p_box (i := 0) (d := (some 1)) (cs := [.slice o_x0 x0.length c_x0]) (T := 24) (v := fun b1 => pB b1 0) hS hf (fun b => by kernel_rfl) fun b1 ww1 a1 hS1 hf1 => ⟨fun _ => trivial, ?_⟩
 refine p_qt [] [(1, pB b1 0)] [] hf1 (by kernel_rfl) .nil fun a2 hf2 => ?_
 refine w_seq (by kernel_rfl) ?_
 refine w_mid (by kernel_rfl) (fun a w => ∃ z1 : Zone, ∃ y3 : Bool, Zone.le h z1 ∧ Fr a 65 [(1, pB b1 0), (14, .bool y3)] ∧ St z1 (box b1 [.slice o_x0 x0.length c_x0] 24 :: L) w ∧ (F12_j1 fuel x0 y3) = some r) ?_ ?_
 ·skip
  refine w_reg (by kernel_rfl) ?_
  refine p_qn 5 [.slice o_x0 x0.length c_x0] [(1, pB b1 0), (9, .bool (decide ((x0.length : Int) < (1 : Int))))] [.cell ⟨b1, 0, none⟩ (.slice o_x0 x0.length c_x0)] hf2 (by kernel_rfl) (.cell (hS1.box (i := 0) rfl (j := 0) rfl) .nil) fun a3 hf3 => ?_
  rcases Bool.eq_false_or_eq_true (decide ((x0.length : Int) < (1 : Int))) with hb1 | hb1
  ·have hr1 := cond_t hb1 hr
   have hf4 := Fr.conv hf3 (congrArg (fun z => ([(1, pB b1 0), (9, .bool z)] : FL)) hb1)
   refine p_qt [] [(1, pB b1 0), (14, .bool true)] [] hf4 (by kernel_rfl) .nil fun a4 hf5 => ?_
   have hf6 := Fr.keep (ks := [1, 14]) (r := [(1, pB b1 0), (14, .bool true)]) hf5 (by kernel_rfl)
   exact ⟨h, true, (Zone.le_refl _), hf6, hS1, hr1⟩
  ·have hr2 := cond_f hb1 hr
   have hf7 := Fr.conv hf3 (congrArg (fun z => ([(1, pB b1 0), (9, .bool z)] : FL)) hb1)
   refine p_qt [.slice o_x0 x0.length c_x0] [(1, pB b1 0), (14, .bool (decide ((x0.length : Int) > (40 : Int))))] [.cell ⟨b1, 0, none⟩ (.slice o_x0 x0.length c_x0)] hf7 (by kernel_rfl) (.cell (hS1.box (i := 0) rfl (j := 0) rfl) .nil) fun a5 hf8 => ?_
   have hf9 := Fr.keep (ks := [1, 14]) (r := [(1, pB b1 0), (14, .bool (decide ((x0.length : Int) > (40 : Int))))]) hf8 (by kernel_rfl)
   exact ⟨h, (decide ((x0.length : Int) > (40 : Int))), (Zone.le_refl _), hf9, hS1, hr2⟩
 ·rintro a6 ww2 ⟨z1, y3, k2, hf10, hS2, hr3⟩
  refine w_if hf10 (b := y3) (by kernel_rfl) (fun hb2 => ?_) (fun hb2 => ?_)
  ·have hr4 := cond_t hb2 hr3
   refine w_sq [] [(2, .bool false)] [] hf10 (by kernel_rfl) .nil fun a7 hf11 => ?_
   refine w_ret (by kernel_rfl) ?_
   refine r_then ?_
   refine p_ret (os := []) (v := .bool false) (obs := []) hf11 (by kernel_rfl) .nil ?_
   obtain rfl := some_eq hr4
   exact ⟨_, rfl, z1, k2, rfl, (St.drop 1 hS2)⟩
  ·have hr5 := cond_f hb2 hr3
   refine w_skip (by kernel_rfl) ?_
   refine n_then ?_
   refine w_seq (by kernel_rfl) ?_
   refine w_sq [.slice o_x0 x0.length c_x0] [(1, pB b1 0), (16, .slice o_x0 x0.length c_x0), (17, vI (x0.length : Int)), (18, vI 0)] [.cell ⟨b1, 0, none⟩ (.slice o_x0 x0.length c_x0)] hf10 (by kernel_rfl) (.cell (hS2.box (i := 0) rfl (j := 0) rfl) .nil) fun a8 hf12 => ?_
   refine w_block (id := 0) (by kernel_rfl) ?_
   have hf13 := Fr.keep (ks := [1, 16, 17, 18]) (r := [(1, pB b1 0), (16, .slice o_x0 x0.length c_x0), (17, vI (x0.length : Int)), (18, vI 0)]) hf12 (by kernel_rfl)
   refine w_loop (by kernel_rfl) (fun n a w => ∃ z2 : Zone, ∃ y1 : Int, Zone.le z1 z2 ∧ Fr a 65 [(1, pB b1 0), (16, .slice o_x0 x0.length c_x0), (17, vI (x0.length : Int)), (18, vI y1)] ∧ St z2 (box b1 [.slice o_x0 x0.length c_x0] 24 :: L) w ∧ (F12_l1 x0 n y1) = some r) fuel ⟨z1, 0, (Zone.le_refl _), hf13, hS2, hr5⟩ ?_
   rintro n2 a9 ww3 ⟨z2, y1, k3, hf14, hS3, hr6⟩
   cases n2 with
   | zero => cases hr6
   | succ n1 =>
   refine w_sq [] [(1, pB b1 0), (16, .slice o_x0 x0.length c_x0), (17, vI (x0.length : Int)), (18, vI y1), (19, .bool (decide (y1 < (x0.length : Int))))] [] hf14 (by kernel_rfl) .nil fun a10 hf15 => ?_
   refine w_seq (by kernel_rfl) ?_
   refine w_if hf15 (b := (decide (y1 < (x0.length : Int)))) (by kernel_rfl) (fun hb3 => ?_) (fun hb3 => ?_)
   ·have hr7 := cond_t hb3 hr6
    refine w_skip (by kernel_rfl) ?_
    refine n_then ?_
    refine w_seq (by kernel_rfl) ?_
    refine w_block (id := 1) (by kernel_rfl) ?_
    refine w_sr (by kernel_rfl) ?_
    obtain ⟨p1, hp2448, hr8⟩ := bind_some hr7
    obtain ⟨ad1, ho1, hb4, cc1, hc1, hk1⟩ := SliceR.getI (SliceR.mono (Zone.le_trans k2 k3) hx_x0) hp2448
    subst hc1
    refine p_qn 3 [.pointer (some ad1), vI p1.x, vI p1.lo, vI p1.hi] [(1, pB b1 0), (16, .slice o_x0 x0.length c_x0), (17, vI (x0.length : Int)), (18, vI y1), (20, vI y1), (22, .agg #[vI p1.x, vI p1.lo, vI p1.hi])] [.prop (o_x0 = some ad1), .prop (0 ≤ y1 ∧ y1 < (x0.length : Nat)), .cell ((ad1.add (Int.toNat y1 * 3)).add 0) (vI p1.x), .cell ((ad1.add (Int.toNat y1 * 3)).add 1) (vI p1.lo), .cell ((ad1.add (Int.toNat y1 * 3)).add 2) (vI p1.hi)] hf15 (by kernel_rfl) (.prop ho1 (.prop hb4 (.cell (hS3.cell (hk1 0 _ rfl)) (.cell (hS3.cell (hk1 1 _ rfl)) (.cell (hS3.cell (hk1 2 _ rfl)) .nil))))) fun a11 hf16 => ?_
    refine p_box (i := 3) (d := (some 4)) (cs := [vI 0, vI 0, vI 0]) (T := 52) (v := fun b2 => pB b2 0) hS3 hf16 (fun b => by kernel_rfl) fun b2 ww4 a12 hS4 hf17 => ⟨fun _ => trivial, ?_⟩
    refine p_qn 1 [] [(1, pB b1 0), (3, vI y1), (4, pB b2 0), (16, .slice o_x0 x0.length c_x0), (17, vI (x0.length : Int)), (18, vI y1), (22, .agg #[vI p1.x, vI p1.lo, vI p1.hi])] [] hf17 (by kernel_rfl) .nil fun a13 hf18 => ?_
    refine p_store_eq (i := 5) (j := 0) (b := b2) (off := 0) (vs := [vI p1.x, vI p1.lo, vI p1.hi]) (cs' := [vI p1.x, vI p1.lo, vI p1.hi]) hS4 hf18 rfl (by kernel_rfl) (by kernel_rfl) rfl fun ww5 a14 hS5 hf19 => ⟨fun _ => trivial, ?_⟩
    refine p_dt (by kernel_rfl) ?_
    refine w_mid (by kernel_rfl) (fun a w => ∃ z3 : Zone, ∃ y2 : Bool, Zone.le z2 z3 ∧ Fr a 65 [(1, pB b1 0), (16, .slice o_x0 x0.length c_x0), (17, vI (x0.length : Int)), (18, vI y1), (63, .bool y2)] ∧ St z3 (box b2 [vI p1.x, vI p1.lo, vI p1.hi] 52 :: box b1 [.slice o_x0 x0.length c_x0] 24 :: L) w ∧ (F12_j2 (F12_l1 x0 n1) y1 y2) = some r) ?_ ?_
    ·skip
     have hS6 := hS5.drew
     refine w_regD (by kernel_rfl) [(0, true), (1, true), (2, true), (3, true), (4, true), (5, true), (6, true), (7, true), (8, true), (9, true), (10, true), (11, true), (12, true), (13, true), (14, true), (15, true), (16, true), (17, true), (18, true), (19, true), (20, true), (21, true), (22, true), (23, true), (24, true), (25, true), (26, true), (27, true), (28, true), (29, true), (30, true), (31, true), (32, true), (33, true), (34, true), (35, true), (36, true), (37, true), (38, true), (39, true), (40, true)] [] (fun x => x = ww5.drew) (by kernel_rfl) rfl ?_
     refine p_qE 4 [vI p1.x] [(1, pB b1 0), (3, vI y1), (4, pB b2 0), (16, .slice o_x0 x0.length c_x0), (17, vI (x0.length : Int)), (18, vI y1), (26, .bool (decide (p1.x < (0 : Int))))] [.cell ⟨b2, 0, none⟩ (vI p1.x)] [] hf19 (by kernel_rfl) (.cell (hS6.box (i := 0) rfl (j := 0) rfl) .nil) .nil fun a15 hf20 => ?_
     rcases Bool.eq_false_or_eq_true (decide (p1.x < (0 : Int))) with hb5 | hb5
     ·have hr9 := cond_t hb5 hr8
      have hf21 := Fr.conv hf20 (congrArg (fun z => ([(1, pB b1 0), (3, vI y1), (4, pB b2 0), (16, .slice o_x0 x0.length c_x0), (17, vI (x0.length : Int)), (18, vI y1), (26, .bool z)] : FL)) hb5)
      refine p_qtE [] [(1, pB b1 0), (16, .slice o_x0 x0.length c_x0), (17, vI (x0.length : Int)), (18, vI y1), (27, undef), (28, undef), (29, undef), (32, undef), (33, undef), (34, undef), (35, undef), (36, undef), (37, undef), (38, undef), (39, undef), (40, undef), (41, undef), (42, undef), (43, undef), (44, undef), (45, undef), (48, undef), (49, undef), (50, undef), (53, undef), (54, undef), (55, undef), (56, undef), (57, undef), (60, undef), (61, undef), (62, undef), (63, .bool true)] [] [] hf21 (by kernel_rfl) .nil .nil fun a16 hf22 => ?_
      have hf23 := Fr.keep (ks := [1, 16, 17, 18, 63]) (r := [(1, pB b1 0), (16, .slice o_x0 x0.length c_x0), (17, vI (x0.length : Int)), (18, vI y1), (63, .bool true)]) hf22 (by kernel_rfl)
      exact ⟨z2, true, (Zone.le_refl _), hf23, hS6, hr9⟩
     ·have hr10 := cond_f hb5 hr8
      have hf24 := Fr.conv hf20 (congrArg (fun z => ([(1, pB b1 0), (3, vI y1), (4, pB b2 0), (16, .slice o_x0 x0.length c_x0), (17, vI (x0.length : Int)), (18, vI y1), (26, .bool z)] : FL)) hb5)
      refine p_qE 5 [vI p1.x] [(1, pB b1 0), (3, vI y1), (4, pB b2 0), (16, .slice o_x0 x0.length c_x0), (17, vI (x0.length : Int)), (18, vI y1), (27, pB b2 0), (28, vI p1.x), (29, .bool (decide (p1.x > (1000000 : Int)))), (31, .bool (decide (p1.x > (1000000 : Int))))] [.cell ⟨b2, 0, none⟩ (vI p1.x)] [] hf24 (by kernel_rfl) (.cell (hS6.box (i := 0) rfl (j := 0) rfl) .nil) .nil fun a17 hf25 => ?_
      rcases Bool.eq_false_or_eq_true (decide (p1.x > (1000000 : Int))) with hb6 | hb6
      ·have hr11 := cond_t hb6 hr10
       have hf26 := Fr.conv hf25 (congrArg (fun z => ([(1, pB b1 0), (3, vI y1), (4, pB b2 0), (16, .slice o_x0 x0.length c_x0), (17, vI (x0.length : Int)), (18, vI y1), (27, pB b2 0), (28, vI p1.x), (29, .bool (decide (p1.x > (1000000 : Int)))), (31, .bool z)] : FL)) hb6)
       refine p_qtE [] [(1, pB b1 0), (16, .slice o_x0 x0.length c_x0), (17, vI (x0.length : Int)), (18, vI y1), (27, pB b2 0), (28, vI p1.x), (29, .bool (decide (p1.x > (1000000 : Int)))), (32, undef), (33, undef), (34, undef), (35, undef), (36, undef), (37, undef), (38, undef), (39, undef), (40, undef), (41, undef), (42, undef), (43, undef), (44, undef), (45, undef), (48, undef), (49, undef), (50, undef), (53, undef), (54, undef), (55, undef), (56, undef), (57, undef), (60, undef), (61, undef), (62, undef), (63, .bool true)] [] [] hf26 (by kernel_rfl) .nil .nil fun a18 hf27 => ?_
       have hf28 := Fr.keep (ks := [1, 16, 17, 18, 63]) (r := [(1, pB b1 0), (16, .slice o_x0 x0.length c_x0), (17, vI (x0.length : Int)), (18, vI y1), (63, .bool true)]) hf27 (by kernel_rfl)
       exact ⟨z2, true, (Zone.le_refl _), hf28, hS6, hr11⟩
      ·have hr12 := cond_f hb6 hr10
       have hf29 := Fr.conv hf25 (congrArg (fun z => ([(1, pB b1 0), (3, vI y1), (4, pB b2 0), (16, .slice o_x0 x0.length c_x0), (17, vI (x0.length : Int)), (18, vI y1), (27, pB b2 0), (28, vI p1.x), (29, .bool (decide (p1.x > (1000000 : Int)))), (31, .bool z)] : FL)) hb6)
       refine p_qE 3 [] [(1, pB b1 0), (3, vI y1), (4, pB b2 0), (16, .slice o_x0 x0.length c_x0), (17, vI (x0.length : Int)), (18, vI y1), (27, pB b2 0), (28, vI p1.x), (29, .bool (decide (p1.x > (1000000 : Int)))), (31, .bool false), (32, vI y1), (33, .bool (decide (y1 > (0 : Int)))), (34, .bool (decide (y1 > (0 : Int))))] [] [] hf29 (by kernel_rfl) .nil .nil fun a19 hf30 => ?_
       rcases Bool.eq_false_or_eq_true (decide (y1 > (0 : Int))) with hb7 | hb7
       ·have hr13 := cond_t hb7 hr12
        have hf31 := Fr.conv hf30 (congrArg (fun z => ([(1, pB b1 0), (3, vI y1), (4, pB b2 0), (16, .slice o_x0 x0.length c_x0), (17, vI (x0.length : Int)), (18, vI y1), (27, pB b2 0), (28, vI p1.x), (29, .bool (decide (p1.x > (1000000 : Int)))), (31, .bool false), (32, vI y1), (33, .bool (decide (y1 > (0 : Int)))), (34, .bool z)] : FL)) hb7)
        obtain ⟨p2, hp2672, hr14⟩ := bind_some hr13
        obtain ⟨ad2, ho2, hb8, cc2, hc2, hk2⟩ := SliceR.getI (SliceR.mono (Zone.le_trans k2 k3) hx_x0) hp2672
        subst hc2
        refine p_qE 13 [.slice o_x0 x0.length c_x0, .pointer (some ad2), vI p2.x, vI p1.x] [(1, pB b1 0), (4, pB b2 0), (16, .slice o_x0 x0.length c_x0), (17, vI (x0.length : Int)), (18, vI y1), (27, pB b2 0), (28, vI p1.x), (29, .bool (decide (p1.x > (1000000 : Int)))), (32, vI y1), (33, .bool (decide (y1 > (0 : Int)))), (34, .bool true), (35, pB b1 0), (36, .slice o_x0 x0.length c_x0), (37, vI y1), (38, vI (w64 (y1 - (1 : Int)))), (39, .pointer (some (ad2.add (Int.toNat (w64 (y1 - (1 : Int))) * 3)))), (40, .pointer (some (ad2.add (Int.toNat (w64 (y1 - (1 : Int))) * 3)))), (41, vI p2.x), (42, pB b2 0), (43, vI p1.x), (44, .bool (decide (p2.x ≥ p1.x))), (45, .bool (decide (p2.x ≥ p1.x))), (47, .bool (decide (p2.x ≥ p1.x)))] [.cell ⟨b1, 0, none⟩ (.slice o_x0 x0.length c_x0), .prop (o_x0 = some ad2), .prop (0 ≤ (w64 (y1 - (1 : Int))) ∧ (w64 (y1 - (1 : Int))) < (x0.length : Nat)), .cell ((ad2.add (Int.toNat (w64 (y1 - (1 : Int))) * 3)).add 0) (vI p2.x), .cell ⟨b2, 0, none⟩ (vI p1.x)] [] hf31 (by kernel_rfl) (.cell (hS6.box (i := 1) rfl (j := 0) rfl) (.prop ho2 (.prop hb8 (.cell (hS6.cell (hk2 0 _ rfl)) (.cell (hS6.box (i := 0) rfl (j := 0) rfl) .nil))))) .nil fun a20 hf32 => ?_
        rcases Bool.eq_false_or_eq_true (decide (p2.x ≥ p1.x)) with hb9 | hb9
        ·have hr15 := cond_t hb9 hr14
         have hf33 := Fr.conv hf32 (congrArg (fun z => ([(1, pB b1 0), (4, pB b2 0), (16, .slice o_x0 x0.length c_x0), (17, vI (x0.length : Int)), (18, vI y1), (27, pB b2 0), (28, vI p1.x), (29, .bool (decide (p1.x > (1000000 : Int)))), (32, vI y1), (33, .bool (decide (y1 > (0 : Int)))), (34, .bool true), (35, pB b1 0), (36, .slice o_x0 x0.length c_x0), (37, vI y1), (38, vI (w64 (y1 - (1 : Int)))), (39, .pointer (some (ad2.add (Int.toNat (w64 (y1 - (1 : Int))) * 3)))), (40, .pointer (some (ad2.add (Int.toNat (w64 (y1 - (1 : Int))) * 3)))), (41, vI p2.x), (42, pB b2 0), (43, vI p1.x), (44, .bool (decide (p2.x ≥ p1.x))), (45, .bool (decide (p2.x ≥ p1.x))), (47, .bool z)] : FL)) hb9)
         refine p_qtE [] [(1, pB b1 0), (16, .slice o_x0 x0.length c_x0), (17, vI (x0.length : Int)), (18, vI y1), (27, pB b2 0), (28, vI p1.x), (29, .bool (decide (p1.x > (1000000 : Int)))), (32, vI y1), (33, .bool (decide (y1 > (0 : Int)))), (34, .bool true), (35, pB b1 0), (36, .slice o_x0 x0.length c_x0), (37, vI y1), (38, vI (w64 (y1 - (1 : Int)))), (39, .pointer (some (ad2.add (Int.toNat (w64 (y1 - (1 : Int))) * 3)))), (40, .pointer (some (ad2.add (Int.toNat (w64 (y1 - (1 : Int))) * 3)))), (41, vI p2.x), (42, pB b2 0), (43, vI p1.x), (44, .bool (decide (p2.x ≥ p1.x))), (45, .bool (decide (p2.x ≥ p1.x))), (48, undef), (49, undef), (50, undef), (53, undef), (54, undef), (55, undef), (56, undef), (57, undef), (60, undef), (61, undef), (62, undef), (63, .bool true)] [] [] hf33 (by kernel_rfl) .nil .nil fun a21 hf34 => ?_
         have hf35 := Fr.keep (ks := [1, 16, 17, 18, 63]) (r := [(1, pB b1 0), (16, .slice o_x0 x0.length c_x0), (17, vI (x0.length : Int)), (18, vI y1), (63, .bool true)]) hf34 (by kernel_rfl)
         exact ⟨z2, true, (Zone.le_refl _), hf35, hS6, hr15⟩
        ·have hr16 := cond_f hb9 hr14
         have hf36 := Fr.conv hf32 (congrArg (fun z => ([(1, pB b1 0), (4, pB b2 0), (16, .slice o_x0 x0.length c_x0), (17, vI (x0.length : Int)), (18, vI y1), (27, pB b2 0), (28, vI p1.x), (29, .bool (decide (p1.x > (1000000 : Int)))), (32, vI y1), (33, .bool (decide (y1 > (0 : Int)))), (34, .bool true), (35, pB b1 0), (36, .slice o_x0 x0.length c_x0), (37, vI y1), (38, vI (w64 (y1 - (1 : Int)))), (39, .pointer (some (ad2.add (Int.toNat (w64 (y1 - (1 : Int))) * 3)))), (40, .pointer (some (ad2.add (Int.toNat (w64 (y1 - (1 : Int))) * 3)))), (41, vI p2.x), (42, pB b2 0), (43, vI p1.x), (44, .bool (decide (p2.x ≥ p1.x))), (45, .bool (decide (p2.x ≥ p1.x))), (47, .bool z)] : FL)) hb9)
         refine p_qE 5 [vI p1.lo] [(1, pB b1 0), (4, pB b2 0), (16, .slice o_x0 x0.length c_x0), (17, vI (x0.length : Int)), (18, vI y1), (27, pB b2 0), (28, vI p1.x), (29, .bool (decide (p1.x > (1000000 : Int)))), (32, vI y1), (33, .bool (decide (y1 > (0 : Int)))), (34, .bool true), (35, pB b1 0), (36, .slice o_x0 x0.length c_x0), (37, vI y1), (38, vI (w64 (y1 - (1 : Int)))), (39, .pointer (some (ad2.add (Int.toNat (w64 (y1 - (1 : Int))) * 3)))), (40, .pointer (some (ad2.add (Int.toNat (w64 (y1 - (1 : Int))) * 3)))), (41, vI p2.x), (42, pB b2 0), (43, vI p1.x), (44, .bool (decide (p2.x ≥ p1.x))), (45, .bool (decide (p2.x ≥ p1.x))), (48, pB b2 1), (49, vI p1.lo), (50, .bool (decide (p1.lo < (-1000000000 : Int)))), (52, .bool (decide (p1.lo < (-1000000000 : Int))))] [.cell ⟨b2, 1, none⟩ (vI p1.lo)] [] hf36 (by kernel_rfl) (.cell (hS6.box (i := 0) rfl (j := 1) rfl) .nil) .nil fun a22 hf37 => ?_
         rcases Bool.eq_false_or_eq_true (decide (p1.lo < (-1000000000 : Int))) with hb10 | hb10
         ·have hr17 := cond_t hb10 hr16
          have hf38 := Fr.conv hf37 (congrArg (fun z => ([(1, pB b1 0), (4, pB b2 0), (16, .slice o_x0 x0.length c_x0), (17, vI (x0.length : Int)), (18, vI y1), (27, pB b2 0), (28, vI p1.x), (29, .bool (decide (p1.x > (1000000 : Int)))), (32, vI y1), (33, .bool (decide (y1 > (0 : Int)))), (34, .bool true), (35, pB b1 0), (36, .slice o_x0 x0.length c_x0), (37, vI y1), (38, vI (w64 (y1 - (1 : Int)))), (39, .pointer (some (ad2.add (Int.toNat (w64 (y1 - (1 : Int))) * 3)))), (40, .pointer (some (ad2.add (Int.toNat (w64 (y1 - (1 : Int))) * 3)))), (41, vI p2.x), (42, pB b2 0), (43, vI p1.x), (44, .bool (decide (p2.x ≥ p1.x))), (45, .bool (decide (p2.x ≥ p1.x))), (48, pB b2 1), (49, vI p1.lo), (50, .bool (decide (p1.lo < (-1000000000 : Int)))), (52, .bool z)] : FL)) hb10)
          refine p_qtE [] [(1, pB b1 0), (16, .slice o_x0 x0.length c_x0), (17, vI (x0.length : Int)), (18, vI y1), (27, pB b2 0), (28, vI p1.x), (29, .bool (decide (p1.x > (1000000 : Int)))), (32, vI y1), (33, .bool (decide (y1 > (0 : Int)))), (34, .bool true), (35, pB b1 0), (36, .slice o_x0 x0.length c_x0), (37, vI y1), (38, vI (w64 (y1 - (1 : Int)))), (39, .pointer (some (ad2.add (Int.toNat (w64 (y1 - (1 : Int))) * 3)))), (40, .pointer (some (ad2.add (Int.toNat (w64 (y1 - (1 : Int))) * 3)))), (41, vI p2.x), (42, pB b2 0), (43, vI p1.x), (44, .bool (decide (p2.x ≥ p1.x))), (45, .bool (decide (p2.x ≥ p1.x))), (48, pB b2 1), (49, vI p1.lo), (50, .bool (decide (p1.lo < (-1000000000 : Int)))), (53, undef), (54, undef), (55, undef), (56, undef), (57, undef), (60, undef), (61, undef), (62, undef), (63, .bool true)] [] [] hf38 (by kernel_rfl) .nil .nil fun a23 hf39 => ?_
          have hf40 := Fr.keep (ks := [1, 16, 17, 18, 63]) (r := [(1, pB b1 0), (16, .slice o_x0 x0.length c_x0), (17, vI (x0.length : Int)), (18, vI y1), (63, .bool true)]) hf39 (by kernel_rfl)
          exact ⟨z2, true, (Zone.le_refl _), hf40, hS6, hr17⟩
         ·have hr18 := cond_f hb10 hr16
          have hf41 := Fr.conv hf37 (congrArg (fun z => ([(1, pB b1 0), (4, pB b2 0), (16, .slice o_x0 x0.length c_x0), (17, vI (x0.length : Int)), (18, vI y1), (27, pB b2 0), (28, vI p1.x), (29, .bool (decide (p1.x > (1000000 : Int)))), (32, vI y1), (33, .bool (decide (y1 > (0 : Int)))), (34, .bool true), (35, pB b1 0), (36, .slice o_x0 x0.length c_x0), (37, vI y1), (38, vI (w64 (y1 - (1 : Int)))), (39, .pointer (some (ad2.add (Int.toNat (w64 (y1 - (1 : Int))) * 3)))), (40, .pointer (some (ad2.add (Int.toNat (w64 (y1 - (1 : Int))) * 3)))), (41, vI p2.x), (42, pB b2 0), (43, vI p1.x), (44, .bool (decide (p2.x ≥ p1.x))), (45, .bool (decide (p2.x ≥ p1.x))), (48, pB b2 1), (49, vI p1.lo), (50, .bool (decide (p1.lo < (-1000000000 : Int)))), (52, .bool z)] : FL)) hb10)
          refine p_qE 7 [vI p1.lo, vI p1.hi] [(1, pB b1 0), (4, pB b2 0), (16, .slice o_x0 x0.length c_x0), (17, vI (x0.length : Int)), (18, vI y1), (27, pB b2 0), (28, vI p1.x), (29, .bool (decide (p1.x > (1000000 : Int)))), (32, vI y1), (33, .bool (decide (y1 > (0 : Int)))), (34, .bool true), (35, pB b1 0), (36, .slice o_x0 x0.length c_x0), (37, vI y1), (38, vI (w64 (y1 - (1 : Int)))), (39, .pointer (some (ad2.add (Int.toNat (w64 (y1 - (1 : Int))) * 3)))), (40, .pointer (some (ad2.add (Int.toNat (w64 (y1 - (1 : Int))) * 3)))), (41, vI p2.x), (42, pB b2 0), (43, vI p1.x), (44, .bool (decide (p2.x ≥ p1.x))), (45, .bool (decide (p2.x ≥ p1.x))), (48, pB b2 1), (49, vI p1.lo), (50, .bool (decide (p1.lo < (-1000000000 : Int)))), (53, pB b2 1), (54, vI p1.lo), (55, pB b2 2), (56, vI p1.hi), (57, .bool (decide (p1.lo > p1.hi))), (59, .bool (decide (p1.lo > p1.hi)))] [.cell ⟨b2, 1, none⟩ (vI p1.lo), .cell ⟨b2, 2, none⟩ (vI p1.hi)] [] hf41 (by kernel_rfl) (.cell (hS6.box (i := 0) rfl (j := 1) rfl) (.cell (hS6.box (i := 0) rfl (j := 2) rfl) .nil)) .nil fun a24 hf42 => ?_
          rcases Bool.eq_false_or_eq_true (decide (p1.lo > p1.hi)) with hb11 | hb11
          ·have hr19 := cond_t hb11 hr18
           have hf43 := Fr.conv hf42 (congrArg (fun z => ([(1, pB b1 0), (4, pB b2 0), (16, .slice o_x0 x0.length c_x0), (17, vI (x0.length : Int)), (18, vI y1), (27, pB b2 0), (28, vI p1.x), (29, .bool (decide (p1.x > (1000000 : Int)))), (32, vI y1), (33, .bool (decide (y1 > (0 : Int)))), (34, .bool true), (35, pB b1 0), (36, .slice o_x0 x0.length c_x0), (37, vI y1), (38, vI (w64 (y1 - (1 : Int)))), (39, .pointer (some (ad2.add (Int.toNat (w64 (y1 - (1 : Int))) * 3)))), (40, .pointer (some (ad2.add (Int.toNat (w64 (y1 - (1 : Int))) * 3)))), (41, vI p2.x), (42, pB b2 0), (43, vI p1.x), (44, .bool (decide (p2.x ≥ p1.x))), (45, .bool (decide (p2.x ≥ p1.x))), (48, pB b2 1), (49, vI p1.lo), (50, .bool (decide (p1.lo < (-1000000000 : Int)))), (53, pB b2 1), (54, vI p1.lo), (55, pB b2 2), (56, vI p1.hi), (57, .bool (decide (p1.lo > p1.hi))), (59, .bool z)] : FL)) hb11)
           refine p_qtE [] [(1, pB b1 0), (16, .slice o_x0 x0.length c_x0), (17, vI (x0.length : Int)), (18, vI y1), (27, pB b2 0), (28, vI p1.x), (29, .bool (decide (p1.x > (1000000 : Int)))), (32, vI y1), (33, .bool (decide (y1 > (0 : Int)))), (34, .bool true), (35, pB b1 0), (36, .slice o_x0 x0.length c_x0), (37, vI y1), (38, vI (w64 (y1 - (1 : Int)))), (39, .pointer (some (ad2.add (Int.toNat (w64 (y1 - (1 : Int))) * 3)))), (40, .pointer (some (ad2.add (Int.toNat (w64 (y1 - (1 : Int))) * 3)))), (41, vI p2.x), (42, pB b2 0), (43, vI p1.x), (44, .bool (decide (p2.x ≥ p1.x))), (45, .bool (decide (p2.x ≥ p1.x))), (48, pB b2 1), (49, vI p1.lo), (50, .bool (decide (p1.lo < (-1000000000 : Int)))), (53, pB b2 1), (54, vI p1.lo), (55, pB b2 2), (56, vI p1.hi), (57, .bool (decide (p1.lo > p1.hi))), (60, undef), (61, undef), (62, undef), (63, .bool true)] [] [] hf43 (by kernel_rfl) .nil .nil fun a25 hf44 => ?_
           have hf45 := Fr.keep (ks := [1, 16, 17, 18, 63]) (r := [(1, pB b1 0), (16, .slice o_x0 x0.length c_x0), (17, vI (x0.length : Int)), (18, vI y1), (63, .bool true)]) hf44 (by kernel_rfl)
           exact ⟨z2, true, (Zone.le_refl _), hf45, hS6, hr19⟩
          ·have hr20 := cond_f hb11 hr18
           have hf46 := Fr.conv hf42 (congrArg (fun z => ([(1, pB b1 0), (4, pB b2 0), (16, .slice o_x0 x0.length c_x0), (17, vI (x0.length : Int)), (18, vI y1), (27, pB b2 0), (28, vI p1.x), (29, .bool (decide (p1.x > (1000000 : Int)))), (32, vI y1), (33, .bool (decide (y1 > (0 : Int)))), (34, .bool true), (35, pB b1 0), (36, .slice o_x0 x0.length c_x0), (37, vI y1), (38, vI (w64 (y1 - (1 : Int)))), (39, .pointer (some (ad2.add (Int.toNat (w64 (y1 - (1 : Int))) * 3)))), (40, .pointer (some (ad2.add (Int.toNat (w64 (y1 - (1 : Int))) * 3)))), (41, vI p2.x), (42, pB b2 0), (43, vI p1.x), (44, .bool (decide (p2.x ≥ p1.x))), (45, .bool (decide (p2.x ≥ p1.x))), (48, pB b2 1), (49, vI p1.lo), (50, .bool (decide (p1.lo < (-1000000000 : Int)))), (53, pB b2 1), (54, vI p1.lo), (55, pB b2 2), (56, vI p1.hi), (57, .bool (decide (p1.lo > p1.hi))), (59, .bool z)] : FL)) hb11)
           refine p_qtE [vI p1.hi] [(1, pB b1 0), (16, .slice o_x0 x0.length c_x0), (17, vI (x0.length : Int)), (18, vI y1), (27, pB b2 0), (28, vI p1.x), (29, .bool (decide (p1.x > (1000000 : Int)))), (32, vI y1), (33, .bool (decide (y1 > (0 : Int)))), (34, .bool true), (35, pB b1 0), (36, .slice o_x0 x0.length c_x0), (37, vI y1), (38, vI (w64 (y1 - (1 : Int)))), (39, .pointer (some (ad2.add (Int.toNat (w64 (y1 - (1 : Int))) * 3)))), (40, .pointer (some (ad2.add (Int.toNat (w64 (y1 - (1 : Int))) * 3)))), (41, vI p2.x), (42, pB b2 0), (43, vI p1.x), (44, .bool (decide (p2.x ≥ p1.x))), (45, .bool (decide (p2.x ≥ p1.x))), (48, pB b2 1), (49, vI p1.lo), (50, .bool (decide (p1.lo < (-1000000000 : Int)))), (53, pB b2 1), (54, vI p1.lo), (55, pB b2 2), (56, vI p1.hi), (57, .bool (decide (p1.lo > p1.hi))), (60, pB b2 2), (61, vI p1.hi), (62, .bool (decide (p1.hi > (1000000000 : Int)))), (63, .bool (decide (p1.hi > (1000000000 : Int))))] [.cell ⟨b2, 2, none⟩ (vI p1.hi)] [] hf46 (by kernel_rfl) (.cell (hS6.box (i := 0) rfl (j := 2) rfl) .nil) .nil fun a26 hf47 => ?_
           have hf48 := Fr.keep (ks := [1, 16, 17, 18, 63]) (r := [(1, pB b1 0), (16, .slice o_x0 x0.length c_x0), (17, vI (x0.length : Int)), (18, vI y1), (63, .bool (decide (p1.hi > (1000000000 : Int))))]) hf47 (by kernel_rfl)
           exact ⟨z2, (decide (p1.hi > (1000000000 : Int))), (Zone.le_refl _), hf48, hS6, hr20⟩
       ·have hr21 := cond_f hb7 hr12
        have hf49 := Fr.conv hf30 (congrArg (fun z => ([(1, pB b1 0), (3, vI y1), (4, pB b2 0), (16, .slice o_x0 x0.length c_x0), (17, vI (x0.length : Int)), (18, vI y1), (27, pB b2 0), (28, vI p1.x), (29, .bool (decide (p1.x > (1000000 : Int)))), (31, .bool false), (32, vI y1), (33, .bool (decide (y1 > (0 : Int)))), (34, .bool z)] : FL)) hb7)
        refine p_qE 18 [vI p1.lo] [(1, pB b1 0), (4, pB b2 0), (16, .slice o_x0 x0.length c_x0), (17, vI (x0.length : Int)), (18, vI y1), (27, pB b2 0), (28, vI p1.x), (29, .bool (decide (p1.x > (1000000 : Int)))), (32, vI y1), (33, .bool (decide (y1 > (0 : Int)))), (34, .bool false), (35, undef), (36, undef), (37, undef), (38, undef), (39, undef), (40, undef), (41, undef), (42, undef), (43, undef), (44, undef), (45, .bool false), (48, pB b2 1), (49, vI p1.lo), (50, .bool (decide (p1.lo < (-1000000000 : Int)))), (52, .bool (decide (p1.lo < (-1000000000 : Int))))] [.cell ⟨b2, 1, none⟩ (vI p1.lo)] [] hf49 (by kernel_rfl) (.cell (hS6.box (i := 0) rfl (j := 1) rfl) .nil) .nil fun a27 hf50 => ?_
        rcases Bool.eq_false_or_eq_true (decide (p1.lo < (-1000000000 : Int))) with hb12 | hb12
        ·have hr22 := cond_t hb12 hr21
         have hf51 := Fr.conv hf50 (congrArg (fun z => ([(1, pB b1 0), (4, pB b2 0), (16, .slice o_x0 x0.length c_x0), (17, vI (x0.length : Int)), (18, vI y1), (27, pB b2 0), (28, vI p1.x), (29, .bool (decide (p1.x > (1000000 : Int)))), (32, vI y1), (33, .bool (decide (y1 > (0 : Int)))), (34, .bool false), (35, undef), (36, undef), (37, undef), (38, undef), (39, undef), (40, undef), (41, undef), (42, undef), (43, undef), (44, undef), (45, .bool false), (48, pB b2 1), (49, vI p1.lo), (50, .bool (decide (p1.lo < (-1000000000 : Int)))), (52, .bool z)] : FL)) hb12)
         refine p_qtE [] [(1, pB b1 0), (16, .slice o_x0 x0.length c_x0), (17, vI (x0.length : Int)), (18, vI y1), (27, pB b2 0), (28, vI p1.x), (29, .bool (decide (p1.x > (1000000 : Int)))), (32, vI y1), (33, .bool (decide (y1 > (0 : Int)))), (34, .bool false), (35, undef), (36, undef), (37, undef), (38, undef), (39, undef), (40, undef), (41, undef), (42, undef), (43, undef), (44, undef), (45, .bool false), (48, pB b2 1), (49, vI p1.lo), (50, .bool (decide (p1.lo < (-1000000000 : Int)))), (53, undef), (54, undef), (55, undef), (56, undef), (57, undef), (60, undef), (61, undef), (62, undef), (63, .bool true)] [] [] hf51 (by kernel_rfl) .nil .nil fun a28 hf52 => ?_
         have hf53 := Fr.keep (ks := [1, 16, 17, 18, 63]) (r := [(1, pB b1 0), (16, .slice o_x0 x0.length c_x0), (17, vI (x0.length : Int)), (18, vI y1), (63, .bool true)]) hf52 (by kernel_rfl)
         exact ⟨z2, true, (Zone.le_refl _), hf53, hS6, hr22⟩
        ·have hr23 := cond_f hb12 hr21
         have hf54 := Fr.conv hf50 (congrArg (fun z => ([(1, pB b1 0), (4, pB b2 0), (16, .slice o_x0 x0.length c_x0), (17, vI (x0.length : Int)), (18, vI y1), (27, pB b2 0), (28, vI p1.x), (29, .bool (decide (p1.x > (1000000 : Int)))), (32, vI y1), (33, .bool (decide (y1 > (0 : Int)))), (34, .bool false), (35, undef), (36, undef), (37, undef), (38, undef), (39, undef), (40, undef), (41, undef), (42, undef), (43, undef), (44, undef), (45, .bool false), (48, pB b2 1), (49, vI p1.lo), (50, .bool (decide (p1.lo < (-1000000000 : Int)))), (52, .bool z)] : FL)) hb12)
         refine p_qE 7 [vI p1.lo, vI p1.hi] [(1, pB b1 0), (4, pB b2 0), (16, .slice o_x0 x0.length c_x0), (17, vI (x0.length : Int)), (18, vI y1), (27, pB b2 0), (28, vI p1.x), (29, .bool (decide (p1.x > (1000000 : Int)))), (32, vI y1), (33, .bool (decide (y1 > (0 : Int)))), (34, .bool false), (35, undef), (36, undef), (37, undef), (38, undef), (39, undef), (40, undef), (41, undef), (42, undef), (43, undef), (44, undef), (45, .bool false), (48, pB b2 1), (49, vI p1.lo), (50, .bool (decide (p1.lo < (-1000000000 : Int)))), (53, pB b2 1), (54, vI p1.lo), (55, pB b2 2), (56, vI p1.hi), (57, .bool (decide (p1.lo > p1.hi))), (59, .bool (decide (p1.lo > p1.hi)))] [.cell ⟨b2, 1, none⟩ (vI p1.lo), .cell ⟨b2, 2, none⟩ (vI p1.hi)] [] hf54 (by kernel_rfl) (.cell (hS6.box (i := 0) rfl (j := 1) rfl) (.cell (hS6.box (i := 0) rfl (j := 2) rfl) .nil)) .nil fun a29 hf55 => ?_
         rcases Bool.eq_false_or_eq_true (decide (p1.lo > p1.hi)) with hb13 | hb13
         ·have hr24 := cond_t hb13 hr23
          have hf56 := Fr.conv hf55 (congrArg (fun z => ([(1, pB b1 0), (4, pB b2 0), (16, .slice o_x0 x0.length c_x0), (17, vI (x0.length : Int)), (18, vI y1), (27, pB b2 0), (28, vI p1.x), (29, .bool (decide (p1.x > (1000000 : Int)))), (32, vI y1), (33, .bool (decide (y1 > (0 : Int)))), (34, .bool false), (35, undef), (36, undef), (37, undef), (38, undef), (39, undef), (40, undef), (41, undef), (42, undef), (43, undef), (44, undef), (45, .bool false), (48, pB b2 1), (49, vI p1.lo), (50, .bool (decide (p1.lo < (-1000000000 : Int)))), (53, pB b2 1), (54, vI p1.lo), (55, pB b2 2), (56, vI p1.hi), (57, .bool (decide (p1.lo > p1.hi))), (59, .bool z)] : FL)) hb13)
          refine p_qtE [] [(1, pB b1 0), (16, .slice o_x0 x0.length c_x0), (17, vI (x0.length : Int)), (18, vI y1), (27, pB b2 0), (28, vI p1.x), (29, .bool (decide (p1.x > (1000000 : Int)))), (32, vI y1), (33, .bool (decide (y1 > (0 : Int)))), (34, .bool false), (35, undef), (36, undef), (37, undef), (38, undef), (39, undef), (40, undef), (41, undef), (42, undef), (43, undef), (44, undef), (45, .bool false), (48, pB b2 1), (49, vI p1.lo), (50, .bool (decide (p1.lo < (-1000000000 : Int)))), (53, pB b2 1), (54, vI p1.lo), (55, pB b2 2), (56, vI p1.hi), (57, .bool (decide (p1.lo > p1.hi))), (60, undef), (61, undef), (62, undef), (63, .bool true)] [] [] hf56 (by kernel_rfl) .nil .nil fun a30 hf57 => ?_
          have hf58 := Fr.keep (ks := [1, 16, 17, 18, 63]) (r := [(1, pB b1 0), (16, .slice o_x0 x0.length c_x0), (17, vI (x0.length : Int)), (18, vI y1), (63, .bool true)]) hf57 (by kernel_rfl)
          exact ⟨z2, true, (Zone.le_refl _), hf58, hS6, hr24⟩
         ·have hr25 := cond_f hb13 hr23
          have hf59 := Fr.conv hf55 (congrArg (fun z => ([(1, pB b1 0), (4, pB b2 0), (16, .slice o_x0 x0.length c_x0), (17, vI (x0.length : Int)), (18, vI y1), (27, pB b2 0), (28, vI p1.x), (29, .bool (decide (p1.x > (1000000 : Int)))), (32, vI y1), (33, .bool (decide (y1 > (0 : Int)))), (34, .bool false), (35, undef), (36, undef), (37, undef), (38, undef), (39, undef), (40, undef), (41, undef), (42, undef), (43, undef), (44, undef), (45, .bool false), (48, pB b2 1), (49, vI p1.lo), (50, .bool (decide (p1.lo < (-1000000000 : Int)))), (53, pB b2 1), (54, vI p1.lo), (55, pB b2 2), (56, vI p1.hi), (57, .bool (decide (p1.lo > p1.hi))), (59, .bool z)] : FL)) hb13)
          refine p_qtE [vI p1.hi] [(1, pB b1 0), (16, .slice o_x0 x0.length c_x0), (17, vI (x0.length : Int)), (18, vI y1), (27, pB b2 0), (28, vI p1.x), (29, .bool (decide (p1.x > (1000000 : Int)))), (32, vI y1), (33, .bool (decide (y1 > (0 : Int)))), (34, .bool false), (35, undef), (36, undef), (37, undef), (38, undef), (39, undef), (40, undef), (41, undef), (42, undef), (43, undef), (44, undef), (45, .bool false), (48, pB b2 1), (49, vI p1.lo), (50, .bool (decide (p1.lo < (-1000000000 : Int)))), (53, pB b2 1), (54, vI p1.lo), (55, pB b2 2), (56, vI p1.hi), (57, .bool (decide (p1.lo > p1.hi))), (60, pB b2 2), (61, vI p1.hi), (62, .bool (decide (p1.hi > (1000000000 : Int)))), (63, .bool (decide (p1.hi > (1000000000 : Int))))] [.cell ⟨b2, 2, none⟩ (vI p1.hi)] [] hf59 (by kernel_rfl) (.cell (hS6.box (i := 0) rfl (j := 2) rfl) .nil) .nil fun a31 hf60 => ?_
          have hf61 := Fr.keep (ks := [1, 16, 17, 18, 63]) (r := [(1, pB b1 0), (16, .slice o_x0 x0.length c_x0), (17, vI (x0.length : Int)), (18, vI y1), (63, .bool (decide (p1.hi > (1000000000 : Int))))]) hf60 (by kernel_rfl)
          exact ⟨z2, (decide (p1.hi > (1000000000 : Int))), (Zone.le_refl _), hf61, hS6, hr25⟩
    ·rintro a32 ww6 ⟨z3, y2, k4, hf62, hS7, hr26⟩
     refine w_if hf62 (b := y2) (by kernel_rfl) (fun hb14 => ?_) (fun hb14 => ?_)
     ·have hr27 := cond_t hb14 hr26
      refine w_sq [] [(2, .bool false)] [] hf62 (by kernel_rfl) .nil fun a33 hf63 => ?_
      refine w_ret (by kernel_rfl) ?_
      refine r_block ?_
      refine r_then ?_
      refine r_then ?_
      refine r_block ?_
      refine r_then ?_
      refine p_ret (os := []) (v := .bool false) (obs := []) hf63 (by kernel_rfl) .nil ?_
      obtain rfl := some_eq hr27
      exact ⟨_, rfl, z3, (Zone.le_trans (Zone.le_trans k2 k3) k4), rfl, (St.drop 2 hS7)⟩
     ·have hr28 := cond_f hb14 hr26
      refine w_skip (by kernel_rfl) ?_
      refine n_block ?_
      refine n_then ?_
      refine w_q [] [(1, pB b1 0), (16, .slice o_x0 x0.length c_x0), (17, vI (x0.length : Int)), (18, vI (w64 (y1 + (1 : Int))))] [] hf62 (by kernel_rfl) .nil fun a34 hf64 => ?_
      refine n_then ?_
      have hf65 := Fr.keep (ks := [1, 16, 17, 18]) (r := [(1, pB b1 0), (16, .slice o_x0 x0.length c_x0), (17, vI (x0.length : Int)), (18, vI (w64 (y1 + (1 : Int))))]) hf64 (by kernel_rfl)
      exact ⟨n1, Nat.lt_succ_self n1, z3, (w64 (y1 + (1 : Int))), (Zone.le_trans k3 k4), hf65, (St.drop 1 hS7), hr28⟩
   ·have hr29 := cond_f hb3 hr6
    refine w_exit (id := 0) (by kernel_rfl) ?_
    refine x_then ?_
    refine x_then ?_
    refine x_block ?_
    refine n_then ?_
    refine w_sq [] [(2, .bool true)] [] hf15 (by kernel_rfl) .nil fun a35 hf66 => ?_
    refine w_ret (by kernel_rfl) ?_
    refine p_ret (os := []) (v := .bool true) (obs := []) hf66 (by kernel_rfl) .nil ?_
    obtain rfl := some_eq hr29
    exact ⟨_, rfl, z2, (Zone.le_trans k2 k3), rfl, (St.drop 1 hS3)⟩
def F73 (fuel : Nat) (x0 : List Pt) : Option (Int) :=
  ((getI x0 0).bind fun p1 => (some (p1.x)))
set_option maxRecDepth 100000 in
theorem f73_ok (fuel : Nat) (x0 : List Pt) (r : Int) (hr : F73 fuel x0 = some r) (h : Zone) (L : List Atom) (w : World) (hS : St h L w) (o_x0 : Option Addr) (c_x0 : Nat) (hx_x0 : SliceR PtT h o_x0 c_x0 x0) :
    Calls Try.prog 73 #[.agg #[.slice o_x0 x0.length c_x0]] w fun e w' => ∃ v, e = .returned v ∧ (v = vI r ∧ St h L w') := by
 refine calls_intro (N := 8) Try.func73 (by kernel_rfl) fun a hf => ?_
 refine w_sr (by kernel_rfl) ?_
 refine p_box (i := 0) (d := (some 1)) (cs := [.slice o_x0 x0.length c_x0]) (T := 24) (v := fun b1 => pB b1 0) hS hf (fun b => by kernel_rfl) fun b1 ww1 a1 hS1 hf1 => ⟨fun _ => trivial, ?_⟩
 refine p_qt [] [(1, pB b1 0)] [] hf1 (by kernel_rfl) .nil fun a2 hf2 => ?_
 obtain ⟨p1, hp9, hr1⟩ := bind_some hr
 obtain ⟨ad1, ho1, hb1, cc1, hc1, hk1⟩ := SliceR.getI hx_x0 hp9
 subst hc1
 refine w_sq [.slice o_x0 x0.length c_x0, .pointer (some ad1), vI p1.x] [(2, vI p1.x)] [.cell ⟨b1, 0, none⟩ (.slice o_x0 x0.length c_x0), .prop (o_x0 = some ad1), .prop (0 ≤ (0 : Int) ∧ (0 : Int) < (x0.length : Nat)), .cell ((ad1.add (Int.toNat 0 * 3)).add 0) (vI p1.x)] hf2 (by kernel_rfl) (.cell (hS1.box (i := 0) rfl (j := 0) rfl) (.prop ho1 (.prop hb1 (.cell (hS1.cell (hk1 0 _ rfl)) .nil)))) fun a3 hf3 => ?_
 refine w_ret (by kernel_rfl) ?_
 refine p_ret (os := []) (v := vI p1.x) (obs := []) hf3 (by kernel_rfl) .nil ?_
 obtain rfl := some_eq hr1
 exact ⟨_, rfl, rfl, (St.drop 1 hS1)⟩
def F74 (fuel : Nat) (x0 : List Pt) : Option (Int) :=
  ((getI x0 (w64 ((x0.length : Int) - (1 : Int)))).bind fun p1 => (some (p1.x)))
set_option maxRecDepth 100000 in
theorem f74_ok (fuel : Nat) (x0 : List Pt) (r : Int) (hr : F74 fuel x0 = some r) (h : Zone) (L : List Atom) (w : World) (hS : St h L w) (o_x0 : Option Addr) (c_x0 : Nat) (hx_x0 : SliceR PtT h o_x0 c_x0 x0) :
    Calls Try.prog 74 #[.agg #[.slice o_x0 x0.length c_x0]] w fun e w' => ∃ v, e = .returned v ∧ (v = vI r ∧ St h L w') := by
 refine calls_intro (N := 12) Try.func74 (by kernel_rfl) fun a hf => ?_
 refine w_sr (by kernel_rfl) ?_
 refine p_box (i := 0) (d := (some 1)) (cs := [.slice o_x0 x0.length c_x0]) (T := 24) (v := fun b1 => pB b1 0) hS hf (fun b => by kernel_rfl) fun b1 ww1 a1 hS1 hf1 => ⟨fun _ => trivial, ?_⟩
 refine p_qt [] [(1, pB b1 0)] [] hf1 (by kernel_rfl) .nil fun a2 hf2 => ?_
 obtain ⟨p1, hp9, hr1⟩ := bind_some hr
 obtain ⟨ad1, ho1, hb1, cc1, hc1, hk1⟩ := SliceR.getI hx_x0 hp9
 subst hc1
 refine w_sq [.slice o_x0 x0.length c_x0, .slice o_x0 x0.length c_x0, .pointer (some ad1), vI p1.x] [(2, vI p1.x)] [.cell ⟨b1, 0, none⟩ (.slice o_x0 x0.length c_x0), .cell ⟨b1, 0, none⟩ (.slice o_x0 x0.length c_x0), .prop (o_x0 = some ad1), .prop (0 ≤ (w64 ((x0.length : Int) - (1 : Int))) ∧ (w64 ((x0.length : Int) - (1 : Int))) < (x0.length : Nat)), .cell ((ad1.add (Int.toNat (w64 ((x0.length : Int) - (1 : Int))) * 3)).add 0) (vI p1.x)] hf2 (by kernel_rfl) (.cell (hS1.box (i := 0) rfl (j := 0) rfl) (.cell (hS1.box (i := 0) rfl (j := 0) rfl) (.prop ho1 (.prop hb1 (.cell (hS1.cell (hk1 0 _ rfl)) .nil))))) fun a3 hf3 => ?_
 refine w_ret (by kernel_rfl) ?_
 refine p_ret (os := []) (v := vI p1.x) (obs := []) hf3 (by kernel_rfl) .nil ?_
 obtain rfl := some_eq hr1
 exact ⟨_, rfl, rfl, (St.drop 1 hS1)⟩
def F14 (fuel : Nat) (x0 : List Pt) (x1 : Int) : Option (Int) :=
  ((F73 fuel x0).bind fun r1 => ((F74 fuel x0).bind fun r2 => ((nz (w64 ((w64 (r2 - r1)) + (1 : Int)))).bind fun _ => ((nz (w64 ((w64 (r2 - r1)) + (1 : Int)))).bind fun _ => (some ((w64 (r1 + (Int.tmod (w64 ((Int.tmod x1 (w64 ((w64 (r2 - r1)) + (1 : Int)))) + (w64 ((w64 (r2 - r1)) + (1 : Int))))) (w64 ((w64 (r2 - r1)) + (1 : Int))))))))))))
set_option maxRecDepth 100000 in
theorem f14_ok (fuel : Nat) (x0 : List Pt) (x1 : Int) (r : Int) (hr : F14 fuel x0 x1 = some r) (h : Zone) (L : List Atom) (w : World) (hS : St h L w) (o_x0 : Option Addr) (c_x0 : Nat) (hx_x0 : SliceR PtT h o_x0 c_x0 x0) :
    Calls Try.prog 14 #[.agg #[.slice o_x0 x0.length c_x0], vI x1] w fun e w' => ∃ v, e = .returned v ∧ (v = vI r ∧ St h L w') := by
 refine calls_intro (N := 23) Try.func14 (by kernel_rfl) fun a hf => ?_
 refine w_sr (by kernel_rfl) ?_
 refine p_box (i := 0) (d := (some 2)) (cs := [.slice o_x0 x0.length c_x0]) (T := 24) (v := fun b1 => pB b1 0) hS hf (fun b => by kernel_rfl) fun b1 ww1 a1 hS1 hf1 => ⟨fun _ => trivial, ?_⟩
 refine p_qt [] [(1, vI x1), (2, pB b1 0)] [] hf1 (by kernel_rfl) .nil fun a2 hf2 => ?_
 refine w_sr (by kernel_rfl) ?_
 refine p_qn 1 [.slice o_x0 x0.length c_x0] [(1, vI x1), (2, pB b1 0), (7, .agg #[.slice o_x0 x0.length c_x0])] [.cell ⟨b1, 0, none⟩ (.slice o_x0 x0.length c_x0)] hf2 (by kernel_rfl) (.cell (hS1.box (i := 0) rfl (j := 0) rfl) .nil) fun a3 hf3 => ?_
 obtain ⟨r1, hd1, hr1⟩ := bind_some hr
 refine p_call (i := 1) (d := some 8) (f := 73) (args := #[.agg #[.slice o_x0 x0.length c_x0]]) hf3 (by kernel_rfl) (f73_ok fuel x0 r1 hd1 h _ _ hS1 o_x0 c_x0 hx_x0) ?_
 rintro v1 ww2 a4 ⟨rfl, hS2⟩ hf4
 refine ⟨fun _ => trivial, ?_⟩
 refine p_qt [] [(1, vI x1), (2, pB b1 0), (5, vI r1)] [] hf4 (by kernel_rfl) .nil fun a5 hf5 => ?_
 refine w_sr (by kernel_rfl) ?_
 refine p_qn 1 [.slice o_x0 x0.length c_x0] [(1, vI x1), (5, vI r1), (9, .agg #[.slice o_x0 x0.length c_x0])] [.cell ⟨b1, 0, none⟩ (.slice o_x0 x0.length c_x0)] hf5 (by kernel_rfl) (.cell (hS2.box (i := 0) rfl (j := 0) rfl) .nil) fun a6 hf6 => ?_
 obtain ⟨r2, hd2, hr2⟩ := bind_some hr1
 refine p_call (i := 1) (d := some 10) (f := 74) (args := #[.agg #[.slice o_x0 x0.length c_x0]]) hf6 (by kernel_rfl) (f74_ok fuel x0 r2 hd2 h _ _ hS2 o_x0 c_x0 hx_x0) ?_
 rintro v2 ww3 a7 ⟨rfl, hS3⟩ hf7
 refine ⟨fun _ => trivial, ?_⟩
 refine p_qt [] [(1, vI x1), (5, vI r1), (6, vI (w64 ((w64 (r2 - r1)) + (1 : Int))))] [] hf7 (by kernel_rfl) .nil fun a8 hf8 => ?_
 obtain ⟨u1, hd3, hr3⟩ := bind_some hr2
 obtain ⟨u2, hd4, hr4⟩ := bind_some hr3
 refine w_sq [] [(4, vI (w64 (r1 + (Int.tmod (w64 ((Int.tmod x1 (w64 ((w64 (r2 - r1)) + (1 : Int)))) + (w64 ((w64 (r2 - r1)) + (1 : Int))))) (w64 ((w64 (r2 - r1)) + (1 : Int)))))))] [.prop ((w64 ((w64 (r2 - r1)) + (1 : Int))) ≠ 0), .prop ((w64 ((w64 (r2 - r1)) + (1 : Int))) ≠ 0)] hf8 (by kernel_rfl) (.prop (nz_spec hd3) (.prop (nz_spec hd4) .nil)) fun a9 hf9 => ?_
 refine w_ret (by kernel_rfl) ?_
 refine p_ret (os := []) (v := vI (w64 (r1 + (Int.tmod (w64 ((Int.tmod x1 (w64 ((w64 (r2 - r1)) + (1 : Int)))) + (w64 ((w64 (r2 - r1)) + (1 : Int))))) (w64 ((w64 (r2 - r1)) + (1 : Int))))))) (obs := []) hf9 (by kernel_rfl) .nil ?_
 obtain rfl := some_eq hr4
 exact ⟨_, rfl, rfl, (St.drop 1 hS3)⟩
def F100_j1 (y1 : Int) : Option (Int) :=
  (some (y1))
def F100 (fuel : Nat) (x0 : Int) (x1 : Int) : Option (Int) :=
  ((nz x1).bind fun _ => ((nz x1).bind fun _ => (cond (decide ((Int.tmod x0 x1) < (0 : Int))) (F100_j1 (w64 ((w64 (Int.tdiv x0 x1)) - (1 : Int)))) (F100_j1 (w64 (Int.tdiv x0 x1))))))
set_option maxRecDepth 100000 in
theorem f100_ok (fuel : Nat) (x0 : Int) (x1 : Int) (r : Int) (hr : F100 fuel x0 x1 = some r) (h : Zone) (L : List Atom) (w : World) (hS : St h L w)  :
    Calls Try.prog 100 #[vI x0, vI x1] w fun e w' => ∃ v, e = .returned v ∧ (∃ h', Zone.le h h' ∧ v = vI r ∧ St h' L w') := by
 refine calls_intro (N := 16) Try.func100 (by kernel_rfl) fun a hf => ?_
 refine w_sq [] [(0, vI x0), (1, vI x1)] [] hf (by kernel_rfl) .nil fun a1 hf1 => ?_
 obtain ⟨u1, hd1, hr1⟩ := bind_some hr
 refine w_sq [] [(0, vI x0), (1, vI x1), (5, vI (w64 (Int.tdiv x0 x1)))] [.prop (x1 ≠ 0)] hf1 (by kernel_rfl) (.prop (nz_spec hd1) .nil) fun a2 hf2 => ?_
 refine w_mid (by kernel_rfl) (fun a w => ∃ z1 : Zone, ∃ y1 : Int, Zone.le h z1 ∧ Fr a 16 [(5, vI y1)] ∧ St z1 (L) w ∧ (F100_j1 y1) = some r) ?_ ?_
 ·skip
  obtain ⟨u2, hd2, hr2⟩ := bind_some hr1
  refine w_sq [] [(5, vI (w64 (Int.tdiv x0 x1))), (12, .bool (decide ((Int.tmod x0 x1) < (0 : Int))))] [.prop (x1 ≠ 0)] hf2 (by kernel_rfl) (.prop (nz_spec hd2) .nil) fun a3 hf3 => ?_
  refine w_if hf3 (b := (decide ((Int.tmod x0 x1) < (0 : Int)))) (by kernel_rfl) (fun hb1 => ?_) (fun hb1 => ?_)
  ·have hr3 := cond_t hb1 hr2
   refine w_q [] [(5, vI (w64 ((w64 (Int.tdiv x0 x1)) - (1 : Int))))] [] hf3 (by kernel_rfl) .nil fun a4 hf4 => ?_
   refine n_then ?_
   have hf5 := Fr.keep (ks := [5]) (r := [(5, vI (w64 ((w64 (Int.tdiv x0 x1)) - (1 : Int))))]) hf4 (by kernel_rfl)
   exact ⟨h, (w64 ((w64 (Int.tdiv x0 x1)) - (1 : Int))), (Zone.le_refl _), hf5, hS, hr3⟩
  ·have hr4 := cond_f hb1 hr2
   refine w_skip (by kernel_rfl) ?_
   refine n_then ?_
   have hf6 := Fr.keep (ks := [5]) (r := [(5, vI (w64 (Int.tdiv x0 x1)))]) hf3 (by kernel_rfl)
   exact ⟨h, (w64 (Int.tdiv x0 x1)), (Zone.le_refl _), hf6, hS, hr4⟩
 ·rintro a5 ww1 ⟨z1, y1, k1, hf7, hS1, hr5⟩
  refine w_sq [] [(4, vI y1)] [] hf7 (by kernel_rfl) .nil fun a6 hf8 => ?_
  refine w_ret (by kernel_rfl) ?_
  refine p_ret (os := []) (v := vI y1) (obs := []) hf8 (by kernel_rfl) .nil ?_
  obtain rfl := some_eq hr5
  exact ⟨_, rfl, z1, k1, rfl, hS1⟩
def F78 (fuel : Nat) (x0 : Int) (x1 : Int) (x2 : Int) (x3 : Int) (x4 : Int) (x5 : Int) : Option (Int × Int × Int) :=
  ((F100 fuel (w64 (x3 - x1)) (w64 (x2 - x0))).bind fun r1 => ((F100 fuel (w64 ((w64 ((w64 (x3 - x1)) - (w64 (r1 * (w64 (x2 - x0)))))) * (w64 ((w64 (x5 - x4)) * (w64 ((w64 (x4 + x5)) - (w64 ((2 : Int) * x0)))))))) (w64 (x2 - x0))).bind fun r2 => (some ((w64 ((w64 ((w64 ((w64 ((2 : Int) * x1)) * (w64 (x5 - x4)))) + (w64 (r1 * (w64 ((w64 (x5 - x4)) * (w64 ((w64 (x4 + x5)) - (w64 ((2 : Int) * x0)))))))))) + r2)), (w64 ((w64 ((w64 ((w64 (x3 - x1)) - (w64 (r1 * (w64 (x2 - x0)))))) * (w64 ((w64 (x5 - x4)) * (w64 ((w64 (x4 + x5)) - (w64 ((2 : Int) * x0)))))))) - (w64 (r2 * (w64 (x2 - x0)))))), (w64 (x2 - x0))))))
set_option maxRecDepth 100000 in
theorem f78_ok (fuel : Nat) (x0 : Int) (x1 : Int) (x2 : Int) (x3 : Int) (x4 : Int) (x5 : Int) (r : Int × Int × Int) (hr : F78 fuel x0 x1 x2 x3 x4 x5 = some r) (h : Zone) (L : List Atom) (w : World) (hS : St h L w)  :
    Calls Try.prog 78 #[vI x0, vI x1, vI x2, vI x3, vI x4, vI x5] w fun e w' => ∃ v, e = .returned v ∧ (∃ h', Zone.le h h' ∧ v = .agg #[vI r.1, vI r.2.1, vI r.2.2] ∧ St h' L w') := by
 refine calls_intro (N := 69) Try.func78 (by kernel_rfl) fun a hf => ?_
 refine w_sr (by kernel_rfl) ?_
 refine p_box (i := 0) (d := (some 12)) (cs := [vI 0, vI 0, vI 0]) (T := 56) (v := fun b1 => pB b1 0) hS hf (fun b => by kernel_rfl) fun b1 ww1 a1 hS1 hf1 => ⟨fun _ => trivial, ?_⟩
 refine p_dt (by kernel_rfl) ?_
 refine w_sq [] [(0, vI x0), (1, vI x1), (3, vI x3), (4, vI x4), (5, vI x5), (12, pB b1 0), (13, vI (w64 (x2 - x0)))] [] hf1 (by kernel_rfl) .nil fun a2 hf2 => ?_
 refine w_sq [] [(0, vI x0), (1, vI x1), (4, vI x4), (5, vI x5), (12, pB b1 0), (13, vI (w64 (x2 - x0))), (14, vI (w64 (x3 - x1)))] [] hf2 (by kernel_rfl) .nil fun a3 hf3 => ?_
 refine w_sr (by kernel_rfl) ?_
 refine p_qn 2 [] [(0, vI x0), (1, vI x1), (4, vI x4), (5, vI x5), (12, pB b1 0), (13, vI (w64 (x2 - x0))), (14, vI (w64 (x3 - x1))), (26, vI (w64 (x3 - x1))), (27, vI (w64 (x2 - x0)))] [] hf3 (by kernel_rfl) .nil fun a4 hf4 => ?_
 obtain ⟨r1, hd1, hr1⟩ := bind_some hr
 refine p_call (i := 2) (d := some 28) (f := 100) (args := #[vI (w64 (x3 - x1)), vI (w64 (x2 - x0))]) hf4 (by kernel_rfl) (f100_ok fuel (w64 (x3 - x1)) (w64 (x2 - x0)) r1 hd1 h _ _ hS1 ) ?_
 rintro v1 ww2 a5 ⟨z1, k1, rfl, hS2⟩ hf5
 refine ⟨fun _ => trivial, ?_⟩
 refine p_qt [] [(0, vI x0), (1, vI x1), (4, vI x4), (5, vI x5), (12, pB b1 0), (13, vI (w64 (x2 - x0))), (14, vI (w64 (x3 - x1))), (15, vI r1)] [] hf5 (by kernel_rfl) .nil fun a6 hf6 => ?_
 refine w_sq [] [(0, vI x0), (1, vI x1), (4, vI x4), (5, vI x5), (12, pB b1 0), (13, vI (w64 (x2 - x0))), (15, vI r1), (16, vI (w64 ((w64 (x3 - x1)) - (w64 (r1 * (w64 (x2 - x0)))))))] [] hf6 (by kernel_rfl) .nil fun a7 hf7 => ?_
 refine w_sq [] [(1, vI x1), (4, vI x4), (5, vI x5), (12, pB b1 0), (13, vI (w64 (x2 - x0))), (15, vI r1), (16, vI (w64 ((w64 (x3 - x1)) - (w64 (r1 * (w64 (x2 - x0))))))), (17, vI (w64 ((w64 (x5 - x4)) * (w64 ((w64 (x4 + x5)) - (w64 ((2 : Int) * x0)))))))] [] hf7 (by kernel_rfl) .nil fun a8 hf8 => ?_
 refine w_sq [] [(1, vI x1), (4, vI x4), (5, vI x5), (12, pB b1 0), (13, vI (w64 (x2 - x0))), (15, vI r1), (17, vI (w64 ((w64 (x5 - x4)) * (w64 ((w64 (x4 + x5)) - (w64 ((2 : Int) * x0))))))), (18, vI (w64 ((w64 ((w64 (x3 - x1)) - (w64 (r1 * (w64 (x2 - x0)))))) * (w64 ((w64 (x5 - x4)) * (w64 ((w64 (x4 + x5)) - (w64 ((2 : Int) * x0)))))))))] [] hf8 (by kernel_rfl) .nil fun a9 hf9 => ?_
 refine w_sr (by kernel_rfl) ?_
 refine p_qn 2 [] [(1, vI x1), (4, vI x4), (5, vI x5), (12, pB b1 0), (13, vI (w64 (x2 - x0))), (15, vI r1), (17, vI (w64 ((w64 (x5 - x4)) * (w64 ((w64 (x4 + x5)) - (w64 ((2 : Int) * x0))))))), (18, vI (w64 ((w64 ((w64 (x3 - x1)) - (w64 (r1 * (w64 (x2 - x0)))))) * (w64 ((w64 (x5 - x4)) * (w64 ((w64 (x4 + x5)) - (w64 ((2 : Int) * x0))))))))), (47, vI (w64 ((w64 ((w64 (x3 - x1)) - (w64 (r1 * (w64 (x2 - x0)))))) * (w64 ((w64 (x5 - x4)) * (w64 ((w64 (x4 + x5)) - (w64 ((2 : Int) * x0))))))))), (48, vI (w64 (x2 - x0)))] [] hf9 (by kernel_rfl) .nil fun a10 hf10 => ?_
 obtain ⟨r2, hd2, hr2⟩ := bind_some hr1
 refine p_call (i := 2) (d := some 49) (f := 100) (args := #[vI (w64 ((w64 ((w64 (x3 - x1)) - (w64 (r1 * (w64 (x2 - x0)))))) * (w64 ((w64 (x5 - x4)) * (w64 ((w64 (x4 + x5)) - (w64 ((2 : Int) * x0)))))))), vI (w64 (x2 - x0))]) hf10 (by kernel_rfl) (f100_ok fuel (w64 ((w64 ((w64 (x3 - x1)) - (w64 (r1 * (w64 (x2 - x0)))))) * (w64 ((w64 (x5 - x4)) * (w64 ((w64 (x4 + x5)) - (w64 ((2 : Int) * x0)))))))) (w64 (x2 - x0)) r2 hd2 z1 _ _ hS2 ) ?_
 rintro v2 ww3 a11 ⟨z2, k2, rfl, hS3⟩ hf11
 refine ⟨fun _ => trivial, ?_⟩
 refine p_qt [] [(1, vI x1), (4, vI x4), (5, vI x5), (12, pB b1 0), (13, vI (w64 (x2 - x0))), (15, vI r1), (17, vI (w64 ((w64 (x5 - x4)) * (w64 ((w64 (x4 + x5)) - (w64 ((2 : Int) * x0))))))), (18, vI (w64 ((w64 ((w64 (x3 - x1)) - (w64 (r1 * (w64 (x2 - x0)))))) * (w64 ((w64 (x5 - x4)) * (w64 ((w64 (x4 + x5)) - (w64 ((2 : Int) * x0))))))))), (19, vI r2)] [] hf11 (by kernel_rfl) .nil fun a12 hf12 => ?_
 refine w_sr (by kernel_rfl) ?_
 refine p_qn 19 [] [(12, pB b1 0), (68, .agg #[vI (w64 ((w64 ((w64 ((w64 ((2 : Int) * x1)) * (w64 (x5 - x4)))) + (w64 (r1 * (w64 ((w64 (x5 - x4)) * (w64 ((w64 (x4 + x5)) - (w64 ((2 : Int) * x0)))))))))) + r2)), vI (w64 ((w64 ((w64 ((w64 (x3 - x1)) - (w64 (r1 * (w64 (x2 - x0)))))) * (w64 ((w64 (x5 - x4)) * (w64 ((w64 (x4 + x5)) - (w64 ((2 : Int) * x0)))))))) - (w64 (r2 * (w64 (x2 - x0)))))), vI (w64 (x2 - x0))])] [] hf12 (by kernel_rfl) .nil fun a13 hf13 => ?_
 refine p_store_eq (i := 19) (j := 0) (b := b1) (off := 0) (vs := [vI (w64 ((w64 ((w64 ((w64 ((2 : Int) * x1)) * (w64 (x5 - x4)))) + (w64 (r1 * (w64 ((w64 (x5 - x4)) * (w64 ((w64 (x4 + x5)) - (w64 ((2 : Int) * x0)))))))))) + r2)), vI (w64 ((w64 ((w64 ((w64 (x3 - x1)) - (w64 (r1 * (w64 (x2 - x0)))))) * (w64 ((w64 (x5 - x4)) * (w64 ((w64 (x4 + x5)) - (w64 ((2 : Int) * x0)))))))) - (w64 (r2 * (w64 (x2 - x0)))))), vI (w64 (x2 - x0))]) (cs' := [vI (w64 ((w64 ((w64 ((w64 ((2 : Int) * x1)) * (w64 (x5 - x4)))) + (w64 (r1 * (w64 ((w64 (x5 - x4)) * (w64 ((w64 (x4 + x5)) - (w64 ((2 : Int) * x0)))))))))) + r2)), vI (w64 ((w64 ((w64 ((w64 (x3 - x1)) - (w64 (r1 * (w64 (x2 - x0)))))) * (w64 ((w64 (x5 - x4)) * (w64 ((w64 (x4 + x5)) - (w64 ((2 : Int) * x0)))))))) - (w64 (r2 * (w64 (x2 - x0)))))), vI (w64 (x2 - x0))]) hS3 hf13 rfl (by kernel_rfl) (by kernel_rfl) rfl fun ww4 a14 hS4 hf14 => ⟨fun _ => trivial, ?_⟩
 refine p_dt (by kernel_rfl) ?_
 refine w_ret (by kernel_rfl) ?_
 refine p_ret (os := [vI (w64 ((w64 ((w64 ((w64 ((2 : Int) * x1)) * (w64 (x5 - x4)))) + (w64 (r1 * (w64 ((w64 (x5 - x4)) * (w64 ((w64 (x4 + x5)) - (w64 ((2 : Int) * x0)))))))))) + r2)), vI (w64 ((w64 ((w64 ((w64 (x3 - x1)) - (w64 (r1 * (w64 (x2 - x0)))))) * (w64 ((w64 (x5 - x4)) * (w64 ((w64 (x4 + x5)) - (w64 ((2 : Int) * x0)))))))) - (w64 (r2 * (w64 (x2 - x0)))))), vI (w64 (x2 - x0))]) (v := .agg #[vI (w64 ((w64 ((w64 ((w64 ((2 : Int) * x1)) * (w64 (x5 - x4)))) + (w64 (r1 * (w64 ((w64 (x5 - x4)) * (w64 ((w64 (x4 + x5)) - (w64 ((2 : Int) * x0)))))))))) + r2)), vI (w64 ((w64 ((w64 ((w64 (x3 - x1)) - (w64 (r1 * (w64 (x2 - x0)))))) * (w64 ((w64 (x5 - x4)) * (w64 ((w64 (x4 + x5)) - (w64 ((2 : Int) * x0)))))))) - (w64 (r2 * (w64 (x2 - x0)))))), vI (w64 (x2 - x0))]) (obs := [.cell ⟨b1, 0, none⟩ (vI (w64 ((w64 ((w64 ((w64 ((2 : Int) * x1)) * (w64 (x5 - x4)))) + (w64 (r1 * (w64 ((w64 (x5 - x4)) * (w64 ((w64 (x4 + x5)) - (w64 ((2 : Int) * x0)))))))))) + r2))), .cell ⟨b1, 1, none⟩ (vI (w64 ((w64 ((w64 ((w64 (x3 - x1)) - (w64 (r1 * (w64 (x2 - x0)))))) * (w64 ((w64 (x5 - x4)) * (w64 ((w64 (x4 + x5)) - (w64 ((2 : Int) * x0)))))))) - (w64 (r2 * (w64 (x2 - x0))))))), .cell ⟨b1, 2, none⟩ (vI (w64 (x2 - x0)))]) hf14 (by kernel_rfl) (.cell (hS4.box (i := 0) rfl (j := 0) rfl) (.cell (hS4.box (i := 0) rfl (j := 1) rfl) (.cell (hS4.box (i := 0) rfl (j := 2) rfl) .nil))) ?_
 obtain rfl := some_eq hr2
 exact ⟨_, rfl, z2, (Zone.le_trans k1 k2), rfl, (St.drop 1 hS4)⟩
def F79 (fuel : Nat) (x0_w : Int) (x0_n : Int) (x0_d : Int) (x1_w : Int) (x1_n : Int) (x1_d : Int) : Option (Int × Int × Int) :=
  ((F100 fuel (w64 ((w64 (x0_n * x1_d)) + (w64 (x1_n * x0_d)))) (w64 (x0_d * x1_d))).bind fun r1 => (some ((w64 ((w64 (x0_w + x1_w)) + r1)), (w64 ((w64 ((w64 (x0_n * x1_d)) + (w64 (x1_n * x0_d)))) - (w64 (r1 * (w64 (x0_d * x1_d)))))), (w64 (x0_d * x1_d)))))
set_option maxRecDepth 100000 in
theorem f79_ok (fuel : Nat) (x0_w : Int) (x0_n : Int) (x0_d : Int) (x1_w : Int) (x1_n : Int) (x1_d : Int) (r : Int × Int × Int) (hr : F79 fuel x0_w x0_n x0_d x1_w x1_n x1_d = some r) (h : Zone) (L : List Atom) (w : World) (hS : St h L w)  :
    Calls Try.prog 79 #[.agg #[vI x0_w, vI x0_n, vI x0_d], .agg #[vI x1_w, vI x1_n, vI x1_d]] w fun e w' => ∃ v, e = .returned v ∧ (∃ h', Zone.le h h' ∧ v = .agg #[vI r.1, vI r.2.1, vI r.2.2] ∧ St h' L w') := by
 refine calls_intro (N := 41) Try.func79 (by kernel_rfl) fun a hf => ?_
 refine w_sr (by kernel_rfl) ?_
 refine p_box (i := 0) (d := (some 2)) (cs := [vI x0_w, vI x0_n, vI x0_d]) (T := 56) (v := fun b1 => pB b1 0) hS hf (fun b => by kernel_rfl) fun b1 ww1 a1 hS1 hf1 => ⟨fun _ => trivial, ?_⟩
 refine p_box (i := 1) (d := (some 3)) (cs := [vI x1_w, vI x1_n, vI x1_d]) (T := 56) (v := fun b2 => pB b2 0) hS1 hf1 (fun b => by kernel_rfl) fun b2 ww2 a2 hS2 hf2 => ⟨fun _ => trivial, ?_⟩
 refine p_box (i := 2) (d := (some 4)) (cs := [vI 0, vI 0, vI 0]) (T := 56) (v := fun b3 => pB b3 0) hS2 hf2 (fun b => by kernel_rfl) fun b3 ww3 a3 hS3 hf3 => ⟨fun _ => trivial, ?_⟩
 refine p_dt (by kernel_rfl) ?_
 refine w_sq [vI x0_n, vI x1_d, vI x1_n, vI x0_d] [(2, pB b1 0), (3, pB b2 0), (4, pB b3 0), (5, vI (w64 ((w64 (x0_n * x1_d)) + (w64 (x1_n * x0_d)))))] [.cell ⟨b1, 1, none⟩ (vI x0_n), .cell ⟨b2, 2, none⟩ (vI x1_d), .cell ⟨b2, 1, none⟩ (vI x1_n), .cell ⟨b1, 2, none⟩ (vI x0_d)] hf3 (by kernel_rfl) (.cell (hS3.box (i := 2) rfl (j := 1) rfl) (.cell (hS3.box (i := 1) rfl (j := 2) rfl) (.cell (hS3.box (i := 1) rfl (j := 1) rfl) (.cell (hS3.box (i := 2) rfl (j := 2) rfl) .nil)))) fun a4 hf4 => ?_
 refine w_sq [vI x0_d, vI x1_d] [(2, pB b1 0), (3, pB b2 0), (4, pB b3 0), (5, vI (w64 ((w64 (x0_n * x1_d)) + (w64 (x1_n * x0_d))))), (6, vI (w64 (x0_d * x1_d)))] [.cell ⟨b1, 2, none⟩ (vI x0_d), .cell ⟨b2, 2, none⟩ (vI x1_d)] hf4 (by kernel_rfl) (.cell (hS3.box (i := 2) rfl (j := 2) rfl) (.cell (hS3.box (i := 1) rfl (j := 2) rfl) .nil)) fun a5 hf5 => ?_
 refine w_sr (by kernel_rfl) ?_
 refine p_qn 2 [] [(2, pB b1 0), (3, pB b2 0), (4, pB b3 0), (5, vI (w64 ((w64 (x0_n * x1_d)) + (w64 (x1_n * x0_d))))), (6, vI (w64 (x0_d * x1_d))), (24, vI (w64 ((w64 (x0_n * x1_d)) + (w64 (x1_n * x0_d))))), (25, vI (w64 (x0_d * x1_d)))] [] hf5 (by kernel_rfl) .nil fun a6 hf6 => ?_
 obtain ⟨r1, hd1, hr1⟩ := bind_some hr
 refine p_call (i := 2) (d := some 26) (f := 100) (args := #[vI (w64 ((w64 (x0_n * x1_d)) + (w64 (x1_n * x0_d)))), vI (w64 (x0_d * x1_d))]) hf6 (by kernel_rfl) (f100_ok fuel (w64 ((w64 (x0_n * x1_d)) + (w64 (x1_n * x0_d)))) (w64 (x0_d * x1_d)) r1 hd1 h _ _ hS3 ) ?_
 rintro v1 ww4 a7 ⟨z1, k1, rfl, hS4⟩ hf7
 refine ⟨fun _ => trivial, ?_⟩
 refine p_qt [] [(2, pB b1 0), (3, pB b2 0), (4, pB b3 0), (5, vI (w64 ((w64 (x0_n * x1_d)) + (w64 (x1_n * x0_d))))), (6, vI (w64 (x0_d * x1_d))), (7, vI r1)] [] hf7 (by kernel_rfl) .nil fun a8 hf8 => ?_
 refine w_sr (by kernel_rfl) ?_
 refine p_qn 14 [vI x0_w, vI x1_w] [(4, pB b3 0), (40, .agg #[vI (w64 ((w64 (x0_w + x1_w)) + r1)), vI (w64 ((w64 ((w64 (x0_n * x1_d)) + (w64 (x1_n * x0_d)))) - (w64 (r1 * (w64 (x0_d * x1_d)))))), vI (w64 (x0_d * x1_d))])] [.cell ⟨b1, 0, none⟩ (vI x0_w), .cell ⟨b2, 0, none⟩ (vI x1_w)] hf8 (by kernel_rfl) (.cell (hS4.box (i := 2) rfl (j := 0) rfl) (.cell (hS4.box (i := 1) rfl (j := 0) rfl) .nil)) fun a9 hf9 => ?_
 refine p_store_eq (i := 14) (j := 0) (b := b3) (off := 0) (vs := [vI (w64 ((w64 (x0_w + x1_w)) + r1)), vI (w64 ((w64 ((w64 (x0_n * x1_d)) + (w64 (x1_n * x0_d)))) - (w64 (r1 * (w64 (x0_d * x1_d)))))), vI (w64 (x0_d * x1_d))]) (cs' := [vI (w64 ((w64 (x0_w + x1_w)) + r1)), vI (w64 ((w64 ((w64 (x0_n * x1_d)) + (w64 (x1_n * x0_d)))) - (w64 (r1 * (w64 (x0_d * x1_d)))))), vI (w64 (x0_d * x1_d))]) hS4 hf9 rfl (by kernel_rfl) (by kernel_rfl) rfl fun ww5 a10 hS5 hf10 => ⟨fun _ => trivial, ?_⟩
 refine p_dt (by kernel_rfl) ?_
 refine w_ret (by kernel_rfl) ?_
 refine p_ret (os := [vI (w64 ((w64 (x0_w + x1_w)) + r1)), vI (w64 ((w64 ((w64 (x0_n * x1_d)) + (w64 (x1_n * x0_d)))) - (w64 (r1 * (w64 (x0_d * x1_d)))))), vI (w64 (x0_d * x1_d))]) (v := .agg #[vI (w64 ((w64 (x0_w + x1_w)) + r1)), vI (w64 ((w64 ((w64 (x0_n * x1_d)) + (w64 (x1_n * x0_d)))) - (w64 (r1 * (w64 (x0_d * x1_d)))))), vI (w64 (x0_d * x1_d))]) (obs := [.cell ⟨b3, 0, none⟩ (vI (w64 ((w64 (x0_w + x1_w)) + r1))), .cell ⟨b3, 1, none⟩ (vI (w64 ((w64 ((w64 (x0_n * x1_d)) + (w64 (x1_n * x0_d)))) - (w64 (r1 * (w64 (x0_d * x1_d))))))), .cell ⟨b3, 2, none⟩ (vI (w64 (x0_d * x1_d)))]) hf10 (by kernel_rfl) (.cell (hS5.box (i := 0) rfl (j := 0) rfl) (.cell (hS5.box (i := 0) rfl (j := 1) rfl) (.cell (hS5.box (i := 0) rfl (j := 2) rfl) .nil))) ?_
 obtain rfl := some_eq hr1
 exact ⟨_, rfl, z1, k1, rfl, (St.drop 3 hS5)⟩
def F15_j1 (k1 : Int → Int → Int → Int → Int → Option (Int × Bool)) (y1 : Int) (y2 : Int) (y3 : Int) (y4 : Int) (y5 : Int) : Option (Int × Bool) :=
  (k1 y2 y3 y4 y5 (w64 (y1 + (1 : Int))))
def F15_j2 (fuel : Nat) (k1 : Int → Int → Int → Int → Int → Option (Int × Bool)) (y6 : Int) (y7 : Int) (y8 : Int) (y9 : Int) (y1 : Int) (y10 : Int) (y11 : Int) (y12 : Int) : Option (Int × Bool) :=
  (cond (y11 == (0 : Int)) (F15_j1 k1 y1 y6 y7 y8 (w64 (y9 + y10))) ((F79 fuel y6 y7 y8 y10 y11 y12).bind fun r1 => (F15_j1 k1 y1 r1.1 r1.2.1 r1.2.2 y9)))
def F15_l1 (fuel : Nat) (x0 : List Int) (x1 : List Int) (x2 : Int) (x3 : Int) : Nat → Int → Int → Int → Int → Int → Option (Int × Bool)
  | 0, _, _, _, _, _ => none
  | n1 + 1, y6, y7, y8, y9, y1 =>
    let k1 : Int → Int → Int → Int → Int → Option (Int × Bool) := F15_l1 fuel x0 x1 x2 x3 n1
    (cond (decide ((w64 (y1 + (1 : Int))) < (x0.length : Int))) ((getI x0 y1).bind fun p1 => ((getI x0 (w64 (y1 + (1 : Int)))).bind fun p2 => (cond (decide ((if p1 > x2 then p1 else x2) ≥ (if p2 < x3 then p2 else x3))) (F15_j1 k1 y1 y6 y7 y8 y9) ((getI x0 y1).bind fun p3 => ((getI x1 y1).bind fun p4 => ((getI x0 (w64 (y1 + (1 : Int)))).bind fun p5 => ((getI x1 (w64 (y1 + (1 : Int)))).bind fun p6 => ((F78 fuel p3 p4 p5 p6 (if p1 > x2 then p1 else x2) (if p2 < x3 then p2 else x3)).bind fun r2 => (F15_j2 fuel k1 y6 y7 y8 y9 y1 r2.1 r2.2.1 r2.2.2))))))))) (some ((w64 (y9 + y6)), (decide (y7 > (0 : Int))))))
def F15 (fuel : Nat) (x0 : List Int) (x1 : List Int) (x2 : Int) (x3 : Int) : Option (Int × Bool) :=
  (F15_l1 fuel x0 x1 x2 x3 fuel 0 0 1 0 0)
set_option maxRecDepth 100000 in
theorem f15_ok (fuel : Nat) (x0 : List Int) (x1 : List Int) (x2 : Int) (x3 : Int) (r : Int × Bool) (hr : F15 fuel x0 x1 x2 x3 = some r) (h : Zone) (L : List Atom) (w : World) (hS : St h L w) (o_x0 : Option Addr) (c_x0 : Nat) (hx_x0 : SliceR Ty.int h o_x0 c_x0 x0) (o_x1 : Option Addr) (c_x1 : Nat) (hx_x1 : SliceR Ty.int h o_x1 c_x1 x1) :
    Calls Try.prog 15 #[.slice o_x0 x0.length c_x0, .slice o_x1 x1.length c_x1, vI x2, vI x3] w fun e w' => ∃ v, e = .returned v ∧ (∃ h', Zone.le h h' ∧ v = .tuple #[vI r.1, .bool r.2] ∧ St h' L w') := by
 refine calls_intro (N := 78) Try.func15 (by kernel_rfl) fun a hf => ?_
 refine w_sq [] [(0, .slice o_x0 x0.length c_x0), (1, .slice o_x1 x1.length c_x1), (2, vI x2), (3, vI x3)] [] hf (by kernel_rfl) .nil fun a1 hf1 => ?_
 refine w_sq [] [(0, .slice o_x0 x0.length c_x0), (1, .slice o_x1 x1.length c_x1), (2, vI x2), (3, vI x3), (10, vI 0)] [] hf1 (by kernel_rfl) .nil fun a2 hf2 => ?_
 refine w_sr (by kernel_rfl) ?_
 refine p_qn 1 [] [(0, .slice o_x0 x0.length c_x0), (1, .slice o_x1 x1.length c_x1), (2, vI x2), (3, vI x3), (10, vI 0), (16, .agg #[vI 0, vI 0, vI 1])] [] hf2 (by kernel_rfl) .nil fun a3 hf3 => ?_
 refine p_box (i := 1) (d := (some 11)) (cs := [vI 0, vI 0, vI 0]) (T := 56) (v := fun b1 => pB b1 0) hS hf3 (fun b => by kernel_rfl) fun b1 ww1 a4 hS1 hf4 => ⟨fun _ => trivial, ?_⟩
 refine p_store_eq (i := 2) (j := 0) (b := b1) (off := 0) (vs := [vI 0, vI 0, vI 1]) (cs' := [vI 0, vI 0, vI 1]) hS1 hf4 rfl (by kernel_rfl) (by kernel_rfl) rfl fun ww2 a5 hS2 hf5 => ⟨fun _ => trivial, ?_⟩
 refine p_dt (by kernel_rfl) ?_
 refine w_seq (by kernel_rfl) ?_
 refine w_sq [] [(0, .slice o_x0 x0.length c_x0), (1, .slice o_x1 x1.length c_x1), (2, vI x2), (3, vI x3), (10, vI 0), (11, pB b1 0), (12, vI 0)] [] hf5 (by kernel_rfl) .nil fun a6 hf6 => ?_
 refine w_block (id := 0) (by kernel_rfl) ?_
 have hf7 := Fr.keep (ks := [0, 1, 2, 3, 10, 11, 12]) (r := [(0, .slice o_x0 x0.length c_x0), (1, .slice o_x1 x1.length c_x1), (2, vI x2), (3, vI x3), (10, vI 0), (11, pB b1 0), (12, vI 0)]) hf6 (by kernel_rfl)
 refine w_loop (by kernel_rfl) (fun n a w => ∃ z1 : Zone, ∃ y6 : Int, ∃ y7 : Int, ∃ y8 : Int, ∃ y9 : Int, ∃ y1 : Int, Zone.le h z1 ∧ Fr a 78 [(0, .slice o_x0 x0.length c_x0), (1, .slice o_x1 x1.length c_x1), (2, vI x2), (3, vI x3), (10, vI y9), (11, pB b1 0), (12, vI y1)] ∧ St z1 (box b1 [vI y6, vI y7, vI y8] 56 :: L) w ∧ (F15_l1 fuel x0 x1 x2 x3 n y6 y7 y8 y9 y1) = some r) fuel ⟨h, 0, 0, 1, 0, 0, (Zone.le_refl _), hf7, hS2, hr⟩ ?_
 rintro n2 a7 ww3 ⟨z1, y6, y7, y8, y9, y1, k2, hf8, hS3, hr1⟩
 cases n2 with
 | zero => cases hr1
 | succ n1 =>
 refine w_seq (by kernel_rfl) ?_
 refine w_sq [] [(0, .slice o_x0 x0.length c_x0), (1, .slice o_x1 x1.length c_x1), (2, vI x2), (3, vI x3), (10, vI y9), (11, pB b1 0), (12, vI y1), (21, .bool (decide ((w64 (y1 + (1 : Int))) < (x0.length : Int))))] [] hf8 (by kernel_rfl) .nil fun a8 hf9 => ?_
 refine w_if hf9 (b := (decide ((w64 (y1 + (1 : Int))) < (x0.length : Int)))) (by kernel_rfl) (fun hb1 => ?_) (fun hb1 => ?_)
 ·have hr2 := cond_t hb1 hr1
  refine w_skip (by kernel_rfl) ?_
  refine n_then ?_
  refine w_mid (by kernel_rfl) (fun a w => ∃ z2 : Zone, ∃ y2 : Int, ∃ y3 : Int, ∃ y4 : Int, ∃ y5 : Int, Zone.le z1 z2 ∧ Fr a 78 [(0, .slice o_x0 x0.length c_x0), (1, .slice o_x1 x1.length c_x1), (2, vI x2), (3, vI x3), (10, vI y5), (11, pB b1 0), (12, vI y1)] ∧ St z2 (box b1 [vI y2, vI y3, vI y4] 56 :: L) w ∧ (F15_j1 (F15_l1 fuel x0 x1 x2 x3 n1) y1 y2 y3 y4 y5) = some r) ?_ ?_
  ·skip
   refine w_block (id := 1) (by kernel_rfl) ?_
   obtain ⟨p1, hp4317, hr3⟩ := bind_some hr2
   obtain ⟨ad1, ho1, hb2, cc1, hc1, hk1⟩ := SliceR.getI (SliceR.mono k2 hx_x0) hp4317
   subst hc1
   refine w_sq [.pointer (some ad1), vI p1] [(0, .slice o_x0 x0.length c_x0), (1, .slice o_x1 x1.length c_x1), (2, vI x2), (3, vI x3), (10, vI y9), (11, pB b1 0), (12, vI y1), (13, vI (if p1 > x2 then p1 else x2))] [.prop (o_x0 = some ad1), .prop (0 ≤ y1 ∧ y1 < (x0.length : Nat)), .cell ((ad1.add (Int.toNat y1 * 1)).add 0) (vI p1)] hf9 (by kernel_rfl) (.prop ho1 (.prop hb2 (.cell (hS3.cell (hk1 0 _ rfl)) .nil))) fun a9 hf10 => ?_
   obtain ⟨p2, hp4328, hr4⟩ := bind_some hr3
   obtain ⟨ad2, ho2, hb3, cc2, hc2, hk2⟩ := SliceR.getI (SliceR.mono k2 hx_x0) hp4328
   subst hc2
   refine w_sq [.pointer (some ad2), vI p2] [(0, .slice o_x0 x0.length c_x0), (1, .slice o_x1 x1.length c_x1), (2, vI x2), (3, vI x3), (10, vI y9), (11, pB b1 0), (12, vI y1), (13, vI (if p1 > x2 then p1 else x2)), (14, vI (if p2 < x3 then p2 else x3))] [.prop (o_x0 = some ad2), .prop (0 ≤ (w64 (y1 + (1 : Int))) ∧ (w64 (y1 + (1 : Int))) < (x0.length : Nat)), .cell ((ad2.add (Int.toNat (w64 (y1 + (1 : Int))) * 1)).add 0) (vI p2)] hf10 (by kernel_rfl) (.prop ho2 (.prop hb3 (.cell (hS3.cell (hk2 0 _ rfl)) .nil))) fun a10 hf11 => ?_
   refine w_seq (by kernel_rfl) ?_
   refine w_sq [] [(0, .slice o_x0 x0.length c_x0), (1, .slice o_x1 x1.length c_x1), (2, vI x2), (3, vI x3), (10, vI y9), (11, pB b1 0), (12, vI y1), (13, vI (if p1 > x2 then p1 else x2)), (14, vI (if p2 < x3 then p2 else x3)), (39, .bool (decide ((if p1 > x2 then p1 else x2) ≥ (if p2 < x3 then p2 else x3))))] [] hf11 (by kernel_rfl) .nil fun a11 hf12 => ?_
   refine w_if hf12 (b := (decide ((if p1 > x2 then p1 else x2) ≥ (if p2 < x3 then p2 else x3)))) (by kernel_rfl) (fun hb4 => ?_) (fun hb4 => ?_)
   ·have hr5 := cond_t hb4 hr4
    refine w_exit (id := 1) (by kernel_rfl) ?_
    refine x_then ?_
    refine x_block ?_
    refine n_then ?_
    have hf13 := Fr.keep (ks := [0, 1, 2, 3, 10, 11, 12]) (r := [(0, .slice o_x0 x0.length c_x0), (1, .slice o_x1 x1.length c_x1), (2, vI x2), (3, vI x3), (10, vI y9), (11, pB b1 0), (12, vI y1)]) hf12 (by kernel_rfl)
    exact ⟨z1, y6, y7, y8, y9, (Zone.le_refl _), hf13, hS3, hr5⟩
   ·have hr6 := cond_f hb4 hr4
    refine w_skip (by kernel_rfl) ?_
    refine n_then ?_
    refine w_mid (by kernel_rfl) (fun a w => ∃ z3 : Zone, ∃ y10 : Int, ∃ y11 : Int, ∃ y12 : Int, ∃ b2 : Nat, Zone.le z1 z3 ∧ Fr a 78 [(0, .slice o_x0 x0.length c_x0), (1, .slice o_x1 x1.length c_x1), (2, vI x2), (3, vI x3), (10, vI y9), (11, pB b1 0), (12, vI y1), (15, pB b2 0)] ∧ St z3 (box b2 [vI y10, vI y11, vI y12] 56 :: box b1 [vI y6, vI y7, vI y8] 56 :: L) w ∧ (F15_j2 fuel (F15_l1 fuel x0 x1 x2 x3 n1) y6 y7 y8 y9 y1 y10 y11 y12) = some r) ?_ ?_
    ·skip
     have hS4 := hS3.drew
     have s1 : Sub z1 (box b1 [vI y6, vI y7, vI y8] 56 :: L) _ := Sub.of (Zone.le_refl _) hS4
     refine w_regB (by kernel_rfl) [20, 22] (Sub z1 (box b1 [vI y6, vI y7, vI y8] 56 :: L)) (by kernel_rfl) ?_
     refine k_seg' 3 [(0, true), (1, true), (2, true), (3, true), (4, true), (5, true), (6, true), (7, true), (8, true), (9, true), (10, true), (11, true), (12, true), (13, true), (14, true), (15, true), (16, true), (17, true), (18, true), (19, true)] (by kernel_rfl) (by kernel_rfl) (At.start s1) (by kernel_rfl) ?_
     obtain ⟨p3, hp4553, hr7⟩ := bind_some hr6
     obtain ⟨ad3, ho3, hb5, cc3, hc3, hk3⟩ := SliceR.getI (SliceR.mono k2 hx_x0) hp4553
     subst hc3
     obtain ⟨p4, hp4562, hr8⟩ := bind_some hr7
     obtain ⟨ad4, ho4, hb6, cc4, hc4, hk4⟩ := SliceR.getI (SliceR.mono k2 hx_x1) hp4562
     subst hc4
     obtain ⟨p5, hp4571, hr9⟩ := bind_some hr8
     obtain ⟨ad5, ho5, hb7, cc5, hc5, hk5⟩ := SliceR.getI (SliceR.mono k2 hx_x0) hp4571
     subst hc5
     obtain ⟨p6, hp4580, hr10⟩ := bind_some hr9
     obtain ⟨ad6, ho6, hb8, cc6, hc6, hk6⟩ := SliceR.getI (SliceR.mono k2 hx_x1) hp4580
     subst hc6
     refine p_qS 20 [.pointer (some ad3), vI p3, .pointer (some ad4), vI p4, .pointer (some ad5), vI p5, .pointer (some ad6), vI p6] [(0, .slice o_x0 x0.length c_x0), (1, .slice o_x1 x1.length c_x1), (2, vI x2), (3, vI x3), (10, vI y9), (11, pB b1 0), (12, vI y1), (43, vI p3), (47, vI p4), (52, vI p5), (57, vI p6), (58, vI (if p1 > x2 then p1 else x2)), (59, vI (if p2 < x3 then p2 else x3))] [.prop (o_x0 = some ad3), .prop (0 ≤ y1 ∧ y1 < (x0.length : Nat)), .cell ((ad3.add (Int.toNat y1 * 1)).add 0) (vI p3), .prop (o_x1 = some ad4), .prop (0 ≤ y1 ∧ y1 < (x1.length : Nat)), .cell ((ad4.add (Int.toNat y1 * 1)).add 0) (vI p4), .prop (o_x0 = some ad5), .prop (0 ≤ (w64 (y1 + (1 : Int))) ∧ (w64 (y1 + (1 : Int))) < (x0.length : Nat)), .cell ((ad5.add (Int.toNat (w64 (y1 + (1 : Int))) * 1)).add 0) (vI p5), .prop (o_x1 = some ad6), .prop (0 ≤ (w64 (y1 + (1 : Int))) ∧ (w64 (y1 + (1 : Int))) < (x1.length : Nat)), .cell ((ad6.add (Int.toNat (w64 (y1 + (1 : Int))) * 1)).add 0) (vI p6)] [] s1 hf12 (by kernel_rfl) (fun _ s => (.prop ho3 (.prop hb5 (.cell (s.cell (hk3 0 _ rfl)) (.prop ho4 (.prop hb6 (.cell (s.cell (hk4 0 _ rfl)) (.prop ho5 (.prop hb7 (.cell (s.cell (hk5 0 _ rfl)) (.prop ho6 (.prop hb8 (.cell (s.cell (hk6 0 _ rfl)) .nil))))))))))))) .nil fun a12 hf14 => ?_
     refine p_done (by kernel_rfl) ?_
     intro hA1
     refine k_any' 2 [20, 21] (by kernel_rfl) hA1 (by kernel_rfl) (by kernel_rfl) ?_
     refine (all_cons ?_ (all_cons ?_ all_nil))
     ·skip
      obtain ⟨r2, hd1, hr11⟩ := bind_some hr10
      refine p_call (i := 20) (d := some 60) (f := 78) (args := #[vI p3, vI p4, vI p5, vI p6, vI (if p1 > x2 then p1 else x2), vI (if p2 < x3 then p2 else x3)]) hf14 (by kernel_rfl) (f78_ok fuel p3 p4 p5 p6 (if p1 > x2 then p1 else x2) (if p2 < x3 then p2 else x3) r2 hd1 z1 _ _ hS4 ) ?_
      rintro v1 ww4 a13 ⟨z4, k3, rfl, hS5⟩ hf15
      refine ⟨fun e => absurd e (by decide), ?_⟩
      refine p_done (by kernel_rfl) ?_
      intro hA2
      refine k_seg' 0 [(21, false), (22, false)] (by kernel_rfl) (by kernel_rfl) hA2 (by kernel_rfl) ?_
      refine p_box (i := 21) (d := (some 15)) (cs := [vI 0, vI 0, vI 0]) (T := 56) (v := fun b3 => pB b3 0) hS5 hf15 (fun b => by kernel_rfl) fun b3 ww5 a14 hS6 hf16 => ⟨fun _ => Sub.of k3 (St.drop 1 hS6), ?_⟩
      have s2 : Sub z1 (box b1 [vI y6, vI y7, vI y8] 56 :: L) _ := Sub.of k3 (St.drop 1 hS6)
      refine p_store_eq (i := 22) (j := 0) (b := b3) (off := 0) (vs := [vI r2.1, vI r2.2.1, vI r2.2.2]) (cs' := [vI r2.1, vI r2.2.1, vI r2.2.2]) hS6 hf16 rfl (by kernel_rfl) (by kernel_rfl) rfl fun ww6 a15 hS7 hf17 => ⟨fun e => absurd e (by decide), ?_⟩
      refine p_done (by kernel_rfl) ?_
      intro hA3
      refine k_done' (by kernel_rfl) (by kernel_rfl) ?_
      refine n_then ?_
      have hf18 := Fr.keep (ks := [0, 1, 2, 3, 10, 11, 12, 15]) (r := [(0, .slice o_x0 x0.length c_x0), (1, .slice o_x1 x1.length c_x1), (2, vI x2), (3, vI x3), (10, vI y9), (11, pB b1 0), (12, vI y1), (15, pB b3 0)]) hf17 (by kernel_rfl)
      exact ⟨z4, r2.1, r2.2.1, r2.2.2, b3, k3, hf18, (St.pick 1 [0] hS7 (by kernel_rfl)), hr11⟩
     ·skip
      refine p_box (i := 21) (d := (some 15)) (cs := [vI 0, vI 0, vI 0]) (T := 56) (v := fun b4 => pB b4 0) hS4 hf14 (fun b => by kernel_rfl) fun b4 ww7 a16 hS8 hf19 => ⟨fun _ => Sub.of (Zone.le_refl _) (St.drop 1 hS8), ?_⟩
      refine p_done (by kernel_rfl) ?_
      intro hA4
      have s3 : Sub z1 (box b1 [vI y6, vI y7, vI y8] 56 :: L) _ := Sub.of (Zone.le_refl _) (St.drop 1 hS8)
      refine k_seg' 0 [(20, false), (22, false)] (by kernel_rfl) (by kernel_rfl) hA4 (by kernel_rfl) ?_
      obtain ⟨r3, hd2, hr12⟩ := bind_some hr10
      refine p_call (i := 20) (d := some 60) (f := 78) (args := #[vI p3, vI p4, vI p5, vI p6, vI (if p1 > x2 then p1 else x2), vI (if p2 < x3 then p2 else x3)]) hf19 (by kernel_rfl) (f78_ok fuel p3 p4 p5 p6 (if p1 > x2 then p1 else x2) (if p2 < x3 then p2 else x3) r3 hd2 z1 _ _ hS8 ) ?_
      rintro v2 ww8 a17 ⟨z5, k4, rfl, hS9⟩ hf20
      refine ⟨fun e => absurd e (by decide), ?_⟩
      refine p_store_eq (i := 22) (j := 0) (b := b4) (off := 0) (vs := [vI r3.1, vI r3.2.1, vI r3.2.2]) (cs' := [vI r3.1, vI r3.2.1, vI r3.2.2]) hS9 hf20 rfl (by kernel_rfl) (by kernel_rfl) rfl fun ww9 a18 hS10 hf21 => ⟨fun e => absurd e (by decide), ?_⟩
      refine p_done (by kernel_rfl) ?_
      intro hA5
      refine k_done' (by kernel_rfl) (by kernel_rfl) ?_
      refine n_then ?_
      have hf22 := Fr.keep (ks := [0, 1, 2, 3, 10, 11, 12, 15]) (r := [(0, .slice o_x0 x0.length c_x0), (1, .slice o_x1 x1.length c_x1), (2, vI x2), (3, vI x3), (10, vI y9), (11, pB b1 0), (12, vI y1), (15, pB b4 0)]) hf21 (by kernel_rfl)
      exact ⟨z5, r3.1, r3.2.1, r3.2.2, b4, k4, hf22, (St.pick 1 [0] hS10 (by kernel_rfl)), hr12⟩
    ·rintro a19 ww10 ⟨z3, y10, y11, y12, b2, k5, hf23, hS11, hr13⟩
     refine w_sq [vI y11] [(0, .slice o_x0 x0.length c_x0), (1, .slice o_x1 x1.length c_x1), (2, vI x2), (3, vI x3), (10, vI y9), (11, pB b1 0), (12, vI y1), (15, pB b2 0), (63, .bool (y11 == (0 : Int)))] [.cell ⟨b2, 1, none⟩ (vI y11)] hf23 (by kernel_rfl) (.cell (hS11.box (i := 0) rfl (j := 1) rfl) .nil) fun a20 hf24 => ?_
     refine w_if hf24 (b := (y11 == (0 : Int))) (by kernel_rfl) (fun hb9 => ?_) (fun hb9 => ?_)
     ·have hr14 := cond_t hb9 hr13
      refine w_q [vI y10] [(0, .slice o_x0 x0.length c_x0), (1, .slice o_x1 x1.length c_x1), (2, vI x2), (3, vI x3), (10, vI (w64 (y9 + y10))), (11, pB b1 0), (12, vI y1)] [.cell ⟨b2, 0, none⟩ (vI y10)] hf24 (by kernel_rfl) (.cell (hS11.box (i := 0) rfl (j := 0) rfl) .nil) fun a21 hf25 => ?_
      refine n_block ?_
      refine n_then ?_
      have hf26 := Fr.keep (ks := [0, 1, 2, 3, 10, 11, 12]) (r := [(0, .slice o_x0 x0.length c_x0), (1, .slice o_x1 x1.length c_x1), (2, vI x2), (3, vI x3), (10, vI (w64 (y9 + y10))), (11, pB b1 0), (12, vI y1)]) hf25 (by kernel_rfl)
      exact ⟨z3, y6, y7, y8, (w64 (y9 + y10)), k5, hf26, (St.drop 1 hS11), hr14⟩
     ·have hr15 := cond_f hb9 hr13
      refine w_reg (by kernel_rfl) ?_
      refine p_qn 2 [vI y6, vI y7, vI y8, vI y10, vI y11, vI y12] [(0, .slice o_x0 x0.length c_x0), (1, .slice o_x1 x1.length c_x1), (2, vI x2), (3, vI x3), (10, vI y9), (11, pB b1 0), (12, vI y1), (68, .agg #[vI y6, vI y7, vI y8]), (69, .agg #[vI y10, vI y11, vI y12])] [.cell ⟨b1, 0, none⟩ (vI y6), .cell ⟨b1, 1, none⟩ (vI y7), .cell ⟨b1, 2, none⟩ (vI y8), .cell ⟨b2, 0, none⟩ (vI y10), .cell ⟨b2, 1, none⟩ (vI y11), .cell ⟨b2, 2, none⟩ (vI y12)] hf24 (by kernel_rfl) (.cell (hS11.box (i := 1) rfl (j := 0) rfl) (.cell (hS11.box (i := 1) rfl (j := 1) rfl) (.cell (hS11.box (i := 1) rfl (j := 2) rfl) (.cell (hS11.box (i := 0) rfl (j := 0) rfl) (.cell (hS11.box (i := 0) rfl (j := 1) rfl) (.cell (hS11.box (i := 0) rfl (j := 2) rfl) .nil)))))) fun a22 hf27 => ?_
      obtain ⟨r1, hd3, hr16⟩ := bind_some hr15
      refine p_call (i := 2) (d := some 70) (f := 79) (args := #[.agg #[vI y6, vI y7, vI y8], .agg #[vI y10, vI y11, vI y12]]) hf27 (by kernel_rfl) (f79_ok fuel y6 y7 y8 y10 y11 y12 r1 hd3 z3 _ _ hS11 ) ?_
      rintro v3 ww11 a23 ⟨z6, k6, rfl, hS12⟩ hf28
      refine ⟨fun _ => trivial, ?_⟩
      refine p_store_eq (i := 3) (j := 1) (b := b1) (off := 0) (vs := [vI r1.1, vI r1.2.1, vI r1.2.2]) (cs' := [vI r1.1, vI r1.2.1, vI r1.2.2]) hS12 hf28 rfl (by kernel_rfl) (by kernel_rfl) rfl fun ww12 a24 hS13 hf29 => ⟨fun _ => trivial, ?_⟩
      refine p_done (by kernel_rfl) ?_
      refine n_block ?_
      refine n_then ?_
      have hf30 := Fr.keep (ks := [0, 1, 2, 3, 10, 11, 12]) (r := [(0, .slice o_x0 x0.length c_x0), (1, .slice o_x1 x1.length c_x1), (2, vI x2), (3, vI x3), (10, vI y9), (11, pB b1 0), (12, vI y1)]) hf29 (by kernel_rfl)
      exact ⟨z6, r1.1, r1.2.1, r1.2.2, y9, (Zone.le_trans k5 k6), hf30, (St.drop 1 hS13), hr16⟩
  ·rintro a25 ww13 ⟨z2, y2, y3, y4, y5, k7, hf31, hS14, hr17⟩
   refine w_q [] [(0, .slice o_x0 x0.length c_x0), (1, .slice o_x1 x1.length c_x1), (2, vI x2), (3, vI x3), (10, vI y5), (11, pB b1 0), (12, vI (w64 (y1 + (1 : Int))))] [] hf31 (by kernel_rfl) .nil fun a26 hf32 => ?_
   refine n_then ?_
   have hf33 := Fr.keep (ks := [0, 1, 2, 3, 10, 11, 12]) (r := [(0, .slice o_x0 x0.length c_x0), (1, .slice o_x1 x1.length c_x1), (2, vI x2), (3, vI x3), (10, vI y5), (11, pB b1 0), (12, vI (w64 (y1 + (1 : Int))))]) hf32 (by kernel_rfl)
   exact ⟨n1, Nat.lt_succ_self n1, z2, y2, y3, y4, y5, (w64 (y1 + (1 : Int))), (Zone.le_trans k2 k7), hf33, hS14, hr17⟩
 ·have hr18 := cond_f hb1 hr1
  refine w_exit (id := 0) (by kernel_rfl) ?_
  refine x_then ?_
  refine x_then ?_
  refine x_block ?_
  refine n_then ?_
  have hS15 := hS3.drew
  refine w_sqD [(0, true), (1, true), (2, true), (3, true), (4, true), (5, true), (6, true), (7, true), (8, true)] [] [vI y6, vI y7] [(8, vI (w64 (y9 + y6))), (9, .bool (decide (y7 > (0 : Int))))] [.cell ⟨b1, 0, none⟩ (vI y6), .cell ⟨b1, 1, none⟩ (vI y7)] [] hf9 (by kernel_rfl) (.cell (hS15.box (i := 0) rfl (j := 0) rfl) (.cell (hS15.box (i := 0) rfl (j := 1) rfl) .nil)) .nil fun a27 hf34 => ?_
  refine w_ret (by kernel_rfl) ?_
  refine p_ret (os := []) (v := .tuple #[vI (w64 (y9 + y6)), .bool (decide (y7 > (0 : Int)))]) (obs := []) hf34 (by kernel_rfl) .nil ?_
  obtain rfl := some_eq hr18
  exact ⟨_, rfl, z1, k2, rfl, (St.drop 1 hS15)⟩
def F80_l1 (x0 : List Pt) : Nat → (List Int) → (List Int) → (List Int) → Int → Option (List Int × List Int × List Int)
  | 0, _, _, _, _ => none
  | n1 + 1, y1, y2, y3, y4 =>
    let k1 : (List Int) → (List Int) → (List Int) → Int → Option (List Int × List Int × List Int) := F80_l1 x0 n1
    (cond (decide (y4 < (x0.length : Int))) ((getI x0 y4).bind fun p1 => ((appC y3 ([p1.x])).bind fun d1 => ((appC y2 ([p1.lo])).bind fun d2 => ((appC y1 ([p1.hi])).bind fun d3 => (k1 d3 d2 d1 (w64 (y4 + (1 : Int)))))))) (some (y3, y2, y1)))
def F80 (fuel : Nat) (x0 : List Pt) : Option (List Int × List Int × List Int) :=
  (F80_l1 x0 fuel ([]) ([]) ([]) 0)
set_option maxRecDepth 100000 in
theorem f80_ok (fuel : Nat) (x0 : List Pt) (r : List Int × List Int × List Int) (hr : F80 fuel x0 = some r) (h : Zone) (L : List Atom) (w : World) (hS : St h L w) (o_x0 : Option Addr) (c_x0 : Nat) (hx_x0 : SliceR PtT h o_x0 c_x0 x0) :
    Calls Try.prog 80 #[.agg #[.slice o_x0 x0.length c_x0]] w fun e w' => ∃ v, e = .returned v ∧ (∃ h', ∃ o0 : Option Addr, ∃ c0 : Nat, ∃ o1 : Option Addr, ∃ c1 : Nat, ∃ o2 : Option Addr, ∃ c2 : Nat, Zone.le h h' ∧ v = .tuple #[.slice o0 r.1.length c0, .slice o1 r.2.1.length c1, .slice o2 r.2.2.length c2] ∧ St h' L w' ∧ SliceR Ty.int h' o0 c0 r.1 ∧ SliceR Ty.int h' o1 c1 r.2.1 ∧ SliceR Ty.int h' o2 c2 r.2.2) := by
 refine calls_intro (N := 36) Try.func80 (by kernel_rfl) fun a hf => ?_
 refine w_sr (by kernel_rfl) ?_
 refine p_box (i := 0) (d := (some 1)) (cs := [.slice o_x0 x0.length c_x0]) (T := 24) (v := fun b1 => pB b1 0) hS hf (fun b => by kernel_rfl) fun b1 ww1 a1 hS1 hf1 => ⟨fun _ => trivial, ?_⟩
 refine p_qt [] [(1, pB b1 0)] [] hf1 (by kernel_rfl) .nil fun a2 hf2 => ?_
 refine w_sq [] [(1, pB b1 0), (5, .slice none 0 0)] [] hf2 (by kernel_rfl) .nil fun a3 hf3 => ?_
 refine w_sq [] [(1, pB b1 0), (5, .slice none 0 0), (6, .slice none 0 0)] [] hf3 (by kernel_rfl) .nil fun a4 hf4 => ?_
 refine w_sq [] [(1, pB b1 0), (5, .slice none 0 0), (6, .slice none 0 0), (7, .slice none 0 0)] [] hf4 (by kernel_rfl) .nil fun a5 hf5 => ?_
 refine w_seq (by kernel_rfl) ?_
 refine w_sq [.slice o_x0 x0.length c_x0] [(5, .slice none 0 0), (6, .slice none 0 0), (7, .slice none 0 0), (11, .slice o_x0 x0.length c_x0), (12, vI (x0.length : Int)), (13, vI 0)] [.cell ⟨b1, 0, none⟩ (.slice o_x0 x0.length c_x0)] hf5 (by kernel_rfl) (.cell (hS1.box (i := 0) rfl (j := 0) rfl) .nil) fun a6 hf6 => ?_
 refine w_block (id := 0) (by kernel_rfl) ?_
 have hS2 := hS1.ownNil Ty.int 3
 have hS3 := hS2.ownNil Ty.int 3
 have hS4 := hS3.ownNil Ty.int 3
 have hf7 := Fr.keep (ks := [5, 6, 7, 11, 12, 13]) (r := [(5, .slice none 0 0), (6, .slice none 0 0), (7, .slice none 0 0), (11, .slice o_x0 x0.length c_x0), (12, vI (x0.length : Int)), (13, vI 0)]) hf6 (by kernel_rfl)
 refine w_loop (by kernel_rfl) (fun n a w => ∃ z1 : Zone, ∃ y1 : List Int, ∃ y2 : List Int, ∃ y3 : List Int, ∃ y4 : Int, ∃ e1 : Option Addr, ∃ q1 : Nat, ∃ e2 : Option Addr, ∃ q2 : Nat, ∃ e3 : Option Addr, ∃ q3 : Nat, Zone.le h z1 ∧ Fr a 36 [(5, .slice e3 y3.length q3), (6, .slice e2 y2.length q2), (7, .slice e1 y1.length q1), (11, .slice o_x0 x0.length c_x0), (12, vI (x0.length : Int)), (13, vI y4)] ∧ St z1 (ownS Ty.int 3 e1 q1 y1 :: ownS Ty.int 3 e2 q2 y2 :: ownS Ty.int 3 e3 q3 y3 :: box b1 [.slice o_x0 x0.length c_x0] 24 :: L) w ∧ (F80_l1 x0 n y1 y2 y3 y4) = some r) fuel ⟨h, [], [], [], 0, none, 0, none, 0, none, 0, (Zone.le_refl _), hf7, hS4, hr⟩ ?_
 rintro n2 a7 ww2 ⟨z1, y1, y2, y3, y4, e1, q1, e2, q2, e3, q3, k2, hf8, hS5, hr1⟩
 cases n2 with
 | zero => cases hr1
 | succ n1 =>
 refine w_sq [] [(5, .slice e3 y3.length q3), (6, .slice e2 y2.length q2), (7, .slice e1 y1.length q1), (11, .slice o_x0 x0.length c_x0), (12, vI (x0.length : Int)), (13, vI y4), (14, .bool (decide (y4 < (x0.length : Int))))] [] hf8 (by kernel_rfl) .nil fun a8 hf9 => ?_
 refine w_seq (by kernel_rfl) ?_
 refine w_if hf9 (b := (decide (y4 < (x0.length : Int)))) (by kernel_rfl) (fun hb1 => ?_) (fun hb1 => ?_)
 ·have hr2 := cond_t hb1 hr1
  refine w_skip (by kernel_rfl) ?_
  refine n_then ?_
  refine w_seq (by kernel_rfl) ?_
  refine w_block (id := 1) (by kernel_rfl) ?_
  refine w_sr (by kernel_rfl) ?_
  obtain ⟨p1, hp1984, hr3⟩ := bind_some hr2
  obtain ⟨ad1, ho1, hb2, cc1, hc1, hk1⟩ := SliceR.getI (SliceR.mono k2 hx_x0) hp1984
  subst hc1
  refine p_qn 2 [.pointer (some ad1), vI p1.x, vI p1.lo, vI p1.hi] [(5, .slice e3 y3.length q3), (6, .slice e2 y2.length q2), (7, .slice e1 y1.length q1), (11, .slice o_x0 x0.length c_x0), (12, vI (x0.length : Int)), (13, vI y4), (16, .agg #[vI p1.x, vI p1.lo, vI p1.hi])] [.prop (o_x0 = some ad1), .prop (0 ≤ y4 ∧ y4 < (x0.length : Nat)), .cell ((ad1.add (Int.toNat y4 * 3)).add 0) (vI p1.x), .cell ((ad1.add (Int.toNat y4 * 3)).add 1) (vI p1.lo), .cell ((ad1.add (Int.toNat y4 * 3)).add 2) (vI p1.hi)] hf9 (by kernel_rfl) (.prop ho1 (.prop hb2 (.cell (hS5.cell (hk1 0 _ rfl)) (.cell (hS5.cell (hk1 1 _ rfl)) (.cell (hS5.cell (hk1 2 _ rfl)) .nil))))) fun a9 hf10 => ?_
  refine p_box (i := 2) (d := (some 9)) (cs := [vI 0, vI 0, vI 0]) (T := 52) (v := fun b2 => pB b2 0) hS5 hf10 (fun b => by kernel_rfl) fun b2 ww3 a10 hS6 hf11 => ⟨fun _ => trivial, ?_⟩
  refine p_store_eq (i := 3) (j := 0) (b := b2) (off := 0) (vs := [vI p1.x, vI p1.lo, vI p1.hi]) (cs' := [vI p1.x, vI p1.lo, vI p1.hi]) hS6 hf11 rfl (by kernel_rfl) (by kernel_rfl) rfl fun ww4 a11 hS7 hf12 => ⟨fun _ => trivial, ?_⟩
  refine p_dt (by kernel_rfl) ?_
  refine w_sr (by kernel_rfl) ?_
  refine p_qn 3 [vI p1.x] [(6, .slice e2 y2.length q2), (7, .slice e1 y1.length q1), (9, pB b2 0), (11, .slice o_x0 x0.length c_x0), (12, vI (x0.length : Int)), (13, vI y4), (17, .slice e3 y3.length q3), (19, vI p1.x)] [.cell ⟨b2, 0, none⟩ (vI p1.x)] hf12 (by kernel_rfl) (.cell (hS7.box (i := 0) rfl (j := 0) rfl) .nil) fun a12 hf13 => ?_
  refine p_box (i := 3) (d := (some 20)) (cs := [vI p1.x]) (T := 3) (v := fun b3 => .slice (some ⟨b3, 0, none⟩) 1 1) hS7 hf13 (fun b => by kernel_rfl) fun b3 ww5 a13 hS8 hf14 => ⟨fun _ => trivial, ?_⟩
  have hS9 := hS8.ownBox (T := Ty.int) (E := 3) (n := 1) (xs := [p1.x]) (i := 0) rfl (Rows.cons (c := [vI p1.x]) rfl rfl) rfl (by decide)
  obtain ⟨d1, hd1, hr4⟩ := bind_some hr3
  refine p_append (T := Ty.int) (i := 4) (j := 4) (d := some 21) (o2 := (some ⟨b3, 0, none⟩)) (c2 := 1) (ys := ([p1.x])) el25 hS9 hf14 rfl (by kernel_rfl) (hS9.ownSrc (j := 0) rfl) hd1 fun e4 q4 ww6 a14 hS10 hf15 => ⟨fun _ => trivial, ?_⟩
  refine p_qt [] [(5, .slice e4 d1.length q4), (6, .slice e2 y2.length q2), (7, .slice e1 y1.length q1), (9, pB b2 0), (11, .slice o_x0 x0.length c_x0), (12, vI (x0.length : Int)), (13, vI y4)] [] hf15 (by kernel_rfl) .nil fun a15 hf16 => ?_
  refine w_sr (by kernel_rfl) ?_
  refine p_qn 3 [vI p1.lo] [(5, .slice e4 d1.length q4), (7, .slice e1 y1.length q1), (9, pB b2 0), (11, .slice o_x0 x0.length c_x0), (12, vI (x0.length : Int)), (13, vI y4), (22, .slice e2 y2.length q2), (24, vI p1.lo)] [.cell ⟨b2, 1, none⟩ (vI p1.lo)] hf16 (by kernel_rfl) (.cell (hS10.box (i := 1) rfl (j := 1) rfl) .nil) fun a16 hf17 => ?_
  refine p_box (i := 3) (d := (some 25)) (cs := [vI p1.lo]) (T := 3) (v := fun b4 => .slice (some ⟨b4, 0, none⟩) 1 1) hS10 hf17 (fun b => by kernel_rfl) fun b4 ww7 a17 hS11 hf18 => ⟨fun _ => trivial, ?_⟩
  have hS12 := hS11.ownBox (T := Ty.int) (E := 3) (n := 1) (xs := [p1.lo]) (i := 0) rfl (Rows.cons (c := [vI p1.lo]) rfl rfl) rfl (by decide)
  obtain ⟨d2, hd2, hr5⟩ := bind_some hr4
  refine p_append (T := Ty.int) (i := 4) (j := 4) (d := some 26) (o2 := (some ⟨b4, 0, none⟩)) (c2 := 1) (ys := ([p1.lo])) el25 hS12 hf18 rfl (by kernel_rfl) (hS12.ownSrc (j := 0) rfl) hd2 fun e5 q5 ww8 a18 hS13 hf19 => ⟨fun _ => trivial, ?_⟩
  refine p_qt [] [(5, .slice e4 d1.length q4), (6, .slice e5 d2.length q5), (7, .slice e1 y1.length q1), (9, pB b2 0), (11, .slice o_x0 x0.length c_x0), (12, vI (x0.length : Int)), (13, vI y4)] [] hf19 (by kernel_rfl) .nil fun a19 hf20 => ?_
  refine w_reg (by kernel_rfl) ?_
  refine p_qn 3 [vI p1.hi] [(5, .slice e4 d1.length q4), (6, .slice e5 d2.length q5), (11, .slice o_x0 x0.length c_x0), (12, vI (x0.length : Int)), (13, vI y4), (27, .slice e1 y1.length q1), (29, vI p1.hi)] [.cell ⟨b2, 2, none⟩ (vI p1.hi)] hf20 (by kernel_rfl) (.cell (hS13.box (i := 2) rfl (j := 2) rfl) .nil) fun a20 hf21 => ?_
  refine p_box (i := 3) (d := (some 30)) (cs := [vI p1.hi]) (T := 3) (v := fun b5 => .slice (some ⟨b5, 0, none⟩) 1 1) hS13 hf21 (fun b => by kernel_rfl) fun b5 ww9 a21 hS14 hf22 => ⟨fun _ => trivial, ?_⟩
  have hS15 := hS14.ownBox (T := Ty.int) (E := 3) (n := 1) (xs := [p1.hi]) (i := 0) rfl (Rows.cons (c := [vI p1.hi]) rfl rfl) rfl (by decide)
  obtain ⟨d3, hd3, hr6⟩ := bind_some hr5
  refine p_append (T := Ty.int) (i := 4) (j := 4) (d := some 31) (o2 := (some ⟨b5, 0, none⟩)) (c2 := 1) (ys := ([p1.hi])) el25 hS15 hf22 rfl (by kernel_rfl) (hS15.ownSrc (j := 0) rfl) hd3 fun e6 q6 ww10 a22 hS16 hf23 => ⟨fun _ => trivial, ?_⟩
  refine p_qz [] [(5, .slice e4 d1.length q4), (6, .slice e5 d2.length q5), (7, .slice e6 d3.length q6), (11, .slice o_x0 x0.length c_x0), (12, vI (x0.length : Int)), (13, vI y4)] [] hf23 (by kernel_rfl) .nil fun a23 hf24 => ?_
  refine n_block ?_
  refine n_then ?_
  refine w_q [] [(5, .slice e4 d1.length q4), (6, .slice e5 d2.length q5), (7, .slice e6 d3.length q6), (11, .slice o_x0 x0.length c_x0), (12, vI (x0.length : Int)), (13, vI (w64 (y4 + (1 : Int))))] [] hf24 (by kernel_rfl) .nil fun a24 hf25 => ?_
  refine n_then ?_
  have hf26 := Fr.keep (ks := [5, 6, 7, 11, 12, 13]) (r := [(5, .slice e4 d1.length q4), (6, .slice e5 d2.length q5), (7, .slice e6 d3.length q6), (11, .slice o_x0 x0.length c_x0), (12, vI (x0.length : Int)), (13, vI (w64 (y4 + (1 : Int))))]) hf25 (by kernel_rfl)
  exact ⟨n1, Nat.lt_succ_self n1, z1, d3, d2, d1, (w64 (y4 + (1 : Int))), e6, q6, e5, q5, e4, q4, k2, hf26, (St.drop 4 hS16), hr6⟩
 ·have hr7 := cond_f hb1 hr1
  refine w_exit (id := 0) (by kernel_rfl) ?_
  refine x_then ?_
  refine x_then ?_
  refine x_block ?_
  refine n_then ?_
  refine w_sq [] [(2, .slice e3 y3.length q3), (3, .slice e2 y2.length q2), (4, .slice e1 y1.length q1)] [] hf9 (by kernel_rfl) .nil fun a25 hf27 => ?_
  refine w_ret (by kernel_rfl) ?_
  obtain ⟨z2, k3, hS17, hx1⟩ := hS5.share (j := 2) rfl
  obtain ⟨z3, k4, hS18, hx2⟩ := hS17.share (j := 1) rfl
  obtain ⟨z4, k5, hS19, hx3⟩ := hS18.share (j := 0) rfl
  refine p_ret (os := []) (v := .tuple #[.slice e3 y3.length q3, .slice e2 y2.length q2, .slice e1 y1.length q1]) (obs := []) hf27 (by kernel_rfl) .nil ?_
  obtain rfl := some_eq hr7
  exact ⟨_, rfl, z4, e3, q3, e2, q2, e1, q1, (Zone.le_trans (Zone.le_trans (Zone.le_trans k2 k3) k4) k5), rfl, (St.drop 4 hS19), (SliceR.mono (Zone.le_trans k4 k5) hx1), (SliceR.mono k5 hx2), hx3⟩
def F16 (fuel : Nat) (x0 : List Pt) : Option (List Int) :=
  ((F80 fuel x0).bind fun r1 => (some (r1.1)))
set_option maxRecDepth 100000 in
theorem f16_ok (fuel : Nat) (x0 : List Pt) (r : List Int) (hr : F16 fuel x0 = some r) (h : Zone) (L : List Atom) (w : World) (hS : St h L w) (o_x0 : Option Addr) (c_x0 : Nat) (hx_x0 : SliceR PtT h o_x0 c_x0 x0) :
    Calls Try.prog 16 #[.agg #[.slice o_x0 x0.length c_x0]] w fun e w' => ∃ v, e = .returned v ∧ (∃ h', ∃ o0 : Option Addr, ∃ c0 : Nat, Zone.le h h' ∧ v = .slice o0 r.length c0 ∧ St h' L w' ∧ SliceR Ty.int h' o0 c0 r) := by
 refine calls_intro (N := 13) Try.func16 (by kernel_rfl) fun a hf => ?_
 refine w_sr (by kernel_rfl) ?_
 refine p_box (i := 0) (d := (some 1)) (cs := [.slice o_x0 x0.length c_x0]) (T := 24) (v := fun b1 => pB b1 0) hS hf (fun b => by kernel_rfl) fun b1 ww1 a1 hS1 hf1 => ⟨fun _ => trivial, ?_⟩
 refine p_qt [] [(1, pB b1 0)] [] hf1 (by kernel_rfl) .nil fun a2 hf2 => ?_
 refine w_sr (by kernel_rfl) ?_
 refine p_qn 1 [.slice o_x0 x0.length c_x0] [(7, .agg #[.slice o_x0 x0.length c_x0])] [.cell ⟨b1, 0, none⟩ (.slice o_x0 x0.length c_x0)] hf2 (by kernel_rfl) (.cell (hS1.box (i := 0) rfl (j := 0) rfl) .nil) fun a3 hf3 => ?_
 obtain ⟨r1, hd1, hr1⟩ := bind_some hr
 refine p_call (i := 1) (d := some 8) (f := 80) (args := #[.agg #[.slice o_x0 x0.length c_x0]]) hf3 (by kernel_rfl) (f80_ok fuel x0 r1 hd1 h _ _ hS1 o_x0 c_x0 hx_x0) ?_
 rintro v1 ww2 a4 ⟨z1, e1, q1, e2, q2, e3, q3, k1, rfl, hS2, hx1, hx2, hx3⟩ hf4
 refine ⟨fun _ => trivial, ?_⟩
 refine p_qt [] [(3, .slice e1 r1.1.length q1)] [] hf4 (by kernel_rfl) .nil fun a5 hf5 => ?_
 refine w_sq [] [(2, .slice e1 r1.1.length q1)] [] hf5 (by kernel_rfl) .nil fun a6 hf6 => ?_
 refine w_ret (by kernel_rfl) ?_
 refine p_ret (os := []) (v := .slice e1 r1.1.length q1) (obs := []) hf6 (by kernel_rfl) .nil ?_
 obtain rfl := some_eq hr1
 exact ⟨_, rfl, z1, e1, q1, k1, rfl, (St.drop 1 hS2), hx1⟩
def F17_j1 (k1 : (List Int) → Int → Option (List Int)) (y1 : List Int) (y2 : Int) (p1 : Pt) (y3 : Int) : Option (List Int) :=
  ((nz (w64 ((w64 (p1.hi - p1.lo)) + (1 : Int)))).bind fun _ => ((nz (w64 ((w64 (p1.hi - p1.lo)) + (1 : Int)))).bind fun _ => ((appC y1 ([(w64 (p1.lo + (Int.tmod (w64 ((Int.tmod y3 (w64 ((w64 (p1.hi - p1.lo)) + (1 : Int)))) + (w64 ((w64 (p1.hi - p1.lo)) + (1 : Int))))) (w64 ((w64 (p1.hi - p1.lo)) + (1 : Int))))))])).bind fun d1 => (k1 d1 (w64 (y2 + (1 : Int)))))))
def F17_l1 (x0_t : List Pt) (x0_c : List Int) : Nat → (List Int) → Int → Option (List Int)
  | 0, _, _ => none
  | n1 + 1, y1, y2 =>
    let k1 : (List Int) → Int → Option (List Int) := F17_l1 x0_t x0_c n1
    (cond (decide (y2 < (x0_t.length : Int))) ((getI x0_t y2).bind fun p1 => (cond (decide ((x0_c.length : Int) > (0 : Int))) ((nz (x0_c.length : Int)).bind fun _ => ((getI x0_c (Int.tmod y2 (x0_c.length : Int))).bind fun p2 => (F17_j1 k1 y1 y2 p1 p2))) (F17_j1 k1 y1 y2 p1 0))) (some (y1)))
def F17 (fuel : Nat) (x0_t : List Pt) (x0_c : List Int) : Option (List Int) :=
  (F17_l1 x0_t x0_c fuel ([]) 0)
set_option maxRecDepth 100000 in
theorem f17_ok (fuel : Nat) (x0_t : List Pt) (x0_c : List Int) (r : List Int) (hr : F17 fuel x0_t x0_c = some r) (h : Zone) (L : List Atom) (w : World) (hS : St h L w) (o_x0_t : Option Addr) (c_x0_t : Nat) (hx_x0_t : SliceR PtT h o_x0_t c_x0_t x0_t) (o_x0_c : Option Addr) (c_x0_c : Nat) (hx_x0_c : SliceR Ty.int h o_x0_c c_x0_c x0_c) :
    Calls Try.prog 17 #[.agg #[.slice o_x0_t x0_t.length c_x0_t, .slice o_x0_c x0_c.length c_x0_c]] w fun e w' => ∃ v, e = .returned v ∧ (∃ h', ∃ o0 : Option Addr, ∃ c0 : Nat, Zone.le h h' ∧ v = .slice o0 r.length c0 ∧ St h' L w' ∧ SliceR Ty.int h' o0 c0 r) := by
 refine calls_intro (N := 51) Try.func17 (by kernel_rfl) fun a hf => ?_
 refine w_sr (by kernel_rfl) ?_
 refine p_box (i := 0) (d := (some 1)) (cs := [.slice o_x0_t x0_t.length c_x0_t, .slice o_x0_c x0_c.length c_x0_c]) (T := 27) (v := fun b1 => pB b1 0) hS hf (fun b => by kernel_rfl) fun b1 ww1 a1 hS1 hf1 => ⟨fun _ => trivial, ?_⟩
 refine p_qt [] [(1, pB b1 0)] [] hf1 (by kernel_rfl) .nil fun a2 hf2 => ?_
 refine w_sq [] [(1, pB b1 0), (3, .slice none 0 0)] [] hf2 (by kernel_rfl) .nil fun a3 hf3 => ?_
 refine w_seq (by kernel_rfl) ?_
 refine w_sq [.slice o_x0_t x0_t.length c_x0_t] [(1, pB b1 0), (3, .slice none 0 0), (10, .slice o_x0_t x0_t.length c_x0_t), (11, vI (x0_t.length : Int)), (12, vI 0)] [.cell ⟨b1, 0, none⟩ (.slice o_x0_t x0_t.length c_x0_t)] hf3 (by kernel_rfl) (.cell (hS1.box (i := 0) rfl (j := 0) rfl) .nil) fun a4 hf4 => ?_
 refine w_block (id := 0) (by kernel_rfl) ?_
 have hS2 := hS1.ownNil Ty.int 3
 have hf5 := Fr.keep (ks := [1, 3, 10, 11, 12]) (r := [(1, pB b1 0), (3, .slice none 0 0), (10, .slice o_x0_t x0_t.length c_x0_t), (11, vI (x0_t.length : Int)), (12, vI 0)]) hf4 (by kernel_rfl)
 refine w_loop (by kernel_rfl) (fun n a w => ∃ z1 : Zone, ∃ y1 : List Int, ∃ y2 : Int, ∃ e1 : Option Addr, ∃ q1 : Nat, Zone.le h z1 ∧ Fr a 51 [(1, pB b1 0), (3, .slice e1 y1.length q1), (10, .slice o_x0_t x0_t.length c_x0_t), (11, vI (x0_t.length : Int)), (12, vI y2)] ∧ St z1 (ownS Ty.int 3 e1 q1 y1 :: box b1 [.slice o_x0_t x0_t.length c_x0_t, .slice o_x0_c x0_c.length c_x0_c] 27 :: L) w ∧ (F17_l1 x0_t x0_c n y1 y2) = some r) fuel ⟨h, [], 0, none, 0, (Zone.le_refl _), hf5, hS2, hr⟩ ?_
 rintro n2 a5 ww2 ⟨z1, y1, y2, e1, q1, k2, hf6, hS3, hr1⟩
 cases n2 with
 | zero => cases hr1
 | succ n1 =>
 refine w_sq [] [(1, pB b1 0), (3, .slice e1 y1.length q1), (10, .slice o_x0_t x0_t.length c_x0_t), (11, vI (x0_t.length : Int)), (12, vI y2), (13, .bool (decide (y2 < (x0_t.length : Int))))] [] hf6 (by kernel_rfl) .nil fun a6 hf7 => ?_
 refine w_seq (by kernel_rfl) ?_
 refine w_if hf7 (b := (decide (y2 < (x0_t.length : Int)))) (by kernel_rfl) (fun hb1 => ?_) (fun hb1 => ?_)
 ·have hr2 := cond_t hb1 hr1
  refine w_skip (by kernel_rfl) ?_
  refine n_then ?_
  refine w_seq (by kernel_rfl) ?_
  refine w_block (id := 1) (by kernel_rfl) ?_
  refine w_sr (by kernel_rfl) ?_
  obtain ⟨p1, hp2152, hr3⟩ := bind_some hr2
  obtain ⟨ad1, ho1, hb2, cc1, hc1, hk1⟩ := SliceR.getI (SliceR.mono k2 hx_x0_t) hp2152
  subst hc1
  refine p_qn 3 [.pointer (some ad1), vI p1.x, vI p1.lo, vI p1.hi] [(1, pB b1 0), (3, .slice e1 y1.length q1), (10, .slice o_x0_t x0_t.length c_x0_t), (11, vI (x0_t.length : Int)), (12, vI y2), (14, vI y2), (16, .agg #[vI p1.x, vI p1.lo, vI p1.hi])] [.prop (o_x0_t = some ad1), .prop (0 ≤ y2 ∧ y2 < (x0_t.length : Nat)), .cell ((ad1.add (Int.toNat y2 * 3)).add 0) (vI p1.x), .cell ((ad1.add (Int.toNat y2 * 3)).add 1) (vI p1.lo), .cell ((ad1.add (Int.toNat y2 * 3)).add 2) (vI p1.hi)] hf7 (by kernel_rfl) (.prop ho1 (.prop hb2 (.cell (hS3.cell (hk1 0 _ rfl)) (.cell (hS3.cell (hk1 1 _ rfl)) (.cell (hS3.cell (hk1 2 _ rfl)) .nil))))) fun a7 hf8 => ?_
  refine p_box (i := 3) (d := (some 5)) (cs := [vI 0, vI 0, vI 0]) (T := 52) (v := fun b2 => pB b2 0) hS3 hf8 (fun b => by kernel_rfl) fun b2 ww3 a8 hS4 hf9 => ⟨fun _ => trivial, ?_⟩
  refine p_qn 1 [] [(1, pB b1 0), (3, .slice e1 y1.length q1), (4, vI y2), (5, pB b2 0), (10, .slice o_x0_t x0_t.length c_x0_t), (11, vI (x0_t.length : Int)), (12, vI y2), (16, .agg #[vI p1.x, vI p1.lo, vI p1.hi])] [] hf9 (by kernel_rfl) .nil fun a9 hf10 => ?_
  refine p_store_eq (i := 5) (j := 0) (b := b2) (off := 0) (vs := [vI p1.x, vI p1.lo, vI p1.hi]) (cs' := [vI p1.x, vI p1.lo, vI p1.hi]) hS4 hf10 rfl (by kernel_rfl) (by kernel_rfl) rfl fun ww4 a10 hS5 hf11 => ⟨fun _ => trivial, ?_⟩
  refine p_dt (by kernel_rfl) ?_
  refine w_sq [] [(1, pB b1 0), (3, .slice e1 y1.length q1), (4, vI y2), (5, pB b2 0), (6, vI 0), (10, .slice o_x0_t x0_t.length c_x0_t), (11, vI (x0_t.length : Int)), (12, vI y2)] [] hf11 (by kernel_rfl) .nil fun a11 hf12 => ?_
  refine w_mid (by kernel_rfl) (fun a w => ∃ z2 : Zone, ∃ y3 : Int, Zone.le z1 z2 ∧ Fr a 51 [(1, pB b1 0), (3, .slice e1 y1.length q1), (5, pB b2 0), (6, vI y3), (10, .slice o_x0_t x0_t.length c_x0_t), (11, vI (x0_t.length : Int)), (12, vI y2)] ∧ St z2 (box b2 [vI p1.x, vI p1.lo, vI p1.hi] 52 :: ownS Ty.int 3 e1 q1 y1 :: box b1 [.slice o_x0_t x0_t.length c_x0_t, .slice o_x0_c x0_c.length c_x0_c] 27 :: L) w ∧ (F17_j1 (F17_l1 x0_t x0_c n1) y1 y2 p1 y3) = some r) ?_ ?_
  ·skip
   refine w_sq [.slice o_x0_c x0_c.length c_x0_c] [(1, pB b1 0), (3, .slice e1 y1.length q1), (4, vI y2), (5, pB b2 0), (6, vI 0), (10, .slice o_x0_t x0_t.length c_x0_t), (11, vI (x0_t.length : Int)), (12, vI y2), (20, .bool (decide ((x0_c.length : Int) > (0 : Int))))] [.cell ⟨b1, 1, none⟩ (.slice o_x0_c x0_c.length c_x0_c)] hf12 (by kernel_rfl) (.cell (hS5.box (i := 2) rfl (j := 1) rfl) .nil) fun a12 hf13 => ?_
   refine w_if hf13 (b := (decide ((x0_c.length : Int) > (0 : Int)))) (by kernel_rfl) (fun hb3 => ?_) (fun hb3 => ?_)
   ·have hr4 := cond_t hb3 hr3
    have hS6 := hS5.drew
    obtain ⟨u1, hd1, hr5⟩ := bind_some hr4
    obtain ⟨p2, hp2233, hr6⟩ := bind_some hr5
    obtain ⟨ad2, ho2, hb4, cc2, hc2, hk2⟩ := SliceR.getI (SliceR.mono k2 hx_x0_c) hp2233
    subst hc2
    refine w_qD [(0, true), (1, true), (2, true), (3, true), (4, true), (5, true), (6, true), (7, true), (8, true), (9, true)] [] [.slice o_x0_c x0_c.length c_x0_c, .slice o_x0_c x0_c.length c_x0_c, .pointer (some ad2), vI p2] [(1, pB b1 0), (3, .slice e1 y1.length q1), (5, pB b2 0), (6, vI p2), (10, .slice o_x0_t x0_t.length c_x0_t), (11, vI (x0_t.length : Int)), (12, vI y2)] [.cell ⟨b1, 1, none⟩ (.slice o_x0_c x0_c.length c_x0_c), .cell ⟨b1, 1, none⟩ (.slice o_x0_c x0_c.length c_x0_c), .prop ((x0_c.length : Int) ≠ 0), .prop (o_x0_c = some ad2), .prop (0 ≤ (Int.tmod y2 (x0_c.length : Int)) ∧ (Int.tmod y2 (x0_c.length : Int)) < (x0_c.length : Nat)), .cell ((ad2.add (Int.toNat (Int.tmod y2 (x0_c.length : Int)) * 1)).add 0) (vI p2)] [] hf13 (by kernel_rfl) (.cell (hS6.box (i := 2) rfl (j := 1) rfl) (.cell (hS6.box (i := 2) rfl (j := 1) rfl) (.prop (nz_spec hd1) (.prop ho2 (.prop hb4 (.cell (hS6.cell (hk2 0 _ rfl)) .nil)))))) .nil fun a13 hf14 => ?_
    refine n_then ?_
    have hf15 := Fr.keep (ks := [1, 3, 5, 6, 10, 11, 12]) (r := [(1, pB b1 0), (3, .slice e1 y1.length q1), (5, pB b2 0), (6, vI p2), (10, .slice o_x0_t x0_t.length c_x0_t), (11, vI (x0_t.length : Int)), (12, vI y2)]) hf14 (by kernel_rfl)
    exact ⟨z1, p2, (Zone.le_refl _), hf15, hS6, hr6⟩
   ·have hr7 := cond_f hb3 hr3
    refine w_skip (by kernel_rfl) ?_
    refine n_then ?_
    have hf16 := Fr.keep (ks := [1, 3, 5, 6, 10, 11, 12]) (r := [(1, pB b1 0), (3, .slice e1 y1.length q1), (5, pB b2 0), (6, vI 0), (10, .slice o_x0_t x0_t.length c_x0_t), (11, vI (x0_t.length : Int)), (12, vI y2)]) hf13 (by kernel_rfl)
    exact ⟨z1, 0, (Zone.le_refl _), hf16, hS5, hr7⟩
  ·rintro a14 ww5 ⟨z2, y3, k3, hf17, hS7, hr8⟩
   refine w_sq [vI p1.hi, vI p1.lo] [(1, pB b1 0), (3, .slice e1 y1.length q1), (5, pB b2 0), (6, vI y3), (7, vI (w64 ((w64 (p1.hi - p1.lo)) + (1 : Int)))), (10, .slice o_x0_t x0_t.length c_x0_t), (11, vI (x0_t.length : Int)), (12, vI y2)] [.cell ⟨b2, 2, none⟩ (vI p1.hi), .cell ⟨b2, 1, none⟩ (vI p1.lo)] hf17 (by kernel_rfl) (.cell (hS7.box (i := 0) rfl (j := 2) rfl) (.cell (hS7.box (i := 0) rfl (j := 1) rfl) .nil)) fun a15 hf18 => ?_
   have hS8 := hS7.drew
   refine w_regD (by kernel_rfl) [(0, true), (1, true), (2, true), (3, true), (4, true), (5, true), (6, true), (7, true), (8, true), (9, true), (10, true), (11, false), (12, false), (13, true)] [11, 12] (fun x => x = ww5.drew) (by kernel_rfl) rfl ?_
   obtain ⟨u2, hd2, hr9⟩ := bind_some hr8
   obtain ⟨u3, hd3, hr10⟩ := bind_some hr9
   refine p_qE 11 [vI p1.lo] [(1, pB b1 0), (10, .slice o_x0_t x0_t.length c_x0_t), (11, vI (x0_t.length : Int)), (12, vI y2), (36, .slice e1 y1.length q1), (46, vI (w64 (p1.lo + (Int.tmod (w64 ((Int.tmod y3 (w64 ((w64 (p1.hi - p1.lo)) + (1 : Int)))) + (w64 ((w64 (p1.hi - p1.lo)) + (1 : Int))))) (w64 ((w64 (p1.hi - p1.lo)) + (1 : Int)))))))] [.cell ⟨b2, 1, none⟩ (vI p1.lo), .prop ((w64 ((w64 (p1.hi - p1.lo)) + (1 : Int))) ≠ 0), .prop ((w64 ((w64 (p1.hi - p1.lo)) + (1 : Int))) ≠ 0)] [] hf18 (by kernel_rfl) (.cell (hS8.box (i := 0) rfl (j := 1) rfl) (.prop (nz_spec hd2) (.prop (nz_spec hd3) .nil))) .nil fun a16 hf19 => ?_
   refine p_box (i := 11) (d := (some 47)) (cs := [vI (w64 (p1.lo + (Int.tmod (w64 ((Int.tmod y3 (w64 ((w64 (p1.hi - p1.lo)) + (1 : Int)))) + (w64 ((w64 (p1.hi - p1.lo)) + (1 : Int))))) (w64 ((w64 (p1.hi - p1.lo)) + (1 : Int))))))]) (T := 3) (v := fun b3 => .slice (some ⟨b3, 0, none⟩) 1 1) hS8 hf19 (fun b => by kernel_rfl) fun b3 ww6 a17 hS9 hf20 => ⟨fun e => absurd e (by decide), ?_⟩
   have hS10 := hS9.ownBox (T := Ty.int) (E := 3) (n := 1) (xs := [(w64 (p1.lo + (Int.tmod (w64 ((Int.tmod y3 (w64 ((w64 (p1.hi - p1.lo)) + (1 : Int)))) + (w64 ((w64 (p1.hi - p1.lo)) + (1 : Int))))) (w64 ((w64 (p1.hi - p1.lo)) + (1 : Int))))))]) (i := 0) rfl (Rows.cons (c := [vI (w64 (p1.lo + (Int.tmod (w64 ((Int.tmod y3 (w64 ((w64 (p1.hi - p1.lo)) + (1 : Int)))) + (w64 ((w64 (p1.hi - p1.lo)) + (1 : Int))))) (w64 ((w64 (p1.hi - p1.lo)) + (1 : Int))))))]) rfl rfl) rfl (by decide)
   obtain ⟨d1, hd4, hr11⟩ := bind_some hr10
   refine p_append (T := Ty.int) (i := 12) (j := 2) (d := some 48) (o2 := (some ⟨b3, 0, none⟩)) (c2 := 1) (ys := ([(w64 (p1.lo + (Int.tmod (w64 ((Int.tmod y3 (w64 ((w64 (p1.hi - p1.lo)) + (1 : Int)))) + (w64 ((w64 (p1.hi - p1.lo)) + (1 : Int))))) (w64 ((w64 (p1.hi - p1.lo)) + (1 : Int))))))])) el25 hS10 hf20 rfl (by kernel_rfl) (hS10.ownSrc (j := 0) rfl) hd4 fun e2 q2 ww7 a18 hS11 hf21 => ⟨fun e => absurd e (by decide), ?_⟩
   refine p_qP 1 [] [(1, pB b1 0), (3, .slice e2 d1.length q2), (10, .slice o_x0_t x0_t.length c_x0_t), (11, vI (x0_t.length : Int)), (12, vI y2)] [] hf21 (by kernel_rfl) (fun _ => .nil) fun a19 hf22 => ?_
   refine p_done (by kernel_rfl) ?_
   refine n_block ?_
   refine n_then ?_
   refine w_q [] [(1, pB b1 0), (3, .slice e2 d1.length q2), (10, .slice o_x0_t x0_t.length c_x0_t), (11, vI (x0_t.length : Int)), (12, vI (w64 (y2 + (1 : Int))))] [] hf22 (by kernel_rfl) .nil fun a20 hf23 => ?_
   refine n_then ?_
   have hf24 := Fr.keep (ks := [1, 3, 10, 11, 12]) (r := [(1, pB b1 0), (3, .slice e2 d1.length q2), (10, .slice o_x0_t x0_t.length c_x0_t), (11, vI (x0_t.length : Int)), (12, vI (w64 (y2 + (1 : Int))))]) hf23 (by kernel_rfl)
   exact ⟨n1, Nat.lt_succ_self n1, z2, d1, (w64 (y2 + (1 : Int))), e2, q2, (Zone.le_trans k2 k3), hf24, (St.drop 2 hS11), hr11⟩
 ·have hr12 := cond_f hb1 hr1
  refine w_exit (id := 0) (by kernel_rfl) ?_
  refine x_then ?_
  refine x_then ?_
  refine x_block ?_
  refine n_then ?_
  refine w_sq [] [(2, .slice e1 y1.length q1)] [] hf7 (by kernel_rfl) .nil fun a21 hf25 => ?_
  refine w_ret (by kernel_rfl) ?_
  obtain ⟨z3, k4, hS12, hx1⟩ := hS3.share (j := 0) rfl
  refine p_ret (os := []) (v := .slice e1 y1.length q1) (obs := []) hf25 (by kernel_rfl) .nil ?_
  obtain rfl := some_eq hr12
  exact ⟨_, rfl, z3, e1, q1, (Zone.le_trans k2 k4), rfl, (St.drop 2 hS12), hx1⟩
def F3_j2 (y1 : Bool) : Option (Bool) :=
  (some (y1))
def F3_j1 (fuel : Nat) (r1 : Int × Int × Int) (r2 : Int × Int × Int) (r3 : Int × Int × Int) (y2 : Bool) : Option (Bool) :=
  (cond y2 (some (false)) (cond (decide ((w64 ((w64 (r1.1 - r2.1)) - r3.1)) ≥ (0 : Int))) (cond (decide ((w64 ((w64 (r1.1 - r2.1)) - r3.1)) ≤ (1 : Int))) (cond (decide ((w64 ((w64 (r2.2.1 + r3.2.1)) - r1.2.1)) ≥ (0 : Int))) (cond (decide ((w64 ((w64 (r2.2.1 + r3.2.1)) - r1.2.1)) ≤ (1 : Int))) ((F13 fuel ).bind fun r4 => (F3_j2 r4)) (F3_j2 false)) (F3_j2 false)) (F3_j2 false)) (F3_j2 false)))
def F3 (fuel : Nat) (x0_t : List Pt) (x0_c : List Int) (y3 : Int) (y4 : Int) (y5 : Int) : Option (Bool) :=
  ((F12 fuel x0_t).bind fun r5 => (cond (!r5) ((F13 fuel ).bind fun r6 => (some (r6))) ((F14 fuel x0_t y3).bind fun r7 => ((F14 fuel x0_t y4).bind fun r8 => ((F14 fuel x0_t y5).bind fun r9 => ((F16 fuel x0_t).bind fun r10 => ((F17 fuel x0_t x0_c).bind fun r11 => ((F15 fuel r10 r11 r7 (if r9 > (if r8 > r7 then r8 else r7) then r9 else (if r8 > r7 then r8 else r7))).bind fun r12 => ((F18 fuel x0_t r7 (if r9 > (if r8 > r7 then r8 else r7) then r9 else (if r8 > r7 then r8 else r7))).bind fun r1 => ((F18 fuel x0_t r7 (if r8 > r7 then r8 else r7)).bind fun r2 => ((F18 fuel x0_t (if r8 > r7 then r8 else r7) (if r9 > (if r8 > r7 then r8 else r7) then r9 else (if r8 > r7 then r8 else r7))).bind fun r3 => (cond (r1.2.2 != (0 : Int)) (F3_j1 fuel r1 r2 r3 true) (cond (r2.2.2 != (0 : Int)) (F3_j1 fuel r1 r2 r3 true) (cond (r3.2.2 != (0 : Int)) (F3_j1 fuel r1 r2 r3 true) (cond (decide (r1.1 > r12.1)) (F3_j1 fuel r1 r2 r3 true) (cond (decide (r12.1 > r1.2.1)) (F3_j1 fuel r1 r2 r3 true) (cond r12.2 (F3_j1 fuel r1 r2 r3 (r12.1 == r1.2.1)) (F3_j1 fuel r1 r2 r3 false))))))))))))))))))
set_option maxRecDepth 100000 in
theorem f3_ok (fuel : Nat) (x0_t : List Pt) (x0_c : List Int) (y3 : Int) (y4 : Int) (y5 : Int) (r : Bool) (hr : F3 fuel x0_t x0_c y3 y4 y5 = some r) (h : Zone) (L : List Atom) (w : World) (hS : St h L w) (o_x0_t : Option Addr) (c_x0_t : Nat) (hx_x0_t : SliceR PtT h o_x0_t c_x0_t x0_t) (o_x0_c : Option Addr) (c_x0_c : Nat) (hx_x0_c : SliceR Ty.int h o_x0_c c_x0_c x0_c) :
    Calls Try.prog 3 #[.agg #[.slice o_x0_t x0_t.length c_x0_t, .slice o_x0_c x0_c.length c_x0_c], .agg #[vI y3, vI y4, vI y5]] w fun e w' => ∃ v, e = .returned v ∧ (∃ h', Zone.le h h' ∧ v = .bool r ∧ St h' L w') := by
 refine calls_intro (N := 138) Try.func3 (by kernel_rfl) fun a hf => ?_
 refine w_sr (by kernel_rfl) ?_
 refine p_box (i := 0) (d := (some 2)) (cs := [.slice o_x0_t x0_t.length c_x0_t, .slice o_x0_c x0_c.length c_x0_c]) (T := 27) (v := fun b1 => pB b1 0) hS hf (fun b => by kernel_rfl) fun b1 ww1 a1 hS1 hf1 => ⟨fun _ => trivial, ?_⟩
 refine p_box (i := 1) (d := (some 3)) (cs := [vI y3, vI y4, vI y5]) (T := 28) (v := fun b2 => pB b2 0) hS1 hf1 (fun b => by kernel_rfl) fun b2 ww2 a2 hS2 hf2 => ⟨fun _ => trivial, ?_⟩
 refine p_qt [] [(2, pB b1 0), (3, pB b2 0)] [] hf2 (by kernel_rfl) .nil fun a3 hf3 => ?_
 refine w_seq (by kernel_rfl) ?_
 refine w_sr (by kernel_rfl) ?_
 refine p_qn 2 [.slice o_x0_t x0_t.length c_x0_t] [(2, pB b1 0), (3, pB b2 0), (22, .agg #[.slice o_x0_t x0_t.length c_x0_t])] [.cell ⟨b1, 0, none⟩ (.slice o_x0_t x0_t.length c_x0_t)] hf3 (by kernel_rfl) (.cell (hS2.box (i := 1) rfl (j := 0) rfl) .nil) fun a4 hf4 => ?_
 obtain ⟨r5, hd1, hr1⟩ := bind_some hr
 refine p_call (i := 2) (d := some 23) (f := 12) (args := #[.agg #[.slice o_x0_t x0_t.length c_x0_t]]) hf4 (by kernel_rfl) (f12_ok fuel x0_t r5 hd1 h _ _ hS2 o_x0_t c_x0_t hx_x0_t) ?_
 rintro v1 ww3 a5 ⟨z1, k1, rfl, hS3⟩ hf5
 refine ⟨fun _ => trivial, ?_⟩
 refine p_qt [] [(2, pB b1 0), (3, pB b2 0), (24, .bool (!r5))] [] hf5 (by kernel_rfl) .nil fun a6 hf6 => ?_
 refine w_if hf6 (b := (!r5)) (by kernel_rfl) (fun hb1 => ?_) (fun hb1 => ?_)
 ·have hr2 := cond_t hb1 hr1
  refine w_sr (by kernel_rfl) ?_
  obtain ⟨r6, hd2, hr3⟩ := bind_some hr2
  refine p_call (i := 0) (d := some 25) (f := 13) (args := #[]) hf6 (by kernel_rfl) (f13_ok fuel  r6 hd2 z1 _ _ hS3 ) ?_
  rintro v2 ww4 a7 ⟨z2, k2, rfl, hS4⟩ hf7
  refine ⟨fun _ => trivial, ?_⟩
  refine p_qt [] [(4, .bool r6)] [] hf7 (by kernel_rfl) .nil fun a8 hf8 => ?_
  refine w_ret (by kernel_rfl) ?_
  refine r_then ?_
  refine p_ret (os := []) (v := .bool r6) (obs := []) hf8 (by kernel_rfl) .nil ?_
  obtain rfl := some_eq hr3
  exact ⟨_, rfl, z2, (Zone.le_trans k1 k2), rfl, (St.drop 2 hS4)⟩
 ·have hr4 := cond_f hb1 hr1
  refine w_skip (by kernel_rfl) ?_
  refine n_then ?_
  refine w_sr (by kernel_rfl) ?_
  refine p_qn 4 [.slice o_x0_t x0_t.length c_x0_t, vI y3] [(2, pB b1 0), (3, pB b2 0), (27, .agg #[.slice o_x0_t x0_t.length c_x0_t]), (29, vI y3)] [.cell ⟨b1, 0, none⟩ (.slice o_x0_t x0_t.length c_x0_t), .prop ((0 : Int) ≤ 0 ∧ (0 : Int) < (3 : Nat)), .cell ⟨b2, 0, none⟩ (vI y3)] hf6 (by kernel_rfl) (.cell (hS3.box (i := 1) rfl (j := 0) rfl) (.prop (by decide) (.cell (hS3.box (i := 0) rfl (j := 0) rfl) .nil))) fun a9 hf9 => ?_
  obtain ⟨r7, hd3, hr5⟩ := bind_some hr4
  refine p_call (i := 4) (d := some 30) (f := 14) (args := #[.agg #[.slice o_x0_t x0_t.length c_x0_t], vI y3]) hf9 (by kernel_rfl) (f14_ok fuel x0_t y3 r7 hd3 z1 _ _ hS3 o_x0_t c_x0_t (SliceR.mono k1 hx_x0_t)) ?_
  rintro v3 ww5 a10 ⟨rfl, hS5⟩ hf10
  refine ⟨fun _ => trivial, ?_⟩
  refine p_qt [] [(2, pB b1 0), (3, pB b2 0), (5, vI r7)] [] hf10 (by kernel_rfl) .nil fun a11 hf11 => ?_
  refine w_sr (by kernel_rfl) ?_
  refine p_qn 5 [.slice o_x0_t x0_t.length c_x0_t, vI y4] [(2, pB b1 0), (3, pB b2 0), (5, vI r7), (31, vI r7), (33, .agg #[.slice o_x0_t x0_t.length c_x0_t]), (35, vI y4)] [.cell ⟨b1, 0, none⟩ (.slice o_x0_t x0_t.length c_x0_t), .prop ((0 : Int) ≤ 1 ∧ (1 : Int) < (3 : Nat)), .cell ⟨b2, 1, none⟩ (vI y4)] hf11 (by kernel_rfl) (.cell (hS5.box (i := 1) rfl (j := 0) rfl) (.prop (by decide) (.cell (hS5.box (i := 0) rfl (j := 1) rfl) .nil))) fun a12 hf12 => ?_
  obtain ⟨r8, hd4, hr6⟩ := bind_some hr5
  refine p_call (i := 5) (d := some 36) (f := 14) (args := #[.agg #[.slice o_x0_t x0_t.length c_x0_t], vI y4]) hf12 (by kernel_rfl) (f14_ok fuel x0_t y4 r8 hd4 z1 _ _ hS5 o_x0_t c_x0_t (SliceR.mono k1 hx_x0_t)) ?_
  rintro v4 ww6 a13 ⟨rfl, hS6⟩ hf13
  refine ⟨fun _ => trivial, ?_⟩
  refine p_qt [] [(2, pB b1 0), (3, pB b2 0), (5, vI r7), (6, vI (if r8 > r7 then r8 else r7))] [] hf13 (by kernel_rfl) .nil fun a14 hf14 => ?_
  refine w_sr (by kernel_rfl) ?_
  refine p_qn 5 [.slice o_x0_t x0_t.length c_x0_t, vI y5] [(2, pB b1 0), (5, vI r7), (6, vI (if r8 > r7 then r8 else r7)), (38, vI (if r8 > r7 then r8 else r7)), (40, .agg #[.slice o_x0_t x0_t.length c_x0_t]), (42, vI y5)] [.cell ⟨b1, 0, none⟩ (.slice o_x0_t x0_t.length c_x0_t), .prop ((0 : Int) ≤ 2 ∧ (2 : Int) < (3 : Nat)), .cell ⟨b2, 2, none⟩ (vI y5)] hf14 (by kernel_rfl) (.cell (hS6.box (i := 1) rfl (j := 0) rfl) (.prop (by decide) (.cell (hS6.box (i := 0) rfl (j := 2) rfl) .nil))) fun a15 hf15 => ?_
  obtain ⟨r9, hd5, hr7⟩ := bind_some hr6
  refine p_call (i := 5) (d := some 43) (f := 14) (args := #[.agg #[.slice o_x0_t x0_t.length c_x0_t], vI y5]) hf15 (by kernel_rfl) (f14_ok fuel x0_t y5 r9 hd5 z1 _ _ hS6 o_x0_t c_x0_t (SliceR.mono k1 hx_x0_t)) ?_
  rintro v5 ww7 a16 ⟨rfl, hS7⟩ hf16
  refine ⟨fun _ => trivial, ?_⟩
  refine p_qt [] [(2, pB b1 0), (5, vI r7), (6, vI (if r8 > r7 then r8 else r7)), (7, vI (if r9 > (if r8 > r7 then r8 else r7) then r9 else (if r8 > r7 then r8 else r7)))] [] hf16 (by kernel_rfl) .nil fun a17 hf17 => ?_
  refine w_seq (by kernel_rfl) ?_
  have hS8 := hS7.drew
  have s1 : Sub z1 (box b2 [vI y3, vI y4, vI y5] 28 :: box b1 [.slice o_x0_t x0_t.length c_x0_t, .slice o_x0_c x0_c.length c_x0_c] 27 :: L) _ := Sub.of (Zone.le_refl _) hS8
  refine w_regD (by kernel_rfl) [(0, true), (1, true), (3, true), (5, true), (6, true), (2, false), (4, false), (7, false), (8, true), (9, true), (10, true), (11, true), (12, true)] [4, 7] (Sub z1 (box b2 [vI y3, vI y4, vI y5] 28 :: box b1 [.slice o_x0_t x0_t.length c_x0_t, .slice o_x0_c x0_c.length c_x0_c] 27 :: L)) (by kernel_rfl) s1 ?_
  refine p_qS 5 [.slice o_x0_t x0_t.length c_x0_t, .slice o_x0_t x0_t.length c_x0_t, .slice o_x0_c x0_c.length c_x0_c] [(2, pB b1 0), (5, vI r7), (6, vI (if r8 > r7 then r8 else r7)), (7, vI (if r9 > (if r8 > r7 then r8 else r7) then r9 else (if r8 > r7 then r8 else r7))), (47, .agg #[.slice o_x0_t x0_t.length c_x0_t]), (49, .agg #[.slice o_x0_t x0_t.length c_x0_t, .slice o_x0_c x0_c.length c_x0_c]), (51, vI r7), (52, vI (if r9 > (if r8 > r7 then r8 else r7) then r9 else (if r8 > r7 then r8 else r7)))] [.cell ⟨b1, 0, none⟩ (.slice o_x0_t x0_t.length c_x0_t), .cell ⟨b1, 0, none⟩ (.slice o_x0_t x0_t.length c_x0_t), .cell ⟨b1, 1, none⟩ (.slice o_x0_c x0_c.length c_x0_c)] [] s1 hf17 (by kernel_rfl) (fun _ s => (.cell (s.box (i := 1) rfl (j := 0) rfl) (.cell (s.box (i := 1) rfl (j := 0) rfl) (.cell (s.box (i := 1) rfl (j := 1) rfl) .nil)))) .nil fun a18 hf18 => ?_
  obtain ⟨r10, hd6, hr8⟩ := bind_some hr7
  refine p_call (i := 2) (d := some 48) (f := 16) (args := #[.agg #[.slice o_x0_t x0_t.length c_x0_t]]) hf18 (by kernel_rfl) (f16_ok fuel x0_t r10 hd6 z1 _ _ hS8 o_x0_t c_x0_t (SliceR.mono k1 hx_x0_t)) ?_
  rintro v6 ww8 a19 ⟨z3, e1, q1, k3, rfl, hS9, hx1⟩ hf19
  refine ⟨fun _ => Sub.of k3 hS9, ?_⟩
  have s2 : Sub z1 (box b2 [vI y3, vI y4, vI y5] 28 :: box b1 [.slice o_x0_t x0_t.length c_x0_t, .slice o_x0_c x0_c.length c_x0_c] 27 :: L) _ := Sub.of k3 hS9
  obtain ⟨r11, hd7, hr9⟩ := bind_some hr8
  refine p_call (i := 4) (d := some 50) (f := 17) (args := #[.agg #[.slice o_x0_t x0_t.length c_x0_t, .slice o_x0_c x0_c.length c_x0_c]]) hf19 (by kernel_rfl) (f17_ok fuel x0_t x0_c r11 hd7 z3 _ _ hS9 o_x0_t c_x0_t (SliceR.mono (Zone.le_trans k1 k3) hx_x0_t) o_x0_c c_x0_c (SliceR.mono (Zone.le_trans k1 k3) hx_x0_c)) ?_
  rintro v7 ww9 a20 ⟨z4, e2, q2, k4, rfl, hS10, hx2⟩ hf20
  refine ⟨fun e => absurd e (by decide), ?_⟩
  obtain ⟨r12, hd8, hr10⟩ := bind_some hr9
  refine p_call (i := 7) (d := some 53) (f := 15) (args := #[.slice e1 r10.length q1, .slice e2 r11.length q2, vI r7, vI (if r9 > (if r8 > r7 then r8 else r7) then r9 else (if r8 > r7 then r8 else r7))]) hf20 (by kernel_rfl) (f15_ok fuel r10 r11 r7 (if r9 > (if r8 > r7 then r8 else r7) then r9 else (if r8 > r7 then r8 else r7)) r12 hd8 z4 _ _ hS10 e1 q1 (SliceR.mono k4 hx1) e2 q2 hx2) ?_
  rintro v8 ww10 a21 ⟨z5, k5, rfl, hS11⟩ hf21
  refine ⟨fun e => absurd e (by decide), ?_⟩
  refine p_qP 5 [] [(2, pB b1 0), (5, vI r7), (6, vI (if r8 > r7 then r8 else r7)), (7, vI (if r9 > (if r8 > r7 then r8 else r7) then r9 else (if r8 > r7 then r8 else r7))), (8, vI r12.1), (9, .bool r12.2)] [] hf21 (by kernel_rfl) (fun _ => .nil) fun a22 hf22 => ?_
  refine p_dt (by kernel_rfl) ?_
  refine w_sr (by kernel_rfl) ?_
  refine p_qn 4 [.slice o_x0_t x0_t.length c_x0_t] [(2, pB b1 0), (5, vI r7), (6, vI (if r8 > r7 then r8 else r7)), (7, vI (if r9 > (if r8 > r7 then r8 else r7) then r9 else (if r8 > r7 then r8 else r7))), (8, vI r12.1), (9, .bool r12.2), (58, .agg #[.slice o_x0_t x0_t.length c_x0_t]), (59, vI r7), (60, vI (if r9 > (if r8 > r7 then r8 else r7) then r9 else (if r8 > r7 then r8 else r7)))] [.cell ⟨b1, 0, none⟩ (.slice o_x0_t x0_t.length c_x0_t)] hf22 (by kernel_rfl) (.cell (hS11.box (i := 1) rfl (j := 0) rfl) .nil) fun a23 hf23 => ?_
  obtain ⟨r1, hd9, hr11⟩ := bind_some hr10
  refine p_call (i := 4) (d := some 61) (f := 18) (args := #[.agg #[.slice o_x0_t x0_t.length c_x0_t], vI r7, vI (if r9 > (if r8 > r7 then r8 else r7) then r9 else (if r8 > r7 then r8 else r7))]) hf23 (by kernel_rfl) (f18_ok fuel x0_t r7 (if r9 > (if r8 > r7 then r8 else r7) then r9 else (if r8 > r7 then r8 else r7)) r1 hd9 z5 _ _ hS11 o_x0_t c_x0_t (SliceR.mono (Zone.le_trans (Zone.le_trans (Zone.le_trans k1 k3) k4) k5) hx_x0_t)) ?_
  rintro v9 ww11 a24 ⟨z6, k6, rfl, hS12⟩ hf24
  refine ⟨fun _ => trivial, ?_⟩
  refine p_qt [] [(2, pB b1 0), (5, vI r7), (6, vI (if r8 > r7 then r8 else r7)), (7, vI (if r9 > (if r8 > r7 then r8 else r7) then r9 else (if r8 > r7 then r8 else r7))), (8, vI r12.1), (9, .bool r12.2), (10, vI r1.1), (11, vI r1.2.1), (12, vI r1.2.2)] [] hf24 (by kernel_rfl) .nil fun a25 hf25 => ?_
  refine w_sr (by kernel_rfl) ?_
  refine p_qn 4 [.slice o_x0_t x0_t.length c_x0_t] [(2, pB b1 0), (6, vI (if r8 > r7 then r8 else r7)), (7, vI (if r9 > (if r8 > r7 then r8 else r7) then r9 else (if r8 > r7 then r8 else r7))), (8, vI r12.1), (9, .bool r12.2), (10, vI r1.1), (11, vI r1.2.1), (12, vI r1.2.2), (67, .agg #[.slice o_x0_t x0_t.length c_x0_t]), (68, vI r7), (69, vI (if r8 > r7 then r8 else r7))] [.cell ⟨b1, 0, none⟩ (.slice o_x0_t x0_t.length c_x0_t)] hf25 (by kernel_rfl) (.cell (hS12.box (i := 1) rfl (j := 0) rfl) .nil) fun a26 hf26 => ?_
  obtain ⟨r2, hd10, hr12⟩ := bind_some hr11
  refine p_call (i := 4) (d := some 70) (f := 18) (args := #[.agg #[.slice o_x0_t x0_t.length c_x0_t], vI r7, vI (if r8 > r7 then r8 else r7)]) hf26 (by kernel_rfl) (f18_ok fuel x0_t r7 (if r8 > r7 then r8 else r7) r2 hd10 z6 _ _ hS12 o_x0_t c_x0_t (SliceR.mono (Zone.le_trans (Zone.le_trans (Zone.le_trans (Zone.le_trans k1 k3) k4) k5) k6) hx_x0_t)) ?_
  rintro v10 ww12 a27 ⟨z7, k7, rfl, hS13⟩ hf27
  refine ⟨fun _ => trivial, ?_⟩
  refine p_qt [] [(2, pB b1 0), (6, vI (if r8 > r7 then r8 else r7)), (7, vI (if r9 > (if r8 > r7 then r8 else r7) then r9 else (if r8 > r7 then r8 else r7))), (8, vI r12.1), (9, .bool r12.2), (10, vI r1.1), (11, vI r1.2.1), (12, vI r1.2.2), (13, vI r2.1), (14, vI r2.2.1), (15, vI r2.2.2)] [] hf27 (by kernel_rfl) .nil fun a28 hf28 => ?_
  refine w_sr (by kernel_rfl) ?_
  refine p_qn 4 [.slice o_x0_t x0_t.length c_x0_t] [(8, vI r12.1), (9, .bool r12.2), (10, vI r1.1), (11, vI r1.2.1), (12, vI r1.2.2), (13, vI r2.1), (14, vI r2.2.1), (15, vI r2.2.2), (76, .agg #[.slice o_x0_t x0_t.length c_x0_t]), (77, vI (if r8 > r7 then r8 else r7)), (78, vI (if r9 > (if r8 > r7 then r8 else r7) then r9 else (if r8 > r7 then r8 else r7)))] [.cell ⟨b1, 0, none⟩ (.slice o_x0_t x0_t.length c_x0_t)] hf28 (by kernel_rfl) (.cell (hS13.box (i := 1) rfl (j := 0) rfl) .nil) fun a29 hf29 => ?_
  obtain ⟨r3, hd11, hr13⟩ := bind_some hr12
  refine p_call (i := 4) (d := some 79) (f := 18) (args := #[.agg #[.slice o_x0_t x0_t.length c_x0_t], vI (if r8 > r7 then r8 else r7), vI (if r9 > (if r8 > r7 then r8 else r7) then r9 else (if r8 > r7 then r8 else r7))]) hf29 (by kernel_rfl) (f18_ok fuel x0_t (if r8 > r7 then r8 else r7) (if r9 > (if r8 > r7 then r8 else r7) then r9 else (if r8 > r7 then r8 else r7)) r3 hd11 z7 _ _ hS13 o_x0_t c_x0_t (SliceR.mono (Zone.le_trans (Zone.le_trans (Zone.le_trans (Zone.le_trans (Zone.le_trans k1 k3) k4) k5) k6) k7) hx_x0_t)) ?_
  rintro v11 ww13 a30 ⟨z8, k8, rfl, hS14⟩ hf30
  refine ⟨fun _ => trivial, ?_⟩
  refine p_qt [] [(8, vI r12.1), (9, .bool r12.2), (10, vI r1.1), (11, vI r1.2.1), (12, vI r1.2.2), (13, vI r2.1), (14, vI r2.2.1), (15, vI r2.2.2), (16, vI r3.1), (17, vI r3.2.1), (18, vI r3.2.2)] [] hf30 (by kernel_rfl) .nil fun a31 hf31 => ?_
  refine w_seq (by kernel_rfl) ?_
  refine w_mid (by kernel_rfl) (fun a w => ∃ z9 : Zone, ∃ y2 : Bool, Zone.le z8 z9 ∧ Fr a 138 [(10, vI r1.1), (11, vI r1.2.1), (13, vI r2.1), (14, vI r2.2.1), (16, vI r3.1), (17, vI r3.2.1), (110, .bool y2)] ∧ St z9 (box b2 [vI y3, vI y4, vI y5] 28 :: box b1 [.slice o_x0_t x0_t.length c_x0_t, .slice o_x0_c x0_c.length c_x0_c] 27 :: L) w ∧ (F3_j1 fuel r1 r2 r3 y2) = some r) ?_ ?_
  ·skip
   refine w_reg (by kernel_rfl) ?_
   refine p_qn 3 [] [(8, vI r12.1), (9, .bool r12.2), (10, vI r1.1), (11, vI r1.2.1), (13, vI r2.1), (14, vI r2.2.1), (15, vI r2.2.2), (16, vI r3.1), (17, vI r3.2.1), (18, vI r3.2.2), (85, .bool (r1.2.2 != (0 : Int)))] [] hf31 (by kernel_rfl) .nil fun a32 hf32 => ?_
   rcases Bool.eq_false_or_eq_true (r1.2.2 != (0 : Int)) with hb2 | hb2
   ·have hr14 := cond_t hb2 hr13
    have hf33 := Fr.conv hf32 (congrArg (fun z => ([(8, vI r12.1), (9, .bool r12.2), (10, vI r1.1), (11, vI r1.2.1), (13, vI r2.1), (14, vI r2.2.1), (15, vI r2.2.2), (16, vI r3.1), (17, vI r3.2.1), (18, vI r3.2.2), (85, .bool z)] : FL)) hb2)
    refine p_qt [] [(10, vI r1.1), (11, vI r1.2.1), (13, vI r2.1), (14, vI r2.2.1), (16, vI r3.1), (17, vI r3.2.1), (110, .bool true)] [] hf33 (by kernel_rfl) .nil fun a33 hf34 => ?_
    have hf35 := Fr.keep (ks := [10, 11, 13, 14, 16, 17, 110]) (r := [(10, vI r1.1), (11, vI r1.2.1), (13, vI r2.1), (14, vI r2.2.1), (16, vI r3.1), (17, vI r3.2.1), (110, .bool true)]) hf34 (by kernel_rfl)
    exact ⟨z8, true, (Zone.le_refl _), hf35, hS14, hr14⟩
   ·have hr15 := cond_f hb2 hr13
    have hf36 := Fr.conv hf32 (congrArg (fun z => ([(8, vI r12.1), (9, .bool r12.2), (10, vI r1.1), (11, vI r1.2.1), (13, vI r2.1), (14, vI r2.2.1), (15, vI r2.2.2), (16, vI r3.1), (17, vI r3.2.1), (18, vI r3.2.2), (85, .bool z)] : FL)) hb2)
    refine p_qn 4 [] [(8, vI r12.1), (9, .bool r12.2), (10, vI r1.1), (11, vI r1.2.1), (13, vI r2.1), (14, vI r2.2.1), (16, vI r3.1), (17, vI r3.2.1), (18, vI r3.2.2), (89, .bool (r2.2.2 != (0 : Int)))] [] hf36 (by kernel_rfl) .nil fun a34 hf37 => ?_
    rcases Bool.eq_false_or_eq_true (r2.2.2 != (0 : Int)) with hb3 | hb3
    ·have hr16 := cond_t hb3 hr15
     have hf38 := Fr.conv hf37 (congrArg (fun z => ([(8, vI r12.1), (9, .bool r12.2), (10, vI r1.1), (11, vI r1.2.1), (13, vI r2.1), (14, vI r2.2.1), (16, vI r3.1), (17, vI r3.2.1), (18, vI r3.2.2), (89, .bool z)] : FL)) hb3)
     refine p_qt [] [(10, vI r1.1), (11, vI r1.2.1), (13, vI r2.1), (14, vI r2.2.1), (16, vI r3.1), (17, vI r3.2.1), (110, .bool true)] [] hf38 (by kernel_rfl) .nil fun a35 hf39 => ?_
     have hf40 := Fr.keep (ks := [10, 11, 13, 14, 16, 17, 110]) (r := [(10, vI r1.1), (11, vI r1.2.1), (13, vI r2.1), (14, vI r2.2.1), (16, vI r3.1), (17, vI r3.2.1), (110, .bool true)]) hf39 (by kernel_rfl)
     exact ⟨z8, true, (Zone.le_refl _), hf40, hS14, hr16⟩
    ·have hr17 := cond_f hb3 hr15
     have hf41 := Fr.conv hf37 (congrArg (fun z => ([(8, vI r12.1), (9, .bool r12.2), (10, vI r1.1), (11, vI r1.2.1), (13, vI r2.1), (14, vI r2.2.1), (16, vI r3.1), (17, vI r3.2.1), (18, vI r3.2.2), (89, .bool z)] : FL)) hb3)
     refine p_qn 4 [] [(8, vI r12.1), (9, .bool r12.2), (10, vI r1.1), (11, vI r1.2.1), (13, vI r2.1), (14, vI r2.2.1), (16, vI r3.1), (17, vI r3.2.1), (93, .bool (r3.2.2 != (0 : Int)))] [] hf41 (by kernel_rfl) .nil fun a36 hf42 => ?_
     rcases Bool.eq_false_or_eq_true (r3.2.2 != (0 : Int)) with hb4 | hb4
     ·have hr18 := cond_t hb4 hr17
      have hf43 := Fr.conv hf42 (congrArg (fun z => ([(8, vI r12.1), (9, .bool r12.2), (10, vI r1.1), (11, vI r1.2.1), (13, vI r2.1), (14, vI r2.2.1), (16, vI r3.1), (17, vI r3.2.1), (93, .bool z)] : FL)) hb4)
      refine p_qt [] [(10, vI r1.1), (11, vI r1.2.1), (13, vI r2.1), (14, vI r2.2.1), (16, vI r3.1), (17, vI r3.2.1), (110, .bool true)] [] hf43 (by kernel_rfl) .nil fun a37 hf44 => ?_
      have hf45 := Fr.keep (ks := [10, 11, 13, 14, 16, 17, 110]) (r := [(10, vI r1.1), (11, vI r1.2.1), (13, vI r2.1), (14, vI r2.2.1), (16, vI r3.1), (17, vI r3.2.1), (110, .bool true)]) hf44 (by kernel_rfl)
      exact ⟨z8, true, (Zone.le_refl _), hf45, hS14, hr18⟩
     ·have hr19 := cond_f hb4 hr17
      have hf46 := Fr.conv hf42 (congrArg (fun z => ([(8, vI r12.1), (9, .bool r12.2), (10, vI r1.1), (11, vI r1.2.1), (13, vI r2.1), (14, vI r2.2.1), (16, vI r3.1), (17, vI r3.2.1), (93, .bool z)] : FL)) hb4)
      refine p_qn 5 [] [(8, vI r12.1), (9, .bool r12.2), (10, vI r1.1), (11, vI r1.2.1), (13, vI r2.1), (14, vI r2.2.1), (16, vI r3.1), (17, vI r3.2.1), (98, .bool (decide (r1.1 > r12.1)))] [] hf46 (by kernel_rfl) .nil fun a38 hf47 => ?_
      rcases Bool.eq_false_or_eq_true (decide (r1.1 > r12.1)) with hb5 | hb5
      ·have hr20 := cond_t hb5 hr19
       have hf48 := Fr.conv hf47 (congrArg (fun z => ([(8, vI r12.1), (9, .bool r12.2), (10, vI r1.1), (11, vI r1.2.1), (13, vI r2.1), (14, vI r2.2.1), (16, vI r3.1), (17, vI r3.2.1), (98, .bool z)] : FL)) hb5)
       refine p_qt [] [(10, vI r1.1), (11, vI r1.2.1), (13, vI r2.1), (14, vI r2.2.1), (16, vI r3.1), (17, vI r3.2.1), (110, .bool true)] [] hf48 (by kernel_rfl) .nil fun a39 hf49 => ?_
       have hf50 := Fr.keep (ks := [10, 11, 13, 14, 16, 17, 110]) (r := [(10, vI r1.1), (11, vI r1.2.1), (13, vI r2.1), (14, vI r2.2.1), (16, vI r3.1), (17, vI r3.2.1), (110, .bool true)]) hf49 (by kernel_rfl)
       exact ⟨z8, true, (Zone.le_refl _), hf50, hS14, hr20⟩
      ·have hr21 := cond_f hb5 hr19
       have hf51 := Fr.conv hf47 (congrArg (fun z => ([(8, vI r12.1), (9, .bool r12.2), (10, vI r1.1), (11, vI r1.2.1), (13, vI r2.1), (14, vI r2.2.1), (16, vI r3.1), (17, vI r3.2.1), (98, .bool z)] : FL)) hb5)
       refine p_qn 5 [] [(8, vI r12.1), (9, .bool r12.2), (10, vI r1.1), (11, vI r1.2.1), (13, vI r2.1), (14, vI r2.2.1), (16, vI r3.1), (17, vI r3.2.1), (103, .bool (decide (r12.1 > r1.2.1)))] [] hf51 (by kernel_rfl) .nil fun a40 hf52 => ?_
       rcases Bool.eq_false_or_eq_true (decide (r12.1 > r1.2.1)) with hb6 | hb6
       ·have hr22 := cond_t hb6 hr21
        have hf53 := Fr.conv hf52 (congrArg (fun z => ([(8, vI r12.1), (9, .bool r12.2), (10, vI r1.1), (11, vI r1.2.1), (13, vI r2.1), (14, vI r2.2.1), (16, vI r3.1), (17, vI r3.2.1), (103, .bool z)] : FL)) hb6)
        refine p_qt [] [(10, vI r1.1), (11, vI r1.2.1), (13, vI r2.1), (14, vI r2.2.1), (16, vI r3.1), (17, vI r3.2.1), (110, .bool true)] [] hf53 (by kernel_rfl) .nil fun a41 hf54 => ?_
        have hf55 := Fr.keep (ks := [10, 11, 13, 14, 16, 17, 110]) (r := [(10, vI r1.1), (11, vI r1.2.1), (13, vI r2.1), (14, vI r2.2.1), (16, vI r3.1), (17, vI r3.2.1), (110, .bool true)]) hf54 (by kernel_rfl)
        exact ⟨z8, true, (Zone.le_refl _), hf55, hS14, hr22⟩
       ·have hr23 := cond_f hb6 hr21
        have hf56 := Fr.conv hf52 (congrArg (fun z => ([(8, vI r12.1), (9, .bool r12.2), (10, vI r1.1), (11, vI r1.2.1), (13, vI r2.1), (14, vI r2.2.1), (16, vI r3.1), (17, vI r3.2.1), (103, .bool z)] : FL)) hb6)
        refine p_qn 2 [] [(8, vI r12.1), (10, vI r1.1), (11, vI r1.2.1), (13, vI r2.1), (14, vI r2.2.1), (16, vI r3.1), (17, vI r3.2.1), (103, .bool false), (105, .bool r12.2)] [] hf56 (by kernel_rfl) .nil fun a42 hf57 => ?_
        rcases Bool.eq_false_or_eq_true r12.2 with hb7 | hb7
        ·have hr24 := cond_t hb7 hr23
         have hf58 := Fr.conv hf57 (congrArg (fun z => ([(8, vI r12.1), (10, vI r1.1), (11, vI r1.2.1), (13, vI r2.1), (14, vI r2.2.1), (16, vI r3.1), (17, vI r3.2.1), (103, .bool false), (105, .bool z)] : FL)) hb7)
         refine p_qt [] [(10, vI r1.1), (11, vI r1.2.1), (13, vI r2.1), (14, vI r2.2.1), (16, vI r3.1), (17, vI r3.2.1), (110, .bool (r12.1 == r1.2.1))] [] hf58 (by kernel_rfl) .nil fun a43 hf59 => ?_
         have hf60 := Fr.keep (ks := [10, 11, 13, 14, 16, 17, 110]) (r := [(10, vI r1.1), (11, vI r1.2.1), (13, vI r2.1), (14, vI r2.2.1), (16, vI r3.1), (17, vI r3.2.1), (110, .bool (r12.1 == r1.2.1))]) hf59 (by kernel_rfl)
         exact ⟨z8, (r12.1 == r1.2.1), (Zone.le_refl _), hf60, hS14, hr24⟩
        ·have hr25 := cond_f hb7 hr23
         have hf61 := Fr.conv hf57 (congrArg (fun z => ([(8, vI r12.1), (10, vI r1.1), (11, vI r1.2.1), (13, vI r2.1), (14, vI r2.2.1), (16, vI r3.1), (17, vI r3.2.1), (103, .bool false), (105, .bool z)] : FL)) hb7)
         refine p_qt [] [(10, vI r1.1), (11, vI r1.2.1), (13, vI r2.1), (14, vI r2.2.1), (16, vI r3.1), (17, vI r3.2.1), (110, .bool false)] [] hf61 (by kernel_rfl) .nil fun a44 hf62 => ?_
         have hf63 := Fr.keep (ks := [10, 11, 13, 14, 16, 17, 110]) (r := [(10, vI r1.1), (11, vI r1.2.1), (13, vI r2.1), (14, vI r2.2.1), (16, vI r3.1), (17, vI r3.2.1), (110, .bool false)]) hf62 (by kernel_rfl)
         exact ⟨z8, false, (Zone.le_refl _), hf63, hS14, hr25⟩
  ·rintro a45 ww14 ⟨z9, y2, k9, hf64, hS15, hr26⟩
   refine w_if hf64 (b := y2) (by kernel_rfl) (fun hb8 => ?_) (fun hb8 => ?_)
   ·have hr27 := cond_t hb8 hr26
    refine w_sq [] [(4, .bool false)] [] hf64 (by kernel_rfl) .nil fun a46 hf65 => ?_
    refine w_ret (by kernel_rfl) ?_
    refine r_then ?_
    refine p_ret (os := []) (v := .bool false) (obs := []) hf65 (by kernel_rfl) .nil ?_
    obtain rfl := some_eq hr27
    exact ⟨_, rfl, z9, (Zone.le_trans (Zone.le_trans (Zone.le_trans (Zone.le_trans (Zone.le_trans (Zone.le_trans (Zone.le_trans k1 k3) k4) k5) k6) k7) k8) k9), rfl, (St.drop 2 hS15)⟩
   ·have hr28 := cond_f hb8 hr26
    refine w_skip (by kernel_rfl) ?_
    refine n_then ?_
    refine w_sq [] [(11, vI r1.2.1), (14, vI r2.2.1), (17, vI r3.2.1), (19, vI (w64 ((w64 (r1.1 - r2.1)) - r3.1)))] [] hf64 (by kernel_rfl) .nil fun a47 hf66 => ?_
    refine w_sq [] [(19, vI (w64 ((w64 (r1.1 - r2.1)) - r3.1))), (20, vI (w64 ((w64 (r2.2.1 + r3.2.1)) - r1.2.1)))] [] hf66 (by kernel_rfl) .nil fun a48 hf67 => ?_
    refine w_mid (by kernel_rfl) (fun a w => ∃ z10 : Zone, ∃ y1 : Bool, Zone.le z9 z10 ∧ Fr a 138 [(4, .bool y1)] ∧ St z10 (box b2 [vI y3, vI y4, vI y5] 28 :: box b1 [.slice o_x0_t x0_t.length c_x0_t, .slice o_x0_c x0_c.length c_x0_c] 27 :: L) w ∧ (F3_j2 y1) = some r) ?_ ?_
    ·skip
     refine w_reg (by kernel_rfl) ?_
     refine p_qn 3 [] [(19, vI (w64 ((w64 (r1.1 - r2.1)) - r3.1))), (20, vI (w64 ((w64 (r2.2.1 + r3.2.1)) - r1.2.1))), (123, .bool (decide ((w64 ((w64 (r1.1 - r2.1)) - r3.1)) ≥ (0 : Int))))] [] hf67 (by kernel_rfl) .nil fun a49 hf68 => ?_
     rcases Bool.eq_false_or_eq_true (decide ((w64 ((w64 (r1.1 - r2.1)) - r3.1)) ≥ (0 : Int))) with hb9 | hb9
     ·have hr29 := cond_t hb9 hr28
      have hf69 := Fr.conv hf68 (congrArg (fun z => ([(19, vI (w64 ((w64 (r1.1 - r2.1)) - r3.1))), (20, vI (w64 ((w64 (r2.2.1 + r3.2.1)) - r1.2.1))), (123, .bool z)] : FL)) hb9)
      refine p_qn 4 [] [(20, vI (w64 ((w64 (r2.2.1 + r3.2.1)) - r1.2.1))), (127, .bool (decide ((w64 ((w64 (r1.1 - r2.1)) - r3.1)) ≤ (1 : Int))))] [] hf69 (by kernel_rfl) .nil fun a50 hf70 => ?_
      rcases Bool.eq_false_or_eq_true (decide ((w64 ((w64 (r1.1 - r2.1)) - r3.1)) ≤ (1 : Int))) with hb10 | hb10
      ·have hr30 := cond_t hb10 hr29
       have hf71 := Fr.conv hf70 (congrArg (fun z => ([(20, vI (w64 ((w64 (r2.2.1 + r3.2.1)) - r1.2.1))), (127, .bool z)] : FL)) hb10)
       refine p_qn 4 [] [(20, vI (w64 ((w64 (r2.2.1 + r3.2.1)) - r1.2.1))), (131, .bool (decide ((w64 ((w64 (r2.2.1 + r3.2.1)) - r1.2.1)) ≥ (0 : Int))))] [] hf71 (by kernel_rfl) .nil fun a51 hf72 => ?_
       rcases Bool.eq_false_or_eq_true (decide ((w64 ((w64 (r2.2.1 + r3.2.1)) - r1.2.1)) ≥ (0 : Int))) with hb11 | hb11
       ·have hr31 := cond_t hb11 hr30
        have hf73 := Fr.conv hf72 (congrArg (fun z => ([(20, vI (w64 ((w64 (r2.2.1 + r3.2.1)) - r1.2.1))), (131, .bool z)] : FL)) hb11)
        refine p_qn 4 [] [(135, .bool (decide ((w64 ((w64 (r2.2.1 + r3.2.1)) - r1.2.1)) ≤ (1 : Int))))] [] hf73 (by kernel_rfl) .nil fun a52 hf74 => ?_
        rcases Bool.eq_false_or_eq_true (decide ((w64 ((w64 (r2.2.1 + r3.2.1)) - r1.2.1)) ≤ (1 : Int))) with hb12 | hb12
        ·have hr32 := cond_t hb12 hr31
         have hf75 := Fr.conv hf74 (congrArg (fun z => ([(135, .bool z)] : FL)) hb12)
         obtain ⟨r4, hd12, hr33⟩ := bind_some hr32
         refine p_call (i := 15) (d := some 136) (f := 13) (args := #[]) hf75 (by kernel_rfl) (f13_ok fuel  r4 hd12 z9 _ _ hS15 ) ?_
         rintro v12 ww15 a53 ⟨z11, k10, rfl, hS16⟩ hf76
         refine ⟨fun _ => trivial, ?_⟩
         refine p_qt [] [(4, .bool r4)] [] hf76 (by kernel_rfl) .nil fun a54 hf77 => ?_
         have hf78 := Fr.keep (ks := [4]) (r := [(4, .bool r4)]) hf77 (by kernel_rfl)
         exact ⟨z11, r4, k10, hf78, hS16, hr33⟩
        ·have hr34 := cond_f hb12 hr31
         have hf79 := Fr.conv hf74 (congrArg (fun z => ([(135, .bool z)] : FL)) hb12)
         refine p_qt [] [(4, .bool false)] [] hf79 (by kernel_rfl) .nil fun a55 hf80 => ?_
         have hf81 := Fr.keep (ks := [4]) (r := [(4, .bool false)]) hf80 (by kernel_rfl)
         exact ⟨z9, false, (Zone.le_refl _), hf81, hS15, hr34⟩
       ·have hr35 := cond_f hb11 hr30
        have hf82 := Fr.conv hf72 (congrArg (fun z => ([(20, vI (w64 ((w64 (r2.2.1 + r3.2.1)) - r1.2.1))), (131, .bool z)] : FL)) hb11)
        refine p_qt [] [(4, .bool false)] [] hf82 (by kernel_rfl) .nil fun a56 hf83 => ?_
        have hf84 := Fr.keep (ks := [4]) (r := [(4, .bool false)]) hf83 (by kernel_rfl)
        exact ⟨z9, false, (Zone.le_refl _), hf84, hS15, hr35⟩
      ·have hr36 := cond_f hb10 hr29
       have hf85 := Fr.conv hf70 (congrArg (fun z => ([(20, vI (w64 ((w64 (r2.2.1 + r3.2.1)) - r1.2.1))), (127, .bool z)] : FL)) hb10)
       refine p_qt [] [(4, .bool false)] [] hf85 (by kernel_rfl) .nil fun a57 hf86 => ?_
       have hf87 := Fr.keep (ks := [4]) (r := [(4, .bool false)]) hf86 (by kernel_rfl)
       exact ⟨z9, false, (Zone.le_refl _), hf87, hS15, hr36⟩
     ·have hr37 := cond_f hb9 hr28
      have hf88 := Fr.conv hf68 (congrArg (fun z => ([(19, vI (w64 ((w64 (r1.1 - r2.1)) - r3.1))), (20, vI (w64 ((w64 (r2.2.1 + r3.2.1)) - r1.2.1))), (123, .bool z)] : FL)) hb9)
      refine p_qt [] [(4, .bool false)] [] hf88 (by kernel_rfl) .nil fun a58 hf89 => ?_
      have hf90 := Fr.keep (ks := [4]) (r := [(4, .bool false)]) hf89 (by kernel_rfl)
      exact ⟨z9, false, (Zone.le_refl _), hf90, hS15, hr37⟩
    ·rintro a59 ww16 ⟨z10, y1, k11, hf91, hS17, hr38⟩
     refine w_ret (by kernel_rfl) ?_
     refine p_ret (os := []) (v := .bool y1) (obs := []) hf91 (by kernel_rfl) .nil ?_
     obtain rfl := some_eq hr38
     exact ⟨_, rfl, z10, (Zone.le_trans (Zone.le_trans (Zone.le_trans (Zone.le_trans (Zone.le_trans (Zone.le_trans (Zone.le_trans (Zone.le_trans k1 k3) k4) k5) k6) k7) k8) k9) k11), rfl, (St.drop 2 hS17)⟩
end Go.Proofs.Ytpjmgeajajcceaa
